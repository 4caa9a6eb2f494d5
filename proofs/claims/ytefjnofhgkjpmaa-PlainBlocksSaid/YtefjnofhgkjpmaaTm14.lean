/- Part 14. -/
import Derived.Test.YtefjnofhgkjpmaaTm5
import Derived.Test.YtefjnofhgkjpmaaTm13
import Derived.SizedLaws
set_option linter.unusedVariables false
set_option linter.unusedSimpArgs false
set_option maxRecDepth 100000
set_option maxHeartbeats 4000000
open Go.Addr renaming add_mid → U8
open Go.DataW renaming trod → Y0, trod_array → YA, trod_int → XU, trod_slice → Xv
open Go.Lit renaming int → XF
open Go.Value renaming cells → Xp, int → UE, okWide → Ym
open Go.World renaming cell?_spot → Yz, cells?_some → Yn
open List renaming drop → UQ, drop_eq_nil_of_le → Vb, flatten_cons → Wn, getElem?_append_left → TQ, getElem?_append_right → TO, getElem?_cons_succ → Vg, getElem?_eq_getElem → Ts, getElem?_map → TN, getElem?_of_mem → Ux, getElem?_take → Un, length_append → Tt, length_cons → T3, length_map → TH, length_range → U5, map_cons → Vq, mem_cons_of_mem → TU, mem_cons_self → TP, mem_map → WI, range → Uv, take → UP, take_append_drop → Vo
open Nat renaming add_assoc → UF, add_mul → UN, div_add_mod → YR, div_eq_of_lt → WQ, eq_zero_or_pos → VI, le_add_right → V4, le_refl → TD, le_trans → T6, mod_eq_of_lt → UZ, mod_lt → Xk, mul_comm → Ve, mul_le_mul_right → Ur, mul_one → TZ, zero_le → T7, zero_lt_one → VW
open Option renaming bind_eq_some_iff → WG, map_eq_some_iff → UG
open Prod renaming fst → Ty
open UInt8 renaming ofNat → Um
namespace Go.Vx
open Go.RowKit Go.Bw Go.ChangeShapes Go.WideShapes Go.ChangeAt

inductive Sh
 |int (k:IntKind)
 |bool
 |str
 |bytes
 |sl (e:Sh) (sz:Nat)
 |arr (k:IntKind) (n:Nat)
 |st (l:Sh)
 |nil
 |cons (a b:Sh)
def Sh.size:Sh→Nat
 | .int _=>1
 | .bool=>1
 | .str=>1
 | .bytes=>1
 | .sl _ _=>1
 | .arr _ n=>n
 | .st l=>l.size
 | .nil=>0
 | .cons a b=>a.size+b.size
def Sh.has:Sh→List D→Prop
 | .int k,ds=>∃n,ds=[.v (.int k n)]∧(XF k n).wf=true
 | .bool,ds=>∃b,ds=[.v (.bool b)]
 | .str,ds=>∃s:ByteArray,ds=[.v (.string s)]∧s.size≤maxLen
 | .bytes,ds=>∃bs:List UInt8,ds=[.sl false bs.length 1 (bs.map dB)]∧bs.length≤maxLen
 | .sl e sz,ds=>∃els:List (List D),ds=[.sl false els.length sz els.flatten]∧(∀el∈els,e.has el)∧els.length≤maxLen
 | .arr k n,ds=>∃zs:List Int,ds=zs.map (fun z=>D.v (.int k z))∧zs.length=n∧∀z∈zs,(XF k z).wf=true
 | .st l,ds=>l.has ds
 | .nil,ds=>ds=[]
 | .cons a b,ds=>∃d1 d2,ds=d1++d2∧a.has d1∧b.has d2
mutual
def Sh.ty (P:Program):Sh→TypeId→Prop
 | .int k,t=>P.underlying t=some (.int k)
 | .bool,t=>P.underlying t=some .bool
 | .str,t=>P.underlying t=some .string
 | .bytes,t=>∃te,P.underlying t=some (.slice te)∧P.cellsOf te=1∧P.underlying te=some (.int .u8)
 | .sl e sz,t=>∃te,P.underlying t=some (.slice te)∧P.cellsOf te=sz∧0<sz∧e.size=sz∧e.ty P te
 | .arr k n,t=>∃te,P.underlying t=some (.array n te)∧P.cellsOf te=1∧P.cellsOf t=n∧P.underlying te=some (.int k)
 | .st l,t=>∃fs,P.underlying t=some (.struct fs)∧P.cellsOf t=l.size∧l.fty P 0 fs.toList
 | .nil,_=>False
 | .cons _ _,_=>False
def Sh.fty (P:Program):Sh→Nat→List Field→Prop
 | .nil,_,[]=>True
 | .cons a b,off,f::r=>f.offset=off∧P.cellsOf f.type=a.size∧a.ty P f.type∧b.fty P (off+a.size) r
 |_,_,_=>False
end
def CR (E:Env)(w:World)(ds:List D)(us:List Value):Prop:=us.length=ds.length∧∀(i:Nat) d u,ds[i]? =some d→us[i]? =some u→RD E w d u∧u.oneCell'=true
theorem CR.append {E:Env}{w:World}{d1 d2:List D}{u1 u2:List Value}(h1:CR E w d1 u1)(h2:CR E w d2 u2):CR E w (d1++d2) (u1++u2):=by
 refine⟨by simp[h1.1,h2.1],fun i d u hd hu=>?_⟩
 by_cases hi:i<d1.length
 ·rw[TQ hi]at hd
  rw[TQ (by have:=h1.1;omega)]at hu
  exact h1.2 i d u hd hu
 ·rw[TO (by omega)]at hd
  rw[TO (by have:=h1.1;omega),h1.1]at hu
  exact h2.2 _ d u hd hu
theorem CR.one {E:Env}{w:World}{d:D}{u:Value}(h:RD E w d u)(h1:u.oneCell'=true):CR E w [d] [u]:=⟨rfl,fun i d' u' hd hu=>by
 cases i with
 |zero=>simp at hd hu;subst hd hu;exact⟨h,h1⟩
 |succ i=>simp at hd⟩
theorem CR.nil (E:Env)(w:World):CR E w [] []:=⟨rfl,fun i d u hd=>by simp at hd⟩
theorem CR.flatten {E:Env}{w:World}:∀{els:List (List D)} {vs:List (List Value)},els.length=vs.length→(∀(i:Nat) el v,els[i]? =some el→vs[i]? =some v→CR E w el v)→CR E w els.flatten vs.flatten
 |[],[],_,_=>CR.nil E w
 |e::els,v::vs,hl,h=>by
  rw[Wn,Wn]
  exact(h 0 e v rfl rfl).append (CR.flatten (by simpa using hl) fun i el v' h1 h2=>h (i+1) el v' (by simpa using h1) (by simpa using h2))
 |[],_::_,hl,_=>by simp at hl
 |_::_,[],hl,_=>by simp at hl

section
variable {H:Type} {enc:TypeId×Value→H} {P:Program} {w:World}
theorem eI {α:Type}{sz:Nat}(hs:0<sz):∀{l:List (List α)},(∀x∈l,x.length=sz)→∀i:Nat,l.flatten[i]? =(l[i/sz]?).bind (·[i%sz]?)
 |[],_,i=>by simp
 |x::l,h,i=>by
  rw[Wn]
  have hx:=h x TP
  by_cases hi:i<sz
  ·rw[TQ (by omega),WQ hi,UZ hi];rfl
  ·rw[TO (by omega),eI hs (fun y hy=>h y (TU _ hy)) (i-x.length),hx]
   have e1:i/sz=(i-sz)/sz+1:=by
    rw[←Nat.add_div_right _ hs];congr 1;omega
   have e2:i%sz=(i-sz)%sz:=by
    conv=>lhs;rw[show i=(i-sz)+sz by omega,Nat.add_mod_right]
   rw[e1,e2,Vg]
theorem dn {α:Type}{sz:Nat}:∀{l:List (List α)},(∀x∈l,x.length=sz)→l.flatten.length=l.length*sz
 |[],_=>by simp
 |x::l,h=>by
  rw[Wn,Tt,h x TP,dn (fun y hy=>h y (TU _ hy)),T3,UN];omega
theorem vZ {E:Env}(hE:∀b,¬E.own b){a:Option Addr}{cap:Nat}{bs:List UInt8}(h:iV w a cap bs):RD E w (.sl false bs.length 1 (bs.map dB)) (.slice a bs.length cap):=by
 obtain⟨h1,h2,h3,h4,h5⟩:=h
 refine .sl false bs.length 1 _ a cap (bs.map bv) (by simp) (fun i d u hd hu=>?_) (fun u hu=>?_) (by simp) (VW) ⟨h2,h3⟩ (fun h=>⟨h4 h,rfl⟩) ?_
 ·rw[TN,UG]at hd hu
  obtain⟨x,hx,rfl⟩:=hd
  obtain⟨y,hy,rfl⟩:=hu
  rw[hx]at hy;cases hy
  exact .v _ rfl
 ·simp only[WI]at hu
  obtain⟨x,_,rfl⟩:=hu;rfl
 ·rcases h5 with h|⟨b,off,e,hb,hc⟩
  ·exact .inl h
  ·exact .inr ⟨b,off,e,hb,hE b,hc⟩
theorem gx {α β:Type}{R:α→β→Prop}:∀(l:List α),(∀x∈l,∃y,R x y)→∃m:List β,m.length=l.length∧∀(i:Nat) x y,l[i]? =some x→m[i]? =some y→R x y
 |[],_=>⟨[],rfl,fun i x y h=>by simp at h⟩
 |x::l,h=>by
  obtain⟨y,hy⟩:=h x TP
  obtain⟨m,hl,hm⟩:=gx l fun x hx=>h x (TU _ hx)
  refine⟨y::m,by simp[hl],fun i a b h1 h2=>?_⟩
  cases i with
  |zero=>simp at h1 h2;subst h1 h2;exact hy
  |succ i=>exact hm i a b (by simpa using h1) (by simpa using h2)
theorem rC:∀(els:List (List D)),(∀el∈els,(Sh.int .u8).has el)→∃bs:List UInt8,bs.length=els.length∧els.flatten=bs.map dB
 |[],_=>⟨[],rfl,rfl⟩
 |e::r,h=>by
  obtain⟨bs,h1,h2⟩:=rC r fun el hel=>h el (TU _ hel)
  obtain⟨n,rfl,hw⟩:=h e TP
  refine⟨Um n.toNat::bs,by simp[h1],?_⟩
  rw[Wn,h2,Vq]
  show D.v (.int .u8 n)::bs.map dB=_
  unfold dB
  rw[byte_of n hw]
theorem els_map {α:Type}{f:α→List D}{p:α→Prop}:∀(els:List (List D)),(∀el∈els,∃x,el=f x∧p x)→∃xs:List α,els=xs.map f∧∀x∈xs,p x
 |[],_=>⟨[],rfl,fun x h=>by cases h⟩
 |e::r,h=>by
  obtain⟨xs,h1,h2⟩:=els_map r fun el hel=>h el (TU _ hel)
  obtain⟨x,rfl,hx⟩:=h e TP
  exact⟨x::xs,by simp[h1],fun y hy=>by
   rcases List.mem_cons.1 hy with rfl|hy
   ·exact hx
   ·exact h2 y hy⟩
mutual
theorem Sh.openT:∀(sh:Sh) (t:TypeId) (fuel:Nat) (cs:List Value) (x:DataW H×List MemPlace) (E:Env),(∀b,¬E.own b)→sh.ty P t→Y0 enc P w 0 (fun _=>true) true fuel t cs=some x→∃ds,sh.has ds∧ds.length=sh.size∧CR E w ds cs
 | .int k,t,fuel,cs,x,E,hE,ht,h=>by
  obtain⟨n,rfl,_,hw⟩:=XU ht h
  exact⟨_,⟨n,rfl,hw⟩,rfl,CR.one (.v _ rfl) rfl⟩
 | .bool,t,fuel,cs,x,E,hE,ht,h=>by
  obtain⟨b,rfl,_⟩:=DataW.trod_bool ht h
  exact⟨_,⟨b,rfl⟩,rfl,CR.one (.v _ rfl) rfl⟩
 | .str,t,fuel,cs,x,E,hE,ht,h=>by
  obtain⟨s,rfl,_,hm⟩:=DataW.trod_string ht h
  exact⟨_,⟨s,rfl,hm⟩,rfl,CR.one (.v _ rfl) rfl⟩
 | .bytes,t,fuel,cs,x,E,hE,ht,h=>by
  obtain⟨te,ht,hc,he⟩:=ht
  rcases Xv ht h with⟨rfl,_⟩|⟨a,len,cap,elems,rest,n,_,rfl,_⟩
  ·obtain⟨a,cap,bs,hv,hr⟩:=oj (v:=.slice none 0 0) ht he hc h
   exact⟨[.sl false 0 1 []],⟨[],rfl,T7 _⟩,rfl,CR.one (.sl false 0 1 [] none 0 [] rfl (fun i d u h=>by simp at h) (fun u h=>by cases h) (by simp) VW ⟨TD _,by decide⟩ (fun _=>⟨rfl,rfl⟩) (.inl rfl)) rfl⟩
  ·obtain⟨a,cap,bs,hv,hr⟩:=oj (v:=.slice (some a) len cap) ht he hc h
   cases hv
   have hmx:bs.length≤maxLen:=by
    obtain⟨_,h2,h3,_⟩:=hr
    exact T6 h2 h3
   exact⟨[.sl false bs.length 1 (bs.map dB)],⟨bs,rfl,hmx⟩,rfl,CR.one (vZ hE hr) rfl⟩
 | .sl e sz,t,fuel,cs,x,E,hE,ht,h=>by
  obtain⟨te,ht,hsz,hpos,hes,hte⟩:=ht
  rcases Xv ht h with⟨rfl,_⟩|⟨a,len,cap,elems,rest,n,_,rfl,_,_,hlc,hm,hlen,hel,_,_⟩
  ·refine⟨[.sl false 0 sz []],⟨[],rfl,(fun el h=>by cases h),T7 _⟩,rfl,CR.one ?_ rfl⟩
   exact .sl false 0 sz [] none 0 [] rfl (fun i d u h=>by simp at h) (fun u h=>by cases h) (by simp) hpos ⟨TD _,by decide⟩ (fun _=>⟨rfl,rfl⟩) (.inl rfl)
  ·have hspot0:len=0∨a.spot=none:=by
    rcases VI len with h0|h0
    ·exact .inl h0
    ·right
     have h1:=hel 0 h0
     rw[hsz,Ts (by omega),WG]at h1
     obtain⟨us,hus,_⟩:=h1
     obtain⟨_,q1,q2⟩:=Yn hus
     have:=q2 0 hpos
     rw[Ts (by omega)]at this
     simpa[Addr.add]using Yz this
   rcases hspot0 with rfl|hspot
   ·have hcap:cap≤fY:=hm
    refine⟨[.sl false 0 sz []],⟨[],rfl,(fun el h=>by cases h),T7 _⟩,rfl,CR.one ?_ rfl⟩
    exact .sl false 0 sz [] (some a) cap [] rfl (fun i d u h=>by simp at h) (fun u h=>by cases h) (by simp) hpos ⟨T7 _,hcap⟩ (fun h=>by cases h) (.inl rfl)
   obtain⟨b,off,spot⟩:=a
   have hspot:spot=none:=hspot
   subst hspot
   have each:∀i,i<len→∃us:List Value,us.length=sz∧(∀j,j<sz→w.cell? ⟨b,off+(i*sz+j),none⟩=us[j]?)∧∃ds,e.has ds∧ds.length=sz∧CR E.cl w ds us:=fun i hi=>by
    have h1:=hel i hi
    have hi':i<elems.length:=by omega
    rw[hsz,Ts hi',WG]at h1
    obtain⟨us,hus,hr⟩:=h1
    obtain⟨_,q1,q2⟩:=Yn hus
    obtain⟨ds,q3,q4,q5⟩:=Sh.openT e te n us _ E.cl hE hte hr
    refine⟨us,q1,fun j hj=>?_,ds,q3,q4.trans hes,q5⟩
    rw[←q2 j hj,U8,U8,UF]
   obtain⟨usl,hl1,hu⟩:=gx (Uv len) (R:=fun i us=>us.length=sz∧(∀j,j<sz→w.cell? ⟨b,off+(i*sz+j),none⟩=us[j]?)∧∃ds,e.has ds∧ds.length=sz∧CR E.cl w ds us) fun i hi=>each i (List.mem_range.1 hi)
   obtain⟨els,hl2,hd⟩:=gx usl (R:=fun us ds=>e.has ds∧ds.length=sz∧CR E.cl w ds us) fun us hus=>by
    obtain⟨i,hi⟩:=Ux hus
    have hlt:i<len:=by have:=(List.getElem?_eq_some_iff.1 hi).1;simp at hl1;omega
    exact(hu i i us (by simp[hlt]) hi).2.2
   rw[U5]at hl1
   have hul:∀x∈usl,x.length=sz:=fun us hus=>by
    obtain⟨i,hi⟩:=Ux hus
    have hlt:i<len:=by have:=(List.getElem?_eq_some_iff.1 hi).1;omega
    exact(hu i i us (by simp[hlt]) hi).1
   have hfind:∀{i el},els[i]? =some el→∃us,usl[i]? =some us∧e.has el∧el.length=sz∧CR E.cl w el us:=fun{i el} hi=>by
    have hlt:i<usl.length:=by have:=(List.getElem?_eq_some_iff.1 hi).1;omega
    exact⟨usl[i],Ts hlt,hd i _ el (Ts hlt) hi⟩
   have hel2:∀x∈els,e.has x∧x.length=sz:=fun el hel=>by
    obtain⟨i,hi⟩:=Ux hel
    obtain⟨us,_,q1,q2,_⟩:=hfind hi
    exact⟨q1,q2⟩
   have hcr:CR E.cl w els.flatten usl.flatten:=CR.flatten hl2 fun i el us h1 h2=>(hd i us el h2 h1).2.2
   refine⟨_,⟨els,rfl,fun el hel=>(hel2 el hel).1,by omega⟩,rfl,CR.one ?_ rfl⟩
   have hlen':els.length=len:=by omega
   rw[show els.length=len from hlen']
   have hcap:cap≤fY:=hm
   refine .sl false len sz els.flatten (some ⟨b,off,none⟩) cap usl.flatten hcr.1 (fun i d u h1 h2=>(hcr.2 i d u h1 h2).1) (fun u hu=>?_) (by rw[dn fun x hx=>(hel2 x hx).2,hlen']) hpos ⟨hlc,hcap⟩ (fun h=>by cases h) ?_
   ·obtain⟨i,hi⟩:=Ux hu
    have hlt:i<els.flatten.length:=by have:=(List.getElem?_eq_some_iff.1 hi).1;rw[hcr.1]at this;exact this
    exact(hcr.2 i _ u (Ts hlt) hi).2
   ·rcases VI len with h0|h0
    ·exact .inl h0
    ·right
     have cellat:∀(i:Nat) u,usl.flatten[i]? =some u→w.cell? ⟨b,off+i,none⟩=some u:=fun i u hi=>by
      rw[eI hpos hul,WG]at hi
      obtain⟨us,h1,h2⟩:=hi
      have hlt:i/sz<len:=by have:=(List.getElem?_eq_some_iff.1 h1).1;omega
      have:=(hu (i/sz) (i/sz) us (by simp[hlt]) h1).2.1 (i%sz) (Xk _ hpos)
      rw[h2]at this
      rw[←this];congr 2
      have:=YR i sz
      rw[Ve]at this;omega
     have hlt0:0<usl.flatten.length:=by rw[dn hul,hl1];exact Nat.mul_pos h0 hpos
     have hc0:=cellat 0 _ (Ts hlt0)
     exact⟨b,off,rfl,block_lt_of_cell hc0,hE b,cellat⟩
 | .arr k n,t,fuel,cs,x,E,hE,ht,h=>by
  obtain⟨te,ht,hc,hn,he⟩:=ht
  obtain⟨xs,m,_,_,hl,hx,hel⟩:=YA ht h
  obtain⟨zs,h1,h2⟩:=gx (Uv n) (R:=fun i z=>cs[i]? =some (.int k z)∧(XF k z).wf=true) fun i hi=>by
   have hi:=List.mem_range.1 hi
   have:=hel i hi
   rw[hc,TZ,Ts (by omega)]at this
   obtain⟨z,hz,_,hw⟩:=XU he this
   refine⟨z,?_,hw⟩
   have h3:(UP 1 (UQ i cs))[0]? =some (.int k z):=by rw[hz];rfl
   rw[Un]at h3
   simpa using h3
  rw[U5]at h1
  refine⟨zs.map fun z=>.v (.int k z),⟨zs,rfl,h1,fun z hz=>?_⟩,by rw[TH,h1];rfl,by rw[TH];omega,fun i d u hd hu=>?_⟩
  ·obtain⟨i,hi⟩:=Ux hz
   have hlt:i<n:=by have:=(List.getElem?_eq_some_iff.1 hi).1;omega
   exact(h2 i i z (by simp[hlt]) hi).2
  ·rw[TN,UG]at hd
   obtain⟨z,hz,rfl⟩:=hd
   have hlt:i<n:=by have:=(List.getElem?_eq_some_iff.1 hz).1;omega
   have:=(h2 i i z (by simp[hlt]) hz).1
   rw[hu]at this
   cases this
   exact⟨.v _ rfl,rfl⟩
 | .st l,t,fuel,cs,x,E,hE,ht,h=>by
  obtain⟨fs,ht,hc,hf⟩:=ht
  obtain⟨xs,n,_,_,hl,hxl,hfs⟩:=DataW.trod_struct ht h
  obtain⟨ds,q1,q2,q3⟩:=Sh.openF l 0 fs.toList n cs E hE hf (by omega) fun f hf=>by
   obtain⟨i,hi⟩:=Ux hf
   have hi':fs[i]? =some f:=by simpa using hi
   have hlt:i<xs.length:=by have:=(List.getElem?_eq_some_iff.1 hi).1;simp at this;omega
   exact⟨_,(hfs i f hi').trans (Ts hlt)⟩
  exact⟨ds,q1,q2,by simpa using q3⟩
 | .nil,_,_,_,_,_,_,ht,_=>ht.elim
 | .cons _ _,_,_,_,_,_,_,ht,_=>ht.elim
theorem Sh.openF:∀(l:Sh) (off:Nat) (fs:List Field) (n:Nat) (cs:List Value) (E:Env),(∀b,¬E.own b)→l.fty P off fs→cs.length=off+l.size→(∀f∈fs,∃x,Y0 enc P w 0 (fun _=>true) true n f.type ((cs.drop f.offset).take (P.cellsOf f.type))=some x)→∃ds,l.has ds∧ds.length=l.size∧CR E w ds (cs.drop off)
 | .nil,off,[],n,cs,E,hE,hf,hl,h=>⟨[],rfl,rfl,by rw[Vb (by simp only[Sh.size]at hl;omega)];exact CR.nil E w⟩
 | .cons a b,off,f::r,n,cs,E,hE,hf,hl,h=>by
  obtain⟨ho,hc,ha,hb⟩:=hf
  simp only[Sh.size]at hl
  obtain⟨x,hx⟩:=h f TP
  rw[ho,hc]at hx
  obtain⟨d1,p1,p2,p3⟩:=Sh.openT a f.type n _ x E hE ha hx
  obtain⟨d2,q1,q2,q3⟩:=Sh.openF b (off+a.size) r n cs E hE hb (by omega) fun g hg=>h g (TU _ hg)
  refine⟨d1++d2,⟨d1,d2,rfl,p1,q1⟩,by simp only[Tt,p2,q2,Sh.size],?_⟩
  have e:cs.drop off=(cs.drop off).take a.size++cs.drop (off+a.size):=by rw[←List.drop_drop];exact(Vo _ _).symm
  rw[e]
  exact p3.append q3
 | .nil,_,_::_,_,_,_,_,hf,_,_=>hf.elim
 | .cons _ _,_,[],_,_,_,_,hf,_,_=>hf.elim
 | .int _,_,_,_,_,_,_,hf,_,_=>by cases hf
 | .bool,_,_,_,_,_,_,hf,_,_=>by cases hf
 | .str,_,_,_,_,_,_,hf,_,_=>by cases hf
 | .bytes,_,_,_,_,_,_,hf,_,_=>by cases hf
 | .sl _ _,_,_,_,_,_,_,hf,_,_=>by cases hf
 | .arr _ _,_,_,_,_,_,_,hf,_,_=>by cases hf
 | .st _,_,_,_,_,_,_,hf,_,_=>by cases hf
end
def Sh.simple:Sh→Bool
 | .arr _ _=>false
 | .st _=>false
 | .nil=>false
 | .cons _ _=>false
 |_=>true
def Sh.hasV:Sh→D→Prop
 | .st l,d=>∃ds,d= .agg ds∧l.has ds
 | .arr k n,d=>∃zs:List Int,d= .agg (zs.map (fun z=>D.v (.int k z)))∧zs.length=n∧∀z∈zs,(XF k z).wf=true
 | .int k,d=>∃n,d= .v (.int k n)∧(XF k n).wf=true
 | .bool,d=>∃b,d= .v (.bool b)
 | .str,d=>∃s:ByteArray,d= .v (.string s)∧s.size≤maxLen
 | .bytes,d=>∃bs:List UInt8,d= .sl false bs.length 1 (bs.map dB)∧bs.length≤maxLen
 | .sl e sz,d=>∃els:List (List D),d= .sl false els.length sz els.flatten∧(∀el∈els,e.has el)∧els.length≤maxLen
 |_,_=>False
theorem Sh.hasV_of {sh:Sh}{d:D}(h:sh.has [d])(hs:sh.size=1)(hn:sh.simple=true):sh.hasV d:=by
 cases sh with
 |int k=>obtain⟨n,e,h⟩:=h;exact⟨n,(List.cons.inj e).1,h⟩
 |bool=>obtain⟨n,e⟩:=h;exact⟨n,(List.cons.inj e).1⟩
 |str=>obtain⟨n,e,h⟩:=h;exact⟨n,(List.cons.inj e).1,h⟩
 |bytes=>obtain⟨n,e,h⟩:=h;exact⟨n,(List.cons.inj e).1,h⟩
 |sl e sz=>obtain⟨n,e,h⟩:=h;exact⟨n,(List.cons.inj e).1,h⟩
 |_=>cases hn
theorem Sh.openV {sh:Sh}{t:TypeId}{v:Value}{r:Reach}{base:Nat}(ht:sh.ty P t)(o:Ym P w r base t v)(h:Bw.Tr enc P w t v){E:Env}(hE:∀b,¬E.own b):∃d,sh.hasV d∧RD E w d v:=by
 obtain⟨dd,p,fuel,hf⟩:=h
 have one:∀{sh:Sh},v.cells= #[v]→sh.size=1→sh.simple=true→sh.ty P t→∃d,sh.hasV d∧RD E w d v:=fun{sh} hv hs hn ht=>by
  obtain⟨ds,h1,h2,h3⟩:=Sh.openT sh t fuel _ _ E hE ht hf
  rw[hv]at h3
  rw[hs]at h2
  match ds,h2 with
  |[d],_=>exact⟨d,Sh.hasV_of h1 hs hn,(h3.2 0 d v rfl rfl).1⟩
 cases sh with
 |int k=>obtain⟨n,rfl⟩:=okWide_int ht o;exact one (sh:=.int k) rfl rfl rfl ht
 |bool=>obtain⟨b,rfl⟩:=okWide_bool ht o;exact one (sh:=.bool) rfl rfl rfl ht
 |str=>obtain⟨b,rfl⟩:=okWide_string ht o;exact one (sh:=.str) rfl rfl rfl ht
 |bytes=>
  obtain⟨te,h1,h2⟩:=ht
  obtain⟨a,len,cap,rfl⟩:=okWide_slice h1 o
  exact one (sh:=.bytes) rfl rfl rfl ⟨te,h1,h2⟩
 |sl e sz=>
  obtain⟨te,h1,h2⟩:=ht
  obtain⟨a,len,cap,rfl⟩:=okWide_slice h1 o
  exact one (sh:=.sl e sz) rfl rfl rfl ⟨te,h1,h2⟩
 |arr k n=>
  obtain⟨te,g1,g2,g3,g4⟩:=ht
  obtain⟨zs,rfl,q1,q2⟩:=vY g1 g4 g2 g3 o ⟨dd,p,fuel,hf⟩
  refine⟨.agg (zs.map fun z=>.v (.int k z)),⟨zs,rfl,q1,q2⟩,?_⟩
  exact RD.agg (E:=E) (w:=w) _ (zs.map fun z=>UE k z) (by simp) (fun i d u a b=>by
   rw[TN,UG]at a b
   obtain⟨z,hz,rfl⟩:=a
   obtain⟨y,hy,rfl⟩:=b
   rw[hz]at hy;cases hy
   exact .v _ rfl) fun u hu=>by
   obtain⟨z,_,rfl⟩:=List.mem_map.1 hu;rfl
 |st l=>
  obtain⟨fs,h1,h2⟩:=ht
  obtain⟨cs,rfl,_⟩:=okWide_struct h1 o
  obtain⟨ds,q1,q2,q3⟩:=Sh.openT (.st l) t fuel _ _ E hE ⟨fs,h1,h2⟩ hf
  refine⟨.agg ds,⟨ds,rfl,q1⟩,?_⟩
  have:=RD.agg (E:=E) (w:=w) ds cs.toList q3.1 (fun i d u a b=>(q3.2 i d u a b).1) fun u hu=>by
   obtain⟨i,hi⟩:=Ux hu
   have hlt:i<ds.length:=by have:=(List.getElem?_eq_some_iff.1 hi).1;have:=q3.1;simp[Xp]at this;simp at *;omega
   exact(q3.2 i _ u (Ts hlt) hi).2
  simpa using this
 |nil=>exact ht.elim
 |cons a b=>exact ht.elim
def E0:Env:=eW (fun _=>False) (fun _=>none) 0
theorem E0_own:∀b,¬E0.own b:=fun b h=>by
 rcases h with h|⟨j,hj,_⟩
 ·exact h
 ·cases hj
theorem rd_nil (w:World):∀(j:Nat) d u,([]:List D)[j]? =some d→([]:List Value)[j]? =some u→RD E0 w d u:=fun j d u h=>by simp at h
theorem rd_cons {d:D}{v:Value}{ds:List D}{vs:List Value}(h:RD E0 w d v)(k:∀(j:Nat) d u,ds[j]? =some d→vs[j]? =some u→RD E0 w d u):∀(j:Nat) d' u,(d::ds)[j]? =some d'→(v::vs)[j]? =some u→RD E0 w d' u:=fun j d' u h1 h2=>by
 cases j with
 |zero=>simp at h1 h2;subst h1 h2;exact h
 |succ j=>exact k j d' u (by simpa using h1) (by simpa using h2)
theorem SpecH.gives {f:FuncId}{ds:List D}{c:Value}(h:SpecH false P f ds [] (.v c) []){args:List Value}(hl:args.length=ds.length)(ha:∀(j:Nat) d u,ds[j]? =some d→args[j]? =some u→RD E0 w d u):Calls P f args.toArray w (Gives w c):=by
 refine(h.2 (fun _=>False) (fun _=>none) w args (fun x hx=>hx.elim) (fun j b hb=>by simp at hb) (fun i j x hi=>by cases hi) hl ha).mono ?_
 rintro e w' ⟨u,rfl,hfr,φ,_,hr,_⟩
 cases hr with
 |v c h=>exact⟨rfl,(hfr.mono (M':=fun k=>w.heap.size≤k) fun x hx=>by
   rcases hx with hx|⟨j,hj,_⟩
   ·exact hx
   ·cases hj).below⟩
theorem Lo {ts:List TypeId}{ds:List (DataW H)}(h:(DataW.weightsEach P ts ds).all (· ≤reachBytes)=true){j:Nat}{t e:TypeId}{d:DataW H}{v:Value}{p:List MemPlace}(ht:ts[j]? =some t)(hd:ds[j]? =some d)(hu:P.underlying t=some (.slice e))
  (hr:DataW.Trod enc P w 0 (fun _=>true) true t v d p) {a:Option Addr} {len cap:Nat} (hv:v= .slice a len cap):len*P.bytesOf e≤reachBytes:=by
 subst hv
 obtain⟨fuel,hf⟩:=hr
 rcases Xv hu hf with⟨h0,_⟩|⟨a',len',cap',elems,rest,n,_,hcs,hx,_,_,_,hlen,_⟩
 ·have h0:Value.slice a len cap= .slice none 0 0:=(List.cons.inj h0).1
  cases h0
  omega
 ·have hcs:Value.slice a len cap= .slice (some a') len' cap':=(List.cons.inj hcs).1
  cases hcs
  have hd':d= .slice (elems.map (·.1)) (rest.map (·.1)):=congrArg Ty hx
  subst hd'
  have:=sized_slice h ht hd hu
  simp only[TH,hlen]at this
  have h2:len*P.bytesOf e≤(len+rest.length)*P.bytesOf e:=Ur _ (V4 _ _)
  omega
end
end Go.Vx

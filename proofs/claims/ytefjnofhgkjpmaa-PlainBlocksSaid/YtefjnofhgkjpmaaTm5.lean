/- Part 5. -/
import Derived.Test.YtefjnofhgkjpmaaTm4
import Derived.Test.YtefjnofhgkjpmaaRows
set_option linter.unusedVariables false
set_option linter.unusedSimpArgs false
set_option maxRecDepth 100000
set_option maxHeartbeats 4000000
open And renaming intro → Ut
open Array renaming replicate → W7
open Bool renaming and_eq_true → Tw, and_true → Uh
open ByteArray renaming mk → VN
open Go.Fn renaming func → Ui
open Go.IntKind renaming i64 → Uf
open Go.Vx.Blk renaming mk → Tq
open Go.Vx.CallOk renaming fn → TW
open Go.Vx.CutS renaming mk → TJ
open Go.Vx.D renaming agg → UA, fn → U9, ptr → TF, ref → Tu, sl → TL, tup → Uw
open Inhabited renaming default → mb
open Int renaming mul_one → YM, toNat → zK
open List renaming any_eq_true → Xx, append_assoc → TG, append_nil → Ue, cons_append → V5, drop_eq_getElem_cons → UK, drop_eq_nil_of_le → Vb, ext_getElem? → Uu, filter_append → US, filter_cons → YG, filter_nil → YU, flatMap_cons → UC, getD_eq_getElem?_getD → To, getElem?_append_left → TQ, getElem?_append_right → TO, getElem?_drop → UM, getElem?_eq_getElem → Ts, getElem?_eq_none → TY, getElem?_of_mem → Ux, getElem?_take → Un, getElem_mem → Uo, length_append → Tt, length_cons → T3, length_filter_le → Wk, length_replicate → T4, map → VO, map_append → Uq, map_drop → Xt, map_take → Wg, mem_of_getElem? → UB, mem_of_mem_drop → Wp, mem_of_mem_take → U1, range → Uv, range_succ → Wf, replicate → TK, replicate_succ' → XS, take_append → YF, take_of_length_le → T9, take_succ_cons → X8
open Nat renaming add_mul → UN, add_zero → VD, beq → Tx, beq_refl → Uz, ble → Tz, ble_eq_true_of_le → Tv, eq_of_beq_eq_true → TB, le_refl → TD, le_trans → T6, lt_or_ge → T5, mod_lt → Xk, mul_le_mul_left → V8, mul_le_mul_right → Ur, mul_one → TZ, pow_le_pow_right → TX, pow_succ → Us, succ_le_succ → Vy, succ_mul → XE, succ_ne_zero → VJ, two_pow_pos → UY, zero_add → T0, zero_le → T7, zero_lt_one → VW, zero_mul → Vd
open Prod renaming fst → Ty, snd → Tm
open UInt8 renaming ofNat → Um, toNat → Tp, toNat_ofNat' → U6
namespace Go.Vx
open Go.RowKit Go.Bw
theorem ay {A B:List D}{e:TypeId}{r:Bool}(h:A=B):Tq A e r=Tq B e r:=by rw[h]
theorem D.sim.tup {l l':List D}(h:cj l l'):(Uw l).sim (.tup l'):=fun E w u hr=>by
 obtain⟨h1,h2⟩:=h.get
 cases hr with
 |tup _ us hlen hd=>
  refine .tup _ us (by rw[hlen,h1]) fun i d u a b=>?_
  obtain⟨d0,c1,c2⟩:=h2 i d a
  exact c2 _ _ _ (hd i d0 u c1 b)
theorem D.sim.ifc {t:TypeId}{x x':D}(h:x.sim x'):(D.ifc t x).sim (.ifc t x'):=fun E w u hr=>by
 cases hr with
 |ifc _ _ u hx=>exact .ifc _ _ u (h _ _ _ hx)
theorem cn {α:Type}{c:Bool}{a b:α}(h:c=true):cond c a b=a:=by rw[h];rfl
theorem lb (k:IntKind)(m n:Int):lU k true m n=some (.v (.int k (max m n))):=EX rfl
theorem eZ {b:Bool}(h:(!b)=true):b=false:=by cases b<;>simp_all
theorem e9 {b:Bool}(h:(!b)=false):b=true:=by cases b<;>simp_all
theorem bl {a b:Bool}(h:(a&&b)=true):a=true:=by cases a<;>simp_all
theorem ac {a b:Bool}(h:(a&&b)=true):b=true:=by cases a<;>simp_all
theorem GP {a b:Bool}(h:a=b):D.v (.bool a)=D.v (.bool b):=by rw[h]
theorem aJ {a b:Bool}(h1:a=true)(h2:b=true):(a&&b)=true:=by rw[h1,h2];rfl
theorem fx {a b:Nat}(h:a=b):Tx a b=true:=by rw[h];exact Uz b
theorem iG (b:UInt8){m n:Int}(hm:m≤0)(hn:255≤n):m≤(b.toNat:Int)∧(b.toNat:Int)≤n:=by
 have:=b.toNat_lt
 constructor<;>omega
theorem aT {k:IntKind}{a b:Int}(h:a=b):D.v (.int k a)=D.v (.int k b):=by rw[h]
theorem oX {α:Type}[Inhabited α]{l:List α}{i:Nat}(h:i<l.length):l.take (i+1)=l.take i++[l.getD i mb]:=by
 rw[List.take_add_one,Ts h];simp[h]
theorem jT {l:List D}(h:af l=true)(n:Nat):af (l.take n)=true:=bL.2 fun d hd=>bL.1 h d (U1 hd)
theorem xZ {l:List D}(h:af l=true)(n:Nat):af (l.drop n)=true:=bL.2 fun d hd=>bL.1 h d (Wp hd)
theorem Nb (bs:List UInt8)(n:Nat):af ((bs.map dB).take n)=true:=jT (du bs) n
theorem Nc (bs:List UInt8)(n:Nat):af ((bs.map dB).drop n)=true:=xZ (du bs) n
theorem lc (c:Bool)(a b:List D):af (cond c a b)=cond c (af a) (af b):=by cases c<;>rfl
theorem Ca (a b:List D):af (a++b)=(af a&&af b):=by
 induction a with
 |nil=>rfl
 |cons x a ih=>show(x.closed&&af (a++b))=_;rw[ih,←Bool.and_assoc];rfl
theorem bE {α:Type}[BEq α][LawfulBEq α]{a b:α}(h:(a !=b)=true):a≠b:=by simpa using h
theorem bF {α:Type}[BEq α][LawfulBEq α]{a b:α}(h:(a !=b)=false):a=b:=by simpa using h
theorem am {α:Type}[BEq α][LawfulBEq α]{a b:α}(h:(a==b)=false):a≠b:=by simpa using h
theorem hD (l:List UInt8):(VN l.toArray).toList=l:=by rw[ByteArray.toList_eq]
theorem zU (a b:List UInt8):VN a.toArray++VN b.toArray=VN (a++b).toArray:=by
 apply ByteArray.ext
 simp
theorem EY (a:List UInt8):(VN a.toArray).size=a.length:=rfl
theorem ww {α:Type}[Inhabited α]{f:α→List D}{k:Nat}(hk:∀x,(f x).length=k):∀{xs:List α} {i j:Nat},i<xs.length→j<k→(xs.flatMap f)[i*k+j]? =(f (xs.getD i mb))[j]?
 |[],i,j,h,_=>by simp at h
 |x::xs,0,j,h,hj=>by
  rw[UC,Vd,T0,TQ (by rw[hk];exact hj)];rfl
 |x::xs,i+1,j,h,hj=>by
  rw[UC,TO (by rw[hk,UN];omega),hk]
  have e:(i+1)*k+j-k=i*k+j:=by rw[UN];omega
  rw[e,ww hk (by simpa using h) hj];rfl
theorem GQ {α:Type}[Inhabited α]{f:α→List D}{k:Nat}(hk:∀x,(f x).length=k){xs:List α}{i n j:Nat}{d:D}(h:i<xs.length)(e:n=i*k+j)(hj:(f (xs.getD i mb))[j]? =some d):(xs.flatMap f)[n]? =some d:=by
 have hlt:j<k:=by rw[←hk (xs.getD i mb)];exact(List.getElem?_eq_some_iff.1 hj).1
 rw[e,ww hk h hlt];exact hj
theorem a9 {α:Type}{f:α→List D}{k:Nat}(hk:∀x,(f x).length=k):∀(xs:List α),(xs.flatMap f).length=xs.length*k
 |[]=>by simp
 |x::xs=>by rw[UC,Tt,hk,a9 hk xs,T3,UN];omega
theorem aB {α:Type}[Inhabited α]{f:α→List D}{k:Nat}(hk:∀x,(f x).length=k){xs:List α}{i n:Nat}(h:i<xs.length)(e:n=i*k):((xs.flatMap f).drop n).take k=f (xs.getD i mb):=by
 apply Uu
 intro j
 rw[Un]
 by_cases hj:j<k
 ·rw[if_pos hj,UM,e,ww hk h hj]
 ·rw[if_neg hj,TY (by rw[hk];omega)]
theorem cO (bs:List UInt8)(off m:Nat):(bif Tx off 0&&Tx m (bs.map dB).length then bs.map dB else((bs.map dB).drop off).take m)=((bs.drop off).take m).map dB:=by
 cases h:Tx off 0&&Tx m (bs.map dB).length with
 |true=>
  have h1:=TB (bl h)
  have h2:=TB (ac h)
  subst h1 h2
  simp
 |false=>rw[cond_false,Wg,Xt]
theorem D.sim.nil {sz:Nat}(h:0<sz):(D.v (.slice none 0 0)).sim (.sl false 0 sz []):=fun E w u hr=>by
 cases hr with
 |v=>exact .sl false 0 sz [] none 0 [] rfl (by simp) (by simp) (by simp) h ⟨TD _,T7 _⟩ (fun _=>⟨rfl,rfl⟩) (.inl rfl)
theorem D.sim.slc {nn:Bool}{n n' sz:Nat}{cells cells':List D}(h1:n=n')(h2:cj cells cells'):(TL nn n sz cells).sim (.sl false n' sz cells'):=by
 subst h1
 intro E w u h
 obtain⟨e,g⟩:=h2.get
 cases h with
 |sl _ _ _ _ a c us hlen hd h1 hn hs hc h0 hr=>
  refine .sl false n sz cells' a c us (by rw[hlen,e]) (fun i d' u a1 a2=>?_) h1 (by rw[←e,hn]) hs hc (fun h=>⟨(h0 h).1,rfl⟩) hr
  obtain⟨d,b1,b2⟩:=g i d' a1
  exact b2 _ _ _ (hd i d u b1 a2)
theorem fy {α:Type}{f:α→List D}(h:∀x,af (f x)=true):∀l:List α,af (l.flatMap f)=true
 |[]=>rfl
 |x::l=>by rw[UC,Ca,h x,fy h l];rfl
theorem iT {α:Type}{f:α→List D}(h:∀x,xS (f x)=true)(l:List α):xS (l.flatMap f)=true:=jP.2 fun d hd=>by
 obtain⟨t,_,hd⟩:=List.mem_flatMap.1 hd
 exact jP.1 (h t) d hd
theorem x7 {α:Type}{f:α→List D}{k:Nat}(hk:∀x,(f x).length=k):∀(xs:List α) (i:Nat),(xs.flatMap f).take (i*k)=(xs.take i).flatMap f
 |[],i=>by simp
 |x::xs,0=>by simp
 |x::xs,i+1=>by
  rw[UC,X8,UC,YF,hk,T9 (by rw[hk,UN];omega),show(i+1)*k-k=i*k from by rw[UN];omega,x7 hk xs i]
theorem Nd (b:UInt8):(dB b).closed=true:=rfl
attribute [simp] hD zU EY
attribute [simp] cY il zw nr aZ dl bg nY SB SC Q7 af D.closed du Nb Nc lc Ca jT xZ fy Nd dJ bT rZ
end Go.Vx
namespace Go.Proofs.Ytefjnofhgkjpmaa
open Go.Vx

def SJ:TI:=⟨.int .i64,.int .i64 0,1,8,false⟩
def SK:TI:=⟨.int .i64,.int .i64 0,1,8,false⟩
def SL:TI:=⟨.bool,.bool false,1,1,false⟩
def EZ:TI:=⟨.int .u8,.int .u8 0,1,1,false⟩
def SM:TI:=⟨.string,.string ⟨#[]⟩,1,16,false⟩
def Nf:TI:=⟨.int .u64,.int .u64 0,1,8,false⟩
def Ng:TI:=⟨.pointer 233,.pointer none,1,8,false⟩
def Nh:TI:=⟨.pointer 236,.pointer none,1,8,false⟩
def Nj:TI:=⟨.pointer 244,.pointer none,1,8,false⟩
def Nk:TI:=⟨.interface #[],.nilIface,1,16,false⟩
def Nl:TI:=⟨.int .i32,.int .i32 0,1,4,false⟩
def Nn:TI:=⟨.struct #[⟨"Size",3,0,false, "", "",0⟩,⟨"Chain",3,1,false, "", "",8⟩,⟨"Most",3,2,false, "", "",16⟩,⟨"Lazy",4,3,false, "", "",24⟩],.agg #[.int .i64 0,.int .i64 0,.int .i64 0,.bool false],4,32,true⟩
def No:TI:=⟨.struct #[⟨"Size",3,0,false, "", "",0⟩,⟨"Chain",3,1,false, "", "",8⟩,⟨"Most",3,2,false, "", "",16⟩,⟨"Lazy",4,3,false, "", "",24⟩],.agg #[.int .i64 0,.int .i64 0,.int .i64 0,.bool false],4,32,true⟩
def Np:TI:=⟨.slice 5,.slice none 0 0,1,24,false⟩
def Nq:TI:=⟨.struct #[⟨"Bytes",24,0,false, "", "",0⟩,⟨"Bits",3,1,false, "", "",24⟩],.agg #[.slice none 0 0,.int .i64 0],2,32,false⟩
def Nr:TI:=⟨.struct #[⟨"Bytes",24,0,false, "", "",0⟩,⟨"Bits",3,1,false, "", "",24⟩],.agg #[.slice none 0 0,.int .i64 0],2,32,false⟩
def Ns:TI:=⟨.struct #[⟨"Style",23,0,false, "", "",0⟩,⟨"Hist",24,4,false, "", "",32⟩,⟨"Wait",24,5,false, "", "",56⟩,⟨"Pen",26,6,false, "", "",80⟩,⟨"Over",4,8,false, "", "",112⟩],.agg #[.int .i64 0,.int .i64 0,.int .i64 0,.bool false,.slice none 0 0,.slice none 0 0,.slice none 0 0,.int .i64 0,.bool false],9,120,false⟩
def Nt:TI:=⟨.struct #[⟨"Style",23,0,false, "", "",0⟩,⟨"Hist",24,4,false, "", "",32⟩,⟨"Wait",24,5,false, "", "",56⟩,⟨"Pen",26,6,false, "", "",80⟩,⟨"Over",4,8,false, "", "",112⟩],.agg #[.int .i64 0,.int .i64 0,.int .i64 0,.bool false,.slice none 0 0,.slice none 0 0,.slice none 0 0,.int .i64 0,.bool false],9,120,false⟩
def Nu:TI:=⟨.int .i64,.int .i64 0,1,8,false⟩
def Nv:TI:=⟨.slice 50,.slice none 0 0,1,24,false⟩
def Nw:TI:=⟨.array 16 3,.agg #[.int .i64 0,.int .i64 0,.int .i64 0,.int .i64 0,.int .i64 0,.int .i64 0,.int .i64 0,.int .i64 0,.int .i64 0,.int .i64 0,.int .i64 0,.int .i64 0,.int .i64 0,.int .i64 0,.int .i64 0,.int .i64 0],16,128,true⟩
def Ny:TI:=⟨.slice 3,.slice none 0 0,1,24,false⟩
def Nz:TI:=⟨.struct #[⟨"Count",40,0,false, "", "",0⟩,⟨"Syms",41,16,false, "", "",128⟩],.agg #[.int .i64 0,.int .i64 0,.int .i64 0,.int .i64 0,.int .i64 0,.int .i64 0,.int .i64 0,.int .i64 0,.int .i64 0,.int .i64 0,.int .i64 0,.int .i64 0,.int .i64 0,.int .i64 0,.int .i64 0,.int .i64 0,.slice none 0 0],17,152,false⟩
def NA:TI:=⟨.struct #[⟨"Count",40,0,false, "", "",0⟩,⟨"Syms",41,16,false, "", "",128⟩],.agg #[.int .i64 0,.int .i64 0,.int .i64 0,.int .i64 0,.int .i64 0,.int .i64 0,.int .i64 0,.int .i64 0,.int .i64 0,.int .i64 0,.int .i64 0,.int .i64 0,.int .i64 0,.int .i64 0,.int .i64 0,.int .i64 0,.slice none 0 0],17,152,false⟩
def NB:TI:=⟨.struct #[⟨"Kind",5,0,false, "", "",0⟩,⟨"Last",4,1,false, "", "",1⟩,⟨"Left",3,2,false, "", "",8⟩,⟨"Longs",43,3,false, "", "",16⟩,⟨"Fars",43,20,false, "", "",168⟩],.agg #[.int .u8 0,.bool false,.int .i64 0,.int .i64 0,.int .i64 0,.int .i64 0,.int .i64 0,.int .i64 0,.int .i64 0,.int .i64 0,.int .i64 0,.int .i64 0,.int .i64 0,.int .i64 0,.int .i64 0,.int .i64 0,.int .i64 0,.int .i64 0,.int .i64 0,.slice none 0 0,.int .i64 0,.int .i64 0,.int .i64 0,.int .i64 0,.int .i64 0,.int .i64 0,.int .i64 0,.int .i64 0,.int .i64 0,.int .i64 0,.int .i64 0,.int .i64 0,.int .i64 0,.int .i64 0,.int .i64 0,.int .i64 0,.slice none 0 0],37,320,false⟩
def NC:TI:=⟨.struct #[⟨"Kind",5,0,false, "", "",0⟩,⟨"Last",4,1,false, "", "",1⟩,⟨"Left",3,2,false, "", "",8⟩,⟨"Longs",43,3,false, "", "",16⟩,⟨"Fars",43,20,false, "", "",168⟩],.agg #[.int .u8 0,.bool false,.int .i64 0,.int .i64 0,.int .i64 0,.int .i64 0,.int .i64 0,.int .i64 0,.int .i64 0,.int .i64 0,.int .i64 0,.int .i64 0,.int .i64 0,.int .i64 0,.int .i64 0,.int .i64 0,.int .i64 0,.int .i64 0,.int .i64 0,.slice none 0 0,.int .i64 0,.int .i64 0,.int .i64 0,.int .i64 0,.int .i64 0,.int .i64 0,.int .i64 0,.int .i64 0,.int .i64 0,.int .i64 0,.int .i64 0,.int .i64 0,.int .i64 0,.int .i64 0,.int .i64 0,.int .i64 0,.slice none 0 0],37,320,false⟩
def ND:TI:=⟨.struct #[⟨"Lit",5,0,false, "", "",0⟩,⟨"Dist",3,1,false, "", "",8⟩,⟨"Long",3,2,false, "", "",16⟩],.agg #[.int .u8 0,.int .i64 0,.int .i64 0],3,24,true⟩
def NE:TI:=⟨.struct #[⟨"Lit",5,0,false, "", "",0⟩,⟨"Dist",3,1,false, "", "",8⟩,⟨"Long",3,2,false, "", "",16⟩],.agg #[.int .u8 0,.int .i64 0,.int .i64 0],3,24,true⟩
def NF:TI:=⟨.pointer 62,.pointer none,1,8,false⟩
def NG:TI:=⟨.struct #[⟨"Press",28,0,true, "", "",0⟩,⟨"out",24,9,false, "", "bellows/press",120⟩],.agg #[.int .i64 0,.int .i64 0,.int .i64 0,.bool false,.slice none 0 0,.slice none 0 0,.slice none 0 0,.int .i64 0,.bool false,.slice none 0 0],10,144,false⟩
def NH:TI:=⟨.struct #[⟨"Press",28,0,true, "", "",0⟩,⟨"out",24,9,false, "", "bellows/press",120⟩],.agg #[.int .i64 0,.int .i64 0,.int .i64 0,.bool false,.slice none 0 0,.slice none 0 0,.slice none 0 0,.int .i64 0,.bool false,.slice none 0 0],10,144,false⟩
def NI:TI:=⟨.pointer 78,.pointer none,1,8,false⟩
def NJ:TI:=⟨.slice 81,.slice none 0 0,1,24,false⟩
def NK:TI:=⟨.struct #[⟨"l",76,0,false, "", "bellows/block",0⟩],.agg #[.slice none 0 0],1,24,false⟩
def NL:TI:=⟨.struct #[⟨"l",76,0,false, "", "bellows/block",0⟩],.agg #[.slice none 0 0],1,24,false⟩
def NM:TI:=⟨.int .u32,.int .u32 0,1,4,false⟩
def NN:TI:=⟨.struct #[⟨"v",79,0,false, "", "bellows/block",0⟩,⟨"n",3,1,false, "", "bellows/block",8⟩],.agg #[.int .u32 0,.int .i64 0],2,16,true⟩
def NO:TI:=⟨.struct #[⟨"v",79,0,false, "", "bellows/block",0⟩,⟨"n",3,1,false, "", "bellows/block",8⟩],.agg #[.int .u32 0,.int .i64 0],2,16,true⟩
def NP:TI:=⟨.pointer 88,.pointer none,1,8,false⟩
def NQ:TI:=⟨.struct #[⟨"b",24,0,false, "", "bellows/plain",0⟩,⟨"at",3,1,false, "", "bellows/plain",24⟩,⟨"e",31,2,false, "", "bellows/plain",32⟩],.agg #[.slice none 0 0,.int .i64 0,.int .i64 0],3,40,false⟩
def NR:TI:=⟨.struct #[⟨"b",24,0,false, "", "bellows/plain",0⟩,⟨"at",3,1,false, "", "bellows/plain",24⟩,⟨"e",31,2,false, "", "bellows/plain",32⟩],.agg #[.slice none 0 0,.int .i64 0,.int .i64 0],3,40,false⟩
def GR:TI:=⟨.pointer 113,.pointer none,1,8,false⟩
def GS:TI:=⟨.struct #[⟨"Pen",26,0,true, "", "",0⟩],.agg #[.slice none 0 0,.int .i64 0],2,32,false⟩
def GU:TI:=⟨.struct #[⟨"Pen",26,0,true, "", "",0⟩],.agg #[.slice none 0 0,.int .i64 0],2,32,false⟩
def GV:TI:=⟨.pointer 45,.pointer none,1,8,false⟩
def GW:TI:=⟨.array 3 5,.agg #[.int .u8 0,.int .u8 0,.int .u8 0],3,3,true⟩
def GX:TI:=⟨.struct #[⟨"Lit",5,0,false, "", "",0⟩,⟨"Dist",3,1,false, "", "",8⟩,⟨"Long",3,2,false, "", "",16⟩],.agg #[.int .u8 0,.int .i64 0,.int .i64 0],3,24,true⟩
def GY:TI:=⟨.array 286 3,.agg (W7 286 (.int .i64 0)),286,2288,true⟩
def GZ:TI:=⟨.array 30 3,.agg #[.int .i64 0,.int .i64 0,.int .i64 0,.int .i64 0,.int .i64 0,.int .i64 0,.int .i64 0,.int .i64 0,.int .i64 0,.int .i64 0,.int .i64 0,.int .i64 0,.int .i64 0,.int .i64 0,.int .i64 0,.int .i64 0,.int .i64 0,.int .i64 0,.int .i64 0,.int .i64 0,.int .i64 0,.int .i64 0,.int .i64 0,.int .i64 0,.int .i64 0,.int .i64 0,.int .i64 0,.int .i64 0,.int .i64 0,.int .i64 0],30,240,true⟩
def G0:TI:=⟨.slice 150,.slice none 0 0,1,24,false⟩
def G1:TI:=⟨.array 19 3,.agg #[.int .i64 0,.int .i64 0,.int .i64 0,.int .i64 0,.int .i64 0,.int .i64 0,.int .i64 0,.int .i64 0,.int .i64 0,.int .i64 0,.int .i64 0,.int .i64 0,.int .i64 0,.int .i64 0,.int .i64 0,.int .i64 0,.int .i64 0,.int .i64 0,.int .i64 0],19,152,true⟩
def G2:TI:=⟨.struct #[⟨"Sym",3,0,false, "", "",0⟩,⟨"Extra",3,1,false, "", "",8⟩],.agg #[.int .i64 0,.int .i64 0],2,16,true⟩
def G3:TI:=⟨.struct #[⟨"Sym",3,0,false, "", "",0⟩,⟨"Extra",3,1,false, "", "",8⟩],.agg #[.int .i64 0,.int .i64 0],2,16,true⟩
def G4:TI:=⟨.slice 198,.slice none 0 0,1,24,false⟩
def G5:TI:=⟨.int .u64,.int .u64 0,1,8,false⟩
def G6:TI:=⟨.struct #[⟨"bits",3,0,false, "", "bellows/reach",0⟩,⟨"least",3,1,false, "", "bellows/reach",8⟩,⟨"many",3,2,false, "", "bellows/reach",16⟩],.agg #[.int .i64 0,.int .i64 0,.int .i64 0],3,24,true⟩
def G7:TI:=⟨.struct #[⟨"bits",3,0,false, "", "bellows/reach",0⟩,⟨"least",3,1,false, "", "bellows/reach",8⟩,⟨"many",3,2,false, "", "bellows/reach",16⟩],.agg #[.int .i64 0,.int .i64 0,.int .i64 0],3,24,true⟩
def G8:TI:=⟨.slice 167,.slice none 0 0,1,24,false⟩
def G9:TI:=⟨.struct #[⟨"first",3,0,false, "", "bellows/reach",0⟩,⟨"symbols",169,1,false, "", "bellows/reach",8⟩],.agg #[.int .i64 0,.slice none 0 0],2,32,false⟩
def Ha:TI:=⟨.struct #[⟨"first",3,0,false, "", "bellows/reach",0⟩,⟨"symbols",169,1,false, "", "bellows/reach",8⟩],.agg #[.int .i64 0,.slice none 0 0],2,32,false⟩
def Hb:TI:=⟨.slice 24,.slice none 0 0,1,24,false⟩
def Hc:TI:=⟨.int .u64,.int .u64 0,1,8,false⟩
def He:TI:=⟨.slice 187,.slice none 0 0,1,24,false⟩
def x9:TI:=⟨.slice 193,.slice none 0 0,1,24,false⟩
def Hf:TI:=⟨.struct #[⟨"weight",3,0,false, "", "bellows/build",0⟩,⟨"pair",4,1,false, "", "bellows/build",8⟩],.agg #[.int .i64 0,.bool false],2,16,true⟩
def Hg:TI:=⟨.struct #[⟨"weight",3,0,false, "", "bellows/build",0⟩,⟨"pair",4,1,false, "", "bellows/build",8⟩],.agg #[.int .i64 0,.bool false],2,16,true⟩
def Hh:TI:=⟨.array 17 79,.agg #[.int .u32 0,.int .u32 0,.int .u32 0,.int .u32 0,.int .u32 0,.int .u32 0,.int .u32 0,.int .u32 0,.int .u32 0,.int .u32 0,.int .u32 0,.int .u32 0,.int .u32 0,.int .u32 0,.int .u32 0,.int .u32 0,.int .u32 0],17,68,true⟩
def Hi:TI:=⟨.array 17 79,.agg #[.int .u32 0,.int .u32 0,.int .u32 0,.int .u32 0,.int .u32 0,.int .u32 0,.int .u32 0,.int .u32 0,.int .u32 0,.int .u32 0,.int .u32 0,.int .u32 0,.int .u32 0,.int .u32 0,.int .u32 0,.int .u32 0,.int .u32 0],17,68,true⟩
def Hj:TI:=⟨.struct #[⟨"Bits",79,0,false, "", "",0⟩,⟨"Long",5,1,false, "", "",4⟩],.agg #[.int .u32 0,.int .u8 0],2,8,true⟩
def ya:TI:=⟨.struct #[⟨"Bits",79,0,false, "", "",0⟩,⟨"Long",5,1,false, "", "",4⟩],.agg #[.int .u32 0,.int .u8 0],2,8,true⟩
def Hk:TI:=⟨.pointer 205,.pointer none,1,8,false⟩
def Hl:TI:=⟨.struct #[⟨"t",43,0,false, "", "bellows/tree",0⟩,⟨"n",3,17,false, "", "bellows/tree",152⟩,⟨"code",3,18,false, "", "bellows/tree",160⟩,⟨"first",3,19,false, "", "bellows/tree",168⟩,⟨"place",3,20,false, "", "bellows/tree",176⟩],.agg #[.int .i64 0,.int .i64 0,.int .i64 0,.int .i64 0,.int .i64 0,.int .i64 0,.int .i64 0,.int .i64 0,.int .i64 0,.int .i64 0,.int .i64 0,.int .i64 0,.int .i64 0,.int .i64 0,.int .i64 0,.int .i64 0,.slice none 0 0,.int .i64 0,.int .i64 0,.int .i64 0,.int .i64 0],21,184,false⟩
def Hm:TI:=⟨.struct #[⟨"t",43,0,false, "", "bellows/tree",0⟩,⟨"n",3,17,false, "", "bellows/tree",152⟩,⟨"code",3,18,false, "", "bellows/tree",160⟩,⟨"first",3,19,false, "", "bellows/tree",168⟩,⟨"place",3,20,false, "", "bellows/tree",176⟩],.agg #[.int .i64 0,.int .i64 0,.int .i64 0,.int .i64 0,.int .i64 0,.int .i64 0,.int .i64 0,.int .i64 0,.int .i64 0,.int .i64 0,.int .i64 0,.int .i64 0,.int .i64 0,.int .i64 0,.int .i64 0,.int .i64 0,.slice none 0 0,.int .i64 0,.int .i64 0,.int .i64 0,.int .i64 0],21,184,false⟩
def Ho:TI:=⟨.pointer 167,.pointer none,1,8,false⟩
def Hp:TI:=⟨.pointer 195,.pointer none,1,8,false⟩
def Hq:TI:=⟨.array 0 16,.agg #[],0,0,false⟩
def Hr:TI:=⟨.pointer 5,.pointer none,1,8,false⟩
def Hs:TI:=⟨.struct #[⟨"Size_",12,0,false, "", "",0⟩,⟨"PtrBytes",12,1,false, "", "",8⟩,⟨"Hash",79,2,false, "", "",16⟩,⟨"TFlag",237,3,false, "", "",20⟩,⟨"Align_",5,4,false, "", "",21⟩,⟨"FieldAlign_",5,5,false, "", "",22⟩,⟨"Kind_",238,6,false, "", "",23⟩,⟨"Equal",239,7,false, "", "",24⟩,⟨"GCData",240,8,false, "", "",32⟩,⟨"Str",241,9,false, "", "",40⟩,⟨"PtrToThis",242,10,false, "", "",44⟩],.agg #[.int .u64 0,.int .u64 0,.int .u32 0,.int .u8 0,.int .u8 0,.int .u8 0,.int .u8 0,.nilFunc,.pointer none,.int .i32 0,.int .i32 0],11,48,false⟩
def Tl:List (Nat×TI):=[(2,SJ),(3,SK),(4,SL),(5,EZ),(9,SM),(12,Nf),(15,Ng),(16,Nh),(17,Nj),(20,Nk),(21,Nl),(22,Nn),(23,No),(24,Np),(25,Nq),(26,Nr),(27,Ns),(28,Nt),(31,Nu),(37,Nv),(40,Nw),(41,Ny),(42,Nz),(43,NA),(44,NB),(45,NC),(49,ND),(50,NE),(58,NF),(61,NG),(62,NH),(73,NI),(76,NJ),(77,NK),(78,NL),(79,NM),(80,NN),(81,NO),(83,NP),(87,NQ),(88,NR),(111,GR),(112,GS),(113,GU),(119,GV),(134,GW),(137,GX),(139,GY),(140,GZ),(145,G0),(148,G1),(149,G2),(150,G3),(152,G4),(156,G5),(166,G6),(167,G7),(169,G8),(170,G9),(171,Ha),(177,Hb),(179,Hc),(186,He),(187,x9),(192,Hf),(193,Hg),(194,Hh),(195,Hi),(197,Hj),(198,ya),(203,Hk),(204,Hl),(205,Hm),(208,Ho),(219,Hp),(234,Hq),(240,Hr),(243,Hs)]
def T:TT:=(.n (.n (.n (.n (.n (.n .e (some Nu) .e) (some Ng) (.n (.n .e (some NM) .e) none (.n .e (some GR) .e))) none (.n (.n .e none (.n (.n .e (some G7) .e) none .e)) (some No) (.n (.n .e (some NQ) .e) none (.n .e (some GV) .e)))) (some SK) (.n (.n (.n (.n .e none (.n .e (some Hi) .e)) none .e) none (.n (.n .e (some NP) .e) none (.n (.n .e (some Hc) .e) none (.n .e (some Hs) .e)))) none (.n (.n (.n (.n .e (some GY) .e) none (.n .e (some Hk) .e)) (some NA) (.n (.n .e (some Ha) .e) none .e)) (some Ns) (.n (.n .e none (.n .e (some Hp) .e)) none (.n (.n .e (some x9) .e) none .e))))) none (.n (.n (.n (.n (.n .e none (.n .e (some Hg) .e)) none .e) (some Nj) (.n (.n (.n .e (some G0) .e) (some NO) .e) (some ND) (.n (.n .e (some Hb) .e) (some GU) .e))) (some SM) (.n (.n (.n (.n .e (some GX) .e) (some NI) .e) (some Ny) (.n (.n .e (some G8) .e) none .e)) (some Nq) .e)) (some EZ) (.n (.n (.n (.n .e none (.n .e (some Hj) .e)) (some Nv) .e) (some Nl) (.n (.n (.n .e (some G2) .e) none .e) none .e)) none (.n (.n (.n .e (some NK) (.n .e (some Hm) .e)) (some NC) .e) none (.n .e (some NG) .e))))) none (.n (.n (.n (.n (.n (.n .e none (.n .e (some Hf) .e)) none .e) (some Nh) (.n (.n .e (some NN) (.n .e (some Ho) .e)) none (.n .e (some GS) (.n .e (some Hr) .e)))) none (.n (.n .e (some Nw) .e) (some Np) (.n (.n (.n .e (some G4) .e) (some NR) .e) none .e))) (some SL) (.n (.n .e (some Nk) (.n (.n (.n .e (some G1) .e) none .e) none .e)) (some Nf) (.n (.n (.n (.n .e (some GZ) .e) (some NJ) (.n .e (some Hl) .e)) (some NB) .e) (some Nt) (.n (.n (.n .e (some G5) .e) none .e) none .e)))) (some SJ) (.n (.n (.n (.n (.n .e none (.n .e (some Hh) .e)) none .e) none (.n .e (some NE) .e)) none (.n (.n .e (some Nz) (.n (.n .e (some G9) .e) none (.n .e (some Hq) .e))) (some Nr) (.n .e (some NF) (.n (.n .e (some He) .e) none .e)))) none (.n (.n (.n (.n (.n .e (some GW) .e) none (.n .e (some ya) .e)) none (.n (.n .e (some G6) .e) none .e)) (some Nn) (.n (.n (.n .e (some G3) .e) none .e) none .e)) none (.n (.n (.n .e (some NL) .e) none .e) none (.n .e (some NH) .e))))))
set_option maxRecDepth 100000 in
theorem T_ok:TT.ok Try.prog T:=by
 refine TT.ok_ofL (l:=Tl) ?_ (by kernel_rfl)
 repeat(first|refine⟨Q0 (by kernel_rfl) (by kernel_rfl) rfl,?_⟩|refine⟨M8 (by kernel_rfl) (by kernel_rfl) rfl (by kernel_rfl) (by kernel_rfl) (by kernel_rfl),?_⟩)
 trivial
theorem ai:Try.prog.follows .mixedOrders=true:=by kernel_rfl
open Go.RowKit Go.Bw
abbrev zN (n:Nat):D:=.v (.int .i64 (n:Int))
abbrev zI (x:Int):D:=.v (.int .i64 x)
abbrev zS:D:=.v (.slice none 0 0)
abbrev ak (n:Nat):D:=.v (.int .u32 (n:Int))
abbrev aQ (n:Nat):D:=.v (.int .u8 (n:Int))
abbrev uI (x:Int):D:=.v (.int .u32 x)
abbrev bI (x:Int):D:=.v (.int .u8 x)
theorem wx {p:Prop}[Decidable p](h:decide p=true):p:=of_decide_eq_true h
theorem wy {p:Prop}[Decidable p](h:decide p=false):¬p:=of_decide_eq_false h
def _root_.Go.Vx.Hn.cl {P:Program}(f:FuncId)(al:Bool)(fp:List Nat){q hin:_}{r:D}{bs:List Blk}(h:CallOk al P f q hin r bs)(nx:Hn P):Hn P:=.call f al fp true rfl q q (cj.refl q) true rfl hin r bs h nx
def _root_.Go.Vx.Hn.op {P:Program}(x:Int)(h:-9223372036854775808≤x∧x≤9223372036854775807)(nx:Hn P):Hn P:=.opt (ar .i64 x) (.v (.int .i64 x)) (fk h) nx
def _root_.Go.Vx.Hn.bd {P:Program}(p:Prop)[Decidable p](f:decide p=true→p→Hn P)(g:decide p=false→¬p→Hn P):Hn P:=.br (decide p) (fun h=>f h (of_decide_eq_true h)) (fun h=>g h (of_decide_eq_false h))
theorem qr {d:D}{p:Prop}(h:p):D.sim d d∧p:=⟨.refl _,h⟩
theorem kr {p:Prop}(h:p:=by kernel_rfl):p:=h
abbrev S0:=SpecH false Try.prog
abbrev S1:=SpecH true Try.prog
def _root_.Go.Vx.Hn.ow {P:Program}(x:Int)(nx:Hn P)(h:-9223372036854775808≤x∧x≤9223372036854775807:=by omega):Hn P:=.opt (ar .i64 x) (.v (.int .i64 x)) (fk h) nx
theorem wr {p:Prop}(h:p:=by with_reducible rfl):p:=h
theorem om {p:Prop}(h:p:=by omega):p:=h
theorem aD {p:Prop}(h:p:=by assumption):p:=h
theorem ro {p:Prop}(h:p:=by repeat' first|exact trivial|exact rfl|exact(fun _=>du _)|exact(fun _=>by assumption)|exact(fun _=>cu _ (fun _=>rfl) _)|exact(fun _=>fy (fun _=>rfl) _)|(intro h;cases h;done)|(intro _;rfl)|(intro _;exact dM _ (cu _ (fun _=>rfl) _))|exact mc _ (cu _ (fun _=>rfl) _)|refine And.intro ?_ ?_|refine iB ?_ ?_|(intro _;refine ej ?_ ?_)|refine ej ?_ ?_|(intro _;refine jn ?_ ?_)|exact dM _ (cu _ (fun _=>rfl) _)|exact cu _ (fun _=>rfl) _):p:=h
theorem Qd:az Try.prog 10:=.of Try.func10 rfl rfl
theorem Q8:az Try.prog 11:=.of Try.func11 rfl rfl
theorem Qe:az Try.prog 26:=.of Try.func26 rfl rfl
theorem SN:az Try.prog 28:=.of Try.func28 rfl rfl
theorem Tc:az Try.prog 29:=.of Try.func29 rfl rfl
theorem Td:az Try.prog 31:=.of Try.func31 rfl rfl
theorem SO:az Try.prog 34:=.of Try.func34 rfl rfl
theorem NS:az Try.prog 47:=.of Try.func47 rfl rfl
theorem mh:az Try.prog 53:=.of Try.func53 rfl rfl
theorem i5:az Try.prog 54:=.of Try.func54 rfl rfl
theorem SP:az Try.prog 56:=.of Try.func56 rfl rfl
theorem Qf:az Try.prog 60:=.of Try.func60 rfl rfl
theorem Te:az Try.prog 61:=.of Try.func61 rfl rfl
theorem Tf:az Try.prog 62:=.of Try.func62 rfl rfl
theorem Tg:az Try.prog 63:=.of Try.func63 rfl rfl
theorem Th:az Try.prog 64:=.of Try.func64 rfl rfl
theorem SQ:az Try.prog 70:=.of Try.func70 rfl rfl
theorem NT:az Try.prog 73:=.of Try.func73 rfl rfl
theorem NU:az Try.prog 79:=.of Try.func79 rfl rfl
theorem NV:az Try.prog 81:=.of Try.func81 rfl rfl
theorem SS:az Try.prog 84:=.of Try.func84 rfl rfl
theorem Q9:az Try.prog 86:=.of Try.func86 rfl rfl
theorem Ra:az Try.prog 89:=.of Try.func89 rfl rfl
theorem Rb:az Try.prog 92:=.of Try.func92 rfl rfl
theorem Ti:az Try.prog 97:=.of Try.func97 rfl rfl
theorem J5:az Try.prog 98:=.of Try.func98 rfl rfl
theorem J6:az Try.prog 99:=.of Try.func99 rfl rfl
theorem J7:az Try.prog 100:=.of Try.func100 rfl rfl
theorem Rc:az Try.prog 103:=.of Try.func103 rfl rfl
theorem fK:az Try.prog 107:=.of Try.func107 rfl rfl
theorem Cb:az Try.prog 121:=.of Try.func121 rfl rfl
theorem Rd:az Try.prog 122:=.of Try.func122 rfl rfl
theorem Re:az Try.prog 136:=.of Try.func136 rfl rfl
end Go.Proofs.Ytefjnofhgkjpmaa
namespace Go.Proofs.Ytefjnofhgkjpmaa
open Go.RowKit Go.Bw Go.Vx
namespace Vp
abbrev iD (i:Int):D:=.v (.int .i64 i)
abbrev dT:D:=.v (.slice none 0 0)
abbrev uD (n:Nat):D:=.v (.int .u32 (n:Int))
abbrev nD (n:Nat):D:=.v (.int .i64 (n:Int))
abbrev bD (b:Bool):D:=.v (.bool b)
abbrev dG (n:Nat):D:=.v (.int .u8 (n:Int))
def lk {α β:Type}(b:List β)(x:α):α:=match b with
 |[]=>x
 |_::_=>x
theorem aw {α β:Type}(b:List β)(x:α):lk b x=x:=by cases b<;>rfl
def mi (b:List UInt8)(p:Nat):Nat:=(b.getD (p/8) mb).toNat/2^(p%8)%2
def fR (b:List UInt8)(p:Nat):Nat→Nat
 |0=>0
 |n+1=>fR b p n+2^n*mi b (p+n)
theorem yb (b:List UInt8)(p:Nat):mi b p<2:=Xk _ (by decide)
theorem nG (b:List UInt8)(p:Nat):∀n,fR b p n<2^n
 |0=>VW
 |n+1=>by
  have h1:=nG b p n
  have h2:=yb b (p+n)
  have h3:2^n*mi b (p+n)≤2^n*1:=V8 _ (by omega)
  rw[fR,Us];omega
def gA (b:List UInt8)(p m:Nat):Nat:=lk b (if 8*b.length<p+m then 0 else fR b p m)
def kJ (b:List UInt8)(p m:Nat):Nat:=lk b (if 8*b.length<p+m then 10 else 0)
theorem Ht {b:List UInt8}{p m:Nat}(h:8*b.length<p+m):gA b p m=0:=(aw _ _).trans (if_pos h)
theorem yc {b:List UInt8}{p m:Nat}(h:¬8*b.length<p+m):gA b p m=fR b p m:=(aw _ _).trans (if_neg h)
theorem Hu {b:List UInt8}{p m:Nat}(h:8*b.length<p+m):kJ b p m=10:=(aw _ _).trans (if_pos h)
theorem Cc {b:List UInt8}{p m:Nat}(h:¬8*b.length<p+m):kJ b p m=0:=(aw _ _).trans (if_neg h)
theorem wz (b:List UInt8)(p m:Nat):gA b p m<2^m:=by
 by_cases h:8*b.length<p+m
 ·rw[Ht h];exact UY m
 ·rw[yc h];exact nG b p m
def aU:List UInt8→Nat
 |[]=>0
 |x::r=>(if x.toNat=0 then 0 else 2^(15-x.toNat))+aU r
def bc:List UInt8→Nat
 |[]=>0
 |x::r=>(if x.toNat=0 then 0 else 1)+bc r
def dh (l:List UInt8)(most:Nat):Bool:=l.any fun x=>decide (most<x.toNat)
theorem qG (a c:List UInt8):aU (a++c)=aU a+aU c:=by
 induction a with
 |nil=>simp[aU]
 |cons x r ih=>rw[V5,aU,aU,ih];omega
theorem qH (a c:List UInt8):bc (a++c)=bc a+bc c:=by
 induction a with
 |nil=>simp[bc]
 |cons x r ih=>rw[V5,bc,bc,ih];omega
theorem Cd (l:List UInt8):bc l≤l.length:=by
 induction l with
 |nil=>exact TD _
 |cons x r ih=>rw[bc,T3];split<;>omega
theorem Ce (l:List UInt8):aU l≤l.length*32768:=by
 induction l with
 |nil=>exact TD _
 |cons x r ih=>
  rw[aU,T3]
  have:2^(15-x.toNat)≤2^15:=TX (by decide) (by omega)
  split<;>omega
theorem qI {l:List UInt8}{i:Nat}(h:i<l.length):l.take (i+1)=l.take i++[l.getD i mb]:=oX h
theorem iH {l:List UInt8}{i:Nat}(h:i<l.length):aU (l.take (i+1))=aU (l.take i)+(if(l.getD i mb).toNat=0 then 0 else 2^(15-(l.getD i mb).toNat)):=by
 rw[qI h,qG];rfl
theorem kx {l:List UInt8}{i:Nat}(h:i<l.length):bc (l.take (i+1))=bc (l.take i)+(if(l.getD i mb).toNat=0 then 0 else 1):=by
 rw[qI h,qH];rfl
def sa (l:List UInt8)(most:Nat):Nat:=
 if 320<l.length then 4 else if dh l most=true then 2 else if 32768<aU l then 30
 else if aU l=32768∨bc l=0∨bc l=1∧aU l=16384 then 0 else 31
def aC (l:List UInt8)(most:Nat):Nat:=lk l (sa l most)
theorem iI (l:List UInt8)(most:Nat):aC l most=sa l most:=aw _ _
theorem yd {l:List UInt8}{most i:Nat}(h:i<l.length)(h2:most<(l.getD i mb).toNat):dh l most=true:=by
 unfold dh
 rw[Xx]
 refine⟨l.getD i mb,?_,decide_eq_true h2⟩
 rw[To,Ts h];exact Uo h
theorem lf {l:List UInt8}{most:Nat}(h:∀i,i<l.length→(l.getD i mb).toNat≤most):dh l most=false:=by
 unfold dh
 rw[List.any_eq_false]
 intro x hx
 obtain⟨i,hi⟩:=Ux hx
 have hlt:=(List.getElem?_eq_some_iff.1 hi).1
 have:=h i hlt
 rw[To,hi]at this
 simpa using this
theorem dN {l:List UInt8}{most:Nat}(h:dh l most=false){i:Nat}(hi:i<l.length):(l.getD i mb).toNat≤most:=by
 rcases T5 most (l.getD i mb).toNat with q|q
 ·rw[yd hi q]at h;cases h
 ·exact q
theorem dw {l:List UInt8}{most:Nat}(h:aC l most=0):l.length≤320∧dh l most=false∧aU l≤32768:=by
 rw[iI]at h;unfold sa at h
 split at h
 ·cases h
 ·split at h
  ·cases h
  ·split at h
   ·cases h
   ·refine⟨by omega,by simp_all,by omega⟩
def co (l:List UInt8)(n k:Nat):List Nat:=(Uv k).filter fun i=>decide ((l.getD i mb).toNat=n)
def aI (l:List UInt8):Nat→List Nat
 |0=>[]
 |n+1=>aI l n++(if n=0 then[]else co l n l.length)
def pG (l:List UInt8)(n:Nat):Nat:=if n=0 then 0 else(co l n l.length).length
def aa (l:List UInt8)(n:Nat):Nat:=lk l (pG l n)
def ab (l:List UInt8):List Nat:=lk l (aI l 16)
theorem dz (l:List UInt8):ab l=aI l 16:=aw _ _
def ah (l:List UInt8)(n k m:Nat):Nat:=lk l (if m=0 then 0 else if m<n then(co l m l.length).length else if m=n then(co l m k).length else 0)
def aK (l:List UInt8)(n k:Nat):List Nat:=lk l (aI l n++(if n=0 then[]else co l n k))
def cZ (f:Nat→Nat):List D:=[nD (f 0),nD (f 1),nD (f 2),nD (f 3),nD (f 4),nD (f 5),nD (f 6),nD (f 7),nD (f 8),nD (f 9),nD (f 10),nD (f 11),nD (f 12),nD (f 13),nD (f 14),nD (f 15)]
def fA (m:Nat)(l:List UInt8):List D:=cZ (aa l)++[.sl false m 1 ((ab l).map nD)]
abbrev oY (m:Nat)(l:List UInt8):D:=.agg (fA m l)
def eT:List D:=[iD 0,iD 0,iD 0,iD 0,iD 0,iD 0,iD 0,iD 0,iD 0,iD 0,iD 0,iD 0,iD 0,iD 0,iD 0,iD 0,dT]
abbrev Cf:D:=.agg eT
theorem ye (f:Nat→Nat)(r:List D)(n:Nat)(h:n<16):(cZ f++r)[n]? =some (nD (f n)):=by
 match n,h with
 |0,_=>rfl|1,_=>rfl|2,_=>rfl|3,_=>rfl|4,_=>rfl|5,_=>rfl|6,_=>rfl|7,_=>rfl
 |8,_=>rfl|9,_=>rfl|10,_=>rfl|11,_=>rfl|12,_=>rfl|13,_=>rfl|14,_=>rfl|15,_=>rfl
 |n+16,h=>exact absurd h (by omega)
theorem J8 (f:Nat→Nat)(n:Nat)(h:n<16):(cZ f)[n]? =some (nD (f n)):=by
 have:=ye f [] n h
 rwa [Ue]at this
theorem zV {f g:Nat→Nat}(h:∀n,n<16→f n=g n):cZ f=cZ g:=by
 unfold cZ
 rw[h 0 (by decide),h 1 (by decide),h 2 (by decide),h 3 (by decide),h 4 (by decide),h 5 (by decide),h 6 (by decide),h 7 (by decide),h 8 (by decide),h 9 (by decide),h 10 (by decide),h 11 (by decide),h 12 (by decide),h 13 (by decide),h 14 (by decide),h 15 (by decide)]
theorem NW (f:Nat→Nat)(r:List D)(n:Nat)(h:n<16)(x:Nat):aj (cZ f++r) n [nD x]=cZ (fun m=>if m=n then x else f m)++r:=by
 match n,h with
 |0,_=>rfl|1,_=>rfl|2,_=>rfl|3,_=>rfl|4,_=>rfl|5,_=>rfl|6,_=>rfl|7,_=>rfl
 |8,_=>rfl|9,_=>rfl|10,_=>rfl|11,_=>rfl|12,_=>rfl|13,_=>rfl|14,_=>rfl|15,_=>rfl
 |n+16,h=>exact absurd h (by omega)
theorem dO (l:List UInt8)(n k:Nat):co l n (k+1)=co l n k++(if(l.getD k mb).toNat=n then[k]else[]):=by
 unfold co
 rw[Wf,US]
 congr 1
 rw[YG,YU]
 by_cases h:(l.getD k mb).toNat=n
 ·rw[if_pos h,if_pos (decide_eq_true h)]
 ·rw[if_neg h,if_neg (by simpa using h)]
theorem jU (l:List UInt8)(n k:Nat):(co l n k).length≤k:=by
 unfold co
 exact T6 (Wk _ _) (by simp)
theorem fB {l:List UInt8}{n k i:Nat}:i∈co l n k↔i<k∧(l.getD i mb).toNat=n:=by
 unfold co;simp
theorem dP (l:List UInt8)(n k:Nat):aK l n k=aI l n++(if n=0 then[]else co l n k):=aw _ _
theorem d9 (l:List UInt8)(n k m:Nat):ah l n k m=if m=0 then 0 else if m<n then(co l m l.length).length else if m=n then(co l m k).length else 0:=aw _ _
theorem gf (l:List UInt8)(n:Nat):aa l n=pG l n:=aw _ _
theorem uF (l:List UInt8):aK l 0 0=[]:=dP l 0 0
theorem qJ (l:List UInt8)(n:Nat):aK l (n+1) 0=aK l n l.length:=by
 rw[dP,dP,aI,if_neg (VJ n)]
 show _++co l (n+1) 0=_
 have:co l (n+1) 0=[]:=rfl
 rw[this,Ue]
theorem Cg {l:List UInt8}{n k:Nat}(hn:n≠0)(h:(l.getD k mb).toNat=n):aK l n (k+1)=aK l n k++[k]:=by
 rw[dP,dP,if_neg hn,if_neg hn,dO,if_pos h,TG]
theorem Ch {l:List UInt8}{n k:Nat}(h:n=0∨(l.getD k mb).toNat≠n):aK l n (k+1)=aK l n k:=by
 rw[dP,dP]
 by_cases hn:n=0
 ·rw[if_pos hn,if_pos hn]
 ·rw[if_neg hn,if_neg hn,dO,if_neg (by rcases h with h|h;exact absurd h hn;exact h),Ue]
theorem wA (l:List UInt8):aK l 16 0=ab l:=by
 rw[dP]
 show aI l 16++co l 16 0=_
 have:co l 16 0=[]:=rfl
 rw[this,Ue,dz]
theorem yf (l:List UInt8)(m:Nat):ah l 0 0 m=0:=by
 rw[d9]
 by_cases h:m=0
 ·rw[if_pos h]
 ·rw[if_neg h,if_neg (by omega),if_neg h]
theorem uG (l:List UInt8)(n m:Nat):ah l (n+1) 0 m=ah l n l.length m:=by
 rw[d9,d9]
 by_cases h0:m=0
 ·rw[if_pos h0,if_pos h0]
 ·rw[if_neg h0,if_neg h0]
  by_cases h1:m<n
  ·rw[if_pos (by omega),if_pos h1]
  ·rw[if_neg h1]
   by_cases h2:m=n
   ·rw[if_pos (by omega),if_pos h2]
   ·rw[if_neg (by omega),if_neg h2]
    by_cases h3:m=n+1
    ·rw[if_pos h3];rfl
    ·rw[if_neg h3]
theorem E5 {l:List UInt8}{n k:Nat}(hn:n≠0)(h:(l.getD k mb).toNat=n)(m:Nat):ah l n (k+1) m=if m=n then ah l n k n+1 else ah l n k m:=by
 rw[d9,d9,d9]
 by_cases h2:m=n
 ·subst h2
  rw[if_neg hn,if_neg (by omega),if_pos rfl,if_pos rfl,if_neg hn,if_neg (by omega),if_pos rfl,dO,if_pos h,Tt];rfl
 ·rw[if_neg h2,if_neg h2,if_neg h2]
theorem E6 {l:List UInt8}{n k:Nat}(h:n=0∨(l.getD k mb).toNat≠n)(m:Nat):ah l n (k+1) m=ah l n k m:=by
 rw[d9,d9]
 by_cases h0:m=0
 ·rw[if_pos h0,if_pos h0]
 ·rw[if_neg h0,if_neg h0]
  by_cases h1:m<n
  ·rw[if_pos h1,if_pos h1]
  ·rw[if_neg h1,if_neg h1]
   by_cases h2:m=n
   ·subst h2
    rw[if_pos rfl,if_pos rfl,dO,if_neg (by rcases h with h|h;exact absurd h h0;exact h),Ue]
   ·rw[if_neg h2,if_neg h2]
theorem zW (l:List UInt8)(m:Nat)(h:m<16):ah l 16 0 m=aa l m:=by
 rw[d9,gf];unfold pG
 by_cases h0:m=0
 ·rw[if_pos h0,if_pos h0]
 ·rw[if_neg h0,if_neg h0,if_pos h]
theorem Ci (l:List UInt8)(n k m:Nat)(hk:k≤l.length):ah l n k m≤l.length:=by
 rw[d9]
 split
 ·omega
 ·split
  ·exact jU _ _ _
  ·split
   ·exact T6 (jU _ _ _) hk
   ·omega
theorem qK (l:List UInt8):∀n,(aI l n).length≤n*l.length
 |0=>T7 _
 |n+1=>by
  have h1:=qK l n
  have h2:=jU l n l.length
  rw[aI,Tt,XE]
  split
  ·simp;omega
  ·omega
theorem wB {l:List UInt8}{n k:Nat}(hn:n≤16)(hk:k≤l.length):(aK l n k).length≤17*l.length:=by
 rw[dP,Tt]
 have h1:=qK l n
 have h2:=jU l n k
 have h3:n*l.length≤16*l.length:=Ur _ hn
 have h4:(if n=0 then[]else co l n k).length≤l.length:=by
  split
  ·simp
  ·omega
 omega
@[simp] theorem fa (xs:List Nat):af (xs.map nD)=true:=cu _ (fun _=>rfl) xs
theorem Rf {l:List UInt8}{a k:Nat}(h:a=0∨(l.getD (k*1) mb).toNat≠a)(m:Nat):ah l a (k+1) m=ah l a k m:=E6 (by rwa [TZ]at h) m
theorem NX {l:List UInt8}{a k:Nat}(h:a=0∨(l.getD (k*1) mb).toNat≠a):aK l a (k+1)=aK l a k:=Ch (by rwa [TZ]at h)
theorem Rg (l:List UInt8)(a k:Nat){o:Nat}{d:D}(ho:o=a)(h0:0<a)(h1:a<16)(h:(l.getD (k*1) mb).toNat=a):aj (cZ (ah l a k)++[d]) o [D.v (.int .i64 (((ah l a k o:Nat):Int)+1))]=cZ (ah l a (k+1))++[d]:=by
 subst ho
 rw[show D.v (.int .i64 (((ah l o k o:Nat):Int)+1))=nD (ah l o k o+1)from rfl,NW _ _ _ h1]
 have e:cZ (fun m=>if m=o then ah l o k o+1 else ah l o k m)=cZ (ah l o (k+1)):=zV fun m _=>by
  rw[E5 (by omega) (by rwa [TZ]at h)]
 rw[e]
theorem Hv {l:List UInt8}{a k:Nat}(h0:0<a)(h:(l.getD (k*1) mb).toNat=a):aK l a (k+1)=aK l a k++[k]:=Cg (by omega) (by rwa [TZ]at h)

end Vp
end Go.Proofs.Ytefjnofhgkjpmaa
namespace Go.Proofs.Ytefjnofhgkjpmaa
open Go.RowKit Go.Bw Go.Vx
open List (length getD map take drop flatMap replicate)
namespace Vp
theorem fS {p:Prop}(h:p:=by(have h9:=di (l.getD i default).s;have hb:=hB i;have hc:=eo (l.getD i default);refine aT ?_;omega)):p:=h
theorem gg {p:Prop}(h:p:=by(have h9:=di (l.getD i default).s;have hb:=hB i;have hc:=eo (l.getD i default);omega)):p:=h
theorem j5 {p:Prop}(h:p:=by(rw[Kd (z:=bf (l.getD i default)) (by(omega))])):p:=h
theorem uH {p:Prop}(h:p:=by(simp only[oZ,List.length_map,Nat.mul_one,Nat.beq_refl,Bool.true_and,Bool.and_true];have h9:=di (l.getD i default).s;have hb:=hB i;have hc:=eo (l.getD i default);refine Nat.ble_eq_true_of_le ?_;omega)):p:=h
theorem uJ {p:Prop}(h:p:=by show bf (getD l i default)-(j+1)<bf (getD l i default)-j;clear next2 last2 next1 last1;omega):p:=h
theorem uK {p:Prop}(h:p:=by(have h9:=di (l.getD i default).s;have hb:=hB i;have hc:=eo (l.getD i default);rw[List.length_append,List.length_replicate];omega)):p:=h
theorem uL {p:Prop}(h:p:=by(have h9:=di (l.getD i default).s;have hb:=hB i;have hc:=eo (l.getD i default);exact Ka hR om om om om)):p:=h
theorem uM {p:Prop}(h:p:=by show k-(i+1)<k-i;clear next1 last1;omega):p:=h
theorem E7 {p:Prop}(h:p:=by((refine aJ ?_ ?_)<;>(repeat' (first|(refine aJ ?_ ?_)|(with_reducible rfl)|(refine decide_eq_true ?_)|(refine Nat.ble_eq_true_of_le ?_)|(refine fx ?_)))<;>(omega))):p:=h
theorem E8 {p:Prop}(h:p:=by(have h9:=di (l.getD i default).s;have hb:=hB i;have hc:=eo (l.getD i default);have q:=Hz (l:=l) (n:=n) (i:=i) (o:=o) om om om om;rw[hR]at q;rw[q]at h;exact absurd h (by decide))):p:=h
theorem yg {p:Prop}(h:p:=by(exact Rh (by(omega)))):p:=h
theorem yh {p:Prop}(h:p:=by(have h9:=di (l.getD i default).s;have hb:=hB i;have hc:=eo (l.getD i default);refine aT ?_;have q:=Hz (l:=l) (n:=n) (i:=i) (o:=o) om om om om;rw[hR]at q;rw[q];rfl)):p:=h
theorem Cj {p:Prop}(h:p:=by(refine decide_eq_false ?_;(omega))):p:=h
theorem Hw {p:Prop}(h:p:=by(rw[a9 (k:=2) (fun _=>rfl)];refine Nat.ble_eq_true_of_le ?_;(omega))):p:=h
def rb (s:Nat):Nat:=if s=16 then 2 else if s=17 then 3 else if s=18 then 7 else 0
def p2 (s:Nat):Nat:=2^rb s
structure Rn where
 s:Nat
 x:Nat
 deriving Inhabited
abbrev b8 (r:Rn):List D:=[nD r.s,nD r.x]
def bf (r:Rn):Nat:=if r.s=16 then r.x+3 else if r.s=17 then r.x+3 else if r.s=18 then r.x+11 else 1
def aO (r:Rn)(o:List UInt8):UInt8:=if r.s=16 then o.getD (o.length-1) mb else if r.s<16 then Um r.s else 0
def ck (n:Nat):List Rn→List UInt8→List UInt8×Nat
 |[],o=>if o.length=n then(o,0)else([],100)
 |r::q,o=>if 18<r.s∨p2 r.s≤r.x then([],8)else if r.s=16∧o.length=0 then([],100)else if n<o.length+bf r then([],100)else ck n q (o++TK (bf r) (aO r o))
def cq (n:Nat)(l:List Rn):List UInt8×Nat:=lk l (ck n l [])
theorem iJ (n:Nat)(l:List Rn):cq n l=ck n l []:=aw _ _
theorem Hx {n:Nat}{l:List Rn}{i:Nat}{o:List UInt8}(hi:l.length≤i):ck n (l.drop i) o=if o.length=n then(o,0)else([],100):=by
 rw[Vb hi];rfl
theorem sc {l:List Rn}{i:Nat}(hi:i<l.length):l.drop i=l.getD i mb::l.drop (i+1):=by
 rw[UK hi,To,Ts hi];rfl
theorem yi {n:Nat}{l:List Rn}{i:Nat}{o:List UInt8}(hi:i<l.length)(h:18<(l.getD i mb).s∨p2 (l.getD i mb).s≤(l.getD i mb).x):ck n (l.drop i) o=([],8):=by rw[sc hi,ck,if_pos h]
theorem Hy {n:Nat}{l:List Rn}{i:Nat}{o:List UInt8}(hi:i<l.length)(h:¬(18<(l.getD i mb).s∨p2 (l.getD i mb).s≤(l.getD i mb).x))(h2:(l.getD i mb).s=16∧o.length=0):ck n (l.drop i) o=([],100):=by rw[sc hi,ck,if_neg h,if_pos h2]
theorem Hz {n:Nat}{l:List Rn}{i:Nat}{o:List UInt8}(hi:i<l.length)(h:¬(18<(l.getD i mb).s∨p2 (l.getD i mb).s≤(l.getD i mb).x))(h2:¬((l.getD i mb).s=16∧o.length=0))(h3:n<o.length+bf (l.getD i mb)):ck n (l.drop i) o=([],100):=by rw[sc hi,ck,if_neg h,if_neg h2,if_pos h3]
theorem NY {n:Nat}{l:List Rn}{i:Nat}{o:List UInt8}(hi:i<l.length)(h:¬(18<(l.getD i mb).s∨p2 (l.getD i mb).s≤(l.getD i mb).x))(h2:¬((l.getD i mb).s=16∧o.length=0))(h3:¬n<o.length+bf (l.getD i mb)):ck n (l.drop i) o=ck n (l.drop (i+1)) (o++TK (bf (l.getD i mb)) (aO (l.getD i mb) o)):=by rw[sc hi,ck,if_neg h,if_neg h2,if_neg h3]
theorem di (s:Nat):p2 s≤128∧rb s≤7:=by unfold p2 rb;split;decide;split;decide;split<;>decide
theorem yj (s:Nat)(h:s≤18):S0 81 [nD s] [] (.tup [nD (rb s),iD 0]) []:=by
 refine SpecH.run T_ok ai Try.func81 rfl rfl rfl trivial rfl 1000 64 (fun R ok=>(.s 13 (.f (decide (18<(s:Int))) Cj (.s 4 (.br ((s:Int)==16) (fun p0=>have p0f:=eq_of_beq p0;(.s 2 (.out [] [] (Uw [zI 2,zI 0]) [] R (ok _ _ (by((have hs:s=16:=by omega);subst hs;rfl)) wr)))) (fun p0=>have p0f:=am p0;(.s 4 (.br ((s:Int)==17) (fun p1=>have p1f:=eq_of_beq p1;(.s 2 (.out [] [] (Uw [zI 3,zI 0]) [] R (ok _ _ (by((have hs:s=17:=by omega);subst hs;rfl)) wr)))) (fun p1=>have p1f:=am p1;(.s 4 (.br ((s:Int)==18) (fun p2=>have p2f:=eq_of_beq p2;(.s 2 (.out [] [] (Uw [zI 7,zI 0]) [] R (ok _ _ (by((have hs:s=18:=by omega);subst hs;rfl)) wr)))) (fun p2=>have p2f:=am p2;(.s 2 (.out [] [] (Uw [zI 0,zI 0]) [] R (ok _ _ (by(rw[show rb s=0 from by unfold rb;rw[if_neg om,if_neg om,if_neg om]];rfl)) wr))))))))))))))) kr
theorem J9 (s:Nat)(h:18<s)(h2:s≤1000000):S0 81 [nD s] [] (.tup [nD 0,iD 2]) []:=by
 refine SpecH.run T_ok ai Try.func81 rfl rfl rfl trivial rfl 1000 64 (fun R ok=>(.s 13 (.t (decide (18<(s:Int))) (by(refine decide_eq_true ?_;(omega))) (.s 2 (.out [] [] (Uw [zI 0,zI 2]) [] R (ok _ _ (by(simp;done)) wr)))))) kr
theorem HA (s:Nat):ar .i64 (2^min (rb s) 64*1)=some (nD (p2 s)):=by
 have h:=di s
 rw[show min (rb s) 64=rb s from by omega,YM]
 have e:(2:Int)^rb s=((p2 s:Nat):Int):=by unfold p2;push_cast;rfl
 rw[e]
 generalize p2 s=Z at *
 exact fk (by omega)
theorem Ka {n:Nat}{l:List Rn}{i:Nat}{o:List UInt8}{R:List UInt8×Nat}(hR:ck n (l.drop i) o=R)(hi:i<l.length)(h:¬(18<(l.getD i mb).s∨p2 (l.getD i mb).s≤(l.getD i mb).x))(h2:¬((l.getD i mb).s=16∧o.length=0))(h3:o.length+bf (l.getD i mb)≤n):ck n (l.drop (i+1)) (o++TK (bf (l.getD i mb)) (aO (l.getD i mb) o))=R:=by rw[←hR,NY hi h h2 (by omega)]
theorem Kc {r:Rn}{o:List UInt8}(h:r.s=16):aO r o=o.getD (o.length-1) mb:=if_pos h
theorem NZ {r:Rn}{o:List UInt8}(h:r.s=17∨r.s=18):aO r o=0:=(if_neg (by omega)).trans (if_neg (by omega))
theorem N0 {r:Rn}{o:List UInt8}(h:r.s<16):aO r o=Um r.s:=(if_neg (by omega)).trans (if_pos h)
theorem eo (r:Rn):(r.s=16∧bf r=r.x+3)∨(r.s=17∧bf r=r.x+3)∨(r.s=18∧bf r=r.x+11)∨(r.s≠16∧r.s≠17∧r.s≠18∧bf r=1):=by
 unfold bf;split;omega;split;omega;split<;>omega
theorem HC {r:Rn}{o:List UInt8}{z:Nat}(h:r.s=16)(hz:z=o.length-1):D.v (.int .u8 (((o.getD z mb).toNat:Nat):Int))=dB (aO r o):=by rw[Kc h,hz];rfl
theorem Rh {r:Rn}{o:List UInt8}(h:r.s=17∨r.s=18):D.v (.int .u8 0)=dB (aO r o):=by rw[NZ h];rfl
theorem N1 {r:Rn}{o:List UInt8}(h:r.s<16):D.v (.int .u8 (r.s:Int))=dB (aO r o):=by rw[N0 h];unfold dB;rw[U6];congr 2;omega
theorem N2 {o:List UInt8}{j:Nat}{v:UInt8}:o++TK (j+1) v=o++TK j v++[v]:=by rw[XS,TG]
def aF (o:List UInt8)(v:UInt8):Nat→List UInt8
 |0=>o
 |j+1=>aF o v j++[v]
theorem sd (o:List UInt8)(v:UInt8):∀j,aF o v j=o++TK j v
 |0=>by simp[aF]
 |j+1=>by rw[aF,sd o v j,N2]
theorem oZ (o:List UInt8)(v:UInt8)(j:Nat):(aF o v j).length=o.length+j:=by rw[sd,Tt,T4]
theorem jq {o:List UInt8}{j:Nat}{v:UInt8}:VO dB (aF o v j)++[D.v (.int .u8 ((v.toNat:Nat):Int))]=VO dB (aF o v (j+1)):=by rw[aF,Uq];rfl
theorem Kd {o:List UInt8}{j z:Nat}{v:UInt8}(h:j=z):aF o v j=o++TK z v:=by rw[sd,h]
theorem mX {o:List UInt8}{j:Nat}{v:UInt8}{k g sz:Nat}:Tu k g 0 ((aF o v j).length+1) sz=Tu k g 0 (aF o v (j+1)).length sz:=by rw[oZ,oZ];rfl
theorem se {n:Nat}{l:List Rn}{i:Nat}{o:List UInt8}{R:List UInt8×Nat}(hR:ck n (l.drop i) o=R)(hi:l.length≤i)(h:R.2=0):o=R.1∧R.1.length=n:=by
 rw[Hx hi]at hR
 split at hR
 ·next q=>rw[←hR];exact⟨rfl,q⟩
 ·rw[←hR]at h;cases h
theorem Ke (l:List Rn)(k:Nat)(hk:k=l.length)(hK:k≤1000)(n:Nat)(hn:n≤320)(hB:∀i,(l.getD i mb).x≤1000000∧(l.getD i mb).s≤1000000)(h:(cq n l).2=0):S0 108 [.sl false k 2 (l.flatMap b8),nD n] [] (.tup [.ref 0 0 0 (cq n l).1.length 1,iD 0]) [⟨(cq n l).1.map dB, 5,true⟩]:=by
 refine SpecH.run T_ok ai Try.func108 rfl rfl rfl ⟨cM _,trivial⟩ rfl 1000 64 (fun R ok=>(.s 12 (.f (decide (320<(n:Int))) Cj (.s 4 (.nils 6 96 1 5 (Hn.inl T_ok ai false 93 0 (ap Try.prog 108 0) (fun(x:(i:Nat)×'(hi:i≤k)×'(o:List UInt8)×'(ho:o.length≤n)×'(hR:ck n (l.drop i) o=cq n l)×'Unit)=>match x with|⟨i,hi,o,ho,hR,_⟩=>TJ [(1,zN n),(6,(Tu 0 0 (0) (o.length) 1)),(19,TL false k 2 (flatMap b8 l)),(20,zN k),(21,nD i)] [⟨0,0,96,96,.b ⟨o.map dB,5,true⟩⟩] 8) (fun(x:(i:Nat)×'(hi:i≤k)×'(o:List UInt8)×'(ho:o.length≤n)×'(hR:ck n (l.drop i) o=cq n l)×'Unit)=>match x with|⟨i,hi,o,ho,hR,_⟩=>k-i) [⟨(hl:(cq n l).1.length=n)×'Unit,.exit 0,fun x=>match x with|⟨hl,_⟩=>TJ [(1,zN n),(6,(Tu 0 0 (0) ((cq n l).1.length) 1)),(19,TL false k 2 (flatMap b8 l)),(20,zN k)] [⟨0,0,96,96,.b ⟨(cq n l).1.map dB,5,true⟩⟩] 8⟩] 1000 64 (fun|⟨i,hi,o,ho,hR,_⟩,Q,next1,last1=>(.s 2 (.bd ((i:Int)<k) (fun p0 p0f=>(.s 1 (.chk (true&&decide ((i:Int)<k)&&true) E7 (.s 2 (.chk (Tz (i*2+2) (length (flatMap b8 l))) Hw (.lst (take 2 (drop (i*2) (flatMap b8 l))) ([zN (Rn.s (getD l i mb)),zN (Rn.x (getD l i mb))]) (aB (k:=2) (i:=i) (fun _=>rfl) om om) (.s 12 (.em (decide (Rn.s (getD l i mb)≤18)) (fun p1=>have p1f:=wx p1;(.cl 81 false [] (.fn NV (@yj (Rn.s (getD l i mb)) om)) (.s 38 (.opt (ar .i64 (2^min (rb (Rn.s (getD l i mb))) 64*1)) (nD (p2 (Rn.s (getD l i mb)))) (@HA (l.getD i mb).s) (.s 4 (.bd ((↑(p2 (Rn.s (getD l i mb))):Int)≤(↑(Rn.x (getD l i mb)):Int)) (fun p2 p2f=>(.abs (by(have h9:=di (l.getD i mb).s;have hb:=hB i;have hc:=eo (l.getD i mb);have q:=yi (l:=l) (n:=n) (i:=i) (o:=o) om (.inr om);rw[hR]at q;rw[q]at h;exact absurd h (by decide))))) (fun p2 p2f=>(.s 18 (.br ((↑(Rn.s (getD l i mb)):Int)==16) (fun p3=>have p3f:=eq_of_beq p3;(.s 4 (.br ((↑(length o):Int)==0) (fun p4=>have p4f:=eq_of_beq p4;(.abs (by(have h9:=di (l.getD i mb).s;have hb:=hB i;have hc:=eo (l.getD i mb);have q:=Hy (l:=l) (n:=n) (i:=i) (o:=o) om om om;rw[hR]at q;rw[q]at h;exact absurd h (by decide))))) (fun p4=>have p4f:=am p4;(.s 5 (.ow ((↑(length o):Int)-1) (.s 1 (.chk (decide (0≤(↑(length o):Int)-1)&&decide ((↑(length o):Int)-1<(↑(length o):Int))) E7 (.s 2 (.opt ((map dB o)[0+zK ((↑(length o):Int)-1)*1]?) (dB (getD o (0+zK ((↑(length o):Int)-1)*1) mb)) (aq _ _ om) (.s 4 (.op ((↑(Rn.x (getD l i mb)):Int)+3) gg (.s 6 (.op ((↑(length o):Int)+((↑(Rn.x (getD l i mb)):Int)+3)) gg (.s 3 (.bd ((n:Int)<(↑(length o):Int)+((↑(Rn.x (getD l i mb)):Int)+3)) (fun p5 p5f=>(.abs E8)) (fun p5 p5f=>(.s 2 (.val 6 (Tu 0 0 0 (length o) 1) (Tu 0 0 0 (length (aF o (aO (getD l i mb) o) 0)) 1) (by exact rfl) (.val 11 (aQ (Tp (getD o (0+zK ((↑(length o):Int)-1)*1) mb))) (aQ (Tp (aO (getD l i mb) o))) (by(exact HC (by(omega)) (by(omega)))) (.val 79 (zI ((↑(Rn.x (getD l i mb)):Int)+3)) (zN (bf (getD l i mb))) fS (.blk 0 0 (Tq (map dB o) 5 true) (Tq (map dB (aF o (aO (getD l i mb) o) 0)) 5 true) (by exact rfl) (Hn.inl T_ok ai false 93 0 (ap Try.prog 108 1) (fun(x:(j:Nat)×'(hj:j≤bf (l.getD i mb))×'Unit)=>match x with|⟨j,hj,_⟩=>TJ [(1,zN n),(6,(Tu 0 0 (0) ((aF o (aO (l.getD i mb) o) j).length) 1)),(11,dB (aO (l.getD i mb) o)),(19,TL false k 2 (flatMap b8 l)),(20,zN k),(21,zN i),(34,TF 8 8 1),(35,zN (Rn.x (getD l i mb))),(36,D.v (.bool false)),(39,TF 8 8 1),(40,zN (Rn.x (getD l i mb))),(41,zN (rb (Rn.s (getD l i mb)))),(42,zN (Vp.p2 (Rn.s (getD l i mb)))),(43,D.v (.bool (decide ((↑(Vp.p2 (Rn.s (getD l i mb))):Int)≤(↑(Rn.x (getD l i mb)):Int))))),(79,nD (bf (l.getD i mb))),(80,nD j)] [⟨0,0,0,0,.b ⟨(aF o (aO (l.getD i mb) o) j).map dB,5,true⟩⟩,⟨8,8,32,32,.b ⟨[zN (Rn.s (getD l i mb)),zN (Rn.x (getD l i mb))],150,false⟩⟩] 16) (fun(x:(j:Nat)×'(hj:j≤bf (l.getD i mb))×'Unit)=>match x with|⟨j,hj,_⟩=>bf (l.getD i mb)-j) [⟨Unit,.exit 7,fun x=>match x with|()=>TJ [(1,zN n),(6,(Tu 0 0 (0) ((o++replicate (bf (l.getD i mb)) (aO (l.getD i mb) o)).length) 1)),(19,TL false k 2 (flatMap b8 l)),(20,zN k),(21,zN i),(34,TF 8 8 1),(35,zN (Rn.x (getD l i mb))),(36,D.v (.bool false)),(39,TF 8 8 1),(40,zN (Rn.x (getD l i mb))),(41,zN (rb (Rn.s (getD l i mb)))),(42,zN (Vp.p2 (Rn.s (getD l i mb)))),(43,D.v (.bool (decide ((↑(Vp.p2 (Rn.s (getD l i mb))):Int)≤(↑(Rn.x (getD l i mb)):Int)))))] [⟨0,0,0,0,.b ⟨(o++replicate (bf (l.getD i mb)) (aO (l.getD i mb) o)).map dB,5,true⟩⟩,⟨8,8,32,32,.b ⟨[zN (Rn.s (getD l i mb)),zN (Rn.x (getD l i mb))],150,false⟩⟩] 16⟩] 1000 64 (fun|⟨j,hj,_⟩,Q,next2,last2=>(.s 2 (.bd ((j:Int)<(↑(bf (getD l i mb)):Int)) (fun p6 p6f=>(.s 5 (.chk (true&&Tx (length (aF o (aO (getD l i mb) o) j)*1) (length (map dB (aF o (aO (getD l i mb) o) j)))&&true&&true&&true&&true&&Tz ((length (aF o (aO (getD l i mb) o) j)+1)*1) 140737488355328) uH (.s 3 (.op ((j:Int)+1) gg (.s 1 (.val 6 (Tu 48 48 0 (length (aF o (aO (getD l i mb) o) j)+1) 1) (Tu 48 48 0 (length (aF o (aO (getD l i mb) o) (j+1))) 1) (by(exact mX)) (.val 80 (zI ((j:Int)+1)) (zN (j+1)) fS (.blk 48 48 (Tq (map dB (aF o (aO (getD l i mb) o) j)++[aQ (Tp (aO (getD l i mb) o))]) 5 true) (Tq (map dB (aF o (aO (getD l i mb) o) (j+1))) 5 true) (by(refine ay jq)) (Hn.next next2 ⟨(j+1),om,⟨⟩⟩ uJ [(48,48),(8,8)] ro)))))))))) (fun p6 p6f=>(.val 6 (Tu 0 0 0 (length (aF o (aO (getD l i mb) o) j)) 1) (Tu 0 0 0 (length (o++replicate (bf (getD l i mb)) (aO (getD l i mb) o))) 1) j5 (.blk 0 0 (Tq (map dB (aF o (aO (getD l i mb) o) j)) 5 true) (Tq (map dB (o++replicate (bf (getD l i mb)) (aO (getD l i mb) o))) 5 true) j5 (Hn.last last2 0 (():Unit) rfl [(0,0),(8,8)] ro))))))) (fun|⟨j,hj,_⟩=>by kernel_rfl) ⟨(0),om,⟨⟩⟩ [(0,0),(32,32)] ro (bY (fun|()=>(.s 2 (.ow ((i:Int)+1) (.s 1 (.val 21 (zI ((i:Int)+1)) (zN (i+1)) fS (Hn.next next1 ⟨(i+1),om,(o++replicate (bf (l.getD i mb)) (aO (l.getD i mb) o)),uK,uL,⟨⟩⟩ uM [(0,0)] ro)))))))))))))))))))))))))))))) (fun p3=>have p3f:=am p3;(.s 3 (.br ((↑(Rn.s (getD l i mb)):Int)==18) (fun p7=>have p7f:=eq_of_beq p7;(.s 3 (.op ((↑(Rn.x (getD l i mb)):Int)+8) gg (.s 4 (.op ((↑(Rn.x (getD l i mb)):Int)+8+3) gg (.s 6 (.op ((↑(length o):Int)+((↑(Rn.x (getD l i mb)):Int)+8+3)) gg (.s 3 (.bd ((n:Int)<(↑(length o):Int)+((↑(Rn.x (getD l i mb)):Int)+8+3)) (fun p8 p8f=>(.abs E8)) (fun p8 p8f=>(.s 2 (.val 6 (Tu 0 0 0 (length o) 1) (Tu 0 0 0 (length (aF o (aO (getD l i mb) o) 0)) 1) (by exact rfl) (.val 11 (bI 0) (aQ (Tp (aO (getD l i mb) o))) yg (.val 79 (zI ((↑(Rn.x (getD l i mb)):Int)+8+3)) (zN (bf (getD l i mb))) fS (.blk 0 0 (Tq (map dB o) 5 true) (Tq (map dB (aF o (aO (getD l i mb) o) 0)) 5 true) (by exact rfl) (Hn.inl T_ok ai false 93 0 (ap Try.prog 108 1) (fun(x:(j:Nat)×'(hj:j≤bf (l.getD i mb))×'Unit)=>match x with|⟨j,hj,_⟩=>TJ [(1,zN n),(6,(Tu 0 0 (0) ((aF o (aO (l.getD i mb) o) j).length) 1)),(11,dB (aO (l.getD i mb) o)),(19,TL false k 2 (flatMap b8 l)),(20,zN k),(21,zN i),(34,TF 8 8 1),(35,zN (Rn.x (getD l i mb))),(36,D.v (.bool false)),(39,TF 8 8 1),(40,zN (Rn.x (getD l i mb))),(41,zN (rb (Rn.s (getD l i mb)))),(42,zN (Vp.p2 (Rn.s (getD l i mb)))),(43,D.v (.bool (decide ((↑(Vp.p2 (Rn.s (getD l i mb))):Int)≤(↑(Rn.x (getD l i mb)):Int))))),(79,nD (bf (l.getD i mb))),(80,nD j)] [⟨0,0,0,0,.b ⟨(aF o (aO (l.getD i mb) o) j).map dB,5,true⟩⟩,⟨8,8,32,32,.b ⟨[zN (Rn.s (getD l i mb)),zN (Rn.x (getD l i mb))],150,false⟩⟩] 16) (fun(x:(j:Nat)×'(hj:j≤bf (l.getD i mb))×'Unit)=>match x with|⟨j,hj,_⟩=>bf (l.getD i mb)-j) [⟨Unit,.exit 7,fun x=>match x with|()=>TJ [(1,zN n),(6,(Tu 0 0 (0) ((o++replicate (bf (l.getD i mb)) (aO (l.getD i mb) o)).length) 1)),(19,TL false k 2 (flatMap b8 l)),(20,zN k),(21,zN i),(34,TF 8 8 1),(35,zN (Rn.x (getD l i mb))),(36,D.v (.bool false)),(39,TF 8 8 1),(40,zN (Rn.x (getD l i mb))),(41,zN (rb (Rn.s (getD l i mb)))),(42,zN (Vp.p2 (Rn.s (getD l i mb)))),(43,D.v (.bool (decide ((↑(Vp.p2 (Rn.s (getD l i mb))):Int)≤(↑(Rn.x (getD l i mb)):Int)))))] [⟨0,0,0,0,.b ⟨(o++replicate (bf (l.getD i mb)) (aO (l.getD i mb) o)).map dB,5,true⟩⟩,⟨8,8,32,32,.b ⟨[zN (Rn.s (getD l i mb)),zN (Rn.x (getD l i mb))],150,false⟩⟩] 16⟩] 1000 64 (fun|⟨j,hj,_⟩,Q,next2,last2=>(.s 2 (.bd ((j:Int)<(↑(bf (getD l i mb)):Int)) (fun p9 p9f=>(.s 5 (.chk (true&&Tx (length (aF o (aO (getD l i mb) o) j)*1) (length (map dB (aF o (aO (getD l i mb) o) j)))&&true&&true&&true&&true&&Tz ((length (aF o (aO (getD l i mb) o) j)+1)*1) 140737488355328) uH (.s 3 (.op ((j:Int)+1) gg (.s 1 (.val 6 (Tu 48 48 0 (length (aF o (aO (getD l i mb) o) j)+1) 1) (Tu 48 48 0 (length (aF o (aO (getD l i mb) o) (j+1))) 1) (by(exact mX)) (.val 80 (zI ((j:Int)+1)) (zN (j+1)) fS (.blk 48 48 (Tq (map dB (aF o (aO (getD l i mb) o) j)++[aQ (Tp (aO (getD l i mb) o))]) 5 true) (Tq (map dB (aF o (aO (getD l i mb) o) (j+1))) 5 true) (by(refine ay jq)) (Hn.next next2 ⟨(j+1),om,⟨⟩⟩ uJ [(48,48),(8,8)] ro)))))))))) (fun p9 p9f=>(.val 6 (Tu 0 0 0 (length (aF o (aO (getD l i mb) o) j)) 1) (Tu 0 0 0 (length (o++replicate (bf (getD l i mb)) (aO (getD l i mb) o))) 1) j5 (.blk 0 0 (Tq (map dB (aF o (aO (getD l i mb) o) j)) 5 true) (Tq (map dB (o++replicate (bf (getD l i mb)) (aO (getD l i mb) o))) 5 true) j5 (Hn.last last2 0 (():Unit) rfl [(0,0),(8,8)] ro))))))) (fun|⟨j,hj,_⟩=>by kernel_rfl) ⟨(0),om,⟨⟩⟩ [(0,0),(32,32)] ro (bY (fun|()=>(.s 2 (.ow ((i:Int)+1) (.s 1 (.val 21 (zI ((i:Int)+1)) (zN (i+1)) fS (Hn.next next1 ⟨(i+1),om,(o++replicate (bf (l.getD i mb)) (aO (l.getD i mb) o)),uK,uL,⟨⟩⟩ uM [(0,0)] ro))))))))))))))))))))))) (fun p7=>have p7f:=am p7;(.s 3 (.br ((↑(Rn.s (getD l i mb)):Int)==17) (fun p10=>have p10f:=eq_of_beq p10;(.s 3 (.op ((↑(Rn.x (getD l i mb)):Int)+3) gg (.s 6 (.op ((↑(length o):Int)+((↑(Rn.x (getD l i mb)):Int)+3)) gg (.s 3 (.bd ((n:Int)<(↑(length o):Int)+((↑(Rn.x (getD l i mb)):Int)+3)) (fun p11 p11f=>(.abs E8)) (fun p11 p11f=>(.s 2 (.val 6 (Tu 0 0 0 (length o) 1) (Tu 0 0 0 (length (aF o (aO (getD l i mb) o) 0)) 1) (by exact rfl) (.val 11 (bI 0) (aQ (Tp (aO (getD l i mb) o))) yg (.val 79 (zI ((↑(Rn.x (getD l i mb)):Int)+3)) (zN (bf (getD l i mb))) fS (.blk 0 0 (Tq (map dB o) 5 true) (Tq (map dB (aF o (aO (getD l i mb) o) 0)) 5 true) (by exact rfl) (Hn.inl T_ok ai false 93 0 (ap Try.prog 108 1) (fun(x:(j:Nat)×'(hj:j≤bf (l.getD i mb))×'Unit)=>match x with|⟨j,hj,_⟩=>TJ [(1,zN n),(6,(Tu 0 0 (0) ((aF o (aO (l.getD i mb) o) j).length) 1)),(11,dB (aO (l.getD i mb) o)),(19,TL false k 2 (flatMap b8 l)),(20,zN k),(21,zN i),(34,TF 8 8 1),(35,zN (Rn.x (getD l i mb))),(36,D.v (.bool false)),(39,TF 8 8 1),(40,zN (Rn.x (getD l i mb))),(41,zN (rb (Rn.s (getD l i mb)))),(42,zN (Vp.p2 (Rn.s (getD l i mb)))),(43,D.v (.bool (decide ((↑(Vp.p2 (Rn.s (getD l i mb))):Int)≤(↑(Rn.x (getD l i mb)):Int))))),(79,nD (bf (l.getD i mb))),(80,nD j)] [⟨0,0,0,0,.b ⟨(aF o (aO (l.getD i mb) o) j).map dB,5,true⟩⟩,⟨8,8,32,32,.b ⟨[zN (Rn.s (getD l i mb)),zN (Rn.x (getD l i mb))],150,false⟩⟩] 16) (fun(x:(j:Nat)×'(hj:j≤bf (l.getD i mb))×'Unit)=>match x with|⟨j,hj,_⟩=>bf (l.getD i mb)-j) [⟨Unit,.exit 7,fun x=>match x with|()=>TJ [(1,zN n),(6,(Tu 0 0 (0) ((o++replicate (bf (l.getD i mb)) (aO (l.getD i mb) o)).length) 1)),(19,TL false k 2 (flatMap b8 l)),(20,zN k),(21,zN i),(34,TF 8 8 1),(35,zN (Rn.x (getD l i mb))),(36,D.v (.bool false)),(39,TF 8 8 1),(40,zN (Rn.x (getD l i mb))),(41,zN (rb (Rn.s (getD l i mb)))),(42,zN (Vp.p2 (Rn.s (getD l i mb)))),(43,D.v (.bool (decide ((↑(Vp.p2 (Rn.s (getD l i mb))):Int)≤(↑(Rn.x (getD l i mb)):Int)))))] [⟨0,0,0,0,.b ⟨(o++replicate (bf (l.getD i mb)) (aO (l.getD i mb) o)).map dB,5,true⟩⟩,⟨8,8,32,32,.b ⟨[zN (Rn.s (getD l i mb)),zN (Rn.x (getD l i mb))],150,false⟩⟩] 16⟩] 1000 64 (fun|⟨j,hj,_⟩,Q,next2,last2=>(.s 2 (.bd ((j:Int)<(↑(bf (getD l i mb)):Int)) (fun p12 p12f=>(.s 5 (.chk (true&&Tx (length (aF o (aO (getD l i mb) o) j)*1) (length (map dB (aF o (aO (getD l i mb) o) j)))&&true&&true&&true&&true&&Tz ((length (aF o (aO (getD l i mb) o) j)+1)*1) 140737488355328) uH (.s 3 (.op ((j:Int)+1) gg (.s 1 (.val 6 (Tu 48 48 0 (length (aF o (aO (getD l i mb) o) j)+1) 1) (Tu 48 48 0 (length (aF o (aO (getD l i mb) o) (j+1))) 1) (by(exact mX)) (.val 80 (zI ((j:Int)+1)) (zN (j+1)) fS (.blk 48 48 (Tq (map dB (aF o (aO (getD l i mb) o) j)++[aQ (Tp (aO (getD l i mb) o))]) 5 true) (Tq (map dB (aF o (aO (getD l i mb) o) (j+1))) 5 true) (by(refine ay jq)) (Hn.next next2 ⟨(j+1),om,⟨⟩⟩ uJ [(48,48),(8,8)] ro)))))))))) (fun p12 p12f=>(.val 6 (Tu 0 0 0 (length (aF o (aO (getD l i mb) o) j)) 1) (Tu 0 0 0 (length (o++replicate (bf (getD l i mb)) (aO (getD l i mb) o))) 1) j5 (.blk 0 0 (Tq (map dB (aF o (aO (getD l i mb) o) j)) 5 true) (Tq (map dB (o++replicate (bf (getD l i mb)) (aO (getD l i mb) o))) 5 true) j5 (Hn.last last2 0 (():Unit) rfl [(0,0),(8,8)] ro))))))) (fun|⟨j,hj,_⟩=>by kernel_rfl) ⟨(0),om,⟨⟩⟩ [(0,0),(32,32)] ro (bY (fun|()=>(.s 2 (.ow ((i:Int)+1) (.s 1 (.val 21 (zI ((i:Int)+1)) (zN (i+1)) fS (Hn.next next1 ⟨(i+1),om,(o++replicate (bf (l.getD i mb)) (aO (l.getD i mb) o)),uK,uL,⟨⟩⟩ uM [(0,0)] ro))))))))))))))))))))) (fun p10=>have p10f:=am p10;(.s 7 (.opt (ar .u8 (↑(Rn.s (getD l i mb)):Int)) (aQ (Rn.s (getD l i mb))) (bB om) (.s 7 (.ow ((↑(length o):Int)+1) (.s 3 (.bd ((n:Int)<(↑(length o):Int)+1) (fun p13 p13f=>(.abs E8)) (fun p13 p13f=>(.s 2 (.val 6 (Tu 0 0 0 (length o) 1) (Tu 0 0 0 (length (aF o (aO (getD l i mb) o) 0)) 1) (by exact rfl) (.val 11 (aQ (Rn.s (getD l i mb))) (aQ (Tp (aO (getD l i mb) o))) (by(exact N1 (by(omega)))) (.val 79 (zI 1) (zN (bf (getD l i mb))) fS (.blk 0 0 (Tq (map dB o) 5 true) (Tq (map dB (aF o (aO (getD l i mb) o) 0)) 5 true) (by exact rfl) (Hn.inl T_ok ai false 93 0 (ap Try.prog 108 1) (fun(x:(j:Nat)×'(hj:j≤bf (l.getD i mb))×'Unit)=>match x with|⟨j,hj,_⟩=>TJ [(1,zN n),(6,(Tu 0 0 (0) ((aF o (aO (l.getD i mb) o) j).length) 1)),(11,dB (aO (l.getD i mb) o)),(19,TL false k 2 (flatMap b8 l)),(20,zN k),(21,zN i),(34,TF 8 8 1),(35,zN (Rn.x (getD l i mb))),(36,D.v (.bool false)),(39,TF 8 8 1),(40,zN (Rn.x (getD l i mb))),(41,zN (rb (Rn.s (getD l i mb)))),(42,zN (Vp.p2 (Rn.s (getD l i mb)))),(43,D.v (.bool (decide ((↑(Vp.p2 (Rn.s (getD l i mb))):Int)≤(↑(Rn.x (getD l i mb)):Int))))),(79,nD (bf (l.getD i mb))),(80,nD j)] [⟨0,0,0,0,.b ⟨(aF o (aO (l.getD i mb) o) j).map dB,5,true⟩⟩,⟨8,8,32,32,.b ⟨[zN (Rn.s (getD l i mb)),zN (Rn.x (getD l i mb))],150,false⟩⟩] 16) (fun(x:(j:Nat)×'(hj:j≤bf (l.getD i mb))×'Unit)=>match x with|⟨j,hj,_⟩=>bf (l.getD i mb)-j) [⟨Unit,.exit 7,fun x=>match x with|()=>TJ [(1,zN n),(6,(Tu 0 0 (0) ((o++replicate (bf (l.getD i mb)) (aO (l.getD i mb) o)).length) 1)),(19,TL false k 2 (flatMap b8 l)),(20,zN k),(21,zN i),(34,TF 8 8 1),(35,zN (Rn.x (getD l i mb))),(36,D.v (.bool false)),(39,TF 8 8 1),(40,zN (Rn.x (getD l i mb))),(41,zN (rb (Rn.s (getD l i mb)))),(42,zN (Vp.p2 (Rn.s (getD l i mb)))),(43,D.v (.bool (decide ((↑(Vp.p2 (Rn.s (getD l i mb))):Int)≤(↑(Rn.x (getD l i mb)):Int)))))] [⟨0,0,0,0,.b ⟨(o++replicate (bf (l.getD i mb)) (aO (l.getD i mb) o)).map dB,5,true⟩⟩,⟨8,8,32,32,.b ⟨[zN (Rn.s (getD l i mb)),zN (Rn.x (getD l i mb))],150,false⟩⟩] 16⟩] 1000 64 (fun|⟨j,hj,_⟩,Q,next2,last2=>(.s 2 (.bd ((j:Int)<(↑(bf (getD l i mb)):Int)) (fun p14 p14f=>(.s 5 (.chk (true&&Tx (length (aF o (aO (getD l i mb) o) j)*1) (length (map dB (aF o (aO (getD l i mb) o) j)))&&true&&true&&true&&true&&Tz ((length (aF o (aO (getD l i mb) o) j)+1)*1) 140737488355328) uH (.s 3 (.op ((j:Int)+1) gg (.s 1 (.val 6 (Tu 48 48 0 (length (aF o (aO (getD l i mb) o) j)+1) 1) (Tu 48 48 0 (length (aF o (aO (getD l i mb) o) (j+1))) 1) (by(exact mX)) (.val 80 (zI ((j:Int)+1)) (zN (j+1)) fS (.blk 48 48 (Tq (map dB (aF o (aO (getD l i mb) o) j)++[aQ (Tp (aO (getD l i mb) o))]) 5 true) (Tq (map dB (aF o (aO (getD l i mb) o) (j+1))) 5 true) (by(refine ay jq)) (Hn.next next2 ⟨(j+1),om,⟨⟩⟩ uJ [(48,48),(8,8)] ro)))))))))) (fun p14 p14f=>(.val 6 (Tu 0 0 0 (length (aF o (aO (getD l i mb) o) j)) 1) (Tu 0 0 0 (length (o++replicate (bf (getD l i mb)) (aO (getD l i mb) o))) 1) j5 (.blk 0 0 (Tq (map dB (aF o (aO (getD l i mb) o) j)) 5 true) (Tq (map dB (o++replicate (bf (getD l i mb)) (aO (getD l i mb) o))) 5 true) j5 (Hn.last last2 0 (():Unit) rfl [(0,0),(8,8)] ro))))))) (fun|⟨j,hj,_⟩=>by kernel_rfl) ⟨(0),om,⟨⟩⟩ [(0,0),(32,32)] ro (bY (fun|()=>(.s 2 (.ow ((i:Int)+1) (.s 1 (.val 21 (zI ((i:Int)+1)) (zN (i+1)) fS (Hn.next next1 ⟨(i+1),om,(o++replicate (bf (l.getD i mb)) (aO (l.getD i mb) o)),uK,uL,⟨⟩⟩ uM [(0,0)] ro)))))))))))))))))))))))))))))))))))) (fun p1=>have p1f:=wy p1;(.abs (by(have h9:=di (l.getD i mb).s;have hb:=hB i;have hc:=eo (l.getD i mb);have q:=yi (l:=l) (n:=n) (i:=i) (o:=o) om (.inl om);rw[hR]at q;rw[q]at h;exact absurd h (by decide))))))))))))) (fun p0 p0f=>(.val 6 (Tu 0 0 0 (length o) 1) (Tu 0 0 0 (length (Ty (cq n l))) 1) (by(rw[(se hR om h).1])) (.blk 0 0 (Tq (map dB o) 5 true) (Tq (map dB (Ty (cq n l))) 5 true) (by(rw[(se hR om h).1])) (Hn.last last1 0 (⟨(by(exact(se hR om h).2)),⟨⟩⟩:(hl:(cq n l).1.length=n)×'Unit) rfl [(0,0)] ro))))))) (fun|⟨i,hi,o,ho,hR,_⟩=>by kernel_rfl) ⟨(0),om,([]),(by(simp;done)),(by(exact(iJ n l).symm)),⟨⟩⟩ [(96,96)] ro (bY (fun|⟨hl,_⟩=>(.s 5 (.f ((↑(length (Ty (cq n l))):Int) !=(n:Int)) (by(simp <;>(omega))) (.s 3 (.out [0] [0] (Uw [Tu 0 0 0 (length (Ty (cq n l))) 1,zI 0]) [Tq (map dB (Ty (cq n l))) 5 true] R (ok _ _ wr wr))))))))))))) kr
theorem Ck {n:Nat}{l:List Rn}{i:Nat}{o:List UInt8}{R:List UInt8×Nat}(hR:ck n (l.drop i) o=R)(hi:l.length≤i)(h:R.2≠0):o.length≠n∧R.2=100:=by
 rw[Hx hi]at hR
 split at hR
 ·rw[←hR]at h;exact absurd rfl h
 ·next q=>exact⟨q,by rw[←hR]⟩
theorem E9 (l:List Rn)(k:Nat)(hk:k=l.length)(hK:k≤1000)(n:Nat)(hn:n≤320)(hB:∀i,(l.getD i mb).x≤1000000∧(l.getD i mb).s≤1000000)(h:(cq n l).2≠0):S0 108 [.sl false k 2 (l.flatMap b8),nD n] [] (.tup [dT,nD (cq n l).2]) []:=by
 refine SpecH.run T_ok ai Try.func108 rfl rfl rfl trivial rfl 1000 64 (fun R ok=>(.s 12 (.f (decide (320<(n:Int))) Cj (.s 4 (.nils 6 96 1 5 (Hn.inl T_ok ai false 93 0 (ap Try.prog 108 0) (fun(x:(i:Nat)×'(hi:i≤k)×'(o:List UInt8)×'(ho:o.length≤n)×'(hR:ck n (l.drop i) o=cq n l)×'Unit)=>match x with|⟨i,hi,o,ho,hR,_⟩=>TJ [(1,zN n),(6,(Tu 0 0 (0) (o.length) 1)),(19,TL false k 2 (flatMap b8 l)),(20,zN k),(21,nD i)] [⟨0,0,96,96,.b ⟨o.map dB,5,true⟩⟩] 8) (fun(x:(i:Nat)×'(hi:i≤k)×'(o:List UInt8)×'(ho:o.length≤n)×'(hR:ck n (l.drop i) o=cq n l)×'Unit)=>match x with|⟨i,hi,o,ho,hR,_⟩=>k-i) [⟨(o2:List UInt8)×'(ho2:o2.length≠n)×'(ho3:o2.length≤n)×'(he:(cq n l).2=100)×'Unit,.exit 0,fun x=>match x with|⟨o2,ho2,ho3,he,_⟩=>TJ [(1,zN n),(6,(Tu 0 0 (0) (o2.length) 1)),(19,TL false k 2 (flatMap b8 l)),(20,zN k)] [⟨0,0,96,96,.b ⟨o2.map dB,5,true⟩⟩] 8⟩,⟨Unit,.ret,fun x=>match x with|()=>TJ [(4,dT),(5,nD (cq n l).2)] [] 8⟩] 1000 64 (fun|⟨i,hi,o,ho,hR,_⟩,Q,next1,last1=>(.s 2 (.bd ((i:Int)<k) (fun p0 p0f=>(.s 1 (.chk (true&&decide ((i:Int)<k)&&true) E7 (.s 2 (.chk (Tz (i*2+2) (length (flatMap b8 l))) Hw (.lst (take 2 (drop (i*2) (flatMap b8 l))) ([zN (Rn.s (getD l i mb)),zN (Rn.x (getD l i mb))]) (aB (k:=2) (i:=i) (fun _=>rfl) om om) (.s 12 (.em (decide (Rn.s (getD l i mb)≤18)) (fun p1=>have p1f:=wx p1;(.cl 81 false [] (.fn NV (@yj (Rn.s (getD l i mb)) om)) (.s 38 (.opt (ar .i64 (2^min (rb (Rn.s (getD l i mb))) 64*1)) (nD (p2 (Rn.s (getD l i mb)))) (@HA (l.getD i mb).s) (.s 4 (.bd ((↑(p2 (Rn.s (getD l i mb))):Int)≤(↑(Rn.x (getD l i mb)):Int)) (fun p2 p2f=>(.s 2 (.val 5 (zI 8) (zN (Tm (cq n l))) (by(have h9:=di (l.getD i mb).s;have hb:=hB i;have hc:=eo (l.getD i mb);refine aT ?_;have q:=yi (l:=l) (n:=n) (i:=i) (o:=o) om (.inr om);rw[hR]at q;rw[q];rfl)) (Hn.last last1 1 (():Unit) rfl [] ro)))) (fun p2 p2f=>(.s 18 (.br ((↑(Rn.s (getD l i mb)):Int)==16) (fun p3=>have p3f:=eq_of_beq p3;(.s 4 (.br ((↑(length o):Int)==0) (fun p4=>have p4f:=eq_of_beq p4;(.s 2 (.val 5 (zI 100) (zN (Tm (cq n l))) (by(have h9:=di (l.getD i mb).s;have hb:=hB i;have hc:=eo (l.getD i mb);refine aT ?_;have q:=Hy (l:=l) (n:=n) (i:=i) (o:=o) om om om;rw[hR]at q;rw[q];rfl)) (Hn.last last1 1 (():Unit) rfl [] ro)))) (fun p4=>have p4f:=am p4;(.s 5 (.ow ((↑(length o):Int)-1) (.s 1 (.chk (decide (0≤(↑(length o):Int)-1)&&decide ((↑(length o):Int)-1<(↑(length o):Int))) E7 (.s 2 (.opt ((map dB o)[0+zK ((↑(length o):Int)-1)*1]?) (dB (getD o (0+zK ((↑(length o):Int)-1)*1) mb)) (aq _ _ om) (.s 4 (.op ((↑(Rn.x (getD l i mb)):Int)+3) gg (.s 6 (.op ((↑(length o):Int)+((↑(Rn.x (getD l i mb)):Int)+3)) gg (.s 3 (.bd ((n:Int)<(↑(length o):Int)+((↑(Rn.x (getD l i mb)):Int)+3)) (fun p5 p5f=>(.s 2 (.val 5 (zI 100) (zN (Tm (cq n l))) yh (Hn.last last1 1 (():Unit) rfl [] ro)))) (fun p5 p5f=>(.s 2 (.val 6 (Tu 0 0 0 (length o) 1) (Tu 0 0 0 (length (aF o (aO (getD l i mb) o) 0)) 1) (by exact rfl) (.val 11 (aQ (Tp (getD o (0+zK ((↑(length o):Int)-1)*1) mb))) (aQ (Tp (aO (getD l i mb) o))) (by(exact HC (by(omega)) (by(omega)))) (.val 79 (zI ((↑(Rn.x (getD l i mb)):Int)+3)) (zN (bf (getD l i mb))) fS (.blk 0 0 (Tq (map dB o) 5 true) (Tq (map dB (aF o (aO (getD l i mb) o) 0)) 5 true) (by exact rfl) (Hn.inl T_ok ai false 93 0 (ap Try.prog 108 1) (fun(x:(j:Nat)×'(hj:j≤bf (l.getD i mb))×'Unit)=>match x with|⟨j,hj,_⟩=>TJ [(1,zN n),(6,(Tu 0 0 (0) ((aF o (aO (l.getD i mb) o) j).length) 1)),(11,dB (aO (l.getD i mb) o)),(19,TL false k 2 (flatMap b8 l)),(20,zN k),(21,zN i),(34,TF 8 8 1),(35,zN (Rn.x (getD l i mb))),(36,D.v (.bool false)),(39,TF 8 8 1),(40,zN (Rn.x (getD l i mb))),(41,zN (rb (Rn.s (getD l i mb)))),(42,zN (Vp.p2 (Rn.s (getD l i mb)))),(43,D.v (.bool (decide ((↑(Vp.p2 (Rn.s (getD l i mb))):Int)≤(↑(Rn.x (getD l i mb)):Int))))),(79,nD (bf (l.getD i mb))),(80,nD j)] [⟨0,0,0,0,.b ⟨(aF o (aO (l.getD i mb) o) j).map dB,5,true⟩⟩,⟨8,8,32,32,.b ⟨[zN (Rn.s (getD l i mb)),zN (Rn.x (getD l i mb))],150,false⟩⟩] 16) (fun(x:(j:Nat)×'(hj:j≤bf (l.getD i mb))×'Unit)=>match x with|⟨j,hj,_⟩=>bf (l.getD i mb)-j) [⟨Unit,.exit 7,fun x=>match x with|()=>TJ [(1,zN n),(6,(Tu 0 0 (0) ((o++replicate (bf (l.getD i mb)) (aO (l.getD i mb) o)).length) 1)),(19,TL false k 2 (flatMap b8 l)),(20,zN k),(21,zN i),(34,TF 8 8 1),(35,zN (Rn.x (getD l i mb))),(36,D.v (.bool false)),(39,TF 8 8 1),(40,zN (Rn.x (getD l i mb))),(41,zN (rb (Rn.s (getD l i mb)))),(42,zN (Vp.p2 (Rn.s (getD l i mb)))),(43,D.v (.bool (decide ((↑(Vp.p2 (Rn.s (getD l i mb))):Int)≤(↑(Rn.x (getD l i mb)):Int)))))] [⟨0,0,0,0,.b ⟨(o++replicate (bf (l.getD i mb)) (aO (l.getD i mb) o)).map dB,5,true⟩⟩,⟨8,8,32,32,.b ⟨[zN (Rn.s (getD l i mb)),zN (Rn.x (getD l i mb))],150,false⟩⟩] 16⟩] 1000 64 (fun|⟨j,hj,_⟩,Q,next2,last2=>(.s 2 (.bd ((j:Int)<(↑(bf (getD l i mb)):Int)) (fun p6 p6f=>(.s 5 (.chk (true&&Tx (length (aF o (aO (getD l i mb) o) j)*1) (length (map dB (aF o (aO (getD l i mb) o) j)))&&true&&true&&true&&true&&Tz ((length (aF o (aO (getD l i mb) o) j)+1)*1) 140737488355328) uH (.s 3 (.op ((j:Int)+1) gg (.s 1 (.val 6 (Tu 48 48 0 (length (aF o (aO (getD l i mb) o) j)+1) 1) (Tu 48 48 0 (length (aF o (aO (getD l i mb) o) (j+1))) 1) (by(exact mX)) (.val 80 (zI ((j:Int)+1)) (zN (j+1)) fS (.blk 48 48 (Tq (map dB (aF o (aO (getD l i mb) o) j)++[aQ (Tp (aO (getD l i mb) o))]) 5 true) (Tq (map dB (aF o (aO (getD l i mb) o) (j+1))) 5 true) (by(refine ay jq)) (Hn.next next2 ⟨(j+1),om,⟨⟩⟩ uJ [(48,48),(8,8)] ro)))))))))) (fun p6 p6f=>(.val 6 (Tu 0 0 0 (length (aF o (aO (getD l i mb) o) j)) 1) (Tu 0 0 0 (length (o++replicate (bf (getD l i mb)) (aO (getD l i mb) o))) 1) j5 (.blk 0 0 (Tq (map dB (aF o (aO (getD l i mb) o) j)) 5 true) (Tq (map dB (o++replicate (bf (getD l i mb)) (aO (getD l i mb) o))) 5 true) j5 (Hn.last last2 0 (():Unit) rfl [(0,0),(8,8)] ro))))))) (fun|⟨j,hj,_⟩=>by kernel_rfl) ⟨(0),om,⟨⟩⟩ [(0,0),(32,32)] ro (bY (fun|()=>(.s 2 (.ow ((i:Int)+1) (.s 1 (.val 21 (zI ((i:Int)+1)) (zN (i+1)) fS (Hn.next next1 ⟨(i+1),om,(o++replicate (bf (l.getD i mb)) (aO (l.getD i mb) o)),uK,uL,⟨⟩⟩ uM [(0,0)] ro)))))))))))))))))))))))))))))) (fun p3=>have p3f:=am p3;(.s 3 (.br ((↑(Rn.s (getD l i mb)):Int)==18) (fun p7=>have p7f:=eq_of_beq p7;(.s 3 (.op ((↑(Rn.x (getD l i mb)):Int)+8) gg (.s 4 (.op ((↑(Rn.x (getD l i mb)):Int)+8+3) gg (.s 6 (.op ((↑(length o):Int)+((↑(Rn.x (getD l i mb)):Int)+8+3)) gg (.s 3 (.bd ((n:Int)<(↑(length o):Int)+((↑(Rn.x (getD l i mb)):Int)+8+3)) (fun p8 p8f=>(.s 2 (.val 5 (zI 100) (zN (Tm (cq n l))) yh (Hn.last last1 1 (():Unit) rfl [] ro)))) (fun p8 p8f=>(.s 2 (.val 6 (Tu 0 0 0 (length o) 1) (Tu 0 0 0 (length (aF o (aO (getD l i mb) o) 0)) 1) (by exact rfl) (.val 11 (bI 0) (aQ (Tp (aO (getD l i mb) o))) yg (.val 79 (zI ((↑(Rn.x (getD l i mb)):Int)+8+3)) (zN (bf (getD l i mb))) fS (.blk 0 0 (Tq (map dB o) 5 true) (Tq (map dB (aF o (aO (getD l i mb) o) 0)) 5 true) (by exact rfl) (Hn.inl T_ok ai false 93 0 (ap Try.prog 108 1) (fun(x:(j:Nat)×'(hj:j≤bf (l.getD i mb))×'Unit)=>match x with|⟨j,hj,_⟩=>TJ [(1,zN n),(6,(Tu 0 0 (0) ((aF o (aO (l.getD i mb) o) j).length) 1)),(11,dB (aO (l.getD i mb) o)),(19,TL false k 2 (flatMap b8 l)),(20,zN k),(21,zN i),(34,TF 8 8 1),(35,zN (Rn.x (getD l i mb))),(36,D.v (.bool false)),(39,TF 8 8 1),(40,zN (Rn.x (getD l i mb))),(41,zN (rb (Rn.s (getD l i mb)))),(42,zN (Vp.p2 (Rn.s (getD l i mb)))),(43,D.v (.bool (decide ((↑(Vp.p2 (Rn.s (getD l i mb))):Int)≤(↑(Rn.x (getD l i mb)):Int))))),(79,nD (bf (l.getD i mb))),(80,nD j)] [⟨0,0,0,0,.b ⟨(aF o (aO (l.getD i mb) o) j).map dB,5,true⟩⟩,⟨8,8,32,32,.b ⟨[zN (Rn.s (getD l i mb)),zN (Rn.x (getD l i mb))],150,false⟩⟩] 16) (fun(x:(j:Nat)×'(hj:j≤bf (l.getD i mb))×'Unit)=>match x with|⟨j,hj,_⟩=>bf (l.getD i mb)-j) [⟨Unit,.exit 7,fun x=>match x with|()=>TJ [(1,zN n),(6,(Tu 0 0 (0) ((o++replicate (bf (l.getD i mb)) (aO (l.getD i mb) o)).length) 1)),(19,TL false k 2 (flatMap b8 l)),(20,zN k),(21,zN i),(34,TF 8 8 1),(35,zN (Rn.x (getD l i mb))),(36,D.v (.bool false)),(39,TF 8 8 1),(40,zN (Rn.x (getD l i mb))),(41,zN (rb (Rn.s (getD l i mb)))),(42,zN (Vp.p2 (Rn.s (getD l i mb)))),(43,D.v (.bool (decide ((↑(Vp.p2 (Rn.s (getD l i mb))):Int)≤(↑(Rn.x (getD l i mb)):Int)))))] [⟨0,0,0,0,.b ⟨(o++replicate (bf (l.getD i mb)) (aO (l.getD i mb) o)).map dB,5,true⟩⟩,⟨8,8,32,32,.b ⟨[zN (Rn.s (getD l i mb)),zN (Rn.x (getD l i mb))],150,false⟩⟩] 16⟩] 1000 64 (fun|⟨j,hj,_⟩,Q,next2,last2=>(.s 2 (.bd ((j:Int)<(↑(bf (getD l i mb)):Int)) (fun p9 p9f=>(.s 5 (.chk (true&&Tx (length (aF o (aO (getD l i mb) o) j)*1) (length (map dB (aF o (aO (getD l i mb) o) j)))&&true&&true&&true&&true&&Tz ((length (aF o (aO (getD l i mb) o) j)+1)*1) 140737488355328) uH (.s 3 (.op ((j:Int)+1) gg (.s 1 (.val 6 (Tu 48 48 0 (length (aF o (aO (getD l i mb) o) j)+1) 1) (Tu 48 48 0 (length (aF o (aO (getD l i mb) o) (j+1))) 1) (by(exact mX)) (.val 80 (zI ((j:Int)+1)) (zN (j+1)) fS (.blk 48 48 (Tq (map dB (aF o (aO (getD l i mb) o) j)++[aQ (Tp (aO (getD l i mb) o))]) 5 true) (Tq (map dB (aF o (aO (getD l i mb) o) (j+1))) 5 true) (by(refine ay jq)) (Hn.next next2 ⟨(j+1),om,⟨⟩⟩ uJ [(48,48),(8,8)] ro)))))))))) (fun p9 p9f=>(.val 6 (Tu 0 0 0 (length (aF o (aO (getD l i mb) o) j)) 1) (Tu 0 0 0 (length (o++replicate (bf (getD l i mb)) (aO (getD l i mb) o))) 1) j5 (.blk 0 0 (Tq (map dB (aF o (aO (getD l i mb) o) j)) 5 true) (Tq (map dB (o++replicate (bf (getD l i mb)) (aO (getD l i mb) o))) 5 true) j5 (Hn.last last2 0 (():Unit) rfl [(0,0),(8,8)] ro))))))) (fun|⟨j,hj,_⟩=>by kernel_rfl) ⟨(0),om,⟨⟩⟩ [(0,0),(32,32)] ro (bY (fun|()=>(.s 2 (.ow ((i:Int)+1) (.s 1 (.val 21 (zI ((i:Int)+1)) (zN (i+1)) fS (Hn.next next1 ⟨(i+1),om,(o++replicate (bf (l.getD i mb)) (aO (l.getD i mb) o)),uK,uL,⟨⟩⟩ uM [(0,0)] ro))))))))))))))))))))))) (fun p7=>have p7f:=am p7;(.s 3 (.br ((↑(Rn.s (getD l i mb)):Int)==17) (fun p10=>have p10f:=eq_of_beq p10;(.s 3 (.op ((↑(Rn.x (getD l i mb)):Int)+3) gg (.s 6 (.op ((↑(length o):Int)+((↑(Rn.x (getD l i mb)):Int)+3)) gg (.s 3 (.bd ((n:Int)<(↑(length o):Int)+((↑(Rn.x (getD l i mb)):Int)+3)) (fun p11 p11f=>(.s 2 (.val 5 (zI 100) (zN (Tm (cq n l))) yh (Hn.last last1 1 (():Unit) rfl [] ro)))) (fun p11 p11f=>(.s 2 (.val 6 (Tu 0 0 0 (length o) 1) (Tu 0 0 0 (length (aF o (aO (getD l i mb) o) 0)) 1) (by exact rfl) (.val 11 (bI 0) (aQ (Tp (aO (getD l i mb) o))) yg (.val 79 (zI ((↑(Rn.x (getD l i mb)):Int)+3)) (zN (bf (getD l i mb))) fS (.blk 0 0 (Tq (map dB o) 5 true) (Tq (map dB (aF o (aO (getD l i mb) o) 0)) 5 true) (by exact rfl) (Hn.inl T_ok ai false 93 0 (ap Try.prog 108 1) (fun(x:(j:Nat)×'(hj:j≤bf (l.getD i mb))×'Unit)=>match x with|⟨j,hj,_⟩=>TJ [(1,zN n),(6,(Tu 0 0 (0) ((aF o (aO (l.getD i mb) o) j).length) 1)),(11,dB (aO (l.getD i mb) o)),(19,TL false k 2 (flatMap b8 l)),(20,zN k),(21,zN i),(34,TF 8 8 1),(35,zN (Rn.x (getD l i mb))),(36,D.v (.bool false)),(39,TF 8 8 1),(40,zN (Rn.x (getD l i mb))),(41,zN (rb (Rn.s (getD l i mb)))),(42,zN (Vp.p2 (Rn.s (getD l i mb)))),(43,D.v (.bool (decide ((↑(Vp.p2 (Rn.s (getD l i mb))):Int)≤(↑(Rn.x (getD l i mb)):Int))))),(79,nD (bf (l.getD i mb))),(80,nD j)] [⟨0,0,0,0,.b ⟨(aF o (aO (l.getD i mb) o) j).map dB,5,true⟩⟩,⟨8,8,32,32,.b ⟨[zN (Rn.s (getD l i mb)),zN (Rn.x (getD l i mb))],150,false⟩⟩] 16) (fun(x:(j:Nat)×'(hj:j≤bf (l.getD i mb))×'Unit)=>match x with|⟨j,hj,_⟩=>bf (l.getD i mb)-j) [⟨Unit,.exit 7,fun x=>match x with|()=>TJ [(1,zN n),(6,(Tu 0 0 (0) ((o++replicate (bf (l.getD i mb)) (aO (l.getD i mb) o)).length) 1)),(19,TL false k 2 (flatMap b8 l)),(20,zN k),(21,zN i),(34,TF 8 8 1),(35,zN (Rn.x (getD l i mb))),(36,D.v (.bool false)),(39,TF 8 8 1),(40,zN (Rn.x (getD l i mb))),(41,zN (rb (Rn.s (getD l i mb)))),(42,zN (Vp.p2 (Rn.s (getD l i mb)))),(43,D.v (.bool (decide ((↑(Vp.p2 (Rn.s (getD l i mb))):Int)≤(↑(Rn.x (getD l i mb)):Int)))))] [⟨0,0,0,0,.b ⟨(o++replicate (bf (l.getD i mb)) (aO (l.getD i mb) o)).map dB,5,true⟩⟩,⟨8,8,32,32,.b ⟨[zN (Rn.s (getD l i mb)),zN (Rn.x (getD l i mb))],150,false⟩⟩] 16⟩] 1000 64 (fun|⟨j,hj,_⟩,Q,next2,last2=>(.s 2 (.bd ((j:Int)<(↑(bf (getD l i mb)):Int)) (fun p12 p12f=>(.s 5 (.chk (true&&Tx (length (aF o (aO (getD l i mb) o) j)*1) (length (map dB (aF o (aO (getD l i mb) o) j)))&&true&&true&&true&&true&&Tz ((length (aF o (aO (getD l i mb) o) j)+1)*1) 140737488355328) uH (.s 3 (.op ((j:Int)+1) gg (.s 1 (.val 6 (Tu 48 48 0 (length (aF o (aO (getD l i mb) o) j)+1) 1) (Tu 48 48 0 (length (aF o (aO (getD l i mb) o) (j+1))) 1) (by(exact mX)) (.val 80 (zI ((j:Int)+1)) (zN (j+1)) fS (.blk 48 48 (Tq (map dB (aF o (aO (getD l i mb) o) j)++[aQ (Tp (aO (getD l i mb) o))]) 5 true) (Tq (map dB (aF o (aO (getD l i mb) o) (j+1))) 5 true) (by(refine ay jq)) (Hn.next next2 ⟨(j+1),om,⟨⟩⟩ uJ [(48,48),(8,8)] ro)))))))))) (fun p12 p12f=>(.val 6 (Tu 0 0 0 (length (aF o (aO (getD l i mb) o) j)) 1) (Tu 0 0 0 (length (o++replicate (bf (getD l i mb)) (aO (getD l i mb) o))) 1) j5 (.blk 0 0 (Tq (map dB (aF o (aO (getD l i mb) o) j)) 5 true) (Tq (map dB (o++replicate (bf (getD l i mb)) (aO (getD l i mb) o))) 5 true) j5 (Hn.last last2 0 (():Unit) rfl [(0,0),(8,8)] ro))))))) (fun|⟨j,hj,_⟩=>by kernel_rfl) ⟨(0),om,⟨⟩⟩ [(0,0),(32,32)] ro (bY (fun|()=>(.s 2 (.ow ((i:Int)+1) (.s 1 (.val 21 (zI ((i:Int)+1)) (zN (i+1)) fS (Hn.next next1 ⟨(i+1),om,(o++replicate (bf (l.getD i mb)) (aO (l.getD i mb) o)),uK,uL,⟨⟩⟩ uM [(0,0)] ro))))))))))))))))))))) (fun p10=>have p10f:=am p10;(.s 7 (.opt (ar .u8 (↑(Rn.s (getD l i mb)):Int)) (aQ (Rn.s (getD l i mb))) (bB om) (.s 7 (.ow ((↑(length o):Int)+1) (.s 3 (.bd ((n:Int)<(↑(length o):Int)+1) (fun p13 p13f=>(.s 2 (.val 5 (zI 100) (zN (Tm (cq n l))) yh (Hn.last last1 1 (():Unit) rfl [] ro)))) (fun p13 p13f=>(.s 2 (.val 6 (Tu 0 0 0 (length o) 1) (Tu 0 0 0 (length (aF o (aO (getD l i mb) o) 0)) 1) (by exact rfl) (.val 11 (aQ (Rn.s (getD l i mb))) (aQ (Tp (aO (getD l i mb) o))) (by(exact N1 (by(omega)))) (.val 79 (zI 1) (zN (bf (getD l i mb))) fS (.blk 0 0 (Tq (map dB o) 5 true) (Tq (map dB (aF o (aO (getD l i mb) o) 0)) 5 true) (by exact rfl) (Hn.inl T_ok ai false 93 0 (ap Try.prog 108 1) (fun(x:(j:Nat)×'(hj:j≤bf (l.getD i mb))×'Unit)=>match x with|⟨j,hj,_⟩=>TJ [(1,zN n),(6,(Tu 0 0 (0) ((aF o (aO (l.getD i mb) o) j).length) 1)),(11,dB (aO (l.getD i mb) o)),(19,TL false k 2 (flatMap b8 l)),(20,zN k),(21,zN i),(34,TF 8 8 1),(35,zN (Rn.x (getD l i mb))),(36,D.v (.bool false)),(39,TF 8 8 1),(40,zN (Rn.x (getD l i mb))),(41,zN (rb (Rn.s (getD l i mb)))),(42,zN (Vp.p2 (Rn.s (getD l i mb)))),(43,D.v (.bool (decide ((↑(Vp.p2 (Rn.s (getD l i mb))):Int)≤(↑(Rn.x (getD l i mb)):Int))))),(79,nD (bf (l.getD i mb))),(80,nD j)] [⟨0,0,0,0,.b ⟨(aF o (aO (l.getD i mb) o) j).map dB,5,true⟩⟩,⟨8,8,32,32,.b ⟨[zN (Rn.s (getD l i mb)),zN (Rn.x (getD l i mb))],150,false⟩⟩] 16) (fun(x:(j:Nat)×'(hj:j≤bf (l.getD i mb))×'Unit)=>match x with|⟨j,hj,_⟩=>bf (l.getD i mb)-j) [⟨Unit,.exit 7,fun x=>match x with|()=>TJ [(1,zN n),(6,(Tu 0 0 (0) ((o++replicate (bf (l.getD i mb)) (aO (l.getD i mb) o)).length) 1)),(19,TL false k 2 (flatMap b8 l)),(20,zN k),(21,zN i),(34,TF 8 8 1),(35,zN (Rn.x (getD l i mb))),(36,D.v (.bool false)),(39,TF 8 8 1),(40,zN (Rn.x (getD l i mb))),(41,zN (rb (Rn.s (getD l i mb)))),(42,zN (Vp.p2 (Rn.s (getD l i mb)))),(43,D.v (.bool (decide ((↑(Vp.p2 (Rn.s (getD l i mb))):Int)≤(↑(Rn.x (getD l i mb)):Int)))))] [⟨0,0,0,0,.b ⟨(o++replicate (bf (l.getD i mb)) (aO (l.getD i mb) o)).map dB,5,true⟩⟩,⟨8,8,32,32,.b ⟨[zN (Rn.s (getD l i mb)),zN (Rn.x (getD l i mb))],150,false⟩⟩] 16⟩] 1000 64 (fun|⟨j,hj,_⟩,Q,next2,last2=>(.s 2 (.bd ((j:Int)<(↑(bf (getD l i mb)):Int)) (fun p14 p14f=>(.s 5 (.chk (true&&Tx (length (aF o (aO (getD l i mb) o) j)*1) (length (map dB (aF o (aO (getD l i mb) o) j)))&&true&&true&&true&&true&&Tz ((length (aF o (aO (getD l i mb) o) j)+1)*1) 140737488355328) uH (.s 3 (.op ((j:Int)+1) gg (.s 1 (.val 6 (Tu 48 48 0 (length (aF o (aO (getD l i mb) o) j)+1) 1) (Tu 48 48 0 (length (aF o (aO (getD l i mb) o) (j+1))) 1) (by(exact mX)) (.val 80 (zI ((j:Int)+1)) (zN (j+1)) fS (.blk 48 48 (Tq (map dB (aF o (aO (getD l i mb) o) j)++[aQ (Tp (aO (getD l i mb) o))]) 5 true) (Tq (map dB (aF o (aO (getD l i mb) o) (j+1))) 5 true) (by(refine ay jq)) (Hn.next next2 ⟨(j+1),om,⟨⟩⟩ uJ [(48,48),(8,8)] ro)))))))))) (fun p14 p14f=>(.val 6 (Tu 0 0 0 (length (aF o (aO (getD l i mb) o) j)) 1) (Tu 0 0 0 (length (o++replicate (bf (getD l i mb)) (aO (getD l i mb) o))) 1) j5 (.blk 0 0 (Tq (map dB (aF o (aO (getD l i mb) o) j)) 5 true) (Tq (map dB (o++replicate (bf (getD l i mb)) (aO (getD l i mb) o))) 5 true) j5 (Hn.last last2 0 (():Unit) rfl [(0,0),(8,8)] ro))))))) (fun|⟨j,hj,_⟩=>by kernel_rfl) ⟨(0),om,⟨⟩⟩ [(0,0),(32,32)] ro (bY (fun|()=>(.s 2 (.ow ((i:Int)+1) (.s 1 (.val 21 (zI ((i:Int)+1)) (zN (i+1)) fS (Hn.next next1 ⟨(i+1),om,(o++replicate (bf (l.getD i mb)) (aO (l.getD i mb) o)),uK,uL,⟨⟩⟩ uM [(0,0)] ro)))))))))))))))))))))))))))))))))))) (fun p1=>have p1f:=wy p1;(.cl 81 false [] (.fn NV (@J9 (Rn.s (getD l i mb)) om gg)) (.s 34 (.val 5 (zI 8) (zN (Tm (cq n l))) (by(have h9:=di (l.getD i mb).s;have hb:=hB i;have hc:=eo (l.getD i mb);refine aT ?_;have q:=yi (l:=l) (n:=n) (i:=i) (o:=o) om (.inl om);rw[hR]at q;rw[q];rfl)) (Hn.last last1 1 (():Unit) rfl [] ro))))))))))))) (fun p0 p0f=>(Hn.last last1 0 (⟨(o),(by(exact(Ck hR om h).1)),om,(by(exact(Ck hR om h).2)),⟨⟩⟩:(o2:List UInt8)×'(ho2:o2.length≠n)×'(ho3:o2.length≤n)×'(he:(cq n l).2=100)×'Unit) rfl [(0,0)] ro))))) (fun|⟨i,hi,o,ho,hR,_⟩=>by kernel_rfl) ⟨(0),om,([]),(by(simp;done)),(by(exact(iJ n l).symm)),⟨⟩⟩ [(96,96)] ro (gd (fun|⟨o2,ho2,ho3,he,_⟩=>(.s 5 (.t ((↑(length o2):Int) !=(n:Int)) (by(simp <;>(omega))) (.s 2 (.out [] [] (Uw [zS,zI 100]) [] R (ok _ _ (by(rw[he];rfl)) wr)))))) (fun|()=>(.out [] [] (Uw [zS,zN (Tm (cq n l))]) [] R (ok _ _ wr wr)))))))))) kr
structure Sy where
 bits:Nat
 least:Nat
 many:Nat
 deriving Inhabited
abbrev gR (s:Sy):List D:=[nD s.bits,nD s.least,nD s.many]
def au:List Sy:=[⟨0,3,1⟩,⟨0,4,1⟩,⟨0,5,1⟩,⟨0,6,1⟩,⟨0,7,1⟩,⟨0,8,1⟩,⟨0,9,1⟩,⟨0,10,1⟩,⟨1,11,2⟩,⟨1,13,2⟩,⟨1,15,2⟩,⟨1,17,2⟩,⟨2,19,4⟩,⟨2,23,4⟩,⟨2,27,4⟩,⟨2,31,4⟩,⟨3,35,8⟩,⟨3,43,8⟩,⟨3,51,8⟩,⟨3,59,8⟩,⟨4,67,16⟩,⟨4,83,16⟩,⟨4,99,16⟩,⟨4,115,16⟩,⟨5,131,32⟩,⟨5,163,32⟩,⟨5,195,32⟩,⟨5,227,31⟩,⟨0,258,1⟩]
def aA:List Sy:=[⟨0,1,1⟩,⟨0,2,1⟩,⟨0,3,1⟩,⟨0,4,1⟩,⟨1,5,2⟩,⟨1,7,2⟩,⟨2,9,4⟩,⟨2,13,4⟩,⟨3,17,8⟩,⟨3,25,8⟩,⟨4,33,16⟩,⟨4,49,16⟩,⟨5,65,32⟩,⟨5,97,32⟩,⟨6,129,64⟩,⟨6,193,64⟩,⟨7,257,128⟩,⟨7,385,128⟩,⟨8,513,256⟩,⟨8,769,256⟩,⟨9,1025,512⟩,⟨9,1537,512⟩,⟨10,2049,1024⟩,⟨10,3073,1024⟩,⟨11,4097,2048⟩,⟨11,6145,2048⟩,⟨12,8193,4096⟩,⟨12,12289,4096⟩,⟨13,16385,8192⟩,⟨13,24577,8192⟩]
theorem sf (T:List Sy)(hT:T=au):S0 89 [] [] (.agg [iD 257,.ref 0 0 0 29 3]) [⟨T.flatMap gR, 167,true⟩]:=by
 refine SpecH.run T_ok ai Try.func89 rfl rfl rfl ⟨iT (fun _=>rfl) _,trivial⟩ rfl 4000 64 (fun R ok=>(.s 1376 (.out [5080] [5080] (UA [zI 257,Tu 0 0 0 29 3]) [Tq [zI 0,zI 3,zI 1,zI 0,zI 4,zI 1,zI 0,zI 5,zI 1,zI 0,zI 6,zI 1,zI 0,zI 7,zI 1,zI 0,zI 8,zI 1,zI 0,zI 9,zI 1,zI 0,zI 10,zI 1,zI 1,zI 11,zI 2,zI 1,zI 13,zI 2,zI 1,zI 15,zI 2,zI 1,zI 17,zI 2,zI 2,zI 19,zI 4,zI 2,zI 23,zI 4,zI 2,zI 27,zI 4,zI 2,zI 31,zI 4,zI 3,zI 35,zI 8,zI 3,zI 43,zI 8,zI 3,zI 51,zI 8,zI 3,zI 59,zI 8,zI 4,zI 67,zI 16,zI 4,zI 83,zI 16,zI 4,zI 99,zI 16,zI 4,zI 115,zI 16,zI 5,zI 131,zI 32,zI 5,zI 163,zI 32,zI 5,zI 195,zI 32,zI 5,zI 227,zI 31,zI 0,zI 258,zI 1] 167 true] R (ok _ _ wr (by(subst hT;rfl)))))) kr
theorem wC (T:List Sy)(hT:T=aA):S0 92 [] [] (.agg [iD 0,.ref 0 0 0 30 3]) [⟨T.flatMap gR, 167,true⟩]:=by
 refine SpecH.run T_ok ai Try.func92 rfl rfl rfl ⟨iT (fun _=>rfl) _,trivial⟩ rfl 4000 64 (fun R ok=>(.s 1562 (.out [5768] [5768] (UA [zI 0,Tu 0 0 0 30 3]) [Tq [zI 0,zI 1,zI 1,zI 0,zI 2,zI 1,zI 0,zI 3,zI 1,zI 0,zI 4,zI 1,zI 1,zI 5,zI 2,zI 1,zI 7,zI 2,zI 2,zI 9,zI 4,zI 2,zI 13,zI 4,zI 3,zI 17,zI 8,zI 3,zI 25,zI 8,zI 4,zI 33,zI 16,zI 4,zI 49,zI 16,zI 5,zI 65,zI 32,zI 5,zI 97,zI 32,zI 6,zI 129,zI 64,zI 6,zI 193,zI 64,zI 7,zI 257,zI 128,zI 7,zI 385,zI 128,zI 8,zI 513,zI 256,zI 8,zI 769,zI 256,zI 9,zI 1025,zI 512,zI 9,zI 1537,zI 512,zI 10,zI 2049,zI 1024,zI 10,zI 3073,zI 1024,zI 11,zI 4097,zI 2048,zI 11,zI 6145,zI 2048,zI 12,zI 8193,zI 4096,zI 12,zI 12289,zI 4096,zI 13,zI 16385,zI 8192,zI 13,zI 24577,zI 8192] 167 true] R (ok _ _ wr (by(subst hT;rfl)))))) kr
end Vp
end Go.Proofs.Ytefjnofhgkjpmaa
namespace Go.Proofs.Ytefjnofhgkjpmaa
open Go.RowKit Go.Bw Go.Vx
open List (length getD map take drop flatMap replicate)
namespace Vp
theorem DE {p:Prop}(h:p:=by(refine aT ?_;(omega))):p:=h
theorem Kf {p:Prop}(h:p:=by(simp only[a9 (k:=2) (fun(x:Rn)=>(rfl:(b8 x).length=2)),Nat.beq_refl,Bool.true_and,Bool.and_true];refine Nat.ble_eq_true_of_le ?_;(omega))):p:=h
theorem Kg {p:Prop}(h:p:=by(rw[List.length_append];rfl)):p:=h
theorem Kh {p:Prop}(h:p:=by(rw[List.length_append];simp only[List.length_singleton];(omega))):p:=h
theorem N3 {p:Prop}(h:p:=by((refine aJ ?_ ?_)<;>(repeat' (first|(refine aJ ?_ ?_)|(with_reducible rfl)|(refine decide_eq_true ?_)|(refine Nat.ble_eq_true_of_le ?_)|(refine fx ?_)))<;>(omega))):p:=h
theorem Qg {p:Prop}(h:p:=by show n-(a+1)<n-a;clear next1 last1;omega):p:=h
theorem Ri {p:Prop}(h:p:=by(simp;have h9:=mY (l:=l) (a:=a) om;omega)):p:=h
theorem Rj {p:Prop}(h:p:=by(have h9:=mY (l:=l) (a:=a) om;omega)):p:=h
theorem Rk {p:Prop}(h:p:=by(simp only[Nat.mul_one]at *;have h9:=mY (l:=l) (a:=a) om;exact N8 hR om om om om)):p:=h
def uN (l:List UInt8)(a:Nat):Nat→Nat→Nat
 |0,n=>n
 |f+1,n=>if a+n<l.length∧l.getD (a+n) mb=l.getD a mb then uN l a f (n+1)else n
def cE (l:List UInt8)(a:Nat):Nat:=lk l (uN l a l.length 0)
theorem wD (l:List UInt8)(a:Nat):cE l a=uN l a l.length 0:=aw _ _
theorem Rl {l:List UInt8}{a f n T:Nat}(hR:uN l a f n=T)(hf:l.length≤a+n+f)(h:a+n<l.length)(h2:l.getD (a+n) mb=l.getD a mb):uN l a (f-1) (n+1)=T:=by
 obtain⟨g,rfl⟩:∃g,f=g+1:=⟨f-1,by omega⟩
 rw[←hR];exact(if_pos ⟨h,h2⟩).symm
theorem N4 {l:List UInt8}{a f n T:Nat}(hR:uN l a f n=T)(h:¬(a+n<l.length∧l.getD (a+n) mb=l.getD a mb)):n=T:=by
 rw[←hR];cases f with
 |zero=>rfl
 |succ f=>exact(if_neg h).symm
theorem HD {x y:UInt8}(h:((x.toNat:Nat):Int)=((y.toNat:Nat):Int)):x=y:=UInt8.toNat_inj.1 (by omega)
theorem N5 {l:List UInt8}{a f n T u v:Nat}(hR:uN l a f n=T)(hf:l.length≤a+n+f)(h:a+n<l.length)(hu:u=a+n)(hv:v=a)(h2:(((l.getD u mb).toNat:Nat):Int)=(((l.getD v mb).toNat:Nat):Int)):uN l a (f-1) (n+1)=T:=by
 subst hu hv;exact Rl hR hf h (HD h2)
theorem N6 {l:List UInt8}{a f n T u v:Nat}(hR:uN l a f n=T)(hu:u=a+n)(hv:v=a)(h2:(((l.getD u mb).toNat:Nat):Int)≠(((l.getD v mb).toNat:Nat):Int)):n=T:=by
 subst hu hv;exact N4 hR (fun q=>h2 (by rw[q.2]))
theorem HE {l:List UInt8}{a:Nat}:∀(f n:Nat),a+n≤l.length→n≤uN l a f n∧a+uN l a f n≤l.length
 |0,n,h=>⟨TD _,h⟩
 |f+1,n,h=>by
  rw[uN];split
  ·next q=>have:=HE (l:=l) (a:=a) f (n+1) (by omega);omega
  ·exact⟨TD _,h⟩
theorem mY {l:List UInt8}{a:Nat}(h:a<l.length):1≤cE l a∧a+cE l a≤l.length:=by
 rw[wD]
 obtain⟨f,hf⟩:∃f,l.length=f+1:=⟨l.length-1,by omega⟩
 rw[hf,uN,if_pos ⟨by omega,by rw[VD]⟩]
 have:=HE (l:=l) (a:=a) f (0+1) (by omega)
 omega
def j6 (l:List UInt8):Nat→Nat→List Rn
 |0,_=>[]
 |f+1,a=>if l.length≤a then[]
  else if(l.getD a mb).toNat=0∧11≤cE l a then⟨18,min (cE l a) 138-11⟩::j6 l f (a+min (cE l a) 138)
  else if(l.getD a mb).toNat=0∧3≤cE l a then⟨17,cE l a-3⟩::j6 l f (a+cE l a)
  else if 0<(l.getD a mb).toNat∧0<a∧(l.getD (a-1) mb).toNat=(l.getD a mb).toNat∧3≤cE l a then⟨16,min (cE l a) 6-3⟩::j6 l f (a+min (cE l a) 6)
  else⟨(l.getD a mb).toNat,0⟩::j6 l f (a+1)
def yk (l:List UInt8):List Rn:=lk l (j6 l l.length 0)
theorem sg (l:List UInt8):yk l=j6 l l.length 0:=aw _ _
section
variable {l:List UInt8} {f a:Nat} {o T:List Rn}
theorem N7 (hR:o++j6 l f a=T)(h:l.length≤a):o=T:=by
 rw[←hR];cases f with
 |zero=>exact(Ue _).symm
 |succ f=>rw[j6,if_pos h];exact(Ue _).symm
theorem Rm (hR:o++j6 l f a=T)(hf:l.length≤a+f)(h:a<l.length)(h0:(l.getD a mb).toNat=0)(h1:11≤cE l a):(o++[⟨18,min (cE l a) 138-11⟩])++j6 l (f-1) (a+min (cE l a) 138)=T:=by
 obtain⟨g,rfl⟩:∃g,f=g+1:=⟨f-1,by omega⟩
 rw[←hR,j6,if_neg (by omega),if_pos ⟨h0,h1⟩,TG];rfl
theorem Ro (hR:o++j6 l f a=T)(hf:l.length≤a+f)(h:a<l.length)(h0:(l.getD a mb).toNat=0)(h1:¬11≤cE l a)(h2:3≤cE l a):(o++[⟨17,cE l a-3⟩])++j6 l (f-1) (a+cE l a)=T:=by
 obtain⟨g,rfl⟩:∃g,f=g+1:=⟨f-1,by omega⟩
 rw[←hR,j6,if_neg (by omega),if_neg (fun q=>h1 q.2),if_pos ⟨h0,h2⟩,TG];rfl
theorem Rp (hR:o++j6 l f a=T)(hf:l.length≤a+f)(h:a<l.length)(h0:0<(l.getD a mb).toNat)(ha:0<a)(h1:(l.getD (a-1) mb).toNat=(l.getD a mb).toNat)(h2:3≤cE l a):(o++[⟨16,min (cE l a) 6-3⟩])++j6 l (f-1) (a+min (cE l a) 6)=T:=by
 obtain⟨g,rfl⟩:∃g,f=g+1:=⟨f-1,by omega⟩
 rw[←hR,j6,if_neg (by omega),if_neg (fun q=>by omega),if_neg (fun q=>by omega),if_pos ⟨h0,ha,h1,h2⟩,TG];rfl
theorem N8 (hR:o++j6 l f a=T)(hf:l.length≤a+f)(h:a<l.length)(h0:¬((l.getD a mb).toNat=0∧3≤cE l a))(h1:¬(0<(l.getD a mb).toNat∧0<a∧(l.getD (a-1) mb).toNat=(l.getD a mb).toNat∧3≤cE l a)):(o++[⟨(l.getD a mb).toNat,0⟩])++j6 l (f-1) (a+1)=T:=by
 obtain⟨g,rfl⟩:∃g,f=g+1:=⟨f-1,by omega⟩
 rw[←hR,j6,if_neg (by omega),if_neg (fun q=>h0 ⟨q.1,by omega⟩),if_neg h0,if_neg h1,TG];rfl
end
theorem Fa (l:List UInt8)(n:Nat)(hn:n=l.length)(hn2:n≤320)(a:Nat)(ha:a<n):S0 103 [nD a,.ep [.sl false n 1 (l.map dB)] 0] [] (nD (cE l a)) []:=by
 refine SpecH.run T_ok ai Try.func103 rfl rfl rfl trivial rfl 1000 64 (fun R ok=>(.s 1 (Hn.inl T_ok ai false 26 0 (ap Try.prog 103 0) (fun(x:(i:Nat)×'(f:Nat)×'(hi:a+i≤n)×'(hf:n≤a+i+f)×'(hR:uN l a f i=cE l a)×'Unit)=>match x with|⟨i,f,hi,hf,hR,_⟩=>TJ [(0,zN a),(1,D.ep [TL false n 1 (map dB l)] 0),(3,nD i)] [] 0) (fun(x:(i:Nat)×'(f:Nat)×'(hi:a+i≤n)×'(hf:n≤a+i+f)×'(hR:uN l a f i=cE l a)×'Unit)=>match x with|⟨i,f,hi,hf,hR,_⟩=>n-i) [⟨Unit,.exit 0,fun x=>match x with|()=>TJ [(0,zN a),(1,D.ep [TL false n 1 (map dB l)] 0),(3,nD (cE l a))] [] 0⟩] 1000 64 (fun|⟨i,f,hi,hf,hR,_⟩,Q,next1,last1=>(.s 5 (.ow ((a:Int)+i) (.s 8 (.bd ((a:Int)+i<n) (fun p0 p0f=>(.s 9 (.ow ((a:Int)+i) (.s 2 (.chk (true&&decide ((a:Int)+i<n)&&true) N3 (.s 3 (.opt ((map dB l)[zK ((a:Int)+i)*1]?) (dB (getD l (zK ((a:Int)+i)*1) mb)) (aq _ _ om) (.s 8 (.chk (true&&decide ((a:Int)<n)&&true) N3 (.s 3 (.opt ((map dB l)[a*1]?) (dB (getD l (a*1) mb)) (aq _ _ om) (.s 4 (.br ((↑(Tp (getD l (zK ((a:Int)+i)*1) mb)):Int)==(↑(Tp (getD l (a*1) mb)):Int)) (fun p1=>have p1f:=eq_of_beq p1;(.s 3 (.ow ((i:Int)+1) (.s 1 (.val 3 (zI ((i:Int)+1)) (zN (i+1)) DE (Hn.next next1 ⟨(i+1),(f-1),om,om,(by(exact N5 (u:=((a:Int)+i).toNat*1) (v:=a*1) hR om om om om om)),⟨⟩⟩ (by show n-(i+1)<n-i;clear next1 last1;omega) [] ro)))))) (fun p1=>have p1f:=am p1;(.val 3 (zN i) (zN (cE l a)) (by(rw[N6 (u:=((a:Int)+i).toNat*1) (v:=a*1) hR om om om])) (Hn.last last1 0 (():Unit) rfl [] ro)))))))))))))))) (fun p0 p0f=>(.s 22 (.val 3 (zN i) (zN (cE l a)) (by(rw[N4 hR om])) (Hn.last last1 0 (():Unit) rfl [] ro))))))))) (fun|⟨i,f,hi,hf,hR,_⟩=>by kernel_rfl) ⟨(0),(n),om,om,(by(rw[hn];exact(wD l a).symm)),⟨⟩⟩ [] ro (bY (fun|()=>(.s 2 (.out [] [] (zN (cE l a)) [] R (ok _ _ wr wr)))))))) kr
theorem N9 (n k:Nat):lU .i64 false (n:Int) (k:Int)=some (nD (min n k)):=EW (by omega)
theorem lg (l:List UInt8):∀(f a:Nat),(j6 l f a).length≤f
 |0,_=>TD _
 |f+1,a=>by
  rw[j6]
  split
  ·exact T7 _
  ·split
   ·exact Vy (lg l f _)
   ·split
    ·exact Vy (lg l f _)
    ·split
     ·exact Vy (lg l f _)
     ·exact Vy (lg l f _)
theorem Rq (l:List UInt8)(n:Nat)(hn:n=l.length)(hn2:n≤320)(ho:∀i,i<n→(l.getD i mb).toNat≤15)(T:List Rn)(hT:yk l=T):S0 78 [.sl false n 1 (l.map dB)] [] (.tup [.ref 0 0 0 T.length 2,iD 0]) [⟨T.flatMap b8, 150,true⟩]:=by
 refine SpecH.run T_ok ai Try.func78 rfl rfl rfl ⟨iT (fun _=>rfl) _,trivial⟩ rfl 1000 64 (fun R ok=>(.s 10 (.f (decide (320<(n:Int))) (by(refine decide_eq_false ?_;(omega))) (.s 5 (Hn.inl T_ok ai false 101 0 (ap Try.prog 78 0) (fun(x:(i:Nat)×'(hi:i≤n)×'Unit)=>match x with|⟨i,hi,_⟩=>TJ [(1,TF 0 0 0),(2,dT),(13,TL false n 1 (map dB l)),(14,zN n),(15,nD i)] [⟨0,0,0,0,.b ⟨[TL false n 1 (map dB l)],24,false⟩⟩] 8) (fun(x:(i:Nat)×'(hi:i≤n)×'Unit)=>match x with|⟨i,hi,_⟩=>n-i) [⟨Unit,.exit 0,fun x=>match x with|()=>TJ [(1,TF 0 0 0),(2,dT),(13,TL false n 1 (map dB l)),(14,zN n),(15,nD n)] [⟨0,0,0,0,.b ⟨[TL false n 1 (map dB l)],24,false⟩⟩] 8⟩] 1000 64 (fun|⟨i,hi,_⟩,Q,next1,last1=>(.s 2 (.bd ((i:Int)<n) (fun p0 p0f=>(.s 1 (.chk (true&&decide ((i:Int)<n)&&true) N3 (.s 2 (.opt ((map dB l)[i*1]?) (dB (getD l (i*1) mb)) (aq _ _ om) (.s 4 (.f (decide (15<(↑(Tp (getD l (i*1) mb)):Int))) (by(refine decide_eq_false ?_;have h9:=ho (i*1) om;omega)) (.s 2 (.ow ((i:Int)+1) (.s 1 (.val 15 (zI ((i:Int)+1)) (zN (i+1)) DE (Hn.next next1 ⟨(i+1),om,⟨⟩⟩ (by show n-(i+1)<n-i;clear next1 last1;omega) [(0,0)] ro)))))))))))) (fun p0 p0f=>(.val 15 (zN i) (zN n) DE (Hn.last last1 0 (():Unit) rfl [(0,0)] ro)))))) (fun|⟨i,hi,_⟩=>by kernel_rfl) ⟨(0),om,⟨⟩⟩ [(0,0)] ro (bY (fun|()=>(.s 3 (.nils 2 32 2 150 (Hn.inl T_ok ai false 101 0 (ap Try.prog 78 1) (fun(x:(a:Nat)×'(f:Nat)×'(o:List Rn)×'(ha:a≤n)×'(hf:n≤a+f)×'(hq:o.length≤a)×'(hR:o++j6 l f a=T)×'Unit)=>match x with|⟨a,f,o,ha,hf,hq,hR,_⟩=>TJ [(1,TF 0 0 0),(2,(Tu 8 8 (0) (o.length) 2)),(6,U9 (Ui 103) [] [TF 0 0 0]),(7,nD a)] [⟨0,0,0,0,.b ⟨[TL false n 1 (map dB l)],24,false⟩⟩,⟨8,8,32,32,.b ⟨o.flatMap b8,150,true⟩⟩] 16) (fun(x:(a:Nat)×'(f:Nat)×'(o:List Rn)×'(ha:a≤n)×'(hf:n≤a+f)×'(hq:o.length≤a)×'(hR:o++j6 l f a=T)×'Unit)=>match x with|⟨a,f,o,ha,hf,hq,hR,_⟩=>n-a) [⟨Unit,.exit 2,fun x=>match x with|()=>TJ [(1,TF 0 0 0),(2,(Tu 8 8 (0) (T.length) 2)),(6,U9 (Ui 103) [] [TF 0 0 0])] [⟨0,0,0,0,.b ⟨[TL false n 1 (map dB l)],24,false⟩⟩,⟨8,8,32,32,.b ⟨T.flatMap b8,150,true⟩⟩] 16⟩] 1000 64 (fun|⟨a,f,o,ha,hf,hq,hR,_⟩,Q,next1,last1=>(.s 7 (.bd ((a:Int)<n) (fun p1 p1f=>(.s 4 (.cl 103 false [] (.fn Rc (@Fa (l) (n) om om (a) om)) (.s 5 (.chk (true&&decide ((a:Int)<n)&&true) N3 (.s 2 (.opt ((map dB l)[a*1]?) (dB (getD l (a*1) mb)) (aq _ _ om) (.s 1 (.op (↑(Tp (getD l (a*1) mb)):Int) (by(exact iG _ (by decide) (by decide))) (.s 7 (.br ((↑(Tp (getD l (a*1) mb)):Int)==0) (fun p2=>have p2f:=eq_of_beq p2;(.s 5 (.bd (11≤(↑(cE l a):Int)) (fun p3 p3f=>(.s 2 (.opt (lU Uf false (↑(cE l a):Int) (↑138:Int)) (nD (min (cE l a) 138)) (@N9 (cE l a) 138) (.s 5 (.ow ((↑(min (cE l a) 138):Int)-11) (.s 5 (.chk (true&&Tx (length o*2) (length (flatMap b8 o))&&true&&true&&true&&true&&Tz ((length o+1)*16) 140737488355328) Kf (.s 5 (.ow ((a:Int)+(↑(min (cE l a) 138):Int)) (.s 1 (.val 2 (Tu 248 248 0 (length o+1) 2) (Tu 248 248 0 (length (o++[Rn.mk 18 (min (cE l a) 138-11)])) 2) Kg (.val 7 (zI ((a:Int)+(↑(min (cE l a) 138):Int))) (zN (a+min (cE l a) 138)) DE (.blk 248 248 (Tq (flatMap b8 o++[zI 18,zI ((↑(min (cE l a) 138):Int)-11)]) 150 true) (Tq (flatMap b8 (o++[Rn.mk 18 (min (cE l a) 138-11)])) 150 true) Ri (Hn.next next1 ⟨(a+min (cE l a) 138),(f-1),(o++[⟨18,min (cE l a) 138-11⟩]),Rj,om,Kh,(by(simp only[TZ]at *;have h9:=mY (l:=l) (a:=a) om;exact Rm hR om om om om)),⟨⟩⟩ (by show n-(a+min (cE l a) 138)<n-a;clear next1 last1;omega) [(0,0),(248,248)] ro)))))))))))))) (fun p3 p3f=>(.s 5 (.t ((↑(Tp (getD l (a*1) mb)):Int)==0) p2 (.s 5 (.bd (3≤(↑(cE l a):Int)) (fun p4 p4f=>(.s 4 (.ow ((↑(cE l a):Int)-3) (.s 5 (.chk (true&&Tx (length o*2) (length (flatMap b8 o))&&true&&true&&true&&true&&Tz ((length o+1)*16) 140737488355328) Kf (.s 5 (.ow ((a:Int)+(↑(cE l a):Int)) (.s 1 (.val 2 (Tu 280 280 0 (length o+1) 2) (Tu 280 280 0 (length (o++[Rn.mk 17 (cE l a-3)])) 2) Kg (.val 7 (zI ((a:Int)+(↑(cE l a):Int))) (zN (a+cE l a)) DE (.blk 280 280 (Tq (flatMap b8 o++[zI 17,zI ((↑(cE l a):Int)-3)]) 150 true) (Tq (flatMap b8 (o++[Rn.mk 17 (cE l a-3)])) 150 true) Ri (Hn.next next1 ⟨(a+cE l a),(f-1),(o++[⟨17,cE l a-3⟩]),Rj,om,Kh,(by(simp only[TZ]at *;have h9:=mY (l:=l) (a:=a) om;exact Ro hR om om om om om)),⟨⟩⟩ (by show n-(a+cE l a)<n-a;clear next1 last1;omega) [(0,0),(280,280)] ro)))))))))))) (fun p4 p4f=>(.s 5 (.f (decide (0<(↑(Tp (getD l (a*1) mb)):Int))) (by(refine decide_eq_false ?_;(omega))) (.s 37 (.chk (true&&Tx (length o*2) (length (flatMap b8 o))&&true&&true&&true&&true&&Tz ((length o+1)*16) 140737488355328) Kf (.s 5 (.ow ((a:Int)+1) (.s 1 (.val 2 (Tu 448 448 0 (length o+1) 2) (Tu 448 448 0 (length (o++[Rn.mk (Tp (getD l a mb)) 0])) 2) Kg (.val 7 (zI ((a:Int)+1)) (zN (a+1)) DE (.blk 448 448 (Tq (flatMap b8 o++[zN (Tp (getD l (a*1) mb)),zI 0]) 150 true) (Tq (flatMap b8 (o++[Rn.mk (Tp (getD l a mb)) 0])) 150 true) (by(simp;done)) (Hn.next next1 ⟨(a+1),(f-1),(o++[⟨(l.getD a mb).toNat,0⟩]),om,om,Kh,Rk,⟨⟩⟩ Qg [(0,0),(448,448)] ro)))))))))))))))))))) (fun p2=>have p2f:=am p2;(.s 10 (.f ((↑(Tp (getD l (a*1) mb)):Int)==0) p2 (.s 10 (.t (decide (0<(↑(Tp (getD l (a*1) mb)):Int))) (by(refine decide_eq_true ?_;(omega))) (.s 6 (.bd (0<(a:Int)) (fun p5 p5f=>(.s 7 (.ow ((a:Int)-1) (.s 2 (.chk (decide (0≤(a:Int)-1)&&decide ((a:Int)-1<n)&&true) N3 (.s 3 (.opt ((map dB l)[zK ((a:Int)-1)*1]?) (dB (getD l (zK ((a:Int)-1)*1) mb)) (aq _ _ om) (.s 2 (.op (↑(Tp (getD l (zK ((a:Int)-1)*1) mb)):Int) (by(exact iG _ (by decide) (by decide))) (.s 8 (.br ((↑(Tp (getD l (zK ((a:Int)-1)*1) mb)):Int)==(↑(Tp (getD l (a*1) mb)):Int)) (fun p6=>have p6f:=eq_of_beq p6;(.s 5 (.bd (3≤(↑(cE l a):Int)) (fun p7 p7f=>(.s 2 (.opt (lU Uf false (↑(cE l a):Int) (↑6:Int)) (nD (min (cE l a) 6)) (@N9 (cE l a) 6) (.s 5 (.ow ((↑(min (cE l a) 6):Int)-3) (.s 5 (.chk (true&&Tx (length o*2) (length (flatMap b8 o))&&true&&true&&true&&true&&Tz ((length o+1)*16) 140737488355328) Kf (.s 5 (.ow ((a:Int)+(↑(min (cE l a) 6):Int)) (.s 1 (.val 2 (Tu 472 472 0 (length o+1) 2) (Tu 472 472 0 (length (o++[Rn.mk 16 (min (cE l a) 6-3)])) 2) Kg (.val 7 (zI ((a:Int)+(↑(min (cE l a) 6):Int))) (zN (a+min (cE l a) 6)) DE (.blk 472 472 (Tq (flatMap b8 o++[zI 16,zI ((↑(min (cE l a) 6):Int)-3)]) 150 true) (Tq (flatMap b8 (o++[Rn.mk 16 (min (cE l a) 6-3)])) 150 true) Ri (Hn.next next1 ⟨(a+min (cE l a) 6),(f-1),(o++[⟨16,min (cE l a) 6-3⟩]),Rj,om,Kh,(by(simp only[TZ]at *;have h9:=mY (l:=l) (a:=a) om;exact Rp hR om om om om (by rw[show((a:Int)-1).toNat=a-1 from by omega]at *;omega) om)),⟨⟩⟩ (by show n-(a+min (cE l a) 6)<n-a;clear next1 last1;omega) [(0,0),(472,472)] ro)))))))))))))) (fun p7 p7f=>(.s 8 (.chk (true&&Tx (length o*2) (length (flatMap b8 o))&&true&&true&&true&&true&&Tz ((length o+1)*16) 140737488355328) Kf (.s 5 (.ow ((a:Int)+1) (.s 1 (.val 2 (Tu 448 448 0 (length o+1) 2) (Tu 448 448 0 (length (o++[Rn.mk (Tp (getD l a mb)) 0])) 2) Kg (.val 7 (zI ((a:Int)+1)) (zN (a+1)) DE (.blk 448 448 (Tq (flatMap b8 o++[zN (Tp (getD l (a*1) mb)),zI 0]) 150 true) (Tq (flatMap b8 (o++[Rn.mk (Tp (getD l a mb)) 0])) 150 true) (by(simp;done)) (Hn.next next1 ⟨(a+1),(f-1),(o++[⟨(l.getD a mb).toNat,0⟩]),om,om,Kh,Rk,⟨⟩⟩ Qg [(0,0),(448,448)] ro))))))))))))) (fun p6=>have p6f:=am p6;(.s 13 (.chk (true&&Tx (length o*2) (length (flatMap b8 o))&&true&&true&&true&&true&&Tz ((length o+1)*16) 140737488355328) Kf (.s 5 (.ow ((a:Int)+1) (.s 1 (.val 2 (Tu 448 448 0 (length o+1) 2) (Tu 448 448 0 (length (o++[Rn.mk (Tp (getD l a mb)) 0])) 2) Kg (.val 7 (zI ((a:Int)+1)) (zN (a+1)) DE (.blk 448 448 (Tq (flatMap b8 o++[zN (Tp (getD l (a*1) mb)),zI 0]) 150 true) (Tq (flatMap b8 (o++[Rn.mk (Tp (getD l a mb)) 0])) 150 true) (by(simp;done)) (Hn.next next1 ⟨(a+1),(f-1),(o++[⟨(l.getD a mb).toNat,0⟩]),om,om,Kh,(by(simp only[TZ]at *;have h9:=mY (l:=l) (a:=a) om;rw[show((a:Int)-1).toNat=a-1 from by omega]at *;exact N8 hR om om om om)),⟨⟩⟩ Qg [(0,0),(448,448)] ro))))))))))))))))))))) (fun p5 p5f=>(.s 31 (.chk (true&&Tx (length o*2) (length (flatMap b8 o))&&true&&true&&true&&true&&Tz ((length o+1)*16) 140737488355328) Kf (.s 5 (.ow ((a:Int)+1) (.s 1 (.val 2 (Tu 448 448 0 (length o+1) 2) (Tu 448 448 0 (length (o++[Rn.mk (Tp (getD l a mb)) 0])) 2) Kg (.val 7 (zI ((a:Int)+1)) (zN (a+1)) DE (.blk 448 448 (Tq (flatMap b8 o++[zN (Tp (getD l (a*1) mb)),zI 0]) 150 true) (Tq (flatMap b8 (o++[Rn.mk (Tp (getD l a mb)) 0])) 150 true) (by(simp;done)) (Hn.next next1 ⟨(a+1),(f-1),(o++[⟨(l.getD a mb).toNat,0⟩]),om,om,Kh,Rk,⟨⟩⟩ Qg [(0,0),(448,448)] ro)))))))))))))))))))))))))))) (fun p1 p1f=>(.val 2 (Tu 8 8 0 (length o) 2) (Tu 8 8 0 (length T) 2) (by(rw[N7 hR om])) (.blk 8 8 (Tq (flatMap b8 o) 150 true) (Tq (flatMap b8 T) 150 true) (by(rw[N7 hR om])) (Hn.last last1 0 (():Unit) rfl [(0,0),(8,8)] ro))))))) (fun|⟨a,f,o,ha,hf,hq,hR,_⟩=>by kernel_rfl) ⟨(0),(n),([]),om,om,(by(simp;done)),(by(rw[hn];exact(sg l).symm.trans hT)),⟨⟩⟩ [(0,0),(32,32)] ro (bY (fun|()=>(.s 3 (.out [8] [8] (Uw [Tu 0 0 0 (length T) 2,zI 0]) [Tq (flatMap b8 T) 150 true] R (ok _ _ wr wr))))))))))))))) kr
end Vp
end Go.Proofs.Ytefjnofhgkjpmaa
namespace Go.Proofs.Ytefjnofhgkjpmaa
open Go.RowKit Go.Bw Go.Vx
open List (length getD map take drop flatMap replicate)
namespace Vp
theorem Fb {p:Prop}(h:p:=by(rw[a9 (k:=3) (fun _=>rfl)];refine Nat.ble_eq_true_of_le ?_;(omega))):p:=h
theorem Oa {p:Prop}(h:p:=by(rw[(si (T:=T) (f:=257) (s:=s) om).1,(si (T:=T) (f:=257) (s:=s) om).2];rfl)):p:=h
theorem Oc {p:Prop}(h:p:=by((refine aJ ?_ ?_)<;>(repeat' (first|(refine aJ ?_ ?_)|(with_reducible rfl)|(refine decide_eq_true ?_)|(refine Nat.ble_eq_true_of_le ?_)|(refine fx ?_)))<;>(omega))):p:=h
theorem Od {p:Prop}(h:p:=by(exact zX (Kj (T:=T) (f:=257) (s:=s) (x:=x) om) (by decide))):p:=h
def ym (y:Sy):Nat:=2^y.bits
def Am (T:List Sy)(f:Int)(s:Nat):Nat:=if f≤s∧s<f+T.length then(T.getD ((s:Int)-f).toNat mb).bits else 0
def ta (T:List Sy)(f:Int)(s:Nat):Nat:=if f≤s∧s<f+T.length then 0 else 90
def vw (T:List Sy)(f:Int)(s x:Nat):Nat:=if¬(f≤s∧s<f+T.length)then 90 else if ym (T.getD ((s:Int)-f).toNat mb)≤x then 2 else if(T.getD ((s:Int)-f).toNat mb).many≤x then 90 else 0
def An (T:List Sy)(f:Int)(s x:Nat):Nat:=if vw T f s x=0 then(T.getD ((s:Int)-f).toNat mb).least+x else 0
def bW (T:List Sy):Prop:=∀i,(T.getD i mb).bits≤13∧(T.getD i mb).least≤100000∧(T.getD i mb).many≤100000
theorem uO {T:List Sy}(h:T.all (fun y=>decide (y.bits≤13)&&decide (y.least≤100000)&&decide (y.many≤100000))=true):bW T:=fun i=>by
 rw[To]
 cases hq:T[i]? with
 |none=>exact⟨T7 _,T7 _,T7 _⟩
 |some y=>
  have:=List.all_eq_true.1 h y (UB hq)
  simp only[Tw,decide_eq_true_eq]at this
  exact⟨this.1.1,this.1.2,this.2⟩
theorem Oe {x:Int}(h:-9223372036854775808≤x∧x≤9223372036854775807):IntKind.i64.wrap x=x:=by
 have h2:=fk (x:=x) h
 rw[aL]at h2
 injection h2 with h3;injection h3 with h4;injection h4
theorem cb:bW au:=uO (by decide)
theorem cv:bW aA:=uO (by decide)
theorem yn {T:List Sy}{f:Int}{s:Nat}(h:f≤s∧s<f+T.length):Am T f s=(T.getD ((s:Int)-f).toNat mb).bits∧ta T f s=0:=⟨if_pos h,if_pos h⟩
theorem si {T:List Sy}{f:Int}{s:Nat}(h:¬(f≤s∧s<f+T.length)):Am T f s=0∧ta T f s=90:=⟨if_neg h,if_neg h⟩
theorem HF (y:Sy)(h:y.bits≤13):ar .i64 (2^min y.bits 64*1)=some (nD (ym y)):=by
 rw[show min y.bits 64=y.bits from by omega,YM]
 have h2:2^y.bits≤2^13:=TX (by decide) h
 have e:(2:Int)^y.bits=((ym y:Nat):Int):=by unfold ym;push_cast;rfl
 rw[e]
 have h3:ym y≤2^13:=h2
 generalize ym y=Z at *
 exact fk (by omega)
theorem zX {T:List Sy}{f:Int}{s x e:Nat}(h:vw T f s x=e)(h0:e≠0):Uw [D.v (.int .i64 0),nD e]=Uw [nD (An T f s x),nD (vw T f s x)]:=by
 unfold An;rw[h,if_neg h0];rfl
theorem Ki {T:List Sy}{f:Int}{s x:Nat}(h:vw T f s x=0):An T f s x=(T.getD ((s:Int)-f).toNat mb).least+x:=if_pos h
theorem Kj {T:List Sy}{f:Int}{s x:Nat}(h:¬(f≤s∧s<f+T.length)):vw T f s x=90:=if_pos h
theorem Of {T:List Sy}{f:Int}{s x:Nat}(h:f≤s∧s<f+T.length)(h2:ym (T.getD ((s:Int)-f).toNat mb)≤x):vw T f s x=2:=(if_neg (by omega)).trans (if_pos h2)
theorem Og {T:List Sy}{f:Int}{s x:Nat}(h:f≤s∧s<f+T.length)(h2:¬ym (T.getD ((s:Int)-f).toNat mb)≤x)(h3:(T.getD ((s:Int)-f).toNat mb).many≤x):vw T f s x=90:=(if_neg (by omega)).trans ((if_neg h2).trans (if_pos h3))
theorem Oh {T:List Sy}{f:Int}{s x:Nat}(h:f≤s∧s<f+T.length)(h2:¬ym (T.getD ((s:Int)-f).toNat mb)≤x)(h3:¬(T.getD ((s:Int)-f).toNat mb).many≤x):vw T f s x=0:=(if_neg (by omega)).trans ((if_neg h2).trans (if_neg h3))
theorem wE (T:List Sy)(hT:T=au)(hl:T.length=29)(hz:bW T)(s:Nat)(hs:s≤1000000):S0 61 [nD s] [] (.tup [nD (Am T 257 s),nD (ta T 257 s)]) []:=by
 refine SpecH.run T_ok ai Try.func61 rfl rfl rfl trivial rfl 1000 64 (fun R ok=>(.s 3 (.cl 89 false [] (.fn Ra (@sf (T) aD)) (.s 19 (.bd ((s:Int)<257) (fun p0 p0f=>(.s 45 (.out [] [] (Uw [zI 0,zI 90]) [] R (ok _ _ Oa wr)))) (fun p0 p0f=>(.s 26 (.bd (257+(↑29:Int)≤(s:Int)) (fun p1 p1f=>(.s 29 (.out [] [] (Uw [zI 0,zI 90]) [] R (ok _ _ Oa wr)))) (fun p1 p1f=>(.s 15 (.ow ((s:Int)-257) (.s 1 (.chk (decide (0≤(s:Int)-257)&&decide ((s:Int)-257<(↑29:Int))) Oc (.s 2 (.chk (Tz (0+zK ((s:Int)-257)*3+3) (length (flatMap gR T))) Fb (.lst (take 3 (drop (0+zK ((s:Int)-257)*3) (flatMap gR T))) ([zN (Sy.bits (getD T (zK ((s:Int)-257)) mb)),zN (Sy.least (getD T (zK ((s:Int)-257)) mb)),zN (Sy.many (getD T (zK ((s:Int)-257)) mb))]) (aB (k:=3) (i:=zK ((s:Int)-257)) (fun _=>rfl) om om) (.s 27 (.out [] [] (Uw [zN (Sy.bits (getD T (zK ((s:Int)-257)) mb)),zI 0]) [] R (ok _ _ (by(rw[(yn (T:=T) (f:=257) (s:=s) om).1,(yn (T:=T) (f:=257) (s:=s) om).2];rfl)) wr))))))))))))))))))) kr
theorem Cl (T:List Sy)(hT:T=au)(hl:T.length=29)(hz:bW T)(s:Nat)(hs:s≤1000000)(x:Nat)(hx:x≤1000000):S0 62 [nD s,nD x] [] (.tup [nD (An T 257 s x),nD (vw T 257 s x)]) []:=by
 refine SpecH.run T_ok ai Try.func62 rfl rfl rfl trivial rfl 1000 64 (fun R ok=>(.s 3 (.cl 89 false [] (.fn Ra (@sf (T) aD)) (.s 31 (.bd ((s:Int)<257) (fun p0 p0f=>(.s 50 (.out [] [] (Uw [zI 0,zI 90]) [] R (ok _ _ Od wr)))) (fun p0 p0f=>(.s 26 (.bd (257+(↑29:Int)≤(s:Int)) (fun p1 p1f=>(.s 34 (.out [] [] (Uw [zI 0,zI 90]) [] R (ok _ _ Od wr)))) (fun p1 p1f=>(.s 15 (.ow ((s:Int)-257) (.s 1 (.chk (decide (0≤(s:Int)-257)&&decide ((s:Int)-257<(↑29:Int))) Oc (.s 2 (.chk (Tz (0+zK ((s:Int)-257)*3+3) (length (flatMap gR T))) Fb (.lst (take 3 (drop (0+zK ((s:Int)-257)*3) (flatMap gR T))) ([zN (Sy.bits (getD T (zK ((s:Int)-257)) mb)),zN (Sy.least (getD T (zK ((s:Int)-257)) mb)),zN (Sy.many (getD T (zK ((s:Int)-257)) mb))]) (aB (k:=3) (i:=zK ((s:Int)-257)) (fun _=>rfl) om om) (.s 40 (.opt (ar .i64 (2^min (Sy.bits (getD T (zK ((s:Int)-257)) mb)) 64*1)) (nD (ym (getD T (zK ((s:Int)-257)) mb))) (@HF (T.getD ((s:Int)-257).toNat mb) (by(have h9:=hz ((s:Int)-257).toNat;omega))) (.s 5 (.bd ((↑(ym (getD T (zK ((s:Int)-257)) mb)):Int)≤(x:Int)) (fun p2 p2f=>(.s 8 (.out [] [] (Uw [zI 0,zI 2]) [] R (ok _ _ (by(exact zX (Of (T:=T) (f:=257) (s:=s) (x:=x) om om) (by decide))) wr)))) (fun p2 p2f=>(.s 10 (.bd ((↑(Sy.many (getD T (zK ((s:Int)-257)) mb)):Int)≤(x:Int)) (fun p3 p3f=>(.s 8 (.out [] [] (Uw [zI 0,zI 90]) [] R (ok _ _ (by(exact zX (Og (T:=T) (f:=257) (s:=s) (x:=x) om om om) (by decide))) wr)))) (fun p3 p3f=>(.s 9 (.op ((↑(Sy.least (getD T (zK ((s:Int)-257)) mb)):Int)+(x:Int)) (by(have h9:=hz ((s:Int)-257).toNat;omega)) (.s 8 (.out [] [] (Uw [zI ((↑(Sy.least (getD T (zK ((s:Int)-257)) mb)):Int)+(x:Int)),zI 0]) [] R (ok _ _ (by(have h9:=hz ((s:Int)-257).toNat;have q:=Oh (T:=T) (f:=257) (s:=s) (x:=x) om om om;rw[Ki q,q];rfl)) wr))))))))))))))))))))))))))))) kr
theorem zY (T:List Sy)(hT:T=aA)(hl:T.length=30)(hz:bW T)(s:Nat)(hs:s≤1000000):S0 63 [nD s] [] (.tup [nD (Am T 0 s),nD (ta T 0 s)]) []:=by
 refine SpecH.run T_ok ai Try.func63 rfl rfl rfl trivial rfl 1000 64 (fun R ok=>(.s 3 (.cl 92 false [] (.fn Rb (@wC (T) aD)) (.s 46 (.bd (0+(↑30:Int)≤(s:Int)) (fun p0 p0f=>(.s 29 (.out [] [] (Uw [zI 0,zI 90]) [] R (ok _ _ (by(rw[(si (T:=T) (f:=0) (s:=s) om).1,(si (T:=T) (f:=0) (s:=s) om).2];rfl)) wr)))) (fun p0 p0f=>(.s 15 (.ow ((s:Int)-0) (.s 1 (.chk (true&&decide ((s:Int)-0<(↑30:Int))) (by(refine decide_eq_true ?_;(omega))) (.s 2 (.chk (Tz (0+zK ((s:Int)-0)*3+3) (length (flatMap gR T))) Fb (.lst (take 3 (drop (0+zK ((s:Int)-0)*3) (flatMap gR T))) ([zN (Sy.bits (getD T (zK ((s:Int)-0)) mb)),zN (Sy.least (getD T (zK ((s:Int)-0)) mb)),zN (Sy.many (getD T (zK ((s:Int)-0)) mb))]) (aB (k:=3) (i:=zK ((s:Int)-0)) (fun _=>rfl) om om) (.s 27 (.out [] [] (Uw [zN (Sy.bits (getD T (zK ((s:Int)-0)) mb)),zI 0]) [] R (ok _ _ (by(rw[(yn (T:=T) (f:=0) (s:=s) om).1,(yn (T:=T) (f:=0) (s:=s) om).2];rfl)) wr)))))))))))))))) kr
theorem Fc (T:List Sy)(hT:T=aA)(hl:T.length=30)(hz:bW T)(s:Nat)(hs:s≤1000000)(x:Nat)(hx:x≤1000000):S0 64 [nD s,nD x] [] (.tup [nD (An T 0 s x),nD (vw T 0 s x)]) []:=by
 refine SpecH.run T_ok ai Try.func64 rfl rfl rfl trivial rfl 1000 64 (fun R ok=>(.s 3 (.cl 92 false [] (.fn Rb (@wC (T) aD)) (.s 58 (.bd (0+(↑30:Int)≤(s:Int)) (fun p0 p0f=>(.s 34 (.out [] [] (Uw [zI 0,zI 90]) [] R (ok _ _ (by(exact zX (Kj (T:=T) (f:=0) (s:=s) (x:=x) om) (by decide))) wr)))) (fun p0 p0f=>(.s 15 (.ow ((s:Int)-0) (.s 1 (.chk (true&&decide ((s:Int)-0<(↑30:Int))) (by(refine decide_eq_true ?_;(omega))) (.s 2 (.chk (Tz (0+zK ((s:Int)-0)*3+3) (length (flatMap gR T))) Fb (.lst (take 3 (drop (0+zK ((s:Int)-0)*3) (flatMap gR T))) ([zN (Sy.bits (getD T (zK ((s:Int)-0)) mb)),zN (Sy.least (getD T (zK ((s:Int)-0)) mb)),zN (Sy.many (getD T (zK ((s:Int)-0)) mb))]) (aB (k:=3) (i:=zK ((s:Int)-0)) (fun _=>rfl) om om) (.s 40 (.opt (ar .i64 (2^min (Sy.bits (getD T (zK ((s:Int)-0)) mb)) 64*1)) (nD (ym (getD T (zK ((s:Int)-0)) mb))) (@HF (T.getD ((s:Int)-0).toNat mb) (by(have h9:=hz ((s:Int)-0).toNat;omega))) (.s 5 (.bd ((↑(ym (getD T (zK ((s:Int)-0)) mb)):Int)≤(x:Int)) (fun p1 p1f=>(.s 8 (.out [] [] (Uw [zI 0,zI 2]) [] R (ok _ _ (by(exact zX (Of (T:=T) (f:=0) (s:=s) (x:=x) om om) (by decide))) wr)))) (fun p1 p1f=>(.s 10 (.bd ((↑(Sy.many (getD T (zK ((s:Int)-0)) mb)):Int)≤(x:Int)) (fun p2 p2f=>(.s 8 (.out [] [] (Uw [zI 0,zI 90]) [] R (ok _ _ (by(exact zX (Og (T:=T) (f:=0) (s:=s) (x:=x) om om om) (by decide))) wr)))) (fun p2 p2f=>(.s 9 (.op ((↑(Sy.least (getD T (zK ((s:Int)-0)) mb)):Int)+(x:Int)) (by(have h9:=hz ((s:Int)-0).toNat;omega)) (.s 8 (.out [] [] (Uw [zI ((↑(Sy.least (getD T (zK ((s:Int)-0)) mb)):Int)+(x:Int)),zI 0]) [] R (ok _ _ (by(have h9:=hz ((s:Int)-0).toNat;have q:=Oh (T:=T) (f:=0) (s:=s) (x:=x) om om om;rw[Ki q,q];rfl)) wr)))))))))))))))))))))))))) kr
end Vp
end Go.Proofs.Ytefjnofhgkjpmaa
namespace Go.Proofs.Ytefjnofhgkjpmaa
open Go.RowKit Go.Bw Go.Vx
open List (length getD map take drop flatMap replicate)
namespace Vp
theorem Rr {p:Prop}(h:p:=by(have q:=Rt hR om om rfl om om;have h9:=hz i;subst q;refine aT ?_;omega)):p:=h
def Oi (s:Sy)(n:Nat):Bool:=decide (s.least≤n∧n<s.least+s.many)
def qL (T:List Sy)(n:Nat):Nat→Nat→Nat
 |0,i=>i
 |f+1,i=>if Oi (T.getD i mb) n=true then i else qL T n f (i+1)
def ao (T:List Sy)(n:Nat):Nat:=lk T (qL T n T.length 0)
theorem kA (T:List Sy)(n:Nat):ao T n=qL T n T.length 0:=aw _ _
theorem HG {T:List Sy}{n:Nat}:∀(f i:Nat),i≤qL T n f i
 |0,_=>TD _
 |f+1,i=>by
  rw[qL];split
  ·exact TD _
  ·exact Nat.le_of_succ_le (HG f (i+1))
theorem Rt {T:List Sy}{n f i I u:Nat}(hR:qL T n f i=I)(hf:T.length≤i+f)(hi:i<T.length)(hu:u=i)(h1:(T.getD u mb).least≤n)(h2:n<(T.getD u mb).least+(T.getD u mb).many):i=I:=by
 subst hu
 obtain⟨g,rfl⟩:∃g,f=g+1:=⟨f-1,by omega⟩
 rw[←hR,qL,if_pos (show Oi (T.getD u mb) n=true from decide_eq_true ⟨h1,h2⟩)]
theorem Fe {T:List Sy}{n f i I u:Nat}(hR:qL T n f i=I)(hf:T.length≤i+f)(hi:i<T.length)(hu:u=i)(h:¬((T.getD u mb).least≤n∧n<(T.getD u mb).least+(T.getD u mb).many)):qL T n (f-1) (i+1)=I∧i+1≤I:=by
 subst hu
 obtain⟨g,rfl⟩:∃g,f=g+1:=⟨f-1,by omega⟩
 rw[qL,if_neg (fun q:Oi (T.getD u mb) n=true=>h (of_decide_eq_true q))]at hR
 exact⟨hR,by rw[←hR];exact HG g (u+1)⟩
theorem Cm {T:List Sy}{n:Nat}:∀(f i:Nat),qL T n f i<i+f→(T.getD (qL T n f i) mb).least≤n∧n<(T.getD (qL T n f i) mb).least+(T.getD (qL T n f i) mb).many
 |0,i,h=>absurd h (by rw[qL];omega)
 |f+1,i,h=>by
  rw[qL]at h ⊢
  by_cases q:Oi (T.getD i mb) n=true
  ·rw[if_pos q];exact of_decide_eq_true q
  ·rw[if_neg q]at h ⊢;exact Cm f (i+1) (by omega)
def Ru:List Sy→Nat→Nat→Bool
 |[],a,b=>Tx a b
 |s::l,a,b=>Tx s.least a&&Ru l (a+s.many) b
theorem Cn {n b:Nat}(T:List Sy):∀(f i a:Nat),i+f=T.length→Ru (T.drop i) a b=true→a≤n→n<b→qL T n f i<i+f
 |0,i,a,h,hc,h1,h2=>by
  rw[Vb (by omega)]at hc
  have:=TB hc
  omega
 |f+1,i,a,h,hc,h1,h2=>by
  rw[UK (by omega:i<T.length),Ru,Tw]at hc
  have e:T.getD i mb=T[i]'(by omega):=by rw[To,Ts (by omega)];rfl
  have hl:=TB hc.1
  rw[qL,e]
  by_cases q:Oi (T[i]'(by omega)) n=true
  ·rw[if_pos q];omega
  ·rw[if_neg q]
   have q2:=of_decide_eq_false (Bool.eq_false_iff.2 q)
   have:=Cn (n:=n) (b:=b) T f (i+1) (a+(T[i]'(by omega)).many) (by omega) hc.2 (by omega) h2
   omega
theorem Co (T:List Sy)(k:Nat)(hk:k=T.length)(hk2:k≤64)(hz:bW T)(b:Nat)(hb:b≤257)(n:Nat)(hn:n≤40000)(I:Nat)(hI:ao T n=I)(hIk:I<k):S0 119 [.agg [nD b,.sl false k 3 (T.flatMap gR)],nD n] [] (.tup [nD (b+I),nD (T.getD I mb).bits,nD (n-(T.getD I mb).least),iD 0]) []:=by
 refine SpecH.run T_ok ai Try.func119 rfl rfl rfl trivial rfl 1000 64 (fun R ok=>(.s 14 (Hn.inl T_ok ai false 42 0 (ap Try.prog 119 0) (fun(x:(i:Nat)×'(f:Nat)×'(hi:i≤k)×'(hf:k≤i+f)×'(hR:qL T n f i=I)×'(hi2:i≤I)×'Unit)=>match x with|⟨i,f,hi,hf,hR,hi2,_⟩=>TJ [(1,zN n),(2,TF 0 0 0),(11,TL false k 3 (flatMap gR T)),(12,zN k),(13,nD i)] [⟨0,0,0,0,.b ⟨[zN b,TL false k 3 (flatMap gR T)],171,false⟩⟩] 8) (fun(x:(i:Nat)×'(f:Nat)×'(hi:i≤k)×'(hf:k≤i+f)×'(hR:qL T n f i=I)×'(hi2:i≤I)×'Unit)=>match x with|⟨i,f,hi,hf,hR,hi2,_⟩=>k-i) [⟨Unit,.ret,fun x=>match x with|()=>TJ [(4,nD (b+I)),(5,nD (T.getD I mb).bits),(6,nD (n-(T.getD I mb).least)),(7,iD 0)] [⟨0,0,0,0,.b ⟨[zN b,TL false k 3 (flatMap gR T)],171,false⟩⟩] 8⟩] 1000 64 (fun|⟨i,f,hi,hf,hR,hi2,_⟩,Q,next1,last1=>(.s 2 (.t (decide ((i:Int)<k)) (by(refine decide_eq_true ?_;(omega))) (.s 2 (.chk (true&&decide ((i:Int)<k)&&true) (by((refine aJ ?_ ?_)<;>(repeat' (first|(refine aJ ?_ ?_)|(with_reducible rfl)|(refine decide_eq_true ?_)|(refine Tv ?_)|(refine fx ?_)))<;>(omega))) (.s 2 (.chk (Tz (i*3+3) (length (flatMap gR T))) (by(rw[a9 (k:=3) (fun _=>rfl)];refine Tv ?_;(omega))) (.lst (take 3 (drop (i*3) (flatMap gR T))) ([zN (Sy.bits (getD T i mb)),zN (Sy.least (getD T i mb)),zN (Sy.many (getD T i mb))]) (aB (k:=3) (i:=i) (fun _=>rfl) om om) (.s 17 (.bd ((↑(Sy.least (getD T i mb)):Int)≤(n:Int)) (fun p0 p0f=>(.s 19 (.op ((↑(Sy.least (getD T i mb)):Int)+(↑(Sy.many (getD T i mb)):Int)) (by(have h9:=hz i;omega)) (.s 4 (.bd ((n:Int)<(↑(Sy.least (getD T i mb)):Int)+(↑(Sy.many (getD T i mb)):Int)) (fun p1 p1f=>(.s 10 (.ow ((b:Int)+i) (.s 15 (.ow ((n:Int)-(↑(Sy.least (getD T i mb)):Int)) (.s 4 (.val 4 (zI ((b:Int)+i)) (zN (b+I)) Rr (.val 5 (zN (Sy.bits (getD T i mb))) (zN (Sy.bits (getD T I mb))) Rr (.val 6 (zI ((n:Int)-(↑(Sy.least (getD T i mb)):Int))) (zN (n-Sy.least (getD T I mb))) Rr (Hn.last last1 0 (():Unit) rfl [(0,0)] ro)))))))))) (fun p1 p1f=>(.s 2 (.ow ((i:Int)+1) (.s 1 (.val 13 (zI ((i:Int)+1)) (zN (i+1)) (by(refine aT ?_;(omega))) (Hn.next next1 ⟨(i+1),(f-1),om,om,(by(exact(Fe hR om om rfl om).1)),(by(exact(Fe hR om om rfl om).2)),⟨⟩⟩ (by show k-(i+1)<k-i;clear next1 last1;omega) [(0,0)] ro))))))))))) (fun p0 p0f=>(.s 16 (.ow ((i:Int)+1) (.s 1 (.val 13 (zI ((i:Int)+1)) (zN (i+1)) (by(refine aT ?_;(omega))) (Hn.next next1 ⟨(i+1),(f-1),om,om,(by(exact(Fe hR om om rfl om).1)),(by(exact(Fe hR om om rfl om).2)),⟨⟩⟩ (by show k-(i+1)<k-i;clear next1 last1;omega) [(0,0)] ro)))))))))))))))) (fun|⟨i,f,hi,hf,hR,hi2,_⟩=>by kernel_rfl) ⟨(0),(k),om,om,(by(rw[hk];exact(kA T n).symm.trans hI)),om,⟨⟩⟩ [(0,0)] ro (bY (fun|()=>(.out [] [] (Uw [zN (b+I),zN (Sy.bits (getD T I mb)),zN (n-Sy.least (getD T I mb)),zI 0]) [] R (ok _ _ wr wr))))))) kr
theorem Kk (T:List Sy)(hT:T=au)(hl:T.length=29)(hz:bW T)(n:Nat)(hn:n≤40000)(I:Nat)(hI:ao T n=I)(hIk:I<29):S0 98 [nD n] [] (.tup [nD (257+I),nD (T.getD I mb).bits,nD (n-(T.getD I mb).least),iD 0]) []:=by
 refine SpecH.run T_ok ai Try.func98 rfl rfl rfl trivial rfl 1000 64 (fun R ok=>(.s 5 (.cl 89 false [] (.fn Ra (@sf (T) aD)) (.s 2 (.call 119 false [] (true&&(true&&(true&&Tz 87 (length (flatMap gR T))&&true&&af (bif true&&Tx 87 (length (flatMap gR T))then flatMap gR T else take 87 (drop 0 (flatMap gR T))))&&true)&&true) (by(have q:af (T.flatMap gR)=true:=fy (f:=gR) (fun _=>rfl) T;rw[a9 (f:=gR) (k:=3) (fun _=>rfl),hl];simp only[show Tz 87 (29*3)=true from rfl,show Tx 87 (29*3)=true from rfl,Uh,cond_true,q])) ([UA [zI 257,TL true 29 3 (bif true&&Tx 87 (length (flatMap gR T))then flatMap gR T else take 87 (drop 0 (flatMap gR T)))],zN n]) _ (by exact(Ut (D.sim.agg (qr (Ut (D.sim.slw rfl (cn (by(have q:af (T.flatMap gR)=true:=fy (f:=gR) (fun _=>rfl) T;rw[a9 (f:=gR) (k:=3) (fun _=>rfl),hl];simp only[show Tz 87 (29*3)=true from rfl,show Tx 87 (29*3)=true from rfl,Uh,cond_true,q]))|>.trans rfl)) trivial))) (qr trivial))) (true) wr _ _ _ (TW (az.of Try.func119 rfl rfl) (@Co (T) (29) om om om (257) (by(simp;done)) (n) om (I) aD om)) (.s 12 (.out [] [] (Uw [zN (257+I),zN (Sy.bits (getD T I mb)),zN (n-Sy.least (getD T I mb)),zI 0]) [] R (ok _ _ wr wr)))))))) kr
theorem Oj (T:List Sy)(hT:T=aA)(hl:T.length=30)(hz:bW T)(n:Nat)(hn:n≤40000)(I:Nat)(hI:ao T n=I)(hIk:I<30):S0 99 [nD n] [] (.tup [nD (0+I),nD (T.getD I mb).bits,nD (n-(T.getD I mb).least),iD 0]) []:=by
 refine SpecH.run T_ok ai Try.func99 rfl rfl rfl trivial rfl 1000 64 (fun R ok=>(.s 5 (.cl 92 false [] (.fn Rb (@wC (T) aD)) (.s 2 (.call 119 false [] (true&&(true&&(true&&Tz 90 (length (flatMap gR T))&&true&&af (bif true&&Tx 90 (length (flatMap gR T))then flatMap gR T else take 90 (drop 0 (flatMap gR T))))&&true)&&true) (by(have q:af (T.flatMap gR)=true:=fy (f:=gR) (fun _=>rfl) T;rw[a9 (f:=gR) (k:=3) (fun _=>rfl),hl];simp only[show Tz 90 (30*3)=true from rfl,show Tx 90 (30*3)=true from rfl,Uh,cond_true,q])) ([UA [zI 0,TL true 30 3 (bif true&&Tx 90 (length (flatMap gR T))then flatMap gR T else take 90 (drop 0 (flatMap gR T)))],zN n]) _ (by exact(Ut (D.sim.agg (qr (Ut (D.sim.slw rfl (cn (by(have q:af (T.flatMap gR)=true:=fy (f:=gR) (fun _=>rfl) T;rw[a9 (f:=gR) (k:=3) (fun _=>rfl),hl];simp only[show Tz 90 (30*3)=true from rfl,show Tx 90 (30*3)=true from rfl,Uh,cond_true,q]))|>.trans rfl)) trivial))) (qr trivial))) (true) wr _ _ _ (TW (az.of Try.func119 rfl rfl) (@Co (T) (30) om om om (0) (by(simp;done)) (n) om (I) aD om)) (.s 12 (.out [] [] (Uw [zN (0+I),zN (Sy.bits (getD T I mb)),zN (n-Sy.least (getD T I mb)),zI 0]) [] R (ok _ _ wr wr)))))))) kr
end Vp
end Go.Proofs.Ytefjnofhgkjpmaa

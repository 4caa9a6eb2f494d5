/- Part 3. -/
import Derived.Test.YtefjnofhgkjpmaaGreatTm2
set_option linter.all false
set_option maxRecDepth 100000
set_option maxHeartbeats 4000000
open And renaming intro → Wn
open BitVec renaming ofInt → Wq, toNat → Xc
open Bool renaming and_eq_true → Wh, and_true → WV, true_and → WM, true → Ga, false → Gd
open Go.Fn renaming func → Xi
open Go.IntKind renaming i64 → Wv, u64 → Yo, wrap → Wo
open Go.LoopState renaming busy → aam, ready → Y4
open Go.Value renaming int → Xq
open Go.Vx.Blk renaming mk → V8
open Go.Vx.CallOk renaming fn → Ws
open Go.Vx.CutS renaming mk → Wr
open Go.Vx.D renaming fn → Yd, ptr → WA, ref → Wb, sl → Wu, tup → Xm
open Go.Vx.TI renaming bytes → Zo
open Inhabited renaming default → lb
open Int renaming fdiv → Xl, tmod → XG, toNat → zL
open List renaming append_assoc → WI, append_nil → Xn, cons_append → YO, drop → WT, drop_eq_getElem_cons → X3, drop_eq_nil_of_le → Xv, drop_replicate → aah, ext_getElem? → Xe, filter_append → XT, filter_cons_of_neg → Yw, filter_cons_of_pos → Yv, flatMap_append → Xj, flatMap_cons → XE, getD_eq_getElem?_getD → Wd, getElem?_append_left → WO, getElem?_append_right → WJ, getElem?_eq_getElem → Wa, getElem?_eq_none → WL, getElem?_map → WB, getElem?_range → Xx, getElem?_replicate → XI, getElem?_set → XA, getElem?_take → Xa, getElem_mem → Xf, length_append → Wc, length_cons → WQ, length_drop → Wy, length_filter_le → Y5, length_map → Wj, length_nil → Yi, length_range → XY, length_replicate → WP, length_set → X8, length_singleton → W7, length_take → Wi, length_take_of_le → Xw, map_append → W4, map_congr_left → Zl, map_replicate → Ys, map_take → Yx, mem_cons_of_mem → WG, mem_cons_self → WH, mem_or_eq_of_mem_set → aap, range → Xp, range_succ → Y0, replicate → Wt, take → WS, take_append_of_le_length → Yn, take_length → XF, take_replicate → aa3, take_sublist → aas, take_succ_eq_append_getElem → WW, length → v0, flatMap → v8, getD → wm, map → wo, take → wx, drop → Ag, replicate → Ar
open List.Perm renaming refl → YC
open Nat renaming add_assoc → XW, add_mul → Xt, add_sub_cancel → XK, add_sub_cancel_left → Zw, beq → V9, beq_refl → Xk, ble → Wf, ble_eq_true_of_le → We, div_le_self → X7, le_refl → Wl, le_trans → Ww, lt_or_ge → WR, lt_succ_self → ZV, min → XL, min_eq_left → Y1, mul_add → YM, mul_assoc → XS, mul_comm → Yb, mul_le_mul_left → Zk, mul_le_mul_right → W8, mul_one → Wx, not_lt_zero → XN, pow_le_pow_right → Xh, pow_succ → XO, sub_self → Xz, succ_mul → aaI, succ_ne_zero → Yj, two_pow_pos → Yr, zero_add → WE, zero_le → W5, zero_mul → XQ
open Prod renaming fst → Wz, snd → Wg
open UInt8 renaming ofNat → Xg, toNat → V7, toNat_lt → Xb
open Option renaming some → Ge, none → z9
open Decidable renaming decide → Ao
open Go.Vx.Hn renaming next → Aw, last → BO, inl → BY
open Go.Proofs.Tryz renaming prog → CK
variable{p:Prop}
namespace Go.Proofs.YtefjnofhgkjpmaaGreat
open Go.RowKit Go.Bw Go.Vx
open List (length getD map take drop flatMap replicate)
namespace Vp
def cM (x:Nat):D:=.v (.int .u32 ((x:Nat):Int))
def aN (x:Nat):Nat->Nat
 |0=>x
 |i+1=>aN x i/2
def oj (x:Nat):∀i,aN x i=x/2^i
 |0=>(Nat.div_one x).symm
 |i+1=>by rw[aN,oj x i,Nat.div_div_eq_div_mul,XO]
def eN (x:Nat):∀i,aN x i<=x
 |0=>Wl _
 |i+1=>by rw[aN];have:=eN x i;omega
def dD:Nat->Nat
 |0=>1
 |i+1=>2*dD i
def xE:∀i,dD i=2^i
 |0=>rfl
 |i+1=>by rw[dD,xE i,XO,Yb]
def Fk {i:Nat}(h:i<=32):dD i<=4294967296:=by rw[xE];exact Xh (show 0<2 by decide) h
def BD (b:Z4)(p:Nat):lh b p=aN (b.getD (p/8) lb).toNat (p%8)%2:=by rw[oj];rfl
def Tu (k:Nat)(hk:k<=32):S0 129 [nD k] [] (.v (.int .u64 ((dD k:Nat):Int))) []:=SpR Tryz.func129 rfl rfl rfl trivial rfl 1000 64 (λ R ok=>.s 3<|BY T_ok ae Gd 13 0 (am Tryz.prog 129 0) (λ(x:(i:Nat)×'(hi:i<=k)×'Unit)=>match x with|⟨i,hi,_⟩=>Wr [(0,zN k),(3,.v (.int .u64 ((dD i:Nat):Int))),(4,nD i)] [] 0) (λ(x:(i:Nat)×'(hi:i<=k)×'Unit)=>match x with|⟨i,hi,_⟩=>k-i) [⟨Unit,.exit 0,λ()=>Wr [(0,zN k),(3,.v (.int .u64 ((dD k:Nat):Int))),(4,nD k)] [] 0⟩] 1000 64 (fun|⟨i,hi,_⟩,Q,ZB,ZD=>.B 4 ((i:Int)<k) (λ p0 Z9=>.O 3 (au .u64 (2*(↑(dD i):Int))) (D.v (Xq .u64 (2*(↑(dD i):Int)))) (bq (by(have h9:=Fk (i:=i) om;omega)))<|.W 4 (i+1)<|.V 1 3 (D.v (Xq .u64 (2*(↑(dD i):Int)))) (D.v (Xq .u64 (↑(dD (i+1)):Int))) (by(rw[dD];refine aF ?_;omega))<|.val 4 (zI (i+1)) (zN (i+1)) (by(refine aF ?_;(omega)))<|Aw ZB ⟨(i+1),om,⟨⟩⟩ (by show k-(i+1)<k-i;clear ZB ZD;omega) [] ro) (λ p0 Z9=>.val 3 (D.v (Xq .u64 (↑(dD i):Int))) (D.v (Xq .u64 (↑(dD k):Int))) (by(rw[show i=k from by omega]))<|.val 4 (zN i) (zN k) (by(rw[show i=k from by omega]))<|BO ZD 0 (():Unit) rfl [] ro)) (fun|⟨i,hi,_⟩=>by kernel_rfl) ⟨(0),om,⟨⟩⟩ [] ro (bB (fun|()=>.Y 2 [] [] (D.v (Xq .u64 (↑(dD k):Int))) [] ok))) kr
def fx {v:Nat}(h:v<=15):aN 32768 v=2^(15-v):=by
 rw[oj,show(32768:Nat)=2^15 from rfl,Nat.pow_div h (by decide)]
def H6 (v:Nat)(hv:v<256):S0 164 [fK v] [] (nD (aN 32768 v)) []:=SpR Tryz.func164 rfl rfl rfl trivial rfl 1000 64 (λ R ok=>.s 3<|BY T_ok ae Gd 14 0 (am Tryz.prog 164 0) (λ(x:(i:Nat)×'(hi:i<=v)×'Unit)=>match x with|⟨i,hi,_⟩=>Wr [(0,cK v),(3,nD (aN 32768 i)),(4,nD i)] [] 0) (λ(x:(i:Nat)×'(hi:i<=v)×'Unit)=>match x with|⟨i,hi,_⟩=>v-i) [⟨Unit,.exit 0,λ()=>Wr [(0,cK v),(3,nD (aN 32768 v)),(4,nD v)] [] 0⟩] 1000 64 (fun|⟨i,hi,_⟩,Q,ZB,ZD=>.W 3 (v:Int)<|.B 2 ((i:Int)<v) (λ p0 Z9=>.O 3 (aX Wv (Wo Wv (Int.tdiv (↑(aN 32768 i):Int) 2))) (zI ((↑(aN 32768 i):Int)/2)) (aB (@aT  ((↑(aN 32768 i):Int)) (2) (by(have h9:=eN 32768 i;omega)) om))<|.W 4 (i+1)<|.V 1 3 (zI ((↑(aN 32768 i):Int)/2)) (zN (aN 32768 (i+1))) (by(rw[aN];refine aF ?_;omega))<|.val 4 (zI (i+1)) (zN (i+1)) (by(refine aF ?_;(omega)))<|Aw ZB ⟨(i+1),om,⟨⟩⟩ (by show v-(i+1)<v-i;clear ZB ZD;omega) [] ro) (λ p0 Z9=>.val 3 (zN (aN 32768 i)) (zN (aN 32768 v)) (by(rw[show i=v from by omega]))<|.val 4 (zN i) (zN v) (by(rw[show i=v from by omega]))<|BO ZD 0 (():Unit) rfl [] ro)) (fun|⟨i,hi,_⟩=>by kernel_rfl) ⟨(0),om,⟨⟩⟩ [] ro (bB (fun|()=>.Y 2 [] [] (zN (aN 32768 v)) [] ok))) kr
def Kd(h:p:=by(have h7:=iW (a:=a) om;have h6:=X7 (gh l a k) (aN 32768 a);have h9:=vX (l:=l) (n:=a) (k:=k) om om;have h8:=eN 32768 a;omega)):=h
def Ke(h:p:=by(rw[show k=n from by omega])):=h
def N3(h:p:=by(have q:=Kg (l:=l) (n:=a) (k:=k) om om;refine aF ?_;omega)):=h
def N4(h:p:=by show n-(k+1)<n-k;clear ZA ZC ZB ZD;omega):=h
def va (l:Z4):Nat->Nat
 |0=>0
 |n+1=>va l n+(if n=0 then 0 else(fb l n l.length).length*aN 32768 n)
def gh (l:Z4)(n k:Nat):Nat:=lk l (va l n+(if n=0 then 0 else(fb l n k).length*aN 32768 n))
def im (l:Z4)(n k:Nat):gh l n k=va l n+(if n=0 then 0 else(fb l n k).length*aN 32768 n):=aM _ _
def N5 (l:Z4):gh l 1 0=0:=by
 rw[im,ZE (by decide)];have:fb l 1 0=[]:=rfl;rw[this,Yi,XQ];rfl
def Kf (l:Z4)(n:Nat):gh l (n+1) 0=gh l n l.length:=by
 rw[im,im,va,ZE (Yj n)];have:fb l (n+1) 0=[]:=rfl;rw[this,Yi,XQ,Nat.add_zero]
def N6 {l:Z4}{n k:Nat}(h0:n≠0)(h:(l.getD k lb).toNat=n):gh l n (k+1)=gh l n k+aN 32768 n:=by
 rw[im,im,ZE h0,ZE h0,fw,ZF h,Wc,W7,aaI,XW]
def N7 {l:Z4}{n k:Nat}(h:(l.getD k lb).toNat≠n):gh l n (k+1)=gh l n k:=by
 rw[im,im,fw,ZE h,Xn]
def BE (l:Z4):∀n,va l n<=n*(l.length*32768)
 |0=>W5 _
 |n+1=>by
  have h1:=BE l n;have h2:=Nat.mul_le_mul (rl l n l.length) (eN 32768 n);rw[va,aaI]
  split
  ·omega
  ·omega
def vX {l:Z4}{n k:Nat}(hn:n<=16)(hk:k<=l.length):gh l n k<=17*(l.length*32768):=by
 rw[im];have h1:=BE l n;have h2:=Nat.mul_le_mul (rl l n k) (eN 32768 n);have h3:n*(l.length*32768)<=16*(l.length*32768):=W8 _ hn;have h4:k*32768<=l.length*32768:=W8 _ hk
 split<;>omega
def sT (l:Z4)(j:Nat):Nat:=gh l (l.getD j lb).toNat j/aN 32768 (l.getD j lb).toNat
def vb (l:Z4)(n k j:Nat):Nat×Nat:=
 if(l.getD j lb).toNat≠0/\((l.getD j lb).toNat<n\/(l.getD j lb).toNat=n/\j<k)then(sT l j,(l.getD j lb).toNat)else(0,0)
def md (l:Z4)(n k:Nat):List (Nat×Nat):=lk l ((Xp l.length).map (vb l n k))
def oo (l:Z4)(n k:Nat):md l n k=(Xp l.length).map (vb l n k):=aM _ _
def aa (l:Z4):List (Nat×Nat):=lk l (md l 16 0)
def rq (l:Z4):aa l=md l 16 0:=aM _ _
def dK (c:Nat×Nat):GA:=[cM c.1,fK c.2]
def oq (l:Z4)(n k:Nat):(md l n k).length=l.length:=by rw[oo,Wj,XY]
def Fl (l:Z4):(aa l).length=l.length:=by rw[rq,oq]
def tU {l:Z4}{n k m j:Nat}(h:∀i,i<l.length->vb l n k i=vb l m j i):md l n k=md l m j:=by
 rw[oo,oo];exact Zl λ i hi=>h i (List.mem_range.1 hi)
def N8 (l:Z4)(n:Nat):md l (n+1) 0=md l n l.length:=tU λ i hi=>by
 unfold vb
 by_cases h:(l.getD i lb).toNat≠0/\(l.getD i lb).toNat<n+1
 ·rw[ZF ⟨h.1,.inl h.2⟩,ZF ⟨h.1,by omega⟩]
 ·rw[ZE (λ q=>by omega),ZE (λ q=>by omega)]
def BF {l:Z4}{n k i:Nat}(e:i≠k):vb l n (k+1) i=vb l n k i:=by
 unfold vb
 by_cases q:(l.getD i lb).toNat≠0/\((l.getD i lb).toNat<n\/(l.getD i lb).toNat=n/\i<k)
 ·rw[ZF q,ZF om]
 ·rw[ZE q,ZE om]
def Tv {l:Z4}{n k:Nat}(h:(l.getD k lb).toNat≠n):md l n (k+1)=md l n k:=tU λ i hi=>by
 by_cases e:i=k
 ·subst e
  unfold vb
  by_cases q:(l.getD i lb).toNat≠0/\(l.getD i lb).toNat<n
  ·rw[ZF ⟨q.1,.inl q.2⟩,ZF ⟨q.1,.inl q.2⟩]
  ·rw[ZE (λ q=>by omega),ZE (λ q=>by omega)]
 ·exact BF e
def Tw {l:Z4}{n k:Nat}(hk:k<l.length)(h0:n≠0)(h:(l.getD k lb).toNat=n):md l n (k+1)=(md l n k).set k (gh l n k/aN 32768 n,n):=by
 apply Xe;intro i;rw[XA,oq,oo,oo,WB,WB]
 by_cases e:k=i
 ·subst e
  rw[ZF rfl,ZF hk,Xx hk];show Ge (vb l n (k+1) k)=_;unfold vb sT;rw[ZF ⟨by omega,.inr ⟨h,by omega⟩⟩,h]
 ·rw[ZE e]
  rcases WR i l.length with hi|hi
  ·rw[Xx hi]
   show Ge (vb l n (k+1) i)=Ge (vb l n k i);rw[BF (λ q=>e q.symm)]
  ·rw[WL (by simpa using hi)];rfl
def Tx (l:Z4):md l 1 0=Wt l.length (0,0):=by
 rw[oo];apply Xe;intro i;rw[WB,XI];rcases WR i l.length with hi|hi
 ·rw[Xx hi,ZF hi]
  show Ge (vb l 1 0 i)=_;unfold vb;rw[ZE (λ q=>by omega)]
 ·rw[WL (by simpa using hi),ZE om];rfl
def mY (f:Nat×Nat->GA)(hf:∀c,(f c).length=2):∀(xs:List (Nat×Nat)) (k:Nat),(xs.flatMap f)[2*k]? =(xs[k]?).bind (λ c=>(f c)[0]?)/\(xs.flatMap f)[2*k+1]? =(xs[k]?).bind (λ c=>(f c)[1]?)
 |[],k=>by simp
 |c::r,0=>by
  rw[XE];exact⟨by rw[WO (by rw[hf];omega)];rfl,by rw[WO (by rw[hf];omega)];rfl⟩
 |c::r,k+1=>by
  have ih:=mY f hf r k;rw[XE];refine⟨?_,?_⟩
  ·rw[WJ (by rw[hf];omega),hf,show 2*(k+1)-2=2*k from by omega,ih.1];rfl
  ·rw[WJ (by rw[hf];omega),hf,show 2*(k+1)+1-2=2*k+1 from by omega,ih.2];rfl
def xF {xs:List (Nat×Nat)}{k o:Nat}{c:Nat×Nat}(hk:k<xs.length)(ho:o=2*k):ac (xs.flatMap dK) o (dK c)=(xs.set k c).flatMap dK:=by
 have hl:∀ys:List (Nat×Nat),(ys.flatMap dK).length=2*ys.length:=λ ys=>by rw[bg (k:=2) (λ _=>rfl)];omega
 subst ho;apply Xe;intro i;rw[ck (by rw[hl];show 2*k+2<=_;omega)];have hd:∃j,i=2*j\/i=2*j+1:=⟨i/2,by omega⟩
 obtain⟨j,hj⟩:=hd;have g1:=mY dK (λ _=>rfl) xs j;have g2:=mY dK (λ _=>rfl) (xs.set k c) j;show(if 2*k<=i/\i<2*k+2 then(dK c)[i-2*k]? else(xs.flatMap dK)[i]?)=_
 by_cases e:k=j
 ·subst e
  rw[XA,ZF rfl,ZF hk]at g2;rcases hj with rfl|rfl
  ·rw[ZF om,g2.1,Xz];rfl
  ·rw[ZF om,g2.2,Zw];rfl
 ·rw[XA,ZE e]at g2
  rw[ZE om];rcases hj with rfl|rfl
  ·rw[g1.1,g2.1]
  ·rw[g1.2,g2.2]
def BG (n:Nat):bR [D.v (.int .u32 0),D.v (.int .u8 0)] (n*2)=(Wt n ((0,0):Nat×Nat)).flatMap dK:=by
 apply Xe;intro i;unfold bR;rw[WB];obtain⟨j,hj⟩:∃j,i=2*j\/i=2*j+1:=⟨i/2,by omega⟩
 have g:=mY dK (λ _=>rfl) (Wt n ((0,0):Nat×Nat)) j;rw[XI]at g
 by_cases h:j<n
 ·rw[ZF h]at g
  rcases hj with rfl|rfl
  ·rw[Xx om,g.1]
   show Ge (List.getD _ (2*j%2) lb)=_;rw[show 2*j%2=0 from by omega];rfl
  ·rw[Xx om,g.2]
   show Ge (List.getD _ ((2*j+1)%2) lb)=_;rw[show(2*j+1)%2=1 from by omega];rfl
 ·rw[ZE h]at g
  rcases hj with rfl|rfl
  ·rw[WL (by rw[XY];omega),g.1];rfl
  ·rw[WL (by rw[XY];omega),g.2];rfl
def iW {a:Nat}(h:a<=15):1<=aN 32768 a:=by rw[fx h];exact Yr _
def N9 {l:Z4}{a k o:Nat}{x y:D}(hk:k<l.length)(h0:a≠0)(h:(l.getD (k*1) lb).toNat=a)(ho:o=2*k)(hx:x=cM (gh l a k/aN 32768 a))(hy:y=fK a):ac ((md l a k).flatMap dK) o [x,y]=(md l a (k+1)).flatMap dK:=by
 rw[Wx]at h;rw[Tw hk h0 h,<-xF (by rw[oq];exact hk) ho,hx,hy];rfl
def Ty {x y:Nat}(h:x<4294967296):D.v (.int .u32 ((x:Int)/(y:Int)%4294967296))=cM (x/y):=by
 have h2:=X7 x y;refine aF ?_;rw[<-Int.natCast_ediv];generalize x/y=z at *;omega
def Oa {l:Z4}{n k:Nat}(h:(l.getD (k*1) lb).toNat≠n):md l n (k+1)=md l n k:=Tv (by rwa [Wx]at h)
def Kg {l:Z4}{n k:Nat}(h0:n≠0)(h:(l.getD (k*1) lb).toNat=n):gh l n (k+1)=gh l n k+aN 32768 n:=N6 h0 (by rwa [Wx]at h)
def Kh {l:Z4}{n k:Nat}(h:(l.getD (k*1) lb).toNat≠n):gh l n (k+1)=gh l n k:=N7 (by rwa [Wx]at h)
def BH (l:Z4)(n:Nat)(hn:n=l.length)(hN:n<=1000):S0 130 [.sl Gd n 1 (l.map dB)] [] (.ref 0 0 0 (aa l).length 2) [⟨(aa l).flatMap dK, 210,Ga⟩]:=SpR Tryz.func130 rfl rfl rfl ⟨cV (λ _=>rfl) _,trivial⟩ rfl 1000 64 (λ R ok=>.K 4 (Ga&&Ao ((n:Int)<=n)&&Ga&&Ga&&Ga&&Ga&&Ao ((↑(Zo qk):Int)*(n:Int)<=140737488355328)) (by(have h9:((qk.bytes:Nat):Int)=8:=rfl;rw[h9];simp;omega))<|.V 3 4 (zI 0) (zN (gh l 1 0)) (by(rw[N5];rfl))<|.blk 24 24 (V8 (bR [uI 0,bI 0] (n*2)) 210 Ga) (V8 (v8 dK (md l 1 0)) 210 Ga) (by(refine aq ?_;subst hn;rw[Tx];exact BG _))<|BY T_ok ae Gd 45 0 (am Tryz.prog 130 0) (λ(x:(a:Nat)×'(ha:1<=a/\a<=16)×'Unit)=>match x with|⟨a,ha,_⟩=>Wr [(0,Wu Gd n 1 (wo dB l)),(3,Wb 0 0 0 n 2),(4,nD (gh l a 0)),(5,nD a)] [⟨0,0,24,24,.b ⟨(md l a 0).flatMap dK,210,Ga⟩⟩] 8) (λ(x:(a:Nat)×'(ha:1<=a/\a<=16)×'Unit)=>match x with|⟨a,ha,_⟩=>16-a) [⟨Unit,.exit 0,λ()=>Wr [(0,Wu Gd n 1 (wo dB l)),(3,Wb 0 0 0 n 2),(4,nD (gh l 16 0)),(5,nD 16)] [⟨0,0,24,24,.b ⟨(aa l).flatMap dK,210,Ga⟩⟩] 8⟩] 1000 64 (fun|⟨a,ha,_⟩,Q,ZB,ZD=>.B 3 ((a:Int)<=15) (λ p0 Z9=>.s 1<|BY T_ok ae Gd 45 0 (am Tryz.prog 130 1) (λ(x:(k:Nat)×'(hk:k<=n)×'Unit)=>match x with|⟨k,hk,_⟩=>Wr [(0,Wu Gd n 1 (wo dB l)),(3,Wb 0 0 0 n 2),(4,nD (gh l a k)),(5,zN a),(6,nD k)] [⟨0,0,0,0,.b ⟨(md l a k).flatMap dK,210,Ga⟩⟩] 8) (λ(x:(k:Nat)×'(hk:k<=n)×'Unit)=>match x with|⟨k,hk,_⟩=>n-k) [⟨Unit,.exit 2,λ()=>Wr [(0,Wu Gd n 1 (wo dB l)),(3,Wb 0 0 0 n 2),(4,nD (gh l a n)),(5,zN a),(6,nD n)] [⟨0,0,0,0,.b ⟨(md l a n).flatMap dK,210,Ga⟩⟩] 8⟩] 1000 64 (fun|⟨k,hk,_⟩,Q,ZA,ZC=>.B 5 ((k:Int)<n) (λ p1 Z8=>.K 3 (Ga&&Ao ((k:Int)<n)&&Ga) (by((refine aA ?_ ?_)<;>(repeat' (first|(refine aA ?_ ?_)|(with_reducible rfl)|(refine decide_eq_true ?_)|(refine We ?_)|(refine dg ?_)))<;>(omega)))<|.O 2 ((wo dB l)[k*1]?) (dB (wm l (k*1) lb)) (aj _ _ om)<|.I 1 (↑(V7 (wm l (k*1) lb)):Int) (by(exact dN _ (by decide) (by decide)))<|.R 3 ((↑(V7 (wm l (k*1) lb)):Int)==(a:Int)) (λ p2=>have Z7:=eq_of_beq p2;.O 5 (au .u8 (a:Int)) (cK a) (gF om)<|.C 1 164 Gd [] (.fn NL (@H6 (a) om))<|.K 1 (Ga&& !Ao ((↑(aN 32768 a):Int)=0)) (by(simp;have h7:=iW (a:=a) om;have h6:=X7 (gh l a k) (aN 32768 a);have h9:=vX (l:=l) (n:=a) (k:=k) om om;have h8:=eN 32768 a;omega))<|.opt (aX Wv (Wo Wv (Int.tdiv (↑(gh l a k):Int) (↑(aN 32768 a):Int)))) (zI ((↑(gh l a k):Int)/(↑(aN 32768 a):Int))) (aB (@aT  ((↑(gh l a k):Int)) ((↑(aN 32768 a):Int)) Kd Kd))<|.O 1 (au .u32 ((↑(gh l a k):Int)/(↑(aN 32768 a):Int))) (uI ((↑(gh l a k):Int)/(↑(aN 32768 a):Int)%4294967296)) (aD _ _)<|.O 2 (au .u8 (a:Int)) (cK a) (gF om)<|.K 3 (Ga&&Ao ((k:Int)<n)) aG<|.K 1 (Ga&&Wf (0+k*2+2) (v0 (v8 dK (md l a k)))) (by(simp only[WM];refine We ?_;rw[bg (k:=2) (λ _=>rfl),oq];omega))<|.lst (ac (v8 dK (md l a k)) (0+k*2) [uI ((↑(gh l a k):Int)/(↑(aN 32768 a):Int)%4294967296),cK a]) (ac (v8 dK (md l a k)) (k*2) [uI ((↑(gh l a k):Int)/(↑(aN 32768 a):Int)%4294967296),cK a]) (by(simp;done))<|.O 3 (au .u8 (a:Int)) (cK a) (gF om)<|.C 1 164 Gd [] (.fn NL (@H6 (a) om))<|.I 2 ((↑(gh l a k):Int)+(↑(aN 32768 a):Int)) Kd<|.W 4 (k+1)<|.V 1 4 (zI ((↑(gh l a k):Int)+(↑(aN 32768 a):Int))) (zN (gh l a (k+1))) N3<|.val 6 (zI (k+1)) (zN (k+1)) N3<|.blk 0 0 (V8 (ac (v8 dK (md l a k)) (k*2) [uI ((↑(gh l a k):Int)/(↑(aN 32768 a):Int)%4294967296),cK a]) 210 Ga) (V8 (v8 dK (md l a (k+1))) 210 Ga) (by(have h7:=iW (a:=a) om;have h6:=X7 (gh l a k) (aN 32768 a);have h9:=vX (l:=l) (n:=a) (k:=k) om om;have h8:=eN 32768 a;refine aq (N9 om om om om (Ty om) rfl)))<|Aw ZA ⟨(k+1),om,⟨⟩⟩ N4 [(0,0)] ro) (λ p2=>have Z7:=ak p2;.W 3 (k+1)<|.V 1 4 (zN (gh l a k)) (zN (gh l a (k+1))) (by(refine aF ?_;rw[Kh om]))<|.val 6 (zI (k+1)) (zN (k+1)) (by(refine aF ?_;(omega)))<|.blk 0 0 (V8 (v8 dK (md l a k)) 210 Ga) (V8 (v8 dK (md l a (k+1))) 210 Ga) (by(rw[Oa om]))<|Aw ZA ⟨(k+1),om,⟨⟩⟩ N4 [(0,0)] ro)) (λ p1 Z8=>.val 4 (zN (gh l a k)) (zN (gh l a n)) Ke<|.val 6 (zN k) (zN n) Ke<|.blk 0 0 (V8 (v8 dK (md l a k)) 210 Ga) (V8 (v8 dK (md l a n)) 210 Ga) Ke<|BO ZC 0 (():Unit) rfl [(0,0)] ro)) (fun|⟨k,hk,_⟩=>by kernel_rfl) ⟨(0),om,⟨⟩⟩ [(0,0)] ro (bB (fun|()=>.W 3 (a+1)<|.V 1 4 (zN (gh l a n)) (zN (gh l (a+1) 0)) (by(subst hn;rw[Kf]))<|.val 5 (zI (a+1)) (zN (a+1)) (by(refine aF ?_;(omega)))<|.blk 0 0 (V8 (v8 dK (md l a n)) 210 Ga) (V8 (v8 dK (md l (a+1) 0)) 210 Ga) (by(subst hn;rw[N8]))<|Aw ZB ⟨(a+1),om,⟨⟩⟩ (by show 16-(a+1)<16-a;clear ZB ZD;omega) [(0,0)] ro))) (λ p0 Z9=>.val 4 (zN (gh l a 0)) (zN (gh l 16 0)) (by(rw[show a=16 from by omega]))<|.val 5 (zN a) (zI 16) (by(refine aF ?_;(omega)))<|.blk 0 0 (V8 (v8 dK (md l a 0)) 210 Ga) (V8 (v8 dK (aa l)) 210 Ga) (by(rw[show a=16 from by omega,rq]))<|BO ZD 0 (():Unit) rfl [(0,0)] ro)) (fun|⟨a,ha,_⟩=>by kernel_rfl) ⟨(1),om,⟨⟩⟩ [(24,24)] ro (bB (fun|()=>.U 2 [0] [0] (Wb 0 0 0 n 2) [V8 (v8 dK (aa l)) 210 Ga] R (ok _ _ (by(rw[Fl,hn])) wr)))) kr
def Ki(h:p:=by((refine aA ?_ ?_)<;>(repeat' (first|(refine aA ?_ ?_)|(with_reducible rfl)|(refine decide_eq_true ?_)|(refine We ?_)|(refine dg ?_)))<;>(omega))):=h
def Oc (l:Z4):aS l 0=0:=by rw[oe];rfl
def mZ {l:Z4}{m:Nat}(hm:m<=15)(h:dC l m=0):dC l 15=0/\ek l 15=false:=by
 have h0:=gg h;have e3:ek l 15=false:=mW λ i z=>by have:=f6 h0.2.1 z;omega
 refine⟨?_,e3⟩;rw[kv]at *;unfold vT at *;rw[e3,ZE om,ZE (by decide)];rw[ZE om,ZE (by rw[h0.2.1];decide)]at h;exact h
def vY (l:Z4)(q p:Nat)(hq:q=(dR l).length)(hp:p=(dR l).length)(hQ:q<=320):S0 195 [HS q l,HS p l] [] (bD Ga) []:=SpR Tryz.func195 rfl rfl rfl trivial rfl 1000 64 (λ R ok=>.E 23 ((↑(aS l 0):Int)==(↑(aS l 0):Int)&&((↑(aS l 1):Int)==(↑(aS l 1):Int)&&((↑(aS l 2):Int)==(↑(aS l 2):Int)&&((↑(aS l 3):Int)==(↑(aS l 3):Int)&&((↑(aS l 4):Int)==(↑(aS l 4):Int)&&((↑(aS l 5):Int)==(↑(aS l 5):Int)&&((↑(aS l 6):Int)==(↑(aS l 6):Int)&&((↑(aS l 7):Int)==(↑(aS l 7):Int)&&((↑(aS l 8):Int)==(↑(aS l 8):Int)&&((↑(aS l 9):Int)==(↑(aS l 9):Int)&&((↑(aS l 10):Int)==(↑(aS l 10):Int)&&((↑(aS l 11):Int)==(↑(aS l 11):Int)&&((↑(aS l 12):Int)==(↑(aS l 12):Int)&&((↑(aS l 13):Int)==(↑(aS l 13):Int)&&((↑(aS l 14):Int)==(↑(aS l 14):Int)&&((↑(aS l 15):Int)==(↑(aS l 15):Int)&&Ga)))))))))))))))) Ki<|.F 24 ((q:Int) !=(p:Int)) (by(simp <;>(omega)))<|.s 3<|BY T_ok ae Gd 26 112 (am CK 199 0) (λ(x:(i:Nat)×'(hi:i<=q)×'Unit)=>match x with|⟨i,hi,_⟩=>Wr [(0,Wu Gd q 1 (wo nD (dR l))),(1,Wu Gd p 1 (wo nD (dR l))),(12,zN q),(13,nD i)] [⟨0,0,0,0,.b ⟨[zN (aS l 0),zN (aS l 1),zN (aS l 2),zN (aS l 3),zN (aS l 4),zN (aS l 5),zN (aS l 6),zN (aS l 7),zN (aS l 8),zN (aS l 9),zN (aS l 10),zN (aS l 11),zN (aS l 12),zN (aS l 13),zN (aS l 14),zN (aS l 15),Wu Gd q 1 (wo nD (dR l))],154,Gd⟩⟩,⟨8,8,8,8,.b ⟨[zN (aS l 0),zN (aS l 1),zN (aS l 2),zN (aS l 3),zN (aS l 4),zN (aS l 5),zN (aS l 6),zN (aS l 7),zN (aS l 8),zN (aS l 9),zN (aS l 10),zN (aS l 11),zN (aS l 12),zN (aS l 13),zN (aS l 14),zN (aS l 15),Wu Gd p 1 (wo nD (dR l))],154,Gd⟩⟩] 128) (λ(x:(i:Nat)×'(hi:i<=q)×'Unit)=>match x with|⟨i,hi,_⟩=>q-i) [⟨Unit,.exit 0,λ()=>Wr [(0,Wu Gd q 1 (wo nD (dR l))),(1,Wu Gd p 1 (wo nD (dR l))),(12,zN q)] [⟨0,0,0,0,.b ⟨[zN (aS l 0),zN (aS l 1),zN (aS l 2),zN (aS l 3),zN (aS l 4),zN (aS l 5),zN (aS l 6),zN (aS l 7),zN (aS l 8),zN (aS l 9),zN (aS l 10),zN (aS l 11),zN (aS l 12),zN (aS l 13),zN (aS l 14),zN (aS l 15),Wu Gd q 1 (wo nD (dR l))],154,Gd⟩⟩,⟨8,8,8,8,.b ⟨[zN (aS l 0),zN (aS l 1),zN (aS l 2),zN (aS l 3),zN (aS l 4),zN (aS l 5),zN (aS l 6),zN (aS l 7),zN (aS l 8),zN (aS l 9),zN (aS l 10),zN (aS l 11),zN (aS l 12),zN (aS l 13),zN (aS l 14),zN (aS l 15),Wu Gd p 1 (wo nD (dR l))],154,Gd⟩⟩] 128⟩] 1000 64 (fun|⟨i,hi,_⟩,Q,ZB,ZD=>.B 2 ((i:Int)<q) (λ p0 Z9=>.K 6 (Ga&&Ao ((i:Int)<q)&&Ga) Ki<|.O 2 ((wo nD (dR l))[i*1]?) (nD (wm (dR l) (i*1) lb)) (aj _ _ om)<|.K 3 (Ga&&Ao ((i:Int)<p)&&Ga) Ki<|.O 2 ((wo nD (dR l))[i*1]?) (nD (wm (dR l) (i*1) lb)) (aj _ _ om)<|.F 2 ((↑(wm (dR l) (i*1) lb):Int) !=(↑(wm (dR l) (i*1) lb):Int)) (by(simp;done))<|.W 2 (i+1)<|.V 1 13 (zI (i+1)) (zN (i+1)) (by(refine aF ?_;(omega)))<|Aw ZB ⟨(i+1),om,⟨⟩⟩ (by show q-(i+1)<q-i;clear ZB ZD;omega) [(0,0),(8,8)] ro) (λ p0 Z9=>(BO ZD 0 (():Unit) rfl [(0,0),(8,8)] ro))) (fun|⟨i,hi,_⟩=>by kernel_rfl) ⟨(0),om,⟨⟩⟩ [(0,0),(8,8)] ro (bB (fun|()=>.Y 3 [] [] (D.v (.bool Ga)) [] ok))) kr
def Vs (b l:Z4):Nat->Nat->Nat->Nat->Nat×Nat×Nat
 |0,_,_,_=>(0,0,50)
 |k+1,a,d,p=>if(tO l a).length+aS l a=(dR l).length then(0,0,50)else if V0 b p 1≠0 then(0,0,10)else
  if 2*(d-aS l a)+Tb b p 1<aS l (a+1)then((dR l).getD ((tO l a).length+aS l a+(2*(d-aS l a)+Tb b p 1)) lb,p+1,0)
  else Vs b l k (a+1) (2*(d-aS l a)+Tb b p 1) (p+1)
def ot (l:Z4)(n:Nat):∀(k j:Nat),∃r,fb l n (k+j)=fb l n k++r
 |k,0=>⟨[],by simp⟩
 |k,j+1=>by
  obtain⟨r,hr⟩:=ot l n k j;exact⟨r++(if(l.getD (k+j) lb).toNat=n then[k+j]else[]),by rw[<-XW,fw,hr,WI]⟩
def mD (l:Z4):Nat->Nat
 |0=>0
 |a+1=>2*(mD l a+aS l a)
def Fm {l:Z4}{a:Nat}(h:a≠0):(fb l a l.length).length=aS l a:=by rw[oe];unfold Bp;rw[ZE h]
def tV {a:Nat}(h:a<15):aN 32768 a=2*aN 32768 (a+1):=by
 rw[fx om,fx om,show 15-a=(15-(a+1))+1 from by omega,XO,Yb]
def vZ (l:Z4):∀a,a<=15->va l (a+1)=(mD l a+aS l a)*aN 32768 a
 |0,_=>by rw[va,ZF rfl,Oc];show 0+0=(0+0)*_;omega
 |a+1,h=>by
  have ih:=vZ l a om;rw[va,ZE (Yj a),ih,Fm (Yj a),mD,tV om];generalize aN 32768 (a+1)=P;generalize mD l a+aS l a=X;rw[Xt (2*X),XS 2 X P,Nat.mul_left_comm X 2 P]
def Kj {l:Z4}{a:Nat}(h0:a≠0)(h:a<=15):va l a=mD l a*aN 32768 a:=by
 obtain⟨b,rfl⟩:∃b,a=b+1:=⟨a-1,by omega⟩
 rw[vZ l b om,mD,tV om];rw[Yb 2 (mD l b+aS l b),XS]
def tW (l:Z4)(a:Nat):∀k,va l a<=va l (a+k)
 |0=>Wl _
 |k+1=>Ww (tW l a k) (by rw[<-XW,va];exact Nat.le_add_right _ _)
def H7 {l:Z4}{i a:Nat}(h:(l.getD i lb).toNat=a)(h0:a≠0)(h1:a<=15):sT l i=mD l a+(fb l a i).length:=by
 unfold sT;rw[h,im,ZE h0,Kj h0 h1,<-Xt,Nat.mul_div_cancel _ (iW h1)]
def AD (l:Z4)(k:Nat):Nat->Nat
 |0=>0
 |a+1=>AD l k a+(if a=0 then 0 else(fb l a k).length*aN 32768 a)
def BI (l:Z4):∀a,AD l l.length a=va l a
 |0=>rfl
 |a+1=>by rw[AD,va,BI l a]
def tX (l:Z4):∀a,AD l 0 a=0
 |0=>rfl
 |a+1=>by
  have:fb l a 0=[]:=rfl;rw[AD,tX l a,this,Yi,XQ];split<;>rfl
def tY (l:Z4)(k:Nat):∀a,AD l (k+1) a=AD l k a+(if(l.getD k lb).toNat≠0/\(l.getD k lb).toNat<a then aN 32768 (l.getD k lb).toNat else 0)
 |0=>by rw[AD,AD,ZE (λ q=>XN _ q.2)]
 |a+1=>by
  rw[AD,AD,tY l k a,fw];generalize(l.getD k lb).toNat=x
  by_cases h0:a=0
  ·rw[ZF h0,ZF h0,ZE (λ q=>by omega),ZE (λ q=>by omega)]
  ·rw[ZE h0,ZE h0]
   by_cases h:x=a
   ·subst h
    rw[ZF rfl,ZE (λ q=>by omega),ZF ⟨h0,by omega⟩,Wc,W7,aaI];omega
   ·rw[ZE h,Xn]
    by_cases h2:x≠0/\x<a
    ·rw[ZF h2,ZF om];omega
    ·rw[ZE h2,ZE om];omega
def Od (l:Z4)(ho:ek l 15=Gd):va l 16=bj l:=by
 have key:∀k,k<=l.length->AD l k 16=bj (l.take k):=by
  intro k
  induction k with
  |zero=>intro _;exact tX l 16
  |succ k ih=>
   intro hk;have hx:=f6 ho (i:=k) om;rw[tY,ih om,il om]
   by_cases q:(l.getD k lb).toNat=0
   ·rw[ZE (λ z=>z.1 q),ZF q]
   ·rw[ZF ⟨q,by omega⟩,ZE q,fx hx]
 have h:=key l.length (Wl _);rw[XF,BI]at h;exact h
def V1 (b l:Z4)(n d c:Nat):Nat×Nat×Nat:=lk b (if d<aS l n then((dR l).getD ((tO l n).length+d) lb,c,0)else Vs b l (16-n) n d c)
section
variable {b l:Z4} {n d c v:Nat} {R:Nat×Nat×Nat}
end

section
variable {b l:Z4} {n a d c v:Nat} {R:Nat×Nat×Nat} (hT:dC l 15=0) (hn:n=l.length) (ha:a<=15) (hv:v=mD l a+d) (hb:v<2^a) (hno:∀j,j<n->¬((l.getD j lb).toNat=a∧sT l j=v∧0<a)) (hR:V1 b l a d c=R)
include hT hn ha hv hb hno hR
end
def Hc {x y:Bool}(h:x=y):D.v (Value.bool x)=D.v (Value.bool y):=by rw[h]
def Kk(h:p:=by(have h8:=Fo (l:=l) (k:=k) hc15 om (0+(l.getD (k*1) lb).toNat*1) om om;omega)):=h
def Oe(h:p:=by(refine decide_eq_true ?_;have h8:=Fo (l:=l) (k:=k) hc15 om (0+(l.getD (k*1) lb).toNat*1) om om;omega)):=h
def Se(h:p:=by show n-(k+1)<n-k;clear ZB ZD;omega):=h
def Vv(h:p:=by((refine aA ?_ ?_)<;>(repeat' (first|(refine aA ?_ ?_)|(with_reducible rfl)|(refine decide_eq_true ?_)|(refine We ?_)|(refine dg ?_)))<;>(have h8:=Fo (l:=l) (k:=k) hc15 om (0+(l.getD (k*1) lb).toNat*1) om om;omega))):=h
def Vy(h:p:=by(have h7:=Ie (l:=l) (a:=a) hc15 om (0+a*1) om;omega)):=h
def Vz(h:p:=by(have h7:=Ie (l:=l) (a:=a) hc15 om (0+a*1) om;refine aF ?_;omega)):=h
def jy (f:Nat->Nat):GA:=[cM (f 0),cM (f 1),cM (f 2),cM (f 3),cM (f 4),cM (f 5),cM (f 6),cM (f 7),cM (f 8),cM (f 9),cM (f 10),cM (f 11),cM (f 12),cM (f 13),cM (f 14),cM (f 15),cM (f 16)]
def xG (f:Nat->Nat)(n:Nat)(h:n<17):(jy f)[n]? =Ge (cM (f n)):=by
 match n,h with
 |0,_=>rfl|1,_=>rfl|2,_=>rfl|3,_=>rfl|4,_=>rfl|5,_=>rfl|6,_=>rfl|7,_=>rfl|8,_=>rfl|9,_=>rfl|10,_=>rfl|11,_=>rfl|12,_=>rfl|13,_=>rfl|14,_=>rfl|15,_=>rfl|16,_=>rfl
 |n+17,h=>exact absurd h om
def BJ (f:Nat->Nat)(n:Nat)(h:n<17)(x:Nat):ac (jy f) n [cM x]=jy (λ m=>if m=n then x else f m):=by
 match n,h with
 |0,_=>rfl|1,_=>rfl|2,_=>rfl|3,_=>rfl|4,_=>rfl|5,_=>rfl|6,_=>rfl|7,_=>rfl|8,_=>rfl|9,_=>rfl|10,_=>rfl|11,_=>rfl|12,_=>rfl|13,_=>rfl|14,_=>rfl|15,_=>rfl|16,_=>rfl
 |n+17,h=>exact absurd h om
def dt {f g:Nat->Nat}(h:∀n,n<17->f n=g n):jy f=jy g:=by
 unfold jy;rw[h 0 (by decide),h 1 (by decide),h 2 (by decide),h 3 (by decide),h 4 (by decide),h 5 (by decide),h 6 (by decide),h 7 (by decide),h 8 (by decide),h 9 (by decide),h 10 (by decide),h 11 (by decide),h 12 (by decide),h 13 (by decide),h 14 (by decide),h 15 (by decide),h 16 (by decide)]
def bw (l:Z4)(k m:Nat):Nat:=lk l (if m=0 then 0 else(fb l m k).length)
def iX (l:Z4)(k m:Nat):bw l k m=if m=0 then 0 else(fb l m k).length:=aM _ _
def H8 (l:Z4)(m:Nat):bw l 0 m=0:=by rw[iX];split<;>rfl
def H9 (l:Z4)(m:Nat):bw l l.length m=aS l m:=by rw[iX,oe];rfl
def BK (l:Z4)(k m:Nat):bw l k m<=k:=by
 rw[iX];split
 ·exact W5 _
 ·exact rl _ _ _
def tZ {l:Z4}{k:Nat}(m:Nat):bw l (k+1) m=bw l k m+(if m≠0/\(l.getD k lb).toNat=m then 1 else 0):=by
 rw[iX,iX]
 by_cases h0:m=0
 ·rw[ZF h0,ZF h0,ZE (λ q=>q.1 h0)]
 ·rw[ZE h0,ZE h0,fw]
  by_cases h:(l.getD k lb).toNat=m
  ·rw[ZF h,ZF ⟨h0,h⟩,Wc];rfl
  ·rw[ZE h,ZE (λ q=>h q.2),Xn];rfl
def cw (l:Z4)(a m:Nat):Nat:=lk l (if m<a then mD l m else aS l m)
def ou (l:Z4)(a m:Nat):cw l a m=if m<a then mD l m else aS l m:=aM _ _
def bJ (l:Z4)(k m:Nat):Nat:=lk l (mD l m+bw l k m)
def gi (l:Z4)(k m:Nat):bJ l k m=mD l m+bw l k m:=aM _ _
def t0 (l:Z4)(a:Nat):Nat:=lk l (mD l a)
def rr (l:Z4)(a:Nat):t0 l a=mD l a:=aM _ _
def Kl (l:Z4)(k j:Nat):Nat×Nat:=if j<k/\(l.getD j lb).toNat≠0 then(sT l j,(l.getD j lb).toNat)else(0,0)
def m5 (l:Z4)(k:Nat):List (Nat×Nat):=lk l ((Xp l.length).map (Kl l k))
def oy (l:Z4)(k:Nat):m5 l k=(Xp l.length).map (Kl l k):=aM _ _
def ru (l:Z4)(k:Nat):(m5 l k).length=l.length:=by rw[oy,Wj,XY]
def Og (l:Z4):m5 l 0=Wt l.length (0,0):=by
 rw[oy];apply Xe;intro i;rw[WB,XI];rcases WR i l.length with hi|hi
 ·rw[Xx hi,ZF hi];rfl
 ·rw[WL (by simpa using hi),ZE om];rfl
def Ia {l:Z4}{k:Nat}(hk:k<l.length):m5 l (k+1)=if(l.getD k lb).toNat=0 then m5 l k else(m5 l k).set k (sT l k,(l.getD k lb).toNat):=by
 apply Xe;intro i;have e:∀j,(m5 l j)[i]? =if i<l.length then Ge (Kl l j i)else none:=λ j=>by
  rw[oy,WB];rcases WR i l.length with hi|hi
  ·rw[Xx hi,ZF hi];rfl
  ·rw[WL (by simpa using hi),ZE om];rfl
 by_cases h:(l.getD k lb).toNat=0
 ·rw[ZF h,e,e]
  split
  ·congr 1;unfold Kl
   by_cases hi:i=k
   ·subst hi;rw[ZE (λ q=>q.2 h),ZE (λ q=>q.2 h)]
   ·by_cases q:i<k/\(l.getD i lb).toNat≠0
    ·rw[ZF q,ZF ⟨by omega,q.2⟩]
    ·rw[ZE q,ZE (λ z=>q ⟨by omega,z.2⟩)]
  ·rfl
 ·rw[ZE h,XA,ru,e,e]
  by_cases hi:k=i
  ·subst hi
   rw[ZF hk,ZF rfl,ZF hk];unfold Kl;rw[ZF ⟨ZV k,h⟩]
  ·rw[ZE hi]
   split
   ·congr 1;unfold Kl
    by_cases q:i<k/\(l.getD i lb).toNat≠0
    ·rw[ZF q,ZF ⟨by omega,q.2⟩]
    ·rw[ZE q,ZE (λ z=>q ⟨by omega,z.2⟩)]
   ·rfl
def Ib {l:Z4}(ho:ek l 15=Gd):m5 l l.length=aa l:=by
 rw[oy,rq,oo];apply Zl;intro j hj;have hj:=List.mem_range.1 hj;have h:=f6 ho hj;unfold Kl vb
 by_cases q:(l.getD j lb).toNat=0
 ·rw[ZE (λ z=>z.2 q),ZE (λ z=>z.1 q)]
 ·rw[ZF ⟨hj,q⟩,ZF ⟨q,.inl om⟩]
def Ic {l:Z4}(hc:dC l 15=0){a:Nat}(h:a<=15):mD l a+aS l a<=2^a:=by
 have ho:=(gg hc).2.1;have hk:=(gg hc).2.2;have h1:=vZ l a h;have h2:=tW l (a+1) (16-(a+1));rw[show a+1+(16-(a+1))=16 from by omega,Od l ho,h1]at h2;have h3:(mD l a+aS l a)*aN 32768 a<=2^a*aN 32768 a:=by
  rw[fx h,<-Nat.pow_add,show a+(15-a)=15 from by omega];rw[fx h]at h2;omega
 exact Nat.le_of_mul_le_mul_right h3 (iW h)
def Km {l:Z4}(ho:ek l 15=Gd){a:Nat}(h:16<=a):aS l a=0:=by
 rw[oe];unfold Bp;rw[ZE om];have:fb l a l.length=[]:=by
  rw[List.eq_nil_iff_forall_not_mem];intro i hi;have:=Bq.1 hi;have:=f6 ho this.1;omega
 rw[this];rfl
def BL {l:Z4}(hc:dC l 15=0){a:Nat}(h:a<=17):mD l a<=131072/\(a<=16->mD l a+aS l a<=65536):=by
 have ho:=(gg hc).2.1;have p:∀b,b<=15->mD l b+aS l b<=32768:=λ b hb=>Ww (Ic hc hb) (Xh (n:=2) (by decide) hb)
 have NB:mD l 16=2*(mD l 15+aS l 15):=rfl;have Fc:mD l 17=2*(mD l 16+aS l 16):=rfl;have Vn:=Km ho (a:=16) (by decide);have p15:=p 15 (by decide);rcases WR a 16 with z|z
 ·have:=p a om;exact⟨by omega,λ _=>by omega⟩
 ·rcases WR a 17 with y|y
  ·have e:a=16:=by omega
   subst e;exact⟨by omega,λ _=>by omega⟩
  ·have e:a=17:=by omega
   subst e;exact⟨by omega,λ q=>by omega⟩
def Oh (l:Z4):jy (λ _=>0)=jy (bw l 0):=dt λ m _=>(H8 l m).symm
def Kn {l:Z4}{k:Nat}(h:(l.getD (k*1) lb).toNat=0):jy (bw l k)=jy (bw l (k+1)):=dt λ m _=>by
 rw[Wx]at h;rw[tZ,ZE (λ q=>by omega)];rfl
def Oi {l:Z4}{k:Nat}(h:k=l.length):jy (bw l k)=jy (aS l):=dt λ m _=>by rw[h,H9]
def Oj (l:Z4):jy (aS l)=jy (cw l 0):=dt λ m _=>by rw[ou,ZE (XN m)]
def Ok {l:Z4}{a:Nat}(h:17<=a):jy (cw l a)=jy (bJ l 0):=dt λ m hm=>by rw[ou,ZF om,gi,H8];rfl
def Ko {l:Z4}{k:Nat}(h:(l.getD (k*1) lb).toNat=0):jy (bJ l k)=jy (bJ l (k+1)):=dt λ m _=>by
 rw[Wx]at h;rw[gi,gi,tZ,ZE (λ q=>by omega)];rfl
def Tz (l:Z4)(k:Nat){o:Nat}(h:(l.getD (k*1) lb).toNat=o)(h0:0<o)(h1:o<17):ac (jy (bw l k)) o [D.v (.int .u32 (((bw l k o:Nat):Int)+1))]=jy (bw l (k+1)):=by
 rw[Wx]at h;refine(BJ (bw l k) o h1 (bw l k o+1)).trans (dt λ m _=>?_);rw[tZ]
 by_cases e:m=o
 ·rw[ZF e,e,ZF ⟨by omega,h⟩]
 ·rw[ZE e,ZE (λ q=>e om)];rfl
def Ol (l:Z4)(a:Nat){o:Nat}{z:Int}(ho:o=a)(h1:a<17)(hz:z=((t0 l a:Nat):Int)):ac (jy (cw l a)) o [D.v (.int .u32 z)]=jy (cw l (a+1)):=by
 subst ho hz;refine(BJ (cw l o) o h1 (t0 l o)).trans (dt λ m _=>?_);rw[ou,ou,rr]
 by_cases e:m=o
 ·rw[ZF e,e,ZF (ZV o)]
 ·rw[ZE e]
  by_cases q:m<o
  ·rw[ZF q,ZF om]
  ·rw[ZE q,ZE om]
def Om (l:Z4)(k:Nat){o:Nat}(h:(l.getD (k*1) lb).toNat=o)(h0:0<o)(h1:o<17):ac (jy (bJ l k)) o [D.v (.int .u32 (((bJ l k o:Nat):Int)+1))]=jy (bJ l (k+1)):=by
 rw[Wx]at h;refine(BJ (bJ l k) o h1 (bJ l k o+1)).trans (dt λ m _=>?_);rw[gi,gi,gi,tZ]
 by_cases e:m=o
 ·rw[ZF e,e,ZF ⟨by omega,h⟩];rfl
 ·rw[ZE e,ZE (λ q=>e om)];rfl
def Fo {l:Z4}{k:Nat}(hc:dC l 15=0)(hk:k<l.length)(o:Nat)(h:(l.getD (k*1) lb).toNat=o)(h0:0<o):o<=15/\bJ l k o=sT l k/\bJ l (k+1) o=sT l k+1/\sT l k<=65536/\bw l k o<=k:=by
 rw[Wx]at h;have ho:=f6 (gg hc).2.1 hk;have h1:o<=15:=by omega
 have e:=H7 h om h1;have h2:bJ l k o=sT l k:=by rw[gi,iX,ZE om,e]
 have h3:=(BL hc (a:=o) om).2 om;have h4:bw l (k+1) o=bw l k o+1:=by rw[tZ,ZF ⟨by omega,h⟩]
 have h5:bJ l (k+1) o=sT l k+1:=by
  rw[gi,h4,<-h2,gi,XW]
 have h6:bw l (k+1) o<=aS l o:=by
  rw[<-H9,iX,iX,ZE om,ZE om];obtain⟨r,hr⟩:=ot l o (k+1) (l.length-(k+1));rw[show k+1+(l.length-(k+1))=l.length from by omega]at hr;rw[hr,Wc];omega
 refine⟨h1,h2,h5,?_,BK l k o⟩;rw[<-h2,gi];omega
def Ie {l:Z4}{a:Nat}(hc:dC l 15=0)(h:a<17)(o:Nat)(ho:o=a):t0 l a+cw l a o<=65536/\(t0 l a+cw l a o)*2=t0 l (a+1)/\t0 l (a+1)<=131072:=by
 subst ho;have h1:=(BL hc (a:=o) om).2 om;have h2:=(BL hc (a:=o+1) om).1;rw[rr,rr,ou,ZE (Nat.lt_irrefl o)];refine⟨h1,?_,h2⟩;rw[mD,Yb]
def On {l:Z4}{k:Nat}(hk:k<l.length)(h:(l.getD (k*1) lb).toNat=0):m5 l (k+1)=m5 l k:=by
 rw[Wx]at h;rw[Ia hk,ZF h]
def Oo {l:Z4}{k:Nat}(hk:k<l.length)(h:0<(l.getD (k*1) lb).toNat):m5 l (k+1)=(m5 l k).set k (sT l k,(l.getD k lb).toNat):=by
 rw[Wx]at h;rw[Ia hk,ZE om]
def V2 {l:Z4}{k:Nat}(hc:dC l 15=0)(hk:k<l.length)(h:0<(l.getD (k*1) lb).toNat):ac ((m5 l k).flatMap dK) (k*2) [D.v (.int .u32 (((bJ l (k+1) (l.getD k lb).toNat:Nat):Int)-1)),D.v (.int .u8 (((l.getD k lb).toNat:Nat):Int))]=(m5 l (k+1)).flatMap dK:=by
 have h2:=Fo hc hk (l.getD k lb).toNat (by rw[Wx]) (by rwa [Wx]at h);rw[Oo hk h,h2.2.2.1,show(((sT l k+1:Nat):Int)-1)=((sT l k:Nat):Int)from by omega];exact xF (c:=(sT l k,(l.getD k lb).toNat)) (by rw[ru];exact hk) (Yb k 2)
def Fp (l:Z4)(n:Nat)(hn:n=l.length)(m:Nat)(hm:1<=m/\m<=15)(hc:dC l m=0):S0 112 [.sl Gd n 1 (l.map dB),nD m] [] (.tup [.ref 0 0 0 n 2,iD 0]) [⟨(aa l).flatMap dK, 210,Ga⟩]:=by
 have hL:=(gg hc).1;have hc15:=(mZ hm.2 hc).1;have ho:=(gg hc15).2.1;refine SpR Tryz.func112 rfl rfl rfl ⟨cV (λ _=>rfl) _,trivial⟩ rfl 1000 64 (λ R ok=>.C 5 148 Gd [] (.fn SS (@J5 (l) (n) om om (m) om))<|.F 4 ((↑(dC l m):Int) !=0) (by(simp <;>(omega)))<|.M 8 80 80 (V8 [uI 0,uI 0,uI 0,uI 0,uI 0,uI 0,uI 0,uI 0,uI 0,uI 0,uI 0,uI 0,uI 0,uI 0,uI 0,uI 0,uI 0] 234 Gd) (V8 [ah (bw l 0 0),ah (bw l 0 1),ah (bw l 0 2),ah (bw l 0 3),ah (bw l 0 4),ah (bw l 0 5),ah (bw l 0 6),ah (bw l 0 7),ah (bw l 0 8),ah (bw l 0 9),ah (bw l 0 10),ah (bw l 0 11),ah (bw l 0 12),ah (bw l 0 13),ah (bw l 0 14),ah (bw l 0 15),ah (bw l 0 16)] 234 Gd) (by(exact aq (Oh l)))<|BY T_ok ae Gd 20 80 (am Tryz.prog 149 0) (λ(x:(k:Nat)×'(hk:k<=n)×'Unit)=>match x with|⟨k,hk,_⟩=>Wr [(2,WA 80 80 0),(5,Wu Gd n 1 (wo dB l)),(6,zN n),(7,nD k)] [⟨80,80,80,80,.c ⟨jy (bw l k),234,Gd⟩⟩] 88) (λ(x:(k:Nat)×'(hk:k<=n)×'Unit)=>match x with|⟨k,hk,_⟩=>n-k) [⟨Unit,.exit 0,λ()=>Wr [(2,WA 80 80 0),(5,Wu Gd n 1 (wo dB l)),(6,zN n)] [⟨80,80,80,80,.c ⟨jy (aS l),234,Gd⟩⟩] 88⟩] 1000 64 (fun|⟨k,hk,_⟩,Q,ZB,ZD=>.B 2 ((k:Int)<n) (λ p0 Z9=>.K 1 (Ga&&Ao ((k:Int)<n)&&Ga) Ki<|.O 2 ((wo dB l)[k*1]?) (dB (wm l (k*1) lb)) (aj _ _ om)<|.B 4 (0<(↑(V7 (wm l (k*1) lb)):Int)) (λ p1 Z8=>.K 2 (Ga&&Ao ((↑(V7 (wm l (k*1) lb)):Int)<(↑17:Int))) Oe<|.O 3 ((jy (bw l k))[0+V7 (wm l (k*1) lb)*1]?) (cM (bw l k (0+V7 (wm l (k*1) lb)*1))) (@xG (bw l k) (0+V7 (wm l (k*1) lb)*1) Kk)<|.O 2 (au .u32 ((↑(bw l k (0+V7 (wm l (k*1) lb)*1)):Int)+1)) (uI ((↑(bw l k (0+V7 (wm l (k*1) lb)*1)):Int)+1)) (ax (by(have h9:=BK l k (0+(l.getD (k*1) lb).toNat*1);omega)))<|.K 1 (Ga&&Ao ((↑(V7 (wm l (k*1) lb)):Int)<(↑17:Int))) Oe<|.K 2 (Ga&&Wf (0+V7 (wm l (k*1) lb)*1+1) 17) Vv<|.lst (ac [ah (bw l k 0),ah (bw l k 1),ah (bw l k 2),ah (bw l k 3),ah (bw l k 4),ah (bw l k 5),ah (bw l k 6),ah (bw l k 7),ah (bw l k 8),ah (bw l k 9),ah (bw l k 10),ah (bw l k 11),ah (bw l k 12),ah (bw l k 13),ah (bw l k 14),ah (bw l k 15),ah (bw l k 16)] (0+V7 (wm l (k*1) lb)*1) [uI ((↑(bw l k (0+V7 (wm l (k*1) lb)*1)):Int)+1)]) ([ah (bw l (k+1) 0),ah (bw l (k+1) 1),ah (bw l (k+1) 2),ah (bw l (k+1) 3),ah (bw l (k+1) 4),ah (bw l (k+1) 5),ah (bw l (k+1) 6),ah (bw l (k+1) 7),ah (bw l (k+1) 8),ah (bw l (k+1) 9),ah (bw l (k+1) 10),ah (bw l (k+1) 11),ah (bw l (k+1) 12),ah (bw l (k+1) 13),ah (bw l (k+1) 14),ah (bw l (k+1) 15),ah (bw l (k+1) 16)]) (@Tz l k (0+V7 (wm l (k*1) lb)*1) om om Kk)<|.W 2 (k+1)<|.V 1 7 (zI (k+1)) (zN (k+1)) Ex<|Aw ZB ⟨(k+1),om,⟨⟩⟩ Se [(80,80)] ro) (λ p1 Z8=>.W 2 (k+1)<|.V 1 7 (zI (k+1)) (zN (k+1)) Ex<|.blk 80 80 (V8 [ah (bw l k 0),ah (bw l k 1),ah (bw l k 2),ah (bw l k 3),ah (bw l k 4),ah (bw l k 5),ah (bw l k 6),ah (bw l k 7),ah (bw l k 8),ah (bw l k 9),ah (bw l k 10),ah (bw l k 11),ah (bw l k 12),ah (bw l k 13),ah (bw l k 14),ah (bw l k 15),ah (bw l k 16)] 234 Gd) (V8 [ah (bw l (k+1) 0),ah (bw l (k+1) 1),ah (bw l (k+1) 2),ah (bw l (k+1) 3),ah (bw l (k+1) 4),ah (bw l (k+1) 5),ah (bw l (k+1) 6),ah (bw l (k+1) 7),ah (bw l (k+1) 8),ah (bw l (k+1) 9),ah (bw l (k+1) 10),ah (bw l (k+1) 11),ah (bw l (k+1) 12),ah (bw l (k+1) 13),ah (bw l (k+1) 14),ah (bw l (k+1) 15),ah (bw l (k+1) 16)] 234 Gd) (by(exact aq (Kn (by(omega)))))<|Aw ZB ⟨(k+1),om,⟨⟩⟩ Se [(80,80)] ro)) (λ p0 Z9=>.blk 80 80 (V8 [ah (bw l k 0),ah (bw l k 1),ah (bw l k 2),ah (bw l k 3),ah (bw l k 4),ah (bw l k 5),ah (bw l k 6),ah (bw l k 7),ah (bw l k 8),ah (bw l k 9),ah (bw l k 10),ah (bw l k 11),ah (bw l k 12),ah (bw l k 13),ah (bw l k 14),ah (bw l k 15),ah (bw l k 16)] 234 Gd) (V8 [ah (aS l 0),ah (aS l 1),ah (aS l 2),ah (aS l 3),ah (aS l 4),ah (aS l 5),ah (aS l 6),ah (aS l 7),ah (aS l 8),ah (aS l 9),ah (aS l 10),ah (aS l 11),ah (aS l 12),ah (aS l 13),ah (aS l 14),ah (aS l 15),ah (aS l 16)] 234 Gd) (by(exact aq (Oi (by(omega)))))<|BO ZD 0 (():Unit) rfl [(80,80)] ro)) (fun|⟨k,hk,_⟩=>by kernel_rfl) ⟨(0),om,⟨⟩⟩ [(80,80)] ro (bB (fun|()=>.V 19 2 (uI 0) (ah (t0 l 0)) (by(rw[rr];rfl))<|.blk 120 120 (V8 [ah (aS l 0),ah (aS l 1),ah (aS l 2),ah (aS l 3),ah (aS l 4),ah (aS l 5),ah (aS l 6),ah (aS l 7),ah (aS l 8),ah (aS l 9),ah (aS l 10),ah (aS l 11),ah (aS l 12),ah (aS l 13),ah (aS l 14),ah (aS l 15),ah (aS l 16)] 234 Gd) (V8 [ah (cw l 0 0),ah (cw l 0 1),ah (cw l 0 2),ah (cw l 0 3),ah (cw l 0 4),ah (cw l 0 5),ah (cw l 0 6),ah (cw l 0 7),ah (cw l 0 8),ah (cw l 0 9),ah (cw l 0 10),ah (cw l 0 11),ah (cw l 0 12),ah (cw l 0 13),ah (cw l 0 14),ah (cw l 0 15),ah (cw l 0 16)] 234 Gd) (by(exact aq (Oj l)))<|BY T_ok ae Gd 21 144 (am Tryz.prog 150 0) (λ(x:(a:Nat)×'(ha:a<=17)×'Unit)=>match x with|⟨a,ha,_⟩=>Wr [(0,WA 120 120 0),(2,cM (t0 l a)),(4,nD a)] [⟨80,80,80,80,.b ⟨[ah (aS l 0),ah (aS l 1),ah (aS l 2),ah (aS l 3),ah (aS l 4),ah (aS l 5),ah (aS l 6),ah (aS l 7),ah (aS l 8),ah (aS l 9),ah (aS l 10),ah (aS l 11),ah (aS l 12),ah (aS l 13),ah (aS l 14),ah (aS l 15),ah (aS l 16)],234,Gd⟩⟩,⟨120,120,120,120,.c ⟨jy (cw l a),234,Gd⟩⟩] 160) (λ(x:(a:Nat)×'(ha:a<=17)×'Unit)=>match x with|⟨a,ha,_⟩=>17-a) [⟨Unit,.exit 0,λ()=>Wr [(0,WA 120 120 0)] [⟨80,80,80,80,.b ⟨[ah (aS l 0),ah (aS l 1),ah (aS l 2),ah (aS l 3),ah (aS l 4),ah (aS l 5),ah (aS l 6),ah (aS l 7),ah (aS l 8),ah (aS l 9),ah (aS l 10),ah (aS l 11),ah (aS l 12),ah (aS l 13),ah (aS l 14),ah (aS l 15),ah (aS l 16)],234,Gd⟩⟩,⟨120,120,120,120,.c ⟨jy (bJ l 0),234,Gd⟩⟩] 160⟩] 1000 64 (fun|⟨a,ha,_⟩,Q,ZB,ZD=>.B 2 ((a:Int)<17) (λ p2 Z7=>.K 10 (Ga&&Ao ((a:Int)<(↑17:Int))) aG<|.O 3 ((jy (cw l a))[0+a*1]?) (cM (cw l a (0+a*1))) (@xG (cw l a) (0+a*1) om)<|.O 2 (au .u32 ((↑(t0 l a):Int)+(↑(cw l a (0+a*1)):Int))) (uI ((↑(t0 l a):Int)+(↑(cw l a (0+a*1)):Int))) (ax Vy)<|.O 2 (au .u32 (((↑(t0 l a):Int)+(↑(cw l a (0+a*1)):Int))*2)) (uI (((↑(t0 l a):Int)+(↑(cw l a (0+a*1)):Int))*2)) (ax Vy)<|.K 4 (Ga&&Ao ((a:Int)<(↑17:Int))) aG<|.K 2 (Ga&&Wf (0+a*1+1) 17) (by(refine We ?_;(omega)))<|.lst (ac [ah (cw l a 0),ah (cw l a 1),ah (cw l a 2),ah (cw l a 3),ah (cw l a 4),ah (cw l a 5),ah (cw l a 6),ah (cw l a 7),ah (cw l a 8),ah (cw l a 9),ah (cw l a 10),ah (cw l a 11),ah (cw l a 12),ah (cw l a 13),ah (cw l a 14),ah (cw l a 15),ah (cw l a 16)] (0+a*1) [ah (t0 l a)]) ([ah (cw l (a+1) 0),ah (cw l (a+1) 1),ah (cw l (a+1) 2),ah (cw l (a+1) 3),ah (cw l (a+1) 4),ah (cw l (a+1) 5),ah (cw l (a+1) 6),ah (cw l (a+1) 7),ah (cw l (a+1) 8),ah (cw l (a+1) 9),ah (cw l (a+1) 10),ah (cw l (a+1) 11),ah (cw l (a+1) 12),ah (cw l (a+1) 13),ah (cw l (a+1) 14),ah (cw l (a+1) 15),ah (cw l (a+1) 16)]) (@Ol l a (0+a*1) ((↑(t0 l a):Int)) om om om)<|.W 2 (a+1)<|.V 1 2 (uI (((↑(t0 l a):Int)+(↑(cw l a (0+a*1)):Int))*2)) (ah (t0 l (a+1))) Vz<|.val 4 (zI (a+1)) (zN (a+1)) Vz<|Aw ZB ⟨(a+1),om,⟨⟩⟩ (by show 17-(a+1)<17-a;clear ZB ZD;omega) [(80,80),(120,120)] ro) (λ p2 Z7=>.blk 120 120 (V8 [ah (cw l a 0),ah (cw l a 1),ah (cw l a 2),ah (cw l a 3),ah (cw l a 4),ah (cw l a 5),ah (cw l a 6),ah (cw l a 7),ah (cw l a 8),ah (cw l a 9),ah (cw l a 10),ah (cw l a 11),ah (cw l a 12),ah (cw l a 13),ah (cw l a 14),ah (cw l a 15),ah (cw l a 16)] 234 Gd) (V8 [ah (bJ l 0 0),ah (bJ l 0 1),ah (bJ l 0 2),ah (bJ l 0 3),ah (bJ l 0 4),ah (bJ l 0 5),ah (bJ l 0 6),ah (bJ l 0 7),ah (bJ l 0 8),ah (bJ l 0 9),ah (bJ l 0 10),ah (bJ l 0 11),ah (bJ l 0 12),ah (bJ l 0 13),ah (bJ l 0 14),ah (bJ l 0 15),ah (bJ l 0 16)] 234 Gd) (by(exact aq (Ok (by(omega)))))<|BO ZD 0 (():Unit) rfl [(80,80),(120,120)] ro)) (fun|⟨a,ha,_⟩=>by kernel_rfl) ⟨(0),om,⟨⟩⟩ [(80,80),(120,120)] ro (bB (fun|()=>.K 3 (Ga&&Ao ((n:Int)<=n)&&Ga&&Ga&&Ga&&Ga&&Ao ((↑(Zo qk):Int)*(n:Int)<=140737488355328)) (by(have h9:((qk.bytes:Nat):Int)=8:=rfl;rw[h9];simp;omega))<|.M 4 184 184 (V8 (bR [uI 0,bI 0] (n*2)) 210 Ga) (V8 (v8 dK (m5 l 0)) 210 Ga) (by(refine aq ?_;rw[BG,Og,hn]))<|BY T_ok ae Gd 39 0 (am Tryz.prog 112 0) (λ(x:(k:Nat)×'(hk:k<=n)×'Unit)=>match x with|⟨k,hk,_⟩=>Wr [(7,WA 0 0 0),(8,Wb 8 8 0 n 2),(23,Wu Gd n 1 (wo dB l)),(24,zN n),(25,nD k)] [⟨0,0,120,120,.c ⟨jy (bJ l k),234,Gd⟩⟩,⟨8,8,184,184,.b ⟨(m5 l k).flatMap dK,210,Ga⟩⟩] 16) (λ(x:(k:Nat)×'(hk:k<=n)×'Unit)=>match x with|⟨k,hk,_⟩=>n-k) [⟨Unit,.exit 0,λ()=>Wr [(7,WA 0 0 0),(8,Wb 8 8 0 n 2),(23,Wu Gd n 1 (wo dB l)),(24,zN n)] [⟨8,8,184,184,.b ⟨(aa l).flatMap dK,210,Ga⟩⟩] 16⟩] 1000 64 (fun|⟨k,hk,_⟩,Q,ZB,ZD=>.B 2 ((k:Int)<n) (λ p3 Z6=>.K 2 (Ga&&Ao ((k:Int)<n)&&Ga) Ki<|.O 2 ((wo dB l)[k*1]?) (dB (wm l (k*1) lb)) (aj _ _ om)<|.B 5 (0<(↑(V7 (wm l (k*1) lb)):Int)) (λ p4 Z5=>.K 12 (Ga&&Ao ((↑(V7 (wm l (k*1) lb)):Int)<(↑17:Int))) Oe<|.O 3 ((jy (bJ l k))[0+V7 (wm l (k*1) lb)*1]?) (cM (bJ l k (0+V7 (wm l (k*1) lb)*1))) (@xG (bJ l k) (0+V7 (wm l (k*1) lb)*1) Kk)<|.O 2 (au .u32 ((↑(bJ l k (0+V7 (wm l (k*1) lb)*1)):Int)+1)) (uI ((↑(bJ l k (0+V7 (wm l (k*1) lb)*1)):Int)+1)) (ax Kk)<|.K 2 (Ga&&Ao ((↑(V7 (wm l (k*1) lb)):Int)<(↑17:Int))) Oe<|.K 2 (Ga&&Wf (0+V7 (wm l (k*1) lb)*1+1) 17) Vv<|.lst (ac [ah (bJ l k 0),ah (bJ l k 1),ah (bJ l k 2),ah (bJ l k 3),ah (bJ l k 4),ah (bJ l k 5),ah (bJ l k 6),ah (bJ l k 7),ah (bJ l k 8),ah (bJ l k 9),ah (bJ l k 10),ah (bJ l k 11),ah (bJ l k 12),ah (bJ l k 13),ah (bJ l k 14),ah (bJ l k 15),ah (bJ l k 16)] (0+V7 (wm l (k*1) lb)*1) [uI ((↑(bJ l k (0+V7 (wm l (k*1) lb)*1)):Int)+1)]) ([ah (bJ l (k+1) 0),ah (bJ l (k+1) 1),ah (bJ l (k+1) 2),ah (bJ l (k+1) 3),ah (bJ l (k+1) 4),ah (bJ l (k+1) 5),ah (bJ l (k+1) 6),ah (bJ l (k+1) 7),ah (bJ l (k+1) 8),ah (bJ l (k+1) 9),ah (bJ l (k+1) 10),ah (bJ l (k+1) 11),ah (bJ l (k+1) 12),ah (bJ l (k+1) 13),ah (bJ l (k+1) 14),ah (bJ l (k+1) 15),ah (bJ l (k+1) 16)]) (@Om l k (0+V7 (wm l (k*1) lb)*1) om om Kk)<|.K 4 (Ga&&Ao ((↑(V7 (wm l (k*1) lb)):Int)<(↑17:Int))) Oe<|.O 3 ((jy (bJ l (k+1)))[0+V7 (wm l (k*1) lb)*1]?) (cM (bJ l (k+1) (0+V7 (wm l (k*1) lb)*1))) (@xG (bJ l (k+1)) (0+V7 (wm l (k*1) lb)*1) Kk)<|.O 2 (au .u32 ((↑(bJ l (k+1) (0+V7 (wm l (k*1) lb)*1)):Int)-1)) (uI ((↑(bJ l (k+1) (0+V7 (wm l (k*1) lb)*1)):Int)-1)) (ax Kk)<|.K 10 (Ga&&Ao ((k:Int)<n)) aG<|.K 1 (Ga&&Wf (0+k*2+2) (v0 (v8 dK (m5 l k)))) (by(rw[bg (k:=2) (λ _=>rfl),ru];simp only[WM];refine We ?_;(omega)))<|.lst (ac (v8 dK (m5 l k)) (0+k*2) [uI ((↑(bJ l (k+1) (0+V7 (wm l (k*1) lb)*1)):Int)-1),cK (V7 (wm l (k*1) lb))]) (ac (v8 dK (m5 l k)) (k*2) [uI ((↑(bJ l (k+1) (V7 (wm l k lb))):Int)-1),cK (V7 (wm l k lb))]) (by(simp;done))<|.W 2 (k+1)<|.V 1 25 (zI (k+1)) (zN (k+1)) Ex<|.blk 8 8 (V8 (ac (v8 dK (m5 l k)) (k*2) [uI ((↑(bJ l (k+1) (V7 (wm l k lb))):Int)-1),cK (V7 (wm l k lb))]) 210 Ga) (V8 (v8 dK (m5 l (k+1))) 210 Ga) (by(exact aq (V2 hc15 (by(omega)) (by(omega)))))<|Aw ZB ⟨(k+1),om,⟨⟩⟩ Se [(0,0),(8,8)] ro) (λ p4 Z5=>.W 2 (k+1)<|.V 1 25 (zI (k+1)) (zN (k+1)) Ex<|.blk 0 0 (V8 [ah (bJ l k 0),ah (bJ l k 1),ah (bJ l k 2),ah (bJ l k 3),ah (bJ l k 4),ah (bJ l k 5),ah (bJ l k 6),ah (bJ l k 7),ah (bJ l k 8),ah (bJ l k 9),ah (bJ l k 10),ah (bJ l k 11),ah (bJ l k 12),ah (bJ l k 13),ah (bJ l k 14),ah (bJ l k 15),ah (bJ l k 16)] 234 Gd) (V8 [ah (bJ l (k+1) 0),ah (bJ l (k+1) 1),ah (bJ l (k+1) 2),ah (bJ l (k+1) 3),ah (bJ l (k+1) 4),ah (bJ l (k+1) 5),ah (bJ l (k+1) 6),ah (bJ l (k+1) 7),ah (bJ l (k+1) 8),ah (bJ l (k+1) 9),ah (bJ l (k+1) 10),ah (bJ l (k+1) 11),ah (bJ l (k+1) 12),ah (bJ l (k+1) 13),ah (bJ l (k+1) 14),ah (bJ l (k+1) 15),ah (bJ l (k+1) 16)] 234 Gd) (by(exact aq (Ko (by(omega)))))<|.blk 8 8 (V8 (v8 dK (m5 l k)) 210 Ga) (V8 (v8 dK (m5 l (k+1))) 210 Ga) (by(rw[On (by(omega)) (by(omega))]))<|Aw ZB ⟨(k+1),om,⟨⟩⟩ Se [(0,0),(8,8)] ro)) (λ p3 Z6=>.blk 8 8 (V8 (v8 dK (m5 l k)) 210 Ga) (V8 (v8 dK (aa l)) 210 Ga) (by(rw[show k=l.length from by(omega),Ib ho]))<|BO ZD 0 (():Unit) rfl [(8,8)] ro)) (fun|⟨k,hk,_⟩=>by kernel_rfl) ⟨(0),om,⟨⟩⟩ [(120,120),(184,184)] ro (bB (fun|()=>.Y 3 [8] [8] (Xm [Wb 0 0 0 n 2,zI 0]) [V8 (v8 dK (aa l)) 210 Ga] ok))))))) kr
def jS (l:Z4)(m:Nat):Nat->Nat
 |0=>0
 |n+1=>if m<n+1/\l.getD n lb=0 then jS l m n else n+1
def gO (l:Z4)(m:Nat):Nat:=lk l (jS l m l.length)
def jT (l:Z4)(m:Nat):gO l m=jS l m l.length:=aM _ _
def TA {l:Z4}{m n T u:Nat}(hR:jS l m n=T)(h:m<n)(hu:u=n-1)(h2:(((l.getD u lb).toNat:Nat):Int)=0):jS l m (n-1)=T:=by
 subst hu;obtain⟨g,rfl⟩:∃g,n=g+1:=⟨n-1,by omega⟩
 rw[<-hR,jS,ZF ⟨by omega,Br h2⟩];rfl
def Oq {l:Z4}{m n T:Nat}(hR:jS l m n=T)(h:¬(m<n/\(l.getD (n-1) lb).toNat=0)):n=T:=by
 rw[<-hR]
 cases n with
 |zero=>rfl
 |succ n=>exact(ZE (λ q=>h ⟨by omega,by rw[XK,q.2];rfl⟩)).symm
def BM {l:Z4}{m:Nat}:∀n,jS l m n<=n/\(m<=n->m<=jS l m n)
 |0=>⟨Wl _,id⟩
 |n+1=>by
  rw[jS];split
  ·have:=BM (l:=l) (m:=m) n;omega
  ·omega
def lq (l:Z4)(m:Nat):gO l m<=l.length/\(m<=l.length->m<=gO l m):=by rw[jT];exact BM _
structure Nm where
 v:Nat
 n:Nat
 deriving Inhabited
abbrev GR:=List Nm
abbrev aC (x:Nm):GA:=[cM x.v,nD x.n]
def bM (l:GR):(l.flatMap aC).length=l.length*2:=bg (k:=2) (λ _=>rfl) l
def cu (l m:GR):(l++m).flatMap aC=l.flatMap aC++m.flatMap aC:=Xj
def Kp (l:Z4)(L:Nat)(hL:L=l.length)(hL2:L<=320)(m:Nat)(hm:m<=1000)(T:Nat)(hT:gO l m=T):S0 109 [.sl Gd L 1 (l.map dB),nD m] [] (nD T) []:=SpR Tryz.func109 rfl rfl rfl trivial rfl 1000 64 (λ R ok=>.s 4<|BY T_ok ae Gd 22 0 (am Tryz.prog 109 0) (λ(x:(n:Nat)×'(hn:n<=L)×'(hR:jS l m n=T)×'Unit)=>match x with|⟨n,hn,hR,_⟩=>Wr [(0,Wu Gd L 1 (wo dB l)),(1,zN m),(5,nD n)] [] 0) (λ(x:(n:Nat)×'(hn:n<=L)×'(hR:jS l m n=T)×'Unit)=>match x with|⟨n,hn,hR,_⟩=>n) [⟨Unit,.exit 0,λ()=>Wr [(0,Wu Gd L 1 (wo dB l)),(1,zN m),(5,nD T)] [] 0⟩] 1000 64 (fun|⟨n,hn,hR,_⟩,Q,ZB,ZD=>.B 6 ((m:Int)<n) (λ p0 Z9=>.W 5 (n-1)<|.K 2 (Ao (0<=(n:Int)-1)&&Ao ((n:Int)-1<L)&&Ga) (by((refine aA ?_ ?_)<;>(repeat' (first|(refine aA ?_ ?_)|(with_reducible rfl)|(refine decide_eq_true ?_)|(refine We ?_)|(refine dg ?_)))<;>(omega)))<|.O 3 ((wo dB l)[zL ((n:Int)-1)*1]?) (dB (wm l (zL ((n:Int)-1)*1) lb)) (aj _ _ om)<|.R 4 ((↑(V7 (wm l (zL ((n:Int)-1)*1) lb)):Int)==0) (λ p1=>have Z8:=eq_of_beq p1;.W 3 (n-1)<|.V 1 5 (zI (n-1)) (zN (n-1)) (by(refine aF ?_;omega))<|Aw ZB ⟨(n-1),om,(by(simp only[Wx]at *;exact TA hR om (u:=((n:Int)-1).toNat) om om)),⟨⟩⟩ (by show n-1<n;clear ZB ZD;omega) [] ro) (λ p1=>have Z8:=ak p1;.val 5 (zN n) (zN T) (by(simp only[Wx]at *;rw[Oq hR (by rw[show((n:Int)-1).toNat=n-1 from by omega]at *;omega)]))<|BO ZD 0 (():Unit) rfl [] ro)) (λ p0 Z9=>.V 12 5 (zN n) (zN T) (by(rw[Oq hR om]))<|BO ZD 0 (():Unit) rfl [] ro)) (fun|⟨n,hn,hR,_⟩=>by kernel_rfl) ⟨(L),om,(by(rw[hL];exact(jT l m).symm.trans hT)),⟨⟩⟩ [] ro (bB (fun|()=>.Y 2 [] [] (zN T) [] ok))) kr
def kW (X:GR):Nat->Nat
 |0=>0
 |i+1=>kW X i+(X.getD i lb).n
def pm (X:GR):Nat:=lk X (kW X X.length)
def rv (X:GR):pm X=kW X X.length:=aM _ _
def If {X:GR}(h:∀i,(X.getD i lb).n<=32):∀i,kW X i<=32*i
 |0=>Wl _
 |i+1=>by have:=If h i;have:=h i;rw[kW];omega
def Ot(h:p:=by(simp;have h9:=gI (v:=v) (c:=c) (m:=m) om;have h8:=mn m (c-m);omega)):=h
def Ou(h:p:=by(have h9:=gI (v:=v) (c:=c) (m:=m) om;have h8:=mn m (c-m);omega)):=h
def Ov (c:Nat)(hc:c<=100000):S0 141 [.v (.int .u64 1),.v (.int .u64 c)] [] (.tup [.v (.int .u64 0),.v (.int .u64 c)]) []:=SpR Tryz.func141 rfl rfl rfl trivial rfl 1000 64 (λ R ok=>.O 22 (aX Yo (Wo Yo (↑(Xc (Wq 64 (c:Int)&&&Wq 64 4294967295)):Int))) (D.v (Xq .u64 ((c:Int)%4294967296))) (aB (@mg 32 (4294967296:Int) ((c:Int)) (4294967295) om om om om))<|.O 4 (aX Yo (Xl (c:Int) 4294967296)) (D.v (Xq .u64 ((c:Int)/4294967296))) (aB (@ii  ((c:Int)) (4294967296) om))<|.O 5 (au .u64 (1*((c:Int)%4294967296))) (D.v (Xq .u64 (1*((c:Int)%4294967296)))) (bq om)<|.O 5 (au .u64 (0*((c:Int)%4294967296))) (D.v (Xq .u64 (0*((c:Int)%4294967296)))) (bq om)<|.O 3 (aX Yo (Xl (1*((c:Int)%4294967296)) 4294967296)) (D.v (Xq .u64 (1*((c:Int)%4294967296)/4294967296))) (aB (@ii  (1*((c:Int)%4294967296)) (4294967296) om))<|.O 2 (au .u64 (0*((c:Int)%4294967296)+1*(c%4294967296)/4294967296)) (D.v (Xq .u64 (0*((c:Int)%4294967296)+1*(c%4294967296)/4294967296))) (bq om)<|.O 4 (aX Yo (Wo Yo (↑(Xc (Wq 64 (0*((c:Int)%4294967296)+1*(c%4294967296)/4294967296)&&&Wq 64 4294967295)):Int))) (D.v (Xq .u64 ((0*((c:Int)%4294967296)+1*(c%4294967296)/4294967296)%4294967296))) (aB (@mg 32 (4294967296:Int) (0*((c:Int)%4294967296)+1*(c%4294967296)/4294967296) (4294967295) om om om om))<|.O 4 (aX Yo (Xl (0*((c:Int)%4294967296)+1*(c%4294967296)/4294967296) 4294967296)) (D.v (Xq .u64 ((0*((c:Int)%4294967296)+1*(c%4294967296)/4294967296)/4294967296))) (aB (@ii  (0*((c:Int)%4294967296)+1*(c%4294967296)/4294967296) (4294967296) om))<|.O 6 (au .u64 (1*((c:Int)/4294967296))) (D.v (Xq .u64 (1*((c:Int)/4294967296)))) (bq om)<|.O 2 (au .u64 ((0*((c:Int)%4294967296)+1*(c%4294967296)/4294967296)%4294967296+1*(c/4294967296))) (D.v (Xq .u64 ((0*((c:Int)%4294967296)+1*(c%4294967296)/4294967296)%4294967296+1*(c/4294967296)))) (bq om)<|.O 5 (au .u64 (0*((c:Int)/4294967296))) (D.v (Xq .u64 (0*((c:Int)/4294967296)))) (bq om)<|.O 3 (au .u64 (0*((c:Int)/4294967296)+(0*(c%4294967296)+1*(c%4294967296)/4294967296)/4294967296)) (D.v (Xq .u64 (0*((c:Int)/4294967296)+(0*(c%4294967296)+1*(c%4294967296)/4294967296)/4294967296))) (bq om)<|.O 3 (aX Yo (Xl ((0*((c:Int)%4294967296)+1*(c%4294967296)/4294967296)%4294967296+1*(c/4294967296)) 4294967296)) (D.v (Xq .u64 (((0*((c:Int)%4294967296)+1*(c%4294967296)/4294967296)%4294967296+1*(c/4294967296))/4294967296))) (aB (@ii  ((0*((c:Int)%4294967296)+1*(c%4294967296)/4294967296)%4294967296+1*(c/4294967296)) (4294967296) om))<|.O 2 (au .u64 (0*((c:Int)/4294967296)+(0*(c%4294967296)+1*(c%4294967296)/4294967296)/4294967296+((0*(c%4294967296)+1*(c%4294967296)/4294967296)%4294967296+1*(c/4294967296))/4294967296)) (D.v (Xq .u64 (0*((c:Int)/4294967296)+(0*(c%4294967296)+1*(c%4294967296)/4294967296)/4294967296+((0*(c%4294967296)+1*(c%4294967296)/4294967296)%4294967296+1*(c/4294967296))/4294967296))) (bq om)<|.O 5 (au .u64 (1*(c:Int))) (D.v (Xq .u64 (1*(c:Int)))) (bq om)<|.U 12 [] [] (Xm [D.v (Xq .u64 (0*((c:Int)/4294967296)+(0*(c%4294967296)+1*(c%4294967296)/4294967296)/4294967296+((0*(c%4294967296)+1*(c%4294967296)/4294967296)%4294967296+1*(c/4294967296))/4294967296)),D.v (Xq .u64 (1*(c:Int)))]) [] R (ok _ _ (by(simp <;>(omega))) wr)) kr
def cS (v:UInt8)(c m:Nat):Z4:=Wt m v++Wt (c-m) 0
def gI {v:UInt8}{c m:Nat}(h:m<=c):(cS v c m).length=c:=by unfold cS;simp;omega
def mn (a b:Nat):XL a b<=a/\XL a b<=b/\(1<=a->1<=b->1<=XL a b):=by
 show min a b<=a/\min a b<=b/\(1<=a->1<=b->1<=min a b);omega
def TB {L:GA}{m:Nat}:(bif Ga&&V9 (m*1) L.length then L else(L.drop 0).take (m*1))=L.take m:=by
 rw[Wx,List.drop_zero]
 cases h:(Ga&&V9 m L.length)with
 |false=>rfl
 |true=>
  have:=Nat.eq_of_beq_eq_true ((WM _).symm.trans h);rw[cond_true,this,XF]
def Kq {v:UInt8}{c:Nat}(h:1<=c):ac (bR [D.v (.int .u8 0)] c) 0 (WS (XL 1 c) [D.v (.int .u8 ((v.toNat:Nat):Int))])=(cS v c 1).map dB:=by
 have e:XL 1 c=1:=by show min 1 c=1;omega
 have r:bR [D.v (.int .u8 0)] c=Wt c (dB 0):=by
  rw[List.eq_replicate_iff];refine⟨by simp[bR],λ d hd=>?_⟩;unfold bR at hd;obtain⟨j,_,rfl⟩:=List.mem_map.1 hd;show[D.v (.int .u8 0)].getD (j%1) lb=dB 0;rw[Nat.mod_one];rfl
 rw[e,r];unfold cS ac;rw[W4,Ys,Ys,aah];rfl
def Kr {v:UInt8}{c m k:Nat}(h:k<=m)(h2:m+k<=c):ac ((cS v c m).map dB) m (List.map dB (WS k (WS m (cS v c m))))=(cS v c (m+k)).map dB:=by
 have e1:(cS v c m).take m=Wt m v:=by
  unfold cS;rw[Yn (by simp),aa3,Nat.min_self]
 unfold ac;rw[<-Yx,e1,aa3,Y1 h,Wj,WP,<-List.map_drop,<-W4,<-W4]
 congr 1
 unfold cS;rw[List.drop_append,aah,aah,WP,show m-(m+k)=0 from by omega,show c-m-(m+k-m)=c-(m+k)from by omega];simp[List.replicate_append_replicate]
def t6 (nn:Bool)(v:UInt8)(c:Nat)(hc:1<=c/\c<=100000):S0 105 [.sl nn 1 1 [dB v],nD c] [] (.ref 0 0 0 c 1) [⟨(Wt c v).map dB, 5,Ga⟩]:=SpR Tryz.func105 rfl rfl rfl ⟨aH _,trivial⟩ rfl 1000 64 (λ R ok=>.O 11 (au .u64 (c:Int)) (D.v (Xq .u64 (c:Int))) (bq om)<|.C 1 141 Gd [] (.fn SP (@Ov (c) om))<|.F 17 (Ao (9223372036854775807<(c:Int))) (by(refine decide_eq_false ?_;(omega)))<|.W 2 (c:Int)<|.K 1 (Ga&&Ao ((c:Int)<=c)&&Ga&&Ga&&Ga&&Ga&&Ao ((↑(Zo zW):Int)*(c:Int)<=140737488355328)) (by(have h9:((zW.bytes:Nat):Int)=1:=rfl;rw[h9];simp;omega))<|.K 4 (Ga&&Nat.blt 0 (XL 1 c)&&Wf (0+c) (v0 (bR [bI 0] (c*1)))) (by(simp_all;done))<|.lst (ac (bR [bI 0] (c*1)) 0 (wx (XL 1 c) [cK (V7 v)])) (ac (bR [bI 0] c) 0 (wx (XL 1 c) [cK (V7 v)])) (by(simp;done))<|.V 1 8 (zN (XL 1 c)) (zI 1) (by(simp_all;done))<|.blk 176 176 (V8 (ac (bR [bI 0] c) 0 (wx (XL 1 c) [cK (V7 v)])) 5 Ga) (V8 (wo dB (cS v c 1)) 5 Ga) (by(refine aq (Kq om)))<|BY T_ok ae Gd 48 0 (am Tryz.prog 105 0) (λ(x:(m:Nat)×'(hm:1<=m/\m<=c)×'Unit)=>match x with|⟨m,hm,_⟩=>Wr [(7,Wb 0 0 0 c 1),(8,nD m)] [⟨0,0,176,176,.b ⟨(cS v c m).map dB,5,Ga⟩⟩] 8) (λ(x:(m:Nat)×'(hm:1<=m/\m<=c)×'Unit)=>match x with|⟨m,hm,_⟩=>c-m) [⟨Unit,.exit 0,λ()=>Wr [(7,Wb 0 0 0 c 1)] [⟨0,0,176,176,.b ⟨(Ar c v).map dB,5,Ga⟩⟩] 8⟩] 1000 64 (fun|⟨m,hm,_⟩,Q,ZB,ZD=>.B 5 ((m:Int)<c) (λ p0 Z9=>.K 5 (aV (Ge (m:Int)) z9 z9 c&&Ga) Ot<|.K 3 (aV z9 (Ge (m:Int)) z9 c&&Ga) Ot<|.K 1 (Ga&&Wf (0+m*1) (v0 (wo dB (cS v c m)))&&Ga&&Ga&&Ga&&Nat.blt 0 (XL m (c-m))&&Wf (0+m*1+(c-m)) (v0 (wo dB (cS v c m)))) (by(simp only[WM,WV,Wj];have h9:=gI (v:=v) (c:=c) (m:=m) om;have h8:=mn m (c-m);simp only[Wh];refine⟨⟨We om,We om⟩,We om⟩))<|.lst (ac (wo dB (cS v c m)) (0+m*1) (wx (XL m (c-m)) (bif Ga&&V9 (m*1) (v0 (wo dB (cS v c m)))then wo dB (cS v c m)else wx (m*1) (Ag 0 (wo dB (cS v c m)))))) (ac (wo dB (cS v c m)) m (wo dB (wx (XL m (c-m)) (wx m (cS v c m))))) (by(rw[TB,Wx,WE,Yx,Yx]))<|.I 2 (m+(↑(XL m (c-m)):Int)) Ou<|.V 1 8 (zI (m+(↑(XL m (c-m)):Int))) (zN (m+XL m (c-m))) (by(refine aF ?_;(omega)))<|.blk 0 0 (V8 (ac (wo dB (cS v c m)) m (wo dB (wx (XL m (c-m)) (wx m (cS v c m))))) 5 Ga) (V8 (wo dB (cS v c (m+XL m (c-m)))) 5 Ga) (by(have h9:=gI (v:=v) (c:=c) (m:=m) om;have h8:=mn m (c-m);refine aq (Kr om om)))<|Aw ZB ⟨(m+XL m (c-m)),Ou,⟨⟩⟩ (by show c-(m+XL m (c-m))<c-m;clear ZB ZD;(have h9:=gI (v:=v) (c:=c) (m:=m) om;have h8:=mn m (c-m);omega)) [(0,0)] ro) (λ p0 Z9=>.blk 0 0 (V8 (wo dB (cS v c m)) 5 Ga) (V8 (wo dB (Ar c v)) 5 Ga) (by(rw[show m=c from by(omega)];unfold cS;simp;done))<|BO ZD 0 (():Unit) rfl [(0,0)] ro)) (fun|⟨m,hm,_⟩=>by kernel_rfl) ⟨(1),om,⟨⟩⟩ [(176,176)] ro (bB (fun|()=>.Y 2 [0] [0] (Wb 0 0 0 c 1) [V8 (wo dB (Ar c v)) 5 Ga] ok))) kr
def cd:Z4:=Wt 144 8++Wt 112 9++Wt 24 7++Wt 8 8
def dS:Z4:=Wt 32 5
def Ow (R:Z4)(hR:R=Wt 144 8):S0 105 [.sl Ga 1 1 [.v (.int .u8 8)],iD 144] [] (.ref 0 0 0 144 1) [⟨R.map dB, 5,Ga⟩]:=by
 subst hR;exact t6 Ga 8 144 (by decide)
def Ox (R:Z4)(hR:R=Wt 112 9):S0 105 [.sl Ga 1 1 [.v (.int .u8 9)],iD 112] [] (.ref 0 0 0 112 1) [⟨R.map dB, 5,Ga⟩]:=by
 subst hR;exact t6 Ga 9 112 (by decide)
def Oy (R:Z4)(hR:R=Wt 24 7):S0 105 [.sl Ga 1 1 [.v (.int .u8 7)],iD 24] [] (.ref 0 0 0 24 1) [⟨R.map dB, 5,Ga⟩]:=by
 subst hR;exact t6 Ga 7 24 (by decide)
def Oz (R:Z4)(hR:R=Wt 8 8):S0 105 [.sl Ga 1 1 [.v (.int .u8 8)],iD 8] [] (.ref 0 0 0 8 1) [⟨R.map dB, 5,Ga⟩]:=by
 subst hR;exact t6 Ga 8 8 (by decide)
def OA (R:Z4)(hR:R=Wt 32 5):S0 105 [.sl Ga 1 1 [.v (.int .u8 5)],iD 32] [] (.ref 0 0 0 32 1) [⟨R.map dB, 5,Ga⟩]:=by
 subst hR;exact t6 Ga 5 32 (by decide)
def Fq (R1 R2 R3 R4 R5:Z4)(h1:R1=Wt 144 8)(h2:R2=Wt 112 9)(h3:R3=Wt 24 7)(h4:R4=Wt 8 8)(h5:R5=Wt 32 5):S0 86 [] [] (.tup [.ref 0 0 0 288 1,.ref 1 1 0 32 1]) [⟨(R1++R2++R3++R4).map dB, 5,Ga⟩,⟨R5.map dB, 5,Ga⟩]:=by
 have l1:R1.length=144:=by rw[h1,WP]
 have l2:R2.length=112:=by rw[h2,WP]
 have l3:R3.length=24:=by rw[h3,WP]
 have l4:R4.length=8:=by rw[h4,WP]
 have l5:R5.length=32:=by rw[h5,WP]
 refine SpR Tryz.func86 rfl rfl rfl ⟨aH _,aH _,trivial⟩ rfl 1000 64 (λ R ok=>.C 5 105 Gd [] (.fn Bl (@Ow (R1) aG))<|.C 3 105 Gd [] (.fn Bl (@Ox (R2) aG))<|.C 3 105 Gd [] (.fn Bl (@Oy (R3) aG))<|.C 3 105 Gd [] (.fn Bl (@Oz (R4) aG))<|.K 165 (Ga&&(Ga&&Wf 144 (v0 (wo dB R1)))&&Ga&&Ga&&Ga) (by(simp <;>(omega)))<|.K 17 (Ga&&V9 144 (v0 (bif Ga&&V9 144 (v0 (wo dB R1))then wo dB R1 else wx 144 (Ag 0 (wo dB R1))))&&Ga&&(Ga&&Wf 112 (v0 (wo dB R2)))&&Ga&&Ga&&Ga) (by(simp_all;done))<|.K 17 (Ga&&V9 256 (v0 ((bif Ga&&V9 144 (v0 (wo dB R1))then wo dB R1 else wx 144 (Ag 0 (wo dB R1)))++bif Ga&&V9 112 (v0 (wo dB R2))then wo dB R2 else wx 112 (Ag 0 (wo dB R2))))&&Ga&&(Ga&&Wf 24 (v0 (wo dB R3)))&&Ga&&Ga&&Ga) (by(simp_all;done))<|.K 17 (Ga&&V9 280 (v0 (((bif Ga&&V9 144 (v0 (wo dB R1))then wo dB R1 else wx 144 (Ag 0 (wo dB R1)))++bif Ga&&V9 112 (v0 (wo dB R2))then wo dB R2 else wx 112 (Ag 0 (wo dB R2)))++bif Ga&&V9 24 (v0 (wo dB R3))then wo dB R3 else wx 24 (Ag 0 (wo dB R3))))&&Ga&&(Ga&&Wf 8 (v0 (wo dB R4)))&&Ga&&Ga&&Ga) (by(simp_all;done))<|.C 15 105 Gd [] (.fn Bl (@OA (R5) aG))<|.U 2 [1112,1272] [1112,1272] (Xm [Wb 0 0 0 288 1,Wb 1 1 0 32 1]) [V8 ((((bif Ga&&V9 144 (v0 (wo dB R1))then wo dB R1 else wx 144 (Ag 0 (wo dB R1)))++bif Ga&&V9 112 (v0 (wo dB R2))then wo dB R2 else wx 112 (Ag 0 (wo dB R2)))++bif Ga&&V9 24 (v0 (wo dB R3))then wo dB R3 else wx 24 (Ag 0 (wo dB R3)))++bif Ga&&V9 8 (v0 (wo dB R4))then wo dB R4 else wx 8 (Ag 0 (wo dB R4))) 5 Ga,V8 (wo dB R5) 5 Ga] R (ok _ _ wr (by(simp_all;done)))) kr
def m6 (L F:Z4)(hL:L=cd)(hF:F=dS):S0 86 [] [] (.tup [.ref 0 0 0 288 1,.ref 1 1 0 32 1]) [⟨L.map dB, 5,Ga⟩,⟨F.map dB, 5,Ga⟩]:=by
 subst hL hF;exact Fq _ _ _ _ _ rfl rfl rfl rfl rfl
def Fs:S0 111 [] [] (.agg ([16,17,18,0,8,7,9,6,10,5,11,4,12,3,13,2,14,1,15].map nD)) []:=SpR Tryz.func111 rfl rfl rfl trivial rfl 1000 64 (λ R ok=>.U 10 [] [] (D.agg [zI 16,zI 17,zI 18,zI 0,zI 8,zI 7,zI 9,zI 6,zI 10,zI 5,zI 11,zI 4,zI 12,zI 3,zI 13,zI 2,zI 14,zI 1,zI 15]) [] R (ok _ _ (by(simp;done)) wr)) kr
def fM (at':Nat):Nat:=lk [()] ((8-(at'+3)%8)%8)
def m7 (at':Nat):fM at'=(8-(at'+3)%8)%8:=aM _ _
def Ks (x:UInt8):Nm:=⟨x.toNat,8⟩
def kX (e k:Nat):GR:=[⟨e,1⟩,⟨k,2⟩]
def TC (e a r:Nat):GR:=[⟨e,1⟩,⟨0,2⟩,⟨0,fM a⟩,⟨r,16⟩,⟨65535-r,16⟩]
def pu (e a:Nat)(raw:Z4)(i:Nat):GR:=lk raw (TC e a raw.length++(raw.take i).map Ks)
def io (e a:Nat)(raw:Z4)(i:Nat):pu e a raw i=TC e a raw.length++(raw.take i).map Ks:=aM _ _
def ry (e a:Nat)(raw:Z4):GR:=pu e a raw raw.length
def kA {e a:Nat}{raw:Z4}{i:Nat}(h:i<=raw.length):(pu e a raw i).length=5+i:=by
 rw[io,Wc,Wj,Wi,Y1 h];rfl
def OC {e a:Nat}{raw:Z4}{i:Nat}(h:i<raw.length):(pu e a raw (i+1)).flatMap aC=(pu e a raw i).flatMap aC++aC ⟨(raw.getD i lb).toNat,8⟩:=by
 have e1:raw.take (i+1)=raw.take i++[raw.getD i lb]:=by
  rw[WW h,Wd,Wa h];rfl
 rw[io,io,e1,W4,<-WI,cu];rfl
def OD {e a:Nat}{raw:Z4}:(pu e a raw 0).flatMap aC=[cM e,nD 1,cM 0,nD 2,cM 0,nD (fM a),cM raw.length,nD 16,cM (65535-raw.length),nD 16]:=by
 rw[io];rfl
def Ig {e a:Nat}{raw:Z4}{r:Nat}{x y:Int}(hr:r=raw.length)(hx:x=(fM a:Int))(hy:y=((65535-r:Nat):Int)):[D.v (.int .u32 (e:Int)),D.v (.int .i64 1),D.v (.int .u32 0),D.v (.int .i64 2),D.v (.int .u32 0),D.v (.int .i64 x),D.v (.int .u32 (r:Int)),D.v (.int .i64 16),D.v (.int .u32 y),D.v (.int .i64 16)]=(pu e a raw 0).flatMap aC:=by
 subst hr hx hy;exact OD.symm
def Ih {e a:Nat}{raw:Z4}{i u:Nat}(hu:u=i)(h:i<raw.length):(pu e a raw i).flatMap aC++[D.v (.int .u32 (((raw.getD u lb).toNat:Nat):Int)),D.v (.int .i64 8)]=(pu e a raw (i+1)).flatMap aC:=by
 subst hu;exact(OC h).symm
def OE (k:Nat)(cs:GA)(hcs:cs.length=k*3)(a:Nat)(ha:a<=7)(raw:Z4)(r:Nat)(hr:r=raw.length)(hr2:r<=65535)(L F:Z4)(hL:L=cd)(hF:F=dS):S0 65 [nD a,fK 0,.sl Gd r 1 (raw.map dB),.sl Gd k 3 cs,.v (.bool Ga)] [] (.ptr 0 0 0) [⟨[.ref 1 1 0 (5+r) 2], 123,Gd⟩,⟨(ry 1 a raw).flatMap aC, 126,Ga⟩]:=SpR Tryz.func65 rfl rfl rfl ⟨rfl,cV (λ _=>rfl) _,trivial⟩ rfl 1000 64 (λ R ok=>.C 43 86 Gd [] (.fn Sa (@m6 (L) (F) aG aG))<|.W 21 (a+3)<|.O 2 (aX Wv (XG ((a:Int)+3) 8)) (zI (((a:Int)+3)%8)) (aB (@bT  ((a:Int)+3) (8) om))<|.W 2 (8-((a:Int)+3)%8)<|.O 2 (aX Wv (XG (8-((a:Int)+3)%8) 8)) (zI ((8-((a:Int)+3)%8)%8)) (aB (@bT  (8-((a:Int)+3)%8) (8) om))<|.O 5 (au .u32 (r:Int)) (ah r) (ax om)<|.W 6 (65535-(r:Int))<|.O 1 (au .u32 (65535-(r:Int))) (uI (65535-(r:Int))) (ax om)<|.M 28 560 560 (V8 [uI 1,zI 1,uI 0,zI 2,uI 0,zI ((8-((a:Int)+3)%8)%8),ah r,zI 16,uI (65535-(r:Int)),zI 16] 126 Ga) (V8 (v8 aC (pu 1 a raw 0)) 126 Ga) (by(refine aq (Ig (e:=1) hr ?_ ?_)<;>(try rw[m7])<;>omega))<|BY T_ok ae Gd 39 368 (am Tryz.prog 87 0) (λ(x:(i:Nat)×'(hi:i<=r)×'Unit)=>match x with|⟨i,hi,_⟩=>Wr [(0,WA 16 16 0),(26,Wu Gd r 1 (wo dB raw)),(27,zN r),(28,nD i)] [⟨16,16,16,16,.b ⟨[(Wb 400 400 (0) (5+i) 2)],123,Gd⟩⟩,⟨104,104,104,104,.b ⟨[uI 1,zI 1,uI 0,zI 2],126,Gd⟩⟩,⟨264,264,264,264,.b ⟨wo dB L,5,Ga⟩⟩,⟨265,265,265,265,.b ⟨wo dB F,5,Ga⟩⟩,⟨400,400,560,560,.b ⟨(pu 1 a raw i).flatMap aC,126,Ga⟩⟩] 408) (λ(x:(i:Nat)×'(hi:i<=r)×'Unit)=>match x with|⟨i,hi,_⟩=>r-i) [⟨Unit,.exit 0,λ()=>Wr [(0,WA 16 16 0),(26,Wu Gd r 1 (wo dB raw)),(27,zN r),(28,nD r)] [⟨16,16,16,16,.b ⟨[(Wb 400 400 (0) (5+r) 2)],123,Gd⟩⟩,⟨104,104,104,104,.b ⟨[uI 1,zI 1,uI 0,zI 2],126,Gd⟩⟩,⟨264,264,264,264,.b ⟨wo dB L,5,Ga⟩⟩,⟨265,265,265,265,.b ⟨wo dB F,5,Ga⟩⟩,⟨400,400,560,560,.b ⟨(ry 1 a raw).flatMap aC,126,Ga⟩⟩] 408⟩] 1000 64 (fun|⟨i,hi,_⟩,Q,ZB,ZD=>.B 2 ((i:Int)<r) (λ p0 Z9=>.K 1 (Ga&&Ao ((i:Int)<r)&&Ga) Ki<|.O 2 ((wo dB raw)[i*1]?) (dB (wm raw (i*1) lb)) (aj _ _ om)<|.O 4 (au .u32 (↑(V7 (wm raw (i*1) lb)):Int)) (ah (V7 (wm raw (i*1) lb))) (ax (by(exact dN _ (by decide) (by decide))))<|.K 17 (Ga&&V9 ((5+i)*2) (v0 (v8 aC (pu 1 a raw i)))&&Ga&&Ga&&Ga&&Ga&&Wf ((5+i+1)*16) 140737488355328) (by(simp only[bM,kA (raw:=raw) (e:=1) (a:=a) (i:=i) om,Xk,WM,WV];refine We ?_;omega))<|.W 9 (i+1)<|.V 1 28 (zI (i+1)) (zN (i+1)) Ex<|.blk 16 16 (V8 [Wb 536 536 0 (5+i+1) 2] 123 Gd) (V8 [Wb 536 536 0 (5+(i+1)) 2] 123 Gd) (by(simp <;>(omega)))<|.blk 536 536 (V8 (v8 aC (pu 1 a raw i)++[ah (V7 (wm raw (i*1) lb)),zI 8]) 126 Ga) (V8 (v8 aC (pu 1 a raw (i+1))) 126 Ga) (by(refine aq (Ih om om)))<|Aw ZB ⟨(i+1),om,⟨⟩⟩ (by show r-(i+1)<r-i;clear ZB ZD;omega) [(16,16),(104,104),(264,264),(265,265),(536,536)] ro) (λ p0 Z9=>.val 28 (zN i) (zN r) Ex<|.blk 16 16 (V8 [Wb 400 400 0 (5+i) 2] 123 Gd) (V8 [Wb 400 400 0 (5+r) 2] 123 Gd) (by(simp <;>(omega)))<|.blk 400 400 (V8 (v8 aC (pu 1 a raw i)) 126 Ga) (V8 (v8 aC (ry 1 a raw)) 126 Ga) (by(rw[show i=raw.length from by omega];rfl))<|BO ZD 0 (():Unit) rfl [(16,16),(104,104),(264,264),(265,265),(400,400)] ro)) (fun|⟨i,hi,_⟩=>by kernel_rfl) ⟨(0),om,⟨⟩⟩ [(16,16),(104,104),(264,264),(265,265),(560,560)] ro (bB (fun|()=>.Y 2 [16,400] [16,400] (WA 0 0 0) [V8 [Wb 1 1 0 (5+r) 2] 123 Gd,V8 (v8 aC (ry 1 a raw)) 126 Ga] ok))) kr
def OF (k:Nat)(cs:GA)(hcs:cs.length=k*3)(a:Nat)(ha:a<=7)(raw:Z4)(r:Nat)(hr:r=raw.length)(hr2:r<=65535)(L F:Z4)(hL:L=cd)(hF:F=dS):S0 65 [nD a,fK 0,.sl Gd r 1 (raw.map dB),.sl Gd k 3 cs,.v (.bool Gd)] [] (.ptr 0 0 0) [⟨[.ref 1 1 0 (5+r) 2], 123,Gd⟩,⟨(ry 0 a raw).flatMap aC, 126,Ga⟩]:=SpR Tryz.func65 rfl rfl rfl ⟨rfl,cV (λ _=>rfl) _,trivial⟩ rfl 1000 64 (λ R ok=>.C 42 86 Gd [] (.fn Sa (@m6 (L) (F) aG aG))<|.W 21 (a+3)<|.O 2 (aX Wv (XG ((a:Int)+3) 8)) (zI (((a:Int)+3)%8)) (aB (@bT  ((a:Int)+3) (8) om))<|.W 2 (8-((a:Int)+3)%8)<|.O 2 (aX Wv (XG (8-((a:Int)+3)%8) 8)) (zI ((8-((a:Int)+3)%8)%8)) (aB (@bT  (8-((a:Int)+3)%8) (8) om))<|.O 5 (au .u32 (r:Int)) (ah r) (ax om)<|.W 6 (65535-(r:Int))<|.O 1 (au .u32 (65535-(r:Int))) (uI (65535-(r:Int))) (ax om)<|.M 28 552 552 (V8 [uI 0,zI 1,uI 0,zI 2,uI 0,zI ((8-((a:Int)+3)%8)%8),ah r,zI 16,uI (65535-(r:Int)),zI 16] 126 Ga) (V8 (v8 aC (pu 0 a raw 0)) 126 Ga) (by(refine aq (Ig (e:=0) hr ?_ ?_)<;>(try rw[m7])<;>omega))<|BY T_ok ae Gd 39 360 (am Tryz.prog 87 0) (λ(x:(i:Nat)×'(hi:i<=r)×'Unit)=>match x with|⟨i,hi,_⟩=>Wr [(0,WA 16 16 0),(26,Wu Gd r 1 (wo dB raw)),(27,zN r),(28,nD i)] [⟨16,16,16,16,.b ⟨[(Wb 392 392 (0) (5+i) 2)],123,Gd⟩⟩,⟨96,96,96,96,.b ⟨[uI 0,zI 1,uI 0,zI 2],126,Gd⟩⟩,⟨256,256,256,256,.b ⟨wo dB L,5,Ga⟩⟩,⟨257,257,257,257,.b ⟨wo dB F,5,Ga⟩⟩,⟨392,392,552,552,.b ⟨(pu 0 a raw i).flatMap aC,126,Ga⟩⟩] 400) (λ(x:(i:Nat)×'(hi:i<=r)×'Unit)=>match x with|⟨i,hi,_⟩=>r-i) [⟨Unit,.exit 0,λ()=>Wr [(0,WA 16 16 0),(26,Wu Gd r 1 (wo dB raw)),(27,zN r),(28,nD r)] [⟨16,16,16,16,.b ⟨[(Wb 392 392 (0) (5+r) 2)],123,Gd⟩⟩,⟨96,96,96,96,.b ⟨[uI 0,zI 1,uI 0,zI 2],126,Gd⟩⟩,⟨256,256,256,256,.b ⟨wo dB L,5,Ga⟩⟩,⟨257,257,257,257,.b ⟨wo dB F,5,Ga⟩⟩,⟨392,392,552,552,.b ⟨(ry 0 a raw).flatMap aC,126,Ga⟩⟩] 400⟩] 1000 64 (fun|⟨i,hi,_⟩,Q,ZB,ZD=>.B 2 ((i:Int)<r) (λ p0 Z9=>.K 1 (Ga&&Ao ((i:Int)<r)&&Ga) Ki<|.O 2 ((wo dB raw)[i*1]?) (dB (wm raw (i*1) lb)) (aj _ _ om)<|.O 4 (au .u32 (↑(V7 (wm raw (i*1) lb)):Int)) (ah (V7 (wm raw (i*1) lb))) (ax (by(exact dN _ (by decide) (by decide))))<|.K 17 (Ga&&V9 ((5+i)*2) (v0 (v8 aC (pu 0 a raw i)))&&Ga&&Ga&&Ga&&Ga&&Wf ((5+i+1)*16) 140737488355328) (by(simp only[bM,kA (raw:=raw) (e:=0) (a:=a) (i:=i) om,Xk,WM,WV];refine We ?_;omega))<|.W 9 (i+1)<|.V 1 28 (zI (i+1)) (zN (i+1)) Ex<|.blk 16 16 (V8 [Wb 528 528 0 (5+i+1) 2] 123 Gd) (V8 [Wb 528 528 0 (5+(i+1)) 2] 123 Gd) (by(simp <;>(omega)))<|.blk 528 528 (V8 (v8 aC (pu 0 a raw i)++[ah (V7 (wm raw (i*1) lb)),zI 8]) 126 Ga) (V8 (v8 aC (pu 0 a raw (i+1))) 126 Ga) (by(refine aq (Ih om om)))<|Aw ZB ⟨(i+1),om,⟨⟩⟩ (by show r-(i+1)<r-i;clear ZB ZD;omega) [(16,16),(96,96),(256,256),(257,257),(528,528)] ro) (λ p0 Z9=>.val 28 (zN i) (zN r) Ex<|.blk 16 16 (V8 [Wb 392 392 0 (5+i) 2] 123 Gd) (V8 [Wb 392 392 0 (5+r) 2] 123 Gd) (by(simp <;>(omega)))<|.blk 392 392 (V8 (v8 aC (pu 0 a raw i)) 126 Ga) (V8 (v8 aC (ry 0 a raw)) 126 Ga) (by(rw[show i=raw.length from by omega];rfl))<|BO ZD 0 (():Unit) rfl [(16,16),(96,96),(256,256),(257,257),(392,392)] ro)) (fun|⟨i,hi,_⟩=>by kernel_rfl) ⟨(0),om,⟨⟩⟩ [(16,16),(96,96),(256,256),(257,257),(552,552)] ro (bB (fun|()=>.Y 2 [16,392] [16,392] (WA 0 0 0) [V8 [Wb 1 1 0 (5+r) 2] 123 Gd,V8 (v8 aC (ry 0 a raw)) 126 Ga] ok))) kr
def jZ(h:p:=by(have h9:=hl i;have h5:=Xb (l.getD i lb).lit;have h2:=bb hT1 hT2 (hl i);have h8:=okL (l.getD i lb).lit.toNat;have h4:=okL (257+ai T1 (l.getD i lb).long);have h3:=okF (ai T2 (l.getD i lb).dist);have g1:=hz1 (ai T1 (l.getD i lb).long);have g2:=hz2 (ai T2 (l.getD i lb).dist);have g3:=okL 256;have h7:=cv (T1:=T1) (T2:=T2) (A:=aa L) (B:=aa F) (H:=H) (l:=l) i om;unfold bY at h9;omega)):=h
def pv(h:p:=by(have h9:=hl 0;have h5:=Xb (l.getD 0 lb).lit;have h2:=bb hT1 hT2 (hl 0);have h8:=okL (l.getD 0 lb).lit.toNat;have h4:=okL (257+ai T1 (l.getD 0 lb).long);have h3:=okF (ai T2 (l.getD 0 lb).dist);have g1:=hz1 (ai T1 (l.getD 0 lb).long);have g2:=hz2 (ai T2 (l.getD 0 lb).dist);have g3:=okL 256;have h7:=cv (T1:=T1) (T2:=T2) (A:=aa L) (B:=aa F) (H:=H) (l:=l) 0 om;unfold bY at h9;omega)):=h
def Ft(h:p:=by(exact Ww (okL _).1 (by decide))):=h
def Ii(h:p:=by cases d<;>repeat' first|exact trivial|exact rfl|exact(λ _=>aR _)|exact(λ _=>by assumption)|exact(λ _=>bn _ (λ _=>rfl) _)|exact(λ _=>cm (λ _=>rfl) _)|(intro h;cases h;done)|(intro _;rfl)|(intro _;exact ct _ (bn _ (λ _=>rfl) _))|exact iS _ (bn _ (λ _=>rfl) _)|refine Wn ?_ ?_|refine ew ?_ ?_|(intro _;refine cq ?_ ?_)|refine cq ?_ ?_|(intro _;refine fE ?_ ?_)|exact ct _ (bn _ (λ _=>rfl) _)|exact bn _ (λ _=>rfl) _):=h
def MJ(h:p:=by(rw[show i=k from by omega])):=h
def Si(h:p:=by(rw[f7];have h5:=Xb (l.getD 0 lb).lit;refine We ?_;omega)):=h
def Sj(h:p:=by(have h7:=cv (T1:=T1) (T2:=T2) (A:=aa L) (B:=aa F) (H:=H) (l:=l) i om;simp only[Wc,bM,WQ,Yi,WM,WV,Wh,Nat.beq_eq,Nat.ble_eq];omega)):=h
def Sk(h:p:=by(have h7:=cv (T1:=T1) (T2:=T2) (A:=aa L) (B:=aa F) (H:=H) (l:=l) i om;simp only[bM,Xk,WM,WV];refine We ?_;omega)):=h
def Sm(h:p:=by show k-(i+1)<k-i;clear ZB ZD;omega):=h
def Fu(h:p:=by(refine decide_eq_true ?_;have h9:=hl i;have h5:=Xb (l.getD i lb).lit;have h2:=bb hT1 hT2 (hl i);have h8:=okL (l.getD i lb).lit.toNat;have h4:=okL (257+ai T1 (l.getD i lb).long);have h3:=okF (ai T2 (l.getD i lb).dist);have g1:=hz1 (ai T1 (l.getD i lb).long);have g2:=hz2 (ai T2 (l.getD i lb).dist);have g3:=okL 256;have h7:=cv (T1:=T1) (T2:=T2) (A:=aa L) (B:=aa F) (H:=H) (l:=l) i om;unfold bY at h9;omega)):=h
def Fv(h:p:=by(rw[f7];have h2:=bb hT1 hT2 (hl i);refine We ?_;omega)):=h
def Kt(h:p:=by(rw[dO];refine We ?_;(omega))):=h
def Ku(h:p:=by(exact dN _ (by decide) (by decide))):=h
def Kv(h:p:=by(refine decide_eq_true ?_;have h9:=hl 0;have h5:=Xb (l.getD 0 lb).lit;have h2:=bb hT1 hT2 (hl 0);have h8:=okL (l.getD 0 lb).lit.toNat;have h4:=okL (257+ai T1 (l.getD 0 lb).long);have h3:=okF (ai T2 (l.getD 0 lb).dist);have g1:=hz1 (ai T1 (l.getD 0 lb).long);have g2:=hz2 (ai T2 (l.getD 0 lb).dist);have g3:=okL 256;have h7:=cv (T1:=T1) (T2:=T2) (A:=aa L) (B:=aa F) (H:=H) (l:=l) 0 om;unfold bY at h9;omega)):=h
def Kw(h:p:=by(exact Ww (okF _).1 (by decide))):=h
def OG(h:p:=by(simp;have h9:=hl 0;have h5:=Xb (l.getD 0 lb).lit;have h2:=bb hT1 hT2 (hl 0);have h8:=okL (l.getD 0 lb).lit.toNat;have h4:=okL (257+ai T1 (l.getD 0 lb).long);have h3:=okF (ai T2 (l.getD 0 lb).dist);have g1:=hz1 (ai T1 (l.getD 0 lb).long);have g2:=hz2 (ai T2 (l.getD 0 lb).dist);have g3:=okL 256;have h7:=cv (T1:=T1) (T2:=T2) (A:=aa L) (B:=aa F) (H:=H) (l:=l) 0 om;unfold bY at h9;omega)):=h
def OH(h:p:=by exact(Wn (D.sim.slw rfl (ao (by(simp;have h9:=hl 0;have h5:=Xb (l.getD 0 lb).lit;have h2:=bb hT1 hT2 (hl 0);have h8:=okL (l.getD 0 lb).lit.toNat;have h4:=okL (257+ai T1 (l.getD 0 lb).long);have h3:=okF (ai T2 (l.getD 0 lb).dist);have g1:=hz1 (ai T1 (l.getD 0 lb).long);have g2:=hz2 (ai T2 (l.getD 0 lb).dist);have g3:=okL 256;have h7:=cv (T1:=T1) (T2:=T2) (A:=aa L) (B:=aa F) (H:=H) (l:=l) 0 om;unfold bY at h9;omega))|>.trans rfl)) (qr trivial))):=h
def OI(h:p:=by(rw[WM];refine decide_eq_true ?_;have h5:=Xb (l.getD i lb).lit;omega)):=h
def OJ(h:p:=by(rw[f7];refine We ?_;have h5:=Xb (l.getD i lb).lit;(omega))):=h
def OK(h:p:=by(refine aq ?_;rw[gm om om,cu,cu,WI];rfl)):=h
def OL(h:p:=by(have h7:=cv (T1:=T1) (T2:=T2) (A:=aa L) (B:=aa F) (H:=H) (l:=l) k om;simp only[bM,Xk,WM,WV];refine We ?_;omega)):=h
def OM(h:p:=by(rw[f7];have h2:=bb hT1 hT2 (hl 0);refine We ?_;omega)):=h
structure Tn where
 lit:UInt8
 dist:Nat
 long:Nat
 deriving Inhabited
abbrev GU:=List Tn
abbrev aY (t:Tn):GA:=[dB t.lit,nD t.dist,nD t.long]
def bY (t:Tn):Prop:=t.long=0\/3<=t.long/\t.long<=258/\1<=t.dist/\t.dist<=32768
def dO (l:GU):(l.flatMap aY).length=l.length*3:=bg (k:=3) (λ _=>rfl) l
def iG (C:List (Nat×Nat))(s n x:Nat):GR:=[⟨dz (C.getD s lb).1 (C.getD s lb).2,(C.getD s lb).2⟩,⟨x,n⟩]
def t7 (T1 T2:a9)(A B:List (Nat×Nat))(t:Tn):GR:=
 if t.long=0 then iG A t.lit.toNat 0 0
 else iG A (257+ai T1 t.long) (T1.getD (ai T1 t.long) lb).bits (t.long-(T1.getD (ai T1 t.long) lb).least)++iG B (ai T2 t.dist) (T2.getD (ai T2 t.dist) lb).bits (t.dist-(T2.getD (ai T2 t.dist) lb).least)
def ba (T1 T2:a9)(A B:List (Nat×Nat))(H:GR)(l:GU)(i:Nat):GR:=lk l (H++(l.take i).flatMap (t7 T1 T2 A B))
section
variable {T1 T2:List Sy} {A B:List (Nat×Nat)} {H:List Nm} {l:List Tn} {i:Nat}
def gl:ba T1 T2 A B H l i=H++(l.take i).flatMap (t7 T1 T2 A B):=aM _ _
def iY:ba T1 T2 A B H l 0=H:=by rw[gl];exact Xn _
def BN (h:i<l.length):ba T1 T2 A B H l (i+1)=ba T1 T2 A B H l i++t7 T1 T2 A B (l.getD i lb):=by
 have e1:l.take (i+1)=l.take i++[l.getD i lb]:=by
  rw[WW h,Wd,Wa h];rfl
 rw[gl,gl,e1,Xj,<-WI,List.flatMap_singleton]
def Fw (t:Tn):(t7 T1 T2 A B t).length<=4:=by 
 unfold t7;split
 ·show 2<=4;decide
 ·show 4<=4;decide
def cv:∀i,i<=l.length->(ba T1 T2 A B H l i).length<=H.length+4*i
 |0,_=>by rw[iY];omega
 |i+1,h=>by
  rw[BN om,Wc];have:=cv i om;have:=Fw (T1:=T1) (T2:=T2) (A:=A) (B:=B) (l.getD i lb);omega
def fc (h:i<l.length)(h0:(l.getD i lb).long=0):ba T1 T2 A B H l (i+1)=ba T1 T2 A B H l i++iG A (l.getD i lb).lit.toNat 0 0:=by
 rw[BN h,t7,ZF h0]
def gm (h:i<l.length)(h0:(l.getD i lb).long≠0):ba T1 T2 A B H l (i+1)=ba T1 T2 A B H l i++(iG A (257+ai T1 (l.getD i lb).long) (T1.getD (ai T1 (l.getD i lb).long) lb).bits ((l.getD i lb).long-(T1.getD (ai T1 (l.getD i lb).long) lb).least)++iG B (ai T2 (l.getD i lb).dist) (T2.getD (ai T2 (l.getD i lb).dist) lb).bits ((l.getD i lb).dist-(T2.getD (ai T2 (l.getD i lb).dist) lb).least)):=by
 rw[BN h,t7,ZE h0]
end
def t8 {T:a9}(hT:T=ay){n:Nat}(h:3<=n/\n<=258):ai T n<29:=by
 subst hT;rw[fL];exact Bs (n:=n) (b:=259) ay 29 0 3 rfl (by decide) h.1 om
def xH {T:a9}(hT:T=aK){n:Nat}(h:1<=n/\n<=32768):ai T n<30:=by
 subst hT;rw[fL];exact Bs (n:=n) (b:=32769) aK 30 0 1 rfl (by decide) h.1 om
abbrev cW (c:Nat×Nat):GA:=[cM c.1,fK c.2]
def f7 (l:List (Nat×Nat)):(l.flatMap cW).length=l.length*2:=bg (k:=2) (λ _=>rfl) l
def kB (l:Z4)(n:Nat)(hn:n=l.length)(m:Nat)(hm:1<=m/\m<=15)(hc:dC l m=0):S0 112 [.sl Gd n 1 (l.map dB),nD m] [] (.tup [.ref 0 0 0 n 2,iD 0]) [⟨(aa l).flatMap cW, 210,Ga⟩]:=Fp l n hn m hm hc
def bb {T1 T2:a9}(hT1:T1=ay)(hT2:T2=aK){t:Tn}(h:bY t):t.long≠0->ai T1 t.long<29/\ai T2 t.dist<30:=λ h0=>by
 unfold bY at h;exact⟨t8 hT1 om,xH hT2 om⟩
def jU (C:List (Nat×Nat)):Prop:=∀s,(C.getD s lb).2<=15/\(C.getD s lb).1<2^(C.getD s lb).2
def jV (T:a9)(hT:T=ay)(hl:T.length=29)(hz:bi T)(n:Nat)(hn:n<=40000)(hIk:ai T n<29):S0 142 [nD n] [] (.tup [nD (257+ai T n),nD (T.getD (ai T n) lb).bits,nD (n-(T.getD (ai T n) lb).least),iD 0]) []:=J4 T hT hl hz n hn _ rfl hIk
def oz (T:a9)(hT:T=aK)(hl:T.length=30)(hz:bi T)(n:Nat)(hn:n<=40000)(hIk:ai T n<30):S0 143 [nD n] [] (.tup [nD (ai T n),nD (T.getD (ai T n) lb).bits,nD (n-(T.getD (ai T n) lb).least),iD 0]) []:=by
 have q:=NW T hT hl hz n hn _ rfl hIk
 rwa [WE]at q
def sh (b:Bool):Nat:=bif b then 8 else 0
def SpecH.run2 {τ:Sort _}(t:τ){S0 S1:Prop}{C0 C1:τ->Prop}(f0:∀t,C0 t->S0)(f1:∀t,C1 t->S1)(h0:C0 t)(h1:C1 t):S0/\S1:=⟨f0 t h0,f1 t h1⟩
def Ij (l:GU)(k:Nat)(hk:k=l.length)(hk2:k<=65535)(hl:∀i,bY (l.getD i lb))(T1 T2:a9)(hT1:T1=ay)(hT2:T2=aK)(hl1:T1.length=29)(hl2:T2.length=30)(hz1:bi T1)(hz2:bi T2)(L F:Z4)(hL:L=cd)(hF:F=dS)(hLl:L.length=288)(hFl:F.length=32)(hcL:dC L 15=0)(hcF:dC F 15=0)(hmL:(aa L).length=288)(hmF:(aa F).length=32)(okL:jU (aa L))(okF:jU (aa F))(a:Nat)(ha:a<=7)(raw:Z4)(r:Nat)(hr:r=raw.length)(hr2:r<=65535)(H:GR)(hH:H=kX 1 1)(hHl:H.length=2)(H':GR)(hH':H'=kX 0 1)(hHl':H'.length=2):(S0 65 [nD a,fK 1,.sl Gd r 1 (raw.map dB),.sl Gd k 3 (l.flatMap aY),.v (.bool Ga)] [] (.ptr 0 0 0) [⟨[.ref 1 1 0 (ba T1 T2 (aa L) (aa F) H l k++iG (aa L) 256 0 0).length 2], 123,Gd⟩,⟨(ba T1 T2 (aa L) (aa F) H l k++iG (aa L) 256 0 0).flatMap aC, 126,Ga⟩])/\(S0 65 [nD a,fK 1,.sl Gd r 1 (raw.map dB),.sl Gd k 3 (l.flatMap aY),.v (.bool Gd)] [] (.ptr 0 0 0) [⟨[.ref 1 1 0 (ba T1 T2 (aa L) (aa F) H' l k++iG (aa L) 256 0 0).length 2], 123,Gd⟩,⟨(ba T1 T2 (aa L) (aa F) H' l k++iG (aa L) 256 0 0).flatMap aC, 126,Ga⟩]):=by
 refine SpecH.run2 (λ(d:Bool) (e:Nat) (H:GR) (hH:H=kX e 1) (hHl:H.length=2) (R:D->lM->Prop) (ok:∀r' bs',r'=(.ptr 0 0 0)->bs'=[⟨[.ref 1 1 0 (ba T1 T2 (aa L) (aa F) H l k++iG (aa L) 256 0 0).length 2], 123,Gd⟩,⟨(ba T1 T2 (aa L) (aa F) H l k++iG (aa L) 256 0 0).flatMap aC, 126,Ga⟩]->R r' bs')=>((.cl 86 Gd [] (.fn Sa (@m6 (L) (F) aG aG))<|.L 26 112 Gd [] (Ga&&(Ga&&Wf 288 (v0 (wo dB L))&&Ga&&ab (bif Ga&&V9 288 (v0 (wo dB L))then wo dB L else wx 288 (Ag 0 (wo dB L))))&&Ga) OG ([Wu Ga 288 1 (bif Ga&&V9 288 (v0 (wo dB L))then wo dB L else wx 288 (Ag 0 (wo dB L))),zI 15]) OH (.fn Q112 (@kB (L) (288) om (15) (by(simp;done)) om))<|.L 13 112 Gd [] (Ga&&(Ga&&Wf 32 (v0 (wo dB F))&&Ga&&ab (bif Ga&&V9 32 (v0 (wo dB F))then wo dB F else wx 32 (Ag 0 (wo dB F))))&&Ga) OG ([Wu Ga 32 1 (bif Ga&&V9 32 (v0 (wo dB F))then wo dB F else wx 32 (Ag 0 (wo dB F))),zI 15]) OH (.fn Q112 (@kB (F) (32) om (15) (by(simp;done)) om))<|.s 18<|.two (.B 2 (0<(k:Int)) (λ p0 Z9=>.K 1 (Ga&&Ao (0<(k:Int))&&Ga) (by((refine aA ?_ ?_)<;>(repeat' (first|(refine aA ?_ ?_)|(with_reducible rfl)|(refine decide_eq_true ?_)|(refine We ?_)|(refine dg ?_)))<;>(omega)))<|.K 2 (Wf 3 (v0 (v8 aY l))) Kt<|.lst (wx 3 (Ag 0 (v8 aY l))) ([cK (V7 (Tn.lit (wm l 0 lb))),zN (Tn.dist (wm l 0 lb)),zN (Tn.long (wm l 0 lb))]) (aI (k:=3) (i:=0) (λ _=>rfl) om om)<|.R 13 ((↑(Tn.long (wm l 0 lb)):Int)==0) (λ p1=>have Z8:=eq_of_beq p1;.I 8 (↑(V7 (Tn.lit (wm l 0 lb))):Int) Ku<|.K 18 (Ga&&Ao ((↑(V7 (Tn.lit (wm l 0 lb))):Int)<(↑288:Int))) Kv<|.K 2 (Wf (0+V7 (Tn.lit (wm l 0 lb))*2+2) (v0 (v8 cW (aa L)))) Si<|.lst (wx 2 (Ag (0+V7 (Tn.lit (wm l 0 lb))*2) (v8 cW (aa L)))) ([ah (Wz (wm (aa L) (V7 (Tn.lit (wm l 0 lb))) lb)),cK (Wg (wm (aa L) (V7 (Tn.lit (wm l 0 lb))) lb))]) (aI (k:=2) (i:=V7 (Tn.lit (wm l 0 lb))) (λ _=>rfl) pv om)<|.I 18 (↑(Wg (wm (aa L) (V7 (Tn.lit (wm l 0 lb))) lb)):Int) pv<|.C 1 152 Gd [] (.fn fa (@bU (Wz (wm (aa L) (V7 (Tn.lit (wm l 0 lb))) lb)) (Wg (wm (aa L) (V7 (Tn.lit (wm l 0 lb))) lb)) Ft (by(exact(okL _).2))))<|.I 16 (↑(Wg (wm (aa L) (V7 (Tn.lit (wm l 0 lb))) lb)):Int) pv<|.M 35 16 16 (V8 [Wb (1008+sh d) (1008+sh d) 0 4 2] 123 Gd) (V8 [Wb (1008+sh d) (1008+sh d) 0 (v0 (ba T1 T2 (aa L) (aa F) H l 1)) 2] 123 Gd) (by(rw[fc (i:=0) om om,iY,hH];rfl))<|.blk (1008+sh d) (1008+sh d) (V8 [ah e,zI 1,uI 1,zI 2,ah (dz (Wz (wm (aa L) (V7 (Tn.lit (wm l 0 lb))) lb)) (Wg (wm (aa L) (V7 (Tn.lit (wm l 0 lb))) lb))),zN (Wg (wm (aa L) (V7 (Tn.lit (wm l 0 lb))) lb)),uI 0,zI 0] 126 Ga) (V8 (v8 aC (ba T1 T2 (aa L) (aa F) H l 1)) 126 Ga) (by(rw[fc (i:=0) om om,iY,hH];rfl))<|BY T_ok ae Gd 53 (544+sh d) (am Tryz.prog 106 0) (λ(x:(i:Nat)×'(hi:1<=i/\i<=k)×'Unit)=>match x with|⟨i,hi,_⟩=>Wr [(1,Yd (Xi 115) [] [WA (384+sh d) (384+sh d) 0,WA (496+sh d) (496+sh d) 0,WA (432+sh d) (432+sh d) 0]),(10,Wu Gd k 3 (v8 aY l)),(11,zN k),(12,nD i)] [⟨16,16,16,16,.b ⟨[(Wb (616+sh d) (616+sh d) (0) ((ba T1 T2 (aa L) (aa F) H l i).length) 2)],123,Gd⟩⟩,⟨(96+sh d),(96+sh d),(96+sh d),(96+sh d),.b ⟨[ah e,zI 1,uI 1,zI 2],126,Gd⟩⟩,⟨(256+sh d),(256+sh d),(256+sh d),(256+sh d),.b ⟨wo dB L,5,Ga⟩⟩,⟨(257+sh d),(257+sh d),(257+sh d),(257+sh d),.b ⟨wo dB F,5,Ga⟩⟩,⟨(384+sh d),(384+sh d),(384+sh d),(384+sh d),.b ⟨[WA 16 16 0],105,Gd⟩⟩,⟨(400+sh d),(400+sh d),(400+sh d),(400+sh d),.b ⟨v8 cW (aa L),210,Ga⟩⟩,⟨(432+sh d),(432+sh d),(432+sh d),(432+sh d),.b ⟨[Wb (400+sh d) (400+sh d) 0 288 2],189,Gd⟩⟩,⟨(464+sh d),(464+sh d),(464+sh d),(464+sh d),.b ⟨v8 cW (aa F),210,Ga⟩⟩,⟨(496+sh d),(496+sh d),(496+sh d),(496+sh d),.b ⟨[Wb (464+sh d) (464+sh d) 0 32 2],189,Gd⟩⟩,⟨(616+sh d),(616+sh d),(1008+sh d),(1008+sh d),.b ⟨(ba T1 T2 (aa L) (aa F) H l i).flatMap aC,126,Ga⟩⟩] (624+sh d)) (λ(x:(i:Nat)×'(hi:1<=i/\i<=k)×'Unit)=>match x with|⟨i,hi,_⟩=>k-i) [⟨Unit,.exit 0,λ()=>Wr [(1,Yd (Xi 115) [] [WA (384+sh d) (384+sh d) 0,WA (496+sh d) (496+sh d) 0,WA (432+sh d) (432+sh d) 0]),(10,Wu Gd k 3 (v8 aY l)),(11,zN k),(12,nD k)] [⟨16,16,16,16,.b ⟨[(Wb (616+sh d) (616+sh d) (0) ((ba T1 T2 (aa L) (aa F) H l k).length) 2)],123,Gd⟩⟩,⟨(96+sh d),(96+sh d),(96+sh d),(96+sh d),.b ⟨[ah e,zI 1,uI 1,zI 2],126,Gd⟩⟩,⟨(256+sh d),(256+sh d),(256+sh d),(256+sh d),.b ⟨wo dB L,5,Ga⟩⟩,⟨(257+sh d),(257+sh d),(257+sh d),(257+sh d),.b ⟨wo dB F,5,Ga⟩⟩,⟨(384+sh d),(384+sh d),(384+sh d),(384+sh d),.b ⟨[WA 16 16 0],105,Gd⟩⟩,⟨(400+sh d),(400+sh d),(400+sh d),(400+sh d),.b ⟨v8 cW (aa L),210,Ga⟩⟩,⟨(432+sh d),(432+sh d),(432+sh d),(432+sh d),.b ⟨[Wb (400+sh d) (400+sh d) 0 288 2],189,Gd⟩⟩,⟨(464+sh d),(464+sh d),(464+sh d),(464+sh d),.b ⟨v8 cW (aa F),210,Ga⟩⟩,⟨(496+sh d),(496+sh d),(496+sh d),(496+sh d),.b ⟨[Wb (464+sh d) (464+sh d) 0 32 2],189,Gd⟩⟩,⟨(616+sh d),(616+sh d),(1008+sh d),(1008+sh d),.b ⟨(ba T1 T2 (aa L) (aa F) H l k).flatMap aC,126,Ga⟩⟩] (624+sh d)⟩] 1000 64 (fun|⟨i,hi,_⟩,Q,ZB,ZD=>.B 2 ((i:Int)<k) (λ p2 Z7=>.K 1 (Ga&&Ao ((i:Int)<k)&&Ga) Sj<|.K 2 (Wf (i*3+3) (v0 (v8 aY l))) Kt<|.lst (wx 3 (Ag (i*3) (v8 aY l))) ([cK (V7 (Tn.lit (wm l i lb))),zN (Tn.dist (wm l i lb)),zN (Tn.long (wm l i lb))]) (aI (k:=3) (i:=i) (λ _=>rfl) om om)<|.R 13 ((↑(Tn.long (wm l i lb)):Int)==0) (λ p3=>have Z6:=eq_of_beq p3;.I 8 (↑(V7 (Tn.lit (wm l i lb))):Int) Ku<|.K 18 (Ga&&Ao ((↑(V7 (Tn.lit (wm l i lb))):Int)<(↑288:Int))) OI<|.K 2 (Wf (0+V7 (Tn.lit (wm l i lb))*2+2) (v0 (v8 cW (aa L)))) OJ<|.lst (wx 2 (Ag (0+V7 (Tn.lit (wm l i lb))*2) (v8 cW (aa L)))) ([ah (Wz (wm (aa L) (V7 (Tn.lit (wm l i lb))) lb)),cK (Wg (wm (aa L) (V7 (Tn.lit (wm l i lb))) lb))]) (aI (k:=2) (i:=V7 (Tn.lit (wm l i lb))) (λ _=>rfl) jZ om)<|.I 18 (↑(Wg (wm (aa L) (V7 (Tn.lit (wm l i lb))) lb)):Int) jZ<|.C 1 152 Gd [] (.fn fa (@bU (Wz (wm (aa L) (V7 (Tn.lit (wm l i lb))) lb)) (Wg (wm (aa L) (V7 (Tn.lit (wm l i lb))) lb)) Ft (by(exact(okL _).2))))<|.I 16 (↑(Wg (wm (aa L) (V7 (Tn.lit (wm l i lb))) lb)):Int) jZ<|.K 23 (Ga&&V9 (v0 (ba T1 T2 (aa L) (aa F) H l i)*2) (v0 (v8 aC (ba T1 T2 (aa L) (aa F) H l i)))&&Ga&&Ga&&Ga&&Ga&&Wf ((v0 (ba T1 T2 (aa L) (aa F) H l i)+2)*16) 140737488355328) Sk<|.W 9 (i+1)<|.V 1 12 (zI (i+1)) (zN (i+1)) Ex<|.blk 16 16 (V8 [Wb (1064+sh d) (1064+sh d) 0 (v0 (ba T1 T2 (aa L) (aa F) H l i)+2) 2] 123 Gd) (V8 [Wb (1064+sh d) (1064+sh d) 0 (v0 (ba T1 T2 (aa L) (aa F) H l (i+1))) 2] 123 Gd) (by(rw[fc om om,Wc];rfl))<|.blk (1064+sh d) (1064+sh d) (V8 (v8 aC (ba T1 T2 (aa L) (aa F) H l i)++[ah (dz (Wz (wm (aa L) (V7 (Tn.lit (wm l i lb))) lb)) (Wg (wm (aa L) (V7 (Tn.lit (wm l i lb))) lb))),zN (Wg (wm (aa L) (V7 (Tn.lit (wm l i lb))) lb)),uI 0,zI 0]) 126 Ga) (V8 (v8 aC (ba T1 T2 (aa L) (aa F) H l (i+1))) 126 Ga) (by(refine aq ?_;rw[fc om om,cu];rfl))<|Aw ZB ⟨(i+1),om,⟨⟩⟩ Sm [(16,16),((96+sh d),(96+sh d)),((256+sh d),(256+sh d)),((257+sh d),(257+sh d)),((384+sh d),(384+sh d)),((400+sh d),(400+sh d)),((432+sh d),(432+sh d)),((464+sh d),(464+sh d)),((496+sh d),(496+sh d)),((1064+sh d),(1064+sh d))] Ii) (λ p3=>have Z6:=ak p3;.C 7 142 Gd [] (.fn vR (@jV (T1) aG om om (Tn.long (wm l i lb)) jZ jZ))<|.K 35 (Ga&&Ao ((↑(257+ai T1 (Tn.long (wm l i lb))):Int)<(↑288:Int))) Fu<|.K 2 (Wf (0+(257+ai T1 (Tn.long (wm l i lb)))*2+2) (v0 (v8 cW (aa L)))) Fv<|.lst (wx 2 (Ag (0+(257+ai T1 (Tn.long (wm l i lb)))*2) (v8 cW (aa L)))) ([ah (Wz (wm (aa L) (257+ai T1 (Tn.long (wm l i lb))) lb)),cK (Wg (wm (aa L) (257+ai T1 (Tn.long (wm l i lb))) lb))]) (aI (k:=2) (i:=257+ai T1 (Tn.long (wm l i lb))) (λ _=>rfl) jZ om)<|.I 18 (↑(Wg (wm (aa L) (257+ai T1 (Tn.long (wm l i lb))) lb)):Int) jZ<|.C 1 152 Gd [] (.fn fa (@bU (Wz (wm (aa L) (257+ai T1 (Tn.long (wm l i lb))) lb)) (Wg (wm (aa L) (257+ai T1 (Tn.long (wm l i lb))) lb)) Ft (by(exact(okL _).2))))<|.I 16 (↑(Wg (wm (aa L) (257+ai T1 (Tn.long (wm l i lb))) lb)):Int) jZ<|.O 4 (au .u32 (↑(Tn.long (wm l i lb)-Sy.least (wm T1 (ai T1 (Tn.long (wm l i lb))) lb)):Int)) (ah (Tn.long (wm l i lb)-Sy.least (wm T1 (ai T1 (Tn.long (wm l i lb))) lb))) (ax jZ)<|.K 18 (Ga&&V9 (v0 (ba T1 T2 (aa L) (aa F) H l i)*2) (v0 (v8 aC (ba T1 T2 (aa L) (aa F) H l i)))&&Ga&&Ga&&Ga&&Ga&&Wf ((v0 (ba T1 T2 (aa L) (aa F) H l i)+2)*16) 140737488355328) Sk<|.C 14 143 Gd [] (.fn vS (@oz (T2) aG om om (Tn.dist (wm l i lb)) jZ jZ))<|.K 34 (Ga&&Ao ((↑(ai T2 (Tn.dist (wm l i lb))):Int)<(↑32:Int))) Fu<|.K 2 (Wf (0+ai T2 (Tn.dist (wm l i lb))*2+2) (v0 (v8 cW (aa F)))) Fv<|.lst (wx 2 (Ag (0+ai T2 (Tn.dist (wm l i lb))*2) (v8 cW (aa F)))) ([ah (Wz (wm (aa F) (ai T2 (Tn.dist (wm l i lb))) lb)),cK (Wg (wm (aa F) (ai T2 (Tn.dist (wm l i lb))) lb))]) (aI (k:=2) (i:=ai T2 (Tn.dist (wm l i lb))) (λ _=>rfl) jZ om)<|.I 18 (↑(Wg (wm (aa F) (ai T2 (Tn.dist (wm l i lb))) lb)):Int) jZ<|.C 1 152 Gd [] (.fn fa (@bU (Wz (wm (aa F) (ai T2 (Tn.dist (wm l i lb))) lb)) (Wg (wm (aa F) (ai T2 (Tn.dist (wm l i lb))) lb)) Kw (by(exact(okF _).2))))<|.I 16 (↑(Wg (wm (aa F) (ai T2 (Tn.dist (wm l i lb))) lb)):Int) jZ<|.O 4 (au .u32 (↑(Tn.dist (wm l i lb)-Sy.least (wm T2 (ai T2 (Tn.dist (wm l i lb))) lb)):Int)) (ah (Tn.dist (wm l i lb)-Sy.least (wm T2 (ai T2 (Tn.dist (wm l i lb))) lb))) (ax jZ)<|.K 18 (Ga&&V9 ((v0 (ba T1 T2 (aa L) (aa F) H l i)+2)*2) (v0 (v8 aC (ba T1 T2 (aa L) (aa F) H l i)++[ah (dz (Wz (wm (aa L) (257+ai T1 (Tn.long (wm l i lb))) lb)) (Wg (wm (aa L) (257+ai T1 (Tn.long (wm l i lb))) lb))),zN (Wg (wm (aa L) (257+ai T1 (Tn.long (wm l i lb))) lb)),ah (Tn.long (wm l i lb)-Sy.least (wm T1 (ai T1 (Tn.long (wm l i lb))) lb)),zN (Sy.bits (wm T1 (ai T1 (Tn.long (wm l i lb))) lb))]))&&Ga&&Ga&&Ga&&Ga&&Wf ((v0 (ba T1 T2 (aa L) (aa F) H l i)+2+2)*16) 140737488355328) Sj<|.W 9 (i+1)<|.V 1 12 (zI (i+1)) (zN (i+1)) Ex<|.blk 16 16 (V8 [Wb (1840+sh d) (1840+sh d) 0 (v0 (ba T1 T2 (aa L) (aa F) H l i)+2+2) 2] 123 Gd) (V8 [Wb (1840+sh d) (1840+sh d) 0 (v0 (ba T1 T2 (aa L) (aa F) H l (i+1))) 2] 123 Gd) (by(rw[gm om om,Wc];rfl))<|.blk (1840+sh d) (1840+sh d) (V8 (v8 aC (ba T1 T2 (aa L) (aa F) H l i)++[ah (dz (Wz (wm (aa L) (257+ai T1 (Tn.long (wm l i lb))) lb)) (Wg (wm (aa L) (257+ai T1 (Tn.long (wm l i lb))) lb))),zN (Wg (wm (aa L) (257+ai T1 (Tn.long (wm l i lb))) lb)),ah (Tn.long (wm l i lb)-Sy.least (wm T1 (ai T1 (Tn.long (wm l i lb))) lb)),zN (Sy.bits (wm T1 (ai T1 (Tn.long (wm l i lb))) lb))]++[ah (dz (Wz (wm (aa F) (ai T2 (Tn.dist (wm l i lb))) lb)) (Wg (wm (aa F) (ai T2 (Tn.dist (wm l i lb))) lb))),zN (Wg (wm (aa F) (ai T2 (Tn.dist (wm l i lb))) lb)),ah (Tn.dist (wm l i lb)-Sy.least (wm T2 (ai T2 (Tn.dist (wm l i lb))) lb)),zN (Sy.bits (wm T2 (ai T2 (Tn.dist (wm l i lb))) lb))]) 126 Ga) (V8 (v8 aC (ba T1 T2 (aa L) (aa F) H l (i+1))) 126 Ga) OK<|Aw ZB ⟨(i+1),om,⟨⟩⟩ Sm [(16,16),((96+sh d),(96+sh d)),((256+sh d),(256+sh d)),((257+sh d),(257+sh d)),((384+sh d),(384+sh d)),((400+sh d),(400+sh d)),((432+sh d),(432+sh d)),((464+sh d),(464+sh d)),((496+sh d),(496+sh d)),((1840+sh d),(1840+sh d))] Ii)) (λ p2 Z7=>.val 12 (zN i) (zN k) MJ<|.blk 16 16 (V8 [Wb (616+sh d) (616+sh d) 0 (v0 (ba T1 T2 (aa L) (aa F) H l i)) 2] 123 Gd) (V8 [Wb (616+sh d) (616+sh d) 0 (v0 (ba T1 T2 (aa L) (aa F) H l k)) 2] 123 Gd) MJ<|.blk (616+sh d) (616+sh d) (V8 (v8 aC (ba T1 T2 (aa L) (aa F) H l i)) 126 Ga) (V8 (v8 aC (ba T1 T2 (aa L) (aa F) H l k)) 126 Ga) MJ<|BO ZD 0 (():Unit) rfl [(16,16),((96+sh d),(96+sh d)),((256+sh d),(256+sh d)),((257+sh d),(257+sh d)),((384+sh d),(384+sh d)),((400+sh d),(400+sh d)),((432+sh d),(432+sh d)),((464+sh d),(464+sh d)),((496+sh d),(496+sh d)),((616+sh d),(616+sh d))] Ii)) (fun|⟨i,hi,_⟩=>by cases d<;>kernel_rfl) ⟨(1),om,⟨⟩⟩ [(16,16),((96+sh d),(96+sh d)),((256+sh d),(256+sh d)),((257+sh d),(257+sh d)),((384+sh d),(384+sh d)),((400+sh d),(400+sh d)),((432+sh d),(432+sh d)),((464+sh d),(464+sh d)),((496+sh d),(496+sh d)),((1008+sh d),(1008+sh d))] Ii (bB (fun|()=>.K 22 (Wf 514 (v0 (v8 cW (aa L)))) Si<|.lst (wx 2 (Ag 512 (v8 cW (aa L)))) ([ah (Wz (wm (aa L) 256 lb)),cK (Wg (wm (aa L) 256 lb))]) (aI (k:=2) (i:=256) (λ _=>rfl) om om)<|.I 18 (↑(Wg (wm (aa L) 256 lb)):Int) pv<|.C 1 152 Gd [] (.fn fa (@bU (Wz (wm (aa L) 256 lb)) (Wg (wm (aa L) 256 lb)) Ft (by(exact(okL _).2))))<|.I 16 (↑(Wg (wm (aa L) 256 lb)):Int) pv<|.K 23 (Ga&&V9 (v0 (ba T1 T2 (aa L) (aa F) H l k)*2) (v0 (v8 aC (ba T1 T2 (aa L) (aa F) H l k)))&&Ga&&Ga&&Ga&&Ga&&Wf ((v0 (ba T1 T2 (aa L) (aa F) H l k)+2)*16) 140737488355328) OL<|.U 9 [16,(976+sh d)] [16,(976+sh d)] (WA 0 0 0) [V8 [Wb 1 1 0 (v0 (ba T1 T2 (aa L) (aa F) H l k)+2) 2] 123 Gd,V8 (v8 aC (ba T1 T2 (aa L) (aa F) H l k)++[ah (dz (Wz (wm (aa L) 256 lb)) (Wg (wm (aa L) 256 lb))),zN (Wg (wm (aa L) 256 lb)),uI 0,zI 0]) 126 Ga] R (ok _ _ wr (by(rw[Wc,cu];rfl)))))) (λ p1=>have Z8:=ak p1;.C 7 142 Gd [] (.fn vR (@jV (T1) aG om om (Tn.long (wm l 0 lb)) pv pv))<|.K 35 (Ga&&Ao ((↑(257+ai T1 (Tn.long (wm l 0 lb))):Int)<(↑288:Int))) Kv<|.K 2 (Wf (0+(257+ai T1 (Tn.long (wm l 0 lb)))*2+2) (v0 (v8 cW (aa L)))) OM<|.lst (wx 2 (Ag (0+(257+ai T1 (Tn.long (wm l 0 lb)))*2) (v8 cW (aa L)))) ([ah (Wz (wm (aa L) (257+ai T1 (Tn.long (wm l 0 lb))) lb)),cK (Wg (wm (aa L) (257+ai T1 (Tn.long (wm l 0 lb))) lb))]) (aI (k:=2) (i:=257+ai T1 (Tn.long (wm l 0 lb))) (λ _=>rfl) pv om)<|.I 18 (↑(Wg (wm (aa L) (257+ai T1 (Tn.long (wm l 0 lb))) lb)):Int) pv<|.C 1 152 Gd [] (.fn fa (@bU (Wz (wm (aa L) (257+ai T1 (Tn.long (wm l 0 lb))) lb)) (Wg (wm (aa L) (257+ai T1 (Tn.long (wm l 0 lb))) lb)) Ft (by(exact(okL _).2))))<|.I 16 (↑(Wg (wm (aa L) (257+ai T1 (Tn.long (wm l 0 lb))) lb)):Int) pv<|.O 4 (au .u32 (↑(Tn.long (wm l 0 lb)-Sy.least (wm T1 (ai T1 (Tn.long (wm l 0 lb))) lb)):Int)) (ah (Tn.long (wm l 0 lb)-Sy.least (wm T1 (ai T1 (Tn.long (wm l 0 lb))) lb))) (ax pv)<|.C 33 143 Gd [] (.fn vS (@oz (T2) aG om om (Tn.dist (wm l 0 lb)) pv pv))<|.K 34 (Ga&&Ao ((↑(ai T2 (Tn.dist (wm l 0 lb))):Int)<(↑32:Int))) Kv<|.K 2 (Wf (0+ai T2 (Tn.dist (wm l 0 lb))*2+2) (v0 (v8 cW (aa F)))) OM<|.lst (wx 2 (Ag (0+ai T2 (Tn.dist (wm l 0 lb))*2) (v8 cW (aa F)))) ([ah (Wz (wm (aa F) (ai T2 (Tn.dist (wm l 0 lb))) lb)),cK (Wg (wm (aa F) (ai T2 (Tn.dist (wm l 0 lb))) lb))]) (aI (k:=2) (i:=ai T2 (Tn.dist (wm l 0 lb))) (λ _=>rfl) pv om)<|.I 18 (↑(Wg (wm (aa F) (ai T2 (Tn.dist (wm l 0 lb))) lb)):Int) pv<|.C 1 152 Gd [] (.fn fa (@bU (Wz (wm (aa F) (ai T2 (Tn.dist (wm l 0 lb))) lb)) (Wg (wm (aa F) (ai T2 (Tn.dist (wm l 0 lb))) lb)) Kw (by(exact(okF _).2))))<|.I 16 (↑(Wg (wm (aa F) (ai T2 (Tn.dist (wm l 0 lb))) lb)):Int) pv<|.O 4 (au .u32 (↑(Tn.dist (wm l 0 lb)-Sy.least (wm T2 (ai T2 (Tn.dist (wm l 0 lb))) lb)):Int)) (ah (Tn.dist (wm l 0 lb)-Sy.least (wm T2 (ai T2 (Tn.dist (wm l 0 lb))) lb))) (ax pv)<|.M 30 16 16 (V8 [Wb (1784+sh d) (1784+sh d) 0 6 2] 123 Gd) (V8 [Wb (1784+sh d) (1784+sh d) 0 (v0 (ba T1 T2 (aa L) (aa F) H l 1)) 2] 123 Gd) (by(rw[gm (i:=0) om om,iY,hH];rfl))<|.blk (1784+sh d) (1784+sh d) (V8 [ah e,zI 1,uI 1,zI 2,ah (dz (Wz (wm (aa L) (257+ai T1 (Tn.long (wm l 0 lb))) lb)) (Wg (wm (aa L) (257+ai T1 (Tn.long (wm l 0 lb))) lb))),zN (Wg (wm (aa L) (257+ai T1 (Tn.long (wm l 0 lb))) lb)),ah (Tn.long (wm l 0 lb)-Sy.least (wm T1 (ai T1 (Tn.long (wm l 0 lb))) lb)),zN (Sy.bits (wm T1 (ai T1 (Tn.long (wm l 0 lb))) lb)),ah (dz (Wz (wm (aa F) (ai T2 (Tn.dist (wm l 0 lb))) lb)) (Wg (wm (aa F) (ai T2 (Tn.dist (wm l 0 lb))) lb))),zN (Wg (wm (aa F) (ai T2 (Tn.dist (wm l 0 lb))) lb)),ah (Tn.dist (wm l 0 lb)-Sy.least (wm T2 (ai T2 (Tn.dist (wm l 0 lb))) lb)),zN (Sy.bits (wm T2 (ai T2 (Tn.dist (wm l 0 lb))) lb))] 126 Ga) (V8 (v8 aC (ba T1 T2 (aa L) (aa F) H l 1)) 126 Ga) (by(rw[gm (i:=0) om om,iY,hH];rfl))<|BY T_ok ae Gd 53 (544+sh d) (am Tryz.prog 106 0) (λ(x:(i:Nat)×'(hi:1<=i/\i<=k)×'Unit)=>match x with|⟨i,hi,_⟩=>Wr [(1,Yd (Xi 115) [] [WA (384+sh d) (384+sh d) 0,WA (496+sh d) (496+sh d) 0,WA (432+sh d) (432+sh d) 0]),(10,Wu Gd k 3 (v8 aY l)),(11,zN k),(12,nD i)] [⟨16,16,16,16,.b ⟨[(Wb (616+sh d) (616+sh d) (0) ((ba T1 T2 (aa L) (aa F) H l i).length) 2)],123,Gd⟩⟩,⟨(96+sh d),(96+sh d),(96+sh d),(96+sh d),.b ⟨[ah e,zI 1,uI 1,zI 2],126,Gd⟩⟩,⟨(256+sh d),(256+sh d),(256+sh d),(256+sh d),.b ⟨wo dB L,5,Ga⟩⟩,⟨(257+sh d),(257+sh d),(257+sh d),(257+sh d),.b ⟨wo dB F,5,Ga⟩⟩,⟨(384+sh d),(384+sh d),(384+sh d),(384+sh d),.b ⟨[WA 16 16 0],105,Gd⟩⟩,⟨(400+sh d),(400+sh d),(400+sh d),(400+sh d),.b ⟨v8 cW (aa L),210,Ga⟩⟩,⟨(432+sh d),(432+sh d),(432+sh d),(432+sh d),.b ⟨[Wb (400+sh d) (400+sh d) 0 288 2],189,Gd⟩⟩,⟨(464+sh d),(464+sh d),(464+sh d),(464+sh d),.b ⟨v8 cW (aa F),210,Ga⟩⟩,⟨(496+sh d),(496+sh d),(496+sh d),(496+sh d),.b ⟨[Wb (464+sh d) (464+sh d) 0 32 2],189,Gd⟩⟩,⟨(616+sh d),(616+sh d),(1784+sh d),(1784+sh d),.b ⟨(ba T1 T2 (aa L) (aa F) H l i).flatMap aC,126,Ga⟩⟩] (624+sh d)) (λ(x:(i:Nat)×'(hi:1<=i/\i<=k)×'Unit)=>match x with|⟨i,hi,_⟩=>k-i) [⟨Unit,.exit 0,λ()=>Wr [(1,Yd (Xi 115) [] [WA (384+sh d) (384+sh d) 0,WA (496+sh d) (496+sh d) 0,WA (432+sh d) (432+sh d) 0]),(10,Wu Gd k 3 (v8 aY l)),(11,zN k),(12,nD k)] [⟨16,16,16,16,.b ⟨[(Wb (616+sh d) (616+sh d) (0) ((ba T1 T2 (aa L) (aa F) H l k).length) 2)],123,Gd⟩⟩,⟨(96+sh d),(96+sh d),(96+sh d),(96+sh d),.b ⟨[ah e,zI 1,uI 1,zI 2],126,Gd⟩⟩,⟨(256+sh d),(256+sh d),(256+sh d),(256+sh d),.b ⟨wo dB L,5,Ga⟩⟩,⟨(257+sh d),(257+sh d),(257+sh d),(257+sh d),.b ⟨wo dB F,5,Ga⟩⟩,⟨(384+sh d),(384+sh d),(384+sh d),(384+sh d),.b ⟨[WA 16 16 0],105,Gd⟩⟩,⟨(400+sh d),(400+sh d),(400+sh d),(400+sh d),.b ⟨v8 cW (aa L),210,Ga⟩⟩,⟨(432+sh d),(432+sh d),(432+sh d),(432+sh d),.b ⟨[Wb (400+sh d) (400+sh d) 0 288 2],189,Gd⟩⟩,⟨(464+sh d),(464+sh d),(464+sh d),(464+sh d),.b ⟨v8 cW (aa F),210,Ga⟩⟩,⟨(496+sh d),(496+sh d),(496+sh d),(496+sh d),.b ⟨[Wb (464+sh d) (464+sh d) 0 32 2],189,Gd⟩⟩,⟨(616+sh d),(616+sh d),(1784+sh d),(1784+sh d),.b ⟨(ba T1 T2 (aa L) (aa F) H l k).flatMap aC,126,Ga⟩⟩] (624+sh d)⟩] 1000 64 (fun|⟨i,hi,_⟩,Q,ZB,ZD=>.B 2 ((i:Int)<k) (λ p4 Z5=>.K 1 (Ga&&Ao ((i:Int)<k)&&Ga) Sj<|.K 2 (Wf (i*3+3) (v0 (v8 aY l))) Kt<|.lst (wx 3 (Ag (i*3) (v8 aY l))) ([cK (V7 (Tn.lit (wm l i lb))),zN (Tn.dist (wm l i lb)),zN (Tn.long (wm l i lb))]) (aI (k:=3) (i:=i) (λ _=>rfl) om om)<|.R 13 ((↑(Tn.long (wm l i lb)):Int)==0) (λ p5=>have p5f:=eq_of_beq p5;.I 8 (↑(V7 (Tn.lit (wm l i lb))):Int) Ku<|.K 18 (Ga&&Ao ((↑(V7 (Tn.lit (wm l i lb))):Int)<(↑288:Int))) OI<|.K 2 (Wf (0+V7 (Tn.lit (wm l i lb))*2+2) (v0 (v8 cW (aa L)))) OJ<|.lst (wx 2 (Ag (0+V7 (Tn.lit (wm l i lb))*2) (v8 cW (aa L)))) ([ah (Wz (wm (aa L) (V7 (Tn.lit (wm l i lb))) lb)),cK (Wg (wm (aa L) (V7 (Tn.lit (wm l i lb))) lb))]) (aI (k:=2) (i:=V7 (Tn.lit (wm l i lb))) (λ _=>rfl) jZ om)<|.I 18 (↑(Wg (wm (aa L) (V7 (Tn.lit (wm l i lb))) lb)):Int) jZ<|.C 1 152 Gd [] (.fn fa (@bU (Wz (wm (aa L) (V7 (Tn.lit (wm l i lb))) lb)) (Wg (wm (aa L) (V7 (Tn.lit (wm l i lb))) lb)) Ft (by(exact(okL _).2))))<|.I 16 (↑(Wg (wm (aa L) (V7 (Tn.lit (wm l i lb))) lb)):Int) jZ<|.K 23 (Ga&&V9 (v0 (ba T1 T2 (aa L) (aa F) H l i)*2) (v0 (v8 aC (ba T1 T2 (aa L) (aa F) H l i)))&&Ga&&Ga&&Ga&&Ga&&Wf ((v0 (ba T1 T2 (aa L) (aa F) H l i)+2)*16) 140737488355328) Sk<|.W 9 (i+1)<|.V 1 12 (zI (i+1)) (zN (i+1)) Ex<|.blk 16 16 (V8 [Wb (1064+sh d) (1064+sh d) 0 (v0 (ba T1 T2 (aa L) (aa F) H l i)+2) 2] 123 Gd) (V8 [Wb (1064+sh d) (1064+sh d) 0 (v0 (ba T1 T2 (aa L) (aa F) H l (i+1))) 2] 123 Gd) (by(rw[fc om om,Wc];rfl))<|.blk (1064+sh d) (1064+sh d) (V8 (v8 aC (ba T1 T2 (aa L) (aa F) H l i)++[ah (dz (Wz (wm (aa L) (V7 (Tn.lit (wm l i lb))) lb)) (Wg (wm (aa L) (V7 (Tn.lit (wm l i lb))) lb))),zN (Wg (wm (aa L) (V7 (Tn.lit (wm l i lb))) lb)),uI 0,zI 0]) 126 Ga) (V8 (v8 aC (ba T1 T2 (aa L) (aa F) H l (i+1))) 126 Ga) (by(refine aq ?_;rw[fc om om,cu];rfl))<|Aw ZB ⟨(i+1),om,⟨⟩⟩ Sm [(16,16),((96+sh d),(96+sh d)),((256+sh d),(256+sh d)),((257+sh d),(257+sh d)),((384+sh d),(384+sh d)),((400+sh d),(400+sh d)),((432+sh d),(432+sh d)),((464+sh d),(464+sh d)),((496+sh d),(496+sh d)),((1064+sh d),(1064+sh d))] Ii) (λ p5=>have p5f:=ak p5;.C 7 142 Gd [] (.fn vR (@jV (T1) aG om om (Tn.long (wm l i lb)) jZ jZ))<|.K 35 (Ga&&Ao ((↑(257+ai T1 (Tn.long (wm l i lb))):Int)<(↑288:Int))) Fu<|.K 2 (Wf (0+(257+ai T1 (Tn.long (wm l i lb)))*2+2) (v0 (v8 cW (aa L)))) Fv<|.lst (wx 2 (Ag (0+(257+ai T1 (Tn.long (wm l i lb)))*2) (v8 cW (aa L)))) ([ah (Wz (wm (aa L) (257+ai T1 (Tn.long (wm l i lb))) lb)),cK (Wg (wm (aa L) (257+ai T1 (Tn.long (wm l i lb))) lb))]) (aI (k:=2) (i:=257+ai T1 (Tn.long (wm l i lb))) (λ _=>rfl) jZ om)<|.I 18 (↑(Wg (wm (aa L) (257+ai T1 (Tn.long (wm l i lb))) lb)):Int) jZ<|.C 1 152 Gd [] (.fn fa (@bU (Wz (wm (aa L) (257+ai T1 (Tn.long (wm l i lb))) lb)) (Wg (wm (aa L) (257+ai T1 (Tn.long (wm l i lb))) lb)) Ft (by(exact(okL _).2))))<|.I 16 (↑(Wg (wm (aa L) (257+ai T1 (Tn.long (wm l i lb))) lb)):Int) jZ<|.O 4 (au .u32 (↑(Tn.long (wm l i lb)-Sy.least (wm T1 (ai T1 (Tn.long (wm l i lb))) lb)):Int)) (ah (Tn.long (wm l i lb)-Sy.least (wm T1 (ai T1 (Tn.long (wm l i lb))) lb))) (ax jZ)<|.K 18 (Ga&&V9 (v0 (ba T1 T2 (aa L) (aa F) H l i)*2) (v0 (v8 aC (ba T1 T2 (aa L) (aa F) H l i)))&&Ga&&Ga&&Ga&&Ga&&Wf ((v0 (ba T1 T2 (aa L) (aa F) H l i)+2)*16) 140737488355328) Sk<|.C 14 143 Gd [] (.fn vS (@oz (T2) aG om om (Tn.dist (wm l i lb)) jZ jZ))<|.K 34 (Ga&&Ao ((↑(ai T2 (Tn.dist (wm l i lb))):Int)<(↑32:Int))) Fu<|.K 2 (Wf (0+ai T2 (Tn.dist (wm l i lb))*2+2) (v0 (v8 cW (aa F)))) Fv<|.lst (wx 2 (Ag (0+ai T2 (Tn.dist (wm l i lb))*2) (v8 cW (aa F)))) ([ah (Wz (wm (aa F) (ai T2 (Tn.dist (wm l i lb))) lb)),cK (Wg (wm (aa F) (ai T2 (Tn.dist (wm l i lb))) lb))]) (aI (k:=2) (i:=ai T2 (Tn.dist (wm l i lb))) (λ _=>rfl) jZ om)<|.I 18 (↑(Wg (wm (aa F) (ai T2 (Tn.dist (wm l i lb))) lb)):Int) jZ<|.C 1 152 Gd [] (.fn fa (@bU (Wz (wm (aa F) (ai T2 (Tn.dist (wm l i lb))) lb)) (Wg (wm (aa F) (ai T2 (Tn.dist (wm l i lb))) lb)) Kw (by(exact(okF _).2))))<|.I 16 (↑(Wg (wm (aa F) (ai T2 (Tn.dist (wm l i lb))) lb)):Int) jZ<|.O 4 (au .u32 (↑(Tn.dist (wm l i lb)-Sy.least (wm T2 (ai T2 (Tn.dist (wm l i lb))) lb)):Int)) (ah (Tn.dist (wm l i lb)-Sy.least (wm T2 (ai T2 (Tn.dist (wm l i lb))) lb))) (ax jZ)<|.K 18 (Ga&&V9 ((v0 (ba T1 T2 (aa L) (aa F) H l i)+2)*2) (v0 (v8 aC (ba T1 T2 (aa L) (aa F) H l i)++[ah (dz (Wz (wm (aa L) (257+ai T1 (Tn.long (wm l i lb))) lb)) (Wg (wm (aa L) (257+ai T1 (Tn.long (wm l i lb))) lb))),zN (Wg (wm (aa L) (257+ai T1 (Tn.long (wm l i lb))) lb)),ah (Tn.long (wm l i lb)-Sy.least (wm T1 (ai T1 (Tn.long (wm l i lb))) lb)),zN (Sy.bits (wm T1 (ai T1 (Tn.long (wm l i lb))) lb))]))&&Ga&&Ga&&Ga&&Ga&&Wf ((v0 (ba T1 T2 (aa L) (aa F) H l i)+2+2)*16) 140737488355328) Sj<|.W 9 (i+1)<|.V 1 12 (zI (i+1)) (zN (i+1)) Ex<|.blk 16 16 (V8 [Wb (1840+sh d) (1840+sh d) 0 (v0 (ba T1 T2 (aa L) (aa F) H l i)+2+2) 2] 123 Gd) (V8 [Wb (1840+sh d) (1840+sh d) 0 (v0 (ba T1 T2 (aa L) (aa F) H l (i+1))) 2] 123 Gd) (by(rw[gm om om,Wc];rfl))<|.blk (1840+sh d) (1840+sh d) (V8 (v8 aC (ba T1 T2 (aa L) (aa F) H l i)++[ah (dz (Wz (wm (aa L) (257+ai T1 (Tn.long (wm l i lb))) lb)) (Wg (wm (aa L) (257+ai T1 (Tn.long (wm l i lb))) lb))),zN (Wg (wm (aa L) (257+ai T1 (Tn.long (wm l i lb))) lb)),ah (Tn.long (wm l i lb)-Sy.least (wm T1 (ai T1 (Tn.long (wm l i lb))) lb)),zN (Sy.bits (wm T1 (ai T1 (Tn.long (wm l i lb))) lb))]++[ah (dz (Wz (wm (aa F) (ai T2 (Tn.dist (wm l i lb))) lb)) (Wg (wm (aa F) (ai T2 (Tn.dist (wm l i lb))) lb))),zN (Wg (wm (aa F) (ai T2 (Tn.dist (wm l i lb))) lb)),ah (Tn.dist (wm l i lb)-Sy.least (wm T2 (ai T2 (Tn.dist (wm l i lb))) lb)),zN (Sy.bits (wm T2 (ai T2 (Tn.dist (wm l i lb))) lb))]) 126 Ga) (V8 (v8 aC (ba T1 T2 (aa L) (aa F) H l (i+1))) 126 Ga) OK<|Aw ZB ⟨(i+1),om,⟨⟩⟩ Sm [(16,16),((96+sh d),(96+sh d)),((256+sh d),(256+sh d)),((257+sh d),(257+sh d)),((384+sh d),(384+sh d)),((400+sh d),(400+sh d)),((432+sh d),(432+sh d)),((464+sh d),(464+sh d)),((496+sh d),(496+sh d)),((1840+sh d),(1840+sh d))] Ii)) (λ p4 Z5=>.val 12 (zN i) (zN k) MJ<|.blk 16 16 (V8 [Wb (616+sh d) (616+sh d) 0 (v0 (ba T1 T2 (aa L) (aa F) H l i)) 2] 123 Gd) (V8 [Wb (616+sh d) (616+sh d) 0 (v0 (ba T1 T2 (aa L) (aa F) H l k)) 2] 123 Gd) MJ<|.blk (616+sh d) (616+sh d) (V8 (v8 aC (ba T1 T2 (aa L) (aa F) H l i)) 126 Ga) (V8 (v8 aC (ba T1 T2 (aa L) (aa F) H l k)) 126 Ga) MJ<|BO ZD 0 (():Unit) rfl [(16,16),((96+sh d),(96+sh d)),((256+sh d),(256+sh d)),((257+sh d),(257+sh d)),((384+sh d),(384+sh d)),((400+sh d),(400+sh d)),((432+sh d),(432+sh d)),((464+sh d),(464+sh d)),((496+sh d),(496+sh d)),((616+sh d),(616+sh d))] Ii)) (fun|⟨i,hi,_⟩=>by cases d<;>kernel_rfl) ⟨(1),om,⟨⟩⟩ [(16,16),((96+sh d),(96+sh d)),((256+sh d),(256+sh d)),((257+sh d),(257+sh d)),((384+sh d),(384+sh d)),((400+sh d),(400+sh d)),((432+sh d),(432+sh d)),((464+sh d),(464+sh d)),((496+sh d),(496+sh d)),((1784+sh d),(1784+sh d))] Ii (bB (fun|()=>.K 22 (Wf 514 (v0 (v8 cW (aa L)))) Si<|.lst (wx 2 (Ag 512 (v8 cW (aa L)))) ([ah (Wz (wm (aa L) 256 lb)),cK (Wg (wm (aa L) 256 lb))]) (aI (k:=2) (i:=256) (λ _=>rfl) om om)<|.I 18 (↑(Wg (wm (aa L) 256 lb)):Int) pv<|.C 1 152 Gd [] (.fn fa (@bU (Wz (wm (aa L) 256 lb)) (Wg (wm (aa L) 256 lb)) Ft (by(exact(okL _).2))))<|.I 16 (↑(Wg (wm (aa L) 256 lb)):Int) pv<|.K 23 (Ga&&V9 (v0 (ba T1 T2 (aa L) (aa F) H l k)*2) (v0 (v8 aC (ba T1 T2 (aa L) (aa F) H l k)))&&Ga&&Ga&&Ga&&Ga&&Wf ((v0 (ba T1 T2 (aa L) (aa F) H l k)+2)*16) 140737488355328) OL<|.U 9 [16,(976+sh d)] [16,(976+sh d)] (WA 0 0 0) [V8 [Wb 1 1 0 (v0 (ba T1 T2 (aa L) (aa F) H l k)+2) 2] 123 Gd,V8 (v8 aC (ba T1 T2 (aa L) (aa F) H l k)++[ah (dz (Wz (wm (aa L) 256 lb)) (Wg (wm (aa L) 256 lb))),zN (Wg (wm (aa L) 256 lb)),uI 0,zI 0]) 126 Ga] R (ok _ _ wr (by(rw[Wc,cu];rfl))))))) (λ p0 Z9=>.K 22 (Wf 514 (v0 (v8 cW (aa L)))) Si<|.lst (wx 2 (Ag 512 (v8 cW (aa L)))) ([ah (Wz (wm (aa L) 256 lb)),cK (Wg (wm (aa L) 256 lb))]) (aI (k:=2) (i:=256) (λ _=>rfl) om om)<|.I 18 (↑(Wg (wm (aa L) 256 lb)):Int) pv<|.C 1 152 Gd [] (.fn fa (@bU (Wz (wm (aa L) 256 lb)) (Wg (wm (aa L) 256 lb)) Ft (by(exact(okL _).2))))<|.I 16 (↑(Wg (wm (aa L) 256 lb)):Int) pv<|.U 33 [16,(928+sh d)] [16,(928+sh d)] (WA 0 0 0) [V8 [Wb 1 1 0 4 2] 123 Gd,V8 [ah e,zI 1,uI 1,zI 2,ah (dz (Wz (wm (aa L) 256 lb)) (Wg (wm (aa L) 256 lb))),zN (Wg (wm (aa L) 256 lb)),uI 0,zI 0] 126 Ga] R (ok _ _ wr (by(rw[show k=0 from by omega,iY,hH];rfl))))) .nil):Hn CK)) (λ t h=>SpecH.run T_ok ae Tryz.func65 rfl rfl rfl ⟨rfl,cV (λ _=>rfl) _,trivial⟩ rfl 1000 64 (λ R ok=>.s 43 (t Ga 1 H hH hHl R ok)) h) (λ t h=>SpecH.run T_ok ae Tryz.func65 rfl rfl rfl ⟨rfl,cV (λ _=>rfl) _,trivial⟩ rfl 1000 64 (λ R ok=>.s 42 (t Gd 0 H' hH' hHl' R ok)) h) kr kr
def ON (l:GU)(k:Nat)(hk:k=l.length)(hk2:k<=65535)(hl:∀i,bY (l.getD i lb))(T1 T2:a9)(hT1:T1=ay)(hT2:T2=aK)(hl1:T1.length=29)(hl2:T2.length=30)(hz1:bi T1)(hz2:bi T2)(L F:Z4)(hL:L=cd)(hF:F=dS)(hLl:L.length=288)(hFl:F.length=32)(hcL:dC L 15=0)(hcF:dC F 15=0)(hmL:(aa L).length=288)(hmF:(aa F).length=32)(okL:jU (aa L))(okF:jU (aa F))(H:GR)(hH:H=kX 1 1)(hHl:H.length=2)(a:Nat)(ha:a<=7)(raw:Z4)(r:Nat)(hr:r=raw.length)(hr2:r<=65535):S0 65 [nD a,fK 1,.sl Gd r 1 (raw.map dB),.sl Gd k 3 (l.flatMap aY),.v (.bool Ga)] [] (.ptr 0 0 0) [⟨[.ref 1 1 0 (ba T1 T2 (aa L) (aa F) H l k++iG (aa L) 256 0 0).length 2], 123,Gd⟩,⟨(ba T1 T2 (aa L) (aa F) H l k++iG (aa L) 256 0 0).flatMap aC, 126,Ga⟩]:=(Ij l k hk hk2 hl T1 T2 hT1 hT2 hl1 hl2 hz1 hz2 L F hL hF hLl hFl hcL hcF hmL hmF okL okF a ha raw r hr hr2 H hH hHl _ rfl rfl).1
def OO (l:GU)(k:Nat)(hk:k=l.length)(hk2:k<=65535)(hl:∀i,bY (l.getD i lb))(T1 T2:a9)(hT1:T1=ay)(hT2:T2=aK)(hl1:T1.length=29)(hl2:T2.length=30)(hz1:bi T1)(hz2:bi T2)(L F:Z4)(hL:L=cd)(hF:F=dS)(hLl:L.length=288)(hFl:F.length=32)(hcL:dC L 15=0)(hcF:dC F 15=0)(hmL:(aa L).length=288)(hmF:(aa F).length=32)(okL:jU (aa L))(okF:jU (aa F))(H:GR)(hH:H=kX 0 1)(hHl:H.length=2)(a:Nat)(ha:a<=7)(raw:Z4)(r:Nat)(hr:r=raw.length)(hr2:r<=65535):S0 65 [nD a,fK 1,.sl Gd r 1 (raw.map dB),.sl Gd k 3 (l.flatMap aY),.v (.bool Gd)] [] (.ptr 0 0 0) [⟨[.ref 1 1 0 (ba T1 T2 (aa L) (aa F) H l k++iG (aa L) 256 0 0).length 2], 123,Gd⟩,⟨(ba T1 T2 (aa L) (aa F) H l k++iG (aa L) 256 0 0).flatMap aC, 126,Ga⟩]:=(Ij l k hk hk2 hl T1 T2 hT1 hT2 hl1 hl2 hz1 hz2 L F hL hF hLl hFl hcL hcF hmL hmF okL okF a ha raw r hr hr2 _ rfl rfl H hH hHl).2
def SpecH.frz {al:Bool}{P:Program}{f:FuncId}{ds:GA}{n sz:Nat}{cells:GA}{t:TypeId}{rw':Bool}(h:SpecH al P f ds [] (.ref 0 0 0 n sz) [⟨cells,t,rw'⟩])(hn:cells.length=n*sz)(hs:0<sz)(hc:ab cells=Ga):SpecH al P f ds [] (.sl Gd n sz cells) []:=by
 refine⟨Wl _,λ O φ w args hO hh hi hl ha=>(h.2 O φ w args hO hh hi hl ha).mono ?_⟩;rintro e w' ⟨u,rfl,hf,ψ,g1,g2,g3,g4,g5⟩;refine⟨u,rfl,hf,φ,λ j hj=>rfl,?_,λ j b hb=>by simp at hb,λ i j x h1=>absurd h1 (XN i),λ j x h1 h2=>absurd h2 (XN j)⟩;have hB:=(g3 0 _ rfl).1;have own:∀b,(fo (k7 al O w) φ 0).own b->b<w.heap.size:=λ b q=>by
  rcases q with q|⟨j,hj,_⟩
  ·unfold k7 at q;split at q
   ·exact hO b q
   ·exact q
  ·exact absurd hj (XN j)
 have hst:Stp (fo (k7 al O w) ψ 1).cl (fo (k7 al O w) φ 0).cl w' w':=⟨λ g hg=>hg.elim,λ g hg=>hg.elim,Wl _,λ b _ hb=>⟨λ q=>hb (by
  rcases q with q|⟨j,hj,_⟩
  ·exact .inl q
  ·exact absurd hj (XN j)),rfl⟩,λ _ _=>rfl⟩
 obtain⟨hnm,hB⟩:=hB
 cases g2 with
 |refn _ _ _ hg hb=>
  have h0:cells=[]:=List.eq_nil_of_length_eq_zero (by rw[hn,XQ]);subst h0;exact .sl Gd 0 sz [] z9 0 [] rfl (λ i d u h=>by simp at h) (λ u h=>by cases h) (by simp) hs ⟨Wl _,W5 _⟩ (λ _=>⟨rfl,rfl⟩) (.inl rfl)
 |ref _ _ _ _ _ c b off' t' m hg hb hcc ho hsh hm=>
  rw[hb]at hB;obtain⟨_,hlt,cur,fr,hheap,hfr,hle,_,hcell⟩:=hB;have hcell:∀(i:Nat) d,cells[i]? =Ge d->∃u,cur[i]? =Ge u/\u.oneCell'=Ga/\RD (fo (k7 al O w) ψ 1) w' d u:=hcell;have hle:cells.length<=cur.size:=hle;have hul:(cur.toList.take cells.length).length=cells.length:=Xw (by rw[Array.length_toList];exact hle);have hget:∀(i:Nat) u,(cur.toList.take cells.length)[i]? =Ge u->i<cells.length/\cur[i]? =Ge u:=λ i u hu=>by
   rw[Xa]at hu
   split at hu
   ·next q=>exact⟨q,by simpa using hu⟩
   ·cases hu
  refine .sl Gd n sz cells (Ge ⟨b,off',z9⟩) c (cur.toList.take cells.length) hul (λ i d u h1 h2=>?_) (λ u hu=>?_) hn hs hcc (λ q=>by cases q) ?_
  ·obtain⟨_,h2⟩:=hget i u h2
   obtain⟨u',q1,_,q3⟩:=hcell i d h1;rw[h2]at q1;cases q1;exact(q3.weak (bl hc h1)).step hst
  ·obtain⟨i,hi⟩:=List.getElem?_of_mem hu
   obtain⟨q0,q1⟩:=hget i u hi;obtain⟨u',y1,y2,_⟩:=hcell i _ (Wa q0);rw[q1]at y1;cases y1;exact y2
  ·rcases ho with ho|⟨ho,_⟩
   ·refine .inr ⟨b,off',rfl,hlt,λ q=>?_,λ i u hu=>?_⟩
    ·have:=g5 0 b (W5 _) Nat.zero_lt_one hb
     have:=own b q;omega
    ·rw[ho,WE,cell_of_row w' b i cur t fr hheap];exact(hget i u hu).2
   ·exact .inl ho
def v4(h:p:=by(refine decide_eq_true ?_;(omega))):=h
def pn (a b:Nat):Int:=if a<b then -1 else if b<a then 1 else 0
def OP {a b:Nat}(h:(a:Int)<b):pn a b= -1:=ZF om
def OQ {a b:Nat}(h:¬(a:Int)<b)(h2:(b:Int)<a):pn a b=1:=(ZE om).trans (ZF om)
def OR {a b:Nat}(h:¬(a:Int)<b)(h2:¬(b:Int)<a):pn a b=0:=(ZE om).trans (ZE om)
def v5 (a b:Nat):pn a b<0↔a<b:=by
 unfold pn;split
 ·omega
 ·split<;>omega
def swp (X:Gw)(i j:Nat):Gw:=lk X ((X.set i (X.getD j lb)).set j (X.getD i lb))
def oD (X:Gw)(i j:Nat):swp X i j=(X.set i (X.getD j lb)).set j (X.getD i lb):=aM _ _
def fq (X:Gw)(i j:Nat):(swp X i j).length=X.length:=by rw[oD,X8,X8]
def Kx {M:Gw}{o a:Nat}(ho:o<M.length):ac (M.map nD) o [nD a]=(M.set o a).map nD:=by
 apply Xe;intro i;rw[ck (by simp only[Wj,W7];omega),WB,WB,XA];simp only[W7]
 by_cases hi:o=i
 ·subst hi
  rw[ZF om,ZF rfl,ZF ho,Xz];rfl
 ·rw[ZE om,ZE hi]
def xI {X:Gw}{i j i' j' i2 j2:Nat}(hi:i<X.length)(hj:j<X.length)(h1:i'=i)(h2:j'=j)(h3:i2=i)(h4:j2=j):ac (ac (X.map nD) i' [D.v (.int .i64 ((X.getD j2 lb:Nat):Int))]) j' [D.v (.int .i64 ((X.getD i2 lb:Nat):Int))]=(swp X i j).map nD:=by
 subst h1 h2 h3 h4;rw[show D.v (.int .i64 ((X.getD j2 lb:Nat):Int))=nD (X.getD j2 lb)from rfl,Kx hi,show D.v (.int .i64 ((X.getD i2 lb:Nat):Int))=nD (X.getD i2 lb)from rfl,Kx (by rw[X8];exact hj),oD]
def Fx {X:Gw}{o m:Nat}{z:Int}(ho:o<X.length)(hm:m<=X.length):(Ga&&m.ble (ac (X.map nD) o [D.v (.int .i64 z)]).length)=true:=by
 rw[dH (by rw[Wj,W7];omega),Wj,WM];exact We hm
def OS (X:Gw)(a b:Nat):Nat->Gw
 |0=>X
 |k+1=>swp (OS X a b k) (a+k) (b+k)
def xJ (X:Gw)(a b:Nat):∀k,(OS X a b k).length=X.length
 |0=>rfl
 |k+1=>by rw[OS,fq,xJ X a b k]
def eP (X:Gw)(a b k:Nat):Gw:=lk X (OS X a b k)
def rA (X:Gw)(a b k:Nat):eP X a b k=OS X a b k:=aM _ _
def ce (X:Gw)(a b k:Nat):(eP X a b k).length=X.length:=by rw[rA,xJ]
def BP (X:Gw)(a b:Nat):eP X a b 0=X:=rA X a b 0
def BQ (X:Gw)(a b k:Nat):swp (eP X a b k) (a+k) (b+k)=eP X a b (k+1):=by rw[rA,rA];rfl
def Ky (a b:Nat):S0 176 [nD a,nD b] [] (iD (pn a b)) []:=SpR Tryz.func176 rfl rfl rfl trivial rfl 1000 64 (λ R ok=>.F 22 ((a:Int) !=(a:Int)) (by(simp;done))<|.F 1 ((b:Int) !=(b:Int)) (by(simp;done))<|.B 4 ((a:Int)<b) (λ p0 Z9=>.U 1 [] [] (zI (-1)) [] R (ok _ _ (by(rw[OP om])) wr)) (λ p0 Z9=>.B 4 ((b:Int)<a) (λ p1 Z8=>.U 1 [] [] (zI 1) [] R (ok _ _ (by(rw[OQ om om])) wr)) (λ p1 Z8=>.U 1 [] [] (zI 0) [] R (ok _ _ (by(rw[OR om om])) wr)))) kr
def t9 (W:Gw)(L:Nat)(hL:L=W.length)(x y:Nat)(hx:x<L)(hy:y<L):S1 175 [nD x,nD y,.ptr 0 0 0] [⟨[.sl Gd L 1 (W.map nD)], 152,Gd⟩] (iD (pn (W.getD x lb) (W.getD y lb))) [⟨[.sl Gd L 1 (W.map nD)], 152,Gd⟩]:=SpR Tryz.func175 rfl rfl rfl ⟨rfl,trivial⟩ rfl 1000 64 (λ R ok=>.K 7 (Ga&&Ao ((x:Int)<L)&&Ga) Ki<|.O 2 ((wo nD W)[x*1]?) (nD (wm W (x*1) lb)) (aj _ _ om)<|.K 5 (Ga&&Ao ((y:Int)<L)&&Ga) Ki<|.O 2 ((wo nD W)[y*1]?) (nD (wm W (y*1) lb)) (aj _ _ om)<|.C 1 176 Gd [] (.fn S4 (@Ky (wm W (x*1) lb) (wm W (y*1) lb)))<|.U 1 [0] [0] (zI (pn (wm W (x*1) lb) (wm W (y*1) lb))) [V8 [Wu Gd L 1 (wo nD W)] 152 Gd] R (ok _ _ (by(rw[Wx,Wx])) wr)) kr
def OT (X:Gw)(N:Nat)(hN:N=X.length)(hN2:N<=1000)(W:Gw)(L:Nat)(hL:L=W.length)(a b n:Nat)(h1:a+n<=N)(h2:b+n<=N):S1 201 [.ref 0 0 0 N 1,nD a,nD b,nD n,.fn (.func 175) [] [.ptr 1 1 0]] [⟨X.map nD, 3,Ga⟩,⟨[.sl Gd L 1 (W.map nD)], 152,Gd⟩] (.tup []) [⟨(eP X a b n).map nD, 3,Ga⟩,⟨[.sl Gd L 1 (W.map nD)], 152,Gd⟩]:=SpR Tryz.func201 rfl rfl rfl ⟨og _,rfl,trivial⟩ rfl 1000 64 (λ R ok=>.M 1 0 0 (V8 (wo nD X) 3 Ga) (V8 (wo nD (eP X a b 0)) 3 Ga) (by(rw[BP];done))<|BY T_ok ae Gd 38 2 (am CK 201 0) (λ(x:(i:Nat)×'(hi:i<=n)×'Unit)=>match x with|⟨i,hi,_⟩=>Wr [(0,Wb 0 0 0 N 1),(1,zN a),(2,zN b),(3,zN n),(10,nD i)] [⟨0,0,0,0,.b ⟨(eP X a b i).map nD,3,Ga⟩⟩,⟨1,1,1,1,.b ⟨[Wu Gd L 1 (wo nD W)],152,Gd⟩⟩] 24) (λ(x:(i:Nat)×'(hi:i<=n)×'Unit)=>match x with|⟨i,hi,_⟩=>n-i) [⟨Unit,.exit 0,λ()=>Wr [(0,Wb 0 0 0 N 1),(1,zN a),(2,zN b),(3,zN n)] [⟨0,0,0,0,.b ⟨(eP X a b n).map nD,3,Ga⟩⟩,⟨1,1,1,1,.b ⟨[Wu Gd L 1 (wo nD W)],152,Gd⟩⟩] 24⟩] 1000 64 (fun|⟨i,hi,_⟩,Q,ZB,ZD=>.B 4 ((i:Int)<n) (λ p0 Z9=>.W 6 (a+i)<|.W 5 (b+i)<|.W 5 (b+i)<|.K 1 (Ga&&Ao ((b:Int)+i<N)) v4<|.O 2 ((wo nD (eP X a b i))[0+zL ((b:Int)+i)*1]?) (nD (wm (eP X a b i) (0+zL ((b:Int)+i)*1) lb)) (aj _ _ (by(have h9:=ce X a b i;omega)))<|.W 5 (a+i)<|.K 1 (Ga&&Ao ((a:Int)+i<N)) v4<|.O 2 ((wo nD (eP X a b i))[0+zL ((a:Int)+i)*1]?) (nD (wm (eP X a b i) (0+zL ((a:Int)+i)*1) lb)) (aj _ _ (by(have h9:=ce X a b i;omega)))<|.K 1 (Ga&&Ao ((a:Int)+i<N)) v4<|.K 1 (Ga&&Wf (0+zL ((a:Int)+i)*1+1) (v0 (wo nD (eP X a b i)))) (by(simp;have h9:=ce X a b i;omega))<|.lst (ac (wo nD (eP X a b i)) (0+zL ((a:Int)+i)*1) [zN (wm (eP X a b i) (0+zL ((b:Int)+i)*1) lb)]) (ac (wo nD (eP X a b i)) (zL ((a:Int)+i)) [zN (wm (eP X a b i) (zL ((b:Int)+i)) lb)]) (by(simp;done))<|.K 1 (Ga&&Ao ((b:Int)+i<N)) v4<|.K 1 (Ga&&Wf (0+zL ((b:Int)+i)*1+1) (v0 (ac (wo nD (eP X a b i)) (zL ((a:Int)+i)) [zN (wm (eP X a b i) (zL ((b:Int)+i)) lb)]))) (by(have h9:=ce X a b i;exact Fx om om))<|.lst (ac (ac (wo nD (eP X a b i)) (zL ((a:Int)+i)) [zN (wm (eP X a b i) (zL ((b:Int)+i)) lb)]) (0+zL ((b:Int)+i)*1) [zN (wm (eP X a b i) (0+zL ((a:Int)+i)*1) lb)]) (ac (ac (wo nD (eP X a b i)) (zL ((a:Int)+i)) [zN (wm (eP X a b i) (zL ((b:Int)+i)) lb)]) (zL ((b:Int)+i)) [zN (wm (eP X a b i) (zL ((a:Int)+i)) lb)]) (by(simp;done))<|.W 3 (i+1)<|.V 1 10 (zI (i+1)) (zN (i+1)) Ex<|.blk 0 0 (V8 (ac (ac (wo nD (eP X a b i)) (zL ((a:Int)+i)) [zN (wm (eP X a b i) (zL ((b:Int)+i)) lb)]) (zL ((b:Int)+i)) [zN (wm (eP X a b i) (zL ((a:Int)+i)) lb)]) 3 Ga) (V8 (wo nD (eP X a b (i+1))) 3 Ga) (by(have h9:=ce X a b i;refine aq (Eq.trans (xI (i:=a+i) (j:=b+i) om om om om om om) ?_);rw[BQ]))<|Aw ZB ⟨(i+1),om,⟨⟩⟩ (by show n-(i+1)<n-i;clear ZB ZD;omega) [(0,0),(1,1)] ro) (λ p0 Z9=>.blk 0 0 (V8 (wo nD (eP X a b i)) 3 Ga) (V8 (wo nD (eP X a b n)) 3 Ga) (by(rw[show i=n from by(omega)]))<|BO ZD 0 (():Unit) rfl [(0,0),(1,1)] ro)) (fun|⟨i,hi,_⟩=>by kernel_rfl) ⟨(0),om,⟨⟩⟩ [(0,0),(1,1)] ro (bB (fun|()=>.out [0,1] [0,1] (Xm []) [V8 (wo nD (eP X a b n)) 3 Ga,V8 [Wu Gd L 1 (wo nD W)] 152 Gd] R (ok _ _ wr wr)))) kr
def gn (m:Nat):Nat->Nat->Nat->Gw->Gw
 |0,i,_,X=>eP X (m-i) m i
 |f+1,i,j,X=>if i=j then eP X (m-i) m i else if j<i then gn m f (i-j) j (eP X (m-i) m j)else gn m f i (j-i) (eP X (m-i) (m+j-i) i)
def Ik {m f i j:Nat}{X:Gw}(h:i=j):gn m f i j X=eP X (m-i) m i:=by
 cases f with
 |zero=>rfl
 |succ f=>exact ZF h
def Il {m f i j:Nat}{X:Gw}(h:j<i):gn m (f+1) i j X=gn m f (i-j) j (eP X (m-i) m j):=(ZE om).trans (ZF h)
def Im {m f i j:Nat}{X:Gw}(h:i<j):gn m (f+1) i j X=gn m f i (j-i) (eP X (m-i) (m+j-i) i):=(ZE om).trans (ZE om)
def v6 (X:Gw)(a m b:Nat):Gw:=lk X (gn m (b-a) (m-a) (b-m) X)
def m8 (X:Gw)(a m b:Nat):v6 X a m b=gn m (b-a) (m-a) (b-m) X:=aM _ _
def oE {m:Nat}:∀(f i j:Nat) (X:Gw),(gn m f i j X).length=X.length
 |0,i,j,X=>ce _ _ _ _
 |f+1,i,j,X=>by
  rw[gn];split
  ·exact ce _ _ _ _
  ·split
   ·rw[oE f,ce]
   ·rw[oE f,ce]
def BR (X:Gw)(a m b:Nat):(v6 X a m b).length=X.length:=by rw[m8,oE]
def inI (W:Gw)(a:Nat):Nat->Gw->Gw
 |0,X=>X
 |j+1,X=>if a<j+1/\W.getD (X.getD (j+1) lb) lb<W.getD (X.getD j lb) lb then inI W a j (swp X (j+1) j)else X
def In {W:Gw}{a j k:Nat}{X:Gw}(hk:k+1=j)(h:a<j)(h2:W.getD (X.getD j lb) lb<W.getD (X.getD k lb) lb):inI W a j X=inI W a k (swp X j k):=by
 subst hk;exact ZF ⟨h,h2⟩
def BS {W:Gw}{a j:Nat}{X:Gw}(h:¬a<j\/¬W.getD (X.getD j lb) lb<W.getD (X.getD (j-1) lb) lb):inI W a j X=X:=by
 cases j with
 |zero=>rfl
 |succ j=>exact ZE (λ q=>by rcases h with h|h;exact h q.1;exact h q.2)
def xK {W:Gw}{a:Nat}:∀(j:Nat) (X:Gw),(inI W a j X).length=X.length
 |0,_=>rfl
 |j+1,X=>by
  rw[inI];split
  ·rw[xK j,fq]
  ·rfl
def OU (W X:Gw)(a:Nat):Nat->Gw
 |0=>X
 |k+1=>inI W a (a+1+k) (OU W X a k)
def xM (W X:Gw)(a:Nat):∀k,(OU W X a k).length=X.length
 |0=>rfl
 |k+1=>by rw[OU,xK,xM W X a k]
def inQ (W X:Gw)(a k:Nat):Gw:=lk X (OU W X a k)
def rB (W X:Gw)(a k:Nat):inQ W X a k=OU W X a k:=aM _ _
def kC (W X:Gw)(a k:Nat):(inQ W X a k).length=X.length:=by rw[rB,xM]
def xN (W X:Gw)(a:Nat):inQ W X a 0=X:=rB W X a 0
def xP (W X:Gw)(a k:Nat):inI W a (a+1+k) (inQ W X a k)=inQ W X a (k+1):=by rw[rB,rB];rfl
def Io (X:Gw)(N:Nat)(hN:N=X.length)(hN2:N<=1000)(W:Gw)(L:Nat)(hL:L=W.length)(a b n:Int)(a' b' n':Nat)(e1:a=a')(e2:b=b')(e3:n=n')(h1:a'+n'<=N)(h2:b'+n'<=N):S1 201 [.ref 0 0 0 N 1,iD a,iD b,iD n,.fn (.func 175) [] [.ptr 1 1 0]] [⟨X.map nD, 3,Ga⟩,⟨[.sl Gd L 1 (W.map nD)], 152,Gd⟩] (.tup []) [⟨(eP X a' b' n').map nD, 3,Ga⟩,⟨[.sl Gd L 1 (W.map nD)], 152,Gd⟩]:=by
 subst e1 e2 e3;exact OT X N hN hN2 W L hL a' b' n' h1 h2
def Ip (X:Gw)(N:Nat)(hN:N=X.length)(hN2:N<=1000)(W:Gw)(L:Nat)(hL:L=W.length)(m i j:Nat)(h1:i<=m)(h2:m+j<=N)(h3:j<=i):S1 201 [.ref 0 0 0 N 1,iD ((m:Int)-i),iD ((m:Nat):Int),nD j,.fn (.func 175) [] [.ptr 1 1 0]] [⟨X.map nD, 3,Ga⟩,⟨[.sl Gd L 1 (W.map nD)], 152,Gd⟩] (.tup []) [⟨(eP X (m-i) m j).map nD, 3,Ga⟩,⟨[.sl Gd L 1 (W.map nD)], 152,Gd⟩]:=Io X N hN hN2 W L hL _ _ _ (m-i) m j om rfl rfl om om
def OV (X:Gw)(N:Nat)(hN:N=X.length)(hN2:N<=1000)(W:Gw)(L:Nat)(hL:L=W.length)(m i j:Nat)(h1:i<=m)(h2:m+j<=N)(h3:i<=j):S1 201 [.ref 0 0 0 N 1,iD ((m:Int)-i),iD ((m:Int)+j-i),nD i,.fn (.func 175) [] [.ptr 1 1 0]] [⟨X.map nD, 3,Ga⟩,⟨[.sl Gd L 1 (W.map nD)], 152,Gd⟩] (.tup []) [⟨(eP X (m-i) (m+j-i) i).map nD, 3,Ga⟩,⟨[.sl Gd L 1 (W.map nD)], 152,Gd⟩]:=Io X N hN hN2 W L hL _ _ _ (m-i) (m+j-i) i om om rfl om om
def Kz {m f i j:Nat}{X T:Gw}(hR:gn m f i j X=T)(hf:i+j<=f)(h1:1<=j)(h:j<i):gn m (f-1) (i-j) j (eP X (m-i) m j)=T:=by
 obtain⟨g,rfl⟩:∃g,f=g+1:=⟨f-1,by omega⟩
 rw[<-hR,Il h];rfl
def KA {m f i j:Nat}{X T:Gw}(hR:gn m f i j X=T)(hf:i+j<=f)(h1:1<=i)(h:i<j):gn m (f-1) i (j-i) (eP X (m-i) (m+j-i) i)=T:=by
 obtain⟨g,rfl⟩:∃g,f=g+1:=⟨f-1,by omega⟩
 rw[<-hR,Im h];rfl
def KB {m f i j:Nat}{X T:Gw}(hR:gn m f i j X=T)(h:i=j):eP X (m-i) m i=T:=by rw[<-hR,Ik h]
def OW (X:Gw)(N:Nat)(hN:N=X.length)(hN2:N<=1000)(W:Gw)(L:Nat)(hL:L=W.length)(a m b:Nat)(h1:a<m)(h2:m<b)(h3:b<=N)(T:Gw)(hT:v6 X a m b=T):S1 200 [.ref 0 0 0 N 1,nD a,nD m,nD b,.fn (.func 175) [] [.ptr 1 1 0]] [⟨X.map nD, 3,Ga⟩,⟨[.sl Gd L 1 (W.map nD)], 152,Gd⟩] (.tup []) [⟨(T).map nD, 3,Ga⟩,⟨[.sl Gd L 1 (W.map nD)], 152,Gd⟩]:=SpR Tryz.func200 rfl rfl rfl ⟨og _,rfl,trivial⟩ rfl 1000 64 (λ R ok=>.W 4 (m-a)<|.W 5 (b-m)<|.V 1 10 (zI (m-a)) (zN (m-a)) Ex<|.val 11 (zI (b-m)) (zN (b-m)) Ex<|BY T_ok ae Gd 58 2 (am CK 200 0) (λ(x:(i:Nat)×'(j:Nat)×'(f:Nat)×'(Y:Gw)×'(hY:Y.length=N)×'(hi:1<=i/\i<=m)×'(hj:1<=j/\m+j<=N)×'(hf:i+j<=f)×'(hR:gn m f i j Y=T)×'Unit)=>match x with|⟨i,j,f,Y,hY,hi,hj,hf,hR,_⟩=>Wr [(0,Wb 0 0 0 N 1),(2,zN m),(4,Yd (Xi 175) [] [WA 1 1 0]),(10,nD i),(11,nD j)] [⟨0,0,0,0,.b ⟨Y.map nD,3,Ga⟩⟩,⟨1,1,1,1,.b ⟨[Wu Gd L 1 (wo nD W)],152,Gd⟩⟩] 24) (λ(x:(i:Nat)×'(j:Nat)×'(f:Nat)×'(Y:Gw)×'(hY:Y.length=N)×'(hi:1<=i/\i<=m)×'(hj:1<=j/\m+j<=N)×'(hf:i+j<=f)×'(hR:gn m f i j Y=T)×'Unit)=>match x with|⟨i,j,f,Y,hY,hi,hj,hf,hR,_⟩=>i+j) [⟨(i2:Nat)×'(Y2:Gw)×'(hY2:Y2.length=N)×'(hi2:1<=i2/\i2<=m/\m+i2<=N)×'(hR2:eP Y2 (m-i2) m i2=T)×'Unit,.exit 0,λ x=>match x with|⟨i2,Y2,hY2,hi2,hR2,_⟩=>Wr [(0,Wb 0 0 0 N 1),(2,zN m),(4,Yd (Xi 175) [] [WA 1 1 0]),(10,nD i2),(11,nD i2)] [⟨0,0,0,0,.b ⟨Y2.map nD,3,Ga⟩⟩,⟨1,1,1,1,.b ⟨[Wu Gd L 1 (wo nD W)],152,Gd⟩⟩] 24⟩] 1000 64 (fun|⟨i,j,f,Y,hY,hi,hj,hf,hR,_⟩,Q,ZB,ZD=>.R 4 ((i:Int) !=(j:Int)) (λ p0=>have Z9:=fI p0;.B 4 ((j:Int)<i) (λ p1 Z8=>.W 5 (m-i)<|.s 4<|.call 201 Ga [0,1] (Ga) wr ([Wb 0 0 0 N 1,zI (m-i),zN m,zN j,Yd (Xi 175) [] [WA 1 1 0]]) _ (dr.refl _) (ab (wo nD Y)&&Ga) (by(simp;done)) _ _ _ (Ws (ap.of Tryz.func201 rfl rfl) (@Ip (Y) (N) om om (W) (L) om (m) (i) (j) om om om))<|.W 4 (i-j)<|.V 1 10 (zI (i-j)) (zN (i-j)) Ex<|Aw ZB ⟨(i-j),(j),(f-1),(eP Y (m-i) m j),(by(rw[ce];(omega))),om,om,om,(by(exact Kz hR om om om)),⟨⟩⟩ (by show i-j+j<i+j;clear ZB ZD;omega) [(0,0),(1,1)] ro) (λ p1 Z8=>.W 5 (m-i)<|.W 4 (m+j)<|.W 3 (m+j-i)<|.s 3<|.call 201 Ga [0,1] (Ga) wr ([Wb 0 0 0 N 1,zI (m-i),zI (m+j-i),zN i,Yd (Xi 175) [] [WA 1 1 0]]) _ (dr.refl _) (ab (wo nD Y)&&Ga) (by(simp;done)) _ _ _ (Ws (ap.of Tryz.func201 rfl rfl) (@OV (Y) (N) om om (W) (L) om (m) (i) (j) om om om))<|.W 4 (j-i)<|.V 1 11 (zI (j-i)) (zN (j-i)) Ex<|Aw ZB ⟨(i),(j-i),(f-1),(eP Y (m-i) (m+j-i) i),(by(rw[ce];(omega))),om,om,om,(by(exact KA hR om om om)),⟨⟩⟩ (by show i+(j-i)<i+j;clear ZB ZD;omega) [(0,0),(1,1)] ro)) (λ p0=>have Z9:=fJ p0;.val 11 (zN j) (zN i) Ex<|BO ZD 0 (⟨(i),(Y),om,om,(by(rw[KB hR om])),⟨⟩⟩:(i2:Nat)×'(Y2:Gw)×'(hY2:Y2.length=N)×'(hi2:1<=i2/\i2<=m/\m+i2<=N)×'(hR2:eP Y2 (m-i2) m i2=T)×'Unit) rfl [(0,0),(1,1)] ro)) (fun|⟨i,j,f,Y,hY,hi,hj,hf,hR,_⟩=>by kernel_rfl) ⟨(m-a),(b-m),(b-a),(X),om,om,om,om,(by(exact(m8 X a m b).symm.trans hT)),⟨⟩⟩ [(0,0),(1,1)] ro (bB (fun|⟨i2,Y2,hY2,hi2,hR2,_⟩=>.W 5 (m-i2)<|.s 4<|.call 201 Ga [0,1] (Ga) wr ([Wb 0 0 0 N 1,zI (m-i2),zN m,zN i2,Yd (Xi 175) [] [WA 1 1 0]]) _ (dr.refl _) (ab (wo nD Y2)&&Ga) (by(simp;done)) _ _ _ (Ws (ap.of Tryz.func201 rfl rfl) (@Ip (Y2) (N) om om (W) (L) om (m) (i2) (i2) om om om))<|.out [0,1] [0,1] (Xm []) [V8 (wo nD (eP Y2 (m-i2) m i2)) 3 Ga,V8 [Wu Gd L 1 (wo nD W)] 152 Gd] R (ok _ _ wr (by(simp_all;done)))))) kr
def bH (L:Nat)(X:Gw):Prop:=∀x∈X,x<L
def bH.at {L:Nat}{X:Gw}(h:bH L X){t:Nat}(ht:t<X.length):X.getD t lb<L:=by
 rw[Wd,Wa ht];exact h _ (Xf ht)
def bH.swp {L:Nat}{X:Gw}(h:bH L X){i j:Nat}(hi:i<X.length)(hj:j<X.length):bH L (swp X i j):=by
 intro x hx;rw[oD]at hx;rcases aap hx with q|q
 ·rcases aap q with q|q
  ·exact h x q
  ·rw[q];exact h.at hj
 ·rw[q];exact h.at hi
def bH.inI {L:Nat}{W:Gw}{a:Nat}:∀(j:Nat) {X:Gw},bH L X->j<X.length->bH L (inI W a j X)
 |0,_,h,_=>h
 |j+1,X,h,hj=>by
  rw[Vp.inI];split
  ·exact bH.inI j (h.swp hj om) (by rw[fq];omega)
  ·exact h
def bH.inQ {L:Nat}{W X:Gw}{a:Nat}(h:bH L X):∀(k:Nat),a+k<X.length->bH L (inQ W X a k)
 |0,_=>by rw[xN];exact h
 |k+1,hk=>by
  rw[<-xP];exact bH.inI _ (bH.inQ h k om) (by rw[kC];omega)
def KC {W Y T:Gw}{a j u v:Nat}(hR:inI W a j Y=T)(h:a<j)(hu:u=j)(hv:v=j-1)(h2:pn (W.getD (Y.getD u lb) lb) (W.getD (Y.getD v lb) lb)<0):inI W a (j-1) (swp Y j (j-1))=T:=by
 subst hu hv;rw[<-hR];exact(In om h ((v5 _ _).1 h2)).symm
def KD {W Y T:Gw}{a j:Nat}(hR:inI W a j Y=T)(h:¬a<j):Y=T:=by rw[<-hR,BS (.inl h)]
def KE {W Y T:Gw}{a j u v:Nat}(hR:inI W a j Y=T)(hu:u=j)(hv:v=j-1)(h2:¬pn (W.getD (Y.getD u lb) lb) (W.getD (Y.getD v lb) lb)<0):Y=T:=by
 subst hu hv;rw[<-hR,BS (.inr λ q=>h2 ((v5 _ _).2 q))]
def OX (X:Gw)(N:Nat)(hN:N=X.length)(hN2:N<=1000)(W:Gw)(L:Nat)(hL:L=W.length)(hA:bH L X)(a b:Nat)(h1:a<=b)(h3:b<=N)(T:Gw)(hT:inQ W X a (b-(a+1))=T):S1 196 [.ref 0 0 0 N 1,nD a,nD b,.fn (.func 175) [] [.ptr 1 1 0]] [⟨X.map nD, 3,Ga⟩,⟨[.sl Gd L 1 (W.map nD)], 152,Gd⟩] (.tup []) [⟨(T).map nD, 3,Ga⟩,⟨[.sl Gd L 1 (W.map nD)], 152,Gd⟩]:=SpR Tryz.func196 rfl rfl rfl ⟨og _,rfl,trivial⟩ rfl 1000 64 (λ R ok=>.W 3 (a+1)<|.V 1 8 (zI (a+1)) (zN (a+1+0)) Ex<|.blk 0 0 (V8 (wo nD X) 3 Ga) (V8 (wo nD (inQ W X a 0)) 3 Ga) (by(rw[xN];done))<|BY T_ok ae Gd 53 2 (am CK 196 0) (λ(x:(k:Nat)×'(hk:k<=b-(a+1))×'Unit)=>match x with|⟨k,hk,_⟩=>Wr [(0,Wb 0 0 0 N 1),(1,zN a),(2,zN b),(3,Yd (Xi 175) [] [WA 1 1 0]),(8,nD (a+1+k))] [⟨0,0,0,0,.b ⟨(inQ W X a k).map nD,3,Ga⟩⟩,⟨1,1,1,1,.b ⟨[Wu Gd L 1 (wo nD W)],152,Gd⟩⟩] 24) (λ(x:(k:Nat)×'(hk:k<=b-(a+1))×'Unit)=>match x with|⟨k,hk,_⟩=>b-(a+1)-k) [⟨Unit,.exit 0,λ()=>Wr [(0,Wb 0 0 0 N 1),(1,zN a),(2,zN b),(3,Yd (Xi 175) [] [WA 1 1 0])] [⟨0,0,0,0,.b ⟨T.map nD,3,Ga⟩⟩,⟨1,1,1,1,.b ⟨[Wu Gd L 1 (wo nD W)],152,Gd⟩⟩] 24⟩] 1000 64 (fun|⟨k,hk,_⟩,Q,ZB,ZD=>.B 4 ((↑(a+1+k):Int)<(b:Int)) (λ p0 Z9=>.s 2<|BY T_ok ae Gd 53 2 (am CK 196 1) (λ(x:(j:Nat)×'(Y:Gw)×'(hY:Y.length=N)×'(hj:a<=j/\j<=a+1+k)×'(hB:bH L Y)×'(hR:inI W a j Y=inQ W X a (k+1))×'Unit)=>match x with|⟨j,Y,hY,hj,hB,hR,_⟩=>Wr [(0,Wb 0 0 0 N 1),(1,zN a),(2,zN b),(3,Yd (Xi 175) [] [WA 1 1 0]),(8,zN (a+1+k)),(9,nD j)] [⟨0,0,0,0,.b ⟨Y.map nD,3,Ga⟩⟩,⟨1,1,1,1,.b ⟨[Wu Gd L 1 (wo nD W)],152,Gd⟩⟩] 24) (λ(x:(j:Nat)×'(Y:Gw)×'(hY:Y.length=N)×'(hj:a<=j/\j<=a+1+k)×'(hB:bH L Y)×'(hR:inI W a j Y=inQ W X a (k+1))×'Unit)=>match x with|⟨j,Y,hY,hj,hB,hR,_⟩=>j) [⟨Unit,.exit 2,λ()=>Wr [(0,Wb 0 0 0 N 1),(1,zN a),(2,zN b),(3,Yd (Xi 175) [] [WA 1 1 0]),(8,zN (a+1+k))] [⟨0,0,0,0,.b ⟨(inQ W X a (k+1)).map nD,3,Ga⟩⟩,⟨1,1,1,1,.b ⟨[Wu Gd L 1 (wo nD W)],152,Gd⟩⟩] 24⟩] 1000 64 (fun|⟨j,Y,hY,hj,hB,hR,_⟩,Q,ZA,ZC=>.B 7 ((a:Int)<j) (λ p1 Z8=>.K 6 (Ga&&Ao ((j:Int)<N)) v4<|.O 3 ((wo nD Y)[0+j*1]?) (nD (wm Y (0+j*1) lb)) (aj _ _ om)<|.W 7 (j-1)<|.K 2 (Ao (0<=(j:Int)-1)&&Ao ((j:Int)-1<N)) Ki<|.O 3 ((wo nD Y)[0+zL ((j:Int)-1)*1]?) (nD (wm Y (0+zL ((j:Int)-1)*1) lb)) (aj _ _ om)<|.C 2 175 Ga [1] (.fn Bm (@t9 (W) (L) om (wm Y (0+j*1) lb) (wm Y (0+zL ((j:Int)-1)*1) lb) (by(exact hB.at om)) (by(exact hB.at om))))<|.B 4 (pn (wm W (wm Y (0+j*1) lb) lb) (wm W (wm Y (0+zL ((j:Int)-1)*1) lb) lb)<0) (λ p2 Z7=>.W 7 (j-1)<|.W 4 (j-1)<|.K 1 (Ao (0<=(j:Int)-1)&&Ao ((j:Int)-1<N)) Ki<|.O 2 ((wo nD Y)[0+zL ((j:Int)-1)*1]?) (nD (wm Y (0+zL ((j:Int)-1)*1) lb)) (aj _ _ om)<|.K 3 (Ga&&Ao ((j:Int)<N)) v4<|.O 2 ((wo nD Y)[0+j*1]?) (nD (wm Y (0+j*1) lb)) (aj _ _ om)<|.K 1 (Ga&&Ao ((j:Int)<N)) v4<|.K 1 (Ga&&Wf (0+j*1+1) (v0 (wo nD Y))) (by(simp;have h9:=kC W X a k;omega))<|.lst (ac (wo nD Y) (0+j*1) [zN (wm Y (0+zL ((j:Int)-1)*1) lb)]) (ac (wo nD Y) j [zN (wm Y (zL ((j:Int)-1)) lb)]) (by(simp;done))<|.K 1 (Ao (0<=(j:Int)-1)&&Ao ((j:Int)-1<N)) Ki<|.K 1 (Ga&&Wf (0+zL ((j:Int)-1)*1+1) (v0 (ac (wo nD Y) j [zN (wm Y (zL ((j:Int)-1)) lb)]))) (by(exact Fx om om))<|.lst (ac (ac (wo nD Y) j [zN (wm Y (zL ((j:Int)-1)) lb)]) (0+zL ((j:Int)-1)*1) [zN (wm Y (0+j*1) lb)]) (ac (ac (wo nD Y) j [zN (wm Y (zL ((j:Int)-1)) lb)]) (zL ((j:Int)-1)) [zN (wm Y j lb)]) (by(simp;done))<|.W 3 (j-1)<|.V 1 9 (zI (j-1)) (zN (j-1)) Ex<|.blk 0 0 (V8 (ac (ac (wo nD Y) j [zN (wm Y (zL ((j:Int)-1)) lb)]) (zL ((j:Int)-1)) [zN (wm Y j lb)]) 3 Ga) (V8 (wo nD (swp Y j (j-1))) 3 Ga) (by(exact aq (xI om om om om om om)))<|Aw ZA ⟨(j-1),(swp Y j (j-1)),(by(rw[fq];(omega))),om,(by(exact hB.swp om om)),(by(exact KC (u:=0+j*1) (v:=0+((j:Int)-1).toNat*1) hR om om om aG)),⟨⟩⟩ (by show j-1<j;clear ZA ZC ZB ZD;omega) [(0,0),(1,1)] ro) (λ p2 Z7=>.blk 0 0 (V8 (wo nD Y) 3 Ga) (V8 (wo nD (inQ W X a (k+1))) 3 Ga) (by(rw[KE (u:=0+j*1) (v:=0+((j:Int)-1).toNat*1) hR om om aG]))<|BO ZC 0 (():Unit) rfl [(0,0),(1,1)] ro)) (λ p1 Z8=>.M 24 0 0 (V8 (wo nD Y) 3 Ga) (V8 (wo nD (inQ W X a (k+1))) 3 Ga) (by(rw[KD hR om]))<|BO ZC 0 (():Unit) rfl [(0,0),(1,1)] ro)) (fun|⟨j,Y,hY,hj,hB,hR,_⟩=>by kernel_rfl) ⟨(a+1+k),(inQ W X a k),(by(have h9:=kC W X a k;omega)),om,(by(have h9:=kC W X a k;exact bH.inQ hA k om)),(by(exact xP W X a k)),⟨⟩⟩ [(0,0),(1,1)] ro (bB (fun|()=>.W 3 ((↑(a+1+k):Int)+1)<|.V 1 8 (zI ((↑(a+1+k):Int)+1)) (zN (a+1+(k+1))) Ex<|Aw ZB ⟨(k+1),om,⟨⟩⟩ (by show b-(a+1)-(k+1)<b-(a+1)-k;clear ZB ZD;omega) [(0,0),(1,1)] ro))) (λ p0 Z9=>.blk 0 0 (V8 (wo nD (inQ W X a k)) 3 Ga) (V8 (wo nD T) 3 Ga) (by(rw[<-hT,show b-(a+1)=k from by omega]))<|BO ZD 0 (():Unit) rfl [(0,0),(1,1)] ro)) (fun|⟨k,hk,_⟩=>by kernel_rfl) ⟨(0),om,⟨⟩⟩ [(0,0),(1,1)] ro (bB (fun|()=>.out [0,1] [0,1] (Xm []) [V8 (wo nD T) 3 Ga,V8 [Wu Gd L 1 (wo nD W)] 152 Gd] R (ok _ _ wr wr)))) kr
def rC(h:p:=by(refine decide_eq_false ?_;(omega))):=h
def Fy(h:p:=by show y-((x+y)/2+1)<y-x;clear ZB ZD;omega):=h
def Fz(h:p:=by show(x+y)/2-x<y-x;clear ZB ZD;omega):=h
def FA(h:p:=by(have z:=BT hR om;refine aF ?_;omega)):=h
def FC(h:p:=by(have z:=hE.e3 om;refine aF ?_;omega)):=h
def FD(h:p:=by(have z:=hE.e4 om;refine aF ?_;omega)):=h
def OY(h:p:=by show(!decide _)=Ga;rw[decide_eq_false (show¬MK W X _ _<0 from hp)];rfl):=h
def Iq(h:p:=by show¬(!decide _)=Ga;rw[decide_eq_true (show MK W X _ _<0 from hp)];decide):=h
def Ir(h:p:=by(exact TH (u:=0+(((x:Int)+(y:Int))/2).toNat*1) (v:=0+(((a:Int)+(b:Int))/2+(m:Int)-1-((x:Int)+(y:Int))/2).toNat*1) hR om om om om aG)):=h
def Is(h:p:=by(exact TJ (u:=0+(((x:Int)+(y:Int))/2).toNat*1) (v:=0+(((a:Int)+(b:Int))/2+(m:Int)-1-((x:Int)+(y:Int))/2).toNat*1) hR om om om om aG)):=h
def gP (p:Nat->Bool):Nat->Nat->Nat->Nat
 |0,i,_=>i
 |f+1,i,j=>if i<j then(if p ((i+j)/2)=Ga then gP p f ((i+j)/2+1) j else gP p f i ((i+j)/2))else i
def BT {p:Nat->Bool}{f i j T:Nat}(hR:gP p f i j=T)(h:¬i<j):i=T:=by
 rw[<-hR];cases f with
 |zero=>rfl
 |succ f=>exact(ZE h).symm
def KF {p:Nat->Bool}{f i j T:Nat}(hR:gP p f i j=T)(hf:j-i<=f)(h:i<j)(hp:p ((i+j)/2)=Ga):gP p (f-1) ((i+j)/2+1) j=T:=by
 obtain⟨g,rfl⟩:∃g,f=g+1:=⟨f-1,by omega⟩
 rw[<-hR];exact((ZF h).trans (ZF hp)).symm
def KG {p:Nat->Bool}{f i j T:Nat}(hR:gP p f i j=T)(hf:j-i<=f)(h:i<j)(hp:¬p ((i+j)/2)=Ga):gP p (f-1) i ((i+j)/2)=T:=by
 obtain⟨g,rfl⟩:∃g,f=g+1:=⟨f-1,by omega⟩
 rw[<-hR];exact((ZF h).trans (ZE hp)).symm
def oF {p:Nat->Bool}:∀(f i j:Nat),i<=j->i<=gP p f i j/\gP p f i j<=j
 |0,i,j,h=>⟨Wl _,h⟩
 |f+1,i,j,h=>by
  rw[gP];split
  ·split
   ·have:=oF (p:=p) f ((i+j)/2+1) j om;omega
   ·have:=oF (p:=p) f i ((i+j)/2) om;omega
  ·exact⟨Wl _,h⟩
def MK (W X:Gw)(u v:Nat):Int:=pn (W.getD (X.getD u lb) lb) (W.getD (X.getD v lb) lb)
def qA (W X:Gw)(a h:Nat):Bool:=Ao (MK W X h a<0)
def qB (W X:Gw)(m h:Nat):Bool:=!Ao (MK W X m h<0)
def qC (W X:Gw)(q c:Nat):Bool:=!Ao (MK W X (q-c) c<0)
section
variable {W X:List Nat} {f x y T a u v:Nat}
def TD (hR:gP (qA W X a) f x y=T)(hf:y-x<=f)(h:x<y)(hu:u=(x+y)/2)(hv:v=a)(hp:pn (W.getD (X.getD u lb) lb) (W.getD (X.getD v lb) lb)<0):gP (qA W X a) (f-1) ((x+y)/2+1) y=T:=by
 subst hu hv;exact KF hR hf h (decide_eq_true hp)
def TE (hR:gP (qA W X a) f x y=T)(hf:y-x<=f)(h:x<y)(hu:u=(x+y)/2)(hv:v=a)(hp:¬pn (W.getD (X.getD u lb) lb) (W.getD (X.getD v lb) lb)<0):gP (qA W X a) (f-1) x ((x+y)/2)=T:=by
 subst hu hv;exact KG hR hf h (λ q=>hp (of_decide_eq_true q))
def TF (hR:gP (qB W X a) f x y=T)(hf:y-x<=f)(h:x<y)(hu:u=(x+y)/2)(hv:v=a)(hp:¬pn (W.getD (X.getD v lb) lb) (W.getD (X.getD u lb) lb)<0):gP (qB W X a) (f-1) ((x+y)/2+1) y=T:=by
 subst hu hv;exact KF hR hf h OY
def TG (hR:gP (qB W X a) f x y=T)(hf:y-x<=f)(h:x<y)(hu:u=(x+y)/2)(hv:v=a)(hp:pn (W.getD (X.getD v lb) lb) (W.getD (X.getD u lb) lb)<0):gP (qB W X a) (f-1) x ((x+y)/2)=T:=by
 subst hu hv;exact KG hR hf h Iq
def TH (hR:gP (qC W X a) f x y=T)(hf:y-x<=f)(h:x<y)(hu:u=(x+y)/2)(hv:v=a-(x+y)/2)(hp:¬pn (W.getD (X.getD v lb) lb) (W.getD (X.getD u lb) lb)<0):gP (qC W X a) (f-1) ((x+y)/2+1) y=T:=by
 subst hu hv;exact KF hR hf h OY
def TJ (hR:gP (qC W X a) f x y=T)(hf:y-x<=f)(h:x<y)(hu:u=(x+y)/2)(hv:v=a-(x+y)/2)(hp:pn (W.getD (X.getD v lb) lb) (W.getD (X.getD u lb) lb)<0):gP (qC W X a) (f-1) x ((x+y)/2)=T:=by
 subst hu hv;exact KG hR hf h Iq
end
def OZ (X:Gw)(a:Nat):Nat->Gw
 |0=>X
 |k+1=>swp (OZ X a k) (a+k) (a+k+1)
def O0 (X:Gw)(m:Nat):Nat->Gw
 |0=>X
 |k+1=>swp (O0 X m k) (m-k) (m-k-1)
def xQ (X:Gw)(a:Nat):∀k,(OZ X a k).length=X.length
 |0=>rfl
 |k+1=>by rw[OZ,fq,xQ X a k]
def xR (X:Gw)(a:Nat):∀k,(O0 X a k).length=X.length
 |0=>rfl
 |k+1=>by rw[O0,fq,xR X a k]
def iI (X:Gw)(a k:Nat):Gw:=lk X (OZ X a k)
def iJ (X:Gw)(m k:Nat):Gw:=lk X (O0 X m k)
def rD (X:Gw)(a k:Nat):iI X a k=OZ X a k:=aM _ _
def rE (X:Gw)(a k:Nat):iJ X a k=O0 X a k:=aM _ _
def BU (X:Gw)(a:Nat):iI X a 0=X:=rD X a 0
def BV (X:Gw)(a:Nat):iJ X a 0=X:=rE X a 0
def eI (X:Gw)(a k:Nat):(iI X a k).length=X.length:=by rw[rD,xQ]
def eJ (X:Gw)(a k:Nat):(iJ X a k).length=X.length:=by rw[rE,xR]
def BW (X:Gw)(a k:Nat):swp (iI X a k) (a+k) (a+k+1)=iI X a (k+1):=by rw[rD,rD];rfl
def BX (X:Gw)(a k:Nat):swp (iJ X a k) (a-k) (a-k-1)=iJ X a (k+1):=by rw[rE,rE];rfl
def TK (X:Gw)(N:Nat)(hN:N=X.length)(hN2:N<=1000)(W:Gw)(L:Nat)(hL:L=W.length)(hA:bH L X)(a m b:Nat)(h1:a<m)(h2:m<b)(h3:b<=N)(hm:m=a+1)(i:Nat)(hi:gP (qA W X a) (b-m) m b=i)(hi2:m<=i/\i<=b):S1 197 [.ref 0 0 0 N 1,nD a,nD m,nD b,.fn (.func 175) [] [.ptr 1 1 0]] [⟨X.map nD, 3,Ga⟩,⟨[.sl Gd L 1 (W.map nD)], 152,Gd⟩] (.tup []) [⟨(iI X a (i-1-a)).map nD, 3,Ga⟩,⟨[.sl Gd L 1 (W.map nD)], 152,Gd⟩]:=SpR Tryz.func197 rfl rfl rfl ⟨og _,rfl,trivial⟩ rfl 1000 64 (λ R ok=>.W 4 (m-a)<|.E 2 ((m:Int)-a==1) v4<|.s 4<|BY T_ok ae Gd 220 2 (am CK 197 0) (λ(x:(x:Nat)×'(y:Nat)×'(f:Nat)×'(hx:m<=x/\x<=y/\y<=b)×'(hf:y-x<=f)×'(hR:gP (qA W X a) f x y=i)×'Unit)=>match x with|⟨x,y,f,hx,hf,hR,_⟩=>Wr [(0,Wb 0 0 0 N 1),(1,zN a),(4,Yd (Xi 175) [] [WA 1 1 0]),(10,nD x),(11,nD y)] [⟨0,0,0,0,.b ⟨wo nD X,3,Ga⟩⟩,⟨1,1,1,1,.b ⟨[Wu Gd L 1 (wo nD W)],152,Gd⟩⟩] 24) (λ(x:(x:Nat)×'(y:Nat)×'(f:Nat)×'(hx:m<=x/\x<=y/\y<=b)×'(hf:y-x<=f)×'(hR:gP (qA W X a) f x y=i)×'Unit)=>match x with|⟨x,y,f,hx,hf,hR,_⟩=>y-x) [⟨Unit,.exit 0,λ()=>Wr [(0,Wb 0 0 0 N 1),(1,zN a),(4,Yd (Xi 175) [] [WA 1 1 0]),(10,nD i),(11,nD i)] [⟨0,0,0,0,.b ⟨wo nD X,3,Ga⟩⟩,⟨1,1,1,1,.b ⟨[Wu Gd L 1 (wo nD W)],152,Gd⟩⟩] 24⟩] 1000 64 (fun|⟨x,y,f,hx,hf,hR,_⟩,Q,ZB,ZD=>.B 4 ((x:Int)<y) (λ p0 Z9=>.W 4 (x+y)<|.O 1 (au .u64 ((x:Int)+y)) (D.v (Xq .u64 ((x:Int)+y))) (bq om)<|.O 2 (aX Yo (Xl ((x:Int)+y) 2)) (D.v (Xq .u64 (((x:Int)+y)/2))) (aB (@ii  ((x:Int)+y) (2) om))<|.W 1 (((x:Int)+y)/2)<|.K 6 (Ga&&Ao (((x:Int)+y)/2<N)) v4<|.O 2 ((wo nD X)[0+zL (((x:Int)+y)/2)*1]?) (nD (wm X (0+zL (((x:Int)+y)/2)*1) lb)) (aj _ _ om)<|.K 3 (Ga&&Ao ((a:Int)<N)) v4<|.O 2 ((wo nD X)[0+a*1]?) (nD (wm X (0+a*1) lb)) (aj _ _ om)<|.C 1 175 Ga [1] (.fn Bm (@t9 (W) (L) om (wm X (0+zL (((x:Int)+y)/2)*1) lb) (wm X (0+a*1) lb) (by(exact hA.at om)) (by(exact hA.at om))))<|.B 2 (pn (wm W (wm X (0+zL (((x:Int)+y)/2)*1) lb) lb) (wm W (wm X (0+a*1) lb) lb)<0) (λ p1 Z8=>.W 3 (((x:Int)+y)/2+1)<|.V 1 10 (zI (((x:Int)+y)/2+1)) (zN ((x+y)/2+1)) Ex<|Aw ZB ⟨((x+y)/2+1),(y),(f-1),om,om,(by(exact TD (u:=0+(((x:Int)+y)/2).toNat*1) (v:=0+a*1) hR om om om om aG)),⟨⟩⟩ Fy [(0,0),(1,1)] ro) (λ p1 Z8=>.V 2 11 (zI (((x:Int)+y)/2)) (zN ((x+y)/2)) Ex<|Aw ZB ⟨(x),((x+y)/2),(f-1),om,om,(by(exact TE (u:=0+(((x:Int)+y)/2).toNat*1) (v:=0+a*1) hR om om om om aG)),⟨⟩⟩ Fz [(0,0),(1,1)] ro)) (λ p0 Z9=>.val 10 (zN x) (zN i) (by(rw[BT hR om]))<|.val 11 (zN y) (zN i) FA<|BO ZD 0 (():Unit) rfl [(0,0),(1,1)] ro)) (fun|⟨x,y,f,hx,hf,hR,_⟩=>by kernel_rfl) ⟨(m),(b),(b-m),om,om,om,⟨⟩⟩ [(0,0),(1,1)] ro (bB (fun|()=>.V 2 13 (zN a) (zN (a+0)) Ex<|.blk 0 0 (V8 (wo nD X) 3 Ga) (V8 (wo nD (iI X a 0)) 3 Ga) (by(rw[BU];done))<|BY T_ok ae Gd 220 2 (am CK 197 1) (λ(x:(k:Nat)×'(hk:a+k<=i-1)×'Unit)=>match x with|⟨k,hk,_⟩=>Wr [(0,Wb 0 0 0 N 1),(10,zN i),(13,nD (a+k))] [⟨0,0,0,0,.b ⟨(iI X a k).map nD,3,Ga⟩⟩,⟨1,1,1,1,.b ⟨[Wu Gd L 1 (wo nD W)],152,Gd⟩⟩] 24) (λ(x:(k:Nat)×'(hk:a+k<=i-1)×'Unit)=>match x with|⟨k,hk,_⟩=>i-1-a-k) [⟨Unit,.exit 2,λ()=>Wr [(0,Wb 0 0 0 N 1),(10,zN i)] [⟨0,0,0,0,.b ⟨(iI X a (i-1-a)).map nD,3,Ga⟩⟩,⟨1,1,1,1,.b ⟨[Wu Gd L 1 (wo nD W)],152,Gd⟩⟩] 24⟩] 1000 64 (fun|⟨k,hk,_⟩,Q,ZB,ZD=>.W 4 (i-1)<|.B 2 ((↑(a+k):Int)<(i:Int)-1) (λ p2 Z7=>.W 7 ((↑(a+k):Int)+1)<|.W 4 ((↑(a+k):Int)+1)<|.K 1 (Ga&&Ao ((↑(a+k):Int)+1<(N:Int))) v4<|.O 2 ((wo nD (iI X a k))[0+zL ((↑(a+k):Int)+1)*1]?) (nD (wm (iI X a k) (0+zL ((↑(a+k):Int)+1)*1) lb)) (aj _ _ (by(have h9:=eI X a k;omega)))<|.K 3 (Ga&&Ao ((↑(a+k):Int)<(N:Int))) v4<|.O 2 ((wo nD (iI X a k))[0+(a+k)*1]?) (nD (wm (iI X a k) (0+(a+k)*1) lb)) (aj _ _ (by(have h9:=eI X a k;omega)))<|.K 1 (Ga&&Ao ((↑(a+k):Int)<(N:Int))) v4<|.K 1 (Ga&&Wf (0+(a+k)*1+1) (v0 (wo nD (iI X a k)))) (by(simp;have h9:=eI X a k;omega))<|.lst (ac (wo nD (iI X a k)) (0+(a+k)*1) [zN (wm (iI X a k) (0+zL ((↑(a+k):Int)+1)*1) lb)]) (ac (wo nD (iI X a k)) (a+k) [zN (wm (iI X a k) (zL ((↑(a+k):Int)+1)) lb)]) (by(simp;done))<|.K 1 (Ga&&Ao ((↑(a+k):Int)+1<(N:Int))) v4<|.K 1 (Ga&&Wf (0+zL ((↑(a+k):Int)+1)*1+1) (v0 (ac (wo nD (iI X a k)) (a+k) [zN (wm (iI X a k) (zL ((↑(a+k):Int)+1)) lb)]))) (by(have h9:=eI X a k;exact Fx om om))<|.lst (ac (ac (wo nD (iI X a k)) (a+k) [zN (wm (iI X a k) (zL ((↑(a+k):Int)+1)) lb)]) (0+zL ((↑(a+k):Int)+1)*1) [zN (wm (iI X a k) (0+(a+k)*1) lb)]) (ac (ac (wo nD (iI X a k)) (a+k) [zN (wm (iI X a k) (zL ((↑(a+k):Int)+1)) lb)]) (zL ((↑(a+k):Int)+1)) [zN (wm (iI X a k) (a+k) lb)]) (by(simp;done))<|.W 3 ((↑(a+k):Int)+1)<|.V 1 13 (zI ((↑(a+k):Int)+1)) (zN (a+(k+1))) Ex<|.blk 0 0 (V8 (ac (ac (wo nD (iI X a k)) (a+k) [zN (wm (iI X a k) (zL ((↑(a+k):Int)+1)) lb)]) (zL ((↑(a+k):Int)+1)) [zN (wm (iI X a k) (a+k) lb)]) 3 Ga) (V8 (wo nD (iI X a (k+1))) 3 Ga) (by(have h9:=eI X a k;exact aq (Eq.trans (xI (i:=a+k) (j:=a+k+1) om om om om om om) (by rw[BW]))))<|Aw ZB ⟨(k+1),om,⟨⟩⟩ (by show i-1-a-(k+1)<i-1-a-k;clear ZB ZD;omega) [(0,0),(1,1)] ro) (λ p2 Z7=>.blk 0 0 (V8 (wo nD (iI X a k)) 3 Ga) (V8 (wo nD (iI X a (i-1-a))) 3 Ga) (by(rw[show k=i-1-a from by omega]))<|BO ZD 0 (():Unit) rfl [(0,0),(1,1)] ro)) (fun|⟨k,hk,_⟩=>by kernel_rfl) ⟨(0),om,⟨⟩⟩ [(0,0),(1,1)] ro (bB (fun|()=>.out [0,1] [0,1] (Xm []) [V8 (wo nD (iI X a (i-1-a))) 3 Ga,V8 [Wu Gd L 1 (wo nD W)] 152 Gd] R (ok _ _ wr wr)))))) kr
def TL (X:Gw)(N:Nat)(hN:N=X.length)(hN2:N<=1000)(W:Gw)(L:Nat)(hL:L=W.length)(hA:bH L X)(a m b:Nat)(h1:a<m)(h2:m<b)(h3:b<=N)(hm:m≠a+1)(hb:b=m+1)(i:Nat)(hi:gP (qB W X m) (m-a) a m=i)(hi2:a<=i/\i<=m):S1 197 [.ref 0 0 0 N 1,nD a,nD m,nD b,.fn (.func 175) [] [.ptr 1 1 0]] [⟨X.map nD, 3,Ga⟩,⟨[.sl Gd L 1 (W.map nD)], 152,Gd⟩] (.tup []) [⟨(iJ X m (m-i)).map nD, 3,Ga⟩,⟨[.sl Gd L 1 (W.map nD)], 152,Gd⟩]:=SpR Tryz.func197 rfl rfl rfl ⟨og _,rfl,trivial⟩ rfl 1000 64 (λ R ok=>.W 4 (m-a)<|.F 2 ((m:Int)-a==1) rC<|.W 4 (b-m)<|.E 2 ((b:Int)-m==1) v4<|.s 4<|BY T_ok ae Gd 220 2 (am CK 197 2) (λ(x:(x:Nat)×'(y:Nat)×'(f:Nat)×'(hx:a<=x/\x<=y/\y<=m)×'(hf:y-x<=f)×'(hR:gP (qB W X m) f x y=i)×'Unit)=>match x with|⟨x,y,f,hx,hf,hR,_⟩=>Wr [(0,Wb 0 0 0 N 1),(2,zN m),(4,Yd (Xi 175) [] [WA 1 1 0]),(14,nD x),(15,nD y)] [⟨0,0,0,0,.b ⟨wo nD X,3,Ga⟩⟩,⟨1,1,1,1,.b ⟨[Wu Gd L 1 (wo nD W)],152,Gd⟩⟩] 24) (λ(x:(x:Nat)×'(y:Nat)×'(f:Nat)×'(hx:a<=x/\x<=y/\y<=m)×'(hf:y-x<=f)×'(hR:gP (qB W X m) f x y=i)×'Unit)=>match x with|⟨x,y,f,hx,hf,hR,_⟩=>y-x) [⟨Unit,.exit 4,λ()=>Wr [(0,Wb 0 0 0 N 1),(2,zN m),(4,Yd (Xi 175) [] [WA 1 1 0]),(14,nD i),(15,nD i)] [⟨0,0,0,0,.b ⟨wo nD X,3,Ga⟩⟩,⟨1,1,1,1,.b ⟨[Wu Gd L 1 (wo nD W)],152,Gd⟩⟩] 24⟩] 1000 64 (fun|⟨x,y,f,hx,hf,hR,_⟩,Q,ZB,ZD=>.B 4 ((x:Int)<y) (λ p0 Z9=>.W 4 (x+y)<|.O 1 (au .u64 ((x:Int)+y)) (D.v (Xq .u64 ((x:Int)+y))) (bq om)<|.O 2 (aX Yo (Xl ((x:Int)+y) 2)) (D.v (Xq .u64 (((x:Int)+y)/2))) (aB (@ii  ((x:Int)+y) (2) om))<|.W 1 (((x:Int)+y)/2)<|.K 6 (Ga&&Ao ((m:Int)<N)) v4<|.O 2 ((wo nD X)[0+m*1]?) (nD (wm X (0+m*1) lb)) (aj _ _ om)<|.K 3 (Ga&&Ao (((x:Int)+y)/2<N)) v4<|.O 2 ((wo nD X)[0+zL (((x:Int)+y)/2)*1]?) (nD (wm X (0+zL (((x:Int)+y)/2)*1) lb)) (aj _ _ om)<|.C 1 175 Ga [1] (.fn Bm (@t9 (W) (L) om (wm X (0+m*1) lb) (wm X (0+zL (((x:Int)+y)/2)*1) lb) (by(exact hA.at om)) (by(exact hA.at om))))<|.R 3 (!Ao (pn (wm W (wm X (0+m*1) lb) lb) (wm W (wm X (0+zL (((x:Int)+y)/2)*1) lb) lb)<0)) (λ p1=>have Z8:=zY (cT p1);.W 3 (((x:Int)+y)/2+1)<|.V 1 14 (zI (((x:Int)+y)/2+1)) (zN ((x+y)/2+1)) Ex<|Aw ZB ⟨((x+y)/2+1),(y),(f-1),om,om,(by(exact TF (u:=0+(((x:Int)+y)/2).toNat*1) (v:=0+m*1) hR om om om om aG)),⟨⟩⟩ Fy [(0,0),(1,1)] ro) (λ p1=>have Z8:=zX (cU p1);.V 2 15 (zI (((x:Int)+y)/2)) (zN ((x+y)/2)) Ex<|Aw ZB ⟨(x),((x+y)/2),(f-1),om,om,(by(exact TG (u:=0+(((x:Int)+y)/2).toNat*1) (v:=0+m*1) hR om om om om aG)),⟨⟩⟩ Fz [(0,0),(1,1)] ro)) (λ p0 Z9=>.val 14 (zN x) (zN i) (by(rw[BT hR om]))<|.val 15 (zN y) (zN i) FA<|BO ZD 0 (():Unit) rfl [(0,0),(1,1)] ro)) (fun|⟨x,y,f,hx,hf,hR,_⟩=>by kernel_rfl) ⟨(a),(m),(m-a),om,om,om,⟨⟩⟩ [(0,0),(1,1)] ro (bB (fun|()=>.V 2 17 (zN m) (zN (m-0)) Ex<|.blk 0 0 (V8 (wo nD X) 3 Ga) (V8 (wo nD (iJ X m 0)) 3 Ga) (by(rw[BV];done))<|BY T_ok ae Gd 220 2 (am CK 197 3) (λ(x:(k:Nat)×'(hk:k<=m-i)×'Unit)=>match x with|⟨k,hk,_⟩=>Wr [(0,Wb 0 0 0 N 1),(14,zN i),(17,nD (m-k))] [⟨0,0,0,0,.b ⟨(iJ X m k).map nD,3,Ga⟩⟩,⟨1,1,1,1,.b ⟨[Wu Gd L 1 (wo nD W)],152,Gd⟩⟩] 24) (λ(x:(k:Nat)×'(hk:k<=m-i)×'Unit)=>match x with|⟨k,hk,_⟩=>m-i-k) [⟨Unit,.exit 6,λ()=>Wr [(0,Wb 0 0 0 N 1),(14,zN i)] [⟨0,0,0,0,.b ⟨(iJ X m (m-i)).map nD,3,Ga⟩⟩,⟨1,1,1,1,.b ⟨[Wu Gd L 1 (wo nD W)],152,Gd⟩⟩] 24⟩] 1000 64 (fun|⟨k,hk,_⟩,Q,ZB,ZD=>.B 4 ((i:Int)<(↑(m-k):Int)) (λ p2 Z7=>.W 7 ((↑(m-k):Int)-1)<|.W 4 ((↑(m-k):Int)-1)<|.K 1 (Ao (0<=(↑(m-k):Int)-1)&&Ao ((↑(m-k):Int)-1<(N:Int))) Ki<|.O 2 ((wo nD (iJ X m k))[0+zL ((↑(m-k):Int)-1)*1]?) (nD (wm (iJ X m k) (0+zL ((↑(m-k):Int)-1)*1) lb)) (aj _ _ (by(have h9:=eJ X m k;omega)))<|.K 3 (Ga&&Ao ((↑(m-k):Int)<(N:Int))) v4<|.O 2 ((wo nD (iJ X m k))[0+(m-k)*1]?) (nD (wm (iJ X m k) (0+(m-k)*1) lb)) (aj _ _ (by(have h9:=eJ X m k;omega)))<|.K 1 (Ga&&Ao ((↑(m-k):Int)<(N:Int))) v4<|.K 1 (Ga&&Wf (0+(m-k)*1+1) (v0 (wo nD (iJ X m k)))) (by(simp;have h9:=eJ X m k;omega))<|.lst (ac (wo nD (iJ X m k)) (0+(m-k)*1) [zN (wm (iJ X m k) (0+zL ((↑(m-k):Int)-1)*1) lb)]) (ac (wo nD (iJ X m k)) (m-k) [zN (wm (iJ X m k) (zL ((↑(m-k):Int)-1)) lb)]) (by(simp;done))<|.K 1 (Ao (0<=(↑(m-k):Int)-1)&&Ao ((↑(m-k):Int)-1<(N:Int))) Ki<|.K 1 (Ga&&Wf (0+zL ((↑(m-k):Int)-1)*1+1) (v0 (ac (wo nD (iJ X m k)) (m-k) [zN (wm (iJ X m k) (zL ((↑(m-k):Int)-1)) lb)]))) (by(have h9:=eJ X m k;exact Fx om om))<|.lst (ac (ac (wo nD (iJ X m k)) (m-k) [zN (wm (iJ X m k) (zL ((↑(m-k):Int)-1)) lb)]) (0+zL ((↑(m-k):Int)-1)*1) [zN (wm (iJ X m k) (0+(m-k)*1) lb)]) (ac (ac (wo nD (iJ X m k)) (m-k) [zN (wm (iJ X m k) (zL ((↑(m-k):Int)-1)) lb)]) (zL ((↑(m-k):Int)-1)) [zN (wm (iJ X m k) (m-k) lb)]) (by(simp;done))<|.W 3 ((↑(m-k):Int)-1)<|.V 1 17 (zI ((↑(m-k):Int)-1)) (zN (m-(k+1))) Ex<|.blk 0 0 (V8 (ac (ac (wo nD (iJ X m k)) (m-k) [zN (wm (iJ X m k) (zL ((↑(m-k):Int)-1)) lb)]) (zL ((↑(m-k):Int)-1)) [zN (wm (iJ X m k) (m-k) lb)]) 3 Ga) (V8 (wo nD (iJ X m (k+1))) 3 Ga) (by(have h9:=eJ X m k;exact aq (Eq.trans (xI (i:=m-k) (j:=m-k-1) om om om om om om) (by rw[BX]))))<|Aw ZB ⟨(k+1),om,⟨⟩⟩ (by show m-i-(k+1)<m-i-k;clear ZB ZD;omega) [(0,0),(1,1)] ro) (λ p2 Z7=>.blk 0 0 (V8 (wo nD (iJ X m k)) 3 Ga) (V8 (wo nD (iJ X m (m-i))) 3 Ga) (by(rw[show k=m-i from by omega]))<|BO ZD 0 (():Unit) rfl [(0,0),(1,1)] ro)) (fun|⟨k,hk,_⟩=>by kernel_rfl) ⟨(0),om,⟨⟩⟩ [(0,0),(1,1)] ro (bB (fun|()=>.out [0,1] [0,1] (Xm []) [V8 (wo nD (iJ X m (m-i))) 3 Ga,V8 [Wu Gd L 1 (wo nD W)] 152 Gd] R (ok _ _ wr wr)))))) kr
structure RtH (W:Gw)(L N:Nat)(X:Gw)(a m b:Nat)(X1:Gw):Prop where
 h:∀(Y:Gw) (x y z:Int),Y=X->x=a->y=m->z=b->S1 200 [.ref 0 0 0 N 1,iD x,iD y,iD z,.fn (.func 175) [] [.ptr 1 1 0]] [⟨Y.map nD, 3,Ga⟩,⟨[.sl Gd L 1 (W.map nD)], 152,Gd⟩] (.tup []) [⟨X1.map nD, 3,Ga⟩,⟨[.sl Gd L 1 (W.map nD)], 152,Gd⟩]
structure SaH (W:Gw)(L N:Nat)(X:Gw)(a m b:Nat)(X1:Gw):Prop where
 h:∀(Y:Gw) (x y z:Int),Y=X->x=a->y=m->z=b->S1 197 [.ref 0 0 0 N 1,iD x,iD y,iD z,.fn (.func 175) [] [.ptr 1 1 0]] [⟨Y.map nD, 3,Ga⟩,⟨[.sl Gd L 1 (W.map nD)], 152,Gd⟩] (.tup []) [⟨X1.map nD, 3,Ga⟩,⟨[.sl Gd L 1 (W.map nD)], 152,Gd⟩]
structure SbH (W:Gw)(L N:Nat)(X:Gw)(a m b:Nat)(X1:Gw):Prop where
 h:∀(Y:Gw) (x y z:Int),Y=X->x=a->y=m->z=b->S1 197 [.ref 0 0 0 N 1,iD x,iD y,iD z,.fn (.func 175) [] [.ptr 1 1 0]] [⟨Y.map nD, 3,Ga⟩,⟨[.sl Gd L 1 (W.map nD)], 152,Gd⟩] (.tup []) [⟨X1.map nD, 3,Ga⟩,⟨[.sl Gd L 1 (W.map nD)], 152,Gd⟩]
structure SmE (W:Gw)(L N:Nat)(X X1 X2 T:Gw)(a m b mid q st en s0 r0:Nat):Prop where
 r:st<m->m<en->RtH W L N X st m en X1
 r0':(st<m->m<en->False)->X=X1
 s:a<st->st<mid->SaH W L N X1 a st mid X2
 s0':(a<st->st<mid->False)->X1=X2
 t:mid<en->en<b->SbH W L N X2 mid en b T
 t0':(mid<en->en<b->False)->X2=T
 e3:mid<m->s0=q-b/\r0=mid
 e4:m<=mid->s0=a/\r0=m
section
variable {W:List Nat} {L N:Nat} {X X1 X2 T:List Nat} {a m b mid q st en s0 r0:Nat} (h:SmE W L N X X1 X2 T a m b mid q st en s0 r0)
include h
def SmE.rp (c1:st<m)(c2:m<en)(Y:Gw)(x y z:Int)(hY:Y=X)(hx:x=st)(hy:y=m)(hz:z=en):S1 200 [.ref 0 0 0 N 1,iD x,iD y,iD z,.fn (.func 175) [] [.ptr 1 1 0]] [⟨Y.map nD, 3,Ga⟩,⟨[.sl Gd L 1 (W.map nD)], 152,Gd⟩] (.tup []) [⟨X1.map nD, 3,Ga⟩,⟨[.sl Gd L 1 (W.map nD)], 152,Gd⟩]:=(h.r c1 c2).h Y x y z hY hx hy hz
def SmE.sp (c1:a<st)(c2:st<mid)(Y:Gw)(x y z:Int)(hY:Y=X1)(hx:x=a)(hy:y=st)(hz:z=mid):S1 197 [.ref 0 0 0 N 1,iD x,iD y,iD z,.fn (.func 175) [] [.ptr 1 1 0]] [⟨Y.map nD, 3,Ga⟩,⟨[.sl Gd L 1 (W.map nD)], 152,Gd⟩] (.tup []) [⟨X2.map nD, 3,Ga⟩,⟨[.sl Gd L 1 (W.map nD)], 152,Gd⟩]:=(h.s c1 c2).h Y x y z hY hx hy hz
def SmE.tp (c1:mid<en)(c2:en<b)(Y:Gw)(x y z:Int)(hY:Y=X2)(hx:x=mid)(hy:y=en)(hz:z=b):S1 197 [.ref 0 0 0 N 1,iD x,iD y,iD z,.fn (.func 175) [] [.ptr 1 1 0]] [⟨Y.map nD, 3,Ga⟩,⟨[.sl Gd L 1 (W.map nD)], 152,Gd⟩] (.tup []) [⟨T.map nD, 3,Ga⟩,⟨[.sl Gd L 1 (W.map nD)], 152,Gd⟩]:=(h.t c1 c2).h Y x y z hY hx hy hz
end
def TM (X:Gw)(N:Nat)(hN:N=X.length)(hN2:N<=1000)(W:Gw)(L:Nat)(hL:L=W.length)(hA:bH L X)(a m b:Nat)(h1:a<m)(h2:m<b)(h3:b<=N)(hm:m≠a+1)(hb:b≠m+1)(X1 X2 T:Gw)(mid q st en:Nat)(e1:mid=(a+b)/2)(e2:q=mid+m)(s0 r0:Nat)(hs0:s0<=r0/\r0<=m/\a<=s0/\q<=s0+b)(hi:gP (qC W X (q-1)) (r0-s0) s0 r0=st)(hi2:s0<=st/\st<=r0)(e5:en=q-st)(hE:SmE W L N X X1 X2 T a m b mid q st en s0 r0):S1 197 [.ref 0 0 0 N 1,nD a,nD m,nD b,.fn (.func 175) [] [.ptr 1 1 0]] [⟨X.map nD, 3,Ga⟩,⟨[.sl Gd L 1 (W.map nD)], 152,Gd⟩] (.tup []) [⟨(T).map nD, 3,Ga⟩,⟨[.sl Gd L 1 (W.map nD)], 152,Gd⟩]:=SpR Tryz.func197 rfl rfl rfl ⟨og _,rfl,trivial⟩ rfl 1000 64 (λ R ok=>.W 4 (m-a)<|.F 2 ((m:Int)-a==1) rC<|.W 4 (b-m)<|.F 2 ((b:Int)-m==1) rC<|.W 4 (a+b)<|.O 1 (au .u64 ((a:Int)+b)) (D.v (Xq .u64 ((a:Int)+b))) (bq om)<|.O 2 (aX Yo (Xl ((a:Int)+b) 2)) (D.v (Xq .u64 (((a:Int)+b)/2))) (aB (@ii  ((a:Int)+b) (2) om))<|.W 1 (((a:Int)+b)/2)<|.W 5 (((a:Int)+b)/2+m)<|.B 7 (((a:Int)+b)/2<m) (λ p0 Z9=>.W 4 (((a:Int)+b)/2+m-b)<|.W 6 (((a:Int)+b)/2+m-1)<|.V 1 20 (zI (((a:Int)+b)/2+m-b)) (zN s0) FC<|.val 21 (zI (((a:Int)+b)/2)) (zN r0) FC<|BY T_ok ae Gd 220 2 (am CK 197 4) (λ(x:(x:Nat)×'(y:Nat)×'(f:Nat)×'(hx:s0<=x/\x<=y/\y<=r0)×'(hf:y-x<=f)×'(hR:gP (qC W X (q-1)) f x y=st)×'Unit)=>match x with|⟨x,y,f,hx,hf,hR,_⟩=>Wr [(0,Wb 0 0 0 N 1),(1,zN a),(2,zN m),(3,zN b),(4,Yd (Xi 175) [] [WA 1 1 0]),(18,zI (((a:Int)+b)/2)),(19,zI (((a:Int)+b)/2+m)),(20,nD x),(21,nD y),(22,zI (((a:Int)+b)/2+m-1))] [⟨0,0,0,0,.b ⟨wo nD X,3,Ga⟩⟩,⟨1,1,1,1,.b ⟨[Wu Gd L 1 (wo nD W)],152,Gd⟩⟩] 24) (λ(x:(x:Nat)×'(y:Nat)×'(f:Nat)×'(hx:s0<=x/\x<=y/\y<=r0)×'(hf:y-x<=f)×'(hR:gP (qC W X (q-1)) f x y=st)×'Unit)=>match x with|⟨x,y,f,hx,hf,hR,_⟩=>y-x) [⟨Unit,.exit 8,λ()=>Wr [(0,Wb 0 0 0 N 1),(1,zN a),(2,zN m),(3,zN b),(4,Yd (Xi 175) [] [WA 1 1 0]),(18,zI (((a:Int)+b)/2)),(19,zI (((a:Int)+b)/2+m)),(20,nD st),(21,nD st),(22,zI (((a:Int)+b)/2+m-1))] [⟨0,0,0,0,.b ⟨wo nD X,3,Ga⟩⟩,⟨1,1,1,1,.b ⟨[Wu Gd L 1 (wo nD W)],152,Gd⟩⟩] 24⟩] 1000 64 (fun|⟨x,y,f,hx,hf,hR,_⟩,Q,ZB,ZD=>.B 4 ((x:Int)<y) (λ p1 Z8=>.W 4 (x+y)<|.O 1 (au .u64 ((x:Int)+y)) (D.v (Xq .u64 ((x:Int)+y))) (bq om)<|.O 2 (aX Yo (Xl ((x:Int)+y) 2)) (D.v (Xq .u64 (((x:Int)+y)/2))) (aB (@ii  ((x:Int)+y) (2) om))<|.W 1 (((x:Int)+y)/2)<|.W 8 (((a:Int)+b)/2+m-1-(x+y)/2)<|.K 1 (Ao (0<=((a:Int)+b)/2+m-1-(x+y)/2)&&Ao (((a:Int)+b)/2+m-1-(x+y)/2<N)) Ki<|.O 2 ((wo nD X)[0+zL (((a:Int)+b)/2+m-1-(x+y)/2)*1]?) (nD (wm X (0+zL (((a:Int)+b)/2+m-1-(x+y)/2)*1) lb)) (aj _ _ om)<|.K 3 (Ga&&Ao (((x:Int)+y)/2<N)) v4<|.O 2 ((wo nD X)[0+zL (((x:Int)+y)/2)*1]?) (nD (wm X (0+zL (((x:Int)+y)/2)*1) lb)) (aj _ _ om)<|.C 1 175 Ga [1] (.fn Bm (@t9 (W) (L) om (wm X (0+zL (((a:Int)+b)/2+m-1-(x+y)/2)*1) lb) (wm X (0+zL (((x:Int)+y)/2)*1) lb) (by(exact hA.at om)) (by(exact hA.at om))))<|.R 3 (!Ao (pn (wm W (wm X (0+zL (((a:Int)+b)/2+m-1-(x+y)/2)*1) lb) lb) (wm W (wm X (0+zL (((x:Int)+y)/2)*1) lb) lb)<0)) (λ p2=>have Z7:=zY (cT p2);.W 3 (((x:Int)+y)/2+1)<|.V 1 20 (zI (((x:Int)+y)/2+1)) (zN ((x+y)/2+1)) FC<|Aw ZB ⟨((x+y)/2+1),(y),(f-1),om,om,Ir,⟨⟩⟩ Fy [(0,0),(1,1)] ro) (λ p2=>have Z7:=zX (cU p2);.V 2 21 (zI (((x:Int)+y)/2)) (zN ((x+y)/2)) FC<|Aw ZB ⟨(x),((x+y)/2),(f-1),om,om,Is,⟨⟩⟩ Fz [(0,0),(1,1)] ro)) (λ p1 Z8=>.val 20 (zN x) (zN st) (by(rw[BT hR om]))<|.val 21 (zN y) (zN st) FA<|BO ZD 0 (():Unit) rfl [(0,0),(1,1)] ro)) (fun|⟨x,y,f,hx,hf,hR,_⟩=>by kernel_rfl) ⟨(s0),(r0),(r0-s0),om,om,om,⟨⟩⟩ [(0,0),(1,1)] ro (bB (fun|()=>.W 4 (((a:Int)+b)/2+m-st)<|.B 7 ((st:Int)<m) (λ p3 Z6=>.B 6 ((m:Int)<(a+b)/2+m-st) (λ p4 Z5=>.s 6<|.call 200 Ga [0,1] (Ga) wr ([Wb 0 0 0 N 1,zN st,zN m,zI (((a:Int)+b)/2+m-st),Yd (Xi 175) [] [WA 1 1 0]]) _ (dr.refl _) (ab (wo nD X)&&Ga) (by(simp;done)) _ _ _ (Ws (ap.of Tryz.func200 rfl rfl) (@SmE.rp (W) (L) (N) (X) (X1) (X2) (T) (a) (m) (b) (mid) (q) (st) (en) (s0) (r0) aG om om (X) ((st:Int)) ((m:Int)) (((a:Int)+b)/2+m-st) wr om om om))<|.B 6 ((a:Int)<st) (λ p5 p5f=>.E 6 (Ao ((st:Int)<(a+b)/2)) v4<|.s 6<|.call 197 Ga [0,1] (Ga) wr ([Wb 0 0 0 N 1,zN a,zN st,zI (((a:Int)+b)/2),Yd (Xi 175) [] [WA 1 1 0]]) _ (dr.refl _) (ab (wo nD X1)&&Ga) (by(simp;done)) _ _ _ (Ws (ap.of Tryz.func197 rfl rfl) (@SmE.sp (W) (L) (N) (X) (X1) (X2) (T) (a) (m) (b) (mid) (q) (st) (en) (s0) (r0) aG om om (X1) ((a:Int)) ((st:Int)) (((a:Int)+b)/2) wr om om om))<|.E 6 (Ao (((a:Int)+b)/2<(a+b)/2+m-st)) v4<|.B 6 (((a:Int)+b)/2+m-st<b) (λ p6 p6f=>.s 6<|.call 197 Ga [0,1] (Ga) wr ([Wb 0 0 0 N 1,zI (((a:Int)+b)/2),zI (((a:Int)+b)/2+m-st),zN b,Yd (Xi 175) [] [WA 1 1 0]]) _ (dr.refl _) (ab (wo nD X2)&&Ga) (by(simp;done)) _ _ _ (Ws (ap.of Tryz.func197 rfl rfl) (@SmE.tp (W) (L) (N) (X) (X1) (X2) (T) (a) (m) (b) (mid) (q) (st) (en) (s0) (r0) aG om om (X2) (((a:Int)+b)/2) (((a:Int)+b)/2+m-st) ((b:Int)) wr om om om))<|.out [0,1] [0,1] (Xm []) [V8 (wo nD T) 3 Ga,V8 [Wu Gd L 1 (wo nD W)] 152 Gd] R (ok _ _ wr wr)) (λ p6 p6f=>.out [0,1] [0,1] (Xm []) [V8 (wo nD X2) 3 Ga,V8 [Wu Gd L 1 (wo nD W)] 152 Gd] R (ok _ _ wr (by(rw[hE.t0' om]))))) (λ p5 p5f=>.E 12 (Ao (((a:Int)+b)/2<(a+b)/2+m-st)) v4<|.F 6 (Ao (((a:Int)+b)/2+m-st<b)) rC<|.out [0,1] [0,1] (Xm []) [V8 (wo nD X1) 3 Ga,V8 [Wu Gd L 1 (wo nD W)] 152 Gd] R (ok _ _ wr (by(rw[hE.s0' om,hE.t0' om]))))) (λ p4 Z5=>.E 6 (Ao ((a:Int)<st)) v4<|.F 6 (Ao ((st:Int)<(a+b)/2)) rC<|.E 6 (Ao (((a:Int)+b)/2<(a+b)/2+m-st)) v4<|.E 6 (Ao (((a:Int)+b)/2+m-st<b)) v4<|.s 6<|.call 197 Ga [0,1] (Ga) wr ([Wb 0 0 0 N 1,zI (((a:Int)+b)/2),zI (((a:Int)+b)/2+m-st),zN b,Yd (Xi 175) [] [WA 1 1 0]]) _ (dr.refl _) (ab (wo nD X)&&Ga) (by(simp;done)) _ _ _ (Ws (ap.of Tryz.func197 rfl rfl) (@SmE.tp (W) (L) (N) (X) (X1) (X2) (T) (a) (m) (b) (mid) (q) (st) (en) (s0) (r0) aG om om (X) (((a:Int)+b)/2) (((a:Int)+b)/2+m-st) ((b:Int)) (by(exact(hE.r0' om).trans (hE.s0' om))) om om om))<|.out [0,1] [0,1] (Xm []) [V8 (wo nD T) 3 Ga,V8 [Wu Gd L 1 (wo nD W)] 152 Gd] R (ok _ _ wr wr))) (λ p3 Z6=>.E 12 (Ao ((a:Int)<st)) v4<|.F 6 (Ao ((st:Int)<(a+b)/2)) rC<|.F 6 (Ao (((a:Int)+b)/2<(a+b)/2+m-st)) rC<|.U 6 [0,1] [0,1] (Xm []) [V8 (wo nD X) 3 Ga,V8 [Wu Gd L 1 (wo nD W)] 152 Gd] R (ok _ _ wr (by(rw[hE.r0' om,hE.s0' om,hE.t0' om]))))))) (λ p0 Z9=>.W 7 (((a:Int)+b)/2+m-1)<|.V 1 20 (zN a) (zN s0) FD<|.val 21 (zN m) (zN r0) FD<|BY T_ok ae Gd 220 2 (am CK 197 4) (λ(x:(x:Nat)×'(y:Nat)×'(f:Nat)×'(hx:s0<=x/\x<=y/\y<=r0)×'(hf:y-x<=f)×'(hR:gP (qC W X (q-1)) f x y=st)×'Unit)=>match x with|⟨x,y,f,hx,hf,hR,_⟩=>Wr [(0,Wb 0 0 0 N 1),(1,zN a),(2,zN m),(3,zN b),(4,Yd (Xi 175) [] [WA 1 1 0]),(18,zI (((a:Int)+b)/2)),(19,zI (((a:Int)+b)/2+m)),(20,nD x),(21,nD y),(22,zI (((a:Int)+b)/2+m-1))] [⟨0,0,0,0,.b ⟨wo nD X,3,Ga⟩⟩,⟨1,1,1,1,.b ⟨[Wu Gd L 1 (wo nD W)],152,Gd⟩⟩] 24) (λ(x:(x:Nat)×'(y:Nat)×'(f:Nat)×'(hx:s0<=x/\x<=y/\y<=r0)×'(hf:y-x<=f)×'(hR:gP (qC W X (q-1)) f x y=st)×'Unit)=>match x with|⟨x,y,f,hx,hf,hR,_⟩=>y-x) [⟨Unit,.exit 8,λ()=>Wr [(0,Wb 0 0 0 N 1),(1,zN a),(2,zN m),(3,zN b),(4,Yd (Xi 175) [] [WA 1 1 0]),(18,zI (((a:Int)+b)/2)),(19,zI (((a:Int)+b)/2+m)),(20,nD st),(21,nD st),(22,zI (((a:Int)+b)/2+m-1))] [⟨0,0,0,0,.b ⟨wo nD X,3,Ga⟩⟩,⟨1,1,1,1,.b ⟨[Wu Gd L 1 (wo nD W)],152,Gd⟩⟩] 24⟩] 1000 64 (fun|⟨x,y,f,hx,hf,hR,_⟩,Q,ZB,ZD=>.B 4 ((x:Int)<y) (λ p7 p7f=>.W 4 (x+y)<|.O 1 (au .u64 ((x:Int)+y)) (D.v (Xq .u64 ((x:Int)+y))) (bq om)<|.O 2 (aX Yo (Xl ((x:Int)+y) 2)) (D.v (Xq .u64 (((x:Int)+y)/2))) (aB (@ii  ((x:Int)+y) (2) om))<|.W 1 (((x:Int)+y)/2)<|.W 8 (((a:Int)+b)/2+m-1-(x+y)/2)<|.K 1 (Ao (0<=((a:Int)+b)/2+m-1-(x+y)/2)&&Ao (((a:Int)+b)/2+m-1-(x+y)/2<N)) Ki<|.O 2 ((wo nD X)[0+zL (((a:Int)+b)/2+m-1-(x+y)/2)*1]?) (nD (wm X (0+zL (((a:Int)+b)/2+m-1-(x+y)/2)*1) lb)) (aj _ _ om)<|.K 3 (Ga&&Ao (((x:Int)+y)/2<N)) v4<|.O 2 ((wo nD X)[0+zL (((x:Int)+y)/2)*1]?) (nD (wm X (0+zL (((x:Int)+y)/2)*1) lb)) (aj _ _ om)<|.C 1 175 Ga [1] (.fn Bm (@t9 (W) (L) om (wm X (0+zL (((a:Int)+b)/2+m-1-(x+y)/2)*1) lb) (wm X (0+zL (((x:Int)+y)/2)*1) lb) (by(exact hA.at om)) (by(exact hA.at om))))<|.R 3 (!Ao (pn (wm W (wm X (0+zL (((a:Int)+b)/2+m-1-(x+y)/2)*1) lb) lb) (wm W (wm X (0+zL (((x:Int)+y)/2)*1) lb) lb)<0)) (λ p8=>have p8f:=zY (cT p8);.W 3 (((x:Int)+y)/2+1)<|.V 1 20 (zI (((x:Int)+y)/2+1)) (zN ((x+y)/2+1)) FD<|Aw ZB ⟨((x+y)/2+1),(y),(f-1),om,om,Ir,⟨⟩⟩ Fy [(0,0),(1,1)] ro) (λ p8=>have p8f:=zX (cU p8);.V 2 21 (zI (((x:Int)+y)/2)) (zN ((x+y)/2)) FD<|Aw ZB ⟨(x),((x+y)/2),(f-1),om,om,Is,⟨⟩⟩ Fz [(0,0),(1,1)] ro)) (λ p7 p7f=>.val 20 (zN x) (zN st) (by(rw[BT hR om]))<|.val 21 (zN y) (zN st) FA<|BO ZD 0 (():Unit) rfl [(0,0),(1,1)] ro)) (fun|⟨x,y,f,hx,hf,hR,_⟩=>by kernel_rfl) ⟨(s0),(r0),(r0-s0),om,om,om,⟨⟩⟩ [(0,0),(1,1)] ro (bB (fun|()=>.W 4 (((a:Int)+b)/2+m-st)<|.B 7 ((st:Int)<m) (λ p9 p9f=>.E 6 (Ao ((m:Int)<(a+b)/2+m-st)) v4<|.s 6<|.call 200 Ga [0,1] (Ga) wr ([Wb 0 0 0 N 1,zN st,zN m,zI (((a:Int)+b)/2+m-st),Yd (Xi 175) [] [WA 1 1 0]]) _ (dr.refl _) (ab (wo nD X)&&Ga) (by(simp;done)) _ _ _ (Ws (ap.of Tryz.func200 rfl rfl) (@SmE.rp (W) (L) (N) (X) (X1) (X2) (T) (a) (m) (b) (mid) (q) (st) (en) (s0) (r0) aG om om (X) ((st:Int)) ((m:Int)) (((a:Int)+b)/2+m-st) wr om om om))<|.B 6 ((a:Int)<st) (λ p10 p10f=>.E 6 (Ao ((st:Int)<(a+b)/2)) v4<|.s 6<|.call 197 Ga [0,1] (Ga) wr ([Wb 0 0 0 N 1,zN a,zN st,zI (((a:Int)+b)/2),Yd (Xi 175) [] [WA 1 1 0]]) _ (dr.refl _) (ab (wo nD X1)&&Ga) (by(simp;done)) _ _ _ (Ws (ap.of Tryz.func197 rfl rfl) (@SmE.sp (W) (L) (N) (X) (X1) (X2) (T) (a) (m) (b) (mid) (q) (st) (en) (s0) (r0) aG om om (X1) ((a:Int)) ((st:Int)) (((a:Int)+b)/2) wr om om om))<|.E 6 (Ao (((a:Int)+b)/2<(a+b)/2+m-st)) v4<|.E 6 (Ao (((a:Int)+b)/2+m-st<b)) v4<|.s 6<|.call 197 Ga [0,1] (Ga) wr ([Wb 0 0 0 N 1,zI (((a:Int)+b)/2),zI (((a:Int)+b)/2+m-st),zN b,Yd (Xi 175) [] [WA 1 1 0]]) _ (dr.refl _) (ab (wo nD X2)&&Ga) (by(simp;done)) _ _ _ (Ws (ap.of Tryz.func197 rfl rfl) (@SmE.tp (W) (L) (N) (X) (X1) (X2) (T) (a) (m) (b) (mid) (q) (st) (en) (s0) (r0) aG om om (X2) (((a:Int)+b)/2) (((a:Int)+b)/2+m-st) ((b:Int)) wr om om om))<|.out [0,1] [0,1] (Xm []) [V8 (wo nD T) 3 Ga,V8 [Wu Gd L 1 (wo nD W)] 152 Gd] R (ok _ _ wr wr)) (λ p10 p10f=>.E 12 (Ao (((a:Int)+b)/2<(a+b)/2+m-st)) v4<|.B 6 (((a:Int)+b)/2+m-st<b) (λ p11 p11f=>.s 6<|.call 197 Ga [0,1] (Ga) wr ([Wb 0 0 0 N 1,zI (((a:Int)+b)/2),zI (((a:Int)+b)/2+m-st),zN b,Yd (Xi 175) [] [WA 1 1 0]]) _ (dr.refl _) (ab (wo nD X1)&&Ga) (by(simp;done)) _ _ _ (Ws (ap.of Tryz.func197 rfl rfl) (@SmE.tp (W) (L) (N) (X) (X1) (X2) (T) (a) (m) (b) (mid) (q) (st) (en) (s0) (r0) aG om om (X1) (((a:Int)+b)/2) (((a:Int)+b)/2+m-st) ((b:Int)) (by(exact hE.s0' om)) om om om))<|.out [0,1] [0,1] (Xm []) [V8 (wo nD T) 3 Ga,V8 [Wu Gd L 1 (wo nD W)] 152 Gd] R (ok _ _ wr wr)) (λ p11 p11f=>.out [0,1] [0,1] (Xm []) [V8 (wo nD X1) 3 Ga,V8 [Wu Gd L 1 (wo nD W)] 152 Gd] R (ok _ _ wr (by(rw[hE.s0' om,hE.t0' om])))))) (λ p9 p9f=>.E 12 (Ao ((a:Int)<st)) v4<|.B 6 ((st:Int)<(a+b)/2) (λ p12 p12f=>.s 6<|.call 197 Ga [0,1] (Ga) wr ([Wb 0 0 0 N 1,zN a,zN st,zI (((a:Int)+b)/2),Yd (Xi 175) [] [WA 1 1 0]]) _ (dr.refl _) (ab (wo nD X)&&Ga) (by(simp;done)) _ _ _ (Ws (ap.of Tryz.func197 rfl rfl) (@SmE.sp (W) (L) (N) (X) (X1) (X2) (T) (a) (m) (b) (mid) (q) (st) (en) (s0) (r0) aG om om (X) ((a:Int)) ((st:Int)) (((a:Int)+b)/2) (by(exact hE.r0' om)) om om om))<|.F 6 (Ao (((a:Int)+b)/2<(a+b)/2+m-st)) rC<|.U 6 [0,1] [0,1] (Xm []) [V8 (wo nD X2) 3 Ga,V8 [Wu Gd L 1 (wo nD W)] 152 Gd] R (ok _ _ wr (by(rw[hE.t0' om])))) (λ p12 p12f=>.F 6 (Ao (((a:Int)+b)/2<(a+b)/2+m-st)) rC<|.U 6 [0,1] [0,1] (Xm []) [V8 (wo nD X) 3 Ga,V8 [Wu Gd L 1 (wo nD W)] 152 Gd] R (ok _ _ wr (by(rw[hE.r0' om,hE.s0' om,hE.t0' om]))))))))) kr
def kD {X:Gw}{i j:Nat}(hi:i<X.length)(hj:j<X.length):(swp X i j).Perm X:=by
 rw[List.perm_iff_count];intro c;have e1:X.getD i lb=X[i]:=by rw[Wd,Wa hi];rfl
 have e2:X.getD j lb=X[j]:=by rw[Wd,Wa hj];rfl
 rw[oD,e1,e2,List.count_set (by rw[X8];exact hj),List.count_set hi,List.getElem_set];have h1:(X[i]==c)=Ga->1<=X.count c:=λ q=>by
  rw[List.one_le_count_iff,<-eq_of_beq q];exact Xf hi
 have h3:(if i=j then X[j]else X[j])=X[j]:=by split<;>rfl
 rw[h3]
 cases q1:(X[i]==c)<;>cases q2:(X[j]==c)<;>simp <;>(try have:=h1 q1)<;>omega
def kE {X:Gw}{a b:Nat}:∀k,a+k<=X.length->b+k<=X.length->(eP X a b k).Perm X
 |0,_,_=>by rw[BP]
 |k+1,h1,h2=>by
  rw[<-BQ];exact(kD (by rw[ce];omega) (by rw[ce];omega)).trans (kE k om om)
def lr {m:Nat}:∀(f i j:Nat) (X:Gw),1<=i->1<=j->i<=m->m+j<=X.length->i+j<=f->(gn m f i j X).Perm X
 |0,i,j,X,h1,h2,h3,h4,h5=>by omega
 |f+1,i,j,X,h1,h2,h3,h4,h5=>by
  rw[gn];split
  ·exact kE i om om
  ·split
   ·exact(lr f (i-j) j _ om h2 om (by rw[ce];omega) om).trans (kE j om om)
   ·exact(lr f i (j-i) _ h1 om h3 (by rw[ce];omega) om).trans (kE i om om)
def Ab {X:Gw}{a m b:Nat}(h1:a<m)(h2:m<b)(h3:b<=X.length):(v6 X a m b).Perm X:=by
 rw[m8];exact lr _ _ _ _ om om om om om
def ub {W:Gw}{a:Nat}:∀(j:Nat) (X:Gw),j<X.length->(inI W a j X).Perm X
 |0,_,_=>YC _
 |j+1,X,h=>by
  rw[inI];split
  ·exact(ub j _ (by rw[fq];omega)).trans (kD h om)
  ·exact YC _
def iZ {W X:Gw}{a:Nat}:∀(k:Nat),a+k<X.length\/k=0->(inQ W X a k).Perm X
 |0,_=>by rw[xN]
 |k+1,h=>by
  rw[<-xP];exact(ub _ _ (by rw[kC];omega)).trans (iZ k om)
def ud {X:Gw}{a:Nat}:∀(k:Nat),a+k<X.length\/k=0->(iI X a k).Perm X
 |0,_=>by rw[BU]
 |k+1,h=>by
  rw[<-BW];exact(kD (by rw[eI];omega) (by rw[eI];omega)).trans (ud k om)
def ue {X:Gw}{m:Nat}(hm:m<X.length):∀(k:Nat),(iJ X m k).Perm X
 |0=>by rw[BV]
 |k+1=>by
  rw[<-BX];exact(kD (by rw[eJ];omega) (by rw[eJ];omega)).trans (ue hm k)
def bH.perm {L:Nat}{X Y:Gw}(h:bH L X)(hp:Y.Perm X):bH L Y:=λ x hx=>h x (hp.mem_iff.1 hx)
def jz (a m b:Nat):Nat:=if(a+b)/2<m then(a+b)/2+m-b else a
def i4 (a m b:Nat):Nat:=if(a+b)/2<m then(a+b)/2 else m
def ea (W X:Gw)(a m b:Nat):Nat:=gP (qC W X ((a+b)/2+m-1)) (i4 a m b-jz a m b) (jz a m b) (i4 a m b)
def du (X:Gw)(m st en:Nat):Gw:=if st<m/\m<en then v6 X st m en else X
def i5 (W:Gw):Nat->Gw->Nat->Nat->Nat->Gw
 |0,X,_,_,_=>X
 |f+1,X,a,m,b=>
  if m=a+1 then iI X a (gP (qA W X a) (b-m) m b-1-a)
  else if b=m+1 then iJ X m (m-gP (qB W X m) (m-a) a m)
  else
   (λ st=>(λ en=>(λ X1=>(λ X2=>if(a+b)/2<en/\en<b then i5 W f X2 ((a+b)/2) en b else X2)
    (if a<st/\st<(a+b)/2 then i5 W f X1 a st ((a+b)/2)else X1)) (du X m st en)) ((a+b)/2+m-st)) (ea W X a m b)
def v7 {a m b:Nat}(h1:a<m)(h2:m<b):jz a m b<=i4 a m b/\i4 a m b<=m/\a<=jz a m b/\(a+b)/2+m<=jz a m b+b:=by
 unfold jz i4;split<;>omega
def qo {X:Gw}{m st en:Nat}(h:en<=X.length):(du X m st en).Perm X:=by
 unfold du;split
 ·next q=>exact Ab q.1 q.2 h
 ·exact YC _
def fN {W:Gw}:∀(f:Nat) (X:Gw) (a m b:Nat),a<m->m<b->b<=X.length->(i5 W f X a m b).Perm X
 |0,_,_,_,_,_,_,_=>YC _
 |f+1,X,a,m,b,h1,h2,h3=>by
  rw[i5]
  split
  ·have:=oF (p:=qA W X a) (b-m) m b om
   exact ud _ om
  ·split
   ·exact ue om _
   ·have hs:=v7 h1 h2
    have hi:=oF (p:=qC W X ((a+b)/2+m-1)) (i4 a m b-jz a m b) (jz a m b) (i4 a m b) hs.1;show List.Perm (if(a+b)/2<(a+b)/2+m-ea W X a m b/\_ then _ else _) X;generalize hst:ea W X a m b=st at *;have hst2:jz a m b<=st/\st<=i4 a m b:=by rw[<-hst];exact hi
    have q1:(du X m st ((a+b)/2+m-st)).Perm X:=qo om;have l1:=q1.length_eq;have q2:(if a<st/\st<(a+b)/2 then i5 W f (du X m st ((a+b)/2+m-st)) a st ((a+b)/2)else du X m st ((a+b)/2+m-st)).Perm X:=by
     split
     ·next q=>exact(fN f _ _ _ _ q.1 q.2 om).trans q1
     ·exact q1
    have l2:=q2.length_eq;generalize(if a<st/\st<(a+b)/2 then i5 W f (du X m st ((a+b)/2+m-st)) a st ((a+b)/2)else du X m st ((a+b)/2+m-st))=X2 at *
    split
    ·next q=>exact(fN f _ _ _ _ q.1 q.2 om).trans q2
    ·exact q2
def KH (X:Gw)(N:Nat)(hN:N=X.length)(hN2:N<=1000)(W:Gw)(L:Nat)(hL:L=W.length){a m b:Nat}(h1:a<m)(h2:m<b)(h3:b<=N):RtH W L N X a m b (v6 X a m b):=⟨λ Y x y z hY hx hy hz=>by
 subst hY hx hy hz;exact OW Y N hN hN2 W L hL a m b h1 h2 h3 _ rfl⟩
def xS (W:Gw)(L:Nat)(hL:L=W.length)(N:Nat)(hN2:N<=1000):∀(f:Nat) (X:Gw),N=X.length->bH L X->∀(a m b:Nat),a<m->m<b->b<=N->b-a<=f->S1 197 [.ref 0 0 0 N 1,nD a,nD m,nD b,.fn (.func 175) [] [.ptr 1 1 0]] [⟨X.map nD, 3,Ga⟩,⟨[.sl Gd L 1 (W.map nD)], 152,Gd⟩] (.tup []) [⟨(i5 W f X a m b).map nD, 3,Ga⟩,⟨[.sl Gd L 1 (W.map nD)], 152,Gd⟩]
 |0,X,hN,hA,a,m,b,h1,h2,h3,hf=>by omega
 |f+1,X,hN,hA,a,m,b,h1,h2,h3,hf=>by
  rw[i5]
  by_cases c1:m=a+1
  ·rw[ZF c1]
   exact TK X N hN hN2 W L hL hA a m b h1 h2 h3 c1 _ rfl (oF _ _ _ om)
  ·rw[ZE c1]
   by_cases c2:b=m+1
   ·rw[ZF c2]
    exact TL X N hN hN2 W L hL hA a m b h1 h2 h3 c1 c2 _ rfl (oF _ _ _ om)
   ·rw[ZE c2]
    have hs:=v7 h1 h2;have hi:jz a m b<=ea W X a m b/\ea W X a m b<=i4 a m b:=oF _ _ _ hs.1;have q1:(du X m (ea W X a m b) ((a+b)/2+m-ea W X a m b)).Perm X:=qo om;refine TM X N hN hN2 W L hL hA a m b h1 h2 h3 c1 c2 (du X m (ea W X a m b) ((a+b)/2+m-ea W X a m b)) (if a<ea W X a m b/\ea W X a m b<(a+b)/2 then i5 W f (du X m (ea W X a m b) ((a+b)/2+m-ea W X a m b)) a (ea W X a m b) ((a+b)/2)else du X m (ea W X a m b) ((a+b)/2+m-ea W X a m b)) _ ((a+b)/2) ((a+b)/2+m) (ea W X a m b) ((a+b)/2+m-ea W X a m b) rfl rfl (jz a m b) (i4 a m b) ⟨hs.1,hs.2.1,hs.2.2.1,hs.2.2.2⟩ rfl hi rfl ?_;have q2:(if a<ea W X a m b/\ea W X a m b<(a+b)/2 then i5 W f (du X m (ea W X a m b) ((a+b)/2+m-ea W X a m b)) a (ea W X a m b) ((a+b)/2)else du X m (ea W X a m b) ((a+b)/2+m-ea W X a m b)).Perm X:=by
     split
     ·next q=>exact(fN f _ _ _ _ q.1 q.2 (by rw[q1.length_eq];omega)).trans q1
     ·exact q1
    have e3:(a+b)/2<m->jz a m b=(a+b)/2+m-b/\i4 a m b=(a+b)/2:=λ q=>⟨ZF q,ZF q⟩
    have e4:m<=(a+b)/2->jz a m b=a/\i4 a m b=m:=λ q=>⟨ZE om,ZE om⟩
    generalize ea W X a m b=st at *;generalize jz a m b=s0 at *;generalize i4 a m b=r0 at *;refine⟨λ a1 a2=>?_,λ a1=>?_,λ a1 a2=>?_,λ a1=>?_,λ a1 a2=>?_,λ a1=>?_,e3,e4⟩
    ·unfold du;rw[ZF ⟨a1,a2⟩];exact KH X N hN hN2 W L hL a1 a2 om
    ·unfold du;rw[ZE (λ q=>a1 q.1 q.2)]
    ·rw[ZF ⟨a1,a2⟩]
     refine⟨λ Y x y z hY hx hy hz=>?_⟩;subst hY hx hy hz;exact xS W L hL N hN2 f _ (by rw[q1.length_eq];exact hN) (hA.perm q1) _ _ _ a1 a2 om om
    ·rw[ZE (λ q=>a1 q.1 q.2)]
    ·dsimp only
     generalize(if a<st/\st<(a+b)/2 then i5 W f (du X m st ((a+b)/2+m-st)) a st ((a+b)/2)else du X m st ((a+b)/2+m-st))=X2 at *;rw[ZF ⟨a1,a2⟩];refine⟨λ Y x y z hY hx hy hz=>?_⟩;subst hY hx hy hz;exact xS W L hL N hN2 f _ (by rw[q2.length_eq];exact hN) (hA.perm q2) _ _ _ a1 a2 om om
    ·dsimp only
     generalize(if a<st/\st<(a+b)/2 then i5 W f (du X m st ((a+b)/2+m-st)) a st ((a+b)/2)else du X m st ((a+b)/2+m-st))=X2 at *;rw[ZE (λ q=>a1 q.1 q.2)]
def xT (W:Gw)(n:Nat):Nat->Nat->Gw->Gw
 |0,a,Y=>inQ W Y a (n-(a+1))
 |f+1,a,Y=>if a+20<=n then xT W n f (a+20) (inQ W Y a 19)else inQ W Y a (n-(a+1))
def TN {W:Gw}{n f a:Nat}{Y T:Gw}(hR:xT W n f a Y=T)(hf:n-a<=f)(h:a+20<=n):xT W n (f-1) (a+20) (inQ W Y a (a+20-(a+1)))=T:=by
 obtain⟨g,rfl⟩:∃g,f=g+1:=⟨f-1,by omega⟩
 rw[<-hR,show a+20-(a+1)=19 from by omega];exact(ZF h).symm
def TO {W:Gw}{n f a:Nat}{Y T:Gw}(hR:xT W n f a Y=T)(h:¬a+20<=n):inQ W Y a (n-(a+1))=T:=by
 rw[<-hR];cases f with
 |zero=>rfl
 |succ f=>exact(ZE h).symm
def px (W:Gw)(z n:Nat):Nat->Nat->Gw->Gw
 |0,a,Y=>if a+z<n then i5 W (2*z) Y a (a+z) n else Y
 |f+1,a,Y=>if a+2*z<=n then px W z n f (a+2*z) (i5 W (2*z) Y a (a+z) (a+2*z))else if a+z<n then i5 W (2*z) Y a (a+z) n else Y
def TP {W:Gw}{z n f a:Nat}{Y T:Gw}(hR:px W z n f a Y=T)(hf:n-a<=f)(hz:0<z)(h:a+2*z<=n):px W z n (f-1) (a+2*z) (i5 W (2*z) Y a (a+z) (a+2*z))=T:=by
 obtain⟨g,rfl⟩:∃g,f=g+1:=⟨f-1,by omega⟩
 rw[<-hR];exact(ZF h).symm
def TQ {W:Gw}{z n f a:Nat}{Y T:Gw}(hR:px W z n f a Y=T)(h:¬a+2*z<=n):(if a+z<n then i5 W (2*z) Y a (a+z) n else Y)=T:=by
 rw[<-hR];cases f with
 |zero=>rfl
 |succ f=>exact(ZE h).symm
def xU (W:Gw)(n:Nat):Nat->Nat->Gw->Gw
 |0,_,Y=>Y
 |f+1,z,Y=>if z<n then xU W n f (2*z) (px W z n n 0 Y)else Y
def O1 {W:Gw}{z n f:Nat}{Y T:Gw}(hR:xU W n f z Y=T)(hf:n-z<=f)(h:z<n):xU W n (f-1) (2*z) (px W z n n 0 Y)=T:=by
 obtain⟨g,rfl⟩:∃g,f=g+1:=⟨f-1,by omega⟩
 rw[<-hR];exact(ZF h).symm
def TR {W:Gw}{z n f:Nat}{Y T:Gw}(hR:xU W n f z Y=T)(h:¬z<n):Y=T:=by
 rw[<-hR];cases f with
 |zero=>rfl
 |succ f=>exact(ZE h).symm
def Sn (W X:Gw):Gw:=xU W X.length X.length 20 (xT W X.length X.length 0 X)
def kF {W:Gw}{n:Nat}:∀(f a:Nat) (Y:Gw),n=Y.length->a<=n->(xT W n f a Y).Perm Y
 |0,a,Y,hn,ha=>iZ _ om
 |f+1,a,Y,hn,ha=>by
  rw[xT];split
  ·have q:(inQ W Y a 19).Perm Y:=iZ _ om
   exact(kF f _ _ (by rw[q.length_eq];exact hn) om).trans q
  ·exact iZ _ om
def i6 {W:Gw}{z n:Nat}(hz:0<z):∀(f a:Nat) (Y:Gw),n=Y.length->(px W z n f a Y).Perm Y
 |0,a,Y,hn=>by
  rw[px];split
  ·exact fN _ _ _ _ _ om om om
  ·exact YC _
 |f+1,a,Y,hn=>by
  rw[px];split
  ·have q:(i5 W (2*z) Y a (a+z) (a+2*z)).Perm Y:=fN _ _ _ _ _ om om om
   exact(i6 hz f _ _ (by rw[q.length_eq];exact hn)).trans q
  ·split
   ·exact fN _ _ _ _ _ om om om
   ·exact YC _
def ug {W:Gw}{n:Nat}:∀(f z:Nat) (Y:Gw),0<z->n=Y.length->(xU W n f z Y).Perm Y
 |0,z,Y,hz,hn=>YC _
 |f+1,z,Y,hz,hn=>by
  rw[xU];split
  ·have q:=i6 (W:=W) hz n 0 Y hn
   exact(ug f _ _ om (by rw[q.length_eq];exact hn)).trans q
  ·exact YC _
def uh (W X:Gw):(Sn W X).Perm X:=by
 have q:=kF (W:=W) X.length 0 X rfl (W5 _);exact(ug _ _ _ (by decide) q.length_eq.symm).trans q
structure Ord (L N:Nat)(Y:Gw):Prop where
 n:N=Y.length
 a:bH L Y
def Ord.perm {L N:Nat}{X Y:Gw}(h:Ord L N X)(q:Y.Perm X):Ord L N Y:=⟨by rw[q.length_eq];exact h.n,h.a.perm q⟩
def Ord.in {L N:Nat}{W Y:Gw}{a b:Nat}(h:Ord L N Y)(hb:b<=N):Ord L N (inQ W Y a (b-(a+1))):=h.perm (iZ _ (by have:=h.n;omega))
def Ord.sm {L N:Nat}{W Y:Gw}{f a m b:Nat}(h:Ord L N Y)(h1:a<m)(h2:m<b)(hb:b<=N):Ord L N (i5 W f Y a m b):=h.perm (fN _ _ _ _ _ h1 h2 (by have:=h.n;omega))
def It (Y:Gw)(N:Nat)(hN2:N<=1000)(W:Gw)(L:Nat)(hL:L=W.length)(hO:Ord L N Y)(a b:Nat)(h1:a<=b)(h3:b<=N):S1 196 [.ref 0 0 0 N 1,nD a,nD b,.fn (.func 175) [] [.ptr 1 1 0]] [⟨Y.map nD, 3,Ga⟩,⟨[.sl Gd L 1 (W.map nD)], 152,Gd⟩] (.tup []) [⟨(inQ W Y a (b-(a+1))).map nD, 3,Ga⟩,⟨[.sl Gd L 1 (W.map nD)], 152,Gd⟩]:=OX Y N hO.n hN2 W L hL hO.a a b h1 h3 _ rfl
def O2 (Y:Gw)(N:Nat)(hN2:N<=1000)(W:Gw)(L:Nat)(hL:L=W.length)(hO:Ord L N Y)(z a:Nat)(hz:0<z)(h3:a+2*z<=N):S1 197 [.ref 0 0 0 N 1,nD a,iD ((a:Int)+z),nD (a+2*z),.fn (.func 175) [] [.ptr 1 1 0]] [⟨Y.map nD, 3,Ga⟩,⟨[.sl Gd L 1 (W.map nD)], 152,Gd⟩] (.tup []) [⟨(i5 W (2*z) Y a (a+z) (a+2*z)).map nD, 3,Ga⟩,⟨[.sl Gd L 1 (W.map nD)], 152,Gd⟩]:=
 xS W L hL N hN2 (2*z) Y hO.n hO.a a (a+z) (a+2*z) om om h3 om
def O3 (Y:Gw)(N:Nat)(hN2:N<=1000)(W:Gw)(L:Nat)(hL:L=W.length)(hO:Ord L N Y)(z a:Nat)(hz:0<z)(h:a+z<N)(h3:N<a+2*z):S1 197 [.ref 0 0 0 N 1,nD a,iD ((a:Int)+z),nD N,.fn (.func 175) [] [.ptr 1 1 0]] [⟨Y.map nD, 3,Ga⟩,⟨[.sl Gd L 1 (W.map nD)], 152,Gd⟩] (.tup []) [⟨(i5 W (2*z) Y a (a+z) N).map nD, 3,Ga⟩,⟨[.sl Gd L 1 (W.map nD)], 152,Gd⟩]:=
 xS W L hL N hN2 (2*z) Y hO.n hO.a a (a+z) N om h (Wl _) om
def O4 (X:Gw)(N:Nat)(hN2:N<=1000)(W:Gw)(L:Nat)(hL:L=W.length)(hO:Ord L N X)(T1 T:Gw)(hT1:xT W N N 0 X=T1)(hO1:Ord L N T1)(hT:xU W N N 20 T1=T):S1 190 [.ref 0 0 0 N 1,nD N,.fn (.func 175) [] [.ptr 1 1 0]] [⟨X.map nD, 3,Ga⟩,⟨[.sl Gd L 1 (W.map nD)], 152,Gd⟩] (.tup []) [⟨T.map nD, 3,Ga⟩,⟨[.sl Gd L 1 (W.map nD)], 152,Gd⟩]:=SpR Tryz.func190 rfl rfl rfl ⟨og _,rfl,trivial⟩ rfl 1000 64 (λ R ok=>.s 4<|BY T_ok ae Gd 63 2 (am Tryz.prog 190 0) (λ(x:(a:Nat)×'(Y:Gw)×'(f:Nat)×'(ha:a<=N)×'(hQ:Ord L N Y)×'(hf:N-a<=f)×'(hR:xT W N f a Y=T1)×'Unit)=>match x with|⟨a,Y,f,ha,hQ,hf,hR,_⟩=>Wr [(0,Wb 0 0 0 N 1),(1,zN N),(2,Yd (Xi 175) [] [WA 1 1 0]),(6,zI 20),(7,nD a),(8,nD (a+20))] [⟨0,0,0,0,.b ⟨Y.map nD,3,Ga⟩⟩,⟨1,1,1,1,.b ⟨[Wu Gd L 1 (wo nD W)],152,Gd⟩⟩] 24) (λ(x:(a:Nat)×'(Y:Gw)×'(f:Nat)×'(ha:a<=N)×'(hQ:Ord L N Y)×'(hf:N-a<=f)×'(hR:xT W N f a Y=T1)×'Unit)=>match x with|⟨a,Y,f,ha,hQ,hf,hR,_⟩=>N-a) [⟨(a2:Nat)×'(Y2:Gw)×'(ha2:a2<=N)×'(hQ2:Ord L N Y2)×'(hR2:inQ W Y2 a2 (N-(a2+1))=T1)×'Unit,.exit 0,λ x=>match x with|⟨a2,Y2,ha2,hQ2,hR2,_⟩=>Wr [(0,Wb 0 0 0 N 1),(1,zN N),(2,Yd (Xi 175) [] [WA 1 1 0]),(6,zI 20),(7,nD a2),(8,nD (a2+20))] [⟨0,0,0,0,.b ⟨Y2.map nD,3,Ga⟩⟩,⟨1,1,1,1,.b ⟨[Wu Gd L 1 (wo nD W)],152,Gd⟩⟩] 24⟩] 1000 64 (fun|⟨a,Y,f,ha,hQ,hf,hR,_⟩,Q,ZB,ZD=>.B 4 ((↑(a+20):Int)<=(N:Int)) (λ p0 Z9=>.s 5<|.call 196 Ga [0,1] (Ga) wr ([Wb 0 0 0 N 1,zN a,zN (a+20),Yd (Xi 175) [] [WA 1 1 0]]) _ (dr.refl _) (ab (wo nD Y)&&Ga) (by(simp;done)) _ _ _ (Ws (ap.of Tryz.func196 rfl rfl) (@It (Y) (N) om (W) (L) om om (a) (a+20) om om))<|.W 6 ((↑(a+20):Int)+20)<|.V 1 8 (zI ((↑(a+20):Int)+20)) (zN (a+20+20)) Ex<|Aw ZB ⟨(a+20),(inQ W Y a (a+20-(a+1))),(f-1),om,(by(exact hQ.in (by(omega)))),om,(by(exact TN hR om om)),⟨⟩⟩ (by show N-(a+20)<N-a;clear ZB ZD;omega) [(0,0),(1,1)] ro) (λ p0 Z9=>(BO ZD 0 (⟨(a),(Y),om,om,(by(exact TO hR om)),⟨⟩⟩:(a2:Nat)×'(Y2:Gw)×'(ha2:a2<=N)×'(hQ2:Ord L N Y2)×'(hR2:inQ W Y2 a2 (N-(a2+1))=T1)×'Unit) rfl [(0,0),(1,1)] ro))) (fun|⟨a,Y,f,ha,hQ,hf,hR,_⟩=>by kernel_rfl) ⟨(0),(X),(N),om,om,om,om,⟨⟩⟩ [(0,0),(1,1)] ro (bB (fun|⟨a2,Y2,ha2,hQ2,hR2,_⟩=>.s 5<|.call 196 Ga [0,1] (Ga) wr ([Wb 0 0 0 N 1,zN a2,zN N,Yd (Xi 175) [] [WA 1 1 0]]) _ (dr.refl _) (ab (wo nD Y2)&&Ga) (by(simp;done)) _ _ _ (Ws (ap.of Tryz.func196 rfl rfl) (@It (Y2) (N) om (W) (L) om om (a2) (N) om om))<|.blk 0 0 (V8 (wo nD (inQ W Y2 a2 (N-(a2+1)))) 3 Ga) (V8 (wo nD T1) 3 Ga) (by(rw[hR2]))<|BY T_ok ae Gd 63 2 (am Tryz.prog 190 1) (λ(x:(z:Nat)×'(Z:Gw)×'(f:Nat)×'(hz:20<=z/\z<=2000)×'(hQ:Ord L N Z)×'(hf:N-z<=f)×'(hR:xU W N f z Z=T)×'Unit)=>match x with|⟨z,Z,f,hz,hQ,hf,hR,_⟩=>Wr [(0,Wb 0 0 0 N 1),(1,zN N),(2,Yd (Xi 175) [] [WA 1 1 0]),(6,nD z)] [⟨0,0,0,0,.b ⟨Z.map nD,3,Ga⟩⟩,⟨1,1,1,1,.b ⟨[Wu Gd L 1 (wo nD W)],152,Gd⟩⟩] 24) (λ(x:(z:Nat)×'(Z:Gw)×'(f:Nat)×'(hz:20<=z/\z<=2000)×'(hQ:Ord L N Z)×'(hf:N-z<=f)×'(hR:xU W N f z Z=T)×'Unit)=>match x with|⟨z,Z,f,hz,hQ,hf,hR,_⟩=>N-z) [⟨Unit,.exit 2,λ()=>Wr [(0,Wb 0 0 0 N 1),(1,zN N),(2,Yd (Xi 175) [] [WA 1 1 0])] [⟨0,0,0,0,.b ⟨T.map nD,3,Ga⟩⟩,⟨1,1,1,1,.b ⟨[Wu Gd L 1 (wo nD W)],152,Gd⟩⟩] 24⟩] 1000 64 (fun|⟨z,Z,f,hz,hQ,hf,hR,_⟩,Q,ZB,ZD=>.B 4 ((z:Int)<N) (λ p1 Z8=>.W 3 (2*(z:Int))<|.V 2 8 (zI (2*(z:Int))) (zN (0+2*z)) Ex<|BY T_ok ae Gd 63 2 (am Tryz.prog 190 2) (λ(x:(a:Nat)×'(Y:Gw)×'(g:Nat)×'(ha:a<=N)×'(hQ:Ord L N Y)×'(hf:N-a<=g)×'(hR:px W z N g a Y=px W z N N 0 Z)×'Unit)=>match x with|⟨a,Y,g,ha,hQ,hf,hR,_⟩=>Wr [(0,Wb 0 0 0 N 1),(1,zN N),(2,Yd (Xi 175) [] [WA 1 1 0]),(6,zN z),(7,nD a),(8,nD (a+2*z))] [⟨0,0,0,0,.b ⟨Y.map nD,3,Ga⟩⟩,⟨1,1,1,1,.b ⟨[Wu Gd L 1 (wo nD W)],152,Gd⟩⟩] 24) (λ(x:(a:Nat)×'(Y:Gw)×'(g:Nat)×'(ha:a<=N)×'(hQ:Ord L N Y)×'(hf:N-a<=g)×'(hR:px W z N g a Y=px W z N N 0 Z)×'Unit)=>match x with|⟨a,Y,g,ha,hQ,hf,hR,_⟩=>N-a) [⟨(a3:Nat)×'(Y3:Gw)×'(ha3:a3<=N/\N<a3+2*z)×'(hQ3:Ord L N Y3)×'(hR3:(if a3+z<N then i5 W (2*z) Y3 a3 (a3+z) N else Y3)=px W z N N 0 Z)×'Unit,.exit 4,λ x=>match x with|⟨a3,Y3,ha3,hQ3,hR3,_⟩=>Wr [(0,Wb 0 0 0 N 1),(1,zN N),(2,Yd (Xi 175) [] [WA 1 1 0]),(6,zN z),(7,nD a3),(8,nD (a3+2*z))] [⟨0,0,0,0,.b ⟨Y3.map nD,3,Ga⟩⟩,⟨1,1,1,1,.b ⟨[Wu Gd L 1 (wo nD W)],152,Gd⟩⟩] 24⟩] 1000 64 (fun|⟨a,Y,g,ha,hQ,hf,hR,_⟩,Q,ZA,ZC=>.B 4 ((↑(a+2*z):Int)<=(N:Int)) (λ p2 Z7=>.W 6 (a+z)<|.s 3<|.call 197 Ga [0,1] (Ga) wr ([Wb 0 0 0 N 1,zN a,zI (a+z),zN (a+2*z),Yd (Xi 175) [] [WA 1 1 0]]) _ (dr.refl _) (ab (wo nD Y)&&Ga) (by(simp;done)) _ _ _ (Ws (ap.of Tryz.func197 rfl rfl) (@O2 (Y) (N) om (W) (L) om om (z) (a) om om))<|.W 6 (2*(z:Int))<|.W 2 ((↑(a+2*z):Int)+2*(z:Int))<|.V 1 8 (zI ((↑(a+2*z):Int)+2*(z:Int))) (zN (a+2*z+2*z)) Ex<|Aw ZA ⟨(a+2*z),(i5 W (2*z) Y a (a+z) (a+2*z)),(g-1),om,(by(exact hQ.sm (by(omega)) (by(omega)) (by(omega)))),om,(by(exact TP hR om om om)),⟨⟩⟩ (by show N-(a+2*z)<N-a;clear ZA ZC ZB ZD;omega) [(0,0),(1,1)] ro) (λ p2 Z7=>(BO ZC 0 (⟨(a),(Y),om,om,(by(exact TQ hR om)),⟨⟩⟩:(a3:Nat)×'(Y3:Gw)×'(ha3:a3<=N/\N<a3+2*z)×'(hQ3:Ord L N Y3)×'(hR3:(if a3+z<N then i5 W (2*z) Y3 a3 (a3+z) N else Y3)=px W z N N 0 Z)×'Unit) rfl [(0,0),(1,1)] ro))) (fun|⟨a,Y,g,ha,hQ,hf,hR,_⟩=>by kernel_rfl) ⟨(0),(Z),(N),om,om,om,wr,⟨⟩⟩ [(0,0),(1,1)] ro (bB (fun|⟨a3,Y3,ha3,hQ3,hR3,_⟩=>.W 4 (a3+z)<|.B 5 ((a3:Int)+z<N) (λ p3 Z6=>.s 6<|.call 197 Ga [0,1] (Ga) wr ([Wb 0 0 0 N 1,zN a3,zI (a3+z),zN N,Yd (Xi 175) [] [WA 1 1 0]]) _ (dr.refl _) (ab (wo nD Y3)&&Ga) (by(simp;done)) _ _ _ (Ws (ap.of Tryz.func197 rfl rfl) (@O3 (Y3) (N) om (W) (L) om om (z) (a3) om om om))<|.W 3 (z*2)<|.V 1 6 (zI (z*2)) (zN (2*z)) Ex<|.blk 0 0 (V8 (wo nD (i5 W (2*z) Y3 a3 (a3+z) N)) 3 Ga) (V8 (wo nD (px W z N N 0 Z)) 3 Ga) (by(rw[ZF om]at hR3;rw[hR3]))<|Aw ZB ⟨(2*z),(px W z N N 0 Z),(f-1),om,(by(exact hQ.perm (i6 om _ _ _ hQ.n))),om,(by(exact O1 hR om om)),⟨⟩⟩ (by show N-2*z<N-z;clear ZB ZD;omega) [(0,0),(1,1)] ro) (λ p3 Z6=>.W 3 (z*2)<|.V 1 6 (zI (z*2)) (zN (2*z)) Ex<|.blk 0 0 (V8 (wo nD Y3) 3 Ga) (V8 (wo nD (px W z N N 0 Z)) 3 Ga) (by(rw[ZE om]at hR3;rw[hR3]))<|Aw ZB ⟨(2*z),(px W z N N 0 Z),(f-1),om,(by(exact hQ.perm (i6 om _ _ _ hQ.n))),om,(by(exact O1 hR om om)),⟨⟩⟩ (by show N-2*z<N-z;clear ZB ZD;omega) [(0,0),(1,1)] ro)))) (λ p1 Z8=>.blk 0 0 (V8 (wo nD Z) 3 Ga) (V8 (wo nD T) 3 Ga) (by(rw[TR hR om]))<|BO ZD 0 (():Unit) rfl [(0,0),(1,1)] ro)) (fun|⟨z,Z,f,hz,hQ,hf,hR,_⟩=>by kernel_rfl) ⟨(20),(T1),(N),om,om,om,om,⟨⟩⟩ [(0,0),(1,1)] ro (bB (fun|()=>.out [0,1] [0,1] (Xm []) [V8 (wo nD T) 3 Ga,V8 [Wu Gd L 1 (wo nD W)] 152 Gd] R (ok _ _ wr wr)))))) kr
def BZ(h:p:=by(simp only[bg (k:=2) (λ(x:Pc)=>(rfl:(dk x).length=2)),Xk,WM,WV];refine We ?_;(omega))):=h
def B0(h:p:=by(rw[Wc];rfl)):=h
def B1(h:p:=by(rw[Wc];simp only[W7];(omega))):=h
def FG(h:p:=by(have q:=@T7 row i;refine aF ?_;omega)):=h
def eU (W:Gw)(k:Nat):Gw:=lk W ((Xp k).filter λ i=>Ao (0<W.getD i lb))
def fO (W:Gw)(k:Nat):eU W k=(Xp k).filter λ i=>Ao (0<W.getD i lb):=aM _ _
def B3 (W:Gw):eU W 0=[]:=fO W 0
def B4 {W:Gw}{k:Nat}(h:0<W.getD (k*1) lb):eU W (k+1)=eU W k++[k]:=by
 rw[Wx]at h;rw[fO,fO,Y0,XT,Yv (by simpa using h)];rfl
def B5 {W:Gw}{k:Nat}(h:¬0<W.getD (k*1) lb):eU W (k+1)=eU W k:=by
 rw[Wx]at h;rw[fO,fO,Y0,XT,Yw (by simpa using h),List.filter_nil,Xn]
def jW (W:Gw)(k:Nat):(eU W k).length<=k:=by
 rw[fO];exact Ww (Y5 _ _) (by simp)
def oG {W:Gw}{k:Nat}:bH k (eU W k):=λ x hx=>by
 rw[fO,List.mem_filter]at hx;exact List.mem_range.1 hx.1
def cG (W:Gw):Gw:=lk W (Sn W (eU W W.length))
def v9 (W:Gw):cG W=Sn W (eU W W.length):=aM _ _
def dj (W:Gw):(cG W).Perm (eU W W.length):=by rw[v9];exact uh _ _
structure SrE (W:Gw)(L N:Nat)(X T1 T:Gw):Prop where
 o:Ord L N X
 t1:xT W N N 0 X=T1
 o1:Ord L N T1
 t:xU W N N 20 T1=T
def KI {W:Gw}{L N:Nat}(hL:L=W.length){X:Gw}(hX:X=eU W L)(hN:N=X.length):∃T1,SrE W L N X T1 (cG W):=by
 subst hX hN hL;have o:Ord W.length (eU W W.length).length (eU W W.length):=⟨rfl,oG⟩
 exact⟨_,o,rfl,o.perm (kF _ _ _ rfl (W5 _)),by rw[v9];rfl⟩
def TS {m:Nat}(h:m<=15):IntKind.i64.wrap (2^min m 64*1)=((2^m:Nat):Int):=by
 have h2:2^m<=2^15:=Xh (by decide) h;rw[show min m 64=m from by omega,Int.mul_one,show(2:Int)^m=((2^m:Nat):Int)from by push_cast;rfl];generalize 2^m=Z at *;have q:=fv (x:=((Z:Nat):Int)) om;rw[aD]at q;injection q with q;injection q with q;injection q
structure Pc where
 w:Nat
 p:Bool
 deriving Inhabited
abbrev eD:=List Pc
abbrev dk (x:Pc):GA:=[nD x.w,bD x.p]
def f8 (ws:Gw):eD:=ws.map λ w=>⟨w,Gd⟩
def eV (s:Nat):Gw->eD×Gw
 |[]=>([⟨s,Ga⟩],[])
 |w::r=>if s<w then([⟨s,Ga⟩],w::r)else(⟨w,Gd⟩::(eV s r).1,(eV s r).2)
def fP:eD->Gw->eD
 |x::y::r,ws=>(eV (x.w+y.w) ws).1++fP r (eV (x.w+y.w) ws).2
 |_,ws=>f8 ws
def KJ (row:eD)(ws:Gw):eD:=lk ws (fP row ws)
def fQ (row:eD)(ws:Gw):KJ row ws=fP row ws:=aM _ _
def TU {row:eD}{ws:Gw}{i:Nat}(h:i+1<row.length):fP (row.drop i) ws=(eV ((row.getD i lb).w+(row.getD (i+1) lb).w) ws).1++fP (row.drop (i+2)) (eV ((row.getD i lb).w+(row.getD (i+1) lb).w) ws).2:=by
 rw[X3 (show i<row.length by omega),X3 h,fP];have e1:row[i]=row.getD i lb:=by rw[Wd,Wa om];rfl
 have e2:row[i+1]=row.getD (i+1) lb:=by rw[Wd,Wa h];rfl
 rw[e1,e2]
def TV {row:eD}{ws:Gw}{i:Nat}(h:¬i+1<row.length):fP (row.drop i) ws=f8 ws:=by
 have:(row.drop i).length<=1:=by rw[Wy];omega
 match hm:row.drop i,this with
 |[],_=>rfl
 |[x],_=>rfl
def TW {s:Nat}{ws:Gw}{k:Nat}(hk:k<ws.length)(h:s<ws.getD k lb):eV s (ws.drop k)=([⟨s,Ga⟩],ws.drop k):=by
 have e1:ws[k]=ws.getD k lb:=by rw[Wd,Wa hk];rfl
 rw[X3 hk,eV,ZF (by rw[e1];exact h)]
def TY {s:Nat}{ws:Gw}{k:Nat}(hk:k<ws.length)(h:¬s<ws.getD k lb):eV s (ws.drop k)=(⟨ws.getD k lb,Gd⟩::(eV s (ws.drop (k+1))).1,(eV s (ws.drop (k+1))).2):=by
 have e1:ws[k]=ws.getD k lb:=by rw[Wd,Wa hk];rfl
 conv=>lhs;rw[X3 hk,eV,ZE (by rw[e1];exact h),e1]
def TZ {s:Nat}{ws:Gw}{k:Nat}(hk:¬k<ws.length):eV s (ws.drop k)=([⟨s,Ga⟩],[]):=by
 rw[Xv om];rfl
section
variable {row o T:List Pc} {ws:List Nat} {i k s x:Nat}
def T0 (h:i+1<row.length)(hR:o++fP (row.drop i) (ws.drop k)=T):o++((eV ((row.getD i lb).w+(row.getD (i+1) lb).w) (ws.drop k)).1++fP (row.drop (i+2)) (eV ((row.getD i lb).w+(row.getD (i+1) lb).w) (ws.drop k)).2)=T:=by rw[<-hR,TU h]
def T3 (hk:k<ws.length)(h:s<ws.getD k lb)(hR:o++((eV s (ws.drop k)).1++fP (row.drop (i+2)) (eV s (ws.drop k)).2)=T):(o++[⟨s,Ga⟩])++fP (row.drop (i+2)) (ws.drop k)=T:=by
 rw[<-hR,TW hk h,WI]
def T4 (hk:k<ws.length)(h:¬s<ws.getD k lb)(hR:o++((eV s (ws.drop k)).1++fP (row.drop (i+2)) (eV s (ws.drop k)).2)=T):(o++[⟨ws.getD k lb,Gd⟩])++((eV s (ws.drop (k+1))).1++fP (row.drop (i+2)) (eV s (ws.drop (k+1))).2)=T:=by
 rw[<-hR,TY hk h,WI];rfl
def T5 (hk:¬k<ws.length)(hR:o++((eV s (ws.drop k)).1++fP (row.drop (i+2)) (eV s (ws.drop k)).2)=T):(o++[⟨s,Ga⟩])++fP (row.drop (i+2)) (ws.drop k)=T:=by
 rw[<-hR,TZ hk,show ws.drop k=[]from Xv om,WI]
def T6 (h:¬i+1<row.length)(hR:o++fP (row.drop i) (ws.drop k)=T):o++f8 (ws.drop k)=T:=by rw[<-hR,TV h]
def O5 (hk:k<ws.length)(hR:o++f8 (ws.drop k)=T):(o++[⟨ws.getD k lb,Gd⟩])++f8 (ws.drop (k+1))=T:=by
 have e1:ws[k]=ws.getD k lb:=by rw[Wd,Wa hk];rfl
 rw[<-hR,X3 hk,WI,e1];rfl
def FH (hk:¬k<ws.length)(hR:o++f8 (ws.drop k)=T):o=T:=by
 rw[<-hR,Xv om];exact(Xn _).symm
end
def FI (W:Gw)(L:Nat)(hL:L=W.length)(hL2:L<=320)(hB:∀t,W.getD t lb<=1073741824)(m:Nat)(hm:1<=m/\m<=15)(N:Nat)(hN:N=(eU W L).length)(X T1:Gw)(hX:eU W L=X)(hS:SrE W L N X T1 (cG W))(hNm:N<=2^m)(o:Ord L N X)(t1:xT W N N 0 X=T1)(o1:Ord L N T1)(t:xU W N N 20 T1=cG W):S0 144 [.sl Gd L 1 (W.map nD),nD m] [] (.tup [.ref 0 0 0 N 1,iD 0]) [⟨(cG W).map nD, 3,Ga⟩]:=by
 have hP:=TS hm.2;have hN3:N<=320:=by rw[hN];exact Ww (jW W L) hL2
 refine SpR Tryz.func144 rfl rfl rfl ⟨rh _ (λ _=>rfl) _,trivial⟩ rfl 1000 64 (λ R ok=>.F 9 (Ao ((m:Int)<1)) rC<|.F 4 (Ao (15<(m:Int))) rC<|.F 6 (Ao (320<(L:Int))) rC<|.s 5<|.nils 4 120 1 3<|.val 4 (Wb 120 120 0 0 1) (Wb 120 120 0 (v0 (eU W 0)) 1) (by(rw[B3];rfl))<|.blk 120 120 (V8 [] 3 Ga) (V8 (wo nD (eU W 0)) 3 Ga) (by(rw[B3];rfl))<|BY T_ok ae Gd 46 0 (am Tryz.prog 144 0) (λ(x:(k:Nat)×'(hk:k<=L)×'Unit)=>match x with|⟨k,hk,_⟩=>Wr [(1,zN m),(2,WA 0 0 0),(4,(Wb 8 8 (0) ((eU W k).length) 1)),(17,Wu Gd L 1 (wo nD W)),(18,zN L),(19,nD k)] [⟨0,0,0,0,.b ⟨[Wu Gd L 1 (wo nD W)],152,Gd⟩⟩,⟨8,8,120,120,.b ⟨(eU W k).map nD,3,Ga⟩⟩] 16) (λ(x:(k:Nat)×'(hk:k<=L)×'Unit)=>match x with|⟨k,hk,_⟩=>L-k) [⟨Unit,.exit 0,λ()=>Wr [(1,zN m),(2,WA 0 0 0),(4,(Wb 8 8 (0) (N) 1)),(17,Wu Gd L 1 (wo nD W)),(18,zN L)] [⟨0,0,0,0,.b ⟨[Wu Gd L 1 (wo nD W)],152,Gd⟩⟩,⟨8,8,120,120,.b ⟨X.map nD,3,Ga⟩⟩] 16⟩] 1000 64 (fun|⟨k,hk,_⟩,Q,ZB,ZD=>.B 2 ((k:Int)<L) (λ p0 Z9=>.K 2 (Ga&&Ao ((k:Int)<L)&&Ga) Ki<|.O 2 ((wo nD W)[k*1]?) (nD (wm W (k*1) lb)) (aj _ _ om)<|.F 12 (Ao (1073741824<(↑(wm W (k*1) lb):Int))) (by(refine decide_eq_false ?_;have h9:=hB (k*1);have h8:=jW W k;omega))<|.B 3 (0<(↑(wm W (k*1) lb):Int)) (λ p1 Z8=>.K 5 (Ga&&V9 (v0 (eU W k)*1) (v0 (wo nD (eU W k)))&&Ga&&Ga&&Ga&&Ga&&Wf ((v0 (eU W k)+1)*8) 140737488355328) (by(simp;have h9:=hB (k*1);have h8:=jW W k;omega))<|.W 3 (k+1)<|.V 1 4 (Wb 152 152 0 (v0 (eU W k)+1) 1) (Wb 152 152 0 (v0 (eU W (k+1))) 1) (by(rw[B4 (by(omega)),Wc];rfl))<|.val 19 (zI (k+1)) (zN (k+1)) Ex<|.blk 152 152 (V8 (wo nD (eU W k)++[zN k]) 3 Ga) (V8 (wo nD (eU W (k+1))) 3 Ga) (by(rw[B4 (by(omega)),W4];rfl))<|Aw ZB ⟨(k+1),om,⟨⟩⟩ (by show L-(k+1)<L-k;clear ZB ZD;omega) [(0,0),(152,152)] ro) (λ p1 Z8=>.W 2 (k+1)<|.V 1 4 (Wb 8 8 0 (v0 (eU W k)) 1) (Wb 8 8 0 (v0 (eU W (k+1))) 1) (by(rw[B5 (by(omega))]))<|.val 19 (zI (k+1)) (zN (k+1)) Ex<|.blk 8 8 (V8 (wo nD (eU W k)) 3 Ga) (V8 (wo nD (eU W (k+1))) 3 Ga) (by(rw[B5 (by(omega))]))<|Aw ZB ⟨(k+1),om,⟨⟩⟩ (by show L-(k+1)<L-k;clear ZB ZD;omega) [(0,0),(8,8)] ro)) (λ p0 Z9=>.val 4 (Wb 8 8 0 (v0 (eU W k)) 1) (Wb 8 8 0 N 1) (by(rw[show k=L from by omega,hX,o.n]))<|.blk 8 8 (V8 (wo nD (eU W k)) 3 Ga) (V8 (wo nD X) 3 Ga) (by(rw[show k=L from by omega,hX]))<|BO ZD 0 (():Unit) rfl [(0,0),(8,8)] ro)) (fun|⟨k,hk,_⟩=>by kernel_rfl) ⟨(0),om,⟨⟩⟩ [(0,0),(120,120)] ro (bB (fun|()=>.O 5 (au .i64 (2^min m 64*1)) (zI (Wo Wv (2^min m 64*1))) (aD _ _)<|.F 2 (Ao (Wo Wv (2^min m 64*1)<(N:Int))) rC<|.s 9<|.call 190 Ga [8,0] (Ga) wr ([Wb 0 0 0 N 1,zN N,Yd (Xi 175) [] [WA 1 1 0]]) _ (dr.refl _) (ab (wo nD X)&&Ga) (by(simp;done)) _ _ _ (Ws (ap.of Tryz.func190 rfl rfl) (@O4 (X) (N) om (W) (L) om om (T1) (cG W) aG om aG))<|.Y 3 [8] [8] (Xm [Wb 0 0 0 N 1,zI 0]) [V8 (wo nD (cG W)) 3 Ga] ok))) kr
def O6 {o:eD}{x:Pc}:(o++[x]).flatMap dk=o.flatMap dk++[nD x.w,bD x.p]:=by rw[Xj];rfl
def O7 {row:eD}{B:Nat}(h:∀x∈row,x.w<=B){i:Nat}(hi:i<row.length):(row.getD i lb).w<=B:=by
 rw[Wd,Wa hi];exact h _ (Xf hi)
def sP (row:eD)(i:Nat):Nat:=lk row ((row.getD i lb).w+(row.getD (i+1) lb).w)
def B6 (ws:Gw){k j:Nat}(h:k+j<ws.length):(WT (k*1) (ws.map nD))[j*1]? =Ge (nD (ws.getD (k+j) lb)):=by
 rw[Wx,Wx,List.getElem?_drop,WB,Wd,Wa h];rfl
def Iu (row:eD)(i:Nat):sP row i=(row.getD i lb).w+(row.getD (i+1) lb).w:=aM _ _
def T7 {row:eD}{i:Nat}:((sP row i:Nat):Int)=((row.getD i lb).w:Int)+((row.getD ((i:Int)+1).toNat lb).w:Int):=by rw[Iu,show((i:Int)+1).toNat=i+1 from by omega];push_cast;rfl
section
variable {row o T:List Pc} {ws:List Nat} {i k:Nat}
def O8 (h:i+1<row.length)(hR:o++fP (row.drop i) (ws.drop k)=T):o++((eV (sP row i) (ws.drop k)).1++fP (row.drop (i+2)) (eV (sP row i) (ws.drop k)).2)=T:=by rw[Iu];exact T0 h hR
end
def O9 (row:eD)(r:Nat)(hr:r=row.length)(hr2:r<=1000)(B:Nat)(hB2:B<=1000000000000000)(hB:∀x∈row,x.w<=B)(ws:Gw)(n:Nat)(hn:n=ws.length)(hn2:n<=1000)(T:eD)(hT:KJ row ws=T):S0 145 [.sl Gd r 2 (row.flatMap dk),.sl Gd n 1 (ws.map nD)] [] (.ref 0 0 0 T.length 2) [⟨T.flatMap dk, 231,Ga⟩]:=SpR Tryz.func145 rfl rfl rfl ⟨cV (λ _=>rfl) _,trivial⟩ rfl 1000 64 (λ R ok=>.s 3<|.nils 4 24 2 231<|BY T_ok ae Gd 74 0 (am Tryz.prog 145 0) (λ(x:(i:Nat)×'(k:Nat)×'(o:eD)×'(hi:i<=r+1)×'(hk:k<=n)×'(ho:o.length<=i+k)×'(hR:o++fP (row.drop i) (ws.drop k)=T)×'Unit)=>match x with|⟨i,k,o,hi,hk,ho,hR,_⟩=>Wr [(0,Wu Gd r 2 (v8 dk row)),(1,Wu Gd n 1 (wo nD ws)),(4,(Wb 0 0 (0) (o.length) 2)),(5,nD k),(6,nD i)] [⟨0,0,24,24,.b ⟨o.flatMap dk,231,Ga⟩⟩] 8) (λ(x:(i:Nat)×'(k:Nat)×'(o:eD)×'(hi:i<=r+1)×'(hk:k<=n)×'(ho:o.length<=i+k)×'(hR:o++fP (row.drop i) (ws.drop k)=T)×'Unit)=>match x with|⟨i,k,o,hi,hk,ho,hR,_⟩=>r+1-i) [⟨(k3:Nat)×'(o3:eD)×'(hk3:k3<=n)×'(ho3:o3.length<=3000)×'(hR3:o3++f8 (ws.drop k3)=T)×'Unit,.exit 0,λ x=>match x with|⟨k3,o3,hk3,ho3,hR3,_⟩=>Wr [(0,Wu Gd r 2 (v8 dk row)),(1,Wu Gd n 1 (wo nD ws)),(4,(Wb 0 0 (0) (o3.length) 2)),(5,nD k3)] [⟨0,0,24,24,.b ⟨o3.flatMap dk,231,Ga⟩⟩] 8⟩] 1000 64 (fun|⟨i,k,o,hi,hk,ho,hR,_⟩,Q,ZB,ZD=>.W 3 (i+1)<|.B 4 ((i:Int)+1<r) (λ p0 Z9=>.K 4 (Ga&&Ao ((i:Int)<r)&&Ga) Ki<|.O 5 ((v8 dk row)[i*2+0]?) (zN (Pc.w (wm row i lb))) (cR (k:=2) (i:=i) (j:=0) (λ _=>rfl) om om rfl)<|.W 4 (i+1)<|.K 1 (Ga&&Ao ((i:Int)+1<r)&&Ga) Ki<|.O 5 ((v8 dk row)[zL ((i:Int)+1)*2+0]?) (zN (Pc.w (wm row (zL ((i:Int)+1)) lb))) (cR (k:=2) (i:=zL ((i:Int)+1)) (j:=0) (λ _=>rfl) om om rfl)<|.I 2 ((↑(Pc.w (wm row i lb)):Int)+(↑(Pc.w (wm row (zL ((i:Int)+1)) lb)):Int)) (by(have h9:=O7 hB (i:=i) om;have h8:=O7 hB (i:=((i:Int)+1).toNat) om;omega))<|.V 1 7 (zI ((↑(Pc.w (wm row i lb)):Int)+(↑(Pc.w (wm row (zL ((i:Int)+1)) lb)):Int))) (zN (sP row i)) FG<|BY T_ok ae Gd 74 0 (am Tryz.prog 145 1) (λ(x:(k1:Nat)×'(o1:eD)×'(hk1:k1<=n)×'(ho1:o1.length<=i+k1)×'(hR1:o1++((eV (sP row i) (ws.drop k1)).1++fP (row.drop (i+2)) (eV (sP row i) (ws.drop k1)).2)=T)×'Unit)=>match x with|⟨k1,o1,hk1,ho1,hR1,_⟩=>Wr [(0,Wu Gd r 2 (v8 dk row)),(1,Wu Gd n 1 (wo nD ws)),(4,(Wb 0 0 (0) (o1.length) 2)),(5,nD k1),(6,zN i),(7,nD (sP row i))] [⟨0,0,0,0,.b ⟨o1.flatMap dk,231,Ga⟩⟩] 8) (λ(x:(k1:Nat)×'(o1:eD)×'(hk1:k1<=n)×'(ho1:o1.length<=i+k1)×'(hR1:o1++((eV (sP row i) (ws.drop k1)).1++fP (row.drop (i+2)) (eV (sP row i) (ws.drop k1)).2)=T)×'Unit)=>match x with|⟨k1,o1,hk1,ho1,hR1,_⟩=>n-k1) [⟨(k2:Nat)×'(o2:eD)×'(hk2:k2<=n)×'(ho2:o2.length<=i+2+k2)×'(hR2:o2++fP (row.drop (i+2)) (ws.drop k2)=T)×'Unit,.exit 1,λ x=>match x with|⟨k2,o2,hk2,ho2,hR2,_⟩=>Wr [(0,Wu Gd r 2 (v8 dk row)),(1,Wu Gd n 1 (wo nD ws)),(4,(Wb 0 0 (0) (o2.length) 2)),(5,nD k2),(6,zN i)] [⟨0,0,0,0,.b ⟨o2.flatMap dk,231,Ga⟩⟩] 8⟩,⟨(k4:Nat)×'(o4:eD)×'(hk4:k4<=n/\n<=k4)×'(ho4:o4.length<=i+k4)×'(hR4:o4++((eV (sP row i) (ws.drop k4)).1++fP (row.drop (i+2)) (eV (sP row i) (ws.drop k4)).2)=T)×'Unit,.exit 2,λ x=>match x with|⟨k4,o4,hk4,ho4,hR4,_⟩=>Wr [(0,Wu Gd r 2 (v8 dk row)),(1,Wu Gd n 1 (wo nD ws)),(4,(Wb 0 0 (0) (o4.length) 2)),(5,nD k4),(6,zN i),(7,nD (sP row i))] [⟨0,0,0,0,.b ⟨o4.flatMap dk,231,Ga⟩⟩] 8⟩] 1000 64 (fun|⟨k1,o1,hk1,ho1,hR1,_⟩,Q,ZA,ZC=>.B 5 ((k1:Int)<n) (λ p1 Z8=>.K 3 (Ga&&Ao ((k1:Int)<n)&&Ga) Ki<|.O 2 ((wo nD ws)[k1*1]?) (nD (wm ws (k1*1) lb)) (aj _ _ om)<|.B 3 ((↑(sP row i):Int)<(↑(wm ws (k1*1) lb):Int)) (λ p2 Z7=>.K 7 (Ga&&V9 (v0 o1*2) (v0 (v8 dk o1))&&Ga&&Ga&&Ga&&Ga&&Wf ((v0 o1+1)*16) 140737488355328) BZ<|.V 1 4 (Wb 120 120 0 (v0 o1+1) 2) (Wb 120 120 0 (v0 (o1++[Pc.mk (sP row i) Ga])) 2) B0<|.blk 120 120 (V8 (v8 dk o1++[zN (sP row i),D.v (.bool Ga)]) 231 Ga) (V8 (v8 dk (o1++[Pc.mk (sP row i) Ga])) 231 Ga) (by(simp;done))<|BO ZC 0 (⟨(k1),(o1++[⟨sP row i,Ga⟩]),om,B1,(by(simp only[Wx]at *;exact T3 om om hR1)),⟨⟩⟩:(k2:Nat)×'(o2:eD)×'(hk2:k2<=n)×'(ho2:o2.length<=i+2+k2)×'(hR2:o2++fP (row.drop (i+2)) (ws.drop k2)=T)×'Unit) rfl [(120,120)] ro) (λ p2 Z7=>.K 4 (Ga&&Ao ((k1:Int)<n)&&Ga) Ki<|.O 2 ((wo nD ws)[k1*1]?) (nD (wm ws (k1*1) lb)) (aj _ _ om)<|.K 5 (Ga&&V9 (v0 o1*2) (v0 (v8 dk o1))&&Ga&&Ga&&Ga&&Ga&&Wf ((v0 o1+1)*16) 140737488355328) BZ<|.W 4 (k1+1)<|.V 1 4 (Wb 144 144 0 (v0 o1+1) 2) (Wb 144 144 0 (v0 (o1++[Pc.mk (wm ws k1 lb) Gd])) 2) B0<|.val 5 (zI (k1+1)) (zN (k1+1)) FG<|.blk 144 144 (V8 (v8 dk o1++[zN (wm ws (k1*1) lb),D.v (.bool Gd)]) 231 Ga) (V8 (v8 dk (o1++[Pc.mk (wm ws k1 lb) Gd])) 231 Ga) (by(refine aq ?_;rw[O6];simp only[Wx]))<|Aw ZA ⟨(k1+1),(o1++[⟨ws.getD k1 lb,Gd⟩]),om,B1,(by(simp only[Wx]at *;exact T4 om om hR1)),⟨⟩⟩ (by show n-(k1+1)<n-k1;clear ZA ZC ZB ZD;omega) [(144,144)] ro)) (λ p1 Z8=>(BO ZC 1 (⟨(k1),(o1),om,om,om,⟨⟩⟩:(k4:Nat)×'(o4:eD)×'(hk4:k4<=n/\n<=k4)×'(ho4:o4.length<=i+k4)×'(hR4:o4++((eV (sP row i) (ws.drop k4)).1++fP (row.drop (i+2)) (eV (sP row i) (ws.drop k4)).2)=T)×'Unit) rfl [(0,0)] ro))) (fun|⟨k1,o1,hk1,ho1,hR1,_⟩=>by kernel_rfl) ⟨(k),(o),om,om,(by(exact O8 om hR)),⟨⟩⟩ [(0,0)] ro (gu (fun|⟨k2,o2,hk2,ho2,hR2,_⟩=>.W 3 (i+2)<|.V 1 6 (zI (i+2)) (zN (i+2)) FG<|Aw ZB ⟨(i+2),(k2),(o2),om,om,om,om,⟨⟩⟩ (by show r+1-(i+2)<r+1-i;clear ZB ZD;omega) [(0,0)] ro) (fun|⟨k4,o4,hk4,ho4,hR4,_⟩=>.K 7 (Ga&&V9 (v0 o4*2) (v0 (v8 dk o4))&&Ga&&Ga&&Ga&&Ga&&Wf ((v0 o4+1)*16) 140737488355328) BZ<|.W 4 (i+2)<|.V 1 4 (Wb 40 40 0 (v0 o4+1) 2) (Wb 40 40 0 (v0 (o4++[Pc.mk (sP row i) Ga])) 2) B0<|.val 6 (zI (i+2)) (zN (i+2)) FG<|.blk 40 40 (V8 (v8 dk o4++[zN (sP row i),D.v (.bool Ga)]) 231 Ga) (V8 (v8 dk (o4++[Pc.mk (sP row i) Ga])) 231 Ga) (by(simp;done))<|Aw ZB ⟨(i+2),(k4),(o4++[⟨sP row i,Ga⟩]),om,om,B1,(by(exact T5 om hR4)),⟨⟩⟩ (by show r+1-(i+2)<r+1-i;clear ZB ZD;omega) [(40,40)] ro))) (λ p0 Z9=>(BO ZD 0 (⟨(k),(o),om,om,(by(exact T6 om hR)),⟨⟩⟩:(k3:Nat)×'(o3:eD)×'(hk3:k3<=n)×'(ho3:o3.length<=3000)×'(hR3:o3++f8 (ws.drop k3)=T)×'Unit) rfl [(0,0)] ro))) (fun|⟨i,k,o,hi,hk,ho,hR,_⟩=>by kernel_rfl) ⟨(0),(0),([]),om,om,(by(simp;done)),(by(exact(fQ _ _).symm.trans hT)),⟨⟩⟩ [(24,24)] ro (bB (fun|⟨k3,o3,hk3,ho3,hR3,_⟩=>.K 3 (aV (Ge (k3:Int)) z9 z9 n&&Ga) (by(simp <;>(omega)))<|.s 2<|BY T_ok ae Gd 74 0 (am Tryz.prog 145 2) (λ(x:(j:Nat)×'(o:eD)×'(hk:j<=n-k3)×'(ho:o.length<=3000+j)×'(hR:o++f8 (ws.drop (k3+j))=T)×'Unit)=>match x with|⟨j,o,hk,ho,hR,_⟩=>Wr [(4,(Wb 0 0 (0) (o.length) 2)),(61,Wu Gd (n-k3) 1 (Ag (k3*1) (wo nD ws))),(62,zN (n-k3)),(63,nD j)] [⟨0,0,0,0,.b ⟨o.flatMap dk,231,Ga⟩⟩] 8) (λ(x:(j:Nat)×'(o:eD)×'(hk:j<=n-k3)×'(ho:o.length<=3000+j)×'(hR:o++f8 (ws.drop (k3+j))=T)×'Unit)=>match x with|⟨j,o,hk,ho,hR,_⟩=>n-k3-j) [⟨Unit,.exit 4,λ()=>Wr [(4,(Wb 0 0 (0) (T.length) 2)),(61,Wu Gd (n-k3) 1 (Ag (k3*1) (wo nD ws))),(62,zN (n-k3))] [⟨0,0,0,0,.b ⟨T.flatMap dk,231,Ga⟩⟩] 8⟩] 1000 64 (fun|⟨j,o,hk,ho,hR,_⟩,Q,ZB,ZD=>.B 2 ((j:Int)<(↑(n-k3):Int)) (λ p3 Z6=>.K 1 (Ga&&Ao ((j:Int)<(↑(n-k3):Int))&&Ga) Ki<|.O 2 ((Ag (k3*1) (wo nD ws))[j*1]?) (nD (wm ws (k3+j) lb)) (@B6 ws (k3) (j) om)<|.K 8 (Ga&&V9 (v0 o*2) (v0 (v8 dk o))&&Ga&&Ga&&Ga&&Ga&&Wf ((v0 o+1)*16) 140737488355328) BZ<|.W 3 (j+1)<|.V 1 4 (Wb 72 72 0 (v0 o+1) 2) (Wb 72 72 0 (v0 (o++[Pc.mk (wm ws (k3+j) lb) Gd])) 2) B0<|.val 63 (zI (j+1)) (zN (j+1)) Ex<|.blk 72 72 (V8 (v8 dk o++[zN (wm ws (k3+j) lb),D.v (.bool Gd)]) 231 Ga) (V8 (v8 dk (o++[Pc.mk (wm ws (k3+j) lb) Gd])) 231 Ga) (by(simp;done))<|Aw ZB ⟨(j+1),(o++[⟨ws.getD (k3+j) lb,Gd⟩]),om,B1,(by(exact O5 om hR)),⟨⟩⟩ (by show n-k3-(j+1)<n-k3-j;clear ZB ZD;omega) [(72,72)] ro) (λ p3 Z6=>.val 4 (Wb 0 0 0 (v0 o) 2) (Wb 0 0 0 (v0 T) 2) (by(rw[FH om hR]))<|.blk 0 0 (V8 (v8 dk o) 231 Ga) (V8 (v8 dk T) 231 Ga) (by(rw[FH om hR]))<|BO ZD 0 (():Unit) rfl [(0,0)] ro)) (fun|⟨j,o,hk,ho,hR,_⟩=>by kernel_rfl) ⟨(0),(o3),om,om,om,⟨⟩⟩ [(0,0)] ro (bB (fun|()=>.Y 2 [0] [0] (Wb 0 0 0 (v0 T) 2) [V8 (v8 dk T) 231 Ga] ok))))) kr
def FJ (ws:Gw){j:Nat}(h:j<ws.length):(WT (0*1) (ws.map nD))[j*1]? =Ge (nD (ws.getD j lb)):=by
 have:=B6 ws (k:=0) (j:=j) om
 rwa [WE]at this
def Pb (ws:Gw)(n:Nat)(hn:n=ws.length)(hn2:n<=1000)(T:eD)(hT:KJ [] ws=T):S0 145 [aP,.sl Gd n 1 (ws.map nD)] [] (.ref 0 0 0 T.length 2) [⟨T.flatMap dk, 231,Ga⟩]:=SpR Tryz.func145 rfl rfl rfl ⟨cV (λ _=>rfl) _,trivial⟩ rfl 1000 64 (λ R ok=>.K 16 (aV (Ge 0) z9 z9 n&&Ga) (by(simp;done))<|.s 2<|.nils 4 104 2 231<|BY T_ok ae Gd 74 0 (am Tryz.prog 145 2) (λ(x:(j:Nat)×'(o:eD)×'(hk:j<=n)×'(ho:o.length<=j)×'(hR:o++f8 (ws.drop j)=T)×'Unit)=>match x with|⟨j,o,hk,ho,hR,_⟩=>Wr [(4,(Wb 0 0 (0) (o.length) 2)),(61,Wu Gd (n-0) 1 (Ag 0 (wo nD ws))),(62,zN (n-0)),(63,nD j)] [⟨0,0,104,104,.b ⟨o.flatMap dk,231,Ga⟩⟩] 8) (λ(x:(j:Nat)×'(o:eD)×'(hk:j<=n)×'(ho:o.length<=j)×'(hR:o++f8 (ws.drop j)=T)×'Unit)=>match x with|⟨j,o,hk,ho,hR,_⟩=>n-j) [⟨Unit,.exit 4,λ()=>Wr [(4,(Wb 0 0 (0) (T.length) 2)),(61,Wu Gd (n-0) 1 (Ag 0 (wo nD ws))),(62,zN (n-0))] [⟨0,0,104,104,.b ⟨T.flatMap dk,231,Ga⟩⟩] 8⟩] 1000 64 (fun|⟨j,o,hk,ho,hR,_⟩,Q,ZB,ZD=>.B 2 ((j:Int)<(↑(n-0):Int)) (λ p0 Z9=>.K 1 (Ga&&Ao ((j:Int)<(↑(n-0):Int))&&Ga) Ki<|.O 2 ((Ag (0*1) (wo nD ws))[j*1]?) (nD (wm ws j lb)) (@FJ ws (j) om)<|.K 8 (Ga&&V9 (v0 o*2) (v0 (v8 dk o))&&Ga&&Ga&&Ga&&Ga&&Wf ((v0 o+1)*16) 140737488355328) BZ<|.W 3 (j+1)<|.V 1 4 (Wb 72 72 0 (v0 o+1) 2) (Wb 72 72 0 (v0 (o++[Pc.mk (wm ws j lb) Gd])) 2) B0<|.val 63 (zI (j+1)) (zN (j+1)) Ex<|.blk 72 72 (V8 (v8 dk o++[zN (wm ws j lb),D.v (.bool Gd)]) 231 Ga) (V8 (v8 dk (o++[Pc.mk (wm ws j lb) Gd])) 231 Ga) (by(simp;done))<|Aw ZB ⟨(j+1),(o++[⟨ws.getD j lb,Gd⟩]),om,B1,(by(exact O5 om hR)),⟨⟩⟩ (by show n-(j+1)<n-j;clear ZB ZD;omega) [(72,72)] ro) (λ p0 Z9=>.val 4 (Wb 0 0 0 (v0 o) 2) (Wb 0 0 0 (v0 T) 2) (by(rw[FH om hR]))<|.blk 0 0 (V8 (v8 dk o) 231 Ga) (V8 (v8 dk T) 231 Ga) (by(rw[FH om hR]))<|BO ZD 0 (():Unit) rfl [(0,0)] ro)) (fun|⟨j,o,hk,ho,hR,_⟩=>by kernel_rfl) ⟨(0),([]),om,(by(simp;done)),(by(exact(fQ _ _).symm.trans hT)),⟨⟩⟩ [(104,104)] ro (bB (fun|()=>.Y 2 [0] [0] (Wb 0 0 0 (v0 T) 2) [V8 (v8 dk T) 231 Ga] ok))) kr
def m9 (W S:Gw)(k:Nat):Gw:=lk S ((S.take k).map λ i=>W.getD i lb)
def oH (W S:Gw)(k:Nat):m9 W S k=(S.take k).map λ i=>W.getD i lb:=aM _ _
def Iv (W S:Gw):m9 W S 0=[]:=oH W S 0
def Iw {W S:Gw}{k:Nat}(h:k<S.length):m9 W S (k+1)=m9 W S k++[W.getD (S.getD k lb) lb]:=by
 rw[oH,oH,WW h,W4,Wd (l:=S),Wa h];rfl
def kG {W S:Gw}{k:Nat}(h:k<=S.length):(m9 W S k).length=k:=by rw[oH,Wj,Wi];omega
def KK (ws:Gw):Nat->eD
 |0=>KJ [] ws
 |k+1=>KJ (KK ws k) ws
def av (ws:Gw)(k:Nat):eD:=lk ws (KK ws k)
def rF (ws:Gw)(k:Nat):av ws k=KK ws k:=aM _ _
def oI (ws:Gw):KJ [] ws=av ws 0:=by rw[rF];rfl
def lu (ws:Gw)(k:Nat):KJ (av ws k) ws=av ws (k+1):=by rw[rF,rF];rfl
def cZ (row:eD)(n:Nat):Nat:=lk row ((row.take n).filter (·.p)).length
def ip (row:eD)(n:Nat):cZ row n=((row.take n).filter (·.p)).length:=aM _ _
def Pd (row:eD):cZ row 0=0:=ip row 0
def Ix {row:eD}{k:Nat}(h:k<row.length):cZ row (k+1)=cZ row k+(row.getD k lb).p.toNat:=by
 rw[ip,ip,WW h,XT,Wc,Wd,Wa h];show _+(List.filter _ [row[k]]).length=_+(row[k]).p.toNat
 cases hp:(row[k]).p
 ·rw[Yw (by simp[hp])];rfl
 ·rw[Yv (by simp[hp])];rfl
def wa (row:eD)(n:Nat):cZ row n<=n:=by
 rw[ip];exact Ww (Y5 _ _) (by rw[Wi];exact Nat.min_le_left _ _)
def na (row:eD)(n:Nat):cZ row n<=(row.filter (·.p)).length:=by
 rw[ip];exact((aas n row).filter _).length_le
def nc:∀l:eD,l.length=(l.filter (·.p)).length+(l.filter (λ x=>!x.p)).length
 |[]=>rfl
 |x::r=>by
  have ih:=nc r
  cases hp:x.p
  ·rw[Yw (by simp[hp]),Yv (by simp[hp]),WQ,WQ];omega
  ·rw[Yv (by simp[hp]),Yw (by simp[hp]),WQ,WQ];omega
def Iy (s:Nat):∀ws:Gw,((eV s ws).1.filter (·.p)).length=1/\(eV s ws).1.length+(eV s ws).2.length=ws.length+1/\(eV s ws).1.length=((eV s ws).1.filter (λ x=>!x.p)).length+1
 |[]=>⟨rfl,rfl,rfl⟩
 |w::r=>by
  have ih:=Iy s r;rw[eV];split
  ·exact⟨rfl,by simp;omega,rfl⟩
  ·refine⟨?_,?_,?_⟩
   ·rw[Yw (by simp)];exact ih.1
   ·simp only[WQ];omega
   ·rw[Yv (by simp),WQ,WQ];omega
def B7:∀(row:eD) (ws:Gw),((fP row ws).filter (·.p)).length=row.length/2/\(fP row ws).length=ws.length+row.length/2/\((fP row ws).filter (λ x=>!x.p)).length=ws.length
 |[],ws=>by
  have e:fP [] ws=f8 ws:=rfl;rw[e];unfold f8;refine⟨?_,by simp,?_⟩
  ·rw[List.filter_eq_nil_iff.2 (λ x hx=>by obtain⟨w,_,rfl⟩:=List.mem_map.1 hx;simp)];rfl
  ·rw[List.filter_eq_self.2 (λ x hx=>by obtain⟨w,_,rfl⟩:=List.mem_map.1 hx;rfl),Wj]
 |[x],ws=>by
  have e:fP [x] ws=f8 ws:=rfl;rw[e];unfold f8;refine⟨?_,by simp,?_⟩
  ·rw[List.filter_eq_nil_iff.2 (λ x hx=>by obtain⟨w,_,rfl⟩:=List.mem_map.1 hx;simp)];simp
  ·rw[List.filter_eq_self.2 (λ x hx=>by obtain⟨w,_,rfl⟩:=List.mem_map.1 hx;rfl),Wj]
 |x::y::r,ws=>by
  have h1:=Iy (x.w+y.w) ws;have h2:=B7 r (eV (x.w+y.w) ws).2;rw[fP];refine⟨?_,?_,?_⟩
  ·rw[XT,Wc,h1.1,h2.1,WQ,WQ];omega
  ·rw[Wc,h2.2.1,WQ,WQ];omega
  ·rw[XT,Wc,h2.2.2];omega
def Iz {s B:Nat}:∀ws:Gw,(∀w∈ws,w<=B)->s<=B->(∀x∈(eV s ws).1,x.w<=B)/\∀w∈(eV s ws).2,w∈ws
 |[],_,hs=>⟨λ x hx=>by cases List.mem_singleton.1 hx;exact hs,λ w hw=>by cases hw⟩
 |w::r,h,hs=>by
  have ih:=Iz (s:=s) r (λ y hy=>h y (WG _ hy)) hs;rw[eV];split
  ·exact⟨λ x hx=>by cases List.mem_singleton.1 hx;exact hs,λ y hy=>hy⟩
  ·refine⟨λ x hx=>?_,λ y hy=>WG _ (ih.2 y hy)⟩
   rcases List.mem_cons.1 hx with rfl|hx
   ·exact h w WH
   ·exact ih.1 x hx
def IA {B C:Nat}(hC:2*B<=C)(hC2:B<=C):∀(row:eD) (ws:Gw),(∀w∈ws,w<=B)->(∀x∈row,x.w<=B)->∀x∈fP row ws,x.w<=C
 |[],ws,h,_=>λ x hx=>by
  obtain⟨w,hw,rfl⟩:=List.mem_map.1 (show x∈f8 ws from hx);exact Ww (h w hw) hC2
 |[_],ws,h,_=>λ x hx=>by
  obtain⟨w,hw,rfl⟩:=List.mem_map.1 (show x∈f8 ws from hx);exact Ww (h w hw) hC2
 |a::b::r,ws,h,hr=>λ x hx=>by
  have ha:=hr a WH;have hb:=hr b (WG _ WH);have h1:=Iz (s:=a.w+b.w) (B:=C) ws (λ w hw=>Ww (h w hw) hC2) om;rw[fP]at hx;rcases List.mem_append.1 hx with q|q
  ·exact h1.1 x q
  ·exact IA hC hC2 r _ (λ w hw=>h w (h1.2 w hw)) (λ y hy=>hr y (WG _ (WG _ hy))) x q
def B8 {ws:Gw}(h:∀w∈ws,w<=1073741824):∀k,∀x∈av ws k,x.w<=2^k*1073741824
 |0=>λ x hx=>by
  rw[<-oI,fQ]at hx;obtain⟨w,hw,rfl⟩:=List.mem_map.1 (show x∈f8 ws from hx);have:=h w hw;simpa using this
 |k+1=>λ x hx=>by
  rw[<-lu,fQ]at hx;have hp:=Yr k;refine IA (B:=2^k*1073741824) (by rw[XO];omega) (by rw[XO];omega) _ _ (λ w hw=>Ww (h w hw) om) (B8 h k) x hx
def FK {ws:Gw}(h:∀w∈ws,w<=1073741824){k:Nat}(hk:k<=15):∀x∈av ws k,x.w<=100000000000000:=λ x hx=>by
 have h1:=B8 h k x hx;have h2:2^k<=2^15:=Xh (by decide) hk;omega
def iq (ws:Gw):∀k,(av ws k).length=ws.length+(if k=0 then 0 else(av ws (k-1)).length/2)/\((av ws k).filter (·.p)).length=(if k=0 then 0 else(av ws (k-1)).length/2)/\((av ws k).filter (λ x=>!x.p)).length=ws.length
 |0=>by
  have h:=B7 [] ws;rw[<-fQ,oI]at h;exact⟨h.2.1,h.1,h.2.2⟩
 |k+1=>by
  have h:=B7 (av ws k) ws;rw[<-fQ,lu]at h;exact⟨h.2.1,h.1,h.2.2⟩
def cX (ws:Gw):∀k,(av ws k).length<=2*ws.length
 |0=>by rw[(iq ws 0).1,ZF rfl];omega
 |k+1=>by
  have:=cX ws k;rw[(iq ws (k+1)).1,ZE (Yj k),XK];omega
def xV (ws:Gw):∀k,2^k*(2*ws.length)<=2^k*(av ws k).length+ws.length+(2^k-1)
 |0=>by rw[(iq ws 0).1,ZF rfl];omega
 |k+1=>by
  have ih:=xV ws k;have e:=(iq ws (k+1)).1;rw[ZE (Yj k),XK]at e;have hp:=Yr k;rw[e,XO];generalize ws.length=N at *;generalize(av ws k).length=R at *;generalize 2^k=P at *;have h2:P*R<=P*(2*(R/2))+P:=by
   have:R<=2*(R/2)+1:=by omega
   have:=Zk P this;rw[YM,Wx]at this;exact this
  have e1:P*2*(2*N)=P*(2*N)+P*(2*N):=by rw[XS,Nat.two_mul,YM]
  have e2:P*2*(N+R/2)=P*(2*N)+P*(2*(R/2)):=by rw[XS,YM 2,YM]
  rw[e1,e2];omega
def uj:Z4->Gw->Z4
 |o,[]=>o
 |o,i::r=>uj (o.set i (o.getD i lb+1)) r
def B9 (o:Z4)(a b:Gw):uj o (a++b)=uj (uj o a) b:=by
 induction a generalizing o with
 |nil=>rfl
 |cons x a ih=>exact ih _
def uk:∀(o:Z4) (l:Gw),(uj o l).length=o.length
 |_,[]=>rfl
 |o,i::r=>by rw[uj,uk,X8]
def cD (o:Z4)(S:Gw)(j:Nat):Z4:=lk o (uj o (S.take j))
def nd (o:Z4)(S:Gw)(j:Nat):cD o S j=uj o (S.take j):=aM _ _
def oJ (o:Z4)(S:Gw):cD o S 0=o:=nd o S 0
def cE (o:Z4)(S:Gw)(j:Nat):(cD o S j).length=o.length:=by rw[nd,uk]
def oK {o:Z4}{S:Gw}{j:Nat}(h:j<S.length):cD o S (j+1)=(cD o S j).set (S.getD j lb) ((cD o S j).getD (S.getD j lb) lb+1):=by
 rw[nd,nd,WW h,B9,Wd (l:=S),Wa h];rfl
def xW (ws S:Gw):Nat->Nat->Z4->Z4
 |0,_,o=>o
 |k+1,n,o=>xW ws S k (2*cZ (av ws k) n) (cD o S (n-cZ (av ws k) n))
structure LnI (ws:Gw)(k n:Nat):Prop where
 a:k≠0->n<=(av ws (k-1)).length
def LnI.next {ws:Gw}{k n:Nat}(h:LnI ws (k+1) n):n<=(av ws k).length/\cZ (av ws k) n<=n/\n-cZ (av ws k) n<=ws.length/\LnI ws k (2*cZ (av ws k) n):=by
 have hn:=h.a (Yj k);rw[XK]at hn;have hc:=iq ws k;have h1:=na (av ws k) n;refine⟨hn,wa _ _,?_,⟨λ hk=>?_⟩⟩
 ·have e:n=((av ws k).take n).length:=by rw[Wi];omega
  have e2:((av ws k).take n).length=(((av ws k).take n).filter (·.p)).length+(((av ws k).take n).filter (λ x=>!x.p)).length:=by
   exact nc _
  have e3:(((av ws k).take n).filter (λ x=>!x.p)).length<=ws.length:=by
   rw[<-hc.2.2];exact((aas n _).filter _).length_le
  rw[ip];omega
 ·rw[hc.2.1,ZE hk]at h1;omega
def LnI.first {ws:Gw}{m:Nat}(hm:1<=m)(h:ws.length<=2^m)(h2:2<=ws.length):LnI ws m (2*ws.length-2):=⟨λ _=>by
 have g:=xV ws (m-1);have hp:=Yr (m-1);have e:2^m=2*2^(m-1):=by rw[show m=(m-1)+1 from by omega,XO,Yb];rfl
 generalize(av ws (m-1)).length=R at *;generalize ws.length=N at *;generalize 2^(m-1)=P at *;rcases WR R (2*N-2)with q|q
 ·have h3:P*R+3*P<=P*(2*N):=by
   have:R+3<=2*N:=by omega
   have:=Zk P this;rw[YM,Yb P 3]at this;exact this
  omega
 ·exact q⟩
def um(h:p:=by repeat' first|exact(λ _=>un _ _ _)|exact trivial|exact rfl|exact(λ _=>aR _)|exact(λ _=>by assumption)|exact(λ _=>bn _ (λ _=>rfl) _)|exact(λ _=>cm (λ _=>rfl) _)|(intro h;cases h;done)|(intro _;rfl)|(intro _;exact ct _ (bn _ (λ _=>rfl) _))|exact iS _ (bn _ (λ _=>rfl) _)|refine Wn ?_ ?_|refine ew ?_ ?_|(intro _;refine cq ?_ ?_)|refine cq ?_ ?_|(intro _;refine fE ?_ ?_)|exact ct _ (bn _ (λ _=>rfl) _)|exact bn _ (λ _=>rfl) _):=h
def MM(h:p:=by(have z:=hT.i.nextk om (((k:Int)-1).toNat) om;have z2:=hT.l;have z3:=cX ws (((k:Int)-1).toNat);have z4:(wx n (av ws ((k:Int)-1).toNat)).length=n:=Xw z.1;omega)):=h
def Pe(h:p:=by(have z:=hT.i.nextk om (((k:Int)-1).toNat) om;have z2:=hT.l;have z3:=cX ws (((k:Int)-1).toNat);have z4:(wx n (av ws ((k:Int)-1).toNat)).length=n:=Xw z.1;simp[aV,cY,bk];omega)):=h
def VB(h:p:=by(rw[kH];simp only[WM];refine We ?_;(omega))):=h
def VC(h:p:=by show n-(j+1)<n-j;clear ZA ZC ZB ZD;omega):=h
def VD(h:p:=by(refine decide_eq_true ?_;have z:=hT.i.nextk om (((k:Int)-1).toNat) om;have z2:=hT.l;have z3:=cX ws (((k:Int)-1).toNat);have z4:(wx n (av ws ((k:Int)-1).toNat)).length=n:=Xw z.1;have h9:=hA.at (t:=0+j*1) om;have h8:=cE o S j;omega)):=h
def rG (W:Gw)(L:Nat)(hL:L=W.length)(hL2:L<=320)(hB:∀t,W.getD t lb<=1073741824)(m:Nat)(hm:1<=m/\m<=15)(S:Gw)(hS:cG W=S)(N:Nat)(hN:N=S.length)(hNm:N<=2^m):S0 144 [.sl Gd L 1 (W.map nD),nD m] [] (.tup [.ref 0 0 0 N 1,iD 0]) [⟨S.map nD, 3,Ga⟩]:=by
 subst hS;have hp:=(dj W).length_eq;have hN2:N=(eU W L).length:=by rw[hN,hp,hL]
 obtain⟨T1,hE⟩:=KI hL (X:=eU W L) rfl hN2;exact FI W L hL hL2 hB m hm N hN2 _ T1 rfl hE hNm hE.o hE.t1 hE.o1 hE.t
abbrev FL (T:eD):D:=.sl Gd T.length 2 (T.flatMap dk)
def Ca (T:eD):(T.flatMap dk).length=T.length*2:=by rw[bg (k:=2) (λ _=>rfl)]
def Pf (ws:Gw)(n:Nat)(hn:n=ws.length)(hn2:n<=320)(hB:∀w∈ws,w<=1073741824)(j:Nat)(hj:j<=14)(r:Nat)(hr:r=(av ws j).length):S0 145 [.sl Gd r 2 ((av ws j).flatMap dk),.sl Gd n 1 (ws.map nD)] [] (FL (av ws (j+1))) []:=by
 have h:=cX ws j;refine SpecH.frz (O9 (av ws j) r hr om 100000000000000 (by decide) (FK hB om) ws n hn om (av ws (j+1)) (lu ws j)) (Ca _) (by decide) (cm (λ _=>rfl) _)
def Pg (ws:Gw)(n:Nat)(hn:n=ws.length)(hn2:n<=320):S0 145 [aP,.sl Gd n 1 (ws.map nD)] [] (FL (av ws 0)) []:=
 SpecH.frz (Pb ws n hn om _ (oI ws)) (Ca _) (by decide) (cm (λ _=>rfl) _)
def i7 (ws:Gw)(k m:Nat):GA:=lk ws ((Xp m).map λ j=>if j<k then FL (av ws j)else aP)
def wb (ws:Gw)(k m:Nat):i7 ws k m=(Xp m).map λ j=>if j<k then FL (av ws j)else aP:=aM _ _
def kH (ws:Gw)(k m:Nat):(i7 ws k m).length=m:=by rw[wb,Wj,XY]
def un (ws:Gw)(k m:Nat):ab (i7 ws k m)=true:=by
 rw[bp,wb];intro d hd;obtain⟨j,_,rfl⟩:=List.mem_map.1 hd
 split<;>rfl
def xX {ws:Gw}{k m j:Nat}(hj:j<m):(i7 ws k m)[j]? =Ge (if j<k then FL (av ws j)else aP):=by
 rw[wb,WB,Xx hj];rfl
def Cb (ws:Gw){k m j:Nat}(h:j<k)(hj:j<m):(i7 ws k m)[0+j*1]? =Ge (FL (av ws j)):=by
 rw[WE,Wx,xX hj,ZF h]
def Cc {ws:Gw}{k m o i:Nat}(hk:k<m)(ho:o=k)(hi:i=k):ac (i7 ws k m) o [FL (av ws i)]=i7 ws (k+1) m:=by
 subst o i;apply Xe;intro t;rw[ck (by rw[kH];simp only[W7];omega)];simp only[W7];rcases WR t m with q|q
 ·rw[xX q,xX q]
  by_cases e:t=k
  ·subst e;rw[ZF om,Xz,ZF om];rfl
  ·rw[ZE om]
   by_cases z:t<k
   ·rw[ZF z,ZF om]
   ·rw[ZE z,ZE om]
 ·rw[ZE om,WL (by rw[kH];exact q),WL (by rw[kH];exact q)]
def T8 (ws:Gw)(m:Nat):Wt m aP=i7 ws 0 m:=by
 apply Xe;intro t;rw[XI];rcases WR t m with q|q
 ·rw[ZF q,xX q,ZE (XN t)]
 ·rw[ZE om,WL (by rw[kH];exact q)]
def IB (d:D)(m:Nat):bR [d] (m*1)=Wt m d:=by
 rw[Wx];apply Xe;intro i;unfold bR;rw[WB,XI];rcases WR i m with q|q
 ·rw[Xx q,ZF q]
  show Ge (List.getD [d] (i%1) lb)=_;rw[Nat.mod_one];rfl
 ·rw[WL (by simpa using q),ZE om];rfl
def IC {t:TypeId}{a b:Int}(h:a=b):(⟨[D.v (.int .i64 a)],t,Gd⟩:Blk)=⟨[D.v (.int .i64 b)],t,Gd⟩:=by rw[h]
def mh (L:Nat):bR [D.v (.int .u8 0)] (L*1)=(Wt L (0:UInt8)).map dB:=by rw[IB,Ys];rfl
def LnI.nextk {ws:Gw}{k n:Nat}(h:LnI ws k n)(hk:0<k)(i:Nat)(hi:i=k-1):n<=(av ws i).length/\cZ (av ws i) n<=n/\n-cZ (av ws i) n<=ws.length:=by
 subst hi;have q:=LnI.next (k:=k-1) (n:=n) (by rw[show k-1+1=k from by omega];exact h);exact⟨q.1,q.2.1,q.2.2.1⟩
structure LnT (ws S:Gw)(L k n:Nat)(o T:Z4):Prop where
 i:LnI ws k n
 l:o.length=L
 r:xW ws S k n o=T
def LnT.next {ws S:Gw}{L k n:Nat}{o T:Z4}(h:LnT ws S L k n o T)(hk:0<k):LnT ws S L (k-1) (2*cZ (av ws (k-1)) n) (cD o S (n-cZ (av ws (k-1)) n)) T:=by
 obtain⟨j,rfl⟩:∃j,k=j+1:=⟨k-1,by omega⟩
 exact⟨(LnI.next h.i).2.2.2,by rw[cE];exact h.l,h.r⟩
def LnT.next' {ws S:Gw}{L k n:Nat}{o T:Z4}(h:LnT ws S L k n o T)(hk:0<k)(i:Nat)(hi:i=k-1):LnT ws S L (k-1) (2*cZ (av ws i) n) (cD o S (n-cZ (av ws i) n)) T:=by
 subst hi;exact h.next hk
def ID {l:eD}{n j:Nat}(h:j<n):(l.take n).getD j lb=l.getD j lb:=by
 rw[Wd,Wd,Xa,ZF h]
def Ph {row:eD}{n j:Nat}(hj:j<n)(hn:n<=row.length)(h:((row.take n).getD j lb).p=Ga):cZ row (j+1)=cZ row j+1:=by
 rw[ID hj]at h;rw[Ix om,h];rfl
def Pi {row:eD}{n j:Nat}(hj:j<n)(hn:n<=row.length)(h:((row.take n).getD j lb).p=Gd):cZ row (j+1)=cZ row j:=by
 rw[ID hj]at h;rw[Ix om,h];rfl
def qp {n N:Nat}{x:Int}(h:x=n)(h2:n<=N):(aV z9 (Ge x) z9 N&&Ga)=true:=by
 subst h;simp[aV,cY,bk];omega
def Pj {o:Z4}{S:Gw}{j a i:Nat}(hj:j<S.length)(ha:a=S.getD j lb)(hi:i=S.getD j lb)(hl:S.getD j lb<o.length):ac ((cD o S j).map dB) a [D.v (.int .u8 ((((((cD o S j).getD i lb).toNat:Nat):Int)+1)%256))]=(cD o S (j+1)).map dB:=by
 subst ha hi;have e:(((((cD o S j).getD (S.getD j lb) lb).toNat:Nat):Int)+1)%256=((((cD o S j).getD (S.getD j lb) lb+1).toNat:Nat):Int):=by
  rw[UInt8.toNat_add];show _=(((_+1)%256:Nat):Int);omega
 rw[e,oK hj];generalize(cD o S j).getD (S.getD j lb) lb+1=v;apply Xe;intro t;rw[ck (by simp only[Wj,W7,cE];omega),WB,WB,XA,cE];simp only[W7]
 by_cases q:S.getD j lb=t
 ·rw[<-q,ZF om,ZF rfl,ZF hl,Xz];rfl
 ·rw[ZE om,ZE q]
def LnT.last {ws S:Gw}{L k n:Nat}{o T:Z4}(h:LnT ws S L k n o T)(hk:k=0):o=T:=by subst hk;exact h.r
def Pk (W:Gw)(L:Nat)(hL:L=W.length)(hL2:L<=320)(hB:∀t,W.getD t lb<=1073741824)(m:Nat)(hm:1<=m/\m<=15)(S:Gw)(hS:cG W=S)(N:Nat)(hN:N=S.length)(hNm:N<=2^m)(hA:bH L S)(hN3:N<=320)(h2:2<=N)(ws:Gw)(hw:m9 W S N=ws)(hwl:ws.length=N)(hwb:∀w∈ws,w<=1073741824)(T:Z4)(hI:LnT ws S L m (2*N-2) (Wt L 0) T):S0 108 [.sl Gd L 1 (W.map nD),nD m] [] (.tup [.ref 0 0 0 L 1,iD 0]) [⟨T.map dB, 5,Ga⟩]:=by
 have hcl0:=un ws 0 m;have hclm:=un ws m m;refine SpR Tryz.func108 rfl rfl rfl ⟨aH _,trivial⟩ rfl 1000 64 (λ R ok=>.C 5 144 Gd [] (.fn JY (@rG (W) (L) om om om (m) om (S) aG (N) aG om))<|.K 18 (Ga&&Ao ((L:Int)<=L)&&Ga&&Ga&&Ga&&Ga&&Ao ((↑(Zo zW):Int)*(L:Int)<=140737488355328)) (by(have h9:((zW.bytes:Nat):Int)=1:=rfl;rw[h9];simp;omega))<|.F 11 ((N:Int)==1) (by(refine decide_eq_false ?_;(omega)))<|.F 6 (Ao ((N:Int)<2)) (by(refine decide_eq_false ?_;(omega)))<|.s 6<|.nils 9 224 1 3<|.blk 120 120 (V8 (bR [bI 0] (L*1)) 5 Ga) (V8 (wo dB (Ar L 0)) 5 Ga) (by(refine aq ?_;rw[mh]))<|.blk 224 224 (V8 [] 3 Ga) (V8 (wo nD (m9 W S 0)) 3 Ga) (by(rw[Iv];rfl))<|BY T_ok ae Gd 126 0 (am Tryz.prog 108 0) (λ(x:(k:Nat)×'(hk:k<=N)×'Unit)=>match x with|⟨k,hk,_⟩=>Wr [(0,Wu Gd L 1 (wo nD W)),(1,zN m),(4,zS),(5,zI 0),(6,WA 8 8 0),(8,WA 24 24 0),(9,(Wb 32 32 (0) (k) 1)),(46,Wb 0 0 0 N 1),(47,zN N),(48,nD k)] [⟨0,0,32,32,.b ⟨wo nD S,3,Ga⟩⟩,⟨8,8,64,64,.b ⟨[Wb 0 0 0 N 1],152,Gd⟩⟩,⟨16,16,120,120,.b ⟨(Ar L (0:UInt8)).map dB,5,Ga⟩⟩,⟨24,24,128,128,.b ⟨[Wb 16 16 0 L 1],24,Gd⟩⟩,⟨32,32,224,224,.b ⟨(m9 W S k).map nD,3,Ga⟩⟩] 40) (λ(x:(k:Nat)×'(hk:k<=N)×'Unit)=>match x with|⟨k,hk,_⟩=>N-k) [⟨Unit,.exit 0,λ()=>Wr [(0,Wu Gd L 1 (wo nD W)),(1,zN m),(4,zS),(5,zI 0),(6,WA 8 8 0),(8,WA 24 24 0),(9,(Wb 32 32 (0) (N) 1)),(46,Wb 0 0 0 N 1),(47,zN N)] [⟨0,0,32,32,.b ⟨wo nD S,3,Ga⟩⟩,⟨8,8,64,64,.b ⟨[Wb 0 0 0 N 1],152,Gd⟩⟩,⟨16,16,120,120,.b ⟨(Ar L (0:UInt8)).map dB,5,Ga⟩⟩,⟨24,24,128,128,.b ⟨[Wb 16 16 0 L 1],24,Gd⟩⟩,⟨32,32,224,224,.b ⟨ws.map nD,3,Ga⟩⟩] 40⟩] 1000 64 (fun|⟨k,hk,_⟩,Q,ZB,ZD=>.B 2 ((k:Int)<N) (λ p0 Z9=>.K 1 (Ga&&Ao ((k:Int)<N)) aG<|.O 2 ((wo nD S)[0+k*1]?) (nD (wm S (0+k*1) lb)) (aj _ _ om)<|.K 5 (Ga&&Ao ((↑(wm S (0+k*1) lb):Int)<(L:Int))&&Ga) (by((refine aA ?_ ?_)<;>(repeat' (first|(refine aA ?_ ?_)|(with_reducible rfl)|(refine decide_eq_true ?_)|(refine We ?_)|(refine dg ?_)))<;>(have h9:=hA.at (t:=0+k*1) om;omega)))<|.O 2 ((wo nD W)[wm S (0+k*1) lb*1]?) (nD (wm W (wm S (0+k*1) lb*1) lb)) (aj _ _ (by(have h9:=hA.at (t:=0+k*1) om;omega)))<|.K 3 (Ga&&V9 (k*1) (v0 (wo nD (m9 W S k)))&&Ga&&Ga&&Ga&&Ga&&Wf ((k+1)*8) 140737488355328) (by(rw[Wj,kG (by(omega))];simp only[Wx,Xk,WM,WV];refine We ?_;(omega)))<|.W 3 (k+1)<|.V 1 48 (zI (k+1)) (zN (k+1)) Ex<|.blk 120 120 (V8 (wo nD (m9 W S k)++[zN (wm W (wm S (0+k*1) lb*1) lb)]) 3 Ga) (V8 (wo nD (m9 W S (k+1))) 3 Ga) (by(refine aq ?_;simp only[WE,Wx];rw[Iw om,W4];rfl))<|Aw ZB ⟨(k+1),om,⟨⟩⟩ (by show N-(k+1)<N-k;clear ZB ZD;omega) [(0,0),(8,8),(16,16),(24,24),(120,120)] um) (λ p0 Z9=>.val 9 (Wb 32 32 0 k 1) (Wb 32 32 0 N 1) (by(simp <;>(omega)))<|.blk 32 32 (V8 (wo nD (m9 W S k)) 3 Ga) (V8 (wo nD ws) 3 Ga) (by(rw[show k=N from by omega,hw]))<|BO ZD 0 (():Unit) rfl [(0,0),(8,8),(16,16),(24,24),(32,32)] um)) (fun|⟨k,hk,_⟩=>by kernel_rfl) ⟨(0),om,⟨⟩⟩ [(32,32),(64,64),(120,120),(128,128),(224,224)] um (bB (fun|()=>.K 2 (Ga&&Ao ((m:Int)<=m)&&Ga&&Ga&&Ga&&Ga&&Ao ((↑(Zo xq):Int)*(m:Int)<=140737488355328)) (by(have h9:((xq.bytes:Nat):Int)=24:=rfl;rw[h9];simp;omega))<|.M 4 48 48 (V8 (bR [zS] (m*1)) 225 Ga) (V8 (i7 ws 0 m) 225 Ga) (by(refine aq ?_;rw[IB,T8]))<|BY T_ok ae Gd 126 0 (am Tryz.prog 108 1) (λ(x:(k:Nat)×'(hk:k<=m)×'(hcl:ab (i7 ws k m)=Ga)×'Unit)=>match x with|⟨k,hk,hcl,_⟩=>Wr [(4,zS),(5,zI 0),(6,WA 8 8 0),(8,WA 24 24 0),(9,Wb 32 32 0 N 1),(12,Wb 40 40 0 m 1),(63,zN m),(64,nD k)] [⟨0,0,0,0,.b ⟨wo nD S,3,Ga⟩⟩,⟨8,8,8,8,.b ⟨[Wb 0 0 0 N 1],152,Gd⟩⟩,⟨16,16,16,16,.b ⟨wo dB (Ar L 0),5,Ga⟩⟩,⟨24,24,24,24,.b ⟨[Wb 16 16 0 L 1],24,Gd⟩⟩,⟨32,32,32,32,.b ⟨wo nD ws,3,Ga⟩⟩,⟨40,40,48,48,.b ⟨i7 ws k m,225,Ga⟩⟩] 48) (λ(x:(k:Nat)×'(hk:k<=m)×'(hcl:ab (i7 ws k m)=Ga)×'Unit)=>match x with|⟨k,hk,hcl,_⟩=>m-k) [⟨(hcl2:ab (i7 ws m m)=Ga)×'Unit,.exit 2,λ x=>match x with|⟨hcl2,_⟩=>Wr [(4,zS),(5,zI 0),(6,WA 8 8 0),(8,WA 24 24 0),(9,Wb 32 32 0 N 1),(12,Wb 40 40 0 m 1),(63,zN m)] [⟨0,0,0,0,.b ⟨wo nD S,3,Ga⟩⟩,⟨8,8,8,8,.b ⟨[Wb 0 0 0 N 1],152,Gd⟩⟩,⟨16,16,16,16,.b ⟨wo dB (Ar L 0),5,Ga⟩⟩,⟨24,24,24,24,.b ⟨[Wb 16 16 0 L 1],24,Gd⟩⟩,⟨32,32,32,32,.b ⟨wo nD ws,3,Ga⟩⟩,⟨40,40,48,48,.b ⟨i7 ws m m,225,Ga⟩⟩] 48⟩] 1000 64 (fun|⟨k,hk,hcl,_⟩,Q,ZB,ZD=>.B 2 ((k:Int)<m) (λ p1 Z8=>.B 5 (0<(k:Int)) (λ p2 Z7=>.W 6 (k-1)<|.K 1 (Ao (0<=(k:Int)-1)&&Ao ((k:Int)-1<m)) (by((refine aA ?_ ?_)<;>(repeat' (first|(refine aA ?_ ?_)|(with_reducible rfl)|(refine decide_eq_true ?_)|(refine We ?_)|(refine dg ?_)))<;>(omega)))<|.O 2 ((i7 ws k m)[0+zL ((k:Int)-1)*1]?) (FL (av ws (zL ((k:Int)-1)))) (@Cb ws (k) (m) (zL ((k:Int)-1)) om om)<|.L 2 145 Gd [] (Ga&&(Ga&&(wB (wo nD ws) N 1)&&Ga)) (by unfold wB;(simp <;>(omega))) ([Wu Gd (v0 (av ws (zL ((k:Int)-1)))) 2 (v8 dk (av ws (zL ((k:Int)-1)))),wD (wo nD ws) N 1]) (by exact(qr (Wn (D.sim.slw rfl (ao (by(simp <;>(omega)))|>.trans rfl)) trivial))) (Ws (ap.of Tryz.func145 rfl rfl) (@Pf (ws) (N) om om om (zL ((k:Int)-1)) om (v0 (av ws (zL ((k:Int)-1)))) om))<|.K 1 (Ga&&Ao ((k:Int)<m)) aG<|.K 1 (Ga&&Wf (0+k*1+1) (v0 (i7 ws k m))) VB<|.lst (ac (i7 ws k m) (0+k*1) [Wu Gd (v0 (av ws (zL ((k:Int)-1)+1))) 2 (v8 dk (av ws (zL ((k:Int)-1)+1)))]) (ac (i7 ws k m) k [Wu Gd (v0 (av ws (zL ((k:Int)-1)+1))) 2 (v8 dk (av ws (zL ((k:Int)-1)+1)))]) (by(simp;done))<|.W 2 (k+1)<|.V 1 64 (zI (k+1)) (zN (k+1)) Ex<|.blk 40 40 (V8 (ac (i7 ws k m) k [Wu Gd (v0 (av ws (zL ((k:Int)-1)+1))) 2 (v8 dk (av ws (zL ((k:Int)-1)+1)))]) 225 Ga) (V8 (i7 ws (k+1) m) 225 Ga) (by(exact aq (Cc om om om)))<|Aw ZB ⟨(k+1),om,(by(exact un _ _ _)),⟨⟩⟩ (by show m-(k+1)<m-k;clear ZB ZD;omega) [(0,0),(8,8),(16,16),(24,24),(32,32),(40,40)] um) (λ p2 Z7=>.L 4 145 Gd [] (Ga&&(Ga&&(wB (wo nD ws) N 1)&&Ga)) (by unfold wB;(simp;have h9:=hA.at (t:=0+k*1) om;omega)) ([zS,wD (wo nD ws) N 1]) (by exact(qr (Wn (D.sim.slw rfl (ao (by(simp;have h9:=hA.at (t:=0+k*1) om;omega))|>.trans rfl)) trivial))) (Ws (ap.of Tryz.func145 rfl rfl) (@Pg (ws) (N) om om))<|.K 1 (Ga&&Ao ((k:Int)<m)) aG<|.K 1 (Ga&&Wf (0+k*1+1) (v0 (i7 ws k m))) VB<|.lst (ac (i7 ws k m) (0+k*1) [Wu Gd (v0 (av ws 0)) 2 (v8 dk (av ws 0))]) (ac (i7 ws k m) k [Wu Gd (v0 (av ws 0)) 2 (v8 dk (av ws 0))]) (by(simp;done))<|.W 2 (k+1)<|.V 1 64 (zI (k+1)) (zN (k+1)) Ex<|.blk 40 40 (V8 (ac (i7 ws k m) k [Wu Gd (v0 (av ws 0)) 2 (v8 dk (av ws 0))]) 225 Ga) (V8 (i7 ws (k+1) m) 225 Ga) (by(exact aq (Cc om om om)))<|Aw ZB ⟨(k+1),om,(by(exact un _ _ _)),⟨⟩⟩ (by show m-(k+1)<m-k;clear ZB ZD;omega) [(0,0),(8,8),(16,16),(24,24),(32,32),(40,40)] um)) (λ p1 Z8=>.blk 40 40 (V8 (i7 ws k m) 225 Ga) (V8 (i7 ws m m) 225 Ga) (by(rw[show k=m from by omega]))<|BO ZD 0 (⟨om,⟨⟩⟩:(hcl2:ab (i7 ws m m)=Ga)×'Unit) rfl [(0,0),(8,8),(16,16),(24,24),(32,32),(40,40)] um)) (fun|⟨k,hk,hcl,_⟩=>by kernel_rfl) ⟨(0),om,om,⟨⟩⟩ [(0,0),(8,8),(16,16),(24,24),(32,32),(48,48)] um (bB (fun|⟨hcl2,_⟩=>.W 6 (2*(N:Int))<|.W 2 (2*(N:Int)-2)<|.W 19 (m-1)<|.M 1 80 80 (V8 [zI (2*(N:Int)-2)] 3 Gd) (V8 [zN (2*N-2)] 3 Gd) (by(exact IC om))<|BY T_ok ae Gd 19 168 (am Tryz.prog 177 0) (λ(x:(k:Nat)×'(n:Nat)×'(o:Z4)×'(hk:k<=m)×'(hT:LnT ws S L k n o T)×'Unit)=>match x with|⟨k,n,o,hk,hT,_⟩=>Wr [(0,D.yl 160 160),(1,WA 112 112 0),(3,iD ((k:Int)-1))] [⟨0,0,0,0,.b ⟨wo nD S,3,Ga⟩⟩,⟨8,8,8,8,.b ⟨[Wb 0 0 0 N 1],152,Gd⟩⟩,⟨16,16,16,16,.b ⟨o.map dB,5,Ga⟩⟩,⟨24,24,24,24,.b ⟨[Wb 16 16 0 L 1],24,Gd⟩⟩,⟨32,32,32,32,.b ⟨wo nD ws,3,Ga⟩⟩,⟨40,40,40,40,.b ⟨i7 ws m m,225,Ga⟩⟩,⟨80,80,80,80,.b ⟨[nD n],3,Gd⟩⟩,⟨112,112,112,112,.b ⟨[Wb 40 40 0 m 1],224,Gd⟩⟩,⟨160,160,160,160,.l Y4 z9 (rangeAt Tryz.prog 108 0).1 (rangeAt Tryz.prog 108 0).2.1 (rangeAt Tryz.prog 108 0).2.2 126 [(63,zN m),(87,zI (2*(N:Int))),(5,zI 0),(9,Wb 32 32 0 N 1),(89,Wb 40 40 0 m 1),(85,Wb 0 0 0 N 1),(4,zS),(8,WA 24 24 0),(88,zI (2*(N:Int)-2)),(12,Wb 40 40 0 m 1),(6,WA 8 8 0),(90,Yd (Xi 177) [] [WA 112 112 0]),(14,WA 80 80 0),(86,zN N)]⟩] 240) (λ(x:(k:Nat)×'(n:Nat)×'(o:Z4)×'(hk:k<=m)×'(hT:LnT ws S L k n o T)×'Unit)=>match x with|⟨k,n,o,hk,hT,_⟩=>k) [⟨(n2:Nat)×'Unit,.exit 0,λ x=>match x with|⟨n2,_⟩=>Wr [(0,D.yl 160 160),(1,WA 112 112 0)] [⟨0,0,0,0,.b ⟨wo nD S,3,Ga⟩⟩,⟨8,8,8,8,.b ⟨[Wb 0 0 0 N 1],152,Gd⟩⟩,⟨16,16,16,16,.b ⟨T.map dB,5,Ga⟩⟩,⟨24,24,24,24,.b ⟨[Wb 16 16 0 L 1],24,Gd⟩⟩,⟨32,32,32,32,.b ⟨wo nD ws,3,Ga⟩⟩,⟨40,40,40,40,.b ⟨i7 ws m m,225,Ga⟩⟩,⟨80,80,80,80,.b ⟨[nD n2],3,Gd⟩⟩,⟨112,112,112,112,.b ⟨[Wb 40 40 0 m 1],224,Gd⟩⟩,⟨160,160,160,160,.l Y4 z9 (rangeAt Tryz.prog 108 0).1 (rangeAt Tryz.prog 108 0).2.1 (rangeAt Tryz.prog 108 0).2.2 126 [(63,zN m),(87,zI (2*(N:Int))),(5,zI 0),(9,Wb 32 32 0 N 1),(89,Wb 40 40 0 m 1),(85,Wb 0 0 0 N 1),(4,zS),(8,WA 24 24 0),(88,zI (2*(N:Int)-2)),(12,Wb 40 40 0 m 1),(6,WA 8 8 0),(90,Yd (Xi 177) [] [WA 112 112 0]),(14,WA 80 80 0),(86,zN N)]⟩] 240⟩] 1000 64 (fun|⟨k,n,o,hk,hT,_⟩,Q,ZB,ZD=>.B 3 (0<=(k:Int)-1) (λ p3 Z6=>.K 7 (Ao (0<=(k:Int)-1)&&Ao ((k:Int)-1<m)) Pe<|.O 2 ((i7 ws m m)[0+zL ((k:Int)-1)*1]?) (FL (av ws (zL ((k:Int)-1)))) (@Cb ws (m) (m) (zL ((k:Int)-1)) om om)<|.K 8 (aV z9 (Ge (n:Int)) z9 (v0 (av ws (zL ((k:Int)-1))))&&Ga) (by(have z:=hT.i.nextk om (((k:Int)-1).toNat) om;have z2:=hT.l;have z3:=cX ws (((k:Int)-1).toNat);have z4:(wx n (av ws ((k:Int)-1).toNat)).length=n:=Xw z.1;exact qp rfl om))<|.V 2 17 (zI 0) (zN (cZ (av ws (zL ((k:Int)-1))) 0)) (by(rw[Pd];rfl))<|.val 95 (Wu Gd n 2 (wx (n*2) (v8 dk (av ws (zL ((k:Int)-1)))))) (Wu Gd n 2 (v8 dk (wx n (av ws (zL ((k:Int)-1)))))) (by(refine congrArg (Wu Gd n 2) ?_;refine rj ?_ _ _;exact λ _=>rfl))<|BY T_ok ae Ga 126 312 (am Tryz.prog 108 2) (λ(x:(j:Nat)×'(hj:j<=n)×'Unit)=>match x with|⟨j,hj,_⟩=>Wr [(4,zS),(5,zI 0),(6,WA 8 8 0),(8,WA 24 24 0),(14,WA 80 80 0),(16,Wu Gd (v0 (av ws (zL ((k:Int)-1)))) 2 (v8 dk (av ws (zL ((k:Int)-1))))),(17,nD (cZ (av ws ((k:Int)-1).toNat) j)),(90,Yd (Xi 177) [] [WA 112 112 0]),(92,Wu Gd (v0 (av ws (zL ((k:Int)-1)))) 2 (v8 dk (av ws (zL ((k:Int)-1))))),(93,Wu Gd (v0 (av ws (zL ((k:Int)-1)))) 2 (v8 dk (av ws (zL ((k:Int)-1))))),(94,zN n),(95,.sl Gd n 2 ((wx n (av ws ((k:Int)-1).toNat)).flatMap dk)),(96,zN n),(97,nD j)] [⟨0,0,0,0,.b ⟨wo nD S,3,Ga⟩⟩,⟨8,8,8,8,.b ⟨[Wb 0 0 0 N 1],152,Gd⟩⟩,⟨16,16,16,16,.b ⟨wo dB o,5,Ga⟩⟩,⟨24,24,24,24,.b ⟨[Wb 16 16 0 L 1],24,Gd⟩⟩,⟨32,32,32,32,.b ⟨wo nD ws,3,Ga⟩⟩,⟨40,40,40,40,.b ⟨i7 ws m m,225,Ga⟩⟩,⟨80,80,80,80,.b ⟨[zN n],3,Gd⟩⟩,⟨112,112,112,112,.b ⟨[Wb 40 40 0 m 1],224,Gd⟩⟩,⟨160,160,160,160,.l aam z9 (rangeAt Tryz.prog 108 0).1 (rangeAt Tryz.prog 108 0).2.1 (rangeAt Tryz.prog 108 0).2.2 126 [(63,zN m),(87,zI (2*(N:Int))),(5,zI 0),(9,Wb 32 32 0 N 1),(89,Wb 40 40 0 m 1),(85,Wb 0 0 0 N 1),(4,zS),(8,WA 24 24 0),(88,zI (2*(N:Int)-2)),(12,Wb 40 40 0 m 1),(6,WA 8 8 0),(90,Yd (Xi 177) [] [WA 112 112 0]),(14,WA 80 80 0),(86,zN N)]⟩] 384) (λ(x:(j:Nat)×'(hj:j<=n)×'Unit)=>match x with|⟨j,hj,_⟩=>n-j) [⟨Unit,.exit 6,λ()=>Wr [(4,zS),(5,zI 0),(6,WA 8 8 0),(8,WA 24 24 0),(14,WA 80 80 0),(16,Wu Gd (v0 (av ws (zL ((k:Int)-1)))) 2 (v8 dk (av ws (zL ((k:Int)-1))))),(17,nD (cZ (av ws ((k:Int)-1).toNat) n)),(90,Yd (Xi 177) [] [WA 112 112 0]),(92,Wu Gd (v0 (av ws (zL ((k:Int)-1)))) 2 (v8 dk (av ws (zL ((k:Int)-1))))),(93,Wu Gd (v0 (av ws (zL ((k:Int)-1)))) 2 (v8 dk (av ws (zL ((k:Int)-1))))),(94,zN n),(96,zN n),(97,nD n)] [⟨0,0,0,0,.b ⟨wo nD S,3,Ga⟩⟩,⟨8,8,8,8,.b ⟨[Wb 0 0 0 N 1],152,Gd⟩⟩,⟨16,16,16,16,.b ⟨wo dB o,5,Ga⟩⟩,⟨24,24,24,24,.b ⟨[Wb 16 16 0 L 1],24,Gd⟩⟩,⟨32,32,32,32,.b ⟨wo nD ws,3,Ga⟩⟩,⟨40,40,40,40,.b ⟨i7 ws m m,225,Ga⟩⟩,⟨80,80,80,80,.b ⟨[zN n],3,Gd⟩⟩,⟨112,112,112,112,.b ⟨[Wb 40 40 0 m 1],224,Gd⟩⟩,⟨160,160,160,160,.l aam z9 (rangeAt Tryz.prog 108 0).1 (rangeAt Tryz.prog 108 0).2.1 (rangeAt Tryz.prog 108 0).2.2 126 [(63,zN m),(87,zI (2*(N:Int))),(5,zI 0),(9,Wb 32 32 0 N 1),(89,Wb 40 40 0 m 1),(85,Wb 0 0 0 N 1),(4,zS),(8,WA 24 24 0),(88,zI (2*(N:Int)-2)),(12,Wb 40 40 0 m 1),(6,WA 8 8 0),(90,Yd (Xi 177) [] [WA 112 112 0]),(14,WA 80 80 0),(86,zN N)]⟩] 384⟩] 1000 64 (fun|⟨j,hj,_⟩,Q,ZA,ZC=>.B 2 ((j:Int)<n) (λ p4 Z5=>.K 1 (Ga&&Ao ((j:Int)<n)&&Ga) Pe<|.K 2 (Wf (j*2+2) (v0 (v8 dk (wx n (av ws (zL ((k:Int)-1))))))) (by(rw[bg (k:=2) (λ(x:Pc)=>(rfl:(dk x).length=2)),Wi];refine We ?_;have z:=hT.i.nextk om (((k:Int)-1).toNat) om;have z2:=hT.l;have z3:=cX ws (((k:Int)-1).toNat);have z4:(wx n (av ws ((k:Int)-1).toNat)).length=n:=Xw z.1;omega))<|.lst (wx 2 (Ag (j*2) (v8 dk (wx n (av ws (zL ((k:Int)-1))))))) ([zN (Pc.w (wm (wx n (av ws (zL ((k:Int)-1)))) j lb)),D.v (.bool (Pc.p (wm (wx n (av ws (zL ((k:Int)-1)))) j lb)))]) (aI (k:=2) (i:=j) (λ _=>rfl) MM om)<|.R 11 (Pc.p (wm (wx n (av ws (zL ((k:Int)-1)))) j lb)) (λ p5=>.I 3 ((↑(cZ (av ws (zL ((k:Int)-1))) j):Int)+1) (by(have z:=hT.i.nextk om (((k:Int)-1).toNat) om;have z2:=hT.l;have z3:=cX ws (((k:Int)-1).toNat);have z4:(wx n (av ws ((k:Int)-1).toNat)).length=n:=Xw z.1;have h7:=wa (av ws ((k:Int)-1).toNat) j;omega))<|.I 3 (j+1) MM<|.V 1 17 (zI ((↑(cZ (av ws (zL ((k:Int)-1))) j):Int)+1)) (zN (cZ (av ws (zL ((k:Int)-1))) (j+1))) (by(have z:=hT.i.nextk om (((k:Int)-1).toNat) om;have z2:=hT.l;have z3:=cX ws (((k:Int)-1).toNat);have z4:(wx n (av ws ((k:Int)-1).toNat)).length=n:=Xw z.1;refine aF ?_;rw[Ph (n:=n) om z.1 aG];omega))<|.val 97 (zI (j+1)) (zN (j+1)) Ex<|Aw ZA ⟨(j+1),om,⟨⟩⟩ VC [(0,0),(8,8),(16,16),(24,24),(32,32),(40,40),(80,80),(112,112),(160,160)] um) (λ p5=>.I 2 (j+1) MM<|.V 1 17 (zN (cZ (av ws (zL ((k:Int)-1))) j)) (zN (cZ (av ws (zL ((k:Int)-1))) (j+1))) (by(have z:=hT.i.nextk om (((k:Int)-1).toNat) om;have z2:=hT.l;have z3:=cX ws (((k:Int)-1).toNat);have z4:(wx n (av ws ((k:Int)-1).toNat)).length=n:=Xw z.1;rw[Pi (n:=n) om z.1 aG]))<|.val 97 (zI (j+1)) (zN (j+1)) Ex<|Aw ZA ⟨(j+1),om,⟨⟩⟩ VC [(0,0),(8,8),(16,16),(24,24),(32,32),(40,40),(80,80),(112,112),(160,160)] um)) (λ p4 Z5=>.val 17 (zN (cZ (av ws (zL ((k:Int)-1))) j)) (zN (cZ (av ws (zL ((k:Int)-1))) n)) (by(rw[show j=n from by omega]))<|.val 97 (zN j) (zN n) Pe<|BO ZC 0 (():Unit) rfl [(0,0),(8,8),(16,16),(24,24),(32,32),(40,40),(80,80),(112,112),(160,160)] um)) (fun|⟨j,hj,_⟩=>by kernel_rfl) ⟨(0),om,⟨⟩⟩ [(0,0),(8,8),(16,16),(24,24),(32,32),(40,40),(80,80),(112,112),(160,160)] um (bB (fun|()=>.I 9 (n-(↑(cZ (av ws (zL ((k:Int)-1))) n):Int)) MM<|.K 1 (aV z9 (Ge ((n:Int)-(↑(cZ (av ws (zL ((k:Int)-1))) n):Int))) z9 N&&Ga) (by(have z:=hT.i.nextk om (((k:Int)-1).toNat) om;have z2:=hT.l;have z3:=cX ws (((k:Int)-1).toNat);have z4:(wx n (av ws ((k:Int)-1).toNat)).length=n:=Xw z.1;refine qp (n:=n-cZ (av ws ((k:Int)-1).toNat) n) ?_ ?_<;>omega))<|.M 2 16 16 (V8 (wo dB o) 5 Ga) (V8 (wo dB (cD o S 0)) 5 Ga) (by(rw[oJ]))<|BY T_ok ae Ga 126 312 (am Tryz.prog 108 3) (λ(x:(j:Nat)×'(hj:j<=n-cZ (av ws ((k:Int)-1).toNat) n)×'Unit)=>match x with|⟨j,hj,_⟩=>Wr [(4,zS),(5,zI 0),(6,WA 8 8 0),(8,WA 24 24 0),(14,WA 80 80 0),(16,Wu Gd (v0 (av ws (zL ((k:Int)-1)))) 2 (v8 dk (av ws (zL ((k:Int)-1))))),(17,zN (cZ (av ws (zL ((k:Int)-1))) n)),(90,Yd (Xi 177) [] [WA 112 112 0]),(92,Wu Gd (v0 (av ws (zL ((k:Int)-1)))) 2 (v8 dk (av ws (zL ((k:Int)-1))))),(93,Wu Gd (v0 (av ws (zL ((k:Int)-1)))) 2 (v8 dk (av ws (zL ((k:Int)-1))))),(94,zN n),(96,zN n),(97,zN n),(106,Wb 0 0 0 N 1),(107,zN n),(108,zN (cZ (av ws (zL ((k:Int)-1))) n)),(109,zI (n-(↑(cZ (av ws (zL ((k:Int)-1))) n):Int))),(110,Wb 0 0 0 (zL ((n:Int)-(↑(cZ (av ws (zL ((k:Int)-1))) n):Int))) 1),(111,zN (zL ((n:Int)-(↑(cZ (av ws (zL ((k:Int)-1))) n):Int)))),(112,nD j)] [⟨0,0,0,0,.b ⟨wo nD S,3,Ga⟩⟩,⟨8,8,8,8,.b ⟨[Wb 0 0 0 N 1],152,Gd⟩⟩,⟨16,16,16,16,.b ⟨(cD o S j).map dB,5,Ga⟩⟩,⟨24,24,24,24,.b ⟨[Wb 16 16 0 L 1],24,Gd⟩⟩,⟨32,32,32,32,.b ⟨wo nD ws,3,Ga⟩⟩,⟨40,40,40,40,.b ⟨i7 ws m m,225,Ga⟩⟩,⟨80,80,80,80,.b ⟨[zN n],3,Gd⟩⟩,⟨112,112,112,112,.b ⟨[Wb 40 40 0 m 1],224,Gd⟩⟩,⟨160,160,160,160,.l aam z9 (rangeAt Tryz.prog 108 0).1 (rangeAt Tryz.prog 108 0).2.1 (rangeAt Tryz.prog 108 0).2.2 126 [(63,zN m),(87,zI (2*(N:Int))),(5,zI 0),(9,Wb 32 32 0 N 1),(89,Wb 40 40 0 m 1),(85,Wb 0 0 0 N 1),(4,zS),(8,WA 24 24 0),(88,zI (2*(N:Int)-2)),(12,Wb 40 40 0 m 1),(6,WA 8 8 0),(90,Yd (Xi 177) [] [WA 112 112 0]),(14,WA 80 80 0),(86,zN N)]⟩] 384) (λ(x:(j:Nat)×'(hj:j<=n-cZ (av ws ((k:Int)-1).toNat) n)×'Unit)=>match x with|⟨j,hj,_⟩=>n-cZ (av ws ((k:Int)-1).toNat) n-j) [⟨Unit,.exit 8,λ()=>Wr [(4,zS),(5,zI 0),(6,WA 8 8 0),(8,WA 24 24 0),(14,WA 80 80 0),(16,Wu Gd (v0 (av ws (zL ((k:Int)-1)))) 2 (v8 dk (av ws (zL ((k:Int)-1))))),(17,zN (cZ (av ws (zL ((k:Int)-1))) n)),(90,Yd (Xi 177) [] [WA 112 112 0]),(92,Wu Gd (v0 (av ws (zL ((k:Int)-1)))) 2 (v8 dk (av ws (zL ((k:Int)-1))))),(93,Wu Gd (v0 (av ws (zL ((k:Int)-1)))) 2 (v8 dk (av ws (zL ((k:Int)-1))))),(94,zN n),(96,zN n),(97,zN n),(106,Wb 0 0 0 N 1),(107,zN n),(108,zN (cZ (av ws (zL ((k:Int)-1))) n)),(109,zI (n-(↑(cZ (av ws (zL ((k:Int)-1))) n):Int))),(110,Wb 0 0 0 (zL ((n:Int)-(↑(cZ (av ws (zL ((k:Int)-1))) n):Int))) 1),(111,zN (zL ((n:Int)-(↑(cZ (av ws (zL ((k:Int)-1))) n):Int))))] [⟨0,0,0,0,.b ⟨wo nD S,3,Ga⟩⟩,⟨8,8,8,8,.b ⟨[Wb 0 0 0 N 1],152,Gd⟩⟩,⟨16,16,16,16,.b ⟨(cD o S (n-cZ (av ws ((k:Int)-1).toNat) n)).map dB,5,Ga⟩⟩,⟨24,24,24,24,.b ⟨[Wb 16 16 0 L 1],24,Gd⟩⟩,⟨32,32,32,32,.b ⟨wo nD ws,3,Ga⟩⟩,⟨40,40,40,40,.b ⟨i7 ws m m,225,Ga⟩⟩,⟨80,80,80,80,.b ⟨[zN n],3,Gd⟩⟩,⟨112,112,112,112,.b ⟨[Wb 40 40 0 m 1],224,Gd⟩⟩,⟨160,160,160,160,.l aam z9 (rangeAt Tryz.prog 108 0).1 (rangeAt Tryz.prog 108 0).2.1 (rangeAt Tryz.prog 108 0).2.2 126 [(63,zN m),(87,zI (2*(N:Int))),(5,zI 0),(9,Wb 32 32 0 N 1),(89,Wb 40 40 0 m 1),(85,Wb 0 0 0 N 1),(4,zS),(8,WA 24 24 0),(88,zI (2*(N:Int)-2)),(12,Wb 40 40 0 m 1),(6,WA 8 8 0),(90,Yd (Xi 177) [] [WA 112 112 0]),(14,WA 80 80 0),(86,zN N)]⟩] 384⟩] 1000 64 (fun|⟨j,hj,_⟩,Q,ZA,ZC=>.B 2 ((j:Int)<(↑(zL ((n:Int)-(↑(cZ (av ws (zL ((k:Int)-1))) n):Int))):Int)) (λ p6 p6f=>.K 1 (Ga&&Ao ((j:Int)<(↑(zL ((n:Int)-(↑(cZ (av ws (zL ((k:Int)-1))) n):Int))):Int))) aG<|.O 2 ((wo nD S)[0+j*1]?) (nD (wm S (0+j*1) lb)) (aj _ _ Pe)<|.K 6 (Ga&&Ao ((↑(wm S (0+j*1) lb):Int)<(L:Int))) VD<|.O 2 ((wo dB (cD o S j))[0+wm S (0+j*1) lb*1]?) (dB (wm (cD o S j) (0+wm S (0+j*1) lb*1) lb)) (aj _ _ (by(have z:=hT.i.nextk om (((k:Int)-1).toNat) om;have z2:=hT.l;have z3:=cX ws (((k:Int)-1).toNat);have z4:(wx n (av ws ((k:Int)-1).toNat)).length=n:=Xw z.1;have h9:=hA.at (t:=0+j*1) om;have h8:=cE o S j;omega)))<|.O 2 (au .u8 ((↑(V7 (wm (cD o S j) (0+wm S (0+j*1) lb*1) lb)):Int)+1)) (bI (((↑(V7 (wm (cD o S j) (0+wm S (0+j*1) lb*1) lb)):Int)+1)%256)) (aD _ _)<|.K 1 (Ga&&Ao ((↑(wm S (0+j*1) lb):Int)<(L:Int))) VD<|.K 1 (Ga&&Wf (0+wm S (0+j*1) lb*1+1) (v0 (wo dB (cD o S j)))) (by(rw[Wj];have z:=hT.i.nextk om (((k:Int)-1).toNat) om;have z2:=hT.l;have z3:=cX ws (((k:Int)-1).toNat);have z4:(wx n (av ws ((k:Int)-1).toNat)).length=n:=Xw z.1;have h9:=hA.at (t:=0+j*1) om;have h8:=cE o S j;simp only[WM];refine We ?_;omega))<|.lst (ac (wo dB (cD o S j)) (0+wm S (0+j*1) lb*1) [bI (((↑(V7 (wm (cD o S j) (0+wm S (0+j*1) lb*1) lb)):Int)+1)%256)]) (ac (wo dB (cD o S j)) (wm S j lb) [bI (((↑(V7 (wm (cD o S j) (wm S j lb) lb)):Int)+1)%256)]) (by(simp;done))<|.I 2 (j+1) MM<|.V 1 112 (zI (j+1)) (zN (j+1)) Ex<|.blk 16 16 (V8 (ac (wo dB (cD o S j)) (wm S j lb) [bI (((↑(V7 (wm (cD o S j) (wm S j lb) lb)):Int)+1)%256)]) 5 Ga) (V8 (wo dB (cD o S (j+1))) 5 Ga) (by(have z:=hT.i.nextk om (((k:Int)-1).toNat) om;have z2:=hT.l;have z3:=cX ws (((k:Int)-1).toNat);have z4:(wx n (av ws ((k:Int)-1).toNat)).length=n:=Xw z.1;have h9:=hA.at (t:=0+j*1) om;have h8:=cE o S j;refine aq (Pj om ?_ ?_ ?_)<;>first|(simp only[WE,Wx];done)|rfl|(simp only[WE,Wx]at *;omega)))<|Aw ZA ⟨(j+1),om,⟨⟩⟩ (by show n-cZ (av ws (zL ((k:Int)-1))) n-(j+1)<n-cZ (av ws (zL ((k:Int)-1))) n-j;clear ZA ZC ZB ZD;omega) [(0,0),(8,8),(16,16),(24,24),(32,32),(40,40),(80,80),(112,112),(160,160)] um) (λ p6 p6f=>.blk 16 16 (V8 (wo dB (cD o S j)) 5 Ga) (V8 (wo dB (cD o S (n-cZ (av ws (zL ((k:Int)-1))) n))) 5 Ga) (by(rw[show j=n-cZ (av ws ((k:Int)-1).toNat) n from by omega]))<|BO ZC 0 (():Unit) rfl [(0,0),(8,8),(16,16),(24,24),(32,32),(40,40),(80,80),(112,112),(160,160)] um)) (fun|⟨j,hj,_⟩=>by kernel_rfl) ⟨(0),om,⟨⟩⟩ [(0,0),(8,8),(16,16),(24,24),(32,32),(40,40),(80,80),(112,112),(160,160)] um (bB (fun|()=>.I 3 (2*(↑(cZ (av ws (zL ((k:Int)-1))) n):Int)) MM<|.W 8 (k-1-1)<|.V 1 3 (zI (k-1-1)) (zI ((↑(k-1):Int)-1)) Pe<|.blk 80 80 (V8 [zI (2*(↑(cZ (av ws (zL ((k:Int)-1))) n):Int))] 3 Gd) (V8 [zN (2*cZ (av ws (zL ((k:Int)-1))) n)] 3 Gd) (by(exact IC om))<|Aw ZB ⟨(k-1),(2*cZ (av ws ((k:Int)-1).toNat) n),(cD o S (n-cZ (av ws ((k:Int)-1).toNat) n)),om,(by(exact hT.next' om _ om)),⟨⟩⟩ (by show k-1<k;clear ZB ZD;omega) [(0,0),(8,8),(16,16),(24,24),(32,32),(40,40),(80,80),(112,112),(160,160)] um))))) (λ p3 Z6=>.blk 16 16 (V8 (wo dB o) 5 Ga) (V8 (wo dB T) 5 Ga) (by(rw[hT.last om]))<|BO ZD 0 (⟨(n),⟨⟩⟩:(n2:Nat)×'Unit) rfl [(0,0),(8,8),(16,16),(24,24),(32,32),(40,40),(80,80),(112,112),(160,160)] um)) (fun|⟨k,n,o,hk,hT,_⟩=>by kernel_rfl) ⟨(m),(2*N-2),(Ar L 0),om,om,⟨⟩⟩ [(0,0),(8,8),(16,16),(24,24),(32,32),(40,40),(80,80),(112,112),(160,160)] um (bB (fun|⟨n2,_⟩=>.Y 5 [16] [16] (Xm [Wb 0 0 0 L 1,zI 0]) [V8 (wo dB T) 5 Ga] ok))))))) kr
def So(h:p:=by(have h9:=hA.at (t:=0) om;refine decide_eq_true ?_;omega)):=h
def VE(h:p:=by(have h9:((zW.bytes:Nat):Int)=1:=rfl;rw[h9];simp;omega)):=h
def Pl (W:Gw)(L:Nat)(hL:L=W.length)(hL2:L<=320)(hB:∀t,W.getD t lb<=1073741824)(m:Nat)(hm:1<=m/\m<=15)(S:Gw)(hS:cG W=S)(N:Nat)(hN:N=S.length)(hNm:N<=2^m)(hA:bH L S)(hN3:N<=320)(h2:N=1):S0 108 [.sl Gd L 1 (W.map nD),nD m] [] (.tup [.ref 0 0 0 L 1,iD 0]) [⟨((Wt L (0:UInt8)).set (S.getD 0 lb) (Xg 1)).map dB, 5,Ga⟩]:=SpR Tryz.func108 rfl rfl rfl ⟨aH _,trivial⟩ rfl 1000 64 (λ R ok=>.C 5 144 Gd [] (.fn JY (@rG (W) (L) om om om (m) om (S) aG (N) aG om))<|.K 18 (Ga&&Ao ((L:Int)<=L)&&Ga&&Ga&&Ga&&Ga&&Ao ((↑(Zo zW):Int)*(L:Int)<=140737488355328)) VE<|.E 11 ((N:Int)==1) So<|.K 8 (Ga&&Ao (0<(N:Int))) So<|.O 2 ((wo nD S)[0]?) (nD (wm S 0 lb)) (aj _ _ om)<|.K 1 (Ga&&Ao ((↑(wm S 0 lb):Int)<(L:Int))) So<|.K 1 (Ga&&Wf (0+wm S 0 lb*1+1) (v0 (bR [bI 0] (L*1)))) (by(have h9:=hA.at (t:=0) om;rw[mh,Wj,WP,WM];refine We ?_;omega))<|.lst (ac (bR [bI 0] (L*1)) (0+wm S 0 lb*1) [bI 1]) (ac (bR [bI 0] L) (wm S 0 lb) [bI 1]) (by(simp;done))<|.E 6 (Ao ((N:Int)<2)) So<|.U 5 [120] [120] (Xm [Wb 0 0 0 L 1,zI 0]) [V8 (ac (bR [bI 0] L) (wm S 0 lb) [bI 1]) 5 Ga] R (ok _ _ wr (by(have h9:=hA.at (t:=0) om;have e:=mh L;rw[Wx]at e;rw[e];exact congrArg (λ z=>[V8 z 5 Ga]) (jH (a:=1) (by decide) (by rw[WP];omega)))))) kr
def Pm (W:Gw)(L:Nat)(hL:L=W.length)(hL2:L<=320)(hB:∀t,W.getD t lb<=1073741824)(m:Nat)(hm:1<=m/\m<=15)(S:Gw)(hS:cG W=S)(N:Nat)(hN:N=S.length)(hNm:N<=2^m)(hA:bH L S)(hN3:N<=320)(h2:N=0):S0 108 [.sl Gd L 1 (W.map nD),nD m] [] (.tup [.ref 0 0 0 L 1,iD 0]) [⟨(Wt L (0:UInt8)).map dB, 5,Ga⟩]:=SpR Tryz.func108 rfl rfl rfl ⟨aH _,trivial⟩ rfl 1000 64 (λ R ok=>.C 5 144 Gd [] (.fn JY (@rG (W) (L) om om om (m) om (S) aG (N) aG om))<|.K 18 (Ga&&Ao ((L:Int)<=L)&&Ga&&Ga&&Ga&&Ga&&Ao ((↑(Zo zW):Int)*(L:Int)<=140737488355328)) VE<|.F 11 ((N:Int)==1) (by(refine decide_eq_false ?_;(omega)))<|.E 6 (Ao ((N:Int)<2)) (by(refine decide_eq_true ?_;(omega)))<|.U 5 [120] [120] (Xm [Wb 0 0 0 L 1,zI 0]) [V8 (bR [bI 0] (L*1)) 5 Ga] R (ok _ _ wr (by(rw[mh])))) kr
def rH (W S:Gw)(m:Nat):Z4:=
 if S.length=0 then Wt W.length 0 else if S.length=1 then(Wt W.length 0).set (S.getD 0 lb) (Xg 1)
 else xW (m9 W S S.length) S m (2*S.length-2) (Wt W.length 0)
def bE (W:Gw)(m:Nat):Z4:=lk W (rH W (cG W) m)
def ir (W:Gw)(m:Nat):bE W m=rH W (cG W) m:=aM _ _
def nf (ws S:Gw):∀(k n:Nat) (o:Z4),(xW ws S k n o).length=o.length
 |0,_,_=>rfl
 |k+1,n,o=>by rw[xW,nf ws S k,cE]
def kI (W:Gw)(m:Nat):(bE W m).length=W.length:=by
 rw[ir,rH]
 split
 ·rw[WP]
 ·split
  ·rw[X8,WP]
  ·rw[nf,WP]
def Pn (W:Gw)(L:Nat)(hL:L=W.length)(hL2:L<=320)(hB:∀t,W.getD t lb<=1073741824)(m:Nat)(hm:1<=m/\m<=15)(hNm:(eU W L).length<=2^m):S0 108 [.sl Gd L 1 (W.map nD),nD m] [] (.tup [.ref 0 0 0 L 1,iD 0]) [⟨(bE W m).map dB, 5,Ga⟩]:=by
 have hp:=dj W;have hl:=hp.length_eq;have hA:bH L (cG W):=by rw[hL];exact oG.perm hp
 have h3:=jW W L;rw[<-hL]at hl;rw[ir,rH]
 by_cases c0:(cG W).length=0
 ·rw[ZF c0,<-hL]
  exact Pm W L hL hL2 hB m hm _ rfl _ rfl om hA om c0
 ·rw[ZE c0]
  by_cases c1:(cG W).length=1
  ·rw[ZF c1,<-hL]
   exact Pl W L hL hL2 hB m hm _ rfl _ rfl om hA om c1
  ·rw[ZE c1,<-hL]
   have hwl:(m9 W (cG W) (cG W).length).length=(cG W).length:=kG (Wl _);refine Pk W L hL hL2 hB m hm _ rfl _ rfl om hA om om _ rfl hwl (λ w hw=>?_) _ ⟨?_,WP,rfl⟩
   ·rw[oH]at hw
    obtain⟨i,_,rfl⟩:=List.mem_map.1 hw;exact hB i
   ·have q:=LnI.first (ws:=m9 W (cG W) (cG W).length) hm.1 (by rw[hwl];omega) (by rw[hwl];omega)
    rwa [hwl]at q
def Sp(h:p:=by rw[WP]):=h
def Ac (l:eD):Nat:=(l.filter (λ x=>!x.p)).length
def xY (l:eD):Nat:=(l.filter (·.p)).length
def sW (l:eD):Gw:=(l.filter (λ x=>!x.p)).map (·.w)
def rJ (a b:eD):Ac (a++b)=Ac a+Ac b:=by unfold Ac;rw[XT,Wc]
def xZ (a b:eD):xY (a++b)=xY a+xY b:=by unfold xY;rw[XT,Wc]
def oM (ws:Gw):Ac (f8 ws)=ws.length/\xY (f8 ws)=0:=by
 unfold Ac xY f8;refine⟨?_,?_⟩
 ·rw[List.filter_eq_self.2 (λ x hx=>by obtain⟨w,_,rfl⟩:=List.mem_map.1 hx;rfl),Wj]
 ·rw[List.filter_eq_nil_iff.2 (λ x hx=>by obtain⟨w,_,rfl⟩:=List.mem_map.1 hx;simp)];rfl
def oN (ws:Gw)(n:Nat):(f8 ws).take n=f8 (ws.take n):=by unfold f8;rw[Yx]
def Cd (ws:Gw):sW (f8 ws)=ws:=by
 unfold sW f8;rw[List.filter_eq_self.2 (λ x hx=>by obtain⟨w,_,rfl⟩:=List.mem_map.1 hx;rfl),List.map_map];exact List.map_id ws
def Ce (s:Nat):∀ws:Gw,∃em,(eV s ws).1=f8 em++[⟨s,Ga⟩]/\ws=em++(eV s ws).2/\∀u r,(eV s ws).2=u::r->s<u
 |[]=>⟨[],rfl,rfl,λ u r h=>by cases h⟩
 |w::r=>by
  rw[eV];split
  ·next q=>exact⟨[],rfl,rfl,λ u r' h=>by cases h;exact q⟩
  ·obtain⟨em,h1,h2,h3⟩:=Ce s r
   exact⟨w::em,by rw[h1];rfl,by rw[YO,<-h2],h3⟩
def Cf:∀(row:eD) (ws:Gw),sW (fP row ws)=ws
 |[],ws=>Cd ws
 |[_],ws=>Cd ws
 |x::y::r,ws=>by
  obtain⟨em,h1,h2,_⟩:=Ce (x.w+y.w) ws;have ih:=Cf r (eV (x.w+y.w) ws).2;rw[fP,h1];unfold sW at *;rw[XT,W4,ih,XT,W4];have e:=Cd em;unfold sW at e;rw[e];show(em++[])++_=ws;rw[Xn,<-h2]
def KL (ws:Gw):∀k,sW (av ws k)=ws
 |0=>by rw[<-oI,fQ];exact Cf _ _
 |k+1=>by rw[<-lu,fQ];exact Cf _ _
def x4:∀(row:eD) (v ws:Gw),sW row=v++ws->∀n,Ac (row.take (2*xY ((fP row ws).take n)))<=v.length+Ac ((fP row ws).take n)
 |[],v,ws,_,n=>by
  have e:(fP [] ws).take n=f8 (ws.take n):=oN ws n;rw[e,(oM _).2];exact W5 _
 |[x],v,ws,_,n=>by
  have e:(fP [x] ws).take n=f8 (ws.take n):=oN ws n;rw[e,(oM _).2];exact W5 _
 |x::y::r,v,ws,h,n=>by
  obtain⟨em,h1,h2,h3⟩:=Ce (x.w+y.w) ws;have ih:=x4 r;rw[fP,h1];generalize(eV (x.w+y.w) ws).2=ws' at *;rcases WR em.length n with q|q
  ·have e:(f8 em++[(⟨x.w+y.w,Ga⟩:Pc)]++fP r ws').take n=(f8 em++[(⟨x.w+y.w,Ga⟩:Pc)])++(fP r ws').take (n-(em.length+1)):=by
    have l:(f8 em++[(⟨x.w+y.w,Ga⟩:Pc)]).length=em.length+1:=by unfold f8;rw[Wc,Wj];rfl
    rw[List.take_append,l,List.take_of_length_le om]
   rw[e,xZ,xZ,rJ,rJ,(oM em).1,(oM em).2];show Ac ((x::y::r).take (2*(0+1+_)))<=v.length+(em.length+0+_);generalize hZ:(fP r ws').take (n-(em.length+1))=Z;have hk:sW (x::y::r)=sW [x,y]++sW r:=by
    unfold sW;rw[show x::y::r=[x,y]++r from rfl,XT,W4]
   have hs:∀u∈sW [x,y],u<=x.w+y.w:=λ u hu=>by
    obtain⟨p,hp,rfl⟩:=List.mem_map.1 hu;rcases List.mem_cons.1 (List.mem_filter.1 hp).1 with rfl|hp
    ·omega
    ·cases List.mem_singleton.1 hp;omega
   have hl:(sW [x,y]).length=Ac [x,y]:=by unfold sW Ac;rw[Wj]
   rw[hk,h2,<-WI]at h;have hc:(sW [x,y]).length<=(v++em).length:=by
    rcases WR (v++em).length (sW [x,y]).length with z|z
    ·exfalso
     have g:(sW [x,y]++sW r)[(v++em).length]? =(v++em++ws')[(v++em).length]?:=by rw[h]
     rw[WO z,WJ (Wl _),Xz,Wa z]at g
     cases hw:ws' with
     |nil=>rw[hw]at g;cases g
     |cons u t=>
      rw[hw]at g;have g2:(sW [x,y])[(v++em).length]=u:=Option.some.inj g;have:=hs _ (Xf z);have:=h3 u t hw;omega
    ·exact z
   have hr:sW r=(v++em).drop (sW [x,y]).length++ws':=by
    have g:=congrArg (WT (sW [x,y]).length) h
    rwa [List.drop_left,List.drop_append_of_le_length hc]at g
   have i2:=ih _ ws' hr (n-(em.length+1));rw[hZ,Wy,Wc,hl]at i2;rw[Wc,hl]at hc;have e3:(x::y::r).take (2*(0+1+xY Z))=[x,y]++r.take (2*xY Z):=by
    rw[show 2*(0+1+xY Z)=2*xY Z+1+1 from by omega];rfl
   rw[e3,rJ];omega
  ·have e:(f8 em++[(⟨x.w+y.w,Ga⟩:Pc)]++fP r ws').take n=f8 (em.take n):=by
    have l:n<=(f8 em).length:=by unfold f8;rw[Wj];exact q
    rw[WI,Yn l,oN]
   rw[e,(oM _).2];exact W5 _
def IE (l:Gw)(j:Nat):Gw:=(l.take j).map (· +1)++l.drop j
def oO (m:Nat):Gw->Nat
 |[]=>0
 |x::r=>2^(m-x)+oO m r
def rK (m:Nat)(a b:Gw):oO m (a++b)=oO m a+oO m b:=by
 induction a with
 |nil=>simp[oO]
 |cons x a ih=>rw[YO,oO,oO,ih,XW]
def kJ (m d:Nat):∀a,oO m (Wt a d)=a*2^(m-d)
 |0=>by simp[oO]
 |a+1=>by rw[List.replicate_succ,oO,kJ m d a,aaI,Nat.add_comm]
def FM (ws:Gw):Nat->Nat->Gw->Gw
 |0,_,l=>l
 |k+1,n,l=>FM ws k (2*cZ (av ws k) n) (IE l (n-cZ (av ws k) n))
def ya (a b d:Nat):Wt (a+b) d=Wt a d++Wt b d:=List.replicate_append_replicate.symm
structure KrI (ws:Gw)(m k n a:Nat)(l:Gw):Prop where
 i:LnI ws k n
 km:k<=m
 z:k=0->n=0
 nx:k≠0->n-cZ (av ws (k-1)) n<=a
 sh:∃r,l=Wt a (m-k)++r/\∀x∈r,x<=m-k
 ph:2*oO m l=2*2^m+n*2^k
def Cg (l:eD):l.length=xY l+Ac l:=by unfold xY Ac;exact nc l
def Ch (row:eD)(n:Nat):cZ row n=xY (row.take n):=ip row n
def KrI.next {ws:Gw}{m k n a:Nat}{l:Gw}(h:KrI ws m (k+1) n a l):KrI ws m k (2*cZ (av ws k) n) (n-cZ (av ws k) n) (IE l (n-cZ (av ws k) n)):=by
 have hn:=LnI.next h.i;have ha:=h.nx (Yj k);rw[XK]at ha;obtain⟨r,hr,hx⟩:=h.sh;have hkm:=h.km;generalize hc:cZ (av ws k) n=c at *;refine⟨hn.2.2.2,by omega,λ hk=>?_,λ hk=>?_,?_,?_⟩
 ·subst hk
  have q:=na (av ws 0) n;rw[(iq ws 0).2.1,ZF rfl,hc]at q;omega
 ·obtain⟨j,rfl⟩:∃j,k=j+1:=⟨k-1,by omega⟩
  rw[XK];have q:=x4 (av ws j) [] ws (KL ws j) n;rw[<-fQ,lu,<-Ch,hc]at q;have q2:=Cg ((av ws (j+1)).take n);rw[<-Ch,hc,Wi]at q2;have q3:=Cg ((av ws j).take (2*c));have q4:=(hn.2.2.2).a (Yj j);rw[XK]at q4;rw[<-Ch,Wi]at q3;have q5:([]:Gw).length=0:=rfl;omega
 ·refine⟨Wt (a-(n-c)) (m-(k+1))++r,?_,λ x hx2=>?_⟩
  ·unfold IE
   rw[hr,show a=(n-c)+(a-(n-c))from by omega,ya,Zw,WI,List.take_left' Sp,List.drop_left' Sp,Ys,show m-(k+1)+1=m-k from by omega]
  ·rcases List.mem_append.1 hx2 with q|q
   ·have:=(List.mem_replicate.1 q).2;omega
   ·have:=hx x q;omega
 ·have hp:=h.ph
  have e:l=Wt (n-c) (m-(k+1))++(Wt (a-(n-c)) (m-(k+1))++r):=by
   rw[hr,<-WI,<-ya,show n-c+(a-(n-c))=a from by omega]
  have e2:IE l (n-c)=Wt (n-c) (m-k)++(Wt (a-(n-c)) (m-(k+1))++r):=by
   unfold IE;rw[e,List.take_left' Sp,List.drop_left' Sp,Ys,show m-(k+1)+1=m-k from by omega]
  rw[e,rK,kJ,show m-(m-(k+1))=k+1 from by omega]at hp;rw[e2,rK,kJ,show m-(m-k)=k from by omega];generalize oO m (Wt (a-(n-c)) (m-(k+1))++r)=Q at *;have e3:n=(n-c)+c:=by omega
  generalize n-c=b at *;subst e3;rw[XO]at hp;generalize 2^k=P at *;rw[Xt,Yb P 2,<-XS,<-XS,Yb b 2,Yb c 2,XS 2 b P,XS 2 c P]at hp;rw[XS 2 c P];omega
def KrI.last {ws:Gw}{m:Nat}:∀(k n a:Nat) (l:Gw),KrI ws m k n a l->oO m (FM ws k n l)=2^m/\(∀x∈FM ws k n l,x<=m)/\(FM ws k n l).length=l.length
 |0,n,a,l,h=>by
  have hz:=h.z rfl;have hp:=h.ph;rw[hz,XQ]at hp;obtain⟨r,hr,hx⟩:=h.sh;refine⟨by rw[FM];omega,λ x hx2=>?_,rfl⟩;rw[FM,hr]at hx2;rcases List.mem_append.1 hx2 with q|q
  ·have:=(List.mem_replicate.1 q).2;omega
  ·have:=hx x q;omega
 |k+1,n,a,l,h=>by
  have q:=KrI.last k _ _ _ h.next;rw[FM];refine⟨q.1,q.2.1,q.2.2.trans ?_⟩;unfold IE;rw[Wc,Wj,Wi,Wy];omega
def yb {m:Nat}:∀{l:Gw},oO m l=2^m->2<=l.length->∀x∈l,x≠0:=fun{l} h h2 x hx h0=>by
 obtain⟨a,b,rfl⟩:=List.append_of_mem hx;rw[rK,oO,h0,Nat.sub_zero]at h;have pos:∀l:Gw,l.length<=oO m l:=λ l=>by
  induction l with
  |nil=>exact Wl _
  |cons y l ih=>rw[oO,WQ];have:=Yr (m-y);omega
 have p1:=pos a;have p2:=pos b;rw[Wc,WQ]at h2;omega
def Ci {m:Nat}(hm:m<=15):∀l:Gw,(∀x∈l,x<=m)->oO 15 l=2^(15-m)*oO m l
 |[],_=>rfl
 |x::r,h=>by
  have hx:=h x WH;rw[oO,oO,Ci hm r (λ y hy=>h y (WG _ hy)),YM,<-Nat.pow_add,show 15-m+(m-x)=15-x from by omega]
end Vp
end Go.Proofs.YtefjnofhgkjpmaaGreat

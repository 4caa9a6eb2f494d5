/- Part 3. -/
import Derived.Test.YtefjnofhgkjpmaaGreatTm2
set_option linter.unusedVariables false
set_option linter.unusedSimpArgs false
set_option maxRecDepth 100000
set_option maxHeartbeats 4000000
open And renaming intro → V4
open BitVec renaming ofInt → VY, toNat → WC
open Bool renaming and_eq_true → VO, and_true → Wf, toNat_le → Zk, true_and → V8
open Go.Fn renaming func → WG
open Go.IntKind renaming i64 → VV, u32 → Wn, u64 → XQ, wrap → VU
open Go.LoopState renaming busy → Zy, ready → Yw
open Go.Value renaming int → WQ
open Go.Vx.Blk renaming mk → VF
open Go.Vx.CallOk renaming fn → V0
open Go.Vx.CutS renaming mk → VZ
open Go.Vx.D renaming fn → XG, ptr → V7, ref → VJ, sl → V3, tup → WL
open Go.Vx.TI renaming bytes → YO
open Inhabited renaming default → lh
open Int renaming fdiv → WJ, natCast_ediv → Yp, tmod → WW, toNat → zq, toNat_natCast → XB
open List renaming append_assoc → Wc, append_nil → WN, cons_append → Yh, drop → Wx, drop_eq_getElem_cons → Xv, drop_eq_nil_of_le → WS, drop_replicate → Zt, ext_getElem? → WD, filter_append → Xo, filter_cons_of_neg → XY, filter_cons_of_pos → XX, flatMap_append → WH, flatMap_cons → W9, getD_eq_getElem?_getD → VH, getElem?_append_left → Wi, getElem?_append_right → We, getElem?_eq_getElem → VG, getElem?_eq_none → Wh, getElem?_map → V6, getElem?_range → W0, getElem?_replicate → Xd, getElem?_set → W7, getElem?_take → WA, getElem_mem → WE, length_append → VI, length_cons → Wj, length_drop → Wr, length_filter_le → Yx, length_map → VP, length_nil → XJ, length_range → Xt, length_replicate → Wk, length_set → Xz, length_singleton → Wv, length_take → VW, length_take_of_le → WY, map_append → Wz, map_congr_left → Zs, map_replicate → XU, map_take → XZ, mem_cons_of_mem → Wa, mem_cons_self → Wb, mem_or_eq_of_mem_set → ZH, range → WP, range_succ → Yv, replicate → V1, take → Ws, take_append_of_le_length → XP, take_length → Xh, take_replicate → aax, take_sublist → ZJ, take_succ_eq_append_getElem → Wo
open List.Perm renaming refl → X7
open Nat renaming add_assoc → Xr, add_mul → WV, add_sub_cancel → Xf, add_sub_cancel_left → YW, beq → VK, beq_refl → WK, ble → VN, ble_eq_true_of_le → VL, div_le_self → XK, le_refl → VT, le_trans → VR, lt_or_ge → Wl, lt_succ_self → Zf, min → Xg, min_eq_left → Zr, mul_add → Yf, mul_assoc → Xn, mul_comm → XE, mul_le_mul_left → YL, mul_le_mul_right → Ww, mul_one → V5, not_lt_zero → Xi, pow_add → aaq, pow_le_pow_right → WF, pow_succ → Xj, sub_self → W5, succ_mul → ZZ, succ_ne_zero → XL, two_pow_pos → XT, zero_add → Wd, zero_le → Wy, zero_lt_one → Yl, zero_mul → Xl
open Prod renaming fst → V2, snd → VM
open UInt8 renaming ofNat → WI, toNat → VE, toNat_lt → WB
namespace Go.Proofs.YtefjnofhgkjpmaaGreat
open Go.RowKit Go.Bw Go.Vx
open List (length getD map take drop flatMap replicate)
namespace Vp
def dG (v:Nat):Nat->Nat
 |0=>0
 |i+1=>2*dG v i+(v.testBit i).toNat
def Ao (v n i:Nat):Nat:=lk [()] (2^(n-i)*dG v i)
theorem rh (v n i:Nat):Ao v n i=2^(n-i)*dG v i:=aP _ _
theorem od (v:Nat):∀n,dG v n<2^n
 |0=>Yl
 |n+1=>by
  have h:=od v n;have h2:=Zk (v.testBit n);rw[dG,Xj];omega
theorem Bo {v n i:Nat}(h:i<=n):Ao v n i<2^n:=by
 rw[rh];have h2:=od v i;have e:2^n=2^(n-i)*2^i:=by rw[<-aaq];congr 1;omega
 rw[e];exact Nat.mul_lt_mul_of_pos_left h2 (XT _)
theorem Nw (v n:Nat):Ao v n n=dG v n:=by rw[rh,W5,Nat.pow_zero,Nat.one_mul]
theorem SU {v n i:Nat}{X z:Int}(hi:i<n)(hn:n<=32)(hX:X=((Ao v n i:Nat):Int))(hz:z=(((v.testBit i).toNat:Nat):Int)):IntKind.u32.wrap ((VY 32 X|||VY 32 (2^min ((n:Int)-1-(i:Int)).toNat 32*z%4294967296)).toNat:Int)=((Ao v n (i+1):Nat):Int):=by
 subst hX hz;have h1:=Bo (v:=v) (n:=n) (i:=i) om;have h2:=Bo (v:=v) (n:=n) (i:=i+1) om;have h3:2^n<=2^32:=WF (by decide) hn;have hb:=Zk (v.testBit i);have e1:2^(n-i)=2*2^(n-(i+1)):=by rw[show n-i=(n-(i+1))+1 from by omega,Xj,XE]
 have e2:Ao v n (i+1)=2^(n-i)*dG v i+2^(n-(i+1))*(v.testBit i).toNat:=by
  rw[rh,dG,Yf,e1,<-Xn,XE (2^(n-(i+1))) 2]
 have e3:2^(n-(i+1))*(v.testBit i).toNat<2^(n-i):=by
  have:2^(n-(i+1))*(v.testBit i).toNat<=2^(n-(i+1))*1:=YL _ hb;have h5:=XT (n-(i+1));omega
 have h6:2^(n-(i+1))*(v.testBit i).toNat<=4294967295:=by rw[e2]at h2;omega
 rw[show min ((n:Int)-1-(i:Int)).toNat 32=n-(i+1)from by omega,show(2:Int)^(n-(i+1))*(((v.testBit i).toNat:Nat):Int)=((2^(n-(i+1))*(v.testBit i).toNat:Nat):Int)from by push_cast;rfl,show((2^(n-(i+1))*(v.testBit i).toNat:Nat):Int)%4294967296=((2^(n-(i+1))*(v.testBit i).toNat:Nat):Int)from by omega];rw[rh]at h1 ⊢;rw[e2]at h2 ⊢;have h4:2^(n-i)*dG v i<=4294967295∧2^(n-(i+1))*(v.testBit i).toNat<=4294967295:=by omega
 rw[zy om om,XB,XB,<-Nat.two_pow_add_eq_or_of_lt e3]
theorem JI {v i:Nat}(hi:i<=32)(hv:v<4294967296):IntKind.u32.wrap ((VY 32 ((v:Int).fdiv (2^min i 32))&&&VY 32 1).toNat:Int)=(((v.testBit i).toNat:Nat):Int):=by
 have hd:v/2^i<=v:=XK _ _;rw[show min i 32=i from by omega,show(2:Int)^i=((2^i:Nat):Int)from by push_cast;rfl,Int.fdiv_eq_ediv_of_nonneg _ (Int.natCast_nonneg _),<-Yp,Nat.toNat_testBit];generalize v/2^i=Y at *;rw[mj 1 2 om (by decide) (by decide) (by decide)];omega
theorem cd (v n:Nat)(hn:n<=32)(hv:v<2^n):S0 152 [.v (.int .u32 (v:Int)),nD n] [] (.tup [.v (.int .u32 ((dG v n:Nat):Int)),iD 0]) []:=by
 have h8:=Bm hv hn;have h4:=Bn hv hn;have h5:v<4294967296:=Nat.lt_of_lt_of_le hv (WF (n:=2) (by decide) hn);refine SpR Tryz.func152 rfl rfl rfl trivial rfl 1000 64 (λ R ok=>.E 19 (decide ((n:Int)<=32)) (by(refine decide_eq_true ?_;(omega)))<|.O 2 (ay .u64 (v:Int)) (D.v (WQ .u64 (v:Int))) (bA om)<|.O 5 (aV XQ (WJ (v:Int) (2^min n 64))) (D.v (WQ .u64 (WJ (v:Int) (2^min n 64)))) (cb _ _)<|.F 6 (!WJ (v:Int) (2^min n 64)==0) (by(simp <;>(omega)))<|.s 2<|Hn.inl T_ok ah false 28 0 (aq Tryz.prog 152 0) (λ(x:(i:Nat)×'(hi:i<=n)×'Unit)=>match x with|⟨i,hi,_⟩=>VZ [(0,ai v),(1,zN n),(4,.v (.int .u32 ((Ao v n i:Nat):Int))),(11,zN n),(12,nD i)] [] 0) (λ(x:(i:Nat)×'(hi:i<=n)×'Unit)=>match x with|⟨i,hi,_⟩=>n-i) [⟨Unit,.exit 0,λ x=>match x with|()=>VZ [(0,ai v),(1,zN n),(4,.v (.int .u32 ((dG v n:Nat):Int))),(11,zN n)] [] 0⟩] 1000 64 (fun|⟨i,hi,_⟩,Q,ZB,ZD=>.B 2 ((i:Int)<n) (λ p0 Z9=>.O 7 (aV Wn (WJ (v:Int) (2^min i 32))) (uI (WJ (v:Int) (2^min i 32))) (cb _ _)<|.O 2 (aV Wn (VU Wn (↑(WC (VY 32 (WJ (v:Int) (2^min i 32))&&&VY 32 1)):Int))) (uI (VU Wn (↑(WC (VY 32 (WJ (v:Int) (2^min i 32))&&&VY 32 1)):Int))) (cb _ _)<|.W 3 (n-1)<|.W 3 (n-1-i)<|.K 1 (decide (0<=(n:Int)-1-i)) (by(refine decide_eq_true ?_;(omega)))<|.opt (ay .u32 (2^min (zq ((n:Int)-1-i)) 32*VU Wn (↑(WC (VY 32 (WJ (v:Int) (2^min i 32))&&&VY 32 1)):Int))) (uI (2^min (zq ((n:Int)-1-i)) 32*VU Wn (↑(WC (VY 32 (WJ (v:Int) (2^min i 32))&&&VY 32 1)):Int)%4294967296)) (aE _ _)<|.O 2 (aV Wn (VU Wn (↑(WC (VY 32 (↑(Ao v n i):Int)|||VY 32 (2^min (zq ((n:Int)-1-i)) 32*VU Wn (↑(WC (VY 32 (WJ (v:Int) (2^min i 32))&&&VY 32 1)):Int)%4294967296))):Int))) (uI (VU Wn (↑(WC (VY 32 (↑(Ao v n i):Int)|||VY 32 (2^min (zq ((n:Int)-1-i)) 32*VU Wn (↑(WC (VY 32 (WJ (v:Int) (2^min i 32))&&&VY 32 1)):Int)%4294967296))):Int))) (cb _ _)<|.W 3 (i+1)<|.V 1 4 (uI (VU Wn (↑(WC (VY 32 (↑(Ao v n i):Int)|||VY 32 (2^min (zq ((n:Int)-1-i)) 32*VU Wn (↑(WC (VY 32 (WJ (v:Int) (2^min i 32))&&&VY 32 1)):Int)%4294967296))):Int))) (ai (Ao v n (i+1))) (by(exact aG (SU om hn rfl (JI om om))))<|.val 12 (zI (i+1)) (zN (i+1)) (by(refine aG ?_;(omega)))<|Hn.next ZB ⟨(i+1),om,⟨⟩⟩ (by show n-(i+1)<n-i;clear ZB ZD;omega) [] ro) (λ p0 Z9=>.val 4 (ai (Ao v n i)) (ai (dG v n)) (by(rw[show i=n from by(omega),Nw]))<|Hn.last ZD 0 (():Unit) rfl [] ro)) (fun|⟨i,hi,_⟩=>by kernel_rfl) ⟨(0),om,⟨⟩⟩ [] ro (bM (fun|()=>.Y 3 [] [] (WL [ai (dG v n),zI 0]) [] ok))) kr
def cR (x:Nat):D:=.v (.int .u32 ((x:Nat):Int))
def aR (x:Nat):Nat->Nat
 |0=>x
 |i+1=>aR x i/2
theorem oe (x:Nat):∀i,aR x i=x/2^i
 |0=>(Nat.div_one x).symm
 |i+1=>by rw[aR,oe x i,Nat.div_div_eq_div_mul,Xj]
theorem eV (x:Nat):∀i,aR x i<=x
 |0=>VT _
 |i+1=>by rw[aR];have:=eV x i;omega
def dJ:Nat->Nat
 |0=>1
 |i+1=>2*dJ i
theorem xm:∀i,dJ i=2^i
 |0=>rfl
 |i+1=>by rw[dJ,xm i,Xj,XE]
theorem ES {i:Nat}(h:i<=32):dJ i<=4294967296:=by rw[xm];exact WF (show 0<2 by decide) h
theorem Bp (b:Z4)(p:Nat):ln b p=aR (b.getD (p/8) lh).toNat (p%8)%2:=by rw[oe];rfl
theorem SV (k:Nat)(hk:k<=32):S0 129 [nD k] [] (.v (.int .u64 ((dJ k:Nat):Int))) []:=SpR Tryz.func129 rfl rfl rfl trivial rfl 1000 64 (λ R ok=>.s 3<|Hn.inl T_ok ah false 13 0 (aq Tryz.prog 129 0) (λ(x:(i:Nat)×'(hi:i<=k)×'Unit)=>match x with|⟨i,hi,_⟩=>VZ [(0,zN k),(3,.v (.int .u64 ((dJ i:Nat):Int))),(4,nD i)] [] 0) (λ(x:(i:Nat)×'(hi:i<=k)×'Unit)=>match x with|⟨i,hi,_⟩=>k-i) [⟨Unit,.exit 0,λ x=>match x with|()=>VZ [(0,zN k),(3,.v (.int .u64 ((dJ k:Nat):Int))),(4,nD k)] [] 0⟩] 1000 64 (fun|⟨i,hi,_⟩,Q,ZB,ZD=>.B 4 ((i:Int)<k) (λ p0 Z9=>.O 3 (ay .u64 (2*(↑(dJ i):Int))) (D.v (WQ .u64 (2*(↑(dJ i):Int)))) (bA (by(have h9:=ES (i:=i) om;omega)))<|.W 4 (i+1)<|.V 1 3 (D.v (WQ .u64 (2*(↑(dJ i):Int)))) (D.v (WQ .u64 (↑(dJ (i+1)):Int))) (by(rw[dJ];refine aG ?_;omega))<|.val 4 (zI (i+1)) (zN (i+1)) (by(refine aG ?_;(omega)))<|Hn.next ZB ⟨(i+1),om,⟨⟩⟩ (by show k-(i+1)<k-i;clear ZB ZD;omega) [] ro) (λ p0 Z9=>.val 3 (D.v (WQ .u64 (↑(dJ i):Int))) (D.v (WQ .u64 (↑(dJ k):Int))) (by(rw[show i=k from by omega]))<|.val 4 (zN i) (zN k) (by(rw[show i=k from by omega]))<|Hn.last ZD 0 (():Unit) rfl [] ro)) (fun|⟨i,hi,_⟩=>by kernel_rfl) ⟨(0),om,⟨⟩⟩ [] ro (bM (fun|()=>.Y 2 [] [] (D.v (WQ .u64 (↑(dJ k):Int))) [] ok))) kr
theorem fB {v:Nat}(h:v<=15):aR 32768 v=2^(15-v):=by
 rw[oe,show(32768:Nat)=2^15 from rfl,Nat.pow_div h (by decide)]
theorem Hx (v:Nat)(hv:v<256):S0 164 [dY v] [] (nD (aR 32768 v)) []:=SpR Tryz.func164 rfl rfl rfl trivial rfl 1000 64 (λ R ok=>.s 3<|Hn.inl T_ok ah false 14 0 (aq Tryz.prog 164 0) (λ(x:(i:Nat)×'(hi:i<=v)×'Unit)=>match x with|⟨i,hi,_⟩=>VZ [(0,da v),(3,nD (aR 32768 i)),(4,nD i)] [] 0) (λ(x:(i:Nat)×'(hi:i<=v)×'Unit)=>match x with|⟨i,hi,_⟩=>v-i) [⟨Unit,.exit 0,λ x=>match x with|()=>VZ [(0,da v),(3,nD (aR 32768 v)),(4,nD v)] [] 0⟩] 1000 64 (fun|⟨i,hi,_⟩,Q,ZB,ZD=>.W 3 (v:Int)<|.B 2 ((i:Int)<v) (λ p0 Z9=>.O 3 (aV VV (VU VV (Int.tdiv (↑(aR 32768 i):Int) 2))) (zI ((↑(aR 32768 i):Int)/2)) (au (@aN  ((↑(aR 32768 i):Int)) (2) (by(have h9:=eV 32768 i;omega)) om))<|.W 4 (i+1)<|.V 1 3 (zI ((↑(aR 32768 i):Int)/2)) (zN (aR 32768 (i+1))) (by(rw[aR];refine aG ?_;omega))<|.val 4 (zI (i+1)) (zN (i+1)) (by(refine aG ?_;(omega)))<|Hn.next ZB ⟨(i+1),om,⟨⟩⟩ (by show v-(i+1)<v-i;clear ZB ZD;omega) [] ro) (λ p0 Z9=>.val 3 (zN (aR 32768 i)) (zN (aR 32768 v)) (by(rw[show i=v from by omega]))<|.val 4 (zN i) (zN v) (by(rw[show i=v from by omega]))<|Hn.last ZD 0 (():Unit) rfl [] ro)) (fun|⟨i,hi,_⟩=>by kernel_rfl) ⟨(0),om,⟨⟩⟩ [] ro (bM (fun|()=>.Y 2 [] [] (zN (aR 32768 v)) [] ok))) kr
theorem JJ {p:Prop}(h:p:=by(have h7:=iV (a:=a) om;have h6:=XK (gl l a k) (aR 32768 a);have h9:=vT (l:=l) (n:=a) (k:=k) om om;have h8:=eV 32768 a;omega)):p:=h
theorem JK {p:Prop}(h:p:=by(rw[show k=n from by omega])):p:=h
theorem Ny {p:Prop}(h:p:=by(have q:=JM (l:=l) (n:=a) (k:=k) om om;refine aG ?_;omega)):p:=h
theorem Nz {p:Prop}(h:p:=by show n-(k+1)<n-k;clear ZA ZC ZB ZD;omega):p:=h
def u5 (l:Z4):Nat->Nat
 |0=>0
 |n+1=>u5 l n+(if n=0 then 0 else(fg l n l.length).length*aR 32768 n)
def gl (l:Z4)(n k:Nat):Nat:=lk l (u5 l n+(if n=0 then 0 else(fg l n k).length*aR 32768 n))
theorem io (l:Z4)(n k:Nat):gl l n k=u5 l n+(if n=0 then 0 else(fg l n k).length*aR 32768 n):=aP _ _
theorem NA (l:Z4):gl l 1 0=0:=by
 rw[io,ZE (by decide)];have:fg l 1 0=[]:=rfl;rw[this,XJ,Xl];rfl
theorem JL (l:Z4)(n:Nat):gl l (n+1) 0=gl l n l.length:=by
 rw[io,io,u5,ZE (XL n)];have:fg l (n+1) 0=[]:=rfl;rw[this,XJ,Xl,Nat.add_zero]
theorem NB {l:Z4}{n k:Nat}(h0:n≠0)(h:(l.getD k lh).toNat=n):gl l n (k+1)=gl l n k+aR 32768 n:=by
 rw[io,io,ZE h0,ZE h0,fA,ZF h,VI,Wv,ZZ,Xr]
theorem NC {l:Z4}{n k:Nat}(h:(l.getD k lh).toNat≠n):gl l n (k+1)=gl l n k:=by
 rw[io,io,fA,ZE h,WN]
theorem Bq (l:Z4):∀n,u5 l n<=n*(l.length*32768)
 |0=>Wy _
 |n+1=>by
  have h1:=Bq l n;have h2:=Nat.mul_le_mul (rf l n l.length) (eV 32768 n);rw[u5,ZZ]
  split
  ·omega
  ·omega
theorem vT {l:Z4}{n k:Nat}(hn:n<=16)(hk:k<=l.length):gl l n k<=17*(l.length*32768):=by
 rw[io];have h1:=Bq l n;have h2:=Nat.mul_le_mul (rf l n k) (eV 32768 n);have h3:n*(l.length*32768)<=16*(l.length*32768):=Ww _ hn;have h4:k*32768<=l.length*32768:=Ww _ hk
 split<;>omega
def sJ (l:Z4)(j:Nat):Nat:=gl l (l.getD j lh).toNat j/aR 32768 (l.getD j lh).toNat
def u6 (l:Z4)(n k j:Nat):Nat×Nat:=
 if(l.getD j lh).toNat≠0∧((l.getD j lh).toNat<n∨(l.getD j lh).toNat=n∧j<k)then(sJ l j,(l.getD j lh).toNat)else(0,0)
def md (l:Z4)(n k:Nat):List (Nat×Nat):=lk l ((WP l.length).map (u6 l n k))
theorem og (l:Z4)(n k:Nat):md l n k=(WP l.length).map (u6 l n k):=aP _ _
def ab (l:Z4):List (Nat×Nat):=lk l (md l 16 0)
theorem ri (l:Z4):ab l=md l 16 0:=aP _ _
def dO (c:Nat×Nat):List D:=[cR c.1,dY c.2]
theorem oh (l:Z4)(n k:Nat):(md l n k).length=l.length:=by rw[og,VP,Xt]
theorem ET (l:Z4):(ab l).length=l.length:=by rw[ri,oh]
theorem tK {l:Z4}{n k m j:Nat}(h:∀i,i<l.length->u6 l n k i=u6 l m j i):md l n k=md l m j:=by
 rw[og,og];exact Zs λ i hi=>h i (List.mem_range.1 hi)
theorem ND (l:Z4)(n:Nat):md l (n+1) 0=md l n l.length:=tK λ i hi=>by
 unfold u6
 by_cases h:(l.getD i lh).toNat≠0∧(l.getD i lh).toNat<n+1
 ·rw[ZF ⟨h.1,.inl h.2⟩,ZF ⟨h.1,by omega⟩]
 ·rw[ZE (λ q=>by omega),ZE (λ q=>by omega)]
theorem Br {l:Z4}{n k i:Nat}(e:i≠k):u6 l n (k+1) i=u6 l n k i:=by
 unfold u6
 by_cases q:(l.getD i lh).toNat≠0∧((l.getD i lh).toNat<n∨(l.getD i lh).toNat=n∧i<k)
 ·rw[ZF q,ZF om]
 ·rw[ZE q,ZE om]
theorem SW {l:Z4}{n k:Nat}(h:(l.getD k lh).toNat≠n):md l n (k+1)=md l n k:=tK λ i hi=>by
 by_cases e:i=k
 ·subst e
  unfold u6
  by_cases q:(l.getD i lh).toNat≠0∧(l.getD i lh).toNat<n
  ·rw[ZF ⟨q.1,.inl q.2⟩,ZF ⟨q.1,.inl q.2⟩]
  ·rw[ZE (λ q=>by omega),ZE (λ q=>by omega)]
 ·exact Br e
theorem SX {l:Z4}{n k:Nat}(hk:k<l.length)(h0:n≠0)(h:(l.getD k lh).toNat=n):md l n (k+1)=(md l n k).set k (gl l n k/aR 32768 n,n):=by
 apply WD;intro i;rw[W7,oh,og,og,V6,V6]
 by_cases e:k=i
 ·subst e
  rw[ZF rfl,ZF hk,W0 hk];show some (u6 l n (k+1) k)=_;unfold u6 sJ;rw[ZF ⟨by omega,.inr ⟨h,by omega⟩⟩,h]
 ·rw[ZE e]
  rcases Wl i l.length with hi|hi
  ·rw[W0 hi]
   show some (u6 l n (k+1) i)=some (u6 l n k i);rw[Br (λ q=>e q.symm)]
  ·rw[Wh (by simpa using hi)];rfl
theorem SY (l:Z4):md l 1 0=V1 l.length (0,0):=by
 rw[og];apply WD;intro i;rw[V6,Xd];rcases Wl i l.length with hi|hi
 ·rw[W0 hi,ZF hi]
  show some (u6 l 1 0 i)=_;unfold u6;rw[ZE (λ q=>by omega)]
 ·rw[Wh (by simpa using hi),ZE om];rfl
theorem m6 (f:Nat×Nat->List D)(hf:∀c,(f c).length=2):∀(xs:List (Nat×Nat)) (k:Nat),(xs.flatMap f)[2*k]? =(xs[k]?).bind (λ c=>(f c)[0]?)∧(xs.flatMap f)[2*k+1]? =(xs[k]?).bind (λ c=>(f c)[1]?)
 |[],k=>by simp
 |c::r,0=>by
  rw[W9];exact⟨by rw[Wi (by rw[hf];omega)];rfl,by rw[Wi (by rw[hf];omega)];rfl⟩
 |c::r,k+1=>by
  have ih:=m6 f hf r k;rw[W9];refine⟨?_,?_⟩
  ·rw[We (by rw[hf];omega),hf,show 2*(k+1)-2=2*k from by omega,ih.1];rfl
  ·rw[We (by rw[hf];omega),hf,show 2*(k+1)+1-2=2*k+1 from by omega,ih.2];rfl
theorem xo {xs:List (Nat×Nat)}{k o:Nat}{c:Nat×Nat}(hk:k<xs.length)(ho:o=2*k):ag (xs.flatMap dO) o (dO c)=(xs.set k c).flatMap dO:=by
 have hl:∀ys:List (Nat×Nat),(ys.flatMap dO).length=2*ys.length:=λ ys=>by rw[bj (k:=2) (λ _=>rfl)];omega
 subst ho;apply WD;intro i;rw[cv (by rw[hl];show 2*k+2<=_;omega)];have hd:∃j,i=2*j∨i=2*j+1:=⟨i/2,by omega⟩
 obtain⟨j,hj⟩:=hd;have g1:=m6 dO (λ _=>rfl) xs j;have g2:=m6 dO (λ _=>rfl) (xs.set k c) j;show(if 2*k<=i∧i<2*k+2 then(dO c)[i-2*k]? else(xs.flatMap dO)[i]?)=_
 by_cases e:k=j
 ·subst e
  rw[W7,ZF rfl,ZF hk]at g2;rcases hj with rfl|rfl
  ·rw[ZF om,g2.1,W5];rfl
  ·rw[ZF om,g2.2,YW];rfl
 ·rw[W7,ZE e]at g2
  rw[ZE om];rcases hj with rfl|rfl
  ·rw[g1.1,g2.1]
  ·rw[g1.2,g2.2]
theorem Bs (n:Nat):bZ [D.v (.int .u32 0),D.v (.int .u8 0)] (n*2)=(V1 n ((0,0):Nat×Nat)).flatMap dO:=by
 apply WD;intro i;unfold bZ;rw[V6];obtain⟨j,hj⟩:∃j,i=2*j∨i=2*j+1:=⟨i/2,by omega⟩
 have g:=m6 dO (λ _=>rfl) (V1 n ((0,0):Nat×Nat)) j;rw[Xd]at g
 by_cases h:j<n
 ·rw[ZF h]at g
  rcases hj with rfl|rfl
  ·rw[W0 om,g.1]
   show some (List.getD _ (2*j%2) lh)=_;rw[show 2*j%2=0 from by omega];rfl
  ·rw[W0 om,g.2]
   show some (List.getD _ ((2*j+1)%2) lh)=_;rw[show(2*j+1)%2=1 from by omega];rfl
 ·rw[ZE h]at g
  rcases hj with rfl|rfl
  ·rw[Wh (by rw[Xt];omega),g.1];rfl
  ·rw[Wh (by rw[Xt];omega),g.2];rfl
theorem iV {a:Nat}(h:a<=15):1<=aR 32768 a:=by rw[fB h];exact XT _
theorem NE {l:Z4}{a k o:Nat}{x y:D}(hk:k<l.length)(h0:a≠0)(h:(l.getD (k*1) lh).toNat=a)(ho:o=2*k)(hx:x=cR (gl l a k/aR 32768 a))(hy:y=dY a):ag ((md l a k).flatMap dO) o [x,y]=(md l a (k+1)).flatMap dO:=by
 rw[V5]at h;rw[SX hk h0 h,<-xo (by rw[oh];exact hk) ho,hx,hy];rfl
theorem SZ {x y:Nat}(h:x<4294967296):D.v (.int .u32 ((x:Int)/(y:Int)%4294967296))=cR (x/y):=by
 have h2:=XK x y;refine aG ?_;rw[<-Yp];generalize x/y=z at *;omega
theorem NF {l:Z4}{n k:Nat}(h:(l.getD (k*1) lh).toNat≠n):md l n (k+1)=md l n k:=SW (by rwa [V5]at h)
theorem JM {l:Z4}{n k:Nat}(h0:n≠0)(h:(l.getD (k*1) lh).toNat=n):gl l n (k+1)=gl l n k+aR 32768 n:=NB h0 (by rwa [V5]at h)
theorem JN {l:Z4}{n k:Nat}(h:(l.getD (k*1) lh).toNat≠n):gl l n (k+1)=gl l n k:=NC (by rwa [V5]at h)
theorem Bt (l:Z4)(n:Nat)(hn:n=l.length)(hN:n<=1000):S0 130 [.sl false n 1 (l.map dB)] [] (.ref 0 0 0 (ab l).length 2) [⟨(ab l).flatMap dO, 210,true⟩]:=SpR Tryz.func130 rfl rfl rfl ⟨dn (λ _=>rfl) _,trivial⟩ rfl 1000 64 (λ R ok=>.K 4 (true&&decide ((n:Int)<=n)&&true&&true&&true&&true&&decide ((↑(YO qf):Int)*(n:Int)<=140737488355328)) (by(have h9:((qf.bytes:Nat):Int)=8:=rfl;rw[h9];simp;omega))<|.V 3 4 (zI 0) (zN (gl l 1 0)) (by(rw[NA];rfl))<|.blk 24 24 (VF (bZ [uI 0,bI 0] (n*2)) 210 true) (VF (flatMap dO (md l 1 0)) 210 true) (by(refine aw ?_;subst hn;rw[SY];exact Bs _))<|Hn.inl T_ok ah false 45 0 (aq Tryz.prog 130 0) (λ(x:(a:Nat)×'(ha:1<=a∧a<=16)×'Unit)=>match x with|⟨a,ha,_⟩=>VZ [(0,V3 false n 1 (map dB l)),(3,VJ 0 0 0 n 2),(4,nD (gl l a 0)),(5,nD a)] [⟨0,0,24,24,.b ⟨(md l a 0).flatMap dO,210,true⟩⟩] 8) (λ(x:(a:Nat)×'(ha:1<=a∧a<=16)×'Unit)=>match x with|⟨a,ha,_⟩=>16-a) [⟨Unit,.exit 0,λ x=>match x with|()=>VZ [(0,V3 false n 1 (map dB l)),(3,VJ 0 0 0 n 2),(4,nD (gl l 16 0)),(5,nD 16)] [⟨0,0,24,24,.b ⟨(ab l).flatMap dO,210,true⟩⟩] 8⟩] 1000 64 (fun|⟨a,ha,_⟩,Q,ZB,ZD=>.B 3 ((a:Int)<=15) (λ p0 Z9=>.s 1<|Hn.inl T_ok ah false 45 0 (aq Tryz.prog 130 1) (λ(x:(k:Nat)×'(hk:k<=n)×'Unit)=>match x with|⟨k,hk,_⟩=>VZ [(0,V3 false n 1 (map dB l)),(3,VJ 0 0 0 n 2),(4,nD (gl l a k)),(5,zN a),(6,nD k)] [⟨0,0,0,0,.b ⟨(md l a k).flatMap dO,210,true⟩⟩] 8) (λ(x:(k:Nat)×'(hk:k<=n)×'Unit)=>match x with|⟨k,hk,_⟩=>n-k) [⟨Unit,.exit 2,λ x=>match x with|()=>VZ [(0,V3 false n 1 (map dB l)),(3,VJ 0 0 0 n 2),(4,nD (gl l a n)),(5,zN a),(6,nD n)] [⟨0,0,0,0,.b ⟨(md l a n).flatMap dO,210,true⟩⟩] 8⟩] 1000 64 (fun|⟨k,hk,_⟩,Q,ZA,ZC=>.B 5 ((k:Int)<n) (λ p1 Z8=>.K 3 (true&&decide ((k:Int)<n)&&true) (by((refine aC ?_ ?_)<;>(repeat' (first|(refine aC ?_ ?_)|(with_reducible rfl)|(refine decide_eq_true ?_)|(refine VL ?_)|(refine dA ?_)))<;>(omega)))<|.O 2 ((map dB l)[k*1]?) (dB (getD l (k*1) lh)) (am _ _ om)<|.I 1 (↑(VE (getD l (k*1) lh)):Int) (by(exact dR _ (by decide) (by decide)))<|.R 3 ((↑(VE (getD l (k*1) lh)):Int)==(a:Int)) (λ p2=>have Z7:=eq_of_beq p2;.O 5 (ay .u8 (a:Int)) (da a) (gI om)<|.C 1 164 false [] (.fn Nd (@Hx (a) om))<|.K 1 (true&& !decide ((↑(aR 32768 a):Int)=0)) (by(simp;have h7:=iV (a:=a) om;have h6:=XK (gl l a k) (aR 32768 a);have h9:=vT (l:=l) (n:=a) (k:=k) om om;have h8:=eV 32768 a;omega))<|.opt (aV VV (VU VV (Int.tdiv (↑(gl l a k):Int) (↑(aR 32768 a):Int)))) (zI ((↑(gl l a k):Int)/(↑(aR 32768 a):Int))) (au (@aN  ((↑(gl l a k):Int)) ((↑(aR 32768 a):Int)) JJ JJ))<|.O 1 (ay .u32 ((↑(gl l a k):Int)/(↑(aR 32768 a):Int))) (uI ((↑(gl l a k):Int)/(↑(aR 32768 a):Int)%4294967296)) (aE _ _)<|.O 2 (ay .u8 (a:Int)) (da a) (gI om)<|.K 3 (true&&decide ((k:Int)<n)) aO<|.K 1 (true&&VN (0+k*2+2) (length (flatMap dO (md l a k)))) (by(simp only[V8];refine VL ?_;rw[bj (k:=2) (λ _=>rfl),oh];omega))<|.lst (ag (flatMap dO (md l a k)) (0+k*2) [uI ((↑(gl l a k):Int)/(↑(aR 32768 a):Int)%4294967296),da a]) (ag (flatMap dO (md l a k)) (k*2) [uI ((↑(gl l a k):Int)/(↑(aR 32768 a):Int)%4294967296),da a]) (by(simp;done))<|.O 3 (ay .u8 (a:Int)) (da a) (gI om)<|.C 1 164 false [] (.fn Nd (@Hx (a) om))<|.I 2 ((↑(gl l a k):Int)+(↑(aR 32768 a):Int)) JJ<|.W 4 (k+1)<|.V 1 4 (zI ((↑(gl l a k):Int)+(↑(aR 32768 a):Int))) (zN (gl l a (k+1))) Ny<|.val 6 (zI (k+1)) (zN (k+1)) Ny<|.blk 0 0 (VF (ag (flatMap dO (md l a k)) (k*2) [uI ((↑(gl l a k):Int)/(↑(aR 32768 a):Int)%4294967296),da a]) 210 true) (VF (flatMap dO (md l a (k+1))) 210 true) (by(have h7:=iV (a:=a) om;have h6:=XK (gl l a k) (aR 32768 a);have h9:=vT (l:=l) (n:=a) (k:=k) om om;have h8:=eV 32768 a;refine aw (NE om om om om (SZ om) rfl)))<|Hn.next ZA ⟨(k+1),om,⟨⟩⟩ Nz [(0,0)] ro) (λ p2=>have Z7:=ap p2;.W 3 (k+1)<|.V 1 4 (zN (gl l a k)) (zN (gl l a (k+1))) (by(refine aG ?_;rw[JN om]))<|.val 6 (zI (k+1)) (zN (k+1)) (by(refine aG ?_;(omega)))<|.blk 0 0 (VF (flatMap dO (md l a k)) 210 true) (VF (flatMap dO (md l a (k+1))) 210 true) (by(rw[NF om]))<|Hn.next ZA ⟨(k+1),om,⟨⟩⟩ Nz [(0,0)] ro)) (λ p1 Z8=>.val 4 (zN (gl l a k)) (zN (gl l a n)) JK<|.val 6 (zN k) (zN n) JK<|.blk 0 0 (VF (flatMap dO (md l a k)) 210 true) (VF (flatMap dO (md l a n)) 210 true) JK<|Hn.last ZC 0 (():Unit) rfl [(0,0)] ro)) (fun|⟨k,hk,_⟩=>by kernel_rfl) ⟨(0),om,⟨⟩⟩ [(0,0)] ro (bM (fun|()=>.W 3 (a+1)<|.V 1 4 (zN (gl l a n)) (zN (gl l (a+1) 0)) (by(subst hn;rw[JL]))<|.val 5 (zI (a+1)) (zN (a+1)) (by(refine aG ?_;(omega)))<|.blk 0 0 (VF (flatMap dO (md l a n)) 210 true) (VF (flatMap dO (md l (a+1) 0)) 210 true) (by(subst hn;rw[ND]))<|Hn.next ZB ⟨(a+1),om,⟨⟩⟩ (by show 16-(a+1)<16-a;clear ZB ZD;omega) [(0,0)] ro))) (λ p0 Z9=>.val 4 (zN (gl l a 0)) (zN (gl l 16 0)) (by(rw[show a=16 from by omega]))<|.val 5 (zN a) (zI 16) (by(refine aG ?_;(omega)))<|.blk 0 0 (VF (flatMap dO (md l a 0)) 210 true) (VF (flatMap dO (ab l)) 210 true) (by(rw[show a=16 from by omega,ri]))<|Hn.last ZD 0 (():Unit) rfl [(0,0)] ro)) (fun|⟨a,ha,_⟩=>by kernel_rfl) ⟨(1),om,⟨⟩⟩ [(24,24)] ro (bM (fun|()=>.U 2 [0] [0] (VJ 0 0 0 n 2) [VF (flatMap dO (ab l)) 210 true] R (ok _ _ (by(rw[ET,hn])) wr)))) kr
theorem JO {p:Prop}(h:p:=by((refine aC ?_ ?_)<;>(repeat' (first|(refine aC ?_ ?_)|(with_reducible rfl)|(refine decide_eq_true ?_)|(refine VL ?_)|(refine dA ?_)))<;>(omega))):p:=h
theorem NG (l:Z4):aW l 0=0:=by rw[n9];rfl
theorem m7 {l:Z4}{m:Nat}(hm:m<=15)(h:dI l m=0):dI l 15=0∧ew l 15=false:=by
 have h0:=gi h;have e3:ew l 15=false:=mZ λ i z=>by have:=f8 h0.2.1 z;omega
 refine⟨?_,e3⟩;rw[kA]at *;unfold vQ at *;rw[e3,ZE om,ZE (by decide)];rw[ZE om,ZE (by rw[h0.2.1];decide)]at h;exact h
theorem vU (l:Z4)(q p:Nat)(hq:q=(dU l).length)(hp:p=(dU l).length)(hQ:q<=320):S0 195 [Hp q l,Hp p l] [] (bD true) []:=SpR Tryz.func195 rfl rfl rfl trivial rfl 1000 64 (λ R ok=>.E 23 ((↑(aW l 0):Int)==(↑(aW l 0):Int)&&((↑(aW l 1):Int)==(↑(aW l 1):Int)&&((↑(aW l 2):Int)==(↑(aW l 2):Int)&&((↑(aW l 3):Int)==(↑(aW l 3):Int)&&((↑(aW l 4):Int)==(↑(aW l 4):Int)&&((↑(aW l 5):Int)==(↑(aW l 5):Int)&&((↑(aW l 6):Int)==(↑(aW l 6):Int)&&((↑(aW l 7):Int)==(↑(aW l 7):Int)&&((↑(aW l 8):Int)==(↑(aW l 8):Int)&&((↑(aW l 9):Int)==(↑(aW l 9):Int)&&((↑(aW l 10):Int)==(↑(aW l 10):Int)&&((↑(aW l 11):Int)==(↑(aW l 11):Int)&&((↑(aW l 12):Int)==(↑(aW l 12):Int)&&((↑(aW l 13):Int)==(↑(aW l 13):Int)&&((↑(aW l 14):Int)==(↑(aW l 14):Int)&&((↑(aW l 15):Int)==(↑(aW l 15):Int)&&true)))))))))))))))) JO<|.F 24 ((q:Int) !=(p:Int)) (by(simp <;>(omega)))<|.s 3<|Hn.inl T_ok ah false 26 112 (aq Tryz.prog 199 0) (λ(x:(i:Nat)×'(hi:i<=q)×'Unit)=>match x with|⟨i,hi,_⟩=>VZ [(0,V3 false q 1 (map nD (dU l))),(1,V3 false p 1 (map nD (dU l))),(12,zN q),(13,nD i)] [⟨0,0,0,0,.b ⟨[zN (aW l 0),zN (aW l 1),zN (aW l 2),zN (aW l 3),zN (aW l 4),zN (aW l 5),zN (aW l 6),zN (aW l 7),zN (aW l 8),zN (aW l 9),zN (aW l 10),zN (aW l 11),zN (aW l 12),zN (aW l 13),zN (aW l 14),zN (aW l 15),V3 false q 1 (map nD (dU l))],154,false⟩⟩,⟨8,8,8,8,.b ⟨[zN (aW l 0),zN (aW l 1),zN (aW l 2),zN (aW l 3),zN (aW l 4),zN (aW l 5),zN (aW l 6),zN (aW l 7),zN (aW l 8),zN (aW l 9),zN (aW l 10),zN (aW l 11),zN (aW l 12),zN (aW l 13),zN (aW l 14),zN (aW l 15),V3 false p 1 (map nD (dU l))],154,false⟩⟩] 128) (λ(x:(i:Nat)×'(hi:i<=q)×'Unit)=>match x with|⟨i,hi,_⟩=>q-i) [⟨Unit,.exit 0,λ x=>match x with|()=>VZ [(0,V3 false q 1 (map nD (dU l))),(1,V3 false p 1 (map nD (dU l))),(12,zN q)] [⟨0,0,0,0,.b ⟨[zN (aW l 0),zN (aW l 1),zN (aW l 2),zN (aW l 3),zN (aW l 4),zN (aW l 5),zN (aW l 6),zN (aW l 7),zN (aW l 8),zN (aW l 9),zN (aW l 10),zN (aW l 11),zN (aW l 12),zN (aW l 13),zN (aW l 14),zN (aW l 15),V3 false q 1 (map nD (dU l))],154,false⟩⟩,⟨8,8,8,8,.b ⟨[zN (aW l 0),zN (aW l 1),zN (aW l 2),zN (aW l 3),zN (aW l 4),zN (aW l 5),zN (aW l 6),zN (aW l 7),zN (aW l 8),zN (aW l 9),zN (aW l 10),zN (aW l 11),zN (aW l 12),zN (aW l 13),zN (aW l 14),zN (aW l 15),V3 false p 1 (map nD (dU l))],154,false⟩⟩] 128⟩] 1000 64 (fun|⟨i,hi,_⟩,Q,ZB,ZD=>.B 2 ((i:Int)<q) (λ p0 Z9=>.K 6 (true&&decide ((i:Int)<q)&&true) JO<|.O 2 ((map nD (dU l))[i*1]?) (nD (getD (dU l) (i*1) lh)) (am _ _ om)<|.K 3 (true&&decide ((i:Int)<p)&&true) JO<|.O 2 ((map nD (dU l))[i*1]?) (nD (getD (dU l) (i*1) lh)) (am _ _ om)<|.F 2 ((↑(getD (dU l) (i*1) lh):Int) !=(↑(getD (dU l) (i*1) lh):Int)) (by(simp;done))<|.W 2 (i+1)<|.V 1 13 (zI (i+1)) (zN (i+1)) (by(refine aG ?_;(omega)))<|Hn.next ZB ⟨(i+1),om,⟨⟩⟩ (by show q-(i+1)<q-i;clear ZB ZD;omega) [(0,0),(8,8)] ro) (λ p0 Z9=>(Hn.last ZD 0 (():Unit) rfl [(0,0),(8,8)] ro))) (fun|⟨i,hi,_⟩=>by kernel_rfl) ⟨(0),om,⟨⟩⟩ [(0,0),(8,8)] ro (bM (fun|()=>.Y 3 [] [] (D.v (.bool true)) [] ok))) kr
def US (b l:Z4):Nat->Nat->Nat->Nat->Nat×Nat×Nat
 |0,_,_,_=>(0,0,50)
 |k+1,a,d,p=>if(tE l a).length+aW l a=(dU l).length then(0,0,50)else if Vq b p 1≠0 then(0,0,10)else
  if 2*(d-aW l a)+SD b p 1<aW l (a+1)then((dU l).getD ((tE l a).length+aW l a+(2*(d-aW l a)+SD b p 1)) lh,p+1,0)
  else US b l k (a+1) (2*(d-aW l a)+SD b p 1) (p+1)
theorem oi (l:Z4)(n:Nat):∀(k j:Nat),∃r,fg l n (k+j)=fg l n k++r
 |k,0=>⟨[],by simp⟩
 |k,j+1=>by
  obtain⟨r,hr⟩:=oi l n k j;exact⟨r++(if(l.getD (k+j) lh).toNat=n then[k+j]else[]),by rw[<-Xr,fA,hr,Wc]⟩
def mI (l:Z4):Nat->Nat
 |0=>0
 |a+1=>2*(mI l a+aW l a)
theorem EU {l:Z4}{a:Nat}(h:a≠0):(fg l a l.length).length=aW l a:=by rw[n9];unfold Bc;rw[ZE h]
theorem tL {a:Nat}(h:a<15):aR 32768 a=2*aR 32768 (a+1):=by
 rw[fB om,fB om,show 15-a=(15-(a+1))+1 from by omega,Xj,XE]
theorem vV (l:Z4):∀a,a<=15->u5 l (a+1)=(mI l a+aW l a)*aR 32768 a
 |0,_=>by rw[u5,ZF rfl,NG];show 0+0=(0+0)*_;omega
 |a+1,h=>by
  have ih:=vV l a om;rw[u5,ZE (XL a),ih,EU (XL a),mI,tL om];generalize aR 32768 (a+1)=P;generalize mI l a+aW l a=X;rw[WV (2*X),Xn 2 X P,Nat.mul_left_comm X 2 P]
theorem JP {l:Z4}{a:Nat}(h0:a≠0)(h:a<=15):u5 l a=mI l a*aR 32768 a:=by
 obtain⟨b,rfl⟩:∃b,a=b+1:=⟨a-1,by omega⟩
 rw[vV l b om,mI,tL om];rw[XE 2 (mI l b+aW l b),Xn]
theorem tM (l:Z4)(a:Nat):∀k,u5 l a<=u5 l (a+k)
 |0=>VT _
 |k+1=>VR (tM l a k) (by rw[<-Xr,u5];exact Nat.le_add_right _ _)
theorem Hy {l:Z4}{i a:Nat}(h:(l.getD i lh).toNat=a)(h0:a≠0)(h1:a<=15):sJ l i=mI l a+(fg l a i).length:=by
 unfold sJ;rw[h,io,ZE h0,JP h0 h1,<-WV,Nat.mul_div_cancel _ (iV h1)]
def Ap (l:Z4)(k:Nat):Nat->Nat
 |0=>0
 |a+1=>Ap l k a+(if a=0 then 0 else(fg l a k).length*aR 32768 a)
theorem Bu (l:Z4):∀a,Ap l l.length a=u5 l a
 |0=>rfl
 |a+1=>by rw[Ap,u5,Bu l a]
theorem tN (l:Z4):∀a,Ap l 0 a=0
 |0=>rfl
 |a+1=>by
  have:fg l a 0=[]:=rfl;rw[Ap,tN l a,this,XJ,Xl];split<;>rfl
theorem tO (l:Z4)(k:Nat):∀a,Ap l (k+1) a=Ap l k a+(if(l.getD k lh).toNat≠0∧(l.getD k lh).toNat<a then aR 32768 (l.getD k lh).toNat else 0)
 |0=>by rw[Ap,Ap,ZE (λ q=>Xi _ q.2)]
 |a+1=>by
  rw[Ap,Ap,tO l k a,fA];generalize(l.getD k lh).toNat=x
  by_cases h0:a=0
  ·rw[ZF h0,ZF h0,ZE (λ q=>by omega),ZE (λ q=>by omega)]
  ·rw[ZE h0,ZE h0]
   by_cases h:x=a
   ·subst h
    rw[ZF rfl,ZE (λ q=>by omega),ZF ⟨h0,by omega⟩,VI,Wv,ZZ];omega
   ·rw[ZE h,WN]
    by_cases h2:x≠0∧x<a
    ·rw[ZF h2,ZF om];omega
    ·rw[ZE h2,ZE om];omega
theorem NH (l:Z4)(ho:ew l 15=false):u5 l 16=bl l:=by
 have key:∀k,k<=l.length->Ap l k 16=bl (l.take k):=by
  intro k
  induction k with
  |zero=>intro _;exact tN l 16
  |succ k ih=>
   intro hk;have hx:=f8 ho (i:=k) om;rw[tO,ih om,im om]
   by_cases q:(l.getD k lh).toNat=0
   ·rw[ZE (λ z=>z.1 q),ZF q]
   ·rw[ZF ⟨q,by omega⟩,ZE q,fB hx]
 have h:=key l.length (VT _);rw[Xh,Bu]at h;exact h
def Vr (b l:Z4)(n d c:Nat):Nat×Nat×Nat:=lk b (if d<aW l n then((dU l).getD ((tE l n).length+d) lh,c,0)else US b l (16-n) n d c)
section
variable {b l:Z4} {n d c v:Nat} {R:Nat×Nat×Nat}
end

section
variable {b l:Z4} {n a d c v:Nat} {R:Nat×Nat×Nat} (hT:dI l 15=0) (hn:n=l.length) (ha:a<=15) (hv:v=mI l a+d) (hb:v<2^a) (hno:∀j,j<n->¬((l.getD j lh).toNat=a∧sJ l j=v∧0<a)) (hR:Vr b l a d c=R)
include hT hn ha hv hb hno hR
end
theorem GI {x y:Bool}(h:x=y):D.v (Value.bool x)=D.v (Value.bool y):=by rw[h]
theorem JQ {p:Prop}(h:p:=by(have h8:=EV (l:=l) (k:=k) hc15 om (0+(l.getD (k*1) lh).toNat*1) om om;omega)):p:=h
theorem NI {p:Prop}(h:p:=by(refine decide_eq_true ?_;have h8:=EV (l:=l) (k:=k) hc15 om (0+(l.getD (k*1) lh).toNat*1) om om;omega)):p:=h
theorem Ry {p:Prop}(h:p:=by show n-(k+1)<n-k;clear ZB ZD;omega):p:=h
theorem UU {p:Prop}(h:p:=by((refine aC ?_ ?_)<;>(repeat' (first|(refine aC ?_ ?_)|(with_reducible rfl)|(refine decide_eq_true ?_)|(refine VL ?_)|(refine dA ?_)))<;>(have h8:=EV (l:=l) (k:=k) hc15 om (0+(l.getD (k*1) lh).toNat*1) om om;omega))):p:=h
theorem UV {p:Prop}(h:p:=by(have h7:=HF (l:=l) (a:=a) hc15 om (0+a*1) om;omega)):p:=h
theorem UW {p:Prop}(h:p:=by(have h7:=HF (l:=l) (a:=a) hc15 om (0+a*1) om;refine aG ?_;omega)):p:=h
def jB (f:Nat->Nat):List D:=[cR (f 0),cR (f 1),cR (f 2),cR (f 3),cR (f 4),cR (f 5),cR (f 6),cR (f 7),cR (f 8),cR (f 9),cR (f 10),cR (f 11),cR (f 12),cR (f 13),cR (f 14),cR (f 15),cR (f 16)]
theorem xp (f:Nat->Nat)(n:Nat)(h:n<17):(jB f)[n]? =some (cR (f n)):=by
 match n,h with
 |0,_=>rfl|1,_=>rfl|2,_=>rfl|3,_=>rfl|4,_=>rfl|5,_=>rfl|6,_=>rfl|7,_=>rfl|8,_=>rfl|9,_=>rfl|10,_=>rfl|11,_=>rfl|12,_=>rfl|13,_=>rfl|14,_=>rfl|15,_=>rfl|16,_=>rfl
 |n+17,h=>exact absurd h om
theorem Bv (f:Nat->Nat)(n:Nat)(h:n<17)(x:Nat):ag (jB f) n [cR x]=jB (λ m=>if m=n then x else f m):=by
 match n,h with
 |0,_=>rfl|1,_=>rfl|2,_=>rfl|3,_=>rfl|4,_=>rfl|5,_=>rfl|6,_=>rfl|7,_=>rfl|8,_=>rfl|9,_=>rfl|10,_=>rfl|11,_=>rfl|12,_=>rfl|13,_=>rfl|14,_=>rfl|15,_=>rfl|16,_=>rfl
 |n+17,h=>exact absurd h om
theorem dC {f g:Nat->Nat}(h:∀n,n<17->f n=g n):jB f=jB g:=by
 unfold jB;rw[h 0 (by decide),h 1 (by decide),h 2 (by decide),h 3 (by decide),h 4 (by decide),h 5 (by decide),h 6 (by decide),h 7 (by decide),h 8 (by decide),h 9 (by decide),h 10 (by decide),h 11 (by decide),h 12 (by decide),h 13 (by decide),h 14 (by decide),h 15 (by decide),h 16 (by decide)]
def bC (l:Z4)(k m:Nat):Nat:=lk l (if m=0 then 0 else(fg l m k).length)
theorem iW (l:Z4)(k m:Nat):bC l k m=if m=0 then 0 else(fg l m k).length:=aP _ _
theorem Hz (l:Z4)(m:Nat):bC l 0 m=0:=by rw[iW];split<;>rfl
theorem HA (l:Z4)(m:Nat):bC l l.length m=aW l m:=by rw[iW,n9];rfl
theorem Bx (l:Z4)(k m:Nat):bC l k m<=k:=by
 rw[iW];split
 ·exact Wy _
 ·exact rf _ _ _
theorem tP {l:Z4}{k:Nat}(m:Nat):bC l (k+1) m=bC l k m+(if m≠0∧(l.getD k lh).toNat=m then 1 else 0):=by
 rw[iW,iW]
 by_cases h0:m=0
 ·rw[ZF h0,ZF h0,ZE (λ q=>q.1 h0)]
 ·rw[ZE h0,ZE h0,fA]
  by_cases h:(l.getD k lh).toNat=m
  ·rw[ZF h,ZF ⟨h0,h⟩,VI];rfl
  ·rw[ZE h,ZE (λ q=>h q.2),WN];rfl
def cG (l:Z4)(a m:Nat):Nat:=lk l (if m<a then mI l m else aW l m)
theorem oj (l:Z4)(a m:Nat):cG l a m=if m<a then mI l m else aW l m:=aP _ _
def bR (l:Z4)(k m:Nat):Nat:=lk l (mI l m+bC l k m)
theorem gm (l:Z4)(k m:Nat):bR l k m=mI l m+bC l k m:=aP _ _
def tQ (l:Z4)(a:Nat):Nat:=lk l (mI l a)
theorem rj (l:Z4)(a:Nat):tQ l a=mI l a:=aP _ _
def JR (l:Z4)(k j:Nat):Nat×Nat:=if j<k∧(l.getD j lh).toNat≠0 then(sJ l j,(l.getD j lh).toNat)else(0,0)
def m8 (l:Z4)(k:Nat):List (Nat×Nat):=lk l ((WP l.length).map (JR l k))
theorem ol (l:Z4)(k:Nat):m8 l k=(WP l.length).map (JR l k):=aP _ _
theorem rl (l:Z4)(k:Nat):(m8 l k).length=l.length:=by rw[ol,VP,Xt]
theorem NJ (l:Z4):m8 l 0=V1 l.length (0,0):=by
 rw[ol];apply WD;intro i;rw[V6,Xd];rcases Wl i l.length with hi|hi
 ·rw[W0 hi,ZF hi];rfl
 ·rw[Wh (by simpa using hi),ZE om];rfl
theorem HC {l:Z4}{k:Nat}(hk:k<l.length):m8 l (k+1)=if(l.getD k lh).toNat=0 then m8 l k else(m8 l k).set k (sJ l k,(l.getD k lh).toNat):=by
 apply WD;intro i;have e:∀j,(m8 l j)[i]? =if i<l.length then some (JR l j i)else none:=λ j=>by
  rw[ol,V6];rcases Wl i l.length with hi|hi
  ·rw[W0 hi,ZF hi];rfl
  ·rw[Wh (by simpa using hi),ZE om];rfl
 by_cases h:(l.getD k lh).toNat=0
 ·rw[ZF h,e,e]
  split
  ·congr 1;unfold JR
   by_cases hi:i=k
   ·subst hi;rw[ZE (λ q=>q.2 h),ZE (λ q=>q.2 h)]
   ·by_cases q:i<k∧(l.getD i lh).toNat≠0
    ·rw[ZF q,ZF ⟨by omega,q.2⟩]
    ·rw[ZE q,ZE (λ z=>q ⟨by omega,z.2⟩)]
  ·rfl
 ·rw[ZE h,W7,rl,e,e]
  by_cases hi:k=i
  ·subst hi
   rw[ZF hk,ZF rfl,ZF hk];unfold JR;rw[ZF ⟨Zf k,h⟩]
  ·rw[ZE hi]
   split
   ·congr 1;unfold JR
    by_cases q:i<k∧(l.getD i lh).toNat≠0
    ·rw[ZF q,ZF ⟨by omega,q.2⟩]
    ·rw[ZE q,ZE (λ z=>q ⟨by omega,z.2⟩)]
   ·rfl
theorem HD {l:Z4}(ho:ew l 15=false):m8 l l.length=ab l:=by
 rw[ol,ri,og];apply Zs;intro j hj;have hj:=List.mem_range.1 hj;have h:=f8 ho hj;unfold JR u6
 by_cases q:(l.getD j lh).toNat=0
 ·rw[ZE (λ z=>z.2 q),ZE (λ z=>z.1 q)]
 ·rw[ZF ⟨hj,q⟩,ZF ⟨q,.inl om⟩]
theorem HE {l:Z4}(hc:dI l 15=0){a:Nat}(h:a<=15):mI l a+aW l a<=2^a:=by
 have ho:=(gi hc).2.1;have hk:=(gi hc).2.2;have h1:=vV l a h;have h2:=tM l (a+1) (16-(a+1));rw[show a+1+(16-(a+1))=16 from by omega,NH l ho,h1]at h2;have h3:(mI l a+aW l a)*aR 32768 a<=2^a*aR 32768 a:=by
  rw[fB h,<-aaq,show a+(15-a)=15 from by omega];rw[fB h]at h2;omega
 exact Nat.le_of_mul_le_mul_right h3 (iV h)
theorem JS {l:Z4}(ho:ew l 15=false){a:Nat}(h:16<=a):aW l a=0:=by
 rw[n9];unfold Bc;rw[ZE om];have:fg l a l.length=[]:=by
  rw[List.eq_nil_iff_forall_not_mem];intro i hi;have:=Bd.1 hi;have:=f8 ho this.1;omega
 rw[this];rfl
theorem By {l:Z4}(hc:dI l 15=0){a:Nat}(h:a<=17):mI l a<=131072∧(a<=16->mI l a+aW l a<=65536):=by
 have ho:=(gi hc).2.1;have p:∀b,b<=15->mI l b+aW l b<=32768:=λ b hb=>VR (HE hc hb) (WF (n:=2) (by decide) hb)
 have q16:mI l 16=2*(mI l 15+aW l 15):=rfl;have M4:mI l 17=2*(mI l 16+aW l 16):=rfl;have UO:=JS ho (a:=16) (by decide);have p15:=p 15 (by decide);rcases Wl a 16 with z|z
 ·have:=p a om;exact⟨by omega,λ _=>by omega⟩
 ·rcases Wl a 17 with y|y
  ·have e:a=16:=by omega
   subst e;exact⟨by omega,λ _=>by omega⟩
  ·have e:a=17:=by omega
   subst e;exact⟨by omega,λ q=>by omega⟩
theorem NK (l:Z4):jB (λ _=>0)=jB (bC l 0):=dC λ m _=>(Hz l m).symm
theorem JT {l:Z4}{k:Nat}(h:(l.getD (k*1) lh).toNat=0):jB (bC l k)=jB (bC l (k+1)):=dC λ m _=>by
 rw[V5]at h;rw[tP,ZE (λ q=>by omega)];rfl
theorem NL {l:Z4}{k:Nat}(h:k=l.length):jB (bC l k)=jB (aW l):=dC λ m _=>by rw[h,HA]
theorem NM (l:Z4):jB (aW l)=jB (cG l 0):=dC λ m _=>by rw[oj,ZE (Xi m)]
theorem NN {l:Z4}{a:Nat}(h:17<=a):jB (cG l a)=jB (bR l 0):=dC λ m hm=>by rw[oj,ZF om,gm,Hz];rfl
theorem JU {l:Z4}{k:Nat}(h:(l.getD (k*1) lh).toNat=0):jB (bR l k)=jB (bR l (k+1)):=dC λ m _=>by
 rw[V5]at h;rw[gm,gm,tP,ZE (λ q=>by omega)];rfl
theorem S4 (l:Z4)(k:Nat){o:Nat}(h:(l.getD (k*1) lh).toNat=o)(h0:0<o)(h1:o<17):ag (jB (bC l k)) o [D.v (.int .u32 (((bC l k o:Nat):Int)+1))]=jB (bC l (k+1)):=by
 rw[V5]at h;refine(Bv (bC l k) o h1 (bC l k o+1)).trans (dC λ m _=>?_);rw[tP]
 by_cases e:m=o
 ·rw[ZF e,e,ZF ⟨by omega,h⟩]
 ·rw[ZE e,ZE (λ q=>e om)];rfl
theorem NO (l:Z4)(a:Nat){o:Nat}{z:Int}(ho:o=a)(h1:a<17)(hz:z=((tQ l a:Nat):Int)):ag (jB (cG l a)) o [D.v (.int .u32 z)]=jB (cG l (a+1)):=by
 subst ho hz;refine(Bv (cG l o) o h1 (tQ l o)).trans (dC λ m _=>?_);rw[oj,oj,rj]
 by_cases e:m=o
 ·rw[ZF e,e,ZF (Zf o)]
 ·rw[ZE e]
  by_cases q:m<o
  ·rw[ZF q,ZF om]
  ·rw[ZE q,ZE om]
theorem NP (l:Z4)(k:Nat){o:Nat}(h:(l.getD (k*1) lh).toNat=o)(h0:0<o)(h1:o<17):ag (jB (bR l k)) o [D.v (.int .u32 (((bR l k o:Nat):Int)+1))]=jB (bR l (k+1)):=by
 rw[V5]at h;refine(Bv (bR l k) o h1 (bR l k o+1)).trans (dC λ m _=>?_);rw[gm,gm,gm,tP]
 by_cases e:m=o
 ·rw[ZF e,e,ZF ⟨by omega,h⟩];rfl
 ·rw[ZE e,ZE (λ q=>e om)];rfl
theorem EV {l:Z4}{k:Nat}(hc:dI l 15=0)(hk:k<l.length)(o:Nat)(h:(l.getD (k*1) lh).toNat=o)(h0:0<o):o<=15∧bR l k o=sJ l k∧bR l (k+1) o=sJ l k+1∧sJ l k<=65536∧bC l k o<=k:=by
 rw[V5]at h;have ho:=f8 (gi hc).2.1 hk;have h1:o<=15:=by omega
 have e:=Hy h om h1;have h2:bR l k o=sJ l k:=by rw[gm,iW,ZE om,e]
 have h3:=(By hc (a:=o) om).2 om;have h4:bC l (k+1) o=bC l k o+1:=by rw[tP,ZF ⟨by omega,h⟩]
 have h5:bR l (k+1) o=sJ l k+1:=by
  rw[gm,h4,<-h2,gm,Xr]
 have h6:bC l (k+1) o<=aW l o:=by
  rw[<-HA,iW,iW,ZE om,ZE om];obtain⟨r,hr⟩:=oi l o (k+1) (l.length-(k+1));rw[show k+1+(l.length-(k+1))=l.length from by omega]at hr;rw[hr,VI];omega
 refine⟨h1,h2,h5,?_,Bx l k o⟩;rw[<-h2,gm];omega
theorem HF {l:Z4}{a:Nat}(hc:dI l 15=0)(h:a<17)(o:Nat)(ho:o=a):tQ l a+cG l a o<=65536∧(tQ l a+cG l a o)*2=tQ l (a+1)∧tQ l (a+1)<=131072:=by
 subst ho;have h1:=(By hc (a:=o) om).2 om;have h2:=(By hc (a:=o+1) om).1;rw[rj,rj,oj,ZE (Nat.lt_irrefl o)];refine⟨h1,?_,h2⟩;rw[mI,XE]
theorem NQ {l:Z4}{k:Nat}(hk:k<l.length)(h:(l.getD (k*1) lh).toNat=0):m8 l (k+1)=m8 l k:=by
 rw[V5]at h;rw[HC hk,ZF h]
theorem NR {l:Z4}{k:Nat}(hk:k<l.length)(h:0<(l.getD (k*1) lh).toNat):m8 l (k+1)=(m8 l k).set k (sJ l k,(l.getD k lh).toNat):=by
 rw[V5]at h;rw[HC hk,ZE om]
theorem Vs {l:Z4}{k:Nat}(hc:dI l 15=0)(hk:k<l.length)(h:0<(l.getD (k*1) lh).toNat):ag ((m8 l k).flatMap dO) (k*2) [D.v (.int .u32 (((bR l (k+1) (l.getD k lh).toNat:Nat):Int)-1)),D.v (.int .u8 (((l.getD k lh).toNat:Nat):Int))]=(m8 l (k+1)).flatMap dO:=by
 have h2:=EV hc hk (l.getD k lh).toNat (by rw[V5]) (by rwa [V5]at h);rw[NR hk h,h2.2.2.1,show(((sJ l k+1:Nat):Int)-1)=((sJ l k:Nat):Int)from by omega];exact xo (c:=(sJ l k,(l.getD k lh).toNat)) (by rw[rl];exact hk) (XE k 2)
theorem EW (l:Z4)(n:Nat)(hn:n=l.length)(m:Nat)(hm:1<=m∧m<=15)(hc:dI l m=0):S0 112 [.sl false n 1 (l.map dB),nD m] [] (.tup [.ref 0 0 0 n 2,iD 0]) [⟨(ab l).flatMap dO, 210,true⟩]:=by
 have hL:=(gi hc).1;have hc15:=(m7 hm.2 hc).1;have ho:=(gi hc15).2.1;refine SpR Tryz.func112 rfl rfl rfl ⟨dn (λ _=>rfl) _,trivial⟩ rfl 1000 64 (λ R ok=>.C 5 148 false [] (.fn So (@JB (l) (n) om om (m) om))<|.F 4 ((↑(dI l m):Int) !=0) (by(simp <;>(omega)))<|.M 8 80 80 (VF [uI 0,uI 0,uI 0,uI 0,uI 0,uI 0,uI 0,uI 0,uI 0,uI 0,uI 0,uI 0,uI 0,uI 0,uI 0,uI 0,uI 0] 234 false) (VF [ai (bC l 0 0),ai (bC l 0 1),ai (bC l 0 2),ai (bC l 0 3),ai (bC l 0 4),ai (bC l 0 5),ai (bC l 0 6),ai (bC l 0 7),ai (bC l 0 8),ai (bC l 0 9),ai (bC l 0 10),ai (bC l 0 11),ai (bC l 0 12),ai (bC l 0 13),ai (bC l 0 14),ai (bC l 0 15),ai (bC l 0 16)] 234 false) (by(exact aw (NK l)))<|Hn.inl T_ok ah false 20 80 (aq Tryz.prog 149 0) (λ(x:(k:Nat)×'(hk:k<=n)×'Unit)=>match x with|⟨k,hk,_⟩=>VZ [(2,V7 80 80 0),(5,V3 false n 1 (map dB l)),(6,zN n),(7,nD k)] [⟨80,80,80,80,.c ⟨jB (bC l k),234,false⟩⟩] 88) (λ(x:(k:Nat)×'(hk:k<=n)×'Unit)=>match x with|⟨k,hk,_⟩=>n-k) [⟨Unit,.exit 0,λ x=>match x with|()=>VZ [(2,V7 80 80 0),(5,V3 false n 1 (map dB l)),(6,zN n)] [⟨80,80,80,80,.c ⟨jB (aW l),234,false⟩⟩] 88⟩] 1000 64 (fun|⟨k,hk,_⟩,Q,ZB,ZD=>.B 2 ((k:Int)<n) (λ p0 Z9=>.K 1 (true&&decide ((k:Int)<n)&&true) JO<|.O 2 ((map dB l)[k*1]?) (dB (getD l (k*1) lh)) (am _ _ om)<|.B 4 (0<(↑(VE (getD l (k*1) lh)):Int)) (λ p1 Z8=>.K 2 (true&&decide ((↑(VE (getD l (k*1) lh)):Int)<(↑17:Int))) NI<|.O 3 ((jB (bC l k))[0+VE (getD l (k*1) lh)*1]?) (cR (bC l k (0+VE (getD l (k*1) lh)*1))) (@xp (bC l k) (0+VE (getD l (k*1) lh)*1) JQ)<|.O 2 (ay .u32 ((↑(bC l k (0+VE (getD l (k*1) lh)*1)):Int)+1)) (uI ((↑(bC l k (0+VE (getD l (k*1) lh)*1)):Int)+1)) (aA (by(have h9:=Bx l k (0+(l.getD (k*1) lh).toNat*1);omega)))<|.K 1 (true&&decide ((↑(VE (getD l (k*1) lh)):Int)<(↑17:Int))) NI<|.K 2 (true&&VN (0+VE (getD l (k*1) lh)*1+1) 17) UU<|.lst (ag [ai (bC l k 0),ai (bC l k 1),ai (bC l k 2),ai (bC l k 3),ai (bC l k 4),ai (bC l k 5),ai (bC l k 6),ai (bC l k 7),ai (bC l k 8),ai (bC l k 9),ai (bC l k 10),ai (bC l k 11),ai (bC l k 12),ai (bC l k 13),ai (bC l k 14),ai (bC l k 15),ai (bC l k 16)] (0+VE (getD l (k*1) lh)*1) [uI ((↑(bC l k (0+VE (getD l (k*1) lh)*1)):Int)+1)]) ([ai (bC l (k+1) 0),ai (bC l (k+1) 1),ai (bC l (k+1) 2),ai (bC l (k+1) 3),ai (bC l (k+1) 4),ai (bC l (k+1) 5),ai (bC l (k+1) 6),ai (bC l (k+1) 7),ai (bC l (k+1) 8),ai (bC l (k+1) 9),ai (bC l (k+1) 10),ai (bC l (k+1) 11),ai (bC l (k+1) 12),ai (bC l (k+1) 13),ai (bC l (k+1) 14),ai (bC l (k+1) 15),ai (bC l (k+1) 16)]) (@S4 l k (0+VE (getD l (k*1) lh)*1) om om JQ)<|.W 2 (k+1)<|.V 1 7 (zI (k+1)) (zN (k+1)) D9<|Hn.next ZB ⟨(k+1),om,⟨⟩⟩ Ry [(80,80)] ro) (λ p1 Z8=>.W 2 (k+1)<|.V 1 7 (zI (k+1)) (zN (k+1)) D9<|.blk 80 80 (VF [ai (bC l k 0),ai (bC l k 1),ai (bC l k 2),ai (bC l k 3),ai (bC l k 4),ai (bC l k 5),ai (bC l k 6),ai (bC l k 7),ai (bC l k 8),ai (bC l k 9),ai (bC l k 10),ai (bC l k 11),ai (bC l k 12),ai (bC l k 13),ai (bC l k 14),ai (bC l k 15),ai (bC l k 16)] 234 false) (VF [ai (bC l (k+1) 0),ai (bC l (k+1) 1),ai (bC l (k+1) 2),ai (bC l (k+1) 3),ai (bC l (k+1) 4),ai (bC l (k+1) 5),ai (bC l (k+1) 6),ai (bC l (k+1) 7),ai (bC l (k+1) 8),ai (bC l (k+1) 9),ai (bC l (k+1) 10),ai (bC l (k+1) 11),ai (bC l (k+1) 12),ai (bC l (k+1) 13),ai (bC l (k+1) 14),ai (bC l (k+1) 15),ai (bC l (k+1) 16)] 234 false) (by(exact aw (JT (by(omega)))))<|Hn.next ZB ⟨(k+1),om,⟨⟩⟩ Ry [(80,80)] ro)) (λ p0 Z9=>.blk 80 80 (VF [ai (bC l k 0),ai (bC l k 1),ai (bC l k 2),ai (bC l k 3),ai (bC l k 4),ai (bC l k 5),ai (bC l k 6),ai (bC l k 7),ai (bC l k 8),ai (bC l k 9),ai (bC l k 10),ai (bC l k 11),ai (bC l k 12),ai (bC l k 13),ai (bC l k 14),ai (bC l k 15),ai (bC l k 16)] 234 false) (VF [ai (aW l 0),ai (aW l 1),ai (aW l 2),ai (aW l 3),ai (aW l 4),ai (aW l 5),ai (aW l 6),ai (aW l 7),ai (aW l 8),ai (aW l 9),ai (aW l 10),ai (aW l 11),ai (aW l 12),ai (aW l 13),ai (aW l 14),ai (aW l 15),ai (aW l 16)] 234 false) (by(exact aw (NL (by(omega)))))<|Hn.last ZD 0 (():Unit) rfl [(80,80)] ro)) (fun|⟨k,hk,_⟩=>by kernel_rfl) ⟨(0),om,⟨⟩⟩ [(80,80)] ro (bM (fun|()=>.V 19 2 (uI 0) (ai (tQ l 0)) (by(rw[rj];rfl))<|.blk 120 120 (VF [ai (aW l 0),ai (aW l 1),ai (aW l 2),ai (aW l 3),ai (aW l 4),ai (aW l 5),ai (aW l 6),ai (aW l 7),ai (aW l 8),ai (aW l 9),ai (aW l 10),ai (aW l 11),ai (aW l 12),ai (aW l 13),ai (aW l 14),ai (aW l 15),ai (aW l 16)] 234 false) (VF [ai (cG l 0 0),ai (cG l 0 1),ai (cG l 0 2),ai (cG l 0 3),ai (cG l 0 4),ai (cG l 0 5),ai (cG l 0 6),ai (cG l 0 7),ai (cG l 0 8),ai (cG l 0 9),ai (cG l 0 10),ai (cG l 0 11),ai (cG l 0 12),ai (cG l 0 13),ai (cG l 0 14),ai (cG l 0 15),ai (cG l 0 16)] 234 false) (by(exact aw (NM l)))<|Hn.inl T_ok ah false 21 144 (aq Tryz.prog 150 0) (λ(x:(a:Nat)×'(ha:a<=17)×'Unit)=>match x with|⟨a,ha,_⟩=>VZ [(0,V7 120 120 0),(2,cR (tQ l a)),(4,nD a)] [⟨80,80,80,80,.b ⟨[ai (aW l 0),ai (aW l 1),ai (aW l 2),ai (aW l 3),ai (aW l 4),ai (aW l 5),ai (aW l 6),ai (aW l 7),ai (aW l 8),ai (aW l 9),ai (aW l 10),ai (aW l 11),ai (aW l 12),ai (aW l 13),ai (aW l 14),ai (aW l 15),ai (aW l 16)],234,false⟩⟩,⟨120,120,120,120,.c ⟨jB (cG l a),234,false⟩⟩] 160) (λ(x:(a:Nat)×'(ha:a<=17)×'Unit)=>match x with|⟨a,ha,_⟩=>17-a) [⟨Unit,.exit 0,λ x=>match x with|()=>VZ [(0,V7 120 120 0)] [⟨80,80,80,80,.b ⟨[ai (aW l 0),ai (aW l 1),ai (aW l 2),ai (aW l 3),ai (aW l 4),ai (aW l 5),ai (aW l 6),ai (aW l 7),ai (aW l 8),ai (aW l 9),ai (aW l 10),ai (aW l 11),ai (aW l 12),ai (aW l 13),ai (aW l 14),ai (aW l 15),ai (aW l 16)],234,false⟩⟩,⟨120,120,120,120,.c ⟨jB (bR l 0),234,false⟩⟩] 160⟩] 1000 64 (fun|⟨a,ha,_⟩,Q,ZB,ZD=>.B 2 ((a:Int)<17) (λ p2 Z7=>.K 10 (true&&decide ((a:Int)<(↑17:Int))) aO<|.O 3 ((jB (cG l a))[0+a*1]?) (cR (cG l a (0+a*1))) (@xp (cG l a) (0+a*1) om)<|.O 2 (ay .u32 ((↑(tQ l a):Int)+(↑(cG l a (0+a*1)):Int))) (uI ((↑(tQ l a):Int)+(↑(cG l a (0+a*1)):Int))) (aA UV)<|.O 2 (ay .u32 (((↑(tQ l a):Int)+(↑(cG l a (0+a*1)):Int))*2)) (uI (((↑(tQ l a):Int)+(↑(cG l a (0+a*1)):Int))*2)) (aA UV)<|.K 4 (true&&decide ((a:Int)<(↑17:Int))) aO<|.K 2 (true&&VN (0+a*1+1) 17) (by(refine VL ?_;(omega)))<|.lst (ag [ai (cG l a 0),ai (cG l a 1),ai (cG l a 2),ai (cG l a 3),ai (cG l a 4),ai (cG l a 5),ai (cG l a 6),ai (cG l a 7),ai (cG l a 8),ai (cG l a 9),ai (cG l a 10),ai (cG l a 11),ai (cG l a 12),ai (cG l a 13),ai (cG l a 14),ai (cG l a 15),ai (cG l a 16)] (0+a*1) [ai (tQ l a)]) ([ai (cG l (a+1) 0),ai (cG l (a+1) 1),ai (cG l (a+1) 2),ai (cG l (a+1) 3),ai (cG l (a+1) 4),ai (cG l (a+1) 5),ai (cG l (a+1) 6),ai (cG l (a+1) 7),ai (cG l (a+1) 8),ai (cG l (a+1) 9),ai (cG l (a+1) 10),ai (cG l (a+1) 11),ai (cG l (a+1) 12),ai (cG l (a+1) 13),ai (cG l (a+1) 14),ai (cG l (a+1) 15),ai (cG l (a+1) 16)]) (@NO l a (0+a*1) ((↑(tQ l a):Int)) om om om)<|.W 2 (a+1)<|.V 1 2 (uI (((↑(tQ l a):Int)+(↑(cG l a (0+a*1)):Int))*2)) (ai (tQ l (a+1))) UW<|.val 4 (zI (a+1)) (zN (a+1)) UW<|Hn.next ZB ⟨(a+1),om,⟨⟩⟩ (by show 17-(a+1)<17-a;clear ZB ZD;omega) [(80,80),(120,120)] ro) (λ p2 Z7=>.blk 120 120 (VF [ai (cG l a 0),ai (cG l a 1),ai (cG l a 2),ai (cG l a 3),ai (cG l a 4),ai (cG l a 5),ai (cG l a 6),ai (cG l a 7),ai (cG l a 8),ai (cG l a 9),ai (cG l a 10),ai (cG l a 11),ai (cG l a 12),ai (cG l a 13),ai (cG l a 14),ai (cG l a 15),ai (cG l a 16)] 234 false) (VF [ai (bR l 0 0),ai (bR l 0 1),ai (bR l 0 2),ai (bR l 0 3),ai (bR l 0 4),ai (bR l 0 5),ai (bR l 0 6),ai (bR l 0 7),ai (bR l 0 8),ai (bR l 0 9),ai (bR l 0 10),ai (bR l 0 11),ai (bR l 0 12),ai (bR l 0 13),ai (bR l 0 14),ai (bR l 0 15),ai (bR l 0 16)] 234 false) (by(exact aw (NN (by(omega)))))<|Hn.last ZD 0 (():Unit) rfl [(80,80),(120,120)] ro)) (fun|⟨a,ha,_⟩=>by kernel_rfl) ⟨(0),om,⟨⟩⟩ [(80,80),(120,120)] ro (bM (fun|()=>.K 3 (true&&decide ((n:Int)<=n)&&true&&true&&true&&true&&decide ((↑(YO qf):Int)*(n:Int)<=140737488355328)) (by(have h9:((qf.bytes:Nat):Int)=8:=rfl;rw[h9];simp;omega))<|.M 4 184 184 (VF (bZ [uI 0,bI 0] (n*2)) 210 true) (VF (flatMap dO (m8 l 0)) 210 true) (by(refine aw ?_;rw[Bs,NJ,hn]))<|Hn.inl T_ok ah false 39 0 (aq Tryz.prog 112 0) (λ(x:(k:Nat)×'(hk:k<=n)×'Unit)=>match x with|⟨k,hk,_⟩=>VZ [(7,V7 0 0 0),(8,VJ 8 8 0 n 2),(23,V3 false n 1 (map dB l)),(24,zN n),(25,nD k)] [⟨0,0,120,120,.c ⟨jB (bR l k),234,false⟩⟩,⟨8,8,184,184,.b ⟨(m8 l k).flatMap dO,210,true⟩⟩] 16) (λ(x:(k:Nat)×'(hk:k<=n)×'Unit)=>match x with|⟨k,hk,_⟩=>n-k) [⟨Unit,.exit 0,λ x=>match x with|()=>VZ [(7,V7 0 0 0),(8,VJ 8 8 0 n 2),(23,V3 false n 1 (map dB l)),(24,zN n)] [⟨8,8,184,184,.b ⟨(ab l).flatMap dO,210,true⟩⟩] 16⟩] 1000 64 (fun|⟨k,hk,_⟩,Q,ZB,ZD=>.B 2 ((k:Int)<n) (λ p3 Z6=>.K 2 (true&&decide ((k:Int)<n)&&true) JO<|.O 2 ((map dB l)[k*1]?) (dB (getD l (k*1) lh)) (am _ _ om)<|.B 5 (0<(↑(VE (getD l (k*1) lh)):Int)) (λ p4 Z5=>.K 12 (true&&decide ((↑(VE (getD l (k*1) lh)):Int)<(↑17:Int))) NI<|.O 3 ((jB (bR l k))[0+VE (getD l (k*1) lh)*1]?) (cR (bR l k (0+VE (getD l (k*1) lh)*1))) (@xp (bR l k) (0+VE (getD l (k*1) lh)*1) JQ)<|.O 2 (ay .u32 ((↑(bR l k (0+VE (getD l (k*1) lh)*1)):Int)+1)) (uI ((↑(bR l k (0+VE (getD l (k*1) lh)*1)):Int)+1)) (aA JQ)<|.K 2 (true&&decide ((↑(VE (getD l (k*1) lh)):Int)<(↑17:Int))) NI<|.K 2 (true&&VN (0+VE (getD l (k*1) lh)*1+1) 17) UU<|.lst (ag [ai (bR l k 0),ai (bR l k 1),ai (bR l k 2),ai (bR l k 3),ai (bR l k 4),ai (bR l k 5),ai (bR l k 6),ai (bR l k 7),ai (bR l k 8),ai (bR l k 9),ai (bR l k 10),ai (bR l k 11),ai (bR l k 12),ai (bR l k 13),ai (bR l k 14),ai (bR l k 15),ai (bR l k 16)] (0+VE (getD l (k*1) lh)*1) [uI ((↑(bR l k (0+VE (getD l (k*1) lh)*1)):Int)+1)]) ([ai (bR l (k+1) 0),ai (bR l (k+1) 1),ai (bR l (k+1) 2),ai (bR l (k+1) 3),ai (bR l (k+1) 4),ai (bR l (k+1) 5),ai (bR l (k+1) 6),ai (bR l (k+1) 7),ai (bR l (k+1) 8),ai (bR l (k+1) 9),ai (bR l (k+1) 10),ai (bR l (k+1) 11),ai (bR l (k+1) 12),ai (bR l (k+1) 13),ai (bR l (k+1) 14),ai (bR l (k+1) 15),ai (bR l (k+1) 16)]) (@NP l k (0+VE (getD l (k*1) lh)*1) om om JQ)<|.K 4 (true&&decide ((↑(VE (getD l (k*1) lh)):Int)<(↑17:Int))) NI<|.O 3 ((jB (bR l (k+1)))[0+VE (getD l (k*1) lh)*1]?) (cR (bR l (k+1) (0+VE (getD l (k*1) lh)*1))) (@xp (bR l (k+1)) (0+VE (getD l (k*1) lh)*1) JQ)<|.O 2 (ay .u32 ((↑(bR l (k+1) (0+VE (getD l (k*1) lh)*1)):Int)-1)) (uI ((↑(bR l (k+1) (0+VE (getD l (k*1) lh)*1)):Int)-1)) (aA JQ)<|.K 10 (true&&decide ((k:Int)<n)) aO<|.K 1 (true&&VN (0+k*2+2) (length (flatMap dO (m8 l k)))) (by(rw[bj (k:=2) (λ _=>rfl),rl];simp only[V8];refine VL ?_;(omega)))<|.lst (ag (flatMap dO (m8 l k)) (0+k*2) [uI ((↑(bR l (k+1) (0+VE (getD l (k*1) lh)*1)):Int)-1),da (VE (getD l (k*1) lh))]) (ag (flatMap dO (m8 l k)) (k*2) [uI ((↑(bR l (k+1) (VE (getD l k lh))):Int)-1),da (VE (getD l k lh))]) (by(simp;done))<|.W 2 (k+1)<|.V 1 25 (zI (k+1)) (zN (k+1)) D9<|.blk 8 8 (VF (ag (flatMap dO (m8 l k)) (k*2) [uI ((↑(bR l (k+1) (VE (getD l k lh))):Int)-1),da (VE (getD l k lh))]) 210 true) (VF (flatMap dO (m8 l (k+1))) 210 true) (by(exact aw (Vs hc15 (by(omega)) (by(omega)))))<|Hn.next ZB ⟨(k+1),om,⟨⟩⟩ Ry [(0,0),(8,8)] ro) (λ p4 Z5=>.W 2 (k+1)<|.V 1 25 (zI (k+1)) (zN (k+1)) D9<|.blk 0 0 (VF [ai (bR l k 0),ai (bR l k 1),ai (bR l k 2),ai (bR l k 3),ai (bR l k 4),ai (bR l k 5),ai (bR l k 6),ai (bR l k 7),ai (bR l k 8),ai (bR l k 9),ai (bR l k 10),ai (bR l k 11),ai (bR l k 12),ai (bR l k 13),ai (bR l k 14),ai (bR l k 15),ai (bR l k 16)] 234 false) (VF [ai (bR l (k+1) 0),ai (bR l (k+1) 1),ai (bR l (k+1) 2),ai (bR l (k+1) 3),ai (bR l (k+1) 4),ai (bR l (k+1) 5),ai (bR l (k+1) 6),ai (bR l (k+1) 7),ai (bR l (k+1) 8),ai (bR l (k+1) 9),ai (bR l (k+1) 10),ai (bR l (k+1) 11),ai (bR l (k+1) 12),ai (bR l (k+1) 13),ai (bR l (k+1) 14),ai (bR l (k+1) 15),ai (bR l (k+1) 16)] 234 false) (by(exact aw (JU (by(omega)))))<|.blk 8 8 (VF (flatMap dO (m8 l k)) 210 true) (VF (flatMap dO (m8 l (k+1))) 210 true) (by(rw[NQ (by(omega)) (by(omega))]))<|Hn.next ZB ⟨(k+1),om,⟨⟩⟩ Ry [(0,0),(8,8)] ro)) (λ p3 Z6=>.blk 8 8 (VF (flatMap dO (m8 l k)) 210 true) (VF (flatMap dO (ab l)) 210 true) (by(rw[show k=l.length from by(omega),HD ho]))<|Hn.last ZD 0 (():Unit) rfl [(8,8)] ro)) (fun|⟨k,hk,_⟩=>by kernel_rfl) ⟨(0),om,⟨⟩⟩ [(120,120),(184,184)] ro (bM (fun|()=>.Y 3 [8] [8] (WL [VJ 0 0 0 n 2,zI 0]) [VF (flatMap dO (ab l)) 210 true] ok))))))) kr
def jX (l:Z4)(m:Nat):Nat->Nat
 |0=>0
 |n+1=>if m<n+1∧l.getD n lh=0 then jX l m n else n+1
def gS (l:Z4)(m:Nat):Nat:=lk l (jX l m l.length)
theorem jY (l:Z4)(m:Nat):gS l m=jX l m l.length:=aP _ _
theorem S5 {l:Z4}{m n T u:Nat}(hR:jX l m n=T)(h:m<n)(hu:u=n-1)(h2:(((l.getD u lh).toNat:Nat):Int)=0):jX l m (n-1)=T:=by
 subst hu;obtain⟨g,rfl⟩:∃g,n=g+1:=⟨n-1,by omega⟩
 rw[<-hR,jX,ZF ⟨by omega,Be h2⟩];rfl
theorem NS {l:Z4}{m n T:Nat}(hR:jX l m n=T)(h:¬(m<n∧(l.getD (n-1) lh).toNat=0)):n=T:=by
 rw[<-hR]
 cases n with
 |zero=>rfl
 |succ n=>exact(ZE (λ q=>h ⟨by omega,by rw[Xf,q.2];rfl⟩)).symm
theorem Bz {l:Z4}{m:Nat}:∀n,jX l m n<=n∧(m<=n->m<=jX l m n)
 |0=>⟨VT _,id⟩
 |n+1=>by
  rw[jX];split
  ·have:=Bz (l:=l) (m:=m) n;omega
  ·omega
theorem lv (l:Z4)(m:Nat):gS l m<=l.length∧(m<=l.length->m<=gS l m):=by rw[jY];exact Bz _
structure Nm where
 v:Nat
 n:Nat
 deriving Inhabited
abbrev aD (x:Nm):List D:=[cR x.v,nD x.n]
theorem bX (l:List Nm):(l.flatMap aD).length=l.length*2:=bj (k:=2) (λ _=>rfl) l
theorem cD (l m:List Nm):(l++m).flatMap aD=l.flatMap aD++m.flatMap aD:=WH
theorem JV (l:Z4)(L:Nat)(hL:L=l.length)(hL2:L<=320)(m:Nat)(hm:m<=1000)(T:Nat)(hT:gS l m=T):S0 109 [.sl false L 1 (l.map dB),nD m] [] (nD T) []:=SpR Tryz.func109 rfl rfl rfl trivial rfl 1000 64 (λ R ok=>.s 4<|Hn.inl T_ok ah false 22 0 (aq Tryz.prog 109 0) (λ(x:(n:Nat)×'(hn:n<=L)×'(hR:jX l m n=T)×'Unit)=>match x with|⟨n,hn,hR,_⟩=>VZ [(0,V3 false L 1 (map dB l)),(1,zN m),(5,nD n)] [] 0) (λ(x:(n:Nat)×'(hn:n<=L)×'(hR:jX l m n=T)×'Unit)=>match x with|⟨n,hn,hR,_⟩=>n) [⟨Unit,.exit 0,λ x=>match x with|()=>VZ [(0,V3 false L 1 (map dB l)),(1,zN m),(5,nD T)] [] 0⟩] 1000 64 (fun|⟨n,hn,hR,_⟩,Q,ZB,ZD=>.B 6 ((m:Int)<n) (λ p0 Z9=>.W 5 (n-1)<|.K 2 (decide (0<=(n:Int)-1)&&decide ((n:Int)-1<L)&&true) (by((refine aC ?_ ?_)<;>(repeat' (first|(refine aC ?_ ?_)|(with_reducible rfl)|(refine decide_eq_true ?_)|(refine VL ?_)|(refine dA ?_)))<;>(omega)))<|.O 3 ((map dB l)[zq ((n:Int)-1)*1]?) (dB (getD l (zq ((n:Int)-1)*1) lh)) (am _ _ om)<|.R 4 ((↑(VE (getD l (zq ((n:Int)-1)*1) lh)):Int)==0) (λ p1=>have Z8:=eq_of_beq p1;.W 3 (n-1)<|.V 1 5 (zI (n-1)) (zN (n-1)) (by(refine aG ?_;omega))<|Hn.next ZB ⟨(n-1),om,(by(simp only[V5]at *;exact S5 hR om (u:=((n:Int)-1).toNat) om om)),⟨⟩⟩ (by show n-1<n;clear ZB ZD;omega) [] ro) (λ p1=>have Z8:=ap p1;.val 5 (zN n) (zN T) (by(simp only[V5]at *;rw[NS hR (by rw[show((n:Int)-1).toNat=n-1 from by omega]at *;omega)]))<|Hn.last ZD 0 (():Unit) rfl [] ro)) (λ p0 Z9=>.V 12 5 (zN n) (zN T) (by(rw[NS hR om]))<|Hn.last ZD 0 (():Unit) rfl [] ro)) (fun|⟨n,hn,hR,_⟩=>by kernel_rfl) ⟨(L),om,(by(rw[hL];exact(jY l m).symm.trans hT)),⟨⟩⟩ [] ro (bM (fun|()=>.Y 2 [] [] (zN T) [] ok))) kr
def k5 (X:List Nm):Nat->Nat
 |0=>0
 |i+1=>k5 X i+(X.getD i lh).n
def pf (X:List Nm):Nat:=lk X (k5 X X.length)
theorem rm (X:List Nm):pf X=k5 X X.length:=aP _ _
theorem HG {X:List Nm}(h:∀i,(X.getD i lh).n<=32):∀i,k5 X i<=32*i
 |0=>VT _
 |i+1=>by have:=HG h i;have:=h i;rw[k5];omega
theorem NT {p:Prop}(h:p:=by(simp;have h9:=gM (v:=v) (c:=c) (m:=m) om;have h8:=mn m (c-m);omega)):p:=h
theorem NU {p:Prop}(h:p:=by(have h9:=gM (v:=v) (c:=c) (m:=m) om;have h8:=mn m (c-m);omega)):p:=h
theorem NV (c:Nat)(hc:c<=100000):S0 141 [.v (.int .u64 1),.v (.int .u64 c)] [] (.tup [.v (.int .u64 0),.v (.int .u64 c)]) []:=SpR Tryz.func141 rfl rfl rfl trivial rfl 1000 64 (λ R ok=>.O 22 (aV XQ (VU XQ (↑(WC (VY 64 (c:Int)&&&VY 64 4294967295)):Int))) (D.v (WQ .u64 ((c:Int)%4294967296))) (au (@ml 32 (4294967296:Int) ((c:Int)) (4294967295) om om om om))<|.O 4 (aV XQ (WJ (c:Int) 4294967296)) (D.v (WQ .u64 ((c:Int)/4294967296))) (au (@il  ((c:Int)) (4294967296) om))<|.O 5 (ay .u64 (1*((c:Int)%4294967296))) (D.v (WQ .u64 (1*((c:Int)%4294967296)))) (bA om)<|.O 5 (ay .u64 (0*((c:Int)%4294967296))) (D.v (WQ .u64 (0*((c:Int)%4294967296)))) (bA om)<|.O 3 (aV XQ (WJ (1*((c:Int)%4294967296)) 4294967296)) (D.v (WQ .u64 (1*((c:Int)%4294967296)/4294967296))) (au (@il  (1*((c:Int)%4294967296)) (4294967296) om))<|.O 2 (ay .u64 (0*((c:Int)%4294967296)+1*(c%4294967296)/4294967296)) (D.v (WQ .u64 (0*((c:Int)%4294967296)+1*(c%4294967296)/4294967296))) (bA om)<|.O 4 (aV XQ (VU XQ (↑(WC (VY 64 (0*((c:Int)%4294967296)+1*(c%4294967296)/4294967296)&&&VY 64 4294967295)):Int))) (D.v (WQ .u64 ((0*((c:Int)%4294967296)+1*(c%4294967296)/4294967296)%4294967296))) (au (@ml 32 (4294967296:Int) (0*((c:Int)%4294967296)+1*(c%4294967296)/4294967296) (4294967295) om om om om))<|.O 4 (aV XQ (WJ (0*((c:Int)%4294967296)+1*(c%4294967296)/4294967296) 4294967296)) (D.v (WQ .u64 ((0*((c:Int)%4294967296)+1*(c%4294967296)/4294967296)/4294967296))) (au (@il  (0*((c:Int)%4294967296)+1*(c%4294967296)/4294967296) (4294967296) om))<|.O 6 (ay .u64 (1*((c:Int)/4294967296))) (D.v (WQ .u64 (1*((c:Int)/4294967296)))) (bA om)<|.O 2 (ay .u64 ((0*((c:Int)%4294967296)+1*(c%4294967296)/4294967296)%4294967296+1*(c/4294967296))) (D.v (WQ .u64 ((0*((c:Int)%4294967296)+1*(c%4294967296)/4294967296)%4294967296+1*(c/4294967296)))) (bA om)<|.O 5 (ay .u64 (0*((c:Int)/4294967296))) (D.v (WQ .u64 (0*((c:Int)/4294967296)))) (bA om)<|.O 3 (ay .u64 (0*((c:Int)/4294967296)+(0*(c%4294967296)+1*(c%4294967296)/4294967296)/4294967296)) (D.v (WQ .u64 (0*((c:Int)/4294967296)+(0*(c%4294967296)+1*(c%4294967296)/4294967296)/4294967296))) (bA om)<|.O 3 (aV XQ (WJ ((0*((c:Int)%4294967296)+1*(c%4294967296)/4294967296)%4294967296+1*(c/4294967296)) 4294967296)) (D.v (WQ .u64 (((0*((c:Int)%4294967296)+1*(c%4294967296)/4294967296)%4294967296+1*(c/4294967296))/4294967296))) (au (@il  ((0*((c:Int)%4294967296)+1*(c%4294967296)/4294967296)%4294967296+1*(c/4294967296)) (4294967296) om))<|.O 2 (ay .u64 (0*((c:Int)/4294967296)+(0*(c%4294967296)+1*(c%4294967296)/4294967296)/4294967296+((0*(c%4294967296)+1*(c%4294967296)/4294967296)%4294967296+1*(c/4294967296))/4294967296)) (D.v (WQ .u64 (0*((c:Int)/4294967296)+(0*(c%4294967296)+1*(c%4294967296)/4294967296)/4294967296+((0*(c%4294967296)+1*(c%4294967296)/4294967296)%4294967296+1*(c/4294967296))/4294967296))) (bA om)<|.O 5 (ay .u64 (1*(c:Int))) (D.v (WQ .u64 (1*(c:Int)))) (bA om)<|.U 12 [] [] (WL [D.v (WQ .u64 (0*((c:Int)/4294967296)+(0*(c%4294967296)+1*(c%4294967296)/4294967296)/4294967296+((0*(c%4294967296)+1*(c%4294967296)/4294967296)%4294967296+1*(c/4294967296))/4294967296)),D.v (WQ .u64 (1*(c:Int)))]) [] R (ok _ _ (by(simp <;>(omega))) wr)) kr
def cZ (v:UInt8)(c m:Nat):Z4:=V1 m v++V1 (c-m) 0
theorem gM {v:UInt8}{c m:Nat}(h:m<=c):(cZ v c m).length=c:=by unfold cZ;simp;omega
theorem mn (a b:Nat):Xg a b<=a∧Xg a b<=b∧(1<=a->1<=b->1<=Xg a b):=by
 show min a b<=a∧min a b<=b∧(1<=a->1<=b->1<=min a b);omega
theorem S6 {L:List D}{m:Nat}:(bif true&&VK (m*1) L.length then L else(L.drop 0).take (m*1))=L.take m:=by
 rw[V5,List.drop_zero]
 cases h:(true&&VK m L.length)with
 |false=>rfl
 |true=>
  have:=Nat.eq_of_beq_eq_true ((V8 _).symm.trans h);rw[cond_true,this,Xh]
theorem JW {v:UInt8}{c:Nat}(h:1<=c):ag (bZ [D.v (.int .u8 0)] c) 0 (Ws (Xg 1 c) [D.v (.int .u8 ((v.toNat:Nat):Int))])=(cZ v c 1).map dB:=by
 have e:Xg 1 c=1:=by show min 1 c=1;omega
 have r:bZ [D.v (.int .u8 0)] c=V1 c (dB 0):=by
  rw[List.eq_replicate_iff];refine⟨by simp[bZ],λ d hd=>?_⟩;unfold bZ at hd;obtain⟨j,_,rfl⟩:=List.mem_map.1 hd;show[D.v (.int .u8 0)].getD (j%1) lh=dB 0;rw[Nat.mod_one];rfl
 rw[e,r];unfold cZ ag;rw[Wz,XU,XU,Zt];rfl
theorem JX {v:UInt8}{c m k:Nat}(h:k<=m)(h2:m+k<=c):ag ((cZ v c m).map dB) m (List.map dB (Ws k (Ws m (cZ v c m))))=(cZ v c (m+k)).map dB:=by
 have e1:(cZ v c m).take m=V1 m v:=by
  unfold cZ;rw[XP (by simp),aax,Nat.min_self]
 unfold ag;rw[<-XZ,e1,aax,Zr h,VP,Wk,<-List.map_drop,<-Wz,<-Wz]
 congr 1
 unfold cZ;rw[List.drop_append,Zt,Zt,Wk,show m-(m+k)=0 from by omega,show c-m-(m+k-m)=c-(m+k)from by omega];simp[List.replicate_append_replicate]
theorem tR (nn:Bool)(v:UInt8)(c:Nat)(hc:1<=c∧c<=100000):S0 105 [.sl nn 1 1 [dB v],nD c] [] (.ref 0 0 0 c 1) [⟨(V1 c v).map dB, 5,true⟩]:=SpR Tryz.func105 rfl rfl rfl ⟨aI _,trivial⟩ rfl 1000 64 (λ R ok=>.O 11 (ay .u64 (c:Int)) (D.v (WQ .u64 (c:Int))) (bA om)<|.C 1 141 false [] (.fn Sm (@NV (c) om))<|.F 17 (decide (9223372036854775807<(c:Int))) (by(refine decide_eq_false ?_;(omega)))<|.W 2 (c:Int)<|.K 1 (true&&decide ((c:Int)<=c)&&true&&true&&true&&true&&decide ((↑(YO zB):Int)*(c:Int)<=140737488355328)) (by(have h9:((zB.bytes:Nat):Int)=1:=rfl;rw[h9];simp;omega))<|.K 4 (true&&Nat.blt 0 (Xg 1 c)&&VN (0+c) (length (bZ [bI 0] (c*1)))) (by(simp_all;done))<|.lst (ag (bZ [bI 0] (c*1)) 0 (take (Xg 1 c) [da (VE v)])) (ag (bZ [bI 0] c) 0 (take (Xg 1 c) [da (VE v)])) (by(simp;done))<|.V 1 8 (zN (Xg 1 c)) (zI 1) (by(simp_all;done))<|.blk 176 176 (VF (ag (bZ [bI 0] c) 0 (take (Xg 1 c) [da (VE v)])) 5 true) (VF (map dB (cZ v c 1)) 5 true) (by(refine aw (JW om)))<|Hn.inl T_ok ah false 48 0 (aq Tryz.prog 105 0) (λ(x:(m:Nat)×'(hm:1<=m∧m<=c)×'Unit)=>match x with|⟨m,hm,_⟩=>VZ [(7,VJ 0 0 0 c 1),(8,nD m)] [⟨0,0,176,176,.b ⟨(cZ v c m).map dB,5,true⟩⟩] 8) (λ(x:(m:Nat)×'(hm:1<=m∧m<=c)×'Unit)=>match x with|⟨m,hm,_⟩=>c-m) [⟨Unit,.exit 0,λ x=>match x with|()=>VZ [(7,VJ 0 0 0 c 1)] [⟨0,0,176,176,.b ⟨(replicate c v).map dB,5,true⟩⟩] 8⟩] 1000 64 (fun|⟨m,hm,_⟩,Q,ZB,ZD=>.B 5 ((m:Int)<c) (λ p0 Z9=>.K 5 (aT (some (m:Int)) none none c&&true) NT<|.K 3 (aT none (some (m:Int)) none c&&true) NT<|.K 1 (true&&VN (0+m*1) (length (map dB (cZ v c m)))&&true&&true&&true&&Nat.blt 0 (Xg m (c-m))&&VN (0+m*1+(c-m)) (length (map dB (cZ v c m)))) (by(simp only[V8,Wf,VP];have h9:=gM (v:=v) (c:=c) (m:=m) om;have h8:=mn m (c-m);simp only[VO];refine⟨⟨VL om,VL om⟩,VL om⟩))<|.lst (ag (map dB (cZ v c m)) (0+m*1) (take (Xg m (c-m)) (bif true&&VK (m*1) (length (map dB (cZ v c m)))then map dB (cZ v c m)else take (m*1) (drop 0 (map dB (cZ v c m)))))) (ag (map dB (cZ v c m)) m (map dB (take (Xg m (c-m)) (take m (cZ v c m))))) (by(rw[S6,V5,Wd,XZ,XZ]))<|.I 2 (m+(↑(Xg m (c-m)):Int)) NU<|.V 1 8 (zI (m+(↑(Xg m (c-m)):Int))) (zN (m+Xg m (c-m))) (by(refine aG ?_;(omega)))<|.blk 0 0 (VF (ag (map dB (cZ v c m)) m (map dB (take (Xg m (c-m)) (take m (cZ v c m))))) 5 true) (VF (map dB (cZ v c (m+Xg m (c-m)))) 5 true) (by(have h9:=gM (v:=v) (c:=c) (m:=m) om;have h8:=mn m (c-m);refine aw (JX om om)))<|Hn.next ZB ⟨(m+Xg m (c-m)),NU,⟨⟩⟩ (by show c-(m+Xg m (c-m))<c-m;clear ZB ZD;(have h9:=gM (v:=v) (c:=c) (m:=m) om;have h8:=mn m (c-m);omega)) [(0,0)] ro) (λ p0 Z9=>.blk 0 0 (VF (map dB (cZ v c m)) 5 true) (VF (map dB (replicate c v)) 5 true) (by(rw[show m=c from by(omega)];unfold cZ;simp;done))<|Hn.last ZD 0 (():Unit) rfl [(0,0)] ro)) (fun|⟨m,hm,_⟩=>by kernel_rfl) ⟨(1),om,⟨⟩⟩ [(176,176)] ro (bM (fun|()=>.Y 2 [0] [0] (VJ 0 0 0 c 1) [VF (map dB (replicate c v)) 5 true] ok))) kr
def cn:Z4:=V1 144 8++V1 112 9++V1 24 7++V1 8 8
def dV:Z4:=V1 32 5
theorem NW (R:Z4)(hR:R=V1 144 8):S0 105 [.sl true 1 1 [.v (.int .u8 8)],iD 144] [] (.ref 0 0 0 144 1) [⟨R.map dB, 5,true⟩]:=by
 subst hR;exact tR true 8 144 (by decide)
theorem NX (R:Z4)(hR:R=V1 112 9):S0 105 [.sl true 1 1 [.v (.int .u8 9)],iD 112] [] (.ref 0 0 0 112 1) [⟨R.map dB, 5,true⟩]:=by
 subst hR;exact tR true 9 112 (by decide)
theorem NY (R:Z4)(hR:R=V1 24 7):S0 105 [.sl true 1 1 [.v (.int .u8 7)],iD 24] [] (.ref 0 0 0 24 1) [⟨R.map dB, 5,true⟩]:=by
 subst hR;exact tR true 7 24 (by decide)
theorem NZ (R:Z4)(hR:R=V1 8 8):S0 105 [.sl true 1 1 [.v (.int .u8 8)],iD 8] [] (.ref 0 0 0 8 1) [⟨R.map dB, 5,true⟩]:=by
 subst hR;exact tR true 8 8 (by decide)
theorem N0 (R:Z4)(hR:R=V1 32 5):S0 105 [.sl true 1 1 [.v (.int .u8 5)],iD 32] [] (.ref 0 0 0 32 1) [⟨R.map dB, 5,true⟩]:=by
 subst hR;exact tR true 5 32 (by decide)
theorem EX (R1 R2 R3 R4 R5:Z4)(h1:R1=V1 144 8)(h2:R2=V1 112 9)(h3:R3=V1 24 7)(h4:R4=V1 8 8)(h5:R5=V1 32 5):S0 86 [] [] (.tup [.ref 0 0 0 288 1,.ref 1 1 0 32 1]) [⟨(R1++R2++R3++R4).map dB, 5,true⟩,⟨R5.map dB, 5,true⟩]:=by
 have l1:R1.length=144:=by rw[h1,Wk]
 have l2:R2.length=112:=by rw[h2,Wk]
 have l3:R3.length=24:=by rw[h3,Wk]
 have l4:R4.length=8:=by rw[h4,Wk]
 have l5:R5.length=32:=by rw[h5,Wk]
 refine SpR Tryz.func86 rfl rfl rfl ⟨aI _,aI _,trivial⟩ rfl 1000 64 (λ R ok=>.C 5 105 false [] (.fn A8 (@NW (R1) aO))<|.C 3 105 false [] (.fn A8 (@NX (R2) aO))<|.C 3 105 false [] (.fn A8 (@NY (R3) aO))<|.C 3 105 false [] (.fn A8 (@NZ (R4) aO))<|.K 165 (true&&(true&&VN 144 (length (map dB R1)))&&true&&true&&true) (by(simp <;>(omega)))<|.K 17 (true&&VK 144 (length (bif true&&VK 144 (length (map dB R1))then map dB R1 else take 144 (drop 0 (map dB R1))))&&true&&(true&&VN 112 (length (map dB R2)))&&true&&true&&true) (by(simp_all;done))<|.K 17 (true&&VK 256 (length ((bif true&&VK 144 (length (map dB R1))then map dB R1 else take 144 (drop 0 (map dB R1)))++bif true&&VK 112 (length (map dB R2))then map dB R2 else take 112 (drop 0 (map dB R2))))&&true&&(true&&VN 24 (length (map dB R3)))&&true&&true&&true) (by(simp_all;done))<|.K 17 (true&&VK 280 (length (((bif true&&VK 144 (length (map dB R1))then map dB R1 else take 144 (drop 0 (map dB R1)))++bif true&&VK 112 (length (map dB R2))then map dB R2 else take 112 (drop 0 (map dB R2)))++bif true&&VK 24 (length (map dB R3))then map dB R3 else take 24 (drop 0 (map dB R3))))&&true&&(true&&VN 8 (length (map dB R4)))&&true&&true&&true) (by(simp_all;done))<|.C 15 105 false [] (.fn A8 (@N0 (R5) aO))<|.U 2 [1112,1272] [1112,1272] (WL [VJ 0 0 0 288 1,VJ 1 1 0 32 1]) [VF ((((bif true&&VK 144 (length (map dB R1))then map dB R1 else take 144 (drop 0 (map dB R1)))++bif true&&VK 112 (length (map dB R2))then map dB R2 else take 112 (drop 0 (map dB R2)))++bif true&&VK 24 (length (map dB R3))then map dB R3 else take 24 (drop 0 (map dB R3)))++bif true&&VK 8 (length (map dB R4))then map dB R4 else take 8 (drop 0 (map dB R4))) 5 true,VF (map dB R5) 5 true] R (ok _ _ wr (by(simp_all;done)))) kr
theorem m9 (L F:Z4)(hL:L=cn)(hF:F=dV):S0 86 [] [] (.tup [.ref 0 0 0 288 1,.ref 1 1 0 32 1]) [⟨L.map dB, 5,true⟩,⟨F.map dB, 5,true⟩]:=by
 subst hL hF;exact EX _ _ _ _ _ rfl rfl rfl rfl rfl
theorem EY:S0 111 [] [] (.agg ([16,17,18,0,8,7,9,6,10,5,11,4,12,3,13,2,14,1,15].map nD)) []:=SpR Tryz.func111 rfl rfl rfl trivial rfl 1000 64 (λ R ok=>.U 10 [] [] (D.agg [zI 16,zI 17,zI 18,zI 0,zI 8,zI 7,zI 9,zI 6,zI 10,zI 5,zI 11,zI 4,zI 12,zI 3,zI 13,zI 2,zI 14,zI 1,zI 15]) [] R (ok _ _ (by(simp;done)) wr)) kr
def fv (at':Nat):Nat:=lk [()] ((8-(at'+3)%8)%8)
theorem kD (at':Nat):fv at'=(8-(at'+3)%8)%8:=aP _ _
def HH (x:UInt8):Nm:=⟨x.toNat,8⟩
def k6 (e k:Nat):List Nm:=[⟨e,1⟩,⟨k,2⟩]
def RA (e a r:Nat):List Nm:=[⟨e,1⟩,⟨0,2⟩,⟨0,fv a⟩,⟨r,16⟩,⟨65535-r,16⟩]
def po (e a:Nat)(raw:Z4)(i:Nat):List Nm:=lk raw (RA e a raw.length++(raw.take i).map HH)
theorem gn (e a:Nat)(raw:Z4)(i:Nat):po e a raw i=RA e a raw.length++(raw.take i).map HH:=aP _ _
def qi (e a:Nat)(raw:Z4):List Nm:=po e a raw raw.length
theorem kE {e a:Nat}{raw:Z4}{i:Nat}(h:i<=raw.length):(po e a raw i).length=5+i:=by
 rw[gn,VI,VP,VW,Zr h];rfl
theorem N1 {e a:Nat}{raw:Z4}{i:Nat}(h:i<raw.length):(po e a raw (i+1)).flatMap aD=(po e a raw i).flatMap aD++aD ⟨(raw.getD i lh).toNat,8⟩:=by
 have e1:raw.take (i+1)=raw.take i++[raw.getD i lh]:=by
  rw[Wo h,VH,VG h];rfl
 rw[gn,gn,e1,Wz,<-Wc,cD];rfl
theorem N2 {e a:Nat}{raw:Z4}:(po e a raw 0).flatMap aD=[cR e,nD 1,cR 0,nD 2,cR 0,nD (fv a),cR raw.length,nD 16,cR (65535-raw.length),nD 16]:=by
 rw[gn];rfl
theorem HI {e a:Nat}{raw:Z4}{r:Nat}{x y:Int}(hr:r=raw.length)(hx:x=(fv a:Int))(hy:y=((65535-r:Nat):Int)):[D.v (.int .u32 (e:Int)),D.v (.int .i64 1),D.v (.int .u32 0),D.v (.int .i64 2),D.v (.int .u32 0),D.v (.int .i64 x),D.v (.int .u32 (r:Int)),D.v (.int .i64 16),D.v (.int .u32 y),D.v (.int .i64 16)]=(po e a raw 0).flatMap aD:=by
 subst hr hx hy;exact N2.symm
theorem HJ {e a:Nat}{raw:Z4}{i u:Nat}(hu:u=i)(h:i<raw.length):(po e a raw i).flatMap aD++[D.v (.int .u32 (((raw.getD u lh).toNat:Nat):Int)),D.v (.int .i64 8)]=(po e a raw (i+1)).flatMap aD:=by
 subst hu;exact(N1 h).symm
theorem N3 (k:Nat)(cs:List D)(hcs:cs.length=k*3)(a:Nat)(ha:a<=7)(raw:Z4)(r:Nat)(hr:r=raw.length)(hr2:r<=65535)(L F:Z4)(hL:L=cn)(hF:F=dV):S0 65 [nD a,dY 0,.sl false r 1 (raw.map dB),.sl false k 3 cs,.v (.bool true)] [] (.ptr 0 0 0) [⟨[.ref 1 1 0 (5+r) 2], 123,false⟩,⟨(qi 1 a raw).flatMap aD, 126,true⟩]:=SpR Tryz.func65 rfl rfl rfl ⟨rfl,dn (λ _=>rfl) _,trivial⟩ rfl 1000 64 (λ R ok=>.C 43 86 false [] (.fn Ru (@m9 (L) (F) aO aO))<|.W 21 (a+3)<|.O 2 (aV VV (WW ((a:Int)+3) 8)) (zI (((a:Int)+3)%8)) (au (@bw  ((a:Int)+3) (8) om))<|.W 2 (8-((a:Int)+3)%8)<|.O 2 (aV VV (WW (8-((a:Int)+3)%8) 8)) (zI ((8-((a:Int)+3)%8)%8)) (au (@bw  (8-((a:Int)+3)%8) (8) om))<|.O 5 (ay .u32 (r:Int)) (ai r) (aA om)<|.W 6 (65535-(r:Int))<|.O 1 (ay .u32 (65535-(r:Int))) (uI (65535-(r:Int))) (aA om)<|.M 28 560 560 (VF [uI 1,zI 1,uI 0,zI 2,uI 0,zI ((8-((a:Int)+3)%8)%8),ai r,zI 16,uI (65535-(r:Int)),zI 16] 126 true) (VF (flatMap aD (po 1 a raw 0)) 126 true) (by(refine aw (HI (e:=1) hr ?_ ?_)<;>(try rw[kD])<;>omega))<|Hn.inl T_ok ah false 39 368 (aq Tryz.prog 87 0) (λ(x:(i:Nat)×'(hi:i<=r)×'Unit)=>match x with|⟨i,hi,_⟩=>VZ [(0,V7 16 16 0),(26,V3 false r 1 (map dB raw)),(27,zN r),(28,nD i)] [⟨16,16,16,16,.b ⟨[(VJ 400 400 (0) (5+i) 2)],123,false⟩⟩,⟨104,104,104,104,.b ⟨[uI 1,zI 1,uI 0,zI 2],126,false⟩⟩,⟨264,264,264,264,.b ⟨map dB L,5,true⟩⟩,⟨265,265,265,265,.b ⟨map dB F,5,true⟩⟩,⟨400,400,560,560,.b ⟨(po 1 a raw i).flatMap aD,126,true⟩⟩] 408) (λ(x:(i:Nat)×'(hi:i<=r)×'Unit)=>match x with|⟨i,hi,_⟩=>r-i) [⟨Unit,.exit 0,λ x=>match x with|()=>VZ [(0,V7 16 16 0),(26,V3 false r 1 (map dB raw)),(27,zN r),(28,nD r)] [⟨16,16,16,16,.b ⟨[(VJ 400 400 (0) (5+r) 2)],123,false⟩⟩,⟨104,104,104,104,.b ⟨[uI 1,zI 1,uI 0,zI 2],126,false⟩⟩,⟨264,264,264,264,.b ⟨map dB L,5,true⟩⟩,⟨265,265,265,265,.b ⟨map dB F,5,true⟩⟩,⟨400,400,560,560,.b ⟨(qi 1 a raw).flatMap aD,126,true⟩⟩] 408⟩] 1000 64 (fun|⟨i,hi,_⟩,Q,ZB,ZD=>.B 2 ((i:Int)<r) (λ p0 Z9=>.K 1 (true&&decide ((i:Int)<r)&&true) JO<|.O 2 ((map dB raw)[i*1]?) (dB (getD raw (i*1) lh)) (am _ _ om)<|.O 4 (ay .u32 (↑(VE (getD raw (i*1) lh)):Int)) (ai (VE (getD raw (i*1) lh))) (aA (by(exact dR _ (by decide) (by decide))))<|.K 17 (true&&VK ((5+i)*2) (length (flatMap aD (po 1 a raw i)))&&true&&true&&true&&true&&VN ((5+i+1)*16) 140737488355328) (by(simp only[bX,kE (raw:=raw) (e:=1) (a:=a) (i:=i) om,WK,V8,Wf];refine VL ?_;omega))<|.W 9 (i+1)<|.V 1 28 (zI (i+1)) (zN (i+1)) D9<|.blk 16 16 (VF [VJ 536 536 0 (5+i+1) 2] 123 false) (VF [VJ 536 536 0 (5+(i+1)) 2] 123 false) (by(simp <;>(omega)))<|.blk 536 536 (VF (flatMap aD (po 1 a raw i)++[ai (VE (getD raw (i*1) lh)),zI 8]) 126 true) (VF (flatMap aD (po 1 a raw (i+1))) 126 true) (by(refine aw (HJ om om)))<|Hn.next ZB ⟨(i+1),om,⟨⟩⟩ (by show r-(i+1)<r-i;clear ZB ZD;omega) [(16,16),(104,104),(264,264),(265,265),(536,536)] ro) (λ p0 Z9=>.val 28 (zN i) (zN r) D9<|.blk 16 16 (VF [VJ 400 400 0 (5+i) 2] 123 false) (VF [VJ 400 400 0 (5+r) 2] 123 false) (by(simp <;>(omega)))<|.blk 400 400 (VF (flatMap aD (po 1 a raw i)) 126 true) (VF (flatMap aD (qi 1 a raw)) 126 true) (by(rw[show i=raw.length from by omega];rfl))<|Hn.last ZD 0 (():Unit) rfl [(16,16),(104,104),(264,264),(265,265),(400,400)] ro)) (fun|⟨i,hi,_⟩=>by kernel_rfl) ⟨(0),om,⟨⟩⟩ [(16,16),(104,104),(264,264),(265,265),(560,560)] ro (bM (fun|()=>.Y 2 [16,400] [16,400] (V7 0 0 0) [VF [VJ 1 1 0 (5+r) 2] 123 false,VF (flatMap aD (qi 1 a raw)) 126 true] ok))) kr
theorem N4 (k:Nat)(cs:List D)(hcs:cs.length=k*3)(a:Nat)(ha:a<=7)(raw:Z4)(r:Nat)(hr:r=raw.length)(hr2:r<=65535)(L F:Z4)(hL:L=cn)(hF:F=dV):S0 65 [nD a,dY 0,.sl false r 1 (raw.map dB),.sl false k 3 cs,.v (.bool false)] [] (.ptr 0 0 0) [⟨[.ref 1 1 0 (5+r) 2], 123,false⟩,⟨(qi 0 a raw).flatMap aD, 126,true⟩]:=SpR Tryz.func65 rfl rfl rfl ⟨rfl,dn (λ _=>rfl) _,trivial⟩ rfl 1000 64 (λ R ok=>.C 42 86 false [] (.fn Ru (@m9 (L) (F) aO aO))<|.W 21 (a+3)<|.O 2 (aV VV (WW ((a:Int)+3) 8)) (zI (((a:Int)+3)%8)) (au (@bw  ((a:Int)+3) (8) om))<|.W 2 (8-((a:Int)+3)%8)<|.O 2 (aV VV (WW (8-((a:Int)+3)%8) 8)) (zI ((8-((a:Int)+3)%8)%8)) (au (@bw  (8-((a:Int)+3)%8) (8) om))<|.O 5 (ay .u32 (r:Int)) (ai r) (aA om)<|.W 6 (65535-(r:Int))<|.O 1 (ay .u32 (65535-(r:Int))) (uI (65535-(r:Int))) (aA om)<|.M 28 552 552 (VF [uI 0,zI 1,uI 0,zI 2,uI 0,zI ((8-((a:Int)+3)%8)%8),ai r,zI 16,uI (65535-(r:Int)),zI 16] 126 true) (VF (flatMap aD (po 0 a raw 0)) 126 true) (by(refine aw (HI (e:=0) hr ?_ ?_)<;>(try rw[kD])<;>omega))<|Hn.inl T_ok ah false 39 360 (aq Tryz.prog 87 0) (λ(x:(i:Nat)×'(hi:i<=r)×'Unit)=>match x with|⟨i,hi,_⟩=>VZ [(0,V7 16 16 0),(26,V3 false r 1 (map dB raw)),(27,zN r),(28,nD i)] [⟨16,16,16,16,.b ⟨[(VJ 392 392 (0) (5+i) 2)],123,false⟩⟩,⟨96,96,96,96,.b ⟨[uI 0,zI 1,uI 0,zI 2],126,false⟩⟩,⟨256,256,256,256,.b ⟨map dB L,5,true⟩⟩,⟨257,257,257,257,.b ⟨map dB F,5,true⟩⟩,⟨392,392,552,552,.b ⟨(po 0 a raw i).flatMap aD,126,true⟩⟩] 400) (λ(x:(i:Nat)×'(hi:i<=r)×'Unit)=>match x with|⟨i,hi,_⟩=>r-i) [⟨Unit,.exit 0,λ x=>match x with|()=>VZ [(0,V7 16 16 0),(26,V3 false r 1 (map dB raw)),(27,zN r),(28,nD r)] [⟨16,16,16,16,.b ⟨[(VJ 392 392 (0) (5+r) 2)],123,false⟩⟩,⟨96,96,96,96,.b ⟨[uI 0,zI 1,uI 0,zI 2],126,false⟩⟩,⟨256,256,256,256,.b ⟨map dB L,5,true⟩⟩,⟨257,257,257,257,.b ⟨map dB F,5,true⟩⟩,⟨392,392,552,552,.b ⟨(qi 0 a raw).flatMap aD,126,true⟩⟩] 400⟩] 1000 64 (fun|⟨i,hi,_⟩,Q,ZB,ZD=>.B 2 ((i:Int)<r) (λ p0 Z9=>.K 1 (true&&decide ((i:Int)<r)&&true) JO<|.O 2 ((map dB raw)[i*1]?) (dB (getD raw (i*1) lh)) (am _ _ om)<|.O 4 (ay .u32 (↑(VE (getD raw (i*1) lh)):Int)) (ai (VE (getD raw (i*1) lh))) (aA (by(exact dR _ (by decide) (by decide))))<|.K 17 (true&&VK ((5+i)*2) (length (flatMap aD (po 0 a raw i)))&&true&&true&&true&&true&&VN ((5+i+1)*16) 140737488355328) (by(simp only[bX,kE (raw:=raw) (e:=0) (a:=a) (i:=i) om,WK,V8,Wf];refine VL ?_;omega))<|.W 9 (i+1)<|.V 1 28 (zI (i+1)) (zN (i+1)) D9<|.blk 16 16 (VF [VJ 528 528 0 (5+i+1) 2] 123 false) (VF [VJ 528 528 0 (5+(i+1)) 2] 123 false) (by(simp <;>(omega)))<|.blk 528 528 (VF (flatMap aD (po 0 a raw i)++[ai (VE (getD raw (i*1) lh)),zI 8]) 126 true) (VF (flatMap aD (po 0 a raw (i+1))) 126 true) (by(refine aw (HJ om om)))<|Hn.next ZB ⟨(i+1),om,⟨⟩⟩ (by show r-(i+1)<r-i;clear ZB ZD;omega) [(16,16),(96,96),(256,256),(257,257),(528,528)] ro) (λ p0 Z9=>.val 28 (zN i) (zN r) D9<|.blk 16 16 (VF [VJ 392 392 0 (5+i) 2] 123 false) (VF [VJ 392 392 0 (5+r) 2] 123 false) (by(simp <;>(omega)))<|.blk 392 392 (VF (flatMap aD (po 0 a raw i)) 126 true) (VF (flatMap aD (qi 0 a raw)) 126 true) (by(rw[show i=raw.length from by omega];rfl))<|Hn.last ZD 0 (():Unit) rfl [(16,16),(96,96),(256,256),(257,257),(392,392)] ro)) (fun|⟨i,hi,_⟩=>by kernel_rfl) ⟨(0),om,⟨⟩⟩ [(16,16),(96,96),(256,256),(257,257),(552,552)] ro (bM (fun|()=>.Y 2 [16,392] [16,392] (V7 0 0 0) [VF [VJ 1 1 0 (5+r) 2] 123 false,VF (flatMap aD (qi 0 a raw)) 126 true] ok))) kr
theorem j9 {p:Prop}(h:p:=by(have h9:=hl i;have h5:=WB (l.getD i lh).lit;have h2:=bg hT1 hT2 (hl i);have h8:=okL (l.getD i lh).lit.toNat;have h4:=okL (257+ak T1 (l.getD i lh).long);have h3:=okF (ak T2 (l.getD i lh).dist);have g1:=hz1 (ak T1 (l.getD i lh).long);have g2:=hz2 (ak T2 (l.getD i lh).dist);have g3:=okL 256;have h7:=cE (T1:=T1) (T2:=T2) (A:=ab L) (B:=ab F) (H:=H) (l:=l) i om;unfold ci at h9;omega)):p:=h
theorem pp {p:Prop}(h:p:=by(have h9:=hl 0;have h5:=WB (l.getD 0 lh).lit;have h2:=bg hT1 hT2 (hl 0);have h8:=okL (l.getD 0 lh).lit.toNat;have h4:=okL (257+ak T1 (l.getD 0 lh).long);have h3:=okF (ak T2 (l.getD 0 lh).dist);have g1:=hz1 (ak T1 (l.getD 0 lh).long);have g2:=hz2 (ak T2 (l.getD 0 lh).dist);have g3:=okL 256;have h7:=cE (T1:=T1) (T2:=T2) (A:=ab L) (B:=ab F) (H:=H) (l:=l) 0 om;unfold ci at h9;omega)):p:=h
theorem EZ {p:Prop}(h:p:=by(exact VR (okL _).1 (by decide))):p:=h
theorem HK {p:Prop}(h:p:=by cases d<;>repeat' first|exact trivial|exact rfl|exact(λ _=>aF _)|exact(λ _=>by assumption)|exact(λ _=>bu _ (λ _=>rfl) _)|exact(λ _=>bW (λ _=>rfl) _)|(intro h;cases h;done)|(intro _;rfl)|(intro _;exact cz _ (bu _ (λ _=>rfl) _))|exact iR _ (bu _ (λ _=>rfl) _)|refine V4 ?_ ?_|refine eF ?_ ?_|(intro _;refine cy ?_ ?_)|refine cy ?_ ?_|(intro _;refine fI ?_ ?_)|exact cz _ (bu _ (λ _=>rfl) _)|exact bu _ (λ _=>rfl) _):p:=h
theorem Mg {p:Prop}(h:p:=by(rw[show i=k from by omega])):p:=h
theorem RB {p:Prop}(h:p:=by(rw[f9];have h5:=WB (l.getD 0 lh).lit;refine VL ?_;omega)):p:=h
theorem RC {p:Prop}(h:p:=by(have h7:=cE (T1:=T1) (T2:=T2) (A:=ab L) (B:=ab F) (H:=H) (l:=l) i om;simp only[VI,bX,Wj,XJ,V8,Wf,VO,Nat.beq_eq,Nat.ble_eq];omega)):p:=h
theorem RE {p:Prop}(h:p:=by(have h7:=cE (T1:=T1) (T2:=T2) (A:=ab L) (B:=ab F) (H:=H) (l:=l) i om;simp only[bX,WK,V8,Wf];refine VL ?_;omega)):p:=h
theorem RG {p:Prop}(h:p:=by show k-(i+1)<k-i;clear ZB ZD;omega):p:=h
theorem E5 {p:Prop}(h:p:=by(refine decide_eq_true ?_;have h9:=hl i;have h5:=WB (l.getD i lh).lit;have h2:=bg hT1 hT2 (hl i);have h8:=okL (l.getD i lh).lit.toNat;have h4:=okL (257+ak T1 (l.getD i lh).long);have h3:=okF (ak T2 (l.getD i lh).dist);have g1:=hz1 (ak T1 (l.getD i lh).long);have g2:=hz2 (ak T2 (l.getD i lh).dist);have g3:=okL 256;have h7:=cE (T1:=T1) (T2:=T2) (A:=ab L) (B:=ab F) (H:=H) (l:=l) i om;unfold ci at h9;omega)):p:=h
theorem E6 {p:Prop}(h:p:=by(rw[f9];have h2:=bg hT1 hT2 (hl i);refine VL ?_;omega)):p:=h
theorem JY {p:Prop}(h:p:=by(rw[cS];refine VL ?_;(omega))):p:=h
theorem JZ {p:Prop}(h:p:=by(exact dR _ (by decide) (by decide))):p:=h
theorem J0 {p:Prop}(h:p:=by(refine decide_eq_true ?_;have h9:=hl 0;have h5:=WB (l.getD 0 lh).lit;have h2:=bg hT1 hT2 (hl 0);have h8:=okL (l.getD 0 lh).lit.toNat;have h4:=okL (257+ak T1 (l.getD 0 lh).long);have h3:=okF (ak T2 (l.getD 0 lh).dist);have g1:=hz1 (ak T1 (l.getD 0 lh).long);have g2:=hz2 (ak T2 (l.getD 0 lh).dist);have g3:=okL 256;have h7:=cE (T1:=T1) (T2:=T2) (A:=ab L) (B:=ab F) (H:=H) (l:=l) 0 om;unfold ci at h9;omega)):p:=h
theorem J1 {p:Prop}(h:p:=by(exact VR (okF _).1 (by decide))):p:=h
theorem N5 {p:Prop}(h:p:=by(simp;have h9:=hl 0;have h5:=WB (l.getD 0 lh).lit;have h2:=bg hT1 hT2 (hl 0);have h8:=okL (l.getD 0 lh).lit.toNat;have h4:=okL (257+ak T1 (l.getD 0 lh).long);have h3:=okF (ak T2 (l.getD 0 lh).dist);have g1:=hz1 (ak T1 (l.getD 0 lh).long);have g2:=hz2 (ak T2 (l.getD 0 lh).dist);have g3:=okL 256;have h7:=cE (T1:=T1) (T2:=T2) (A:=ab L) (B:=ab F) (H:=H) (l:=l) 0 om;unfold ci at h9;omega)):p:=h
theorem N6 {p:Prop}(h:p:=by exact(V4 (D.sim.slw rfl (aL (by(simp;have h9:=hl 0;have h5:=WB (l.getD 0 lh).lit;have h2:=bg hT1 hT2 (hl 0);have h8:=okL (l.getD 0 lh).lit.toNat;have h4:=okL (257+ak T1 (l.getD 0 lh).long);have h3:=okF (ak T2 (l.getD 0 lh).dist);have g1:=hz1 (ak T1 (l.getD 0 lh).long);have g2:=hz2 (ak T2 (l.getD 0 lh).dist);have g3:=okL 256;have h7:=cE (T1:=T1) (T2:=T2) (A:=ab L) (B:=ab F) (H:=H) (l:=l) 0 om;unfold ci at h9;omega))|>.trans rfl)) (qr trivial))):p:=h
theorem N7 {p:Prop}(h:p:=by(rw[V8];refine decide_eq_true ?_;have h5:=WB (l.getD i lh).lit;omega)):p:=h
theorem N8 {p:Prop}(h:p:=by(rw[f9];refine VL ?_;have h5:=WB (l.getD i lh).lit;(omega))):p:=h
theorem N9 {p:Prop}(h:p:=by(refine aw ?_;rw[gr om om,cD,cD,Wc];rfl)):p:=h
theorem Oa {p:Prop}(h:p:=by(have h7:=cE (T1:=T1) (T2:=T2) (A:=ab L) (B:=ab F) (H:=H) (l:=l) k om;simp only[bX,WK,V8,Wf];refine VL ?_;omega)):p:=h
theorem Oc {p:Prop}(h:p:=by(rw[f9];have h2:=bg hT1 hT2 (hl 0);refine VL ?_;omega)):p:=h
structure Tn where
 lit:UInt8
 dist:Nat
 long:Nat
 deriving Inhabited
abbrev bb (t:Tn):List D:=[dB t.lit,nD t.dist,nD t.long]
def ci (t:Tn):Prop:=t.long=0∨3<=t.long∧t.long<=258∧1<=t.dist∧t.dist<=32768
theorem cS (l:List Tn):(l.flatMap bb).length=l.length*3:=bj (k:=3) (λ _=>rfl) l
def iF (C:List (Nat×Nat))(s n x:Nat):List Nm:=[⟨dG (C.getD s lh).1 (C.getD s lh).2,(C.getD s lh).2⟩,⟨x,n⟩]
def tS (T1 T2:List Sy)(A B:List (Nat×Nat))(t:Tn):List Nm:=
 if t.long=0 then iF A t.lit.toNat 0 0
 else iF A (257+ak T1 t.long) (T1.getD (ak T1 t.long) lh).bits (t.long-(T1.getD (ak T1 t.long) lh).least)++iF B (ak T2 t.dist) (T2.getD (ak T2 t.dist) lh).bits (t.dist-(T2.getD (ak T2 t.dist) lh).least)
def bf (T1 T2:List Sy)(A B:List (Nat×Nat))(H:List Nm)(l:List Tn)(i:Nat):List Nm:=lk l (H++(l.take i).flatMap (tS T1 T2 A B))
section
variable {T1 T2:List Sy} {A B:List (Nat×Nat)} {H:List Nm} {l:List Tn} {i:Nat}
theorem gq:bf T1 T2 A B H l i=H++(l.take i).flatMap (tS T1 T2 A B):=aP _ _
theorem iX:bf T1 T2 A B H l 0=H:=by rw[gq];exact WN _
theorem BA (h:i<l.length):bf T1 T2 A B H l (i+1)=bf T1 T2 A B H l i++tS T1 T2 A B (l.getD i lh):=by
 have e1:l.take (i+1)=l.take i++[l.getD i lh]:=by
  rw[Wo h,VH,VG h];rfl
 rw[gq,gq,e1,WH,<-Wc,List.flatMap_singleton]
theorem E7 (t:Tn):(tS T1 T2 A B t).length<=4:=by 
 unfold tS;split
 ·show 2<=4;decide
 ·show 4<=4;decide
theorem cE:∀i,i<=l.length->(bf T1 T2 A B H l i).length<=H.length+4*i
 |0,_=>by rw[iX];omega
 |i+1,h=>by
  rw[BA om,VI];have:=cE i om;have:=E7 (T1:=T1) (T2:=T2) (A:=A) (B:=B) (l.getD i lh);omega
theorem fh (h:i<l.length)(h0:(l.getD i lh).long=0):bf T1 T2 A B H l (i+1)=bf T1 T2 A B H l i++iF A (l.getD i lh).lit.toNat 0 0:=by
 rw[BA h,tS,ZF h0]
theorem gr (h:i<l.length)(h0:(l.getD i lh).long≠0):bf T1 T2 A B H l (i+1)=bf T1 T2 A B H l i++(iF A (257+ak T1 (l.getD i lh).long) (T1.getD (ak T1 (l.getD i lh).long) lh).bits ((l.getD i lh).long-(T1.getD (ak T1 (l.getD i lh).long) lh).least)++iF B (ak T2 (l.getD i lh).dist) (T2.getD (ak T2 (l.getD i lh).dist) lh).bits ((l.getD i lh).dist-(T2.getD (ak T2 (l.getD i lh).dist) lh).least)):=by
 rw[BA h,tS,ZE h0]
end
theorem tT {T:List Sy}(hT:T=aB){n:Nat}(h:3<=n∧n<=258):ak T n<29:=by
 subst hT;rw[fM];exact Bf (n:=n) (b:=259) aB 29 0 3 rfl (by decide) h.1 om
theorem xq {T:List Sy}(hT:T=aM){n:Nat}(h:1<=n∧n<=32768):ak T n<30:=by
 subst hT;rw[fM];exact Bf (n:=n) (b:=32769) aM 30 0 1 rfl (by decide) h.1 om
abbrev db (c:Nat×Nat):List D:=[cR c.1,dY c.2]
theorem f9 (l:List (Nat×Nat)):(l.flatMap db).length=l.length*2:=bj (k:=2) (λ _=>rfl) l
theorem kF (l:Z4)(n:Nat)(hn:n=l.length)(m:Nat)(hm:1<=m∧m<=15)(hc:dI l m=0):S0 112 [.sl false n 1 (l.map dB),nD m] [] (.tup [.ref 0 0 0 n 2,iD 0]) [⟨(ab l).flatMap db, 210,true⟩]:=EW l n hn m hm hc
theorem bg {T1 T2:List Sy}(hT1:T1=aB)(hT2:T2=aM){t:Tn}(h:ci t):t.long≠0->ak T1 t.long<29∧ak T2 t.dist<30:=λ h0=>by
 unfold ci at h;exact⟨tT hT1 om,xq hT2 om⟩
def jZ (C:List (Nat×Nat)):Prop:=∀s,(C.getD s lh).2<=15∧(C.getD s lh).1<2^(C.getD s lh).2
theorem j5 (T:List Sy)(hT:T=aB)(hl:T.length=29)(hz:bk T)(n:Nat)(hn:n<=40000)(hIk:ak T n<29):S0 142 [nD n] [] (.tup [nD (257+ak T n),nD (T.getD (ak T n) lh).bits,nD (n-(T.getD (ak T n) lh).least),iD 0]) []:=JA T hT hl hz n hn _ rfl hIk
theorem oo (T:List Sy)(hT:T=aM)(hl:T.length=30)(hz:bk T)(n:Nat)(hn:n<=40000)(hIk:ak T n<30):S0 143 [nD n] [] (.tup [nD (ak T n),nD (T.getD (ak T n) lh).bits,nD (n-(T.getD (ak T n) lh).least),iD 0]) []:=by
 have q:=Nq T hT hl hz n hn _ rfl hIk
 rwa [Wd]at q
def sh (b:Bool):Nat:=bif b then 8 else 0
theorem SpecH.run2 {τ:Sort _}(t:τ){S0 S1:Prop}{C0 C1:τ->Prop}(f0:∀t,C0 t->S0)(f1:∀t,C1 t->S1)(h0:C0 t)(h1:C1 t):S0∧S1:=⟨f0 t h0,f1 t h1⟩
theorem HL (l:List Tn)(k:Nat)(hk:k=l.length)(hk2:k<=65535)(hl:∀i,ci (l.getD i lh))(T1 T2:List Sy)(hT1:T1=aB)(hT2:T2=aM)(hl1:T1.length=29)(hl2:T2.length=30)(hz1:bk T1)(hz2:bk T2)(L F:Z4)(hL:L=cn)(hF:F=dV)(hLl:L.length=288)(hFl:F.length=32)(hcL:dI L 15=0)(hcF:dI F 15=0)(hmL:(ab L).length=288)(hmF:(ab F).length=32)(okL:jZ (ab L))(okF:jZ (ab F))(a:Nat)(ha:a<=7)(raw:Z4)(r:Nat)(hr:r=raw.length)(hr2:r<=65535)(H:List Nm)(hH:H=k6 1 1)(hHl:H.length=2)(H':List Nm)(hH':H'=k6 0 1)(hHl':H'.length=2):(S0 65 [nD a,dY 1,.sl false r 1 (raw.map dB),.sl false k 3 (l.flatMap bb),.v (.bool true)] [] (.ptr 0 0 0) [⟨[.ref 1 1 0 (bf T1 T2 (ab L) (ab F) H l k++iF (ab L) 256 0 0).length 2], 123,false⟩,⟨(bf T1 T2 (ab L) (ab F) H l k++iF (ab L) 256 0 0).flatMap aD, 126,true⟩])∧(S0 65 [nD a,dY 1,.sl false r 1 (raw.map dB),.sl false k 3 (l.flatMap bb),.v (.bool false)] [] (.ptr 0 0 0) [⟨[.ref 1 1 0 (bf T1 T2 (ab L) (ab F) H' l k++iF (ab L) 256 0 0).length 2], 123,false⟩,⟨(bf T1 T2 (ab L) (ab F) H' l k++iF (ab L) 256 0 0).flatMap aD, 126,true⟩]):=by
 refine SpecH.run2 (λ(d:Bool) (e:Nat) (H:List Nm) (hH:H=k6 e 1) (hHl:H.length=2) (R:D->List Blk->Prop) (ok:∀r' bs',r'=(.ptr 0 0 0)->bs'=[⟨[.ref 1 1 0 (bf T1 T2 (ab L) (ab F) H l k++iF (ab L) 256 0 0).length 2], 123,false⟩,⟨(bf T1 T2 (ab L) (ab F) H l k++iF (ab L) 256 0 0).flatMap aD, 126,true⟩]->R r' bs')=>((.cl 86 false [] (.fn Ru (@m9 (L) (F) aO aO))<|.L 26 112 false [] (true&&(true&&VN 288 (length (map dB L))&&true&&ae (bif true&&VK 288 (length (map dB L))then map dB L else take 288 (drop 0 (map dB L))))&&true) N5 ([V3 true 288 1 (bif true&&VK 288 (length (map dB L))then map dB L else take 288 (drop 0 (map dB L))),zI 15]) N6 (.fn Q112 (@kF (L) (288) om (15) (by(simp;done)) om))<|.L 13 112 false [] (true&&(true&&VN 32 (length (map dB F))&&true&&ae (bif true&&VK 32 (length (map dB F))then map dB F else take 32 (drop 0 (map dB F))))&&true) N5 ([V3 true 32 1 (bif true&&VK 32 (length (map dB F))then map dB F else take 32 (drop 0 (map dB F))),zI 15]) N6 (.fn Q112 (@kF (F) (32) om (15) (by(simp;done)) om))<|.s 18<|.two (.B 2 (0<(k:Int)) (λ p0 Z9=>.K 1 (true&&decide (0<(k:Int))&&true) (by((refine aC ?_ ?_)<;>(repeat' (first|(refine aC ?_ ?_)|(with_reducible rfl)|(refine decide_eq_true ?_)|(refine VL ?_)|(refine dA ?_)))<;>(omega)))<|.K 2 (VN 3 (length (flatMap bb l))) JY<|.lst (take 3 (drop 0 (flatMap bb l))) ([da (VE (Tn.lit (getD l 0 lh))),zN (Tn.dist (getD l 0 lh)),zN (Tn.long (getD l 0 lh))]) (aJ (k:=3) (i:=0) (λ _=>rfl) om om)<|.R 13 ((↑(Tn.long (getD l 0 lh)):Int)==0) (λ p1=>have Z8:=eq_of_beq p1;.I 8 (↑(VE (Tn.lit (getD l 0 lh))):Int) JZ<|.K 18 (true&&decide ((↑(VE (Tn.lit (getD l 0 lh))):Int)<(↑288:Int))) J0<|.K 2 (VN (0+VE (Tn.lit (getD l 0 lh))*2+2) (length (flatMap db (ab L)))) RB<|.lst (take 2 (drop (0+VE (Tn.lit (getD l 0 lh))*2) (flatMap db (ab L)))) ([ai (V2 (getD (ab L) (VE (Tn.lit (getD l 0 lh))) lh)),da (VM (getD (ab L) (VE (Tn.lit (getD l 0 lh))) lh))]) (aJ (k:=2) (i:=VE (Tn.lit (getD l 0 lh))) (λ _=>rfl) pp om)<|.I 18 (↑(VM (getD (ab L) (VE (Tn.lit (getD l 0 lh))) lh)):Int) pp<|.C 1 152 false [] (.fn ff (@cd (V2 (getD (ab L) (VE (Tn.lit (getD l 0 lh))) lh)) (VM (getD (ab L) (VE (Tn.lit (getD l 0 lh))) lh)) EZ (by(exact(okL _).2))))<|.I 16 (↑(VM (getD (ab L) (VE (Tn.lit (getD l 0 lh))) lh)):Int) pp<|.M 35 16 16 (VF [VJ (1008+sh d) (1008+sh d) 0 4 2] 123 false) (VF [VJ (1008+sh d) (1008+sh d) 0 (length (bf T1 T2 (ab L) (ab F) H l 1)) 2] 123 false) (by(rw[fh (i:=0) om om,iX,hH];rfl))<|.blk (1008+sh d) (1008+sh d) (VF [ai e,zI 1,uI 1,zI 2,ai (dG (V2 (getD (ab L) (VE (Tn.lit (getD l 0 lh))) lh)) (VM (getD (ab L) (VE (Tn.lit (getD l 0 lh))) lh))),zN (VM (getD (ab L) (VE (Tn.lit (getD l 0 lh))) lh)),uI 0,zI 0] 126 true) (VF (flatMap aD (bf T1 T2 (ab L) (ab F) H l 1)) 126 true) (by(rw[fh (i:=0) om om,iX,hH];rfl))<|Hn.inl T_ok ah false 53 (544+sh d) (aq Tryz.prog 106 0) (λ(x:(i:Nat)×'(hi:1<=i∧i<=k)×'Unit)=>match x with|⟨i,hi,_⟩=>VZ [(1,XG (WG 115) [] [V7 (384+sh d) (384+sh d) 0,V7 (496+sh d) (496+sh d) 0,V7 (432+sh d) (432+sh d) 0]),(10,V3 false k 3 (flatMap bb l)),(11,zN k),(12,nD i)] [⟨16,16,16,16,.b ⟨[(VJ (616+sh d) (616+sh d) (0) ((bf T1 T2 (ab L) (ab F) H l i).length) 2)],123,false⟩⟩,⟨(96+sh d),(96+sh d),(96+sh d),(96+sh d),.b ⟨[ai e,zI 1,uI 1,zI 2],126,false⟩⟩,⟨(256+sh d),(256+sh d),(256+sh d),(256+sh d),.b ⟨map dB L,5,true⟩⟩,⟨(257+sh d),(257+sh d),(257+sh d),(257+sh d),.b ⟨map dB F,5,true⟩⟩,⟨(384+sh d),(384+sh d),(384+sh d),(384+sh d),.b ⟨[V7 16 16 0],105,false⟩⟩,⟨(400+sh d),(400+sh d),(400+sh d),(400+sh d),.b ⟨flatMap db (ab L),210,true⟩⟩,⟨(432+sh d),(432+sh d),(432+sh d),(432+sh d),.b ⟨[VJ (400+sh d) (400+sh d) 0 288 2],189,false⟩⟩,⟨(464+sh d),(464+sh d),(464+sh d),(464+sh d),.b ⟨flatMap db (ab F),210,true⟩⟩,⟨(496+sh d),(496+sh d),(496+sh d),(496+sh d),.b ⟨[VJ (464+sh d) (464+sh d) 0 32 2],189,false⟩⟩,⟨(616+sh d),(616+sh d),(1008+sh d),(1008+sh d),.b ⟨(bf T1 T2 (ab L) (ab F) H l i).flatMap aD,126,true⟩⟩] (624+sh d)) (λ(x:(i:Nat)×'(hi:1<=i∧i<=k)×'Unit)=>match x with|⟨i,hi,_⟩=>k-i) [⟨Unit,.exit 0,λ x=>match x with|()=>VZ [(1,XG (WG 115) [] [V7 (384+sh d) (384+sh d) 0,V7 (496+sh d) (496+sh d) 0,V7 (432+sh d) (432+sh d) 0]),(10,V3 false k 3 (flatMap bb l)),(11,zN k),(12,nD k)] [⟨16,16,16,16,.b ⟨[(VJ (616+sh d) (616+sh d) (0) ((bf T1 T2 (ab L) (ab F) H l k).length) 2)],123,false⟩⟩,⟨(96+sh d),(96+sh d),(96+sh d),(96+sh d),.b ⟨[ai e,zI 1,uI 1,zI 2],126,false⟩⟩,⟨(256+sh d),(256+sh d),(256+sh d),(256+sh d),.b ⟨map dB L,5,true⟩⟩,⟨(257+sh d),(257+sh d),(257+sh d),(257+sh d),.b ⟨map dB F,5,true⟩⟩,⟨(384+sh d),(384+sh d),(384+sh d),(384+sh d),.b ⟨[V7 16 16 0],105,false⟩⟩,⟨(400+sh d),(400+sh d),(400+sh d),(400+sh d),.b ⟨flatMap db (ab L),210,true⟩⟩,⟨(432+sh d),(432+sh d),(432+sh d),(432+sh d),.b ⟨[VJ (400+sh d) (400+sh d) 0 288 2],189,false⟩⟩,⟨(464+sh d),(464+sh d),(464+sh d),(464+sh d),.b ⟨flatMap db (ab F),210,true⟩⟩,⟨(496+sh d),(496+sh d),(496+sh d),(496+sh d),.b ⟨[VJ (464+sh d) (464+sh d) 0 32 2],189,false⟩⟩,⟨(616+sh d),(616+sh d),(1008+sh d),(1008+sh d),.b ⟨(bf T1 T2 (ab L) (ab F) H l k).flatMap aD,126,true⟩⟩] (624+sh d)⟩] 1000 64 (fun|⟨i,hi,_⟩,Q,ZB,ZD=>.B 2 ((i:Int)<k) (λ p2 Z7=>.K 1 (true&&decide ((i:Int)<k)&&true) RC<|.K 2 (VN (i*3+3) (length (flatMap bb l))) JY<|.lst (take 3 (drop (i*3) (flatMap bb l))) ([da (VE (Tn.lit (getD l i lh))),zN (Tn.dist (getD l i lh)),zN (Tn.long (getD l i lh))]) (aJ (k:=3) (i:=i) (λ _=>rfl) om om)<|.R 13 ((↑(Tn.long (getD l i lh)):Int)==0) (λ p3=>have Z6:=eq_of_beq p3;.I 8 (↑(VE (Tn.lit (getD l i lh))):Int) JZ<|.K 18 (true&&decide ((↑(VE (Tn.lit (getD l i lh))):Int)<(↑288:Int))) N7<|.K 2 (VN (0+VE (Tn.lit (getD l i lh))*2+2) (length (flatMap db (ab L)))) N8<|.lst (take 2 (drop (0+VE (Tn.lit (getD l i lh))*2) (flatMap db (ab L)))) ([ai (V2 (getD (ab L) (VE (Tn.lit (getD l i lh))) lh)),da (VM (getD (ab L) (VE (Tn.lit (getD l i lh))) lh))]) (aJ (k:=2) (i:=VE (Tn.lit (getD l i lh))) (λ _=>rfl) j9 om)<|.I 18 (↑(VM (getD (ab L) (VE (Tn.lit (getD l i lh))) lh)):Int) j9<|.C 1 152 false [] (.fn ff (@cd (V2 (getD (ab L) (VE (Tn.lit (getD l i lh))) lh)) (VM (getD (ab L) (VE (Tn.lit (getD l i lh))) lh)) EZ (by(exact(okL _).2))))<|.I 16 (↑(VM (getD (ab L) (VE (Tn.lit (getD l i lh))) lh)):Int) j9<|.K 23 (true&&VK (length (bf T1 T2 (ab L) (ab F) H l i)*2) (length (flatMap aD (bf T1 T2 (ab L) (ab F) H l i)))&&true&&true&&true&&true&&VN ((length (bf T1 T2 (ab L) (ab F) H l i)+2)*16) 140737488355328) RE<|.W 9 (i+1)<|.V 1 12 (zI (i+1)) (zN (i+1)) D9<|.blk 16 16 (VF [VJ (1064+sh d) (1064+sh d) 0 (length (bf T1 T2 (ab L) (ab F) H l i)+2) 2] 123 false) (VF [VJ (1064+sh d) (1064+sh d) 0 (length (bf T1 T2 (ab L) (ab F) H l (i+1))) 2] 123 false) (by(rw[fh om om,VI];rfl))<|.blk (1064+sh d) (1064+sh d) (VF (flatMap aD (bf T1 T2 (ab L) (ab F) H l i)++[ai (dG (V2 (getD (ab L) (VE (Tn.lit (getD l i lh))) lh)) (VM (getD (ab L) (VE (Tn.lit (getD l i lh))) lh))),zN (VM (getD (ab L) (VE (Tn.lit (getD l i lh))) lh)),uI 0,zI 0]) 126 true) (VF (flatMap aD (bf T1 T2 (ab L) (ab F) H l (i+1))) 126 true) (by(refine aw ?_;rw[fh om om,cD];rfl))<|Hn.next ZB ⟨(i+1),om,⟨⟩⟩ RG [(16,16),((96+sh d),(96+sh d)),((256+sh d),(256+sh d)),((257+sh d),(257+sh d)),((384+sh d),(384+sh d)),((400+sh d),(400+sh d)),((432+sh d),(432+sh d)),((464+sh d),(464+sh d)),((496+sh d),(496+sh d)),((1064+sh d),(1064+sh d))] HK) (λ p3=>have Z6:=ap p3;.C 7 142 false [] (.fn vO (@j5 (T1) aO om om (Tn.long (getD l i lh)) j9 j9))<|.K 35 (true&&decide ((↑(257+ak T1 (Tn.long (getD l i lh))):Int)<(↑288:Int))) E5<|.K 2 (VN (0+(257+ak T1 (Tn.long (getD l i lh)))*2+2) (length (flatMap db (ab L)))) E6<|.lst (take 2 (drop (0+(257+ak T1 (Tn.long (getD l i lh)))*2) (flatMap db (ab L)))) ([ai (V2 (getD (ab L) (257+ak T1 (Tn.long (getD l i lh))) lh)),da (VM (getD (ab L) (257+ak T1 (Tn.long (getD l i lh))) lh))]) (aJ (k:=2) (i:=257+ak T1 (Tn.long (getD l i lh))) (λ _=>rfl) j9 om)<|.I 18 (↑(VM (getD (ab L) (257+ak T1 (Tn.long (getD l i lh))) lh)):Int) j9<|.C 1 152 false [] (.fn ff (@cd (V2 (getD (ab L) (257+ak T1 (Tn.long (getD l i lh))) lh)) (VM (getD (ab L) (257+ak T1 (Tn.long (getD l i lh))) lh)) EZ (by(exact(okL _).2))))<|.I 16 (↑(VM (getD (ab L) (257+ak T1 (Tn.long (getD l i lh))) lh)):Int) j9<|.O 4 (ay .u32 (↑(Tn.long (getD l i lh)-Sy.least (getD T1 (ak T1 (Tn.long (getD l i lh))) lh)):Int)) (ai (Tn.long (getD l i lh)-Sy.least (getD T1 (ak T1 (Tn.long (getD l i lh))) lh))) (aA j9)<|.K 18 (true&&VK (length (bf T1 T2 (ab L) (ab F) H l i)*2) (length (flatMap aD (bf T1 T2 (ab L) (ab F) H l i)))&&true&&true&&true&&true&&VN ((length (bf T1 T2 (ab L) (ab F) H l i)+2)*16) 140737488355328) RE<|.C 14 143 false [] (.fn vP (@oo (T2) aO om om (Tn.dist (getD l i lh)) j9 j9))<|.K 34 (true&&decide ((↑(ak T2 (Tn.dist (getD l i lh))):Int)<(↑32:Int))) E5<|.K 2 (VN (0+ak T2 (Tn.dist (getD l i lh))*2+2) (length (flatMap db (ab F)))) E6<|.lst (take 2 (drop (0+ak T2 (Tn.dist (getD l i lh))*2) (flatMap db (ab F)))) ([ai (V2 (getD (ab F) (ak T2 (Tn.dist (getD l i lh))) lh)),da (VM (getD (ab F) (ak T2 (Tn.dist (getD l i lh))) lh))]) (aJ (k:=2) (i:=ak T2 (Tn.dist (getD l i lh))) (λ _=>rfl) j9 om)<|.I 18 (↑(VM (getD (ab F) (ak T2 (Tn.dist (getD l i lh))) lh)):Int) j9<|.C 1 152 false [] (.fn ff (@cd (V2 (getD (ab F) (ak T2 (Tn.dist (getD l i lh))) lh)) (VM (getD (ab F) (ak T2 (Tn.dist (getD l i lh))) lh)) J1 (by(exact(okF _).2))))<|.I 16 (↑(VM (getD (ab F) (ak T2 (Tn.dist (getD l i lh))) lh)):Int) j9<|.O 4 (ay .u32 (↑(Tn.dist (getD l i lh)-Sy.least (getD T2 (ak T2 (Tn.dist (getD l i lh))) lh)):Int)) (ai (Tn.dist (getD l i lh)-Sy.least (getD T2 (ak T2 (Tn.dist (getD l i lh))) lh))) (aA j9)<|.K 18 (true&&VK ((length (bf T1 T2 (ab L) (ab F) H l i)+2)*2) (length (flatMap aD (bf T1 T2 (ab L) (ab F) H l i)++[ai (dG (V2 (getD (ab L) (257+ak T1 (Tn.long (getD l i lh))) lh)) (VM (getD (ab L) (257+ak T1 (Tn.long (getD l i lh))) lh))),zN (VM (getD (ab L) (257+ak T1 (Tn.long (getD l i lh))) lh)),ai (Tn.long (getD l i lh)-Sy.least (getD T1 (ak T1 (Tn.long (getD l i lh))) lh)),zN (Sy.bits (getD T1 (ak T1 (Tn.long (getD l i lh))) lh))]))&&true&&true&&true&&true&&VN ((length (bf T1 T2 (ab L) (ab F) H l i)+2+2)*16) 140737488355328) RC<|.W 9 (i+1)<|.V 1 12 (zI (i+1)) (zN (i+1)) D9<|.blk 16 16 (VF [VJ (1840+sh d) (1840+sh d) 0 (length (bf T1 T2 (ab L) (ab F) H l i)+2+2) 2] 123 false) (VF [VJ (1840+sh d) (1840+sh d) 0 (length (bf T1 T2 (ab L) (ab F) H l (i+1))) 2] 123 false) (by(rw[gr om om,VI];rfl))<|.blk (1840+sh d) (1840+sh d) (VF (flatMap aD (bf T1 T2 (ab L) (ab F) H l i)++[ai (dG (V2 (getD (ab L) (257+ak T1 (Tn.long (getD l i lh))) lh)) (VM (getD (ab L) (257+ak T1 (Tn.long (getD l i lh))) lh))),zN (VM (getD (ab L) (257+ak T1 (Tn.long (getD l i lh))) lh)),ai (Tn.long (getD l i lh)-Sy.least (getD T1 (ak T1 (Tn.long (getD l i lh))) lh)),zN (Sy.bits (getD T1 (ak T1 (Tn.long (getD l i lh))) lh))]++[ai (dG (V2 (getD (ab F) (ak T2 (Tn.dist (getD l i lh))) lh)) (VM (getD (ab F) (ak T2 (Tn.dist (getD l i lh))) lh))),zN (VM (getD (ab F) (ak T2 (Tn.dist (getD l i lh))) lh)),ai (Tn.dist (getD l i lh)-Sy.least (getD T2 (ak T2 (Tn.dist (getD l i lh))) lh)),zN (Sy.bits (getD T2 (ak T2 (Tn.dist (getD l i lh))) lh))]) 126 true) (VF (flatMap aD (bf T1 T2 (ab L) (ab F) H l (i+1))) 126 true) N9<|Hn.next ZB ⟨(i+1),om,⟨⟩⟩ RG [(16,16),((96+sh d),(96+sh d)),((256+sh d),(256+sh d)),((257+sh d),(257+sh d)),((384+sh d),(384+sh d)),((400+sh d),(400+sh d)),((432+sh d),(432+sh d)),((464+sh d),(464+sh d)),((496+sh d),(496+sh d)),((1840+sh d),(1840+sh d))] HK)) (λ p2 Z7=>.val 12 (zN i) (zN k) Mg<|.blk 16 16 (VF [VJ (616+sh d) (616+sh d) 0 (length (bf T1 T2 (ab L) (ab F) H l i)) 2] 123 false) (VF [VJ (616+sh d) (616+sh d) 0 (length (bf T1 T2 (ab L) (ab F) H l k)) 2] 123 false) Mg<|.blk (616+sh d) (616+sh d) (VF (flatMap aD (bf T1 T2 (ab L) (ab F) H l i)) 126 true) (VF (flatMap aD (bf T1 T2 (ab L) (ab F) H l k)) 126 true) Mg<|Hn.last ZD 0 (():Unit) rfl [(16,16),((96+sh d),(96+sh d)),((256+sh d),(256+sh d)),((257+sh d),(257+sh d)),((384+sh d),(384+sh d)),((400+sh d),(400+sh d)),((432+sh d),(432+sh d)),((464+sh d),(464+sh d)),((496+sh d),(496+sh d)),((616+sh d),(616+sh d))] HK)) (fun|⟨i,hi,_⟩=>by cases d<;>kernel_rfl) ⟨(1),om,⟨⟩⟩ [(16,16),((96+sh d),(96+sh d)),((256+sh d),(256+sh d)),((257+sh d),(257+sh d)),((384+sh d),(384+sh d)),((400+sh d),(400+sh d)),((432+sh d),(432+sh d)),((464+sh d),(464+sh d)),((496+sh d),(496+sh d)),((1008+sh d),(1008+sh d))] HK (bM (fun|()=>.K 22 (VN 514 (length (flatMap db (ab L)))) RB<|.lst (take 2 (drop 512 (flatMap db (ab L)))) ([ai (V2 (getD (ab L) 256 lh)),da (VM (getD (ab L) 256 lh))]) (aJ (k:=2) (i:=256) (λ _=>rfl) om om)<|.I 18 (↑(VM (getD (ab L) 256 lh)):Int) pp<|.C 1 152 false [] (.fn ff (@cd (V2 (getD (ab L) 256 lh)) (VM (getD (ab L) 256 lh)) EZ (by(exact(okL _).2))))<|.I 16 (↑(VM (getD (ab L) 256 lh)):Int) pp<|.K 23 (true&&VK (length (bf T1 T2 (ab L) (ab F) H l k)*2) (length (flatMap aD (bf T1 T2 (ab L) (ab F) H l k)))&&true&&true&&true&&true&&VN ((length (bf T1 T2 (ab L) (ab F) H l k)+2)*16) 140737488355328) Oa<|.U 9 [16,(976+sh d)] [16,(976+sh d)] (V7 0 0 0) [VF [VJ 1 1 0 (length (bf T1 T2 (ab L) (ab F) H l k)+2) 2] 123 false,VF (flatMap aD (bf T1 T2 (ab L) (ab F) H l k)++[ai (dG (V2 (getD (ab L) 256 lh)) (VM (getD (ab L) 256 lh))),zN (VM (getD (ab L) 256 lh)),uI 0,zI 0]) 126 true] R (ok _ _ wr (by(rw[VI,cD];rfl)))))) (λ p1=>have Z8:=ap p1;.C 7 142 false [] (.fn vO (@j5 (T1) aO om om (Tn.long (getD l 0 lh)) pp pp))<|.K 35 (true&&decide ((↑(257+ak T1 (Tn.long (getD l 0 lh))):Int)<(↑288:Int))) J0<|.K 2 (VN (0+(257+ak T1 (Tn.long (getD l 0 lh)))*2+2) (length (flatMap db (ab L)))) Oc<|.lst (take 2 (drop (0+(257+ak T1 (Tn.long (getD l 0 lh)))*2) (flatMap db (ab L)))) ([ai (V2 (getD (ab L) (257+ak T1 (Tn.long (getD l 0 lh))) lh)),da (VM (getD (ab L) (257+ak T1 (Tn.long (getD l 0 lh))) lh))]) (aJ (k:=2) (i:=257+ak T1 (Tn.long (getD l 0 lh))) (λ _=>rfl) pp om)<|.I 18 (↑(VM (getD (ab L) (257+ak T1 (Tn.long (getD l 0 lh))) lh)):Int) pp<|.C 1 152 false [] (.fn ff (@cd (V2 (getD (ab L) (257+ak T1 (Tn.long (getD l 0 lh))) lh)) (VM (getD (ab L) (257+ak T1 (Tn.long (getD l 0 lh))) lh)) EZ (by(exact(okL _).2))))<|.I 16 (↑(VM (getD (ab L) (257+ak T1 (Tn.long (getD l 0 lh))) lh)):Int) pp<|.O 4 (ay .u32 (↑(Tn.long (getD l 0 lh)-Sy.least (getD T1 (ak T1 (Tn.long (getD l 0 lh))) lh)):Int)) (ai (Tn.long (getD l 0 lh)-Sy.least (getD T1 (ak T1 (Tn.long (getD l 0 lh))) lh))) (aA pp)<|.C 33 143 false [] (.fn vP (@oo (T2) aO om om (Tn.dist (getD l 0 lh)) pp pp))<|.K 34 (true&&decide ((↑(ak T2 (Tn.dist (getD l 0 lh))):Int)<(↑32:Int))) J0<|.K 2 (VN (0+ak T2 (Tn.dist (getD l 0 lh))*2+2) (length (flatMap db (ab F)))) Oc<|.lst (take 2 (drop (0+ak T2 (Tn.dist (getD l 0 lh))*2) (flatMap db (ab F)))) ([ai (V2 (getD (ab F) (ak T2 (Tn.dist (getD l 0 lh))) lh)),da (VM (getD (ab F) (ak T2 (Tn.dist (getD l 0 lh))) lh))]) (aJ (k:=2) (i:=ak T2 (Tn.dist (getD l 0 lh))) (λ _=>rfl) pp om)<|.I 18 (↑(VM (getD (ab F) (ak T2 (Tn.dist (getD l 0 lh))) lh)):Int) pp<|.C 1 152 false [] (.fn ff (@cd (V2 (getD (ab F) (ak T2 (Tn.dist (getD l 0 lh))) lh)) (VM (getD (ab F) (ak T2 (Tn.dist (getD l 0 lh))) lh)) J1 (by(exact(okF _).2))))<|.I 16 (↑(VM (getD (ab F) (ak T2 (Tn.dist (getD l 0 lh))) lh)):Int) pp<|.O 4 (ay .u32 (↑(Tn.dist (getD l 0 lh)-Sy.least (getD T2 (ak T2 (Tn.dist (getD l 0 lh))) lh)):Int)) (ai (Tn.dist (getD l 0 lh)-Sy.least (getD T2 (ak T2 (Tn.dist (getD l 0 lh))) lh))) (aA pp)<|.M 30 16 16 (VF [VJ (1784+sh d) (1784+sh d) 0 6 2] 123 false) (VF [VJ (1784+sh d) (1784+sh d) 0 (length (bf T1 T2 (ab L) (ab F) H l 1)) 2] 123 false) (by(rw[gr (i:=0) om om,iX,hH];rfl))<|.blk (1784+sh d) (1784+sh d) (VF [ai e,zI 1,uI 1,zI 2,ai (dG (V2 (getD (ab L) (257+ak T1 (Tn.long (getD l 0 lh))) lh)) (VM (getD (ab L) (257+ak T1 (Tn.long (getD l 0 lh))) lh))),zN (VM (getD (ab L) (257+ak T1 (Tn.long (getD l 0 lh))) lh)),ai (Tn.long (getD l 0 lh)-Sy.least (getD T1 (ak T1 (Tn.long (getD l 0 lh))) lh)),zN (Sy.bits (getD T1 (ak T1 (Tn.long (getD l 0 lh))) lh)),ai (dG (V2 (getD (ab F) (ak T2 (Tn.dist (getD l 0 lh))) lh)) (VM (getD (ab F) (ak T2 (Tn.dist (getD l 0 lh))) lh))),zN (VM (getD (ab F) (ak T2 (Tn.dist (getD l 0 lh))) lh)),ai (Tn.dist (getD l 0 lh)-Sy.least (getD T2 (ak T2 (Tn.dist (getD l 0 lh))) lh)),zN (Sy.bits (getD T2 (ak T2 (Tn.dist (getD l 0 lh))) lh))] 126 true) (VF (flatMap aD (bf T1 T2 (ab L) (ab F) H l 1)) 126 true) (by(rw[gr (i:=0) om om,iX,hH];rfl))<|Hn.inl T_ok ah false 53 (544+sh d) (aq Tryz.prog 106 0) (λ(x:(i:Nat)×'(hi:1<=i∧i<=k)×'Unit)=>match x with|⟨i,hi,_⟩=>VZ [(1,XG (WG 115) [] [V7 (384+sh d) (384+sh d) 0,V7 (496+sh d) (496+sh d) 0,V7 (432+sh d) (432+sh d) 0]),(10,V3 false k 3 (flatMap bb l)),(11,zN k),(12,nD i)] [⟨16,16,16,16,.b ⟨[(VJ (616+sh d) (616+sh d) (0) ((bf T1 T2 (ab L) (ab F) H l i).length) 2)],123,false⟩⟩,⟨(96+sh d),(96+sh d),(96+sh d),(96+sh d),.b ⟨[ai e,zI 1,uI 1,zI 2],126,false⟩⟩,⟨(256+sh d),(256+sh d),(256+sh d),(256+sh d),.b ⟨map dB L,5,true⟩⟩,⟨(257+sh d),(257+sh d),(257+sh d),(257+sh d),.b ⟨map dB F,5,true⟩⟩,⟨(384+sh d),(384+sh d),(384+sh d),(384+sh d),.b ⟨[V7 16 16 0],105,false⟩⟩,⟨(400+sh d),(400+sh d),(400+sh d),(400+sh d),.b ⟨flatMap db (ab L),210,true⟩⟩,⟨(432+sh d),(432+sh d),(432+sh d),(432+sh d),.b ⟨[VJ (400+sh d) (400+sh d) 0 288 2],189,false⟩⟩,⟨(464+sh d),(464+sh d),(464+sh d),(464+sh d),.b ⟨flatMap db (ab F),210,true⟩⟩,⟨(496+sh d),(496+sh d),(496+sh d),(496+sh d),.b ⟨[VJ (464+sh d) (464+sh d) 0 32 2],189,false⟩⟩,⟨(616+sh d),(616+sh d),(1784+sh d),(1784+sh d),.b ⟨(bf T1 T2 (ab L) (ab F) H l i).flatMap aD,126,true⟩⟩] (624+sh d)) (λ(x:(i:Nat)×'(hi:1<=i∧i<=k)×'Unit)=>match x with|⟨i,hi,_⟩=>k-i) [⟨Unit,.exit 0,λ x=>match x with|()=>VZ [(1,XG (WG 115) [] [V7 (384+sh d) (384+sh d) 0,V7 (496+sh d) (496+sh d) 0,V7 (432+sh d) (432+sh d) 0]),(10,V3 false k 3 (flatMap bb l)),(11,zN k),(12,nD k)] [⟨16,16,16,16,.b ⟨[(VJ (616+sh d) (616+sh d) (0) ((bf T1 T2 (ab L) (ab F) H l k).length) 2)],123,false⟩⟩,⟨(96+sh d),(96+sh d),(96+sh d),(96+sh d),.b ⟨[ai e,zI 1,uI 1,zI 2],126,false⟩⟩,⟨(256+sh d),(256+sh d),(256+sh d),(256+sh d),.b ⟨map dB L,5,true⟩⟩,⟨(257+sh d),(257+sh d),(257+sh d),(257+sh d),.b ⟨map dB F,5,true⟩⟩,⟨(384+sh d),(384+sh d),(384+sh d),(384+sh d),.b ⟨[V7 16 16 0],105,false⟩⟩,⟨(400+sh d),(400+sh d),(400+sh d),(400+sh d),.b ⟨flatMap db (ab L),210,true⟩⟩,⟨(432+sh d),(432+sh d),(432+sh d),(432+sh d),.b ⟨[VJ (400+sh d) (400+sh d) 0 288 2],189,false⟩⟩,⟨(464+sh d),(464+sh d),(464+sh d),(464+sh d),.b ⟨flatMap db (ab F),210,true⟩⟩,⟨(496+sh d),(496+sh d),(496+sh d),(496+sh d),.b ⟨[VJ (464+sh d) (464+sh d) 0 32 2],189,false⟩⟩,⟨(616+sh d),(616+sh d),(1784+sh d),(1784+sh d),.b ⟨(bf T1 T2 (ab L) (ab F) H l k).flatMap aD,126,true⟩⟩] (624+sh d)⟩] 1000 64 (fun|⟨i,hi,_⟩,Q,ZB,ZD=>.B 2 ((i:Int)<k) (λ p4 Z5=>.K 1 (true&&decide ((i:Int)<k)&&true) RC<|.K 2 (VN (i*3+3) (length (flatMap bb l))) JY<|.lst (take 3 (drop (i*3) (flatMap bb l))) ([da (VE (Tn.lit (getD l i lh))),zN (Tn.dist (getD l i lh)),zN (Tn.long (getD l i lh))]) (aJ (k:=3) (i:=i) (λ _=>rfl) om om)<|.R 13 ((↑(Tn.long (getD l i lh)):Int)==0) (λ p5=>have p5f:=eq_of_beq p5;.I 8 (↑(VE (Tn.lit (getD l i lh))):Int) JZ<|.K 18 (true&&decide ((↑(VE (Tn.lit (getD l i lh))):Int)<(↑288:Int))) N7<|.K 2 (VN (0+VE (Tn.lit (getD l i lh))*2+2) (length (flatMap db (ab L)))) N8<|.lst (take 2 (drop (0+VE (Tn.lit (getD l i lh))*2) (flatMap db (ab L)))) ([ai (V2 (getD (ab L) (VE (Tn.lit (getD l i lh))) lh)),da (VM (getD (ab L) (VE (Tn.lit (getD l i lh))) lh))]) (aJ (k:=2) (i:=VE (Tn.lit (getD l i lh))) (λ _=>rfl) j9 om)<|.I 18 (↑(VM (getD (ab L) (VE (Tn.lit (getD l i lh))) lh)):Int) j9<|.C 1 152 false [] (.fn ff (@cd (V2 (getD (ab L) (VE (Tn.lit (getD l i lh))) lh)) (VM (getD (ab L) (VE (Tn.lit (getD l i lh))) lh)) EZ (by(exact(okL _).2))))<|.I 16 (↑(VM (getD (ab L) (VE (Tn.lit (getD l i lh))) lh)):Int) j9<|.K 23 (true&&VK (length (bf T1 T2 (ab L) (ab F) H l i)*2) (length (flatMap aD (bf T1 T2 (ab L) (ab F) H l i)))&&true&&true&&true&&true&&VN ((length (bf T1 T2 (ab L) (ab F) H l i)+2)*16) 140737488355328) RE<|.W 9 (i+1)<|.V 1 12 (zI (i+1)) (zN (i+1)) D9<|.blk 16 16 (VF [VJ (1064+sh d) (1064+sh d) 0 (length (bf T1 T2 (ab L) (ab F) H l i)+2) 2] 123 false) (VF [VJ (1064+sh d) (1064+sh d) 0 (length (bf T1 T2 (ab L) (ab F) H l (i+1))) 2] 123 false) (by(rw[fh om om,VI];rfl))<|.blk (1064+sh d) (1064+sh d) (VF (flatMap aD (bf T1 T2 (ab L) (ab F) H l i)++[ai (dG (V2 (getD (ab L) (VE (Tn.lit (getD l i lh))) lh)) (VM (getD (ab L) (VE (Tn.lit (getD l i lh))) lh))),zN (VM (getD (ab L) (VE (Tn.lit (getD l i lh))) lh)),uI 0,zI 0]) 126 true) (VF (flatMap aD (bf T1 T2 (ab L) (ab F) H l (i+1))) 126 true) (by(refine aw ?_;rw[fh om om,cD];rfl))<|Hn.next ZB ⟨(i+1),om,⟨⟩⟩ RG [(16,16),((96+sh d),(96+sh d)),((256+sh d),(256+sh d)),((257+sh d),(257+sh d)),((384+sh d),(384+sh d)),((400+sh d),(400+sh d)),((432+sh d),(432+sh d)),((464+sh d),(464+sh d)),((496+sh d),(496+sh d)),((1064+sh d),(1064+sh d))] HK) (λ p5=>have p5f:=ap p5;.C 7 142 false [] (.fn vO (@j5 (T1) aO om om (Tn.long (getD l i lh)) j9 j9))<|.K 35 (true&&decide ((↑(257+ak T1 (Tn.long (getD l i lh))):Int)<(↑288:Int))) E5<|.K 2 (VN (0+(257+ak T1 (Tn.long (getD l i lh)))*2+2) (length (flatMap db (ab L)))) E6<|.lst (take 2 (drop (0+(257+ak T1 (Tn.long (getD l i lh)))*2) (flatMap db (ab L)))) ([ai (V2 (getD (ab L) (257+ak T1 (Tn.long (getD l i lh))) lh)),da (VM (getD (ab L) (257+ak T1 (Tn.long (getD l i lh))) lh))]) (aJ (k:=2) (i:=257+ak T1 (Tn.long (getD l i lh))) (λ _=>rfl) j9 om)<|.I 18 (↑(VM (getD (ab L) (257+ak T1 (Tn.long (getD l i lh))) lh)):Int) j9<|.C 1 152 false [] (.fn ff (@cd (V2 (getD (ab L) (257+ak T1 (Tn.long (getD l i lh))) lh)) (VM (getD (ab L) (257+ak T1 (Tn.long (getD l i lh))) lh)) EZ (by(exact(okL _).2))))<|.I 16 (↑(VM (getD (ab L) (257+ak T1 (Tn.long (getD l i lh))) lh)):Int) j9<|.O 4 (ay .u32 (↑(Tn.long (getD l i lh)-Sy.least (getD T1 (ak T1 (Tn.long (getD l i lh))) lh)):Int)) (ai (Tn.long (getD l i lh)-Sy.least (getD T1 (ak T1 (Tn.long (getD l i lh))) lh))) (aA j9)<|.K 18 (true&&VK (length (bf T1 T2 (ab L) (ab F) H l i)*2) (length (flatMap aD (bf T1 T2 (ab L) (ab F) H l i)))&&true&&true&&true&&true&&VN ((length (bf T1 T2 (ab L) (ab F) H l i)+2)*16) 140737488355328) RE<|.C 14 143 false [] (.fn vP (@oo (T2) aO om om (Tn.dist (getD l i lh)) j9 j9))<|.K 34 (true&&decide ((↑(ak T2 (Tn.dist (getD l i lh))):Int)<(↑32:Int))) E5<|.K 2 (VN (0+ak T2 (Tn.dist (getD l i lh))*2+2) (length (flatMap db (ab F)))) E6<|.lst (take 2 (drop (0+ak T2 (Tn.dist (getD l i lh))*2) (flatMap db (ab F)))) ([ai (V2 (getD (ab F) (ak T2 (Tn.dist (getD l i lh))) lh)),da (VM (getD (ab F) (ak T2 (Tn.dist (getD l i lh))) lh))]) (aJ (k:=2) (i:=ak T2 (Tn.dist (getD l i lh))) (λ _=>rfl) j9 om)<|.I 18 (↑(VM (getD (ab F) (ak T2 (Tn.dist (getD l i lh))) lh)):Int) j9<|.C 1 152 false [] (.fn ff (@cd (V2 (getD (ab F) (ak T2 (Tn.dist (getD l i lh))) lh)) (VM (getD (ab F) (ak T2 (Tn.dist (getD l i lh))) lh)) J1 (by(exact(okF _).2))))<|.I 16 (↑(VM (getD (ab F) (ak T2 (Tn.dist (getD l i lh))) lh)):Int) j9<|.O 4 (ay .u32 (↑(Tn.dist (getD l i lh)-Sy.least (getD T2 (ak T2 (Tn.dist (getD l i lh))) lh)):Int)) (ai (Tn.dist (getD l i lh)-Sy.least (getD T2 (ak T2 (Tn.dist (getD l i lh))) lh))) (aA j9)<|.K 18 (true&&VK ((length (bf T1 T2 (ab L) (ab F) H l i)+2)*2) (length (flatMap aD (bf T1 T2 (ab L) (ab F) H l i)++[ai (dG (V2 (getD (ab L) (257+ak T1 (Tn.long (getD l i lh))) lh)) (VM (getD (ab L) (257+ak T1 (Tn.long (getD l i lh))) lh))),zN (VM (getD (ab L) (257+ak T1 (Tn.long (getD l i lh))) lh)),ai (Tn.long (getD l i lh)-Sy.least (getD T1 (ak T1 (Tn.long (getD l i lh))) lh)),zN (Sy.bits (getD T1 (ak T1 (Tn.long (getD l i lh))) lh))]))&&true&&true&&true&&true&&VN ((length (bf T1 T2 (ab L) (ab F) H l i)+2+2)*16) 140737488355328) RC<|.W 9 (i+1)<|.V 1 12 (zI (i+1)) (zN (i+1)) D9<|.blk 16 16 (VF [VJ (1840+sh d) (1840+sh d) 0 (length (bf T1 T2 (ab L) (ab F) H l i)+2+2) 2] 123 false) (VF [VJ (1840+sh d) (1840+sh d) 0 (length (bf T1 T2 (ab L) (ab F) H l (i+1))) 2] 123 false) (by(rw[gr om om,VI];rfl))<|.blk (1840+sh d) (1840+sh d) (VF (flatMap aD (bf T1 T2 (ab L) (ab F) H l i)++[ai (dG (V2 (getD (ab L) (257+ak T1 (Tn.long (getD l i lh))) lh)) (VM (getD (ab L) (257+ak T1 (Tn.long (getD l i lh))) lh))),zN (VM (getD (ab L) (257+ak T1 (Tn.long (getD l i lh))) lh)),ai (Tn.long (getD l i lh)-Sy.least (getD T1 (ak T1 (Tn.long (getD l i lh))) lh)),zN (Sy.bits (getD T1 (ak T1 (Tn.long (getD l i lh))) lh))]++[ai (dG (V2 (getD (ab F) (ak T2 (Tn.dist (getD l i lh))) lh)) (VM (getD (ab F) (ak T2 (Tn.dist (getD l i lh))) lh))),zN (VM (getD (ab F) (ak T2 (Tn.dist (getD l i lh))) lh)),ai (Tn.dist (getD l i lh)-Sy.least (getD T2 (ak T2 (Tn.dist (getD l i lh))) lh)),zN (Sy.bits (getD T2 (ak T2 (Tn.dist (getD l i lh))) lh))]) 126 true) (VF (flatMap aD (bf T1 T2 (ab L) (ab F) H l (i+1))) 126 true) N9<|Hn.next ZB ⟨(i+1),om,⟨⟩⟩ RG [(16,16),((96+sh d),(96+sh d)),((256+sh d),(256+sh d)),((257+sh d),(257+sh d)),((384+sh d),(384+sh d)),((400+sh d),(400+sh d)),((432+sh d),(432+sh d)),((464+sh d),(464+sh d)),((496+sh d),(496+sh d)),((1840+sh d),(1840+sh d))] HK)) (λ p4 Z5=>.val 12 (zN i) (zN k) Mg<|.blk 16 16 (VF [VJ (616+sh d) (616+sh d) 0 (length (bf T1 T2 (ab L) (ab F) H l i)) 2] 123 false) (VF [VJ (616+sh d) (616+sh d) 0 (length (bf T1 T2 (ab L) (ab F) H l k)) 2] 123 false) Mg<|.blk (616+sh d) (616+sh d) (VF (flatMap aD (bf T1 T2 (ab L) (ab F) H l i)) 126 true) (VF (flatMap aD (bf T1 T2 (ab L) (ab F) H l k)) 126 true) Mg<|Hn.last ZD 0 (():Unit) rfl [(16,16),((96+sh d),(96+sh d)),((256+sh d),(256+sh d)),((257+sh d),(257+sh d)),((384+sh d),(384+sh d)),((400+sh d),(400+sh d)),((432+sh d),(432+sh d)),((464+sh d),(464+sh d)),((496+sh d),(496+sh d)),((616+sh d),(616+sh d))] HK)) (fun|⟨i,hi,_⟩=>by cases d<;>kernel_rfl) ⟨(1),om,⟨⟩⟩ [(16,16),((96+sh d),(96+sh d)),((256+sh d),(256+sh d)),((257+sh d),(257+sh d)),((384+sh d),(384+sh d)),((400+sh d),(400+sh d)),((432+sh d),(432+sh d)),((464+sh d),(464+sh d)),((496+sh d),(496+sh d)),((1784+sh d),(1784+sh d))] HK (bM (fun|()=>.K 22 (VN 514 (length (flatMap db (ab L)))) RB<|.lst (take 2 (drop 512 (flatMap db (ab L)))) ([ai (V2 (getD (ab L) 256 lh)),da (VM (getD (ab L) 256 lh))]) (aJ (k:=2) (i:=256) (λ _=>rfl) om om)<|.I 18 (↑(VM (getD (ab L) 256 lh)):Int) pp<|.C 1 152 false [] (.fn ff (@cd (V2 (getD (ab L) 256 lh)) (VM (getD (ab L) 256 lh)) EZ (by(exact(okL _).2))))<|.I 16 (↑(VM (getD (ab L) 256 lh)):Int) pp<|.K 23 (true&&VK (length (bf T1 T2 (ab L) (ab F) H l k)*2) (length (flatMap aD (bf T1 T2 (ab L) (ab F) H l k)))&&true&&true&&true&&true&&VN ((length (bf T1 T2 (ab L) (ab F) H l k)+2)*16) 140737488355328) Oa<|.U 9 [16,(976+sh d)] [16,(976+sh d)] (V7 0 0 0) [VF [VJ 1 1 0 (length (bf T1 T2 (ab L) (ab F) H l k)+2) 2] 123 false,VF (flatMap aD (bf T1 T2 (ab L) (ab F) H l k)++[ai (dG (V2 (getD (ab L) 256 lh)) (VM (getD (ab L) 256 lh))),zN (VM (getD (ab L) 256 lh)),uI 0,zI 0]) 126 true] R (ok _ _ wr (by(rw[VI,cD];rfl))))))) (λ p0 Z9=>.K 22 (VN 514 (length (flatMap db (ab L)))) RB<|.lst (take 2 (drop 512 (flatMap db (ab L)))) ([ai (V2 (getD (ab L) 256 lh)),da (VM (getD (ab L) 256 lh))]) (aJ (k:=2) (i:=256) (λ _=>rfl) om om)<|.I 18 (↑(VM (getD (ab L) 256 lh)):Int) pp<|.C 1 152 false [] (.fn ff (@cd (V2 (getD (ab L) 256 lh)) (VM (getD (ab L) 256 lh)) EZ (by(exact(okL _).2))))<|.I 16 (↑(VM (getD (ab L) 256 lh)):Int) pp<|.U 33 [16,(928+sh d)] [16,(928+sh d)] (V7 0 0 0) [VF [VJ 1 1 0 4 2] 123 false,VF [ai e,zI 1,uI 1,zI 2,ai (dG (V2 (getD (ab L) 256 lh)) (VM (getD (ab L) 256 lh))),zN (VM (getD (ab L) 256 lh)),uI 0,zI 0] 126 true] R (ok _ _ wr (by(rw[show k=0 from by omega,iX,hH];rfl))))) .nil):Hn Tryz.prog)) (λ t h=>SpecH.run T_ok ah Tryz.func65 rfl rfl rfl ⟨rfl,dn (λ _=>rfl) _,trivial⟩ rfl 1000 64 (λ R ok=>.s 43 (t true 1 H hH hHl R ok)) h) (λ t h=>SpecH.run T_ok ah Tryz.func65 rfl rfl rfl ⟨rfl,dn (λ _=>rfl) _,trivial⟩ rfl 1000 64 (λ R ok=>.s 42 (t false 0 H' hH' hHl' R ok)) h) kr kr
theorem Od (l:List Tn)(k:Nat)(hk:k=l.length)(hk2:k<=65535)(hl:∀i,ci (l.getD i lh))(T1 T2:List Sy)(hT1:T1=aB)(hT2:T2=aM)(hl1:T1.length=29)(hl2:T2.length=30)(hz1:bk T1)(hz2:bk T2)(L F:Z4)(hL:L=cn)(hF:F=dV)(hLl:L.length=288)(hFl:F.length=32)(hcL:dI L 15=0)(hcF:dI F 15=0)(hmL:(ab L).length=288)(hmF:(ab F).length=32)(okL:jZ (ab L))(okF:jZ (ab F))(H:List Nm)(hH:H=k6 1 1)(hHl:H.length=2)(a:Nat)(ha:a<=7)(raw:Z4)(r:Nat)(hr:r=raw.length)(hr2:r<=65535):S0 65 [nD a,dY 1,.sl false r 1 (raw.map dB),.sl false k 3 (l.flatMap bb),.v (.bool true)] [] (.ptr 0 0 0) [⟨[.ref 1 1 0 (bf T1 T2 (ab L) (ab F) H l k++iF (ab L) 256 0 0).length 2], 123,false⟩,⟨(bf T1 T2 (ab L) (ab F) H l k++iF (ab L) 256 0 0).flatMap aD, 126,true⟩]:=(HL l k hk hk2 hl T1 T2 hT1 hT2 hl1 hl2 hz1 hz2 L F hL hF hLl hFl hcL hcF hmL hmF okL okF a ha raw r hr hr2 H hH hHl _ rfl rfl).1
theorem Oe (l:List Tn)(k:Nat)(hk:k=l.length)(hk2:k<=65535)(hl:∀i,ci (l.getD i lh))(T1 T2:List Sy)(hT1:T1=aB)(hT2:T2=aM)(hl1:T1.length=29)(hl2:T2.length=30)(hz1:bk T1)(hz2:bk T2)(L F:Z4)(hL:L=cn)(hF:F=dV)(hLl:L.length=288)(hFl:F.length=32)(hcL:dI L 15=0)(hcF:dI F 15=0)(hmL:(ab L).length=288)(hmF:(ab F).length=32)(okL:jZ (ab L))(okF:jZ (ab F))(H:List Nm)(hH:H=k6 0 1)(hHl:H.length=2)(a:Nat)(ha:a<=7)(raw:Z4)(r:Nat)(hr:r=raw.length)(hr2:r<=65535):S0 65 [nD a,dY 1,.sl false r 1 (raw.map dB),.sl false k 3 (l.flatMap bb),.v (.bool false)] [] (.ptr 0 0 0) [⟨[.ref 1 1 0 (bf T1 T2 (ab L) (ab F) H l k++iF (ab L) 256 0 0).length 2], 123,false⟩,⟨(bf T1 T2 (ab L) (ab F) H l k++iF (ab L) 256 0 0).flatMap aD, 126,true⟩]:=(HL l k hk hk2 hl T1 T2 hT1 hT2 hl1 hl2 hz1 hz2 L F hL hF hLl hFl hcL hcF hmL hmF okL okF a ha raw r hr hr2 _ rfl rfl H hH hHl).2
theorem SpecH.frz {al:Bool}{P:Program}{f:FuncId}{ds:List D}{n sz:Nat}{cells:List D}{t:TypeId}{rw':Bool}(h:SpecH al P f ds [] (.ref 0 0 0 n sz) [⟨cells,t,rw'⟩])(hn:cells.length=n*sz)(hs:0<sz)(hc:ae cells=true):SpecH al P f ds [] (.sl false n sz cells) []:=by
 refine⟨VT _,λ O φ w args hO hh hi hl ha=>(h.2 O φ w args hO hh hi hl ha).mono ?_⟩;rintro e w' ⟨u,rfl,hf,ψ,g1,g2,g3,g4,g5⟩;refine⟨u,rfl,hf,φ,λ j hj=>rfl,?_,λ j b hb=>by simp at hb,λ i j x h1=>absurd h1 (Xi i),λ j x h1 h2=>absurd h2 (Xi j)⟩;have hB:=(g3 0 _ rfl).1;have own:∀b,(fu (lb al O w) φ 0).own b->b<w.heap.size:=λ b q=>by
  rcases q with q|⟨j,hj,_⟩
  ·unfold lb at q;split at q
   ·exact hO b q
   ·exact q
  ·exact absurd hj (Xi j)
 have hst:Stp (fu (lb al O w) ψ 1).cl (fu (lb al O w) φ 0).cl w' w':=⟨λ g hg=>hg.elim,λ g hg=>hg.elim,VT _,λ b _ hb=>⟨λ q=>hb (by
  rcases q with q|⟨j,hj,_⟩
  ·exact .inl q
  ·exact absurd hj (Xi j)),rfl⟩,λ _ _=>rfl⟩
 obtain⟨hnm,hB⟩:=hB
 cases g2 with
 |refn _ _ _ hg hb=>
  have h0:cells=[]:=List.eq_nil_of_length_eq_zero (by rw[hn,Xl]);subst h0;exact .sl false 0 sz [] none 0 [] rfl (λ i d u h=>by simp at h) (λ u h=>by cases h) (by simp) hs ⟨VT _,Wy _⟩ (λ _=>⟨rfl,rfl⟩) (.inl rfl)
 |ref _ _ _ _ _ c b off' t' m hg hb hcc ho hsh hm=>
  rw[hb]at hB;obtain⟨_,hlt,cur,fr,hheap,hfr,hle,_,hcell⟩:=hB;have hcell:∀(i:Nat) d,cells[i]? =some d->∃u,cur[i]? =some u∧u.oneCell'=true∧RD (fu (lb al O w) ψ 1) w' d u:=hcell;have hle:cells.length<=cur.size:=hle;have hul:(cur.toList.take cells.length).length=cells.length:=WY (by rw[Array.length_toList];exact hle);have hget:∀(i:Nat) u,(cur.toList.take cells.length)[i]? =some u->i<cells.length∧cur[i]? =some u:=λ i u hu=>by
   rw[WA]at hu
   split at hu
   ·next q=>exact⟨q,by simpa using hu⟩
   ·cases hu
  refine .sl false n sz cells (some ⟨b,off',none⟩) c (cur.toList.take cells.length) hul (λ i d u h1 h2=>?_) (λ u hu=>?_) hn hs hcc (λ q=>by cases q) ?_
  ·obtain⟨_,h2⟩:=hget i u h2
   obtain⟨u',q1,_,q3⟩:=hcell i d h1;rw[h2]at q1;cases q1;exact(q3.weak (bn hc h1)).step hst
  ·obtain⟨i,hi⟩:=List.getElem?_of_mem hu
   obtain⟨q0,q1⟩:=hget i u hi;obtain⟨u',y1,y2,_⟩:=hcell i _ (VG q0);rw[q1]at y1;cases y1;exact y2
  ·rcases ho with ho|⟨ho,_⟩
   ·refine .inr ⟨b,off',rfl,hlt,λ q=>?_,λ i u hu=>?_⟩
    ·have:=g5 0 b (Wy _) Yl hb
     have:=own b q;omega
    ·rw[ho,Wd,cell_of_row w' b i cur t fr hheap];exact(hget i u hu).2
   ·exact .inl ho
theorem vW {p:Prop}(h:p:=by(refine decide_eq_true ?_;(omega))):p:=h
def pg (a b:Nat):Int:=if a<b then -1 else if b<a then 1 else 0
theorem Og {a b:Nat}(h:(a:Int)<b):pg a b= -1:=ZF om
theorem Oh {a b:Nat}(h:¬(a:Int)<b)(h2:(b:Int)<a):pg a b=1:=(ZE om).trans (ZF om)
theorem Oi {a b:Nat}(h:¬(a:Int)<b)(h2:¬(b:Int)<a):pg a b=0:=(ZE om).trans (ZE om)
theorem vX (a b:Nat):pg a b<0↔a<b:=by
 unfold pg;split
 ·omega
 ·split<;>omega
def swp (X:List Nat)(i j:Nat):List Nat:=lk X ((X.set i (X.getD j lh)).set j (X.getD i lh))
theorem oq (X:List Nat)(i j:Nat):swp X i j=(X.set i (X.getD j lh)).set j (X.getD i lh):=aP _ _
theorem fw (X:List Nat)(i j:Nat):(swp X i j).length=X.length:=by rw[oq,Xz,Xz]
theorem J2 {M:List Nat}{o a:Nat}(ho:o<M.length):ag (M.map nD) o [nD a]=(M.set o a).map nD:=by
 apply WD;intro i;rw[cv (by simp only[VP,Wv];omega),V6,V6,W7];simp only[Wv]
 by_cases hi:o=i
 ·subst hi
  rw[ZF om,ZF rfl,ZF ho,W5];rfl
 ·rw[ZE om,ZE hi]
theorem xu {X:List Nat}{i j i' j' i2 j2:Nat}(hi:i<X.length)(hj:j<X.length)(h1:i'=i)(h2:j'=j)(h3:i2=i)(h4:j2=j):ag (ag (X.map nD) i' [D.v (.int .i64 ((X.getD j2 lh:Nat):Int))]) j' [D.v (.int .i64 ((X.getD i2 lh:Nat):Int))]=(swp X i j).map nD:=by
 subst h1 h2 h3 h4;rw[show D.v (.int .i64 ((X.getD j2 lh:Nat):Int))=nD (X.getD j2 lh)from rfl,J2 hi,show D.v (.int .i64 ((X.getD i2 lh:Nat):Int))=nD (X.getD i2 lh)from rfl,J2 (by rw[Xz];exact hj),oq]
theorem E8 {X:List Nat}{o m:Nat}{z:Int}(ho:o<X.length)(hm:m<=X.length):(true&&m.ble (ag (X.map nD) o [D.v (.int .i64 z)]).length)=true:=by
 rw[dL (by rw[VP,Wv];omega),VP,V8];exact VL hm
def Oj (X:List Nat)(a b:Nat):Nat->List Nat
 |0=>X
 |k+1=>swp (Oj X a b k) (a+k) (b+k)
theorem xv (X:List Nat)(a b:Nat):∀k,(Oj X a b k).length=X.length
 |0=>rfl
 |k+1=>by rw[Oj,fw,xv X a b k]
def eW (X:List Nat)(a b k:Nat):List Nat:=lk X (Oj X a b k)
theorem rq (X:List Nat)(a b k:Nat):eW X a b k=Oj X a b k:=aP _ _
theorem co (X:List Nat)(a b k:Nat):(eW X a b k).length=X.length:=by rw[rq,xv]
theorem BC (X:List Nat)(a b:Nat):eW X a b 0=X:=rq X a b 0
theorem BD (X:List Nat)(a b k:Nat):swp (eW X a b k) (a+k) (b+k)=eW X a b (k+1):=by rw[rq,rq];rfl
theorem J3 (a b:Nat):S0 176 [nD a,nD b] [] (iD (pg a b)) []:=SpR Tryz.func176 rfl rfl rfl trivial rfl 1000 64 (λ R ok=>.F 22 ((a:Int) !=(a:Int)) (by(simp;done))<|.F 1 ((b:Int) !=(b:Int)) (by(simp;done))<|.B 4 ((a:Int)<b) (λ p0 Z9=>.U 1 [] [] (zI (-1)) [] R (ok _ _ (by(rw[Og om])) wr)) (λ p0 Z9=>.B 4 ((b:Int)<a) (λ p1 Z8=>.U 1 [] [] (zI 1) [] R (ok _ _ (by(rw[Oh om om])) wr)) (λ p1 Z8=>.U 1 [] [] (zI 0) [] R (ok _ _ (by(rw[Oi om om])) wr)))) kr
theorem tU (W:List Nat)(L:Nat)(hL:L=W.length)(x y:Nat)(hx:x<L)(hy:y<L):S1 175 [nD x,nD y,.ptr 0 0 0] [⟨[.sl false L 1 (W.map nD)], 152,false⟩] (iD (pg (W.getD x lh) (W.getD y lh))) [⟨[.sl false L 1 (W.map nD)], 152,false⟩]:=SpR Tryz.func175 rfl rfl rfl ⟨rfl,trivial⟩ rfl 1000 64 (λ R ok=>.K 7 (true&&decide ((x:Int)<L)&&true) JO<|.O 2 ((map nD W)[x*1]?) (nD (getD W (x*1) lh)) (am _ _ om)<|.K 5 (true&&decide ((y:Int)<L)&&true) JO<|.O 2 ((map nD W)[y*1]?) (nD (getD W (y*1) lh)) (am _ _ om)<|.C 1 176 false [] (.fn Sv (@J3 (getD W (x*1) lh) (getD W (y*1) lh)))<|.U 1 [0] [0] (zI (pg (getD W (x*1) lh) (getD W (y*1) lh))) [VF [V3 false L 1 (map nD W)] 152 false] R (ok _ _ (by(rw[V5,V5])) wr)) kr
theorem Ok (X:List Nat)(N:Nat)(hN:N=X.length)(hN2:N<=1000)(W:List Nat)(L:Nat)(hL:L=W.length)(a b n:Nat)(h1:a+n<=N)(h2:b+n<=N):S1 201 [.ref 0 0 0 N 1,nD a,nD b,nD n,.fn (.func 175) [] [.ptr 1 1 0]] [⟨X.map nD, 3,true⟩,⟨[.sl false L 1 (W.map nD)], 152,false⟩] (.tup []) [⟨(eW X a b n).map nD, 3,true⟩,⟨[.sl false L 1 (W.map nD)], 152,false⟩]:=SpR Tryz.func201 rfl rfl rfl ⟨oa _,rfl,trivial⟩ rfl 1000 64 (λ R ok=>.M 1 0 0 (VF (map nD X) 3 true) (VF (map nD (eW X a b 0)) 3 true) (by(rw[BC];done))<|Hn.inl T_ok ah false 38 2 (aq Tryz.prog 201 0) (λ(x:(i:Nat)×'(hi:i<=n)×'Unit)=>match x with|⟨i,hi,_⟩=>VZ [(0,VJ 0 0 0 N 1),(1,zN a),(2,zN b),(3,zN n),(10,nD i)] [⟨0,0,0,0,.b ⟨(eW X a b i).map nD,3,true⟩⟩,⟨1,1,1,1,.b ⟨[V3 false L 1 (map nD W)],152,false⟩⟩] 24) (λ(x:(i:Nat)×'(hi:i<=n)×'Unit)=>match x with|⟨i,hi,_⟩=>n-i) [⟨Unit,.exit 0,λ x=>match x with|()=>VZ [(0,VJ 0 0 0 N 1),(1,zN a),(2,zN b),(3,zN n)] [⟨0,0,0,0,.b ⟨(eW X a b n).map nD,3,true⟩⟩,⟨1,1,1,1,.b ⟨[V3 false L 1 (map nD W)],152,false⟩⟩] 24⟩] 1000 64 (fun|⟨i,hi,_⟩,Q,ZB,ZD=>.B 4 ((i:Int)<n) (λ p0 Z9=>.W 6 (a+i)<|.W 5 (b+i)<|.W 5 (b+i)<|.K 1 (true&&decide ((b:Int)+i<N)) vW<|.O 2 ((map nD (eW X a b i))[0+zq ((b:Int)+i)*1]?) (nD (getD (eW X a b i) (0+zq ((b:Int)+i)*1) lh)) (am _ _ (by(have h9:=co X a b i;omega)))<|.W 5 (a+i)<|.K 1 (true&&decide ((a:Int)+i<N)) vW<|.O 2 ((map nD (eW X a b i))[0+zq ((a:Int)+i)*1]?) (nD (getD (eW X a b i) (0+zq ((a:Int)+i)*1) lh)) (am _ _ (by(have h9:=co X a b i;omega)))<|.K 1 (true&&decide ((a:Int)+i<N)) vW<|.K 1 (true&&VN (0+zq ((a:Int)+i)*1+1) (length (map nD (eW X a b i)))) (by(simp;have h9:=co X a b i;omega))<|.lst (ag (map nD (eW X a b i)) (0+zq ((a:Int)+i)*1) [zN (getD (eW X a b i) (0+zq ((b:Int)+i)*1) lh)]) (ag (map nD (eW X a b i)) (zq ((a:Int)+i)) [zN (getD (eW X a b i) (zq ((b:Int)+i)) lh)]) (by(simp;done))<|.K 1 (true&&decide ((b:Int)+i<N)) vW<|.K 1 (true&&VN (0+zq ((b:Int)+i)*1+1) (length (ag (map nD (eW X a b i)) (zq ((a:Int)+i)) [zN (getD (eW X a b i) (zq ((b:Int)+i)) lh)]))) (by(have h9:=co X a b i;exact E8 om om))<|.lst (ag (ag (map nD (eW X a b i)) (zq ((a:Int)+i)) [zN (getD (eW X a b i) (zq ((b:Int)+i)) lh)]) (0+zq ((b:Int)+i)*1) [zN (getD (eW X a b i) (0+zq ((a:Int)+i)*1) lh)]) (ag (ag (map nD (eW X a b i)) (zq ((a:Int)+i)) [zN (getD (eW X a b i) (zq ((b:Int)+i)) lh)]) (zq ((b:Int)+i)) [zN (getD (eW X a b i) (zq ((a:Int)+i)) lh)]) (by(simp;done))<|.W 3 (i+1)<|.V 1 10 (zI (i+1)) (zN (i+1)) D9<|.blk 0 0 (VF (ag (ag (map nD (eW X a b i)) (zq ((a:Int)+i)) [zN (getD (eW X a b i) (zq ((b:Int)+i)) lh)]) (zq ((b:Int)+i)) [zN (getD (eW X a b i) (zq ((a:Int)+i)) lh)]) 3 true) (VF (map nD (eW X a b (i+1))) 3 true) (by(have h9:=co X a b i;refine aw (Eq.trans (xu (i:=a+i) (j:=b+i) om om om om om om) ?_);rw[BD]))<|Hn.next ZB ⟨(i+1),om,⟨⟩⟩ (by show n-(i+1)<n-i;clear ZB ZD;omega) [(0,0),(1,1)] ro) (λ p0 Z9=>.blk 0 0 (VF (map nD (eW X a b i)) 3 true) (VF (map nD (eW X a b n)) 3 true) (by(rw[show i=n from by(omega)]))<|Hn.last ZD 0 (():Unit) rfl [(0,0),(1,1)] ro)) (fun|⟨i,hi,_⟩=>by kernel_rfl) ⟨(0),om,⟨⟩⟩ [(0,0),(1,1)] ro (bM (fun|()=>.out [0,1] [0,1] (WL []) [VF (map nD (eW X a b n)) 3 true,VF [V3 false L 1 (map nD W)] 152 false] R (ok _ _ wr wr)))) kr
def gu (m:Nat):Nat->Nat->Nat->List Nat->List Nat
 |0,i,_,X=>eW X (m-i) m i
 |f+1,i,j,X=>if i=j then eW X (m-i) m i else if j<i then gu m f (i-j) j (eW X (m-i) m j)else gu m f i (j-i) (eW X (m-i) (m+j-i) i)
theorem HM {m f i j:Nat}{X:List Nat}(h:i=j):gu m f i j X=eW X (m-i) m i:=by
 cases f with
 |zero=>rfl
 |succ f=>exact ZF h
theorem HN {m f i j:Nat}{X:List Nat}(h:j<i):gu m (f+1) i j X=gu m f (i-j) j (eW X (m-i) m j):=(ZE om).trans (ZF h)
theorem HO {m f i j:Nat}{X:List Nat}(h:i<j):gu m (f+1) i j X=gu m f i (j-i) (eW X (m-i) (m+j-i) i):=(ZE om).trans (ZE om)
def vY (X:List Nat)(a m b:Nat):List Nat:=lk X (gu m (b-a) (m-a) (b-m) X)
theorem na (X:List Nat)(a m b:Nat):vY X a m b=gu m (b-a) (m-a) (b-m) X:=aP _ _
theorem ot {m:Nat}:∀(f i j:Nat) (X:List Nat),(gu m f i j X).length=X.length
 |0,i,j,X=>co _ _ _ _
 |f+1,i,j,X=>by
  rw[gu];split
  ·exact co _ _ _ _
  ·split
   ·rw[ot f,co]
   ·rw[ot f,co]
theorem BE (X:List Nat)(a m b:Nat):(vY X a m b).length=X.length:=by rw[na,ot]
def inI (W:List Nat)(a:Nat):Nat->List Nat->List Nat
 |0,X=>X
 |j+1,X=>if a<j+1∧W.getD (X.getD (j+1) lh) lh<W.getD (X.getD j lh) lh then inI W a j (swp X (j+1) j)else X
theorem HP {W:List Nat}{a j k:Nat}{X:List Nat}(hk:k+1=j)(h:a<j)(h2:W.getD (X.getD j lh) lh<W.getD (X.getD k lh) lh):inI W a j X=inI W a k (swp X j k):=by
 subst hk;exact ZF ⟨h,h2⟩
theorem BF {W:List Nat}{a j:Nat}{X:List Nat}(h:¬a<j∨¬W.getD (X.getD j lh) lh<W.getD (X.getD (j-1) lh) lh):inI W a j X=X:=by
 cases j with
 |zero=>rfl
 |succ j=>exact ZE (λ q=>by rcases h with h|h;exact h q.1;exact h q.2)
theorem xw {W:List Nat}{a:Nat}:∀(j:Nat) (X:List Nat),(inI W a j X).length=X.length
 |0,_=>rfl
 |j+1,X=>by
  rw[inI];split
  ·rw[xw j,fw]
  ·rfl
def Ol (W X:List Nat)(a:Nat):Nat->List Nat
 |0=>X
 |k+1=>inI W a (a+1+k) (Ol W X a k)
theorem xx (W X:List Nat)(a:Nat):∀k,(Ol W X a k).length=X.length
 |0=>rfl
 |k+1=>by rw[Ol,xw,xx W X a k]
def inQ (W X:List Nat)(a k:Nat):List Nat:=lk X (Ol W X a k)
theorem rr (W X:List Nat)(a k:Nat):inQ W X a k=Ol W X a k:=aP _ _
theorem kG (W X:List Nat)(a k:Nat):(inQ W X a k).length=X.length:=by rw[rr,xx]
theorem xy (W X:List Nat)(a:Nat):inQ W X a 0=X:=rr W X a 0
theorem xz (W X:List Nat)(a k:Nat):inI W a (a+1+k) (inQ W X a k)=inQ W X a (k+1):=by rw[rr,rr];rfl
theorem HQ (X:List Nat)(N:Nat)(hN:N=X.length)(hN2:N<=1000)(W:List Nat)(L:Nat)(hL:L=W.length)(a b n:Int)(a' b' n':Nat)(e1:a=a')(e2:b=b')(e3:n=n')(h1:a'+n'<=N)(h2:b'+n'<=N):S1 201 [.ref 0 0 0 N 1,iD a,iD b,iD n,.fn (.func 175) [] [.ptr 1 1 0]] [⟨X.map nD, 3,true⟩,⟨[.sl false L 1 (W.map nD)], 152,false⟩] (.tup []) [⟨(eW X a' b' n').map nD, 3,true⟩,⟨[.sl false L 1 (W.map nD)], 152,false⟩]:=by
 subst e1 e2 e3;exact Ok X N hN hN2 W L hL a' b' n' h1 h2
theorem HR (X:List Nat)(N:Nat)(hN:N=X.length)(hN2:N<=1000)(W:List Nat)(L:Nat)(hL:L=W.length)(m i j:Nat)(h1:i<=m)(h2:m+j<=N)(h3:j<=i):S1 201 [.ref 0 0 0 N 1,iD ((m:Int)-i),iD ((m:Nat):Int),nD j,.fn (.func 175) [] [.ptr 1 1 0]] [⟨X.map nD, 3,true⟩,⟨[.sl false L 1 (W.map nD)], 152,false⟩] (.tup []) [⟨(eW X (m-i) m j).map nD, 3,true⟩,⟨[.sl false L 1 (W.map nD)], 152,false⟩]:=HQ X N hN hN2 W L hL _ _ _ (m-i) m j om rfl rfl om om
theorem Om (X:List Nat)(N:Nat)(hN:N=X.length)(hN2:N<=1000)(W:List Nat)(L:Nat)(hL:L=W.length)(m i j:Nat)(h1:i<=m)(h2:m+j<=N)(h3:i<=j):S1 201 [.ref 0 0 0 N 1,iD ((m:Int)-i),iD ((m:Int)+j-i),nD i,.fn (.func 175) [] [.ptr 1 1 0]] [⟨X.map nD, 3,true⟩,⟨[.sl false L 1 (W.map nD)], 152,false⟩] (.tup []) [⟨(eW X (m-i) (m+j-i) i).map nD, 3,true⟩,⟨[.sl false L 1 (W.map nD)], 152,false⟩]:=HQ X N hN hN2 W L hL _ _ _ (m-i) (m+j-i) i om om rfl om om
theorem J4 {m f i j:Nat}{X T:List Nat}(hR:gu m f i j X=T)(hf:i+j<=f)(h1:1<=j)(h:j<i):gu m (f-1) (i-j) j (eW X (m-i) m j)=T:=by
 obtain⟨g,rfl⟩:∃g,f=g+1:=⟨f-1,by omega⟩
 rw[<-hR,HN h];rfl
theorem J5 {m f i j:Nat}{X T:List Nat}(hR:gu m f i j X=T)(hf:i+j<=f)(h1:1<=i)(h:i<j):gu m (f-1) i (j-i) (eW X (m-i) (m+j-i) i)=T:=by
 obtain⟨g,rfl⟩:∃g,f=g+1:=⟨f-1,by omega⟩
 rw[<-hR,HO h];rfl
theorem J6 {m f i j:Nat}{X T:List Nat}(hR:gu m f i j X=T)(h:i=j):eW X (m-i) m i=T:=by rw[<-hR,HM h]
theorem On (X:List Nat)(N:Nat)(hN:N=X.length)(hN2:N<=1000)(W:List Nat)(L:Nat)(hL:L=W.length)(a m b:Nat)(h1:a<m)(h2:m<b)(h3:b<=N)(T:List Nat)(hT:vY X a m b=T):S1 200 [.ref 0 0 0 N 1,nD a,nD m,nD b,.fn (.func 175) [] [.ptr 1 1 0]] [⟨X.map nD, 3,true⟩,⟨[.sl false L 1 (W.map nD)], 152,false⟩] (.tup []) [⟨(T).map nD, 3,true⟩,⟨[.sl false L 1 (W.map nD)], 152,false⟩]:=SpR Tryz.func200 rfl rfl rfl ⟨oa _,rfl,trivial⟩ rfl 1000 64 (λ R ok=>.W 4 (m-a)<|.W 5 (b-m)<|.V 1 10 (zI (m-a)) (zN (m-a)) D9<|.val 11 (zI (b-m)) (zN (b-m)) D9<|Hn.inl T_ok ah false 58 2 (aq Tryz.prog 200 0) (λ(x:(i:Nat)×'(j:Nat)×'(f:Nat)×'(Y:List Nat)×'(hY:Y.length=N)×'(hi:1<=i∧i<=m)×'(hj:1<=j∧m+j<=N)×'(hf:i+j<=f)×'(hR:gu m f i j Y=T)×'Unit)=>match x with|⟨i,j,f,Y,hY,hi,hj,hf,hR,_⟩=>VZ [(0,VJ 0 0 0 N 1),(2,zN m),(4,XG (WG 175) [] [V7 1 1 0]),(10,nD i),(11,nD j)] [⟨0,0,0,0,.b ⟨Y.map nD,3,true⟩⟩,⟨1,1,1,1,.b ⟨[V3 false L 1 (map nD W)],152,false⟩⟩] 24) (λ(x:(i:Nat)×'(j:Nat)×'(f:Nat)×'(Y:List Nat)×'(hY:Y.length=N)×'(hi:1<=i∧i<=m)×'(hj:1<=j∧m+j<=N)×'(hf:i+j<=f)×'(hR:gu m f i j Y=T)×'Unit)=>match x with|⟨i,j,f,Y,hY,hi,hj,hf,hR,_⟩=>i+j) [⟨(i2:Nat)×'(Y2:List Nat)×'(hY2:Y2.length=N)×'(hi2:1<=i2∧i2<=m∧m+i2<=N)×'(hR2:eW Y2 (m-i2) m i2=T)×'Unit,.exit 0,λ x=>match x with|⟨i2,Y2,hY2,hi2,hR2,_⟩=>VZ [(0,VJ 0 0 0 N 1),(2,zN m),(4,XG (WG 175) [] [V7 1 1 0]),(10,nD i2),(11,nD i2)] [⟨0,0,0,0,.b ⟨Y2.map nD,3,true⟩⟩,⟨1,1,1,1,.b ⟨[V3 false L 1 (map nD W)],152,false⟩⟩] 24⟩] 1000 64 (fun|⟨i,j,f,Y,hY,hi,hj,hf,hR,_⟩,Q,ZB,ZD=>.R 4 ((i:Int) !=(j:Int)) (λ p0=>have Z9:=ee p0;.B 4 ((j:Int)<i) (λ p1 Z8=>.W 5 (m-i)<|.s 4<|.call 201 true [0,1] (true) wr ([VJ 0 0 0 N 1,zI (m-i),zN m,zN j,XG (WG 175) [] [V7 1 1 0]]) _ (cQ.refl _) (ae (map nD Y)&&true) (by(simp;done)) _ _ _ (V0 (ao.of Tryz.func201 rfl rfl) (@HR (Y) (N) om om (W) (L) om (m) (i) (j) om om om))<|.W 4 (i-j)<|.V 1 10 (zI (i-j)) (zN (i-j)) D9<|Hn.next ZB ⟨(i-j),(j),(f-1),(eW Y (m-i) m j),(by(rw[co];(omega))),om,om,om,(by(exact J4 hR om om om)),⟨⟩⟩ (by show i-j+j<i+j;clear ZB ZD;omega) [(0,0),(1,1)] ro) (λ p1 Z8=>.W 5 (m-i)<|.W 4 (m+j)<|.W 3 (m+j-i)<|.s 3<|.call 201 true [0,1] (true) wr ([VJ 0 0 0 N 1,zI (m-i),zI (m+j-i),zN i,XG (WG 175) [] [V7 1 1 0]]) _ (cQ.refl _) (ae (map nD Y)&&true) (by(simp;done)) _ _ _ (V0 (ao.of Tryz.func201 rfl rfl) (@Om (Y) (N) om om (W) (L) om (m) (i) (j) om om om))<|.W 4 (j-i)<|.V 1 11 (zI (j-i)) (zN (j-i)) D9<|Hn.next ZB ⟨(i),(j-i),(f-1),(eW Y (m-i) (m+j-i) i),(by(rw[co];(omega))),om,om,om,(by(exact J5 hR om om om)),⟨⟩⟩ (by show i+(j-i)<i+j;clear ZB ZD;omega) [(0,0),(1,1)] ro)) (λ p0=>have Z9:=ef p0;.val 11 (zN j) (zN i) D9<|Hn.last ZD 0 (⟨(i),(Y),om,om,(by(rw[J6 hR om])),⟨⟩⟩:(i2:Nat)×'(Y2:List Nat)×'(hY2:Y2.length=N)×'(hi2:1<=i2∧i2<=m∧m+i2<=N)×'(hR2:eW Y2 (m-i2) m i2=T)×'Unit) rfl [(0,0),(1,1)] ro)) (fun|⟨i,j,f,Y,hY,hi,hj,hf,hR,_⟩=>by kernel_rfl) ⟨(m-a),(b-m),(b-a),(X),om,om,om,om,(by(exact(na X a m b).symm.trans hT)),⟨⟩⟩ [(0,0),(1,1)] ro (bM (fun|⟨i2,Y2,hY2,hi2,hR2,_⟩=>.W 5 (m-i2)<|.s 4<|.call 201 true [0,1] (true) wr ([VJ 0 0 0 N 1,zI (m-i2),zN m,zN i2,XG (WG 175) [] [V7 1 1 0]]) _ (cQ.refl _) (ae (map nD Y2)&&true) (by(simp;done)) _ _ _ (V0 (ao.of Tryz.func201 rfl rfl) (@HR (Y2) (N) om om (W) (L) om (m) (i2) (i2) om om om))<|.out [0,1] [0,1] (WL []) [VF (map nD (eW Y2 (m-i2) m i2)) 3 true,VF [V3 false L 1 (map nD W)] 152 false] R (ok _ _ wr (by(simp_all;done)))))) kr
def bP (L:Nat)(X:List Nat):Prop:=∀x∈X,x<L
theorem bP.at {L:Nat}{X:List Nat}(h:bP L X){t:Nat}(ht:t<X.length):X.getD t lh<L:=by
 rw[VH,VG ht];exact h _ (WE ht)
theorem bP.swp {L:Nat}{X:List Nat}(h:bP L X){i j:Nat}(hi:i<X.length)(hj:j<X.length):bP L (swp X i j):=by
 intro x hx;rw[oq]at hx;rcases ZH hx with q|q
 ·rcases ZH q with q|q
  ·exact h x q
  ·rw[q];exact h.at hj
 ·rw[q];exact h.at hi
theorem bP.inI {L:Nat}{W:List Nat}{a:Nat}:∀(j:Nat) {X:List Nat},bP L X->j<X.length->bP L (inI W a j X)
 |0,_,h,_=>h
 |j+1,X,h,hj=>by
  rw[Vp.inI];split
  ·exact bP.inI j (h.swp hj om) (by rw[fw];omega)
  ·exact h
theorem bP.inQ {L:Nat}{W X:List Nat}{a:Nat}(h:bP L X):∀(k:Nat),a+k<X.length->bP L (inQ W X a k)
 |0,_=>by rw[xy];exact h
 |k+1,hk=>by
  rw[<-xz];exact bP.inI _ (bP.inQ h k om) (by rw[kG];omega)
theorem J7 {W Y T:List Nat}{a j u v:Nat}(hR:inI W a j Y=T)(h:a<j)(hu:u=j)(hv:v=j-1)(h2:pg (W.getD (Y.getD u lh) lh) (W.getD (Y.getD v lh) lh)<0):inI W a (j-1) (swp Y j (j-1))=T:=by
 subst hu hv;rw[<-hR];exact(HP om h ((vX _ _).1 h2)).symm
theorem J8 {W Y T:List Nat}{a j:Nat}(hR:inI W a j Y=T)(h:¬a<j):Y=T:=by rw[<-hR,BF (.inl h)]
theorem J9 {W Y T:List Nat}{a j u v:Nat}(hR:inI W a j Y=T)(hu:u=j)(hv:v=j-1)(h2:¬pg (W.getD (Y.getD u lh) lh) (W.getD (Y.getD v lh) lh)<0):Y=T:=by
 subst hu hv;rw[<-hR,BF (.inr λ q=>h2 ((vX _ _).2 q))]
theorem Oo (X:List Nat)(N:Nat)(hN:N=X.length)(hN2:N<=1000)(W:List Nat)(L:Nat)(hL:L=W.length)(hA:bP L X)(a b:Nat)(h1:a<=b)(h3:b<=N)(T:List Nat)(hT:inQ W X a (b-(a+1))=T):S1 196 [.ref 0 0 0 N 1,nD a,nD b,.fn (.func 175) [] [.ptr 1 1 0]] [⟨X.map nD, 3,true⟩,⟨[.sl false L 1 (W.map nD)], 152,false⟩] (.tup []) [⟨(T).map nD, 3,true⟩,⟨[.sl false L 1 (W.map nD)], 152,false⟩]:=SpR Tryz.func196 rfl rfl rfl ⟨oa _,rfl,trivial⟩ rfl 1000 64 (λ R ok=>.W 3 (a+1)<|.V 1 8 (zI (a+1)) (zN (a+1+0)) D9<|.blk 0 0 (VF (map nD X) 3 true) (VF (map nD (inQ W X a 0)) 3 true) (by(rw[xy];done))<|Hn.inl T_ok ah false 53 2 (aq Tryz.prog 196 0) (λ(x:(k:Nat)×'(hk:k<=b-(a+1))×'Unit)=>match x with|⟨k,hk,_⟩=>VZ [(0,VJ 0 0 0 N 1),(1,zN a),(2,zN b),(3,XG (WG 175) [] [V7 1 1 0]),(8,nD (a+1+k))] [⟨0,0,0,0,.b ⟨(inQ W X a k).map nD,3,true⟩⟩,⟨1,1,1,1,.b ⟨[V3 false L 1 (map nD W)],152,false⟩⟩] 24) (λ(x:(k:Nat)×'(hk:k<=b-(a+1))×'Unit)=>match x with|⟨k,hk,_⟩=>b-(a+1)-k) [⟨Unit,.exit 0,λ x=>match x with|()=>VZ [(0,VJ 0 0 0 N 1),(1,zN a),(2,zN b),(3,XG (WG 175) [] [V7 1 1 0])] [⟨0,0,0,0,.b ⟨T.map nD,3,true⟩⟩,⟨1,1,1,1,.b ⟨[V3 false L 1 (map nD W)],152,false⟩⟩] 24⟩] 1000 64 (fun|⟨k,hk,_⟩,Q,ZB,ZD=>.B 4 ((↑(a+1+k):Int)<(b:Int)) (λ p0 Z9=>.s 2<|Hn.inl T_ok ah false 53 2 (aq Tryz.prog 196 1) (λ(x:(j:Nat)×'(Y:List Nat)×'(hY:Y.length=N)×'(hj:a<=j∧j<=a+1+k)×'(hB:bP L Y)×'(hR:inI W a j Y=inQ W X a (k+1))×'Unit)=>match x with|⟨j,Y,hY,hj,hB,hR,_⟩=>VZ [(0,VJ 0 0 0 N 1),(1,zN a),(2,zN b),(3,XG (WG 175) [] [V7 1 1 0]),(8,zN (a+1+k)),(9,nD j)] [⟨0,0,0,0,.b ⟨Y.map nD,3,true⟩⟩,⟨1,1,1,1,.b ⟨[V3 false L 1 (map nD W)],152,false⟩⟩] 24) (λ(x:(j:Nat)×'(Y:List Nat)×'(hY:Y.length=N)×'(hj:a<=j∧j<=a+1+k)×'(hB:bP L Y)×'(hR:inI W a j Y=inQ W X a (k+1))×'Unit)=>match x with|⟨j,Y,hY,hj,hB,hR,_⟩=>j) [⟨Unit,.exit 2,λ x=>match x with|()=>VZ [(0,VJ 0 0 0 N 1),(1,zN a),(2,zN b),(3,XG (WG 175) [] [V7 1 1 0]),(8,zN (a+1+k))] [⟨0,0,0,0,.b ⟨(inQ W X a (k+1)).map nD,3,true⟩⟩,⟨1,1,1,1,.b ⟨[V3 false L 1 (map nD W)],152,false⟩⟩] 24⟩] 1000 64 (fun|⟨j,Y,hY,hj,hB,hR,_⟩,Q,ZA,ZC=>.B 7 ((a:Int)<j) (λ p1 Z8=>.K 6 (true&&decide ((j:Int)<N)) vW<|.O 3 ((map nD Y)[0+j*1]?) (nD (getD Y (0+j*1) lh)) (am _ _ om)<|.W 7 (j-1)<|.K 2 (decide (0<=(j:Int)-1)&&decide ((j:Int)-1<N)) JO<|.O 3 ((map nD Y)[0+zq ((j:Int)-1)*1]?) (nD (getD Y (0+zq ((j:Int)-1)*1) lh)) (am _ _ om)<|.C 2 175 true [1] (.fn A9 (@tU (W) (L) om (getD Y (0+j*1) lh) (getD Y (0+zq ((j:Int)-1)*1) lh) (by(exact hB.at om)) (by(exact hB.at om))))<|.B 4 (pg (getD W (getD Y (0+j*1) lh) lh) (getD W (getD Y (0+zq ((j:Int)-1)*1) lh) lh)<0) (λ p2 Z7=>.W 7 (j-1)<|.W 4 (j-1)<|.K 1 (decide (0<=(j:Int)-1)&&decide ((j:Int)-1<N)) JO<|.O 2 ((map nD Y)[0+zq ((j:Int)-1)*1]?) (nD (getD Y (0+zq ((j:Int)-1)*1) lh)) (am _ _ om)<|.K 3 (true&&decide ((j:Int)<N)) vW<|.O 2 ((map nD Y)[0+j*1]?) (nD (getD Y (0+j*1) lh)) (am _ _ om)<|.K 1 (true&&decide ((j:Int)<N)) vW<|.K 1 (true&&VN (0+j*1+1) (length (map nD Y))) (by(simp;have h9:=kG W X a k;omega))<|.lst (ag (map nD Y) (0+j*1) [zN (getD Y (0+zq ((j:Int)-1)*1) lh)]) (ag (map nD Y) j [zN (getD Y (zq ((j:Int)-1)) lh)]) (by(simp;done))<|.K 1 (decide (0<=(j:Int)-1)&&decide ((j:Int)-1<N)) JO<|.K 1 (true&&VN (0+zq ((j:Int)-1)*1+1) (length (ag (map nD Y) j [zN (getD Y (zq ((j:Int)-1)) lh)]))) (by(exact E8 om om))<|.lst (ag (ag (map nD Y) j [zN (getD Y (zq ((j:Int)-1)) lh)]) (0+zq ((j:Int)-1)*1) [zN (getD Y (0+j*1) lh)]) (ag (ag (map nD Y) j [zN (getD Y (zq ((j:Int)-1)) lh)]) (zq ((j:Int)-1)) [zN (getD Y j lh)]) (by(simp;done))<|.W 3 (j-1)<|.V 1 9 (zI (j-1)) (zN (j-1)) D9<|.blk 0 0 (VF (ag (ag (map nD Y) j [zN (getD Y (zq ((j:Int)-1)) lh)]) (zq ((j:Int)-1)) [zN (getD Y j lh)]) 3 true) (VF (map nD (swp Y j (j-1))) 3 true) (by(exact aw (xu om om om om om om)))<|Hn.next ZA ⟨(j-1),(swp Y j (j-1)),(by(rw[fw];(omega))),om,(by(exact hB.swp om om)),(by(exact J7 (u:=0+j*1) (v:=0+((j:Int)-1).toNat*1) hR om om om aO)),⟨⟩⟩ (by show j-1<j;clear ZA ZC ZB ZD;omega) [(0,0),(1,1)] ro) (λ p2 Z7=>.blk 0 0 (VF (map nD Y) 3 true) (VF (map nD (inQ W X a (k+1))) 3 true) (by(rw[J9 (u:=0+j*1) (v:=0+((j:Int)-1).toNat*1) hR om om aO]))<|Hn.last ZC 0 (():Unit) rfl [(0,0),(1,1)] ro)) (λ p1 Z8=>.M 24 0 0 (VF (map nD Y) 3 true) (VF (map nD (inQ W X a (k+1))) 3 true) (by(rw[J8 hR om]))<|Hn.last ZC 0 (():Unit) rfl [(0,0),(1,1)] ro)) (fun|⟨j,Y,hY,hj,hB,hR,_⟩=>by kernel_rfl) ⟨(a+1+k),(inQ W X a k),(by(have h9:=kG W X a k;omega)),om,(by(have h9:=kG W X a k;exact bP.inQ hA k om)),(by(exact xz W X a k)),⟨⟩⟩ [(0,0),(1,1)] ro (bM (fun|()=>.W 3 ((↑(a+1+k):Int)+1)<|.V 1 8 (zI ((↑(a+1+k):Int)+1)) (zN (a+1+(k+1))) D9<|Hn.next ZB ⟨(k+1),om,⟨⟩⟩ (by show b-(a+1)-(k+1)<b-(a+1)-k;clear ZB ZD;omega) [(0,0),(1,1)] ro))) (λ p0 Z9=>.blk 0 0 (VF (map nD (inQ W X a k)) 3 true) (VF (map nD T) 3 true) (by(rw[<-hT,show b-(a+1)=k from by omega]))<|Hn.last ZD 0 (():Unit) rfl [(0,0),(1,1)] ro)) (fun|⟨k,hk,_⟩=>by kernel_rfl) ⟨(0),om,⟨⟩⟩ [(0,0),(1,1)] ro (bM (fun|()=>.out [0,1] [0,1] (WL []) [VF (map nD T) 3 true,VF [V3 false L 1 (map nD W)] 152 false] R (ok _ _ wr wr)))) kr
theorem ru {p:Prop}(h:p:=by(refine decide_eq_false ?_;(omega))):p:=h
theorem E9 {p:Prop}(h:p:=by show y-((x+y)/2+1)<y-x;clear ZB ZD;omega):p:=h
theorem Fa {p:Prop}(h:p:=by show(x+y)/2-x<y-x;clear ZB ZD;omega):p:=h
theorem Fb {p:Prop}(h:p:=by(have z:=BG hR om;refine aG ?_;omega)):p:=h
theorem Fe {p:Prop}(h:p:=by(have z:=hE.e3 om;refine aG ?_;omega)):p:=h
theorem Ff {p:Prop}(h:p:=by(have z:=hE.e4 om;refine aG ?_;omega)):p:=h
theorem Oq {p:Prop}(h:p:=by show(!decide _)=true;rw[decide_eq_false (show¬Mh W X _ _<0 from hp)];rfl):p:=h
theorem HS {p:Prop}(h:p:=by show¬(!decide _)=true;rw[decide_eq_true (show Mh W X _ _<0 from hp)];decide):p:=h
theorem HT {p:Prop}(h:p:=by(exact Tb (u:=0+(((x:Int)+(y:Int))/2).toNat*1) (v:=0+(((a:Int)+(b:Int))/2+(m:Int)-1-((x:Int)+(y:Int))/2).toNat*1) hR om om om om aO)):p:=h
theorem HU {p:Prop}(h:p:=by(exact Tc (u:=0+(((x:Int)+(y:Int))/2).toNat*1) (v:=0+(((a:Int)+(b:Int))/2+(m:Int)-1-((x:Int)+(y:Int))/2).toNat*1) hR om om om om aO)):p:=h
def gT (p:Nat->Bool):Nat->Nat->Nat->Nat
 |0,i,_=>i
 |f+1,i,j=>if i<j then(if p ((i+j)/2)=true then gT p f ((i+j)/2+1) j else gT p f i ((i+j)/2))else i
theorem BG {p:Nat->Bool}{f i j T:Nat}(hR:gT p f i j=T)(h:¬i<j):i=T:=by
 rw[<-hR];cases f with
 |zero=>rfl
 |succ f=>exact(ZE h).symm
theorem Ka {p:Nat->Bool}{f i j T:Nat}(hR:gT p f i j=T)(hf:j-i<=f)(h:i<j)(hp:p ((i+j)/2)=true):gT p (f-1) ((i+j)/2+1) j=T:=by
 obtain⟨g,rfl⟩:∃g,f=g+1:=⟨f-1,by omega⟩
 rw[<-hR];exact((ZF h).trans (ZF hp)).symm
theorem Kb {p:Nat->Bool}{f i j T:Nat}(hR:gT p f i j=T)(hf:j-i<=f)(h:i<j)(hp:¬p ((i+j)/2)=true):gT p (f-1) i ((i+j)/2)=T:=by
 obtain⟨g,rfl⟩:∃g,f=g+1:=⟨f-1,by omega⟩
 rw[<-hR];exact((ZF h).trans (ZE hp)).symm
theorem ou {p:Nat->Bool}:∀(f i j:Nat),i<=j->i<=gT p f i j∧gT p f i j<=j
 |0,i,j,h=>⟨VT _,h⟩
 |f+1,i,j,h=>by
  rw[gT];split
  ·split
   ·have:=ou (p:=p) f ((i+j)/2+1) j om;omega
   ·have:=ou (p:=p) f i ((i+j)/2) om;omega
  ·exact⟨VT _,h⟩
def Mh (W X:List Nat)(u v:Nat):Int:=pg (W.getD (X.getD u lh) lh) (W.getD (X.getD v lh) lh)
def qA (W X:List Nat)(a h:Nat):Bool:=decide (Mh W X h a<0)
def qB (W X:List Nat)(m h:Nat):Bool:=!decide (Mh W X m h<0)
def qC (W X:List Nat)(q c:Nat):Bool:=!decide (Mh W X (q-c) c<0)
section
variable {W X:List Nat} {f x y T a u v:Nat}
theorem S7 (hR:gT (qA W X a) f x y=T)(hf:y-x<=f)(h:x<y)(hu:u=(x+y)/2)(hv:v=a)(hp:pg (W.getD (X.getD u lh) lh) (W.getD (X.getD v lh) lh)<0):gT (qA W X a) (f-1) ((x+y)/2+1) y=T:=by
 subst hu hv;exact Ka hR hf h (decide_eq_true hp)
theorem S8 (hR:gT (qA W X a) f x y=T)(hf:y-x<=f)(h:x<y)(hu:u=(x+y)/2)(hv:v=a)(hp:¬pg (W.getD (X.getD u lh) lh) (W.getD (X.getD v lh) lh)<0):gT (qA W X a) (f-1) x ((x+y)/2)=T:=by
 subst hu hv;exact Kb hR hf h (λ q=>hp (of_decide_eq_true q))
theorem S9 (hR:gT (qB W X a) f x y=T)(hf:y-x<=f)(h:x<y)(hu:u=(x+y)/2)(hv:v=a)(hp:¬pg (W.getD (X.getD v lh) lh) (W.getD (X.getD u lh) lh)<0):gT (qB W X a) (f-1) ((x+y)/2+1) y=T:=by
 subst hu hv;exact Ka hR hf h Oq
theorem Ta (hR:gT (qB W X a) f x y=T)(hf:y-x<=f)(h:x<y)(hu:u=(x+y)/2)(hv:v=a)(hp:pg (W.getD (X.getD v lh) lh) (W.getD (X.getD u lh) lh)<0):gT (qB W X a) (f-1) x ((x+y)/2)=T:=by
 subst hu hv;exact Kb hR hf h HS
theorem Tb (hR:gT (qC W X a) f x y=T)(hf:y-x<=f)(h:x<y)(hu:u=(x+y)/2)(hv:v=a-(x+y)/2)(hp:¬pg (W.getD (X.getD v lh) lh) (W.getD (X.getD u lh) lh)<0):gT (qC W X a) (f-1) ((x+y)/2+1) y=T:=by
 subst hu hv;exact Ka hR hf h Oq
theorem Tc (hR:gT (qC W X a) f x y=T)(hf:y-x<=f)(h:x<y)(hu:u=(x+y)/2)(hv:v=a-(x+y)/2)(hp:pg (W.getD (X.getD v lh) lh) (W.getD (X.getD u lh) lh)<0):gT (qC W X a) (f-1) x ((x+y)/2)=T:=by
 subst hu hv;exact Kb hR hf h HS
end
def Ot (X:List Nat)(a:Nat):Nat->List Nat
 |0=>X
 |k+1=>swp (Ot X a k) (a+k) (a+k+1)
def Ou (X:List Nat)(m:Nat):Nat->List Nat
 |0=>X
 |k+1=>swp (Ou X m k) (m-k) (m-k-1)
theorem xA (X:List Nat)(a:Nat):∀k,(Ot X a k).length=X.length
 |0=>rfl
 |k+1=>by rw[Ot,fw,xA X a k]
theorem xB (X:List Nat)(a:Nat):∀k,(Ou X a k).length=X.length
 |0=>rfl
 |k+1=>by rw[Ou,fw,xB X a k]
def iH (X:List Nat)(a k:Nat):List Nat:=lk X (Ot X a k)
def iI (X:List Nat)(m k:Nat):List Nat:=lk X (Ou X m k)
theorem rv (X:List Nat)(a k:Nat):iH X a k=Ot X a k:=aP _ _
theorem ry (X:List Nat)(a k:Nat):iI X a k=Ou X a k:=aP _ _
theorem BH (X:List Nat)(a:Nat):iH X a 0=X:=rv X a 0
theorem BI (X:List Nat)(a:Nat):iI X a 0=X:=ry X a 0
theorem eQ (X:List Nat)(a k:Nat):(iH X a k).length=X.length:=by rw[rv,xA]
theorem eS (X:List Nat)(a k:Nat):(iI X a k).length=X.length:=by rw[ry,xB]
theorem BJ (X:List Nat)(a k:Nat):swp (iH X a k) (a+k) (a+k+1)=iH X a (k+1):=by rw[rv,rv];rfl
theorem BK (X:List Nat)(a k:Nat):swp (iI X a k) (a-k) (a-k-1)=iI X a (k+1):=by rw[ry,ry];rfl
theorem Td (X:List Nat)(N:Nat)(hN:N=X.length)(hN2:N<=1000)(W:List Nat)(L:Nat)(hL:L=W.length)(hA:bP L X)(a m b:Nat)(h1:a<m)(h2:m<b)(h3:b<=N)(hm:m=a+1)(i:Nat)(hi:gT (qA W X a) (b-m) m b=i)(hi2:m<=i∧i<=b):S1 197 [.ref 0 0 0 N 1,nD a,nD m,nD b,.fn (.func 175) [] [.ptr 1 1 0]] [⟨X.map nD, 3,true⟩,⟨[.sl false L 1 (W.map nD)], 152,false⟩] (.tup []) [⟨(iH X a (i-1-a)).map nD, 3,true⟩,⟨[.sl false L 1 (W.map nD)], 152,false⟩]:=SpR Tryz.func197 rfl rfl rfl ⟨oa _,rfl,trivial⟩ rfl 1000 64 (λ R ok=>.W 4 (m-a)<|.E 2 ((m:Int)-a==1) vW<|.s 4<|Hn.inl T_ok ah false 220 2 (aq Tryz.prog 197 0) (λ(x:(x:Nat)×'(y:Nat)×'(f:Nat)×'(hx:m<=x∧x<=y∧y<=b)×'(hf:y-x<=f)×'(hR:gT (qA W X a) f x y=i)×'Unit)=>match x with|⟨x,y,f,hx,hf,hR,_⟩=>VZ [(0,VJ 0 0 0 N 1),(1,zN a),(4,XG (WG 175) [] [V7 1 1 0]),(10,nD x),(11,nD y)] [⟨0,0,0,0,.b ⟨map nD X,3,true⟩⟩,⟨1,1,1,1,.b ⟨[V3 false L 1 (map nD W)],152,false⟩⟩] 24) (λ(x:(x:Nat)×'(y:Nat)×'(f:Nat)×'(hx:m<=x∧x<=y∧y<=b)×'(hf:y-x<=f)×'(hR:gT (qA W X a) f x y=i)×'Unit)=>match x with|⟨x,y,f,hx,hf,hR,_⟩=>y-x) [⟨Unit,.exit 0,λ x=>match x with|()=>VZ [(0,VJ 0 0 0 N 1),(1,zN a),(4,XG (WG 175) [] [V7 1 1 0]),(10,nD i),(11,nD i)] [⟨0,0,0,0,.b ⟨map nD X,3,true⟩⟩,⟨1,1,1,1,.b ⟨[V3 false L 1 (map nD W)],152,false⟩⟩] 24⟩] 1000 64 (fun|⟨x,y,f,hx,hf,hR,_⟩,Q,ZB,ZD=>.B 4 ((x:Int)<y) (λ p0 Z9=>.W 4 (x+y)<|.O 1 (ay .u64 ((x:Int)+y)) (D.v (WQ .u64 ((x:Int)+y))) (bA om)<|.O 2 (aV XQ (WJ ((x:Int)+y) 2)) (D.v (WQ .u64 (((x:Int)+y)/2))) (au (@il  ((x:Int)+y) (2) om))<|.W 1 (((x:Int)+y)/2)<|.K 6 (true&&decide (((x:Int)+y)/2<N)) vW<|.O 2 ((map nD X)[0+zq (((x:Int)+y)/2)*1]?) (nD (getD X (0+zq (((x:Int)+y)/2)*1) lh)) (am _ _ om)<|.K 3 (true&&decide ((a:Int)<N)) vW<|.O 2 ((map nD X)[0+a*1]?) (nD (getD X (0+a*1) lh)) (am _ _ om)<|.C 1 175 true [1] (.fn A9 (@tU (W) (L) om (getD X (0+zq (((x:Int)+y)/2)*1) lh) (getD X (0+a*1) lh) (by(exact hA.at om)) (by(exact hA.at om))))<|.B 2 (pg (getD W (getD X (0+zq (((x:Int)+y)/2)*1) lh) lh) (getD W (getD X (0+a*1) lh) lh)<0) (λ p1 Z8=>.W 3 (((x:Int)+y)/2+1)<|.V 1 10 (zI (((x:Int)+y)/2+1)) (zN ((x+y)/2+1)) D9<|Hn.next ZB ⟨((x+y)/2+1),(y),(f-1),om,om,(by(exact S7 (u:=0+(((x:Int)+y)/2).toNat*1) (v:=0+a*1) hR om om om om aO)),⟨⟩⟩ E9 [(0,0),(1,1)] ro) (λ p1 Z8=>.V 2 11 (zI (((x:Int)+y)/2)) (zN ((x+y)/2)) D9<|Hn.next ZB ⟨(x),((x+y)/2),(f-1),om,om,(by(exact S8 (u:=0+(((x:Int)+y)/2).toNat*1) (v:=0+a*1) hR om om om om aO)),⟨⟩⟩ Fa [(0,0),(1,1)] ro)) (λ p0 Z9=>.val 10 (zN x) (zN i) (by(rw[BG hR om]))<|.val 11 (zN y) (zN i) Fb<|Hn.last ZD 0 (():Unit) rfl [(0,0),(1,1)] ro)) (fun|⟨x,y,f,hx,hf,hR,_⟩=>by kernel_rfl) ⟨(m),(b),(b-m),om,om,om,⟨⟩⟩ [(0,0),(1,1)] ro (bM (fun|()=>.V 2 13 (zN a) (zN (a+0)) D9<|.blk 0 0 (VF (map nD X) 3 true) (VF (map nD (iH X a 0)) 3 true) (by(rw[BH];done))<|Hn.inl T_ok ah false 220 2 (aq Tryz.prog 197 1) (λ(x:(k:Nat)×'(hk:a+k<=i-1)×'Unit)=>match x with|⟨k,hk,_⟩=>VZ [(0,VJ 0 0 0 N 1),(10,zN i),(13,nD (a+k))] [⟨0,0,0,0,.b ⟨(iH X a k).map nD,3,true⟩⟩,⟨1,1,1,1,.b ⟨[V3 false L 1 (map nD W)],152,false⟩⟩] 24) (λ(x:(k:Nat)×'(hk:a+k<=i-1)×'Unit)=>match x with|⟨k,hk,_⟩=>i-1-a-k) [⟨Unit,.exit 2,λ x=>match x with|()=>VZ [(0,VJ 0 0 0 N 1),(10,zN i)] [⟨0,0,0,0,.b ⟨(iH X a (i-1-a)).map nD,3,true⟩⟩,⟨1,1,1,1,.b ⟨[V3 false L 1 (map nD W)],152,false⟩⟩] 24⟩] 1000 64 (fun|⟨k,hk,_⟩,Q,ZB,ZD=>.W 4 (i-1)<|.B 2 ((↑(a+k):Int)<(i:Int)-1) (λ p2 Z7=>.W 7 ((↑(a+k):Int)+1)<|.W 4 ((↑(a+k):Int)+1)<|.K 1 (true&&decide ((↑(a+k):Int)+1<(N:Int))) vW<|.O 2 ((map nD (iH X a k))[0+zq ((↑(a+k):Int)+1)*1]?) (nD (getD (iH X a k) (0+zq ((↑(a+k):Int)+1)*1) lh)) (am _ _ (by(have h9:=eQ X a k;omega)))<|.K 3 (true&&decide ((↑(a+k):Int)<(N:Int))) vW<|.O 2 ((map nD (iH X a k))[0+(a+k)*1]?) (nD (getD (iH X a k) (0+(a+k)*1) lh)) (am _ _ (by(have h9:=eQ X a k;omega)))<|.K 1 (true&&decide ((↑(a+k):Int)<(N:Int))) vW<|.K 1 (true&&VN (0+(a+k)*1+1) (length (map nD (iH X a k)))) (by(simp;have h9:=eQ X a k;omega))<|.lst (ag (map nD (iH X a k)) (0+(a+k)*1) [zN (getD (iH X a k) (0+zq ((↑(a+k):Int)+1)*1) lh)]) (ag (map nD (iH X a k)) (a+k) [zN (getD (iH X a k) (zq ((↑(a+k):Int)+1)) lh)]) (by(simp;done))<|.K 1 (true&&decide ((↑(a+k):Int)+1<(N:Int))) vW<|.K 1 (true&&VN (0+zq ((↑(a+k):Int)+1)*1+1) (length (ag (map nD (iH X a k)) (a+k) [zN (getD (iH X a k) (zq ((↑(a+k):Int)+1)) lh)]))) (by(have h9:=eQ X a k;exact E8 om om))<|.lst (ag (ag (map nD (iH X a k)) (a+k) [zN (getD (iH X a k) (zq ((↑(a+k):Int)+1)) lh)]) (0+zq ((↑(a+k):Int)+1)*1) [zN (getD (iH X a k) (0+(a+k)*1) lh)]) (ag (ag (map nD (iH X a k)) (a+k) [zN (getD (iH X a k) (zq ((↑(a+k):Int)+1)) lh)]) (zq ((↑(a+k):Int)+1)) [zN (getD (iH X a k) (a+k) lh)]) (by(simp;done))<|.W 3 ((↑(a+k):Int)+1)<|.V 1 13 (zI ((↑(a+k):Int)+1)) (zN (a+(k+1))) D9<|.blk 0 0 (VF (ag (ag (map nD (iH X a k)) (a+k) [zN (getD (iH X a k) (zq ((↑(a+k):Int)+1)) lh)]) (zq ((↑(a+k):Int)+1)) [zN (getD (iH X a k) (a+k) lh)]) 3 true) (VF (map nD (iH X a (k+1))) 3 true) (by(have h9:=eQ X a k;exact aw (Eq.trans (xu (i:=a+k) (j:=a+k+1) om om om om om om) (by rw[BJ]))))<|Hn.next ZB ⟨(k+1),om,⟨⟩⟩ (by show i-1-a-(k+1)<i-1-a-k;clear ZB ZD;omega) [(0,0),(1,1)] ro) (λ p2 Z7=>.blk 0 0 (VF (map nD (iH X a k)) 3 true) (VF (map nD (iH X a (i-1-a))) 3 true) (by(rw[show k=i-1-a from by omega]))<|Hn.last ZD 0 (():Unit) rfl [(0,0),(1,1)] ro)) (fun|⟨k,hk,_⟩=>by kernel_rfl) ⟨(0),om,⟨⟩⟩ [(0,0),(1,1)] ro (bM (fun|()=>.out [0,1] [0,1] (WL []) [VF (map nD (iH X a (i-1-a))) 3 true,VF [V3 false L 1 (map nD W)] 152 false] R (ok _ _ wr wr)))))) kr
theorem Te (X:List Nat)(N:Nat)(hN:N=X.length)(hN2:N<=1000)(W:List Nat)(L:Nat)(hL:L=W.length)(hA:bP L X)(a m b:Nat)(h1:a<m)(h2:m<b)(h3:b<=N)(hm:m≠a+1)(hb:b=m+1)(i:Nat)(hi:gT (qB W X m) (m-a) a m=i)(hi2:a<=i∧i<=m):S1 197 [.ref 0 0 0 N 1,nD a,nD m,nD b,.fn (.func 175) [] [.ptr 1 1 0]] [⟨X.map nD, 3,true⟩,⟨[.sl false L 1 (W.map nD)], 152,false⟩] (.tup []) [⟨(iI X m (m-i)).map nD, 3,true⟩,⟨[.sl false L 1 (W.map nD)], 152,false⟩]:=SpR Tryz.func197 rfl rfl rfl ⟨oa _,rfl,trivial⟩ rfl 1000 64 (λ R ok=>.W 4 (m-a)<|.F 2 ((m:Int)-a==1) ru<|.W 4 (b-m)<|.E 2 ((b:Int)-m==1) vW<|.s 4<|Hn.inl T_ok ah false 220 2 (aq Tryz.prog 197 2) (λ(x:(x:Nat)×'(y:Nat)×'(f:Nat)×'(hx:a<=x∧x<=y∧y<=m)×'(hf:y-x<=f)×'(hR:gT (qB W X m) f x y=i)×'Unit)=>match x with|⟨x,y,f,hx,hf,hR,_⟩=>VZ [(0,VJ 0 0 0 N 1),(2,zN m),(4,XG (WG 175) [] [V7 1 1 0]),(14,nD x),(15,nD y)] [⟨0,0,0,0,.b ⟨map nD X,3,true⟩⟩,⟨1,1,1,1,.b ⟨[V3 false L 1 (map nD W)],152,false⟩⟩] 24) (λ(x:(x:Nat)×'(y:Nat)×'(f:Nat)×'(hx:a<=x∧x<=y∧y<=m)×'(hf:y-x<=f)×'(hR:gT (qB W X m) f x y=i)×'Unit)=>match x with|⟨x,y,f,hx,hf,hR,_⟩=>y-x) [⟨Unit,.exit 4,λ x=>match x with|()=>VZ [(0,VJ 0 0 0 N 1),(2,zN m),(4,XG (WG 175) [] [V7 1 1 0]),(14,nD i),(15,nD i)] [⟨0,0,0,0,.b ⟨map nD X,3,true⟩⟩,⟨1,1,1,1,.b ⟨[V3 false L 1 (map nD W)],152,false⟩⟩] 24⟩] 1000 64 (fun|⟨x,y,f,hx,hf,hR,_⟩,Q,ZB,ZD=>.B 4 ((x:Int)<y) (λ p0 Z9=>.W 4 (x+y)<|.O 1 (ay .u64 ((x:Int)+y)) (D.v (WQ .u64 ((x:Int)+y))) (bA om)<|.O 2 (aV XQ (WJ ((x:Int)+y) 2)) (D.v (WQ .u64 (((x:Int)+y)/2))) (au (@il  ((x:Int)+y) (2) om))<|.W 1 (((x:Int)+y)/2)<|.K 6 (true&&decide ((m:Int)<N)) vW<|.O 2 ((map nD X)[0+m*1]?) (nD (getD X (0+m*1) lh)) (am _ _ om)<|.K 3 (true&&decide (((x:Int)+y)/2<N)) vW<|.O 2 ((map nD X)[0+zq (((x:Int)+y)/2)*1]?) (nD (getD X (0+zq (((x:Int)+y)/2)*1) lh)) (am _ _ om)<|.C 1 175 true [1] (.fn A9 (@tU (W) (L) om (getD X (0+m*1) lh) (getD X (0+zq (((x:Int)+y)/2)*1) lh) (by(exact hA.at om)) (by(exact hA.at om))))<|.R 3 (!decide (pg (getD W (getD X (0+m*1) lh) lh) (getD W (getD X (0+zq (((x:Int)+y)/2)*1) lh) lh)<0)) (λ p1=>have Z8:=vN (dl p1);.W 3 (((x:Int)+y)/2+1)<|.V 1 14 (zI (((x:Int)+y)/2+1)) (zN ((x+y)/2+1)) D9<|Hn.next ZB ⟨((x+y)/2+1),(y),(f-1),om,om,(by(exact S9 (u:=0+(((x:Int)+y)/2).toNat*1) (v:=0+m*1) hR om om om om aO)),⟨⟩⟩ E9 [(0,0),(1,1)] ro) (λ p1=>have Z8:=vM (dm p1);.V 2 15 (zI (((x:Int)+y)/2)) (zN ((x+y)/2)) D9<|Hn.next ZB ⟨(x),((x+y)/2),(f-1),om,om,(by(exact Ta (u:=0+(((x:Int)+y)/2).toNat*1) (v:=0+m*1) hR om om om om aO)),⟨⟩⟩ Fa [(0,0),(1,1)] ro)) (λ p0 Z9=>.val 14 (zN x) (zN i) (by(rw[BG hR om]))<|.val 15 (zN y) (zN i) Fb<|Hn.last ZD 0 (():Unit) rfl [(0,0),(1,1)] ro)) (fun|⟨x,y,f,hx,hf,hR,_⟩=>by kernel_rfl) ⟨(a),(m),(m-a),om,om,om,⟨⟩⟩ [(0,0),(1,1)] ro (bM (fun|()=>.V 2 17 (zN m) (zN (m-0)) D9<|.blk 0 0 (VF (map nD X) 3 true) (VF (map nD (iI X m 0)) 3 true) (by(rw[BI];done))<|Hn.inl T_ok ah false 220 2 (aq Tryz.prog 197 3) (λ(x:(k:Nat)×'(hk:k<=m-i)×'Unit)=>match x with|⟨k,hk,_⟩=>VZ [(0,VJ 0 0 0 N 1),(14,zN i),(17,nD (m-k))] [⟨0,0,0,0,.b ⟨(iI X m k).map nD,3,true⟩⟩,⟨1,1,1,1,.b ⟨[V3 false L 1 (map nD W)],152,false⟩⟩] 24) (λ(x:(k:Nat)×'(hk:k<=m-i)×'Unit)=>match x with|⟨k,hk,_⟩=>m-i-k) [⟨Unit,.exit 6,λ x=>match x with|()=>VZ [(0,VJ 0 0 0 N 1),(14,zN i)] [⟨0,0,0,0,.b ⟨(iI X m (m-i)).map nD,3,true⟩⟩,⟨1,1,1,1,.b ⟨[V3 false L 1 (map nD W)],152,false⟩⟩] 24⟩] 1000 64 (fun|⟨k,hk,_⟩,Q,ZB,ZD=>.B 4 ((i:Int)<(↑(m-k):Int)) (λ p2 Z7=>.W 7 ((↑(m-k):Int)-1)<|.W 4 ((↑(m-k):Int)-1)<|.K 1 (decide (0<=(↑(m-k):Int)-1)&&decide ((↑(m-k):Int)-1<(N:Int))) JO<|.O 2 ((map nD (iI X m k))[0+zq ((↑(m-k):Int)-1)*1]?) (nD (getD (iI X m k) (0+zq ((↑(m-k):Int)-1)*1) lh)) (am _ _ (by(have h9:=eS X m k;omega)))<|.K 3 (true&&decide ((↑(m-k):Int)<(N:Int))) vW<|.O 2 ((map nD (iI X m k))[0+(m-k)*1]?) (nD (getD (iI X m k) (0+(m-k)*1) lh)) (am _ _ (by(have h9:=eS X m k;omega)))<|.K 1 (true&&decide ((↑(m-k):Int)<(N:Int))) vW<|.K 1 (true&&VN (0+(m-k)*1+1) (length (map nD (iI X m k)))) (by(simp;have h9:=eS X m k;omega))<|.lst (ag (map nD (iI X m k)) (0+(m-k)*1) [zN (getD (iI X m k) (0+zq ((↑(m-k):Int)-1)*1) lh)]) (ag (map nD (iI X m k)) (m-k) [zN (getD (iI X m k) (zq ((↑(m-k):Int)-1)) lh)]) (by(simp;done))<|.K 1 (decide (0<=(↑(m-k):Int)-1)&&decide ((↑(m-k):Int)-1<(N:Int))) JO<|.K 1 (true&&VN (0+zq ((↑(m-k):Int)-1)*1+1) (length (ag (map nD (iI X m k)) (m-k) [zN (getD (iI X m k) (zq ((↑(m-k):Int)-1)) lh)]))) (by(have h9:=eS X m k;exact E8 om om))<|.lst (ag (ag (map nD (iI X m k)) (m-k) [zN (getD (iI X m k) (zq ((↑(m-k):Int)-1)) lh)]) (0+zq ((↑(m-k):Int)-1)*1) [zN (getD (iI X m k) (0+(m-k)*1) lh)]) (ag (ag (map nD (iI X m k)) (m-k) [zN (getD (iI X m k) (zq ((↑(m-k):Int)-1)) lh)]) (zq ((↑(m-k):Int)-1)) [zN (getD (iI X m k) (m-k) lh)]) (by(simp;done))<|.W 3 ((↑(m-k):Int)-1)<|.V 1 17 (zI ((↑(m-k):Int)-1)) (zN (m-(k+1))) D9<|.blk 0 0 (VF (ag (ag (map nD (iI X m k)) (m-k) [zN (getD (iI X m k) (zq ((↑(m-k):Int)-1)) lh)]) (zq ((↑(m-k):Int)-1)) [zN (getD (iI X m k) (m-k) lh)]) 3 true) (VF (map nD (iI X m (k+1))) 3 true) (by(have h9:=eS X m k;exact aw (Eq.trans (xu (i:=m-k) (j:=m-k-1) om om om om om om) (by rw[BK]))))<|Hn.next ZB ⟨(k+1),om,⟨⟩⟩ (by show m-i-(k+1)<m-i-k;clear ZB ZD;omega) [(0,0),(1,1)] ro) (λ p2 Z7=>.blk 0 0 (VF (map nD (iI X m k)) 3 true) (VF (map nD (iI X m (m-i))) 3 true) (by(rw[show k=m-i from by omega]))<|Hn.last ZD 0 (():Unit) rfl [(0,0),(1,1)] ro)) (fun|⟨k,hk,_⟩=>by kernel_rfl) ⟨(0),om,⟨⟩⟩ [(0,0),(1,1)] ro (bM (fun|()=>.out [0,1] [0,1] (WL []) [VF (map nD (iI X m (m-i))) 3 true,VF [V3 false L 1 (map nD W)] 152 false] R (ok _ _ wr wr)))))) kr
structure RtH (W:List Nat)(L N:Nat)(X:List Nat)(a m b:Nat)(X1:List Nat):Prop where
 h:∀(Y:List Nat) (x y z:Int),Y=X->x=a->y=m->z=b->S1 200 [.ref 0 0 0 N 1,iD x,iD y,iD z,.fn (.func 175) [] [.ptr 1 1 0]] [⟨Y.map nD, 3,true⟩,⟨[.sl false L 1 (W.map nD)], 152,false⟩] (.tup []) [⟨X1.map nD, 3,true⟩,⟨[.sl false L 1 (W.map nD)], 152,false⟩]
structure SaH (W:List Nat)(L N:Nat)(X:List Nat)(a m b:Nat)(X1:List Nat):Prop where
 h:∀(Y:List Nat) (x y z:Int),Y=X->x=a->y=m->z=b->S1 197 [.ref 0 0 0 N 1,iD x,iD y,iD z,.fn (.func 175) [] [.ptr 1 1 0]] [⟨Y.map nD, 3,true⟩,⟨[.sl false L 1 (W.map nD)], 152,false⟩] (.tup []) [⟨X1.map nD, 3,true⟩,⟨[.sl false L 1 (W.map nD)], 152,false⟩]
structure SbH (W:List Nat)(L N:Nat)(X:List Nat)(a m b:Nat)(X1:List Nat):Prop where
 h:∀(Y:List Nat) (x y z:Int),Y=X->x=a->y=m->z=b->S1 197 [.ref 0 0 0 N 1,iD x,iD y,iD z,.fn (.func 175) [] [.ptr 1 1 0]] [⟨Y.map nD, 3,true⟩,⟨[.sl false L 1 (W.map nD)], 152,false⟩] (.tup []) [⟨X1.map nD, 3,true⟩,⟨[.sl false L 1 (W.map nD)], 152,false⟩]
structure SmE (W:List Nat)(L N:Nat)(X X1 X2 T:List Nat)(a m b mid q st en s0 r0:Nat):Prop where
 r:st<m->m<en->RtH W L N X st m en X1
 r0':(st<m->m<en->False)->X=X1
 s:a<st->st<mid->SaH W L N X1 a st mid X2
 s0':(a<st->st<mid->False)->X1=X2
 t:mid<en->en<b->SbH W L N X2 mid en b T
 t0':(mid<en->en<b->False)->X2=T
 e3:mid<m->s0=q-b∧r0=mid
 e4:m<=mid->s0=a∧r0=m
section
variable {W:List Nat} {L N:Nat} {X X1 X2 T:List Nat} {a m b mid q st en s0 r0:Nat} (h:SmE W L N X X1 X2 T a m b mid q st en s0 r0)
include h
theorem SmE.rp (c1:st<m)(c2:m<en)(Y:List Nat)(x y z:Int)(hY:Y=X)(hx:x=st)(hy:y=m)(hz:z=en):S1 200 [.ref 0 0 0 N 1,iD x,iD y,iD z,.fn (.func 175) [] [.ptr 1 1 0]] [⟨Y.map nD, 3,true⟩,⟨[.sl false L 1 (W.map nD)], 152,false⟩] (.tup []) [⟨X1.map nD, 3,true⟩,⟨[.sl false L 1 (W.map nD)], 152,false⟩]:=(h.r c1 c2).h Y x y z hY hx hy hz
theorem SmE.sp (c1:a<st)(c2:st<mid)(Y:List Nat)(x y z:Int)(hY:Y=X1)(hx:x=a)(hy:y=st)(hz:z=mid):S1 197 [.ref 0 0 0 N 1,iD x,iD y,iD z,.fn (.func 175) [] [.ptr 1 1 0]] [⟨Y.map nD, 3,true⟩,⟨[.sl false L 1 (W.map nD)], 152,false⟩] (.tup []) [⟨X2.map nD, 3,true⟩,⟨[.sl false L 1 (W.map nD)], 152,false⟩]:=(h.s c1 c2).h Y x y z hY hx hy hz
theorem SmE.tp (c1:mid<en)(c2:en<b)(Y:List Nat)(x y z:Int)(hY:Y=X2)(hx:x=mid)(hy:y=en)(hz:z=b):S1 197 [.ref 0 0 0 N 1,iD x,iD y,iD z,.fn (.func 175) [] [.ptr 1 1 0]] [⟨Y.map nD, 3,true⟩,⟨[.sl false L 1 (W.map nD)], 152,false⟩] (.tup []) [⟨T.map nD, 3,true⟩,⟨[.sl false L 1 (W.map nD)], 152,false⟩]:=(h.t c1 c2).h Y x y z hY hx hy hz
end
theorem Tf (X:List Nat)(N:Nat)(hN:N=X.length)(hN2:N<=1000)(W:List Nat)(L:Nat)(hL:L=W.length)(hA:bP L X)(a m b:Nat)(h1:a<m)(h2:m<b)(h3:b<=N)(hm:m≠a+1)(hb:b≠m+1)(X1 X2 T:List Nat)(mid q st en:Nat)(e1:mid=(a+b)/2)(e2:q=mid+m)(s0 r0:Nat)(hs0:s0<=r0∧r0<=m∧a<=s0∧q<=s0+b)(hi:gT (qC W X (q-1)) (r0-s0) s0 r0=st)(hi2:s0<=st∧st<=r0)(e5:en=q-st)(hE:SmE W L N X X1 X2 T a m b mid q st en s0 r0):S1 197 [.ref 0 0 0 N 1,nD a,nD m,nD b,.fn (.func 175) [] [.ptr 1 1 0]] [⟨X.map nD, 3,true⟩,⟨[.sl false L 1 (W.map nD)], 152,false⟩] (.tup []) [⟨(T).map nD, 3,true⟩,⟨[.sl false L 1 (W.map nD)], 152,false⟩]:=SpR Tryz.func197 rfl rfl rfl ⟨oa _,rfl,trivial⟩ rfl 1000 64 (λ R ok=>.W 4 (m-a)<|.F 2 ((m:Int)-a==1) ru<|.W 4 (b-m)<|.F 2 ((b:Int)-m==1) ru<|.W 4 (a+b)<|.O 1 (ay .u64 ((a:Int)+b)) (D.v (WQ .u64 ((a:Int)+b))) (bA om)<|.O 2 (aV XQ (WJ ((a:Int)+b) 2)) (D.v (WQ .u64 (((a:Int)+b)/2))) (au (@il  ((a:Int)+b) (2) om))<|.W 1 (((a:Int)+b)/2)<|.W 5 (((a:Int)+b)/2+m)<|.B 7 (((a:Int)+b)/2<m) (λ p0 Z9=>.W 4 (((a:Int)+b)/2+m-b)<|.W 6 (((a:Int)+b)/2+m-1)<|.V 1 20 (zI (((a:Int)+b)/2+m-b)) (zN s0) Fe<|.val 21 (zI (((a:Int)+b)/2)) (zN r0) Fe<|Hn.inl T_ok ah false 220 2 (aq Tryz.prog 197 4) (λ(x:(x:Nat)×'(y:Nat)×'(f:Nat)×'(hx:s0<=x∧x<=y∧y<=r0)×'(hf:y-x<=f)×'(hR:gT (qC W X (q-1)) f x y=st)×'Unit)=>match x with|⟨x,y,f,hx,hf,hR,_⟩=>VZ [(0,VJ 0 0 0 N 1),(1,zN a),(2,zN m),(3,zN b),(4,XG (WG 175) [] [V7 1 1 0]),(18,zI (((a:Int)+b)/2)),(19,zI (((a:Int)+b)/2+m)),(20,nD x),(21,nD y),(22,zI (((a:Int)+b)/2+m-1))] [⟨0,0,0,0,.b ⟨map nD X,3,true⟩⟩,⟨1,1,1,1,.b ⟨[V3 false L 1 (map nD W)],152,false⟩⟩] 24) (λ(x:(x:Nat)×'(y:Nat)×'(f:Nat)×'(hx:s0<=x∧x<=y∧y<=r0)×'(hf:y-x<=f)×'(hR:gT (qC W X (q-1)) f x y=st)×'Unit)=>match x with|⟨x,y,f,hx,hf,hR,_⟩=>y-x) [⟨Unit,.exit 8,λ x=>match x with|()=>VZ [(0,VJ 0 0 0 N 1),(1,zN a),(2,zN m),(3,zN b),(4,XG (WG 175) [] [V7 1 1 0]),(18,zI (((a:Int)+b)/2)),(19,zI (((a:Int)+b)/2+m)),(20,nD st),(21,nD st),(22,zI (((a:Int)+b)/2+m-1))] [⟨0,0,0,0,.b ⟨map nD X,3,true⟩⟩,⟨1,1,1,1,.b ⟨[V3 false L 1 (map nD W)],152,false⟩⟩] 24⟩] 1000 64 (fun|⟨x,y,f,hx,hf,hR,_⟩,Q,ZB,ZD=>.B 4 ((x:Int)<y) (λ p1 Z8=>.W 4 (x+y)<|.O 1 (ay .u64 ((x:Int)+y)) (D.v (WQ .u64 ((x:Int)+y))) (bA om)<|.O 2 (aV XQ (WJ ((x:Int)+y) 2)) (D.v (WQ .u64 (((x:Int)+y)/2))) (au (@il  ((x:Int)+y) (2) om))<|.W 1 (((x:Int)+y)/2)<|.W 8 (((a:Int)+b)/2+m-1-(x+y)/2)<|.K 1 (decide (0<=((a:Int)+b)/2+m-1-(x+y)/2)&&decide (((a:Int)+b)/2+m-1-(x+y)/2<N)) JO<|.O 2 ((map nD X)[0+zq (((a:Int)+b)/2+m-1-(x+y)/2)*1]?) (nD (getD X (0+zq (((a:Int)+b)/2+m-1-(x+y)/2)*1) lh)) (am _ _ om)<|.K 3 (true&&decide (((x:Int)+y)/2<N)) vW<|.O 2 ((map nD X)[0+zq (((x:Int)+y)/2)*1]?) (nD (getD X (0+zq (((x:Int)+y)/2)*1) lh)) (am _ _ om)<|.C 1 175 true [1] (.fn A9 (@tU (W) (L) om (getD X (0+zq (((a:Int)+b)/2+m-1-(x+y)/2)*1) lh) (getD X (0+zq (((x:Int)+y)/2)*1) lh) (by(exact hA.at om)) (by(exact hA.at om))))<|.R 3 (!decide (pg (getD W (getD X (0+zq (((a:Int)+b)/2+m-1-(x+y)/2)*1) lh) lh) (getD W (getD X (0+zq (((x:Int)+y)/2)*1) lh) lh)<0)) (λ p2=>have Z7:=vN (dl p2);.W 3 (((x:Int)+y)/2+1)<|.V 1 20 (zI (((x:Int)+y)/2+1)) (zN ((x+y)/2+1)) Fe<|Hn.next ZB ⟨((x+y)/2+1),(y),(f-1),om,om,HT,⟨⟩⟩ E9 [(0,0),(1,1)] ro) (λ p2=>have Z7:=vM (dm p2);.V 2 21 (zI (((x:Int)+y)/2)) (zN ((x+y)/2)) Fe<|Hn.next ZB ⟨(x),((x+y)/2),(f-1),om,om,HU,⟨⟩⟩ Fa [(0,0),(1,1)] ro)) (λ p1 Z8=>.val 20 (zN x) (zN st) (by(rw[BG hR om]))<|.val 21 (zN y) (zN st) Fb<|Hn.last ZD 0 (():Unit) rfl [(0,0),(1,1)] ro)) (fun|⟨x,y,f,hx,hf,hR,_⟩=>by kernel_rfl) ⟨(s0),(r0),(r0-s0),om,om,om,⟨⟩⟩ [(0,0),(1,1)] ro (bM (fun|()=>.W 4 (((a:Int)+b)/2+m-st)<|.B 7 ((st:Int)<m) (λ p3 Z6=>.B 6 ((m:Int)<(a+b)/2+m-st) (λ p4 Z5=>.s 6<|.call 200 true [0,1] (true) wr ([VJ 0 0 0 N 1,zN st,zN m,zI (((a:Int)+b)/2+m-st),XG (WG 175) [] [V7 1 1 0]]) _ (cQ.refl _) (ae (map nD X)&&true) (by(simp;done)) _ _ _ (V0 (ao.of Tryz.func200 rfl rfl) (@SmE.rp (W) (L) (N) (X) (X1) (X2) (T) (a) (m) (b) (mid) (q) (st) (en) (s0) (r0) aO om om (X) ((st:Int)) ((m:Int)) (((a:Int)+b)/2+m-st) wr om om om))<|.B 6 ((a:Int)<st) (λ p5 p5f=>.E 6 (decide ((st:Int)<(a+b)/2)) vW<|.s 6<|.call 197 true [0,1] (true) wr ([VJ 0 0 0 N 1,zN a,zN st,zI (((a:Int)+b)/2),XG (WG 175) [] [V7 1 1 0]]) _ (cQ.refl _) (ae (map nD X1)&&true) (by(simp;done)) _ _ _ (V0 (ao.of Tryz.func197 rfl rfl) (@SmE.sp (W) (L) (N) (X) (X1) (X2) (T) (a) (m) (b) (mid) (q) (st) (en) (s0) (r0) aO om om (X1) ((a:Int)) ((st:Int)) (((a:Int)+b)/2) wr om om om))<|.E 6 (decide (((a:Int)+b)/2<(a+b)/2+m-st)) vW<|.B 6 (((a:Int)+b)/2+m-st<b) (λ p6 p6f=>.s 6<|.call 197 true [0,1] (true) wr ([VJ 0 0 0 N 1,zI (((a:Int)+b)/2),zI (((a:Int)+b)/2+m-st),zN b,XG (WG 175) [] [V7 1 1 0]]) _ (cQ.refl _) (ae (map nD X2)&&true) (by(simp;done)) _ _ _ (V0 (ao.of Tryz.func197 rfl rfl) (@SmE.tp (W) (L) (N) (X) (X1) (X2) (T) (a) (m) (b) (mid) (q) (st) (en) (s0) (r0) aO om om (X2) (((a:Int)+b)/2) (((a:Int)+b)/2+m-st) ((b:Int)) wr om om om))<|.out [0,1] [0,1] (WL []) [VF (map nD T) 3 true,VF [V3 false L 1 (map nD W)] 152 false] R (ok _ _ wr wr)) (λ p6 p6f=>.out [0,1] [0,1] (WL []) [VF (map nD X2) 3 true,VF [V3 false L 1 (map nD W)] 152 false] R (ok _ _ wr (by(rw[hE.t0' om]))))) (λ p5 p5f=>.E 12 (decide (((a:Int)+b)/2<(a+b)/2+m-st)) vW<|.F 6 (decide (((a:Int)+b)/2+m-st<b)) ru<|.out [0,1] [0,1] (WL []) [VF (map nD X1) 3 true,VF [V3 false L 1 (map nD W)] 152 false] R (ok _ _ wr (by(rw[hE.s0' om,hE.t0' om]))))) (λ p4 Z5=>.E 6 (decide ((a:Int)<st)) vW<|.F 6 (decide ((st:Int)<(a+b)/2)) ru<|.E 6 (decide (((a:Int)+b)/2<(a+b)/2+m-st)) vW<|.E 6 (decide (((a:Int)+b)/2+m-st<b)) vW<|.s 6<|.call 197 true [0,1] (true) wr ([VJ 0 0 0 N 1,zI (((a:Int)+b)/2),zI (((a:Int)+b)/2+m-st),zN b,XG (WG 175) [] [V7 1 1 0]]) _ (cQ.refl _) (ae (map nD X)&&true) (by(simp;done)) _ _ _ (V0 (ao.of Tryz.func197 rfl rfl) (@SmE.tp (W) (L) (N) (X) (X1) (X2) (T) (a) (m) (b) (mid) (q) (st) (en) (s0) (r0) aO om om (X) (((a:Int)+b)/2) (((a:Int)+b)/2+m-st) ((b:Int)) (by(exact(hE.r0' om).trans (hE.s0' om))) om om om))<|.out [0,1] [0,1] (WL []) [VF (map nD T) 3 true,VF [V3 false L 1 (map nD W)] 152 false] R (ok _ _ wr wr))) (λ p3 Z6=>.E 12 (decide ((a:Int)<st)) vW<|.F 6 (decide ((st:Int)<(a+b)/2)) ru<|.F 6 (decide (((a:Int)+b)/2<(a+b)/2+m-st)) ru<|.U 6 [0,1] [0,1] (WL []) [VF (map nD X) 3 true,VF [V3 false L 1 (map nD W)] 152 false] R (ok _ _ wr (by(rw[hE.r0' om,hE.s0' om,hE.t0' om]))))))) (λ p0 Z9=>.W 7 (((a:Int)+b)/2+m-1)<|.V 1 20 (zN a) (zN s0) Ff<|.val 21 (zN m) (zN r0) Ff<|Hn.inl T_ok ah false 220 2 (aq Tryz.prog 197 4) (λ(x:(x:Nat)×'(y:Nat)×'(f:Nat)×'(hx:s0<=x∧x<=y∧y<=r0)×'(hf:y-x<=f)×'(hR:gT (qC W X (q-1)) f x y=st)×'Unit)=>match x with|⟨x,y,f,hx,hf,hR,_⟩=>VZ [(0,VJ 0 0 0 N 1),(1,zN a),(2,zN m),(3,zN b),(4,XG (WG 175) [] [V7 1 1 0]),(18,zI (((a:Int)+b)/2)),(19,zI (((a:Int)+b)/2+m)),(20,nD x),(21,nD y),(22,zI (((a:Int)+b)/2+m-1))] [⟨0,0,0,0,.b ⟨map nD X,3,true⟩⟩,⟨1,1,1,1,.b ⟨[V3 false L 1 (map nD W)],152,false⟩⟩] 24) (λ(x:(x:Nat)×'(y:Nat)×'(f:Nat)×'(hx:s0<=x∧x<=y∧y<=r0)×'(hf:y-x<=f)×'(hR:gT (qC W X (q-1)) f x y=st)×'Unit)=>match x with|⟨x,y,f,hx,hf,hR,_⟩=>y-x) [⟨Unit,.exit 8,λ x=>match x with|()=>VZ [(0,VJ 0 0 0 N 1),(1,zN a),(2,zN m),(3,zN b),(4,XG (WG 175) [] [V7 1 1 0]),(18,zI (((a:Int)+b)/2)),(19,zI (((a:Int)+b)/2+m)),(20,nD st),(21,nD st),(22,zI (((a:Int)+b)/2+m-1))] [⟨0,0,0,0,.b ⟨map nD X,3,true⟩⟩,⟨1,1,1,1,.b ⟨[V3 false L 1 (map nD W)],152,false⟩⟩] 24⟩] 1000 64 (fun|⟨x,y,f,hx,hf,hR,_⟩,Q,ZB,ZD=>.B 4 ((x:Int)<y) (λ p7 p7f=>.W 4 (x+y)<|.O 1 (ay .u64 ((x:Int)+y)) (D.v (WQ .u64 ((x:Int)+y))) (bA om)<|.O 2 (aV XQ (WJ ((x:Int)+y) 2)) (D.v (WQ .u64 (((x:Int)+y)/2))) (au (@il  ((x:Int)+y) (2) om))<|.W 1 (((x:Int)+y)/2)<|.W 8 (((a:Int)+b)/2+m-1-(x+y)/2)<|.K 1 (decide (0<=((a:Int)+b)/2+m-1-(x+y)/2)&&decide (((a:Int)+b)/2+m-1-(x+y)/2<N)) JO<|.O 2 ((map nD X)[0+zq (((a:Int)+b)/2+m-1-(x+y)/2)*1]?) (nD (getD X (0+zq (((a:Int)+b)/2+m-1-(x+y)/2)*1) lh)) (am _ _ om)<|.K 3 (true&&decide (((x:Int)+y)/2<N)) vW<|.O 2 ((map nD X)[0+zq (((x:Int)+y)/2)*1]?) (nD (getD X (0+zq (((x:Int)+y)/2)*1) lh)) (am _ _ om)<|.C 1 175 true [1] (.fn A9 (@tU (W) (L) om (getD X (0+zq (((a:Int)+b)/2+m-1-(x+y)/2)*1) lh) (getD X (0+zq (((x:Int)+y)/2)*1) lh) (by(exact hA.at om)) (by(exact hA.at om))))<|.R 3 (!decide (pg (getD W (getD X (0+zq (((a:Int)+b)/2+m-1-(x+y)/2)*1) lh) lh) (getD W (getD X (0+zq (((x:Int)+y)/2)*1) lh) lh)<0)) (λ p8=>have p8f:=vN (dl p8);.W 3 (((x:Int)+y)/2+1)<|.V 1 20 (zI (((x:Int)+y)/2+1)) (zN ((x+y)/2+1)) Ff<|Hn.next ZB ⟨((x+y)/2+1),(y),(f-1),om,om,HT,⟨⟩⟩ E9 [(0,0),(1,1)] ro) (λ p8=>have p8f:=vM (dm p8);.V 2 21 (zI (((x:Int)+y)/2)) (zN ((x+y)/2)) Ff<|Hn.next ZB ⟨(x),((x+y)/2),(f-1),om,om,HU,⟨⟩⟩ Fa [(0,0),(1,1)] ro)) (λ p7 p7f=>.val 20 (zN x) (zN st) (by(rw[BG hR om]))<|.val 21 (zN y) (zN st) Fb<|Hn.last ZD 0 (():Unit) rfl [(0,0),(1,1)] ro)) (fun|⟨x,y,f,hx,hf,hR,_⟩=>by kernel_rfl) ⟨(s0),(r0),(r0-s0),om,om,om,⟨⟩⟩ [(0,0),(1,1)] ro (bM (fun|()=>.W 4 (((a:Int)+b)/2+m-st)<|.B 7 ((st:Int)<m) (λ p9 p9f=>.E 6 (decide ((m:Int)<(a+b)/2+m-st)) vW<|.s 6<|.call 200 true [0,1] (true) wr ([VJ 0 0 0 N 1,zN st,zN m,zI (((a:Int)+b)/2+m-st),XG (WG 175) [] [V7 1 1 0]]) _ (cQ.refl _) (ae (map nD X)&&true) (by(simp;done)) _ _ _ (V0 (ao.of Tryz.func200 rfl rfl) (@SmE.rp (W) (L) (N) (X) (X1) (X2) (T) (a) (m) (b) (mid) (q) (st) (en) (s0) (r0) aO om om (X) ((st:Int)) ((m:Int)) (((a:Int)+b)/2+m-st) wr om om om))<|.B 6 ((a:Int)<st) (λ p10 p10f=>.E 6 (decide ((st:Int)<(a+b)/2)) vW<|.s 6<|.call 197 true [0,1] (true) wr ([VJ 0 0 0 N 1,zN a,zN st,zI (((a:Int)+b)/2),XG (WG 175) [] [V7 1 1 0]]) _ (cQ.refl _) (ae (map nD X1)&&true) (by(simp;done)) _ _ _ (V0 (ao.of Tryz.func197 rfl rfl) (@SmE.sp (W) (L) (N) (X) (X1) (X2) (T) (a) (m) (b) (mid) (q) (st) (en) (s0) (r0) aO om om (X1) ((a:Int)) ((st:Int)) (((a:Int)+b)/2) wr om om om))<|.E 6 (decide (((a:Int)+b)/2<(a+b)/2+m-st)) vW<|.E 6 (decide (((a:Int)+b)/2+m-st<b)) vW<|.s 6<|.call 197 true [0,1] (true) wr ([VJ 0 0 0 N 1,zI (((a:Int)+b)/2),zI (((a:Int)+b)/2+m-st),zN b,XG (WG 175) [] [V7 1 1 0]]) _ (cQ.refl _) (ae (map nD X2)&&true) (by(simp;done)) _ _ _ (V0 (ao.of Tryz.func197 rfl rfl) (@SmE.tp (W) (L) (N) (X) (X1) (X2) (T) (a) (m) (b) (mid) (q) (st) (en) (s0) (r0) aO om om (X2) (((a:Int)+b)/2) (((a:Int)+b)/2+m-st) ((b:Int)) wr om om om))<|.out [0,1] [0,1] (WL []) [VF (map nD T) 3 true,VF [V3 false L 1 (map nD W)] 152 false] R (ok _ _ wr wr)) (λ p10 p10f=>.E 12 (decide (((a:Int)+b)/2<(a+b)/2+m-st)) vW<|.B 6 (((a:Int)+b)/2+m-st<b) (λ p11 p11f=>.s 6<|.call 197 true [0,1] (true) wr ([VJ 0 0 0 N 1,zI (((a:Int)+b)/2),zI (((a:Int)+b)/2+m-st),zN b,XG (WG 175) [] [V7 1 1 0]]) _ (cQ.refl _) (ae (map nD X1)&&true) (by(simp;done)) _ _ _ (V0 (ao.of Tryz.func197 rfl rfl) (@SmE.tp (W) (L) (N) (X) (X1) (X2) (T) (a) (m) (b) (mid) (q) (st) (en) (s0) (r0) aO om om (X1) (((a:Int)+b)/2) (((a:Int)+b)/2+m-st) ((b:Int)) (by(exact hE.s0' om)) om om om))<|.out [0,1] [0,1] (WL []) [VF (map nD T) 3 true,VF [V3 false L 1 (map nD W)] 152 false] R (ok _ _ wr wr)) (λ p11 p11f=>.out [0,1] [0,1] (WL []) [VF (map nD X1) 3 true,VF [V3 false L 1 (map nD W)] 152 false] R (ok _ _ wr (by(rw[hE.s0' om,hE.t0' om])))))) (λ p9 p9f=>.E 12 (decide ((a:Int)<st)) vW<|.B 6 ((st:Int)<(a+b)/2) (λ p12 p12f=>.s 6<|.call 197 true [0,1] (true) wr ([VJ 0 0 0 N 1,zN a,zN st,zI (((a:Int)+b)/2),XG (WG 175) [] [V7 1 1 0]]) _ (cQ.refl _) (ae (map nD X)&&true) (by(simp;done)) _ _ _ (V0 (ao.of Tryz.func197 rfl rfl) (@SmE.sp (W) (L) (N) (X) (X1) (X2) (T) (a) (m) (b) (mid) (q) (st) (en) (s0) (r0) aO om om (X) ((a:Int)) ((st:Int)) (((a:Int)+b)/2) (by(exact hE.r0' om)) om om om))<|.F 6 (decide (((a:Int)+b)/2<(a+b)/2+m-st)) ru<|.U 6 [0,1] [0,1] (WL []) [VF (map nD X2) 3 true,VF [V3 false L 1 (map nD W)] 152 false] R (ok _ _ wr (by(rw[hE.t0' om])))) (λ p12 p12f=>.F 6 (decide (((a:Int)+b)/2<(a+b)/2+m-st)) ru<|.U 6 [0,1] [0,1] (WL []) [VF (map nD X) 3 true,VF [V3 false L 1 (map nD W)] 152 false] R (ok _ _ wr (by(rw[hE.r0' om,hE.s0' om,hE.t0' om]))))))))) kr
theorem kH {X:List Nat}{i j:Nat}(hi:i<X.length)(hj:j<X.length):(swp X i j).Perm X:=by
 rw[List.perm_iff_count];intro c;have e1:X.getD i lh=X[i]:=by rw[VH,VG hi];rfl
 have e2:X.getD j lh=X[j]:=by rw[VH,VG hj];rfl
 rw[oq,e1,e2,List.count_set (by rw[Xz];exact hj),List.count_set hi,List.getElem_set];have h1:(X[i]==c)=true->1<=X.count c:=λ q=>by
  rw[List.one_le_count_iff,<-eq_of_beq q];exact WE hi
 have h3:(if i=j then X[j]else X[j])=X[j]:=by split<;>rfl
 rw[h3]
 cases q1:(X[i]==c)<;>cases q2:(X[j]==c)<;>simp <;>(try have:=h1 q1)<;>omega
theorem kI {X:List Nat}{a b:Nat}:∀k,a+k<=X.length->b+k<=X.length->(eW X a b k).Perm X
 |0,_,_=>by rw[BC]
 |k+1,h1,h2=>by
  rw[<-BD];exact(kH (by rw[co];omega) (by rw[co];omega)).trans (kI k om om)
theorem lx {m:Nat}:∀(f i j:Nat) (X:List Nat),1<=i->1<=j->i<=m->m+j<=X.length->i+j<=f->(gu m f i j X).Perm X
 |0,i,j,X,h1,h2,h3,h4,h5=>by omega
 |f+1,i,j,X,h1,h2,h3,h4,h5=>by
  rw[gu];split
  ·exact kI i om om
  ·split
   ·exact(lx f (i-j) j _ om h2 om (by rw[co];omega) om).trans (kI j om om)
   ·exact(lx f i (j-i) _ h1 om h3 (by rw[co];omega) om).trans (kI i om om)
theorem zF {X:List Nat}{a m b:Nat}(h1:a<m)(h2:m<b)(h3:b<=X.length):(vY X a m b).Perm X:=by
 rw[na];exact lx _ _ _ _ om om om om om
theorem tW {W:List Nat}{a:Nat}:∀(j:Nat) (X:List Nat),j<X.length->(inI W a j X).Perm X
 |0,_,_=>X7 _
 |j+1,X,h=>by
  rw[inI];split
  ·exact(tW j _ (by rw[fw];omega)).trans (kH h om)
  ·exact X7 _
theorem iY {W X:List Nat}{a:Nat}:∀(k:Nat),a+k<X.length∨k=0->(inQ W X a k).Perm X
 |0,_=>by rw[xy]
 |k+1,h=>by
  rw[<-xz];exact(tW _ _ (by rw[kG];omega)).trans (iY k om)
theorem tX {X:List Nat}{a:Nat}:∀(k:Nat),a+k<X.length∨k=0->(iH X a k).Perm X
 |0,_=>by rw[BH]
 |k+1,h=>by
  rw[<-BJ];exact(kH (by rw[eQ];omega) (by rw[eQ];omega)).trans (tX k om)
theorem tY {X:List Nat}{m:Nat}(hm:m<X.length):∀(k:Nat),(iI X m k).Perm X
 |0=>by rw[BI]
 |k+1=>by
  rw[<-BK];exact(kH (by rw[eS];omega) (by rw[eS];omega)).trans (tY hm k)
theorem bP.perm {L:Nat}{X Y:List Nat}(h:bP L X)(hp:Y.Perm X):bP L Y:=λ x hx=>h x (hp.mem_iff.1 hx)
def jC (a m b:Nat):Nat:=if(a+b)/2<m then(a+b)/2+m-b else a
def iZ (a m b:Nat):Nat:=if(a+b)/2<m then(a+b)/2 else m
def eg (W X:List Nat)(a m b:Nat):Nat:=gT (qC W X ((a+b)/2+m-1)) (iZ a m b-jC a m b) (jC a m b) (iZ a m b)
def dD (X:List Nat)(m st en:Nat):List Nat:=if st<m∧m<en then vY X st m en else X
def i4 (W:List Nat):Nat->List Nat->Nat->Nat->Nat->List Nat
 |0,X,_,_,_=>X
 |f+1,X,a,m,b=>
  if m=a+1 then iH X a (gT (qA W X a) (b-m) m b-1-a)
  else if b=m+1 then iI X m (m-gT (qB W X m) (m-a) a m)
  else
   (λ st=>(λ en=>(λ X1=>(λ X2=>if(a+b)/2<en∧en<b then i4 W f X2 ((a+b)/2) en b else X2)
    (if a<st∧st<(a+b)/2 then i4 W f X1 a st ((a+b)/2)else X1)) (dD X m st en)) ((a+b)/2+m-st)) (eg W X a m b)
theorem vZ {a m b:Nat}(h1:a<m)(h2:m<b):jC a m b<=iZ a m b∧iZ a m b<=m∧a<=jC a m b∧(a+b)/2+m<=jC a m b+b:=by
 unfold jC iZ;split<;>omega
theorem qj {X:List Nat}{m st en:Nat}(h:en<=X.length):(dD X m st en).Perm X:=by
 unfold dD;split
 ·next q=>exact zF q.1 q.2 h
 ·exact X7 _
theorem fN {W:List Nat}:∀(f:Nat) (X:List Nat) (a m b:Nat),a<m->m<b->b<=X.length->(i4 W f X a m b).Perm X
 |0,_,_,_,_,_,_,_=>X7 _
 |f+1,X,a,m,b,h1,h2,h3=>by
  rw[i4]
  split
  ·have:=ou (p:=qA W X a) (b-m) m b om
   exact tX _ om
  ·split
   ·exact tY om _
   ·have hs:=vZ h1 h2
    have hi:=ou (p:=qC W X ((a+b)/2+m-1)) (iZ a m b-jC a m b) (jC a m b) (iZ a m b) hs.1;show List.Perm (if(a+b)/2<(a+b)/2+m-eg W X a m b∧_ then _ else _) X;generalize hst:eg W X a m b=st at *;have hst2:jC a m b<=st∧st<=iZ a m b:=by rw[<-hst];exact hi
    have q1:(dD X m st ((a+b)/2+m-st)).Perm X:=qj om;have l1:=q1.length_eq;have q2:(if a<st∧st<(a+b)/2 then i4 W f (dD X m st ((a+b)/2+m-st)) a st ((a+b)/2)else dD X m st ((a+b)/2+m-st)).Perm X:=by
     split
     ·next q=>exact(fN f _ _ _ _ q.1 q.2 om).trans q1
     ·exact q1
    have l2:=q2.length_eq;generalize(if a<st∧st<(a+b)/2 then i4 W f (dD X m st ((a+b)/2+m-st)) a st ((a+b)/2)else dD X m st ((a+b)/2+m-st))=X2 at *
    split
    ·next q=>exact(fN f _ _ _ _ q.1 q.2 om).trans q2
    ·exact q2
theorem Kc (X:List Nat)(N:Nat)(hN:N=X.length)(hN2:N<=1000)(W:List Nat)(L:Nat)(hL:L=W.length){a m b:Nat}(h1:a<m)(h2:m<b)(h3:b<=N):RtH W L N X a m b (vY X a m b):=⟨λ Y x y z hY hx hy hz=>by
 subst hY hx hy hz;exact On Y N hN hN2 W L hL a m b h1 h2 h3 _ rfl⟩
theorem xE (W:List Nat)(L:Nat)(hL:L=W.length)(N:Nat)(hN2:N<=1000):∀(f:Nat) (X:List Nat),N=X.length->bP L X->∀(a m b:Nat),a<m->m<b->b<=N->b-a<=f->S1 197 [.ref 0 0 0 N 1,nD a,nD m,nD b,.fn (.func 175) [] [.ptr 1 1 0]] [⟨X.map nD, 3,true⟩,⟨[.sl false L 1 (W.map nD)], 152,false⟩] (.tup []) [⟨(i4 W f X a m b).map nD, 3,true⟩,⟨[.sl false L 1 (W.map nD)], 152,false⟩]
 |0,X,hN,hA,a,m,b,h1,h2,h3,hf=>by omega
 |f+1,X,hN,hA,a,m,b,h1,h2,h3,hf=>by
  rw[i4]
  by_cases c1:m=a+1
  ·rw[ZF c1]
   exact Td X N hN hN2 W L hL hA a m b h1 h2 h3 c1 _ rfl (ou _ _ _ om)
  ·rw[ZE c1]
   by_cases c2:b=m+1
   ·rw[ZF c2]
    exact Te X N hN hN2 W L hL hA a m b h1 h2 h3 c1 c2 _ rfl (ou _ _ _ om)
   ·rw[ZE c2]
    have hs:=vZ h1 h2;have hi:jC a m b<=eg W X a m b∧eg W X a m b<=iZ a m b:=ou _ _ _ hs.1;have q1:(dD X m (eg W X a m b) ((a+b)/2+m-eg W X a m b)).Perm X:=qj om;refine Tf X N hN hN2 W L hL hA a m b h1 h2 h3 c1 c2 (dD X m (eg W X a m b) ((a+b)/2+m-eg W X a m b)) (if a<eg W X a m b∧eg W X a m b<(a+b)/2 then i4 W f (dD X m (eg W X a m b) ((a+b)/2+m-eg W X a m b)) a (eg W X a m b) ((a+b)/2)else dD X m (eg W X a m b) ((a+b)/2+m-eg W X a m b)) _ ((a+b)/2) ((a+b)/2+m) (eg W X a m b) ((a+b)/2+m-eg W X a m b) rfl rfl (jC a m b) (iZ a m b) ⟨hs.1,hs.2.1,hs.2.2.1,hs.2.2.2⟩ rfl hi rfl ?_;have q2:(if a<eg W X a m b∧eg W X a m b<(a+b)/2 then i4 W f (dD X m (eg W X a m b) ((a+b)/2+m-eg W X a m b)) a (eg W X a m b) ((a+b)/2)else dD X m (eg W X a m b) ((a+b)/2+m-eg W X a m b)).Perm X:=by
     split
     ·next q=>exact(fN f _ _ _ _ q.1 q.2 (by rw[q1.length_eq];omega)).trans q1
     ·exact q1
    have e3:(a+b)/2<m->jC a m b=(a+b)/2+m-b∧iZ a m b=(a+b)/2:=λ q=>⟨ZF q,ZF q⟩
    have e4:m<=(a+b)/2->jC a m b=a∧iZ a m b=m:=λ q=>⟨ZE om,ZE om⟩
    generalize eg W X a m b=st at *;generalize jC a m b=s0 at *;generalize iZ a m b=r0 at *;refine⟨λ a1 a2=>?_,λ a1=>?_,λ a1 a2=>?_,λ a1=>?_,λ a1 a2=>?_,λ a1=>?_,e3,e4⟩
    ·unfold dD;rw[ZF ⟨a1,a2⟩];exact Kc X N hN hN2 W L hL a1 a2 om
    ·unfold dD;rw[ZE (λ q=>a1 q.1 q.2)]
    ·rw[ZF ⟨a1,a2⟩]
     refine⟨λ Y x y z hY hx hy hz=>?_⟩;subst hY hx hy hz;exact xE W L hL N hN2 f _ (by rw[q1.length_eq];exact hN) (hA.perm q1) _ _ _ a1 a2 om om
    ·rw[ZE (λ q=>a1 q.1 q.2)]
    ·dsimp only
     generalize(if a<st∧st<(a+b)/2 then i4 W f (dD X m st ((a+b)/2+m-st)) a st ((a+b)/2)else dD X m st ((a+b)/2+m-st))=X2 at *;rw[ZF ⟨a1,a2⟩];refine⟨λ Y x y z hY hx hy hz=>?_⟩;subst hY hx hy hz;exact xE W L hL N hN2 f _ (by rw[q2.length_eq];exact hN) (hA.perm q2) _ _ _ a1 a2 om om
    ·dsimp only
     generalize(if a<st∧st<(a+b)/2 then i4 W f (dD X m st ((a+b)/2+m-st)) a st ((a+b)/2)else dD X m st ((a+b)/2+m-st))=X2 at *;rw[ZE (λ q=>a1 q.1 q.2)]
def xF (W:List Nat)(n:Nat):Nat->Nat->List Nat->List Nat
 |0,a,Y=>inQ W Y a (n-(a+1))
 |f+1,a,Y=>if a+20<=n then xF W n f (a+20) (inQ W Y a 19)else inQ W Y a (n-(a+1))
theorem Tg {W:List Nat}{n f a:Nat}{Y T:List Nat}(hR:xF W n f a Y=T)(hf:n-a<=f)(h:a+20<=n):xF W n (f-1) (a+20) (inQ W Y a (a+20-(a+1)))=T:=by
 obtain⟨g,rfl⟩:∃g,f=g+1:=⟨f-1,by omega⟩
 rw[<-hR,show a+20-(a+1)=19 from by omega];exact(ZF h).symm
theorem Th {W:List Nat}{n f a:Nat}{Y T:List Nat}(hR:xF W n f a Y=T)(h:¬a+20<=n):inQ W Y a (n-(a+1))=T:=by
 rw[<-hR];cases f with
 |zero=>rfl
 |succ f=>exact(ZE h).symm
def pq (W:List Nat)(z n:Nat):Nat->Nat->List Nat->List Nat
 |0,a,Y=>if a+z<n then i4 W (2*z) Y a (a+z) n else Y
 |f+1,a,Y=>if a+2*z<=n then pq W z n f (a+2*z) (i4 W (2*z) Y a (a+z) (a+2*z))else if a+z<n then i4 W (2*z) Y a (a+z) n else Y
theorem Ti {W:List Nat}{z n f a:Nat}{Y T:List Nat}(hR:pq W z n f a Y=T)(hf:n-a<=f)(hz:0<z)(h:a+2*z<=n):pq W z n (f-1) (a+2*z) (i4 W (2*z) Y a (a+z) (a+2*z))=T:=by
 obtain⟨g,rfl⟩:∃g,f=g+1:=⟨f-1,by omega⟩
 rw[<-hR];exact(ZF h).symm
theorem Tj {W:List Nat}{z n f a:Nat}{Y T:List Nat}(hR:pq W z n f a Y=T)(h:¬a+2*z<=n):(if a+z<n then i4 W (2*z) Y a (a+z) n else Y)=T:=by
 rw[<-hR];cases f with
 |zero=>rfl
 |succ f=>exact(ZE h).symm
def xG (W:List Nat)(n:Nat):Nat->Nat->List Nat->List Nat
 |0,_,Y=>Y
 |f+1,z,Y=>if z<n then xG W n f (2*z) (pq W z n n 0 Y)else Y
theorem Ov {W:List Nat}{z n f:Nat}{Y T:List Nat}(hR:xG W n f z Y=T)(hf:n-z<=f)(h:z<n):xG W n (f-1) (2*z) (pq W z n n 0 Y)=T:=by
 obtain⟨g,rfl⟩:∃g,f=g+1:=⟨f-1,by omega⟩
 rw[<-hR];exact(ZF h).symm
theorem Tk {W:List Nat}{z n f:Nat}{Y T:List Nat}(hR:xG W n f z Y=T)(h:¬z<n):Y=T:=by
 rw[<-hR];cases f with
 |zero=>rfl
 |succ f=>exact(ZE h).symm
def RH (W X:List Nat):List Nat:=xG W X.length X.length 20 (xF W X.length X.length 0 X)
theorem kJ {W:List Nat}{n:Nat}:∀(f a:Nat) (Y:List Nat),n=Y.length->a<=n->(xF W n f a Y).Perm Y
 |0,a,Y,hn,ha=>iY _ om
 |f+1,a,Y,hn,ha=>by
  rw[xF];split
  ·have q:(inQ W Y a 19).Perm Y:=iY _ om
   exact(kJ f _ _ (by rw[q.length_eq];exact hn) om).trans q
  ·exact iY _ om
theorem i5 {W:List Nat}{z n:Nat}(hz:0<z):∀(f a:Nat) (Y:List Nat),n=Y.length->(pq W z n f a Y).Perm Y
 |0,a,Y,hn=>by
  rw[pq];split
  ·exact fN _ _ _ _ _ om om om
  ·exact X7 _
 |f+1,a,Y,hn=>by
  rw[pq];split
  ·have q:(i4 W (2*z) Y a (a+z) (a+2*z)).Perm Y:=fN _ _ _ _ _ om om om
   exact(i5 hz f _ _ (by rw[q.length_eq];exact hn)).trans q
  ·split
   ·exact fN _ _ _ _ _ om om om
   ·exact X7 _
theorem tZ {W:List Nat}{n:Nat}:∀(f z:Nat) (Y:List Nat),0<z->n=Y.length->(xG W n f z Y).Perm Y
 |0,z,Y,hz,hn=>X7 _
 |f+1,z,Y,hz,hn=>by
  rw[xG];split
  ·have q:=i5 (W:=W) hz n 0 Y hn
   exact(tZ f _ _ om (by rw[q.length_eq];exact hn)).trans q
  ·exact X7 _
theorem t0 (W X:List Nat):(RH W X).Perm X:=by
 have q:=kJ (W:=W) X.length 0 X rfl (Wy _);exact(tZ _ _ _ (by decide) q.length_eq.symm).trans q
structure Ord (L N:Nat)(Y:List Nat):Prop where
 n:N=Y.length
 a:bP L Y
theorem Ord.perm {L N:Nat}{X Y:List Nat}(h:Ord L N X)(q:Y.Perm X):Ord L N Y:=⟨by rw[q.length_eq];exact h.n,h.a.perm q⟩
theorem Ord.in {L N:Nat}{W Y:List Nat}{a b:Nat}(h:Ord L N Y)(hb:b<=N):Ord L N (inQ W Y a (b-(a+1))):=h.perm (iY _ (by have:=h.n;omega))
theorem Ord.sm {L N:Nat}{W Y:List Nat}{f a m b:Nat}(h:Ord L N Y)(h1:a<m)(h2:m<b)(hb:b<=N):Ord L N (i4 W f Y a m b):=h.perm (fN _ _ _ _ _ h1 h2 (by have:=h.n;omega))
theorem HV (Y:List Nat)(N:Nat)(hN2:N<=1000)(W:List Nat)(L:Nat)(hL:L=W.length)(hO:Ord L N Y)(a b:Nat)(h1:a<=b)(h3:b<=N):S1 196 [.ref 0 0 0 N 1,nD a,nD b,.fn (.func 175) [] [.ptr 1 1 0]] [⟨Y.map nD, 3,true⟩,⟨[.sl false L 1 (W.map nD)], 152,false⟩] (.tup []) [⟨(inQ W Y a (b-(a+1))).map nD, 3,true⟩,⟨[.sl false L 1 (W.map nD)], 152,false⟩]:=Oo Y N hO.n hN2 W L hL hO.a a b h1 h3 _ rfl
theorem Ow (Y:List Nat)(N:Nat)(hN2:N<=1000)(W:List Nat)(L:Nat)(hL:L=W.length)(hO:Ord L N Y)(z a:Nat)(hz:0<z)(h3:a+2*z<=N):S1 197 [.ref 0 0 0 N 1,nD a,iD ((a:Int)+z),nD (a+2*z),.fn (.func 175) [] [.ptr 1 1 0]] [⟨Y.map nD, 3,true⟩,⟨[.sl false L 1 (W.map nD)], 152,false⟩] (.tup []) [⟨(i4 W (2*z) Y a (a+z) (a+2*z)).map nD, 3,true⟩,⟨[.sl false L 1 (W.map nD)], 152,false⟩]:=
 xE W L hL N hN2 (2*z) Y hO.n hO.a a (a+z) (a+2*z) om om h3 om
theorem Ox (Y:List Nat)(N:Nat)(hN2:N<=1000)(W:List Nat)(L:Nat)(hL:L=W.length)(hO:Ord L N Y)(z a:Nat)(hz:0<z)(h:a+z<N)(h3:N<a+2*z):S1 197 [.ref 0 0 0 N 1,nD a,iD ((a:Int)+z),nD N,.fn (.func 175) [] [.ptr 1 1 0]] [⟨Y.map nD, 3,true⟩,⟨[.sl false L 1 (W.map nD)], 152,false⟩] (.tup []) [⟨(i4 W (2*z) Y a (a+z) N).map nD, 3,true⟩,⟨[.sl false L 1 (W.map nD)], 152,false⟩]:=
 xE W L hL N hN2 (2*z) Y hO.n hO.a a (a+z) N om h (VT _) om
theorem Oy (X:List Nat)(N:Nat)(hN2:N<=1000)(W:List Nat)(L:Nat)(hL:L=W.length)(hO:Ord L N X)(T1 T:List Nat)(hT1:xF W N N 0 X=T1)(hO1:Ord L N T1)(hT:xG W N N 20 T1=T):S1 190 [.ref 0 0 0 N 1,nD N,.fn (.func 175) [] [.ptr 1 1 0]] [⟨X.map nD, 3,true⟩,⟨[.sl false L 1 (W.map nD)], 152,false⟩] (.tup []) [⟨T.map nD, 3,true⟩,⟨[.sl false L 1 (W.map nD)], 152,false⟩]:=SpR Tryz.func190 rfl rfl rfl ⟨oa _,rfl,trivial⟩ rfl 1000 64 (λ R ok=>.s 4<|Hn.inl T_ok ah false 63 2 (aq Tryz.prog 190 0) (λ(x:(a:Nat)×'(Y:List Nat)×'(f:Nat)×'(ha:a<=N)×'(hQ:Ord L N Y)×'(hf:N-a<=f)×'(hR:xF W N f a Y=T1)×'Unit)=>match x with|⟨a,Y,f,ha,hQ,hf,hR,_⟩=>VZ [(0,VJ 0 0 0 N 1),(1,zN N),(2,XG (WG 175) [] [V7 1 1 0]),(6,zI 20),(7,nD a),(8,nD (a+20))] [⟨0,0,0,0,.b ⟨Y.map nD,3,true⟩⟩,⟨1,1,1,1,.b ⟨[V3 false L 1 (map nD W)],152,false⟩⟩] 24) (λ(x:(a:Nat)×'(Y:List Nat)×'(f:Nat)×'(ha:a<=N)×'(hQ:Ord L N Y)×'(hf:N-a<=f)×'(hR:xF W N f a Y=T1)×'Unit)=>match x with|⟨a,Y,f,ha,hQ,hf,hR,_⟩=>N-a) [⟨(a2:Nat)×'(Y2:List Nat)×'(ha2:a2<=N)×'(hQ2:Ord L N Y2)×'(hR2:inQ W Y2 a2 (N-(a2+1))=T1)×'Unit,.exit 0,λ x=>match x with|⟨a2,Y2,ha2,hQ2,hR2,_⟩=>VZ [(0,VJ 0 0 0 N 1),(1,zN N),(2,XG (WG 175) [] [V7 1 1 0]),(6,zI 20),(7,nD a2),(8,nD (a2+20))] [⟨0,0,0,0,.b ⟨Y2.map nD,3,true⟩⟩,⟨1,1,1,1,.b ⟨[V3 false L 1 (map nD W)],152,false⟩⟩] 24⟩] 1000 64 (fun|⟨a,Y,f,ha,hQ,hf,hR,_⟩,Q,ZB,ZD=>.B 4 ((↑(a+20):Int)<=(N:Int)) (λ p0 Z9=>.s 5<|.call 196 true [0,1] (true) wr ([VJ 0 0 0 N 1,zN a,zN (a+20),XG (WG 175) [] [V7 1 1 0]]) _ (cQ.refl _) (ae (map nD Y)&&true) (by(simp;done)) _ _ _ (V0 (ao.of Tryz.func196 rfl rfl) (@HV (Y) (N) om (W) (L) om om (a) (a+20) om om))<|.W 6 ((↑(a+20):Int)+20)<|.V 1 8 (zI ((↑(a+20):Int)+20)) (zN (a+20+20)) D9<|Hn.next ZB ⟨(a+20),(inQ W Y a (a+20-(a+1))),(f-1),om,(by(exact hQ.in (by(omega)))),om,(by(exact Tg hR om om)),⟨⟩⟩ (by show N-(a+20)<N-a;clear ZB ZD;omega) [(0,0),(1,1)] ro) (λ p0 Z9=>(Hn.last ZD 0 (⟨(a),(Y),om,om,(by(exact Th hR om)),⟨⟩⟩:(a2:Nat)×'(Y2:List Nat)×'(ha2:a2<=N)×'(hQ2:Ord L N Y2)×'(hR2:inQ W Y2 a2 (N-(a2+1))=T1)×'Unit) rfl [(0,0),(1,1)] ro))) (fun|⟨a,Y,f,ha,hQ,hf,hR,_⟩=>by kernel_rfl) ⟨(0),(X),(N),om,om,om,om,⟨⟩⟩ [(0,0),(1,1)] ro (bM (fun|⟨a2,Y2,ha2,hQ2,hR2,_⟩=>.s 5<|.call 196 true [0,1] (true) wr ([VJ 0 0 0 N 1,zN a2,zN N,XG (WG 175) [] [V7 1 1 0]]) _ (cQ.refl _) (ae (map nD Y2)&&true) (by(simp;done)) _ _ _ (V0 (ao.of Tryz.func196 rfl rfl) (@HV (Y2) (N) om (W) (L) om om (a2) (N) om om))<|.blk 0 0 (VF (map nD (inQ W Y2 a2 (N-(a2+1)))) 3 true) (VF (map nD T1) 3 true) (by(rw[hR2]))<|Hn.inl T_ok ah false 63 2 (aq Tryz.prog 190 1) (λ(x:(z:Nat)×'(Z:List Nat)×'(f:Nat)×'(hz:20<=z∧z<=2000)×'(hQ:Ord L N Z)×'(hf:N-z<=f)×'(hR:xG W N f z Z=T)×'Unit)=>match x with|⟨z,Z,f,hz,hQ,hf,hR,_⟩=>VZ [(0,VJ 0 0 0 N 1),(1,zN N),(2,XG (WG 175) [] [V7 1 1 0]),(6,nD z)] [⟨0,0,0,0,.b ⟨Z.map nD,3,true⟩⟩,⟨1,1,1,1,.b ⟨[V3 false L 1 (map nD W)],152,false⟩⟩] 24) (λ(x:(z:Nat)×'(Z:List Nat)×'(f:Nat)×'(hz:20<=z∧z<=2000)×'(hQ:Ord L N Z)×'(hf:N-z<=f)×'(hR:xG W N f z Z=T)×'Unit)=>match x with|⟨z,Z,f,hz,hQ,hf,hR,_⟩=>N-z) [⟨Unit,.exit 2,λ x=>match x with|()=>VZ [(0,VJ 0 0 0 N 1),(1,zN N),(2,XG (WG 175) [] [V7 1 1 0])] [⟨0,0,0,0,.b ⟨T.map nD,3,true⟩⟩,⟨1,1,1,1,.b ⟨[V3 false L 1 (map nD W)],152,false⟩⟩] 24⟩] 1000 64 (fun|⟨z,Z,f,hz,hQ,hf,hR,_⟩,Q,ZB,ZD=>.B 4 ((z:Int)<N) (λ p1 Z8=>.W 3 (2*(z:Int))<|.V 2 8 (zI (2*(z:Int))) (zN (0+2*z)) D9<|Hn.inl T_ok ah false 63 2 (aq Tryz.prog 190 2) (λ(x:(a:Nat)×'(Y:List Nat)×'(g:Nat)×'(ha:a<=N)×'(hQ:Ord L N Y)×'(hf:N-a<=g)×'(hR:pq W z N g a Y=pq W z N N 0 Z)×'Unit)=>match x with|⟨a,Y,g,ha,hQ,hf,hR,_⟩=>VZ [(0,VJ 0 0 0 N 1),(1,zN N),(2,XG (WG 175) [] [V7 1 1 0]),(6,zN z),(7,nD a),(8,nD (a+2*z))] [⟨0,0,0,0,.b ⟨Y.map nD,3,true⟩⟩,⟨1,1,1,1,.b ⟨[V3 false L 1 (map nD W)],152,false⟩⟩] 24) (λ(x:(a:Nat)×'(Y:List Nat)×'(g:Nat)×'(ha:a<=N)×'(hQ:Ord L N Y)×'(hf:N-a<=g)×'(hR:pq W z N g a Y=pq W z N N 0 Z)×'Unit)=>match x with|⟨a,Y,g,ha,hQ,hf,hR,_⟩=>N-a) [⟨(a3:Nat)×'(Y3:List Nat)×'(ha3:a3<=N∧N<a3+2*z)×'(hQ3:Ord L N Y3)×'(hR3:(if a3+z<N then i4 W (2*z) Y3 a3 (a3+z) N else Y3)=pq W z N N 0 Z)×'Unit,.exit 4,λ x=>match x with|⟨a3,Y3,ha3,hQ3,hR3,_⟩=>VZ [(0,VJ 0 0 0 N 1),(1,zN N),(2,XG (WG 175) [] [V7 1 1 0]),(6,zN z),(7,nD a3),(8,nD (a3+2*z))] [⟨0,0,0,0,.b ⟨Y3.map nD,3,true⟩⟩,⟨1,1,1,1,.b ⟨[V3 false L 1 (map nD W)],152,false⟩⟩] 24⟩] 1000 64 (fun|⟨a,Y,g,ha,hQ,hf,hR,_⟩,Q,ZA,ZC=>.B 4 ((↑(a+2*z):Int)<=(N:Int)) (λ p2 Z7=>.W 6 (a+z)<|.s 3<|.call 197 true [0,1] (true) wr ([VJ 0 0 0 N 1,zN a,zI (a+z),zN (a+2*z),XG (WG 175) [] [V7 1 1 0]]) _ (cQ.refl _) (ae (map nD Y)&&true) (by(simp;done)) _ _ _ (V0 (ao.of Tryz.func197 rfl rfl) (@Ow (Y) (N) om (W) (L) om om (z) (a) om om))<|.W 6 (2*(z:Int))<|.W 2 ((↑(a+2*z):Int)+2*(z:Int))<|.V 1 8 (zI ((↑(a+2*z):Int)+2*(z:Int))) (zN (a+2*z+2*z)) D9<|Hn.next ZA ⟨(a+2*z),(i4 W (2*z) Y a (a+z) (a+2*z)),(g-1),om,(by(exact hQ.sm (by(omega)) (by(omega)) (by(omega)))),om,(by(exact Ti hR om om om)),⟨⟩⟩ (by show N-(a+2*z)<N-a;clear ZA ZC ZB ZD;omega) [(0,0),(1,1)] ro) (λ p2 Z7=>(Hn.last ZC 0 (⟨(a),(Y),om,om,(by(exact Tj hR om)),⟨⟩⟩:(a3:Nat)×'(Y3:List Nat)×'(ha3:a3<=N∧N<a3+2*z)×'(hQ3:Ord L N Y3)×'(hR3:(if a3+z<N then i4 W (2*z) Y3 a3 (a3+z) N else Y3)=pq W z N N 0 Z)×'Unit) rfl [(0,0),(1,1)] ro))) (fun|⟨a,Y,g,ha,hQ,hf,hR,_⟩=>by kernel_rfl) ⟨(0),(Z),(N),om,om,om,wr,⟨⟩⟩ [(0,0),(1,1)] ro (bM (fun|⟨a3,Y3,ha3,hQ3,hR3,_⟩=>.W 4 (a3+z)<|.B 5 ((a3:Int)+z<N) (λ p3 Z6=>.s 6<|.call 197 true [0,1] (true) wr ([VJ 0 0 0 N 1,zN a3,zI (a3+z),zN N,XG (WG 175) [] [V7 1 1 0]]) _ (cQ.refl _) (ae (map nD Y3)&&true) (by(simp;done)) _ _ _ (V0 (ao.of Tryz.func197 rfl rfl) (@Ox (Y3) (N) om (W) (L) om om (z) (a3) om om om))<|.W 3 (z*2)<|.V 1 6 (zI (z*2)) (zN (2*z)) D9<|.blk 0 0 (VF (map nD (i4 W (2*z) Y3 a3 (a3+z) N)) 3 true) (VF (map nD (pq W z N N 0 Z)) 3 true) (by(rw[ZF om]at hR3;rw[hR3]))<|Hn.next ZB ⟨(2*z),(pq W z N N 0 Z),(f-1),om,(by(exact hQ.perm (i5 om _ _ _ hQ.n))),om,(by(exact Ov hR om om)),⟨⟩⟩ (by show N-2*z<N-z;clear ZB ZD;omega) [(0,0),(1,1)] ro) (λ p3 Z6=>.W 3 (z*2)<|.V 1 6 (zI (z*2)) (zN (2*z)) D9<|.blk 0 0 (VF (map nD Y3) 3 true) (VF (map nD (pq W z N N 0 Z)) 3 true) (by(rw[ZE om]at hR3;rw[hR3]))<|Hn.next ZB ⟨(2*z),(pq W z N N 0 Z),(f-1),om,(by(exact hQ.perm (i5 om _ _ _ hQ.n))),om,(by(exact Ov hR om om)),⟨⟩⟩ (by show N-2*z<N-z;clear ZB ZD;omega) [(0,0),(1,1)] ro)))) (λ p1 Z8=>.blk 0 0 (VF (map nD Z) 3 true) (VF (map nD T) 3 true) (by(rw[Tk hR om]))<|Hn.last ZD 0 (():Unit) rfl [(0,0),(1,1)] ro)) (fun|⟨z,Z,f,hz,hQ,hf,hR,_⟩=>by kernel_rfl) ⟨(20),(T1),(N),om,om,om,om,⟨⟩⟩ [(0,0),(1,1)] ro (bM (fun|()=>.out [0,1] [0,1] (WL []) [VF (map nD T) 3 true,VF [V3 false L 1 (map nD W)] 152 false] R (ok _ _ wr wr)))))) kr
theorem BM {p:Prop}(h:p:=by(simp only[bj (k:=2) (λ(x:Pc)=>(rfl:(dt x).length=2)),WK,V8,Wf];refine VL ?_;(omega))):p:=h
theorem BN {p:Prop}(h:p:=by(rw[VI];rfl)):p:=h
theorem BO {p:Prop}(h:p:=by(rw[VI];simp only[Wv];(omega))):p:=h
theorem Fi {p:Prop}(h:p:=by(have q:=@Tz row i;refine aG ?_;omega)):p:=h
def eZ (W:List Nat)(k:Nat):List Nat:=lk W ((WP k).filter λ i=>decide (0<W.getD i lh))
theorem fO (W:List Nat)(k:Nat):eZ W k=(WP k).filter λ i=>decide (0<W.getD i lh):=aP _ _
theorem BP (W:List Nat):eZ W 0=[]:=fO W 0
theorem BQ {W:List Nat}{k:Nat}(h:0<W.getD (k*1) lh):eZ W (k+1)=eZ W k++[k]:=by
 rw[V5]at h;rw[fO,fO,Yv,Xo,XX (by simpa using h)];rfl
theorem BR {W:List Nat}{k:Nat}(h:¬0<W.getD (k*1) lh):eZ W (k+1)=eZ W k:=by
 rw[V5]at h;rw[fO,fO,Yv,Xo,XY (by simpa using h),List.filter_nil,WN]
theorem j6 (W:List Nat)(k:Nat):(eZ W k).length<=k:=by
 rw[fO];exact VR (Yx _ _) (by simp)
theorem ox {W:List Nat}{k:Nat}:bP k (eZ W k):=λ x hx=>by
 rw[fO,List.mem_filter]at hx;exact List.mem_range.1 hx.1
def cM (W:List Nat):List Nat:=lk W (RH W (eZ W W.length))
theorem v5 (W:List Nat):cM W=RH W (eZ W W.length):=aP _ _
theorem dr (W:List Nat):(cM W).Perm (eZ W W.length):=by rw[v5];exact t0 _ _
structure SrE (W:List Nat)(L N:Nat)(X T1 T:List Nat):Prop where
 o:Ord L N X
 t1:xF W N N 0 X=T1
 o1:Ord L N T1
 t:xG W N N 20 T1=T
theorem Kd {W:List Nat}{L N:Nat}(hL:L=W.length){X:List Nat}(hX:X=eZ W L)(hN:N=X.length):∃T1,SrE W L N X T1 (cM W):=by
 subst hX hN hL;have o:Ord W.length (eZ W W.length).length (eZ W W.length):=⟨rfl,ox⟩
 exact⟨_,o,rfl,o.perm (kJ _ _ _ rfl (Wy _)),by rw[v5];rfl⟩
theorem Tm {m:Nat}(h:m<=15):IntKind.i64.wrap (2^min m 64*1)=((2^m:Nat):Int):=by
 have h2:2^m<=2^15:=WF (by decide) h;rw[show min m 64=m from by omega,Int.mul_one,show(2:Int)^m=((2^m:Nat):Int)from by push_cast;rfl];generalize 2^m=Z at *;have q:=fz (x:=((Z:Nat):Int)) om;rw[aE]at q;injection q with q;injection q with q;injection q
structure Pc where
 w:Nat
 p:Bool
 deriving Inhabited
abbrev dt (x:Pc):List D:=[nD x.w,bD x.p]
def ga (ws:List Nat):List Pc:=ws.map λ w=>⟨w,false⟩
def fa (s:Nat):List Nat->List Pc×List Nat
 |[]=>([⟨s,true⟩],[])
 |w::r=>if s<w then([⟨s,true⟩],w::r)else(⟨w,false⟩::(fa s r).1,(fa s r).2)
def fP:List Pc->List Nat->List Pc
 |x::y::r,ws=>(fa (x.w+y.w) ws).1++fP r (fa (x.w+y.w) ws).2
 |_,ws=>ga ws
def Ke (row:List Pc)(ws:List Nat):List Pc:=lk ws (fP row ws)
theorem fQ (row:List Pc)(ws:List Nat):Ke row ws=fP row ws:=aP _ _
theorem To {row:List Pc}{ws:List Nat}{i:Nat}(h:i+1<row.length):fP (row.drop i) ws=(fa ((row.getD i lh).w+(row.getD (i+1) lh).w) ws).1++fP (row.drop (i+2)) (fa ((row.getD i lh).w+(row.getD (i+1) lh).w) ws).2:=by
 rw[Xv (show i<row.length by omega),Xv h,fP];have e1:row[i]=row.getD i lh:=by rw[VH,VG om];rfl
 have e2:row[i+1]=row.getD (i+1) lh:=by rw[VH,VG h];rfl
 rw[e1,e2]
theorem Tp {row:List Pc}{ws:List Nat}{i:Nat}(h:¬i+1<row.length):fP (row.drop i) ws=ga ws:=by
 have:(row.drop i).length<=1:=by rw[Wr];omega
 match hm:row.drop i,this with
 |[],_=>rfl
 |[x],_=>rfl
theorem Tq {s:Nat}{ws:List Nat}{k:Nat}(hk:k<ws.length)(h:s<ws.getD k lh):fa s (ws.drop k)=([⟨s,true⟩],ws.drop k):=by
 have e1:ws[k]=ws.getD k lh:=by rw[VH,VG hk];rfl
 rw[Xv hk,fa,ZF (by rw[e1];exact h)]
theorem Ts {s:Nat}{ws:List Nat}{k:Nat}(hk:k<ws.length)(h:¬s<ws.getD k lh):fa s (ws.drop k)=(⟨ws.getD k lh,false⟩::(fa s (ws.drop (k+1))).1,(fa s (ws.drop (k+1))).2):=by
 have e1:ws[k]=ws.getD k lh:=by rw[VH,VG hk];rfl
 conv=>lhs;rw[Xv hk,fa,ZE (by rw[e1];exact h),e1]
theorem Tt {s:Nat}{ws:List Nat}{k:Nat}(hk:¬k<ws.length):fa s (ws.drop k)=([⟨s,true⟩],[]):=by
 rw[WS om];rfl
section
variable {row o T:List Pc} {ws:List Nat} {i k s x:Nat}
theorem Tu (h:i+1<row.length)(hR:o++fP (row.drop i) (ws.drop k)=T):o++((fa ((row.getD i lh).w+(row.getD (i+1) lh).w) (ws.drop k)).1++fP (row.drop (i+2)) (fa ((row.getD i lh).w+(row.getD (i+1) lh).w) (ws.drop k)).2)=T:=by rw[<-hR,To h]
theorem Tv (hk:k<ws.length)(h:s<ws.getD k lh)(hR:o++((fa s (ws.drop k)).1++fP (row.drop (i+2)) (fa s (ws.drop k)).2)=T):(o++[⟨s,true⟩])++fP (row.drop (i+2)) (ws.drop k)=T:=by
 rw[<-hR,Tq hk h,Wc]
theorem Tw (hk:k<ws.length)(h:¬s<ws.getD k lh)(hR:o++((fa s (ws.drop k)).1++fP (row.drop (i+2)) (fa s (ws.drop k)).2)=T):(o++[⟨ws.getD k lh,false⟩])++((fa s (ws.drop (k+1))).1++fP (row.drop (i+2)) (fa s (ws.drop (k+1))).2)=T:=by
 rw[<-hR,Ts hk h,Wc];rfl
theorem Tx (hk:¬k<ws.length)(hR:o++((fa s (ws.drop k)).1++fP (row.drop (i+2)) (fa s (ws.drop k)).2)=T):(o++[⟨s,true⟩])++fP (row.drop (i+2)) (ws.drop k)=T:=by
 rw[<-hR,Tt hk,show ws.drop k=[]from WS om,Wc]
theorem Ty (h:¬i+1<row.length)(hR:o++fP (row.drop i) (ws.drop k)=T):o++ga (ws.drop k)=T:=by rw[<-hR,Tp h]
theorem Oz (hk:k<ws.length)(hR:o++ga (ws.drop k)=T):(o++[⟨ws.getD k lh,false⟩])++ga (ws.drop (k+1))=T:=by
 have e1:ws[k]=ws.getD k lh:=by rw[VH,VG hk];rfl
 rw[<-hR,Xv hk,Wc,e1];rfl
theorem Fj (hk:¬k<ws.length)(hR:o++ga (ws.drop k)=T):o=T:=by
 rw[<-hR,WS om];exact(WN _).symm
end
theorem Fk (W:List Nat)(L:Nat)(hL:L=W.length)(hL2:L<=320)(hB:∀t,W.getD t lh<=1073741824)(m:Nat)(hm:1<=m∧m<=15)(N:Nat)(hN:N=(eZ W L).length)(X T1:List Nat)(hX:eZ W L=X)(hS:SrE W L N X T1 (cM W))(hNm:N<=2^m)(o:Ord L N X)(t1:xF W N N 0 X=T1)(o1:Ord L N T1)(t:xG W N N 20 T1=cM W):S0 144 [.sl false L 1 (W.map nD),nD m] [] (.tup [.ref 0 0 0 N 1,iD 0]) [⟨(cM W).map nD, 3,true⟩]:=by
 have hP:=Tm hm.2;have hN3:N<=320:=by rw[hN];exact VR (j6 W L) hL2
 refine SpR Tryz.func144 rfl rfl rfl ⟨qY _ (λ _=>rfl) _,trivial⟩ rfl 1000 64 (λ R ok=>.F 9 (decide ((m:Int)<1)) ru<|.F 4 (decide (15<(m:Int))) ru<|.F 6 (decide (320<(L:Int))) ru<|.s 5<|.nils 4 120 1 3<|.val 4 (VJ 120 120 0 0 1) (VJ 120 120 0 (length (eZ W 0)) 1) (by(rw[BP];rfl))<|.blk 120 120 (VF [] 3 true) (VF (map nD (eZ W 0)) 3 true) (by(rw[BP];rfl))<|Hn.inl T_ok ah false 46 0 (aq Tryz.prog 144 0) (λ(x:(k:Nat)×'(hk:k<=L)×'Unit)=>match x with|⟨k,hk,_⟩=>VZ [(1,zN m),(2,V7 0 0 0),(4,(VJ 8 8 (0) ((eZ W k).length) 1)),(17,V3 false L 1 (map nD W)),(18,zN L),(19,nD k)] [⟨0,0,0,0,.b ⟨[V3 false L 1 (map nD W)],152,false⟩⟩,⟨8,8,120,120,.b ⟨(eZ W k).map nD,3,true⟩⟩] 16) (λ(x:(k:Nat)×'(hk:k<=L)×'Unit)=>match x with|⟨k,hk,_⟩=>L-k) [⟨Unit,.exit 0,λ x=>match x with|()=>VZ [(1,zN m),(2,V7 0 0 0),(4,(VJ 8 8 (0) (N) 1)),(17,V3 false L 1 (map nD W)),(18,zN L)] [⟨0,0,0,0,.b ⟨[V3 false L 1 (map nD W)],152,false⟩⟩,⟨8,8,120,120,.b ⟨X.map nD,3,true⟩⟩] 16⟩] 1000 64 (fun|⟨k,hk,_⟩,Q,ZB,ZD=>.B 2 ((k:Int)<L) (λ p0 Z9=>.K 2 (true&&decide ((k:Int)<L)&&true) JO<|.O 2 ((map nD W)[k*1]?) (nD (getD W (k*1) lh)) (am _ _ om)<|.F 12 (decide (1073741824<(↑(getD W (k*1) lh):Int))) (by(refine decide_eq_false ?_;have h9:=hB (k*1);have h8:=j6 W k;omega))<|.B 3 (0<(↑(getD W (k*1) lh):Int)) (λ p1 Z8=>.K 5 (true&&VK (length (eZ W k)*1) (length (map nD (eZ W k)))&&true&&true&&true&&true&&VN ((length (eZ W k)+1)*8) 140737488355328) (by(simp;have h9:=hB (k*1);have h8:=j6 W k;omega))<|.W 3 (k+1)<|.V 1 4 (VJ 152 152 0 (length (eZ W k)+1) 1) (VJ 152 152 0 (length (eZ W (k+1))) 1) (by(rw[BQ (by(omega)),VI];rfl))<|.val 19 (zI (k+1)) (zN (k+1)) D9<|.blk 152 152 (VF (map nD (eZ W k)++[zN k]) 3 true) (VF (map nD (eZ W (k+1))) 3 true) (by(rw[BQ (by(omega)),Wz];rfl))<|Hn.next ZB ⟨(k+1),om,⟨⟩⟩ (by show L-(k+1)<L-k;clear ZB ZD;omega) [(0,0),(152,152)] ro) (λ p1 Z8=>.W 2 (k+1)<|.V 1 4 (VJ 8 8 0 (length (eZ W k)) 1) (VJ 8 8 0 (length (eZ W (k+1))) 1) (by(rw[BR (by(omega))]))<|.val 19 (zI (k+1)) (zN (k+1)) D9<|.blk 8 8 (VF (map nD (eZ W k)) 3 true) (VF (map nD (eZ W (k+1))) 3 true) (by(rw[BR (by(omega))]))<|Hn.next ZB ⟨(k+1),om,⟨⟩⟩ (by show L-(k+1)<L-k;clear ZB ZD;omega) [(0,0),(8,8)] ro)) (λ p0 Z9=>.val 4 (VJ 8 8 0 (length (eZ W k)) 1) (VJ 8 8 0 N 1) (by(rw[show k=L from by omega,hX,o.n]))<|.blk 8 8 (VF (map nD (eZ W k)) 3 true) (VF (map nD X) 3 true) (by(rw[show k=L from by omega,hX]))<|Hn.last ZD 0 (():Unit) rfl [(0,0),(8,8)] ro)) (fun|⟨k,hk,_⟩=>by kernel_rfl) ⟨(0),om,⟨⟩⟩ [(0,0),(120,120)] ro (bM (fun|()=>.O 5 (ay .i64 (2^min m 64*1)) (zI (VU VV (2^min m 64*1))) (aE _ _)<|.F 2 (decide (VU VV (2^min m 64*1)<(N:Int))) ru<|.s 9<|.call 190 true [8,0] (true) wr ([VJ 0 0 0 N 1,zN N,XG (WG 175) [] [V7 1 1 0]]) _ (cQ.refl _) (ae (map nD X)&&true) (by(simp;done)) _ _ _ (V0 (ao.of Tryz.func190 rfl rfl) (@Oy (X) (N) om (W) (L) om om (T1) (cM W) aO om aO))<|.Y 3 [8] [8] (WL [VJ 0 0 0 N 1,zI 0]) [VF (map nD (cM W)) 3 true] ok))) kr
theorem OA {o:List Pc}{x:Pc}:(o++[x]).flatMap dt=o.flatMap dt++[nD x.w,bD x.p]:=by rw[WH];rfl
theorem OC {row:List Pc}{B:Nat}(h:∀x∈row,x.w<=B){i:Nat}(hi:i<row.length):(row.getD i lh).w<=B:=by
 rw[VH,VG hi];exact h _ (WE hi)
def sP (row:List Pc)(i:Nat):Nat:=lk row ((row.getD i lh).w+(row.getD (i+1) lh).w)
theorem BS (ws:List Nat){k j:Nat}(h:k+j<ws.length):(Wx (k*1) (ws.map nD))[j*1]? =some (nD (ws.getD (k+j) lh)):=by
 rw[V5,V5,List.getElem?_drop,V6,VH,VG h];rfl
theorem HW (row:List Pc)(i:Nat):sP row i=(row.getD i lh).w+(row.getD (i+1) lh).w:=aP _ _
theorem Tz {row:List Pc}{i:Nat}:((sP row i:Nat):Int)=((row.getD i lh).w:Int)+((row.getD ((i:Int)+1).toNat lh).w:Int):=by rw[HW,show((i:Int)+1).toNat=i+1 from by omega];push_cast;rfl
section
variable {row o T:List Pc} {ws:List Nat} {i k:Nat}
theorem OD (h:i+1<row.length)(hR:o++fP (row.drop i) (ws.drop k)=T):o++((fa (sP row i) (ws.drop k)).1++fP (row.drop (i+2)) (fa (sP row i) (ws.drop k)).2)=T:=by rw[HW];exact Tu h hR
end
theorem OE (row:List Pc)(r:Nat)(hr:r=row.length)(hr2:r<=1000)(B:Nat)(hB2:B<=1000000000000000)(hB:∀x∈row,x.w<=B)(ws:List Nat)(n:Nat)(hn:n=ws.length)(hn2:n<=1000)(T:List Pc)(hT:Ke row ws=T):S0 145 [.sl false r 2 (row.flatMap dt),.sl false n 1 (ws.map nD)] [] (.ref 0 0 0 T.length 2) [⟨T.flatMap dt, 231,true⟩]:=SpR Tryz.func145 rfl rfl rfl ⟨dn (λ _=>rfl) _,trivial⟩ rfl 1000 64 (λ R ok=>.s 3<|.nils 4 24 2 231<|Hn.inl T_ok ah false 74 0 (aq Tryz.prog 145 0) (λ(x:(i:Nat)×'(k:Nat)×'(o:List Pc)×'(hi:i<=r+1)×'(hk:k<=n)×'(ho:o.length<=i+k)×'(hR:o++fP (row.drop i) (ws.drop k)=T)×'Unit)=>match x with|⟨i,k,o,hi,hk,ho,hR,_⟩=>VZ [(0,V3 false r 2 (flatMap dt row)),(1,V3 false n 1 (map nD ws)),(4,(VJ 0 0 (0) (o.length) 2)),(5,nD k),(6,nD i)] [⟨0,0,24,24,.b ⟨o.flatMap dt,231,true⟩⟩] 8) (λ(x:(i:Nat)×'(k:Nat)×'(o:List Pc)×'(hi:i<=r+1)×'(hk:k<=n)×'(ho:o.length<=i+k)×'(hR:o++fP (row.drop i) (ws.drop k)=T)×'Unit)=>match x with|⟨i,k,o,hi,hk,ho,hR,_⟩=>r+1-i) [⟨(k3:Nat)×'(o3:List Pc)×'(hk3:k3<=n)×'(ho3:o3.length<=3000)×'(hR3:o3++ga (ws.drop k3)=T)×'Unit,.exit 0,λ x=>match x with|⟨k3,o3,hk3,ho3,hR3,_⟩=>VZ [(0,V3 false r 2 (flatMap dt row)),(1,V3 false n 1 (map nD ws)),(4,(VJ 0 0 (0) (o3.length) 2)),(5,nD k3)] [⟨0,0,24,24,.b ⟨o3.flatMap dt,231,true⟩⟩] 8⟩] 1000 64 (fun|⟨i,k,o,hi,hk,ho,hR,_⟩,Q,ZB,ZD=>.W 3 (i+1)<|.B 4 ((i:Int)+1<r) (λ p0 Z9=>.K 4 (true&&decide ((i:Int)<r)&&true) JO<|.O 5 ((flatMap dt row)[i*2+0]?) (zN (Pc.w (getD row i lh))) (cX (k:=2) (i:=i) (j:=0) (λ _=>rfl) om om rfl)<|.W 4 (i+1)<|.K 1 (true&&decide ((i:Int)+1<r)&&true) JO<|.O 5 ((flatMap dt row)[zq ((i:Int)+1)*2+0]?) (zN (Pc.w (getD row (zq ((i:Int)+1)) lh))) (cX (k:=2) (i:=zq ((i:Int)+1)) (j:=0) (λ _=>rfl) om om rfl)<|.I 2 ((↑(Pc.w (getD row i lh)):Int)+(↑(Pc.w (getD row (zq ((i:Int)+1)) lh)):Int)) (by(have h9:=OC hB (i:=i) om;have h8:=OC hB (i:=((i:Int)+1).toNat) om;omega))<|.V 1 7 (zI ((↑(Pc.w (getD row i lh)):Int)+(↑(Pc.w (getD row (zq ((i:Int)+1)) lh)):Int))) (zN (sP row i)) Fi<|Hn.inl T_ok ah false 74 0 (aq Tryz.prog 145 1) (λ(x:(k1:Nat)×'(o1:List Pc)×'(hk1:k1<=n)×'(ho1:o1.length<=i+k1)×'(hR1:o1++((fa (sP row i) (ws.drop k1)).1++fP (row.drop (i+2)) (fa (sP row i) (ws.drop k1)).2)=T)×'Unit)=>match x with|⟨k1,o1,hk1,ho1,hR1,_⟩=>VZ [(0,V3 false r 2 (flatMap dt row)),(1,V3 false n 1 (map nD ws)),(4,(VJ 0 0 (0) (o1.length) 2)),(5,nD k1),(6,zN i),(7,nD (sP row i))] [⟨0,0,0,0,.b ⟨o1.flatMap dt,231,true⟩⟩] 8) (λ(x:(k1:Nat)×'(o1:List Pc)×'(hk1:k1<=n)×'(ho1:o1.length<=i+k1)×'(hR1:o1++((fa (sP row i) (ws.drop k1)).1++fP (row.drop (i+2)) (fa (sP row i) (ws.drop k1)).2)=T)×'Unit)=>match x with|⟨k1,o1,hk1,ho1,hR1,_⟩=>n-k1) [⟨(k2:Nat)×'(o2:List Pc)×'(hk2:k2<=n)×'(ho2:o2.length<=i+2+k2)×'(hR2:o2++fP (row.drop (i+2)) (ws.drop k2)=T)×'Unit,.exit 1,λ x=>match x with|⟨k2,o2,hk2,ho2,hR2,_⟩=>VZ [(0,V3 false r 2 (flatMap dt row)),(1,V3 false n 1 (map nD ws)),(4,(VJ 0 0 (0) (o2.length) 2)),(5,nD k2),(6,zN i)] [⟨0,0,0,0,.b ⟨o2.flatMap dt,231,true⟩⟩] 8⟩,⟨(k4:Nat)×'(o4:List Pc)×'(hk4:k4<=n∧n<=k4)×'(ho4:o4.length<=i+k4)×'(hR4:o4++((fa (sP row i) (ws.drop k4)).1++fP (row.drop (i+2)) (fa (sP row i) (ws.drop k4)).2)=T)×'Unit,.exit 2,λ x=>match x with|⟨k4,o4,hk4,ho4,hR4,_⟩=>VZ [(0,V3 false r 2 (flatMap dt row)),(1,V3 false n 1 (map nD ws)),(4,(VJ 0 0 (0) (o4.length) 2)),(5,nD k4),(6,zN i),(7,nD (sP row i))] [⟨0,0,0,0,.b ⟨o4.flatMap dt,231,true⟩⟩] 8⟩] 1000 64 (fun|⟨k1,o1,hk1,ho1,hR1,_⟩,Q,ZA,ZC=>.B 5 ((k1:Int)<n) (λ p1 Z8=>.K 3 (true&&decide ((k1:Int)<n)&&true) JO<|.O 2 ((map nD ws)[k1*1]?) (nD (getD ws (k1*1) lh)) (am _ _ om)<|.B 3 ((↑(sP row i):Int)<(↑(getD ws (k1*1) lh):Int)) (λ p2 Z7=>.K 7 (true&&VK (length o1*2) (length (flatMap dt o1))&&true&&true&&true&&true&&VN ((length o1+1)*16) 140737488355328) BM<|.V 1 4 (VJ 120 120 0 (length o1+1) 2) (VJ 120 120 0 (length (o1++[Pc.mk (sP row i) true])) 2) BN<|.blk 120 120 (VF (flatMap dt o1++[zN (sP row i),D.v (.bool true)]) 231 true) (VF (flatMap dt (o1++[Pc.mk (sP row i) true])) 231 true) (by(simp;done))<|Hn.last ZC 0 (⟨(k1),(o1++[⟨sP row i,true⟩]),om,BO,(by(simp only[V5]at *;exact Tv om om hR1)),⟨⟩⟩:(k2:Nat)×'(o2:List Pc)×'(hk2:k2<=n)×'(ho2:o2.length<=i+2+k2)×'(hR2:o2++fP (row.drop (i+2)) (ws.drop k2)=T)×'Unit) rfl [(120,120)] ro) (λ p2 Z7=>.K 4 (true&&decide ((k1:Int)<n)&&true) JO<|.O 2 ((map nD ws)[k1*1]?) (nD (getD ws (k1*1) lh)) (am _ _ om)<|.K 5 (true&&VK (length o1*2) (length (flatMap dt o1))&&true&&true&&true&&true&&VN ((length o1+1)*16) 140737488355328) BM<|.W 4 (k1+1)<|.V 1 4 (VJ 144 144 0 (length o1+1) 2) (VJ 144 144 0 (length (o1++[Pc.mk (getD ws k1 lh) false])) 2) BN<|.val 5 (zI (k1+1)) (zN (k1+1)) Fi<|.blk 144 144 (VF (flatMap dt o1++[zN (getD ws (k1*1) lh),D.v (.bool false)]) 231 true) (VF (flatMap dt (o1++[Pc.mk (getD ws k1 lh) false])) 231 true) (by(refine aw ?_;rw[OA];simp only[V5]))<|Hn.next ZA ⟨(k1+1),(o1++[⟨ws.getD k1 lh,false⟩]),om,BO,(by(simp only[V5]at *;exact Tw om om hR1)),⟨⟩⟩ (by show n-(k1+1)<n-k1;clear ZA ZC ZB ZD;omega) [(144,144)] ro)) (λ p1 Z8=>(Hn.last ZC 1 (⟨(k1),(o1),om,om,om,⟨⟩⟩:(k4:Nat)×'(o4:List Pc)×'(hk4:k4<=n∧n<=k4)×'(ho4:o4.length<=i+k4)×'(hR4:o4++((fa (sP row i) (ws.drop k4)).1++fP (row.drop (i+2)) (fa (sP row i) (ws.drop k4)).2)=T)×'Unit) rfl [(0,0)] ro))) (fun|⟨k1,o1,hk1,ho1,hR1,_⟩=>by kernel_rfl) ⟨(k),(o),om,om,(by(exact OD om hR)),⟨⟩⟩ [(0,0)] ro (gw (fun|⟨k2,o2,hk2,ho2,hR2,_⟩=>.W 3 (i+2)<|.V 1 6 (zI (i+2)) (zN (i+2)) Fi<|Hn.next ZB ⟨(i+2),(k2),(o2),om,om,om,om,⟨⟩⟩ (by show r+1-(i+2)<r+1-i;clear ZB ZD;omega) [(0,0)] ro) (fun|⟨k4,o4,hk4,ho4,hR4,_⟩=>.K 7 (true&&VK (length o4*2) (length (flatMap dt o4))&&true&&true&&true&&true&&VN ((length o4+1)*16) 140737488355328) BM<|.W 4 (i+2)<|.V 1 4 (VJ 40 40 0 (length o4+1) 2) (VJ 40 40 0 (length (o4++[Pc.mk (sP row i) true])) 2) BN<|.val 6 (zI (i+2)) (zN (i+2)) Fi<|.blk 40 40 (VF (flatMap dt o4++[zN (sP row i),D.v (.bool true)]) 231 true) (VF (flatMap dt (o4++[Pc.mk (sP row i) true])) 231 true) (by(simp;done))<|Hn.next ZB ⟨(i+2),(k4),(o4++[⟨sP row i,true⟩]),om,om,BO,(by(exact Tx om hR4)),⟨⟩⟩ (by show r+1-(i+2)<r+1-i;clear ZB ZD;omega) [(40,40)] ro))) (λ p0 Z9=>(Hn.last ZD 0 (⟨(k),(o),om,om,(by(exact Ty om hR)),⟨⟩⟩:(k3:Nat)×'(o3:List Pc)×'(hk3:k3<=n)×'(ho3:o3.length<=3000)×'(hR3:o3++ga (ws.drop k3)=T)×'Unit) rfl [(0,0)] ro))) (fun|⟨i,k,o,hi,hk,ho,hR,_⟩=>by kernel_rfl) ⟨(0),(0),([]),om,om,(by(simp;done)),(by(exact(fQ _ _).symm.trans hT)),⟨⟩⟩ [(24,24)] ro (bM (fun|⟨k3,o3,hk3,ho3,hR3,_⟩=>.K 3 (aT (some (k3:Int)) none none n&&true) (by(simp <;>(omega)))<|.s 2<|Hn.inl T_ok ah false 74 0 (aq Tryz.prog 145 2) (λ(x:(j:Nat)×'(o:List Pc)×'(hk:j<=n-k3)×'(ho:o.length<=3000+j)×'(hR:o++ga (ws.drop (k3+j))=T)×'Unit)=>match x with|⟨j,o,hk,ho,hR,_⟩=>VZ [(4,(VJ 0 0 (0) (o.length) 2)),(61,V3 false (n-k3) 1 (drop (k3*1) (map nD ws))),(62,zN (n-k3)),(63,nD j)] [⟨0,0,0,0,.b ⟨o.flatMap dt,231,true⟩⟩] 8) (λ(x:(j:Nat)×'(o:List Pc)×'(hk:j<=n-k3)×'(ho:o.length<=3000+j)×'(hR:o++ga (ws.drop (k3+j))=T)×'Unit)=>match x with|⟨j,o,hk,ho,hR,_⟩=>n-k3-j) [⟨Unit,.exit 4,λ x=>match x with|()=>VZ [(4,(VJ 0 0 (0) (T.length) 2)),(61,V3 false (n-k3) 1 (drop (k3*1) (map nD ws))),(62,zN (n-k3))] [⟨0,0,0,0,.b ⟨T.flatMap dt,231,true⟩⟩] 8⟩] 1000 64 (fun|⟨j,o,hk,ho,hR,_⟩,Q,ZB,ZD=>.B 2 ((j:Int)<(↑(n-k3):Int)) (λ p3 Z6=>.K 1 (true&&decide ((j:Int)<(↑(n-k3):Int))&&true) JO<|.O 2 ((drop (k3*1) (map nD ws))[j*1]?) (nD (getD ws (k3+j) lh)) (@BS ws (k3) (j) om)<|.K 8 (true&&VK (length o*2) (length (flatMap dt o))&&true&&true&&true&&true&&VN ((length o+1)*16) 140737488355328) BM<|.W 3 (j+1)<|.V 1 4 (VJ 72 72 0 (length o+1) 2) (VJ 72 72 0 (length (o++[Pc.mk (getD ws (k3+j) lh) false])) 2) BN<|.val 63 (zI (j+1)) (zN (j+1)) D9<|.blk 72 72 (VF (flatMap dt o++[zN (getD ws (k3+j) lh),D.v (.bool false)]) 231 true) (VF (flatMap dt (o++[Pc.mk (getD ws (k3+j) lh) false])) 231 true) (by(simp;done))<|Hn.next ZB ⟨(j+1),(o++[⟨ws.getD (k3+j) lh,false⟩]),om,BO,(by(exact Oz om hR)),⟨⟩⟩ (by show n-k3-(j+1)<n-k3-j;clear ZB ZD;omega) [(72,72)] ro) (λ p3 Z6=>.val 4 (VJ 0 0 0 (length o) 2) (VJ 0 0 0 (length T) 2) (by(rw[Fj om hR]))<|.blk 0 0 (VF (flatMap dt o) 231 true) (VF (flatMap dt T) 231 true) (by(rw[Fj om hR]))<|Hn.last ZD 0 (():Unit) rfl [(0,0)] ro)) (fun|⟨j,o,hk,ho,hR,_⟩=>by kernel_rfl) ⟨(0),(o3),om,om,om,⟨⟩⟩ [(0,0)] ro (bM (fun|()=>.Y 2 [0] [0] (VJ 0 0 0 (length T) 2) [VF (flatMap dt T) 231 true] ok))))) kr
theorem Fl (ws:List Nat){j:Nat}(h:j<ws.length):(Wx (0*1) (ws.map nD))[j*1]? =some (nD (ws.getD j lh)):=by
 have:=BS ws (k:=0) (j:=j) om
 rwa [Wd]at this
theorem OF (ws:List Nat)(n:Nat)(hn:n=ws.length)(hn2:n<=1000)(T:List Pc)(hT:Ke [] ws=T):S0 145 [aY,.sl false n 1 (ws.map nD)] [] (.ref 0 0 0 T.length 2) [⟨T.flatMap dt, 231,true⟩]:=SpR Tryz.func145 rfl rfl rfl ⟨dn (λ _=>rfl) _,trivial⟩ rfl 1000 64 (λ R ok=>.K 16 (aT (some 0) none none n&&true) (by(simp;done))<|.s 2<|.nils 4 104 2 231<|Hn.inl T_ok ah false 74 0 (aq Tryz.prog 145 2) (λ(x:(j:Nat)×'(o:List Pc)×'(hk:j<=n)×'(ho:o.length<=j)×'(hR:o++ga (ws.drop j)=T)×'Unit)=>match x with|⟨j,o,hk,ho,hR,_⟩=>VZ [(4,(VJ 0 0 (0) (o.length) 2)),(61,V3 false (n-0) 1 (drop 0 (map nD ws))),(62,zN (n-0)),(63,nD j)] [⟨0,0,104,104,.b ⟨o.flatMap dt,231,true⟩⟩] 8) (λ(x:(j:Nat)×'(o:List Pc)×'(hk:j<=n)×'(ho:o.length<=j)×'(hR:o++ga (ws.drop j)=T)×'Unit)=>match x with|⟨j,o,hk,ho,hR,_⟩=>n-j) [⟨Unit,.exit 4,λ x=>match x with|()=>VZ [(4,(VJ 0 0 (0) (T.length) 2)),(61,V3 false (n-0) 1 (drop 0 (map nD ws))),(62,zN (n-0))] [⟨0,0,104,104,.b ⟨T.flatMap dt,231,true⟩⟩] 8⟩] 1000 64 (fun|⟨j,o,hk,ho,hR,_⟩,Q,ZB,ZD=>.B 2 ((j:Int)<(↑(n-0):Int)) (λ p0 Z9=>.K 1 (true&&decide ((j:Int)<(↑(n-0):Int))&&true) JO<|.O 2 ((drop (0*1) (map nD ws))[j*1]?) (nD (getD ws j lh)) (@Fl ws (j) om)<|.K 8 (true&&VK (length o*2) (length (flatMap dt o))&&true&&true&&true&&true&&VN ((length o+1)*16) 140737488355328) BM<|.W 3 (j+1)<|.V 1 4 (VJ 72 72 0 (length o+1) 2) (VJ 72 72 0 (length (o++[Pc.mk (getD ws j lh) false])) 2) BN<|.val 63 (zI (j+1)) (zN (j+1)) D9<|.blk 72 72 (VF (flatMap dt o++[zN (getD ws j lh),D.v (.bool false)]) 231 true) (VF (flatMap dt (o++[Pc.mk (getD ws j lh) false])) 231 true) (by(simp;done))<|Hn.next ZB ⟨(j+1),(o++[⟨ws.getD j lh,false⟩]),om,BO,(by(exact Oz om hR)),⟨⟩⟩ (by show n-(j+1)<n-j;clear ZB ZD;omega) [(72,72)] ro) (λ p0 Z9=>.val 4 (VJ 0 0 0 (length o) 2) (VJ 0 0 0 (length T) 2) (by(rw[Fj om hR]))<|.blk 0 0 (VF (flatMap dt o) 231 true) (VF (flatMap dt T) 231 true) (by(rw[Fj om hR]))<|Hn.last ZD 0 (():Unit) rfl [(0,0)] ro)) (fun|⟨j,o,hk,ho,hR,_⟩=>by kernel_rfl) ⟨(0),([]),om,(by(simp;done)),(by(exact(fQ _ _).symm.trans hT)),⟨⟩⟩ [(104,104)] ro (bM (fun|()=>.Y 2 [0] [0] (VJ 0 0 0 (length T) 2) [VF (flatMap dt T) 231 true] ok))) kr
def nc (W S:List Nat)(k:Nat):List Nat:=lk S ((S.take k).map λ i=>W.getD i lh)
theorem oy (W S:List Nat)(k:Nat):nc W S k=(S.take k).map λ i=>W.getD i lh:=aP _ _
theorem HX (W S:List Nat):nc W S 0=[]:=oy W S 0
theorem HY {W S:List Nat}{k:Nat}(h:k<S.length):nc W S (k+1)=nc W S k++[W.getD (S.getD k lh) lh]:=by
 rw[oy,oy,Wo h,Wz,VH (l:=S),VG h];rfl
theorem kK {W S:List Nat}{k:Nat}(h:k<=S.length):(nc W S k).length=k:=by rw[oy,VP,VW];omega
def Kf (ws:List Nat):Nat->List Pc
 |0=>Ke [] ws
 |k+1=>Ke (Kf ws k) ws
def ax (ws:List Nat)(k:Nat):List Pc:=lk ws (Kf ws k)
theorem rz (ws:List Nat)(k:Nat):ax ws k=Kf ws k:=aP _ _
theorem oz (ws:List Nat):Ke [] ws=ax ws 0:=by rw[rz];rfl
theorem ly (ws:List Nat)(k:Nat):Ke (ax ws k) ws=ax ws (k+1):=by rw[rz,rz];rfl
def dg (row:List Pc)(n:Nat):Nat:=lk row ((row.take n).filter (·.p)).length
theorem ip (row:List Pc)(n:Nat):dg row n=((row.take n).filter (·.p)).length:=aP _ _
theorem OG (row:List Pc):dg row 0=0:=ip row 0
theorem HZ {row:List Pc}{k:Nat}(h:k<row.length):dg row (k+1)=dg row k+(row.getD k lh).p.toNat:=by
 rw[ip,ip,Wo h,Xo,VI,VH,VG h];show _+(List.filter _ [row[k]]).length=_+(row[k]).p.toNat
 cases hp:(row[k]).p
 ·rw[XY (by simp[hp])];rfl
 ·rw[XX (by simp[hp])];rfl
theorem v6 (row:List Pc)(n:Nat):dg row n<=n:=by
 rw[ip];exact VR (Yx _ _) (by rw[VW];exact Nat.min_le_left _ _)
theorem nd (row:List Pc)(n:Nat):dg row n<=(row.filter (·.p)).length:=by
 rw[ip];exact((ZJ n row).filter _).length_le
theorem nf:∀l:List Pc,l.length=(l.filter (·.p)).length+(l.filter (λ x=>!x.p)).length
 |[]=>rfl
 |x::r=>by
  have ih:=nf r
  cases hp:x.p
  ·rw[XY (by simp[hp]),XX (by simp[hp]),Wj,Wj];omega
  ·rw[XX (by simp[hp]),XY (by simp[hp]),Wj,Wj];omega
theorem H0 (s:Nat):∀ws:List Nat,((fa s ws).1.filter (·.p)).length=1∧(fa s ws).1.length+(fa s ws).2.length=ws.length+1∧(fa s ws).1.length=((fa s ws).1.filter (λ x=>!x.p)).length+1
 |[]=>⟨rfl,rfl,rfl⟩
 |w::r=>by
  have ih:=H0 s r;rw[fa];split
  ·exact⟨rfl,by simp;omega,rfl⟩
  ·refine⟨?_,?_,?_⟩
   ·rw[XY (by simp)];exact ih.1
   ·simp only[Wj];omega
   ·rw[XX (by simp),Wj,Wj];omega
theorem BT:∀(row:List Pc) (ws:List Nat),((fP row ws).filter (·.p)).length=row.length/2∧(fP row ws).length=ws.length+row.length/2∧((fP row ws).filter (λ x=>!x.p)).length=ws.length
 |[],ws=>by
  have e:fP [] ws=ga ws:=rfl;rw[e];unfold ga;refine⟨?_,by simp,?_⟩
  ·rw[List.filter_eq_nil_iff.2 (λ x hx=>by obtain⟨w,_,rfl⟩:=List.mem_map.1 hx;simp)];rfl
  ·rw[List.filter_eq_self.2 (λ x hx=>by obtain⟨w,_,rfl⟩:=List.mem_map.1 hx;rfl),VP]
 |[x],ws=>by
  have e:fP [x] ws=ga ws:=rfl;rw[e];unfold ga;refine⟨?_,by simp,?_⟩
  ·rw[List.filter_eq_nil_iff.2 (λ x hx=>by obtain⟨w,_,rfl⟩:=List.mem_map.1 hx;simp)];simp
  ·rw[List.filter_eq_self.2 (λ x hx=>by obtain⟨w,_,rfl⟩:=List.mem_map.1 hx;rfl),VP]
 |x::y::r,ws=>by
  have h1:=H0 (x.w+y.w) ws;have h2:=BT r (fa (x.w+y.w) ws).2;rw[fP];refine⟨?_,?_,?_⟩
  ·rw[Xo,VI,h1.1,h2.1,Wj,Wj];omega
  ·rw[VI,h2.2.1,Wj,Wj];omega
  ·rw[Xo,VI,h2.2.2];omega
theorem H6 {s B:Nat}:∀ws:List Nat,(∀w∈ws,w<=B)->s<=B->(∀x∈(fa s ws).1,x.w<=B)∧∀w∈(fa s ws).2,w∈ws
 |[],_,hs=>⟨λ x hx=>by cases List.mem_singleton.1 hx;exact hs,λ w hw=>by cases hw⟩
 |w::r,h,hs=>by
  have ih:=H6 (s:=s) r (λ y hy=>h y (Wa _ hy)) hs;rw[fa];split
  ·exact⟨λ x hx=>by cases List.mem_singleton.1 hx;exact hs,λ y hy=>hy⟩
  ·refine⟨λ x hx=>?_,λ y hy=>Wa _ (ih.2 y hy)⟩
   rcases List.mem_cons.1 hx with rfl|hx
   ·exact h w Wb
   ·exact ih.1 x hx
theorem H7 {B C:Nat}(hC:2*B<=C)(hC2:B<=C):∀(row:List Pc) (ws:List Nat),(∀w∈ws,w<=B)->(∀x∈row,x.w<=B)->∀x∈fP row ws,x.w<=C
 |[],ws,h,_=>λ x hx=>by
  obtain⟨w,hw,rfl⟩:=List.mem_map.1 (show x∈ga ws from hx);exact VR (h w hw) hC2
 |[_],ws,h,_=>λ x hx=>by
  obtain⟨w,hw,rfl⟩:=List.mem_map.1 (show x∈ga ws from hx);exact VR (h w hw) hC2
 |a::b::r,ws,h,hr=>λ x hx=>by
  have ha:=hr a Wb;have hb:=hr b (Wa _ Wb);have h1:=H6 (s:=a.w+b.w) (B:=C) ws (λ w hw=>VR (h w hw) hC2) om;rw[fP]at hx;rcases List.mem_append.1 hx with q|q
  ·exact h1.1 x q
  ·exact H7 hC hC2 r _ (λ w hw=>h w (h1.2 w hw)) (λ y hy=>hr y (Wa _ (Wa _ hy))) x q
theorem BU {ws:List Nat}(h:∀w∈ws,w<=1073741824):∀k,∀x∈ax ws k,x.w<=2^k*1073741824
 |0=>λ x hx=>by
  rw[<-oz,fQ]at hx;obtain⟨w,hw,rfl⟩:=List.mem_map.1 (show x∈ga ws from hx);have:=h w hw;simpa using this
 |k+1=>λ x hx=>by
  rw[<-ly,fQ]at hx;have hp:=XT k;refine H7 (B:=2^k*1073741824) (by rw[Xj];omega) (by rw[Xj];omega) _ _ (λ w hw=>VR (h w hw) om) (BU h k) x hx
theorem Fm {ws:List Nat}(h:∀w∈ws,w<=1073741824){k:Nat}(hk:k<=15):∀x∈ax ws k,x.w<=100000000000000:=λ x hx=>by
 have h1:=BU h k x hx;have h2:2^k<=2^15:=WF (by decide) hk;omega
theorem iq (ws:List Nat):∀k,(ax ws k).length=ws.length+(if k=0 then 0 else(ax ws (k-1)).length/2)∧((ax ws k).filter (·.p)).length=(if k=0 then 0 else(ax ws (k-1)).length/2)∧((ax ws k).filter (λ x=>!x.p)).length=ws.length
 |0=>by
  have h:=BT [] ws;rw[<-fQ,oz]at h;exact⟨h.2.1,h.1,h.2.2⟩
 |k+1=>by
  have h:=BT (ax ws k) ws;rw[<-fQ,ly]at h;exact⟨h.2.1,h.1,h.2.2⟩
theorem dc (ws:List Nat):∀k,(ax ws k).length<=2*ws.length
 |0=>by rw[(iq ws 0).1,ZF rfl];omega
 |k+1=>by
  have:=dc ws k;rw[(iq ws (k+1)).1,ZE (XL k),Xf];omega
theorem xH (ws:List Nat):∀k,2^k*(2*ws.length)<=2^k*(ax ws k).length+ws.length+(2^k-1)
 |0=>by rw[(iq ws 0).1,ZF rfl];omega
 |k+1=>by
  have ih:=xH ws k;have e:=(iq ws (k+1)).1;rw[ZE (XL k),Xf]at e;have hp:=XT k;rw[e,Xj];generalize ws.length=N at *;generalize(ax ws k).length=R at *;generalize 2^k=P at *;have h2:P*R<=P*(2*(R/2))+P:=by
   have:R<=2*(R/2)+1:=by omega
   have:=YL P this;rw[Yf,V5]at this;exact this
  have e1:P*2*(2*N)=P*(2*N)+P*(2*N):=by rw[Xn,Nat.two_mul,Yf]
  have e2:P*2*(N+R/2)=P*(2*N)+P*(2*(R/2)):=by rw[Xn,Yf 2,Yf]
  rw[e1,e2];omega
def t6:Z4->List Nat->Z4
 |o,[]=>o
 |o,i::r=>t6 (o.set i (o.getD i lh+1)) r
theorem BV (o:Z4)(a b:List Nat):t6 o (a++b)=t6 (t6 o a) b:=by
 induction a generalizing o with
 |nil=>rfl
 |cons x a ih=>exact ih _
theorem t7:∀(o:Z4) (l:List Nat),(t6 o l).length=o.length
 |_,[]=>rfl
 |o,i::r=>by rw[t6,t7,Xz]
def cJ (o:Z4)(S:List Nat)(j:Nat):Z4:=lk o (t6 o (S.take j))
theorem ng (o:Z4)(S:List Nat)(j:Nat):cJ o S j=t6 o (S.take j):=aP _ _
theorem oD (o:Z4)(S:List Nat):cJ o S 0=o:=ng o S 0
theorem cK (o:Z4)(S:List Nat)(j:Nat):(cJ o S j).length=o.length:=by rw[ng,t7]
theorem oE {o:Z4}{S:List Nat}{j:Nat}(h:j<S.length):cJ o S (j+1)=(cJ o S j).set (S.getD j lh) ((cJ o S j).getD (S.getD j lh) lh+1):=by
 rw[ng,ng,Wo h,BV,VH (l:=S),VG h];rfl
def xI (ws S:List Nat):Nat->Nat->Z4->Z4
 |0,_,o=>o
 |k+1,n,o=>xI ws S k (2*dg (ax ws k) n) (cJ o S (n-dg (ax ws k) n))
structure LnI (ws:List Nat)(k n:Nat):Prop where
 a:k≠0->n<=(ax ws (k-1)).length
theorem LnI.next {ws:List Nat}{k n:Nat}(h:LnI ws (k+1) n):n<=(ax ws k).length∧dg (ax ws k) n<=n∧n-dg (ax ws k) n<=ws.length∧LnI ws k (2*dg (ax ws k) n):=by
 have hn:=h.a (XL k);rw[Xf]at hn;have hc:=iq ws k;have h1:=nd (ax ws k) n;refine⟨hn,v6 _ _,?_,⟨λ hk=>?_⟩⟩
 ·have e:n=((ax ws k).take n).length:=by rw[VW];omega
  have e2:((ax ws k).take n).length=(((ax ws k).take n).filter (·.p)).length+(((ax ws k).take n).filter (λ x=>!x.p)).length:=by
   exact nf _
  have e3:(((ax ws k).take n).filter (λ x=>!x.p)).length<=ws.length:=by
   rw[<-hc.2.2];exact((ZJ n _).filter _).length_le
  rw[ip];omega
 ·rw[hc.2.1,ZE hk]at h1;omega
theorem LnI.first {ws:List Nat}{m:Nat}(hm:1<=m)(h:ws.length<=2^m)(h2:2<=ws.length):LnI ws m (2*ws.length-2):=⟨λ _=>by
 have g:=xH ws (m-1);have hp:=XT (m-1);have e:2^m=2*2^(m-1):=by rw[show m=(m-1)+1 from by omega,Xj,XE];rfl
 generalize(ax ws (m-1)).length=R at *;generalize ws.length=N at *;generalize 2^(m-1)=P at *;rcases Wl R (2*N-2)with q|q
 ·have h3:P*R+3*P<=P*(2*N):=by
   have:R+3<=2*N:=by omega
   have:=YL P this;rw[Yf,XE P 3]at this;exact this
  omega
 ·exact q⟩
theorem t8 {p:Prop}(h:p:=by repeat' first|exact(λ _=>ua _ _ _)|exact trivial|exact rfl|exact(λ _=>aF _)|exact(λ _=>by assumption)|exact(λ _=>bu _ (λ _=>rfl) _)|exact(λ _=>bW (λ _=>rfl) _)|(intro h;cases h;done)|(intro _;rfl)|(intro _;exact cz _ (bu _ (λ _=>rfl) _))|exact iR _ (bu _ (λ _=>rfl) _)|refine V4 ?_ ?_|refine eF ?_ ?_|(intro _;refine cy ?_ ?_)|refine cy ?_ ?_|(intro _;refine fI ?_ ?_)|exact cz _ (bu _ (λ _=>rfl) _)|exact bu _ (λ _=>rfl) _):p:=h
theorem Mj {p:Prop}(h:p:=by(have z:=hT.i.nextk om (((k:Int)-1).toNat) om;have z2:=hT.l;have z3:=dc ws (((k:Int)-1).toNat);have z4:(take n (ax ws ((k:Int)-1).toNat)).length=n:=WY z.1;omega)):p:=h
theorem OH {p:Prop}(h:p:=by(have z:=hT.i.nextk om (((k:Int)-1).toNat) om;have z2:=hT.l;have z3:=dc ws (((k:Int)-1).toNat);have z4:(take n (ax ws ((k:Int)-1).toNat)).length=n:=WY z.1;simp[aT,de,bm];omega)):p:=h
theorem UY {p:Prop}(h:p:=by(rw[kL];simp only[V8];refine VL ?_;(omega))):p:=h
theorem UZ {p:Prop}(h:p:=by show n-(j+1)<n-j;clear ZA ZC ZB ZD;omega):p:=h
theorem U0 {p:Prop}(h:p:=by(refine decide_eq_true ?_;have z:=hT.i.nextk om (((k:Int)-1).toNat) om;have z2:=hT.l;have z3:=dc ws (((k:Int)-1).toNat);have z4:(take n (ax ws ((k:Int)-1).toNat)).length=n:=WY z.1;have h9:=hA.at (t:=0+j*1) om;have h8:=cK o S j;omega)):p:=h
theorem rA (W:List Nat)(L:Nat)(hL:L=W.length)(hL2:L<=320)(hB:∀t,W.getD t lh<=1073741824)(m:Nat)(hm:1<=m∧m<=15)(S:List Nat)(hS:cM W=S)(N:Nat)(hN:N=S.length)(hNm:N<=2^m):S0 144 [.sl false L 1 (W.map nD),nD m] [] (.tup [.ref 0 0 0 N 1,iD 0]) [⟨S.map nD, 3,true⟩]:=by
 subst hS;have hp:=(dr W).length_eq;have hN2:N=(eZ W L).length:=by rw[hN,hp,hL]
 obtain⟨T1,hE⟩:=Kd hL (X:=eZ W L) rfl hN2;exact Fk W L hL hL2 hB m hm N hN2 _ T1 rfl hE hNm hE.o hE.t1 hE.o1 hE.t
abbrev Fo (T:List Pc):D:=.sl false T.length 2 (T.flatMap dt)
theorem BW (T:List Pc):(T.flatMap dt).length=T.length*2:=by rw[bj (k:=2) (λ _=>rfl)]
theorem OI (ws:List Nat)(n:Nat)(hn:n=ws.length)(hn2:n<=320)(hB:∀w∈ws,w<=1073741824)(j:Nat)(hj:j<=14)(r:Nat)(hr:r=(ax ws j).length):S0 145 [.sl false r 2 ((ax ws j).flatMap dt),.sl false n 1 (ws.map nD)] [] (Fo (ax ws (j+1))) []:=by
 have h:=dc ws j;refine SpecH.frz (OE (ax ws j) r hr om 100000000000000 (by decide) (Fm hB om) ws n hn om (ax ws (j+1)) (ly ws j)) (BW _) (by decide) (bW (λ _=>rfl) _)
theorem OJ (ws:List Nat)(n:Nat)(hn:n=ws.length)(hn2:n<=320):S0 145 [aY,.sl false n 1 (ws.map nD)] [] (Fo (ax ws 0)) []:=
 SpecH.frz (OF ws n hn om _ (oz ws)) (BW _) (by decide) (bW (λ _=>rfl) _)
def i6 (ws:List Nat)(k m:Nat):List D:=lk ws ((WP m).map λ j=>if j<k then Fo (ax ws j)else aY)
theorem v7 (ws:List Nat)(k m:Nat):i6 ws k m=(WP m).map λ j=>if j<k then Fo (ax ws j)else aY:=aP _ _
theorem kL (ws:List Nat)(k m:Nat):(i6 ws k m).length=m:=by rw[v7,VP,Xt]
theorem ua (ws:List Nat)(k m:Nat):ae (i6 ws k m)=true:=by
 rw[bx,v7];intro d hd;obtain⟨j,_,rfl⟩:=List.mem_map.1 hd
 split<;>rfl
theorem xJ {ws:List Nat}{k m j:Nat}(hj:j<m):(i6 ws k m)[j]? =some (if j<k then Fo (ax ws j)else aY):=by
 rw[v7,V6,W0 hj];rfl
theorem BX (ws:List Nat){k m j:Nat}(h:j<k)(hj:j<m):(i6 ws k m)[0+j*1]? =some (Fo (ax ws j)):=by
 rw[Wd,V5,xJ hj,ZF h]
theorem BY {ws:List Nat}{k m o i:Nat}(hk:k<m)(ho:o=k)(hi:i=k):ag (i6 ws k m) o [Fo (ax ws i)]=i6 ws (k+1) m:=by
 subst o i;apply WD;intro t;rw[cv (by rw[kL];simp only[Wv];omega)];simp only[Wv];rcases Wl t m with q|q
 ·rw[xJ q,xJ q]
  by_cases e:t=k
  ·subst e;rw[ZF om,W5,ZF om];rfl
  ·rw[ZE om]
   by_cases z:t<k
   ·rw[ZF z,ZF om]
   ·rw[ZE z,ZE om]
 ·rw[ZE om,Wh (by rw[kL];exact q),Wh (by rw[kL];exact q)]
theorem TA (ws:List Nat)(m:Nat):V1 m aY=i6 ws 0 m:=by
 apply WD;intro t;rw[Xd];rcases Wl t m with q|q
 ·rw[ZF q,xJ q,ZE (Xi t)]
 ·rw[ZE om,Wh (by rw[kL];exact q)]
theorem H8 (d:D)(m:Nat):bZ [d] (m*1)=V1 m d:=by
 rw[V5];apply WD;intro i;unfold bZ;rw[V6,Xd];rcases Wl i m with q|q
 ·rw[W0 q,ZF q]
  show some (List.getD [d] (i%1) lh)=_;rw[Nat.mod_one];rfl
 ·rw[Wh (by simpa using q),ZE om];rfl
theorem H9 {t:TypeId}{a b:Int}(h:a=b):(⟨[D.v (.int .i64 a)],t,false⟩:Blk)=⟨[D.v (.int .i64 b)],t,false⟩:=by rw[h]
theorem mp (L:Nat):bZ [D.v (.int .u8 0)] (L*1)=(V1 L (0:UInt8)).map dB:=by rw[H8,XU];rfl
theorem LnI.nextk {ws:List Nat}{k n:Nat}(h:LnI ws k n)(hk:0<k)(i:Nat)(hi:i=k-1):n<=(ax ws i).length∧dg (ax ws i) n<=n∧n-dg (ax ws i) n<=ws.length:=by
 subst hi;have q:=LnI.next (k:=k-1) (n:=n) (by rw[show k-1+1=k from by omega];exact h);exact⟨q.1,q.2.1,q.2.2.1⟩
structure LnT (ws S:List Nat)(L k n:Nat)(o T:Z4):Prop where
 i:LnI ws k n
 l:o.length=L
 r:xI ws S k n o=T
theorem LnT.next {ws S:List Nat}{L k n:Nat}{o T:Z4}(h:LnT ws S L k n o T)(hk:0<k):LnT ws S L (k-1) (2*dg (ax ws (k-1)) n) (cJ o S (n-dg (ax ws (k-1)) n)) T:=by
 obtain⟨j,rfl⟩:∃j,k=j+1:=⟨k-1,by omega⟩
 exact⟨(LnI.next h.i).2.2.2,by rw[cK];exact h.l,h.r⟩
theorem LnT.next' {ws S:List Nat}{L k n:Nat}{o T:Z4}(h:LnT ws S L k n o T)(hk:0<k)(i:Nat)(hi:i=k-1):LnT ws S L (k-1) (2*dg (ax ws i) n) (cJ o S (n-dg (ax ws i) n)) T:=by
 subst hi;exact h.next hk
theorem Ia {l:List Pc}{n j:Nat}(h:j<n):(l.take n).getD j lh=l.getD j lh:=by
 rw[VH,VH,WA,ZF h]
theorem OK {row:List Pc}{n j:Nat}(hj:j<n)(hn:n<=row.length)(h:((row.take n).getD j lh).p=true):dg row (j+1)=dg row j+1:=by
 rw[Ia hj]at h;rw[HZ om,h];rfl
theorem OL {row:List Pc}{n j:Nat}(hj:j<n)(hn:n<=row.length)(h:((row.take n).getD j lh).p=false):dg row (j+1)=dg row j:=by
 rw[Ia hj]at h;rw[HZ om,h];rfl
theorem jL {n N:Nat}{x:Int}(h:x=n)(h2:n<=N):(aT none (some x) none N&&true)=true:=by
 subst h;simp[aT,de,bm];omega
theorem OM {o:Z4}{S:List Nat}{j a i:Nat}(hj:j<S.length)(ha:a=S.getD j lh)(hi:i=S.getD j lh)(hl:S.getD j lh<o.length):ag ((cJ o S j).map dB) a [D.v (.int .u8 ((((((cJ o S j).getD i lh).toNat:Nat):Int)+1)%256))]=(cJ o S (j+1)).map dB:=by
 subst ha hi;have e:(((((cJ o S j).getD (S.getD j lh) lh).toNat:Nat):Int)+1)%256=((((cJ o S j).getD (S.getD j lh) lh+1).toNat:Nat):Int):=by
  rw[UInt8.toNat_add];show _=(((_+1)%256:Nat):Int);omega
 rw[e,oE hj];generalize(cJ o S j).getD (S.getD j lh) lh+1=v;apply WD;intro t;rw[cv (by simp only[VP,Wv,cK];omega),V6,V6,W7,cK];simp only[Wv]
 by_cases q:S.getD j lh=t
 ·rw[<-q,ZF om,ZF rfl,ZF hl,W5];rfl
 ·rw[ZE om,ZE q]
theorem LnT.last {ws S:List Nat}{L k n:Nat}{o T:Z4}(h:LnT ws S L k n o T)(hk:k=0):o=T:=by subst hk;exact h.r
theorem ON (W:List Nat)(L:Nat)(hL:L=W.length)(hL2:L<=320)(hB:∀t,W.getD t lh<=1073741824)(m:Nat)(hm:1<=m∧m<=15)(S:List Nat)(hS:cM W=S)(N:Nat)(hN:N=S.length)(hNm:N<=2^m)(hA:bP L S)(hN3:N<=320)(h2:2<=N)(ws:List Nat)(hw:nc W S N=ws)(hwl:ws.length=N)(hwb:∀w∈ws,w<=1073741824)(T:Z4)(hI:LnT ws S L m (2*N-2) (V1 L 0) T):S0 108 [.sl false L 1 (W.map nD),nD m] [] (.tup [.ref 0 0 0 L 1,iD 0]) [⟨T.map dB, 5,true⟩]:=by
 have hcl0:=ua ws 0 m;have hclm:=ua ws m m;refine SpR Tryz.func108 rfl rfl rfl ⟨aI _,trivial⟩ rfl 1000 64 (λ R ok=>.C 5 144 false [] (.fn Ju (@rA (W) (L) om om om (m) om (S) aO (N) aO om))<|.K 18 (true&&decide ((L:Int)<=L)&&true&&true&&true&&true&&decide ((↑(YO zB):Int)*(L:Int)<=140737488355328)) (by(have h9:((zB.bytes:Nat):Int)=1:=rfl;rw[h9];simp;omega))<|.F 11 ((N:Int)==1) (by(refine decide_eq_false ?_;(omega)))<|.F 6 (decide ((N:Int)<2)) (by(refine decide_eq_false ?_;(omega)))<|.s 6<|.nils 9 224 1 3<|.blk 120 120 (VF (bZ [bI 0] (L*1)) 5 true) (VF (map dB (replicate L 0)) 5 true) (by(refine aw ?_;rw[mp]))<|.blk 224 224 (VF [] 3 true) (VF (map nD (nc W S 0)) 3 true) (by(rw[HX];rfl))<|Hn.inl T_ok ah false 126 0 (aq Tryz.prog 108 0) (λ(x:(k:Nat)×'(hk:k<=N)×'Unit)=>match x with|⟨k,hk,_⟩=>VZ [(0,V3 false L 1 (map nD W)),(1,zN m),(4,zS),(5,zI 0),(6,V7 8 8 0),(8,V7 24 24 0),(9,(VJ 32 32 (0) (k) 1)),(46,VJ 0 0 0 N 1),(47,zN N),(48,nD k)] [⟨0,0,32,32,.b ⟨map nD S,3,true⟩⟩,⟨8,8,64,64,.b ⟨[VJ 0 0 0 N 1],152,false⟩⟩,⟨16,16,120,120,.b ⟨(replicate L (0:UInt8)).map dB,5,true⟩⟩,⟨24,24,128,128,.b ⟨[VJ 16 16 0 L 1],24,false⟩⟩,⟨32,32,224,224,.b ⟨(nc W S k).map nD,3,true⟩⟩] 40) (λ(x:(k:Nat)×'(hk:k<=N)×'Unit)=>match x with|⟨k,hk,_⟩=>N-k) [⟨Unit,.exit 0,λ x=>match x with|()=>VZ [(0,V3 false L 1 (map nD W)),(1,zN m),(4,zS),(5,zI 0),(6,V7 8 8 0),(8,V7 24 24 0),(9,(VJ 32 32 (0) (N) 1)),(46,VJ 0 0 0 N 1),(47,zN N)] [⟨0,0,32,32,.b ⟨map nD S,3,true⟩⟩,⟨8,8,64,64,.b ⟨[VJ 0 0 0 N 1],152,false⟩⟩,⟨16,16,120,120,.b ⟨(replicate L (0:UInt8)).map dB,5,true⟩⟩,⟨24,24,128,128,.b ⟨[VJ 16 16 0 L 1],24,false⟩⟩,⟨32,32,224,224,.b ⟨ws.map nD,3,true⟩⟩] 40⟩] 1000 64 (fun|⟨k,hk,_⟩,Q,ZB,ZD=>.B 2 ((k:Int)<N) (λ p0 Z9=>.K 1 (true&&decide ((k:Int)<N)) aO<|.O 2 ((map nD S)[0+k*1]?) (nD (getD S (0+k*1) lh)) (am _ _ om)<|.K 5 (true&&decide ((↑(getD S (0+k*1) lh):Int)<(L:Int))&&true) (by((refine aC ?_ ?_)<;>(repeat' (first|(refine aC ?_ ?_)|(with_reducible rfl)|(refine decide_eq_true ?_)|(refine VL ?_)|(refine dA ?_)))<;>(have h9:=hA.at (t:=0+k*1) om;omega)))<|.O 2 ((map nD W)[getD S (0+k*1) lh*1]?) (nD (getD W (getD S (0+k*1) lh*1) lh)) (am _ _ (by(have h9:=hA.at (t:=0+k*1) om;omega)))<|.K 3 (true&&VK (k*1) (length (map nD (nc W S k)))&&true&&true&&true&&true&&VN ((k+1)*8) 140737488355328) (by(rw[VP,kK (by(omega))];simp only[V5,WK,V8,Wf];refine VL ?_;(omega)))<|.W 3 (k+1)<|.V 1 48 (zI (k+1)) (zN (k+1)) D9<|.blk 120 120 (VF (map nD (nc W S k)++[zN (getD W (getD S (0+k*1) lh*1) lh)]) 3 true) (VF (map nD (nc W S (k+1))) 3 true) (by(refine aw ?_;simp only[Wd,V5];rw[HY om,Wz];rfl))<|Hn.next ZB ⟨(k+1),om,⟨⟩⟩ (by show N-(k+1)<N-k;clear ZB ZD;omega) [(0,0),(8,8),(16,16),(24,24),(120,120)] t8) (λ p0 Z9=>.val 9 (VJ 32 32 0 k 1) (VJ 32 32 0 N 1) (by(simp <;>(omega)))<|.blk 32 32 (VF (map nD (nc W S k)) 3 true) (VF (map nD ws) 3 true) (by(rw[show k=N from by omega,hw]))<|Hn.last ZD 0 (():Unit) rfl [(0,0),(8,8),(16,16),(24,24),(32,32)] t8)) (fun|⟨k,hk,_⟩=>by kernel_rfl) ⟨(0),om,⟨⟩⟩ [(32,32),(64,64),(120,120),(128,128),(224,224)] t8 (bM (fun|()=>.K 2 (true&&decide ((m:Int)<=m)&&true&&true&&true&&true&&decide ((↑(YO xd):Int)*(m:Int)<=140737488355328)) (by(have h9:((xd.bytes:Nat):Int)=24:=rfl;rw[h9];simp;omega))<|.M 4 48 48 (VF (bZ [zS] (m*1)) 225 true) (VF (i6 ws 0 m) 225 true) (by(refine aw ?_;rw[H8,TA]))<|Hn.inl T_ok ah false 126 0 (aq Tryz.prog 108 1) (λ(x:(k:Nat)×'(hk:k<=m)×'(hcl:ae (i6 ws k m)=true)×'Unit)=>match x with|⟨k,hk,hcl,_⟩=>VZ [(4,zS),(5,zI 0),(6,V7 8 8 0),(8,V7 24 24 0),(9,VJ 32 32 0 N 1),(12,VJ 40 40 0 m 1),(63,zN m),(64,nD k)] [⟨0,0,0,0,.b ⟨map nD S,3,true⟩⟩,⟨8,8,8,8,.b ⟨[VJ 0 0 0 N 1],152,false⟩⟩,⟨16,16,16,16,.b ⟨map dB (replicate L 0),5,true⟩⟩,⟨24,24,24,24,.b ⟨[VJ 16 16 0 L 1],24,false⟩⟩,⟨32,32,32,32,.b ⟨map nD ws,3,true⟩⟩,⟨40,40,48,48,.b ⟨i6 ws k m,225,true⟩⟩] 48) (λ(x:(k:Nat)×'(hk:k<=m)×'(hcl:ae (i6 ws k m)=true)×'Unit)=>match x with|⟨k,hk,hcl,_⟩=>m-k) [⟨(hcl2:ae (i6 ws m m)=true)×'Unit,.exit 2,λ x=>match x with|⟨hcl2,_⟩=>VZ [(4,zS),(5,zI 0),(6,V7 8 8 0),(8,V7 24 24 0),(9,VJ 32 32 0 N 1),(12,VJ 40 40 0 m 1),(63,zN m)] [⟨0,0,0,0,.b ⟨map nD S,3,true⟩⟩,⟨8,8,8,8,.b ⟨[VJ 0 0 0 N 1],152,false⟩⟩,⟨16,16,16,16,.b ⟨map dB (replicate L 0),5,true⟩⟩,⟨24,24,24,24,.b ⟨[VJ 16 16 0 L 1],24,false⟩⟩,⟨32,32,32,32,.b ⟨map nD ws,3,true⟩⟩,⟨40,40,48,48,.b ⟨i6 ws m m,225,true⟩⟩] 48⟩] 1000 64 (fun|⟨k,hk,hcl,_⟩,Q,ZB,ZD=>.B 2 ((k:Int)<m) (λ p1 Z8=>.B 5 (0<(k:Int)) (λ p2 Z7=>.W 6 (k-1)<|.K 1 (decide (0<=(k:Int)-1)&&decide ((k:Int)-1<m)) (by((refine aC ?_ ?_)<;>(repeat' (first|(refine aC ?_ ?_)|(with_reducible rfl)|(refine decide_eq_true ?_)|(refine VL ?_)|(refine dA ?_)))<;>(omega)))<|.O 2 ((i6 ws k m)[0+zq ((k:Int)-1)*1]?) (Fo (ax ws (zq ((k:Int)-1)))) (@BX ws (k) (m) (zq ((k:Int)-1)) om om)<|.L 2 145 false [] (true&&(true&&(wB (map nD ws) N 1)&&true)) (by unfold wB;(simp <;>(omega))) ([V3 false (length (ax ws (zq ((k:Int)-1)))) 2 (flatMap dt (ax ws (zq ((k:Int)-1)))),wD (map nD ws) N 1]) (by exact(qr (V4 (D.sim.slw rfl (aL (by(simp <;>(omega)))|>.trans rfl)) trivial))) (V0 (ao.of Tryz.func145 rfl rfl) (@OI (ws) (N) om om om (zq ((k:Int)-1)) om (length (ax ws (zq ((k:Int)-1)))) om))<|.K 1 (true&&decide ((k:Int)<m)) aO<|.K 1 (true&&VN (0+k*1+1) (length (i6 ws k m))) UY<|.lst (ag (i6 ws k m) (0+k*1) [V3 false (length (ax ws (zq ((k:Int)-1)+1))) 2 (flatMap dt (ax ws (zq ((k:Int)-1)+1)))]) (ag (i6 ws k m) k [V3 false (length (ax ws (zq ((k:Int)-1)+1))) 2 (flatMap dt (ax ws (zq ((k:Int)-1)+1)))]) (by(simp;done))<|.W 2 (k+1)<|.V 1 64 (zI (k+1)) (zN (k+1)) D9<|.blk 40 40 (VF (ag (i6 ws k m) k [V3 false (length (ax ws (zq ((k:Int)-1)+1))) 2 (flatMap dt (ax ws (zq ((k:Int)-1)+1)))]) 225 true) (VF (i6 ws (k+1) m) 225 true) (by(exact aw (BY om om om)))<|Hn.next ZB ⟨(k+1),om,(by(exact ua _ _ _)),⟨⟩⟩ (by show m-(k+1)<m-k;clear ZB ZD;omega) [(0,0),(8,8),(16,16),(24,24),(32,32),(40,40)] t8) (λ p2 Z7=>.L 4 145 false [] (true&&(true&&(wB (map nD ws) N 1)&&true)) (by unfold wB;(simp;have h9:=hA.at (t:=0+k*1) om;omega)) ([zS,wD (map nD ws) N 1]) (by exact(qr (V4 (D.sim.slw rfl (aL (by(simp;have h9:=hA.at (t:=0+k*1) om;omega))|>.trans rfl)) trivial))) (V0 (ao.of Tryz.func145 rfl rfl) (@OJ (ws) (N) om om))<|.K 1 (true&&decide ((k:Int)<m)) aO<|.K 1 (true&&VN (0+k*1+1) (length (i6 ws k m))) UY<|.lst (ag (i6 ws k m) (0+k*1) [V3 false (length (ax ws 0)) 2 (flatMap dt (ax ws 0))]) (ag (i6 ws k m) k [V3 false (length (ax ws 0)) 2 (flatMap dt (ax ws 0))]) (by(simp;done))<|.W 2 (k+1)<|.V 1 64 (zI (k+1)) (zN (k+1)) D9<|.blk 40 40 (VF (ag (i6 ws k m) k [V3 false (length (ax ws 0)) 2 (flatMap dt (ax ws 0))]) 225 true) (VF (i6 ws (k+1) m) 225 true) (by(exact aw (BY om om om)))<|Hn.next ZB ⟨(k+1),om,(by(exact ua _ _ _)),⟨⟩⟩ (by show m-(k+1)<m-k;clear ZB ZD;omega) [(0,0),(8,8),(16,16),(24,24),(32,32),(40,40)] t8)) (λ p1 Z8=>.blk 40 40 (VF (i6 ws k m) 225 true) (VF (i6 ws m m) 225 true) (by(rw[show k=m from by omega]))<|Hn.last ZD 0 (⟨om,⟨⟩⟩:(hcl2:ae (i6 ws m m)=true)×'Unit) rfl [(0,0),(8,8),(16,16),(24,24),(32,32),(40,40)] t8)) (fun|⟨k,hk,hcl,_⟩=>by kernel_rfl) ⟨(0),om,om,⟨⟩⟩ [(0,0),(8,8),(16,16),(24,24),(32,32),(48,48)] t8 (bM (fun|⟨hcl2,_⟩=>.W 6 (2*(N:Int))<|.W 2 (2*(N:Int)-2)<|.W 19 (m-1)<|.M 1 80 80 (VF [zI (2*(N:Int)-2)] 3 false) (VF [zN (2*N-2)] 3 false) (by(exact H9 om))<|Hn.inl T_ok ah false 19 168 (aq Tryz.prog 177 0) (λ(x:(k:Nat)×'(n:Nat)×'(o:Z4)×'(hk:k<=m)×'(hT:LnT ws S L k n o T)×'Unit)=>match x with|⟨k,n,o,hk,hT,_⟩=>VZ [(0,D.yl 160 160),(1,V7 112 112 0),(3,iD ((k:Int)-1))] [⟨0,0,0,0,.b ⟨map nD S,3,true⟩⟩,⟨8,8,8,8,.b ⟨[VJ 0 0 0 N 1],152,false⟩⟩,⟨16,16,16,16,.b ⟨o.map dB,5,true⟩⟩,⟨24,24,24,24,.b ⟨[VJ 16 16 0 L 1],24,false⟩⟩,⟨32,32,32,32,.b ⟨map nD ws,3,true⟩⟩,⟨40,40,40,40,.b ⟨i6 ws m m,225,true⟩⟩,⟨80,80,80,80,.b ⟨[nD n],3,false⟩⟩,⟨112,112,112,112,.b ⟨[VJ 40 40 0 m 1],224,false⟩⟩,⟨160,160,160,160,.l Yw none (rangeAt Tryz.prog 108 0).1 (rangeAt Tryz.prog 108 0).2.1 (rangeAt Tryz.prog 108 0).2.2 126 [(63,zN m),(87,zI (2*(N:Int))),(5,zI 0),(9,VJ 32 32 0 N 1),(89,VJ 40 40 0 m 1),(85,VJ 0 0 0 N 1),(4,zS),(8,V7 24 24 0),(88,zI (2*(N:Int)-2)),(12,VJ 40 40 0 m 1),(6,V7 8 8 0),(90,XG (WG 177) [] [V7 112 112 0]),(14,V7 80 80 0),(86,zN N)]⟩] 240) (λ(x:(k:Nat)×'(n:Nat)×'(o:Z4)×'(hk:k<=m)×'(hT:LnT ws S L k n o T)×'Unit)=>match x with|⟨k,n,o,hk,hT,_⟩=>k) [⟨(n2:Nat)×'Unit,.exit 0,λ x=>match x with|⟨n2,_⟩=>VZ [(0,D.yl 160 160),(1,V7 112 112 0)] [⟨0,0,0,0,.b ⟨map nD S,3,true⟩⟩,⟨8,8,8,8,.b ⟨[VJ 0 0 0 N 1],152,false⟩⟩,⟨16,16,16,16,.b ⟨T.map dB,5,true⟩⟩,⟨24,24,24,24,.b ⟨[VJ 16 16 0 L 1],24,false⟩⟩,⟨32,32,32,32,.b ⟨map nD ws,3,true⟩⟩,⟨40,40,40,40,.b ⟨i6 ws m m,225,true⟩⟩,⟨80,80,80,80,.b ⟨[nD n2],3,false⟩⟩,⟨112,112,112,112,.b ⟨[VJ 40 40 0 m 1],224,false⟩⟩,⟨160,160,160,160,.l Yw none (rangeAt Tryz.prog 108 0).1 (rangeAt Tryz.prog 108 0).2.1 (rangeAt Tryz.prog 108 0).2.2 126 [(63,zN m),(87,zI (2*(N:Int))),(5,zI 0),(9,VJ 32 32 0 N 1),(89,VJ 40 40 0 m 1),(85,VJ 0 0 0 N 1),(4,zS),(8,V7 24 24 0),(88,zI (2*(N:Int)-2)),(12,VJ 40 40 0 m 1),(6,V7 8 8 0),(90,XG (WG 177) [] [V7 112 112 0]),(14,V7 80 80 0),(86,zN N)]⟩] 240⟩] 1000 64 (fun|⟨k,n,o,hk,hT,_⟩,Q,ZB,ZD=>.B 3 (0<=(k:Int)-1) (λ p3 Z6=>.K 7 (decide (0<=(k:Int)-1)&&decide ((k:Int)-1<m)) OH<|.O 2 ((i6 ws m m)[0+zq ((k:Int)-1)*1]?) (Fo (ax ws (zq ((k:Int)-1)))) (@BX ws (m) (m) (zq ((k:Int)-1)) om om)<|.K 8 (aT none (some (n:Int)) none (length (ax ws (zq ((k:Int)-1))))&&true) (by(have z:=hT.i.nextk om (((k:Int)-1).toNat) om;have z2:=hT.l;have z3:=dc ws (((k:Int)-1).toNat);have z4:(take n (ax ws ((k:Int)-1).toNat)).length=n:=WY z.1;exact jL rfl om))<|.V 2 17 (zI 0) (zN (dg (ax ws (zq ((k:Int)-1))) 0)) (by(rw[OG];rfl))<|.val 95 (V3 false n 2 (take (n*2) (flatMap dt (ax ws (zq ((k:Int)-1)))))) (V3 false n 2 (flatMap dt (take n (ax ws (zq ((k:Int)-1)))))) (by(refine congrArg (V3 false n 2) ?_;refine rc ?_ _ _;exact λ _=>rfl))<|Hn.inl T_ok ah true 126 312 (aq Tryz.prog 108 2) (λ(x:(j:Nat)×'(hj:j<=n)×'Unit)=>match x with|⟨j,hj,_⟩=>VZ [(4,zS),(5,zI 0),(6,V7 8 8 0),(8,V7 24 24 0),(14,V7 80 80 0),(16,V3 false (length (ax ws (zq ((k:Int)-1)))) 2 (flatMap dt (ax ws (zq ((k:Int)-1))))),(17,nD (dg (ax ws ((k:Int)-1).toNat) j)),(90,XG (WG 177) [] [V7 112 112 0]),(92,V3 false (length (ax ws (zq ((k:Int)-1)))) 2 (flatMap dt (ax ws (zq ((k:Int)-1))))),(93,V3 false (length (ax ws (zq ((k:Int)-1)))) 2 (flatMap dt (ax ws (zq ((k:Int)-1))))),(94,zN n),(95,.sl false n 2 ((take n (ax ws ((k:Int)-1).toNat)).flatMap dt)),(96,zN n),(97,nD j)] [⟨0,0,0,0,.b ⟨map nD S,3,true⟩⟩,⟨8,8,8,8,.b ⟨[VJ 0 0 0 N 1],152,false⟩⟩,⟨16,16,16,16,.b ⟨map dB o,5,true⟩⟩,⟨24,24,24,24,.b ⟨[VJ 16 16 0 L 1],24,false⟩⟩,⟨32,32,32,32,.b ⟨map nD ws,3,true⟩⟩,⟨40,40,40,40,.b ⟨i6 ws m m,225,true⟩⟩,⟨80,80,80,80,.b ⟨[zN n],3,false⟩⟩,⟨112,112,112,112,.b ⟨[VJ 40 40 0 m 1],224,false⟩⟩,⟨160,160,160,160,.l Zy none (rangeAt Tryz.prog 108 0).1 (rangeAt Tryz.prog 108 0).2.1 (rangeAt Tryz.prog 108 0).2.2 126 [(63,zN m),(87,zI (2*(N:Int))),(5,zI 0),(9,VJ 32 32 0 N 1),(89,VJ 40 40 0 m 1),(85,VJ 0 0 0 N 1),(4,zS),(8,V7 24 24 0),(88,zI (2*(N:Int)-2)),(12,VJ 40 40 0 m 1),(6,V7 8 8 0),(90,XG (WG 177) [] [V7 112 112 0]),(14,V7 80 80 0),(86,zN N)]⟩] 384) (λ(x:(j:Nat)×'(hj:j<=n)×'Unit)=>match x with|⟨j,hj,_⟩=>n-j) [⟨Unit,.exit 6,λ x=>match x with|()=>VZ [(4,zS),(5,zI 0),(6,V7 8 8 0),(8,V7 24 24 0),(14,V7 80 80 0),(16,V3 false (length (ax ws (zq ((k:Int)-1)))) 2 (flatMap dt (ax ws (zq ((k:Int)-1))))),(17,nD (dg (ax ws ((k:Int)-1).toNat) n)),(90,XG (WG 177) [] [V7 112 112 0]),(92,V3 false (length (ax ws (zq ((k:Int)-1)))) 2 (flatMap dt (ax ws (zq ((k:Int)-1))))),(93,V3 false (length (ax ws (zq ((k:Int)-1)))) 2 (flatMap dt (ax ws (zq ((k:Int)-1))))),(94,zN n),(96,zN n),(97,nD n)] [⟨0,0,0,0,.b ⟨map nD S,3,true⟩⟩,⟨8,8,8,8,.b ⟨[VJ 0 0 0 N 1],152,false⟩⟩,⟨16,16,16,16,.b ⟨map dB o,5,true⟩⟩,⟨24,24,24,24,.b ⟨[VJ 16 16 0 L 1],24,false⟩⟩,⟨32,32,32,32,.b ⟨map nD ws,3,true⟩⟩,⟨40,40,40,40,.b ⟨i6 ws m m,225,true⟩⟩,⟨80,80,80,80,.b ⟨[zN n],3,false⟩⟩,⟨112,112,112,112,.b ⟨[VJ 40 40 0 m 1],224,false⟩⟩,⟨160,160,160,160,.l Zy none (rangeAt Tryz.prog 108 0).1 (rangeAt Tryz.prog 108 0).2.1 (rangeAt Tryz.prog 108 0).2.2 126 [(63,zN m),(87,zI (2*(N:Int))),(5,zI 0),(9,VJ 32 32 0 N 1),(89,VJ 40 40 0 m 1),(85,VJ 0 0 0 N 1),(4,zS),(8,V7 24 24 0),(88,zI (2*(N:Int)-2)),(12,VJ 40 40 0 m 1),(6,V7 8 8 0),(90,XG (WG 177) [] [V7 112 112 0]),(14,V7 80 80 0),(86,zN N)]⟩] 384⟩] 1000 64 (fun|⟨j,hj,_⟩,Q,ZA,ZC=>.B 2 ((j:Int)<n) (λ p4 Z5=>.K 1 (true&&decide ((j:Int)<n)&&true) OH<|.K 2 (VN (j*2+2) (length (flatMap dt (take n (ax ws (zq ((k:Int)-1))))))) (by(rw[bj (k:=2) (λ(x:Pc)=>(rfl:(dt x).length=2)),VW];refine VL ?_;have z:=hT.i.nextk om (((k:Int)-1).toNat) om;have z2:=hT.l;have z3:=dc ws (((k:Int)-1).toNat);have z4:(take n (ax ws ((k:Int)-1).toNat)).length=n:=WY z.1;omega))<|.lst (take 2 (drop (j*2) (flatMap dt (take n (ax ws (zq ((k:Int)-1))))))) ([zN (Pc.w (getD (take n (ax ws (zq ((k:Int)-1)))) j lh)),D.v (.bool (Pc.p (getD (take n (ax ws (zq ((k:Int)-1)))) j lh)))]) (aJ (k:=2) (i:=j) (λ _=>rfl) Mj om)<|.R 11 (Pc.p (getD (take n (ax ws (zq ((k:Int)-1)))) j lh)) (λ p5=>.I 3 ((↑(dg (ax ws (zq ((k:Int)-1))) j):Int)+1) (by(have z:=hT.i.nextk om (((k:Int)-1).toNat) om;have z2:=hT.l;have z3:=dc ws (((k:Int)-1).toNat);have z4:(take n (ax ws ((k:Int)-1).toNat)).length=n:=WY z.1;have h7:=v6 (ax ws ((k:Int)-1).toNat) j;omega))<|.I 3 (j+1) Mj<|.V 1 17 (zI ((↑(dg (ax ws (zq ((k:Int)-1))) j):Int)+1)) (zN (dg (ax ws (zq ((k:Int)-1))) (j+1))) (by(have z:=hT.i.nextk om (((k:Int)-1).toNat) om;have z2:=hT.l;have z3:=dc ws (((k:Int)-1).toNat);have z4:(take n (ax ws ((k:Int)-1).toNat)).length=n:=WY z.1;refine aG ?_;rw[OK (n:=n) om z.1 aO];omega))<|.val 97 (zI (j+1)) (zN (j+1)) D9<|Hn.next ZA ⟨(j+1),om,⟨⟩⟩ UZ [(0,0),(8,8),(16,16),(24,24),(32,32),(40,40),(80,80),(112,112),(160,160)] t8) (λ p5=>.I 2 (j+1) Mj<|.V 1 17 (zN (dg (ax ws (zq ((k:Int)-1))) j)) (zN (dg (ax ws (zq ((k:Int)-1))) (j+1))) (by(have z:=hT.i.nextk om (((k:Int)-1).toNat) om;have z2:=hT.l;have z3:=dc ws (((k:Int)-1).toNat);have z4:(take n (ax ws ((k:Int)-1).toNat)).length=n:=WY z.1;rw[OL (n:=n) om z.1 aO]))<|.val 97 (zI (j+1)) (zN (j+1)) D9<|Hn.next ZA ⟨(j+1),om,⟨⟩⟩ UZ [(0,0),(8,8),(16,16),(24,24),(32,32),(40,40),(80,80),(112,112),(160,160)] t8)) (λ p4 Z5=>.val 17 (zN (dg (ax ws (zq ((k:Int)-1))) j)) (zN (dg (ax ws (zq ((k:Int)-1))) n)) (by(rw[show j=n from by omega]))<|.val 97 (zN j) (zN n) OH<|Hn.last ZC 0 (():Unit) rfl [(0,0),(8,8),(16,16),(24,24),(32,32),(40,40),(80,80),(112,112),(160,160)] t8)) (fun|⟨j,hj,_⟩=>by kernel_rfl) ⟨(0),om,⟨⟩⟩ [(0,0),(8,8),(16,16),(24,24),(32,32),(40,40),(80,80),(112,112),(160,160)] t8 (bM (fun|()=>.I 9 (n-(↑(dg (ax ws (zq ((k:Int)-1))) n):Int)) Mj<|.K 1 (aT none (some ((n:Int)-(↑(dg (ax ws (zq ((k:Int)-1))) n):Int))) none N&&true) (by(have z:=hT.i.nextk om (((k:Int)-1).toNat) om;have z2:=hT.l;have z3:=dc ws (((k:Int)-1).toNat);have z4:(take n (ax ws ((k:Int)-1).toNat)).length=n:=WY z.1;refine jL (n:=n-dg (ax ws ((k:Int)-1).toNat) n) ?_ ?_<;>omega))<|.M 2 16 16 (VF (map dB o) 5 true) (VF (map dB (cJ o S 0)) 5 true) (by(rw[oD]))<|Hn.inl T_ok ah true 126 312 (aq Tryz.prog 108 3) (λ(x:(j:Nat)×'(hj:j<=n-dg (ax ws ((k:Int)-1).toNat) n)×'Unit)=>match x with|⟨j,hj,_⟩=>VZ [(4,zS),(5,zI 0),(6,V7 8 8 0),(8,V7 24 24 0),(14,V7 80 80 0),(16,V3 false (length (ax ws (zq ((k:Int)-1)))) 2 (flatMap dt (ax ws (zq ((k:Int)-1))))),(17,zN (dg (ax ws (zq ((k:Int)-1))) n)),(90,XG (WG 177) [] [V7 112 112 0]),(92,V3 false (length (ax ws (zq ((k:Int)-1)))) 2 (flatMap dt (ax ws (zq ((k:Int)-1))))),(93,V3 false (length (ax ws (zq ((k:Int)-1)))) 2 (flatMap dt (ax ws (zq ((k:Int)-1))))),(94,zN n),(96,zN n),(97,zN n),(106,VJ 0 0 0 N 1),(107,zN n),(108,zN (dg (ax ws (zq ((k:Int)-1))) n)),(109,zI (n-(↑(dg (ax ws (zq ((k:Int)-1))) n):Int))),(110,VJ 0 0 0 (zq ((n:Int)-(↑(dg (ax ws (zq ((k:Int)-1))) n):Int))) 1),(111,zN (zq ((n:Int)-(↑(dg (ax ws (zq ((k:Int)-1))) n):Int)))),(112,nD j)] [⟨0,0,0,0,.b ⟨map nD S,3,true⟩⟩,⟨8,8,8,8,.b ⟨[VJ 0 0 0 N 1],152,false⟩⟩,⟨16,16,16,16,.b ⟨(cJ o S j).map dB,5,true⟩⟩,⟨24,24,24,24,.b ⟨[VJ 16 16 0 L 1],24,false⟩⟩,⟨32,32,32,32,.b ⟨map nD ws,3,true⟩⟩,⟨40,40,40,40,.b ⟨i6 ws m m,225,true⟩⟩,⟨80,80,80,80,.b ⟨[zN n],3,false⟩⟩,⟨112,112,112,112,.b ⟨[VJ 40 40 0 m 1],224,false⟩⟩,⟨160,160,160,160,.l Zy none (rangeAt Tryz.prog 108 0).1 (rangeAt Tryz.prog 108 0).2.1 (rangeAt Tryz.prog 108 0).2.2 126 [(63,zN m),(87,zI (2*(N:Int))),(5,zI 0),(9,VJ 32 32 0 N 1),(89,VJ 40 40 0 m 1),(85,VJ 0 0 0 N 1),(4,zS),(8,V7 24 24 0),(88,zI (2*(N:Int)-2)),(12,VJ 40 40 0 m 1),(6,V7 8 8 0),(90,XG (WG 177) [] [V7 112 112 0]),(14,V7 80 80 0),(86,zN N)]⟩] 384) (λ(x:(j:Nat)×'(hj:j<=n-dg (ax ws ((k:Int)-1).toNat) n)×'Unit)=>match x with|⟨j,hj,_⟩=>n-dg (ax ws ((k:Int)-1).toNat) n-j) [⟨Unit,.exit 8,λ x=>match x with|()=>VZ [(4,zS),(5,zI 0),(6,V7 8 8 0),(8,V7 24 24 0),(14,V7 80 80 0),(16,V3 false (length (ax ws (zq ((k:Int)-1)))) 2 (flatMap dt (ax ws (zq ((k:Int)-1))))),(17,zN (dg (ax ws (zq ((k:Int)-1))) n)),(90,XG (WG 177) [] [V7 112 112 0]),(92,V3 false (length (ax ws (zq ((k:Int)-1)))) 2 (flatMap dt (ax ws (zq ((k:Int)-1))))),(93,V3 false (length (ax ws (zq ((k:Int)-1)))) 2 (flatMap dt (ax ws (zq ((k:Int)-1))))),(94,zN n),(96,zN n),(97,zN n),(106,VJ 0 0 0 N 1),(107,zN n),(108,zN (dg (ax ws (zq ((k:Int)-1))) n)),(109,zI (n-(↑(dg (ax ws (zq ((k:Int)-1))) n):Int))),(110,VJ 0 0 0 (zq ((n:Int)-(↑(dg (ax ws (zq ((k:Int)-1))) n):Int))) 1),(111,zN (zq ((n:Int)-(↑(dg (ax ws (zq ((k:Int)-1))) n):Int))))] [⟨0,0,0,0,.b ⟨map nD S,3,true⟩⟩,⟨8,8,8,8,.b ⟨[VJ 0 0 0 N 1],152,false⟩⟩,⟨16,16,16,16,.b ⟨(cJ o S (n-dg (ax ws ((k:Int)-1).toNat) n)).map dB,5,true⟩⟩,⟨24,24,24,24,.b ⟨[VJ 16 16 0 L 1],24,false⟩⟩,⟨32,32,32,32,.b ⟨map nD ws,3,true⟩⟩,⟨40,40,40,40,.b ⟨i6 ws m m,225,true⟩⟩,⟨80,80,80,80,.b ⟨[zN n],3,false⟩⟩,⟨112,112,112,112,.b ⟨[VJ 40 40 0 m 1],224,false⟩⟩,⟨160,160,160,160,.l Zy none (rangeAt Tryz.prog 108 0).1 (rangeAt Tryz.prog 108 0).2.1 (rangeAt Tryz.prog 108 0).2.2 126 [(63,zN m),(87,zI (2*(N:Int))),(5,zI 0),(9,VJ 32 32 0 N 1),(89,VJ 40 40 0 m 1),(85,VJ 0 0 0 N 1),(4,zS),(8,V7 24 24 0),(88,zI (2*(N:Int)-2)),(12,VJ 40 40 0 m 1),(6,V7 8 8 0),(90,XG (WG 177) [] [V7 112 112 0]),(14,V7 80 80 0),(86,zN N)]⟩] 384⟩] 1000 64 (fun|⟨j,hj,_⟩,Q,ZA,ZC=>.B 2 ((j:Int)<(↑(zq ((n:Int)-(↑(dg (ax ws (zq ((k:Int)-1))) n):Int))):Int)) (λ p6 p6f=>.K 1 (true&&decide ((j:Int)<(↑(zq ((n:Int)-(↑(dg (ax ws (zq ((k:Int)-1))) n):Int))):Int))) aO<|.O 2 ((map nD S)[0+j*1]?) (nD (getD S (0+j*1) lh)) (am _ _ OH)<|.K 6 (true&&decide ((↑(getD S (0+j*1) lh):Int)<(L:Int))) U0<|.O 2 ((map dB (cJ o S j))[0+getD S (0+j*1) lh*1]?) (dB (getD (cJ o S j) (0+getD S (0+j*1) lh*1) lh)) (am _ _ (by(have z:=hT.i.nextk om (((k:Int)-1).toNat) om;have z2:=hT.l;have z3:=dc ws (((k:Int)-1).toNat);have z4:(take n (ax ws ((k:Int)-1).toNat)).length=n:=WY z.1;have h9:=hA.at (t:=0+j*1) om;have h8:=cK o S j;omega)))<|.O 2 (ay .u8 ((↑(VE (getD (cJ o S j) (0+getD S (0+j*1) lh*1) lh)):Int)+1)) (bI (((↑(VE (getD (cJ o S j) (0+getD S (0+j*1) lh*1) lh)):Int)+1)%256)) (aE _ _)<|.K 1 (true&&decide ((↑(getD S (0+j*1) lh):Int)<(L:Int))) U0<|.K 1 (true&&VN (0+getD S (0+j*1) lh*1+1) (length (map dB (cJ o S j)))) (by(rw[VP];have z:=hT.i.nextk om (((k:Int)-1).toNat) om;have z2:=hT.l;have z3:=dc ws (((k:Int)-1).toNat);have z4:(take n (ax ws ((k:Int)-1).toNat)).length=n:=WY z.1;have h9:=hA.at (t:=0+j*1) om;have h8:=cK o S j;simp only[V8];refine VL ?_;omega))<|.lst (ag (map dB (cJ o S j)) (0+getD S (0+j*1) lh*1) [bI (((↑(VE (getD (cJ o S j) (0+getD S (0+j*1) lh*1) lh)):Int)+1)%256)]) (ag (map dB (cJ o S j)) (getD S j lh) [bI (((↑(VE (getD (cJ o S j) (getD S j lh) lh)):Int)+1)%256)]) (by(simp;done))<|.I 2 (j+1) Mj<|.V 1 112 (zI (j+1)) (zN (j+1)) D9<|.blk 16 16 (VF (ag (map dB (cJ o S j)) (getD S j lh) [bI (((↑(VE (getD (cJ o S j) (getD S j lh) lh)):Int)+1)%256)]) 5 true) (VF (map dB (cJ o S (j+1))) 5 true) (by(have z:=hT.i.nextk om (((k:Int)-1).toNat) om;have z2:=hT.l;have z3:=dc ws (((k:Int)-1).toNat);have z4:(take n (ax ws ((k:Int)-1).toNat)).length=n:=WY z.1;have h9:=hA.at (t:=0+j*1) om;have h8:=cK o S j;refine aw (OM om ?_ ?_ ?_)<;>first|(simp only[Wd,V5];done)|rfl|(simp only[Wd,V5]at *;omega)))<|Hn.next ZA ⟨(j+1),om,⟨⟩⟩ (by show n-dg (ax ws (zq ((k:Int)-1))) n-(j+1)<n-dg (ax ws (zq ((k:Int)-1))) n-j;clear ZA ZC ZB ZD;omega) [(0,0),(8,8),(16,16),(24,24),(32,32),(40,40),(80,80),(112,112),(160,160)] t8) (λ p6 p6f=>.blk 16 16 (VF (map dB (cJ o S j)) 5 true) (VF (map dB (cJ o S (n-dg (ax ws (zq ((k:Int)-1))) n))) 5 true) (by(rw[show j=n-dg (ax ws ((k:Int)-1).toNat) n from by omega]))<|Hn.last ZC 0 (():Unit) rfl [(0,0),(8,8),(16,16),(24,24),(32,32),(40,40),(80,80),(112,112),(160,160)] t8)) (fun|⟨j,hj,_⟩=>by kernel_rfl) ⟨(0),om,⟨⟩⟩ [(0,0),(8,8),(16,16),(24,24),(32,32),(40,40),(80,80),(112,112),(160,160)] t8 (bM (fun|()=>.I 3 (2*(↑(dg (ax ws (zq ((k:Int)-1))) n):Int)) Mj<|.W 8 (k-1-1)<|.V 1 3 (zI (k-1-1)) (zI ((↑(k-1):Int)-1)) OH<|.blk 80 80 (VF [zI (2*(↑(dg (ax ws (zq ((k:Int)-1))) n):Int))] 3 false) (VF [zN (2*dg (ax ws (zq ((k:Int)-1))) n)] 3 false) (by(exact H9 om))<|Hn.next ZB ⟨(k-1),(2*dg (ax ws ((k:Int)-1).toNat) n),(cJ o S (n-dg (ax ws ((k:Int)-1).toNat) n)),om,(by(exact hT.next' om _ om)),⟨⟩⟩ (by show k-1<k;clear ZB ZD;omega) [(0,0),(8,8),(16,16),(24,24),(32,32),(40,40),(80,80),(112,112),(160,160)] t8))))) (λ p3 Z6=>.blk 16 16 (VF (map dB o) 5 true) (VF (map dB T) 5 true) (by(rw[hT.last om]))<|Hn.last ZD 0 (⟨(n),⟨⟩⟩:(n2:Nat)×'Unit) rfl [(0,0),(8,8),(16,16),(24,24),(32,32),(40,40),(80,80),(112,112),(160,160)] t8)) (fun|⟨k,n,o,hk,hT,_⟩=>by kernel_rfl) ⟨(m),(2*N-2),(replicate L 0),om,om,⟨⟩⟩ [(0,0),(8,8),(16,16),(24,24),(32,32),(40,40),(80,80),(112,112),(160,160)] t8 (bM (fun|⟨n2,_⟩=>.Y 5 [16] [16] (WL [VJ 0 0 0 L 1,zI 0]) [VF (map dB T) 5 true] ok))))))) kr
theorem RI {p:Prop}(h:p:=by(have h9:=hA.at (t:=0) om;refine decide_eq_true ?_;omega)):p:=h
theorem U1 {p:Prop}(h:p:=by(have h9:((zB.bytes:Nat):Int)=1:=rfl;rw[h9];simp;omega)):p:=h
theorem OO (W:List Nat)(L:Nat)(hL:L=W.length)(hL2:L<=320)(hB:∀t,W.getD t lh<=1073741824)(m:Nat)(hm:1<=m∧m<=15)(S:List Nat)(hS:cM W=S)(N:Nat)(hN:N=S.length)(hNm:N<=2^m)(hA:bP L S)(hN3:N<=320)(h2:N=1):S0 108 [.sl false L 1 (W.map nD),nD m] [] (.tup [.ref 0 0 0 L 1,iD 0]) [⟨((V1 L (0:UInt8)).set (S.getD 0 lh) (WI 1)).map dB, 5,true⟩]:=SpR Tryz.func108 rfl rfl rfl ⟨aI _,trivial⟩ rfl 1000 64 (λ R ok=>.C 5 144 false [] (.fn Ju (@rA (W) (L) om om om (m) om (S) aO (N) aO om))<|.K 18 (true&&decide ((L:Int)<=L)&&true&&true&&true&&true&&decide ((↑(YO zB):Int)*(L:Int)<=140737488355328)) U1<|.E 11 ((N:Int)==1) RI<|.K 8 (true&&decide (0<(N:Int))) RI<|.O 2 ((map nD S)[0]?) (nD (getD S 0 lh)) (am _ _ om)<|.K 1 (true&&decide ((↑(getD S 0 lh):Int)<(L:Int))) RI<|.K 1 (true&&VN (0+getD S 0 lh*1+1) (length (bZ [bI 0] (L*1)))) (by(have h9:=hA.at (t:=0) om;rw[mp,VP,Wk,V8];refine VL ?_;omega))<|.lst (ag (bZ [bI 0] (L*1)) (0+getD S 0 lh*1) [bI 1]) (ag (bZ [bI 0] L) (getD S 0 lh) [bI 1]) (by(simp;done))<|.E 6 (decide ((N:Int)<2)) RI<|.U 5 [120] [120] (WL [VJ 0 0 0 L 1,zI 0]) [VF (ag (bZ [bI 0] L) (getD S 0 lh) [bI 1]) 5 true] R (ok _ _ wr (by(have h9:=hA.at (t:=0) om;have e:=mp L;rw[V5]at e;rw[e];exact congrArg (λ z=>[VF z 5 true]) (jK (a:=1) (by decide) (by rw[Wk];omega)))))) kr
theorem OP (W:List Nat)(L:Nat)(hL:L=W.length)(hL2:L<=320)(hB:∀t,W.getD t lh<=1073741824)(m:Nat)(hm:1<=m∧m<=15)(S:List Nat)(hS:cM W=S)(N:Nat)(hN:N=S.length)(hNm:N<=2^m)(hA:bP L S)(hN3:N<=320)(h2:N=0):S0 108 [.sl false L 1 (W.map nD),nD m] [] (.tup [.ref 0 0 0 L 1,iD 0]) [⟨(V1 L (0:UInt8)).map dB, 5,true⟩]:=SpR Tryz.func108 rfl rfl rfl ⟨aI _,trivial⟩ rfl 1000 64 (λ R ok=>.C 5 144 false [] (.fn Ju (@rA (W) (L) om om om (m) om (S) aO (N) aO om))<|.K 18 (true&&decide ((L:Int)<=L)&&true&&true&&true&&true&&decide ((↑(YO zB):Int)*(L:Int)<=140737488355328)) U1<|.F 11 ((N:Int)==1) (by(refine decide_eq_false ?_;(omega)))<|.E 6 (decide ((N:Int)<2)) (by(refine decide_eq_true ?_;(omega)))<|.U 5 [120] [120] (WL [VJ 0 0 0 L 1,zI 0]) [VF (bZ [bI 0] (L*1)) 5 true] R (ok _ _ wr (by(rw[mp])))) kr
def rB (W S:List Nat)(m:Nat):Z4:=
 if S.length=0 then V1 W.length 0 else if S.length=1 then(V1 W.length 0).set (S.getD 0 lh) (WI 1)
 else xI (nc W S S.length) S m (2*S.length-2) (V1 W.length 0)
def bK (W:List Nat)(m:Nat):Z4:=lk W (rB W (cM W) m)
theorem ir (W:List Nat)(m:Nat):bK W m=rB W (cM W) m:=aP _ _
theorem nh (ws S:List Nat):∀(k n:Nat) (o:Z4),(xI ws S k n o).length=o.length
 |0,_,_=>rfl
 |k+1,n,o=>by rw[xI,nh ws S k,cK]
theorem kM (W:List Nat)(m:Nat):(bK W m).length=W.length:=by
 rw[ir,rB]
 split
 ·rw[Wk]
 ·split
  ·rw[Xz,Wk]
  ·rw[nh,Wk]
theorem OQ (W:List Nat)(L:Nat)(hL:L=W.length)(hL2:L<=320)(hB:∀t,W.getD t lh<=1073741824)(m:Nat)(hm:1<=m∧m<=15)(hNm:(eZ W L).length<=2^m):S0 108 [.sl false L 1 (W.map nD),nD m] [] (.tup [.ref 0 0 0 L 1,iD 0]) [⟨(bK W m).map dB, 5,true⟩]:=by
 have hp:=dr W;have hl:=hp.length_eq;have hA:bP L (cM W):=by rw[hL];exact ox.perm hp
 have h3:=j6 W L;rw[<-hL]at hl;rw[ir,rB]
 by_cases c0:(cM W).length=0
 ·rw[ZF c0,<-hL]
  exact OP W L hL hL2 hB m hm _ rfl _ rfl om hA om c0
 ·rw[ZE c0]
  by_cases c1:(cM W).length=1
  ·rw[ZF c1,<-hL]
   exact OO W L hL hL2 hB m hm _ rfl _ rfl om hA om c1
  ·rw[ZE c1,<-hL]
   have hwl:(nc W (cM W) (cM W).length).length=(cM W).length:=kK (VT _);refine ON W L hL hL2 hB m hm _ rfl _ rfl om hA om om _ rfl hwl (λ w hw=>?_) _ ⟨?_,Wk,rfl⟩
   ·rw[oy]at hw
    obtain⟨i,_,rfl⟩:=List.mem_map.1 hw;exact hB i
   ·have q:=LnI.first (ws:=nc W (cM W) (cM W).length) hm.1 (by rw[hwl];omega) (by rw[hwl];omega)
    rwa [hwl]at q
theorem RJ {p:Prop}(h:p:=by rw[Wk]):p:=h
def zG (l:List Pc):Nat:=(l.filter (λ x=>!x.p)).length
def xK (l:List Pc):Nat:=(l.filter (·.p)).length
def sW (l:List Pc):List Nat:=(l.filter (λ x=>!x.p)).map (·.w)
theorem rC (a b:List Pc):zG (a++b)=zG a+zG b:=by unfold zG;rw[Xo,VI]
theorem xM (a b:List Pc):xK (a++b)=xK a+xK b:=by unfold xK;rw[Xo,VI]
theorem oF (ws:List Nat):zG (ga ws)=ws.length∧xK (ga ws)=0:=by
 unfold zG xK ga;refine⟨?_,?_⟩
 ·rw[List.filter_eq_self.2 (λ x hx=>by obtain⟨w,_,rfl⟩:=List.mem_map.1 hx;rfl),VP]
 ·rw[List.filter_eq_nil_iff.2 (λ x hx=>by obtain⟨w,_,rfl⟩:=List.mem_map.1 hx;simp)];rfl
theorem oG (ws:List Nat)(n:Nat):(ga ws).take n=ga (ws.take n):=by unfold ga;rw[XZ]
theorem BZ (ws:List Nat):sW (ga ws)=ws:=by
 unfold sW ga;rw[List.filter_eq_self.2 (λ x hx=>by obtain⟨w,_,rfl⟩:=List.mem_map.1 hx;rfl),List.map_map];exact List.map_id ws
theorem B0 (s:Nat):∀ws:List Nat,∃em,(fa s ws).1=ga em++[⟨s,true⟩]∧ws=em++(fa s ws).2∧∀u r,(fa s ws).2=u::r->s<u
 |[]=>⟨[],rfl,rfl,λ u r h=>by cases h⟩
 |w::r=>by
  rw[fa];split
  ·next q=>exact⟨[],rfl,rfl,λ u r' h=>by cases h;exact q⟩
  ·obtain⟨em,h1,h2,h3⟩:=B0 s r
   exact⟨w::em,by rw[h1];rfl,by rw[Yh,<-h2],h3⟩
theorem B1:∀(row:List Pc) (ws:List Nat),sW (fP row ws)=ws
 |[],ws=>BZ ws
 |[_],ws=>BZ ws
 |x::y::r,ws=>by
  obtain⟨em,h1,h2,_⟩:=B0 (x.w+y.w) ws;have ih:=B1 r (fa (x.w+y.w) ws).2;rw[fP,h1];unfold sW at *;rw[Xo,Wz,ih,Xo,Wz];have e:=BZ em;unfold sW at e;rw[e];show(em++[])++_=ws;rw[WN,<-h2]
theorem Kg (ws:List Nat):∀k,sW (ax ws k)=ws
 |0=>by rw[<-oz,fQ];exact B1 _ _
 |k+1=>by rw[<-ly,fQ];exact B1 _ _
theorem xN:∀(row:List Pc) (v ws:List Nat),sW row=v++ws->∀n,zG (row.take (2*xK ((fP row ws).take n)))<=v.length+zG ((fP row ws).take n)
 |[],v,ws,_,n=>by
  have e:(fP [] ws).take n=ga (ws.take n):=oG ws n;rw[e,(oF _).2];exact Wy _
 |[x],v,ws,_,n=>by
  have e:(fP [x] ws).take n=ga (ws.take n):=oG ws n;rw[e,(oF _).2];exact Wy _
 |x::y::r,v,ws,h,n=>by
  obtain⟨em,h1,h2,h3⟩:=B0 (x.w+y.w) ws;have ih:=xN r;rw[fP,h1];generalize(fa (x.w+y.w) ws).2=ws' at *;rcases Wl em.length n with q|q
  ·have e:(ga em++[(⟨x.w+y.w,true⟩:Pc)]++fP r ws').take n=(ga em++[(⟨x.w+y.w,true⟩:Pc)])++(fP r ws').take (n-(em.length+1)):=by
    have l:(ga em++[(⟨x.w+y.w,true⟩:Pc)]).length=em.length+1:=by unfold ga;rw[VI,VP];rfl
    rw[List.take_append,l,List.take_of_length_le om]
   rw[e,xM,xM,rC,rC,(oF em).1,(oF em).2];show zG ((x::y::r).take (2*(0+1+_)))<=v.length+(em.length+0+_);generalize hZ:(fP r ws').take (n-(em.length+1))=Z;have hk:sW (x::y::r)=sW [x,y]++sW r:=by
    unfold sW;rw[show x::y::r=[x,y]++r from rfl,Xo,Wz]
   have hs:∀u∈sW [x,y],u<=x.w+y.w:=λ u hu=>by
    obtain⟨p,hp,rfl⟩:=List.mem_map.1 hu;rcases List.mem_cons.1 (List.mem_filter.1 hp).1 with rfl|hp
    ·omega
    ·cases List.mem_singleton.1 hp;omega
   have hl:(sW [x,y]).length=zG [x,y]:=by unfold sW zG;rw[VP]
   rw[hk,h2,<-Wc]at h;have hc:(sW [x,y]).length<=(v++em).length:=by
    rcases Wl (v++em).length (sW [x,y]).length with z|z
    ·exfalso
     have g:(sW [x,y]++sW r)[(v++em).length]? =(v++em++ws')[(v++em).length]?:=by rw[h]
     rw[Wi z,We (VT _),W5,VG z]at g
     cases hw:ws' with
     |nil=>rw[hw]at g;cases g
     |cons u t=>
      rw[hw]at g;have g2:(sW [x,y])[(v++em).length]=u:=Option.some.inj g;have:=hs _ (WE z);have:=h3 u t hw;omega
    ·exact z
   have hr:sW r=(v++em).drop (sW [x,y]).length++ws':=by
    have g:=congrArg (Wx (sW [x,y]).length) h
    rwa [List.drop_left,List.drop_append_of_le_length hc]at g
   have i2:=ih _ ws' hr (n-(em.length+1));rw[hZ,Wr,VI,hl]at i2;rw[VI,hl]at hc;have e3:(x::y::r).take (2*(0+1+xK Z))=[x,y]++r.take (2*xK Z):=by
    rw[show 2*(0+1+xK Z)=2*xK Z+1+1 from by omega];rfl
   rw[e3,rC];omega
  ·have e:(ga em++[(⟨x.w+y.w,true⟩:Pc)]++fP r ws').take n=ga (em.take n):=by
    have l:n<=(ga em).length:=by unfold ga;rw[VP];exact q
    rw[Wc,XP l,oG]
   rw[e,(oF _).2];exact Wy _
def Ib (l:List Nat)(j:Nat):List Nat:=(l.take j).map (· +1)++l.drop j
def oH (m:Nat):List Nat->Nat
 |[]=>0
 |x::r=>2^(m-x)+oH m r
theorem rD (m:Nat)(a b:List Nat):oH m (a++b)=oH m a+oH m b:=by
 induction a with
 |nil=>simp[oH]
 |cons x a ih=>rw[Yh,oH,oH,ih,Xr]
theorem kN (m d:Nat):∀a,oH m (V1 a d)=a*2^(m-d)
 |0=>by simp[oH]
 |a+1=>by rw[List.replicate_succ,oH,kN m d a,ZZ,Nat.add_comm]
def Fp (ws:List Nat):Nat->Nat->List Nat->List Nat
 |0,_,l=>l
 |k+1,n,l=>Fp ws k (2*dg (ax ws k) n) (Ib l (n-dg (ax ws k) n))
theorem xP (a b d:Nat):V1 (a+b) d=V1 a d++V1 b d:=List.replicate_append_replicate.symm
structure KrI (ws:List Nat)(m k n a:Nat)(l:List Nat):Prop where
 i:LnI ws k n
 km:k<=m
 z:k=0->n=0
 nx:k≠0->n-dg (ax ws (k-1)) n<=a
 sh:∃r,l=V1 a (m-k)++r∧∀x∈r,x<=m-k
 ph:2*oH m l=2*2^m+n*2^k
theorem B2 (l:List Pc):l.length=xK l+zG l:=by unfold xK zG;exact nf l
theorem B3 (row:List Pc)(n:Nat):dg row n=xK (row.take n):=ip row n
theorem KrI.next {ws:List Nat}{m k n a:Nat}{l:List Nat}(h:KrI ws m (k+1) n a l):KrI ws m k (2*dg (ax ws k) n) (n-dg (ax ws k) n) (Ib l (n-dg (ax ws k) n)):=by
 have hn:=LnI.next h.i;have ha:=h.nx (XL k);rw[Xf]at ha;obtain⟨r,hr,hx⟩:=h.sh;have hkm:=h.km;generalize hc:dg (ax ws k) n=c at *;refine⟨hn.2.2.2,by omega,λ hk=>?_,λ hk=>?_,?_,?_⟩
 ·subst hk
  have q:=nd (ax ws 0) n;rw[(iq ws 0).2.1,ZF rfl,hc]at q;omega
 ·obtain⟨j,rfl⟩:∃j,k=j+1:=⟨k-1,by omega⟩
  rw[Xf];have q:=xN (ax ws j) [] ws (Kg ws j) n;rw[<-fQ,ly,<-B3,hc]at q;have q2:=B2 ((ax ws (j+1)).take n);rw[<-B3,hc,VW]at q2;have q3:=B2 ((ax ws j).take (2*c));have q4:=(hn.2.2.2).a (XL j);rw[Xf]at q4;rw[<-B3,VW]at q3;have q5:([]:List Nat).length=0:=rfl;omega
 ·refine⟨V1 (a-(n-c)) (m-(k+1))++r,?_,λ x hx2=>?_⟩
  ·unfold Ib
   rw[hr,show a=(n-c)+(a-(n-c))from by omega,xP,YW,Wc,List.take_left' RJ,List.drop_left' RJ,XU,show m-(k+1)+1=m-k from by omega]
  ·rcases List.mem_append.1 hx2 with q|q
   ·have:=(List.mem_replicate.1 q).2;omega
   ·have:=hx x q;omega
 ·have hp:=h.ph
  have e:l=V1 (n-c) (m-(k+1))++(V1 (a-(n-c)) (m-(k+1))++r):=by
   rw[hr,<-Wc,<-xP,show n-c+(a-(n-c))=a from by omega]
  have e2:Ib l (n-c)=V1 (n-c) (m-k)++(V1 (a-(n-c)) (m-(k+1))++r):=by
   unfold Ib;rw[e,List.take_left' RJ,List.drop_left' RJ,XU,show m-(k+1)+1=m-k from by omega]
  rw[e,rD,kN,show m-(m-(k+1))=k+1 from by omega]at hp;rw[e2,rD,kN,show m-(m-k)=k from by omega];generalize oH m (V1 (a-(n-c)) (m-(k+1))++r)=Q at *;have e3:n=(n-c)+c:=by omega
  generalize n-c=b at *;subst e3;rw[Xj]at hp;generalize 2^k=P at *;rw[WV,XE P 2,<-Xn,<-Xn,XE b 2,XE c 2,Xn 2 b P,Xn 2 c P]at hp;rw[Xn 2 c P];omega
theorem KrI.last {ws:List Nat}{m:Nat}:∀(k n a:Nat) (l:List Nat),KrI ws m k n a l->oH m (Fp ws k n l)=2^m∧(∀x∈Fp ws k n l,x<=m)∧(Fp ws k n l).length=l.length
 |0,n,a,l,h=>by
  have hz:=h.z rfl;have hp:=h.ph;rw[hz,Xl]at hp;obtain⟨r,hr,hx⟩:=h.sh;refine⟨by rw[Fp];omega,λ x hx2=>?_,rfl⟩;rw[Fp,hr]at hx2;rcases List.mem_append.1 hx2 with q|q
  ·have:=(List.mem_replicate.1 q).2;omega
  ·have:=hx x q;omega
 |k+1,n,a,l,h=>by
  have q:=KrI.last k _ _ _ h.next;rw[Fp];refine⟨q.1,q.2.1,q.2.2.trans ?_⟩;unfold Ib;rw[VI,VP,VW,Wr];omega
theorem xQ {m:Nat}:∀{l:List Nat},oH m l=2^m->2<=l.length->∀x∈l,x≠0:=fun{l} h h2 x hx h0=>by
 obtain⟨a,b,rfl⟩:=List.append_of_mem hx;rw[rD,oH,h0,Nat.sub_zero]at h;have pos:∀l:List Nat,l.length<=oH m l:=λ l=>by
  induction l with
  |nil=>exact VT _
  |cons y l ih=>rw[oH,Wj];have:=XT (m-y);omega
 have p1:=pos a;have p2:=pos b;rw[VI,Wj]at h2;omega
theorem B4 {m:Nat}(hm:m<=15):∀l:List Nat,(∀x∈l,x<=m)->oH 15 l=2^(15-m)*oH m l
 |[],_=>rfl
 |x::r,h=>by
  have hx:=h x Wb;rw[oH,oH,B4 hm r (λ y hy=>h y (Wa _ hy)),Yf,<-aaq,show 15-m+(m-x)=15-x from by omega]
end Vp
end Go.Proofs.YtefjnofhgkjpmaaGreat

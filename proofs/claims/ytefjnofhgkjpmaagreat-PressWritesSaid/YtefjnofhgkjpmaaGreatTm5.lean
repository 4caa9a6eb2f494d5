/- Part 5. -/
import Derived.Test.YtefjnofhgkjpmaaGreatTm2
import Derived.Test.YtefjnofhgkjpmaaGreatTm3
import Derived.Test.YtefjnofhgkjpmaaGreatTm4
set_option linter.all false
set_option maxRecDepth 100000
set_option maxHeartbeats 4000000
open And renaming intro → Wn
open Bool renaming and_eq_true → Wh, and_self → aa9, and_true → WV, not_eq_true' → XX, true_and → WM, true → Ga, false → Gd
open Go.IntKind renaming i64 → Wv, wrap → Wo
open Go.Vx.Blk renaming mk → V8
open Go.Vx.CallOk renaming fn → Ws
open Go.Vx.CutS renaming mk → Wr
open Go.Vx.D renaming agg → W6, ptr → WA, ref → Wb, sl → Wu, tup → Xm
open Inhabited renaming default → lb
open Int renaming tdiv → XD, tmod → XG, toNat → zL
open List renaming append_assoc → WI, append_nil → Xn, count_append → YT, drop → WT, drop_eq_nil_of_le → Xv, drop_zero → XR, ext_getElem → abE, ext_getElem? → Xe, flatMap_append → Xj, flatMap_cons → XE, getD_eq_getElem?_getD → Wd, getElem?_eq_getElem → Wa, getElem?_eq_none → WL, getElem?_map → WB, getElem?_replicate → XI, getElem?_set → XA, getElem?_zipWith → ZO, getElem_mem → Xf, getElem_of_mem → aa4, length → aaq, length_append → Wc, length_cons → WQ, length_drop → Wy, length_map → Wj, length_replicate → WP, length_set → X8, length_singleton → W7, length_take → Wi, map → Yg, map_append → W4, map_cons → XB, map_id → aat, map_map → YJ, map_take → Yx, mem_cons_of_mem → WG, mem_cons_self → WH, mem_of_mem_drop → YA, mem_of_mem_take → Xs, replicate → Wt, replicate_succ → aai, replicate_succ' → aaZ, set_append_right → Y6, set_cons_zero → abh, take → WS, take_append_drop → Yp, take_length → XF, take_of_length_le → WN, take_succ_cons → X9, take_succ_eq_append_getElem → WW, take_zero → Zg, length → v0, flatMap → v8, getD → wm, map → wo, take → wx, drop → Ag, replicate → Ar
open Nat renaming add_mul → Xt, add_sub_cancel → XK, add_zero → X4, beq → V9, beq_eq → Yh, beq_refl → Xk, ble → Wf, ble_eq → XM, ble_eq_true_of_le → We, eq_of_beq_eq_true → Wk, le_of_ble_eq_true → Wm, le_refl → Wl, le_trans → Ww, lt_of_le_of_lt → abi, lt_of_lt_of_le → WX, lt_of_not_le → abF, lt_or_ge → WR, lt_succ_of_lt → aau, lt_trichotomy → Ym, mod_lt → Zd, mul_add → YM, mul_le_mul_right → W8, mul_one → Wx, one_mul → Zx, pow_le_pow_right → Xh, sub_self → Xz, zero_add → WE, zero_le → W5, zero_mul → XQ, zero_testBit → abG
open Prod renaming fst → Wz, snd → Wg
open UInt8 renaming ofNat → Xg, toNat → V7, toNat_lt → Xb
open Option renaming some → Ge, none → z9
open Decidable renaming decide → Ao
open Go.Vx.Hn renaming next → Aw, last → BO, inl → BY
variable{p:Prop}
namespace Go.Proofs.YtefjnofhgkjpmaaGreat
open Go.RowKit Go.Bw Go.Vx
open List (length getD map take drop flatMap replicate)
namespace Vp
def uO(h:p:=by(simp only[lN];simp;omega)):=h
def Gn(h:p:=by(refine aq ?_;rw[Xj];rfl)):=h
def Gp(h:p:=by show f-1<f;clear ZB ZD;omega):=h
def PZ(h:p:=by(have e9:(((2*j:Nat):Int)+1).toNat=2*j+1:=om;have e8:(X.getD (2*j) lb).2.length=n:=hl (2*j) om;have e6:(X.getD (2*j+1) lb).2.length=n:=hl (2*j+1) om;have e7:(X.getD (((2*j:Nat):Int)+1).toNat lb).2.length=n:=(by rw[e9];exact e6);omega)):=h
def P1(h:p:=by(exact UA hR om om (λ q=>by have:=q.2;unfold bN at this;omega))):=h
abbrev Pa:=Nat×Gw
abbrev GW:=List Pa
def pB (n k:Nat):Gw:=(Wt n 0).set k 1
def ci (p:Pa):GA:=[nD p.1,.sl Gd p.2.length 1 (p.2.map nD)]
def dP (F I:Gw):Nat->GW
 |0=>[]
 |k+1=>dP F I k++[(F.getD (I.getD k 0) 0,pB I.length k)]
def eQ (F I:Gw):∀k,(dP F I k).length=k
 |0=>rfl
 |k+1=>by rw[dP,Wc,eQ F I k];rfl
def lN (X:GW):(X.flatMap ci).length=X.length*2:=bg (k:=2) (λ x=>(rfl:(ci x).length=2)) X
def yH (n k:Nat):(pB n k).length=n:=by unfold pB;rw[X8,WP]
def yI {L:Gw}{k:Nat}(h:k<L.length):(L.map nD)[0+k*1]? =Ge (nD (L.getD k lb)):=by
 rw[WE,Wx,WB,Wd,Wa h];rfl
def I0 (n:Nat):bR [D.v (.int .i64 0)] n=(Wt n 0).map nD:=by
 apply abE
 ·simp[bR]
 ·intro i h1 h2
  simp[bR,Nat.mod_one]
def P2 {M:Gw}{o a:Nat}(ho:o<M.length):ac (M.map nD) o [nD a]=(M.set o a).map nD:=by
 apply Xe;intro i;rw[ck (by simp;omega),List.map_set,XA,Wj]
 by_cases h:o=i
 ·subst h
  rw[ZF (by simp),ZF rfl,ZF ho,Xz];rfl
 ·rw[ZE (by simp only[W7];omega),ZE h]
def I1 {n k:Nat}(h:k<n):ac (bR [D.v (.int .i64 0)] n) k [D.v (.int .i64 1)]=(pB n k).map nD:=by
 rw[I0];exact P2 (a:=1) (by rw[WP];exact h)
def C8 {g kk n:Nat}{C:GA}{X Y:GW}{w:Int}{p:Pa}(hY:Y=X++[p])(hC:C=p.2.map nD)(hn:n=p.2.length)(hw:w=((p.1:Nat):Int)):(X.flatMap ci++[D.v (.int .i64 w),.ref kk g 0 n 1]).map (AA g C)=Y.flatMap ci:=by
 subst hY hC hn hw;rw[W4,Xj,List.map_flatMap];refine congr (congrArg _ (congrArg (λ f=>X.flatMap f) (funext λ x=>rfl))) ?_;have e:(V9 g g&&Nat.blt 0 1&&Wf (0+p.2.length*1) (p.2.map nD).length)=true:=by
  rw[Wh,Wh];exact⟨⟨Xk g,rfl⟩,We (by simp)⟩
 have h2:AA g (p.2.map nD) (.ref kk g 0 p.2.length 1)= .sl Gd p.2.length 1 (p.2.map nD):=by
  show(bif _ then _ else _)=_;rw[e,cond_true,XR,WN (by simp)]
 show[_,AA g _ _]=ci p++[];rw[h2];rfl
def Lo (F:Gw)(m:Nat)(hm:m=F.length)(hm2:m<=320)(I:Gw)(n:Nat)(hn:n=I.length)(hn2:n<=320)(hI:∀k,k<n->I.getD k lb<F.length):S1 186 [.sl Gd m 1 (F.map nD),.sl Gd n 1 (I.map nD)] [] (.ref 0 0 0 n 2) [⟨(dP F I n).flatMap ci, 291,Ga⟩]:=SpR Tryz.func186 rfl rfl rfl ⟨cm (λ _=>rfl) _,trivial⟩ rfl 1000 64 (λ R ok=>.s 3<|.nils 5 24 2 291<|BY T_ok ae Gd 33 0 (am Tryz.prog 186 0) (λ(x:(k:Nat)×'(hk:k<=n)×'Unit)=>match x with|⟨k,hk,_⟩=>Wr [(0,Wu Gd m 1 (wo nD F)),(1,Wu Gd n 1 (wo nD I)),(5,(Wb 0 0 (0) (k) 2)),(6,nD k)] [⟨0,0,24,24,.b ⟨(dP F I k).flatMap ci,291,Ga⟩⟩] 8) (λ(x:(k:Nat)×'(hk:k<=n)×'Unit)=>match x with|⟨k,hk,_⟩=>n-k) [⟨Unit,.exit 0,λ()=>Wr [(0,Wu Gd m 1 (wo nD F)),(1,Wu Gd n 1 (wo nD I)),(5,(Wb 0 0 (0) (n) 2))] [⟨0,0,24,24,.b ⟨(dP F I n).flatMap ci,291,Ga⟩⟩] 8⟩] 1000 64 (fun|⟨k,hk,_⟩,Q,ZB,ZD=>.B 5 ((k:Int)<n) (λ p0 Z9=>.K 3 (Ga&&Ao ((n:Int)<=n)&&Ga&&Ga&&Ga&&Ga&&Ao ((↑(TI.bytes MI):Int)*(n:Int)<=140737488355328)) (by(have h9:((MI.bytes:Nat):Int)=8:=rfl;rw[h9];simp;omega))<|.K 4 (Ga&&Ao ((k:Int)<(↑(zL (n:Int)):Int))) aG<|.K 1 (Ga&&Wf (0+k*1+1) (v0 (bR [zI 0] (n*1)))) (by(simp;have h9:=hI k om;omega))<|.lst (ac (bR [zI 0] (n*1)) (0+k*1) [zI 1]) (ac (bR [zI 0] n) k [zI 1]) (by(simp;done))<|.K 5 (Ga&&Ao ((k:Int)<n)&&Ga) Ki<|.O 2 ((wo nD I)[k*1]?) (nD (wm I (k*1) lb)) (aj _ _ om)<|.K 1 (Ga&&Ao ((↑(wm I (k*1) lb):Int)<(m:Int))&&Ga) (by clear ZB ZD;(simp_all;done))<|.O 2 ((wo nD F)[wm I (k*1) lb*1]?) (nD (wm F (wm I (k*1) lb*1) lb)) (aj _ _ (by clear ZB ZD;(simp_all;done)))<|.K 6 (Ga&&V9 (k*2) (v0 (v8 ci (dP F I k)))&&Ga&&Ga&&Ga&&Ga&&Wf ((k+1)*32) 140737488355328) (by(simp only[lN,eQ];simp;omega))<|.W 4 (k+1)<|.s 1<|.frz 56 56 (V8 (ac (bR [zI 0] n) k [zI 1]) 3 Ga) 192 192 (V8 (v8 ci (dP F I k)++[zN (wm F (wm I (k*1) lb*1) lb),Wb 56 56 0 n 1]) 291 Ga) (by(rw[I1 om];exact bn _ (λ _=>rfl) _))<|.val 6 (zI (k+1)) (zN (k+1)) Ex<|.blk 192 192 (V8 (wo (AA 56 (Blk.cells (V8 (ac (bR [zI 0] n) k [zI 1]) 3 Ga))) (v8 ci (dP F I k)++[zN (wm F (wm I (k*1) lb*1) lb),Wb 56 56 0 n 1])) 291 Ga) (V8 (v8 ci (dP F I (k+1))) 291 Ga) (by(refine aq (C8 (p:=(F.getD (I.getD k lb) lb,pB n k)) (by rw[hn];rfl) (I1 om) (yH _ _).symm (by simp only[Wx]))))<|Aw ZB ⟨(k+1),om,⟨⟩⟩ (by show n-(k+1)<n-k;clear ZB ZD;omega) [(192,192)] ro) (λ p0 Z9=>.val 5 (Wb 0 0 0 k 2) (Wb 0 0 0 n 2) (by(rw[show k=n from by omega]))<|.blk 0 0 (V8 (v8 ci (dP F I k)) 291 Ga) (V8 (v8 ci (dP F I n)) 291 Ga) (by(rw[show k=n from by omega]))<|BO ZD 0 (():Unit) rfl [(0,0)] ro)) (fun|⟨k,hk,_⟩=>by kernel_rfl) ⟨(0),om,⟨⟩⟩ [(24,24)] ro (bB (fun|()=>.Y 2 [0] [0] (Wb 0 0 0 n 2) [V8 (v8 ci (dP F I n)) 291 Ga] ok))) kr
abbrev bN (X:GW)(i:Nat):Pa:=X.getD i lb
def eS (a b:Gw):Gw:=List.zipWith (· + ·) a b
def ft (X:GW):Nat->GW
 |0=>[]
 |j+1=>ft X j++[((bN X (2*j)).1+(bN X (2*j+1)).1,eS (bN X (2*j)).2 (bN X (2*j+1)).2)]
def eb (X:GW):∀j,(ft X j).length=j
 |0=>rfl
 |j+1=>by rw[ft,Wc,eb X j];rfl
def uP (a b:Gw)(k:Nat):Gw:=(eS a b).take k++Wt ((eS a b).length-k) 0
def fu {a b:Gw}{n:Nat}(ha:a.length=n)(hb:b.length=n):(eS a b).length=n:=by unfold eS;rw[List.length_zipWith];omega
def Ux {a b:Gw}{n:Nat}(ha:a.length=n)(hb:b.length=n):Wt n 0=uP a b 0:=by
 unfold uP;rw[fu ha hb];simp
def Uy {a b:Gw}{n:Nat}(ha:a.length=n)(hb:b.length=n):uP a b n=eS a b:=by
 have:=fu ha hb;unfold uP;rw[WN om,this,Xz];simp
def Uz {a b:Gw}{n k:Nat}(ha:a.length=n)(hb:b.length=n)(hk:k<n):(uP a b k).set k (a.getD k lb+b.getD k lb)=uP a b (k+1):=by
 have hl:=fu ha hb;have hg:(eS a b)[k]? =Ge (a.getD k lb+b.getD k lb):=by
  unfold eS;rw[ZO,Wd,Wd,Wa (show k<a.length by omega),Wa (show k<b.length by omega)];rfl
 unfold uP;rw[hl,show n-k=(n-(k+1))+1 from by omega,aai,Y6 _ _ (by rw[Wi];omega),Wi,show k-min k (eS a b).length=0 from by omega,abh,WW (show k<(eS a b).length by omega),WI];rw[Wa (show k<(eS a b).length by omega)]at hg;rw[Option.some.inj hg];rfl
def C9 {L:Gw}{k:Nat}(h:k<L.length):(L.map nD)[k*1]? =Ge (nD (L.getD k lb)):=by
 have:=yI h;rwa [WE]at this
def Gq {x:Int}(h:-9223372036854775808<=x/\x<=9223372036854775807):IntKind.i64.wrap x=x:=by
 have h2:=fv (x:=x) h;rw[aD]at h2;injection h2 with h3;injection h3 with h4;injection h4
def yJ {a b:Gw}{k:Nat}(h:k<=(eS a b).length):(uP a b k).length=(eS a b).length:=by unfold uP;simp;omega
def Lp (X:GW)(m:Nat)(hm:m=X.length)(hm2:m<=100000)(n:Nat)(hn2:n<=320)(hl:∀i,i<m->(bN X i).2.length=n)(hw:∀i,(bN X i).1<=1000000000000000000)(hc:∀i k,(bN X i).2.getD k lb<=1000000000000000000):S1 188 [.sl Gd m 2 (X.flatMap ci)] [] (.ref 0 0 0 (m/2) 2) [⟨(ft X (m/2)).flatMap ci, 291,Ga⟩]:=SpR Tryz.func188 rfl rfl rfl ⟨cm (λ _=>rfl) _,trivial⟩ rfl 1000 64 (λ R ok=>.s 3<|.nils 3 24 2 291<|BY T_ok ae Gd 66 0 (am Tryz.prog 188 0) (λ(x:(j:Nat)×'(hj:j<=m/2)×'Unit)=>match x with|⟨j,hj,_⟩=>Wr [(0,Wu Gd m 2 (v8 ci X)),(3,(Wb 0 0 (0) (j) 2)),(4,nD (2*j))] [⟨0,0,24,24,.b ⟨(ft X j).flatMap ci,291,Ga⟩⟩] 8) (λ(x:(j:Nat)×'(hj:j<=m/2)×'Unit)=>match x with|⟨j,hj,_⟩=>m-2*j) [⟨Unit,.exit 0,λ()=>Wr [(0,Wu Gd m 2 (v8 ci X)),(3,(Wb 0 0 (0) (m/2) 2))] [⟨0,0,24,24,.b ⟨(ft X (m/2)).flatMap ci,291,Ga⟩⟩] 8⟩] 1000 64 (fun|⟨j,hj,_⟩,Q,ZB,ZD=>.W 3 ((↑(2*j):Int)+1)<|.B 4 ((↑(2*j):Int)+1<(m:Int)) (λ p0 Z9=>.K 3 (Ga&&Ao ((↑(2*j):Int)<(m:Int))&&Ga) Ki<|.O 5 ((v8 ci X)[2*j*2+1]?) (Wu Gd (v0 (Wg (wm X (2*j) lb))) 1 (wo nD (Wg (wm X (2*j) lb)))) (cR (k:=2) (i:=2*j) (j:=1) (λ _=>rfl) om om rfl)<|.K 2 (Ga&&Ao ((↑(v0 (Wg (wm X (2*j) lb))):Int)<=(↑(v0 (Wg (wm X (2*j) lb))):Int))&&Ga&&Ga&&Ga&&Ga&&Ao ((↑(TI.bytes MI):Int)*(↑(v0 (Wg (wm X (2*j) lb))):Int)<=140737488355328)) (by(have h9:((MI.bytes:Nat):Int)=8:=rfl;have e9:(((2*j:Nat):Int)+1).toNat=2*j+1:=om;have e8:(X.getD (2*j) lb).2.length=n:=hl (2*j) om;have e6:(X.getD (2*j+1) lb).2.length=n:=hl (2*j+1) om;have e7:(X.getD (((2*j:Nat):Int)+1).toNat lb).2.length=n:=(by rw[e9];exact e6);rw[h9,e8];simp;omega))<|.M 2 96 96 (V8 (bR [zI 0] (v0 (Wg (wm X (2*j) lb))*1)) 3 Ga) (V8 (wo nD (uP (Wg (bN X (2*j))) (Wg (bN X (2*j+1))) 0)) 3 Ga) (by(have e9:(((2*j:Nat):Int)+1).toNat=2*j+1:=om;have e8:(X.getD (2*j) lb).2.length=n:=hl (2*j) om;have e6:(X.getD (2*j+1) lb).2.length=n:=hl (2*j+1) om;have e7:(X.getD (((2*j:Nat):Int)+1).toNat lb).2.length=n:=(by rw[e9];exact e6);rw[Wx,I0,e8];exact aq (congrArg (wo nD) (Ux e8 e6))))<|BY T_ok ae Gd 66 0 (am Tryz.prog 188 1) (λ(x:(k:Nat)×'(hk:k<=n)×'Unit)=>match x with|⟨k,hk,_⟩=>Wr [(0,Wu Gd m 2 (v8 ci X)),(3,Wb 0 0 0 j 2),(4,zN (2*j)),(5,Wb 8 8 0 (v0 (Wg (wm X (2*j) lb))) 1),(6,nD k)] [⟨0,0,0,0,.b ⟨v8 ci (ft X j),291,Ga⟩⟩,⟨8,8,96,96,.b ⟨(uP (bN X (2*j)).2 (bN X (2*j+1)).2 k).map nD,3,Ga⟩⟩] 16) (λ(x:(k:Nat)×'(hk:k<=n)×'Unit)=>match x with|⟨k,hk,_⟩=>n-k) [⟨Unit,.exit 2,λ()=>Wr [(0,Wu Gd m 2 (v8 ci X)),(3,Wb 0 0 0 j 2),(4,zN (2*j)),(5,Wb 8 8 0 (v0 (Wg (wm X (2*j) lb))) 1)] [⟨0,0,0,0,.b ⟨v8 ci (ft X j),291,Ga⟩⟩,⟨8,8,96,96,.b ⟨(eS (bN X (2*j)).2 (bN X (2*j+1)).2).map nD,3,Ga⟩⟩] 16⟩] 1000 64 (fun|⟨k,hk,_⟩,Q,ZA,ZC=>.B 5 ((k:Int)<(↑(v0 (Wg (wm X (2*j) lb))):Int)) (λ p1 Z8=>.K 6 (Ga&&Ao ((↑(2*j):Int)<(m:Int))&&Ga) Ki<|.O 5 ((v8 ci X)[2*j*2+1]?) (Wu Gd (v0 (Wg (wm X (2*j) lb))) 1 (wo nD (Wg (wm X (2*j) lb)))) (cR (k:=2) (i:=2*j) (j:=1) (λ _=>rfl) om om rfl)<|.K 2 (Ga&&Ao ((k:Int)<(↑(v0 (Wg (wm X (2*j) lb))):Int))&&Ga) Ki<|.O 2 ((wo nD (Wg (wm X (2*j) lb)))[k*1]?) (nD (wm (Wg (wm X (2*j) lb)) k lb)) (@C9 (X.getD (2*j) lb).2 k om)<|.W 4 ((↑(2*j):Int)+1)<|.K 1 (Ga&&Ao ((↑(2*j):Int)+1<(m:Int))&&Ga) Ki<|.O 5 ((v8 ci X)[zL ((↑(2*j):Int)+1)*2+1]?) (Wu Gd (v0 (Wg (wm X (zL ((↑(2*j):Int)+1)) lb))) 1 (wo nD (Wg (wm X (zL ((↑(2*j):Int)+1)) lb)))) (cR (k:=2) (i:=zL ((↑(2*j):Int)+1)) (j:=1) (λ _=>rfl) om om rfl)<|.K 2 (Ga&&Ao ((k:Int)<(↑(v0 (Wg (wm X (zL ((↑(2*j):Int)+1)) lb))):Int))&&Ga) (by((refine aA ?_ ?_)<;>(repeat' (first|(refine aA ?_ ?_)|(with_reducible rfl)|(refine decide_eq_true ?_)|(refine We ?_)|(refine dg ?_)))<;>(have e9:(((2*j:Nat):Int)+1).toNat=2*j+1:=om;have e8:(X.getD (2*j) lb).2.length=n:=hl (2*j) om;have e6:(X.getD (2*j+1) lb).2.length=n:=hl (2*j+1) om;have e7:(X.getD (((2*j:Nat):Int)+1).toNat lb).2.length=n:=(by rw[e9];exact e6);omega)))<|.O 2 ((wo nD (Wg (wm X (zL ((↑(2*j):Int)+1)) lb)))[k*1]?) (nD (wm (Wg (wm X (zL ((↑(2*j):Int)+1)) lb)) k lb)) (@C9 (X.getD (zL (((2*j:Nat):Int)+1)) lb).2 k PZ)<|.O 2 (au .i64 ((↑(wm (Wg (wm X (2*j) lb)) k lb):Int)+(↑(wm (Wg (wm X (zL ((↑(2*j):Int)+1)) lb)) k lb):Int))) (zI (Wo Wv ((↑(wm (Wg (wm X (2*j) lb)) k lb):Int)+(↑(wm (Wg (wm X (zL ((↑(2*j):Int)+1)) lb)) k lb):Int)))) (aD _ _)<|.K 1 (Ga&&Ao ((k:Int)<(↑(v0 (Wg (wm X (2*j) lb))):Int))) aG<|.K 1 (Ga&&Wf (0+k*1+1) (v0 (wo nD (uP (Wg (bN X (2*j))) (Wg (bN X (2*j+1))) k)))) (by(have e9:(((2*j:Nat):Int)+1).toNat=2*j+1:=om;have e8:(X.getD (2*j) lb).2.length=n:=hl (2*j) om;have e6:(X.getD (2*j+1) lb).2.length=n:=hl (2*j+1) om;have e7:(X.getD (((2*j:Nat):Int)+1).toNat lb).2.length=n:=(by rw[e9];exact e6);refine aA rfl (We ?_);rw[Wj,yJ (by rw[fu e8 e6];omega),fu e8 e6];omega))<|.lst (ac (wo nD (uP (Wg (bN X (2*j))) (Wg (bN X (2*j+1))) k)) (0+k*1) [zI (Wo Wv ((↑(wm (Wg (wm X (2*j) lb)) k lb):Int)+(↑(wm (Wg (wm X (zL ((↑(2*j):Int)+1)) lb)) k lb):Int)))]) (ac (wo nD (uP (Wg (bN X (2*j))) (Wg (bN X (2*j+1))) k)) k [zI (Wo Wv ((↑(wm (Wg (wm X (2*j) lb)) k lb):Int)+(↑(wm (Wg (wm X (zL ((↑(2*j):Int)+1)) lb)) k lb):Int)))]) (by(simp;done))<|.W 3 (k+1)<|.V 1 6 (zI (k+1)) (zN (k+1)) Ex<|.blk 8 8 (V8 (ac (wo nD (uP (Wg (bN X (2*j))) (Wg (bN X (2*j+1))) k)) k [zI (Wo Wv ((↑(wm (Wg (wm X (2*j) lb)) k lb):Int)+(↑(wm (Wg (wm X (zL ((↑(2*j):Int)+1)) lb)) k lb):Int)))]) 3 Ga) (V8 (wo nD (uP (Wg (bN X (2*j))) (Wg (bN X (2*j+1))) (k+1))) 3 Ga) (by(have e9:(((2*j:Nat):Int)+1).toNat=2*j+1:=om;have e8:(X.getD (2*j) lb).2.length=n:=hl (2*j) om;have e6:(X.getD (2*j+1) lb).2.length=n:=hl (2*j+1) om;have e7:(X.getD (((2*j:Nat):Int)+1).toNat lb).2.length=n:=(by rw[e9];exact e6);refine aq ?_;rw[e9];have w1:=hc (2*j) k;have w2:=hc (2*j+1) k;rw[<-Uz e8 e6 (show k<n by omega),<-P2 (by rw[yJ (by rw[fu e8 e6];omega),fu e8 e6];omega)];rw[Gq (by unfold bN at w1 w2;omega)];rfl))<|Aw ZA ⟨(k+1),PZ,⟨⟩⟩ (by show n-(k+1)<n-k;clear ZA ZC ZB ZD;(have e9:(((2*j:Nat):Int)+1).toNat=2*j+1:=om;have e8:(X.getD (2*j) lb).2.length=n:=hl (2*j) om;have e6:(X.getD (2*j+1) lb).2.length=n:=hl (2*j+1) om;have e7:(X.getD (((2*j:Nat):Int)+1).toNat lb).2.length=n:=(by rw[e9];exact e6);omega)) [(0,0),(8,8)] ro) (λ p1 Z8=>.blk 8 8 (V8 (wo nD (uP (Wg (bN X (2*j))) (Wg (bN X (2*j+1))) k)) 3 Ga) (V8 (wo nD (eS (Wg (bN X (2*j))) (Wg (bN X (2*j+1))))) 3 Ga) (by(have e9:(((2*j:Nat):Int)+1).toNat=2*j+1:=om;have e8:(X.getD (2*j) lb).2.length=n:=hl (2*j) om;have e6:(X.getD (2*j+1) lb).2.length=n:=hl (2*j+1) om;have e7:(X.getD (((2*j:Nat):Int)+1).toNat lb).2.length=n:=(by rw[e9];exact e6);rw[show k=n from by omega];exact aq (congrArg (wo nD) (Uy e8 e6))))<|BO ZC 0 (():Unit) rfl [(0,0),(8,8)] ro)) (fun|⟨k,hk,_⟩=>by kernel_rfl) ⟨(0),om,⟨⟩⟩ [(0,0),(96,96)] ro (bB (fun|()=>.K 5 (Ga&&Ao ((↑(2*j):Int)<(m:Int))&&Ga) Ki<|.O 5 ((v8 ci X)[2*j*2+0]?) (zN (Wz (wm X (2*j) lb))) (cR (k:=2) (i:=2*j) (j:=0) (λ _=>rfl) om om rfl)<|.W 4 ((↑(2*j):Int)+1)<|.K 1 (Ga&&Ao ((↑(2*j):Int)+1<(m:Int))&&Ga) Ki<|.O 5 ((v8 ci X)[zL ((↑(2*j):Int)+1)*2+0]?) (zN (Wz (wm X (zL ((↑(2*j):Int)+1)) lb))) (cR (k:=2) (i:=zL ((↑(2*j):Int)+1)) (j:=0) (λ _=>rfl) om om rfl)<|.O 2 (au .i64 ((↑(Wz (wm X (2*j) lb)):Int)+(↑(Wz (wm X (zL ((↑(2*j):Int)+1)) lb)):Int))) (zI (Wo Wv ((↑(Wz (wm X (2*j) lb)):Int)+(↑(Wz (wm X (zL ((↑(2*j):Int)+1)) lb)):Int)))) (aD _ _)<|.K 6 (Ga&&V9 (j*2) (v0 (v8 ci (ft X j)))&&Ga&&Ga&&Ga&&Ga&&Wf ((j+1)*32) 140737488355328) (by(simp only[lN,eb];simp;omega))<|.W 4 ((↑(2*j):Int)+2)<|.s 1<|.frz 8 8 (V8 (wo nD (eS (Wg (bN X (2*j))) (Wg (bN X (2*j+1))))) 3 Ga) 144 144 (V8 (v8 ci (ft X j)++[zI (Wo Wv ((↑(Wz (wm X (2*j) lb)):Int)+(↑(Wz (wm X (zL ((↑(2*j):Int)+1)) lb)):Int))),Wb 8 8 0 (v0 (Wg (wm X (2*j) lb))) 1]) 291 Ga) (by(simp;done))<|.val 4 (zI ((↑(2*j):Int)+2)) (zN (2*(j+1))) Ex<|.blk 144 144 (V8 (wo (AA 8 (Blk.cells (V8 (wo nD (eS (Wg (bN X (2*j))) (Wg (bN X (2*j+1))))) 3 Ga))) (v8 ci (ft X j)++[zI (Wo Wv ((↑(Wz (wm X (2*j) lb)):Int)+(↑(Wz (wm X (zL ((↑(2*j):Int)+1)) lb)):Int))),Wb 8 8 0 (v0 (Wg (wm X (2*j) lb))) 1])) 291 Ga) (V8 (v8 ci (ft X (j+1))) 291 Ga) (by(have e9:(((2*j:Nat):Int)+1).toNat=2*j+1:=om;have e8:(X.getD (2*j) lb).2.length=n:=hl (2*j) om;have e6:(X.getD (2*j+1) lb).2.length=n:=hl (2*j+1) om;have e7:(X.getD (((2*j:Nat):Int)+1).toNat lb).2.length=n:=(by rw[e9];exact e6);refine aq (C8 (p:=((bN X (2*j)).1+(bN X (2*j+1)).1,eS (bN X (2*j)).2 (bN X (2*j+1)).2)) rfl rfl (by rw[e8];exact(fu e8 e6).symm) (by rw[e9];have w1:=hw (2*j);have w2:=hw (2*j+1);rw[Gq (by unfold bN at w1 w2;omega)];rfl))))<|Aw ZB ⟨(j+1),om,⟨⟩⟩ (by show m-2*(j+1)<m-2*j;clear ZB ZD;omega) [(144,144)] ro))) (λ p0 Z9=>.val 3 (Wb 0 0 0 j 2) (Wb 0 0 0 (m/2) 2) (by(rw[show j=m/2 from by omega]))<|.blk 0 0 (V8 (v8 ci (ft X j)) 291 Ga) (V8 (v8 ci (ft X (m/2))) 291 Ga) (by(rw[show j=m/2 from by omega]))<|BO ZD 0 (():Unit) rfl [(0,0)] ro)) (fun|⟨j,hj,_⟩=>by kernel_rfl) ⟨(0),om,⟨⟩⟩ [(24,24)] ro (bB (fun|()=>.Y 2 [0] [0] (Wb 0 0 0 (m/2) 2) [V8 (v8 ci (ft X (m/2))) 291 Ga] ok))) kr
def EA (A B:GW)(i k:Nat):Prop:=k=B.length\/(i<A.length/\(bN A i).1<=(bN B k).1)
instance (A B:GW) (i k:Nat):Decidable (EA A B i k):=by unfold EA;infer_instance
def pC (A B:GW):Nat->Nat->Nat->GW
 |0,_,_=>[]
 |f+1,i,k=>if EA A B i k then bN A i::pC A B f (i+1) k else bN B k::pC A B f i (k+1)
def P3 {A B o T:GW}{f i k:Nat}(h:o++pC A B f i k=T)(hf:0<f)(q:k=B.length\/(i<A.length/\(bN A i).1<=(bN B k).1)):(o++[bN A i])++pC A B (f-1) (i+1) k=T:=by
 obtain⟨g,rfl⟩:∃g,f=g+1:=⟨f-1,by omega⟩
 rw[<-h,pC,ZF (show EA A B i k from q),WI];rfl
def UA {A B o T:GW}{f i k:Nat}(h:o++pC A B f i k=T)(hf:0<f)(q:¬k=B.length)(q2:¬(i<A.length/\(bN A i).1<=(bN B k).1)):(o++[bN B k])++pC A B (f-1) i (k+1)=T:=by
 obtain⟨g,rfl⟩:∃g,f=g+1:=⟨f-1,by omega⟩
 rw[<-h,pC,ZE (show¬EA A B i k from λ x=>x.elim q q2),WI];rfl
def UB {A B o T:GW}{f i k:Nat}(h:o++pC A B f i k=T)(hf:f=0):o=T:=by
 subst hf;rw[<-h,pC,Xn]
def kR (A B:GW):∀f i k,(pC A B f i k).length=f
 |0,_,_=>rfl
 |f+1,i,k=>by
  rw[pC];split
  ·rw[WQ,kR A B f]
  ·rw[WQ,kR A B f]
def Gr (A:GW)(a:Nat)(ha:a=A.length)(ha2:a<=100000)(B:GW)(b:Nat)(hb:b=B.length)(hb2:b<=100000)(T:GW)(hT:pC A B (a+b) 0 0=T):S1 187 [.sl Gd a 2 (A.flatMap ci),.sl Gd b 2 (B.flatMap ci)] [] (.ref 0 0 0 (a+b) 2) [⟨T.flatMap ci, 291,Ga⟩]:=SpR Tryz.func187 rfl rfl rfl ⟨cm (λ _=>rfl) _,trivial⟩ rfl 1000 64 (λ R ok=>.s 4<|.nils 5 32 2 291<|BY T_ok ae Gd 60 0 (am Tryz.prog 187 0) (λ(x:(i:Nat)×'(k:Nat)×'(f:Nat)×'(o:GW)×'(hi:i<=a)×'(hk:k<=b)×'(hf:f+i+k=a+b)×'(ho:o.length=i+k)×'(hR:o++pC A B f i k=T)×'Unit)=>match x with|⟨i,k,f,o,hi,hk,hf,ho,hR,_⟩=>Wr [(0,Wu Gd a 2 (v8 ci A)),(1,Wu Gd b 2 (v8 ci B)),(5,(Wb 0 0 (0) (i+k) 2)),(6,nD i),(7,nD k)] [⟨0,0,32,32,.b ⟨o.flatMap ci,291,Ga⟩⟩] 8) (λ(x:(i:Nat)×'(k:Nat)×'(f:Nat)×'(o:GW)×'(hi:i<=a)×'(hk:k<=b)×'(hf:f+i+k=a+b)×'(ho:o.length=i+k)×'(hR:o++pC A B f i k=T)×'Unit)=>match x with|⟨i,k,f,o,hi,hk,hf,ho,hR,_⟩=>f) [⟨Unit,.exit 0,λ()=>Wr [(0,Wu Gd a 2 (v8 ci A)),(1,Wu Gd b 2 (v8 ci B)),(5,(Wb 0 0 (0) (a+b) 2))] [⟨0,0,32,32,.b ⟨T.flatMap ci,291,Ga⟩⟩] 8⟩] 1000 64 (fun|⟨i,k,f,o,hi,hk,hf,ho,hR,_⟩,Q,ZB,ZD=>.B 7 ((i:Int)<a) (λ p0 Z9=>.R 16 ((k:Int)==b) (λ p1=>have Z8:=eq_of_beq p1;.K 27 (Ga&&Ao ((i:Int)<a)&&Ga) Ki<|.K 2 (Wf (i*2+2) (v0 (v8 ci A))) uO<|.lst (wx 2 (Ag (i*2) (v8 ci A))) ([zN (Wz (wm A i lb)),Wu Gd (v0 (Wg (wm A i lb))) 1 (wo nD (Wg (wm A i lb)))]) (aI (k:=2) (i:=i) (λ _=>rfl) om om)<|.K 3 (Ga&&V9 ((i+k)*2) (v0 (v8 ci o))&&Ga&&Ga&&Ga&&Ga&&Wf ((i+k+1)*32) 140737488355328) uO<|.W 4 (i+1)<|.V 1 5 (Wb 320 320 0 (i+k+1) 2) (Wb 320 320 0 (i+1+k) 2) (by(simp <;>(omega)))<|.val 6 (zI (i+1)) (zN (i+1)) Ex<|.blk 320 320 (V8 (v8 ci o++[zN (Wz (wm A i lb)),Wu Gd (v0 (Wg (wm A i lb))) 1 (wo nD (Wg (wm A i lb)))]) 291 Ga) (V8 (v8 ci (o++[bN A i])) 291 Ga) Gn<|Aw ZB ⟨(i+1),(k),(f-1),(o++[bN A i]),om,om,om,(by(simp <;>(omega))),(by(exact P3 hR om (.inl om))),⟨⟩⟩ Gp [(320,320)] ro) (λ p1=>have Z8:=ak p1;.E 10 (Ao ((i:Int)<a)) p0<|.K 4 (Ga&&Ao ((i:Int)<a)&&Ga) Ki<|.O 7 ((v8 ci A)[i*2+0]?) (zN (Wz (wm A i lb))) (cR (k:=2) (i:=i) (j:=0) (λ _=>rfl) om om rfl)<|.K 6 (Ga&&Ao ((k:Int)<b)&&Ga) Ki<|.O 7 ((v8 ci B)[k*2+0]?) (zN (Wz (wm B k lb))) (cR (k:=2) (i:=k) (j:=0) (λ _=>rfl) om om rfl)<|.B 6 ((↑(Wz (wm A i lb)):Int)<=(↑(Wz (wm B k lb)):Int)) (λ p2 Z7=>.K 4 (Ga&&Ao ((i:Int)<a)&&Ga) Ki<|.K 2 (Wf (i*2+2) (v0 (v8 ci A))) uO<|.lst (wx 2 (Ag (i*2) (v8 ci A))) ([zN (Wz (wm A i lb)),Wu Gd (v0 (Wg (wm A i lb))) 1 (wo nD (Wg (wm A i lb)))]) (aI (k:=2) (i:=i) (λ _=>rfl) om om)<|.K 3 (Ga&&V9 ((i+k)*2) (v0 (v8 ci o))&&Ga&&Ga&&Ga&&Ga&&Wf ((i+k+1)*32) 140737488355328) uO<|.W 4 (i+1)<|.V 1 5 (Wb 320 320 0 (i+k+1) 2) (Wb 320 320 0 (i+1+k) 2) (by(simp <;>(omega)))<|.val 6 (zI (i+1)) (zN (i+1)) Ex<|.blk 320 320 (V8 (v8 ci o++[zN (Wz (wm A i lb)),Wu Gd (v0 (Wg (wm A i lb))) 1 (wo nD (Wg (wm A i lb)))]) 291 Ga) (V8 (v8 ci (o++[bN A i])) 291 Ga) Gn<|Aw ZB ⟨(i+1),(k),(f-1),(o++[bN A i]),om,om,om,(by(simp <;>(omega))),(by(exact P3 hR om (.inr ⟨by omega,by unfold bN;omega⟩))),⟨⟩⟩ Gp [(320,320)] ro) (λ p2 Z7=>.K 4 (Ga&&Ao ((k:Int)<b)&&Ga) Ki<|.K 2 (Wf (k*2+2) (v0 (v8 ci B))) uO<|.lst (wx 2 (Ag (k*2) (v8 ci B))) ([zN (Wz (wm B k lb)),Wu Gd (v0 (Wg (wm B k lb))) 1 (wo nD (Wg (wm B k lb)))]) (aI (k:=2) (i:=k) (λ _=>rfl) om om)<|.K 3 (Ga&&V9 ((i+k)*2) (v0 (v8 ci o))&&Ga&&Ga&&Ga&&Ga&&Wf ((i+k+1)*32) 140737488355328) uO<|.W 4 (k+1)<|.V 1 5 (Wb 320 320 0 (i+k+1) 2) (Wb 320 320 0 (i+(k+1)) 2) (by(simp <;>(omega)))<|.val 7 (zI (k+1)) (zN (k+1)) Ex<|.blk 320 320 (V8 (v8 ci o++[zN (Wz (wm B k lb)),Wu Gd (v0 (Wg (wm B k lb))) 1 (wo nD (Wg (wm B k lb)))]) 291 Ga) (V8 (v8 ci (o++[bN B k])) 291 Ga) Gn<|Aw ZB ⟨(i),(k+1),(f-1),(o++[bN B k]),om,om,om,(by(simp <;>(omega))),P1,⟨⟩⟩ Gp [(320,320)] ro))) (λ p0 Z9=>.B 8 ((k:Int)<b) (λ p3 Z6=>.F 8 ((k:Int)==b) (by(refine decide_eq_false ?_;(omega)))<|.F 10 (Ao ((i:Int)<a)) p0<|.K 28 (Ga&&Ao ((k:Int)<b)&&Ga) Ki<|.K 2 (Wf (k*2+2) (v0 (v8 ci B))) uO<|.lst (wx 2 (Ag (k*2) (v8 ci B))) ([zN (Wz (wm B k lb)),Wu Gd (v0 (Wg (wm B k lb))) 1 (wo nD (Wg (wm B k lb)))]) (aI (k:=2) (i:=k) (λ _=>rfl) om om)<|.K 3 (Ga&&V9 ((i+k)*2) (v0 (v8 ci o))&&Ga&&Ga&&Ga&&Ga&&Wf ((i+k+1)*32) 140737488355328) uO<|.W 4 (k+1)<|.V 1 5 (Wb 320 320 0 (i+k+1) 2) (Wb 320 320 0 (i+(k+1)) 2) (by(simp <;>(omega)))<|.val 7 (zI (k+1)) (zN (k+1)) Ex<|.blk 320 320 (V8 (v8 ci o++[zN (Wz (wm B k lb)),Wu Gd (v0 (Wg (wm B k lb))) 1 (wo nD (Wg (wm B k lb)))]) 291 Ga) (V8 (v8 ci (o++[bN B k])) 291 Ga) Gn<|Aw ZB ⟨(i),(k+1),(f-1),(o++[bN B k]),om,om,om,(by(simp <;>(omega))),P1,⟨⟩⟩ Gp [(320,320)] ro) (λ p3 Z6=>.val 5 (Wb 0 0 0 (i+k) 2) (Wb 0 0 0 (a+b) 2) (by(simp <;>(omega)))<|.blk 0 0 (V8 (v8 ci o) 291 Ga) (V8 (v8 ci T) 291 Ga) (by(rw[UB hR om]))<|BO ZD 0 (():Unit) rfl [(0,0)] ro))) (fun|⟨i,k,f,o,hi,hk,hf,ho,hR,_⟩=>by kernel_rfl) ⟨(0),(0),(a+b),([]),om,om,om,(by(simp;done)),aG,⟨⟩⟩ [(32,32)] ro (bB (fun|()=>.Y 2 [0] [0] (Wb 0 0 0 (a+b) 2) [V8 (v8 ci T) 291 Ga] ok))) kr
def wp(h:p:=by(have p9:=oY F i (bf F i) (bf F i).length;have p8:=iy F i;simp[aV];omega)):=h
def P4(h:p:=by(have p9:=oY F i (bf F i) (bf F i).length;have p8:=iy F i;simp only[P5];simp;omega)):=h
def fT (F:Gw)(x:Nat)(o:Gw):Nat->Nat
 |0=>0
 |a+1=>if F.getD x lb<F.getD (o.getD a lb) lb then fT F x o a else a+1
def EB (F:Gw)(x:Nat)(o:Gw):Gw:=o.take (fT F x o o.length)++x::o.drop (fT F x o o.length)
def bf (F:Gw):Nat->Gw
 |0=>[]
 |i+1=>if F.getD i lb=0 then bf F i else EB F i (bf F i)
def oY (F:Gw)(x:Nat)(o:Gw):∀a,fT F x o a<=a
 |0=>Wl _
 |a+1=>by
  rw[fT];split
  ·exact Nat.le_succ_of_le (oY F x o a)
  ·exact Wl _
def iy (F:Gw):∀i,(bf F i).length<=i
 |0=>Wl _
 |i+1=>by
  have ih:=iy F i;have h:=oY F i (bf F i) (bf F i).length;rw[bf];split
  ·omega
  ·unfold EB;rw[Wc,WQ,Wi,Wy];omega
def oZ (F:Gw):∀i,∀x∈bf F i,x<i
 |0,x,h=>by cases h
 |i+1,x,h=>by
  rw[bf]at h
  split at h
  ·exact aau (oZ F i x h)
  ·unfold EB at h
   rcases List.mem_append.1 h with h|h
   ·exact aau (oZ F i x (Xs h))
   ·rcases List.mem_cons.1 h with h|h
    ·rw[h];exact Nat.lt_succ_self _
    ·exact aau (oZ F i x (YA h))
def o6 (F:Gw){i k:Nat}(h:k<(bf F i).length):(bf F i).getD k lb<i:=by
 rw[Wd,Wa h];exact oZ F i _ (Xf h)
def UC {F o:Gw}{x a n:Nat}(h:fT F x o a=n)(ha:0<a)(q:F.getD x lb<F.getD (o.getD (a-1) lb) lb):fT F x o (a-1)=n:=by
 obtain⟨b,rfl⟩:∃b,a=b+1:=⟨a-1,by omega⟩
 rw[fT,ZF (by rwa [XK]at q)]at h;exact h
def UD {F o:Gw}{x a n:Nat}(h:fT F x o a=n)(ha:0<a)(q:¬F.getD x lb<F.getD (o.getD (a-1) lb) lb):a=n:=by
 obtain⟨b,rfl⟩:∃b,a=b+1:=⟨a-1,by omega⟩
 rw[fT,ZE (by rwa [XK]at q)]at h;exact h
def UE {F o:Gw}{x a n:Nat}(h:fT F x o a=n)(ha:a=0):a=n:=by subst ha;exact h
def Lq {F:Gw}{i:Nat}(h:F.getD i lb=0):bf F (i+1)=bf F i:=by rw[bf,ZF h]
def Lr {F:Gw}{i:Nat}(h:¬F.getD i lb=0):bf F (i+1)=EB F i (bf F i):=by rw[bf,ZE h]
def P5 {o:Gw}{A:Nat}:(bif Ga&&(A*1).beq (o.map nD).length then o.map nD else WS (A*1) (WT 0 (o.map nD)))=(o.take A).map nD:=by
 rw[Wx,XR,Yx]
 cases h:(Ga&&A.beq (o.map nD).length)with
 |false=>rfl
 |true=>
  have e:A=(o.map nD).length:=Wk (by simpa using h);rw[cond_true,WN om]
def UF {o:Gw}{A n:Nat}(hn:n=o.length):(bif (0+A*1).beq 0&&((n-A)*1).beq (o.map nD).length then o.map nD else WS ((n-A)*1) (WT (0+A*1) (o.map nD)))=(o.drop A).map nD:=by
 rw[Wx,Wx,WE,List.map_drop]
 cases h:(A.beq 0&&(n-A).beq (o.map nD).length)with
 |false=>rw[cond_false,WN (by rw[Wy,Wj];omega)]
 |true=>
  rw[Wh]at h;have e:A=0:=Wk h.1;subst e;rw[cond_true,XR]
def P6 {F:Gw}{i:Nat}(h:¬F.getD i lb=0):(bf F (i+1)).length=(bf F i).length+1:=by
 have h2:=oY F i (bf F i) (bf F i).length;rw[Lr h];unfold EB;rw[Wc,WQ,Wi,Wy];omega
def Lu (F:Gw)(m:Nat)(hm:m=F.length)(hm2:m<=320):S0 168 [.sl Gd m 1 (F.map nD)] [] (.ref 0 0 0 (bf F m).length 1) [⟨(bf F m).map nD, 3,Ga⟩]:=SpR Tryz.func168 rfl rfl rfl ⟨rh _ (λ _=>rfl) _,trivial⟩ rfl 1000 64 (λ R ok=>.s 3<|.nils 3 24 1 3<|BY T_ok ae Gd 54 0 (am Tryz.prog 168 0) (λ(x:(i:Nat)×'(hi:i<=m)×'Unit)=>match x with|⟨i,hi,_⟩=>Wr [(0,Wu Gd m 1 (wo nD F)),(3,(Wb 0 0 (0) ((bf F i).length) 1)),(4,nD i)] [⟨0,0,24,24,.b ⟨(bf F i).map nD,3,Ga⟩⟩] 8) (λ(x:(i:Nat)×'(hi:i<=m)×'Unit)=>match x with|⟨i,hi,_⟩=>m-i) [⟨Unit,.exit 0,λ()=>Wr [(0,Wu Gd m 1 (wo nD F)),(3,(Wb 0 0 (0) ((bf F m).length) 1))] [⟨0,0,24,24,.b ⟨(bf F m).map nD,3,Ga⟩⟩] 8⟩] 1000 64 (fun|⟨i,hi,_⟩,Q,ZB,ZD=>.B 5 ((i:Int)<m) (λ p0 Z9=>.K 3 (Ga&&Ao ((i:Int)<m)&&Ga) wp<|.O 2 ((wo nD F)[i*1]?) (nD (wm F (i*1) lb)) (aj _ _ om)<|.B 2 ((↑(wm F (i*1) lb):Int)<=0) (λ p1 Z8=>.W 3 (i+1)<|.V 1 3 (Wb 0 0 0 (v0 (bf F i)) 1) (Wb 0 0 0 (v0 (bf F (i+1))) 1) (by(simp only[Wx]at *;rw[Lq om]))<|.val 4 (zI (i+1)) (zN (i+1)) (by(refine aF ?_;(omega)))<|.blk 0 0 (V8 (wo nD (bf F i)) 3 Ga) (V8 (wo nD (bf F (i+1))) 3 Ga) (by(simp only[Wx]at *;rw[Lq om]))<|Aw ZB ⟨(i+1),om,⟨⟩⟩ (by show m-(i+1)<m-i;clear ZB ZD;omega) [(0,0)] ro) (λ p1 Z8=>.s 3<|BY T_ok ae Gd 54 0 (am Tryz.prog 168 1) (λ(x:(a:Nat)×'(ha:a<=(bf F i).length)×'(hR:fT F i (bf F i) a=fT F i (bf F i) (bf F i).length)×'Unit)=>match x with|⟨a,ha,hR,_⟩=>Wr [(0,Wu Gd m 1 (wo nD F)),(3,Wb 0 0 0 (v0 (bf F i)) 1),(4,zN i),(5,nD a)] [⟨0,0,0,0,.b ⟨wo nD (bf F i),3,Ga⟩⟩] 8) (λ(x:(a:Nat)×'(ha:a<=(bf F i).length)×'(hR:fT F i (bf F i) a=fT F i (bf F i) (bf F i).length)×'Unit)=>match x with|⟨a,ha,hR,_⟩=>a) [⟨Unit,.exit 2,λ()=>Wr [(0,Wu Gd m 1 (wo nD F)),(3,Wb 0 0 0 (v0 (bf F i)) 1),(4,zN i),(5,nD (fT F i (bf F i) (bf F i).length))] [⟨0,0,0,0,.b ⟨wo nD (bf F i),3,Ga⟩⟩] 8⟩] 1000 64 (fun|⟨a,ha,hR,_⟩,Q,ZA,ZC=>.B 6 (0<(a:Int)) (λ p2 Z7=>.I 7 (a-1) (by(have h9:=iy F i;omega))<|.K 2 (Ao (0<=(a:Int)-1)&&Ao ((a:Int)-1<(↑(v0 (bf F i)):Int))) wp<|.O 3 ((wo nD (bf F i))[0+zL ((a:Int)-1)*1]?) (nD (wm (bf F i) (0+zL ((a:Int)-1)*1) lb)) (aj _ _ om)<|.K 2 (Ga&&Ao ((↑(wm (bf F i) (0+zL ((a:Int)-1)*1) lb):Int)<(m:Int))&&Ga) (by((refine aA ?_ ?_)<;>(repeat' (first|(refine aA ?_ ?_)|(with_reducible rfl)|(refine decide_eq_true ?_)|(refine We ?_)|(refine dg ?_)))<;>(have h7:(0+zL ((a:Int)-1)*1)=a-1:=om;have h8:=o6 F (i:=i) (k:=a-1) om;rw[<-h7]at h8;omega)))<|.O 3 ((wo nD F)[wm (bf F i) (0+zL ((a:Int)-1)*1) lb*1]?) (nD (wm F (wm (bf F i) (0+zL ((a:Int)-1)*1) lb) lb)) (@C9 F ((bf F i).getD (0+zL ((a:Int)-1)*1) lb) (by(have h7:(0+zL ((a:Int)-1)*1)=a-1:=om;have h8:=o6 F (i:=i) (k:=a-1) om;rw[<-h7]at h8;omega)))<|.K 6 (Ga&&Ao ((i:Int)<m)&&Ga) wp<|.O 3 ((wo nD F)[i*1]?) (nD (wm F (i*1) lb)) (aj _ _ om)<|.B 4 ((↑(wm F (i*1) lb):Int)<(↑(wm F (wm (bf F i) (0+zL ((a:Int)-1)*1) lb) lb):Int)) (λ p3 Z6=>.I 3 (a-1) (by(have h9:=iy F i;omega))<|.V 1 5 (zI (a-1)) (zN (a-1)) wp<|Aw ZA ⟨(a-1),om,(by(simp only[Wx,WE]at *;(try rw[show zL ((a:Int)-1)=a-1 from om]at *);exact UC hR om om)),⟨⟩⟩ (by show a-1<a;clear ZA ZC ZB ZD;omega) [(0,0)] ro) (λ p3 Z6=>.val 5 (zN a) (zN (fT F i (bf F i) (v0 (bf F i)))) (by(simp only[Wx,WE]at *;(try rw[show zL ((a:Int)-1)=a-1 from om]at *);rw[UD hR om om]))<|BO ZC 0 (():Unit) rfl [(0,0)] ro)) (λ p2 Z7=>.V 26 5 (zN a) (zN (fT F i (bf F i) (v0 (bf F i)))) (by(rw[UE hR om]))<|BO ZC 0 (():Unit) rfl [(0,0)] ro)) (fun|⟨a,ha,hR,_⟩=>by kernel_rfl) ⟨((bf F i).length),om,om,⟨⟩⟩ [(0,0)] ro (bB (fun|()=>.K 5 (aV z9 (Ge (↑(fT F i (bf F i) (v0 (bf F i))):Int)) z9 (v0 (bf F i))&&Ga) wp<|.K 1 (Ga&&(Ga&&Wf (0+fT F i (bf F i) (v0 (bf F i))*1) (v0 (wo nD (bf F i))))&&Ga&&Ga&&Wf ((0+fT F i (bf F i) (v0 (bf F i)))*8) 140737488355328) wp<|.K 6 (Ga&&V9 (fT F i (bf F i) (v0 (bf F i))*1) (v0 (bif Ga&&V9 (fT F i (bf F i) (v0 (bf F i))*1) (v0 (wo nD (bf F i)))then wo nD (bf F i)else wx (fT F i (bf F i) (v0 (bf F i))*1) (Ag 0 (wo nD (bf F i)))))&&Ga&&Ga&&Ga&&Ga&&Wf ((fT F i (bf F i) (v0 (bf F i))+1)*8) 140737488355328) P4<|.K 5 (aV (Ge (↑(fT F i (bf F i) (v0 (bf F i))):Int)) z9 z9 (v0 (bf F i))&&Ga) wp<|.K 1 (Ga&&V9 ((fT F i (bf F i) (v0 (bf F i))+1)*1) (v0 ((bif Ga&&V9 (fT F i (bf F i) (v0 (bf F i))*1) (v0 (wo nD (bf F i)))then wo nD (bf F i)else wx (fT F i (bf F i) (v0 (bf F i))*1) (Ag 0 (wo nD (bf F i))))++[zN i]))&&Ga&&(Ga&&Wf (0+fT F i (bf F i) (v0 (bf F i))*1+(v0 (bf F i)-fT F i (bf F i) (v0 (bf F i)))*1) (v0 (wo nD (bf F i))))&&Ga&&Ga&&Wf ((fT F i (bf F i) (v0 (bf F i))+1+(v0 (bf F i)-fT F i (bf F i) (v0 (bf F i))))*8) 140737488355328) P4<|.W 4 (i+1)<|.V 1 3 (Wb 136 136 0 (fT F i (bf F i) (v0 (bf F i))+1+(v0 (bf F i)-fT F i (bf F i) (v0 (bf F i)))) 1) (Wb 136 136 0 (v0 (bf F (i+1))) 1) (by(have p9:=oY F i (bf F i) (bf F i).length;have p8:=iy F i;simp only[Wx]at *;exact congrArg (λ z=>Wb _ _ 0 z 1) (by rw[P6 om];omega)))<|.val 4 (zI (i+1)) (zN (i+1)) (by(refine aF ?_;(omega)))<|.blk 136 136 (V8 ((bif Ga&&V9 (fT F i (bf F i) (v0 (bf F i))*1) (v0 (wo nD (bf F i)))then wo nD (bf F i)else wx (fT F i (bf F i) (v0 (bf F i))*1) (Ag 0 (wo nD (bf F i))))++[zN i]++bif V9 (0+fT F i (bf F i) (v0 (bf F i))*1) 0&&V9 ((v0 (bf F i)-fT F i (bf F i) (v0 (bf F i)))*1) (v0 (wo nD (bf F i)))then wo nD (bf F i)else wx ((v0 (bf F i)-fT F i (bf F i) (v0 (bf F i)))*1) (Ag (0+fT F i (bf F i) (v0 (bf F i))*1) (wo nD (bf F i)))) 3 Ga) (V8 (wo nD (bf F (i+1))) 3 Ga) (by(refine aq ?_;simp only[Wx]at Z8;rw[P5,UF rfl,Lr om];unfold EB;rw[W4,XB,WI];rfl))<|Aw ZB ⟨(i+1),om,⟨⟩⟩ (by show m-(i+1)<m-i;clear ZB ZD;omega) [(136,136)] ro)))) (λ p0 Z9=>.val 3 (Wb 0 0 0 (v0 (bf F i)) 1) (Wb 0 0 0 (v0 (bf F m)) 1) (by(rw[show i=m from by omega]))<|.blk 0 0 (V8 (wo nD (bf F i)) 3 Ga) (V8 (wo nD (bf F m)) 3 Ga) (by(rw[show i=m from by omega]))<|BO ZD 0 (():Unit) rfl [(0,0)] ro)) (fun|⟨i,hi,_⟩=>by kernel_rfl) ⟨(0),om,⟨⟩⟩ [(24,24)] ro (bB (fun|()=>.Y 2 [0] [0] (Wb 0 0 0 (v0 (bf F m)) 1) [V8 (wo nD (bf F m)) 3 Ga] ok))) kr
def Da (F:Gw)(m:Nat)(hm:m=F.length)(hm2:m<=320)(I:Gw)(n:Nat)(hn:n=I.length)(hn2:n<=320)(hI:∀k,k<n->I.getD k lb<F.length):S1 186 [.sl Gd m 1 (F.map nD),.sl Gd n 1 (I.map nD)] [] (.sl Gd n 2 ((dP F I n).flatMap ci)) []:=
 SpecH.frz (Lo F m hm hm2 I n hn hn2 hI) (by rw[lN,eQ]) (by decide) (cm (λ _=>rfl) _)
def Db (X:GW)(m:Nat)(hm:m=X.length)(hm2:m<=100000)(n:Nat)(hn2:n<=320)(hl:∀i,i<m->(bN X i).2.length=n)(hw:∀i,(bN X i).1<=1000000000000000000)(hc:∀i k,(bN X i).2.getD k lb<=1000000000000000000):S1 188 [.sl Gd m 2 (X.flatMap ci)] [] (.sl Gd (m/2) 2 ((ft X (m/2)).flatMap ci)) []:=
 SpecH.frz (Lp X m hm hm2 n hn2 hl hw hc) (by rw[lN,eb]) (by decide) (cm (λ _=>rfl) _)
def At (A:GW)(a:Nat)(ha:a=A.length)(ha2:a<=100000)(B:GW)(b:Nat)(hb:b=B.length)(hb2:b<=100000)(T:GW)(hT:pC A B (a+b) 0 0=T):S1 187 [.sl Gd a 2 (A.flatMap ci),.sl Gd b 2 (B.flatMap ci)] [] (.sl Gd (a+b) 2 (T.flatMap ci)) []:=
 SpecH.frz (Gr A a ha ha2 B b hb hb2 T hT) (by rw[lN,<-hT,kR]) (by decide) (cm (λ _=>rfl) _)
def wq {Q:Pa->Prop}{A B:GW}(hA:∀i,i<A.length->Q (bN A i))(hB:∀k,k<B.length->Q (bN B k)):∀f i k,f+i+k=A.length+B.length->i<=A.length->k<=B.length->∀x∈pC A B f i k,Q x
 |0,_,_,_,_,_,x,h=>by cases h
 |f+1,i,k,hf,hi,hk,x,h=>by
  rw[pC]at h
  by_cases q:EA A B i k
  ·rw[ZF q]at h
   have hi2:i<A.length:=q.elim (λ e=>by omega) λ e=>e.1
   rcases List.mem_cons.1 h with e|h
   ·rw[e];exact hA i hi2
   ·exact wq hA hB f (i+1) k om om hk x h
  ·rw[ZE q]at h
   have hk2:k<B.length:=by
    rcases WR k B.length with e|e
    ·exact e
    ·exact absurd (.inl om) q
   rcases List.mem_cons.1 h with e|h
   ·rw[e];exact hB k hk2
   ·exact wq hA hB f i (k+1) om hi om x h
def ec (A:GW):Nat->GW
 |0=>A
 |k+1=>pC A (ft (ec A k) ((ec A k).length/2)) (A.length+(ec A k).length/2) 0 0
def si (A:GW):∀k,(ec A k).length<=2*A.length
 |0=>by rw[ec];omega
 |k+1=>by
  have ih:=si A k;rw[ec,kR];omega
def EC (n w c:Nat)(p:Pa):Prop:=p.2.length=n/\p.1<=w/\∀k,p.2.getD k lb<=c
def EC.mono {n w c w' c':Nat}{p:Pa}(h:EC n w c p)(hw:w<=w')(hc:c<=c'):EC n w' c' p:=⟨h.1,Ww h.2.1 hw,λ k=>Ww (h.2.2 k) hc⟩
def Gs (a b:Gw)(k:Nat):(eS a b).getD k lb<=a.getD k lb+b.getD k lb:=by
 unfold eS;rw[Wd,ZO,Wd,Wd]
 cases a[k]? <;>cases b[k]? <;>simp <;>exact W5 _
def yK {X:GW}:∀{j:Nat} {x:Pa},x∈ft X j->∃i,i<j/\x=((bN X (2*i)).1+(bN X (2*i+1)).1,eS (bN X (2*i)).2 (bN X (2*i+1)).2)
 |0,x,h=>by cases h
 |j+1,x,h=>by
  rcases List.mem_append.1 h with h|h
  ·obtain⟨i,hi,e⟩:=yK h
   exact⟨i,by omega,e⟩
  ·exact⟨j,by omega,List.mem_singleton.1 h⟩
def f9 {X:GW}{i:Nat}(h:i<X.length):bN X i∈X:=by
 unfold bN;rw[Wd,Wa h];exact Xf h
def I2 {A:GW}{n w:Nat}(hA:∀x∈A,EC n w 1 x):∀k,∀x∈ec A k,EC n (2^k*w) (2^k) x
 |0,x,h=>(hA x h).mono om (by decide)
 |k+1,x,h=>by
  have ih:=I2 hA k;have e:2^(k+1)=2^k+2^k:=by rw[Nat.pow_succ];omega
  have e2:2^(k+1)*w=2^k*w+2^k*w:=by rw[e,Xt]
  have p1:1<=2^k:=Nat.one_le_two_pow;have p2:w<=2^k*w:=Nat.le_mul_of_pos_left _ p1;rw[ec]at h;refine wq (Q:=EC n (2^(k+1)*w) (2^(k+1))) (λ i hi=>(hA _ (f9 hi)).mono om om) (λ i hi=>?_) _ 0 0 (by rw[eb];omega) (W5 _) (W5 _) x h;obtain⟨j,hj,q⟩:=yK (f9 hi);have b1:=ih _ (f9 (X:=ec A k) (i:=2*j) om);have b2:=ih _ (f9 (X:=ec A k) (i:=2*j+1) om);rw[q];refine⟨fu b1.1 b2.1,?_,λ t=>Ww (Gs _ _ t) ?_⟩
  ·have:=b1.2.1;have:=b2.2.1
   show _+_<=_;omega
  ·have:=b1.2.2 t;have:=b2.2.2 t
   omega
def P7(h:p:=by(refine decide_eq_true ?_;have h9:=hI k om;(try simp only[Wx]);(try rw[iz,iA,WP]);omega)):=h
def lP (I of:Gw)(o:Z4):Nat->Z4
 |0=>o
 |k+1=>(lP I of o k).set (I.getD k lb) (Xg (((lP I of o k).getD (I.getD k lb) lb).toNat+of.getD k lb))
def iz (I of:Gw)(o:Z4):∀k,(lP I of o k).length=o.length
 |0=>rfl
 |k+1=>by rw[lP,X8,iz I of o k]
def jc (X:GW)(I:Gw)(n:Nat)(o:Z4):Nat->Z4
 |0=>o
 |i+1=>lP I (bN X i).2 (jc X I n o i) n
def iA (X:GW)(I:Gw)(n:Nat)(o:Z4):∀i,(jc X I n o i).length=o.length
 |0=>rfl
 |i+1=>by rw[jc,iz,iA X I n o i]
def UG {L:Z4}{k:Nat}(h:k<L.length):(L.map dB)[0+k*1]? =Ge (dB (L.getD k lb)):=by
 rw[WE,Wx,WB,Wd,Wa h];rfl
def P8 {o:Z4}{j v:Nat}(hj:j<o.length):ac (o.map dB) j [D.v (.int .u8 (((((o.getD j lb).toNat:Nat):Int)+((v:Nat):Int)%256)%256))]=(o.set j (Xg ((o.getD j lb).toNat+v))).map dB:=by
 have e:((((o.getD j lb).toNat:Nat):Int)+((v:Nat):Int)%256)%256=((((o.getD j lb).toNat+v)%256:Nat):Int):=by omega
 rw[e,jH (Zd _ (by decide)) hj]
 congr 2;apply UInt8.toNat_inj.1;simp
def I3 {k:Nat}(hk:k<=15):2^k<=32768:=Xh (n:=2) (by decide) hk
def sj {X:GW}{i:Nat}(h:¬i<X.length):bN X i=(0,[]):=by
 unfold bN;rw[Wd,WL om];rfl
def I4 {X:GW}{n k:Nat}(hk:k<=15)(hB:∀x∈X,EC n (2^k*1073741824) (2^k) x):(∀i,i<X.length->(bN X i).2.length=n)/\(∀i,(bN X i).1<=1000000000000000000)/\∀i t,(bN X i).2.getD t lb<=1000000000000000000:=by
 have hp:=I3 hk;refine⟨λ i hi=>(hB _ (f9 hi)).1,λ i=>?_,λ i t=>?_⟩
 ·by_cases h:i<X.length
  ·have:=(hB _ (f9 h)).2.1;omega
  ·rw[sj h];exact W5 _
 ·by_cases h:i<X.length
  ·have:=(hB _ (f9 h)).2.2 t;omega
  ·rw[sj h];exact W5 _
def Dc (F:Gw)(m:Nat)(hm:m=F.length)(hm2:m<=320)(I:Gw)(n:Nat)(hn:n=I.length)(hn2:n<=320)(hI:∀k,k<n->I.getD k lb<F.length)(A:GW)(hA:dP F I n=A):S1 186 [.sl Gd m 1 (F.map nD),.sl Gd n 1 (I.map nD)] [] (.sl Gd n 2 (A.flatMap ci)) []:=by
 have:=Da F m hm hm2 I n hn hn2 hI;rwa [hA]at this
def Dd (A:GW)(n:Nat)(hAl:A.length=n)(hn2:n<=320)(hB:∀k,∀x∈ec A k,EC n (2^k*1073741824) (2^k) x)(k:Nat)(hk:1<=k/\k<=15):S1 188 [.sl Gd (ec A (k-1)).length 2 ((ec A (k-1)).flatMap ci)] [] (.sl Gd ((ec A (k-1)).length/2) 2 ((ft (ec A (k-1)) ((ec A (k-1)).length/2)).flatMap ci)) []:=by
 obtain⟨h1,h2,h3⟩:=I4 (k:=k-1) om (hB (k-1));have:=si A (k-1);exact Db _ _ rfl om n hn2 h1 h2 h3
def Au (A:GW)(n:Nat)(hAl:A.length=n)(hn2:n<=320)(k:Nat):S1 187 [.sl Gd n 2 (A.flatMap ci),.sl Gd ((ec A (k-1)).length/2) 2 ((ft (ec A (k-1)) ((ec A (k-1)).length/2)).flatMap ci)] [] (.sl Gd (ec A (k-1+1)).length 2 ((ec A (k-1+1)).flatMap ci)) []:=by
 have h:=si A (k-1);have:=At A n hAl.symm om (ft (ec A (k-1)) ((ec A (k-1)).length/2)) ((ec A (k-1)).length/2) (eb _ _).symm om (ec A (k-1+1)) (by rw[ec,hAl])
 rwa [show n+(ec A (k-1)).length/2=(ec A (k-1+1)).length from by rw[ec,kR,hAl]]at this
def Lw (F:Gw)(m:Nat)(hm:m=F.length)(hm2:m<=320)(hF:∀t,F.getD t lb<=1073741824)(I:Gw)(n:Nat)(hn:n=I.length)(hn2:2<=n/\n<=320)(hI:∀k,k<n->I.getD k lb<F.length)(q:Nat)(hq:1<=q/\q<=15)(A:GW)(hA:dP F I n=A)(hAl:A.length=n)(hB:∀k,∀x∈ec A k,EC n (2^k*1073741824) (2^k) x)(X:GW)(hX:ec A (q-1)=X)(hXl:2*n-2<=X.length)(hXn:∀i,i<X.length->(bN X i).2.length=n)(hXc:∀i t,(bN X i).2.getD t lb<=1000000000):S0 169 [.sl Gd m 1 (F.map nD),.sl Gd n 1 (I.map nD),nD q] [] (.ref 0 0 0 m 1) [⟨(jc X I n (Wt m 0) (2*n-2)).map dB, 5,Ga⟩]:=SpR Tryz.func169 rfl rfl rfl ⟨aH _,trivial⟩ rfl 1000 64 (λ R ok=>.C 4 186 Ga [] (.fn S5 (@Dc (F) (m) om om (I) (n) om om om (A) aG))<|.V 4 8 (Wu Gd n 2 (v8 ci A)) (Wu Gd (v0 (ec A 0)) 2 (v8 ci (ec A 0))) (by(rw[ec,hAl]))<|BY T_ok ae Gd 67 0 (am Tryz.prog 169 0) (λ(x:(k:Nat)×'(hk:1<=k/\k<=q)×'Unit)=>match x with|⟨k,hk,_⟩=>Wr [(0,Wu Gd m 1 (wo nD F)),(1,Wu Gd n 1 (wo nD I)),(2,zN q),(7,Wu Gd n 2 (v8 ci A)),(8,.sl Gd (ec A (k-1)).length 2 ((ec A (k-1)).flatMap ci)),(9,nD k)] [] 0) (λ(x:(k:Nat)×'(hk:1<=k/\k<=q)×'Unit)=>match x with|⟨k,hk,_⟩=>q-k) [⟨Unit,.exit 0,λ()=>Wr [(0,Wu Gd m 1 (wo nD F)),(1,Wu Gd n 1 (wo nD I)),(2,zN q),(7,Wu Gd n 2 (v8 ci A)),(8,.sl Gd X.length 2 (X.flatMap ci))] [] 0⟩] 1000 64 (fun|⟨k,hk,_⟩,Q,ZB,ZD=>.B 4 ((k:Int)<q) (λ p0 Z9=>.C 3 188 Ga [] (.fn S7 (@Dd (A) (n) aG om om (k) om))<|.C 1 187 Ga [] (.fn S6 (@Au (A) (n) om om (k)))<|.W 4 (k+1)<|.V 1 8 (Wu Gd (v0 (ec A (k-1+1))) 2 (v8 ci (ec A (k-1+1)))) (Wu Gd (v0 (ec A (k+1-1))) 2 (v8 ci (ec A (k+1-1)))) (by clear ZB ZD;(simp_all;done))<|.val 9 (zI (k+1)) (zN (k+1)) (by(refine aF ?_;(omega)))<|Aw ZB ⟨(k+1),om,⟨⟩⟩ (by show q-(k+1)<q-k;clear ZB ZD;omega) [] ro) (λ p0 Z9=>.val 8 (Wu Gd (v0 (ec A (k-1))) 2 (v8 ci (ec A (k-1)))) (Wu Gd (v0 X) 2 (v8 ci X)) (by(have e:k=q:=om;rw[e,hX]))<|BO ZD 0 (():Unit) rfl [] ro)) (fun|⟨k,hk,_⟩=>by kernel_rfl) ⟨(1),om,⟨⟩⟩ [] ro (bB (fun|()=>.K 3 (Ga&&Ao ((m:Int)<=m)&&Ga&&Ga&&Ga&&Ga&&Ao ((↑(TI.bytes zW):Int)*(m:Int)<=140737488355328)) (by(have h9:((zW.bytes:Nat):Int)=1:=rfl;rw[h9];simp;omega))<|.M 2 16 16 (V8 (bR [bI 0] (m*1)) 5 Ga) (V8 (wo dB (jc X I n (Ar m 0) 0)) 5 Ga) (by(rw[mh];rfl))<|BY T_ok ae Gd 67 0 (am Tryz.prog 169 1) (λ(x:(i:Nat)×'(hi:i<=2*n-2)×'Unit)=>match x with|⟨i,hi,_⟩=>Wr [(1,Wu Gd n 1 (wo nD I)),(8,Wu Gd (v0 X) 2 (v8 ci X)),(10,Wb 0 0 0 m 1),(11,nD i)] [⟨0,0,16,16,.b ⟨(jc X I n (Ar m 0) i).map dB,5,Ga⟩⟩] 8) (λ(x:(i:Nat)×'(hi:i<=2*n-2)×'Unit)=>match x with|⟨i,hi,_⟩=>2*n-i) [⟨Unit,.exit 2,λ()=>Wr [(1,Wu Gd n 1 (wo nD I)),(8,Wu Gd (v0 X) 2 (v8 ci X)),(10,Wb 0 0 0 m 1)] [⟨0,0,16,16,.b ⟨(jc X I n (Ar m 0) (2*n-2)).map dB,5,Ga⟩⟩] 8⟩] 1000 64 (fun|⟨i,hi,_⟩,Q,ZB,ZD=>.W 5 (2*(n:Int))<|.W 2 (2*(n:Int)-2)<|.B 2 ((i:Int)<2*n-2) (λ p1 Z8=>.M 1 0 0 (V8 (wo dB (jc X I n (Ar m 0) i)) 5 Ga) (V8 (wo dB (lP I (Wg (bN X i)) (jc X I n (Ar m 0) i) 0)) 5 Ga) (by exact rfl)<|BY T_ok ae Gd 67 0 (am Tryz.prog 169 2) (λ(x:(k:Nat)×'(hk:k<=n)×'Unit)=>match x with|⟨k,hk,_⟩=>Wr [(1,Wu Gd n 1 (wo nD I)),(8,Wu Gd (v0 X) 2 (v8 ci X)),(10,Wb 0 0 0 m 1),(11,zN i),(12,nD k)] [⟨0,0,0,0,.b ⟨(lP I (bN X i).2 (jc X I n (Ar m 0) i) k).map dB,5,Ga⟩⟩] 8) (λ(x:(k:Nat)×'(hk:k<=n)×'Unit)=>match x with|⟨k,hk,_⟩=>n-k) [⟨Unit,.exit 4,λ()=>Wr [(1,Wu Gd n 1 (wo nD I)),(8,Wu Gd (v0 X) 2 (v8 ci X)),(10,Wb 0 0 0 m 1),(11,zN i)] [⟨0,0,0,0,.b ⟨(jc X I n (Ar m 0) (i+1)).map dB,5,Ga⟩⟩] 8⟩] 1000 64 (fun|⟨k,hk,_⟩,Q,ZA,ZC=>.B 5 ((k:Int)<n) (λ p2 Z7=>.K 5 (Ga&&Ao ((k:Int)<n)&&Ga) Ki<|.O 2 ((wo nD I)[k*1]?) (nD (wm I (k*1) lb)) (aj _ _ om)<|.K 4 (Ga&&Ao ((k:Int)<n)&&Ga) Ki<|.O 2 ((wo nD I)[k*1]?) (nD (wm I (k*1) lb)) (aj _ _ om)<|.K 1 (Ga&&Ao ((↑(wm I (k*1) lb):Int)<(m:Int))) P7<|.O 2 ((wo dB (lP I (Wg (bN X i)) (jc X I n (Ar m 0) i) k))[0+wm I (k*1) lb*1]?) (dB (wm (lP I (Wg (bN X i)) (jc X I n (Ar m 0) i) k) (wm I (k*1) lb) lb)) (@UG (lP I (bN X i).2 (jc X I n (Ar m 0) i) k) (I.getD (k*1) lb) (by(have h9:=hI k om;(try simp only[Wx]);(try rw[iz,iA,WP]);omega)))<|.K 3 (Ga&&Ao ((i:Int)<(↑(v0 X):Int))&&Ga) Ki<|.O 5 ((v8 ci X)[i*2+1]?) (Wu Gd (v0 (Wg (wm X i lb))) 1 (wo nD (Wg (wm X i lb)))) (cR (k:=2) (i:=i) (j:=1) (λ _=>rfl) om om rfl)<|.K 2 (Ga&&Ao ((k:Int)<(↑(v0 (Wg (wm X i lb))):Int))&&Ga) (by((refine aA ?_ ?_)<;>(repeat' (first|(refine aA ?_ ?_)|(with_reducible rfl)|(refine decide_eq_true ?_)|(refine We ?_)|(refine dg ?_)))<;>(have h9:(X.getD i lb).2.length=n:=hXn i om;omega)))<|.O 2 ((wo nD (Wg (wm X i lb)))[k*1]?) (nD (wm (Wg (wm X i lb)) k lb)) (@C9 (X.getD i lb).2 k (by(have h9:(X.getD i lb).2.length=n:=hXn i om;omega)))<|.O 1 (au .u8 (↑(wm (Wg (wm X i lb)) k lb):Int)) (bI ((↑(wm (Wg (wm X i lb)) k lb):Int)%256)) (aD _ _)<|.O 2 (au .u8 ((↑(V7 (wm (lP I (Wg (bN X i)) (jc X I n (Ar m 0) i) k) (wm I (k*1) lb) lb)):Int)+(↑(wm (Wg (wm X i lb)) k lb):Int)%256)) (bI (((↑(V7 (wm (lP I (Wg (bN X i)) (jc X I n (Ar m 0) i) k) (wm I (k*1) lb) lb)):Int)+(↑(wm (Wg (wm X i lb)) k lb):Int)%256)%256)) (aD _ _)<|.K 1 (Ga&&Ao ((↑(wm I (k*1) lb):Int)<(m:Int))) P7<|.K 1 (Ga&&Wf (0+wm I (k*1) lb*1+1) (v0 (wo dB (lP I (Wg (bN X i)) (jc X I n (Ar m 0) i) k)))) (by(have h9:=hI k om;refine aA rfl (We ?_);rw[Wj,iz,iA,WP];simp only[Wx];omega))<|.lst (ac (wo dB (lP I (Wg (bN X i)) (jc X I n (Ar m 0) i) k)) (0+wm I (k*1) lb*1) [bI (((↑(V7 (wm (lP I (Wg (bN X i)) (jc X I n (Ar m 0) i) k) (wm I (k*1) lb) lb)):Int)+(↑(wm (Wg (wm X i lb)) k lb):Int)%256)%256)]) (ac (wo dB (lP I (Wg (bN X i)) (jc X I n (Ar m 0) i) k)) (wm I k lb) [bI (((↑(V7 (wm (lP I (Wg (bN X i)) (jc X I n (Ar m 0) i) k) (wm I k lb) lb)):Int)+(↑(wm (Wg (wm X i lb)) k lb):Int)%256)%256)]) (by(simp;done))<|.W 3 (k+1)<|.V 1 12 (zI (k+1)) (zN (k+1)) (by(refine aF ?_;(omega)))<|.blk 0 0 (V8 (ac (wo dB (lP I (Wg (bN X i)) (jc X I n (Ar m 0) i) k)) (wm I k lb) [bI (((↑(V7 (wm (lP I (Wg (bN X i)) (jc X I n (Ar m 0) i) k) (wm I k lb) lb)):Int)+(↑(wm (Wg (wm X i lb)) k lb):Int)%256)%256)]) 5 Ga) (V8 (wo dB (lP I (Wg (bN X i)) (jc X I n (Ar m 0) i) (k+1))) 5 Ga) (by(have h9:=hI k om;exact aq (P8 (v:=(X.getD i lb).2.getD k lb) (by rw[iz,iA,WP];omega))))<|Aw ZA ⟨(k+1),om,⟨⟩⟩ (by show n-(k+1)<n-k;clear ZA ZC ZB ZD;omega) [(0,0)] ro) (λ p2 Z7=>.blk 0 0 (V8 (wo dB (lP I (Wg (bN X i)) (jc X I n (Ar m 0) i) k)) 5 Ga) (V8 (wo dB (jc X I n (Ar m 0) (i+1))) 5 Ga) (by(rw[show k=n from by omega];rfl))<|BO ZC 0 (():Unit) rfl [(0,0)] ro)) (fun|⟨k,hk,_⟩=>by kernel_rfl) ⟨(0),om,⟨⟩⟩ [(0,0)] ro (bB (fun|()=>.W 3 (i+1)<|.V 1 11 (zI (i+1)) (zN (i+1)) (by(refine aF ?_;(omega)))<|Aw ZB ⟨(i+1),om,⟨⟩⟩ (by show 2*n-(i+1)<2*n-i;clear ZB ZD;omega) [(0,0)] ro))) (λ p1 Z8=>.blk 0 0 (V8 (wo dB (jc X I n (Ar m 0) i)) 5 Ga) (V8 (wo dB (jc X I n (Ar m 0) (2*n-2))) 5 Ga) (by(rw[show i=2*n-2 from by omega]))<|BO ZD 0 (():Unit) rfl [(0,0)] ro)) (fun|⟨i,hi,_⟩=>by kernel_rfl) ⟨(0),om,⟨⟩⟩ [(16,16)] ro (bB (fun|()=>.Y 2 [0] [0] (Wb 0 0 0 m 1) [V8 (wo dB (jc X I n (Ar m 0) (2*n-2))) 5 Ga] ok))))) kr
def gN (X:Gw)(i:Nat):Nat:=X.getD i lb
def De (X:Gw)(i v t:Nat):gN (X.set i v) t=if i=t/\i<X.length then v else gN X t:=by
 unfold gN;rw[Wd,Wd,XA]
 by_cases h:i=t
 ·subst h
  by_cases q:i<X.length
  ·simp[q]
  ·simp[q]
 ·simp[h]
def yL {X:Gw}{i j:Nat}(hi:i<X.length)(hj:j<X.length)(t:Nat):gN (swp X i j) t=if t=j then gN X i else if t=i then gN X j else gN X t:=by
 rw[oD,De,De,X8];show(if _ then gN X i else if _ then gN X j else _)=_
 repeat' split
 all_goals (first|rfl|(exfalso;omega))
def mj {X:Gw}{a b:Nat}:∀k,a+k<=b->b+k<=X.length->∀t,gN (eP X a b k) t=if a<=t/\t<a+k then gN X (b+(t-a))else if b<=t/\t<b+k then gN X (a+(t-b))else gN X t
 |0,_,_,t=>by
  rw[BP];repeat' split
  all_goals (first|rfl|(exfalso;omega))
 |k+1,h1,h2,t=>by
  have ih:=mj (X:=X) (a:=a) (b:=b) k om om;rw[<-BQ,yL (by rw[ce];omega) (by rw[ce];omega),ih,ih,ih]
  repeat' split
  all_goals (first|rfl|(congr 1;omega)|(exfalso;omega))
def wt {m:Nat}:∀(f i j:Nat) (X:Gw),1<=i->1<=j->i<=m->m+j<=X.length->i+j<=f->∀t,gN (gn m f i j X) t=if m-i<=t/\t<m-i+j then gN X (t+i)else if m-i+j<=t/\t<m+j then gN X (t-j)else gN X t
 |0,i,j,X,h1,h2,_,_,h5,_=>by omega
 |f+1,i,j,X,h1,h2,h3,h4,h5,t=>by
  rcases Ym i j with h|h|h
  ·rw[Im h,wt f i (j-i) _ h1 om h3 (by rw[ce];omega) om,mj i om om,mj i om om,mj i om om]
   repeat' split
   all_goals (first|rfl|(congr 1;omega)|(exfalso;omega))
  ·rw[Ik h,mj i om om]
   repeat' split
   all_goals (first|rfl|(congr 1;omega)|(exfalso;omega))
  ·rw[Il h,wt f (i-j) j _ om h2 om (by rw[ce];omega) om,mj j om om,mj j om om,mj j om om]
   repeat' split
   all_goals (first|rfl|(congr 1;omega)|(exfalso;omega))
def Lx {X:Gw}{a m b:Nat}(h1:a<m)(h2:m<b)(h3:b<=X.length)(t:Nat):gN (v6 X a m b) t=if a<=t/\t<a+(b-m)then gN X (t+(m-a))else if a+(b-m)<=t/\t<b then gN X (t-(b-m))else gN X t:=by
 rw[m8,wt _ _ _ _ om om om om om]
 repeat' split
 all_goals (first|rfl|(congr 1;omega)|(exfalso;omega))
def I5 {X:Gw}{a:Nat}:∀k,a+k<X.length->∀t,gN (iI X a k) t=if a<=t/\t<a+k then gN X (t+1)else if t=a+k then gN X a else gN X t
 |0,_,t=>by
  rw[BU,ZE om];split
  ·next h=>rw[h];rfl
  ·rfl
 |k+1,h,t=>by
  have ih:=I5 (X:=X) (a:=a) k om;rw[<-BW,yL (by rw[eI];omega) (by rw[eI];omega),ih,ih,ih]
  repeat' split
  all_goals (first|rfl|(congr 1;omega)|(exfalso;omega))
def I6 {X:Gw}{m:Nat}(hm:m<X.length):∀k,k<=m->∀t,gN (iJ X m k) t=if t=m-k then gN X m else if m-k<t/\t<=m then gN X (t-1)else gN X t
 |0,_,t=>by
  rw[BV];split
  ·next h=>rw[h];rfl
  ·rw[ZE om]
 |k+1,h,t=>by
  have ih:=I6 (X:=X) (m:=m) hm k om;rw[<-BX,yL (by rw[eJ];omega) (by rw[eJ];omega),ih,ih,ih]
  repeat' split
  all_goals (first|rfl|(congr 1;omega)|(exfalso;omega))
def Lt (W:Gw)(x y:Nat):Prop:=gN W x<gN W y\/(gN W x=gN W y/\x<y)
structure Mv (X Y:Gw)(a b:Nat):Prop where
 l:Y.length=X.length
 o:∀i,i<a\/b<=i->gN Y i=gN X i
 m:∀i,a<=i->i<b->∃j,a<=j/\j<b/\gN Y i=gN X j
def Mv.refl (X:Gw)(a b:Nat):Mv X X a b:=⟨rfl,λ _ _=>rfl,λ i h1 h2=>⟨i,h1,h2,rfl⟩⟩
def Mv.trans {X Y Z:Gw}{a b:Nat}(h:Mv X Y a b)(k:Mv Y Z a b):Mv X Z a b:=⟨k.l.trans h.l,λ i hi=>(k.o i hi).trans (h.o i hi),λ i h1 h2=>by
 obtain⟨j,p1,p2,p3⟩:=k.m i h1 h2;obtain⟨j',q1,q2,q3⟩:=h.m j p1 p2;exact⟨j',q1,q2,p3.trans q3⟩⟩
def Mv.wide {X Y:Gw}{a b a' b':Nat}(h:Mv X Y a b)(ha:a'<=a)(hb:b<=b'):Mv X Y a' b':=⟨h.l,λ i hi=>h.o i om,λ i h1 h2=>by
 by_cases q:a<=i/\i<b
 ·obtain⟨j,p1,p2,p3⟩:=h.m i q.1 q.2
  exact⟨j,by omega,by omega,p3⟩
 ·exact⟨i,h1,h2,h.o i om⟩⟩
def jY (W X:Gw)(a b:Nat):Prop:=∀i j,a<=i->i<j->j<b->Lt W (gN X i) (gN X j)
def P9 (X:Gw)(a m b:Nat):Prop:=∀i j,a<=i->i<m->m<=j->j<b->gN X i<gN X j
def jY.le {W X:Gw}{a b i j:Nat}(h:jY W X a b)(h1:a<=i)(h2:i<=j)(h3:j<b):gN W (gN X i)<=gN W (gN X j):=by
 rcases WR i j with q|q
 ·rcases h i j h1 q h3 with r|r
  ·exact Nat.le_of_lt r
  ·exact Nat.le_of_eq r.1
 ·rw[show i=j from by omega];exact Wl _
def jY.join {W X:Gw}{a m b:Nat}(h1:jY W X a m)(h2:jY W X m b)(h3:∀i j,a<=i->i<m->m<=j->j<b->Lt W (gN X i) (gN X j)):jY W X a b:=λ i j hi hij hj=>by
 rcases WR j m with q|q
 ·exact h1 i j hi hij q
 ·rcases WR i m with r|r
  ·exact h3 i j hi r q hj
  ·exact h2 i j r hij hj
def jY.keep {W X Y:Gw}{a b c d:Nat}(h:jY W X a b)(k:Mv X Y c d)(hd:b<=c\/d<=a):jY W Y a b:=λ i j hi hij hj=>by
 rw[k.o i om,k.o j om];exact h i j hi hij hj
def Df {p:Nat->Bool}:∀(f i j T:Nat),gP p f i j=T->i<=j->j-i<=f->i<=T/\T<=j/\(T=i\/(i<T/\p (T-1)=Ga))/\(T=j\/(T<j/\p T=Gd))
 |0,i,j,T,h,h1,h2=>by
  have e:i=T:=h;subst e;exact⟨Wl _,h1,.inl rfl,.inl om⟩
 |f+1,i,j,T,h,h1,h2=>by
  rw[gP]at h
  split at h
  ·next q=>
   split at h
   ·next r=>
    obtain⟨g1,g2,g3,g4⟩:=Df f _ _ _ h om om;refine⟨by omega,g2,.inr ?_,g4⟩;rcases g3 with g3|g3
    ·rw[g3];exact⟨by omega,by rw[XK];exact r⟩
    ·exact⟨by omega,g3.2⟩
   ·next r=>
    obtain⟨g1,g2,g3,g4⟩:=Df f _ _ _ h om om;refine⟨by omega,by omega,g3,.inr ?_⟩;rcases g4 with g4|g4
    ·rw[g4];exact⟨by omega,by simpa using r⟩
    ·exact⟨by omega,g4.2⟩
  ·subst h;exact⟨Wl _,h1,.inl rfl,.inl om⟩
def wu (W X:Gw)(u v:Nat):MK W X u v<0↔gN W (gN X u)<gN W (gN X v):=v5 _ _
def Qa (W X:Gw)(a h:Nat):(qA W X a h=Ga↔gN W (gN X h)<gN W (gN X a)):=by
 unfold qA;rw[decide_eq_true_iff];exact wu _ _ _ _
def Qb (W X:Gw)(m h:Nat):(qB W X m h=Ga↔gN W (gN X h)<=gN W (gN X m)):=by
 unfold qB;rw[XX,decide_eq_false_iff_not,wu];omega
def Qc (W X:Gw)(q c:Nat):(qC W X q c=Ga↔gN W (gN X c)<=gN W (gN X (q-c))):=by
 unfold qC;rw[XX,decide_eq_false_iff_not,wu];omega
def Ly {b:Bool}{p:Prop}(h:b=Ga↔p)(q:b=Gd):¬p:=λ r=>by rw[h.2 r]at q;cases q

def Lz {X:Gw}{m st en:Nat}(h1:st<=m)(h2:m<=en)(h3:en<=X.length)(t:Nat):gN (du X m st en) t=if st<=t/\t<st+(en-m)then gN X (t+(m-st))else if st+(en-m)<=t/\t<en then gN X (t-(en-m))else gN X t:=by
 unfold du;split
 ·next q=>rw[Lx q.1 q.2 h3]
 ·next q=>
  repeat' split
  all_goals (first|rfl|(congr 1;omega)|(exfalso;omega))
def LC (X:Gw)(m st en:Nat):(du X m st en).length=X.length:=by
 unfold du;split
 ·exact BR _ _ _ _
 ·rfl
def uQ {W:Gw}{x y:Nat}(h:gN W x<=gN W y)(h2:x<y):Lt W x y:=by
 rcases Nat.lt_or_eq_of_le h with q|q
 ·exact .inl q
 ·exact .inr ⟨q,h2⟩
def yM {W:Gw}:∀(f:Nat) (X:Gw) (a m b:Nat),a<m->m<b->b<=X.length->b-a<=f->jY W X a m->jY W X m b->P9 X a m b->jY W (i5 W f X a m b) a b/\Mv X (i5 W f X a m b) a b
 |0,X,a,m,b,h1,h2,_,h4,_,_,_=>by omega
 |f+1,X,a,m,b,h1,h2,h3,h4,sA,sB,sp=>by
  rw[i5];split
  ·next hm=>
   generalize hT:gP (qA W X a) (b-m) m b=T;obtain⟨t1,t2,t3,t4⟩:=Df _ _ _ _ hT om (Wl _);have g:=I5 (X:=X) (a:=a) (T-1-a) om;refine⟨λ i j hi hij hj=>?_,eI _ _ _,λ i hi=>?_,λ i hi hj=>?_⟩
   ·have lo:∀k,m<=k->k<T->gN W (gN X k)<gN W (gN X a):=λ k k1 k2=>by
     rcases t3 with q|q
     ·omega
     ·exact abi (sB.le k1 (show k<=T-1 by omega) om) ((Qa _ _ _ _).1 q.2)
    have hi':∀k,T<=k->k<b->Lt W (gN X a) (gN X k):=λ k k1 k2=>by
     refine uQ ?_ (sp a k (Wl _) h1 om k2);rcases t4 with q|q
     ·omega
     ·exact Ww (Nat.le_of_not_lt (Ly (Qa _ _ _ _) q.2)) (sB.le t1 k1 k2)
    rw[g,g]
    repeat' split
    all_goals (first|(exfalso;omega)|skip)
    ·exact sB _ _ om om om
    ·exact .inl (lo _ om om)
    ·exact sB _ _ om om om
    ·exact hi' _ om hj
    ·exact sB _ _ om om om
   ·rw[g,ZE om,ZE om]
   ·rw[g];split
    ·exact⟨i+1,by omega,by omega,rfl⟩
    ·split
     ·exact⟨a,by omega,by omega,rfl⟩
     ·exact⟨i,hi,hj,rfl⟩
  ·next hm=>
   split
   ·next hb=>
    generalize hT:gP (qB W X m) (m-a) a m=T;obtain⟨t1,t2,t3,t4⟩:=Df _ _ _ _ hT om (Wl _);have g:=I6 (X:=X) (m:=m) om (m-T) om;rw[show m-(m-T)=T from by omega]at g;refine⟨λ i j hi hij hj=>?_,eJ _ _ _,λ i hi=>?_,λ i hi hj=>?_⟩
    ·have lo:∀k,a<=k->k<T->Lt W (gN X k) (gN X m):=λ k k1 k2=>by
      refine uQ ?_ (sp k m k1 om (Wl _) h2);rcases t3 with q|q
      ·omega
      ·exact Ww (sA.le k1 (show k<=T-1 by omega) om) ((Qb _ _ _ _).1 q.2)
     have hi':∀k,T<=k->k<m->Lt W (gN X m) (gN X k):=λ k k1 k2=>by
      rcases t4 with q|q
      ·omega
      ·exact .inl (WX (abF (Ly (Qb _ _ _ _) q.2)) (sA.le t1 k1 k2))
     rw[g,g]
     repeat' split
     all_goals (first|(exfalso;omega)|skip)
     ·exact hi' _ om om
     ·exact sA _ _ om om om
     ·exact lo _ hi om
     ·exact sA _ _ om om om
     ·exact sA _ _ om om om
    ·rw[g,ZE om,ZE om]
    ·rw[g];split
     ·exact⟨m,by omega,by omega,rfl⟩
     ·split
      ·exact⟨i-1,by omega,by omega,rfl⟩
      ·exact⟨i,hi,hj,rfl⟩
   ·next hb=>
    have hs:=v7 h1 h2;have r1:i4 a m b<=(a+b)/2:=by unfold i4;split<;>omega
    show jY W (if(a+b)/2<(a+b)/2+m-ea W X a m b/\_ then _ else _) a b/\Mv X (if(a+b)/2<(a+b)/2+m-ea W X a m b/\_ then _ else _) a b;generalize hst:ea W X a m b=st;obtain⟨t1,t2,t3,t4⟩:=Df _ _ _ _ hst hs.1 (Wl _);have s0:jz a m b=if(a+b)/2<m then(a+b)/2+m-b else a:=rfl
    have r0:i4 a m b=if(a+b)/2<m then(a+b)/2 else m:=rfl
    generalize jz a m b=S0 at *;generalize i4 a m b=R0 at *;generalize hen:(a+b)/2+m-st=en;generalize hmd:(a+b)/2=md at *;have b1:a<=st/\st<=m/\m<=en/\en<=b/\a<md/\md<b/\st<=md/\md<=en/\st+(en-m)=md/\en-md=m-st:=by omega
    obtain⟨b1,b2,b3,b4,b5,b6,b7,b8,b9,b10⟩:=b1;have g:=Lz (X:=X) b2 b3 (show en<=X.length by omega);rw[b9]at g;have c1:∀i j,a<=i->i<st->en<=j->j<b->Lt W (gN X i) (gN X j):=λ i j i1 i2 j1 j2=>by
     refine uQ ?_ (sp i j i1 om om j2);have q:gN W (gN X (st-1))<=gN W (gN X en):=by
      rcases t3 with q|q
      ·exfalso;rw[s0]at q;split at q<;>omega
      ·have:=(Qc _ _ _ _).1 q.2
       rwa [show md+m-1-(st-1)=en from by omega]at this
     exact Ww (sA.le i1 (show i<=st-1 by omega) om) (Ww q (sB.le b3 j1 j2))
    have c2:∀i j,m<=i->i<en->st<=j->j<m->Lt W (gN X i) (gN X j):=λ i j i1 i2 j1 j2=>by
     refine .inl ?_;have q:gN W (gN X (en-1))<gN W (gN X st):=by
      rcases t4 with q|q
      ·exfalso;rw[r0]at q;split at q<;>omega
      ·have:=abF (Ly (Qc _ _ _ _) q.2)
       rwa [show md+m-1-st=en-1 from by omega]at this
     exact abi (sB.le i1 (show i<=en-1 by omega) om) (WX q (sA.le b1 j1 j2))
    have l1:=LC X m st en;have mv:Mv X (du X m st en) a b:=by
     refine⟨l1,λ i hi=>?_,λ i hi hj=>?_⟩
     ·rw[g,ZE om,ZE om]
     ·rw[g];split
      ·exact⟨_,by omega,by omega,rfl⟩
      ·split
       ·exact⟨_,by omega,by omega,rfl⟩
       ·exact⟨i,hi,hj,rfl⟩
    have cr:∀i j,a<=i->i<md->md<=j->j<b->Lt W (gN (du X m st en) i) (gN (du X m st en) j):=λ i j i1 i2 j1 j2=>by
     rw[g,g]
     repeat' split
     all_goals (first|(exfalso;omega)|skip)
     ·exact c2 _ _ om om om om
     ·exact sB _ _ om om om
     ·exact sA _ _ om om om
     ·exact c1 _ _ om om om om
    have o1:jY W (du X m st en) a st:=λ i j hi hij hj=>by
     rw[g,g,ZE om,ZE om,ZE om,ZE om];exact sA _ _ hi hij om
    have o2:jY W (du X m st en) st md:=λ i j hi hij hj=>by
     rw[g,g,ZF om,ZF om];exact sB _ _ om om om
    have o3:jY W (du X m st en) md en:=λ i j hi hij hj=>by
     rw[g,g,ZE om,ZF om,ZE om,ZF om];exact sA _ _ om om om
    have o4:jY W (du X m st en) en b:=λ i j hi hij hj=>by
     rw[g,g,ZE om,ZE om,ZE om,ZE om];exact sB _ _ om om om
    have p1:P9 (du X m st en) a st md:=λ i j i1 i2 j1 j2=>by
     rw[g,g,ZE om,ZE om,ZF om];exact sp _ _ om om om om
    have p2:P9 (du X m st en) md en b:=λ i j i1 i2 j1 j2=>by
     rw[g,g,ZE om,ZF om,ZE om,ZE om];exact sp _ _ om om om om
    generalize du X m st en=Y at *;have k1:jY W (if a<st/\st<md then i5 W f Y a st md else Y) a md/\Mv Y (if a<st/\st<md then i5 W f Y a st md else Y) a md:=by
     split
     ·next q=>exact yM f Y a st md q.1 q.2 om om o1 o2 p1
     ·next q=>
      refine⟨?_,.refl _ _ _⟩;rcases(show a=st\/st=md by omega)with e|e
      ·rw[e];exact o2
      ·rw[<-e];exact o1
    generalize(if a<st/\st<md then i5 W f Y a st md else Y)=Y2 at *;obtain⟨k1,m1⟩:=k1;have o3:=o3.keep m1 (.inr om);have o4:=o4.keep m1 (.inr om);have p2:P9 Y2 md en b:=λ i j i1 i2 j1 j2=>by
     rw[m1.o i om,m1.o j om];exact p2 i j i1 i2 j1 j2
    have l2:=m1.l;have k2:jY W (if md<en/\en<b then i5 W f Y2 md en b else Y2) md b/\Mv Y2 (if md<en/\en<b then i5 W f Y2 md en b else Y2) md b:=by
     split
     ·next q=>exact yM f Y2 md en b q.1 q.2 om om o3 o4 p2
     ·next q=>
      refine⟨?_,.refl _ _ _⟩;rcases(show md=en\/en=b by omega)with e|e
      ·rw[e];exact o4
      ·rw[<-e];exact o3
    generalize(if md<en/\en<b then i5 W f Y2 md en b else Y2)=Y3 at *;obtain⟨k2,m2⟩:=k2;refine⟨jY.join (k1.keep m2 (.inl om)) k2 λ i j i1 i2 j1 j2=>?_,(mv.trans (m1.wide om om)).trans (m2.wide om om)⟩;rw[m2.o i om];obtain⟨i',u1,u2,u3⟩:=m1.m i i1 i2;obtain⟨j',v1,v2,v3⟩:=m2.m j j1 j2;rw[u3,v3,m1.o j' om];exact cr i' j' u1 u2 v1 v2

def sk {p q:Prop}(h:¬(p/\q)):¬p\/¬q:=by
 rcases Classical.em p with a|a
 ·exact .inr λ b=>h ⟨a,b⟩
 ·exact .inl a
def Lt.trans {W:Gw}{x y z:Nat}(h:Lt W x y)(k:Lt W y z):Lt W x z:=by
 unfold Lt at *;omega
def I7 {W:Gw}{a:Nat}:∀(j:Nat) (X:Gw),a<=j->j<X.length->jY W X a j->(∀i,a<=i->i<j->gN X i<gN X j)->jY W (inI W a j X) a (j+1)/\Mv X (inI W a j X) a (j+1)
 |0,X,_,_,_,_=>⟨λ i j hi hij hj=>by omega,.refl _ _ _⟩
 |j+1,X,h1,h2,hs,hx=>by
  by_cases q:a<j+1/\gN W (gN X (j+1))<gN W (gN X j)
  ·rw[In (k:=j) rfl q.1 q.2]
   have g:=yL (X:=X) (i:=j+1) (j:=j) h2 om;have g0:∀t,t<j->gN (swp X (j+1) j) t=gN X t:=λ t ht=>by rw[g,ZE om,ZE om]
   have gj:gN (swp X (j+1) j) j=gN X (j+1):=by rw[g,ZF rfl]
   have gk:gN (swp X (j+1) j) (j+1)=gN X j:=by rw[g,ZE om,ZF rfl]
   have ih:=I7 (W:=W) (a:=a) j (swp X (j+1) j) om (by rw[fq];omega)
    (λ i k hi hik hk=>by rw[g0 i om,g0 k om];exact hs i k hi hik om)
    (λ i hi hik=>by rw[g0 i hik,gj];exact hx i hi om)
   obtain⟨i1,i2⟩:=ih;have mv:Mv X (swp X (j+1) j) a (j+2):=⟨fq _ _ _,λ i hi=>by rw[g,ZE om,ZE om],λ i hi hik=>by
    rw[g];split
    ·exact⟨j+1,by omega,by omega,rfl⟩
    ·split
     ·exact⟨j,by omega,by omega,rfl⟩
     ·exact⟨i,hi,hik,rfl⟩⟩
   refine⟨jY.join i1 (λ i k hi hik hk=>by omega) λ i k hi hik hk1 hk2=>?_,mv.trans (i2.wide (Wl _) om)⟩;rw[i2.o k om,show k=j+1 from by omega,gk];obtain⟨t,t1,t2,t3⟩:=i2.m i hi hik;rw[t3]
   by_cases e:t=j
   ·rw[e,gj];exact .inl q.2
   ·rw[g0 t om];exact hs t j t1 om om
  ·rw[BS (by rw[XK];exact sk q)]
   refine⟨jY.join hs (λ i k hi hik hk=>by omega) λ i k hi hik hk1 hk2=>?_,.refl _ _ _⟩;rw[show k=j+1 from by omega];refine uQ ?_ (hx i hi hik);have q2:gN W (gN X j)<=gN W (gN X (j+1)):=by
    rcases WR (gN W (gN X (j+1))) (gN W (gN X j))with r|r
    ·exact absurd ⟨by omega,r⟩ q
    ·exact r
   exact Ww (hs.le hi (show i<=j by omega) om) q2
def wv {W X:Gw}{a:Nat}:∀(k:Nat),a+k<X.length\/k=0->(∀i j,a<=i->i<j->j<a+k+1->gN X i<gN X j)->jY W (inQ W X a k) a (a+k+1)/\Mv X (inQ W X a k) a (a+k+1)
 |0,_,_=>by rw[xN];exact⟨λ i j hi hij hj=>by omega,.refl _ _ _⟩
 |k+1,h,hx=>by
  obtain⟨s,m⟩:=wv (W:=W) (X:=X) (a:=a) k om (λ i j h1 h2 h3=>hx i j h1 h2 om);rw[<-xP];obtain⟨s2,m2⟩:=I7 (W:=W) (a:=a) (a+1+k) (inQ W X a k) om (by rw[m.l];omega) (by rw[show a+1+k=a+k+1 from by omega];exact s) (λ i hi hik=>by
   obtain⟨t,t1,t2,t3⟩:=m.m i hi om;rw[t3,m.o _ om];exact hx t _ t1 om om)
  rw[show a+1+k+1=a+(k+1)+1 from by omega]at s2 m2;exact⟨s2,(m.wide (Wl _) om).trans m2⟩
def LD (X:Gw):Prop:=∀i j,i<j->j<X.length->gN X i<gN X j
structure Sg (W X Y:Gw)(a b:Nat):Prop where
 s:jY W Y a b
 m:∀i,a<=i->i<b->∃j,a<=j/\j<b/\gN Y i=gN X j
def Sg.none {W X Y:Gw}{a b:Nat}(h:b<=a):Sg W X Y a b:=⟨λ i j h1 h2 h3=>by omega,λ i h1 h2=>by omega⟩
def Sg.keep {W X Y Z:Gw}{a b c d:Nat}(h:Sg W X Y a b)(k:Mv Y Z c d)(hd:b<=c\/d<=a):Sg W X Z a b:=⟨h.s.keep k hd,λ i h1 h2=>by rw[k.o i om];exact h.m i h1 h2⟩
def Sg.two {W X Y Z:Gw}{a m b:Nat}(h:Sg W X Y a m)(k:Sg W X Y m b)(s:jY W Z a b)(v:Mv Y Z a b)(h1:a<=m)(h2:m<=b):Sg W X Z a b:=⟨s,λ i i1 i2=>by
 obtain⟨j,j1,j2,j3⟩:=v.m i i1 i2;rcases WR j m with q|q
 ·obtain⟨t,t1,t2,t3⟩:=h.m j j1 q
  exact⟨t,t1,by omega,j3.trans t3⟩
 ·obtain⟨t,t1,t2,t3⟩:=k.m j q j2
  exact⟨t,by omega,t2,j3.trans t3⟩⟩
def Sg.sep {W X Y:Gw}{a m b:Nat}(hX:LD X)(hb:b<=X.length)(h:Sg W X Y a m)(k:Sg W X Y m b):P9 Y a m b:=λ i j i1 i2 j1 j2=>by
 obtain⟨t,t1,t2,t3⟩:=h.m i i1 i2;obtain⟨u,u1,u2,u3⟩:=k.m j j1 j2;rw[t3,u3];exact hX t u om om
def Qd {W X:Gw}(hX:LD X):∀(f a:Nat) (Y:Gw) (k:Nat),a=20*k->X.length-a<=f->Y.length=X.length->(∀t,t<k->Sg W X Y (t*20) (min (t*20+20) X.length))->(∀i,a<=i->gN Y i=gN X i)->∀t,Sg W X (xT W X.length f a Y) (t*20) (min (t*20+20) X.length):=by
 have fin:∀(a:Nat) (Y:Gw) (k:Nat),a=20*k->X.length<a+20->Y.length=X.length->(∀t,t<k->Sg W X Y (t*20) (min (t*20+20) X.length))->(∀i,a<=i->gN Y i=gN X i)->∀t,Sg W X (inQ W Y a (X.length-(a+1))) (t*20) (min (t*20+20) X.length):=λ a Y k ha hf hl lo hi t=>by
  obtain⟨s,m⟩:=wv (W:=W) (X:=Y) (a:=a) (X.length-(a+1)) om (λ i j h1 h2 h3=>by
   rw[hi i h1,hi j om];rcases WR j X.length with q|q
   ·exact hX i j h2 q
   ·omega)
  rcases Ym t k with q|q|q
  ·exact(lo t q).keep m (.inl om)
  ·by_cases e:a<X.length
   ·rw[show t*20=a from by omega,show min (a+20) X.length=a+(X.length-(a+1))+1 from by omega]
    exact⟨s,λ i h1 h2=>by
     obtain⟨j,j1,j2,j3⟩:=m.m i h1 h2;exact⟨j,j1,j2,j3.trans (hi j j1)⟩⟩
   ·exact .none om
  ·exact .none om
 intro f
 induction f with
 |zero=>exact λ a Y k ha hf hl lo hi=>fin a Y k ha om hl lo hi
 |succ f ih=>
  intro a Y k ha hf hl lo hi;rw[xT];split
  ·next h=>
   obtain⟨s,m⟩:=wv (W:=W) (X:=Y) (a:=a) 19 om (λ i j h1 h2 h3=>by rw[hi i h1,hi j om];exact hX i j h2 om);refine ih (a+20) _ (k+1) om om (by rw[m.l];exact hl) (λ t ht=>?_) (λ i h1=>by rw[m.o i om];exact hi i om);rcases WR t k with q|q
   ·exact(lo t q).keep m (.inl om)
   ·rw[show t*20=a from by omega,show min (a+20) X.length=a+19+1 from by omega]
    exact⟨s,λ i h1 h2=>by
     obtain⟨j,j1,j2,j3⟩:=m.m i h1 h2;exact⟨j,j1,j2,j3.trans (hi j j1)⟩⟩
  ·next h=>exact fin a Y k ha om hl lo hi
def Qe {W X:Gw}(hX:LD X){z:Nat}(hz:0<z):∀(f a:Nat) (Y:Gw) (k:Nat),a=k*(2*z)->X.length-a<=f->Y.length=X.length->(∀t,t<k->Sg W X Y (t*(2*z)) (min (t*(2*z)+2*z) X.length))->(∀t,2*k<=t->Sg W X Y (t*z) (min (t*z+z) X.length))->∀t,Sg W X (px W z X.length f a Y) (t*(2*z)) (min (t*(2*z)+2*z) X.length):=by
 have lw:∀{t k:Nat},t<k->t*(2*z)+2*z<=k*(2*z):=fun{t k} h=>by
  have:=W8 (2*z) (show t+1<=k from h)
  rwa [Xt,Zx]at this
 have u0:∀k:Nat,2*k*z=k*(2*z):=λ k=>by rw[Nat.mul_comm 2 k,Nat.mul_assoc]
 have u1:∀k:Nat,(2*k+1)*z=k*(2*z)+z:=λ k=>by rw[Xt,u0,Zx]
 have up:∀{t k:Nat},2*(k+1)<=t->k*(2*z)+2*z<=t*z:=fun{t k} h=>by
  have h:=W8 z h;rw[u0,Xt,Zx]at h;exact h
 have fin:∀(a:Nat) (Y:Gw) (k:Nat),a=k*(2*z)->X.length<a+2*z->Y.length=X.length->(∀t,t<k->Sg W X Y (t*(2*z)) (min (t*(2*z)+2*z) X.length))->(∀t,2*k<=t->Sg W X Y (t*z) (min (t*z+z) X.length))->∀t,Sg W X (if a+z<X.length then i5 W (2*z) Y a (a+z) X.length else Y) (t*(2*z)) (min (t*(2*z)+2*z) X.length):=λ a Y k ha hf hl lo hi t=>by
  have g0:=hi (2*k) (Wl _);have g1:=hi (2*k+1) om;rw[u0,<-ha]at g0;rw[u1,<-ha]at g1
  split
  ·next h=>
   rw[show min (a+z) X.length=a+z from by omega]at g0;rw[show min (a+z+z) X.length=X.length from by omega]at g1;obtain⟨s,m⟩:=yM (W:=W) (2*z) Y a (a+z) X.length om h om om g0.s g1.s (g0.sep hX (Wl _) g1);rcases Ym t k with q|q|q
   ·have:=lw q
    exact(lo t q).keep m (.inl om)
   ·rw[q,<-ha,show min (a+2*z) X.length=X.length from by omega]
    exact g0.two g1 s m om om
   ·have:=lw q
    exact .none om
  ·next h=>
   rcases Ym t k with q|q|q
   ·exact lo t q
   ·rw[q,<-ha,show min (a+2*z) X.length=min (a+z) X.length from by omega]
    exact g0
   ·have:=lw q
    exact .none om
 intro f
 induction f with
 |zero=>exact λ a Y k ha hf hl lo hi=>fin a Y k ha om hl lo hi
 |succ f ih=>
  intro a Y k ha hf hl lo hi;rw[px];split
  ·next h=>
   have g0:=hi (2*k) (Wl _);have g1:=hi (2*k+1) om;rw[u0,<-ha,show min (a+z) X.length=a+z from by omega]at g0;rw[u1,<-ha,show min (a+z+z) X.length=a+2*z from by omega]at g1;obtain⟨s,m⟩:=yM (W:=W) (2*z) Y a (a+z) (a+2*z) om om om om g0.s g1.s (g0.sep hX om g1);refine ih (a+2*z) _ (k+1) (by rw[Xt,Zx,ha]) om (by rw[m.l];exact hl) (λ t ht=>?_) (λ t ht=>?_)
   ·rcases WR t k with q|q
    ·have:=lw q
     exact(lo t q).keep m (.inl om)
    ·rw[show t=k from by omega,<-ha,show min (a+2*z) X.length=a+2*z from by omega]
     exact g0.two g1 s m om om
   ·have:=up ht
    exact(hi t om).keep m (.inr om)
  ·next h=>exact fin a Y k ha om hl lo hi
def I8 {W X:Gw}(hX:LD X):∀(f z:Nat) (Y:Gw),X.length-z<=f->0<z->Y.length=X.length->(∀t,Sg W X Y (t*z) (min (t*z+z) X.length))->jY W (xU W X.length f z Y) 0 X.length
 |0,z,Y,h1,hz,hl,h=>by
  have:=(h 0).s
  rwa [XQ,WE,show min z X.length=X.length from by omega]at this
 |f+1,z,Y,h1,hz,hl,h=>by
  rw[xU];split
  ·have q:=(i6 (W:=W) hz X.length 0 Y hl.symm).length_eq
   exact I8 hX f (2*z) _ om om (by rw[q];exact hl) (Qe hX hz _ 0 Y 0 om om hl (λ t ht=>by omega) λ t _=>h t)
  ·have:=(h 0).s
   rwa [XQ,WE,show min z X.length=X.length from by omega]at this
def Qf {W X:Gw}(hX:LD X):jY W (Sn W X) 0 X.length:=by
 have q:=(kF (W:=W) X.length 0 X rfl (W5 _)).length_eq;exact I8 hX _ 20 _ om (by decide) q (Qd hX _ 0 X 0 rfl om rfl (λ t ht=>by omega) λ _ _=>rfl)
def fg {X:Gw}{i:Nat}(h:i<X.length):gN X i=X[i]:=by
 unfold gN;rw[Wd,Wa h];rfl
def jY.pw {W X:Gw}(h:jY W X 0 X.length):X.Pairwise (Lt W):=List.pairwise_iff_getElem.2 λ i j hi hj hij=>by
 rw[<-fg hi,<-fg hj];exact h i j (W5 _) hij hj
def LF {X:Gw}(h:X.Pairwise (· < ·)):LD X:=λ i j hij hj=>by
 rw[fg om,fg hj];exact List.pairwise_iff_getElem.1 h i j _ hj hij
def Gt (W:Gw)(k:Nat):LD (eU W k):=by
 rw[fO];exact LF (List.Pairwise.filter _ List.pairwise_lt_range)
def Dg (W:Gw):(cG W).Pairwise (Lt W):=by
 rw[v9];have h:=Qf (W:=W) (Gt W W.length);rw[<-(uh W (eU W W.length)).length_eq]at h;exact h.pw
def I9 {F o:Gw}{x:Nat}(ho:o.Pairwise (Lt F))(hx:∀y∈o,y<x):∀a,a<=o.length->(∀i,a<=i->i<o.length->Lt F x (gN o i))->(∀i,i<fT F x o a->Lt F (gN o i) x)/\∀i,fT F x o a<=i->i<o.length->Lt F x (gN o i)
 |0,_,h=>⟨λ i hi=>absurd hi (Nat.not_lt_zero _),h⟩
 |a+1,ha,h=>by
  rw[fT];have hm:gN o a∈o:=by rw[fg om];exact Xf _
  by_cases q:gN F x<gN F (gN o a)
  ·rw[ZF (show F.getD x lb<F.getD (o.getD a lb) lb from q)]
   exact I9 ho hx a om λ i hi hl=>by
    rcases WR a i with r|r
    ·exact h i r hl
    ·rw[show i=a from by omega];exact .inl q
  ·rw[ZE (show¬F.getD x lb<F.getD (o.getD a lb) lb from q)]
   refine⟨λ i hi=>?_,h⟩;have k:Lt F (gN o a) x:=uQ om (hx _ hm);rcases WR i a with r|r
   ·have:=List.pairwise_iff_getElem.1 ho i a om om r
    rw[<-fg,<-fg]at this;exact this.trans k
   ·rw[show i=a from by omega];exact k
def LG {F o:Gw}{x:Nat}(ho:o.Pairwise (Lt F))(hx:∀y∈o,y<x):(EB F x o).Pairwise (Lt F):=by
 obtain⟨h1,h2⟩:=I9 ho hx o.length (Wl _) (λ i hi hl=>by omega);have hle:=oY F x o o.length;unfold EB;generalize fT F x o o.length=A at *;have ho2:(o.take A++o.drop A).Pairwise (Lt F):=by rw[Yp];exact ho
 rw[List.pairwise_append]at ho2;obtain⟨p1,p2,p3⟩:=ho2;have e1:∀y∈o.take A,Lt F y x:=λ y hy=>by
  obtain⟨i,hi,e⟩:=aa4 hy;rw[Wi]at hi;rw[List.getElem_take,<-fg]at e;rw[<-e];exact h1 i om
 have e2:∀y∈o.drop A,Lt F x y:=λ y hy=>by
  obtain⟨i,hi,e⟩:=aa4 hy;rw[Wy]at hi;rw[List.getElem_drop,<-fg]at e;rw[<-e];exact h2 (A+i) om om
 refine List.pairwise_append.2 ⟨p1,List.pairwise_cons.2 ⟨e2,p2⟩,λ y hy z hz=>?_⟩;rcases List.mem_cons.1 hz with e|hz
 ·rw[e];exact e1 y hy
 ·exact p3 y hy z hz
def ww (F:Gw):∀i,(bf F i).Pairwise (Lt F)
 |0=>List.Pairwise.nil
 |i+1=>by
  rw[bf];split
  ·exact ww F i
  ·exact LG (ww F i) (oZ F i)
def Dh (F o:Gw)(x:Nat):(EB F x o).Perm (o++[x]):=by
 unfold EB;refine List.perm_middle.trans ?_;rw[Yp];exact(List.perm_append_singleton _ _).symm
def o7 (F:Gw):∀i,(bf F i).Perm (eU F i)
 |0=>by rw[B3];exact List.Perm.refl _
 |i+1=>by
  by_cases h:F.getD i lb=0
  ·rw[Lq h,B5 (by rw[Wx];omega)];exact o7 F i
  ·rw[Lr h,B4 (by rw[Wx];omega)]
   exact(Dh F _ i).trans ((o7 F i).append_right _)
def sn (F:Gw):bf F F.length=cG F:=
 List.Perm.eq_of_pairwise (le:=Lt F) (λ a b _ _ h k=>by unfold Lt at h k;omega) (ww F _) (Dg F) ((o7 F _).trans (dj F).symm)
def lT:GW->GW->List (Pa×Bool)
 |[],B=>B.map (·,Ga)
 |a::A,[]=>(a::A).map (·,Gd)
 |a::A,b::B=>if a.1<=b.1 then(a,Gd)::lT A (b::B)else(b,Ga)::lT (a::A) B
def uR (B:GW):lT [] B=B.map (·,Ga):=by rw[lT]
def Di (A:GW):lT A []=A.map (·,Gd):=by
 cases A<;>rw[lT];rfl
def jd {X:GW}{i:Nat}(h:i<X.length):X.drop i=bN X i::X.drop (i+1):=by
 rw[List.drop_eq_getElem_cons h,bN,Wd,Wa h];rfl
def o8 (A B:GW):∀f i k,i<=A.length->k<=B.length->f+i+k=A.length+B.length->pC A B f i k=(lT (A.drop i) (B.drop k)).map (·.1)
 |0,i,k,hi,hk,h=>by
  rw[Xv (show A.length<=i by omega),Xv (show B.length<=k by omega),uR];rfl
 |f+1,i,k,hi,hk,h=>by
  rw[pC]
  by_cases q:k=B.length
  ·have hi2:i<A.length:=by omega
   rw[ZF (show EA A B i k from .inl q),o8 A B f (i+1) k om hk om,jd hi2,q,List.drop_length,Di,Di];rfl
  ·rw[jd (X:=B) (show k<B.length by omega)]
   by_cases r:i<A.length
   ·rw[jd r,lT]
    by_cases s:(bN A i).1<=(bN B k).1
    ·rw[ZF (show EA A B i k from .inr ⟨r,s⟩),ZF s,o8 A B f (i+1) k om hk om,jd (X:=B) (show k<B.length by omega)];rfl
    ·rw[ZE (show¬EA A B i k from λ x=>x.elim q λ y=>s y.2),ZE s,o8 A B f i (k+1) hi om om,jd r];rfl
   ·rw[ZE (show¬EA A B i k from λ x=>x.elim q λ y=>r y.1),o8 A B f i (k+1) hi om om,Xv (show A.length<=i by omega),uR,uR];rfl
def yN:GW->GW
 |x::y::r=>(x.1+y.1,eS x.2 y.2)::yN r
 |_=>[]
def so:∀X:GW,(yN X).length=X.length/2
 |x::y::r=>by rw[yN,WQ,so r];simp only[WQ];omega
 |[]=>rfl
 |[x]=>by simp[yN]
def yO:∀(X:GW) (j:Nat),2*j+1<X.length->(yN X)[j]? =Ge ((bN X (2*j)).1+(bN X (2*j+1)).1,eS (bN X (2*j)).2 (bN X (2*j+1)).2)
 |x::y::r,0,_=>rfl
 |x::y::r,j+1,h=>by
  rw[yN,List.getElem?_cons_succ,yO r j (by simp only[WQ]at h;omega)];rfl
 |[],j,h=>by simp at h
 |[x],j,h=>by simp at h
def yP {X:GW}:∀(n j:Nat),j<n->(ft X n)[j]? =Ge ((bN X (2*j)).1+(bN X (2*j+1)).1,eS (bN X (2*j)).2 (bN X (2*j+1)).2)
 |0,j,h=>by omega
 |n+1,j,h=>by
  rw[ft];rcases WR j n with q|q
  ·rw[List.getElem?_append_left (by rw[eb];exact q)];exact yP n j q
  ·rw[List.getElem?_append_right (by rw[eb];exact q),eb,show j=n from by omega,Xz];rfl
def Gu (X:GW):ft X (X.length/2)=yN X:=by
 apply Xe;intro j;rcases WR j (X.length/2)with q|q
 ·rw[yP _ _ q,yO X j om]
 ·rw[WL (by rw[eb];exact q),WL (by rw[so];exact q)]
def MR:Gw->Gw->eD
 |[],ws=>f8 ws
 |s::r,ws=>(eV s ws).1++MR r (eV s ws).2
def Qg:eD->Gw
 |x::y::r=>(x.w+y.w)::Qg r
 |_=>[]
def Ja:∀(row:eD) (ws:Gw),fP row ws=MR (Qg row) ws
 |x::y::r,ws=>by rw[fP,Qg,MR,Ja r]
 |[],ws=>rfl
 |[x],ws=>rfl
abbrev UH (q:Pa×Bool):Pc:=⟨q.1.1,q.2⟩
def sq:∀(B A:GW),MR (B.map (·.1)) (A.map (·.1))=(lT A B).map UH
 |[],A=>by
  rw[Di,YJ];show f8 _=_;unfold f8;rw[YJ];rfl
 |b::B,[]=>by
  have:=sq B [];rw[uR]at this;rw[uR,XB,XB,XB,<-this,MR];rfl
 |b::B,a::A=>by
  rw[lT,XB,XB,MR,eV]
  by_cases q:a.1<=b.1
  ·rw[ZF q,ZE om,XB,<-sq (b::B) A];rfl
  ·rw[ZE q,ZF om,XB,<-sq B (a::A)];rfl
def sr (X:GW)(t:Nat):Nat:=(X.map λ p=>p.2.getD t lb).sum
def yQ (X Y:GW)(t:Nat):sr (X++Y) t=sr X t+sr Y t:=by unfold sr;rw[W4,List.sum_append]
def ed (x:Pa)(X:GW)(t:Nat):sr (x::X) t=x.2.getD t lb+sr X t:=rfl
def ss (t:Nat):sr [] t=0:=rfl
def yR (M:List (Pa×Bool)):Nat:=(M.filter (·.2)).length
def LH (M:List (Pa×Bool)):yR M<=M.length:=List.length_filter_le _ _
def Qh (B:GW)(n:Nat):yR ((B.map (·,Ga)).take n)=min n B.length:=by
 unfold yR;rw[List.filter_eq_self.2 (λ x hx=>?_),Wi,Wj];obtain⟨b,_,e⟩:=List.mem_map.1 (Xs hx);rw[<-e]
def Qi (A:GW)(n:Nat):yR ((A.map (·,Gd)).take n)=0:=by
 unfold yR;rw[List.filter_eq_nil_iff.2 (λ x hx=>?_)];rfl;obtain⟨b,_,e⟩:=List.mem_map.1 (Xs hx);rw[<-e];exact Bool.false_ne_true
def Dj (t:Nat):∀(n:Nat) (A B:GW),n<=(lT A B).length->sr (((lT A B).take n).map (·.1)) t=sr (A.take (n-yR ((lT A B).take n))) t+sr (B.take (yR ((lT A B).take n))) t
 |0,A,B,_=>by rw[Zg];rfl
 |n+1,[],B,h=>by
  rw[lT]at *;rw[Wj]at h;rw[Qh,show min (n+1) B.length=n+1 from by omega,Xz,Yx,YJ];show sr (WS _ (B.map id)) t=0+_;rw[aat,WE]
 |n+1,a::A,[],h=>by
  rw[lT]at *;rw[Qi,Yx,YJ,Nat.sub_zero];show sr (WS _ ((a::A).map id)) t=_+0;rw[aat];exact(X4 _).symm
 |n+1,a::A,b::B,h=>by
  rw[lT]at *
  by_cases q:a.1<=b.1
  ·rw[ZF q]at *
   have ih:=Dj t n A (b::B) (by simpa using h);have hp:=LH ((lT A (b::B)).take n);have e:yR (((a,Gd)::lT A (b::B)).take (n+1))=yR ((lT A (b::B)).take n):=rfl;rw[Wi]at hp;rw[e,X9,XB,ed,ih,show n+1-yR ((lT A (b::B)).take n)=(n-yR ((lT A (b::B)).take n))+1 from by omega,X9,ed];show a.2.getD t lb+(_+_)=a.2.getD t lb+_+_;omega
  ·rw[ZE q]at *
   have ih:=Dj t n (a::A) B (by simpa using h);have e:yR (((b,Ga)::lT (a::A) B).take (n+1))=yR ((lT (a::A) B).take n)+1:=rfl;rw[e,X9,XB,ed,ih,Nat.add_sub_add_right,X9,ed];show b.2.getD t lb+(_+_)=_+(b.2.getD t lb+_);omega
def Qj {a b:Gw}{n t:Nat}(ha:a.length=n)(hb:b.length=n)(ht:t<n):(eS a b).getD t lb=a.getD t lb+b.getD t lb:=by
 unfold eS;rw[Wd,ZO,Wd,Wd,Wa (show t<a.length by omega),Wa (show t<b.length by omega)];rfl
def Dk {n t:Nat}(ht:t<n):∀(X:GW) (p:Nat),(∀x∈X,x.2.length=n)->p<=X.length/2->sr ((yN X).take p) t=sr (X.take (2*p)) t
 |_,0,_,_=>by rw[Zg,Nat.mul_zero,Zg]
 |x::y::r,p+1,h,hp=>by
  have ih:=Dk ht r p (λ z hz=>h z (WG _ (WG _ hz))) (by simp only[WQ]at hp;omega);rw[yN,X9,ed,ih,show 2*(p+1)=(2*p+1)+1 from by omega,X9,X9,ed,ed,Qj (h x WH) (h y (WG _ WH)) ht];omega
 |[],p+1,_,hp=>by simp at hp
 |[x],p+1,_,hp=>by simp at hp
def Jb:∀(row:eD) (X:GW),row.map (·.w)=X.map (·.1)->Qg row=(yN X).map (·.1)
 |x::y::r,X,h=>by
  match X,h with
  |a::b::X,h=>
   simp only[XB,List.cons.injEq]at h;rw[Qg,yN,XB,h.1,h.2.1,Jb r X h.2.2]
  |[a],h=>simp at h
  |[],h=>simp at h
 |[],X,h=>by
  have:X=[]:=by simpa using h.symm
  subst this;rfl
 |[x],X,h=>by
  match X,h with
  |[a],_=>rfl
  |[],h=>simp at h
  |a::b::X,h=>simp at h
def Jc (ws:Gw):Nat->Nat->Nat->Nat
 |0,_,_=>0
 |k+1,n,t=>(if t<n-cZ (av ws k) n then 1 else 0)+Jc ws k (2*cZ (av ws k) n) t
def Qk (M:List (Pa×Bool))(n:Nat):cZ (M.map UH) n=yR (M.take n):=by
 rw[ip,<-Yx,List.filter_map,Wj];rfl
def Dl {F I:Gw}{t:Nat}(ht:t<I.length):∀s,s<=I.length->sr ((dP F I I.length).take s) t=if t<s then 1 else 0:=by
 have g:∀k s,s<=k->(dP F I k).take s=dP F I s:=λ k=>by
  induction k with
  |zero=>intro s hs;rw[show s=0 from by omega];rfl
  |succ k ih=>
   intro s hs;rw[dP];rcases WR k s with q|q
   ·rw[show s=k+1 from by omega,WN (by rw[Wc,eQ];exact Wl _),dP]
   ·rw[List.take_append_of_le_length (by rw[eQ];exact q)];exact ih s q
 intro s hs;rw[g _ s hs];clear hs
 induction s with
 |zero=>rfl
 |succ s ih=>
  rw[dP,yQ,ih,ed,ss];have e:(pB I.length s).getD t lb=if t=s then 1 else 0:=by
   unfold pB;rw[Wd,XA]
   by_cases q:s=t
   ·subst q;simp[ht]
   ·rw[ZE q,ZE (Ne.symm q),XI,ZF ht];rfl
  show _+((pB I.length s).getD t lb+0)=_;rw[e]
  repeat' split
  all_goals omega
def Dm {F I ws:Gw}{A:GW}(hA:dP F I I.length=A)(hw:A.map (·.1)=ws)(hB:∀k,∀x∈ec A k,x.2.length=I.length):∀k,(av ws k).map (·.w)=(ec A k).map (·.1)/\∀n t,n<=(av ws k).length->t<I.length->sr ((ec A k).take n) t=Jc ws (k+1) n t
 |0=>by
  have e:av ws 0=f8 ws:=by rw[<-oI,fQ];rfl
  refine⟨?_,λ n t hn ht=>?_⟩
  ·rw[e,ec,hw];unfold f8;rw[YJ];exact aat _
  ·have p0:cZ (av ws 0) n=0:=by
    have:=na (av ws 0) n;have c:=(iq ws 0).2.1;rw[ZF rfl]at c;omega
   have hl:(av ws 0).length=I.length:=by rw[e];unfold f8;rw[Wj,<-hw,Wj,<-hA,eQ]
   rw[Jc,Jc,p0,ec,<-hA,Dl ht n om];rfl
 |k+1=>by
  obtain⟨h1,h2⟩:=Dm hA hw hB k;have hl:(av ws k).length=(ec A k).length:=by have:=congrArg aaq h1;rwa [Wj,Wj]at this
  have e1:ec A (k+1)=(lT A (yN (ec A k))).map (·.1):=by
   rw[ec,Gu,o8 _ _ _ 0 0 (W5 _) (W5 _) (by rw[so];omega)];rfl
  have e2:av ws (k+1)=(lT A (yN (ec A k))).map UH:=by
   rw[<-lu,fQ,Ja,Jb _ _ h1,<-hw,sq]
  have hAl:A.length=I.length:=by rw[<-hA,eQ]
  refine⟨by rw[e1,e2,YJ,YJ];rfl,λ n t hn ht=>?_⟩;have hpC:=Qk (lT A (yN (ec A k))) n;rw[<-e2]at hpC;have hpa:=na (av ws (k+1)) n;rw[(iq ws (k+1)).2.1,ZE (Nat.succ_ne_zero k),XK]at hpa;have hle:=wa (av ws (k+1)) n;have hs:n-cZ (av ws (k+1)) n<=I.length:=by
   have c:=(iq ws (k+1)).2.2;have e:n=((av ws (k+1)).take n).length:=by rw[Wi];omega
   have f:=nc ((av ws (k+1)).take n);have g:(((av ws (k+1)).take n).filter (λ x=>!x.p)).length<=ws.length:=by
    rw[<-c];exact((List.take_sublist n _).filter _).length_le
   have hwl:ws.length=I.length:=by rw[<-hw,Wj,hAl]
   rw[ip];omega
  rw[Jc,e1,<-Yx,Dj t n A _ (by rw[e2,Wj]at hn;exact hn),<-hpC,Dk ht _ _ (hB k) (by rw[<-hl];exact hpa),h2 _ _ om ht]
  congr 1
  rw[<-hA];exact Dl ht _ hs

def gU (o:Z4)(j:Nat):UInt8:=o.getD j lb
def sv (o:Z4)(i:Nat)(v:UInt8)(t:Nat):gU (o.set i v) t=if i=t/\i<o.length then v else gU o t:=by
 unfold gU;rw[Wd,Wd,XA]
 by_cases h:i=t
 ·subst h
  by_cases q:i<o.length
  ·simp[q]
  ·simp[q]
 ·simp[h]
def LI (a:UInt8)(n:Nat):(Xg (a.toNat+n)).toNat=(a.toNat+n)%256:=by simp
structure Pls (I:Gw)(m:Nat):Prop where
 i:∀s t,s<t->t<I.length->gN I s≠gN I t
 l:∀t,t<I.length->gN I t<m
def Pls.ne {I:Gw}{m s t:Nat}(h:Pls I m)(hs:s<I.length)(ht:t<I.length)(e:s≠t):gN I s≠gN I t:=by
 rcases Nat.lt_or_gt_of_ne e with q|q
 ·exact h.i s t q ht
 ·exact(h.i t s q hs).symm
def Dn {I of:Gw}{o:Z4}(hI:Pls I o.length){t:Nat}(ht:t<I.length):∀k,k<=I.length->(gU (lP I of o k) (gN I t)).toNat=((gU o (gN I t)).toNat+(if t<k then of.getD t lb else 0))%256
 |0,_=>by
  have:=(gU o (gN I t)).toNat_lt;rw[lP,ZE om];omega
 |k+1,hk=>by
  have ih:=Dn hI (of:=of) ht k om;rw[lP,sv]
  by_cases e:k=t
  ·subst e
   rw[ZF ⟨rfl,by rw[iz];exact hI.l k ht⟩,ZF om];rw[ZE om]at ih;show(Xg ((gU (lP I of o k) (gN I k)).toNat+_)).toNat=_;rw[LI,ih];omega
  ·rw[ZE (λ q=>hI.ne om ht e q.1),ih]
   by_cases q:t<k
   ·rw[ZF q,ZF om]
   ·rw[ZE q,ZE om]
def Do {I of:Gw}{o:Z4}{j:Nat}(h:∀t,t<I.length->gN I t≠j):∀k,k<=I.length->gU (lP I of o k) j=gU o j
 |0,_=>rfl
 |k+1,hk=>by rw[lP,sv,ZE (λ q=>h k om q.1),Do h k om]
def LJ {X:GW}{i:Nat}(h:i<X.length)(t:Nat):sr (X.take (i+1)) t=sr (X.take i) t+(bN X i).2.getD t lb:=by
 rw[WW h,yQ,ed,ss,X4]
 congr 2;rw[bN,Wd,Wa h];rfl
def Dp {X:GW}{I:Gw}{o:Z4}(hI:Pls I o.length){t:Nat}(ht:t<I.length):∀i,i<=X.length->(gU (jc X I I.length o i) (gN I t)).toNat=((gU o (gN I t)).toNat+sr (X.take i) t)%256
 |0,_=>by
  have:=(gU o (gN I t)).toNat_lt;rw[jc,Zg,ss];omega
 |i+1,hi=>by
  rw[jc,Dn (by rw[iA];exact hI) ht _ (Wl _),ZF ht,Dp hI ht i om,LJ om];omega
def Dq {X:GW}{I:Gw}{o:Z4}{j:Nat}(h:∀t,t<I.length->gN I t≠j):∀i,gU (jc X I I.length o i) j=gU o j
 |0=>rfl
 |i+1=>by rw[jc,Do h _ (Wl _),Dq h i]
def LK (a:UInt8):(a+1).toNat=(a.toNat+1)%256:=by simp
def yS {S:Gw}{o:Z4}(hI:Pls S o.length){t:Nat}(ht:t<S.length):∀j,j<=S.length->(gU (cD o S j) (gN S t)).toNat=((gU o (gN S t)).toNat+(if t<j then 1 else 0))%256
 |0,_=>by
  have:=(gU o (gN S t)).toNat_lt;rw[oJ,ZE om];omega
 |k+1,hk=>by
  have ih:=yS hI ht k om;rw[oK om,sv]
  by_cases e:k=t
  ·subst e
   rw[ZF ⟨rfl,by rw[cE];exact hI.l k ht⟩,ZF om];rw[ZE om]at ih;show(gU (cD o S k) (gN S k)+1).toNat=_;rw[LK,ih];omega
  ·rw[ZE (λ q=>hI.ne om ht e q.1),ih]
   by_cases q:t<k
   ·rw[ZF q,ZF om]
   ·rw[ZE q,ZE om]
def yT {S:Gw}{o:Z4}{j:Nat}(h:∀t,t<S.length->gN S t≠j):∀k,k<=S.length->gU (cD o S k) j=gU o j
 |0,_=>by rw[oJ]
 |k+1,hk=>by rw[oK om,sv,ZE (λ q=>h k om q.1),yT h k om]
def Dr {ws S:Gw}(hl:ws.length=S.length){t:Nat}(ht:t<S.length):∀(k n:Nat) (o:Z4),Pls S o.length->LnI ws k n->(gU (xW ws S k n o) (gN S t)).toNat=((gU o (gN S t)).toNat+Jc ws k n t)%256
 |0,n,o,_,_=>by
  have:=(gU o (gN S t)).toNat_lt;rw[xW,Jc];omega
 |k+1,n,o,hI,h=>by
  obtain⟨_,_,h3,h4⟩:=h.next;rw[xW,Dr hl ht k _ _ (by rw[cE];exact hI) h4,yS hI ht _ (by rw[<-hl];exact h3),Jc];omega
def Ds {ws S:Gw}(hl:ws.length=S.length){j:Nat}(hj:∀t,t<S.length->gN S t≠j):∀(k n:Nat) (o:Z4),LnI ws k n->gU (xW ws S k n o) j=gU o j
 |0,n,o,_=>rfl
 |k+1,n,o,h=>by
  obtain⟨_,_,h3,h4⟩:=h.next;rw[xW,Ds hl hj k _ _ h4,yT hj _ (by rw[<-hl];exact h3)]
def LL {a b:Z4}(hl:a.length=b.length)(h:∀j,j<a.length->(gU a j).toNat=(gU b j).toNat):a=b:=by
 apply abE hl;intro i h1 h2;have:=UInt8.toNat_inj.1 (h i h1);unfold gU at this;rw[Wd,Wd,Wa h1,Wa h2]at this;exact this
def yU (F:Gw):Pls (cG F) F.length:=⟨λ s t hst ht=>by
 rw[fg om,fg ht];have:=List.pairwise_iff_getElem.1 (Dg F) s t om ht hst;intro e;rw[e]at this;unfold Lt at this;omega,λ t ht=>by
 rw[fg ht];exact oG _ ((dj F).mem_iff.1 (Xf ht))⟩
def Dt (F I:Gw):∀k,k<=I.length->(dP F I k).map (·.1)=m9 F I k
 |0,_=>by rw[Iv];rfl
 |k+1,h=>by
  rw[dP,W4,Dt F I k om,Iw om];rfl
def Du {F:Gw}{q:Nat}(hq:1<=q/\q<=15)(hN:(eU F F.length).length<=2^q)(h2:2<=(cG F).length){A:GW}(hA:dP F (cG F) (cG F).length=A)(hR:∀k,∀x∈ec A k,x.2.length=(cG F).length):jc (ec A (q-1)) (cG F) (cG F).length (Wt F.length 0) (2*(cG F).length-2)=bE F q/\2*(cG F).length-2<=(ec A (q-1)).length:=by
 have hw:A.map (·.1)=m9 F (cG F) (cG F).length:=by rw[<-hA];exact Dt F _ _ (Wl _)
 have hwl:(m9 F (cG F) (cG F).length).length=(cG F).length:=kG (Wl _);have hp:=(dj F).length_eq;have hI:LnI (m9 F (cG F) (cG F).length) q (2*(cG F).length-2):=by
  have:=LnI.first (ws:=m9 F (cG F) (cG F).length) hq.1 (by rw[hwl];omega) (by rw[hwl];exact h2)
  rwa [hwl]at this
 obtain⟨r1,r2⟩:=Dm hA hw hR (q-1);have hrl:=congrArg aaq r1;rw[Wj,Wj]at hrl;have hle:=hI.a om;have pl:=yU F;have plr:Pls (cG F) (Wt F.length (0:UInt8)).length:=by rw[WP];exact pl
 refine⟨?_,by rw[<-hrl];exact hle⟩;rw[ir,rH,ZE om,ZE om];refine LL (by rw[iA,nf]) λ j hj=>?_
 rcases Classical.em (∃t,t<(cG F).length/\gN (cG F) t=j)with⟨t,ht,e⟩|no
 ·rw[<-e,Dp plr ht _ (by rw[<-hrl];exact hle),Dr hwl ht _ _ _ plr hI,r2 _ t hle ht,show q-1+1=q from by omega]
 ·have no:∀t,t<(cG F).length->gN (cG F) t≠j:=λ t ht e=>no ⟨t,ht,e⟩
  rw[Dq no,Ds hwl no _ _ _ hI]
def Dv {F I:Gw}{w:Nat}(hF:∀t,F.getD t lb<=w):∀k,∀x∈dP F I k,EC I.length w 1 x
 |0,x,h=>by cases h
 |k+1,x,h=>by
  rw[dP]at h;rcases List.mem_append.1 h with h|h
  ·exact Dv hF k x h
  ·rw[List.mem_singleton.1 h]
   refine⟨yH _ _,hF _,λ t=>?_⟩;show(pB I.length k).getD t lb<=1;unfold pB;rw[Wd,XA]
   split
   ·split
    ·exact Wl _
    ·exact W5 _
   ·rw[XI];split
    ·exact W5 _
    ·exact W5 _
def Dw (F:Gw)(m:Nat)(hm:m=F.length)(hm2:m<=320)(hF:∀t,F.getD t lb<=1073741824)(n:Nat)(hn:n=(bf F m).length)(hn2:2<=n)(q:Nat)(hq:1<=q/\q<=15)(hN:(eU F m).length<=2^q):S0 169 [.sl Gd m 1 (F.map nD),.sl Gd n 1 ((bf F m).map nD),nD q] [] (.ref 0 0 0 m 1) [⟨(bE F q).map dB, 5,Ga⟩]:=by
 subst hm;have e:=sn F;have hl:=iy F F.length;rw[e]at hn hl ⊢;have hb:=I2 (Dv (F:=F) (I:=cG F) hF (cG F).length);have hR:∀k,∀x∈ec (dP F (cG F) (cG F).length) k,x.2.length=(cG F).length:=λ k x h=>(hb k x h).1
 obtain⟨r1,r2⟩:=Du hq hN om rfl hR;obtain⟨b1,b2,b3⟩:=I4 (k:=q-1) om (hb (q-1));subst hn;have hc:∀i t,(bN (ec (dP F (cG F) (cG F).length) (q-1)) i).2.getD t lb<=1000000000:=λ i t=>by
  by_cases h:i<(ec (dP F (cG F) (cG F).length) (q-1)).length
  ·have:=(hb _ _ (f9 h)).2.2 t
   have p:=I3 (k:=q-1) om;omega
  ·rw[sj h];exact W5 _
 have:=Lw F F.length rfl hm2 hF (cG F) (cG F).length rfl om (λ k hk=>(yU F).l k hk) q hq _ rfl (by rw[eQ]) hb _ rfl r2 b1 hc
 rwa [r1]at this
def LM {F:Gw}{m q:Nat}(hm:m=F.length)(h:(bf F m).length=0):Wt m 0=bE F q:=by
 subst hm;rw[sn]at h;rw[ir,rH,ZF h]
def LN {F:Gw}{m q:Nat}(hm:m=F.length)(h:(bf F m).length=1):(Wt m 0).set ((bf F m).getD 0 lb) (Xg 1)=bE F q:=by
 subst hm;rw[sn]at *;rw[ir,rH,ZE om,ZF h]
def UI {m j:Nat}(h:j<m):ac (bR [D.v (.int .u8 0)] m) j [D.v (.int .u8 1)]=((Wt m (0:UInt8)).set j (Xg 1)).map dB:=by
 have h8:=mh m;rw[Wx]at h8;rw[h8,show D.v (.int .u8 1)=D.v (.int .u8 ((1:Nat):Int))from rfl];exact jH (by decide) (by rw[WP];exact h)
def Ql (F:Gw)(m:Nat)(hm:m=F.length)(hm2:m<=320)(hF:∀t,F.getD t lb<=1073741824)(q:Nat)(hq:1<=q/\q<=15)(hN:(eU F m).length<=2^q):S0 136 [.sl Gd m 1 (F.map nD),nD q] [] (.ref 0 0 0 m 1) [⟨(bE F q).map dB, 5,Ga⟩]:=SpR Tryz.func136 rfl rfl rfl ⟨aH _,trivial⟩ rfl 1000 64 (λ R ok=>.C 3 168 Gd [] (.fn SY (@Lu (F) (m) om om))<|.B 5 (2<=(↑(v0 (bf F m)):Int)) (λ p0 Z9=>.L 4 169 Gd [] (Ga&&(Ga&&(wB (wo nD (bf F m)) (v0 (bf F m)) 1)&&Ga)) (by unfold wB;(simp;done)) ([Wu Gd m 1 (wo nD F),wD (wo nD (bf F m)) (v0 (bf F m)) 1,zN q]) (by exact(qr (Wn (D.sim.slw rfl (ao (by(simp;done))|>.trans rfl)) (qr trivial)))) (Ws (ap.of Tryz.func169 rfl rfl) (@Dw (F) (m) om om om (v0 (bf F m)) om om (q) om om))<|.Y 1 [80] [80] (Wb 0 0 0 m 1) [V8 (wo dB (bE F q)) 5 Ga] ok) (λ p0 Z9=>.K 3 (Ga&&Ao ((m:Int)<=m)&&Ga&&Ga&&Ga&&Ga&&Ao ((↑(TI.bytes zW):Int)*(m:Int)<=140737488355328)) (by(have h9:((zW.bytes:Nat):Int)=1:=rfl;rw[h9];simp;omega))<|.R 5 ((↑(v0 (bf F m)):Int)==1) (λ p1=>have Z8:=eq_of_beq p1;.K 3 (Ga&&Ao (0<(↑(v0 (bf F m)):Int))) (by(refine decide_eq_true ?_;(omega)))<|.O 2 ((wo nD (bf F m))[0*1]?) (nD (wm (bf F m) 0 lb)) (@C9 (bf F m) 0 om)<|.K 1 (Ga&&Ao ((↑(wm (bf F m) 0 lb):Int)<(m:Int))) (by(refine decide_eq_true ?_;have h9:=o6 F (i:=m) (k:=0) om;omega))<|.K 1 (Ga&&Wf (0+wm (bf F m) 0 lb*1+1) (v0 (bR [bI 0] (m*1)))) (by(have h9:=o6 F (i:=m) (k:=0) om;rw[mh,Wj,WP];refine aA rfl (We ?_);omega))<|.lst (ac (bR [bI 0] (m*1)) (0+wm (bf F m) 0 lb*1) [bI 1]) (ac (bR [bI 0] m) (wm (bf F m) 0 lb) [bI 1]) (by(simp;done))<|.U 2 [72] [72] (Wb 0 0 0 m 1) [V8 (ac (bR [bI 0] m) (wm (bf F m) 0 lb) [bI 1]) 5 Ga] R (ok _ _ wr (by(have h9:=o6 F (i:=m) (k:=0) om;exact congrArg (λ z=>[V8 z _ Ga]) (Eq.trans (UI om) (congrArg (wo dB) (LN hm om))))))) (λ p1=>have Z8:=ak p1;.U 2 [72] [72] (Wb 0 0 0 m 1) [V8 (bR [bI 0] (m*1)) 5 Ga] R (ok _ _ wr (by(rw[<-LM hm om];rw[mh])))))) kr
def Av(h:p:=by(refine decide_eq_true ?_;have h9:=hl i;have h5:=Xb (l.getD i lb).lit;have h2:=bb hT1 hT2 (hl i);have g1:=hz1 (ai T1 (l.getD i lb).long);have g2:=hz2 (ai T2 (l.getD i lb).dist);unfold bY at h9;omega)):=h
def Dx(h:p:=by(have h9:=hl i;have h5:=Xb (l.getD i lb).lit;have h2:=bb hT1 hT2 (hl i);have g1:=hz1 (ai T1 (l.getD i lb).long);have g2:=hz2 (ai T2 (l.getD i lb).dist);unfold bY at h9;omega)):=h
def Qm(h:p:=by(have h8:=cN 286 (bV T1 l i++[256]);have h9:=hl i;have h5:=Xb (l.getD i lb).lit;have h2:=bb hT1 hT2 (hl i);have g1:=hz1 (ai T1 (l.getD i lb).long);have g2:=hz2 (ai T2 (l.getD i lb).dist);unfold bY at h9;simp only[Wj,h8,WM,WV];refine We ?_;omega)):=h
def Qn (k:Nat)(S R:Gw)(h:∀i,S.count i=R.count i):aL k S=aL k R:=by
 rw[lv,lv];exact List.map_congr_left λ i _=>h i
def Qo (k:Nat)(S R:Gw)(x:Nat):aL k (S++[x]++R)=aL k (S++R++[x]):=Qn _ _ _ λ i=>by
 rw[YT,YT,YT,YT];omega
def Qp {k:Nat}{S R:Gw}{i a b:Nat}{x:Int}(h:i<k)(ha:a=i)(hb:b=i)(hx:x=(((aL k (S++R)).getD b lb:Nat):Int)+1):ac ((aL k (S++R)).map nD) a [D.v (.int .i64 x)]=(aL k (S++[i]++R)).map nD:=by
 rw[Qo];exact oQ h ha hb hx
def Dy {k:Nat}{S R:Gw}{i:Nat}(h:i<k)(hl:(S++R).length<=1000000):ac ((aL k (S++R)).map nD) i [D.v (.int .i64 (IntKind.i64.wrap ((((aL k (S++R)).getD i lb:Nat):Int)+1)))]=(aL k (S++[i]++R)).map nD:=by
 have:=dE k (S++R) i;rw[Gq om];exact Qp h rfl rfl rfl
def Gx {k:Nat}{S:Gw}{i:Nat}(h:i<k)(hl:S.length<=1000000):ac ((aL k S).map nD) i [D.v (.int .i64 (IntKind.i64.wrap ((((aL k S).getD i lb:Nat):Int)+1)))]=(aL k (S++[i])).map nD:=by
 have:=dE k S i;rw[Gq om];exact oQ h rfl rfl rfl
def Jd (S:Gw)(x:Nat)(h:x<286):((aL 286 S).map nD)[0+x*1]? =Ge (nD ((aL 286 S).getD x lb)):=yI (by rw[cN];exact h)
def Qq (S:Gw)(x:Nat)(h:x<30):((aL 30 S).map nD)[0+x*1]? =Ge (nD ((aL 30 S).getD x lb)):=yI (by rw[cN];exact h)
def LO (l:GU)(k:Nat)(hk:k=l.length)(hk2:k<=65535)(hl:∀i,bY (l.getD i lb))(T1 T2:a9)(hT1:T1=ay)(hT2:T2=aK)(hl1:T1.length=29)(hl2:T2.length=30)(hz1:bi T1)(hz2:bi T2):S0 134 [.sl Gd k 3 (l.flatMap aY)] [] (.tup [.ref 0 0 0 286 1,.ref 1 1 0 30 1]) [⟨(aL 286 (bV T1 l k++[256])).map nD, 3,Ga⟩,⟨(aL 30 (dl T2 l k)).map nD, 3,Ga⟩]:=SpR Tryz.func134 rfl rfl rfl ⟨rh _ (λ _=>rfl) _,rh _ (λ _=>rfl) _,trivial⟩ rfl 1000 64 (λ R ok=>.M 15 16 16 (V8 [zI 0,zI 0,zI 0,zI 0,zI 0,zI 0,zI 0,zI 0,zI 0,zI 0,zI 0,zI 0,zI 0,zI 0,zI 0,zI 0,zI 0,zI 0,zI 0,zI 0,zI 0,zI 0,zI 0,zI 0,zI 0,zI 0,zI 0,zI 0,zI 0,zI 0,zI 0,zI 0,zI 0,zI 0,zI 0,zI 0,zI 0,zI 0,zI 0,zI 0,zI 0,zI 0,zI 0,zI 0,zI 0,zI 0,zI 0,zI 0,zI 0,zI 0,zI 0,zI 0,zI 0,zI 0,zI 0,zI 0,zI 0,zI 0,zI 0,zI 0,zI 0,zI 0,zI 0,zI 0,zI 0,zI 0,zI 0,zI 0,zI 0,zI 0,zI 0,zI 0,zI 0,zI 0,zI 0,zI 0,zI 0,zI 0,zI 0,zI 0,zI 0,zI 0,zI 0,zI 0,zI 0,zI 0,zI 0,zI 0,zI 0,zI 0,zI 0,zI 0,zI 0,zI 0,zI 0,zI 0,zI 0,zI 0,zI 0,zI 0,zI 0,zI 0,zI 0,zI 0,zI 0,zI 0,zI 0,zI 0,zI 0,zI 0,zI 0,zI 0,zI 0,zI 0,zI 0,zI 0,zI 0,zI 0,zI 0,zI 0,zI 0,zI 0,zI 0,zI 0,zI 0,zI 0,zI 0,zI 0,zI 0,zI 0,zI 0,zI 0,zI 0,zI 0,zI 0,zI 0,zI 0,zI 0,zI 0,zI 0,zI 0,zI 0,zI 0,zI 0,zI 0,zI 0,zI 0,zI 0,zI 0,zI 0,zI 0,zI 0,zI 0,zI 0,zI 0,zI 0,zI 0,zI 0,zI 0,zI 0,zI 0,zI 0,zI 0,zI 0,zI 0,zI 0,zI 0,zI 0,zI 0,zI 0,zI 0,zI 0,zI 0,zI 0,zI 0,zI 0,zI 0,zI 0,zI 0,zI 0,zI 0,zI 0,zI 0,zI 0,zI 0,zI 0,zI 0,zI 0,zI 0,zI 0,zI 0,zI 0,zI 0,zI 0,zI 0,zI 0,zI 0,zI 0,zI 0,zI 0,zI 0,zI 0,zI 0,zI 0,zI 0,zI 0,zI 0,zI 0,zI 0,zI 0,zI 0,zI 0,zI 0,zI 0,zI 0,zI 0,zI 0,zI 0,zI 0,zI 0,zI 0,zI 0,zI 0,zI 0,zI 0,zI 0,zI 0,zI 0,zI 0,zI 0,zI 0,zI 0,zI 0,zI 0,zI 0,zI 0,zI 0,zI 0,zI 0,zI 0,zI 0,zI 0,zI 0,zI 0,zI 0,zI 0,zI 0,zI 0,zI 0,zI 0,zI 0,zI 0,zI 0,zI 0,zI 0,zI 0,zI 1,zI 0,zI 0,zI 0,zI 0,zI 0,zI 0,zI 0,zI 0,zI 0,zI 0,zI 0,zI 0,zI 0,zI 0,zI 0,zI 0,zI 0,zI 0,zI 0,zI 0,zI 0,zI 0,zI 0,zI 0,zI 0,zI 0,zI 0,zI 0,zI 0] 3 Ga) (V8 (wo nD (aL 286 (bV T1 l 0++[256]))) 3 Ga) (by(rw[Pq,lv];rfl))<|.blk 32 32 (V8 (Ar 30 (zI 0)) 3 Ga) (V8 (wo nD (aL 30 (dl T2 l 0))) 3 Ga) (by(rw[KN,lv];rfl))<|BY T_ok ae Gd 77 0 (am Tryz.prog 134 0) (λ(x:(i:Nat)×'(hi:i<=k)×'Unit)=>match x with|⟨i,hi,_⟩=>Wr [(0,Wu Gd k 3 (v8 aY l)),(4,Wb 0 0 0 286 1),(5,Wb 8 8 0 30 1),(6,nD i)] [⟨0,0,16,16,.b ⟨(aL 286 (bV T1 l i++[256])).map nD,3,Ga⟩⟩,⟨8,8,32,32,.b ⟨(aL 30 (dl T2 l i)).map nD,3,Ga⟩⟩] 16) (λ(x:(i:Nat)×'(hi:i<=k)×'Unit)=>match x with|⟨i,hi,_⟩=>k-i) [⟨Unit,.exit 0,λ()=>Wr [(0,Wu Gd k 3 (v8 aY l)),(4,Wb 0 0 0 286 1),(5,Wb 8 8 0 30 1)] [⟨0,0,16,16,.b ⟨(aL 286 (bV T1 l k++[256])).map nD,3,Ga⟩⟩,⟨8,8,32,32,.b ⟨(aL 30 (dl T2 l k)).map nD,3,Ga⟩⟩] 16⟩] 1000 64 (fun|⟨i,hi,_⟩,Q,ZB,ZD=>.B 5 ((i:Int)<k) (λ p0 Z9=>.K 3 (Ga&&Ao ((i:Int)<k)&&Ga) Ki<|.O 5 ((v8 aY l)[i*3+2]?) (zN (Tn.long (wm l i lb))) (cR (k:=3) (i:=i) (j:=2) (λ _=>rfl) om om rfl)<|.R 2 ((↑(Tn.long (wm l i lb)):Int)==0) (λ p1=>have Z8:=eq_of_beq p1;.K 4 (Ga&&Ao ((i:Int)<k)&&Ga) Ki<|.O 5 ((v8 aY l)[i*3+0]?) (cK (V7 (Tn.lit (wm l i lb)))) (cR (k:=3) (i:=i) (j:=0) (λ _=>rfl) om om rfl)<|.K 1 (Ga&&Ao ((↑(V7 (Tn.lit (wm l i lb))):Int)<(↑286:Int))) Av<|.O 2 ((wo nD (aL 286 (bV T1 l i++[256])))[0+V7 (Tn.lit (wm l i lb))*1]?) (nD (wm (aL 286 (bV T1 l i++[256])) (V7 (Tn.lit (wm l i lb))) lb)) (@Jd (bV T1 l i++[256]) (l.getD i lb).lit.toNat Dx)<|.O 2 (au .i64 ((↑(wm (aL 286 (bV T1 l i++[256])) (V7 (Tn.lit (wm l i lb))) lb):Int)+1)) (zI (Wo Wv ((↑(wm (aL 286 (bV T1 l i++[256])) (V7 (Tn.lit (wm l i lb))) lb):Int)+1))) (aD _ _)<|.K 1 (Ga&&Ao ((↑(V7 (Tn.lit (wm l i lb))):Int)<(↑286:Int))) Av<|.K 1 (Ga&&Wf (0+V7 (Tn.lit (wm l i lb))*1+1) (v0 (wo nD (aL 286 (bV T1 l i++[256]))))) Qm<|.lst (ac (wo nD (aL 286 (bV T1 l i++[256]))) (0+V7 (Tn.lit (wm l i lb))*1) [zI (Wo Wv ((↑(wm (aL 286 (bV T1 l i++[256])) (V7 (Tn.lit (wm l i lb))) lb):Int)+1))]) (ac (wo nD (aL 286 (bV T1 l i++[256]))) (V7 (Tn.lit (wm l i lb))) [zI (Wo Wv ((↑(wm (aL 286 (bV T1 l i++[256])) (V7 (Tn.lit (wm l i lb))) lb):Int)+1))]) (by(simp;done))<|.W 3 (i+1)<|.V 1 6 (zI (i+1)) (zN (i+1)) (by(refine aF ?_;(omega)))<|.blk 0 0 (V8 (ac (wo nD (aL 286 (bV T1 l i++[256]))) (V7 (Tn.lit (wm l i lb))) [zI (Wo Wv ((↑(wm (aL 286 (bV T1 l i++[256])) (V7 (Tn.lit (wm l i lb))) lb):Int)+1))]) 3 Ga) (V8 (wo nD (aL 286 (bV T1 l (i+1)++[256]))) 3 Ga) (by(rw[(yg (T1:=T1) (T2:=T2) om om).1];refine aq (Dy (by have h9:=hl i;have h5:=Xb (l.getD i lb).lit;have h2:=bb hT1 hT2 (hl i);have g1:=hz1 (ai T1 (l.getD i lb).long);have g2:=hz2 (ai T2 (l.getD i lb).dist);unfold bY at h9;omega) (by have h4:=lx (T1:=T1) (l:=l) (i:=i);rw[Wc];simp only[W7];omega))))<|.blk 8 8 (V8 (wo nD (aL 30 (dl T2 l i))) 3 Ga) (V8 (wo nD (aL 30 (dl T2 l (i+1)))) 3 Ga) (by(rw[(yg (T1:=T1) (T2:=T2) om om).2]))<|Aw ZB ⟨(i+1),om,⟨⟩⟩ (by show k-(i+1)<k-i;clear ZB ZD;omega) [(0,0),(8,8)] ro) (λ p1=>have Z8:=ak p1;.K 3 (Ga&&Ao ((i:Int)<k)&&Ga) Ki<|.O 5 ((v8 aY l)[i*3+2]?) (zN (Tn.long (wm l i lb))) (cR (k:=3) (i:=i) (j:=2) (λ _=>rfl) om om rfl)<|.C 1 132 Gd [] (.fn NJ (@yF (T1) aG om om (Tn.long (wm l i lb)) Dx))<|.K 16 (Ga&&Ao ((i:Int)<k)&&Ga) Ki<|.O 5 ((v8 aY l)[i*3+1]?) (zN (Tn.dist (wm l i lb))) (cR (k:=3) (i:=i) (j:=1) (λ _=>rfl) om om rfl)<|.C 1 133 Gd [] (.fn NK (@C3 (T2) aG om om (Tn.dist (wm l i lb)) Dx))<|.K 16 (Ga&&Ao ((↑(257+ai T1 (Tn.long (wm l i lb))):Int)<(↑286:Int))) Av<|.O 2 ((wo nD (aL 286 (bV T1 l i++[256])))[0+(257+ai T1 (Tn.long (wm l i lb)))*1]?) (nD (wm (aL 286 (bV T1 l i++[256])) (257+ai T1 (Tn.long (wm l i lb))) lb)) (@Jd (bV T1 l i++[256]) (257+ai T1 (l.getD i lb).long) Dx)<|.O 2 (au .i64 ((↑(wm (aL 286 (bV T1 l i++[256])) (257+ai T1 (Tn.long (wm l i lb))) lb):Int)+1)) (zI (Wo Wv ((↑(wm (aL 286 (bV T1 l i++[256])) (257+ai T1 (Tn.long (wm l i lb))) lb):Int)+1))) (aD _ _)<|.K 1 (Ga&&Ao ((↑(257+ai T1 (Tn.long (wm l i lb))):Int)<(↑286:Int))) Av<|.K 1 (Ga&&Wf (0+(257+ai T1 (Tn.long (wm l i lb)))*1+1) (v0 (wo nD (aL 286 (bV T1 l i++[256]))))) Qm<|.lst (ac (wo nD (aL 286 (bV T1 l i++[256]))) (0+(257+ai T1 (Tn.long (wm l i lb)))*1) [zI (Wo Wv ((↑(wm (aL 286 (bV T1 l i++[256])) (257+ai T1 (Tn.long (wm l i lb))) lb):Int)+1))]) (ac (wo nD (aL 286 (bV T1 l i++[256]))) (257+ai T1 (Tn.long (wm l i lb))) [zI (Wo Wv ((↑(wm (aL 286 (bV T1 l i++[256])) (257+ai T1 (Tn.long (wm l i lb))) lb):Int)+1))]) (by(simp;done))<|.K 3 (Ga&&Ao ((↑(ai T2 (Tn.dist (wm l i lb))):Int)<(↑30:Int))) Av<|.O 2 ((wo nD (aL 30 (dl T2 l i)))[0+ai T2 (Tn.dist (wm l i lb))*1]?) (nD (wm (aL 30 (dl T2 l i)) (ai T2 (Tn.dist (wm l i lb))) lb)) (@Qq (dl T2 l i) (ai T2 (l.getD i lb).dist) Dx)<|.O 2 (au .i64 ((↑(wm (aL 30 (dl T2 l i)) (ai T2 (Tn.dist (wm l i lb))) lb):Int)+1)) (zI (Wo Wv ((↑(wm (aL 30 (dl T2 l i)) (ai T2 (Tn.dist (wm l i lb))) lb):Int)+1))) (aD _ _)<|.K 1 (Ga&&Ao ((↑(ai T2 (Tn.dist (wm l i lb))):Int)<(↑30:Int))) Av<|.K 1 (Ga&&Wf (0+ai T2 (Tn.dist (wm l i lb))*1+1) (v0 (wo nD (aL 30 (dl T2 l i))))) (by(have h8:=cN 30 (dl T2 l i);have h9:=hl i;have h5:=Xb (l.getD i lb).lit;have h2:=bb hT1 hT2 (hl i);have g1:=hz1 (ai T1 (l.getD i lb).long);have g2:=hz2 (ai T2 (l.getD i lb).dist);unfold bY at h9;simp only[Wj,h8,WM,WV];refine We ?_;omega))<|.lst (ac (wo nD (aL 30 (dl T2 l i))) (0+ai T2 (Tn.dist (wm l i lb))*1) [zI (Wo Wv ((↑(wm (aL 30 (dl T2 l i)) (ai T2 (Tn.dist (wm l i lb))) lb):Int)+1))]) (ac (wo nD (aL 30 (dl T2 l i))) (ai T2 (Tn.dist (wm l i lb))) [zI (Wo Wv ((↑(wm (aL 30 (dl T2 l i)) (ai T2 (Tn.dist (wm l i lb))) lb):Int)+1))]) (by(simp;done))<|.W 3 (i+1)<|.V 1 6 (zI (i+1)) (zN (i+1)) (by(refine aF ?_;(omega)))<|.blk 0 0 (V8 (ac (wo nD (aL 286 (bV T1 l i++[256]))) (257+ai T1 (Tn.long (wm l i lb))) [zI (Wo Wv ((↑(wm (aL 286 (bV T1 l i++[256])) (257+ai T1 (Tn.long (wm l i lb))) lb):Int)+1))]) 3 Ga) (V8 (wo nD (aL 286 (bV T1 l (i+1)++[256]))) 3 Ga) (by(rw[(yh (T1:=T1) (T2:=T2) om om).1];refine aq (Dy (by have h9:=hl i;have h5:=Xb (l.getD i lb).lit;have h2:=bb hT1 hT2 (hl i);have g1:=hz1 (ai T1 (l.getD i lb).long);have g2:=hz2 (ai T2 (l.getD i lb).dist);unfold bY at h9;omega) (by have h4:=lx (T1:=T1) (l:=l) (i:=i);rw[Wc];simp only[W7];omega))))<|.blk 8 8 (V8 (ac (wo nD (aL 30 (dl T2 l i))) (ai T2 (Tn.dist (wm l i lb))) [zI (Wo Wv ((↑(wm (aL 30 (dl T2 l i)) (ai T2 (Tn.dist (wm l i lb))) lb):Int)+1))]) 3 Ga) (V8 (wo nD (aL 30 (dl T2 l (i+1)))) 3 Ga) (by(rw[(yh (T1:=T1) (T2:=T2) om om).2];refine aq (Gx (by have h9:=hl i;have h5:=Xb (l.getD i lb).lit;have h2:=bb hT1 hT2 (hl i);have g1:=hz1 (ai T1 (l.getD i lb).long);have g2:=hz2 (ai T2 (l.getD i lb).dist);unfold bY at h9;omega) (by have h3:=rO (T2:=T2) (l:=l) i om;omega))))<|Aw ZB ⟨(i+1),om,⟨⟩⟩ (by show k-(i+1)<k-i;clear ZB ZD;omega) [(0,0),(8,8)] ro)) (λ p0 Z9=>.blk 0 0 (V8 (wo nD (aL 286 (bV T1 l i++[256]))) 3 Ga) (V8 (wo nD (aL 286 (bV T1 l k++[256]))) 3 Ga) (by(rw[show i=k from by omega]))<|.blk 8 8 (V8 (wo nD (aL 30 (dl T2 l i))) 3 Ga) (V8 (wo nD (aL 30 (dl T2 l k))) 3 Ga) (by(rw[show i=k from by omega]))<|BO ZD 0 (():Unit) rfl [(0,0),(8,8)] ro)) (fun|⟨i,hi,_⟩=>by kernel_rfl) ⟨(0),om,⟨⟩⟩ [(16,16),(32,32)] ro (bB (fun|()=>.Y 4 [0,8] [0,8] (Xm [Wb 0 0 0 286 1,Wb 1 1 0 30 1]) [V8 (wo nD (aL 286 (bV T1 l k++[256]))) 3 Ga,V8 (wo nD (aL 30 (dl T2 l k))) 3 Ga] ok))) kr
def Gy(h:p:=by show 288-(i+1)<288-i;clear ZB ZD;omega):=h
def Qr(h:p:=by(refine aq (LQ (v:=8) om ?_);have h9:=sw hL i om;rw[ZE om,ZE om]at h9;exact h9)):=h
def gR (L:Z4)(i:Nat):Z4:=lk L (L.take i++Wt (L.length-i) 0)
def o9 (L:Z4)(i:Nat):gR L i=L.take i++Wt (L.length-i) 0:=aM _ _
def kS (L:Z4){i:Nat}(h:i<=L.length):(gR L i).length=L.length:=by
 rw[o9,Wc,Wi,WP];omega
def Je (L:Z4):gR L 0=Wt L.length 0:=by rw[o9];rfl
def Jf (L:Z4){i:Nat}(h:i=L.length):gR L i=L:=by
 rw[o9,h,Xz,XF];exact Xn _
def Qs (L:Z4){i:Nat}(h:i<L.length):(gR L i).set i (L.getD i lb)=gR L (i+1):=by
 rw[o9,o9,show L.length-i=(L.length-(i+1))+1 from by omega,aai,Y6 _ _ (by rw[Wi];omega),Wi,show i-min i L.length=0 from by omega,abh,WW h,WI,Wd,Wa h];rfl
def LQ {L:Z4}{i v:Nat}(h:i<L.length)(hv:(L.getD i lb).toNat=v):ac ((gR L i).map dB) i [D.v (.int .u8 ((v:Nat):Int))]=(gR L (i+1)).map dB:=by
 subst hv;rw[jH (Xb _) (by rw[kS L om];exact h),UInt8.ofNat_toNat,Qs L h]
def Qt {M:Z4}{i a b:Nat}(ha:a<256)(hb:b<256)(h:i<M.length):ac (ac (M.map dB) i [D.v (.int .u8 ((a:Nat):Int))]) i [D.v (.int .u8 ((b:Nat):Int))]=ac (M.map dB) i [D.v (.int .u8 ((b:Nat):Int))]:=by
 rw[jH ha h,jH hb (by rw[X8];exact h),jH hb h,List.set_set]
def Qu {L:Z4}{i a v:Nat}(ha:a<256)(h:i<L.length)(hv:(L.getD i lb).toNat=v):ac (ac ((gR L i).map dB) i [D.v (.int .u8 ((a:Nat):Int))]) i [D.v (.int .u8 ((v:Nat):Int))]=(gR L (i+1)).map dB:=by
 have:=Xb (L.getD i lb);rw[Qt ha om (by rw[kS L om];exact h),LQ h hv]
def sw {L:Z4}(hL:L=cd):∀i,i<288->(L.getD i lb).toNat=if 144<=i/\i<=255 then 9 else if 256<=i/\i<=279 then 7 else 8:=by
 subst hL;have h:∀i:Fin 288,(cd.getD i.1 lb).toNat=if 144<=i.1/\i.1<=255 then 9 else if 256<=i.1/\i.1<=279 then 7 else 8:=by decide+kernel
 exact λ i hi=>h ⟨i,hi⟩
def LS {L:Z4}(hL:L=dS):∀i,i<32->(L.getD i lb).toNat=5:=by
 subst hL;have h:∀i:Fin 32,(dS.getD i.1 lb).toNat=5:=by decide+kernel
 exact λ i hi=>h ⟨i,hi⟩
def Qv {L:Z4}{i x m:Nat}(hi:i<=L.length)(hx:x<=L.length)(h:x=m):(Ga&&m.ble ((gR L i).map dB).length)=true:=by
 rw[Wj,kS L hi,WM];exact We om
def Jg {L:Z4}{i o m a:Nat}(hi:i<=L.length)(ho:o<L.length)(hm:m<=L.length)(ha:a<256):(Ga&&m.ble (ac ((gR L i).map dB) o [D.v (.int .u8 ((a:Nat):Int))]).length)=true:=by
 rw[jH ha (by rw[kS L hi];exact ho),Wj,X8,kS L hi,WM];exact We hm
def Dz (L:Z4)(hL:L=cd)(hLl:L.length=288):S0 100 [] [] (.ref 0 0 0 288 1) [⟨L.map dB, 5,Ga⟩]:=SpR Tryz.func100 rfl rfl rfl ⟨aH _,trivial⟩ rfl 1000 64 (λ R ok=>.M 5 8 8 (V8 (Ar 288 (bI 0)) 5 Ga) (V8 (wo dB (gR L 0)) 5 Ga) (by(rw[Je,hLl];rfl))<|BY T_ok ae Gd 30 0 (am Tryz.prog 100 0) (λ(x:(i:Nat)×'(hi:i<=288)×'Unit)=>match x with|⟨i,hi,_⟩=>Wr [(1,Wb 0 0 0 288 1),(2,nD i)] [⟨0,0,8,8,.b ⟨(gR L i).map dB,5,Ga⟩⟩] 8) (λ(x:(i:Nat)×'(hi:i<=288)×'Unit)=>match x with|⟨i,hi,_⟩=>288-i) [⟨Unit,.exit 0,λ()=>Wr [(1,Wb 0 0 0 288 1)] [⟨0,0,8,8,.b ⟨L.map dB,5,Ga⟩⟩] 8⟩] 1000 64 (fun|⟨i,hi,_⟩,Q,ZB,ZD=>.B 3 ((i:Int)<288) (λ p0 Z9=>.K 3 (Ga&&Ao ((i:Int)<(↑288:Int))) aG<|.K 1 (Ga&&Wf (0+i*1+1) (v0 (wo dB (gR L i)))) (by(exact Qv (x:=i+1) om om om))<|.lst (ac (wo dB (gR L i)) (0+i*1) [bI 8]) (ac (wo dB (gR L i)) i [bI 8]) (by(simp;done))<|.B 5 (144<=(i:Int)) (λ p1 Z8=>.B 4 ((i:Int)<=255) (λ p2 Z7=>.K 3 (Ga&&Ao ((i:Int)<(↑288:Int))) aG<|.K 1 (Ga&&Wf (0+i*1+1) (v0 (ac (wo dB (gR L i)) i [bI 8]))) (by(exact Jg (a:=8) om om om (by decide)))<|.lst (ac (ac (wo dB (gR L i)) i [bI 8]) (0+i*1) [bI 9]) (ac (ac (wo dB (gR L i)) i [bI 8]) i [bI 9]) (by(simp;done))<|.F 5 (Ao (256<=(i:Int))) rC<|.W 7 (i+1)<|.V 1 2 (zI (i+1)) (zN (i+1)) Ex<|.blk 0 0 (V8 (ac (ac (wo dB (gR L i)) i [bI 8]) i [bI 9]) 5 Ga) (V8 (wo dB (gR L (i+1))) 5 Ga) (by(refine aq (Qu (a:=8) (v:=9) (by decide) om ?_);have h9:=sw hL i om;rw[ZF om]at h9;exact h9))<|Aw ZB ⟨(i+1),om,⟨⟩⟩ Gy [(0,0)] ro) (λ p2 Z7=>.E 5 (Ao (256<=(i:Int))) (by(refine decide_eq_true ?_;(omega)))<|.B 4 ((i:Int)<=279) (λ p3 Z6=>.K 3 (Ga&&Ao ((i:Int)<(↑288:Int))) aG<|.K 1 (Ga&&Wf (0+i*1+1) (v0 (ac (wo dB (gR L i)) i [bI 8]))) (by(exact Jg (a:=8) om om om (by decide)))<|.lst (ac (ac (wo dB (gR L i)) i [bI 8]) (0+i*1) [bI 7]) (ac (ac (wo dB (gR L i)) i [bI 8]) i [bI 7]) (by(simp;done))<|.W 3 (i+1)<|.V 1 2 (zI (i+1)) (zN (i+1)) Ex<|.blk 0 0 (V8 (ac (ac (wo dB (gR L i)) i [bI 8]) i [bI 7]) 5 Ga) (V8 (wo dB (gR L (i+1))) 5 Ga) (by(refine aq (Qu (a:=8) (v:=7) (by decide) om ?_);have h9:=sw hL i om;rw[ZE om,ZF om]at h9;exact h9))<|Aw ZB ⟨(i+1),om,⟨⟩⟩ Gy [(0,0)] ro) (λ p3 Z6=>.W 3 (i+1)<|.V 1 2 (zI (i+1)) (zN (i+1)) Ex<|.blk 0 0 (V8 (ac (wo dB (gR L i)) i [bI 8]) 5 Ga) (V8 (wo dB (gR L (i+1))) 5 Ga) Qr<|Aw ZB ⟨(i+1),om,⟨⟩⟩ Gy [(0,0)] ro))) (λ p1 Z8=>.F 9 (Ao (256<=(i:Int))) rC<|.W 7 (i+1)<|.V 1 2 (zI (i+1)) (zN (i+1)) Ex<|.blk 0 0 (V8 (ac (wo dB (gR L i)) i [bI 8]) 5 Ga) (V8 (wo dB (gR L (i+1))) 5 Ga) Qr<|Aw ZB ⟨(i+1),om,⟨⟩⟩ Gy [(0,0)] ro)) (λ p0 Z9=>.blk 0 0 (V8 (wo dB (gR L i)) 5 Ga) (V8 (wo dB L) 5 Ga) (by(rw[Jf L om]))<|BO ZD 0 (():Unit) rfl [(0,0)] ro)) (fun|⟨i,hi,_⟩=>by kernel_rfl) ⟨(0),om,⟨⟩⟩ [(8,8)] ro (bB (fun|()=>.Y 2 [0] [0] (Wb 0 0 0 288 1) [V8 (wo dB L) 5 Ga] ok))) kr
def Jh (L:Z4)(hL:L=dS)(hLl:L.length=32):S0 101 [] [] (.ref 0 0 0 32 1) [⟨L.map dB, 5,Ga⟩]:=SpR Tryz.func101 rfl rfl rfl ⟨aH _,trivial⟩ rfl 1000 64 (λ R ok=>.M 5 8 8 (V8 (Ar 32 (bI 0)) 5 Ga) (V8 (wo dB (gR L 0)) 5 Ga) (by(rw[Je,hLl];rfl))<|BY T_ok ae Gd 12 0 (am Tryz.prog 101 0) (λ(x:(i:Nat)×'(hi:i<=32)×'Unit)=>match x with|⟨i,hi,_⟩=>Wr [(1,Wb 0 0 0 32 1),(2,nD i)] [⟨0,0,8,8,.b ⟨(gR L i).map dB,5,Ga⟩⟩] 8) (λ(x:(i:Nat)×'(hi:i<=32)×'Unit)=>match x with|⟨i,hi,_⟩=>32-i) [⟨Unit,.exit 0,λ()=>Wr [(1,Wb 0 0 0 32 1)] [⟨0,0,8,8,.b ⟨L.map dB,5,Ga⟩⟩] 8⟩] 1000 64 (fun|⟨i,hi,_⟩,Q,ZB,ZD=>.B 3 ((i:Int)<32) (λ p0 Z9=>.K 3 (Ga&&Ao ((i:Int)<(↑32:Int))) aG<|.K 1 (Ga&&Wf (0+i*1+1) (v0 (wo dB (gR L i)))) (by(exact Qv (x:=i+1) om om om))<|.lst (ac (wo dB (gR L i)) (0+i*1) [bI 5]) (ac (wo dB (gR L i)) i [bI 5]) (by(simp;done))<|.W 3 (i+1)<|.V 1 2 (zI (i+1)) (zN (i+1)) Ex<|.blk 0 0 (V8 (ac (wo dB (gR L i)) i [bI 5]) 5 Ga) (V8 (wo dB (gR L (i+1))) 5 Ga) (by(exact aq (LQ (v:=5) om (LS hL i om))))<|Aw ZB ⟨(i+1),om,⟨⟩⟩ (by show 32-(i+1)<32-i;clear ZB ZD;omega) [(0,0)] ro) (λ p0 Z9=>.blk 0 0 (V8 (wo dB (gR L i)) 5 Ga) (V8 (wo dB L) 5 Ga) (by(rw[Jf L om]))<|BO ZD 0 (():Unit) rfl [(0,0)] ro)) (fun|⟨i,hi,_⟩=>by kernel_rfl) ⟨(0),om,⟨⟩⟩ [(8,8)] ro (bB (fun|()=>.Y 2 [0] [0] (Wb 0 0 0 32 1) [V8 (wo dB L) 5 Ga] ok))) kr
def LU:S0 138 [] [] (.agg ([16,17,18,0,8,7,9,6,10,5,11,4,12,3,13,2,14,1,15].map nD)) []:=SpR Tryz.func138 rfl rfl rfl trivial rfl 1000 64 (λ R ok=>.U 10 [] [] (W6 [zI 16,zI 17,zI 18,zI 0,zI 8,zI 7,zI 9,zI 6,zI 10,zI 5,zI 11,zI 4,zI 12,zI 3,zI 13,zI 2,zI 14,zI 1,zI 15]) [] R (ok _ _ (by(simp;done)) wr)) kr
def V4 (s:Nat)(h:s<=18):S0 139 [nD s] [] (.tup [nD (rb s),iD 0]) []:=SpR Tryz.func139 rfl rfl rfl trivial rfl 1000 64 (λ R ok=>.F 12 (Ao (18<(s:Int))) rC<|.R 3 ((s:Int)==16) (λ p0=>have Z9:=eq_of_beq p0;.U 2 [] [] (Xm [zI 2,zI 0]) [] R (ok _ _ (by((have hs:s=16:=by omega);subst hs;rfl)) wr)) (λ p0=>have Z9:=ak p0;.R 3 ((s:Int)==17) (λ p1=>have Z8:=eq_of_beq p1;.U 2 [] [] (Xm [zI 3,zI 0]) [] R (ok _ _ (by((have hs:s=17:=by omega);subst hs;rfl)) wr)) (λ p1=>have Z8:=ak p1;.R 3 ((s:Int)==18) (λ p2=>have Z7:=eq_of_beq p2;.U 2 [] [] (Xm [zI 7,zI 0]) [] R (ok _ _ (by((have hs:s=18:=by omega);subst hs;rfl)) wr)) (λ p2=>have Z7:=ak p2;.U 2 [] [] (Xm [zI 0,zI 0]) [] R (ok _ _ (by(rw[show rb s=0 from by unfold rb;rw[ZE om,ZE om,ZE om]];rfl)) wr))))) kr
def UJ (l:Z4)(m:Nat):jS l m m=m:=by
 cases m with
 |zero=>rfl
 |succ m=>rw[jS,ZE om]
def Qw {l:Z4}{m i u:Nat}(h:m<=i)(hu:u=i)(h2:(((l.getD u lb).toNat:Nat):Int)=0):jS l m (i+1)=jS l m i:=by
 subst hu;rw[jS,ZF ⟨by omega,Br h2⟩]
def Qx {l:Z4}{m i u:Nat}(hu:u=i)(h2:¬(((l.getD u lb).toNat:Nat):Int)=0):jS l m (i+1)=i+1:=by
 subst hu;rw[jS,ZE];intro q;exact h2 (by rw[q.2];rfl)
def DA {l:Z4}{m:Nat}:∀i,m<=i->m<=jS l m i/\jS l m i<=i
 |0,h=>by rw[jS];omega
 |i+1,h=>by
  rw[jS];split
  ·have:=DA (l:=l) (m:=m) i om;omega
  ·omega
def UK (l:Z4)(L:Nat)(hL:L=l.length)(hL2:L<=320)(m:Nat)(hm:m<=L)(T:Nat)(hT:gO l m=T):S1 135 [.ref 0 0 0 L 1,nD m] [⟨l.map dB, 5,Ga⟩] (.ref 0 0 0 T 1) [⟨l.map dB, 5,Ga⟩]:=SpR Tryz.func135 rfl rfl rfl ⟨bn _ (λ _=>rfl) _,trivial⟩ rfl 1000 64 (λ R ok=>.V 5 5 (zN m) (zN (jS l m m)) (by(rw[UJ]))<|BY T_ok ae Gd 25 1 (am Tryz.prog 135 0) (λ(x:(i:Nat)×'(hi:m<=i/\i<=L)×'Unit)=>match x with|⟨i,hi,_⟩=>Wr [(0,Wb 0 0 0 L 1),(5,nD (jS l m i)),(6,nD i)] [⟨0,0,0,0,.b ⟨wo dB l,5,Ga⟩⟩] 16) (λ(x:(i:Nat)×'(hi:m<=i/\i<=L)×'Unit)=>match x with|⟨i,hi,_⟩=>L-i) [⟨Unit,.exit 0,λ()=>Wr [(0,Wb 0 0 0 L 1),(5,nD T)] [⟨0,0,0,0,.b ⟨wo dB l,5,Ga⟩⟩] 16⟩] 1000 64 (fun|⟨i,hi,_⟩,Q,ZB,ZD=>.B 5 ((i:Int)<L) (λ p0 Z9=>.K 3 (Ga&&Ao ((i:Int)<L)) aG<|.O 2 ((wo dB l)[0+i*1]?) (dB (wm l (0+i*1) lb)) (aj _ _ om)<|.R 2 ((↑(V7 (wm l (0+i*1) lb)):Int) !=0) (λ p1=>have Z8:=fI p1;.W 3 (i+1)<|.W 4 (i+1)<|.V 1 5 (zI (i+1)) (zN (jS l m (i+1))) (by(rw[Qx (u:=0+i*1) om aG];rfl))<|.val 6 (zI (i+1)) (zN (i+1)) Ex<|Aw ZB ⟨(i+1),om,⟨⟩⟩ (by show L-(i+1)<L-i;clear ZB ZD;omega) [(0,0)] ro) (λ p1=>have Z8:=fJ p1;.W 3 (i+1)<|.V 1 5 (zN (jS l m i)) (zN (jS l m (i+1))) (by(rw[Qw (u:=0+i*1) om om aG]))<|.val 6 (zI (i+1)) (zN (i+1)) Ex<|Aw ZB ⟨(i+1),om,⟨⟩⟩ (by show L-(i+1)<L-i;clear ZB ZD;omega) [(0,0)] ro)) (λ p0 Z9=>.val 5 (zN (jS l m i)) (zN T) (by(rw[show i=l.length from by omega,<-jT,hT]))<|BO ZD 0 (():Unit) rfl [(0,0)] ro)) (fun|⟨i,hi,_⟩=>by kernel_rfl) ⟨(m),om,⟨⟩⟩ [(0,0)] ro (bB (fun|()=>.K 3 (aV z9 (Ge (T:Int)) z9 L&&Ga) (by(simp;have h9:=DA (l:=l) (m:=m) l.length om;rw[<-jT,hT]at h9;omega))<|.Y 1 [0] [0] (Wb 0 0 0 T 1) [V8 (wo dB l) 5 Ga] ok))) kr
def Gz(h:p:=by(simp only[Wx]at *;(try rw[show((a:Int)-1).toNat=a-1 from by omega]at *);have h9:=iE (l:=l) (a:=a) om;rw[UO om om];first|rfl|(refine yV ?_ ?_ ?_<;>(try dsimp only)<;>omega))):=h
def LW(h:p:=by(have h9:=LX (l:=l) (a:=a) om;omega)):=h
def Qy(h:p:=by(simp only[Wx]at *;(try rw[show((a:Int)-1).toNat=a-1 from by omega]at *);have h9:=iE (l:=l) (a:=a) om;rw[UL ⟨by omega,by omega⟩];first|rfl|(refine yV ?_ ?_ ?_<;>(try dsimp only)<;>omega))):=h
def Qz(h:p:=by(simp only[Wx]at *;(try rw[show((a:Int)-1).toNat=a-1 from by omega]at *);have h9:=iE (l:=l) (a:=a) om;rw[UN om om om om];first|rfl|(refine yV ?_ ?_ ?_<;>(try dsimp only)<;>omega))):=h
def kY (l:Z4)(a:Nat):Rn×Nat:=
 if(l.getD a lb).toNat=0/\11<=bG l a then(⟨18,min (bG l a) 138-11⟩,min (bG l a) 138)
 else if(l.getD a lb).toNat=0/\3<=bG l a then(⟨17,bG l a-3⟩,bG l a)
 else if 0<(l.getD a lb).toNat/\0<a/\(l.getD (a-1) lb).toNat=(l.getD a lb).toNat/\3<=bG l a then(⟨16,min (bG l a) 6-3⟩,min (bG l a) 6)
 else(⟨(l.getD a lb).toNat,0⟩,1)
def UL {l:Z4}{a:Nat}(h:(l.getD a lb).toNat=0/\11<=bG l a):kY l a=(⟨18,min (bG l a) 138-11⟩,min (bG l a) 138):=ZF h
def UM {l:Z4}{a:Nat}(h:(l.getD a lb).toNat=0)(h1:¬11<=bG l a)(h2:3<=bG l a):kY l a=(⟨17,bG l a-3⟩,bG l a):=by unfold kY;rw[ZE (λ q=>h1 q.2),ZF ⟨h,h2⟩]
def UN {l:Z4}{a:Nat}(h:0<(l.getD a lb).toNat)(ha:0<a)(h1:(l.getD (a-1) lb).toNat=(l.getD a lb).toNat)(h2:3<=bG l a):kY l a=(⟨16,min (bG l a) 6-3⟩,min (bG l a) 6):=by unfold kY;rw[ZE (λ q=>by omega),ZE (λ q=>by omega),ZF ⟨h,ha,h1,h2⟩]
def UO {l:Z4}{a:Nat}(h:¬((l.getD a lb).toNat=0/\3<=bG l a))(h1:¬(0<(l.getD a lb).toNat/\0<a/\(l.getD (a-1) lb).toNat=(l.getD a lb).toNat/\3<=bG l a)):kY l a=(⟨(l.getD a lb).toNat,0⟩,1):=by unfold kY;rw[ZE (λ q=>h ⟨q.1,by omega⟩),ZE h,ZE h1]
def LX {l:Z4}{a:Nat}(h:a<l.length):1<=(kY l a).2/\a+(kY l a).2<=l.length/\(kY l a).1.s<=255/\(kY l a).1.x<=1000000000+l.length:=by
 have b:=iE h;have t:=(l.getD a lb).toNat_lt;unfold kY
 split
 ·refine⟨?_,?_,?_,?_⟩<;>dsimp only <;>omega
 ·split
  ·refine⟨?_,?_,?_,?_⟩<;>dsimp only <;>omega
  ·split
   ·refine⟨?_,?_,?_,?_⟩<;>dsimp only <;>omega
   ·refine⟨?_,?_,?_,?_⟩<;>dsimp only <;>omega
def QA {l:Z4}{f a:Nat}{o T:nl}(hR:o++jG l f a=T)(hf:l.length<=a+f)(h:a<l.length):(o++[(kY l a).1])++jG l (f-1) (a+(kY l a).2)=T:=by
 obtain⟨g,rfl⟩:∃g,f=g+1:=⟨f-1,by omega⟩
 rw[<-hR,jG,ZE om,WI];unfold kY;refine congrArg (λ z=>o++z) ?_
 split
 ·rfl
 ·split
  ·rfl
  ·split
   ·rfl
   ·rfl
def UP {l:Z4}{a n:Nat}(hn:n=l.length)(h:a<n):sS l a (n-1) 1=bG l a:=by
 subst hn;exact NQ (vU l a).symm om om (by rw[X4])
def QB (l:Z4)(n:Nat)(hn:n=l.length)(hn2:n<=400)(a:Nat)(ha:a<n):S0 189 [.sl Gd n 1 (l.map dB),nD a] [] (nD (bG l a)) []:=SpR Tryz.func189 rfl rfl rfl trivial rfl 1000 64 (λ R ok=>.s 2<|BY T_ok ae Gd 28 0 (am Tryz.prog 189 0) (λ(x:(i:Nat)×'(f:Nat)×'(hi:a+i<=n)×'(hf:n<=a+i+f)×'(hR:sS l a f i=bG l a)×'Unit)=>match x with|⟨i,f,hi,hf,hR,_⟩=>Wr [(0,Wu Gd n 1 (wo dB l)),(1,zN a),(5,nD i)] [] 0) (λ(x:(i:Nat)×'(f:Nat)×'(hi:a+i<=n)×'(hf:n<=a+i+f)×'(hR:sS l a f i=bG l a)×'Unit)=>match x with|⟨i,f,hi,hf,hR,_⟩=>n-i) [⟨Unit,.exit 0,λ()=>Wr [(0,Wu Gd n 1 (wo dB l)),(1,zN a),(5,nD (bG l a))] [] 0⟩] 1000 64 (fun|⟨i,f,hi,hf,hR,_⟩,Q,ZB,ZD=>.W 5 (a+i)<|.B 6 ((a:Int)+i<n) (λ p0 Z9=>.W 7 (a+i)<|.K 2 (Ga&&Ao ((a:Int)+i<n)&&Ga) Ki<|.O 3 ((wo dB l)[zL ((a:Int)+i)*1]?) (dB (wm l (zL ((a:Int)+i)*1) lb)) (aj _ _ om)<|.K 6 (Ga&&Ao ((a:Int)<n)&&Ga) Ki<|.O 3 ((wo dB l)[a*1]?) (dB (wm l (a*1) lb)) (aj _ _ om)<|.R 4 ((↑(V7 (wm l (zL ((a:Int)+i)*1) lb)):Int)==(↑(V7 (wm l (a*1) lb)):Int)) (λ p1=>have Z8:=eq_of_beq p1;.W 3 (i+1)<|.V 1 5 (zI (i+1)) (zN (i+1)) (by(refine aF ?_;(omega)))<|Aw ZB ⟨(i+1),(f-1),om,om,(by(exact HT (u:=((a:Int)+i).toNat*1) (v:=a*1) hR om om om om om)),⟨⟩⟩ (by show n-(i+1)<n-i;clear ZB ZD;omega) [] ro) (λ p1=>have Z8:=ak p1;.val 5 (zN i) (zN (bG l a)) (by(rw[HU (u:=((a:Int)+i).toNat*1) (v:=a*1) hR om om om]))<|BO ZD 0 (():Unit) rfl [] ro)) (λ p0 Z9=>.V 22 5 (zN i) (zN (bG l a)) (by(rw[J3 hR om]))<|BO ZD 0 (():Unit) rfl [] ro)) (fun|⟨i,f,hi,hf,hR,_⟩=>by kernel_rfl) ⟨(1),(n-1),om,om,(by(exact UP hn ha)),⟨⟩⟩ [] ro (bB (fun|()=>.Y 2 [] [] (zN (bG l a)) [] ok))) kr
def yV {x y z:Int}{a b c:Nat}(h1:x=((a:Nat):Int))(h2:y=((b:Nat):Int))(h3:z=((c:Nat):Int)):Xm [.agg [.v (.int .i64 x),.v (.int .i64 y)],.v (.int .i64 z)]=Xm [.agg [nD a,nD b],nD c]:=by subst h1 h2 h3;rfl
def LY (l:Z4)(n:Nat)(hn:n=l.length)(hn2:n<=400)(a:Nat)(ha:a<n):S0 170 [.sl Gd n 1 (l.map dB),nD a] [] (.tup [.agg [nD (kY l a).1.s,nD (kY l a).1.x],nD (kY l a).2]) []:=SpR Tryz.func170 rfl rfl rfl trivial rfl 1000 64 (λ R ok=>.C 6 189 Gd [] (.fn S8 (@QB (l) (n) om om (a) om))<|.K 4 (Ga&&Ao ((a:Int)<n)&&Ga) Ki<|.O 2 ((wo dB l)[a*1]?) (dB (wm l (a*1) lb)) (aj _ _ om)<|.R 4 ((↑(V7 (wm l (a*1) lb)):Int)==0) (λ p0=>have Z9:=eq_of_beq p0;.B 4 (11<=(↑(bG l a):Int)) (λ p1 Z8=>.B 3 (138<(↑(bG l a):Int)) (λ p2 Z7=>.U 15 [] [] (Xm [W6 [zI 18,zI 127],zI 138]) [] R (ok _ _ Qy wr)) (λ p2 Z7=>.W 3 ((↑(bG l a):Int)-11)<|.U 10 [] [] (Xm [W6 [zI 18,zI ((↑(bG l a):Int)-11)],zN (bG l a)]) [] R (ok _ _ Qy wr))) (λ p1 Z8=>.K 3 (Ga&&Ao ((a:Int)<n)&&Ga) Ki<|.O 2 ((wo dB l)[a*1]?) (dB (wm l (a*1) lb)) (aj _ _ om)<|.E 4 ((↑(V7 (wm l (a*1) lb)):Int)==0) p0<|.B 4 (3<=(↑(bG l a):Int)) (λ p3 Z6=>.W 3 ((↑(bG l a):Int)-3)<|.U 10 [] [] (Xm [W6 [zI 17,zI ((↑(bG l a):Int)-3)],zN (bG l a)]) [] R (ok _ _ (by(simp only[Wx]at *;(try rw[show((a:Int)-1).toNat=a-1 from by omega]at *);have h9:=iE (l:=l) (a:=a) om;rw[UM om om om];first|rfl|(refine yV ?_ ?_ ?_<;>(try dsimp only)<;>omega))) wr)) (λ p3 Z6=>.K 4 (Ga&&Ao ((a:Int)<n)&&Ga) Ki<|.O 2 ((wo dB l)[a*1]?) (dB (wm l (a*1) lb)) (aj _ _ om)<|.F 4 ((↑(V7 (wm l (a*1) lb)):Int) !=0) (by(simp_all;done))<|.K 35 (Ga&&Ao ((a:Int)<n)&&Ga) Ki<|.O 2 ((wo dB l)[a*1]?) (dB (wm l (a*1) lb)) (aj _ _ om)<|.W 1 (↑(V7 (wm l (a*1) lb)):Int)<|.U 9 [] [] (Xm [W6 [zN (V7 (wm l (a*1) lb)),zI 0],zI 1]) [] R (ok _ _ Gz wr)))) (λ p0=>have Z9:=ak p0;.K 7 (Ga&&Ao ((a:Int)<n)&&Ga) Ki<|.O 2 ((wo dB l)[a*1]?) (dB (wm l (a*1) lb)) (aj _ _ om)<|.F 4 ((↑(V7 (wm l (a*1) lb)):Int)==0) p0<|.K 8 (Ga&&Ao ((a:Int)<n)&&Ga) Ki<|.O 2 ((wo dB l)[a*1]?) (dB (wm l (a*1) lb)) (aj _ _ om)<|.E 4 ((↑(V7 (wm l (a*1) lb)):Int) !=0) (by(simp_all;done))<|.B 6 (0<(a:Int)) (λ p4 Z5=>.W 5 (a-1)<|.K 2 (Ao (0<=(a:Int)-1)&&Ao ((a:Int)-1<n)&&Ga) Ki<|.O 3 ((wo dB l)[zL ((a:Int)-1)*1]?) (dB (wm l (zL ((a:Int)-1)*1) lb)) (aj _ _ om)<|.K 6 (Ga&&Ao ((a:Int)<n)&&Ga) Ki<|.O 3 ((wo dB l)[a*1]?) (dB (wm l (a*1) lb)) (aj _ _ om)<|.R 6 ((↑(V7 (wm l (zL ((a:Int)-1)*1) lb)):Int)==(↑(V7 (wm l (a*1) lb)):Int)) (λ p5=>have p5f:=eq_of_beq p5;.B 4 (3<=(↑(bG l a):Int)) (λ p6 p6f=>.B 3 (6<(↑(bG l a):Int)) (λ p7 p7f=>.U 15 [] [] (Xm [W6 [zI 16,zI 3],zI 6]) [] R (ok _ _ Qz wr)) (λ p7 p7f=>.W 3 ((↑(bG l a):Int)-3)<|.U 10 [] [] (Xm [W6 [zI 16,zI ((↑(bG l a):Int)-3)],zN (bG l a)]) [] R (ok _ _ Qz wr))) (λ p6 p6f=>.K 3 (Ga&&Ao ((a:Int)<n)&&Ga) Ki<|.O 2 ((wo dB l)[a*1]?) (dB (wm l (a*1) lb)) (aj _ _ om)<|.I 1 (↑(V7 (wm l (a*1) lb)):Int) Ku<|.U 9 [] [] (Xm [W6 [zN (V7 (wm l (a*1) lb)),zI 0],zI 1]) [] R (ok _ _ Gz wr))) (λ p5=>have p5f:=ak p5;.K 7 (Ga&&Ao ((a:Int)<n)&&Ga) Ki<|.O 2 ((wo dB l)[a*1]?) (dB (wm l (a*1) lb)) (aj _ _ om)<|.I 1 (↑(V7 (wm l (a*1) lb)):Int) Ku<|.U 9 [] [] (Xm [W6 [zN (V7 (wm l (a*1) lb)),zI 0],zI 1]) [] R (ok _ _ Gz wr))) (λ p4 Z5=>.K 29 (Ga&&Ao ((a:Int)<n)&&Ga) Ki<|.O 2 ((wo dB l)[a*1]?) (dB (wm l (a*1) lb)) (aj _ _ om)<|.I 1 (↑(V7 (wm l (a*1) lb)):Int) Ku<|.U 9 [] [] (Xm [W6 [zN (V7 (wm l (a*1) lb)),zI 0],zI 1]) [] R (ok _ _ Gz wr)))) kr
def V5 (l:Z4)(n:Nat)(hn:n=l.length)(hn2:n<=400)(T:nl)(hT:xw l=T):S0 137 [.sl Gd n 1 (l.map dB)] [] (.ref 0 0 0 T.length 2) [⟨T.flatMap dh, 187,Ga⟩]:=SpR Tryz.func137 rfl rfl rfl ⟨cV (λ _=>rfl) _,trivial⟩ rfl 1000 64 (λ R ok=>.s 3<|.nils 3 24 2 187<|BY T_ok ae Gd 25 0 (am Tryz.prog 137 0) (λ(x:(a:Nat)×'(f:Nat)×'(o:nl)×'(ha:a<=n)×'(hf:n<=a+f)×'(hq:o.length<=a)×'(hR:o++jG l f a=T)×'Unit)=>match x with|⟨a,f,o,ha,hf,hq,hR,_⟩=>Wr [(0,Wu Gd n 1 (wo dB l)),(3,(Wb 0 0 (0) (o.length) 2)),(4,nD a)] [⟨0,0,24,24,.b ⟨o.flatMap dh,187,Ga⟩⟩] 8) (λ(x:(a:Nat)×'(f:Nat)×'(o:nl)×'(ha:a<=n)×'(hf:n<=a+f)×'(hq:o.length<=a)×'(hR:o++jG l f a=T)×'Unit)=>match x with|⟨a,f,o,ha,hf,hq,hR,_⟩=>n-a) [⟨Unit,.exit 0,λ()=>Wr [(0,Wu Gd n 1 (wo dB l)),(3,(Wb 0 0 (0) (T.length) 2))] [⟨0,0,24,24,.b ⟨T.flatMap dh,187,Ga⟩⟩] 8⟩] 1000 64 (fun|⟨a,f,o,ha,hf,hq,hR,_⟩,Q,ZB,ZD=>.B 5 ((a:Int)<n) (λ p0 Z9=>.C 3 170 Gd [] (.fn SZ (@LY (l) (n) om om (a) om))<|.K 19 (Ga&&V9 (v0 o*2) (v0 (v8 dh o))&&Ga&&Ga&&Ga&&Ga&&Wf ((v0 o+1)*16) 140737488355328) (by(simp only[bg (k:=2) (λ(x:Rn)=>(rfl:(dh x).length=2))];simp;omega))<|.I 5 (a+(↑(Wg (kY l a)):Int)) LW<|.V 1 3 (Wb 136 136 0 (v0 o+1) 2) (Wb 136 136 0 (v0 (o++[Wz (kY l a)])) 2) (by(simp;done))<|.val 4 (zI (a+(↑(Wg (kY l a)):Int))) (zN (a+Wg (kY l a))) (by(refine aF ?_;(omega)))<|.blk 136 136 (V8 (v8 dh o++[zN (Rn.s (Wz (kY l a))),zN (Rn.x (Wz (kY l a)))]) 187 Ga) (V8 (v8 dh (o++[Wz (kY l a)])) 187 Ga) (by(refine aq ?_;rw[NS]))<|Aw ZB ⟨(a+(kY l a).2),(f-1),(o++[(kY l a).1]),LW,LW,(by(simp;have h9:=LX (l:=l) (a:=a) om;omega)),(by(exact QA hR om om)),⟨⟩⟩ (by show n-(a+Wg (kY l a))<n-a;clear ZB ZD;(have h9:=LX (l:=l) (a:=a) om;omega)) [(136,136)] ro) (λ p0 Z9=>.val 3 (Wb 0 0 0 (v0 o) 2) (Wb 0 0 0 (v0 T) 2) (by(rw[Ff hR om]))<|.blk 0 0 (V8 (v8 dh o) 187 Ga) (V8 (v8 dh T) 187 Ga) (by(rw[Ff hR om]))<|BO ZD 0 (():Unit) rfl [(0,0)] ro)) (fun|⟨a,f,o,ha,hf,hq,hR,_⟩=>by kernel_rfl) ⟨(0),(n),([]),om,om,(by(simp;done)),(by(rw[hn];exact(rm l).symm.trans hT)),⟨⟩⟩ [(24,24)] ro (bB (fun|()=>.Y 2 [0] [0] (Wb 0 0 0 (v0 T) 2) [V8 (v8 dh T) 187 Ga] ok))) kr
def mG(h:p:=by repeat' first|exact cm (λ _=>rfl) _|exact trivial|exact rfl|exact(λ _=>aR _)|exact(λ _=>by assumption)|exact(λ _=>bn _ (λ _=>rfl) _)|exact(λ _=>cm (λ _=>rfl) _)|(intro h;cases h;done)|(intro _;rfl)|(intro _;exact ct _ (bn _ (λ _=>rfl) _))|exact iS _ (bn _ (λ _=>rfl) _)|refine Wn ?_ ?_|refine ew ?_ ?_|(intro _;refine cq ?_ ?_)|refine cq ?_ ?_|(intro _;refine fE ?_ ?_)|exact ct _ (bn _ (λ _=>rfl) _)|exact bn _ (λ _=>rfl) _):=h
def LZ(h:p:=by exact(Wn (D.sim.slw rfl (ao (by(simp <;>(omega)))|>.trans rfl)) (qr trivial))):=h
def DB (l:GU)(k:Nat)(hk:k=l.length)(hk2:k<=65535)(hl:∀i,bY (l.getD i lb))(T1 T2:a9)(hT1:T1=ay)(hT2:T2=aK)(hl1:T1.length=29)(hl2:T2.length=30)(hz1:bi T1)(hz2:bi T2)(W1 W2:Gw)(w1:aL 286 (bV T1 l k++[256])=W1)(w2:aL 30 (dl T2 l k)=W2):S0 134 [.sl Gd k 3 (l.flatMap aY)] [] (.tup [.ref 0 0 0 286 1,.ref 1 1 0 30 1]) [⟨W1.map nD, 3,Ga⟩,⟨W2.map nD, 3,Ga⟩]:=by
 subst w1 w2;exact LO l k hk hk2 hl T1 T2 hT1 hT2 hl1 hl2 hz1 hz2
def sx (W:Gw)(L:Nat)(hL:L=W.length)(hL2:L<=320)(hB:∀t,W.getD t lb<=1073741824)(m:Nat)(hm:1<=m/\m<=15)(hNm:(eU W L).length<=2^m)(T:Z4)(hT:EqV (bE W m) T):S0 136 [.sl Gd L 1 (W.map nD),nD m] [] (.ref 0 0 0 L 1) [⟨T.map dB, 5,Ga⟩]:=by
 obtain⟨hT⟩:=hT;subst hT;exact Ql W L hL hL2 hB m hm hNm
def wy (l:Z4)(L:Nat)(hL:L=l.length)(hL2:L<=320)(m:Nat)(hm:m<=L)(T:Nat)(hT:EqV (gO l m) T):S1 135 [.ref 0 0 0 L 1,nD m] [⟨l.map dB, 5,Ga⟩] (.ref 0 0 0 T 1) [⟨l.map dB, 5,Ga⟩]:=UK l L hL hL2 m hm T hT.h
def QD (S:Gw)(x:Nat)(h:x<19):((aL 19 S).map nD)[0+x*1]? =Ge (nD ((aL 19 S).getD x lb)):=yI (by rw[cN];exact h)
def L2 {n1 n2 n3:Nat}{x y z:Int}(hx:x=((n1-257:Nat):Int))(hy:y=((n2-1:Nat):Int))(hz:z=((n3-4:Nat):Int)):[D.v (.int .u32 x),D.v (.int .i64 5),D.v (.int .u32 y),D.v (.int .i64 5),D.v (.int .u32 z),D.v (.int .i64 4)]=([⟨n1-257,5⟩,⟨n2-1,5⟩,⟨n3-4,4⟩]:GR).flatMap aC:=by
 subst hx hy hz;rfl
def sy {X:Z4}{a:Nat}:(bif Ga&&(a*1).beq (X.map dB).length then X.map dB else WS (a*1) (WT 0 (X.map dB)))=(X.take a).map dB:=by
 rw[Wx,XR,Yx]
 cases h:(Ga&&a.beq (X.map dB).length)with
 |false=>rfl
 |true=>
  have e:a=(X.map dB).length:=Wk (by simpa using h);rw[cond_true,WN om]
def QE (l:Z4)(n:Nat)(hn:n=l.length)(hn2:n<=400)(T:nl)(hT:EqV (xw l) T):S0 137 [.sl Gd n 1 (l.map dB)] [] (.ref 0 0 0 T.length 2) [⟨T.flatMap dh, 187,Ga⟩]:=V5 l n hn hn2 T hT.h
def QF (l:GU)(k:Nat)(hk:k=l.length)(hk2:k<=65535)(hl:∀i,bY (l.getD i lb))(T1 T2:a9)(hT1:T1=ay)(hT2:T2=aK)(hl1:T1.length=29)(hl2:T2.length=30)(hz1:bi T1)(hz2:bi T2)(W1 W2:Gw)(A B:Z4)(n1 n2:Nat)(R0:nl)(W3:Gw)(C O:Z4)(n3:Nat)(D:DyV T1 T2 l k W1 W2 A B n1 n2 R0 W3 C O n3)(H3 H4 H5:GR)(hH3:H3=[⟨n1-257,5⟩,⟨n2-1,5⟩,⟨n3-4,4⟩])(hH4:cI H3 gJ (O.take n3) n3=H4)(hH5:cI H4 (iv (aa C)) R0 R0.length=H5):S0 102 [.sl Gd k 3 (l.flatMap aY)] [] (.tup [.ref 0 0 0 n1 1,.ref 1 1 0 n2 1,.ref 2 2 0 H5.length 2]) [⟨A.map dB, 5,Ga⟩,⟨B.map dB, 5,Ga⟩,⟨H5.flatMap aC, 169,Ga⟩]:=by
 obtain⟨lW1,lW2,bW1,bW2,iW1,iW2,lA,lB,g1,g2,lA2,lB2,cA,cB,mA,mB,oA,oB,lQ,bQ,lR,oR,lW3,bW3,iW3,lC,cC,mC,oC,lO,g3,lO2,bO⟩:=D.f hk hk2;obtain⟨w1,w2,eA,eB,et1,et2,eR,w3,eC,eO,et3⟩:=D;have lH3:H3.length=3:=by rw[hH3];rfl
 have lX3:=λ i h=>iu (H:=H3) (g:=gJ) (l:=O.take n3) (c:=1) (λ _=>rfl) i h
 have lH4:H4.length=3+n3:=by rw[<-hH4,lX3 n3 om,lH3,Zx]
 have lX4:=λ i h=>iu (H:=H4) (g:=iv (aa C)) (l:=R0) (c:=2) (λ _=>rfl) i h
 have lH5:H5.length=3+n3+2*R0.length:=by rw[<-hH5,lX4 R0.length om,lH4]
 have c15:=(mZ (by decide) cC).1;refine SpR Tryz.func102 rfl rfl rfl ⟨aH _,aH _,cV (λ _=>rfl) _,trivial⟩ rfl 1000 64 (λ R ok=>.C 5 134 Gd [] (.fn SM (@DB (l) (k) om om om (T1) (T2) aG aG om om om om (W1) (W2) aG aG))<|.L 9 136 Gd [] (Ga&&(Ga&&Wf 286 (v0 (wo nD W1))&&Ga&&ab (bif Ga&&V9 286 (v0 (wo nD W1))then wo nD W1 else wx 286 (Ag 0 (wo nD W1))))&&Ga) (by(simp <;>(omega))) ([Wu Ga 286 1 (bif Ga&&V9 286 (v0 (wo nD W1))then wo nD W1 else wx 286 (Ag 0 (wo nD W1))),zI 15]) LZ (.fn Q136 (@sx (W1) (286) om om om (15) (by(simp;done)) om (A) aG))<|.s 1<|.call 135 Ga [88] (Ga) wr ([Wb 0 0 0 286 1,zI 257]) _ (by exact(qr (qr trivial))) (ab (wo dB A)&&Ga) (by(simp;done)) _ _ _ (Ws (ap.of Tryz.func135 rfl rfl) (@wy (A) (286) om om (257) (by(simp;done)) (n1) aG))<|.L 3 136 Gd [] (Ga&&(Ga&&Wf 30 (v0 (wo nD W2))&&Ga&&ab (bif Ga&&V9 30 (v0 (wo nD W2))then wo nD W2 else wx 30 (Ag 0 (wo nD W2))))&&Ga) (by(simp <;>(omega))) ([Wu Ga 30 1 (bif Ga&&V9 30 (v0 (wo nD W2))then wo nD W2 else wx 30 (Ag 0 (wo nD W2))),zI 15]) LZ (.fn Q136 (@sx (W2) (30) om om om (15) (by(simp;done)) om (B) aG))<|.s 1<|.call 135 Ga [120] (Ga) wr ([Wb 0 0 0 30 1,zI 1]) _ (by exact(qr (qr trivial))) (ab (wo dB B)&&Ga) (by(simp;done)) _ _ _ (Ws (ap.of Tryz.func135 rfl rfl) (@wy (B) (30) om om (1) (by(simp;done)) (n2) aG))<|.K 5 (Ga&&(Ga&&Wf (0+n1*1) (v0 (wo dB A)))&&Ga&&Ga&&Wf ((0+n1)*1) 140737488355328) (by(simp <;>(omega)))<|.K 4 (Ga&&V9 (n1*1) (v0 (bif Ga&&V9 (n1*1) (v0 (wo dB A))then wo dB A else wx (n1*1) (Ag 0 (wo dB A))))&&Ga&&(Ga&&Wf (0+n2*1) (v0 (wo dB B)))&&Ga&&Ga&&Wf ((n1+n2)*1) 140737488355328) (by(rw[sy];simp only[Wj,lA2,lB,Wx,Xk,WM,WV,WE,Wh,XM];omega))<|.L 3 137 Gd [] (Ga&&(wB ((bif Ga&&V9 (n1*1) (v0 (wo dB A))then wo dB A else wx (n1*1) (Ag 0 (wo dB A)))++bif Ga&&V9 (n2*1) (v0 (wo dB B))then wo dB B else wx (n2*1) (Ag 0 (wo dB B))) (n1+n2) 1)&&Ga) (by unfold wB;(rw[sy,sy,<-W4];have e9:((A.take n1++B.take n2).map dB).length=n1+n2:=(by rw[Wj,lQ]);simp only[Wx,WE,e9,Xk,WM,cond_true,aR,WV,XM,Wl])) ([Wu (Wf 1 (n1+n2)) (n1+n2) 1 (bif Ga&&V9 ((n1+n2)*1) (v0 ((bif Ga&&V9 (n1*1) (v0 (wo dB A))then wo dB A else wx (n1*1) (Ag 0 (wo dB A)))++bif Ga&&V9 (n2*1) (v0 (wo dB B))then wo dB B else wx (n2*1) (Ag 0 (wo dB B))))then(bif Ga&&V9 (n1*1) (v0 (wo dB A))then wo dB A else wx (n1*1) (Ag 0 (wo dB A)))++bif Ga&&V9 (n2*1) (v0 (wo dB B))then wo dB B else wx (n2*1) (Ag 0 (wo dB B))else wx ((n1+n2)*1) (Ag 0 ((bif Ga&&V9 (n1*1) (v0 (wo dB A))then wo dB A else wx (n1*1) (Ag 0 (wo dB A)))++bif Ga&&V9 (n2*1) (v0 (wo dB B))then wo dB B else wx (n2*1) (Ag 0 (wo dB B)))))]) (by exact(Wn (D.sim.slw rfl (ao (by(rw[sy,sy,Wc,Wj,Wj,lA2,lB2,Wx,Xk];rfl))|>.trans (by(rw[sy,sy,<-W4])))) trivial)) (Ws (ap.of Tryz.func137 rfl rfl) (@QE (wx n1 A++wx n2 B) (n1+n2) om om (R0) aG))<|.M 5 240 240 (V8 [zI 0,zI 0,zI 0,zI 0,zI 0,zI 0,zI 0,zI 0,zI 0,zI 0,zI 0,zI 0,zI 0,zI 0,zI 0,zI 0,zI 0,zI 0,zI 0] 3 Ga) (V8 (wo nD (aL 19 (gv R0 0))) 3 Ga) (by(rw[PH,ye];rfl))<|BY T_ok ae Gd 148 0 (am Tryz.prog 102 0) (λ(x:(i:Nat)×'(hi:i<=R0.length)×'Unit)=>match x with|⟨i,hi,_⟩=>Wr [(7,Wb 0 0 0 n1 1),(8,Wb 8 8 0 n2 1),(10,Wb 16 16 0 (v0 R0) 2),(11,Wb 24 24 0 19 1),(12,nD i)] [⟨0,0,88,88,.b ⟨wo dB A,5,Ga⟩⟩,⟨8,8,120,120,.b ⟨wo dB B,5,Ga⟩⟩,⟨16,16,224,224,.b ⟨v8 dh R0,187,Ga⟩⟩,⟨24,24,240,240,.b ⟨(aL 19 (gv R0 i)).map nD,3,Ga⟩⟩] 32) (λ(x:(i:Nat)×'(hi:i<=R0.length)×'Unit)=>match x with|⟨i,hi,_⟩=>R0.length-i) [⟨Unit,.exit 0,λ()=>Wr [(7,Wb 0 0 0 n1 1),(8,Wb 8 8 0 n2 1),(10,Wb 16 16 0 (v0 R0) 2),(11,Wb 24 24 0 19 1)] [⟨0,0,88,88,.b ⟨wo dB A,5,Ga⟩⟩,⟨8,8,120,120,.b ⟨wo dB B,5,Ga⟩⟩,⟨16,16,224,224,.b ⟨v8 dh R0,187,Ga⟩⟩,⟨24,24,240,240,.b ⟨W3.map nD,3,Ga⟩⟩] 32⟩] 1000 64 (fun|⟨i,hi,_⟩,Q,ZB,ZD=>.B 5 ((i:Int)<(↑(v0 R0):Int)) (λ p0 Z9=>.K 4 (Ga&&Ao ((i:Int)<(↑(v0 R0):Int))) aG<|.O 5 ((v8 dh R0)[0+i*2+0]?) (zN (Rn.s (wm R0 i lb))) (cR (k:=2) (i:=i) (j:=0) (λ _=>rfl) om om rfl)<|.K 1 (Ga&&Ao ((↑(Rn.s (wm R0 i lb)):Int)<(↑19:Int))) K8<|.O 2 ((wo nD (aL 19 (gv R0 i)))[0+Rn.s (wm R0 i lb)*1]?) (nD (wm (aL 19 (gv R0 i)) (Rn.s (wm R0 i lb)) lb)) (@QD (gv R0 i) (R0.getD i lb).s CL)<|.I 2 ((↑(wm (aL 19 (gv R0 i)) (Rn.s (wm R0 i lb)) lb):Int)+1) CL<|.K 1 (Ga&&Ao ((↑(Rn.s (wm R0 i lb)):Int)<(↑19:Int))) K8<|.K 1 (Ga&&Wf (0+Rn.s (wm R0 i lb)*1+1) (v0 (wo nD (aL 19 (gv R0 i))))) (by(simp only[Wj,cN,WM,WV,Wx,WE];have z:=dE 19 (gv R0 i) (R0.getD i lb).s;have z2:=jX R0 i;have z3:=oR i;refine We ?_;omega))<|.lst (ac (wo nD (aL 19 (gv R0 i))) (0+Rn.s (wm R0 i lb)*1) [zI ((↑(wm (aL 19 (gv R0 i)) (Rn.s (wm R0 i lb)) lb):Int)+1)]) (ac (wo nD (aL 19 (gv R0 i))) (Rn.s (wm R0 i lb)) [zI ((↑(wm (aL 19 (gv R0 i)) (Rn.s (wm R0 i lb)) lb):Int)+1)]) (by(simp;done))<|.W 3 (i+1)<|.V 1 12 (zI (i+1)) (zN (i+1)) Ex<|.blk 24 24 (V8 (ac (wo nD (aL 19 (gv R0 i))) (Rn.s (wm R0 i lb)) [zI ((↑(wm (aL 19 (gv R0 i)) (Rn.s (wm R0 i lb)) lb):Int)+1)]) 3 Ga) (V8 (wo nD (aL 19 (gv R0 (i+1)))) 3 Ga) (by(refine aq ?_;rw[PJ (i:=i) om];exact oQ (by have z3:=oR i;omega) rfl rfl rfl))<|Aw ZB ⟨(i+1),om,⟨⟩⟩ PD [(0,0),(8,8),(16,16),(24,24)] mG) (λ p0 Z9=>.blk 24 24 (V8 (wo nD (aL 19 (gv R0 i))) 3 Ga) (V8 (wo nD W3) 3 Ga) (by(rw[show i=R0.length from by omega,PI,w3]))<|BO ZD 0 (():Unit) rfl [(0,0),(8,8),(16,16),(24,24)] mG)) (fun|⟨i,hi,_⟩=>by kernel_rfl) ⟨(0),om,⟨⟩⟩ [(88,88),(120,120),(224,224),(240,240)] mG (bB (fun|()=>.L 2 136 Gd [] (Ga&&(Ga&&Wf 19 (v0 (wo nD W3))&&Ga&&ab (bif Ga&&V9 19 (v0 (wo nD W3))then wo nD W3 else wx 19 (Ag 0 (wo nD W3))))&&Ga) (by(simp <;>(omega))) ([Wu Ga 19 1 (bif Ga&&V9 19 (v0 (wo nD W3))then wo nD W3 else wx 19 (Ag 0 (wo nD W3))),zI 7]) LZ (.fn Q136 (@sx (W3) (19) om om om (7) (by(simp;done)) om (C) aG))<|.C 2 138 Gd [] (.fn SN (@LU))<|.s 7<|.nils 15 96 1 5<|.blk 96 96 (V8 [] 5 Ga) (V8 (wo dB (iK C 0)) 5 Ga) (by(rw[IH];rfl))<|BY T_ok ae Gd 148 0 (am Tryz.prog 102 1) (λ(x:(i:Nat)×'(hi:i<=19)×'Unit)=>match x with|⟨i,hi,_⟩=>Wr [(7,Wb 0 0 0 n1 1),(8,Wb 8 8 0 n2 1),(10,Wb 16 16 0 (v0 R0) 2),(13,Wb 24 24 0 19 1),(14,WA 32 32 0),(15,(Wb 40 40 (0) (i) 1)),(16,nD i)] [⟨0,0,0,0,.b ⟨wo dB A,5,Ga⟩⟩,⟨8,8,8,8,.b ⟨wo dB B,5,Ga⟩⟩,⟨16,16,16,16,.b ⟨v8 dh R0,187,Ga⟩⟩,⟨24,24,40,40,.b ⟨wo dB C,5,Ga⟩⟩,⟨32,32,64,64,.b ⟨[zI 16,zI 17,zI 18,zI 0,zI 8,zI 7,zI 9,zI 6,zI 10,zI 5,zI 11,zI 4,zI 12,zI 3,zI 13,zI 2,zI 14,zI 1,zI 15],185,Gd⟩⟩,⟨40,40,96,96,.b ⟨(iK C i).map dB,5,Ga⟩⟩] 48) (λ(x:(i:Nat)×'(hi:i<=19)×'Unit)=>match x with|⟨i,hi,_⟩=>19-i) [⟨Unit,.exit 2,λ()=>Wr [(7,Wb 0 0 0 n1 1),(8,Wb 8 8 0 n2 1),(10,Wb 16 16 0 (v0 R0) 2),(13,Wb 24 24 0 19 1),(14,WA 32 32 0),(15,(Wb 40 40 (0) (19) 1))] [⟨0,0,0,0,.b ⟨wo dB A,5,Ga⟩⟩,⟨8,8,8,8,.b ⟨wo dB B,5,Ga⟩⟩,⟨16,16,16,16,.b ⟨v8 dh R0,187,Ga⟩⟩,⟨24,24,40,40,.b ⟨wo dB C,5,Ga⟩⟩,⟨32,32,64,64,.b ⟨[zI 16,zI 17,zI 18,zI 0,zI 8,zI 7,zI 9,zI 6,zI 10,zI 5,zI 11,zI 4,zI 12,zI 3,zI 13,zI 2,zI 14,zI 1,zI 15],185,Gd⟩⟩,⟨40,40,96,96,.b ⟨O.map dB,5,Ga⟩⟩] 48⟩] 1000 64 (fun|⟨i,hi,_⟩,Q,ZB,ZD=>.B 3 ((i:Int)<19) (λ p1 Z8=>.K 4 (Ga&&Ao ((i:Int)<(↑19:Int))) aG<|.O 3 ((wo nD qq)[0+i*1]?) (nD (Ad C (0+i*1))) (@IJ C (0+i*1) om)<|.K 1 (Ga&&Ao ((↑(Ad C (0+i*1)):Int)<(↑19:Int))) (by(simp;have y:=rR C i om;omega))<|.O 2 ((wo dB C)[0+Ad C (0+i*1)*1]?) (dB (wm C (0+Ad C (0+i*1)*1) lb)) (aj _ _ (by(simp;have y:=rR C i om;omega)))<|.K 3 (Ga&&V9 (i*1) (v0 (wo dB (iK C i)))&&Ga&&Ga&&Ga&&Ga&&Wf ((i+1)*1) 140737488355328) (by(rw[Wj,rP C (i:=i) (by(omega))];simp only[Wx,Xk,WM,WV];refine We ?_;(omega)))<|.W 4 (i+1)<|.V 1 16 (zI (i+1)) (zN (i+1)) Ex<|.blk 128 128 (V8 (wo dB (iK C i)++[cK (V7 (wm C (0+Ad C (0+i*1)*1) lb))]) 5 Ga) (V8 (wo dB (iK C (i+1))) 5 Ga) (by(refine aq ?_;rw[II C (i:=i) om,W4];simp only[rQ,Wx,WE];rfl))<|Aw ZB ⟨(i+1),om,⟨⟩⟩ (by show 19-(i+1)<19-i;clear ZB ZD;omega) [(0,0),(8,8),(16,16),(24,24),(32,32),(128,128)] mG) (λ p1 Z8=>.val 15 (Wb 40 40 0 i 1) (Wb 40 40 0 19 1) (by(simp;have z:=dE 19 (gv R0 i) (R0.getD i lb).s;have z2:=jX R0 i;have z3:=oR i;omega))<|.blk 40 40 (V8 (wo dB (iK C i)) 5 Ga) (V8 (wo dB O) 5 Ga) (by(rw[show i=19 from by omega,eO]))<|BO ZD 0 (():Unit) rfl [(0,0),(8,8),(16,16),(24,24),(32,32),(40,40)] mG)) (fun|⟨i,hi,_⟩=>by kernel_rfl) ⟨(0),om,⟨⟩⟩ [(0,0),(8,8),(16,16),(40,40),(64,64),(96,96)] mG (bB (fun|()=>.s 2<|.call 135 Ga [40] (Ga) wr ([Wb 0 0 0 19 1,zI 4]) _ (by exact(qr (qr trivial))) (ab (wo dB O)&&Ga) (by(simp;done)) _ _ _ (Ws (ap.of Tryz.func135 rfl rfl) (@wy (O) (19) om om (4) (by(simp;done)) (n3) aG))<|.W 5 (n1-257)<|.O 1 (au .u32 ((n1:Int)-257)) (uI (n1-257)) (ax om)<|.W 6 (n2-1)<|.O 1 (au .u32 ((n2:Int)-1)) (uI (n2-1)) (ax om)<|.W 6 (n3-4)<|.O 1 (au .u32 ((n3:Int)-4)) (uI (n3-4)) (ax om)<|.V 6 17 (Wb 192 192 0 3 2) (Wb 192 192 0 (v0 (cI H3 gJ (wx n3 O) 0)) 2) (by(rw[kK,lH3]))<|.blk 192 192 (V8 [uI (n1-257),zI 5,uI (n2-1),zI 5,uI (n3-4),zI 4] 169 Gd) (V8 (v8 aC (cI H3 gJ (wx n3 O) 0)) 169 Gd) (by(refine aq ?_;rw[kK,hH3];exact L2 om om om))<|BY T_ok ae Gd 148 0 (am Tryz.prog 102 2) (λ(x:(i:Nat)×'(hi:i<=n3)×'Unit)=>match x with|⟨i,hi,_⟩=>Wr [(7,Wb 0 0 0 n1 1),(8,Wb 8 8 0 n2 1),(10,Wb 16 16 0 (v0 R0) 2),(13,Wb 24 24 0 19 1),(15,Wb 32 32 0 n3 1),(17,(Wb 40 40 (0) ((cI H3 gJ (O.take n3) i).length) 2)),(18,nD i)] [⟨0,0,0,0,.b ⟨wo dB A,5,Ga⟩⟩,⟨8,8,8,8,.b ⟨wo dB B,5,Ga⟩⟩,⟨16,16,16,16,.b ⟨v8 dh R0,187,Ga⟩⟩,⟨24,24,24,24,.b ⟨wo dB C,5,Ga⟩⟩,⟨32,32,40,40,.b ⟨wo dB O,5,Ga⟩⟩,⟨40,40,192,192,.r ⟨(cI H3 gJ (O.take n3) i).flatMap aC,169,Ga⟩⟩] 48) (λ(x:(i:Nat)×'(hi:i<=n3)×'Unit)=>match x with|⟨i,hi,_⟩=>n3-i) [⟨Unit,.exit 4,λ()=>Wr [(7,Wb 0 0 0 n1 1),(8,Wb 8 8 0 n2 1),(10,Wb 16 16 0 (v0 R0) 2),(13,Wb 24 24 0 19 1),(15,Wb 32 32 0 n3 1),(17,(Wb 40 40 (0) (H4.length) 2))] [⟨0,0,0,0,.b ⟨wo dB A,5,Ga⟩⟩,⟨8,8,8,8,.b ⟨wo dB B,5,Ga⟩⟩,⟨16,16,16,16,.b ⟨v8 dh R0,187,Ga⟩⟩,⟨24,24,24,24,.b ⟨wo dB C,5,Ga⟩⟩,⟨32,32,40,40,.b ⟨wo dB O,5,Ga⟩⟩,⟨40,40,192,192,.r ⟨H4.flatMap aC,169,Ga⟩⟩] 48⟩] 1000 64 (fun|⟨i,hi,_⟩,Q,ZB,ZD=>.B 5 ((i:Int)<n3) (λ p2 Z7=>.K 4 (Ga&&Ao ((i:Int)<n3)) aG<|.O 2 ((wo dB O)[0+i*1]?) (dB (wm O (0+i*1) lb)) (aj _ _ om)<|.O 1 (au .u32 (↑(V7 (wm O (0+i*1) lb)):Int)) (ah (V7 (wm O (0+i*1) lb))) (ax (by(exact dN _ (by decide) (by decide))))<|.K 5 (Ga&&V9 (v0 (cI H3 gJ (wx n3 O) i)*2) (v0 (v8 aC (cI H3 gJ (wx n3 O) i)))&&Ga&&Ga&&Ga&&Ga&&Wf ((v0 (cI H3 gJ (wx n3 O) i)+1)*16) 140737488355328) (by(simp only[bM,lX3 i om,Xk,WM,WV];refine We ?_;(omega)))<|.W 4 (i+1)<|.V 1 17 (Wb 144 144 0 (v0 (cI H3 gJ (wx n3 O) i)+1) 2) (Wb 144 144 0 (v0 (cI H3 gJ (wx n3 O) (i+1))) 2) (by(rw[kL (i:=i) om,Wc];rfl))<|.val 18 (zI (i+1)) (zN (i+1)) Ex<|.blk 144 144 (V8 (v8 aC (cI H3 gJ (wx n3 O) i)++[ah (V7 (wm O (0+i*1) lb)),zI 3]) 169 Ga) (V8 (v8 aC (cI H3 gJ (wx n3 O) (i+1))) 169 Ga) (by(refine aq ?_;rw[kL (i:=i) om,cu];unfold gJ;rw[ym om,WE,Wx];rfl))<|Aw ZB ⟨(i+1),om,⟨⟩⟩ (by show n3-(i+1)<n3-i;clear ZB ZD;omega) [(0,0),(8,8),(16,16),(24,24),(32,32),(144,144)] mG) (λ p2 Z7=>.val 17 (Wb 40 40 0 (v0 (cI H3 gJ (wx n3 O) i)) 2) (Wb 40 40 0 (v0 H4) 2) (by(rw[show i=n3 from by omega,hH4]))<|.blk 40 40 (V8 (v8 aC (cI H3 gJ (wx n3 O) i)) 169 Ga) (V8 (v8 aC H4) 169 Ga) (by(rw[show i=n3 from by omega,hH4]))<|BO ZD 0 (():Unit) rfl [(0,0),(8,8),(16,16),(24,24),(32,32),(40,40)] mG)) (fun|⟨i,hi,_⟩=>by kernel_rfl) ⟨(0),om,⟨⟩⟩ [(0,0),(8,8),(16,16),(24,24),(40,40),(192,192)] mG (bB (fun|()=>.L 2 130 Gd [] (Ga&&(Ga&&Wf 19 (v0 (wo dB C))&&Ga&&ab (bif Ga&&V9 19 (v0 (wo dB C))then wo dB C else wx 19 (Ag 0 (wo dB C))))&&Ga) (by(simp <;>(omega))) ([Wu Ga 19 1 (bif Ga&&V9 19 (v0 (wo dB C))then wo dB C else wx 19 (Ag 0 (wo dB C)))]) (by exact(Wn (D.sim.slw rfl (ao (by(simp <;>(omega)))|>.trans rfl)) trivial)) (.fn NI (@BH (C) (19) om om))<|.V 2 17 (Wb 40 40 0 (v0 H4) 2) (Wb 40 40 0 (v0 (cI H4 (iv (aa C)) R0 0)) 2) (by(rw[kK]))<|.blk 40 40 (V8 (v8 aC H4) 169 Ga) (V8 (v8 aC (cI H4 (iv (aa C)) R0 0)) 169 Ga) (by(rw[kK]))<|BY T_ok ae Gd 148 0 (am Tryz.prog 102 3) (λ(x:(i:Nat)×'(hi:i<=R0.length)×'Unit)=>match x with|⟨i,hi,_⟩=>Wr [(7,Wb 0 0 0 n1 1),(8,Wb 8 8 0 n2 1),(10,Wb 16 16 0 (v0 R0) 2),(17,(Wb 24 24 (0) ((cI H4 (iv (aa C)) R0 i).length) 2)),(19,Wb 32 32 0 (v0 (aa C)) 2),(20,nD i)] [⟨0,0,0,0,.b ⟨wo dB A,5,Ga⟩⟩,⟨8,8,8,8,.b ⟨wo dB B,5,Ga⟩⟩,⟨16,16,16,16,.b ⟨v8 dh R0,187,Ga⟩⟩,⟨24,24,40,40,.b ⟨(cI H4 (iv (aa C)) R0 i).flatMap aC,169,Ga⟩⟩,⟨32,32,56,56,.b ⟨v8 dK (aa C),210,Ga⟩⟩] 40) (λ(x:(i:Nat)×'(hi:i<=R0.length)×'Unit)=>match x with|⟨i,hi,_⟩=>R0.length-i) [⟨Unit,.exit 6,λ()=>Wr [(7,Wb 0 0 0 n1 1),(8,Wb 8 8 0 n2 1),(10,Wb 16 16 0 (v0 R0) 2),(17,(Wb 24 24 (0) (H5.length) 2)),(19,Wb 32 32 0 (v0 (aa C)) 2)] [⟨0,0,0,0,.b ⟨wo dB A,5,Ga⟩⟩,⟨8,8,8,8,.b ⟨wo dB B,5,Ga⟩⟩,⟨16,16,16,16,.b ⟨v8 dh R0,187,Ga⟩⟩,⟨24,24,40,40,.b ⟨H5.flatMap aC,169,Ga⟩⟩,⟨32,32,56,56,.b ⟨v8 dK (aa C),210,Ga⟩⟩] 40⟩] 1000 64 (fun|⟨i,hi,_⟩,Q,ZB,ZD=>.B 5 ((i:Int)<(↑(v0 R0):Int)) (λ p3 Z6=>.K 3 (Ga&&Ao ((i:Int)<(↑(v0 R0):Int))) aG<|.O 5 ((v8 dh R0)[0+i*2+0]?) (zN (Rn.s (wm R0 i lb))) (cR (k:=2) (i:=i) (j:=0) (λ _=>rfl) om om rfl)<|.C 1 139 Gd [] (.fn SO (@V4 (Rn.s (wm R0 i lb)) CL))<|.K 13 (Ga&&Ao ((i:Int)<(↑(v0 R0):Int))) aG<|.O 5 ((v8 dh R0)[0+i*2+0]?) (zN (Rn.s (wm R0 i lb))) (cR (k:=2) (i:=i) (j:=0) (λ _=>rfl) om om rfl)<|.K 1 (Ga&&Ao ((↑(Rn.s (wm R0 i lb)):Int)<(↑(v0 (aa C)):Int))) K8<|.K 2 (Wf (0+Rn.s (wm R0 i lb)*2+2) (v0 (v8 dK (aa C)))) (by(rw[sg,mC];have y:=oR i;refine We ?_;(omega)))<|.lst (wx 2 (Ag (0+Rn.s (wm R0 i lb)*2) (v8 dK (aa C)))) ([ah (Wz (wm (aa C) (Rn.s (wm R0 i lb)) lb)),cK (Wg (wm (aa C) (Rn.s (wm R0 i lb)) lb))]) (aI (k:=2) (i:=Rn.s (wm R0 i lb)) (λ _=>rfl) CL om)<|.L 1 131 Gd [] (Ga) wr ([W6 [ah (Wz (wm (aa C) (Rn.s (wm R0 i lb)) lb)),cK (Wg (wm (aa C) (Rn.s (wm R0 i lb)) lb))]]) (by exact(qr trivial)) (.fn Q131 (@uN (wm (aa C) (Rn.s (wm R0 i lb)) lb) (by(exact(oC _).1)) (by(exact(oC _).2))))<|.K 3 (Ga&&Ao ((i:Int)<(↑(v0 R0):Int))) aG<|.O 5 ((v8 dh R0)[0+i*2+1]?) (zN (Rn.x (wm R0 i lb))) (cR (k:=2) (i:=i) (j:=1) (λ _=>rfl) om om rfl)<|.O 1 (au .u32 (↑(Rn.x (wm R0 i lb)):Int)) (uI ((↑(Rn.x (wm R0 i lb)):Int)%4294967296)) (aD _ _)<|.K 6 (Ga&&V9 (v0 (cI H4 (iv (aa C)) R0 i)*2) (v0 (v8 aC (cI H4 (iv (aa C)) R0 i)))&&Ga&&Ga&&Ga&&Ga&&Wf ((v0 (cI H4 (iv (aa C)) R0 i)+2)*16) 140737488355328) (by(simp only[bM,lX4 i om,Xk,WM,WV];refine We ?_;(omega)))<|.W 4 (i+1)<|.V 1 17 (Wb 312 312 0 (v0 (cI H4 (iv (aa C)) R0 i)+2) 2) (Wb 312 312 0 (v0 (cI H4 (iv (aa C)) R0 (i+1))) 2) (by(rw[kL (i:=i) om,Wc];rfl))<|.val 20 (zI (i+1)) (zN (i+1)) Ex<|.blk 312 312 (V8 (v8 aC (cI H4 (iv (aa C)) R0 i)++[ah (dz (Wz (wm (aa C) (Rn.s (wm R0 i lb)) lb)) (Wg (wm (aa C) (Rn.s (wm R0 i lb)) lb))),zN (Wg (wm (aa C) (Rn.s (wm R0 i lb)) lb)),uI ((↑(Rn.x (wm R0 i lb)):Int)%4294967296),zN (rb (Rn.s (wm R0 i lb)))]) 169 Ga) (V8 (v8 aC (cI H4 (iv (aa C)) R0 (i+1))) 169 Ga) (by(refine aq ?_;rw[kL (i:=i) om,cu];have y:=oR i;have y3:=xv (R0.getD i lb).s;have y5:(R0.getD i lb).x<128:=WX y.2 y3.1;rw[show((R0.getD i lb).x:Int)%4294967296=(((R0.getD i lb).x:Nat):Int)from by omega];rfl))<|Aw ZB ⟨(i+1),om,⟨⟩⟩ PD [(0,0),(8,8),(16,16),(312,312),(32,32)] mG) (λ p3 Z6=>.val 17 (Wb 24 24 0 (v0 (cI H4 (iv (aa C)) R0 i)) 2) (Wb 24 24 0 (v0 H5) 2) (by(rw[show i=R0.length from by omega,hH5]))<|.blk 24 24 (V8 (v8 aC (cI H4 (iv (aa C)) R0 i)) 169 Ga) (V8 (v8 aC H5) 169 Ga) (by(rw[show i=R0.length from by omega,hH5]))<|BO ZD 0 (():Unit) rfl [(0,0),(8,8),(16,16),(24,24),(32,32)] mG)) (fun|⟨i,hi,_⟩=>by kernel_rfl) ⟨(0),om,⟨⟩⟩ [(0,0),(8,8),(16,16),(40,40),(56,56)] mG (bB (fun|()=>.Y 6 [0,8,24] [0,8,24] (Xm [Wb 0 0 0 n1 1,Wb 1 1 0 n2 1,Wb 2 2 0 (v0 H5) 2]) [V8 (wo dB A) 5 Ga,V8 (wo dB B) 5 Ga,V8 (v8 aC H5) 169 Ga] ok))))))))) kr
def MS(h:p:=by(simp[aV,cY,bk];have y1:=hX 0;have y2:=ef (X:=X) (i:=0) (n:=X.length) om;have y5:=dm P;have y6:=ag (aU (pT P) (X.getD 0 lb).v (X.getD 0 lb).n);rw[aZ]at y6;have y7:=iH (t:=pT P) (v:=(X.getD 0 lb).v) (n:=(X.getD 0 lb).n) (w:=(((pT P).length+(X.getD 0 lb).n)/8)) rfl;have y8:=eg (A:=pA P) (t:=pT P) (v:=(X.getD 0 lb).v) (n:=(X.getD 0 lb).n) (w:=(((pT P).length+(X.getD 0 lb).n)/8)) (sC P) rfl;have y9:=dF P;have y4:=ag (pA P);omega)):=h
def UQ(h:p:=by(rw[bM];refine We ?_;(omega))):=h
def VH(h:p:=by(have y1:=hX 0;have y2:=ef (X:=X) (i:=0) (n:=X.length) om;have y5:=dm P;have y6:=ag (aU (pT P) (X.getD 0 lb).v (X.getD 0 lb).n);rw[aZ]at y6;have y7:=iH (t:=pT P) (v:=(X.getD 0 lb).v) (n:=(X.getD 0 lb).n) (w:=(((pT P).length+(X.getD 0 lb).n)/8)) rfl;have y8:=eg (A:=pA P) (t:=pT P) (v:=(X.getD 0 lb).v) (n:=(X.getD 0 lb).n) (w:=(((pT P).length+(X.getD 0 lb).n)/8)) (sC P) rfl;have y9:=dF P;have y4:=ag (pA P);simp only[Wj,Wi,WM,WV,Wh,Yh,XM];omega)):=h
def VI(h:p:=by(have y1:=hX 0;have y2:=ef (X:=X) (i:=0) (n:=X.length) om;have y5:=dm P;have y6:=ag (aU (pT P) (X.getD 0 lb).v (X.getD 0 lb).n);rw[aZ]at y6;have y7:=iH (t:=pT P) (v:=(X.getD 0 lb).v) (n:=(X.getD 0 lb).n) (w:=(((pT P).length+(X.getD 0 lb).n)/8)) rfl;have y8:=eg (A:=pA P) (t:=pT P) (v:=(X.getD 0 lb).v) (n:=(X.getD 0 lb).n) (w:=(((pT P).length+(X.getD 0 lb).n)/8)) (sC P) rfl;have y9:=dF P;have y4:=ag (pA P);omega)):=h
def VJ(h:p:=by(have q:=kT P (k:=((P.length:Int)/8).toNat) om;first|(simp;done)|simpa using q)):=h
def VK(h:p:=by(have y1:=hX i;have y2:=ef (X:=X) (i:=i) (n:=X.length) om;have y3:=cP (P:=P) (X:=X) i om;have y4:=congrArg v0 hB;rw[Wc]at y4;have y5:=ag A;have y6:=ag (aU t (X.getD i lb).v (X.getD i lb).n);rw[aZ]at y6;have y7:=iH (t:=t) (v:=(X.getD i lb).v) (n:=(X.getD i lb).n) (w:=((t.length+(X.getD i lb).n)/8)) rfl;have y8:=eg (A:=A) (t:=t) (v:=(X.getD i lb).v) (n:=(X.getD i lb).n) (w:=((t.length+(X.getD i lb).n)/8)) hA rfl;omega)):=h
def VL(h:p:=by(have y4:=congrArg v0 hB2;rw[Wc,cP X.length (Wl _)]at y4;have y5:=ag A2;have y6:=congrArg v0 hZ2.h;rw[Wi,Wy,ag]at y6;have y3:=cP (P:=P) (X:=X) X.length (Wl _);have y7:=ag (dW P X X.length);omega)):=h
structure OfV (a kd:Nat)(raw:Z4)(r:Nat)(l:GU)(k:Nat)(last:Bool)(X:GR):Prop where
 s:S0 65 [nD a,fK kd,.sl Gd r 1 (raw.map dB),.sl Gd k 3 (l.flatMap aY),bD last] [] (.ptr 0 0 0) [⟨[.ref 1 1 0 X.length 2], 123,Gd⟩,⟨X.flatMap aC, 126,Ga⟩]
 ok:∀i,(X.getD i lb).v<2^(X.getD i lb).n/\(X.getD i lb).n<=32
 len:X.length<=1000000
def UR (a kd:Nat)(raw:Z4)(r:Nat)(l:GU)(k:Nat)(last:Bool)(X:GR)(hO:OfV a kd raw r l k last X):S0 65 [nD a,fK kd,.sl Gd r 1 (raw.map dB),.sl Gd k 3 (l.flatMap aY),bD last] [] (.ptr 0 0 0) [⟨[.ref 1 1 0 X.length 2], 123,Gd⟩,⟨X.flatMap aC, 126,Ga⟩]:=hO.s
def US (P:GB)(kd:Nat)(raw:Z4)(r:Nat)(l:GU)(k:Nat)(last:Bool)(X:GR)(hO:OfV (P.length%8) kd raw r l k last X):S0 65 [iD ((P.length:Int)%8),fK kd,.sl Gd r 1 (raw.map dB),.sl Gd k 3 (l.flatMap aY),bD last] [] (.ptr 0 0 0) [⟨[.ref 1 1 0 X.length 2], 123,Gd⟩,⟨X.flatMap aC, 126,Ga⟩]:=by
 have h:=hO.s
 rwa [show nD (P.length%8)=iD ((P.length:Int)%8)from congrArg (λ z=>D.v (.int .i64 z)) om]at h
def dW (P:GB)(X:GR)(i:Nat):GB:=lk X (P++(X.take i).flatMap λ x=>nb x.v x.n)
def pa (P:GB)(X:GR)(i:Nat):dW P X i=P++(X.take i).flatMap λ x=>nb x.v x.n:=aM _ _
def yW (P:GB)(X:GR):dW P X 0=P:=by rw[pa];exact Xn _
def uS {P:GB}{X:GR}{i:Nat}(h:i<X.length):dW P X (i+1)=dW P X i++nb (X.getD i lb).v (X.getD i lb).n:=by
 have e1:X.take (i+1)=X.take i++[X.getD i lb]:=by
  rw[WW h,Wd,Wa h];rfl
 rw[pa,pa,e1,Xj,List.flatMap_singleton,WI]
def cP {P:GB}{X:GR}:∀i,i<=X.length->(dW P X i).length=P.length+kW X i
 |0,_=>by rw[yW];rfl
 |i+1,h=>by rw[uS om,Wc,ln,cP i om,kW,Nat.add_assoc]
def uT (X:GR)(i:Nat):∀k,kW X i<=kW X (i+k)
 |0=>Wl _
 |k+1=>Ww (uT X i k) (by show _<=kW X (i+k)+_;omega)
def ef {X:GR}{i n:Nat}(h:i<n):kW X i+(X.getD i lb).n<=kW X n:=by
 have:=uT X (i+1) (n-(i+1));rw[show i+1+(n-(i+1))=n from by omega]at this;exact this
structure PkE (Y:Z4)(l:GB):Prop where
 h:Y=pk l
def Ji (l:GB)(Y:Z4)(hY:PkE Y l)(m:Nat)(hm:m=Y.length)(v n:Nat)(hn:n<=32)(hv:v<2^n)(hl:l.length+n<=8388608):S0 74 [.agg [.sl Gd m 1 (Y.map dB),nD l.length],.v (.int .u32 (v:Int)),nD n] [] (.tup [.agg [.ref 0 0 0 (pk (aU l v n)).length 1,nD (l.length+n)],iD 0]) [⟨(pk (aU l v n)).map dB, 5,Ga⟩]:=by
 obtain⟨hY⟩:=hY;subst hY;exact N1 l m hm v n hn hv hl
def QG (P l:GB)(Y:Z4)(hY:PkE Y l)(hl8:l.length=P.length%8)(m:Nat)(hm:m=Y.length)(v n:Nat)(hn:n<=32)(hv:v<2^n)(hl:l.length+n<=8388608):S0 74 [.agg [.sl Gd m 1 (Y.map dB),iD ((P.length:Int)%8)],.v (.int .u32 (v:Int)),nD n] [] (.tup [.agg [.ref 0 0 0 (pk (aU l v n)).length 1,nD (l.length+n)],iD 0]) [⟨(pk (aU l v n)).map dB, 5,Ga⟩]:=by
 have h:=Ji l Y hY m hm v n hn hv hl
 rwa [show iD ((P.length:Int)%8)=nD l.length from congrArg (λ z=>D.v (.int .i64 z)) om]
def yX {k g o o' n n':Nat}{x:Int}{y:Nat}{t:TypeId}(h1:o=o')(h2:n=n')(h3:x=((y:Nat):Int)):(⟨[Wb k g o n 1,D.v (.int .i64 x)],t,Gd⟩:Blk)=⟨[Wb k g o' n' 1,nD y],t,Gd⟩:=by subst h1 h2 h3;rfl
section
variable {A t:List Bool} {v n w k:Nat}
def iH (hw:w=(t.length+n)/8):((aU t v n).take (8*w)).length=8*w/\((aU t v n).drop (8*w)).length=t.length+n-8*w/\t.length+n-8*w<8:=by
 rw[Wi,Wy,aZ];omega
def DC (hA:A.length%8=0)(hk:k=w)(hw:w=(t.length+n)/8):(pk A).map dB++Yg dB (WS k (pk (aU t v n)))=(pk (A++(aU t v n).take (8*w))).map dB:=by
 subst hk;rw[lj hA,W4,(kx (l:=aU t v n) (n:=k) (by rw[aZ];omega)).2]
def eg (hA:A.length%8=0)(hw:w=(t.length+n)/8):(pk (A++(aU t v n).take (8*w))).length=(pk A).length+w:=by
 rw[ag,ag,Wc,(iH hw).1];omega
def QH (hA:A.length%8=0)(hw:w=(t.length+n)/8):(A++(aU t v n).take (8*w)).length%8=0:=by
 rw[Wc,(iH hw).1];omega
def QI (hw:w=(t.length+n)/8):((aU t v n).drop (8*w)).length<8:=by
 rw[(iH (v:=v) hw).2.1];exact(iH (v:=v) hw).2.2
def QJ (hw:w=(t.length+n)/8):PkE (WS ((pk (aU t v n)).length-w) (WT w (pk (aU t v n)))) ((aU t v n).drop (8*w)):=⟨by rw[WN (by rw[Wy];exact Wl _)];exact(kx (l:=aU t v n) (n:=w) (by rw[aZ];omega)).1.symm⟩
def QK (hw:w=(t.length+n)/8):w<=(pk (aU t v n)).length:=by rw[ag,aZ];omega
def QL {P:GB}{X:GR}{i:Nat}(hB:A++t=dW P X i)(hi:i<X.length)(hv:v=(X.getD i lb).v)(hn:n=(X.getD i lb).n):(A++(aU t v n).take (8*w))++(aU t v n).drop (8*w)=dW P X (i+1):=by
 subst hv hn;rw[WI,Yp,jR,<-WI,hB,uS hi]
def L4 {B:GB}{o:Nat}{Z:Z4}(hA:A.length%8=0)(hB:A++t=B)(hZ:PkE (WS (Z.length-o) (WT o Z)) t):(pk A).map dB++Yg dB (WS (Z.length-o) (WT o Z))=(pk B).map dB:=by
 subst hB;rw[hZ.h,lj hA,W4]
def yY (B:Z4)(k:Nat):(bif Ga&&V9 (k*1) (Yg dB B).length then Yg dB B else WS (k*1) (WT 0 (Yg dB B)))=Yg dB (WS k B):=(ar B 0 (k*1)).trans (by simp)
def QM (B:Z4)(o k:Nat):(bif V9 o 0&&V9 (k*1) (Yg dB B).length then Yg dB B else WS (k*1) (WT o (Yg dB B)))=Yg dB (WS k (WT o B)):=(ar B o (k*1)).trans (by simp)
def yZ {n N:Nat}{x:Int}(h:x=n)(h2:n<=N):(aV (Ge x) z9 z9 N&&Ga)=true:=by
 subst h;simp[aV,cY,bk];omega
def GC {n n':Nat}{x:Int}{y:Nat}(h1:n=n')(h2:x=((y:Nat):Int)):Xm [W6 [Wb 0 0 0 n 1,D.v (.int .i64 x)],D.v (.int .i64 0)]=Xm [W6 [Wb 0 0 0 n' 1,nD y],iD 0]:=by subst h1 h2;rfl
end
def pA (P:GB):GB:=P.take (8*(P.length/8))
def pT (P:GB):GB:=P.drop (8*(P.length/8))
def dF (P:GB):(pA P).length=8*(P.length/8):=by unfold pA;rw[Wi];omega
def dm (P:GB):(pT P).length=P.length%8:=by unfold pT;rw[Wy];omega
def sC (P:GB):(pA P).length%8=0:=by rw[dF];omega
def V6 (P:GB):pA P++pT P=P:=Yp _ _
def kT (P:GB){k:Nat}(hk:k=P.length/8):PkE (WT k (pk P)) (pT P):=by
 subst hk;exact⟨(kx (l:=P) (n:=P.length/8) om).1.symm⟩
def Jj (P:GB){k:Nat}(hk:k=P.length/8):WS k (pk P)=pk (pA P):=by
 subst hk;exact(kx (l:=P) (n:=P.length/8) om).2.symm
def y0 (l:GU)(k:Nat)(hk:k=l.length)(hk2:k<=65535)(hl:∀i,mF (l.getD i lb))(raw:Z4)(r:Nat)(hr:r=raw.length)(hr2:r<=65535)(kd:Nat)(hkd:kd<=2):S0 64 [fK kd,.sl Gd r 1 (raw.map dB),.sl Gd k 3 (l.flatMap aY)] [] (iD 0) []:=by
 match kd,hkd with
 |0,_=>exact F5 l k hk hk2 hl raw r hr hr2
 |1,_=>exact F6 l k hk hk2 hl raw r hr hr2
 |2,_=>exact F7 l k hk hk2 hl raw r hr hr2
def DD (nn:Bool)(X:GR)(n:Nat)(hn:n=X.length)(hn2:n<=1000000)(hX:∀i,(X.getD i lb).v<2^(X.getD i lb).n/\(X.getD i lb).n<=32):S0 66 [.ep [.sl nn n 2 (X.flatMap aC)] 0] [] (nD (pm X)) []:=SpR Tryz.func66 rfl rfl rfl trivial rfl 1000 64 (λ R ok=>.s 11<|BY T_ok ae Gd 20 0 (am Tryz.prog 66 0) (λ(x:(i:Nat)×'(hi:i<=n)×'Unit)=>match x with|⟨i,hi,_⟩=>Wr [(2,nD (kW X i)),(8,Wu nn n 2 (v8 aC X)),(9,zN n),(10,nD i)] [] 0) (λ(x:(i:Nat)×'(hi:i<=n)×'Unit)=>match x with|⟨i,hi,_⟩=>n-i) [⟨Unit,.exit 0,λ()=>Wr [(2,nD (pm X)),(8,Wu nn n 2 (v8 aC X)),(9,zN n),(10,nD n)] [] 0⟩] 1000 64 (fun|⟨i,hi,_⟩,Q,ZB,ZD=>.B 2 ((i:Int)<n) (λ p0 Z9=>.K 1 (Ga&&Ao ((i:Int)<n)&&Ga) (by((refine aA ?_ ?_)<;>(repeat' (first|(refine aA ?_ ?_)|(with_reducible rfl)|(refine decide_eq_true ?_)|(refine We ?_)|(refine dg ?_)))<;>(omega)))<|.K 2 (Wf (i*2+2) (v0 (v8 aC X))) UQ<|.lst (wx 2 (Ag (i*2) (v8 aC X))) ([ah (Nm.v (wm X i lb)),zN (Nm.n (wm X i lb))]) (aI (k:=2) (i:=i) (λ _=>rfl) om om)<|.I 14 ((↑(kW X i):Int)+(↑(Nm.n (wm X i lb)):Int)) (by(have h8:=If (λ i=>(hX i).2) i;have h9:=hX i;omega))<|.W 3 (i+1)<|.V 1 2 (zI ((↑(kW X i):Int)+(↑(Nm.n (wm X i lb)):Int))) (zN (kW X (i+1))) (by(refine aF ?_;rw[kW];omega))<|.val 10 (zI (i+1)) (zN (i+1)) (by(refine aF ?_;(omega)))<|Aw ZB ⟨(i+1),om,⟨⟩⟩ (by show n-(i+1)<n-i;clear ZB ZD;omega) [] ro) (λ p0 Z9=>.val 2 (zN (kW X i)) (zN (pm X)) (by(rw[rv,<-hn,show i=n from by omega]))<|.val 10 (zN i) (zN n) (by(refine aF ?_;(omega)))<|BO ZD 0 (():Unit) rfl [] ro)) (fun|⟨i,hi,_⟩=>by kernel_rfl) ⟨(0),om,⟨⟩⟩ [] ro (bB (fun|()=>.Y 2 [] [] (zN (pm X)) [] ok))) kr
attribute [local simp] bM
def DE (P:GB)(m:Nat)(hm:m=(pk P).length)(kd:Nat)(raw:Z4)(r:Nat)(hr:r=raw.length)(hr2:r<=65535)(l:GU)(k:Nat)(hk:k=l.length)(hk2:k<=65535)(hl:∀i,mF (l.getD i lb))(last:Bool)(X:GR)(hO:OfV (P.length%8) kd raw r l k last X)(hN0:0<X.length)(hP:P.length+pm X<=8388608)(hkd:kd<=2):S0 57 [vW m P,fK kd,.sl Gd r 1 (raw.map dB),.sl Gd k 3 (l.flatMap aY),bD last] [] (.tup [.agg [.ref 0 0 0 (pk (dW P X X.length)).length 1,nD (dW P X X.length).length],iD 0]) [⟨(pk (dW P X X.length)).map dB, 5,Ga⟩]:=by
 have hX:=hO.ok;have hXl:=hO.len;have hPl:=ag P;have hS:=rv X;have hp0:=kT P (k:=((P.length:Int)/8).toNat) om;have hcl:ab (X.flatMap aC)=true:=cm (λ _=>rfl) X;refine SpR Tryz.func57 rfl rfl rfl ⟨aH _,trivial⟩ rfl 1000 64 (λ R ok=>.C 10 43 Gd [] (.fn JX (@oh (P) (m) om om))<|.C 9 64 Gd [] (.fn Vi (@y0 (l) (k) om om om (raw) (r) om om (kd) om))<|.O 13 (aX Wv (XG (↑(v0 P):Int) 8)) (zI ((↑(v0 P):Int)%8)) (aB (@bT  ((↑(v0 P):Int)) (8) om))<|.C 5 65 Gd [] (.fn Vj (@US (P) (kd) (raw) (r) (l) (k) (last) (X) aG))<|.L 10 66 Gd [] (Ga&&(Ga&&(wB (v8 aC X) (v0 X) 2&&Ga))&&Ga) (by unfold wB;(simp only[bM,WE,Xk,aa9,cond_true,WM,WV,hcl,XM];omega)) ([D.ep [Wu (Wf 1 (v0 X)) (v0 X) 2 (bif Ga&&V9 (v0 X*2) (v0 (v8 aC X))then v8 aC X else wx (v0 X*2) (Ag 0 (v8 aC X)))] 0]) (by exact(Wn (D.sim.of_eq (by(rw[bM];simp;done))) trivial)) (Ws (ap.of Tryz.func66 rfl rfl) (@DD (Wf 1 (v0 X)) (X) (v0 X) om om om))<|.W 2 ((↑(v0 P):Int)+(↑(pm X):Int))<|.F 2 (Ao (8388608<(↑(v0 P):Int)+(↑(pm X):Int))) MS<|.O 8 (aX Wv (Wo Wv (XD (↑(v0 P):Int) 8))) (zI ((↑(v0 P):Int)/8)) (aB (@aT  ((↑(v0 P):Int)) (8) om om))<|.K 9 (aV z9 (Ge ((↑(v0 P):Int)/8)) z9 m&&Ga) MS<|.L 1 56 Gd [] (Ga) wr ([Wu Gd (zL ((↑(v0 P):Int)/8)) 1 (wx (zL ((↑(v0 P):Int)/8)*1) (wo dB (pk P)))]) (by exact(Wn (D.sim.slw rfl (by(have q:=kT P (k:=((P.length:Int)/8).toNat) om;first|(simp;done)|simpa using q))) trivial)) (.fn HR (@iF (wx (zL ((↑(v0 P):Int)/8)) (pk P)) (zL ((↑(v0 P):Int)/8)) VH om))<|.K 10 (aV (Ge ((↑(v0 P):Int)/8)) z9 z9 m&&Ga) MS<|.O 8 (aX Wv (XG (↑(v0 P):Int) 8)) (zI ((↑(v0 P):Int)%8)) (aB (@bT  ((↑(v0 P):Int)) (8) om))<|.s 17<|.two (.E 2 (Ao (0<(↑(v0 X):Int))) MS<|.K 1 (Ga&&Ao (0<(↑(v0 X):Int))) MS<|.K 2 (Wf 2 (v0 (v8 aC X))) UQ<|.lst (wx 2 (Ag 0 (v8 aC X))) ([ah (Nm.v (wm X 0 lb)),zN (Nm.n (wm X 0 lb))]) (aI (k:=2) (i:=0) (λ _=>rfl) om om)<|.L 22 74 Gd [] (Ga) wr ([W6 [Wu Gd (m-zL ((↑(v0 P):Int)/8)) 1 (Ag (zL ((↑(v0 P):Int)/8)*1) (wo dB (pk P))),zI ((↑(v0 P):Int)%8)],ah (Nm.v (wm X 0 lb)),zN (Nm.n (wm X 0 lb))]) (by exact(Wn (D.sim.agg (Wn (D.sim.slw rfl (by(have q:=kT P (k:=((P.length:Int)/8).toNat) om;first|(simp;done)|simpa using q))) (qr trivial))) (qr (qr trivial)))) (Ws (ap.of Tryz.func74 rfl rfl) (@QG (P) (pT P) (Ag (zL ((↑(v0 P):Int)/8)) (pk P)) aG (by(exact dm P)) (m-zL ((↑(v0 P):Int)/8)) MS (Nm.v (wm X 0 lb)) (Nm.n (wm X 0 lb)) (by(exact(hX _).2)) (by(exact(hX _).1)) VI))<|.O 16 (aX Wv (Wo Wv (XD (↑(v0 (pT P)+Nm.n (wm X 0 lb)):Int) 8))) (zI ((↑(v0 (pT P)+Nm.n (wm X 0 lb)):Int)/8)) (aB (@aT  ((↑(v0 (pT P)+Nm.n (wm X 0 lb)):Int)) (8) VI om))<|.K 10 (aV z9 (Ge ((↑(v0 (pT P)+Nm.n (wm X 0 lb)):Int)/8)) z9 (v0 (pk (aU (pT P) (Nm.v (wm X 0 lb)) (Nm.n (wm X 0 lb)))))&&Ga) (by(have y1:=hX 0;have y2:=ef (X:=X) (i:=0) (n:=X.length) om;have y5:=dm P;have y6:=ag (aU (pT P) (X.getD 0 lb).v (X.getD 0 lb).n);rw[aZ]at y6;have y7:=iH (t:=pT P) (v:=(X.getD 0 lb).v) (n:=(X.getD 0 lb).n) (w:=(((pT P).length+(X.getD 0 lb).n)/8)) rfl;have y8:=eg (A:=pA P) (t:=pT P) (v:=(X.getD 0 lb).v) (n:=(X.getD 0 lb).n) (w:=(((pT P).length+(X.getD 0 lb).n)/8)) (sC P) rfl;have y9:=dF P;have y4:=ag (pA P);exact qp (n:=(((pT P).length+(X.getD 0 lb).n)/8)) om om))<|.K 1 (Ga&&V9 (zL ((↑(v0 P):Int)/8)*1) (v0 (wo dB (wx (zL ((↑(v0 P):Int)/8)) (pk P))))&&Ga&&(Ga&&Wf (0+zL ((↑(v0 (pT P)+Nm.n (wm X 0 lb)):Int)/8)*1) (v0 (wo dB (pk (aU (pT P) (Nm.v (wm X 0 lb)) (Nm.n (wm X 0 lb)))))))&&Ga&&Ga&&Wf ((zL ((↑(v0 P):Int)/8)+zL ((↑(v0 (pT P)+Nm.n (wm X 0 lb)):Int)/8))*1) 140737488355328) VH<|.K 10 (aV (Ge ((↑(v0 (pT P)+Nm.n (wm X 0 lb)):Int)/8)) z9 z9 (v0 (pk (aU (pT P) (Nm.v (wm X 0 lb)) (Nm.n (wm X 0 lb)))))&&Ga) (by(have y1:=hX 0;have y2:=ef (X:=X) (i:=0) (n:=X.length) om;have y5:=dm P;have y6:=ag (aU (pT P) (X.getD 0 lb).v (X.getD 0 lb).n);rw[aZ]at y6;have y7:=iH (t:=pT P) (v:=(X.getD 0 lb).v) (n:=(X.getD 0 lb).n) (w:=(((pT P).length+(X.getD 0 lb).n)/8)) rfl;have y8:=eg (A:=pA P) (t:=pT P) (v:=(X.getD 0 lb).v) (n:=(X.getD 0 lb).n) (w:=(((pT P).length+(X.getD 0 lb).n)/8)) (sC P) rfl;have y9:=dF P;have y4:=ag (pA P);exact yZ (n:=(((pT P).length+(X.getD 0 lb).n)/8)) om om))<|.O 8 (aX Wv (XG (↑(v0 (pT P)+Nm.n (wm X 0 lb)):Int) 8)) (zI ((↑(v0 (pT P)+Nm.n (wm X 0 lb)):Int)%8)) (aB (@bT  ((↑(v0 (pT P)+Nm.n (wm X 0 lb)):Int)) (8) om))<|.V 9 16 (Wb 640 640 0 (zL ((↑(v0 P):Int)/8)+zL ((↑(v0 (pT P)+Nm.n (wm X 0 lb)):Int)/8)) 1) (Wb 640 640 0 (v0 (pk (pA P++wx (8*((v0 (pT P)+Nm.n (wm X 0 lb))/8)) (aU (pT P) (Nm.v (wm X 0 lb)) (Nm.n (wm X 0 lb)))))) 1) (by(refine congrArg (λ n=>Wb _ _ 0 n 1) ?_;have y1:=hX 0;have y2:=ef (X:=X) (i:=0) (n:=X.length) om;have y5:=dm P;have y6:=ag (aU (pT P) (X.getD 0 lb).v (X.getD 0 lb).n);rw[aZ]at y6;have y7:=iH (t:=pT P) (v:=(X.getD 0 lb).v) (n:=(X.getD 0 lb).n) (w:=(((pT P).length+(X.getD 0 lb).n)/8)) rfl;have y8:=eg (A:=pA P) (t:=pT P) (v:=(X.getD 0 lb).v) (n:=(X.getD 0 lb).n) (w:=(((pT P).length+(X.getD 0 lb).n)/8)) (sC P) rfl;have y9:=dF P;have y4:=ag (pA P);omega))<|.blk 384 384 (V8 [Wb 528 528 (0+zL ((↑(v0 (pT P)+Nm.n (wm X 0 lb)):Int)/8)*1) (v0 (pk (aU (pT P) (Nm.v (wm X 0 lb)) (Nm.n (wm X 0 lb))))-zL ((↑(v0 (pT P)+Nm.n (wm X 0 lb)):Int)/8)) 1,zI ((↑(v0 (pT P)+Nm.n (wm X 0 lb)):Int)%8)] 26 Gd) (V8 [Wb 528 528 ((v0 (pT P)+Nm.n (wm X 0 lb))/8) (v0 (pk (aU (pT P) (Nm.v (wm X 0 lb)) (Nm.n (wm X 0 lb))))-(v0 (pT P)+Nm.n (wm X 0 lb))/8) 1,zN (v0 (Ag (8*((v0 (pT P)+Nm.n (wm X 0 lb))/8)) (aU (pT P) (Nm.v (wm X 0 lb)) (Nm.n (wm X 0 lb)))))] 26 Gd) (by(refine yX ?_ ?_ ?_<;>(have y1:=hX 0;have y2:=ef (X:=X) (i:=0) (n:=X.length) om;have y5:=dm P;have y6:=ag (aU (pT P) (X.getD 0 lb).v (X.getD 0 lb).n);rw[aZ]at y6;have y7:=iH (t:=pT P) (v:=(X.getD 0 lb).v) (n:=(X.getD 0 lb).n) (w:=(((pT P).length+(X.getD 0 lb).n)/8)) rfl;have y8:=eg (A:=pA P) (t:=pT P) (v:=(X.getD 0 lb).v) (n:=(X.getD 0 lb).n) (w:=(((pT P).length+(X.getD 0 lb).n)/8)) (sC P) rfl;have y9:=dF P;have y4:=ag (pA P);omega)))<|.blk 640 640 (V8 (wo dB (wx (zL ((↑(v0 P):Int)/8)) (pk P))++bif Ga&&V9 (zL ((↑(v0 (pT P)+Nm.n (wm X 0 lb)):Int)/8)*1) (v0 (wo dB (pk (aU (pT P) (Nm.v (wm X 0 lb)) (Nm.n (wm X 0 lb))))))then wo dB (pk (aU (pT P) (Nm.v (wm X 0 lb)) (Nm.n (wm X 0 lb))))else wx (zL ((↑(v0 (pT P)+Nm.n (wm X 0 lb)):Int)/8)*1) (Ag 0 (wo dB (pk (aU (pT P) (Nm.v (wm X 0 lb)) (Nm.n (wm X 0 lb))))))) 5 Ga) (V8 (wo dB (pk (pA P++wx (8*((v0 (pT P)+Nm.n (wm X 0 lb))/8)) (aU (pT P) (Nm.v (wm X 0 lb)) (Nm.n (wm X 0 lb)))))) 5 Ga) (by(rw[Jj P om,yY];refine aq (DC (sC P) ?_ rfl);omega))<|BY T_ok ae Gd 113 0 (am Tryz.prog 57 0) (λ(x:(i:Nat)×'(A:GB)×'(t:GB)×'(Z:Z4)×'(o:Nat)×'(hi:1<=i/\i<=X.length)×'(hA:A.length%8=0)×'(ht:t.length<8)×'(hB:A++t=dW P X i)×'(hZ:PkE (wx (Z.length-o) (Ag o Z)) t)×'(ho:o<=Z.length)×'Unit)=>match x with|⟨i,A,t,Z,o,hi,hA,ht,hB,hZ,ho,_⟩=>Wr [(10,WA 0 0 0),(16,(Wb 32 32 (0) ((pk A).length) 1)),(17,WA 16 16 0),(69,Wb 8 8 0 (v0 X) 2),(70,zN (v0 X)),(71,nD i)] [⟨0,0,8,8,.b ⟨[zS,zI 0],26,Gd⟩⟩,⟨8,8,177,177,.b ⟨v8 aC X,126,Ga⟩⟩,⟨16,16,384,384,.b ⟨[(Wb 24 24 (o) (Z.length-o) 1),nD t.length],26,Gd⟩⟩,⟨24,24,528,528,.b ⟨Z.map dB,5,Ga⟩⟩,⟨32,32,640,640,.b ⟨(pk A).map dB,5,Ga⟩⟩] 40) (λ(x:(i:Nat)×'(A:GB)×'(t:GB)×'(Z:Z4)×'(o:Nat)×'(hi:1<=i/\i<=X.length)×'(hA:A.length%8=0)×'(ht:t.length<8)×'(hB:A++t=dW P X i)×'(hZ:PkE (wx (Z.length-o) (Ag o Z)) t)×'(ho:o<=Z.length)×'Unit)=>match x with|⟨i,A,t,Z,o,hi,hA,ht,hB,hZ,ho,_⟩=>X.length-i) [⟨(A2:GB)×'(t2:GB)×'(Z2:Z4)×'(o2:Nat)×'(hA2:A2.length%8=0)×'(hB2:A2++t2=dW P X X.length)×'(hZ2:PkE (wx (Z2.length-o2) (Ag o2 Z2)) t2)×'(ho2:o2<=Z2.length)×'Unit,.exit 0,λ x=>match x with|⟨A2,t2,Z2,o2,hA2,hB2,hZ2,ho2,_⟩=>Wr [(10,WA 0 0 0),(16,(Wb 32 32 (0) ((pk A2).length) 1)),(17,WA 16 16 0),(69,Wb 8 8 0 (v0 X) 2),(70,zN (v0 X))] [⟨0,0,8,8,.b ⟨[zS,zI 0],26,Gd⟩⟩,⟨8,8,177,177,.b ⟨v8 aC X,126,Ga⟩⟩,⟨16,16,384,384,.b ⟨[(Wb 24 24 (o2) (Z2.length-o2) 1),nD t2.length],26,Gd⟩⟩,⟨24,24,528,528,.b ⟨Z2.map dB,5,Ga⟩⟩,⟨32,32,640,640,.b ⟨(pk A2).map dB,5,Ga⟩⟩] 40⟩] 1000 64 (fun|⟨i,A,t,Z,o,hi,hA,ht,hB,hZ,ho,_⟩,Q,ZB,ZD=>.B 2 ((i:Int)<(↑(v0 X):Int)) (λ p0 Z9=>.K 1 (Ga&&Ao ((i:Int)<(↑(v0 X):Int))) aG<|.K 2 (Wf (0+i*2+2) (v0 (v8 aC X))) UQ<|.lst (wx 2 (Ag (0+i*2) (v8 aC X))) ([ah (Nm.v (wm X i lb)),zN (Nm.n (wm X i lb))]) (aI (k:=2) (i:=i) (λ _=>rfl) om om)<|.L 22 74 Gd [] (Ga&&(Ga&&Wf (o+(v0 Z-o)*1) (v0 (wo dB Z))&&Ga&&ab (bif V9 o 0&&V9 ((v0 Z-o)*1) (v0 (wo dB Z))then wo dB Z else wx ((v0 Z-o)*1) (Ag o (wo dB Z))))&&Ga&&Ga) (by(simp[aV,cY,bk];have y1:=hX i;have y2:=ef (X:=X) (i:=i) (n:=X.length) om;have y3:=cP (P:=P) (X:=X) i om;have y4:=congrArg v0 hB;rw[Wc]at y4;have y5:=ag A;have y6:=ag (aU t (X.getD i lb).v (X.getD i lb).n);rw[aZ]at y6;have y7:=iH (t:=t) (v:=(X.getD i lb).v) (n:=(X.getD i lb).n) (w:=((t.length+(X.getD i lb).n)/8)) rfl;have y8:=eg (A:=A) (t:=t) (v:=(X.getD i lb).v) (n:=(X.getD i lb).n) (w:=((t.length+(X.getD i lb).n)/8)) hA rfl;omega)) ([W6 [Wu (Wf 1 (v0 Z-o)) (v0 Z-o) 1 (bif V9 o 0&&V9 ((v0 Z-o)*1) (v0 (wo dB Z))then wo dB Z else wx ((v0 Z-o)*1) (Ag o (wo dB Z))),zN (v0 t)],ah (Nm.v (wm X i lb)),zN (Nm.n (wm X i lb))]) (by exact(Wn (D.sim.agg (Wn (D.sim.slw rfl ((ar (Z) (o) ((v0 Z-o)*1)).trans (by(have q:=kT P (k:=((P.length:Int)/8).toNat) om;first|(simp;done)|simpa using q)))) (qr trivial))) (qr (qr trivial)))) (Ws (ap.of Tryz.func74 rfl rfl) (@Ji (t) (wx (v0 Z-o) (Ag o Z)) om (v0 Z-o) VJ (Nm.v (wm X i lb)) (Nm.n (wm X i lb)) (by(exact(hX _).2)) (by(exact(hX _).1)) VK))<|.O 16 (aX Wv (Wo Wv (XD (↑(v0 t+Nm.n (wm X i lb)):Int) 8))) (zI ((↑(v0 t+Nm.n (wm X i lb)):Int)/8)) (aB (@aT  ((↑(v0 t+Nm.n (wm X i lb)):Int)) (8) VK om))<|.K 10 (aV z9 (Ge ((↑(v0 t+Nm.n (wm X i lb)):Int)/8)) z9 (v0 (pk (aU t (Nm.v (wm X i lb)) (Nm.n (wm X i lb)))))&&Ga) (by(have y1:=hX i;have y2:=ef (X:=X) (i:=i) (n:=X.length) om;have y3:=cP (P:=P) (X:=X) i om;have y4:=congrArg v0 hB;rw[Wc]at y4;have y5:=ag A;have y6:=ag (aU t (X.getD i lb).v (X.getD i lb).n);rw[aZ]at y6;have y7:=iH (t:=t) (v:=(X.getD i lb).v) (n:=(X.getD i lb).n) (w:=((t.length+(X.getD i lb).n)/8)) rfl;have y8:=eg (A:=A) (t:=t) (v:=(X.getD i lb).v) (n:=(X.getD i lb).n) (w:=((t.length+(X.getD i lb).n)/8)) hA rfl;exact qp (n:=((t.length+(X.getD i lb).n)/8)) om om))<|.K 1 (Ga&&V9 (v0 (pk A)*1) (v0 (wo dB (pk A)))&&Ga&&(Ga&&Wf (0+zL ((↑(v0 t+Nm.n (wm X i lb)):Int)/8)*1) (v0 (wo dB (pk (aU t (Nm.v (wm X i lb)) (Nm.n (wm X i lb)))))))&&Ga&&Ga&&Wf ((v0 (pk A)+zL ((↑(v0 t+Nm.n (wm X i lb)):Int)/8))*1) 140737488355328) (by(have y1:=hX i;have y2:=ef (X:=X) (i:=i) (n:=X.length) om;have y3:=cP (P:=P) (X:=X) i om;have y4:=congrArg v0 hB;rw[Wc]at y4;have y5:=ag A;have y6:=ag (aU t (X.getD i lb).v (X.getD i lb).n);rw[aZ]at y6;have y7:=iH (t:=t) (v:=(X.getD i lb).v) (n:=(X.getD i lb).n) (w:=((t.length+(X.getD i lb).n)/8)) rfl;have y8:=eg (A:=A) (t:=t) (v:=(X.getD i lb).v) (n:=(X.getD i lb).n) (w:=((t.length+(X.getD i lb).n)/8)) hA rfl;simp only[Wj,Wi,WM,WV,Wh,Yh,XM];omega))<|.K 10 (aV (Ge ((↑(v0 t+Nm.n (wm X i lb)):Int)/8)) z9 z9 (v0 (pk (aU t (Nm.v (wm X i lb)) (Nm.n (wm X i lb)))))&&Ga) (by(have y1:=hX i;have y2:=ef (X:=X) (i:=i) (n:=X.length) om;have y3:=cP (P:=P) (X:=X) i om;have y4:=congrArg v0 hB;rw[Wc]at y4;have y5:=ag A;have y6:=ag (aU t (X.getD i lb).v (X.getD i lb).n);rw[aZ]at y6;have y7:=iH (t:=t) (v:=(X.getD i lb).v) (n:=(X.getD i lb).n) (w:=((t.length+(X.getD i lb).n)/8)) rfl;have y8:=eg (A:=A) (t:=t) (v:=(X.getD i lb).v) (n:=(X.getD i lb).n) (w:=((t.length+(X.getD i lb).n)/8)) hA rfl;exact yZ (n:=((t.length+(X.getD i lb).n)/8)) om om))<|.O 8 (aX Wv (XG (↑(v0 t+Nm.n (wm X i lb)):Int) 8)) (zI ((↑(v0 t+Nm.n (wm X i lb)):Int)%8)) (aB (@bT  ((↑(v0 t+Nm.n (wm X i lb)):Int)) (8) om))<|.W 7 (i+1)<|.V 1 16 (Wb 232 232 0 (v0 (pk A)+zL ((↑(v0 t+Nm.n (wm X i lb)):Int)/8)) 1) (Wb 232 232 0 (v0 (pk (A++wx (8*((v0 t+Nm.n (wm X i lb))/8)) (aU t (Nm.v (wm X i lb)) (Nm.n (wm X i lb)))))) 1) (by(refine congrArg (λ n=>Wb _ _ 0 n 1) ?_;have y1:=hX i;have y2:=ef (X:=X) (i:=i) (n:=X.length) om;have y3:=cP (P:=P) (X:=X) i om;have y4:=congrArg v0 hB;rw[Wc]at y4;have y5:=ag A;have y6:=ag (aU t (X.getD i lb).v (X.getD i lb).n);rw[aZ]at y6;have y7:=iH (t:=t) (v:=(X.getD i lb).v) (n:=(X.getD i lb).n) (w:=((t.length+(X.getD i lb).n)/8)) rfl;have y8:=eg (A:=A) (t:=t) (v:=(X.getD i lb).v) (n:=(X.getD i lb).n) (w:=((t.length+(X.getD i lb).n)/8)) hA rfl;omega))<|.val 71 (zI (i+1)) (zN (i+1)) VJ<|.blk 16 16 (V8 [Wb 120 120 (0+zL ((↑(v0 t+Nm.n (wm X i lb)):Int)/8)*1) (v0 (pk (aU t (Nm.v (wm X i lb)) (Nm.n (wm X i lb))))-zL ((↑(v0 t+Nm.n (wm X i lb)):Int)/8)) 1,zI ((↑(v0 t+Nm.n (wm X i lb)):Int)%8)] 26 Gd) (V8 [Wb 120 120 ((v0 t+Nm.n (wm X i lb))/8) (v0 (pk (aU t (Nm.v (wm X i lb)) (Nm.n (wm X i lb))))-(v0 t+Nm.n (wm X i lb))/8) 1,zN (v0 (Ag (8*((v0 t+Nm.n (wm X i lb))/8)) (aU t (Nm.v (wm X i lb)) (Nm.n (wm X i lb)))))] 26 Gd) (by(refine yX ?_ ?_ ?_<;>(have y1:=hX i;have y2:=ef (X:=X) (i:=i) (n:=X.length) om;have y3:=cP (P:=P) (X:=X) i om;have y4:=congrArg v0 hB;rw[Wc]at y4;have y5:=ag A;have y6:=ag (aU t (X.getD i lb).v (X.getD i lb).n);rw[aZ]at y6;have y7:=iH (t:=t) (v:=(X.getD i lb).v) (n:=(X.getD i lb).n) (w:=((t.length+(X.getD i lb).n)/8)) rfl;have y8:=eg (A:=A) (t:=t) (v:=(X.getD i lb).v) (n:=(X.getD i lb).n) (w:=((t.length+(X.getD i lb).n)/8)) hA rfl;omega)))<|.blk 232 232 (V8 (wo dB (pk A)++bif Ga&&V9 (zL ((↑(v0 t+Nm.n (wm X i lb)):Int)/8)*1) (v0 (wo dB (pk (aU t (Nm.v (wm X i lb)) (Nm.n (wm X i lb))))))then wo dB (pk (aU t (Nm.v (wm X i lb)) (Nm.n (wm X i lb))))else wx (zL ((↑(v0 t+Nm.n (wm X i lb)):Int)/8)*1) (Ag 0 (wo dB (pk (aU t (Nm.v (wm X i lb)) (Nm.n (wm X i lb))))))) 5 Ga) (V8 (wo dB (pk (A++wx (8*((v0 t+Nm.n (wm X i lb))/8)) (aU t (Nm.v (wm X i lb)) (Nm.n (wm X i lb)))))) 5 Ga) (by(rw[yY];refine aq (DC hA ?_ rfl);omega))<|Aw ZB ⟨(i+1),(A++(aU t (X.getD i lb).v (X.getD i lb).n).take (8*((t.length+(X.getD i lb).n)/8))),((aU t (X.getD i lb).v (X.getD i lb).n).drop (8*((t.length+(X.getD i lb).n)/8))),(pk (aU t (X.getD i lb).v (X.getD i lb).n)),(((t.length+(X.getD i lb).n)/8)),om,(by(exact QH hA rfl)),(by(exact QI rfl)),(by(exact QL hB om rfl rfl)),(by(exact QJ rfl)),(by(exact QK rfl)),⟨⟩⟩ (by show v0 X-(i+1)<v0 X-i;clear ZB ZD;omega) [(0,0),(8,8),(16,16),(120,120),(232,232)] ro) (λ p0 Z9=>(BO ZD 0 (⟨(A),(t),(Z),(o),om,(by(rw[hB,show i=X.length from by omega])),om,om,⟨⟩⟩:(A2:GB)×'(t2:GB)×'(Z2:Z4)×'(o2:Nat)×'(hA2:A2.length%8=0)×'(hB2:A2++t2=dW P X X.length)×'(hZ2:PkE (wx (Z2.length-o2) (Ag o2 Z2)) t2)×'(ho2:o2<=Z2.length)×'Unit) rfl [(0,0),(8,8),(16,16),(24,24),(32,32)] ro))) (fun|⟨i,A,t,Z,o,hi,hA,ht,hB,hZ,ho,_⟩=>by kernel_rfl) ⟨(1),(pA P++(aU (pT P) (X.getD 0 lb).v (X.getD 0 lb).n).take (8*(((pT P).length+(X.getD 0 lb).n)/8))),((aU (pT P) (X.getD 0 lb).v (X.getD 0 lb).n).drop (8*(((pT P).length+(X.getD 0 lb).n)/8))),(pk (aU (pT P) (X.getD 0 lb).v (X.getD 0 lb).n)),((((pT P).length+(X.getD 0 lb).n)/8)),om,(by(exact QH (sC P) rfl)),(by(exact QI rfl)),(by(exact QL (A:=pA P) (t:=pT P) (by rw[V6,yW]) om rfl rfl)),(by(exact QJ rfl)),(by(exact QK rfl)),⟨⟩⟩ [(8,8),(177,177),(384,384),(528,528),(640,640)] ro (bB (fun|⟨A2,t2,Z2,o2,hA2,hB2,hZ2,ho2,_⟩=>.K 9 (Ga&&V9 (v0 (pk A2)*1) (v0 (wo dB (pk A2)))&&Ga&&(Ga&&Wf (o2+(v0 Z2-o2)*1) (v0 (wo dB Z2)))&&Ga&&Ga&&Wf ((v0 (pk A2)+(v0 Z2-o2))*1) 140737488355328) (by(have y4:=congrArg v0 hB2;rw[Wc,cP X.length (Wl _)]at y4;have y5:=ag A2;have y6:=congrArg v0 hZ2.h;rw[Wi,Wy,ag]at y6;have y3:=cP (P:=P) (X:=X) X.length (Wl _);have y7:=ag (dW P X X.length);simp only[Wj,Wi,WM,WV,Wh,Yh,XM];omega))<|.I 4 (8*(↑(v0 (pk A2)):Int)) VL<|.I 8 (8*(↑(v0 (pk A2)):Int)+(↑(v0 t2):Int)) VL<|.U 9 [64] [64] (Xm [W6 [Wb 0 0 0 (v0 (pk A2)+(v0 Z2-o2)) 1,zI (8*(↑(v0 (pk A2)):Int)+(↑(v0 t2):Int))],zI 0]) [V8 (wo dB (pk A2)++bif V9 o2 0&&V9 ((v0 Z2-o2)*1) (v0 (wo dB Z2))then wo dB Z2 else wx ((v0 Z2-o2)*1) (Ag o2 (wo dB Z2))) 5 Ga] R (ok _ _ (by(have y4:=congrArg v0 hB2;rw[Wc,cP X.length (Wl _)]at y4;have y5:=ag A2;have y6:=congrArg v0 hZ2.h;rw[Wi,Wy,ag]at y6;have y3:=cP (P:=P) (X:=X) X.length (Wl _);have y7:=ag (dW P X X.length);refine GC ?_ ?_<;>(first|omega|(rw[show IntKind.i64.wrap (8*((pk A2).length:Int))=8*((pk A2).length:Int)from NU om,NU om];omega)))) (by(rw[QM];exact congrArg (λ z=>[V8 z 5 Ga]) (L4 hA2 hB2 hZ2))))))) .nil) kr
def L5(h:p:=by(have h9:=hX i;have h8:=cP (P:=P) (X:=X) i om;have h7:=wz (λ i=>(hX i).2) i;omega)):=h
def wz {X:GR}(h:∀i,(X.getD i lb).n<=32):∀i,kW X i<=32*i
 |0=>Wl _
 |i+1=>by rw[kW];have:=wz h i;have:=h i;omega
def QN (X:GR)(h:0<X.length):(X.flatMap aC)[0]? =Ge (cM (X.getD 0 lb).v):=by
 cases X with
 |nil=>simp at h
 |cons x r=>rfl
def QO (X:GR)(h:0<X.length):(X.flatMap aC)[1]? =Ge (nD (X.getD 0 lb).n):=by
 cases X with
 |nil=>simp at h
 |cons x r=>rfl
def QP {P:GB}{X:GR}(h:0<X.length):aU P (X.getD 0 lb).v (X.getD 0 lb).n=dW P X 1:=by
 rw[uS h,yW,jR]
def QQ {P:GB}{X:GR}{i:Nat}(h:i<X.length):aU (dW P X i) (X.getD i lb).v (X.getD i lb).n=dW P X (i+1):=by
 rw[uS h,jR]
def L6 {P:GB}{X:GR}{i:Nat}(h:i<X.length){z:Nat}(hz:z=(dW P X i).length):z+(X.getD i lb).n=(dW P X (i+1)).length:=by
 rw[hz,uS h,Wc,ln]
def UT (P:GB)(m:Nat)(hm:m=(pk P).length)(hP:P.length<=5000000)(X:GR)(n:Nat)(hn:n=X.length)(hn2:n<=100000)(hn0:0<n)(hX:∀i,(X.getD i lb).v<4294967296/\(X.getD i lb).n<=32):S0 78 [vW m P,.sl Gd n 2 (X.flatMap aC)] [] (.agg [.ref 0 0 0 (pk (dW P X n)).length 1,nD (dW P X n).length]) [⟨(pk (dW P X n)).map dB, 5,Ga⟩]:=SpR Tryz.func78 rfl rfl rfl ⟨aH _,trivial⟩ rfl 1000 64 (λ R ok=>.s 5<|.two (.E 5 (Ao (0<(n:Int))) (by(refine decide_eq_true ?_;(omega)))<|.K 8 (Ga&&Ao (0<(n:Int))&&Ga) Ki<|.O 5 ((v8 aC X)[0]?) (cM (Nm.v (wm X 0 lb))) (@QN X om)<|.K 3 (Ga&&Ao (0<(n:Int))&&Ga) Ki<|.O 5 ((v8 aC X)[1]?) (nD (Nm.n (wm X 0 lb))) (@QO X om)<|.C 1 98 Gd [] (.fn VZ (@PY (P) (m) om om (Nm.v (wm X 0 lb)) (Nm.n (wm X 0 lb)) (by(have h9:=hX 0;omega)) (by(have h9:=hX 0;omega))))<|.M 8 0 0 (V8 [Wb 144 144 0 (v0 (pk (aU P (Nm.v (wm X 0 lb)) (Nm.n (wm X 0 lb))))) 1,zN (v0 P+Nm.n (wm X 0 lb))] 26 Gd) (V8 [Wb 144 144 0 (v0 (pk (dW P X 1))) 1,zN (v0 (dW P X 1))] 26 Gd) (by(refine St (by rw[QP om]) ?_;have z:=L6 (P:=P) (X:=X) (i:=0) om rfl;rw[yW,WE]at z;show((_:Nat):Int)=_;omega))<|.blk 144 144 (V8 (wo dB (pk (aU P (Nm.v (wm X 0 lb)) (Nm.n (wm X 0 lb))))) 5 Ga) (V8 (wo dB (pk (dW P X 1))) 5 Ga) (by(rw[QP om]))<|BY T_ok ae Gd 25 0 (am Tryz.prog 78 0) (λ(x:(i:Nat)×'(hi:1<=i/\i<=n)×'Unit)=>match x with|⟨i,hi,_⟩=>Wr [(1,Wu Gd n 2 (v8 aC X)),(2,WA 0 0 0),(4,WA 8 8 0),(5,nD i)] [⟨0,0,0,0,.b ⟨[(Wb 16 16 (0) ((pk (dW P X i)).length) 1),nD (dW P X i).length],26,Gd⟩⟩,⟨8,8,8,8,.b ⟨[zS,zI 0],26,Gd⟩⟩,⟨16,16,144,144,.b ⟨(pk (dW P X i)).map dB,5,Ga⟩⟩] 24) (λ(x:(i:Nat)×'(hi:1<=i/\i<=n)×'Unit)=>match x with|⟨i,hi,_⟩=>n-i) [⟨Unit,.exit 0,λ()=>Wr [(1,Wu Gd n 2 (v8 aC X)),(2,WA 0 0 0),(4,WA 8 8 0)] [⟨0,0,0,0,.b ⟨[(Wb 16 16 (0) ((pk (dW P X n)).length) 1),nD (dW P X n).length],26,Gd⟩⟩,⟨8,8,8,8,.b ⟨[zS,zI 0],26,Gd⟩⟩,⟨16,16,144,144,.b ⟨(pk (dW P X n)).map dB,5,Ga⟩⟩] 24⟩] 1000 64 (fun|⟨i,hi,_⟩,Q,ZB,ZD=>.B 5 ((i:Int)<n) (λ p0 Z9=>.K 8 (Ga&&Ao ((i:Int)<n)&&Ga) Ki<|.O 5 ((v8 aC X)[i*2+0]?) (ah (Nm.v (wm X i lb))) (cR (k:=2) (i:=i) (j:=0) (λ _=>rfl) om om rfl)<|.K 3 (Ga&&Ao ((i:Int)<n)&&Ga) Ki<|.O 5 ((v8 aC X)[i*2+1]?) (zN (Nm.n (wm X i lb))) (cR (k:=2) (i:=i) (j:=1) (λ _=>rfl) om om rfl)<|.L 1 98 Gd [] (Ga&&(wB (wo dB (pk (dW P X i))) (v0 (pk (dW P X i))) 1)&&Ga&&Ga) (by unfold wB;(simp;done)) ([W6 [wD (wo dB (pk (dW P X i))) (v0 (pk (dW P X i))) 1,zN (v0 (dW P X i))],ah (Nm.v (wm X i lb)),zN (Nm.n (wm X i lb))]) (by exact(Wn (D.sim.agg (Wn (D.sim.slw rfl (ao (by(simp;done))|>.trans rfl)) (qr trivial))) (qr (qr trivial)))) (.fn VZ (@PY (dW P X i) (v0 (pk (dW P X i))) om L5 (Nm.v (wm X i lb)) (Nm.n (wm X i lb)) L5 L5))<|.W 6 (i+1)<|.V 1 5 (zI (i+1)) (zN (i+1)) (by(refine aF ?_;have z:=L6 (P:=P) (X:=X) (i:=i) om rfl;omega))<|.blk 0 0 (V8 [Wb 144 144 0 (v0 (pk (aU (dW P X i) (Nm.v (wm X i lb)) (Nm.n (wm X i lb))))) 1,zN (v0 (dW P X i)+Nm.n (wm X i lb))] 26 Gd) (V8 [Wb 144 144 0 (v0 (pk (dW P X (i+1)))) 1,zN (v0 (dW P X (i+1)))] 26 Gd) (by(refine St (by rw[QQ om]) ?_;have z:=L6 (P:=P) (X:=X) (i:=i) om rfl;show((_:Nat):Int)=_;omega))<|.blk 144 144 (V8 (wo dB (pk (aU (dW P X i) (Nm.v (wm X i lb)) (Nm.n (wm X i lb))))) 5 Ga) (V8 (wo dB (pk (dW P X (i+1)))) 5 Ga) (by(rw[QQ om]))<|Aw ZB ⟨(i+1),om,⟨⟩⟩ (by show n-(i+1)<n-i;clear ZB ZD;omega) [(0,0),(8,8),(144,144)] ro) (λ p0 Z9=>.blk 0 0 (V8 [Wb 16 16 0 (v0 (pk (dW P X i))) 1,zN (v0 (dW P X i))] 26 Gd) (V8 [Wb 16 16 0 (v0 (pk (dW P X n))) 1,zN (v0 (dW P X n))] 26 Gd) (by(rw[show i=n from by omega]))<|.blk 16 16 (V8 (wo dB (pk (dW P X i))) 5 Ga) (V8 (wo dB (pk (dW P X n))) 5 Ga) (by(rw[show i=n from by omega]))<|BO ZD 0 (():Unit) rfl [(0,0),(8,8),(16,16)] ro)) (fun|⟨i,hi,_⟩=>by kernel_rfl) ⟨(1),om,⟨⟩⟩ [(0,0),(8,8),(144,144)] ro (bB (fun|()=>.Y 10 [16] [16] (W6 [Wb 0 0 0 (v0 (pk (dW P X n))) 1,zN (v0 (dW P X n))]) [V8 (wo dB (pk (dW P X n))) 5 Ga] ok))) .nil) kr
def qD (X:GR)(n:Nat)(hn:n=X.length)(hn2:n<=100000)(hX:∀i,(X.getD i lb).n<=32):S0 80 [.sl Gd n 2 (X.flatMap aC)] [] (nD (pm X)) []:=SpR Tryz.func80 rfl rfl rfl trivial rfl 1000 64 (λ R ok=>.s 3<|BY T_ok ae Gd 19 0 (am Tryz.prog 80 0) (λ(x:(i:Nat)×'(hi:i<=n)×'Unit)=>match x with|⟨i,hi,_⟩=>Wr [(0,Wu Gd n 2 (v8 aC X)),(3,nD (kW X i)),(4,nD i)] [] 0) (λ(x:(i:Nat)×'(hi:i<=n)×'Unit)=>match x with|⟨i,hi,_⟩=>n-i) [⟨Unit,.exit 0,λ()=>Wr [(0,Wu Gd n 2 (v8 aC X)),(3,nD (pm X))] [] 0⟩] 1000 64 (fun|⟨i,hi,_⟩,Q,ZB,ZD=>.B 5 ((i:Int)<n) (λ p0 Z9=>.K 4 (Ga&&Ao ((i:Int)<n)&&Ga) Ki<|.O 5 ((v8 aC X)[i*2+1]?) (zN (Nm.n (wm X i lb))) (cR (k:=2) (i:=i) (j:=1) (λ _=>rfl) om om rfl)<|.I 2 ((↑(kW X i):Int)+(↑(Nm.n (wm X i lb)):Int)) (by(have h9:=hX i;have h7:=wz hX i;omega))<|.W 4 (i+1)<|.V 1 3 (zI ((↑(kW X i):Int)+(↑(Nm.n (wm X i lb)):Int))) (zN (kW X (i+1))) (by(refine aF ?_;rw[kW];omega))<|.val 4 (zI (i+1)) (zN (i+1)) (by(refine aF ?_;(omega)))<|Aw ZB ⟨(i+1),om,⟨⟩⟩ (by show n-(i+1)<n-i;clear ZB ZD;omega) [] ro) (λ p0 Z9=>.val 3 (zN (kW X i)) (zN (pm X)) (by(rw[rv,<-hn,show i=n from by omega]))<|BO ZD 0 (():Unit) rfl [] ro)) (fun|⟨i,hi,_⟩=>by kernel_rfl) ⟨(0),om,⟨⟩⟩ [] ro (bB (fun|()=>.Y 2 [] [] (zN (pm X)) [] ok))) kr
def GD(h:p:=by(simp only[bM,hpl,lH,Xk,WM,WV];refine We ?_;(omega))):=h
def GF(h:p:=by(rw[show j=fM a from by omega,hH1])):=h
def GG(h:p:=by(rw[show i=r from by omega])):=h
def QR(h:p:=by(refine aq ?_;rw[DG,hH,he];(first|rw[show last=Ga from by assumption]|rw[show last=Gd from by assumption]);rfl)):=h
def QT(h:p:=by(have h9:=sE H2 (raw:=raw) (i:=i) om;simp only[bM,h9,lH2,Xk,WM,WV];refine We ?_;omega)):=h
def QU(h:p:=by(refine aq ?_;rw[DI (i:=i) _ om,Xj,Wx];rfl)):=h
def jK (H:GR)(j:Nat):GR:=lk H (H++Wt j ⟨0,1⟩)
def lV (H:GR)(j:Nat):jK H j=H++Wt j ⟨0,1⟩:=aM _ _
def DG (H:GR):jK H 0=H:=by rw[lV];exact Xn _
def za (H:GR)(j:Nat):jK H (j+1)=jK H j++[⟨0,1⟩]:=by
 rw[lV,lV,aaZ,WI]
def sD (H:GR)(j:Nat):(jK H j).length=H.length+j:=by rw[lV,Wc,WP]
def fS (H:GR)(raw:Z4)(i:Nat):GR:=lk raw (H++(raw.take i).map Ks)
def lW (H:GR)(raw:Z4)(i:Nat):fS H raw i=H++(raw.take i).map Ks:=aM _ _
def DH (H:GR)(raw:Z4):fS H raw 0=H:=by rw[lW];exact Xn _
def DI (H:GR){raw:Z4}{i:Nat}(h:i<raw.length):fS H raw (i+1)=fS H raw i++[Ks (raw.getD i lb)]:=by
 rw[lW,lW,WW h,W4,WI,Wd,Wa h];rfl
def sE (H:GR){raw:Z4}{i:Nat}(h:i<=raw.length):(fS H raw i).length=H.length+i:=by
 rw[lW,Wc,Wj,Wi];omega
def QV {H1 H2:GR}{raw:Z4}{r:Nat}{y:Int}(h:H2=H1++[⟨r,16⟩,⟨65535-r,16⟩])(hy:y=((65535-r:Nat):Int)):H1.flatMap aC++[D.v (.int .u32 (r:Int)),D.v (.int .i64 16),D.v (.int .u32 y),D.v (.int .i64 16)]=(fS H2 raw 0).flatMap aC:=by
 subst hy h;rw[DH,Xj];rfl
def QW (last:Bool)(e:Nat)(he:e=last.toNat)(a:Nat)(ha:a<=7)(raw:Z4)(r:Nat)(hr:r=raw.length)(hr2:r<=65535)(H H1 H2:GR)(hH:H=kX e 0)(hH1:jK H (fM a)=H1)(hH2:H2=H1++[⟨r,16⟩,⟨65535-r,16⟩])(k:Nat)(cs:GA)(hcs:cs.length=k*3):S0 79 [nD a,fK 0,.sl Gd r 1 (raw.map dB),.sl Gd k 3 cs,bD last] [] (.ref 0 0 0 (fS H2 raw r).length 2) [⟨(fS H2 raw r).flatMap aC, 169,Ga⟩]:=by
 have lH:H.length=2:=by rw[hH];rfl
 have hp:=m7 a;have hpl:=sD H;have lH1:H1.length=2+fM a:=by rw[<-hH1,hpl,lH]
 have lH2:H2.length=4+fM a:=by rw[hH2,Wc,lH1];simp;omega
 refine SpR Tryz.func79 rfl rfl rfl ⟨cV (λ _=>rfl) _,trivial⟩ rfl 1000 64 (λ R ok=>.R 12 (last) (λ p0=>.W 20 (a+3)<|.V 1 11 (Wb 40 40 0 2 2) (Wb 40 40 0 (v0 (jK H 0)) 2) (by(rw[DG,lH]))<|.val 15 (zI (a+3)) (zI (a+3+0)) Ex<|.blk 40 40 (V8 [uI 1,zI 1,uI 0,zI 2] 169 Gd) (V8 (v8 aC (jK H 0)) 169 Gd) QR<|BY T_ok ae Gd 90 0 (am Tryz.prog 79 0) (λ(x:(j:Nat)×'(hj:j<=fM a)×'Unit)=>match x with|⟨j,hj,_⟩=>Wr [(2,Wu Gd r 1 (wo dB raw)),(11,(Wb 0 0 (0) ((jK H j).length) 2)),(15,iD ((a:Int)+3+j))] [⟨0,0,40,40,.r ⟨(jK H j).flatMap aC,169,Ga⟩⟩] 8) (λ(x:(j:Nat)×'(hj:j<=fM a)×'Unit)=>match x with|⟨j,hj,_⟩=>fM a-j) [⟨Unit,.exit 0,λ()=>Wr [(2,Wu Gd r 1 (wo dB raw)),(11,(Wb 0 0 (0) (H1.length) 2))] [⟨0,0,40,40,.r ⟨H1.flatMap aC,169,Ga⟩⟩] 8⟩] 1000 64 (fun|⟨j,hj,_⟩,Q,ZB,ZD=>.O 3 (aX Wv (XG ((a:Int)+3+j) 8)) (zI (((a:Int)+3+j)%8)) (aB (@bT  ((a:Int)+3+j) (8) om))<|.R 2 (((a:Int)+3+j)%8 !=0) (λ p1=>have Z8:=fI p1;.K 6 (Ga&&V9 (v0 (jK H j)*2) (v0 (v8 aC (jK H j)))&&Ga&&Ga&&Ga&&Ga&&Wf ((v0 (jK H j)+1)*16) 140737488355328) GD<|.W 4 (a+3+j+1)<|.V 1 11 (Wb 56 56 0 (v0 (jK H j)+1) 2) (Wb 56 56 0 (v0 (jK H (j+1))) 2) (by(rw[za,Wc];rfl))<|.val 15 (zI (a+3+j+1)) (zI (a+3+(↑(j+1):Int))) Ex<|.blk 56 56 (V8 (v8 aC (jK H j)++[uI 0,zI 1]) 169 Ga) (V8 (v8 aC (jK H (j+1))) 169 Ga) (by(refine aq ?_;rw[za,Xj];rfl))<|Aw ZB ⟨(j+1),om,⟨⟩⟩ (by show fM a-(j+1)<fM a-j;clear ZB ZD;omega) [(56,56)] mG) (λ p1=>have Z8:=fJ p1;.val 11 (Wb 0 0 0 (v0 (jK H j)) 2) (Wb 0 0 0 (v0 H1) 2) GF<|.blk 0 0 (V8 (v8 aC (jK H j)) 169 Ga) (V8 (v8 aC H1) 169 Ga) GF<|BO ZD 0 (():Unit) rfl [(0,0)] mG)) (fun|⟨j,hj,_⟩=>by kernel_rfl) ⟨(0),om,⟨⟩⟩ [(40,40)] mG (bB (fun|()=>.O 4 (au .u32 (r:Int)) (ah r) (ax om)<|.W 6 (65535-(r:Int))<|.O 1 (au .u32 (65535-(r:Int))) (uI (65535-(r:Int))) (ax om)<|.K 5 (Ga&&V9 (v0 H1*2) (v0 (v8 aC H1))&&Ga&&Ga&&Ga&&Ga&&Wf ((v0 H1+2)*16) 140737488355328) GD<|.V 2 11 (Wb 96 96 0 (v0 H1+2) 2) (Wb 96 96 0 (v0 (fS H2 raw 0)) 2) (by(rw[DH,hH2,Wc];rfl))<|.blk 96 96 (V8 (v8 aC H1++[ah r,zI 16,uI (65535-(r:Int)),zI 16]) 169 Ga) (V8 (v8 aC (fS H2 raw 0)) 169 Ga) (by(refine aq (QV hH2 ?_);omega))<|BY T_ok ae Gd 90 0 (am Tryz.prog 79 1) (λ(x:(i:Nat)×'(hi:i<=r)×'Unit)=>match x with|⟨i,hi,_⟩=>Wr [(2,Wu Gd r 1 (wo dB raw)),(11,(Wb 0 0 (0) ((fS H2 raw i).length) 2)),(16,nD i)] [⟨0,0,96,96,.b ⟨(fS H2 raw i).flatMap aC,169,Ga⟩⟩] 8) (λ(x:(i:Nat)×'(hi:i<=r)×'Unit)=>match x with|⟨i,hi,_⟩=>r-i) [⟨Unit,.exit 2,λ()=>Wr [(2,Wu Gd r 1 (wo dB raw)),(11,(Wb 0 0 (0) ((fS H2 raw r).length) 2))] [⟨0,0,96,96,.b ⟨(fS H2 raw r).flatMap aC,169,Ga⟩⟩] 8⟩] 1000 64 (fun|⟨i,hi,_⟩,Q,ZB,ZD=>.B 5 ((i:Int)<r) (λ p2 Z7=>.K 4 (Ga&&Ao ((i:Int)<r)&&Ga) Ki<|.O 2 ((wo dB raw)[i*1]?) (dB (wm raw (i*1) lb)) (aj _ _ om)<|.O 1 (au .u32 (↑(V7 (wm raw (i*1) lb)):Int)) (ah (V7 (wm raw (i*1) lb))) (ax (by(exact dN _ (by decide) (by decide))))<|.K 5 (Ga&&V9 (v0 (fS H2 raw i)*2) (v0 (v8 aC (fS H2 raw i)))&&Ga&&Ga&&Ga&&Ga&&Wf ((v0 (fS H2 raw i)+1)*16) 140737488355328) QT<|.W 4 (i+1)<|.V 1 11 (Wb 104 104 0 (v0 (fS H2 raw i)+1) 2) (Wb 104 104 0 (v0 (fS H2 raw (i+1))) 2) (by(rw[DI (i:=i) _ om,Wc];rfl))<|.val 16 (zI (i+1)) (zN (i+1)) Ex<|.blk 104 104 (V8 (v8 aC (fS H2 raw i)++[ah (V7 (wm raw (i*1) lb)),zI 8]) 169 Ga) (V8 (v8 aC (fS H2 raw (i+1))) 169 Ga) QU<|Aw ZB ⟨(i+1),om,⟨⟩⟩ (by show r-(i+1)<r-i;clear ZB ZD;omega) [(104,104)] mG) (λ p2 Z7=>.val 11 (Wb 0 0 0 (v0 (fS H2 raw i)) 2) (Wb 0 0 0 (v0 (fS H2 raw r)) 2) GG<|.blk 0 0 (V8 (v8 aC (fS H2 raw i)) 169 Ga) (V8 (v8 aC (fS H2 raw r)) 169 Ga) GG<|BO ZD 0 (():Unit) rfl [(0,0)] mG)) (fun|⟨i,hi,_⟩=>by kernel_rfl) ⟨(0),om,⟨⟩⟩ [(96,96)] mG (bB (fun|()=>.Y 2 [0] [0] (Wb 0 0 0 (v0 (fS H2 raw r)) 2) [V8 (v8 aC (fS H2 raw r)) 169 Ga] ok))))) (λ p0=>.W 11 (a+3)<|.V 1 11 (Wb 40 40 0 2 2) (Wb 40 40 0 (v0 (jK H 0)) 2) (by(rw[DG,lH]))<|.val 15 (zI (a+3)) (zI (a+3+0)) Ex<|.blk 40 40 (V8 [uI 0,zI 1,uI 0,zI 2] 169 Gd) (V8 (v8 aC (jK H 0)) 169 Gd) QR<|BY T_ok ae Gd 90 0 (am Tryz.prog 79 0) (λ(x:(j:Nat)×'(hj:j<=fM a)×'Unit)=>match x with|⟨j,hj,_⟩=>Wr [(2,Wu Gd r 1 (wo dB raw)),(11,(Wb 0 0 (0) ((jK H j).length) 2)),(15,iD ((a:Int)+3+j))] [⟨0,0,40,40,.r ⟨(jK H j).flatMap aC,169,Ga⟩⟩] 8) (λ(x:(j:Nat)×'(hj:j<=fM a)×'Unit)=>match x with|⟨j,hj,_⟩=>fM a-j) [⟨Unit,.exit 0,λ()=>Wr [(2,Wu Gd r 1 (wo dB raw)),(11,(Wb 0 0 (0) (H1.length) 2))] [⟨0,0,40,40,.r ⟨H1.flatMap aC,169,Ga⟩⟩] 8⟩] 1000 64 (fun|⟨j,hj,_⟩,Q,ZB,ZD=>.O 3 (aX Wv (XG ((a:Int)+3+j) 8)) (zI (((a:Int)+3+j)%8)) (aB (@bT  ((a:Int)+3+j) (8) om))<|.R 2 (((a:Int)+3+j)%8 !=0) (λ p3=>have Z6:=fI p3;.K 6 (Ga&&V9 (v0 (jK H j)*2) (v0 (v8 aC (jK H j)))&&Ga&&Ga&&Ga&&Ga&&Wf ((v0 (jK H j)+1)*16) 140737488355328) GD<|.W 4 (a+3+j+1)<|.V 1 11 (Wb 56 56 0 (v0 (jK H j)+1) 2) (Wb 56 56 0 (v0 (jK H (j+1))) 2) (by(rw[za,Wc];rfl))<|.val 15 (zI (a+3+j+1)) (zI (a+3+(↑(j+1):Int))) Ex<|.blk 56 56 (V8 (v8 aC (jK H j)++[uI 0,zI 1]) 169 Ga) (V8 (v8 aC (jK H (j+1))) 169 Ga) (by(refine aq ?_;rw[za,Xj];rfl))<|Aw ZB ⟨(j+1),om,⟨⟩⟩ (by show fM a-(j+1)<fM a-j;clear ZB ZD;omega) [(56,56)] mG) (λ p3=>have Z6:=fJ p3;.val 11 (Wb 0 0 0 (v0 (jK H j)) 2) (Wb 0 0 0 (v0 H1) 2) GF<|.blk 0 0 (V8 (v8 aC (jK H j)) 169 Ga) (V8 (v8 aC H1) 169 Ga) GF<|BO ZD 0 (():Unit) rfl [(0,0)] mG)) (fun|⟨j,hj,_⟩=>by kernel_rfl) ⟨(0),om,⟨⟩⟩ [(40,40)] mG (bB (fun|()=>.O 4 (au .u32 (r:Int)) (ah r) (ax om)<|.W 6 (65535-(r:Int))<|.O 1 (au .u32 (65535-(r:Int))) (uI (65535-(r:Int))) (ax om)<|.K 5 (Ga&&V9 (v0 H1*2) (v0 (v8 aC H1))&&Ga&&Ga&&Ga&&Ga&&Wf ((v0 H1+2)*16) 140737488355328) GD<|.V 2 11 (Wb 96 96 0 (v0 H1+2) 2) (Wb 96 96 0 (v0 (fS H2 raw 0)) 2) (by(rw[DH,hH2,Wc];rfl))<|.blk 96 96 (V8 (v8 aC H1++[ah r,zI 16,uI (65535-(r:Int)),zI 16]) 169 Ga) (V8 (v8 aC (fS H2 raw 0)) 169 Ga) (by(refine aq (QV hH2 ?_);omega))<|BY T_ok ae Gd 90 0 (am Tryz.prog 79 1) (λ(x:(i:Nat)×'(hi:i<=r)×'Unit)=>match x with|⟨i,hi,_⟩=>Wr [(2,Wu Gd r 1 (wo dB raw)),(11,(Wb 0 0 (0) ((fS H2 raw i).length) 2)),(16,nD i)] [⟨0,0,96,96,.b ⟨(fS H2 raw i).flatMap aC,169,Ga⟩⟩] 8) (λ(x:(i:Nat)×'(hi:i<=r)×'Unit)=>match x with|⟨i,hi,_⟩=>r-i) [⟨Unit,.exit 2,λ()=>Wr [(2,Wu Gd r 1 (wo dB raw)),(11,(Wb 0 0 (0) ((fS H2 raw r).length) 2))] [⟨0,0,96,96,.b ⟨(fS H2 raw r).flatMap aC,169,Ga⟩⟩] 8⟩] 1000 64 (fun|⟨i,hi,_⟩,Q,ZB,ZD=>.B 5 ((i:Int)<r) (λ p4 Z5=>.K 4 (Ga&&Ao ((i:Int)<r)&&Ga) Ki<|.O 2 ((wo dB raw)[i*1]?) (dB (wm raw (i*1) lb)) (aj _ _ om)<|.O 1 (au .u32 (↑(V7 (wm raw (i*1) lb)):Int)) (ah (V7 (wm raw (i*1) lb))) (ax (by(exact dN _ (by decide) (by decide))))<|.K 5 (Ga&&V9 (v0 (fS H2 raw i)*2) (v0 (v8 aC (fS H2 raw i)))&&Ga&&Ga&&Ga&&Ga&&Wf ((v0 (fS H2 raw i)+1)*16) 140737488355328) QT<|.W 4 (i+1)<|.V 1 11 (Wb 104 104 0 (v0 (fS H2 raw i)+1) 2) (Wb 104 104 0 (v0 (fS H2 raw (i+1))) 2) (by(rw[DI (i:=i) _ om,Wc];rfl))<|.val 16 (zI (i+1)) (zN (i+1)) Ex<|.blk 104 104 (V8 (v8 aC (fS H2 raw i)++[ah (V7 (wm raw (i*1) lb)),zI 8]) 169 Ga) (V8 (v8 aC (fS H2 raw (i+1))) 169 Ga) QU<|Aw ZB ⟨(i+1),om,⟨⟩⟩ (by show r-(i+1)<r-i;clear ZB ZD;omega) [(104,104)] mG) (λ p4 Z5=>.val 11 (Wb 0 0 0 (v0 (fS H2 raw i)) 2) (Wb 0 0 0 (v0 (fS H2 raw r)) 2) GG<|.blk 0 0 (V8 (v8 aC (fS H2 raw i)) 169 Ga) (V8 (v8 aC (fS H2 raw r)) 169 Ga) GG<|BO ZD 0 (():Unit) rfl [(0,0)] mG)) (fun|⟨i,hi,_⟩=>by kernel_rfl) ⟨(0),om,⟨⟩⟩ [(96,96)] mG (bB (fun|()=>.Y 2 [0] [0] (Wb 0 0 0 (v0 (fS H2 raw r)) 2) [V8 (v8 aC (fS H2 raw r)) 169 Ga] ok)))))) kr
def Ax(h:p:=by((repeat rw[wA rfl]);simp only[bM,WE,Xk,WM,WV,Wh,XM,Yh,Wc,WQ,List.length_nil];omega)):=h
def GH(h:p:=by(refine congrArg (λ z=>[V8 z _ Ga]) ?_;(repeat rw[wA rfl]);rw[Xj];(try rw[Xj]);rw[hH,he];(first|rw[show last=Ga from by assumption]|rw[show last=Gd from by assumption]);rfl)):=h
def QX(h:p:=by exact(qr (Wn (D.sim.slw rfl (ao (by(simp <;>(omega)))|>.trans rfl)) (Wn (D.sim.slw rfl (ao (by(simp <;>(omega)))|>.trans rfl)) trivial)))):=h
def QY(h:p:=by exact(qr (Wn (D.sim.slw rfl ((ar (A) (0) (n1*1)).trans (by(simp;done)))) (Wn (D.sim.slw rfl ((ar (B) (0) (n2*1)).trans (by(simp;done)))) trivial)))):=h
def sF (l:GU)(k:Nat)(hk:k=l.length)(hk2:k<=65535)(hl:∀i,bY (l.getD i lb))(T1 T2:a9)(hT1:T1=ay)(hT2:T2=aK)(hl1:T1.length=29)(hl2:T2.length=30)(hz1:bi T1)(hz2:bi T2)(A B:Z4)(n1 n2:Nat)(hA:n1=A.length)(hB:n2=B.length)(hn1:n1<=320)(hn2:n2<=320)(hmA:(aa A).length=n1)(hmB:(aa B).length=n2)(gw:jU (aa A))(xh:jU (aa B))(hin:∀i,i<k->((l.getD i lb).long=0->(l.getD i lb).lit.toNat<n1)/\((l.getD i lb).long≠0->257+ai T1 (l.getD i lb).long<n1/\ai T2 (l.getD i lb).dist<n2))(h256:256<n1)(Q:GR)(hQ:EqV (fy T1 T2 (aa A) (aa B) l k++[uM (aa A) 256]) Q):S0 99 [.sl Gd k 3 (l.flatMap aY),.sl Gd n1 1 (A.map dB),.sl Gd n2 1 (B.map dB)] [] (.ref 0 0 0 Q.length 2) [⟨Q.flatMap aC, 169,Ga⟩]:=by
 obtain⟨hQ⟩:=hQ;subst hQ;exact Uw l k hk hk2 hl T1 T2 hT1 hT2 hl1 hl2 hz1 hz2 A B n1 n2 hA hB hn1 hn2 hmA hmB gw xh hin h256
def wA {X:GR}{n:Nat}(h:n=X.length):(bif Ga&&(n*2).beq (X.flatMap aC).length then X.flatMap aC else WS (n*2) (WT 0 (X.flatMap aC)))=X.flatMap aC:=by
 rw[bM,h,Xk];rfl
def QZ (last:Bool)(e:Nat)(he:e=last.toNat)(a:Nat)(ha:a<=7)(raw:Z4)(r:Nat)(hr:r=raw.length)(hr2:r<=65535)(l:GU)(k:Nat)(hk:k=l.length)(hk2:k<=65535)(hl:∀i,bY (l.getD i lb))(T1 T2:a9)(hT1:T1=ay)(hT2:T2=aK)(hl1:T1.length=29)(hl2:T2.length=30)(hz1:bi T1)(hz2:bi T2)(L F:Z4)(hL:L=cd)(hF:F=dS)(hLl:L.length=288)(hFl:F.length=32)(hmL:(aa L).length=288)(hmF:(aa F).length=32)(okL:jU (aa L))(okF:jU (aa F))(hin:∀i,i<k->((l.getD i lb).long=0->(l.getD i lb).lit.toNat<288)/\((l.getD i lb).long≠0->257+ai T1 (l.getD i lb).long<288/\ai T2 (l.getD i lb).dist<32))(Q:GR)(hQ:EqV (fy T1 T2 (aa L) (aa F) l k++[uM (aa L) 256]) Q)(hQl:Q.length<=1000000)(H:GR)(hH:H=kX e 1):S0 79 [nD a,fK 1,.sl Gd r 1 (raw.map dB),.sl Gd k 3 (l.flatMap aY),bD last] [] (.ref 0 0 0 (H++Q).length 2) [⟨(H++Q).flatMap aC, 169,Ga⟩]:=by
 have lH:H.length=2:=by rw[hH];rfl
 refine SpR Tryz.func79 rfl rfl rfl ⟨cV (λ _=>rfl) _,trivial⟩ rfl 1000 64 (λ R ok=>.R 12 (last) (λ p0=>.C 16 100 Gd [] (.fn ND (@Dz (L) aG om))<|.C 1 101 Gd [] (.fn NE (@Jh (F) aG om))<|.L 1 99 Gd [] (Ga&&(Ga&&(Ga&&Wf 288 (v0 (wo dB L))&&Ga&&ab (bif Ga&&V9 288 (v0 (wo dB L))then wo dB L else wx 288 (Ag 0 (wo dB L))))&&(Ga&&(Ga&&Wf 32 (v0 (wo dB F))&&Ga&&ab (bif Ga&&V9 32 (v0 (wo dB F))then wo dB F else wx 32 (Ag 0 (wo dB F))))&&Ga))) (by(simp <;>(omega))) ([Wu Gd k 3 (v8 aY l),Wu Ga 288 1 (bif Ga&&V9 288 (v0 (wo dB L))then wo dB L else wx 288 (Ag 0 (wo dB L))),Wu Ga 32 1 (bif Ga&&V9 32 (v0 (wo dB F))then wo dB F else wx 32 (Ag 0 (wo dB F)))]) QX (.fn Q99 (@sF (l) (k) om om om (T1) (T2) aG aG om om om om (L) (F) (288) (32) om om om om om om om om om om (Q) aG))<|.K 1 (Ga&&(Ga&&Wf (0+v0 Q*2) (v0 (v8 aC Q)))&&Ga&&Ga&&Wf ((2+v0 Q)*16) 140737488355328) Ax<|.U 1 [152] [152] (Wb 0 0 0 (2+v0 Q) 2) [V8 ([uI 1,zI 1,uI 1,zI 2]++bif Ga&&V9 (v0 Q*2) (v0 (v8 aC Q))then v8 aC Q else wx (v0 Q*2) (Ag 0 (v8 aC Q))) 169 Ga] R (ok _ _ (by(simp <;>(omega))) GH)) (λ p0=>.C 7 100 Gd [] (.fn ND (@Dz (L) aG om))<|.C 1 101 Gd [] (.fn NE (@Jh (F) aG om))<|.L 1 99 Gd [] (Ga&&(Ga&&(Ga&&Wf 288 (v0 (wo dB L))&&Ga&&ab (bif Ga&&V9 288 (v0 (wo dB L))then wo dB L else wx 288 (Ag 0 (wo dB L))))&&(Ga&&(Ga&&Wf 32 (v0 (wo dB F))&&Ga&&ab (bif Ga&&V9 32 (v0 (wo dB F))then wo dB F else wx 32 (Ag 0 (wo dB F))))&&Ga))) (by(simp <;>(omega))) ([Wu Gd k 3 (v8 aY l),Wu Ga 288 1 (bif Ga&&V9 288 (v0 (wo dB L))then wo dB L else wx 288 (Ag 0 (wo dB L))),Wu Ga 32 1 (bif Ga&&V9 32 (v0 (wo dB F))then wo dB F else wx 32 (Ag 0 (wo dB F)))]) QX (.fn Q99 (@sF (l) (k) om om om (T1) (T2) aG aG om om om om (L) (F) (288) (32) om om om om om om om om om om (Q) aG))<|.K 1 (Ga&&(Ga&&Wf (0+v0 Q*2) (v0 (v8 aC Q)))&&Ga&&Ga&&Wf ((2+v0 Q)*16) 140737488355328) Ax<|.U 1 [120] [120] (Wb 0 0 0 (2+v0 Q) 2) [V8 ([uI 0,zI 1,uI 1,zI 2]++bif Ga&&V9 (v0 Q*2) (v0 (v8 aC Q))then v8 aC Q else wx (v0 Q*2) (Ag 0 (v8 aC Q))) 169 Ga] R (ok _ _ (by(simp <;>(omega))) GH))) kr
def Q0 (last:Bool)(e:Nat)(he:e=last.toNat)(a:Nat)(ha:a<=7)(raw:Z4)(r:Nat)(hr:r=raw.length)(hr2:r<=65535)(l:GU)(k:Nat)(hk:k=l.length)(hk2:k<=65535)(hl:∀i,bY (l.getD i lb))(T1 T2:a9)(hT1:T1=ay)(hT2:T2=aK)(hl1:T1.length=29)(hl2:T2.length=30)(hz1:bi T1)(hz2:bi T2)(W1 W2:Gw)(A B:Z4)(n1 n2:Nat)(R0:nl)(W3:Gw)(C O:Z4)(n3:Nat)(DV:DyV T1 T2 l k W1 W2 A B n1 n2 R0 W3 C O n3)(H3 H4 H5:GR)(hH3:H3=[⟨n1-257,5⟩,⟨n2-1,5⟩,⟨n3-4,4⟩])(hH4:cI H3 gJ (O.take n3) n3=H4)(hH5:cI H4 (iv (aa C)) R0 R0.length=H5)(hH5l:H5.length<=1000000)(Q:GR)(hQ:EqV (fy T1 T2 (aa (A.take n1)) (aa (B.take n2)) l k++[uM (aa (A.take n1)) 256]) Q)(hQl:Q.length<=1000000)(H:GR)(hH:H=kX e 2):S0 79 [nD a,fK 2,.sl Gd r 1 (raw.map dB),.sl Gd k 3 (l.flatMap aY),bD last] [] (.ref 0 0 0 (H++H5++Q).length 2) [⟨(H++H5++Q).flatMap aC, 169,Ga⟩]:=by
 have lH:H.length=2:=by rw[hH];rfl
 have F:=DV.f hk hk2;have inA:=DV.inA hk hk2 hT1 hT2 hl;have lA:=F.lA;have lB:=F.lB;have g1:=F.k1;have g2:=F.k2;have lA2:=F.lA2;have lB2:=F.lB2;have mA:=F.mA;have mB:=F.mB;have oA:=F.oA;have oB:=F.oB;refine SpR Tryz.func79 rfl rfl rfl ⟨cV (λ _=>rfl) _,trivial⟩ rfl 1000 64 (λ R ok=>.R 12 (last) (λ p0=>.C 19 102 Gd [] (.fn NF (@QF (l) (k) om om om (T1) (T2) aG aG om om om om (W1) (W2) (A) (B) (n1) (n2) (R0) (W3) (C) (O) (n3) aG (H3) (H4) (H5) aG aG aG))<|.K 13 (Ga&&(Ga&&Wf (0+v0 H5*2) (v0 (v8 aC H5)))&&Ga&&Ga&&Wf ((2+v0 H5)*16) 140737488355328) Ax<|.L 6 99 Gd [] (Ga&&(Ga&&(wB (wo dB A) n1 1)&&(Ga&&(wB (wo dB B) n2 1)&&Ga))) (by unfold wB;(simp <;>(omega))) ([Wu Gd k 3 (v8 aY l),wD (wo dB A) n1 1,wD (wo dB B) n2 1]) QY (.fn Q99 (@sF (l) (k) om om om (T1) (T2) aG aG om om om om (wx n1 A) (wx n2 B) (n1) (n2) om om om om om om om om (by(exact inA.1)) om (Q) aG))<|.K 1 (Ga&&V9 ((2+v0 H5)*2) (v0 ([uI 1,zI 1,uI 2,zI 2]++bif Ga&&V9 (v0 H5*2) (v0 (v8 aC H5))then v8 aC H5 else wx (v0 H5*2) (Ag 0 (v8 aC H5))))&&Ga&&(Ga&&Wf (0+v0 Q*2) (v0 (v8 aC Q)))&&Ga&&Ga&&Wf ((2+v0 H5+v0 Q)*16) 140737488355328) Ax<|.U 1 [272] [272] (Wb 0 0 0 (2+v0 H5+v0 Q) 2) [V8 (([uI 1,zI 1,uI 2,zI 2]++bif Ga&&V9 (v0 H5*2) (v0 (v8 aC H5))then v8 aC H5 else wx (v0 H5*2) (Ag 0 (v8 aC H5)))++bif Ga&&V9 (v0 Q*2) (v0 (v8 aC Q))then v8 aC Q else wx (v0 Q*2) (Ag 0 (v8 aC Q))) 169 Ga] R (ok _ _ (by(rw[Wc,Wc,lH])) GH)) (λ p0=>.C 10 102 Gd [] (.fn NF (@QF (l) (k) om om om (T1) (T2) aG aG om om om om (W1) (W2) (A) (B) (n1) (n2) (R0) (W3) (C) (O) (n3) aG (H3) (H4) (H5) aG aG aG))<|.K 13 (Ga&&(Ga&&Wf (0+v0 H5*2) (v0 (v8 aC H5)))&&Ga&&Ga&&Wf ((2+v0 H5)*16) 140737488355328) Ax<|.L 6 99 Gd [] (Ga&&(Ga&&(wB (wo dB A) n1 1)&&(Ga&&(wB (wo dB B) n2 1)&&Ga))) (by unfold wB;(simp <;>(omega))) ([Wu Gd k 3 (v8 aY l),wD (wo dB A) n1 1,wD (wo dB B) n2 1]) QY (.fn Q99 (@sF (l) (k) om om om (T1) (T2) aG aG om om om om (wx n1 A) (wx n2 B) (n1) (n2) om om om om om om om om (by(exact inA.1)) om (Q) aG))<|.K 1 (Ga&&V9 ((2+v0 H5)*2) (v0 ([uI 0,zI 1,uI 2,zI 2]++bif Ga&&V9 (v0 H5*2) (v0 (v8 aC H5))then v8 aC H5 else wx (v0 H5*2) (Ag 0 (v8 aC H5))))&&Ga&&(Ga&&Wf (0+v0 Q*2) (v0 (v8 aC Q)))&&Ga&&Ga&&Wf ((2+v0 H5+v0 Q)*16) 140737488355328) Ax<|.U 1 [240] [240] (Wb 0 0 0 (2+v0 H5+v0 Q) 2) [V8 (([uI 0,zI 1,uI 2,zI 2]++bif Ga&&V9 (v0 H5*2) (v0 (v8 aC H5))then v8 aC H5 else wx (v0 H5*2) (Ag 0 (v8 aC H5)))++bif Ga&&V9 (v0 Q*2) (v0 (v8 aC Q))then v8 aC Q else wx (v0 Q*2) (Ag 0 (v8 aC Q))) 169 Ga] R (ok _ _ (by(rw[Wc,Wc,lH])) GH))) kr
def Su(h:p:=by exact(qr (qr (qr (qr trivial))))):=h
def Sv(h:p:=by(refine UU ?_;rw[wI];unfold Q5;split<;>split<;>omega)):=h
def sm (X:GR):Nat:=(X.map Nm.n).sum
def cF (X Y:GR):sm (X++Y)=sm X+sm Y:=by unfold sm;rw[W4,List.sum_append]
def ns (x:Nm)(X:GR):sm (x::X)=x.n+sm X:=by unfold sm;rw[XB,List.sum_cons]
def L7:sm []=0:=rfl
def DJ (X:GR):∀i,i<=X.length->kW X i=sm (X.take i)
 |0,_=>rfl
 |i+1,h=>by
  have e1:X.take (i+1)=X.take i++[X.getD i lb]:=by
   rw[WW h,Wd,Wa h];rfl
  rw[kW,DJ X i om,e1,cF,ns,L7,X4]
def sG (X:GR):pm X=sm X:=by rw[rv,DJ X _ (Wl _),WN (Wl _)]
def DK {c:Nat}:∀{X:GR},(∀x∈X,x.n<=c)->sm X<=c*X.length
 |[],_=>W5 _
 |x::X,h=>by
  have:=h x WH;have ih:=DK λ y hy=>h y (WG _ hy)
  rw[ns,WQ,YM];omega
def Jk {α:Type}{g:α->GR}{c:Nat}:∀{l:List α},(∀x∈l,sm (g x)<=c)->sm (l.flatMap g)<=c*l.length
 |[],_=>W5 _
 |x::l,h=>by
  have:=h x WH;have ih:=Jk λ y hy=>h y (WG _ hy)
  rw[XE,cF,WQ,YM];omega
def uU {C:List (Nat×Nat)}(hC:jU C)(s n x:Nat):sm (iG C s n x)<=15+n:=by
 have:=(hC s).1;show(C.getD s lb).2+(n+0)<=_;omega
def Q1 {A B:List (Nat×Nat)}(hA:jU A)(hB:jU B)(t:Tn):sm (t7 ay aK A B t)<=56:=by
 unfold t7
 split
 ·exact Ww (uU hA _ _ _) (by decide)
 ·have s1:=(cH (ai ay t.long)).1
  have s2:=(di (ai aK t.dist)).1;have a:=uU hA (257+ai ay t.long) (ay.getD (ai ay t.long) lb).bits (t.long-(ay.getD (ai ay t.long) lb).least);have b:=uU hB (ai aK t.dist) (aK.getD (ai aK t.dist) lb).bits (t.dist-(aK.getD (ai aK t.dist) lb).least);rw[cF];omega
def DL {A B:List (Nat×Nat)}(hA:jU A)(hB:jU B)(H:GR)(l:GU):sm (ba ay aK A B H l l.length)<=sm H+56*l.length:=by
 rw[gl,cF,WN (Wl _)];have:=Jk (g:=t7 ay aK A B) (c:=56) (l:=l) λ t _=>Q1 hA hB t
 omega
def wC {a kd:Nat}{raw:Z4}{l:GU}{e:Nat}(he:e<=1)(hr:raw.length<=65535)(hk:l.length<=65535):sm (r7 a kd raw l e)<=3800000:=by
 rw[gr]
 split
 ·have h1:=CV (a:=a) he hr
  unfold ry at h1 ⊢;rw[io,cF];have h2:sm ((raw.take raw.length).map Ks)<=8*((raw.take raw.length).map Ks).length:=DK λ x hx=>by
   obtain⟨y,_,rfl⟩:=List.mem_map.1 hx;exact Wl 8
  rw[Wj,Wi,Nat.min_self]at h2;have h3:=sd a;have h4:sm (TC e a raw.length)=1+(2+(fM a+(16+(16+0)))):=rfl;omega
 ·split
  ·rw[i9,cF]
   have h1:=DL (eE dT) (eE gL) (kX e 1) l;have h2:=uU (eE dT) 256 0 0;have h3:sm (kX e 1)=3:=rfl;omega
  ·have G:=MQ l hk
   rw[ja,cF];have h1:=DL G.oL G.oB (Ez e l) l;have h2:=uU G.oL 256 0 0;have h3:=DK (c:=32) (X:=Ez e l) λ x hx=>(se he hk x hx).2
   have h4:=sf (e:=e) hk;omega
def aE (P:GB)(kd:Nat)(raw:Z4)(l:GU)(e:Nat):GB:=lk P (P++(r7 (P.length%8) kd raw l e).flatMap λ x=>nb x.v x.n)
def wE (P:GB)(kd:Nat)(raw:Z4)(l:GU)(e:Nat):aE P kd raw l e=P++(r7 (P.length%8) kd raw l e).flatMap λ x=>nb x.v x.n:=aM _ _
def DM (P:GB)(kd:Nat)(raw:Z4)(l:GU)(e:Nat):dW P (r7 (P.length%8) kd raw l e) (r7 (P.length%8) kd raw l e).length=aE P kd raw l e:=by
 rw[pa,wE,WN (Wl _)]
def DN (a kd:Nat)(raw:Z4)(l:GU):Nat:=lk l (sm (r7 a kd raw l 0))
def sH (a kd:Nat)(raw:Z4)(l:GU):DN a kd raw l=sm (r7 a kd raw l 0):=aM _ _
def zb (e k:Nat):sm (kX e k)=3:=rfl
def sI {α:Type}(H:GR)(g:α->GR)(l:List α)(i:Nat):sm (cI H g l i)=sm H+sm ((l.take i).flatMap g):=by rw[gq,cF]
def DO (a kd:Nat)(raw:Z4)(l:GU)(e:Nat):sm (r7 a kd raw l e)=sm (r7 a kd raw l 0):=by
 rw[gr,gr]
 by_cases h0:kd=0
 ·rw[ZF h0,ZF h0];unfold ry;rw[io,io,cF,cF];rfl
 ·rw[ZE h0,ZE h0]
  by_cases h1:kd=1
  ·rw[ZF h1,ZF h1,i9,i9,cF,cF,gl,gl,cF,cF,zb,zb]
  ·rw[ZE h1,ZE h1,ja,ja,cF,cF,gl,gl,cF,cF,lJ,lJ,sI,sI,sI,sI,cF,cF,zb,zb]
def uV:∀X:GR,(X.flatMap λ x=>nb x.v x.n).length=sm X
 |[]=>rfl
 |x::X=>by rw[XE,Wc,ln,uV X,ns]
def GI (P:GB)(kd:Nat)(raw:Z4)(l:GU)(e:Nat):(aE P kd raw l e).length=P.length+DN (P.length%8) kd raw l:=by
 rw[wE,Wc,uV,DO,sH]
def sJ {a kd:Nat}{raw:Z4}{l:GU}(hr:raw.length<=65535)(hk:l.length<=65535):DN a kd raw l<=3800000:=by rw[sH];exact wC (W5 1) hr hk
def DP {a kd:Nat}(ha:a<=7)(hkd:kd<=2){raw:Z4}{r:Nat}(hr:r=raw.length)(hr2:r<=65535){l:GU}{k:Nat}(hk:k=l.length)(hk2:k<=65535)(hl:∀i,mF (l.getD i lb))(last:Bool):OfV a kd raw r l k last (r7 a kd raw l (if last then 1 else 0)):=by
 subst hr hk;have he:(if last then 1 else 0)<=1:=by cases last<;>decide
 exact⟨Uq a kd ha hkd raw hr2 l hk2 (λ i=>(hl i).may) last,λ i=>CS (Lg he hr2 hk2 λ i=>(hl i).may) i,Gc hr2 hk2⟩
def zd (a kd:Nat)(raw:Z4)(l:GU)(e:Nat):0<(r7 a kd raw l e).length:=by
 rw[gr]
 split
 ·unfold ry;rw[kA (Wl _)];omega
 ·split
  ·rw[i9,Wc];exact WX (by decide) (Nat.le_add_left 2 _)
  ·rw[ja,Wc];exact WX (by decide) (Nat.le_add_left 2 _)
def Q2 (P:GB)(m:Nat)(hm:m=(pk P).length)(hP:P.length<=4000000)(kd:Nat)(hkd:kd<=2)(raw:Z4)(r:Nat)(hr:r=raw.length)(hr2:r<=65535)(l:GU)(k:Nat)(hk:k=l.length)(hk2:k<=65535)(hl:∀i,mF (l.getD i lb)):S0 57 [vW m P,fK kd,.sl Gd r 1 (raw.map dB),.sl Gd k 3 (l.flatMap aY),.v (.bool Ga)] [] (.tup [.agg [.ref 0 0 0 (pk (aE P kd raw l 1)).length 1,nD (aE P kd raw l 1).length],iD 0]) [⟨(pk (aE P kd raw l 1)).map dB, 5,Ga⟩]:=by
 have hO:=DP (a:=P.length%8) om hkd hr hr2 hk hk2 hl Ga;have hS:=wC (a:=P.length%8) (kd:=kd) (raw:=raw) (l:=l) (e:=1) (by decide) om om;have h:=DE P m hm kd raw r hr hr2 l k hk hk2 hl Ga _ hO (zd _ _ _ _ _) (by rw[sG];show P.length+sm (r7 (P.length%8) kd raw l 1)<=_;omega) hkd;have e1:=DM P kd raw l 1;rw[show(if Ga=Ga then 1 else 0)=1 from rfl,e1]at h;exact h
def Q3 (P:GB)(m:Nat)(hm:m=(pk P).length)(hP:P.length<=4000000)(kd:Nat)(hkd:kd<=2)(raw:Z4)(r:Nat)(hr:r=raw.length)(hr2:r<=65535)(l:GU)(k:Nat)(hk:k=l.length)(hk2:k<=65535)(hl:∀i,mF (l.getD i lb)):S0 57 [vW m P,fK kd,.sl Gd r 1 (raw.map dB),.sl Gd k 3 (l.flatMap aY),.v (.bool Gd)] [] (.tup [.agg [.ref 0 0 0 (pk (aE P kd raw l 0)).length 1,nD (aE P kd raw l 0).length],iD 0]) [⟨(pk (aE P kd raw l 0)).map dB, 5,Ga⟩]:=by
 have hO:=DP (a:=P.length%8) om hkd hr hr2 hk hk2 hl Gd;have hS:=wC (a:=P.length%8) (kd:=kd) (raw:=raw) (l:=l) (e:=0) (by decide) om om;have h:=DE P m hm kd raw r hr hr2 l k hk hk2 hl Gd _ hO (zd _ _ _ _ _) (by rw[sG];show P.length+sm (r7 (P.length%8) kd raw l 0)<=_;omega) hkd;have e1:=DM P kd raw l 0;rw[show(if Gd=Ga then 1 else 0)=0 from rfl,e1]at h;exact h
attribute [local simp] bM
def Q4 (a:Nat)(ha:a<=7)(kd:Nat)(hkd:kd<=2)(raw:Z4)(r:Nat)(hr:r=raw.length)(hr2:r<=65535)(l:GU)(k:Nat)(hk:k=l.length)(hk2:k<=65535)(hl:∀i,mF (l.getD i lb))(X:GR)(hO:OfV a kd raw r l k Gd X):S0 47 [nD a,fK kd,.sl Gd r 1 (raw.map dB),.sl Gd k 3 (l.flatMap aY)] [] (.tup [nD (pm X),iD 0]) []:=by
 have hX:=hO.ok;have hXl:=hO.len;have hcl:ab (X.flatMap aC)=true:=cm (λ _=>rfl) X;refine SpR Tryz.func47 rfl rfl rfl trivial rfl 1000 64 (λ R ok=>.F 12 (Ao (7<(a:Int))) (by(refine decide_eq_false ?_;(omega)))<|.C 4 64 Gd [] (.fn Vi (@y0 (l) (k) om om om (raw) (r) om om (kd) om))<|.C 10 65 Gd [] (.fn Vj (@UR (a) (kd) (raw) (r) (l) (k) (Gd) (X) aG))<|.L 1 66 Gd [] (Ga&&(Ga&&(wB (v8 aC X) (v0 X) 2&&Ga))&&Ga) (by unfold wB;(simp only[bM,WE,Xk,aa9,cond_true,WM,WV,hcl,XM];omega)) ([D.ep [Wu (Wf 1 (v0 X)) (v0 X) 2 (bif Ga&&V9 (v0 X*2) (v0 (v8 aC X))then v8 aC X else wx (v0 X*2) (Ag 0 (v8 aC X)))] 0]) (by exact(Wn (D.sim.of_eq (by(rw[bM];simp;done))) trivial)) (Ws (ap.of Tryz.func66 rfl rfl) (@DD (Wf 1 (v0 X)) (X) (v0 X) om om om))<|.Y 2 [] [] (Xm [zN (pm X),zI 0]) [] ok) kr
def sK (a:Nat)(ha:a<=7)(kd:Nat)(hkd:kd<=2)(raw:Z4)(r:Nat)(hr:r=raw.length)(hr2:r<=65535)(l:GU)(k:Nat)(hk:k=l.length)(hk2:k<=65535)(hl:∀i,mF (l.getD i lb)):S0 47 [nD a,fK kd,.sl Gd r 1 (raw.map dB),.sl Gd k 3 (l.flatMap aY)] [] (.tup [nD (DN a kd raw l),iD 0]) []:=by
 have h:=Q4 a ha kd hkd raw r hr hr2 l k hk hk2 hl _ (DP ha hkd hr hr2 hk hk2 hl Gd);rw[sG,DO,<-sH]at h;exact h
def MT (a:Nat)(raw:Z4)(l:GU):Nat:=lk l (DN a 0 raw l)
def MU (a:Nat)(raw:Z4)(l:GU):Nat:=lk l (DN a 1 raw l)
def MV (a:Nat)(raw:Z4)(l:GU):Nat:=lk l (DN a 2 raw l)
def wF (a:Nat)(raw:Z4)(l:GU):MT a raw l=DN a 0 raw l:=aM _ _
def wG (a:Nat)(raw:Z4)(l:GU):MU a raw l=DN a 1 raw l:=aM _ _
def wH (a:Nat)(raw:Z4)(l:GU):MV a raw l=DN a 2 raw l:=aM _ _
def Q5 (x y z:Nat):Nat:=if y<x then(if z<y then 2 else 1)else if z<x then 2 else 0
def az (a:Nat)(raw:Z4)(l:GU):Nat:=lk l (Q5 (MT a raw l) (MU a raw l) (MV a raw l))
def wI (a:Nat)(raw:Z4)(l:GU):az a raw l=Q5 (MT a raw l) (MU a raw l) (MV a raw l):=aM _ _
def UU {x:Nat}{n:Int}(h:n=((x:Nat):Int)):Xm [D.v (.int .u8 n),D.v (.int .i64 0)]=Xm [fK x,iD 0]:=by subst h;rfl
def lX (a:Nat)(raw:Z4)(l:GU):az a raw l<=2:=by rw[wI];unfold Q5;split<;>split<;>decide
def GJ (a:Nat)(ha:a<=7)(raw:Z4)(r:Nat)(hr:r=raw.length)(hr2:r<=65535)(l:GU)(k:Nat)(hk:k=l.length)(hk2:k<=65535)(hl:∀i,mF (l.getD i lb)):S0 47 [nD a,fK 0,.sl Gd r 1 (raw.map dB),.sl Gd k 3 (l.flatMap aY)] [] (.tup [nD (MT a raw l),iD 0]) []:=by
 have h:=sK a ha 0 (by decide) raw r hr hr2 l k hk hk2 hl
 rwa [<-wF]at h
def GK (a:Nat)(ha:a<=7)(raw:Z4)(r:Nat)(hr:r=raw.length)(hr2:r<=65535)(l:GU)(k:Nat)(hk:k=l.length)(hk2:k<=65535)(hl:∀i,mF (l.getD i lb)):S0 47 [nD a,fK 1,.sl Gd r 1 (raw.map dB),.sl Gd k 3 (l.flatMap aY)] [] (.tup [nD (MU a raw l),iD 0]) []:=by
 have h:=sK a ha 1 (by decide) raw r hr hr2 l k hk hk2 hl
 rwa [<-wG]at h
def ze (a:Nat)(ha:a<=7)(raw:Z4)(r:Nat)(hr:r=raw.length)(hr2:r<=65535)(l:GU)(k:Nat)(hk:k=l.length)(hk2:k<=65535)(hl:∀i,mF (l.getD i lb)):S0 47 [nD a,fK 2,.sl Gd r 1 (raw.map dB),.sl Gd k 3 (l.flatMap aY)] [] (.tup [nD (MV a raw l),iD 0]) []:=by
 have h:=sK a ha 2 (by decide) raw r hr hr2 l k hk hk2 hl
 rwa [<-wH]at h
def Jl (a:Nat)(ha:a<=7)(raw:Z4)(r:Nat)(hr:r=raw.length)(hr2:r<=65535)(l:GU)(k:Nat)(hk:k=l.length)(hk2:k<=65535)(hl:∀i,mF (l.getD i lb)):S0 58 [nD a,.sl Gd r 1 (raw.map dB),.sl Gd k 3 (l.flatMap aY)] [] (.tup [fK (az a raw l),iD 0]) []:=by
 have l0:=sJ (a:=a) (kd:=0) (raw:=raw) (l:=l) om om;rw[<-wF]at l0;have l1:=sJ (a:=a) (kd:=1) (raw:=raw) (l:=l) om om;rw[<-wG]at l1;have l2:=sJ (a:=a) (kd:=2) (raw:=raw) (l:=l) om om;rw[<-wH]at l2;refine SpR Tryz.func58 rfl rfl rfl trivial rfl 1000 64 (λ R ok=>.L 39 47 Gd [] (Ga) wr ([zN a,bI 0,Wu Gd r 1 (wo dB raw),Wu Gd k 3 (v8 aY l)]) Su (.fn Q47 (@GJ (a) om (raw) (r) om om (l) (k) om om om))<|.L 61 47 Gd [] (Ga) wr ([zN a,bI 1,Wu Gd r 1 (wo dB raw),Wu Gd k 3 (v8 aY l)]) Su (.fn Q47 (@GK (a) om (raw) (r) om om (l) (k) om om om))<|.B 29 ((↑(MU a raw l):Int)<(↑(MT a raw l):Int)) (λ p0 Z9=>.L 32 47 Gd [] (Ga) wr ([zN a,bI 2,Wu Gd r 1 (wo dB raw),Wu Gd k 3 (v8 aY l)]) Su (.fn Q47 (@ze (a) om (raw) (r) om om (l) (k) om om om))<|.B 29 ((↑(MV a raw l):Int)<(↑(MU a raw l):Int)) (λ p1 Z8=>.U 14 [] [] (Xm [bI 2,zI 0]) [] R (ok _ _ Sv wr)) (λ p1 Z8=>.U 10 [] [] (Xm [bI 1,zI 0]) [] R (ok _ _ Sv wr))) (λ p0 Z9=>.L 28 47 Gd [] (Ga) wr ([zN a,bI 2,Wu Gd r 1 (wo dB raw),Wu Gd k 3 (v8 aY l)]) Su (.fn Q47 (@ze (a) om (raw) (r) om om (l) (k) om om om))<|.B 29 ((↑(MV a raw l):Int)<(↑(MT a raw l):Int)) (λ p2 Z7=>.U 14 [] [] (Xm [bI 2,zI 0]) [] R (ok _ _ Sv wr)) (λ p2 Z7=>.U 10 [] [] (Xm [bI 0,zI 0]) [] R (ok _ _ Sv wr)))) kr
def bt (X:GR):GB:=X.flatMap λ x=>nb x.v x.n
def fh (X Y:GR):bt (X++Y)=bt X++bt Y:=Xj
def GL (x:Nm)(X:GR):bt (x::X)=nb x.v x.n++bt X:=rfl
def wJ:∀X:GR,(bt X).length=sm X
 |[]=>rfl
 |x::r=>by rw[GL,Wc,ln,wJ r,ns]
def DQ:∀n,bt (Wt n ⟨0,1⟩)=nb 0 n
 |0=>(Aa 0).symm
 |n+1=>by
  rw[aaZ,fh,DQ n,mX]
  congr 1
  show nb 0 1++[]=_;rw[Xn,mX,Aa,List.nil_append,abG,abG]
structure NuV (a kd:Nat)(raw:Z4)(r:Nat)(l:GU)(k:Nat)(last:Bool)(X:GR):Prop where
 s:S0 79 [nD a,fK kd,.sl Gd r 1 (raw.map dB),.sl Gd k 3 (l.flatMap aY),bD last] [] (.ref 0 0 0 X.length 2) [⟨X.flatMap aC, 169,Ga⟩]
 b:bt X=bt (r7 a kd raw l last.toNat)
 ok:∀i,(X.getD i lb).v<4294967296/\(X.getD i lb).n<=32
 len:X.length<=100000
 pos:0<X.length
def wK {X:GR}(h:gw X)(i:Nat):(X.getD i lb).v<4294967296/\(X.getD i lb).n<=32:=by
 have:=CS h i;exact⟨WX this.1 (Xh (n:=2) (by decide) this.2),this.2⟩
section
variable {T1 T2:List Sy} {A B:List (Nat×Nat)}
def L8 {t:Tn}:∀x∈AE T1 T2 A B t,x∈t7 T1 T2 A B t:=λ x h=>by
 unfold AE at h;unfold t7
 by_cases q:t.long=0
 ·rw[ZF q]at h ⊢
  rw[List.mem_singleton.1 h];exact WH
 ·rw[ZE q]at h ⊢
  exact h
def Q6 (t:Tn):bt (AE T1 T2 A B t)=bt (t7 T1 T2 A B t):=by
 unfold AE t7;split
 ·show nb _ _++[]=nb _ _++(nb 0 0++[]);rw[Aa];rfl
 ·rfl
def DR:∀l:GU,bt (l.flatMap (AE T1 T2 A B))=bt (l.flatMap (t7 T1 T2 A B))
 |[]=>rfl
 |t::r=>by rw[XE,XE,fh,fh,Q6,DR r]
end
def Q7 (C:List (Nat×Nat))(s:Nat):bt [uM C s]=bt (iG C s 0 0):=by
 show nb _ _++[]=nb _ _++(nb 0 0++[]);rw[Aa];rfl
def zf {C:List (Nat×Nat)}(h:jU C)(s:Nat):gw [uM C s]:=bZ ⟨oi _ _,Ww (h s).1 (by decide)⟩ iw
def DS {A B:List (Nat×Nat)}(hA:jU A)(hB:jU B){l:GU}(hl:∀t∈l,bY t)(i:Nat):gw (fy ay aK A B l i):=by
 rw[oX];exact r8 λ t ht x hx=>CU hA hB (hl t (Xs ht)) x (L8 x hx)
def DT {A B:List (Nat×Nat)}{H:GR}{l:GU}{s:Nat}:bt H++bt (fy ay aK A B l l.length++[uM A s])=bt (ba ay aK A B H l l.length++iG A s 0 0):=by
 rw[oX,gl,fh,fh,fh,Q7,WN (Wl _),DR,WI]
def Q8 {a:Nat}{raw:Z4}{l:GU}(ha:a<=7)(hr:raw.length<=65535)(last:Bool):∃X,NuV a 0 raw raw.length l l.length last X:=by
 have hp:=sd a;have he:last.toNat<=1:=by cases last<;>decide
 refine⟨_,QW last _ rfl a ha raw _ rfl hr _ _ _ rfl rfl rfl l.length (l.flatMap aY) (dO l),?_,wK ?_,?_,?_⟩
 ·rw[gr,ZF rfl,lW,lV]
  unfold ry;rw[io,fh,fh,fh,fh,DQ]
  congr 1
 ·rw[lW,lV]
  refine cO (cO (cO (r9 he (by decide)) λ x hx=>?_) (bZ ⟨show raw.length<2^16 by omega,Wm rfl⟩ (bZ ⟨show 65535-raw.length<2^16 by omega,Wm rfl⟩ iw))) λ x hx=>?_
  ·rw[List.eq_of_mem_replicate hx];exact⟨by decide,Wm rfl⟩
  ·obtain⟨y,hy,rfl⟩:=List.mem_map.1 hx
   exact⟨y.toNat_lt,Wm rfl⟩
 ·rw[sE _ (Wl _),Wc,sD];show 2+fM a+2+_<=_;omega
 ·rw[sE _ (Wl _),Wc,sD];show 0<2+fM a+2+_;omega
def Q9 {a:Nat}{raw:Z4}{l:GU}(ha:a<=7)(hr:raw.length<=65535)(hk:l.length<=20000)(hl:∀i,bY (l.getD i lb))(last:Bool):∃X,NuV a 1 raw raw.length l l.length last X:=by
 have he:last.toNat<=1:=by cases last<;>decide
 have q1:=eE dT;have q2:=eE gL;have le:=jb (T1:=ay) (T2:=aK) (A:=aa cd) (B:=aa dS) (l:=l) l.length (Wl _);have ql:(fy ay aK (aa cd) (aa dS) l l.length++[uM (aa cd) 256]).length<=90000:=by
  rw[Wc];show _+1<=_;omega
 have lm:(aa cd).length=288:=by rw[ju];decide+kernel
 have fm:(aa dS).length=32:=by rw[ju];decide+kernel
 refine⟨_,QZ last _ rfl a ha raw _ rfl hr l _ rfl om hl _ _ rfl rfl (by decide) (by decide) cH di _ _ rfl rfl (by decide+kernel) (by decide+kernel) lm fm q1 q2 (λ i hi=>⟨λ _=>?_,λ h0=>?_⟩) _ ⟨rfl⟩ (Ww ql (by decide)) _ rfl,?_,wK ?_,?_,?_⟩
 ·have:=(l.getD i lb).lit.toNat_lt;omega
 ·have:=bb rfl rfl (hl i) h0;omega
 ·rw[gr,ZE (by decide),ZF rfl,i9,fh,DT]
 ·exact cO (r9 he (by decide)) (cO (DS q1 q2 (nr hl) _) (zf q1 _))
 ·rw[Wc];show 2+_<=_;omega
 ·rw[Wc];show 0<2+_;omega
def Ra {a:Nat}{raw:Z4}{l:GU}(ha:a<=7)(hr:raw.length<=65535)(hk:l.length<=20000)(hl:∀i,bY (l.getD i lb))(last:Bool):∃X,NuV a 2 raw raw.length l l.length last X:=by
 have he:last.toNat<=1:=by cases last<;>decide
 have G:=MQ l (show l.length<=65535 by omega);have eL:np l=(bE (aL 286 (bV ay l l.length++[256])) 15).take (gO (bE (aL 286 (bV ay l l.length++[256])) 15) 257):=by rw[rX,ff]
 have eB:rW l=(bE (aL 30 (dl aK l l.length)) 15).take (gO (bE (aL 30 (dl aK l l.length)) 15) 1):=by rw[rY,ff]
 have eO:yC l=(iK (nq l) 19).take (gO (iK (nq l) 19) 4):=by rw[rZ,ff]
 have le:=jb (T1:=ay) (T2:=aK) (A:=aa (np l)) (B:=aa (rW l)) (l:=l) l.length (Wl _);have ql:(fy ay aK (aa (np l)) (aa (rW l)) l l.length++[uM (aa (np l)) 256]).length<=90000:=by
  rw[Wc];show _+1<=_;omega
 obtain⟨H5,h5⟩:∃H5,H5=cI (cI [⟨(np l).length-257,5⟩,⟨(rW l).length-1,5⟩,⟨(yC l).length-4,4⟩] gJ (yC l) (yC l).length) (iv (aa (nq l))) (ve l) (ve l).length:=⟨_,rfl⟩
 have e5:kX last.toNat 2++H5=Ez last.toNat l:=by
  rw[h5,lJ,gq,gq,gq,gq,WI,WI,WI]
 have l5:H5.length<=1000:=by
  have:=congrArg aaq e5;have h2:=sf (e:=last.toNat) (l:=l) om;rw[Wc]at this;omega
 have o5:gw (kX last.toNat 2++H5):=by rw[e5];exact se he om
 refine⟨(kX last.toNat 2++H5)++(fy ay aK (aa (np l)) (aa (rW l)) l l.length++[uM (aa (np l)) 256]),?_,?_,wK ?_,?_,?_⟩
 ·refine Q0 last _ rfl a ha raw _ rfl hr l _ rfl om hl _ _ rfl rfl (by decide) (by decide) cH di _ _ _ _ _ _ _ _ _ _ _ (r6 l) _ _ H5 rfl rfl ?_ om _ ⟨?_⟩ (Ww ql (by decide)) _ rfl
  ·rw[h5,G.lL,G.lB,G.lO,eO]
  ·rw[<-eL,<-eB]
 ·rw[gr,ZE (by decide),ZE (by decide),ja,fh,e5,DT]
 ·exact cO o5 (cO (DS G.oL G.oB (nr hl) _) (zf G.oL _))
 ·rw[Wc,Wc];show 2+_+_<=_;omega
 ·rw[Wc,Wc];show 0<2+_+_;omega
def zg {a kd:Nat}{raw:Z4}{l:GU}(ha:a<=7)(hkd:kd<=2)(hr:raw.length<=65535)(hk:l.length<=20000)(hl:∀i,bY (l.getD i lb))(last:Bool):∃X,NuV a kd raw raw.length l l.length last X:=by
 rcases(show kd=0\/kd=1\/kd=2 by omega)with h|h|h
 ·subst h;exact Q8 ha hr last
 ·subst h;exact Q9 ha hr hk hl last
 ·subst h;exact Ra ha hr hk hl last
def VM(h:p:=by exact(Wn (D.sim.slc (cells:=[Wu nnh h 1 (wo dB H),Wu nnr r 1 (wo dB raw)]) (cells':=[Wu Gd h 1 (wo dB H),Wu Gd r 1 (wo dB raw)]) rfl (Wn (D.sim.slw rfl rfl) (Wn (D.sim.slw rfl rfl) trivial))) trivial)):=h
def VN(h:p:=by exact(Wn (D.sim.slw rfl (ao (by(simp <;>(omega)))|>.trans rfl)) (qr (qr trivial)))):=h
abbrev af (sz ch:Nat)(lz:Bool)(H raw:Z4):GU:=F3 (H++raw) H.length sz ch lz
def bh (sz ch:Nat)(lz:Bool)(H raw:Z4):(af sz ch lz H raw).length<=raw.length:=by
 have:=F4 (H++raw) H.length sz ch lz;rw[Wc]at this;show(F3 (H++raw) H.length sz ch lz).length<=_;omega
def Jm (H raw:Z4)(n q:Nat)(hn:n=H.length+raw.length)(hN:n<=131072)(hq:q=H.length)(sz ch mo:Nat)(lz:Bool)(hs:1<=sz/\sz<=32768)(hc:ch<=256)(hm:1<=mo/\mo<=65535):S0 67 [.sl Gd n 1 ((H++raw).map dB),nD q,Sr sz ch mo lz] [] (.tup [.ref 0 0 0 (af sz ch lz H raw).length 3,iD 0]) [⟨(af sz ch lz H raw).flatMap aY, 119,Ga⟩]:=by
 subst hq;exact PB (H++raw) n H.length (by rw[Wc];exact hn) hN om sz ch mo lz hs hc hm _ rfl
def Rb (sz ch mo:Nat)(lz:Bool)(hs:1<=sz/\sz<=32768)(hc:ch<=256)(hmo:1<=mo/\mo<=65535)(nnh nnr:Bool)(H:Z4)(h:Nat)(hh:h=H.length)(hh2:h<=65536)(x5 x6 x7 x8 x9:D)(raw:Z4)(r:Nat)(hr:r=raw.length)(hr2:r<=65535):S0 48 [.ep [nD sz,nD ch,nD mo,bD lz,.sl nnh h 1 (H.map dB),x5,x6,x7,x8,x9] 0,.sl nnr r 1 (raw.map dB)] [] (.ref 0 0 0 (af sz ch lz H raw).length 3) [⟨(af sz ch lz H raw).flatMap aY, 119,Ga⟩]:=SpR Tryz.func48 rfl rfl rfl ⟨cV (λ _=>rfl) _,trivial⟩ rfl 1000 64 (λ R ok=>.L 17 68 Gd [] (Ga) wr ([Wu Ga 2 1 [Wu nnh h 1 (wo dB H),Wu nnr r 1 (wo dB raw)]]) VM (.fn Q68 (@K4 (Gd) (Gd) (H) (raw) (h) (r) om om om om))<|.L 25 67 Gd [] (Ga&&(wB (wo dB (H++raw)) (h+r) 1)&&Ga) (by unfold wB;(simp <;>(omega))) ([wD (wo dB (H++raw)) (h+r) 1,zN h,W6 [zN sz,zN ch,zN mo,D.v (.bool lz)]]) VN (Ws (ap.of Tryz.func67 rfl rfl) (@Jm (H) (raw) (h+r) (h) om om om (sz) (ch) (mo) (lz) om om om))<|.Y 9 [160] [160] (Wb 0 0 0 (v0 (af sz ch lz H raw)) 3) [V8 (v8 aY (af sz ch lz H raw)) 119 Ga] ok) kr
def Jn (sz ch mo:Nat)(lz:Bool)(hs:1<=sz/\sz<=32768)(hc:ch<=256)(hmo:1<=mo/\mo<=65535)(nnh nnr:Bool)(H:Z4)(h:Nat)(hh:h=H.length)(hh2:h<=65536)(raw:Z4)(r:Nat)(hr:r=raw.length)(hr2:r<=65535):S0 48 [.ep [nD sz,nD ch,nD mo,bD lz,.sl nnh h 1 (H.map dB)] 0,.sl nnr r 1 (raw.map dB)] [] (.ref 0 0 0 (af sz ch lz H raw).length 3) [⟨(af sz ch lz H raw).flatMap aY, 119,Ga⟩]:=SpR Tryz.func48 rfl rfl rfl ⟨cV (λ _=>rfl) _,trivial⟩ rfl 1000 64 (λ R ok=>.L 17 68 Gd [] (Ga) wr ([Wu Ga 2 1 [Wu nnh h 1 (wo dB H),Wu nnr r 1 (wo dB raw)]]) VM (.fn Q68 (@K4 (Gd) (Gd) (H) (raw) (h) (r) om om om om))<|.L 25 67 Gd [] (Ga&&(wB (wo dB (H++raw)) (h+r) 1)&&Ga) (by unfold wB;(simp <;>(omega))) ([wD (wo dB (H++raw)) (h+r) 1,zN h,W6 [zN sz,zN ch,zN mo,D.v (.bool lz)]]) VN (Ws (ap.of Tryz.func67 rfl rfl) (@Jm (H) (raw) (h+r) (h) om om om (sz) (ch) (mo) (lz) om om om))<|.Y 9 [160] [160] (Wb 0 0 0 (v0 (af sz ch lz H raw)) 3) [V8 (v8 aY (af sz ch lz H raw)) 119 Ga] ok) kr
def GM:S0 37 [aP] [] aP []:=SpR Tryz.func37 rfl rfl rfl trivial rfl 1000 64 (λ R ok=>.Y 6 [] [] (zS) [] ok) kr
def L9 (bs:Z4)(hn:bs.length<=10000000):S0 37 [.sl Ga bs.length 1 (bs.map dB)] [] (.ref 0 0 0 bs.length 1) [⟨bs.map dB, 5,Ga⟩]:=SpR Tryz.func37 rfl rfl rfl ⟨aH _,trivial⟩ rfl 1000 64 (λ R ok=>.K 9 (Ga&&Wf ((0+v0 bs)*1) 140737488355328) (by(refine We ?_;(omega)))<|.U 1 [40] [40] (Wb 0 0 0 (0+v0 bs) 1) [V8 (wo dB bs) 5 Ga] R (ok _ _ (by(simp;done)) wr)) kr
def Rc (bs:Z4)(n:Nat)(h1:n=bs.length)(hn:n<=10000000):S0 37 [.sl Gd n 1 (bs.map dB)] [] (.ref 0 0 0 n 1) [⟨bs.map dB, 5,Ga⟩]:=by
 subst h1;exact zC.nilSplit GM (L9 bs hn) id
def Rd (sz ch mo:Nat)(lz:Bool)(hs:1<=sz/\sz<=32768)(hc:ch<=256)(hm:1<=mo/\mo<=65535):S0 29 [Sr sz ch mo lz] [] (iD 0) []:=Vt.sty_t0 (sz:Int) (ch:Int) (mo:Int) lz (Vt.mayS_iff.2 om)
def DU (sz ch mo:Nat)(lz:Bool)(hs:1<=sz/\sz<=32768)(hc:ch<=256)(hmo:1<=mo/\mo<=65535)(H:Z4)(h:Nat)(hh:h=H.length)(hh2:h<=sz)(W:Z4)(w:Nat)(hw:w=W.length)(hw2:w<mo)(P:GB)(m:Nat)(hm:m=(pk P).length)(hP:P.length<8)(ov:Bool)(hov:ov=Ga->w=0/\P.length=0):S0 18 [.agg [nD sz,nD ch,nD mo,bD lz,.sl Gd h 1 (H.map dB),.sl Gd w 1 (W.map dB),.sl Gd m 1 ((pk P).map dB),nD P.length,bD ov]] [] (iD 0) []:=SpR Tryz.func18 rfl rfl rfl trivial rfl 1000 64 (λ R ok=>.C 11 29 Gd [] (.fn NC (@Rd (sz) (ch) (mo) (lz) om om om))<|.E 31 (Ao ((h:Int)<=sz)) (by(refine decide_eq_true ?_;(omega)))<|.C 33 43 Gd [] (.fn JX (@oh (P) (m) om om))<|.E 21 (Ao ((↑(v0 P):Int)<8)) (by(refine decide_eq_true ?_;(omega)))<|.R 11 (!ov) (λ p0=>have Z9:=(cT p0);.F 22 (!Ao ((w:Int)<mo)) (by(simp <;>(omega)))<|.Y 5 [] [] (zI 0) [] ok) (λ p0=>have Z9:=(cU p0);.E 14 ((w:Int)==0) (by(simp_all;done))<|.F 23 (!Ao ((w:Int)<mo)) (by(simp <;>(omega)))<|.F 3 (!(↑(v0 P):Int)==0) (by(simp_all;done))<|.Y 1 [] [] (zI 0) [] ok)) kr
def GN(h:p:=by(simp;have y1:=bP (P:=P) (kd:=az P.length (wx mo (Ag (o+0) W0)) (af sz ch lz H (wx mo (Ag (o+0) W0)))) (raw:=(wx mo (Ag (o+0) W0))) (l:=(af sz ch lz H (wx mo (Ag (o+0) W0)))) (e:=0) (by rw[Wi];omega) (by refine Ww (bh _ _ _ _ _) ?_;rw[Wi];omega);have y3:=ag (aE P (az P.length (wx mo (Ag (o+0) W0)) (af sz ch lz H (wx mo (Ag (o+0) W0)))) (wx mo (Ag (o+0) W0)) (af sz ch lz H (wx mo (Ag (o+0) W0))) 0);have y4:=bx sz H (wx mo (Ag (o+0) W0));omega)):=h
def Sw(h:p:=by((repeat' (first|(refine aA ?_ ?_)|(with_reducible rfl)|(refine pd ?_)|exact aR _|exact hclT _|(refine We ?_)))<;>(try simp only[Wj,dO,WE])<;>(have y1:=bP (P:=P) (kd:=az P.length (wx mo (Ag (o+0) W0)) (af sz ch lz H (wx mo (Ag (o+0) W0)))) (raw:=(wx mo (Ag (o+0) W0))) (l:=(af sz ch lz H (wx mo (Ag (o+0) W0)))) (e:=0) (by rw[Wi];omega) (by refine Ww (bh _ _ _ _ _) ?_;rw[Wi];omega);have y3:=ag (aE P (az P.length (wx mo (Ag (o+0) W0)) (af sz ch lz H (wx mo (Ag (o+0) W0)))) (wx mo (Ag (o+0) W0)) (af sz ch lz H (wx mo (Ag (o+0) W0))) 0);have y4:=bx sz H (wx mo (Ag (o+0) W0));omega))):=h
def kU(h:p:=by unfold wB;exact Sw):=h
def VO(h:p:=by exact(Wn (D.sim.of_eq (by(simp;done))) (Wn (D.sim.slN rfl ((ar (W0) (o+0) (mo*1)).trans (by(simp;done)))) trivial))):=h
def VP(h:p:=by(refine Ww (bh _ _ _ _ _) ?_;rw[Wi];omega)):=h
def VQ(h:p:=by(have y1:=bP (P:=P) (kd:=az P.length (wx mo (Ag (o+0) W0)) (af sz ch lz H (wx mo (Ag (o+0) W0)))) (raw:=(wx mo (Ag (o+0) W0))) (l:=(af sz ch lz H (wx mo (Ag (o+0) W0)))) (e:=0) (by rw[Wi];omega) (by refine Ww (bh _ _ _ _ _) ?_;rw[Wi];omega);have y3:=ag (aE P (az P.length (wx mo (Ag (o+0) W0)) (af sz ch lz H (wx mo (Ag (o+0) W0)))) (wx mo (Ag (o+0) W0)) (af sz ch lz H (wx mo (Ag (o+0) W0))) 0);have y4:=bx sz H (wx mo (Ag (o+0) W0));simp only[Wj,Wi,WM,WV,Wh,Yh,XM];omega)):=h
def bP {P:GB}{kd:Nat}{raw:Z4}{l:GU}{e:Nat}(hr:raw.length<=65535)(hk:l.length<=65535):(aE P kd raw l e).length<=P.length+3800000:=by
 rw[GI];have:=sJ (a:=P.length%8) (kd:=kd) hr hk;omega
def uW (sz:Nat)(H raw:Z4):Z4:=(H++raw).drop ((H++raw).length-sz)
def bx (sz:Nat)(H raw:Z4):(uW sz H raw).length=min (H.length+raw.length) sz:=by
 unfold uW;rw[Wy,Wc];omega
def dU (sz ch:Nat)(lz:Bool)(H raw:Z4)(P:GB)(e:Nat):GB:=aE P (az P.length raw (af sz ch lz H raw)) raw (af sz ch lz H raw) e
structure Ls where
 H:Z4
 P:GB
 w:Z4
 O:Z4
def Jo (sz ch mo:Nat)(lz:Bool)(s:Ls):Ls:=⟨uW sz s.H (s.w.take mo),pT (dU sz ch lz s.H (s.w.take mo) s.P 0),s.w.drop mo,s.O++pk (pA (dU sz ch lz s.H (s.w.take mo) s.P 0))⟩
def j5 (sz ch mo:Nat)(lz:Bool):Nat->Ls->Ls
 |0,s=>s
 |f+1,s=>if mo<=s.w.length then j5 sz ch mo lz f (Jo sz ch mo lz s)else s
def UV {sz ch mo:Nat}{lz:Bool}{f:Nat}{s T:Ls}(hR:j5 sz ch mo lz f s=T)(hm:1<=mo)(hf:s.w.length<=f)(h:mo<=s.w.length):j5 sz ch mo lz (f-1) (Jo sz ch mo lz s)=T:=by
 obtain⟨g,rfl⟩:∃g,f=g+1:=⟨f-1,by omega⟩
 rw[<-hR,j5,ZF h];rfl
def Re {sz ch mo:Nat}{lz:Bool}{f:Nat}{s T:Ls}(hR:j5 sz ch mo lz f s=T)(h:¬mo<=s.w.length):s=T:=by
 rw[<-hR];cases f with
 |zero=>rfl
 |succ f=>exact(ZE h).symm
def nu {sz ch mo:Nat}{lz:Bool}{f o N:Nat}{H O W0 raw:Z4}{P:GB}{T:Ls}(hR:j5 sz ch mo lz f ⟨H,P,W0.drop o,O⟩=T)(hN:W0.length=N)(hm:1<=mo)(hf:N<=o+f)(h:mo<=N-o)(hr:raw=WS mo (WT o W0)):j5 sz ch mo lz (f-1) ⟨uW sz H raw,pT (dU sz ch lz H raw P 0),W0.drop (o+mo),O++pk (pA (dU sz ch lz H raw P 0))⟩=T:=by
 subst hr;have q:=UV hR hm (by show(W0.drop o).length<=f;rw[Wy];omega) (by show mo<=(W0.drop o).length;rw[Wy];omega);unfold Jo at q;rw[show WT mo (W0.drop o)=W0.drop (o+mo)from by rw[List.drop_drop]]at q;exact q
def dG {sz ch mo:Nat}{lz:Bool}{f o N:Nat}{H O W0:Z4}{P:GB}{T:Ls}(hR:j5 sz ch mo lz f ⟨H,P,W0.drop o,O⟩=T)(hN:W0.length=N)(h:¬mo<=N-o):H=T.H/\P=T.P/\WS (N-o) (WT o W0)=T.w/\O=T.O:=by
 have q:=Re hR (by show¬mo<=(W0.drop o).length;rw[Wy];omega);subst q;exact⟨rfl,rfl,WN (by rw[Wy];omega),rfl⟩
def zh {O:Z4}{B:GB}{k:Nat}(hk:k=B.length/8):O.map dB++Yg dB (WS k (pk B))=(O++pk (pA B)).map dB:=by rw[Jj B hk,W4]
def Rf {a b c d d5 e:D}{k1 g1 n1 m1 k3 g3 n3 m3 k4 g4 n4 m4 y:Nat}{x:Int}{t:TypeId}(h1:n1=m1)(h3:n3=m3)(hx:x=((y:Nat):Int))(h4:n4=m4):(⟨[a,b,c,d,.ref k1 g1 0 n1 1,d5,.ref k3 g3 0 n3 1,D.v (.int .i64 x),e,.ref k4 g4 0 n4 1],t,Gd⟩:Blk)=⟨[a,b,c,d,.ref k1 g1 0 m1 1,d5,.ref k3 g3 0 m3 1,nD y,e,.ref k4 g4 0 m4 1],t,Gd⟩:=by subst h1 h3 hx h4;rfl
def pd {X:GA}{c:Bool}{n off:Nat}(h:ab X=Ga):ab (bif c then X else WS n (WT off X))=true:=by
 cases c
 ·exact bp.2 λ d hd=>bp.1 h d (YA (Xs hd))
 ·exact h
def DW {sz:Nat}{H raw:Z4}{k:Nat}(hk:k=(H++raw).length-sz):WT k (H++raw)=uW sz H raw:=by subst hk;rfl
def Jp (nn:Bool)(A:Z4)(n off:Nat)(hn:off+n<=A.length)(hn2:n<=10000000):S0 56 [.sl nn n 1 (bif V9 off 0&&V9 n A.length then A.map dB else(WS n (WT off A)).map dB)] [] (.ref 0 0 0 n 1) [⟨(WS n (WT off A)).map dB, 5,Ga⟩]:=by
 have e:(bif V9 off 0&&V9 n A.length then A.map dB else(WS n (WT off A)).map dB)=(WS n (WT off A)).map dB:=by
  cases h:(V9 off 0&&V9 n A.length)
  ·rfl
  ·rw[Wh]at h
   have h1:=Wk h.1;have h2:=Wk h.2;rw[cond_true,h1,XR,h2,XF]
 have hl:(WS n (WT off A)).length=n:=by rw[Wi,Wy];omega
 rw[e]
 cases nn with
 |false=>exact iF _ n hl.symm hn2
 |true=>
  have q:=Bz (WS n (WT off A)) om;rw[hl]at q;exact q
def Ma (sz ch mo:Nat)(lz:Bool)(hs:1<=sz/\sz<=32768)(hc:ch<=256)(hmo:1<=mo/\mo<=65535)(H0:Z4)(h:Nat)(hh:h=H0.length)(hh2:h<=sz)(W:Z4)(w:Nat)(hw:w=W.length)(hw2:w<mo)(P0:GB)(m:Nat)(hm:m=(pk P0).length)(hP0:P0.length<8)(b:Z4)(n:Nat)(hn:n=b.length)(hn2:n<=131072)(W0:Z4)(hW0:W0=W++b)(hW0l:W0.length=w+n)(T:Ls)(hT:j5 sz ch mo lz (w+n) ⟨H0,P0,W0.drop 0,[]⟩=T):S0 13 [.agg [nD sz,nD ch,nD mo,bD lz,.sl Gd h 1 (H0.map dB),.sl Gd w 1 (W.map dB),.sl Gd m 1 ((pk P0).map dB),nD P0.length,bD Gd],.sl Gd n 1 (b.map dB)] [] (.tup [.agg [nD sz,nD ch,nD mo,bD lz,.ref 0 0 0 T.H.length 1,.ref 1 1 0 T.w.length 1,.ref 2 2 0 (pk T.P).length 1,nD T.P.length,bD Gd],.ref 3 3 0 T.O.length 1,iD 0]) [⟨T.H.map dB, 5,Ga⟩,⟨T.w.map dB, 5,Ga⟩,⟨(pk T.P).map dB, 5,Ga⟩,⟨T.O.map dB, 5,Ga⟩]:=by
 have hPl:=ag P0;have hclT:=λ l:GU=>(cm (f:=aY) (λ _=>rfl) l)
 refine SpR Tryz.func13 rfl rfl rfl ⟨aH _,aH _,aH _,aH _,trivial⟩ rfl 1000 64 (λ R ok=>.C 21 18 Gd [] (.fn RZ (@DU (sz) (ch) (mo) (lz) om om om (H0) (h) om om (W) (w) om om (P0) (m) om om (Gd) (by(simp;done))))<|.C 20 56 Gd [] (.fn HR (@iF (H0) (h) om om))<|.C 7 56 Gd [] (.fn HR (@iF (W) (w) om om))<|.C 22 56 Gd [] (.fn HR (@iF (pk P0) (m) om om))<|.F 34 (Ao (131072<(n:Int))) (by(refine decide_eq_false ?_;(omega)))<|.K 13 (Ga&&V9 (w*1) (v0 (wo dB W))&&Ga&&Ga&&Ga&&Ga&&Wf ((w+n)*1) 140737488355328) (by(simp <;>(omega)))<|.s 1<|.nilc 280 280 (V8 [zN sz,zN ch,zN mo,D.v (.bool lz),Wb 144 144 0 h 1,Wb 168 168 0 w 1,Wb 232 232 0 m 1,zN (v0 P0),D.v (.bool Gd),zS] 68 Gd) 9 464 1 5<|.val 9 (Wb 448 448 0 (w+n) 1) (Wb 448 448 0 (w+n-0) 1) (by(simp;done))<|.blk 280 280 (V8 [zN sz,zN ch,zN mo,D.v (.bool lz),Wb 144 144 0 h 1,Wb 168 168 0 w 1,Wb 232 232 0 m 1,zN (v0 P0),D.v (.bool Gd),Wb 464 464 0 0 1] 68 Gd) (V8 [zN sz,zN ch,zN mo,D.v (.bool lz),Wb 144 144 0 (v0 H0) 1,Wb 168 168 0 w 1,Wb 232 232 0 (v0 (pk P0)) 1,zN (v0 P0),D.v (.bool Gd),Wb 464 464 0 0 1] 68 Gd) (by(simp <;>(omega)))<|.blk 448 448 (V8 (wo dB W++wo dB b) 5 Ga) (V8 (wo dB W0) 5 Ga) (by(refine aq ?_;rw[hW0,W4]))<|BY T_ok ae Gd 72 0 (am Tryz.prog 13 0) (λ(x:(H:Z4)×'(P:GB)×'(o:Nat)×'(O:Z4)×'(f:Nat)×'(hP:P.length<8)×'(hH:H.length<=sz)×'(ho:o<=w+n)×'(hf:w+n<=o+f)×'(hO:O.length<=1000000*o)×'(hR:j5 sz ch mo lz f ⟨H,P,W0.drop o,O⟩=T)×'Unit)=>match x with|⟨H,P,o,O,f,hP,hH,ho,hf,hO,hR,_⟩=>Wr [(4,WA 0 0 0),(7,WA 24 24 0),(9,(Wb 32 32 (o) (w+n-o) 1))] [⟨0,0,8,8,.b ⟨[zI 0,zI 0,zI 0,D.v (.bool Gd),zS,zS,zS,zI 0,D.v (.bool Gd)],28,Gd⟩⟩,⟨8,8,144,144,.b ⟨H.map dB,5,Ga⟩⟩,⟨16,16,232,232,.b ⟨(pk P).map dB,5,Ga⟩⟩,⟨24,24,280,280,.b ⟨[nD sz,nD ch,nD mo,bD lz,(Wb 8 8 (0) (H.length) 1),(Wb 168 168 (0) (w) 1),(Wb 16 16 (0) ((pk P).length) 1),nD P.length,bD Gd,(Wb 40 40 (0) (O.length) 1)],68,Gd⟩⟩,⟨32,32,448,448,.b ⟨W0.map dB,5,Ga⟩⟩,⟨40,40,464,464,.b ⟨O.map dB,5,Ga⟩⟩] 176) (λ(x:(H:Z4)×'(P:GB)×'(o:Nat)×'(O:Z4)×'(f:Nat)×'(hP:P.length<8)×'(hH:H.length<=sz)×'(ho:o<=w+n)×'(hf:w+n<=o+f)×'(hO:O.length<=1000000*o)×'(hR:j5 sz ch mo lz f ⟨H,P,W0.drop o,O⟩=T)×'Unit)=>match x with|⟨H,P,o,O,f,hP,hH,ho,hf,hO,hR,_⟩=>w+n-o) [⟨(o2:Nat)×'(ho2:o2<=w+n)×'(hw2:wx (w+n-o2) (Ag o2 W0)=T.w)×'Unit,.exit 0,λ x=>match x with|⟨o2,ho2,hw2,_⟩=>Wr [(4,WA 0 0 0),(7,WA 24 24 0),(9,(Wb 32 32 (o2) (w+n-o2) 1))] [⟨0,0,8,8,.b ⟨[zI 0,zI 0,zI 0,D.v (.bool Gd),zS,zS,zS,zI 0,D.v (.bool Gd)],28,Gd⟩⟩,⟨8,8,144,144,.b ⟨T.H.map dB,5,Ga⟩⟩,⟨16,16,232,232,.b ⟨(pk T.P).map dB,5,Ga⟩⟩,⟨24,24,280,280,.b ⟨[nD sz,nD ch,nD mo,bD lz,(Wb 8 8 (0) (T.H.length) 1),(Wb 168 168 (0) (w) 1),(Wb 16 16 (0) ((pk T.P).length) 1),nD T.P.length,bD Gd,(Wb 40 40 (0) (T.O.length) 1)],68,Gd⟩⟩,⟨32,32,448,448,.b ⟨W0.map dB,5,Ga⟩⟩,⟨40,40,464,464,.b ⟨T.O.map dB,5,Ga⟩⟩] 176⟩] 1000 64 (fun|⟨H,P,o,O,f,hP,hH,ho,hf,hO,hR,_⟩,Q,ZB,ZD=>.B 18 ((mo:Int)<=(↑(w+n-o):Int)) (λ p0 Z9=>.K 16 (aV z9 (Ge (mo:Int)) z9 (w+n-o)&&Ga) GN<|.L 26 48 Gd [] (Ga&&(Ga&&(Ga&&(Ga&&(Ga&&(Ga&&(wB (wo dB H) (v0 H) 1&&Ga))))))&&(Ga&&(Ga&&Wf (o+0+mo*1) (v0 (wo dB W0))&&Ga&&ab (bif V9 (o+0) 0&&V9 (mo*1) (v0 (wo dB W0))then wo dB W0 else wx (mo*1) (Ag (o+0) (wo dB W0))))&&Ga)) kU ([D.ep [zN sz,zN ch,zN mo,D.v (.bool lz),wD (wo dB H) (v0 H) 1] 0,Wu (Wf 1 mo) mo 1 (bif V9 (o+0) 0&&V9 (mo*1) (v0 (wo dB W0))then wo dB W0 else wx (mo*1) (Ag (o+0) (wo dB W0)))]) VO (.fn Q48 (@Jn (sz) (ch) (mo) (lz) om om om (Wf 1 (v0 H)) (Wf 1 mo) (H) (v0 H) om om (wx mo (Ag (o+0) W0)) (mo) GN om))<|.L 1 58 Gd [] (Ga&&(Ga&&(Ga&&Wf (o+0+mo*1) (v0 (wo dB W0))&&Ga&&ab (bif V9 (o+0) 0&&V9 (mo*1) (v0 (wo dB W0))then wo dB W0 else wx (mo*1) (Ag (o+0) (wo dB W0))))&&(Ga&&(wB (v8 aY (af sz ch lz H (wx mo (Ag (o+0) W0)))) (v0 (af sz ch lz H (wx mo (Ag (o+0) W0)))) 3)&&Ga))) kU ([zN (v0 P),Wu (Wf 1 mo) mo 1 (bif V9 (o+0) 0&&V9 (mo*1) (v0 (wo dB W0))then wo dB W0 else wx (mo*1) (Ag (o+0) (wo dB W0))),Wu (Wf 1 (v0 (af sz ch lz H (wx mo (Ag (o+0) W0))))) (v0 (af sz ch lz H (wx mo (Ag (o+0) W0)))) 3 (bif Ga&&V9 (v0 (af sz ch lz H (wx mo (Ag (o+0) W0)))*3) (v0 (v8 aY (af sz ch lz H (wx mo (Ag (o+0) W0)))))then v8 aY (af sz ch lz H (wx mo (Ag (o+0) W0)))else wx (v0 (af sz ch lz H (wx mo (Ag (o+0) W0)))*3) (Ag 0 (v8 aY (af sz ch lz H (wx mo (Ag (o+0) W0))))))]) (by exact(qr (Wn (D.sim.slw rfl ((ar (W0) (o+0) (mo*1)).trans (by(simp;done)))) (Wn (D.sim.slw rfl (ao (by(rw[dO];simp;done))|>.trans rfl)) trivial)))) (Ws (ap.of Tryz.func58 rfl rfl) (@Jl (v0 P) om (wx mo (Ag (o+0) W0)) (mo) GN om (af sz ch lz H (wx mo (Ag (o+0) W0))) (v0 (af sz ch lz H (wx mo (Ag (o+0) W0)))) om VP (by(exact fe hs.2))))<|.L 31 48 Gd [] (Ga&&(Ga&&(Ga&&(Ga&&(Ga&&(Ga&&(wB (wo dB H) (v0 H) 1&&Ga))))))&&(Ga&&(Ga&&Wf (o+0+mo*1) (v0 (wo dB W0))&&Ga&&ab (bif V9 (o+0) 0&&V9 (mo*1) (v0 (wo dB W0))then wo dB W0 else wx (mo*1) (Ag (o+0) (wo dB W0))))&&Ga)) kU ([D.ep [zN sz,zN ch,zN mo,D.v (.bool lz),wD (wo dB H) (v0 H) 1] 0,Wu (Wf 1 mo) mo 1 (bif V9 (o+0) 0&&V9 (mo*1) (v0 (wo dB W0))then wo dB W0 else wx (mo*1) (Ag (o+0) (wo dB W0)))]) VO (.fn Q48 (@Jn (sz) (ch) (mo) (lz) om om om (Wf 1 (v0 H)) (Wf 1 mo) (H) (v0 H) om om (wx mo (Ag (o+0) W0)) (mo) GN om))<|.L 2 57 Gd [] (Ga&&(wB (wo dB (pk P)) (v0 (pk P)) 1)&&Ga&&(Ga&&(Ga&&(Ga&&Wf (o+0+mo*1) (v0 (wo dB W0))&&Ga&&ab (bif V9 (o+0) 0&&V9 (mo*1) (v0 (wo dB W0))then wo dB W0 else wx (mo*1) (Ag (o+0) (wo dB W0))))&&(Ga&&(wB (v8 aY (af sz ch lz H (wx mo (Ag (o+0) W0)))) (v0 (af sz ch lz H (wx mo (Ag (o+0) W0)))) 3)&&Ga)))) kU ([W6 [Wu (Wf 1 (v0 (pk P))) (v0 (pk P)) 1 (bif Ga&&V9 (v0 (pk P)*1) (v0 (wo dB (pk P)))then wo dB (pk P)else wx (v0 (pk P)*1) (Ag 0 (wo dB (pk P)))),zN (v0 P)],cK (az (v0 P) (wx mo (Ag (o+0) W0)) (af sz ch lz H (wx mo (Ag (o+0) W0)))),Wu (Wf 1 mo) mo 1 (bif V9 (o+0) 0&&V9 (mo*1) (v0 (wo dB W0))then wo dB W0 else wx (mo*1) (Ag (o+0) (wo dB W0))),Wu (Wf 1 (v0 (af sz ch lz H (wx mo (Ag (o+0) W0))))) (v0 (af sz ch lz H (wx mo (Ag (o+0) W0)))) 3 (bif Ga&&V9 (v0 (af sz ch lz H (wx mo (Ag (o+0) W0)))*3) (v0 (v8 aY (af sz ch lz H (wx mo (Ag (o+0) W0)))))then v8 aY (af sz ch lz H (wx mo (Ag (o+0) W0)))else wx (v0 (af sz ch lz H (wx mo (Ag (o+0) W0)))*3) (Ag 0 (v8 aY (af sz ch lz H (wx mo (Ag (o+0) W0)))))),D.v (.bool Gd)]) (by exact(Wn (D.sim.agg (Wn (D.sim.slw rfl (ao (by(have y1:=bP (P:=P) (kd:=az P.length (wx mo (Ag (o+0) W0)) (af sz ch lz H (wx mo (Ag (o+0) W0)))) (raw:=(wx mo (Ag (o+0) W0))) (l:=(af sz ch lz H (wx mo (Ag (o+0) W0)))) (e:=0) (by rw[Wi];omega) (by refine Ww (bh _ _ _ _ _) ?_;rw[Wi];omega);have y3:=ag (aE P (az P.length (wx mo (Ag (o+0) W0)) (af sz ch lz H (wx mo (Ag (o+0) W0)))) (wx mo (Ag (o+0) W0)) (af sz ch lz H (wx mo (Ag (o+0) W0))) 0);have y4:=bx sz H (wx mo (Ag (o+0) W0));simp only[Wj,Wi,WM,WV,Wh,Yh,XM];omega))|>.trans rfl)) (qr trivial))) (qr (Wn (D.sim.slw rfl ((ar (W0) (o+0) (mo*1)).trans (by(simp;done)))) (Wn (D.sim.slw rfl (ao (by(rw[dO];simp;done))|>.trans rfl)) (qr trivial)))))) (Ws (ap.of Tryz.func57 rfl rfl) (@Q3 (P) (v0 (pk P)) om om (az (v0 P) (wx mo (Ag (o+0) W0)) (af sz ch lz H (wx mo (Ag (o+0) W0)))) (by(exact lX _ _ _)) (wx mo (Ag (o+0) W0)) (mo) GN om (af sz ch lz H (wx mo (Ag (o+0) W0))) (v0 (af sz ch lz H (wx mo (Ag (o+0) W0)))) om VP (by(exact fe hs.2))))<|.O 35 (aX Wv (Wo Wv (XD (↑(v0 (aE P (az (v0 P) (wx mo (Ag (o+0) W0)) (af sz ch lz H (wx mo (Ag (o+0) W0)))) (wx mo (Ag (o+0) W0)) (af sz ch lz H (wx mo (Ag (o+0) W0))) 0)):Int) 8))) (zI ((↑(v0 (aE P (az (v0 P) (wx mo (Ag (o+0) W0)) (af sz ch lz H (wx mo (Ag (o+0) W0)))) (wx mo (Ag (o+0) W0)) (af sz ch lz H (wx mo (Ag (o+0) W0))) 0)):Int)/8)) (aB (@aT  ((↑(v0 (aE P (az (v0 P) (wx mo (Ag (o+0) W0)) (af sz ch lz H (wx mo (Ag (o+0) W0)))) (wx mo (Ag (o+0) W0)) (af sz ch lz H (wx mo (Ag (o+0) W0))) 0)):Int)) (8) Sw om))<|.K 27 (aV z9 (Ge ((↑(v0 (aE P (az (v0 P) (wx mo (Ag (o+0) W0)) (af sz ch lz H (wx mo (Ag (o+0) W0)))) (wx mo (Ag (o+0) W0)) (af sz ch lz H (wx mo (Ag (o+0) W0))) 0)):Int)/8)) z9 (v0 (pk (aE P (az (v0 P) (wx mo (Ag (o+0) W0)) (af sz ch lz H (wx mo (Ag (o+0) W0)))) (wx mo (Ag (o+0) W0)) (af sz ch lz H (wx mo (Ag (o+0) W0))) 0)))&&Ga) (by(have y1:=bP (P:=P) (kd:=az P.length (wx mo (Ag (o+0) W0)) (af sz ch lz H (wx mo (Ag (o+0) W0)))) (raw:=(wx mo (Ag (o+0) W0))) (l:=(af sz ch lz H (wx mo (Ag (o+0) W0)))) (e:=0) (by rw[Wi];omega) (by refine Ww (bh _ _ _ _ _) ?_;rw[Wi];omega);have y3:=ag (aE P (az P.length (wx mo (Ag (o+0) W0)) (af sz ch lz H (wx mo (Ag (o+0) W0)))) (wx mo (Ag (o+0) W0)) (af sz ch lz H (wx mo (Ag (o+0) W0))) 0);have y4:=bx sz H (wx mo (Ag (o+0) W0));exact qp (n:=((aE P (az P.length (wx mo (Ag (o+0) W0)) (af sz ch lz H (wx mo (Ag (o+0) W0)))) (wx mo (Ag (o+0) W0)) (af sz ch lz H (wx mo (Ag (o+0) W0))) 0)).length/8) om om))<|.K 1 (Ga&&V9 (v0 O*1) (v0 (wo dB O))&&Ga&&(Ga&&Wf (0+zL ((↑(v0 (aE P (az (v0 P) (wx mo (Ag (o+0) W0)) (af sz ch lz H (wx mo (Ag (o+0) W0)))) (wx mo (Ag (o+0) W0)) (af sz ch lz H (wx mo (Ag (o+0) W0))) 0)):Int)/8)*1) (v0 (wo dB (pk (aE P (az (v0 P) (wx mo (Ag (o+0) W0)) (af sz ch lz H (wx mo (Ag (o+0) W0)))) (wx mo (Ag (o+0) W0)) (af sz ch lz H (wx mo (Ag (o+0) W0))) 0)))))&&Ga&&Ga&&Wf ((v0 O+zL ((↑(v0 (aE P (az (v0 P) (wx mo (Ag (o+0) W0)) (af sz ch lz H (wx mo (Ag (o+0) W0)))) (wx mo (Ag (o+0) W0)) (af sz ch lz H (wx mo (Ag (o+0) W0))) 0)):Int)/8))*1) 140737488355328) VQ<|.K 25 (aV (Ge ((↑(v0 (aE P (az (v0 P) (wx mo (Ag (o+0) W0)) (af sz ch lz H (wx mo (Ag (o+0) W0)))) (wx mo (Ag (o+0) W0)) (af sz ch lz H (wx mo (Ag (o+0) W0))) 0)):Int)/8)) z9 z9 (v0 (pk (aE P (az (v0 P) (wx mo (Ag (o+0) W0)) (af sz ch lz H (wx mo (Ag (o+0) W0)))) (wx mo (Ag (o+0) W0)) (af sz ch lz H (wx mo (Ag (o+0) W0))) 0)))&&Ga) (by(have y1:=bP (P:=P) (kd:=az P.length (wx mo (Ag (o+0) W0)) (af sz ch lz H (wx mo (Ag (o+0) W0)))) (raw:=(wx mo (Ag (o+0) W0))) (l:=(af sz ch lz H (wx mo (Ag (o+0) W0)))) (e:=0) (by rw[Wi];omega) (by refine Ww (bh _ _ _ _ _) ?_;rw[Wi];omega);have y3:=ag (aE P (az P.length (wx mo (Ag (o+0) W0)) (af sz ch lz H (wx mo (Ag (o+0) W0)))) (wx mo (Ag (o+0) W0)) (af sz ch lz H (wx mo (Ag (o+0) W0))) 0);have y4:=bx sz H (wx mo (Ag (o+0) W0));exact yZ (n:=((aE P (az P.length (wx mo (Ag (o+0) W0)) (af sz ch lz H (wx mo (Ag (o+0) W0)))) (wx mo (Ag (o+0) W0)) (af sz ch lz H (wx mo (Ag (o+0) W0))) 0)).length/8) om om))<|.L 1 56 Gd [] (Ga&&(Ga&&Wf (0+zL ((↑(v0 (aE P (az (v0 P) (wx mo (Ag (o+0) W0)) (af sz ch lz H (wx mo (Ag (o+0) W0)))) (wx mo (Ag (o+0) W0)) (af sz ch lz H (wx mo (Ag (o+0) W0))) 0)):Int)/8)*1+(v0 (pk (aE P (az (v0 P) (wx mo (Ag (o+0) W0)) (af sz ch lz H (wx mo (Ag (o+0) W0)))) (wx mo (Ag (o+0) W0)) (af sz ch lz H (wx mo (Ag (o+0) W0))) 0))-zL ((↑(v0 (aE P (az (v0 P) (wx mo (Ag (o+0) W0)) (af sz ch lz H (wx mo (Ag (o+0) W0)))) (wx mo (Ag (o+0) W0)) (af sz ch lz H (wx mo (Ag (o+0) W0))) 0)):Int)/8))*1) (v0 (wo dB (pk (aE P (az (v0 P) (wx mo (Ag (o+0) W0)) (af sz ch lz H (wx mo (Ag (o+0) W0)))) (wx mo (Ag (o+0) W0)) (af sz ch lz H (wx mo (Ag (o+0) W0))) 0))))&&Ga&&ab (bif V9 (0+zL ((↑(v0 (aE P (az (v0 P) (wx mo (Ag (o+0) W0)) (af sz ch lz H (wx mo (Ag (o+0) W0)))) (wx mo (Ag (o+0) W0)) (af sz ch lz H (wx mo (Ag (o+0) W0))) 0)):Int)/8)*1) 0&&V9 ((v0 (pk (aE P (az (v0 P) (wx mo (Ag (o+0) W0)) (af sz ch lz H (wx mo (Ag (o+0) W0)))) (wx mo (Ag (o+0) W0)) (af sz ch lz H (wx mo (Ag (o+0) W0))) 0))-zL ((↑(v0 (aE P (az (v0 P) (wx mo (Ag (o+0) W0)) (af sz ch lz H (wx mo (Ag (o+0) W0)))) (wx mo (Ag (o+0) W0)) (af sz ch lz H (wx mo (Ag (o+0) W0))) 0)):Int)/8))*1) (v0 (wo dB (pk (aE P (az (v0 P) (wx mo (Ag (o+0) W0)) (af sz ch lz H (wx mo (Ag (o+0) W0)))) (wx mo (Ag (o+0) W0)) (af sz ch lz H (wx mo (Ag (o+0) W0))) 0))))then wo dB (pk (aE P (az (v0 P) (wx mo (Ag (o+0) W0)) (af sz ch lz H (wx mo (Ag (o+0) W0)))) (wx mo (Ag (o+0) W0)) (af sz ch lz H (wx mo (Ag (o+0) W0))) 0))else wx ((v0 (pk (aE P (az (v0 P) (wx mo (Ag (o+0) W0)) (af sz ch lz H (wx mo (Ag (o+0) W0)))) (wx mo (Ag (o+0) W0)) (af sz ch lz H (wx mo (Ag (o+0) W0))) 0))-zL ((↑(v0 (aE P (az (v0 P) (wx mo (Ag (o+0) W0)) (af sz ch lz H (wx mo (Ag (o+0) W0)))) (wx mo (Ag (o+0) W0)) (af sz ch lz H (wx mo (Ag (o+0) W0))) 0)):Int)/8))*1) (Ag (0+zL ((↑(v0 (aE P (az (v0 P) (wx mo (Ag (o+0) W0)) (af sz ch lz H (wx mo (Ag (o+0) W0)))) (wx mo (Ag (o+0) W0)) (af sz ch lz H (wx mo (Ag (o+0) W0))) 0)):Int)/8)*1) (wo dB (pk (aE P (az (v0 P) (wx mo (Ag (o+0) W0)) (af sz ch lz H (wx mo (Ag (o+0) W0)))) (wx mo (Ag (o+0) W0)) (af sz ch lz H (wx mo (Ag (o+0) W0))) 0))))))&&Ga) Sw ([Wu (Wf 1 (v0 (pk (aE P (az (v0 P) (wx mo (Ag (o+0) W0)) (af sz ch lz H (wx mo (Ag (o+0) W0)))) (wx mo (Ag (o+0) W0)) (af sz ch lz H (wx mo (Ag (o+0) W0))) 0))-zL ((↑(v0 (aE P (az (v0 P) (wx mo (Ag (o+0) W0)) (af sz ch lz H (wx mo (Ag (o+0) W0)))) (wx mo (Ag (o+0) W0)) (af sz ch lz H (wx mo (Ag (o+0) W0))) 0)):Int)/8))) (v0 (pk (aE P (az (v0 P) (wx mo (Ag (o+0) W0)) (af sz ch lz H (wx mo (Ag (o+0) W0)))) (wx mo (Ag (o+0) W0)) (af sz ch lz H (wx mo (Ag (o+0) W0))) 0))-zL ((↑(v0 (aE P (az (v0 P) (wx mo (Ag (o+0) W0)) (af sz ch lz H (wx mo (Ag (o+0) W0)))) (wx mo (Ag (o+0) W0)) (af sz ch lz H (wx mo (Ag (o+0) W0))) 0)):Int)/8)) 1 (bif V9 (0+zL ((↑(v0 (aE P (az (v0 P) (wx mo (Ag (o+0) W0)) (af sz ch lz H (wx mo (Ag (o+0) W0)))) (wx mo (Ag (o+0) W0)) (af sz ch lz H (wx mo (Ag (o+0) W0))) 0)):Int)/8)*1) 0&&V9 ((v0 (pk (aE P (az (v0 P) (wx mo (Ag (o+0) W0)) (af sz ch lz H (wx mo (Ag (o+0) W0)))) (wx mo (Ag (o+0) W0)) (af sz ch lz H (wx mo (Ag (o+0) W0))) 0))-zL ((↑(v0 (aE P (az (v0 P) (wx mo (Ag (o+0) W0)) (af sz ch lz H (wx mo (Ag (o+0) W0)))) (wx mo (Ag (o+0) W0)) (af sz ch lz H (wx mo (Ag (o+0) W0))) 0)):Int)/8))*1) (v0 (wo dB (pk (aE P (az (v0 P) (wx mo (Ag (o+0) W0)) (af sz ch lz H (wx mo (Ag (o+0) W0)))) (wx mo (Ag (o+0) W0)) (af sz ch lz H (wx mo (Ag (o+0) W0))) 0))))then wo dB (pk (aE P (az (v0 P) (wx mo (Ag (o+0) W0)) (af sz ch lz H (wx mo (Ag (o+0) W0)))) (wx mo (Ag (o+0) W0)) (af sz ch lz H (wx mo (Ag (o+0) W0))) 0))else wx ((v0 (pk (aE P (az (v0 P) (wx mo (Ag (o+0) W0)) (af sz ch lz H (wx mo (Ag (o+0) W0)))) (wx mo (Ag (o+0) W0)) (af sz ch lz H (wx mo (Ag (o+0) W0))) 0))-zL ((↑(v0 (aE P (az (v0 P) (wx mo (Ag (o+0) W0)) (af sz ch lz H (wx mo (Ag (o+0) W0)))) (wx mo (Ag (o+0) W0)) (af sz ch lz H (wx mo (Ag (o+0) W0))) 0)):Int)/8))*1) (Ag (0+zL ((↑(v0 (aE P (az (v0 P) (wx mo (Ag (o+0) W0)) (af sz ch lz H (wx mo (Ag (o+0) W0)))) (wx mo (Ag (o+0) W0)) (af sz ch lz H (wx mo (Ag (o+0) W0))) 0)):Int)/8)*1) (wo dB (pk (aE P (az (v0 P) (wx mo (Ag (o+0) W0)) (af sz ch lz H (wx mo (Ag (o+0) W0)))) (wx mo (Ag (o+0) W0)) (af sz ch lz H (wx mo (Ag (o+0) W0))) 0)))))]) (by exact(Wn (D.sim.slw rfl ((ar (pk (aE P (az (v0 P) (wx mo (Ag (o+0) W0)) (af sz ch lz H (wx mo (Ag (o+0) W0)))) (wx mo (Ag (o+0) W0)) (af sz ch lz H (wx mo (Ag (o+0) W0))) 0)) (0+zL ((↑(v0 (aE P (az (v0 P) (wx mo (Ag (o+0) W0)) (af sz ch lz H (wx mo (Ag (o+0) W0)))) (wx mo (Ag (o+0) W0)) (af sz ch lz H (wx mo (Ag (o+0) W0))) 0)):Int)/8)*1) ((v0 (pk (aE P (az (v0 P) (wx mo (Ag (o+0) W0)) (af sz ch lz H (wx mo (Ag (o+0) W0)))) (wx mo (Ag (o+0) W0)) (af sz ch lz H (wx mo (Ag (o+0) W0))) 0))-zL ((↑(v0 (aE P (az (v0 P) (wx mo (Ag (o+0) W0)) (af sz ch lz H (wx mo (Ag (o+0) W0)))) (wx mo (Ag (o+0) W0)) (af sz ch lz H (wx mo (Ag (o+0) W0))) 0)):Int)/8))*1)).trans (by(simp;done)))) trivial)) (.fn HR (@iF (wx (v0 (pk (aE P (az (v0 P) (wx mo (Ag (o+0) W0)) (af sz ch lz H (wx mo (Ag (o+0) W0)))) (wx mo (Ag (o+0) W0)) (af sz ch lz H (wx mo (Ag (o+0) W0))) 0))-zL ((↑(v0 (aE P (az (v0 P) (wx mo (Ag (o+0) W0)) (af sz ch lz H (wx mo (Ag (o+0) W0)))) (wx mo (Ag (o+0) W0)) (af sz ch lz H (wx mo (Ag (o+0) W0))) 0)):Int)/8)) (Ag (zL ((↑(v0 (aE P (az (v0 P) (wx mo (Ag (o+0) W0)) (af sz ch lz H (wx mo (Ag (o+0) W0)))) (wx mo (Ag (o+0) W0)) (af sz ch lz H (wx mo (Ag (o+0) W0))) 0)):Int)/8)) (pk (aE P (az (v0 P) (wx mo (Ag (o+0) W0)) (af sz ch lz H (wx mo (Ag (o+0) W0)))) (wx mo (Ag (o+0) W0)) (af sz ch lz H (wx mo (Ag (o+0) W0))) 0)))) (v0 (pk (aE P (az (v0 P) (wx mo (Ag (o+0) W0)) (af sz ch lz H (wx mo (Ag (o+0) W0)))) (wx mo (Ag (o+0) W0)) (af sz ch lz H (wx mo (Ag (o+0) W0))) 0))-zL ((↑(v0 (aE P (az (v0 P) (wx mo (Ag (o+0) W0)) (af sz ch lz H (wx mo (Ag (o+0) W0)))) (wx mo (Ag (o+0) W0)) (af sz ch lz H (wx mo (Ag (o+0) W0))) 0)):Int)/8)) (by(simp;done)) Sw))<|.O 16 (aX Wv (XG (↑(v0 (aE P (az (v0 P) (wx mo (Ag (o+0) W0)) (af sz ch lz H (wx mo (Ag (o+0) W0)))) (wx mo (Ag (o+0) W0)) (af sz ch lz H (wx mo (Ag (o+0) W0))) 0)):Int) 8)) (zI ((↑(v0 (aE P (az (v0 P) (wx mo (Ag (o+0) W0)) (af sz ch lz H (wx mo (Ag (o+0) W0)))) (wx mo (Ag (o+0) W0)) (af sz ch lz H (wx mo (Ag (o+0) W0))) 0)):Int)%8)) (aB (@bT  ((↑(v0 (aE P (az (v0 P) (wx mo (Ag (o+0) W0)) (af sz ch lz H (wx mo (Ag (o+0) W0)))) (wx mo (Ag (o+0) W0)) (af sz ch lz H (wx mo (Ag (o+0) W0))) 0)):Int)) (8) om))<|.K 25 (Ga&&V9 (v0 H*1) (v0 (wo dB H))&&Ga&&(Ga&&Wf (o+0+mo*1) (v0 (wo dB W0)))&&Ga&&Ga&&Wf ((v0 H+mo)*1) 140737488355328) VQ<|.W 21 ((↑(v0 H+mo):Int)-(sz:Int))<|.O 1 (mr Wv Ga 0 ((↑(v0 H+mo):Int)-(sz:Int))) (zI (max 0 ((↑(v0 H+mo):Int)-(sz:Int)))) (oc _ _ _)<|.K 1 (aV (Ge (max 0 ((↑(v0 H+mo):Int)-(sz:Int)))) z9 z9 (v0 H+mo)&&Ga) GN<|.L 1 56 Gd [] (Ga&&(Ga&&Wf (0+zL (max 0 ((↑(v0 H+mo):Int)-(sz:Int)))*1+(v0 H+mo-zL (max 0 ((↑(v0 H+mo):Int)-(sz:Int))))*1) (v0 (wo dB H++bif V9 (o+0) 0&&V9 (mo*1) (v0 (wo dB W0))then wo dB W0 else wx (mo*1) (Ag (o+0) (wo dB W0))))&&Ga&&ab (bif V9 (0+zL (max 0 ((↑(v0 H+mo):Int)-(sz:Int)))*1) 0&&V9 ((v0 H+mo-zL (max 0 ((↑(v0 H+mo):Int)-(sz:Int))))*1) (v0 (wo dB H++bif V9 (o+0) 0&&V9 (mo*1) (v0 (wo dB W0))then wo dB W0 else wx (mo*1) (Ag (o+0) (wo dB W0))))then wo dB H++bif V9 (o+0) 0&&V9 (mo*1) (v0 (wo dB W0))then wo dB W0 else wx (mo*1) (Ag (o+0) (wo dB W0))else wx ((v0 H+mo-zL (max 0 ((↑(v0 H+mo):Int)-(sz:Int))))*1) (Ag (0+zL (max 0 ((↑(v0 H+mo):Int)-(sz:Int)))*1) (wo dB H++bif V9 (o+0) 0&&V9 (mo*1) (v0 (wo dB W0))then wo dB W0 else wx (mo*1) (Ag (o+0) (wo dB W0))))))&&Ga) (by(simp only[ar];simp <;>(omega))) ([Wu (Wf 1 (v0 H+mo-zL (max 0 ((↑(v0 H+mo):Int)-(sz:Int))))) (v0 H+mo-zL (max 0 ((↑(v0 H+mo):Int)-(sz:Int)))) 1 (bif V9 (0+zL (max 0 ((↑(v0 H+mo):Int)-(sz:Int)))*1) 0&&V9 ((v0 H+mo-zL (max 0 ((↑(v0 H+mo):Int)-(sz:Int))))*1) (v0 (wo dB H++bif V9 (o+0) 0&&V9 (mo*1) (v0 (wo dB W0))then wo dB W0 else wx (mo*1) (Ag (o+0) (wo dB W0))))then wo dB H++bif V9 (o+0) 0&&V9 (mo*1) (v0 (wo dB W0))then wo dB W0 else wx (mo*1) (Ag (o+0) (wo dB W0))else wx ((v0 H+mo-zL (max 0 ((↑(v0 H+mo):Int)-(sz:Int))))*1) (Ag (0+zL (max 0 ((↑(v0 H+mo):Int)-(sz:Int)))*1) (wo dB H++bif V9 (o+0) 0&&V9 (mo*1) (v0 (wo dB W0))then wo dB W0 else wx (mo*1) (Ag (o+0) (wo dB W0)))))]) (by exact(Wn (D.sim.slN rfl (by(simp only[ar];simp <;>(omega)))) trivial)) (.fn HR (@Jp (Wf 1 (v0 H+mo-zL (max 0 ((↑(v0 H+mo):Int)-(sz:Int))))) (H++wx mo (Ag (o+0) W0)) (v0 H+mo-zL (max 0 ((↑(v0 H+mo):Int)-(sz:Int)))) (zL (max 0 ((↑(v0 H+mo):Int)-(sz:Int)))) GN om))<|.K 14 (aV (Ge (mo:Int)) z9 z9 (w+n-o)&&Ga) GN<|.V 1 9 (Wb 32 32 (o+mo*1) (w+n-o-mo) 1) (Wb 32 32 (o+mo) (w+n-(o+mo)) 1) GN<|.blk 24 24 (V8 [zN sz,zN ch,zN mo,D.v (.bool lz),Wb 1328 1328 0 (v0 H+mo-zL (max 0 ((↑(v0 H+mo):Int)-(sz:Int)))) 1,Wb 168 168 0 w 1,Wb 1056 1056 0 (v0 (pk (aE P (az (v0 P) (wx mo (Ag (o+0) W0)) (af sz ch lz H (wx mo (Ag (o+0) W0)))) (wx mo (Ag (o+0) W0)) (af sz ch lz H (wx mo (Ag (o+0) W0))) 0))-zL ((↑(v0 (aE P (az (v0 P) (wx mo (Ag (o+0) W0)) (af sz ch lz H (wx mo (Ag (o+0) W0)))) (wx mo (Ag (o+0) W0)) (af sz ch lz H (wx mo (Ag (o+0) W0))) 0)):Int)/8)) 1,zI ((↑(v0 (aE P (az (v0 P) (wx mo (Ag (o+0) W0)) (af sz ch lz H (wx mo (Ag (o+0) W0)))) (wx mo (Ag (o+0) W0)) (af sz ch lz H (wx mo (Ag (o+0) W0))) 0)):Int)%8),D.v (.bool Gd),Wb 952 952 0 (v0 O+zL ((↑(v0 (aE P (az (v0 P) (wx mo (Ag (o+0) W0)) (af sz ch lz H (wx mo (Ag (o+0) W0)))) (wx mo (Ag (o+0) W0)) (af sz ch lz H (wx mo (Ag (o+0) W0))) 0)):Int)/8)) 1] 68 Gd) (V8 [zN sz,zN ch,zN mo,D.v (.bool lz),Wb 1328 1328 0 (v0 (uW sz H (wx mo (Ag o W0)))) 1,Wb 168 168 0 w 1,Wb 1056 1056 0 (v0 (pk (pT (dU sz ch lz H (wx mo (Ag o W0)) P 0)))) 1,zN (v0 (pT (dU sz ch lz H (wx mo (Ag o W0)) P 0))),D.v (.bool Gd),Wb 952 952 0 (v0 (O++pk (pA (dU sz ch lz H (wx mo (Ag o W0)) P 0)))) 1] 68 Gd) (by(refine Rf ?_ ?_ ?_ ?_<;>(try rw[show(dU sz ch lz H (wx mo (Ag o W0)) P 0)=(aE P (az P.length (wx mo (Ag (o+0) W0)) (af sz ch lz H (wx mo (Ag (o+0) W0)))) (wx mo (Ag (o+0) W0)) (af sz ch lz H (wx mo (Ag (o+0) W0))) 0)from rfl])<;>(try rw[bx,Wi,Wy,hW0l])<;>(try rw[Wc])<;>(try rw[ag (pT _)])<;>(try rw[dm])<;>(try rw[ag (pA _),dF])<;>(have y1:=bP (P:=P) (kd:=az P.length (wx mo (Ag (o+0) W0)) (af sz ch lz H (wx mo (Ag (o+0) W0)))) (raw:=(wx mo (Ag (o+0) W0))) (l:=(af sz ch lz H (wx mo (Ag (o+0) W0)))) (e:=0) (by rw[Wi];omega) (by refine Ww (bh _ _ _ _ _) ?_;rw[Wi];omega);have y3:=ag (aE P (az P.length (wx mo (Ag (o+0) W0)) (af sz ch lz H (wx mo (Ag (o+0) W0)))) (wx mo (Ag (o+0) W0)) (af sz ch lz H (wx mo (Ag (o+0) W0))) 0);have y4:=bx sz H (wx mo (Ag (o+0) W0));omega)))<|.blk 952 952 (V8 (wo dB O++bif Ga&&V9 (zL ((↑(v0 (aE P (az (v0 P) (wx mo (Ag (o+0) W0)) (af sz ch lz H (wx mo (Ag (o+0) W0)))) (wx mo (Ag (o+0) W0)) (af sz ch lz H (wx mo (Ag (o+0) W0))) 0)):Int)/8)*1) (v0 (wo dB (pk (aE P (az (v0 P) (wx mo (Ag (o+0) W0)) (af sz ch lz H (wx mo (Ag (o+0) W0)))) (wx mo (Ag (o+0) W0)) (af sz ch lz H (wx mo (Ag (o+0) W0))) 0))))then wo dB (pk (aE P (az (v0 P) (wx mo (Ag (o+0) W0)) (af sz ch lz H (wx mo (Ag (o+0) W0)))) (wx mo (Ag (o+0) W0)) (af sz ch lz H (wx mo (Ag (o+0) W0))) 0))else wx (zL ((↑(v0 (aE P (az (v0 P) (wx mo (Ag (o+0) W0)) (af sz ch lz H (wx mo (Ag (o+0) W0)))) (wx mo (Ag (o+0) W0)) (af sz ch lz H (wx mo (Ag (o+0) W0))) 0)):Int)/8)*1) (Ag 0 (wo dB (pk (aE P (az (v0 P) (wx mo (Ag (o+0) W0)) (af sz ch lz H (wx mo (Ag (o+0) W0)))) (wx mo (Ag (o+0) W0)) (af sz ch lz H (wx mo (Ag (o+0) W0))) 0))))) 5 Ga) (V8 (wo dB (O++pk (pA (dU sz ch lz H (wx mo (Ag o W0)) P 0)))) 5 Ga) (by(have y1:=bP (P:=P) (kd:=az P.length (wx mo (Ag (o+0) W0)) (af sz ch lz H (wx mo (Ag (o+0) W0)))) (raw:=(wx mo (Ag (o+0) W0))) (l:=(af sz ch lz H (wx mo (Ag (o+0) W0)))) (e:=0) (by rw[Wi];omega) (by refine Ww (bh _ _ _ _ _) ?_;rw[Wi];omega);have y3:=ag (aE P (az P.length (wx mo (Ag (o+0) W0)) (af sz ch lz H (wx mo (Ag (o+0) W0)))) (wx mo (Ag (o+0) W0)) (af sz ch lz H (wx mo (Ag (o+0) W0))) 0);have y4:=bx sz H (wx mo (Ag (o+0) W0));rw[yY];refine aq (zh ?_);omega))<|.blk 1328 1328 (V8 (wo dB (wx (v0 H+mo-zL (max 0 ((↑(v0 H+mo):Int)-(sz:Int)))) (Ag (zL (max 0 ((↑(v0 H+mo):Int)-(sz:Int)))) (H++wx mo (Ag (o+0) W0))))) 5 Ga) (V8 (wo dB (uW sz H (wx mo (Ag o W0)))) 5 Ga) (by(refine aq (congrArg (wo dB) ?_);rw[WN (by rw[Wy,Wc,Wi,Wy,hW0l];omega)];exact DW (by rw[Wc,Wi,Wy,hW0l];omega)))<|.blk 1056 1056 (V8 (wo dB (wx (v0 (pk (aE P (az (v0 P) (wx mo (Ag (o+0) W0)) (af sz ch lz H (wx mo (Ag (o+0) W0)))) (wx mo (Ag (o+0) W0)) (af sz ch lz H (wx mo (Ag (o+0) W0))) 0))-zL ((↑(v0 (aE P (az (v0 P) (wx mo (Ag (o+0) W0)) (af sz ch lz H (wx mo (Ag (o+0) W0)))) (wx mo (Ag (o+0) W0)) (af sz ch lz H (wx mo (Ag (o+0) W0))) 0)):Int)/8)) (Ag (zL ((↑(v0 (aE P (az (v0 P) (wx mo (Ag (o+0) W0)) (af sz ch lz H (wx mo (Ag (o+0) W0)))) (wx mo (Ag (o+0) W0)) (af sz ch lz H (wx mo (Ag (o+0) W0))) 0)):Int)/8)) (pk (aE P (az (v0 P) (wx mo (Ag (o+0) W0)) (af sz ch lz H (wx mo (Ag (o+0) W0)))) (wx mo (Ag (o+0) W0)) (af sz ch lz H (wx mo (Ag (o+0) W0))) 0))))) 5 Ga) (V8 (wo dB (pk (pT (dU sz ch lz H (wx mo (Ag o W0)) P 0)))) 5 Ga) (by(have y1:=bP (P:=P) (kd:=az P.length (wx mo (Ag (o+0) W0)) (af sz ch lz H (wx mo (Ag (o+0) W0)))) (raw:=(wx mo (Ag (o+0) W0))) (l:=(af sz ch lz H (wx mo (Ag (o+0) W0)))) (e:=0) (by rw[Wi];omega) (by refine Ww (bh _ _ _ _ _) ?_;rw[Wi];omega);have y3:=ag (aE P (az P.length (wx mo (Ag (o+0) W0)) (af sz ch lz H (wx mo (Ag (o+0) W0)))) (wx mo (Ag (o+0) W0)) (af sz ch lz H (wx mo (Ag (o+0) W0))) 0);have y4:=bx sz H (wx mo (Ag (o+0) W0));refine aq (congrArg (wo dB) ?_);rw[WN (by rw[Wy];exact Wl _)];exact(kT (aE P (az P.length (wx mo (Ag (o+0) W0)) (af sz ch lz H (wx mo (Ag (o+0) W0)))) (wx mo (Ag (o+0) W0)) (af sz ch lz H (wx mo (Ag (o+0) W0))) 0) om).h))<|Aw ZB ⟨(uW sz H (wx mo (Ag o W0))),(pT (dU sz ch lz H (wx mo (Ag o W0)) P 0)),(o+mo),(O++pk (pA (dU sz ch lz H (wx mo (Ag o W0)) P 0))),(f-1),(by(rw[dm];exact Zd _ (by decide))),(by(rw[bx];omega)),om,om,(by(rw[Wc,ag,dF];have y:(dU sz ch lz H (wx mo (Ag o W0)) P 0).length<=P.length+3800000:=bP (by rw[Wi];omega) (by refine Ww (bh _ _ _ _ _) ?_;rw[Wi];omega);omega)),(by(refine nu hR hW0l om om om rfl)),⟨⟩⟩ (by show w+n-(o+mo)<w+n-o;clear ZB ZD;omega) [(0,0),(1328,1328),(1056,1056),(24,24),(32,32),(952,952)] ro) (λ p0 Z9=>.blk 24 24 (V8 [zN sz,zN ch,zN mo,D.v (.bool lz),Wb 8 8 0 (v0 H) 1,Wb 168 168 0 w 1,Wb 16 16 0 (v0 (pk P)) 1,zN (v0 P),D.v (.bool Gd),Wb 40 40 0 (v0 O) 1] 68 Gd) (V8 [zN sz,zN ch,zN mo,D.v (.bool lz),Wb 8 8 0 (v0 (Ls.H T)) 1,Wb 168 168 0 w 1,Wb 16 16 0 (v0 (pk (Ls.P T))) 1,zN (v0 (Ls.P T)),D.v (.bool Gd),Wb 40 40 0 (v0 (Ls.O T)) 1] 68 Gd) (by(obtain⟨e1,e2,e3,e4⟩:=dG hR hW0l om;rw[e1,e2,e4]))<|.blk 40 40 (V8 (wo dB O) 5 Ga) (V8 (wo dB (Ls.O T)) 5 Ga) (by(obtain⟨e1,e2,e3,e4⟩:=dG hR hW0l om;rw[e4]))<|.blk 8 8 (V8 (wo dB H) 5 Ga) (V8 (wo dB (Ls.H T)) 5 Ga) (by(obtain⟨e1,e2,e3,e4⟩:=dG hR hW0l om;rw[e1]))<|.blk 16 16 (V8 (wo dB (pk P)) 5 Ga) (V8 (wo dB (pk (Ls.P T))) 5 Ga) (by(obtain⟨e1,e2,e3,e4⟩:=dG hR hW0l om;rw[e2]))<|BO ZD 0 (⟨(o),om,(by(obtain⟨e1,e2,e3,e4⟩:=dG hR hW0l om;exact e3)),⟨⟩⟩:(o2:Nat)×'(ho2:o2<=w+n)×'(hw2:wx (w+n-o2) (Ag o2 W0)=T.w)×'Unit) rfl [(0,0),(8,8),(16,16),(24,24),(32,32),(40,40)] ro)) (fun|⟨H,P,o,O,f,hP,hH,ho,hf,hO,hR,_⟩=>by kernel_rfl) ⟨(H0),(P0),(0),([]),(w+n),om,om,om,om,(by(simp;done)),om,⟨⟩⟩ [(8,8),(144,144),(232,232),(280,280),(448,448),(464,464)] ro (bB (fun|⟨o2,ho2,hw2,_⟩=>.L 3 37 Gd [] (Ga&&(Ga&&Wf (o2+(w+n-o2)*1) (v0 (wo dB W0))&&Ga&&ab (bif V9 o2 0&&V9 ((w+n-o2)*1) (v0 (wo dB W0))then wo dB W0 else wx ((w+n-o2)*1) (Ag o2 (wo dB W0))))&&Ga) (by(simp only[ar];simp <;>(omega))) ([Wu (Wf 1 (w+n-o2)) (w+n-o2) 1 (bif V9 o2 0&&V9 ((w+n-o2)*1) (v0 (wo dB W0))then wo dB W0 else wx ((w+n-o2)*1) (Ag o2 (wo dB W0)))]) (by exact(Wn (D.sim.slw rfl ((ar (W0) (o2) ((w+n-o2)*1)).trans (by(simp;done)))) trivial)) (Ws (ap.of Tryz.func37 rfl rfl) (@Rc (wx (w+n-o2) (Ag o2 W0)) (w+n-o2) (by(simp <;>(omega))) om))<|.U 57 [8,192,16,40] [8,192,16,40] (Xm [W6 [zN sz,zN ch,zN mo,D.v (.bool lz),Wb 0 0 0 (v0 (Ls.H T)) 1,Wb 1 1 0 (w+n-o2) 1,Wb 2 2 0 (v0 (pk (Ls.P T))) 1,zN (v0 (Ls.P T)),D.v (.bool Gd)],Wb 3 3 0 (v0 (Ls.O T)) 1,zI 0]) [V8 (wo dB (Ls.H T)) 5 Ga,V8 (wo dB (wx (w+n-o2) (Ag o2 W0))) 5 Ga,V8 (wo dB (pk (Ls.P T))) 5 Ga,V8 (wo dB (Ls.O T)) 5 Ga] R (ok _ _ (by(have q:=congrArg v0 hw2;rw[Wi,Wy,hW0l]at q;refine congrArg (λ z=>Xm [W6 [nD sz,nD ch,nD mo,bD lz,.ref 0 0 0 T.H.length 1,.ref 1 1 0 z 1,.ref 2 2 0 (pk T.P).length 1,nD T.P.length,bD Gd],.ref 3 3 0 T.O.length 1,iD 0]) ?_;omega)) (by(simp_all;done)))))) kr
end Vp
end Go.Proofs.YtefjnofhgkjpmaaGreat

/- Part 5. -/
import Derived.Test.YtefjnofhgkjpmaaGreatTm2
import Derived.Test.YtefjnofhgkjpmaaGreatTm3
import Derived.Test.YtefjnofhgkjpmaaGreatTm4
set_option linter.unusedVariables false
set_option linter.unusedSimpArgs false
set_option maxRecDepth 100000
set_option maxHeartbeats 4000000
open And renaming intro → V4
open Bool renaming and_eq_true → VO, and_self → aaD, and_true → Wf, not_eq_true' → Xs, true_and → V8
open Go.IntKind renaming i64 → VV, wrap → VU
open Go.Vx.Blk renaming mk → VF
open Go.Vx.CallOk renaming fn → V0
open Go.Vx.CutS renaming mk → VZ
open Go.Vx.D renaming agg → Wu, ptr → V7, ref → VJ, sl → V3, tup → WL
open Inhabited renaming default → lh
open Int renaming tdiv → WZ, tmod → WW, toNat → zq
open List renaming append_assoc → Wc, append_nil → WN, count_append → Yn, drop → Wx, drop_eq_nil_of_le → WS, drop_zero → Xe, ext_getElem → aa5, ext_getElem? → WD, flatMap_append → WH, flatMap_cons → W9, getD_eq_getElem?_getD → VH, getElem?_eq_getElem → VG, getElem?_eq_none → Wh, getElem?_map → V6, getElem?_replicate → Xd, getElem?_set → W7, getElem?_zipWith → Y8, getElem_mem → WE, getElem_of_mem → aay, length → aai, length_append → VI, length_cons → Wj, length_drop → Wr, length_map → VP, length_replicate → Wk, length_set → Xz, length_singleton → Wv, length_take → VW, map → XD, map_append → Wz, map_cons → W6, map_id → aar, map_map → Ym, map_take → XZ, mem_cons_of_mem → Wa, mem_cons_self → Wb, mem_of_mem_drop → X5, mem_of_mem_take → WU, replicate → V1, replicate_succ → Zu, replicate_succ' → aat, set_append_right → Yy, set_cons_zero → aaL, take → Ws, take_append_drop → XR, take_length → Xh, take_of_length_le → Wm, take_succ_cons → XA, take_succ_eq_append_getElem → Wo, take_zero → YH
open Nat renaming add_mul → WV, add_sub_cancel → Xf, add_zero → Xw, beq → VK, beq_eq → Xa, beq_refl → WK, ble → VN, ble_eq → WT, ble_eq_true_of_le → VL, eq_of_beq_eq_true → VQ, le_of_ble_eq_true → VS, le_refl → VT, le_trans → VR, lt_of_le_of_lt → aaM, lt_of_lt_of_le → Wp, lt_of_not_le → aa6, lt_or_ge → Wl, lt_succ_of_lt → ZK, lt_trichotomy → XO, mul_add → Yf, mul_le_mul_right → Ww, mul_one → V5, one_mul → YX, pow_le_pow_right → WF, sub_self → W5, zero_add → Wd, zero_le → Wy, zero_mul → Xl, zero_testBit → aa7
open Prod renaming fst → V2, snd → VM
open UInt8 renaming ofNat → WI, toNat → VE, toNat_lt → WB
namespace Go.Proofs.YtefjnofhgkjpmaaGreat
open Go.RowKit Go.Bw Go.Vx
open List (length getD map take drop flatMap replicate)
namespace Vp
theorem uE {p:Prop}(h:p:=by(simp only[lW];simp;omega)):p:=h
theorem F1 {p:Prop}(h:p:=by(refine aw ?_;rw[WH];rfl)):p:=h
theorem F2 {p:Prop}(h:p:=by show f-1<f;clear ZB ZD;omega):p:=h
theorem Pv {p:Prop}(h:p:=by(have e9:(((2*j:Nat):Int)+1).toNat=2*j+1:=om;have e8:(X.getD (2*j) lh).2.length=n:=hl (2*j) om;have e6:(X.getD (2*j+1) lh).2.length=n:=hl (2*j+1) om;have e7:(X.getD (((2*j:Nat):Int)+1).toNat lh).2.length=n:=(by rw[e9];exact e6);omega)):p:=h
theorem Pw {p:Prop}(h:p:=by(exact T5 hR om om (λ q=>by have:=q.2;unfold bY at this;omega))):p:=h
abbrev Pa:=Nat×List Nat
def pv (n k:Nat):List Nat:=(V1 n 0).set k 1
def ct (p:Pa):List D:=[nD p.1,.sl false p.2.length 1 (p.2.map nD)]
def dS (F I:List Nat):Nat->List Pa
 |0=>[]
 |k+1=>dS F I k++[(F.getD (I.getD k 0) 0,pv I.length k)]
theorem eX (F I:List Nat):∀k,(dS F I k).length=k
 |0=>rfl
 |k+1=>by rw[dS,VI,eX F I k];rfl
theorem lW (X:List Pa):(X.flatMap ct).length=X.length*2:=bj (k:=2) (λ x=>(rfl:(ct x).length=2)) X
theorem yu (n k:Nat):(pv n k).length=n:=by unfold pv;rw[Xz,Wk]
theorem yv {L:List Nat}{k:Nat}(h:k<L.length):(L.map nD)[0+k*1]? =some (nD (L.getD k lh)):=by
 rw[Wd,V5,V6,VH,VG h];rfl
theorem Ix (n:Nat):bZ [D.v (.int .i64 0)] n=(V1 n 0).map nD:=by
 apply aa5
 ·simp[bZ]
 ·intro i h1 h2
  simp[bZ,Nat.mod_one]
theorem Px {M:List Nat}{o a:Nat}(ho:o<M.length):ag (M.map nD) o [nD a]=(M.set o a).map nD:=by
 apply WD;intro i;rw[cv (by simp;omega),List.map_set,W7,VP]
 by_cases h:o=i
 ·subst h
  rw[ZF (by simp),ZF rfl,ZF ho,W5];rfl
 ·rw[ZE (by simp only[Wv];omega),ZE h]
theorem Iy {n k:Nat}(h:k<n):ag (bZ [D.v (.int .i64 0)] n) k [D.v (.int .i64 1)]=(pv n k).map nD:=by
 rw[Ix];exact Px (a:=1) (by rw[Wk];exact h)
theorem CS {g kk n:Nat}{C:List D}{X Y:List Pa}{w:Int}{p:Pa}(hY:Y=X++[p])(hC:C=p.2.map nD)(hn:n=p.2.length)(hw:w=((p.1:Nat):Int)):(X.flatMap ct++[D.v (.int .i64 w),.ref kk g 0 n 1]).map (Am g C)=Y.flatMap ct:=by
 subst hY hC hn hw;rw[Wz,WH,List.map_flatMap];refine congr (congrArg _ (congrArg (λ f=>X.flatMap f) (funext λ x=>rfl))) ?_;have e:(VK g g&&Nat.blt 0 1&&VN (0+p.2.length*1) (p.2.map nD).length)=true:=by
  rw[VO,VO];exact⟨⟨WK g,rfl⟩,VL (by simp)⟩
 have h2:Am g (p.2.map nD) (.ref kk g 0 p.2.length 1)= .sl false p.2.length 1 (p.2.map nD):=by
  show(bif _ then _ else _)=_;rw[e,cond_true,Xe,Wm (by simp)]
 show[_,Am g _ _]=ct p++[];rw[h2];rfl
theorem KR (F:List Nat)(m:Nat)(hm:m=F.length)(hm2:m<=320)(I:List Nat)(n:Nat)(hn:n=I.length)(hn2:n<=320)(hI:∀k,k<n->I.getD k lh<F.length):S1 186 [.sl false m 1 (F.map nD),.sl false n 1 (I.map nD)] [] (.ref 0 0 0 n 2) [⟨(dS F I n).flatMap ct, 291,true⟩]:=SpR Tryz.func186 rfl rfl rfl ⟨bW (λ _=>rfl) _,trivial⟩ rfl 1000 64 (λ R ok=>.s 3<|.nils 5 24 2 291<|Hn.inl T_ok ah false 33 0 (aq Tryz.prog 186 0) (λ(x:(k:Nat)×'(hk:k<=n)×'Unit)=>match x with|⟨k,hk,_⟩=>VZ [(0,V3 false m 1 (map nD F)),(1,V3 false n 1 (map nD I)),(5,(VJ 0 0 (0) (k) 2)),(6,nD k)] [⟨0,0,24,24,.b ⟨(dS F I k).flatMap ct,291,true⟩⟩] 8) (λ(x:(k:Nat)×'(hk:k<=n)×'Unit)=>match x with|⟨k,hk,_⟩=>n-k) [⟨Unit,.exit 0,λ x=>match x with|()=>VZ [(0,V3 false m 1 (map nD F)),(1,V3 false n 1 (map nD I)),(5,(VJ 0 0 (0) (n) 2))] [⟨0,0,24,24,.b ⟨(dS F I n).flatMap ct,291,true⟩⟩] 8⟩] 1000 64 (fun|⟨k,hk,_⟩,Q,ZB,ZD=>.B 5 ((k:Int)<n) (λ p0 Z9=>.K 3 (true&&decide ((n:Int)<=n)&&true&&true&&true&&true&&decide ((↑(TI.bytes Mf):Int)*(n:Int)<=140737488355328)) (by(have h9:((Mf.bytes:Nat):Int)=8:=rfl;rw[h9];simp;omega))<|.K 4 (true&&decide ((k:Int)<(↑(zq (n:Int)):Int))) aO<|.K 1 (true&&VN (0+k*1+1) (length (bZ [zI 0] (n*1)))) (by(simp;have h9:=hI k om;omega))<|.lst (ag (bZ [zI 0] (n*1)) (0+k*1) [zI 1]) (ag (bZ [zI 0] n) k [zI 1]) (by(simp;done))<|.K 5 (true&&decide ((k:Int)<n)&&true) JO<|.O 2 ((map nD I)[k*1]?) (nD (getD I (k*1) lh)) (am _ _ om)<|.K 1 (true&&decide ((↑(getD I (k*1) lh):Int)<(m:Int))&&true) (by clear ZB ZD;(simp_all;done))<|.O 2 ((map nD F)[getD I (k*1) lh*1]?) (nD (getD F (getD I (k*1) lh*1) lh)) (am _ _ (by clear ZB ZD;(simp_all;done)))<|.K 6 (true&&VK (k*2) (length (flatMap ct (dS F I k)))&&true&&true&&true&&true&&VN ((k+1)*32) 140737488355328) (by(simp only[lW,eX];simp;omega))<|.W 4 (k+1)<|.s 1<|.frz 56 56 (VF (ag (bZ [zI 0] n) k [zI 1]) 3 true) 192 192 (VF (flatMap ct (dS F I k)++[zN (getD F (getD I (k*1) lh*1) lh),VJ 56 56 0 n 1]) 291 true) (by(rw[Iy om];exact bu _ (λ _=>rfl) _))<|.val 6 (zI (k+1)) (zN (k+1)) D9<|.blk 192 192 (VF (map (Am 56 (Blk.cells (VF (ag (bZ [zI 0] n) k [zI 1]) 3 true))) (flatMap ct (dS F I k)++[zN (getD F (getD I (k*1) lh*1) lh),VJ 56 56 0 n 1])) 291 true) (VF (flatMap ct (dS F I (k+1))) 291 true) (by(refine aw (CS (p:=(F.getD (I.getD k lh) lh,pv n k)) (by rw[hn];rfl) (Iy om) (yu _ _).symm (by simp only[V5]))))<|Hn.next ZB ⟨(k+1),om,⟨⟩⟩ (by show n-(k+1)<n-k;clear ZB ZD;omega) [(192,192)] ro) (λ p0 Z9=>.val 5 (VJ 0 0 0 k 2) (VJ 0 0 0 n 2) (by(rw[show k=n from by omega]))<|.blk 0 0 (VF (flatMap ct (dS F I k)) 291 true) (VF (flatMap ct (dS F I n)) 291 true) (by(rw[show k=n from by omega]))<|Hn.last ZD 0 (():Unit) rfl [(0,0)] ro)) (fun|⟨k,hk,_⟩=>by kernel_rfl) ⟨(0),om,⟨⟩⟩ [(24,24)] ro (bM (fun|()=>.Y 2 [0] [0] (VJ 0 0 0 n 2) [VF (flatMap ct (dS F I n)) 291 true] ok))) kr
abbrev bY (X:List Pa)(i:Nat):Pa:=X.getD i lh
def eY (a b:List Nat):List Nat:=List.zipWith (· + ·) a b
def fx (X:List Pa):Nat->List Pa
 |0=>[]
 |j+1=>fx X j++[((bY X (2*j)).1+(bY X (2*j+1)).1,eY (bY X (2*j)).2 (bY X (2*j+1)).2)]
theorem eh (X:List Pa):∀j,(fx X j).length=j
 |0=>rfl
 |j+1=>by rw[fx,VI,eh X j];rfl
def uF (a b:List Nat)(k:Nat):List Nat:=(eY a b).take k++V1 ((eY a b).length-k) 0
theorem fy {a b:List Nat}{n:Nat}(ha:a.length=n)(hb:b.length=n):(eY a b).length=n:=by unfold eY;rw[List.length_zipWith];omega
theorem T0 {a b:List Nat}{n:Nat}(ha:a.length=n)(hb:b.length=n):V1 n 0=uF a b 0:=by
 unfold uF;rw[fy ha hb];simp
theorem T3 {a b:List Nat}{n:Nat}(ha:a.length=n)(hb:b.length=n):uF a b n=eY a b:=by
 have:=fy ha hb;unfold uF;rw[Wm om,this,W5];simp
theorem T4 {a b:List Nat}{n k:Nat}(ha:a.length=n)(hb:b.length=n)(hk:k<n):(uF a b k).set k (a.getD k lh+b.getD k lh)=uF a b (k+1):=by
 have hl:=fy ha hb;have hg:(eY a b)[k]? =some (a.getD k lh+b.getD k lh):=by
  unfold eY;rw[Y8,VH,VH,VG (show k<a.length by omega),VG (show k<b.length by omega)];rfl
 unfold uF;rw[hl,show n-k=(n-(k+1))+1 from by omega,Zu,Yy _ _ (by rw[VW];omega),VW,show k-min k (eY a b).length=0 from by omega,aaL,Wo (show k<(eY a b).length by omega),Wc];rw[VG (show k<(eY a b).length by omega)]at hg;rw[Option.some.inj hg];rfl
theorem CT {L:List Nat}{k:Nat}(h:k<L.length):(L.map nD)[k*1]? =some (nD (L.getD k lh)):=by
 have:=yv h;rwa [Wd]at this
theorem F3 {x:Int}(h:-9223372036854775808<=x∧x<=9223372036854775807):IntKind.i64.wrap x=x:=by
 have h2:=fz (x:=x) h;rw[aE]at h2;injection h2 with h3;injection h3 with h4;injection h4
theorem yw {a b:List Nat}{k:Nat}(h:k<=(eY a b).length):(uF a b k).length=(eY a b).length:=by unfold uF;simp;omega
theorem KS (X:List Pa)(m:Nat)(hm:m=X.length)(hm2:m<=100000)(n:Nat)(hn2:n<=320)(hl:∀i,i<m->(bY X i).2.length=n)(hw:∀i,(bY X i).1<=1000000000000000000)(hc:∀i k,(bY X i).2.getD k lh<=1000000000000000000):S1 188 [.sl false m 2 (X.flatMap ct)] [] (.ref 0 0 0 (m/2) 2) [⟨(fx X (m/2)).flatMap ct, 291,true⟩]:=SpR Tryz.func188 rfl rfl rfl ⟨bW (λ _=>rfl) _,trivial⟩ rfl 1000 64 (λ R ok=>.s 3<|.nils 3 24 2 291<|Hn.inl T_ok ah false 66 0 (aq Tryz.prog 188 0) (λ(x:(j:Nat)×'(hj:j<=m/2)×'Unit)=>match x with|⟨j,hj,_⟩=>VZ [(0,V3 false m 2 (flatMap ct X)),(3,(VJ 0 0 (0) (j) 2)),(4,nD (2*j))] [⟨0,0,24,24,.b ⟨(fx X j).flatMap ct,291,true⟩⟩] 8) (λ(x:(j:Nat)×'(hj:j<=m/2)×'Unit)=>match x with|⟨j,hj,_⟩=>m-2*j) [⟨Unit,.exit 0,λ x=>match x with|()=>VZ [(0,V3 false m 2 (flatMap ct X)),(3,(VJ 0 0 (0) (m/2) 2))] [⟨0,0,24,24,.b ⟨(fx X (m/2)).flatMap ct,291,true⟩⟩] 8⟩] 1000 64 (fun|⟨j,hj,_⟩,Q,ZB,ZD=>.W 3 ((↑(2*j):Int)+1)<|.B 4 ((↑(2*j):Int)+1<(m:Int)) (λ p0 Z9=>.K 3 (true&&decide ((↑(2*j):Int)<(m:Int))&&true) JO<|.O 5 ((flatMap ct X)[2*j*2+1]?) (V3 false (length (VM (getD X (2*j) lh))) 1 (map nD (VM (getD X (2*j) lh)))) (cX (k:=2) (i:=2*j) (j:=1) (λ _=>rfl) om om rfl)<|.K 2 (true&&decide ((↑(length (VM (getD X (2*j) lh))):Int)<=(↑(length (VM (getD X (2*j) lh))):Int))&&true&&true&&true&&true&&decide ((↑(TI.bytes Mf):Int)*(↑(length (VM (getD X (2*j) lh))):Int)<=140737488355328)) (by(have h9:((Mf.bytes:Nat):Int)=8:=rfl;have e9:(((2*j:Nat):Int)+1).toNat=2*j+1:=om;have e8:(X.getD (2*j) lh).2.length=n:=hl (2*j) om;have e6:(X.getD (2*j+1) lh).2.length=n:=hl (2*j+1) om;have e7:(X.getD (((2*j:Nat):Int)+1).toNat lh).2.length=n:=(by rw[e9];exact e6);rw[h9,e8];simp;omega))<|.M 2 96 96 (VF (bZ [zI 0] (length (VM (getD X (2*j) lh))*1)) 3 true) (VF (map nD (uF (VM (bY X (2*j))) (VM (bY X (2*j+1))) 0)) 3 true) (by(have e9:(((2*j:Nat):Int)+1).toNat=2*j+1:=om;have e8:(X.getD (2*j) lh).2.length=n:=hl (2*j) om;have e6:(X.getD (2*j+1) lh).2.length=n:=hl (2*j+1) om;have e7:(X.getD (((2*j:Nat):Int)+1).toNat lh).2.length=n:=(by rw[e9];exact e6);rw[V5,Ix,e8];exact aw (congrArg (map nD) (T0 e8 e6))))<|Hn.inl T_ok ah false 66 0 (aq Tryz.prog 188 1) (λ(x:(k:Nat)×'(hk:k<=n)×'Unit)=>match x with|⟨k,hk,_⟩=>VZ [(0,V3 false m 2 (flatMap ct X)),(3,VJ 0 0 0 j 2),(4,zN (2*j)),(5,VJ 8 8 0 (length (VM (getD X (2*j) lh))) 1),(6,nD k)] [⟨0,0,0,0,.b ⟨flatMap ct (fx X j),291,true⟩⟩,⟨8,8,96,96,.b ⟨(uF (bY X (2*j)).2 (bY X (2*j+1)).2 k).map nD,3,true⟩⟩] 16) (λ(x:(k:Nat)×'(hk:k<=n)×'Unit)=>match x with|⟨k,hk,_⟩=>n-k) [⟨Unit,.exit 2,λ x=>match x with|()=>VZ [(0,V3 false m 2 (flatMap ct X)),(3,VJ 0 0 0 j 2),(4,zN (2*j)),(5,VJ 8 8 0 (length (VM (getD X (2*j) lh))) 1)] [⟨0,0,0,0,.b ⟨flatMap ct (fx X j),291,true⟩⟩,⟨8,8,96,96,.b ⟨(eY (bY X (2*j)).2 (bY X (2*j+1)).2).map nD,3,true⟩⟩] 16⟩] 1000 64 (fun|⟨k,hk,_⟩,Q,ZA,ZC=>.B 5 ((k:Int)<(↑(length (VM (getD X (2*j) lh))):Int)) (λ p1 Z8=>.K 6 (true&&decide ((↑(2*j):Int)<(m:Int))&&true) JO<|.O 5 ((flatMap ct X)[2*j*2+1]?) (V3 false (length (VM (getD X (2*j) lh))) 1 (map nD (VM (getD X (2*j) lh)))) (cX (k:=2) (i:=2*j) (j:=1) (λ _=>rfl) om om rfl)<|.K 2 (true&&decide ((k:Int)<(↑(length (VM (getD X (2*j) lh))):Int))&&true) JO<|.O 2 ((map nD (VM (getD X (2*j) lh)))[k*1]?) (nD (getD (VM (getD X (2*j) lh)) k lh)) (@CT (X.getD (2*j) lh).2 k om)<|.W 4 ((↑(2*j):Int)+1)<|.K 1 (true&&decide ((↑(2*j):Int)+1<(m:Int))&&true) JO<|.O 5 ((flatMap ct X)[zq ((↑(2*j):Int)+1)*2+1]?) (V3 false (length (VM (getD X (zq ((↑(2*j):Int)+1)) lh))) 1 (map nD (VM (getD X (zq ((↑(2*j):Int)+1)) lh)))) (cX (k:=2) (i:=zq ((↑(2*j):Int)+1)) (j:=1) (λ _=>rfl) om om rfl)<|.K 2 (true&&decide ((k:Int)<(↑(length (VM (getD X (zq ((↑(2*j):Int)+1)) lh))):Int))&&true) (by((refine aC ?_ ?_)<;>(repeat' (first|(refine aC ?_ ?_)|(with_reducible rfl)|(refine decide_eq_true ?_)|(refine VL ?_)|(refine dA ?_)))<;>(have e9:(((2*j:Nat):Int)+1).toNat=2*j+1:=om;have e8:(X.getD (2*j) lh).2.length=n:=hl (2*j) om;have e6:(X.getD (2*j+1) lh).2.length=n:=hl (2*j+1) om;have e7:(X.getD (((2*j:Nat):Int)+1).toNat lh).2.length=n:=(by rw[e9];exact e6);omega)))<|.O 2 ((map nD (VM (getD X (zq ((↑(2*j):Int)+1)) lh)))[k*1]?) (nD (getD (VM (getD X (zq ((↑(2*j):Int)+1)) lh)) k lh)) (@CT (X.getD (zq (((2*j:Nat):Int)+1)) lh).2 k Pv)<|.O 2 (ay .i64 ((↑(getD (VM (getD X (2*j) lh)) k lh):Int)+(↑(getD (VM (getD X (zq ((↑(2*j):Int)+1)) lh)) k lh):Int))) (zI (VU VV ((↑(getD (VM (getD X (2*j) lh)) k lh):Int)+(↑(getD (VM (getD X (zq ((↑(2*j):Int)+1)) lh)) k lh):Int)))) (aE _ _)<|.K 1 (true&&decide ((k:Int)<(↑(length (VM (getD X (2*j) lh))):Int))) aO<|.K 1 (true&&VN (0+k*1+1) (length (map nD (uF (VM (bY X (2*j))) (VM (bY X (2*j+1))) k)))) (by(have e9:(((2*j:Nat):Int)+1).toNat=2*j+1:=om;have e8:(X.getD (2*j) lh).2.length=n:=hl (2*j) om;have e6:(X.getD (2*j+1) lh).2.length=n:=hl (2*j+1) om;have e7:(X.getD (((2*j:Nat):Int)+1).toNat lh).2.length=n:=(by rw[e9];exact e6);refine aC rfl (VL ?_);rw[VP,yw (by rw[fy e8 e6];omega),fy e8 e6];omega))<|.lst (ag (map nD (uF (VM (bY X (2*j))) (VM (bY X (2*j+1))) k)) (0+k*1) [zI (VU VV ((↑(getD (VM (getD X (2*j) lh)) k lh):Int)+(↑(getD (VM (getD X (zq ((↑(2*j):Int)+1)) lh)) k lh):Int)))]) (ag (map nD (uF (VM (bY X (2*j))) (VM (bY X (2*j+1))) k)) k [zI (VU VV ((↑(getD (VM (getD X (2*j) lh)) k lh):Int)+(↑(getD (VM (getD X (zq ((↑(2*j):Int)+1)) lh)) k lh):Int)))]) (by(simp;done))<|.W 3 (k+1)<|.V 1 6 (zI (k+1)) (zN (k+1)) D9<|.blk 8 8 (VF (ag (map nD (uF (VM (bY X (2*j))) (VM (bY X (2*j+1))) k)) k [zI (VU VV ((↑(getD (VM (getD X (2*j) lh)) k lh):Int)+(↑(getD (VM (getD X (zq ((↑(2*j):Int)+1)) lh)) k lh):Int)))]) 3 true) (VF (map nD (uF (VM (bY X (2*j))) (VM (bY X (2*j+1))) (k+1))) 3 true) (by(have e9:(((2*j:Nat):Int)+1).toNat=2*j+1:=om;have e8:(X.getD (2*j) lh).2.length=n:=hl (2*j) om;have e6:(X.getD (2*j+1) lh).2.length=n:=hl (2*j+1) om;have e7:(X.getD (((2*j:Nat):Int)+1).toNat lh).2.length=n:=(by rw[e9];exact e6);refine aw ?_;rw[e9];have w1:=hc (2*j) k;have w2:=hc (2*j+1) k;rw[<-T4 e8 e6 (show k<n by omega),<-Px (by rw[yw (by rw[fy e8 e6];omega),fy e8 e6];omega)];rw[F3 (by unfold bY at w1 w2;omega)];rfl))<|Hn.next ZA ⟨(k+1),Pv,⟨⟩⟩ (by show n-(k+1)<n-k;clear ZA ZC ZB ZD;(have e9:(((2*j:Nat):Int)+1).toNat=2*j+1:=om;have e8:(X.getD (2*j) lh).2.length=n:=hl (2*j) om;have e6:(X.getD (2*j+1) lh).2.length=n:=hl (2*j+1) om;have e7:(X.getD (((2*j:Nat):Int)+1).toNat lh).2.length=n:=(by rw[e9];exact e6);omega)) [(0,0),(8,8)] ro) (λ p1 Z8=>.blk 8 8 (VF (map nD (uF (VM (bY X (2*j))) (VM (bY X (2*j+1))) k)) 3 true) (VF (map nD (eY (VM (bY X (2*j))) (VM (bY X (2*j+1))))) 3 true) (by(have e9:(((2*j:Nat):Int)+1).toNat=2*j+1:=om;have e8:(X.getD (2*j) lh).2.length=n:=hl (2*j) om;have e6:(X.getD (2*j+1) lh).2.length=n:=hl (2*j+1) om;have e7:(X.getD (((2*j:Nat):Int)+1).toNat lh).2.length=n:=(by rw[e9];exact e6);rw[show k=n from by omega];exact aw (congrArg (map nD) (T3 e8 e6))))<|Hn.last ZC 0 (():Unit) rfl [(0,0),(8,8)] ro)) (fun|⟨k,hk,_⟩=>by kernel_rfl) ⟨(0),om,⟨⟩⟩ [(0,0),(96,96)] ro (bM (fun|()=>.K 5 (true&&decide ((↑(2*j):Int)<(m:Int))&&true) JO<|.O 5 ((flatMap ct X)[2*j*2+0]?) (zN (V2 (getD X (2*j) lh))) (cX (k:=2) (i:=2*j) (j:=0) (λ _=>rfl) om om rfl)<|.W 4 ((↑(2*j):Int)+1)<|.K 1 (true&&decide ((↑(2*j):Int)+1<(m:Int))&&true) JO<|.O 5 ((flatMap ct X)[zq ((↑(2*j):Int)+1)*2+0]?) (zN (V2 (getD X (zq ((↑(2*j):Int)+1)) lh))) (cX (k:=2) (i:=zq ((↑(2*j):Int)+1)) (j:=0) (λ _=>rfl) om om rfl)<|.O 2 (ay .i64 ((↑(V2 (getD X (2*j) lh)):Int)+(↑(V2 (getD X (zq ((↑(2*j):Int)+1)) lh)):Int))) (zI (VU VV ((↑(V2 (getD X (2*j) lh)):Int)+(↑(V2 (getD X (zq ((↑(2*j):Int)+1)) lh)):Int)))) (aE _ _)<|.K 6 (true&&VK (j*2) (length (flatMap ct (fx X j)))&&true&&true&&true&&true&&VN ((j+1)*32) 140737488355328) (by(simp only[lW,eh];simp;omega))<|.W 4 ((↑(2*j):Int)+2)<|.s 1<|.frz 8 8 (VF (map nD (eY (VM (bY X (2*j))) (VM (bY X (2*j+1))))) 3 true) 144 144 (VF (flatMap ct (fx X j)++[zI (VU VV ((↑(V2 (getD X (2*j) lh)):Int)+(↑(V2 (getD X (zq ((↑(2*j):Int)+1)) lh)):Int))),VJ 8 8 0 (length (VM (getD X (2*j) lh))) 1]) 291 true) (by(simp;done))<|.val 4 (zI ((↑(2*j):Int)+2)) (zN (2*(j+1))) D9<|.blk 144 144 (VF (map (Am 8 (Blk.cells (VF (map nD (eY (VM (bY X (2*j))) (VM (bY X (2*j+1))))) 3 true))) (flatMap ct (fx X j)++[zI (VU VV ((↑(V2 (getD X (2*j) lh)):Int)+(↑(V2 (getD X (zq ((↑(2*j):Int)+1)) lh)):Int))),VJ 8 8 0 (length (VM (getD X (2*j) lh))) 1])) 291 true) (VF (flatMap ct (fx X (j+1))) 291 true) (by(have e9:(((2*j:Nat):Int)+1).toNat=2*j+1:=om;have e8:(X.getD (2*j) lh).2.length=n:=hl (2*j) om;have e6:(X.getD (2*j+1) lh).2.length=n:=hl (2*j+1) om;have e7:(X.getD (((2*j:Nat):Int)+1).toNat lh).2.length=n:=(by rw[e9];exact e6);refine aw (CS (p:=((bY X (2*j)).1+(bY X (2*j+1)).1,eY (bY X (2*j)).2 (bY X (2*j+1)).2)) rfl rfl (by rw[e8];exact(fy e8 e6).symm) (by rw[e9];have w1:=hw (2*j);have w2:=hw (2*j+1);rw[F3 (by unfold bY at w1 w2;omega)];rfl))))<|Hn.next ZB ⟨(j+1),om,⟨⟩⟩ (by show m-2*(j+1)<m-2*j;clear ZB ZD;omega) [(144,144)] ro))) (λ p0 Z9=>.val 3 (VJ 0 0 0 j 2) (VJ 0 0 0 (m/2) 2) (by(rw[show j=m/2 from by omega]))<|.blk 0 0 (VF (flatMap ct (fx X j)) 291 true) (VF (flatMap ct (fx X (m/2))) 291 true) (by(rw[show j=m/2 from by omega]))<|Hn.last ZD 0 (():Unit) rfl [(0,0)] ro)) (fun|⟨j,hj,_⟩=>by kernel_rfl) ⟨(0),om,⟨⟩⟩ [(24,24)] ro (bM (fun|()=>.Y 2 [0] [0] (VJ 0 0 0 (m/2) 2) [VF (flatMap ct (fx X (m/2))) 291 true] ok))) kr
def Ec (A B:List Pa)(i k:Nat):Prop:=k=B.length∨(i<A.length∧(bY A i).1<=(bY B k).1)
instance (A B:List Pa) (i k:Nat):Decidable (Ec A B i k):=by unfold Ec;infer_instance
def px (A B:List Pa):Nat->Nat->Nat->List Pa
 |0,_,_=>[]
 |f+1,i,k=>if Ec A B i k then bY A i::px A B f (i+1) k else bY B k::px A B f i (k+1)
theorem Py {A B o T:List Pa}{f i k:Nat}(h:o++px A B f i k=T)(hf:0<f)(q:k=B.length∨(i<A.length∧(bY A i).1<=(bY B k).1)):(o++[bY A i])++px A B (f-1) (i+1) k=T:=by
 obtain⟨g,rfl⟩:∃g,f=g+1:=⟨f-1,by omega⟩
 rw[<-h,px,ZF (show Ec A B i k from q),Wc];rfl
theorem T5 {A B o T:List Pa}{f i k:Nat}(h:o++px A B f i k=T)(hf:0<f)(q:¬k=B.length)(q2:¬(i<A.length∧(bY A i).1<=(bY B k).1)):(o++[bY B k])++px A B (f-1) i (k+1)=T:=by
 obtain⟨g,rfl⟩:∃g,f=g+1:=⟨f-1,by omega⟩
 rw[<-h,px,ZE (show¬Ec A B i k from λ x=>x.elim q q2),Wc];rfl
theorem T6 {A B o T:List Pa}{f i k:Nat}(h:o++px A B f i k=T)(hf:f=0):o=T:=by
 subst hf;rw[<-h,px,WN]
theorem kW (A B:List Pa):∀f i k,(px A B f i k).length=f
 |0,_,_=>rfl
 |f+1,i,k=>by
  rw[px];split
  ·rw[Wj,kW A B f]
  ·rw[Wj,kW A B f]
theorem F4 (A:List Pa)(a:Nat)(ha:a=A.length)(ha2:a<=100000)(B:List Pa)(b:Nat)(hb:b=B.length)(hb2:b<=100000)(T:List Pa)(hT:px A B (a+b) 0 0=T):S1 187 [.sl false a 2 (A.flatMap ct),.sl false b 2 (B.flatMap ct)] [] (.ref 0 0 0 (a+b) 2) [⟨T.flatMap ct, 291,true⟩]:=SpR Tryz.func187 rfl rfl rfl ⟨bW (λ _=>rfl) _,trivial⟩ rfl 1000 64 (λ R ok=>.s 4<|.nils 5 32 2 291<|Hn.inl T_ok ah false 60 0 (aq Tryz.prog 187 0) (λ(x:(i:Nat)×'(k:Nat)×'(f:Nat)×'(o:List Pa)×'(hi:i<=a)×'(hk:k<=b)×'(hf:f+i+k=a+b)×'(ho:o.length=i+k)×'(hR:o++px A B f i k=T)×'Unit)=>match x with|⟨i,k,f,o,hi,hk,hf,ho,hR,_⟩=>VZ [(0,V3 false a 2 (flatMap ct A)),(1,V3 false b 2 (flatMap ct B)),(5,(VJ 0 0 (0) (i+k) 2)),(6,nD i),(7,nD k)] [⟨0,0,32,32,.b ⟨o.flatMap ct,291,true⟩⟩] 8) (λ(x:(i:Nat)×'(k:Nat)×'(f:Nat)×'(o:List Pa)×'(hi:i<=a)×'(hk:k<=b)×'(hf:f+i+k=a+b)×'(ho:o.length=i+k)×'(hR:o++px A B f i k=T)×'Unit)=>match x with|⟨i,k,f,o,hi,hk,hf,ho,hR,_⟩=>f) [⟨Unit,.exit 0,λ x=>match x with|()=>VZ [(0,V3 false a 2 (flatMap ct A)),(1,V3 false b 2 (flatMap ct B)),(5,(VJ 0 0 (0) (a+b) 2))] [⟨0,0,32,32,.b ⟨T.flatMap ct,291,true⟩⟩] 8⟩] 1000 64 (fun|⟨i,k,f,o,hi,hk,hf,ho,hR,_⟩,Q,ZB,ZD=>.B 7 ((i:Int)<a) (λ p0 Z9=>.R 16 ((k:Int)==b) (λ p1=>have Z8:=eq_of_beq p1;.K 27 (true&&decide ((i:Int)<a)&&true) JO<|.K 2 (VN (i*2+2) (length (flatMap ct A))) uE<|.lst (take 2 (drop (i*2) (flatMap ct A))) ([zN (V2 (getD A i lh)),V3 false (length (VM (getD A i lh))) 1 (map nD (VM (getD A i lh)))]) (aJ (k:=2) (i:=i) (λ _=>rfl) om om)<|.K 3 (true&&VK ((i+k)*2) (length (flatMap ct o))&&true&&true&&true&&true&&VN ((i+k+1)*32) 140737488355328) uE<|.W 4 (i+1)<|.V 1 5 (VJ 320 320 0 (i+k+1) 2) (VJ 320 320 0 (i+1+k) 2) (by(simp <;>(omega)))<|.val 6 (zI (i+1)) (zN (i+1)) D9<|.blk 320 320 (VF (flatMap ct o++[zN (V2 (getD A i lh)),V3 false (length (VM (getD A i lh))) 1 (map nD (VM (getD A i lh)))]) 291 true) (VF (flatMap ct (o++[bY A i])) 291 true) F1<|Hn.next ZB ⟨(i+1),(k),(f-1),(o++[bY A i]),om,om,om,(by(simp <;>(omega))),(by(exact Py hR om (.inl om))),⟨⟩⟩ F2 [(320,320)] ro) (λ p1=>have Z8:=ap p1;.E 10 (decide ((i:Int)<a)) p0<|.K 4 (true&&decide ((i:Int)<a)&&true) JO<|.O 7 ((flatMap ct A)[i*2+0]?) (zN (V2 (getD A i lh))) (cX (k:=2) (i:=i) (j:=0) (λ _=>rfl) om om rfl)<|.K 6 (true&&decide ((k:Int)<b)&&true) JO<|.O 7 ((flatMap ct B)[k*2+0]?) (zN (V2 (getD B k lh))) (cX (k:=2) (i:=k) (j:=0) (λ _=>rfl) om om rfl)<|.B 6 ((↑(V2 (getD A i lh)):Int)<=(↑(V2 (getD B k lh)):Int)) (λ p2 Z7=>.K 4 (true&&decide ((i:Int)<a)&&true) JO<|.K 2 (VN (i*2+2) (length (flatMap ct A))) uE<|.lst (take 2 (drop (i*2) (flatMap ct A))) ([zN (V2 (getD A i lh)),V3 false (length (VM (getD A i lh))) 1 (map nD (VM (getD A i lh)))]) (aJ (k:=2) (i:=i) (λ _=>rfl) om om)<|.K 3 (true&&VK ((i+k)*2) (length (flatMap ct o))&&true&&true&&true&&true&&VN ((i+k+1)*32) 140737488355328) uE<|.W 4 (i+1)<|.V 1 5 (VJ 320 320 0 (i+k+1) 2) (VJ 320 320 0 (i+1+k) 2) (by(simp <;>(omega)))<|.val 6 (zI (i+1)) (zN (i+1)) D9<|.blk 320 320 (VF (flatMap ct o++[zN (V2 (getD A i lh)),V3 false (length (VM (getD A i lh))) 1 (map nD (VM (getD A i lh)))]) 291 true) (VF (flatMap ct (o++[bY A i])) 291 true) F1<|Hn.next ZB ⟨(i+1),(k),(f-1),(o++[bY A i]),om,om,om,(by(simp <;>(omega))),(by(exact Py hR om (.inr ⟨by omega,by unfold bY;omega⟩))),⟨⟩⟩ F2 [(320,320)] ro) (λ p2 Z7=>.K 4 (true&&decide ((k:Int)<b)&&true) JO<|.K 2 (VN (k*2+2) (length (flatMap ct B))) uE<|.lst (take 2 (drop (k*2) (flatMap ct B))) ([zN (V2 (getD B k lh)),V3 false (length (VM (getD B k lh))) 1 (map nD (VM (getD B k lh)))]) (aJ (k:=2) (i:=k) (λ _=>rfl) om om)<|.K 3 (true&&VK ((i+k)*2) (length (flatMap ct o))&&true&&true&&true&&true&&VN ((i+k+1)*32) 140737488355328) uE<|.W 4 (k+1)<|.V 1 5 (VJ 320 320 0 (i+k+1) 2) (VJ 320 320 0 (i+(k+1)) 2) (by(simp <;>(omega)))<|.val 7 (zI (k+1)) (zN (k+1)) D9<|.blk 320 320 (VF (flatMap ct o++[zN (V2 (getD B k lh)),V3 false (length (VM (getD B k lh))) 1 (map nD (VM (getD B k lh)))]) 291 true) (VF (flatMap ct (o++[bY B k])) 291 true) F1<|Hn.next ZB ⟨(i),(k+1),(f-1),(o++[bY B k]),om,om,om,(by(simp <;>(omega))),Pw,⟨⟩⟩ F2 [(320,320)] ro))) (λ p0 Z9=>.B 8 ((k:Int)<b) (λ p3 Z6=>.F 8 ((k:Int)==b) (by(refine decide_eq_false ?_;(omega)))<|.F 10 (decide ((i:Int)<a)) p0<|.K 28 (true&&decide ((k:Int)<b)&&true) JO<|.K 2 (VN (k*2+2) (length (flatMap ct B))) uE<|.lst (take 2 (drop (k*2) (flatMap ct B))) ([zN (V2 (getD B k lh)),V3 false (length (VM (getD B k lh))) 1 (map nD (VM (getD B k lh)))]) (aJ (k:=2) (i:=k) (λ _=>rfl) om om)<|.K 3 (true&&VK ((i+k)*2) (length (flatMap ct o))&&true&&true&&true&&true&&VN ((i+k+1)*32) 140737488355328) uE<|.W 4 (k+1)<|.V 1 5 (VJ 320 320 0 (i+k+1) 2) (VJ 320 320 0 (i+(k+1)) 2) (by(simp <;>(omega)))<|.val 7 (zI (k+1)) (zN (k+1)) D9<|.blk 320 320 (VF (flatMap ct o++[zN (V2 (getD B k lh)),V3 false (length (VM (getD B k lh))) 1 (map nD (VM (getD B k lh)))]) 291 true) (VF (flatMap ct (o++[bY B k])) 291 true) F1<|Hn.next ZB ⟨(i),(k+1),(f-1),(o++[bY B k]),om,om,om,(by(simp <;>(omega))),Pw,⟨⟩⟩ F2 [(320,320)] ro) (λ p3 Z6=>.val 5 (VJ 0 0 0 (i+k) 2) (VJ 0 0 0 (a+b) 2) (by(simp <;>(omega)))<|.blk 0 0 (VF (flatMap ct o) 291 true) (VF (flatMap ct T) 291 true) (by(rw[T6 hR om]))<|Hn.last ZD 0 (():Unit) rfl [(0,0)] ro))) (fun|⟨i,k,f,o,hi,hk,hf,ho,hR,_⟩=>by kernel_rfl) ⟨(0),(0),(a+b),([]),om,om,om,(by(simp;done)),aO,⟨⟩⟩ [(32,32)] ro (bM (fun|()=>.Y 2 [0] [0] (VJ 0 0 0 (a+b) 2) [VF (flatMap ct T) 291 true] ok))) kr
theorem wk {p:Prop}(h:p:=by(have p9:=oS F i (bi F i) (bi F i).length;have p8:=iy F i;simp[aT];omega)):p:=h
theorem Pz {p:Prop}(h:p:=by(have p9:=oS F i (bi F i) (bi F i).length;have p8:=iy F i;simp only[PA];simp;omega)):p:=h
def fV (F:List Nat)(x:Nat)(o:List Nat):Nat->Nat
 |0=>0
 |a+1=>if F.getD x lh<F.getD (o.getD a lh) lh then fV F x o a else a+1
def Ed (F:List Nat)(x:Nat)(o:List Nat):List Nat:=o.take (fV F x o o.length)++x::o.drop (fV F x o o.length)
def bi (F:List Nat):Nat->List Nat
 |0=>[]
 |i+1=>if F.getD i lh=0 then bi F i else Ed F i (bi F i)
theorem oS (F:List Nat)(x:Nat)(o:List Nat):∀a,fV F x o a<=a
 |0=>VT _
 |a+1=>by
  rw[fV];split
  ·exact Nat.le_succ_of_le (oS F x o a)
  ·exact VT _
theorem iy (F:List Nat):∀i,(bi F i).length<=i
 |0=>VT _
 |i+1=>by
  have ih:=iy F i;have h:=oS F i (bi F i) (bi F i).length;rw[bi];split
  ·omega
  ·unfold Ed;rw[VI,Wj,VW,Wr];omega
theorem oT (F:List Nat):∀i,∀x∈bi F i,x<i
 |0,x,h=>by cases h
 |i+1,x,h=>by
  rw[bi]at h
  split at h
  ·exact ZK (oT F i x h)
  ·unfold Ed at h
   rcases List.mem_append.1 h with h|h
   ·exact ZK (oT F i x (WU h))
   ·rcases List.mem_cons.1 h with h|h
    ·rw[h];exact Nat.lt_succ_self _
    ·exact ZK (oT F i x (X5 h))
theorem oU (F:List Nat){i k:Nat}(h:k<(bi F i).length):(bi F i).getD k lh<i:=by
 rw[VH,VG h];exact oT F i _ (WE h)
theorem T7 {F o:List Nat}{x a n:Nat}(h:fV F x o a=n)(ha:0<a)(q:F.getD x lh<F.getD (o.getD (a-1) lh) lh):fV F x o (a-1)=n:=by
 obtain⟨b,rfl⟩:∃b,a=b+1:=⟨a-1,by omega⟩
 rw[fV,ZF (by rwa [Xf]at q)]at h;exact h
theorem T8 {F o:List Nat}{x a n:Nat}(h:fV F x o a=n)(ha:0<a)(q:¬F.getD x lh<F.getD (o.getD (a-1) lh) lh):a=n:=by
 obtain⟨b,rfl⟩:∃b,a=b+1:=⟨a-1,by omega⟩
 rw[fV,ZE (by rwa [Xf]at q)]at h;exact h
theorem T9 {F o:List Nat}{x a n:Nat}(h:fV F x o a=n)(ha:a=0):a=n:=by subst ha;exact h
theorem KT {F:List Nat}{i:Nat}(h:F.getD i lh=0):bi F (i+1)=bi F i:=by rw[bi,ZF h]
theorem KU {F:List Nat}{i:Nat}(h:¬F.getD i lh=0):bi F (i+1)=Ed F i (bi F i):=by rw[bi,ZE h]
theorem PA {o:List Nat}{A:Nat}:(bif true&&(A*1).beq (o.map nD).length then o.map nD else Ws (A*1) (Wx 0 (o.map nD)))=(o.take A).map nD:=by
 rw[V5,Xe,XZ]
 cases h:(true&&A.beq (o.map nD).length)with
 |false=>rfl
 |true=>
  have e:A=(o.map nD).length:=VQ (by simpa using h);rw[cond_true,Wm om]
theorem Ua {o:List Nat}{A n:Nat}(hn:n=o.length):(bif (0+A*1).beq 0&&((n-A)*1).beq (o.map nD).length then o.map nD else Ws ((n-A)*1) (Wx (0+A*1) (o.map nD)))=(o.drop A).map nD:=by
 rw[V5,V5,Wd,List.map_drop]
 cases h:(A.beq 0&&(n-A).beq (o.map nD).length)with
 |false=>rw[cond_false,Wm (by rw[Wr,VP];omega)]
 |true=>
  rw[VO]at h;have e:A=0:=VQ h.1;subst e;rw[cond_true,Xe]
theorem PB {F:List Nat}{i:Nat}(h:¬F.getD i lh=0):(bi F (i+1)).length=(bi F i).length+1:=by
 have h2:=oS F i (bi F i) (bi F i).length;rw[KU h];unfold Ed;rw[VI,Wj,VW,Wr];omega
theorem KV (F:List Nat)(m:Nat)(hm:m=F.length)(hm2:m<=320):S0 168 [.sl false m 1 (F.map nD)] [] (.ref 0 0 0 (bi F m).length 1) [⟨(bi F m).map nD, 3,true⟩]:=SpR Tryz.func168 rfl rfl rfl ⟨qY _ (λ _=>rfl) _,trivial⟩ rfl 1000 64 (λ R ok=>.s 3<|.nils 3 24 1 3<|Hn.inl T_ok ah false 54 0 (aq Tryz.prog 168 0) (λ(x:(i:Nat)×'(hi:i<=m)×'Unit)=>match x with|⟨i,hi,_⟩=>VZ [(0,V3 false m 1 (map nD F)),(3,(VJ 0 0 (0) ((bi F i).length) 1)),(4,nD i)] [⟨0,0,24,24,.b ⟨(bi F i).map nD,3,true⟩⟩] 8) (λ(x:(i:Nat)×'(hi:i<=m)×'Unit)=>match x with|⟨i,hi,_⟩=>m-i) [⟨Unit,.exit 0,λ x=>match x with|()=>VZ [(0,V3 false m 1 (map nD F)),(3,(VJ 0 0 (0) ((bi F m).length) 1))] [⟨0,0,24,24,.b ⟨(bi F m).map nD,3,true⟩⟩] 8⟩] 1000 64 (fun|⟨i,hi,_⟩,Q,ZB,ZD=>.B 5 ((i:Int)<m) (λ p0 Z9=>.K 3 (true&&decide ((i:Int)<m)&&true) wk<|.O 2 ((map nD F)[i*1]?) (nD (getD F (i*1) lh)) (am _ _ om)<|.B 2 ((↑(getD F (i*1) lh):Int)<=0) (λ p1 Z8=>.W 3 (i+1)<|.V 1 3 (VJ 0 0 0 (length (bi F i)) 1) (VJ 0 0 0 (length (bi F (i+1))) 1) (by(simp only[V5]at *;rw[KT om]))<|.val 4 (zI (i+1)) (zN (i+1)) (by(refine aG ?_;(omega)))<|.blk 0 0 (VF (map nD (bi F i)) 3 true) (VF (map nD (bi F (i+1))) 3 true) (by(simp only[V5]at *;rw[KT om]))<|Hn.next ZB ⟨(i+1),om,⟨⟩⟩ (by show m-(i+1)<m-i;clear ZB ZD;omega) [(0,0)] ro) (λ p1 Z8=>.s 3<|Hn.inl T_ok ah false 54 0 (aq Tryz.prog 168 1) (λ(x:(a:Nat)×'(ha:a<=(bi F i).length)×'(hR:fV F i (bi F i) a=fV F i (bi F i) (bi F i).length)×'Unit)=>match x with|⟨a,ha,hR,_⟩=>VZ [(0,V3 false m 1 (map nD F)),(3,VJ 0 0 0 (length (bi F i)) 1),(4,zN i),(5,nD a)] [⟨0,0,0,0,.b ⟨map nD (bi F i),3,true⟩⟩] 8) (λ(x:(a:Nat)×'(ha:a<=(bi F i).length)×'(hR:fV F i (bi F i) a=fV F i (bi F i) (bi F i).length)×'Unit)=>match x with|⟨a,ha,hR,_⟩=>a) [⟨Unit,.exit 2,λ x=>match x with|()=>VZ [(0,V3 false m 1 (map nD F)),(3,VJ 0 0 0 (length (bi F i)) 1),(4,zN i),(5,nD (fV F i (bi F i) (bi F i).length))] [⟨0,0,0,0,.b ⟨map nD (bi F i),3,true⟩⟩] 8⟩] 1000 64 (fun|⟨a,ha,hR,_⟩,Q,ZA,ZC=>.B 6 (0<(a:Int)) (λ p2 Z7=>.I 7 (a-1) (by(have h9:=iy F i;omega))<|.K 2 (decide (0<=(a:Int)-1)&&decide ((a:Int)-1<(↑(length (bi F i)):Int))) wk<|.O 3 ((map nD (bi F i))[0+zq ((a:Int)-1)*1]?) (nD (getD (bi F i) (0+zq ((a:Int)-1)*1) lh)) (am _ _ om)<|.K 2 (true&&decide ((↑(getD (bi F i) (0+zq ((a:Int)-1)*1) lh):Int)<(m:Int))&&true) (by((refine aC ?_ ?_)<;>(repeat' (first|(refine aC ?_ ?_)|(with_reducible rfl)|(refine decide_eq_true ?_)|(refine VL ?_)|(refine dA ?_)))<;>(have h7:(0+zq ((a:Int)-1)*1)=a-1:=om;have h8:=oU F (i:=i) (k:=a-1) om;rw[<-h7]at h8;omega)))<|.O 3 ((map nD F)[getD (bi F i) (0+zq ((a:Int)-1)*1) lh*1]?) (nD (getD F (getD (bi F i) (0+zq ((a:Int)-1)*1) lh) lh)) (@CT F ((bi F i).getD (0+zq ((a:Int)-1)*1) lh) (by(have h7:(0+zq ((a:Int)-1)*1)=a-1:=om;have h8:=oU F (i:=i) (k:=a-1) om;rw[<-h7]at h8;omega)))<|.K 6 (true&&decide ((i:Int)<m)&&true) wk<|.O 3 ((map nD F)[i*1]?) (nD (getD F (i*1) lh)) (am _ _ om)<|.B 4 ((↑(getD F (i*1) lh):Int)<(↑(getD F (getD (bi F i) (0+zq ((a:Int)-1)*1) lh) lh):Int)) (λ p3 Z6=>.I 3 (a-1) (by(have h9:=iy F i;omega))<|.V 1 5 (zI (a-1)) (zN (a-1)) wk<|Hn.next ZA ⟨(a-1),om,(by(simp only[V5,Wd]at *;(try rw[show zq ((a:Int)-1)=a-1 from om]at *);exact T7 hR om om)),⟨⟩⟩ (by show a-1<a;clear ZA ZC ZB ZD;omega) [(0,0)] ro) (λ p3 Z6=>.val 5 (zN a) (zN (fV F i (bi F i) (length (bi F i)))) (by(simp only[V5,Wd]at *;(try rw[show zq ((a:Int)-1)=a-1 from om]at *);rw[T8 hR om om]))<|Hn.last ZC 0 (():Unit) rfl [(0,0)] ro)) (λ p2 Z7=>.V 26 5 (zN a) (zN (fV F i (bi F i) (length (bi F i)))) (by(rw[T9 hR om]))<|Hn.last ZC 0 (():Unit) rfl [(0,0)] ro)) (fun|⟨a,ha,hR,_⟩=>by kernel_rfl) ⟨((bi F i).length),om,om,⟨⟩⟩ [(0,0)] ro (bM (fun|()=>.K 5 (aT none (some (↑(fV F i (bi F i) (length (bi F i))):Int)) none (length (bi F i))&&true) wk<|.K 1 (true&&(true&&VN (0+fV F i (bi F i) (length (bi F i))*1) (length (map nD (bi F i))))&&true&&true&&VN ((0+fV F i (bi F i) (length (bi F i)))*8) 140737488355328) wk<|.K 6 (true&&VK (fV F i (bi F i) (length (bi F i))*1) (length (bif true&&VK (fV F i (bi F i) (length (bi F i))*1) (length (map nD (bi F i)))then map nD (bi F i)else take (fV F i (bi F i) (length (bi F i))*1) (drop 0 (map nD (bi F i)))))&&true&&true&&true&&true&&VN ((fV F i (bi F i) (length (bi F i))+1)*8) 140737488355328) Pz<|.K 5 (aT (some (↑(fV F i (bi F i) (length (bi F i))):Int)) none none (length (bi F i))&&true) wk<|.K 1 (true&&VK ((fV F i (bi F i) (length (bi F i))+1)*1) (length ((bif true&&VK (fV F i (bi F i) (length (bi F i))*1) (length (map nD (bi F i)))then map nD (bi F i)else take (fV F i (bi F i) (length (bi F i))*1) (drop 0 (map nD (bi F i))))++[zN i]))&&true&&(true&&VN (0+fV F i (bi F i) (length (bi F i))*1+(length (bi F i)-fV F i (bi F i) (length (bi F i)))*1) (length (map nD (bi F i))))&&true&&true&&VN ((fV F i (bi F i) (length (bi F i))+1+(length (bi F i)-fV F i (bi F i) (length (bi F i))))*8) 140737488355328) Pz<|.W 4 (i+1)<|.V 1 3 (VJ 136 136 0 (fV F i (bi F i) (length (bi F i))+1+(length (bi F i)-fV F i (bi F i) (length (bi F i)))) 1) (VJ 136 136 0 (length (bi F (i+1))) 1) (by(have p9:=oS F i (bi F i) (bi F i).length;have p8:=iy F i;simp only[V5]at *;exact congrArg (λ z=>VJ _ _ 0 z 1) (by rw[PB om];omega)))<|.val 4 (zI (i+1)) (zN (i+1)) (by(refine aG ?_;(omega)))<|.blk 136 136 (VF ((bif true&&VK (fV F i (bi F i) (length (bi F i))*1) (length (map nD (bi F i)))then map nD (bi F i)else take (fV F i (bi F i) (length (bi F i))*1) (drop 0 (map nD (bi F i))))++[zN i]++bif VK (0+fV F i (bi F i) (length (bi F i))*1) 0&&VK ((length (bi F i)-fV F i (bi F i) (length (bi F i)))*1) (length (map nD (bi F i)))then map nD (bi F i)else take ((length (bi F i)-fV F i (bi F i) (length (bi F i)))*1) (drop (0+fV F i (bi F i) (length (bi F i))*1) (map nD (bi F i)))) 3 true) (VF (map nD (bi F (i+1))) 3 true) (by(refine aw ?_;simp only[V5]at Z8;rw[PA,Ua rfl,KU om];unfold Ed;rw[Wz,W6,Wc];rfl))<|Hn.next ZB ⟨(i+1),om,⟨⟩⟩ (by show m-(i+1)<m-i;clear ZB ZD;omega) [(136,136)] ro)))) (λ p0 Z9=>.val 3 (VJ 0 0 0 (length (bi F i)) 1) (VJ 0 0 0 (length (bi F m)) 1) (by(rw[show i=m from by omega]))<|.blk 0 0 (VF (map nD (bi F i)) 3 true) (VF (map nD (bi F m)) 3 true) (by(rw[show i=m from by omega]))<|Hn.last ZD 0 (():Unit) rfl [(0,0)] ro)) (fun|⟨i,hi,_⟩=>by kernel_rfl) ⟨(0),om,⟨⟩⟩ [(24,24)] ro (bM (fun|()=>.Y 2 [0] [0] (VJ 0 0 0 (length (bi F m)) 1) [VF (map nD (bi F m)) 3 true] ok))) kr
theorem CU (F:List Nat)(m:Nat)(hm:m=F.length)(hm2:m<=320)(I:List Nat)(n:Nat)(hn:n=I.length)(hn2:n<=320)(hI:∀k,k<n->I.getD k lh<F.length):S1 186 [.sl false m 1 (F.map nD),.sl false n 1 (I.map nD)] [] (.sl false n 2 ((dS F I n).flatMap ct)) []:=
 SpecH.frz (KR F m hm hm2 I n hn hn2 hI) (by rw[lW,eX]) (by decide) (bW (λ _=>rfl) _)
theorem CV (X:List Pa)(m:Nat)(hm:m=X.length)(hm2:m<=100000)(n:Nat)(hn2:n<=320)(hl:∀i,i<m->(bY X i).2.length=n)(hw:∀i,(bY X i).1<=1000000000000000000)(hc:∀i k,(bY X i).2.getD k lh<=1000000000000000000):S1 188 [.sl false m 2 (X.flatMap ct)] [] (.sl false (m/2) 2 ((fx X (m/2)).flatMap ct)) []:=
 SpecH.frz (KS X m hm hm2 n hn2 hl hw hc) (by rw[lW,eh]) (by decide) (bW (λ _=>rfl) _)
theorem z0 (A:List Pa)(a:Nat)(ha:a=A.length)(ha2:a<=100000)(B:List Pa)(b:Nat)(hb:b=B.length)(hb2:b<=100000)(T:List Pa)(hT:px A B (a+b) 0 0=T):S1 187 [.sl false a 2 (A.flatMap ct),.sl false b 2 (B.flatMap ct)] [] (.sl false (a+b) 2 (T.flatMap ct)) []:=
 SpecH.frz (F4 A a ha ha2 B b hb hb2 T hT) (by rw[lW,<-hT,kW]) (by decide) (bW (λ _=>rfl) _)
theorem wl {Q:Pa->Prop}{A B:List Pa}(hA:∀i,i<A.length->Q (bY A i))(hB:∀k,k<B.length->Q (bY B k)):∀f i k,f+i+k=A.length+B.length->i<=A.length->k<=B.length->∀x∈px A B f i k,Q x
 |0,_,_,_,_,_,x,h=>by cases h
 |f+1,i,k,hf,hi,hk,x,h=>by
  rw[px]at h
  by_cases q:Ec A B i k
  ·rw[ZF q]at h
   have hi2:i<A.length:=q.elim (λ e=>by omega) λ e=>e.1
   rcases List.mem_cons.1 h with e|h
   ·rw[e];exact hA i hi2
   ·exact wl hA hB f (i+1) k om om hk x h
  ·rw[ZE q]at h
   have hk2:k<B.length:=by
    rcases Wl k B.length with e|e
    ·exact e
    ·exact absurd (.inl om) q
   rcases List.mem_cons.1 h with e|h
   ·rw[e];exact hB k hk2
   ·exact wl hA hB f i (k+1) om hi om x h
def ej (A:List Pa):Nat->List Pa
 |0=>A
 |k+1=>px A (fx (ej A k) ((ej A k).length/2)) (A.length+(ej A k).length/2) 0 0
theorem r8 (A:List Pa):∀k,(ej A k).length<=2*A.length
 |0=>by rw[ej];omega
 |k+1=>by
  have ih:=r8 A k;rw[ej,kW];omega
def Ee (n w c:Nat)(p:Pa):Prop:=p.2.length=n∧p.1<=w∧∀k,p.2.getD k lh<=c
theorem Ee.mono {n w c w' c':Nat}{p:Pa}(h:Ee n w c p)(hw:w<=w')(hc:c<=c'):Ee n w' c' p:=⟨h.1,VR h.2.1 hw,λ k=>VR (h.2.2 k) hc⟩
theorem F5 (a b:List Nat)(k:Nat):(eY a b).getD k lh<=a.getD k lh+b.getD k lh:=by
 unfold eY;rw[VH,Y8,VH,VH]
 cases a[k]? <;>cases b[k]? <;>simp <;>exact Wy _
theorem yx {X:List Pa}:∀{j:Nat} {x:Pa},x∈fx X j->∃i,i<j∧x=((bY X (2*i)).1+(bY X (2*i+1)).1,eY (bY X (2*i)).2 (bY X (2*i+1)).2)
 |0,x,h=>by cases h
 |j+1,x,h=>by
  rcases List.mem_append.1 h with h|h
  ·obtain⟨i,hi,e⟩:=yx h
   exact⟨i,by omega,e⟩
  ·exact⟨j,by omega,List.mem_singleton.1 h⟩
theorem gb {X:List Pa}{i:Nat}(h:i<X.length):bY X i∈X:=by
 unfold bY;rw[VH,VG h];exact WE h
theorem Iz {A:List Pa}{n w:Nat}(hA:∀x∈A,Ee n w 1 x):∀k,∀x∈ej A k,Ee n (2^k*w) (2^k) x
 |0,x,h=>(hA x h).mono om (by decide)
 |k+1,x,h=>by
  have ih:=Iz hA k;have e:2^(k+1)=2^k+2^k:=by rw[Nat.pow_succ];omega
  have e2:2^(k+1)*w=2^k*w+2^k*w:=by rw[e,WV]
  have p1:1<=2^k:=Nat.one_le_two_pow;have p2:w<=2^k*w:=Nat.le_mul_of_pos_left _ p1;rw[ej]at h;refine wl (Q:=Ee n (2^(k+1)*w) (2^(k+1))) (λ i hi=>(hA _ (gb hi)).mono om om) (λ i hi=>?_) _ 0 0 (by rw[eh];omega) (Wy _) (Wy _) x h;obtain⟨j,hj,q⟩:=yx (gb hi);have b1:=ih _ (gb (X:=ej A k) (i:=2*j) om);have b2:=ih _ (gb (X:=ej A k) (i:=2*j+1) om);rw[q];refine⟨fy b1.1 b2.1,?_,λ t=>VR (F5 _ _ t) ?_⟩
  ·have:=b1.2.1;have:=b2.2.1
   show _+_<=_;omega
  ·have:=b1.2.2 t;have:=b2.2.2 t
   omega
theorem PC {p:Prop}(h:p:=by(refine decide_eq_true ?_;have h9:=hI k om;(try simp only[V5]);(try rw[iz,iA,Wk]);omega)):p:=h
def lX (I of:List Nat)(o:Z4):Nat->Z4
 |0=>o
 |k+1=>(lX I of o k).set (I.getD k lh) (WI (((lX I of o k).getD (I.getD k lh) lh).toNat+of.getD k lh))
theorem iz (I of:List Nat)(o:Z4):∀k,(lX I of o k).length=o.length
 |0=>rfl
 |k+1=>by rw[lX,Xz,iz I of o k]
def jb (X:List Pa)(I:List Nat)(n:Nat)(o:Z4):Nat->Z4
 |0=>o
 |i+1=>lX I (bY X i).2 (jb X I n o i) n
theorem iA (X:List Pa)(I:List Nat)(n:Nat)(o:Z4):∀i,(jb X I n o i).length=o.length
 |0=>rfl
 |i+1=>by rw[jb,iz,iA X I n o i]
theorem Ub {L:Z4}{k:Nat}(h:k<L.length):(L.map dB)[0+k*1]? =some (dB (L.getD k lh)):=by
 rw[Wd,V5,V6,VH,VG h];rfl
theorem PD {o:Z4}{j v:Nat}(hj:j<o.length):ag (o.map dB) j [D.v (.int .u8 (((((o.getD j lh).toNat:Nat):Int)+((v:Nat):Int)%256)%256))]=(o.set j (WI ((o.getD j lh).toNat+v))).map dB:=by
 have e:((((o.getD j lh).toNat:Nat):Int)+((v:Nat):Int)%256)%256=((((o.getD j lh).toNat+v)%256:Nat):Int):=by omega
 rw[e,jK (Nat.mod_lt _ (by decide)) hj]
 congr 2;apply UInt8.toNat_inj.1;simp
theorem IA {k:Nat}(hk:k<=15):2^k<=32768:=WF (n:=2) (by decide) hk
theorem r9 {X:List Pa}{i:Nat}(h:¬i<X.length):bY X i=(0,[]):=by
 unfold bY;rw[VH,Wh om];rfl
theorem IB {X:List Pa}{n k:Nat}(hk:k<=15)(hB:∀x∈X,Ee n (2^k*1073741824) (2^k) x):(∀i,i<X.length->(bY X i).2.length=n)∧(∀i,(bY X i).1<=1000000000000000000)∧∀i t,(bY X i).2.getD t lh<=1000000000000000000:=by
 have hp:=IA hk;refine⟨λ i hi=>(hB _ (gb hi)).1,λ i=>?_,λ i t=>?_⟩
 ·by_cases h:i<X.length
  ·have:=(hB _ (gb h)).2.1;omega
  ·rw[r9 h];exact Wy _
 ·by_cases h:i<X.length
  ·have:=(hB _ (gb h)).2.2 t;omega
  ·rw[r9 h];exact Wy _
theorem CW (F:List Nat)(m:Nat)(hm:m=F.length)(hm2:m<=320)(I:List Nat)(n:Nat)(hn:n=I.length)(hn2:n<=320)(hI:∀k,k<n->I.getD k lh<F.length)(A:List Pa)(hA:dS F I n=A):S1 186 [.sl false m 1 (F.map nD),.sl false n 1 (I.map nD)] [] (.sl false n 2 (A.flatMap ct)) []:=by
 have:=CU F m hm hm2 I n hn hn2 hI;rwa [hA]at this
theorem CX (A:List Pa)(n:Nat)(hAl:A.length=n)(hn2:n<=320)(hB:∀k,∀x∈ej A k,Ee n (2^k*1073741824) (2^k) x)(k:Nat)(hk:1<=k∧k<=15):S1 188 [.sl false (ej A (k-1)).length 2 ((ej A (k-1)).flatMap ct)] [] (.sl false ((ej A (k-1)).length/2) 2 ((fx (ej A (k-1)) ((ej A (k-1)).length/2)).flatMap ct)) []:=by
 obtain⟨h1,h2,h3⟩:=IB (k:=k-1) om (hB (k-1));have:=r8 A (k-1);exact CV _ _ rfl om n hn2 h1 h2 h3
theorem Aa (A:List Pa)(n:Nat)(hAl:A.length=n)(hn2:n<=320)(k:Nat):S1 187 [.sl false n 2 (A.flatMap ct),.sl false ((ej A (k-1)).length/2) 2 ((fx (ej A (k-1)) ((ej A (k-1)).length/2)).flatMap ct)] [] (.sl false (ej A (k-1+1)).length 2 ((ej A (k-1+1)).flatMap ct)) []:=by
 have h:=r8 A (k-1);have:=z0 A n hAl.symm om (fx (ej A (k-1)) ((ej A (k-1)).length/2)) ((ej A (k-1)).length/2) (eh _ _).symm om (ej A (k-1+1)) (by rw[ej,hAl])
 rwa [show n+(ej A (k-1)).length/2=(ej A (k-1+1)).length from by rw[ej,kW,hAl]]at this
theorem KX (F:List Nat)(m:Nat)(hm:m=F.length)(hm2:m<=320)(hF:∀t,F.getD t lh<=1073741824)(I:List Nat)(n:Nat)(hn:n=I.length)(hn2:2<=n∧n<=320)(hI:∀k,k<n->I.getD k lh<F.length)(q:Nat)(hq:1<=q∧q<=15)(A:List Pa)(hA:dS F I n=A)(hAl:A.length=n)(hB:∀k,∀x∈ej A k,Ee n (2^k*1073741824) (2^k) x)(X:List Pa)(hX:ej A (q-1)=X)(hXl:2*n-2<=X.length)(hXn:∀i,i<X.length->(bY X i).2.length=n)(hXc:∀i t,(bY X i).2.getD t lh<=1000000000):S0 169 [.sl false m 1 (F.map nD),.sl false n 1 (I.map nD),nD q] [] (.ref 0 0 0 m 1) [⟨(jb X I n (V1 m 0) (2*n-2)).map dB, 5,true⟩]:=SpR Tryz.func169 rfl rfl rfl ⟨aI _,trivial⟩ rfl 1000 64 (λ R ok=>.C 4 186 true [] (.fn Sw (@CW (F) (m) om om (I) (n) om om om (A) aO))<|.V 4 8 (V3 false n 2 (flatMap ct A)) (V3 false (length (ej A 0)) 2 (flatMap ct (ej A 0))) (by(rw[ej,hAl]))<|Hn.inl T_ok ah false 67 0 (aq Tryz.prog 169 0) (λ(x:(k:Nat)×'(hk:1<=k∧k<=q)×'Unit)=>match x with|⟨k,hk,_⟩=>VZ [(0,V3 false m 1 (map nD F)),(1,V3 false n 1 (map nD I)),(2,zN q),(7,V3 false n 2 (flatMap ct A)),(8,.sl false (ej A (k-1)).length 2 ((ej A (k-1)).flatMap ct)),(9,nD k)] [] 0) (λ(x:(k:Nat)×'(hk:1<=k∧k<=q)×'Unit)=>match x with|⟨k,hk,_⟩=>q-k) [⟨Unit,.exit 0,λ x=>match x with|()=>VZ [(0,V3 false m 1 (map nD F)),(1,V3 false n 1 (map nD I)),(2,zN q),(7,V3 false n 2 (flatMap ct A)),(8,.sl false X.length 2 (X.flatMap ct))] [] 0⟩] 1000 64 (fun|⟨k,hk,_⟩,Q,ZB,ZD=>.B 4 ((k:Int)<q) (λ p0 Z9=>.C 3 188 true [] (.fn Sz (@CX (A) (n) aO om om (k) om))<|.C 1 187 true [] (.fn Sx (@Aa (A) (n) om om (k)))<|.W 4 (k+1)<|.V 1 8 (V3 false (length (ej A (k-1+1))) 2 (flatMap ct (ej A (k-1+1)))) (V3 false (length (ej A (k+1-1))) 2 (flatMap ct (ej A (k+1-1)))) (by clear ZB ZD;(simp_all;done))<|.val 9 (zI (k+1)) (zN (k+1)) (by(refine aG ?_;(omega)))<|Hn.next ZB ⟨(k+1),om,⟨⟩⟩ (by show q-(k+1)<q-k;clear ZB ZD;omega) [] ro) (λ p0 Z9=>.val 8 (V3 false (length (ej A (k-1))) 2 (flatMap ct (ej A (k-1)))) (V3 false (length X) 2 (flatMap ct X)) (by(have e:k=q:=om;rw[e,hX]))<|Hn.last ZD 0 (():Unit) rfl [] ro)) (fun|⟨k,hk,_⟩=>by kernel_rfl) ⟨(1),om,⟨⟩⟩ [] ro (bM (fun|()=>.K 3 (true&&decide ((m:Int)<=m)&&true&&true&&true&&true&&decide ((↑(TI.bytes zB):Int)*(m:Int)<=140737488355328)) (by(have h9:((zB.bytes:Nat):Int)=1:=rfl;rw[h9];simp;omega))<|.M 2 16 16 (VF (bZ [bI 0] (m*1)) 5 true) (VF (map dB (jb X I n (replicate m 0) 0)) 5 true) (by(rw[mp];rfl))<|Hn.inl T_ok ah false 67 0 (aq Tryz.prog 169 1) (λ(x:(i:Nat)×'(hi:i<=2*n-2)×'Unit)=>match x with|⟨i,hi,_⟩=>VZ [(1,V3 false n 1 (map nD I)),(8,V3 false (length X) 2 (flatMap ct X)),(10,VJ 0 0 0 m 1),(11,nD i)] [⟨0,0,16,16,.b ⟨(jb X I n (replicate m 0) i).map dB,5,true⟩⟩] 8) (λ(x:(i:Nat)×'(hi:i<=2*n-2)×'Unit)=>match x with|⟨i,hi,_⟩=>2*n-i) [⟨Unit,.exit 2,λ x=>match x with|()=>VZ [(1,V3 false n 1 (map nD I)),(8,V3 false (length X) 2 (flatMap ct X)),(10,VJ 0 0 0 m 1)] [⟨0,0,16,16,.b ⟨(jb X I n (replicate m 0) (2*n-2)).map dB,5,true⟩⟩] 8⟩] 1000 64 (fun|⟨i,hi,_⟩,Q,ZB,ZD=>.W 5 (2*(n:Int))<|.W 2 (2*(n:Int)-2)<|.B 2 ((i:Int)<2*n-2) (λ p1 Z8=>.M 1 0 0 (VF (map dB (jb X I n (replicate m 0) i)) 5 true) (VF (map dB (lX I (VM (bY X i)) (jb X I n (replicate m 0) i) 0)) 5 true) (by exact rfl)<|Hn.inl T_ok ah false 67 0 (aq Tryz.prog 169 2) (λ(x:(k:Nat)×'(hk:k<=n)×'Unit)=>match x with|⟨k,hk,_⟩=>VZ [(1,V3 false n 1 (map nD I)),(8,V3 false (length X) 2 (flatMap ct X)),(10,VJ 0 0 0 m 1),(11,zN i),(12,nD k)] [⟨0,0,0,0,.b ⟨(lX I (bY X i).2 (jb X I n (replicate m 0) i) k).map dB,5,true⟩⟩] 8) (λ(x:(k:Nat)×'(hk:k<=n)×'Unit)=>match x with|⟨k,hk,_⟩=>n-k) [⟨Unit,.exit 4,λ x=>match x with|()=>VZ [(1,V3 false n 1 (map nD I)),(8,V3 false (length X) 2 (flatMap ct X)),(10,VJ 0 0 0 m 1),(11,zN i)] [⟨0,0,0,0,.b ⟨(jb X I n (replicate m 0) (i+1)).map dB,5,true⟩⟩] 8⟩] 1000 64 (fun|⟨k,hk,_⟩,Q,ZA,ZC=>.B 5 ((k:Int)<n) (λ p2 Z7=>.K 5 (true&&decide ((k:Int)<n)&&true) JO<|.O 2 ((map nD I)[k*1]?) (nD (getD I (k*1) lh)) (am _ _ om)<|.K 4 (true&&decide ((k:Int)<n)&&true) JO<|.O 2 ((map nD I)[k*1]?) (nD (getD I (k*1) lh)) (am _ _ om)<|.K 1 (true&&decide ((↑(getD I (k*1) lh):Int)<(m:Int))) PC<|.O 2 ((map dB (lX I (VM (bY X i)) (jb X I n (replicate m 0) i) k))[0+getD I (k*1) lh*1]?) (dB (getD (lX I (VM (bY X i)) (jb X I n (replicate m 0) i) k) (getD I (k*1) lh) lh)) (@Ub (lX I (bY X i).2 (jb X I n (replicate m 0) i) k) (I.getD (k*1) lh) (by(have h9:=hI k om;(try simp only[V5]);(try rw[iz,iA,Wk]);omega)))<|.K 3 (true&&decide ((i:Int)<(↑(length X):Int))&&true) JO<|.O 5 ((flatMap ct X)[i*2+1]?) (V3 false (length (VM (getD X i lh))) 1 (map nD (VM (getD X i lh)))) (cX (k:=2) (i:=i) (j:=1) (λ _=>rfl) om om rfl)<|.K 2 (true&&decide ((k:Int)<(↑(length (VM (getD X i lh))):Int))&&true) (by((refine aC ?_ ?_)<;>(repeat' (first|(refine aC ?_ ?_)|(with_reducible rfl)|(refine decide_eq_true ?_)|(refine VL ?_)|(refine dA ?_)))<;>(have h9:(X.getD i lh).2.length=n:=hXn i om;omega)))<|.O 2 ((map nD (VM (getD X i lh)))[k*1]?) (nD (getD (VM (getD X i lh)) k lh)) (@CT (X.getD i lh).2 k (by(have h9:(X.getD i lh).2.length=n:=hXn i om;omega)))<|.O 1 (ay .u8 (↑(getD (VM (getD X i lh)) k lh):Int)) (bI ((↑(getD (VM (getD X i lh)) k lh):Int)%256)) (aE _ _)<|.O 2 (ay .u8 ((↑(VE (getD (lX I (VM (bY X i)) (jb X I n (replicate m 0) i) k) (getD I (k*1) lh) lh)):Int)+(↑(getD (VM (getD X i lh)) k lh):Int)%256)) (bI (((↑(VE (getD (lX I (VM (bY X i)) (jb X I n (replicate m 0) i) k) (getD I (k*1) lh) lh)):Int)+(↑(getD (VM (getD X i lh)) k lh):Int)%256)%256)) (aE _ _)<|.K 1 (true&&decide ((↑(getD I (k*1) lh):Int)<(m:Int))) PC<|.K 1 (true&&VN (0+getD I (k*1) lh*1+1) (length (map dB (lX I (VM (bY X i)) (jb X I n (replicate m 0) i) k)))) (by(have h9:=hI k om;refine aC rfl (VL ?_);rw[VP,iz,iA,Wk];simp only[V5];omega))<|.lst (ag (map dB (lX I (VM (bY X i)) (jb X I n (replicate m 0) i) k)) (0+getD I (k*1) lh*1) [bI (((↑(VE (getD (lX I (VM (bY X i)) (jb X I n (replicate m 0) i) k) (getD I (k*1) lh) lh)):Int)+(↑(getD (VM (getD X i lh)) k lh):Int)%256)%256)]) (ag (map dB (lX I (VM (bY X i)) (jb X I n (replicate m 0) i) k)) (getD I k lh) [bI (((↑(VE (getD (lX I (VM (bY X i)) (jb X I n (replicate m 0) i) k) (getD I k lh) lh)):Int)+(↑(getD (VM (getD X i lh)) k lh):Int)%256)%256)]) (by(simp;done))<|.W 3 (k+1)<|.V 1 12 (zI (k+1)) (zN (k+1)) (by(refine aG ?_;(omega)))<|.blk 0 0 (VF (ag (map dB (lX I (VM (bY X i)) (jb X I n (replicate m 0) i) k)) (getD I k lh) [bI (((↑(VE (getD (lX I (VM (bY X i)) (jb X I n (replicate m 0) i) k) (getD I k lh) lh)):Int)+(↑(getD (VM (getD X i lh)) k lh):Int)%256)%256)]) 5 true) (VF (map dB (lX I (VM (bY X i)) (jb X I n (replicate m 0) i) (k+1))) 5 true) (by(have h9:=hI k om;exact aw (PD (v:=(X.getD i lh).2.getD k lh) (by rw[iz,iA,Wk];omega))))<|Hn.next ZA ⟨(k+1),om,⟨⟩⟩ (by show n-(k+1)<n-k;clear ZA ZC ZB ZD;omega) [(0,0)] ro) (λ p2 Z7=>.blk 0 0 (VF (map dB (lX I (VM (bY X i)) (jb X I n (replicate m 0) i) k)) 5 true) (VF (map dB (jb X I n (replicate m 0) (i+1))) 5 true) (by(rw[show k=n from by omega];rfl))<|Hn.last ZC 0 (():Unit) rfl [(0,0)] ro)) (fun|⟨k,hk,_⟩=>by kernel_rfl) ⟨(0),om,⟨⟩⟩ [(0,0)] ro (bM (fun|()=>.W 3 (i+1)<|.V 1 11 (zI (i+1)) (zN (i+1)) (by(refine aG ?_;(omega)))<|Hn.next ZB ⟨(i+1),om,⟨⟩⟩ (by show 2*n-(i+1)<2*n-i;clear ZB ZD;omega) [(0,0)] ro))) (λ p1 Z8=>.blk 0 0 (VF (map dB (jb X I n (replicate m 0) i)) 5 true) (VF (map dB (jb X I n (replicate m 0) (2*n-2))) 5 true) (by(rw[show i=2*n-2 from by omega]))<|Hn.last ZD 0 (():Unit) rfl [(0,0)] ro)) (fun|⟨i,hi,_⟩=>by kernel_rfl) ⟨(0),om,⟨⟩⟩ [(16,16)] ro (bM (fun|()=>.Y 2 [0] [0] (VJ 0 0 0 m 1) [VF (map dB (jb X I n (replicate m 0) (2*n-2))) 5 true] ok))))) kr
def gN (X:List Nat)(i:Nat):Nat:=X.getD i lh
theorem CY (X:List Nat)(i v t:Nat):gN (X.set i v) t=if i=t∧i<X.length then v else gN X t:=by
 unfold gN;rw[VH,VH,W7]
 by_cases h:i=t
 ·subst h
  by_cases q:i<X.length
  ·simp[q]
  ·simp[q]
 ·simp[h]
theorem yy {X:List Nat}{i j:Nat}(hi:i<X.length)(hj:j<X.length)(t:Nat):gN (swp X i j) t=if t=j then gN X i else if t=i then gN X j else gN X t:=by
 rw[oq,CY,CY,Xz];show(if _ then gN X i else if _ then gN X j else _)=_
 repeat' split
 all_goals (first|rfl|(exfalso;omega))
theorem mr {X:List Nat}{a b:Nat}:∀k,a+k<=b->b+k<=X.length->∀t,gN (eW X a b k) t=if a<=t∧t<a+k then gN X (b+(t-a))else if b<=t∧t<b+k then gN X (a+(t-b))else gN X t
 |0,_,_,t=>by
  rw[BC];repeat' split
  all_goals (first|rfl|(exfalso;omega))
 |k+1,h1,h2,t=>by
  have ih:=mr (X:=X) (a:=a) (b:=b) k om om;rw[<-BD,yy (by rw[co];omega) (by rw[co];omega),ih,ih,ih]
  repeat' split
  all_goals (first|rfl|(congr 1;omega)|(exfalso;omega))
theorem wm {m:Nat}:∀(f i j:Nat) (X:List Nat),1<=i->1<=j->i<=m->m+j<=X.length->i+j<=f->∀t,gN (gu m f i j X) t=if m-i<=t∧t<m-i+j then gN X (t+i)else if m-i+j<=t∧t<m+j then gN X (t-j)else gN X t
 |0,i,j,X,h1,h2,_,_,h5,_=>by omega
 |f+1,i,j,X,h1,h2,h3,h4,h5,t=>by
  rcases XO i j with h|h|h
  ·rw[HO h,wm f i (j-i) _ h1 om h3 (by rw[co];omega) om,mr i om om,mr i om om,mr i om om]
   repeat' split
   all_goals (first|rfl|(congr 1;omega)|(exfalso;omega))
  ·rw[HM h,mr i om om]
   repeat' split
   all_goals (first|rfl|(congr 1;omega)|(exfalso;omega))
  ·rw[HN h,wm f (i-j) j _ om h2 om (by rw[co];omega) om,mr j om om,mr j om om,mr j om om]
   repeat' split
   all_goals (first|rfl|(congr 1;omega)|(exfalso;omega))
theorem KY {X:List Nat}{a m b:Nat}(h1:a<m)(h2:m<b)(h3:b<=X.length)(t:Nat):gN (vY X a m b) t=if a<=t∧t<a+(b-m)then gN X (t+(m-a))else if a+(b-m)<=t∧t<b then gN X (t-(b-m))else gN X t:=by
 rw[na,wm _ _ _ _ om om om om om]
 repeat' split
 all_goals (first|rfl|(congr 1;omega)|(exfalso;omega))
theorem IC {X:List Nat}{a:Nat}:∀k,a+k<X.length->∀t,gN (iH X a k) t=if a<=t∧t<a+k then gN X (t+1)else if t=a+k then gN X a else gN X t
 |0,_,t=>by
  rw[BH,ZE om];split
  ·next h=>rw[h];rfl
  ·rfl
 |k+1,h,t=>by
  have ih:=IC (X:=X) (a:=a) k om;rw[<-BJ,yy (by rw[eQ];omega) (by rw[eQ];omega),ih,ih,ih]
  repeat' split
  all_goals (first|rfl|(congr 1;omega)|(exfalso;omega))
theorem ID {X:List Nat}{m:Nat}(hm:m<X.length):∀k,k<=m->∀t,gN (iI X m k) t=if t=m-k then gN X m else if m-k<t∧t<=m then gN X (t-1)else gN X t
 |0,_,t=>by
  rw[BI];split
  ·next h=>rw[h];rfl
  ·rw[ZE om]
 |k+1,h,t=>by
  have ih:=ID (X:=X) (m:=m) hm k om;rw[<-BK,yy (by rw[eS];omega) (by rw[eS];omega),ih,ih,ih]
  repeat' split
  all_goals (first|rfl|(congr 1;omega)|(exfalso;omega))
def Lt (W:List Nat)(x y:Nat):Prop:=gN W x<gN W y∨(gN W x=gN W y∧x<y)
structure Mv (X Y:List Nat)(a b:Nat):Prop where
 l:Y.length=X.length
 o:∀i,i<a∨b<=i->gN Y i=gN X i
 m:∀i,a<=i->i<b->∃j,a<=j∧j<b∧gN Y i=gN X j
theorem Mv.refl (X:List Nat)(a b:Nat):Mv X X a b:=⟨rfl,λ _ _=>rfl,λ i h1 h2=>⟨i,h1,h2,rfl⟩⟩
theorem Mv.trans {X Y Z:List Nat}{a b:Nat}(h:Mv X Y a b)(k:Mv Y Z a b):Mv X Z a b:=⟨k.l.trans h.l,λ i hi=>(k.o i hi).trans (h.o i hi),λ i h1 h2=>by
 obtain⟨j,p1,p2,p3⟩:=k.m i h1 h2;obtain⟨j',q1,q2,q3⟩:=h.m j p1 p2;exact⟨j',q1,q2,p3.trans q3⟩⟩
theorem Mv.wide {X Y:List Nat}{a b a' b':Nat}(h:Mv X Y a b)(ha:a'<=a)(hb:b<=b'):Mv X Y a' b':=⟨h.l,λ i hi=>h.o i om,λ i h1 h2=>by
 by_cases q:a<=i∧i<b
 ·obtain⟨j,p1,p2,p3⟩:=h.m i q.1 q.2
  exact⟨j,by omega,by omega,p3⟩
 ·exact⟨i,h1,h2,h.o i om⟩⟩
def j8 (W X:List Nat)(a b:Nat):Prop:=∀i j,a<=i->i<j->j<b->Lt W (gN X i) (gN X j)
def PE (X:List Nat)(a m b:Nat):Prop:=∀i j,a<=i->i<m->m<=j->j<b->gN X i<gN X j
theorem j8.le {W X:List Nat}{a b i j:Nat}(h:j8 W X a b)(h1:a<=i)(h2:i<=j)(h3:j<b):gN W (gN X i)<=gN W (gN X j):=by
 rcases Wl i j with q|q
 ·rcases h i j h1 q h3 with r|r
  ·exact Nat.le_of_lt r
  ·exact Nat.le_of_eq r.1
 ·rw[show i=j from by omega];exact VT _
theorem j8.join {W X:List Nat}{a m b:Nat}(h1:j8 W X a m)(h2:j8 W X m b)(h3:∀i j,a<=i->i<m->m<=j->j<b->Lt W (gN X i) (gN X j)):j8 W X a b:=λ i j hi hij hj=>by
 rcases Wl j m with q|q
 ·exact h1 i j hi hij q
 ·rcases Wl i m with r|r
  ·exact h3 i j hi r q hj
  ·exact h2 i j r hij hj
theorem j8.keep {W X Y:List Nat}{a b c d:Nat}(h:j8 W X a b)(k:Mv X Y c d)(hd:b<=c∨d<=a):j8 W Y a b:=λ i j hi hij hj=>by
 rw[k.o i om,k.o j om];exact h i j hi hij hj
theorem CZ {p:Nat->Bool}:∀(f i j T:Nat),gT p f i j=T->i<=j->j-i<=f->i<=T∧T<=j∧(T=i∨(i<T∧p (T-1)=true))∧(T=j∨(T<j∧p T=false))
 |0,i,j,T,h,h1,h2=>by
  have e:i=T:=h;subst e;exact⟨VT _,h1,.inl rfl,.inl om⟩
 |f+1,i,j,T,h,h1,h2=>by
  rw[gT]at h
  split at h
  ·next q=>
   split at h
   ·next r=>
    obtain⟨g1,g2,g3,g4⟩:=CZ f _ _ _ h om om;refine⟨by omega,g2,.inr ?_,g4⟩;rcases g3 with g3|g3
    ·rw[g3];exact⟨by omega,by rw[Xf];exact r⟩
    ·exact⟨by omega,g3.2⟩
   ·next r=>
    obtain⟨g1,g2,g3,g4⟩:=CZ f _ _ _ h om om;refine⟨by omega,by omega,g3,.inr ?_⟩;rcases g4 with g4|g4
    ·rw[g4];exact⟨by omega,by simpa using r⟩
    ·exact⟨by omega,g4.2⟩
  ·subst h;exact⟨VT _,h1,.inl rfl,.inl om⟩
theorem wn (W X:List Nat)(u v:Nat):Mh W X u v<0↔gN W (gN X u)<gN W (gN X v):=vX _ _
theorem PF (W X:List Nat)(a h:Nat):(qA W X a h=true↔gN W (gN X h)<gN W (gN X a)):=by
 unfold qA;rw[decide_eq_true_iff];exact wn _ _ _ _
theorem PG (W X:List Nat)(m h:Nat):(qB W X m h=true↔gN W (gN X h)<=gN W (gN X m)):=by
 unfold qB;rw[Xs,decide_eq_false_iff_not,wn];omega
theorem PH (W X:List Nat)(q c:Nat):(qC W X q c=true↔gN W (gN X c)<=gN W (gN X (q-c))):=by
 unfold qC;rw[Xs,decide_eq_false_iff_not,wn];omega
theorem KZ {b:Bool}{p:Prop}(h:b=true↔p)(q:b=false):¬p:=λ r=>by rw[h.2 r]at q;cases q

theorem K0 {X:List Nat}{m st en:Nat}(h1:st<=m)(h2:m<=en)(h3:en<=X.length)(t:Nat):gN (dD X m st en) t=if st<=t∧t<st+(en-m)then gN X (t+(m-st))else if st+(en-m)<=t∧t<en then gN X (t-(en-m))else gN X t:=by
 unfold dD;split
 ·next q=>rw[KY q.1 q.2 h3]
 ·next q=>
  repeat' split
  all_goals (first|rfl|(congr 1;omega)|(exfalso;omega))
theorem K1 (X:List Nat)(m st en:Nat):(dD X m st en).length=X.length:=by
 unfold dD;split
 ·exact BE _ _ _ _
 ·rfl
theorem uG {W:List Nat}{x y:Nat}(h:gN W x<=gN W y)(h2:x<y):Lt W x y:=by
 rcases Nat.lt_or_eq_of_le h with q|q
 ·exact .inl q
 ·exact .inr ⟨q,h2⟩
theorem yz {W:List Nat}:∀(f:Nat) (X:List Nat) (a m b:Nat),a<m->m<b->b<=X.length->b-a<=f->j8 W X a m->j8 W X m b->PE X a m b->j8 W (i4 W f X a m b) a b∧Mv X (i4 W f X a m b) a b
 |0,X,a,m,b,h1,h2,_,h4,_,_,_=>by omega
 |f+1,X,a,m,b,h1,h2,h3,h4,sA,sB,sp=>by
  rw[i4];split
  ·next hm=>
   generalize hT:gT (qA W X a) (b-m) m b=T;obtain⟨t1,t2,t3,t4⟩:=CZ _ _ _ _ hT om (VT _);have g:=IC (X:=X) (a:=a) (T-1-a) om;refine⟨λ i j hi hij hj=>?_,eQ _ _ _,λ i hi=>?_,λ i hi hj=>?_⟩
   ·have lo:∀k,m<=k->k<T->gN W (gN X k)<gN W (gN X a):=λ k k1 k2=>by
     rcases t3 with q|q
     ·omega
     ·exact aaM (sB.le k1 (show k<=T-1 by omega) om) ((PF _ _ _ _).1 q.2)
    have hi':∀k,T<=k->k<b->Lt W (gN X a) (gN X k):=λ k k1 k2=>by
     refine uG ?_ (sp a k (VT _) h1 om k2);rcases t4 with q|q
     ·omega
     ·exact VR (Nat.le_of_not_lt (KZ (PF _ _ _ _) q.2)) (sB.le t1 k1 k2)
    rw[g,g]
    repeat' split
    all_goals (first|(exfalso;omega)|skip)
    ·exact sB _ _ om om om
    ·exact .inl (lo _ om om)
    ·exact sB _ _ om om om
    ·exact hi' _ om hj
    ·exact sB _ _ om om om
   ·rw[g,ZE om,ZE om]
   ·rw[g];split
    ·exact⟨i+1,by omega,by omega,rfl⟩
    ·split
     ·exact⟨a,by omega,by omega,rfl⟩
     ·exact⟨i,hi,hj,rfl⟩
  ·next hm=>
   split
   ·next hb=>
    generalize hT:gT (qB W X m) (m-a) a m=T;obtain⟨t1,t2,t3,t4⟩:=CZ _ _ _ _ hT om (VT _);have g:=ID (X:=X) (m:=m) om (m-T) om;rw[show m-(m-T)=T from by omega]at g;refine⟨λ i j hi hij hj=>?_,eS _ _ _,λ i hi=>?_,λ i hi hj=>?_⟩
    ·have lo:∀k,a<=k->k<T->Lt W (gN X k) (gN X m):=λ k k1 k2=>by
      refine uG ?_ (sp k m k1 om (VT _) h2);rcases t3 with q|q
      ·omega
      ·exact VR (sA.le k1 (show k<=T-1 by omega) om) ((PG _ _ _ _).1 q.2)
     have hi':∀k,T<=k->k<m->Lt W (gN X m) (gN X k):=λ k k1 k2=>by
      rcases t4 with q|q
      ·omega
      ·exact .inl (Wp (aa6 (KZ (PG _ _ _ _) q.2)) (sA.le t1 k1 k2))
     rw[g,g]
     repeat' split
     all_goals (first|(exfalso;omega)|skip)
     ·exact hi' _ om om
     ·exact sA _ _ om om om
     ·exact lo _ hi om
     ·exact sA _ _ om om om
     ·exact sA _ _ om om om
    ·rw[g,ZE om,ZE om]
    ·rw[g];split
     ·exact⟨m,by omega,by omega,rfl⟩
     ·split
      ·exact⟨i-1,by omega,by omega,rfl⟩
      ·exact⟨i,hi,hj,rfl⟩
   ·next hb=>
    have hs:=vZ h1 h2;have r1:iZ a m b<=(a+b)/2:=by unfold iZ;split<;>omega
    show j8 W (if(a+b)/2<(a+b)/2+m-eg W X a m b∧_ then _ else _) a b∧Mv X (if(a+b)/2<(a+b)/2+m-eg W X a m b∧_ then _ else _) a b;generalize hst:eg W X a m b=st;obtain⟨t1,t2,t3,t4⟩:=CZ _ _ _ _ hst hs.1 (VT _);have s0:jC a m b=if(a+b)/2<m then(a+b)/2+m-b else a:=rfl
    have r0:iZ a m b=if(a+b)/2<m then(a+b)/2 else m:=rfl
    generalize jC a m b=S0 at *;generalize iZ a m b=R0 at *;generalize hen:(a+b)/2+m-st=en;generalize hmd:(a+b)/2=md at *;have b1:a<=st∧st<=m∧m<=en∧en<=b∧a<md∧md<b∧st<=md∧md<=en∧st+(en-m)=md∧en-md=m-st:=by omega
    obtain⟨b1,b2,b3,b4,b5,b6,b7,b8,b9,b10⟩:=b1;have g:=K0 (X:=X) b2 b3 (show en<=X.length by omega);rw[b9]at g;have c1:∀i j,a<=i->i<st->en<=j->j<b->Lt W (gN X i) (gN X j):=λ i j i1 i2 j1 j2=>by
     refine uG ?_ (sp i j i1 om om j2);have q:gN W (gN X (st-1))<=gN W (gN X en):=by
      rcases t3 with q|q
      ·exfalso;rw[s0]at q;split at q<;>omega
      ·have:=(PH _ _ _ _).1 q.2
       rwa [show md+m-1-(st-1)=en from by omega]at this
     exact VR (sA.le i1 (show i<=st-1 by omega) om) (VR q (sB.le b3 j1 j2))
    have c2:∀i j,m<=i->i<en->st<=j->j<m->Lt W (gN X i) (gN X j):=λ i j i1 i2 j1 j2=>by
     refine .inl ?_;have q:gN W (gN X (en-1))<gN W (gN X st):=by
      rcases t4 with q|q
      ·exfalso;rw[r0]at q;split at q<;>omega
      ·have:=aa6 (KZ (PH _ _ _ _) q.2)
       rwa [show md+m-1-st=en-1 from by omega]at this
     exact aaM (sB.le i1 (show i<=en-1 by omega) om) (Wp q (sA.le b1 j1 j2))
    have l1:=K1 X m st en;have mv:Mv X (dD X m st en) a b:=by
     refine⟨l1,λ i hi=>?_,λ i hi hj=>?_⟩
     ·rw[g,ZE om,ZE om]
     ·rw[g];split
      ·exact⟨_,by omega,by omega,rfl⟩
      ·split
       ·exact⟨_,by omega,by omega,rfl⟩
       ·exact⟨i,hi,hj,rfl⟩
    have cr:∀i j,a<=i->i<md->md<=j->j<b->Lt W (gN (dD X m st en) i) (gN (dD X m st en) j):=λ i j i1 i2 j1 j2=>by
     rw[g,g]
     repeat' split
     all_goals (first|(exfalso;omega)|skip)
     ·exact c2 _ _ om om om om
     ·exact sB _ _ om om om
     ·exact sA _ _ om om om
     ·exact c1 _ _ om om om om
    have o1:j8 W (dD X m st en) a st:=λ i j hi hij hj=>by
     rw[g,g,ZE om,ZE om,ZE om,ZE om];exact sA _ _ hi hij om
    have o2:j8 W (dD X m st en) st md:=λ i j hi hij hj=>by
     rw[g,g,ZF om,ZF om];exact sB _ _ om om om
    have o3:j8 W (dD X m st en) md en:=λ i j hi hij hj=>by
     rw[g,g,ZE om,ZF om,ZE om,ZF om];exact sA _ _ om om om
    have o4:j8 W (dD X m st en) en b:=λ i j hi hij hj=>by
     rw[g,g,ZE om,ZE om,ZE om,ZE om];exact sB _ _ om om om
    have p1:PE (dD X m st en) a st md:=λ i j i1 i2 j1 j2=>by
     rw[g,g,ZE om,ZE om,ZF om];exact sp _ _ om om om om
    have p2:PE (dD X m st en) md en b:=λ i j i1 i2 j1 j2=>by
     rw[g,g,ZE om,ZF om,ZE om,ZE om];exact sp _ _ om om om om
    generalize dD X m st en=Y at *;have k1:j8 W (if a<st∧st<md then i4 W f Y a st md else Y) a md∧Mv Y (if a<st∧st<md then i4 W f Y a st md else Y) a md:=by
     split
     ·next q=>exact yz f Y a st md q.1 q.2 om om o1 o2 p1
     ·next q=>
      refine⟨?_,.refl _ _ _⟩;rcases(show a=st∨st=md by omega)with e|e
      ·rw[e];exact o2
      ·rw[<-e];exact o1
    generalize(if a<st∧st<md then i4 W f Y a st md else Y)=Y2 at *;obtain⟨k1,m1⟩:=k1;have o3:=o3.keep m1 (.inr om);have o4:=o4.keep m1 (.inr om);have p2:PE Y2 md en b:=λ i j i1 i2 j1 j2=>by
     rw[m1.o i om,m1.o j om];exact p2 i j i1 i2 j1 j2
    have l2:=m1.l;have k2:j8 W (if md<en∧en<b then i4 W f Y2 md en b else Y2) md b∧Mv Y2 (if md<en∧en<b then i4 W f Y2 md en b else Y2) md b:=by
     split
     ·next q=>exact yz f Y2 md en b q.1 q.2 om om o3 o4 p2
     ·next q=>
      refine⟨?_,.refl _ _ _⟩;rcases(show md=en∨en=b by omega)with e|e
      ·rw[e];exact o4
      ·rw[<-e];exact o3
    generalize(if md<en∧en<b then i4 W f Y2 md en b else Y2)=Y3 at *;obtain⟨k2,m2⟩:=k2;refine⟨j8.join (k1.keep m2 (.inl om)) k2 λ i j i1 i2 j1 j2=>?_,(mv.trans (m1.wide om om)).trans (m2.wide om om)⟩;rw[m2.o i om];obtain⟨i',u1,u2,u3⟩:=m1.m i i1 i2;obtain⟨j',v1,v2,v3⟩:=m2.m j j1 j2;rw[u3,v3,m1.o j' om];exact cr i' j' u1 u2 v1 v2

theorem sa {p q:Prop}(h:¬(p∧q)):¬p∨¬q:=by
 rcases Classical.em p with a|a
 ·exact .inr λ b=>h ⟨a,b⟩
 ·exact .inl a
theorem Lt.trans {W:List Nat}{x y z:Nat}(h:Lt W x y)(k:Lt W y z):Lt W x z:=by
 unfold Lt at *;omega
theorem IE {W:List Nat}{a:Nat}:∀(j:Nat) (X:List Nat),a<=j->j<X.length->j8 W X a j->(∀i,a<=i->i<j->gN X i<gN X j)->j8 W (inI W a j X) a (j+1)∧Mv X (inI W a j X) a (j+1)
 |0,X,_,_,_,_=>⟨λ i j hi hij hj=>by omega,.refl _ _ _⟩
 |j+1,X,h1,h2,hs,hx=>by
  by_cases q:a<j+1∧gN W (gN X (j+1))<gN W (gN X j)
  ·rw[HP (k:=j) rfl q.1 q.2]
   have g:=yy (X:=X) (i:=j+1) (j:=j) h2 om;have g0:∀t,t<j->gN (swp X (j+1) j) t=gN X t:=λ t ht=>by rw[g,ZE om,ZE om]
   have gj:gN (swp X (j+1) j) j=gN X (j+1):=by rw[g,ZF rfl]
   have gk:gN (swp X (j+1) j) (j+1)=gN X j:=by rw[g,ZE om,ZF rfl]
   have ih:=IE (W:=W) (a:=a) j (swp X (j+1) j) om (by rw[fw];omega)
    (λ i k hi hik hk=>by rw[g0 i om,g0 k om];exact hs i k hi hik om)
    (λ i hi hik=>by rw[g0 i hik,gj];exact hx i hi om)
   obtain⟨i1,i2⟩:=ih;have mv:Mv X (swp X (j+1) j) a (j+2):=⟨fw _ _ _,λ i hi=>by rw[g,ZE om,ZE om],λ i hi hik=>by
    rw[g];split
    ·exact⟨j+1,by omega,by omega,rfl⟩
    ·split
     ·exact⟨j,by omega,by omega,rfl⟩
     ·exact⟨i,hi,hik,rfl⟩⟩
   refine⟨j8.join i1 (λ i k hi hik hk=>by omega) λ i k hi hik hk1 hk2=>?_,mv.trans (i2.wide (VT _) om)⟩;rw[i2.o k om,show k=j+1 from by omega,gk];obtain⟨t,t1,t2,t3⟩:=i2.m i hi hik;rw[t3]
   by_cases e:t=j
   ·rw[e,gj];exact .inl q.2
   ·rw[g0 t om];exact hs t j t1 om om
  ·rw[BF (by rw[Xf];exact sa q)]
   refine⟨j8.join hs (λ i k hi hik hk=>by omega) λ i k hi hik hk1 hk2=>?_,.refl _ _ _⟩;rw[show k=j+1 from by omega];refine uG ?_ (hx i hi hik);have q2:gN W (gN X j)<=gN W (gN X (j+1)):=by
    rcases Wl (gN W (gN X (j+1))) (gN W (gN X j))with r|r
    ·exact absurd ⟨by omega,r⟩ q
    ·exact r
   exact VR (hs.le hi (show i<=j by omega) om) q2
theorem wo {W X:List Nat}{a:Nat}:∀(k:Nat),a+k<X.length∨k=0->(∀i j,a<=i->i<j->j<a+k+1->gN X i<gN X j)->j8 W (inQ W X a k) a (a+k+1)∧Mv X (inQ W X a k) a (a+k+1)
 |0,_,_=>by rw[xy];exact⟨λ i j hi hij hj=>by omega,.refl _ _ _⟩
 |k+1,h,hx=>by
  obtain⟨s,m⟩:=wo (W:=W) (X:=X) (a:=a) k om (λ i j h1 h2 h3=>hx i j h1 h2 om);rw[<-xz];obtain⟨s2,m2⟩:=IE (W:=W) (a:=a) (a+1+k) (inQ W X a k) om (by rw[m.l];omega) (by rw[show a+1+k=a+k+1 from by omega];exact s) (λ i hi hik=>by
   obtain⟨t,t1,t2,t3⟩:=m.m i hi om;rw[t3,m.o _ om];exact hx t _ t1 om om)
  rw[show a+1+k+1=a+(k+1)+1 from by omega]at s2 m2;exact⟨s2,(m.wide (VT _) om).trans m2⟩
def K2 (X:List Nat):Prop:=∀i j,i<j->j<X.length->gN X i<gN X j
structure Sg (W X Y:List Nat)(a b:Nat):Prop where
 s:j8 W Y a b
 m:∀i,a<=i->i<b->∃j,a<=j∧j<b∧gN Y i=gN X j
theorem Sg.none {W X Y:List Nat}{a b:Nat}(h:b<=a):Sg W X Y a b:=⟨λ i j h1 h2 h3=>by omega,λ i h1 h2=>by omega⟩
theorem Sg.keep {W X Y Z:List Nat}{a b c d:Nat}(h:Sg W X Y a b)(k:Mv Y Z c d)(hd:b<=c∨d<=a):Sg W X Z a b:=⟨h.s.keep k hd,λ i h1 h2=>by rw[k.o i om];exact h.m i h1 h2⟩
theorem Sg.two {W X Y Z:List Nat}{a m b:Nat}(h:Sg W X Y a m)(k:Sg W X Y m b)(s:j8 W Z a b)(v:Mv Y Z a b)(h1:a<=m)(h2:m<=b):Sg W X Z a b:=⟨s,λ i i1 i2=>by
 obtain⟨j,j1,j2,j3⟩:=v.m i i1 i2;rcases Wl j m with q|q
 ·obtain⟨t,t1,t2,t3⟩:=h.m j j1 q
  exact⟨t,t1,by omega,j3.trans t3⟩
 ·obtain⟨t,t1,t2,t3⟩:=k.m j q j2
  exact⟨t,by omega,t2,j3.trans t3⟩⟩
theorem Sg.sep {W X Y:List Nat}{a m b:Nat}(hX:K2 X)(hb:b<=X.length)(h:Sg W X Y a m)(k:Sg W X Y m b):PE Y a m b:=λ i j i1 i2 j1 j2=>by
 obtain⟨t,t1,t2,t3⟩:=h.m i i1 i2;obtain⟨u,u1,u2,u3⟩:=k.m j j1 j2;rw[t3,u3];exact hX t u om om
theorem PI {W X:List Nat}(hX:K2 X):∀(f a:Nat) (Y:List Nat) (k:Nat),a=20*k->X.length-a<=f->Y.length=X.length->(∀t,t<k->Sg W X Y (t*20) (min (t*20+20) X.length))->(∀i,a<=i->gN Y i=gN X i)->∀t,Sg W X (xF W X.length f a Y) (t*20) (min (t*20+20) X.length):=by
 have fin:∀(a:Nat) (Y:List Nat) (k:Nat),a=20*k->X.length<a+20->Y.length=X.length->(∀t,t<k->Sg W X Y (t*20) (min (t*20+20) X.length))->(∀i,a<=i->gN Y i=gN X i)->∀t,Sg W X (inQ W Y a (X.length-(a+1))) (t*20) (min (t*20+20) X.length):=λ a Y k ha hf hl lo hi t=>by
  obtain⟨s,m⟩:=wo (W:=W) (X:=Y) (a:=a) (X.length-(a+1)) om (λ i j h1 h2 h3=>by
   rw[hi i h1,hi j om];rcases Wl j X.length with q|q
   ·exact hX i j h2 q
   ·omega)
  rcases XO t k with q|q|q
  ·exact(lo t q).keep m (.inl om)
  ·by_cases e:a<X.length
   ·rw[show t*20=a from by omega,show min (a+20) X.length=a+(X.length-(a+1))+1 from by omega]
    exact⟨s,λ i h1 h2=>by
     obtain⟨j,j1,j2,j3⟩:=m.m i h1 h2;exact⟨j,j1,j2,j3.trans (hi j j1)⟩⟩
   ·exact .none om
  ·exact .none om
 intro f
 induction f with
 |zero=>exact λ a Y k ha hf hl lo hi=>fin a Y k ha om hl lo hi
 |succ f ih=>
  intro a Y k ha hf hl lo hi;rw[xF];split
  ·next h=>
   obtain⟨s,m⟩:=wo (W:=W) (X:=Y) (a:=a) 19 om (λ i j h1 h2 h3=>by rw[hi i h1,hi j om];exact hX i j h2 om);refine ih (a+20) _ (k+1) om om (by rw[m.l];exact hl) (λ t ht=>?_) (λ i h1=>by rw[m.o i om];exact hi i om);rcases Wl t k with q|q
   ·exact(lo t q).keep m (.inl om)
   ·rw[show t*20=a from by omega,show min (a+20) X.length=a+19+1 from by omega]
    exact⟨s,λ i h1 h2=>by
     obtain⟨j,j1,j2,j3⟩:=m.m i h1 h2;exact⟨j,j1,j2,j3.trans (hi j j1)⟩⟩
  ·next h=>exact fin a Y k ha om hl lo hi
theorem PJ {W X:List Nat}(hX:K2 X){z:Nat}(hz:0<z):∀(f a:Nat) (Y:List Nat) (k:Nat),a=k*(2*z)->X.length-a<=f->Y.length=X.length->(∀t,t<k->Sg W X Y (t*(2*z)) (min (t*(2*z)+2*z) X.length))->(∀t,2*k<=t->Sg W X Y (t*z) (min (t*z+z) X.length))->∀t,Sg W X (pq W z X.length f a Y) (t*(2*z)) (min (t*(2*z)+2*z) X.length):=by
 have lw:∀{t k:Nat},t<k->t*(2*z)+2*z<=k*(2*z):=fun{t k} h=>by
  have:=Ww (2*z) (show t+1<=k from h)
  rwa [WV,YX]at this
 have u0:∀k:Nat,2*k*z=k*(2*z):=λ k=>by rw[Nat.mul_comm 2 k,Nat.mul_assoc]
 have u1:∀k:Nat,(2*k+1)*z=k*(2*z)+z:=λ k=>by rw[WV,u0,YX]
 have up:∀{t k:Nat},2*(k+1)<=t->k*(2*z)+2*z<=t*z:=fun{t k} h=>by
  have h:=Ww z h;rw[u0,WV,YX]at h;exact h
 have fin:∀(a:Nat) (Y:List Nat) (k:Nat),a=k*(2*z)->X.length<a+2*z->Y.length=X.length->(∀t,t<k->Sg W X Y (t*(2*z)) (min (t*(2*z)+2*z) X.length))->(∀t,2*k<=t->Sg W X Y (t*z) (min (t*z+z) X.length))->∀t,Sg W X (if a+z<X.length then i4 W (2*z) Y a (a+z) X.length else Y) (t*(2*z)) (min (t*(2*z)+2*z) X.length):=λ a Y k ha hf hl lo hi t=>by
  have g0:=hi (2*k) (VT _);have g1:=hi (2*k+1) om;rw[u0,<-ha]at g0;rw[u1,<-ha]at g1
  split
  ·next h=>
   rw[show min (a+z) X.length=a+z from by omega]at g0;rw[show min (a+z+z) X.length=X.length from by omega]at g1;obtain⟨s,m⟩:=yz (W:=W) (2*z) Y a (a+z) X.length om h om om g0.s g1.s (g0.sep hX (VT _) g1);rcases XO t k with q|q|q
   ·have:=lw q
    exact(lo t q).keep m (.inl om)
   ·rw[q,<-ha,show min (a+2*z) X.length=X.length from by omega]
    exact g0.two g1 s m om om
   ·have:=lw q
    exact .none om
  ·next h=>
   rcases XO t k with q|q|q
   ·exact lo t q
   ·rw[q,<-ha,show min (a+2*z) X.length=min (a+z) X.length from by omega]
    exact g0
   ·have:=lw q
    exact .none om
 intro f
 induction f with
 |zero=>exact λ a Y k ha hf hl lo hi=>fin a Y k ha om hl lo hi
 |succ f ih=>
  intro a Y k ha hf hl lo hi;rw[pq];split
  ·next h=>
   have g0:=hi (2*k) (VT _);have g1:=hi (2*k+1) om;rw[u0,<-ha,show min (a+z) X.length=a+z from by omega]at g0;rw[u1,<-ha,show min (a+z+z) X.length=a+2*z from by omega]at g1;obtain⟨s,m⟩:=yz (W:=W) (2*z) Y a (a+z) (a+2*z) om om om om g0.s g1.s (g0.sep hX om g1);refine ih (a+2*z) _ (k+1) (by rw[WV,YX,ha]) om (by rw[m.l];exact hl) (λ t ht=>?_) (λ t ht=>?_)
   ·rcases Wl t k with q|q
    ·have:=lw q
     exact(lo t q).keep m (.inl om)
    ·rw[show t=k from by omega,<-ha,show min (a+2*z) X.length=a+2*z from by omega]
     exact g0.two g1 s m om om
   ·have:=up ht
    exact(hi t om).keep m (.inr om)
  ·next h=>exact fin a Y k ha om hl lo hi
theorem IF {W X:List Nat}(hX:K2 X):∀(f z:Nat) (Y:List Nat),X.length-z<=f->0<z->Y.length=X.length->(∀t,Sg W X Y (t*z) (min (t*z+z) X.length))->j8 W (xG W X.length f z Y) 0 X.length
 |0,z,Y,h1,hz,hl,h=>by
  have:=(h 0).s
  rwa [Xl,Wd,show min z X.length=X.length from by omega]at this
 |f+1,z,Y,h1,hz,hl,h=>by
  rw[xG];split
  ·have q:=(i5 (W:=W) hz X.length 0 Y hl.symm).length_eq
   exact IF hX f (2*z) _ om om (by rw[q];exact hl) (PJ hX hz _ 0 Y 0 om om hl (λ t ht=>by omega) λ t _=>h t)
  ·have:=(h 0).s
   rwa [Xl,Wd,show min z X.length=X.length from by omega]at this
theorem PK {W X:List Nat}(hX:K2 X):j8 W (RH W X) 0 X.length:=by
 have q:=(kJ (W:=W) X.length 0 X rfl (Wy _)).length_eq;exact IF hX _ 20 _ om (by decide) q (PI hX _ 0 X 0 rfl om rfl (λ t ht=>by omega) λ _ _=>rfl)
theorem fk {X:List Nat}{i:Nat}(h:i<X.length):gN X i=X[i]:=by
 unfold gN;rw[VH,VG h];rfl
theorem j8.pw {W X:List Nat}(h:j8 W X 0 X.length):X.Pairwise (Lt W):=List.pairwise_iff_getElem.2 λ i j hi hj hij=>by
 rw[<-fk hi,<-fk hj];exact h i j (Wy _) hij hj
theorem K3 {X:List Nat}(h:X.Pairwise (· < ·)):K2 X:=λ i j hij hj=>by
 rw[fk om,fk hj];exact List.pairwise_iff_getElem.1 h i j _ hj hij
theorem F6 (W:List Nat)(k:Nat):K2 (eZ W k):=by
 rw[fO];exact K3 (List.Pairwise.filter _ List.pairwise_lt_range)
theorem C2 (W:List Nat):(cM W).Pairwise (Lt W):=by
 rw[v5];have h:=PK (W:=W) (F6 W W.length);rw[<-(t0 W (eZ W W.length)).length_eq]at h;exact h.pw
theorem IG {F o:List Nat}{x:Nat}(ho:o.Pairwise (Lt F))(hx:∀y∈o,y<x):∀a,a<=o.length->(∀i,a<=i->i<o.length->Lt F x (gN o i))->(∀i,i<fV F x o a->Lt F (gN o i) x)∧∀i,fV F x o a<=i->i<o.length->Lt F x (gN o i)
 |0,_,h=>⟨λ i hi=>absurd hi (Nat.not_lt_zero _),h⟩
 |a+1,ha,h=>by
  rw[fV];have hm:gN o a∈o:=by rw[fk om];exact WE _
  by_cases q:gN F x<gN F (gN o a)
  ·rw[ZF (show F.getD x lh<F.getD (o.getD a lh) lh from q)]
   exact IG ho hx a om λ i hi hl=>by
    rcases Wl a i with r|r
    ·exact h i r hl
    ·rw[show i=a from by omega];exact .inl q
  ·rw[ZE (show¬F.getD x lh<F.getD (o.getD a lh) lh from q)]
   refine⟨λ i hi=>?_,h⟩;have k:Lt F (gN o a) x:=uG om (hx _ hm);rcases Wl i a with r|r
   ·have:=List.pairwise_iff_getElem.1 ho i a om om r
    rw[<-fk,<-fk]at this;exact this.trans k
   ·rw[show i=a from by omega];exact k
theorem K4 {F o:List Nat}{x:Nat}(ho:o.Pairwise (Lt F))(hx:∀y∈o,y<x):(Ed F x o).Pairwise (Lt F):=by
 obtain⟨h1,h2⟩:=IG ho hx o.length (VT _) (λ i hi hl=>by omega);have hle:=oS F x o o.length;unfold Ed;generalize fV F x o o.length=A at *;have ho2:(o.take A++o.drop A).Pairwise (Lt F):=by rw[XR];exact ho
 rw[List.pairwise_append]at ho2;obtain⟨p1,p2,p3⟩:=ho2;have e1:∀y∈o.take A,Lt F y x:=λ y hy=>by
  obtain⟨i,hi,e⟩:=aay hy;rw[VW]at hi;rw[List.getElem_take,<-fk]at e;rw[<-e];exact h1 i om
 have e2:∀y∈o.drop A,Lt F x y:=λ y hy=>by
  obtain⟨i,hi,e⟩:=aay hy;rw[Wr]at hi;rw[List.getElem_drop,<-fk]at e;rw[<-e];exact h2 (A+i) om om
 refine List.pairwise_append.2 ⟨p1,List.pairwise_cons.2 ⟨e2,p2⟩,λ y hy z hz=>?_⟩;rcases List.mem_cons.1 hz with e|hz
 ·rw[e];exact e1 y hy
 ·exact p3 y hy z hz
theorem wp (F:List Nat):∀i,(bi F i).Pairwise (Lt F)
 |0=>List.Pairwise.nil
 |i+1=>by
  rw[bi];split
  ·exact wp F i
  ·exact K4 (wp F i) (oT F i)
theorem C3 (F o:List Nat)(x:Nat):(Ed F x o).Perm (o++[x]):=by
 unfold Ed;refine List.perm_middle.trans ?_;rw[XR];exact(List.perm_append_singleton _ _).symm
theorem oV (F:List Nat):∀i,(bi F i).Perm (eZ F i)
 |0=>by rw[BP];exact List.Perm.refl _
 |i+1=>by
  by_cases h:F.getD i lh=0
  ·rw[KT h,BR (by rw[V5];omega)];exact oV F i
  ·rw[KU h,BQ (by rw[V5];omega)]
   exact(C3 F _ i).trans ((oV F i).append_right _)
theorem sc (F:List Nat):bi F F.length=cM F:=
 List.Perm.eq_of_pairwise (le:=Lt F) (λ a b _ _ h k=>by unfold Lt at h k;omega) (wp F _) (C2 F) ((oV F _).trans (dr F).symm)
def lY:List Pa->List Pa->List (Pa×Bool)
 |[],B=>B.map (·,true)
 |a::A,[]=>(a::A).map (·,false)
 |a::A,b::B=>if a.1<=b.1 then(a,false)::lY A (b::B)else(b,true)::lY (a::A) B
theorem uH (B:List Pa):lY [] B=B.map (·,true):=by rw[lY]
theorem C4 (A:List Pa):lY A []=A.map (·,false):=by
 cases A<;>rw[lY];rfl
theorem jc {X:List Pa}{i:Nat}(h:i<X.length):X.drop i=bY X i::X.drop (i+1):=by
 rw[List.drop_eq_getElem_cons h,bY,VH,VG h];rfl
theorem oW (A B:List Pa):∀f i k,i<=A.length->k<=B.length->f+i+k=A.length+B.length->px A B f i k=(lY (A.drop i) (B.drop k)).map (·.1)
 |0,i,k,hi,hk,h=>by
  rw[WS (show A.length<=i by omega),WS (show B.length<=k by omega),uH];rfl
 |f+1,i,k,hi,hk,h=>by
  rw[px]
  by_cases q:k=B.length
  ·have hi2:i<A.length:=by omega
   rw[ZF (show Ec A B i k from .inl q),oW A B f (i+1) k om hk om,jc hi2,q,List.drop_length,C4,C4];rfl
  ·rw[jc (X:=B) (show k<B.length by omega)]
   by_cases r:i<A.length
   ·rw[jc r,lY]
    by_cases s:(bY A i).1<=(bY B k).1
    ·rw[ZF (show Ec A B i k from .inr ⟨r,s⟩),ZF s,oW A B f (i+1) k om hk om,jc (X:=B) (show k<B.length by omega)];rfl
    ·rw[ZE (show¬Ec A B i k from λ x=>x.elim q λ y=>s y.2),ZE s,oW A B f i (k+1) hi om om,jc r];rfl
   ·rw[ZE (show¬Ec A B i k from λ x=>x.elim q λ y=>r y.1),oW A B f i (k+1) hi om om,WS (show A.length<=i by omega),uH,uH];rfl
def yA:List Pa->List Pa
 |x::y::r=>(x.1+y.1,eY x.2 y.2)::yA r
 |_=>[]
theorem sd:∀X:List Pa,(yA X).length=X.length/2
 |x::y::r=>by rw[yA,Wj,sd r];simp only[Wj];omega
 |[]=>rfl
 |[x]=>by simp[yA]
theorem yB:∀(X:List Pa) (j:Nat),2*j+1<X.length->(yA X)[j]? =some ((bY X (2*j)).1+(bY X (2*j+1)).1,eY (bY X (2*j)).2 (bY X (2*j+1)).2)
 |x::y::r,0,_=>rfl
 |x::y::r,j+1,h=>by
  rw[yA,List.getElem?_cons_succ,yB r j (by simp only[Wj]at h;omega)];rfl
 |[],j,h=>by simp at h
 |[x],j,h=>by simp at h
theorem yC {X:List Pa}:∀(n j:Nat),j<n->(fx X n)[j]? =some ((bY X (2*j)).1+(bY X (2*j+1)).1,eY (bY X (2*j)).2 (bY X (2*j+1)).2)
 |0,j,h=>by omega
 |n+1,j,h=>by
  rw[fx];rcases Wl j n with q|q
  ·rw[List.getElem?_append_left (by rw[eh];exact q)];exact yC n j q
  ·rw[List.getElem?_append_right (by rw[eh];exact q),eh,show j=n from by omega,W5];rfl
theorem F7 (X:List Pa):fx X (X.length/2)=yA X:=by
 apply WD;intro j;rcases Wl j (X.length/2)with q|q
 ·rw[yC _ _ q,yB X j om]
 ·rw[Wh (by rw[eh];exact q),Wh (by rw[sd];exact q)]
def Mo:List Nat->List Nat->List Pc
 |[],ws=>ga ws
 |s::r,ws=>(fa s ws).1++Mo r (fa s ws).2
def PL:List Pc->List Nat
 |x::y::r=>(x.w+y.w)::PL r
 |_=>[]
theorem IH:∀(row:List Pc) (ws:List Nat),fP row ws=Mo (PL row) ws
 |x::y::r,ws=>by rw[fP,PL,Mo,IH r]
 |[],ws=>rfl
 |[x],ws=>rfl
abbrev Uc (q:Pa×Bool):Pc:=⟨q.1.1,q.2⟩
theorem se:∀(B A:List Pa),Mo (B.map (·.1)) (A.map (·.1))=(lY A B).map Uc
 |[],A=>by
  rw[C4,Ym];show ga _=_;unfold ga;rw[Ym];rfl
 |b::B,[]=>by
  have:=se B [];rw[uH]at this;rw[uH,W6,W6,W6,<-this,Mo];rfl
 |b::B,a::A=>by
  rw[lY,W6,W6,Mo,fa]
  by_cases q:a.1<=b.1
  ·rw[ZF q,ZE om,W6,<-se (b::B) A];rfl
  ·rw[ZE q,ZF om,W6,<-se B (a::A)];rfl
def sf (X:List Pa)(t:Nat):Nat:=(X.map λ p=>p.2.getD t lh).sum
theorem yD (X Y:List Pa)(t:Nat):sf (X++Y) t=sf X t+sf Y t:=by unfold sf;rw[Wz,List.sum_append]
theorem ek (x:Pa)(X:List Pa)(t:Nat):sf (x::X) t=x.2.getD t lh+sf X t:=rfl
theorem sg (t:Nat):sf [] t=0:=rfl
def yE (M:List (Pa×Bool)):Nat:=(M.filter (·.2)).length
theorem K5 (M:List (Pa×Bool)):yE M<=M.length:=List.length_filter_le _ _
theorem PM (B:List Pa)(n:Nat):yE ((B.map (·,true)).take n)=min n B.length:=by
 unfold yE;rw[List.filter_eq_self.2 (λ x hx=>?_),VW,VP];obtain⟨b,_,e⟩:=List.mem_map.1 (WU hx);rw[<-e]
theorem PN (A:List Pa)(n:Nat):yE ((A.map (·,false)).take n)=0:=by
 unfold yE;rw[List.filter_eq_nil_iff.2 (λ x hx=>?_)];rfl;obtain⟨b,_,e⟩:=List.mem_map.1 (WU hx);rw[<-e];exact Bool.false_ne_true
theorem C5 (t:Nat):∀(n:Nat) (A B:List Pa),n<=(lY A B).length->sf (((lY A B).take n).map (·.1)) t=sf (A.take (n-yE ((lY A B).take n))) t+sf (B.take (yE ((lY A B).take n))) t
 |0,A,B,_=>by rw[YH];rfl
 |n+1,[],B,h=>by
  rw[lY]at *;rw[VP]at h;rw[PM,show min (n+1) B.length=n+1 from by omega,W5,XZ,Ym];show sf (Ws _ (B.map id)) t=0+_;rw[aar,Wd]
 |n+1,a::A,[],h=>by
  rw[lY]at *;rw[PN,XZ,Ym,Nat.sub_zero];show sf (Ws _ ((a::A).map id)) t=_+0;rw[aar];exact(Xw _).symm
 |n+1,a::A,b::B,h=>by
  rw[lY]at *
  by_cases q:a.1<=b.1
  ·rw[ZF q]at *
   have ih:=C5 t n A (b::B) (by simpa using h);have hp:=K5 ((lY A (b::B)).take n);have e:yE (((a,false)::lY A (b::B)).take (n+1))=yE ((lY A (b::B)).take n):=rfl;rw[VW]at hp;rw[e,XA,W6,ek,ih,show n+1-yE ((lY A (b::B)).take n)=(n-yE ((lY A (b::B)).take n))+1 from by omega,XA,ek];show a.2.getD t lh+(_+_)=a.2.getD t lh+_+_;omega
  ·rw[ZE q]at *
   have ih:=C5 t n (a::A) B (by simpa using h);have e:yE (((b,true)::lY (a::A) B).take (n+1))=yE ((lY (a::A) B).take n)+1:=rfl;rw[e,XA,W6,ek,ih,Nat.add_sub_add_right,XA,ek];show b.2.getD t lh+(_+_)=_+(b.2.getD t lh+_);omega
theorem PO {a b:List Nat}{n t:Nat}(ha:a.length=n)(hb:b.length=n)(ht:t<n):(eY a b).getD t lh=a.getD t lh+b.getD t lh:=by
 unfold eY;rw[VH,Y8,VH,VH,VG (show t<a.length by omega),VG (show t<b.length by omega)];rfl
theorem C6 {n t:Nat}(ht:t<n):∀(X:List Pa) (p:Nat),(∀x∈X,x.2.length=n)->p<=X.length/2->sf ((yA X).take p) t=sf (X.take (2*p)) t
 |_,0,_,_=>by rw[YH,Nat.mul_zero,YH]
 |x::y::r,p+1,h,hp=>by
  have ih:=C6 ht r p (λ z hz=>h z (Wa _ (Wa _ hz))) (by simp only[Wj]at hp;omega);rw[yA,XA,ek,ih,show 2*(p+1)=(2*p+1)+1 from by omega,XA,XA,ek,ek,PO (h x Wb) (h y (Wa _ Wb)) ht];omega
 |[],p+1,_,hp=>by simp at hp
 |[x],p+1,_,hp=>by simp at hp
theorem II:∀(row:List Pc) (X:List Pa),row.map (·.w)=X.map (·.1)->PL row=(yA X).map (·.1)
 |x::y::r,X,h=>by
  match X,h with
  |a::b::X,h=>
   simp only[W6,List.cons.injEq]at h;rw[PL,yA,W6,h.1,h.2.1,II r X h.2.2]
  |[a],h=>simp at h
  |[],h=>simp at h
 |[],X,h=>by
  have:X=[]:=by simpa using h.symm
  subst this;rfl
 |[x],X,h=>by
  match X,h with
  |[a],_=>rfl
  |[],h=>simp at h
  |a::b::X,h=>simp at h
def IJ (ws:List Nat):Nat->Nat->Nat->Nat
 |0,_,_=>0
 |k+1,n,t=>(if t<n-dg (ax ws k) n then 1 else 0)+IJ ws k (2*dg (ax ws k) n) t
theorem PP (M:List (Pa×Bool))(n:Nat):dg (M.map Uc) n=yE (M.take n):=by
 rw[ip,<-XZ,List.filter_map,VP];rfl
theorem C7 {F I:List Nat}{t:Nat}(ht:t<I.length):∀s,s<=I.length->sf ((dS F I I.length).take s) t=if t<s then 1 else 0:=by
 have g:∀k s,s<=k->(dS F I k).take s=dS F I s:=λ k=>by
  induction k with
  |zero=>intro s hs;rw[show s=0 from by omega];rfl
  |succ k ih=>
   intro s hs;rw[dS];rcases Wl k s with q|q
   ·rw[show s=k+1 from by omega,Wm (by rw[VI,eX];exact VT _),dS]
   ·rw[List.take_append_of_le_length (by rw[eX];exact q)];exact ih s q
 intro s hs;rw[g _ s hs];clear hs
 induction s with
 |zero=>rfl
 |succ s ih=>
  rw[dS,yD,ih,ek,sg];have e:(pv I.length s).getD t lh=if t=s then 1 else 0:=by
   unfold pv;rw[VH,W7]
   by_cases q:s=t
   ·subst q;simp[ht]
   ·rw[ZE q,ZE (Ne.symm q),Xd,ZF ht];rfl
  show _+((pv I.length s).getD t lh+0)=_;rw[e]
  repeat' split
  all_goals omega
theorem C8 {F I ws:List Nat}{A:List Pa}(hA:dS F I I.length=A)(hw:A.map (·.1)=ws)(hB:∀k,∀x∈ej A k,x.2.length=I.length):∀k,(ax ws k).map (·.w)=(ej A k).map (·.1)∧∀n t,n<=(ax ws k).length->t<I.length->sf ((ej A k).take n) t=IJ ws (k+1) n t
 |0=>by
  have e:ax ws 0=ga ws:=by rw[<-oz,fQ];rfl
  refine⟨?_,λ n t hn ht=>?_⟩
  ·rw[e,ej,hw];unfold ga;rw[Ym];exact aar _
  ·have p0:dg (ax ws 0) n=0:=by
    have:=nd (ax ws 0) n;have c:=(iq ws 0).2.1;rw[ZF rfl]at c;omega
   have hl:(ax ws 0).length=I.length:=by rw[e];unfold ga;rw[VP,<-hw,VP,<-hA,eX]
   rw[IJ,IJ,p0,ej,<-hA,C7 ht n om];rfl
 |k+1=>by
  obtain⟨h1,h2⟩:=C8 hA hw hB k;have hl:(ax ws k).length=(ej A k).length:=by have:=congrArg aai h1;rwa [VP,VP]at this
  have e1:ej A (k+1)=(lY A (yA (ej A k))).map (·.1):=by
   rw[ej,F7,oW _ _ _ 0 0 (Wy _) (Wy _) (by rw[sd];omega)];rfl
  have e2:ax ws (k+1)=(lY A (yA (ej A k))).map Uc:=by
   rw[<-ly,fQ,IH,II _ _ h1,<-hw,se]
  have hAl:A.length=I.length:=by rw[<-hA,eX]
  refine⟨by rw[e1,e2,Ym,Ym];rfl,λ n t hn ht=>?_⟩;have hpC:=PP (lY A (yA (ej A k))) n;rw[<-e2]at hpC;have hpa:=nd (ax ws (k+1)) n;rw[(iq ws (k+1)).2.1,ZE (Nat.succ_ne_zero k),Xf]at hpa;have hle:=v6 (ax ws (k+1)) n;have hs:n-dg (ax ws (k+1)) n<=I.length:=by
   have c:=(iq ws (k+1)).2.2;have e:n=((ax ws (k+1)).take n).length:=by rw[VW];omega
   have f:=nf ((ax ws (k+1)).take n);have g:(((ax ws (k+1)).take n).filter (λ x=>!x.p)).length<=ws.length:=by
    rw[<-c];exact((List.take_sublist n _).filter _).length_le
   have hwl:ws.length=I.length:=by rw[<-hw,VP,hAl]
   rw[ip];omega
  rw[IJ,e1,<-XZ,C5 t n A _ (by rw[e2,VP]at hn;exact hn),<-hpC,C6 ht _ _ (hB k) (by rw[<-hl];exact hpa),h2 _ _ om ht]
  congr 1
  rw[<-hA];exact C7 ht _ hs

def gU (o:Z4)(j:Nat):UInt8:=o.getD j lh
theorem si (o:Z4)(i:Nat)(v:UInt8)(t:Nat):gU (o.set i v) t=if i=t∧i<o.length then v else gU o t:=by
 unfold gU;rw[VH,VH,W7]
 by_cases h:i=t
 ·subst h
  by_cases q:i<o.length
  ·simp[q]
  ·simp[q]
 ·simp[h]
theorem K6 (a:UInt8)(n:Nat):(WI (a.toNat+n)).toNat=(a.toNat+n)%256:=by simp
structure Pls (I:List Nat)(m:Nat):Prop where
 i:∀s t,s<t->t<I.length->gN I s≠gN I t
 l:∀t,t<I.length->gN I t<m
theorem Pls.ne {I:List Nat}{m s t:Nat}(h:Pls I m)(hs:s<I.length)(ht:t<I.length)(e:s≠t):gN I s≠gN I t:=by
 rcases Nat.lt_or_gt_of_ne e with q|q
 ·exact h.i s t q ht
 ·exact(h.i t s q hs).symm
theorem C9 {I of:List Nat}{o:Z4}(hI:Pls I o.length){t:Nat}(ht:t<I.length):∀k,k<=I.length->(gU (lX I of o k) (gN I t)).toNat=((gU o (gN I t)).toNat+(if t<k then of.getD t lh else 0))%256
 |0,_=>by
  have:=(gU o (gN I t)).toNat_lt;rw[lX,ZE om];omega
 |k+1,hk=>by
  have ih:=C9 hI (of:=of) ht k om;rw[lX,si]
  by_cases e:k=t
  ·subst e
   rw[ZF ⟨rfl,by rw[iz];exact hI.l k ht⟩,ZF om];rw[ZE om]at ih;show(WI ((gU (lX I of o k) (gN I k)).toNat+_)).toNat=_;rw[K6,ih];omega
  ·rw[ZE (λ q=>hI.ne om ht e q.1),ih]
   by_cases q:t<k
   ·rw[ZF q,ZF om]
   ·rw[ZE q,ZE om]
theorem Da {I of:List Nat}{o:Z4}{j:Nat}(h:∀t,t<I.length->gN I t≠j):∀k,k<=I.length->gU (lX I of o k) j=gU o j
 |0,_=>rfl
 |k+1,hk=>by rw[lX,si,ZE (λ q=>h k om q.1),Da h k om]
theorem K7 {X:List Pa}{i:Nat}(h:i<X.length)(t:Nat):sf (X.take (i+1)) t=sf (X.take i) t+(bY X i).2.getD t lh:=by
 rw[Wo h,yD,ek,sg,Xw]
 congr 2;rw[bY,VH,VG h];rfl
theorem Db {X:List Pa}{I:List Nat}{o:Z4}(hI:Pls I o.length){t:Nat}(ht:t<I.length):∀i,i<=X.length->(gU (jb X I I.length o i) (gN I t)).toNat=((gU o (gN I t)).toNat+sf (X.take i) t)%256
 |0,_=>by
  have:=(gU o (gN I t)).toNat_lt;rw[jb,YH,sg];omega
 |i+1,hi=>by
  rw[jb,C9 (by rw[iA];exact hI) ht _ (VT _),ZF ht,Db hI ht i om,K7 om];omega
theorem Dc {X:List Pa}{I:List Nat}{o:Z4}{j:Nat}(h:∀t,t<I.length->gN I t≠j):∀i,gU (jb X I I.length o i) j=gU o j
 |0=>rfl
 |i+1=>by rw[jb,Da h _ (VT _),Dc h i]
theorem K8 (a:UInt8):(a+1).toNat=(a.toNat+1)%256:=by simp
theorem yF {S:List Nat}{o:Z4}(hI:Pls S o.length){t:Nat}(ht:t<S.length):∀j,j<=S.length->(gU (cJ o S j) (gN S t)).toNat=((gU o (gN S t)).toNat+(if t<j then 1 else 0))%256
 |0,_=>by
  have:=(gU o (gN S t)).toNat_lt;rw[oD,ZE om];omega
 |k+1,hk=>by
  have ih:=yF hI ht k om;rw[oE om,si]
  by_cases e:k=t
  ·subst e
   rw[ZF ⟨rfl,by rw[cK];exact hI.l k ht⟩,ZF om];rw[ZE om]at ih;show(gU (cJ o S k) (gN S k)+1).toNat=_;rw[K8,ih];omega
  ·rw[ZE (λ q=>hI.ne om ht e q.1),ih]
   by_cases q:t<k
   ·rw[ZF q,ZF om]
   ·rw[ZE q,ZE om]
theorem yG {S:List Nat}{o:Z4}{j:Nat}(h:∀t,t<S.length->gN S t≠j):∀k,k<=S.length->gU (cJ o S k) j=gU o j
 |0,_=>by rw[oD]
 |k+1,hk=>by rw[oE om,si,ZE (λ q=>h k om q.1),yG h k om]
theorem Dd {ws S:List Nat}(hl:ws.length=S.length){t:Nat}(ht:t<S.length):∀(k n:Nat) (o:Z4),Pls S o.length->LnI ws k n->(gU (xI ws S k n o) (gN S t)).toNat=((gU o (gN S t)).toNat+IJ ws k n t)%256
 |0,n,o,_,_=>by
  have:=(gU o (gN S t)).toNat_lt;rw[xI,IJ];omega
 |k+1,n,o,hI,h=>by
  obtain⟨_,_,h3,h4⟩:=h.next;rw[xI,Dd hl ht k _ _ (by rw[cK];exact hI) h4,yF hI ht _ (by rw[<-hl];exact h3),IJ];omega
theorem De {ws S:List Nat}(hl:ws.length=S.length){j:Nat}(hj:∀t,t<S.length->gN S t≠j):∀(k n:Nat) (o:Z4),LnI ws k n->gU (xI ws S k n o) j=gU o j
 |0,n,o,_=>rfl
 |k+1,n,o,h=>by
  obtain⟨_,_,h3,h4⟩:=h.next;rw[xI,De hl hj k _ _ h4,yG hj _ (by rw[<-hl];exact h3)]
theorem K9 {a b:Z4}(hl:a.length=b.length)(h:∀j,j<a.length->(gU a j).toNat=(gU b j).toNat):a=b:=by
 apply aa5 hl;intro i h1 h2;have:=UInt8.toNat_inj.1 (h i h1);unfold gU at this;rw[VH,VH,VG h1,VG h2]at this;exact this
theorem yH (F:List Nat):Pls (cM F) F.length:=⟨λ s t hst ht=>by
 rw[fk om,fk ht];have:=List.pairwise_iff_getElem.1 (C2 F) s t om ht hst;intro e;rw[e]at this;unfold Lt at this;omega,λ t ht=>by
 rw[fk ht];exact ox _ ((dr F).mem_iff.1 (WE ht))⟩
theorem Df (F I:List Nat):∀k,k<=I.length->(dS F I k).map (·.1)=nc F I k
 |0,_=>by rw[HX];rfl
 |k+1,h=>by
  rw[dS,Wz,Df F I k om,HY om];rfl
theorem Dg {F:List Nat}{q:Nat}(hq:1<=q∧q<=15)(hN:(eZ F F.length).length<=2^q)(h2:2<=(cM F).length){A:List Pa}(hA:dS F (cM F) (cM F).length=A)(hR:∀k,∀x∈ej A k,x.2.length=(cM F).length):jb (ej A (q-1)) (cM F) (cM F).length (V1 F.length 0) (2*(cM F).length-2)=bK F q∧2*(cM F).length-2<=(ej A (q-1)).length:=by
 have hw:A.map (·.1)=nc F (cM F) (cM F).length:=by rw[<-hA];exact Df F _ _ (VT _)
 have hwl:(nc F (cM F) (cM F).length).length=(cM F).length:=kK (VT _);have hp:=(dr F).length_eq;have hI:LnI (nc F (cM F) (cM F).length) q (2*(cM F).length-2):=by
  have:=LnI.first (ws:=nc F (cM F) (cM F).length) hq.1 (by rw[hwl];omega) (by rw[hwl];exact h2)
  rwa [hwl]at this
 obtain⟨r1,r2⟩:=C8 hA hw hR (q-1);have hrl:=congrArg aai r1;rw[VP,VP]at hrl;have hle:=hI.a om;have pl:=yH F;have plr:Pls (cM F) (V1 F.length (0:UInt8)).length:=by rw[Wk];exact pl
 refine⟨?_,by rw[<-hrl];exact hle⟩;rw[ir,rB,ZE om,ZE om];refine K9 (by rw[iA,nh]) λ j hj=>?_
 rcases Classical.em (∃t,t<(cM F).length∧gN (cM F) t=j)with⟨t,ht,e⟩|no
 ·rw[<-e,Db plr ht _ (by rw[<-hrl];exact hle),Dd hwl ht _ _ _ plr hI,r2 _ t hle ht,show q-1+1=q from by omega]
 ·have no:∀t,t<(cM F).length->gN (cM F) t≠j:=λ t ht e=>no ⟨t,ht,e⟩
  rw[Dc no,De hwl no _ _ _ hI]
theorem Dh {F I:List Nat}{w:Nat}(hF:∀t,F.getD t lh<=w):∀k,∀x∈dS F I k,Ee I.length w 1 x
 |0,x,h=>by cases h
 |k+1,x,h=>by
  rw[dS]at h;rcases List.mem_append.1 h with h|h
  ·exact Dh hF k x h
  ·rw[List.mem_singleton.1 h]
   refine⟨yu _ _,hF _,λ t=>?_⟩;show(pv I.length k).getD t lh<=1;unfold pv;rw[VH,W7]
   split
   ·split
    ·exact VT _
    ·exact Wy _
   ·rw[Xd];split
    ·exact Wy _
    ·exact Wy _
theorem Di (F:List Nat)(m:Nat)(hm:m=F.length)(hm2:m<=320)(hF:∀t,F.getD t lh<=1073741824)(n:Nat)(hn:n=(bi F m).length)(hn2:2<=n)(q:Nat)(hq:1<=q∧q<=15)(hN:(eZ F m).length<=2^q):S0 169 [.sl false m 1 (F.map nD),.sl false n 1 ((bi F m).map nD),nD q] [] (.ref 0 0 0 m 1) [⟨(bK F q).map dB, 5,true⟩]:=by
 subst hm;have e:=sc F;have hl:=iy F F.length;rw[e]at hn hl ⊢;have hb:=Iz (Dh (F:=F) (I:=cM F) hF (cM F).length);have hR:∀k,∀x∈ej (dS F (cM F) (cM F).length) k,x.2.length=(cM F).length:=λ k x h=>(hb k x h).1
 obtain⟨r1,r2⟩:=Dg hq hN om rfl hR;obtain⟨b1,b2,b3⟩:=IB (k:=q-1) om (hb (q-1));subst hn;have hc:∀i t,(bY (ej (dS F (cM F) (cM F).length) (q-1)) i).2.getD t lh<=1000000000:=λ i t=>by
  by_cases h:i<(ej (dS F (cM F) (cM F).length) (q-1)).length
  ·have:=(hb _ _ (gb h)).2.2 t
   have p:=IA (k:=q-1) om;omega
  ·rw[r9 h];exact Wy _
 have:=KX F F.length rfl hm2 hF (cM F) (cM F).length rfl om (λ k hk=>(yH F).l k hk) q hq _ rfl (by rw[eX]) hb _ rfl r2 b1 hc
 rwa [r1]at this
theorem La {F:List Nat}{m q:Nat}(hm:m=F.length)(h:(bi F m).length=0):V1 m 0=bK F q:=by
 subst hm;rw[sc]at h;rw[ir,rB,ZF h]
theorem Lb {F:List Nat}{m q:Nat}(hm:m=F.length)(h:(bi F m).length=1):(V1 m 0).set ((bi F m).getD 0 lh) (WI 1)=bK F q:=by
 subst hm;rw[sc]at *;rw[ir,rB,ZE om,ZF h]
theorem Ud {m j:Nat}(h:j<m):ag (bZ [D.v (.int .u8 0)] m) j [D.v (.int .u8 1)]=((V1 m (0:UInt8)).set j (WI 1)).map dB:=by
 have h8:=mp m;rw[V5]at h8;rw[h8,show D.v (.int .u8 1)=D.v (.int .u8 ((1:Nat):Int))from rfl];exact jK (by decide) (by rw[Wk];exact h)
theorem PQ (F:List Nat)(m:Nat)(hm:m=F.length)(hm2:m<=320)(hF:∀t,F.getD t lh<=1073741824)(q:Nat)(hq:1<=q∧q<=15)(hN:(eZ F m).length<=2^q):S0 136 [.sl false m 1 (F.map nD),nD q] [] (.ref 0 0 0 m 1) [⟨(bK F q).map dB, 5,true⟩]:=SpR Tryz.func136 rfl rfl rfl ⟨aI _,trivial⟩ rfl 1000 64 (λ R ok=>.C 3 168 false [] (.fn St (@KV (F) (m) om om))<|.B 5 (2<=(↑(length (bi F m)):Int)) (λ p0 Z9=>.L 4 169 false [] (true&&(true&&(wB (map nD (bi F m)) (length (bi F m)) 1)&&true)) (by unfold wB;(simp;done)) ([V3 false m 1 (map nD F),wD (map nD (bi F m)) (length (bi F m)) 1,zN q]) (by exact(qr (V4 (D.sim.slw rfl (aL (by(simp;done))|>.trans rfl)) (qr trivial)))) (V0 (ao.of Tryz.func169 rfl rfl) (@Di (F) (m) om om om (length (bi F m)) om om (q) om om))<|.Y 1 [80] [80] (VJ 0 0 0 m 1) [VF (map dB (bK F q)) 5 true] ok) (λ p0 Z9=>.K 3 (true&&decide ((m:Int)<=m)&&true&&true&&true&&true&&decide ((↑(TI.bytes zB):Int)*(m:Int)<=140737488355328)) (by(have h9:((zB.bytes:Nat):Int)=1:=rfl;rw[h9];simp;omega))<|.R 5 ((↑(length (bi F m)):Int)==1) (λ p1=>have Z8:=eq_of_beq p1;.K 3 (true&&decide (0<(↑(length (bi F m)):Int))) (by(refine decide_eq_true ?_;(omega)))<|.O 2 ((map nD (bi F m))[0*1]?) (nD (getD (bi F m) 0 lh)) (@CT (bi F m) 0 om)<|.K 1 (true&&decide ((↑(getD (bi F m) 0 lh):Int)<(m:Int))) (by(refine decide_eq_true ?_;have h9:=oU F (i:=m) (k:=0) om;omega))<|.K 1 (true&&VN (0+getD (bi F m) 0 lh*1+1) (length (bZ [bI 0] (m*1)))) (by(have h9:=oU F (i:=m) (k:=0) om;rw[mp,VP,Wk];refine aC rfl (VL ?_);omega))<|.lst (ag (bZ [bI 0] (m*1)) (0+getD (bi F m) 0 lh*1) [bI 1]) (ag (bZ [bI 0] m) (getD (bi F m) 0 lh) [bI 1]) (by(simp;done))<|.U 2 [72] [72] (VJ 0 0 0 m 1) [VF (ag (bZ [bI 0] m) (getD (bi F m) 0 lh) [bI 1]) 5 true] R (ok _ _ wr (by(have h9:=oU F (i:=m) (k:=0) om;exact congrArg (λ z=>[VF z _ true]) (Eq.trans (Ud om) (congrArg (map dB) (Lb hm om))))))) (λ p1=>have Z8:=ap p1;.U 2 [72] [72] (VJ 0 0 0 m 1) [VF (bZ [bI 0] (m*1)) 5 true] R (ok _ _ wr (by(rw[<-La hm om];rw[mp])))))) kr
theorem Ab {p:Prop}(h:p:=by(refine decide_eq_true ?_;have h9:=hl i;have h5:=WB (l.getD i lh).lit;have h2:=bg hT1 hT2 (hl i);have g1:=hz1 (ak T1 (l.getD i lh).long);have g2:=hz2 (ak T2 (l.getD i lh).dist);unfold ci at h9;omega)):p:=h
theorem Dj {p:Prop}(h:p:=by(have h9:=hl i;have h5:=WB (l.getD i lh).lit;have h2:=bg hT1 hT2 (hl i);have g1:=hz1 (ak T1 (l.getD i lh).long);have g2:=hz2 (ak T2 (l.getD i lh).dist);unfold ci at h9;omega)):p:=h
theorem PR {p:Prop}(h:p:=by(have h8:=cT 286 (ce T1 l i++[256]);have h9:=hl i;have h5:=WB (l.getD i lh).lit;have h2:=bg hT1 hT2 (hl i);have g1:=hz1 (ak T1 (l.getD i lh).long);have g2:=hz2 (ak T2 (l.getD i lh).dist);unfold ci at h9;simp only[VP,h8,V8,Wf];refine VL ?_;omega)):p:=h
theorem PS (k:Nat)(S R:List Nat)(h:∀i,S.count i=R.count i):aQ k S=aQ k R:=by
 rw[lD,lD];exact List.map_congr_left λ i _=>h i
theorem PT (k:Nat)(S R:List Nat)(x:Nat):aQ k (S++[x]++R)=aQ k (S++R++[x]):=PS _ _ _ λ i=>by
 rw[Yn,Yn,Yn,Yn];omega
theorem PU {k:Nat}{S R:List Nat}{i a b:Nat}{x:Int}(h:i<k)(ha:a=i)(hb:b=i)(hx:x=(((aQ k (S++R)).getD b lh:Nat):Int)+1):ag ((aQ k (S++R)).map nD) a [D.v (.int .i64 x)]=(aQ k (S++[i]++R)).map nD:=by
 rw[PT];exact oJ h ha hb hx
theorem Dk {k:Nat}{S R:List Nat}{i:Nat}(h:i<k)(hl:(S++R).length<=1000000):ag ((aQ k (S++R)).map nD) i [D.v (.int .i64 (IntKind.i64.wrap ((((aQ k (S++R)).getD i lh:Nat):Int)+1)))]=(aQ k (S++[i]++R)).map nD:=by
 have:=dK k (S++R) i;rw[F3 om];exact PU h rfl rfl rfl
theorem F9 {k:Nat}{S:List Nat}{i:Nat}(h:i<k)(hl:S.length<=1000000):ag ((aQ k S).map nD) i [D.v (.int .i64 (IntKind.i64.wrap ((((aQ k S).getD i lh:Nat):Int)+1)))]=(aQ k (S++[i])).map nD:=by
 have:=dK k S i;rw[F3 om];exact oJ h rfl rfl rfl
theorem IK (S:List Nat)(x:Nat)(h:x<286):((aQ 286 S).map nD)[0+x*1]? =some (nD ((aQ 286 S).getD x lh)):=yv (by rw[cT];exact h)
theorem PV (S:List Nat)(x:Nat)(h:x<30):((aQ 30 S).map nD)[0+x*1]? =some (nD ((aQ 30 S).getD x lh)):=yv (by rw[cT];exact h)
theorem Lc (l:List Tn)(k:Nat)(hk:k=l.length)(hk2:k<=65535)(hl:∀i,ci (l.getD i lh))(T1 T2:List Sy)(hT1:T1=aB)(hT2:T2=aM)(hl1:T1.length=29)(hl2:T2.length=30)(hz1:bk T1)(hz2:bk T2):S0 134 [.sl false k 3 (l.flatMap bb)] [] (.tup [.ref 0 0 0 286 1,.ref 1 1 0 30 1]) [⟨(aQ 286 (ce T1 l k++[256])).map nD, 3,true⟩,⟨(aQ 30 (du T2 l k)).map nD, 3,true⟩]:=SpR Tryz.func134 rfl rfl rfl ⟨qY _ (λ _=>rfl) _,qY _ (λ _=>rfl) _,trivial⟩ rfl 1000 64 (λ R ok=>.M 15 16 16 (VF [zI 0,zI 0,zI 0,zI 0,zI 0,zI 0,zI 0,zI 0,zI 0,zI 0,zI 0,zI 0,zI 0,zI 0,zI 0,zI 0,zI 0,zI 0,zI 0,zI 0,zI 0,zI 0,zI 0,zI 0,zI 0,zI 0,zI 0,zI 0,zI 0,zI 0,zI 0,zI 0,zI 0,zI 0,zI 0,zI 0,zI 0,zI 0,zI 0,zI 0,zI 0,zI 0,zI 0,zI 0,zI 0,zI 0,zI 0,zI 0,zI 0,zI 0,zI 0,zI 0,zI 0,zI 0,zI 0,zI 0,zI 0,zI 0,zI 0,zI 0,zI 0,zI 0,zI 0,zI 0,zI 0,zI 0,zI 0,zI 0,zI 0,zI 0,zI 0,zI 0,zI 0,zI 0,zI 0,zI 0,zI 0,zI 0,zI 0,zI 0,zI 0,zI 0,zI 0,zI 0,zI 0,zI 0,zI 0,zI 0,zI 0,zI 0,zI 0,zI 0,zI 0,zI 0,zI 0,zI 0,zI 0,zI 0,zI 0,zI 0,zI 0,zI 0,zI 0,zI 0,zI 0,zI 0,zI 0,zI 0,zI 0,zI 0,zI 0,zI 0,zI 0,zI 0,zI 0,zI 0,zI 0,zI 0,zI 0,zI 0,zI 0,zI 0,zI 0,zI 0,zI 0,zI 0,zI 0,zI 0,zI 0,zI 0,zI 0,zI 0,zI 0,zI 0,zI 0,zI 0,zI 0,zI 0,zI 0,zI 0,zI 0,zI 0,zI 0,zI 0,zI 0,zI 0,zI 0,zI 0,zI 0,zI 0,zI 0,zI 0,zI 0,zI 0,zI 0,zI 0,zI 0,zI 0,zI 0,zI 0,zI 0,zI 0,zI 0,zI 0,zI 0,zI 0,zI 0,zI 0,zI 0,zI 0,zI 0,zI 0,zI 0,zI 0,zI 0,zI 0,zI 0,zI 0,zI 0,zI 0,zI 0,zI 0,zI 0,zI 0,zI 0,zI 0,zI 0,zI 0,zI 0,zI 0,zI 0,zI 0,zI 0,zI 0,zI 0,zI 0,zI 0,zI 0,zI 0,zI 0,zI 0,zI 0,zI 0,zI 0,zI 0,zI 0,zI 0,zI 0,zI 0,zI 0,zI 0,zI 0,zI 0,zI 0,zI 0,zI 0,zI 0,zI 0,zI 0,zI 0,zI 0,zI 0,zI 0,zI 0,zI 0,zI 0,zI 0,zI 0,zI 0,zI 0,zI 0,zI 0,zI 0,zI 0,zI 0,zI 0,zI 0,zI 0,zI 0,zI 0,zI 0,zI 0,zI 0,zI 0,zI 0,zI 0,zI 0,zI 0,zI 0,zI 0,zI 0,zI 0,zI 0,zI 0,zI 0,zI 0,zI 1,zI 0,zI 0,zI 0,zI 0,zI 0,zI 0,zI 0,zI 0,zI 0,zI 0,zI 0,zI 0,zI 0,zI 0,zI 0,zI 0,zI 0,zI 0,zI 0,zI 0,zI 0,zI 0,zI 0,zI 0,zI 0,zI 0,zI 0,zI 0,zI 0] 3 true) (VF (map nD (aQ 286 (ce T1 l 0++[256]))) 3 true) (by(rw[OT,lD];rfl))<|.blk 32 32 (VF (replicate 30 (zI 0)) 3 true) (VF (map nD (aQ 30 (du T2 l 0))) 3 true) (by(rw[Ki,lD];rfl))<|Hn.inl T_ok ah false 77 0 (aq Tryz.prog 134 0) (λ(x:(i:Nat)×'(hi:i<=k)×'Unit)=>match x with|⟨i,hi,_⟩=>VZ [(0,V3 false k 3 (flatMap bb l)),(4,VJ 0 0 0 286 1),(5,VJ 8 8 0 30 1),(6,nD i)] [⟨0,0,16,16,.b ⟨(aQ 286 (ce T1 l i++[256])).map nD,3,true⟩⟩,⟨8,8,32,32,.b ⟨(aQ 30 (du T2 l i)).map nD,3,true⟩⟩] 16) (λ(x:(i:Nat)×'(hi:i<=k)×'Unit)=>match x with|⟨i,hi,_⟩=>k-i) [⟨Unit,.exit 0,λ x=>match x with|()=>VZ [(0,V3 false k 3 (flatMap bb l)),(4,VJ 0 0 0 286 1),(5,VJ 8 8 0 30 1)] [⟨0,0,16,16,.b ⟨(aQ 286 (ce T1 l k++[256])).map nD,3,true⟩⟩,⟨8,8,32,32,.b ⟨(aQ 30 (du T2 l k)).map nD,3,true⟩⟩] 16⟩] 1000 64 (fun|⟨i,hi,_⟩,Q,ZB,ZD=>.B 5 ((i:Int)<k) (λ p0 Z9=>.K 3 (true&&decide ((i:Int)<k)&&true) JO<|.O 5 ((flatMap bb l)[i*3+2]?) (zN (Tn.long (getD l i lh))) (cX (k:=3) (i:=i) (j:=2) (λ _=>rfl) om om rfl)<|.R 2 ((↑(Tn.long (getD l i lh)):Int)==0) (λ p1=>have Z8:=eq_of_beq p1;.K 4 (true&&decide ((i:Int)<k)&&true) JO<|.O 5 ((flatMap bb l)[i*3+0]?) (da (VE (Tn.lit (getD l i lh)))) (cX (k:=3) (i:=i) (j:=0) (λ _=>rfl) om om rfl)<|.K 1 (true&&decide ((↑(VE (Tn.lit (getD l i lh))):Int)<(↑286:Int))) Ab<|.O 2 ((map nD (aQ 286 (ce T1 l i++[256])))[0+VE (Tn.lit (getD l i lh))*1]?) (nD (getD (aQ 286 (ce T1 l i++[256])) (VE (Tn.lit (getD l i lh))) lh)) (@IK (ce T1 l i++[256]) (l.getD i lh).lit.toNat Dj)<|.O 2 (ay .i64 ((↑(getD (aQ 286 (ce T1 l i++[256])) (VE (Tn.lit (getD l i lh))) lh):Int)+1)) (zI (VU VV ((↑(getD (aQ 286 (ce T1 l i++[256])) (VE (Tn.lit (getD l i lh))) lh):Int)+1))) (aE _ _)<|.K 1 (true&&decide ((↑(VE (Tn.lit (getD l i lh))):Int)<(↑286:Int))) Ab<|.K 1 (true&&VN (0+VE (Tn.lit (getD l i lh))*1+1) (length (map nD (aQ 286 (ce T1 l i++[256]))))) PR<|.lst (ag (map nD (aQ 286 (ce T1 l i++[256]))) (0+VE (Tn.lit (getD l i lh))*1) [zI (VU VV ((↑(getD (aQ 286 (ce T1 l i++[256])) (VE (Tn.lit (getD l i lh))) lh):Int)+1))]) (ag (map nD (aQ 286 (ce T1 l i++[256]))) (VE (Tn.lit (getD l i lh))) [zI (VU VV ((↑(getD (aQ 286 (ce T1 l i++[256])) (VE (Tn.lit (getD l i lh))) lh):Int)+1))]) (by(simp;done))<|.W 3 (i+1)<|.V 1 6 (zI (i+1)) (zN (i+1)) (by(refine aG ?_;(omega)))<|.blk 0 0 (VF (ag (map nD (aQ 286 (ce T1 l i++[256]))) (VE (Tn.lit (getD l i lh))) [zI (VU VV ((↑(getD (aQ 286 (ce T1 l i++[256])) (VE (Tn.lit (getD l i lh))) lh):Int)+1))]) 3 true) (VF (map nD (aQ 286 (ce T1 l (i+1)++[256]))) 3 true) (by(rw[(xV (T1:=T1) (T2:=T2) om om).1];refine aw (Dk (by have h9:=hl i;have h5:=WB (l.getD i lh).lit;have h2:=bg hT1 hT2 (hl i);have g1:=hz1 (ak T1 (l.getD i lh).long);have g2:=hz2 (ak T2 (l.getD i lh).dist);unfold ci at h9;omega) (by have h4:=lE (T1:=T1) (l:=l) (i:=i);rw[VI];simp only[Wv];omega))))<|.blk 8 8 (VF (map nD (aQ 30 (du T2 l i))) 3 true) (VF (map nD (aQ 30 (du T2 l (i+1)))) 3 true) (by(rw[(xV (T1:=T1) (T2:=T2) om om).2]))<|Hn.next ZB ⟨(i+1),om,⟨⟩⟩ (by show k-(i+1)<k-i;clear ZB ZD;omega) [(0,0),(8,8)] ro) (λ p1=>have Z8:=ap p1;.K 3 (true&&decide ((i:Int)<k)&&true) JO<|.O 5 ((flatMap bb l)[i*3+2]?) (zN (Tn.long (getD l i lh))) (cX (k:=3) (i:=i) (j:=2) (λ _=>rfl) om om rfl)<|.C 1 132 false [] (.fn Nb (@yq (T1) aO om om (Tn.long (getD l i lh)) Dj))<|.K 16 (true&&decide ((i:Int)<k)&&true) JO<|.O 5 ((flatMap bb l)[i*3+1]?) (zN (Tn.dist (getD l i lh))) (cX (k:=3) (i:=i) (j:=1) (λ _=>rfl) om om rfl)<|.C 1 133 false [] (.fn Nc (@CL (T2) aO om om (Tn.dist (getD l i lh)) Dj))<|.K 16 (true&&decide ((↑(257+ak T1 (Tn.long (getD l i lh))):Int)<(↑286:Int))) Ab<|.O 2 ((map nD (aQ 286 (ce T1 l i++[256])))[0+(257+ak T1 (Tn.long (getD l i lh)))*1]?) (nD (getD (aQ 286 (ce T1 l i++[256])) (257+ak T1 (Tn.long (getD l i lh))) lh)) (@IK (ce T1 l i++[256]) (257+ak T1 (l.getD i lh).long) Dj)<|.O 2 (ay .i64 ((↑(getD (aQ 286 (ce T1 l i++[256])) (257+ak T1 (Tn.long (getD l i lh))) lh):Int)+1)) (zI (VU VV ((↑(getD (aQ 286 (ce T1 l i++[256])) (257+ak T1 (Tn.long (getD l i lh))) lh):Int)+1))) (aE _ _)<|.K 1 (true&&decide ((↑(257+ak T1 (Tn.long (getD l i lh))):Int)<(↑286:Int))) Ab<|.K 1 (true&&VN (0+(257+ak T1 (Tn.long (getD l i lh)))*1+1) (length (map nD (aQ 286 (ce T1 l i++[256]))))) PR<|.lst (ag (map nD (aQ 286 (ce T1 l i++[256]))) (0+(257+ak T1 (Tn.long (getD l i lh)))*1) [zI (VU VV ((↑(getD (aQ 286 (ce T1 l i++[256])) (257+ak T1 (Tn.long (getD l i lh))) lh):Int)+1))]) (ag (map nD (aQ 286 (ce T1 l i++[256]))) (257+ak T1 (Tn.long (getD l i lh))) [zI (VU VV ((↑(getD (aQ 286 (ce T1 l i++[256])) (257+ak T1 (Tn.long (getD l i lh))) lh):Int)+1))]) (by(simp;done))<|.K 3 (true&&decide ((↑(ak T2 (Tn.dist (getD l i lh))):Int)<(↑30:Int))) Ab<|.O 2 ((map nD (aQ 30 (du T2 l i)))[0+ak T2 (Tn.dist (getD l i lh))*1]?) (nD (getD (aQ 30 (du T2 l i)) (ak T2 (Tn.dist (getD l i lh))) lh)) (@PV (du T2 l i) (ak T2 (l.getD i lh).dist) Dj)<|.O 2 (ay .i64 ((↑(getD (aQ 30 (du T2 l i)) (ak T2 (Tn.dist (getD l i lh))) lh):Int)+1)) (zI (VU VV ((↑(getD (aQ 30 (du T2 l i)) (ak T2 (Tn.dist (getD l i lh))) lh):Int)+1))) (aE _ _)<|.K 1 (true&&decide ((↑(ak T2 (Tn.dist (getD l i lh))):Int)<(↑30:Int))) Ab<|.K 1 (true&&VN (0+ak T2 (Tn.dist (getD l i lh))*1+1) (length (map nD (aQ 30 (du T2 l i))))) (by(have h8:=cT 30 (du T2 l i);have h9:=hl i;have h5:=WB (l.getD i lh).lit;have h2:=bg hT1 hT2 (hl i);have g1:=hz1 (ak T1 (l.getD i lh).long);have g2:=hz2 (ak T2 (l.getD i lh).dist);unfold ci at h9;simp only[VP,h8,V8,Wf];refine VL ?_;omega))<|.lst (ag (map nD (aQ 30 (du T2 l i))) (0+ak T2 (Tn.dist (getD l i lh))*1) [zI (VU VV ((↑(getD (aQ 30 (du T2 l i)) (ak T2 (Tn.dist (getD l i lh))) lh):Int)+1))]) (ag (map nD (aQ 30 (du T2 l i))) (ak T2 (Tn.dist (getD l i lh))) [zI (VU VV ((↑(getD (aQ 30 (du T2 l i)) (ak T2 (Tn.dist (getD l i lh))) lh):Int)+1))]) (by(simp;done))<|.W 3 (i+1)<|.V 1 6 (zI (i+1)) (zN (i+1)) (by(refine aG ?_;(omega)))<|.blk 0 0 (VF (ag (map nD (aQ 286 (ce T1 l i++[256]))) (257+ak T1 (Tn.long (getD l i lh))) [zI (VU VV ((↑(getD (aQ 286 (ce T1 l i++[256])) (257+ak T1 (Tn.long (getD l i lh))) lh):Int)+1))]) 3 true) (VF (map nD (aQ 286 (ce T1 l (i+1)++[256]))) 3 true) (by(rw[(xW (T1:=T1) (T2:=T2) om om).1];refine aw (Dk (by have h9:=hl i;have h5:=WB (l.getD i lh).lit;have h2:=bg hT1 hT2 (hl i);have g1:=hz1 (ak T1 (l.getD i lh).long);have g2:=hz2 (ak T2 (l.getD i lh).dist);unfold ci at h9;omega) (by have h4:=lE (T1:=T1) (l:=l) (i:=i);rw[VI];simp only[Wv];omega))))<|.blk 8 8 (VF (ag (map nD (aQ 30 (du T2 l i))) (ak T2 (Tn.dist (getD l i lh))) [zI (VU VV ((↑(getD (aQ 30 (du T2 l i)) (ak T2 (Tn.dist (getD l i lh))) lh):Int)+1))]) 3 true) (VF (map nD (aQ 30 (du T2 l (i+1)))) 3 true) (by(rw[(xW (T1:=T1) (T2:=T2) om om).2];refine aw (F9 (by have h9:=hl i;have h5:=WB (l.getD i lh).lit;have h2:=bg hT1 hT2 (hl i);have g1:=hz1 (ak T1 (l.getD i lh).long);have g2:=hz2 (ak T2 (l.getD i lh).dist);unfold ci at h9;omega) (by have h3:=rH (T2:=T2) (l:=l) i om;omega))))<|Hn.next ZB ⟨(i+1),om,⟨⟩⟩ (by show k-(i+1)<k-i;clear ZB ZD;omega) [(0,0),(8,8)] ro)) (λ p0 Z9=>.blk 0 0 (VF (map nD (aQ 286 (ce T1 l i++[256]))) 3 true) (VF (map nD (aQ 286 (ce T1 l k++[256]))) 3 true) (by(rw[show i=k from by omega]))<|.blk 8 8 (VF (map nD (aQ 30 (du T2 l i))) 3 true) (VF (map nD (aQ 30 (du T2 l k))) 3 true) (by(rw[show i=k from by omega]))<|Hn.last ZD 0 (():Unit) rfl [(0,0),(8,8)] ro)) (fun|⟨i,hi,_⟩=>by kernel_rfl) ⟨(0),om,⟨⟩⟩ [(16,16),(32,32)] ro (bM (fun|()=>.Y 4 [0,8] [0,8] (WL [VJ 0 0 0 286 1,VJ 1 1 0 30 1]) [VF (map nD (aQ 286 (ce T1 l k++[256]))) 3 true,VF (map nD (aQ 30 (du T2 l k))) 3 true] ok))) kr
theorem Ga {p:Prop}(h:p:=by show 288-(i+1)<288-i;clear ZB ZD;omega):p:=h
theorem PW {p:Prop}(h:p:=by(refine aw (Lf (v:=8) om ?_);have h9:=sj hL i om;rw[ZE om,ZE om]at h9;exact h9)):p:=h
def gW (L:Z4)(i:Nat):Z4:=lk L (L.take i++V1 (L.length-i) 0)
theorem oX (L:Z4)(i:Nat):gW L i=L.take i++V1 (L.length-i) 0:=aP _ _
theorem kX (L:Z4){i:Nat}(h:i<=L.length):(gW L i).length=L.length:=by
 rw[oX,VI,VW,Wk];omega
theorem IL (L:Z4):gW L 0=V1 L.length 0:=by rw[oX];rfl
theorem IM (L:Z4){i:Nat}(h:i=L.length):gW L i=L:=by
 rw[oX,h,W5,Xh];exact WN _
theorem PX (L:Z4){i:Nat}(h:i<L.length):(gW L i).set i (L.getD i lh)=gW L (i+1):=by
 rw[oX,oX,show L.length-i=(L.length-(i+1))+1 from by omega,Zu,Yy _ _ (by rw[VW];omega),VW,show i-min i L.length=0 from by omega,aaL,Wo h,Wc,VH,VG h];rfl
theorem Lf {L:Z4}{i v:Nat}(h:i<L.length)(hv:(L.getD i lh).toNat=v):ag ((gW L i).map dB) i [D.v (.int .u8 ((v:Nat):Int))]=(gW L (i+1)).map dB:=by
 subst hv;rw[jK (WB _) (by rw[kX L om];exact h),UInt8.ofNat_toNat,PX L h]
theorem PY {M:Z4}{i a b:Nat}(ha:a<256)(hb:b<256)(h:i<M.length):ag (ag (M.map dB) i [D.v (.int .u8 ((a:Nat):Int))]) i [D.v (.int .u8 ((b:Nat):Int))]=ag (M.map dB) i [D.v (.int .u8 ((b:Nat):Int))]:=by
 rw[jK ha h,jK hb (by rw[Xz];exact h),jK hb h,List.set_set]
theorem PZ {L:Z4}{i a v:Nat}(ha:a<256)(h:i<L.length)(hv:(L.getD i lh).toNat=v):ag (ag ((gW L i).map dB) i [D.v (.int .u8 ((a:Nat):Int))]) i [D.v (.int .u8 ((v:Nat):Int))]=(gW L (i+1)).map dB:=by
 have:=WB (L.getD i lh);rw[PY ha om (by rw[kX L om];exact h),Lf h hv]
theorem sj {L:Z4}(hL:L=cn):∀i,i<288->(L.getD i lh).toNat=if 144<=i∧i<=255 then 9 else if 256<=i∧i<=279 then 7 else 8:=by
 subst hL;have h:∀i:Fin 288,(cn.getD i.1 lh).toNat=if 144<=i.1∧i.1<=255 then 9 else if 256<=i.1∧i.1<=279 then 7 else 8:=by decide+kernel
 exact λ i hi=>h ⟨i,hi⟩
theorem Lg {L:Z4}(hL:L=dV):∀i,i<32->(L.getD i lh).toNat=5:=by
 subst hL;have h:∀i:Fin 32,(dV.getD i.1 lh).toNat=5:=by decide+kernel
 exact λ i hi=>h ⟨i,hi⟩
theorem P0 {L:Z4}{i x m:Nat}(hi:i<=L.length)(hx:x<=L.length)(h:x=m):(true&&m.ble ((gW L i).map dB).length)=true:=by
 rw[VP,kX L hi,V8];exact VL om
theorem IN {L:Z4}{i o m a:Nat}(hi:i<=L.length)(ho:o<L.length)(hm:m<=L.length)(ha:a<256):(true&&m.ble (ag ((gW L i).map dB) o [D.v (.int .u8 ((a:Nat):Int))]).length)=true:=by
 rw[jK ha (by rw[kX L hi];exact ho),VP,Xz,kX L hi,V8];exact VL hm
theorem Dl (L:Z4)(hL:L=cn)(hLl:L.length=288):S0 100 [] [] (.ref 0 0 0 288 1) [⟨L.map dB, 5,true⟩]:=SpR Tryz.func100 rfl rfl rfl ⟨aI _,trivial⟩ rfl 1000 64 (λ R ok=>.M 5 8 8 (VF (replicate 288 (bI 0)) 5 true) (VF (map dB (gW L 0)) 5 true) (by(rw[IL,hLl];rfl))<|Hn.inl T_ok ah false 30 0 (aq Tryz.prog 100 0) (λ(x:(i:Nat)×'(hi:i<=288)×'Unit)=>match x with|⟨i,hi,_⟩=>VZ [(1,VJ 0 0 0 288 1),(2,nD i)] [⟨0,0,8,8,.b ⟨(gW L i).map dB,5,true⟩⟩] 8) (λ(x:(i:Nat)×'(hi:i<=288)×'Unit)=>match x with|⟨i,hi,_⟩=>288-i) [⟨Unit,.exit 0,λ x=>match x with|()=>VZ [(1,VJ 0 0 0 288 1)] [⟨0,0,8,8,.b ⟨L.map dB,5,true⟩⟩] 8⟩] 1000 64 (fun|⟨i,hi,_⟩,Q,ZB,ZD=>.B 3 ((i:Int)<288) (λ p0 Z9=>.K 3 (true&&decide ((i:Int)<(↑288:Int))) aO<|.K 1 (true&&VN (0+i*1+1) (length (map dB (gW L i)))) (by(exact P0 (x:=i+1) om om om))<|.lst (ag (map dB (gW L i)) (0+i*1) [bI 8]) (ag (map dB (gW L i)) i [bI 8]) (by(simp;done))<|.B 5 (144<=(i:Int)) (λ p1 Z8=>.B 4 ((i:Int)<=255) (λ p2 Z7=>.K 3 (true&&decide ((i:Int)<(↑288:Int))) aO<|.K 1 (true&&VN (0+i*1+1) (length (ag (map dB (gW L i)) i [bI 8]))) (by(exact IN (a:=8) om om om (by decide)))<|.lst (ag (ag (map dB (gW L i)) i [bI 8]) (0+i*1) [bI 9]) (ag (ag (map dB (gW L i)) i [bI 8]) i [bI 9]) (by(simp;done))<|.F 5 (decide (256<=(i:Int))) ru<|.W 7 (i+1)<|.V 1 2 (zI (i+1)) (zN (i+1)) D9<|.blk 0 0 (VF (ag (ag (map dB (gW L i)) i [bI 8]) i [bI 9]) 5 true) (VF (map dB (gW L (i+1))) 5 true) (by(refine aw (PZ (a:=8) (v:=9) (by decide) om ?_);have h9:=sj hL i om;rw[ZF om]at h9;exact h9))<|Hn.next ZB ⟨(i+1),om,⟨⟩⟩ Ga [(0,0)] ro) (λ p2 Z7=>.E 5 (decide (256<=(i:Int))) (by(refine decide_eq_true ?_;(omega)))<|.B 4 ((i:Int)<=279) (λ p3 Z6=>.K 3 (true&&decide ((i:Int)<(↑288:Int))) aO<|.K 1 (true&&VN (0+i*1+1) (length (ag (map dB (gW L i)) i [bI 8]))) (by(exact IN (a:=8) om om om (by decide)))<|.lst (ag (ag (map dB (gW L i)) i [bI 8]) (0+i*1) [bI 7]) (ag (ag (map dB (gW L i)) i [bI 8]) i [bI 7]) (by(simp;done))<|.W 3 (i+1)<|.V 1 2 (zI (i+1)) (zN (i+1)) D9<|.blk 0 0 (VF (ag (ag (map dB (gW L i)) i [bI 8]) i [bI 7]) 5 true) (VF (map dB (gW L (i+1))) 5 true) (by(refine aw (PZ (a:=8) (v:=7) (by decide) om ?_);have h9:=sj hL i om;rw[ZE om,ZF om]at h9;exact h9))<|Hn.next ZB ⟨(i+1),om,⟨⟩⟩ Ga [(0,0)] ro) (λ p3 Z6=>.W 3 (i+1)<|.V 1 2 (zI (i+1)) (zN (i+1)) D9<|.blk 0 0 (VF (ag (map dB (gW L i)) i [bI 8]) 5 true) (VF (map dB (gW L (i+1))) 5 true) PW<|Hn.next ZB ⟨(i+1),om,⟨⟩⟩ Ga [(0,0)] ro))) (λ p1 Z8=>.F 9 (decide (256<=(i:Int))) ru<|.W 7 (i+1)<|.V 1 2 (zI (i+1)) (zN (i+1)) D9<|.blk 0 0 (VF (ag (map dB (gW L i)) i [bI 8]) 5 true) (VF (map dB (gW L (i+1))) 5 true) PW<|Hn.next ZB ⟨(i+1),om,⟨⟩⟩ Ga [(0,0)] ro)) (λ p0 Z9=>.blk 0 0 (VF (map dB (gW L i)) 5 true) (VF (map dB L) 5 true) (by(rw[IM L om]))<|Hn.last ZD 0 (():Unit) rfl [(0,0)] ro)) (fun|⟨i,hi,_⟩=>by kernel_rfl) ⟨(0),om,⟨⟩⟩ [(8,8)] ro (bM (fun|()=>.Y 2 [0] [0] (VJ 0 0 0 288 1) [VF (map dB L) 5 true] ok))) kr
theorem IP (L:Z4)(hL:L=dV)(hLl:L.length=32):S0 101 [] [] (.ref 0 0 0 32 1) [⟨L.map dB, 5,true⟩]:=SpR Tryz.func101 rfl rfl rfl ⟨aI _,trivial⟩ rfl 1000 64 (λ R ok=>.M 5 8 8 (VF (replicate 32 (bI 0)) 5 true) (VF (map dB (gW L 0)) 5 true) (by(rw[IL,hLl];rfl))<|Hn.inl T_ok ah false 12 0 (aq Tryz.prog 101 0) (λ(x:(i:Nat)×'(hi:i<=32)×'Unit)=>match x with|⟨i,hi,_⟩=>VZ [(1,VJ 0 0 0 32 1),(2,nD i)] [⟨0,0,8,8,.b ⟨(gW L i).map dB,5,true⟩⟩] 8) (λ(x:(i:Nat)×'(hi:i<=32)×'Unit)=>match x with|⟨i,hi,_⟩=>32-i) [⟨Unit,.exit 0,λ x=>match x with|()=>VZ [(1,VJ 0 0 0 32 1)] [⟨0,0,8,8,.b ⟨L.map dB,5,true⟩⟩] 8⟩] 1000 64 (fun|⟨i,hi,_⟩,Q,ZB,ZD=>.B 3 ((i:Int)<32) (λ p0 Z9=>.K 3 (true&&decide ((i:Int)<(↑32:Int))) aO<|.K 1 (true&&VN (0+i*1+1) (length (map dB (gW L i)))) (by(exact P0 (x:=i+1) om om om))<|.lst (ag (map dB (gW L i)) (0+i*1) [bI 5]) (ag (map dB (gW L i)) i [bI 5]) (by(simp;done))<|.W 3 (i+1)<|.V 1 2 (zI (i+1)) (zN (i+1)) D9<|.blk 0 0 (VF (ag (map dB (gW L i)) i [bI 5]) 5 true) (VF (map dB (gW L (i+1))) 5 true) (by(exact aw (Lf (v:=5) om (Lg hL i om))))<|Hn.next ZB ⟨(i+1),om,⟨⟩⟩ (by show 32-(i+1)<32-i;clear ZB ZD;omega) [(0,0)] ro) (λ p0 Z9=>.blk 0 0 (VF (map dB (gW L i)) 5 true) (VF (map dB L) 5 true) (by(rw[IM L om]))<|Hn.last ZD 0 (():Unit) rfl [(0,0)] ro)) (fun|⟨i,hi,_⟩=>by kernel_rfl) ⟨(0),om,⟨⟩⟩ [(8,8)] ro (bM (fun|()=>.Y 2 [0] [0] (VJ 0 0 0 32 1) [VF (map dB L) 5 true] ok))) kr
theorem Lh:S0 138 [] [] (.agg ([16,17,18,0,8,7,9,6,10,5,11,4,12,3,13,2,14,1,15].map nD)) []:=SpR Tryz.func138 rfl rfl rfl trivial rfl 1000 64 (λ R ok=>.U 10 [] [] (Wu [zI 16,zI 17,zI 18,zI 0,zI 8,zI 7,zI 9,zI 6,zI 10,zI 5,zI 11,zI 4,zI 12,zI 3,zI 13,zI 2,zI 14,zI 1,zI 15]) [] R (ok _ _ (by(simp;done)) wr)) kr
theorem Vv (s:Nat)(h:s<=18):S0 139 [nD s] [] (.tup [nD (rb s),iD 0]) []:=SpR Tryz.func139 rfl rfl rfl trivial rfl 1000 64 (λ R ok=>.F 12 (decide (18<(s:Int))) ru<|.R 3 ((s:Int)==16) (λ p0=>have Z9:=eq_of_beq p0;.U 2 [] [] (WL [zI 2,zI 0]) [] R (ok _ _ (by((have hs:s=16:=by omega);subst hs;rfl)) wr)) (λ p0=>have Z9:=ap p0;.R 3 ((s:Int)==17) (λ p1=>have Z8:=eq_of_beq p1;.U 2 [] [] (WL [zI 3,zI 0]) [] R (ok _ _ (by((have hs:s=17:=by omega);subst hs;rfl)) wr)) (λ p1=>have Z8:=ap p1;.R 3 ((s:Int)==18) (λ p2=>have Z7:=eq_of_beq p2;.U 2 [] [] (WL [zI 7,zI 0]) [] R (ok _ _ (by((have hs:s=18:=by omega);subst hs;rfl)) wr)) (λ p2=>have Z7:=ap p2;.U 2 [] [] (WL [zI 0,zI 0]) [] R (ok _ _ (by(rw[show rb s=0 from by unfold rb;rw[ZE om,ZE om,ZE om]];rfl)) wr))))) kr
theorem Ue (l:Z4)(m:Nat):jX l m m=m:=by
 cases m with
 |zero=>rfl
 |succ m=>rw[jX,ZE om]
theorem P1 {l:Z4}{m i u:Nat}(h:m<=i)(hu:u=i)(h2:(((l.getD u lh).toNat:Nat):Int)=0):jX l m (i+1)=jX l m i:=by
 subst hu;rw[jX,ZF ⟨by omega,Be h2⟩]
theorem P2 {l:Z4}{m i u:Nat}(hu:u=i)(h2:¬(((l.getD u lh).toNat:Nat):Int)=0):jX l m (i+1)=i+1:=by
 subst hu;rw[jX,ZE];intro q;exact h2 (by rw[q.2];rfl)
theorem Dm {l:Z4}{m:Nat}:∀i,m<=i->m<=jX l m i∧jX l m i<=i
 |0,h=>by rw[jX];omega
 |i+1,h=>by
  rw[jX];split
  ·have:=Dm (l:=l) (m:=m) i om;omega
  ·omega
theorem Uf (l:Z4)(L:Nat)(hL:L=l.length)(hL2:L<=320)(m:Nat)(hm:m<=L)(T:Nat)(hT:gS l m=T):S1 135 [.ref 0 0 0 L 1,nD m] [⟨l.map dB, 5,true⟩] (.ref 0 0 0 T 1) [⟨l.map dB, 5,true⟩]:=SpR Tryz.func135 rfl rfl rfl ⟨bu _ (λ _=>rfl) _,trivial⟩ rfl 1000 64 (λ R ok=>.V 5 5 (zN m) (zN (jX l m m)) (by(rw[Ue]))<|Hn.inl T_ok ah false 25 1 (aq Tryz.prog 135 0) (λ(x:(i:Nat)×'(hi:m<=i∧i<=L)×'Unit)=>match x with|⟨i,hi,_⟩=>VZ [(0,VJ 0 0 0 L 1),(5,nD (jX l m i)),(6,nD i)] [⟨0,0,0,0,.b ⟨map dB l,5,true⟩⟩] 16) (λ(x:(i:Nat)×'(hi:m<=i∧i<=L)×'Unit)=>match x with|⟨i,hi,_⟩=>L-i) [⟨Unit,.exit 0,λ x=>match x with|()=>VZ [(0,VJ 0 0 0 L 1),(5,nD T)] [⟨0,0,0,0,.b ⟨map dB l,5,true⟩⟩] 16⟩] 1000 64 (fun|⟨i,hi,_⟩,Q,ZB,ZD=>.B 5 ((i:Int)<L) (λ p0 Z9=>.K 3 (true&&decide ((i:Int)<L)) aO<|.O 2 ((map dB l)[0+i*1]?) (dB (getD l (0+i*1) lh)) (am _ _ om)<|.R 2 ((↑(VE (getD l (0+i*1) lh)):Int) !=0) (λ p1=>have Z8:=ee p1;.W 3 (i+1)<|.W 4 (i+1)<|.V 1 5 (zI (i+1)) (zN (jX l m (i+1))) (by(rw[P2 (u:=0+i*1) om aO];rfl))<|.val 6 (zI (i+1)) (zN (i+1)) D9<|Hn.next ZB ⟨(i+1),om,⟨⟩⟩ (by show L-(i+1)<L-i;clear ZB ZD;omega) [(0,0)] ro) (λ p1=>have Z8:=ef p1;.W 3 (i+1)<|.V 1 5 (zN (jX l m i)) (zN (jX l m (i+1))) (by(rw[P1 (u:=0+i*1) om om aO]))<|.val 6 (zI (i+1)) (zN (i+1)) D9<|Hn.next ZB ⟨(i+1),om,⟨⟩⟩ (by show L-(i+1)<L-i;clear ZB ZD;omega) [(0,0)] ro)) (λ p0 Z9=>.val 5 (zN (jX l m i)) (zN T) (by(rw[show i=l.length from by omega,<-jY,hT]))<|Hn.last ZD 0 (():Unit) rfl [(0,0)] ro)) (fun|⟨i,hi,_⟩=>by kernel_rfl) ⟨(m),om,⟨⟩⟩ [(0,0)] ro (bM (fun|()=>.K 3 (aT none (some (T:Int)) none L&&true) (by(simp;have h9:=Dm (l:=l) (m:=m) l.length om;rw[<-jY,hT]at h9;omega))<|.Y 1 [0] [0] (VJ 0 0 0 T 1) [VF (map dB l) 5 true] ok))) kr
theorem Gb {p:Prop}(h:p:=by(simp only[V5]at *;(try rw[show((a:Int)-1).toNat=a-1 from by omega]at *);have h9:=iC (l:=l) (a:=a) om;rw[Uj om om];first|rfl|(refine yI ?_ ?_ ?_<;>(try dsimp only)<;>omega))):p:=h
theorem Lj {p:Prop}(h:p:=by(have h9:=Lk (l:=l) (a:=a) om;omega)):p:=h
theorem P3 {p:Prop}(h:p:=by(simp only[V5]at *;(try rw[show((a:Int)-1).toNat=a-1 from by omega]at *);have h9:=iC (l:=l) (a:=a) om;rw[Ug ⟨by omega,by omega⟩];first|rfl|(refine yI ?_ ?_ ?_<;>(try dsimp only)<;>omega))):p:=h
theorem P4 {p:Prop}(h:p:=by(simp only[V5]at *;(try rw[show((a:Int)-1).toNat=a-1 from by omega]at *);have h9:=iC (l:=l) (a:=a) om;rw[Ui om om om om];first|rfl|(refine yI ?_ ?_ ?_<;>(try dsimp only)<;>omega))):p:=h
def k7 (l:Z4)(a:Nat):Rn×Nat:=
 if(l.getD a lh).toNat=0∧11<=bN l a then(⟨18,min (bN l a) 138-11⟩,min (bN l a) 138)
 else if(l.getD a lh).toNat=0∧3<=bN l a then(⟨17,bN l a-3⟩,bN l a)
 else if 0<(l.getD a lh).toNat∧0<a∧(l.getD (a-1) lh).toNat=(l.getD a lh).toNat∧3<=bN l a then(⟨16,min (bN l a) 6-3⟩,min (bN l a) 6)
 else(⟨(l.getD a lh).toNat,0⟩,1)
theorem Ug {l:Z4}{a:Nat}(h:(l.getD a lh).toNat=0∧11<=bN l a):k7 l a=(⟨18,min (bN l a) 138-11⟩,min (bN l a) 138):=ZF h
theorem Uh {l:Z4}{a:Nat}(h:(l.getD a lh).toNat=0)(h1:¬11<=bN l a)(h2:3<=bN l a):k7 l a=(⟨17,bN l a-3⟩,bN l a):=by unfold k7;rw[ZE (λ q=>h1 q.2),ZF ⟨h,h2⟩]
theorem Ui {l:Z4}{a:Nat}(h:0<(l.getD a lh).toNat)(ha:0<a)(h1:(l.getD (a-1) lh).toNat=(l.getD a lh).toNat)(h2:3<=bN l a):k7 l a=(⟨16,min (bN l a) 6-3⟩,min (bN l a) 6):=by unfold k7;rw[ZE (λ q=>by omega),ZE (λ q=>by omega),ZF ⟨h,ha,h1,h2⟩]
theorem Uj {l:Z4}{a:Nat}(h:¬((l.getD a lh).toNat=0∧3<=bN l a))(h1:¬(0<(l.getD a lh).toNat∧0<a∧(l.getD (a-1) lh).toNat=(l.getD a lh).toNat∧3<=bN l a)):k7 l a=(⟨(l.getD a lh).toNat,0⟩,1):=by unfold k7;rw[ZE (λ q=>h ⟨q.1,by omega⟩),ZE h,ZE h1]
theorem Lk {l:Z4}{a:Nat}(h:a<l.length):1<=(k7 l a).2∧a+(k7 l a).2<=l.length∧(k7 l a).1.s<=255∧(k7 l a).1.x<=1000000000+l.length:=by
 have b:=iC h;have t:=(l.getD a lh).toNat_lt;unfold k7
 split
 ·refine⟨?_,?_,?_,?_⟩<;>dsimp only <;>omega
 ·split
  ·refine⟨?_,?_,?_,?_⟩<;>dsimp only <;>omega
  ·split
   ·refine⟨?_,?_,?_,?_⟩<;>dsimp only <;>omega
   ·refine⟨?_,?_,?_,?_⟩<;>dsimp only <;>omega
theorem P5 {l:Z4}{f a:Nat}{o T:List Rn}(hR:o++jJ l f a=T)(hf:l.length<=a+f)(h:a<l.length):(o++[(k7 l a).1])++jJ l (f-1) (a+(k7 l a).2)=T:=by
 obtain⟨g,rfl⟩:∃g,f=g+1:=⟨f-1,by omega⟩
 rw[<-hR,jJ,ZE om,Wc];unfold k7;refine congrArg (λ z=>o++z) ?_
 split
 ·rfl
 ·split
  ·rfl
  ·split
   ·rfl
   ·rfl
theorem Uk {l:Z4}{a n:Nat}(hn:n=l.length)(h:a<n):sI l a (n-1) 1=bN l a:=by
 subst hn;exact Nj (vR l a).symm om om (by rw[Xw])
theorem P6 (l:Z4)(n:Nat)(hn:n=l.length)(hn2:n<=400)(a:Nat)(ha:a<n):S0 189 [.sl false n 1 (l.map dB),nD a] [] (nD (bN l a)) []:=SpR Tryz.func189 rfl rfl rfl trivial rfl 1000 64 (λ R ok=>.s 2<|Hn.inl T_ok ah false 28 0 (aq Tryz.prog 189 0) (λ(x:(i:Nat)×'(f:Nat)×'(hi:a+i<=n)×'(hf:n<=a+i+f)×'(hR:sI l a f i=bN l a)×'Unit)=>match x with|⟨i,f,hi,hf,hR,_⟩=>VZ [(0,V3 false n 1 (map dB l)),(1,zN a),(5,nD i)] [] 0) (λ(x:(i:Nat)×'(f:Nat)×'(hi:a+i<=n)×'(hf:n<=a+i+f)×'(hR:sI l a f i=bN l a)×'Unit)=>match x with|⟨i,f,hi,hf,hR,_⟩=>n-i) [⟨Unit,.exit 0,λ x=>match x with|()=>VZ [(0,V3 false n 1 (map dB l)),(1,zN a),(5,nD (bN l a))] [] 0⟩] 1000 64 (fun|⟨i,f,hi,hf,hR,_⟩,Q,ZB,ZD=>.W 5 (a+i)<|.B 6 ((a:Int)+i<n) (λ p0 Z9=>.W 7 (a+i)<|.K 2 (true&&decide ((a:Int)+i<n)&&true) JO<|.O 3 ((map dB l)[zq ((a:Int)+i)*1]?) (dB (getD l (zq ((a:Int)+i)*1) lh)) (am _ _ om)<|.K 6 (true&&decide ((a:Int)<n)&&true) JO<|.O 3 ((map dB l)[a*1]?) (dB (getD l (a*1) lh)) (am _ _ om)<|.R 4 ((↑(VE (getD l (zq ((a:Int)+i)*1) lh)):Int)==(↑(VE (getD l (a*1) lh)):Int)) (λ p1=>have Z8:=eq_of_beq p1;.W 3 (i+1)<|.V 1 5 (zI (i+1)) (zN (i+1)) (by(refine aG ?_;(omega)))<|Hn.next ZB ⟨(i+1),(f-1),om,om,(by(exact Hq (u:=((a:Int)+i).toNat*1) (v:=a*1) hR om om om om om)),⟨⟩⟩ (by show n-(i+1)<n-i;clear ZB ZD;omega) [] ro) (λ p1=>have Z8:=ap p1;.val 5 (zN i) (zN (bN l a)) (by(rw[Hr (u:=((a:Int)+i).toNat*1) (v:=a*1) hR om om om]))<|Hn.last ZD 0 (():Unit) rfl [] ro)) (λ p0 Z9=>.V 22 5 (zN i) (zN (bN l a)) (by(rw[Jz hR om]))<|Hn.last ZD 0 (():Unit) rfl [] ro)) (fun|⟨i,f,hi,hf,hR,_⟩=>by kernel_rfl) ⟨(1),(n-1),om,om,(by(exact Uk hn ha)),⟨⟩⟩ [] ro (bM (fun|()=>.Y 2 [] [] (zN (bN l a)) [] ok))) kr
theorem yI {x y z:Int}{a b c:Nat}(h1:x=((a:Nat):Int))(h2:y=((b:Nat):Int))(h3:z=((c:Nat):Int)):WL [.agg [.v (.int .i64 x),.v (.int .i64 y)],.v (.int .i64 z)]=WL [.agg [nD a,nD b],nD c]:=by subst h1 h2 h3;rfl
theorem Ll (l:Z4)(n:Nat)(hn:n=l.length)(hn2:n<=400)(a:Nat)(ha:a<n):S0 170 [.sl false n 1 (l.map dB),nD a] [] (.tup [.agg [nD (k7 l a).1.s,nD (k7 l a).1.x],nD (k7 l a).2]) []:=SpR Tryz.func170 rfl rfl rfl trivial rfl 1000 64 (λ R ok=>.C 6 189 false [] (.fn SA (@P6 (l) (n) om om (a) om))<|.K 4 (true&&decide ((a:Int)<n)&&true) JO<|.O 2 ((map dB l)[a*1]?) (dB (getD l (a*1) lh)) (am _ _ om)<|.R 4 ((↑(VE (getD l (a*1) lh)):Int)==0) (λ p0=>have Z9:=eq_of_beq p0;.B 4 (11<=(↑(bN l a):Int)) (λ p1 Z8=>.B 3 (138<(↑(bN l a):Int)) (λ p2 Z7=>.U 15 [] [] (WL [Wu [zI 18,zI 127],zI 138]) [] R (ok _ _ P3 wr)) (λ p2 Z7=>.W 3 ((↑(bN l a):Int)-11)<|.U 10 [] [] (WL [Wu [zI 18,zI ((↑(bN l a):Int)-11)],zN (bN l a)]) [] R (ok _ _ P3 wr))) (λ p1 Z8=>.K 3 (true&&decide ((a:Int)<n)&&true) JO<|.O 2 ((map dB l)[a*1]?) (dB (getD l (a*1) lh)) (am _ _ om)<|.E 4 ((↑(VE (getD l (a*1) lh)):Int)==0) p0<|.B 4 (3<=(↑(bN l a):Int)) (λ p3 Z6=>.W 3 ((↑(bN l a):Int)-3)<|.U 10 [] [] (WL [Wu [zI 17,zI ((↑(bN l a):Int)-3)],zN (bN l a)]) [] R (ok _ _ (by(simp only[V5]at *;(try rw[show((a:Int)-1).toNat=a-1 from by omega]at *);have h9:=iC (l:=l) (a:=a) om;rw[Uh om om om];first|rfl|(refine yI ?_ ?_ ?_<;>(try dsimp only)<;>omega))) wr)) (λ p3 Z6=>.K 4 (true&&decide ((a:Int)<n)&&true) JO<|.O 2 ((map dB l)[a*1]?) (dB (getD l (a*1) lh)) (am _ _ om)<|.F 4 ((↑(VE (getD l (a*1) lh)):Int) !=0) (by(simp_all;done))<|.K 35 (true&&decide ((a:Int)<n)&&true) JO<|.O 2 ((map dB l)[a*1]?) (dB (getD l (a*1) lh)) (am _ _ om)<|.W 1 (↑(VE (getD l (a*1) lh)):Int)<|.U 9 [] [] (WL [Wu [zN (VE (getD l (a*1) lh)),zI 0],zI 1]) [] R (ok _ _ Gb wr)))) (λ p0=>have Z9:=ap p0;.K 7 (true&&decide ((a:Int)<n)&&true) JO<|.O 2 ((map dB l)[a*1]?) (dB (getD l (a*1) lh)) (am _ _ om)<|.F 4 ((↑(VE (getD l (a*1) lh)):Int)==0) p0<|.K 8 (true&&decide ((a:Int)<n)&&true) JO<|.O 2 ((map dB l)[a*1]?) (dB (getD l (a*1) lh)) (am _ _ om)<|.E 4 ((↑(VE (getD l (a*1) lh)):Int) !=0) (by(simp_all;done))<|.B 6 (0<(a:Int)) (λ p4 Z5=>.W 5 (a-1)<|.K 2 (decide (0<=(a:Int)-1)&&decide ((a:Int)-1<n)&&true) JO<|.O 3 ((map dB l)[zq ((a:Int)-1)*1]?) (dB (getD l (zq ((a:Int)-1)*1) lh)) (am _ _ om)<|.K 6 (true&&decide ((a:Int)<n)&&true) JO<|.O 3 ((map dB l)[a*1]?) (dB (getD l (a*1) lh)) (am _ _ om)<|.R 6 ((↑(VE (getD l (zq ((a:Int)-1)*1) lh)):Int)==(↑(VE (getD l (a*1) lh)):Int)) (λ p5=>have p5f:=eq_of_beq p5;.B 4 (3<=(↑(bN l a):Int)) (λ p6 p6f=>.B 3 (6<(↑(bN l a):Int)) (λ p7 p7f=>.U 15 [] [] (WL [Wu [zI 16,zI 3],zI 6]) [] R (ok _ _ P4 wr)) (λ p7 p7f=>.W 3 ((↑(bN l a):Int)-3)<|.U 10 [] [] (WL [Wu [zI 16,zI ((↑(bN l a):Int)-3)],zN (bN l a)]) [] R (ok _ _ P4 wr))) (λ p6 p6f=>.K 3 (true&&decide ((a:Int)<n)&&true) JO<|.O 2 ((map dB l)[a*1]?) (dB (getD l (a*1) lh)) (am _ _ om)<|.I 1 (↑(VE (getD l (a*1) lh)):Int) JZ<|.U 9 [] [] (WL [Wu [zN (VE (getD l (a*1) lh)),zI 0],zI 1]) [] R (ok _ _ Gb wr))) (λ p5=>have p5f:=ap p5;.K 7 (true&&decide ((a:Int)<n)&&true) JO<|.O 2 ((map dB l)[a*1]?) (dB (getD l (a*1) lh)) (am _ _ om)<|.I 1 (↑(VE (getD l (a*1) lh)):Int) JZ<|.U 9 [] [] (WL [Wu [zN (VE (getD l (a*1) lh)),zI 0],zI 1]) [] R (ok _ _ Gb wr))) (λ p4 Z5=>.K 29 (true&&decide ((a:Int)<n)&&true) JO<|.O 2 ((map dB l)[a*1]?) (dB (getD l (a*1) lh)) (am _ _ om)<|.I 1 (↑(VE (getD l (a*1) lh)):Int) JZ<|.U 9 [] [] (WL [Wu [zN (VE (getD l (a*1) lh)),zI 0],zI 1]) [] R (ok _ _ Gb wr)))) kr
theorem Vy (l:Z4)(n:Nat)(hn:n=l.length)(hn2:n<=400)(T:List Rn)(hT:xh l=T):S0 137 [.sl false n 1 (l.map dB)] [] (.ref 0 0 0 T.length 2) [⟨T.flatMap dp, 187,true⟩]:=SpR Tryz.func137 rfl rfl rfl ⟨dn (λ _=>rfl) _,trivial⟩ rfl 1000 64 (λ R ok=>.s 3<|.nils 3 24 2 187<|Hn.inl T_ok ah false 25 0 (aq Tryz.prog 137 0) (λ(x:(a:Nat)×'(f:Nat)×'(o:List Rn)×'(ha:a<=n)×'(hf:n<=a+f)×'(hq:o.length<=a)×'(hR:o++jJ l f a=T)×'Unit)=>match x with|⟨a,f,o,ha,hf,hq,hR,_⟩=>VZ [(0,V3 false n 1 (map dB l)),(3,(VJ 0 0 (0) (o.length) 2)),(4,nD a)] [⟨0,0,24,24,.b ⟨o.flatMap dp,187,true⟩⟩] 8) (λ(x:(a:Nat)×'(f:Nat)×'(o:List Rn)×'(ha:a<=n)×'(hf:n<=a+f)×'(hq:o.length<=a)×'(hR:o++jJ l f a=T)×'Unit)=>match x with|⟨a,f,o,ha,hf,hq,hR,_⟩=>n-a) [⟨Unit,.exit 0,λ x=>match x with|()=>VZ [(0,V3 false n 1 (map dB l)),(3,(VJ 0 0 (0) (T.length) 2))] [⟨0,0,24,24,.b ⟨T.flatMap dp,187,true⟩⟩] 8⟩] 1000 64 (fun|⟨a,f,o,ha,hf,hq,hR,_⟩,Q,ZB,ZD=>.B 5 ((a:Int)<n) (λ p0 Z9=>.C 3 170 false [] (.fn Su (@Ll (l) (n) om om (a) om))<|.K 19 (true&&VK (length o*2) (length (flatMap dp o))&&true&&true&&true&&true&&VN ((length o+1)*16) 140737488355328) (by(simp only[bj (k:=2) (λ(x:Rn)=>(rfl:(dp x).length=2))];simp;omega))<|.I 5 (a+(↑(VM (k7 l a)):Int)) Lj<|.V 1 3 (VJ 136 136 0 (length o+1) 2) (VJ 136 136 0 (length (o++[V2 (k7 l a)])) 2) (by(simp;done))<|.val 4 (zI (a+(↑(VM (k7 l a)):Int))) (zN (a+VM (k7 l a))) (by(refine aG ?_;(omega)))<|.blk 136 136 (VF (flatMap dp o++[zN (Rn.s (V2 (k7 l a))),zN (Rn.x (V2 (k7 l a)))]) 187 true) (VF (flatMap dp (o++[V2 (k7 l a)])) 187 true) (by(refine aw ?_;rw[Nl]))<|Hn.next ZB ⟨(a+(k7 l a).2),(f-1),(o++[(k7 l a).1]),Lj,Lj,(by(simp;have h9:=Lk (l:=l) (a:=a) om;omega)),(by(exact P5 hR om om)),⟨⟩⟩ (by show n-(a+VM (k7 l a))<n-a;clear ZB ZD;(have h9:=Lk (l:=l) (a:=a) om;omega)) [(136,136)] ro) (λ p0 Z9=>.val 3 (VJ 0 0 0 (length o) 2) (VJ 0 0 0 (length T) 2) (by(rw[EN hR om]))<|.blk 0 0 (VF (flatMap dp o) 187 true) (VF (flatMap dp T) 187 true) (by(rw[EN hR om]))<|Hn.last ZD 0 (():Unit) rfl [(0,0)] ro)) (fun|⟨a,f,o,ha,hf,hq,hR,_⟩=>by kernel_rfl) ⟨(0),(n),([]),om,om,(by(simp;done)),(by(rw[hn];exact(rg l).symm.trans hT)),⟨⟩⟩ [(24,24)] ro (bM (fun|()=>.Y 2 [0] [0] (VJ 0 0 0 (length T) 2) [VF (flatMap dp T) 187 true] ok))) kr
theorem mK {p:Prop}(h:p:=by repeat' first|exact bW (λ _=>rfl) _|exact trivial|exact rfl|exact(λ _=>aF _)|exact(λ _=>by assumption)|exact(λ _=>bu _ (λ _=>rfl) _)|exact(λ _=>bW (λ _=>rfl) _)|(intro h;cases h;done)|(intro _;rfl)|(intro _;exact cz _ (bu _ (λ _=>rfl) _))|exact iR _ (bu _ (λ _=>rfl) _)|refine V4 ?_ ?_|refine eF ?_ ?_|(intro _;refine cy ?_ ?_)|refine cy ?_ ?_|(intro _;refine fI ?_ ?_)|exact cz _ (bu _ (λ _=>rfl) _)|exact bu _ (λ _=>rfl) _):p:=h
theorem Lm {p:Prop}(h:p:=by exact(V4 (D.sim.slw rfl (aL (by(simp <;>(omega)))|>.trans rfl)) (qr trivial))):p:=h
theorem Dn (l:List Tn)(k:Nat)(hk:k=l.length)(hk2:k<=65535)(hl:∀i,ci (l.getD i lh))(T1 T2:List Sy)(hT1:T1=aB)(hT2:T2=aM)(hl1:T1.length=29)(hl2:T2.length=30)(hz1:bk T1)(hz2:bk T2)(W1 W2:List Nat)(w1:aQ 286 (ce T1 l k++[256])=W1)(w2:aQ 30 (du T2 l k)=W2):S0 134 [.sl false k 3 (l.flatMap bb)] [] (.tup [.ref 0 0 0 286 1,.ref 1 1 0 30 1]) [⟨W1.map nD, 3,true⟩,⟨W2.map nD, 3,true⟩]:=by
 subst w1 w2;exact Lc l k hk hk2 hl T1 T2 hT1 hT2 hl1 hl2 hz1 hz2
theorem sk (W:List Nat)(L:Nat)(hL:L=W.length)(hL2:L<=320)(hB:∀t,W.getD t lh<=1073741824)(m:Nat)(hm:1<=m∧m<=15)(hNm:(eZ W L).length<=2^m)(T:Z4)(hT:EqV (bK W m) T):S0 136 [.sl false L 1 (W.map nD),nD m] [] (.ref 0 0 0 L 1) [⟨T.map dB, 5,true⟩]:=by
 obtain⟨hT⟩:=hT;subst hT;exact PQ W L hL hL2 hB m hm hNm
theorem wt (l:Z4)(L:Nat)(hL:L=l.length)(hL2:L<=320)(m:Nat)(hm:m<=L)(T:Nat)(hT:EqV (gS l m) T):S1 135 [.ref 0 0 0 L 1,nD m] [⟨l.map dB, 5,true⟩] (.ref 0 0 0 T 1) [⟨l.map dB, 5,true⟩]:=Uf l L hL hL2 m hm T hT.h
theorem P8 (S:List Nat)(x:Nat)(h:x<19):((aQ 19 S).map nD)[0+x*1]? =some (nD ((aQ 19 S).getD x lh)):=yv (by rw[cT];exact h)
theorem Lo {n1 n2 n3:Nat}{x y z:Int}(hx:x=((n1-257:Nat):Int))(hy:y=((n2-1:Nat):Int))(hz:z=((n3-4:Nat):Int)):[D.v (.int .u32 x),D.v (.int .i64 5),D.v (.int .u32 y),D.v (.int .i64 5),D.v (.int .u32 z),D.v (.int .i64 4)]=([⟨n1-257,5⟩,⟨n2-1,5⟩,⟨n3-4,4⟩]:List Nm).flatMap aD:=by
 subst hx hy hz;rfl
theorem sn {X:Z4}{a:Nat}:(bif true&&(a*1).beq (X.map dB).length then X.map dB else Ws (a*1) (Wx 0 (X.map dB)))=(X.take a).map dB:=by
 rw[V5,Xe,XZ]
 cases h:(true&&a.beq (X.map dB).length)with
 |false=>rfl
 |true=>
  have e:a=(X.map dB).length:=VQ (by simpa using h);rw[cond_true,Wm om]
theorem P9 (l:Z4)(n:Nat)(hn:n=l.length)(hn2:n<=400)(T:List Rn)(hT:EqV (xh l) T):S0 137 [.sl false n 1 (l.map dB)] [] (.ref 0 0 0 T.length 2) [⟨T.flatMap dp, 187,true⟩]:=Vy l n hn hn2 T hT.h
theorem Qa (l:List Tn)(k:Nat)(hk:k=l.length)(hk2:k<=65535)(hl:∀i,ci (l.getD i lh))(T1 T2:List Sy)(hT1:T1=aB)(hT2:T2=aM)(hl1:T1.length=29)(hl2:T2.length=30)(hz1:bk T1)(hz2:bk T2)(W1 W2:List Nat)(A B:Z4)(n1 n2:Nat)(R0:List Rn)(W3:List Nat)(C O:Z4)(n3:Nat)(D:DyV T1 T2 l k W1 W2 A B n1 n2 R0 W3 C O n3)(H3 H4 H5:List Nm)(hH3:H3=[⟨n1-257,5⟩,⟨n2-1,5⟩,⟨n3-4,4⟩])(hH4:cO H3 gO (O.take n3) n3=H4)(hH5:cO H4 (iv (ab C)) R0 R0.length=H5):S0 102 [.sl false k 3 (l.flatMap bb)] [] (.tup [.ref 0 0 0 n1 1,.ref 1 1 0 n2 1,.ref 2 2 0 H5.length 2]) [⟨A.map dB, 5,true⟩,⟨B.map dB, 5,true⟩,⟨H5.flatMap aD, 169,true⟩]:=by
 obtain⟨lW1,lW2,bW1,bW2,iW1,iW2,lA,lB,g1,g2,lA2,lB2,cA,cB,mA,mB,oA,oB,lQ,bQ,lR,oR,lW3,bW3,iW3,lC,cC,mC,oC,lO,g3,lO2,bO⟩:=D.f hk hk2;obtain⟨w1,w2,eA,eB,et1,et2,eR,w3,eC,eO,et3⟩:=D;have lH3:H3.length=3:=by rw[hH3];rfl
 have lX3:=λ i h=>iu (H:=H3) (g:=gO) (l:=O.take n3) (c:=1) (λ _=>rfl) i h
 have lH4:H4.length=3+n3:=by rw[<-hH4,lX3 n3 om,lH3,YX]
 have lX4:=λ i h=>iu (H:=H4) (g:=iv (ab C)) (l:=R0) (c:=2) (λ _=>rfl) i h
 have lH5:H5.length=3+n3+2*R0.length:=by rw[<-hH5,lX4 R0.length om,lH4]
 have c15:=(m7 (by decide) cC).1;refine SpR Tryz.func102 rfl rfl rfl ⟨aI _,aI _,dn (λ _=>rfl) _,trivial⟩ rfl 1000 64 (λ R ok=>.C 5 134 false [] (.fn Sj (@Dn (l) (k) om om om (T1) (T2) aO aO om om om om (W1) (W2) aO aO))<|.L 9 136 false [] (true&&(true&&VN 286 (length (map nD W1))&&true&&ae (bif true&&VK 286 (length (map nD W1))then map nD W1 else take 286 (drop 0 (map nD W1))))&&true) (by(simp <;>(omega))) ([V3 true 286 1 (bif true&&VK 286 (length (map nD W1))then map nD W1 else take 286 (drop 0 (map nD W1))),zI 15]) Lm (.fn Q136 (@sk (W1) (286) om om om (15) (by(simp;done)) om (A) aO))<|.s 1<|.call 135 true [88] (true) wr ([VJ 0 0 0 286 1,zI 257]) _ (by exact(qr (qr trivial))) (ae (map dB A)&&true) (by(simp;done)) _ _ _ (V0 (ao.of Tryz.func135 rfl rfl) (@wt (A) (286) om om (257) (by(simp;done)) (n1) aO))<|.L 3 136 false [] (true&&(true&&VN 30 (length (map nD W2))&&true&&ae (bif true&&VK 30 (length (map nD W2))then map nD W2 else take 30 (drop 0 (map nD W2))))&&true) (by(simp <;>(omega))) ([V3 true 30 1 (bif true&&VK 30 (length (map nD W2))then map nD W2 else take 30 (drop 0 (map nD W2))),zI 15]) Lm (.fn Q136 (@sk (W2) (30) om om om (15) (by(simp;done)) om (B) aO))<|.s 1<|.call 135 true [120] (true) wr ([VJ 0 0 0 30 1,zI 1]) _ (by exact(qr (qr trivial))) (ae (map dB B)&&true) (by(simp;done)) _ _ _ (V0 (ao.of Tryz.func135 rfl rfl) (@wt (B) (30) om om (1) (by(simp;done)) (n2) aO))<|.K 5 (true&&(true&&VN (0+n1*1) (length (map dB A)))&&true&&true&&VN ((0+n1)*1) 140737488355328) (by(simp <;>(omega)))<|.K 4 (true&&VK (n1*1) (length (bif true&&VK (n1*1) (length (map dB A))then map dB A else take (n1*1) (drop 0 (map dB A))))&&true&&(true&&VN (0+n2*1) (length (map dB B)))&&true&&true&&VN ((n1+n2)*1) 140737488355328) (by(rw[sn];simp only[VP,lA2,lB,V5,WK,V8,Wf,Wd,VO,WT];omega))<|.L 3 137 false [] (true&&(wB ((bif true&&VK (n1*1) (length (map dB A))then map dB A else take (n1*1) (drop 0 (map dB A)))++bif true&&VK (n2*1) (length (map dB B))then map dB B else take (n2*1) (drop 0 (map dB B))) (n1+n2) 1)&&true) (by unfold wB;(rw[sn,sn,<-Wz];have e9:((A.take n1++B.take n2).map dB).length=n1+n2:=(by rw[VP,lQ]);simp only[V5,Wd,e9,WK,V8,cond_true,aF,Wf,WT,VT])) ([V3 (VN 1 (n1+n2)) (n1+n2) 1 (bif true&&VK ((n1+n2)*1) (length ((bif true&&VK (n1*1) (length (map dB A))then map dB A else take (n1*1) (drop 0 (map dB A)))++bif true&&VK (n2*1) (length (map dB B))then map dB B else take (n2*1) (drop 0 (map dB B))))then(bif true&&VK (n1*1) (length (map dB A))then map dB A else take (n1*1) (drop 0 (map dB A)))++bif true&&VK (n2*1) (length (map dB B))then map dB B else take (n2*1) (drop 0 (map dB B))else take ((n1+n2)*1) (drop 0 ((bif true&&VK (n1*1) (length (map dB A))then map dB A else take (n1*1) (drop 0 (map dB A)))++bif true&&VK (n2*1) (length (map dB B))then map dB B else take (n2*1) (drop 0 (map dB B)))))]) (by exact(V4 (D.sim.slw rfl (aL (by(rw[sn,sn,VI,VP,VP,lA2,lB2,V5,WK];rfl))|>.trans (by(rw[sn,sn,<-Wz])))) trivial)) (V0 (ao.of Tryz.func137 rfl rfl) (@P9 (take n1 A++take n2 B) (n1+n2) om om (R0) aO))<|.M 5 240 240 (VF [zI 0,zI 0,zI 0,zI 0,zI 0,zI 0,zI 0,zI 0,zI 0,zI 0,zI 0,zI 0,zI 0,zI 0,zI 0,zI 0,zI 0,zI 0,zI 0] 3 true) (VF (map nD (aQ 19 (gx R0 0))) 3 true) (by(rw[Pd,xT];rfl))<|Hn.inl T_ok ah false 148 0 (aq Tryz.prog 102 0) (λ(x:(i:Nat)×'(hi:i<=R0.length)×'Unit)=>match x with|⟨i,hi,_⟩=>VZ [(7,VJ 0 0 0 n1 1),(8,VJ 8 8 0 n2 1),(10,VJ 16 16 0 (length R0) 2),(11,VJ 24 24 0 19 1),(12,nD i)] [⟨0,0,88,88,.b ⟨map dB A,5,true⟩⟩,⟨8,8,120,120,.b ⟨map dB B,5,true⟩⟩,⟨16,16,224,224,.b ⟨flatMap dp R0,187,true⟩⟩,⟨24,24,240,240,.b ⟨(aQ 19 (gx R0 i)).map nD,3,true⟩⟩] 32) (λ(x:(i:Nat)×'(hi:i<=R0.length)×'Unit)=>match x with|⟨i,hi,_⟩=>R0.length-i) [⟨Unit,.exit 0,λ x=>match x with|()=>VZ [(7,VJ 0 0 0 n1 1),(8,VJ 8 8 0 n2 1),(10,VJ 16 16 0 (length R0) 2),(11,VJ 24 24 0 19 1)] [⟨0,0,88,88,.b ⟨map dB A,5,true⟩⟩,⟨8,8,120,120,.b ⟨map dB B,5,true⟩⟩,⟨16,16,224,224,.b ⟨flatMap dp R0,187,true⟩⟩,⟨24,24,240,240,.b ⟨W3.map nD,3,true⟩⟩] 32⟩] 1000 64 (fun|⟨i,hi,_⟩,Q,ZB,ZD=>.B 5 ((i:Int)<(↑(length R0):Int)) (λ p0 Z9=>.K 4 (true&&decide ((i:Int)<(↑(length R0):Int))) aO<|.O 5 ((flatMap dp R0)[0+i*2+0]?) (zN (Rn.s (getD R0 i lh))) (cX (k:=2) (i:=i) (j:=0) (λ _=>rfl) om om rfl)<|.K 1 (true&&decide ((↑(Rn.s (getD R0 i lh)):Int)<(↑19:Int))) KC<|.O 2 ((map nD (aQ 19 (gx R0 i)))[0+Rn.s (getD R0 i lh)*1]?) (nD (getD (aQ 19 (gx R0 i)) (Rn.s (getD R0 i lh)) lh)) (@P8 (gx R0 i) (R0.getD i lh).s Cv)<|.I 2 ((↑(getD (aQ 19 (gx R0 i)) (Rn.s (getD R0 i lh)) lh):Int)+1) Cv<|.K 1 (true&&decide ((↑(Rn.s (getD R0 i lh)):Int)<(↑19:Int))) KC<|.K 1 (true&&VN (0+Rn.s (getD R0 i lh)*1+1) (length (map nD (aQ 19 (gx R0 i))))) (by(simp only[VP,cT,V8,Wf,V5,Wd];have z:=dK 19 (gx R0 i) (R0.getD i lh).s;have z2:=j7 R0 i;have z3:=oR i;refine VL ?_;omega))<|.lst (ag (map nD (aQ 19 (gx R0 i))) (0+Rn.s (getD R0 i lh)*1) [zI ((↑(getD (aQ 19 (gx R0 i)) (Rn.s (getD R0 i lh)) lh):Int)+1)]) (ag (map nD (aQ 19 (gx R0 i))) (Rn.s (getD R0 i lh)) [zI ((↑(getD (aQ 19 (gx R0 i)) (Rn.s (getD R0 i lh)) lh):Int)+1)]) (by(simp;done))<|.W 3 (i+1)<|.V 1 12 (zI (i+1)) (zN (i+1)) D9<|.blk 24 24 (VF (ag (map nD (aQ 19 (gx R0 i))) (Rn.s (getD R0 i lh)) [zI ((↑(getD (aQ 19 (gx R0 i)) (Rn.s (getD R0 i lh)) lh):Int)+1)]) 3 true) (VF (map nD (aQ 19 (gx R0 (i+1)))) 3 true) (by(refine aw ?_;rw[Pf (i:=i) om];exact oJ (by have z3:=oR i;omega) rfl rfl rfl))<|Hn.next ZB ⟨(i+1),om,⟨⟩⟩ O7 [(0,0),(8,8),(16,16),(24,24)] mK) (λ p0 Z9=>.blk 24 24 (VF (map nD (aQ 19 (gx R0 i))) 3 true) (VF (map nD W3) 3 true) (by(rw[show i=R0.length from by omega,Pe,w3]))<|Hn.last ZD 0 (():Unit) rfl [(0,0),(8,8),(16,16),(24,24)] mK)) (fun|⟨i,hi,_⟩=>by kernel_rfl) ⟨(0),om,⟨⟩⟩ [(88,88),(120,120),(224,224),(240,240)] mK (bM (fun|()=>.L 2 136 false [] (true&&(true&&VN 19 (length (map nD W3))&&true&&ae (bif true&&VK 19 (length (map nD W3))then map nD W3 else take 19 (drop 0 (map nD W3))))&&true) (by(simp <;>(omega))) ([V3 true 19 1 (bif true&&VK 19 (length (map nD W3))then map nD W3 else take 19 (drop 0 (map nD W3))),zI 7]) Lm (.fn Q136 (@sk (W3) (19) om om om (7) (by(simp;done)) om (C) aO))<|.C 2 138 false [] (.fn Sk (@Lh))<|.s 7<|.nils 15 96 1 5<|.blk 96 96 (VF [] 5 true) (VF (map dB (iJ C 0)) 5 true) (by(rw[If];rfl))<|Hn.inl T_ok ah false 148 0 (aq Tryz.prog 102 1) (λ(x:(i:Nat)×'(hi:i<=19)×'Unit)=>match x with|⟨i,hi,_⟩=>VZ [(7,VJ 0 0 0 n1 1),(8,VJ 8 8 0 n2 1),(10,VJ 16 16 0 (length R0) 2),(13,VJ 24 24 0 19 1),(14,V7 32 32 0),(15,(VJ 40 40 (0) (i) 1)),(16,nD i)] [⟨0,0,0,0,.b ⟨map dB A,5,true⟩⟩,⟨8,8,8,8,.b ⟨map dB B,5,true⟩⟩,⟨16,16,16,16,.b ⟨flatMap dp R0,187,true⟩⟩,⟨24,24,40,40,.b ⟨map dB C,5,true⟩⟩,⟨32,32,64,64,.b ⟨[zI 16,zI 17,zI 18,zI 0,zI 8,zI 7,zI 9,zI 6,zI 10,zI 5,zI 11,zI 4,zI 12,zI 3,zI 13,zI 2,zI 14,zI 1,zI 15],185,false⟩⟩,⟨40,40,96,96,.b ⟨(iJ C i).map dB,5,true⟩⟩] 48) (λ(x:(i:Nat)×'(hi:i<=19)×'Unit)=>match x with|⟨i,hi,_⟩=>19-i) [⟨Unit,.exit 2,λ x=>match x with|()=>VZ [(7,VJ 0 0 0 n1 1),(8,VJ 8 8 0 n2 1),(10,VJ 16 16 0 (length R0) 2),(13,VJ 24 24 0 19 1),(14,V7 32 32 0),(15,(VJ 40 40 (0) (19) 1))] [⟨0,0,0,0,.b ⟨map dB A,5,true⟩⟩,⟨8,8,8,8,.b ⟨map dB B,5,true⟩⟩,⟨16,16,16,16,.b ⟨flatMap dp R0,187,true⟩⟩,⟨24,24,40,40,.b ⟨map dB C,5,true⟩⟩,⟨32,32,64,64,.b ⟨[zI 16,zI 17,zI 18,zI 0,zI 8,zI 7,zI 9,zI 6,zI 10,zI 5,zI 11,zI 4,zI 12,zI 3,zI 13,zI 2,zI 14,zI 1,zI 15],185,false⟩⟩,⟨40,40,96,96,.b ⟨O.map dB,5,true⟩⟩] 48⟩] 1000 64 (fun|⟨i,hi,_⟩,Q,ZB,ZD=>.B 3 ((i:Int)<19) (λ p1 Z8=>.K 4 (true&&decide ((i:Int)<(↑19:Int))) aO<|.O 3 ((map nD qk)[0+i*1]?) (nD (zH C (0+i*1))) (@Ih C (0+i*1) om)<|.K 1 (true&&decide ((↑(zH C (0+i*1)):Int)<(↑19:Int))) (by(simp;have y:=rL C i om;omega))<|.O 2 ((map dB C)[0+zH C (0+i*1)*1]?) (dB (getD C (0+zH C (0+i*1)*1) lh)) (am _ _ (by(simp;have y:=rL C i om;omega)))<|.K 3 (true&&VK (i*1) (length (map dB (iJ C i)))&&true&&true&&true&&true&&VN ((i+1)*1) 140737488355328) (by(rw[VP,rJ C (i:=i) (by(omega))];simp only[V5,WK,V8,Wf];refine VL ?_;(omega)))<|.W 4 (i+1)<|.V 1 16 (zI (i+1)) (zN (i+1)) D9<|.blk 128 128 (VF (map dB (iJ C i)++[da (VE (getD C (0+zH C (0+i*1)*1) lh))]) 5 true) (VF (map dB (iJ C (i+1))) 5 true) (by(refine aw ?_;rw[Ig C (i:=i) om,Wz];simp only[rK,V5,Wd];rfl))<|Hn.next ZB ⟨(i+1),om,⟨⟩⟩ (by show 19-(i+1)<19-i;clear ZB ZD;omega) [(0,0),(8,8),(16,16),(24,24),(32,32),(128,128)] mK) (λ p1 Z8=>.val 15 (VJ 40 40 0 i 1) (VJ 40 40 0 19 1) (by(simp;have z:=dK 19 (gx R0 i) (R0.getD i lh).s;have z2:=j7 R0 i;have z3:=oR i;omega))<|.blk 40 40 (VF (map dB (iJ C i)) 5 true) (VF (map dB O) 5 true) (by(rw[show i=19 from by omega,eO]))<|Hn.last ZD 0 (():Unit) rfl [(0,0),(8,8),(16,16),(24,24),(32,32),(40,40)] mK)) (fun|⟨i,hi,_⟩=>by kernel_rfl) ⟨(0),om,⟨⟩⟩ [(0,0),(8,8),(16,16),(40,40),(64,64),(96,96)] mK (bM (fun|()=>.s 2<|.call 135 true [40] (true) wr ([VJ 0 0 0 19 1,zI 4]) _ (by exact(qr (qr trivial))) (ae (map dB O)&&true) (by(simp;done)) _ _ _ (V0 (ao.of Tryz.func135 rfl rfl) (@wt (O) (19) om om (4) (by(simp;done)) (n3) aO))<|.W 5 (n1-257)<|.O 1 (ay .u32 ((n1:Int)-257)) (uI (n1-257)) (aA om)<|.W 6 (n2-1)<|.O 1 (ay .u32 ((n2:Int)-1)) (uI (n2-1)) (aA om)<|.W 6 (n3-4)<|.O 1 (ay .u32 ((n3:Int)-4)) (uI (n3-4)) (aA om)<|.V 6 17 (VJ 192 192 0 3 2) (VJ 192 192 0 (length (cO H3 gO (take n3 O) 0)) 2) (by(rw[kO,lH3]))<|.blk 192 192 (VF [uI (n1-257),zI 5,uI (n2-1),zI 5,uI (n3-4),zI 4] 169 false) (VF (flatMap aD (cO H3 gO (take n3 O) 0)) 169 false) (by(refine aw ?_;rw[kO,hH3];exact Lo om om om))<|Hn.inl T_ok ah false 148 0 (aq Tryz.prog 102 2) (λ(x:(i:Nat)×'(hi:i<=n3)×'Unit)=>match x with|⟨i,hi,_⟩=>VZ [(7,VJ 0 0 0 n1 1),(8,VJ 8 8 0 n2 1),(10,VJ 16 16 0 (length R0) 2),(13,VJ 24 24 0 19 1),(15,VJ 32 32 0 n3 1),(17,(VJ 40 40 (0) ((cO H3 gO (O.take n3) i).length) 2)),(18,nD i)] [⟨0,0,0,0,.b ⟨map dB A,5,true⟩⟩,⟨8,8,8,8,.b ⟨map dB B,5,true⟩⟩,⟨16,16,16,16,.b ⟨flatMap dp R0,187,true⟩⟩,⟨24,24,24,24,.b ⟨map dB C,5,true⟩⟩,⟨32,32,40,40,.b ⟨map dB O,5,true⟩⟩,⟨40,40,192,192,.r ⟨(cO H3 gO (O.take n3) i).flatMap aD,169,true⟩⟩] 48) (λ(x:(i:Nat)×'(hi:i<=n3)×'Unit)=>match x with|⟨i,hi,_⟩=>n3-i) [⟨Unit,.exit 4,λ x=>match x with|()=>VZ [(7,VJ 0 0 0 n1 1),(8,VJ 8 8 0 n2 1),(10,VJ 16 16 0 (length R0) 2),(13,VJ 24 24 0 19 1),(15,VJ 32 32 0 n3 1),(17,(VJ 40 40 (0) (H4.length) 2))] [⟨0,0,0,0,.b ⟨map dB A,5,true⟩⟩,⟨8,8,8,8,.b ⟨map dB B,5,true⟩⟩,⟨16,16,16,16,.b ⟨flatMap dp R0,187,true⟩⟩,⟨24,24,24,24,.b ⟨map dB C,5,true⟩⟩,⟨32,32,40,40,.b ⟨map dB O,5,true⟩⟩,⟨40,40,192,192,.r ⟨H4.flatMap aD,169,true⟩⟩] 48⟩] 1000 64 (fun|⟨i,hi,_⟩,Q,ZB,ZD=>.B 5 ((i:Int)<n3) (λ p2 Z7=>.K 4 (true&&decide ((i:Int)<n3)) aO<|.O 2 ((map dB O)[0+i*1]?) (dB (getD O (0+i*1) lh)) (am _ _ om)<|.O 1 (ay .u32 (↑(VE (getD O (0+i*1) lh)):Int)) (ai (VE (getD O (0+i*1) lh))) (aA (by(exact dR _ (by decide) (by decide))))<|.K 5 (true&&VK (length (cO H3 gO (take n3 O) i)*2) (length (flatMap aD (cO H3 gO (take n3 O) i)))&&true&&true&&true&&true&&VN ((length (cO H3 gO (take n3 O) i)+1)*16) 140737488355328) (by(simp only[bX,lX3 i om,WK,V8,Wf];refine VL ?_;(omega)))<|.W 4 (i+1)<|.V 1 17 (VJ 144 144 0 (length (cO H3 gO (take n3 O) i)+1) 2) (VJ 144 144 0 (length (cO H3 gO (take n3 O) (i+1))) 2) (by(rw[kP (i:=i) om,VI];rfl))<|.val 18 (zI (i+1)) (zN (i+1)) D9<|.blk 144 144 (VF (flatMap aD (cO H3 gO (take n3 O) i)++[ai (VE (getD O (0+i*1) lh)),zI 3]) 169 true) (VF (flatMap aD (cO H3 gO (take n3 O) (i+1))) 169 true) (by(refine aw ?_;rw[kP (i:=i) om,cD];unfold gO;rw[x4 om,Wd,V5];rfl))<|Hn.next ZB ⟨(i+1),om,⟨⟩⟩ (by show n3-(i+1)<n3-i;clear ZB ZD;omega) [(0,0),(8,8),(16,16),(24,24),(32,32),(144,144)] mK) (λ p2 Z7=>.val 17 (VJ 40 40 0 (length (cO H3 gO (take n3 O) i)) 2) (VJ 40 40 0 (length H4) 2) (by(rw[show i=n3 from by omega,hH4]))<|.blk 40 40 (VF (flatMap aD (cO H3 gO (take n3 O) i)) 169 true) (VF (flatMap aD H4) 169 true) (by(rw[show i=n3 from by omega,hH4]))<|Hn.last ZD 0 (():Unit) rfl [(0,0),(8,8),(16,16),(24,24),(32,32),(40,40)] mK)) (fun|⟨i,hi,_⟩=>by kernel_rfl) ⟨(0),om,⟨⟩⟩ [(0,0),(8,8),(16,16),(24,24),(40,40),(192,192)] mK (bM (fun|()=>.L 2 130 false [] (true&&(true&&VN 19 (length (map dB C))&&true&&ae (bif true&&VK 19 (length (map dB C))then map dB C else take 19 (drop 0 (map dB C))))&&true) (by(simp <;>(omega))) ([V3 true 19 1 (bif true&&VK 19 (length (map dB C))then map dB C else take 19 (drop 0 (map dB C)))]) (by exact(V4 (D.sim.slw rfl (aL (by(simp <;>(omega)))|>.trans rfl)) trivial)) (.fn Na (@Bt (C) (19) om om))<|.V 2 17 (VJ 40 40 0 (length H4) 2) (VJ 40 40 0 (length (cO H4 (iv (ab C)) R0 0)) 2) (by(rw[kO]))<|.blk 40 40 (VF (flatMap aD H4) 169 true) (VF (flatMap aD (cO H4 (iv (ab C)) R0 0)) 169 true) (by(rw[kO]))<|Hn.inl T_ok ah false 148 0 (aq Tryz.prog 102 3) (λ(x:(i:Nat)×'(hi:i<=R0.length)×'Unit)=>match x with|⟨i,hi,_⟩=>VZ [(7,VJ 0 0 0 n1 1),(8,VJ 8 8 0 n2 1),(10,VJ 16 16 0 (length R0) 2),(17,(VJ 24 24 (0) ((cO H4 (iv (ab C)) R0 i).length) 2)),(19,VJ 32 32 0 (length (ab C)) 2),(20,nD i)] [⟨0,0,0,0,.b ⟨map dB A,5,true⟩⟩,⟨8,8,8,8,.b ⟨map dB B,5,true⟩⟩,⟨16,16,16,16,.b ⟨flatMap dp R0,187,true⟩⟩,⟨24,24,40,40,.b ⟨(cO H4 (iv (ab C)) R0 i).flatMap aD,169,true⟩⟩,⟨32,32,56,56,.b ⟨flatMap dO (ab C),210,true⟩⟩] 40) (λ(x:(i:Nat)×'(hi:i<=R0.length)×'Unit)=>match x with|⟨i,hi,_⟩=>R0.length-i) [⟨Unit,.exit 6,λ x=>match x with|()=>VZ [(7,VJ 0 0 0 n1 1),(8,VJ 8 8 0 n2 1),(10,VJ 16 16 0 (length R0) 2),(17,(VJ 24 24 (0) (H5.length) 2)),(19,VJ 32 32 0 (length (ab C)) 2)] [⟨0,0,0,0,.b ⟨map dB A,5,true⟩⟩,⟨8,8,8,8,.b ⟨map dB B,5,true⟩⟩,⟨16,16,16,16,.b ⟨flatMap dp R0,187,true⟩⟩,⟨24,24,40,40,.b ⟨H5.flatMap aD,169,true⟩⟩,⟨32,32,56,56,.b ⟨flatMap dO (ab C),210,true⟩⟩] 40⟩] 1000 64 (fun|⟨i,hi,_⟩,Q,ZB,ZD=>.B 5 ((i:Int)<(↑(length R0):Int)) (λ p3 Z6=>.K 3 (true&&decide ((i:Int)<(↑(length R0):Int))) aO<|.O 5 ((flatMap dp R0)[0+i*2+0]?) (zN (Rn.s (getD R0 i lh))) (cX (k:=2) (i:=i) (j:=0) (λ _=>rfl) om om rfl)<|.C 1 139 false [] (.fn Sl (@Vv (Rn.s (getD R0 i lh)) Cv))<|.K 13 (true&&decide ((i:Int)<(↑(length R0):Int))) aO<|.O 5 ((flatMap dp R0)[0+i*2+0]?) (zN (Rn.s (getD R0 i lh))) (cX (k:=2) (i:=i) (j:=0) (λ _=>rfl) om om rfl)<|.K 1 (true&&decide ((↑(Rn.s (getD R0 i lh)):Int)<(↑(length (ab C)):Int))) KC<|.K 2 (VN (0+Rn.s (getD R0 i lh)*2+2) (length (flatMap dO (ab C)))) (by(rw[r7,mC];have y:=oR i;refine VL ?_;(omega)))<|.lst (take 2 (drop (0+Rn.s (getD R0 i lh)*2) (flatMap dO (ab C)))) ([ai (V2 (getD (ab C) (Rn.s (getD R0 i lh)) lh)),da (VM (getD (ab C) (Rn.s (getD R0 i lh)) lh))]) (aJ (k:=2) (i:=Rn.s (getD R0 i lh)) (λ _=>rfl) Cv om)<|.L 1 131 false [] (true) wr ([Wu [ai (V2 (getD (ab C) (Rn.s (getD R0 i lh)) lh)),da (VM (getD (ab C) (Rn.s (getD R0 i lh)) lh))]]) (by exact(qr trivial)) (.fn Q131 (@uC (getD (ab C) (Rn.s (getD R0 i lh)) lh) (by(exact(oC _).1)) (by(exact(oC _).2))))<|.K 3 (true&&decide ((i:Int)<(↑(length R0):Int))) aO<|.O 5 ((flatMap dp R0)[0+i*2+1]?) (zN (Rn.x (getD R0 i lh))) (cX (k:=2) (i:=i) (j:=1) (λ _=>rfl) om om rfl)<|.O 1 (ay .u32 (↑(Rn.x (getD R0 i lh)):Int)) (uI ((↑(Rn.x (getD R0 i lh)):Int)%4294967296)) (aE _ _)<|.K 6 (true&&VK (length (cO H4 (iv (ab C)) R0 i)*2) (length (flatMap aD (cO H4 (iv (ab C)) R0 i)))&&true&&true&&true&&true&&VN ((length (cO H4 (iv (ab C)) R0 i)+2)*16) 140737488355328) (by(simp only[bX,lX4 i om,WK,V8,Wf];refine VL ?_;(omega)))<|.W 4 (i+1)<|.V 1 17 (VJ 312 312 0 (length (cO H4 (iv (ab C)) R0 i)+2) 2) (VJ 312 312 0 (length (cO H4 (iv (ab C)) R0 (i+1))) 2) (by(rw[kP (i:=i) om,VI];rfl))<|.val 20 (zI (i+1)) (zN (i+1)) D9<|.blk 312 312 (VF (flatMap aD (cO H4 (iv (ab C)) R0 i)++[ai (dG (V2 (getD (ab C) (Rn.s (getD R0 i lh)) lh)) (VM (getD (ab C) (Rn.s (getD R0 i lh)) lh))),zN (VM (getD (ab C) (Rn.s (getD R0 i lh)) lh)),uI ((↑(Rn.x (getD R0 i lh)):Int)%4294967296),zN (rb (Rn.s (getD R0 i lh)))]) 169 true) (VF (flatMap aD (cO H4 (iv (ab C)) R0 (i+1))) 169 true) (by(refine aw ?_;rw[kP (i:=i) om,cD];have y:=oR i;have y3:=xg (R0.getD i lh).s;have y5:(R0.getD i lh).x<128:=Wp y.2 y3.1;rw[show((R0.getD i lh).x:Int)%4294967296=(((R0.getD i lh).x:Nat):Int)from by omega];rfl))<|Hn.next ZB ⟨(i+1),om,⟨⟩⟩ O7 [(0,0),(8,8),(16,16),(312,312),(32,32)] mK) (λ p3 Z6=>.val 17 (VJ 24 24 0 (length (cO H4 (iv (ab C)) R0 i)) 2) (VJ 24 24 0 (length H5) 2) (by(rw[show i=R0.length from by omega,hH5]))<|.blk 24 24 (VF (flatMap aD (cO H4 (iv (ab C)) R0 i)) 169 true) (VF (flatMap aD H5) 169 true) (by(rw[show i=R0.length from by omega,hH5]))<|Hn.last ZD 0 (():Unit) rfl [(0,0),(8,8),(16,16),(24,24),(32,32)] mK)) (fun|⟨i,hi,_⟩=>by kernel_rfl) ⟨(0),om,⟨⟩⟩ [(0,0),(8,8),(16,16),(40,40),(56,56)] mK (bM (fun|()=>.Y 6 [0,8,24] [0,8,24] (WL [VJ 0 0 0 n1 1,VJ 1 1 0 n2 1,VJ 2 2 0 (length H5) 2]) [VF (map dB A) 5 true,VF (map dB B) 5 true,VF (flatMap aD H5) 169 true] ok))))))))) kr
theorem Mp {p:Prop}(h:p:=by(simp[aT,de,bm];have y1:=hX 0;have y2:=eo (X:=X) (i:=0) (n:=X.length) om;have y5:=je P;have y6:=ac (aX (pT P) (X.getD 0 lh).v (X.getD 0 lh).n);rw[bc]at y6;have y7:=iG (t:=pT P) (v:=(X.getD 0 lh).v) (n:=(X.getD 0 lh).n) (w:=(((pT P).length+(X.getD 0 lh).n)/8)) rfl;have y8:=er (A:=pA P) (t:=pT P) (v:=(X.getD 0 lh).v) (n:=(X.getD 0 lh).n) (w:=(((pT P).length+(X.getD 0 lh).n)/8)) (so P) rfl;have y9:=jd P;have y4:=ac (pA P);omega)):p:=h
theorem Ul {p:Prop}(h:p:=by(rw[bX];refine VL ?_;(omega))):p:=h
theorem U4 {p:Prop}(h:p:=by(have y1:=hX 0;have y2:=eo (X:=X) (i:=0) (n:=X.length) om;have y5:=je P;have y6:=ac (aX (pT P) (X.getD 0 lh).v (X.getD 0 lh).n);rw[bc]at y6;have y7:=iG (t:=pT P) (v:=(X.getD 0 lh).v) (n:=(X.getD 0 lh).n) (w:=(((pT P).length+(X.getD 0 lh).n)/8)) rfl;have y8:=er (A:=pA P) (t:=pT P) (v:=(X.getD 0 lh).v) (n:=(X.getD 0 lh).n) (w:=(((pT P).length+(X.getD 0 lh).n)/8)) (so P) rfl;have y9:=jd P;have y4:=ac (pA P);simp only[VP,VW,V8,Wf,VO,Xa,WT];omega)):p:=h
theorem U5 {p:Prop}(h:p:=by(have y1:=hX 0;have y2:=eo (X:=X) (i:=0) (n:=X.length) om;have y5:=je P;have y6:=ac (aX (pT P) (X.getD 0 lh).v (X.getD 0 lh).n);rw[bc]at y6;have y7:=iG (t:=pT P) (v:=(X.getD 0 lh).v) (n:=(X.getD 0 lh).n) (w:=(((pT P).length+(X.getD 0 lh).n)/8)) rfl;have y8:=er (A:=pA P) (t:=pT P) (v:=(X.getD 0 lh).v) (n:=(X.getD 0 lh).n) (w:=(((pT P).length+(X.getD 0 lh).n)/8)) (so P) rfl;have y9:=jd P;have y4:=ac (pA P);omega)):p:=h
theorem U6 {p:Prop}(h:p:=by(have q:=uL P (k:=((P.length:Int)/8).toNat) om;first|(simp;done)|simpa using q)):p:=h
theorem U7 {p:Prop}(h:p:=by(have y1:=hX i;have y2:=eo (X:=X) (i:=i) (n:=X.length) om;have y3:=cV (P:=P) (X:=X) i om;have y4:=congrArg length hB;rw[VI]at y4;have y5:=ac A;have y6:=ac (aX t (X.getD i lh).v (X.getD i lh).n);rw[bc]at y6;have y7:=iG (t:=t) (v:=(X.getD i lh).v) (n:=(X.getD i lh).n) (w:=((t.length+(X.getD i lh).n)/8)) rfl;have y8:=er (A:=A) (t:=t) (v:=(X.getD i lh).v) (n:=(X.getD i lh).n) (w:=((t.length+(X.getD i lh).n)/8)) hA rfl;omega)):p:=h
theorem U8 {p:Prop}(h:p:=by(have y4:=congrArg length hB2;rw[VI,cV X.length (VT _)]at y4;have y5:=ac A2;have y6:=congrArg length hZ2.h;rw[VW,Wr,ac]at y6;have y3:=cV (P:=P) (X:=X) X.length (VT _);have y7:=ac (dZ P X X.length);omega)):p:=h
structure OfV (a kd:Nat)(raw:Z4)(r:Nat)(l:List Tn)(k:Nat)(last:Bool)(X:List Nm):Prop where
 s:S0 65 [nD a,dY kd,.sl false r 1 (raw.map dB),.sl false k 3 (l.flatMap bb),bD last] [] (.ptr 0 0 0) [⟨[.ref 1 1 0 X.length 2], 123,false⟩,⟨X.flatMap aD, 126,true⟩]
 ok:∀i,(X.getD i lh).v<2^(X.getD i lh).n∧(X.getD i lh).n<=32
 len:X.length<=1000000
theorem Um (a kd:Nat)(raw:Z4)(r:Nat)(l:List Tn)(k:Nat)(last:Bool)(X:List Nm)(hO:OfV a kd raw r l k last X):S0 65 [nD a,dY kd,.sl false r 1 (raw.map dB),.sl false k 3 (l.flatMap bb),bD last] [] (.ptr 0 0 0) [⟨[.ref 1 1 0 X.length 2], 123,false⟩,⟨X.flatMap aD, 126,true⟩]:=hO.s
theorem Un (P:List Bool)(kd:Nat)(raw:Z4)(r:Nat)(l:List Tn)(k:Nat)(last:Bool)(X:List Nm)(hO:OfV (P.length%8) kd raw r l k last X):S0 65 [iD ((P.length:Int)%8),dY kd,.sl false r 1 (raw.map dB),.sl false k 3 (l.flatMap bb),bD last] [] (.ptr 0 0 0) [⟨[.ref 1 1 0 X.length 2], 123,false⟩,⟨X.flatMap aD, 126,true⟩]:=by
 have h:=hO.s
 rwa [show nD (P.length%8)=iD ((P.length:Int)%8)from congrArg (λ z=>D.v (.int .i64 z)) om]at h
def dZ (P:List Bool)(X:List Nm)(i:Nat):List Bool:=lk X (P++(X.take i).flatMap λ x=>nb x.v x.n)
theorem oY (P:List Bool)(X:List Nm)(i:Nat):dZ P X i=P++(X.take i).flatMap λ x=>nb x.v x.n:=aP _ _
theorem yJ (P:List Bool)(X:List Nm):dZ P X 0=P:=by rw[oY];exact WN _
theorem uJ {P:List Bool}{X:List Nm}{i:Nat}(h:i<X.length):dZ P X (i+1)=dZ P X i++nb (X.getD i lh).v (X.getD i lh).n:=by
 have e1:X.take (i+1)=X.take i++[X.getD i lh]:=by
  rw[Wo h,VH,VG h];rfl
 rw[oY,oY,e1,WH,List.flatMap_singleton,Wc]
theorem cV {P:List Bool}{X:List Nm}:∀i,i<=X.length->(dZ P X i).length=P.length+k5 X i
 |0,_=>by rw[yJ];rfl
 |i+1,h=>by rw[uJ om,VI,lu,cV i om,k5,Nat.add_assoc]
theorem uK (X:List Nm)(i:Nat):∀k,k5 X i<=k5 X (i+k)
 |0=>VT _
 |k+1=>VR (uK X i k) (by show _<=k5 X (i+k)+_;omega)
theorem eo {X:List Nm}{i n:Nat}(h:i<n):k5 X i+(X.getD i lh).n<=k5 X n:=by
 have:=uK X (i+1) (n-(i+1));rw[show i+1+(n-(i+1))=n from by omega]at this;exact this
structure PkE (Y:Z4)(l:List Bool):Prop where
 h:Y=pk l
theorem IQ (l:List Bool)(Y:Z4)(hY:PkE Y l)(m:Nat)(hm:m=Y.length)(v n:Nat)(hn:n<=32)(hv:v<2^n)(hl:l.length+n<=8388608):S0 74 [.agg [.sl false m 1 (Y.map dB),nD l.length],.v (.int .u32 (v:Int)),nD n] [] (.tup [.agg [.ref 0 0 0 (pk (aX l v n)).length 1,nD (l.length+n)],iD 0]) [⟨(pk (aX l v n)).map dB, 5,true⟩]:=by
 obtain⟨hY⟩:=hY;subst hY;exact Nv l m hm v n hn hv hl
theorem Qb (P l:List Bool)(Y:Z4)(hY:PkE Y l)(hl8:l.length=P.length%8)(m:Nat)(hm:m=Y.length)(v n:Nat)(hn:n<=32)(hv:v<2^n)(hl:l.length+n<=8388608):S0 74 [.agg [.sl false m 1 (Y.map dB),iD ((P.length:Int)%8)],.v (.int .u32 (v:Int)),nD n] [] (.tup [.agg [.ref 0 0 0 (pk (aX l v n)).length 1,nD (l.length+n)],iD 0]) [⟨(pk (aX l v n)).map dB, 5,true⟩]:=by
 have h:=IQ l Y hY m hm v n hn hv hl
 rwa [show iD ((P.length:Int)%8)=nD l.length from congrArg (λ z=>D.v (.int .i64 z)) om]
theorem yK {k g o o' n n':Nat}{x:Int}{y:Nat}{t:TypeId}(h1:o=o')(h2:n=n')(h3:x=((y:Nat):Int)):(⟨[VJ k g o n 1,D.v (.int .i64 x)],t,false⟩:Blk)=⟨[VJ k g o' n' 1,nD y],t,false⟩:=by subst h1 h2 h3;rfl
section
variable {A t:List Bool} {v n w k:Nat}
theorem iG (hw:w=(t.length+n)/8):((aX t v n).take (8*w)).length=8*w∧((aX t v n).drop (8*w)).length=t.length+n-8*w∧t.length+n-8*w<8:=by
 rw[VW,Wr,bc];omega
theorem Do (hA:A.length%8=0)(hk:k=w)(hw:w=(t.length+n)/8):(pk A).map dB++XD dB (Ws k (pk (aX t v n)))=(pk (A++(aX t v n).take (8*w))).map dB:=by
 subst hk;rw[lr hA,Wz,(kC (l:=aX t v n) (n:=k) (by rw[bc];omega)).2]
theorem er (hA:A.length%8=0)(hw:w=(t.length+n)/8):(pk (A++(aX t v n).take (8*w))).length=(pk A).length+w:=by
 rw[ac,ac,VI,(iG hw).1];omega
theorem Qc (hA:A.length%8=0)(hw:w=(t.length+n)/8):(A++(aX t v n).take (8*w)).length%8=0:=by
 rw[VI,(iG hw).1];omega
theorem Qd (hw:w=(t.length+n)/8):((aX t v n).drop (8*w)).length<8:=by
 rw[(iG (v:=v) hw).2.1];exact(iG (v:=v) hw).2.2
theorem Qe (hw:w=(t.length+n)/8):PkE (Ws ((pk (aX t v n)).length-w) (Wx w (pk (aX t v n)))) ((aX t v n).drop (8*w)):=⟨by rw[Wm (by rw[Wr];exact VT _)];exact(kC (l:=aX t v n) (n:=w) (by rw[bc];omega)).1.symm⟩
theorem Qf (hw:w=(t.length+n)/8):w<=(pk (aX t v n)).length:=by rw[ac,bc];omega
theorem Qg {P:List Bool}{X:List Nm}{i:Nat}(hB:A++t=dZ P X i)(hi:i<X.length)(hv:v=(X.getD i lh).v)(hn:n=(X.getD i lh).n):(A++(aX t v n).take (8*w))++(aX t v n).drop (8*w)=dZ P X (i+1):=by
 subst hv hn;rw[Wc,XR,jW,<-Wc,hB,uJ hi]
theorem Lp {B:List Bool}{o:Nat}{Z:Z4}(hA:A.length%8=0)(hB:A++t=B)(hZ:PkE (Ws (Z.length-o) (Wx o Z)) t):(pk A).map dB++XD dB (Ws (Z.length-o) (Wx o Z))=(pk B).map dB:=by
 subst hB;rw[hZ.h,lr hA,Wz]
theorem Dp (B:Z4)(k:Nat):(bif true&&VK (k*1) (XD dB B).length then XD dB B else Ws (k*1) (Wx 0 (XD dB B)))=XD dB (Ws k B):=(bG B 0 (k*1)).trans (by simp)
theorem Qh (B:Z4)(o k:Nat):(bif VK o 0&&VK (k*1) (XD dB B).length then XD dB B else Ws (k*1) (Wx o (XD dB B)))=XD dB (Ws k (Wx o B)):=(bG B o (k*1)).trans (by simp)
theorem mw {n N:Nat}{x:Int}(h:x=n)(h2:n<=N):(aT (some x) none none N&&true)=true:=by
 subst h;simp[aT,de,bm];omega
theorem Ge {n n':Nat}{x:Int}{y:Nat}(h1:n=n')(h2:x=((y:Nat):Int)):WL [Wu [VJ 0 0 0 n 1,D.v (.int .i64 x)],D.v (.int .i64 0)]=WL [Wu [VJ 0 0 0 n' 1,nD y],iD 0]:=by subst h1 h2;rfl
end
def pA (P:List Bool):List Bool:=P.take (8*(P.length/8))
def pT (P:List Bool):List Bool:=P.drop (8*(P.length/8))
theorem jd (P:List Bool):(pA P).length=8*(P.length/8):=by unfold pA;rw[VW];omega
theorem je (P:List Bool):(pT P).length=P.length%8:=by unfold pT;rw[Wr];omega
theorem so (P:List Bool):(pA P).length%8=0:=by rw[jd];omega
theorem Vz (P:List Bool):pA P++pT P=P:=XR _ _
theorem uL (P:List Bool){k:Nat}(hk:k=P.length/8):PkE (Wx k (pk P)) (pT P):=by
 subst hk;exact⟨(kC (l:=P) (n:=P.length/8) om).1.symm⟩
theorem Qi (P:List Bool){k:Nat}(hk:k=P.length/8):Ws k (pk P)=pk (pA P):=by
 subst hk;exact(kC (l:=P) (n:=P.length/8) om).2.symm
theorem yL (l:List Tn)(k:Nat)(hk:k=l.length)(hk2:k<=65535)(hl:∀i,kU (l.getD i lh))(raw:Z4)(r:Nat)(hr:r=raw.length)(hr2:r<=65535)(kd:Nat)(hkd:kd<=2):S0 64 [dY kd,.sl false r 1 (raw.map dB),.sl false k 3 (l.flatMap bb)] [] (iD 0) []:=by
 match kd,hkd with
 |0,_=>exact FJ l k hk hk2 hl raw r hr hr2
 |1,_=>exact FK l k hk hk2 hl raw r hr hr2
 |2,_=>exact FL l k hk hk2 hl raw r hr hr2
theorem Dq (nn:Bool)(X:List Nm)(n:Nat)(hn:n=X.length)(hn2:n<=1000000)(hX:∀i,(X.getD i lh).v<2^(X.getD i lh).n∧(X.getD i lh).n<=32):S0 66 [.ep [.sl nn n 2 (X.flatMap aD)] 0] [] (nD (pf X)) []:=SpR Tryz.func66 rfl rfl rfl trivial rfl 1000 64 (λ R ok=>.s 11<|Hn.inl T_ok ah false 20 0 (aq Tryz.prog 66 0) (λ(x:(i:Nat)×'(hi:i<=n)×'Unit)=>match x with|⟨i,hi,_⟩=>VZ [(2,nD (k5 X i)),(8,V3 nn n 2 (flatMap aD X)),(9,zN n),(10,nD i)] [] 0) (λ(x:(i:Nat)×'(hi:i<=n)×'Unit)=>match x with|⟨i,hi,_⟩=>n-i) [⟨Unit,.exit 0,λ x=>match x with|()=>VZ [(2,nD (pf X)),(8,V3 nn n 2 (flatMap aD X)),(9,zN n),(10,nD n)] [] 0⟩] 1000 64 (fun|⟨i,hi,_⟩,Q,ZB,ZD=>.B 2 ((i:Int)<n) (λ p0 Z9=>.K 1 (true&&decide ((i:Int)<n)&&true) (by((refine aC ?_ ?_)<;>(repeat' (first|(refine aC ?_ ?_)|(with_reducible rfl)|(refine decide_eq_true ?_)|(refine VL ?_)|(refine dA ?_)))<;>(omega)))<|.K 2 (VN (i*2+2) (length (flatMap aD X))) Ul<|.lst (take 2 (drop (i*2) (flatMap aD X))) ([ai (Nm.v (getD X i lh)),zN (Nm.n (getD X i lh))]) (aJ (k:=2) (i:=i) (λ _=>rfl) om om)<|.I 14 ((↑(k5 X i):Int)+(↑(Nm.n (getD X i lh)):Int)) (by(have h8:=HG (λ i=>(hX i).2) i;have h9:=hX i;omega))<|.W 3 (i+1)<|.V 1 2 (zI ((↑(k5 X i):Int)+(↑(Nm.n (getD X i lh)):Int))) (zN (k5 X (i+1))) (by(refine aG ?_;rw[k5];omega))<|.val 10 (zI (i+1)) (zN (i+1)) (by(refine aG ?_;(omega)))<|Hn.next ZB ⟨(i+1),om,⟨⟩⟩ (by show n-(i+1)<n-i;clear ZB ZD;omega) [] ro) (λ p0 Z9=>.val 2 (zN (k5 X i)) (zN (pf X)) (by(rw[rm,<-hn,show i=n from by omega]))<|.val 10 (zN i) (zN n) (by(refine aG ?_;(omega)))<|Hn.last ZD 0 (():Unit) rfl [] ro)) (fun|⟨i,hi,_⟩=>by kernel_rfl) ⟨(0),om,⟨⟩⟩ [] ro (bM (fun|()=>.Y 2 [] [] (zN (pf X)) [] ok))) kr
attribute [local simp] bX
theorem Dr (P:List Bool)(m:Nat)(hm:m=(pk P).length)(kd:Nat)(raw:Z4)(r:Nat)(hr:r=raw.length)(hr2:r<=65535)(l:List Tn)(k:Nat)(hk:k=l.length)(hk2:k<=65535)(hl:∀i,kU (l.getD i lh))(last:Bool)(X:List Nm)(hO:OfV (P.length%8) kd raw r l k last X)(hN0:0<X.length)(hP:P.length+pf X<=8388608)(hkd:kd<=2):S0 57 [m5 m P,dY kd,.sl false r 1 (raw.map dB),.sl false k 3 (l.flatMap bb),bD last] [] (.tup [.agg [.ref 0 0 0 (pk (dZ P X X.length)).length 1,nD (dZ P X X.length).length],iD 0]) [⟨(pk (dZ P X X.length)).map dB, 5,true⟩]:=by
 have hX:=hO.ok;have hXl:=hO.len;have hPl:=ac P;have hS:=rm X;have hp0:=uL P (k:=((P.length:Int)/8).toNat) om;have hcl:ae (X.flatMap aD)=true:=bW (λ _=>rfl) X;refine SpR Tryz.func57 rfl rfl rfl ⟨aI _,trivial⟩ rfl 1000 64 (λ R ok=>.C 10 43 false [] (.fn Jt (@oc (P) (m) om om))<|.C 9 64 false [] (.fn UK (@yL (l) (k) om om om (raw) (r) om om (kd) om))<|.O 13 (aV VV (WW (↑(length P):Int) 8)) (zI ((↑(length P):Int)%8)) (au (@bw  ((↑(length P):Int)) (8) om))<|.C 5 65 false [] (.fn UL (@Un (P) (kd) (raw) (r) (l) (k) (last) (X) aO))<|.L 10 66 false [] (true&&(true&&(wB (flatMap aD X) (length X) 2&&true))&&true) (by unfold wB;(simp only[bX,Wd,WK,aaD,cond_true,V8,Wf,hcl,WT];omega)) ([D.ep [V3 (VN 1 (length X)) (length X) 2 (bif true&&VK (length X*2) (length (flatMap aD X))then flatMap aD X else take (length X*2) (drop 0 (flatMap aD X)))] 0]) (by exact(V4 (D.sim.of_eq (by(rw[bX];simp;done))) trivial)) (V0 (ao.of Tryz.func66 rfl rfl) (@Dq (VN 1 (length X)) (X) (length X) om om om))<|.W 2 ((↑(length P):Int)+(↑(pf X):Int))<|.F 2 (decide (8388608<(↑(length P):Int)+(↑(pf X):Int))) Mp<|.O 8 (aV VV (VU VV (WZ (↑(length P):Int) 8))) (zI ((↑(length P):Int)/8)) (au (@aN  ((↑(length P):Int)) (8) om om))<|.K 9 (aT none (some ((↑(length P):Int)/8)) none m&&true) Mp<|.L 1 56 false [] (true) wr ([V3 false (zq ((↑(length P):Int)/8)) 1 (take (zq ((↑(length P):Int)/8)*1) (map dB (pk P)))]) (by exact(V4 (D.sim.slw rfl (by(have q:=uL P (k:=((P.length:Int)/8).toNat) om;first|(simp;done)|simpa using q))) trivial)) (.fn xe (@cY (take (zq ((↑(length P):Int)/8)) (pk P)) (zq ((↑(length P):Int)/8)) U4 om))<|.K 10 (aT (some ((↑(length P):Int)/8)) none none m&&true) Mp<|.O 8 (aV VV (WW (↑(length P):Int) 8)) (zI ((↑(length P):Int)%8)) (au (@bw  ((↑(length P):Int)) (8) om))<|.s 17<|.two (.E 2 (decide (0<(↑(length X):Int))) Mp<|.K 1 (true&&decide (0<(↑(length X):Int))) Mp<|.K 2 (VN 2 (length (flatMap aD X))) Ul<|.lst (take 2 (drop 0 (flatMap aD X))) ([ai (Nm.v (getD X 0 lh)),zN (Nm.n (getD X 0 lh))]) (aJ (k:=2) (i:=0) (λ _=>rfl) om om)<|.L 22 74 false [] (true) wr ([Wu [V3 false (m-zq ((↑(length P):Int)/8)) 1 (drop (zq ((↑(length P):Int)/8)*1) (map dB (pk P))),zI ((↑(length P):Int)%8)],ai (Nm.v (getD X 0 lh)),zN (Nm.n (getD X 0 lh))]) (by exact(V4 (D.sim.agg (V4 (D.sim.slw rfl (by(have q:=uL P (k:=((P.length:Int)/8).toNat) om;first|(simp;done)|simpa using q))) (qr trivial))) (qr (qr trivial)))) (V0 (ao.of Tryz.func74 rfl rfl) (@Qb (P) (pT P) (drop (zq ((↑(length P):Int)/8)) (pk P)) aO (by(exact je P)) (m-zq ((↑(length P):Int)/8)) Mp (Nm.v (getD X 0 lh)) (Nm.n (getD X 0 lh)) (by(exact(hX _).2)) (by(exact(hX _).1)) U5))<|.O 16 (aV VV (VU VV (WZ (↑(length (pT P)+Nm.n (getD X 0 lh)):Int) 8))) (zI ((↑(length (pT P)+Nm.n (getD X 0 lh)):Int)/8)) (au (@aN  ((↑(length (pT P)+Nm.n (getD X 0 lh)):Int)) (8) U5 om))<|.K 10 (aT none (some ((↑(length (pT P)+Nm.n (getD X 0 lh)):Int)/8)) none (length (pk (aX (pT P) (Nm.v (getD X 0 lh)) (Nm.n (getD X 0 lh)))))&&true) (by(have y1:=hX 0;have y2:=eo (X:=X) (i:=0) (n:=X.length) om;have y5:=je P;have y6:=ac (aX (pT P) (X.getD 0 lh).v (X.getD 0 lh).n);rw[bc]at y6;have y7:=iG (t:=pT P) (v:=(X.getD 0 lh).v) (n:=(X.getD 0 lh).n) (w:=(((pT P).length+(X.getD 0 lh).n)/8)) rfl;have y8:=er (A:=pA P) (t:=pT P) (v:=(X.getD 0 lh).v) (n:=(X.getD 0 lh).n) (w:=(((pT P).length+(X.getD 0 lh).n)/8)) (so P) rfl;have y9:=jd P;have y4:=ac (pA P);exact jL (n:=(((pT P).length+(X.getD 0 lh).n)/8)) om om))<|.K 1 (true&&VK (zq ((↑(length P):Int)/8)*1) (length (map dB (take (zq ((↑(length P):Int)/8)) (pk P))))&&true&&(true&&VN (0+zq ((↑(length (pT P)+Nm.n (getD X 0 lh)):Int)/8)*1) (length (map dB (pk (aX (pT P) (Nm.v (getD X 0 lh)) (Nm.n (getD X 0 lh)))))))&&true&&true&&VN ((zq ((↑(length P):Int)/8)+zq ((↑(length (pT P)+Nm.n (getD X 0 lh)):Int)/8))*1) 140737488355328) U4<|.K 10 (aT (some ((↑(length (pT P)+Nm.n (getD X 0 lh)):Int)/8)) none none (length (pk (aX (pT P) (Nm.v (getD X 0 lh)) (Nm.n (getD X 0 lh)))))&&true) (by(have y1:=hX 0;have y2:=eo (X:=X) (i:=0) (n:=X.length) om;have y5:=je P;have y6:=ac (aX (pT P) (X.getD 0 lh).v (X.getD 0 lh).n);rw[bc]at y6;have y7:=iG (t:=pT P) (v:=(X.getD 0 lh).v) (n:=(X.getD 0 lh).n) (w:=(((pT P).length+(X.getD 0 lh).n)/8)) rfl;have y8:=er (A:=pA P) (t:=pT P) (v:=(X.getD 0 lh).v) (n:=(X.getD 0 lh).n) (w:=(((pT P).length+(X.getD 0 lh).n)/8)) (so P) rfl;have y9:=jd P;have y4:=ac (pA P);exact mw (n:=(((pT P).length+(X.getD 0 lh).n)/8)) om om))<|.O 8 (aV VV (WW (↑(length (pT P)+Nm.n (getD X 0 lh)):Int) 8)) (zI ((↑(length (pT P)+Nm.n (getD X 0 lh)):Int)%8)) (au (@bw  ((↑(length (pT P)+Nm.n (getD X 0 lh)):Int)) (8) om))<|.V 9 16 (VJ 640 640 0 (zq ((↑(length P):Int)/8)+zq ((↑(length (pT P)+Nm.n (getD X 0 lh)):Int)/8)) 1) (VJ 640 640 0 (length (pk (pA P++take (8*((length (pT P)+Nm.n (getD X 0 lh))/8)) (aX (pT P) (Nm.v (getD X 0 lh)) (Nm.n (getD X 0 lh)))))) 1) (by(refine congrArg (λ n=>VJ _ _ 0 n 1) ?_;have y1:=hX 0;have y2:=eo (X:=X) (i:=0) (n:=X.length) om;have y5:=je P;have y6:=ac (aX (pT P) (X.getD 0 lh).v (X.getD 0 lh).n);rw[bc]at y6;have y7:=iG (t:=pT P) (v:=(X.getD 0 lh).v) (n:=(X.getD 0 lh).n) (w:=(((pT P).length+(X.getD 0 lh).n)/8)) rfl;have y8:=er (A:=pA P) (t:=pT P) (v:=(X.getD 0 lh).v) (n:=(X.getD 0 lh).n) (w:=(((pT P).length+(X.getD 0 lh).n)/8)) (so P) rfl;have y9:=jd P;have y4:=ac (pA P);omega))<|.blk 384 384 (VF [VJ 528 528 (0+zq ((↑(length (pT P)+Nm.n (getD X 0 lh)):Int)/8)*1) (length (pk (aX (pT P) (Nm.v (getD X 0 lh)) (Nm.n (getD X 0 lh))))-zq ((↑(length (pT P)+Nm.n (getD X 0 lh)):Int)/8)) 1,zI ((↑(length (pT P)+Nm.n (getD X 0 lh)):Int)%8)] 26 false) (VF [VJ 528 528 ((length (pT P)+Nm.n (getD X 0 lh))/8) (length (pk (aX (pT P) (Nm.v (getD X 0 lh)) (Nm.n (getD X 0 lh))))-(length (pT P)+Nm.n (getD X 0 lh))/8) 1,zN (length (drop (8*((length (pT P)+Nm.n (getD X 0 lh))/8)) (aX (pT P) (Nm.v (getD X 0 lh)) (Nm.n (getD X 0 lh)))))] 26 false) (by(refine yK ?_ ?_ ?_<;>(have y1:=hX 0;have y2:=eo (X:=X) (i:=0) (n:=X.length) om;have y5:=je P;have y6:=ac (aX (pT P) (X.getD 0 lh).v (X.getD 0 lh).n);rw[bc]at y6;have y7:=iG (t:=pT P) (v:=(X.getD 0 lh).v) (n:=(X.getD 0 lh).n) (w:=(((pT P).length+(X.getD 0 lh).n)/8)) rfl;have y8:=er (A:=pA P) (t:=pT P) (v:=(X.getD 0 lh).v) (n:=(X.getD 0 lh).n) (w:=(((pT P).length+(X.getD 0 lh).n)/8)) (so P) rfl;have y9:=jd P;have y4:=ac (pA P);omega)))<|.blk 640 640 (VF (map dB (take (zq ((↑(length P):Int)/8)) (pk P))++bif true&&VK (zq ((↑(length (pT P)+Nm.n (getD X 0 lh)):Int)/8)*1) (length (map dB (pk (aX (pT P) (Nm.v (getD X 0 lh)) (Nm.n (getD X 0 lh))))))then map dB (pk (aX (pT P) (Nm.v (getD X 0 lh)) (Nm.n (getD X 0 lh))))else take (zq ((↑(length (pT P)+Nm.n (getD X 0 lh)):Int)/8)*1) (drop 0 (map dB (pk (aX (pT P) (Nm.v (getD X 0 lh)) (Nm.n (getD X 0 lh))))))) 5 true) (VF (map dB (pk (pA P++take (8*((length (pT P)+Nm.n (getD X 0 lh))/8)) (aX (pT P) (Nm.v (getD X 0 lh)) (Nm.n (getD X 0 lh)))))) 5 true) (by(rw[Qi P om,Dp];refine aw (Do (so P) ?_ rfl);omega))<|Hn.inl T_ok ah false 113 0 (aq Tryz.prog 57 0) (λ(x:(i:Nat)×'(A:List Bool)×'(t:List Bool)×'(Z:Z4)×'(o:Nat)×'(hi:1<=i∧i<=X.length)×'(hA:A.length%8=0)×'(ht:t.length<8)×'(hB:A++t=dZ P X i)×'(hZ:PkE (take (Z.length-o) (drop o Z)) t)×'(ho:o<=Z.length)×'Unit)=>match x with|⟨i,A,t,Z,o,hi,hA,ht,hB,hZ,ho,_⟩=>VZ [(10,V7 0 0 0),(16,(VJ 32 32 (0) ((pk A).length) 1)),(17,V7 16 16 0),(69,VJ 8 8 0 (length X) 2),(70,zN (length X)),(71,nD i)] [⟨0,0,8,8,.b ⟨[zS,zI 0],26,false⟩⟩,⟨8,8,177,177,.b ⟨flatMap aD X,126,true⟩⟩,⟨16,16,384,384,.b ⟨[(VJ 24 24 (o) (Z.length-o) 1),nD t.length],26,false⟩⟩,⟨24,24,528,528,.b ⟨Z.map dB,5,true⟩⟩,⟨32,32,640,640,.b ⟨(pk A).map dB,5,true⟩⟩] 40) (λ(x:(i:Nat)×'(A:List Bool)×'(t:List Bool)×'(Z:Z4)×'(o:Nat)×'(hi:1<=i∧i<=X.length)×'(hA:A.length%8=0)×'(ht:t.length<8)×'(hB:A++t=dZ P X i)×'(hZ:PkE (take (Z.length-o) (drop o Z)) t)×'(ho:o<=Z.length)×'Unit)=>match x with|⟨i,A,t,Z,o,hi,hA,ht,hB,hZ,ho,_⟩=>X.length-i) [⟨(A2:List Bool)×'(t2:List Bool)×'(Z2:Z4)×'(o2:Nat)×'(hA2:A2.length%8=0)×'(hB2:A2++t2=dZ P X X.length)×'(hZ2:PkE (take (Z2.length-o2) (drop o2 Z2)) t2)×'(ho2:o2<=Z2.length)×'Unit,.exit 0,λ x=>match x with|⟨A2,t2,Z2,o2,hA2,hB2,hZ2,ho2,_⟩=>VZ [(10,V7 0 0 0),(16,(VJ 32 32 (0) ((pk A2).length) 1)),(17,V7 16 16 0),(69,VJ 8 8 0 (length X) 2),(70,zN (length X))] [⟨0,0,8,8,.b ⟨[zS,zI 0],26,false⟩⟩,⟨8,8,177,177,.b ⟨flatMap aD X,126,true⟩⟩,⟨16,16,384,384,.b ⟨[(VJ 24 24 (o2) (Z2.length-o2) 1),nD t2.length],26,false⟩⟩,⟨24,24,528,528,.b ⟨Z2.map dB,5,true⟩⟩,⟨32,32,640,640,.b ⟨(pk A2).map dB,5,true⟩⟩] 40⟩] 1000 64 (fun|⟨i,A,t,Z,o,hi,hA,ht,hB,hZ,ho,_⟩,Q,ZB,ZD=>.B 2 ((i:Int)<(↑(length X):Int)) (λ p0 Z9=>.K 1 (true&&decide ((i:Int)<(↑(length X):Int))) aO<|.K 2 (VN (0+i*2+2) (length (flatMap aD X))) Ul<|.lst (take 2 (drop (0+i*2) (flatMap aD X))) ([ai (Nm.v (getD X i lh)),zN (Nm.n (getD X i lh))]) (aJ (k:=2) (i:=i) (λ _=>rfl) om om)<|.L 22 74 false [] (true&&(true&&VN (o+(length Z-o)*1) (length (map dB Z))&&true&&ae (bif VK o 0&&VK ((length Z-o)*1) (length (map dB Z))then map dB Z else take ((length Z-o)*1) (drop o (map dB Z))))&&true&&true) (by(simp[aT,de,bm];have y1:=hX i;have y2:=eo (X:=X) (i:=i) (n:=X.length) om;have y3:=cV (P:=P) (X:=X) i om;have y4:=congrArg length hB;rw[VI]at y4;have y5:=ac A;have y6:=ac (aX t (X.getD i lh).v (X.getD i lh).n);rw[bc]at y6;have y7:=iG (t:=t) (v:=(X.getD i lh).v) (n:=(X.getD i lh).n) (w:=((t.length+(X.getD i lh).n)/8)) rfl;have y8:=er (A:=A) (t:=t) (v:=(X.getD i lh).v) (n:=(X.getD i lh).n) (w:=((t.length+(X.getD i lh).n)/8)) hA rfl;omega)) ([Wu [V3 (VN 1 (length Z-o)) (length Z-o) 1 (bif VK o 0&&VK ((length Z-o)*1) (length (map dB Z))then map dB Z else take ((length Z-o)*1) (drop o (map dB Z))),zN (length t)],ai (Nm.v (getD X i lh)),zN (Nm.n (getD X i lh))]) (by exact(V4 (D.sim.agg (V4 (D.sim.slw rfl ((bG (Z) (o) ((length Z-o)*1)).trans (by(have q:=uL P (k:=((P.length:Int)/8).toNat) om;first|(simp;done)|simpa using q)))) (qr trivial))) (qr (qr trivial)))) (V0 (ao.of Tryz.func74 rfl rfl) (@IQ (t) (take (length Z-o) (drop o Z)) om (length Z-o) U6 (Nm.v (getD X i lh)) (Nm.n (getD X i lh)) (by(exact(hX _).2)) (by(exact(hX _).1)) U7))<|.O 16 (aV VV (VU VV (WZ (↑(length t+Nm.n (getD X i lh)):Int) 8))) (zI ((↑(length t+Nm.n (getD X i lh)):Int)/8)) (au (@aN  ((↑(length t+Nm.n (getD X i lh)):Int)) (8) U7 om))<|.K 10 (aT none (some ((↑(length t+Nm.n (getD X i lh)):Int)/8)) none (length (pk (aX t (Nm.v (getD X i lh)) (Nm.n (getD X i lh)))))&&true) (by(have y1:=hX i;have y2:=eo (X:=X) (i:=i) (n:=X.length) om;have y3:=cV (P:=P) (X:=X) i om;have y4:=congrArg length hB;rw[VI]at y4;have y5:=ac A;have y6:=ac (aX t (X.getD i lh).v (X.getD i lh).n);rw[bc]at y6;have y7:=iG (t:=t) (v:=(X.getD i lh).v) (n:=(X.getD i lh).n) (w:=((t.length+(X.getD i lh).n)/8)) rfl;have y8:=er (A:=A) (t:=t) (v:=(X.getD i lh).v) (n:=(X.getD i lh).n) (w:=((t.length+(X.getD i lh).n)/8)) hA rfl;exact jL (n:=((t.length+(X.getD i lh).n)/8)) om om))<|.K 1 (true&&VK (length (pk A)*1) (length (map dB (pk A)))&&true&&(true&&VN (0+zq ((↑(length t+Nm.n (getD X i lh)):Int)/8)*1) (length (map dB (pk (aX t (Nm.v (getD X i lh)) (Nm.n (getD X i lh)))))))&&true&&true&&VN ((length (pk A)+zq ((↑(length t+Nm.n (getD X i lh)):Int)/8))*1) 140737488355328) (by(have y1:=hX i;have y2:=eo (X:=X) (i:=i) (n:=X.length) om;have y3:=cV (P:=P) (X:=X) i om;have y4:=congrArg length hB;rw[VI]at y4;have y5:=ac A;have y6:=ac (aX t (X.getD i lh).v (X.getD i lh).n);rw[bc]at y6;have y7:=iG (t:=t) (v:=(X.getD i lh).v) (n:=(X.getD i lh).n) (w:=((t.length+(X.getD i lh).n)/8)) rfl;have y8:=er (A:=A) (t:=t) (v:=(X.getD i lh).v) (n:=(X.getD i lh).n) (w:=((t.length+(X.getD i lh).n)/8)) hA rfl;simp only[VP,VW,V8,Wf,VO,Xa,WT];omega))<|.K 10 (aT (some ((↑(length t+Nm.n (getD X i lh)):Int)/8)) none none (length (pk (aX t (Nm.v (getD X i lh)) (Nm.n (getD X i lh)))))&&true) (by(have y1:=hX i;have y2:=eo (X:=X) (i:=i) (n:=X.length) om;have y3:=cV (P:=P) (X:=X) i om;have y4:=congrArg length hB;rw[VI]at y4;have y5:=ac A;have y6:=ac (aX t (X.getD i lh).v (X.getD i lh).n);rw[bc]at y6;have y7:=iG (t:=t) (v:=(X.getD i lh).v) (n:=(X.getD i lh).n) (w:=((t.length+(X.getD i lh).n)/8)) rfl;have y8:=er (A:=A) (t:=t) (v:=(X.getD i lh).v) (n:=(X.getD i lh).n) (w:=((t.length+(X.getD i lh).n)/8)) hA rfl;exact mw (n:=((t.length+(X.getD i lh).n)/8)) om om))<|.O 8 (aV VV (WW (↑(length t+Nm.n (getD X i lh)):Int) 8)) (zI ((↑(length t+Nm.n (getD X i lh)):Int)%8)) (au (@bw  ((↑(length t+Nm.n (getD X i lh)):Int)) (8) om))<|.W 7 (i+1)<|.V 1 16 (VJ 232 232 0 (length (pk A)+zq ((↑(length t+Nm.n (getD X i lh)):Int)/8)) 1) (VJ 232 232 0 (length (pk (A++take (8*((length t+Nm.n (getD X i lh))/8)) (aX t (Nm.v (getD X i lh)) (Nm.n (getD X i lh)))))) 1) (by(refine congrArg (λ n=>VJ _ _ 0 n 1) ?_;have y1:=hX i;have y2:=eo (X:=X) (i:=i) (n:=X.length) om;have y3:=cV (P:=P) (X:=X) i om;have y4:=congrArg length hB;rw[VI]at y4;have y5:=ac A;have y6:=ac (aX t (X.getD i lh).v (X.getD i lh).n);rw[bc]at y6;have y7:=iG (t:=t) (v:=(X.getD i lh).v) (n:=(X.getD i lh).n) (w:=((t.length+(X.getD i lh).n)/8)) rfl;have y8:=er (A:=A) (t:=t) (v:=(X.getD i lh).v) (n:=(X.getD i lh).n) (w:=((t.length+(X.getD i lh).n)/8)) hA rfl;omega))<|.val 71 (zI (i+1)) (zN (i+1)) U6<|.blk 16 16 (VF [VJ 120 120 (0+zq ((↑(length t+Nm.n (getD X i lh)):Int)/8)*1) (length (pk (aX t (Nm.v (getD X i lh)) (Nm.n (getD X i lh))))-zq ((↑(length t+Nm.n (getD X i lh)):Int)/8)) 1,zI ((↑(length t+Nm.n (getD X i lh)):Int)%8)] 26 false) (VF [VJ 120 120 ((length t+Nm.n (getD X i lh))/8) (length (pk (aX t (Nm.v (getD X i lh)) (Nm.n (getD X i lh))))-(length t+Nm.n (getD X i lh))/8) 1,zN (length (drop (8*((length t+Nm.n (getD X i lh))/8)) (aX t (Nm.v (getD X i lh)) (Nm.n (getD X i lh)))))] 26 false) (by(refine yK ?_ ?_ ?_<;>(have y1:=hX i;have y2:=eo (X:=X) (i:=i) (n:=X.length) om;have y3:=cV (P:=P) (X:=X) i om;have y4:=congrArg length hB;rw[VI]at y4;have y5:=ac A;have y6:=ac (aX t (X.getD i lh).v (X.getD i lh).n);rw[bc]at y6;have y7:=iG (t:=t) (v:=(X.getD i lh).v) (n:=(X.getD i lh).n) (w:=((t.length+(X.getD i lh).n)/8)) rfl;have y8:=er (A:=A) (t:=t) (v:=(X.getD i lh).v) (n:=(X.getD i lh).n) (w:=((t.length+(X.getD i lh).n)/8)) hA rfl;omega)))<|.blk 232 232 (VF (map dB (pk A)++bif true&&VK (zq ((↑(length t+Nm.n (getD X i lh)):Int)/8)*1) (length (map dB (pk (aX t (Nm.v (getD X i lh)) (Nm.n (getD X i lh))))))then map dB (pk (aX t (Nm.v (getD X i lh)) (Nm.n (getD X i lh))))else take (zq ((↑(length t+Nm.n (getD X i lh)):Int)/8)*1) (drop 0 (map dB (pk (aX t (Nm.v (getD X i lh)) (Nm.n (getD X i lh))))))) 5 true) (VF (map dB (pk (A++take (8*((length t+Nm.n (getD X i lh))/8)) (aX t (Nm.v (getD X i lh)) (Nm.n (getD X i lh)))))) 5 true) (by(rw[Dp];refine aw (Do hA ?_ rfl);omega))<|Hn.next ZB ⟨(i+1),(A++(aX t (X.getD i lh).v (X.getD i lh).n).take (8*((t.length+(X.getD i lh).n)/8))),((aX t (X.getD i lh).v (X.getD i lh).n).drop (8*((t.length+(X.getD i lh).n)/8))),(pk (aX t (X.getD i lh).v (X.getD i lh).n)),(((t.length+(X.getD i lh).n)/8)),om,(by(exact Qc hA rfl)),(by(exact Qd rfl)),(by(exact Qg hB om rfl rfl)),(by(exact Qe rfl)),(by(exact Qf rfl)),⟨⟩⟩ (by show length X-(i+1)<length X-i;clear ZB ZD;omega) [(0,0),(8,8),(16,16),(120,120),(232,232)] ro) (λ p0 Z9=>(Hn.last ZD 0 (⟨(A),(t),(Z),(o),om,(by(rw[hB,show i=X.length from by omega])),om,om,⟨⟩⟩:(A2:List Bool)×'(t2:List Bool)×'(Z2:Z4)×'(o2:Nat)×'(hA2:A2.length%8=0)×'(hB2:A2++t2=dZ P X X.length)×'(hZ2:PkE (take (Z2.length-o2) (drop o2 Z2)) t2)×'(ho2:o2<=Z2.length)×'Unit) rfl [(0,0),(8,8),(16,16),(24,24),(32,32)] ro))) (fun|⟨i,A,t,Z,o,hi,hA,ht,hB,hZ,ho,_⟩=>by kernel_rfl) ⟨(1),(pA P++(aX (pT P) (X.getD 0 lh).v (X.getD 0 lh).n).take (8*(((pT P).length+(X.getD 0 lh).n)/8))),((aX (pT P) (X.getD 0 lh).v (X.getD 0 lh).n).drop (8*(((pT P).length+(X.getD 0 lh).n)/8))),(pk (aX (pT P) (X.getD 0 lh).v (X.getD 0 lh).n)),((((pT P).length+(X.getD 0 lh).n)/8)),om,(by(exact Qc (so P) rfl)),(by(exact Qd rfl)),(by(exact Qg (A:=pA P) (t:=pT P) (by rw[Vz,yJ]) om rfl rfl)),(by(exact Qe rfl)),(by(exact Qf rfl)),⟨⟩⟩ [(8,8),(177,177),(384,384),(528,528),(640,640)] ro (bM (fun|⟨A2,t2,Z2,o2,hA2,hB2,hZ2,ho2,_⟩=>.K 9 (true&&VK (length (pk A2)*1) (length (map dB (pk A2)))&&true&&(true&&VN (o2+(length Z2-o2)*1) (length (map dB Z2)))&&true&&true&&VN ((length (pk A2)+(length Z2-o2))*1) 140737488355328) (by(have y4:=congrArg length hB2;rw[VI,cV X.length (VT _)]at y4;have y5:=ac A2;have y6:=congrArg length hZ2.h;rw[VW,Wr,ac]at y6;have y3:=cV (P:=P) (X:=X) X.length (VT _);have y7:=ac (dZ P X X.length);simp only[VP,VW,V8,Wf,VO,Xa,WT];omega))<|.I 4 (8*(↑(length (pk A2)):Int)) U8<|.I 8 (8*(↑(length (pk A2)):Int)+(↑(length t2):Int)) U8<|.U 9 [64] [64] (WL [Wu [VJ 0 0 0 (length (pk A2)+(length Z2-o2)) 1,zI (8*(↑(length (pk A2)):Int)+(↑(length t2):Int))],zI 0]) [VF (map dB (pk A2)++bif VK o2 0&&VK ((length Z2-o2)*1) (length (map dB Z2))then map dB Z2 else take ((length Z2-o2)*1) (drop o2 (map dB Z2))) 5 true] R (ok _ _ (by(have y4:=congrArg length hB2;rw[VI,cV X.length (VT _)]at y4;have y5:=ac A2;have y6:=congrArg length hZ2.h;rw[VW,Wr,ac]at y6;have y3:=cV (P:=P) (X:=X) X.length (VT _);have y7:=ac (dZ P X X.length);refine Ge ?_ ?_<;>(first|omega|(rw[show IntKind.i64.wrap (8*((pk A2).length:Int))=8*((pk A2).length:Int)from No om,No om];omega)))) (by(rw[Qh];exact congrArg (λ z=>[VF z 5 true]) (Lp hA2 hB2 hZ2))))))) .nil) kr
theorem Lq {p:Prop}(h:p:=by(have h9:=hX i;have h8:=cV (P:=P) (X:=X) i om;have h7:=wu (λ i=>(hX i).2) i;omega)):p:=h
theorem wu {X:List Nm}(h:∀i,(X.getD i lh).n<=32):∀i,k5 X i<=32*i
 |0=>VT _
 |i+1=>by rw[k5];have:=wu h i;have:=h i;omega
theorem Qj (X:List Nm)(h:0<X.length):(X.flatMap aD)[0]? =some (cR (X.getD 0 lh).v):=by
 cases X with
 |nil=>simp at h
 |cons x r=>rfl
theorem Qk (X:List Nm)(h:0<X.length):(X.flatMap aD)[1]? =some (nD (X.getD 0 lh).n):=by
 cases X with
 |nil=>simp at h
 |cons x r=>rfl
theorem Ql {P:List Bool}{X:List Nm}(h:0<X.length):aX P (X.getD 0 lh).v (X.getD 0 lh).n=dZ P X 1:=by
 rw[uJ h,yJ,jW]
theorem Qm {P:List Bool}{X:List Nm}{i:Nat}(h:i<X.length):aX (dZ P X i) (X.getD i lh).v (X.getD i lh).n=dZ P X (i+1):=by
 rw[uJ h,jW]
theorem Lr {P:List Bool}{X:List Nm}{i:Nat}(h:i<X.length){z:Nat}(hz:z=(dZ P X i).length):z+(X.getD i lh).n=(dZ P X (i+1)).length:=by
 rw[hz,uJ h,VI,lu]
theorem Uo (P:List Bool)(m:Nat)(hm:m=(pk P).length)(hP:P.length<=5000000)(X:List Nm)(n:Nat)(hn:n=X.length)(hn2:n<=100000)(hn0:0<n)(hX:∀i,(X.getD i lh).v<4294967296∧(X.getD i lh).n<=32):S0 78 [m5 m P,.sl false n 2 (X.flatMap aD)] [] (.agg [.ref 0 0 0 (pk (dZ P X n)).length 1,nD (dZ P X n).length]) [⟨(pk (dZ P X n)).map dB, 5,true⟩]:=SpR Tryz.func78 rfl rfl rfl ⟨aI _,trivial⟩ rfl 1000 64 (λ R ok=>.s 5<|.two (.E 5 (decide (0<(n:Int))) (by(refine decide_eq_true ?_;(omega)))<|.K 8 (true&&decide (0<(n:Int))&&true) JO<|.O 5 ((flatMap aD X)[0]?) (cR (Nm.v (getD X 0 lh))) (@Qj X om)<|.K 3 (true&&decide (0<(n:Int))&&true) JO<|.O 5 ((flatMap aD X)[1]?) (nD (Nm.n (getD X 0 lh))) (@Qk X om)<|.C 1 98 false [] (.fn Vo (@Pu (P) (m) om om (Nm.v (getD X 0 lh)) (Nm.n (getD X 0 lh)) (by(have h9:=hX 0;omega)) (by(have h9:=hX 0;omega))))<|.M 8 0 0 (VF [VJ 144 144 0 (length (pk (aX P (Nm.v (getD X 0 lh)) (Nm.n (getD X 0 lh))))) 1,zN (length P+Nm.n (getD X 0 lh))] 26 false) (VF [VJ 144 144 0 (length (pk (dZ P X 1))) 1,zN (length (dZ P X 1))] 26 false) (by(refine RN (by rw[Ql om]) ?_;have z:=Lr (P:=P) (X:=X) (i:=0) om rfl;rw[yJ,Wd]at z;show((_:Nat):Int)=_;omega))<|.blk 144 144 (VF (map dB (pk (aX P (Nm.v (getD X 0 lh)) (Nm.n (getD X 0 lh))))) 5 true) (VF (map dB (pk (dZ P X 1))) 5 true) (by(rw[Ql om]))<|Hn.inl T_ok ah false 25 0 (aq Tryz.prog 78 0) (λ(x:(i:Nat)×'(hi:1<=i∧i<=n)×'Unit)=>match x with|⟨i,hi,_⟩=>VZ [(1,V3 false n 2 (flatMap aD X)),(2,V7 0 0 0),(4,V7 8 8 0),(5,nD i)] [⟨0,0,0,0,.b ⟨[(VJ 16 16 (0) ((pk (dZ P X i)).length) 1),nD (dZ P X i).length],26,false⟩⟩,⟨8,8,8,8,.b ⟨[zS,zI 0],26,false⟩⟩,⟨16,16,144,144,.b ⟨(pk (dZ P X i)).map dB,5,true⟩⟩] 24) (λ(x:(i:Nat)×'(hi:1<=i∧i<=n)×'Unit)=>match x with|⟨i,hi,_⟩=>n-i) [⟨Unit,.exit 0,λ x=>match x with|()=>VZ [(1,V3 false n 2 (flatMap aD X)),(2,V7 0 0 0),(4,V7 8 8 0)] [⟨0,0,0,0,.b ⟨[(VJ 16 16 (0) ((pk (dZ P X n)).length) 1),nD (dZ P X n).length],26,false⟩⟩,⟨8,8,8,8,.b ⟨[zS,zI 0],26,false⟩⟩,⟨16,16,144,144,.b ⟨(pk (dZ P X n)).map dB,5,true⟩⟩] 24⟩] 1000 64 (fun|⟨i,hi,_⟩,Q,ZB,ZD=>.B 5 ((i:Int)<n) (λ p0 Z9=>.K 8 (true&&decide ((i:Int)<n)&&true) JO<|.O 5 ((flatMap aD X)[i*2+0]?) (ai (Nm.v (getD X i lh))) (cX (k:=2) (i:=i) (j:=0) (λ _=>rfl) om om rfl)<|.K 3 (true&&decide ((i:Int)<n)&&true) JO<|.O 5 ((flatMap aD X)[i*2+1]?) (zN (Nm.n (getD X i lh))) (cX (k:=2) (i:=i) (j:=1) (λ _=>rfl) om om rfl)<|.L 1 98 false [] (true&&(wB (map dB (pk (dZ P X i))) (length (pk (dZ P X i))) 1)&&true&&true) (by unfold wB;(simp;done)) ([Wu [wD (map dB (pk (dZ P X i))) (length (pk (dZ P X i))) 1,zN (length (dZ P X i))],ai (Nm.v (getD X i lh)),zN (Nm.n (getD X i lh))]) (by exact(V4 (D.sim.agg (V4 (D.sim.slw rfl (aL (by(simp;done))|>.trans rfl)) (qr trivial))) (qr (qr trivial)))) (.fn Vo (@Pu (dZ P X i) (length (pk (dZ P X i))) om Lq (Nm.v (getD X i lh)) (Nm.n (getD X i lh)) Lq Lq))<|.W 6 (i+1)<|.V 1 5 (zI (i+1)) (zN (i+1)) (by(refine aG ?_;have z:=Lr (P:=P) (X:=X) (i:=i) om rfl;omega))<|.blk 0 0 (VF [VJ 144 144 0 (length (pk (aX (dZ P X i) (Nm.v (getD X i lh)) (Nm.n (getD X i lh))))) 1,zN (length (dZ P X i)+Nm.n (getD X i lh))] 26 false) (VF [VJ 144 144 0 (length (pk (dZ P X (i+1)))) 1,zN (length (dZ P X (i+1)))] 26 false) (by(refine RN (by rw[Qm om]) ?_;have z:=Lr (P:=P) (X:=X) (i:=i) om rfl;show((_:Nat):Int)=_;omega))<|.blk 144 144 (VF (map dB (pk (aX (dZ P X i) (Nm.v (getD X i lh)) (Nm.n (getD X i lh))))) 5 true) (VF (map dB (pk (dZ P X (i+1)))) 5 true) (by(rw[Qm om]))<|Hn.next ZB ⟨(i+1),om,⟨⟩⟩ (by show n-(i+1)<n-i;clear ZB ZD;omega) [(0,0),(8,8),(144,144)] ro) (λ p0 Z9=>.blk 0 0 (VF [VJ 16 16 0 (length (pk (dZ P X i))) 1,zN (length (dZ P X i))] 26 false) (VF [VJ 16 16 0 (length (pk (dZ P X n))) 1,zN (length (dZ P X n))] 26 false) (by(rw[show i=n from by omega]))<|.blk 16 16 (VF (map dB (pk (dZ P X i))) 5 true) (VF (map dB (pk (dZ P X n))) 5 true) (by(rw[show i=n from by omega]))<|Hn.last ZD 0 (():Unit) rfl [(0,0),(8,8),(16,16)] ro)) (fun|⟨i,hi,_⟩=>by kernel_rfl) ⟨(1),om,⟨⟩⟩ [(0,0),(8,8),(144,144)] ro (bM (fun|()=>.Y 10 [16] [16] (Wu [VJ 0 0 0 (length (pk (dZ P X n))) 1,zN (length (dZ P X n))]) [VF (map dB (pk (dZ P X n))) 5 true] ok))) .nil) kr
theorem qv (X:List Nm)(n:Nat)(hn:n=X.length)(hn2:n<=100000)(hX:∀i,(X.getD i lh).n<=32):S0 80 [.sl false n 2 (X.flatMap aD)] [] (nD (pf X)) []:=SpR Tryz.func80 rfl rfl rfl trivial rfl 1000 64 (λ R ok=>.s 3<|Hn.inl T_ok ah false 19 0 (aq Tryz.prog 80 0) (λ(x:(i:Nat)×'(hi:i<=n)×'Unit)=>match x with|⟨i,hi,_⟩=>VZ [(0,V3 false n 2 (flatMap aD X)),(3,nD (k5 X i)),(4,nD i)] [] 0) (λ(x:(i:Nat)×'(hi:i<=n)×'Unit)=>match x with|⟨i,hi,_⟩=>n-i) [⟨Unit,.exit 0,λ x=>match x with|()=>VZ [(0,V3 false n 2 (flatMap aD X)),(3,nD (pf X))] [] 0⟩] 1000 64 (fun|⟨i,hi,_⟩,Q,ZB,ZD=>.B 5 ((i:Int)<n) (λ p0 Z9=>.K 4 (true&&decide ((i:Int)<n)&&true) JO<|.O 5 ((flatMap aD X)[i*2+1]?) (zN (Nm.n (getD X i lh))) (cX (k:=2) (i:=i) (j:=1) (λ _=>rfl) om om rfl)<|.I 2 ((↑(k5 X i):Int)+(↑(Nm.n (getD X i lh)):Int)) (by(have h9:=hX i;have h7:=wu hX i;omega))<|.W 4 (i+1)<|.V 1 3 (zI ((↑(k5 X i):Int)+(↑(Nm.n (getD X i lh)):Int))) (zN (k5 X (i+1))) (by(refine aG ?_;rw[k5];omega))<|.val 4 (zI (i+1)) (zN (i+1)) (by(refine aG ?_;(omega)))<|Hn.next ZB ⟨(i+1),om,⟨⟩⟩ (by show n-(i+1)<n-i;clear ZB ZD;omega) [] ro) (λ p0 Z9=>.val 3 (zN (k5 X i)) (zN (pf X)) (by(rw[rm,<-hn,show i=n from by omega]))<|Hn.last ZD 0 (():Unit) rfl [] ro)) (fun|⟨i,hi,_⟩=>by kernel_rfl) ⟨(0),om,⟨⟩⟩ [] ro (bM (fun|()=>.Y 2 [] [] (zN (pf X)) [] ok))) kr
theorem Gf {p:Prop}(h:p:=by(simp only[bX,hpl,lH,WK,V8,Wf];refine VL ?_;(omega))):p:=h
theorem Gg {p:Prop}(h:p:=by(rw[show j=fv a from by omega,hH1])):p:=h
theorem Gh {p:Prop}(h:p:=by(rw[show i=r from by omega])):p:=h
theorem Qn {p:Prop}(h:p:=by(refine aw ?_;rw[Dt,hH,he];(first|rw[show last=true from by assumption]|rw[show last=false from by assumption]);rfl)):p:=h
theorem Qp {p:Prop}(h:p:=by(have h9:=sr H2 (raw:=raw) (i:=i) om;simp only[bX,h9,lH2,WK,V8,Wf];refine VL ?_;omega)):p:=h
theorem Qq {p:Prop}(h:p:=by(refine aw ?_;rw[Dv (i:=i) _ om,WH,V5];rfl)):p:=h
def jO (H:List Nm)(j:Nat):List Nm:=lk H (H++V1 j ⟨0,1⟩)
theorem l6 (H:List Nm)(j:Nat):jO H j=H++V1 j ⟨0,1⟩:=aP _ _
theorem Dt (H:List Nm):jO H 0=H:=by rw[l6];exact WN _
theorem yM (H:List Nm)(j:Nat):jO H (j+1)=jO H j++[⟨0,1⟩]:=by
 rw[l6,l6,aat,Wc]
theorem sq (H:List Nm)(j:Nat):(jO H j).length=H.length+j:=by rw[l6,VI,Wk]
def fU (H:List Nm)(raw:Z4)(i:Nat):List Nm:=lk raw (H++(raw.take i).map HH)
theorem l7 (H:List Nm)(raw:Z4)(i:Nat):fU H raw i=H++(raw.take i).map HH:=aP _ _
theorem Du (H:List Nm)(raw:Z4):fU H raw 0=H:=by rw[l7];exact WN _
theorem Dv (H:List Nm){raw:Z4}{i:Nat}(h:i<raw.length):fU H raw (i+1)=fU H raw i++[HH (raw.getD i lh)]:=by
 rw[l7,l7,Wo h,Wz,Wc,VH,VG h];rfl
theorem sr (H:List Nm){raw:Z4}{i:Nat}(h:i<=raw.length):(fU H raw i).length=H.length+i:=by
 rw[l7,VI,VP,VW];omega
theorem Qr {H1 H2:List Nm}{raw:Z4}{r:Nat}{y:Int}(h:H2=H1++[⟨r,16⟩,⟨65535-r,16⟩])(hy:y=((65535-r:Nat):Int)):H1.flatMap aD++[D.v (.int .u32 (r:Int)),D.v (.int .i64 16),D.v (.int .u32 y),D.v (.int .i64 16)]=(fU H2 raw 0).flatMap aD:=by
 subst hy h;rw[Du,WH];rfl
theorem Qs (last:Bool)(e:Nat)(he:e=last.toNat)(a:Nat)(ha:a<=7)(raw:Z4)(r:Nat)(hr:r=raw.length)(hr2:r<=65535)(H H1 H2:List Nm)(hH:H=k6 e 0)(hH1:jO H (fv a)=H1)(hH2:H2=H1++[⟨r,16⟩,⟨65535-r,16⟩])(k:Nat)(cs:List D)(hcs:cs.length=k*3):S0 79 [nD a,dY 0,.sl false r 1 (raw.map dB),.sl false k 3 cs,bD last] [] (.ref 0 0 0 (fU H2 raw r).length 2) [⟨(fU H2 raw r).flatMap aD, 169,true⟩]:=by
 have lH:H.length=2:=by rw[hH];rfl
 have hp:=kD a;have hpl:=sq H;have lH1:H1.length=2+fv a:=by rw[<-hH1,hpl,lH]
 have lH2:H2.length=4+fv a:=by rw[hH2,VI,lH1];simp;omega
 refine SpR Tryz.func79 rfl rfl rfl ⟨dn (λ _=>rfl) _,trivial⟩ rfl 1000 64 (λ R ok=>.R 12 (last) (λ p0=>.W 20 (a+3)<|.V 1 11 (VJ 40 40 0 2 2) (VJ 40 40 0 (length (jO H 0)) 2) (by(rw[Dt,lH]))<|.val 15 (zI (a+3)) (zI (a+3+0)) D9<|.blk 40 40 (VF [uI 1,zI 1,uI 0,zI 2] 169 false) (VF (flatMap aD (jO H 0)) 169 false) Qn<|Hn.inl T_ok ah false 90 0 (aq Tryz.prog 79 0) (λ(x:(j:Nat)×'(hj:j<=fv a)×'Unit)=>match x with|⟨j,hj,_⟩=>VZ [(2,V3 false r 1 (map dB raw)),(11,(VJ 0 0 (0) ((jO H j).length) 2)),(15,iD ((a:Int)+3+j))] [⟨0,0,40,40,.r ⟨(jO H j).flatMap aD,169,true⟩⟩] 8) (λ(x:(j:Nat)×'(hj:j<=fv a)×'Unit)=>match x with|⟨j,hj,_⟩=>fv a-j) [⟨Unit,.exit 0,λ x=>match x with|()=>VZ [(2,V3 false r 1 (map dB raw)),(11,(VJ 0 0 (0) (H1.length) 2))] [⟨0,0,40,40,.r ⟨H1.flatMap aD,169,true⟩⟩] 8⟩] 1000 64 (fun|⟨j,hj,_⟩,Q,ZB,ZD=>.O 3 (aV VV (WW ((a:Int)+3+j) 8)) (zI (((a:Int)+3+j)%8)) (au (@bw  ((a:Int)+3+j) (8) om))<|.R 2 (((a:Int)+3+j)%8 !=0) (λ p1=>have Z8:=ee p1;.K 6 (true&&VK (length (jO H j)*2) (length (flatMap aD (jO H j)))&&true&&true&&true&&true&&VN ((length (jO H j)+1)*16) 140737488355328) Gf<|.W 4 (a+3+j+1)<|.V 1 11 (VJ 56 56 0 (length (jO H j)+1) 2) (VJ 56 56 0 (length (jO H (j+1))) 2) (by(rw[yM,VI];rfl))<|.val 15 (zI (a+3+j+1)) (zI (a+3+(↑(j+1):Int))) D9<|.blk 56 56 (VF (flatMap aD (jO H j)++[uI 0,zI 1]) 169 true) (VF (flatMap aD (jO H (j+1))) 169 true) (by(refine aw ?_;rw[yM,WH];rfl))<|Hn.next ZB ⟨(j+1),om,⟨⟩⟩ (by show fv a-(j+1)<fv a-j;clear ZB ZD;omega) [(56,56)] mK) (λ p1=>have Z8:=ef p1;.val 11 (VJ 0 0 0 (length (jO H j)) 2) (VJ 0 0 0 (length H1) 2) Gg<|.blk 0 0 (VF (flatMap aD (jO H j)) 169 true) (VF (flatMap aD H1) 169 true) Gg<|Hn.last ZD 0 (():Unit) rfl [(0,0)] mK)) (fun|⟨j,hj,_⟩=>by kernel_rfl) ⟨(0),om,⟨⟩⟩ [(40,40)] mK (bM (fun|()=>.O 4 (ay .u32 (r:Int)) (ai r) (aA om)<|.W 6 (65535-(r:Int))<|.O 1 (ay .u32 (65535-(r:Int))) (uI (65535-(r:Int))) (aA om)<|.K 5 (true&&VK (length H1*2) (length (flatMap aD H1))&&true&&true&&true&&true&&VN ((length H1+2)*16) 140737488355328) Gf<|.V 2 11 (VJ 96 96 0 (length H1+2) 2) (VJ 96 96 0 (length (fU H2 raw 0)) 2) (by(rw[Du,hH2,VI];rfl))<|.blk 96 96 (VF (flatMap aD H1++[ai r,zI 16,uI (65535-(r:Int)),zI 16]) 169 true) (VF (flatMap aD (fU H2 raw 0)) 169 true) (by(refine aw (Qr hH2 ?_);omega))<|Hn.inl T_ok ah false 90 0 (aq Tryz.prog 79 1) (λ(x:(i:Nat)×'(hi:i<=r)×'Unit)=>match x with|⟨i,hi,_⟩=>VZ [(2,V3 false r 1 (map dB raw)),(11,(VJ 0 0 (0) ((fU H2 raw i).length) 2)),(16,nD i)] [⟨0,0,96,96,.b ⟨(fU H2 raw i).flatMap aD,169,true⟩⟩] 8) (λ(x:(i:Nat)×'(hi:i<=r)×'Unit)=>match x with|⟨i,hi,_⟩=>r-i) [⟨Unit,.exit 2,λ x=>match x with|()=>VZ [(2,V3 false r 1 (map dB raw)),(11,(VJ 0 0 (0) ((fU H2 raw r).length) 2))] [⟨0,0,96,96,.b ⟨(fU H2 raw r).flatMap aD,169,true⟩⟩] 8⟩] 1000 64 (fun|⟨i,hi,_⟩,Q,ZB,ZD=>.B 5 ((i:Int)<r) (λ p2 Z7=>.K 4 (true&&decide ((i:Int)<r)&&true) JO<|.O 2 ((map dB raw)[i*1]?) (dB (getD raw (i*1) lh)) (am _ _ om)<|.O 1 (ay .u32 (↑(VE (getD raw (i*1) lh)):Int)) (ai (VE (getD raw (i*1) lh))) (aA (by(exact dR _ (by decide) (by decide))))<|.K 5 (true&&VK (length (fU H2 raw i)*2) (length (flatMap aD (fU H2 raw i)))&&true&&true&&true&&true&&VN ((length (fU H2 raw i)+1)*16) 140737488355328) Qp<|.W 4 (i+1)<|.V 1 11 (VJ 104 104 0 (length (fU H2 raw i)+1) 2) (VJ 104 104 0 (length (fU H2 raw (i+1))) 2) (by(rw[Dv (i:=i) _ om,VI];rfl))<|.val 16 (zI (i+1)) (zN (i+1)) D9<|.blk 104 104 (VF (flatMap aD (fU H2 raw i)++[ai (VE (getD raw (i*1) lh)),zI 8]) 169 true) (VF (flatMap aD (fU H2 raw (i+1))) 169 true) Qq<|Hn.next ZB ⟨(i+1),om,⟨⟩⟩ (by show r-(i+1)<r-i;clear ZB ZD;omega) [(104,104)] mK) (λ p2 Z7=>.val 11 (VJ 0 0 0 (length (fU H2 raw i)) 2) (VJ 0 0 0 (length (fU H2 raw r)) 2) Gh<|.blk 0 0 (VF (flatMap aD (fU H2 raw i)) 169 true) (VF (flatMap aD (fU H2 raw r)) 169 true) Gh<|Hn.last ZD 0 (():Unit) rfl [(0,0)] mK)) (fun|⟨i,hi,_⟩=>by kernel_rfl) ⟨(0),om,⟨⟩⟩ [(96,96)] mK (bM (fun|()=>.Y 2 [0] [0] (VJ 0 0 0 (length (fU H2 raw r)) 2) [VF (flatMap aD (fU H2 raw r)) 169 true] ok))))) (λ p0=>.W 11 (a+3)<|.V 1 11 (VJ 40 40 0 2 2) (VJ 40 40 0 (length (jO H 0)) 2) (by(rw[Dt,lH]))<|.val 15 (zI (a+3)) (zI (a+3+0)) D9<|.blk 40 40 (VF [uI 0,zI 1,uI 0,zI 2] 169 false) (VF (flatMap aD (jO H 0)) 169 false) Qn<|Hn.inl T_ok ah false 90 0 (aq Tryz.prog 79 0) (λ(x:(j:Nat)×'(hj:j<=fv a)×'Unit)=>match x with|⟨j,hj,_⟩=>VZ [(2,V3 false r 1 (map dB raw)),(11,(VJ 0 0 (0) ((jO H j).length) 2)),(15,iD ((a:Int)+3+j))] [⟨0,0,40,40,.r ⟨(jO H j).flatMap aD,169,true⟩⟩] 8) (λ(x:(j:Nat)×'(hj:j<=fv a)×'Unit)=>match x with|⟨j,hj,_⟩=>fv a-j) [⟨Unit,.exit 0,λ x=>match x with|()=>VZ [(2,V3 false r 1 (map dB raw)),(11,(VJ 0 0 (0) (H1.length) 2))] [⟨0,0,40,40,.r ⟨H1.flatMap aD,169,true⟩⟩] 8⟩] 1000 64 (fun|⟨j,hj,_⟩,Q,ZB,ZD=>.O 3 (aV VV (WW ((a:Int)+3+j) 8)) (zI (((a:Int)+3+j)%8)) (au (@bw  ((a:Int)+3+j) (8) om))<|.R 2 (((a:Int)+3+j)%8 !=0) (λ p3=>have Z6:=ee p3;.K 6 (true&&VK (length (jO H j)*2) (length (flatMap aD (jO H j)))&&true&&true&&true&&true&&VN ((length (jO H j)+1)*16) 140737488355328) Gf<|.W 4 (a+3+j+1)<|.V 1 11 (VJ 56 56 0 (length (jO H j)+1) 2) (VJ 56 56 0 (length (jO H (j+1))) 2) (by(rw[yM,VI];rfl))<|.val 15 (zI (a+3+j+1)) (zI (a+3+(↑(j+1):Int))) D9<|.blk 56 56 (VF (flatMap aD (jO H j)++[uI 0,zI 1]) 169 true) (VF (flatMap aD (jO H (j+1))) 169 true) (by(refine aw ?_;rw[yM,WH];rfl))<|Hn.next ZB ⟨(j+1),om,⟨⟩⟩ (by show fv a-(j+1)<fv a-j;clear ZB ZD;omega) [(56,56)] mK) (λ p3=>have Z6:=ef p3;.val 11 (VJ 0 0 0 (length (jO H j)) 2) (VJ 0 0 0 (length H1) 2) Gg<|.blk 0 0 (VF (flatMap aD (jO H j)) 169 true) (VF (flatMap aD H1) 169 true) Gg<|Hn.last ZD 0 (():Unit) rfl [(0,0)] mK)) (fun|⟨j,hj,_⟩=>by kernel_rfl) ⟨(0),om,⟨⟩⟩ [(40,40)] mK (bM (fun|()=>.O 4 (ay .u32 (r:Int)) (ai r) (aA om)<|.W 6 (65535-(r:Int))<|.O 1 (ay .u32 (65535-(r:Int))) (uI (65535-(r:Int))) (aA om)<|.K 5 (true&&VK (length H1*2) (length (flatMap aD H1))&&true&&true&&true&&true&&VN ((length H1+2)*16) 140737488355328) Gf<|.V 2 11 (VJ 96 96 0 (length H1+2) 2) (VJ 96 96 0 (length (fU H2 raw 0)) 2) (by(rw[Du,hH2,VI];rfl))<|.blk 96 96 (VF (flatMap aD H1++[ai r,zI 16,uI (65535-(r:Int)),zI 16]) 169 true) (VF (flatMap aD (fU H2 raw 0)) 169 true) (by(refine aw (Qr hH2 ?_);omega))<|Hn.inl T_ok ah false 90 0 (aq Tryz.prog 79 1) (λ(x:(i:Nat)×'(hi:i<=r)×'Unit)=>match x with|⟨i,hi,_⟩=>VZ [(2,V3 false r 1 (map dB raw)),(11,(VJ 0 0 (0) ((fU H2 raw i).length) 2)),(16,nD i)] [⟨0,0,96,96,.b ⟨(fU H2 raw i).flatMap aD,169,true⟩⟩] 8) (λ(x:(i:Nat)×'(hi:i<=r)×'Unit)=>match x with|⟨i,hi,_⟩=>r-i) [⟨Unit,.exit 2,λ x=>match x with|()=>VZ [(2,V3 false r 1 (map dB raw)),(11,(VJ 0 0 (0) ((fU H2 raw r).length) 2))] [⟨0,0,96,96,.b ⟨(fU H2 raw r).flatMap aD,169,true⟩⟩] 8⟩] 1000 64 (fun|⟨i,hi,_⟩,Q,ZB,ZD=>.B 5 ((i:Int)<r) (λ p4 Z5=>.K 4 (true&&decide ((i:Int)<r)&&true) JO<|.O 2 ((map dB raw)[i*1]?) (dB (getD raw (i*1) lh)) (am _ _ om)<|.O 1 (ay .u32 (↑(VE (getD raw (i*1) lh)):Int)) (ai (VE (getD raw (i*1) lh))) (aA (by(exact dR _ (by decide) (by decide))))<|.K 5 (true&&VK (length (fU H2 raw i)*2) (length (flatMap aD (fU H2 raw i)))&&true&&true&&true&&true&&VN ((length (fU H2 raw i)+1)*16) 140737488355328) Qp<|.W 4 (i+1)<|.V 1 11 (VJ 104 104 0 (length (fU H2 raw i)+1) 2) (VJ 104 104 0 (length (fU H2 raw (i+1))) 2) (by(rw[Dv (i:=i) _ om,VI];rfl))<|.val 16 (zI (i+1)) (zN (i+1)) D9<|.blk 104 104 (VF (flatMap aD (fU H2 raw i)++[ai (VE (getD raw (i*1) lh)),zI 8]) 169 true) (VF (flatMap aD (fU H2 raw (i+1))) 169 true) Qq<|Hn.next ZB ⟨(i+1),om,⟨⟩⟩ (by show r-(i+1)<r-i;clear ZB ZD;omega) [(104,104)] mK) (λ p4 Z5=>.val 11 (VJ 0 0 0 (length (fU H2 raw i)) 2) (VJ 0 0 0 (length (fU H2 raw r)) 2) Gh<|.blk 0 0 (VF (flatMap aD (fU H2 raw i)) 169 true) (VF (flatMap aD (fU H2 raw r)) 169 true) Gh<|Hn.last ZD 0 (():Unit) rfl [(0,0)] mK)) (fun|⟨i,hi,_⟩=>by kernel_rfl) ⟨(0),om,⟨⟩⟩ [(96,96)] mK (bM (fun|()=>.Y 2 [0] [0] (VJ 0 0 0 (length (fU H2 raw r)) 2) [VF (flatMap aD (fU H2 raw r)) 169 true] ok)))))) kr
theorem Ad {p:Prop}(h:p:=by((repeat rw[wv rfl]);simp only[bX,Wd,WK,V8,Wf,VO,WT,Xa,VI,Wj,List.length_nil];omega)):p:=h
theorem Gi {p:Prop}(h:p:=by(refine congrArg (λ z=>[VF z _ true]) ?_;(repeat rw[wv rfl]);rw[WH];(try rw[WH]);rw[hH,he];(first|rw[show last=true from by assumption]|rw[show last=false from by assumption]);rfl)):p:=h
theorem Qt {p:Prop}(h:p:=by exact(qr (V4 (D.sim.slw rfl (aL (by(simp <;>(omega)))|>.trans rfl)) (V4 (D.sim.slw rfl (aL (by(simp <;>(omega)))|>.trans rfl)) trivial)))):p:=h
theorem Qu {p:Prop}(h:p:=by exact(qr (V4 (D.sim.slw rfl ((bG (A) (0) (n1*1)).trans (by(simp;done)))) (V4 (D.sim.slw rfl ((bG (B) (0) (n2*1)).trans (by(simp;done)))) trivial)))):p:=h
theorem ss (l:List Tn)(k:Nat)(hk:k=l.length)(hk2:k<=65535)(hl:∀i,ci (l.getD i lh))(T1 T2:List Sy)(hT1:T1=aB)(hT2:T2=aM)(hl1:T1.length=29)(hl2:T2.length=30)(hz1:bk T1)(hz2:bk T2)(A B:Z4)(n1 n2:Nat)(hA:n1=A.length)(hB:n2=B.length)(hn1:n1<=320)(hn2:n2<=320)(hmA:(ab A).length=n1)(hmB:(ab B).length=n2)(gy:jZ (ab A))(w5:jZ (ab B))(hin:∀i,i<k->((l.getD i lh).long=0->(l.getD i lh).lit.toNat<n1)∧((l.getD i lh).long≠0->257+ak T1 (l.getD i lh).long<n1∧ak T2 (l.getD i lh).dist<n2))(h256:256<n1)(Q:List Nm)(hQ:EqV (fC T1 T2 (ab A) (ab B) l k++[uB (ab A) 256]) Q):S0 99 [.sl false k 3 (l.flatMap bb),.sl false n1 1 (A.map dB),.sl false n2 1 (B.map dB)] [] (.ref 0 0 0 Q.length 2) [⟨Q.flatMap aD, 169,true⟩]:=by
 obtain⟨hQ⟩:=hQ;subst hQ;exact TZ l k hk hk2 hl T1 T2 hT1 hT2 hl1 hl2 hz1 hz2 A B n1 n2 hA hB hn1 hn2 hmA hmB gy w5 hin h256
theorem wv {X:List Nm}{n:Nat}(h:n=X.length):(bif true&&(n*2).beq (X.flatMap aD).length then X.flatMap aD else Ws (n*2) (Wx 0 (X.flatMap aD)))=X.flatMap aD:=by
 rw[bX,h,WK];rfl
theorem Qv (last:Bool)(e:Nat)(he:e=last.toNat)(a:Nat)(ha:a<=7)(raw:Z4)(r:Nat)(hr:r=raw.length)(hr2:r<=65535)(l:List Tn)(k:Nat)(hk:k=l.length)(hk2:k<=65535)(hl:∀i,ci (l.getD i lh))(T1 T2:List Sy)(hT1:T1=aB)(hT2:T2=aM)(hl1:T1.length=29)(hl2:T2.length=30)(hz1:bk T1)(hz2:bk T2)(L F:Z4)(hL:L=cn)(hF:F=dV)(hLl:L.length=288)(hFl:F.length=32)(hmL:(ab L).length=288)(hmF:(ab F).length=32)(okL:jZ (ab L))(okF:jZ (ab F))(hin:∀i,i<k->((l.getD i lh).long=0->(l.getD i lh).lit.toNat<288)∧((l.getD i lh).long≠0->257+ak T1 (l.getD i lh).long<288∧ak T2 (l.getD i lh).dist<32))(Q:List Nm)(hQ:EqV (fC T1 T2 (ab L) (ab F) l k++[uB (ab L) 256]) Q)(hQl:Q.length<=1000000)(H:List Nm)(hH:H=k6 e 1):S0 79 [nD a,dY 1,.sl false r 1 (raw.map dB),.sl false k 3 (l.flatMap bb),bD last] [] (.ref 0 0 0 (H++Q).length 2) [⟨(H++Q).flatMap aD, 169,true⟩]:=by
 have lH:H.length=2:=by rw[hH];rfl
 refine SpR Tryz.func79 rfl rfl rfl ⟨dn (λ _=>rfl) _,trivial⟩ rfl 1000 64 (λ R ok=>.R 12 (last) (λ p0=>.C 16 100 false [] (.fn M5 (@Dl (L) aO om))<|.C 1 101 false [] (.fn M6 (@IP (F) aO om))<|.L 1 99 false [] (true&&(true&&(true&&VN 288 (length (map dB L))&&true&&ae (bif true&&VK 288 (length (map dB L))then map dB L else take 288 (drop 0 (map dB L))))&&(true&&(true&&VN 32 (length (map dB F))&&true&&ae (bif true&&VK 32 (length (map dB F))then map dB F else take 32 (drop 0 (map dB F))))&&true))) (by(simp <;>(omega))) ([V3 false k 3 (flatMap bb l),V3 true 288 1 (bif true&&VK 288 (length (map dB L))then map dB L else take 288 (drop 0 (map dB L))),V3 true 32 1 (bif true&&VK 32 (length (map dB F))then map dB F else take 32 (drop 0 (map dB F)))]) Qt (.fn Q99 (@ss (l) (k) om om om (T1) (T2) aO aO om om om om (L) (F) (288) (32) om om om om om om om om om om (Q) aO))<|.K 1 (true&&(true&&VN (0+length Q*2) (length (flatMap aD Q)))&&true&&true&&VN ((2+length Q)*16) 140737488355328) Ad<|.U 1 [152] [152] (VJ 0 0 0 (2+length Q) 2) [VF ([uI 1,zI 1,uI 1,zI 2]++bif true&&VK (length Q*2) (length (flatMap aD Q))then flatMap aD Q else take (length Q*2) (drop 0 (flatMap aD Q))) 169 true] R (ok _ _ (by(simp <;>(omega))) Gi)) (λ p0=>.C 7 100 false [] (.fn M5 (@Dl (L) aO om))<|.C 1 101 false [] (.fn M6 (@IP (F) aO om))<|.L 1 99 false [] (true&&(true&&(true&&VN 288 (length (map dB L))&&true&&ae (bif true&&VK 288 (length (map dB L))then map dB L else take 288 (drop 0 (map dB L))))&&(true&&(true&&VN 32 (length (map dB F))&&true&&ae (bif true&&VK 32 (length (map dB F))then map dB F else take 32 (drop 0 (map dB F))))&&true))) (by(simp <;>(omega))) ([V3 false k 3 (flatMap bb l),V3 true 288 1 (bif true&&VK 288 (length (map dB L))then map dB L else take 288 (drop 0 (map dB L))),V3 true 32 1 (bif true&&VK 32 (length (map dB F))then map dB F else take 32 (drop 0 (map dB F)))]) Qt (.fn Q99 (@ss (l) (k) om om om (T1) (T2) aO aO om om om om (L) (F) (288) (32) om om om om om om om om om om (Q) aO))<|.K 1 (true&&(true&&VN (0+length Q*2) (length (flatMap aD Q)))&&true&&true&&VN ((2+length Q)*16) 140737488355328) Ad<|.U 1 [120] [120] (VJ 0 0 0 (2+length Q) 2) [VF ([uI 0,zI 1,uI 1,zI 2]++bif true&&VK (length Q*2) (length (flatMap aD Q))then flatMap aD Q else take (length Q*2) (drop 0 (flatMap aD Q))) 169 true] R (ok _ _ (by(simp <;>(omega))) Gi))) kr
theorem Qw (last:Bool)(e:Nat)(he:e=last.toNat)(a:Nat)(ha:a<=7)(raw:Z4)(r:Nat)(hr:r=raw.length)(hr2:r<=65535)(l:List Tn)(k:Nat)(hk:k=l.length)(hk2:k<=65535)(hl:∀i,ci (l.getD i lh))(T1 T2:List Sy)(hT1:T1=aB)(hT2:T2=aM)(hl1:T1.length=29)(hl2:T2.length=30)(hz1:bk T1)(hz2:bk T2)(W1 W2:List Nat)(A B:Z4)(n1 n2:Nat)(R0:List Rn)(W3:List Nat)(C O:Z4)(n3:Nat)(DV:DyV T1 T2 l k W1 W2 A B n1 n2 R0 W3 C O n3)(H3 H4 H5:List Nm)(hH3:H3=[⟨n1-257,5⟩,⟨n2-1,5⟩,⟨n3-4,4⟩])(hH4:cO H3 gO (O.take n3) n3=H4)(hH5:cO H4 (iv (ab C)) R0 R0.length=H5)(hH5l:H5.length<=1000000)(Q:List Nm)(hQ:EqV (fC T1 T2 (ab (A.take n1)) (ab (B.take n2)) l k++[uB (ab (A.take n1)) 256]) Q)(hQl:Q.length<=1000000)(H:List Nm)(hH:H=k6 e 2):S0 79 [nD a,dY 2,.sl false r 1 (raw.map dB),.sl false k 3 (l.flatMap bb),bD last] [] (.ref 0 0 0 (H++H5++Q).length 2) [⟨(H++H5++Q).flatMap aD, 169,true⟩]:=by
 have lH:H.length=2:=by rw[hH];rfl
 have F:=DV.f hk hk2;have inA:=DV.inA hk hk2 hT1 hT2 hl;have lA:=F.lA;have lB:=F.lB;have g1:=F.k1;have g2:=F.k2;have lA2:=F.lA2;have lB2:=F.lB2;have mA:=F.mA;have mB:=F.mB;have oA:=F.oA;have oB:=F.oB;refine SpR Tryz.func79 rfl rfl rfl ⟨dn (λ _=>rfl) _,trivial⟩ rfl 1000 64 (λ R ok=>.R 12 (last) (λ p0=>.C 19 102 false [] (.fn M7 (@Qa (l) (k) om om om (T1) (T2) aO aO om om om om (W1) (W2) (A) (B) (n1) (n2) (R0) (W3) (C) (O) (n3) aO (H3) (H4) (H5) aO aO aO))<|.K 13 (true&&(true&&VN (0+length H5*2) (length (flatMap aD H5)))&&true&&true&&VN ((2+length H5)*16) 140737488355328) Ad<|.L 6 99 false [] (true&&(true&&(wB (map dB A) n1 1)&&(true&&(wB (map dB B) n2 1)&&true))) (by unfold wB;(simp <;>(omega))) ([V3 false k 3 (flatMap bb l),wD (map dB A) n1 1,wD (map dB B) n2 1]) Qu (.fn Q99 (@ss (l) (k) om om om (T1) (T2) aO aO om om om om (take n1 A) (take n2 B) (n1) (n2) om om om om om om om om (by(exact inA.1)) om (Q) aO))<|.K 1 (true&&VK ((2+length H5)*2) (length ([uI 1,zI 1,uI 2,zI 2]++bif true&&VK (length H5*2) (length (flatMap aD H5))then flatMap aD H5 else take (length H5*2) (drop 0 (flatMap aD H5))))&&true&&(true&&VN (0+length Q*2) (length (flatMap aD Q)))&&true&&true&&VN ((2+length H5+length Q)*16) 140737488355328) Ad<|.U 1 [272] [272] (VJ 0 0 0 (2+length H5+length Q) 2) [VF (([uI 1,zI 1,uI 2,zI 2]++bif true&&VK (length H5*2) (length (flatMap aD H5))then flatMap aD H5 else take (length H5*2) (drop 0 (flatMap aD H5)))++bif true&&VK (length Q*2) (length (flatMap aD Q))then flatMap aD Q else take (length Q*2) (drop 0 (flatMap aD Q))) 169 true] R (ok _ _ (by(rw[VI,VI,lH])) Gi)) (λ p0=>.C 10 102 false [] (.fn M7 (@Qa (l) (k) om om om (T1) (T2) aO aO om om om om (W1) (W2) (A) (B) (n1) (n2) (R0) (W3) (C) (O) (n3) aO (H3) (H4) (H5) aO aO aO))<|.K 13 (true&&(true&&VN (0+length H5*2) (length (flatMap aD H5)))&&true&&true&&VN ((2+length H5)*16) 140737488355328) Ad<|.L 6 99 false [] (true&&(true&&(wB (map dB A) n1 1)&&(true&&(wB (map dB B) n2 1)&&true))) (by unfold wB;(simp <;>(omega))) ([V3 false k 3 (flatMap bb l),wD (map dB A) n1 1,wD (map dB B) n2 1]) Qu (.fn Q99 (@ss (l) (k) om om om (T1) (T2) aO aO om om om om (take n1 A) (take n2 B) (n1) (n2) om om om om om om om om (by(exact inA.1)) om (Q) aO))<|.K 1 (true&&VK ((2+length H5)*2) (length ([uI 0,zI 1,uI 2,zI 2]++bif true&&VK (length H5*2) (length (flatMap aD H5))then flatMap aD H5 else take (length H5*2) (drop 0 (flatMap aD H5))))&&true&&(true&&VN (0+length Q*2) (length (flatMap aD Q)))&&true&&true&&VN ((2+length H5+length Q)*16) 140737488355328) Ad<|.U 1 [240] [240] (VJ 0 0 0 (2+length H5+length Q) 2) [VF (([uI 0,zI 1,uI 2,zI 2]++bif true&&VK (length H5*2) (length (flatMap aD H5))then flatMap aD H5 else take (length H5*2) (drop 0 (flatMap aD H5)))++bif true&&VK (length Q*2) (length (flatMap aD Q))then flatMap aD Q else take (length Q*2) (drop 0 (flatMap aD Q))) 169 true] R (ok _ _ (by(rw[VI,VI,lH])) Gi))) kr
theorem RO {p:Prop}(h:p:=by exact(qr (qr (qr (qr trivial))))):p:=h
theorem RP {p:Prop}(h:p:=by(refine Uq ?_;rw[wy];unfold QA;split<;>split<;>omega)):p:=h
def sm (X:List Nm):Nat:=(X.map Nm.n).sum
theorem cF (X Y:List Nm):sm (X++Y)=sm X+sm Y:=by unfold sm;rw[Wz,List.sum_append]
theorem kY (x:Nm)(X:List Nm):sm (x::X)=x.n+sm X:=by unfold sm;rw[W6,List.sum_cons]
theorem Ls:sm []=0:=rfl
theorem Dw (X:List Nm):∀i,i<=X.length->k5 X i=sm (X.take i)
 |0,_=>rfl
 |i+1,h=>by
  have e1:X.take (i+1)=X.take i++[X.getD i lh]:=by
   rw[Wo h,VH,VG h];rfl
  rw[k5,Dw X i om,e1,cF,kY,Ls,Xw]
theorem sv (X:List Nm):pf X=sm X:=by rw[rm,Dw X _ (VT _),Wm (VT _)]
theorem Dx {c:Nat}:∀{X:List Nm},(∀x∈X,x.n<=c)->sm X<=c*X.length
 |[],_=>Wy _
 |x::X,h=>by
  have:=h x Wb;have ih:=Dx λ y hy=>h y (Wa _ hy)
  rw[kY,Wj,Yf];omega
theorem IR {α:Type}{g:α->List Nm}{c:Nat}:∀{l:List α},(∀x∈l,sm (g x)<=c)->sm (l.flatMap g)<=c*l.length
 |[],_=>Wy _
 |x::l,h=>by
  have:=h x Wb;have ih:=IR λ y hy=>h y (Wa _ hy)
  rw[W9,cF,Wj,Yf];omega
theorem uM {C:List (Nat×Nat)}(hC:jZ C)(s n x:Nat):sm (iF C s n x)<=15+n:=by
 have:=(hC s).1;show(C.getD s lh).2+(n+0)<=_;omega
theorem Qx {A B:List (Nat×Nat)}(hA:jZ A)(hB:jZ B)(t:Tn):sm (tS aB aM A B t)<=56:=by
 unfold tS
 split
 ·exact VR (uM hA _ _ _) (by decide)
 ·have s1:=(cN (ak aB t.long)).1
  have s2:=(dq (ak aM t.dist)).1;have a:=uM hA (257+ak aB t.long) (aB.getD (ak aB t.long) lh).bits (t.long-(aB.getD (ak aB t.long) lh).least);have b:=uM hB (ak aM t.dist) (aM.getD (ak aM t.dist) lh).bits (t.dist-(aM.getD (ak aM t.dist) lh).least);rw[cF];omega
theorem Dy {A B:List (Nat×Nat)}(hA:jZ A)(hB:jZ B)(H:List Nm)(l:List Tn):sm (bf aB aM A B H l l.length)<=sm H+56*l.length:=by
 rw[gq,cF,Wm (VT _)];have:=IR (g:=tS aB aM A B) (c:=56) (l:=l) λ t _=>Qx hA hB t
 omega
theorem ww {a kd:Nat}{raw:Z4}{l:List Tn}{e:Nat}(he:e<=1)(hr:raw.length<=65535)(hk:l.length<=65535):sm (rV a kd raw l e)<=3800000:=by
 rw[eJ]
 split
 ·have h1:=CE (a:=a) he hr
  unfold qi at h1 ⊢;rw[gn,cF];have h2:sm ((raw.take raw.length).map HH)<=8*((raw.take raw.length).map HH).length:=Dx λ x hx=>by
   obtain⟨y,_,rfl⟩:=List.mem_map.1 hx;exact VT 8
  rw[VP,VW,Nat.min_self]at h2;have h3:=rY a;have h4:sm (RA e a raw.length)=1+(2+(fv a+(16+(16+0)))):=rfl;omega
 ·split
  ·rw[i8,cF]
   have h1:=Dy (eI dW) (eI gQ) (k6 e 1) l;have h2:=uM (eI dW) 256 0 0;have h3:sm (k6 e 1)=3:=rfl;omega
  ·have G:=Mn l hk
   rw[i9,cF];have h1:=Dy G.oL G.oB (Eb e l) l;have h2:=uM G.oL 256 0 0;have h3:=Dx (c:=32) (X:=Eb e l) λ x hx=>(rZ he hk x hx).2
   have h4:=r6 (e:=e) hk;omega
def af (P:List Bool)(kd:Nat)(raw:Z4)(l:List Tn)(e:Nat):List Bool:=lk P (P++(rV (P.length%8) kd raw l e).flatMap λ x=>nb x.v x.n)
theorem oZ (P:List Bool)(kd:Nat)(raw:Z4)(l:List Tn)(e:Nat):af P kd raw l e=P++(rV (P.length%8) kd raw l e).flatMap λ x=>nb x.v x.n:=aP _ _
theorem Dz (P:List Bool)(kd:Nat)(raw:Z4)(l:List Tn)(e:Nat):dZ P (rV (P.length%8) kd raw l e) (rV (P.length%8) kd raw l e).length=af P kd raw l e:=by
 rw[oY,oZ,Wm (VT _)]
def Ar (a kd:Nat)(raw:Z4)(l:List Tn):Nat:=lk l (sm (rV a kd raw l 0))
theorem o6 (a kd:Nat)(raw:Z4)(l:List Tn):Ar a kd raw l=sm (rV a kd raw l 0):=aP _ _
theorem yN (e k:Nat):sm (k6 e k)=3:=rfl
theorem sw {α:Type}(H:List Nm)(g:α->List Nm)(l:List α)(i:Nat):sm (cO H g l i)=sm H+sm ((l.take i).flatMap g):=by rw[gv,cF]
theorem DA (a kd:Nat)(raw:Z4)(l:List Tn)(e:Nat):sm (rV a kd raw l e)=sm (rV a kd raw l 0):=by
 rw[eJ,eJ]
 by_cases h0:kd=0
 ·rw[ZF h0,ZF h0];unfold qi;rw[gn,gn,cF,cF];rfl
 ·rw[ZE h0,ZE h0]
  by_cases h1:kd=1
  ·rw[ZF h1,ZF h1,i8,i8,cF,cF,gq,gq,cF,cF,yN,yN]
  ·rw[ZE h1,ZE h1,i9,i9,cF,cF,gq,gq,cF,cF,lN,lN,sw,sw,sw,sw,cF,cF,yN,yN]
theorem uN:∀X:List Nm,(X.flatMap λ x=>nb x.v x.n).length=sm X
 |[]=>rfl
 |x::X=>by rw[W9,VI,lu,uN X,kY]
theorem nu (P:List Bool)(kd:Nat)(raw:Z4)(l:List Tn)(e:Nat):(af P kd raw l e).length=P.length+Ar (P.length%8) kd raw l:=by
 rw[oZ,VI,uN,DA,o6]
theorem sx {a kd:Nat}{raw:Z4}{l:List Tn}(hr:raw.length<=65535)(hk:l.length<=65535):Ar a kd raw l<=3800000:=by rw[o6];exact ww (Wy 1) hr hk
theorem DB {a kd:Nat}(ha:a<=7)(hkd:kd<=2){raw:Z4}{r:Nat}(hr:r=raw.length)(hr2:r<=65535){l:List Tn}{k:Nat}(hk:k=l.length)(hk2:k<=65535)(hl:∀i,kU (l.getD i lh))(last:Bool):OfV a kd raw r l k last (rV a kd raw l (if last then 1 else 0)):=by
 subst hr hk;have he:(if last then 1 else 0)<=1:=by cases last<;>decide
 exact⟨TS a kd ha hkd raw hr2 l hk2 (λ i=>(hl i).may) last,λ i=>CB (KJ he hr2 hk2 λ i=>(hl i).may) i,FQ hr2 hk2⟩
theorem yO (a kd:Nat)(raw:Z4)(l:List Tn)(e:Nat):0<(rV a kd raw l e).length:=by
 rw[eJ]
 split
 ·unfold qi;rw[kE (VT _)];omega
 ·split
  ·rw[i8,VI];exact Wp (by decide) (Nat.le_add_left 2 _)
  ·rw[i9,VI];exact Wp (by decide) (Nat.le_add_left 2 _)
theorem Qy (P:List Bool)(m:Nat)(hm:m=(pk P).length)(hP:P.length<=4000000)(kd:Nat)(hkd:kd<=2)(raw:Z4)(r:Nat)(hr:r=raw.length)(hr2:r<=65535)(l:List Tn)(k:Nat)(hk:k=l.length)(hk2:k<=65535)(hl:∀i,kU (l.getD i lh)):S0 57 [m5 m P,dY kd,.sl false r 1 (raw.map dB),.sl false k 3 (l.flatMap bb),.v (.bool true)] [] (.tup [.agg [.ref 0 0 0 (pk (af P kd raw l 1)).length 1,nD (af P kd raw l 1).length],iD 0]) [⟨(pk (af P kd raw l 1)).map dB, 5,true⟩]:=by
 have hO:=DB (a:=P.length%8) om hkd hr hr2 hk hk2 hl true;have hS:=ww (a:=P.length%8) (kd:=kd) (raw:=raw) (l:=l) (e:=1) (by decide) om om;have h:=Dr P m hm kd raw r hr hr2 l k hk hk2 hl true _ hO (yO _ _ _ _ _) (by rw[sv];show P.length+sm (rV (P.length%8) kd raw l 1)<=_;omega) hkd;have e1:=Dz P kd raw l 1;rw[show(if true=true then 1 else 0)=1 from rfl,e1]at h;exact h
theorem DC (P:List Bool)(m:Nat)(hm:m=(pk P).length)(hP:P.length<=4000000)(kd:Nat)(hkd:kd<=2)(raw:Z4)(r:Nat)(hr:r=raw.length)(hr2:r<=65535)(l:List Tn)(k:Nat)(hk:k=l.length)(hk2:k<=65535)(hl:∀i,kU (l.getD i lh)):S0 57 [m5 m P,dY kd,.sl false r 1 (raw.map dB),.sl false k 3 (l.flatMap bb),.v (.bool false)] [] (.tup [.agg [.ref 0 0 0 (pk (af P kd raw l 0)).length 1,nD (af P kd raw l 0).length],iD 0]) [⟨(pk (af P kd raw l 0)).map dB, 5,true⟩]:=by
 have hO:=DB (a:=P.length%8) om hkd hr hr2 hk hk2 hl false;have hS:=ww (a:=P.length%8) (kd:=kd) (raw:=raw) (l:=l) (e:=0) (by decide) om om;have h:=Dr P m hm kd raw r hr hr2 l k hk hk2 hl false _ hO (yO _ _ _ _ _) (by rw[sv];show P.length+sm (rV (P.length%8) kd raw l 0)<=_;omega) hkd;have e1:=Dz P kd raw l 0;rw[show(if false=true then 1 else 0)=0 from rfl,e1]at h;exact h
attribute [local simp] bX
theorem Qz (a:Nat)(ha:a<=7)(kd:Nat)(hkd:kd<=2)(raw:Z4)(r:Nat)(hr:r=raw.length)(hr2:r<=65535)(l:List Tn)(k:Nat)(hk:k=l.length)(hk2:k<=65535)(hl:∀i,kU (l.getD i lh))(X:List Nm)(hO:OfV a kd raw r l k false X):S0 47 [nD a,dY kd,.sl false r 1 (raw.map dB),.sl false k 3 (l.flatMap bb)] [] (.tup [nD (pf X),iD 0]) []:=by
 have hX:=hO.ok;have hXl:=hO.len;have hcl:ae (X.flatMap aD)=true:=bW (λ _=>rfl) X;refine SpR Tryz.func47 rfl rfl rfl trivial rfl 1000 64 (λ R ok=>.F 12 (decide (7<(a:Int))) (by(refine decide_eq_false ?_;(omega)))<|.C 4 64 false [] (.fn UK (@yL (l) (k) om om om (raw) (r) om om (kd) om))<|.C 10 65 false [] (.fn UL (@Um (a) (kd) (raw) (r) (l) (k) (false) (X) aO))<|.L 1 66 false [] (true&&(true&&(wB (flatMap aD X) (length X) 2&&true))&&true) (by unfold wB;(simp only[bX,Wd,WK,aaD,cond_true,V8,Wf,hcl,WT];omega)) ([D.ep [V3 (VN 1 (length X)) (length X) 2 (bif true&&VK (length X*2) (length (flatMap aD X))then flatMap aD X else take (length X*2) (drop 0 (flatMap aD X)))] 0]) (by exact(V4 (D.sim.of_eq (by(rw[bX];simp;done))) trivial)) (V0 (ao.of Tryz.func66 rfl rfl) (@Dq (VN 1 (length X)) (X) (length X) om om om))<|.Y 2 [] [] (WL [zN (pf X),zI 0]) [] ok) kr
theorem sy (a:Nat)(ha:a<=7)(kd:Nat)(hkd:kd<=2)(raw:Z4)(r:Nat)(hr:r=raw.length)(hr2:r<=65535)(l:List Tn)(k:Nat)(hk:k=l.length)(hk2:k<=65535)(hl:∀i,kU (l.getD i lh)):S0 47 [nD a,dY kd,.sl false r 1 (raw.map dB),.sl false k 3 (l.flatMap bb)] [] (.tup [nD (Ar a kd raw l),iD 0]) []:=by
 have h:=Qz a ha kd hkd raw r hr hr2 l k hk hk2 hl _ (DB ha hkd hr hr2 hk hk2 hl false);rw[sv,DA,<-o6]at h;exact h
def Mq (a:Nat)(raw:Z4)(l:List Tn):Nat:=lk l (Ar a 0 raw l)
def DD (a:Nat)(raw:Z4)(l:List Tn):Nat:=lk l (Ar a 1 raw l)
def DE (a:Nat)(raw:Z4)(l:List Tn):Nat:=lk l (Ar a 2 raw l)
theorem wx (a:Nat)(raw:Z4)(l:List Tn):Mq a raw l=Ar a 0 raw l:=aP _ _
theorem sC (a:Nat)(raw:Z4)(l:List Tn):DD a raw l=Ar a 1 raw l:=aP _ _
theorem sD (a:Nat)(raw:Z4)(l:List Tn):DE a raw l=Ar a 2 raw l:=aP _ _
def QA (x y z:Nat):Nat:=if y<x then(if z<y then 2 else 1)else if z<x then 2 else 0
def bS (a:Nat)(raw:Z4)(l:List Tn):Nat:=lk l (QA (Mq a raw l) (DD a raw l) (DE a raw l))
theorem wy (a:Nat)(raw:Z4)(l:List Tn):bS a raw l=QA (Mq a raw l) (DD a raw l) (DE a raw l):=aP _ _
theorem Uq {x:Nat}{n:Int}(h:n=((x:Nat):Int)):WL [D.v (.int .u8 n),D.v (.int .i64 0)]=WL [dY x,iD 0]:=by subst h;rfl
theorem DF (a:Nat)(raw:Z4)(l:List Tn):bS a raw l<=2:=by rw[wy];unfold QA;split<;>split<;>decide
theorem Gj (a:Nat)(ha:a<=7)(raw:Z4)(r:Nat)(hr:r=raw.length)(hr2:r<=65535)(l:List Tn)(k:Nat)(hk:k=l.length)(hk2:k<=65535)(hl:∀i,kU (l.getD i lh)):S0 47 [nD a,dY 0,.sl false r 1 (raw.map dB),.sl false k 3 (l.flatMap bb)] [] (.tup [nD (Mq a raw l),iD 0]) []:=by
 have h:=sy a ha 0 (by decide) raw r hr hr2 l k hk hk2 hl
 rwa [<-wx]at h
theorem yP (a:Nat)(ha:a<=7)(raw:Z4)(r:Nat)(hr:r=raw.length)(hr2:r<=65535)(l:List Tn)(k:Nat)(hk:k=l.length)(hk2:k<=65535)(hl:∀i,kU (l.getD i lh)):S0 47 [nD a,dY 1,.sl false r 1 (raw.map dB),.sl false k 3 (l.flatMap bb)] [] (.tup [nD (DD a raw l),iD 0]) []:=by
 have h:=sy a ha 1 (by decide) raw r hr hr2 l k hk hk2 hl
 rwa [<-sC]at h
theorem sE (a:Nat)(ha:a<=7)(raw:Z4)(r:Nat)(hr:r=raw.length)(hr2:r<=65535)(l:List Tn)(k:Nat)(hk:k=l.length)(hk2:k<=65535)(hl:∀i,kU (l.getD i lh)):S0 47 [nD a,dY 2,.sl false r 1 (raw.map dB),.sl false k 3 (l.flatMap bb)] [] (.tup [nD (DE a raw l),iD 0]) []:=by
 have h:=sy a ha 2 (by decide) raw r hr hr2 l k hk hk2 hl
 rwa [<-sD]at h
theorem QB (a:Nat)(ha:a<=7)(raw:Z4)(r:Nat)(hr:r=raw.length)(hr2:r<=65535)(l:List Tn)(k:Nat)(hk:k=l.length)(hk2:k<=65535)(hl:∀i,kU (l.getD i lh)):S0 58 [nD a,.sl false r 1 (raw.map dB),.sl false k 3 (l.flatMap bb)] [] (.tup [dY (bS a raw l),iD 0]) []:=by
 have l0:=sx (a:=a) (kd:=0) (raw:=raw) (l:=l) om om;rw[<-wx]at l0;have l1:=sx (a:=a) (kd:=1) (raw:=raw) (l:=l) om om;rw[<-sC]at l1;have l2:=sx (a:=a) (kd:=2) (raw:=raw) (l:=l) om om;rw[<-sD]at l2;refine SpR Tryz.func58 rfl rfl rfl trivial rfl 1000 64 (λ R ok=>.L 39 47 false [] (true) wr ([zN a,bI 0,V3 false r 1 (map dB raw),V3 false k 3 (flatMap bb l)]) RO (.fn Q47 (@Gj (a) om (raw) (r) om om (l) (k) om om om))<|.L 61 47 false [] (true) wr ([zN a,bI 1,V3 false r 1 (map dB raw),V3 false k 3 (flatMap bb l)]) RO (.fn Q47 (@yP (a) om (raw) (r) om om (l) (k) om om om))<|.B 29 ((↑(DD a raw l):Int)<(↑(Mq a raw l):Int)) (λ p0 Z9=>.L 32 47 false [] (true) wr ([zN a,bI 2,V3 false r 1 (map dB raw),V3 false k 3 (flatMap bb l)]) RO (.fn Q47 (@sE (a) om (raw) (r) om om (l) (k) om om om))<|.B 29 ((↑(DE a raw l):Int)<(↑(DD a raw l):Int)) (λ p1 Z8=>.U 14 [] [] (WL [bI 2,zI 0]) [] R (ok _ _ RP wr)) (λ p1 Z8=>.U 10 [] [] (WL [bI 1,zI 0]) [] R (ok _ _ RP wr))) (λ p0 Z9=>.L 28 47 false [] (true) wr ([zN a,bI 2,V3 false r 1 (map dB raw),V3 false k 3 (flatMap bb l)]) RO (.fn Q47 (@sE (a) om (raw) (r) om om (l) (k) om om om))<|.B 29 ((↑(DE a raw l):Int)<(↑(Mq a raw l):Int)) (λ p2 Z7=>.U 14 [] [] (WL [bI 2,zI 0]) [] R (ok _ _ RP wr)) (λ p2 Z7=>.U 10 [] [] (WL [bI 0,zI 0]) [] R (ok _ _ RP wr)))) kr
def bt (X:List Nm):List Bool:=X.flatMap λ x=>nb x.v x.n
theorem fl (X Y:List Nm):bt (X++Y)=bt X++bt Y:=WH
theorem Gk (x:Nm)(X:List Nm):bt (x::X)=nb x.v x.n++bt X:=rfl
theorem wz:∀X:List Nm,(bt X).length=sm X
 |[]=>rfl
 |x::r=>by rw[Gk,VI,lu,wz r,kY]
theorem DG:∀n,bt (V1 n ⟨0,1⟩)=nb 0 n
 |0=>(zE 0).symm
 |n+1=>by
  rw[aat,fl,DG n,m4]
  congr 1
  show nb 0 1++[]=_;rw[WN,m4,zE,List.nil_append,aa7,aa7]
structure NuV (a kd:Nat)(raw:Z4)(r:Nat)(l:List Tn)(k:Nat)(last:Bool)(X:List Nm):Prop where
 s:S0 79 [nD a,dY kd,.sl false r 1 (raw.map dB),.sl false k 3 (l.flatMap bb),bD last] [] (.ref 0 0 0 X.length 2) [⟨X.flatMap aD, 169,true⟩]
 b:bt X=bt (rV a kd raw l last.toNat)
 ok:∀i,(X.getD i lh).v<4294967296∧(X.getD i lh).n<=32
 len:X.length<=100000
 pos:0<X.length
theorem wA {X:List Nm}(h:gy X)(i:Nat):(X.getD i lh).v<4294967296∧(X.getD i lh).n<=32:=by
 have:=CB h i;exact⟨Wp this.1 (WF (n:=2) (by decide) this.2),this.2⟩
section
variable {T1 T2:List Sy} {A B:List (Nat×Nat)}
theorem Lu {t:Tn}:∀x∈Aq T1 T2 A B t,x∈tS T1 T2 A B t:=λ x h=>by
 unfold Aq at h;unfold tS
 by_cases q:t.long=0
 ·rw[ZF q]at h ⊢
  rw[List.mem_singleton.1 h];exact Wb
 ·rw[ZE q]at h ⊢
  exact h
theorem QC (t:Tn):bt (Aq T1 T2 A B t)=bt (tS T1 T2 A B t):=by
 unfold Aq tS;split
 ·show nb _ _++[]=nb _ _++(nb 0 0++[]);rw[zE];rfl
 ·rfl
theorem DH:∀l:List Tn,bt (l.flatMap (Aq T1 T2 A B))=bt (l.flatMap (tS T1 T2 A B))
 |[]=>rfl
 |t::r=>by rw[W9,W9,fl,fl,QC,DH r]
end
theorem QD (C:List (Nat×Nat))(s:Nat):bt [uB C s]=bt (iF C s 0 0):=by
 show nb _ _++[]=nb _ _++(nb 0 0++[]);rw[zE];rfl
theorem yQ {C:List (Nat×Nat)}(h:jZ C)(s:Nat):gy [uB C s]:=cj ⟨od _ _,VR (h s).1 (by decide)⟩ iw
theorem DI {A B:List (Nat×Nat)}(hA:jZ A)(hB:jZ B){l:List Tn}(hl:∀t∈l,ci t)(i:Nat):gy (fC aB aM A B l i):=by
 rw[oQ];exact rW λ t ht x hx=>CD hA hB (hl t (WU ht)) x (Lu x hx)
theorem DJ {A B:List (Nat×Nat)}{H:List Nm}{l:List Tn}{s:Nat}:bt H++bt (fC aB aM A B l l.length++[uB A s])=bt (bf aB aM A B H l l.length++iF A s 0 0):=by
 rw[oQ,gq,fl,fl,fl,QD,Wm (VT _),DH,Wc]
theorem QE {a:Nat}{raw:Z4}{l:List Tn}(ha:a<=7)(hr:raw.length<=65535)(last:Bool):∃X,NuV a 0 raw raw.length l l.length last X:=by
 have hp:=rY a;have he:last.toNat<=1:=by cases last<;>decide
 refine⟨_,Qs last _ rfl a ha raw _ rfl hr _ _ _ rfl rfl rfl l.length (l.flatMap bb) (cS l),?_,wA ?_,?_,?_⟩
 ·rw[eJ,ZF rfl,l7,l6]
  unfold qi;rw[gn,fl,fl,fl,fl,DG]
  congr 1
 ·rw[l7,l6]
  refine cU (cU (cU (rX he (by decide)) λ x hx=>?_) (cj ⟨show raw.length<2^16 by omega,VS rfl⟩ (cj ⟨show 65535-raw.length<2^16 by omega,VS rfl⟩ iw))) λ x hx=>?_
  ·rw[List.eq_of_mem_replicate hx];exact⟨by decide,VS rfl⟩
  ·obtain⟨y,hy,rfl⟩:=List.mem_map.1 hx
   exact⟨y.toNat_lt,VS rfl⟩
 ·rw[sr _ (VT _),VI,sq];show 2+fv a+2+_<=_;omega
 ·rw[sr _ (VT _),VI,sq];show 0<2+fv a+2+_;omega
theorem QF {a:Nat}{raw:Z4}{l:List Tn}(ha:a<=7)(hr:raw.length<=65535)(hk:l.length<=20000)(hl:∀i,ci (l.getD i lh))(last:Bool):∃X,NuV a 1 raw raw.length l l.length last X:=by
 have he:last.toNat<=1:=by cases last<;>decide
 have q1:=eI dW;have q2:=eI gQ;have le:=ja (T1:=aB) (T2:=aM) (A:=ab cn) (B:=ab dV) (l:=l) l.length (VT _);have ql:(fC aB aM (ab cn) (ab dV) l l.length++[uB (ab cn) 256]).length<=90000:=by
  rw[VI];show _+1<=_;omega
 have lm:(ab cn).length=288:=by rw[jv];decide+kernel
 have fm:(ab dV).length=32:=by rw[jv];decide+kernel
 refine⟨_,Qv last _ rfl a ha raw _ rfl hr l _ rfl om hl _ _ rfl rfl (by decide) (by decide) cN dq _ _ rfl rfl (by decide+kernel) (by decide+kernel) lm fm q1 q2 (λ i hi=>⟨λ _=>?_,λ h0=>?_⟩) _ ⟨rfl⟩ (VR ql (by decide)) _ rfl,?_,wA ?_,?_,?_⟩
 ·have:=(l.getD i lh).lit.toNat_lt;omega
 ·have:=bg rfl rfl (hl i) h0;omega
 ·rw[eJ,ZE (by decide),ZF rfl,i8,fl,DJ]
 ·exact cU (rX he (by decide)) (cU (DI q1 q2 (ns hl) _) (yQ q1 _))
 ·rw[VI];show 2+_<=_;omega
 ·rw[VI];show 0<2+_;omega
theorem QG {a:Nat}{raw:Z4}{l:List Tn}(ha:a<=7)(hr:raw.length<=65535)(hk:l.length<=20000)(hl:∀i,ci (l.getD i lh))(last:Bool):∃X,NuV a 2 raw raw.length l l.length last X:=by
 have he:last.toNat<=1:=by cases last<;>decide
 have G:=Mn l (show l.length<=65535 by omega);have eL:nq l=(bK (aQ 286 (ce aB l l.length++[256])) 15).take (gS (bK (aQ 286 (ce aB l l.length++[256])) 15) 257):=by rw[rR,fj]
 have eB:rQ l=(bK (aQ 30 (du aM l l.length)) 15).take (gS (bK (aQ 30 (du aM l l.length)) 15) 1):=by rw[rS,fj]
 have eO:yn l=(iJ (nr l) 19).take (gS (iJ (nr l) 19) 4):=by rw[rT,fj]
 have le:=ja (T1:=aB) (T2:=aM) (A:=ab (nq l)) (B:=ab (rQ l)) (l:=l) l.length (VT _);have ql:(fC aB aM (ab (nq l)) (ab (rQ l)) l l.length++[uB (ab (nq l)) 256]).length<=90000:=by
  rw[VI];show _+1<=_;omega
 obtain⟨H5,h5⟩:∃H5,H5=cO (cO [⟨(nq l).length-257,5⟩,⟨(rQ l).length-1,5⟩,⟨(yn l).length-4,4⟩] gO (yn l) (yn l).length) (iv (ab (nr l))) (u9 l) (u9 l).length:=⟨_,rfl⟩
 have e5:k6 last.toNat 2++H5=Eb last.toNat l:=by
  rw[h5,lN,gv,gv,gv,gv,Wc,Wc,Wc]
 have l5:H5.length<=1000:=by
  have:=congrArg aai e5;have h2:=r6 (e:=last.toNat) (l:=l) om;rw[VI]at this;omega
 have o5:gy (k6 last.toNat 2++H5):=by rw[e5];exact rZ he om
 refine⟨(k6 last.toNat 2++H5)++(fC aB aM (ab (nq l)) (ab (rQ l)) l l.length++[uB (ab (nq l)) 256]),?_,?_,wA ?_,?_,?_⟩
 ·refine Qw last _ rfl a ha raw _ rfl hr l _ rfl om hl _ _ rfl rfl (by decide) (by decide) cN dq _ _ _ _ _ _ _ _ _ _ _ (rU l) _ _ H5 rfl rfl ?_ om _ ⟨?_⟩ (VR ql (by decide)) _ rfl
  ·rw[h5,G.lL,G.lB,G.lO,eO]
  ·rw[<-eL,<-eB]
 ·rw[eJ,ZE (by decide),ZE (by decide),i9,fl,e5,DJ]
 ·exact cU o5 (cU (DI G.oL G.oB (ns hl) _) (yQ G.oL _))
 ·rw[VI,VI];show 2+_+_<=_;omega
 ·rw[VI,VI];show 0<2+_+_;omega
theorem yR {a kd:Nat}{raw:Z4}{l:List Tn}(ha:a<=7)(hkd:kd<=2)(hr:raw.length<=65535)(hk:l.length<=20000)(hl:∀i,ci (l.getD i lh))(last:Bool):∃X,NuV a kd raw raw.length l l.length last X:=by
 rcases(show kd=0∨kd=1∨kd=2 by omega)with h|h|h
 ·subst h;exact QE ha hr last
 ·subst h;exact QF ha hr hk hl last
 ·subst h;exact QG ha hr hk hl last
abbrev aa (sz ch:Nat)(lz:Bool)(H raw:Z4):List Tn:=FH (H++raw) H.length sz ch lz
theorem aj (sz ch:Nat)(lz:Bool)(H raw:Z4):(aa sz ch lz H raw).length<=raw.length:=by
 have:=FI (H++raw) H.length sz ch lz;rw[VI]at this;show(FH (H++raw) H.length sz ch lz).length<=_;omega
theorem QH (H raw:Z4)(n q:Nat)(hn:n=H.length+raw.length)(hN:n<=131072)(hq:q=H.length)(sz ch mo:Nat)(lz:Bool)(hs:1<=sz∧sz<=32768)(hc:ch<=256)(hm:1<=mo∧mo<=65535):S0 67 [.sl false n 1 ((H++raw).map dB),nD q,RL sz ch mo lz] [] (.tup [.ref 0 0 0 (aa sz ch lz H raw).length 3,iD 0]) [⟨(aa sz ch lz H raw).flatMap bb, 119,true⟩]:=by
 subst hq;exact O5 (H++raw) n H.length (by rw[VI];exact hn) hN om sz ch mo lz hs hc hm _ rfl
theorem Ae (sz ch mo:Nat)(lz:Bool)(hs:1<=sz∧sz<=32768)(hc:ch<=256)(hmo:1<=mo∧mo<=65535)(nnh nnr:Bool)(H:Z4)(h:Nat)(hh:h=H.length)(hh2:h<=65536)(x5 x6 x7 x8 x9:D)(raw:Z4)(r:Nat)(hr:r=raw.length)(hr2:r<=65535):S0 48 [.ep [nD sz,nD ch,nD mo,bD lz,.sl nnh h 1 (H.map dB),x5,x6,x7,x8,x9] 0,.sl nnr r 1 (raw.map dB)] [] (.ref 0 0 0 (aa sz ch lz H raw).length 3) [⟨(aa sz ch lz H raw).flatMap bb, 119,true⟩]:=SpR Tryz.func48 rfl rfl rfl ⟨dn (λ _=>rfl) _,trivial⟩ rfl 1000 64 (λ R ok=>.L 17 68 false [] (true) wr ([V3 true 2 1 [V3 nnh h 1 (map dB H),V3 nnr r 1 (map dB raw)]]) (by exact(V4 (D.sim.slc (cells:=[V3 nnh h 1 (map dB H),V3 nnr r 1 (map dB raw)]) (cells':=[V3 false h 1 (map dB H),V3 false r 1 (map dB raw)]) rfl (V4 (D.sim.slw rfl rfl) (V4 (D.sim.slw rfl rfl) trivial))) trivial)) (V0 (ao.of Tryz.func68 rfl rfl) (@O3 (false) (false) (H) (raw) (h) (r) om om om om))<|.L 25 67 false [] (true&&(wB (map dB (H++raw)) (h+r) 1)&&true) (by unfold wB;(simp <;>(omega))) ([wD (map dB (H++raw)) (h+r) 1,zN h,Wu [zN sz,zN ch,zN mo,D.v (.bool lz)]]) (by exact(V4 (D.sim.slw rfl (aL (by(simp <;>(omega)))|>.trans rfl)) (qr (qr trivial)))) (V0 (ao.of Tryz.func67 rfl rfl) (@QH (H) (raw) (h+r) (h) om om om (sz) (ch) (mo) (lz) om om om))<|.Y 9 [160] [160] (VJ 0 0 0 (length (aa sz ch lz H raw)) 3) [VF (flatMap bb (aa sz ch lz H raw)) 119 true] ok) kr
theorem QI (sz ch mo:Nat)(lz:Bool)(hs:1<=sz∧sz<=32768)(hc:ch<=256)(hm:1<=mo∧mo<=65535):S0 29 [RL sz ch mo lz] [] (iD 0) []:=Vt.sty_t0 (sz:Int) (ch:Int) (mo:Int) lz (Vt.mayS_iff.2 om)
theorem uO (sz ch mo:Nat)(lz:Bool)(hs:1<=sz∧sz<=32768)(hc:ch<=256)(hmo:1<=mo∧mo<=65535)(H:Z4)(h:Nat)(hh:h=H.length)(hh2:h<=sz)(W:Z4)(w:Nat)(hw:w=W.length)(hw2:w<mo)(P:List Bool)(m:Nat)(hm:m=(pk P).length)(hP:P.length<8)(ov:Bool)(hov:ov=true->w=0∧P.length=0):S0 18 [.agg [nD sz,nD ch,nD mo,bD lz,.sl false h 1 (H.map dB),.sl false w 1 (W.map dB),.sl false m 1 ((pk P).map dB),nD P.length,bD ov]] [] (iD 0) []:=SpR Tryz.func18 rfl rfl rfl trivial rfl 1000 64 (λ R ok=>.C 11 29 false [] (.fn Sb (@QI (sz) (ch) (mo) (lz) om om om))<|.E 31 (decide ((h:Int)<=sz)) (by(refine decide_eq_true ?_;(omega)))<|.C 33 43 false [] (.fn Jt (@oc (P) (m) om om))<|.E 21 (decide ((↑(length P):Int)<8)) (by(refine decide_eq_true ?_;(omega)))<|.R 11 (!ov) (λ p0=>have Z9:=(dl p0);.F 22 (!decide ((w:Int)<mo)) (by(simp <;>(omega)))<|.Y 5 [] [] (zI 0) [] ok) (λ p0=>have Z9:=(dm p0);.E 14 ((w:Int)==0) (by(simp_all;done))<|.F 23 (!decide ((w:Int)<mo)) (by(simp <;>(omega)))<|.F 3 (!(↑(length P):Int)==0) (by(simp_all;done))<|.Y 1 [] [] (zI 0) [] ok)) kr
theorem av {P:List Bool}{kd:Nat}{raw:Z4}{l:List Tn}{e:Nat}(hr:raw.length<=65535)(hk:l.length<=65535):(af P kd raw l e).length<=P.length+3800000:=by
 rw[nu];have:=sx (a:=P.length%8) (kd:=kd) hr hk;omega
def ck (sz:Nat)(H raw:Z4):Z4:=(H++raw).drop ((H++raw).length-sz)
theorem aH (sz:Nat)(H raw:Z4):(ck sz H raw).length=min (H.length+raw.length) sz:=by
 unfold ck;rw[Wr,VI];omega
def Ur (sz ch:Nat)(lz:Bool)(H raw:Z4)(P:List Bool)(e:Nat):List Bool:=af P (bS P.length raw (aa sz ch lz H raw)) raw (aa sz ch lz H raw) e
theorem o7 {X:List D}{c:Bool}{n off:Nat}(h:ae X=true):ae (bif c then X else Ws n (Wx off X))=true:=by
 cases c
 ·exact bx.2 λ d hd=>bx.1 h d (X5 (WU hd))
 ·exact h
theorem Lv {sz:Nat}{H raw:Z4}{k:Nat}(hk:k=(H++raw).length-sz):Wx k (H++raw)=ck sz H raw:=by subst hk;rfl
theorem uP (nn:Bool)(A:Z4)(n off:Nat)(hn:off+n<=A.length)(hn2:n<=10000000):S0 56 [.sl nn n 1 (bif VK off 0&&VK n A.length then A.map dB else(Ws n (Wx off A)).map dB)] [] (.ref 0 0 0 n 1) [⟨(Ws n (Wx off A)).map dB, 5,true⟩]:=by
 have e:(bif VK off 0&&VK n A.length then A.map dB else(Ws n (Wx off A)).map dB)=(Ws n (Wx off A)).map dB:=by
  cases h:(VK off 0&&VK n A.length)
  ·rfl
  ·rw[VO]at h
   have h1:=VQ h.1;have h2:=VQ h.2;rw[cond_true,h1,Xe,h2,Xh]
 have hl:(Ws n (Wx off A)).length=n:=by rw[VW,Wr];omega
 rw[e]
 cases nn with
 |false=>exact cY _ n hl.symm hn2
 |true=>
  have q:=Bl (Ws n (Wx off A)) om;rw[hl]at q;exact q
theorem Mr {p:Prop}(h:p:=by((repeat' (first|(refine aC ?_ ?_)|(with_reducible rfl)|(refine o7 ?_)|exact aF _|exact hclT _|(refine VL ?_)))<;>(try simp only[VP,cS,Wd])<;>(have y1:=av (P:=P) (kd:=bS P.length W (aa sz ch lz H W)) (raw:=W) (l:=(aa sz ch lz H W)) (e:=1) om (VR (aj _ _ _ _ _) om);have y2:=ac (af P (bS P.length W (aa sz ch lz H W)) W (aa sz ch lz H W) 1);have y3:=aH sz H W;have y4:=ac P;omega))):p:=h
theorem jf {p:Prop}(h:p:=by unfold wB;exact Mr):p:=h
theorem U9 {p:Prop}(h:p:=by exact(V4 (D.sim.of_eq (by(simp_all;done))) (V4 (D.sim.slN rfl (aL (by(have y1:=av (P:=P) (kd:=bS P.length W (aa sz ch lz H W)) (raw:=W) (l:=(aa sz ch lz H W)) (e:=1) om (VR (aj _ _ _ _ _) om);have y2:=ac (af P (bS P.length W (aa sz ch lz H W)) W (aa sz ch lz H W) 1);have y3:=aH sz H W;have y4:=ac P;simp only[VP,VW,V8,Wf,VO,Xa,WT];omega))|>.trans rfl)) trivial))):p:=h
theorem Va {p:Prop}(h:p:=by(have y1:=av (P:=P) (kd:=bS P.length W (aa sz ch lz H W)) (raw:=W) (l:=(aa sz ch lz H W)) (e:=1) om (VR (aj _ _ _ _ _) om);have y2:=ac (af P (bS P.length W (aa sz ch lz H W)) W (aa sz ch lz H W) 1);have y3:=aH sz H W;have y4:=ac P;simp only[VP,VW,V8,Wf,VO,Xa,WT];omega)):p:=h
theorem Vb {p:Prop}(h:p:=by(simp;have y1:=av (P:=P) (kd:=bS P.length W (aa sz ch lz H W)) (raw:=W) (l:=(aa sz ch lz H W)) (e:=1) om (VR (aj _ _ _ _ _) om);have y2:=ac (af P (bS P.length W (aa sz ch lz H W)) W (aa sz ch lz H W) 1);have y3:=aH sz H W;have y4:=ac P;omega)):p:=h
theorem DK (a:Nat)(raw:Z4)(l:List Tn)(ha:a<=7):(a+Ar a 0 raw l)%8=0:=by
 rw[o6,eJ,ZF rfl];unfold qi;rw[gn,cF];have h2:∀r:Z4,sm (r.map HH)=8*r.length:=λ r=>by
  induction r with
  |nil=>rfl
  |cons x r ih=>rw[W6,kY,ih,Wj];show 8+_=_;omega
 rw[h2];have h4:sm (RA 0 a raw.length)=1+(2+(fv a+(16+(16+0)))):=rfl;have h5:=kD a;omega
theorem fS (P:List Bool)(raw:Z4)(l:List Tn)(e:Nat):(af P 0 raw l e).length%8=0:=by
 rw[nu];have:=DK (P.length%8) raw l om;omega
theorem qw {a b c d e f g:D}{n0 m0 n1 m1 n2 m2 y:Nat}{x:Int}(h0:n0=m0)(h1:n1=m1)(hx:x=((y:Nat):Int))(h2:n2=m2):WL [Wu [a,b,c,d,.ref 0 0 0 n0 1,e,.ref 1 1 0 n1 1,D.v (.int .i64 x),f],.ref 2 2 0 n2 1,g]=WL [Wu [a,b,c,d,.ref 0 0 0 m0 1,e,.ref 1 1 0 m1 1,nD y,f],.ref 2 2 0 m2 1,g]:=by subst h0 h1 hx h2;rfl
theorem o8 {a a' b b' c c':List D}{t:TypeId}(h0:a=a')(h1:b=b')(h2:c=c'):[VF a t true,VF b t true,VF c t true]=[⟨a',t,true⟩,⟨b',t,true⟩,⟨c',t,true⟩]:=by subst h0 h1 h2;rfl
theorem jx {sz n k:Nat}{H W:Z4}(hk:k=(H++W).length-sz)(hn:n=(H++W).length-k):XD dB (Ws n (Wx k (H++W)))=(ck sz H W).map dB:=by
 rw[Wm (by rw[Wr];omega),Lv hk]
theorem gR {n k:Nat}{X:Z4}(hk:X.length<=k):XD dB (Ws n (Wx k X))=[]:=by
 rw[WS hk,List.take_nil];rfl
theorem ed {k:Nat}{X:Z4}(hk:X.length<=k):(bif true&&VK (k*1) (XD dB X).length then XD dB X else Ws (k*1) (Wx 0 (XD dB X)))=X.map dB:=by
 rw[Dp,Wm hk]
def ar (B:List Bool):List Bool:=lk B (if 0<B.length%8 then af B 0 [] [] 0 else B)
theorem sF (B:List Bool):ar B=if 0<B.length%8 then af B 0 [] [] 0 else B:=aP _ _
theorem IS {B:List Bool}(h:0<B.length%8):ar B=af B 0 [] [] 0:=by rw[sF,ZF h]
theorem DL {B:List Bool}(h:¬0<B.length%8):ar B=B:=by rw[sF,ZE h]
theorem aZ (B:List Bool):(ar B).length%8=0:=by
 rw[sF];split
 ·exact fS _ _ _ _
 ·omega
theorem aK (B:List Bool):(ar B).length<=B.length+3800000:=by
 rw[sF];split
 ·exact av (by decide) (by decide)
 ·omega
theorem Gl (sz ch mo:Nat)(lz:Bool)(hs:1<=sz∧sz<=32768)(hc:ch<=256)(hmo:1<=mo∧mo<=65535)(H:Z4)(h:Nat)(hh:h=H.length)(hh2:h<=sz)(W:Z4)(w:Nat)(hw:w=W.length)(hw2:w<mo)(P:List Bool)(m:Nat)(hm:m=(pk P).length)(hP:P.length<8):S0 23 [.agg [nD sz,nD ch,nD mo,bD lz,.sl false h 1 (H.map dB),.sl false w 1 (W.map dB),.sl false m 1 ((pk P).map dB),nD P.length,bD false]] [] (.tup [.agg [nD sz,nD ch,nD mo,bD lz,.ref 0 0 0 (ck sz H W).length 1,aY,.ref 1 1 0 0 1,nD 0,bD true],.ref 2 2 0 (pk (Ur sz ch lz H W P 1)).length 1,iD 0]) [⟨(ck sz H W).map dB, 5,true⟩,⟨[], 5,true⟩,⟨(pk (Ur sz ch lz H W P 1)).map dB, 5,true⟩]:=by
 have hclT:=λ l:List Tn=>(bW (f:=bb) (λ _=>rfl) l)
 refine SpR Tryz.func23 rfl rfl rfl ⟨aI _,rfl,aI _,trivial⟩ rfl 1000 64 (λ R ok=>.C 21 18 false [] (.fn Hm (@uO (sz) (ch) (mo) (lz) om om om (H) (h) om om (W) (w) om om (P) (m) om om (false) (by(simp;done))))<|.C 20 56 false [] (.fn xe (@cY (H) (h) om om))<|.C 7 56 false [] (.fn xe (@cY (W) (w) om om))<|.C 22 56 false [] (.fn xe (@cY (pk P) (m) om Mr))<|.L 67 48 false [] (true&&(true&&(true&&(true&&(true&&(true&&(wB (map dB H) h 1&&(wB (map dB W) w 1&&(wB (map dB (pk P)) m 1&&true))))))))&&(true&&(wB (map dB W) w 1)&&true)) jf ([D.ep [zN sz,zN ch,zN mo,D.v (.bool lz),wD (map dB H) h 1,wD (map dB W) w 1,wD (map dB (pk P)) m 1,zN (length P),D.v (.bool false),zS] 0,wD (map dB W) w 1]) U9 (.fn Q48 (@Ae (sz) (ch) (mo) (lz) om om om (VN 1 h) (VN 1 w) (H) (h) om om (V3 (VN 1 w) w 1 (map dB W)) (V3 (VN 1 m) m 1 (map dB (pk P))) (zN (length P)) (D.v (.bool false)) (zS) (W) (w) om om))<|.L 1 58 false [] (true&&(true&&(wB (map dB W) w 1)&&(true&&(wB (flatMap bb (aa sz ch lz H W)) (length (aa sz ch lz H W)) 3)&&true))) jf ([zN (length P),V3 (VN 1 w) w 1 (bif true&&VK (w*1) (length (map dB W))then map dB W else take (w*1) (drop 0 (map dB W))),V3 (VN 1 (length (aa sz ch lz H W))) (length (aa sz ch lz H W)) 3 (bif true&&VK (length (aa sz ch lz H W)*3) (length (flatMap bb (aa sz ch lz H W)))then flatMap bb (aa sz ch lz H W)else take (length (aa sz ch lz H W)*3) (drop 0 (flatMap bb (aa sz ch lz H W))))]) (by exact(qr (V4 (D.sim.slw rfl (aL (by(have y1:=av (P:=P) (kd:=bS P.length W (aa sz ch lz H W)) (raw:=W) (l:=(aa sz ch lz H W)) (e:=1) om (VR (aj _ _ _ _ _) om);have y2:=ac (af P (bS P.length W (aa sz ch lz H W)) W (aa sz ch lz H W) 1);have y3:=aH sz H W;have y4:=ac P;simp only[VP,VW,V8,Wf,VO,Xa,WT];omega))|>.trans rfl)) (V4 (D.sim.slw rfl (aL (by(rw[cS];simp;done))|>.trans rfl)) trivial)))) (V0 (ao.of Tryz.func58 rfl rfl) (@QB (length P) om (W) (w) om om (aa sz ch lz H W) (length (aa sz ch lz H W)) om (by(refine VR (aj _ _ _ _ _) ?_;omega)) (by(exact fR hs.2))))<|.L 31 48 false [] (true&&(true&&(true&&(true&&(true&&(true&&(wB (map dB H) h 1&&(wB (map dB W) w 1&&(wB (map dB (pk P)) m 1&&true))))))))&&(true&&(wB (map dB W) w 1)&&true)) jf ([D.ep [zN sz,zN ch,zN mo,D.v (.bool lz),wD (map dB H) h 1,wD (map dB W) w 1,wD (map dB (pk P)) m 1,zN (length P),D.v (.bool false),zS] 0,wD (map dB W) w 1]) U9 (.fn Q48 (@Ae (sz) (ch) (mo) (lz) om om om (VN 1 h) (VN 1 w) (H) (h) om om (V3 (VN 1 w) w 1 (map dB W)) (V3 (VN 1 m) m 1 (map dB (pk P))) (zN (length P)) (D.v (.bool false)) (zS) (W) (w) om om))<|.L 2 57 false [] (true&&(wB (map dB (pk P)) m 1)&&true&&(true&&(true&&(wB (map dB W) w 1)&&(true&&(wB (flatMap bb (aa sz ch lz H W)) (length (aa sz ch lz H W)) 3)&&true)))) jf ([Wu [V3 (VN 1 m) m 1 (bif true&&VK (m*1) (length (map dB (pk P)))then map dB (pk P)else take (m*1) (drop 0 (map dB (pk P)))),zN (length P)],da (bS (length P) W (aa sz ch lz H W)),V3 (VN 1 w) w 1 (bif true&&VK (w*1) (length (map dB W))then map dB W else take (w*1) (drop 0 (map dB W))),V3 (VN 1 (length (aa sz ch lz H W))) (length (aa sz ch lz H W)) 3 (bif true&&VK (length (aa sz ch lz H W)*3) (length (flatMap bb (aa sz ch lz H W)))then flatMap bb (aa sz ch lz H W)else take (length (aa sz ch lz H W)*3) (drop 0 (flatMap bb (aa sz ch lz H W)))),D.v (.bool true)]) (by exact(V4 (D.sim.agg (V4 (D.sim.slw rfl (aL (by(have y1:=av (P:=P) (kd:=bS P.length W (aa sz ch lz H W)) (raw:=W) (l:=(aa sz ch lz H W)) (e:=1) om (VR (aj _ _ _ _ _) om);have y2:=ac (af P (bS P.length W (aa sz ch lz H W)) W (aa sz ch lz H W) 1);have y3:=aH sz H W;have y4:=ac P;simp only[VP,VW,V8,Wf,VO,Xa,WT];omega))|>.trans rfl)) (qr trivial))) (qr (V4 (D.sim.slw rfl (aL (by(have y1:=av (P:=P) (kd:=bS P.length W (aa sz ch lz H W)) (raw:=W) (l:=(aa sz ch lz H W)) (e:=1) om (VR (aj _ _ _ _ _) om);have y2:=ac (af P (bS P.length W (aa sz ch lz H W)) W (aa sz ch lz H W) 1);have y3:=aH sz H W;have y4:=ac P;simp only[VP,VW,V8,Wf,VO,Xa,WT];omega))|>.trans rfl)) (V4 (D.sim.slw rfl (aL (by(rw[cS];simp;done))|>.trans rfl)) (qr trivial)))))) (.fn Q57 (@Qy (P) (m) om om (bS (length P) W (aa sz ch lz H W)) (by(exact DF _ _ _)) (W) (w) om om (aa sz ch lz H W) (length (aa sz ch lz H W)) om (by(refine VR (aj _ _ _ _ _) ?_;omega)) (by(exact fR hs.2))))<|.L 29 52 false [] (true&&(wB (map dB (pk (af P (bS (length P) W (aa sz ch lz H W)) W (aa sz ch lz H W) 1))) (length (pk (af P (bS (length P) W (aa sz ch lz H W)) W (aa sz ch lz H W) 1))) 1)&&true&&true) jf ([Wu [wD (map dB (pk (af P (bS (length P) W (aa sz ch lz H W)) W (aa sz ch lz H W) 1))) (length (pk (af P (bS (length P) W (aa sz ch lz H W)) W (aa sz ch lz H W) 1))) 1,zN (length (af P (bS (length P) W (aa sz ch lz H W)) W (aa sz ch lz H W) 1))]]) (by exact(V4 (D.sim.agg (V4 (D.sim.slw rfl (aL (by(have y1:=av (P:=P) (kd:=bS P.length W (aa sz ch lz H W)) (raw:=W) (l:=(aa sz ch lz H W)) (e:=1) om (VR (aj _ _ _ _ _) om);have y2:=ac (af P (bS P.length W (aa sz ch lz H W)) W (aa sz ch lz H W) 1);have y3:=aH sz H W;have y4:=ac P;simp only[VP,VW,V8,Wf,VO,Xa,WT];omega))|>.trans rfl)) (qr trivial))) trivial)) (V0 (ao.of Tryz.func52 rfl rfl) (@O4 (af P (bS (length P) W (aa sz ch lz H W)) W (aa sz ch lz H W) 1) (length (pk (af P (bS (length P) W (aa sz ch lz H W)) W (aa sz ch lz H W) 1))) om Mr))<|.O 35 (aV VV (VU VV (WZ (↑(8*length (pk (af P (bS (length P) W (aa sz ch lz H W)) W (aa sz ch lz H W) 1))):Int) 8))) (zI ((↑(8*length (pk (af P (bS (length P) W (aa sz ch lz H W)) W (aa sz ch lz H W) 1))):Int)/8)) (au (@aN  ((↑(8*length (pk (af P (bS (length P) W (aa sz ch lz H W)) W (aa sz ch lz H W) 1))):Int)) (8) Mr om))<|.K 27 (aT none (some ((↑(8*length (pk (af P (bS (length P) W (aa sz ch lz H W)) W (aa sz ch lz H W) 1))):Int)/8)) none (length (pk (af P (bS (length P) W (aa sz ch lz H W)) W (aa sz ch lz H W) 1)))&&true) (by(have y1:=av (P:=P) (kd:=bS P.length W (aa sz ch lz H W)) (raw:=W) (l:=(aa sz ch lz H W)) (e:=1) om (VR (aj _ _ _ _ _) om);have y2:=ac (af P (bS P.length W (aa sz ch lz H W)) W (aa sz ch lz H W) 1);have y3:=aH sz H W;have y4:=ac P;exact jL (n:=(pk (af P (bS P.length W (aa sz ch lz H W)) W (aa sz ch lz H W) 1)).length) om om))<|.K 1 (true&&(true&&VN (0+zq ((↑(8*length (pk (af P (bS (length P) W (aa sz ch lz H W)) W (aa sz ch lz H W) 1))):Int)/8)*1) (length (map dB (pk (af P (bS (length P) W (aa sz ch lz H W)) W (aa sz ch lz H W) 1)))))&&true&&true&&VN ((0+zq ((↑(8*length (pk (af P (bS (length P) W (aa sz ch lz H W)) W (aa sz ch lz H W) 1))):Int)/8))*1) 140737488355328) Mr<|.K 25 (aT (some ((↑(8*length (pk (af P (bS (length P) W (aa sz ch lz H W)) W (aa sz ch lz H W) 1))):Int)/8)) none none (length (pk (af P (bS (length P) W (aa sz ch lz H W)) W (aa sz ch lz H W) 1)))&&true) (by(have y1:=av (P:=P) (kd:=bS P.length W (aa sz ch lz H W)) (raw:=W) (l:=(aa sz ch lz H W)) (e:=1) om (VR (aj _ _ _ _ _) om);have y2:=ac (af P (bS P.length W (aa sz ch lz H W)) W (aa sz ch lz H W) 1);have y3:=aH sz H W;have y4:=ac P;exact mw (n:=(pk (af P (bS P.length W (aa sz ch lz H W)) W (aa sz ch lz H W) 1)).length) om om))<|.L 1 56 false [] (true&&(true&&VN (0+zq ((↑(8*length (pk (af P (bS (length P) W (aa sz ch lz H W)) W (aa sz ch lz H W) 1))):Int)/8)*1+(length (pk (af P (bS (length P) W (aa sz ch lz H W)) W (aa sz ch lz H W) 1))-zq ((↑(8*length (pk (af P (bS (length P) W (aa sz ch lz H W)) W (aa sz ch lz H W) 1))):Int)/8))*1) (length (map dB (pk (af P (bS (length P) W (aa sz ch lz H W)) W (aa sz ch lz H W) 1))))&&true&&ae (bif VK (0+zq ((↑(8*length (pk (af P (bS (length P) W (aa sz ch lz H W)) W (aa sz ch lz H W) 1))):Int)/8)*1) 0&&VK ((length (pk (af P (bS (length P) W (aa sz ch lz H W)) W (aa sz ch lz H W) 1))-zq ((↑(8*length (pk (af P (bS (length P) W (aa sz ch lz H W)) W (aa sz ch lz H W) 1))):Int)/8))*1) (length (map dB (pk (af P (bS (length P) W (aa sz ch lz H W)) W (aa sz ch lz H W) 1))))then map dB (pk (af P (bS (length P) W (aa sz ch lz H W)) W (aa sz ch lz H W) 1))else take ((length (pk (af P (bS (length P) W (aa sz ch lz H W)) W (aa sz ch lz H W) 1))-zq ((↑(8*length (pk (af P (bS (length P) W (aa sz ch lz H W)) W (aa sz ch lz H W) 1))):Int)/8))*1) (drop (0+zq ((↑(8*length (pk (af P (bS (length P) W (aa sz ch lz H W)) W (aa sz ch lz H W) 1))):Int)/8)*1) (map dB (pk (af P (bS (length P) W (aa sz ch lz H W)) W (aa sz ch lz H W) 1))))))&&true) Mr ([V3 (VN 1 (length (pk (af P (bS (length P) W (aa sz ch lz H W)) W (aa sz ch lz H W) 1))-zq ((↑(8*length (pk (af P (bS (length P) W (aa sz ch lz H W)) W (aa sz ch lz H W) 1))):Int)/8))) (length (pk (af P (bS (length P) W (aa sz ch lz H W)) W (aa sz ch lz H W) 1))-zq ((↑(8*length (pk (af P (bS (length P) W (aa sz ch lz H W)) W (aa sz ch lz H W) 1))):Int)/8)) 1 (bif VK (0+zq ((↑(8*length (pk (af P (bS (length P) W (aa sz ch lz H W)) W (aa sz ch lz H W) 1))):Int)/8)*1) 0&&VK ((length (pk (af P (bS (length P) W (aa sz ch lz H W)) W (aa sz ch lz H W) 1))-zq ((↑(8*length (pk (af P (bS (length P) W (aa sz ch lz H W)) W (aa sz ch lz H W) 1))):Int)/8))*1) (length (map dB (pk (af P (bS (length P) W (aa sz ch lz H W)) W (aa sz ch lz H W) 1))))then map dB (pk (af P (bS (length P) W (aa sz ch lz H W)) W (aa sz ch lz H W) 1))else take ((length (pk (af P (bS (length P) W (aa sz ch lz H W)) W (aa sz ch lz H W) 1))-zq ((↑(8*length (pk (af P (bS (length P) W (aa sz ch lz H W)) W (aa sz ch lz H W) 1))):Int)/8))*1) (drop (0+zq ((↑(8*length (pk (af P (bS (length P) W (aa sz ch lz H W)) W (aa sz ch lz H W) 1))):Int)/8)*1) (map dB (pk (af P (bS (length P) W (aa sz ch lz H W)) W (aa sz ch lz H W) 1)))))]) (by exact(V4 (D.sim.slw rfl ((bG (pk (af P (bS (length P) W (aa sz ch lz H W)) W (aa sz ch lz H W) 1)) (0+zq ((↑(8*length (pk (af P (bS (length P) W (aa sz ch lz H W)) W (aa sz ch lz H W) 1))):Int)/8)*1) ((length (pk (af P (bS (length P) W (aa sz ch lz H W)) W (aa sz ch lz H W) 1))-zq ((↑(8*length (pk (af P (bS (length P) W (aa sz ch lz H W)) W (aa sz ch lz H W) 1))):Int)/8))*1)).trans (by(simp;done)))) trivial)) (.fn xe (@cY (take (length (pk (af P (bS (length P) W (aa sz ch lz H W)) W (aa sz ch lz H W) 1))-zq ((↑(8*length (pk (af P (bS (length P) W (aa sz ch lz H W)) W (aa sz ch lz H W) 1))):Int)/8)) (drop (zq ((↑(8*length (pk (af P (bS (length P) W (aa sz ch lz H W)) W (aa sz ch lz H W) 1))):Int)/8)) (pk (af P (bS (length P) W (aa sz ch lz H W)) W (aa sz ch lz H W) 1)))) (length (pk (af P (bS (length P) W (aa sz ch lz H W)) W (aa sz ch lz H W) 1))-zq ((↑(8*length (pk (af P (bS (length P) W (aa sz ch lz H W)) W (aa sz ch lz H W) 1))):Int)/8)) Va om))<|.O 16 (aV VV (WW (↑(8*length (pk (af P (bS (length P) W (aa sz ch lz H W)) W (aa sz ch lz H W) 1))):Int) 8)) (zI ((↑(8*length (pk (af P (bS (length P) W (aa sz ch lz H W)) W (aa sz ch lz H W) 1))):Int)%8)) (au (@bw  ((↑(8*length (pk (af P (bS (length P) W (aa sz ch lz H W)) W (aa sz ch lz H W) 1))):Int)) (8) om))<|.K 25 (true&&VK (h*1) (length (map dB H))&&true&&(true&&VN (0+w*1) (length (map dB W)))&&true&&true&&VN ((h+w)*1) 140737488355328) Va<|.W 21 ((↑(h+w):Int)-(sz:Int))<|.O 1 (iE VV true 0 ((↑(h+w):Int)-(sz:Int))) (zI (max 0 ((↑(h+w):Int)-(sz:Int)))) (gJ _ _ _)<|.K 1 (aT (some (max 0 ((↑(h+w):Int)-(sz:Int)))) none none (h+w)&&true) Vb<|.L 1 56 false [] (true&&(true&&VN (0+zq (max 0 ((↑(h+w):Int)-(sz:Int)))*1+(h+w-zq (max 0 ((↑(h+w):Int)-(sz:Int))))*1) (length (map dB H++bif true&&VK (w*1) (length (map dB W))then map dB W else take (w*1) (drop 0 (map dB W))))&&true&&ae (bif VK (0+zq (max 0 ((↑(h+w):Int)-(sz:Int)))*1) 0&&VK ((h+w-zq (max 0 ((↑(h+w):Int)-(sz:Int))))*1) (length (map dB H++bif true&&VK (w*1) (length (map dB W))then map dB W else take (w*1) (drop 0 (map dB W))))then map dB H++bif true&&VK (w*1) (length (map dB W))then map dB W else take (w*1) (drop 0 (map dB W))else take ((h+w-zq (max 0 ((↑(h+w):Int)-(sz:Int))))*1) (drop (0+zq (max 0 ((↑(h+w):Int)-(sz:Int)))*1) (map dB H++bif true&&VK (w*1) (length (map dB W))then map dB W else take (w*1) (drop 0 (map dB W))))))&&true) (by(simp_all<;>omega)) ([V3 (VN 1 (h+w-zq (max 0 ((↑(h+w):Int)-(sz:Int))))) (h+w-zq (max 0 ((↑(h+w):Int)-(sz:Int)))) 1 (bif VK (0+zq (max 0 ((↑(h+w):Int)-(sz:Int)))*1) 0&&VK ((h+w-zq (max 0 ((↑(h+w):Int)-(sz:Int))))*1) (length (map dB H++bif true&&VK (w*1) (length (map dB W))then map dB W else take (w*1) (drop 0 (map dB W))))then map dB H++bif true&&VK (w*1) (length (map dB W))then map dB W else take (w*1) (drop 0 (map dB W))else take ((h+w-zq (max 0 ((↑(h+w):Int)-(sz:Int))))*1) (drop (0+zq (max 0 ((↑(h+w):Int)-(sz:Int)))*1) (map dB H++bif true&&VK (w*1) (length (map dB W))then map dB W else take (w*1) (drop 0 (map dB W)))))]) (by exact(V4 (D.sim.slN rfl (by(simp_all;done))) trivial)) (.fn xe (@uP (VN 1 (h+w-zq (max 0 ((↑(h+w):Int)-(sz:Int))))) (H++W) (h+w-zq (max 0 ((↑(h+w):Int)-(sz:Int)))) (zq (max 0 ((↑(h+w):Int)-(sz:Int)))) Vb om))<|.U 79 [1544,1272,1168] [1544,1272,1168] (WL [Wu [zN sz,zN ch,zN mo,D.v (.bool lz),VJ 0 0 0 (h+w-zq (max 0 ((↑(h+w):Int)-(sz:Int)))) 1,zS,VJ 1 1 0 (length (pk (af P (bS (length P) W (aa sz ch lz H W)) W (aa sz ch lz H W) 1))-zq ((↑(8*length (pk (af P (bS (length P) W (aa sz ch lz H W)) W (aa sz ch lz H W) 1))):Int)/8)) 1,zI ((↑(8*length (pk (af P (bS (length P) W (aa sz ch lz H W)) W (aa sz ch lz H W) 1))):Int)%8),D.v (.bool true)],VJ 2 2 0 (zq ((↑(8*length (pk (af P (bS (length P) W (aa sz ch lz H W)) W (aa sz ch lz H W) 1))):Int)/8)) 1,zI 0]) [VF (map dB (take (h+w-zq (max 0 ((↑(h+w):Int)-(sz:Int)))) (drop (zq (max 0 ((↑(h+w):Int)-(sz:Int)))) (H++W)))) 5 true,VF (map dB (take (length (pk (af P (bS (length P) W (aa sz ch lz H W)) W (aa sz ch lz H W) 1))-zq ((↑(8*length (pk (af P (bS (length P) W (aa sz ch lz H W)) W (aa sz ch lz H W) 1))):Int)/8)) (drop (zq ((↑(8*length (pk (af P (bS (length P) W (aa sz ch lz H W)) W (aa sz ch lz H W) 1))):Int)/8)) (pk (af P (bS (length P) W (aa sz ch lz H W)) W (aa sz ch lz H W) 1))))) 5 true,VF (bif true&&VK (zq ((↑(8*length (pk (af P (bS (length P) W (aa sz ch lz H W)) W (aa sz ch lz H W) 1))):Int)/8)*1) (length (map dB (pk (af P (bS (length P) W (aa sz ch lz H W)) W (aa sz ch lz H W) 1))))then map dB (pk (af P (bS (length P) W (aa sz ch lz H W)) W (aa sz ch lz H W) 1))else take (zq ((↑(8*length (pk (af P (bS (length P) W (aa sz ch lz H W)) W (aa sz ch lz H W) 1))):Int)/8)*1) (drop 0 (map dB (pk (af P (bS (length P) W (aa sz ch lz H W)) W (aa sz ch lz H W) 1))))) 5 true] R (ok _ _ (by(have y1:=av (P:=P) (kd:=bS P.length W (aa sz ch lz H W)) (raw:=W) (l:=(aa sz ch lz H W)) (e:=1) om (VR (aj _ _ _ _ _) om);have y2:=ac (af P (bS P.length W (aa sz ch lz H W)) W (aa sz ch lz H W) 1);have y3:=aH sz H W;have y4:=ac P;refine qw ?_ ?_ ?_ ?_<;>(try rw[show(Ur sz ch lz H W P 1)=(af P (bS P.length W (aa sz ch lz H W)) W (aa sz ch lz H W) 1)from rfl])<;>(try rw[aH])<;>omega)) (by(have y1:=av (P:=P) (kd:=bS P.length W (aa sz ch lz H W)) (raw:=W) (l:=(aa sz ch lz H W)) (e:=1) om (VR (aj _ _ _ _ _) om);have y2:=ac (af P (bS P.length W (aa sz ch lz H W)) W (aa sz ch lz H W) 1);have y3:=aH sz H W;have y4:=ac P;refine o8 (jx (by rw[VI];omega) (by rw[VI];omega)) (gR om) (ed (X:=pk (af P (bS P.length W (aa sz ch lz H W)) W (aa sz ch lz H W) 1)) om))))) kr
theorem Vc {p:Prop}(h:p:=by((repeat' (first|(refine aC ?_ ?_)|(with_reducible rfl)|(refine o7 ?_)|exact aF _|exact hclT _|(refine VL ?_)))<;>(try simp only[VP,cS,Wd])<;>(have y1:=av (P:=P) (kd:=kd) (raw:=W) (l:=(aa sz ch lz H W)) (e:=0) om (VR (aj _ _ _ _ _) om);have y2:=ac (af P kd W (aa sz ch lz H W) 0);have y4:=ac P;have y5:=aK (af P kd W (aa sz ch lz H W) 0);have y6:=ac (ar (af P kd W (aa sz ch lz H W) 0));omega))):p:=h
theorem o9 {p:Prop}(h:p:=by unfold wB;exact Vc):p:=h
theorem uQ {al:Bool}{P:Program}{f:FuncId}{ds ds':List D}{hin:List Blk}{r:D}{bs:List Blk}(hs:cQ ds ds')(h:SpecH al P f ds' hin r bs):SpecH al P f ds hin r bs:=by
 obtain⟨e,g⟩:=hs.get;refine⟨h.1,λ O φ w args hO hh hi hl ha=>h.2 O φ w args hO hh hi (hl.trans e) λ j d' u hd hu=>?_⟩;obtain⟨d,h1,h2⟩:=g j d' hd;exact h2 _ _ _ (ha j d u h1 hu)
theorem QJ (P:List Bool)(m:Nat)(hm:m=(pk P).length)(hP:P.length<=4000000):S0 57 [m5 m P,dY 0,aY,aY,.v (.bool false)] [] (.tup [.agg [.ref 0 0 0 (pk (af P 0 [] [] 0)).length 1,nD (af P 0 [] [] 0).length],iD 0]) [⟨(pk (af P 0 [] [] 0)).map dB, 5,true⟩]:=
 uQ (ds':=[m5 m P,dY 0,.sl false 0 1 (([]:Z4).map dB),.sl false 0 3 (([]:List Tn).flatMap bb),.v (.bool false)]) ⟨.refl _,.refl _,D.sim.nil (by decide),D.sim.nil (by decide),.refl _,trivial⟩ (DC P m hm hP 0 (by decide) [] 0 rfl (by decide) [] 0 rfl (by decide) (λ i=>.inl ⟨rfl,rfl⟩))
def IT (a:Nat)(raw:Z4)(l:List Tn):Nat:=lk l (if DE a raw l<DD a raw l then 2 else 1)
theorem uR {a:Nat}{raw:Z4}{l:List Tn}(h:DE a raw l<DD a raw l):IT a raw l=2:=(aP _ _).trans (ZF h)
theorem uS {a:Nat}{raw:Z4}{l:List Tn}(h:¬DE a raw l<DD a raw l):IT a raw l=1:=(aP _ _).trans (ZE h)
def Af (sz ch:Nat)(lz:Bool)(H W:Z4)(P:List Bool):List Bool:=
 if(ar (af P (IT P.length W (aa sz ch lz H W)) W (aa sz ch lz H W) 0)).length<(ar (af P 0 W (aa sz ch lz H W) 0)).length then ar (af P (IT P.length W (aa sz ch lz H W)) W (aa sz ch lz H W) 0)else ar (af P 0 W (aa sz ch lz H W) 0)
theorem yS {sz ch:Nat}{lz:Bool}{H W:Z4}{P X Y:List Bool}{k:Nat}(hk:IT P.length W (aa sz ch lz H W)=k)(hX:X=ar (af P 0 W (aa sz ch lz H W) 0))(hY:Y=ar (af P k W (aa sz ch lz H W) 0))(h:Y.length<X.length):Af sz ch lz H W P=Y:=by
 subst hX hY hk;exact ZF h
theorem yT {sz ch:Nat}{lz:Bool}{H W:Z4}{P X Y:List Bool}{k:Nat}(hk:IT P.length W (aa sz ch lz H W)=k)(hX:X=ar (af P 0 W (aa sz ch lz H W) 0))(hY:Y=ar (af P k W (aa sz ch lz H W) 0))(h:¬Y.length<X.length):Af sz ch lz H W P=X:=by
 subst hX hY hk;exact ZE h
theorem QK (sz ch:Nat)(lz:Bool)(H W:Z4)(P:List Bool):(Af sz ch lz H W P).length%8=0:=by
 unfold Af;split<;>exact aZ _
theorem Us (sz ch mo:Nat)(lz:Bool)(hs:1<=sz∧sz<=32768)(hc:ch<=256)(hmo:1<=mo∧mo<=65535)(H:Z4)(h:Nat)(hh:h=H.length)(hh2:h<=sz)(W:Z4)(w:Nat)(hw:w=W.length)(hw2:w<mo)(P:List Bool)(m:Nat)(hm:m=(pk P).length)(hP:P.length<8)(kd:Nat)(hkd:kd<=2):S1 50 [.agg [nD sz,nD ch,nD mo,bD lz,.ref 0 0 0 h 1,.ref 1 1 0 w 1,.ref 2 2 0 m 1,nD P.length,bD false,aY],dY kd] [⟨H.map dB, 5,true⟩,⟨W.map dB, 5,true⟩,⟨(pk P).map dB, 5,true⟩] (.ptr 3 3 0) [⟨H.map dB, 5,true⟩,⟨W.map dB, 5,true⟩,⟨(pk P).map dB, 5,true⟩,⟨[nD sz,nD ch,nD mo,bD lz,.ref 0 0 0 h 1,.ref 1 1 0 w 1,.ref 4 4 0 (pk (ar (af P kd W (aa sz ch lz H W) 0))).length 1,nD (ar (af P kd W (aa sz ch lz H W) 0)).length,bD false,aY], 68,false⟩,⟨(pk (ar (af P kd W (aa sz ch lz H W) 0))).map dB, 5,true⟩]:=by
 have hclT:=λ l:List Tn=>(bW (f:=bb) (λ _=>rfl) l)
 refine SpR Tryz.func50 rfl rfl rfl ⟨aF _,aF _,aF _,rfl,aF _,trivial⟩ rfl 1000 64 (λ R ok=>.L 36 48 false [] (true&&(true&&(true&&(true&&(true&&(true&&(wB (map dB H) h 1&&(wB (map dB W) w 1&&(wB (map dB (pk P)) m 1&&true))))))))&&(true&&(wB (map dB W) w 1)&&true)) o9 ([D.ep [zN sz,zN ch,zN mo,D.v (.bool lz),wD (map dB H) h 1,wD (map dB W) w 1,wD (map dB (pk P)) m 1,zN (length P),D.v (.bool false),zS] 0,wD (map dB W) w 1]) (by exact(V4 (D.sim.of_eq (by(simp_all;done))) (V4 (D.sim.slN rfl (aL (by(have y1:=av (P:=P) (kd:=kd) (raw:=W) (l:=(aa sz ch lz H W)) (e:=0) om (VR (aj _ _ _ _ _) om);have y2:=ac (af P kd W (aa sz ch lz H W) 0);have y4:=ac P;have y5:=aK (af P kd W (aa sz ch lz H W) 0);have y6:=ac (ar (af P kd W (aa sz ch lz H W) 0));simp only[VP,VW,V8,Wf,VO,Xa,WT];omega))|>.trans rfl)) trivial))) (.fn Q48 (@Ae (sz) (ch) (mo) (lz) om om om (VN 1 h) (VN 1 w) (H) (h) om om (V3 (VN 1 w) w 1 (map dB W)) (V3 (VN 1 m) m 1 (map dB (pk P))) (zN (length P)) (D.v (.bool false)) (zS) (W) (w) om om))<|.L 2 57 false [] (true&&(wB (map dB (pk P)) m 1)&&true&&(true&&(true&&(wB (map dB W) w 1)&&(true&&(wB (flatMap bb (aa sz ch lz H W)) (length (aa sz ch lz H W)) 3)&&true)))) o9 ([Wu [V3 (VN 1 m) m 1 (bif true&&VK (m*1) (length (map dB (pk P)))then map dB (pk P)else take (m*1) (drop 0 (map dB (pk P)))),zN (length P)],da kd,V3 (VN 1 w) w 1 (bif true&&VK (w*1) (length (map dB W))then map dB W else take (w*1) (drop 0 (map dB W))),V3 (VN 1 (length (aa sz ch lz H W))) (length (aa sz ch lz H W)) 3 (bif true&&VK (length (aa sz ch lz H W)*3) (length (flatMap bb (aa sz ch lz H W)))then flatMap bb (aa sz ch lz H W)else take (length (aa sz ch lz H W)*3) (drop 0 (flatMap bb (aa sz ch lz H W)))),D.v (.bool false)]) (by exact(V4 (D.sim.agg (V4 (D.sim.slw rfl (aL (by(have y1:=av (P:=P) (kd:=kd) (raw:=W) (l:=(aa sz ch lz H W)) (e:=0) om (VR (aj _ _ _ _ _) om);have y2:=ac (af P kd W (aa sz ch lz H W) 0);have y4:=ac P;have y5:=aK (af P kd W (aa sz ch lz H W) 0);have y6:=ac (ar (af P kd W (aa sz ch lz H W) 0));simp only[VP,VW,V8,Wf,VO,Xa,WT];omega))|>.trans rfl)) (qr trivial))) (qr (V4 (D.sim.slw rfl (aL (by(have y1:=av (P:=P) (kd:=kd) (raw:=W) (l:=(aa sz ch lz H W)) (e:=0) om (VR (aj _ _ _ _ _) om);have y2:=ac (af P kd W (aa sz ch lz H W) 0);have y4:=ac P;have y5:=aK (af P kd W (aa sz ch lz H W) 0);have y6:=ac (ar (af P kd W (aa sz ch lz H W) 0));simp only[VP,VW,V8,Wf,VO,Xa,WT];omega))|>.trans rfl)) (V4 (D.sim.slw rfl (aL (by(rw[cS];simp;done))|>.trans rfl)) (qr trivial)))))) (.fn Q57 (@DC (P) (m) om om (kd) om (W) (w) om om (aa sz ch lz H W) (length (aa sz ch lz H W)) om (by(refine VR (aj _ _ _ _ _) ?_;omega)) (by(exact fR hs.2))))<|.O 29 (aV VV (WW (↑(length (af P kd W (aa sz ch lz H W) 0)):Int) 8)) (zI ((↑(length (af P kd W (aa sz ch lz H W) 0)):Int)%8)) (au (@bw  ((↑(length (af P kd W (aa sz ch lz H W) 0)):Int)) (8) om))<|.B 2 (0<(↑(length (af P kd W (aa sz ch lz H W) 0)):Int)%8) (λ p0 Z9=>.L 11 57 false [] (true&&(wB (map dB (pk (af P kd W (aa sz ch lz H W) 0))) (length (pk (af P kd W (aa sz ch lz H W) 0))) 1)&&true&&true) o9 ([Wu [wD (map dB (pk (af P kd W (aa sz ch lz H W) 0))) (length (pk (af P kd W (aa sz ch lz H W) 0))) 1,zN (length (af P kd W (aa sz ch lz H W) 0))],bI 0,zS,zS,D.v (.bool false)]) (by exact(V4 (D.sim.agg (V4 (D.sim.slw rfl (aL (by(have y1:=av (P:=P) (kd:=kd) (raw:=W) (l:=(aa sz ch lz H W)) (e:=0) om (VR (aj _ _ _ _ _) om);have y2:=ac (af P kd W (aa sz ch lz H W) 0);have y4:=ac P;have y5:=aK (af P kd W (aa sz ch lz H W) 0);have y6:=ac (ar (af P kd W (aa sz ch lz H W) 0));simp only[VP,VW,V8,Wf,VO,Xa,WT];omega))|>.trans rfl)) (qr trivial))) (qr (qr (qr (qr trivial)))))) (.fn Q57 (@QJ (af P kd W (aa sz ch lz H W) 0) (length (pk (af P kd W (aa sz ch lz H W) 0))) om Vc))<|.U 15 [0,1,2,3,331] [0,1,2,3,331] (V7 3 3 0) [VF (map dB H) 5 true,VF (map dB W) 5 true,VF (map dB (pk P)) 5 true,VF [zN sz,zN ch,zN mo,D.v (.bool lz),VJ 0 0 0 h 1,VJ 1 1 0 w 1,VJ 4 4 0 (length (pk (af (af P kd W (aa sz ch lz H W) 0) 0 [] [] 0))) 1,zN (length (af (af P kd W (aa sz ch lz H W) 0) 0 [] [] 0)),D.v (.bool false),zS] 68 false,VF (map dB (pk (af (af P kd W (aa sz ch lz H W) 0) 0 [] [] 0))) 5 true] R (ok _ _ wr (by(rw[IS om])))) (λ p0 Z9=>.U 1 [0,1,2,3,171] [0,1,2,3,171] (V7 3 3 0) [VF (map dB H) 5 true,VF (map dB W) 5 true,VF (map dB (pk P)) 5 true,VF [zN sz,zN ch,zN mo,D.v (.bool lz),VJ 0 0 0 h 1,VJ 1 1 0 w 1,VJ 4 4 0 (length (pk (af P kd W (aa sz ch lz H W) 0))) 1,zN (length (af P kd W (aa sz ch lz H W) 0)),D.v (.bool false),zS] 68 false,VF (map dB (pk (af P kd W (aa sz ch lz H W) 0))) 5 true] R (ok _ _ wr (by(rw[DL om]))))) kr
theorem IU (sz ch mo:Nat)(lz:Bool)(hs:1<=sz∧sz<=32768)(hc:ch<=256)(hmo:1<=mo∧mo<=65535)(H:Z4)(h:Nat)(hh:h=H.length)(hh2:h<=sz)(W:Z4)(w:Nat)(hw:w=W.length)(hw2:w<mo)(P:List Bool)(m:Nat)(hm:m=(pk P).length)(hP:P.length<8):S1 50 [.agg [nD sz,nD ch,nD mo,bD lz,.ref 0 0 0 h 1,.ref 1 1 0 w 1,.ref 2 2 0 m 1,nD P.length,bD false,aY],dY 0] [⟨H.map dB, 5,true⟩,⟨W.map dB, 5,true⟩,⟨(pk P).map dB, 5,true⟩] (.ptr 3 3 0) [⟨H.map dB, 5,true⟩,⟨W.map dB, 5,true⟩,⟨(pk P).map dB, 5,true⟩,⟨[nD sz,nD ch,nD mo,bD lz,.ref 0 0 0 h 1,.ref 1 1 0 w 1,.ref 4 4 0 (pk (ar (af P 0 W (aa sz ch lz H W) 0))).length 1,nD (ar (af P 0 W (aa sz ch lz H W) 0)).length,bD false,aY], 68,false⟩,⟨(pk (ar (af P 0 W (aa sz ch lz H W) 0))).map dB, 5,true⟩]:=Us sz ch mo lz hs hc hmo H h hh hh2 W w hw hw2 P m hm hP 0 (by decide)
theorem QL (sz ch mo:Nat)(lz:Bool)(hs:1<=sz∧sz<=32768)(hc:ch<=256)(hmo:1<=mo∧mo<=65535)(H:Z4)(h:Nat)(hh:h=H.length)(hh2:h<=sz)(W:Z4)(w:Nat)(hw:w=W.length)(hw2:w<mo)(P:List Bool)(m:Nat)(hm:m=(pk P).length)(hP:P.length<8):S1 50 [.agg [nD sz,nD ch,nD mo,bD lz,.ref 0 0 0 h 1,.ref 1 1 0 w 1,.ref 2 2 0 m 1,nD P.length,bD false,aY],dY 1] [⟨H.map dB, 5,true⟩,⟨W.map dB, 5,true⟩,⟨(pk P).map dB, 5,true⟩] (.ptr 3 3 0) [⟨H.map dB, 5,true⟩,⟨W.map dB, 5,true⟩,⟨(pk P).map dB, 5,true⟩,⟨[nD sz,nD ch,nD mo,bD lz,.ref 0 0 0 h 1,.ref 1 1 0 w 1,.ref 4 4 0 (pk (ar (af P 1 W (aa sz ch lz H W) 0))).length 1,nD (ar (af P 1 W (aa sz ch lz H W) 0)).length,bD false,aY], 68,false⟩,⟨(pk (ar (af P 1 W (aa sz ch lz H W) 0))).map dB, 5,true⟩]:=Us sz ch mo lz hs hc hmo H h hh hh2 W w hw hw2 P m hm hP 1 (by decide)
theorem QM (sz ch mo:Nat)(lz:Bool)(hs:1<=sz∧sz<=32768)(hc:ch<=256)(hmo:1<=mo∧mo<=65535)(H:Z4)(h:Nat)(hh:h=H.length)(hh2:h<=sz)(W:Z4)(w:Nat)(hw:w=W.length)(hw2:w<mo)(P:List Bool)(m:Nat)(hm:m=(pk P).length)(hP:P.length<8):S1 50 [.agg [nD sz,nD ch,nD mo,bD lz,.ref 0 0 0 h 1,.ref 1 1 0 w 1,.ref 2 2 0 m 1,nD P.length,bD false,aY],dY 2] [⟨H.map dB, 5,true⟩,⟨W.map dB, 5,true⟩,⟨(pk P).map dB, 5,true⟩] (.ptr 3 3 0) [⟨H.map dB, 5,true⟩,⟨W.map dB, 5,true⟩,⟨(pk P).map dB, 5,true⟩,⟨[nD sz,nD ch,nD mo,bD lz,.ref 0 0 0 h 1,.ref 1 1 0 w 1,.ref 4 4 0 (pk (ar (af P 2 W (aa sz ch lz H W) 0))).length 1,nD (ar (af P 2 W (aa sz ch lz H W) 0)).length,bD false,aY], 68,false⟩,⟨(pk (ar (af P 2 W (aa sz ch lz H W) 0))).map dB, 5,true⟩]:=Us sz ch mo lz hs hc hmo H h hh hh2 W w hw hw2 P m hm hP 2 (by decide)
theorem IV (sz ch mo:Nat)(lz:Bool)(h w a b x y:Nat)(hx:x<=100000000)(hy:y<=100000000)(H W A B:Z4)(hxy:y<x):S1 49 [.ref 0 0 0 2 1] [⟨[.ptr 1 1 0,.ptr 2 2 0], 64,false⟩,⟨[nD sz,nD ch,nD mo,bD lz,.ref 3 3 0 h 1,.ref 4 4 0 w 1,.ref 5 5 0 a 1,nD x,bD false,aY], 68,false⟩,⟨[nD sz,nD ch,nD mo,bD lz,.ref 3 3 0 h 1,.ref 4 4 0 w 1,.ref 6 6 0 b 1,nD y,bD false,aY], 68,false⟩,⟨H.map dB, 5,true⟩,⟨W.map dB, 5,true⟩,⟨A.map dB, 5,true⟩,⟨B.map dB, 5,true⟩] (.ptr 2 2 0) [⟨[.ptr 1 1 0,.ptr 2 2 0], 64,false⟩,⟨[nD sz,nD ch,nD mo,bD lz,.ref 3 3 0 h 1,.ref 4 4 0 w 1,.ref 5 5 0 a 1,nD x,bD false,aY], 68,false⟩,⟨[nD sz,nD ch,nD mo,bD lz,.ref 3 3 0 h 1,.ref 4 4 0 w 1,.ref 6 6 0 b 1,nD y,bD false,aY], 68,false⟩,⟨H.map dB, 5,true⟩,⟨W.map dB, 5,true⟩,⟨A.map dB, 5,true⟩,⟨B.map dB, 5,true⟩]:=SpR Tryz.func49 rfl rfl rfl ⟨rfl,rfl,rfl,aF _,aF _,aF _,aF _,trivial⟩ rfl 1000 64 (λ R ok=>.W 68 (y-x)<|.E 3 (decide ((y:Int)-x<0)) (by(refine decide_eq_true ?_;(omega)))<|.Y 22 [0,1,2,3,4,5,6] [0,1,2,3,4,5,6] (V7 2 2 0) [VF [V7 1 1 0,V7 2 2 0] 64 false,VF [zN sz,zN ch,zN mo,D.v (.bool lz),VJ 3 3 0 h 1,VJ 4 4 0 w 1,VJ 5 5 0 a 1,zN x,D.v (.bool false),zS] 68 false,VF [zN sz,zN ch,zN mo,D.v (.bool lz),VJ 3 3 0 h 1,VJ 4 4 0 w 1,VJ 6 6 0 b 1,zN y,D.v (.bool false),zS] 68 false,VF (map dB H) 5 true,VF (map dB W) 5 true,VF (map dB A) 5 true,VF (map dB B) 5 true] ok) kr
theorem IW (sz ch mo:Nat)(lz:Bool)(h w a b x y:Nat)(hx:x<=100000000)(hy:y<=100000000)(H W A B:Z4)(hxy:¬y<x):S1 49 [.ref 0 0 0 2 1] [⟨[.ptr 1 1 0,.ptr 2 2 0], 64,false⟩,⟨[nD sz,nD ch,nD mo,bD lz,.ref 3 3 0 h 1,.ref 4 4 0 w 1,.ref 5 5 0 a 1,nD x,bD false,aY], 68,false⟩,⟨[nD sz,nD ch,nD mo,bD lz,.ref 3 3 0 h 1,.ref 4 4 0 w 1,.ref 6 6 0 b 1,nD y,bD false,aY], 68,false⟩,⟨H.map dB, 5,true⟩,⟨W.map dB, 5,true⟩,⟨A.map dB, 5,true⟩,⟨B.map dB, 5,true⟩] (.ptr 1 1 0) [⟨[.ptr 1 1 0,.ptr 2 2 0], 64,false⟩,⟨[nD sz,nD ch,nD mo,bD lz,.ref 3 3 0 h 1,.ref 4 4 0 w 1,.ref 5 5 0 a 1,nD x,bD false,aY], 68,false⟩,⟨[nD sz,nD ch,nD mo,bD lz,.ref 3 3 0 h 1,.ref 4 4 0 w 1,.ref 6 6 0 b 1,nD y,bD false,aY], 68,false⟩,⟨H.map dB, 5,true⟩,⟨W.map dB, 5,true⟩,⟨A.map dB, 5,true⟩,⟨B.map dB, 5,true⟩]:=SpR Tryz.func49 rfl rfl rfl ⟨rfl,rfl,rfl,aF _,aF _,aF _,aF _,trivial⟩ rfl 1000 64 (λ R ok=>.W 68 (y-x)<|.F 3 (decide ((y:Int)-x<0)) (by(refine decide_eq_false ?_;(omega)))<|.Y 14 [0,1,2,3,4,5,6] [0,1,2,3,4,5,6] (V7 1 1 0) [VF [V7 1 1 0,V7 2 2 0] 64 false,VF [zN sz,zN ch,zN mo,D.v (.bool lz),VJ 3 3 0 h 1,VJ 4 4 0 w 1,VJ 5 5 0 a 1,zN x,D.v (.bool false),zS] 68 false,VF [zN sz,zN ch,zN mo,D.v (.bool lz),VJ 3 3 0 h 1,VJ 4 4 0 w 1,VJ 6 6 0 b 1,zN y,D.v (.bool false),zS] 68 false,VF (map dB H) 5 true,VF (map dB W) 5 true,VF (map dB A) 5 true,VF (map dB B) 5 true] ok) kr
end Vp
end Go.Proofs.YtefjnofhgkjpmaaGreat

/- Part 8. -/
import Derived.Test.YtefjnofhgkjpmaaTm7
set_option linter.unusedVariables false
set_option linter.unusedSimpArgs false
set_option maxRecDepth 100000
set_option maxHeartbeats 4000000
open Bool renaming and_true → Uh, true_and → Ub
open Eq renaming trans → Xm
open Go.Fn renaming func → Ui
open Go.IntKind renaming i64 → Uf, u64 → Vn, wrap → TM
open Go.Value renaming int → UE
open Go.Vx.Blk renaming mk → Tq
open Go.Vx.CallOk renaming fn → TW
open Go.Vx.CutS renaming mk → TJ
open Go.Vx.D renaming fn → U9, ptr → TF, ref → Tu, sl → TL, tup → Uw
open Inhabited renaming default → mb
open Int renaming fdiv → Uk, mul_one → YM, toNat → zK
open List renaming append_assoc → TG, append_nil → Ue, drop → UQ, drop_eq_getElem_cons → UK, drop_eq_nil_of_le → Vb, filter_append → US, filter_cons_of_neg → VB, filter_cons_of_pos → VA, filter_nil → YU, flatMap_append → UV, getD_eq_getElem?_getD → To, getElem?_drop → UM, getElem?_eq_getElem → Ts, getElem?_map → TN, getElem_mem → Uo, length_append → Tt, length_cons → T3, length_drop → Ul, length_filter_le → Wk, length_map → TH, length_set → VG, length_singleton → Ud, length_take → TR, map_append → Uq, mem_cons_of_mem → TU, mem_cons_self → TP, mem_filter → WC, range → Uv, range_succ → Wf, take_sublist → Yt, take_succ_eq_append_getElem → T8
open List.Perm renaming refl → V6
open Nat renaming add_sub_cancel → VK, beq → Tx, beq_refl → Uz, ble → Tz, ble_eq_true_of_le → Tv, le_refl → TD, le_trans → T6, lt_or_ge → T5, min_le_left → YT, mul_add → V2, mul_assoc → UU, mul_comm → Ve, mul_le_mul_left → V8, mul_one → TZ, pow_le_pow_right → TX, pow_succ → Us, succ_ne_zero → VJ, two_pow_pos → UY, zero_add → T0, zero_le → T7
namespace Go.Proofs.Ytefjnofhgkjpmaa
open Go.RowKit Go.Bw Go.Vx
open List (length getD map take drop flatMap replicate)
namespace Vp
theorem fo {p:Prop}(h:p:=by(refine decide_eq_true ?_;(omega))):p:=h
theorem sE {p:Prop}(h:p:=by(refine decide_eq_false ?_;(omega))):p:=h
theorem va {p:Prop}(h:p:=by(refine aT ?_;(omega))):p:=h
theorem FD {p:Prop}(h:p:=by show y-((x+y)/2+1)<y-x;clear next1 last1;omega):p:=h
theorem FE {p:Prop}(h:p:=by show(x+y)/2-x<y-x;clear next1 last1;omega):p:=h
theorem FF {p:Prop}(h:p:=by(have z:=CT hR om;refine aT ?_;omega)):p:=h
theorem FG {p:Prop}(h:p:=by((refine aJ ?_ ?_)<;>(repeat' (first|(refine aJ ?_ ?_)|(with_reducible rfl)|(refine decide_eq_true ?_)|(refine Tv ?_)|(refine fx ?_)))<;>(omega))):p:=h
theorem FH {p:Prop}(h:p:=by(have z:=hE.e3 om;refine aT ?_;omega)):p:=h
theorem FI {p:Prop}(h:p:=by(have z:=hE.e4 om;refine aT ?_;omega)):p:=h
theorem Pp {p:Prop}(h:p:=by show(!decide _)=true;rw[decide_eq_false (show¬Pq W X _ _<0 from hp)];rfl):p:=h
theorem H7 {p:Prop}(h:p:=by show¬(!decide _)=true;rw[decide_eq_true (show Pq W X _ _<0 from hp)];decide):p:=h
theorem H8 {p:Prop}(h:p:=by(exact RL (u:=0+(((x:Int)+(y:Int))/2).toNat*1) (v:=0+(((a:Int)+(b:Int))/2+(m:Int)-1-((x:Int)+(y:Int))/2).toNat*1) hR om om om om aD)):p:=h
theorem H9 {p:Prop}(h:p:=by(exact RM (u:=0+(((x:Int)+(y:Int))/2).toNat*1) (v:=0+(((a:Int)+(b:Int))/2+(m:Int)-1-((x:Int)+(y:Int))/2).toNat*1) hR om om om om aD)):p:=h
def i6 (p:Nat→Bool):Nat→Nat→Nat→Nat
 |0,i,_=>i
 |f+1,i,j=>if i<j then(if p ((i+j)/2)=true then i6 p f ((i+j)/2+1) j else i6 p f i ((i+j)/2))else i
theorem CT {p:Nat→Bool}{f i j T:Nat}(hR:i6 p f i j=T)(h:¬i<j):i=T:=by
 rw[←hR];cases f with
 |zero=>rfl
 |succ f=>exact(if_neg h).symm
theorem K5 {p:Nat→Bool}{f i j T:Nat}(hR:i6 p f i j=T)(hf:j-i≤f)(h:i<j)(hp:p ((i+j)/2)=true):i6 p (f-1) ((i+j)/2+1) j=T:=by
 obtain⟨g,rfl⟩:∃g,f=g+1:=⟨f-1,by omega⟩
 rw[←hR];exact((if_pos h).trans (if_pos hp)).symm
theorem K6 {p:Nat→Bool}{f i j T:Nat}(hR:i6 p f i j=T)(hf:j-i≤f)(h:i<j)(hp:¬p ((i+j)/2)=true):i6 p (f-1) i ((i+j)/2)=T:=by
 obtain⟨g,rfl⟩:∃g,f=g+1:=⟨f-1,by omega⟩
 rw[←hR];exact((if_pos h).trans (if_neg hp)).symm
theorem pf {p:Nat→Bool}:∀(f i j:Nat),i≤j→i≤i6 p f i j∧i6 p f i j≤j
 |0,i,j,h=>⟨TD _,h⟩
 |f+1,i,j,h=>by
  rw[i6];split
  ·split
   ·have:=pf (p:=p) f ((i+j)/2+1) j (by omega);omega
   ·have:=pf (p:=p) f i ((i+j)/2) (by omega);omega
  ·exact⟨TD _,h⟩
def Pq (W X:List Nat)(u v:Nat):Int:=px (W.getD (X.getD u mb) mb) (W.getD (X.getD v mb) mb)
def qA (W X:List Nat)(a h:Nat):Bool:=decide (Pq W X h a<0)
def qB (W X:List Nat)(m h:Nat):Bool:=!decide (Pq W X m h<0)
def qC (W X:List Nat)(q c:Nat):Bool:=!decide (Pq W X (q-c) c<0)
section
variable {W X:List Nat} {f x y T a u v:Nat}
theorem RH (hR:i6 (qA W X a) f x y=T)(hf:y-x≤f)(h:x<y)(hu:u=(x+y)/2)(hv:v=a)(hp:px (W.getD (X.getD u mb) mb) (W.getD (X.getD v mb) mb)<0):i6 (qA W X a) (f-1) ((x+y)/2+1) y=T:=by
 subst hu hv;exact K5 hR hf h (decide_eq_true hp)
theorem RI (hR:i6 (qA W X a) f x y=T)(hf:y-x≤f)(h:x<y)(hu:u=(x+y)/2)(hv:v=a)(hp:¬px (W.getD (X.getD u mb) mb) (W.getD (X.getD v mb) mb)<0):i6 (qA W X a) (f-1) x ((x+y)/2)=T:=by
 subst hu hv;exact K6 hR hf h (fun q=>hp (of_decide_eq_true q))
theorem RJ (hR:i6 (qB W X a) f x y=T)(hf:y-x≤f)(h:x<y)(hu:u=(x+y)/2)(hv:v=a)(hp:¬px (W.getD (X.getD v mb) mb) (W.getD (X.getD u mb) mb)<0):i6 (qB W X a) (f-1) ((x+y)/2+1) y=T:=by
 subst hu hv;exact K5 hR hf h Pp
theorem RK (hR:i6 (qB W X a) f x y=T)(hf:y-x≤f)(h:x<y)(hu:u=(x+y)/2)(hv:v=a)(hp:px (W.getD (X.getD v mb) mb) (W.getD (X.getD u mb) mb)<0):i6 (qB W X a) (f-1) x ((x+y)/2)=T:=by
 subst hu hv;exact K6 hR hf h H7
theorem RL (hR:i6 (qC W X a) f x y=T)(hf:y-x≤f)(h:x<y)(hu:u=(x+y)/2)(hv:v=a-(x+y)/2)(hp:¬px (W.getD (X.getD v mb) mb) (W.getD (X.getD u mb) mb)<0):i6 (qC W X a) (f-1) ((x+y)/2+1) y=T:=by
 subst hu hv;exact K5 hR hf h Pp
theorem RM (hR:i6 (qC W X a) f x y=T)(hf:y-x≤f)(h:x<y)(hu:u=(x+y)/2)(hv:v=a-(x+y)/2)(hp:px (W.getD (X.getD v mb) mb) (W.getD (X.getD u mb) mb)<0):i6 (qC W X a) (f-1) x ((x+y)/2)=T:=by
 subst hu hv;exact K6 hR hf h H7
end
def Pr (X:List Nat)(a:Nat):Nat→List Nat
 |0=>X
 |k+1=>swp (Pr X a k) (a+k) (a+k+1)
def Ps (X:List Nat)(m:Nat):Nat→List Nat
 |0=>X
 |k+1=>swp (Ps X m k) (m-k) (m-k-1)
theorem yC (X:List Nat)(a:Nat):∀k,(Pr X a k).length=X.length
 |0=>rfl
 |k+1=>by rw[Pr,iO,yC X a k]
theorem yD (X:List Nat)(a:Nat):∀k,(Ps X a k).length=X.length
 |0=>rfl
 |k+1=>by rw[Ps,iO,yD X a k]
def jz (X:List Nat)(a k:Nat):List Nat:=lk X (Pr X a k)
def jA (X:List Nat)(m k:Nat):List Nat:=lk X (Ps X m k)
theorem sF (X:List Nat)(a k:Nat):jz X a k=Pr X a k:=aw _ _
theorem sG (X:List Nat)(a k:Nat):jA X a k=Ps X a k:=aw _ _
theorem Ia (X:List Nat)(a:Nat):jz X a 0=X:=sF X a 0
theorem Ib (X:List Nat)(a:Nat):jA X a 0=X:=sG X a 0
theorem iP (X:List Nat)(a k:Nat):(jz X a k).length=X.length:=by rw[sF,yC]
theorem iQ (X:List Nat)(a k:Nat):(jA X a k).length=X.length:=by rw[sG,yD]
theorem Ic (X:List Nat)(a k:Nat):swp (jz X a k) (a+k) (a+k+1)=jz X a (k+1):=by rw[sF,sF];rfl
theorem Ie (X:List Nat)(a k:Nat):swp (jA X a k) (a-k) (a-k-1)=jA X a (k+1):=by rw[sG,sG];rfl
theorem RN (X:List Nat)(N:Nat)(hN:N=X.length)(hN2:N≤1000)(W:List Nat)(L:Nat)(hL:L=W.length)(hA:bM L X)(a m b:Nat)(h1:a<m)(h2:m<b)(h3:b≤N)(hm:m=a+1)(i:Nat)(hi:i6 (qA W X a) (b-m) m b=i)(hi2:m≤i∧i≤b):S1 132 [.ref 0 0 0 N 1,nD a,nD m,nD b,.fn (.func 121) [] [.ptr 1 1 0]] [⟨X.map nD, 3,true⟩,⟨[.sl false L 1 (W.map nD)], 41,false⟩] (.tup []) [⟨(jz X a (i-1-a)).map nD, 3,true⟩,⟨[.sl false L 1 (W.map nD)], 41,false⟩]:=by
 refine SpecH.run T_ok ai Try.func132 rfl rfl rfl ⟨fa _,rfl,trivial⟩ rfl 1000 64 (fun R ok=>(.s 4 (.ow ((m:Int)-a) (.s 2 (.t ((m:Int)-a==1) fo (.s 4 (Hn.inl T_ok ai false 220 2 (ap Try.prog 132 0) (fun(x:(x:Nat)×'(y:Nat)×'(f:Nat)×'(hx:m≤x∧x≤y∧y≤b)×'(hf:y-x≤f)×'(hR:i6 (qA W X a) f x y=i)×'Unit)=>match x with|⟨x,y,f,hx,hf,hR,_⟩=>TJ [(0,Tu 0 0 0 N 1),(1,zN a),(4,U9 (Ui 121) [] [TF 1 1 0]),(10,nD x),(11,nD y)] [⟨0,0,0,0,.b ⟨map nD X,3,true⟩⟩,⟨1,1,1,1,.b ⟨[TL false L 1 (map nD W)],41,false⟩⟩] 24) (fun(x:(x:Nat)×'(y:Nat)×'(f:Nat)×'(hx:m≤x∧x≤y∧y≤b)×'(hf:y-x≤f)×'(hR:i6 (qA W X a) f x y=i)×'Unit)=>match x with|⟨x,y,f,hx,hf,hR,_⟩=>y-x) [⟨Unit,.exit 0,fun x=>match x with|()=>TJ [(0,Tu 0 0 0 N 1),(1,zN a),(4,U9 (Ui 121) [] [TF 1 1 0]),(10,nD i),(11,nD i)] [⟨0,0,0,0,.b ⟨map nD X,3,true⟩⟩,⟨1,1,1,1,.b ⟨[TL false L 1 (map nD W)],41,false⟩⟩] 24⟩] 1000 64 (fun|⟨x,y,f,hx,hf,hR,_⟩,Q,next1,last1=>(.s 4 (.bd ((x:Int)<y) (fun p0 p0f=>(.s 4 (.ow ((x:Int)+y) (.s 1 (.opt (ar .u64 ((x:Int)+y)) (D.v (UE .u64 ((x:Int)+y))) (bC om) (.s 2 (.opt (b4 Vn (Uk ((x:Int)+y) 2)) (D.v (UE .u64 (((x:Int)+y)/2))) (aS (@iF  ((x:Int)+y) (2) om)) (.s 1 (.ow (((x:Int)+y)/2) (.s 6 (.chk (true&&decide (((x:Int)+y)/2<N)) fo (.s 2 (.opt ((map nD X)[0+zK (((x:Int)+y)/2)*1]?) (nD (getD X (0+zK (((x:Int)+y)/2)*1) mb)) (aq _ _ om) (.s 3 (.chk (true&&decide ((a:Int)<N)) fo (.s 2 (.opt ((map nD X)[0+a*1]?) (nD (getD X (0+a*1) mb)) (aq _ _ om) (.s 1 (.cl 121 true [1] (.fn Cb (@u9 (W) (L) om (getD X (0+zK (((x:Int)+y)/2)*1) mb) (getD X (0+a*1) mb) (by(exact hA.at om)) (by(exact hA.at om)))) (.s 2 (.bd (px (getD W (getD X (0+zK (((x:Int)+y)/2)*1) mb) mb) (getD W (getD X (0+a*1) mb) mb)<0) (fun p1 p1f=>(.s 3 (.ow (((x:Int)+y)/2+1) (.s 1 (.val 10 (zI (((x:Int)+y)/2+1)) (zN ((x+y)/2+1)) va (Hn.next next1 ⟨((x+y)/2+1),(y),(f-1),om,om,(by(exact RH (u:=0+(((x:Int)+y)/2).toNat*1) (v:=0+a*1) hR om om om om aD)),⟨⟩⟩ FD [(0,0),(1,1)] ro)))))) (fun p1 p1f=>(.s 2 (.val 11 (zI (((x:Int)+y)/2)) (zN ((x+y)/2)) va (Hn.next next1 ⟨(x),((x+y)/2),(f-1),om,om,(by(exact RI (u:=0+(((x:Int)+y)/2).toNat*1) (v:=0+a*1) hR om om om om aD)),⟨⟩⟩ FE [(0,0),(1,1)] ro))))))))))))))))))))))))) (fun p0 p0f=>(.val 10 (zN x) (zN i) (by(rw[CT hR om])) (.val 11 (zN y) (zN i) FF (Hn.last last1 0 (():Unit) rfl [(0,0),(1,1)] ro))))))) (fun|⟨x,y,f,hx,hf,hR,_⟩=>by kernel_rfl) ⟨(m),(b),(b-m),om,om,om,⟨⟩⟩ [(0,0),(1,1)] ro (bY (fun|()=>(.s 2 (.val 13 (zN a) (zN (a+0)) va (.blk 0 0 (Tq (map nD X) 3 true) (Tq (map nD (jz X a 0)) 3 true) (by(rw[Ia];done)) (Hn.inl T_ok ai false 220 2 (ap Try.prog 132 1) (fun(x:(k:Nat)×'(hk:a+k≤i-1)×'Unit)=>match x with|⟨k,hk,_⟩=>TJ [(0,Tu 0 0 0 N 1),(10,zN i),(13,nD (a+k))] [⟨0,0,0,0,.b ⟨(jz X a k).map nD,3,true⟩⟩,⟨1,1,1,1,.b ⟨[TL false L 1 (map nD W)],41,false⟩⟩] 24) (fun(x:(k:Nat)×'(hk:a+k≤i-1)×'Unit)=>match x with|⟨k,hk,_⟩=>i-1-a-k) [⟨Unit,.exit 2,fun x=>match x with|()=>TJ [(0,Tu 0 0 0 N 1),(10,zN i)] [⟨0,0,0,0,.b ⟨(jz X a (i-1-a)).map nD,3,true⟩⟩,⟨1,1,1,1,.b ⟨[TL false L 1 (map nD W)],41,false⟩⟩] 24⟩] 1000 64 (fun|⟨k,hk,_⟩,Q,next1,last1=>(.s 4 (.ow ((i:Int)-1) (.s 2 (.bd ((↑(a+k):Int)<(i:Int)-1) (fun p2 p2f=>(.s 7 (.ow ((↑(a+k):Int)+1) (.s 4 (.ow ((↑(a+k):Int)+1) (.s 1 (.chk (true&&decide ((↑(a+k):Int)+1<(N:Int))) fo (.s 2 (.opt ((map nD (jz X a k))[0+zK ((↑(a+k):Int)+1)*1]?) (nD (getD (jz X a k) (0+zK ((↑(a+k):Int)+1)*1) mb)) (aq _ _ (by(have h9:=iP X a k;omega))) (.s 3 (.chk (true&&decide ((↑(a+k):Int)<(N:Int))) fo (.s 2 (.opt ((map nD (jz X a k))[0+(a+k)*1]?) (nD (getD (jz X a k) (0+(a+k)*1) mb)) (aq _ _ (by(have h9:=iP X a k;omega))) (.s 1 (.chk (true&&decide ((↑(a+k):Int)<(N:Int))) fo (.s 1 (.chk (true&&Tz (0+(a+k)*1+1) (length (map nD (jz X a k)))) (by(simp;have h9:=iP X a k;omega)) (.lst (aj (map nD (jz X a k)) (0+(a+k)*1) [zN (getD (jz X a k) (0+zK ((↑(a+k):Int)+1)*1) mb)]) (aj (map nD (jz X a k)) (a+k) [zN (getD (jz X a k) (zK ((↑(a+k):Int)+1)) mb)]) (by(simp;done)) (.s 1 (.chk (true&&decide ((↑(a+k):Int)+1<(N:Int))) fo (.s 1 (.chk (true&&Tz (0+zK ((↑(a+k):Int)+1)*1+1) (length (aj (map nD (jz X a k)) (a+k) [zN (getD (jz X a k) (zK ((↑(a+k):Int)+1)) mb)]))) (by(have h9:=iP X a k;exact FC om om)) (.lst (aj (aj (map nD (jz X a k)) (a+k) [zN (getD (jz X a k) (zK ((↑(a+k):Int)+1)) mb)]) (0+zK ((↑(a+k):Int)+1)*1) [zN (getD (jz X a k) (0+(a+k)*1) mb)]) (aj (aj (map nD (jz X a k)) (a+k) [zN (getD (jz X a k) (zK ((↑(a+k):Int)+1)) mb)]) (zK ((↑(a+k):Int)+1)) [zN (getD (jz X a k) (a+k) mb)]) (by(simp;done)) (.s 3 (.ow ((↑(a+k):Int)+1) (.s 1 (.val 13 (zI ((↑(a+k):Int)+1)) (zN (a+(k+1))) va (.blk 0 0 (Tq (aj (aj (map nD (jz X a k)) (a+k) [zN (getD (jz X a k) (zK ((↑(a+k):Int)+1)) mb)]) (zK ((↑(a+k):Int)+1)) [zN (getD (jz X a k) (a+k) mb)]) 3 true) (Tq (map nD (jz X a (k+1))) 3 true) (by(have h9:=iP X a k;exact ay (Xm (yx (i:=a+k) (j:=a+k+1) om om om om om om) (by rw[Ic])))) (Hn.next next1 ⟨(k+1),om,⟨⟩⟩ (by show i-1-a-(k+1)<i-1-a-k;clear next1 last1;omega) [(0,0),(1,1)] ro))))))))))))))))))))))))))))) (fun p2 p2f=>(.blk 0 0 (Tq (map nD (jz X a k)) 3 true) (Tq (map nD (jz X a (i-1-a))) 3 true) (by(rw[show k=i-1-a from by omega])) (Hn.last last1 0 (():Unit) rfl [(0,0),(1,1)] ro)))))))) (fun|⟨k,hk,_⟩=>by kernel_rfl) ⟨(0),om,⟨⟩⟩ [(0,0),(1,1)] ro (bY (fun|()=>(.out [0,1] [0,1] (Uw []) [Tq (map nD (jz X a (i-1-a))) 3 true,Tq [TL false L 1 (map nD W)] 41 false] R (ok _ _ wr wr))))))))))))))))) kr
theorem RO (X:List Nat)(N:Nat)(hN:N=X.length)(hN2:N≤1000)(W:List Nat)(L:Nat)(hL:L=W.length)(hA:bM L X)(a m b:Nat)(h1:a<m)(h2:m<b)(h3:b≤N)(hm:m≠a+1)(hb:b=m+1)(i:Nat)(hi:i6 (qB W X m) (m-a) a m=i)(hi2:a≤i∧i≤m):S1 132 [.ref 0 0 0 N 1,nD a,nD m,nD b,.fn (.func 121) [] [.ptr 1 1 0]] [⟨X.map nD, 3,true⟩,⟨[.sl false L 1 (W.map nD)], 41,false⟩] (.tup []) [⟨(jA X m (m-i)).map nD, 3,true⟩,⟨[.sl false L 1 (W.map nD)], 41,false⟩]:=by
 refine SpecH.run T_ok ai Try.func132 rfl rfl rfl ⟨fa _,rfl,trivial⟩ rfl 1000 64 (fun R ok=>(.s 4 (.ow ((m:Int)-a) (.s 2 (.f ((m:Int)-a==1) sE (.s 4 (.ow ((b:Int)-m) (.s 2 (.t ((b:Int)-m==1) fo (.s 4 (Hn.inl T_ok ai false 220 2 (ap Try.prog 132 2) (fun(x:(x:Nat)×'(y:Nat)×'(f:Nat)×'(hx:a≤x∧x≤y∧y≤m)×'(hf:y-x≤f)×'(hR:i6 (qB W X m) f x y=i)×'Unit)=>match x with|⟨x,y,f,hx,hf,hR,_⟩=>TJ [(0,Tu 0 0 0 N 1),(2,zN m),(4,U9 (Ui 121) [] [TF 1 1 0]),(14,nD x),(15,nD y)] [⟨0,0,0,0,.b ⟨map nD X,3,true⟩⟩,⟨1,1,1,1,.b ⟨[TL false L 1 (map nD W)],41,false⟩⟩] 24) (fun(x:(x:Nat)×'(y:Nat)×'(f:Nat)×'(hx:a≤x∧x≤y∧y≤m)×'(hf:y-x≤f)×'(hR:i6 (qB W X m) f x y=i)×'Unit)=>match x with|⟨x,y,f,hx,hf,hR,_⟩=>y-x) [⟨Unit,.exit 4,fun x=>match x with|()=>TJ [(0,Tu 0 0 0 N 1),(2,zN m),(4,U9 (Ui 121) [] [TF 1 1 0]),(14,nD i),(15,nD i)] [⟨0,0,0,0,.b ⟨map nD X,3,true⟩⟩,⟨1,1,1,1,.b ⟨[TL false L 1 (map nD W)],41,false⟩⟩] 24⟩] 1000 64 (fun|⟨x,y,f,hx,hf,hR,_⟩,Q,next1,last1=>(.s 4 (.bd ((x:Int)<y) (fun p0 p0f=>(.s 4 (.ow ((x:Int)+y) (.s 1 (.opt (ar .u64 ((x:Int)+y)) (D.v (UE .u64 ((x:Int)+y))) (bC om) (.s 2 (.opt (b4 Vn (Uk ((x:Int)+y) 2)) (D.v (UE .u64 (((x:Int)+y)/2))) (aS (@iF  ((x:Int)+y) (2) om)) (.s 1 (.ow (((x:Int)+y)/2) (.s 6 (.chk (true&&decide ((m:Int)<N)) fo (.s 2 (.opt ((map nD X)[0+m*1]?) (nD (getD X (0+m*1) mb)) (aq _ _ om) (.s 3 (.chk (true&&decide (((x:Int)+y)/2<N)) fo (.s 2 (.opt ((map nD X)[0+zK (((x:Int)+y)/2)*1]?) (nD (getD X (0+zK (((x:Int)+y)/2)*1) mb)) (aq _ _ om) (.s 1 (.cl 121 true [1] (.fn Cb (@u9 (W) (L) om (getD X (0+m*1) mb) (getD X (0+zK (((x:Int)+y)/2)*1) mb) (by(exact hA.at om)) (by(exact hA.at om)))) (.s 3 (.br (!decide (px (getD W (getD X (0+m*1) mb) mb) (getD W (getD X (0+zK (((x:Int)+y)/2)*1) mb) mb)<0)) (fun p1=>have p1f:=wy (eZ p1);(.s 3 (.ow (((x:Int)+y)/2+1) (.s 1 (.val 14 (zI (((x:Int)+y)/2+1)) (zN ((x+y)/2+1)) va (Hn.next next1 ⟨((x+y)/2+1),(y),(f-1),om,om,(by(exact RJ (u:=0+(((x:Int)+y)/2).toNat*1) (v:=0+m*1) hR om om om om aD)),⟨⟩⟩ FD [(0,0),(1,1)] ro)))))) (fun p1=>have p1f:=wx (e9 p1);(.s 2 (.val 15 (zI (((x:Int)+y)/2)) (zN ((x+y)/2)) va (Hn.next next1 ⟨(x),((x+y)/2),(f-1),om,om,(by(exact RK (u:=0+(((x:Int)+y)/2).toNat*1) (v:=0+m*1) hR om om om om aD)),⟨⟩⟩ FE [(0,0),(1,1)] ro))))))))))))))))))))))))) (fun p0 p0f=>(.val 14 (zN x) (zN i) (by(rw[CT hR om])) (.val 15 (zN y) (zN i) FF (Hn.last last1 0 (():Unit) rfl [(0,0),(1,1)] ro))))))) (fun|⟨x,y,f,hx,hf,hR,_⟩=>by kernel_rfl) ⟨(a),(m),(m-a),om,om,om,⟨⟩⟩ [(0,0),(1,1)] ro (bY (fun|()=>(.s 2 (.val 17 (zN m) (zN (m-0)) va (.blk 0 0 (Tq (map nD X) 3 true) (Tq (map nD (jA X m 0)) 3 true) (by(rw[Ib];done)) (Hn.inl T_ok ai false 220 2 (ap Try.prog 132 3) (fun(x:(k:Nat)×'(hk:k≤m-i)×'Unit)=>match x with|⟨k,hk,_⟩=>TJ [(0,Tu 0 0 0 N 1),(14,zN i),(17,nD (m-k))] [⟨0,0,0,0,.b ⟨(jA X m k).map nD,3,true⟩⟩,⟨1,1,1,1,.b ⟨[TL false L 1 (map nD W)],41,false⟩⟩] 24) (fun(x:(k:Nat)×'(hk:k≤m-i)×'Unit)=>match x with|⟨k,hk,_⟩=>m-i-k) [⟨Unit,.exit 6,fun x=>match x with|()=>TJ [(0,Tu 0 0 0 N 1),(14,zN i)] [⟨0,0,0,0,.b ⟨(jA X m (m-i)).map nD,3,true⟩⟩,⟨1,1,1,1,.b ⟨[TL false L 1 (map nD W)],41,false⟩⟩] 24⟩] 1000 64 (fun|⟨k,hk,_⟩,Q,next1,last1=>(.s 4 (.bd ((i:Int)<(↑(m-k):Int)) (fun p2 p2f=>(.s 7 (.ow ((↑(m-k):Int)-1) (.s 4 (.ow ((↑(m-k):Int)-1) (.s 1 (.chk (decide (0≤(↑(m-k):Int)-1)&&decide ((↑(m-k):Int)-1<(N:Int))) FG (.s 2 (.opt ((map nD (jA X m k))[0+zK ((↑(m-k):Int)-1)*1]?) (nD (getD (jA X m k) (0+zK ((↑(m-k):Int)-1)*1) mb)) (aq _ _ (by(have h9:=iQ X m k;omega))) (.s 3 (.chk (true&&decide ((↑(m-k):Int)<(N:Int))) fo (.s 2 (.opt ((map nD (jA X m k))[0+(m-k)*1]?) (nD (getD (jA X m k) (0+(m-k)*1) mb)) (aq _ _ (by(have h9:=iQ X m k;omega))) (.s 1 (.chk (true&&decide ((↑(m-k):Int)<(N:Int))) fo (.s 1 (.chk (true&&Tz (0+(m-k)*1+1) (length (map nD (jA X m k)))) (by(simp;have h9:=iQ X m k;omega)) (.lst (aj (map nD (jA X m k)) (0+(m-k)*1) [zN (getD (jA X m k) (0+zK ((↑(m-k):Int)-1)*1) mb)]) (aj (map nD (jA X m k)) (m-k) [zN (getD (jA X m k) (zK ((↑(m-k):Int)-1)) mb)]) (by(simp;done)) (.s 1 (.chk (decide (0≤(↑(m-k):Int)-1)&&decide ((↑(m-k):Int)-1<(N:Int))) FG (.s 1 (.chk (true&&Tz (0+zK ((↑(m-k):Int)-1)*1+1) (length (aj (map nD (jA X m k)) (m-k) [zN (getD (jA X m k) (zK ((↑(m-k):Int)-1)) mb)]))) (by(have h9:=iQ X m k;exact FC om om)) (.lst (aj (aj (map nD (jA X m k)) (m-k) [zN (getD (jA X m k) (zK ((↑(m-k):Int)-1)) mb)]) (0+zK ((↑(m-k):Int)-1)*1) [zN (getD (jA X m k) (0+(m-k)*1) mb)]) (aj (aj (map nD (jA X m k)) (m-k) [zN (getD (jA X m k) (zK ((↑(m-k):Int)-1)) mb)]) (zK ((↑(m-k):Int)-1)) [zN (getD (jA X m k) (m-k) mb)]) (by(simp;done)) (.s 3 (.ow ((↑(m-k):Int)-1) (.s 1 (.val 17 (zI ((↑(m-k):Int)-1)) (zN (m-(k+1))) va (.blk 0 0 (Tq (aj (aj (map nD (jA X m k)) (m-k) [zN (getD (jA X m k) (zK ((↑(m-k):Int)-1)) mb)]) (zK ((↑(m-k):Int)-1)) [zN (getD (jA X m k) (m-k) mb)]) 3 true) (Tq (map nD (jA X m (k+1))) 3 true) (by(have h9:=iQ X m k;exact ay (Xm (yx (i:=m-k) (j:=m-k-1) om om om om om om) (by rw[Ie])))) (Hn.next next1 ⟨(k+1),om,⟨⟩⟩ (by show m-i-(k+1)<m-i-k;clear next1 last1;omega) [(0,0),(1,1)] ro))))))))))))))))))))))))))))) (fun p2 p2f=>(.blk 0 0 (Tq (map nD (jA X m k)) 3 true) (Tq (map nD (jA X m (m-i))) 3 true) (by(rw[show k=m-i from by omega])) (Hn.last last1 0 (():Unit) rfl [(0,0),(1,1)] ro)))))) (fun|⟨k,hk,_⟩=>by kernel_rfl) ⟨(0),om,⟨⟩⟩ [(0,0),(1,1)] ro (bY (fun|()=>(.out [0,1] [0,1] (Uw []) [Tq (map nD (jA X m (m-i))) 3 true,Tq [TL false L 1 (map nD W)] 41 false] R (ok _ _ wr wr))))))))))))))))))))) kr
structure RtH (W:List Nat)(L N:Nat)(X:List Nat)(a m b:Nat)(X1:List Nat):Prop where
 h:∀(Y:List Nat) (x y z:Int),Y=X→x=a→y=m→z=b→S1 135 [.ref 0 0 0 N 1,iD x,iD y,iD z,.fn (.func 121) [] [.ptr 1 1 0]] [⟨Y.map nD, 3,true⟩,⟨[.sl false L 1 (W.map nD)], 41,false⟩] (.tup []) [⟨X1.map nD, 3,true⟩,⟨[.sl false L 1 (W.map nD)], 41,false⟩]
structure SaH (W:List Nat)(L N:Nat)(X:List Nat)(a m b:Nat)(X1:List Nat):Prop where
 h:∀(Y:List Nat) (x y z:Int),Y=X→x=a→y=m→z=b→S1 132 [.ref 0 0 0 N 1,iD x,iD y,iD z,.fn (.func 121) [] [.ptr 1 1 0]] [⟨Y.map nD, 3,true⟩,⟨[.sl false L 1 (W.map nD)], 41,false⟩] (.tup []) [⟨X1.map nD, 3,true⟩,⟨[.sl false L 1 (W.map nD)], 41,false⟩]
structure SbH (W:List Nat)(L N:Nat)(X:List Nat)(a m b:Nat)(X1:List Nat):Prop where
 h:∀(Y:List Nat) (x y z:Int),Y=X→x=a→y=m→z=b→S1 132 [.ref 0 0 0 N 1,iD x,iD y,iD z,.fn (.func 121) [] [.ptr 1 1 0]] [⟨Y.map nD, 3,true⟩,⟨[.sl false L 1 (W.map nD)], 41,false⟩] (.tup []) [⟨X1.map nD, 3,true⟩,⟨[.sl false L 1 (W.map nD)], 41,false⟩]
structure SmE (W:List Nat)(L N:Nat)(X X1 X2 T:List Nat)(a m b mid q st en s0 r0:Nat):Prop where
 r:st<m→m<en→RtH W L N X st m en X1
 r0':(st<m→m<en→False)→X=X1
 s:a<st→st<mid→SaH W L N X1 a st mid X2
 s0':(a<st→st<mid→False)→X1=X2
 t:mid<en→en<b→SbH W L N X2 mid en b T
 t0':(mid<en→en<b→False)→X2=T
 e3:mid<m→s0=q-b∧r0=mid
 e4:m≤mid→s0=a∧r0=m
section
variable {W:List Nat} {L N:Nat} {X X1 X2 T:List Nat} {a m b mid q st en s0 r0:Nat} (h:SmE W L N X X1 X2 T a m b mid q st en s0 r0)
include h
theorem SmE.rp (c1:st<m)(c2:m<en)(Y:List Nat)(x y z:Int)(hY:Y=X)(hx:x=st)(hy:y=m)(hz:z=en):S1 135 [.ref 0 0 0 N 1,iD x,iD y,iD z,.fn (.func 121) [] [.ptr 1 1 0]] [⟨Y.map nD, 3,true⟩,⟨[.sl false L 1 (W.map nD)], 41,false⟩] (.tup []) [⟨X1.map nD, 3,true⟩,⟨[.sl false L 1 (W.map nD)], 41,false⟩]:=(h.r c1 c2).h Y x y z hY hx hy hz
theorem SmE.sp (c1:a<st)(c2:st<mid)(Y:List Nat)(x y z:Int)(hY:Y=X1)(hx:x=a)(hy:y=st)(hz:z=mid):S1 132 [.ref 0 0 0 N 1,iD x,iD y,iD z,.fn (.func 121) [] [.ptr 1 1 0]] [⟨Y.map nD, 3,true⟩,⟨[.sl false L 1 (W.map nD)], 41,false⟩] (.tup []) [⟨X2.map nD, 3,true⟩,⟨[.sl false L 1 (W.map nD)], 41,false⟩]:=(h.s c1 c2).h Y x y z hY hx hy hz
theorem SmE.tp (c1:mid<en)(c2:en<b)(Y:List Nat)(x y z:Int)(hY:Y=X2)(hx:x=mid)(hy:y=en)(hz:z=b):S1 132 [.ref 0 0 0 N 1,iD x,iD y,iD z,.fn (.func 121) [] [.ptr 1 1 0]] [⟨Y.map nD, 3,true⟩,⟨[.sl false L 1 (W.map nD)], 41,false⟩] (.tup []) [⟨T.map nD, 3,true⟩,⟨[.sl false L 1 (W.map nD)], 41,false⟩]:=(h.t c1 c2).h Y x y z hY hx hy hz
end
theorem RP (X:List Nat)(N:Nat)(hN:N=X.length)(hN2:N≤1000)(W:List Nat)(L:Nat)(hL:L=W.length)(hA:bM L X)(a m b:Nat)(h1:a<m)(h2:m<b)(h3:b≤N)(hm:m≠a+1)(hb:b≠m+1)(X1 X2 T:List Nat)(mid q st en:Nat)(e1:mid=(a+b)/2)(e2:q=mid+m)(s0 r0:Nat)(hs0:s0≤r0∧r0≤m∧a≤s0∧q≤s0+b)(hi:i6 (qC W X (q-1)) (r0-s0) s0 r0=st)(hi2:s0≤st∧st≤r0)(e5:en=q-st)(hE:SmE W L N X X1 X2 T a m b mid q st en s0 r0):S1 132 [.ref 0 0 0 N 1,nD a,nD m,nD b,.fn (.func 121) [] [.ptr 1 1 0]] [⟨X.map nD, 3,true⟩,⟨[.sl false L 1 (W.map nD)], 41,false⟩] (.tup []) [⟨(T).map nD, 3,true⟩,⟨[.sl false L 1 (W.map nD)], 41,false⟩]:=by
 refine SpecH.run T_ok ai Try.func132 rfl rfl rfl ⟨fa _,rfl,trivial⟩ rfl 1000 64 (fun R ok=>(.s 4 (.ow ((m:Int)-a) (.s 2 (.f ((m:Int)-a==1) sE (.s 4 (.ow ((b:Int)-m) (.s 2 (.f ((b:Int)-m==1) sE (.s 4 (.ow ((a:Int)+b) (.s 1 (.opt (ar .u64 ((a:Int)+b)) (D.v (UE .u64 ((a:Int)+b))) (bC om) (.s 2 (.opt (b4 Vn (Uk ((a:Int)+b) 2)) (D.v (UE .u64 (((a:Int)+b)/2))) (aS (@iF  ((a:Int)+b) (2) om)) (.s 1 (.ow (((a:Int)+b)/2) (.s 5 (.ow (((a:Int)+b)/2+m) (.s 7 (.bd (((a:Int)+b)/2<m) (fun p0 p0f=>(.s 4 (.ow (((a:Int)+b)/2+m-b) (.s 6 (.ow (((a:Int)+b)/2+m-1) (.s 1 (.val 20 (zI (((a:Int)+b)/2+m-b)) (zN s0) FH (.val 21 (zI (((a:Int)+b)/2)) (zN r0) FH (Hn.inl T_ok ai false 220 2 (ap Try.prog 132 4) (fun(x:(x:Nat)×'(y:Nat)×'(f:Nat)×'(hx:s0≤x∧x≤y∧y≤r0)×'(hf:y-x≤f)×'(hR:i6 (qC W X (q-1)) f x y=st)×'Unit)=>match x with|⟨x,y,f,hx,hf,hR,_⟩=>TJ [(0,Tu 0 0 0 N 1),(1,zN a),(2,zN m),(3,zN b),(4,U9 (Ui 121) [] [TF 1 1 0]),(18,zI (((a:Int)+b)/2)),(19,zI (((a:Int)+b)/2+m)),(20,nD x),(21,nD y),(22,zI (((a:Int)+b)/2+m-1))] [⟨0,0,0,0,.b ⟨map nD X,3,true⟩⟩,⟨1,1,1,1,.b ⟨[TL false L 1 (map nD W)],41,false⟩⟩] 24) (fun(x:(x:Nat)×'(y:Nat)×'(f:Nat)×'(hx:s0≤x∧x≤y∧y≤r0)×'(hf:y-x≤f)×'(hR:i6 (qC W X (q-1)) f x y=st)×'Unit)=>match x with|⟨x,y,f,hx,hf,hR,_⟩=>y-x) [⟨Unit,.exit 8,fun x=>match x with|()=>TJ [(0,Tu 0 0 0 N 1),(1,zN a),(2,zN m),(3,zN b),(4,U9 (Ui 121) [] [TF 1 1 0]),(18,zI (((a:Int)+b)/2)),(19,zI (((a:Int)+b)/2+m)),(20,nD st),(21,nD st),(22,zI (((a:Int)+b)/2+m-1))] [⟨0,0,0,0,.b ⟨map nD X,3,true⟩⟩,⟨1,1,1,1,.b ⟨[TL false L 1 (map nD W)],41,false⟩⟩] 24⟩] 1000 64 (fun|⟨x,y,f,hx,hf,hR,_⟩,Q,next1,last1=>(.s 4 (.bd ((x:Int)<y) (fun p1 p1f=>(.s 4 (.ow ((x:Int)+y) (.s 1 (.opt (ar .u64 ((x:Int)+y)) (D.v (UE .u64 ((x:Int)+y))) (bC om) (.s 2 (.opt (b4 Vn (Uk ((x:Int)+y) 2)) (D.v (UE .u64 (((x:Int)+y)/2))) (aS (@iF  ((x:Int)+y) (2) om)) (.s 1 (.ow (((x:Int)+y)/2) (.s 8 (.ow (((a:Int)+b)/2+m-1-(x+y)/2) (.s 1 (.chk (decide (0≤((a:Int)+b)/2+m-1-(x+y)/2)&&decide (((a:Int)+b)/2+m-1-(x+y)/2<N)) FG (.s 2 (.opt ((map nD X)[0+zK (((a:Int)+b)/2+m-1-(x+y)/2)*1]?) (nD (getD X (0+zK (((a:Int)+b)/2+m-1-(x+y)/2)*1) mb)) (aq _ _ om) (.s 3 (.chk (true&&decide (((x:Int)+y)/2<N)) fo (.s 2 (.opt ((map nD X)[0+zK (((x:Int)+y)/2)*1]?) (nD (getD X (0+zK (((x:Int)+y)/2)*1) mb)) (aq _ _ om) (.s 1 (.cl 121 true [1] (.fn Cb (@u9 (W) (L) om (getD X (0+zK (((a:Int)+b)/2+m-1-(x+y)/2)*1) mb) (getD X (0+zK (((x:Int)+y)/2)*1) mb) (by(exact hA.at om)) (by(exact hA.at om)))) (.s 3 (.br (!decide (px (getD W (getD X (0+zK (((a:Int)+b)/2+m-1-(x+y)/2)*1) mb) mb) (getD W (getD X (0+zK (((x:Int)+y)/2)*1) mb) mb)<0)) (fun p2=>have p2f:=wy (eZ p2);(.s 3 (.ow (((x:Int)+y)/2+1) (.s 1 (.val 20 (zI (((x:Int)+y)/2+1)) (zN ((x+y)/2+1)) FH (Hn.next next1 ⟨((x+y)/2+1),(y),(f-1),om,om,H8,⟨⟩⟩ FD [(0,0),(1,1)] ro)))))) (fun p2=>have p2f:=wx (e9 p2);(.s 2 (.val 21 (zI (((x:Int)+y)/2)) (zN ((x+y)/2)) FH (Hn.next next1 ⟨(x),((x+y)/2),(f-1),om,om,H9,⟨⟩⟩ FE [(0,0),(1,1)] ro))))))))))))))))))))))))))) (fun p1 p1f=>(.val 20 (zN x) (zN st) (by(rw[CT hR om])) (.val 21 (zN y) (zN st) FF (Hn.last last1 0 (():Unit) rfl [(0,0),(1,1)] ro))))))) (fun|⟨x,y,f,hx,hf,hR,_⟩=>by kernel_rfl) ⟨(s0),(r0),(r0-s0),om,om,om,⟨⟩⟩ [(0,0),(1,1)] ro (bY (fun|()=>(.s 4 (.ow (((a:Int)+b)/2+m-st) (.s 7 (.bd ((st:Int)<m) (fun p3 p3f=>(.s 6 (.bd ((m:Int)<(a+b)/2+m-st) (fun p4 p4f=>(.s 6 (.call 135 true [0,1] (true) wr ([Tu 0 0 0 N 1,zN st,zN m,zI (((a:Int)+b)/2+m-st),U9 (Ui 121) [] [TF 1 1 0]]) _ (cj.refl _) (af (map nD X)&&true) (by(simp;done)) _ _ _ (TW (az.of Try.func135 rfl rfl) (@SmE.rp (W) (L) (N) (X) (X1) (X2) (T) (a) (m) (b) (mid) (q) (st) (en) (s0) (r0) aD om om (X) ((st:Int)) ((m:Int)) (((a:Int)+b)/2+m-st) wr om om om)) (.s 6 (.bd ((a:Int)<st) (fun p5 p5f=>(.s 6 (.t (decide ((st:Int)<(a+b)/2)) fo (.s 6 (.call 132 true [0,1] (true) wr ([Tu 0 0 0 N 1,zN a,zN st,zI (((a:Int)+b)/2),U9 (Ui 121) [] [TF 1 1 0]]) _ (cj.refl _) (af (map nD X1)&&true) (by(simp;done)) _ _ _ (TW (az.of Try.func132 rfl rfl) (@SmE.sp (W) (L) (N) (X) (X1) (X2) (T) (a) (m) (b) (mid) (q) (st) (en) (s0) (r0) aD om om (X1) ((a:Int)) ((st:Int)) (((a:Int)+b)/2) wr om om om)) (.s 6 (.t (decide (((a:Int)+b)/2<(a+b)/2+m-st)) fo (.s 6 (.bd (((a:Int)+b)/2+m-st<b) (fun p6 p6f=>(.s 6 (.call 132 true [0,1] (true) wr ([Tu 0 0 0 N 1,zI (((a:Int)+b)/2),zI (((a:Int)+b)/2+m-st),zN b,U9 (Ui 121) [] [TF 1 1 0]]) _ (cj.refl _) (af (map nD X2)&&true) (by(simp;done)) _ _ _ (TW (az.of Try.func132 rfl rfl) (@SmE.tp (W) (L) (N) (X) (X1) (X2) (T) (a) (m) (b) (mid) (q) (st) (en) (s0) (r0) aD om om (X2) (((a:Int)+b)/2) (((a:Int)+b)/2+m-st) ((b:Int)) wr om om om)) (.out [0,1] [0,1] (Uw []) [Tq (map nD T) 3 true,Tq [TL false L 1 (map nD W)] 41 false] R (ok _ _ wr wr))))) (fun p6 p6f=>(.out [0,1] [0,1] (Uw []) [Tq (map nD X2) 3 true,Tq [TL false L 1 (map nD W)] 41 false] R (ok _ _ wr (by(rw[hE.t0' om])))))))))))))) (fun p5 p5f=>(.s 12 (.t (decide (((a:Int)+b)/2<(a+b)/2+m-st)) fo (.s 6 (.f (decide (((a:Int)+b)/2+m-st<b)) sE (.out [0,1] [0,1] (Uw []) [Tq (map nD X1) 3 true,Tq [TL false L 1 (map nD W)] 41 false] R (ok _ _ wr (by(rw[hE.s0' om,hE.t0' om])))))))))))))) (fun p4 p4f=>(.s 6 (.t (decide ((a:Int)<st)) fo (.s 6 (.f (decide ((st:Int)<(a+b)/2)) sE (.s 6 (.t (decide (((a:Int)+b)/2<(a+b)/2+m-st)) fo (.s 6 (.t (decide (((a:Int)+b)/2+m-st<b)) fo (.s 6 (.call 132 true [0,1] (true) wr ([Tu 0 0 0 N 1,zI (((a:Int)+b)/2),zI (((a:Int)+b)/2+m-st),zN b,U9 (Ui 121) [] [TF 1 1 0]]) _ (cj.refl _) (af (map nD X)&&true) (by(simp;done)) _ _ _ (TW (az.of Try.func132 rfl rfl) (@SmE.tp (W) (L) (N) (X) (X1) (X2) (T) (a) (m) (b) (mid) (q) (st) (en) (s0) (r0) aD om om (X) (((a:Int)+b)/2) (((a:Int)+b)/2+m-st) ((b:Int)) (by(exact(hE.r0' om).trans (hE.s0' om))) om om om)) (.out [0,1] [0,1] (Uw []) [Tq (map nD T) 3 true,Tq [TL false L 1 (map nD W)] 41 false] R (ok _ _ wr wr)))))))))))))))) (fun p3 p3f=>(.s 12 (.t (decide ((a:Int)<st)) fo (.s 6 (.f (decide ((st:Int)<(a+b)/2)) sE (.s 6 (.f (decide (((a:Int)+b)/2<(a+b)/2+m-st)) sE (.s 6 (.out [0,1] [0,1] (Uw []) [Tq (map nD X) 3 true,Tq [TL false L 1 (map nD W)] 41 false] R (ok _ _ wr (by(rw[hE.r0' om,hE.s0' om,hE.t0' om]))))))))))))))))))))))))))) (fun p0 p0f=>(.s 7 (.ow (((a:Int)+b)/2+m-1) (.s 1 (.val 20 (zN a) (zN s0) FI (.val 21 (zN m) (zN r0) FI (Hn.inl T_ok ai false 220 2 (ap Try.prog 132 4) (fun(x:(x:Nat)×'(y:Nat)×'(f:Nat)×'(hx:s0≤x∧x≤y∧y≤r0)×'(hf:y-x≤f)×'(hR:i6 (qC W X (q-1)) f x y=st)×'Unit)=>match x with|⟨x,y,f,hx,hf,hR,_⟩=>TJ [(0,Tu 0 0 0 N 1),(1,zN a),(2,zN m),(3,zN b),(4,U9 (Ui 121) [] [TF 1 1 0]),(18,zI (((a:Int)+b)/2)),(19,zI (((a:Int)+b)/2+m)),(20,nD x),(21,nD y),(22,zI (((a:Int)+b)/2+m-1))] [⟨0,0,0,0,.b ⟨map nD X,3,true⟩⟩,⟨1,1,1,1,.b ⟨[TL false L 1 (map nD W)],41,false⟩⟩] 24) (fun(x:(x:Nat)×'(y:Nat)×'(f:Nat)×'(hx:s0≤x∧x≤y∧y≤r0)×'(hf:y-x≤f)×'(hR:i6 (qC W X (q-1)) f x y=st)×'Unit)=>match x with|⟨x,y,f,hx,hf,hR,_⟩=>y-x) [⟨Unit,.exit 8,fun x=>match x with|()=>TJ [(0,Tu 0 0 0 N 1),(1,zN a),(2,zN m),(3,zN b),(4,U9 (Ui 121) [] [TF 1 1 0]),(18,zI (((a:Int)+b)/2)),(19,zI (((a:Int)+b)/2+m)),(20,nD st),(21,nD st),(22,zI (((a:Int)+b)/2+m-1))] [⟨0,0,0,0,.b ⟨map nD X,3,true⟩⟩,⟨1,1,1,1,.b ⟨[TL false L 1 (map nD W)],41,false⟩⟩] 24⟩] 1000 64 (fun|⟨x,y,f,hx,hf,hR,_⟩,Q,next1,last1=>(.s 4 (.bd ((x:Int)<y) (fun p7 p7f=>(.s 4 (.ow ((x:Int)+y) (.s 1 (.opt (ar .u64 ((x:Int)+y)) (D.v (UE .u64 ((x:Int)+y))) (bC om) (.s 2 (.opt (b4 Vn (Uk ((x:Int)+y) 2)) (D.v (UE .u64 (((x:Int)+y)/2))) (aS (@iF  ((x:Int)+y) (2) om)) (.s 1 (.ow (((x:Int)+y)/2) (.s 8 (.ow (((a:Int)+b)/2+m-1-(x+y)/2) (.s 1 (.chk (decide (0≤((a:Int)+b)/2+m-1-(x+y)/2)&&decide (((a:Int)+b)/2+m-1-(x+y)/2<N)) FG (.s 2 (.opt ((map nD X)[0+zK (((a:Int)+b)/2+m-1-(x+y)/2)*1]?) (nD (getD X (0+zK (((a:Int)+b)/2+m-1-(x+y)/2)*1) mb)) (aq _ _ om) (.s 3 (.chk (true&&decide (((x:Int)+y)/2<N)) fo (.s 2 (.opt ((map nD X)[0+zK (((x:Int)+y)/2)*1]?) (nD (getD X (0+zK (((x:Int)+y)/2)*1) mb)) (aq _ _ om) (.s 1 (.cl 121 true [1] (.fn Cb (@u9 (W) (L) om (getD X (0+zK (((a:Int)+b)/2+m-1-(x+y)/2)*1) mb) (getD X (0+zK (((x:Int)+y)/2)*1) mb) (by(exact hA.at om)) (by(exact hA.at om)))) (.s 3 (.br (!decide (px (getD W (getD X (0+zK (((a:Int)+b)/2+m-1-(x+y)/2)*1) mb) mb) (getD W (getD X (0+zK (((x:Int)+y)/2)*1) mb) mb)<0)) (fun p8=>have p8f:=wy (eZ p8);(.s 3 (.ow (((x:Int)+y)/2+1) (.s 1 (.val 20 (zI (((x:Int)+y)/2+1)) (zN ((x+y)/2+1)) FI (Hn.next next1 ⟨((x+y)/2+1),(y),(f-1),om,om,H8,⟨⟩⟩ FD [(0,0),(1,1)] ro)))))) (fun p8=>have p8f:=wx (e9 p8);(.s 2 (.val 21 (zI (((x:Int)+y)/2)) (zN ((x+y)/2)) FI (Hn.next next1 ⟨(x),((x+y)/2),(f-1),om,om,H9,⟨⟩⟩ FE [(0,0),(1,1)] ro))))))))))))))))))))))))))) (fun p7 p7f=>(.val 20 (zN x) (zN st) (by(rw[CT hR om])) (.val 21 (zN y) (zN st) FF (Hn.last last1 0 (():Unit) rfl [(0,0),(1,1)] ro))))))) (fun|⟨x,y,f,hx,hf,hR,_⟩=>by kernel_rfl) ⟨(s0),(r0),(r0-s0),om,om,om,⟨⟩⟩ [(0,0),(1,1)] ro (bY (fun|()=>(.s 4 (.ow (((a:Int)+b)/2+m-st) (.s 7 (.bd ((st:Int)<m) (fun p9 p9f=>(.s 6 (.t (decide ((m:Int)<(a+b)/2+m-st)) fo (.s 6 (.call 135 true [0,1] (true) wr ([Tu 0 0 0 N 1,zN st,zN m,zI (((a:Int)+b)/2+m-st),U9 (Ui 121) [] [TF 1 1 0]]) _ (cj.refl _) (af (map nD X)&&true) (by(simp;done)) _ _ _ (TW (az.of Try.func135 rfl rfl) (@SmE.rp (W) (L) (N) (X) (X1) (X2) (T) (a) (m) (b) (mid) (q) (st) (en) (s0) (r0) aD om om (X) ((st:Int)) ((m:Int)) (((a:Int)+b)/2+m-st) wr om om om)) (.s 6 (.bd ((a:Int)<st) (fun p10 p10f=>(.s 6 (.t (decide ((st:Int)<(a+b)/2)) fo (.s 6 (.call 132 true [0,1] (true) wr ([Tu 0 0 0 N 1,zN a,zN st,zI (((a:Int)+b)/2),U9 (Ui 121) [] [TF 1 1 0]]) _ (cj.refl _) (af (map nD X1)&&true) (by(simp;done)) _ _ _ (TW (az.of Try.func132 rfl rfl) (@SmE.sp (W) (L) (N) (X) (X1) (X2) (T) (a) (m) (b) (mid) (q) (st) (en) (s0) (r0) aD om om (X1) ((a:Int)) ((st:Int)) (((a:Int)+b)/2) wr om om om)) (.s 6 (.t (decide (((a:Int)+b)/2<(a+b)/2+m-st)) fo (.s 6 (.t (decide (((a:Int)+b)/2+m-st<b)) fo (.s 6 (.call 132 true [0,1] (true) wr ([Tu 0 0 0 N 1,zI (((a:Int)+b)/2),zI (((a:Int)+b)/2+m-st),zN b,U9 (Ui 121) [] [TF 1 1 0]]) _ (cj.refl _) (af (map nD X2)&&true) (by(simp;done)) _ _ _ (TW (az.of Try.func132 rfl rfl) (@SmE.tp (W) (L) (N) (X) (X1) (X2) (T) (a) (m) (b) (mid) (q) (st) (en) (s0) (r0) aD om om (X2) (((a:Int)+b)/2) (((a:Int)+b)/2+m-st) ((b:Int)) wr om om om)) (.out [0,1] [0,1] (Uw []) [Tq (map nD T) 3 true,Tq [TL false L 1 (map nD W)] 41 false] R (ok _ _ wr wr))))))))))))) (fun p10 p10f=>(.s 12 (.t (decide (((a:Int)+b)/2<(a+b)/2+m-st)) fo (.s 6 (.bd (((a:Int)+b)/2+m-st<b) (fun p11 p11f=>(.s 6 (.call 132 true [0,1] (true) wr ([Tu 0 0 0 N 1,zI (((a:Int)+b)/2),zI (((a:Int)+b)/2+m-st),zN b,U9 (Ui 121) [] [TF 1 1 0]]) _ (cj.refl _) (af (map nD X1)&&true) (by(simp;done)) _ _ _ (TW (az.of Try.func132 rfl rfl) (@SmE.tp (W) (L) (N) (X) (X1) (X2) (T) (a) (m) (b) (mid) (q) (st) (en) (s0) (r0) aD om om (X1) (((a:Int)+b)/2) (((a:Int)+b)/2+m-st) ((b:Int)) (by(exact hE.s0' om)) om om om)) (.out [0,1] [0,1] (Uw []) [Tq (map nD T) 3 true,Tq [TL false L 1 (map nD W)] 41 false] R (ok _ _ wr wr))))) (fun p11 p11f=>(.out [0,1] [0,1] (Uw []) [Tq (map nD X1) 3 true,Tq [TL false L 1 (map nD W)] 41 false] R (ok _ _ wr (by(rw[hE.s0' om,hE.t0' om]))))))))))))))))) (fun p9 p9f=>(.s 12 (.t (decide ((a:Int)<st)) fo (.s 6 (.bd ((st:Int)<(a+b)/2) (fun p12 p12f=>(.s 6 (.call 132 true [0,1] (true) wr ([Tu 0 0 0 N 1,zN a,zN st,zI (((a:Int)+b)/2),U9 (Ui 121) [] [TF 1 1 0]]) _ (cj.refl _) (af (map nD X)&&true) (by(simp;done)) _ _ _ (TW (az.of Try.func132 rfl rfl) (@SmE.sp (W) (L) (N) (X) (X1) (X2) (T) (a) (m) (b) (mid) (q) (st) (en) (s0) (r0) aD om om (X) ((a:Int)) ((st:Int)) (((a:Int)+b)/2) (by(exact hE.r0' om)) om om om)) (.s 6 (.f (decide (((a:Int)+b)/2<(a+b)/2+m-st)) sE (.s 6 (.out [0,1] [0,1] (Uw []) [Tq (map nD X2) 3 true,Tq [TL false L 1 (map nD W)] 41 false] R (ok _ _ wr (by(rw[hE.t0' om])))))))))) (fun p12 p12f=>(.s 6 (.f (decide (((a:Int)+b)/2<(a+b)/2+m-st)) sE (.s 6 (.out [0,1] [0,1] (Uw []) [Tq (map nD X) 3 true,Tq [TL false L 1 (map nD W)] 41 false] R (ok _ _ wr (by(rw[hE.r0' om,hE.s0' om,hE.t0' om]))))))))))))))))))))))))))))))))))))))))))))))) kr
end Vp
end Go.Proofs.Ytefjnofhgkjpmaa
namespace Go.Proofs.Ytefjnofhgkjpmaa
open Go.RowKit Go.Bw Go.Vx
namespace Vp
theorem lx {X:List Nat}{i j:Nat}(hi:i<X.length)(hj:j<X.length):(swp X i j).Perm X:=by
 rw[List.perm_iff_count]
 intro c
 have e1:X.getD i mb=X[i]:=by rw[To,Ts hi];rfl
 have e2:X.getD j mb=X[j]:=by rw[To,Ts hj];rfl
 rw[sB,e1,e2,List.count_set (by rw[VG];exact hj),List.count_set hi,List.getElem_set]
 have h1:(X[i]==c)=true→1≤X.count c:=fun q=>by
  rw[List.one_le_count_iff,←eq_of_beq q];exact Uo hi
 have h3:(if i=j then X[j]else X[j])=X[j]:=by split<;>rfl
 rw[h3]
 cases q1:(X[i]==c)<;>cases q2:(X[j]==c)<;>simp <;>(try have:=h1 q1)<;>omega
theorem ly {X:List Nat}{a b:Nat}:∀k,a+k≤X.length→b+k≤X.length→(fE X a b k).Perm X
 |0,_,_=>by rw[HZ]
 |k+1,h1,h2=>by
  rw[←H0]
  exact(lx (by rw[eU];omega) (by rw[eU];omega)).trans (ly k (by omega) (by omega))
theorem mz {m:Nat}:∀(f i j:Nat) (X:List Nat),1≤i→1≤j→i≤m→m+j≤X.length→i+j≤f→(i4 m f i j X).Perm X
 |0,i,j,X,h1,h2,h3,h4,h5=>by omega
 |f+1,i,j,X,h1,h2,h3,h4,h5=>by
  rw[i4];split
  ·exact ly i (by omega) (by omega)
  ·split
   ·exact(mz f (i-j) j _ (by omega) h2 (by omega) (by rw[eU];omega) (by omega)).trans (ly j (by omega) (by omega))
   ·exact(mz f i (j-i) _ h1 (by omega) h3 (by rw[eU];omega) (by omega)).trans (ly i (by omega) (by omega))
theorem Ad {X:List Nat}{a m b:Nat}(h1:a<m)(h2:m<b)(h3:b≤X.length):(CP X a m b).Perm X:=by
 rw[yz];exact mz _ _ _ _ (by omega) (by omega) (by omega) (by omega) (by omega)
theorem vb {W:List Nat}{a:Nat}:∀(j:Nat) (X:List Nat),j<X.length→(inI W a j X).Perm X
 |0,_,_=>V6 _
 |j+1,X,h=>by
  rw[inI];split
  ·exact(vb j _ (by rw[iO];omega)).trans (lx h (by omega))
  ·exact V6 _
theorem jB {W X:List Nat}{a:Nat}:∀(k:Nat),a+k<X.length∨k=0→(inQ W X a k).Perm X
 |0,_=>by rw[CQ]
 |k+1,h=>by
  rw[←CS]
  exact(vb _ _ (by rw[lw];omega)).trans (jB k (by omega))
theorem vd {X:List Nat}{a:Nat}:∀(k:Nat),a+k<X.length∨k=0→(jz X a k).Perm X
 |0,_=>by rw[Ia]
 |k+1,h=>by
  rw[←Ic]
  exact(lx (by rw[iP];omega) (by rw[iP];omega)).trans (vd k (by omega))
theorem ve {X:List Nat}{m:Nat}(hm:m<X.length):∀(k:Nat),(jA X m k).Perm X
 |0=>by rw[Ib]
 |k+1=>by
  rw[←Ie]
  exact(lx (by rw[iQ];omega) (by rw[iQ];omega)).trans (ve hm k)
theorem bM.perm {L:Nat}{X Y:List Nat}(h:bM L X)(hp:Y.Perm X):bM L Y:=fun x hx=>h x (hp.mem_iff.1 hx)
def lz (a m b:Nat):Nat:=if(a+b)/2<m then(a+b)/2+m-b else a
def mD (a m b:Nat):Nat:=if(a+b)/2<m then(a+b)/2 else m
def fC (W X:List Nat)(a m b:Nat):Nat:=i6 (qC W X ((a+b)/2+m-1)) (mD a m b-lz a m b) (lz a m b) (mD a m b)
def ia (X:List Nat)(m st en:Nat):List Nat:=if st<m∧m<en then CP X st m en else X
def nf (W:List Nat):Nat→List Nat→Nat→Nat→Nat→List Nat
 |0,X,_,_,_=>X
 |f+1,X,a,m,b=>
  if m=a+1 then jz X a (i6 (qA W X a) (b-m) m b-1-a)
  else if b=m+1 then jA X m (m-i6 (qB W X m) (m-a) a m)
  else
   (fun st=>(fun en=>(fun X1=>(fun X2=>if(a+b)/2<en∧en<b then nf W f X2 ((a+b)/2) en b else X2)
    (if a<st∧st<(a+b)/2 then nf W f X1 a st ((a+b)/2)else X1)) (ia X m st en)) ((a+b)/2+m-st)) (fC W X a m b)
theorem CU {a m b:Nat}(h1:a<m)(h2:m<b):lz a m b≤mD a m b∧mD a m b≤m∧a≤lz a m b∧(a+b)/2+m≤lz a m b+b:=by
 unfold lz mD;split<;>omega
theorem qR {X:List Nat}{m st en:Nat}(h:en≤X.length):(ia X m st en).Perm X:=by
 unfold ia;split
 ·next q=>exact Ad q.1 q.2 h
 ·exact V6 _
theorem gh {W:List Nat}:∀(f:Nat) (X:List Nat) (a m b:Nat),a<m→m<b→b≤X.length→(nf W f X a m b).Perm X
 |0,_,_,_,_,_,_,_=>V6 _
 |f+1,X,a,m,b,h1,h2,h3=>by
  rw[nf]
  split
  ·have:=pf (p:=qA W X a) (b-m) m b (by omega)
   exact vd _ (by omega)
  ·split
   ·exact ve (by omega) _
   ·have hs:=CU h1 h2
    have hi:=pf (p:=qC W X ((a+b)/2+m-1)) (mD a m b-lz a m b) (lz a m b) (mD a m b) hs.1
    show List.Perm (if(a+b)/2<(a+b)/2+m-fC W X a m b∧_ then _ else _) X
    generalize hst:fC W X a m b=st at *
    have hst2:lz a m b≤st∧st≤mD a m b:=by rw[←hst];exact hi
    have q1:(ia X m st ((a+b)/2+m-st)).Perm X:=qR (by omega)
    have l1:=q1.length_eq
    have q2:(if a<st∧st<(a+b)/2 then nf W f (ia X m st ((a+b)/2+m-st)) a st ((a+b)/2)else ia X m st ((a+b)/2+m-st)).Perm X:=by
     split
     ·next q=>exact(gh f _ _ _ _ q.1 q.2 (by omega)).trans q1
     ·exact q1
    have l2:=q2.length_eq
    generalize(if a<st∧st<(a+b)/2 then nf W f (ia X m st ((a+b)/2+m-st)) a st ((a+b)/2)else ia X m st ((a+b)/2+m-st))=X2 at *
    split
    ·next q=>exact(gh f _ _ _ _ q.1 q.2 (by omega)).trans q2
    ·exact q2
theorem K7 (X:List Nat)(N:Nat)(hN:N=X.length)(hN2:N≤1000)(W:List Nat)(L:Nat)(hL:L=W.length){a m b:Nat}(h1:a<m)(h2:m<b)(h3:b≤N):RtH W L N X a m b (CP X a m b):=⟨fun Y x y z hY hx hy hz=>by
 subst hY hx hy hz
 exact Pn Y N hN hN2 W L hL a m b h1 h2 h3 _ rfl⟩
theorem yE (W:List Nat)(L:Nat)(hL:L=W.length)(N:Nat)(hN2:N≤1000):∀(f:Nat) (X:List Nat),N=X.length→bM L X→∀(a m b:Nat),a<m→m<b→b≤N→b-a≤f→S1 132 [.ref 0 0 0 N 1,nD a,nD m,nD b,.fn (.func 121) [] [.ptr 1 1 0]] [⟨X.map nD, 3,true⟩,⟨[.sl false L 1 (W.map nD)], 41,false⟩] (.tup []) [⟨(nf W f X a m b).map nD, 3,true⟩,⟨[.sl false L 1 (W.map nD)], 41,false⟩]
 |0,X,hN,hA,a,m,b,h1,h2,h3,hf=>by omega
 |f+1,X,hN,hA,a,m,b,h1,h2,h3,hf=>by
  rw[nf]
  by_cases c1:m=a+1
  ·rw[if_pos c1]
   exact RN X N hN hN2 W L hL hA a m b h1 h2 h3 c1 _ rfl (pf _ _ _ (by omega))
  ·rw[if_neg c1]
   by_cases c2:b=m+1
   ·rw[if_pos c2]
    exact RO X N hN hN2 W L hL hA a m b h1 h2 h3 c1 c2 _ rfl (pf _ _ _ (by omega))
   ·rw[if_neg c2]
    have hs:=CU h1 h2
    have hi:lz a m b≤fC W X a m b∧fC W X a m b≤mD a m b:=pf _ _ _ hs.1
    have q1:(ia X m (fC W X a m b) ((a+b)/2+m-fC W X a m b)).Perm X:=qR (by omega)
    refine RP X N hN hN2 W L hL hA a m b h1 h2 h3 c1 c2 (ia X m (fC W X a m b) ((a+b)/2+m-fC W X a m b)) (if a<fC W X a m b∧fC W X a m b<(a+b)/2 then nf W f (ia X m (fC W X a m b) ((a+b)/2+m-fC W X a m b)) a (fC W X a m b) ((a+b)/2)else ia X m (fC W X a m b) ((a+b)/2+m-fC W X a m b)) _ ((a+b)/2) ((a+b)/2+m) (fC W X a m b) ((a+b)/2+m-fC W X a m b) rfl rfl (lz a m b) (mD a m b) ⟨hs.1,hs.2.1,hs.2.2.1,hs.2.2.2⟩ rfl hi rfl ?_
    have q2:(if a<fC W X a m b∧fC W X a m b<(a+b)/2 then nf W f (ia X m (fC W X a m b) ((a+b)/2+m-fC W X a m b)) a (fC W X a m b) ((a+b)/2)else ia X m (fC W X a m b) ((a+b)/2+m-fC W X a m b)).Perm X:=by
     split
     ·next q=>exact(gh f _ _ _ _ q.1 q.2 (by rw[q1.length_eq];omega)).trans q1
     ·exact q1
    have e3:(a+b)/2<m→lz a m b=(a+b)/2+m-b∧mD a m b=(a+b)/2:=fun q=>⟨if_pos q,if_pos q⟩
    have e4:m≤(a+b)/2→lz a m b=a∧mD a m b=m:=fun q=>⟨if_neg (by omega),if_neg (by omega)⟩
    generalize fC W X a m b=st at *
    generalize lz a m b=s0 at *
    generalize mD a m b=r0 at *
    refine⟨fun a1 a2=>?_,fun a1=>?_,fun a1 a2=>?_,fun a1=>?_,fun a1 a2=>?_,fun a1=>?_,e3,e4⟩
    ·unfold ia;rw[if_pos ⟨a1,a2⟩];exact K7 X N hN hN2 W L hL a1 a2 (by omega)
    ·unfold ia;rw[if_neg (fun q=>a1 q.1 q.2)]
    ·rw[if_pos ⟨a1,a2⟩]
     refine⟨fun Y x y z hY hx hy hz=>?_⟩
     subst hY hx hy hz
     exact yE W L hL N hN2 f _ (by rw[q1.length_eq];exact hN) (hA.perm q1) _ _ _ a1 a2 (by omega) (by omega)
    ·rw[if_neg (fun q=>a1 q.1 q.2)]
    ·dsimp only
     generalize(if a<st∧st<(a+b)/2 then nf W f (ia X m st ((a+b)/2+m-st)) a st ((a+b)/2)else ia X m st ((a+b)/2+m-st))=X2 at *
     rw[if_pos ⟨a1,a2⟩]
     refine⟨fun Y x y z hY hx hy hz=>?_⟩
     subst hY hx hy hz
     exact yE W L hL N hN2 f _ (by rw[q2.length_eq];exact hN) (hA.perm q2) _ _ _ a1 a2 (by omega) (by omega)
    ·dsimp only
     generalize(if a<st∧st<(a+b)/2 then nf W f (ia X m st ((a+b)/2+m-st)) a st ((a+b)/2)else ia X m st ((a+b)/2+m-st))=X2 at *
     rw[if_neg (fun q=>a1 q.1 q.2)]
end Vp
end Go.Proofs.Ytefjnofhgkjpmaa
namespace Go.Proofs.Ytefjnofhgkjpmaa
open Go.RowKit Go.Bw Go.Vx
open List (length getD map take drop flatMap replicate)
namespace Vp
theorem CV {p:Prop}(h:p:=by(refine aT ?_;(omega))):p:=h
def Ar (W:List Nat)(n:Nat):Nat→Nat→List Nat→List Nat
 |0,a,Y=>inQ W Y a (n-(a+1))
 |f+1,a,Y=>if a+20≤n then Ar W n f (a+20) (inQ W Y a 19)else inQ W Y a (n-(a+1))
theorem RQ {W:List Nat}{n f a:Nat}{Y T:List Nat}(hR:Ar W n f a Y=T)(hf:n-a≤f)(h:a+20≤n):Ar W n (f-1) (a+20) (inQ W Y a (a+20-(a+1)))=T:=by
 obtain⟨g,rfl⟩:∃g,f=g+1:=⟨f-1,by omega⟩
 rw[←hR,show a+20-(a+1)=19 from by omega];exact(if_pos h).symm
theorem RR {W:List Nat}{n f a:Nat}{Y T:List Nat}(hR:Ar W n f a Y=T)(h:¬a+20≤n):inQ W Y a (n-(a+1))=T:=by
 rw[←hR];cases f with
 |zero=>rfl
 |succ f=>exact(if_neg h).symm
def sH (W:List Nat)(z n:Nat):Nat→Nat→List Nat→List Nat
 |0,a,Y=>if a+z<n then nf W (2*z) Y a (a+z) n else Y
 |f+1,a,Y=>if a+2*z≤n then sH W z n f (a+2*z) (nf W (2*z) Y a (a+z) (a+2*z))else if a+z<n then nf W (2*z) Y a (a+z) n else Y
theorem RS {W:List Nat}{z n f a:Nat}{Y T:List Nat}(hR:sH W z n f a Y=T)(hf:n-a≤f)(hz:0<z)(h:a+2*z≤n):sH W z n (f-1) (a+2*z) (nf W (2*z) Y a (a+z) (a+2*z))=T:=by
 obtain⟨g,rfl⟩:∃g,f=g+1:=⟨f-1,by omega⟩
 rw[←hR];exact(if_pos h).symm
theorem RT {W:List Nat}{z n f a:Nat}{Y T:List Nat}(hR:sH W z n f a Y=T)(h:¬a+2*z≤n):(if a+z<n then nf W (2*z) Y a (a+z) n else Y)=T:=by
 rw[←hR];cases f with
 |zero=>rfl
 |succ f=>exact(if_neg h).symm
def As (W:List Nat)(n:Nat):Nat→Nat→List Nat→List Nat
 |0,_,Y=>Y
 |f+1,z,Y=>if z<n then As W n f (2*z) (sH W z n n 0 Y)else Y
theorem Pt {W:List Nat}{z n f:Nat}{Y T:List Nat}(hR:As W n f z Y=T)(hf:n-z≤f)(h:z<n):As W n (f-1) (2*z) (sH W z n n 0 Y)=T:=by
 obtain⟨g,rfl⟩:∃g,f=g+1:=⟨f-1,by omega⟩
 rw[←hR];exact(if_pos h).symm
theorem RU {W:List Nat}{z n f:Nat}{Y T:List Nat}(hR:As W n f z Y=T)(h:¬z<n):Y=T:=by
 rw[←hR];cases f with
 |zero=>rfl
 |succ f=>exact(if_neg h).symm
def RV (W X:List Nat):List Nat:=As W X.length X.length 20 (Ar W X.length X.length 0 X)
theorem pg {W:List Nat}{n:Nat}:∀(f a:Nat) (Y:List Nat),n=Y.length→a≤n→(Ar W n f a Y).Perm Y
 |0,a,Y,hn,ha=>jB _ (by omega)
 |f+1,a,Y,hn,ha=>by
  rw[Ar];split
  ·have q:(inQ W Y a 19).Perm Y:=jB _ (by omega)
   exact(pg f _ _ (by rw[q.length_eq];exact hn) (by omega)).trans q
  ·exact jB _ (by omega)
theorem lD {W:List Nat}{z n:Nat}(hz:0<z):∀(f a:Nat) (Y:List Nat),n=Y.length→(sH W z n f a Y).Perm Y
 |0,a,Y,hn=>by
  rw[sH];split
  ·exact gh _ _ _ _ _ (by omega) (by omega) (by omega)
  ·exact V6 _
 |f+1,a,Y,hn=>by
  rw[sH];split
  ·have q:(nf W (2*z) Y a (a+z) (a+2*z)).Perm Y:=gh _ _ _ _ _ (by omega) (by omega) (by omega)
   exact(lD hz f _ _ (by rw[q.length_eq];exact hn)).trans q
  ·split
   ·exact gh _ _ _ _ _ (by omega) (by omega) (by omega)
   ·exact V6 _
theorem vf {W:List Nat}{n:Nat}:∀(f z:Nat) (Y:List Nat),0<z→n=Y.length→(As W n f z Y).Perm Y
 |0,z,Y,hz,hn=>V6 _
 |f+1,z,Y,hz,hn=>by
  rw[As];split
  ·have q:=lD (W:=W) hz n 0 Y hn
   exact(vf f _ _ (by omega) (by rw[q.length_eq];exact hn)).trans q
  ·exact V6 _
theorem CW (W X:List Nat):(RV W X).Perm X:=by
 have q:=pg (W:=W) X.length 0 X rfl (T7 _)
 exact(vf _ _ _ (by decide) q.length_eq.symm).trans q
structure Ord (L N:Nat)(Y:List Nat):Prop where
 n:N=Y.length
 a:bM L Y
theorem Ord.perm {L N:Nat}{X Y:List Nat}(h:Ord L N X)(q:Y.Perm X):Ord L N Y:=⟨by rw[q.length_eq];exact h.n,h.a.perm q⟩
theorem Ord.in {L N:Nat}{W Y:List Nat}{a b:Nat}(h:Ord L N Y)(hb:b≤N):Ord L N (inQ W Y a (b-(a+1))):=h.perm (jB _ (by have:=h.n;omega))
theorem Ord.sm {L N:Nat}{W Y:List Nat}{f a m b:Nat}(h:Ord L N Y)(h1:a<m)(h2:m<b)(hb:b≤N):Ord L N (nf W f Y a m b):=h.perm (gh _ _ _ _ _ h1 h2 (by have:=h.n;omega))
theorem If (Y:List Nat)(N:Nat)(hN2:N≤1000)(W:List Nat)(L:Nat)(hL:L=W.length)(hO:Ord L N Y)(a b:Nat)(h1:a≤b)(h3:b≤N):S1 131 [.ref 0 0 0 N 1,nD a,nD b,.fn (.func 121) [] [.ptr 1 1 0]] [⟨Y.map nD, 3,true⟩,⟨[.sl false L 1 (W.map nD)], 41,false⟩] (.tup []) [⟨(inQ W Y a (b-(a+1))).map nD, 3,true⟩,⟨[.sl false L 1 (W.map nD)], 41,false⟩]:=Po Y N hO.n hN2 W L hL hO.a a b h1 h3 _ rfl
theorem Pu (Y:List Nat)(N:Nat)(hN2:N≤1000)(W:List Nat)(L:Nat)(hL:L=W.length)(hO:Ord L N Y)(z a:Nat)(hz:0<z)(h3:a+2*z≤N):S1 132 [.ref 0 0 0 N 1,nD a,iD ((a:Int)+z),nD (a+2*z),.fn (.func 121) [] [.ptr 1 1 0]] [⟨Y.map nD, 3,true⟩,⟨[.sl false L 1 (W.map nD)], 41,false⟩] (.tup []) [⟨(nf W (2*z) Y a (a+z) (a+2*z)).map nD, 3,true⟩,⟨[.sl false L 1 (W.map nD)], 41,false⟩]:=
 yE W L hL N hN2 (2*z) Y hO.n hO.a a (a+z) (a+2*z) (by omega) (by omega) h3 (by omega)
theorem Pv (Y:List Nat)(N:Nat)(hN2:N≤1000)(W:List Nat)(L:Nat)(hL:L=W.length)(hO:Ord L N Y)(z a:Nat)(hz:0<z)(h:a+z<N)(h3:N<a+2*z):S1 132 [.ref 0 0 0 N 1,nD a,iD ((a:Int)+z),nD N,.fn (.func 121) [] [.ptr 1 1 0]] [⟨Y.map nD, 3,true⟩,⟨[.sl false L 1 (W.map nD)], 41,false⟩] (.tup []) [⟨(nf W (2*z) Y a (a+z) N).map nD, 3,true⟩,⟨[.sl false L 1 (W.map nD)], 41,false⟩]:=
 yE W L hL N hN2 (2*z) Y hO.n hO.a a (a+z) N (by omega) h (TD _) (by omega)
theorem Pw (X:List Nat)(N:Nat)(hN2:N≤1000)(W:List Nat)(L:Nat)(hL:L=W.length)(hO:Ord L N X)(T1 T:List Nat)(hT1:Ar W N N 0 X=T1)(hO1:Ord L N T1)(hT:As W N N 20 T1=T):S1 127 [.ref 0 0 0 N 1,nD N,.fn (.func 121) [] [.ptr 1 1 0]] [⟨X.map nD, 3,true⟩,⟨[.sl false L 1 (W.map nD)], 41,false⟩] (.tup []) [⟨T.map nD, 3,true⟩,⟨[.sl false L 1 (W.map nD)], 41,false⟩]:=by
 refine SpecH.run T_ok ai Try.func127 rfl rfl rfl ⟨fa _,rfl,trivial⟩ rfl 1000 64 (fun R ok=>(.s 4 (Hn.inl T_ok ai false 63 2 (ap Try.prog 127 0) (fun(x:(a:Nat)×'(Y:List Nat)×'(f:Nat)×'(ha:a≤N)×'(hQ:Ord L N Y)×'(hf:N-a≤f)×'(hR:Ar W N f a Y=T1)×'Unit)=>match x with|⟨a,Y,f,ha,hQ,hf,hR,_⟩=>TJ [(0,Tu 0 0 0 N 1),(1,zN N),(2,U9 (Ui 121) [] [TF 1 1 0]),(6,zI 20),(7,nD a),(8,nD (a+20))] [⟨0,0,0,0,.b ⟨Y.map nD,3,true⟩⟩,⟨1,1,1,1,.b ⟨[TL false L 1 (map nD W)],41,false⟩⟩] 24) (fun(x:(a:Nat)×'(Y:List Nat)×'(f:Nat)×'(ha:a≤N)×'(hQ:Ord L N Y)×'(hf:N-a≤f)×'(hR:Ar W N f a Y=T1)×'Unit)=>match x with|⟨a,Y,f,ha,hQ,hf,hR,_⟩=>N-a) [⟨(a2:Nat)×'(Y2:List Nat)×'(ha2:a2≤N)×'(hQ2:Ord L N Y2)×'(hR2:inQ W Y2 a2 (N-(a2+1))=T1)×'Unit,.exit 0,fun x=>match x with|⟨a2,Y2,ha2,hQ2,hR2,_⟩=>TJ [(0,Tu 0 0 0 N 1),(1,zN N),(2,U9 (Ui 121) [] [TF 1 1 0]),(6,zI 20),(7,nD a2),(8,nD (a2+20))] [⟨0,0,0,0,.b ⟨Y2.map nD,3,true⟩⟩,⟨1,1,1,1,.b ⟨[TL false L 1 (map nD W)],41,false⟩⟩] 24⟩] 1000 64 (fun|⟨a,Y,f,ha,hQ,hf,hR,_⟩,Q,next1,last1=>(.s 4 (.bd ((↑(a+20):Int)≤(N:Int)) (fun p0 p0f=>(.s 5 (.call 131 true [0,1] (true) wr ([Tu 0 0 0 N 1,zN a,zN (a+20),U9 (Ui 121) [] [TF 1 1 0]]) _ (cj.refl _) (af (map nD Y)&&true) (by(simp;done)) _ _ _ (TW (az.of Try.func131 rfl rfl) (@If (Y) (N) om (W) (L) om om (a) (a+20) om om)) (.s 6 (.ow ((↑(a+20):Int)+20) (.s 1 (.val 8 (zI ((↑(a+20):Int)+20)) (zN (a+20+20)) CV (Hn.next next1 ⟨(a+20),(inQ W Y a (a+20-(a+1))),(f-1),om,(by(exact hQ.in (by(omega)))),om,(by(exact RQ hR om om)),⟨⟩⟩ (by show N-(a+20)<N-a;clear next1 last1;omega) [(0,0),(1,1)] ro)))))))) (fun p0 p0f=>(Hn.last last1 0 (⟨(a),(Y),om,om,(by(exact RR hR om)),⟨⟩⟩:(a2:Nat)×'(Y2:List Nat)×'(ha2:a2≤N)×'(hQ2:Ord L N Y2)×'(hR2:inQ W Y2 a2 (N-(a2+1))=T1)×'Unit) rfl [(0,0),(1,1)] ro))))) (fun|⟨a,Y,f,ha,hQ,hf,hR,_⟩=>by kernel_rfl) ⟨(0),(X),(N),om,om,om,om,⟨⟩⟩ [(0,0),(1,1)] ro (bY (fun|⟨a2,Y2,ha2,hQ2,hR2,_⟩=>(.s 5 (.call 131 true [0,1] (true) wr ([Tu 0 0 0 N 1,zN a2,zN N,U9 (Ui 121) [] [TF 1 1 0]]) _ (cj.refl _) (af (map nD Y2)&&true) (by(simp;done)) _ _ _ (TW (az.of Try.func131 rfl rfl) (@If (Y2) (N) om (W) (L) om om (a2) (N) om om)) (.blk 0 0 (Tq (map nD (inQ W Y2 a2 (N-(a2+1)))) 3 true) (Tq (map nD T1) 3 true) (by(rw[hR2])) (Hn.inl T_ok ai false 63 2 (ap Try.prog 127 1) (fun(x:(z:Nat)×'(Z:List Nat)×'(f:Nat)×'(hz:20≤z∧z≤2000)×'(hQ:Ord L N Z)×'(hf:N-z≤f)×'(hR:As W N f z Z=T)×'Unit)=>match x with|⟨z,Z,f,hz,hQ,hf,hR,_⟩=>TJ [(0,Tu 0 0 0 N 1),(1,zN N),(2,U9 (Ui 121) [] [TF 1 1 0]),(6,nD z)] [⟨0,0,0,0,.b ⟨Z.map nD,3,true⟩⟩,⟨1,1,1,1,.b ⟨[TL false L 1 (map nD W)],41,false⟩⟩] 24) (fun(x:(z:Nat)×'(Z:List Nat)×'(f:Nat)×'(hz:20≤z∧z≤2000)×'(hQ:Ord L N Z)×'(hf:N-z≤f)×'(hR:As W N f z Z=T)×'Unit)=>match x with|⟨z,Z,f,hz,hQ,hf,hR,_⟩=>N-z) [⟨Unit,.exit 2,fun x=>match x with|()=>TJ [(0,Tu 0 0 0 N 1),(1,zN N),(2,U9 (Ui 121) [] [TF 1 1 0])] [⟨0,0,0,0,.b ⟨T.map nD,3,true⟩⟩,⟨1,1,1,1,.b ⟨[TL false L 1 (map nD W)],41,false⟩⟩] 24⟩] 1000 64 (fun|⟨z,Z,f,hz,hQ,hf,hR,_⟩,Q,next1,last1=>(.s 4 (.bd ((z:Int)<N) (fun p1 p1f=>(.s 3 (.ow (2*(z:Int)) (.s 2 (.val 8 (zI (2*(z:Int))) (zN (0+2*z)) CV (Hn.inl T_ok ai false 63 2 (ap Try.prog 127 2) (fun(x:(a:Nat)×'(Y:List Nat)×'(g:Nat)×'(ha:a≤N)×'(hQ:Ord L N Y)×'(hf:N-a≤g)×'(hR:sH W z N g a Y=sH W z N N 0 Z)×'Unit)=>match x with|⟨a,Y,g,ha,hQ,hf,hR,_⟩=>TJ [(0,Tu 0 0 0 N 1),(1,zN N),(2,U9 (Ui 121) [] [TF 1 1 0]),(6,zN z),(7,nD a),(8,nD (a+2*z))] [⟨0,0,0,0,.b ⟨Y.map nD,3,true⟩⟩,⟨1,1,1,1,.b ⟨[TL false L 1 (map nD W)],41,false⟩⟩] 24) (fun(x:(a:Nat)×'(Y:List Nat)×'(g:Nat)×'(ha:a≤N)×'(hQ:Ord L N Y)×'(hf:N-a≤g)×'(hR:sH W z N g a Y=sH W z N N 0 Z)×'Unit)=>match x with|⟨a,Y,g,ha,hQ,hf,hR,_⟩=>N-a) [⟨(a3:Nat)×'(Y3:List Nat)×'(ha3:a3≤N∧N<a3+2*z)×'(hQ3:Ord L N Y3)×'(hR3:(if a3+z<N then nf W (2*z) Y3 a3 (a3+z) N else Y3)=sH W z N N 0 Z)×'Unit,.exit 4,fun x=>match x with|⟨a3,Y3,ha3,hQ3,hR3,_⟩=>TJ [(0,Tu 0 0 0 N 1),(1,zN N),(2,U9 (Ui 121) [] [TF 1 1 0]),(6,zN z),(7,nD a3),(8,nD (a3+2*z))] [⟨0,0,0,0,.b ⟨Y3.map nD,3,true⟩⟩,⟨1,1,1,1,.b ⟨[TL false L 1 (map nD W)],41,false⟩⟩] 24⟩] 1000 64 (fun|⟨a,Y,g,ha,hQ,hf,hR,_⟩,Q,next2,last2=>(.s 4 (.bd ((↑(a+2*z):Int)≤(N:Int)) (fun p2 p2f=>(.s 6 (.ow ((a:Int)+z) (.s 3 (.call 132 true [0,1] (true) wr ([Tu 0 0 0 N 1,zN a,zI ((a:Int)+z),zN (a+2*z),U9 (Ui 121) [] [TF 1 1 0]]) _ (cj.refl _) (af (map nD Y)&&true) (by(simp;done)) _ _ _ (TW (az.of Try.func132 rfl rfl) (@Pu (Y) (N) om (W) (L) om om (z) (a) om om)) (.s 6 (.ow (2*(z:Int)) (.s 2 (.ow ((↑(a+2*z):Int)+2*(z:Int)) (.s 1 (.val 8 (zI ((↑(a+2*z):Int)+2*(z:Int))) (zN (a+2*z+2*z)) CV (Hn.next next2 ⟨(a+2*z),(nf W (2*z) Y a (a+z) (a+2*z)),(g-1),om,(by(exact hQ.sm (by(omega)) (by(omega)) (by(omega)))),om,(by(exact RS hR om om om)),⟨⟩⟩ (by show N-(a+2*z)<N-a;clear next2 last2 next1 last1;omega) [(0,0),(1,1)] ro)))))))))))) (fun p2 p2f=>(Hn.last last2 0 (⟨(a),(Y),om,om,(by(exact RT hR om)),⟨⟩⟩:(a3:Nat)×'(Y3:List Nat)×'(ha3:a3≤N∧N<a3+2*z)×'(hQ3:Ord L N Y3)×'(hR3:(if a3+z<N then nf W (2*z) Y3 a3 (a3+z) N else Y3)=sH W z N N 0 Z)×'Unit) rfl [(0,0),(1,1)] ro))))) (fun|⟨a,Y,g,ha,hQ,hf,hR,_⟩=>by kernel_rfl) ⟨(0),(Z),(N),om,om,om,wr,⟨⟩⟩ [(0,0),(1,1)] ro (bY (fun|⟨a3,Y3,ha3,hQ3,hR3,_⟩=>(.s 4 (.ow ((a3:Int)+z) (.s 5 (.bd ((a3:Int)+z<N) (fun p3 p3f=>(.s 6 (.call 132 true [0,1] (true) wr ([Tu 0 0 0 N 1,zN a3,zI ((a3:Int)+z),zN N,U9 (Ui 121) [] [TF 1 1 0]]) _ (cj.refl _) (af (map nD Y3)&&true) (by(simp;done)) _ _ _ (TW (az.of Try.func132 rfl rfl) (@Pv (Y3) (N) om (W) (L) om om (z) (a3) om om om)) (.s 3 (.ow ((z:Int)*2) (.s 1 (.val 6 (zI ((z:Int)*2)) (zN (2*z)) CV (.blk 0 0 (Tq (map nD (nf W (2*z) Y3 a3 (a3+z) N)) 3 true) (Tq (map nD (sH W z N N 0 Z)) 3 true) (by(rw[if_pos om]at hR3;rw[hR3])) (Hn.next next1 ⟨(2*z),(sH W z N N 0 Z),(f-1),om,(by(exact hQ.perm (lD om _ _ _ hQ.n))),om,(by(exact Pt hR om om)),⟨⟩⟩ (by show N-2*z<N-z;clear next1 last1;omega) [(0,0),(1,1)] ro))))))))) (fun p3 p3f=>(.s 3 (.ow ((z:Int)*2) (.s 1 (.val 6 (zI ((z:Int)*2)) (zN (2*z)) CV (.blk 0 0 (Tq (map nD Y3) 3 true) (Tq (map nD (sH W z N N 0 Z)) 3 true) (by(rw[if_neg om]at hR3;rw[hR3])) (Hn.next next1 ⟨(2*z),(sH W z N N 0 Z),(f-1),om,(by(exact hQ.perm (lD om _ _ _ hQ.n))),om,(by(exact Pt hR om om)),⟨⟩⟩ (by show N-2*z<N-z;clear next1 last1;omega) [(0,0),(1,1)] ro))))))))))))))))))) (fun p1 p1f=>(.blk 0 0 (Tq (map nD Z) 3 true) (Tq (map nD T) 3 true) (by(rw[RU hR om])) (Hn.last last1 0 (():Unit) rfl [(0,0),(1,1)] ro)))))) (fun|⟨z,Z,f,hz,hQ,hf,hR,_⟩=>by kernel_rfl) ⟨(20),(T1),(N),om,om,om,om,⟨⟩⟩ [(0,0),(1,1)] ro (bY (fun|()=>(.out [0,1] [0,1] (Uw []) [Tq (map nD T) 3 true,Tq [TL false L 1 (map nD W)] 41 false] R (ok _ _ wr wr))))))))))))) kr
end Vp
end Go.Proofs.Ytefjnofhgkjpmaa
namespace Go.Proofs.Ytefjnofhgkjpmaa
open Go.RowKit Go.Bw Go.Vx
open List (length getD map take drop flatMap replicate)
namespace Vp
theorem wO {p:Prop}(h:p:=by((refine aJ ?_ ?_)<;>(repeat' (first|(refine aJ ?_ ?_)|(with_reducible rfl)|(refine decide_eq_true ?_)|(refine Tv ?_)|(refine fx ?_)))<;>(omega))):p:=h
theorem CX {p:Prop}(h:p:=by(simp only[a9 (k:=2) (fun(x:Pc)=>(rfl:(dC x).length=2)),Uz,Ub,Uh];refine Tv ?_;(omega))):p:=h
theorem CY {p:Prop}(h:p:=by(rw[Tt];rfl)):p:=h
theorem CZ {p:Prop}(h:p:=by(rw[Tt];simp only[Ud];(omega))):p:=h
theorem FJ {p:Prop}(h:p:=by(refine decide_eq_false ?_;(omega))):p:=h
theorem FK {p:Prop}(h:p:=by(refine aT ?_;(omega))):p:=h
theorem FL {p:Prop}(h:p:=by(have q:=@Se row i;refine aT ?_;omega)):p:=h
def gk (W:List Nat)(k:Nat):List Nat:=lk W ((Uv k).filter fun i=>decide (0<W.getD i mb))
theorem gN (W:List Nat)(k:Nat):gk W k=(Uv k).filter fun i=>decide (0<W.getD i mb):=aw _ _
theorem Ig (W:List Nat):gk W 0=[]:=gN W 0
theorem Ih {W:List Nat}{k:Nat}(h:0<W.getD (k*1) mb):gk W (k+1)=gk W k++[k]:=by
 rw[TZ]at h
 rw[gN,gN,Wf,US,VA (by simpa using h)];rfl
theorem Ii {W:List Nat}{k:Nat}(h:¬0<W.getD (k*1) mb):gk W (k+1)=gk W k:=by
 rw[TZ]at h
 rw[gN,gN,Wf,US,VB (by simpa using h),YU,Ue]
theorem kF (W:List Nat)(k:Nat):(gk W k).length≤k:=by
 rw[gN];exact T6 (Wk _ _) (by simp)
theorem sI {W:List Nat}{k:Nat}:bM k (gk W k):=fun x hx=>by
 rw[gN,WC]at hx
 exact List.mem_range.1 hx.1
def gD (W:List Nat):List Nat:=lk W (RV W (gk W W.length))
theorem C2 (W:List Nat):gD W=RV W (gk W W.length):=aw _ _
theorem fD (W:List Nat):(gD W).Perm (gk W W.length):=by rw[C2];exact CW _ _
structure SrE (W:List Nat)(L N:Nat)(X T1 T:List Nat):Prop where
 o:Ord L N X
 t1:Ar W N N 0 X=T1
 o1:Ord L N T1
 t:As W N N 20 T1=T
theorem K8 {W:List Nat}{L N:Nat}(hL:L=W.length){X:List Nat}(hX:X=gk W L)(hN:N=X.length):∃T1,SrE W L N X T1 (gD W):=by
 subst hX hN hL
 have o:Ord W.length (gk W W.length).length (gk W W.length):=⟨rfl,sI⟩
 exact⟨_,o,rfl,o.perm (pg _ _ _ rfl (T7 _)),by rw[C2];rfl⟩
theorem RW {m:Nat}(h:m≤15):IntKind.i64.wrap (2^min m 64*1)=((2^m:Nat):Int):=by
 have h2:2^m≤2^15:=TX (by decide) h
 rw[show min m 64=m from by omega,YM,show(2:Int)^m=((2^m:Nat):Int)from by push_cast;rfl]
 generalize 2^m=Z at *
 have q:=fk (x:=((Z:Nat):Int)) (by omega)
 rw[aL]at q
 injection q with q;injection q with q;injection q
structure Pc where
 w:Nat
 p:Bool
 deriving Inhabited
abbrev dC (x:Pc):List D:=[nD x.w,bD x.p]
def iU (ws:List Nat):List Pc:=ws.map fun w=>⟨w,false⟩
def fT (s:Nat):List Nat→List Pc×List Nat
 |[]=>([⟨s,true⟩],[])
 |w::r=>if s<w then([⟨s,true⟩],w::r)else(⟨w,false⟩::(fT s r).1,(fT s r).2)
def gl:List Pc→List Nat→List Pc
 |x::y::r,ws=>(fT (x.w+y.w) ws).1++gl r (fT (x.w+y.w) ws).2
 |_,ws=>iU ws
def K9 (row:List Pc)(ws:List Nat):List Pc:=lk ws (gl row ws)
theorem iR (row:List Pc)(ws:List Nat):K9 row ws=gl row ws:=aw _ _
theorem RX {row:List Pc}{ws:List Nat}{i:Nat}(h:i+1<row.length):gl (row.drop i) ws=(fT ((row.getD i mb).w+(row.getD (i+1) mb).w) ws).1++gl (row.drop (i+2)) (fT ((row.getD i mb).w+(row.getD (i+1) mb).w) ws).2:=by
 rw[UK (show i<row.length by omega),UK h,gl]
 have e1:row[i]=row.getD i mb:=by rw[To,Ts (by omega)];rfl
 have e2:row[i+1]=row.getD (i+1) mb:=by rw[To,Ts h];rfl
 rw[e1,e2]
theorem RY {row:List Pc}{ws:List Nat}{i:Nat}(h:¬i+1<row.length):gl (row.drop i) ws=iU ws:=by
 have:(row.drop i).length≤1:=by rw[Ul];omega
 match hm:row.drop i,this with
 |[],_=>rfl
 |[x],_=>rfl
theorem RZ {s:Nat}{ws:List Nat}{k:Nat}(hk:k<ws.length)(h:s<ws.getD k mb):fT s (ws.drop k)=([⟨s,true⟩],ws.drop k):=by
 have e1:ws[k]=ws.getD k mb:=by rw[To,Ts hk];rfl
 rw[UK hk,fT,if_pos (by rw[e1];exact h)]
theorem R6 {s:Nat}{ws:List Nat}{k:Nat}(hk:k<ws.length)(h:¬s<ws.getD k mb):fT s (ws.drop k)=(⟨ws.getD k mb,false⟩::(fT s (ws.drop (k+1))).1,(fT s (ws.drop (k+1))).2):=by
 have e1:ws[k]=ws.getD k mb:=by rw[To,Ts hk];rfl
 conv=>lhs;rw[UK hk,fT,if_neg (by rw[e1];exact h),e1]
theorem R7 {s:Nat}{ws:List Nat}{k:Nat}(hk:¬k<ws.length):fT s (ws.drop k)=([⟨s,true⟩],[]):=by
 rw[Vb (by omega)];rfl
section
variable {row o T:List Pc} {ws:List Nat} {i k s x:Nat}
theorem R8 (h:i+1<row.length)(hR:o++gl (row.drop i) (ws.drop k)=T):o++((fT ((row.getD i mb).w+(row.getD (i+1) mb).w) (ws.drop k)).1++gl (row.drop (i+2)) (fT ((row.getD i mb).w+(row.getD (i+1) mb).w) (ws.drop k)).2)=T:=by rw[←hR,RX h]
theorem R9 (hk:k<ws.length)(h:s<ws.getD k mb)(hR:o++((fT s (ws.drop k)).1++gl (row.drop (i+2)) (fT s (ws.drop k)).2)=T):(o++[⟨s,true⟩])++gl (row.drop (i+2)) (ws.drop k)=T:=by
 rw[←hR,RZ hk h,TG]
theorem Sa (hk:k<ws.length)(h:¬s<ws.getD k mb)(hR:o++((fT s (ws.drop k)).1++gl (row.drop (i+2)) (fT s (ws.drop k)).2)=T):(o++[⟨ws.getD k mb,false⟩])++((fT s (ws.drop (k+1))).1++gl (row.drop (i+2)) (fT s (ws.drop (k+1))).2)=T:=by
 rw[←hR,R6 hk h,TG];rfl
theorem Sc (hk:¬k<ws.length)(hR:o++((fT s (ws.drop k)).1++gl (row.drop (i+2)) (fT s (ws.drop k)).2)=T):(o++[⟨s,true⟩])++gl (row.drop (i+2)) (ws.drop k)=T:=by
 rw[←hR,R7 hk,show ws.drop k=[]from Vb (by omega),TG]
theorem Sd (h:¬i+1<row.length)(hR:o++gl (row.drop i) (ws.drop k)=T):o++iU (ws.drop k)=T:=by rw[←hR,RY h]
theorem Px (hk:k<ws.length)(hR:o++iU (ws.drop k)=T):(o++[⟨ws.getD k mb,false⟩])++iU (ws.drop (k+1))=T:=by
 have e1:ws[k]=ws.getD k mb:=by rw[To,Ts hk];rfl
 rw[←hR,UK hk,TG,e1];rfl
theorem FM (hk:¬k<ws.length)(hR:o++iU (ws.drop k)=T):o=T:=by
 rw[←hR,Vb (by omega)];exact(Ue _).symm
end
theorem FN (W:List Nat)(L:Nat)(hL:L=W.length)(hL2:L≤320)(hB:∀t,W.getD t mb≤1073741824)(m:Nat)(hm:1≤m∧m≤15)(N:Nat)(hN:N=(gk W L).length)(X T1:List Nat)(hX:gk W L=X)(hS:SrE W L N X T1 (gD W))(hNm:N≤2^m)(o:Ord L N X)(t1:Ar W N N 0 X=T1)(o1:Ord L N T1)(t:As W N N 20 T1=gD W):S0 100 [.sl false L 1 (W.map nD),nD m] [] (.tup [.ref 0 0 0 N 1,iD 0]) [⟨(gD W).map nD, 3,true⟩]:=by
 have hP:=RW hm.2
 have hN3:N≤320:=by rw[hN];exact T6 (kF W L) hL2
 refine SpecH.run T_ok ai Try.func100 rfl rfl rfl ⟨rY _ (fun _=>rfl) _,trivial⟩ rfl 1000 64 (fun R ok=>(.s 9 (.f (decide ((m:Int)<1)) FJ (.s 4 (.f (decide (15<(m:Int))) FJ (.s 6 (.f (decide (320<(L:Int))) FJ (.s 5 (.nils 4 120 1 3 (.val 4 (Tu 120 120 0 0 1) (Tu 120 120 0 (length (gk W 0)) 1) (by(rw[Ig];rfl)) (.blk 120 120 (Tq [] 3 true) (Tq (map nD (gk W 0)) 3 true) (by(rw[Ig];rfl)) (Hn.inl T_ok ai false 46 0 (ap Try.prog 100 0) (fun(x:(k:Nat)×'(hk:k≤L)×'Unit)=>match x with|⟨k,hk,_⟩=>TJ [(1,zN m),(2,TF 0 0 0),(4,(Tu 8 8 (0) ((gk W k).length) 1)),(17,TL false L 1 (map nD W)),(18,zN L),(19,nD k)] [⟨0,0,0,0,.b ⟨[TL false L 1 (map nD W)],41,false⟩⟩,⟨8,8,120,120,.b ⟨(gk W k).map nD,3,true⟩⟩] 16) (fun(x:(k:Nat)×'(hk:k≤L)×'Unit)=>match x with|⟨k,hk,_⟩=>L-k) [⟨Unit,.exit 0,fun x=>match x with|()=>TJ [(1,zN m),(2,TF 0 0 0),(4,(Tu 8 8 (0) (N) 1)),(17,TL false L 1 (map nD W)),(18,zN L)] [⟨0,0,0,0,.b ⟨[TL false L 1 (map nD W)],41,false⟩⟩,⟨8,8,120,120,.b ⟨X.map nD,3,true⟩⟩] 16⟩] 1000 64 (fun|⟨k,hk,_⟩,Q,next1,last1=>(.s 2 (.bd ((k:Int)<L) (fun p0 p0f=>(.s 2 (.chk (true&&decide ((k:Int)<L)&&true) wO (.s 2 (.opt ((map nD W)[k*1]?) (nD (getD W (k*1) mb)) (aq _ _ om) (.s 12 (.f (decide (1073741824<(↑(getD W (k*1) mb):Int))) (by(refine decide_eq_false ?_;have h9:=hB (k*1);have h8:=kF W k;omega)) (.s 3 (.bd (0<(↑(getD W (k*1) mb):Int)) (fun p1 p1f=>(.s 5 (.chk (true&&Tx (length (gk W k)*1) (length (map nD (gk W k)))&&true&&true&&true&&true&&Tz ((length (gk W k)+1)*8) 140737488355328) (by(simp;have h9:=hB (k*1);have h8:=kF W k;omega)) (.s 3 (.ow ((k:Int)+1) (.s 1 (.val 4 (Tu 152 152 0 (length (gk W k)+1) 1) (Tu 152 152 0 (length (gk W (k+1))) 1) (by(rw[Ih (by(omega)),Tt];rfl)) (.val 19 (zI ((k:Int)+1)) (zN (k+1)) FK (.blk 152 152 (Tq (map nD (gk W k)++[zN k]) 3 true) (Tq (map nD (gk W (k+1))) 3 true) (by(rw[Ih (by(omega)),Uq];rfl)) (Hn.next next1 ⟨(k+1),om,⟨⟩⟩ (by show L-(k+1)<L-k;clear next1 last1;omega) [(0,0),(152,152)] ro)))))))))) (fun p1 p1f=>(.s 2 (.ow ((k:Int)+1) (.s 1 (.val 4 (Tu 8 8 0 (length (gk W k)) 1) (Tu 8 8 0 (length (gk W (k+1))) 1) (by(rw[Ii (by(omega))])) (.val 19 (zI ((k:Int)+1)) (zN (k+1)) FK (.blk 8 8 (Tq (map nD (gk W k)) 3 true) (Tq (map nD (gk W (k+1))) 3 true) (by(rw[Ii (by(omega))])) (Hn.next next1 ⟨(k+1),om,⟨⟩⟩ (by show L-(k+1)<L-k;clear next1 last1;omega) [(0,0),(8,8)] ro))))))))))))))))) (fun p0 p0f=>(.val 4 (Tu 8 8 0 (length (gk W k)) 1) (Tu 8 8 0 N 1) (by(rw[show k=L from by omega,hX,o.n])) (.blk 8 8 (Tq (map nD (gk W k)) 3 true) (Tq (map nD X) 3 true) (by(rw[show k=L from by omega,hX])) (Hn.last last1 0 (():Unit) rfl [(0,0),(8,8)] ro))))))) (fun|⟨k,hk,_⟩=>by kernel_rfl) ⟨(0),om,⟨⟩⟩ [(0,0),(120,120)] ro (bY (fun|()=>(.s 5 (.opt (ar .i64 (2^min m 64*1)) (zI (TM Uf (2^min m 64*1))) (aL _ _) (.s 2 (.f (decide (TM Uf (2^min m 64*1)<(N:Int))) FJ (.s 9 (.call 127 true [8,0] (true) wr ([Tu 0 0 0 N 1,zN N,U9 (Ui 121) [] [TF 1 1 0]]) _ (cj.refl _) (af (map nD X)&&true) (by(simp;done)) _ _ _ (TW (az.of Try.func127 rfl rfl) (@Pw (X) (N) om (W) (L) om om (T1) (gD W) aD om aD)) (.s 3 (.out [8] [8] (Uw [Tu 0 0 0 N 1,zI 0]) [Tq (map nD (gD W)) 3 true] R (ok _ _ wr wr))))))))))))))))))))))) kr
theorem Py {o:List Pc}{x:Pc}:(o++[x]).flatMap dC=o.flatMap dC++[nD x.w,bD x.p]:=by rw[UV];rfl
theorem Pz {row:List Pc}{B:Nat}(h:∀x∈row,x.w≤B){i:Nat}(hi:i<row.length):(row.getD i mb).w≤B:=by
 rw[To,Ts hi];exact h _ (Uo hi)
def sP (row:List Pc)(i:Nat):Nat:=lk row ((row.getD i mb).w+(row.getD (i+1) mb).w)
theorem C3 (ws:List Nat){k j:Nat}(h:k+j<ws.length):(UQ (k*1) (ws.map nD))[j*1]? =some (nD (ws.getD (k+j) mb)):=by
 rw[TZ,TZ,UM,TN,To,Ts h];rfl
theorem Ij (row:List Pc)(i:Nat):sP row i=(row.getD i mb).w+(row.getD (i+1) mb).w:=aw _ _
theorem Se {row:List Pc}{i:Nat}:((sP row i:Nat):Int)=((row.getD i mb).w:Int)+((row.getD ((i:Int)+1).toNat mb).w:Int):=by rw[Ij,show((i:Int)+1).toNat=i+1 from by omega];push_cast;rfl
section
variable {row o T:List Pc} {ws:List Nat} {i k:Nat}
theorem PA (h:i+1<row.length)(hR:o++gl (row.drop i) (ws.drop k)=T):o++((fT (sP row i) (ws.drop k)).1++gl (row.drop (i+2)) (fT (sP row i) (ws.drop k)).2)=T:=by rw[Ij];exact R8 h hR
end
theorem PB (row:List Pc)(r:Nat)(hr:r=row.length)(hr2:r≤1000)(B:Nat)(hB2:B≤1000000000000000)(hB:∀x∈row,x.w≤B)(ws:List Nat)(n:Nat)(hn:n=ws.length)(hn2:n≤1000)(T:List Pc)(hT:K9 row ws=T):S0 101 [.sl false r 2 (row.flatMap dC),.sl false n 1 (ws.map nD)] [] (.ref 0 0 0 T.length 2) [⟨T.flatMap dC, 193,true⟩]:=by
 refine SpecH.run T_ok ai Try.func101 rfl rfl rfl ⟨iT (fun _=>rfl) _,trivial⟩ rfl 1000 64 (fun R ok=>(.s 3 (.nils 4 24 2 193 (Hn.inl T_ok ai false 74 0 (ap Try.prog 101 0) (fun(x:(i:Nat)×'(k:Nat)×'(o:List Pc)×'(hi:i≤r+1)×'(hk:k≤n)×'(ho:o.length≤i+k)×'(hR:o++gl (row.drop i) (ws.drop k)=T)×'Unit)=>match x with|⟨i,k,o,hi,hk,ho,hR,_⟩=>TJ [(0,TL false r 2 (flatMap dC row)),(1,TL false n 1 (map nD ws)),(4,(Tu 0 0 (0) (o.length) 2)),(5,nD k),(6,nD i)] [⟨0,0,24,24,.b ⟨o.flatMap dC,193,true⟩⟩] 8) (fun(x:(i:Nat)×'(k:Nat)×'(o:List Pc)×'(hi:i≤r+1)×'(hk:k≤n)×'(ho:o.length≤i+k)×'(hR:o++gl (row.drop i) (ws.drop k)=T)×'Unit)=>match x with|⟨i,k,o,hi,hk,ho,hR,_⟩=>r+1-i) [⟨(k3:Nat)×'(o3:List Pc)×'(hk3:k3≤n)×'(ho3:o3.length≤3000)×'(hR3:o3++iU (ws.drop k3)=T)×'Unit,.exit 0,fun x=>match x with|⟨k3,o3,hk3,ho3,hR3,_⟩=>TJ [(0,TL false r 2 (flatMap dC row)),(1,TL false n 1 (map nD ws)),(4,(Tu 0 0 (0) (o3.length) 2)),(5,nD k3)] [⟨0,0,24,24,.b ⟨o3.flatMap dC,193,true⟩⟩] 8⟩] 1000 64 (fun|⟨i,k,o,hi,hk,ho,hR,_⟩,Q,next1,last1=>(.s 3 (.ow ((i:Int)+1) (.s 4 (.bd ((i:Int)+1<r) (fun p0 p0f=>(.s 4 (.chk (true&&decide ((i:Int)<r)&&true) wO (.s 5 (.opt ((flatMap dC row)[i*2+0]?) (zN (Pc.w (getD row i mb))) (GQ (k:=2) (i:=i) (j:=0) (fun _=>rfl) om om rfl) (.s 4 (.ow ((i:Int)+1) (.s 1 (.chk (true&&decide ((i:Int)+1<r)&&true) wO (.s 5 (.opt ((flatMap dC row)[zK ((i:Int)+1)*2+0]?) (zN (Pc.w (getD row (zK ((i:Int)+1)) mb))) (GQ (k:=2) (i:=zK ((i:Int)+1)) (j:=0) (fun _=>rfl) om om rfl) (.s 2 (.op ((↑(Pc.w (getD row i mb)):Int)+(↑(Pc.w (getD row (zK ((i:Int)+1)) mb)):Int)) (by(have h9:=Pz hB (i:=i) om;have h8:=Pz hB (i:=((i:Int)+1).toNat) om;omega)) (.s 1 (.val 7 (zI ((↑(Pc.w (getD row i mb)):Int)+(↑(Pc.w (getD row (zK ((i:Int)+1)) mb)):Int))) (zN (sP row i)) FL (Hn.inl T_ok ai false 74 0 (ap Try.prog 101 1) (fun(x:(k1:Nat)×'(o1:List Pc)×'(hk1:k1≤n)×'(ho1:o1.length≤i+k1)×'(hR1:o1++((fT (sP row i) (ws.drop k1)).1++gl (row.drop (i+2)) (fT (sP row i) (ws.drop k1)).2)=T)×'Unit)=>match x with|⟨k1,o1,hk1,ho1,hR1,_⟩=>TJ [(0,TL false r 2 (flatMap dC row)),(1,TL false n 1 (map nD ws)),(4,(Tu 0 0 (0) (o1.length) 2)),(5,nD k1),(6,zN i),(7,nD (sP row i))] [⟨0,0,0,0,.b ⟨o1.flatMap dC,193,true⟩⟩] 8) (fun(x:(k1:Nat)×'(o1:List Pc)×'(hk1:k1≤n)×'(ho1:o1.length≤i+k1)×'(hR1:o1++((fT (sP row i) (ws.drop k1)).1++gl (row.drop (i+2)) (fT (sP row i) (ws.drop k1)).2)=T)×'Unit)=>match x with|⟨k1,o1,hk1,ho1,hR1,_⟩=>n-k1) [⟨(k2:Nat)×'(o2:List Pc)×'(hk2:k2≤n)×'(ho2:o2.length≤i+2+k2)×'(hR2:o2++gl (row.drop (i+2)) (ws.drop k2)=T)×'Unit,.exit 1,fun x=>match x with|⟨k2,o2,hk2,ho2,hR2,_⟩=>TJ [(0,TL false r 2 (flatMap dC row)),(1,TL false n 1 (map nD ws)),(4,(Tu 0 0 (0) (o2.length) 2)),(5,nD k2),(6,zN i)] [⟨0,0,0,0,.b ⟨o2.flatMap dC,193,true⟩⟩] 8⟩,⟨(k4:Nat)×'(o4:List Pc)×'(hk4:k4≤n∧n≤k4)×'(ho4:o4.length≤i+k4)×'(hR4:o4++((fT (sP row i) (ws.drop k4)).1++gl (row.drop (i+2)) (fT (sP row i) (ws.drop k4)).2)=T)×'Unit,.exit 2,fun x=>match x with|⟨k4,o4,hk4,ho4,hR4,_⟩=>TJ [(0,TL false r 2 (flatMap dC row)),(1,TL false n 1 (map nD ws)),(4,(Tu 0 0 (0) (o4.length) 2)),(5,nD k4),(6,zN i),(7,nD (sP row i))] [⟨0,0,0,0,.b ⟨o4.flatMap dC,193,true⟩⟩] 8⟩] 1000 64 (fun|⟨k1,o1,hk1,ho1,hR1,_⟩,Q,next2,last2=>(.s 5 (.bd ((k1:Int)<n) (fun p1 p1f=>(.s 3 (.chk (true&&decide ((k1:Int)<n)&&true) wO (.s 2 (.opt ((map nD ws)[k1*1]?) (nD (getD ws (k1*1) mb)) (aq _ _ om) (.s 3 (.bd ((↑(sP row i):Int)<(↑(getD ws (k1*1) mb):Int)) (fun p2 p2f=>(.s 7 (.chk (true&&Tx (length o1*2) (length (flatMap dC o1))&&true&&true&&true&&true&&Tz ((length o1+1)*16) 140737488355328) CX (.s 1 (.val 4 (Tu 120 120 0 (length o1+1) 2) (Tu 120 120 0 (length (o1++[Pc.mk (sP row i) true])) 2) CY (.blk 120 120 (Tq (flatMap dC o1++[zN (sP row i),D.v (.bool true)]) 193 true) (Tq (flatMap dC (o1++[Pc.mk (sP row i) true])) 193 true) (by(simp;done)) (Hn.last last2 0 (⟨(k1),(o1++[⟨sP row i,true⟩]),om,CZ,(by(simp only[TZ]at *;exact R9 om om hR1)),⟨⟩⟩:(k2:Nat)×'(o2:List Pc)×'(hk2:k2≤n)×'(ho2:o2.length≤i+2+k2)×'(hR2:o2++gl (row.drop (i+2)) (ws.drop k2)=T)×'Unit) rfl [(120,120)] ro))))))) (fun p2 p2f=>(.s 4 (.chk (true&&decide ((k1:Int)<n)&&true) wO (.s 2 (.opt ((map nD ws)[k1*1]?) (nD (getD ws (k1*1) mb)) (aq _ _ om) (.s 5 (.chk (true&&Tx (length o1*2) (length (flatMap dC o1))&&true&&true&&true&&true&&Tz ((length o1+1)*16) 140737488355328) CX (.s 4 (.ow ((k1:Int)+1) (.s 1 (.val 4 (Tu 144 144 0 (length o1+1) 2) (Tu 144 144 0 (length (o1++[Pc.mk (getD ws k1 mb) false])) 2) CY (.val 5 (zI ((k1:Int)+1)) (zN (k1+1)) FL (.blk 144 144 (Tq (flatMap dC o1++[zN (getD ws (k1*1) mb),D.v (.bool false)]) 193 true) (Tq (flatMap dC (o1++[Pc.mk (getD ws k1 mb) false])) 193 true) (by(refine ay ?_;rw[Py];simp only[TZ])) (Hn.next next2 ⟨(k1+1),(o1++[⟨ws.getD k1 mb,false⟩]),om,CZ,(by(simp only[TZ]at *;exact Sa om om hR1)),⟨⟩⟩ (by show n-(k1+1)<n-k1;clear next2 last2 next1 last1;omega) [(144,144)] ro))))))))))))))))))))) (fun p1 p1f=>(Hn.last last2 1 (⟨(k1),(o1),om,om,om,⟨⟩⟩:(k4:Nat)×'(o4:List Pc)×'(hk4:k4≤n∧n≤k4)×'(ho4:o4.length≤i+k4)×'(hR4:o4++((fT (sP row i) (ws.drop k4)).1++gl (row.drop (i+2)) (fT (sP row i) (ws.drop k4)).2)=T)×'Unit) rfl [(0,0)] ro))))) (fun|⟨k1,o1,hk1,ho1,hR1,_⟩=>by kernel_rfl) ⟨(k),(o),om,om,(by(exact PA om hR)),⟨⟩⟩ [(0,0)] ro (gd (fun|⟨k2,o2,hk2,ho2,hR2,_⟩=>(.s 3 (.ow ((i:Int)+2) (.s 1 (.val 6 (zI ((i:Int)+2)) (zN (i+2)) FL (Hn.next next1 ⟨(i+2),(k2),(o2),om,om,om,om,⟨⟩⟩ (by show r+1-(i+2)<r+1-i;clear next1 last1;omega) [(0,0)] ro)))))) (fun|⟨k4,o4,hk4,ho4,hR4,_⟩=>(.s 7 (.chk (true&&Tx (length o4*2) (length (flatMap dC o4))&&true&&true&&true&&true&&Tz ((length o4+1)*16) 140737488355328) CX (.s 4 (.ow ((i:Int)+2) (.s 1 (.val 4 (Tu 40 40 0 (length o4+1) 2) (Tu 40 40 0 (length (o4++[Pc.mk (sP row i) true])) 2) CY (.val 6 (zI ((i:Int)+2)) (zN (i+2)) FL (.blk 40 40 (Tq (flatMap dC o4++[zN (sP row i),D.v (.bool true)]) 193 true) (Tq (flatMap dC (o4++[Pc.mk (sP row i) true])) 193 true) (by(simp;done)) (Hn.next next1 ⟨(i+2),(k4),(o4++[⟨sP row i,true⟩]),om,om,CZ,(by(exact Sc om hR4)),⟨⟩⟩ (by show r+1-(i+2)<r+1-i;clear next1 last1;omega) [(40,40)] ro))))))))))))))))))))))))))) (fun p0 p0f=>(Hn.last last1 0 (⟨(k),(o),om,om,(by(exact Sd om hR)),⟨⟩⟩:(k3:Nat)×'(o3:List Pc)×'(hk3:k3≤n)×'(ho3:o3.length≤3000)×'(hR3:o3++iU (ws.drop k3)=T)×'Unit) rfl [(0,0)] ro))))))) (fun|⟨i,k,o,hi,hk,ho,hR,_⟩=>by kernel_rfl) ⟨(0),(0),([]),om,om,(by(simp;done)),(by(exact(iR _ _).symm.trans hT)),⟨⟩⟩ [(24,24)] ro (bY (fun|⟨k3,o3,hk3,ho3,hR3,_⟩=>(.s 3 (.chk (aZ (some (k3:Int)) none none n&&true) (by(simp <;>(omega))) (.s 2 (Hn.inl T_ok ai false 74 0 (ap Try.prog 101 2) (fun(x:(j:Nat)×'(o:List Pc)×'(hk:j≤n-k3)×'(ho:o.length≤3000+j)×'(hR:o++iU (ws.drop (k3+j))=T)×'Unit)=>match x with|⟨j,o,hk,ho,hR,_⟩=>TJ [(4,(Tu 0 0 (0) (o.length) 2)),(61,TL false (n-k3) 1 (drop (k3*1) (map nD ws))),(62,zN (n-k3)),(63,nD j)] [⟨0,0,0,0,.b ⟨o.flatMap dC,193,true⟩⟩] 8) (fun(x:(j:Nat)×'(o:List Pc)×'(hk:j≤n-k3)×'(ho:o.length≤3000+j)×'(hR:o++iU (ws.drop (k3+j))=T)×'Unit)=>match x with|⟨j,o,hk,ho,hR,_⟩=>n-k3-j) [⟨Unit,.exit 4,fun x=>match x with|()=>TJ [(4,(Tu 0 0 (0) (T.length) 2)),(61,TL false (n-k3) 1 (drop (k3*1) (map nD ws))),(62,zN (n-k3))] [⟨0,0,0,0,.b ⟨T.flatMap dC,193,true⟩⟩] 8⟩] 1000 64 (fun|⟨j,o,hk,ho,hR,_⟩,Q,next1,last1=>(.s 2 (.bd ((j:Int)<(↑(n-k3):Int)) (fun p3 p3f=>(.s 1 (.chk (true&&decide ((j:Int)<(↑(n-k3):Int))&&true) wO (.s 2 (.opt ((drop (k3*1) (map nD ws))[j*1]?) (nD (getD ws (k3+j) mb)) (@C3 ws (k3) (j) om) (.s 8 (.chk (true&&Tx (length o*2) (length (flatMap dC o))&&true&&true&&true&&true&&Tz ((length o+1)*16) 140737488355328) CX (.s 3 (.ow ((j:Int)+1) (.s 1 (.val 4 (Tu 72 72 0 (length o+1) 2) (Tu 72 72 0 (length (o++[Pc.mk (getD ws (k3+j) mb) false])) 2) CY (.val 63 (zI ((j:Int)+1)) (zN (j+1)) FK (.blk 72 72 (Tq (flatMap dC o++[zN (getD ws (k3+j) mb),D.v (.bool false)]) 193 true) (Tq (flatMap dC (o++[Pc.mk (getD ws (k3+j) mb) false])) 193 true) (by(simp;done)) (Hn.next next1 ⟨(j+1),(o++[⟨ws.getD (k3+j) mb,false⟩]),om,CZ,(by(exact Px om hR)),⟨⟩⟩ (by show n-k3-(j+1)<n-k3-j;clear next1 last1;omega) [(72,72)] ro)))))))))))))) (fun p3 p3f=>(.val 4 (Tu 0 0 0 (length o) 2) (Tu 0 0 0 (length T) 2) (by(rw[FM om hR])) (.blk 0 0 (Tq (flatMap dC o) 193 true) (Tq (flatMap dC T) 193 true) (by(rw[FM om hR])) (Hn.last last1 0 (():Unit) rfl [(0,0)] ro))))))) (fun|⟨j,o,hk,ho,hR,_⟩=>by kernel_rfl) ⟨(0),(o3),om,om,om,⟨⟩⟩ [(0,0)] ro (bY (fun|()=>(.s 2 (.out [0] [0] (Tu 0 0 0 (length T) 2) [Tq (flatMap dC T) 193 true] R (ok _ _ wr wr))))))))))))))) kr
theorem FO (ws:List Nat){j:Nat}(h:j<ws.length):(UQ (0*1) (ws.map nD))[j*1]? =some (nD (ws.getD j mb)):=by
 have:=C3 ws (k:=0) (j:=j) (by omega)
 rwa [T0]at this
theorem PC (ws:List Nat)(n:Nat)(hn:n=ws.length)(hn2:n≤1000)(T:List Pc)(hT:K9 [] ws=T):S0 101 [dT,.sl false n 1 (ws.map nD)] [] (.ref 0 0 0 T.length 2) [⟨T.flatMap dC, 193,true⟩]:=by
 refine SpecH.run T_ok ai Try.func101 rfl rfl rfl ⟨iT (fun _=>rfl) _,trivial⟩ rfl 1000 64 (fun R ok=>(.s 16 (.chk (aZ (some 0) none none n&&true) (by(simp;done)) (.s 2 (.nils 4 104 2 193 (Hn.inl T_ok ai false 74 0 (ap Try.prog 101 2) (fun(x:(j:Nat)×'(o:List Pc)×'(hk:j≤n)×'(ho:o.length≤j)×'(hR:o++iU (ws.drop j)=T)×'Unit)=>match x with|⟨j,o,hk,ho,hR,_⟩=>TJ [(4,(Tu 0 0 (0) (o.length) 2)),(61,TL false (n-0) 1 (drop 0 (map nD ws))),(62,zN (n-0)),(63,nD j)] [⟨0,0,104,104,.b ⟨o.flatMap dC,193,true⟩⟩] 8) (fun(x:(j:Nat)×'(o:List Pc)×'(hk:j≤n)×'(ho:o.length≤j)×'(hR:o++iU (ws.drop j)=T)×'Unit)=>match x with|⟨j,o,hk,ho,hR,_⟩=>n-j) [⟨Unit,.exit 4,fun x=>match x with|()=>TJ [(4,(Tu 0 0 (0) (T.length) 2)),(61,TL false (n-0) 1 (drop 0 (map nD ws))),(62,zN (n-0))] [⟨0,0,104,104,.b ⟨T.flatMap dC,193,true⟩⟩] 8⟩] 1000 64 (fun|⟨j,o,hk,ho,hR,_⟩,Q,next1,last1=>(.s 2 (.bd ((j:Int)<(↑(n-0):Int)) (fun p0 p0f=>(.s 1 (.chk (true&&decide ((j:Int)<(↑(n-0):Int))&&true) wO (.s 2 (.opt ((drop (0*1) (map nD ws))[j*1]?) (nD (getD ws j mb)) (@FO ws (j) om) (.s 8 (.chk (true&&Tx (length o*2) (length (flatMap dC o))&&true&&true&&true&&true&&Tz ((length o+1)*16) 140737488355328) CX (.s 3 (.ow ((j:Int)+1) (.s 1 (.val 4 (Tu 72 72 0 (length o+1) 2) (Tu 72 72 0 (length (o++[Pc.mk (getD ws j mb) false])) 2) CY (.val 63 (zI ((j:Int)+1)) (zN (j+1)) FK (.blk 72 72 (Tq (flatMap dC o++[zN (getD ws j mb),D.v (.bool false)]) 193 true) (Tq (flatMap dC (o++[Pc.mk (getD ws j mb) false])) 193 true) (by(simp;done)) (Hn.next next1 ⟨(j+1),(o++[⟨ws.getD j mb,false⟩]),om,CZ,(by(exact Px om hR)),⟨⟩⟩ (by show n-(j+1)<n-j;clear next1 last1;omega) [(72,72)] ro)))))))))))))) (fun p0 p0f=>(.val 4 (Tu 0 0 0 (length o) 2) (Tu 0 0 0 (length T) 2) (by(rw[FM om hR])) (.blk 0 0 (Tq (flatMap dC o) 193 true) (Tq (flatMap dC T) 193 true) (by(rw[FM om hR])) (Hn.last last1 0 (():Unit) rfl [(0,0)] ro))))))) (fun|⟨j,o,hk,ho,hR,_⟩=>by kernel_rfl) ⟨(0),([]),om,(by(simp;done)),(by(exact(iR _ _).symm.trans hT)),⟨⟩⟩ [(104,104)] ro (bY (fun|()=>(.s 2 (.out [0] [0] (Tu 0 0 0 (length T) 2) [Tq (flatMap dC T) 193 true] R (ok _ _ wr wr))))))))))) kr
end Vp
end Go.Proofs.Ytefjnofhgkjpmaa
namespace Go.Proofs.Ytefjnofhgkjpmaa
open Go.RowKit Go.Bw Go.Vx
namespace Vp
def sJ (W S:List Nat)(k:Nat):List Nat:=lk S ((S.take k).map fun i=>W.getD i mb)
theorem pj (W S:List Nat)(k:Nat):sJ W S k=(S.take k).map fun i=>W.getD i mb:=aw _ _
theorem PD (W S:List Nat):sJ W S 0=[]:=pj W S 0
theorem PE {W S:List Nat}{k:Nat}(h:k<S.length):sJ W S (k+1)=sJ W S k++[W.getD (S.getD k mb) mb]:=by
 rw[pj,pj,T8 h,Uq,To (l:=S),Ts h];rfl
theorem nM {W S:List Nat}{k:Nat}(h:k≤S.length):(sJ W S k).length=k:=by rw[pj,TH,TR];omega
def La (ws:List Nat):Nat→List Pc
 |0=>K9 [] ws
 |k+1=>K9 (La ws k) ws
def av (ws:List Nat)(k:Nat):List Pc:=lk ws (La ws k)
theorem sK (ws:List Nat)(k:Nat):av ws k=La ws k:=aw _ _
theorem sL (ws:List Nat):K9 [] ws=av ws 0:=by rw[sK];rfl
theorem pm (ws:List Nat)(k:Nat):K9 (av ws k) ws=av ws (k+1):=by rw[sK,sK];rfl
def dS (row:List Pc)(n:Nat):Nat:=lk row ((row.take n).filter (·.p)).length
theorem kG (row:List Pc)(n:Nat):dS row n=((row.take n).filter (·.p)).length:=aw _ _
theorem PF (row:List Pc):dS row 0=0:=kG row 0
theorem Ik {row:List Pc}{k:Nat}(h:k<row.length):dS row (k+1)=dS row k+(row.getD k mb).p.toNat:=by
 rw[kG,kG,T8 h,US,Tt,To,Ts h]
 show _+(List.filter _ [row[k]]).length=_+(row[k]).p.toNat
 cases hp:(row[k]).p
 ·rw[VB (by simp[hp])];rfl
 ·rw[VA (by simp[hp])];rfl
theorem C4 (row:List Pc)(n:Nat):dS row n≤n:=by
 rw[kG];exact T6 (Wk _ _) (by rw[TR];exact YT _ _)
theorem yF (row:List Pc)(n:Nat):dS row n≤(row.filter (·.p)).length:=by
 rw[kG];exact((Yt n row).filter _).length_le
theorem sM:∀l:List Pc,l.length=(l.filter (·.p)).length+(l.filter (fun x=>!x.p)).length
 |[]=>rfl
 |x::r=>by
  have ih:=sM r
  cases hp:x.p
  ·rw[VB (by simp[hp]),VA (by simp[hp]),T3,T3];omega
  ·rw[VA (by simp[hp]),VB (by simp[hp]),T3,T3];omega
theorem Il (s:Nat):∀ws:List Nat,((fT s ws).1.filter (·.p)).length=1∧(fT s ws).1.length+(fT s ws).2.length=ws.length+1∧(fT s ws).1.length=((fT s ws).1.filter (fun x=>!x.p)).length+1
 |[]=>⟨rfl,rfl,rfl⟩
 |w::r=>by
  have ih:=Il s r
  rw[fT];split
  ·exact⟨rfl,by simp;omega,rfl⟩
  ·refine⟨?_,?_,?_⟩
   ·rw[VB (by simp)];exact ih.1
   ·simp only[T3];omega
   ·rw[VA (by simp),T3,T3];omega
theorem C5:∀(row:List Pc) (ws:List Nat),((gl row ws).filter (·.p)).length=row.length/2∧(gl row ws).length=ws.length+row.length/2∧((gl row ws).filter (fun x=>!x.p)).length=ws.length
 |[],ws=>by
  have e:gl [] ws=iU ws:=rfl
  rw[e];unfold iU
  refine⟨?_,by simp,?_⟩
  ·rw[List.filter_eq_nil_iff.2 (fun x hx=>by obtain⟨w,_,rfl⟩:=List.mem_map.1 hx;simp)];rfl
  ·rw[List.filter_eq_self.2 (fun x hx=>by obtain⟨w,_,rfl⟩:=List.mem_map.1 hx;rfl),TH]
 |[x],ws=>by
  have e:gl [x] ws=iU ws:=rfl
  rw[e];unfold iU
  refine⟨?_,by simp,?_⟩
  ·rw[List.filter_eq_nil_iff.2 (fun x hx=>by obtain⟨w,_,rfl⟩:=List.mem_map.1 hx;simp)];simp
  ·rw[List.filter_eq_self.2 (fun x hx=>by obtain⟨w,_,rfl⟩:=List.mem_map.1 hx;rfl),TH]
 |x::y::r,ws=>by
  have h1:=Il (x.w+y.w) ws
  have h2:=C5 r (fT (x.w+y.w) ws).2
  rw[gl]
  refine⟨?_,?_,?_⟩
  ·rw[US,Tt,h1.1,h2.1,T3,T3];omega
  ·rw[Tt,h2.2.1,T3,T3];omega
  ·rw[US,Tt,h2.2.2];omega
theorem Im {s B:Nat}:∀ws:List Nat,(∀w∈ws,w≤B)→s≤B→(∀x∈(fT s ws).1,x.w≤B)∧∀w∈(fT s ws).2,w∈ws
 |[],_,hs=>⟨fun x hx=>by cases List.mem_singleton.1 hx;exact hs,fun w hw=>by cases hw⟩
 |w::r,h,hs=>by
  have ih:=Im (s:=s) r (fun y hy=>h y (TU _ hy)) hs
  rw[fT];split
  ·exact⟨fun x hx=>by cases List.mem_singleton.1 hx;exact hs,fun y hy=>hy⟩
  ·refine⟨fun x hx=>?_,fun y hy=>TU _ (ih.2 y hy)⟩
   rcases List.mem_cons.1 hx with rfl|hx
   ·exact h w TP
   ·exact ih.1 x hx
theorem In {B C:Nat}(hC:2*B≤C)(hC2:B≤C):∀(row:List Pc) (ws:List Nat),(∀w∈ws,w≤B)→(∀x∈row,x.w≤B)→∀x∈gl row ws,x.w≤C
 |[],ws,h,_=>fun x hx=>by
  obtain⟨w,hw,rfl⟩:=List.mem_map.1 (show x∈iU ws from hx)
  exact T6 (h w hw) hC2
 |[_],ws,h,_=>fun x hx=>by
  obtain⟨w,hw,rfl⟩:=List.mem_map.1 (show x∈iU ws from hx)
  exact T6 (h w hw) hC2
 |a::b::r,ws,h,hr=>fun x hx=>by
  have ha:=hr a TP
  have hb:=hr b (TU _ TP)
  have h1:=Im (s:=a.w+b.w) (B:=C) ws (fun w hw=>T6 (h w hw) hC2) (by omega)
  rw[gl]at hx
  rcases List.mem_append.1 hx with q|q
  ·exact h1.1 x q
  ·exact In hC hC2 r _ (fun w hw=>h w (h1.2 w hw)) (fun y hy=>hr y (TU _ (TU _ hy))) x q
theorem C6 {ws:List Nat}(h:∀w∈ws,w≤1073741824):∀k,∀x∈av ws k,x.w≤2^k*1073741824
 |0=>fun x hx=>by
  rw[←sL,iR]at hx
  obtain⟨w,hw,rfl⟩:=List.mem_map.1 (show x∈iU ws from hx)
  have:=h w hw;simpa using this
 |k+1=>fun x hx=>by
  rw[←pm,iR]at hx
  have hp:=UY k
  refine In (B:=2^k*1073741824) (by rw[Us];omega) (by rw[Us];omega) _ _ (fun w hw=>T6 (h w hw) (by omega)) (C6 h k) x hx
theorem FP {ws:List Nat}(h:∀w∈ws,w≤1073741824){k:Nat}(hk:k≤15):∀x∈av ws k,x.w≤100000000000000:=fun x hx=>by
 have h1:=C6 h k x hx
 have h2:2^k≤2^15:=TX (by decide) hk
 omega
theorem mE (ws:List Nat):∀k,(av ws k).length=ws.length+(if k=0 then 0 else(av ws (k-1)).length/2)∧((av ws k).filter (·.p)).length=(if k=0 then 0 else(av ws (k-1)).length/2)∧((av ws k).filter (fun x=>!x.p)).length=ws.length
 |0=>by
  have h:=C5 [] ws
  rw[←iR,sL]at h
  exact⟨h.2.1,h.1,h.2.2⟩
 |k+1=>by
  have h:=C5 (av ws k) ws
  rw[←iR,pm]at h
  exact⟨h.2.1,h.1,h.2.2⟩
theorem dk (ws:List Nat):∀k,(av ws k).length≤2*ws.length
 |0=>by rw[(mE ws 0).1,if_pos rfl];omega
 |k+1=>by
  have:=dk ws k
  rw[(mE ws (k+1)).1,if_neg (VJ k),VK];omega
theorem yG (ws:List Nat):∀k,2^k*(2*ws.length)≤2^k*(av ws k).length+ws.length+(2^k-1)
 |0=>by rw[(mE ws 0).1,if_pos rfl];omega
 |k+1=>by
  have ih:=yG ws k
  have e:=(mE ws (k+1)).1
  rw[if_neg (VJ k),VK]at e
  have hp:=UY k
  rw[e,Us]
  generalize ws.length=N at *
  generalize(av ws k).length=R at *
  generalize 2^k=P at *
  have h2:P*R≤P*(2*(R/2))+P:=by
   have:R≤2*(R/2)+1:=by omega
   have:=V8 P this
   rw[V2,TZ]at this;exact this
  have e1:P*2*(2*N)=P*(2*N)+P*(2*N):=by rw[UU,Nat.two_mul,V2]
  have e2:P*2*(N+R/2)=P*(2*N)+P*(2*(R/2)):=by rw[UU,V2 2,V2]
  rw[e1,e2]
  omega
def vg:List UInt8→List Nat→List UInt8
 |o,[]=>o
 |o,i::r=>vg (o.set i (o.getD i mb+1)) r
theorem C7 (o:List UInt8)(a b:List Nat):vg o (a++b)=vg (vg o a) b:=by
 induction a generalizing o with
 |nil=>rfl
 |cons x a ih=>exact ih _
theorem vh:∀(o:List UInt8) (l:List Nat),(vg o l).length=o.length
 |_,[]=>rfl
 |o,i::r=>by rw[vg,vh,VG]
def db (o:List UInt8)(S:List Nat)(j:Nat):List UInt8:=lk o (vg o (S.take j))
theorem nN (o:List UInt8)(S:List Nat)(j:Nat):db o S j=vg o (S.take j):=aw _ _
theorem wP (o:List UInt8)(S:List Nat):db o S 0=o:=nN o S 0
theorem dD (o:List UInt8)(S:List Nat)(j:Nat):(db o S j).length=o.length:=by rw[nN,vh]
theorem wQ {o:List UInt8}{S:List Nat}{j:Nat}(h:j<S.length):db o S (j+1)=(db o S j).set (S.getD j mb) ((db o S j).getD (S.getD j mb) mb+1):=by
 rw[nN,nN,T8 h,C7,To (l:=S),Ts h];rfl
def lnF (ws S:List Nat):Nat→Nat→List UInt8→List UInt8
 |0,_,o=>o
 |k+1,n,o=>lnF ws S k (2*dS (av ws k) n) (db o S (n-dS (av ws k) n))
structure LnI (ws:List Nat)(k n:Nat):Prop where
 a:k≠0→n≤(av ws (k-1)).length
theorem LnI.next {ws:List Nat}{k n:Nat}(h:LnI ws (k+1) n):n≤(av ws k).length∧dS (av ws k) n≤n∧n-dS (av ws k) n≤ws.length∧LnI ws k (2*dS (av ws k) n):=by
 have hn:=h.a (VJ k)
 rw[VK]at hn
 have hc:=mE ws k
 have h1:=yF (av ws k) n
 refine⟨hn,C4 _ _,?_,⟨fun hk=>?_⟩⟩
 ·have e:n=((av ws k).take n).length:=by rw[TR];omega
  have e2:((av ws k).take n).length=(((av ws k).take n).filter (·.p)).length+(((av ws k).take n).filter (fun x=>!x.p)).length:=by
   exact sM _
  have e3:(((av ws k).take n).filter (fun x=>!x.p)).length≤ws.length:=by
   rw[←hc.2.2];exact((Yt n _).filter _).length_le
  rw[kG];omega
 ·rw[hc.2.1,if_neg hk]at h1;omega
theorem LnI.first {ws:List Nat}{m:Nat}(hm:1≤m)(h:ws.length≤2^m)(h2:2≤ws.length):LnI ws m (2*ws.length-2):=⟨fun _=>by
 have g:=yG ws (m-1)
 have hp:=UY (m-1)
 have e:2^m=2*2^(m-1):=by rw[show m=(m-1)+1 from by omega,Us,Ve];rfl
 generalize(av ws (m-1)).length=R at *
 generalize ws.length=N at *
 generalize 2^(m-1)=P at *
 rcases T5 R (2*N-2)with q|q
 ·have h3:P*R+3*P≤P*(2*N):=by
   have:R+3≤2*N:=by omega
   have:=V8 P this
   rw[V2,Ve P 3]at this;exact this
  omega
 ·exact q⟩
end Vp
end Go.Proofs.Ytefjnofhgkjpmaa

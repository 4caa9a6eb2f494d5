/- Part 4. -/
import Derived.Test.YtefjnofhgkjpmaaGreatTm3
import Derived.Test.YtefjnofhgkjpmaaGreatTm2
set_option linter.unusedVariables false
set_option linter.unusedSimpArgs false
set_option maxRecDepth 100000
set_option maxHeartbeats 4000000
open And renaming intro → VR
open Bool renaming and_true → VV, true_and → VM
open ByteArray renaming mk → WU, toList → V9
open Go.Fn renaming func → VU
open Go.IntKind renaming i64 → VN, wrap → Vo
open Go.LoopState renaming busy → X8, ready → WE
open Go.Vx.Blk renaming mk → U1
open Go.Vx.CallOk renaming fn → VC
open Go.Vx.CutS renaming mk → Vn
open Go.Vx.D renaming agg → Wp, fn → WJ, ptr → Vh, ref → U6, sl → Vl, tup → V2
open Inhabited renaming default → mq
open Int renaming eq_ofNat_of_zero_le → V5, toNat → AB, toNat_natCast → Wx, toNat_of_nonneg → WS
open List renaming append_assoc → Ve, append_nil → VS, cons_append → XE, count_append → aag, count_singleton → Zy, drop → VW, drop_eq_getElem_cons → Wi, drop_eq_nil_of_le → Wv, eq_nil_of_length_eq_zero → VQ, eq_replicate_iff → XY, ext_getElem? → Wb, filter_append → Wy, filter_cons_of_neg → Xc, filter_cons_of_pos → Xb, flatMap_append → WL, flatMap_cons → Wf, flatMap_singleton → Xx, getD_eq_getElem?_getD → UZ, getElem?_append_left → Vz, getElem?_append_right → Vs, getElem?_drop → Wr, getElem?_eq_getElem → U4, getElem?_eq_none → VF, getElem?_map → Vu, getElem?_range → Wu, getElem?_replicate → Wz, getElem?_set → WN, getElem?_take → V0, getElem_mem → V3, length_append → U2, length_cons → VE, length_drop → VH, length_filter_le → XX, length_map → Vj, length_range → WH, length_replicate → VJ, length_set → Xu, length_singleton → VP, length_take → Vg, length_take_of_le → Wg, map_append → V4, map_replicate → W7, mem_cons_of_mem → Vy, mem_cons_self → Vr, mem_filter → Yi, not_mem_nil → XG, range → Wa, range_succ → XU, replicate → Vk, take → VX, take_of_length_le → VB, take_sublist → aaf, take_succ_eq_append_getElem → VT, toArray → Xy
open List.Perm renaming refl → XH
open Nat renaming add_assoc → Wh, add_sub_cancel → Xj, add_zero → Xe, beq → U5, beq_refl → Wo, ble → U7, ble_eq_true_of_le → U8, le_refl → Vd, le_trans → Vq, lt_irrefl → XA, lt_or_ge → VL, mul_add → XD, mul_assoc → WA, mul_comm → WR, mul_le_mul_left → XM, mul_le_mul_right → V7, mul_one → VG, not_lt_zero → Ws, pow_add → Y1, pow_le_pow_right → VD, pow_succ → V8, sub_self → Wn, sub_zero → Ya, succ_le_succ → Xa, succ_ne_zero → Xi, two_pow_pos → WD, zero_add → VK, zero_le → VI
open Prod renaming fst → Va, snd → U0
open UInt8 renaming ofNat → V6, toNat → U3
namespace Go.Proofs.YtefjnofhgkjpmaaGreat
open Go.RowKit Go.Bw Go.Vx
open List (length getD map take drop flatMap replicate)
namespace Vp
theorem CY {p:Prop}(h:p:=by(refine aR ?_;(omega))):p:=h
def Br (W:List Nat)(n:Nat):Nat->Nat->List Nat->List Nat
 |0,a,Y=>inQ W Y a (n-(a+1))
 |f+1,a,Y=>if a+20<=n then Br W n f (a+20) (inQ W Y a 19)else inQ W Y a (n-(a+1))
theorem S8 {W:List Nat}{n f a:Nat}{Y T:List Nat}(hR:Br W n f a Y=T)(hf:n-a<=f)(h:a+20<=n):Br W n (f-1) (a+20) (inQ W Y a (a+20-(a+1)))=T:=by
 obtain⟨g,rfl⟩:∃g,f=g+1:=⟨f-1,by omega⟩
 rw[<-hR,show a+20-(a+1)=19 from by omega];exact(ZF h).symm
theorem S9 {W:List Nat}{n f a:Nat}{Y T:List Nat}(hR:Br W n f a Y=T)(h:¬a+20<=n):inQ W Y a (n-(a+1))=T:=by
 rw[<-hR];cases f with
 |zero=>rfl
 |succ f=>exact(ZE h).symm
def sU (W:List Nat)(z n:Nat):Nat->Nat->List Nat->List Nat
 |0,a,Y=>if a+z<n then ny W (2*z) Y a (a+z) n else Y
 |f+1,a,Y=>if a+2*z<=n then sU W z n f (a+2*z) (ny W (2*z) Y a (a+z) (a+2*z))else if a+z<n then ny W (2*z) Y a (a+z) n else Y
theorem Ta {W:List Nat}{z n f a:Nat}{Y T:List Nat}(hR:sU W z n f a Y=T)(hf:n-a<=f)(hz:0<z)(h:a+2*z<=n):sU W z n (f-1) (a+2*z) (ny W (2*z) Y a (a+z) (a+2*z))=T:=by
 obtain⟨g,rfl⟩:∃g,f=g+1:=⟨f-1,by omega⟩
 rw[<-hR];exact(ZF h).symm
theorem Tb {W:List Nat}{z n f a:Nat}{Y T:List Nat}(hR:sU W z n f a Y=T)(h:¬a+2*z<=n):(if a+z<n then ny W (2*z) Y a (a+z) n else Y)=T:=by
 rw[<-hR];cases f with
 |zero=>rfl
 |succ f=>exact(ZE h).symm
def Bs (W:List Nat)(n:Nat):Nat->Nat->List Nat->List Nat
 |0,_,Y=>Y
 |f+1,z,Y=>if z<n then Bs W n f (2*z) (sU W z n n 0 Y)else Y
theorem PH {W:List Nat}{z n f:Nat}{Y T:List Nat}(hR:Bs W n f z Y=T)(hf:n-z<=f)(h:z<n):Bs W n (f-1) (2*z) (sU W z n n 0 Y)=T:=by
 obtain⟨g,rfl⟩:∃g,f=g+1:=⟨f-1,by omega⟩
 rw[<-hR];exact(ZF h).symm
theorem Tc {W:List Nat}{z n f:Nat}{Y T:List Nat}(hR:Bs W n f z Y=T)(h:¬z<n):Y=T:=by
 rw[<-hR];cases f with
 |zero=>rfl
 |succ f=>exact(ZE h).symm
def Td (W X:List Nat):List Nat:=Bs W X.length X.length 20 (Br W X.length X.length 0 X)
theorem pp {W:List Nat}{n:Nat}:∀(f a:Nat) (Y:List Nat),n=Y.length->a<=n->(Br W n f a Y).Perm Y
 |0,a,Y,hn,ha=>jI _ om
 |f+1,a,Y,hn,ha=>by
  rw[Br];split
  ·have q:(inQ W Y a 19).Perm Y:=jI _ om
   exact(pp f _ _ (by rw[q.length_eq];exact hn) om).trans q
  ·exact jI _ om
theorem lN {W:List Nat}{z n:Nat}(hz:0<z):∀(f a:Nat) (Y:List Nat),n=Y.length->(sU W z n f a Y).Perm Y
 |0,a,Y,hn=>by
  rw[sU];split
  ·exact gl _ _ _ _ _ om om om
  ·exact XH _
 |f+1,a,Y,hn=>by
  rw[sU];split
  ·have q:(ny W (2*z) Y a (a+z) (a+2*z)).Perm Y:=gl _ _ _ _ _ om om om
   exact(lN hz f _ _ (by rw[q.length_eq];exact hn)).trans q
  ·split
   ·exact gl _ _ _ _ _ om om om
   ·exact XH _
theorem vi {W:List Nat}{n:Nat}:∀(f z:Nat) (Y:List Nat),0<z->n=Y.length->(Bs W n f z Y).Perm Y
 |0,z,Y,hz,hn=>XH _
 |f+1,z,Y,hz,hn=>by
  rw[Bs];split
  ·have q:=lN (W:=W) hz n 0 Y hn
   exact(vi f _ _ om (by rw[q.length_eq];exact hn)).trans q
  ·exact XH _
theorem CZ (W X:List Nat):(Td W X).Perm X:=by
 have q:=pp (W:=W) X.length 0 X rfl (VI _);exact(vi _ _ _ (by decide) q.length_eq.symm).trans q
structure Ord (L N:Nat)(Y:List Nat):Prop where
 n:N=Y.length
 a:bL L Y
theorem Ord.perm {L N:Nat}{X Y:List Nat}(h:Ord L N X)(q:Y.Perm X):Ord L N Y:=⟨by rw[q.length_eq];exact h.n,h.a.perm q⟩
theorem Ord.in {L N:Nat}{W Y:List Nat}{a b:Nat}(h:Ord L N Y)(hb:b<=N):Ord L N (inQ W Y a (b-(a+1))):=h.perm (jI _ (by have:=h.n;omega))
theorem Ord.sm {L N:Nat}{W Y:List Nat}{f a m b:Nat}(h:Ord L N Y)(h1:a<m)(h2:m<b)(hb:b<=N):Ord L N (ny W f Y a m b):=h.perm (gl _ _ _ _ _ h1 h2 (by have:=h.n;omega))
theorem I5 (Y:List Nat)(N:Nat)(hN2:N<=1000)(W:List Nat)(L:Nat)(hL:L=W.length)(hO:Ord L N Y)(a b:Nat)(h1:a<=b)(h3:b<=N):S1 196 [.ref 0 0 0 N 1,nD a,nD b,.fn (.func 175) [] [.ptr 1 1 0]] [⟨Y.map nD, 3,true⟩,⟨[.sl false L 1 (W.map nD)], 152,false⟩] (.tup []) [⟨(inQ W Y a (b-(a+1))).map nD, 3,true⟩,⟨[.sl false L 1 (W.map nD)], 152,false⟩]:=PC Y N hO.n hN2 W L hL hO.a a b h1 h3 _ rfl
theorem PI (Y:List Nat)(N:Nat)(hN2:N<=1000)(W:List Nat)(L:Nat)(hL:L=W.length)(hO:Ord L N Y)(z a:Nat)(hz:0<z)(h3:a+2*z<=N):S1 197 [.ref 0 0 0 N 1,nD a,iD ((a:Int)+z),nD (a+2*z),.fn (.func 175) [] [.ptr 1 1 0]] [⟨Y.map nD, 3,true⟩,⟨[.sl false L 1 (W.map nD)], 152,false⟩] (.tup []) [⟨(ny W (2*z) Y a (a+z) (a+2*z)).map nD, 3,true⟩,⟨[.sl false L 1 (W.map nD)], 152,false⟩]:=
 yW W L hL N hN2 (2*z) Y hO.n hO.a a (a+z) (a+2*z) om om h3 om
theorem PJ (Y:List Nat)(N:Nat)(hN2:N<=1000)(W:List Nat)(L:Nat)(hL:L=W.length)(hO:Ord L N Y)(z a:Nat)(hz:0<z)(h:a+z<N)(h3:N<a+2*z):S1 197 [.ref 0 0 0 N 1,nD a,iD ((a:Int)+z),nD N,.fn (.func 175) [] [.ptr 1 1 0]] [⟨Y.map nD, 3,true⟩,⟨[.sl false L 1 (W.map nD)], 152,false⟩] (.tup []) [⟨(ny W (2*z) Y a (a+z) N).map nD, 3,true⟩,⟨[.sl false L 1 (W.map nD)], 152,false⟩]:=
 yW W L hL N hN2 (2*z) Y hO.n hO.a a (a+z) N om h (Vd _) om
theorem PK (X:List Nat)(N:Nat)(hN2:N<=1000)(W:List Nat)(L:Nat)(hL:L=W.length)(hO:Ord L N X)(T1 T:List Nat)(hT1:Br W N N 0 X=T1)(hO1:Ord L N T1)(hT:Bs W N N 20 T1=T):S1 190 [.ref 0 0 0 N 1,nD N,.fn (.func 175) [] [.ptr 1 1 0]] [⟨X.map nD, 3,true⟩,⟨[.sl false L 1 (W.map nD)], 152,false⟩] (.tup []) [⟨T.map nD, 3,true⟩,⟨[.sl false L 1 (W.map nD)], 152,false⟩]:=by
 refine SpecH.run T_ok ah Tryz.func190 rfl rfl rfl ⟨eW _,rfl,trivial⟩ rfl 1000 64 (λ R ok=>(.s 4 (Hn.inl T_ok ah false 63 2 (aq Tryz.prog 190 0) (λ(x:(a:Nat)×'(Y:List Nat)×'(f:Nat)×'(ha:a<=N)×'(hQ:Ord L N Y)×'(hf:N-a<=f)×'(hR:Br W N f a Y=T1)×'Unit)=>match x with|⟨a,Y,f,ha,hQ,hf,hR,_⟩=>Vn [(0,U6 0 0 0 N 1),(1,zN N),(2,WJ (VU 175) [] [Vh 1 1 0]),(6,zI 20),(7,nD a),(8,nD (a+20))] [⟨0,0,0,0,.b ⟨Y.map nD,3,true⟩⟩,⟨1,1,1,1,.b ⟨[Vl false L 1 (map nD W)],152,false⟩⟩] 24) (λ(x:(a:Nat)×'(Y:List Nat)×'(f:Nat)×'(ha:a<=N)×'(hQ:Ord L N Y)×'(hf:N-a<=f)×'(hR:Br W N f a Y=T1)×'Unit)=>match x with|⟨a,Y,f,ha,hQ,hf,hR,_⟩=>N-a) [⟨(a2:Nat)×'(Y2:List Nat)×'(ha2:a2<=N)×'(hQ2:Ord L N Y2)×'(hR2:inQ W Y2 a2 (N-(a2+1))=T1)×'Unit,.exit 0,λ x=>match x with|⟨a2,Y2,ha2,hQ2,hR2,_⟩=>Vn [(0,U6 0 0 0 N 1),(1,zN N),(2,WJ (VU 175) [] [Vh 1 1 0]),(6,zI 20),(7,nD a2),(8,nD (a2+20))] [⟨0,0,0,0,.b ⟨Y2.map nD,3,true⟩⟩,⟨1,1,1,1,.b ⟨[Vl false L 1 (map nD W)],152,false⟩⟩] 24⟩] 1000 64 (fun|⟨a,Y,f,ha,hQ,hf,hR,_⟩,Q,ZA,ZD=>(.s 4 (.bd ((↑(a+20):Int)<=(N:Int)) (λ p0 Z7=>(.s 5 (.call 196 true [0,1] (true) wr ([U6 0 0 0 N 1,zN a,zN (a+20),WJ (VU 175) [] [Vh 1 1 0]]) _ (cQ.refl _) (ab (map nD Y)&&true) (by(simp;done)) _ _ _ (VC (az.of Tryz.func196 rfl rfl) (@I5 (Y) (N) om (W) (L) om om (a) (a+20) om om)) (.s 6 (.ow ((↑(a+20):Int)+20) (.s 1 (.val 8 (zI ((↑(a+20):Int)+20)) (zN (a+20+20)) CY (Hn.next ZA ⟨(a+20),(inQ W Y a (a+20-(a+1))),(f-1),om,(by(exact hQ.in (by(omega)))),om,(by(exact S8 hR om om)),⟨⟩⟩ (by show N-(a+20)<N-a;clear ZA ZD;omega) [(0,0),(1,1)] ro)))))))) (λ p0 Z7=>(Hn.last ZD 0 (⟨(a),(Y),om,om,(by(exact S9 hR om)),⟨⟩⟩:(a2:Nat)×'(Y2:List Nat)×'(ha2:a2<=N)×'(hQ2:Ord L N Y2)×'(hR2:inQ W Y2 a2 (N-(a2+1))=T1)×'Unit) rfl [(0,0),(1,1)] ro))))) (fun|⟨a,Y,f,ha,hQ,hf,hR,_⟩=>by kernel_rfl) ⟨(0),(X),(N),om,om,om,om,⟨⟩⟩ [(0,0),(1,1)] ro (ck (fun|⟨a2,Y2,ha2,hQ2,hR2,_⟩=>(.s 5 (.call 196 true [0,1] (true) wr ([U6 0 0 0 N 1,zN a2,zN N,WJ (VU 175) [] [Vh 1 1 0]]) _ (cQ.refl _) (ab (map nD Y2)&&true) (by(simp;done)) _ _ _ (VC (az.of Tryz.func196 rfl rfl) (@I5 (Y2) (N) om (W) (L) om om (a2) (N) om om)) (.blk 0 0 (U1 (map nD (inQ W Y2 a2 (N-(a2+1)))) 3 true) (U1 (map nD T1) 3 true) (by(rw[hR2])) (Hn.inl T_ok ah false 63 2 (aq Tryz.prog 190 1) (λ(x:(z:Nat)×'(Z:List Nat)×'(f:Nat)×'(hz:20<=z∧z<=2000)×'(hQ:Ord L N Z)×'(hf:N-z<=f)×'(hR:Bs W N f z Z=T)×'Unit)=>match x with|⟨z,Z,f,hz,hQ,hf,hR,_⟩=>Vn [(0,U6 0 0 0 N 1),(1,zN N),(2,WJ (VU 175) [] [Vh 1 1 0]),(6,nD z)] [⟨0,0,0,0,.b ⟨Z.map nD,3,true⟩⟩,⟨1,1,1,1,.b ⟨[Vl false L 1 (map nD W)],152,false⟩⟩] 24) (λ(x:(z:Nat)×'(Z:List Nat)×'(f:Nat)×'(hz:20<=z∧z<=2000)×'(hQ:Ord L N Z)×'(hf:N-z<=f)×'(hR:Bs W N f z Z=T)×'Unit)=>match x with|⟨z,Z,f,hz,hQ,hf,hR,_⟩=>N-z) [⟨Unit,.exit 2,λ x=>match x with|()=>Vn [(0,U6 0 0 0 N 1),(1,zN N),(2,WJ (VU 175) [] [Vh 1 1 0])] [⟨0,0,0,0,.b ⟨T.map nD,3,true⟩⟩,⟨1,1,1,1,.b ⟨[Vl false L 1 (map nD W)],152,false⟩⟩] 24⟩] 1000 64 (fun|⟨z,Z,f,hz,hQ,hf,hR,_⟩,Q,ZA,ZD=>(.s 4 (.bd ((z:Int)<N) (λ p1 Z6=>(.s 3 (.ow (2*(z:Int)) (.s 2 (.val 8 (zI (2*(z:Int))) (zN (0+2*z)) CY (Hn.inl T_ok ah false 63 2 (aq Tryz.prog 190 2) (λ(x:(a:Nat)×'(Y:List Nat)×'(g:Nat)×'(ha:a<=N)×'(hQ:Ord L N Y)×'(hf:N-a<=g)×'(hR:sU W z N g a Y=sU W z N N 0 Z)×'Unit)=>match x with|⟨a,Y,g,ha,hQ,hf,hR,_⟩=>Vn [(0,U6 0 0 0 N 1),(1,zN N),(2,WJ (VU 175) [] [Vh 1 1 0]),(6,zN z),(7,nD a),(8,nD (a+2*z))] [⟨0,0,0,0,.b ⟨Y.map nD,3,true⟩⟩,⟨1,1,1,1,.b ⟨[Vl false L 1 (map nD W)],152,false⟩⟩] 24) (λ(x:(a:Nat)×'(Y:List Nat)×'(g:Nat)×'(ha:a<=N)×'(hQ:Ord L N Y)×'(hf:N-a<=g)×'(hR:sU W z N g a Y=sU W z N N 0 Z)×'Unit)=>match x with|⟨a,Y,g,ha,hQ,hf,hR,_⟩=>N-a) [⟨(a3:Nat)×'(Y3:List Nat)×'(ha3:a3<=N∧N<a3+2*z)×'(hQ3:Ord L N Y3)×'(hR3:(if a3+z<N then ny W (2*z) Y3 a3 (a3+z) N else Y3)=sU W z N N 0 Z)×'Unit,.exit 4,λ x=>match x with|⟨a3,Y3,ha3,hQ3,hR3,_⟩=>Vn [(0,U6 0 0 0 N 1),(1,zN N),(2,WJ (VU 175) [] [Vh 1 1 0]),(6,zN z),(7,nD a3),(8,nD (a3+2*z))] [⟨0,0,0,0,.b ⟨Y3.map nD,3,true⟩⟩,⟨1,1,1,1,.b ⟨[Vl false L 1 (map nD W)],152,false⟩⟩] 24⟩] 1000 64 (fun|⟨a,Y,g,ha,hQ,hf,hR,_⟩,Q,Z9,ZC=>(.s 4 (.bd ((↑(a+2*z):Int)<=(N:Int)) (λ p2 Z5=>(.s 6 (.ow (a+z) (.s 3 (.call 197 true [0,1] (true) wr ([U6 0 0 0 N 1,zN a,zI (a+z),zN (a+2*z),WJ (VU 175) [] [Vh 1 1 0]]) _ (cQ.refl _) (ab (map nD Y)&&true) (by(simp;done)) _ _ _ (VC (az.of Tryz.func197 rfl rfl) (@PI (Y) (N) om (W) (L) om om (z) (a) om om)) (.s 6 (.ow (2*(z:Int)) (.s 2 (.ow ((↑(a+2*z):Int)+2*(z:Int)) (.s 1 (.val 8 (zI ((↑(a+2*z):Int)+2*(z:Int))) (zN (a+2*z+2*z)) CY (Hn.next Z9 ⟨(a+2*z),(ny W (2*z) Y a (a+z) (a+2*z)),(g-1),om,(by(exact hQ.sm (by(omega)) (by(omega)) (by(omega)))),om,(by(exact Ta hR om om om)),⟨⟩⟩ (by show N-(a+2*z)<N-a;clear Z9 ZC ZA ZD;omega) [(0,0),(1,1)] ro)))))))))))) (λ p2 Z5=>(Hn.last ZC 0 (⟨(a),(Y),om,om,(by(exact Tb hR om)),⟨⟩⟩:(a3:Nat)×'(Y3:List Nat)×'(ha3:a3<=N∧N<a3+2*z)×'(hQ3:Ord L N Y3)×'(hR3:(if a3+z<N then ny W (2*z) Y3 a3 (a3+z) N else Y3)=sU W z N N 0 Z)×'Unit) rfl [(0,0),(1,1)] ro))))) (fun|⟨a,Y,g,ha,hQ,hf,hR,_⟩=>by kernel_rfl) ⟨(0),(Z),(N),om,om,om,wr,⟨⟩⟩ [(0,0),(1,1)] ro (ck (fun|⟨a3,Y3,ha3,hQ3,hR3,_⟩=>(.s 4 (.ow (a3+z) (.s 5 (.bd ((a3:Int)+z<N) (λ p3 Z4=>(.s 6 (.call 197 true [0,1] (true) wr ([U6 0 0 0 N 1,zN a3,zI (a3+z),zN N,WJ (VU 175) [] [Vh 1 1 0]]) _ (cQ.refl _) (ab (map nD Y3)&&true) (by(simp;done)) _ _ _ (VC (az.of Tryz.func197 rfl rfl) (@PJ (Y3) (N) om (W) (L) om om (z) (a3) om om om)) (.s 3 (.ow (z*2) (.s 1 (.val 6 (zI (z*2)) (zN (2*z)) CY (.blk 0 0 (U1 (map nD (ny W (2*z) Y3 a3 (a3+z) N)) 3 true) (U1 (map nD (sU W z N N 0 Z)) 3 true) (by(rw[ZF om]at hR3;rw[hR3])) (Hn.next ZA ⟨(2*z),(sU W z N N 0 Z),(f-1),om,(by(exact hQ.perm (lN om _ _ _ hQ.n))),om,(by(exact PH hR om om)),⟨⟩⟩ (by show N-2*z<N-z;clear ZA ZD;omega) [(0,0),(1,1)] ro))))))))) (λ p3 Z4=>(.s 3 (.ow (z*2) (.s 1 (.val 6 (zI (z*2)) (zN (2*z)) CY (.blk 0 0 (U1 (map nD Y3) 3 true) (U1 (map nD (sU W z N N 0 Z)) 3 true) (by(rw[ZE om]at hR3;rw[hR3])) (Hn.next ZA ⟨(2*z),(sU W z N N 0 Z),(f-1),om,(by(exact hQ.perm (lN om _ _ _ hQ.n))),om,(by(exact PH hR om om)),⟨⟩⟩ (by show N-2*z<N-z;clear ZA ZD;omega) [(0,0),(1,1)] ro))))))))))))))))))) (λ p1 Z6=>(.blk 0 0 (U1 (map nD Z) 3 true) (U1 (map nD T) 3 true) (by(rw[Tc hR om])) (Hn.last ZD 0 (():Unit) rfl [(0,0),(1,1)] ro)))))) (fun|⟨z,Z,f,hz,hQ,hf,hR,_⟩=>by kernel_rfl) ⟨(20),(T1),(N),om,om,om,om,⟨⟩⟩ [(0,0),(1,1)] ro (ck (fun|()=>(.out [0,1] [0,1] (V2 []) [U1 (map nD T) 3 true,U1 [Vl false L 1 (map nD W)] 152 false] R (ok _ _ wr wr))))))))))))) kr
theorem wX {p:Prop}(h:p:=by((refine aI ?_ ?_)<;>(repeat' (first|(refine aI ?_ ?_)|(with_reducible rfl)|(refine decide_eq_true ?_)|(refine U8 ?_)|(refine fw ?_)))<;>(omega))):p:=h
theorem C2 {p:Prop}(h:p:=by(simp only[ba (k:=2) (λ(x:Pc)=>(rfl:(dF x).length=2)),Wo,VM,VV];refine U8 ?_;(omega))):p:=h
theorem C3 {p:Prop}(h:p:=by(rw[U2];rfl)):p:=h
theorem C4 {p:Prop}(h:p:=by(rw[U2];simp only[VP];(omega))):p:=h
theorem F9 {p:Prop}(h:p:=by(refine decide_eq_false ?_;(omega))):p:=h
theorem Ga {p:Prop}(h:p:=by(refine aR ?_;(omega))):p:=h
theorem Gb {p:Prop}(h:p:=by(have q:=@Ts row i;refine aR ?_;omega)):p:=h
def gw (W:List Nat)(k:Nat):List Nat:=lk W ((Wa k).filter λ i=>decide (0<W.getD i mq))
theorem gU (W:List Nat)(k:Nat):gw W k=(Wa k).filter λ i=>decide (0<W.getD i mq):=au _ _
theorem I6 (W:List Nat):gw W 0=[]:=gU W 0
theorem I7 {W:List Nat}{k:Nat}(h:0<W.getD (k*1) mq):gw W (k+1)=gw W k++[k]:=by
 rw[VG]at h;rw[gU,gU,XU,Wy,Xb (by simpa using h)];rfl
theorem I8 {W:List Nat}{k:Nat}(h:¬0<W.getD (k*1) mq):gw W (k+1)=gw W k:=by
 rw[VG]at h;rw[gU,gU,XU,Wy,Xc (by simpa using h),List.filter_nil,VS]
theorem kT (W:List Nat)(k:Nat):(gw W k).length<=k:=by
 rw[gU];exact Vq (XX _ _) (by simp)
theorem sV {W:List Nat}{k:Nat}:bL k (gw W k):=λ x hx=>by
 rw[gU,Yi]at hx;exact List.mem_range.1 hx.1
def gJ (W:List Nat):List Nat:=lk W (Td W (gw W W.length))
theorem C5 (W:List Nat):gJ W=Td W (gw W W.length):=au _ _
theorem fB (W:List Nat):(gJ W).Perm (gw W W.length):=by rw[C5];exact CZ _ _
structure SrE (W:List Nat)(L N:Nat)(X T1 T:List Nat):Prop where
 o:Ord L N X
 t1:Br W N N 0 X=T1
 o1:Ord L N T1
 t:Bs W N N 20 T1=T
theorem Lx {W:List Nat}{L N:Nat}(hL:L=W.length){X:List Nat}(hX:X=gw W L)(hN:N=X.length):∃T1,SrE W L N X T1 (gJ W):=by
 subst hX hN hL;have o:Ord W.length (gw W W.length).length (gw W W.length):=⟨rfl,sV⟩
 exact⟨_,o,rfl,o.perm (pp _ _ _ rfl (VI _)),by rw[C5];rfl⟩
theorem Te {m:Nat}(h:m<=15):IntKind.i64.wrap (2^min m 64*1)=((2^m:Nat):Int):=by
 have h2:2^m<=2^15:=VD (by decide) h;rw[show min m 64=m from by omega,Int.mul_one,show(2:Int)^m=((2^m:Nat):Int)from by push_cast;rfl];generalize 2^m=Z at *;have q:=ff (x:=((Z:Nat):Int)) om;rw[aL]at q;injection q with q;injection q with q;injection q
structure Pc where
 w:Nat
 p:Bool
 deriving Inhabited
abbrev dF (x:Pc):List D:=[nD x.w,bD x.p]
def jb (ws:List Nat):List Pc:=ws.map λ w=>⟨w,false⟩
def fW (s:Nat):List Nat->List Pc×List Nat
 |[]=>([⟨s,true⟩],[])
 |w::r=>if s<w then([⟨s,true⟩],w::r)else(⟨w,false⟩::(fW s r).1,(fW s r).2)
def gx:List Pc->List Nat->List Pc
 |x::y::r,ws=>(fW (x.w+y.w) ws).1++gx r (fW (x.w+y.w) ws).2
 |_,ws=>jb ws
def Ly (row:List Pc)(ws:List Nat):List Pc:=lk ws (gx row ws)
theorem iZ (row:List Pc)(ws:List Nat):Ly row ws=gx row ws:=au _ _
theorem Tf {row:List Pc}{ws:List Nat}{i:Nat}(h:i+1<row.length):gx (row.drop i) ws=(fW ((row.getD i mq).w+(row.getD (i+1) mq).w) ws).1++gx (row.drop (i+2)) (fW ((row.getD i mq).w+(row.getD (i+1) mq).w) ws).2:=by
 rw[Wi (show i<row.length by omega),Wi h,gx];have e1:row[i]=row.getD i mq:=by rw[UZ,U4 om];rfl
 have e2:row[i+1]=row.getD (i+1) mq:=by rw[UZ,U4 h];rfl
 rw[e1,e2]
theorem Tg {row:List Pc}{ws:List Nat}{i:Nat}(h:¬i+1<row.length):gx (row.drop i) ws=jb ws:=by
 have:(row.drop i).length<=1:=by rw[VH];omega
 match hm:row.drop i,this with
 |[],_=>rfl
 |[x],_=>rfl
theorem Th {s:Nat}{ws:List Nat}{k:Nat}(hk:k<ws.length)(h:s<ws.getD k mq):fW s (ws.drop k)=([⟨s,true⟩],ws.drop k):=by
 have e1:ws[k]=ws.getD k mq:=by rw[UZ,U4 hk];rfl
 rw[Wi hk,fW,ZF (by rw[e1];exact h)]
theorem Ti {s:Nat}{ws:List Nat}{k:Nat}(hk:k<ws.length)(h:¬s<ws.getD k mq):fW s (ws.drop k)=(⟨ws.getD k mq,false⟩::(fW s (ws.drop (k+1))).1,(fW s (ws.drop (k+1))).2):=by
 have e1:ws[k]=ws.getD k mq:=by rw[UZ,U4 hk];rfl
 conv=>lhs;rw[Wi hk,fW,ZE (by rw[e1];exact h),e1]
theorem Tj {s:Nat}{ws:List Nat}{k:Nat}(hk:¬k<ws.length):fW s (ws.drop k)=([⟨s,true⟩],[]):=by
 rw[Wv om];rfl
section
variable {row o T:List Pc} {ws:List Nat} {i k s x:Nat}
theorem Tk (h:i+1<row.length)(hR:o++gx (row.drop i) (ws.drop k)=T):o++((fW ((row.getD i mq).w+(row.getD (i+1) mq).w) (ws.drop k)).1++gx (row.drop (i+2)) (fW ((row.getD i mq).w+(row.getD (i+1) mq).w) (ws.drop k)).2)=T:=by rw[<-hR,Tf h]
theorem Tm (hk:k<ws.length)(h:s<ws.getD k mq)(hR:o++((fW s (ws.drop k)).1++gx (row.drop (i+2)) (fW s (ws.drop k)).2)=T):(o++[⟨s,true⟩])++gx (row.drop (i+2)) (ws.drop k)=T:=by
 rw[<-hR,Th hk h,Ve]
theorem To (hk:k<ws.length)(h:¬s<ws.getD k mq)(hR:o++((fW s (ws.drop k)).1++gx (row.drop (i+2)) (fW s (ws.drop k)).2)=T):(o++[⟨ws.getD k mq,false⟩])++((fW s (ws.drop (k+1))).1++gx (row.drop (i+2)) (fW s (ws.drop (k+1))).2)=T:=by
 rw[<-hR,Ti hk h,Ve];rfl
theorem Tp (hk:¬k<ws.length)(hR:o++((fW s (ws.drop k)).1++gx (row.drop (i+2)) (fW s (ws.drop k)).2)=T):(o++[⟨s,true⟩])++gx (row.drop (i+2)) (ws.drop k)=T:=by
 rw[<-hR,Tj hk,show ws.drop k=[]from Wv om,Ve]
theorem Tq (h:¬i+1<row.length)(hR:o++gx (row.drop i) (ws.drop k)=T):o++jb (ws.drop k)=T:=by rw[<-hR,Tg h]
theorem PL (hk:k<ws.length)(hR:o++jb (ws.drop k)=T):(o++[⟨ws.getD k mq,false⟩])++jb (ws.drop (k+1))=T:=by
 have e1:ws[k]=ws.getD k mq:=by rw[UZ,U4 hk];rfl
 rw[<-hR,Wi hk,Ve,e1];rfl
theorem Gc (hk:¬k<ws.length)(hR:o++jb (ws.drop k)=T):o=T:=by
 rw[<-hR,Wv om];exact(VS _).symm
end
theorem Gd (W:List Nat)(L:Nat)(hL:L=W.length)(hL2:L<=320)(hB:∀t,W.getD t mq<=1073741824)(m:Nat)(hm:1<=m∧m<=15)(N:Nat)(hN:N=(gw W L).length)(X T1:List Nat)(hX:gw W L=X)(hS:SrE W L N X T1 (gJ W))(hNm:N<=2^m)(o:Ord L N X)(t1:Br W N N 0 X=T1)(o1:Ord L N T1)(t:Bs W N N 20 T1=gJ W):S0 144 [.sl false L 1 (W.map nD),nD m] [] (.tup [.ref 0 0 0 N 1,iD 0]) [⟨(gJ W).map nD, 3,true⟩]:=by
 have hP:=Te hm.2;have hN3:N<=320:=by rw[hN];exact Vq (kT W L) hL2
 refine SpecH.run T_ok ah Tryz.func144 rfl rfl rfl ⟨B2 _ (λ _=>rfl) _,trivial⟩ rfl 1000 64 (λ R ok=>(.s 9 (.f (decide ((m:Int)<1)) F9 (.s 4 (.f (decide (15<(m:Int))) F9 (.s 6 (.f (decide (320<(L:Int))) F9 (.s 5 (.nils 4 120 1 3 (.val 4 (U6 120 120 0 0 1) (U6 120 120 0 (length (gw W 0)) 1) (by(rw[I6];rfl)) (.blk 120 120 (U1 [] 3 true) (U1 (map nD (gw W 0)) 3 true) (by(rw[I6];rfl)) (Hn.inl T_ok ah false 46 0 (aq Tryz.prog 144 0) (λ(x:(k:Nat)×'(hk:k<=L)×'Unit)=>match x with|⟨k,hk,_⟩=>Vn [(1,zN m),(2,Vh 0 0 0),(4,(U6 8 8 (0) ((gw W k).length) 1)),(17,Vl false L 1 (map nD W)),(18,zN L),(19,nD k)] [⟨0,0,0,0,.b ⟨[Vl false L 1 (map nD W)],152,false⟩⟩,⟨8,8,120,120,.b ⟨(gw W k).map nD,3,true⟩⟩] 16) (λ(x:(k:Nat)×'(hk:k<=L)×'Unit)=>match x with|⟨k,hk,_⟩=>L-k) [⟨Unit,.exit 0,λ x=>match x with|()=>Vn [(1,zN m),(2,Vh 0 0 0),(4,(U6 8 8 (0) (N) 1)),(17,Vl false L 1 (map nD W)),(18,zN L)] [⟨0,0,0,0,.b ⟨[Vl false L 1 (map nD W)],152,false⟩⟩,⟨8,8,120,120,.b ⟨X.map nD,3,true⟩⟩] 16⟩] 1000 64 (fun|⟨k,hk,_⟩,Q,ZA,ZD=>(.s 2 (.bd ((k:Int)<L) (λ p0 Z7=>(.s 2 (.chk (true&&decide ((k:Int)<L)&&true) wX (.s 2 (.opt ((map nD W)[k*1]?) (nD (getD W (k*1) mq)) (av _ _ om) (.s 12 (.f (decide (1073741824<(↑(getD W (k*1) mq):Int))) (by(refine decide_eq_false ?_;have h9:=hB (k*1);have h8:=kT W k;omega)) (.s 3 (.bd (0<(↑(getD W (k*1) mq):Int)) (λ p1 Z6=>(.s 5 (.chk (true&&U5 (length (gw W k)*1) (length (map nD (gw W k)))&&true&&true&&true&&true&&U7 ((length (gw W k)+1)*8) 140737488355328) (by(simp;have h9:=hB (k*1);have h8:=kT W k;omega)) (.s 3 (.ow (k+1) (.s 1 (.val 4 (U6 152 152 0 (length (gw W k)+1) 1) (U6 152 152 0 (length (gw W (k+1))) 1) (by(rw[I7 (by(omega)),U2];rfl)) (.val 19 (zI (k+1)) (zN (k+1)) Ga (.blk 152 152 (U1 (map nD (gw W k)++[zN k]) 3 true) (U1 (map nD (gw W (k+1))) 3 true) (by(rw[I7 (by(omega)),V4];rfl)) (Hn.next ZA ⟨(k+1),om,⟨⟩⟩ (by show L-(k+1)<L-k;clear ZA ZD;omega) [(0,0),(152,152)] ro)))))))))) (λ p1 Z6=>(.s 2 (.ow (k+1) (.s 1 (.val 4 (U6 8 8 0 (length (gw W k)) 1) (U6 8 8 0 (length (gw W (k+1))) 1) (by(rw[I8 (by(omega))])) (.val 19 (zI (k+1)) (zN (k+1)) Ga (.blk 8 8 (U1 (map nD (gw W k)) 3 true) (U1 (map nD (gw W (k+1))) 3 true) (by(rw[I8 (by(omega))])) (Hn.next ZA ⟨(k+1),om,⟨⟩⟩ (by show L-(k+1)<L-k;clear ZA ZD;omega) [(0,0),(8,8)] ro))))))))))))))))) (λ p0 Z7=>(.val 4 (U6 8 8 0 (length (gw W k)) 1) (U6 8 8 0 N 1) (by(rw[show k=L from by omega,hX,o.n])) (.blk 8 8 (U1 (map nD (gw W k)) 3 true) (U1 (map nD X) 3 true) (by(rw[show k=L from by omega,hX])) (Hn.last ZD 0 (():Unit) rfl [(0,0),(8,8)] ro))))))) (fun|⟨k,hk,_⟩=>by kernel_rfl) ⟨(0),om,⟨⟩⟩ [(0,0),(120,120)] ro (ck (fun|()=>(.s 5 (.opt (ax .i64 (2^min m 64*1)) (zI (Vo VN (2^min m 64*1))) (aL _ _) (.s 2 (.f (decide (Vo VN (2^min m 64*1)<(N:Int))) F9 (.s 9 (.call 190 true [8,0] (true) wr ([U6 0 0 0 N 1,zN N,WJ (VU 175) [] [Vh 1 1 0]]) _ (cQ.refl _) (ab (map nD X)&&true) (by(simp;done)) _ _ _ (VC (az.of Tryz.func190 rfl rfl) (@PK (X) (N) om (W) (L) om om (T1) (gJ W) aF om aF)) (.s 3 (.out [8] [8] (V2 [U6 0 0 0 N 1,zI 0]) [U1 (map nD (gJ W)) 3 true] R (ok _ _ wr wr))))))))))))))))))))))) kr
theorem PM {o:List Pc}{x:Pc}:(o++[x]).flatMap dF=o.flatMap dF++[nD x.w,bD x.p]:=by rw[WL];rfl
theorem PN {row:List Pc}{B:Nat}(h:∀x∈row,x.w<=B){i:Nat}(hi:i<row.length):(row.getD i mq).w<=B:=by
 rw[UZ,U4 hi];exact h _ (V3 hi)
def sP (row:List Pc)(i:Nat):Nat:=lk row ((row.getD i mq).w+(row.getD (i+1) mq).w)
theorem C6 (ws:List Nat){k j:Nat}(h:k+j<ws.length):(VW (k*1) (ws.map nD))[j*1]? =some (nD (ws.getD (k+j) mq)):=by
 rw[VG,VG,Wr,Vu,UZ,U4 h];rfl
theorem I9 (row:List Pc)(i:Nat):sP row i=(row.getD i mq).w+(row.getD (i+1) mq).w:=au _ _
theorem Ts {row:List Pc}{i:Nat}:((sP row i:Nat):Int)=((row.getD i mq).w:Int)+((row.getD ((i:Int)+1).toNat mq).w:Int):=by rw[I9,show((i:Int)+1).toNat=i+1 from by omega];push_cast;rfl
section
variable {row o T:List Pc} {ws:List Nat} {i k:Nat}
theorem PO (h:i+1<row.length)(hR:o++gx (row.drop i) (ws.drop k)=T):o++((fW (sP row i) (ws.drop k)).1++gx (row.drop (i+2)) (fW (sP row i) (ws.drop k)).2)=T:=by rw[I9];exact Tk h hR
end
theorem PP (row:List Pc)(r:Nat)(hr:r=row.length)(hr2:r<=1000)(B:Nat)(hB2:B<=1000000000000000)(hB:∀x∈row,x.w<=B)(ws:List Nat)(n:Nat)(hn:n=ws.length)(hn2:n<=1000)(T:List Pc)(hT:Ly row ws=T):S0 145 [.sl false r 2 (row.flatMap dF),.sl false n 1 (ws.map nD)] [] (.ref 0 0 0 T.length 2) [⟨T.flatMap dF, 231,true⟩]:=by
 refine SpecH.run T_ok ah Tryz.func145 rfl rfl rfl ⟨gi (λ _=>rfl) _,trivial⟩ rfl 1000 64 (λ R ok=>(.s 3 (.nils 4 24 2 231 (Hn.inl T_ok ah false 74 0 (aq Tryz.prog 145 0) (λ(x:(i:Nat)×'(k:Nat)×'(o:List Pc)×'(hi:i<=r+1)×'(hk:k<=n)×'(ho:o.length<=i+k)×'(hR:o++gx (row.drop i) (ws.drop k)=T)×'Unit)=>match x with|⟨i,k,o,hi,hk,ho,hR,_⟩=>Vn [(0,Vl false r 2 (flatMap dF row)),(1,Vl false n 1 (map nD ws)),(4,(U6 0 0 (0) (o.length) 2)),(5,nD k),(6,nD i)] [⟨0,0,24,24,.b ⟨o.flatMap dF,231,true⟩⟩] 8) (λ(x:(i:Nat)×'(k:Nat)×'(o:List Pc)×'(hi:i<=r+1)×'(hk:k<=n)×'(ho:o.length<=i+k)×'(hR:o++gx (row.drop i) (ws.drop k)=T)×'Unit)=>match x with|⟨i,k,o,hi,hk,ho,hR,_⟩=>r+1-i) [⟨(k3:Nat)×'(o3:List Pc)×'(hk3:k3<=n)×'(ho3:o3.length<=3000)×'(hR3:o3++jb (ws.drop k3)=T)×'Unit,.exit 0,λ x=>match x with|⟨k3,o3,hk3,ho3,hR3,_⟩=>Vn [(0,Vl false r 2 (flatMap dF row)),(1,Vl false n 1 (map nD ws)),(4,(U6 0 0 (0) (o3.length) 2)),(5,nD k3)] [⟨0,0,24,24,.b ⟨o3.flatMap dF,231,true⟩⟩] 8⟩] 1000 64 (fun|⟨i,k,o,hi,hk,ho,hR,_⟩,Q,ZA,ZD=>(.s 3 (.ow (i+1) (.s 4 (.bd ((i:Int)+1<r) (λ p0 Z7=>(.s 4 (.chk (true&&decide ((i:Int)<r)&&true) wX (.s 5 (.opt ((flatMap dF row)[i*2+0]?) (zN (Pc.w (getD row i mq))) (HI (k:=2) (i:=i) (j:=0) (λ _=>rfl) om om rfl) (.s 4 (.ow (i+1) (.s 1 (.chk (true&&decide ((i:Int)+1<r)&&true) wX (.s 5 (.opt ((flatMap dF row)[AB ((i:Int)+1)*2+0]?) (zN (Pc.w (getD row (AB ((i:Int)+1)) mq))) (HI (k:=2) (i:=AB ((i:Int)+1)) (j:=0) (λ _=>rfl) om om rfl) (.s 2 (.op ((↑(Pc.w (getD row i mq)):Int)+(↑(Pc.w (getD row (AB ((i:Int)+1)) mq)):Int)) (by(have h9:=PN hB (i:=i) om;have h8:=PN hB (i:=((i:Int)+1).toNat) om;omega)) (.s 1 (.val 7 (zI ((↑(Pc.w (getD row i mq)):Int)+(↑(Pc.w (getD row (AB ((i:Int)+1)) mq)):Int))) (zN (sP row i)) Gb (Hn.inl T_ok ah false 74 0 (aq Tryz.prog 145 1) (λ(x:(k1:Nat)×'(o1:List Pc)×'(hk1:k1<=n)×'(ho1:o1.length<=i+k1)×'(hR1:o1++((fW (sP row i) (ws.drop k1)).1++gx (row.drop (i+2)) (fW (sP row i) (ws.drop k1)).2)=T)×'Unit)=>match x with|⟨k1,o1,hk1,ho1,hR1,_⟩=>Vn [(0,Vl false r 2 (flatMap dF row)),(1,Vl false n 1 (map nD ws)),(4,(U6 0 0 (0) (o1.length) 2)),(5,nD k1),(6,zN i),(7,nD (sP row i))] [⟨0,0,0,0,.b ⟨o1.flatMap dF,231,true⟩⟩] 8) (λ(x:(k1:Nat)×'(o1:List Pc)×'(hk1:k1<=n)×'(ho1:o1.length<=i+k1)×'(hR1:o1++((fW (sP row i) (ws.drop k1)).1++gx (row.drop (i+2)) (fW (sP row i) (ws.drop k1)).2)=T)×'Unit)=>match x with|⟨k1,o1,hk1,ho1,hR1,_⟩=>n-k1) [⟨(k2:Nat)×'(o2:List Pc)×'(hk2:k2<=n)×'(ho2:o2.length<=i+2+k2)×'(hR2:o2++gx (row.drop (i+2)) (ws.drop k2)=T)×'Unit,.exit 1,λ x=>match x with|⟨k2,o2,hk2,ho2,hR2,_⟩=>Vn [(0,Vl false r 2 (flatMap dF row)),(1,Vl false n 1 (map nD ws)),(4,(U6 0 0 (0) (o2.length) 2)),(5,nD k2),(6,zN i)] [⟨0,0,0,0,.b ⟨o2.flatMap dF,231,true⟩⟩] 8⟩,⟨(k4:Nat)×'(o4:List Pc)×'(hk4:k4<=n∧n<=k4)×'(ho4:o4.length<=i+k4)×'(hR4:o4++((fW (sP row i) (ws.drop k4)).1++gx (row.drop (i+2)) (fW (sP row i) (ws.drop k4)).2)=T)×'Unit,.exit 2,λ x=>match x with|⟨k4,o4,hk4,ho4,hR4,_⟩=>Vn [(0,Vl false r 2 (flatMap dF row)),(1,Vl false n 1 (map nD ws)),(4,(U6 0 0 (0) (o4.length) 2)),(5,nD k4),(6,zN i),(7,nD (sP row i))] [⟨0,0,0,0,.b ⟨o4.flatMap dF,231,true⟩⟩] 8⟩] 1000 64 (fun|⟨k1,o1,hk1,ho1,hR1,_⟩,Q,Z9,ZC=>(.s 5 (.bd ((k1:Int)<n) (λ p1 Z6=>(.s 3 (.chk (true&&decide ((k1:Int)<n)&&true) wX (.s 2 (.opt ((map nD ws)[k1*1]?) (nD (getD ws (k1*1) mq)) (av _ _ om) (.s 3 (.bd ((↑(sP row i):Int)<(↑(getD ws (k1*1) mq):Int)) (λ p2 Z5=>(.s 7 (.chk (true&&U5 (length o1*2) (length (flatMap dF o1))&&true&&true&&true&&true&&U7 ((length o1+1)*16) 140737488355328) C2 (.s 1 (.val 4 (U6 120 120 0 (length o1+1) 2) (U6 120 120 0 (length (o1++[Pc.mk (sP row i) true])) 2) C3 (.blk 120 120 (U1 (flatMap dF o1++[zN (sP row i),D.v (.bool true)]) 231 true) (U1 (flatMap dF (o1++[Pc.mk (sP row i) true])) 231 true) (by(simp;done)) (Hn.last ZC 0 (⟨(k1),(o1++[⟨sP row i,true⟩]),om,C4,(by(simp only[VG]at *;exact Tm om om hR1)),⟨⟩⟩:(k2:Nat)×'(o2:List Pc)×'(hk2:k2<=n)×'(ho2:o2.length<=i+2+k2)×'(hR2:o2++gx (row.drop (i+2)) (ws.drop k2)=T)×'Unit) rfl [(120,120)] ro))))))) (λ p2 Z5=>(.s 4 (.chk (true&&decide ((k1:Int)<n)&&true) wX (.s 2 (.opt ((map nD ws)[k1*1]?) (nD (getD ws (k1*1) mq)) (av _ _ om) (.s 5 (.chk (true&&U5 (length o1*2) (length (flatMap dF o1))&&true&&true&&true&&true&&U7 ((length o1+1)*16) 140737488355328) C2 (.s 4 (.ow (k1+1) (.s 1 (.val 4 (U6 144 144 0 (length o1+1) 2) (U6 144 144 0 (length (o1++[Pc.mk (getD ws k1 mq) false])) 2) C3 (.val 5 (zI (k1+1)) (zN (k1+1)) Gb (.blk 144 144 (U1 (flatMap dF o1++[zN (getD ws (k1*1) mq),D.v (.bool false)]) 231 true) (U1 (flatMap dF (o1++[Pc.mk (getD ws k1 mq) false])) 231 true) (by(refine aB ?_;rw[PM];simp only[VG])) (Hn.next Z9 ⟨(k1+1),(o1++[⟨ws.getD k1 mq,false⟩]),om,C4,(by(simp only[VG]at *;exact To om om hR1)),⟨⟩⟩ (by show n-(k1+1)<n-k1;clear Z9 ZC ZA ZD;omega) [(144,144)] ro))))))))))))))))))))) (λ p1 Z6=>(Hn.last ZC 1 (⟨(k1),(o1),om,om,om,⟨⟩⟩:(k4:Nat)×'(o4:List Pc)×'(hk4:k4<=n∧n<=k4)×'(ho4:o4.length<=i+k4)×'(hR4:o4++((fW (sP row i) (ws.drop k4)).1++gx (row.drop (i+2)) (fW (sP row i) (ws.drop k4)).2)=T)×'Unit) rfl [(0,0)] ro))))) (fun|⟨k1,o1,hk1,ho1,hR1,_⟩=>by kernel_rfl) ⟨(k),(o),om,om,(by(exact PO om hR)),⟨⟩⟩ [(0,0)] ro (gu (fun|⟨k2,o2,hk2,ho2,hR2,_⟩=>(.s 3 (.ow (i+2) (.s 1 (.val 6 (zI (i+2)) (zN (i+2)) Gb (Hn.next ZA ⟨(i+2),(k2),(o2),om,om,om,om,⟨⟩⟩ (by show r+1-(i+2)<r+1-i;clear ZA ZD;omega) [(0,0)] ro)))))) (fun|⟨k4,o4,hk4,ho4,hR4,_⟩=>(.s 7 (.chk (true&&U5 (length o4*2) (length (flatMap dF o4))&&true&&true&&true&&true&&U7 ((length o4+1)*16) 140737488355328) C2 (.s 4 (.ow (i+2) (.s 1 (.val 4 (U6 40 40 0 (length o4+1) 2) (U6 40 40 0 (length (o4++[Pc.mk (sP row i) true])) 2) C3 (.val 6 (zI (i+2)) (zN (i+2)) Gb (.blk 40 40 (U1 (flatMap dF o4++[zN (sP row i),D.v (.bool true)]) 231 true) (U1 (flatMap dF (o4++[Pc.mk (sP row i) true])) 231 true) (by(simp;done)) (Hn.next ZA ⟨(i+2),(k4),(o4++[⟨sP row i,true⟩]),om,om,C4,(by(exact Tp om hR4)),⟨⟩⟩ (by show r+1-(i+2)<r+1-i;clear ZA ZD;omega) [(40,40)] ro))))))))))))))))))))))))))) (λ p0 Z7=>(Hn.last ZD 0 (⟨(k),(o),om,om,(by(exact Tq om hR)),⟨⟩⟩:(k3:Nat)×'(o3:List Pc)×'(hk3:k3<=n)×'(ho3:o3.length<=3000)×'(hR3:o3++jb (ws.drop k3)=T)×'Unit) rfl [(0,0)] ro))))))) (fun|⟨i,k,o,hi,hk,ho,hR,_⟩=>by kernel_rfl) ⟨(0),(0),([]),om,om,(by(simp;done)),(by(exact(iZ _ _).symm.trans hT)),⟨⟩⟩ [(24,24)] ro (ck (fun|⟨k3,o3,hk3,ho3,hR3,_⟩=>(.s 3 (.chk (aU (some (k3:Int)) none none n&&true) (by(simp <;>(omega))) (.s 2 (Hn.inl T_ok ah false 74 0 (aq Tryz.prog 145 2) (λ(x:(j:Nat)×'(o:List Pc)×'(hk:j<=n-k3)×'(ho:o.length<=3000+j)×'(hR:o++jb (ws.drop (k3+j))=T)×'Unit)=>match x with|⟨j,o,hk,ho,hR,_⟩=>Vn [(4,(U6 0 0 (0) (o.length) 2)),(61,Vl false (n-k3) 1 (drop (k3*1) (map nD ws))),(62,zN (n-k3)),(63,nD j)] [⟨0,0,0,0,.b ⟨o.flatMap dF,231,true⟩⟩] 8) (λ(x:(j:Nat)×'(o:List Pc)×'(hk:j<=n-k3)×'(ho:o.length<=3000+j)×'(hR:o++jb (ws.drop (k3+j))=T)×'Unit)=>match x with|⟨j,o,hk,ho,hR,_⟩=>n-k3-j) [⟨Unit,.exit 4,λ x=>match x with|()=>Vn [(4,(U6 0 0 (0) (T.length) 2)),(61,Vl false (n-k3) 1 (drop (k3*1) (map nD ws))),(62,zN (n-k3))] [⟨0,0,0,0,.b ⟨T.flatMap dF,231,true⟩⟩] 8⟩] 1000 64 (fun|⟨j,o,hk,ho,hR,_⟩,Q,ZA,ZD=>(.s 2 (.bd ((j:Int)<(↑(n-k3):Int)) (λ p3 Z4=>(.s 1 (.chk (true&&decide ((j:Int)<(↑(n-k3):Int))&&true) wX (.s 2 (.opt ((drop (k3*1) (map nD ws))[j*1]?) (nD (getD ws (k3+j) mq)) (@C6 ws (k3) (j) om) (.s 8 (.chk (true&&U5 (length o*2) (length (flatMap dF o))&&true&&true&&true&&true&&U7 ((length o+1)*16) 140737488355328) C2 (.s 3 (.ow (j+1) (.s 1 (.val 4 (U6 72 72 0 (length o+1) 2) (U6 72 72 0 (length (o++[Pc.mk (getD ws (k3+j) mq) false])) 2) C3 (.val 63 (zI (j+1)) (zN (j+1)) Ga (.blk 72 72 (U1 (flatMap dF o++[zN (getD ws (k3+j) mq),D.v (.bool false)]) 231 true) (U1 (flatMap dF (o++[Pc.mk (getD ws (k3+j) mq) false])) 231 true) (by(simp;done)) (Hn.next ZA ⟨(j+1),(o++[⟨ws.getD (k3+j) mq,false⟩]),om,C4,(by(exact PL om hR)),⟨⟩⟩ (by show n-k3-(j+1)<n-k3-j;clear ZA ZD;omega) [(72,72)] ro)))))))))))))) (λ p3 Z4=>(.val 4 (U6 0 0 0 (length o) 2) (U6 0 0 0 (length T) 2) (by(rw[Gc om hR])) (.blk 0 0 (U1 (flatMap dF o) 231 true) (U1 (flatMap dF T) 231 true) (by(rw[Gc om hR])) (Hn.last ZD 0 (():Unit) rfl [(0,0)] ro))))))) (fun|⟨j,o,hk,ho,hR,_⟩=>by kernel_rfl) ⟨(0),(o3),om,om,om,⟨⟩⟩ [(0,0)] ro (ck (fun|()=>(.s 2 (.out [0] [0] (U6 0 0 0 (length T) 2) [U1 (flatMap dF T) 231 true] R (ok _ _ wr wr))))))))))))))) kr
theorem Ge (ws:List Nat){j:Nat}(h:j<ws.length):(VW (0*1) (ws.map nD))[j*1]? =some (nD (ws.getD j mq)):=by
 have:=C6 ws (k:=0) (j:=j) om
 rwa [VK]at this
theorem PQ (ws:List Nat)(n:Nat)(hn:n=ws.length)(hn2:n<=1000)(T:List Pc)(hT:Ly [] ws=T):S0 145 [dw,.sl false n 1 (ws.map nD)] [] (.ref 0 0 0 T.length 2) [⟨T.flatMap dF, 231,true⟩]:=by
 refine SpecH.run T_ok ah Tryz.func145 rfl rfl rfl ⟨gi (λ _=>rfl) _,trivial⟩ rfl 1000 64 (λ R ok=>(.s 16 (.chk (aU (some 0) none none n&&true) (by(simp;done)) (.s 2 (.nils 4 104 2 231 (Hn.inl T_ok ah false 74 0 (aq Tryz.prog 145 2) (λ(x:(j:Nat)×'(o:List Pc)×'(hk:j<=n)×'(ho:o.length<=j)×'(hR:o++jb (ws.drop j)=T)×'Unit)=>match x with|⟨j,o,hk,ho,hR,_⟩=>Vn [(4,(U6 0 0 (0) (o.length) 2)),(61,Vl false (n-0) 1 (drop 0 (map nD ws))),(62,zN (n-0)),(63,nD j)] [⟨0,0,104,104,.b ⟨o.flatMap dF,231,true⟩⟩] 8) (λ(x:(j:Nat)×'(o:List Pc)×'(hk:j<=n)×'(ho:o.length<=j)×'(hR:o++jb (ws.drop j)=T)×'Unit)=>match x with|⟨j,o,hk,ho,hR,_⟩=>n-j) [⟨Unit,.exit 4,λ x=>match x with|()=>Vn [(4,(U6 0 0 (0) (T.length) 2)),(61,Vl false (n-0) 1 (drop 0 (map nD ws))),(62,zN (n-0))] [⟨0,0,104,104,.b ⟨T.flatMap dF,231,true⟩⟩] 8⟩] 1000 64 (fun|⟨j,o,hk,ho,hR,_⟩,Q,ZA,ZD=>(.s 2 (.bd ((j:Int)<(↑(n-0):Int)) (λ p0 Z7=>(.s 1 (.chk (true&&decide ((j:Int)<(↑(n-0):Int))&&true) wX (.s 2 (.opt ((drop (0*1) (map nD ws))[j*1]?) (nD (getD ws j mq)) (@Ge ws (j) om) (.s 8 (.chk (true&&U5 (length o*2) (length (flatMap dF o))&&true&&true&&true&&true&&U7 ((length o+1)*16) 140737488355328) C2 (.s 3 (.ow (j+1) (.s 1 (.val 4 (U6 72 72 0 (length o+1) 2) (U6 72 72 0 (length (o++[Pc.mk (getD ws j mq) false])) 2) C3 (.val 63 (zI (j+1)) (zN (j+1)) Ga (.blk 72 72 (U1 (flatMap dF o++[zN (getD ws j mq),D.v (.bool false)]) 231 true) (U1 (flatMap dF (o++[Pc.mk (getD ws j mq) false])) 231 true) (by(simp;done)) (Hn.next ZA ⟨(j+1),(o++[⟨ws.getD j mq,false⟩]),om,C4,(by(exact PL om hR)),⟨⟩⟩ (by show n-(j+1)<n-j;clear ZA ZD;omega) [(72,72)] ro)))))))))))))) (λ p0 Z7=>(.val 4 (U6 0 0 0 (length o) 2) (U6 0 0 0 (length T) 2) (by(rw[Gc om hR])) (.blk 0 0 (U1 (flatMap dF o) 231 true) (U1 (flatMap dF T) 231 true) (by(rw[Gc om hR])) (Hn.last ZD 0 (():Unit) rfl [(0,0)] ro))))))) (fun|⟨j,o,hk,ho,hR,_⟩=>by kernel_rfl) ⟨(0),([]),om,(by(simp;done)),(by(exact(iZ _ _).symm.trans hT)),⟨⟩⟩ [(104,104)] ro (ck (fun|()=>(.s 2 (.out [0] [0] (U6 0 0 0 (length T) 2) [U1 (flatMap dF T) 231 true] R (ok _ _ wr wr))))))))))) kr
def sX (W S:List Nat)(k:Nat):List Nat:=lk S ((S.take k).map λ i=>W.getD i mq)
theorem pq (W S:List Nat)(k:Nat):sX W S k=(S.take k).map λ i=>W.getD i mq:=au _ _
theorem PR (W S:List Nat):sX W S 0=[]:=pq W S 0
theorem PS {W S:List Nat}{k:Nat}(h:k<S.length):sX W S (k+1)=sX W S k++[W.getD (S.getD k mq) mq]:=by
 rw[pq,pq,VT h,V4,UZ (l:=S),U4 h];rfl
theorem nX {W S:List Nat}{k:Nat}(h:k<=S.length):(sX W S k).length=k:=by rw[pq,Vj,Vg];omega
def Lz (ws:List Nat):Nat->List Pc
 |0=>Ly [] ws
 |k+1=>Ly (Lz ws k) ws
def ay (ws:List Nat)(k:Nat):List Pc:=lk ws (Lz ws k)
theorem sY (ws:List Nat)(k:Nat):ay ws k=Lz ws k:=au _ _
theorem sZ (ws:List Nat):Ly [] ws=ay ws 0:=by rw[sY];rfl
theorem pt (ws:List Nat)(k:Nat):Ly (ay ws k) ws=ay ws (k+1):=by rw[sY,sY];rfl
def dR (row:List Pc)(n:Nat):Nat:=lk row ((row.take n).filter (·.p)).length
theorem kU (row:List Pc)(n:Nat):dR row n=((row.take n).filter (·.p)).length:=au _ _
theorem PT (row:List Pc):dR row 0=0:=kU row 0
theorem Ja {row:List Pc}{k:Nat}(h:k<row.length):dR row (k+1)=dR row k+(row.getD k mq).p.toNat:=by
 rw[kU,kU,VT h,Wy,U2,UZ,U4 h];show _+(List.filter _ [row[k]]).length=_+(row[k]).p.toNat
 cases hp:(row[k]).p
 ·rw[Xc (by simp[hp])];rfl
 ·rw[Xb (by simp[hp])];rfl
theorem C7 (row:List Pc)(n:Nat):dR row n<=n:=by
 rw[kU];exact Vq (XX _ _) (by rw[Vg];exact Nat.min_le_left _ _)
theorem yX (row:List Pc)(n:Nat):dR row n<=(row.filter (·.p)).length:=by
 rw[kU];exact((aaf n row).filter _).length_le
theorem ta:∀l:List Pc,l.length=(l.filter (·.p)).length+(l.filter (λ x=>!x.p)).length
 |[]=>rfl
 |x::r=>by
  have ih:=ta r
  cases hp:x.p
  ·rw[Xc (by simp[hp]),Xb (by simp[hp]),VE,VE];omega
  ·rw[Xb (by simp[hp]),Xc (by simp[hp]),VE,VE];omega
theorem Jb (s:Nat):∀ws:List Nat,((fW s ws).1.filter (·.p)).length=1∧(fW s ws).1.length+(fW s ws).2.length=ws.length+1∧(fW s ws).1.length=((fW s ws).1.filter (λ x=>!x.p)).length+1
 |[]=>⟨rfl,rfl,rfl⟩
 |w::r=>by
  have ih:=Jb s r;rw[fW];split
  ·exact⟨rfl,by simp;omega,rfl⟩
  ·refine⟨?_,?_,?_⟩
   ·rw[Xc (by simp)];exact ih.1
   ·simp only[VE];omega
   ·rw[Xb (by simp),VE,VE];omega
theorem C8:∀(row:List Pc) (ws:List Nat),((gx row ws).filter (·.p)).length=row.length/2∧(gx row ws).length=ws.length+row.length/2∧((gx row ws).filter (λ x=>!x.p)).length=ws.length
 |[],ws=>by
  have e:gx [] ws=jb ws:=rfl;rw[e];unfold jb;refine⟨?_,by simp,?_⟩
  ·rw[List.filter_eq_nil_iff.2 (λ x hx=>by obtain⟨w,_,rfl⟩:=List.mem_map.1 hx;simp)];rfl
  ·rw[List.filter_eq_self.2 (λ x hx=>by obtain⟨w,_,rfl⟩:=List.mem_map.1 hx;rfl),Vj]
 |[x],ws=>by
  have e:gx [x] ws=jb ws:=rfl;rw[e];unfold jb;refine⟨?_,by simp,?_⟩
  ·rw[List.filter_eq_nil_iff.2 (λ x hx=>by obtain⟨w,_,rfl⟩:=List.mem_map.1 hx;simp)];simp
  ·rw[List.filter_eq_self.2 (λ x hx=>by obtain⟨w,_,rfl⟩:=List.mem_map.1 hx;rfl),Vj]
 |x::y::r,ws=>by
  have h1:=Jb (x.w+y.w) ws;have h2:=C8 r (fW (x.w+y.w) ws).2;rw[gx];refine⟨?_,?_,?_⟩
  ·rw[Wy,U2,h1.1,h2.1,VE,VE];omega
  ·rw[U2,h2.2.1,VE,VE];omega
  ·rw[Wy,U2,h2.2.2];omega
theorem Jc {s B:Nat}:∀ws:List Nat,(∀w∈ws,w<=B)->s<=B->(∀x∈(fW s ws).1,x.w<=B)∧∀w∈(fW s ws).2,w∈ws
 |[],_,hs=>⟨λ x hx=>by cases List.mem_singleton.1 hx;exact hs,λ w hw=>by cases hw⟩
 |w::r,h,hs=>by
  have ih:=Jc (s:=s) r (λ y hy=>h y (Vy _ hy)) hs;rw[fW];split
  ·exact⟨λ x hx=>by cases List.mem_singleton.1 hx;exact hs,λ y hy=>hy⟩
  ·refine⟨λ x hx=>?_,λ y hy=>Vy _ (ih.2 y hy)⟩
   rcases List.mem_cons.1 hx with rfl|hx
   ·exact h w Vr
   ·exact ih.1 x hx
theorem Jd {B C:Nat}(hC:2*B<=C)(hC2:B<=C):∀(row:List Pc) (ws:List Nat),(∀w∈ws,w<=B)->(∀x∈row,x.w<=B)->∀x∈gx row ws,x.w<=C
 |[],ws,h,_=>λ x hx=>by
  obtain⟨w,hw,rfl⟩:=List.mem_map.1 (show x∈jb ws from hx);exact Vq (h w hw) hC2
 |[_],ws,h,_=>λ x hx=>by
  obtain⟨w,hw,rfl⟩:=List.mem_map.1 (show x∈jb ws from hx);exact Vq (h w hw) hC2
 |a::b::r,ws,h,hr=>λ x hx=>by
  have ha:=hr a Vr;have hb:=hr b (Vy _ Vr);have h1:=Jc (s:=a.w+b.w) (B:=C) ws (λ w hw=>Vq (h w hw) hC2) om;rw[gx]at hx;rcases List.mem_append.1 hx with q|q
  ·exact h1.1 x q
  ·exact Jd hC hC2 r _ (λ w hw=>h w (h1.2 w hw)) (λ y hy=>hr y (Vy _ (Vy _ hy))) x q
theorem C9 {ws:List Nat}(h:∀w∈ws,w<=1073741824):∀k,∀x∈ay ws k,x.w<=2^k*1073741824
 |0=>λ x hx=>by
  rw[<-sZ,iZ]at hx;obtain⟨w,hw,rfl⟩:=List.mem_map.1 (show x∈jb ws from hx);have:=h w hw;simpa using this
 |k+1=>λ x hx=>by
  rw[<-pt,iZ]at hx;have hp:=WD k;refine Jd (B:=2^k*1073741824) (by rw[V8];omega) (by rw[V8];omega) _ _ (λ w hw=>Vq (h w hw) om) (C9 h k) x hx
theorem Gf {ws:List Nat}(h:∀w∈ws,w<=1073741824){k:Nat}(hk:k<=15):∀x∈ay ws k,x.w<=100000000000000:=λ x hx=>by
 have h1:=C9 h k x hx;have h2:2^k<=2^15:=VD (by decide) hk;omega
theorem mJ (ws:List Nat):∀k,(ay ws k).length=ws.length+(if k=0 then 0 else(ay ws (k-1)).length/2)∧((ay ws k).filter (·.p)).length=(if k=0 then 0 else(ay ws (k-1)).length/2)∧((ay ws k).filter (λ x=>!x.p)).length=ws.length
 |0=>by
  have h:=C8 [] ws;rw[<-iZ,sZ]at h;exact⟨h.2.1,h.1,h.2.2⟩
 |k+1=>by
  have h:=C8 (ay ws k) ws;rw[<-iZ,pt]at h;exact⟨h.2.1,h.1,h.2.2⟩
theorem dr (ws:List Nat):∀k,(ay ws k).length<=2*ws.length
 |0=>by rw[(mJ ws 0).1,ZF rfl];omega
 |k+1=>by
  have:=dr ws k;rw[(mJ ws (k+1)).1,ZE (Xi k),Xj];omega
theorem yY (ws:List Nat):∀k,2^k*(2*ws.length)<=2^k*(ay ws k).length+ws.length+(2^k-1)
 |0=>by rw[(mJ ws 0).1,ZF rfl];omega
 |k+1=>by
  have ih:=yY ws k;have e:=(mJ ws (k+1)).1;rw[ZE (Xi k),Xj]at e;have hp:=WD k;rw[e,V8];generalize ws.length=N at *;generalize(ay ws k).length=R at *;generalize 2^k=P at *;have h2:P*R<=P*(2*(R/2))+P:=by
   have:R<=2*(R/2)+1:=by omega
   have:=XM P this;rw[XD,VG]at this;exact this
  have e1:P*2*(2*N)=P*(2*N)+P*(2*N):=by rw[WA,Nat.two_mul,XD]
  have e2:P*2*(N+R/2)=P*(2*N)+P*(2*(R/2)):=by rw[WA,XD 2,XD]
  rw[e1,e2];omega
def vj:Z1->List Nat->Z1
 |o,[]=>o
 |o,i::r=>vj (o.set i (o.getD i mq+1)) r
theorem Da (o:Z1)(a b:List Nat):vj o (a++b)=vj (vj o a) b:=by
 induction a generalizing o with
 |nil=>rfl
 |cons x a ih=>exact ih _
theorem vk:∀(o:Z1) (l:List Nat),(vj o l).length=o.length
 |_,[]=>rfl
 |o,i::r=>by rw[vj,vk,Xu]
def di (o:Z1)(S:List Nat)(j:Nat):Z1:=lk o (vj o (S.take j))
theorem nY (o:Z1)(S:List Nat)(j:Nat):di o S j=vj o (S.take j):=au _ _
theorem wY (o:Z1)(S:List Nat):di o S 0=o:=nY o S 0
theorem dG (o:Z1)(S:List Nat)(j:Nat):(di o S j).length=o.length:=by rw[nY,vk]
theorem wZ {o:Z1}{S:List Nat}{j:Nat}(h:j<S.length):di o S (j+1)=(di o S j).set (S.getD j mq) ((di o S j).getD (S.getD j mq) mq+1):=by
 rw[nY,nY,VT h,Da,UZ (l:=S),U4 h];rfl
def lnF (ws S:List Nat):Nat->Nat->Z1->Z1
 |0,_,o=>o
 |k+1,n,o=>lnF ws S k (2*dR (ay ws k) n) (di o S (n-dR (ay ws k) n))
structure LnI (ws:List Nat)(k n:Nat):Prop where
 a:k≠0->n<=(ay ws (k-1)).length
theorem LnI.next {ws:List Nat}{k n:Nat}(h:LnI ws (k+1) n):n<=(ay ws k).length∧dR (ay ws k) n<=n∧n-dR (ay ws k) n<=ws.length∧LnI ws k (2*dR (ay ws k) n):=by
 have hn:=h.a (Xi k);rw[Xj]at hn;have hc:=mJ ws k;have h1:=yX (ay ws k) n;refine⟨hn,C7 _ _,?_,⟨λ hk=>?_⟩⟩
 ·have e:n=((ay ws k).take n).length:=by rw[Vg];omega
  have e2:((ay ws k).take n).length=(((ay ws k).take n).filter (·.p)).length+(((ay ws k).take n).filter (λ x=>!x.p)).length:=by
   exact ta _
  have e3:(((ay ws k).take n).filter (λ x=>!x.p)).length<=ws.length:=by
   rw[<-hc.2.2];exact((aaf n _).filter _).length_le
  rw[kU];omega
 ·rw[hc.2.1,ZE hk]at h1;omega
theorem LnI.first {ws:List Nat}{m:Nat}(hm:1<=m)(h:ws.length<=2^m)(h2:2<=ws.length):LnI ws m (2*ws.length-2):=⟨λ _=>by
 have g:=yY ws (m-1);have hp:=WD (m-1);have e:2^m=2*2^(m-1):=by rw[show m=(m-1)+1 from by omega,V8,WR];rfl
 generalize(ay ws (m-1)).length=R at *;generalize ws.length=N at *;generalize 2^(m-1)=P at *;rcases VL R (2*N-2)with q|q
 ·have h3:P*R+3*P<=P*(2*N):=by
   have:R+3<=2*N:=by omega
   have:=XM P this;rw[XD,WR P 3]at this;exact this
  omega
 ·exact q⟩
theorem vl {p:Prop}(h:p:=by repeat' first|exact(λ _=>vm _ _ _)|exact trivial|exact rfl|exact(λ _=>cR _)|exact(λ _=>by assumption)|exact(λ _=>cE _ (λ _=>rfl) _)|exact(λ _=>fO (λ _=>rfl) _)|(intro h;cases h;done)|(intro _;rfl)|(intro _;exact dM _ (cE _ (λ _=>rfl) _))|exact mr _ (cE _ (λ _=>rfl) _)|refine VR ?_ ?_|refine iL ?_ ?_|(intro _;refine eg ?_ ?_)|refine eg ?_ ?_|(intro _;refine js ?_ ?_)|exact dM _ (cE _ (λ _=>rfl) _)|exact cE _ (λ _=>rfl) _):p:=h
theorem Nd {p:Prop}(h:p:=by(refine aR ?_;(omega))):p:=h
theorem Nf {p:Prop}(h:p:=by(have z:=hT.i.nextk om (((k:Int)-1).toNat) om;have z2:=hT.l;have z3:=dr ws (((k:Int)-1).toNat);have z4:(take n (ay ws ((k:Int)-1).toNat)).length=n:=Wg z.1;omega)):p:=h
theorem PU {p:Prop}(h:p:=by(have z:=hT.i.nextk om (((k:Int)-1).toNat) om;have z2:=hT.l;have z3:=dr ws (((k:Int)-1).toNat);have z4:(take n (ay ws ((k:Int)-1).toNat)).length=n:=Wg z.1;simp[aU,du,bi];omega)):p:=h
theorem Uz {p:Prop}(h:p:=by(rw[lT];simp only[VM];refine U8 ?_;(omega))):p:=h
theorem UA {p:Prop}(h:p:=by show n-(j+1)<n-j;clear Z9 ZC ZA ZD;omega):p:=h
theorem UB {p:Prop}(h:p:=by(refine decide_eq_true ?_;have z:=hT.i.nextk om (((k:Int)-1).toNat) om;have z2:=hT.l;have z3:=dr ws (((k:Int)-1).toNat);have z4:(take n (ay ws ((k:Int)-1).toNat)).length=n:=Wg z.1;have h9:=hA.at (t:=0+j*1) om;have h8:=dG o S j;omega)):p:=h
theorem tb (W:List Nat)(L:Nat)(hL:L=W.length)(hL2:L<=320)(hB:∀t,W.getD t mq<=1073741824)(m:Nat)(hm:1<=m∧m<=15)(S:List Nat)(hS:gJ W=S)(N:Nat)(hN:N=S.length)(hNm:N<=2^m):S0 144 [.sl false L 1 (W.map nD),nD m] [] (.tup [.ref 0 0 0 N 1,iD 0]) [⟨S.map nD, 3,true⟩]:=by
 subst hS;have hp:=(fB W).length_eq;have hN2:N=(gw W L).length:=by rw[hN,hp,hL]
 obtain⟨T1,hE⟩:=Lx hL (X:=gw W L) rfl hN2;exact Gd W L hL hL2 hB m hm N hN2 _ T1 rfl hE hNm hE.o hE.t1 hE.o1 hE.t
abbrev Gg (T:List Pc):D:=.sl false T.length 2 (T.flatMap dF)
theorem Db (T:List Pc):(T.flatMap dF).length=T.length*2:=by rw[ba (k:=2) (λ _=>rfl)]
theorem PV (ws:List Nat)(n:Nat)(hn:n=ws.length)(hn2:n<=320)(hB:∀w∈ws,w<=1073741824)(j:Nat)(hj:j<=14)(r:Nat)(hr:r=(ay ws j).length):S0 145 [.sl false r 2 ((ay ws j).flatMap dF),.sl false n 1 (ws.map nD)] [] (Gg (ay ws (j+1))) []:=by
 have h:=dr ws j;refine SpecH.frz (PP (ay ws j) r hr om 100000000000000 (by decide) (Gf hB om) ws n hn om (ay ws (j+1)) (pt ws j)) (Db _) (by decide) (fO (λ _=>rfl) _)
theorem PW (ws:List Nat)(n:Nat)(hn:n=ws.length)(hn2:n<=320):S0 145 [dw,.sl false n 1 (ws.map nD)] [] (Gg (ay ws 0)) []:=
 SpecH.frz (PQ ws n hn om _ (sZ ws)) (Db _) (by decide) (fO (λ _=>rfl) _)
def jJ (ws:List Nat)(k m:Nat):List D:=lk ws ((Wa m).map λ j=>if j<k then Gg (ay ws j)else dw)
theorem w4 (ws:List Nat)(k m:Nat):jJ ws k m=(Wa m).map λ j=>if j<k then Gg (ay ws j)else dw:=au _ _
theorem lT (ws:List Nat)(k m:Nat):(jJ ws k m).length=m:=by rw[w4,Vj,WH]
theorem vm (ws:List Nat)(k m:Nat):ab (jJ ws k m)=true:=by
 rw[bq,w4];intro d hd;obtain⟨j,_,rfl⟩:=List.mem_map.1 hd
 split<;>rfl
theorem yZ {ws:List Nat}{k m j:Nat}(hj:j<m):(jJ ws k m)[j]? =some (if j<k then Gg (ay ws j)else dw):=by
 rw[w4,Vu,Wu hj];rfl
theorem Dc (ws:List Nat){k m j:Nat}(h:j<k)(hj:j<m):(jJ ws k m)[0+j*1]? =some (Gg (ay ws j)):=by
 rw[VK,VG,yZ hj,ZF h]
theorem Dd {ws:List Nat}{k m o i:Nat}(hk:k<m)(ho:o=k)(hi:i=k):ai (jJ ws k m) o [Gg (ay ws i)]=jJ ws (k+1) m:=by
 subst o i;apply Wb;intro t;rw[cD (by rw[lT];simp only[VP];omega)];simp only[VP];rcases VL t m with q|q
 ·rw[yZ q,yZ q]
  by_cases e:t=k
  ·subst e;rw[ZF om,Wn,ZF om];rfl
  ·rw[ZE om]
   by_cases z:t<k
   ·rw[ZF z,ZF om]
   ·rw[ZE z,ZE om]
 ·rw[ZE om,VF (by rw[lT];exact q),VF (by rw[lT];exact q)]
theorem Tt (ws:List Nat)(m:Nat):Vk m dw=jJ ws 0 m:=by
 apply Wb;intro t;rw[Wz];rcases VL t m with q|q
 ·rw[ZF q,yZ q,ZE (Ws t)]
 ·rw[ZE om,VF (by rw[lT];exact q)]
theorem Je (d:D)(m:Nat):dJ [d] (m*1)=Vk m d:=by
 rw[VG];apply Wb;intro i;unfold dJ;rw[Vu,Wz];rcases VL i m with q|q
 ·rw[Wu q,ZF q]
  show some (List.getD [d] (i%1) mq)=_;rw[Nat.mod_one];rfl
 ·rw[VF (by simpa using q),ZE om];rfl
theorem Jf {t:TypeId}{a b:Int}(h:a=b):(⟨[D.v (.int .i64 a)],t,false⟩:Blk)=⟨[D.v (.int .i64 b)],t,false⟩:=by rw[h]
theorem y0 (L:Nat):dJ [D.v (.int .u8 0)] (L*1)=(Vk L (0:UInt8)).map dB:=by rw[Je,W7];rfl
theorem LnI.nextk {ws:List Nat}{k n:Nat}(h:LnI ws k n)(hk:0<k)(i:Nat)(hi:i=k-1):n<=(ay ws i).length∧dR (ay ws i) n<=n∧n-dR (ay ws i) n<=ws.length:=by
 subst hi;have q:=LnI.next (k:=k-1) (n:=n) (by rw[show k-1+1=k from by omega];exact h);exact⟨q.1,q.2.1,q.2.2.1⟩
structure LnT (ws S:List Nat)(L k n:Nat)(o T:Z1):Prop where
 i:LnI ws k n
 l:o.length=L
 r:lnF ws S k n o=T
theorem LnT.next {ws S:List Nat}{L k n:Nat}{o T:Z1}(h:LnT ws S L k n o T)(hk:0<k):LnT ws S L (k-1) (2*dR (ay ws (k-1)) n) (di o S (n-dR (ay ws (k-1)) n)) T:=by
 obtain⟨j,rfl⟩:∃j,k=j+1:=⟨k-1,by omega⟩
 exact⟨(LnI.next h.i).2.2.2,by rw[dG];exact h.l,h.r⟩
theorem LnT.next' {ws S:List Nat}{L k n:Nat}{o T:Z1}(h:LnT ws S L k n o T)(hk:0<k)(i:Nat)(hi:i=k-1):LnT ws S L (k-1) (2*dR (ay ws i) n) (di o S (n-dR (ay ws i) n)) T:=by
 subst hi;exact h.next hk
theorem Jg {l:List Pc}{n j:Nat}(h:j<n):(l.take n).getD j mq=l.getD j mq:=by
 rw[UZ,UZ,V0,ZF h]
theorem PX {row:List Pc}{n j:Nat}(hj:j<n)(hn:n<=row.length)(h:((row.take n).getD j mq).p=true):dR row (j+1)=dR row j+1:=by
 rw[Jg hj]at h;rw[Ja om,h];rfl
theorem PY {row:List Pc}{n j:Nat}(hj:j<n)(hn:n<=row.length)(h:((row.take n).getD j mq).p=false):dR row (j+1)=dR row j:=by
 rw[Jg hj]at h;rw[Ja om,h];rfl
theorem ri {n N:Nat}{x:Int}(h:x=n)(h2:n<=N):(aU none (some x) none N&&true)=true:=by
 subst h;simp[aU,du,bi];omega
theorem PZ {o:Z1}{S:List Nat}{j a i:Nat}(hj:j<S.length)(ha:a=S.getD j mq)(hi:i=S.getD j mq)(hl:S.getD j mq<o.length):ai ((di o S j).map dB) a [D.v (.int .u8 ((((((di o S j).getD i mq).toNat:Nat):Int)+1)%256))]=(di o S (j+1)).map dB:=by
 subst ha hi;have e:(((((di o S j).getD (S.getD j mq) mq).toNat:Nat):Int)+1)%256=((((di o S j).getD (S.getD j mq) mq+1).toNat:Nat):Int):=by
  rw[UInt8.toNat_add];show _=(((_+1)%256:Nat):Int);omega
 rw[e,wZ hj];generalize(di o S j).getD (S.getD j mq) mq+1=v;apply Wb;intro t;rw[cD (by simp only[Vj,VP,dG];omega),Vu,Vu,WN,dG];simp only[VP]
 by_cases q:S.getD j mq=t
 ·rw[<-q,ZF om,ZF rfl,ZF hl,Wn];rfl
 ·rw[ZE om,ZE q]
theorem LnT.last {ws S:List Nat}{L k n:Nat}{o T:Z1}(h:LnT ws S L k n o T)(hk:k=0):o=T:=by subst hk;exact h.r
theorem P1 (W:List Nat)(L:Nat)(hL:L=W.length)(hL2:L<=320)(hB:∀t,W.getD t mq<=1073741824)(m:Nat)(hm:1<=m∧m<=15)(S:List Nat)(hS:gJ W=S)(N:Nat)(hN:N=S.length)(hNm:N<=2^m)(hA:bL L S)(hN3:N<=320)(h2:2<=N)(ws:List Nat)(hw:sX W S N=ws)(hwl:ws.length=N)(hwb:∀w∈ws,w<=1073741824)(T:Z1)(hI:LnT ws S L m (2*N-2) (Vk L 0) T):S0 108 [.sl false L 1 (W.map nD),nD m] [] (.tup [.ref 0 0 0 L 1,iD 0]) [⟨T.map dB, 5,true⟩]:=by
 have hcl0:=vm ws 0 m;have hclm:=vm ws m m;refine SpecH.run T_ok ah Tryz.func108 rfl rfl rfl ⟨bn _,trivial⟩ rfl 1000 64 (λ R ok=>(.s 5 (.cl 144 false [] (.fn Ku (@tb (W) (L) om om om (m) om (S) aF (N) aF om)) (.s 18 (.chk (true&&decide ((L:Int)<=L)&&true&&true&&true&&true&&decide ((↑(TI.bytes Fy):Int)*(L:Int)<=140737488355328)) (by(have h9:((Fy.bytes:Nat):Int)=1:=rfl;rw[h9];simp;omega)) (.s 11 (.f ((N:Int)==1) (by(refine decide_eq_false ?_;(omega))) (.s 6 (.f (decide ((N:Int)<2)) (by(refine decide_eq_false ?_;(omega))) (.s 6 (.nils 9 224 1 3 (.blk 120 120 (U1 (dJ [bI 0] (L*1)) 5 true) (U1 (map dB (replicate L 0)) 5 true) (by(refine aB ?_;rw[y0])) (.blk 224 224 (U1 [] 3 true) (U1 (map nD (sX W S 0)) 3 true) (by(rw[PR];rfl)) (Hn.inl T_ok ah false 126 0 (aq Tryz.prog 108 0) (λ(x:(k:Nat)×'(hk:k<=N)×'Unit)=>match x with|⟨k,hk,_⟩=>Vn [(0,Vl false L 1 (map nD W)),(1,zN m),(4,zS),(5,zI 0),(6,Vh 8 8 0),(8,Vh 24 24 0),(9,(U6 32 32 (0) (k) 1)),(46,U6 0 0 0 N 1),(47,zN N),(48,nD k)] [⟨0,0,32,32,.b ⟨map nD S,3,true⟩⟩,⟨8,8,64,64,.b ⟨[U6 0 0 0 N 1],152,false⟩⟩,⟨16,16,120,120,.b ⟨(replicate L (0:UInt8)).map dB,5,true⟩⟩,⟨24,24,128,128,.b ⟨[U6 16 16 0 L 1],24,false⟩⟩,⟨32,32,224,224,.b ⟨(sX W S k).map nD,3,true⟩⟩] 40) (λ(x:(k:Nat)×'(hk:k<=N)×'Unit)=>match x with|⟨k,hk,_⟩=>N-k) [⟨Unit,.exit 0,λ x=>match x with|()=>Vn [(0,Vl false L 1 (map nD W)),(1,zN m),(4,zS),(5,zI 0),(6,Vh 8 8 0),(8,Vh 24 24 0),(9,(U6 32 32 (0) (N) 1)),(46,U6 0 0 0 N 1),(47,zN N)] [⟨0,0,32,32,.b ⟨map nD S,3,true⟩⟩,⟨8,8,64,64,.b ⟨[U6 0 0 0 N 1],152,false⟩⟩,⟨16,16,120,120,.b ⟨(replicate L (0:UInt8)).map dB,5,true⟩⟩,⟨24,24,128,128,.b ⟨[U6 16 16 0 L 1],24,false⟩⟩,⟨32,32,224,224,.b ⟨ws.map nD,3,true⟩⟩] 40⟩] 1000 64 (fun|⟨k,hk,_⟩,Q,ZA,ZD=>(.s 2 (.bd ((k:Int)<N) (λ p0 Z7=>(.s 1 (.chk (true&&decide ((k:Int)<N)) aF (.s 2 (.opt ((map nD S)[0+k*1]?) (nD (getD S (0+k*1) mq)) (av _ _ om) (.s 5 (.chk (true&&decide ((↑(getD S (0+k*1) mq):Int)<(L:Int))&&true) (by((refine aI ?_ ?_)<;>(repeat' (first|(refine aI ?_ ?_)|(with_reducible rfl)|(refine decide_eq_true ?_)|(refine U8 ?_)|(refine fw ?_)))<;>(have h9:=hA.at (t:=0+k*1) om;omega))) (.s 2 (.opt ((map nD W)[getD S (0+k*1) mq*1]?) (nD (getD W (getD S (0+k*1) mq*1) mq)) (av _ _ (by(have h9:=hA.at (t:=0+k*1) om;omega))) (.s 3 (.chk (true&&U5 (k*1) (length (map nD (sX W S k)))&&true&&true&&true&&true&&U7 ((k+1)*8) 140737488355328) (by(rw[Vj,nX (by(omega))];simp only[VG,Wo,VM,VV];refine U8 ?_;(omega))) (.s 3 (.ow (k+1) (.s 1 (.val 48 (zI (k+1)) (zN (k+1)) Nd (.blk 120 120 (U1 (map nD (sX W S k)++[zN (getD W (getD S (0+k*1) mq*1) mq)]) 3 true) (U1 (map nD (sX W S (k+1))) 3 true) (by(refine aB ?_;simp only[VK,VG];rw[PS om,V4];rfl)) (Hn.next ZA ⟨(k+1),om,⟨⟩⟩ (by show N-(k+1)<N-k;clear ZA ZD;omega) [(0,0),(8,8),(16,16),(24,24),(120,120)] vl))))))))))))))))) (λ p0 Z7=>(.val 9 (U6 32 32 0 k 1) (U6 32 32 0 N 1) (by(simp <;>(omega))) (.blk 32 32 (U1 (map nD (sX W S k)) 3 true) (U1 (map nD ws) 3 true) (by(rw[show k=N from by omega,hw])) (Hn.last ZD 0 (():Unit) rfl [(0,0),(8,8),(16,16),(24,24),(32,32)] vl))))))) (fun|⟨k,hk,_⟩=>by kernel_rfl) ⟨(0),om,⟨⟩⟩ [(32,32),(64,64),(120,120),(128,128),(224,224)] vl (ck (fun|()=>(.s 2 (.chk (true&&decide ((m:Int)<=m)&&true&&true&&true&&true&&decide ((↑(TI.bytes yr):Int)*(m:Int)<=140737488355328)) (by(have h9:((yr.bytes:Nat):Int)=24:=rfl;rw[h9];simp;omega)) (.s 4 (.blk 48 48 (U1 (dJ [zS] (m*1)) 225 true) (U1 (jJ ws 0 m) 225 true) (by(refine aB ?_;rw[Je,Tt])) (Hn.inl T_ok ah false 126 0 (aq Tryz.prog 108 1) (λ(x:(k:Nat)×'(hk:k<=m)×'(hcl:ab (jJ ws k m)=true)×'Unit)=>match x with|⟨k,hk,hcl,_⟩=>Vn [(4,zS),(5,zI 0),(6,Vh 8 8 0),(8,Vh 24 24 0),(9,U6 32 32 0 N 1),(12,U6 40 40 0 m 1),(63,zN m),(64,nD k)] [⟨0,0,0,0,.b ⟨map nD S,3,true⟩⟩,⟨8,8,8,8,.b ⟨[U6 0 0 0 N 1],152,false⟩⟩,⟨16,16,16,16,.b ⟨map dB (replicate L 0),5,true⟩⟩,⟨24,24,24,24,.b ⟨[U6 16 16 0 L 1],24,false⟩⟩,⟨32,32,32,32,.b ⟨map nD ws,3,true⟩⟩,⟨40,40,48,48,.b ⟨jJ ws k m,225,true⟩⟩] 48) (λ(x:(k:Nat)×'(hk:k<=m)×'(hcl:ab (jJ ws k m)=true)×'Unit)=>match x with|⟨k,hk,hcl,_⟩=>m-k) [⟨(hcl2:ab (jJ ws m m)=true)×'Unit,.exit 2,λ x=>match x with|⟨hcl2,_⟩=>Vn [(4,zS),(5,zI 0),(6,Vh 8 8 0),(8,Vh 24 24 0),(9,U6 32 32 0 N 1),(12,U6 40 40 0 m 1),(63,zN m)] [⟨0,0,0,0,.b ⟨map nD S,3,true⟩⟩,⟨8,8,8,8,.b ⟨[U6 0 0 0 N 1],152,false⟩⟩,⟨16,16,16,16,.b ⟨map dB (replicate L 0),5,true⟩⟩,⟨24,24,24,24,.b ⟨[U6 16 16 0 L 1],24,false⟩⟩,⟨32,32,32,32,.b ⟨map nD ws,3,true⟩⟩,⟨40,40,48,48,.b ⟨jJ ws m m,225,true⟩⟩] 48⟩] 1000 64 (fun|⟨k,hk,hcl,_⟩,Q,ZA,ZD=>(.s 2 (.bd ((k:Int)<m) (λ p1 Z6=>(.s 5 (.bd (0<(k:Int)) (λ p2 Z5=>(.s 6 (.ow (k-1) (.s 1 (.chk (decide (0<=(k:Int)-1)&&decide ((k:Int)-1<m)) (by((refine aI ?_ ?_)<;>(repeat' (first|(refine aI ?_ ?_)|(with_reducible rfl)|(refine decide_eq_true ?_)|(refine U8 ?_)|(refine fw ?_)))<;>(omega))) (.s 2 (.opt ((jJ ws k m)[0+AB ((k:Int)-1)*1]?) (Gg (ay ws (AB ((k:Int)-1)))) (@Dc ws (k) (m) (AB ((k:Int)-1)) om om) (.s 2 (.call 145 false [] (true&&(true&&(true&&U7 (0+N*1) (length (map nD ws))&&true&&ab (bif true&&U5 (N*1) (length (map nD ws))then map nD ws else take (N*1) (drop 0 (map nD ws))))&&true)) (by(simp <;>(omega))) ([Vl false (length (ay ws (AB ((k:Int)-1)))) 2 (flatMap dF (ay ws (AB ((k:Int)-1)))),Vl (U7 1 N) N 1 (bif true&&U5 (N*1) (length (map nD ws))then map nD ws else take (N*1) (drop 0 (map nD ws)))]) _ (by exact(qr (VR (D.sim.slw rfl (bW (by(simp <;>(omega)))|>.trans rfl)) trivial))) (true) wr _ _ _ (VC (az.of Tryz.func145 rfl rfl) (@PV (ws) (N) om om om (AB ((k:Int)-1)) om (length (ay ws (AB ((k:Int)-1)))) om)) (.s 1 (.chk (true&&decide ((k:Int)<m)) aF (.s 1 (.chk (true&&U7 (0+k*1+1) (length (jJ ws k m))) Uz (.lst (ai (jJ ws k m) (0+k*1) [Vl false (length (ay ws (AB ((k:Int)-1)+1))) 2 (flatMap dF (ay ws (AB ((k:Int)-1)+1)))]) (ai (jJ ws k m) k [Vl false (length (ay ws (AB ((k:Int)-1)+1))) 2 (flatMap dF (ay ws (AB ((k:Int)-1)+1)))]) (by(simp;done)) (.s 2 (.ow (k+1) (.s 1 (.val 64 (zI (k+1)) (zN (k+1)) Nd (.blk 40 40 (U1 (ai (jJ ws k m) k [Vl false (length (ay ws (AB ((k:Int)-1)+1))) 2 (flatMap dF (ay ws (AB ((k:Int)-1)+1)))]) 225 true) (U1 (jJ ws (k+1) m) 225 true) (by(exact aB (Dd om om om))) (Hn.next ZA ⟨(k+1),om,(by(exact vm _ _ _)),⟨⟩⟩ (by show m-(k+1)<m-k;clear ZA ZD;omega) [(0,0),(8,8),(16,16),(24,24),(32,32),(40,40)] vl)))))))))))))))))))) (λ p2 Z5=>(.s 4 (.call 145 false [] (true&&(true&&(true&&U7 (0+N*1) (length (map nD ws))&&true&&ab (bif true&&U5 (N*1) (length (map nD ws))then map nD ws else take (N*1) (drop 0 (map nD ws))))&&true)) (by(simp;have h9:=hA.at (t:=0+k*1) om;omega)) ([zS,Vl (U7 1 N) N 1 (bif true&&U5 (N*1) (length (map nD ws))then map nD ws else take (N*1) (drop 0 (map nD ws)))]) _ (by exact(qr (VR (D.sim.slw rfl (bW (by(simp;have h9:=hA.at (t:=0+k*1) om;omega))|>.trans rfl)) trivial))) (true) wr _ _ _ (VC (az.of Tryz.func145 rfl rfl) (@PW (ws) (N) om om)) (.s 1 (.chk (true&&decide ((k:Int)<m)) aF (.s 1 (.chk (true&&U7 (0+k*1+1) (length (jJ ws k m))) Uz (.lst (ai (jJ ws k m) (0+k*1) [Vl false (length (ay ws 0)) 2 (flatMap dF (ay ws 0))]) (ai (jJ ws k m) k [Vl false (length (ay ws 0)) 2 (flatMap dF (ay ws 0))]) (by(simp;done)) (.s 2 (.ow (k+1) (.s 1 (.val 64 (zI (k+1)) (zN (k+1)) Nd (.blk 40 40 (U1 (ai (jJ ws k m) k [Vl false (length (ay ws 0)) 2 (flatMap dF (ay ws 0))]) 225 true) (U1 (jJ ws (k+1) m) 225 true) (by(exact aB (Dd om om om))) (Hn.next ZA ⟨(k+1),om,(by(exact vm _ _ _)),⟨⟩⟩ (by show m-(k+1)<m-k;clear ZA ZD;omega) [(0,0),(8,8),(16,16),(24,24),(32,32),(40,40)] vl))))))))))))))))) (λ p1 Z6=>(.blk 40 40 (U1 (jJ ws k m) 225 true) (U1 (jJ ws m m) 225 true) (by(rw[show k=m from by omega])) (Hn.last ZD 0 (⟨om,⟨⟩⟩:(hcl2:ab (jJ ws m m)=true)×'Unit) rfl [(0,0),(8,8),(16,16),(24,24),(32,32),(40,40)] vl)))))) (fun|⟨k,hk,hcl,_⟩=>by kernel_rfl) ⟨(0),om,om,⟨⟩⟩ [(0,0),(8,8),(16,16),(24,24),(32,32),(48,48)] vl (ck (fun|⟨hcl2,_⟩=>(.s 6 (.ow (2*(N:Int)) (.s 2 (.ow (2*(N:Int)-2) (.s 19 (.ow (m-1) (.s 1 (.blk 80 80 (U1 [zI (2*(N:Int)-2)] 3 false) (U1 [zN (2*N-2)] 3 false) (by(exact Jf om)) (Hn.inl T_ok ah false 19 168 (aq Tryz.prog 177 0) (λ(x:(k:Nat)×'(n:Nat)×'(o:Z1)×'(hk:k<=m)×'(hT:LnT ws S L k n o T)×'Unit)=>match x with|⟨k,n,o,hk,hT,_⟩=>Vn [(0,D.yl 160 160),(1,Vh 112 112 0),(3,iD ((k:Int)-1))] [⟨0,0,0,0,.b ⟨map nD S,3,true⟩⟩,⟨8,8,8,8,.b ⟨[U6 0 0 0 N 1],152,false⟩⟩,⟨16,16,16,16,.b ⟨o.map dB,5,true⟩⟩,⟨24,24,24,24,.b ⟨[U6 16 16 0 L 1],24,false⟩⟩,⟨32,32,32,32,.b ⟨map nD ws,3,true⟩⟩,⟨40,40,40,40,.b ⟨jJ ws m m,225,true⟩⟩,⟨80,80,80,80,.b ⟨[nD n],3,false⟩⟩,⟨112,112,112,112,.b ⟨[U6 40 40 0 m 1],224,false⟩⟩,⟨160,160,160,160,.l WE none (rangeAt Tryz.prog 108 0).1 (rangeAt Tryz.prog 108 0).2.1 (rangeAt Tryz.prog 108 0).2.2 126 [(63,zN m),(87,zI (2*(N:Int))),(5,zI 0),(9,U6 32 32 0 N 1),(89,U6 40 40 0 m 1),(85,U6 0 0 0 N 1),(4,zS),(8,Vh 24 24 0),(88,zI (2*(N:Int)-2)),(12,U6 40 40 0 m 1),(6,Vh 8 8 0),(90,WJ (VU 177) [] [Vh 112 112 0]),(14,Vh 80 80 0),(86,zN N)]⟩] 240) (λ(x:(k:Nat)×'(n:Nat)×'(o:Z1)×'(hk:k<=m)×'(hT:LnT ws S L k n o T)×'Unit)=>match x with|⟨k,n,o,hk,hT,_⟩=>k) [⟨(n2:Nat)×'Unit,.exit 0,λ x=>match x with|⟨n2,_⟩=>Vn [(0,D.yl 160 160),(1,Vh 112 112 0)] [⟨0,0,0,0,.b ⟨map nD S,3,true⟩⟩,⟨8,8,8,8,.b ⟨[U6 0 0 0 N 1],152,false⟩⟩,⟨16,16,16,16,.b ⟨T.map dB,5,true⟩⟩,⟨24,24,24,24,.b ⟨[U6 16 16 0 L 1],24,false⟩⟩,⟨32,32,32,32,.b ⟨map nD ws,3,true⟩⟩,⟨40,40,40,40,.b ⟨jJ ws m m,225,true⟩⟩,⟨80,80,80,80,.b ⟨[nD n2],3,false⟩⟩,⟨112,112,112,112,.b ⟨[U6 40 40 0 m 1],224,false⟩⟩,⟨160,160,160,160,.l WE none (rangeAt Tryz.prog 108 0).1 (rangeAt Tryz.prog 108 0).2.1 (rangeAt Tryz.prog 108 0).2.2 126 [(63,zN m),(87,zI (2*(N:Int))),(5,zI 0),(9,U6 32 32 0 N 1),(89,U6 40 40 0 m 1),(85,U6 0 0 0 N 1),(4,zS),(8,Vh 24 24 0),(88,zI (2*(N:Int)-2)),(12,U6 40 40 0 m 1),(6,Vh 8 8 0),(90,WJ (VU 177) [] [Vh 112 112 0]),(14,Vh 80 80 0),(86,zN N)]⟩] 240⟩] 1000 64 (fun|⟨k,n,o,hk,hT,_⟩,Q,ZA,ZD=>(.s 3 (.bd (0<=(k:Int)-1) (λ p3 Z4=>(.s 7 (.chk (decide (0<=(k:Int)-1)&&decide ((k:Int)-1<m)) PU (.s 2 (.opt ((jJ ws m m)[0+AB ((k:Int)-1)*1]?) (Gg (ay ws (AB ((k:Int)-1)))) (@Dc ws (m) (m) (AB ((k:Int)-1)) om om) (.s 8 (.chk (aU none (some (n:Int)) none (length (ay ws (AB ((k:Int)-1))))&&true) (by(have z:=hT.i.nextk om (((k:Int)-1).toNat) om;have z2:=hT.l;have z3:=dr ws (((k:Int)-1).toNat);have z4:(take n (ay ws ((k:Int)-1).toNat)).length=n:=Wg z.1;exact ri rfl om)) (.s 2 (.val 17 (zI 0) (zN (dR (ay ws (AB ((k:Int)-1))) 0)) (by(rw[PT];rfl)) (.val 95 (Vl false n 2 (take (n*2) (flatMap dF (ay ws (AB ((k:Int)-1)))))) (Vl false n 2 (flatMap dF (take n (ay ws (AB ((k:Int)-1)))))) (by(refine congrArg (Vl false n 2) ?_;refine yp ?_ _ _;exact λ _=>rfl)) (Hn.inl T_ok ah true 126 312 (aq Tryz.prog 108 2) (λ(x:(j:Nat)×'(hj:j<=n)×'Unit)=>match x with|⟨j,hj,_⟩=>Vn [(4,zS),(5,zI 0),(6,Vh 8 8 0),(8,Vh 24 24 0),(14,Vh 80 80 0),(16,Vl false (length (ay ws (AB ((k:Int)-1)))) 2 (flatMap dF (ay ws (AB ((k:Int)-1))))),(17,nD (dR (ay ws ((k:Int)-1).toNat) j)),(90,WJ (VU 177) [] [Vh 112 112 0]),(92,Vl false (length (ay ws (AB ((k:Int)-1)))) 2 (flatMap dF (ay ws (AB ((k:Int)-1))))),(93,Vl false (length (ay ws (AB ((k:Int)-1)))) 2 (flatMap dF (ay ws (AB ((k:Int)-1))))),(94,zN n),(95,.sl false n 2 ((take n (ay ws ((k:Int)-1).toNat)).flatMap dF)),(96,zN n),(97,nD j)] [⟨0,0,0,0,.b ⟨map nD S,3,true⟩⟩,⟨8,8,8,8,.b ⟨[U6 0 0 0 N 1],152,false⟩⟩,⟨16,16,16,16,.b ⟨map dB o,5,true⟩⟩,⟨24,24,24,24,.b ⟨[U6 16 16 0 L 1],24,false⟩⟩,⟨32,32,32,32,.b ⟨map nD ws,3,true⟩⟩,⟨40,40,40,40,.b ⟨jJ ws m m,225,true⟩⟩,⟨80,80,80,80,.b ⟨[zN n],3,false⟩⟩,⟨112,112,112,112,.b ⟨[U6 40 40 0 m 1],224,false⟩⟩,⟨160,160,160,160,.l X8 none (rangeAt Tryz.prog 108 0).1 (rangeAt Tryz.prog 108 0).2.1 (rangeAt Tryz.prog 108 0).2.2 126 [(63,zN m),(87,zI (2*(N:Int))),(5,zI 0),(9,U6 32 32 0 N 1),(89,U6 40 40 0 m 1),(85,U6 0 0 0 N 1),(4,zS),(8,Vh 24 24 0),(88,zI (2*(N:Int)-2)),(12,U6 40 40 0 m 1),(6,Vh 8 8 0),(90,WJ (VU 177) [] [Vh 112 112 0]),(14,Vh 80 80 0),(86,zN N)]⟩] 384) (λ(x:(j:Nat)×'(hj:j<=n)×'Unit)=>match x with|⟨j,hj,_⟩=>n-j) [⟨Unit,.exit 6,λ x=>match x with|()=>Vn [(4,zS),(5,zI 0),(6,Vh 8 8 0),(8,Vh 24 24 0),(14,Vh 80 80 0),(16,Vl false (length (ay ws (AB ((k:Int)-1)))) 2 (flatMap dF (ay ws (AB ((k:Int)-1))))),(17,nD (dR (ay ws ((k:Int)-1).toNat) n)),(90,WJ (VU 177) [] [Vh 112 112 0]),(92,Vl false (length (ay ws (AB ((k:Int)-1)))) 2 (flatMap dF (ay ws (AB ((k:Int)-1))))),(93,Vl false (length (ay ws (AB ((k:Int)-1)))) 2 (flatMap dF (ay ws (AB ((k:Int)-1))))),(94,zN n),(96,zN n),(97,nD n)] [⟨0,0,0,0,.b ⟨map nD S,3,true⟩⟩,⟨8,8,8,8,.b ⟨[U6 0 0 0 N 1],152,false⟩⟩,⟨16,16,16,16,.b ⟨map dB o,5,true⟩⟩,⟨24,24,24,24,.b ⟨[U6 16 16 0 L 1],24,false⟩⟩,⟨32,32,32,32,.b ⟨map nD ws,3,true⟩⟩,⟨40,40,40,40,.b ⟨jJ ws m m,225,true⟩⟩,⟨80,80,80,80,.b ⟨[zN n],3,false⟩⟩,⟨112,112,112,112,.b ⟨[U6 40 40 0 m 1],224,false⟩⟩,⟨160,160,160,160,.l X8 none (rangeAt Tryz.prog 108 0).1 (rangeAt Tryz.prog 108 0).2.1 (rangeAt Tryz.prog 108 0).2.2 126 [(63,zN m),(87,zI (2*(N:Int))),(5,zI 0),(9,U6 32 32 0 N 1),(89,U6 40 40 0 m 1),(85,U6 0 0 0 N 1),(4,zS),(8,Vh 24 24 0),(88,zI (2*(N:Int)-2)),(12,U6 40 40 0 m 1),(6,Vh 8 8 0),(90,WJ (VU 177) [] [Vh 112 112 0]),(14,Vh 80 80 0),(86,zN N)]⟩] 384⟩] 1000 64 (fun|⟨j,hj,_⟩,Q,Z9,ZC=>(.s 2 (.bd ((j:Int)<n) (λ p4 Z3=>(.s 1 (.chk (true&&decide ((j:Int)<n)&&true) PU (.s 2 (.chk (U7 (j*2+2) (length (flatMap dF (take n (ay ws (AB ((k:Int)-1))))))) (by(rw[ba (k:=2) (λ(x:Pc)=>(rfl:(dF x).length=2)),Vg];refine U8 ?_;have z:=hT.i.nextk om (((k:Int)-1).toNat) om;have z2:=hT.l;have z3:=dr ws (((k:Int)-1).toNat);have z4:(take n (ay ws ((k:Int)-1).toNat)).length=n:=Wg z.1;omega)) (.lst (take 2 (drop (j*2) (flatMap dF (take n (ay ws (AB ((k:Int)-1))))))) ([zN (Pc.w (getD (take n (ay ws (AB ((k:Int)-1)))) j mq)),D.v (.bool (Pc.p (getD (take n (ay ws (AB ((k:Int)-1)))) j mq)))]) (aD (k:=2) (i:=j) (λ _=>rfl) Nf om) (.s 11 (.br (Pc.p (getD (take n (ay ws (AB ((k:Int)-1)))) j mq)) (λ p5=>(.s 3 (.op ((↑(dR (ay ws (AB ((k:Int)-1))) j):Int)+1) (by(have z:=hT.i.nextk om (((k:Int)-1).toNat) om;have z2:=hT.l;have z3:=dr ws (((k:Int)-1).toNat);have z4:(take n (ay ws ((k:Int)-1).toNat)).length=n:=Wg z.1;have h7:=C7 (ay ws ((k:Int)-1).toNat) j;omega)) (.s 3 (.op (j+1) Nf (.s 1 (.val 17 (zI ((↑(dR (ay ws (AB ((k:Int)-1))) j):Int)+1)) (zN (dR (ay ws (AB ((k:Int)-1))) (j+1))) (by(have z:=hT.i.nextk om (((k:Int)-1).toNat) om;have z2:=hT.l;have z3:=dr ws (((k:Int)-1).toNat);have z4:(take n (ay ws ((k:Int)-1).toNat)).length=n:=Wg z.1;refine aR ?_;rw[PX (n:=n) om z.1 aF];omega)) (.val 97 (zI (j+1)) (zN (j+1)) Nd (Hn.next Z9 ⟨(j+1),om,⟨⟩⟩ UA [(0,0),(8,8),(16,16),(24,24),(32,32),(40,40),(80,80),(112,112),(160,160)] vl))))))))) (λ p5=>(.s 2 (.op (j+1) Nf (.s 1 (.val 17 (zN (dR (ay ws (AB ((k:Int)-1))) j)) (zN (dR (ay ws (AB ((k:Int)-1))) (j+1))) (by(have z:=hT.i.nextk om (((k:Int)-1).toNat) om;have z2:=hT.l;have z3:=dr ws (((k:Int)-1).toNat);have z4:(take n (ay ws ((k:Int)-1).toNat)).length=n:=Wg z.1;rw[PY (n:=n) om z.1 aF])) (.val 97 (zI (j+1)) (zN (j+1)) Nd (Hn.next Z9 ⟨(j+1),om,⟨⟩⟩ UA [(0,0),(8,8),(16,16),(24,24),(32,32),(40,40),(80,80),(112,112),(160,160)] vl))))))))))))))) (λ p4 Z3=>(.val 17 (zN (dR (ay ws (AB ((k:Int)-1))) j)) (zN (dR (ay ws (AB ((k:Int)-1))) n)) (by(rw[show j=n from by omega])) (.val 97 (zN j) (zN n) PU (Hn.last ZC 0 (():Unit) rfl [(0,0),(8,8),(16,16),(24,24),(32,32),(40,40),(80,80),(112,112),(160,160)] vl))))))) (fun|⟨j,hj,_⟩=>by kernel_rfl) ⟨(0),om,⟨⟩⟩ [(0,0),(8,8),(16,16),(24,24),(32,32),(40,40),(80,80),(112,112),(160,160)] vl (ck (fun|()=>(.s 9 (.op (n-(↑(dR (ay ws (AB ((k:Int)-1))) n):Int)) Nf (.s 1 (.chk (aU none (some ((n:Int)-(↑(dR (ay ws (AB ((k:Int)-1))) n):Int))) none N&&true) (by(have z:=hT.i.nextk om (((k:Int)-1).toNat) om;have z2:=hT.l;have z3:=dr ws (((k:Int)-1).toNat);have z4:(take n (ay ws ((k:Int)-1).toNat)).length=n:=Wg z.1;refine ri (n:=n-dR (ay ws ((k:Int)-1).toNat) n) ?_ ?_<;>omega)) (.s 2 (.blk 16 16 (U1 (map dB o) 5 true) (U1 (map dB (di o S 0)) 5 true) (by(rw[wY])) (Hn.inl T_ok ah true 126 312 (aq Tryz.prog 108 3) (λ(x:(j:Nat)×'(hj:j<=n-dR (ay ws ((k:Int)-1).toNat) n)×'Unit)=>match x with|⟨j,hj,_⟩=>Vn [(4,zS),(5,zI 0),(6,Vh 8 8 0),(8,Vh 24 24 0),(14,Vh 80 80 0),(16,Vl false (length (ay ws (AB ((k:Int)-1)))) 2 (flatMap dF (ay ws (AB ((k:Int)-1))))),(17,zN (dR (ay ws (AB ((k:Int)-1))) n)),(90,WJ (VU 177) [] [Vh 112 112 0]),(92,Vl false (length (ay ws (AB ((k:Int)-1)))) 2 (flatMap dF (ay ws (AB ((k:Int)-1))))),(93,Vl false (length (ay ws (AB ((k:Int)-1)))) 2 (flatMap dF (ay ws (AB ((k:Int)-1))))),(94,zN n),(96,zN n),(97,zN n),(106,U6 0 0 0 N 1),(107,zN n),(108,zN (dR (ay ws (AB ((k:Int)-1))) n)),(109,zI (n-(↑(dR (ay ws (AB ((k:Int)-1))) n):Int))),(110,U6 0 0 0 (AB ((n:Int)-(↑(dR (ay ws (AB ((k:Int)-1))) n):Int))) 1),(111,zN (AB ((n:Int)-(↑(dR (ay ws (AB ((k:Int)-1))) n):Int)))),(112,nD j)] [⟨0,0,0,0,.b ⟨map nD S,3,true⟩⟩,⟨8,8,8,8,.b ⟨[U6 0 0 0 N 1],152,false⟩⟩,⟨16,16,16,16,.b ⟨(di o S j).map dB,5,true⟩⟩,⟨24,24,24,24,.b ⟨[U6 16 16 0 L 1],24,false⟩⟩,⟨32,32,32,32,.b ⟨map nD ws,3,true⟩⟩,⟨40,40,40,40,.b ⟨jJ ws m m,225,true⟩⟩,⟨80,80,80,80,.b ⟨[zN n],3,false⟩⟩,⟨112,112,112,112,.b ⟨[U6 40 40 0 m 1],224,false⟩⟩,⟨160,160,160,160,.l X8 none (rangeAt Tryz.prog 108 0).1 (rangeAt Tryz.prog 108 0).2.1 (rangeAt Tryz.prog 108 0).2.2 126 [(63,zN m),(87,zI (2*(N:Int))),(5,zI 0),(9,U6 32 32 0 N 1),(89,U6 40 40 0 m 1),(85,U6 0 0 0 N 1),(4,zS),(8,Vh 24 24 0),(88,zI (2*(N:Int)-2)),(12,U6 40 40 0 m 1),(6,Vh 8 8 0),(90,WJ (VU 177) [] [Vh 112 112 0]),(14,Vh 80 80 0),(86,zN N)]⟩] 384) (λ(x:(j:Nat)×'(hj:j<=n-dR (ay ws ((k:Int)-1).toNat) n)×'Unit)=>match x with|⟨j,hj,_⟩=>n-dR (ay ws ((k:Int)-1).toNat) n-j) [⟨Unit,.exit 8,λ x=>match x with|()=>Vn [(4,zS),(5,zI 0),(6,Vh 8 8 0),(8,Vh 24 24 0),(14,Vh 80 80 0),(16,Vl false (length (ay ws (AB ((k:Int)-1)))) 2 (flatMap dF (ay ws (AB ((k:Int)-1))))),(17,zN (dR (ay ws (AB ((k:Int)-1))) n)),(90,WJ (VU 177) [] [Vh 112 112 0]),(92,Vl false (length (ay ws (AB ((k:Int)-1)))) 2 (flatMap dF (ay ws (AB ((k:Int)-1))))),(93,Vl false (length (ay ws (AB ((k:Int)-1)))) 2 (flatMap dF (ay ws (AB ((k:Int)-1))))),(94,zN n),(96,zN n),(97,zN n),(106,U6 0 0 0 N 1),(107,zN n),(108,zN (dR (ay ws (AB ((k:Int)-1))) n)),(109,zI (n-(↑(dR (ay ws (AB ((k:Int)-1))) n):Int))),(110,U6 0 0 0 (AB ((n:Int)-(↑(dR (ay ws (AB ((k:Int)-1))) n):Int))) 1),(111,zN (AB ((n:Int)-(↑(dR (ay ws (AB ((k:Int)-1))) n):Int))))] [⟨0,0,0,0,.b ⟨map nD S,3,true⟩⟩,⟨8,8,8,8,.b ⟨[U6 0 0 0 N 1],152,false⟩⟩,⟨16,16,16,16,.b ⟨(di o S (n-dR (ay ws ((k:Int)-1).toNat) n)).map dB,5,true⟩⟩,⟨24,24,24,24,.b ⟨[U6 16 16 0 L 1],24,false⟩⟩,⟨32,32,32,32,.b ⟨map nD ws,3,true⟩⟩,⟨40,40,40,40,.b ⟨jJ ws m m,225,true⟩⟩,⟨80,80,80,80,.b ⟨[zN n],3,false⟩⟩,⟨112,112,112,112,.b ⟨[U6 40 40 0 m 1],224,false⟩⟩,⟨160,160,160,160,.l X8 none (rangeAt Tryz.prog 108 0).1 (rangeAt Tryz.prog 108 0).2.1 (rangeAt Tryz.prog 108 0).2.2 126 [(63,zN m),(87,zI (2*(N:Int))),(5,zI 0),(9,U6 32 32 0 N 1),(89,U6 40 40 0 m 1),(85,U6 0 0 0 N 1),(4,zS),(8,Vh 24 24 0),(88,zI (2*(N:Int)-2)),(12,U6 40 40 0 m 1),(6,Vh 8 8 0),(90,WJ (VU 177) [] [Vh 112 112 0]),(14,Vh 80 80 0),(86,zN N)]⟩] 384⟩] 1000 64 (fun|⟨j,hj,_⟩,Q,Z9,ZC=>(.s 2 (.bd ((j:Int)<(↑(AB ((n:Int)-(↑(dR (ay ws (AB ((k:Int)-1))) n):Int))):Int)) (λ p6 p6f=>(.s 1 (.chk (true&&decide ((j:Int)<(↑(AB ((n:Int)-(↑(dR (ay ws (AB ((k:Int)-1))) n):Int))):Int))) aF (.s 2 (.opt ((map nD S)[0+j*1]?) (nD (getD S (0+j*1) mq)) (av _ _ PU) (.s 6 (.chk (true&&decide ((↑(getD S (0+j*1) mq):Int)<(L:Int))) UB (.s 2 (.opt ((map dB (di o S j))[0+getD S (0+j*1) mq*1]?) (dB (getD (di o S j) (0+getD S (0+j*1) mq*1) mq)) (av _ _ (by(have z:=hT.i.nextk om (((k:Int)-1).toNat) om;have z2:=hT.l;have z3:=dr ws (((k:Int)-1).toNat);have z4:(take n (ay ws ((k:Int)-1).toNat)).length=n:=Wg z.1;have h9:=hA.at (t:=0+j*1) om;have h8:=dG o S j;omega))) (.s 2 (.opt (ax .u8 ((↑(U3 (getD (di o S j) (0+getD S (0+j*1) mq*1) mq)):Int)+1)) (bI (((↑(U3 (getD (di o S j) (0+getD S (0+j*1) mq*1) mq)):Int)+1)%256)) (aL _ _) (.s 1 (.chk (true&&decide ((↑(getD S (0+j*1) mq):Int)<(L:Int))) UB (.s 1 (.chk (true&&U7 (0+getD S (0+j*1) mq*1+1) (length (map dB (di o S j)))) (by(rw[Vj];have z:=hT.i.nextk om (((k:Int)-1).toNat) om;have z2:=hT.l;have z3:=dr ws (((k:Int)-1).toNat);have z4:(take n (ay ws ((k:Int)-1).toNat)).length=n:=Wg z.1;have h9:=hA.at (t:=0+j*1) om;have h8:=dG o S j;simp only[VM];refine U8 ?_;omega)) (.lst (ai (map dB (di o S j)) (0+getD S (0+j*1) mq*1) [bI (((↑(U3 (getD (di o S j) (0+getD S (0+j*1) mq*1) mq)):Int)+1)%256)]) (ai (map dB (di o S j)) (getD S j mq) [bI (((↑(U3 (getD (di o S j) (getD S j mq) mq)):Int)+1)%256)]) (by(simp;done)) (.s 2 (.op (j+1) Nf (.s 1 (.val 112 (zI (j+1)) (zN (j+1)) Nd (.blk 16 16 (U1 (ai (map dB (di o S j)) (getD S j mq) [bI (((↑(U3 (getD (di o S j) (getD S j mq) mq)):Int)+1)%256)]) 5 true) (U1 (map dB (di o S (j+1))) 5 true) (by(have z:=hT.i.nextk om (((k:Int)-1).toNat) om;have z2:=hT.l;have z3:=dr ws (((k:Int)-1).toNat);have z4:(take n (ay ws ((k:Int)-1).toNat)).length=n:=Wg z.1;have h9:=hA.at (t:=0+j*1) om;have h8:=dG o S j;refine aB (PZ om ?_ ?_ ?_)<;>first|(simp only[VK,VG];done)|rfl|(simp only[VK,VG]at *;omega))) (Hn.next Z9 ⟨(j+1),om,⟨⟩⟩ (by show n-dR (ay ws (AB ((k:Int)-1))) n-(j+1)<n-dR (ay ws (AB ((k:Int)-1))) n-j;clear Z9 ZC ZA ZD;omega) [(0,0),(8,8),(16,16),(24,24),(32,32),(40,40),(80,80),(112,112),(160,160)] vl)))))))))))))))))))))) (λ p6 p6f=>(.blk 16 16 (U1 (map dB (di o S j)) 5 true) (U1 (map dB (di o S (n-dR (ay ws (AB ((k:Int)-1))) n))) 5 true) (by(rw[show j=n-dR (ay ws ((k:Int)-1).toNat) n from by omega])) (Hn.last ZC 0 (():Unit) rfl [(0,0),(8,8),(16,16),(24,24),(32,32),(40,40),(80,80),(112,112),(160,160)] vl)))))) (fun|⟨j,hj,_⟩=>by kernel_rfl) ⟨(0),om,⟨⟩⟩ [(0,0),(8,8),(16,16),(24,24),(32,32),(40,40),(80,80),(112,112),(160,160)] vl (ck (fun|()=>(.s 3 (.op (2*(↑(dR (ay ws (AB ((k:Int)-1))) n):Int)) Nf (.s 8 (.ow (k-1-1) (.s 1 (.val 3 (zI (k-1-1)) (zI ((↑(k-1):Int)-1)) PU (.blk 80 80 (U1 [zI (2*(↑(dR (ay ws (AB ((k:Int)-1))) n):Int))] 3 false) (U1 [zN (2*dR (ay ws (AB ((k:Int)-1))) n)] 3 false) (by(exact Jf om)) (Hn.next ZA ⟨(k-1),(2*dR (ay ws ((k:Int)-1).toNat) n),(di o S (n-dR (ay ws ((k:Int)-1).toNat) n)),om,(by(exact hT.next' om _ om)),⟨⟩⟩ (by show k-1<k;clear ZA ZD;omega) [(0,0),(8,8),(16,16),(24,24),(32,32),(40,40),(80,80),(112,112),(160,160)] vl)))))))))))))))))))))))))))))) (λ p3 Z4=>(.blk 16 16 (U1 (map dB o) 5 true) (U1 (map dB T) 5 true) (by(rw[hT.last om])) (Hn.last ZD 0 (⟨(n),⟨⟩⟩:(n2:Nat)×'Unit) rfl [(0,0),(8,8),(16,16),(24,24),(32,32),(40,40),(80,80),(112,112),(160,160)] vl)))))) (fun|⟨k,n,o,hk,hT,_⟩=>by kernel_rfl) ⟨(m),(2*N-2),(replicate L 0),om,om,⟨⟩⟩ [(0,0),(8,8),(16,16),(24,24),(32,32),(40,40),(80,80),(112,112),(160,160)] vl (ck (fun|⟨n2,_⟩=>(.s 5 (.out [16] [16] (V2 [U6 0 0 0 L 1,zI 0]) [U1 (map dB T) 5 true] R (ok _ _ wr wr))))))))))))))))))))))))))))))))))))) kr
theorem RT {p:Prop}(h:p:=by(have h9:=hA.at (t:=0) om;refine decide_eq_true ?_;omega)):p:=h
theorem UC {p:Prop}(h:p:=by(have h9:((Fy.bytes:Nat):Int)=1:=rfl;rw[h9];simp;omega)):p:=h
theorem P2 (W:List Nat)(L:Nat)(hL:L=W.length)(hL2:L<=320)(hB:∀t,W.getD t mq<=1073741824)(m:Nat)(hm:1<=m∧m<=15)(S:List Nat)(hS:gJ W=S)(N:Nat)(hN:N=S.length)(hNm:N<=2^m)(hA:bL L S)(hN3:N<=320)(h2:N=1):S0 108 [.sl false L 1 (W.map nD),nD m] [] (.tup [.ref 0 0 0 L 1,iD 0]) [⟨((Vk L (0:UInt8)).set (S.getD 0 mq) (V6 1)).map dB, 5,true⟩]:=by
 refine SpecH.run T_ok ah Tryz.func108 rfl rfl rfl ⟨bn _,trivial⟩ rfl 1000 64 (λ R ok=>(.s 5 (.cl 144 false [] (.fn Ku (@tb (W) (L) om om om (m) om (S) aF (N) aF om)) (.s 18 (.chk (true&&decide ((L:Int)<=L)&&true&&true&&true&&true&&decide ((↑(TI.bytes Fy):Int)*(L:Int)<=140737488355328)) UC (.s 11 (.t ((N:Int)==1) RT (.s 8 (.chk (true&&decide (0<(N:Int))) RT (.s 2 (.opt ((map nD S)[0]?) (nD (getD S 0 mq)) (av _ _ om) (.s 1 (.chk (true&&decide ((↑(getD S 0 mq):Int)<(L:Int))) RT (.s 1 (.chk (true&&U7 (0+getD S 0 mq*1+1) (length (dJ [bI 0] (L*1)))) (by(have h9:=hA.at (t:=0) om;rw[y0,Vj,VJ,VM];refine U8 ?_;omega)) (.lst (ai (dJ [bI 0] (L*1)) (0+getD S 0 mq*1) [bI 1]) (ai (dJ [bI 0] L) (getD S 0 mq) [bI 1]) (by(simp;done)) (.s 6 (.t (decide ((N:Int)<2)) RT (.s 5 (.out [120] [120] (V2 [U6 0 0 0 L 1,zI 0]) [U1 (ai (dJ [bI 0] L) (getD S 0 mq) [bI 1]) 5 true] R (ok _ _ wr (by(have h9:=hA.at (t:=0) om;have e:=y0 L;rw[VG]at e;rw[e];exact congrArg (λ z=>[U1 z 5 true]) (Cu (a:=1) (by decide) (by rw[VJ];omega))))))))))))))))))))))))) kr
theorem P3 (W:List Nat)(L:Nat)(hL:L=W.length)(hL2:L<=320)(hB:∀t,W.getD t mq<=1073741824)(m:Nat)(hm:1<=m∧m<=15)(S:List Nat)(hS:gJ W=S)(N:Nat)(hN:N=S.length)(hNm:N<=2^m)(hA:bL L S)(hN3:N<=320)(h2:N=0):S0 108 [.sl false L 1 (W.map nD),nD m] [] (.tup [.ref 0 0 0 L 1,iD 0]) [⟨(Vk L (0:UInt8)).map dB, 5,true⟩]:=by
 refine SpecH.run T_ok ah Tryz.func108 rfl rfl rfl ⟨bn _,trivial⟩ rfl 1000 64 (λ R ok=>(.s 5 (.cl 144 false [] (.fn Ku (@tb (W) (L) om om om (m) om (S) aF (N) aF om)) (.s 18 (.chk (true&&decide ((L:Int)<=L)&&true&&true&&true&&true&&decide ((↑(TI.bytes Fy):Int)*(L:Int)<=140737488355328)) UC (.s 11 (.f ((N:Int)==1) (by(refine decide_eq_false ?_;(omega))) (.s 6 (.t (decide ((N:Int)<2)) (by(refine decide_eq_true ?_;(omega))) (.s 5 (.out [120] [120] (V2 [U6 0 0 0 L 1,zI 0]) [U1 (dJ [bI 0] (L*1)) 5 true] R (ok _ _ wr (by(rw[y0])))))))))))))) kr
def AW (W S:List Nat)(m:Nat):Z1:=
 if S.length=0 then Vk W.length 0 else if S.length=1 then(Vk W.length 0).set (S.getD 0 mq) (V6 1)
 else lnF (sX W S S.length) S m (2*S.length-2) (Vk W.length 0)
def b9 (W:List Nat)(m:Nat):Z1:=lk W (AW W (gJ W) m)
theorem nZ (W:List Nat)(m:Nat):b9 W m=AW W (gJ W) m:=au _ _
theorem tf (ws S:List Nat):∀(k n:Nat) (o:Z1),(lnF ws S k n o).length=o.length
 |0,_,_=>rfl
 |k+1,n,o=>by rw[lnF,tf ws S k,dG]
theorem lU (W:List Nat)(m:Nat):(b9 W m).length=W.length:=by
 rw[nZ,AW]
 split
 ·rw[VJ]
 ·split
  ·rw[Xu,VJ]
  ·rw[tf,VJ]
theorem P4 (W:List Nat)(L:Nat)(hL:L=W.length)(hL2:L<=320)(hB:∀t,W.getD t mq<=1073741824)(m:Nat)(hm:1<=m∧m<=15)(hNm:(gw W L).length<=2^m):S0 108 [.sl false L 1 (W.map nD),nD m] [] (.tup [.ref 0 0 0 L 1,iD 0]) [⟨(b9 W m).map dB, 5,true⟩]:=by
 have hp:=fB W;have hl:=hp.length_eq;have hA:bL L (gJ W):=by rw[hL];exact sV.perm hp
 have h3:=kT W L;rw[<-hL]at hl;rw[nZ,AW]
 by_cases c0:(gJ W).length=0
 ·rw[ZF c0,<-hL]
  exact P3 W L hL hL2 hB m hm _ rfl _ rfl om hA om c0
 ·rw[ZE c0]
  by_cases c1:(gJ W).length=1
  ·rw[ZF c1,<-hL]
   exact P2 W L hL hL2 hB m hm _ rfl _ rfl om hA om c1
  ·rw[ZE c1,<-hL]
   have hwl:(sX W (gJ W) (gJ W).length).length=(gJ W).length:=nX (Vd _);refine P1 W L hL hL2 hB m hm _ rfl _ rfl om hA om om _ rfl hwl (λ w hw=>?_) _ ⟨?_,VJ,rfl⟩
   ·rw[pq]at hw
    obtain⟨i,_,rfl⟩:=List.mem_map.1 hw;exact hB i
   ·have q:=LnI.first (ws:=sX W (gJ W) (gJ W).length) hm.1 (by rw[hwl];omega) (by rw[hwl];omega)
    rwa [hwl]at q
theorem RU {p:Prop}(h:p:=by rw[VJ]):p:=h
def AY (l:List Pc):Nat:=(l.filter (λ x=>!x.p)).length
def za (l:List Pc):Nat:=(l.filter (·.p)).length
def sW (l:List Pc):List Nat:=(l.filter (λ x=>!x.p)).map (·.w)
theorem tg (a b:List Pc):AY (a++b)=AY a+AY b:=by unfold AY;rw[Wy,U2]
theorem zb (a b:List Pc):za (a++b)=za a+za b:=by unfold za;rw[Wy,U2]
theorem pu (ws:List Nat):AY (jb ws)=ws.length∧za (jb ws)=0:=by
 unfold AY za jb;refine⟨?_,?_⟩
 ·rw[List.filter_eq_self.2 (λ x hx=>by obtain⟨w,_,rfl⟩:=List.mem_map.1 hx;rfl),Vj]
 ·rw[List.filter_eq_nil_iff.2 (λ x hx=>by obtain⟨w,_,rfl⟩:=List.mem_map.1 hx;simp)];rfl
theorem pv (ws:List Nat)(n:Nat):(jb ws).take n=jb (ws.take n):=by unfold jb;rw[List.map_take]
theorem De (ws:List Nat):sW (jb ws)=ws:=by
 unfold sW jb;rw[List.filter_eq_self.2 (λ x hx=>by obtain⟨w,_,rfl⟩:=List.mem_map.1 hx;rfl),List.map_map];exact List.map_id ws
theorem Df (s:Nat):∀ws:List Nat,∃em,(fW s ws).1=jb em++[⟨s,true⟩]∧ws=em++(fW s ws).2∧∀u r,(fW s ws).2=u::r->s<u
 |[]=>⟨[],rfl,rfl,λ u r h=>by cases h⟩
 |w::r=>by
  rw[fW];split
  ·next q=>exact⟨[],rfl,rfl,λ u r' h=>by cases h;exact q⟩
  ·obtain⟨em,h1,h2,h3⟩:=Df s r
   exact⟨w::em,by rw[h1];rfl,by rw[XE,<-h2],h3⟩
theorem Dg:∀(row:List Pc) (ws:List Nat),sW (gx row ws)=ws
 |[],ws=>De ws
 |[_],ws=>De ws
 |x::y::r,ws=>by
  obtain⟨em,h1,h2,_⟩:=Df (x.w+y.w) ws;have ih:=Dg r (fW (x.w+y.w) ws).2;rw[gx,h1];unfold sW at *;rw[Wy,V4,ih,Wy,V4];have e:=De em;unfold sW at e;rw[e];show(em++[])++_=ws;rw[VS,<-h2]
theorem LC (ws:List Nat):∀k,sW (ay ws k)=ws
 |0=>by rw[<-sZ,iZ];exact Dg _ _
 |k+1=>by rw[<-pt,iZ];exact Dg _ _
theorem zd:∀(row:List Pc) (v ws:List Nat),sW row=v++ws->∀n,AY (row.take (2*za ((gx row ws).take n)))<=v.length+AY ((gx row ws).take n)
 |[],v,ws,_,n=>by
  have e:(gx [] ws).take n=jb (ws.take n):=pv ws n;rw[e,(pu _).2];exact VI _
 |[x],v,ws,_,n=>by
  have e:(gx [x] ws).take n=jb (ws.take n):=pv ws n;rw[e,(pu _).2];exact VI _
 |x::y::r,v,ws,h,n=>by
  obtain⟨em,h1,h2,h3⟩:=Df (x.w+y.w) ws;have ih:=zd r;rw[gx,h1];generalize(fW (x.w+y.w) ws).2=ws' at *;rcases VL em.length n with q|q
  ·have e:(jb em++[(⟨x.w+y.w,true⟩:Pc)]++gx r ws').take n=(jb em++[(⟨x.w+y.w,true⟩:Pc)])++(gx r ws').take (n-(em.length+1)):=by
    have l:(jb em++[(⟨x.w+y.w,true⟩:Pc)]).length=em.length+1:=by unfold jb;rw[U2,Vj];rfl
    rw[List.take_append,l,VB om]
   rw[e,zb,zb,tg,tg,(pu em).1,(pu em).2];show AY ((x::y::r).take (2*(0+1+_)))<=v.length+(em.length+0+_);generalize hZ:(gx r ws').take (n-(em.length+1))=Z;have hk:sW (x::y::r)=sW [x,y]++sW r:=by
    unfold sW;rw[show x::y::r=[x,y]++r from rfl,Wy,V4]
   have hs:∀u∈sW [x,y],u<=x.w+y.w:=λ u hu=>by
    obtain⟨p,hp,rfl⟩:=List.mem_map.1 hu;rcases List.mem_cons.1 (List.mem_filter.1 hp).1 with rfl|hp
    ·omega
    ·cases List.mem_singleton.1 hp;omega
   have hl:(sW [x,y]).length=AY [x,y]:=by unfold sW AY;rw[Vj]
   rw[hk,h2,<-Ve]at h;have hc:(sW [x,y]).length<=(v++em).length:=by
    rcases VL (v++em).length (sW [x,y]).length with z|z
    ·exfalso
     have g:(sW [x,y]++sW r)[(v++em).length]? =(v++em++ws')[(v++em).length]?:=by rw[h]
     rw[Vz z,Vs (Vd _),Wn,U4 z]at g
     cases hw:ws' with
     |nil=>rw[hw]at g;cases g
     |cons u t=>
      rw[hw]at g;have g2:(sW [x,y])[(v++em).length]=u:=Option.some.inj g;have:=hs _ (V3 z);have:=h3 u t hw;omega
    ·exact z
   have hr:sW r=(v++em).drop (sW [x,y]).length++ws':=by
    have g:=congrArg (VW (sW [x,y]).length) h
    rwa [List.drop_left,List.drop_append_of_le_length hc]at g
   have i2:=ih _ ws' hr (n-(em.length+1));rw[hZ,VH,U2,hl]at i2;rw[U2,hl]at hc;have e3:(x::y::r).take (2*(0+1+za Z))=[x,y]++r.take (2*za Z):=by
    rw[show 2*(0+1+za Z)=2*za Z+1+1 from by omega];rfl
   rw[e3,tg];omega
  ·have e:(jb em++[(⟨x.w+y.w,true⟩:Pc)]++gx r ws').take n=jb (em.take n):=by
    have l:n<=(jb em).length:=by unfold jb;rw[Vj];exact q
    rw[Ve,List.take_append_of_le_length l,pv]
   rw[e,(pu _).2];exact VI _
def Jh (l:List Nat)(j:Nat):List Nat:=(l.take j).map (· +1)++l.drop j
def pw (m:Nat):List Nat->Nat
 |[]=>0
 |x::r=>2^(m-x)+pw m r
theorem th (m:Nat)(a b:List Nat):pw m (a++b)=pw m a+pw m b:=by
 induction a with
 |nil=>simp[pw]
 |cons x a ih=>rw[XE,pw,pw,ih,Wh]
theorem lV (m d:Nat):∀a,pw m (Vk a d)=a*2^(m-d)
 |0=>by simp[pw]
 |a+1=>by rw[List.replicate_succ,pw,lV m d a,Nat.succ_mul,Nat.add_comm]
def Gh (ws:List Nat):Nat->Nat->List Nat->List Nat
 |0,_,l=>l
 |k+1,n,l=>Gh ws k (2*dR (ay ws k) n) (Jh l (n-dR (ay ws k) n))
theorem ze (a b d:Nat):Vk (a+b) d=Vk a d++Vk b d:=List.replicate_append_replicate.symm
structure KrI (ws:List Nat)(m k n a:Nat)(l:List Nat):Prop where
 i:LnI ws k n
 km:k<=m
 z:k=0->n=0
 nx:k≠0->n-dR (ay ws (k-1)) n<=a
 sh:∃r,l=Vk a (m-k)++r∧∀x∈r,x<=m-k
 ph:2*pw m l=2*2^m+n*2^k
theorem Di (l:List Pc):l.length=za l+AY l:=by unfold za AY;exact ta l
theorem Dj (row:List Pc)(n:Nat):dR row n=za (row.take n):=kU row n
theorem KrI.next {ws:List Nat}{m k n a:Nat}{l:List Nat}(h:KrI ws m (k+1) n a l):KrI ws m k (2*dR (ay ws k) n) (n-dR (ay ws k) n) (Jh l (n-dR (ay ws k) n)):=by
 have hn:=LnI.next h.i;have ha:=h.nx (Xi k);rw[Xj]at ha;obtain⟨r,hr,hx⟩:=h.sh;have hkm:=h.km;generalize hc:dR (ay ws k) n=c at *;refine⟨hn.2.2.2,by omega,λ hk=>?_,λ hk=>?_,?_,?_⟩
 ·subst hk
  have q:=yX (ay ws 0) n;rw[(mJ ws 0).2.1,ZF rfl,hc]at q;omega
 ·obtain⟨j,rfl⟩:∃j,k=j+1:=⟨k-1,by omega⟩
  rw[Xj];have q:=zd (ay ws j) [] ws (LC ws j) n;rw[<-iZ,pt,<-Dj,hc]at q;have q2:=Di ((ay ws (j+1)).take n);rw[<-Dj,hc,Vg]at q2;have q3:=Di ((ay ws j).take (2*c));have q4:=(hn.2.2.2).a (Xi j);rw[Xj]at q4;rw[<-Dj,Vg]at q3;have q5:([]:List Nat).length=0:=rfl;omega
 ·refine⟨Vk (a-(n-c)) (m-(k+1))++r,?_,λ x hx2=>?_⟩
  ·unfold Jh
   rw[hr,show a=(n-c)+(a-(n-c))from by omega,ze,Nat.add_sub_cancel_left,Ve,List.take_left' RU,List.drop_left' RU,W7,show m-(k+1)+1=m-k from by omega]
  ·rcases List.mem_append.1 hx2 with q|q
   ·have:=(List.mem_replicate.1 q).2;omega
   ·have:=hx x q;omega
 ·have hp:=h.ph
  have e:l=Vk (n-c) (m-(k+1))++(Vk (a-(n-c)) (m-(k+1))++r):=by
   rw[hr,<-Ve,<-ze,show n-c+(a-(n-c))=a from by omega]
  have e2:Jh l (n-c)=Vk (n-c) (m-k)++(Vk (a-(n-c)) (m-(k+1))++r):=by
   unfold Jh;rw[e,List.take_left' RU,List.drop_left' RU,W7,show m-(k+1)+1=m-k from by omega]
  rw[e,th,lV,show m-(m-(k+1))=k+1 from by omega]at hp;rw[e2,th,lV,show m-(m-k)=k from by omega];generalize pw m (Vk (a-(n-c)) (m-(k+1))++r)=Q at *;have e3:n=(n-c)+c:=by omega
  generalize n-c=b at *;subst e3;rw[V8]at hp;generalize 2^k=P at *;rw[Nat.add_mul,WR P 2,<-WA,<-WA,WR b 2,WR c 2,WA 2 b P,WA 2 c P]at hp;rw[WA 2 c P];omega
theorem KrI.last {ws:List Nat}{m:Nat}:∀(k n a:Nat) (l:List Nat),KrI ws m k n a l->pw m (Gh ws k n l)=2^m∧(∀x∈Gh ws k n l,x<=m)∧(Gh ws k n l).length=l.length
 |0,n,a,l,h=>by
  have hz:=h.z rfl;have hp:=h.ph;rw[hz,Nat.zero_mul]at hp;obtain⟨r,hr,hx⟩:=h.sh;refine⟨by rw[Gh];omega,λ x hx2=>?_,rfl⟩;rw[Gh,hr]at hx2;rcases List.mem_append.1 hx2 with q|q
  ·have:=(List.mem_replicate.1 q).2;omega
  ·have:=hx x q;omega
 |k+1,n,a,l,h=>by
  have q:=KrI.last k _ _ _ h.next;rw[Gh];refine⟨q.1,q.2.1,q.2.2.trans ?_⟩;unfold Jh;rw[U2,Vj,Vg,VH];omega
theorem zf {m:Nat}:∀{l:List Nat},pw m l=2^m->2<=l.length->∀x∈l,x≠0:=fun{l} h h2 x hx h0=>by
 obtain⟨a,b,rfl⟩:=List.append_of_mem hx;rw[th,pw,h0,Ya]at h;have pos:∀l:List Nat,l.length<=pw m l:=λ l=>by
  induction l with
  |nil=>exact Vd _
  |cons y l ih=>rw[pw,VE];have:=WD (m-y);omega
 have p1:=pos a;have p2:=pos b;rw[U2,VE]at h2;omega
theorem Dk {m:Nat}(hm:m<=15):∀l:List Nat,(∀x∈l,x<=m)->pw 15 l=2^(15-m)*pw m l
 |[],_=>rfl
 |x::r,h=>by
  have hx:=h x Vr;rw[pw,pw,Dk hm r (λ y hy=>h y (Vy _ hy)),XD,<-Y1,show 15-m+(m-x)=15-x from by omega]
theorem UD {p:Prop}(h:p:=by rw[Vj,Vg,Vj];omega):p:=h
def kG (f:Nat->Nat):List Nat->Nat
 |[]=>0
 |i::r=>f i+kG f r
theorem zg (f:Nat->Nat)(a b:List Nat):kG f (a++b)=kG f a+kG f b:=by
 induction a with
 |nil=>simp[kG]
 |cons x a ih=>rw[XE,kG,kG,ih,Wh]
theorem vn {f:Nat->Nat}{a b:List Nat}(h:a.Perm b):kG f a=kG f b:=by
 induction h with
 |nil=>rfl
 |cons x _ ih=>rw[kG,kG,ih]
 |swap x y l=>rw[kG,kG,kG,kG];omega
 |trans _ _ h1 h2=>exact h1.trans h2
theorem tj {f:Nat->Nat}{p:Nat->Bool}:∀l:List Nat,(∀i∈l,p i=false->f i=0)->kG f l=kG f (l.filter p)
 |[],_=>rfl
 |x::r,h=>by
  have ih:=tj r λ i hi=>h i (Vy _ hi)
  cases hp:p x
  ·rw[Xc (by simp[hp]),kG,h x Vr hp,ih,VK]
  ·rw[Xb hp,kG,kG,ih]
def kf (o:Z1)(i:Nat):Nat:=if(o.getD i mq).toNat=0 then 0 else 2^(15-(o.getD i mq).toNat)
def uf (o:Z1)(i:Nat):Nat:=if(o.getD i mq).toNat=0 then 0 else 1
theorem vo (o:Z1):∀k,k<=o.length->aW (o.take k)=kG (kf o) (Wa k)∧bg (o.take k)=kG (uf o) (Wa k)
 |0,_=>⟨rfl,rfl⟩
 |k+1,h=>by
  have ih:=vo o k om;rw[iQ om,kN om,XU,zg,zg,ih.1,ih.2];exact⟨rfl,rfl⟩
theorem Dl {W:List Nat}{o:Z1}(hl:o.length=W.length)(h0:∀i,i<W.length->W.getD i mq=0->o.getD i mq=0):aW o=kG (kf o) (gJ W)∧bg o=kG (uf o) (gJ W):=by
 have h:=vo o o.length (Vd _);rw[List.take_length,hl]at h;have hz:∀i,i<W.length->decide (0<W.getD i mq)=false->(o.getD i mq).toNat=0:=λ i hi hp=>by
  have hp:=of_decide_eq_false hp;rw[h0 i hi om];rfl
 rw[vn (fB W),vn (fB W),gU,h.1,h.2];exact⟨tj _ λ i hi hp=>by unfold kf;rw[ZF (hz i (List.mem_range.1 hi) hp)],tj _ λ i hi hp=>by unfold uf;rw[ZF (hz i (List.mem_range.1 hi) hp)]⟩
theorem Ji (W:List Nat):(gJ W).Nodup:=by
 rw[(fB W).nodup_iff,gU];exact List.Nodup.sublist List.filter_sublist List.nodup_range
theorem w5 {W:List Nat}{i:Nat}:i∈gJ W↔i<W.length∧0<W.getD i mq:=by
 rw[(fB W).mem_iff,gU,Yi,List.mem_range,decide_eq_true_eq]
theorem tn {o:Z1}{i j:Nat}{v:UInt8}(hi:i<o.length):(o.set i v).getD j mq=if i=j then v else o.getD j mq:=by
 rw[UZ,UZ,WN]
 by_cases h:i=j
 ·rw[ZF h,ZF h,ZF om];rfl
 ·rw[ZE h,ZE h]
theorem P5 {S:List Nat}(hN:S.Nodup){i j:Nat}(hi:i<S.length)(hj:j<S.length)(h:i≠j):S.getD i mq≠S.getD j mq:=by
 rw[UZ,UZ,U4 hi,U4 hj];rcases Nat.lt_or_gt_of_ne h with q|q
 ·exact List.pairwise_iff_getElem.1 hN _ _ hi hj q
 ·exact(List.pairwise_iff_getElem.1 hN _ _ hj hi q).symm
theorem Dm {S:List Nat}(hN:S.Nodup){o:Z1}(hA:bL o.length S):∀j,j<=S.length->(∀t,t<S.length->(di o S j).getD (S.getD t mq) mq=if t<j then o.getD (S.getD t mq) mq+1 else o.getD (S.getD t mq) mq)∧∀i,i∉S->(di o S j).getD i mq=o.getD i mq
 |0,_=>⟨λ t _=>by rw[wY,ZE (Ws t)],λ i _=>by rw[wY]⟩
 |j+1,h=>by
  have ih:=Dm hN hA j om;have hb:=hA.at (t:=j) om;refine⟨λ t ht=>?_,λ i hi=>?_⟩
  ·rw[wZ om,tn (by rw[dG];exact hb)]
   by_cases e:j=t
   ·subst e;rw[ZF rfl,ih.1 j ht,ZE (XA j),ZF (Nat.lt_succ_self j)]
   ·rw[ZE (P5 hN om ht e),ih.1 t ht]
    by_cases q:t<j
    ·rw[ZF q,ZF om]
    ·rw[ZE q,ZE om]
  ·rw[wZ om,tn (by rw[dG];exact hb),ZE (λ q=>hi (by rw[<-q,UZ,U4 om];exact V3 _)),ih.2 i hi]
def tq (S:List Nat)(o:Z1):List Nat:=S.map λ i=>(o.getD i mq).toNat
theorem Gi {S:List Nat}(hN:S.Nodup){o:Z1}(hA:bL o.length S){j:Nat}(hj:j<=S.length)(hb:∀x∈tq S o,x<255):tq S (di o S j)=Jh (tq S o) j:=by
 have h:=(Dm hN hA j hj).1;unfold tq Jh at *;apply Wb;intro t;rcases VL t S.length with q|q
 ·have e:S[t]=S.getD t mq:=by rw[UZ,U4 q];rfl
  have hx:=hb ((o.getD (S.getD t mq) mq).toNat) (List.mem_map.2 ⟨S[t],V3 q,by rw[e]⟩);rw[Vu,U4 q,e];show some ((di o S j).getD (S.getD t mq) mq).toNat=_;rw[h t q]
  by_cases z:t<j
  ·rw[ZF z,Vz UD,Vu,V0,ZF z,Vu,U4 q,e]
   show some _=some ((o.getD (S.getD t mq) mq).toNat+1);rw[UInt8.toNat_add];show some ((_+1)%256)=_
   congr 1;omega
  ·rw[ZE z,Vs UD,Vj,Vg,Vj,Wr,show j+(t-min j S.length)=t from by omega,Vu,U4 q,e];rfl
 ·rw[VF (by rw[Vj];exact q),VF (by rw[U2,Vj,Vg,VH,Vj];omega)]
theorem Dn {ws S:List Nat}{m:Nat}(hm:m<=15)(hN:S.Nodup)(hw:ws.length=S.length):∀(k n a:Nat) (o:Z1),bL o.length S->KrI ws m k n a (tq S o)->tq S (lnF ws S k n o)=Gh ws k n (tq S o)∧∀i,i∉S->(lnF ws S k n o).getD i mq=o.getD i mq
 |0,n,a,o,hA,h=>⟨rfl,λ _ _=>rfl⟩
 |k+1,n,a,o,hA,h=>by
  have hn:=(LnI.next h.i).2.2.1;rw[hw]at hn;have hb:∀x∈tq S o,x<255:=λ x hx=>by
   obtain⟨r,hr,hx2⟩:=h.sh;rw[hr]at hx;rcases List.mem_append.1 hx with q|q
   ·have:=(List.mem_replicate.1 q).2;omega
   ·have:=hx2 x q;omega
  have e:=Gi hN hA hn hb;have ih:=Dn hm hN hw k _ _ (di o S (n-dR (ay ws k) n)) (by rw[dG];exact hA) (by rw[e];exact h.next);rw[lnF,Gh,<-e];exact⟨ih.1,λ i hi=>(ih.2 i hi).trans ((Dm hN hA _ hn).2 i hi)⟩
theorem px (W:List Nat)(hL:W.length<=320)(m:Nat)(hm:1<=m∧m<=15)(hNm:(gw W W.length).length<=2^m):aG (b9 W m) m=0:=by
 have hp:=fB W;have hA:bL W.length (gJ W):=sV.perm hp;have hlen:=lU W m;have hl:=hp.length_eq;have fin:(∀i,i<W.length->((b9 W m).getD i mq).toNat<=m)->(aW (b9 W m)=32768∨bg (b9 W m)=0∨bg (b9 W m)=1∧aW (b9 W m)=16384)->aW (b9 W m)<=32768->aG (b9 W m) m=0:=λ h1 h2 h3=>by
  rw[iR];unfold sn;rw[hlen,ZE om,lr (λ i hi=>h1 i (by rw[hlen]at hi;exact hi)),ZE (by decide),ZE om,ZF h2]
 have zero:∀i,W.length<=i∨True->(Vk W.length (0:UInt8)).getD i mq=0:=λ i _=>by
  rw[UZ,Wz];split<;>rfl
 rw[nZ,AW]at fin ⊢
 by_cases c0:(gJ W).length=0
 ·rw[ZF c0]at fin ⊢
  have s:=Dl (W:=W) (o:=Vk W.length 0) VJ (λ i _ _=>zero i (.inr trivial));rw[VQ c0]at s;exact fin (λ i _=>by rw[zero i (.inr trivial)];exact VI _) (.inr (.inl s.2)) (by rw[s.1];exact VI _)
 ·rw[ZE c0]at fin ⊢
  by_cases c1:(gJ W).length=1
  ·rw[ZF c1]at fin ⊢
   obtain⟨i0,h0⟩:∃i0,gJ W=[i0]:=List.length_eq_one_iff.1 c1;rw[h0]at fin hA ⊢;have hi:i0<W.length:=hA i0 (List.mem_singleton.2 rfl);have at':∀j,((Vk W.length (0:UInt8)).set i0 (V6 1)).getD j mq=if i0=j then V6 1 else 0:=λ j=>by
    rw[tn (by rw[VJ];exact hi),zero j (.inr trivial)]
   have s:=Dl (W:=W) (o:=(Vk W.length 0).set i0 (V6 1)) (by rw[Xu,VJ]) (λ i hi2 hz=>by
    rw[at',ZE (λ q=>by
     have:=(w5 (W:=W) (i:=i0)).1 (by rw[h0];exact List.mem_singleton.2 rfl);rw[q]at this;omega)])
   rw[h0]at s;have e1:kG (kf ((Vk W.length 0).set i0 (V6 1))) [i0]=16384:=by
    rw[kG,kG,kf,at',ZF rfl];rfl
   have e2:kG (uf ((Vk W.length 0).set i0 (V6 1))) [i0]=1:=by
    rw[kG,kG,uf,at',ZF rfl];rfl
   rw[e1,e2]at s;refine fin (λ i _=>?_) (.inr (.inr ⟨s.2,s.1⟩)) (by show aW ((Vk W.length 0).set i0 (V6 1))<=_;rw[s.1];decide);show(((Vk W.length 0).set i0 (V6 1)).getD i mq).toNat<=m;rw[at'];split
   ·exact hm.1
   ·exact VI _
  ·rw[ZE c1]at fin ⊢
   have hw:(sX W (gJ W) (gJ W).length).length=(gJ W).length:=nX (Vd _);have hS:=Ji W;have hlast:2*(gJ W).length-2≠0:=by omega
   generalize hSS:gJ W=S at *;generalize sX W S S.length=ws at *;have hv:tq S (Vk W.length 0)=Vk S.length 0:=by
    unfold tq;rw[XY];refine⟨by rw[Vj],λ b hb=>?_⟩;obtain⟨i,_,rfl⟩:=List.mem_map.1 hb;rw[zero i (.inr trivial)];rfl
   have hI:LnI ws m (2*S.length-2):=by
    have:=LnI.first (ws:=ws) hm.1 (by rw[hw];omega) (by rw[hw];omega)
    rwa [hw]at this
   have hK:KrI ws m m (2*S.length-2) S.length (tq S (Vk W.length 0)):=by
    refine⟨hI,Vd _,λ q=>by omega,λ q=>?_,⟨[],by rw[hv,Wn,VS],λ x hx=>by cases hx⟩,?_⟩
    ·have:=(hI.nextk om (m-1) rfl).2.2
     rwa [hw]at this
    ·rw[hv,lV,Ya]
     generalize 2^m=P;rw[Nat.sub_mul,WA];have:1*P<=S.length*P:=V7 _ om;omega
   have hA0:bL (Vk W.length (0:UInt8)).length S:=by rw[VJ];exact hA
   have r:=Dn hm.2 hS hw m _ _ _ hA0 hK;have q:=KrI.last m _ _ _ hK;rw[<-r.1]at q;generalize hO:lnF ws S m (2*S.length-2) (Vk W.length 0)=O at *;have hOl:O.length=W.length:=by rw[<-hO,tf,VJ]
   have hp2:=zf q.1 (by unfold tq;rw[Vj];omega);have s:=Dl (W:=W) (o:=O) hOl (λ i hi hz=>by
    rw[r.2 i (λ hm2=>by rw[<-hSS]at hm2;have:=w5.1 hm2;omega),zero i (.inr trivial)])
   rw[hSS]at s;have e1:∀l:List Nat,(∀i∈l,(O.getD i mq).toNat≠0)->kG (kf O) l=pw 15 (tq l O):=λ l=>by
    induction l with
    |nil=>intro _;rfl
    |cons x l ih=>
     intro h;have hx:=h x Vr;show kf O x+kG (kf O) l=2^(15-_)+pw 15 (tq l O);rw[ih λ i hi=>h i (Vy _ hi),kf,ZE hx]
   have e2:=e1 S λ i hi=>hp2 _ (List.mem_map.2 ⟨i,hi,rfl⟩)
   have e3:=Dk hm.2 (tq S O) q.2.1;rw[q.1,<-Y1,show 15-m+m=15 from by omega]at e3;have hk:aW O=32768:=by rw[s.1,e2,e3]
   refine fin (λ i hi=>?_) (.inl hk) (Nat.le_of_eq hk)
   by_cases hi2:i∈S
   ·exact q.2.1 _ (List.mem_map.2 ⟨i,hi2,rfl⟩)
   ·rw[r.2 i hi2,zero i (.inr trivial)];exact VI _
def bB (k:Nat)(S:List Nat):List Nat:=lk S ((Wa k).map λ i=>S.count i)
theorem Do (k:Nat)(S:List Nat):bB k S=(Wa k).map λ i=>S.count i:=au _ _
theorem fX (k:Nat)(S:List Nat):(bB k S).length=k:=by rw[Do,Vj,WH]
theorem zh (k:Nat)(S:List Nat)(i:Nat):(bB k S)[i]? =if i<k then some (S.count i)else none:=by
 rw[Do,Vu];rcases VL i k with h|h
 ·rw[Wu h,ZF h];rfl
 ·rw[VF (by simpa using h),ZE om];rfl
theorem tu (k:Nat)(S:List Nat)(i:Nat):(bB k S).getD i mq=if i<k then S.count i else 0:=by
 rw[UZ,zh];split<;>rfl
theorem gV (k:Nat)(S:List Nat)(i:Nat):(bB k S).getD i mq<=S.length:=by
 rw[tu];split
 ·exact List.count_le_length
 ·exact VI _
theorem Dp (k:Nat):bB k []=Vk k 0:=by
 apply Wb;intro i;rw[zh,Wz];rfl
theorem P6 {k:Nat}{S:List Nat}{i:Nat}(h:i<k):bB k (S++[i])=(bB k S).set i ((bB k S).getD i mq+1):=by
 apply Wb;intro j;rw[WN,fX,zh,zh]
 by_cases e:i=j
 ·subst e;rw[ZF h,ZF rfl,ZF h,tu,ZF h,aag,Zy,beq_self_eq_true];rfl
 ·rw[ZE e];split
  ·rw[aag,Zy,beq_eq_false_iff_ne.2 (λ q=>e q)];rfl
  ·rfl
theorem Dq {k:Nat}{S:List Nat}{i a b:Nat}{x:Int}(h:i<k)(ha:a=i)(hb:b=i)(hx:x=(((bB k S).getD b mq:Nat):Int)+1):ai ((bB k S).map nD) a [D.v (.int .i64 x)]=(bB k (S++[i])).map nD:=by
 subst ha hb hx;rw[P6 h];exact Ll (by rw[fX];exact h)
def EU (T1:List Sy)(t:Tn):Nat:=if t.long=0 then t.lit.toNat else 257+ao T1 t.long
def Jj (T2:List Sy)(t:Tn):List Nat:=if t.long=0 then[]else[ao T2 t.dist]
def dI (T1:List Sy)(l:List Tn)(i:Nat):List Nat:=lk l ((l.take i).map (EU T1))
def f7 (T2:List Sy)(l:List Tn)(i:Nat):List Nat:=lk l ((l.take i).flatMap (Jj T2))
section
variable {T1 T2:List Sy} {l:List Tn} {i:Nat}
theorem rj:dI T1 l i=(l.take i).map (EU T1):=au _ _
theorem vp:f7 T2 l i=(l.take i).flatMap (Jj T2):=au _ _
theorem Tu:dI T1 l 0=[]:=rj
theorem P7:f7 T2 l 0=[]:=vp
theorem tv:(dI T1 l i).length<=i:=by rw[rj,Vj,Vg];omega
theorem LD (h:i<l.length):f7 T2 l (i+1)=f7 T2 l i++Jj T2 (l.getD i mq):=by
 have e1:l.take (i+1)=l.take i++[l.getD i mq]:=by
  rw[VT h,UZ,U4 h];rfl
 rw[vp,vp,e1,WL,Xx]
theorem P8 (h:i<l.length):dI T1 l (i+1)=dI T1 l i++[EU T1 (l.getD i mq)]:=by
 have e1:l.take (i+1)=l.take i++[l.getD i mq]:=by
  rw[VT h,UZ,U4 h];rfl
 rw[rj,rj,e1,V4];rfl
theorem w6:∀i,i<=l.length->(f7 T2 l i).length<=i
 |0,_=>by rw[P7];exact Vd _
 |i+1,h=>by
  rw[LD om,U2];have:=w6 i om;unfold Jj;split<;>simp <;>omega
theorem Jk (h:i<l.length)(h0:(l.getD i mq).long=0):dI T1 l (i+1)=dI T1 l i++[(l.getD i mq).lit.toNat]∧f7 T2 l (i+1)=f7 T2 l i:=by
 rw[P8 h,LD h,EU,Jj,ZF h0,ZF h0,VS];exact⟨rfl,rfl⟩
theorem Jl (h:i<l.length)(h0:(l.getD i mq).long≠0):dI T1 l (i+1)=dI T1 l i++[257+ao T1 (l.getD i mq).long]∧f7 T2 l (i+1)=f7 T2 l i++[ao T2 (l.getD i mq).dist]:=by
 rw[P8 h,LD h,EU,Jj,ZE h0,ZE h0];exact⟨rfl,rfl⟩
end
theorem Dr:∀(l:Z1) (n:Nat),(∀i,n<=i->(l.getD i mq).toNat=0)->aW (l.take n)=aW l∧bg (l.take n)=bg l
 |[],n,_=>by rw[List.take_nil];exact⟨rfl,rfl⟩
 |x::r,0,h=>by
  have ih:=Dr r 0 λ i _=>h (i+1) (VI _)
  have h0:x.toNat=0:=h 0 (Vd _);rw[List.take_zero]at ih ⊢;rw[aW,aW,bg,bg,ZF h0,ZF h0,<-ih.1,<-ih.2];exact⟨rfl,rfl⟩
 |x::r,n+1,h=>by
  have ih:=Dr r n λ i hi=>h (i+1) (Xa hi)
  rw[List.take_succ_cons,aW,aW,bg,bg,ih.1,ih.2];exact⟨rfl,rfl⟩
theorem zi {l:Z1}{m:Nat}:∀n,∀i,yO l m n<=i->i<n->l.getD i mq=0
 |0,i,_,h=>absurd h (Ws _)
 |n+1,i,h,h2=>by
  rw[yO]at h
  split at h
  ·next q=>
   rcases VL i n with r|r
   ·exact zi n i h r
   ·rw[show i=n from by omega];exact q.2
  ·omega
theorem ki {l:Z1}{i:Nat}(h:l.length<=i):l.getD i mq=0:=by
 rw[UZ,VF h];rfl
def vq (l:Z1)(m:Nat):Z1:=lk l (l.take (jE l m))
theorem mK (l:Z1)(m:Nat):vq l m=l.take (jE l m):=au _ _
theorem n5 (l:Z1)(m:Nat):(vq l m).length=jE l m:=by
 rw[mK,Vg];have:=(mF l m).1;omega
theorem py (l:Z1)(m i:Nat):(vq l m).getD i mq=l.getD i mq:=by
 rw[mK,UZ,V0]
 split
 ·rw[UZ]
 ·rcases VL i l.length with q|q
  ·rw[zi (m:=m) l.length i (by rw[<-pj];omega) q];rfl
  ·rw[ki q];rfl
theorem zj {l:Z1}{m q:Nat}(h:aG l m=0):aG (vq l q) m=0:=by
 have h0:=dD h;have hk:=Dr l (jE l q) (λ i hi=>by
  rcases VL i l.length with r|r
  ·rw[zi (m:=q) l.length i (by rw[<-pj];exact hi) r];rfl
  ·rw[ki r];rfl)
 have hl:(vq l q).length<=320:=by rw[n5];have:=(mF l q).1;omega
 have ho:dn (vq l q) m=false:=lr λ i hi=>by
  rw[py];exact dN h0.2.1 (by rw[n5]at hi;have:=(mF l q).1;omega)
 rw[iR]at h ⊢;unfold sn at h ⊢;rw[ZE om,h0.2.1]at h;rw[ZE om,ho,show aW (vq l q)=aW l from by rw[mK];exact hk.1,show bg (vq l q)=bg l from by rw[mK];exact hk.2];exact h
def f8 {α:Type}(H:List Nm)(g:α->List Nm)(l:List α)(i:Nat):List Nm:=lk l (H++(l.take i).flatMap g)
section
variable {α:Type} {H:List Nm} {g:α->List Nm} {l:List α} {i:Nat}
theorem jK:f8 H g l i=H++(l.take i).flatMap g:=au _ _
theorem vr:f8 H g l 0=H:=by rw[jK];exact VS _
theorem vt [Inhabited α](h:i<l.length):f8 H g l (i+1)=f8 H g l i++g (l.getD i mq):=by
 have e1:l.take (i+1)=l.take i++[l.getD i mq]:=by
  rw[VT h,UZ,U4 h];rfl
 rw[jK,jK,e1,WL,<-Ve,Xx]
theorem lW [Inhabited α]{c:Nat}(hc:∀x,(g x).length=c):∀i,i<=l.length->(f8 H g l i).length=H.length+c*i
 |0,_=>by rw[vr];rfl
 |i+1,h=>by
  rw[vt om,U2,lW hc i om,hc,XD,VG,Wh]
end
def jL (x:UInt8):List Nm:=[⟨x.toNat,3⟩]
def lX (C:List (Nat×Nat))(r:Rn):List Nm:=f6 C r.s (rb r.s) r.x
def pz:List Nat:=[16,17,18,0,8,7,9,6,10,5,11,4,12,3,13,2,14,1,15]
theorem P9:∀i,i<19->pz.getD i mq<19:=by decide
def kX (C:Z1)(i:Nat):Z1:=lk C ((pz.take i).map λ s=>C.getD s mq)
theorem mL (C:Z1)(i:Nat):kX C i=(pz.take i).map λ s=>C.getD s mq:=au _ _
theorem Qa (C:Z1):kX C 0=[]:=mL C 0
theorem zk (C:Z1){i:Nat}(h:i<=19):(kX C i).length=i:=by
 rw[mL,Vj,Vg,show pz.length=19 from rfl];omega
theorem Qb (C:Z1){i:Nat}(h:i<19):kX C (i+1)=kX C i++[C.getD (pz.getD i mq) mq]:=by
 have e1:pz.take (i+1)=pz.take i++[pz.getD i mq]:=by
  rw[VT (show i<pz.length from h),UZ,U4 (show i<pz.length from h)];rfl
 rw[mL,mL,e1,V4];rfl
theorem Tv (i:Nat)(h:i<19):(pz.map nD)[i]? =some (nD (pz.getD i mq)):=by
 rw[Vu,U4 (show i<pz.length from h),UZ,U4 (show i<pz.length from h)];rfl
theorem pB {l:Z1}(ho:∀i,(l.getD i mq).toNat<=15):∀(f a:Nat),∀r∈ku l f a,r.s<=18∧r.x<2^rb r.s
 |0,_=>λ r hr=>absurd hr XG
 |f+1,a=>by
  rw[ku]
  split
  ·exact λ r hr=>absurd hr XG
  ·split
   ·intro r hr
    rcases List.mem_cons.1 hr with e|e
    ·subst e;refine⟨Vd _,?_⟩;show min (cI l a) 138-11<2^7;omega
    ·exact pB ho f _ r e
   ·split
    ·intro r hr
     rcases List.mem_cons.1 hr with e|e
     ·subst e;refine⟨Nat.le_succ _,?_⟩;show cI l a-3<2^3;omega
     ·exact pB ho f _ r e
    ·split
     ·intro r hr
      rcases List.mem_cons.1 hr with e|e
      ·subst e;refine⟨show(16:Nat)<=18 from by decide,?_⟩;show min (cI l a) 6-3<2^2;omega
      ·exact pB ho f _ r e
     ·intro r hr
      rcases List.mem_cons.1 hr with e|e
      ·subst e
       have h1:=ho a;refine⟨Vq h1 (by decide),?_⟩;show 0<2^rb _;exact WD _
      ·exact pB ho f _ r e
theorem LF {l:Z1}(ho:∀i,(l.getD i mq).toNat<=15)(i:Nat):((yE l).getD i mq).s<=18∧((yE l).getD i mq).x<2^rb ((yE l).getD i mq).s:=by
 rw[UZ];rcases VL i (yE l).length with h|h
 ·rw[U4 h]
  have hm:(yE l)[i]∈ku l l.length 0:=by rw[<-sw];exact V3 h
  exact pB ho _ _ _ hm
 ·rw[VF h];exact⟨VI _,by decide⟩
theorem Gj (l:Z1):(yE l).length<=l.length:=by rw[sw];exact lu _ _ _
theorem Ds (l:Z1)(j:Nat)(ho:dn l 15=false):(ac l).getD j mq=if j<l.length∧(l.getD j mq).toNat≠0 then(kQ l j,(l.getD j mq).toNat)else(0,0):=by
 rw[<-IK ho,pg,UZ,Vu];rcases VL j l.length with h|h
 ·rw[Wu h];exact rfl
 ·rw[VF (by simpa using h),ZE om];rfl
theorem Dt {l:Z1}{s:Nat}(h:s<l.length):(cu l (l.getD s mq).toNat s).length<(cu l (l.getD s mq).toNat l.length).length:=by
 obtain⟨r,hr⟩:=lx l (l.getD s mq).toNat (s+1) (l.length-(s+1));rw[show s+1+(l.length-(s+1))=l.length from by omega,dO,ZF rfl]at hr;rw[hr,U2,U2,VP];omega
theorem fj {l:Z1}(h:aG l 15=0):pm (ac l):=λ s=>by
 have h0:=dD h;rw[Ds l s h0.2.1]
 split
 ·next q=>
  have h1:=dN h0.2.1 q.1;refine⟨h1,?_⟩;have h2:=IL h h1;have h3:=yM rfl q.2 h1;have h4:=Dt q.1;show kQ l s<2^(l.getD s mq).toNat;rw[gR]at h2;unfold sq at h2;rw[ZE q.2]at h2;omega
 ·exact⟨VI _,by decide⟩
theorem jM (W:List Nat)(hL:W.length<=320)(m:Nat)(hm:1<=m∧m<=15)(hNm:(gw W W.length).length<=2^m){i:Nat}(hi0:0<W.getD i mq):((b9 W m).getD i mq).toNat≠0:=by
 have hp:=fB W;have hA:bL W.length (gJ W):=sV.perm hp;have hl:=hp.length_eq;have hiW:i<W.length:=by
  rcases VL i W.length with q|q
  ·exact q
  ·rw[UZ,VF q]at hi0;exact absurd hi0 (XA 0)
 have hiS:i∈gJ W:=w5.2 ⟨hiW,hi0⟩;have zero:∀i,(Vk W.length (0:UInt8)).getD i mq=0:=λ i=>by
  rw[UZ,Wz];split<;>rfl
 rw[nZ,AW]
 by_cases c0:(gJ W).length=0
 ·rw[VQ c0]at hiS;exact absurd hiS XG
 ·rw[ZE c0]
  by_cases c1:(gJ W).length=1
  ·rw[ZF c1]
   obtain⟨i0,h0⟩:∃i0,gJ W=[i0]:=List.length_eq_one_iff.1 c1;rw[h0]at hiS ⊢;have e:i=i0:=List.mem_singleton.1 hiS;subst e;show(((Vk W.length (0:UInt8)).set i (V6 1)).getD i mq).toNat≠0;rw[tn (by rw[VJ];exact hiW),ZF rfl];decide
  ·rw[ZE c1]
   have hw:(sX W (gJ W) (gJ W).length).length=(gJ W).length:=nX (Vd _);have hS:=Ji W;generalize hSS:gJ W=S at *;generalize sX W S S.length=ws at *;have hv:tq S (Vk W.length 0)=Vk S.length 0:=by
    unfold tq;rw[XY];refine⟨by rw[Vj],λ b hb=>?_⟩;obtain⟨i,_,rfl⟩:=List.mem_map.1 hb;rw[zero i];rfl
   have hI:LnI ws m (2*S.length-2):=by
    have:=LnI.first (ws:=ws) hm.1 (by rw[hw];omega) (by rw[hw];omega)
    rwa [hw]at this
   have hK:KrI ws m m (2*S.length-2) S.length (tq S (Vk W.length 0)):=by
    refine⟨hI,Vd _,λ q=>by omega,λ q=>?_,⟨[],by rw[hv,Wn,VS],λ x hx=>by cases hx⟩,?_⟩
    ·have:=(hI.nextk om (m-1) rfl).2.2
     rwa [hw]at this
    ·rw[hv,lV,Ya]
     generalize 2^m=P;rw[Nat.sub_mul,WA];have:1*P<=S.length*P:=V7 _ om;omega
   have hA0:bL (Vk W.length (0:UInt8)).length S:=by rw[VJ];exact hA
   have r:=Dn hm.2 hS hw m _ _ _ hA0 hK;have q:=KrI.last m _ _ _ hK;rw[<-r.1]at q;have hp2:=zf q.1 (by unfold tq;rw[Vj];omega);exact hp2 _ (List.mem_map.2 ⟨i,hiS,rfl⟩)
theorem Du {l:Z1}{m s:Nat}(h:(l.getD s mq).toNat≠0):s<jE l m:=by
 rcases VL s (jE l m)with q|q
 ·exact q
 ·exfalso
  rcases VL s l.length with r|r
  ·rw[zi (m:=m) l.length s (by rw[<-pj];exact q) r]at h;exact h rfl
  ·rw[ki r]at h;exact h rfl
theorem zm {k:Nat}{S:List Nat}{s:Nat}(h:s<k)(hm:s∈S):0<(bB k S).getD s mq:=by
 rw[tu,ZF h];exact List.count_pos_iff.2 hm
theorem Dv {T1:List Sy}{l:List Tn}{i k:Nat}(hk:k=l.length)(h:i<k):EU T1 (l.getD i mq)∈dI T1 l k:=by
 rw[rj,hk,VB (Vd _),UZ,U4 om];exact List.mem_map_of_mem (V3 _)
theorem LG {T2:List Sy}{l:List Tn}{i k:Nat}(hk:k=l.length)(h:i<k)(h0:(l.getD i mq).long≠0):ao T2 (l.getD i mq).dist∈f7 T2 l k:=by
 rw[vp,hk,VB (Vd _)];have hi:i<l.length:=by omega
 rw[UZ,U4 hi]at h0 ⊢;refine List.mem_flatMap.2 ⟨l[i],V3 hi,?_⟩;unfold Jj;rw[ZE (show¬l[i].long=0 from h0)];exact List.mem_singleton.2 rfl
theorem n6 (k:Nat)(S:List Nat)(i:Nat){a b:Nat}(h:i<k)(ha:a=i)(hb:b=i):ai ((bB k S).map nD) a [D.v (.int .i64 ((((bB k S).getD b mq:Nat):Int)+1))]=(bB k (S++[i])).map nD:=Dq h ha hb rfl
theorem lY (k:Nat)(S:List Nat)(i:Nat){o:Nat}(h:i<k)(ho:o=i):((bB k S).map nD)[o]? =some (nD ((bB k S).getD i mq)):=by
 subst ho;rw[Vu,UZ,U4 (by rw[fX];exact h)];rfl
theorem Qc (k:Nat)(S:List Nat)(i:Nat)(W:List Nat)(hW:bB k (S++[i])=W){a b:Nat}(h:i<k)(ha:a=i)(hb:b=i):ai ((bB k S).map nD) a [D.v (.int .i64 ((((bB k S).getD b mq:Nat):Int)+1))]=W.map nD:=by rw[<-hW];exact Dq h ha hb rfl
def Jm (C:Z1)(i:Nat):Nat:=lk C (pz.getD i mq)
theorem w7 (C:Z1)(i:Nat):Jm C i=pz.getD i mq:=au _ _
theorem Dw (C:Z1)(i:Nat)(h:i<19):Jm C i<19:=by rw[w7];exact P9 i h
theorem Qd (C:Z1)(i:Nat)(h:i<19):(pz.map nD)[i]? =some (nD (Jm C i)):=by rw[w7];exact Tv i h
theorem Gk {l:Z1}{n i:Nat}(h:i<n):(l.take n).getD i mq=l.getD i mq:=by
 rw[UZ,V0,ZF h,<-UZ]
theorem Qe {e n1 n2 n3:Nat}{x y z:Int}(hx:x=((n1-257:Nat):Int))(hy:y=((n2-1:Nat):Int))(hz:z=((n3-4:Nat):Int)):[D.v (.int .u32 (e:Int)),D.v (.int .i64 1),D.v (.int .u32 2),D.v (.int .i64 2),D.v (.int .u32 x),D.v (.int .i64 5),D.v (.int .u32 y),D.v (.int .i64 5),D.v (.int .u32 z),D.v (.int .i64 4)]=(kx e 2++([⟨n1-257,5⟩,⟨n2-1,5⟩,⟨n3-4,4⟩]:List Nm)).flatMap bb:=by
 subst hx hy hz;rfl

end Vp
end Go.Proofs.YtefjnofhgkjpmaaGreat
namespace Go.Proofs.YtefjnofhgkjpmaaGreat
open Go.RowKit Go.Bw Go.Vx
open List (length getD map take drop flatMap replicate)
namespace Vt
abbrev iD (i:Int):D:=.v (.int .i64 i)
abbrev dw:D:=.v (.slice none 0 0)
structure Tok where
 lit:UInt8
 dist:Int
 long:Int
 deriving Inhabited
abbrev tokD (t:Tok):List D:=[dB t.lit,iD t.dist,iD t.long]
def copyN (a:Z1)(d:Nat):Nat->Z1
 |0=>a
 |n+1=>copyN a d n++[(copyN a d n).getD ((copyN a d n).length-d) mq]
theorem copyN_length (a:Z1)(d n:Nat):(copyN a d n).length=a.length+n:=by
 induction n with
 |zero=>rfl
 |succ n ih=>simp only[copyN,U2,ih,VP];omega
def stepT (a:Z1)(t:Tok):Z1:=if t.long=0 then a++[t.lit]else copyN a t.dist.toNat t.long.toNat
end Vt
end Go.Proofs.YtefjnofhgkjpmaaGreat
namespace Go.Proofs.YtefjnofhgkjpmaaGreat
open Go.RowKit Go.Bw Go.Vx
open List (length getD map take drop flatMap replicate)
namespace Vm
theorem pC {p:Prop}(h:p:=by(refine aR ?_;(omega))):p:=h
theorem AZ {p:Prop}(h:p:=by((refine aI ?_ ?_)<;>(repeat' (first|(refine aI ?_ ?_)|(with_reducible rfl)|(refine decide_eq_true ?_)|(refine U8 ?_)|(refine fw ?_)))<;>(omega))):p:=h
theorem A0 {p:Prop}(h:p:=by(exact iP _ (by decide) (by decide))):p:=h
theorem Gl {p:Prop}(h:p:=by(refine zo hh ?_ ?_ ?_<;>(omega))):p:=h
theorem Gm {p:Prop}(h:p:=by show j-1<j;clear ZA ZD;omega):p:=h
abbrev iD (i:Int):D:=.v (.int .i64 i)
abbrev dw:D:=.v (.slice none 0 0)
theorem Tw (x:Int):Vo .u32 x=x%4294967296:=rfl
abbrev bI (l:Z1)(i:Nat):Int:=((l.getD i mq).toNat:Int)
def ct (l:Z1)(i:Nat):Int:=((bI l (i+2)*16777619+bI l (i+1))*16777619+bI l i)%4294967296
abbrev LH:Int:=1055306571
theorem rl (l:Z1)(i:Nat):0<=bI l i∧bI l i<256:=by
 have h:=(l.getD i mq).toNat_lt;unfold bI;constructor<;>omega
def hR (p:Z1):Nat->Int
 |0=>0
 |k+1=>((((hR p k*16777619)%4294967296)+bI p (2-k))%4294967296)
theorem Gn {p:Z1}{k j:Nat}{h:Int}(hh:h=hR p k)(hj:j=2-k):((((h*16777619)%4294967296)+bI p j)%4294967296)=hR p (k+1):=by rw[hh,hj,hR]
theorem Tx (p:Z1):hR p 3=ct p 0:=by
 have h0:=rl p 0;have h1:=rl p 1;have h2:=rl p 2;simp only[hR,Tw,ct,show 2-0=2 from rfl,show 2-1=1 from rfl,show 2-2=0 from rfl,show 0+2=2 from rfl,show 0+1=1 from rfl];omega
theorem hash (p:Z1)(hp:p.length=3)(H:Int)(hH:H=ct p 0):S0 198 [.sl false 3 1 (p.map dB)] [] (.tup [.v (.int .u32 H),.v (.int .u32 LH)]) []:=by
 refine SpecH.run T_ok ah Tryz.func198 rfl rfl rfl trivial rfl 1000 64 (λ R ok=>(.s 9 (Hn.inl T_ok ah false 41 0 (aq Tryz.prog 198 0) (λ(x:(k:Nat)×'(hk:k<=3)×'(h:Int)×'(hh:h=hR p k)×'Unit)=>match x with|⟨k,hk,h,hh,_⟩=>Vn [(0,Vl false 3 1 (map dB p)),(4,.v (.int .u32 h)),(5,iD (2-(k:Int)))] [] 0) (λ(x:(k:Nat)×'(hk:k<=3)×'(h:Int)×'(hh:h=hR p k)×'Unit)=>match x with|⟨k,hk,h,hh,_⟩=>3-k) [⟨Unit,.exit 0,λ x=>match x with|()=>Vn [(0,Vl false 3 1 (map dB p)),(4,.v (.int .u32 H))] [] 0⟩] 1000 64 (fun|⟨k,hk,h,hh,_⟩,Q,ZA,ZD=>(.s 3 (.bd (0<=2-(k:Int)) (λ p0 Z7=>(.s 3 (.opt (ax .u32 (h*16777619)) (uI (h*16777619%4294967296)) (aL _ _) (.s 3 (.chk (decide (0<=2-(k:Int))&&decide (2-(k:Int)<(↑3:Int))&&true) AZ (.s 2 (.opt ((map dB p)[AB (2-(k:Int))*1]?) (dB (getD p (AB (2-(k:Int))*1) mq)) (av _ _ om) (.s 1 (.opt (ax .u32 (↑(U3 (getD p (AB (2-(k:Int))*1) mq)):Int)) (ak (U3 (getD p (AB (2-(k:Int))*1) mq))) (aE A0) (.s 2 (.opt (ax .u32 (h*16777619%4294967296+(↑(U3 (getD p (AB (2-(k:Int))*1) mq)):Int))) (uI ((h*16777619%4294967296+(↑(U3 (getD p (AB (2-(k:Int))*1) mq)):Int))%4294967296)) (aL _ _) (.s 4 (.ow (2-(k:Int)-1) (.s 1 (.val 4 (uI ((h*16777619%4294967296+(↑(U3 (getD p (AB (2-(k:Int))*1) mq)):Int))%4294967296)) (uI ((h*16777619%4294967296+bI p (2-k))%4294967296)) (by(refine aR (congrArg (λ z=>((((h*16777619)%4294967296)+bI p z)%4294967296)) ?_);(omega))) (.val 5 (zI (2-(k:Int)-1)) (zI (2-(↑(k+1):Int))) pC (Hn.next ZA ⟨(k+1),om,(((((h*16777619)%4294967296)+bI p (2-k))%4294967296)),(by(refine Gn hh ?_;(omega))),⟨⟩⟩ (by show 3-(k+1)<3-k;clear ZA ZD;omega) [] ro))))))))))))))))) (λ p0 Z7=>(.val 4 (uI h) (uI H) (by(refine aR ?_;rw[hh,hH,show k=3 from by(omega),Tx])) (Hn.last ZD 0 (():Unit) rfl [] ro)))))) (fun|⟨k,hk,h,hh,_⟩=>by kernel_rfl) ⟨(0),om,(0),(by exact rfl),⟨⟩⟩ [] ro (ck (fun|()=>(.s 70 (.out [] [] (V2 [uI H,uI 1055306571]) [] R (ok _ _ wr wr)))))))) kr
def ar (s p:Z1):Nat->Int
 |0=>-1
 |k+1=>if(s.drop k).take 3=p then(k:Int)else ar s p k
theorem Dx {s p:Z1}{i:Nat}(h:(s.drop i).take 3=p)(hi:i+3<=s.length):ct s i=ct p 0:=by
 have e:∀j,j<3->bI p j=bI s (i+j):=λ j hj=>by
  unfold bI;rw[<-h];simp only[UZ,V0,Wr,hj,if_true]
 unfold ct;rw[e 0 (by decide),e 1 (by decide),e 2 (by decide)];rfl
theorem Ty (s:Z1)(i:Nat):((((((ct s (i+1)*16777619)%4294967296)+bI s i)%4294967296)-((LH*bI s (i+3))%4294967296))%4294967296)=ct s i:=by
 simp only[LH,Tw,ct,show i+1+2=i+3 from rfl,show i+1+1=i+2 from rfl];omega
def hW (s:Z1)(i:Nat):Nat->Int
 |0=>0
 |k+1=>((((hW s i k*16777619)%4294967296)+bI s (i+(2-k)))%4294967296)
theorem Gp {s:Z1}{i k j:Nat}{h:Int}(hh:h=hW s i k)(hj:j=i+(2-k)):((((h*16777619)%4294967296)+bI s j)%4294967296)=hW s i (k+1):=by rw[hh,hj,hW]
theorem Tz (s:Z1)(i:Nat):hW s i 3=ct s i:=by
 have h0:=rl s i;have h1:=rl s (i+1);have h2:=rl s (i+2);simp only[hW,Tw,ct,show 2-0=2 from rfl,show 2-1=1 from rfl,show 2-2=0 from rfl,Xe];omega
theorem vu {s p:Z1}{k m:Nat}(hm:m=k+1)(h:(s.drop k).take 3=p):ar s p m=k:=by rw[hm,ar,ZF h]
theorem mM {s p:Z1}{k m:Nat}(hm:m=k+1)(h:(s.drop k).take 3≠p):ar s p m=ar s p k:=by rw[hm,ar,ZE h]
theorem rm {s p:Z1}{k m:Nat}{h H:Int}(hm:m=k+1)(hl:m+2<=s.length)(hh:h=ct s k)(hH:H=ct p 0)(hne:h≠H):ar s p m=ar s p k:=
 mM hm λ e=>hne (by rw[hh,hH];exact Dx e om)
theorem LI {l p:Z1}(e:(V9 {data:=l.toArray}==V9 {data:=p.toArray})=true):l=p:=by rw[ic,ic]at e;exact eq_of_beq e
theorem LJ {l p:Z1}(e:(V9 {data:=l.toArray}==V9 {data:=p.toArray})=false):l≠p:=by rw[ic,ic]at e;exact ap e
theorem zn {s:Z1}{n j:Nat}(hn:n=s.length)(h3:3<=n)(hj:j=n-3):s.drop j=(s.drop (n-3)).take 3:=by
 rw[hj,VB (by rw[VH];omega)]
theorem rq {s p:Z1}{a:Int}{j:Nat}(hl:a=ar s p j)(hj:j=0):a= -1:=by rw[hl,hj];rfl
theorem zo {s:Z1}{j a b:Nat}{h:Int}(hh:h=ct s j)(hj:0<j)(ha:a=j-1)(hb:b=j+2):((((((h*16777619)%4294967296)+((s.getD a mq).toNat:Int))%4294967296)-((1055306571*((s.getD b mq).toNat:Int))%4294967296))%4294967296)=ct s (j-1):=by
 have e1:ct s j=ct s (a+1):=congrArg (ct s) om;have e2:b=a+3:=by omega
 have e3:=Ty s a;rw[hh,e1,e2,<-ha];exact e3
theorem Dy {s:Z1}{j:Nat}(hj:0<j):VX (((j:Int)-1+3).toNat-((j:Int)-1).toNat) (VW ((j:Int)-1).toNat s)=(s.drop (j-1)).take 3:=by
 rw[show((j:Int)-1+3).toNat-((j:Int)-1).toNat=3 from by omega,show((j:Int)-1).toNat=j-1 from by omega]
theorem zp {s p:Z1}{j:Nat}{a:Int}(hl:a=ar s p j)(hj:0<j)(e:(V9 {data:=(VX (((j:Int)-1+3).toNat-((j:Int)-1).toNat) (VW ((j:Int)-1).toNat s)).toArray}==V9 {data:=p.toArray})=false):a=ar s p (j-1):=by
 rw[hl];refine mM om ?_;rw[<-Dy hj];exact LJ e
theorem Dz {s p:Z1}{j:Nat}{a:Int}(hl:a=ar s p j)(hj:0<j)(e:(V9 {data:=(VX (((j:Int)-1+3).toNat-((j:Int)-1).toNat) (VW ((j:Int)-1).toNat s)).toArray}==V9 {data:=p.toArray})=true):(j:Int)-1=a:=by
 rw[hl,vu (k:=j-1) om (by rw[<-Dy hj];exact LI e)];omega
theorem zq {s p:Z1}{j:Nat}{a h H:Int}(hl:a=ar s p j)(hj:0<j)(hb:j+2<=s.length)(hh:h=ct s j)(hH:H=ct p 0)(e:(((((((h*16777619)%4294967296)+((s.getD (((j:Int)-1).toNat*1) mq).toNat:Int))%4294967296)-((1055306571*((s.getD (((j:Int)-1+3).toNat*1) mq).toNat:Int))%4294967296))%4294967296)==H)=false):a=ar s p (j-1):=
 hl.trans (rm om hb (zo hh hj om om) hH (ap e))
theorem Gq {s p:Z1}{n:Nat}(hn:n=s.length)(h3:3<=n)(e:(V9 {data:=(VW ((n:Int)-3).toNat s).toArray}==V9 {data:=p.toArray})=true):(n:Int)-3=ar s p (n-2):=by
 rw[vu (k:=n-3) om (by rw[<-zn hn h3 rfl,<-LI e];exact congrArg (VW · s) om)];omega
theorem rk (s p:Z1)(n:Nat)(hn:n=s.length)(hp:p.length=3)(h3:4<=n)(h4:n<=1000000)(H:Int)(hH:H=ct p 0):S0 193 [.sl false n 1 (s.map dB),.sl false 3 1 (p.map dB)] [] (iD (ar s p (n-2))) []:=by
 refine SpecH.run T_ok ah Tryz.func193 rfl rfl rfl trivial rfl 1000 64 (λ R ok=>(.s 3 (.cl 198 false [] (.fn Sr (@Go.Proofs.YtefjnofhgkjpmaaGreat.Vm.hash (p) om (H) aF)) (.s 15 (.ow (n-3) (.s 6 (.ow (n-1) (.s 1 (.val 10 (zI (n-1)) (zI (n-1-0)) pC (Hn.inl T_ok ah false 94 0 (aq Tryz.prog 193 0) (λ(x:(k:Nat)×'(hk:k<=3)×'(h:Int)×'(hh:h=hW s (n-3) k)×'Unit)=>match x with|⟨k,hk,h,hh,_⟩=>Vn [(0,Vl false n 1 (map dB s)),(1,Vl false 3 1 (map dB p)),(5,uI H),(6,uI 1055306571),(7,zI 3),(8,zI (n-3)),(9,.v (.int .u32 h)),(10,iD ((n:Int)-1-k))] [] 0) (λ(x:(k:Nat)×'(hk:k<=3)×'(h:Int)×'(hh:h=hW s (n-3) k)×'Unit)=>match x with|⟨k,hk,h,hh,_⟩=>3-k) [⟨(h2:Int)×'(hh2:h2=ct s (n-3))×'Unit,.exit 0,λ x=>match x with|⟨h2,hh2,_⟩=>Vn [(0,Vl false n 1 (map dB s)),(1,Vl false 3 1 (map dB p)),(5,uI H),(6,uI 1055306571),(7,zI 3),(8,zI (n-3)),(9,.v (.int .u32 h2))] [] 0⟩] 1000 64 (fun|⟨k,hk,h,hh,_⟩,Q,ZA,ZD=>(.s 4 (.bd ((n:Int)-3<=n-1-k) (λ p0 Z7=>(.s 3 (.opt (ax .u32 (h*16777619)) (uI (h*16777619%4294967296)) (aL _ _) (.s 3 (.chk (decide (0<=(n:Int)-1-k)&&decide ((n:Int)-1-k<n)&&true) AZ (.s 2 (.opt ((map dB s)[AB ((n:Int)-1-k)*1]?) (dB (getD s (AB ((n:Int)-1-k)*1) mq)) (av _ _ om) (.s 1 (.opt (ax .u32 (↑(U3 (getD s (AB ((n:Int)-1-k)*1) mq)):Int)) (ak (U3 (getD s (AB ((n:Int)-1-k)*1) mq))) (aE A0) (.s 2 (.opt (ax .u32 (h*16777619%4294967296+(↑(U3 (getD s (AB ((n:Int)-1-k)*1) mq)):Int))) (uI ((h*16777619%4294967296+(↑(U3 (getD s (AB ((n:Int)-1-k)*1) mq)):Int))%4294967296)) (aL _ _) (.s 4 (.ow (n-1-k-1) (.s 1 (.val 9 (uI ((h*16777619%4294967296+(↑(U3 (getD s (AB ((n:Int)-1-k)*1) mq)):Int))%4294967296)) (uI ((h*16777619%4294967296+bI s (n-1-k))%4294967296)) (by(refine aR (congrArg (λ z=>((((h*16777619)%4294967296)+bI s z)%4294967296)) ?_);(omega))) (.val 10 (zI (n-1-k-1)) (zI (n-1-(↑(k+1):Int))) pC (Hn.next ZA ⟨(k+1),om,(((((h*16777619)%4294967296)+bI s (n-1-k))%4294967296)),(by(refine Gp hh ?_;(omega))),⟨⟩⟩ (by show 3-(k+1)<3-k;clear ZA ZD;omega) [] ro))))))))))))))))) (λ p0 Z7=>(Hn.last ZD 0 (⟨(h),(by(rw[hh,show k=3 from by(omega),Tz])),⟨⟩⟩:(h2:Int)×'(hh2:h2=ct s (n-3))×'Unit) rfl [] ro))))) (fun|⟨k,hk,h,hh,_⟩=>by kernel_rfl) ⟨(0),om,(0),(by exact rfl),⟨⟩⟩ [] ro (ck (fun|⟨h2,hh2,_⟩=>(.s 7 (.br (h2==H) (λ p1=>have Z6:=eq_of_beq p1;(.s 4 (.chk (aU (some ((n:Int)-3)) none none n&&true) (by(simp <;>(omega))) (.s 3 (.byt (drop (AB ((n:Int)-3)*1) (map dB s)) (drop (AB ((n:Int)-3)) s) (by(simp;done)) (.s 5 (.byt (map dB p) (p) rfl (.s 3 (.br (V9 (WU (Xy (drop (AB ((n:Int)-3)) s)))==V9 (WU (Xy p))) (λ p2=>have Z5:=eq_of_beq p2;(.s 2 (.out [] [] (zI (n-3)) [] R (ok _ _ (by(exact aR (Gq hn (by(omega)) aF))) wr)))) (λ p2=>have Z5:=ap p2;(.s 3 (.ow (n-3-1) (.s 1 (.val 11 (zI (n-3-1)) (zI ((↑(n-3):Int)-1)) pC (Hn.inl T_ok ah false 94 0 (aq Tryz.prog 193 1) (λ(x:(j:Nat)×'(hj:j<=n-3)×'(h:Int)×'(hh:h=ct s j)×'(hl:ar s p (n-2)=ar s p j)×'Unit)=>match x with|⟨j,hj,h,hh,hl,_⟩=>Vn [(0,Vl false n 1 (map dB s)),(1,Vl false 3 1 (map dB p)),(5,uI H),(6,uI 1055306571),(7,zI 3),(9,.v (.int .u32 h)),(11,iD ((j:Int)-1))] [] 0) (λ(x:(j:Nat)×'(hj:j<=n-3)×'(h:Int)×'(hh:h=ct s j)×'(hl:ar s p (n-2)=ar s p j)×'Unit)=>match x with|⟨j,hj,h,hh,hl,_⟩=>j) [⟨(hz:ar s p (n-2)= -1)×'Unit,.exit 2,λ x=>match x with|⟨hz,_⟩=>Vn [(0,Vl false n 1 (map dB s)),(1,Vl false 3 1 (map dB p)),(5,uI H),(6,uI 1055306571),(7,zI 3)] [] 0⟩,⟨Unit,.ret,λ x=>match x with|()=>Vn [(4,iD (ar s p (n-2)))] [] 0⟩] 1000 64 (fun|⟨j,hj,h,hh,hl,_⟩,Q,ZA,ZD=>(.s 3 (.bd (0<=(j:Int)-1) (λ p3 Z4=>(.s 3 (.opt (ax .u32 (h*16777619)) (uI (h*16777619%4294967296)) (aL _ _) (.s 5 (.chk (decide (0<=(j:Int)-1)&&decide ((j:Int)-1<n)&&true) AZ (.s 2 (.opt ((map dB s)[AB ((j:Int)-1)*1]?) (dB (getD s (AB ((j:Int)-1)*1) mq)) (av _ _ om) (.s 1 (.opt (ax .u32 (↑(U3 (getD s (AB ((j:Int)-1)*1) mq)):Int)) (ak (U3 (getD s (AB ((j:Int)-1)*1) mq))) (aE A0) (.s 2 (.opt (ax .u32 (h*16777619%4294967296+(↑(U3 (getD s (AB ((j:Int)-1)*1) mq)):Int))) (uI ((h*16777619%4294967296+(↑(U3 (getD s (AB ((j:Int)-1)*1) mq)):Int))%4294967296)) (aL _ _) (.s 8 (.ow (j-1+3) (.s 1 (.chk (decide (0<=(j:Int)-1+3)&&decide ((j:Int)-1+3<n)&&true) AZ (.s 2 (.opt ((map dB s)[AB ((j:Int)-1+3)*1]?) (dB (getD s (AB ((j:Int)-1+3)*1) mq)) (av _ _ om) (.s 1 (.opt (ax .u32 (↑(U3 (getD s (AB ((j:Int)-1+3)*1) mq)):Int)) (ak (U3 (getD s (AB ((j:Int)-1+3)*1) mq))) (aE A0) (.s 2 (.opt (ax .u32 (1055306571*(↑(U3 (getD s (AB ((j:Int)-1+3)*1) mq)):Int))) (uI (1055306571*(↑(U3 (getD s (AB ((j:Int)-1+3)*1) mq)):Int)%4294967296)) (aL _ _) (.s 2 (.opt (ax .u32 ((h*16777619%4294967296+(↑(U3 (getD s (AB ((j:Int)-1)*1) mq)):Int))%4294967296-1055306571*(↑(U3 (getD s (AB ((j:Int)-1+3)*1) mq)):Int)%4294967296)) (uI (((h*16777619%4294967296+(↑(U3 (getD s (AB ((j:Int)-1)*1) mq)):Int))%4294967296-1055306571*(↑(U3 (getD s (AB ((j:Int)-1+3)*1) mq)):Int)%4294967296)%4294967296)) (aL _ _) (.s 8 (.br (((h*16777619%4294967296+(↑(U3 (getD s (AB ((j:Int)-1)*1) mq)):Int))%4294967296-1055306571*(↑(U3 (getD s (AB ((j:Int)-1+3)*1) mq)):Int)%4294967296)%4294967296==H) (λ p4=>have Z3:=eq_of_beq p4;(.s 9 (.ow (j-1+3) (.s 2 (.chk (aU (some ((j:Int)-1)) (some ((j:Int)-1+3)) none n&&true) (by(simp <;>(omega))) (.s 3 (.byt (take ((AB ((j:Int)-1+3)-AB ((j:Int)-1))*1) (drop (AB ((j:Int)-1)*1) (map dB s))) (take (AB ((j:Int)-1+3)-AB ((j:Int)-1)) (drop (AB ((j:Int)-1)) s)) (by(simp;done)) (.s 5 (.byt (map dB p) (p) rfl (.s 3 (.br (V9 (WU (Xy (take (AB ((j:Int)-1+3)-AB ((j:Int)-1)) (drop (AB ((j:Int)-1)) s))))==V9 (WU (Xy p))) (λ p5=>have p5f:=eq_of_beq p5;(.s 2 (.val 4 (zI (j-1)) (zI (ar s p (n-2))) (by(exact aR (Dz hl (by(omega)) aF))) (Hn.last ZD 1 (():Unit) rfl [] ro)))) (λ p5=>have p5f:=ap p5;(.s 3 (.ow (j-1-1) (.s 1 (.val 11 (zI (j-1-1)) (zI ((↑(j-1):Int)-1)) pC (Hn.next ZA ⟨(j-1),om,(((((((h*16777619)%4294967296)+((s.getD (((j:Int)-1).toNat*1) mq).toNat:Int))%4294967296)-((1055306571*((s.getD (((j:Int)-1+3).toNat*1) mq).toNat:Int))%4294967296))%4294967296)),Gl,(by(exact zp hl (by(omega)) aF)),⟨⟩⟩ Gm [] ro))))))))))))))))) (λ p4=>have Z3:=ap p4;(.s 23 (.ow (j-1-1) (.s 1 (.val 11 (zI (j-1-1)) (zI ((↑(j-1):Int)-1)) pC (Hn.next ZA ⟨(j-1),om,(((((((h*16777619)%4294967296)+((s.getD (((j:Int)-1).toNat*1) mq).toNat:Int))%4294967296)-((1055306571*((s.getD (((j:Int)-1+3).toNat*1) mq).toNat:Int))%4294967296))%4294967296)),Gl,(by(exact zq hl (by(omega)) (by(omega)) hh hH aF)),⟨⟩⟩ Gm [] ro))))))))))))))))))))))))))))))) (λ p3 Z4=>(Hn.last ZD 0 (⟨(by(exact rq hl (by(omega)))),⟨⟩⟩:(hz:ar s p (n-2)= -1)×'Unit) rfl [] ro))))) (fun|⟨j,hj,h,hh,hl,_⟩=>by kernel_rfl) ⟨(n-3),om,(h2),om,(by(refine mM om ?_;rw[<-zn hn om rfl];refine λ e=>LJ p2 ?_;refine Eq.trans ?_ e;exact congrArg (drop · s) om)),⟨⟩⟩ [] ro (gu (fun|⟨hz,_⟩=>(.s 1 (.out [] [] (zI (-1)) [] R (ok _ _ pC wr)))) (fun|()=>(.out [] [] (zI (ar s p (n-2))) [] R (ok _ _ wr wr))))))))))))))))))) (λ p1=>have Z6:=ap p1;(.s 17 (.ow (n-3-1) (.s 1 (.val 11 (zI (n-3-1)) (zI ((↑(n-3):Int)-1)) pC (Hn.inl T_ok ah false 94 0 (aq Tryz.prog 193 1) (λ(x:(j:Nat)×'(hj:j<=n-3)×'(h:Int)×'(hh:h=ct s j)×'(hl:ar s p (n-2)=ar s p j)×'Unit)=>match x with|⟨j,hj,h,hh,hl,_⟩=>Vn [(0,Vl false n 1 (map dB s)),(1,Vl false 3 1 (map dB p)),(5,uI H),(6,uI 1055306571),(7,zI 3),(9,.v (.int .u32 h)),(11,iD ((j:Int)-1))] [] 0) (λ(x:(j:Nat)×'(hj:j<=n-3)×'(h:Int)×'(hh:h=ct s j)×'(hl:ar s p (n-2)=ar s p j)×'Unit)=>match x with|⟨j,hj,h,hh,hl,_⟩=>j) [⟨(hz:ar s p (n-2)= -1)×'Unit,.exit 2,λ x=>match x with|⟨hz,_⟩=>Vn [(0,Vl false n 1 (map dB s)),(1,Vl false 3 1 (map dB p)),(5,uI H),(6,uI 1055306571),(7,zI 3)] [] 0⟩,⟨Unit,.ret,λ x=>match x with|()=>Vn [(4,iD (ar s p (n-2)))] [] 0⟩] 1000 64 (fun|⟨j,hj,h,hh,hl,_⟩,Q,ZA,ZD=>(.s 3 (.bd (0<=(j:Int)-1) (λ p6 p6f=>(.s 3 (.opt (ax .u32 (h*16777619)) (uI (h*16777619%4294967296)) (aL _ _) (.s 5 (.chk (decide (0<=(j:Int)-1)&&decide ((j:Int)-1<n)&&true) AZ (.s 2 (.opt ((map dB s)[AB ((j:Int)-1)*1]?) (dB (getD s (AB ((j:Int)-1)*1) mq)) (av _ _ om) (.s 1 (.opt (ax .u32 (↑(U3 (getD s (AB ((j:Int)-1)*1) mq)):Int)) (ak (U3 (getD s (AB ((j:Int)-1)*1) mq))) (aE A0) (.s 2 (.opt (ax .u32 (h*16777619%4294967296+(↑(U3 (getD s (AB ((j:Int)-1)*1) mq)):Int))) (uI ((h*16777619%4294967296+(↑(U3 (getD s (AB ((j:Int)-1)*1) mq)):Int))%4294967296)) (aL _ _) (.s 8 (.ow (j-1+3) (.s 1 (.chk (decide (0<=(j:Int)-1+3)&&decide ((j:Int)-1+3<n)&&true) AZ (.s 2 (.opt ((map dB s)[AB ((j:Int)-1+3)*1]?) (dB (getD s (AB ((j:Int)-1+3)*1) mq)) (av _ _ om) (.s 1 (.opt (ax .u32 (↑(U3 (getD s (AB ((j:Int)-1+3)*1) mq)):Int)) (ak (U3 (getD s (AB ((j:Int)-1+3)*1) mq))) (aE A0) (.s 2 (.opt (ax .u32 (1055306571*(↑(U3 (getD s (AB ((j:Int)-1+3)*1) mq)):Int))) (uI (1055306571*(↑(U3 (getD s (AB ((j:Int)-1+3)*1) mq)):Int)%4294967296)) (aL _ _) (.s 2 (.opt (ax .u32 ((h*16777619%4294967296+(↑(U3 (getD s (AB ((j:Int)-1)*1) mq)):Int))%4294967296-1055306571*(↑(U3 (getD s (AB ((j:Int)-1+3)*1) mq)):Int)%4294967296)) (uI (((h*16777619%4294967296+(↑(U3 (getD s (AB ((j:Int)-1)*1) mq)):Int))%4294967296-1055306571*(↑(U3 (getD s (AB ((j:Int)-1+3)*1) mq)):Int)%4294967296)%4294967296)) (aL _ _) (.s 8 (.br (((h*16777619%4294967296+(↑(U3 (getD s (AB ((j:Int)-1)*1) mq)):Int))%4294967296-1055306571*(↑(U3 (getD s (AB ((j:Int)-1+3)*1) mq)):Int)%4294967296)%4294967296==H) (λ p7=>have p7f:=eq_of_beq p7;(.s 9 (.ow (j-1+3) (.s 2 (.chk (aU (some ((j:Int)-1)) (some ((j:Int)-1+3)) none n&&true) (by(simp <;>(omega))) (.s 3 (.byt (take ((AB ((j:Int)-1+3)-AB ((j:Int)-1))*1) (drop (AB ((j:Int)-1)*1) (map dB s))) (take (AB ((j:Int)-1+3)-AB ((j:Int)-1)) (drop (AB ((j:Int)-1)) s)) (by(simp;done)) (.s 5 (.byt (map dB p) (p) rfl (.s 3 (.br (V9 (WU (Xy (take (AB ((j:Int)-1+3)-AB ((j:Int)-1)) (drop (AB ((j:Int)-1)) s))))==V9 (WU (Xy p))) (λ p8=>have p8f:=eq_of_beq p8;(.s 2 (.val 4 (zI (j-1)) (zI (ar s p (n-2))) (by(exact aR (Dz hl (by(omega)) aF))) (Hn.last ZD 1 (():Unit) rfl [] ro)))) (λ p8=>have p8f:=ap p8;(.s 3 (.ow (j-1-1) (.s 1 (.val 11 (zI (j-1-1)) (zI ((↑(j-1):Int)-1)) pC (Hn.next ZA ⟨(j-1),om,(((((((h*16777619)%4294967296)+((s.getD (((j:Int)-1).toNat*1) mq).toNat:Int))%4294967296)-((1055306571*((s.getD (((j:Int)-1+3).toNat*1) mq).toNat:Int))%4294967296))%4294967296)),Gl,(by(exact zp hl (by(omega)) aF)),⟨⟩⟩ Gm [] ro))))))))))))))))) (λ p7=>have p7f:=ap p7;(.s 23 (.ow (j-1-1) (.s 1 (.val 11 (zI (j-1-1)) (zI ((↑(j-1):Int)-1)) pC (Hn.next ZA ⟨(j-1),om,(((((((h*16777619)%4294967296)+((s.getD (((j:Int)-1).toNat*1) mq).toNat:Int))%4294967296)-((1055306571*((s.getD (((j:Int)-1+3).toNat*1) mq).toNat:Int))%4294967296))%4294967296)),Gl,(by(exact zq hl (by(omega)) (by(omega)) hh hH aF)),⟨⟩⟩ Gm [] ro))))))))))))))))))))))))))))))) (λ p6 p6f=>(Hn.last ZD 0 (⟨(by(exact rq hl (by(omega)))),⟨⟩⟩:(hz:ar s p (n-2)= -1)×'Unit) rfl [] ro))))) (fun|⟨j,hj,h,hh,hl,_⟩=>by kernel_rfl) ⟨(n-3),om,(h2),om,(by(refine rm om om hh2 hH (ap p1))),⟨⟩⟩ [] ro (gu (fun|⟨hz,_⟩=>(.s 1 (.out [] [] (zI (-1)) [] R (ok _ _ pC wr)))) (fun|()=>(.out [] [] (zI (ar s p (n-2))) [] R (ok _ _ wr wr)))))))))))))))))))))))) kr
theorem vw {s p:Z1}{n:Nat}(hn:n=s.length)(h3:n=3):ar s p (n-2)=if s=p then 0 else -1:=by
 rw[show n-2=0+1 from by omega,ar,List.drop_zero,VB om];rfl
theorem Qf {s p:Z1}{n:Nat}(hn:n=s.length)(h3:n=3)(e:(V9 {data:=s.toArray}==V9 {data:=p.toArray})=true):0=ar s p (n-2):=by rw[vw hn h3,ZF (LI e)]
theorem Qg {s p:Z1}{n:Nat}(hn:n=s.length)(h3:n=3)(e:(V9 {data:=s.toArray}==V9 {data:=p.toArray})=false):-1=ar s p (n-2):=by rw[vw hn h3,ZE (LJ e)]
theorem Qh {s p:Z1}{n:Nat}(h:n<=2):-1=ar s p (n-2):=by rw[show n-2=0 from by omega];rfl
theorem LK (s p:Z1)(n:Nat)(hn:n=s.length)(hp:p.length=3)(h4:n<=1000000):S0 179 [.sl false n 1 (s.map dB),.sl false 3 1 (p.map dB)] [] (iD (ar s p (n-2))) []:=by
 have hH:ct p 0=ct p 0:=rfl;refine SpecH.run T_ok ah Tryz.func179 rfl rfl rfl trivial rfl 1000 64 (λ R ok=>(.s 20 (.br (3==(n:Int)) (λ p0=>have Z7:=eq_of_beq p0;(.s 8 (.byt (map dB s) (s) rfl (.s 3 (.byt (map dB p) (p) rfl (.s 2 (.br (V9 (WU (Xy s))==V9 (WU (Xy p))) (λ p1=>have Z6:=eq_of_beq p1;(.s 1 (.out [] [] (zI 0) [] R (ok _ _ (by(exact aR (Qf hn (by(omega)) aF))) wr)))) (λ p1=>have Z6:=ap p1;(.s 1 (.out [] [] (zI (-1)) [] R (ok _ _ (by(exact aR (Qg hn (by(omega)) aF))) wr))))))))))) (λ p0=>have Z7:=ap p0;(.s 6 (.bd ((n:Int)<3) (λ p2 Z5=>(.s 1 (.out [] [] (zI (-1)) [] R (ok _ _ (by(exact aR (Qh (by(omega))))) wr)))) (λ p2 Z5=>(.s 3 (.cl 193 false [] (.fn Sq (@Go.Proofs.YtefjnofhgkjpmaaGreat.Vm.rk (s) (p) (n) om om om om (ct p 0) aF)) (.s 1 (.out [] [] (zI (ar s p (n-2))) [] R (ok _ _ wr wr)))))))))))) kr
theorem Qi {p:Prop}(h:p:=by((refine aI ?_ ?_)<;>(repeat' (first|(refine aI ?_ ?_)|(with_reducible rfl)|(refine decide_eq_true ?_)|(refine U8 ?_)|(refine fw ?_)))<;>(omega))):p:=h
def same (b:Z1)(i j:Nat):Nat->Nat
 |0=>0
 |k+1=>if i<b.length∧b.getD j mq=b.getD i mq then same b (i+1) (j+1) k+1 else 0
theorem zr (b:Z1):∀(k i j:Nat),same b i j k<=k
 |0,i,j=>Vd 0
 |k+1,i,j=>by
  unfold same
  split
  ·exact Xa (zr b k (i+1) (j+1))
  ·omega
theorem jN (b:Z1):∀(k i j:Nat),i<=b.length->i+same b i j k<=b.length
 |0,i,j,h=>h
 |k+1,i,j,h=>by
  unfold same
  split
  ·next e=>have:=jN b k (i+1) (j+1) e.1;omega
  ·exact h
theorem Gr {b:Z1}{i j m a:Nat}(hs:a=m+same b (i+m) (j+m) (258-m))(h1:m<258)(h2:i+m<b.length)(h3:b.getD (j+m) mq=b.getD (i+m) mq):a=(m+1)+same b (i+(m+1)) (j+(m+1)) (258-(m+1)):=by
 rw[hs,show 258-m=(258-(m+1))+1 from by omega,same,ZF ⟨h2,h3⟩];rw[show i+m+1=i+(m+1)from by omega,show j+m+1=j+(m+1)from by omega];omega
theorem tw {b:Z1}{i j m a:Nat}(hs:a=m+same b (i+m) (j+m) (258-m))(h:m=258∨¬i+m<b.length∨b.getD (j+m) mq≠b.getD (i+m) mq):a=m:=by
 rw[hs];rcases h with h|h|h
 ·rw[h];rfl
 ·cases k:258-m with
  |zero=>rfl
  |succ k=>rw[same,ZE (λ e=>h e.1)];rfl
 ·cases k:258-m with
  |zero=>rfl
  |succ k=>rw[same,ZE (λ e=>h e.2)];rfl
theorem zt {b:Z1}{i m:Nat}:b.getD (((i:Int)+(m:Int)).toNat*1) mq=b.getD (i+m) mq:=congrArg (b.getD · mq) om
theorem Qj {x y:UInt8}(h:(x.toNat:Int)=(y.toNat:Int)):x=y:=UInt8.toNat_inj.1 (Int.ofNat.inj h)
theorem wR {b:Z1}{i j m a:Nat}(hs:a=m+same b (i+m) (j+m) (258-m))(h1:m<258)(h2:i+m<b.length)(e:(((b.getD (((j:Int)+(m:Int)).toNat*1) mq).toNat:Int)==((b.getD (((i:Int)+(m:Int)).toNat*1) mq).toNat:Int))=true):a=m+1+same b (i+(m+1)) (j+(m+1)) (258-(m+1)):=by
 rw[zt,zt]at e;exact Gr hs h1 h2 (Qj (eq_of_beq e))
theorem LL {b:Z1}{i j m a:Nat}(hs:a=m+same b (i+m) (j+m) (258-m))(e:(((b.getD (((j:Int)+(m:Int)).toNat*1) mq).toNat:Int)==((b.getD (((i:Int)+(m:Int)).toNat*1) mq).toNat:Int))=false):(m:Int)=(a:Int):=by
 rw[zt,zt]at e;rw[tw hs (.inr (.inr λ h=>ap e (by rw[h])))]
theorem Gs {b:Z1}{i j m a n:Nat}(hs:a=m+same b (i+m) (j+m) (258-m))(hn:n=b.length)(e:decide ((i:Int)+(m:Int)<(n:Int))=false):(m:Int)=(a:Int):=by
 have:=of_decide_eq_false e;rw[tw hs (.inr (.inl om))]
theorem Gt {b:Z1}{i j m a:Nat}(hs:a=m+same b (i+m) (j+m) (258-m))(hm:m<=258)(e:decide ((m:Int)<258)=false):(m:Int)=(a:Int):=by
 have:=of_decide_eq_false e;rw[tw hs (.inl om)]
theorem long (b:Z1)(n i j:Nat)(hn:n=b.length)(hN:n<=1000000)(hi:i<=n)(hj:j<i):S0 155 [.sl false n 1 (b.map dB),iD i,iD j] [] (iD (same b i j 258:Nat)) []:=by
 refine SpecH.run T_ok ah Tryz.func155 rfl rfl rfl trivial rfl 1000 64 (λ R ok=>(.s 1 (Hn.inl T_ok ah false 35 0 (aq Tryz.prog 155 0) (λ(x:(m:Nat)×'(hm:m<=258)×'(hi2:i+m<=n)×'(hs:same b i j 258=m+same b (i+m) (j+m) (258-m))×'Unit)=>match x with|⟨m,hm,hi2,hs,_⟩=>Vn [(0,Vl false n 1 (map dB b)),(1,zN i),(2,zN j),(6,iD (m:Nat))] [] 0) (λ(x:(m:Nat)×'(hm:m<=258)×'(hi2:i+m<=n)×'(hs:same b i j 258=m+same b (i+m) (j+m) (258-m))×'Unit)=>match x with|⟨m,hm,hi2,hs,_⟩=>258-m) [⟨Unit,.exit 0,λ x=>match x with|()=>Vn [(0,Vl false n 1 (map dB b)),(1,zN i),(2,zN j),(6,iD (same b i j 258:Nat))] [] 0⟩] 1000 64 (fun|⟨m,hm,hi2,hs,_⟩,Q,ZA,ZD=>(.s 6 (.bd ((m:Int)<258) (λ p0 Z7=>(.s 5 (.ow (i+m) (.s 10 (.bd ((i:Int)+m<n) (λ p1 Z6=>(.s 7 (.ow (j+m) (.s 2 (.chk (true&&decide ((j:Int)+m<n)&&true) Qi (.s 3 (.opt ((map dB b)[AB ((j:Int)+m)*1]?) (dB (getD b (AB ((j:Int)+m)*1) mq)) (av _ _ om) (.s 9 (.ow (i+m) (.s 2 (.chk (true&&decide ((i:Int)+m<n)&&true) Qi (.s 3 (.opt ((map dB b)[AB ((i:Int)+m)*1]?) (dB (getD b (AB ((i:Int)+m)*1) mq)) (av _ _ om) (.s 4 (.br ((↑(U3 (getD b (AB ((j:Int)+m)*1) mq)):Int)==(↑(U3 (getD b (AB ((i:Int)+m)*1) mq)):Int)) (λ p2=>have Z5:=eq_of_beq p2;(.s 3 (.ow (m+1) (.s 1 (.val 6 (zI (m+1)) (zN (m+1)) (by(simp;done)) (Hn.next ZA ⟨(m+1),om,om,(by(exact wR hs (by(omega)) (by(omega)) aF)),⟨⟩⟩ (by show 258-(m+1)<258-m;clear ZA ZD;omega) [] ro)))))) (λ p2=>have Z5:=ap p2;(.val 6 (zN m) (zN (same b i j 258)) (by(exact aR (LL hs aF))) (Hn.last ZD 0 (():Unit) rfl [] ro)))))))))))))))))) (λ p1 Z6=>(.s 26 (.val 6 (zN m) (zN (same b i j 258)) (by(exact aR (Gs hs hn aF))) (Hn.last ZD 0 (():Unit) rfl [] ro))))))))) (λ p0 Z7=>(.s 40 (.val 6 (zN m) (zN (same b i j 258)) (by(exact aR (Gt hs hm aF))) (Hn.last ZD 0 (():Unit) rfl [] ro))))))) (fun|⟨m,hm,hi2,hs,_⟩=>by kernel_rfl) ⟨(0),om,om,(by(simp only[Xe,VK,Ya];done)),⟨⟩⟩ [] ro (ck (fun|()=>(.s 2 (.out [] [] (zN (same b i j 258)) [] R (ok _ _ wr wr)))))))) kr
theorem longX (b:Z1)(n:Nat)(x y:Int)(hn:n=b.length)(hN:n<=1000000)(hx:x<=n)(hy:0<=y)(hxy:y<x):S0 155 [.sl false n 1 (b.map dB),iD x,iD y] [] (iD (same b x.toNat y.toNat 258:Nat)) []:=by
 obtain⟨i,rfl⟩:=V5 (show 0<=x by omega);obtain⟨j,rfl⟩:=V5 hy;exact long b n i j hn hN om om
theorem nz {p:Prop}(h:p:=by(have h9:=ii (take (((k:Int)+2).toNat-(max 0 (q-size)).toNat) (drop (max 0 (q-size)).toNat b)) (take ((q+3).toNat-q.toNat) (drop q.toNat b)) (((k:Int)+2).toNat-(max 0 (q-size)).toNat-2);omega)):p:=h
theorem A1 {p:Prop}(h:p:=by(exact LN (by(omega)) (by(omega)))):p:=h
theorem Qk {p:Prop}(h:p:=by show AB (max 0 (q-size)+ar (take (AB ((k:Int)+2)-AB (max 0 (q-size))) (drop (AB (max 0 (q-size))) b)) (take (AB (q+3)-AB q) (drop (AB q) b)) (AB ((k:Int)+2)-AB (max 0 (q-size))-2))<k;clear ZA ZD;(have h9:=ii (take (((k:Int)+2).toNat-(max 0 (q-size)).toNat) (drop (max 0 (q-size)).toNat b)) (take ((q+3).toNat-q.toNat) (drop q.toNat b)) (((k:Int)+2).toNat-(max 0 (q-size)).toNat-2);omega)):p:=h
def bestG (b:Z1)(i:Nat)(size:Int):Nat->Int->Int->Int->Int×Int
 |0,_,d,l=>(d,l)
 |k+1,c,d,l=>
  if(i:Int)-k<=size∧0<c then
   if same b i k 258<3 then bestG b i size k c d l
   else if l<same b i k 258 then bestG b i size k (c-1) ((i:Int)-k) (same b i k 258:Nat)
   else bestG b i size k (c-1) d l
  else(d,l)
theorem pD (b:Z1)(i j:Nat):same b i j 258<=258:=zr b 258 i j
theorem DA {x:Int×Int}{d l:Int}(h:x=(d,l)):d=x.1:=by rw[h]
theorem DB {x:Int×Int}{d l:Int}(h:x=(d,l)):l=x.2:=by rw[h]
def vx (n:Nat)(x size chain:Int):Prop:=x<0∨(n:Int)<x∨size<1∨32768<size∨chain<0∨256<chain
instance (n:Nat) (x size chain:Int):Decidable (vx n x size chain):=by unfold vx;infer_instance
def eZ (b:Z1)(n:Nat)(x size chain:Int):Int:=if 131072<n then 4 else if vx n x size chain then 2 else if(bestG b x.toNat size x.toNat chain 0 0).2=0 then 6 else 0
def rr (b:Z1)(n:Nat)(x size chain:Int):Int:=if eZ b n x size chain=0 then(bestG b x.toNat size x.toNat chain 0 0).1 else 0
def nk (b:Z1)(n:Nat)(x size chain:Int):Int:=if eZ b n x size chain=0 then(bestG b x.toNat size x.toNat chain 0 0).2 else 0
abbrev kH (b:Z1)(n:Nat)(x size chain:Int):D:=.tup [iD (rr b n x size chain),iD (nk b n x size chain),iD (eZ b n x size chain)]
theorem tz {b:Z1}{n:Nat}{x size chain e:Int}(h:eZ b n x size chain=e)(he:e≠0):V2 [iD 0,iD 0,iD e]=kH b n x size chain:=by
 have h2:¬eZ b n x size chain=0:=λ q=>he (h.symm.trans q)
 unfold kH rr nk;rw[ZE h2,ZE h2,h]
theorem LM {b:Z1}{n:Nat}{x size chain:Int}(h:131072<n):V2 [iD 0,iD 0,iD 4]=kH b n x size chain:=tz (ZF h) (by decide)
theorem LN {b:Z1}{n:Nat}{x size chain:Int}(h:n<=131072)(h2:x<0∨(n:Int)<x∨size<1∨32768<size∨chain<0∨256<chain):V2 [iD 0,iD 0,iD 2]=kH b n x size chain:=tz (by rw[eZ,ZE om,ZF (show vx n x size chain from h2)]) (by decide)
theorem w8 {b:Z1}{n:Nat}{x size chain:Int}(h:n<=131072)(h2:¬(x<0∨(n:Int)<x∨size<1∨32768<size∨chain<0∨256<chain))(h3:(bestG b x.toNat size x.toNat chain 0 0).2=0):V2 [iD 0,iD 0,iD 6]=kH b n x size chain:=tz (by rw[eZ,ZE om,ZE (show¬vx n x size chain from h2),ZF h3]) (by decide)
theorem DC {b:Z1}{n:Nat}{x size chain:Int}(h:n<=131072)(h2:¬(x<0∨(n:Int)<x∨size<1∨32768<size∨chain<0∨256<chain))(h3:¬(bestG b x.toNat size x.toNat chain 0 0).2=0):V2 [iD (bestG b x.toNat size x.toNat chain 0 0).1,iD (bestG b x.toNat size x.toNat chain 0 0).2,iD 0]=kH b n x size chain:=by
 have e:eZ b n x size chain=0:=by rw[eZ,ZE om,ZE (show¬vx n x size chain from h2),ZE h3]
 unfold kH rr nk;rw[ZF e,ZF e,e]
theorem ii (s p:Z1):∀k:Nat,-1<=ar s p k∧ar s p k<k
 |0=>by unfold ar;decide
 |k+1=>by
  have:=ii s p k;unfold ar
  split<;>omega
theorem vy (s p:Z1):∀k:Nat,ar s p k<0->∀j,j<k->(s.drop j).take 3≠p
 |0,_,j,h=>absurd h (Ws j)
 |k+1,h,j,hj=>by
  unfold ar at h
  split at h
  ·omega
  ·next e=>exact if q:j=k then q▸e else vy s p k h j om
theorem vz (s p:Z1):∀k:Nat,0<=ar s p k->(s.drop (ar s p k).toNat).take 3=p∧∀j:Nat,ar s p k<j->j<k->(s.drop j).take 3≠p
 |0,h=>absurd h (by unfold ar;decide)
 |k+1,h=>by
  unfold ar at h ⊢
  split at h
  ·next e=>
   rw[ZF e];exact⟨e,λ j h1 h2=>by omega⟩
  ·next e=>
   rw[ZE e];have:=vz s p k h;exact⟨this.1,λ j h1 h2=>if q:j=k then q▸e else this.2 j h1 om⟩
theorem Jn (b:Z1)(i:Nat)(h:i+3<=b.length):(b.drop i).take 3=[b.getD i mq,b.getD (i+1) mq,b.getD (i+2) mq]:=by
 have g:∀j,j<3->b[i+j]? =some (b.getD (i+j) mq):=λ j hj=>by
  rw[UZ,U4 om];rfl
 apply Wb;intro j;rw[V0]
 split
 ·next hj=>
  rw[Wr,g j hj]
  match j,hj with
  |0,_=>rfl
  |1,_=>rfl
  |2,_=>rfl
 ·next hj=>
  rw[VF (by simp;omega)]
theorem LO {b:Z1}{i j k:Nat}(hi:i+3<=b.length)(hj:j<i):3<=same b i j (k+1+1+1)↔(b.drop j).take 3=(b.drop i).take 3:=by
 rw[Jn b i hi,Jn b j om];simp only[same,List.cons.injEq,and_true];constructor
 ·intro h
  split at h
  ·next e1=>
   split at h
   ·next e2=>
    split at h
    ·next e3=>exact⟨e1.2,e2.2,e3.2⟩
    ·omega
   ·omega
  ·omega
 ·rintro⟨e1,e2,e3⟩
  rw[ZF ⟨by omega,e1⟩,ZF ⟨by omega,e2⟩,ZF ⟨by omega,e3⟩];omega
theorem DD {b:Z1}{i j:Nat}(hi:i+3<=b.length)(hj:j<i):3<=same b i j 258↔(b.drop j).take 3=(b.drop i).take 3:=LO (k:=255) hi hj
theorem DE {b:Z1}{i:Nat}{size d l c:Int}(hc:¬0<c):∀k,bestG b i size k c d l=(d,l)
 |0=>rfl
 |k+1=>by rw[bestG,ZE (λ h=>hc h.2)]
theorem mN {b:Z1}{i m:Nat}{size c d l:Int}(hs:(i:Int)-m<=size)(hc:0<c):∀k,m<=k->(∀j,m<=j->j<k->same b i j 258<3)->bestG b i size k c d l=bestG b i size m c d l
 |0,h,_=>by rw[show m=0 from by omega]
 |k+1,h,hj=>by
  by_cases q:m=k+1
  ·rw[q]
  ·rw[bestG,ZF ⟨by omega,hc⟩,ZF (hj k om om)]
   exact mN hs hc k om λ j h1 h2=>hj j h1 om
theorem A3 {b:Z1}{i m k:Nat}{size c d l:Int}(hm:(m:Int)=max 0 ((i:Int)-size))(hk:m<=k)(hj:∀j,m<=j->j<k->same b i j 258<3):bestG b i size k c d l=(d,l):=by
 by_cases hc:0<c
 ·rw[mN (m:=m) om hc k hk hj]
  cases m with
  |zero=>rfl
  |succ m=>rw[bestG,ZE om]
 ·exact DE hc k
theorem A4 {b:Z1}{i k:Nat}{size d l:Int}(h:(b.length:Int)<(i:Int)+3):∀c,bestG b i size k c d l=(d,l):=by
 have g:∀j,same b i j 258<3:=λ j=>by
  by_cases hi:i<=b.length
  ·have:=jN b 258 i j hi;omega
  ·rw[show(258:Nat)=257+1 from rfl,same,ZE (λ e=>by have:=e.1;omega)];decide
 intro c
 induction k with
 |zero=>rfl
 |succ k ih=>
  rw[bestG]
  split
  ·rw[ZF (g k)];exact ih
  ·rfl
theorem DF (b:Z1){low m j:Nat}(h:j+3<=m):((((b.drop low).take m).drop j).take 3)=(b.drop (low+j)).take 3:=by
 rw[List.drop_take,List.take_take,List.drop_drop,Nat.min_eq_left om]
theorem TA {b:Z1}{i k low m:Nat}{size c d l:Int}{a:Int×Int}(hg:a=bestG b i size k c d l)(hlow:(low:Int)=max 0 ((i:Int)-size))(hk:low<=k)(hki:k<=i)(hi:i+3<=b.length)(hm:m=k+2-low)(h:ar ((b.drop low).take m) ((b.drop i).take 3) (m-2)<0):a=(d,l):=by
 rw[hg];refine A3 hlow hk λ j h1 h2=>?_
 have e:=vy _ _ _ h (j-low) om;rw[DF b om,show low+(j-low)=j from by omega]at e;have:¬3<=same b i j 258:=λ q=>e ((DD hi (show j<i by omega)).1 q)
 omega
theorem TB {b:Z1}{i k low m f:Nat}{r size c d l:Int}{a:Int×Int}(hg:a=bestG b i size k c d l)(hlow:(low:Int)=max 0 ((i:Int)-size))(hk:low<=k)(hki:k<=i)(hi:i+3<=b.length)(hm:m=k+2-low)(hr:r=ar ((b.drop low).take m) ((b.drop i).take 3) (m-2))(h:0<=r)(hc:0<c)(hf:(f:Int)=low+r):
  a=if l<same b i f 258 then bestG b i size f (c-1) ((i:Int)-f) (same b i f 258:Nat)else bestG b i size f (c-1) d l:=by
 have hb:=ii ((b.drop low).take m) ((b.drop i).take 3) (m-2);have hp:=vz ((b.drop low).take m) ((b.drop i).take 3) (m-2) (hr▸h);rw[<-hr]at hb hp;have e1:=hp.1;rw[DF b om,show low+r.toNat=f from by omega]at e1;have s1:=(DD hi (show f<i by omega)).2 e1;rw[hg,mN (m:=f+1) om hc k om (λ j h1 h2=>?_),bestG,ZF ⟨by omega,hc⟩,ZE om];have e:=hp.2 (j-low) om om;rw[DF b om,show low+(j-low)=j from by omega]at e;have:¬3<=same b i j 258:=λ q=>e ((DD hi (show j<i by omega)).1 q)
 omega
theorem lastIxX (s p:Z1)(n m:Nat)(hn:n=s.length)(hp:p.length=m)(hm:m=3)(h4:n<=1000000):S0 179 [.sl false n 1 (s.map dB),.sl false m 1 (p.map dB)] [] (iD (ar s p (n-2))) []:=by
 subst hm;exact LK s p n hn hp h4
theorem Gu {x y:Int}{t:TypeId}{r:Bool}(h:x=y):(⟨[D.v (.int .i64 x)],t,r⟩:Blk)=⟨[D.v (.int .i64 y)],t,r⟩:=by rw[h]
abbrev LA (b:Z1)(q size:Int)(k:Nat):Int:=ar (VX (((k:Int)+2).toNat-(max 0 (q-size)).toNat) (VW (max 0 (q-size)).toNat b)) (VX ((q+3).toNat-q.toNat) (VW q.toNat b)) (((k:Int)+2).toNat-(max 0 (q-size)).toNat-2)
theorem Jo {b:Z1}{n k:Nat}{q size c d l:Int}{a:Int×Int}(hn:n=b.length)(h7:q+3<=n)(h1:0<=q)(h3:1<=size)(hlow:max 0 (q-size)<=(k:Int))(hk:k<=q.toNat)(hg:a=bestG b q.toNat size k c d l)(h:LA b q size k<0):a=(d,l):=by
 unfold LA at h;rw[show(q+3).toNat-q.toNat=3 from by omega]at h;exact TA hg (low:=(max 0 (q-size)).toNat) (m:=((k:Int)+2).toNat-(max 0 (q-size)).toNat) om om om om om h
theorem Jp {b:Z1}{k:Nat}{q size c d l:Int}{a:Int×Int}(hg:a=bestG b q.toNat size k c d l)(h:¬0<c):a=(d,l):=hg.trans (DE h k)
theorem Jq {b:Z1}{n k:Nat}{q size c d l:Int}{a:Int×Int}(hn:n=b.length)(h7:q+3<=n)(h1:0<=q)(h3:1<=size)(hlow:max 0 (q-size)<=(k:Int))(hk:k<=q.toNat)(hg:a=bestG b q.toNat size k c d l)(h:0<=LA b q size k)(hc:0<c):
  a=if l<same b q.toNat (max 0 (q-size)+LA b q size k).toNat 258 then bestG b q.toNat size (max 0 (q-size)+LA b q size k).toNat (c-1) (q-(max 0 (q-size)+LA b q size k)) (same b q.toNat (max 0 (q-size)+LA b q size k).toNat 258:Nat)else bestG b q.toNat size (max 0 (q-size)+LA b q size k).toNat (c-1) d l:=by
 have e3:(q+3).toNat-q.toNat=3:=by omega
 have h0:=h;unfold LA at h0;rw[e3]at h0;have key:=TB hg (low:=(max 0 (q-size)).toNat) (m:=((k:Int)+2).toNat-(max 0 (q-size)).toNat) (f:=(max 0 (q-size)+LA b q size k).toNat) (r:=LA b q size k) om om om om om (by unfold LA;rw[e3]) h hc om;rw[show((q.toNat:Nat):Int)-((max 0 (q-size)+LA b q size k).toNat:Nat)=q-(max 0 (q-size)+LA b q size k)from by omega]at key;exact key
theorem Gw {b:Z1}{n k:Nat}{q size c d l:Int}{a:Int×Int}(hn:n=b.length)(h7:q+3<=n)(h1:0<=q)(h3:1<=size)(hlow:max 0 (q-size)<=(k:Int))(hk:k<=q.toNat)(hg:a=bestG b q.toNat size k c d l)(h:0<=(ar (VX (((k:Int)+2).toNat-(max 0 (q-size)).toNat) (VW (max 0 (q-size)).toNat b)) (VX ((q+3).toNat-q.toNat) (VW q.toNat b)) (((k:Int)+2).toNat-(max 0 (q-size)).toNat-2)))(hc:0<c)(hl:l<(same b q.toNat (max 0 (q-size)+(ar (VX (((k:Int)+2).toNat-(max 0 (q-size)).toNat) (VW (max 0 (q-size)).toNat b)) (VX ((q+3).toNat-q.toNat) (VW q.toNat b)) (((k:Int)+2).toNat-(max 0 (q-size)).toNat-2))).toNat 258:Nat)):
  a=bestG b q.toNat size (max 0 (q-size)+(ar (VX (((k:Int)+2).toNat-(max 0 (q-size)).toNat) (VW (max 0 (q-size)).toNat b)) (VX ((q+3).toNat-q.toNat) (VW q.toNat b)) (((k:Int)+2).toNat-(max 0 (q-size)).toNat-2))).toNat (c-1) (q-(max 0 (q-size)+(ar (VX (((k:Int)+2).toNat-(max 0 (q-size)).toNat) (VW (max 0 (q-size)).toNat b)) (VX ((q+3).toNat-q.toNat) (VW q.toNat b)) (((k:Int)+2).toNat-(max 0 (q-size)).toNat-2)))) (same b q.toNat (max 0 (q-size)+(ar (VX (((k:Int)+2).toNat-(max 0 (q-size)).toNat) (VW (max 0 (q-size)).toNat b)) (VX ((q+3).toNat-q.toNat) (VW q.toNat b)) (((k:Int)+2).toNat-(max 0 (q-size)).toNat-2))).toNat 258:Nat):=by
 rw[Jq hn h7 h1 h3 hlow hk hg h hc,ZF hl]
theorem Gx {b:Z1}{n k:Nat}{q size c d l:Int}{a:Int×Int}(hn:n=b.length)(h7:q+3<=n)(h1:0<=q)(h3:1<=size)(hlow:max 0 (q-size)<=(k:Int))(hk:k<=q.toNat)(hg:a=bestG b q.toNat size k c d l)(h:0<=(ar (VX (((k:Int)+2).toNat-(max 0 (q-size)).toNat) (VW (max 0 (q-size)).toNat b)) (VX ((q+3).toNat-q.toNat) (VW q.toNat b)) (((k:Int)+2).toNat-(max 0 (q-size)).toNat-2)))(hc:0<c)(hl:¬l<(same b q.toNat (max 0 (q-size)+(ar (VX (((k:Int)+2).toNat-(max 0 (q-size)).toNat) (VW (max 0 (q-size)).toNat b)) (VX ((q+3).toNat-q.toNat) (VW q.toNat b)) (((k:Int)+2).toNat-(max 0 (q-size)).toNat-2))).toNat 258:Nat)):
  a=bestG b q.toNat size (max 0 (q-size)+(ar (VX (((k:Int)+2).toNat-(max 0 (q-size)).toNat) (VW (max 0 (q-size)).toNat b)) (VX ((q+3).toNat-q.toNat) (VW q.toNat b)) (((k:Int)+2).toNat-(max 0 (q-size)).toNat-2))).toNat (c-1) d l:=by
 rw[Jq hn h7 h1 h3 hlow hk hg h hc,ZE hl]
theorem TC (b:Z1)(n:Nat)(q size chain:Int)(hn:n=b.length)(hN:n<=1000000)(hx:-9223372036854775808<=q∧q<=9223372036854775807)(hs:-9223372036854775808<=size∧size<=9223372036854775807)(hc:-9223372036854775808<=chain∧chain<=9223372036854775807):S0 117 [.sl false n 1 (b.map dB),iD q,iD size,iD chain] [] (kH b n q size chain) []:=by
 refine SpecH.run T_ok ah Tryz.func117 rfl rfl rfl trivial rfl 1000 64 (λ R ok=>(.s 24 (.bd (131072<(n:Int)) (λ p0 Z7=>(.s 18 (.out [] [] (V2 [zI 0,zI 0,zI 4]) [] R (ok _ _ (by(exact LM (by(omega)))) wr)))) (λ p0 Z7=>(.s 5 (.bd (q<0) (λ p1 Z6=>(.s 26 (.out [] [] (V2 [zI 0,zI 0,zI 2]) [] R (ok _ _ A1 wr)))) (λ p1 Z6=>(.s 8 (.bd ((n:Int)<q) (λ p2 Z5=>(.s 18 (.out [] [] (V2 [zI 0,zI 0,zI 2]) [] R (ok _ _ A1 wr)))) (λ p2 Z5=>(.s 11 (.bd (size<1) (λ p3 Z4=>(.s 27 (.out [] [] (V2 [zI 0,zI 0,zI 2]) [] R (ok _ _ A1 wr)))) (λ p3 Z4=>(.s 6 (.bd (32768<size) (λ p4 Z3=>(.s 21 (.out [] [] (V2 [zI 0,zI 0,zI 2]) [] R (ok _ _ A1 wr)))) (λ p4 Z3=>(.s 8 (.bd (chain<0) (λ p5 p5f=>(.s 15 (.out [] [] (V2 [zI 0,zI 0,zI 2]) [] R (ok _ _ A1 wr)))) (λ p5 p5f=>(.s 6 (.bd (256<chain) (λ p6 p6f=>(.s 11 (.out [] [] (V2 [zI 0,zI 0,zI 2]) [] R (ok _ _ A1 wr)))) (λ p6 p6f=>(.s 23 (.ow (q+3) (.s 6 (.bd ((n:Int)<q+3) (λ p7 p7f=>(.s 17 (.out [] [] (V2 [zI 0,zI 0,zI 6]) [] R (ok _ _ (by(exact w8 (by(omega)) (by(omega)) (by rw[A4 (by(omega))]))) wr)))) (λ p7 p7f=>(.s 11 (.ow (q+3) (.s 1 (.chk (aU (some q) (some (q+3)) none n&&true) (by(simp <;>(omega))) (.s 9 (.ow (q-size) (.s 1 (.opt (k6 VN true 0 (q-size)) (zI (max 0 (q-size))) (jv _ _ _) (.s 6 (.ow (q-1) (.s 2 (.ow (q-1+3) (.s 1 (.val 7 (zI (q-1+3)) (zI ((↑(AB q):Int)+2)) (by(refine aR ?_;(omega))) (Hn.inl T_ok ah false 47 456 (aq Tryz.prog 178 0) (λ(x:(k:Nat)×'(hk:k<=q.toNat)×'(c:Int)×'(d:Int)×'(l:Int)×'(hc2:0<=c∧c<=256)×'(hd:0<=d∧d<=1000000)×'(hl:0<=l∧l<=258)×'(hlow:max 0 (q-size)<=(k:Int))×'(hg:bestG b q.toNat size q.toNat chain 0 0=bestG b q.toNat size k c d l)×'Unit)=>match x with|⟨k,hk,c,d,l,hc2,hd,hl,hlow,hg,_⟩=>Vn [(0,D.yl 448 448),(2,Vh 368 368 0),(5,Vl false (AB (q+3)-AB q) 1 (take ((AB (q+3)-AB q)*1) (drop (AB q*1) (map dB b)))),(6,zI (max 0 (q-size))),(7,iD ((k:Int)+2))] [⟨0,0,0,0,.b ⟨[Vl false n 1 (map dB b)],24,false⟩⟩,⟨8,8,8,8,.b ⟨[zI q],3,false⟩⟩,⟨16,16,16,16,.b ⟨[iD c],3,false⟩⟩,⟨24,24,24,24,.b ⟨[iD d],3,false⟩⟩,⟨32,32,32,32,.b ⟨[iD l],3,false⟩⟩,⟨368,368,368,368,.b ⟨[Vl false n 1 (map dB b)],24,false⟩⟩,⟨376,376,376,376,.b ⟨[zI q],3,false⟩⟩,⟨384,384,384,384,.b ⟨[zI size],3,false⟩⟩,⟨448,448,448,448,.l WE none (rangeAt Tryz.prog 117 0).1 (rangeAt Tryz.prog 117 0).2.1 (rangeAt Tryz.prog 117 0).2.2 58 [(0,Vl false n 1 (map dB b)),(1,zI q),(3,zI chain),(7,Vh 16 16 0),(15,zI q),(31,zI chain),(23,zI size),(11,zI 0),(35,zI q),(27,zI chain),(5,Vh 8 8 0),(9,Vh 32 32 0),(17,zI 0),(33,D.v (.bool false)),(25,D.v (.bool (decide (32768<size)))),(21,D.v (.bool (decide (size<1)))),(37,WJ (VU 178) [] [Vh 376 376 0,Vh 368 368 0,Vh 384 384 0]),(29,D.v (.bool (decide (chain<0)))),(2,zI size),(4,Vh 0 0 0),(8,Vh 24 24 0),(16,zI 0),(32,D.v (.bool (decide (256<chain)))),(24,D.v (.bool (decide (32768<size)))),(20,zI size),(36,zI size),(28,D.v (.bool (decide (chain<0)))),(10,zI 0),(18,D.v (.bool false)),(34,Vl false n 1 (map dB b)),(26,D.v (.bool false)),(14,Vl false n 1 (map dB b)),(22,D.v (.bool false)),(30,D.v (.bool false))]⟩] 528) (λ(x:(k:Nat)×'(hk:k<=q.toNat)×'(c:Int)×'(d:Int)×'(l:Int)×'(hc2:0<=c∧c<=256)×'(hd:0<=d∧d<=1000000)×'(hl:0<=l∧l<=258)×'(hlow:max 0 (q-size)<=(k:Int))×'(hg:bestG b q.toNat size q.toNat chain 0 0=bestG b q.toNat size k c d l)×'Unit)=>match x with|⟨k,hk,c,d,l,hc2,hd,hl,hlow,hg,_⟩=>k) [⟨Unit,.ret,λ x=>match x with|()=>Vn [] [⟨0,0,0,0,.b ⟨[Vl false n 1 (map dB b)],24,false⟩⟩,⟨8,8,8,8,.b ⟨[zI q],3,false⟩⟩,⟨24,24,24,24,.b ⟨[iD (bestG b q.toNat size q.toNat chain 0 0).1],3,false⟩⟩,⟨32,32,32,32,.b ⟨[iD (bestG b q.toNat size q.toNat chain 0 0).2],3,false⟩⟩,⟨368,368,368,368,.b ⟨[Vl false n 1 (map dB b)],24,false⟩⟩,⟨376,376,376,376,.b ⟨[zI q],3,false⟩⟩,⟨384,384,384,384,.b ⟨[zI size],3,false⟩⟩,⟨448,448,448,448,.l WE none (rangeAt Tryz.prog 117 0).1 (rangeAt Tryz.prog 117 0).2.1 (rangeAt Tryz.prog 117 0).2.2 58 [(0,Vl false n 1 (map dB b)),(1,zI q),(3,zI chain),(7,Vh 16 16 0),(15,zI q),(31,zI chain),(23,zI size),(11,zI 0),(35,zI q),(27,zI chain),(5,Vh 8 8 0),(9,Vh 32 32 0),(17,zI 0),(33,D.v (.bool false)),(25,D.v (.bool (decide (32768<size)))),(21,D.v (.bool (decide (size<1)))),(37,WJ (VU 178) [] [Vh 376 376 0,Vh 368 368 0,Vh 384 384 0]),(29,D.v (.bool (decide (chain<0)))),(2,zI size),(4,Vh 0 0 0),(8,Vh 24 24 0),(16,zI 0),(32,D.v (.bool (decide (256<chain)))),(24,D.v (.bool (decide (32768<size)))),(20,zI size),(36,zI size),(28,D.v (.bool (decide (chain<0)))),(10,zI 0),(18,D.v (.bool false)),(34,Vl false n 1 (map dB b)),(26,D.v (.bool false)),(14,Vl false n 1 (map dB b)),(22,D.v (.bool false)),(30,D.v (.bool false))]⟩] 528⟩,⟨Unit,.ret,λ x=>match x with|()=>Vn [] [⟨0,0,0,0,.b ⟨[Vl false n 1 (map dB b)],24,false⟩⟩,⟨8,8,8,8,.b ⟨[zI q],3,false⟩⟩,⟨24,24,24,24,.b ⟨[iD (bestG b q.toNat size q.toNat chain 0 0).1],3,false⟩⟩,⟨32,32,32,32,.b ⟨[iD (bestG b q.toNat size q.toNat chain 0 0).2],3,false⟩⟩,⟨368,368,368,368,.b ⟨[Vl false n 1 (map dB b)],24,false⟩⟩,⟨376,376,376,376,.b ⟨[zI q],3,false⟩⟩,⟨384,384,384,384,.b ⟨[zI size],3,false⟩⟩,⟨448,448,448,448,.l LoopState.done (some (Code.exit 0)) (rangeAt Tryz.prog 117 0).1 (rangeAt Tryz.prog 117 0).2.1 (rangeAt Tryz.prog 117 0).2.2 58 [(0,Vl false n 1 (map dB b)),(1,zI q),(3,zI chain),(7,Vh 16 16 0),(15,zI q),(31,zI chain),(23,zI size),(11,zI 0),(35,zI q),(27,zI chain),(5,Vh 8 8 0),(9,Vh 32 32 0),(17,zI 0),(33,D.v (.bool false)),(25,D.v (.bool (decide (32768<size)))),(21,D.v (.bool (decide (size<1)))),(37,WJ (VU 178) [] [Vh 376 376 0,Vh 368 368 0,Vh 384 384 0]),(29,D.v (.bool (decide (chain<0)))),(2,zI size),(4,Vh 0 0 0),(8,Vh 24 24 0),(16,zI 0),(32,D.v (.bool (decide (256<chain)))),(24,D.v (.bool (decide (32768<size)))),(20,zI size),(36,zI size),(28,D.v (.bool (decide (chain<0)))),(10,zI 0),(18,D.v (.bool false)),(34,Vl false n 1 (map dB b)),(26,D.v (.bool false)),(14,Vl false n 1 (map dB b)),(22,D.v (.bool false)),(30,D.v (.bool false))]⟩] 528⟩] 1000 64 (fun|⟨k,hk,c,d,l,hc2,hd,hl,hlow,hg,_⟩,Q,ZA,ZD=>(.s 6 (.chk (aU (some (max 0 (q-size))) (some ((k:Int)+2)) none n&&true) (by(simp;have h9:=ii (take (((k:Int)+2).toNat-(max 0 (q-size)).toNat) (drop (max 0 (q-size)).toNat b)) (take ((q+3).toNat-q.toNat) (drop q.toNat b)) (((k:Int)+2).toNat-(max 0 (q-size)).toNat-2);omega)) (.s 2 (.call 179 false [] (true) wr ([Vl false (AB ((k:Int)+2)-AB (max 0 (q-size))) 1 (take ((AB ((k:Int)+2)-AB (max 0 (q-size)))*1) (drop (AB (max 0 (q-size))*1) (map dB b))),Vl false (AB (q+3)-AB q) 1 (take ((AB (q+3)-AB q)*1) (drop (AB q*1) (map dB b)))]) _ (by exact(VR (D.sim.slw rfl (by(simp;done))) (VR (D.sim.slw rfl (by(simp;done))) trivial))) (true) wr _ _ _ (VC (az.of Tryz.func179 rfl rfl) (@Go.Proofs.YtefjnofhgkjpmaaGreat.Vm.lastIxX (take (AB ((k:Int)+2)-AB (max 0 (q-size))) (drop (AB (max 0 (q-size))) b)) (take (AB (q+3)-AB q) (drop (AB q) b)) (AB ((k:Int)+2)-AB (max 0 (q-size))) (AB (q+3)-AB q) (by(simp only[Vg,VH];(omega))) (by(simp only[Vg,VH];(omega))) om om)) (.s 6 (.bd (ar (take (AB ((k:Int)+2)-AB (max 0 (q-size))) (drop (AB (max 0 (q-size))) b)) (take (AB (q+3)-AB q) (drop (AB q) b)) (AB ((k:Int)+2)-AB (max 0 (q-size))-2)<0) (λ p8 p8f=>(.s 12 (.blk 24 24 (U1 [zI d] 3 false) (U1 [zI (Va (bestG b (AB q) size (AB q) chain 0 0))] 3 false) (by(exact Gu (DA (Jo hn (by(omega)) (by(omega)) (by(omega)) hlow hk hg (by(omega)))))) (.blk 32 32 (U1 [zI l] 3 false) (U1 [zI (U0 (bestG b (AB q) size (AB q) chain 0 0))] 3 false) (by(exact Gu (DB (Jo hn (by(omega)) (by(omega)) (by(omega)) hlow hk hg (by(omega)))))) (Hn.last ZD 0 (():Unit) rfl [(0,0),(8,8),(24,24),(32,32),(368,368),(376,376),(384,384),(448,448)] ro))))) (λ p8 p8f=>(.s 7 (.op (max 0 (q-size)+ar (take (AB ((k:Int)+2)-AB (max 0 (q-size))) (drop (AB (max 0 (q-size))) b)) (take (AB (q+3)-AB q) (drop (AB q) b)) (AB ((k:Int)+2)-AB (max 0 (q-size))-2)) nz (.s 8 (.br (c==0) (λ p9=>have p9f:=eq_of_beq p9;(.s 4 (.blk 24 24 (U1 [zI d] 3 false) (U1 [zI (Va (bestG b (AB q) size (AB q) chain 0 0))] 3 false) (by(exact Gu (DA (Jp hg (by(omega)))))) (.blk 32 32 (U1 [zI l] 3 false) (U1 [zI (U0 (bestG b (AB q) size (AB q) chain 0 0))] 3 false) (by(exact Gu (DB (Jp hg (by(omega)))))) (Hn.last ZD 1 (():Unit) rfl [(0,0),(8,8),(24,24),(32,32),(368,368),(376,376),(384,384),(448,448)] ro))))) (λ p9=>have p9f:=ap p9;(.s 5 (.ow (c-1) (.s 11 (.cl 155 false [] (.fn So (@Go.Proofs.YtefjnofhgkjpmaaGreat.Vm.longX (b) (n) (q) (max 0 (q-size)+ar (take (AB ((k:Int)+2)-AB (max 0 (q-size))) (drop (AB (max 0 (q-size))) b)) (take (AB (q+3)-AB q) (drop (AB q) b)) (AB ((k:Int)+2)-AB (max 0 (q-size))-2)) om om om om nz)) (.s 7 (.bd (l<(↑(same b (AB q) (AB (max 0 (q-size)+ar (take (AB ((k:Int)+2)-AB (max 0 (q-size))) (drop (AB (max 0 (q-size))) b)) (take (AB (q+3)-AB q) (drop (AB q) b)) (AB ((k:Int)+2)-AB (max 0 (q-size))-2))) 258):Int)) (λ p10 p10f=>(.s 6 (.op (q-(max 0 (q-size)+ar (take (AB ((k:Int)+2)-AB (max 0 (q-size))) (drop (AB (max 0 (q-size))) b)) (take (AB (q+3)-AB q) (drop (AB q) b)) (AB ((k:Int)+2)-AB (max 0 (q-size))-2))) nz (.s 15 (.op (max 0 (q-size)+ar (take (AB ((k:Int)+2)-AB (max 0 (q-size))) (drop (AB (max 0 (q-size))) b)) (take (AB (q+3)-AB q) (drop (AB q) b)) (AB ((k:Int)+2)-AB (max 0 (q-size))-2)) nz (.s 2 (.op (max 0 (q-size)+ar (take (AB ((k:Int)+2)-AB (max 0 (q-size))) (drop (AB (max 0 (q-size))) b)) (take (AB (q+3)-AB q) (drop (AB q) b)) (AB ((k:Int)+2)-AB (max 0 (q-size))-2)+3) nz (.s 2 (.op (max 0 (q-size)+ar (take (AB ((k:Int)+2)-AB (max 0 (q-size))) (drop (AB (max 0 (q-size))) b)) (take (AB (q+3)-AB q) (drop (AB q) b)) (AB ((k:Int)+2)-AB (max 0 (q-size))-2)+3-1) nz (.s 1 (.val 7 (zI (max 0 (q-size)+ar (take (AB ((k:Int)+2)-AB (max 0 (q-size))) (drop (AB (max 0 (q-size))) b)) (take (AB (q+3)-AB q) (drop (AB q) b)) (AB ((k:Int)+2)-AB (max 0 (q-size))-2)+3-1)) (zI ((↑(AB (max 0 (q-size)+ar (take (AB ((k:Int)+2)-AB (max 0 (q-size))) (drop (AB (max 0 (q-size))) b)) (take (AB (q+3)-AB q) (drop (AB q) b)) (AB ((k:Int)+2)-AB (max 0 (q-size))-2))):Int)+2)) (by(refine aR ?_;(omega))) (Hn.next ZA ⟨((max 0 (q-size)+(ar (take (((k:Int)+2).toNat-(max 0 (q-size)).toNat) (drop (max 0 (q-size)).toNat b)) (take ((q+3).toNat-q.toNat) (drop q.toNat b)) (((k:Int)+2).toNat-(max 0 (q-size)).toNat-2))).toNat),nz,(c-1),(q-(max 0 (q-size)+(ar (take (((k:Int)+2).toNat-(max 0 (q-size)).toNat) (drop (max 0 (q-size)).toNat b)) (take ((q+3).toNat-q.toNat) (drop q.toNat b)) (((k:Int)+2).toNat-(max 0 (q-size)).toNat-2)))),(((same b q.toNat (max 0 (q-size)+(ar (take (((k:Int)+2).toNat-(max 0 (q-size)).toNat) (drop (max 0 (q-size)).toNat b)) (take ((q+3).toNat-q.toNat) (drop q.toNat b)) (((k:Int)+2).toNat-(max 0 (q-size)).toNat-2))).toNat 258:Nat):Int)),om,nz,(by(exact⟨Int.natCast_nonneg _,Int.ofNat_le.2 (pD _ _ _)⟩)),om,(by(exact Gw hn (by(omega)) (by(omega)) (by(omega)) hlow hk hg (by(omega)) (by(omega)) (by(omega)))),⟨⟩⟩ Qk [(0,0),(8,8),(16,16),(24,24),(32,32),(368,368),(376,376),(384,384),(448,448)] ro)))))))))))) (λ p10 p10f=>(.s 8 (.op (max 0 (q-size)+ar (take (AB ((k:Int)+2)-AB (max 0 (q-size))) (drop (AB (max 0 (q-size))) b)) (take (AB (q+3)-AB q) (drop (AB q) b)) (AB ((k:Int)+2)-AB (max 0 (q-size))-2)) nz (.s 2 (.op (max 0 (q-size)+ar (take (AB ((k:Int)+2)-AB (max 0 (q-size))) (drop (AB (max 0 (q-size))) b)) (take (AB (q+3)-AB q) (drop (AB q) b)) (AB ((k:Int)+2)-AB (max 0 (q-size))-2)+3) nz (.s 2 (.op (max 0 (q-size)+ar (take (AB ((k:Int)+2)-AB (max 0 (q-size))) (drop (AB (max 0 (q-size))) b)) (take (AB (q+3)-AB q) (drop (AB q) b)) (AB ((k:Int)+2)-AB (max 0 (q-size))-2)+3-1) nz (.s 1 (.val 7 (zI (max 0 (q-size)+ar (take (AB ((k:Int)+2)-AB (max 0 (q-size))) (drop (AB (max 0 (q-size))) b)) (take (AB (q+3)-AB q) (drop (AB q) b)) (AB ((k:Int)+2)-AB (max 0 (q-size))-2)+3-1)) (zI ((↑(AB (max 0 (q-size)+ar (take (AB ((k:Int)+2)-AB (max 0 (q-size))) (drop (AB (max 0 (q-size))) b)) (take (AB (q+3)-AB q) (drop (AB q) b)) (AB ((k:Int)+2)-AB (max 0 (q-size))-2))):Int)+2)) (by(refine aR ?_;(omega))) (Hn.next ZA ⟨((max 0 (q-size)+(ar (take (((k:Int)+2).toNat-(max 0 (q-size)).toNat) (drop (max 0 (q-size)).toNat b)) (take ((q+3).toNat-q.toNat) (drop q.toNat b)) (((k:Int)+2).toNat-(max 0 (q-size)).toNat-2))).toNat),nz,(c-1),(d),(l),om,om,om,om,(by(exact Gx hn (by(omega)) (by(omega)) (by(omega)) hlow hk hg (by(omega)) (by(omega)) (by(omega)))),⟨⟩⟩ Qk [(0,0),(8,8),(16,16),(24,24),(32,32),(368,368),(376,376),(384,384),(448,448)] ro))))))))))))))))))))))))))))) (fun|⟨k,hk,c,d,l,hc2,hd,hl,hlow,hg,_⟩=>by kernel_rfl) ⟨(q.toNat),om,(chain),(0),(0),om,om,om,om,wr,⟨⟩⟩ [(0,0),(8,8),(16,16),(24,24),(32,32),(368,368),(376,376),(384,384),(448,448)] ro (gu (fun|()=>(.s 5 (.br (U0 (bestG b (AB q) size (AB q) chain 0 0)==0) (λ p11=>have p11f:=eq_of_beq p11;(.s 11 (.out [] [] (V2 [zI 0,zI 0,zI 6]) [] R (ok _ _ (by(exact w8 (by(omega)) (by(omega)) (eq_of_beq aF))) wr)))) (λ p11=>have p11f:=ap p11;(.s 18 (.out [] [] (V2 [zI (Va (bestG b (AB q) size (AB q) chain 0 0)),zI (U0 (bestG b (AB q) size (AB q) chain 0 0)),zI 0]) [] R (ok _ _ (by(exact DC (by(omega)) (by(omega)) (ap aF))) wr))))))) (fun|()=>(.s 5 (.br (U0 (bestG b (AB q) size (AB q) chain 0 0)==0) (λ p12=>have p12f:=eq_of_beq p12;(.s 11 (.out [] [] (V2 [zI 0,zI 0,zI 6]) [] R (ok _ _ (by(exact w8 (by(omega)) (by(omega)) (eq_of_beq aF))) wr)))) (λ p12=>have p12f:=ap p12;(.s 18 (.out [] [] (V2 [zI (Va (bestG b (AB q) size (AB q) chain 0 0)),zI (U0 (bestG b (AB q) size (AB q) chain 0 0)),zI 0]) [] R (ok _ _ (by(exact DC (by(omega)) (by(omega)) (ap aF))) wr)))))))))))))))))))))))))))))))))))))))))))))))))) kr
theorem same_at (b:Z1):∀(k i j t:Nat),t<same b i j k->b.getD (j+t) mq=b.getD (i+t) mq
 |0,i,j,t,h=>absurd h (Ws t)
 |k+1,i,j,t,h=>by
  unfold same at h
  split at h
  ·next e=>
   cases t with
   |zero=>exact e.2
   |succ t=>
    have:=same_at b k (i+1) (j+1) t om;rw[show j+(t+1)=j+1+t from by omega,show i+(t+1)=i+1+t from by omega];exact this
  ·omega
theorem ij (b:Z1)(i:Nat)(size:Int):∀(k:Nat) (c d l:Int),bestG b i size k c d l=(d,l)∨∃j,j<k∧(bestG b i size k c d l).1=(i:Int)-(j:Int)∧(bestG b i size k c d l).2=(same b i j 258:Nat)∧3<=same b i j 258∧(i:Int)-(j:Int)<=size
 |0,c,d,l=>.inl rfl
 |k+1,c,d,l=>by
  have up:∀{c d l:Int},(∃j,j<k∧(bestG b i size k c d l).1=(i:Int)-(j:Int)∧(bestG b i size k c d l).2=(same b i j 258:Nat)∧3<=same b i j 258∧(i:Int)-(j:Int)<=size)->∃j,j<k+1∧(bestG b i size k c d l).1=(i:Int)-(j:Int)∧(bestG b i size k c d l).2=(same b i j 258:Nat)∧3<=same b i j 258∧(i:Int)-(j:Int)<=size:=fun⟨j,h1,h2⟩=>⟨j,by omega,h2⟩
  unfold bestG
  split
  ·next e=>
   split
   ·exact(ij b i size k c d l).imp id up
   ·next e3=>
    split
    ·rcases ij b i size k (c-1) ((i:Int)-k) (same b i k 258:Nat)with h|h
     ·exact .inr ⟨k,by omega,by rw[h],by rw[h],by omega,e.1⟩
     ·exact .inr (up h)
    ·exact(ij b i size k (c-1) d l).imp id up
  ·exact .inl rfl
theorem mO {b:Z1}{n:Nat}{x size chain:Int}(h:eZ b n x size chain≠0):rr b n x size chain=0∧nk b n x size chain=0:=⟨ZE h,ZE h⟩
def zu (n:Nat)(q size chain:Int):Prop:=n<=131072∧0<=q∧q<=(n:Int)∧1<=size∧size<=32768∧0<=chain∧chain<=256
theorem ru {b:Z1}{n:Nat}{q size chain:Int}(h:zu n q size chain):(eZ b n q size chain=0∨eZ b n q size chain=6)∧nk b n q size chain=(bestG b q.toNat size q.toNat chain 0 0).2:=by
 unfold zu at h;have h2:¬vx n q size chain:=by unfold vx;omega
 have e:eZ b n q size chain=if(bestG b q.toNat size q.toNat chain 0 0).2=0 then 6 else 0:=by rw[eZ,ZE om,ZE h2]
 constructor
 ·rw[e];split<;>simp
 ·unfold nk
  by_cases h3:(bestG b q.toNat size q.toNat chain 0 0).2=0
  ·rw[ZF h3]at e;rw[ZE (by rw[e];decide),h3]
  ·rw[ZE h3]at e;rw[ZF e]
end Vm
end Go.Proofs.YtefjnofhgkjpmaaGreat
namespace Go.Proofs.YtefjnofhgkjpmaaGreat
open Go.RowKit Go.Bw Go.Vx Vm
open List (length getD map take drop flatMap replicate)
namespace Vt
theorem vA {p:Prop}(h:p:=by(refine decide_eq_false ?_;(omega))):p:=h
theorem Gy {p:Prop}(h:p:=by(have h9:=best_bd b i size chain om;omega)):p:=h
theorem Gz {p:Prop}(h:p:=by(simp only[LQ];(repeat' (first|(refine aI ?_ ?_)|(with_reducible rfl)|(refine decide_eq_true ?_)|(refine U8 ?_)|(refine fw ?_)))<;>(omega))):p:=h
theorem GA {p:Prop}(h:p:=by(refine aR ?_;(omega))):p:=h
theorem GB {p:Prop}(h:p:=by(rw[U2,VP];(omega))):p:=h
theorem Ql {p:Prop}(h:p:=by show n-(i+AB (U0 (bestG b i size i chain 0 0)))<n-i;clear ZA ZD;omega):p:=h
open Vm (bestG kH eZ nk rr same pD jN ij ru zu mO)
def mayS (size chain most:Int):Bool:=decide (1<=size)&&decide (size<=32768)&&decide (0<=chain)&&decide (chain<=256)&&decide (1<=most)&&decide (most<=65535)
theorem mayS_iff {size chain most:Int}:mayS size chain most=true↔1<=size∧size<=32768∧0<=chain∧chain<=256∧1<=most∧most<=65535:=by
 unfold mayS;simp[and_assoc]
abbrev LP (size chain most:Int)(lazy:Bool):D:=.agg [iD size,iD chain,iD most,.v (.bool lazy)]
theorem sty_t0 (size chain most:Int)(lazy:Bool)(hm:mayS size chain most=true):S0 29 [LP size chain most lazy] [] (iD 0) []:=by
 have hm2:=mayS_iff.1 hm;refine SpecH.run T_ok ah Tryz.func29 rfl rfl rfl trivial rfl 1000 64 (λ R ok=>(.s 13 (.f (decide (size<1)) vA (.s 12 (.f (decide (32768<size)) vA (.s 12 (.f (decide (chain<0)) vA (.s 12 (.f (decide (256<chain)) vA (.s 12 (.f (decide (most<1)) vA (.s 10 (.f (decide (65535<most)) vA (.s 1 (.out [] [] (zI 0) [] R (ok _ _ wr wr)))))))))))))))) kr
theorem sty_t8 (size chain most:Int)(lazy:Bool)(hm:mayS size chain most=false):S0 29 [LP size chain most lazy] [] (iD 8) []:=by
 have hm2:=mt mayS_iff.2 (by rw[hm];decide);refine SpecH.run T_ok ah Tryz.func29 rfl rfl rfl trivial rfl 1000 64 (λ R ok=>(.s 13 (.bd (size<1) (λ p0 Z7=>(.s 39 (.out [] [] (zI 8) [] R (ok _ _ wr wr)))) (λ p0 Z7=>(.s 12 (.bd (32768<size) (λ p1 Z6=>(.s 31 (.out [] [] (zI 8) [] R (ok _ _ wr wr)))) (λ p1 Z6=>(.s 12 (.bd (chain<0) (λ p2 Z5=>(.s 23 (.out [] [] (zI 8) [] R (ok _ _ wr wr)))) (λ p2 Z5=>(.s 12 (.bd (256<chain) (λ p3 Z4=>(.s 15 (.out [] [] (zI 8) [] R (ok _ _ wr wr)))) (λ p3 Z4=>(.s 12 (.bd (most<1) (λ p4 Z3=>(.s 7 (.out [] [] (zI 8) [] R (ok _ _ wr wr)))) (λ p4 Z3=>(.s 10 (.t (decide (65535<most)) (by(refine decide_eq_true ?_;(omega))) (.s 1 (.out [] [] (zI 8) [] R (ok _ _ wr wr))))))))))))))))))))) kr
def pE (b:Z1)(size chain:Int)(lazy:Bool)(i:Nat):Int:=if lazy=true∧i+1<b.length then(bestG b (i+1) size (i+1) chain 0 0).2 else 0
def tokAt (b:Z1)(size chain:Int)(lazy:Bool)(i:Nat):Tok:=
 if(bestG b i size i chain 0 0).2=0∨(bestG b i size i chain 0 0).2<pE b size chain lazy i then⟨b.getD i mq,0,0⟩else⟨0,(bestG b i size i chain 0 0).1,(bestG b i size i chain 0 0).2⟩
def tokN (t:Tok):Nat:=if t.long=0 then 1 else t.long.toNat
def cutK (b:Z1)(size chain:Int)(lazy:Bool):Nat->Nat->List Tok
 |0,_=>[]
 |k+1,i=>if i<b.length then tokAt b size chain lazy i::cutK b size chain lazy k (i+tokN (tokAt b size chain lazy i))else[]
def cutG (b:Z1)(size chain:Int)(lazy:Bool)(i:Nat):List Tok:=cutK b size chain lazy (b.length-i) i
theorem best_bd (b:Z1)(i:Nat)(size chain:Int)(hi:i<=b.length):0<=(bestG b i size i chain 0 0).2∧(bestG b i size i chain 0 0).2<=258∧(i:Int)+(bestG b i size i chain 0 0).2<=b.length∧0<=(bestG b i size i chain 0 0).1∧(bestG b i size i chain 0 0).1<=i∧((bestG b i size i chain 0 0).2=0->(bestG b i size i chain 0 0).1=0)∧((bestG b i size i chain 0 0).2≠0->3<=(bestG b i size i chain 0 0).2∧1<=(bestG b i size i chain 0 0).1∧(bestG b i size i chain 0 0).1<=size):=by
 rcases ij b i size i chain 0 0 with h|⟨j,h1,h2,h3,h4,h5⟩
 ·rw[h];simp;omega
 ·rw[h2,h3]
  have:=pD b i j;have:=jN b 258 i j hi;omega
theorem tokAt_bd (b:Z1)(size chain:Int)(lazy:Bool)(i:Nat)(hi:i<b.length):1<=tokN (tokAt b size chain lazy i)∧i+tokN (tokAt b size chain lazy i)<=b.length:=by
 have h:=best_bd b i size chain om;unfold tokAt
 split
 ·unfold tokN;simp;omega
 ·next e=>
  unfold tokN;dsimp only;rw[ZE (λ q=>e (.inl q))];omega
theorem rv (b:Z1)(size chain:Int)(lazy:Bool):∀(k m i:Nat),b.length-i<=k->b.length-i<=m->cutK b size chain lazy k i=cutK b size chain lazy m i
 |0,0,i,_,_=>rfl
 |0,m+1,i,h,_=>by rw[cutK,cutK,ZE om]
 |k+1,0,i,_,h=>by rw[cutK,cutK,ZE om]
 |k+1,m+1,i,h1,h2=>by
  rw[cutK,cutK]
  split
  ·next hi=>
   have:=tokAt_bd b size chain lazy i hi;rw[rv b size chain lazy k m _ om om]
  ·rfl
theorem vB {b:Z1}{size chain:Int}{lazy:Bool}{i:Nat}(h:b.length<=i):cutG b size chain lazy i=[]:=by
 unfold cutG;rw[show b.length-i=0 from by omega];rfl
theorem ry {b:Z1}{size chain:Int}{lazy:Bool}{i:Nat}(h:i<b.length):cutG b size chain lazy i=tokAt b size chain lazy i::cutG b size chain lazy (i+tokN (tokAt b size chain lazy i)):=by
 unfold cutG;have:=tokAt_bd b size chain lazy i h;rw[show b.length-i=(b.length-i-1)+1 from by omega,cutK,ZF h,rv b size chain lazy (b.length-i-1) (b.length-(i+tokN (tokAt b size chain lazy i))) _ om om]
theorem vC (b:Z1)(size chain:Int)(lazy:Bool):∀k i:Nat,(cutK b size chain lazy k i).length<=b.length-i
 |0,i=>by simp[cutK]
 |k+1,i=>by
  rw[cutK]
  split
  ·next h=>
   have h1:=vC b size chain lazy k (i+tokN (tokAt b size chain lazy i));have h2:=tokAt_bd b size chain lazy i h;rw[VE];omega
  ·simp
theorem cutG_len (b:Z1)(size chain:Int)(lazy:Bool)(i:Nat):(cutG b size chain lazy i).length<=b.length-i:=vC b size chain lazy _ i
theorem zv {b:Z1}{size chain:Int}{lazy:Bool}{i:Nat}{c R:List Tok}(hr:c++cutG b size chain lazy i=R)(h:i<b.length)(e:(bestG b i size i chain 0 0).2=0∨(bestG b i size i chain 0 0).2<pE b size chain lazy i):(c++[⟨b.getD i mq,0,0⟩])++cutG b size chain lazy (i+1)=R:=by
 rw[ry h,tokAt,ZF e,tokN,ZF rfl]at hr;rw[Ve];exact hr
theorem vD {b:Z1}{size chain:Int}{lazy:Bool}{i j:Nat}{c R:List Tok}(hr:c++cutG b size chain lazy i=R)(h:i<b.length)(e:¬((bestG b i size i chain 0 0).2=0∨(bestG b i size i chain 0 0).2<pE b size chain lazy i))(hj:(j:Int)=i+(bestG b i size i chain 0 0).2):(c++[⟨0,(bestG b i size i chain 0 0).1,(bestG b i size i chain 0 0).2⟩])++cutG b size chain lazy j=R:=by
 have hb:=best_bd b i size chain om;rw[ry h,tokAt,ZE e,tokN,ZE (λ q=>e (.inl q)),show i+(bestG b i size i chain 0 0).2.toNat=j from by omega]at hr;rw[Ve];exact hr
theorem zw {b:Z1}{size chain:Int}{lazy:Bool}{i:Nat}(h:lazy=true)(h2:i+1<b.length):pE b size chain lazy i=(bestG b (i+1) size (i+1) chain 0 0).2:=ZF ⟨h,h2⟩
theorem GC {b:Z1}{size chain:Int}{lazy:Bool}{i:Nat}(h:lazy=false∨b.length<=i+1):pE b size chain lazy i=0:=ZE (by
 rintro⟨h1,h2⟩;rcases h with h|h
 ·rw[h]at h1;cases h1
 ·omega)
theorem LQ (l:List Tok):(l.flatMap tokD).length=l.length*3:=ba (f:=tokD) (k:=3) (λ _=>rfl) l
theorem vE {b:Z1}{n i:Nat}{size chain:Int}(hn:n=b.length)(h:n<=131072)(hi:i<=n)(hs:1<=size∧size<=32768)(hc:0<=chain∧chain<=256):nk b n i size chain=(bestG b i size i chain 0 0).2∧rr b n i size chain=(bestG b i size i chain 0 0).1:=by
 have g:=ru (b:=b) (n:=n) (q:=i) (size:=size) (chain:=chain) (by unfold zu;omega);simp only[Wx]at g;refine⟨g.2,?_⟩
 by_cases e:eZ b n i size chain=0
 ·exact ZF e
 ·have h0:=(mO e).2
  have hb:=best_bd b i size chain om;rw[(mO e).1,hb.2.2.2.2.2.1 (by rw[<-g.2,h0])]
theorem FindTok (b:Z1)(n i:Nat)(size chain:Int)(hn:n=b.length)(h:n<=131072)(hi:i<=n)(hs:1<=size∧size<=32768)(hc:0<=chain∧chain<=256):S0 117 [.sl false n 1 (b.map dB),iD i,iD size,iD chain] [] (.tup [iD (bestG b i size i chain 0 0).1,iD (bestG b i size i chain 0 0).2,iD (eZ b n i size chain)]) []:=by
 have h2:=TC b n i size chain hn om om om om;unfold kH at h2;rw[(vE hn h hi hs hc).1,(vE hn h hi hs hc).2]at h2;exact h2
theorem FindTok1 (b:Z1)(n i:Nat)(size chain:Int)(hn:n=b.length)(h:n<=131072)(hi:i+1<=n)(hs:1<=size∧size<=32768)(hc:0<=chain∧chain<=256):S0 117 [.sl false n 1 (b.map dB),iD ((i:Int)+1),iD size,iD chain] [] (.tup [iD (bestG b (i+1) size (i+1) chain 0 0).1,iD (bestG b (i+1) size (i+1) chain 0 0).2,iD (eZ b n ((i:Int)+1) size chain)]) []:=FindTok b n (i+1) size chain hn h hi hs hc
theorem Cut_ok (b:Z1)(n:Nat)(size chain most q:Int)(lazy:Bool)(hn:n=b.length)(hN:n<=1000000)(hq:-9223372036854775808<=q∧q<=9223372036854775807)(hm:mayS size chain most=true)(h:n<=131072∧0<=q∧q<=n):S0 67 [.sl false n 1 (b.map dB),iD q,LP size chain most lazy] [] (.tup [.ref 0 0 0 (cutG b size chain lazy q.toNat).length 3,iD 0]) [⟨(cutG b size chain lazy q.toNat).flatMap tokD, 119,true⟩]:=by
 have hm2:=mayS_iff.1 hm;obtain⟨k,rfl⟩:=V5 h.2.1;simp only[Wx];refine SpecH.run T_ok ah Tryz.func67 rfl rfl rfl ⟨gi (λ _=>rfl) _,trivial⟩ rfl 1000 64 (λ R ok=>(.s 10 (.cl 29 false [] (.fn Na (@Go.Proofs.YtefjnofhgkjpmaaGreat.Vt.sty_t0 (size) (chain) (most) (lazy) om)) (.s 9 (.f (decide (131072<(n:Int))) vA (.s 14 (.f (decide ((n:Int)<k)) vA (.s 27 (.nilc 8 8 (U1 [zS] 82 false) 0 312 3 119 (Hn.inl T_ok ah false 55 296 (aq Tryz.prog 118 0) (λ(x:(i:Nat)×'(hi:i<=n)×'(c:List Tok)×'(hr:c++cutG b size chain lazy i=cutG b size chain lazy k)×'(hb:c.length<=i)×'Unit)=>match x with|⟨i,hi,c,hr,hb,_⟩=>Vn [(0,D.yl 288 288),(2,Vh 184 184 0),(3,Vh 224 224 0),(4,Vh 200 200 0),(6,iD (i:Nat))] [⟨0,0,0,0,.b ⟨[zI size,zI chain,zI most,D.v (.bool lazy)],23,false⟩⟩,⟨8,8,8,8,.b ⟨[(U6 352 352 (0) (c.length) 3)],82,false⟩⟩,⟨184,184,184,184,.b ⟨[Vl false n 1 (map dB b)],24,false⟩⟩,⟨192,192,192,192,.b ⟨[zN k],3,false⟩⟩,⟨200,200,200,200,.b ⟨[zI size,zI chain,zI most,D.v (.bool lazy)],23,false⟩⟩,⟨224,224,224,224,.b ⟨[WJ (VU 116) [] [Vh 184 184 0,Vh 200 200 0]],196,false⟩⟩,⟨288,288,288,288,.l WE none (rangeAt Tryz.prog 67 0).1 (rangeAt Tryz.prog 67 0).2.1 (rangeAt Tryz.prog 67 0).2.2 36 [(0,Vl false n 1 (map dB b)),(1,zN k),(7,zI 0),(15,Vl false n 1 (map dB b)),(23,zN n),(11,zI 0),(19,D.v (.bool false)),(27,zN k),(5,Vh 0 0 0),(17,D.v (.bool false)),(25,D.v (.bool false)),(13,D.v (.bool false)),(21,zN k),(29,WJ (VU 118) [] [Vh 192 192 0,Vh 184 184 0,Vh 224 224 0,Vh 200 200 0]),(2,Wp [zI size,zI chain,zI most,D.v (.bool lazy)]),(8,zI 0),(16,zN n),(24,D.v (.bool (decide ((n:Int)<k)))),(12,zI 0),(20,D.v (.bool false)),(28,Wp [zI size,zI chain,zI most,D.v (.bool lazy)]),(6,Vh 8 8 0),(10,Wp [zI size,zI chain,zI most,D.v (.bool lazy)]),(18,zN k),(26,Vl false n 1 (map dB b)),(22,Vl false n 1 (map dB b))]⟩,⟨352,352,312,312,.b ⟨c.flatMap tokD,119,true⟩⟩] 360) (λ(x:(i:Nat)×'(hi:i<=n)×'(c:List Tok)×'(hr:c++cutG b size chain lazy i=cutG b size chain lazy k)×'(hb:c.length<=i)×'Unit)=>match x with|⟨i,hi,c,hr,hb,_⟩=>n-i) [⟨Unit,.exit 0,λ x=>match x with|()=>Vn [(0,D.yl 288 288),(2,Vh 184 184 0),(3,Vh 224 224 0),(4,Vh 200 200 0)] [⟨0,0,0,0,.b ⟨[zI size,zI chain,zI most,D.v (.bool lazy)],23,false⟩⟩,⟨8,8,8,8,.b ⟨[(U6 352 352 (0) ((cutG b size chain lazy k).length) 3)],82,false⟩⟩,⟨184,184,184,184,.b ⟨[Vl false n 1 (map dB b)],24,false⟩⟩,⟨192,192,192,192,.b ⟨[zN k],3,false⟩⟩,⟨200,200,200,200,.b ⟨[zI size,zI chain,zI most,D.v (.bool lazy)],23,false⟩⟩,⟨224,224,224,224,.b ⟨[WJ (VU 116) [] [Vh 184 184 0,Vh 200 200 0]],196,false⟩⟩,⟨288,288,288,288,.l WE none (rangeAt Tryz.prog 67 0).1 (rangeAt Tryz.prog 67 0).2.1 (rangeAt Tryz.prog 67 0).2.2 36 [(0,Vl false n 1 (map dB b)),(1,zN k),(7,zI 0),(15,Vl false n 1 (map dB b)),(23,zN n),(11,zI 0),(19,D.v (.bool false)),(27,zN k),(5,Vh 0 0 0),(17,D.v (.bool false)),(25,D.v (.bool false)),(13,D.v (.bool false)),(21,zN k),(29,WJ (VU 118) [] [Vh 192 192 0,Vh 184 184 0,Vh 224 224 0,Vh 200 200 0]),(2,Wp [zI size,zI chain,zI most,D.v (.bool lazy)]),(8,zI 0),(16,zN n),(24,D.v (.bool (decide ((n:Int)<k)))),(12,zI 0),(20,D.v (.bool false)),(28,Wp [zI size,zI chain,zI most,D.v (.bool lazy)]),(6,Vh 8 8 0),(10,Wp [zI size,zI chain,zI most,D.v (.bool lazy)]),(18,zN k),(26,Vl false n 1 (map dB b)),(22,Vl false n 1 (map dB b))]⟩,⟨352,352,312,312,.b ⟨(cutG b size chain lazy k).flatMap tokD,119,true⟩⟩] 360⟩] 1000 64 (fun|⟨i,hi,c,hr,hb,_⟩,Q,ZA,ZD=>(.s 7 (.bd ((i:Int)<n) (λ p0 Z7=>(.s 5 (.chk (true&&decide ((i:Int)<n)&&true) (by((refine aI ?_ ?_)<;>(repeat' (first|(refine aI ?_ ?_)|(with_reducible rfl)|(refine decide_eq_true ?_)|(refine U8 ?_)|(refine fw ?_)))<;>(omega))) (.s 2 (.opt ((map dB b)[i*1]?) (dB (getD b (i*1) mq)) (av _ _ om) (.s 10 (.ow (i+1) (.s 16 (.t (decide ((i:Int)<n)) p0 (.s 17 (.cl 117 false [] (.fn N3 (@Go.Proofs.YtefjnofhgkjpmaaGreat.Vt.FindTok (b) (n) (i) (size) (chain) om om om om om)) (.s 23 (.bd (0<U0 (bestG b i size i chain 0 0)) (λ p1 Z6=>(.s 7 (.br (lazy) (λ p2=>(.s 6 (.ow (i+1) (.s 11 (.t (decide ((i:Int)+1<n)) (by(refine decide_eq_true ?_;have h9:=best_bd b i size chain om;omega)) (.s 17 (.cl 117 false [] (.fn N3 (@Go.Proofs.YtefjnofhgkjpmaaGreat.Vt.FindTok1 (b) (n) (i) (size) (chain) om om om om om)) (.s 23 (.bd (U0 (bestG b (i+1) size (i+1) chain 0 0)<=U0 (bestG b i size i chain 0 0)) (λ p3 Z4=>(.s 8 (.op (i+U0 (bestG b i size i chain 0 0)) Gy (.s 25 (.chk (true&&U5 (length c*3) (length (flatMap tokD c))&&true&&true&&true&&true&&U7 ((length c+1)*24) 140737488355328) Gz (.s 7 (.val 6 (zI (i+U0 (bestG b i size i chain 0 0))) (zN (i+AB (U0 (bestG b i size i chain 0 0)))) GA (.blk 8 8 (U1 [U6 1216 1216 0 (length c+1) 3] 82 false) (U1 [U6 1216 1216 0 (length (c++[Tok.mk 0 (Va (bestG b i size i chain 0 0)) (U0 (bestG b i size i chain 0 0))])) 3] 82 false) (by(simp;done)) (.blk 1216 1216 (U1 (flatMap tokD c++[bI 0,zI (Va (bestG b i size i chain 0 0)),zI (U0 (bestG b i size i chain 0 0))]) 119 true) (U1 (flatMap tokD (c++[Tok.mk 0 (Va (bestG b i size i chain 0 0)) (U0 (bestG b i size i chain 0 0))])) 119 true) (by(exact nT rfl)) (Hn.next ZA ⟨(i+(bestG b i size i chain 0 0).2.toNat),Gy,(c++[⟨0,(bestG b i size i chain 0 0).1,(bestG b i size i chain 0 0).2⟩]),(by(have h9:=best_bd b i size chain om;have h8:=zw (size:=size) (chain:=chain) (lazy:=lazy) (i:=i) aF (show i+1<b.length by omega);exact vD hr om om om)),GB,⟨⟩⟩ Ql [(0,0),(8,8),(184,184),(192,192),(200,200),(224,224),(288,288),(1216,1216)] ro)))))))))) (λ p3 Z4=>(.s 21 (.chk (true&&U5 (length c*3) (length (flatMap tokD c))&&true&&true&&true&&true&&U7 ((length c+1)*24) 140737488355328) Gz (.s 7 (.val 6 (zI (i+1)) (zN (i+1)) GA (.blk 8 8 (U1 [U6 1152 1152 0 (length c+1) 3] 82 false) (U1 [U6 1152 1152 0 (length (c++[Tok.mk (getD b i mq) 0 0])) 3] 82 false) (by(simp;done)) (.blk 1152 1152 (U1 (flatMap tokD c++[bl (U3 (getD b (i*1) mq)),zI 0,zI 0]) 119 true) (U1 (flatMap tokD (c++[Tok.mk (getD b i mq) 0 0])) 119 true) (by(refine nT ?_;simp only[VG];rfl)) (Hn.next ZA ⟨(i+1),om,(c++[⟨b.getD i mq,0,0⟩]),(by(have h9:=best_bd b i size chain om;have h8:=zw (size:=size) (chain:=chain) (lazy:=lazy) (i:=i) aF (show i+1<b.length by omega);exact zv hr om om)),GB,⟨⟩⟩ (by show n-(i+1)<n-i;clear ZA ZD;omega) [(0,0),(8,8),(184,184),(192,192),(200,200),(224,224),(288,288),(1152,1152)] ro))))))))))))))))) (λ p2=>(.s 4 (.t (decide (0<=U0 (bestG b i size i chain 0 0))) (by(refine decide_eq_true ?_;(omega))) (.s 8 (.op (i+U0 (bestG b i size i chain 0 0)) Gy (.s 25 (.chk (true&&U5 (length c*3) (length (flatMap tokD c))&&true&&true&&true&&true&&U7 ((length c+1)*24) 140737488355328) Gz (.s 7 (.val 6 (zI (i+U0 (bestG b i size i chain 0 0))) (zN (i+AB (U0 (bestG b i size i chain 0 0)))) GA (.blk 8 8 (U1 [U6 936 936 0 (length c+1) 3] 82 false) (U1 [U6 936 936 0 (length (c++[Tok.mk 0 (Va (bestG b i size i chain 0 0)) (U0 (bestG b i size i chain 0 0))])) 3] 82 false) (by(simp;done)) (.blk 936 936 (U1 (flatMap tokD c++[bI 0,zI (Va (bestG b i size i chain 0 0)),zI (U0 (bestG b i size i chain 0 0))]) 119 true) (U1 (flatMap tokD (c++[Tok.mk 0 (Va (bestG b i size i chain 0 0)) (U0 (bestG b i size i chain 0 0))])) 119 true) (by(exact nT rfl)) (Hn.next ZA ⟨(i+(bestG b i size i chain 0 0).2.toNat),Gy,(c++[⟨0,(bestG b i size i chain 0 0).1,(bestG b i size i chain 0 0).2⟩]),(by(have h9:=best_bd b i size chain om;have h8:=GC (b:=b) (size:=size) (chain:=chain) (lazy:=lazy) (i:=i) (.inl aF);exact vD hr om om om)),GB,⟨⟩⟩ Ql [(0,0),(8,8),(184,184),(192,192),(200,200),(224,224),(288,288),(936,936)] ro))))))))))))))) (λ p1 Z6=>(.s 21 (.chk (true&&U5 (length c*3) (length (flatMap tokD c))&&true&&true&&true&&true&&U7 ((length c+1)*24) 140737488355328) Gz (.s 7 (.val 6 (zI (i+1)) (zN (i+1)) GA (.blk 8 8 (U1 [U6 824 824 0 (length c+1) 3] 82 false) (U1 [U6 824 824 0 (length (c++[Tok.mk (getD b i mq) 0 0])) 3] 82 false) (by(simp;done)) (.blk 824 824 (U1 (flatMap tokD c++[bl (U3 (getD b (i*1) mq)),zI 0,zI 0]) 119 true) (U1 (flatMap tokD (c++[Tok.mk (getD b i mq) 0 0])) 119 true) (by(refine nT ?_;simp only[VG];rfl)) (Hn.next ZA ⟨(i+1),om,(c++[⟨b.getD i mq,0,0⟩]),(by(have h9:=best_bd b i size chain om;exact zv hr om om)),GB,⟨⟩⟩ (by show n-(i+1)<n-i;clear ZA ZD;omega) [(0,0),(8,8),(184,184),(192,192),(200,200),(224,224),(288,288),(824,824)] ro))))))))))))))))))))) (λ p0 Z7=>(.blk 8 8 (U1 [U6 352 352 0 (length c) 3] 82 false) (U1 [U6 352 352 0 (length (cutG b size chain lazy k)) 3] 82 false) (by(rw[vB om,VS]at hr;rw[hr])) (.blk 352 352 (U1 (flatMap tokD c) 119 true) (U1 (flatMap tokD (cutG b size chain lazy k)) 119 true) (by(rw[vB om,VS]at hr;rw[hr])) (Hn.last ZD 0 (():Unit) rfl [(0,0),(8,8),(184,184),(192,192),(200,200),(224,224),(288,288),(352,352)] ro))))))) (fun|⟨i,hi,c,hr,hb,_⟩=>by kernel_rfl) ⟨(k),om,([]),(by(simp;done)),(by(simp;done)),⟨⟩⟩ [(0,0),(8,8),(184,184),(192,192),(200,200),(224,224),(288,288),(312,312)] ro (ck (fun|()=>(.s 9 (.out [352] [352] (V2 [U6 0 0 0 (length (cutG b size chain lazy k)) 3,zI 0]) [U1 (flatMap tokD (cutG b size chain lazy k)) 119 true] R (ok _ _ wr wr))))))))))))))) kr
end Vt
end Go.Proofs.YtefjnofhgkjpmaaGreat
namespace Go.Proofs.YtefjnofhgkjpmaaGreat
open Go.RowKit Go.Bw Go.Vx
open List (length getD map take drop flatMap replicate)
namespace Vp
theorem GD {p:Prop}(h:p:=by(refine aR ?_;(omega))):p:=h
theorem GF {p:Prop}(h:p:=by(refine decide_eq_true ?_;have h9:=hl i;unfold nA at h9;have h8:=LV (l.getD i mq).lit;omega)):p:=h
theorem Ng {p:Prop}(h:p:=by(refine decide_eq_false ?_;(omega))):p:=h
theorem Nh {p:Prop}(h:p:=by(have h9:=hl i;unfold nA at h9;have h8:=LV (l.getD i mq).lit;rcases h9 with h9|h9<;>omega)):p:=h
theorem Nj {p:Prop}(h:p:=by show k-(i+1)<k-i;clear ZA ZD;omega):p:=h
theorem RV {p:Prop}(h:p:=by((refine aI ?_ ?_)<;>(repeat' (first|(refine aI ?_ ?_)|(with_reducible rfl)|(refine decide_eq_true ?_)|(refine U8 ?_)|(refine fw ?_)))<;>(omega))):p:=h
theorem TD {p:Prop}(h:p:=by(rw[gk];refine U8 ?_;(omega))):p:=h
theorem TE {p:Prop}(h:p:=by(refine decide_eq_true ?_;(omega))):p:=h
theorem TF {p:Prop}(h:p:=by(have h9:=hl i;unfold nA at h9;have h8:=LV (l.getD i mq).lit;rcases h9 with h9|h9<;>(try have h7:=h8.1 h9.1)<;>omega)):p:=h
theorem LS (nn1 nn2:Bool)(X Y:Z1)(a b:Nat)(ha:a=X.length)(hb:b=Y.length)(ha2:a<=10000000)(hb2:b<=10000000):S0 68 [.sl false 2 1 [.sl nn1 a 1 (X.map dB),.sl nn2 b 1 (Y.map dB)]] [] (.ref 0 0 0 (a+b) 1) [⟨(X++Y).map dB, 5,true⟩]:=by
 refine SpecH.run T_ok ah Tryz.func68 rfl rfl rfl ⟨bn _,trivial⟩ rfl 1000 64 (λ R ok=>(.s 20 (.ow (0+(a:Int)) (.s 23 (.ow (0+(a:Int)+b) (.s 30 (.ow (0+(a:Int)+b-0) (.s 4 (.bd (0<0+(a:Int)+b-0) (λ p0 Z7=>(.s 7 (.chk (decide (0<0+(a:Int)+b-0)&&true&&U7 (AB (0+(a:Int)+b-0)) 140737488355328&&U7 (AB (0+(a:Int)+b-0)*1) 140737488355328) RV (.s 3 (.chk (aU none (some 0) none (AB (0+(a:Int)+b-0))&&true) (by(simp;done)) (.s 20 (.chk (true&&U7 ((0+a)*1) 140737488355328) (by(refine U8 ?_;(omega))) (.s 17 (.chk (true&&U5 ((0+a)*1) (length (map dB X))&&true&&true&&true&&true&&U7 ((0+a+b)*1) 140737488355328) (by(simp <;>(omega))) (.s 10 (.out [648] [648] (U6 0 0 0 (0+a+b) 1) [U1 (map dB X++map dB Y) 5 true] R (ok _ _ (by(simp;done)) (by(simp;done)))))))))))))) (λ p0 Z7=>(.s 19 (.chk (true&&U7 ((0+a)*1) 140737488355328) (by(refine U8 ?_;(omega))) (.s 17 (.chk (true&&U5 (a*1) (length (map dB X))&&true&&true&&true&&true&&U7 ((a+b)*1) 140737488355328) (by(simp <;>(omega))) (.s 10 (.out [568] [568] (U6 0 0 0 (a+b) 1) [U1 (map dB X++map dB Y) 5 true] R (ok _ _ wr (by(simp;done))))))))))))))))))) kr
theorem Qm (l:List Bool)(m:Nat)(hm:m=(pk l).length)(hl:l.length<=8388608):S0 52 [Nb m l] [] (.tup [.agg [.ref 0 0 0 m 1,nD (8*m)],iD 0]) [⟨(pk l).map dB, 5,true⟩]:=by
 have h9:=am l;refine SpecH.run T_ok ah Tryz.func52 rfl rfl rfl ⟨bn _,trivial⟩ rfl 1000 64 (λ R ok=>(.s 10 (.cl 43 false [] (.fn RI (@sC (l) (m) om om)) (.s 13 (.cl 56 false [] (.fn In (@ja (pk l) (m) om om)) (.s 9 (.ow (8*(m:Int)) (.s 9 (.out [80] [80] (V2 [Wp [U6 0 0 0 m 1,zI (8*(m:Int))],zI 0]) [U1 (map dB (pk l)) 5 true] R (ok _ _ (by(simp;done)) wr)))))))))) kr
def nA (t:Tn):Prop:=(t.long=0∧t.dist=0)∨(t.lit=0∧3<=t.long∧t.long<=258∧1<=t.dist∧t.dist<=32768)
theorem nA.may {t:Tn}(h:nA t):ef t:=by
 rcases h with h|h
 ·exact .inl h.1
 ·exact .inr h.2
def pF (t:Vt.Tok):Tn:=⟨t.lit,t.dist.toNat,t.long.toNat⟩
structure TokK (t:Vt.Tok):Prop where
 d:0<=t.dist
 l:0<=t.long
 ok:nA (pF t)
theorem zx {b:Z1}{sz ch:Nat}{lz:Bool}{i:Nat}(hs:sz<=32768)(hi:i<b.length):TokK (Vt.tokAt b (sz:Int) (ch:Int) lz i):=by
 have h:=Vt.best_bd b i (sz:Int) (ch:Int) om;unfold Vt.tokAt
 split
 ·exact⟨Int.le_refl _,Int.le_refl _,.inl ⟨rfl,rfl⟩⟩
 ·next q=>
  have h2:=h.2.2.2.2.2.2 (λ e=>q (.inl e));refine⟨h.2.2.2.1,h.1,.inr ⟨rfl,?_⟩⟩;show 3<=(Vm.bestG b i (sz:Int) i (ch:Int) 0 0).2.toNat∧(Vm.bestG b i (sz:Int) i (ch:Int) 0 0).2.toNat<=258∧1<=(Vm.bestG b i (sz:Int) i (ch:Int) 0 0).1.toNat∧(Vm.bestG b i (sz:Int) i (ch:Int) 0 0).1.toNat<=32768;omega
theorem w9 {b:Z1}{sz ch:Nat}{lz:Bool}(hs:sz<=32768):∀(k i:Nat),∀t∈Vt.cutK b (sz:Int) (ch:Int) lz k i,TokK t
 |0,_=>λ t ht=>absurd ht XG
 |k+1,i=>λ t ht=>by
  rw[Vt.cutK]at ht
  split at ht
  ·next q=>
   rcases List.mem_cons.1 ht with e|e
   ·subst e;exact zx hs q
   ·exact w9 hs k _ t e
  ·exact absurd ht XG
def EV (b:Z1)(q sz ch:Nat)(lz:Bool):List Tn:=lk b ((Vt.cutG b (sz:Int) (ch:Int) lz q).map pF)
theorem pG (b:Z1)(q sz ch:Nat)(lz:Bool):EV b q sz ch lz=(Vt.cutG b (sz:Int) (ch:Int) lz q).map pF:=au _ _
theorem GG (b:Z1)(q sz ch:Nat)(lz:Bool):(EV b q sz ch lz).length<=b.length-q:=by
 rw[pG,Vj];exact Vt.cutG_len _ _ _ _ _
theorem DG:∀l:List Vt.Tok,(∀t∈l,TokK t)->l.flatMap Vt.tokD=(l.map pF).flatMap b5
 |[],_=>rfl
 |t::r,h=>by
  have h1:=h t Vr;have e:Vt.tokD t=b5 (pF t):=by
   show[dB t.lit,D.v (.int .i64 t.dist),D.v (.int .i64 t.long)]=[dB t.lit,D.v (.int .i64 ((t.dist.toNat:Nat):Int)),D.v (.int .i64 ((t.long.toNat:Nat):Int))];rw[WS h1.d,WS h1.l]
  rw[List.map_cons,Wf,Wf,e,DG r λ t ht=>h t (Vy _ ht)]
theorem LU {b:Z1}{q sz ch:Nat}{lz:Bool}(hs:sz<=32768):(Vt.cutG b (sz:Int) (ch:Int) lz q).flatMap Vt.tokD=(EV b q sz ch lz).flatMap b5:=by
 rw[pG];exact DG _ (w9 hs _ _)
theorem pH {b:Z1}{q sz ch:Nat}{lz:Bool}(hs:sz<=32768)(i:Nat):nA ((EV b q sz ch lz).getD i mq):=by
 rw[pG,UZ,Vu]
 cases h:(Vt.cutG b (sz:Int) (ch:Int) lz q)[i]? with
 |none=>exact .inl ⟨rfl,rfl⟩
 |some t=>exact(w9 hs _ _ t (List.mem_of_getElem? h)).ok
abbrev TG (sz ch mo:Nat)(lz:Bool):D:=.agg [nD sz,nD ch,nD mo,bD lz]
theorem Qn (b:Z1)(n q:Nat)(hn:n=b.length)(hN:n<=131072)(hq:q<=n)(sz ch mo:Nat)(lz:Bool)(hs:1<=sz∧sz<=32768)(hc:ch<=256)(hm:1<=mo∧mo<=65535)(T:List Tn)(hT:EV b q sz ch lz=T):S0 67 [.sl false n 1 (b.map dB),nD q,TG sz ch mo lz] [] (.tup [.ref 0 0 0 T.length 3,iD 0]) [⟨T.flatMap b5, 119,true⟩]:=by
 subst hT;have h:=Vt.Cut_ok b n (sz:Int) (ch:Int) (mo:Int) (q:Int) lz hn om om (Vt.mayS_iff.2 om) om;rw[Wx,LU hs.2,show(Vt.cutG b (sz:Int) (ch:Int) lz q).length=(EV b q sz ch lz).length from by rw[pG,Vj]]at h;exact h
theorem LV (x:UInt8):(x=0->((x.toNat:Nat):Int)=0)∧x.toNat<256:=⟨λ h=>by rw[h];rfl,x.toNat_lt⟩
theorem GH (l:List Tn)(k:Nat)(hk:k=l.length)(hk2:k<=65535)(hl:∀i,nA (l.getD i mq))(raw:Z1)(r:Nat)(hr:r=raw.length)(hr2:r<=65535):S0 64 [fP 0,.sl false r 1 (raw.map dB),.sl false k 3 (l.flatMap b5)] [] (iD 0) []:=by
 refine SpecH.run T_ok ah Tryz.func64 rfl rfl rfl trivial rfl 1000 64 (λ R ok=>(.s 11 (.f (decide (65535<(r:Int))) Ng (.s 6 (.f (decide (65535<(k:Int))) Ng (.s 12 (Hn.inl T_ok ah false 19 136 (aq Tryz.prog 103 0) (λ(x:(i:Nat)×'(hi:i<=k)×'Unit)=>match x with|⟨i,hi,_⟩=>Vn [(0,Vl false k 3 (flatMap b5 l)),(1,WJ (VU 83) [] []),(7,zN k),(8,nD i)] [] 136) (λ(x:(i:Nat)×'(hi:i<=k)×'Unit)=>match x with|⟨i,hi,_⟩=>k-i) [⟨Unit,.exit 0,λ x=>match x with|()=>Vn [(0,Vl false k 3 (flatMap b5 l)),(1,WJ (VU 83) [] []),(7,zN k),(8,nD k)] [] 136⟩] 1000 64 (fun|⟨i,hi,_⟩,Q,ZA,ZD=>(.s 2 (.bd ((i:Int)<k) (λ p0 Z7=>(.s 6 (.chk (true&&decide ((i:Int)<k)&&true) RV (.s 2 (.chk (U7 (i*3+3) (length (flatMap b5 l))) TD (.lst (take 3 (drop (i*3) (flatMap b5 l))) ([bl (U3 (Tn.lit (getD l i mq))),zN (Tn.dist (getD l i mq)),zN (Tn.long (getD l i mq))]) (aD (k:=3) (i:=i) (λ _=>rfl) om om) (.s 42 (.br (!decide (0<(↑(Tn.long (getD l i mq)):Int))) (λ p1=>have Z6:=B7 (gE p1);(.s 10 (.t ((↑(Tn.long (getD l i mq)):Int)==0) TE (.s 12 (.br (!(↑(Tn.dist (getD l i mq)):Int)==0) (λ p2=>have Z5:=ap (gE p2);(.abs Nh)) (λ p2=>have Z5:=eq_of_beq (gF p2);(.s 7 (.ow (i+1) (.s 1 (.val 8 (zI (i+1)) (zN (i+1)) GD (Hn.next ZA ⟨(i+1),om,⟨⟩⟩ Nj [] ro))))))))))) (λ p1=>have Z6:=B6 (gF p1);(.s 10 (.br ((↑(U3 (Tn.lit (getD l i mq))):Int)==0) (λ p3=>have Z4:=eq_of_beq p3;(.s 12 (.t (decide (3<=(↑(Tn.long (getD l i mq)):Int))) GF (.s 12 (.t (decide ((↑(Tn.long (getD l i mq)):Int)<=258)) GF (.s 12 (.t (decide (1<=(↑(Tn.dist (getD l i mq)):Int))) GF (.s 12 (.br (!decide ((↑(Tn.dist (getD l i mq)):Int)<=32768)) (λ p4=>have Z3:=B7 (gE p4);(.abs Nh)) (λ p4=>have Z3:=B6 (gF p4);(.s 7 (.ow (i+1) (.s 1 (.val 8 (zI (i+1)) (zN (i+1)) GD (Hn.next ZA ⟨(i+1),om,⟨⟩⟩ Nj [] ro))))))))))))))) (λ p3=>have Z4:=ap p3;(.abs TF))))))))))))) (λ p0 Z7=>(.val 8 (zN i) (zN k) GD (Hn.last ZD 0 (():Unit) rfl [] ro)))))) (fun|⟨i,hi,_⟩=>by kernel_rfl) ⟨(0),om,⟨⟩⟩ [] ro (ck (fun|()=>(.s 6 (.out [] [] (zI 0) [] R (ok _ _ wr wr)))))))))))) kr
theorem GI (l:List Tn)(k:Nat)(hk:k=l.length)(hk2:k<=65535)(hl:∀i,nA (l.getD i mq))(raw:Z1)(r:Nat)(hr:r=raw.length)(hr2:r<=65535):S0 64 [fP 1,.sl false r 1 (raw.map dB),.sl false k 3 (l.flatMap b5)] [] (iD 0) []:=by
 refine SpecH.run T_ok ah Tryz.func64 rfl rfl rfl trivial rfl 1000 64 (λ R ok=>(.s 11 (.f (decide (65535<(r:Int))) Ng (.s 6 (.f (decide (65535<(k:Int))) Ng (.s 12 (Hn.inl T_ok ah false 19 136 (aq Tryz.prog 103 0) (λ(x:(i:Nat)×'(hi:i<=k)×'Unit)=>match x with|⟨i,hi,_⟩=>Vn [(0,Vl false k 3 (flatMap b5 l)),(1,WJ (VU 83) [] []),(7,zN k),(8,nD i)] [] 136) (λ(x:(i:Nat)×'(hi:i<=k)×'Unit)=>match x with|⟨i,hi,_⟩=>k-i) [⟨Unit,.exit 0,λ x=>match x with|()=>Vn [(0,Vl false k 3 (flatMap b5 l)),(1,WJ (VU 83) [] []),(7,zN k),(8,nD k)] [] 136⟩] 1000 64 (fun|⟨i,hi,_⟩,Q,ZA,ZD=>(.s 2 (.bd ((i:Int)<k) (λ p0 Z7=>(.s 6 (.chk (true&&decide ((i:Int)<k)&&true) RV (.s 2 (.chk (U7 (i*3+3) (length (flatMap b5 l))) TD (.lst (take 3 (drop (i*3) (flatMap b5 l))) ([bl (U3 (Tn.lit (getD l i mq))),zN (Tn.dist (getD l i mq)),zN (Tn.long (getD l i mq))]) (aD (k:=3) (i:=i) (λ _=>rfl) om om) (.s 42 (.br (!decide (0<(↑(Tn.long (getD l i mq)):Int))) (λ p1=>have Z6:=B7 (gE p1);(.s 10 (.t ((↑(Tn.long (getD l i mq)):Int)==0) TE (.s 12 (.br (!(↑(Tn.dist (getD l i mq)):Int)==0) (λ p2=>have Z5:=ap (gE p2);(.abs Nh)) (λ p2=>have Z5:=eq_of_beq (gF p2);(.s 7 (.ow (i+1) (.s 1 (.val 8 (zI (i+1)) (zN (i+1)) GD (Hn.next ZA ⟨(i+1),om,⟨⟩⟩ Nj [] ro))))))))))) (λ p1=>have Z6:=B6 (gF p1);(.s 10 (.br ((↑(U3 (Tn.lit (getD l i mq))):Int)==0) (λ p3=>have Z4:=eq_of_beq p3;(.s 12 (.t (decide (3<=(↑(Tn.long (getD l i mq)):Int))) GF (.s 12 (.t (decide ((↑(Tn.long (getD l i mq)):Int)<=258)) GF (.s 12 (.t (decide (1<=(↑(Tn.dist (getD l i mq)):Int))) GF (.s 12 (.br (!decide ((↑(Tn.dist (getD l i mq)):Int)<=32768)) (λ p4=>have Z3:=B7 (gE p4);(.abs Nh)) (λ p4=>have Z3:=B6 (gF p4);(.s 7 (.ow (i+1) (.s 1 (.val 8 (zI (i+1)) (zN (i+1)) GD (Hn.next ZA ⟨(i+1),om,⟨⟩⟩ Nj [] ro))))))))))))))) (λ p3=>have Z4:=ap p3;(.abs TF))))))))))))) (λ p0 Z7=>(.val 8 (zN i) (zN k) GD (Hn.last ZD 0 (():Unit) rfl [] ro)))))) (fun|⟨i,hi,_⟩=>by kernel_rfl) ⟨(0),om,⟨⟩⟩ [] ro (ck (fun|()=>(.s 6 (.out [] [] (zI 0) [] R (ok _ _ wr wr)))))))))))) kr
theorem GJ (l:List Tn)(k:Nat)(hk:k=l.length)(hk2:k<=65535)(hl:∀i,nA (l.getD i mq))(raw:Z1)(r:Nat)(hr:r=raw.length)(hr2:r<=65535):S0 64 [fP 2,.sl false r 1 (raw.map dB),.sl false k 3 (l.flatMap b5)] [] (iD 0) []:=by
 refine SpecH.run T_ok ah Tryz.func64 rfl rfl rfl trivial rfl 1000 64 (λ R ok=>(.s 11 (.f (decide (65535<(r:Int))) Ng (.s 6 (.f (decide (65535<(k:Int))) Ng (.s 12 (Hn.inl T_ok ah false 19 136 (aq Tryz.prog 103 0) (λ(x:(i:Nat)×'(hi:i<=k)×'Unit)=>match x with|⟨i,hi,_⟩=>Vn [(0,Vl false k 3 (flatMap b5 l)),(1,WJ (VU 83) [] []),(7,zN k),(8,nD i)] [] 136) (λ(x:(i:Nat)×'(hi:i<=k)×'Unit)=>match x with|⟨i,hi,_⟩=>k-i) [⟨Unit,.exit 0,λ x=>match x with|()=>Vn [(0,Vl false k 3 (flatMap b5 l)),(1,WJ (VU 83) [] []),(7,zN k),(8,nD k)] [] 136⟩] 1000 64 (fun|⟨i,hi,_⟩,Q,ZA,ZD=>(.s 2 (.bd ((i:Int)<k) (λ p0 Z7=>(.s 6 (.chk (true&&decide ((i:Int)<k)&&true) RV (.s 2 (.chk (U7 (i*3+3) (length (flatMap b5 l))) TD (.lst (take 3 (drop (i*3) (flatMap b5 l))) ([bl (U3 (Tn.lit (getD l i mq))),zN (Tn.dist (getD l i mq)),zN (Tn.long (getD l i mq))]) (aD (k:=3) (i:=i) (λ _=>rfl) om om) (.s 42 (.br (!decide (0<(↑(Tn.long (getD l i mq)):Int))) (λ p1=>have Z6:=B7 (gE p1);(.s 10 (.t ((↑(Tn.long (getD l i mq)):Int)==0) TE (.s 12 (.br (!(↑(Tn.dist (getD l i mq)):Int)==0) (λ p2=>have Z5:=ap (gE p2);(.abs Nh)) (λ p2=>have Z5:=eq_of_beq (gF p2);(.s 7 (.ow (i+1) (.s 1 (.val 8 (zI (i+1)) (zN (i+1)) GD (Hn.next ZA ⟨(i+1),om,⟨⟩⟩ Nj [] ro))))))))))) (λ p1=>have Z6:=B6 (gF p1);(.s 10 (.br ((↑(U3 (Tn.lit (getD l i mq))):Int)==0) (λ p3=>have Z4:=eq_of_beq p3;(.s 12 (.t (decide (3<=(↑(Tn.long (getD l i mq)):Int))) GF (.s 12 (.t (decide ((↑(Tn.long (getD l i mq)):Int)<=258)) GF (.s 12 (.t (decide (1<=(↑(Tn.dist (getD l i mq)):Int))) GF (.s 12 (.br (!decide ((↑(Tn.dist (getD l i mq)):Int)<=32768)) (λ p4=>have Z3:=B7 (gE p4);(.abs Nh)) (λ p4=>have Z3:=B6 (gF p4);(.s 7 (.ow (i+1) (.s 1 (.val 8 (zI (i+1)) (zN (i+1)) GD (Hn.next ZA ⟨(i+1),om,⟨⟩⟩ Nj [] ro))))))))))))))) (λ p3=>have Z4:=ap p3;(.abs TF))))))))))))) (λ p0 Z7=>(.val 8 (zN i) (zN k) GD (Hn.last ZD 0 (():Unit) rfl [] ro)))))) (fun|⟨i,hi,_⟩=>by kernel_rfl) ⟨(0),om,⟨⟩⟩ [] ro (ck (fun|()=>(.s 6 (.out [] [] (zI 0) [] R (ok _ _ wr wr)))))))))))) kr
end Vp
end Go.Proofs.YtefjnofhgkjpmaaGreat

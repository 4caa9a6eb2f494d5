/- Part 13. -/
import Derived.Test.YtefjnofhgkjpmaaTm12
import Derived.Test.YtefjnofhgkjpmaaTm10
import Derived.Test.YtefjnofhgkjpmaaTm1
import Derived.Lib.SmallJoins
set_option linter.unusedVariables false
set_option linter.unusedSimpArgs false
set_option maxRecDepth 100000
set_option maxHeartbeats 4000000
open And renaming intro → Ut
open Array renaming getElem?_eq_none → VX
open Bool renaming and_eq_true → Tw, and_self → VM, and_true → Uh, true_and → Ub
open Go.Addr renaming add_mid → U8
open Go.DataW renaming trod → Y0, trod_array → YA, trod_int → XU
open Go.Fn renaming func → Ui
open Go.IntKind renaming i64 → Uf, wrap → TM
open Go.Lit renaming int → XF
open Go.Value renaming agg → Y4, cells → Xp, int → UE, okWide → Ym
open Go.Vx.Blk renaming mk → Tq
open Go.Vx.CallOk renaming fn → TW
open Go.Vx.CutS renaming mk → TJ
open Go.Vx.D renaming agg → UA, fn → U9, ptr → TF, ref → Tu, sl → TL, tup → Uw
open Go.World renaming cell?_spot → Yz
open Inhabited renaming default → mb
open Int renaming tdiv → Xl, tmod → We, toNat → zK
open List renaming append_assoc → TG, append_nil → Ue, drop → UQ, drop_eq_getElem_cons → UK, drop_length → Yy, flatMap_append → UV, flatMap_cons → UC, flatMap_singleton → VE, getD_eq_getElem?_getD → To, getElem?_eq_getElem → Ts, getElem?_map → TN, getElem?_of_mem → Ux, getElem?_take → Un, getElem_mem → Uo, length_append → Tt, length_cons → T3, length_drop → Ul, length_map → TH, length_nil → Vj, length_take → TR, map → VO, map_append → Uq, map_cons → Vq, map_map → Xg, mem_append_right → Wj, mem_cons_of_mem → TU, mem_cons_self → TP, mem_map → WI, mem_of_getElem? → UB, nil_append → VV, take → UP, take_append_drop → Vo, take_length → Uy, take_of_length_le → T9, take_succ_eq_append_getElem → T8
open Nat renaming add_assoc → UF, add_zero → VD, beq → Tx, beq_eq → Xj, beq_refl → Uz, ble → Tz, ble_eq → Vs, ble_eq_true_of_le → Tv, eq_zero_or_pos → VI, le_add_left → YQ, le_add_right → V4, le_refl → TD, le_trans → T6, lt_irrefl → V1, lt_of_lt_of_le → Ug, lt_or_ge → T5, min_eq_left → W6, min_self → Yl, mul_add → V2, mul_one → TZ, not_lt_zero → UR, sub_le → YZ, sub_self → UJ, zero_add → T0, zero_le → T7
open Option renaming map_eq_some_iff → UG
open Prod renaming fst → Ty, snd → Tm
open UInt8 renaming ofNat → Um, toNat → Tp
namespace Go.Proofs.Ytefjnofhgkjpmaa
open Go.RowKit Go.Bw Go.Vx
open List (length getD map take drop flatMap replicate)
namespace Vp
theorem oh {p:Prop}(h:p:=by(have q:=hE.c (fun a b c d e=>by first|omega|simp_all) (fun a b c d e=>by omega);rw[q];rfl)):p:=h
theorem rr {p:Prop}(h:p:=by(refine decide_eq_false ?_;(omega))):p:=h
abbrev Lm (p:Nat):Rs:=⟨p,0⟩
def Jy (r:Rs×Nat×Nat×Nat×Bool):Nat×Nat×Nat×Bool×Nat×Nat:=lk [0] (if r.1.e≠0 then(0,0,0,false,0,r.1.e)else(r.2.1,r.2.2.1,r.2.2.2.1,r.2.2.2.2,r.1.p,0))
abbrev QM (r:Nat×Nat×Nat×Bool×Nat×Nat):D:=.tup [.agg [dG r.1,nD r.2.1,nD r.2.2.1],bD r.2.2.2.1,nD r.2.2.2.2.1,nD r.2.2.2.2.2]
structure IsT (f:Nat→Int)(ys:List Int)(l:List UInt8):Prop where
 ln:l.length=320
 ca:aC l 15=0
 ct:∀i,i<16→f i=(aa l i:Int)
 sy:ys=(ab l).map (fun(n:Nat)=>(n:Int))
structure TrE (f:Nat→Int)(ys:List Int)(e:Nat):Prop where
 a:e=0→∃l,IsT f ys l
 b:e≠0→e=8∧∀l,¬IsT f ys l
theorem Bl (f:Nat→Int)(ys:List Int):∃e,TrE f ys e:=by
 by_cases h:∃l,IsT f ys l
 ·exact⟨0,fun _=>h,fun q=>absurd rfl q⟩
 ·exact⟨8,fun q=>absurd q (by decide),fun _=>⟨rfl,fun l q=>h ⟨l,q⟩⟩⟩
theorem vU {f g:Nat→Int}(h:∀n,n<16→f n=g n):vT f=vT g:=by
 unfold vT
 rw[h 0 (by decide),h 1 (by decide),h 2 (by decide),h 3 (by decide),h 4 (by decide),h 5 (by decide),h 6 (by decide),h 7 (by decide),h 8 (by decide),h 9 (by decide),h 10 (by decide),h 11 (by decide),h 12 (by decide),h 13 (by decide),h 14 (by decide),h 15 (by decide)]
theorem vV {f:Nat→Int}{ys:List Int}{l:List UInt8}(q:Nat)(h1:∀i,i<16→f i=(aa l i:Int))(h2:ys=(ab l).map (fun(n:Nat)=>(n:Int))):Ll f q ys=fA q l:=by
 unfold Ll fA
 rw[h2,Xg,vU h1];rfl
theorem xm (f:Nat→Int)(ys:List Int)(q:Nat)(hq:q=ys.length)(hQ:q≤100000)(e:Nat)(h:TrE f ys e):S0 36 [Gw f q ys] [] (nD e) []:=by
 by_cases h0:e=0
 ·obtain⟨l,hl⟩:=h.a h0
  have hd:Gw f q ys=oY q l:=congrArg UA (vV q hl.ct hl.sy)
  rw[hd,h0]
  exact HN l 15 (by decide) hl.ca q (by rw[hq,hl.sy,TH])
 ·rw[(h.b h0).1]
  exact MD f ys q hq hQ (fun l h1 h2 h3=>(h.b h0).2 l ⟨h1,h2,h3.1,h3.2⟩)
structure ZrB (f:Nat→Int)(q:Nat)(z:Bool):Prop where
 t:z=true→(∀i,i<16→f i=0)∧q=0
 f:z=false→¬((∀i,i<16→f i=0)∧q=0)
theorem Bm (f:Nat→Int)(q:Nat):∃z,ZrB f q z:=by
 by_cases h:(∀i,i<16→f i=0)∧q=0
 ·exact⟨true,fun _=>h,fun q=>absurd q (by decide)⟩
 ·exact⟨false,fun q=>absurd q (by decide),fun _=>h⟩
theorem QN {f:Nat→Int}{q:Nat}{z:Bool}(h:ZrB f q z)(h1:((f 0==0)&&((f 1==0)&&((f 2==0)&&((f 3==0)&&((f 4==0)&&((f 5==0)&&((f 6==0)&&((f 7==0)&&((f 8==0)&&((f 9==0)&&((f 10==0)&&((f 11==0)&&((f 12==0)&&((f 13==0)&&((f 14==0)&&((f 15==0)&&true))))))))))))))))=true)(h2:q=0):z=true:=by
 cases z with
 |true=>rfl
 |false=>exact absurd ⟨Mz (g:=fun _=>0) h1,h2⟩ (h.f rfl)
theorem QO {f:Nat→Int}{q:Nat}{z:Bool}(h:ZrB f q z)(h2:q≠0):z=false:=by
 cases z with
 |false=>rfl
 |true=>exact absurd (h.t rfl).2 h2
theorem QP {f:Nat→Int}{q:Nat}{z:Bool}(h:ZrB f q z)(h1:((f 0==0)&&((f 1==0)&&((f 2==0)&&((f 3==0)&&((f 4==0)&&((f 5==0)&&((f 6==0)&&((f 7==0)&&((f 8==0)&&((f 9==0)&&((f 10==0)&&((f 11==0)&&((f 12==0)&&((f 13==0)&&((f 14==0)&&((f 15==0)&&true))))))))))))))))=false):z=false:=by
 cases z with
 |false=>rfl
 |true=>
  have q:=(h.t rfl).1
  rw[q 0 (by decide),q 1 (by decide),q 2 (by decide),q 3 (by decide),q 4 (by decide),q 5 (by decide),q 6 (by decide),q 7 (by decide),q 8 (by decide),q 9 (by decide),q 10 (by decide),q 11 (by decide),q 12 (by decide),q 13 (by decide),q 14 (by decide),q 15 (by decide)]at h1
  exact absurd h1 (by decide)
structure PkEz (kd:Nat)(le:Int)(z1 z2:Bool)(e1 e2 e:Nat):Prop where
 a:kd=0→0≤le→le≤65535→z1=true→z2=true→e=0
 b:1≤kd→kd≤2→le=0→e1=0→e2=0→e=0
 c:(kd=0→0≤le→le≤65535→z1=true→z2=true→False)→(1≤kd→kd≤2→le=0→e1=0→e2=0→False)→e=8
theorem Jz (kd:Nat)(le:Int)(z1 z2:Bool)(e1 e2:Nat):∃e,PkEz kd le z1 z2 e1 e2 e:=by
 by_cases h:kd=0∧0≤le∧le≤65535∧z1=true∧z2=true
 ·exact⟨0,fun _ _ _ _ _=>rfl,fun _ _ _ _ _=>rfl,fun q _=>(q h.1 h.2.1 h.2.2.1 h.2.2.2.1 h.2.2.2.2).elim⟩
 ·by_cases h2:1≤kd∧kd≤2∧le=0∧e1=0∧e2=0
  ·exact⟨0,fun _ _ _ _ _=>rfl,fun _ _ _ _ _=>rfl,fun _ q=>(q h2.1 h2.2.1 h2.2.2.1 h2.2.2.2.1 h2.2.2.2.2).elim⟩
  ·exact⟨8,fun a b c d e=>(h ⟨a,b,c,d,e⟩).elim,fun a b c d e=>(h2 ⟨a,b,c,d,e⟩).elim,fun _ _=>rfl⟩
theorem Bn (f:Nat→Int)(ys:List Int)(q:Nat)(hq:q=ys.length)(hQ:q≤100000)(z:Bool)(h:ZrB f q z):S0 35 [Gw f q ys,Cf] [] (bD z) []:=by
 refine SpecH.run T_ok ai Try.func35 rfl rfl rfl trivial rfl 1000 64 (fun R ok=>(.s 23 (.br (f 0==0&&(f 1==0&&(f 2==0&&(f 3==0&&(f 4==0&&(f 5==0&&(f 6==0&&(f 7==0&&(f 8==0&&(f 9==0&&(f 10==0&&(f 11==0&&(f 12==0&&(f 13==0&&(f 14==0&&(f 15==0&&true)))))))))))))))) (fun p0=>have p0f:=eq_of_beq (bl p0);have p0f1:=eq_of_beq (bl (ac p0));have p0f2:=eq_of_beq (bl (ac (ac p0)));have p0f3:=eq_of_beq (bl (ac (ac (ac p0))));have p0f4:=eq_of_beq (bl (ac (ac (ac (ac p0)))));have p0f5:=eq_of_beq (bl (ac (ac (ac (ac (ac p0))))));have p0f6:=eq_of_beq (bl (ac (ac (ac (ac (ac (ac p0)))))));have p0f7:=eq_of_beq (bl (ac (ac (ac (ac (ac (ac (ac p0))))))));have p0f8:=eq_of_beq (bl (ac (ac (ac (ac (ac (ac (ac (ac p0)))))))));have p0f9:=eq_of_beq (bl (ac (ac (ac (ac (ac (ac (ac (ac (ac p0))))))))));have p0f10:=eq_of_beq (bl (ac (ac (ac (ac (ac (ac (ac (ac (ac (ac p0)))))))))));have p0f11:=eq_of_beq (bl (ac (ac (ac (ac (ac (ac (ac (ac (ac (ac (ac p0))))))))))));have p0f12:=eq_of_beq (bl (ac (ac (ac (ac (ac (ac (ac (ac (ac (ac (ac (ac p0)))))))))))));have p0f13:=eq_of_beq (bl (ac (ac (ac (ac (ac (ac (ac (ac (ac (ac (ac (ac (ac p0))))))))))))));have p0f14:=eq_of_beq (bl (ac (ac (ac (ac (ac (ac (ac (ac (ac (ac (ac (ac (ac (ac p0)))))))))))))));have p0f15:=eq_of_beq (bl (ac (ac (ac (ac (ac (ac (ac (ac (ac (ac (ac (ac (ac (ac (ac p0))))))))))))))));(.s 24 (.br ((q:Int) !=0) (fun p1=>have p1f:=bE p1;(.s 3 (.out [] [] (D.v (.bool false)) [] R (ok _ _ (by(rw[QO h om])) wr)))) (fun p1=>have p1f:=bF p1;(.s 6 (.f (decide (0<(q:Int))) rr (.s 3 (.out [] [] (D.v (.bool true)) [] R (ok _ _ (by(rw[QN h aD om])) wr))))))))) (fun p0=>(.s 10 (.out [] [] (D.v (.bool false)) [] R (ok _ _ (by(rw[QP h aD])) wr))))))) kr
theorem QQ (kd:Nat)(hkd:kd<256)(la:Bool)(le:Int)(f1 f2:Nat→Int)(ys1 ys2:List Int)(q1 q2:Nat)(hq1:q1=ys1.length)(hq2:q2=ys2.length)(hQ1:q1≤100000)(hQ2:q2≤100000)(z1 z2:Bool)(hz1:ZrB f1 q1 z1)(hz2:ZrB f2 q2 z2)(e1 e2:Nat)(he1:TrE f1 ys1 e1)(he2:TrE f2 ys2 e2)(e:Nat)(hE:PkEz kd le z1 z2 e1 e2 e):S0 13 [.agg ([dG kd,bD la,iD le]++Ll f1 q1 ys1++Ll f2 q2 ys2)] [] (nD e) []:=by
 refine SpecH.run T_ok ai Try.func13 rfl rfl rfl trivial rfl 1000 64 (fun R ok=>(.s 13 (.br ((kd:Int)==0) (fun p0=>have p0f:=eq_of_beq p0;(.s 12 (.bd (0≤le) (fun p1 p1f=>(.s 12 (.bd (le≤65535) (fun p2 p2f=>(.s 12 (.call 35 false [] (true) wr ([UA [zI (f1 0),zI (f1 1),zI (f1 2),zI (f1 3),zI (f1 4),zI (f1 5),zI (f1 6),zI (f1 7),zI (f1 8),zI (f1 9),zI (f1 10),zI (f1 11),zI (f1 12),zI (f1 13),zI (f1 14),zI (f1 15),TL false q1 1 (map iD ys1)],UA [zI 0,zI 0,zI 0,zI 0,zI 0,zI 0,zI 0,zI 0,zI 0,zI 0,zI 0,zI 0,zI 0,zI 0,zI 0,zI 0,zS]]) _ (by exact(qr (qr trivial))) (true) wr _ _ _ (TW (az.of Try.func35 rfl rfl) (@Bn (f1) (ys1) (q1) om om (z1) aD)) (.s 3 (.br (z1) (fun p3=>(.s 12 (.call 35 false [] (true) wr ([UA [zI (f2 0),zI (f2 1),zI (f2 2),zI (f2 3),zI (f2 4),zI (f2 5),zI (f2 6),zI (f2 7),zI (f2 8),zI (f2 9),zI (f2 10),zI (f2 11),zI (f2 12),zI (f2 13),zI (f2 14),zI (f2 15),TL false q2 1 (map iD ys2)],UA [zI 0,zI 0,zI 0,zI 0,zI 0,zI 0,zI 0,zI 0,zI 0,zI 0,zI 0,zI 0,zI 0,zI 0,zI 0,zI 0,zS]]) _ (by exact(qr (qr trivial))) (true) wr _ _ _ (TW (az.of Try.func35 rfl rfl) (@Bn (f2) (ys2) (q2) om om (z2) aD)) (.s 12 (.f ((kd:Int)==1) rr (.s 12 (.f ((kd:Int)==2) rr (.s 30 (.br (!z2) (fun p4=>have p4f:=(eZ p4);(.s 5 (.out [] [] (zI 8) [] R (ok _ _ oh wr)))) (fun p4=>have p4f:=(e9 p4);(.s 5 (.out [] [] (zI 0) [] R (ok _ _ (by(rw[hE.a om om om aD aD];rfl)) wr))))))))))))) (fun p3=>(.s 18 (.f ((kd:Int)==1) rr (.s 12 (.f ((kd:Int)==2) rr (.s 36 (.out [] [] (zI 8) [] R (ok _ _ oh wr))))))))))))) (fun p2 p2f=>(.s 28 (.f ((kd:Int)==1) rr (.s 12 (.f ((kd:Int)==2) rr (.s 36 (.out [] [] (zI 8) [] R (ok _ _ oh wr))))))))))) (fun p1 p1f=>(.s 36 (.f ((kd:Int)==1) rr (.s 12 (.f ((kd:Int)==2) rr (.s 36 (.out [] [] (zI 8) [] R (ok _ _ oh wr))))))))))) (fun p0=>have p0f:=am p0;(.s 44 (.br ((kd:Int)==1) (fun p5=>have p5f:=eq_of_beq p5;(.s 20 (.br (le==0) (fun p6=>have p6f:=eq_of_beq p6;(.s 9 (.call 36 false [] (true) wr ([UA [zI (f1 0),zI (f1 1),zI (f1 2),zI (f1 3),zI (f1 4),zI (f1 5),zI (f1 6),zI (f1 7),zI (f1 8),zI (f1 9),zI (f1 10),zI (f1 11),zI (f1 12),zI (f1 13),zI (f1 14),zI (f1 15),TL false q1 1 (map iD ys1)]]) _ (by exact(qr trivial)) (true) wr _ _ _ (TW (az.of Try.func36 rfl rfl) (@xm (f1) (ys1) (q1) om om (e1) aD)) (.s 6 (.br ((e1:Int)==0) (fun p7=>have p7f:=eq_of_beq p7;(.s 9 (.call 36 false [] (true) wr ([UA [zI (f2 0),zI (f2 1),zI (f2 2),zI (f2 3),zI (f2 4),zI (f2 5),zI (f2 6),zI (f2 7),zI (f2 8),zI (f2 9),zI (f2 10),zI (f2 11),zI (f2 12),zI (f2 13),zI (f2 14),zI (f2 15),TL false q2 1 (map iD ys2)]]) _ (by exact(qr trivial)) (true) wr _ _ _ (TW (az.of Try.func36 rfl rfl) (@xm (f2) (ys2) (q2) om om (e2) aD)) (.s 13 (.br (!(e2:Int)==0) (fun p8=>have p8f:=am (eZ p8);(.s 1 (.out [] [] (zI 8) [] R (ok _ _ oh wr)))) (fun p8=>have p8f:=eq_of_beq (e9 p8);(.s 1 (.out [] [] (zI 0) [] R (ok _ _ (by(rw[hE.b om om om om om];rfl)) wr))))))))) (fun p7=>have p7f:=am p7;(.s 18 (.out [] [] (zI 8) [] R (ok _ _ oh wr))))))))) (fun p6=>have p6f:=am p6;(.s 28 (.out [] [] (zI 8) [] R (ok _ _ oh wr))))))) (fun p5=>have p5f:=am p5;(.s 12 (.br ((kd:Int)==2) (fun p9=>have p9f:=eq_of_beq p9;(.s 12 (.br (le==0) (fun p10=>have p10f:=eq_of_beq p10;(.s 9 (.call 36 false [] (true) wr ([UA [zI (f1 0),zI (f1 1),zI (f1 2),zI (f1 3),zI (f1 4),zI (f1 5),zI (f1 6),zI (f1 7),zI (f1 8),zI (f1 9),zI (f1 10),zI (f1 11),zI (f1 12),zI (f1 13),zI (f1 14),zI (f1 15),TL false q1 1 (map iD ys1)]]) _ (by exact(qr trivial)) (true) wr _ _ _ (TW (az.of Try.func36 rfl rfl) (@xm (f1) (ys1) (q1) om om (e1) aD)) (.s 6 (.br ((e1:Int)==0) (fun p11=>have p11f:=eq_of_beq p11;(.s 9 (.call 36 false [] (true) wr ([UA [zI (f2 0),zI (f2 1),zI (f2 2),zI (f2 3),zI (f2 4),zI (f2 5),zI (f2 6),zI (f2 7),zI (f2 8),zI (f2 9),zI (f2 10),zI (f2 11),zI (f2 12),zI (f2 13),zI (f2 14),zI (f2 15),TL false q2 1 (map iD ys2)]]) _ (by exact(qr trivial)) (true) wr _ _ _ (TW (az.of Try.func36 rfl rfl) (@xm (f2) (ys2) (q2) om om (e2) aD)) (.s 13 (.br (!(e2:Int)==0) (fun p12=>have p12f:=am (eZ p12);(.s 1 (.out [] [] (zI 8) [] R (ok _ _ oh wr)))) (fun p12=>have p12f:=eq_of_beq (e9 p12);(.s 1 (.out [] [] (zI 0) [] R (ok _ _ (by(rw[hE.b om om om om om];rfl)) wr))))))))) (fun p11=>have p11f:=am p11;(.s 18 (.out [] [] (zI 8) [] R (ok _ _ oh wr))))))))) (fun p10=>have p10f:=am p10;(.s 28 (.out [] [] (zI 8) [] R (ok _ _ oh wr))))))) (fun p9=>have p9f:=am p9;(.s 36 (.out [] [] (zI 8) [] R (ok _ _ oh wr))))))))))))) kr
theorem Ew {p:Prop}(h:p:=by(refine decide_eq_false ?_;(omega))):p:=h
structure KdV (kd le:Nat)(l1 l2:List UInt8):Prop where
 a:kd=0→le≤65535∧l1=[]∧l2=[]
 b:kd≠0→kd≤2∧le=0∧l1.length=320∧l2.length=320
 t1:aC l1 15=0
 t2:aC l2 15=0
theorem KdV.k {kd le:Nat}{l1 l2:List UInt8}(h:KdV kd le l1 l2):kd≤2∧le≤65535∧(ab l1).length≤320∧(ab l2).length≤320:=by
 have s1:=bq l1
 have s2:=bq l2
 by_cases c:kd=0
 ·have:=h.a c
  rw[this.2.1]at s1 ⊢;rw[this.2.2]at s2 ⊢
  simp only[Vj]at s1 s2
  omega
 ·have:=h.b c;omega
theorem xo (i:Nat):aa [] i=0:=by rw[gf];unfold pG;split<;>rfl
theorem QR {kd le:Nat}{l1 l2:List UInt8}{q1 q2:Nat}(hq1:q1=(ab l1).length)(hq2:q2=(ab l2).length)(hK:KdV kd le l1 l2){P:Nat→Prop}(h:∀(z1 z2:Bool) (_:ZrB (fun i=>(aa l1 i:Int)) q1 z1) (_:ZrB (fun i=>(aa l2 i:Int)) q2 z2) (e1 e2:Nat) (_:TrE (fun i=>(aa l1 i:Int)) ((ab l1).map (fun(n:Nat)=>(n:Int))) e1) (_:TrE (fun i=>(aa l2 i:Int)) ((ab l2).map (fun(n:Nat)=>(n:Int))) e2) (e:Nat) (_:PkEz kd le z1 z2 e1 e2 e),P e):P 0:=by
 have k:=hK.k
 obtain⟨z1,hz1⟩:=Bm (fun i=>(aa l1 i:Int)) q1
 obtain⟨z2,hz2⟩:=Bm (fun i=>(aa l2 i:Int)) q2
 obtain⟨e1,he1⟩:=Bl (fun i=>(aa l1 i:Int)) ((ab l1).map (fun(n:Nat)=>(n:Int)))
 obtain⟨e2,he2⟩:=Bl (fun i=>(aa l2 i:Int)) ((ab l2).map (fun(n:Nat)=>(n:Int)))
 obtain⟨e,hE⟩:=Jz kd le z1 z2 e1 e2
 have h:=h z1 z2 hz1 hz2 e1 e2 he1 he2 e hE
 have e0:e=0:=by
  by_cases c:kd=0
  ·have a:=hK.a c
   refine hE.a c (by omega) (by omega) ?_ ?_
   ·cases z1 with
    |true=>rfl
    |false=>exact absurd ⟨fun i _=>by show((aa l1 i:Nat):Int)=0;rw[a.2.1,xo];rfl,by rw[hq1,a.2.1];rfl⟩ (hz1.f rfl)
   ·cases z2 with
    |true=>rfl
    |false=>exact absurd ⟨fun i _=>by show((aa l2 i:Nat):Int)=0;rw[a.2.2,xo];rfl,by rw[hq2,a.2.2];rfl⟩ (hz2.f rfl)
  ·have a:=hK.b c
   refine hE.b (by omega) (by omega) (by omega) ?_ ?_
   ·by_cases d:e1=0
    ·exact d
    ·exact absurd ⟨a.2.2.1,hK.t1,fun _ _=>rfl,rfl⟩ ((he1.b d).2 l1)
   ·by_cases d:e2=0
    ·exact d
    ·exact absurd ⟨a.2.2.2,hK.t2,fun _ _=>rfl,rfl⟩ ((he2.b d).2 l2)
 rw[e0]at h
 exact h
theorem vW (kd le:Nat)(la:Bool)(l1 l2:List UInt8)(q1 q2:Nat)(hq1:q1=(ab l1).length)(hq2:q2=(ab l2).length)(hK:KdV kd le l1 l2):S0 13 [.agg ([dG kd,bD la,nD le]++fA q1 l1++fA q2 l2)] [] (iD 0) []:=by
 have k:=hK.k
 refine QR hq1 hq2 hK (P:=fun e=>S0 13 [.agg ([dG kd,bD la,nD le]++fA q1 l1++fA q2 l2)] [] (nD e) []) (fun z1 z2 hz1 hz2 e1 e2 he1 he2 e hE=>?_)
 have h:=QQ kd (by omega) la le _ _ _ _ q1 q2 (by rw[TH];exact hq1) (by rw[TH];exact hq2) (by omega) (by omega) z1 z2 hz1 hz2 e1 e2 he1 he2 e hE
 rwa [vV q1 (fun _ _=>rfl) rfl,vV q2 (fun _ _=>rfl) rfl]at h
theorem JA (b:List UInt8)(n:Nat)(hn:n=b.length)(hN:n≤131072)(p:Nat)(hp:p≤8*n)(pi:Int)(hpi:pi=p)(kd le:Nat)(la:Bool)(l1 l2:List UInt8)(hK:KdV kd le l1 l2)(q1 q2:Nat)(hq1:q1=(ab l1).length)(hq2:q2=(ab l2).length)(r:Rs×Nat×Nat×Nat×Bool)(hr:ax b kd le l1 l2 (Lm p)=r):S1 37 [.ptr 0 0 0,.agg ([dG kd,bD la,nD le]++fA q1 l1++fA q2 l2)] [⟨[.sl false n 1 (b.map dB),iD pi,iD 0], 88,false⟩] (kp r) [⟨[.sl false n 1 (b.map dB),nD r.1.p,nD r.1.e], 88,false⟩]:=by
 have k:=hK.k
 subst hpi hr
 exact IY b n hn (by omega) (Lm p) (fun _=>hp) kd le la (by omega) (by omega) l1 l2 hK.t1 hK.t2 q1 q2 hq1 hq2
theorem vX {r:Rs×Nat×Nat×Nat×Bool}(h:r.1.e=0):Jy r=(r.2.1,r.2.2.1,r.2.2.2.1,r.2.2.2.2,r.1.p,0):=(aw _ _).trans (if_neg (by omega))
theorem JB {r:Rs×Nat×Nat×Nat×Bool}(h:r.1.e≠0):Jy r=(0,0,0,false,0,r.1.e):=(aw _ _).trans (if_pos h)
theorem ME (b:List UInt8)(n:Nat)(hn:n=b.length)(hN:n≤131072)(p:Nat)(hp:p≤8*n)(kd le:Nat)(la:Bool)(l1 l2:List UInt8)(hK:KdV kd le l1 l2)(q1 q2:Nat)(hq1:q1=(ab l1).length)(hq2:q2=(ab l2).length)(r:Rs×Nat×Nat×Nat×Bool)(hr:ax b kd le l1 l2 (Lm p)=r):S0 14 [.agg ([dG kd,bD la,nD le]++fA q1 l1++fA q2 l2),.sl false n 1 (b.map dB),nD p] [] (QM (Jy r)) []:=by
 refine SpecH.run T_ok ai Try.func14 rfl rfl rfl trivial rfl 1000 64 (fun R ok=>(.s 17 (.f (decide (131072<(n:Int))) Ew (.s 13 (.ow (8*(n:Int)) (.s 4 (.f (decide (8*(n:Int)<p)) Ew (.s 24 (.call 13 false [] (true) wr ([UA [aQ kd,D.v (.bool la),zN le,zN (aa l1 0),zN (aa l1 1),zN (aa l1 2),zN (aa l1 3),zN (aa l1 4),zN (aa l1 5),zN (aa l1 6),zN (aa l1 7),zN (aa l1 8),zN (aa l1 9),zN (aa l1 10),zN (aa l1 11),zN (aa l1 12),zN (aa l1 13),zN (aa l1 14),zN (aa l1 15),TL false q1 1 (map nD (ab l1)),zN (aa l2 0),zN (aa l2 1),zN (aa l2 2),zN (aa l2 3),zN (aa l2 4),zN (aa l2 5),zN (aa l2 6),zN (aa l2 7),zN (aa l2 8),zN (aa l2 9),zN (aa l2 10),zN (aa l2 11),zN (aa l2 12),zN (aa l2 13),zN (aa l2 14),zN (aa l2 15),TL false q2 1 (map nD (ab l2))]]) _ (by exact(qr trivial)) (true) wr _ _ _ (TW (az.of Try.func13 rfl rfl) (@vW (kd) (le) (la) (l1) (l2) (q1) (q2) om om om)) (.s 11 (.call 37 true [200] (true) wr ([TF 0 0 0,UA [aQ kd,D.v (.bool la),zN le,zN (aa l1 0),zN (aa l1 1),zN (aa l1 2),zN (aa l1 3),zN (aa l1 4),zN (aa l1 5),zN (aa l1 6),zN (aa l1 7),zN (aa l1 8),zN (aa l1 9),zN (aa l1 10),zN (aa l1 11),zN (aa l1 12),zN (aa l1 13),zN (aa l1 14),zN (aa l1 15),TL false q1 1 (map nD (ab l1)),zN (aa l2 0),zN (aa l2 1),zN (aa l2 2),zN (aa l2 3),zN (aa l2 4),zN (aa l2 5),zN (aa l2 6),zN (aa l2 7),zN (aa l2 8),zN (aa l2 9),zN (aa l2 10),zN (aa l2 11),zN (aa l2 12),zN (aa l2 13),zN (aa l2 14),zN (aa l2 15),TL false q2 1 (map nD (ab l2))]]) _ (by exact(qr (qr trivial))) (true) wr _ _ _ (TW (az.of Try.func37 rfl rfl) (@JA (b) (n) om om (p) aD ((p:Int)) om (kd) (le) (la) (l1) (l2) om (q1) (q2) om om (r) aD)) (.s 19 (.br ((↑(Rs.e (Ty r)):Int) !=0) (fun p0=>have p0f:=bE p0;(.s 20 (.out [] [] (Uw [UA [bI 0,zI 0,zI 0],D.v (.bool false),zI 0,zN (Rs.e (Ty r))]) [] R (ok _ _ (by(rw[JB om];rfl)) wr)))) (fun p0=>have p0f:=bF p0;(.s 23 (.out [] [] (Uw [UA [aQ (Ty (Tm r)),zN (Ty (Tm (Tm r))),zN (Ty (Tm (Tm (Tm r))))],D.v (.bool (Tm (Tm (Tm (Tm r))))),zN (Rs.p (Ty r)),zI 0]) [] R (ok _ _ (by(rw[vX om];rfl)) wr))))))))))))))))) kr
theorem JC (b:List UInt8)(n:Nat)(hn:n=b.length)(hN:n≤131072)(p:Nat)(hp:p≤8*n)(pi:Int)(hpi:pi=p)(H:Hd)(hH:gv b (Lm p)=H):S1 34 [.ptr 0 0 0] [⟨[.sl false n 1 (b.map dB),iD pi,iD 0], 88,false⟩] (.agg ([dG H.kd,bD H.la,nD H.le]++(cZ (aa H.l1)++[.ref 1 1 0 (ab H.l1).length 1])++(cZ (aa H.l2)++[.ref 2 2 0 (ab H.l2).length 1]))) [⟨[.sl false n 1 (b.map dB),nD H.s.p,nD H.s.e], 88,false⟩,⟨(ab H.l1).map nD, 3,true⟩,⟨(ab H.l2).map nD, 3,true⟩]:=by
 subst hpi hH
 exact A7 b n hn (by omega) (Lm p) (fun _=>hp)
theorem QS (b:List UInt8)(n:Nat)(hn:n=b.length)(hN:n≤131072)(p:Nat)(hp:p≤8*n)(H:Hd)(hH:gv b (Lm p)=H)(h:H.s.e=0):S0 12 [.sl false n 1 (b.map dB),nD p] [] (.tup [.agg ([dG H.kd,bD H.la,nD H.le]++(cZ (aa H.l1)++[.ref 0 0 0 (ab H.l1).length 1])++(cZ (aa H.l2)++[.ref 1 1 0 (ab H.l2).length 1])),nD H.s.p,iD 0]) [⟨(ab H.l1).map nD, 3,true⟩,⟨(ab H.l2).map nD, 3,true⟩]:=by
 refine SpecH.run T_ok ai Try.func12 rfl rfl rfl ⟨rY _ (fun _=>rfl) _,rY _ (fun _=>rfl) _,trivial⟩ rfl 1000 64 (fun R ok=>(.s 14 (.f (decide (131072<(n:Int))) Ew (.s 13 (.ow (8*(n:Int)) (.s 4 (.f (decide (8*(n:Int)<p)) Ew (.s 21 (.cl 34 true [184] (.fn SO (@JC (b) (n) om om (p) aD ((p:Int)) om (H) aD)) (.s 13 (.f ((↑(Rs.e (Hd.s H)):Int) !=0) (by(simp <;>(omega))) (.s 21 (.out [296,297] [296,297] (Uw [UA [aQ (Hd.kd H),D.v (.bool (Hd.la H)),zN (Hd.le H),zN (aa (Hd.l1 H) 0),zN (aa (Hd.l1 H) 1),zN (aa (Hd.l1 H) 2),zN (aa (Hd.l1 H) 3),zN (aa (Hd.l1 H) 4),zN (aa (Hd.l1 H) 5),zN (aa (Hd.l1 H) 6),zN (aa (Hd.l1 H) 7),zN (aa (Hd.l1 H) 8),zN (aa (Hd.l1 H) 9),zN (aa (Hd.l1 H) 10),zN (aa (Hd.l1 H) 11),zN (aa (Hd.l1 H) 12),zN (aa (Hd.l1 H) 13),zN (aa (Hd.l1 H) 14),zN (aa (Hd.l1 H) 15),Tu 0 0 0 (length (ab (Hd.l1 H))) 1,zN (aa (Hd.l2 H) 0),zN (aa (Hd.l2 H) 1),zN (aa (Hd.l2 H) 2),zN (aa (Hd.l2 H) 3),zN (aa (Hd.l2 H) 4),zN (aa (Hd.l2 H) 5),zN (aa (Hd.l2 H) 6),zN (aa (Hd.l2 H) 7),zN (aa (Hd.l2 H) 8),zN (aa (Hd.l2 H) 9),zN (aa (Hd.l2 H) 10),zN (aa (Hd.l2 H) 11),zN (aa (Hd.l2 H) 12),zN (aa (Hd.l2 H) 13),zN (aa (Hd.l2 H) 14),zN (aa (Hd.l2 H) 15),Tu 1 1 0 (length (ab (Hd.l2 H))) 1],zN (Rs.p (Hd.s H)),zI 0]) [Tq (map nD (ab (Hd.l1 H))) 3 true,Tq (map nD (ab (Hd.l2 H))) 3 true] R (ok _ _ (by exact rfl) wr)))))))))))))) kr
end Vp
end Go.Proofs.Ytefjnofhgkjpmaa
namespace Go.Proofs.Ytefjnofhgkjpmaa
open Go.RowKit Go.Bw Go.Vx
namespace Vp
section
variable {b:List UInt8} {p:Nat}
theorem xp {l:List UInt8}(hl:l.length≤320):∀(f a d p:Nat),mr b (cF l) f a d p=mr b l f a d p
 |0,_,_,_=>rfl
 |f+1,a,d,p=>by
  rw[mr,mr,mp hl,nI hl,mq hl,nI hl,xp hl f]
theorem Ex {l:List UInt8}(hl:l.length≤320)(p:Nat):ee b (cF l) p=ee b l p:=by rw[mv,mv,xp hl]
theorem ru {l:List UInt8}(hl:l.length≤320)(s:Rs):aH b (cF l) s=aH b l s∧aR b (cF l) s=aR b l s:=by
 by_cases h:s.e=0
 ·rw[pR h,pR h,mO h,mO h,Ex hl];exact⟨rfl,rfl⟩
 ·rw[tM h,tM h,mN h,mN h];exact⟨rfl,rfl⟩
theorem xq {kd le:Nat}{l1 l2:List UInt8}(h1:l1.length≤320)(h2:l2.length≤320)(s:Rs):ax b kd le (cF l1) (cF l2) s=ax b kd le l1 l2 s:=by
 unfold ax
 rw[aw,aw]
 unfold Al
 rw[(ru h1 s).1,(ru h1 s).2,(ru h2 _).1,(ru h2 _).2]
theorem tY {l:List UInt8}(hl:l.length≤320):aa (cF l)=aa l∧ab (cF l)=ab l:=⟨funext fun n=>nI hl n,mq hl⟩
structure RdB (b:List UInt8)(kd le:Nat)(l1 l2:List UInt8)(T:List Tn)(pos:Nat→Nat)(fin:Nat):Prop where
 st:∀j,j<T.length→ax b kd (le-j) l1 l2 ⟨pos j,0⟩=(⟨pos (j+1),0⟩,(T.getD j mb).lit.toNat,(T.getD j mb).dist,(T.getD j mb).long,false)
 en:ax b kd (le-T.length) l1 l2 ⟨pos T.length,0⟩=(⟨fin,0⟩,0,0,0,true)
 ps:∀j,j≤T.length→pos j≤8*b.length
theorem Bo {A B:List UInt8}{kd:Nat}(hk:kd≠0){l:List Tn}(hl:∀t∈l,sZ t)(hO:∀t∈l,Jh A B t)(hE:CdO A 256){Y:List Bool}(h:St b p (bs (l.flatMap (my au aA (ae A) (ae B)))++(bs (fW (ae A) 256 0 0)++Y))):RdB b kd 0 A B l (fun j=>p+(bs ((l.take j).flatMap (my au aA (ae A) (ae B)))).length) (p+(bs (l.flatMap (my au aA (ae A) (ae B)))).length+(bs (fW (ae A) 256 0 0)).length):=by
 have cut:∀j,j≤l.length→St b (p+(bs ((l.take j).flatMap (my au aA (ae A) (ae B)))).length) (bs ((l.drop j).flatMap (my au aA (ae A) (ae B)))++(bs (fW (ae A) 256 0 0)++Y)):=fun j _=>by
  have e:l.flatMap (my au aA (ae A) (ae B))=(l.take j).flatMap (my au aA (ae A) (ae B))++(l.drop j).flatMap (my au aA (ae A) (ae B)):=by rw[←UV,Vo]
  rw[e,b6,TG]at h
  exact h.app.2
 refine⟨fun j hj=>?_,?_,fun j hj=>?_⟩
 ·have c:=cut j (by omega)
  have e:l.drop j=l.getD j mb::l.drop (j+1):=by
   rw[UK hj,To,Ts hj];rfl
  have e2:l.take (j+1)=l.take j++[l.getD j mb]:=by
   rw[T8 hj,To,Ts hj];rfl
  have m:l.getD j mb∈l:=by
   rw[To,Ts hj];exact Uo hj
  rw[e,UC,b6,TG]at c
  have ok:=hl _ m
  have q:=Mq (le:=0-j) hk ok.may (hO _ m) c
  refine q.trans ?_
  rw[e2,UV,VE,b6,Tt,UF]
  rcases ok with ok|ok
  ·rw[if_pos ok.1,ok.1,ok.2]
  ·rw[if_neg (by omega),ok.1];rfl
 ·have c:=cut l.length (TD _)
  rw[Yy,List.flatMap_nil,gE,VV]at c
  have q:=Ji (B:=B) (le:=0-l.length) hk hE c
  refine q.trans ?_
  rw[Uy]
 ·exact T6 (V4 _ _) (cut j hj).n
theorem Bp (X:List UInt8):(bs (X.map u7)).length=8*X.length:=by
 induction X with
 |nil=>rfl
 |cons x X ih=>rw[Vq,bw,Tt,ih,u7,bb,T3];show 8+8*X.length=_;omega
theorem JD {raw:List UInt8}{Y:List Bool}(h:St b p (bs (raw.map u7)++Y)):RdB b 0 raw.length [] [] (raw.map fun x=>⟨x,0,0⟩) (fun j=>p+8*j) (p+8*raw.length):=by
 have cut:∀j,j≤raw.length→St b (p+8*j) (bs ((raw.drop j).map u7)++Y):=fun j hj=>by
  have e:raw.map u7=(raw.take j).map u7++(raw.drop j).map u7:=by rw[←Uq,Vo]
  rw[e,b6,TG]at h
  have q:=h.app.2
  rwa [Bp,TR,W6 hj]at q
 refine⟨fun j hj=>?_,?_,fun j hj=>?_⟩
 ·rw[TH]at hj
  have c:=cut j (by omega)
  have e:raw.drop j=raw.getD j mb::raw.drop (j+1):=by
   rw[UK hj,To,Ts hj];rfl
  have g:(raw.map fun x=>(⟨x,0,0⟩:Tn)).getD j mb=⟨raw.getD j mb,0,0⟩:=by
   rw[To,TN,To,Ts hj];rfl
  rw[e,Vq,bw,TG]at c
  rw[g]
  exact(Mr (A:=[]) (B:=[]) (le:=raw.length-j) (by omega) c).trans (by rw[show p+8*j+8=p+8*(j+1)from by omega])
 ·rw[TH,UJ,AU rfl (V1 0)]
 ·rw[TH]at hj
  exact T6 (V4 _ _) (cut j hj).n
def P7 (kd:Nat)(raw:List UInt8)(l:List Tn):List Tn:=if kd=0 then raw.map (fun x=>⟨x,0,0⟩)else l
theorem JE {kd:Nat}(hkd:kd≤2){e:Nat}(he:e≤1){raw:List UInt8}(hr:raw.length≤65535){l:List Tn}(hk:l.length≤65535)(hl:∀t∈l,sZ t){Y:List Bool}(h:St b p (bs (kI (p%8) kd raw l e)++Y)):∃(le p0:Nat) (l1 l2:List UInt8) (pos:Nat→Nat),gv b ⟨p,0⟩=⟨⟨p0,0⟩,kd,((e:Nat):Int)==1,le,l1,l2⟩∧l1.length≤320∧l2.length≤320∧aC l1 15=0∧aC l2 15=0∧pos 0=p0∧(kd=0→le≤65535∧l1=[]∧l2=[])∧(kd≠0→le=0)∧RdB b kd le l1 l2 (P7 kd raw l) pos (p+(bs (kI (p%8) kd raw l e)).length):=by
 unfold P7
 rw[ko]at h ⊢
 by_cases h0:kd=0
 ·rw[if_pos h0]at h ⊢
  rw[if_pos h0]
  subst h0
  obtain⟨q1,q2⟩:=Mx he hr h
  have len:(bs (nL e (p%8) raw)).length=35+hU (p%8)+8*raw.length:=by
   have eS:nL e (p%8) raw=jW e 0++([⟨0,hU (p%8)⟩,⟨raw.length,16⟩,⟨65535-raw.length,16⟩]++raw.map u7):=by
    unfold nL;rw[iM,T9 (TD _)];rfl
   rw[eS,b6,b6,Tt,Tt,Bp,jW,bw,bw,gE,bw,bw,bw,gE,Ue,Ue,Tt,Tt,Tt,bb,bb,bb,bb,bb]
   show 1+2+(hU (p%8)+(16+16)+8*raw.length)=_
   omega
  have R:=JD q2
  rw[len,show p+(35+hU (p%8)+8*raw.length)=p+35+hU (p%8)+8*raw.length from by omega]
  exact⟨_,_,_,_,_,q1,T7 _,T7 _,by decide,by decide,rfl,fun _=>⟨hr,rfl,rfl⟩,fun q=>absurd rfl q,R⟩
 ·rw[if_neg h0]at h ⊢
  rw[if_neg h0]
  by_cases h1:kd=1
  ·rw[if_pos h1]at h ⊢
   subst h1
   rw[i8,iN,Uy,b6,b6,TG,TG]at h
   rw[i8,iN,Uy,b6,b6,Tt,Tt]
   have q1:=Mw he h
   have h2:=h.app.2
   have hl3:(bs (jW e 1)).length=3:=by rw[jW,bw,bw,gE,Ue,Tt,bb,bb];rfl
   rw[hl3]at h2 ⊢
   have R:=Bo (A:=bz) (B:=cU) (kd:=1) (by decide) hl (fun t ht=>Jn (hl t ht).may) (Bg (by decide)) h2
   rw[show p+(3+(bs (l.flatMap (my au aA (ae bz) (ae cU)))).length+(bs (fW (ae bz) 256 0 0)).length)=p+3+(bs (l.flatMap (my au aA (ae bz) (ae cU)))).length+(bs (fW (ae bz) 256 0 0)).length from by omega]
   exact⟨_,_,_,_,_,q1,by rw[lZ];decide,by rw[oa];decide,cr,ez,rfl,fun q=>absurd q (by decide),fun _=>rfl,R⟩
  ·rw[if_neg h1]at h ⊢
   have h2:kd=2:=by omega
   subst h2
   have G:=Ak l hk
   have D:=QL hk
   rw[i9,iN,Uy,b6,b6,TG,TG]at h
   rw[i9,iN,Uy,b6,b6,Tt,Tt]
   have q1:=Mv he hk h
   have h2:=h.app.2
   have R:=Bo (A:=dc l) (B:=eV l) (kd:=2) (by decide) hl (fun t ht=>Jk hk ht (hl t ht).may) (vS hk) h2
   rw[show p+((bs (tG e l)).length+(bs (l.flatMap (my au aA (ae (dc l)) (ae (eV l))))).length+(bs (fW (ae (dc l)) 256 0 0)).length)=p+(bs (tG e l)).length+(bs (l.flatMap (my au aA (ae (dc l)) (ae (eV l))))).length+(bs (fW (ae (dc l)) 256 0 0)).length from by omega]
   have n1:=D.n1
   have n2:=D.n2
   exact⟨_,_,_,_,_,q1,by omega,by omega,G.cL,G.cB,rfl,fun q=>absurd q (by decide),fun _=>rfl,R⟩
end
end Vp
end Go.Proofs.Ytefjnofhgkjpmaa
namespace Go.Proofs.Ytefjnofhgkjpmaa
open Go.RowKit Go.Bw Go.Vx
open List (length getD map take drop flatMap replicate)
namespace Vp
theorem Ln {p:Prop}(h:p:=by(simp[aZ,dl,bg];have y1:=hX 0;have y2:=eF (X:=X) (i:=0) (n:=X.length) om;have y5:=jf P;have y6:=aG (bS (pT P) (X.getD 0 mb).v (X.getD 0 mb).n);rw[bU]at y6;have y7:=iX (t:=pT P) (v:=(X.getD 0 mb).v) (n:=(X.getD 0 mb).n) (w:=(((pT P).length+(X.getD 0 mb).n)/8)) rfl;have y8:=eH (A:=pA P) (t:=pT P) (v:=(X.getD 0 mb).v) (n:=(X.getD 0 mb).n) (w:=(((pT P).length+(X.getD 0 mb).n)/8)) (ry P) rfl;have y9:=je P;have y4:=aG (pA P);omega)):p:=h
theorem QT {p:Prop}(h:p:=by(rw[dA];refine Tv ?_;(omega))):p:=h
theorem Sv {p:Prop}(h:p:=by(have y1:=hX 0;have y2:=eF (X:=X) (i:=0) (n:=X.length) om;have y5:=jf P;have y6:=aG (bS (pT P) (X.getD 0 mb).v (X.getD 0 mb).n);rw[bU]at y6;have y7:=iX (t:=pT P) (v:=(X.getD 0 mb).v) (n:=(X.getD 0 mb).n) (w:=(((pT P).length+(X.getD 0 mb).n)/8)) rfl;have y8:=eH (A:=pA P) (t:=pT P) (v:=(X.getD 0 mb).v) (n:=(X.getD 0 mb).n) (w:=(((pT P).length+(X.getD 0 mb).n)/8)) (ry P) rfl;have y9:=je P;have y4:=aG (pA P);simp only[TH,TR,Ub,Uh,Tw,Xj,Vs];omega)):p:=h
theorem Sw {p:Prop}(h:p:=by(have y1:=hX 0;have y2:=eF (X:=X) (i:=0) (n:=X.length) om;have y5:=jf P;have y6:=aG (bS (pT P) (X.getD 0 mb).v (X.getD 0 mb).n);rw[bU]at y6;have y7:=iX (t:=pT P) (v:=(X.getD 0 mb).v) (n:=(X.getD 0 mb).n) (w:=(((pT P).length+(X.getD 0 mb).n)/8)) rfl;have y8:=eH (A:=pA P) (t:=pT P) (v:=(X.getD 0 mb).v) (n:=(X.getD 0 mb).n) (w:=(((pT P).length+(X.getD 0 mb).n)/8)) (ry P) rfl;have y9:=je P;have y4:=aG (pA P);omega)):p:=h
theorem Sx {p:Prop}(h:p:=by(have q:=t0 P (k:=((P.length:Int)/8).toNat) om;first|(simp;done)|simpa using q)):p:=h
theorem Sz {p:Prop}(h:p:=by(have y1:=hX i;have y2:=eF (X:=X) (i:=i) (n:=X.length) om;have y3:=dg (P:=P) (X:=X) i om;have y4:=congrArg length hB;rw[Tt]at y4;have y5:=aG A;have y6:=aG (bS t (X.getD i mb).v (X.getD i mb).n);rw[bU]at y6;have y7:=iX (t:=t) (v:=(X.getD i mb).v) (n:=(X.getD i mb).n) (w:=((t.length+(X.getD i mb).n)/8)) rfl;have y8:=eH (A:=A) (t:=t) (v:=(X.getD i mb).v) (n:=(X.getD i mb).n) (w:=((t.length+(X.getD i mb).n)/8)) hA rfl;omega)):p:=h
theorem SA {p:Prop}(h:p:=by(have y4:=congrArg length hB2;rw[Tt,dg X.length (TD _)]at y4;have y5:=aG A2;have y6:=congrArg length hZ2.h;rw[TR,Ul,aG]at y6;have y3:=dg (P:=P) (X:=X) X.length (TD _);have y7:=aG (tf P X X.length);omega)):p:=h
structure OfV (a kd:Nat)(raw:List UInt8)(r:Nat)(l:List Tn)(k:Nat)(last:Bool)(X:List Nm):Prop where
 s:S0 29 [nD a,dG kd,.sl false r 1 (raw.map dB),.sl false k 3 (l.flatMap bm),bD last] [] (.ptr 0 0 0) [⟨[.ref 1 1 0 X.length 2], 78,false⟩,⟨X.flatMap bh, 81,true⟩]
 ok:∀i,(X.getD i mb).v<2^(X.getD i mb).n∧(X.getD i mb).n≤32
 len:X.length≤1000000
theorem QU (P:List Bool)(kd:Nat)(raw:List UInt8)(r:Nat)(l:List Tn)(k:Nat)(last:Bool)(X:List Nm)(hO:OfV (P.length%8) kd raw r l k last X):S0 29 [iD ((P.length:Int)%8),dG kd,.sl false r 1 (raw.map dB),.sl false k 3 (l.flatMap bm),bD last] [] (.ptr 0 0 0) [⟨[.ref 1 1 0 X.length 2], 78,false⟩,⟨X.flatMap bh, 81,true⟩]:=by
 have h:=hO.s
 rwa [show nD (P.length%8)=iD ((P.length:Int)%8)from congrArg (fun z=>D.v (.int .i64 z)) (by omega)]at h
def tf (P:List Bool)(X:List Nm)(i:Nat):List Bool:=lk X (P++(X.take i).flatMap fun x=>nb x.v x.n)
theorem rv (P:List Bool)(X:List Nm)(i:Nat):tf P X i=P++(X.take i).flatMap fun x=>nb x.v x.n:=aw _ _
theorem Gx (P:List Bool)(X:List Nm):tf P X 0=P:=by rw[rv];exact Ue _
theorem Gy {P:List Bool}{X:List Nm}{i:Nat}(h:i<X.length):tf P X (i+1)=tf P X i++nb (X.getD i mb).v (X.getD i mb).n:=by
 have e1:X.take (i+1)=X.take i++[X.getD i mb]:=by
  rw[T8 h,To,Ts h];rfl
 rw[rv,rv,e1,UV,VE,TG]
theorem dg {P:List Bool}{X:List Nm}:∀i,i≤X.length→(tf P X i).length=P.length+qQ X i
 |0,_=>by rw[Gx];rfl
 |i+1,h=>by rw[Gy (by omega),Tt,bb,dg i (by omega),qQ,UF]
theorem tZ (X:List Nm)(i:Nat):∀k,qQ X i≤qQ X (i+k)
 |0=>TD _
 |k+1=>T6 (tZ X i k) (by show _≤qQ X (i+k)+_;omega)
theorem eF {X:List Nm}{i n:Nat}(h:i<n):qQ X i+(X.getD i mb).n≤qQ X n:=by
 have:=tZ X (i+1) (n-(i+1))
 rw[show i+1+(n-(i+1))=n from by omega]at this
 exact this
structure PkE (Y:List UInt8)(l:List Bool):Prop where
 h:Y=pk l
theorem Gz (l:List Bool)(Y:List UInt8)(hY:PkE Y l)(m:Nat)(hm:m=Y.length)(v n:Nat)(hn:n≤32)(hv:v<2^n)(hl:l.length+n≤8388608):S0 32 [.agg [.sl false m 1 (Y.map dB),nD l.length],.v (.int .u32 (v:Int)),nD n] [] (.tup [.agg [.ref 0 0 0 (pk (bS l v n)).length 1,nD (l.length+n)],iD 0]) [⟨(pk (bS l v n)).map dB, 5,true⟩]:=by
 obtain⟨hY⟩:=hY;subst hY;exact Ov l m hm v n hn hv hl
theorem MF (P l:List Bool)(Y:List UInt8)(hY:PkE Y l)(hl8:l.length=P.length%8)(m:Nat)(hm:m=Y.length)(v n:Nat)(hn:n≤32)(hv:v<2^n)(hl:l.length+n≤8388608):S0 32 [.agg [.sl false m 1 (Y.map dB),iD ((P.length:Int)%8)],.v (.int .u32 (v:Int)),nD n] [] (.tup [.agg [.ref 0 0 0 (pk (bS l v n)).length 1,nD (l.length+n)],iD 0]) [⟨(pk (bS l v n)).map dB, 5,true⟩]:=by
 have h:=Gz l Y hY m hm v n hn hv hl
 rwa [show iD ((P.length:Int)%8)=nD l.length from congrArg (fun z=>D.v (.int .i64 z)) (by omega)]
theorem xu {k g o o' n n':Nat}{x:Int}{y:Nat}{t:TypeId}(h1:o=o')(h2:n=n')(h3:x=((y:Nat):Int)):(⟨[Tu k g o n 1,D.v (.int .i64 x)],t,false⟩:Blk)=⟨[Tu k g o' n' 1,nD y],t,false⟩:=by subst h1 h2 h3;rfl
section
variable {A t:List Bool} {v n w k:Nat}
theorem iX (hw:w=(t.length+n)/8):((bS t v n).take (8*w)).length=8*w∧((bS t v n).drop (8*w)).length=t.length+n-8*w∧t.length+n-8*w<8:=by
 rw[TR,Ul,bU];omega
theorem Bq (hA:A.length%8=0)(hk:k=w)(hw:w=(t.length+n)/8):(pk A).map dB++VO dB (UP k (pk (bS t v n)))=(pk (A++(bS t v n).take (8*w))).map dB:=by
 subst hk
 rw[mj hA,Uq,(lh (l:=bS t v n) (n:=k) (by rw[bU];omega)).2]
theorem eH (hA:A.length%8=0)(hw:w=(t.length+n)/8):(pk (A++(bS t v n).take (8*w))).length=(pk A).length+w:=by
 rw[aG,aG,Tt,(iX hw).1];omega
theorem MG (hA:A.length%8=0)(hw:w=(t.length+n)/8):(A++(bS t v n).take (8*w)).length%8=0:=by
 rw[Tt,(iX hw).1];omega
theorem MH (hw:w=(t.length+n)/8):((bS t v n).drop (8*w)).length<8:=by
 rw[(iX (v:=v) hw).2.1];exact(iX (v:=v) hw).2.2
theorem MI (hw:w=(t.length+n)/8):PkE (UP ((pk (bS t v n)).length-w) (UQ w (pk (bS t v n)))) ((bS t v n).drop (8*w)):=⟨by rw[T9 (by rw[Ul];exact TD _)];exact(lh (l:=bS t v n) (n:=w) (by rw[bU];omega)).1.symm⟩
theorem MJ (hw:w=(t.length+n)/8):w≤(pk (bS t v n)).length:=by rw[aG,bU];omega
theorem MK {P:List Bool}{X:List Nm}{i:Nat}(hB:A++t=tf P X i)(hi:i<X.length)(hv:v=(X.getD i mb).v)(hn:n=(X.getD i mb).n):(A++(bS t v n).take (8*w))++(bS t v n).drop (8*w)=tf P X (i+1):=by
 subst hv hn
 rw[TG,Vo,o6,←TG,hB,Gy hi]
theorem JF {B:List Bool}{o:Nat}{Z:List UInt8}(hA:A.length%8=0)(hB:A++t=B)(hZ:PkE (UP (Z.length-o) (UQ o Z)) t):(pk A).map dB++VO dB (UP (Z.length-o) (UQ o Z))=(pk B).map dB:=by
 subst hB
 rw[hZ.h,mj hA,Uq]
theorem GA (B:List UInt8)(k:Nat):(bif true&&Tx (k*1) (VO dB B).length then VO dB B else UP (k*1) (UQ 0 (VO dB B)))=VO dB (UP k B):=(cO B 0 (k*1)).trans (by simp)
theorem ML (B:List UInt8)(o k:Nat):(bif Tx o 0&&Tx (k*1) (VO dB B).length then VO dB B else UP (k*1) (UQ o (VO dB B)))=VO dB (UP k (UQ o B)):=(cO B o (k*1)).trans (by simp)
theorem GB {n N:Nat}{x:Int}(h:x=n)(h2:n≤N):(aZ (some x) none none N&&true)=true:=by
 subst h;simp[aZ,dl,bg];omega
theorem Ey {n n':Nat}{x:Int}{y:Nat}(h1:n=n')(h2:x=((y:Nat):Int)):Uw [UA [Tu 0 0 0 n 1,D.v (.int .i64 x)],D.v (.int .i64 0)]=Uw [UA [Tu 0 0 0 n' 1,nD y],iD 0]:=by subst h1 h2;rfl
end
def pA (P:List Bool):List Bool:=P.take (8*(P.length/8))
def pT (P:List Bool):List Bool:=P.drop (8*(P.length/8))
theorem je (P:List Bool):(pA P).length=8*(P.length/8):=by unfold pA;rw[TR];omega
theorem jf (P:List Bool):(pT P).length=P.length%8:=by unfold pT;rw[Ul];omega
theorem ry (P:List Bool):(pA P).length%8=0:=by rw[je];omega
theorem Tb (P:List Bool):pA P++pT P=P:=Vo _ _
theorem t0 (P:List Bool){k:Nat}(hk:k=P.length/8):PkE (UQ k (pk P)) (pT P):=by
 subst hk;exact⟨(lh (l:=P) (n:=P.length/8) (by omega)).1.symm⟩
theorem MM (P:List Bool){k:Nat}(hk:k=P.length/8):UP k (pk P)=pk (pA P):=by
 subst hk;exact(lh (l:=P) (n:=P.length/8) (by omega)).2.symm
theorem Ez (l:List Tn)(k:Nat)(hk:k=l.length)(hk2:k≤65535)(hl:∀i,sZ (l.getD i mb))(raw:List UInt8)(r:Nat)(hr:r=raw.length)(hr2:r≤65535)(kd:Nat)(hkd:kd≤2):S0 28 [dG kd,.sl false r 1 (raw.map dB),.sl false k 3 (l.flatMap bm)] [] (iD 0) []:=by
 match kd,hkd with
 |0,_=>exact F5 l k hk hk2 hl raw r hr hr2
 |1,_=>exact F6 l k hk hk2 hl raw r hr hr2
 |2,_=>exact F7 l k hk hk2 hl raw r hr hr2
theorem JG (nn:Bool)(X:List Nm)(n:Nat)(hn:n=X.length)(hn2:n≤1000000)(hX:∀i,(X.getD i mb).v<2^(X.getD i mb).n∧(X.getD i mb).n≤32):S0 30 [.ep [.sl nn n 2 (X.flatMap bh)] 0] [] (nD (Fu X)) []:=by
 refine SpecH.run T_ok ai Try.func30 rfl rfl rfl trivial rfl 1000 64 (fun R ok=>(.s 11 (Hn.inl T_ok ai false 20 0 (ap Try.prog 30 0) (fun(x:(i:Nat)×'(hi:i≤n)×'Unit)=>match x with|⟨i,hi,_⟩=>TJ [(2,nD (qQ X i)),(8,TL nn n 2 (flatMap bh X)),(9,zN n),(10,nD i)] [] 0) (fun(x:(i:Nat)×'(hi:i≤n)×'Unit)=>match x with|⟨i,hi,_⟩=>n-i) [⟨Unit,.exit 0,fun x=>match x with|()=>TJ [(2,nD (Fu X)),(8,TL nn n 2 (flatMap bh X)),(9,zN n),(10,nD n)] [] 0⟩] 1000 64 (fun|⟨i,hi,_⟩,Q,next1,last1=>(.s 2 (.bd ((i:Int)<n) (fun p0 p0f=>(.s 1 (.chk (true&&decide ((i:Int)<n)&&true) (by((refine aJ ?_ ?_)<;>(repeat' (first|(refine aJ ?_ ?_)|(with_reducible rfl)|(refine decide_eq_true ?_)|(refine Tv ?_)|(refine fx ?_)))<;>(omega))) (.s 2 (.chk (Tz (i*2+2) (length (flatMap bh X))) QT (.lst (take 2 (drop (i*2) (flatMap bh X))) ([ak (Nm.v (getD X i mb)),zN (Nm.n (getD X i mb))]) (aB (k:=2) (i:=i) (fun _=>rfl) om om) (.s 14 (.op ((↑(qQ X i):Int)+(↑(Nm.n (getD X i mb)):Int)) (by(have h8:=HU (fun i=>(hX i).2) i;have h9:=hX i;omega)) (.s 3 (.ow ((i:Int)+1) (.s 1 (.val 2 (zI ((↑(qQ X i):Int)+(↑(Nm.n (getD X i mb)):Int))) (zN (qQ X (i+1))) (by(refine aT ?_;rw[qQ];omega)) (.val 10 (zI ((i:Int)+1)) (zN (i+1)) (by(refine aT ?_;(omega))) (Hn.next next1 ⟨(i+1),om,⟨⟩⟩ (by show n-(i+1)<n-i;clear next1 last1;omega) [] ro)))))))))))))) (fun p0 p0f=>(.val 2 (zN (qQ X i)) (zN (Fu X)) (by(rw[wN,←hn,show i=n from by omega])) (.val 10 (zN i) (zN n) (by(refine aT ?_;(omega))) (Hn.last last1 0 (():Unit) rfl [] ro))))))) (fun|⟨i,hi,_⟩=>by kernel_rfl) ⟨(0),om,⟨⟩⟩ [] ro (bY (fun|()=>(.s 2 (.out [] [] (zN (Fu X)) [] R (ok _ _ wr wr)))))))) kr
attribute [local simp] dA
theorem Br (P:List Bool)(m:Nat)(hm:m=(pk P).length)(kd:Nat)(raw:List UInt8)(r:Nat)(hr:r=raw.length)(hr2:r≤65535)(l:List Tn)(k:Nat)(hk:k=l.length)(hk2:k≤65535)(hl:∀i,sZ (l.getD i mb))(last:Bool)(X:List Nm)(hO:OfV (P.length%8) kd raw r l k last X)(hN0:0<X.length)(hP:P.length+Fu X≤8388608)(hkd:kd≤2):S0 11 [Kt m P,dG kd,.sl false r 1 (raw.map dB),.sl false k 3 (l.flatMap bm),bD last] [] (.tup [.agg [.ref 0 0 0 (pk (tf P X X.length)).length 1,nD (tf P X X.length).length],iD 0]) [⟨(pk (tf P X X.length)).map dB, 5,true⟩]:=by
 have hX:=hO.ok
 have hXl:=hO.len
 have hPl:=aG P
 have hS:=wN X
 have hp0:=t0 P (k:=((P.length:Int)/8).toNat) (by omega)
 have hcl:af (X.flatMap bh)=true:=fy (fun _=>rfl) X
 refine SpecH.run T_ok ai Try.func11 rfl rfl rfl ⟨cM _,trivial⟩ rfl 1000 64 (fun R ok=>(.s 10 (.cl 26 false [] (.fn Qe (@wH (P) (m) om om)) (.s 9 (.cl 28 false [] (.fn SN (@Ez (l) (k) om om om (raw) (r) om om (kd) om)) (.s 13 (.opt (b4 Uf (We (↑(length P):Int) 8)) (zI ((↑(length P):Int)%8)) (aS (@fm  ((↑(length P):Int)) (8) om)) (.s 5 (.cl 29 false [] (.fn Tc (@QU (P) (kd) (raw) (r) (l) (k) (last) (X) aD)) (.s 10 (.call 30 false [] (true&&(true&&(true&&Tz (0+length X*2) (length (flatMap bh X))&&true&&af (bif true&&Tx (length X*2) (length (flatMap bh X))then flatMap bh X else take (length X*2) (drop 0 (flatMap bh X)))&&true))&&true) (by(simp only[dA,T0,Uz,VM,cond_true,Ub,Uh,hcl,Vs];omega)) ([D.ep [TL (Tz 1 (length X)) (length X) 2 (bif true&&Tx (length X*2) (length (flatMap bh X))then flatMap bh X else take (length X*2) (drop 0 (flatMap bh X)))] 0]) _ (by exact(Ut (D.sim.of_eq (by(rw[dA];simp;done))) trivial)) (true) wr _ _ _ (TW (az.of Try.func30 rfl rfl) (@JG (Tz 1 (length X)) (X) (length X) om om om)) (.s 2 (.ow ((↑(length P):Int)+(↑(Fu X):Int)) (.s 2 (.f (decide (8388608<(↑(length P):Int)+(↑(Fu X):Int))) Ln (.s 8 (.opt (b4 Uf (TM Uf (Xl (↑(length P):Int) 8))) (zI ((↑(length P):Int)/8)) (aS (@dv  ((↑(length P):Int)) (8) om om)) (.s 9 (.chk (aZ none (some ((↑(length P):Int)/8)) none m&&true) Ln (.s 1 (.call 31 false [] (true) wr ([TL false (zK ((↑(length P):Int)/8)) 1 (take (zK ((↑(length P):Int)/8)*1) (map dB (pk P)))]) _ (by exact(Ut (D.sim.slw rfl (by(have q:=t0 P (k:=((P.length:Int)/8).toNat) om;first|(simp;done)|simpa using q))) trivial)) (true) wr _ _ _ (TW (az.of Try.func31 rfl rfl) (@HH (take (zK ((↑(length P):Int)/8)) (pk P)) (zK ((↑(length P):Int)/8)) Sv om)) (.s 10 (.chk (aZ (some ((↑(length P):Int)/8)) none none m&&true) Ln (.s 8 (.opt (b4 Uf (We (↑(length P):Int) 8)) (zI ((↑(length P):Int)%8)) (aS (@fm  ((↑(length P):Int)) (8) om)) (.s 17 (.two (.s 2 (.t (decide (0<(↑(length X):Int))) Ln (.s 1 (.chk (true&&decide (0<(↑(length X):Int))) Ln (.s 2 (.chk (Tz 2 (length (flatMap bh X))) QT (.lst (take 2 (drop 0 (flatMap bh X))) ([ak (Nm.v (getD X 0 mb)),zN (Nm.n (getD X 0 mb))]) (aB (k:=2) (i:=0) (fun _=>rfl) om om) (.s 22 (.call 32 false [] (true) wr ([UA [TL false (m-zK ((↑(length P):Int)/8)) 1 (drop (zK ((↑(length P):Int)/8)*1) (map dB (pk P))),zI ((↑(length P):Int)%8)],ak (Nm.v (getD X 0 mb)),zN (Nm.n (getD X 0 mb))]) _ (by exact(Ut (D.sim.agg (Ut (D.sim.slw rfl (by(have q:=t0 P (k:=((P.length:Int)/8).toNat) om;first|(simp;done)|simpa using q))) (qr trivial))) (qr (qr trivial)))) (true) wr _ _ _ (TW (az.of Try.func32 rfl rfl) (@MF (P) (pT P) (drop (zK ((↑(length P):Int)/8)) (pk P)) aD (by(exact jf P)) (m-zK ((↑(length P):Int)/8)) Ln (Nm.v (getD X 0 mb)) (Nm.n (getD X 0 mb)) (by(exact(hX _).2)) (by(exact(hX _).1)) Sw)) (.s 16 (.opt (b4 Uf (TM Uf (Xl (↑(length (pT P)+Nm.n (getD X 0 mb)):Int) 8))) (zI ((↑(length (pT P)+Nm.n (getD X 0 mb)):Int)/8)) (aS (@dv  ((↑(length (pT P)+Nm.n (getD X 0 mb)):Int)) (8) Sw om)) (.s 10 (.chk (aZ none (some ((↑(length (pT P)+Nm.n (getD X 0 mb)):Int)/8)) none (length (pk (bS (pT P) (Nm.v (getD X 0 mb)) (Nm.n (getD X 0 mb)))))&&true) (by(have y1:=hX 0;have y2:=eF (X:=X) (i:=0) (n:=X.length) om;have y5:=jf P;have y6:=aG (bS (pT P) (X.getD 0 mb).v (X.getD 0 mb).n);rw[bU]at y6;have y7:=iX (t:=pT P) (v:=(X.getD 0 mb).v) (n:=(X.getD 0 mb).n) (w:=(((pT P).length+(X.getD 0 mb).n)/8)) rfl;have y8:=eH (A:=pA P) (t:=pT P) (v:=(X.getD 0 mb).v) (n:=(X.getD 0 mb).n) (w:=(((pT P).length+(X.getD 0 mb).n)/8)) (ry P) rfl;have y9:=je P;have y4:=aG (pA P);exact yJ (n:=(((pT P).length+(X.getD 0 mb).n)/8)) om om)) (.s 1 (.chk (true&&Tx (zK ((↑(length P):Int)/8)*1) (length (map dB (take (zK ((↑(length P):Int)/8)) (pk P))))&&true&&(true&&Tz (0+zK ((↑(length (pT P)+Nm.n (getD X 0 mb)):Int)/8)*1) (length (map dB (pk (bS (pT P) (Nm.v (getD X 0 mb)) (Nm.n (getD X 0 mb)))))))&&true&&true&&Tz ((zK ((↑(length P):Int)/8)+zK ((↑(length (pT P)+Nm.n (getD X 0 mb)):Int)/8))*1) 140737488355328) Sv (.s 10 (.chk (aZ (some ((↑(length (pT P)+Nm.n (getD X 0 mb)):Int)/8)) none none (length (pk (bS (pT P) (Nm.v (getD X 0 mb)) (Nm.n (getD X 0 mb)))))&&true) (by(have y1:=hX 0;have y2:=eF (X:=X) (i:=0) (n:=X.length) om;have y5:=jf P;have y6:=aG (bS (pT P) (X.getD 0 mb).v (X.getD 0 mb).n);rw[bU]at y6;have y7:=iX (t:=pT P) (v:=(X.getD 0 mb).v) (n:=(X.getD 0 mb).n) (w:=(((pT P).length+(X.getD 0 mb).n)/8)) rfl;have y8:=eH (A:=pA P) (t:=pT P) (v:=(X.getD 0 mb).v) (n:=(X.getD 0 mb).n) (w:=(((pT P).length+(X.getD 0 mb).n)/8)) (ry P) rfl;have y9:=je P;have y4:=aG (pA P);exact GB (n:=(((pT P).length+(X.getD 0 mb).n)/8)) om om)) (.s 8 (.opt (b4 Uf (We (↑(length (pT P)+Nm.n (getD X 0 mb)):Int) 8)) (zI ((↑(length (pT P)+Nm.n (getD X 0 mb)):Int)%8)) (aS (@fm  ((↑(length (pT P)+Nm.n (getD X 0 mb)):Int)) (8) om)) (.s 9 (.val 16 (Tu 640 640 0 (zK ((↑(length P):Int)/8)+zK ((↑(length (pT P)+Nm.n (getD X 0 mb)):Int)/8)) 1) (Tu 640 640 0 (length (pk (pA P++take (8*((length (pT P)+Nm.n (getD X 0 mb))/8)) (bS (pT P) (Nm.v (getD X 0 mb)) (Nm.n (getD X 0 mb)))))) 1) (by(refine congrArg (fun n=>Tu _ _ 0 n 1) ?_;have y1:=hX 0;have y2:=eF (X:=X) (i:=0) (n:=X.length) om;have y5:=jf P;have y6:=aG (bS (pT P) (X.getD 0 mb).v (X.getD 0 mb).n);rw[bU]at y6;have y7:=iX (t:=pT P) (v:=(X.getD 0 mb).v) (n:=(X.getD 0 mb).n) (w:=(((pT P).length+(X.getD 0 mb).n)/8)) rfl;have y8:=eH (A:=pA P) (t:=pT P) (v:=(X.getD 0 mb).v) (n:=(X.getD 0 mb).n) (w:=(((pT P).length+(X.getD 0 mb).n)/8)) (ry P) rfl;have y9:=je P;have y4:=aG (pA P);omega)) (.blk 384 384 (Tq [Tu 528 528 (0+zK ((↑(length (pT P)+Nm.n (getD X 0 mb)):Int)/8)*1) (length (pk (bS (pT P) (Nm.v (getD X 0 mb)) (Nm.n (getD X 0 mb))))-zK ((↑(length (pT P)+Nm.n (getD X 0 mb)):Int)/8)) 1,zI ((↑(length (pT P)+Nm.n (getD X 0 mb)):Int)%8)] 26 false) (Tq [Tu 528 528 ((length (pT P)+Nm.n (getD X 0 mb))/8) (length (pk (bS (pT P) (Nm.v (getD X 0 mb)) (Nm.n (getD X 0 mb))))-(length (pT P)+Nm.n (getD X 0 mb))/8) 1,zN (length (drop (8*((length (pT P)+Nm.n (getD X 0 mb))/8)) (bS (pT P) (Nm.v (getD X 0 mb)) (Nm.n (getD X 0 mb)))))] 26 false) (by(refine xu ?_ ?_ ?_<;>(have y1:=hX 0;have y2:=eF (X:=X) (i:=0) (n:=X.length) om;have y5:=jf P;have y6:=aG (bS (pT P) (X.getD 0 mb).v (X.getD 0 mb).n);rw[bU]at y6;have y7:=iX (t:=pT P) (v:=(X.getD 0 mb).v) (n:=(X.getD 0 mb).n) (w:=(((pT P).length+(X.getD 0 mb).n)/8)) rfl;have y8:=eH (A:=pA P) (t:=pT P) (v:=(X.getD 0 mb).v) (n:=(X.getD 0 mb).n) (w:=(((pT P).length+(X.getD 0 mb).n)/8)) (ry P) rfl;have y9:=je P;have y4:=aG (pA P);omega))) (.blk 640 640 (Tq (map dB (take (zK ((↑(length P):Int)/8)) (pk P))++bif true&&Tx (zK ((↑(length (pT P)+Nm.n (getD X 0 mb)):Int)/8)*1) (length (map dB (pk (bS (pT P) (Nm.v (getD X 0 mb)) (Nm.n (getD X 0 mb))))))then map dB (pk (bS (pT P) (Nm.v (getD X 0 mb)) (Nm.n (getD X 0 mb))))else take (zK ((↑(length (pT P)+Nm.n (getD X 0 mb)):Int)/8)*1) (drop 0 (map dB (pk (bS (pT P) (Nm.v (getD X 0 mb)) (Nm.n (getD X 0 mb))))))) 5 true) (Tq (map dB (pk (pA P++take (8*((length (pT P)+Nm.n (getD X 0 mb))/8)) (bS (pT P) (Nm.v (getD X 0 mb)) (Nm.n (getD X 0 mb)))))) 5 true) (by(rw[MM P om,GA];refine ay (Bq (ry P) ?_ rfl);omega)) (Hn.inl T_ok ai false 113 0 (ap Try.prog 11 0) (fun(x:(i:Nat)×'(A:List Bool)×'(t:List Bool)×'(Z:List UInt8)×'(o:Nat)×'(hi:1≤i∧i≤X.length)×'(hA:A.length%8=0)×'(ht:t.length<8)×'(hB:A++t=tf P X i)×'(hZ:PkE (take (Z.length-o) (drop o Z)) t)×'(ho:o≤Z.length)×'Unit)=>match x with|⟨i,A,t,Z,o,hi,hA,ht,hB,hZ,ho,_⟩=>TJ [(10,TF 0 0 0),(16,(Tu 32 32 (0) ((pk A).length) 1)),(17,TF 16 16 0),(69,Tu 8 8 0 (length X) 2),(70,zN (length X)),(71,nD i)] [⟨0,0,8,8,.b ⟨[zS,zI 0],26,false⟩⟩,⟨8,8,177,177,.b ⟨flatMap bh X,81,true⟩⟩,⟨16,16,384,384,.b ⟨[(Tu 24 24 (o) (Z.length-o) 1),nD t.length],26,false⟩⟩,⟨24,24,528,528,.b ⟨Z.map dB,5,true⟩⟩,⟨32,32,640,640,.b ⟨(pk A).map dB,5,true⟩⟩] 40) (fun(x:(i:Nat)×'(A:List Bool)×'(t:List Bool)×'(Z:List UInt8)×'(o:Nat)×'(hi:1≤i∧i≤X.length)×'(hA:A.length%8=0)×'(ht:t.length<8)×'(hB:A++t=tf P X i)×'(hZ:PkE (take (Z.length-o) (drop o Z)) t)×'(ho:o≤Z.length)×'Unit)=>match x with|⟨i,A,t,Z,o,hi,hA,ht,hB,hZ,ho,_⟩=>X.length-i) [⟨(A2:List Bool)×'(t2:List Bool)×'(Z2:List UInt8)×'(o2:Nat)×'(hA2:A2.length%8=0)×'(hB2:A2++t2=tf P X X.length)×'(hZ2:PkE (take (Z2.length-o2) (drop o2 Z2)) t2)×'(ho2:o2≤Z2.length)×'Unit,.exit 0,fun x=>match x with|⟨A2,t2,Z2,o2,hA2,hB2,hZ2,ho2,_⟩=>TJ [(10,TF 0 0 0),(16,(Tu 32 32 (0) ((pk A2).length) 1)),(17,TF 16 16 0),(69,Tu 8 8 0 (length X) 2),(70,zN (length X))] [⟨0,0,8,8,.b ⟨[zS,zI 0],26,false⟩⟩,⟨8,8,177,177,.b ⟨flatMap bh X,81,true⟩⟩,⟨16,16,384,384,.b ⟨[(Tu 24 24 (o2) (Z2.length-o2) 1),nD t2.length],26,false⟩⟩,⟨24,24,528,528,.b ⟨Z2.map dB,5,true⟩⟩,⟨32,32,640,640,.b ⟨(pk A2).map dB,5,true⟩⟩] 40⟩] 1000 64 (fun|⟨i,A,t,Z,o,hi,hA,ht,hB,hZ,ho,_⟩,Q,next1,last1=>(.s 2 (.bd ((i:Int)<(↑(length X):Int)) (fun p0 p0f=>(.s 1 (.chk (true&&decide ((i:Int)<(↑(length X):Int))) aD (.s 2 (.chk (Tz (0+i*2+2) (length (flatMap bh X))) QT (.lst (take 2 (drop (0+i*2) (flatMap bh X))) ([ak (Nm.v (getD X i mb)),zN (Nm.n (getD X i mb))]) (aB (k:=2) (i:=i) (fun _=>rfl) om om) (.s 22 (.call 32 false [] (true&&(true&&Tz (o+(length Z-o)*1) (length (map dB Z))&&true&&af (bif Tx o 0&&Tx ((length Z-o)*1) (length (map dB Z))then map dB Z else take ((length Z-o)*1) (drop o (map dB Z))))&&true&&true) (by(simp[aZ,dl,bg];have y1:=hX i;have y2:=eF (X:=X) (i:=i) (n:=X.length) om;have y3:=dg (P:=P) (X:=X) i om;have y4:=congrArg length hB;rw[Tt]at y4;have y5:=aG A;have y6:=aG (bS t (X.getD i mb).v (X.getD i mb).n);rw[bU]at y6;have y7:=iX (t:=t) (v:=(X.getD i mb).v) (n:=(X.getD i mb).n) (w:=((t.length+(X.getD i mb).n)/8)) rfl;have y8:=eH (A:=A) (t:=t) (v:=(X.getD i mb).v) (n:=(X.getD i mb).n) (w:=((t.length+(X.getD i mb).n)/8)) hA rfl;omega)) ([UA [TL (Tz 1 (length Z-o)) (length Z-o) 1 (bif Tx o 0&&Tx ((length Z-o)*1) (length (map dB Z))then map dB Z else take ((length Z-o)*1) (drop o (map dB Z))),zN (length t)],ak (Nm.v (getD X i mb)),zN (Nm.n (getD X i mb))]) _ (by exact(Ut (D.sim.agg (Ut (D.sim.slw rfl ((cO (Z) (o) ((length Z-o)*1)).trans (by(have q:=t0 P (k:=((P.length:Int)/8).toNat) om;first|(simp;done)|simpa using q)))) (qr trivial))) (qr (qr trivial)))) (true) wr _ _ _ (TW (az.of Try.func32 rfl rfl) (@Gz (t) (take (length Z-o) (drop o Z)) om (length Z-o) Sx (Nm.v (getD X i mb)) (Nm.n (getD X i mb)) (by(exact(hX _).2)) (by(exact(hX _).1)) Sz)) (.s 16 (.opt (b4 Uf (TM Uf (Xl (↑(length t+Nm.n (getD X i mb)):Int) 8))) (zI ((↑(length t+Nm.n (getD X i mb)):Int)/8)) (aS (@dv  ((↑(length t+Nm.n (getD X i mb)):Int)) (8) Sz om)) (.s 10 (.chk (aZ none (some ((↑(length t+Nm.n (getD X i mb)):Int)/8)) none (length (pk (bS t (Nm.v (getD X i mb)) (Nm.n (getD X i mb)))))&&true) (by(have y1:=hX i;have y2:=eF (X:=X) (i:=i) (n:=X.length) om;have y3:=dg (P:=P) (X:=X) i om;have y4:=congrArg length hB;rw[Tt]at y4;have y5:=aG A;have y6:=aG (bS t (X.getD i mb).v (X.getD i mb).n);rw[bU]at y6;have y7:=iX (t:=t) (v:=(X.getD i mb).v) (n:=(X.getD i mb).n) (w:=((t.length+(X.getD i mb).n)/8)) rfl;have y8:=eH (A:=A) (t:=t) (v:=(X.getD i mb).v) (n:=(X.getD i mb).n) (w:=((t.length+(X.getD i mb).n)/8)) hA rfl;exact yJ (n:=((t.length+(X.getD i mb).n)/8)) om om)) (.s 1 (.chk (true&&Tx (length (pk A)*1) (length (map dB (pk A)))&&true&&(true&&Tz (0+zK ((↑(length t+Nm.n (getD X i mb)):Int)/8)*1) (length (map dB (pk (bS t (Nm.v (getD X i mb)) (Nm.n (getD X i mb)))))))&&true&&true&&Tz ((length (pk A)+zK ((↑(length t+Nm.n (getD X i mb)):Int)/8))*1) 140737488355328) (by(have y1:=hX i;have y2:=eF (X:=X) (i:=i) (n:=X.length) om;have y3:=dg (P:=P) (X:=X) i om;have y4:=congrArg length hB;rw[Tt]at y4;have y5:=aG A;have y6:=aG (bS t (X.getD i mb).v (X.getD i mb).n);rw[bU]at y6;have y7:=iX (t:=t) (v:=(X.getD i mb).v) (n:=(X.getD i mb).n) (w:=((t.length+(X.getD i mb).n)/8)) rfl;have y8:=eH (A:=A) (t:=t) (v:=(X.getD i mb).v) (n:=(X.getD i mb).n) (w:=((t.length+(X.getD i mb).n)/8)) hA rfl;simp only[TH,TR,Ub,Uh,Tw,Xj,Vs];omega)) (.s 10 (.chk (aZ (some ((↑(length t+Nm.n (getD X i mb)):Int)/8)) none none (length (pk (bS t (Nm.v (getD X i mb)) (Nm.n (getD X i mb)))))&&true) (by(have y1:=hX i;have y2:=eF (X:=X) (i:=i) (n:=X.length) om;have y3:=dg (P:=P) (X:=X) i om;have y4:=congrArg length hB;rw[Tt]at y4;have y5:=aG A;have y6:=aG (bS t (X.getD i mb).v (X.getD i mb).n);rw[bU]at y6;have y7:=iX (t:=t) (v:=(X.getD i mb).v) (n:=(X.getD i mb).n) (w:=((t.length+(X.getD i mb).n)/8)) rfl;have y8:=eH (A:=A) (t:=t) (v:=(X.getD i mb).v) (n:=(X.getD i mb).n) (w:=((t.length+(X.getD i mb).n)/8)) hA rfl;exact GB (n:=((t.length+(X.getD i mb).n)/8)) om om)) (.s 8 (.opt (b4 Uf (We (↑(length t+Nm.n (getD X i mb)):Int) 8)) (zI ((↑(length t+Nm.n (getD X i mb)):Int)%8)) (aS (@fm  ((↑(length t+Nm.n (getD X i mb)):Int)) (8) om)) (.s 7 (.ow ((i:Int)+1) (.s 1 (.val 16 (Tu 232 232 0 (length (pk A)+zK ((↑(length t+Nm.n (getD X i mb)):Int)/8)) 1) (Tu 232 232 0 (length (pk (A++take (8*((length t+Nm.n (getD X i mb))/8)) (bS t (Nm.v (getD X i mb)) (Nm.n (getD X i mb)))))) 1) (by(refine congrArg (fun n=>Tu _ _ 0 n 1) ?_;have y1:=hX i;have y2:=eF (X:=X) (i:=i) (n:=X.length) om;have y3:=dg (P:=P) (X:=X) i om;have y4:=congrArg length hB;rw[Tt]at y4;have y5:=aG A;have y6:=aG (bS t (X.getD i mb).v (X.getD i mb).n);rw[bU]at y6;have y7:=iX (t:=t) (v:=(X.getD i mb).v) (n:=(X.getD i mb).n) (w:=((t.length+(X.getD i mb).n)/8)) rfl;have y8:=eH (A:=A) (t:=t) (v:=(X.getD i mb).v) (n:=(X.getD i mb).n) (w:=((t.length+(X.getD i mb).n)/8)) hA rfl;omega)) (.val 71 (zI ((i:Int)+1)) (zN (i+1)) Sx (.blk 16 16 (Tq [Tu 120 120 (0+zK ((↑(length t+Nm.n (getD X i mb)):Int)/8)*1) (length (pk (bS t (Nm.v (getD X i mb)) (Nm.n (getD X i mb))))-zK ((↑(length t+Nm.n (getD X i mb)):Int)/8)) 1,zI ((↑(length t+Nm.n (getD X i mb)):Int)%8)] 26 false) (Tq [Tu 120 120 ((length t+Nm.n (getD X i mb))/8) (length (pk (bS t (Nm.v (getD X i mb)) (Nm.n (getD X i mb))))-(length t+Nm.n (getD X i mb))/8) 1,zN (length (drop (8*((length t+Nm.n (getD X i mb))/8)) (bS t (Nm.v (getD X i mb)) (Nm.n (getD X i mb)))))] 26 false) (by(refine xu ?_ ?_ ?_<;>(have y1:=hX i;have y2:=eF (X:=X) (i:=i) (n:=X.length) om;have y3:=dg (P:=P) (X:=X) i om;have y4:=congrArg length hB;rw[Tt]at y4;have y5:=aG A;have y6:=aG (bS t (X.getD i mb).v (X.getD i mb).n);rw[bU]at y6;have y7:=iX (t:=t) (v:=(X.getD i mb).v) (n:=(X.getD i mb).n) (w:=((t.length+(X.getD i mb).n)/8)) rfl;have y8:=eH (A:=A) (t:=t) (v:=(X.getD i mb).v) (n:=(X.getD i mb).n) (w:=((t.length+(X.getD i mb).n)/8)) hA rfl;omega))) (.blk 232 232 (Tq (map dB (pk A)++bif true&&Tx (zK ((↑(length t+Nm.n (getD X i mb)):Int)/8)*1) (length (map dB (pk (bS t (Nm.v (getD X i mb)) (Nm.n (getD X i mb))))))then map dB (pk (bS t (Nm.v (getD X i mb)) (Nm.n (getD X i mb))))else take (zK ((↑(length t+Nm.n (getD X i mb)):Int)/8)*1) (drop 0 (map dB (pk (bS t (Nm.v (getD X i mb)) (Nm.n (getD X i mb))))))) 5 true) (Tq (map dB (pk (A++take (8*((length t+Nm.n (getD X i mb))/8)) (bS t (Nm.v (getD X i mb)) (Nm.n (getD X i mb)))))) 5 true) (by(rw[GA];refine ay (Bq hA ?_ rfl);omega)) (Hn.next next1 ⟨(i+1),(A++(bS t (X.getD i mb).v (X.getD i mb).n).take (8*((t.length+(X.getD i mb).n)/8))),((bS t (X.getD i mb).v (X.getD i mb).n).drop (8*((t.length+(X.getD i mb).n)/8))),(pk (bS t (X.getD i mb).v (X.getD i mb).n)),(((t.length+(X.getD i mb).n)/8)),om,(by(exact MG hA rfl)),(by(exact MH rfl)),(by(exact MK hB om rfl rfl)),(by(exact MI rfl)),(by(exact MJ rfl)),⟨⟩⟩ (by show length X-(i+1)<length X-i;clear next1 last1;omega) [(0,0),(8,8),(16,16),(120,120),(232,232)] ro)))))))))))))))))))))))))) (fun p0 p0f=>(Hn.last last1 0 (⟨(A),(t),(Z),(o),om,(by(rw[hB,show i=X.length from by omega])),om,om,⟨⟩⟩:(A2:List Bool)×'(t2:List Bool)×'(Z2:List UInt8)×'(o2:Nat)×'(hA2:A2.length%8=0)×'(hB2:A2++t2=tf P X X.length)×'(hZ2:PkE (take (Z2.length-o2) (drop o2 Z2)) t2)×'(ho2:o2≤Z2.length)×'Unit) rfl [(0,0),(8,8),(16,16),(24,24),(32,32)] ro))))) (fun|⟨i,A,t,Z,o,hi,hA,ht,hB,hZ,ho,_⟩=>by kernel_rfl) ⟨(1),(pA P++(bS (pT P) (X.getD 0 mb).v (X.getD 0 mb).n).take (8*(((pT P).length+(X.getD 0 mb).n)/8))),((bS (pT P) (X.getD 0 mb).v (X.getD 0 mb).n).drop (8*(((pT P).length+(X.getD 0 mb).n)/8))),(pk (bS (pT P) (X.getD 0 mb).v (X.getD 0 mb).n)),((((pT P).length+(X.getD 0 mb).n)/8)),om,(by(exact MG (ry P) rfl)),(by(exact MH rfl)),(by(exact MK (A:=pA P) (t:=pT P) (by rw[Tb,Gx]) om rfl rfl)),(by(exact MI rfl)),(by(exact MJ rfl)),⟨⟩⟩ [(8,8),(177,177),(384,384),(528,528),(640,640)] ro (bY (fun|⟨A2,t2,Z2,o2,hA2,hB2,hZ2,ho2,_⟩=>(.s 9 (.chk (true&&Tx (length (pk A2)*1) (length (map dB (pk A2)))&&true&&(true&&Tz (o2+(length Z2-o2)*1) (length (map dB Z2)))&&true&&true&&Tz ((length (pk A2)+(length Z2-o2))*1) 140737488355328) (by(have y4:=congrArg length hB2;rw[Tt,dg X.length (TD _)]at y4;have y5:=aG A2;have y6:=congrArg length hZ2.h;rw[TR,Ul,aG]at y6;have y3:=dg (P:=P) (X:=X) X.length (TD _);have y7:=aG (tf P X X.length);simp only[TH,TR,Ub,Uh,Tw,Xj,Vs];omega)) (.s 4 (.op (8*(↑(length (pk A2)):Int)) SA (.s 8 (.op (8*(↑(length (pk A2)):Int)+(↑(length t2):Int)) SA (.s 9 (.out [64] [64] (Uw [UA [Tu 0 0 0 (length (pk A2)+(length Z2-o2)) 1,zI (8*(↑(length (pk A2)):Int)+(↑(length t2):Int))],zI 0]) [Tq (map dB (pk A2)++bif Tx o2 0&&Tx ((length Z2-o2)*1) (length (map dB Z2))then map dB Z2 else take ((length Z2-o2)*1) (drop o2 (map dB Z2))) 5 true] R (ok _ _ (by(have y4:=congrArg length hB2;rw[Tt,dg X.length (TD _)]at y4;have y5:=aG A2;have y6:=congrArg length hZ2.h;rw[TR,Ul,aG]at y6;have y3:=dg (P:=P) (X:=X) X.length (TD _);have y7:=aG (tf P X X.length);refine Ey ?_ ?_<;>(first|omega|(rw[show IntKind.i64.wrap (8*((pk A2).length:Int))=8*((pk A2).length:Int)from Oe om,Oe om];omega)))) (by(rw[ML];exact congrArg (fun z=>[Tq z 5 true]) (JF hA2 hB2 hZ2)))))))))))))))))))))))))))))))))))))) .nil))))))))))))))))))))))))))) kr
end Vp
end Go.Proofs.Ytefjnofhgkjpmaa
namespace Go.Proofs.Ytefjnofhgkjpmaa
open Go.RowKit Go.Bw Go.Vx
namespace Vp
def sm (X:List Nm):Nat:=(X.map Nm.n).sum
theorem gG (X Y:List Nm):sm (X++Y)=sm X+sm Y:=by unfold sm;rw[Uq,List.sum_append]
theorem rz (x:Nm)(X:List Nm):sm (x::X)=x.n+sm X:=by unfold sm;rw[Vq,List.sum_cons]
theorem JH:sm []=0:=rfl
theorem Bs (X:List Nm):∀i,i≤X.length→qQ X i=sm (X.take i)
 |0,_=>rfl
 |i+1,h=>by
  have e1:X.take (i+1)=X.take i++[X.getD i mb]:=by
   rw[T8 h,To,Ts h];rfl
  rw[qQ,Bs X i (by omega),e1,gG,rz,JH,VD]
theorem Bt (X:List Nm):Fu X=sm X:=by rw[wN,Bs X _ (TD _),T9 (TD _)]
theorem t6 {c:Nat}:∀{X:List Nm},(∀x∈X,x.n≤c)→sm X≤c*X.length
 |[],_=>T7 _
 |x::X,h=>by
  have:=h x TP
  have ih:=t6 fun y hy=>h y (TU _ hy)
  rw[rz,T3,V2];omega
theorem GC {α:Type}{g:α→List Nm}{c:Nat}:∀{l:List α},(∀x∈l,sm (g x)≤c)→sm (l.flatMap g)≤c*l.length
 |[],_=>T7 _
 |x::l,h=>by
  have:=h x TP
  have ih:=GC fun y hy=>h y (TU _ hy)
  rw[UC,gG,T3,V2];omega
theorem oi {C:List (Nat×Nat)}(hC:pc C)(s n x:Nat):sm (fW C s n x)≤15+n:=by
 have:=(hC s).1
 show(C.getD s mb).2+(n+0)≤_
 omega
theorem MN {A B:List (Nat×Nat)}(hA:pc A)(hB:pc B)(t:Tn):sm (my au aA A B t)≤56:=by
 unfold my
 split
 ·exact T6 (oi hA _ _ _) (by decide)
 ·have s1:=(cb (ao au t.long)).1
  have s2:=(cv (ao aA t.dist)).1
  have a:=oi hA (257+ao au t.long) (au.getD (ao au t.long) mb).bits (t.long-(au.getD (ao au t.long) mb).least)
  have b:=oi hB (ao aA t.dist) (aA.getD (ao aA t.dist) mb).bits (t.dist-(aA.getD (ao aA t.dist) mb).least)
  rw[gG];omega
theorem rA {A B:List (Nat×Nat)}(hA:pc A)(hB:pc B)(H:List Nm)(l:List Tn):sm (aY au aA A B H l l.length)≤sm H+56*l.length:=by
 rw[iN,gG,T9 (TD _)]
 have:=GC (g:=my au aA A B) (c:=56) (l:=l) fun t _=>MN hA hB t
 omega
theorem Bu {a kd:Nat}{raw:List UInt8}{l:List Tn}{e:Nat}(he:e≤1)(hr:raw.length≤65535)(hk:l.length≤65535):sm (kI a kd raw l e)≤3800000:=by
 rw[ko]
 split
 ·have h1:=AH (a:=a) he hr
  unfold nL at h1 ⊢
  rw[iM,gG]
  have h2:sm ((raw.take raw.length).map u7)≤8*((raw.take raw.length).map u7).length:=t6 fun x hx=>by
   obtain⟨y,_,rfl⟩:=List.mem_map.1 hx;exact TD 8
  rw[TH,TR,Yl]at h2
  have h3:=rg a
  have h4:sm (Ql e a raw.length)=1+(2+(hU a+(16+(16+0)))):=rfl
  omega
 ·split
  ·rw[i8,gG]
   have h1:=rA (dW cr) (dW ez) (jW e 1) l
   have h2:=oi (dW cr) 256 0 0
   have h3:sm (jW e 1)=3:=rfl
   omega
  ·have G:=Ak l hk
   rw[i9,gG]
   have h1:=rA G.oL G.oB (tG e l) l
   have h2:=oi G.oL 256 0 0
   have h3:=t6 (c:=32) (X:=tG e l) fun x hx=>(ny he hk x hx).2
   have h4:=rh (e:=e) hk
   omega
def EA (P:List Bool)(kd:Nat)(raw:List UInt8)(l:List Tn)(e:Nat):List Bool:=lk P (P++(kI (P.length%8) kd raw l e).flatMap fun x=>nb x.v x.n)
theorem Bv (P:List Bool)(kd:Nat)(raw:List UInt8)(l:List Tn)(e:Nat):EA P kd raw l e=P++(kI (P.length%8) kd raw l e).flatMap fun x=>nb x.v x.n:=aw _ _
theorem Bx (P:List Bool)(kd:Nat)(raw:List UInt8)(l:List Tn)(e:Nat):tf P (kI (P.length%8) kd raw l e) (kI (P.length%8) kd raw l e).length=EA P kd raw l e:=by
 rw[rv,Bv,T9 (TD _)]
theorem t7:∀X:List Nm,(X.flatMap fun x=>nb x.v x.n).length=sm X
 |[]=>rfl
 |x::X=>by rw[UC,Tt,bb,t7 X,rz]
theorem GD {a kd:Nat}(ha:a≤7)(hkd:kd≤2){raw:List UInt8}{r:Nat}(hr:r=raw.length)(hr2:r≤65535){l:List Tn}{k:Nat}(hk:k=l.length)(hk2:k≤65535)(hl:∀i,sZ (l.getD i mb))(last:Bool):OfV a kd raw r l k last (kI a kd raw l (if last then 1 else 0)):=by
 subst hr hk
 have he:(if last then 1 else 0)≤1:=by cases last<;>decide
 exact⟨QB a kd ha hkd raw hr2 l hk2 (fun i=>(hl i).may) last,fun i=>IH (IK he hr2 hk2 fun i=>(hl i).may) i,DR hr2 hk2⟩
theorem xv (a kd:Nat)(raw:List UInt8)(l:List Tn)(e:Nat):0<(kI a kd raw l e).length:=by
 rw[ko]
 split
 ·unfold nL;rw[lu (TD _)];omega
 ·split
  ·rw[i8,Tt];exact Ug (by decide) (YQ 2 _)
  ·rw[i9,Tt];exact Ug (by decide) (YQ 2 _)
theorem MO (P:List Bool)(m:Nat)(hm:m=(pk P).length)(hP:P.length≤4000000)(kd:Nat)(hkd:kd≤2)(raw:List UInt8)(r:Nat)(hr:r=raw.length)(hr2:r≤65535)(l:List Tn)(k:Nat)(hk:k=l.length)(hk2:k≤65535)(hl:∀i,sZ (l.getD i mb)):S0 11 [Kt m P,dG kd,.sl false r 1 (raw.map dB),.sl false k 3 (l.flatMap bm),.v (.bool true)] [] (.tup [.agg [.ref 0 0 0 (pk (EA P kd raw l 1)).length 1,nD (EA P kd raw l 1).length],iD 0]) [⟨(pk (EA P kd raw l 1)).map dB, 5,true⟩]:=by
 have hO:=GD (a:=P.length%8) (by omega) hkd hr hr2 hk hk2 hl true
 have hS:=Bu (a:=P.length%8) (kd:=kd) (raw:=raw) (l:=l) (e:=1) (by decide) (by omega) (by omega)
 have h:=Br P m hm kd raw r hr hr2 l k hk hk2 hl true _ hO (xv _ _ _ _ _) (by rw[Bt];show P.length+sm (kI (P.length%8) kd raw l 1)≤_;omega) hkd
 have e1:=Bx P kd raw l 1
 rw[show(if true=true then 1 else 0)=1 from rfl,e1]at h
 exact h
theorem MP (P:List Bool)(m:Nat)(hm:m=(pk P).length)(hP:P.length≤4000000)(kd:Nat)(hkd:kd≤2)(raw:List UInt8)(r:Nat)(hr:r=raw.length)(hr2:r≤65535)(l:List Tn)(k:Nat)(hk:k=l.length)(hk2:k≤65535)(hl:∀i,sZ (l.getD i mb)):S0 11 [Kt m P,dG kd,.sl false r 1 (raw.map dB),.sl false k 3 (l.flatMap bm),.v (.bool false)] [] (.tup [.agg [.ref 0 0 0 (pk (EA P kd raw l 0)).length 1,nD (EA P kd raw l 0).length],iD 0]) [⟨(pk (EA P kd raw l 0)).map dB, 5,true⟩]:=by
 have hO:=GD (a:=P.length%8) (by omega) hkd hr hr2 hk hk2 hl false
 have hS:=Bu (a:=P.length%8) (kd:=kd) (raw:=raw) (l:=l) (e:=0) (by decide) (by omega) (by omega)
 have h:=Br P m hm kd raw r hr hr2 l k hk hk2 hl false _ hO (xv _ _ _ _ _) (by rw[Bt];show P.length+sm (kI (P.length%8) kd raw l 0)≤_;omega) hkd
 have e1:=Bx P kd raw l 0
 rw[show(if false=true then 1 else 0)=0 from rfl,e1]at h
 exact h
attribute [local simp] dA
end Vp
end Go.Proofs.Ytefjnofhgkjpmaa
namespace Go.Proofs.Ytefjnofhgkjpmaa
open Go.RowKit Go.Bw Go.Vx
open List (length getD map take drop flatMap replicate)
namespace Vp
set_option maxRecDepth 100000 in
theorem MQ:tU [75,4,0] 0 9=([97],18,0):=by decide+kernel
set_option maxRecDepth 100000 in
theorem MR:tU [1,3,0,252,255,97,98,99] 0 3=([97,98,99],64,0):=by decide+kernel

theorem JI:S0 42 [.sl false 3 1 (([75,4,0]:List UInt8).map dB),iD 0,iD 9] [] (.tup [.ref 0 0 0 1 1,nD 18,nD 0]) [⟨([97]:List UInt8).map dB, 5,true⟩]:=Gt [75,4,0] 3 rfl (by decide) 0 9 ([97],18,0) MQ
theorem JJ:S0 42 [.sl false 8 1 (([1,3,0,252,255,97,98,99]:List UInt8).map dB),iD 0,iD 3] [] (.tup [.ref 0 0 0 3 1,nD 64,nD 0]) [⟨([97,98,99]:List UInt8).map dB, 5,true⟩]:=Gt [1,3,0,252,255,97,98,99] 8 rfl (by decide) 0 3 ([97,98,99],64,0) MR
theorem xw:S0 10 [] [] (.v (.bool true)) []:=by
 refine SpecH.run T_ok ai Try.func10 rfl rfl rfl trivial rfl 1000 64 (fun R ok=>(.s 9 (.call 42 false [] (true) wr ([TL true 3 1 [bI 75,bI 4,bI 0],zI 0,zI 9]) _ (by exact(Ut (D.sim.slw rfl rfl) (qr (qr trivial)))) (true) wr _ _ _ (TW (az.of Try.func42 rfl rfl) (@JI)) (.s 45 (.call 42 false [] (true) wr ([TL true 8 1 [bI 1,bI 3,bI 0,bI 252,bI 255,bI 97,bI 98,bI 99],zI 0,zI 3]) _ (by exact(Ut (D.sim.slw rfl rfl) (qr (qr trivial)))) (true) wr _ _ _ (TW (az.of Try.func42 rfl rfl) (@JJ)) (.s 37 (.out [] [] (D.v (.bool true)) [] R (ok _ _ wr wr)))))))) kr
end Vp
end Go.Proofs.Ytefjnofhgkjpmaa
namespace Go.Proofs.Ytefjnofhgkjpmaa
open Go.RowKit Go.Bw Go.Vx
namespace Vp
end Vp
end Go.Proofs.Ytefjnofhgkjpmaa
namespace Go.Proofs.Ytefjnofhgkjpmaa
open Go.RowKit Go.Bw Go.Vx
namespace Vp
end Vp
end Go.Proofs.Ytefjnofhgkjpmaa
namespace Go.Proofs.Ytefjnofhgkjpmaa
open Go.RowKit Go.Bw Go.Vx
namespace Vp
end Vp
end Go.Proofs.Ytefjnofhgkjpmaa
namespace Go.Proofs.Ytefjnofhgkjpmaa
open Go.RowKit Go.Bw Go.Vx
namespace Vp
theorem By {al:Bool}{P:Program}{f:FuncId}{ds ds':List D}{hin:List Blk}{r:D}{bs:List Blk}(hs:cj ds ds')(h:SpecH al P f ds' hin r bs):SpecH al P f ds hin r bs:=by
 obtain⟨e,g⟩:=hs.get
 refine⟨h.1,fun O φ w args hO hh hi hl ha=>h.2 O φ w args hO hh hi (hl.trans e) fun j d' u hd hu=>?_⟩
 obtain⟨d,h1,h2⟩:=g j d' hd
 exact h2 _ _ _ (ha j d u h1 hu)
end Vp
end Go.Proofs.Ytefjnofhgkjpmaa
namespace Go.Proofs.Ytefjnofhgkjpmaa
open Go.RowKit Go.Bw Go.Vx
open List (length getD map take drop flatMap replicate)
namespace Vp
theorem pC {p:Prop}(h:p:=by(refine decide_eq_false ?_;(omega))):p:=h
theorem rB {p:Prop}(h:p:=by(simp only[cP,TH,TR];simp;omega)):p:=h
theorem t8 {p:Prop}(h:p:=by(refine decide_eq_true ?_;(omega))):p:=h
theorem Bz {p:Prop}(h:p:=by(refine aT ?_;(omega))):p:=h
theorem EB {p:Prop}(h:p:=by exact(Ut (D.sim.agg (qr (qr (qr (qr (qr (qr (qr (qr (qr (qr (qr (qr (qr (qr (qr (qr (qr (qr (qr (Ut (D.sim.slw rfl (cn (by(simp only[cP,T0,Uz,VM,cond_true,Ub,Uh,hclT,Tw,Vs];simp;done))|>.trans rfl)) (qr (qr (qr (qr (qr (qr (qr (qr (qr (qr (qr (qr (qr (qr (qr (qr (Ut (D.sim.slw rfl (cn (by(simp only[cP,T0,Uz,VM,cond_true,Ub,Uh,hclT,Tw,Vs];simp;done))|>.trans rfl)) trivial)))))))))))))))))))))))))))))))))))))) (Ut (D.sim.slw rfl (cn (by(simp only[cP,TH,TR];simp;omega))|>.trans rfl)) (qr trivial)))):p:=h
theorem JK {p:Prop}(h:p:=by((refine aJ ?_ ?_)<;>(repeat' (first|(refine aJ ?_ ?_)|(with_reducible rfl)|(refine decide_eq_true ?_)|(refine Tv ?_)|(refine fx ?_)))<;>(omega))):p:=h
theorem JL {p:Prop}(h:p:=by(simp only[cP,T0,Uz,VM,cond_true,Ub,Uh,hclT,Tw,Vs];omega)):p:=h
theorem MS {p:Prop}(h:p:=by((refine aT ?_);rcases T5 i j with q|q;(have h9:=hE0 i q;omega);(have e:i=j:=by omega);omega)):p:=h
theorem MT {p:Prop}(h:p:=by exact(Ut (D.sim.slw rfl (cn (by(simp only[cP,TH,TR];simp;omega))|>.trans rfl)) (qr trivial))):p:=h
theorem MU {p:Prop}(h:p:=by(simp only[cP,T0,Uz,VM,cond_true,Ub,Uh,hclT,Tw,Vs];simp;done)):p:=h
theorem GF {p:Prop}(h:p:=by exact(Ut (D.sim.agg (qr (qr (qr (qr (qr (qr (qr (qr (qr (qr (qr (qr (qr (qr (qr (qr (qr (qr (qr (Ut (D.sim.slw rfl (cn (by(simp only[cP,T0,Uz,VM,cond_true,Ub,Uh,hclT,Tw,Vs];simp;done))|>.trans rfl)) (qr (qr (qr (qr (qr (qr (qr (qr (qr (qr (qr (qr (qr (qr (qr (qr (Ut (D.sim.slw rfl (cn (by(simp only[cP,T0,Uz,VM,cond_true,Ub,Uh,hclT,Tw,Vs];simp;done))|>.trans rfl)) trivial)))))))))))))))))))))))))))))))))))))) trivial)):p:=h
theorem GG {p:Prop}(h:p:=by(simp;have h9:=hps j om;have h8:=hps (j+1) om;omega)):p:=h
theorem EC (l:List Vt.Tok):(l.flatMap Vt.tokD).length=l.length*3:=a9 (k:=3) (fun _=>rfl) l
structure WrE (kd:Int)(raw:List UInt8)(r:Nat)(l:List Vt.Tok)(k:Nat)(la:Bool)(e:Int):Prop where
 s:S0 11 [.agg [dT,iD 0],.v (.int .u8 kd),.sl false r 1 (raw.map dB),.sl false k 3 (l.flatMap Vt.tokD),bD la] [] (.tup [.agg [dT,iD 0],iD e]) []
theorem QV (kd:Int)(raw:List UInt8)(r:Nat)(l:List Vt.Tok)(k:Nat)(la:Bool)(e:Int)(h:WrE kd raw r l k la e):S0 11 [.agg [dT,iD 0],.v (.int .u8 kd),.sl false r 1 (raw.map dB),.sl false k 3 (l.flatMap Vt.tokD),bD la] [] (.tup [.agg [dT,iD 0],iD e]) []:=h.s
theorem BA:S0 26 [.agg [dT,iD 0]] [] (iD 0) []:=
 By (ds':=[.agg [.sl false 0 1 ((pk []).map dB),nD ([]:List Bool).length]]) ⟨D.sim.agg ⟨D.sim.nil (by decide),.refl _,trivial⟩,trivial⟩ (wH [] 0 rfl (by decide))
theorem MV (l:List Vt.Tok)(k:Nat)(hk:k=l.length)(hk2:k≤100)(j:Nat)(hj:j<k)(hjl:∀i,i<j→Vt.mayT (l.getD i mb)=true)(hjb:Vt.mayT (l.getD j mb)=false)(kd:Nat)(hkd:kd≤2)(raw:List UInt8)(r:Nat)(hr:r=raw.length)(hr2:r≤200):S0 28 [dG kd,.sl false r 1 (raw.map dB),.sl false k 3 (l.flatMap Vt.tokD)] [] (iD 8) []:=by
 have hE0:∀i,i<j→Vt.errT (l.getD i mb)=0:=fun i h=>by unfold Vt.errT;rw[if_pos (hjl i h)]
 have hE8:Vt.errT (l.getD j mb)=8:=by unfold Vt.errT;rw[if_neg (by rw[hjb];decide)]
 refine SpecH.run T_ok ai Try.func28 rfl rfl rfl trivial rfl 1000 64 (fun R ok=>(.s 4 (.f (decide (2<(kd:Int))) pC (.s 6 (.f (decide (65535<(r:Int))) pC (.s 6 (.f (decide (65535<(k:Int))) pC (.s 12 (Hn.inl T_ok ai false 19 136 (ap Try.prog 71 0) (fun(x:(i:Nat)×'(hi:i≤j)×'Unit)=>match x with|⟨i,hi,_⟩=>TJ [(0,TL false k 3 (flatMap Vt.tokD l)),(1,U9 (Ui 44) [] []),(7,zN k),(8,nD i)] [] 136) (fun(x:(i:Nat)×'(hi:i≤j)×'Unit)=>match x with|⟨i,hi,_⟩=>j-i) [⟨Unit,.ret,fun x=>match x with|()=>TJ [(4,nD j)] [] 136⟩] 1000 64 (fun|⟨i,hi,_⟩,Q,next1,last1=>(.s 2 (.t (decide ((i:Int)<k)) t8 (.s 6 (.chk (true&&decide ((i:Int)<k)&&true) JK (.s 2 (.chk (Tz (i*3+3) (length (flatMap Vt.tokD l))) (by(rw[EC];refine Tv ?_;(omega))) (.lst (take 3 (drop (i*3) (flatMap Vt.tokD l))) ([aQ (Tp (Vt.Tok.lit (getD l i mb))),zI (Vt.Tok.dist (getD l i mb)),zI (Vt.Tok.long (getD l i mb))]) (aB (k:=3) (i:=i) (fun _=>rfl) om om) (.s 10 (.call 45 false [] (true) wr ([UA [aQ (Tp (Vt.Tok.lit (getD l i mb))),zI (Vt.Tok.dist (getD l i mb)),zI (Vt.Tok.long (getD l i mb))]]) _ (by exact(qr trivial)) (true) wr _ _ _ (TW (az.of Try.func45 rfl rfl) (@Go.Proofs.Ytefjnofhgkjpmaa.Vt.check_t (getD l i mb))) (.s 3 (.br (Vt.errT (getD l i mb) !=0) (fun p0=>have p0f:=bE p0;(.s 2 (.val 4 (zN i) (zN j) MS (Hn.last last1 0 (():Unit) rfl [] ro)))) (fun p0=>have p0f:=bF p0;(.s 2 (.ow ((i:Int)+1) (.s 1 (.val 8 (zI ((i:Int)+1)) (zN (i+1)) MS (Hn.next next1 ⟨(i+1),(by(rcases T5 i j with q|q;(have h9:=hE0 i q;omega);(have e:i=j:=by omega);subst e;omega)),⟨⟩⟩ (by show j-(i+1)<j-i;clear next1 last1;(rcases T5 i j with q|q;(have h9:=hE0 i q;omega);(have e:i=j:=by omega);subst e;omega)) [] ro)))))))))))))))))) (fun|⟨i,hi,_⟩=>by kernel_rfl) ⟨(0),om,⟨⟩⟩ [] ro (bY (fun|()=>(.s 5 (.out [] [] (zI 8) [] R (ok _ _ wr wr)))))))))))))) kr
theorem QW (l:List Vt.Tok)(k:Nat)(hk:k=l.length)(hk2:k≤100)(j:Nat)(hj:j<k)(hjl:∀i,i<j→Vt.mayT (l.getD i mb)=true)(hjb:Vt.mayT (l.getD j mb)=false)(kd:Nat)(hkd:kd≤2)(raw:List UInt8)(r:Nat)(hr:r=raw.length)(hr2:r≤200)(la:Bool):S0 11 [.agg [dT,iD 0],dG kd,.sl false r 1 (raw.map dB),.sl false k 3 (l.flatMap Vt.tokD),bD la] [] (.tup [.agg [dT,iD 0],iD 8]) []:=by
 refine SpecH.run T_ok ai Try.func11 rfl rfl rfl trivial rfl 1000 64 (fun R ok=>(.s 10 (.cl 26 false [] (.fn Qe (@BA)) (.s 9 (.cl 28 false [] (.fn SN (@MV (l) (k) om om (j) aD om om (kd) om (raw) (r) om om)) (.s 15 (.out [] [] (Uw [UA [zS,zI 0],zI 8]) [] R (ok _ _ wr wr)))))))) kr
theorem QX (l:List Vt.Tok)(k:Nat)(hk:k=l.length)(hk2:k≤100)(kd:Nat)(hkd:2<kd∧kd≤255)(raw:List UInt8)(r:Nat)(hr:r=raw.length)(hr2:r≤200)(la:Bool):S0 11 [.agg [dT,iD 0],dG kd,.sl false r 1 (raw.map dB),.sl false k 3 (l.flatMap Vt.tokD),bD la] [] (.tup [.agg [dT,iD 0],iD 2]) []:=by
 refine SpecH.run T_ok ai Try.func11 rfl rfl rfl trivial rfl 1000 64 (fun R ok=>(.s 10 (.cl 26 false [] (.fn Qe (@BA)) (.s 14 (.t (decide (2<(kd:Int))) t8 (.s 16 (.out [] [] (Uw [UA [zS,zI 0],zI 2]) [] R (ok _ _ wr wr)))))))) kr
theorem GH (l:List Vt.Tok)(k:Nat)(hk:k=l.length)(hk2:k≤100)(kd:Int)(raw:List UInt8)(r:Nat)(hr:r=raw.length)(hr2:r≤200)(la:Bool)(e:Int)(he:e≠0)(hE:WrE kd raw r l k la e):S0 4 [.v (.int .u8 kd),.sl false r 1 (raw.map dB),.sl false k 3 (l.flatMap Vt.tokD),bD la] [] (.v (.bool true)) []:=by
 refine SpecH.run T_ok ai Try.func4 rfl rfl rfl trivial rfl 1000 64 (fun R ok=>(.s 2 (.cl 10 false [] (.fn Qd (@xw)) (.s 7 (.f (decide (200<(r:Int))) pC (.s 8 (.f (decide (100<(k:Int))) pC (.s 11 (.cl 11 false [] (.fn Q8 (@QV (kd) (raw) (r) (l) (k) (la) (e) aD)) (.s 14 (.t (e !=0) (by(simp <;>(omega))) (.s 2 (.out [] [] (D.v (.bool true)) [] R (ok _ _ wr wr)))))))))))))) kr
theorem MW (l:List Vt.Tok)(k:Nat)(hk:k=l.length)(kd:Int)(raw:List UInt8)(r:Nat)(hr:r=raw.length)(la:Bool)(hG:200<r∨100<k):S0 4 [.v (.int .u8 kd),.sl false r 1 (raw.map dB),.sl false k 3 (l.flatMap Vt.tokD),bD la] [] (.v (.bool true)) []:=by
 refine SpecH.run T_ok ai Try.func4 rfl rfl rfl trivial rfl 1000 64 (fun R ok=>(.s 2 (.cl 10 false [] (.fn Qd (@xw)) (.s 7 (.bd (200<(r:Int)) (fun p0 p0f=>(.s 14 (.out [] [] (D.v (.bool true)) [] R (ok _ _ wr wr)))) (fun p0 p0f=>(.s 8 (.t (decide (100<(k:Int))) t8 (.s 6 (.out [] [] (D.v (.bool true)) [] R (ok _ _ wr wr))))))))))) kr
structure WrV (kd:Nat)(raw:List UInt8)(r:Nat)(l:List Tn)(k:Nat)(la:Bool)(b:List UInt8)(n B:Nat):Prop where
 s:S0 11 [.agg [dT,iD 0],dG kd,.sl false r 1 (raw.map dB),.sl false k 3 (l.flatMap bm),bD la] [] (.tup [.agg [.ref 0 0 0 n 1,nD B],iD 0]) [⟨b.map dB, 5,true⟩]
theorem MX (kd:Nat)(raw:List UInt8)(r:Nat)(l:List Tn)(k:Nat)(la:Bool)(b:List UInt8)(n B:Nat)(h:WrV kd raw r l k la b n B):S0 11 [.agg [dT,iD 0],dG kd,.sl false r 1 (raw.map dB),.sl false k 3 (l.flatMap bm),bD la] [] (.tup [.agg [.ref 0 0 0 n 1,nD B],iD 0]) [⟨b.map dB, 5,true⟩]:=h.s
structure HdV (b:List UInt8)(n kd:Nat)(la:Bool)(le:Nat)(l1 l2:List UInt8)(p0:Nat):Prop where
 s:S0 12 [.sl false n 1 (b.map dB),iD 0] [] (.tup [.agg ([dG kd,bD la,nD le]++(cZ (aa l1)++[.ref 0 0 0 (ab l1).length 1])++(cZ (aa l2)++[.ref 1 1 0 (ab l2).length 1])),nD p0,iD 0]) [⟨(ab l1).map nD, 3,true⟩,⟨(ab l2).map nD, 3,true⟩]
theorem MY (b:List UInt8)(n kd:Nat)(la:Bool)(le:Nat)(l1 l2:List UInt8)(p0:Nat)(h:HdV b n kd la le l1 l2 p0):S0 12 [.sl false n 1 (b.map dB),iD 0] [] (.tup [.agg ([dG kd,bD la,nD le]++(cZ (aa l1)++[.ref 0 0 0 (ab l1).length 1])++(cZ (aa l2)++[.ref 1 1 0 (ab l2).length 1])),nD p0,iD 0]) [⟨(ab l1).map nD, 3,true⟩,⟨(ab l2).map nD, 3,true⟩]:=h.s
theorem KdV.dec {kd le:Nat}{l1 l2:List UInt8}(h:KdV kd le l1 l2){lj:Nat}(hj:lj≤le):KdV kd lj l1 l2:=⟨fun c=>⟨T6 hj (h.a c).1,(h.a c).2⟩,fun c=>by have:=h.b c;exact⟨this.1,by omega,this.2.2⟩,h.t1,h.t2⟩
structure StpV (b:List UInt8)(n kd le:Nat)(la:Bool)(l1 l2:List UInt8)(T:List Tn)(pos:Nat→Nat)(fin:Nat):Prop where
 hn:n=b.length
 hN:n≤131072
 K:KdV kd le l1 l2
 R:RdB b kd le l1 l2 T pos fin
theorem GI (b:List UInt8)(n kd le:Nat)(la:Bool)(l1 l2:List UInt8)(T:List Tn)(pos:Nat→Nat)(fin:Nat)(h:StpV b n kd le la l1 l2 T pos fin)(j:Nat)(hj:j<T.length)(lj:Nat)(hlj:lj=le-j)(q1 q2:Nat)(hq1:q1=(ab l1).length)(hq2:q2=(ab l2).length):S0 14 [.agg ([dG kd,bD la,nD lj]++fA q1 l1++fA q2 l2),.sl false n 1 (b.map dB),nD (pos j)] [] (.tup [.agg (bm (T.getD j mb)),bD false,nD (pos (j+1)),iD 0]) []:=by
 subst hlj
 have hn:=h.hn
 have ps:=h.R.ps j (by omega)
 have q:=ME b n h.hn h.hN (pos j) (by omega) kd (le-j) la l1 l2 (h.K.dec (YZ _ _)) q1 q2 hq1 hq2 _ (h.R.st j hj)
 rwa [vX rfl]at q
theorem GJ (b:List UInt8)(n kd le:Nat)(la:Bool)(l1 l2:List UInt8)(T:List Tn)(pos:Nat→Nat)(fin:Nat)(h:StpV b n kd le la l1 l2 T pos fin)(j:Nat)(hj:j=T.length)(lj:Nat)(hlj:lj=le-j)(q1 q2:Nat)(hq1:q1=(ab l1).length)(hq2:q2=(ab l2).length):S0 14 [.agg ([dG kd,bD la,nD lj]++fA q1 l1++fA q2 l2),.sl false n 1 (b.map dB),nD (pos j)] [] (.tup [.agg [dG 0,nD 0,nD 0],bD true,nD fin,iD 0]) []:=by
 subst hlj hj
 have hn:=h.hn
 have ps:=h.R.ps T.length (TD _)
 have q:=ME b n h.hn h.hN (pos T.length) (by omega) kd (le-T.length) la l1 l2 (h.K.dec (YZ _ _)) q1 q2 hq1 hq2 _ h.R.en
 rwa [vX rfl]at q
theorem ED {raw:List UInt8}{i o:Nat}(ho:o=i)(h:i<raw.length):((raw.take i).map fun x=>(⟨x,0,0⟩:Tn)).flatMap bm++[D.v (.int .u8 ((raw.getD o mb).toNat:Int)),D.v (.int .i64 0),D.v (.int .i64 0)]=((raw.take (i+1)).map fun x=>(⟨x,0,0⟩:Tn)).flatMap bm:=by
 subst ho
 rw[T8 h,Uq,UV,To,Ts h];rfl
theorem xx {T:List Tn}{j:Nat}(h:j<T.length):(T.take (j+1)).flatMap bm=(T.take j).flatMap bm++bm (T.getD j mb):=by
 rw[T8 h,UV,VE,To,Ts h];rfl
theorem BB (T:List Tn)(k k2:Nat)(hk:k=T.length)(hkk:k2=T.length)(hk2:k≤200):S0 15 [.sl false k 3 (T.flatMap bm),.sl false k2 3 (T.flatMap bm)] [] (.v (.bool true)) []:=by
 refine SpecH.run T_ok ai Try.func15 rfl rfl rfl trivial rfl 1000 64 (fun R ok=>(.s 7 (.f ((k:Int) !=(k2:Int)) (by(simp <;>(omega))) (.s 1 (Hn.inl T_ok ai false 26 0 (ap Try.prog 15 0) (fun(x:(i:Nat)×'(hi:i≤k)×'Unit)=>match x with|⟨i,hi,_⟩=>TJ [(0,TL false k 3 (flatMap bm T)),(1,TL false k2 3 (flatMap bm T)),(5,nD i)] [] 0) (fun(x:(i:Nat)×'(hi:i≤k)×'Unit)=>match x with|⟨i,hi,_⟩=>k-i) [⟨Unit,.exit 0,fun x=>match x with|()=>TJ [(0,TL false k 3 (flatMap bm T)),(1,TL false k2 3 (flatMap bm T)),(5,nD k)] [] 0⟩] 1000 64 (fun|⟨i,hi,_⟩,Q,next1,last1=>(.s 5 (.bd ((i:Int)<k) (fun p0 p0f=>(.s 4 (.chk (true&&decide ((i:Int)<k)&&true) JK (.s 2 (.chk (Tz (i*3+3) (length (flatMap bm T))) (by(rw[cP];refine Tv ?_;(omega))) (.lst (take 3 (drop (i*3) (flatMap bm T))) ([aQ (Tp (Tn.lit (getD T i mb))),zN (Tn.dist (getD T i mb)),zN (Tn.long (getD T i mb))]) (aB (k:=3) (i:=i) (fun _=>rfl) om om) (.s 3 (.chk (true&&decide ((i:Int)<k2)&&true) JK (.s 2 (.chk (Tz (i*3+3) (length (flatMap bm T))) (by(rw[cP];refine Tv ?_;(omega))) (.lst (take 3 (drop (i*3) (flatMap bm T))) ([aQ (Tp (Tn.lit (getD T i mb))),zN (Tn.dist (getD T i mb)),zN (Tn.long (getD T i mb))]) (aB (k:=3) (i:=i) (fun _=>rfl) om om) (.s 2 (.f (!((↑(Tp (Tn.lit (getD T i mb))):Int)==(↑(Tp (Tn.lit (getD T i mb))):Int)&&((↑(Tn.dist (getD T i mb)):Int)==(↑(Tn.dist (getD T i mb)):Int)&&((↑(Tn.long (getD T i mb)):Int)==(↑(Tn.long (getD T i mb)):Int)&&true)))) (by(simp;done)) (.s 3 (.ow ((i:Int)+1) (.s 1 (.val 5 (zI ((i:Int)+1)) (zN (i+1)) Bz (Hn.next next1 ⟨(i+1),om,⟨⟩⟩ (by show k-(i+1)<k-i;clear next1 last1;omega) [] ro)))))))))))))))))) (fun p0 p0f=>(.val 5 (zN i) (zN k) Bz (Hn.last last1 0 (():Unit) rfl [] ro)))))) (fun|⟨i,hi,_⟩=>by kernel_rfl) ⟨(0),om,⟨⟩⟩ [] ro (bY (fun|()=>(.s 1 (.out [] [] (D.v (.bool true)) [] R (ok _ _ wr wr)))))))))) kr
theorem MZ (kd:Nat)(hkd:kd≤2)(hk0:kd≠0)(raw:List UInt8)(r:Nat)(hr:r=raw.length)(hr2:r≤200)(l:List Tn)(k:Nat)(hk:k=l.length)(hk2:k≤100)(la:Bool)(b:List UInt8)(n B:Nat)(hW:WrV kd raw r l k la b n B)(le:Nat)(l1 l2:List UInt8)(p0:Nat)(hH:HdV b n kd la le l1 l2 p0)(hK:KdV kd le l1 l2)(pos:Nat→Nat)(N:Nat)(hN:N=l.length)(hN2:N≤200)(hS:StpV b n kd le la l1 l2 l pos B)(h0:pos 0=p0)(hB:B≤8388608):S0 4 [dG kd,.sl false r 1 (raw.map dB),.sl false k 3 (l.flatMap bm),bD la] [] (.v (.bool true)) []:=by
 have hclT:=fun l:List Tn=>(fy (f:=bm) (fun _=>rfl) l)
 have hKk:=hK.k
 have hcl:af (l.flatMap bm)=true:=fy (fun _=>rfl) l
 have hn9:=hS.hn
 have hN9:=hS.hN
 have hps:=hS.R.ps
 refine SpecH.run T_ok ai Try.func4 rfl rfl rfl trivial rfl 1000 64 (fun R ok=>(.s 2 (.cl 10 false [] (.fn Qd (@xw)) (.s 7 (.f (decide (200<(r:Int))) pC (.s 8 (.f (decide (100<(k:Int))) pC (.s 11 (.cl 11 false [] (.fn Q8 (@MX (kd) (raw) (r) (l) (k) (la) (b) (n) (B) aD)) (.s 22 (.call 12 false [] (true&&(true&&Tz (0+n*1) (length (map dB b))&&true&&af (bif true&&Tx (n*1) (length (map dB b))then map dB b else take (n*1) (drop 0 (map dB b))))&&true) rB ([TL (Tz 1 n) n 1 (bif true&&Tx (n*1) (length (map dB b))then map dB b else take (n*1) (drop 0 (map dB b))),zI 0]) _ MT (true) wr _ _ _ (TW (az.of Try.func12 rfl rfl) (@MY (b) (n) (kd) (la) (le) (l1) (l2) (p0) aD)) (.s 34 (.f ((kd:Int) !=(kd:Int)) (by(simp;done)) (.s 14 (.f (!la==la) (by(simp;done)) (.s 5 (.call 13 false [] (true&&(true&&(true&&(true&&(true&&(true&&(true&&(true&&(true&&(true&&(true&&(true&&(true&&(true&&(true&&(true&&(true&&(true&&(true&&(true&&(true&&Tz (0+length (ab l1)*1) (length (map nD (ab l1)))&&true&&af (bif true&&Tx (length (ab l1)*1) (length (map nD (ab l1)))then map nD (ab l1)else take (length (ab l1)*1) (drop 0 (map nD (ab l1)))))&&(true&&(true&&(true&&(true&&(true&&(true&&(true&&(true&&(true&&(true&&(true&&(true&&(true&&(true&&(true&&(true&&(true&&(true&&Tz (0+length (ab l2)*1) (length (map nD (ab l2)))&&true&&af (bif true&&Tx (length (ab l2)*1) (length (map nD (ab l2)))then map nD (ab l2)else take (length (ab l2)*1) (drop 0 (map nD (ab l2)))))&&true))))))))))))))))))))))))))))))))))))&&true) MU ([UA [aQ kd,D.v (.bool la),zN le,zN (aa l1 0),zN (aa l1 1),zN (aa l1 2),zN (aa l1 3),zN (aa l1 4),zN (aa l1 5),zN (aa l1 6),zN (aa l1 7),zN (aa l1 8),zN (aa l1 9),zN (aa l1 10),zN (aa l1 11),zN (aa l1 12),zN (aa l1 13),zN (aa l1 14),zN (aa l1 15),TL (Tz 1 (length (ab l1))) (length (ab l1)) 1 (bif true&&Tx (length (ab l1)*1) (length (map nD (ab l1)))then map nD (ab l1)else take (length (ab l1)*1) (drop 0 (map nD (ab l1)))),zN (aa l2 0),zN (aa l2 1),zN (aa l2 2),zN (aa l2 3),zN (aa l2 4),zN (aa l2 5),zN (aa l2 6),zN (aa l2 7),zN (aa l2 8),zN (aa l2 9),zN (aa l2 10),zN (aa l2 11),zN (aa l2 12),zN (aa l2 13),zN (aa l2 14),zN (aa l2 15),TL (Tz 1 (length (ab l2))) (length (ab l2)) 1 (bif true&&Tx (length (ab l2)*1) (length (map nD (ab l2)))then map nD (ab l2)else take (length (ab l2)*1) (drop 0 (map nD (ab l2))))]]) _ GF (true) wr _ _ _ (TW (az.of Try.func13 rfl rfl) (@vW (kd) (le) (la) (l1) (l2) (length (ab l1)) (length (ab l2)) om om om)) (.s 7 (.nils 15 488 3 50 (.val 13 (zN p0) (zN (pos 0)) (by(rw[h0])) (.blk 288 288 (Tq [aQ kd,D.v (.bool la),zN le,zN (aa l1 0),zN (aa l1 1),zN (aa l1 2),zN (aa l1 3),zN (aa l1 4),zN (aa l1 5),zN (aa l1 6),zN (aa l1 7),zN (aa l1 8),zN (aa l1 9),zN (aa l1 10),zN (aa l1 11),zN (aa l1 12),zN (aa l1 13),zN (aa l1 14),zN (aa l1 15),Tu 248 248 0 (length (ab l1)) 1,zN (aa l2 0),zN (aa l2 1),zN (aa l2 2),zN (aa l2 3),zN (aa l2 4),zN (aa l2 5),zN (aa l2 6),zN (aa l2 7),zN (aa l2 8),zN (aa l2 9),zN (aa l2 10),zN (aa l2 11),zN (aa l2 12),zN (aa l2 13),zN (aa l2 14),zN (aa l2 15),Tu 249 249 0 (length (ab l2)) 1] 45 false) (Tq [aQ kd,D.v (.bool la),zN (le-0),zN (aa l1 0),zN (aa l1 1),zN (aa l1 2),zN (aa l1 3),zN (aa l1 4),zN (aa l1 5),zN (aa l1 6),zN (aa l1 7),zN (aa l1 8),zN (aa l1 9),zN (aa l1 10),zN (aa l1 11),zN (aa l1 12),zN (aa l1 13),zN (aa l1 14),zN (aa l1 15),Tu 248 248 0 (length (ab l1)) 1,zN (aa l2 0),zN (aa l2 1),zN (aa l2 2),zN (aa l2 3),zN (aa l2 4),zN (aa l2 5),zN (aa l2 6),zN (aa l2 7),zN (aa l2 8),zN (aa l2 9),zN (aa l2 10),zN (aa l2 11),zN (aa l2 12),zN (aa l2 13),zN (aa l2 14),zN (aa l2 15),Tu 249 249 0 (length (ab l2)) 1] 45 false) (by(simp;done)) (Hn.inl T_ok ai false 131 0 (ap Try.prog 4 0) (fun(x:(j:Nat)×'(hj:j≤N)×'Unit)=>match x with|⟨j,hj,_⟩=>TJ [(0,aQ kd),(1,TL false r 1 (map dB raw)),(2,TL false k 3 (flatMap bm l)),(9,D.v (.bool true)),(10,TF 8 8 0),(12,TF 32 32 0),(13,nD (pos j)),(15,(Tu 40 40 (0) (j) 3)),(16,nD j)] [⟨0,0,160,160,.b ⟨map dB b,5,true⟩⟩,⟨8,8,192,192,.b ⟨[Tu 0 0 0 n 1,zN B],26,false⟩⟩,⟨16,16,248,248,.b ⟨(ab l1).map nD,3,true⟩⟩,⟨24,24,249,249,.b ⟨(ab l2).map nD,3,true⟩⟩,⟨32,32,288,288,.b ⟨[dG kd,bD la,nD (le-j)]++(cZ (aa l1)++[(Tu 16 16 (0) ((ab l1).length) 1)])++(cZ (aa l2)++[(Tu 24 24 (0) ((ab l2).length) 1)]),45,false⟩⟩,⟨40,40,488,488,.b ⟨(l.take j).flatMap bm,50,true⟩⟩] 48) (fun(x:(j:Nat)×'(hj:j≤N)×'Unit)=>match x with|⟨j,hj,_⟩=>N-j) [⟨Unit,.exit 0,fun x=>match x with|()=>TJ [(0,aQ kd),(1,TL false r 1 (map dB raw)),(2,TL false k 3 (flatMap bm l)),(9,D.v (.bool true)),(10,TF 8 8 0),(12,TF 32 32 0),(13,nD B),(15,(Tu 40 40 (0) (l.length) 3))] [⟨0,0,160,160,.b ⟨map dB b,5,true⟩⟩,⟨8,8,192,192,.b ⟨[Tu 0 0 0 n 1,zN B],26,false⟩⟩,⟨40,40,488,488,.b ⟨l.flatMap bm,50,true⟩⟩] 48⟩] 1000 64 (fun|⟨j,hj,_⟩,Q,next1,last1=>(.s 3 (.t (decide ((j:Int)≤201)) t8 (.s 12 (.em (decide (j<length l)) (fun p0=>have p0f:=wx p0;(.call 14 false [] (true&&(true&&(true&&(true&&(true&&(true&&(true&&(true&&(true&&(true&&(true&&(true&&(true&&(true&&(true&&(true&&(true&&(true&&(true&&(true&&(true&&Tz (0+length (ab l1)*1) (length (map nD (ab l1)))&&true&&af (bif true&&Tx (length (ab l1)*1) (length (map nD (ab l1)))then map nD (ab l1)else take (length (ab l1)*1) (drop 0 (map nD (ab l1)))))&&(true&&(true&&(true&&(true&&(true&&(true&&(true&&(true&&(true&&(true&&(true&&(true&&(true&&(true&&(true&&(true&&(true&&(true&&Tz (0+length (ab l2)*1) (length (map nD (ab l2)))&&true&&af (bif true&&Tx (length (ab l2)*1) (length (map nD (ab l2)))then map nD (ab l2)else take (length (ab l2)*1) (drop 0 (map nD (ab l2)))))&&true))))))))))))))))))))))))))))))))))))&&(true&&(true&&Tz (0+n*1) (length (map dB b))&&true&&af (bif true&&Tx (n*1) (length (map dB b))then map dB b else take (n*1) (drop 0 (map dB b))))&&true)) rB ([UA [aQ kd,D.v (.bool la),zN (le-j),zN (aa l1 0),zN (aa l1 1),zN (aa l1 2),zN (aa l1 3),zN (aa l1 4),zN (aa l1 5),zN (aa l1 6),zN (aa l1 7),zN (aa l1 8),zN (aa l1 9),zN (aa l1 10),zN (aa l1 11),zN (aa l1 12),zN (aa l1 13),zN (aa l1 14),zN (aa l1 15),TL (Tz 1 (length (ab l1))) (length (ab l1)) 1 (bif true&&Tx (length (ab l1)*1) (length (map nD (ab l1)))then map nD (ab l1)else take (length (ab l1)*1) (drop 0 (map nD (ab l1)))),zN (aa l2 0),zN (aa l2 1),zN (aa l2 2),zN (aa l2 3),zN (aa l2 4),zN (aa l2 5),zN (aa l2 6),zN (aa l2 7),zN (aa l2 8),zN (aa l2 9),zN (aa l2 10),zN (aa l2 11),zN (aa l2 12),zN (aa l2 13),zN (aa l2 14),zN (aa l2 15),TL (Tz 1 (length (ab l2))) (length (ab l2)) 1 (bif true&&Tx (length (ab l2)*1) (length (map nD (ab l2)))then map nD (ab l2)else take (length (ab l2)*1) (drop 0 (map nD (ab l2))))],TL (Tz 1 n) n 1 (bif true&&Tx (n*1) (length (map dB b))then map dB b else take (n*1) (drop 0 (map dB b))),zN (pos j)]) _ EB (true) wr _ _ _ (TW (az.of Try.func14 rfl rfl) (@GI (b) (n) (kd) (le) (la) (l1) (l2) (l) (pos) (B) aD (j) om (le-j) om (length (ab l1)) (length (ab l2)) om om)) (.s 33 (.chk (true&&Tx (j*3) (length (flatMap bm (take j l)))&&true&&true&&true&&true&&Tz ((j+1)*24) 140737488355328) rB (.s 9 (.ow ((↑(le-j):Int)-1) (.s 1 (.opt (lU Uf true 0 ((↑(le-j):Int)-1)) (zI (max 0 ((↑(le-j):Int)-1))) (lb _ _ _) (.s 9 (.ow ((j:Int)+1) (.s 1 (.val 16 (zI ((j:Int)+1)) (zN (j+1)) Bz (.blk 32 32 (Tq [aQ kd,D.v (.bool la),zI (max 0 ((↑(le-j):Int)-1)),zN (aa l1 0),zN (aa l1 1),zN (aa l1 2),zN (aa l1 3),zN (aa l1 4),zN (aa l1 5),zN (aa l1 6),zN (aa l1 7),zN (aa l1 8),zN (aa l1 9),zN (aa l1 10),zN (aa l1 11),zN (aa l1 12),zN (aa l1 13),zN (aa l1 14),zN (aa l1 15),Tu 16 16 0 (length (ab l1)) 1,zN (aa l2 0),zN (aa l2 1),zN (aa l2 2),zN (aa l2 3),zN (aa l2 4),zN (aa l2 5),zN (aa l2 6),zN (aa l2 7),zN (aa l2 8),zN (aa l2 9),zN (aa l2 10),zN (aa l2 11),zN (aa l2 12),zN (aa l2 13),zN (aa l2 14),zN (aa l2 15),Tu 24 24 0 (length (ab l2)) 1] 45 false) (Tq [aQ kd,D.v (.bool la),zN (le-(j+1)),zN (aa l1 0),zN (aa l1 1),zN (aa l1 2),zN (aa l1 3),zN (aa l1 4),zN (aa l1 5),zN (aa l1 6),zN (aa l1 7),zN (aa l1 8),zN (aa l1 9),zN (aa l1 10),zN (aa l1 11),zN (aa l1 12),zN (aa l1 13),zN (aa l1 14),zN (aa l1 15),Tu 16 16 0 (length (ab l1)) 1,zN (aa l2 0),zN (aa l2 1),zN (aa l2 2),zN (aa l2 3),zN (aa l2 4),zN (aa l2 5),zN (aa l2 6),zN (aa l2 7),zN (aa l2 8),zN (aa l2 9),zN (aa l2 10),zN (aa l2 11),zN (aa l2 12),zN (aa l2 13),zN (aa l2 14),zN (aa l2 15),Tu 24 24 0 (length (ab l2)) 1] 45 false) GG (.blk 248 248 (Tq (flatMap bm (take j l)++[aQ (Tp (Tn.lit (getD l j mb))),zN (Tn.dist (getD l j mb)),zN (Tn.long (getD l j mb))]) 50 true) (Tq (flatMap bm (take (j+1) l)) 50 true) (by(refine ay ?_;rw[xx om];rfl)) (Hn.next next1 ⟨(j+1),om,⟨⟩⟩ (by show N-(j+1)<N-j;clear next1 last1;omega) [(0,0),(8,8),(16,16),(24,24),(32,32),(248,248)] ro))))))))))))))) (fun p0=>have p0f:=wy p0;(.call 14 false [] (true&&(true&&(true&&(true&&(true&&(true&&(true&&(true&&(true&&(true&&(true&&(true&&(true&&(true&&(true&&(true&&(true&&(true&&(true&&(true&&(true&&Tz (0+length (ab l1)*1) (length (map nD (ab l1)))&&true&&af (bif true&&Tx (length (ab l1)*1) (length (map nD (ab l1)))then map nD (ab l1)else take (length (ab l1)*1) (drop 0 (map nD (ab l1)))))&&(true&&(true&&(true&&(true&&(true&&(true&&(true&&(true&&(true&&(true&&(true&&(true&&(true&&(true&&(true&&(true&&(true&&(true&&Tz (0+length (ab l2)*1) (length (map nD (ab l2)))&&true&&af (bif true&&Tx (length (ab l2)*1) (length (map nD (ab l2)))then map nD (ab l2)else take (length (ab l2)*1) (drop 0 (map nD (ab l2)))))&&true))))))))))))))))))))))))))))))))))))&&(true&&(true&&Tz (0+n*1) (length (map dB b))&&true&&af (bif true&&Tx (n*1) (length (map dB b))then map dB b else take (n*1) (drop 0 (map dB b))))&&true)) rB ([UA [aQ kd,D.v (.bool la),zN (le-j),zN (aa l1 0),zN (aa l1 1),zN (aa l1 2),zN (aa l1 3),zN (aa l1 4),zN (aa l1 5),zN (aa l1 6),zN (aa l1 7),zN (aa l1 8),zN (aa l1 9),zN (aa l1 10),zN (aa l1 11),zN (aa l1 12),zN (aa l1 13),zN (aa l1 14),zN (aa l1 15),TL (Tz 1 (length (ab l1))) (length (ab l1)) 1 (bif true&&Tx (length (ab l1)*1) (length (map nD (ab l1)))then map nD (ab l1)else take (length (ab l1)*1) (drop 0 (map nD (ab l1)))),zN (aa l2 0),zN (aa l2 1),zN (aa l2 2),zN (aa l2 3),zN (aa l2 4),zN (aa l2 5),zN (aa l2 6),zN (aa l2 7),zN (aa l2 8),zN (aa l2 9),zN (aa l2 10),zN (aa l2 11),zN (aa l2 12),zN (aa l2 13),zN (aa l2 14),zN (aa l2 15),TL (Tz 1 (length (ab l2))) (length (ab l2)) 1 (bif true&&Tx (length (ab l2)*1) (length (map nD (ab l2)))then map nD (ab l2)else take (length (ab l2)*1) (drop 0 (map nD (ab l2))))],TL (Tz 1 n) n 1 (bif true&&Tx (n*1) (length (map dB b))then map dB b else take (n*1) (drop 0 (map dB b))),zN (pos j)]) _ EB (true) wr _ _ _ (TW (az.of Try.func14 rfl rfl) (@GJ (b) (n) (kd) (le) (la) (l1) (l2) (l) (pos) (B) aD (j) om (le-j) om (length (ab l1)) (length (ab l2)) om om)) (.s 25 (.val 15 (Tu 40 40 0 j 3) (Tu 40 40 0 (length l) 3) (by(simp;have h9:=hps j om;omega)) (.blk 40 40 (Tq (flatMap bm (take j l)) 50 true) (Tq (flatMap bm l) 50 true) (by(rw[show j=l.length from by omega,Uy])) (Hn.last last1 0 (():Unit) rfl [(0,0),(8,8),(40,40)] ro))))))))))) (fun|⟨j,hj,_⟩=>by kernel_rfl) ⟨(0),om,⟨⟩⟩ [(160,160),(192,192),(248,248),(249,249),(288,288),(488,488)] ro (bY (fun|()=>(.s 5 (.f ((kd:Int)==0) pC (.s 18 (.t ((B:Int)==B) t8 (.s 4 (.call 15 false [] (true&&(true&&Tz (0+length l*3) (length (flatMap bm l))&&true&&af (bif true&&Tx (length l*3) (length (flatMap bm l))then flatMap bm l else take (length l*3) (drop 0 (flatMap bm l))))&&true) JL ([TL (Tz 1 (length l)) (length l) 3 (bif true&&Tx (length l*3) (length (flatMap bm l))then flatMap bm l else take (length l*3) (drop 0 (flatMap bm l))),TL false k 3 (flatMap bm l)]) _ (by exact(Ut (D.sim.slw rfl (cn (by(simp only[cP,T0,Uz,VM,cond_true,Ub,Uh,hclT,Tw,Vs];done))|>.trans rfl)) (qr trivial))) (true) wr _ _ _ (TW (az.of Try.func15 rfl rfl) (@BB (l) (length l) (k) om om om)) (.s 2 (.out [] [] (D.v (.bool true)) [] R (ok _ _ wr wr))))))))))))))))))))))))))))))))) kr
theorem M0 (kd:Nat)(hkd:kd≤2)(hk0:kd=0)(raw:List UInt8)(r:Nat)(hr:r=raw.length)(hr2:r≤200)(l:List Tn)(k:Nat)(hk:k=l.length)(hk2:k≤100)(la:Bool)(b:List UInt8)(n B:Nat)(hW:WrV kd raw r l k la b n B)(le:Nat)(l1 l2:List UInt8)(p0:Nat)(hH:HdV b n kd la le l1 l2 p0)(hK:KdV kd le l1 l2)(pos:Nat→Nat)(N:Nat)(hN:N=(raw.map fun x=>(⟨x,0,0⟩:Tn)).length)(hN2:N≤200)(hS:StpV b n kd le la l1 l2 (raw.map fun x=>(⟨x,0,0⟩:Tn)) pos B)(h0:pos 0=p0)(hB:B≤8388608):S0 4 [dG kd,.sl false r 1 (raw.map dB),.sl false k 3 (l.flatMap bm),bD la] [] (.v (.bool true)) []:=by
 have hclT:=fun l:List Tn=>(fy (f:=bm) (fun _=>rfl) l)
 have hKk:=hK.k
 have hcl:af (l.flatMap bm)=true:=fy (fun _=>rfl) l
 have hn9:=hS.hn
 have hN9:=hS.hN
 have hps:=hS.R.ps
 refine SpecH.run T_ok ai Try.func4 rfl rfl rfl trivial rfl 1000 64 (fun R ok=>(.s 2 (.cl 10 false [] (.fn Qd (@xw)) (.s 7 (.f (decide (200<(r:Int))) pC (.s 8 (.f (decide (100<(k:Int))) pC (.s 11 (.cl 11 false [] (.fn Q8 (@MX (kd) (raw) (r) (l) (k) (la) (b) (n) (B) aD)) (.s 22 (.call 12 false [] (true&&(true&&Tz (0+n*1) (length (map dB b))&&true&&af (bif true&&Tx (n*1) (length (map dB b))then map dB b else take (n*1) (drop 0 (map dB b))))&&true) rB ([TL (Tz 1 n) n 1 (bif true&&Tx (n*1) (length (map dB b))then map dB b else take (n*1) (drop 0 (map dB b))),zI 0]) _ MT (true) wr _ _ _ (TW (az.of Try.func12 rfl rfl) (@MY (b) (n) (kd) (la) (le) (l1) (l2) (p0) aD)) (.s 34 (.f ((kd:Int) !=(kd:Int)) (by(simp;done)) (.s 14 (.f (!la==la) (by(simp;done)) (.s 5 (.call 13 false [] (true&&(true&&(true&&(true&&(true&&(true&&(true&&(true&&(true&&(true&&(true&&(true&&(true&&(true&&(true&&(true&&(true&&(true&&(true&&(true&&(true&&Tz (0+length (ab l1)*1) (length (map nD (ab l1)))&&true&&af (bif true&&Tx (length (ab l1)*1) (length (map nD (ab l1)))then map nD (ab l1)else take (length (ab l1)*1) (drop 0 (map nD (ab l1)))))&&(true&&(true&&(true&&(true&&(true&&(true&&(true&&(true&&(true&&(true&&(true&&(true&&(true&&(true&&(true&&(true&&(true&&(true&&Tz (0+length (ab l2)*1) (length (map nD (ab l2)))&&true&&af (bif true&&Tx (length (ab l2)*1) (length (map nD (ab l2)))then map nD (ab l2)else take (length (ab l2)*1) (drop 0 (map nD (ab l2)))))&&true))))))))))))))))))))))))))))))))))))&&true) MU ([UA [aQ kd,D.v (.bool la),zN le,zN (aa l1 0),zN (aa l1 1),zN (aa l1 2),zN (aa l1 3),zN (aa l1 4),zN (aa l1 5),zN (aa l1 6),zN (aa l1 7),zN (aa l1 8),zN (aa l1 9),zN (aa l1 10),zN (aa l1 11),zN (aa l1 12),zN (aa l1 13),zN (aa l1 14),zN (aa l1 15),TL (Tz 1 (length (ab l1))) (length (ab l1)) 1 (bif true&&Tx (length (ab l1)*1) (length (map nD (ab l1)))then map nD (ab l1)else take (length (ab l1)*1) (drop 0 (map nD (ab l1)))),zN (aa l2 0),zN (aa l2 1),zN (aa l2 2),zN (aa l2 3),zN (aa l2 4),zN (aa l2 5),zN (aa l2 6),zN (aa l2 7),zN (aa l2 8),zN (aa l2 9),zN (aa l2 10),zN (aa l2 11),zN (aa l2 12),zN (aa l2 13),zN (aa l2 14),zN (aa l2 15),TL (Tz 1 (length (ab l2))) (length (ab l2)) 1 (bif true&&Tx (length (ab l2)*1) (length (map nD (ab l2)))then map nD (ab l2)else take (length (ab l2)*1) (drop 0 (map nD (ab l2))))]]) _ GF (true) wr _ _ _ (TW (az.of Try.func13 rfl rfl) (@vW (kd) (le) (la) (l1) (l2) (length (ab l1)) (length (ab l2)) om om om)) (.s 7 (.nils 15 488 3 50 (.val 13 (zN p0) (zN (pos 0)) (by(rw[h0])) (.blk 288 288 (Tq [aQ kd,D.v (.bool la),zN le,zN (aa l1 0),zN (aa l1 1),zN (aa l1 2),zN (aa l1 3),zN (aa l1 4),zN (aa l1 5),zN (aa l1 6),zN (aa l1 7),zN (aa l1 8),zN (aa l1 9),zN (aa l1 10),zN (aa l1 11),zN (aa l1 12),zN (aa l1 13),zN (aa l1 14),zN (aa l1 15),Tu 248 248 0 (length (ab l1)) 1,zN (aa l2 0),zN (aa l2 1),zN (aa l2 2),zN (aa l2 3),zN (aa l2 4),zN (aa l2 5),zN (aa l2 6),zN (aa l2 7),zN (aa l2 8),zN (aa l2 9),zN (aa l2 10),zN (aa l2 11),zN (aa l2 12),zN (aa l2 13),zN (aa l2 14),zN (aa l2 15),Tu 249 249 0 (length (ab l2)) 1] 45 false) (Tq [aQ kd,D.v (.bool la),zN (le-0),zN (aa l1 0),zN (aa l1 1),zN (aa l1 2),zN (aa l1 3),zN (aa l1 4),zN (aa l1 5),zN (aa l1 6),zN (aa l1 7),zN (aa l1 8),zN (aa l1 9),zN (aa l1 10),zN (aa l1 11),zN (aa l1 12),zN (aa l1 13),zN (aa l1 14),zN (aa l1 15),Tu 248 248 0 (length (ab l1)) 1,zN (aa l2 0),zN (aa l2 1),zN (aa l2 2),zN (aa l2 3),zN (aa l2 4),zN (aa l2 5),zN (aa l2 6),zN (aa l2 7),zN (aa l2 8),zN (aa l2 9),zN (aa l2 10),zN (aa l2 11),zN (aa l2 12),zN (aa l2 13),zN (aa l2 14),zN (aa l2 15),Tu 249 249 0 (length (ab l2)) 1] 45 false) (by(simp;done)) (Hn.inl T_ok ai false 131 0 (ap Try.prog 4 0) (fun(x:(j:Nat)×'(hj:j≤N)×'Unit)=>match x with|⟨j,hj,_⟩=>TJ [(0,aQ kd),(1,TL false r 1 (map dB raw)),(2,TL false k 3 (flatMap bm l)),(9,D.v (.bool true)),(10,TF 8 8 0),(12,TF 32 32 0),(13,nD (pos j)),(15,(Tu 40 40 (0) (j) 3)),(16,nD j)] [⟨0,0,160,160,.b ⟨map dB b,5,true⟩⟩,⟨8,8,192,192,.b ⟨[Tu 0 0 0 n 1,zN B],26,false⟩⟩,⟨16,16,248,248,.b ⟨(ab l1).map nD,3,true⟩⟩,⟨24,24,249,249,.b ⟨(ab l2).map nD,3,true⟩⟩,⟨32,32,288,288,.b ⟨[dG kd,bD la,nD (le-j)]++(cZ (aa l1)++[(Tu 16 16 (0) ((ab l1).length) 1)])++(cZ (aa l2)++[(Tu 24 24 (0) ((ab l2).length) 1)]),45,false⟩⟩,⟨40,40,488,488,.b ⟨((raw.map fun x=>(⟨x,0,0⟩:Tn)).take j).flatMap bm,50,true⟩⟩] 48) (fun(x:(j:Nat)×'(hj:j≤N)×'Unit)=>match x with|⟨j,hj,_⟩=>N-j) [⟨Unit,.exit 0,fun x=>match x with|()=>TJ [(0,aQ kd),(1,TL false r 1 (map dB raw)),(2,TL false k 3 (flatMap bm l)),(9,D.v (.bool true)),(10,TF 8 8 0),(12,TF 32 32 0),(13,nD B),(15,(Tu 40 40 (0) ((raw.map fun x=>(⟨x,0,0⟩:Tn)).length) 3))] [⟨0,0,160,160,.b ⟨map dB b,5,true⟩⟩,⟨8,8,192,192,.b ⟨[Tu 0 0 0 n 1,zN B],26,false⟩⟩,⟨40,40,488,488,.b ⟨(raw.map fun x=>(⟨x,0,0⟩:Tn)).flatMap bm,50,true⟩⟩] 48⟩] 1000 64 (fun|⟨j,hj,_⟩,Q,next1,last1=>(.s 3 (.t (decide ((j:Int)≤201)) t8 (.s 12 (.em (decide (j<length (map (fun x=>Tn.mk x 0 0) raw))) (fun p0=>have p0f:=wx p0;(.call 14 false [] (true&&(true&&(true&&(true&&(true&&(true&&(true&&(true&&(true&&(true&&(true&&(true&&(true&&(true&&(true&&(true&&(true&&(true&&(true&&(true&&(true&&Tz (0+length (ab l1)*1) (length (map nD (ab l1)))&&true&&af (bif true&&Tx (length (ab l1)*1) (length (map nD (ab l1)))then map nD (ab l1)else take (length (ab l1)*1) (drop 0 (map nD (ab l1)))))&&(true&&(true&&(true&&(true&&(true&&(true&&(true&&(true&&(true&&(true&&(true&&(true&&(true&&(true&&(true&&(true&&(true&&(true&&Tz (0+length (ab l2)*1) (length (map nD (ab l2)))&&true&&af (bif true&&Tx (length (ab l2)*1) (length (map nD (ab l2)))then map nD (ab l2)else take (length (ab l2)*1) (drop 0 (map nD (ab l2)))))&&true))))))))))))))))))))))))))))))))))))&&(true&&(true&&Tz (0+n*1) (length (map dB b))&&true&&af (bif true&&Tx (n*1) (length (map dB b))then map dB b else take (n*1) (drop 0 (map dB b))))&&true)) rB ([UA [aQ kd,D.v (.bool la),zN (le-j),zN (aa l1 0),zN (aa l1 1),zN (aa l1 2),zN (aa l1 3),zN (aa l1 4),zN (aa l1 5),zN (aa l1 6),zN (aa l1 7),zN (aa l1 8),zN (aa l1 9),zN (aa l1 10),zN (aa l1 11),zN (aa l1 12),zN (aa l1 13),zN (aa l1 14),zN (aa l1 15),TL (Tz 1 (length (ab l1))) (length (ab l1)) 1 (bif true&&Tx (length (ab l1)*1) (length (map nD (ab l1)))then map nD (ab l1)else take (length (ab l1)*1) (drop 0 (map nD (ab l1)))),zN (aa l2 0),zN (aa l2 1),zN (aa l2 2),zN (aa l2 3),zN (aa l2 4),zN (aa l2 5),zN (aa l2 6),zN (aa l2 7),zN (aa l2 8),zN (aa l2 9),zN (aa l2 10),zN (aa l2 11),zN (aa l2 12),zN (aa l2 13),zN (aa l2 14),zN (aa l2 15),TL (Tz 1 (length (ab l2))) (length (ab l2)) 1 (bif true&&Tx (length (ab l2)*1) (length (map nD (ab l2)))then map nD (ab l2)else take (length (ab l2)*1) (drop 0 (map nD (ab l2))))],TL (Tz 1 n) n 1 (bif true&&Tx (n*1) (length (map dB b))then map dB b else take (n*1) (drop 0 (map dB b))),zN (pos j)]) _ EB (true) wr _ _ _ (TW (az.of Try.func14 rfl rfl) (@GI (b) (n) (kd) (le) (la) (l1) (l2) (map (fun x=>Tn.mk x 0 0) raw) (pos) (B) aD (j) om (le-j) om (length (ab l1)) (length (ab l2)) om om)) (.s 33 (.chk (true&&Tx (j*3) (length (flatMap bm (take j (map (fun x=>Tn.mk x 0 0) raw))))&&true&&true&&true&&true&&Tz ((j+1)*24) 140737488355328) (by(rw[cP,TR,W6 om];simp;omega)) (.s 9 (.ow ((↑(le-j):Int)-1) (.s 1 (.opt (lU Uf true 0 ((↑(le-j):Int)-1)) (zI (max 0 ((↑(le-j):Int)-1))) (lb _ _ _) (.s 9 (.ow ((j:Int)+1) (.s 1 (.val 16 (zI ((j:Int)+1)) (zN (j+1)) Bz (.blk 32 32 (Tq [aQ kd,D.v (.bool la),zI (max 0 ((↑(le-j):Int)-1)),zN (aa l1 0),zN (aa l1 1),zN (aa l1 2),zN (aa l1 3),zN (aa l1 4),zN (aa l1 5),zN (aa l1 6),zN (aa l1 7),zN (aa l1 8),zN (aa l1 9),zN (aa l1 10),zN (aa l1 11),zN (aa l1 12),zN (aa l1 13),zN (aa l1 14),zN (aa l1 15),Tu 16 16 0 (length (ab l1)) 1,zN (aa l2 0),zN (aa l2 1),zN (aa l2 2),zN (aa l2 3),zN (aa l2 4),zN (aa l2 5),zN (aa l2 6),zN (aa l2 7),zN (aa l2 8),zN (aa l2 9),zN (aa l2 10),zN (aa l2 11),zN (aa l2 12),zN (aa l2 13),zN (aa l2 14),zN (aa l2 15),Tu 24 24 0 (length (ab l2)) 1] 45 false) (Tq [aQ kd,D.v (.bool la),zN (le-(j+1)),zN (aa l1 0),zN (aa l1 1),zN (aa l1 2),zN (aa l1 3),zN (aa l1 4),zN (aa l1 5),zN (aa l1 6),zN (aa l1 7),zN (aa l1 8),zN (aa l1 9),zN (aa l1 10),zN (aa l1 11),zN (aa l1 12),zN (aa l1 13),zN (aa l1 14),zN (aa l1 15),Tu 16 16 0 (length (ab l1)) 1,zN (aa l2 0),zN (aa l2 1),zN (aa l2 2),zN (aa l2 3),zN (aa l2 4),zN (aa l2 5),zN (aa l2 6),zN (aa l2 7),zN (aa l2 8),zN (aa l2 9),zN (aa l2 10),zN (aa l2 11),zN (aa l2 12),zN (aa l2 13),zN (aa l2 14),zN (aa l2 15),Tu 24 24 0 (length (ab l2)) 1] 45 false) GG (.blk 248 248 (Tq (flatMap bm (take j (map (fun x=>Tn.mk x 0 0) raw))++[aQ (Tp (Tn.lit (getD (map (fun x=>Tn.mk x 0 0) raw) j mb))),zN (Tn.dist (getD (map (fun x=>Tn.mk x 0 0) raw) j mb)),zN (Tn.long (getD (map (fun x=>Tn.mk x 0 0) raw) j mb))]) 50 true) (Tq (flatMap bm (take (j+1) (map (fun x=>Tn.mk x 0 0) raw))) 50 true) (by(refine ay ?_;rw[xx om];rfl)) (Hn.next next1 ⟨(j+1),om,⟨⟩⟩ (by show N-(j+1)<N-j;clear next1 last1;omega) [(0,0),(8,8),(16,16),(24,24),(32,32),(248,248)] ro))))))))))))))) (fun p0=>have p0f:=wy p0;(.call 14 false [] (true&&(true&&(true&&(true&&(true&&(true&&(true&&(true&&(true&&(true&&(true&&(true&&(true&&(true&&(true&&(true&&(true&&(true&&(true&&(true&&(true&&Tz (0+length (ab l1)*1) (length (map nD (ab l1)))&&true&&af (bif true&&Tx (length (ab l1)*1) (length (map nD (ab l1)))then map nD (ab l1)else take (length (ab l1)*1) (drop 0 (map nD (ab l1)))))&&(true&&(true&&(true&&(true&&(true&&(true&&(true&&(true&&(true&&(true&&(true&&(true&&(true&&(true&&(true&&(true&&(true&&(true&&Tz (0+length (ab l2)*1) (length (map nD (ab l2)))&&true&&af (bif true&&Tx (length (ab l2)*1) (length (map nD (ab l2)))then map nD (ab l2)else take (length (ab l2)*1) (drop 0 (map nD (ab l2)))))&&true))))))))))))))))))))))))))))))))))))&&(true&&(true&&Tz (0+n*1) (length (map dB b))&&true&&af (bif true&&Tx (n*1) (length (map dB b))then map dB b else take (n*1) (drop 0 (map dB b))))&&true)) rB ([UA [aQ kd,D.v (.bool la),zN (le-j),zN (aa l1 0),zN (aa l1 1),zN (aa l1 2),zN (aa l1 3),zN (aa l1 4),zN (aa l1 5),zN (aa l1 6),zN (aa l1 7),zN (aa l1 8),zN (aa l1 9),zN (aa l1 10),zN (aa l1 11),zN (aa l1 12),zN (aa l1 13),zN (aa l1 14),zN (aa l1 15),TL (Tz 1 (length (ab l1))) (length (ab l1)) 1 (bif true&&Tx (length (ab l1)*1) (length (map nD (ab l1)))then map nD (ab l1)else take (length (ab l1)*1) (drop 0 (map nD (ab l1)))),zN (aa l2 0),zN (aa l2 1),zN (aa l2 2),zN (aa l2 3),zN (aa l2 4),zN (aa l2 5),zN (aa l2 6),zN (aa l2 7),zN (aa l2 8),zN (aa l2 9),zN (aa l2 10),zN (aa l2 11),zN (aa l2 12),zN (aa l2 13),zN (aa l2 14),zN (aa l2 15),TL (Tz 1 (length (ab l2))) (length (ab l2)) 1 (bif true&&Tx (length (ab l2)*1) (length (map nD (ab l2)))then map nD (ab l2)else take (length (ab l2)*1) (drop 0 (map nD (ab l2))))],TL (Tz 1 n) n 1 (bif true&&Tx (n*1) (length (map dB b))then map dB b else take (n*1) (drop 0 (map dB b))),zN (pos j)]) _ EB (true) wr _ _ _ (TW (az.of Try.func14 rfl rfl) (@GJ (b) (n) (kd) (le) (la) (l1) (l2) (map (fun x=>Tn.mk x 0 0) raw) (pos) (B) aD (j) om (le-j) om (length (ab l1)) (length (ab l2)) om om)) (.s 25 (.val 15 (Tu 40 40 0 j 3) (Tu 40 40 0 (length (map (fun x=>Tn.mk x 0 0) raw)) 3) (by clear next1 last1;(simp_all<;>omega)) (.blk 40 40 (Tq (flatMap bm (take j (map (fun x=>Tn.mk x 0 0) raw))) 50 true) (Tq (flatMap bm (map (fun x=>Tn.mk x 0 0) raw)) 50 true) (by(rw[show j=(raw.map fun x=>(⟨x,0,0⟩:Tn)).length from by omega,Uy])) (Hn.last last1 0 (():Unit) rfl [(0,0),(8,8),(40,40)] ro))))))))))) (fun|⟨j,hj,_⟩=>by kernel_rfl) ⟨(0),om,⟨⟩⟩ [(160,160),(192,192),(248,248),(249,249),(288,288),(488,488)] ro (bY (fun|()=>(.s 5 (.t ((kd:Int)==0) t8 (.s 2 (.nils 21 96 3 50 (Hn.inl T_ok ai false 131 0 (ap Try.prog 4 1) (fun(x:(i:Nat)×'(hi:i≤r)×'Unit)=>match x with|⟨i,hi,_⟩=>TJ [(1,TL false r 1 (map dB raw)),(9,D.v (.bool true)),(10,TF 8 8 0),(13,zN B),(15,Tu 16 16 0 (length (map (fun x=>Tn.mk x 0 0) raw)) 3),(21,(Tu 24 24 (0) (i) 3)),(22,nD i)] [⟨0,0,0,0,.b ⟨map dB b,5,true⟩⟩,⟨8,8,8,8,.b ⟨[Tu 0 0 0 n 1,zN B],26,false⟩⟩,⟨16,16,40,40,.b ⟨flatMap bm (map (fun x=>Tn.mk x 0 0) raw),50,true⟩⟩,⟨24,24,96,96,.b ⟨((raw.take i).map fun x=>(⟨x,0,0⟩:Tn)).flatMap bm,50,true⟩⟩] 32) (fun(x:(i:Nat)×'(hi:i≤r)×'Unit)=>match x with|⟨i,hi,_⟩=>r-i) [⟨Unit,.exit 2,fun x=>match x with|()=>TJ [(1,TL false r 1 (map dB raw)),(9,D.v (.bool true)),(10,TF 8 8 0),(13,zN B),(15,Tu 16 16 0 (length (map (fun x=>Tn.mk x 0 0) raw)) 3),(21,(Tu 24 24 (0) ((raw.map fun x=>(⟨x,0,0⟩:Tn)).length) 3))] [⟨0,0,0,0,.b ⟨map dB b,5,true⟩⟩,⟨8,8,8,8,.b ⟨[Tu 0 0 0 n 1,zN B],26,false⟩⟩,⟨16,16,40,40,.b ⟨flatMap bm (map (fun x=>Tn.mk x 0 0) raw),50,true⟩⟩,⟨24,24,96,96,.b ⟨(raw.map fun x=>(⟨x,0,0⟩:Tn)).flatMap bm,50,true⟩⟩] 32⟩] 1000 64 (fun|⟨i,hi,_⟩,Q,next1,last1=>(.s 5 (.bd ((i:Int)<r) (fun p1 p1f=>(.s 4 (.chk (true&&decide ((i:Int)<r)&&true) JL (.s 2 (.opt ((map dB raw)[i*1]?) (dB (getD raw (i*1) mb)) (aq _ _ om) (.s 5 (.chk (true&&Tx (i*3) (length (flatMap bm (map (fun x=>Tn.mk x 0 0) (take i raw))))&&true&&true&&true&&true&&Tz ((i+1)*24) 140737488355328) rB (.s 4 (.ow ((i:Int)+1) (.s 1 (.val 22 (zI ((i:Int)+1)) (zN (i+1)) Bz (.blk 120 120 (Tq (flatMap bm (map (fun x=>Tn.mk x 0 0) (take i raw))++[aQ (Tp (getD raw (i*1) mb)),zI 0,zI 0]) 50 true) (Tq (flatMap bm (map (fun x=>Tn.mk x 0 0) (take (i+1) raw))) 50 true) (by(refine ay (ED om om))) (Hn.next next1 ⟨(i+1),om,⟨⟩⟩ (by show r-(i+1)<r-i;clear next1 last1;omega) [(0,0),(8,8),(16,16),(120,120)] ro))))))))))))) (fun p1 p1f=>(.val 21 (Tu 24 24 0 i 3) (Tu 24 24 0 (length (map (fun x=>Tn.mk x 0 0) raw)) 3) rB (.blk 24 24 (Tq (flatMap bm (map (fun x=>Tn.mk x 0 0) (take i raw))) 50 true) (Tq (flatMap bm (map (fun x=>Tn.mk x 0 0) raw)) 50 true) (by(refine ay ?_;rw[T9 om])) (Hn.last last1 0 (():Unit) rfl [(0,0),(8,8),(16,16),(24,24)] ro))))))) (fun|⟨i,hi,_⟩=>by kernel_rfl) ⟨(0),om,⟨⟩⟩ [(0,0),(8,8),(40,40),(96,96)] ro (bY (fun|()=>(.s 18 (.t ((B:Int)==B) t8 (.s 4 (.call 15 false [] (true&&(true&&Tz (0+length (map (fun x=>Tn.mk x 0 0) raw)*3) (length (flatMap bm (map (fun x=>Tn.mk x 0 0) raw)))&&true&&af (bif true&&Tx (length (map (fun x=>Tn.mk x 0 0) raw)*3) (length (flatMap bm (map (fun x=>Tn.mk x 0 0) raw)))then flatMap bm (map (fun x=>Tn.mk x 0 0) raw)else take (length (map (fun x=>Tn.mk x 0 0) raw)*3) (drop 0 (flatMap bm (map (fun x=>Tn.mk x 0 0) raw)))))&&(true&&(true&&Tz (0+length (map (fun x=>Tn.mk x 0 0) raw)*3) (length (flatMap bm (map (fun x=>Tn.mk x 0 0) raw)))&&true&&af (bif true&&Tx (length (map (fun x=>Tn.mk x 0 0) raw)*3) (length (flatMap bm (map (fun x=>Tn.mk x 0 0) raw)))then flatMap bm (map (fun x=>Tn.mk x 0 0) raw)else take (length (map (fun x=>Tn.mk x 0 0) raw)*3) (drop 0 (flatMap bm (map (fun x=>Tn.mk x 0 0) raw)))))&&true)) JL ([TL (Tz 1 (length (map (fun x=>Tn.mk x 0 0) raw))) (length (map (fun x=>Tn.mk x 0 0) raw)) 3 (bif true&&Tx (length (map (fun x=>Tn.mk x 0 0) raw)*3) (length (flatMap bm (map (fun x=>Tn.mk x 0 0) raw)))then flatMap bm (map (fun x=>Tn.mk x 0 0) raw)else take (length (map (fun x=>Tn.mk x 0 0) raw)*3) (drop 0 (flatMap bm (map (fun x=>Tn.mk x 0 0) raw)))),TL (Tz 1 (length (map (fun x=>Tn.mk x 0 0) raw))) (length (map (fun x=>Tn.mk x 0 0) raw)) 3 (bif true&&Tx (length (map (fun x=>Tn.mk x 0 0) raw)*3) (length (flatMap bm (map (fun x=>Tn.mk x 0 0) raw)))then flatMap bm (map (fun x=>Tn.mk x 0 0) raw)else take (length (map (fun x=>Tn.mk x 0 0) raw)*3) (drop 0 (flatMap bm (map (fun x=>Tn.mk x 0 0) raw))))]) _ (by exact(Ut (D.sim.slw (by(simp;done)) (cn (by(simp only[cP,T0,Uz,VM,cond_true,Ub,Uh,hclT,Tw,Vs];done))|>.trans rfl)) (Ut (D.sim.slw (by(simp;done)) (cn (by(simp only[cP,T0,Uz,VM,cond_true,Ub,Uh,hclT,Tw,Vs];done))|>.trans rfl)) trivial))) (true) wr _ _ _ (TW (az.of Try.func15 rfl rfl) (@BB (map (fun x=>Tn.mk x 0 0) raw) (length raw) (length raw) (by(simp;done)) (by(simp;done)) om)) (.s 2 (.out [] [] (D.v (.bool true)) [] R (ok _ _ wr wr)))))))))))))))))))))))))))))))))))))) kr
end Vp
end Go.Proofs.Ytefjnofhgkjpmaa
namespace Go.Proofs.Ytefjnofhgkjpmaa
open Go.RowKit Go.Bw Go.Vx
namespace Vp
theorem zv {a kd:Nat}{raw:List UInt8}{l:List Tn}{e:Nat}(hr:raw.length≤200)(hk:l.length≤100):sm (kI a kd raw l e)≤60000:=by
 rw[ko]
 split
 ·unfold nL
  rw[iM,gG]
  have h2:sm ((raw.take raw.length).map u7)≤8*((raw.take raw.length).map u7).length:=t6 fun x hx=>by
   obtain⟨y,_,rfl⟩:=List.mem_map.1 hx;exact TD 8
  rw[TH,TR,Yl]at h2
  have h3:=rg a
  have h4:sm (Ql e a raw.length)=1+(2+(hU a+(16+(16+0)))):=rfl
  omega
 ·split
  ·rw[i8,gG]
   have h1:=rA (dW cr) (dW ez) (jW e 1) l
   have h2:=oi (dW cr) 256 0 0
   have h3:sm (jW e 1)=3:=rfl
   omega
  ·have hk2:l.length≤65535:=by omega
   have G:=Ak l hk2
   rw[i9,gG]
   have h1:=rA G.oL G.oB (tG e l) l
   have h2:=oi G.oL 256 0 0
   have h4:=rh (e:=e) hk2
   have h3:sm (tG e l)≤32*(tG e l).length:=by
    refine t6 fun x hx=>?_
    by_cases he:e≤1
    ·exact(ny he hk2 x hx).2
    ·rw[xj]at hx
     rcases List.mem_append.1 hx with q|q
     ·rcases List.mem_cons.1 q with rfl|q
      ·show 1≤32;decide
      ·rcases List.mem_cons.1 q with rfl|q
       ·show 2≤32;decide
       ·cases q
     ·exact(ny (TD 1) hk2 x (by rw[xj];exact Wj _ q)).2
   omega
theorem xy {P:Nat→Bool}:∀k,(∃j,j<k∧P j=false)→∃j,j<k∧P j=false∧∀i,i<j→P i=true
 |0,h=>by obtain⟨j,hj,_⟩:=h;exact absurd hj (UR _)
 |k+1,h=>by
  by_cases q:∃j,j<k∧P j=false
  ·obtain⟨j,h1,h2⟩:=xy k q
   exact⟨j,by omega,h2⟩
  ·obtain⟨j,h1,h2⟩:=h
   refine⟨j,h1,h2,fun i hi=>?_⟩
   cases e:P i with
   |true=>rfl
   |false=>exact absurd ⟨i,by omega,e⟩ q
theorem M1 {t:Vt.Tok}(h:Vt.mayT t=true):TokK t:=by
 rcases(Vt.mayT_iff t).1 h with⟨h1,h2⟩|⟨h1,h2,h3,h4,h5,h6⟩
 ·exact⟨by omega,by omega,.inl ⟨by show t.long.toNat=0;omega,by show t.dist.toNat=0;omega⟩⟩
 ·refine⟨by omega,by omega,.inr ⟨h2,?_⟩⟩
  show 3≤t.long.toNat∧t.long.toNat≤258∧1≤t.dist.toNat∧t.dist.toNat≤32768
  omega
theorem JM {kd:Nat}(hkd:kd≤2){raw:List UInt8}{r:Nat}(hr:r=raw.length)(hr2:r≤200){l:List Tn}{k:Nat}(hk:k=l.length)(hk2:k≤100)(hl:∀t∈l,sZ t)(la:Bool):WrV kd raw r l k la (pk (bs (kI 0 kd raw l (if la then 1 else 0)))) (pk (bs (kI 0 kd raw l (if la then 1 else 0)))).length (bs (kI 0 kd raw l (if la then 1 else 0))).length:=by
 have hl2:∀i,sZ (l.getD i mb):=fun i=>by
  rw[To]
  cases q:l[i]? with
  |none=>exact .inl ⟨rfl,rfl⟩
  |some t=>exact hl t (UB q)
 have e:∀e,EA [] kd raw l e=bs (kI 0 kd raw l e):=fun e=>by rw[Bv,VV];rfl
 cases la with
 |false=>
  have q:=MP [] 0 rfl (by decide) kd hkd raw r hr (by omega) l k hk (by omega) hl2
  rw[e]at q
  exact⟨By (ds':=[Kt 0 [],dG kd,.sl false r 1 (raw.map dB),.sl false k 3 (l.flatMap bm),.v (.bool false)]) ⟨D.sim.agg ⟨D.sim.nil (by decide),.refl _,trivial⟩,.refl _,.refl _,.refl _,.refl _,trivial⟩ q⟩
 |true=>
  have q:=MO [] 0 rfl (by decide) kd hkd raw r hr (by omega) l k hk (by omega) hl2
  rw[e]at q
  exact⟨By (ds':=[Kt 0 [],dG kd,.sl false r 1 (raw.map dB),.sl false k 3 (l.flatMap bm),.v (.bool true)]) ⟨D.sim.agg ⟨D.sim.nil (by decide),.refl _,trivial⟩,.refl _,.refl _,.refl _,.refl _,trivial⟩ q⟩
theorem BC {b:List UInt8}{n:Nat}(hn:n=b.length)(hN:n≤131072){kd le p0:Nat}{la:Bool}{l1 l2 m1 m2:List UInt8}(hH:gv b ⟨0,0⟩=⟨⟨p0,0⟩,kd,la,le,l1,l2⟩)(c1:aa m1=aa l1)(c2:aa m2=aa l2)(s1:ab m1=ab l1)(s2:ab m2=ab l2):HdV b n kd la le m1 m2 p0:=by
 have q:=QS b n hn hN 0 (T7 _) _ hH rfl
 exact⟨by rw[c1,c2,s1,s2];exact q⟩
theorem BD {kd:Nat}(hkd:kd≤2){raw:List UInt8}{r:Nat}(hr:r=raw.length)(hr2:r≤200){l:List Tn}{k:Nat}(hk:k=l.length)(hk2:k≤100)(hl:∀t∈l,sZ t)(la:Bool):S0 4 [dG kd,.sl false r 1 (raw.map dB),.sl false k 3 (l.flatMap bm),bD la] [] (.v (.bool true)) []:=by
 have he:(if la then 1 else 0)≤1:=by cases la<;>decide
 have hW:=JM hkd hr hr2 hk hk2 hl la
 have eL:(((if la then 1 else 0:Nat):Int)==1)=la:=by cases la<;>rfl
 generalize(if la then 1 else 0)=e at hW he eL
 have hB:(bs (kI 0 kd raw l e)).length≤60000:=by
  have:=zv (a:=0) (kd:=kd) (e:=e) (raw:=raw) (l:=l) (by omega) (by omega)
  rw[show(bs (kI 0 kd raw l e)).length=sm (kI 0 kd raw l e)from t7 _];exact this
 have hS:=LL (bs (kI 0 kd raw l e)) []
 rw[Ue]at hS
 have hn:(pk (bs (kI 0 kd raw l e))).length≤131072:=by rw[aG];omega
 generalize hb:pk (bs (kI 0 kd raw l e))=b at hW hS hn
 obtain⟨le,p0,l1,l2,pos,hH,a1,a2,c1,c2,h0,k0,k1,R⟩:=JE (p:=0) hkd he (raw:=raw) (by omega) (l:=l) (by omega) hl (Y:=[]) (by rw[Ue];exact hS)
 rw[eL]at hH
 have fz:(0:Nat)+(bs (kI (0%8) kd raw l e)).length=(bs (kI 0 kd raw l e)).length:=T0 _
 rw[fz]at R
 by_cases q:kd=0
 ·obtain⟨q1,q2,q3⟩:=k0 q
  subst q2 q3
  have K:KdV kd le [] []:=⟨fun _=>⟨q1,rfl,rfl⟩,fun z=>absurd q z,c1,c2⟩
  unfold P7 at R
  rw[if_pos q]at R
  exact M0 kd hkd q raw r hr hr2 l k hk hk2 la b b.length _ hW le [] [] p0 (BC rfl hn hH rfl rfl rfl rfl) K pos r (by rw[TH];exact hr) hr2 ⟨rfl,hn,K,R⟩ h0 (by omega)
 ·have z:=k1 q
  subst z
  have p1:=tY a1
  have p2:=tY a2
  have K:KdV kd 0 (cF l1) (cF l2):=⟨fun z=>absurd z q,fun _=>⟨hkd,rfl,ec a1,ec a2⟩,o8 (by decide) c1,o8 (by decide) c2⟩
  unfold P7 at R
  rw[if_neg q]at R
  have R2:RdB b kd 0 (cF l1) (cF l2) l pos (bs (kI 0 kd raw l e)).length:=⟨fun j hj=>(xq a1 a2 _).trans (R.st j hj),(xq a1 a2 _).trans R.en,R.ps⟩
  exact MZ kd hkd q raw r hr hr2 l k hk hk2 la b b.length _ hW 0 (cF l1) (cF l2) p0 (BC rfl hn hH p1.1 p2.1 p1.2 p2.2) K pos k hk (by omega) ⟨rfl,hn,K,R2⟩ h0 (by omega)
theorem blocks_ (kd:Nat)(hkd:kd≤255)(raw:List UInt8)(r:Nat)(hr:r=raw.length)(l:List Vt.Tok)(k:Nat)(hk:k=l.length)(la:Bool):S0 4 [dG kd,.sl false r 1 (raw.map dB),.sl false k 3 (l.flatMap Vt.tokD),bD la] [] (.v (.bool true)) []:=by
 by_cases hG:200<r∨100<k
 ·exact MW l k hk (kd:Int) raw r hr la hG
 by_cases h2:2<kd
 ·exact GH l k hk (by omega) (kd:Int) raw r hr (by omega) la 2 (by decide) ⟨QX l k hk (by omega) kd ⟨h2,hkd⟩ raw r hr (by omega) la⟩
 by_cases hb:∃j,j<k∧Vt.mayT (l.getD j mb)=false
 ·obtain⟨j,j1,j2,j3⟩:=xy (P:=fun j=>Vt.mayT (l.getD j mb)) k hb
  exact GH l k hk (by omega) (kd:Int) raw r hr (by omega) la 8 (by decide) ⟨QW l k hk (by omega) j j1 j3 j2 kd (by omega) raw r hr (by omega) la⟩
 ·have ok:∀t∈l,TokK t:=fun t ht=>by
   obtain⟨i,hi⟩:=Ux ht
   have li:=(List.getElem?_eq_some_iff.1 hi).1
   refine M1 ?_
   cases e:Vt.mayT t with
   |true=>rfl
   |false=>exact absurd ⟨i,by omega,by rw[To,hi];exact e⟩ hb
  rw[DB l ok]
  exact BD (by omega) hr (by omega) (by rw[TH];exact hk) (by omega) (fun t ht=>by
   obtain⟨x,hx,rfl⟩:=List.mem_map.1 ht
   exact(ok x hx).ok) la
end Vp
end Go.Proofs.Ytefjnofhgkjpmaa
namespace Go.Bw
open Go.RowKit Go.ChangeShapes Go.WideShapes Go.ChangeAt
section
variable {H:Type} {enc:TypeId×Value→H} {P:Program} {w:World} {base:Nat} {r:Reach} {t e:TypeId} {v:Value} {d:DataW H} {p:List MemPlace}

def Tr (enc:TypeId×Value→H)(P:Program)(w:World)(t:TypeId)(v:Value):Prop:=∃d p,DataW.Trod enc P w 0 (fun _=>true) true t v d p

theorem byte_of (n:Int)(h:(XF .u8 n).wf=true):((Um n.toNat).toNat:Int)=n:=by
 obtain⟨h1,h2⟩:=bounds_u8 h
 rw[i7 _ (by omega)];omega

theorem oj {fuel:Nat}{x:DataW H×List MemPlace}(ht:P.underlying t=some (.slice e))(he:P.underlying e=some (.int .u8))(hc:P.cellsOf e=1)(h:Y0 enc P w 0 (fun _=>true) true fuel t [v]=some x):
  ∃a cap bs,v= .slice a bs.length cap∧iV w a cap bs:=by
 rcases open_ints ht he hc h with⟨hcs,_⟩|⟨x,len,cap,zs,hcs,_,hl,hm,hz,_,hcell,hwz⟩
 ·simp at hcs
  subst hcs
  exact⟨none,0,[],rfl,iV.nil w⟩
 ·simp at hcs
  subst hcs
  simp at hz
  have hlen:((zs.take len).map fun n=>Um n.toNat).length=len:=by simp;omega
  refine⟨some x,cap,(zs.take len).map fun n=>Um n.toNat,by rw[hlen],?_⟩
  unfold maxLen at hm
  refine⟨by simp,by rw[hlen];exact hl,by omega,(fun h=>by cases h),?_⟩
  rw[hlen]
  rcases VI len with h0|h0
  ·exact .inl h0
  ·have hc0:=hcell 0 (by omega)
   obtain⟨b,off,spot⟩:=x
   have hspot:spot=none:=by simpa[Addr.add]using Yz hc0
   subst hspot
   refine .inr ⟨b,off,rfl,block_lt_of_cell (by simpa[Addr.add]using hc0),fun i u hu=>?_⟩
   rw[Xg,TN,UG]at hu
   obtain⟨n,hn,rfl⟩:=hu
   rw[Un]at hn
   split at hn
   ·rename_i hi
    have hci:=hcell i (by omega)
    rw[U8]at hci
    rw[hci]
    have hg:zs.getD i 0=n:=by simp[hn]
    rw[hg]
    simp only[Function.comp,bv]
    rw[byte_of n (hwz n (UB hn))]
   ·cases hn

theorem vY {n:Nat}{k:IntKind}(ht:P.underlying t=some (.array n e))(he:P.underlying e=some (.int k))(hc:P.cellsOf e=1)(hn:P.cellsOf t=n)(ho:Ym P w r base t v)(h:Tr enc P w t v):
  ∃zs:List Int,v= .agg (zs.map fun z=>UE k z).toArray∧zs.length=n∧∀z∈zs,(XF k z).wf=true:=by
 simp only[Ym,ht]at ho
 obtain⟨cs,rfl,hs,_⟩:=ho
 obtain⟨d,p,fuel,hf⟩:=h
 obtain⟨xs,m,_,_,hl,hx,hel⟩:=YA ht hf
 have each:∀i,i<n→∃z,cs[i]? =some (.int k z)∧(XF k z).wf=true:=by
  intro i hi
  have:=hel i hi
  rw[hc,TZ,Ts (by omega)]at this
  obtain⟨z,hz,_,hw⟩:=XU he this
  refine⟨z,?_,hw⟩
  have h1:(UQ i (Y4 cs).cells.toList)[0]? =some (.int k z):=by
   have:(UP 1 (UQ i (Y4 cs).cells.toList))[0]? =some (.int k z):=by rw[hz];rfl
   rw[Un]at this
   simpa using this
  simpa[Xp]using h1
 let num:Value→Int:=fun v=>match v with| .int _ z=>z|_=>0
 refine⟨cs.toList.map num,?_,by simp;omega,?_⟩
 ·congr 1
  apply Array.ext_getElem?
  intro i
  by_cases hi:i<n
  ·obtain⟨z,hz,_⟩:=each i hi
   simp[hz,num]
  ·rw[VX (by omega),VX (by simp;omega)]
 ·intro z hz
  simp only[WI]at hz
  obtain⟨v,hv,rfl⟩:=hz
  obtain⟨i,hi⟩:=Ux hv
  have hin:i<n:=by
   have:=(List.getElem?_eq_some_iff.1 hi).1
   simp at this;omega
  obtain⟨z,hz,hw⟩:=each i hin
  have:v= .int k z:=by
   have:cs[i]? =some v:=by simpa using hi
   rw[hz]at this;exact(Option.some.inj this).symm
  subst this
  exact hw

end
end Go.Bw

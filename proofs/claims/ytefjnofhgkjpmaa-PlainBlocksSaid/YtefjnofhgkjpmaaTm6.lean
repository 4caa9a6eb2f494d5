/- Part 6. -/
import Derived.Test.YtefjnofhgkjpmaaTm5
set_option linter.unusedVariables false
set_option linter.unusedSimpArgs false
set_option maxRecDepth 100000
set_option maxHeartbeats 4000000
open And renaming intro → Ut
open BitVec renaming ofInt → TA, toNat → Uc
open Bool renaming and_true → Uh, toNat_le → Wh, true_and → Ub
open Classical renaming byContradiction → Wx
open Eq renaming trans → Xm
open Go.Fn renaming func → Ui
open Go.IntKind renaming i64 → Uf, u32 → Uj, u64 → Vn, u8 → Vv, wrap → TM
open Go.LoopState renaming ready → Vr
open Go.Value renaming int → UE
open Go.Vx.Blk renaming mk → Tq
open Go.Vx.CallOk renaming fn → TW
open Go.Vx.CutS renaming mk → TJ
open Go.Vx.D renaming agg → UA, fn → U9, ptr → TF, ref → Tu, sl → TL, tup → Uw
open Inhabited renaming default → mb
open Int renaming emod_eq_of_lt → Yr, eq_ofNat_of_zero_le → UI, fdiv → Uk, fdiv_eq_ediv_of_nonneg → Vi, le_of_lt → Yo, natCast_ediv → WU, natCast_nonneg → WF, tdiv → Xl, tmod → We, toNat → zK, toNat_natCast → Vf
open List renaming append_assoc → TG, append_nil → Ue, cons_append → V5, drop → UQ, drop_append → YH, drop_append_of_le_length → Wc, drop_eq_nil_of_le → Vb, drop_left → Ws, drop_length → Yy, drop_zero → U4, eq_nil_iff_forall_not_mem → WV, eq_replicate_iff → Wl, ext_getElem? → Uu, filter_append → US, filter_cons → YG, flatMap_cons → UC, getD → X5, getD_eq_getElem?_getD → To, getElem?_append_left → TQ, getElem?_append_right → TO, getElem?_eq_getElem → Ts, getElem?_eq_none → TY, getElem?_map → TN, getElem?_range → UO, getElem?_replicate → UT, getElem?_set → U3, getElem_mem → Uo, length → Xr, length_append → Tt, length_cons → T3, length_drop → Ul, length_filter_le → Wk, length_map → TH, length_nil → Vj, length_range → U5, length_replicate → T4, length_singleton → Ud, length_take → TR, map → VO, map_append → Uq, map_congr_left → Xa, map_cons → Vq, map_drop → Xt, map_map → Xg, map_take → Wg, mem_append → XL, mem_cons_self → TP, mem_singleton → Wd, nil_append → VV, not_mem_nil → Wv, pairwise_append → W0, pairwise_lt_range → XG, range → Uv, range_succ → Wf, replicate → TK, replicate_succ → X9, set_append_right → XN, singleton_append → WO, take → UP, take_append_drop → Vo, take_append_of_le_length → VQ, take_length → Uy, take_of_length_le → T9, take_succ_eq_append_getElem → T8, take_zero → XT
open List.Pairwise renaming filter → XY, nil → Yp
open Nat renaming add_assoc → UF, add_comm → Xf, add_mul → UN, add_sub_cancel_left → Vz, beq → Tx, beq_refl → Uz, ble → Tz, ble_eq_true_of_le → Tv, div_div_eq_div_mul → XB, div_eq_of_lt → WQ, div_le_self → XK, div_one → YI, eq_zero_or_pos → VI, le_add_right → V4, le_of_eq → XD, le_refl → TD, le_trans → T6, lt_irrefl → V1, lt_of_lt_of_le → Ug, lt_or_ge → T5, mod_eq_of_lt → UZ, mul_add → V2, mul_assoc → UU, mul_comm → Ve, mul_le_mul_left → V8, mul_one → TZ, not_lt_zero → UR, one_mul → XR, pow_add → Xq, pow_le_pow_right → TX, pow_succ → Us, pow_zero → Xd, sub_self → UJ, succ_mul → XE, succ_ne_zero → VJ, testBit → YL, testBit_succ → Yx, testBit_zero → Yw, toNat_testBit → Ys, two_pow_add_eq_or_of_lt → VZ, two_pow_pos → UY, zero_add → T0, zero_le → T7, zero_lt_one → VW, zero_mul → Vd
open Prod renaming fst → Ty, snd → Tm
open UInt8 renaming ofNat → Um, toNat → Tp, toNat_ofNat' → U6
namespace Go.Proofs.Ytefjnofhgkjpmaa
open Go.RowKit Go.Bw Go.Vx
open List (length getD map take drop flatMap replicate)
namespace Vp
theorem uP {p:Prop}(h:p:=by(refine aT ?_;rw[iI];unfold sa;(repeat' split)<;>first|omega|(simp_all;done))):p:=h
theorem wF {p:Prop}(h:p:=by(refine aT ?_;(omega))):p:=h
theorem Ff {p:Prop}(h:p:=by(simp only[Rf (l:=l) (a:=a) (k:=k) (by(omega)),NX (l:=l) (a:=a) (k:=k) (by(omega))])):p:=h
theorem Kl {p:Prop}(h:p:=by(refine decide_eq_false ?_;(omega))):p:=h
theorem Km {p:Prop}(h:p:=by((refine aJ ?_ ?_)<;>(repeat' (first|(refine aJ ?_ ?_)|(with_reducible rfl)|(refine decide_eq_true ?_)|(refine Tv ?_)|(refine fx ?_)))<;>(omega))):p:=h
theorem Kn {p:Prop}(h:p:=by show n-(k+1)<n-k;clear next2 last2 next1 last1;omega):p:=h
theorem Ok {p:Prop}(h:p:=by(simp;have h9:=Ci l a k a om;have h8:=wB (l:=l) (n:=a) (k:=k) om om;omega)):p:=h
theorem Ol {p:Prop}(h:p:=by(rw[show a=16 from by(omega)];simp(disch:=decide) only[zW,wA])):p:=h
theorem Om {x:Int}(h:-9223372036854775808≤x∧x≤9223372036854775807):IntKind.i64.wrap x=x:=by
 have h2:=fk (x:=x) h
 rw[aL]at h2
 injection h2 with h3;injection h3 with h4;injection h4
theorem zZ {b:List UInt8}{p i:Nat}(hi:i<32):D.v (.int .u32 (IntKind.u32.wrap ((TA 32 (fR b p i:Int)|||TA 32 (2^min i 32*((IntKind.u8.wrap ((TA 8 (((((b.getD ((((p:Int)+(i:Int))/8).toNat*1) mb).toNat:Nat):Int)).fdiv (2^min (((p:Int)+(i:Int))%8).toNat 8))&&&TA 8 1).toNat:Int))%4294967296)%4294967296)).toNat:Int)))=D.v (.int .u32 ((fR b p (i+1):Nat):Int)):=by
 refine aT ?_
 have e1:(((p:Int)+(i:Int))/8).toNat*1=(p+i)/8:=by omega
 have e2:min (((p:Int)+(i:Int))%8).toNat 8=(p+i)%8:=by omega
 rw[e1,e2,show min i 32=i from by omega]
 generalize hX:b.getD ((p+i)/8) mb=X
 have hx:=X.toNat_lt
 have hp:(0:Int)≤2^((p+i)%8):=Yo (Int.pow_pos (by decide))
 have hd:((X.toNat:Nat):Int).fdiv (2^((p+i)%8))=((X.toNat/2^((p+i)%8):Nat):Int):=by
  rw[Vi _ hp];push_cast;rfl
 have hl:X.toNat/2^((p+i)%8)≤X.toNat:=XK _ _
 have hb:((X.toNat/2^((p+i)%8))%2)=mi b (p+i):=by unfold mi;rw[hX]
 rw[hd]
 generalize X.toNat/2^((p+i)%8)=Y at *
 rw[wt 1 2 (by omega) (by decide) (by decide) (by decide)]
 have h1:=yb b (p+i)
 have h2:=nG b p i
 have h3:2^(i+1)≤2^32:=TX (by decide) (by omega)
 have h4:fR b p (i+1)<2^(i+1):=nG b p (i+1)
 have h7:fR b p (i+1)=fR b p i+2^i*mi b (p+i):=rfl
 have h6:(2:Int)^i*(((Y:Nat):Int)%2%4294967296)%4294967296=((2^i*mi b (p+i):Nat):Int):=by
  rw[Yr (a:=((Y:Nat):Int)%2) (by omega) (by omega),show((Y:Nat):Int)%2=((mi b (p+i):Nat):Int)from by omega]
  rw[show(2:Int)^i*((mi b (p+i):Nat):Int)=((2^i*mi b (p+i):Nat):Int)from by push_cast;rfl]
  exact Yr (by omega) (by omega)
 rw[h6,qF (by omega) (by omega),Vf,Vf,Nat.or_comm,←VZ h2,Xf]
 rfl
theorem yo {l:List UInt8}{i m:Nat}(ho:∀j,j<i→(l.getD j mb).toNat≤m)(h:¬((m:Nat):Int)<(((l.getD (i*1) mb).toNat:Nat):Int)):∀j,j<i+1→(l.getD j mb).toNat≤m:=fun j hj=>by
 rcases T5 j i with q|q
 ·exact ho j q
 ·have q2:j=i:=by omega
  subst q2;rw[TZ]at h;omega
theorem Rv {l:List UInt8}{i:Nat}(h:i<l.length)(hN:l.length≤1000000)(h1:0<(l.getD (i*1) mb).toNat)(h2:(l.getD (i*1) mb).toNat≤15):D.v (.int .i64 (IntKind.i64.wrap (((aU (l.take i):Nat):Int)+IntKind.i64.wrap (2^min (15-(((l.getD (i*1) mb).toNat:Nat):Int)).toNat 64*1))))=D.v (.int .i64 ((aU (l.take (i+1)):Nat):Int)):=by
 refine aT ?_
 rw[TZ]at *
 rw[iH h]
 generalize(l.getD i mb).toNat=x at *
 have hk:=Ce (l.take i)
 rw[TR]at hk
 rw[if_neg (by omega),show min (15-(x:Int)).toNat 64=15-x from by omega]
 have hp:2^(15-x)≤2^15:=TX (by decide) (by omega)
 have e:(2:Int)^(15-x)*1=((2^(15-x):Nat):Int):=by push_cast;omega
 rw[e]
 generalize 2^(15-x)=Z at *
 rw[Om (x:=((Z:Nat):Int)) (by omega),Om (by omega)]
 omega
theorem On {l:List UInt8}{i:Nat}(h:i<l.length)(h1:¬(0:Int)<(((l.getD (i*1) mb).toNat:Nat):Int)):aU (l.take (i+1))=aU (l.take i)∧bc (l.take (i+1))=bc (l.take i):=by
 rw[TZ]at h1
 rw[iH h,kx h,if_pos (by omega),if_pos (by omega)];exact⟨rfl,rfl⟩
theorem Rw {l:List UInt8}{i:Nat}(h:i<l.length)(hN:l.length≤1000000)(h1:0<(l.getD (i*1) mb).toNat):D.v (.int .i64 (IntKind.i64.wrap (((bc (l.take i):Nat):Int)+1)))=D.v (.int .i64 ((bc (l.take (i+1)):Nat):Int)):=by
 refine aT ?_
 rw[TZ]at *
 rw[kx h,if_neg (by omega)]
 have hk:=Cd (l.take i)
 rw[TR]at hk
 rw[Om (by omega)];omega
theorem Ko (b:List UInt8)(n:Nat)(hn:n=b.length)(hN:n≤1000000)(p m:Nat)(hp:p≤16000000)(hm:m≤32):S0 84 [.sl false n 1 (b.map dB),nD p,nD m] [] (.tup [uD (gA b p m),nD (kJ b p m)]) []:=by
 refine SpecH.run T_ok ai Try.func84 rfl rfl rfl trivial rfl 1000 64 (fun R ok=>(.s 19 (.f (decide (32<(m:Int))) Kl (.s 5 (.ow (8*(n:Int)) (.s 3 (.ow (8*(n:Int)-m) (.s 2 (.bd (8*(n:Int)-m<p) (fun p0 p0f=>(.s 2 (.out [] [] (Uw [uI 0,zI 10]) [] R (ok _ _ (by(rw[Ht (by(omega)),Hu (by(omega))];rfl)) wr)))) (fun p0 p0f=>(.s 2 (Hn.inl T_ok ai false 50 0 (ap Try.prog 84 0) (fun(x:(i:Nat)×'(hi:i≤m)×'Unit)=>match x with|⟨i,hi,_⟩=>TJ [(0,TL false n 1 (map dB b)),(1,zN p),(6,uD (fR b p i)),(26,zN m),(27,nD i)] [] 0) (fun(x:(i:Nat)×'(hi:i≤m)×'Unit)=>match x with|⟨i,hi,_⟩=>m-i) [⟨Unit,.exit 0,fun x=>match x with|()=>TJ [(0,TL false n 1 (map dB b)),(1,zN p),(6,uD (fR b p m)),(26,zN m)] [] 0⟩] 1000 64 (fun|⟨i,hi,_⟩,Q,next1,last1=>(.s 2 (.bd ((i:Int)<m) (fun p1 p1f=>(.s 8 (.ow ((p:Int)+i) (.s 2 (.opt (b4 Uf (TM Uf (Xl ((p:Int)+i) 8))) (zI (((p:Int)+i)/8)) (aS (@dv  ((p:Int)+i) (8) om om)) (.s 1 (.chk (true&&decide (((p:Int)+i)/8<n)&&true) Km (.s 2 (.opt ((map dB b)[zK (((p:Int)+i)/8)*1]?) (dB (getD b (zK (((p:Int)+i)/8)*1) mb)) (aq _ _ om) (.s 4 (.ow ((p:Int)+i) (.s 2 (.opt (b4 Uf (We ((p:Int)+i) 8)) (zI (((p:Int)+i)%8)) (aS (@fm  ((p:Int)+i) (8) om)) (.s 2 (.opt (b4 Vv (Uk (↑(Tp (getD b (zK (((p:Int)+i)/8)*1) mb)):Int) (2^min (zK (((p:Int)+i)%8)) 8))) (bI (Uk (↑(Tp (getD b (zK (((p:Int)+i)/8)*1) mb)):Int) (2^min (zK (((p:Int)+i)%8)) 8))) (de _ _) (.s 2 (.opt (b4 Vv (TM Vv (↑(Uc (TA 8 (Uk (↑(Tp (getD b (zK (((p:Int)+i)/8)*1) mb)):Int) (2^min (zK (((p:Int)+i)%8)) 8))&&&TA 8 1)):Int))) (bI (TM Vv (↑(Uc (TA 8 (Uk (↑(Tp (getD b (zK (((p:Int)+i)/8)*1) mb)):Int) (2^min (zK (((p:Int)+i)%8)) 8))&&&TA 8 1)):Int))) (de _ _) (.s 1 (.opt (ar .u32 (TM Vv (↑(Uc (TA 8 (Uk (↑(Tp (getD b (zK (((p:Int)+i)/8)*1) mb)):Int) (2^min (zK (((p:Int)+i)%8)) 8))&&&TA 8 1)):Int))) (uI (TM Vv (↑(Uc (TA 8 (Uk (↑(Tp (getD b (zK (((p:Int)+i)/8)*1) mb)):Int) (2^min (zK (((p:Int)+i)%8)) 8))&&&TA 8 1)):Int)%4294967296)) (aL _ _) (.s 3 (.opt (ar .u32 (2^min i 32*(TM Vv (↑(Uc (TA 8 (Uk (↑(Tp (getD b (zK (((p:Int)+i)/8)*1) mb)):Int) (2^min (zK (((p:Int)+i)%8)) 8))&&&TA 8 1)):Int)%4294967296))) (uI (2^min i 32*(TM Vv (↑(Uc (TA 8 (Uk (↑(Tp (getD b (zK (((p:Int)+i)/8)*1) mb)):Int) (2^min (zK (((p:Int)+i)%8)) 8))&&&TA 8 1)):Int)%4294967296)%4294967296)) (aL _ _) (.s 2 (.opt (b4 Uj (TM Uj (↑(Uc (TA 32 (↑(fR b p i):Int)|||TA 32 (2^min i 32*(TM Vv (↑(Uc (TA 8 (Uk (↑(Tp (getD b (zK (((p:Int)+i)/8)*1) mb)):Int) (2^min (zK (((p:Int)+i)%8)) 8))&&&TA 8 1)):Int)%4294967296)%4294967296))):Int))) (uI (TM Uj (↑(Uc (TA 32 (↑(fR b p i):Int)|||TA 32 (2^min i 32*(TM Vv (↑(Uc (TA 8 (Uk (↑(Tp (getD b (zK (((p:Int)+i)/8)*1) mb)):Int) (2^min (zK (((p:Int)+i)%8)) 8))&&&TA 8 1)):Int)%4294967296)%4294967296))):Int))) (de _ _) (.s 3 (.ow ((i:Int)+1) (.s 1 (.val 6 (uI (TM Uj (↑(Uc (TA 32 (↑(fR b p i):Int)|||TA 32 (2^min i 32*(TM Vv (↑(Uc (TA 8 (Uk (↑(Tp (getD b (zK (((p:Int)+i)/8)*1) mb)):Int) (2^min (zK (((p:Int)+i)%8)) 8))&&&TA 8 1)):Int)%4294967296)%4294967296))):Int))) (ak (fR b p (i+1))) (by(exact zZ (by(omega)))) (.val 27 (zI ((i:Int)+1)) (zN (i+1)) wF (Hn.next next1 ⟨(i+1),om,⟨⟩⟩ (by show m-(i+1)<m-i;clear next1 last1;omega) [] ro))))))))))))))))))))))))))))) (fun p1 p1f=>(.val 6 (ak (fR b p i)) (ak (fR b p m)) (by(rw[show i=m from by(omega)])) (Hn.last last1 0 (():Unit) rfl [] ro)))))) (fun|⟨i,hi,_⟩=>by kernel_rfl) ⟨(0),om,⟨⟩⟩ [] ro (bY (fun|()=>(.s 3 (.out [] [] (Uw [ak (fR b p m),zI 0]) [] R (ok _ _ (by(rw[yc (by(omega)),Cc (by(omega))];rfl)) wr))))))))))))))))) kr
theorem Cp (b:List UInt8)(n:Nat)(hn:n=b.length)(hN:n≤1000000)(p m:Int)(hp:0≤p∧p≤16000000)(hm:0≤m∧m≤32):S0 84 [.sl false n 1 (b.map dB),iD p,iD m] [] (.tup [uD (gA b p.toNat m.toNat),nD (kJ b p.toNat m.toNat)]) []:=by
 obtain⟨k,rfl⟩:=UI hp.1
 obtain⟨j,rfl⟩:=UI hm.1
 exact Ko b n hn hN k j (by omega) (by omega)
theorem sj (l:List UInt8)(n:Nat)(hn:n=l.length)(hN:n≤1000000)(m:Nat)(hm:1≤m∧m≤15):S0 86 [.sl false n 1 (l.map dB),nD m] [] (nD (aC l m)) []:=by
 refine SpecH.run T_ok ai Try.func86 rfl rfl rfl trivial rfl 1000 64 (fun R ok=>(.s 6 (.f (decide ((m:Int)<1)) Kl (.s 4 (.f (decide (15<(m:Int))) Kl (.s 4 (.bd (320<(n:Int)) (fun p0 p0f=>(.s 1 (.out [] [] (zI 4) [] R (ok _ _ uP wr)))) (fun p0 p0f=>(.s 5 (Hn.inl T_ok ai false 52 0 (ap Try.prog 86 0) (fun(x:(i:Nat)×'(hi:i≤n)×'(ho:∀j,j<i→(l.getD j mb).toNat≤m)×'Unit)=>match x with|⟨i,hi,ho,_⟩=>TJ [(1,zN m),(5,nD (aU (l.take i))),(6,nD (bc (l.take i))),(18,TL false n 1 (map dB l)),(19,zN n),(20,nD i)] [] 0) (fun(x:(i:Nat)×'(hi:i≤n)×'(ho:∀j,j<i→(l.getD j mb).toNat≤m)×'Unit)=>match x with|⟨i,hi,ho,_⟩=>n-i) [⟨(ho2:dh l m=false)×'Unit,.exit 0,fun x=>match x with|⟨ho2,_⟩=>TJ [(1,zN m),(5,nD (aU l)),(6,nD (bc l)),(18,TL false n 1 (map dB l)),(19,zN n)] [] 0⟩,⟨(ho3:dh l m=true)×'Unit,.ret,fun x=>match x with|⟨ho3,_⟩=>TJ [(4,iD 2)] [] 0⟩] 1000 64 (fun|⟨i,hi,ho,_⟩,Q,next1,last1=>(.s 2 (.bd ((i:Int)<n) (fun p1 p1f=>(.s 1 (.chk (true&&decide ((i:Int)<n)&&true) Km (.s 2 (.opt ((map dB l)[i*1]?) (dB (getD l (i*1) mb)) (aq _ _ om) (.s 3 (.op (↑(Tp (getD l (i*1) mb)):Int) (by(exact iG _ (by decide) (by decide))) (.s 3 (.bd ((m:Int)<(↑(Tp (getD l (i*1) mb)):Int)) (fun p2 p2f=>(.s 1 (Hn.last last1 1 (⟨(by(exact yd (i:=i*1) (by(omega)) (by(omega)))),⟨⟩⟩:(ho3:dh l m=true)×'Unit) rfl [] ro))) (fun p2 p2f=>(.s 3 (.bd (0<(↑(Tp (getD l (i*1) mb)):Int)) (fun p3 p3f=>(.s 4 (.opt (ar .u8 (15-(↑(Tp (getD l (i*1) mb)):Int))) (bI (15-(↑(Tp (getD l (i*1) mb)):Int))) (bB om) (.s 1 (.chk (decide (0≤15-(↑(Tp (getD l (i*1) mb)):Int))) (by(refine decide_eq_true ?_;(omega))) (.opt (ar .i64 (2^min (zK (15-(↑(Tp (getD l (i*1) mb)):Int))) 64*1)) (zI (TM Uf (2^min (zK (15-(↑(Tp (getD l (i*1) mb)):Int))) 64*1))) (aL _ _) (.s 2 (.opt (ar .i64 ((↑(aU (take i l)):Int)+TM Uf (2^min (zK (15-(↑(Tp (getD l (i*1) mb)):Int))) 64*1))) (zI (TM Uf ((↑(aU (take i l)):Int)+TM Uf (2^min (zK (15-(↑(Tp (getD l (i*1) mb)):Int))) 64*1)))) (aL _ _) (.s 4 (.opt (ar .i64 ((↑(bc (take i l)):Int)+1)) (zI (TM Uf ((↑(bc (take i l)):Int)+1))) (aL _ _) (.s 3 (.ow ((i:Int)+1) (.s 1 (.val 5 (zI (TM Uf ((↑(aU (take i l)):Int)+TM Uf (2^min (zK (15-(↑(Tp (getD l (i*1) mb)):Int))) 64*1)))) (zN (aU (take (i+1) l))) (by(exact Rv (by(omega)) (by(omega)) (by(omega)) (by(omega)))) (.val 6 (zI (TM Uf ((↑(bc (take i l)):Int)+1))) (zN (bc (take (i+1) l))) (by(exact Rw (by(omega)) (by(omega)) (by(omega)))) (.val 20 (zI ((i:Int)+1)) (zN (i+1)) wF (Hn.next next1 ⟨(i+1),om,(by(exact yo ho (by(omega)))),⟨⟩⟩ (by show n-(i+1)<n-i;clear next1 last1;omega) [] ro))))))))))))))))) (fun p3 p3f=>(.s 2 (.ow ((i:Int)+1) (.s 1 (.val 5 (zN (aU (take i l))) (zN (aU (take (i+1) l))) (by(rw[(On (l:=l) (i:=i) (by(omega)) (by(omega))).1])) (.val 6 (zN (bc (take i l))) (zN (bc (take (i+1) l))) (by(rw[(On (l:=l) (i:=i) (by(omega)) (by(omega))).2])) (.val 20 (zI ((i:Int)+1)) (zN (i+1)) wF (Hn.next next1 ⟨(i+1),om,(by(exact yo ho (by(omega)))),⟨⟩⟩ (by show n-(i+1)<n-i;clear next1 last1;omega) [] ro)))))))))))))))))))) (fun p1 p1f=>(.val 5 (zN (aU (take i l))) (zN (aU l)) (by(rw[T9 (by(omega))])) (.val 6 (zN (bc (take i l))) (zN (bc l)) (by(rw[T9 (by(omega))])) (Hn.last last1 0 (⟨(by(exact lf (fun j hj=>ho j (by(omega))))),⟨⟩⟩:(ho2:dh l m=false)×'Unit) rfl [] ro))))))) (fun|⟨i,hi,ho,_⟩=>by kernel_rfl) ⟨(0),om,om,⟨⟩⟩ [] ro (gd (fun|⟨ho2,_⟩=>(.s 4 (.bd (32768<(↑(aU l):Int)) (fun p4 p4f=>(.s 1 (.out [] [] (zI 30) [] R (ok _ _ uP wr)))) (fun p4 p4f=>(.s 4 (.br ((↑(aU l):Int)==32768) (fun p5=>have p5f:=eq_of_beq p5;(.s 2 (.out [] [] (zI 0) [] R (ok _ _ uP wr)))) (fun p5=>have p5f:=am p5;(.s 4 (.br ((↑(bc l):Int)==0) (fun p6=>have p6f:=eq_of_beq p6;(.s 2 (.out [] [] (zI 0) [] R (ok _ _ uP wr)))) (fun p6=>have p6f:=am p6;(.s 5 (.br ((↑(bc l):Int)==1) (fun p7=>have p7f:=eq_of_beq p7;(.s 5 (.br ((↑(aU l):Int)==16384) (fun p8=>have p8f:=eq_of_beq p8;(.s 1 (.out [] [] (zI 0) [] R (ok _ _ uP wr)))) (fun p8=>have p8f:=am p8;(.s 1 (.out [] [] (zI 31) [] R (ok _ _ uP wr))))))) (fun p7=>have p7f:=am p7;(.s 6 (.out [] [] (zI 31) [] R (ok _ _ uP wr)))))))))))))))) (fun|⟨ho3,_⟩=>(.out [] [] (zI 2) [] R (ok _ _ uP wr)))))))))))))) kr
theorem uQ (l:List UInt8)(n:Nat)(hn:n=l.length)(hN:n≤1000000)(m:Nat)(hm:1≤m∧m≤15)(h:aC l m≠0):S0 58 [.sl false n 1 (l.map dB),nD m] [] (.tup [Cf,nD (aC l m)]) []:=by
 refine SpecH.run T_ok ai Try.func58 rfl rfl rfl trivial rfl 1000 64 (fun R ok=>(.s 6 (.cl 86 false [] (.fn Q9 (@sj (l) (n) om om (m) om)) (.s 4 (.t ((↑(aC l m):Int) !=0) (by(simp_all;done)) (.s 12 (.out [] [] (Uw [UA [zI 0,zI 0,zI 0,zI 0,zI 0,zI 0,zI 0,zI 0,zI 0,zI 0,zI 0,zI 0,zI 0,zI 0,zI 0,zI 0,zS],zN (aC l m)]) [] R (ok _ _ (by exact rfl) wr)))))))) kr
theorem sk (l:List UInt8)(n:Nat)(hn:n=l.length)(hN:n≤1000000)(m:Nat)(hm:1≤m∧m≤15)(h:aC l m=0):S0 58 [.sl false n 1 (l.map dB),nD m] [] (.tup [.agg (cZ (aa l)++[.ref 0 0 0 (ab l).length 1]),iD 0]) [⟨(ab l).map nD, 3,true⟩]:=by
 have hc:=dw h
 refine SpecH.run T_ok ai Try.func58 rfl rfl rfl ⟨rY _ (fun _=>rfl) _,trivial⟩ rfl 1000 64 (fun R ok=>(.s 6 (.cl 86 false [] (.fn Q9 (@sj (l) (n) om om (m) om)) (.s 4 (.f ((↑(aC l m):Int) !=0) (by(simp <;>(omega))) (.s 9 (.nilc 0 0 (Tq [zI 0,zI 0,zI 0,zI 0,zI 0,zI 0,zI 0,zI 0,zI 0,zI 0,zI 0,zI 0,zI 0,zI 0,zI 0,zI 0,zS] 43 false) 16 144 1 3 (.blk 0 0 (Tq [zI 0,zI 0,zI 0,zI 0,zI 0,zI 0,zI 0,zI 0,zI 0,zI 0,zI 0,zI 0,zI 0,zI 0,zI 0,zI 0,Tu 144 144 0 0 1] 43 false) (Tq [zN (ah l 0 0 0),zN (ah l 0 0 1),zN (ah l 0 0 2),zN (ah l 0 0 3),zN (ah l 0 0 4),zN (ah l 0 0 5),zN (ah l 0 0 6),zN (ah l 0 0 7),zN (ah l 0 0 8),zN (ah l 0 0 9),zN (ah l 0 0 10),zN (ah l 0 0 11),zN (ah l 0 0 12),zN (ah l 0 0 13),zN (ah l 0 0 14),zN (ah l 0 0 15),Tu 144 144 0 (length (aK l 0 0)) 1] 43 false) (by(simp only[yf,uF];rfl)) (.blk 144 144 (Tq [] 3 true) (Tq (map nD (aK l 0 0)) 3 true) (by(simp only[yf,uF];rfl)) (Hn.inl T_ok ai false 32 136 (ap Try.prog 109 0) (fun(x:(a:Nat)×'(ha:a≤16)×'Unit)=>match x with|⟨a,ha,_⟩=>TJ [(0,D.yl 128 128),(1,TF 80 80 0),(6,dG a)] [⟨0,0,0,0,.b ⟨cZ (ah l a 0)++[(Tu 160 160 (0) ((aK l a 0).length) 1)],43,false⟩⟩,⟨80,80,80,80,.b ⟨[TL false n 1 (map dB l)],24,false⟩⟩,⟨128,128,128,128,.l Vr none (rangeAt Try.prog 58 0).1 (rangeAt Try.prog 58 0).2.1 (rangeAt Try.prog 58 0).2.2 34 [(0,TL false n 1 (map dB l)),(1,zN m),(11,zN (aC l m)),(5,zI 0),(9,TL false n 1 (map dB l)),(17,U9 (Ui 109) [] [TF 80 80 0]),(13,D.v (.bool false)),(4,TF 0 0 0),(16,TL false n 1 (map dB l)),(12,zN (aC l m)),(6,zN (aC l m)),(10,zN m)]⟩,⟨160,160,144,144,.b ⟨(aK l a 0).map nD,3,true⟩⟩] 168) (fun(x:(a:Nat)×'(ha:a≤16)×'Unit)=>match x with|⟨a,ha,_⟩=>16-a) [⟨Unit,.exit 0,fun x=>match x with|()=>TJ [(0,D.yl 128 128),(1,TF 80 80 0)] [⟨0,0,0,0,.b ⟨cZ (aa l)++[(Tu 160 160 (0) ((ab l).length) 1)],43,false⟩⟩,⟨80,80,80,80,.b ⟨[TL false n 1 (map dB l)],24,false⟩⟩,⟨128,128,128,128,.l Vr none (rangeAt Try.prog 58 0).1 (rangeAt Try.prog 58 0).2.1 (rangeAt Try.prog 58 0).2.2 34 [(0,TL false n 1 (map dB l)),(1,zN m),(11,zN (aC l m)),(5,zI 0),(9,TL false n 1 (map dB l)),(17,U9 (Ui 109) [] [TF 80 80 0]),(13,D.v (.bool false)),(4,TF 0 0 0),(16,TL false n 1 (map dB l)),(12,zN (aC l m)),(6,zN (aC l m)),(10,zN m)]⟩,⟨160,160,144,144,.b ⟨(ab l).map nD,3,true⟩⟩] 168⟩] 1000 64 (fun|⟨a,ha,_⟩,Q,next1,last1=>(.s 2 (.bd ((a:Int)<16) (fun p0 p0f=>(.s 7 (Hn.inl T_ok ai false 32 136 (ap Try.prog 109 1) (fun(x:(k:Nat)×'(hk:k≤n)×'Unit)=>match x with|⟨k,hk,_⟩=>TJ [(0,D.yl 128 128),(1,TF 80 80 0),(3,aQ a),(6,aQ a),(9,TL false n 1 (map dB l)),(10,zN n),(11,nD k)] [⟨0,0,0,0,.b ⟨cZ (ah l a k)++[(Tu 160 160 (0) ((aK l a k).length) 1)],43,false⟩⟩,⟨80,80,80,80,.b ⟨[TL false n 1 (map dB l)],24,false⟩⟩,⟨128,128,128,128,.l Vr none (rangeAt Try.prog 58 0).1 (rangeAt Try.prog 58 0).2.1 (rangeAt Try.prog 58 0).2.2 34 [(0,TL false n 1 (map dB l)),(1,zN m),(11,zN (aC l m)),(5,zI 0),(9,TL false n 1 (map dB l)),(17,U9 (Ui 109) [] [TF 80 80 0]),(13,D.v (.bool false)),(4,TF 0 0 0),(16,TL false n 1 (map dB l)),(12,zN (aC l m)),(6,zN (aC l m)),(10,zN m)]⟩,⟨160,160,160,160,.b ⟨(aK l a k).map nD,3,true⟩⟩] 168) (fun(x:(k:Nat)×'(hk:k≤n)×'Unit)=>match x with|⟨k,hk,_⟩=>n-k) [⟨Unit,.exit 2,fun x=>match x with|()=>TJ [(0,D.yl 128 128),(1,TF 80 80 0),(3,aQ a),(6,aQ a),(9,TL false n 1 (map dB l)),(10,zN n)] [⟨0,0,0,0,.b ⟨cZ (ah l a n)++[(Tu 160 160 (0) ((aK l a n).length) 1)],43,false⟩⟩,⟨80,80,80,80,.b ⟨[TL false n 1 (map dB l)],24,false⟩⟩,⟨128,128,128,128,.l Vr none (rangeAt Try.prog 58 0).1 (rangeAt Try.prog 58 0).2.1 (rangeAt Try.prog 58 0).2.2 34 [(0,TL false n 1 (map dB l)),(1,zN m),(11,zN (aC l m)),(5,zI 0),(9,TL false n 1 (map dB l)),(17,U9 (Ui 109) [] [TF 80 80 0]),(13,D.v (.bool false)),(4,TF 0 0 0),(16,TL false n 1 (map dB l)),(12,zN (aC l m)),(6,zN (aC l m)),(10,zN m)]⟩,⟨160,160,160,160,.b ⟨(aK l a n).map nD,3,true⟩⟩] 168⟩] 1000 64 (fun|⟨k,hk,_⟩,Q,next2,last2=>(.s 2 (.bd ((k:Int)<n) (fun p1 p1f=>(.s 2 (.chk (true&&decide ((k:Int)<n)&&true) Km (.s 2 (.opt ((map dB l)[k*1]?) (dB (getD l (k*1) mb)) (aq _ _ om) (.s 8 (.br ((↑(Tp (getD l (k*1) mb)):Int)==(a:Int)) (fun p2=>have p2f:=eq_of_beq p2;(.s 6 (.bd (0<(a:Int)) (fun p3 p3f=>(.s 13 (.chk (true&&decide ((a:Int)<(↑16:Int))) aD (.s 3 (.opt ((cZ (ah l a k)++[Tu 160 160 0 (length (aK l a k)) 1])[0+a*1]?) (nD (ah l a k (0+a*1))) (@ye (ah l a k) ([Tu 160 160 0 (length (aK l a k)) 1]) (0+a*1) om) (.s 2 (.op ((↑(ah l a k (0+a*1)):Int)+1) Ok (.s 4 (.chk (true&&decide ((a:Int)<(↑16:Int))) aD (.s 2 (.chk (true&&Tz (0+a*1+1) 17) (by(refine Tv ?_;(omega))) (.lst (aj [zN (ah l a k 0),zN (ah l a k 1),zN (ah l a k 2),zN (ah l a k 3),zN (ah l a k 4),zN (ah l a k 5),zN (ah l a k 6),zN (ah l a k 7),zN (ah l a k 8),zN (ah l a k 9),zN (ah l a k 10),zN (ah l a k 11),zN (ah l a k 12),zN (ah l a k 13),zN (ah l a k 14),zN (ah l a k 15),Tu 160 160 0 (length (aK l a k)) 1] (0+a*1) [zI ((↑(ah l a k (0+a*1)):Int)+1)]) ([zN (ah l a (k+1) 0),zN (ah l a (k+1) 1),zN (ah l a (k+1) 2),zN (ah l a (k+1) 3),zN (ah l a (k+1) 4),zN (ah l a (k+1) 5),zN (ah l a (k+1) 6),zN (ah l a (k+1) 7),zN (ah l a (k+1) 8),zN (ah l a (k+1) 9),zN (ah l a (k+1) 10),zN (ah l a (k+1) 11),zN (ah l a (k+1) 12),zN (ah l a (k+1) 13),zN (ah l a (k+1) 14),zN (ah l a (k+1) 15),Tu 160 160 0 (length (aK l a k)) 1]) (@Rg l a k (0+a*1) (Tu 160 160 0 (length (aK l a k)) 1) om om om om) (.s 10 (.chk (true&&Tx (length (aK l a k)*1) (length (map nD (aK l a k)))&&true&&true&&true&&true&&Tz ((length (aK l a k)+1)*8) 140737488355328) Ok (.s 12 (.ow ((k:Int)+1) (.s 1 (.val 11 (zI ((k:Int)+1)) (zN (k+1)) wF (.blk 0 0 (Tq [zN (ah l a (k+1) 0),zN (ah l a (k+1) 1),zN (ah l a (k+1) 2),zN (ah l a (k+1) 3),zN (ah l a (k+1) 4),zN (ah l a (k+1) 5),zN (ah l a (k+1) 6),zN (ah l a (k+1) 7),zN (ah l a (k+1) 8),zN (ah l a (k+1) 9),zN (ah l a (k+1) 10),zN (ah l a (k+1) 11),zN (ah l a (k+1) 12),zN (ah l a (k+1) 13),zN (ah l a (k+1) 14),zN (ah l a (k+1) 15),Tu 424 424 0 (length (aK l a k)+1) 1] 43 false) (Tq [zN (ah l a (k+1) 0),zN (ah l a (k+1) 1),zN (ah l a (k+1) 2),zN (ah l a (k+1) 3),zN (ah l a (k+1) 4),zN (ah l a (k+1) 5),zN (ah l a (k+1) 6),zN (ah l a (k+1) 7),zN (ah l a (k+1) 8),zN (ah l a (k+1) 9),zN (ah l a (k+1) 10),zN (ah l a (k+1) 11),zN (ah l a (k+1) 12),zN (ah l a (k+1) 13),zN (ah l a (k+1) 14),zN (ah l a (k+1) 15),Tu 424 424 0 (length (aK l a (k+1))) 1] 43 false) (by(simp only[Hv (l:=l) (a:=a) (k:=k) (by(omega)) (by(omega)),Tt];rfl)) (.blk 424 424 (Tq (map nD (aK l a k)++[zN k]) 3 true) (Tq (map nD (aK l a (k+1))) 3 true) (by(simp only[Hv (l:=l) (a:=a) (k:=k) (by(omega)) (by(omega)),Uq];rfl)) (Hn.next next2 ⟨(k+1),om,⟨⟩⟩ Kn [(0,0),(80,80),(128,128),(424,424)] ro))))))))))))))))))))) (fun p3 p3f=>(.s 12 (.ow ((k:Int)+1) (.s 1 (.val 11 (zI ((k:Int)+1)) (zN (k+1)) wF (.blk 0 0 (Tq [zN (ah l a k 0),zN (ah l a k 1),zN (ah l a k 2),zN (ah l a k 3),zN (ah l a k 4),zN (ah l a k 5),zN (ah l a k 6),zN (ah l a k 7),zN (ah l a k 8),zN (ah l a k 9),zN (ah l a k 10),zN (ah l a k 11),zN (ah l a k 12),zN (ah l a k 13),zN (ah l a k 14),zN (ah l a k 15),Tu 160 160 0 (length (aK l a k)) 1] 43 false) (Tq [zN (ah l a (k+1) 0),zN (ah l a (k+1) 1),zN (ah l a (k+1) 2),zN (ah l a (k+1) 3),zN (ah l a (k+1) 4),zN (ah l a (k+1) 5),zN (ah l a (k+1) 6),zN (ah l a (k+1) 7),zN (ah l a (k+1) 8),zN (ah l a (k+1) 9),zN (ah l a (k+1) 10),zN (ah l a (k+1) 11),zN (ah l a (k+1) 12),zN (ah l a (k+1) 13),zN (ah l a (k+1) 14),zN (ah l a (k+1) 15),Tu 160 160 0 (length (aK l a (k+1))) 1] 43 false) Ff (.blk 160 160 (Tq (map nD (aK l a k)) 3 true) (Tq (map nD (aK l a (k+1))) 3 true) Ff (Hn.next next2 ⟨(k+1),om,⟨⟩⟩ Kn [(0,0),(80,80),(128,128),(160,160)] ro))))))))))) (fun p2=>have p2f:=am p2;(.s 18 (.ow ((k:Int)+1) (.s 1 (.val 11 (zI ((k:Int)+1)) (zN (k+1)) wF (.blk 0 0 (Tq [zN (ah l a k 0),zN (ah l a k 1),zN (ah l a k 2),zN (ah l a k 3),zN (ah l a k 4),zN (ah l a k 5),zN (ah l a k 6),zN (ah l a k 7),zN (ah l a k 8),zN (ah l a k 9),zN (ah l a k 10),zN (ah l a k 11),zN (ah l a k 12),zN (ah l a k 13),zN (ah l a k 14),zN (ah l a k 15),Tu 160 160 0 (length (aK l a k)) 1] 43 false) (Tq [zN (ah l a (k+1) 0),zN (ah l a (k+1) 1),zN (ah l a (k+1) 2),zN (ah l a (k+1) 3),zN (ah l a (k+1) 4),zN (ah l a (k+1) 5),zN (ah l a (k+1) 6),zN (ah l a (k+1) 7),zN (ah l a (k+1) 8),zN (ah l a (k+1) 9),zN (ah l a (k+1) 10),zN (ah l a (k+1) 11),zN (ah l a (k+1) 12),zN (ah l a (k+1) 13),zN (ah l a (k+1) 14),zN (ah l a (k+1) 15),Tu 160 160 0 (length (aK l a (k+1))) 1] 43 false) Ff (.blk 160 160 (Tq (map nD (aK l a k)) 3 true) (Tq (map nD (aK l a (k+1))) 3 true) Ff (Hn.next next2 ⟨(k+1),om,⟨⟩⟩ Kn [(0,0),(80,80),(128,128),(160,160)] ro))))))))))))))) (fun p1 p1f=>(.blk 0 0 (Tq [zN (ah l a k 0),zN (ah l a k 1),zN (ah l a k 2),zN (ah l a k 3),zN (ah l a k 4),zN (ah l a k 5),zN (ah l a k 6),zN (ah l a k 7),zN (ah l a k 8),zN (ah l a k 9),zN (ah l a k 10),zN (ah l a k 11),zN (ah l a k 12),zN (ah l a k 13),zN (ah l a k 14),zN (ah l a k 15),Tu 160 160 0 (length (aK l a k)) 1] 43 false) (Tq [zN (ah l a n 0),zN (ah l a n 1),zN (ah l a n 2),zN (ah l a n 3),zN (ah l a n 4),zN (ah l a n 5),zN (ah l a n 6),zN (ah l a n 7),zN (ah l a n 8),zN (ah l a n 9),zN (ah l a n 10),zN (ah l a n 11),zN (ah l a n 12),zN (ah l a n 13),zN (ah l a n 14),zN (ah l a n 15),Tu 160 160 0 (length (aK l a n)) 1] 43 false) (by(rw[show k=n from by(omega)])) (.blk 160 160 (Tq (map nD (aK l a k)) 3 true) (Tq (map nD (aK l a n)) 3 true) (by(rw[show k=n from by(omega)])) (Hn.last last2 0 (():Unit) rfl [(0,0),(80,80),(128,128),(160,160)] ro))))))) (fun|⟨k,hk,_⟩=>by kernel_rfl) ⟨(0),om,⟨⟩⟩ [(0,0),(80,80),(128,128),(160,160)] ro (bY (fun|()=>(.s 2 (.opt (ar .u8 ((a:Int)+1)) (bI ((a:Int)+1)) (bB om) (.s 1 (.val 6 (bI ((a:Int)+1)) (aQ (a+1)) wF (.blk 0 0 (Tq [zN (ah l a n 0),zN (ah l a n 1),zN (ah l a n 2),zN (ah l a n 3),zN (ah l a n 4),zN (ah l a n 5),zN (ah l a n 6),zN (ah l a n 7),zN (ah l a n 8),zN (ah l a n 9),zN (ah l a n 10),zN (ah l a n 11),zN (ah l a n 12),zN (ah l a n 13),zN (ah l a n 14),zN (ah l a n 15),Tu 160 160 0 (length (aK l a n)) 1] 43 false) (Tq [zN (ah l (a+1) 0 0),zN (ah l (a+1) 0 1),zN (ah l (a+1) 0 2),zN (ah l (a+1) 0 3),zN (ah l (a+1) 0 4),zN (ah l (a+1) 0 5),zN (ah l (a+1) 0 6),zN (ah l (a+1) 0 7),zN (ah l (a+1) 0 8),zN (ah l (a+1) 0 9),zN (ah l (a+1) 0 10),zN (ah l (a+1) 0 11),zN (ah l (a+1) 0 12),zN (ah l (a+1) 0 13),zN (ah l (a+1) 0 14),zN (ah l (a+1) 0 15),Tu 160 160 0 (length (aK l (a+1) 0)) 1] 43 false) (by(subst hn;simp only[uG,qJ])) (.blk 160 160 (Tq (map nD (aK l a n)) 3 true) (Tq (map nD (aK l (a+1) 0)) 3 true) (by(subst hn;simp only[uG,qJ])) (Hn.next next1 ⟨(a+1),om,⟨⟩⟩ (by show 16-(a+1)<16-a;clear next1 last1;omega) [(0,0),(80,80),(128,128),(160,160)] ro)))))))))))) (fun p0 p0f=>(.blk 0 0 (Tq [zN (ah l a 0 0),zN (ah l a 0 1),zN (ah l a 0 2),zN (ah l a 0 3),zN (ah l a 0 4),zN (ah l a 0 5),zN (ah l a 0 6),zN (ah l a 0 7),zN (ah l a 0 8),zN (ah l a 0 9),zN (ah l a 0 10),zN (ah l a 0 11),zN (ah l a 0 12),zN (ah l a 0 13),zN (ah l a 0 14),zN (ah l a 0 15),Tu 160 160 0 (length (aK l a 0)) 1] 43 false) (Tq [zN (aa l 0),zN (aa l 1),zN (aa l 2),zN (aa l 3),zN (aa l 4),zN (aa l 5),zN (aa l 6),zN (aa l 7),zN (aa l 8),zN (aa l 9),zN (aa l 10),zN (aa l 11),zN (aa l 12),zN (aa l 13),zN (aa l 14),zN (aa l 15),Tu 160 160 0 (length (ab l)) 1] 43 false) Ol (.blk 160 160 (Tq (map nD (aK l a 0)) 3 true) (Tq (map nD (ab l)) 3 true) Ol (Hn.last last1 0 (():Unit) rfl [(0,0),(80,80),(128,128),(160,160)] ro))))))) (fun|⟨a,ha,_⟩=>by kernel_rfl) ⟨(0),om,⟨⟩⟩ [(0,0),(80,80),(128,128),(144,144)] ro (bY (fun|()=>(.s 11 (.out [160] [160] (Uw [UA [zN (aa l 0),zN (aa l 1),zN (aa l 2),zN (aa l 3),zN (aa l 4),zN (aa l 5),zN (aa l 6),zN (aa l 7),zN (aa l 8),zN (aa l 9),zN (aa l 10),zN (aa l 11),zN (aa l 12),zN (aa l 13),zN (aa l 14),zN (aa l 15),Tu 0 0 0 (length (ab l)) 1],zI 0]) [Tq (map nD (ab l)) 3 true] R (ok _ _ (by exact rfl) wr))))))))))))))) kr
theorem Qh {p:Prop}(h:p:=by(refine decide_eq_true ?_;have h7:=Ao l v i;have h6:=Ao l v (i+1);omega)):p:=h
theorem Rx {p:Prop}(h:p:=by clear next1 last1;(simp_all<;>omega)):p:=h
theorem SU {p:Prop}(h:p:=by(simp only[TH,TZ,Uz,Ub,Uh];have h7:=Ao l v i;have h6:=Ao l v (i+1);refine Tv ?_;omega)):p:=h
theorem SV {p:Prop}(h:p:=by(have h7:=Ao l v i;have h6:=Ao l v (i+1);refine Kv ?_ ?_<;>omega)):p:=h
def cT:List Bool→Nat
 |[]=>0
 |b::r=>b.toNat+2*cT r
theorem jr:∀l:List Bool,cT l<2^l.length
 |[]=>VW
 |b::r=>by
  have h:=jr r
  have h2:b.toNat≤1:=Wh b
  rw[T3,Us,cT];omega
theorem qM:∀a b:List Bool,cT (a++b)=cT a+2^a.length*cT b
 |[],b=>by simp[cT]
 |x::r,b=>by
  have h:=qM r b
  rw[V5,cT,cT,h,T3,Us,V2,←UU,Ve 2 (2^r.length),UF]
def z0 (l:List Bool)(i:Nat):UInt8:=Um (cT ((l.drop (8*i)).take 8))
def pk (l:List Bool):List UInt8:=lk l ((Uv ((l.length+7)/8)).map (z0 l))
theorem Cq (l:List Bool):pk l=(Uv ((l.length+7)/8)).map (z0 l):=aw _ _
theorem aG (l:List Bool):(pk l).length=(l.length+7)/8:=by rw[Cq,TH,U5]
theorem kB {l:List Bool}{i:Nat}(h:i<(l.length+7)/8):(pk l)[i]? =some (z0 l i):=by
 rw[Cq,TN,UO h];rfl
theorem wG (l:List Bool)(i:Nat):cT ((l.drop (8*i)).take 8)<256:=by
 have h:=jr ((l.drop (8*i)).take 8)
 have h2:2^((l.drop (8*i)).take 8).length≤2^8:=TX (by decide) (by rw[TR];omega)
 omega
theorem mj {a b:List Bool}(h:a.length%8=0):pk (a++b)=pk a++pk b:=by
 apply Uu
 intro i
 rcases T5 i ((a.length+7)/8)with q|q
 ·rw[TQ (by rw[aG];exact q),kB q,kB (by rw[Tt];omega)]
  unfold z0
  rw[Wc (by omega),VQ (by rw[Ul];omega)]
 ·rw[TO (by rw[aG];exact q),aG]
  rcases T5 (i-(a.length+7)/8) ((b.length+7)/8)with r|r
  ·rw[kB r,kB (by rw[Tt];omega)]
   unfold z0
   rw[show 8*i=a.length+8*(i-(a.length+7)/8)from by omega,YH]
   have e:UQ (a.length+8*(i-(a.length+7)/8)) a=[]:=Vb (by omega)
   rw[e,VV,Vz]
  ·rw[TY (by rw[aG,Tt];omega),TY (by rw[aG];exact r)]
theorem lh {l:List Bool}{n:Nat}(h:8*n≤l.length):pk (l.drop (8*n))=(pk l).drop n∧pk (l.take (8*n))=(pk l).take n:=by
 have e:=mj (a:=l.take (8*n)) (b:=l.drop (8*n)) (by rw[TR];omega)
 rw[Vo]at e
 have hl:(pk (l.take (8*n))).length=n:=by rw[aG,TR];omega
 constructor
 ·have q:=congrArg (UQ n) e
  rw[Wc (by omega),show UQ n (pk (UP (8*n) l))=[]from Vb (by omega),VV]at q
  exact q.symm
 ·have q:=congrArg (UP n) e
  rw[VQ (by omega),show UP n (pk (UP (8*n) l))=pk (UP (8*n) l)from T9 (by omega)]at q
  exact q.symm
theorem Kp {l:List Bool}(h0:0<l.length)(h:l.length≤8):pk l=[Um (cT l)]:=by
 rw[Cq,show(l.length+7)/8=1 from by omega]
 show[z0 l 0]=_
 unfold z0
 rw[Nat.mul_zero,U4,T9 h]
theorem Oo {l:List Bool}{b:Bool}(h:l.length%8≠0):(pk l).length=l.length/8+1∧pk (l++[b])=(pk l).set (l.length/8) (Um (((pk l).getD (l.length/8) mb).toNat+2^(l.length%8)*b.toNat)):=by
 refine⟨by rw[aG];omega,?_⟩
 have hd:=lh (l:=l) (n:=l.length/8) (by omega)
 have e:l=l.take (8*(l.length/8))++l.drop (8*(l.length/8)):=(Vo _ _).symm
 generalize hA:l.take (8*(l.length/8))=A at *
 generalize hB:l.drop (8*(l.length/8))=B at *
 have lA:A.length=8*(l.length/8):=by rw[←hA,TR];omega
 have lB:B.length=l.length%8:=by rw[←hB,Ul];omega
 have p1:pk l=pk A++pk B:=by
  conv=>lhs;rw[e]
  exact mj (by omega)
 have p2:pk (l++[b])=pk A++pk (B++[b]):=by
  conv=>lhs;rw[e,TG]
  exact mj (by omega)
 have l1:(pk A).length=l.length/8:=by rw[aG];omega
 have b1:=Kp (l:=B) (by omega) (by omega)
 have b2:=Kp (l:=B++[b]) (by rw[Tt];omega) (by rw[Tt,Ud];omega)
 have hb:cT B<256:=by
  have h3:=jr B
  have h4:2^B.length≤2^8:=TX (by decide) (by omega)
  omega
 rw[p1,p2,b1,b2,XN _ _ (by omega),l1,UJ,To,TO (by omega),l1,UJ]
 show _++_=_++[_]
 have hz:cT [b]=b.toNat:=by simp[cT]
 rw[qM,hz,lB]
 show _=_++[Um ((Um (cT B)).toNat+_)]
 rw[U6,show cT B%2^8=cT B from UZ hb]
theorem Kq {l:List Bool}{b:Bool}(h:l.length%8=0):(pk l).length=l.length/8∧pk (l++[b])=pk l++[Um b.toNat]:=by
 refine⟨by rw[aG];omega,?_⟩
 rw[mj h,Kp (l:=[b]) (by simp) (by simp)]
 simp[cT]
def nb (v n:Nat):List Bool:=lk [()] ((Uv n).map fun i=>v.testBit i)
theorem o5 (v n:Nat):nb v n=(Uv n).map fun i=>v.testBit i:=aw _ _
theorem bb (v n:Nat):(nb v n).length=n:=by rw[o5,TH,U5]
theorem sn (v n:Nat):nb v (n+1)=nb v n++[v.testBit n]:=by rw[o5,o5,Wf,Uq];rfl
theorem Kr (v:Nat):nb v 0=[]:=o5 v 0
theorem Ks {l:List Bool}{m:Nat}(hm:m=(pk l).length)(h:0<((l.length:Nat):Int)%8):¬0<((((pk l).getD (((m:Int)-1).toNat*1) mb).toNat:Nat):Int).fdiv (2^min (((l.length:Nat):Int)%8).toNat 8):=by
 rw[aG]at hm
 rw[show(((m:Int)-1).toNat*1)=l.length/8 from by omega,show min (((l.length:Nat):Int)%8).toNat 8=l.length%8 from by omega,To,kB (by omega)]
 show¬0<(((z0 l (l.length/8)).toNat:Nat):Int).fdiv _
 have hb:=jr ((l.drop (8*(l.length/8))).take 8)
 rw[TR,Ul,show min 8 (l.length-8*(l.length/8))=l.length%8 from by omega]at hb
 have hc:=wG l (l.length/8)
 unfold z0
 rw[U6,UZ hc,show(2:Int)^(l.length%8)=((2^(l.length%8):Nat):Int)from by push_cast;rfl,Vi _ (WF _),←WU,WQ hb]
 decide
abbrev Kt (m:Nat)(l:List Bool):D:=.agg [.sl false m 1 ((pk l).map dB),nD l.length]
theorem Fg:S0 31 [dT] [] dT []:=by
 refine SpecH.run T_ok ai Try.func31 rfl rfl rfl trivial rfl 1000 64 (fun R ok=>(.s 6 (.out [] [] (zS) [] R (ok _ _ wr wr)))) kr
theorem Ku (bs:List UInt8)(hn:bs.length≤10000000):S0 31 [.sl true bs.length 1 (bs.map dB)] [] (.ref 0 0 0 bs.length 1) [⟨bs.map dB, 5,true⟩]:=by
 refine SpecH.run T_ok ai Try.func31 rfl rfl rfl ⟨cM _,trivial⟩ rfl 1000 64 (fun R ok=>(.s 9 (.chk (true&&Tz ((0+length bs)*1) 140737488355328) (by(refine Tv ?_;(omega))) (.s 1 (.out [40] [40] (Tu 0 0 0 (0+length bs) 1) [Tq (map dB bs) 5 true] R (ok _ _ (by(simp;done)) wr)))))) kr
theorem HH (bs:List UInt8)(n:Nat)(h1:n=bs.length)(hn:n≤10000000):S0 31 [.sl false n 1 (bs.map dB)] [] (.ref 0 0 0 n 1) [⟨bs.map dB, 5,true⟩]:=by
 subst h1;exact BH.nilSplit Fg (Ku bs hn) id
theorem wH (l:List Bool)(m:Nat)(hm:m=(pk l).length)(hl:l.length≤8388608):S0 26 [Kt m l] [] (iD 0) []:=by
 have h9:=aG l
 refine SpecH.run T_ok ai Try.func26 rfl rfl rfl trivial rfl 1000 64 (fun R ok=>(.s 26 (.f (decide (8388608<(↑(length l):Int))) (by(refine decide_eq_false ?_;(omega))) (.s 19 (.ow ((↑(length l):Int)+7) (.s 3 (.opt (b4 Uf (TM Uf (Xl ((↑(length l):Int)+7) 8))) (zI (((↑(length l):Int)+7)/8)) (aS (@dv  ((↑(length l):Int)+7) (8) om om)) (.s 4 (.f ((m:Int) !=((↑(length l):Int)+7)/8) (by(simp <;>(omega))) (.s 8 (.opt (b4 Uf (We (↑(length l):Int) 8)) (zI ((↑(length l):Int)%8)) (aS (@fm  ((↑(length l):Int)) (8) om)) (.s 6 (.bd (0<(↑(length l):Int)%8) (fun p0 p0f=>(.s 19 (.ow ((m:Int)-1) (.s 2 (.chk (decide (0≤(m:Int)-1)&&decide ((m:Int)-1<m)&&true) (by((refine aJ ?_ ?_)<;>(repeat' (first|(refine aJ ?_ ?_)|(with_reducible rfl)|(refine decide_eq_true ?_)|(refine Tv ?_)|(refine fx ?_)))<;>(omega))) (.s 3 (.opt ((map dB (pk l))[zK ((m:Int)-1)*1]?) (dB (getD (pk l) (zK ((m:Int)-1)*1) mb)) (aq _ _ om) (.s 5 (.opt (b4 Vv (Uk (↑(Tp (getD (pk l) (zK ((m:Int)-1)*1) mb)):Int) (2^min (zK ((↑(length l):Int)%8)) 8))) (bI (Uk (↑(Tp (getD (pk l) (zK ((m:Int)-1)*1) mb)):Int) (2^min (zK ((↑(length l):Int)%8)) 8))) (de _ _) (.s 4 (.bd (0<Uk (↑(Tp (getD (pk l) (zK ((m:Int)-1)*1) mb)):Int) (2^min (zK ((↑(length l):Int)%8)) 8)) (fun p1 p1f=>(.abs (by(exact absurd aD (Ks hm om))))) (fun p1 p1f=>(.s 1 (.out [] [] (zI 0) [] R (ok _ _ wr wr))))))))))))))) (fun p0 p0f=>(.s 23 (.out [] [] (zI 0) [] R (ok _ _ wr wr))))))))))))))))) kr
theorem Cr {v n:Nat}(hv:v<2^n)(hn:n≤32):((v:Int)%18446744073709551616).fdiv (2^min n 64)=0:=by
 have h2:2^n≤2^32:=TX (by decide) hn
 rw[show min n 64=n from by omega,show(v:Int)%18446744073709551616=v from by omega,show(2:Int)^n=((2^n:Nat):Int)from by push_cast;rfl,Vi _ (WF _),←WU,WQ hv];rfl
theorem Cs {v n:Nat}(hv:v<2^n)(hn:n≤32):((v:Int)).fdiv (2^min n 64)=0:=by
 have h:=Cr hv hn
 have h2:2^n≤2^32:=TX (by decide) hn
 rwa [show(v:Int)%18446744073709551616=v from by omega]at h
theorem Fh (X:List UInt8){d:D}{j:Nat}(h:j=X.length):(VO dB X++[d])[0+j*1]? =some d:=by
 rw[T0,TZ,h,TO (by rw[TH];exact TD _),TH,UJ];rfl
def bS (l:List Bool)(v i:Nat):List Bool:=lk l (l++nb v i)
theorem o6 (l:List Bool)(v i:Nat):bS l v i=l++nb v i:=aw _ _
theorem HI (l:List Bool)(v:Nat):bS l v 0=l:=by rw[o6,Kr,Ue]
theorem bU (l:List Bool)(v i:Nat):(bS l v i).length=l.length+i:=by rw[o6,Tt,bb]
theorem HJ (l:List Bool)(v i:Nat):bS l v i++[v.testBit i]=bS l v (i+1):=by rw[o6,o6,sn,TG]
theorem Ao (l:List Bool)(v i:Nat):(pk (bS l v i)).length=(l.length+i+7)/8:=by rw[aG,bU]
theorem HK {v i:Nat}(hi:i≤32)(hv:v<4294967296):IntKind.u32.wrap ((TA 32 ((v:Int).fdiv (2^min i 32))&&&TA 32 1).toNat:Int)%256=(((v.testBit i).toNat:Nat):Int):=by
 have hd:v/2^i≤v:=XK _ _
 rw[show min i 32=i from by omega,show(2:Int)^i=((2^i:Nat):Int)from by push_cast;rfl,Vi _ (WF _),←WU,Ys]
 generalize v/2^i=Y at *
 rw[mV 1 2 (by omega) (by decide) (by decide) (by decide)]
 omega
theorem Ct {M:List UInt8}{o a:Nat}(ha:a<256)(ho:o<M.length):aj (M.map dB) o [D.v (.int .u8 (a:Int))]=(M.set o (Um a)).map dB:=by
 apply Uu
 intro i
 rw[ci (by simp only[TH,Ud];omega),TN,TN,U3]
 simp only[Ud]
 by_cases hi:o=i
 ·subst hi
  rw[if_pos (by omega),if_pos rfl,if_pos ho,UJ]
  show some (D.v (.int .u8 (a:Int)))=some (dB (Um a))
  unfold dB;rw[U6];congr 3;omega
 ·rw[if_neg (by omega),if_neg hi]
theorem Oq {x:List Bool}(h:x.length%8≠0):((pk x).getD (x.length/8) mb).toNat<2^(x.length%8):=by
 rw[To,kB (by omega)]
 show(z0 x (x.length/8)).toNat<_
 have hb:=jr ((x.drop (8*(x.length/8))).take 8)
 rw[TR,Ul,show min 8 (x.length-8*(x.length/8))=x.length%8 from by omega]at hb
 unfold z0
 rw[U6,UZ (wG x _)]
 exact hb
theorem Ot {x:List Bool}{b:Bool}{L z:Int}(hL:L=x.length)(h:¬L%8=0)(hz:z=((b.toNat:Nat):Int)):aj ((pk x).map dB) (L/8).toNat [D.v (.int .u8 (((((pk x).getD (L/8).toNat mb).toNat|||(2^min (L%8).toNat 8*z%256).toNat:Nat)):Int))]=(pk (x++[b])).map dB:=by
 subst hL hz
 have h0:x.length%8≠0:=by omega
 have hu:=Oo (b:=b) h0
 have hl:=Oq h0
 have hb:b.toNat≤1:=Wh b
 rw[show(((x.length:Nat):Int)/8).toNat=x.length/8 from by omega,show min (((x.length:Nat):Int)%8).toNat 8=x.length%8 from by omega]
 have hp:2^(x.length%8)≤2^7:=TX (by decide) (by omega)
 have e:(2^(x.length%8)*((b.toNat:Nat):Int)%256).toNat=2^(x.length%8)*b.toNat:=by
  rw[show(2:Int)^(x.length%8)=((2^(x.length%8):Nat):Int)from by push_cast;rfl]
  generalize 2^(x.length%8)=P at *
  cases b
  ·simp
  ·simp;omega
 rw[e,Nat.or_comm,←VZ hl,Xf,hu.2]
 refine Ct ?_ (by omega)
 have hm:2^(x.length%8)*b.toNat≤2^(x.length%8)*1:=V8 _ hb
 generalize 2^(x.length%8)*b.toNat=Q at *
 generalize 2^(x.length%8)=P at *
 omega
theorem Ou {x:List Bool}{b:Bool}{L z:Int}(hL:L=x.length)(h:L%8=0)(hz:z=((b.toNat:Nat):Int)):aj ((pk x).map dB++[D.v (.int .u8 0)]) (L/8).toNat [D.v (.int .u8 (0+2^min (L%8).toNat 8*z))]=(pk (x++[b])).map dB:=by
 subst hL hz
 have h0:x.length%8=0:=by omega
 have hu:=Kq (b:=b) h0
 have hb:b.toNat≤1:=Wh b
 rw[show(((x.length:Nat):Int)/8).toNat=x.length/8 from by omega,show min (((x.length:Nat):Int)%8).toNat 8=0 from by omega,hu.2,Uq]
 have e:(pk x).map dB++[D.v (.int .u8 0)]=((pk x)++[0]).map dB:=by rw[Uq];rfl
 rw[e,show(0:Int)+2^0*((b.toNat:Nat):Int)=((b.toNat:Nat):Int)from by simp,Ct (by omega) (by rw[Tt,Ud];omega),XN _ _ (by omega),hu.1,UJ,Uq]
 rfl
theorem Kv {k g:Nat}{t:TypeId}{X Y:Nat}{a b:Int}(h1:X=Y)(h2:a=b):(⟨[Tu k g 0 X 1,D.v (.int .i64 a)],t,false⟩:Blk)=⟨[Tu k g 0 Y 1,D.v (.int .i64 b)],t,false⟩:=by rw[h1,h2]
theorem Ov (l:List Bool)(m:Nat)(hm:m=(pk l).length)(v n:Nat)(hn:n≤32)(hv:v<2^n)(hl:l.length+n≤8388608):S0 32 [Kt m l,.v (.int .u32 (v:Int)),nD n] [] (.tup [.agg [.ref 0 0 0 (pk (bS l v n)).length 1,nD (l.length+n)],iD 0]) [⟨(pk (bS l v n)).map dB, 5,true⟩]:=by
 have h9:=aG l
 have h8:=Cr hv hn
 have h4:=Cs hv hn
 have h5:v<4294967296:=Ug hv (TX (n:=2) (by decide) hn)
 refine SpecH.run T_ok ai Try.func32 rfl rfl rfl ⟨cM _,trivial⟩ rfl 1000 64 (fun R ok=>(.s 10 (.cl 26 false [] (.fn Qe (@wH (l) (m) om om)) (.s 22 (.t (decide ((n:Int)≤32)) (by(refine decide_eq_true ?_;(omega))) (.s 2 (.opt (ar .u64 (v:Int)) (D.v (UE .u64 (v:Int))) (bC om) (.s 5 (.opt (b4 Vn (Uk (v:Int) (2^min n 64))) (D.v (UE .u64 (Uk (v:Int) (2^min n 64)))) (de _ _) (.s 6 (.f (!Uk (v:Int) (2^min n 64)==0) (by(simp <;>(omega))) (.s 9 (.ow ((↑(length l):Int)+(n:Int)) (.s 2 (.f (decide (8388608<(↑(length l):Int)+(n:Int))) (by(refine decide_eq_false ?_;(omega))) (.s 17 (.cl 31 false [] (.fn Td (@HH (pk l) (m) om om)) (.s 12 (.blk 296 296 (Tq [Tu 336 336 0 m 1,zN (length l)] 113 false) (Tq [Tu 336 336 0 (length (pk (bS l v 0))) 1,zN (length l+0)] 113 false) (by(rw[HI,←hm];rfl)) (.blk 336 336 (Tq (map dB (pk l)) 5 true) (Tq (map dB (pk (bS l v 0))) 5 true) (by(rw[HI];done)) (Hn.inl T_ok ai false 52 0 (ap Try.prog 32 0) (fun(x:(i:Nat)×'(hi:i≤n)×'Unit)=>match x with|⟨i,hi,_⟩=>TJ [(1,ak v),(6,TF 0 0 0),(9,TF 8 8 0),(38,zN n),(39,nD i)] [⟨0,0,8,8,.b ⟨[zS,zI 0],26,false⟩⟩,⟨8,8,296,296,.b ⟨[(Tu 16 16 (0) ((pk (bS l v i)).length) 1),nD (l.length+i)],113,false⟩⟩,⟨16,16,336,336,.b ⟨(pk (bS l v i)).map dB,5,true⟩⟩] 24) (fun(x:(i:Nat)×'(hi:i≤n)×'Unit)=>match x with|⟨i,hi,_⟩=>n-i) [⟨Unit,.exit 0,fun x=>match x with|()=>TJ [(1,ak v),(6,TF 0 0 0),(9,TF 8 8 0),(38,zN n)] [⟨0,0,8,8,.b ⟨[zS,zI 0],26,false⟩⟩,⟨8,8,296,296,.b ⟨[(Tu 16 16 (0) ((pk (bS l v n)).length) 1),nD (l.length+n)],113,false⟩⟩,⟨16,16,336,336,.b ⟨(pk (bS l v n)).map dB,5,true⟩⟩] 24⟩] 1000 64 (fun|⟨i,hi,_⟩,Q,next1,last1=>(.s 2 (.bd ((i:Int)<n) (fun p0 p0f=>(.s 7 (.opt (b4 Uj (Uk (v:Int) (2^min i 32))) (uI (Uk (v:Int) (2^min i 32))) (de _ _) (.s 15 (.opt (b4 Uf (We (↑(length l+i):Int) 8)) (zI ((↑(length l+i):Int)%8)) (aS (@fm  ((↑(length l+i):Int)) (8) om)) (.s 2 (.br ((↑(length l+i):Int)%8==0) (fun p1=>have p1f:=eq_of_beq p1;(.s 15 (.chk (true&&Tx (length (pk (bS l v i))*1) (length (map dB (pk (bS l v i))))&&true&&true&&true&&true&&Tz ((length (pk (bS l v i))+1)*1) 140737488355328) SU (.s 35 (.opt (b4 Uf (TM Uf (Xl (↑(length l+i):Int) 8))) (zI ((↑(length l+i):Int)/8)) (aS (@dv  ((↑(length l+i):Int)) (8) om om)) (.s 1 (.chk (true&&decide ((↑(length l+i):Int)/8<(↑(length (pk (bS l v i))+1):Int))) Qh (.s 2 (.opt ((map dB (pk (bS l v i))++[bI 0])[0+zK ((↑(length l+i):Int)/8)*1]?) (bI 0) (@Fh (pk (bS l v i)) (bI 0) (zK ((↑(length l+i):Int)/8)) (by(have h7:=Ao l v i;have h6:=Ao l v (i+1);omega))) (.s 3 (.opt (b4 Uj (TM Uj (↑(Uc (TA 32 (Uk (v:Int) (2^min i 32))&&&TA 32 1)):Int))) (uI (TM Uj (↑(Uc (TA 32 (Uk (v:Int) (2^min i 32))&&&TA 32 1)):Int))) (de _ _) (.s 1 (.opt (ar .u8 (TM Uj (↑(Uc (TA 32 (Uk (v:Int) (2^min i 32))&&&TA 32 1)):Int))) (bI (TM Uj (↑(Uc (TA 32 (Uk (v:Int) (2^min i 32))&&&TA 32 1)):Int)%256)) (aL _ _) (.s 13 (.opt (b4 Uf (We (↑(length l+i):Int) 8)) (zI ((↑(length l+i):Int)%8)) (aS (@fm  ((↑(length l+i):Int)) (8) om)) (.s 2 (.opt (ar .u8 (2^min (zK ((↑(length l+i):Int)%8)) 8*(TM Uj (↑(Uc (TA 32 (Uk (v:Int) (2^min i 32))&&&TA 32 1)):Int)%256))) (bI (2^min (zK ((↑(length l+i):Int)%8)) 8*(TM Uj (↑(Uc (TA 32 (Uk (v:Int) (2^min i 32))&&&TA 32 1)):Int)%256))) (bB Rx) (.s 2 (.opt (b4 Vv (TM Vv (↑(Uc (TA 8 0|||TA 8 (2^min (zK ((↑(length l+i):Int)%8)) 8*(TM Uj (↑(Uc (TA 32 (Uk (v:Int) (2^min i 32))&&&TA 32 1)):Int)%256)))):Int))) (bI (0+2^min (zK ((↑(length l+i):Int)%8)) 8*(TM Uj (↑(Uc (TA 32 (Uk (v:Int) (2^min i 32))&&&TA 32 1)):Int)%256))) (aS (@uE 8 (256:Int) (0) (2^min (zK ((↑(length l+i):Int)%8)) 8*(TM Uj (↑(Uc (TA 32 (Uk (v:Int) (2^min i 32))&&&TA 32 1)):Int)%256)) om Rx om om Rx)) (.s 1 (.chk (true&&decide ((↑(length l+i):Int)/8<(↑(length (pk (bS l v i))+1):Int))) Qh (.s 1 (.chk (true&&Tz (0+zK ((↑(length l+i):Int)/8)*1+1) (length (map dB (pk (bS l v i))++[bI 0]))) (by(simp;have h7:=Ao l v i;have h6:=Ao l v (i+1);omega)) (.lst (aj (map dB (pk (bS l v i))++[bI 0]) (0+zK ((↑(length l+i):Int)/8)*1) [bI (0+2^min (zK ((↑(length l+i):Int)%8)) 8*(TM Uj (↑(Uc (TA 32 (Uk (v:Int) (2^min i 32))&&&TA 32 1)):Int)%256))]) (aj (map dB (pk (bS l v i))++[bI 0]) (zK ((↑(length l+i):Int)/8)) [bI (0+2^min (zK ((↑(length l+i):Int)%8)) 8*(TM Uj (↑(Uc (TA 32 (Uk (v:Int) (2^min i 32))&&&TA 32 1)):Int)%256))]) (by(simp;done)) (.s 13 (.ow ((↑(length l+i):Int)+1) (.s 12 (.ow ((i:Int)+1) (.s 1 (.val 39 (zI ((i:Int)+1)) (zN (i+1)) (by(refine aT ?_;(omega))) (.blk 8 8 (Tq [Tu 200 200 0 (length (pk (bS l v i))+1) 1,zI ((↑(length l+i):Int)+1)] 113 false) (Tq [Tu 200 200 0 (length (pk (bS l v (i+1)))) 1,zN (length l+(i+1))] 113 false) SV (.blk 200 200 (Tq (aj (map dB (pk (bS l v i))++[bI 0]) (zK ((↑(length l+i):Int)/8)) [bI (0+2^min (zK ((↑(length l+i):Int)%8)) 8*(TM Uj (↑(Uc (TA 32 (Uk (v:Int) (2^min i 32))&&&TA 32 1)):Int)%256))]) 5 true) (Tq (map dB (pk (bS l v (i+1)))) 5 true) (by(refine ay (Xm (Ou (by rw[bU]) om (HK om om)) ?_);rw[HJ])) (Hn.next next1 ⟨(i+1),om,⟨⟩⟩ (by show n-(i+1)<n-i;clear next1 last1;omega) [(0,0),(8,8),(200,200)] ro))))))))))))))))))))))))))))))))) (fun p1=>have p1f:=am p1;(.s 25 (.opt (b4 Uf (TM Uf (Xl (↑(length l+i):Int) 8))) (zI ((↑(length l+i):Int)/8)) (aS (@dv  ((↑(length l+i):Int)) (8) om om)) (.s 1 (.chk (true&&decide ((↑(length l+i):Int)/8<(↑(length (pk (bS l v i))):Int))) Qh (.s 2 (.opt ((map dB (pk (bS l v i)))[0+zK ((↑(length l+i):Int)/8)*1]?) (dB (getD (pk (bS l v i)) (0+zK ((↑(length l+i):Int)/8)*1) mb)) (aq _ _ (by(have h7:=Ao l v i;have h6:=Ao l v (i+1);omega))) (.s 3 (.opt (b4 Uj (TM Uj (↑(Uc (TA 32 (Uk (v:Int) (2^min i 32))&&&TA 32 1)):Int))) (uI (TM Uj (↑(Uc (TA 32 (Uk (v:Int) (2^min i 32))&&&TA 32 1)):Int))) (de _ _) (.s 1 (.opt (ar .u8 (TM Uj (↑(Uc (TA 32 (Uk (v:Int) (2^min i 32))&&&TA 32 1)):Int))) (bI (TM Uj (↑(Uc (TA 32 (Uk (v:Int) (2^min i 32))&&&TA 32 1)):Int)%256)) (aL _ _) (.s 13 (.opt (b4 Uf (We (↑(length l+i):Int) 8)) (zI ((↑(length l+i):Int)%8)) (aS (@fm  ((↑(length l+i):Int)) (8) om)) (.s 2 (.opt (ar .u8 (2^min (zK ((↑(length l+i):Int)%8)) 8*(TM Uj (↑(Uc (TA 32 (Uk (v:Int) (2^min i 32))&&&TA 32 1)):Int)%256))) (bI (2^min (zK ((↑(length l+i):Int)%8)) 8*(TM Uj (↑(Uc (TA 32 (Uk (v:Int) (2^min i 32))&&&TA 32 1)):Int)%256)%256)) (aL _ _) (.s 2 (.opt (b4 Vv (TM Vv (↑(Uc (TA 8 (↑(Tp (getD (pk (bS l v i)) (0+zK ((↑(length l+i):Int)/8)*1) mb)):Int)|||TA 8 (2^min (zK ((↑(length l+i):Int)%8)) 8*(TM Uj (↑(Uc (TA 32 (Uk (v:Int) (2^min i 32))&&&TA 32 1)):Int)%256)%256))):Int))) (aQ (Tp (getD (pk (bS l v i)) (0+zK ((↑(length l+i):Int)/8)*1) mb)|||zK (2^min (zK ((↑(length l+i):Int)%8)) 8*(TM Uj (↑(Uc (TA 32 (Uk (v:Int) (2^min i 32))&&&TA 32 1)):Int)%256)%256))) (aS (@uC  ((↑(Tp (getD (pk (bS l v i)) (0+zK ((↑(length l+i):Int)/8)*1) mb)):Int)) (2^min (zK ((↑(length l+i):Int)%8)) 8*(TM Uj (↑(Uc (TA 32 (Uk (v:Int) (2^min i 32))&&&TA 32 1)):Int)%256)%256) (by(exact iG _ (by decide) (by decide))) om)) (.s 1 (.chk (true&&decide ((↑(length l+i):Int)/8<(↑(length (pk (bS l v i))):Int))) Qh (.s 1 (.chk (true&&Tz (0+zK ((↑(length l+i):Int)/8)*1+1) (length (map dB (pk (bS l v i))))) SU (.lst (aj (map dB (pk (bS l v i))) (0+zK ((↑(length l+i):Int)/8)*1) [aQ (Tp (getD (pk (bS l v i)) (0+zK ((↑(length l+i):Int)/8)*1) mb)|||zK (2^min (zK ((↑(length l+i):Int)%8)) 8*(TM Uj (↑(Uc (TA 32 (Uk (v:Int) (2^min i 32))&&&TA 32 1)):Int)%256)%256))]) (aj (map dB (pk (bS l v i))) (zK ((↑(length l+i):Int)/8)) [aQ (Tp (getD (pk (bS l v i)) (zK ((↑(length l+i):Int)/8)) mb)|||zK (2^min (zK ((↑(length l+i):Int)%8)) 8*(TM Uj (↑(Uc (TA 32 (Uk (v:Int) (2^min i 32))&&&TA 32 1)):Int)%256)%256))]) (by(simp;done)) (.s 13 (.ow ((↑(length l+i):Int)+1) (.s 12 (.ow ((i:Int)+1) (.s 1 (.val 39 (zI ((i:Int)+1)) (zN (i+1)) (by(refine aT ?_;(omega))) (.blk 8 8 (Tq [Tu 16 16 0 (length (pk (bS l v i))) 1,zI ((↑(length l+i):Int)+1)] 113 false) (Tq [Tu 16 16 0 (length (pk (bS l v (i+1)))) 1,zN (length l+(i+1))] 113 false) SV (.blk 16 16 (Tq (aj (map dB (pk (bS l v i))) (zK ((↑(length l+i):Int)/8)) [aQ (Tp (getD (pk (bS l v i)) (zK ((↑(length l+i):Int)/8)) mb)|||zK (2^min (zK ((↑(length l+i):Int)%8)) 8*(TM Uj (↑(Uc (TA 32 (Uk (v:Int) (2^min i 32))&&&TA 32 1)):Int)%256)%256))]) 5 true) (Tq (map dB (pk (bS l v (i+1)))) 5 true) (by(refine ay (Xm (Ot (by rw[bU]) om (HK om om)) ?_);rw[HJ])) (Hn.next next1 ⟨(i+1),om,⟨⟩⟩ (by show n-(i+1)<n-i;clear next1 last1;omega) [(0,0),(8,8),(16,16)] ro)))))))))))))))))))))))))))))))))))))) (fun p0 p0f=>(.blk 8 8 (Tq [Tu 16 16 0 (length (pk (bS l v i))) 1,zN (length l+i)] 113 false) (Tq [Tu 16 16 0 (length (pk (bS l v n))) 1,zN (length l+n)] 113 false) (by(rw[show i=n from by(omega)])) (.blk 16 16 (Tq (map dB (pk (bS l v i))) 5 true) (Tq (map dB (pk (bS l v n))) 5 true) (by(rw[show i=n from by(omega)])) (Hn.last last1 0 (():Unit) rfl [(0,0),(8,8),(16,16)] ro))))))) (fun|⟨i,hi,_⟩=>by kernel_rfl) ⟨(0),om,⟨⟩⟩ [(8,8),(296,296),(336,336)] ro (bY (fun|()=>(.s 16 (.out [16] [16] (Uw [UA [Tu 0 0 0 (length (pk (bS l v n))) 1,zN (length l+n)],zI 0]) [Tq (map dB (pk (bS l v n))) 5 true] R (ok _ _ wr wr)))))))))))))))))))))))))) kr
def fL (v:Nat):Nat→Nat
 |0=>0
 |i+1=>2*fL v i+(v.testBit i).toNat
def Ap (v n i:Nat):Nat:=lk [()] (2^(n-i)*fL v i)
theorem sq (v n i:Nat):Ap v n i=2^(n-i)*fL v i:=aw _ _
theorem wI (v:Nat):∀n,fL v n<2^n
 |0=>VW
 |n+1=>by
  have h:=wI v n
  have h2:=Wh (v.testBit n)
  rw[fL,Us];omega
theorem Cu {v n i:Nat}(h:i≤n):Ap v n i<2^n:=by
 rw[sq]
 have h2:=wI v i
 have e:2^n=2^(n-i)*2^i:=by rw[←Xq];congr 1;omega
 rw[e]
 exact Nat.mul_lt_mul_of_pos_left h2 (UY _)
theorem Ow (v n:Nat):Ap v n n=fL v n:=by rw[sq,UJ,Xd,XR]
theorem HL (v:Nat):∀n,nb (fL v n) n=(nb v n).reverse
 |0=>by rw[Kr,Kr];rfl
 |n+1=>by
  have h:=HL v n
  have hb:=Wh (v.testBit n)
  rw[sn v,List.reverse_append,←h,fL]
  rw[o5,o5,List.range_succ_eq_map,Vq,Xg]
  have e0:YL (2*fL v n+(v.testBit n).toNat) 0=v.testBit n:=by
   rw[Yw]
   cases v.testBit n
   ·simp
   ·simp
  rw[e0]
  show _::_=[v.testBit n]++_
  rw[WO]
  congr 1
  apply Xa
  intro i _
  show YL (2*fL v n+(v.testBit n).toNat) (i+1)=_
  rw[Yx,show(2*fL v n+(v.testBit n).toNat)/2=fL v n from by omega]
theorem Ry {v n i:Nat}{X z:Int}(hi:i<n)(hn:n≤32)(hX:X=((Ap v n i:Nat):Int))(hz:z=(((v.testBit i).toNat:Nat):Int)):IntKind.u32.wrap ((TA 32 X|||TA 32 (2^min ((n:Int)-1-(i:Int)).toNat 32*z%4294967296)).toNat:Int)=((Ap v n (i+1):Nat):Int):=by
 subst hX hz
 have h1:=Cu (v:=v) (n:=n) (i:=i) (by omega)
 have h2:=Cu (v:=v) (n:=n) (i:=i+1) (by omega)
 have h3:2^n≤2^32:=TX (by decide) hn
 have hb:=Wh (v.testBit i)
 have e1:2^(n-i)=2*2^(n-(i+1)):=by rw[show n-i=(n-(i+1))+1 from by omega,Us,Ve]
 have e2:Ap v n (i+1)=2^(n-i)*fL v i+2^(n-(i+1))*(v.testBit i).toNat:=by
  rw[sq,fL,V2,e1,←UU,Ve (2^(n-(i+1))) 2]
 have e3:2^(n-(i+1))*(v.testBit i).toNat<2^(n-i):=by
  have:2^(n-(i+1))*(v.testBit i).toNat≤2^(n-(i+1))*1:=V8 _ hb
  have h5:=UY (n-(i+1))
  omega
 have h6:2^(n-(i+1))*(v.testBit i).toNat≤4294967295:=by rw[e2]at h2;omega
 rw[show min ((n:Int)-1-(i:Int)).toNat 32=n-(i+1)from by omega,show(2:Int)^(n-(i+1))*(((v.testBit i).toNat:Nat):Int)=((2^(n-(i+1))*(v.testBit i).toNat:Nat):Int)from by push_cast;rfl,show((2^(n-(i+1))*(v.testBit i).toNat:Nat):Int)%4294967296=((2^(n-(i+1))*(v.testBit i).toNat:Nat):Int)from by omega]
 rw[sq]at h1 ⊢
 rw[e2]at h2 ⊢
 have h4:2^(n-i)*fL v i≤4294967295∧2^(n-(i+1))*(v.testBit i).toNat≤4294967295:=by omega
 rw[qF (by omega) (by omega),Vf,Vf,←VZ e3]
theorem Kw {v i:Nat}(hi:i≤32)(hv:v<4294967296):IntKind.u32.wrap ((TA 32 ((v:Int).fdiv (2^min i 32))&&&TA 32 1).toNat:Int)=(((v.testBit i).toNat:Nat):Int):=by
 have hd:v/2^i≤v:=XK _ _
 rw[show min i 32=i from by omega,show(2:Int)^i=((2^i:Nat):Int)from by push_cast;rfl,Vi _ (WF _),←WU,Ys]
 generalize v/2^i=Y at *
 rw[mV 1 2 (by omega) (by decide) (by decide) (by decide)]
 omega
theorem bX (v n:Nat)(hn:n≤32)(hv:v<2^n):S0 107 [.v (.int .u32 (v:Int)),nD n] [] (.tup [.v (.int .u32 ((fL v n:Nat):Int)),iD 0]) []:=by
 have h8:=Cr hv hn
 have h4:=Cs hv hn
 have h5:v<4294967296:=Ug hv (TX (n:=2) (by decide) hn)
 refine SpecH.run T_ok ai Try.func107 rfl rfl rfl trivial rfl 1000 64 (fun R ok=>(.s 19 (.t (decide ((n:Int)≤32)) (by(refine decide_eq_true ?_;(omega))) (.s 2 (.opt (ar .u64 (v:Int)) (D.v (UE .u64 (v:Int))) (bC om) (.s 5 (.opt (b4 Vn (Uk (v:Int) (2^min n 64))) (D.v (UE .u64 (Uk (v:Int) (2^min n 64)))) (de _ _) (.s 6 (.f (!Uk (v:Int) (2^min n 64)==0) (by(simp <;>(omega))) (.s 2 (Hn.inl T_ok ai false 28 0 (ap Try.prog 107 0) (fun(x:(i:Nat)×'(hi:i≤n)×'Unit)=>match x with|⟨i,hi,_⟩=>TJ [(0,ak v),(1,zN n),(4,.v (.int .u32 ((Ap v n i:Nat):Int))),(11,zN n),(12,nD i)] [] 0) (fun(x:(i:Nat)×'(hi:i≤n)×'Unit)=>match x with|⟨i,hi,_⟩=>n-i) [⟨Unit,.exit 0,fun x=>match x with|()=>TJ [(0,ak v),(1,zN n),(4,.v (.int .u32 ((fL v n:Nat):Int))),(11,zN n)] [] 0⟩] 1000 64 (fun|⟨i,hi,_⟩,Q,next1,last1=>(.s 2 (.bd ((i:Int)<n) (fun p0 p0f=>(.s 7 (.opt (b4 Uj (Uk (v:Int) (2^min i 32))) (uI (Uk (v:Int) (2^min i 32))) (de _ _) (.s 2 (.opt (b4 Uj (TM Uj (↑(Uc (TA 32 (Uk (v:Int) (2^min i 32))&&&TA 32 1)):Int))) (uI (TM Uj (↑(Uc (TA 32 (Uk (v:Int) (2^min i 32))&&&TA 32 1)):Int))) (de _ _) (.s 3 (.ow ((n:Int)-1) (.s 3 (.ow ((n:Int)-1-i) (.s 1 (.chk (decide (0≤(n:Int)-1-i)) (by(refine decide_eq_true ?_;(omega))) (.opt (ar .u32 (2^min (zK ((n:Int)-1-i)) 32*TM Uj (↑(Uc (TA 32 (Uk (v:Int) (2^min i 32))&&&TA 32 1)):Int))) (uI (2^min (zK ((n:Int)-1-i)) 32*TM Uj (↑(Uc (TA 32 (Uk (v:Int) (2^min i 32))&&&TA 32 1)):Int)%4294967296)) (aL _ _) (.s 2 (.opt (b4 Uj (TM Uj (↑(Uc (TA 32 (↑(Ap v n i):Int)|||TA 32 (2^min (zK ((n:Int)-1-i)) 32*TM Uj (↑(Uc (TA 32 (Uk (v:Int) (2^min i 32))&&&TA 32 1)):Int)%4294967296))):Int))) (uI (TM Uj (↑(Uc (TA 32 (↑(Ap v n i):Int)|||TA 32 (2^min (zK ((n:Int)-1-i)) 32*TM Uj (↑(Uc (TA 32 (Uk (v:Int) (2^min i 32))&&&TA 32 1)):Int)%4294967296))):Int))) (de _ _) (.s 3 (.ow ((i:Int)+1) (.s 1 (.val 4 (uI (TM Uj (↑(Uc (TA 32 (↑(Ap v n i):Int)|||TA 32 (2^min (zK ((n:Int)-1-i)) 32*TM Uj (↑(Uc (TA 32 (Uk (v:Int) (2^min i 32))&&&TA 32 1)):Int)%4294967296))):Int))) (ak (Ap v n (i+1))) (by(exact aT (Ry om hn rfl (Kw om om)))) (.val 12 (zI ((i:Int)+1)) (zN (i+1)) (by(refine aT ?_;(omega))) (Hn.next next1 ⟨(i+1),om,⟨⟩⟩ (by show n-(i+1)<n-i;clear next1 last1;omega) [] ro)))))))))))))))))))) (fun p0 p0f=>(.val 4 (ak (Ap v n i)) (ak (fL v n)) (by(rw[show i=n from by(omega),Ow])) (Hn.last last1 0 (():Unit) rfl [] ro)))))) (fun|⟨i,hi,_⟩=>by kernel_rfl) ⟨(0),om,⟨⟩⟩ [] ro (bY (fun|()=>(.s 3 (.out [] [] (Uw [ak (fL v n),zI 0]) [] R (ok _ _ wr wr)))))))))))))))) kr
end Vp
end Go.Proofs.Ytefjnofhgkjpmaa
namespace Go.Proofs.Ytefjnofhgkjpmaa
open Go.RowKit Go.Bw Go.Vx
namespace Vp
def ea (x:Nat):D:=.v (.int .u32 ((x:Nat):Int))
def fb (x:Nat):Nat→Nat
 |0=>x
 |i+1=>fb x i/2
theorem uR (x:Nat):∀i,fb x i=x/2^i
 |0=>(YI x).symm
 |i+1=>by rw[fb,uR x i,XB,Us]
theorem fV {v:Nat}(h:v≤15):fb 32768 v=2^(15-v):=by
 rw[uR,show(32768:Nat)=2^15 from rfl,Nat.pow_div h (by decide)]
def Aa (l:List UInt8):Nat→Nat
 |0=>0
 |n+1=>Aa l n+(if n=0 then 0 else(co l n l.length).length*fb 32768 n)
def SW (l:List UInt8)(n k:Nat):Nat:=lk l (Aa l n+(if n=0 then 0 else(co l n k).length*fb 32768 n))
theorem Kx (l:List UInt8)(n k:Nat):SW l n k=Aa l n+(if n=0 then 0 else(co l n k).length*fb 32768 n):=aw _ _
def kC (l:List UInt8)(j:Nat):Nat:=SW l (l.getD j mb).toNat j/fb 32768 (l.getD j mb).toNat
def Rz (l:List UInt8)(n k j:Nat):Nat×Nat:=
 if(l.getD j mb).toNat≠0∧((l.getD j mb).toNat<n∨(l.getD j mb).toNat=n∧j<k)then(kC l j,(l.getD j mb).toNat)else(0,0)
def md (l:List UInt8)(n k:Nat):List (Nat×Nat):=lk l ((Uv l.length).map (Rz l n k))
theorem HM (l:List UInt8)(n k:Nat):md l n k=(Uv l.length).map (Rz l n k):=aw _ _
def ae (l:List UInt8):List (Nat×Nat):=lk l (md l 16 0)
theorem Cv (l:List UInt8):ae l=md l 16 0:=aw _ _
def mZ (c:Nat×Nat):List D:=[ea c.1,dG c.2]
theorem Ky (l:List UInt8)(n k:Nat):(md l n k).length=l.length:=by rw[HM,TH,U5]
theorem nH (f:Nat×Nat→List D)(hf:∀c,(f c).length=2):∀(xs:List (Nat×Nat)) (k:Nat),(xs.flatMap f)[2*k]? =(xs[k]?).bind (fun c=>(f c)[0]?)∧(xs.flatMap f)[2*k+1]? =(xs[k]?).bind (fun c=>(f c)[1]?)
 |[],k=>by simp
 |c::r,0=>by
  rw[UC]
  exact⟨by rw[TQ (by rw[hf];omega)];rfl,by rw[TQ (by rw[hf];omega)];rfl⟩
 |c::r,k+1=>by
  have ih:=nH f hf r k
  rw[UC]
  refine⟨?_,?_⟩
  ·rw[TO (by rw[hf];omega),hf,show 2*(k+1)-2=2*k from by omega,ih.1];rfl
  ·rw[TO (by rw[hf];omega),hf,show 2*(k+1)+1-2=2*k+1 from by omega,ih.2];rfl
theorem Fi {xs:List (Nat×Nat)}{k o:Nat}{c:Nat×Nat}(hk:k<xs.length)(ho:o=2*k):aj (xs.flatMap mZ) o (mZ c)=(xs.set k c).flatMap mZ:=by
 have hl:∀ys:List (Nat×Nat),(ys.flatMap mZ).length=2*ys.length:=fun ys=>by rw[a9 (k:=2) (fun _=>rfl)];omega
 subst ho
 apply Uu
 intro i
 rw[ci (by rw[hl];show 2*k+2≤_;omega)]
 have hd:∃j,i=2*j∨i=2*j+1:=⟨i/2,by omega⟩
 obtain⟨j,hj⟩:=hd
 have g1:=nH mZ (fun _=>rfl) xs j
 have g2:=nH mZ (fun _=>rfl) (xs.set k c) j
 show(if 2*k≤i∧i<2*k+2 then(mZ c)[i-2*k]? else(xs.flatMap mZ)[i]?)=_
 by_cases e:k=j
 ·subst e
  rw[U3,if_pos rfl,if_pos hk]at g2
  rcases hj with rfl|rfl
  ·rw[if_pos (by omega),g2.1,UJ];rfl
  ·rw[if_pos (by omega),g2.2,Vz];rfl
 ·rw[U3,if_neg e]at g2
  rw[if_neg (by omega)]
  rcases hj with rfl|rfl
  ·rw[g1.1,g2.1]
  ·rw[g1.2,g2.2]
theorem Kz (n:Nat):dJ [D.v (.int .u32 0),D.v (.int .u8 0)] (n*2)=(TK n ((0,0):Nat×Nat)).flatMap mZ:=by
 apply Uu
 intro i
 unfold dJ
 rw[TN]
 obtain⟨j,hj⟩:∃j,i=2*j∨i=2*j+1:=⟨i/2,by omega⟩
 have g:=nH mZ (fun _=>rfl) (TK n ((0,0):Nat×Nat)) j
 rw[UT]at g
 by_cases h:j<n
 ·rw[if_pos h]at g
  rcases hj with rfl|rfl
  ·rw[UO (by omega),g.1]
   show some (X5 _ (2*j%2) mb)=_
   rw[show 2*j%2=0 from by omega];rfl
  ·rw[UO (by omega),g.2]
   show some (X5 _ ((2*j+1)%2) mb)=_
   rw[show(2*j+1)%2=1 from by omega];rfl
 ·rw[if_neg h]at g
  rcases hj with rfl|rfl
  ·rw[TY (by rw[U5];omega),g.1];rfl
  ·rw[TY (by rw[U5];omega),g.2];rfl
theorem uS {a:Nat}(h:a≤15):1≤fb 32768 a:=by rw[fV h];exact UY _
end Vp
end Go.Proofs.Ytefjnofhgkjpmaa
namespace Go.Proofs.Ytefjnofhgkjpmaa
open Go.RowKit Go.Bw Go.Vx
open List (length getD map take drop flatMap replicate)
namespace Vp
theorem nd {p:Prop}(h:p:=by(have h9:=bJ (l:=l) (a:=a) om;have h8:=dV b c;have h7:=aW l a;have h6:=aW l (a+1);have h5:=bq l;have h4:=Us 2 a;have h3:2^a≤2^15:=TX (by decide) om;omega)):p:=h
theorem Cw {p:Prop}(h:p:=by(simp[lc,jT];done)):p:=h
theorem Fj {p:Prop}(h:p:=by((refine aJ ?_ ?_)<;>(repeat' (first|(refine aJ ?_ ?_)|(with_reducible rfl)|(refine decide_eq_true ?_)|(refine Tv ?_)|(refine fx ?_)))<;>(omega))):p:=h
theorem Fk {p:Prop}(h:p:=by(simp;have h9:=(eb (l:=l) (a:=a) om).1;have h8:=ll (l:=l) (a:=a);have h4:=aW l a;omega)):p:=h
theorem Fl {p:Prop}(h:p:=by(refine decide_eq_true ?_;(omega))):p:=h
theorem KA {p:Prop}(h:p:=by(refine decide_eq_false ?_;have h9:=(eb (l:=l) (a:=a) om).1;have h8:=ll (l:=l) (a:=a);have h4:=aW l a;omega)):p:=h
theorem KB {p:Prop}(h:p:=by show 16-(a+1)<16-a;clear next1 last1;omega):p:=h
theorem Ox {p:Prop}(h:p:=by(refine decide_eq_false ?_;have h9:=(eb (l:=l) (a:=a) om).1;have h8:=ll (l:=l) (a:=a);have h4:=aW l a;have h7:=ss (l:=l) (a:=a) (k:=k) om om;have h6:=er l a k;have h5:=bR l a;omega)):p:=h
theorem Oy {p:Prop}(h:p:=by(refine decide_eq_true ?_;have h9:=(eb (l:=l) (a:=a) om).1;have h8:=ll (l:=l) (a:=a);have h4:=aW l a;have h7:=ss (l:=l) (a:=a) (k:=k) om om;have h6:=er l a k;have h5:=bR l a;omega)):p:=h
def cg (l:List UInt8)(a:Nat):List Nat:=lk l (if a=0 then[]else co l a l.length)
theorem gB (l:List UInt8)(a:Nat):cg l a=if a=0 then[]else co l a l.length:=aw _ _
def aP (l:List UInt8)(a:Nat):List Nat:=lk l ((ab l).drop (aI l a).length)
theorem js (l:List UInt8)(a:Nat):aP l a=(ab l).drop (aI l a).length:=aw _ _
theorem bR (l:List UInt8)(a:Nat):(cg l a).length=aa l a:=by
 rw[gB,gf];unfold pG;split<;>rfl
theorem cW (l:List UInt8)(a:Nat):aI l (a+1)=aI l a++cg l a:=by rw[aI,gB]
theorem jV (l:List UInt8)(a:Nat):∀k,∃r,aI l (a+k)=aI l a++r
 |0=>⟨[],by simp⟩
 |k+1=>by
  obtain⟨r,hr⟩:=jV l a k
  exact⟨r++cg l (a+k),by rw[←UF,cW,hr,TG]⟩
theorem jt {l:List UInt8}{a:Nat}(h:a≤15):∃r,ab l=aI l a++(cg l a++r):=by
 obtain⟨r,hr⟩:=jV l (a+1) (16-(a+1))
 refine⟨r,?_⟩
 rw[dz,show(16:Nat)=a+1+(16-(a+1))from by omega,hr,cW,TG]
theorem qN {l:List UInt8}{a:Nat}(h:a≤15):(aP l a).take (aa l a)=cg l a:=by
 obtain⟨r,hr⟩:=jt (l:=l) h
 rw[js,hr,Ws,←bR,List.take_left]
theorem qO {l:List UInt8}{a:Nat}(h:a≤15):(aP l a).drop (aa l a)=aP l (a+1):=by
 obtain⟨r,hr⟩:=jt (l:=l) h
 rw[js,js,cW,Tt,hr,Ws,←bR,Ws,←TG,←Tt,Ws]
theorem eb {l:List UInt8}{a:Nat}(h:a≤15):aa l a≤(aP l a).length∧(aP l (a+1)).length=(aP l a).length-aa l a:=by
 constructor
 ·have:=congrArg Xr (qN (l:=l) h)
  rw[TR,bR]at this;omega
 ·rw[←qO h,Ul]
theorem KC (l:List UInt8):aP l 0=ab l:=by rw[js];rfl
theorem Fm (l:List UInt8):aP l 16=[]:=by rw[js,dz,Yy]
theorem yp (l:List UInt8):aa l 0=0:=by rw[gf];rfl
theorem uT (l:List UInt8)(n k:Nat):List.Pairwise (· < ·) (co l n k):=by
 unfold co;exact XY _ XG
theorem uU (l:List UInt8)(a:Nat):List.Pairwise (· < ·) (cg l a):=by
 rw[gB];split
 ·exact Yp
 ·exact uT _ _ _
theorem sr {l:List UInt8}{a k:Nat}(h:k<(cg l a).length):(cg l a).getD k mb<l.length∧(l.getD ((cg l a).getD k mb) mb).toNat=a∧a≠0:=by
 have hm:(cg l a).getD k mb∈cg l a:=by
  rw[To,Ts h];exact Uo h
 generalize(cg l a).getD k mb=x at *
 rw[gB]at hm
 split at hm
 ·cases hm
 ·next q=>exact⟨(fB.1 hm).1,(fB.1 hm).2,q⟩
theorem ml {l:List Nat}{k:Nat}(h:k<l.length):l.take (k+1)=l.take k++[l.getD k mb]:=by
 rw[T8 h,To,Ts h];rfl
theorem Cy {l:List UInt8}{a k:Nat}(h:k<(cg l a).length):(cg l a).getD k mb∉(cg l a).take k:=by
 have hp:=(uU l a).take (i:=k+1)
 rw[ml h,W0]at hp
 intro q
 exact V1 _ (hp.2.2 _ q _ TP)
def fM (l:List UInt8)(a k i:Nat):UInt8:=if(l.getD i mb).toNat≠0∧((l.getD i mb).toNat<a∨((l.getD i mb).toNat=a∧i∈(cg l a).take k))then l.getD i mb else 0
def cm (l:List UInt8)(a k:Nat):List UInt8:=lk l ((Uv 320).map (fM l a k))
theorem ju (l:List UInt8)(a k:Nat):cm l a k=(Uv 320).map (fM l a k):=aw _ _
theorem er (l:List UInt8)(a k:Nat):(cm l a k).length=320:=by rw[ju,TH,U5]
theorem iK {l:List UInt8}{a k i:Nat}:(cm l a k)[i]? =if i<320 then some (fM l a k i)else none:=by
 rw[ju,TN]
 by_cases h:i<320
 ·rw[if_pos h,UO h];rfl
 ·rw[if_neg h,TY (by rw[U5];omega)];rfl
theorem Ab {l:List UInt8}{a k:Nat}(hl:l.length≤320)(h:k<(cg l a).length):(cm l a k).getD ((cg l a).getD k mb) mb=0:=by
 have h1:=sr h
 have h2:=Cy h
 rw[To,iK,if_pos (by omega)]
 show fM _ _ _ _=0
 unfold fM
 rw[if_neg]
 rintro⟨_,q|q⟩
 ·omega
 ·exact h2 q.2
theorem Ac {l:List UInt8}{a k o:Nat}{d:D}(hl:l.length≤320)(h:k<(cg l a).length)(ho:o=(cg l a).getD k mb)(hd:d=dG a):aj ((cm l a k).map dB) o [d]=(cm l a (k+1)).map dB:=by
 have h1:=sr h
 subst ho
 apply Uu
 intro i
 rw[ci (by simp only[TH,er,Ud];omega),TN,TN,iK,iK]
 by_cases hi:i=(cg l a).getD k mb
 ·rw[if_pos ⟨by omega,by simp only[Ud];omega⟩,if_pos (by omega),hi,UJ]
  show some d=some (dB (fM _ _ _ _))
  unfold fM
  rw[if_pos ⟨by omega,.inr ⟨h1.2.1,by rw[ml h];simp⟩⟩,hd]
  unfold dB dG;rw[h1.2.1]
 ·rw[if_neg (by simp only[Ud];omega)]
  congr 1
  split
  ·congr 1
   unfold fM
   have e:(i∈(cg l a).take (k+1))↔(i∈(cg l a).take k):=by
    rw[ml h,XL,Wd]
    exact⟨fun q=>q.resolve_right hi,.inl⟩
   simp only[e]
  ·rfl
theorem uV {l:List UInt8}{a:Nat}:cm l a (aa l a)=cm l (a+1) 0:=by
 rw[ju,ju]
 apply Xa
 intro i _
 unfold fM
 rw[←bR,Uy,XT]
 have e:((l.getD i mb).toNat≠0∧((l.getD i mb).toNat<a∨((l.getD i mb).toNat=a∧i∈cg l a)))↔((l.getD i mb).toNat≠0∧((l.getD i mb).toNat<a+1∨((l.getD i mb).toNat=a+1∧i∈([]:List Nat)))):=by
  simp only[Wv,and_false,or_false]
  constructor
  ·rintro⟨h1,h2|h2⟩
   ·exact⟨h1,by omega⟩
   ·exact⟨h1,by omega⟩
  ·rintro⟨h1,h2⟩
   refine⟨h1,?_⟩
   rcases T5 (l.getD i mb).toNat a with q|q
   ·exact .inl q
   ·have e:(l.getD i mb).toNat=a:=by omega
    refine .inr ⟨e,?_⟩
    have hi:i<l.length:=by
     rcases T5 i l.length with z|z
     ·exact z
     ·rw[To,TY z]at h1;exact absurd rfl h1
    rw[gB,if_neg (by omega)]
    exact fB.2 ⟨hi,e⟩
 simp only[e]
def cF (l:List UInt8):List UInt8:=l++TK (320-l.length) 0
theorem mo (l:List UInt8)(i:Nat):(cF l).getD i mb=l.getD i mb:=by
 unfold cF
 rw[To,To]
 rcases T5 i l.length with h|h
 ·rw[TQ h]
 ·rw[TO h,TY h,UT]
  split<;>rfl
theorem ec {l:List UInt8}(h:l.length≤320):(cF l).length=320:=by unfold cF;rw[Tt,T4];omega
theorem Cz {l:List UInt8}(hl:l.length≤320)(ho:dh l 15=false):cm l 16 0=cF l:=by
 apply Uu
 intro i
 rw[iK]
 by_cases h:i<320
 ·rw[if_pos h,Ts (by rw[ec hl];exact h)]
  congr 1
  have e:=mo l i
  rw[To,Ts (by rw[ec hl];exact h)]at e
  show fM l 16 0 i=_
  refine Xm ?_ e.symm
  unfold fM
  split
  ·rfl
  ·next q=>
   have:(l.getD i mb).toNat=0:=by
    rcases T5 i l.length with z|z
    ·have:=dN ho z
     rcases VI (l.getD i mb).toNat with y|y
     ·exact y
     ·exact absurd ⟨by omega,.inl (by omega)⟩ q
    ·rw[To,TY z];rfl
   exact(UInt8.toNat_inj.1 this).symm
 ·rw[if_neg h,TY (by rw[ec hl];omega)]
theorem uW {l:List UInt8}{n:Nat}(hl:l.length≤320)(hn:n≠0):co (cF l) n (cF l).length=co l n l.length:=by
 rw[ec hl]
 unfold co
 simp only[mo]
 rw[show 320=l.length+(320-l.length)from by omega,List.range_add,US]
 conv=>rhs;rw[←Ue (List.filter _ _)]
 congr 1
 rw[List.filter_eq_nil_iff]
 intro i hi
 obtain⟨j,_,rfl⟩:=List.mem_map.1 hi
 rw[To,TY (by omega)]
 simp;intro q;exact hn (by rw[←q];rfl)
theorem nI {l:List UInt8}(hl:l.length≤320)(n:Nat):aa (cF l) n=aa l n:=by
 rw[gf,gf];unfold pG
 split
 ·rfl
 ·next q=>rw[uW hl q]
theorem mp {l:List UInt8}(hl:l.length≤320):∀n,aI (cF l) n=aI l n
 |0=>rfl
 |n+1=>by
  rw[aI,aI,mp hl n]
  split
  ·rfl
  ·next q=>rw[uW hl q]
theorem mq {l:List UInt8}(hl:l.length≤320):ab (cF l)=ab l:=by rw[dz,dz,mp hl]
theorem qP (n:Nat):aU (TK n 0)=0∧bc (TK n 0)=0:=by
 induction n with
 |zero=>exact⟨rfl,rfl⟩
 |succ n ih=>rw[X9,aU,bc,ih.1,ih.2];exact⟨rfl,rfl⟩
theorem o8 {l:List UInt8}{m:Nat}(hm:m≤15)(h:aC l m=0):aC (cF l) 15=0:=by
 have h0:=dw h
 rw[iI]at *
 unfold sa at *
 have e1:aU (cF l)=aU l:=by unfold cF;rw[qG,(qP _).1];rfl
 have e2:bc (cF l)=bc l:=by unfold cF;rw[qH,(qP _).2];rfl
 have e3:dh (cF l) 15=false:=lf fun i _=>by
  rw[mo]
  rcases T5 i l.length with z|z
  ·have:=dN h0.2.1 z;omega
  ·rw[To,TY z];exact T7 _
 rw[ec h0.1,e1,e2,e3,if_neg (by omega),if_neg (by decide)]
 rw[if_neg (by omega),if_neg (by rw[h0.2.1];decide)]at h
 exact h
theorem iL {l:List UInt8}{m:Nat}(hm:m≤15)(h:aC l m=0):aC l 15=0∧dh l 15=false:=by
 have h0:=dw h
 have e3:dh l 15=false:=lf fun i z=>by have:=dN h0.2.1 z;omega
 refine⟨?_,e3⟩
 rw[iI]at *
 unfold sa at *
 rw[e3,if_neg (by omega),if_neg (by decide)]
 rw[if_neg (by omega),if_neg (by rw[h0.2.1];decide)]at h
 exact h
theorem CA {l:List UInt8}:∀x∈ab l,x<l.length:=by
 rw[dz]
 have:∀n,∀x∈aI l n,x<l.length:=fun n=>by
  induction n with
  |zero=>intro x hx;cases hx
  |succ n ih=>
   intro x hx
   rw[aI,XL]at hx
   rcases hx with q|q
   ·exact ih x q
   ·split at q
    ·cases q
    ·exact(fB.1 q).1
 exact this 16
theorem CB (v:Nat→Nat)(n:Nat)(L:List Nat):(L.filter fun i=>decide (0<v i∧v i<n+1)).length=(L.filter fun i=>decide (0<v i∧v i<n)).length+(if n=0 then 0 else(L.filter fun i=>decide (v i=n)).length):=by
 induction L with
 |nil=>simp
 |cons x r ih=>
  simp only[YG]
  by_cases h1:0<v x∧v x<n
  ·rw[if_pos (decide_eq_true (show 0<v x∧v x<n+1 by omega)),if_pos (decide_eq_true h1),if_neg (show¬decide (v x=n)=true from by simp;omega),T3,T3,ih]
   omega
  ·rw[if_neg (show¬decide (0<v x∧v x<n)=true from by simpa using h1)]
   by_cases h2:0<v x∧v x=n
   ·rw[if_pos (decide_eq_true (show 0<v x∧v x<n+1 by omega)),if_pos (decide_eq_true h2.2),T3,T3,ih,if_neg (by omega),if_neg (by omega)]
    omega
   ·rw[if_neg (show¬decide (0<v x∧v x<n+1)=true from by simp;omega),ih]
    by_cases h3:n=0
    ·rw[if_pos h3,if_pos h3]
    ·rw[if_neg h3,if_neg h3,if_neg (show¬decide (v x=n)=true from by simp;omega)]
theorem kD (l:List UInt8):∀n,(aI l n).length=((Uv l.length).filter fun i=>decide (0<(l.getD i mb).toNat∧(l.getD i mb).toNat<n)).length
 |0=>by rw[List.filter_eq_nil_iff.2 (fun i _=>by simp)];rfl
 |n+1=>by
  rw[CB (fun i=>(l.getD i mb).toNat) n,←kD l n,aI,Tt]
  split
  ·rfl
  ·rfl
theorem bq (l:List UInt8):(ab l).length≤l.length:=by
 rw[dz,kD]
 exact T6 (Wk _ _) (by simp)
theorem KD (f:Nat→Nat)(n:Nat)(h:n<16):(cZ f)[n*1]? =some (nD (f n)):=by rw[TZ];exact J8 f n h
theorem ll {l:List UInt8}{a:Nat}(h:a=0):aa l a=0:=by rw[h];exact yp l
theorem yq {l:List UInt8}{a:Nat}(h:a≤15):TL false (aa l a) 1 (UP (aa l a*1) ((aP l a).map nD))=TL false (aa l a) 1 ((cg l a).map nD):=by
 rw[TZ,←Wg,qN h]
theorem yr {l:List UInt8}{a:Nat}(h:a≤15):TL false ((aP l a).length-aa l a) 1 (UQ (aa l a*1) ((aP l a).map nD))=TL false (aP l (a+1)).length 1 ((aP l (a+1)).map nD):=by
 rw[TZ,←Xt,qO h,(eb h).2]
theorem ss {l:List UInt8}{a k:Nat}(hl:l.length≤320)(h:k<aa l a):(cg l a).getD (k*1) mb<l.length∧((cm l a k).getD ((cg l a).getD (k*1) mb) mb).toNat=0∧((cm l a k).getD (0+(cg l a).getD (k*1) mb*1) mb).toNat=0:=by
 rw[TZ,TZ,T0]
 have h':k<(cg l a).length:=by rw[bR];exact h
 have h1:=sr h'
 rw[Ab hl h']
 exact⟨h1.1,rfl,rfl⟩
theorem aW (l:List UInt8)(a:Nat):aa l a≤l.length:=by
 rw[gf];unfold pG;split
 ·exact T7 _
 ·exact jU _ _ _
theorem CC (l:List UInt8):(cm l 0 0).map dB=TK 320 (dG 0):=by
 rw[Wl]
 refine⟨by rw[TH,er],fun d hd=>?_⟩
 obtain⟨x,hx,rfl⟩:=List.mem_map.1 hd
 rw[ju]at hx
 obtain⟨i,_,rfl⟩:=List.mem_map.1 hx
 unfold fM
 rw[if_neg (by simp)];rfl
theorem CD (l:List UInt8)(m:Nat)(hm:m≤15)(h:aC l m=0):S0 58 [.sl false 320 1 ((cF l).map dB),nD 15] [] (.tup [.agg (cZ (aa l)++[.ref 0 0 0 (ab l).length 1]),iD 0]) [⟨(ab l).map nD, 3,true⟩]:=by
 have h0:=dw h
 have h2:=sk (cF l) 320 (ec h0.1).symm (by decide) 15 (by decide) (o8 hm h)
 rw[mq h0.1,show aa (cF l)=aa l from funext fun n=>nI h0.1 n]at h2
 exact h2
theorem wJ (l:List UInt8)(q p:Nat)(hq:q=(ab l).length)(hp:p=(ab l).length)(hQ:q≤320):S0 35 [oY q l,oY p l] [] (bD true) []:=by
 refine SpecH.run T_ok ai Try.func35 rfl rfl rfl trivial rfl 1000 64 (fun R ok=>(.s 23 (.t ((↑(aa l 0):Int)==(↑(aa l 0):Int)&&((↑(aa l 1):Int)==(↑(aa l 1):Int)&&((↑(aa l 2):Int)==(↑(aa l 2):Int)&&((↑(aa l 3):Int)==(↑(aa l 3):Int)&&((↑(aa l 4):Int)==(↑(aa l 4):Int)&&((↑(aa l 5):Int)==(↑(aa l 5):Int)&&((↑(aa l 6):Int)==(↑(aa l 6):Int)&&((↑(aa l 7):Int)==(↑(aa l 7):Int)&&((↑(aa l 8):Int)==(↑(aa l 8):Int)&&((↑(aa l 9):Int)==(↑(aa l 9):Int)&&((↑(aa l 10):Int)==(↑(aa l 10):Int)&&((↑(aa l 11):Int)==(↑(aa l 11):Int)&&((↑(aa l 12):Int)==(↑(aa l 12):Int)&&((↑(aa l 13):Int)==(↑(aa l 13):Int)&&((↑(aa l 14):Int)==(↑(aa l 14):Int)&&((↑(aa l 15):Int)==(↑(aa l 15):Int)&&true)))))))))))))))) Fj (.s 24 (.f ((q:Int) !=(p:Int)) (by(simp <;>(omega))) (.s 3 (Hn.inl T_ok ai false 26 112 (ap Try.prog 57 0) (fun(x:(i:Nat)×'(hi:i≤q)×'Unit)=>match x with|⟨i,hi,_⟩=>TJ [(0,TL false q 1 (map nD (ab l))),(1,TL false p 1 (map nD (ab l))),(12,zN q),(13,nD i)] [⟨0,0,0,0,.b ⟨[zN (aa l 0),zN (aa l 1),zN (aa l 2),zN (aa l 3),zN (aa l 4),zN (aa l 5),zN (aa l 6),zN (aa l 7),zN (aa l 8),zN (aa l 9),zN (aa l 10),zN (aa l 11),zN (aa l 12),zN (aa l 13),zN (aa l 14),zN (aa l 15),TL false q 1 (map nD (ab l))],43,false⟩⟩,⟨8,8,8,8,.b ⟨[zN (aa l 0),zN (aa l 1),zN (aa l 2),zN (aa l 3),zN (aa l 4),zN (aa l 5),zN (aa l 6),zN (aa l 7),zN (aa l 8),zN (aa l 9),zN (aa l 10),zN (aa l 11),zN (aa l 12),zN (aa l 13),zN (aa l 14),zN (aa l 15),TL false p 1 (map nD (ab l))],43,false⟩⟩] 128) (fun(x:(i:Nat)×'(hi:i≤q)×'Unit)=>match x with|⟨i,hi,_⟩=>q-i) [⟨Unit,.exit 0,fun x=>match x with|()=>TJ [(0,TL false q 1 (map nD (ab l))),(1,TL false p 1 (map nD (ab l))),(12,zN q)] [⟨0,0,0,0,.b ⟨[zN (aa l 0),zN (aa l 1),zN (aa l 2),zN (aa l 3),zN (aa l 4),zN (aa l 5),zN (aa l 6),zN (aa l 7),zN (aa l 8),zN (aa l 9),zN (aa l 10),zN (aa l 11),zN (aa l 12),zN (aa l 13),zN (aa l 14),zN (aa l 15),TL false q 1 (map nD (ab l))],43,false⟩⟩,⟨8,8,8,8,.b ⟨[zN (aa l 0),zN (aa l 1),zN (aa l 2),zN (aa l 3),zN (aa l 4),zN (aa l 5),zN (aa l 6),zN (aa l 7),zN (aa l 8),zN (aa l 9),zN (aa l 10),zN (aa l 11),zN (aa l 12),zN (aa l 13),zN (aa l 14),zN (aa l 15),TL false p 1 (map nD (ab l))],43,false⟩⟩] 128⟩] 1000 64 (fun|⟨i,hi,_⟩,Q,next1,last1=>(.s 2 (.bd ((i:Int)<q) (fun p0 p0f=>(.s 6 (.chk (true&&decide ((i:Int)<q)&&true) Fj (.s 2 (.opt ((map nD (ab l))[i*1]?) (nD (getD (ab l) (i*1) mb)) (aq _ _ om) (.s 3 (.chk (true&&decide ((i:Int)<p)&&true) Fj (.s 2 (.opt ((map nD (ab l))[i*1]?) (nD (getD (ab l) (i*1) mb)) (aq _ _ om) (.s 2 (.f ((↑(getD (ab l) (i*1) mb):Int) !=(↑(getD (ab l) (i*1) mb):Int)) (by(simp;done)) (.s 2 (.ow ((i:Int)+1) (.s 1 (.val 13 (zI ((i:Int)+1)) (zN (i+1)) (by(refine aT ?_;(omega))) (Hn.next next1 ⟨(i+1),om,⟨⟩⟩ (by show q-(i+1)<q-i;clear next1 last1;omega) [(0,0),(8,8)] ro)))))))))))))))) (fun p0 p0f=>(Hn.last last1 0 (():Unit) rfl [(0,0),(8,8)] ro))))) (fun|⟨i,hi,_⟩=>by kernel_rfl) ⟨(0),om,⟨⟩⟩ [(0,0),(8,8)] ro (bY (fun|()=>(.s 3 (.out [] [] (D.v (.bool true)) [] R (ok _ _ wr wr)))))))))))) kr
theorem HN (l:List UInt8)(m:Nat)(hm:m≤15)(h:aC l m=0)(q:Nat)(hq:q=(ab l).length):S0 36 [oY q l] [] (iD 0) []:=by
 have h0:=dw h
 have h1:=iL hm h
 have hQ:=bq l
 have hp:=ec h0.1
 refine SpecH.run T_ok ai Try.func36 rfl rfl rfl trivial rfl 1000 64 (fun R ok=>(.s 12 (.f (decide (320<(q:Int))) (by(refine decide_eq_false ?_;(omega))) (.s 18 (.val 4 (TL false q 1 (map nD (ab l))) (TL false (length (aP l 0)) 1 (map nD (aP l 0))) (by(rw[KC,hq])) (.blk 48 48 (Tq (replicate 320 (bI 0)) 5 true) (Tq (map dB (cm l 0 0)) 5 true) (by(rw[CC];rfl)) (Hn.inl T_ok ai false 91 0 (ap Try.prog 36 0) (fun(x:(a:Nat)×'(ha:a≤16)×'Unit)=>match x with|⟨a,ha,_⟩=>TJ [(1,TF 0 0 0),(3,Tu 8 8 0 320 1),(4,.sl false (aP l a).length 1 ((aP l a).map nD)),(19,UA [zN (aa l 0),zN (aa l 1),zN (aa l 2),zN (aa l 3),zN (aa l 4),zN (aa l 5),zN (aa l 6),zN (aa l 7),zN (aa l 8),zN (aa l 9),zN (aa l 10),zN (aa l 11),zN (aa l 12),zN (aa l 13),zN (aa l 14),zN (aa l 15)]),(20,nD a)] [⟨0,0,0,0,.b ⟨[zN (aa l 0),zN (aa l 1),zN (aa l 2),zN (aa l 3),zN (aa l 4),zN (aa l 5),zN (aa l 6),zN (aa l 7),zN (aa l 8),zN (aa l 9),zN (aa l 10),zN (aa l 11),zN (aa l 12),zN (aa l 13),zN (aa l 14),zN (aa l 15),TL false q 1 (map nD (ab l))],43,false⟩⟩,⟨8,8,48,48,.b ⟨(cm l a 0).map dB,5,true⟩⟩] 16) (fun(x:(a:Nat)×'(ha:a≤16)×'Unit)=>match x with|⟨a,ha,_⟩=>16-a) [⟨Unit,.exit 0,fun x=>match x with|()=>TJ [(1,TF 0 0 0),(3,Tu 8 8 0 320 1),(4,.sl false 0 1 []),(19,UA [zN (aa l 0),zN (aa l 1),zN (aa l 2),zN (aa l 3),zN (aa l 4),zN (aa l 5),zN (aa l 6),zN (aa l 7),zN (aa l 8),zN (aa l 9),zN (aa l 10),zN (aa l 11),zN (aa l 12),zN (aa l 13),zN (aa l 14),zN (aa l 15)])] [⟨0,0,0,0,.b ⟨[zN (aa l 0),zN (aa l 1),zN (aa l 2),zN (aa l 3),zN (aa l 4),zN (aa l 5),zN (aa l 6),zN (aa l 7),zN (aa l 8),zN (aa l 9),zN (aa l 10),zN (aa l 11),zN (aa l 12),zN (aa l 13),zN (aa l 14),zN (aa l 15),TL false q 1 (map nD (ab l))],43,false⟩⟩,⟨8,8,48,48,.b ⟨(cF l).map dB,5,true⟩⟩] 16⟩] 1000 64 (fun|⟨a,ha,_⟩,Q,next1,last1=>(.s 2 (.bd ((a:Int)<16) (fun p0 p0f=>(.s 2 (.chk (true&&decide ((a:Int)<(↑16:Int))) aD (.opt ((cZ (aa l))[a*1]?) (nD (aa l a)) (@KD (aa l) (a) om) (.s 18 (.f (decide ((↑(length (aP l a)):Int)<(↑(aa l a):Int))) KA (.s 6 (.br ((a:Int)==0) (fun p1=>have p1f:=eq_of_beq p1;(.s 6 (.f (decide (0<(↑(aa l a):Int))) KA (.s 3 (.chk (aZ none (some (↑(aa l a):Int)) none (length (aP l a))&&true) Fk (.s 2 (.val 42 (TL false (aa l a) 1 (take (aa l a*1) (map nD (aP l a)))) (TL false (aa l a) 1 (map nD (cg l a))) (by(exact yq (by(omega)))) (Hn.inl T_ok ai false 91 0 (ap Try.prog 36 1) (fun(x:(k:Nat)×'(hk:k≤aa l a)×'Unit)=>match x with|⟨k,hk,_⟩=>TJ [(1,TF 0 0 0),(3,Tu 8 8 0 320 1),(4,TL false (length (aP l a)) 1 (map nD (aP l a))),(5,zN a),(6,zN (aa l a)),(19,UA [zN (aa l 0),zN (aa l 1),zN (aa l 2),zN (aa l 3),zN (aa l 4),zN (aa l 5),zN (aa l 6),zN (aa l 7),zN (aa l 8),zN (aa l 9),zN (aa l 10),zN (aa l 11),zN (aa l 12),zN (aa l 13),zN (aa l 14),zN (aa l 15)]),(20,zN a),(27,zN (aa l a)),(28,TL false (length (aP l a)) 1 (map nD (aP l a))),(29,zN (length (aP l a))),(30,D.v (.bool (decide ((↑(length (aP l a)):Int)<(↑(aa l a):Int))))),(33,zN a),(34,D.v (.bool ((a:Int)==0))),(35,D.v (.bool true)),(36,zN (aa l a)),(37,D.v (.bool (decide (0<(↑(aa l a):Int))))),(38,D.v (.bool (decide (0<(↑(aa l a):Int))))),(42,.sl false (aa l a) 1 ((cg l a).map nD)),(43,zN (aa l a)),(44,nD k)] [⟨0,0,0,0,.b ⟨[zN (aa l 0),zN (aa l 1),zN (aa l 2),zN (aa l 3),zN (aa l 4),zN (aa l 5),zN (aa l 6),zN (aa l 7),zN (aa l 8),zN (aa l 9),zN (aa l 10),zN (aa l 11),zN (aa l 12),zN (aa l 13),zN (aa l 14),zN (aa l 15),TL false q 1 (map nD (ab l))],43,false⟩⟩,⟨8,8,8,8,.b ⟨(cm l a k).map dB,5,true⟩⟩] 16) (fun(x:(k:Nat)×'(hk:k≤aa l a)×'Unit)=>match x with|⟨k,hk,_⟩=>aa l a-k) [⟨Unit,.exit 2,fun x=>match x with|()=>TJ [(1,TF 0 0 0),(3,Tu 8 8 0 320 1),(4,TL false (length (aP l a)) 1 (map nD (aP l a))),(5,zN a),(6,zN (aa l a)),(19,UA [zN (aa l 0),zN (aa l 1),zN (aa l 2),zN (aa l 3),zN (aa l 4),zN (aa l 5),zN (aa l 6),zN (aa l 7),zN (aa l 8),zN (aa l 9),zN (aa l 10),zN (aa l 11),zN (aa l 12),zN (aa l 13),zN (aa l 14),zN (aa l 15)]),(20,zN a),(27,zN (aa l a)),(28,TL false (length (aP l a)) 1 (map nD (aP l a))),(29,zN (length (aP l a))),(30,D.v (.bool (decide ((↑(length (aP l a)):Int)<(↑(aa l a):Int))))),(33,zN a),(34,D.v (.bool ((a:Int)==0))),(35,D.v (.bool true)),(36,zN (aa l a)),(37,D.v (.bool (decide (0<(↑(aa l a):Int))))),(38,D.v (.bool (decide (0<(↑(aa l a):Int))))),(43,zN (aa l a))] [⟨0,0,0,0,.b ⟨[zN (aa l 0),zN (aa l 1),zN (aa l 2),zN (aa l 3),zN (aa l 4),zN (aa l 5),zN (aa l 6),zN (aa l 7),zN (aa l 8),zN (aa l 9),zN (aa l 10),zN (aa l 11),zN (aa l 12),zN (aa l 13),zN (aa l 14),zN (aa l 15),TL false q 1 (map nD (ab l))],43,false⟩⟩,⟨8,8,8,8,.b ⟨(cm l (a+1) 0).map dB,5,true⟩⟩] 16⟩] 1000 64 (fun|⟨k,hk,_⟩,Q,next2,last2=>(.s 2 (.f (decide ((k:Int)<(↑(aa l a):Int))) KA (.blk 8 8 (Tq (map dB (cm l a k)) 5 true) (Tq (map dB (cm l (a+1) 0)) 5 true) (by(have h9:=(eb (l:=l) (a:=a) om).1;have h8:=ll (l:=l) (a:=a);have h4:=aW l a;rw[show k=aa l a from by omega,uV])) (Hn.last last2 0 (():Unit) rfl [(0,0),(8,8)] ro))))) (fun|⟨k,hk,_⟩=>by kernel_rfl) ⟨(0),om,⟨⟩⟩ [(0,0),(8,8)] ro (bY (fun|()=>(.s 3 (.chk (aZ (some (↑(aa l a):Int)) none none (length (aP l a))&&true) Fk (.s 3 (.ow ((a:Int)+1) (.s 1 (.val 4 (TL false (length (aP l a)-aa l a) 1 (drop (aa l a*1) (map nD (aP l a)))) (TL false (length (aP l (a+1))) 1 (map nD (aP l (a+1)))) (by(exact yr (by(omega)))) (.val 20 (zI ((a:Int)+1)) (zN (a+1)) Cw (Hn.next next1 ⟨(a+1),om,⟨⟩⟩ KB [(0,0),(8,8)] ro)))))))))))))))))) (fun p1=>have p1f:=am p1;(.s 9 (.chk (aZ none (some (↑(aa l a):Int)) none (length (aP l a))&&true) Fk (.s 2 (.val 42 (TL false (aa l a) 1 (take (aa l a*1) (map nD (aP l a)))) (TL false (aa l a) 1 (map nD (cg l a))) (by(exact yq (by(omega)))) (Hn.inl T_ok ai false 91 0 (ap Try.prog 36 1) (fun(x:(k:Nat)×'(hk:k≤aa l a)×'Unit)=>match x with|⟨k,hk,_⟩=>TJ [(1,TF 0 0 0),(3,Tu 8 8 0 320 1),(4,TL false (length (aP l a)) 1 (map nD (aP l a))),(5,zN a),(6,zN (aa l a)),(19,UA [zN (aa l 0),zN (aa l 1),zN (aa l 2),zN (aa l 3),zN (aa l 4),zN (aa l 5),zN (aa l 6),zN (aa l 7),zN (aa l 8),zN (aa l 9),zN (aa l 10),zN (aa l 11),zN (aa l 12),zN (aa l 13),zN (aa l 14),zN (aa l 15)]),(20,zN a),(27,zN (aa l a)),(28,TL false (length (aP l a)) 1 (map nD (aP l a))),(29,zN (length (aP l a))),(30,D.v (.bool (decide ((↑(length (aP l a)):Int)<(↑(aa l a):Int))))),(33,zN a),(34,D.v (.bool ((a:Int)==0))),(35,D.v (.bool false)),(36,Uw []),(37,Uw []),(38,D.v (.bool false)),(42,.sl false (aa l a) 1 ((cg l a).map nD)),(43,zN (aa l a)),(44,nD k)] [⟨0,0,0,0,.b ⟨[zN (aa l 0),zN (aa l 1),zN (aa l 2),zN (aa l 3),zN (aa l 4),zN (aa l 5),zN (aa l 6),zN (aa l 7),zN (aa l 8),zN (aa l 9),zN (aa l 10),zN (aa l 11),zN (aa l 12),zN (aa l 13),zN (aa l 14),zN (aa l 15),TL false q 1 (map nD (ab l))],43,false⟩⟩,⟨8,8,8,8,.b ⟨(cm l a k).map dB,5,true⟩⟩] 16) (fun(x:(k:Nat)×'(hk:k≤aa l a)×'Unit)=>match x with|⟨k,hk,_⟩=>aa l a-k) [⟨Unit,.exit 2,fun x=>match x with|()=>TJ [(1,TF 0 0 0),(3,Tu 8 8 0 320 1),(4,TL false (length (aP l a)) 1 (map nD (aP l a))),(5,zN a),(6,zN (aa l a)),(19,UA [zN (aa l 0),zN (aa l 1),zN (aa l 2),zN (aa l 3),zN (aa l 4),zN (aa l 5),zN (aa l 6),zN (aa l 7),zN (aa l 8),zN (aa l 9),zN (aa l 10),zN (aa l 11),zN (aa l 12),zN (aa l 13),zN (aa l 14),zN (aa l 15)]),(20,zN a),(27,zN (aa l a)),(28,TL false (length (aP l a)) 1 (map nD (aP l a))),(29,zN (length (aP l a))),(30,D.v (.bool (decide ((↑(length (aP l a)):Int)<(↑(aa l a):Int))))),(33,zN a),(34,D.v (.bool ((a:Int)==0))),(35,D.v (.bool false)),(36,Uw []),(37,Uw []),(38,D.v (.bool false)),(43,zN (aa l a))] [⟨0,0,0,0,.b ⟨[zN (aa l 0),zN (aa l 1),zN (aa l 2),zN (aa l 3),zN (aa l 4),zN (aa l 5),zN (aa l 6),zN (aa l 7),zN (aa l 8),zN (aa l 9),zN (aa l 10),zN (aa l 11),zN (aa l 12),zN (aa l 13),zN (aa l 14),zN (aa l 15),TL false q 1 (map nD (ab l))],43,false⟩⟩,⟨8,8,8,8,.b ⟨(cm l (a+1) 0).map dB,5,true⟩⟩] 16⟩] 1000 64 (fun|⟨k,hk,_⟩,Q,next2,last2=>(.s 2 (.bd ((k:Int)<(↑(aa l a):Int)) (fun p2 p2f=>(.s 1 (.chk (true&&decide ((k:Int)<(↑(aa l a):Int))&&true) Fj (.s 2 (.opt ((map nD (cg l a))[k*1]?) (nD (getD (cg l a) (k*1) mb)) (aq _ _ (by(have h9:=(eb (l:=l) (a:=a) om).1;have h8:=ll (l:=l) (a:=a);have h4:=aW l a;have h6:=er l a k;have h5:=bR l a;omega))) (.s 17 (.f (decide ((↑320:Int)≤(↑(getD (cg l a) (k*1) mb):Int))) Ox (.s 4 (.chk (true&&decide ((↑(getD (cg l a) (k*1) mb):Int)<(↑320:Int))) Oy (.s 3 (.opt ((map dB (cm l a k))[0+getD (cg l a) (k*1) mb*1]?) (dB (getD (cm l a k) (0+getD (cg l a) (k*1) mb*1) mb)) (aq _ _ (by(have h9:=(eb (l:=l) (a:=a) om).1;have h8:=ll (l:=l) (a:=a);have h4:=aW l a;have h7:=ss (l:=l) (a:=a) (k:=k) om om;have h6:=er l a k;have h5:=bR l a;omega))) (.s 4 (.f (decide (0<(↑(Tp (getD (cm l a k) (0+getD (cg l a) (k*1) mb*1) mb)):Int))) Ox (.s 4 (.opt (ar .u8 (a:Int)) (aQ a) (bB om) (.s 1 (.chk (true&&decide ((↑(getD (cg l a) (k*1) mb):Int)<(↑320:Int))) Oy (.s 1 (.chk (true&&Tz (0+getD (cg l a) (k*1) mb*1+1) (length (map dB (cm l a k)))) (by(simp only[Ub,TH,er];refine Tv ?_;have h9:=(eb (l:=l) (a:=a) om).1;have h8:=ll (l:=l) (a:=a);have h4:=aW l a;have h7:=ss (l:=l) (a:=a) (k:=k) om om;have h6:=er l a k;have h5:=bR l a;omega)) (.lst (aj (map dB (cm l a k)) (0+getD (cg l a) (k*1) mb*1) [aQ a]) (aj (map dB (cm l a k)) (getD (cg l a) k mb) [aQ a]) Cw (.s 2 (.op ((k:Int)+1) (by(have h9:=(eb (l:=l) (a:=a) om).1;have h8:=ll (l:=l) (a:=a);have h4:=aW l a;omega)) (.s 1 (.val 44 (zI ((k:Int)+1)) (zN (k+1)) Cw (.blk 8 8 (Tq (aj (map dB (cm l a k)) (getD (cg l a) k mb) [aQ a]) 5 true) (Tq (map dB (cm l a (k+1))) 5 true) (by(refine ay (Ac (by(omega)) (by rw[bR];(omega)) (by simp only[TZ,T0]) ?_);first|rfl|(first|rfl|(refine congrArg _ (congrArg _ ?_);omega)))) (Hn.next next2 ⟨(k+1),om,⟨⟩⟩ (by show aa l a-(k+1)<aa l a-k;clear next2 last2 next1 last1;omega) [(0,0),(8,8)] ro)))))))))))))))))))))))))) (fun p2 p2f=>(.blk 8 8 (Tq (map dB (cm l a k)) 5 true) (Tq (map dB (cm l (a+1) 0)) 5 true) (by(rw[show k=aa l a from by(omega),uV])) (Hn.last last2 0 (():Unit) rfl [(0,0),(8,8)] ro)))))) (fun|⟨k,hk,_⟩=>by kernel_rfl) ⟨(0),om,⟨⟩⟩ [(0,0),(8,8)] ro (bY (fun|()=>(.s 3 (.chk (aZ (some (↑(aa l a):Int)) none none (length (aP l a))&&true) Fk (.s 3 (.ow ((a:Int)+1) (.s 1 (.val 4 (TL false (length (aP l a)-aa l a) 1 (drop (aa l a*1) (map nD (aP l a)))) (TL false (length (aP l (a+1))) 1 (map nD (aP l (a+1)))) (by(exact yr (by(omega)))) (.val 20 (zI ((a:Int)+1)) (zN (a+1)) Cw (Hn.next next1 ⟨(a+1),om,⟨⟩⟩ KB [(0,0),(8,8)] ro)))))))))))))))))))))))) (fun p0 p0f=>(.val 4 (TL false (length (aP l a)) 1 (map nD (aP l a))) (TL false 0 1 []) (by(rw[show a=16 from by(omega),Fm];rfl)) (.blk 8 8 (Tq (map dB (cm l a 0)) 5 true) (Tq (map dB (cF l)) 5 true) (by(rw[show a=16 from by(omega),Cz (by(omega)) h1.2])) (Hn.last last1 0 (():Unit) rfl [(0,0),(8,8)] ro))))))) (fun|⟨a,ha,_⟩=>by kernel_rfl) ⟨(0),om,⟨⟩⟩ [(0,0),(48,48)] ro (bY (fun|()=>(.s 2 (.call 58 false [] (true&&(true&&Tz 320 (length (map dB (cF l)))&&true&&af (bif true&&Tx 320 (length (map dB (cF l)))then map dB (cF l)else take 320 (drop 0 (map dB (cF l)))))&&true) (by(simp <;>(omega))) ([TL true 320 1 (bif true&&Tx 320 (length (map dB (cF l)))then map dB (cF l)else take 320 (drop 0 (map dB (cF l)))),zI 15]) _ (by exact(Ut (D.sim.slw rfl (cn (by(simp <;>(omega)))|>.trans rfl)) (qr trivial))) (true) wr _ _ _ (TW (az.of Try.func58 rfl rfl) (@CD (l) (m) aD om)) (.s 36 (.call 35 false [] (true&&(true&&(true&&(true&&(true&&(true&&(true&&(true&&(true&&(true&&(true&&(true&&(true&&(true&&(true&&(true&&(true&&(true&&Tz (0+length (ab l)*1) (length (map nD (ab l)))&&true&&af (bif true&&Tx (length (ab l)*1) (length (map nD (ab l)))then map nD (ab l)else take (length (ab l)*1) (drop 0 (map nD (ab l)))))&&true))))))))))))))))&&true) Cw ([UA [zN (aa l 0),zN (aa l 1),zN (aa l 2),zN (aa l 3),zN (aa l 4),zN (aa l 5),zN (aa l 6),zN (aa l 7),zN (aa l 8),zN (aa l 9),zN (aa l 10),zN (aa l 11),zN (aa l 12),zN (aa l 13),zN (aa l 14),zN (aa l 15),TL (Tz 1 (length (ab l))) (length (ab l)) 1 (bif true&&Tx (length (ab l)*1) (length (map nD (ab l)))then map nD (ab l)else take (length (ab l)*1) (drop 0 (map nD (ab l))))],UA [zN (aa l 0),zN (aa l 1),zN (aa l 2),zN (aa l 3),zN (aa l 4),zN (aa l 5),zN (aa l 6),zN (aa l 7),zN (aa l 8),zN (aa l 9),zN (aa l 10),zN (aa l 11),zN (aa l 12),zN (aa l 13),zN (aa l 14),zN (aa l 15),TL false q 1 (map nD (ab l))]]) _ (by exact(Ut (D.sim.agg (qr (qr (qr (qr (qr (qr (qr (qr (qr (qr (qr (qr (qr (qr (qr (qr (Ut (D.sim.slw rfl (cn (by(simp[lc,jT];done))|>.trans rfl)) trivial)))))))))))))))))) (qr trivial))) (true) wr _ _ _ (TW (az.of Try.func35 rfl rfl) (@wJ (l) (length (ab l)) (q) om om om)) (.s 5 (.out [] [] (zI 0) [] R (ok _ _ wr wr)))))))))))))))) kr
def mr (b l:List UInt8):Nat→Nat→Nat→Nat→Nat×Nat×Nat
 |0,_,_,_=>(0,0,50)
 |k+1,a,d,p=>if(aI l a).length+aa l a=(ab l).length then(0,0,50)else if kJ b p 1≠0 then(0,0,10)else
  if 2*(d-aa l a)+gA b p 1<aa l (a+1)then((ab l).getD ((aI l a).length+aa l a+(2*(d-aa l a)+gA b p 1)) mb,p+1,0)
  else mr b l k (a+1) (2*(d-aa l a)+gA b p 1) (p+1)
def ee (b l:List UInt8)(p:Nat):Nat×Nat×Nat:=lk b (mr b l 16 0 0 p)
theorem mv (b l:List UInt8)(p:Nat):ee b l p=mr b l 16 0 0 p:=aw _ _
theorem KE {b l:List UInt8}{a d p:Nat}(ha:a≤15)(h:(aI l a).length+aa l a=(ab l).length):mr b l (16-a) a d p=(0,0,50):=by
 rw[show 16-a=(15-a)+1 from by omega,mr,if_pos h]
theorem KF {b l:List UInt8}{a d p:Nat}(ha:a≤15)(h:¬(aI l a).length+aa l a=(ab l).length)(h2:kJ b p 1≠0):mr b l (16-a) a d p=(0,0,10):=by
 rw[show 16-a=(15-a)+1 from by omega,mr,if_neg h,if_pos h2]
theorem Fo {b l:List UInt8}{a d p:Nat}(ha:a≤15)(h:¬(aI l a).length+aa l a=(ab l).length)(h2:kJ b p 1=0)(h3:2*(d-aa l a)+gA b p 1<aa l (a+1)):mr b l (16-a) a d p=((ab l).getD ((aI l a).length+aa l a+(2*(d-aa l a)+gA b p 1)) mb,p+1,0):=by
 rw[show 16-a=(15-a)+1 from by omega,mr,if_neg h,if_neg (by omega),if_pos h3]
theorem Oz {b l:List UInt8}{a d p:Nat}(ha:a≤15)(h:¬(aI l a).length+aa l a=(ab l).length)(h2:kJ b p 1=0)(h3:¬2*(d-aa l a)+gA b p 1<aa l (a+1)):mr b l (16-a) a d p=mr b l (16-(a+1)) (a+1) (2*(d-aa l a)+gA b p 1) (p+1):=by
 rw[show 16-a=(15-a)+1 from by omega,mr,if_neg h,if_neg (by omega),if_neg h3,show 15-a=16-(a+1)from by omega]
def Tj (r:Nat×Nat×Nat):D:=.tup [nD r.1,nD r.2.1,nD r.2.2]
theorem bJ {l:List UInt8}{a:Nat}(h:a≤15):(aI l a).length+aa l a≤(ab l).length∧(aI l (a+1)).length=(aI l a).length+aa l a∧(a=15→(aI l a).length+aa l a=(ab l).length):=by
 have e:(aI l (a+1)).length=(aI l a).length+aa l a:=by rw[cW,Tt,bR]
 obtain⟨r,hr⟩:=jt (l:=l) h
 have h2:=congrArg Xr hr
 rw[Tt,Tt,bR]at h2
 refine⟨by omega,e,fun q=>?_⟩
 subst q
 rw[dz,e]
theorem wK (f:Nat→Nat){r:List D}(n:Nat)(h:n<16):(cZ f++r)[0+n*1]? =some (nD (f n)):=by rw[TZ,T0];exact ye f r n h
theorem KG (f:Nat→Nat){r:List D}(a:Nat)(h:a+1<16):(cZ f++r)[0+zK ((a:Int)+1)*1]? =some (nD (f (a+1))):=by
 rw[show 0+zK ((a:Int)+1)*1=a+1 from by omega];exact ye f r (a+1) h
theorem su {b l:List UInt8}{p x y z:Nat}(h:ee b l p=(x,y,z)):nD x=nD (ee b l p).1∧nD y=nD (ee b l p).2.1∧nD z=nD (ee b l p).2.2:=by rw[h];exact⟨rfl,rfl,rfl⟩
theorem RA {s:List Nat}{i:Nat}{j:Nat}(h:i=j):D.v (.int .i64 ((s.getD i mb:Nat):Int))=nD (s.getD j mb):=by rw[h]
theorem dV (b:List UInt8)(p:Nat):gA b p 1<2:=wz b p 1
theorem CE (l:List UInt8)(m:Nat)(hm:m≤15)(h:aC l m=0)(q:Nat)(hq:q=(ab l).length)(b:List UInt8)(n:Nat)(hn:n=b.length)(hN:n≤1000000)(p:Nat)(hp:p≤15000000):S0 88 [oY q l,.sl false n 1 (b.map dB),nD p] [] (Tj (ee b l p)) []:=by
 have h0:=dw h
 have h1:=iL hm h
 have hQ:=bq l
 have hp:=ec h0.1
 refine SpecH.run T_ok ai Try.func88 rfl rfl rfl trivial rfl 1000 64 (fun R ok=>(.s 10 (.call 36 false [] (true) wr ([UA [zN (aa l 0),zN (aa l 1),zN (aa l 2),zN (aa l 3),zN (aa l 4),zN (aa l 5),zN (aa l 6),zN (aa l 7),zN (aa l 8),zN (aa l 9),zN (aa l 10),zN (aa l 11),zN (aa l 12),zN (aa l 13),zN (aa l 14),zN (aa l 15),TL false q 1 (map nD (ab l))]]) _ (by exact(qr trivial)) (true) wr _ _ _ (TW (az.of Try.func36 rfl rfl) (@HN (l) (m) aD om (q) om)) (.s 18 (Hn.inl T_ok ai false 47 0 (ap Try.prog 88 0) (fun(x:(a:Nat)×'(ha:a≤15)×'(d:Nat)×'(hd:aa l a≤d)×'(fi:Nat)×'(hb:fi+d+1≤2^a)×'(c:Nat)×'(hc:c≤p+a)×'(hR:mr b l (16-a) a d c=ee b l p)×'Unit)=>match x with|⟨a,ha,d,hd,fi,hb,c,hc,hR,_⟩=>TJ [(1,TL false n 1 (map dB b)),(2,nD c),(3,TF 0 0 0),(10,TF 8 8 0)] [⟨0,0,0,0,.b ⟨[zN (aa l 0),zN (aa l 1),zN (aa l 2),zN (aa l 3),zN (aa l 4),zN (aa l 5),zN (aa l 6),zN (aa l 7),zN (aa l 8),zN (aa l 9),zN (aa l 10),zN (aa l 11),zN (aa l 12),zN (aa l 13),zN (aa l 14),zN (aa l 15),TL false q 1 (map nD (ab l))],43,false⟩⟩,⟨8,8,104,104,.c ⟨cZ (aa l)++[.sl false q 1 ((ab l).map nD),nD a,nD (fi+d),nD fi,nD (aI l a).length],205,false⟩⟩] 16) (fun(x:(a:Nat)×'(ha:a≤15)×'(d:Nat)×'(hd:aa l a≤d)×'(fi:Nat)×'(hb:fi+d+1≤2^a)×'(c:Nat)×'(hc:c≤p+a)×'(hR:mr b l (16-a) a d c=ee b l p)×'Unit)=>match x with|⟨a,ha,d,hd,fi,hb,c,hc,hR,_⟩=>16-a) [⟨Unit,.ret,fun x=>match x with|()=>TJ [(6,nD (ee b l p).1),(7,nD (ee b l p).2.1),(8,nD (ee b l p).2.2)] [⟨0,0,0,0,.b ⟨[zN (aa l 0),zN (aa l 1),zN (aa l 2),zN (aa l 3),zN (aa l 4),zN (aa l 5),zN (aa l 6),zN (aa l 7),zN (aa l 8),zN (aa l 9),zN (aa l 10),zN (aa l 11),zN (aa l 12),zN (aa l 13),zN (aa l 14),zN (aa l 15),TL false q 1 (map nD (ab l))],43,false⟩⟩] 16⟩] 1000 64 (fun|⟨a,ha,d,hd,fi,hb,c,hc,hR,_⟩,Q,next1,last1=>(.s 30 (.chk (true&&decide ((a:Int)<(↑16:Int))) Fl (.s 3 (.opt ((cZ (aa l)++[TL false q 1 (map nD (ab l)),zN a,zN (fi+d),zN fi,zN (length (aI l a))])[0+a*1]?) (nD (aa l a)) (@wK (aa l) ([TL false q 1 (map nD (ab l)),zN a,zN (fi+d),zN fi,zN (length (aI l a))]) (a) om) (.s 2 (.op ((↑(length (aI l a)):Int)+(↑(aa l a):Int)) nd (.s 15 (.br ((↑(length (aI l a)):Int)+(↑(aa l a):Int)==(q:Int)) (fun p0=>have p0f:=eq_of_beq p0;(.s 3 (.val 6 (zI 0) (zN (Ty (ee b l p))) (by(have h9:=bJ (l:=l) (a:=a) om;have h8:=dV b c;have h7:=aW l a;have h6:=aW l (a+1);have h5:=bq l;have h4:=Us 2 a;have h3:2^a≤2^15:=TX (by decide) om;exact(su (hR.symm.trans (KE om om))).1)) (.val 7 (zI 0) (zN (Ty (Tm (ee b l p)))) (by(have h9:=bJ (l:=l) (a:=a) om;have h8:=dV b c;have h7:=aW l a;have h6:=aW l (a+1);have h5:=bq l;have h4:=Us 2 a;have h3:2^a≤2^15:=TX (by decide) om;exact(su (hR.symm.trans (KE om om))).2.1)) (.val 8 (zI 50) (zN (Tm (Tm (ee b l p)))) (by(have h9:=bJ (l:=l) (a:=a) om;have h8:=dV b c;have h7:=aW l a;have h6:=aW l (a+1);have h5:=bq l;have h4:=Us 2 a;have h3:2^a≤2^15:=TX (by decide) om;exact(su (hR.symm.trans (KE om om))).2.2)) (Hn.last last1 0 (():Unit) rfl [(0,0)] ro)))))) (fun p0=>have p0f:=am p0;(.s 3 (.cl 84 false [] (.fn SS (@Cp (b) (n) om om ((c:Int)) (1) om om)) (.s 10 (.br ((↑(kJ b c 1):Int) !=0) (fun p1=>have p1f:=bE p1;(.s 3 (.val 6 (zI 0) (zN (Ty (ee b l p))) (by(have h9:=bJ (l:=l) (a:=a) om;have h8:=dV b c;have h7:=aW l a;have h6:=aW l (a+1);have h5:=bq l;have h4:=Us 2 a;have h3:2^a≤2^15:=TX (by decide) om;exact(su (hR.symm.trans (KF om om om))).1)) (.val 7 (zI 0) (zN (Ty (Tm (ee b l p)))) (by(have h9:=bJ (l:=l) (a:=a) om;have h8:=dV b c;have h7:=aW l a;have h6:=aW l (a+1);have h5:=bq l;have h4:=Us 2 a;have h3:2^a≤2^15:=TX (by decide) om;exact(su (hR.symm.trans (KF om om om))).2.1)) (.val 8 (zI 10) (zN (Tm (Tm (ee b l p)))) (by(have h9:=bJ (l:=l) (a:=a) om;have h8:=dV b c;have h7:=aW l a;have h6:=aW l (a+1);have h5:=bq l;have h4:=Us 2 a;have h3:2^a≤2^15:=TX (by decide) om;exact(su (hR.symm.trans (KF om om om))).2.2)) (Hn.last last1 0 (():Unit) rfl [(0,0)] ro)))))) (fun p1=>have p1f:=bF p1;(.s 3 (.ow ((c:Int)+1) (.s 33 (.chk (true&&decide ((a:Int)<(↑16:Int))) Fl (.s 3 (.opt ((cZ (aa l)++[TL false q 1 (map nD (ab l)),zN a,zN (fi+d),zN fi,zN (length (aI l a))])[0+a*1]?) (nD (aa l a)) (@wK (aa l) ([TL false q 1 (map nD (ab l)),zN a,zN (fi+d),zN fi,zN (length (aI l a))]) (a) om) (.s 2 (.op ((fi:Int)+(↑(aa l a):Int)) nd (.s 2 (.op (((fi:Int)+(↑(aa l a):Int))*2) nd (.s 33 (.chk (true&&decide ((a:Int)<(↑16:Int))) Fl (.s 3 (.opt ((cZ (aa l)++[TL false q 1 (map nD (ab l)),zN a,zN (fi+d),zI (((fi:Int)+(↑(aa l a):Int))*2),zN (length (aI l a))])[0+a*1]?) (nD (aa l a)) (@wK (aa l) ([TL false q 1 (map nD (ab l)),zN a,zN (fi+d),zI (((fi:Int)+(↑(aa l a):Int))*2),zN (length (aI l a))]) (a) om) (.s 2 (.op ((↑(length (aI l a)):Int)+(↑(aa l a):Int)) nd (.s 18 (.op ((↑(fi+d):Int)*2) nd (.s 2 (.op (↑(gA b c 1):Int) nd (.s 2 (.op ((↑(fi+d):Int)*2+(↑(gA b c 1):Int)) nd (.s 17 (.ow ((a:Int)+1) (.s 26 (.op ((↑(fi+d):Int)*2+(↑(gA b c 1):Int)-((fi:Int)+(↑(aa l a):Int))*2) nd (.s 20 (.chk (true&&decide ((a:Int)+1<(↑16:Int))) (by(refine decide_eq_true ?_;have h9:=bJ (l:=l) (a:=a) om;have h8:=dV b c;have h7:=aW l a;have h6:=aW l (a+1);have h5:=bq l;have h4:=Us 2 a;have h3:2^a≤2^15:=TX (by decide) om;omega)) (.s 3 (.opt ((cZ (aa l)++[TL false q 1 (map nD (ab l)),zI ((a:Int)+1),zI ((↑(fi+d):Int)*2+(↑(gA b c 1):Int)),zI (((fi:Int)+(↑(aa l a):Int))*2),zI ((↑(length (aI l a)):Int)+(↑(aa l a):Int))])[0+zK ((a:Int)+1)*1]?) (nD (aa l (a+1))) (@KG (aa l) ([TL false q 1 (map nD (ab l)),zI ((a:Int)+1),zI ((↑(fi+d):Int)*2+(↑(gA b c 1):Int)),zI (((fi:Int)+(↑(aa l a):Int))*2),zI ((↑(length (aI l a)):Int)+(↑(aa l a):Int))]) (a) nd) (.s 2 (.bd ((↑(fi+d):Int)*2+(↑(gA b c 1):Int)-((fi:Int)+(↑(aa l a):Int))*2<(↑(aa l (a+1)):Int)) (fun p2 p2f=>(.s 11 (.op ((↑(length (aI l a)):Int)+(↑(aa l a):Int)+((↑(fi+d):Int)*2+(↑(gA b c 1):Int)-((fi:Int)+(↑(aa l a):Int))*2)) nd (.s 5 (.t (decide (0≤(↑(length (aI l a)):Int)+(↑(aa l a):Int)+((↑(fi+d):Int)*2+(↑(gA b c 1):Int)-((fi:Int)+(↑(aa l a):Int))*2))) Fl (.s 8 (.chk (decide (0≤(↑(length (aI l a)):Int)+(↑(aa l a):Int)+((↑(fi+d):Int)*2+(↑(gA b c 1):Int)-((fi:Int)+(↑(aa l a):Int))*2))&&decide ((↑(length (aI l a)):Int)+(↑(aa l a):Int)+((↑(fi+d):Int)*2+(↑(gA b c 1):Int)-((fi:Int)+(↑(aa l a):Int))*2)<(q:Int))&&true) (by((refine aJ ?_ ?_)<;>(repeat' (first|(refine aJ ?_ ?_)|(with_reducible rfl)|(refine decide_eq_true ?_)|(refine Tv ?_)|(refine fx ?_)))<;>(have h9:=bJ (l:=l) (a:=a) om;have h8:=dV b c;have h7:=aW l a;have h6:=aW l (a+1);have h5:=bq l;have h4:=Us 2 a;have h3:2^a≤2^15:=TX (by decide) om;have h2:=bJ (l:=l) (a:=a+1) om;omega))) (.s 2 (.opt ((map nD (ab l))[zK ((↑(length (aI l a)):Int)+(↑(aa l a):Int)+((↑(fi+d):Int)*2+(↑(gA b c 1):Int)-((fi:Int)+(↑(aa l a):Int))*2))*1]?) (nD (getD (ab l) (zK ((↑(length (aI l a)):Int)+(↑(aa l a):Int)+((↑(fi+d):Int)*2+(↑(gA b c 1):Int)-((fi:Int)+(↑(aa l a):Int))*2))*1) mb)) (aq _ _ (by(have h9:=bJ (l:=l) (a:=a) om;have h8:=dV b c;have h7:=aW l a;have h6:=aW l (a+1);have h5:=bq l;have h4:=Us 2 a;have h3:2^a≤2^15:=TX (by decide) om;have h2:=bJ (l:=l) (a:=a+1) om;omega))) (.s 4 (.val 6 (zN (getD (ab l) (zK ((↑(length (aI l a)):Int)+(↑(aa l a):Int)+((↑(fi+d):Int)*2+(↑(gA b c 1):Int)-((fi:Int)+(↑(aa l a):Int))*2))*1) mb)) (zN (Ty (ee b l p))) (by(have h9:=bJ (l:=l) (a:=a) om;have h8:=dV b c;have h7:=aW l a;have h6:=aW l (a+1);have h5:=bq l;have h4:=Us 2 a;have h3:2^a≤2^15:=TX (by decide) om;refine Xm (RA (j:=(aI l a).length+aa l a+(2*(d-aa l a)+gA b c 1)) ?_) (su (hR.symm.trans (Fo om om om om))).1;omega)) (.val 7 (zI ((c:Int)+1)) (zN (Ty (Tm (ee b l p)))) (by(have h9:=bJ (l:=l) (a:=a) om;have h8:=dV b c;have h7:=aW l a;have h6:=aW l (a+1);have h5:=bq l;have h4:=Us 2 a;have h3:2^a≤2^15:=TX (by decide) om;exact(su (hR.symm.trans (Fo om om om om))).2.1)) (.val 8 (zI 0) (zN (Tm (Tm (ee b l p)))) (by(have h9:=bJ (l:=l) (a:=a) om;have h8:=dV b c;have h7:=aW l a;have h6:=aW l (a+1);have h5:=bq l;have h4:=Us 2 a;have h3:2^a≤2^15:=TX (by decide) om;exact(su (hR.symm.trans (Fo om om om om))).2.2)) (Hn.last last1 0 (():Unit) rfl [(0,0)] ro)))))))))))))) (fun p2 p2f=>(.s 6 (.val 2 (zI ((c:Int)+1)) (zN (c+1)) (by(have h9:=bJ (l:=l) (a:=a) om;have h8:=dV b c;have h7:=aW l a;have h6:=aW l (a+1);have h5:=bq l;have h4:=Us 2 a;have h3:2^a≤2^15:=TX (by decide) om;refine aT ?_;omega)) (.blk 8 8 (Tq [zN (aa l 0),zN (aa l 1),zN (aa l 2),zN (aa l 3),zN (aa l 4),zN (aa l 5),zN (aa l 6),zN (aa l 7),zN (aa l 8),zN (aa l 9),zN (aa l 10),zN (aa l 11),zN (aa l 12),zN (aa l 13),zN (aa l 14),zN (aa l 15),TL false q 1 (map nD (ab l)),zI ((a:Int)+1),zI ((↑(fi+d):Int)*2+(↑(gA b c 1):Int)),zI (((fi:Int)+(↑(aa l a):Int))*2),zI ((↑(length (aI l a)):Int)+(↑(aa l a):Int))] 205 false) (Tq [zN (aa l 0),zN (aa l 1),zN (aa l 2),zN (aa l 3),zN (aa l 4),zN (aa l 5),zN (aa l 6),zN (aa l 7),zN (aa l 8),zN (aa l 9),zN (aa l 10),zN (aa l 11),zN (aa l 12),zN (aa l 13),zN (aa l 14),zN (aa l 15),TL false q 1 (map nD (ab l)),zN (a+1),zN (2*(fi+aa l a)+(2*(d-aa l a)+gA b c 1)),zN (2*(fi+aa l a)),zN (length (aI l (a+1)))] 205 false) (by(simp;have h9:=bJ (l:=l) (a:=a) om;have h8:=dV b c;have h7:=aW l a;have h6:=aW l (a+1);have h5:=bq l;have h4:=Us 2 a;have h3:2^a≤2^15:=TX (by decide) om;omega)) (Hn.next next1 ⟨(a+1),nd,(2*(d-aa l a)+gA b c 1),om,(2*(fi+aa l a)),nd,(c+1),om,(by(have h9:=bJ (l:=l) (a:=a) om;have h8:=dV b c;have h7:=aW l a;have h6:=aW l (a+1);have h5:=bq l;have h4:=Us 2 a;have h3:2^a≤2^15:=TX (by decide) om;exact(Oz om om om om).symm.trans hR)),⟨⟩⟩ KB [(0,0),(8,8)] ro)))))))))))))))))))))))))))))))))))))))))))))))))))) (fun|⟨a,ha,d,hd,fi,hb,c,hc,hR,_⟩=>by kernel_rfl) ⟨(0),om,(0),(by(exact XD (yp l))),(0),om,(p),om,(by(exact(mv b l p).symm)),⟨⟩⟩ [(0,0),(104,104)] ro (bY (fun|()=>(.out [] [] (Uw [zN (Ty (ee b l p)),zN (Ty (Tm (ee b l p))),zN (Tm (Tm (ee b l p)))]) [] R (ok _ _ (by exact rfl) wr))))))))) kr
end Vp
end Go.Proofs.Ytefjnofhgkjpmaa
namespace Go.Proofs.Ytefjnofhgkjpmaa
open Go.RowKit Go.Bw Go.Vx
namespace Vp
theorem lm (l:List UInt8)(n:Nat):∀(k j:Nat),∃r,co l n (k+j)=co l n k++r
 |k,0=>⟨[],by simp⟩
 |k,j+1=>by
  obtain⟨r,hr⟩:=lm l n k j
  exact⟨r++(if(l.getD (k+j) mb).toNat=n then[k+j]else[]),by rw[←UF,dO,hr,TG]⟩
theorem Fp {l:List UInt8}{n N i:Nat}(hi:i<N)(h:(l.getD i mb).toNat=n):(co l n N)[(co l n i).length]? =some i:=by
 obtain⟨r,hr⟩:=lm l n (i+1) (N-(i+1))
 rw[show i+1+(N-(i+1))=N from by omega,dO,if_pos h,TG]at hr
 rw[hr,TO (TD _),UJ];rfl
def iZ (l:List UInt8):Nat→Nat
 |0=>0
 |a+1=>2*(iZ l a+aa l a)
theorem sv {l:List UInt8}{a:Nat}(h:a≠0):(co l a l.length).length=aa l a:=by rw[gf];unfold pG;rw[if_neg h]
theorem uX {a:Nat}(h:a<15):fb 32768 a=2*fb 32768 (a+1):=by
 rw[fV (by omega),fV (by omega),show 15-a=(15-(a+1))+1 from by omega,Us,Ve]
theorem wL (l:List UInt8):∀a,a≤15→Aa l (a+1)=(iZ l a+aa l a)*fb 32768 a
 |0,_=>by rw[Aa,if_pos rfl,yp];show 0+0=(0+0)*_;omega
 |a+1,h=>by
  have ih:=wL l a (by omega)
  rw[Aa,if_neg (VJ a),ih,sv (VJ a),iZ,uX (by omega)]
  generalize fb 32768 (a+1)=P
  generalize iZ l a+aa l a=X
  rw[UN (2*X),UU 2 X P,Nat.mul_left_comm X 2 P]
theorem KH {l:List UInt8}{a:Nat}(h0:a≠0)(h:a≤15):Aa l a=iZ l a*fb 32768 a:=by
 obtain⟨b,rfl⟩:∃b,a=b+1:=⟨a-1,by omega⟩
 rw[wL l b (by omega),iZ,uX (by omega)]
 rw[Ve 2 (iZ l b+aa l b),UU]
theorem uY (l:List UInt8)(a:Nat):∀k,Aa l a≤Aa l (a+k)
 |0=>TD _
 |k+1=>T6 (uY l a k) (by rw[←UF,Aa];exact V4 _ _)
theorem yu {l:List UInt8}{i a:Nat}(h:(l.getD i mb).toNat=a)(h0:a≠0)(h1:a≤15):kC l i=iZ l a+(co l a i).length:=by
 unfold kC
 rw[h,Kx,if_neg h0,KH h0 h1,←UN,Nat.mul_div_cancel _ (uS h1)]
def Aq (l:List UInt8)(k:Nat):Nat→Nat
 |0=>0
 |a+1=>Aq l k a+(if a=0 then 0 else(co l a k).length*fb 32768 a)
theorem CG (l:List UInt8):∀a,Aq l l.length a=Aa l a
 |0=>rfl
 |a+1=>by rw[Aq,Aa,CG l a]
theorem uZ (l:List UInt8):∀a,Aq l 0 a=0
 |0=>rfl
 |a+1=>by
  have:co l a 0=[]:=rfl
  rw[Aq,uZ l a,this,Vj,Vd];split<;>rfl
theorem u0 (l:List UInt8)(k:Nat):∀a,Aq l (k+1) a=Aq l k a+(if(l.getD k mb).toNat≠0∧(l.getD k mb).toNat<a then fb 32768 (l.getD k mb).toNat else 0)
 |0=>by rw[Aq,Aq,if_neg (fun q=>UR _ q.2)]
 |a+1=>by
  rw[Aq,Aq,u0 l k a,dO]
  generalize(l.getD k mb).toNat=x
  by_cases h0:a=0
  ·rw[if_pos h0,if_pos h0,if_neg (fun q=>by omega),if_neg (fun q=>by omega)]
  ·rw[if_neg h0,if_neg h0]
   by_cases h:x=a
   ·subst h
    rw[if_pos rfl,if_neg (fun q=>by omega),if_pos ⟨h0,by omega⟩,Tt,Ud,XE];omega
   ·rw[if_neg h,Ue]
    by_cases h2:x≠0∧x<a
    ·rw[if_pos h2,if_pos (by omega)];omega
    ·rw[if_neg h2,if_neg (by omega)];omega
theorem OA (l:List UInt8)(ho:dh l 15=false):Aa l 16=aU l:=by
 have key:∀k,k≤l.length→Aq l k 16=aU (l.take k):=by
  intro k
  induction k with
  |zero=>intro _;exact uZ l 16
  |succ k ih=>
   intro hk
   have hx:=dN ho (i:=k) (by omega)
   rw[u0,ih (by omega),iH (by omega)]
   by_cases q:(l.getD k mb).toNat=0
   ·rw[if_neg (fun z=>z.1 q),if_pos q]
   ·rw[if_pos ⟨q,by omega⟩,if_neg q,fV hx]
 have h:=key l.length (TD _)
 rw[Uy,CG]at h;exact h
theorem Fq {l:List UInt8}{a d:Nat}(ha:a≤15)(h:d<aa l a):(ab l).getD ((aI l a).length+d) mb=(cg l a).getD d mb:=by
 obtain⟨r,hr⟩:=jt (l:=l) ha
 rw[hr,To,To,TO (by omega),Vz,TQ (by rw[bR];exact h)]
theorem wM {l:List UInt8}(ho:dh l 15=false){n:Nat}(hn:n≤15):(aI l n).length+aa l n≠(ab l).length↔∃i,i<l.length∧n<(l.getD i mb).toNat:=by
 obtain⟨r,hr⟩:=jV l (n+1) (16-(n+1))
 rw[show n+1+(16-(n+1))=16 from by omega,←dz,cW]at hr
 have hl:=congrArg Xr hr
 rw[Tt,Tt,bR]at hl
 constructor
 ·intro h
  have hr0:0<r.length:=by omega
  have hall:∀k,∀x∈aI l (n+1+k),x∈aI l (n+1)∨(x<l.length∧n<(l.getD x mb).toNat):=by
   intro k
   induction k with
   |zero=>exact fun x hx=>.inl hx
   |succ k ih=>
    intro x hx
    rw[←UF,cW,XL]at hx
    rcases hx with hx|hx
    ·exact ih x hx
    ·rw[gB,if_neg (by omega)]at hx
     have:=fB.1 hx
     exact .inr ⟨this.1,by omega⟩
  apply Wx
  intro hno
  have hlen:∀k,(aI l (n+1+k)).length=(aI l (n+1)).length:=by
   intro k
   induction k with
   |zero=>rfl
   |succ k ih=>
    rw[←UF,cW,Tt,ih]
    have:cg l (n+1+k)=[]:=by
     rw[WV]
     intro x hx
     rw[gB,if_neg (by omega)]at hx
     have:=fB.1 hx
     exact hno ⟨x,this.1,by omega⟩
    rw[this];rfl
  have h3:=hlen (16-(n+1))
  rw[show n+1+(16-(n+1))=16 from by omega,←dz,cW,Tt,bR]at h3
  exact h h3.symm
 ·rintro⟨i,h1,h2⟩ h
  have hx:=dN ho h1
  generalize ha:(l.getD i mb).toNat=a at *
  obtain⟨r2,hr2⟩:=jV l (n+1) (a-(n+1))
  rw[show n+1+(a-(n+1))=a from by omega]at hr2
  obtain⟨r3,hr3⟩:=jt (l:=l) (a:=a) hx
  have h4:=congrArg Xr hr3
  rw[hr2,cW,Tt,Tt,Tt,Tt,bR,bR]at h4
  have h5:0<aa l a:=by
   rw[←sv (by omega)]
   have:i∈co l a l.length:=fB.2 ⟨h1,ha⟩
   exact List.length_pos_of_mem this
  omega
def KI (b l:List UInt8)(n d c:Nat):Nat×Nat×Nat:=lk b (if d<aa l n then((ab l).getD ((aI l n).length+d) mb,c,0)else mr b l (16-n) n d c)
theorem sw (b l:List UInt8)(n d c:Nat):KI b l n d c=if d<aa l n then((ab l).getD ((aI l n).length+d) mb,c,0)else mr b l (16-n) n d c:=aw _ _
theorem OC (b l:List UInt8)(p:Nat):KI b l 0 0 p=ee b l p:=by rw[sw,yp,if_neg (V1 0),mv]
section
variable {b l:List UInt8} {n d c v:Nat} {R:Nat×Nat×Nat}
theorem RB (hn:n≤15)(hv:v=iZ l n+d)(hR:KI b l n d c=R){i:Nat}(hi:i<l.length)(h:(l.getD i mb).toNat=n)(h0:0<n)(hc:kC l i=v):R=(i,c,0):=by
 rw[yu h (by omega) hn]at hc
 have hd:(co l n i).length=d:=by omega
 have h2:=Fp hi h
 have h3:=(List.getElem?_eq_some_iff.1 h2).1
 rw[sv (by omega)]at h3
 rw[←hR,sw,if_pos (by omega),←hd,Fq hn h3,gB,if_neg (by omega),To,h2];rfl
theorem OD (hn:n≤15)(hd:aa l n≤d)(hR:KI b l n d c=R)(h:(aI l n).length+aa l n≠(ab l).length)(h2:kJ b c 1=0):n+1≤15∧KI b l (n+1) (2*(d-aa l n)+gA b c 1) (c+1)=R:=by
 have h3:=bJ (l:=l) (a:=n) hn
 have hn2:n+1≤15:=by
  rcases T5 n 15 with q|q
  ·exact q
  ·exact absurd (h3.2.2 (by omega)) h
 refine⟨hn2,?_⟩
 rw[←hR,sw,sw,if_neg (show¬d<aa l n by omega)]
 by_cases q:2*(d-aa l n)+gA b c 1<aa l (n+1)
 ·rw[if_pos q,Fo hn h h2 q,h3.2.1]
 ·rw[if_neg q,Oz hn h h2 q]
theorem RC (hv:v=iZ l n+d)(hd:aa l n≤d):2*v+gA b c 1=iZ l (n+1)+(2*(d-aa l n)+gA b c 1):=by
 rw[iZ];omega
end

section
variable {b l:List UInt8} {n a d c v:Nat} {R:Nat×Nat×Nat} (hT:aC l 15=0) (hn:n=l.length) (ha:a≤15) (hv:v=iZ l a+d) (hb:v<2^a) (hno:∀j,j<n→¬((l.getD j mb).toNat=a∧kC l j=v∧0<a)) (hR:KI b l a d c=R)
include hT hn ha hv hb hno hR
end
theorem GP {x y:Bool}(h:x=y):D.v (Value.bool x)=D.v (Value.bool y):=by rw[h]
end Vp
end Go.Proofs.Ytefjnofhgkjpmaa

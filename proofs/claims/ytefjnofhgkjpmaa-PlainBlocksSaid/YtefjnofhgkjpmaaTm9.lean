/- Part 9. -/
import Derived.Test.YtefjnofhgkjpmaaTm8
import Derived.Test.YtefjnofhgkjpmaaTm6
import Derived.Test.YtefjnofhgkjpmaaTm7
import Derived.Test.YtefjnofhgkjpmaaTm5
set_option linter.unusedVariables false
set_option linter.unusedSimpArgs false
set_option maxRecDepth 100000
set_option maxHeartbeats 4000000
open And renaming intro → Ut
open Bool renaming and_true → Uh, eq_iff_iff → XH, true_and → Ub
open ByteArray renaming mk → VN, toList → UL
open Eq renaming trans → Xm
open Go.Fn renaming func → Ui
open Go.IntKind renaming wrap → TM
open Go.LoopState renaming busy → Wr, ready → Vr
open Go.Vx.Blk renaming mk → Tq
open Go.Vx.CallOk renaming fn → TW
open Go.Vx.CutS renaming mk → TJ
open Go.Vx.D renaming agg → UA, fn → U9, ptr → TF, ref → Tu, sl → TL, tup → Uw
open Go.Vx.TI renaming bytes → X3
open Inhabited renaming default → mb
open Int renaming toNat → zK, toNat_of_nonneg → Vc
open List renaming append_assoc → TG, append_nil → Ue, cons_append → V5, count_append → Yu, count_singleton → X4, drop → UQ, drop_append_of_le_length → Wc, drop_left → Ws, drop_left' → YX, eq_nil_of_length_eq_zero → Ua, eq_replicate_iff → Wl, ext_getElem? → Uu, filter_append → US, filter_cons_of_neg → VB, filter_cons_of_pos → VA, flatMap_append → UV, flatMap_cons → UC, flatMap_singleton → VE, getD → X5, getD_eq_getElem?_getD → To, getElem?_append_left → TQ, getElem?_append_right → TO, getElem?_drop → UM, getElem?_eq_getElem → Ts, getElem?_eq_none → TY, getElem?_map → TN, getElem?_range → UO, getElem?_replicate → UT, getElem?_set → U3, getElem?_take → Un, getElem_mem → Uo, length_append → Tt, length_cons → T3, length_drop → Ul, length_map → TH, length_range → U5, length_replicate → T4, length_set → VG, length_singleton → Ud, length_take → TR, length_take_of_le → UD, map_append → Uq, map_cons → Vq, map_map → Xg, map_replicate → Vu, map_take → Wg, mem_cons_of_mem → TU, mem_cons_self → TP, mem_filter → WC, mem_map_of_mem → W8, mem_range → XQ, not_mem_nil → Wv, range → Uv, range_succ → Wf, replicate → TK, replicate_succ → X9, take → UP, take_append → YF, take_append_of_le_length → VQ, take_left' → YW, take_length → Uy, take_of_length_le → T9, take_succ_cons → X8, take_succ_eq_append_getElem → T8, take_zero → XT, toArray → WM
open Nat renaming add_assoc → UF, add_comm → Xf, add_mul → UN, add_sub_cancel → VK, add_sub_cancel_left → Vz, add_zero → VD, beq → Tx, beq_refl → Uz, ble → Tz, ble_eq_true_of_le → Tv, le_of_eq → XD, le_refl → TD, le_trans → T6, lt_irrefl → V1, lt_or_ge → T5, lt_succ_self → WR, mod_one → YK, mul_add → V2, mul_assoc → UU, mul_comm → Ve, mul_le_mul_right → Ur, mul_one → TZ, not_lt_zero → UR, pow_add → Xq, pow_succ → Us, sub_mul → YJ, sub_self → UJ, sub_zero → WK, succ_le_succ → Vy, succ_mul → XE, succ_ne_zero → VJ, two_pow_pos → UY, zero_add → T0, zero_le → T7, zero_mul → Vd
open UInt8 renaming ofNat → Um, toNat → Tp, toNat_add → YV
namespace Go.Proofs.Ytefjnofhgkjpmaa
open Go.RowKit Go.Bw Go.Vx
open List (length getD map take drop flatMap replicate)
namespace Vp
theorem vi {p:Prop}(h:p:=by repeat' first|exact(fun _=>vj _ _ _)|exact trivial|exact rfl|exact(fun _=>du _)|exact(fun _=>by assumption)|exact(fun _=>cu _ (fun _=>rfl) _)|exact(fun _=>fy (fun _=>rfl) _)|(intro h;cases h;done)|(intro _;rfl)|(intro _;exact dM _ (cu _ (fun _=>rfl) _))|exact mc _ (cu _ (fun _=>rfl) _)|refine Ut ?_ ?_|refine iB ?_ ?_|(intro _;refine ej ?_ ?_)|refine ej ?_ ?_|(intro _;refine jn ?_ ?_)|exact dM _ (cu _ (fun _=>rfl) _)|exact cu _ (fun _=>rfl) _):p:=h
theorem Lt {p:Prop}(h:p:=by(refine aT ?_;(omega))):p:=h
theorem Lu {p:Prop}(h:p:=by(have z:=hT.i.nextk om (((k:Int)-1).toNat) om;have z2:=hT.l;have z3:=dk ws (((k:Int)-1).toNat);have z4:(take n (av ws ((k:Int)-1).toNat)).length=n:=UD z.1;omega)):p:=h
theorem PG {p:Prop}(h:p:=by(have z:=hT.i.nextk om (((k:Int)-1).toNat) om;have z2:=hT.l;have z3:=dk ws (((k:Int)-1).toNat);have z4:(take n (av ws ((k:Int)-1).toNat)).length=n:=UD z.1;simp[aZ,dl,bg];omega)):p:=h
theorem S6 {p:Prop}(h:p:=by(rw[lE];simp only[Ub];refine Tv ?_;(omega))):p:=h
theorem S7 {p:Prop}(h:p:=by show n-(j+1)<n-j;clear next2 last2 next1 last1;omega):p:=h
theorem S8 {p:Prop}(h:p:=by(refine decide_eq_true ?_;have z:=hT.i.nextk om (((k:Int)-1).toNat) om;have z2:=hT.l;have z3:=dk ws (((k:Int)-1).toNat);have z4:(take n (av ws ((k:Int)-1).toNat)).length=n:=UD z.1;have h9:=hA.at (t:=0+j*1) om;have h8:=dD o S j;omega)):p:=h
theorem sN (W:List Nat)(L:Nat)(hL:L=W.length)(hL2:L≤320)(hB:∀t,W.getD t mb≤1073741824)(m:Nat)(hm:1≤m∧m≤15)(S:List Nat)(hS:gD W=S)(N:Nat)(hN:N=S.length)(hNm:N≤2^m):S0 100 [.sl false L 1 (W.map nD),nD m] [] (.tup [.ref 0 0 0 N 1,iD 0]) [⟨S.map nD, 3,true⟩]:=by
 subst hS
 have hp:=(fD W).length_eq
 have hN2:N=(gk W L).length:=by rw[hN,hp,hL]
 obtain⟨T1,hE⟩:=K8 hL (X:=gk W L) rfl hN2
 exact FN W L hL hL2 hB m hm N hN2 _ T1 rfl hE hNm hE.o hE.t1 hE.o1 hE.t
abbrev FQ (T:List Pc):D:=.sl false T.length 2 (T.flatMap dC)
theorem C8 (T:List Pc):(T.flatMap dC).length=T.length*2:=by rw[a9 (k:=2) (fun _=>rfl)]
theorem PH (ws:List Nat)(n:Nat)(hn:n=ws.length)(hn2:n≤320)(hB:∀w∈ws,w≤1073741824)(j:Nat)(hj:j≤14)(r:Nat)(hr:r=(av ws j).length):S0 101 [.sl false r 2 ((av ws j).flatMap dC),.sl false n 1 (ws.map nD)] [] (FQ (av ws (j+1))) []:=by
 have h:=dk ws j
 refine SpecH.frz (PB (av ws j) r hr (by omega) 100000000000000 (by decide) (FP hB (by omega)) ws n hn (by omega) (av ws (j+1)) (pm ws j)) (C8 _) (by decide) (fy (fun _=>rfl) _)
theorem PI (ws:List Nat)(n:Nat)(hn:n=ws.length)(hn2:n≤320):S0 101 [dT,.sl false n 1 (ws.map nD)] [] (FQ (av ws 0)) []:=
 SpecH.frz (PC ws n hn (by omega) _ (sL ws)) (C8 _) (by decide) (fy (fun _=>rfl) _)
def jC (ws:List Nat)(k m:Nat):List D:=lk ws ((Uv m).map fun j=>if j<k then FQ (av ws j)else dT)
theorem wR (ws:List Nat)(k m:Nat):jC ws k m=(Uv m).map fun j=>if j<k then FQ (av ws j)else dT:=aw _ _
theorem lE (ws:List Nat)(k m:Nat):(jC ws k m).length=m:=by rw[wR,TH,U5]
theorem vj (ws:List Nat)(k m:Nat):af (jC ws k m)=true:=by
 rw[bL,wR]
 intro d hd
 obtain⟨j,_,rfl⟩:=List.mem_map.1 hd
 split<;>rfl
theorem yH {ws:List Nat}{k m j:Nat}(hj:j<m):(jC ws k m)[j]? =some (if j<k then FQ (av ws j)else dT):=by
 rw[wR,TN,UO hj];rfl
theorem C9 (ws:List Nat){k m j:Nat}(h:j<k)(hj:j<m):(jC ws k m)[0+j*1]? =some (FQ (av ws j)):=by
 rw[T0,TZ,yH hj,if_pos h]
theorem Da {ws:List Nat}{k m o i:Nat}(hk:k<m)(ho:o=k)(hi:i=k):aj (jC ws k m) o [FQ (av ws i)]=jC ws (k+1) m:=by
 subst o i
 apply Uu
 intro t
 rw[ci (by rw[lE];simp only[Ud];omega)]
 simp only[Ud]
 rcases T5 t m with q|q
 ·rw[yH q,yH q]
  by_cases e:t=k
  ·subst e;rw[if_pos (by omega),UJ,if_pos (by omega)];rfl
  ·rw[if_neg (by omega)]
   by_cases z:t<k
   ·rw[if_pos z,if_pos (by omega)]
   ·rw[if_neg z,if_neg (by omega)]
 ·rw[if_neg (by omega),TY (by rw[lE];exact q),TY (by rw[lE];exact q)]
theorem Sf (ws:List Nat)(m:Nat):TK m dT=jC ws 0 m:=by
 apply Uu
 intro t
 rw[UT]
 rcases T5 t m with q|q
 ·rw[if_pos q,yH q,if_neg (UR t)]
 ·rw[if_neg (by omega),TY (by rw[lE];exact q)]
theorem Io (d:D)(m:Nat):dJ [d] (m*1)=TK m d:=by
 rw[TZ]
 apply Uu
 intro i
 unfold dJ
 rw[TN,UT]
 rcases T5 i m with q|q
 ·rw[UO q,if_pos q]
  show some (X5 [d] (i%1) mb)=_
  rw[YK];rfl
 ·rw[TY (by simpa using q),if_neg (by omega)];rfl
theorem Ip {t:TypeId}{a b:Int}(h:a=b):(⟨[D.v (.int .i64 a)],t,false⟩:Blk)=⟨[D.v (.int .i64 b)],t,false⟩:=by rw[h]
theorem yI (L:Nat):dJ [D.v (.int .u8 0)] (L*1)=(TK L (0:UInt8)).map dB:=by rw[Io,Vu];rfl
theorem LnI.nextk {ws:List Nat}{k n:Nat}(h:LnI ws k n)(hk:0<k)(i:Nat)(hi:i=k-1):n≤(av ws i).length∧dS (av ws i) n≤n∧n-dS (av ws i) n≤ws.length:=by
 subst hi
 have q:=LnI.next (k:=k-1) (n:=n) (by rw[show k-1+1=k from by omega];exact h)
 exact⟨q.1,q.2.1,q.2.2.1⟩
structure LnT (ws S:List Nat)(L k n:Nat)(o T:List UInt8):Prop where
 i:LnI ws k n
 l:o.length=L
 r:lnF ws S k n o=T
theorem LnT.next {ws S:List Nat}{L k n:Nat}{o T:List UInt8}(h:LnT ws S L k n o T)(hk:0<k):LnT ws S L (k-1) (2*dS (av ws (k-1)) n) (db o S (n-dS (av ws (k-1)) n)) T:=by
 obtain⟨j,rfl⟩:∃j,k=j+1:=⟨k-1,by omega⟩
 exact⟨(LnI.next h.i).2.2.2,by rw[dD];exact h.l,h.r⟩
theorem LnT.next' {ws S:List Nat}{L k n:Nat}{o T:List UInt8}(h:LnT ws S L k n o T)(hk:0<k)(i:Nat)(hi:i=k-1):LnT ws S L (k-1) (2*dS (av ws i) n) (db o S (n-dS (av ws i) n)) T:=by
 subst hi;exact h.next hk
theorem Iq {l:List Pc}{n j:Nat}(h:j<n):(l.take n).getD j mb=l.getD j mb:=by
 rw[To,To,Un,if_pos h]
theorem PJ {row:List Pc}{n j:Nat}(hj:j<n)(hn:n≤row.length)(h:((row.take n).getD j mb).p=true):dS row (j+1)=dS row j+1:=by
 rw[Iq hj]at h;rw[Ik (by omega),h];rfl
theorem PK {row:List Pc}{n j:Nat}(hj:j<n)(hn:n≤row.length)(h:((row.take n).getD j mb).p=false):dS row (j+1)=dS row j:=by
 rw[Iq hj]at h;rw[Ik (by omega),h];rfl
theorem yJ {n N:Nat}{x:Int}(h:x=n)(h2:n≤N):(aZ none (some x) none N&&true)=true:=by
 subst h;simp[aZ,dl,bg];omega
theorem PL {o:List UInt8}{S:List Nat}{j a i:Nat}(hj:j<S.length)(ha:a=S.getD j mb)(hi:i=S.getD j mb)(hl:S.getD j mb<o.length):aj ((db o S j).map dB) a [D.v (.int .u8 ((((((db o S j).getD i mb).toNat:Nat):Int)+1)%256))]=(db o S (j+1)).map dB:=by
 subst ha hi
 have e:(((((db o S j).getD (S.getD j mb) mb).toNat:Nat):Int)+1)%256=((((db o S j).getD (S.getD j mb) mb+1).toNat:Nat):Int):=by
  rw[YV];show _=(((_+1)%256:Nat):Int);omega
 rw[e,wQ hj]
 generalize(db o S j).getD (S.getD j mb) mb+1=v
 apply Uu
 intro t
 rw[ci (by simp only[TH,Ud,dD];omega),TN,TN,U3,dD]
 simp only[Ud]
 by_cases q:S.getD j mb=t
 ·rw[←q,if_pos (by omega),if_pos rfl,if_pos hl,UJ];rfl
 ·rw[if_neg (by omega),if_neg q]
theorem LnT.last {ws S:List Nat}{L k n:Nat}{o T:List UInt8}(h:LnT ws S L k n o T)(hk:k=0):o=T:=by subst hk;exact h.r
theorem PM (W:List Nat)(L:Nat)(hL:L=W.length)(hL2:L≤320)(hB:∀t,W.getD t mb≤1073741824)(m:Nat)(hm:1≤m∧m≤15)(S:List Nat)(hS:gD W=S)(N:Nat)(hN:N=S.length)(hNm:N≤2^m)(hA:bM L S)(hN3:N≤320)(h2:2≤N)(ws:List Nat)(hw:sJ W S N=ws)(hwl:ws.length=N)(hwb:∀w∈ws,w≤1073741824)(T:List UInt8)(hI:LnT ws S L m (2*N-2) (TK L 0) T):S0 76 [.sl false L 1 (W.map nD),nD m] [] (.tup [.ref 0 0 0 L 1,iD 0]) [⟨T.map dB, 5,true⟩]:=by
 have hcl0:=vj ws 0 m
 have hclm:=vj ws m m
 refine SpecH.run T_ok ai Try.func76 rfl rfl rfl ⟨cM _,trivial⟩ rfl 1000 64 (fun R ok=>(.s 5 (.cl 100 false [] (.fn J7 (@sN (W) (L) om om om (m) om (S) aD (N) aD om)) (.s 18 (.chk (true&&decide ((L:Int)≤L)&&true&&true&&true&&true&&decide ((↑(X3 EZ):Int)*(L:Int)≤140737488355328)) (by(have h9:((EZ.bytes:Nat):Int)=1:=rfl;rw[h9];simp;omega)) (.s 11 (.f ((N:Int)==1) (by(refine decide_eq_false ?_;(omega))) (.s 6 (.f (decide ((N:Int)<2)) (by(refine decide_eq_false ?_;(omega))) (.s 6 (.nils 9 224 1 3 (.blk 120 120 (Tq (dJ [bI 0] (L*1)) 5 true) (Tq (map dB (replicate L 0)) 5 true) (by(refine ay ?_;rw[yI])) (.blk 224 224 (Tq [] 3 true) (Tq (map nD (sJ W S 0)) 3 true) (by(rw[PD];rfl)) (Hn.inl T_ok ai false 126 0 (ap Try.prog 76 0) (fun(x:(k:Nat)×'(hk:k≤N)×'Unit)=>match x with|⟨k,hk,_⟩=>TJ [(0,TL false L 1 (map nD W)),(1,zN m),(4,zS),(5,zI 0),(6,TF 8 8 0),(8,TF 24 24 0),(9,(Tu 32 32 (0) (k) 1)),(46,Tu 0 0 0 N 1),(47,zN N),(48,nD k)] [⟨0,0,32,32,.b ⟨map nD S,3,true⟩⟩,⟨8,8,64,64,.b ⟨[Tu 0 0 0 N 1],41,false⟩⟩,⟨16,16,120,120,.b ⟨(replicate L (0:UInt8)).map dB,5,true⟩⟩,⟨24,24,128,128,.b ⟨[Tu 16 16 0 L 1],24,false⟩⟩,⟨32,32,224,224,.b ⟨(sJ W S k).map nD,3,true⟩⟩] 40) (fun(x:(k:Nat)×'(hk:k≤N)×'Unit)=>match x with|⟨k,hk,_⟩=>N-k) [⟨Unit,.exit 0,fun x=>match x with|()=>TJ [(0,TL false L 1 (map nD W)),(1,zN m),(4,zS),(5,zI 0),(6,TF 8 8 0),(8,TF 24 24 0),(9,(Tu 32 32 (0) (N) 1)),(46,Tu 0 0 0 N 1),(47,zN N)] [⟨0,0,32,32,.b ⟨map nD S,3,true⟩⟩,⟨8,8,64,64,.b ⟨[Tu 0 0 0 N 1],41,false⟩⟩,⟨16,16,120,120,.b ⟨(replicate L (0:UInt8)).map dB,5,true⟩⟩,⟨24,24,128,128,.b ⟨[Tu 16 16 0 L 1],24,false⟩⟩,⟨32,32,224,224,.b ⟨ws.map nD,3,true⟩⟩] 40⟩] 1000 64 (fun|⟨k,hk,_⟩,Q,next1,last1=>(.s 2 (.bd ((k:Int)<N) (fun p0 p0f=>(.s 1 (.chk (true&&decide ((k:Int)<N)) aD (.s 2 (.opt ((map nD S)[0+k*1]?) (nD (getD S (0+k*1) mb)) (aq _ _ om) (.s 5 (.chk (true&&decide ((↑(getD S (0+k*1) mb):Int)<(L:Int))&&true) (by((refine aJ ?_ ?_)<;>(repeat' (first|(refine aJ ?_ ?_)|(with_reducible rfl)|(refine decide_eq_true ?_)|(refine Tv ?_)|(refine fx ?_)))<;>(have h9:=hA.at (t:=0+k*1) om;omega))) (.s 2 (.opt ((map nD W)[getD S (0+k*1) mb*1]?) (nD (getD W (getD S (0+k*1) mb*1) mb)) (aq _ _ (by(have h9:=hA.at (t:=0+k*1) om;omega))) (.s 3 (.chk (true&&Tx (k*1) (length (map nD (sJ W S k)))&&true&&true&&true&&true&&Tz ((k+1)*8) 140737488355328) (by(rw[TH,nM (by(omega))];simp only[TZ,Uz,Ub,Uh];refine Tv ?_;(omega))) (.s 3 (.ow ((k:Int)+1) (.s 1 (.val 48 (zI ((k:Int)+1)) (zN (k+1)) Lt (.blk 120 120 (Tq (map nD (sJ W S k)++[zN (getD W (getD S (0+k*1) mb*1) mb)]) 3 true) (Tq (map nD (sJ W S (k+1))) 3 true) (by(refine ay ?_;simp only[T0,TZ];rw[PE om,Uq];rfl)) (Hn.next next1 ⟨(k+1),om,⟨⟩⟩ (by show N-(k+1)<N-k;clear next1 last1;omega) [(0,0),(8,8),(16,16),(24,24),(120,120)] vi))))))))))))))))) (fun p0 p0f=>(.val 9 (Tu 32 32 0 k 1) (Tu 32 32 0 N 1) (by(simp <;>(omega))) (.blk 32 32 (Tq (map nD (sJ W S k)) 3 true) (Tq (map nD ws) 3 true) (by(rw[show k=N from by omega,hw])) (Hn.last last1 0 (():Unit) rfl [(0,0),(8,8),(16,16),(24,24),(32,32)] vi))))))) (fun|⟨k,hk,_⟩=>by kernel_rfl) ⟨(0),om,⟨⟩⟩ [(32,32),(64,64),(120,120),(128,128),(224,224)] vi (bY (fun|()=>(.s 2 (.chk (true&&decide ((m:Int)≤m)&&true&&true&&true&&true&&decide ((↑(X3 x9):Int)*(m:Int)≤140737488355328)) (by(have h9:((x9.bytes:Nat):Int)=24:=rfl;rw[h9];simp;omega)) (.s 4 (.blk 48 48 (Tq (dJ [zS] (m*1)) 187 true) (Tq (jC ws 0 m) 187 true) (by(refine ay ?_;rw[Io,Sf])) (Hn.inl T_ok ai false 126 0 (ap Try.prog 76 1) (fun(x:(k:Nat)×'(hk:k≤m)×'(hcl:af (jC ws k m)=true)×'Unit)=>match x with|⟨k,hk,hcl,_⟩=>TJ [(4,zS),(5,zI 0),(6,TF 8 8 0),(8,TF 24 24 0),(9,Tu 32 32 0 N 1),(12,Tu 40 40 0 m 1),(63,zN m),(64,nD k)] [⟨0,0,0,0,.b ⟨map nD S,3,true⟩⟩,⟨8,8,8,8,.b ⟨[Tu 0 0 0 N 1],41,false⟩⟩,⟨16,16,16,16,.b ⟨map dB (replicate L 0),5,true⟩⟩,⟨24,24,24,24,.b ⟨[Tu 16 16 0 L 1],24,false⟩⟩,⟨32,32,32,32,.b ⟨map nD ws,3,true⟩⟩,⟨40,40,48,48,.b ⟨jC ws k m,187,true⟩⟩] 48) (fun(x:(k:Nat)×'(hk:k≤m)×'(hcl:af (jC ws k m)=true)×'Unit)=>match x with|⟨k,hk,hcl,_⟩=>m-k) [⟨(hcl2:af (jC ws m m)=true)×'Unit,.exit 2,fun x=>match x with|⟨hcl2,_⟩=>TJ [(4,zS),(5,zI 0),(6,TF 8 8 0),(8,TF 24 24 0),(9,Tu 32 32 0 N 1),(12,Tu 40 40 0 m 1),(63,zN m)] [⟨0,0,0,0,.b ⟨map nD S,3,true⟩⟩,⟨8,8,8,8,.b ⟨[Tu 0 0 0 N 1],41,false⟩⟩,⟨16,16,16,16,.b ⟨map dB (replicate L 0),5,true⟩⟩,⟨24,24,24,24,.b ⟨[Tu 16 16 0 L 1],24,false⟩⟩,⟨32,32,32,32,.b ⟨map nD ws,3,true⟩⟩,⟨40,40,48,48,.b ⟨jC ws m m,187,true⟩⟩] 48⟩] 1000 64 (fun|⟨k,hk,hcl,_⟩,Q,next1,last1=>(.s 2 (.bd ((k:Int)<m) (fun p1 p1f=>(.s 5 (.bd (0<(k:Int)) (fun p2 p2f=>(.s 6 (.ow ((k:Int)-1) (.s 1 (.chk (decide (0≤(k:Int)-1)&&decide ((k:Int)-1<m)) (by((refine aJ ?_ ?_)<;>(repeat' (first|(refine aJ ?_ ?_)|(with_reducible rfl)|(refine decide_eq_true ?_)|(refine Tv ?_)|(refine fx ?_)))<;>(omega))) (.s 2 (.opt ((jC ws k m)[0+zK ((k:Int)-1)*1]?) (FQ (av ws (zK ((k:Int)-1)))) (@C9 ws (k) (m) (zK ((k:Int)-1)) om om) (.s 2 (.call 101 false [] (true&&(true&&(true&&Tz (0+N*1) (length (map nD ws))&&true&&af (bif true&&Tx (N*1) (length (map nD ws))then map nD ws else take (N*1) (drop 0 (map nD ws))))&&true)) (by(simp <;>(omega))) ([TL false (length (av ws (zK ((k:Int)-1)))) 2 (flatMap dC (av ws (zK ((k:Int)-1)))),TL (Tz 1 N) N 1 (bif true&&Tx (N*1) (length (map nD ws))then map nD ws else take (N*1) (drop 0 (map nD ws)))]) _ (by exact(qr (Ut (D.sim.slw rfl (cn (by(simp <;>(omega)))|>.trans rfl)) trivial))) (true) wr _ _ _ (TW (az.of Try.func101 rfl rfl) (@PH (ws) (N) om om om (zK ((k:Int)-1)) om (length (av ws (zK ((k:Int)-1)))) om)) (.s 1 (.chk (true&&decide ((k:Int)<m)) aD (.s 1 (.chk (true&&Tz (0+k*1+1) (length (jC ws k m))) S6 (.lst (aj (jC ws k m) (0+k*1) [TL false (length (av ws (zK ((k:Int)-1)+1))) 2 (flatMap dC (av ws (zK ((k:Int)-1)+1)))]) (aj (jC ws k m) k [TL false (length (av ws (zK ((k:Int)-1)+1))) 2 (flatMap dC (av ws (zK ((k:Int)-1)+1)))]) (by(simp;done)) (.s 2 (.ow ((k:Int)+1) (.s 1 (.val 64 (zI ((k:Int)+1)) (zN (k+1)) Lt (.blk 40 40 (Tq (aj (jC ws k m) k [TL false (length (av ws (zK ((k:Int)-1)+1))) 2 (flatMap dC (av ws (zK ((k:Int)-1)+1)))]) 187 true) (Tq (jC ws (k+1) m) 187 true) (by(exact ay (Da om om om))) (Hn.next next1 ⟨(k+1),om,(by(exact vj _ _ _)),⟨⟩⟩ (by show m-(k+1)<m-k;clear next1 last1;omega) [(0,0),(8,8),(16,16),(24,24),(32,32),(40,40)] vi)))))))))))))))))))) (fun p2 p2f=>(.s 4 (.call 101 false [] (true&&(true&&(true&&Tz (0+N*1) (length (map nD ws))&&true&&af (bif true&&Tx (N*1) (length (map nD ws))then map nD ws else take (N*1) (drop 0 (map nD ws))))&&true)) (by(simp;have h9:=hA.at (t:=0+k*1) om;omega)) ([zS,TL (Tz 1 N) N 1 (bif true&&Tx (N*1) (length (map nD ws))then map nD ws else take (N*1) (drop 0 (map nD ws)))]) _ (by exact(qr (Ut (D.sim.slw rfl (cn (by(simp;have h9:=hA.at (t:=0+k*1) om;omega))|>.trans rfl)) trivial))) (true) wr _ _ _ (TW (az.of Try.func101 rfl rfl) (@PI (ws) (N) om om)) (.s 1 (.chk (true&&decide ((k:Int)<m)) aD (.s 1 (.chk (true&&Tz (0+k*1+1) (length (jC ws k m))) S6 (.lst (aj (jC ws k m) (0+k*1) [TL false (length (av ws 0)) 2 (flatMap dC (av ws 0))]) (aj (jC ws k m) k [TL false (length (av ws 0)) 2 (flatMap dC (av ws 0))]) (by(simp;done)) (.s 2 (.ow ((k:Int)+1) (.s 1 (.val 64 (zI ((k:Int)+1)) (zN (k+1)) Lt (.blk 40 40 (Tq (aj (jC ws k m) k [TL false (length (av ws 0)) 2 (flatMap dC (av ws 0))]) 187 true) (Tq (jC ws (k+1) m) 187 true) (by(exact ay (Da om om om))) (Hn.next next1 ⟨(k+1),om,(by(exact vj _ _ _)),⟨⟩⟩ (by show m-(k+1)<m-k;clear next1 last1;omega) [(0,0),(8,8),(16,16),(24,24),(32,32),(40,40)] vi))))))))))))))))) (fun p1 p1f=>(.blk 40 40 (Tq (jC ws k m) 187 true) (Tq (jC ws m m) 187 true) (by(rw[show k=m from by omega])) (Hn.last last1 0 (⟨om,⟨⟩⟩:(hcl2:af (jC ws m m)=true)×'Unit) rfl [(0,0),(8,8),(16,16),(24,24),(32,32),(40,40)] vi)))))) (fun|⟨k,hk,hcl,_⟩=>by kernel_rfl) ⟨(0),om,om,⟨⟩⟩ [(0,0),(8,8),(16,16),(24,24),(32,32),(48,48)] vi (bY (fun|⟨hcl2,_⟩=>(.s 6 (.ow (2*(N:Int)) (.s 2 (.ow (2*(N:Int)-2) (.s 19 (.ow ((m:Int)-1) (.s 1 (.blk 80 80 (Tq [zI (2*(N:Int)-2)] 3 false) (Tq [zN (2*N-2)] 3 false) (by(exact Ip om)) (Hn.inl T_ok ai false 19 168 (ap Try.prog 123 0) (fun(x:(k:Nat)×'(n:Nat)×'(o:List UInt8)×'(hk:k≤m)×'(hT:LnT ws S L k n o T)×'Unit)=>match x with|⟨k,n,o,hk,hT,_⟩=>TJ [(0,D.yl 160 160),(1,TF 112 112 0),(3,iD ((k:Int)-1))] [⟨0,0,0,0,.b ⟨map nD S,3,true⟩⟩,⟨8,8,8,8,.b ⟨[Tu 0 0 0 N 1],41,false⟩⟩,⟨16,16,16,16,.b ⟨o.map dB,5,true⟩⟩,⟨24,24,24,24,.b ⟨[Tu 16 16 0 L 1],24,false⟩⟩,⟨32,32,32,32,.b ⟨map nD ws,3,true⟩⟩,⟨40,40,40,40,.b ⟨jC ws m m,187,true⟩⟩,⟨80,80,80,80,.b ⟨[nD n],3,false⟩⟩,⟨112,112,112,112,.b ⟨[Tu 40 40 0 m 1],186,false⟩⟩,⟨160,160,160,160,.l Vr none (rangeAt Try.prog 76 0).1 (rangeAt Try.prog 76 0).2.1 (rangeAt Try.prog 76 0).2.2 126 [(63,zN m),(87,zI (2*(N:Int))),(5,zI 0),(9,Tu 32 32 0 N 1),(89,Tu 40 40 0 m 1),(85,Tu 0 0 0 N 1),(4,zS),(8,TF 24 24 0),(88,zI (2*(N:Int)-2)),(12,Tu 40 40 0 m 1),(6,TF 8 8 0),(90,U9 (Ui 123) [] [TF 112 112 0]),(14,TF 80 80 0),(86,zN N)]⟩] 240) (fun(x:(k:Nat)×'(n:Nat)×'(o:List UInt8)×'(hk:k≤m)×'(hT:LnT ws S L k n o T)×'Unit)=>match x with|⟨k,n,o,hk,hT,_⟩=>k) [⟨(n2:Nat)×'Unit,.exit 0,fun x=>match x with|⟨n2,_⟩=>TJ [(0,D.yl 160 160),(1,TF 112 112 0)] [⟨0,0,0,0,.b ⟨map nD S,3,true⟩⟩,⟨8,8,8,8,.b ⟨[Tu 0 0 0 N 1],41,false⟩⟩,⟨16,16,16,16,.b ⟨T.map dB,5,true⟩⟩,⟨24,24,24,24,.b ⟨[Tu 16 16 0 L 1],24,false⟩⟩,⟨32,32,32,32,.b ⟨map nD ws,3,true⟩⟩,⟨40,40,40,40,.b ⟨jC ws m m,187,true⟩⟩,⟨80,80,80,80,.b ⟨[nD n2],3,false⟩⟩,⟨112,112,112,112,.b ⟨[Tu 40 40 0 m 1],186,false⟩⟩,⟨160,160,160,160,.l Vr none (rangeAt Try.prog 76 0).1 (rangeAt Try.prog 76 0).2.1 (rangeAt Try.prog 76 0).2.2 126 [(63,zN m),(87,zI (2*(N:Int))),(5,zI 0),(9,Tu 32 32 0 N 1),(89,Tu 40 40 0 m 1),(85,Tu 0 0 0 N 1),(4,zS),(8,TF 24 24 0),(88,zI (2*(N:Int)-2)),(12,Tu 40 40 0 m 1),(6,TF 8 8 0),(90,U9 (Ui 123) [] [TF 112 112 0]),(14,TF 80 80 0),(86,zN N)]⟩] 240⟩] 1000 64 (fun|⟨k,n,o,hk,hT,_⟩,Q,next1,last1=>(.s 3 (.bd (0≤(k:Int)-1) (fun p3 p3f=>(.s 7 (.chk (decide (0≤(k:Int)-1)&&decide ((k:Int)-1<m)) PG (.s 2 (.opt ((jC ws m m)[0+zK ((k:Int)-1)*1]?) (FQ (av ws (zK ((k:Int)-1)))) (@C9 ws (m) (m) (zK ((k:Int)-1)) om om) (.s 8 (.chk (aZ none (some (n:Int)) none (length (av ws (zK ((k:Int)-1))))&&true) (by(have z:=hT.i.nextk om (((k:Int)-1).toNat) om;have z2:=hT.l;have z3:=dk ws (((k:Int)-1).toNat);have z4:(take n (av ws ((k:Int)-1).toNat)).length=n:=UD z.1;exact yJ rfl om)) (.s 2 (.val 17 (zI 0) (zN (dS (av ws (zK ((k:Int)-1))) 0)) (by(rw[PF];rfl)) (.val 95 (TL false n 2 (take (n*2) (flatMap dC (av ws (zK ((k:Int)-1)))))) (TL false n 2 (flatMap dC (take n (av ws (zK ((k:Int)-1)))))) (by(refine congrArg (TL false n 2) ?_;refine x7 ?_ _ _;exact fun _=>rfl)) (Hn.inl T_ok ai true 126 312 (ap Try.prog 76 2) (fun(x:(j:Nat)×'(hj:j≤n)×'Unit)=>match x with|⟨j,hj,_⟩=>TJ [(4,zS),(5,zI 0),(6,TF 8 8 0),(8,TF 24 24 0),(14,TF 80 80 0),(16,TL false (length (av ws (zK ((k:Int)-1)))) 2 (flatMap dC (av ws (zK ((k:Int)-1))))),(17,nD (dS (av ws ((k:Int)-1).toNat) j)),(90,U9 (Ui 123) [] [TF 112 112 0]),(92,TL false (length (av ws (zK ((k:Int)-1)))) 2 (flatMap dC (av ws (zK ((k:Int)-1))))),(93,TL false (length (av ws (zK ((k:Int)-1)))) 2 (flatMap dC (av ws (zK ((k:Int)-1))))),(94,zN n),(95,.sl false n 2 ((take n (av ws ((k:Int)-1).toNat)).flatMap dC)),(96,zN n),(97,nD j)] [⟨0,0,0,0,.b ⟨map nD S,3,true⟩⟩,⟨8,8,8,8,.b ⟨[Tu 0 0 0 N 1],41,false⟩⟩,⟨16,16,16,16,.b ⟨map dB o,5,true⟩⟩,⟨24,24,24,24,.b ⟨[Tu 16 16 0 L 1],24,false⟩⟩,⟨32,32,32,32,.b ⟨map nD ws,3,true⟩⟩,⟨40,40,40,40,.b ⟨jC ws m m,187,true⟩⟩,⟨80,80,80,80,.b ⟨[zN n],3,false⟩⟩,⟨112,112,112,112,.b ⟨[Tu 40 40 0 m 1],186,false⟩⟩,⟨160,160,160,160,.l Wr none (rangeAt Try.prog 76 0).1 (rangeAt Try.prog 76 0).2.1 (rangeAt Try.prog 76 0).2.2 126 [(63,zN m),(87,zI (2*(N:Int))),(5,zI 0),(9,Tu 32 32 0 N 1),(89,Tu 40 40 0 m 1),(85,Tu 0 0 0 N 1),(4,zS),(8,TF 24 24 0),(88,zI (2*(N:Int)-2)),(12,Tu 40 40 0 m 1),(6,TF 8 8 0),(90,U9 (Ui 123) [] [TF 112 112 0]),(14,TF 80 80 0),(86,zN N)]⟩] 384) (fun(x:(j:Nat)×'(hj:j≤n)×'Unit)=>match x with|⟨j,hj,_⟩=>n-j) [⟨Unit,.exit 6,fun x=>match x with|()=>TJ [(4,zS),(5,zI 0),(6,TF 8 8 0),(8,TF 24 24 0),(14,TF 80 80 0),(16,TL false (length (av ws (zK ((k:Int)-1)))) 2 (flatMap dC (av ws (zK ((k:Int)-1))))),(17,nD (dS (av ws ((k:Int)-1).toNat) n)),(90,U9 (Ui 123) [] [TF 112 112 0]),(92,TL false (length (av ws (zK ((k:Int)-1)))) 2 (flatMap dC (av ws (zK ((k:Int)-1))))),(93,TL false (length (av ws (zK ((k:Int)-1)))) 2 (flatMap dC (av ws (zK ((k:Int)-1))))),(94,zN n),(96,zN n),(97,nD n)] [⟨0,0,0,0,.b ⟨map nD S,3,true⟩⟩,⟨8,8,8,8,.b ⟨[Tu 0 0 0 N 1],41,false⟩⟩,⟨16,16,16,16,.b ⟨map dB o,5,true⟩⟩,⟨24,24,24,24,.b ⟨[Tu 16 16 0 L 1],24,false⟩⟩,⟨32,32,32,32,.b ⟨map nD ws,3,true⟩⟩,⟨40,40,40,40,.b ⟨jC ws m m,187,true⟩⟩,⟨80,80,80,80,.b ⟨[zN n],3,false⟩⟩,⟨112,112,112,112,.b ⟨[Tu 40 40 0 m 1],186,false⟩⟩,⟨160,160,160,160,.l Wr none (rangeAt Try.prog 76 0).1 (rangeAt Try.prog 76 0).2.1 (rangeAt Try.prog 76 0).2.2 126 [(63,zN m),(87,zI (2*(N:Int))),(5,zI 0),(9,Tu 32 32 0 N 1),(89,Tu 40 40 0 m 1),(85,Tu 0 0 0 N 1),(4,zS),(8,TF 24 24 0),(88,zI (2*(N:Int)-2)),(12,Tu 40 40 0 m 1),(6,TF 8 8 0),(90,U9 (Ui 123) [] [TF 112 112 0]),(14,TF 80 80 0),(86,zN N)]⟩] 384⟩] 1000 64 (fun|⟨j,hj,_⟩,Q,next2,last2=>(.s 2 (.bd ((j:Int)<n) (fun p4 p4f=>(.s 1 (.chk (true&&decide ((j:Int)<n)&&true) PG (.s 2 (.chk (Tz (j*2+2) (length (flatMap dC (take n (av ws (zK ((k:Int)-1))))))) (by(rw[a9 (k:=2) (fun(x:Pc)=>(rfl:(dC x).length=2)),TR];refine Tv ?_;have z:=hT.i.nextk om (((k:Int)-1).toNat) om;have z2:=hT.l;have z3:=dk ws (((k:Int)-1).toNat);have z4:(take n (av ws ((k:Int)-1).toNat)).length=n:=UD z.1;omega)) (.lst (take 2 (drop (j*2) (flatMap dC (take n (av ws (zK ((k:Int)-1))))))) ([zN (Pc.w (getD (take n (av ws (zK ((k:Int)-1)))) j mb)),D.v (.bool (Pc.p (getD (take n (av ws (zK ((k:Int)-1)))) j mb)))]) (aB (k:=2) (i:=j) (fun _=>rfl) Lu om) (.s 11 (.br (Pc.p (getD (take n (av ws (zK ((k:Int)-1)))) j mb)) (fun p5=>(.s 3 (.op ((↑(dS (av ws (zK ((k:Int)-1))) j):Int)+1) (by(have z:=hT.i.nextk om (((k:Int)-1).toNat) om;have z2:=hT.l;have z3:=dk ws (((k:Int)-1).toNat);have z4:(take n (av ws ((k:Int)-1).toNat)).length=n:=UD z.1;have h7:=C4 (av ws ((k:Int)-1).toNat) j;omega)) (.s 3 (.op ((j:Int)+1) Lu (.s 1 (.val 17 (zI ((↑(dS (av ws (zK ((k:Int)-1))) j):Int)+1)) (zN (dS (av ws (zK ((k:Int)-1))) (j+1))) (by(have z:=hT.i.nextk om (((k:Int)-1).toNat) om;have z2:=hT.l;have z3:=dk ws (((k:Int)-1).toNat);have z4:(take n (av ws ((k:Int)-1).toNat)).length=n:=UD z.1;refine aT ?_;rw[PJ (n:=n) om z.1 aD];omega)) (.val 97 (zI ((j:Int)+1)) (zN (j+1)) Lt (Hn.next next2 ⟨(j+1),om,⟨⟩⟩ S7 [(0,0),(8,8),(16,16),(24,24),(32,32),(40,40),(80,80),(112,112),(160,160)] vi))))))))) (fun p5=>(.s 2 (.op ((j:Int)+1) Lu (.s 1 (.val 17 (zN (dS (av ws (zK ((k:Int)-1))) j)) (zN (dS (av ws (zK ((k:Int)-1))) (j+1))) (by(have z:=hT.i.nextk om (((k:Int)-1).toNat) om;have z2:=hT.l;have z3:=dk ws (((k:Int)-1).toNat);have z4:(take n (av ws ((k:Int)-1).toNat)).length=n:=UD z.1;rw[PK (n:=n) om z.1 aD])) (.val 97 (zI ((j:Int)+1)) (zN (j+1)) Lt (Hn.next next2 ⟨(j+1),om,⟨⟩⟩ S7 [(0,0),(8,8),(16,16),(24,24),(32,32),(40,40),(80,80),(112,112),(160,160)] vi))))))))))))))) (fun p4 p4f=>(.val 17 (zN (dS (av ws (zK ((k:Int)-1))) j)) (zN (dS (av ws (zK ((k:Int)-1))) n)) (by(rw[show j=n from by omega])) (.val 97 (zN j) (zN n) PG (Hn.last last2 0 (():Unit) rfl [(0,0),(8,8),(16,16),(24,24),(32,32),(40,40),(80,80),(112,112),(160,160)] vi))))))) (fun|⟨j,hj,_⟩=>by kernel_rfl) ⟨(0),om,⟨⟩⟩ [(0,0),(8,8),(16,16),(24,24),(32,32),(40,40),(80,80),(112,112),(160,160)] vi (bY (fun|()=>(.s 9 (.op ((n:Int)-(↑(dS (av ws (zK ((k:Int)-1))) n):Int)) Lu (.s 1 (.chk (aZ none (some ((n:Int)-(↑(dS (av ws (zK ((k:Int)-1))) n):Int))) none N&&true) (by(have z:=hT.i.nextk om (((k:Int)-1).toNat) om;have z2:=hT.l;have z3:=dk ws (((k:Int)-1).toNat);have z4:(take n (av ws ((k:Int)-1).toNat)).length=n:=UD z.1;refine yJ (n:=n-dS (av ws ((k:Int)-1).toNat) n) ?_ ?_<;>omega)) (.s 2 (.blk 16 16 (Tq (map dB o) 5 true) (Tq (map dB (db o S 0)) 5 true) (by(rw[wP])) (Hn.inl T_ok ai true 126 312 (ap Try.prog 76 3) (fun(x:(j:Nat)×'(hj:j≤n-dS (av ws ((k:Int)-1).toNat) n)×'Unit)=>match x with|⟨j,hj,_⟩=>TJ [(4,zS),(5,zI 0),(6,TF 8 8 0),(8,TF 24 24 0),(14,TF 80 80 0),(16,TL false (length (av ws (zK ((k:Int)-1)))) 2 (flatMap dC (av ws (zK ((k:Int)-1))))),(17,zN (dS (av ws (zK ((k:Int)-1))) n)),(90,U9 (Ui 123) [] [TF 112 112 0]),(92,TL false (length (av ws (zK ((k:Int)-1)))) 2 (flatMap dC (av ws (zK ((k:Int)-1))))),(93,TL false (length (av ws (zK ((k:Int)-1)))) 2 (flatMap dC (av ws (zK ((k:Int)-1))))),(94,zN n),(96,zN n),(97,zN n),(106,Tu 0 0 0 N 1),(107,zN n),(108,zN (dS (av ws (zK ((k:Int)-1))) n)),(109,zI ((n:Int)-(↑(dS (av ws (zK ((k:Int)-1))) n):Int))),(110,Tu 0 0 0 (zK ((n:Int)-(↑(dS (av ws (zK ((k:Int)-1))) n):Int))) 1),(111,zN (zK ((n:Int)-(↑(dS (av ws (zK ((k:Int)-1))) n):Int)))),(112,nD j)] [⟨0,0,0,0,.b ⟨map nD S,3,true⟩⟩,⟨8,8,8,8,.b ⟨[Tu 0 0 0 N 1],41,false⟩⟩,⟨16,16,16,16,.b ⟨(db o S j).map dB,5,true⟩⟩,⟨24,24,24,24,.b ⟨[Tu 16 16 0 L 1],24,false⟩⟩,⟨32,32,32,32,.b ⟨map nD ws,3,true⟩⟩,⟨40,40,40,40,.b ⟨jC ws m m,187,true⟩⟩,⟨80,80,80,80,.b ⟨[zN n],3,false⟩⟩,⟨112,112,112,112,.b ⟨[Tu 40 40 0 m 1],186,false⟩⟩,⟨160,160,160,160,.l Wr none (rangeAt Try.prog 76 0).1 (rangeAt Try.prog 76 0).2.1 (rangeAt Try.prog 76 0).2.2 126 [(63,zN m),(87,zI (2*(N:Int))),(5,zI 0),(9,Tu 32 32 0 N 1),(89,Tu 40 40 0 m 1),(85,Tu 0 0 0 N 1),(4,zS),(8,TF 24 24 0),(88,zI (2*(N:Int)-2)),(12,Tu 40 40 0 m 1),(6,TF 8 8 0),(90,U9 (Ui 123) [] [TF 112 112 0]),(14,TF 80 80 0),(86,zN N)]⟩] 384) (fun(x:(j:Nat)×'(hj:j≤n-dS (av ws ((k:Int)-1).toNat) n)×'Unit)=>match x with|⟨j,hj,_⟩=>n-dS (av ws ((k:Int)-1).toNat) n-j) [⟨Unit,.exit 8,fun x=>match x with|()=>TJ [(4,zS),(5,zI 0),(6,TF 8 8 0),(8,TF 24 24 0),(14,TF 80 80 0),(16,TL false (length (av ws (zK ((k:Int)-1)))) 2 (flatMap dC (av ws (zK ((k:Int)-1))))),(17,zN (dS (av ws (zK ((k:Int)-1))) n)),(90,U9 (Ui 123) [] [TF 112 112 0]),(92,TL false (length (av ws (zK ((k:Int)-1)))) 2 (flatMap dC (av ws (zK ((k:Int)-1))))),(93,TL false (length (av ws (zK ((k:Int)-1)))) 2 (flatMap dC (av ws (zK ((k:Int)-1))))),(94,zN n),(96,zN n),(97,zN n),(106,Tu 0 0 0 N 1),(107,zN n),(108,zN (dS (av ws (zK ((k:Int)-1))) n)),(109,zI ((n:Int)-(↑(dS (av ws (zK ((k:Int)-1))) n):Int))),(110,Tu 0 0 0 (zK ((n:Int)-(↑(dS (av ws (zK ((k:Int)-1))) n):Int))) 1),(111,zN (zK ((n:Int)-(↑(dS (av ws (zK ((k:Int)-1))) n):Int))))] [⟨0,0,0,0,.b ⟨map nD S,3,true⟩⟩,⟨8,8,8,8,.b ⟨[Tu 0 0 0 N 1],41,false⟩⟩,⟨16,16,16,16,.b ⟨(db o S (n-dS (av ws ((k:Int)-1).toNat) n)).map dB,5,true⟩⟩,⟨24,24,24,24,.b ⟨[Tu 16 16 0 L 1],24,false⟩⟩,⟨32,32,32,32,.b ⟨map nD ws,3,true⟩⟩,⟨40,40,40,40,.b ⟨jC ws m m,187,true⟩⟩,⟨80,80,80,80,.b ⟨[zN n],3,false⟩⟩,⟨112,112,112,112,.b ⟨[Tu 40 40 0 m 1],186,false⟩⟩,⟨160,160,160,160,.l Wr none (rangeAt Try.prog 76 0).1 (rangeAt Try.prog 76 0).2.1 (rangeAt Try.prog 76 0).2.2 126 [(63,zN m),(87,zI (2*(N:Int))),(5,zI 0),(9,Tu 32 32 0 N 1),(89,Tu 40 40 0 m 1),(85,Tu 0 0 0 N 1),(4,zS),(8,TF 24 24 0),(88,zI (2*(N:Int)-2)),(12,Tu 40 40 0 m 1),(6,TF 8 8 0),(90,U9 (Ui 123) [] [TF 112 112 0]),(14,TF 80 80 0),(86,zN N)]⟩] 384⟩] 1000 64 (fun|⟨j,hj,_⟩,Q,next2,last2=>(.s 2 (.bd ((j:Int)<(↑(zK ((n:Int)-(↑(dS (av ws (zK ((k:Int)-1))) n):Int))):Int)) (fun p6 p6f=>(.s 1 (.chk (true&&decide ((j:Int)<(↑(zK ((n:Int)-(↑(dS (av ws (zK ((k:Int)-1))) n):Int))):Int))) aD (.s 2 (.opt ((map nD S)[0+j*1]?) (nD (getD S (0+j*1) mb)) (aq _ _ PG) (.s 6 (.chk (true&&decide ((↑(getD S (0+j*1) mb):Int)<(L:Int))) S8 (.s 2 (.opt ((map dB (db o S j))[0+getD S (0+j*1) mb*1]?) (dB (getD (db o S j) (0+getD S (0+j*1) mb*1) mb)) (aq _ _ (by(have z:=hT.i.nextk om (((k:Int)-1).toNat) om;have z2:=hT.l;have z3:=dk ws (((k:Int)-1).toNat);have z4:(take n (av ws ((k:Int)-1).toNat)).length=n:=UD z.1;have h9:=hA.at (t:=0+j*1) om;have h8:=dD o S j;omega))) (.s 2 (.opt (ar .u8 ((↑(Tp (getD (db o S j) (0+getD S (0+j*1) mb*1) mb)):Int)+1)) (bI (((↑(Tp (getD (db o S j) (0+getD S (0+j*1) mb*1) mb)):Int)+1)%256)) (aL _ _) (.s 1 (.chk (true&&decide ((↑(getD S (0+j*1) mb):Int)<(L:Int))) S8 (.s 1 (.chk (true&&Tz (0+getD S (0+j*1) mb*1+1) (length (map dB (db o S j)))) (by(rw[TH];have z:=hT.i.nextk om (((k:Int)-1).toNat) om;have z2:=hT.l;have z3:=dk ws (((k:Int)-1).toNat);have z4:(take n (av ws ((k:Int)-1).toNat)).length=n:=UD z.1;have h9:=hA.at (t:=0+j*1) om;have h8:=dD o S j;simp only[Ub];refine Tv ?_;omega)) (.lst (aj (map dB (db o S j)) (0+getD S (0+j*1) mb*1) [bI (((↑(Tp (getD (db o S j) (0+getD S (0+j*1) mb*1) mb)):Int)+1)%256)]) (aj (map dB (db o S j)) (getD S j mb) [bI (((↑(Tp (getD (db o S j) (getD S j mb) mb)):Int)+1)%256)]) (by(simp;done)) (.s 2 (.op ((j:Int)+1) Lu (.s 1 (.val 112 (zI ((j:Int)+1)) (zN (j+1)) Lt (.blk 16 16 (Tq (aj (map dB (db o S j)) (getD S j mb) [bI (((↑(Tp (getD (db o S j) (getD S j mb) mb)):Int)+1)%256)]) 5 true) (Tq (map dB (db o S (j+1))) 5 true) (by(have z:=hT.i.nextk om (((k:Int)-1).toNat) om;have z2:=hT.l;have z3:=dk ws (((k:Int)-1).toNat);have z4:(take n (av ws ((k:Int)-1).toNat)).length=n:=UD z.1;have h9:=hA.at (t:=0+j*1) om;have h8:=dD o S j;refine ay (PL om ?_ ?_ ?_)<;>first|(simp only[T0,TZ];done)|rfl|(simp only[T0,TZ]at *;omega))) (Hn.next next2 ⟨(j+1),om,⟨⟩⟩ (by show n-dS (av ws (zK ((k:Int)-1))) n-(j+1)<n-dS (av ws (zK ((k:Int)-1))) n-j;clear next2 last2 next1 last1;omega) [(0,0),(8,8),(16,16),(24,24),(32,32),(40,40),(80,80),(112,112),(160,160)] vi)))))))))))))))))))))) (fun p6 p6f=>(.blk 16 16 (Tq (map dB (db o S j)) 5 true) (Tq (map dB (db o S (n-dS (av ws (zK ((k:Int)-1))) n))) 5 true) (by(rw[show j=n-dS (av ws ((k:Int)-1).toNat) n from by omega])) (Hn.last last2 0 (():Unit) rfl [(0,0),(8,8),(16,16),(24,24),(32,32),(40,40),(80,80),(112,112),(160,160)] vi)))))) (fun|⟨j,hj,_⟩=>by kernel_rfl) ⟨(0),om,⟨⟩⟩ [(0,0),(8,8),(16,16),(24,24),(32,32),(40,40),(80,80),(112,112),(160,160)] vi (bY (fun|()=>(.s 3 (.op (2*(↑(dS (av ws (zK ((k:Int)-1))) n):Int)) Lu (.s 8 (.ow ((k:Int)-1-1) (.s 1 (.val 3 (zI ((k:Int)-1-1)) (zI ((↑(k-1):Int)-1)) PG (.blk 80 80 (Tq [zI (2*(↑(dS (av ws (zK ((k:Int)-1))) n):Int))] 3 false) (Tq [zN (2*dS (av ws (zK ((k:Int)-1))) n)] 3 false) (by(exact Ip om)) (Hn.next next1 ⟨(k-1),(2*dS (av ws ((k:Int)-1).toNat) n),(db o S (n-dS (av ws ((k:Int)-1).toNat) n)),om,(by(exact hT.next' om _ om)),⟨⟩⟩ (by show k-1<k;clear next1 last1;omega) [(0,0),(8,8),(16,16),(24,24),(32,32),(40,40),(80,80),(112,112),(160,160)] vi)))))))))))))))))))))))))))))) (fun p3 p3f=>(.blk 16 16 (Tq (map dB o) 5 true) (Tq (map dB T) 5 true) (by(rw[hT.last om])) (Hn.last last1 0 (⟨(n),⟨⟩⟩:(n2:Nat)×'Unit) rfl [(0,0),(8,8),(16,16),(24,24),(32,32),(40,40),(80,80),(112,112),(160,160)] vi)))))) (fun|⟨k,n,o,hk,hT,_⟩=>by kernel_rfl) ⟨(m),(2*N-2),(replicate L 0),om,om,⟨⟩⟩ [(0,0),(8,8),(16,16),(24,24),(32,32),(40,40),(80,80),(112,112),(160,160)] vi (bY (fun|⟨n2,_⟩=>(.s 5 (.out [16] [16] (Uw [Tu 0 0 0 L 1,zI 0]) [Tq (map dB T) 5 true] R (ok _ _ wr wr))))))))))))))))))))))))))))))))))))) kr
theorem Qr {p:Prop}(h:p:=by(have h9:=hA.at (t:=0) om;refine decide_eq_true ?_;omega)):p:=h
theorem S9 {p:Prop}(h:p:=by(have h9:((EZ.bytes:Nat):Int)=1:=rfl;rw[h9];simp;omega)):p:=h
theorem PN (W:List Nat)(L:Nat)(hL:L=W.length)(hL2:L≤320)(hB:∀t,W.getD t mb≤1073741824)(m:Nat)(hm:1≤m∧m≤15)(S:List Nat)(hS:gD W=S)(N:Nat)(hN:N=S.length)(hNm:N≤2^m)(hA:bM L S)(hN3:N≤320)(h2:N=1):S0 76 [.sl false L 1 (W.map nD),nD m] [] (.tup [.ref 0 0 0 L 1,iD 0]) [⟨((TK L (0:UInt8)).set (S.getD 0 mb) (Um 1)).map dB, 5,true⟩]:=by
 refine SpecH.run T_ok ai Try.func76 rfl rfl rfl ⟨cM _,trivial⟩ rfl 1000 64 (fun R ok=>(.s 5 (.cl 100 false [] (.fn J7 (@sN (W) (L) om om om (m) om (S) aD (N) aD om)) (.s 18 (.chk (true&&decide ((L:Int)≤L)&&true&&true&&true&&true&&decide ((↑(X3 EZ):Int)*(L:Int)≤140737488355328)) S9 (.s 11 (.t ((N:Int)==1) Qr (.s 8 (.chk (true&&decide (0<(N:Int))) Qr (.s 2 (.opt ((map nD S)[0]?) (nD (getD S 0 mb)) (aq _ _ om) (.s 1 (.chk (true&&decide ((↑(getD S 0 mb):Int)<(L:Int))) Qr (.s 1 (.chk (true&&Tz (0+getD S 0 mb*1+1) (length (dJ [bI 0] (L*1)))) (by(have h9:=hA.at (t:=0) om;rw[yI,TH,T4,Ub];refine Tv ?_;omega)) (.lst (aj (dJ [bI 0] (L*1)) (0+getD S 0 mb*1) [bI 1]) (aj (dJ [bI 0] L) (getD S 0 mb) [bI 1]) (by(simp;done)) (.s 6 (.t (decide ((N:Int)<2)) Qr (.s 5 (.out [120] [120] (Uw [Tu 0 0 0 L 1,zI 0]) [Tq (aj (dJ [bI 0] L) (getD S 0 mb) [bI 1]) 5 true] R (ok _ _ wr (by(have h9:=hA.at (t:=0) om;have e:=yI L;rw[TZ]at e;rw[e];exact congrArg (fun z=>[Tq z 5 true]) (Ct (a:=1) (by decide) (by rw[T4];omega))))))))))))))))))))))))) kr
theorem PO (W:List Nat)(L:Nat)(hL:L=W.length)(hL2:L≤320)(hB:∀t,W.getD t mb≤1073741824)(m:Nat)(hm:1≤m∧m≤15)(S:List Nat)(hS:gD W=S)(N:Nat)(hN:N=S.length)(hNm:N≤2^m)(hA:bM L S)(hN3:N≤320)(h2:N=0):S0 76 [.sl false L 1 (W.map nD),nD m] [] (.tup [.ref 0 0 0 L 1,iD 0]) [⟨(TK L (0:UInt8)).map dB, 5,true⟩]:=by
 refine SpecH.run T_ok ai Try.func76 rfl rfl rfl ⟨cM _,trivial⟩ rfl 1000 64 (fun R ok=>(.s 5 (.cl 100 false [] (.fn J7 (@sN (W) (L) om om om (m) om (S) aD (N) aD om)) (.s 18 (.chk (true&&decide ((L:Int)≤L)&&true&&true&&true&&true&&decide ((↑(X3 EZ):Int)*(L:Int)≤140737488355328)) S9 (.s 11 (.f ((N:Int)==1) (by(refine decide_eq_false ?_;(omega))) (.s 6 (.t (decide ((N:Int)<2)) (by(refine decide_eq_true ?_;(omega))) (.s 5 (.out [120] [120] (Uw [Tu 0 0 0 L 1,zI 0]) [Tq (dJ [bI 0] (L*1)) 5 true] R (ok _ _ wr (by(rw[yI])))))))))))))) kr
def Ae (W S:List Nat)(m:Nat):List UInt8:=
 if S.length=0 then TK W.length 0 else if S.length=1 then(TK W.length 0).set (S.getD 0 mb) (Um 1)
 else lnF (sJ W S S.length) S m (2*S.length-2) (TK W.length 0)
def b5 (W:List Nat)(m:Nat):List UInt8:=lk W (Ae W (gD W) m)
theorem nO (W:List Nat)(m:Nat):b5 W m=Ae W (gD W) m:=aw _ _
theorem sO (ws S:List Nat):∀(k n:Nat) (o:List UInt8),(lnF ws S k n o).length=o.length
 |0,_,_=>rfl
 |k+1,n,o=>by rw[lnF,sO ws S k,dD]
theorem lF (W:List Nat)(m:Nat):(b5 W m).length=W.length:=by
 rw[nO,Ae]
 split
 ·rw[T4]
 ·split
  ·rw[VG,T4]
  ·rw[sO,T4]
theorem PP (W:List Nat)(L:Nat)(hL:L=W.length)(hL2:L≤320)(hB:∀t,W.getD t mb≤1073741824)(m:Nat)(hm:1≤m∧m≤15)(hNm:(gk W L).length≤2^m):S0 76 [.sl false L 1 (W.map nD),nD m] [] (.tup [.ref 0 0 0 L 1,iD 0]) [⟨(b5 W m).map dB, 5,true⟩]:=by
 have hp:=fD W
 have hl:=hp.length_eq
 have hA:bM L (gD W):=by rw[hL];exact sI.perm hp
 have h3:=kF W L
 rw[←hL]at hl
 rw[nO,Ae]
 by_cases c0:(gD W).length=0
 ·rw[if_pos c0,←hL]
  exact PO W L hL hL2 hB m hm _ rfl _ rfl (by omega) hA (by omega) c0
 ·rw[if_neg c0]
  by_cases c1:(gD W).length=1
  ·rw[if_pos c1,←hL]
   exact PN W L hL hL2 hB m hm _ rfl _ rfl (by omega) hA (by omega) c1
  ·rw[if_neg c1,←hL]
   have hwl:(sJ W (gD W) (gD W).length).length=(gD W).length:=nM (TD _)
   refine PM W L hL hL2 hB m hm _ rfl _ rfl (by omega) hA (by omega) (by omega) _ rfl hwl (fun w hw=>?_) _ ⟨?_,T4,rfl⟩
   ·rw[pj]at hw
    obtain⟨i,_,rfl⟩:=List.mem_map.1 hw
    exact hB i
   ·have q:=LnI.first (ws:=sJ W (gD W) (gD W).length) hm.1 (by rw[hwl];omega) (by rw[hwl];omega)
    rwa [hwl]at q
end Vp
end Go.Proofs.Ytefjnofhgkjpmaa
namespace Go.Proofs.Ytefjnofhgkjpmaa
open Go.RowKit Go.Bw Go.Vx
namespace Vp
theorem Qs {p:Prop}(h:p:=by rw[T4]):p:=h
def Af (l:List Pc):Nat:=(l.filter (fun x=>!x.p)).length
def yK (l:List Pc):Nat:=(l.filter (·.p)).length
def sW (l:List Pc):List Nat:=(l.filter (fun x=>!x.p)).map (·.w)
theorem sQ (a b:List Pc):Af (a++b)=Af a+Af b:=by unfold Af;rw[US,Tt]
theorem yL (a b:List Pc):yK (a++b)=yK a+yK b:=by unfold yK;rw[US,Tt]
theorem pn (ws:List Nat):Af (iU ws)=ws.length∧yK (iU ws)=0:=by
 unfold Af yK iU
 refine⟨?_,?_⟩
 ·rw[List.filter_eq_self.2 (fun x hx=>by obtain⟨w,_,rfl⟩:=List.mem_map.1 hx;rfl),TH]
 ·rw[List.filter_eq_nil_iff.2 (fun x hx=>by obtain⟨w,_,rfl⟩:=List.mem_map.1 hx;simp)];rfl
theorem po (ws:List Nat)(n:Nat):(iU ws).take n=iU (ws.take n):=by unfold iU;rw[Wg]
theorem Db (ws:List Nat):sW (iU ws)=ws:=by
 unfold sW iU
 rw[List.filter_eq_self.2 (fun x hx=>by obtain⟨w,_,rfl⟩:=List.mem_map.1 hx;rfl),Xg]
 exact List.map_id ws
theorem Dc (s:Nat):∀ws:List Nat,∃em,(fT s ws).1=iU em++[⟨s,true⟩]∧ws=em++(fT s ws).2∧∀u r,(fT s ws).2=u::r→s<u
 |[]=>⟨[],rfl,rfl,fun u r h=>by cases h⟩
 |w::r=>by
  rw[fT];split
  ·next q=>exact⟨[],rfl,rfl,fun u r' h=>by cases h;exact q⟩
  ·obtain⟨em,h1,h2,h3⟩:=Dc s r
   exact⟨w::em,by rw[h1];rfl,by rw[V5,←h2],h3⟩
theorem Dd:∀(row:List Pc) (ws:List Nat),sW (gl row ws)=ws
 |[],ws=>Db ws
 |[_],ws=>Db ws
 |x::y::r,ws=>by
  obtain⟨em,h1,h2,_⟩:=Dc (x.w+y.w) ws
  have ih:=Dd r (fT (x.w+y.w) ws).2
  rw[gl,h1]
  unfold sW at *
  rw[US,Uq,ih,US,Uq]
  have e:=Db em
  unfold sW at e
  rw[e]
  show(em++[])++_=ws
  rw[Ue,←h2]
theorem Lb (ws:List Nat):∀k,sW (av ws k)=ws
 |0=>by rw[←sL,iR];exact Dd _ _
 |k+1=>by rw[←pm,iR];exact Dd _ _
theorem yM:∀(row:List Pc) (v ws:List Nat),sW row=v++ws→∀n,Af (row.take (2*yK ((gl row ws).take n)))≤v.length+Af ((gl row ws).take n)
 |[],v,ws,_,n=>by
  have e:(gl [] ws).take n=iU (ws.take n):=po ws n
  rw[e,(pn _).2];exact T7 _
 |[x],v,ws,_,n=>by
  have e:(gl [x] ws).take n=iU (ws.take n):=po ws n
  rw[e,(pn _).2];exact T7 _
 |x::y::r,v,ws,h,n=>by
  obtain⟨em,h1,h2,h3⟩:=Dc (x.w+y.w) ws
  have ih:=yM r
  rw[gl,h1]
  generalize(fT (x.w+y.w) ws).2=ws' at *
  rcases T5 em.length n with q|q
  ·have e:(iU em++[(⟨x.w+y.w,true⟩:Pc)]++gl r ws').take n=(iU em++[(⟨x.w+y.w,true⟩:Pc)])++(gl r ws').take (n-(em.length+1)):=by
    have l:(iU em++[(⟨x.w+y.w,true⟩:Pc)]).length=em.length+1:=by unfold iU;rw[Tt,TH];rfl
    rw[YF,l,T9 (by omega)]
   rw[e,yL,yL,sQ,sQ,(pn em).1,(pn em).2]
   show Af ((x::y::r).take (2*(0+1+_)))≤v.length+(em.length+0+_)
   generalize hZ:(gl r ws').take (n-(em.length+1))=Z
   have hk:sW (x::y::r)=sW [x,y]++sW r:=by
    unfold sW
    rw[show x::y::r=[x,y]++r from rfl,US,Uq]
   have hs:∀u∈sW [x,y],u≤x.w+y.w:=fun u hu=>by
    obtain⟨p,hp,rfl⟩:=List.mem_map.1 hu
    rcases List.mem_cons.1 (List.mem_filter.1 hp).1 with rfl|hp
    ·omega
    ·cases List.mem_singleton.1 hp;omega
   have hl:(sW [x,y]).length=Af [x,y]:=by unfold sW Af;rw[TH]
   rw[hk,h2,←TG]at h
   have hc:(sW [x,y]).length≤(v++em).length:=by
    rcases T5 (v++em).length (sW [x,y]).length with z|z
    ·exfalso
     have g:(sW [x,y]++sW r)[(v++em).length]? =(v++em++ws')[(v++em).length]?:=by rw[h]
     rw[TQ z,TO (TD _),UJ,Ts z]at g
     cases hw:ws' with
     |nil=>rw[hw]at g;cases g
     |cons u t=>
      rw[hw]at g
      have g2:(sW [x,y])[(v++em).length]=u:=Option.some.inj g
      have:=hs _ (Uo z)
      have:=h3 u t hw
      omega
    ·exact z
   have hr:sW r=(v++em).drop (sW [x,y]).length++ws':=by
    have g:=congrArg (UQ (sW [x,y]).length) h
    rwa [Ws,Wc hc]at g
   have i2:=ih _ ws' hr (n-(em.length+1))
   rw[hZ,Ul,Tt,hl]at i2
   rw[Tt,hl]at hc
   have e3:(x::y::r).take (2*(0+1+yK Z))=[x,y]++r.take (2*yK Z):=by
    rw[show 2*(0+1+yK Z)=2*yK Z+1+1 from by omega];rfl
   rw[e3,sQ]
   omega
  ·have e:(iU em++[(⟨x.w+y.w,true⟩:Pc)]++gl r ws').take n=iU (em.take n):=by
    have l:n≤(iU em).length:=by unfold iU;rw[TH];exact q
    rw[TG,VQ l,po]
   rw[e,(pn _).2];exact T7 _
def Ir (l:List Nat)(j:Nat):List Nat:=(l.take j).map (· +1)++l.drop j
def pp (m:Nat):List Nat→Nat
 |[]=>0
 |x::r=>2^(m-x)+pp m r
theorem sR (m:Nat)(a b:List Nat):pp m (a++b)=pp m a+pp m b:=by
 induction a with
 |nil=>simp[pp]
 |cons x a ih=>rw[V5,pp,pp,ih,UF]
theorem lG (m d:Nat):∀a,pp m (TK a d)=a*2^(m-d)
 |0=>by simp[pp]
 |a+1=>by rw[X9,pp,lG m d a,XE,Xf]
def FR (ws:List Nat):Nat→Nat→List Nat→List Nat
 |0,_,l=>l
 |k+1,n,l=>FR ws k (2*dS (av ws k) n) (Ir l (n-dS (av ws k) n))
theorem yN (a b d:Nat):TK (a+b) d=TK a d++TK b d:=List.replicate_append_replicate.symm
structure KrI (ws:List Nat)(m k n a:Nat)(l:List Nat):Prop where
 i:LnI ws k n
 km:k≤m
 z:k=0→n=0
 nx:k≠0→n-dS (av ws (k-1)) n≤a
 sh:∃r,l=TK a (m-k)++r∧∀x∈r,x≤m-k
 ph:2*pp m l=2*2^m+n*2^k
theorem De (l:List Pc):l.length=yK l+Af l:=by unfold yK Af;exact sM l
theorem Df (row:List Pc)(n:Nat):dS row n=yK (row.take n):=kG row n
theorem KrI.next {ws:List Nat}{m k n a:Nat}{l:List Nat}(h:KrI ws m (k+1) n a l):KrI ws m k (2*dS (av ws k) n) (n-dS (av ws k) n) (Ir l (n-dS (av ws k) n)):=by
 have hn:=LnI.next h.i
 have ha:=h.nx (VJ k)
 rw[VK]at ha
 obtain⟨r,hr,hx⟩:=h.sh
 have hkm:=h.km
 generalize hc:dS (av ws k) n=c at *
 refine⟨hn.2.2.2,by omega,fun hk=>?_,fun hk=>?_,?_,?_⟩
 ·subst hk
  have q:=yF (av ws 0) n
  rw[(mE ws 0).2.1,if_pos rfl,hc]at q;omega
 ·obtain⟨j,rfl⟩:∃j,k=j+1:=⟨k-1,by omega⟩
  rw[VK]
  have q:=yM (av ws j) [] ws (Lb ws j) n
  rw[←iR,pm,←Df,hc]at q
  have q2:=De ((av ws (j+1)).take n)
  rw[←Df,hc,TR]at q2
  have q3:=De ((av ws j).take (2*c))
  have q4:=(hn.2.2.2).a (VJ j)
  rw[VK]at q4
  rw[←Df,TR]at q3
  have q5:([]:List Nat).length=0:=rfl
  omega
 ·refine⟨TK (a-(n-c)) (m-(k+1))++r,?_,fun x hx2=>?_⟩
  ·unfold Ir
   rw[hr,show a=(n-c)+(a-(n-c))from by omega,yN,Vz,TG,YW Qs,YX Qs,Vu,show m-(k+1)+1=m-k from by omega]
  ·rcases List.mem_append.1 hx2 with q|q
   ·have:=(List.mem_replicate.1 q).2;omega
   ·have:=hx x q;omega
 ·have hp:=h.ph
  have e:l=TK (n-c) (m-(k+1))++(TK (a-(n-c)) (m-(k+1))++r):=by
   rw[hr,←TG,←yN,show n-c+(a-(n-c))=a from by omega]
  have e2:Ir l (n-c)=TK (n-c) (m-k)++(TK (a-(n-c)) (m-(k+1))++r):=by
   unfold Ir
   rw[e,YW Qs,YX Qs,Vu,show m-(k+1)+1=m-k from by omega]
  rw[e,sR,lG,show m-(m-(k+1))=k+1 from by omega]at hp
  rw[e2,sR,lG,show m-(m-k)=k from by omega]
  generalize pp m (TK (a-(n-c)) (m-(k+1))++r)=Q at *
  have e3:n=(n-c)+c:=by omega
  generalize n-c=b at *
  subst e3
  rw[Us]at hp
  generalize 2^k=P at *
  rw[UN,Ve P 2,←UU,←UU,Ve b 2,Ve c 2,UU 2 b P,UU 2 c P]at hp
  rw[UU 2 c P]
  omega
theorem KrI.last {ws:List Nat}{m:Nat}:∀(k n a:Nat) (l:List Nat),KrI ws m k n a l→pp m (FR ws k n l)=2^m∧(∀x∈FR ws k n l,x≤m)∧(FR ws k n l).length=l.length
 |0,n,a,l,h=>by
  have hz:=h.z rfl
  have hp:=h.ph
  rw[hz,Vd]at hp
  obtain⟨r,hr,hx⟩:=h.sh
  refine⟨by rw[FR];omega,fun x hx2=>?_,rfl⟩
  rw[FR,hr]at hx2
  rcases List.mem_append.1 hx2 with q|q
  ·have:=(List.mem_replicate.1 q).2;omega
  ·have:=hx x q;omega
 |k+1,n,a,l,h=>by
  have q:=KrI.last k _ _ _ h.next
  rw[FR]
  refine⟨q.1,q.2.1,q.2.2.trans ?_⟩
  unfold Ir
  rw[Tt,TH,TR,Ul];omega
theorem yO {m:Nat}:∀{l:List Nat},pp m l=2^m→2≤l.length→∀x∈l,x≠0:=fun{l} h h2 x hx h0=>by
 obtain⟨a,b,rfl⟩:=List.append_of_mem hx
 rw[sR,pp,h0,WK]at h
 have pos:∀l:List Nat,l.length≤pp m l:=fun l=>by
  induction l with
  |nil=>exact TD _
  |cons y l ih=>rw[pp,T3];have:=UY (m-y);omega
 have p1:=pos a
 have p2:=pos b
 rw[Tt,T3]at h2
 omega
theorem Dg {m:Nat}(hm:m≤15):∀l:List Nat,(∀x∈l,x≤m)→pp 15 l=2^(15-m)*pp m l
 |[],_=>rfl
 |x::r,h=>by
  have hx:=h x TP
  rw[pp,pp,Dg hm r (fun y hy=>h y (TU _ hy)),V2,←Xq,show 15-m+(m-x)=15-x from by omega]
theorem Ta {p:Prop}(h:p:=by rw[TH,TR,TH];omega):p:=h
def kn (f:Nat→Nat):List Nat→Nat
 |[]=>0
 |i::r=>f i+kn f r
theorem yP (f:Nat→Nat)(a b:List Nat):kn f (a++b)=kn f a+kn f b:=by
 induction a with
 |nil=>simp[kn]
 |cons x a ih=>rw[V5,kn,kn,ih,UF]
theorem vk {f:Nat→Nat}{a b:List Nat}(h:a.Perm b):kn f a=kn f b:=by
 induction h with
 |nil=>rfl
 |cons x _ ih=>rw[kn,kn,ih]
 |swap x y l=>rw[kn,kn,kn,kn];omega
 |trans _ _ h1 h2=>exact h1.trans h2
theorem sS {f:Nat→Nat}{p:Nat→Bool}:∀l:List Nat,(∀i∈l,p i=false→f i=0)→kn f l=kn f (l.filter p)
 |[],_=>rfl
 |x::r,h=>by
  have ih:=sS r fun i hi=>h i (TU _ hi)
  cases hp:p x
  ·rw[VB (by simp[hp]),kn,h x TP hp,ih,T0]
  ·rw[VA hp,kn,kn,ih]
def kf (o:List UInt8)(i:Nat):Nat:=if(o.getD i mb).toNat=0 then 0 else 2^(15-(o.getD i mb).toNat)
def uf (o:List UInt8)(i:Nat):Nat:=if(o.getD i mb).toNat=0 then 0 else 1
theorem vl (o:List UInt8):∀k,k≤o.length→aU (o.take k)=kn (kf o) (Uv k)∧bc (o.take k)=kn (uf o) (Uv k)
 |0,_=>⟨rfl,rfl⟩
 |k+1,h=>by
  have ih:=vl o k (by omega)
  rw[iH (by omega),kx (by omega),Wf,yP,yP,ih.1,ih.2]
  exact⟨rfl,rfl⟩
theorem Di {W:List Nat}{o:List UInt8}(hl:o.length=W.length)(h0:∀i,i<W.length→W.getD i mb=0→o.getD i mb=0):aU o=kn (kf o) (gD W)∧bc o=kn (uf o) (gD W):=by
 have h:=vl o o.length (TD _)
 rw[Uy,hl]at h
 have hz:∀i,i<W.length→decide (0<W.getD i mb)=false→(o.getD i mb).toNat=0:=fun i hi hp=>by
  have hp:=of_decide_eq_false hp
  rw[h0 i hi (by omega)];rfl
 rw[vk (fD W),vk (fD W),gN,h.1,h.2]
 exact⟨sS _ fun i hi hp=>by unfold kf;rw[if_pos (hz i (List.mem_range.1 hi) hp)],sS _ fun i hi hp=>by unfold uf;rw[if_pos (hz i (List.mem_range.1 hi) hp)]⟩
theorem Is (W:List Nat):(gD W).Nodup:=by
 rw[(fD W).nodup_iff,gN];exact List.Nodup.sublist List.filter_sublist List.nodup_range
theorem wS {W:List Nat}{i:Nat}:i∈gD W↔i<W.length∧0<W.getD i mb:=by
 rw[(fD W).mem_iff,gN,WC,XQ,decide_eq_true_eq]
theorem sT {o:List UInt8}{i j:Nat}{v:UInt8}(hi:i<o.length):(o.set i v).getD j mb=if i=j then v else o.getD j mb:=by
 rw[To,To,U3]
 by_cases h:i=j
 ·rw[if_pos h,if_pos h,if_pos (by omega)];rfl
 ·rw[if_neg h,if_neg h]
theorem PQ {S:List Nat}(hN:S.Nodup){i j:Nat}(hi:i<S.length)(hj:j<S.length)(h:i≠j):S.getD i mb≠S.getD j mb:=by
 rw[To,To,Ts hi,Ts hj]
 rcases Nat.lt_or_gt_of_ne h with q|q
 ·exact List.pairwise_iff_getElem.1 hN _ _ hi hj q
 ·exact(List.pairwise_iff_getElem.1 hN _ _ hj hi q).symm
theorem Dj {S:List Nat}(hN:S.Nodup){o:List UInt8}(hA:bM o.length S):∀j,j≤S.length→(∀t,t<S.length→(db o S j).getD (S.getD t mb) mb=if t<j then o.getD (S.getD t mb) mb+1 else o.getD (S.getD t mb) mb)∧∀i,i∉S→(db o S j).getD i mb=o.getD i mb
 |0,_=>⟨fun t _=>by rw[wP,if_neg (UR t)],fun i _=>by rw[wP]⟩
 |j+1,h=>by
  have ih:=Dj hN hA j (by omega)
  have hb:=hA.at (t:=j) (by omega)
  refine⟨fun t ht=>?_,fun i hi=>?_⟩
  ·rw[wQ (by omega),sT (by rw[dD];exact hb)]
   by_cases e:j=t
   ·subst e;rw[if_pos rfl,ih.1 j ht,if_neg (V1 j),if_pos (WR j)]
   ·rw[if_neg (PQ hN (by omega) ht e),ih.1 t ht]
    by_cases q:t<j
    ·rw[if_pos q,if_pos (by omega)]
    ·rw[if_neg q,if_neg (by omega)]
  ·rw[wQ (by omega),sT (by rw[dD];exact hb),if_neg (fun q=>hi (by rw[←q,To,Ts (by omega)];exact Uo _)),ih.2 i hi]
def sU (S:List Nat)(o:List UInt8):List Nat:=S.map fun i=>(o.getD i mb).toNat
theorem FS {S:List Nat}(hN:S.Nodup){o:List UInt8}(hA:bM o.length S){j:Nat}(hj:j≤S.length)(hb:∀x∈sU S o,x<255):sU S (db o S j)=Ir (sU S o) j:=by
 have h:=(Dj hN hA j hj).1
 unfold sU Ir at *
 apply Uu
 intro t
 rcases T5 t S.length with q|q
 ·have e:S[t]=S.getD t mb:=by rw[To,Ts q];rfl
  have hx:=hb ((o.getD (S.getD t mb) mb).toNat) (List.mem_map.2 ⟨S[t],Uo q,by rw[e]⟩)
  rw[TN,Ts q,e]
  show some ((db o S j).getD (S.getD t mb) mb).toNat=_
  rw[h t q]
  by_cases z:t<j
  ·rw[if_pos z,TQ Ta,TN,Un,if_pos z,TN,Ts q,e]
   show some _=some ((o.getD (S.getD t mb) mb).toNat+1)
   rw[YV]
   show some ((_+1)%256)=_
   congr 1;omega
  ·rw[if_neg z,TO Ta,TH,TR,TH,UM,show j+(t-min j S.length)=t from by omega,TN,Ts q,e];rfl
 ·rw[TY (by rw[TH];exact q),TY (by rw[Tt,TH,TR,Ul,TH];omega)]
theorem Dk {ws S:List Nat}{m:Nat}(hm:m≤15)(hN:S.Nodup)(hw:ws.length=S.length):∀(k n a:Nat) (o:List UInt8),bM o.length S→KrI ws m k n a (sU S o)→sU S (lnF ws S k n o)=FR ws k n (sU S o)∧∀i,i∉S→(lnF ws S k n o).getD i mb=o.getD i mb
 |0,n,a,o,hA,h=>⟨rfl,fun _ _=>rfl⟩
 |k+1,n,a,o,hA,h=>by
  have hn:=(LnI.next h.i).2.2.1
  rw[hw]at hn
  have hb:∀x∈sU S o,x<255:=fun x hx=>by
   obtain⟨r,hr,hx2⟩:=h.sh
   rw[hr]at hx
   rcases List.mem_append.1 hx with q|q
   ·have:=(List.mem_replicate.1 q).2;omega
   ·have:=hx2 x q;omega
  have e:=FS hN hA hn hb
  have ih:=Dk hm hN hw k _ _ (db o S (n-dS (av ws k) n)) (by rw[dD];exact hA) (by rw[e];exact h.next)
  rw[lnF,FR,←e]
  exact⟨ih.1,fun i hi=>(ih.2 i hi).trans ((Dj hN hA _ hn).2 i hi)⟩
theorem pq (W:List Nat)(hL:W.length≤320)(m:Nat)(hm:1≤m∧m≤15)(hNm:(gk W W.length).length≤2^m):aC (b5 W m) m=0:=by
 have hp:=fD W
 have hA:bM W.length (gD W):=sI.perm hp
 have hlen:=lF W m
 have hl:=hp.length_eq
 have fin:(∀i,i<W.length→((b5 W m).getD i mb).toNat≤m)→(aU (b5 W m)=32768∨bc (b5 W m)=0∨bc (b5 W m)=1∧aU (b5 W m)=16384)→aU (b5 W m)≤32768→aC (b5 W m) m=0:=fun h1 h2 h3=>by
  rw[iI];unfold sa
  rw[hlen,if_neg (by omega),lf (fun i hi=>h1 i (by rw[hlen]at hi;exact hi)),if_neg (by decide),if_neg (by omega),if_pos h2]
 have zero:∀i,W.length≤i∨True→(TK W.length (0:UInt8)).getD i mb=0:=fun i _=>by
  rw[To,UT];split<;>rfl
 rw[nO,Ae]at fin ⊢
 by_cases c0:(gD W).length=0
 ·rw[if_pos c0]at fin ⊢
  have s:=Di (W:=W) (o:=TK W.length 0) T4 (fun i _ _=>zero i (.inr trivial))
  rw[Ua c0]at s
  exact fin (fun i _=>by rw[zero i (.inr trivial)];exact T7 _) (.inr (.inl s.2)) (by rw[s.1];exact T7 _)
 ·rw[if_neg c0]at fin ⊢
  by_cases c1:(gD W).length=1
  ·rw[if_pos c1]at fin ⊢
   obtain⟨i0,h0⟩:∃i0,gD W=[i0]:=List.length_eq_one_iff.1 c1
   rw[h0]at fin hA ⊢
   have hi:i0<W.length:=hA i0 (List.mem_singleton.2 rfl)
   have at':∀j,((TK W.length (0:UInt8)).set i0 (Um 1)).getD j mb=if i0=j then Um 1 else 0:=fun j=>by
    rw[sT (by rw[T4];exact hi),zero j (.inr trivial)]
   have s:=Di (W:=W) (o:=(TK W.length 0).set i0 (Um 1)) (by rw[VG,T4]) (fun i hi2 hz=>by
    rw[at',if_neg (fun q=>by
     have:=(wS (W:=W) (i:=i0)).1 (by rw[h0];exact List.mem_singleton.2 rfl)
     rw[q]at this;omega)])
   rw[h0]at s
   have e1:kn (kf ((TK W.length 0).set i0 (Um 1))) [i0]=16384:=by
    rw[kn,kn,kf,at',if_pos rfl];rfl
   have e2:kn (uf ((TK W.length 0).set i0 (Um 1))) [i0]=1:=by
    rw[kn,kn,uf,at',if_pos rfl];rfl
   rw[e1,e2]at s
   refine fin (fun i _=>?_) (.inr (.inr ⟨s.2,s.1⟩)) (by show aU ((TK W.length 0).set i0 (Um 1))≤_;rw[s.1];decide)
   show(((TK W.length 0).set i0 (Um 1)).getD i mb).toNat≤m
   rw[at'];split
   ·exact hm.1
   ·exact T7 _
  ·rw[if_neg c1]at fin ⊢
   have hw:(sJ W (gD W) (gD W).length).length=(gD W).length:=nM (TD _)
   have hS:=Is W
   have hlast:2*(gD W).length-2≠0:=by omega
   generalize hSS:gD W=S at *
   generalize sJ W S S.length=ws at *
   have hv:sU S (TK W.length 0)=TK S.length 0:=by
    unfold sU
    rw[Wl]
    refine⟨by rw[TH],fun b hb=>?_⟩
    obtain⟨i,_,rfl⟩:=List.mem_map.1 hb
    rw[zero i (.inr trivial)];rfl
   have hI:LnI ws m (2*S.length-2):=by
    have:=LnI.first (ws:=ws) hm.1 (by rw[hw];omega) (by rw[hw];omega)
    rwa [hw]at this
   have hK:KrI ws m m (2*S.length-2) S.length (sU S (TK W.length 0)):=by
    refine⟨hI,TD _,fun q=>by omega,fun q=>?_,⟨[],by rw[hv,UJ,Ue],fun x hx=>by cases hx⟩,?_⟩
    ·have:=(hI.nextk (by omega) (m-1) rfl).2.2
     rwa [hw]at this
    ·rw[hv,lG,WK]
     generalize 2^m=P
     rw[YJ,UU]
     have:1*P≤S.length*P:=Ur _ (by omega)
     omega
   have hA0:bM (TK W.length (0:UInt8)).length S:=by rw[T4];exact hA
   have r:=Dk hm.2 hS hw m _ _ _ hA0 hK
   have q:=KrI.last m _ _ _ hK
   rw[←r.1]at q
   generalize hO:lnF ws S m (2*S.length-2) (TK W.length 0)=O at *
   have hOl:O.length=W.length:=by rw[←hO,sO,T4]
   have hp2:=yO q.1 (by unfold sU;rw[TH];omega)
   have s:=Di (W:=W) (o:=O) hOl (fun i hi hz=>by
    rw[r.2 i (fun hm2=>by rw[←hSS]at hm2;have:=wS.1 hm2;omega),zero i (.inr trivial)])
   rw[hSS]at s
   have e1:∀l:List Nat,(∀i∈l,(O.getD i mb).toNat≠0)→kn (kf O) l=pp 15 (sU l O):=fun l=>by
    induction l with
    |nil=>intro _;rfl
    |cons x l ih=>
     intro h
     have hx:=h x TP
     show kf O x+kn (kf O) l=2^(15-_)+pp 15 (sU l O)
     rw[ih fun i hi=>h i (TU _ hi),kf,if_neg hx]
   have e2:=e1 S fun i hi=>hp2 _ (List.mem_map.2 ⟨i,hi,rfl⟩)
   have e3:=Dg hm.2 (sU S O) q.2.1
   rw[q.1,←Xq,show 15-m+m=15 from by omega]at e3
   have hk:aU O=32768:=by rw[s.1,e2,e3]
   refine fin (fun i hi=>?_) (.inl hk) (XD hk)
   by_cases hi2:i∈S
   ·exact q.2.1 _ (List.mem_map.2 ⟨i,hi2,rfl⟩)
   ·rw[r.2 i hi2,zero i (.inr trivial)];exact T7 _
end Vp
end Go.Proofs.Ytefjnofhgkjpmaa
namespace Go.Proofs.Ytefjnofhgkjpmaa
open Go.RowKit Go.Bw Go.Vx
namespace Vp
def bx (k:Nat)(S:List Nat):List Nat:=lk S ((Uv k).map fun i=>S.count i)
theorem Dl (k:Nat)(S:List Nat):bx k S=(Uv k).map fun i=>S.count i:=aw _ _
theorem fU (k:Nat)(S:List Nat):(bx k S).length=k:=by rw[Dl,TH,U5]
theorem yQ (k:Nat)(S:List Nat)(i:Nat):(bx k S)[i]? =if i<k then some (S.count i)else none:=by
 rw[Dl,TN]
 rcases T5 i k with h|h
 ·rw[UO h,if_pos h];rfl
 ·rw[TY (by simpa using h),if_neg (by omega)];rfl
theorem sV (k:Nat)(S:List Nat)(i:Nat):(bx k S).getD i mb=if i<k then S.count i else 0:=by
 rw[To,yQ];split<;>rfl
theorem gO (k:Nat)(S:List Nat)(i:Nat):(bx k S).getD i mb≤S.length:=by
 rw[sV];split
 ·exact List.count_le_length
 ·exact T7 _
theorem Dm (k:Nat):bx k []=TK k 0:=by
 apply Uu
 intro i
 rw[yQ,UT];rfl
theorem PR {k:Nat}{S:List Nat}{i:Nat}(h:i<k):bx k (S++[i])=(bx k S).set i ((bx k S).getD i mb+1):=by
 apply Uu
 intro j
 rw[U3,fU,yQ,yQ]
 by_cases e:i=j
 ·subst e;rw[if_pos h,if_pos rfl,if_pos h,sV,if_pos h,Yu,X4,beq_self_eq_true];rfl
 ·rw[if_neg e];split
  ·rw[Yu,X4,beq_eq_false_iff_ne.2 (fun q=>e q)];rfl
  ·rfl
theorem Dn {k:Nat}{S:List Nat}{i a b:Nat}{x:Int}(h:i<k)(ha:a=i)(hb:b=i)(hx:x=(((bx k S).getD b mb:Nat):Int)+1):aj ((bx k S).map nD) a [D.v (.int .i64 x)]=(bx k (S++[i])).map nD:=by
 subst ha hb hx;rw[PR h];exact KW (by rw[fU];exact h)
def DF (T1:List Sy)(t:Tn):Nat:=if t.long=0 then t.lit.toNat else 257+ao T1 t.long
def It (T2:List Sy)(t:Tn):List Nat:=if t.long=0 then[]else[ao T2 t.dist]
def dH (T1:List Sy)(l:List Tn)(i:Nat):List Nat:=lk l ((l.take i).map (DF T1))
def fX (T2:List Sy)(l:List Tn)(i:Nat):List Nat:=lk l ((l.take i).flatMap (It T2))
section
variable {T1 T2:List Sy} {l:List Tn} {i:Nat}
theorem qS:dH T1 l i=(l.take i).map (DF T1):=aw _ _
theorem vm:fX T2 l i=(l.take i).flatMap (It T2):=aw _ _
theorem Sg:dH T1 l 0=[]:=qS
theorem PS:fX T2 l 0=[]:=vm
theorem sX:(dH T1 l i).length≤i:=by rw[qS,TH,TR];omega
theorem Lc (h:i<l.length):fX T2 l (i+1)=fX T2 l i++It T2 (l.getD i mb):=by
 have e1:l.take (i+1)=l.take i++[l.getD i mb]:=by
  rw[T8 h,To,Ts h];rfl
 rw[vm,vm,e1,UV,VE]
theorem PT (h:i<l.length):dH T1 l (i+1)=dH T1 l i++[DF T1 (l.getD i mb)]:=by
 have e1:l.take (i+1)=l.take i++[l.getD i mb]:=by
  rw[T8 h,To,Ts h];rfl
 rw[qS,qS,e1,Uq];rfl
theorem wT:∀i,i≤l.length→(fX T2 l i).length≤i
 |0,_=>by rw[PS];exact TD _
 |i+1,h=>by
  rw[Lc (by omega),Tt]
  have:=wT i (by omega)
  unfold It;split<;>simp <;>omega
theorem Iu (h:i<l.length)(h0:(l.getD i mb).long=0):dH T1 l (i+1)=dH T1 l i++[(l.getD i mb).lit.toNat]∧fX T2 l (i+1)=fX T2 l i:=by
 rw[PT h,Lc h,DF,It,if_pos h0,if_pos h0,Ue];exact⟨rfl,rfl⟩
theorem Iv (h:i<l.length)(h0:(l.getD i mb).long≠0):dH T1 l (i+1)=dH T1 l i++[257+ao T1 (l.getD i mb).long]∧fX T2 l (i+1)=fX T2 l i++[ao T2 (l.getD i mb).dist]:=by
 rw[PT h,Lc h,DF,It,if_neg h0,if_neg h0];exact⟨rfl,rfl⟩
end
theorem Do:∀(l:List UInt8) (n:Nat),(∀i,n≤i→(l.getD i mb).toNat=0)→aU (l.take n)=aU l∧bc (l.take n)=bc l
 |[],n,_=>by rw[List.take_nil];exact⟨rfl,rfl⟩
 |x::r,0,h=>by
  have ih:=Do r 0 fun i _=>h (i+1) (T7 _)
  have h0:x.toNat=0:=h 0 (TD _)
  rw[XT]at ih ⊢
  rw[aU,aU,bc,bc,if_pos h0,if_pos h0,←ih.1,←ih.2];exact⟨rfl,rfl⟩
 |x::r,n+1,h=>by
  have ih:=Do r n fun i hi=>h (i+1) (Vy hi)
  rw[X8,aU,aU,bc,bc,ih.1,ih.2];exact⟨rfl,rfl⟩
theorem yR {l:List UInt8}{m:Nat}:∀n,∀i,yw l m n≤i→i<n→l.getD i mb=0
 |0,i,_,h=>absurd h (UR _)
 |n+1,i,h,h2=>by
  rw[yw]at h
  split at h
  ·next q=>
   rcases T5 i n with r|r
   ·exact yR n i h r
   ·rw[show i=n from by omega];exact q.2
  ·omega
theorem jX {l:List UInt8}{i:Nat}(h:l.length≤i):l.getD i mb=0:=by
 rw[To,TY h];rfl
def vn (l:List UInt8)(m:Nat):List UInt8:=lk l (l.take (jx l m))
theorem mF (l:List UInt8)(m:Nat):vn l m=l.take (jx l m):=aw _ _
theorem nP (l:List UInt8)(m:Nat):(vn l m).length=jx l m:=by
 rw[mF,TR];have:=(mw l m).1;omega
theorem pt (l:List UInt8)(m i:Nat):(vn l m).getD i mb=l.getD i mb:=by
 rw[mF,To,Un]
 split
 ·rw[To]
 ·rcases T5 i l.length with q|q
  ·rw[yR (m:=m) l.length i (by rw[←pb];omega) q];rfl
  ·rw[jX q];rfl
theorem yS {l:List UInt8}{m q:Nat}(h:aC l m=0):aC (vn l q) m=0:=by
 have h0:=dw h
 have hk:=Do l (jx l q) (fun i hi=>by
  rcases T5 i l.length with r|r
  ·rw[yR (m:=q) l.length i (by rw[←pb];exact hi) r];rfl
  ·rw[jX r];rfl)
 have hl:(vn l q).length≤320:=by rw[nP];have:=(mw l q).1;omega
 have ho:dh (vn l q) m=false:=lf fun i hi=>by
  rw[pt]
  exact dN h0.2.1 (by rw[nP]at hi;have:=(mw l q).1;omega)
 rw[iI]at h ⊢
 unfold sa at h ⊢
 rw[if_neg (by omega),h0.2.1]at h
 rw[if_neg (by omega),ho,show aU (vn l q)=aU l from by rw[mF];exact hk.1,show bc (vn l q)=bc l from by rw[mF];exact hk.2]
 exact h
def gi {α:Type}(H:List Nm)(g:α→List Nm)(l:List α)(i:Nat):List Nm:=lk l (H++(l.take i).flatMap g)
section
variable {α:Type} {H:List Nm} {g:α→List Nm} {l:List α} {i:Nat}
theorem kH:gi H g l i=H++(l.take i).flatMap g:=aw _ _
theorem vo:gi H g l 0=H:=by rw[kH];exact Ue _
theorem vp [Inhabited α](h:i<l.length):gi H g l (i+1)=gi H g l i++g (l.getD i mb):=by
 have e1:l.take (i+1)=l.take i++[l.getD i mb]:=by
  rw[T8 h,To,Ts h];rfl
 rw[kH,kH,e1,UV,←TG,VE]
theorem lI [Inhabited α]{c:Nat}(hc:∀x,(g x).length=c):∀i,i≤l.length→(gi H g l i).length=H.length+c*i
 |0,_=>by rw[vo];rfl
 |i+1,h=>by
  rw[vp (by omega),Tt,lI hc i (by omega),hc,V2,TZ,UF]
end
def jD (x:UInt8):List Nm:=[⟨x.toNat,3⟩]
def lJ (C:List (Nat×Nat))(r:Rn):List Nm:=fW C r.s (rb r.s) r.x
def pu:List Nat:=[16,17,18,0,8,7,9,6,10,5,11,4,12,3,13,2,14,1,15]
theorem PU:∀i,i<19→pu.getD i mb<19:=by decide
def kL (C:List UInt8)(i:Nat):List UInt8:=lk C ((pu.take i).map fun s=>C.getD s mb)
theorem mG (C:List UInt8)(i:Nat):kL C i=(pu.take i).map fun s=>C.getD s mb:=aw _ _
theorem PV (C:List UInt8):kL C 0=[]:=mG C 0
theorem yT (C:List UInt8){i:Nat}(h:i≤19):(kL C i).length=i:=by
 rw[mG,TH,TR,show pu.length=19 from rfl];omega
theorem PW (C:List UInt8){i:Nat}(h:i<19):kL C (i+1)=kL C i++[C.getD (pu.getD i mb) mb]:=by
 have e1:pu.take (i+1)=pu.take i++[pu.getD i mb]:=by
  rw[T8 (show i<pu.length from h),To,Ts (show i<pu.length from h)];rfl
 rw[mG,mG,e1,Uq];rfl
theorem Si (i:Nat)(h:i<19):(pu.map nD)[i]? =some (nD (pu.getD i mb)):=by
 rw[TN,Ts (show i<pu.length from h),To,Ts (show i<pu.length from h)];rfl
theorem pv {l:List UInt8}(ho:∀i,(l.getD i mb).toNat≤15):∀(f a:Nat),∀r∈j6 l f a,r.s≤18∧r.x<2^rb r.s
 |0,_=>fun r hr=>absurd hr Wv
 |f+1,a=>by
  rw[j6]
  split
  ·exact fun r hr=>absurd hr Wv
  ·split
   ·intro r hr
    rcases List.mem_cons.1 hr with e|e
    ·subst e;refine⟨TD _,?_⟩;show min (cE l a) 138-11<2^7;omega
    ·exact pv ho f _ r e
   ·split
    ·intro r hr
     rcases List.mem_cons.1 hr with e|e
     ·subst e;refine⟨Nat.le_succ _,?_⟩;show cE l a-3<2^3;omega
     ·exact pv ho f _ r e
    ·split
     ·intro r hr
      rcases List.mem_cons.1 hr with e|e
      ·subst e;refine⟨show(16:Nat)≤18 from by decide,?_⟩;show min (cE l a) 6-3<2^2;omega
      ·exact pv ho f _ r e
     ·intro r hr
      rcases List.mem_cons.1 hr with e|e
      ·subst e
       have h1:=ho a
       refine⟨T6 h1 (by decide),?_⟩
       show 0<2^rb _
       exact UY _
      ·exact pv ho f _ r e
theorem Ld {l:List UInt8}(ho:∀i,(l.getD i mb).toNat≤15)(i:Nat):((yk l).getD i mb).s≤18∧((yk l).getD i mb).x<2^rb ((yk l).getD i mb).s:=by
 rw[To]
 rcases T5 i (yk l).length with h|h
 ·rw[Ts h]
  have hm:(yk l)[i]∈j6 l l.length 0:=by rw[←sg];exact Uo h
  exact pv ho _ _ _ hm
 ·rw[TY h];exact⟨T7 _,by decide⟩
theorem FT (l:List UInt8):(yk l).length≤l.length:=by rw[sg];exact lg _ _ _
theorem Dp (l:List UInt8)(j:Nat)(ho:dh l 15=false):(ae l).getD j mb=if j<l.length∧(l.getD j mb).toNat≠0 then(kC l j,(l.getD j mb).toNat)else(0,0):=by
 rw[←HR ho,pa,To,TN]
 rcases T5 j l.length with h|h
 ·rw[UO h];exact rfl
 ·rw[TY (by simpa using h),if_neg (by omega)];rfl
theorem Dq {l:List UInt8}{s:Nat}(h:s<l.length):(co l (l.getD s mb).toNat s).length<(co l (l.getD s mb).toNat l.length).length:=by
 obtain⟨r,hr⟩:=lm l (l.getD s mb).toNat (s+1) (l.length-(s+1))
 rw[show s+1+(l.length-(s+1))=l.length from by omega,dO,if_pos rfl]at hr
 rw[hr,Tt,Tt,Ud];omega
theorem dW {l:List UInt8}(h:aC l 15=0):pc (ae l):=fun s=>by
 have h0:=dw h
 rw[Dp l s h0.2.1]
 split
 ·next q=>
  have h1:=dN h0.2.1 q.1
  refine⟨h1,?_⟩
  have h2:=HS h h1
  have h3:=yu rfl q.2 h1
  have h4:=Dq q.1
  show kC l s<2^(l.getD s mb).toNat
  rw[gf]at h2
  unfold pG at h2
  rw[if_neg q.2]at h2
  omega
 ·exact⟨T7 _,by decide⟩
theorem jE (W:List Nat)(hL:W.length≤320)(m:Nat)(hm:1≤m∧m≤15)(hNm:(gk W W.length).length≤2^m){i:Nat}(hi0:0<W.getD i mb):((b5 W m).getD i mb).toNat≠0:=by
 have hp:=fD W
 have hA:bM W.length (gD W):=sI.perm hp
 have hl:=hp.length_eq
 have hiW:i<W.length:=by
  rcases T5 i W.length with q|q
  ·exact q
  ·rw[To,TY q]at hi0;exact absurd hi0 (V1 0)
 have hiS:i∈gD W:=wS.2 ⟨hiW,hi0⟩
 have zero:∀i,(TK W.length (0:UInt8)).getD i mb=0:=fun i=>by
  rw[To,UT];split<;>rfl
 rw[nO,Ae]
 by_cases c0:(gD W).length=0
 ·rw[Ua c0]at hiS;exact absurd hiS Wv
 ·rw[if_neg c0]
  by_cases c1:(gD W).length=1
  ·rw[if_pos c1]
   obtain⟨i0,h0⟩:∃i0,gD W=[i0]:=List.length_eq_one_iff.1 c1
   rw[h0]at hiS ⊢
   have e:i=i0:=List.mem_singleton.1 hiS
   subst e
   show(((TK W.length (0:UInt8)).set i (Um 1)).getD i mb).toNat≠0
   rw[sT (by rw[T4];exact hiW),if_pos rfl];decide
  ·rw[if_neg c1]
   have hw:(sJ W (gD W) (gD W).length).length=(gD W).length:=nM (TD _)
   have hS:=Is W
   generalize hSS:gD W=S at *
   generalize sJ W S S.length=ws at *
   have hv:sU S (TK W.length 0)=TK S.length 0:=by
    unfold sU
    rw[Wl]
    refine⟨by rw[TH],fun b hb=>?_⟩
    obtain⟨i,_,rfl⟩:=List.mem_map.1 hb
    rw[zero i];rfl
   have hI:LnI ws m (2*S.length-2):=by
    have:=LnI.first (ws:=ws) hm.1 (by rw[hw];omega) (by rw[hw];omega)
    rwa [hw]at this
   have hK:KrI ws m m (2*S.length-2) S.length (sU S (TK W.length 0)):=by
    refine⟨hI,TD _,fun q=>by omega,fun q=>?_,⟨[],by rw[hv,UJ,Ue],fun x hx=>by cases hx⟩,?_⟩
    ·have:=(hI.nextk (by omega) (m-1) rfl).2.2
     rwa [hw]at this
    ·rw[hv,lG,WK]
     generalize 2^m=P
     rw[YJ,UU]
     have:1*P≤S.length*P:=Ur _ (by omega)
     omega
   have hA0:bM (TK W.length (0:UInt8)).length S:=by rw[T4];exact hA
   have r:=Dk hm.2 hS hw m _ _ _ hA0 hK
   have q:=KrI.last m _ _ _ hK
   rw[←r.1]at q
   have hp2:=yO q.1 (by unfold sU;rw[TH];omega)
   exact hp2 _ (List.mem_map.2 ⟨i,hiS,rfl⟩)
theorem Dr {l:List UInt8}{m s:Nat}(h:(l.getD s mb).toNat≠0):s<jx l m:=by
 rcases T5 s (jx l m)with q|q
 ·exact q
 ·exfalso
  rcases T5 s l.length with r|r
  ·rw[yR (m:=m) l.length s (by rw[←pb];exact q) r]at h;exact h rfl
  ·rw[jX r]at h;exact h rfl
theorem yU {k:Nat}{S:List Nat}{s:Nat}(h:s<k)(hm:s∈S):0<(bx k S).getD s mb:=by
 rw[sV,if_pos h];exact List.count_pos_iff.2 hm
theorem Ds {T1:List Sy}{l:List Tn}{i k:Nat}(hk:k=l.length)(h:i<k):DF T1 (l.getD i mb)∈dH T1 l k:=by
 rw[qS,hk,T9 (TD _),To,Ts (by omega)]
 exact W8 (Uo _)
theorem Lf {T2:List Sy}{l:List Tn}{i k:Nat}(hk:k=l.length)(h:i<k)(h0:(l.getD i mb).long≠0):ao T2 (l.getD i mb).dist∈fX T2 l k:=by
 rw[vm,hk,T9 (TD _)]
 have hi:i<l.length:=by omega
 rw[To,Ts hi]at h0 ⊢
 refine List.mem_flatMap.2 ⟨l[i],Uo hi,?_⟩
 unfold It
 rw[if_neg (show¬l[i].long=0 from h0)];exact List.mem_singleton.2 rfl
theorem nQ (k:Nat)(S:List Nat)(i:Nat){a b:Nat}(h:i<k)(ha:a=i)(hb:b=i):aj ((bx k S).map nD) a [D.v (.int .i64 ((((bx k S).getD b mb:Nat):Int)+1))]=(bx k (S++[i])).map nD:=Dn h ha hb rfl
theorem lK (k:Nat)(S:List Nat)(i:Nat){o:Nat}(h:i<k)(ho:o=i):((bx k S).map nD)[o]? =some (nD ((bx k S).getD i mb)):=by
 subst ho
 rw[TN,To,Ts (by rw[fU];exact h)];rfl
theorem PX (k:Nat)(S:List Nat)(i:Nat)(W:List Nat)(hW:bx k (S++[i])=W){a b:Nat}(h:i<k)(ha:a=i)(hb:b=i):aj ((bx k S).map nD) a [D.v (.int .i64 ((((bx k S).getD b mb:Nat):Int)+1))]=W.map nD:=by rw[←hW];exact Dn h ha hb rfl
def Iw (C:List UInt8)(i:Nat):Nat:=lk C (pu.getD i mb)
theorem wU (C:List UInt8)(i:Nat):Iw C i=pu.getD i mb:=aw _ _
theorem Dt (C:List UInt8)(i:Nat)(h:i<19):Iw C i<19:=by rw[wU];exact PU i h
theorem PY (C:List UInt8)(i:Nat)(h:i<19):(pu.map nD)[i]? =some (nD (Iw C i)):=by rw[wU];exact Si i h
theorem FU {l:List UInt8}{n i:Nat}(h:i<n):(l.take n).getD i mb=l.getD i mb:=by
 rw[To,Un,if_pos h,←To]
theorem PZ {e n1 n2 n3:Nat}{x y z:Int}(hx:x=((n1-257:Nat):Int))(hy:y=((n2-1:Nat):Int))(hz:z=((n3-4:Nat):Int)):[D.v (.int .u32 (e:Int)),D.v (.int .i64 1),D.v (.int .u32 2),D.v (.int .i64 2),D.v (.int .u32 x),D.v (.int .i64 5),D.v (.int .u32 y),D.v (.int .i64 5),D.v (.int .u32 z),D.v (.int .i64 4)]=(jW e 2++([⟨n1-257,5⟩,⟨n2-1,5⟩,⟨n3-4,4⟩]:List Nm)).flatMap bh:=by
 subst hx hy hz;rfl

end Vp
end Go.Proofs.Ytefjnofhgkjpmaa
namespace Go.Proofs.Ytefjnofhgkjpmaa
open Go.RowKit Go.Bw Go.Vx
open List (length getD map take drop flatMap replicate)
namespace Vt
theorem wV {p:Prop}(h:p:=by(refine GP ?_;rw[XH,mayT_iff,Sj];simp;omega)):p:=h
abbrev iD (i:Int):D:=.v (.int .i64 i)
abbrev dT:D:=.v (.slice none 0 0)
structure Tok where
 lit:UInt8
 dist:Int
 long:Int
 deriving Inhabited
abbrev tokD (t:Tok):List D:=[dB t.lit,iD t.dist,iD t.long]
def mayT (t:Tok):Bool:=if t.long=0 then decide (t.dist=0)else decide (t.lit=0)&&decide (3≤t.long)&&decide (t.long≤258)&&decide (1≤t.dist)&&decide (t.dist≤32768)
theorem mayT_iff (t:Tok):mayT t=true↔(t.long=0∧t.dist=0)∨(t.long≠0∧t.lit=0∧3≤t.long∧t.long≤258∧1≤t.dist∧t.dist≤32768):=by
 unfold mayT;split<;>simp_all [and_assoc]
theorem Sj (b:UInt8):b=0↔(b.toNat:Int)=0:=by
 rw[←UInt8.toNat_inj];simp
theorem may_t (t:Tok):S0 72 [.agg (tokD t)] [] (.v (.bool (mayT t))) []:=by
 refine SpecH.run T_ok ai Try.func72 rfl rfl rfl trivial rfl 1000 64 (fun R ok=>(.s 22 (.br (!decide (0<Tok.long t)) (fun p0=>have p0f:=wy (eZ p0);(.s 10 (.br (Tok.long t==0) (fun p1=>have p1f:=eq_of_beq p1;(.s 11 (.out [] [] (D.v (.bool (Tok.dist t==0))) [] R (ok _ _ wV wr)))) (fun p1=>have p1f:=am p1;(.s 6 (.out [] [] (D.v (.bool false)) [] R (ok _ _ wV wr))))))) (fun p0=>have p0f:=wx (e9 p0);(.s 10 (.br ((↑(Tp (Tok.lit t)):Int)==0) (fun p2=>have p2f:=eq_of_beq p2;(.s 12 (.bd (3≤Tok.long t) (fun p3 p3f=>(.s 12 (.bd (Tok.long t≤258) (fun p4 p4f=>(.s 12 (.bd (1≤Tok.dist t) (fun p5 p5f=>(.s 11 (.out [] [] (D.v (.bool (decide (Tok.dist t≤32768)))) [] R (ok _ _ wV wr)))) (fun p5 p5f=>(.s 6 (.out [] [] (D.v (.bool false)) [] R (ok _ _ wV wr))))))) (fun p4 p4f=>(.s 14 (.out [] [] (D.v (.bool false)) [] R (ok _ _ wV wr))))))) (fun p3 p3f=>(.s 22 (.out [] [] (D.v (.bool false)) [] R (ok _ _ wV wr))))))) (fun p2=>have p2f:=am p2;(.s 30 (.out [] [] (D.v (.bool false)) [] R (ok _ _ wV wr)))))))))) kr
def errT (t:Tok):Int:=if mayT t then 0 else 8
theorem check_t (t:Tok):S0 45 [.agg (tokD t)] [] (iD (errT t)) []:=by
 refine SpecH.run T_ok ai Try.func45 rfl rfl rfl trivial rfl 1000 64 (fun R ok=>(.s 8 (.call 72 false [] (true) wr ([UA [aQ (Tp (Tok.lit t)),zI (Tok.dist t),zI (Tok.long t)]]) _ (by exact(qr trivial)) (true) wr _ _ _ (TW (az.of Try.func72 rfl rfl) (@Go.Proofs.Ytefjnofhgkjpmaa.Vt.may_t (t))) (.s 1 (.br (!mayT t) (fun p0=>have p0f:=(eZ p0);(.s 1 (.out [] [] (zI 8) [] R (ok _ _ (by(unfold errT;simp_all)) wr)))) (fun p0=>have p0f:=(e9 p0);(.s 1 (.out [] [] (zI 0) [] R (ok _ _ (by(unfold errT;simp_all)) wr))))))))) kr
end Vt
end Go.Proofs.Ytefjnofhgkjpmaa
namespace Go.Proofs.Ytefjnofhgkjpmaa
open Go.RowKit Go.Bw Go.Vx
open List (length getD map take drop flatMap replicate)
namespace Vm
theorem pw {p:Prop}(h:p:=by(refine aT ?_;(omega))):p:=h
theorem Ag {p:Prop}(h:p:=by((refine aJ ?_ ?_)<;>(repeat' (first|(refine aJ ?_ ?_)|(with_reducible rfl)|(refine decide_eq_true ?_)|(refine Tv ?_)|(refine fx ?_)))<;>(omega))):p:=h
theorem Ah {p:Prop}(h:p:=by(exact iG _ (by decide) (by decide))):p:=h
theorem FV {p:Prop}(h:p:=by(refine yW hh ?_ ?_ ?_<;>(omega))):p:=h
theorem FW {p:Prop}(h:p:=by show j-1<j;clear next1 last1;omega):p:=h
abbrev iD (i:Int):D:=.v (.int .i64 i)
abbrev dT:D:=.v (.slice none 0 0)
theorem Sk (x:Int):TM .u32 x=x%4294967296:=rfl
abbrev bI (l:List UInt8)(i:Nat):Int:=((l.getD i mb).toNat:Int)
def cQ (l:List UInt8)(i:Nat):Int:=((bI l (i+2)*16777619+bI l (i+1))*16777619+bI l i)%4294967296
abbrev Lg:Int:=1055306571
theorem qT (l:List UInt8)(i:Nat):0≤bI l i∧bI l i<256:=by
 have h:=(l.getD i mb).toNat_lt
 unfold bI
 constructor<;>omega
def hR (p:List UInt8):Nat→Int
 |0=>0
 |k+1=>((((hR p k*16777619)%4294967296)+bI p (2-k))%4294967296)
theorem FX {p:List UInt8}{k j:Nat}{h:Int}(hh:h=hR p k)(hj:j=2-k):((((h*16777619)%4294967296)+bI p j)%4294967296)=hR p (k+1):=by rw[hh,hj,hR]
theorem Sl (p:List UInt8):hR p 3=cQ p 0:=by
 have h0:=qT p 0;have h1:=qT p 1;have h2:=qT p 2
 simp only[hR,Sk,cQ,show 2-0=2 from rfl,show 2-1=1 from rfl,show 2-2=0 from rfl,show 0+2=2 from rfl,show 0+1=1 from rfl]
 omega
theorem hash (p:List UInt8)(hp:p.length=3)(H:Int)(hH:H=cQ p 0):S0 136 [.sl false 3 1 (p.map dB)] [] (.tup [.v (.int .u32 H),.v (.int .u32 Lg)]) []:=by
 refine SpecH.run T_ok ai Try.func136 rfl rfl rfl trivial rfl 1000 64 (fun R ok=>(.s 9 (Hn.inl T_ok ai false 41 0 (ap Try.prog 136 0) (fun(x:(k:Nat)×'(hk:k≤3)×'(h:Int)×'(hh:h=hR p k)×'Unit)=>match x with|⟨k,hk,h,hh,_⟩=>TJ [(0,TL false 3 1 (map dB p)),(4,.v (.int .u32 h)),(5,iD (2-(k:Int)))] [] 0) (fun(x:(k:Nat)×'(hk:k≤3)×'(h:Int)×'(hh:h=hR p k)×'Unit)=>match x with|⟨k,hk,h,hh,_⟩=>3-k) [⟨Unit,.exit 0,fun x=>match x with|()=>TJ [(0,TL false 3 1 (map dB p)),(4,.v (.int .u32 H))] [] 0⟩] 1000 64 (fun|⟨k,hk,h,hh,_⟩,Q,next1,last1=>(.s 3 (.bd (0≤2-(k:Int)) (fun p0 p0f=>(.s 3 (.opt (ar .u32 (h*16777619)) (uI (h*16777619%4294967296)) (aL _ _) (.s 3 (.chk (decide (0≤2-(k:Int))&&decide (2-(k:Int)<(↑3:Int))&&true) Ag (.s 2 (.opt ((map dB p)[zK (2-(k:Int))*1]?) (dB (getD p (zK (2-(k:Int))*1) mb)) (aq _ _ om) (.s 1 (.opt (ar .u32 (↑(Tp (getD p (zK (2-(k:Int))*1) mb)):Int)) (ak (Tp (getD p (zK (2-(k:Int))*1) mb))) (aE Ah) (.s 2 (.opt (ar .u32 (h*16777619%4294967296+(↑(Tp (getD p (zK (2-(k:Int))*1) mb)):Int))) (uI ((h*16777619%4294967296+(↑(Tp (getD p (zK (2-(k:Int))*1) mb)):Int))%4294967296)) (aL _ _) (.s 4 (.ow (2-(k:Int)-1) (.s 1 (.val 4 (uI ((h*16777619%4294967296+(↑(Tp (getD p (zK (2-(k:Int))*1) mb)):Int))%4294967296)) (uI ((h*16777619%4294967296+bI p (2-k))%4294967296)) (by(refine aT (congrArg (fun z=>((((h*16777619)%4294967296)+bI p z)%4294967296)) ?_);(omega))) (.val 5 (zI (2-(k:Int)-1)) (zI (2-(↑(k+1):Int))) pw (Hn.next next1 ⟨(k+1),om,(((((h*16777619)%4294967296)+bI p (2-k))%4294967296)),(by(refine FX hh ?_;(omega))),⟨⟩⟩ (by show 3-(k+1)<3-k;clear next1 last1;omega) [] ro))))))))))))))))) (fun p0 p0f=>(.val 4 (uI h) (uI H) (by(refine aT ?_;rw[hh,hH,show k=3 from by(omega),Sl])) (Hn.last last1 0 (():Unit) rfl [] ro)))))) (fun|⟨k,hk,h,hh,_⟩=>by kernel_rfl) ⟨(0),om,(0),(by exact rfl),⟨⟩⟩ [] ro (bY (fun|()=>(.s 70 (.out [] [] (Uw [uI H,uI 1055306571]) [] R (ok _ _ wr wr)))))))) kr
def bj (s p:List UInt8):Nat→Int
 |0=>-1
 |k+1=>if(s.drop k).take 3=p then(k:Int)else bj s p k
theorem Du {s p:List UInt8}{i:Nat}(h:(s.drop i).take 3=p)(hi:i+3≤s.length):cQ s i=cQ p 0:=by
 have e:∀j,j<3→bI p j=bI s (i+j):=fun j hj=>by
  unfold bI
  rw[←h]
  simp only[To,Un,UM,hj,if_true]
 unfold cQ
 rw[e 0 (by decide),e 1 (by decide),e 2 (by decide)]
 rfl
theorem Sm (s:List UInt8)(i:Nat):((((((cQ s (i+1)*16777619)%4294967296)+bI s i)%4294967296)-((Lg*bI s (i+3))%4294967296))%4294967296)=cQ s i:=by
 simp only[Lg,Sk,cQ,show i+1+2=i+3 from rfl,show i+1+1=i+2 from rfl]
 omega
def hW (s:List UInt8)(i:Nat):Nat→Int
 |0=>0
 |k+1=>((((hW s i k*16777619)%4294967296)+bI s (i+(2-k)))%4294967296)
theorem FY {s:List UInt8}{i k j:Nat}{h:Int}(hh:h=hW s i k)(hj:j=i+(2-k)):((((h*16777619)%4294967296)+bI s j)%4294967296)=hW s i (k+1):=by rw[hh,hj,hW]
theorem Sn (s:List UInt8)(i:Nat):hW s i 3=cQ s i:=by
 have h0:=qT s i;have h1:=qT s (i+1);have h2:=qT s (i+2)
 simp only[hW,Sk,cQ,show 2-0=2 from rfl,show 2-1=1 from rfl,show 2-2=0 from rfl,VD]
 omega
theorem vq {s p:List UInt8}{k m:Nat}(hm:m=k+1)(h:(s.drop k).take 3=p):bj s p m=k:=by rw[hm,bj,if_pos h]
theorem mH {s p:List UInt8}{k m:Nat}(hm:m=k+1)(h:(s.drop k).take 3≠p):bj s p m=bj s p k:=by rw[hm,bj,if_neg h]
theorem qU {s p:List UInt8}{k m:Nat}{h H:Int}(hm:m=k+1)(hl:m+2≤s.length)(hh:h=cQ s k)(hH:H=cQ p 0)(hne:h≠H):bj s p m=bj s p k:=
 mH hm fun e=>hne (by rw[hh,hH];exact Du e (by omega))
theorem P0 {l p:List UInt8}(e:(UL {data:=l.toArray}==UL {data:=p.toArray})=true):l=p:=by rw[hD,hD]at e;exact eq_of_beq e
theorem P1 {l p:List UInt8}(e:(UL {data:=l.toArray}==UL {data:=p.toArray})=false):l≠p:=by rw[hD,hD]at e;exact am e
theorem yV {s:List UInt8}{n j:Nat}(hn:n=s.length)(h3:3≤n)(hj:j=n-3):s.drop j=(s.drop (n-3)).take 3:=by
 rw[hj,T9 (by rw[Ul];omega)]
theorem qV {s p:List UInt8}{a:Int}{j:Nat}(hl:a=bj s p j)(hj:j=0):a= -1:=by rw[hl,hj];rfl
theorem yW {s:List UInt8}{j a b:Nat}{h:Int}(hh:h=cQ s j)(hj:0<j)(ha:a=j-1)(hb:b=j+2):((((((h*16777619)%4294967296)+((s.getD a mb).toNat:Int))%4294967296)-((1055306571*((s.getD b mb).toNat:Int))%4294967296))%4294967296)=cQ s (j-1):=by
 have e1:cQ s j=cQ s (a+1):=congrArg (cQ s) (by omega)
 have e2:b=a+3:=by omega
 have e3:=Sm s a
 rw[hh,e1,e2,←ha]
 exact e3
theorem Dv {s:List UInt8}{j:Nat}(hj:0<j):UP (((j:Int)-1+3).toNat-((j:Int)-1).toNat) (UQ ((j:Int)-1).toNat s)=(s.drop (j-1)).take 3:=by
 rw[show((j:Int)-1+3).toNat-((j:Int)-1).toNat=3 from by omega,show((j:Int)-1).toNat=j-1 from by omega]
theorem yX {s p:List UInt8}{j:Nat}{a:Int}(hl:a=bj s p j)(hj:0<j)(e:(UL {data:=(UP (((j:Int)-1+3).toNat-((j:Int)-1).toNat) (UQ ((j:Int)-1).toNat s)).toArray}==UL {data:=p.toArray})=false):a=bj s p (j-1):=by
 rw[hl]
 refine mH (by omega) ?_
 rw[←Dv hj]
 exact P1 e
theorem Dw {s p:List UInt8}{j:Nat}{a:Int}(hl:a=bj s p j)(hj:0<j)(e:(UL {data:=(UP (((j:Int)-1+3).toNat-((j:Int)-1).toNat) (UQ ((j:Int)-1).toNat s)).toArray}==UL {data:=p.toArray})=true):(j:Int)-1=a:=by
 rw[hl,vq (k:=j-1) (by omega) (by rw[←Dv hj];exact P0 e)]
 omega
theorem yY {s p:List UInt8}{j:Nat}{a h H:Int}(hl:a=bj s p j)(hj:0<j)(hb:j+2≤s.length)(hh:h=cQ s j)(hH:H=cQ p 0)(e:(((((((h*16777619)%4294967296)+((s.getD (((j:Int)-1).toNat*1) mb).toNat:Int))%4294967296)-((1055306571*((s.getD (((j:Int)-1+3).toNat*1) mb).toNat:Int))%4294967296))%4294967296)==H)=false):a=bj s p (j-1):=
 hl.trans (qU (by omega) hb (yW hh hj (by omega) (by omega)) hH (am e))
theorem FZ {s p:List UInt8}{n:Nat}(hn:n=s.length)(h3:3≤n)(e:(UL {data:=(UQ ((n:Int)-3).toNat s).toArray}==UL {data:=p.toArray})=true):(n:Int)-3=bj s p (n-2):=by
 rw[vq (k:=n-3) (by omega) (by rw[←yV hn h3 rfl,←P0 e];exact congrArg (UQ · s) (by omega))]
 omega
theorem rk (s p:List UInt8)(n:Nat)(hn:n=s.length)(hp:p.length=3)(h3:4≤n)(h4:n≤1000000)(H:Int)(hH:H=cQ p 0):S0 134 [.sl false n 1 (s.map dB),.sl false 3 1 (p.map dB)] [] (iD (bj s p (n-2))) []:=by
 refine SpecH.run T_ok ai Try.func134 rfl rfl rfl trivial rfl 1000 64 (fun R ok=>(.s 3 (.cl 136 false [] (.fn Re (@Go.Proofs.Ytefjnofhgkjpmaa.Vm.hash (p) om (H) aD)) (.s 15 (.ow ((n:Int)-3) (.s 6 (.ow ((n:Int)-1) (.s 1 (.val 10 (zI ((n:Int)-1)) (zI ((n:Int)-1-0)) pw (Hn.inl T_ok ai false 94 0 (ap Try.prog 134 0) (fun(x:(k:Nat)×'(hk:k≤3)×'(h:Int)×'(hh:h=hW s (n-3) k)×'Unit)=>match x with|⟨k,hk,h,hh,_⟩=>TJ [(0,TL false n 1 (map dB s)),(1,TL false 3 1 (map dB p)),(5,uI H),(6,uI 1055306571),(7,zI 3),(8,zI ((n:Int)-3)),(9,.v (.int .u32 h)),(10,iD ((n:Int)-1-k))] [] 0) (fun(x:(k:Nat)×'(hk:k≤3)×'(h:Int)×'(hh:h=hW s (n-3) k)×'Unit)=>match x with|⟨k,hk,h,hh,_⟩=>3-k) [⟨(h2:Int)×'(hh2:h2=cQ s (n-3))×'Unit,.exit 0,fun x=>match x with|⟨h2,hh2,_⟩=>TJ [(0,TL false n 1 (map dB s)),(1,TL false 3 1 (map dB p)),(5,uI H),(6,uI 1055306571),(7,zI 3),(8,zI ((n:Int)-3)),(9,.v (.int .u32 h2))] [] 0⟩] 1000 64 (fun|⟨k,hk,h,hh,_⟩,Q,next1,last1=>(.s 4 (.bd ((n:Int)-3≤n-1-k) (fun p0 p0f=>(.s 3 (.opt (ar .u32 (h*16777619)) (uI (h*16777619%4294967296)) (aL _ _) (.s 3 (.chk (decide (0≤(n:Int)-1-k)&&decide ((n:Int)-1-k<n)&&true) Ag (.s 2 (.opt ((map dB s)[zK ((n:Int)-1-k)*1]?) (dB (getD s (zK ((n:Int)-1-k)*1) mb)) (aq _ _ om) (.s 1 (.opt (ar .u32 (↑(Tp (getD s (zK ((n:Int)-1-k)*1) mb)):Int)) (ak (Tp (getD s (zK ((n:Int)-1-k)*1) mb))) (aE Ah) (.s 2 (.opt (ar .u32 (h*16777619%4294967296+(↑(Tp (getD s (zK ((n:Int)-1-k)*1) mb)):Int))) (uI ((h*16777619%4294967296+(↑(Tp (getD s (zK ((n:Int)-1-k)*1) mb)):Int))%4294967296)) (aL _ _) (.s 4 (.ow ((n:Int)-1-k-1) (.s 1 (.val 9 (uI ((h*16777619%4294967296+(↑(Tp (getD s (zK ((n:Int)-1-k)*1) mb)):Int))%4294967296)) (uI ((h*16777619%4294967296+bI s (n-1-k))%4294967296)) (by(refine aT (congrArg (fun z=>((((h*16777619)%4294967296)+bI s z)%4294967296)) ?_);(omega))) (.val 10 (zI ((n:Int)-1-k-1)) (zI ((n:Int)-1-(↑(k+1):Int))) pw (Hn.next next1 ⟨(k+1),om,(((((h*16777619)%4294967296)+bI s (n-1-k))%4294967296)),(by(refine FY hh ?_;(omega))),⟨⟩⟩ (by show 3-(k+1)<3-k;clear next1 last1;omega) [] ro))))))))))))))))) (fun p0 p0f=>(Hn.last last1 0 (⟨(h),(by(rw[hh,show k=3 from by(omega),Sn])),⟨⟩⟩:(h2:Int)×'(hh2:h2=cQ s (n-3))×'Unit) rfl [] ro))))) (fun|⟨k,hk,h,hh,_⟩=>by kernel_rfl) ⟨(0),om,(0),(by exact rfl),⟨⟩⟩ [] ro (bY (fun|⟨h2,hh2,_⟩=>(.s 7 (.br (h2==H) (fun p1=>have p1f:=eq_of_beq p1;(.s 4 (.chk (aZ (some ((n:Int)-3)) none none n&&true) (by(simp <;>(omega))) (.s 3 (.byt (drop (zK ((n:Int)-3)*1) (map dB s)) (drop (zK ((n:Int)-3)) s) (by(simp;done)) (.s 5 (.byt (map dB p) (p) rfl (.s 3 (.br (UL (VN (WM (drop (zK ((n:Int)-3)) s)))==UL (VN (WM p))) (fun p2=>have p2f:=eq_of_beq p2;(.s 2 (.out [] [] (zI ((n:Int)-3)) [] R (ok _ _ (by(exact aT (FZ hn (by(omega)) aD))) wr)))) (fun p2=>have p2f:=am p2;(.s 3 (.ow ((n:Int)-3-1) (.s 1 (.val 11 (zI ((n:Int)-3-1)) (zI ((↑(n-3):Int)-1)) pw (Hn.inl T_ok ai false 94 0 (ap Try.prog 134 1) (fun(x:(j:Nat)×'(hj:j≤n-3)×'(h:Int)×'(hh:h=cQ s j)×'(hl:bj s p (n-2)=bj s p j)×'Unit)=>match x with|⟨j,hj,h,hh,hl,_⟩=>TJ [(0,TL false n 1 (map dB s)),(1,TL false 3 1 (map dB p)),(5,uI H),(6,uI 1055306571),(7,zI 3),(9,.v (.int .u32 h)),(11,iD ((j:Int)-1))] [] 0) (fun(x:(j:Nat)×'(hj:j≤n-3)×'(h:Int)×'(hh:h=cQ s j)×'(hl:bj s p (n-2)=bj s p j)×'Unit)=>match x with|⟨j,hj,h,hh,hl,_⟩=>j) [⟨(hz:bj s p (n-2)= -1)×'Unit,.exit 2,fun x=>match x with|⟨hz,_⟩=>TJ [(0,TL false n 1 (map dB s)),(1,TL false 3 1 (map dB p)),(5,uI H),(6,uI 1055306571),(7,zI 3)] [] 0⟩,⟨Unit,.ret,fun x=>match x with|()=>TJ [(4,iD (bj s p (n-2)))] [] 0⟩] 1000 64 (fun|⟨j,hj,h,hh,hl,_⟩,Q,next1,last1=>(.s 3 (.bd (0≤(j:Int)-1) (fun p3 p3f=>(.s 3 (.opt (ar .u32 (h*16777619)) (uI (h*16777619%4294967296)) (aL _ _) (.s 5 (.chk (decide (0≤(j:Int)-1)&&decide ((j:Int)-1<n)&&true) Ag (.s 2 (.opt ((map dB s)[zK ((j:Int)-1)*1]?) (dB (getD s (zK ((j:Int)-1)*1) mb)) (aq _ _ om) (.s 1 (.opt (ar .u32 (↑(Tp (getD s (zK ((j:Int)-1)*1) mb)):Int)) (ak (Tp (getD s (zK ((j:Int)-1)*1) mb))) (aE Ah) (.s 2 (.opt (ar .u32 (h*16777619%4294967296+(↑(Tp (getD s (zK ((j:Int)-1)*1) mb)):Int))) (uI ((h*16777619%4294967296+(↑(Tp (getD s (zK ((j:Int)-1)*1) mb)):Int))%4294967296)) (aL _ _) (.s 8 (.ow ((j:Int)-1+3) (.s 1 (.chk (decide (0≤(j:Int)-1+3)&&decide ((j:Int)-1+3<n)&&true) Ag (.s 2 (.opt ((map dB s)[zK ((j:Int)-1+3)*1]?) (dB (getD s (zK ((j:Int)-1+3)*1) mb)) (aq _ _ om) (.s 1 (.opt (ar .u32 (↑(Tp (getD s (zK ((j:Int)-1+3)*1) mb)):Int)) (ak (Tp (getD s (zK ((j:Int)-1+3)*1) mb))) (aE Ah) (.s 2 (.opt (ar .u32 (1055306571*(↑(Tp (getD s (zK ((j:Int)-1+3)*1) mb)):Int))) (uI (1055306571*(↑(Tp (getD s (zK ((j:Int)-1+3)*1) mb)):Int)%4294967296)) (aL _ _) (.s 2 (.opt (ar .u32 ((h*16777619%4294967296+(↑(Tp (getD s (zK ((j:Int)-1)*1) mb)):Int))%4294967296-1055306571*(↑(Tp (getD s (zK ((j:Int)-1+3)*1) mb)):Int)%4294967296)) (uI (((h*16777619%4294967296+(↑(Tp (getD s (zK ((j:Int)-1)*1) mb)):Int))%4294967296-1055306571*(↑(Tp (getD s (zK ((j:Int)-1+3)*1) mb)):Int)%4294967296)%4294967296)) (aL _ _) (.s 8 (.br (((h*16777619%4294967296+(↑(Tp (getD s (zK ((j:Int)-1)*1) mb)):Int))%4294967296-1055306571*(↑(Tp (getD s (zK ((j:Int)-1+3)*1) mb)):Int)%4294967296)%4294967296==H) (fun p4=>have p4f:=eq_of_beq p4;(.s 9 (.ow ((j:Int)-1+3) (.s 2 (.chk (aZ (some ((j:Int)-1)) (some ((j:Int)-1+3)) none n&&true) (by(simp <;>(omega))) (.s 3 (.byt (take ((zK ((j:Int)-1+3)-zK ((j:Int)-1))*1) (drop (zK ((j:Int)-1)*1) (map dB s))) (take (zK ((j:Int)-1+3)-zK ((j:Int)-1)) (drop (zK ((j:Int)-1)) s)) (by(simp;done)) (.s 5 (.byt (map dB p) (p) rfl (.s 3 (.br (UL (VN (WM (take (zK ((j:Int)-1+3)-zK ((j:Int)-1)) (drop (zK ((j:Int)-1)) s))))==UL (VN (WM p))) (fun p5=>have p5f:=eq_of_beq p5;(.s 2 (.val 4 (zI ((j:Int)-1)) (zI (bj s p (n-2))) (by(exact aT (Dw hl (by(omega)) aD))) (Hn.last last1 1 (():Unit) rfl [] ro)))) (fun p5=>have p5f:=am p5;(.s 3 (.ow ((j:Int)-1-1) (.s 1 (.val 11 (zI ((j:Int)-1-1)) (zI ((↑(j-1):Int)-1)) pw (Hn.next next1 ⟨(j-1),om,(((((((h*16777619)%4294967296)+((s.getD (((j:Int)-1).toNat*1) mb).toNat:Int))%4294967296)-((1055306571*((s.getD (((j:Int)-1+3).toNat*1) mb).toNat:Int))%4294967296))%4294967296)),FV,(by(exact yX hl (by(omega)) aD)),⟨⟩⟩ FW [] ro))))))))))))))))) (fun p4=>have p4f:=am p4;(.s 23 (.ow ((j:Int)-1-1) (.s 1 (.val 11 (zI ((j:Int)-1-1)) (zI ((↑(j-1):Int)-1)) pw (Hn.next next1 ⟨(j-1),om,(((((((h*16777619)%4294967296)+((s.getD (((j:Int)-1).toNat*1) mb).toNat:Int))%4294967296)-((1055306571*((s.getD (((j:Int)-1+3).toNat*1) mb).toNat:Int))%4294967296))%4294967296)),FV,(by(exact yY hl (by(omega)) (by(omega)) hh hH aD)),⟨⟩⟩ FW [] ro))))))))))))))))))))))))))))))) (fun p3 p3f=>(Hn.last last1 0 (⟨(by(exact qV hl (by(omega)))),⟨⟩⟩:(hz:bj s p (n-2)= -1)×'Unit) rfl [] ro))))) (fun|⟨j,hj,h,hh,hl,_⟩=>by kernel_rfl) ⟨(n-3),om,(h2),om,(by(refine mH om ?_;rw[←yV hn om rfl];refine fun e=>P1 p2 ?_;refine Xm ?_ e;exact congrArg (drop · s) om)),⟨⟩⟩ [] ro (gd (fun|⟨hz,_⟩=>(.s 1 (.out [] [] (zI (-1)) [] R (ok _ _ pw wr)))) (fun|()=>(.out [] [] (zI (bj s p (n-2))) [] R (ok _ _ wr wr))))))))))))))))))) (fun p1=>have p1f:=am p1;(.s 17 (.ow ((n:Int)-3-1) (.s 1 (.val 11 (zI ((n:Int)-3-1)) (zI ((↑(n-3):Int)-1)) pw (Hn.inl T_ok ai false 94 0 (ap Try.prog 134 1) (fun(x:(j:Nat)×'(hj:j≤n-3)×'(h:Int)×'(hh:h=cQ s j)×'(hl:bj s p (n-2)=bj s p j)×'Unit)=>match x with|⟨j,hj,h,hh,hl,_⟩=>TJ [(0,TL false n 1 (map dB s)),(1,TL false 3 1 (map dB p)),(5,uI H),(6,uI 1055306571),(7,zI 3),(9,.v (.int .u32 h)),(11,iD ((j:Int)-1))] [] 0) (fun(x:(j:Nat)×'(hj:j≤n-3)×'(h:Int)×'(hh:h=cQ s j)×'(hl:bj s p (n-2)=bj s p j)×'Unit)=>match x with|⟨j,hj,h,hh,hl,_⟩=>j) [⟨(hz:bj s p (n-2)= -1)×'Unit,.exit 2,fun x=>match x with|⟨hz,_⟩=>TJ [(0,TL false n 1 (map dB s)),(1,TL false 3 1 (map dB p)),(5,uI H),(6,uI 1055306571),(7,zI 3)] [] 0⟩,⟨Unit,.ret,fun x=>match x with|()=>TJ [(4,iD (bj s p (n-2)))] [] 0⟩] 1000 64 (fun|⟨j,hj,h,hh,hl,_⟩,Q,next1,last1=>(.s 3 (.bd (0≤(j:Int)-1) (fun p6 p6f=>(.s 3 (.opt (ar .u32 (h*16777619)) (uI (h*16777619%4294967296)) (aL _ _) (.s 5 (.chk (decide (0≤(j:Int)-1)&&decide ((j:Int)-1<n)&&true) Ag (.s 2 (.opt ((map dB s)[zK ((j:Int)-1)*1]?) (dB (getD s (zK ((j:Int)-1)*1) mb)) (aq _ _ om) (.s 1 (.opt (ar .u32 (↑(Tp (getD s (zK ((j:Int)-1)*1) mb)):Int)) (ak (Tp (getD s (zK ((j:Int)-1)*1) mb))) (aE Ah) (.s 2 (.opt (ar .u32 (h*16777619%4294967296+(↑(Tp (getD s (zK ((j:Int)-1)*1) mb)):Int))) (uI ((h*16777619%4294967296+(↑(Tp (getD s (zK ((j:Int)-1)*1) mb)):Int))%4294967296)) (aL _ _) (.s 8 (.ow ((j:Int)-1+3) (.s 1 (.chk (decide (0≤(j:Int)-1+3)&&decide ((j:Int)-1+3<n)&&true) Ag (.s 2 (.opt ((map dB s)[zK ((j:Int)-1+3)*1]?) (dB (getD s (zK ((j:Int)-1+3)*1) mb)) (aq _ _ om) (.s 1 (.opt (ar .u32 (↑(Tp (getD s (zK ((j:Int)-1+3)*1) mb)):Int)) (ak (Tp (getD s (zK ((j:Int)-1+3)*1) mb))) (aE Ah) (.s 2 (.opt (ar .u32 (1055306571*(↑(Tp (getD s (zK ((j:Int)-1+3)*1) mb)):Int))) (uI (1055306571*(↑(Tp (getD s (zK ((j:Int)-1+3)*1) mb)):Int)%4294967296)) (aL _ _) (.s 2 (.opt (ar .u32 ((h*16777619%4294967296+(↑(Tp (getD s (zK ((j:Int)-1)*1) mb)):Int))%4294967296-1055306571*(↑(Tp (getD s (zK ((j:Int)-1+3)*1) mb)):Int)%4294967296)) (uI (((h*16777619%4294967296+(↑(Tp (getD s (zK ((j:Int)-1)*1) mb)):Int))%4294967296-1055306571*(↑(Tp (getD s (zK ((j:Int)-1+3)*1) mb)):Int)%4294967296)%4294967296)) (aL _ _) (.s 8 (.br (((h*16777619%4294967296+(↑(Tp (getD s (zK ((j:Int)-1)*1) mb)):Int))%4294967296-1055306571*(↑(Tp (getD s (zK ((j:Int)-1+3)*1) mb)):Int)%4294967296)%4294967296==H) (fun p7=>have p7f:=eq_of_beq p7;(.s 9 (.ow ((j:Int)-1+3) (.s 2 (.chk (aZ (some ((j:Int)-1)) (some ((j:Int)-1+3)) none n&&true) (by(simp <;>(omega))) (.s 3 (.byt (take ((zK ((j:Int)-1+3)-zK ((j:Int)-1))*1) (drop (zK ((j:Int)-1)*1) (map dB s))) (take (zK ((j:Int)-1+3)-zK ((j:Int)-1)) (drop (zK ((j:Int)-1)) s)) (by(simp;done)) (.s 5 (.byt (map dB p) (p) rfl (.s 3 (.br (UL (VN (WM (take (zK ((j:Int)-1+3)-zK ((j:Int)-1)) (drop (zK ((j:Int)-1)) s))))==UL (VN (WM p))) (fun p8=>have p8f:=eq_of_beq p8;(.s 2 (.val 4 (zI ((j:Int)-1)) (zI (bj s p (n-2))) (by(exact aT (Dw hl (by(omega)) aD))) (Hn.last last1 1 (():Unit) rfl [] ro)))) (fun p8=>have p8f:=am p8;(.s 3 (.ow ((j:Int)-1-1) (.s 1 (.val 11 (zI ((j:Int)-1-1)) (zI ((↑(j-1):Int)-1)) pw (Hn.next next1 ⟨(j-1),om,(((((((h*16777619)%4294967296)+((s.getD (((j:Int)-1).toNat*1) mb).toNat:Int))%4294967296)-((1055306571*((s.getD (((j:Int)-1+3).toNat*1) mb).toNat:Int))%4294967296))%4294967296)),FV,(by(exact yX hl (by(omega)) aD)),⟨⟩⟩ FW [] ro))))))))))))))))) (fun p7=>have p7f:=am p7;(.s 23 (.ow ((j:Int)-1-1) (.s 1 (.val 11 (zI ((j:Int)-1-1)) (zI ((↑(j-1):Int)-1)) pw (Hn.next next1 ⟨(j-1),om,(((((((h*16777619)%4294967296)+((s.getD (((j:Int)-1).toNat*1) mb).toNat:Int))%4294967296)-((1055306571*((s.getD (((j:Int)-1+3).toNat*1) mb).toNat:Int))%4294967296))%4294967296)),FV,(by(exact yY hl (by(omega)) (by(omega)) hh hH aD)),⟨⟩⟩ FW [] ro))))))))))))))))))))))))))))))) (fun p6 p6f=>(Hn.last last1 0 (⟨(by(exact qV hl (by(omega)))),⟨⟩⟩:(hz:bj s p (n-2)= -1)×'Unit) rfl [] ro))))) (fun|⟨j,hj,h,hh,hl,_⟩=>by kernel_rfl) ⟨(n-3),om,(h2),om,(by(refine qU om om hh2 hH (am p1))),⟨⟩⟩ [] ro (gd (fun|⟨hz,_⟩=>(.s 1 (.out [] [] (zI (-1)) [] R (ok _ _ pw wr)))) (fun|()=>(.out [] [] (zI (bj s p (n-2))) [] R (ok _ _ wr wr)))))))))))))))))))))))) kr
end Vm
end Go.Proofs.Ytefjnofhgkjpmaa
namespace Go.Proofs.Ytefjnofhgkjpmaa
open Go.RowKit Go.Bw Go.Vx
open List (length getD map take drop flatMap replicate)
namespace Vm
theorem P2 {p:Prop}(h:p:=by((refine aJ ?_ ?_)<;>(repeat' (first|(refine aJ ?_ ?_)|(with_reducible rfl)|(refine decide_eq_true ?_)|(refine Tv ?_)|(refine fx ?_)))<;>(omega))):p:=h
def cR (b:List UInt8)(i j:Nat):Nat→Nat
 |0=>0
 |k+1=>if i<b.length∧b.getD j mb=b.getD i mb then cR b (i+1) (j+1) k+1 else 0
theorem yZ (b:List UInt8):∀(k i j:Nat),cR b i j k≤k
 |0,i,j=>TD 0
 |k+1,i,j=>by
  unfold cR
  split
  ·exact Vy (yZ b k (i+1) (j+1))
  ·omega
theorem vr (b:List UInt8):∀(k i j:Nat),i≤b.length→i+cR b i j k≤b.length
 |0,i,j,h=>h
 |k+1,i,j,h=>by
  unfold cR
  split
  ·next e=>have:=vr b k (i+1) (j+1) e.1;omega
  ·exact h
theorem F0 {b:List UInt8}{i j m a:Nat}(hs:a=m+cR b (i+m) (j+m) (258-m))(h1:m<258)(h2:i+m<b.length)(h3:b.getD (j+m) mb=b.getD (i+m) mb):a=(m+1)+cR b (i+(m+1)) (j+(m+1)) (258-(m+1)):=by
 rw[hs,show 258-m=(258-(m+1))+1 from by omega,cR,if_pos ⟨h2,h3⟩]
 rw[show i+m+1=i+(m+1)from by omega,show j+m+1=j+(m+1)from by omega]
 omega
theorem sY {b:List UInt8}{i j m a:Nat}(hs:a=m+cR b (i+m) (j+m) (258-m))(h:m=258∨¬i+m<b.length∨b.getD (j+m) mb≠b.getD (i+m) mb):a=m:=by
 rw[hs]
 rcases h with h|h|h
 ·rw[h];rfl
 ·cases k:258-m with
  |zero=>rfl
  |succ k=>rw[cR,if_neg (fun e=>h e.1)];rfl
 ·cases k:258-m with
  |zero=>rfl
  |succ k=>rw[cR,if_neg (fun e=>h e.2)];rfl
theorem y0 {b:List UInt8}{i m:Nat}:b.getD (((i:Int)+(m:Int)).toNat*1) mb=b.getD (i+m) mb:=congrArg (b.getD · mb) (by omega)
theorem P3 {x y:UInt8}(h:(x.toNat:Int)=(y.toNat:Int)):x=y:=UInt8.toNat_inj.1 (Int.ofNat.inj h)
theorem wJ {b:List UInt8}{i j m a:Nat}(hs:a=m+cR b (i+m) (j+m) (258-m))(h1:m<258)(h2:i+m<b.length)(e:(((b.getD (((j:Int)+(m:Int)).toNat*1) mb).toNat:Int)==((b.getD (((i:Int)+(m:Int)).toNat*1) mb).toNat:Int))=true):a=m+1+cR b (i+(m+1)) (j+(m+1)) (258-(m+1)):=by
 rw[y0,y0]at e
 exact F0 hs h1 h2 (P3 (eq_of_beq e))
theorem Lh {b:List UInt8}{i j m a:Nat}(hs:a=m+cR b (i+m) (j+m) (258-m))(e:(((b.getD (((j:Int)+(m:Int)).toNat*1) mb).toNat:Int)==((b.getD (((i:Int)+(m:Int)).toNat*1) mb).toNat:Int))=false):(m:Int)=(a:Int):=by
 rw[y0,y0]at e
 rw[sY hs (.inr (.inr fun h=>am e (by rw[h])))]
theorem F1 {b:List UInt8}{i j m a n:Nat}(hs:a=m+cR b (i+m) (j+m) (258-m))(hn:n=b.length)(e:decide ((i:Int)+(m:Int)<(n:Int))=false):(m:Int)=(a:Int):=by
 have:=of_decide_eq_false e
 rw[sY hs (.inr (.inl (by omega)))]
theorem F2 {b:List UInt8}{i j m a:Nat}(hs:a=m+cR b (i+m) (j+m) (258-m))(hm:m≤258)(e:decide ((m:Int)<258)=false):(m:Int)=(a:Int):=by
 have:=of_decide_eq_false e
 rw[sY hs (.inl (by omega))]
theorem long (b:List UInt8)(n i j:Nat)(hn:n=b.length)(hN:n≤1000000)(hi:i≤n)(hj:j<i):S0 126 [.sl false n 1 (b.map dB),iD i,iD j] [] (iD (cR b i j 258:Nat)) []:=by
 refine SpecH.run T_ok ai Try.func126 rfl rfl rfl trivial rfl 1000 64 (fun R ok=>(.s 1 (Hn.inl T_ok ai false 35 0 (ap Try.prog 126 0) (fun(x:(m:Nat)×'(hm:m≤258)×'(hi2:i+m≤n)×'(hs:cR b i j 258=m+cR b (i+m) (j+m) (258-m))×'Unit)=>match x with|⟨m,hm,hi2,hs,_⟩=>TJ [(0,TL false n 1 (map dB b)),(1,zN i),(2,zN j),(6,iD (m:Nat))] [] 0) (fun(x:(m:Nat)×'(hm:m≤258)×'(hi2:i+m≤n)×'(hs:cR b i j 258=m+cR b (i+m) (j+m) (258-m))×'Unit)=>match x with|⟨m,hm,hi2,hs,_⟩=>258-m) [⟨Unit,.exit 0,fun x=>match x with|()=>TJ [(0,TL false n 1 (map dB b)),(1,zN i),(2,zN j),(6,iD (cR b i j 258:Nat))] [] 0⟩] 1000 64 (fun|⟨m,hm,hi2,hs,_⟩,Q,next1,last1=>(.s 6 (.bd ((m:Int)<258) (fun p0 p0f=>(.s 5 (.ow ((i:Int)+m) (.s 10 (.bd ((i:Int)+m<n) (fun p1 p1f=>(.s 7 (.ow ((j:Int)+m) (.s 2 (.chk (true&&decide ((j:Int)+m<n)&&true) P2 (.s 3 (.opt ((map dB b)[zK ((j:Int)+m)*1]?) (dB (getD b (zK ((j:Int)+m)*1) mb)) (aq _ _ om) (.s 9 (.ow ((i:Int)+m) (.s 2 (.chk (true&&decide ((i:Int)+m<n)&&true) P2 (.s 3 (.opt ((map dB b)[zK ((i:Int)+m)*1]?) (dB (getD b (zK ((i:Int)+m)*1) mb)) (aq _ _ om) (.s 4 (.br ((↑(Tp (getD b (zK ((j:Int)+m)*1) mb)):Int)==(↑(Tp (getD b (zK ((i:Int)+m)*1) mb)):Int)) (fun p2=>have p2f:=eq_of_beq p2;(.s 3 (.ow ((m:Int)+1) (.s 1 (.val 6 (zI ((m:Int)+1)) (zN (m+1)) (by(simp;done)) (Hn.next next1 ⟨(m+1),om,om,(by(exact wJ hs (by(omega)) (by(omega)) aD)),⟨⟩⟩ (by show 258-(m+1)<258-m;clear next1 last1;omega) [] ro)))))) (fun p2=>have p2f:=am p2;(.val 6 (zN m) (zN (cR b i j 258)) (by(exact aT (Lh hs aD))) (Hn.last last1 0 (():Unit) rfl [] ro)))))))))))))))))) (fun p1 p1f=>(.s 26 (.val 6 (zN m) (zN (cR b i j 258)) (by(exact aT (F1 hs hn aD))) (Hn.last last1 0 (():Unit) rfl [] ro))))))))) (fun p0 p0f=>(.s 40 (.val 6 (zN m) (zN (cR b i j 258)) (by(exact aT (F2 hs hm aD))) (Hn.last last1 0 (():Unit) rfl [] ro))))))) (fun|⟨m,hm,hi2,hs,_⟩=>by kernel_rfl) ⟨(0),om,om,(by(simp only[VD,T0,WK];done)),⟨⟩⟩ [] ro (bY (fun|()=>(.s 2 (.out [] [] (zN (cR b i j 258)) [] R (ok _ _ wr wr)))))))) kr
end Vm
end Go.Proofs.Ytefjnofhgkjpmaa
namespace Go.Proofs.Ytefjnofhgkjpmaa
open Go.RowKit Go.Bw Go.Vx
namespace Vm
def dE (b:List UInt8)(i:Nat)(size:Int):Nat→Int→Int→Int→Int×Int
 |0,_,d,l=>(d,l)
 |k+1,c,d,l=>
  if(i:Int)-k≤size∧0<c then
   if cR b i k 258<3 then dE b i size k c d l
   else if l<cR b i k 258 then dE b i size k (c-1) ((i:Int)-k) (cR b i k 258:Nat)
   else dE b i size k (c-1) d l
  else(d,l)
theorem Dx (b:List UInt8)(i j:Nat):cR b i j 258≤258:=yZ b 258 i j
def Dy (n:Nat)(x size chain:Int):Prop:=x<0∨(n:Int)<x∨size<1∨32768<size∨chain<0∨256<chain
instance (n:Nat) (x size chain:Int):Decidable (Dy n x size chain):=by unfold Dy;infer_instance
def lM (b:List UInt8)(n:Nat)(x size chain:Int):Int:=if 131072<n then 4 else if Dy n x size chain then 2 else if(dE b x.toNat size x.toNat chain 0 0).2=0 then 6 else 0
def Dz (b:List UInt8)(n:Nat)(x size chain:Int):Int:=if lM b n x size chain=0 then(dE b x.toNat size x.toNat chain 0 0).1 else 0
def vt (b:List UInt8)(n:Nat)(x size chain:Int):Int:=if lM b n x size chain=0 then(dE b x.toNat size x.toNat chain 0 0).2 else 0
abbrev P4 (b:List UInt8)(n:Nat)(x size chain:Int):D:=.tup [iD (Dz b n x size chain),iD (vt b n x size chain),iD (lM b n x size chain)]
end Vm
end Go.Proofs.Ytefjnofhgkjpmaa
namespace Go.Proofs.Ytefjnofhgkjpmaa
open Go.RowKit Go.Bw Go.Vx
namespace Vm
theorem lN (b:List UInt8)(i:Nat)(size:Int):∀(k:Nat) (c d l:Int),dE b i size k c d l=(d,l)∨∃j,j<k∧(dE b i size k c d l).1=(i:Int)-(j:Int)∧(dE b i size k c d l).2=(cR b i j 258:Nat)∧3≤cR b i j 258∧(i:Int)-(j:Int)≤size
 |0,c,d,l=>.inl rfl
 |k+1,c,d,l=>by
  have up:∀{c d l:Int},(∃j,j<k∧(dE b i size k c d l).1=(i:Int)-(j:Int)∧(dE b i size k c d l).2=(cR b i j 258:Nat)∧3≤cR b i j 258∧(i:Int)-(j:Int)≤size)→∃j,j<k+1∧(dE b i size k c d l).1=(i:Int)-(j:Int)∧(dE b i size k c d l).2=(cR b i j 258:Nat)∧3≤cR b i j 258∧(i:Int)-(j:Int)≤size:=fun⟨j,h1,h2⟩=>⟨j,by omega,h2⟩
  unfold dE
  split
  ·next e=>
   split
   ·exact(lN b i size k c d l).imp id up
   ·next e3=>
    split
    ·rcases lN b i size k (c-1) ((i:Int)-k) (cR b i k 258:Nat)with h|h
     ·exact .inr ⟨k,by omega,by rw[h],by rw[h],by omega,e.1⟩
     ·exact .inr (up h)
    ·exact(lN b i size k (c-1) d l).imp id up
  ·exact .inl rfl
theorem Ai {b:List UInt8}{n:Nat}{x size chain:Int}(h:lM b n x size chain≠0):Dz b n x size chain=0∧vt b n x size chain=0:=⟨if_neg h,if_neg h⟩
def DA (n:Nat)(q size chain:Int):Prop:=n≤131072∧0≤q∧q≤(n:Int)∧1≤size∧size≤32768∧0≤chain∧chain≤256
theorem Aj {b:List UInt8}{n:Nat}{q size chain:Int}(h:DA n q size chain):(lM b n q size chain=0∨lM b n q size chain=6)∧vt b n q size chain=(dE b q.toNat size q.toNat chain 0 0).2:=by
 unfold DA at h
 have h2:¬Dy n q size chain:=by unfold Dy;omega
 have e:lM b n q size chain=if(dE b q.toNat size q.toNat chain 0 0).2=0 then 6 else 0:=by rw[lM,if_neg (by omega),if_neg h2]
 constructor
 ·rw[e];split<;>simp
 ·unfold vt
  by_cases h3:(dE b q.toNat size q.toNat chain 0 0).2=0
  ·rw[if_pos h3]at e;rw[if_neg (by rw[e];decide),h3]
  ·rw[if_neg h3]at e;rw[if_pos e]
end Vm
end Go.Proofs.Ytefjnofhgkjpmaa
namespace Go.Proofs.Ytefjnofhgkjpmaa
open Go.RowKit Go.Bw Go.Vx Vm
namespace Vt
open Vm (dE P4 lM vt Dz cR Dx vr lN Aj DA Ai)
def Li (b:List UInt8)(size chain:Int)(lazy:Bool)(i:Nat):Int:=if lazy=true∧i+1<b.length then(dE b (i+1) size (i+1) chain 0 0).2 else 0
def Ix (b:List UInt8)(size chain:Int)(lazy:Bool)(i:Nat):Tok:=
 if(dE b i size i chain 0 0).2=0∨(dE b i size i chain 0 0).2<Li b size chain lazy i then⟨b.getD i mb,0,0⟩else⟨0,(dE b i size i chain 0 0).1,(dE b i size i chain 0 0).2⟩
def So (t:Tok):Nat:=if t.long=0 then 1 else t.long.toNat
def B6 (b:List UInt8)(size chain:Int)(lazy:Bool):Nat→Nat→List Tok
 |0,_=>[]
 |k+1,i=>if i<b.length then Ix b size chain lazy i::B6 b size chain lazy k (i+So (Ix b size chain lazy i))else[]
end Vt
end Go.Proofs.Ytefjnofhgkjpmaa
namespace Go.Proofs.Ytefjnofhgkjpmaa
open Go.RowKit Go.Bw Go.Vx
open List (length getD map take drop flatMap replicate)
namespace Vp
theorem F3 {p:Prop}(h:p:=by(refine aT ?_;(omega))):p:=h
theorem F4 {p:Prop}(h:p:=by(refine decide_eq_true ?_;have h9:=hl i;unfold sZ at h9;have h8:=Lk (l.getD i mb).lit;omega)):p:=h
theorem Lv {p:Prop}(h:p:=by(refine decide_eq_false ?_;(omega))):p:=h
theorem Lw {p:Prop}(h:p:=by(have h9:=hl i;unfold sZ at h9;have h8:=Lk (l.getD i mb).lit;rcases h9 with h9|h9<;>omega)):p:=h
theorem Lx {p:Prop}(h:p:=by show k-(i+1)<k-i;clear next1 last1;omega):p:=h
theorem Qt {p:Prop}(h:p:=by((refine aJ ?_ ?_)<;>(repeat' (first|(refine aJ ?_ ?_)|(with_reducible rfl)|(refine decide_eq_true ?_)|(refine Tv ?_)|(refine fx ?_)))<;>(omega))):p:=h
theorem Sp {p:Prop}(h:p:=by(rw[cP];refine Tv ?_;(omega))):p:=h
theorem Sq {p:Prop}(h:p:=by(refine decide_eq_true ?_;(omega))):p:=h
theorem Sr {p:Prop}(h:p:=by(have h9:=hl i;unfold sZ at h9;have h8:=Lk (l.getD i mb).lit;rcases h9 with h9|h9<;>(try have h7:=h8.1 h9.1)<;>omega)):p:=h
theorem Ss (nn1 nn2:Bool)(X Y:List UInt8)(a b:Nat)(ha:a=X.length)(hb:b=Y.length)(ha2:a≤10000000)(hb2:b≤10000000):S0 67 [.sl false 2 1 [.sl nn1 a 1 (X.map dB),.sl nn2 b 1 (Y.map dB)]] [] (.ref 0 0 0 (a+b) 1) [⟨(X++Y).map dB, 5,true⟩]:=by
 refine SpecH.run T_ok ai Try.func67 rfl rfl rfl ⟨cM _,trivial⟩ rfl 1000 64 (fun R ok=>(.s 20 (.ow (0+(a:Int)) (.s 23 (.ow (0+(a:Int)+b) (.s 30 (.ow (0+(a:Int)+b-0) (.s 4 (.bd (0<0+(a:Int)+b-0) (fun p0 p0f=>(.s 7 (.chk (decide (0<0+(a:Int)+b-0)&&true&&Tz (zK (0+(a:Int)+b-0)) 140737488355328&&Tz (zK (0+(a:Int)+b-0)*1) 140737488355328) Qt (.s 3 (.chk (aZ none (some 0) none (zK (0+(a:Int)+b-0))&&true) (by(simp;done)) (.s 20 (.chk (true&&Tz ((0+a)*1) 140737488355328) (by(refine Tv ?_;(omega))) (.s 17 (.chk (true&&Tx ((0+a)*1) (length (map dB X))&&true&&true&&true&&true&&Tz ((0+a+b)*1) 140737488355328) (by(simp <;>(omega))) (.s 10 (.out [648] [648] (Tu 0 0 0 (0+a+b) 1) [Tq (map dB X++map dB Y) 5 true] R (ok _ _ (by(simp;done)) (by(simp;done)))))))))))))) (fun p0 p0f=>(.s 19 (.chk (true&&Tz ((0+a)*1) 140737488355328) (by(refine Tv ?_;(omega))) (.s 17 (.chk (true&&Tx (a*1) (length (map dB X))&&true&&true&&true&&true&&Tz ((a+b)*1) 140737488355328) (by(simp <;>(omega))) (.s 10 (.out [568] [568] (Tu 0 0 0 (a+b) 1) [Tq (map dB X++map dB Y) 5 true] R (ok _ _ wr (by(simp;done))))))))))))))))))) kr
def sZ (t:Tn):Prop:=(t.long=0∧t.dist=0)∨(t.lit=0∧3≤t.long∧t.long≤258∧1≤t.dist∧t.dist≤32768)
theorem sZ.may {t:Tn}(h:sZ t):ef t:=by
 rcases h with h|h
 ·exact .inl h.1
 ·exact .inr h.2
def Lj (t:Vt.Tok):Tn:=⟨t.lit,t.dist.toNat,t.long.toNat⟩
structure TokK (t:Vt.Tok):Prop where
 d:0≤t.dist
 l:0≤t.long
 ok:sZ (Lj t)
theorem DB:∀l:List Vt.Tok,(∀t∈l,TokK t)→l.flatMap Vt.tokD=(l.map Lj).flatMap bm
 |[],_=>rfl
 |t::r,h=>by
  have h1:=h t TP
  have e:Vt.tokD t=bm (Lj t):=by
   show[dB t.lit,D.v (.int .i64 t.dist),D.v (.int .i64 t.long)]=[dB t.lit,D.v (.int .i64 ((t.dist.toNat:Nat):Int)),D.v (.int .i64 ((t.long.toNat:Nat):Int))]
   rw[Vc h1.d,Vc h1.l]
  rw[Vq,UC,UC,e,DB r fun t ht=>h t (TU _ ht)]
theorem Lk (x:UInt8):(x=0→((x.toNat:Nat):Int)=0)∧x.toNat<256:=⟨fun h=>by rw[h];rfl,x.toNat_lt⟩
theorem F5 (l:List Tn)(k:Nat)(hk:k=l.length)(hk2:k≤65535)(hl:∀i,sZ (l.getD i mb))(raw:List UInt8)(r:Nat)(hr:r=raw.length)(hr2:r≤65535):S0 28 [dG 0,.sl false r 1 (raw.map dB),.sl false k 3 (l.flatMap bm)] [] (iD 0) []:=by
 refine SpecH.run T_ok ai Try.func28 rfl rfl rfl trivial rfl 1000 64 (fun R ok=>(.s 11 (.f (decide (65535<(r:Int))) Lv (.s 6 (.f (decide (65535<(k:Int))) Lv (.s 12 (Hn.inl T_ok ai false 19 136 (ap Try.prog 71 0) (fun(x:(i:Nat)×'(hi:i≤k)×'Unit)=>match x with|⟨i,hi,_⟩=>TJ [(0,TL false k 3 (flatMap bm l)),(1,U9 (Ui 44) [] []),(7,zN k),(8,nD i)] [] 136) (fun(x:(i:Nat)×'(hi:i≤k)×'Unit)=>match x with|⟨i,hi,_⟩=>k-i) [⟨Unit,.exit 0,fun x=>match x with|()=>TJ [(0,TL false k 3 (flatMap bm l)),(1,U9 (Ui 44) [] []),(7,zN k),(8,nD k)] [] 136⟩] 1000 64 (fun|⟨i,hi,_⟩,Q,next1,last1=>(.s 2 (.bd ((i:Int)<k) (fun p0 p0f=>(.s 6 (.chk (true&&decide ((i:Int)<k)&&true) Qt (.s 2 (.chk (Tz (i*3+3) (length (flatMap bm l))) Sp (.lst (take 3 (drop (i*3) (flatMap bm l))) ([aQ (Tp (Tn.lit (getD l i mb))),zN (Tn.dist (getD l i mb)),zN (Tn.long (getD l i mb))]) (aB (k:=3) (i:=i) (fun _=>rfl) om om) (.s 42 (.br (!decide (0<(↑(Tn.long (getD l i mb)):Int))) (fun p1=>have p1f:=wy (eZ p1);(.s 10 (.t ((↑(Tn.long (getD l i mb)):Int)==0) Sq (.s 12 (.br (!(↑(Tn.dist (getD l i mb)):Int)==0) (fun p2=>have p2f:=am (eZ p2);(.abs Lw)) (fun p2=>have p2f:=eq_of_beq (e9 p2);(.s 7 (.ow ((i:Int)+1) (.s 1 (.val 8 (zI ((i:Int)+1)) (zN (i+1)) F3 (Hn.next next1 ⟨(i+1),om,⟨⟩⟩ Lx [] ro))))))))))) (fun p1=>have p1f:=wx (e9 p1);(.s 10 (.br ((↑(Tp (Tn.lit (getD l i mb))):Int)==0) (fun p3=>have p3f:=eq_of_beq p3;(.s 12 (.t (decide (3≤(↑(Tn.long (getD l i mb)):Int))) F4 (.s 12 (.t (decide ((↑(Tn.long (getD l i mb)):Int)≤258)) F4 (.s 12 (.t (decide (1≤(↑(Tn.dist (getD l i mb)):Int))) F4 (.s 12 (.br (!decide ((↑(Tn.dist (getD l i mb)):Int)≤32768)) (fun p4=>have p4f:=wy (eZ p4);(.abs Lw)) (fun p4=>have p4f:=wx (e9 p4);(.s 7 (.ow ((i:Int)+1) (.s 1 (.val 8 (zI ((i:Int)+1)) (zN (i+1)) F3 (Hn.next next1 ⟨(i+1),om,⟨⟩⟩ Lx [] ro))))))))))))))) (fun p3=>have p3f:=am p3;(.abs Sr))))))))))))) (fun p0 p0f=>(.val 8 (zN i) (zN k) F3 (Hn.last last1 0 (():Unit) rfl [] ro)))))) (fun|⟨i,hi,_⟩=>by kernel_rfl) ⟨(0),om,⟨⟩⟩ [] ro (bY (fun|()=>(.s 6 (.out [] [] (zI 0) [] R (ok _ _ wr wr)))))))))))) kr
theorem F6 (l:List Tn)(k:Nat)(hk:k=l.length)(hk2:k≤65535)(hl:∀i,sZ (l.getD i mb))(raw:List UInt8)(r:Nat)(hr:r=raw.length)(hr2:r≤65535):S0 28 [dG 1,.sl false r 1 (raw.map dB),.sl false k 3 (l.flatMap bm)] [] (iD 0) []:=by
 refine SpecH.run T_ok ai Try.func28 rfl rfl rfl trivial rfl 1000 64 (fun R ok=>(.s 11 (.f (decide (65535<(r:Int))) Lv (.s 6 (.f (decide (65535<(k:Int))) Lv (.s 12 (Hn.inl T_ok ai false 19 136 (ap Try.prog 71 0) (fun(x:(i:Nat)×'(hi:i≤k)×'Unit)=>match x with|⟨i,hi,_⟩=>TJ [(0,TL false k 3 (flatMap bm l)),(1,U9 (Ui 44) [] []),(7,zN k),(8,nD i)] [] 136) (fun(x:(i:Nat)×'(hi:i≤k)×'Unit)=>match x with|⟨i,hi,_⟩=>k-i) [⟨Unit,.exit 0,fun x=>match x with|()=>TJ [(0,TL false k 3 (flatMap bm l)),(1,U9 (Ui 44) [] []),(7,zN k),(8,nD k)] [] 136⟩] 1000 64 (fun|⟨i,hi,_⟩,Q,next1,last1=>(.s 2 (.bd ((i:Int)<k) (fun p0 p0f=>(.s 6 (.chk (true&&decide ((i:Int)<k)&&true) Qt (.s 2 (.chk (Tz (i*3+3) (length (flatMap bm l))) Sp (.lst (take 3 (drop (i*3) (flatMap bm l))) ([aQ (Tp (Tn.lit (getD l i mb))),zN (Tn.dist (getD l i mb)),zN (Tn.long (getD l i mb))]) (aB (k:=3) (i:=i) (fun _=>rfl) om om) (.s 42 (.br (!decide (0<(↑(Tn.long (getD l i mb)):Int))) (fun p1=>have p1f:=wy (eZ p1);(.s 10 (.t ((↑(Tn.long (getD l i mb)):Int)==0) Sq (.s 12 (.br (!(↑(Tn.dist (getD l i mb)):Int)==0) (fun p2=>have p2f:=am (eZ p2);(.abs Lw)) (fun p2=>have p2f:=eq_of_beq (e9 p2);(.s 7 (.ow ((i:Int)+1) (.s 1 (.val 8 (zI ((i:Int)+1)) (zN (i+1)) F3 (Hn.next next1 ⟨(i+1),om,⟨⟩⟩ Lx [] ro))))))))))) (fun p1=>have p1f:=wx (e9 p1);(.s 10 (.br ((↑(Tp (Tn.lit (getD l i mb))):Int)==0) (fun p3=>have p3f:=eq_of_beq p3;(.s 12 (.t (decide (3≤(↑(Tn.long (getD l i mb)):Int))) F4 (.s 12 (.t (decide ((↑(Tn.long (getD l i mb)):Int)≤258)) F4 (.s 12 (.t (decide (1≤(↑(Tn.dist (getD l i mb)):Int))) F4 (.s 12 (.br (!decide ((↑(Tn.dist (getD l i mb)):Int)≤32768)) (fun p4=>have p4f:=wy (eZ p4);(.abs Lw)) (fun p4=>have p4f:=wx (e9 p4);(.s 7 (.ow ((i:Int)+1) (.s 1 (.val 8 (zI ((i:Int)+1)) (zN (i+1)) F3 (Hn.next next1 ⟨(i+1),om,⟨⟩⟩ Lx [] ro))))))))))))))) (fun p3=>have p3f:=am p3;(.abs Sr))))))))))))) (fun p0 p0f=>(.val 8 (zN i) (zN k) F3 (Hn.last last1 0 (():Unit) rfl [] ro)))))) (fun|⟨i,hi,_⟩=>by kernel_rfl) ⟨(0),om,⟨⟩⟩ [] ro (bY (fun|()=>(.s 6 (.out [] [] (zI 0) [] R (ok _ _ wr wr)))))))))))) kr
theorem F7 (l:List Tn)(k:Nat)(hk:k=l.length)(hk2:k≤65535)(hl:∀i,sZ (l.getD i mb))(raw:List UInt8)(r:Nat)(hr:r=raw.length)(hr2:r≤65535):S0 28 [dG 2,.sl false r 1 (raw.map dB),.sl false k 3 (l.flatMap bm)] [] (iD 0) []:=by
 refine SpecH.run T_ok ai Try.func28 rfl rfl rfl trivial rfl 1000 64 (fun R ok=>(.s 11 (.f (decide (65535<(r:Int))) Lv (.s 6 (.f (decide (65535<(k:Int))) Lv (.s 12 (Hn.inl T_ok ai false 19 136 (ap Try.prog 71 0) (fun(x:(i:Nat)×'(hi:i≤k)×'Unit)=>match x with|⟨i,hi,_⟩=>TJ [(0,TL false k 3 (flatMap bm l)),(1,U9 (Ui 44) [] []),(7,zN k),(8,nD i)] [] 136) (fun(x:(i:Nat)×'(hi:i≤k)×'Unit)=>match x with|⟨i,hi,_⟩=>k-i) [⟨Unit,.exit 0,fun x=>match x with|()=>TJ [(0,TL false k 3 (flatMap bm l)),(1,U9 (Ui 44) [] []),(7,zN k),(8,nD k)] [] 136⟩] 1000 64 (fun|⟨i,hi,_⟩,Q,next1,last1=>(.s 2 (.bd ((i:Int)<k) (fun p0 p0f=>(.s 6 (.chk (true&&decide ((i:Int)<k)&&true) Qt (.s 2 (.chk (Tz (i*3+3) (length (flatMap bm l))) Sp (.lst (take 3 (drop (i*3) (flatMap bm l))) ([aQ (Tp (Tn.lit (getD l i mb))),zN (Tn.dist (getD l i mb)),zN (Tn.long (getD l i mb))]) (aB (k:=3) (i:=i) (fun _=>rfl) om om) (.s 42 (.br (!decide (0<(↑(Tn.long (getD l i mb)):Int))) (fun p1=>have p1f:=wy (eZ p1);(.s 10 (.t ((↑(Tn.long (getD l i mb)):Int)==0) Sq (.s 12 (.br (!(↑(Tn.dist (getD l i mb)):Int)==0) (fun p2=>have p2f:=am (eZ p2);(.abs Lw)) (fun p2=>have p2f:=eq_of_beq (e9 p2);(.s 7 (.ow ((i:Int)+1) (.s 1 (.val 8 (zI ((i:Int)+1)) (zN (i+1)) F3 (Hn.next next1 ⟨(i+1),om,⟨⟩⟩ Lx [] ro))))))))))) (fun p1=>have p1f:=wx (e9 p1);(.s 10 (.br ((↑(Tp (Tn.lit (getD l i mb))):Int)==0) (fun p3=>have p3f:=eq_of_beq p3;(.s 12 (.t (decide (3≤(↑(Tn.long (getD l i mb)):Int))) F4 (.s 12 (.t (decide ((↑(Tn.long (getD l i mb)):Int)≤258)) F4 (.s 12 (.t (decide (1≤(↑(Tn.dist (getD l i mb)):Int))) F4 (.s 12 (.br (!decide ((↑(Tn.dist (getD l i mb)):Int)≤32768)) (fun p4=>have p4f:=wy (eZ p4);(.abs Lw)) (fun p4=>have p4f:=wx (e9 p4);(.s 7 (.ow ((i:Int)+1) (.s 1 (.val 8 (zI ((i:Int)+1)) (zN (i+1)) F3 (Hn.next next1 ⟨(i+1),om,⟨⟩⟩ Lx [] ro))))))))))))))) (fun p3=>have p3f:=am p3;(.abs Sr))))))))))))) (fun p0 p0f=>(.val 8 (zN i) (zN k) F3 (Hn.last last1 0 (():Unit) rfl [] ro)))))) (fun|⟨i,hi,_⟩=>by kernel_rfl) ⟨(0),om,⟨⟩⟩ [] ro (bY (fun|()=>(.s 6 (.out [] [] (zI 0) [] R (ok _ _ wr wr)))))))))))) kr
end Vp
end Go.Proofs.Ytefjnofhgkjpmaa

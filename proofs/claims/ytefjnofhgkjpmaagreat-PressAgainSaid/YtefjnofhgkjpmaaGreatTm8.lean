/- Part 8. -/
import Derived.Test.YtefjnofhgkjpmaaGreatTm7
import Derived.Test.YtefjnofhgkjpmaaGreatTm5
import Derived.Test.YtefjnofhgkjpmaaGreatTm6
set_option linter.unusedVariables false
set_option linter.unusedSimpArgs false
set_option maxRecDepth 100000
set_option maxHeartbeats 4000000
open And renaming intro → Mb
open Bool renaming and_true → Mp, true_and → Ml
open ByteArray renaming mk → Nb, toList → MD
open Eq renaming trans → Pq
open Go.Fn renaming func → MB
open Go.IntKind renaming wrap → Mf
open Go.LoopState renaming busy → OW, ready → N9
open Inhabited renaming default → jk
open Int renaming eq_ofNat_of_zero_le → ML, toNat → uV
open List renaming append_assoc → Mo, append_nil → MN, cons_append → NQ, count_append → PJ, count_singleton → Ps, drop → MA, drop_append_of_le_length → N5, drop_left' → P6, drop_zero → Nd, eq_nil_of_length_eq_zero → Mm, eq_replicate_iff → OD, filter_append → M2, filter_cons_of_neg → Nw, filter_cons_of_pos → Nv, flatMap_append → NA, flatMap_singleton → N6, getD → Qb, getElem_mem → MG, length_append → LZ, length_cons → Mr, length_drop → Mn, length_map → Ma, length_range → M4, length_replicate → Mu, length_set → NZ, length_singleton → MI, length_take → L5, length_take_of_le → MM, map_append → MJ, map_replicate → Ns, map_take → OL, mem_cons_of_mem → Mg, mem_cons_self → Mj, mem_filter → Oq, mem_range → Pj, not_mem_nil → N2, range → MH, range_succ → N8, replicate → Md, take → Mz, take_append → PP, take_append_of_le_length → NF, take_left' → P5, take_length → M3, take_of_length_le → Mt, take_succ_cons → Pv, take_succ_eq_append_getElem → Mw, toArray → NK
open Nat renaming add_assoc → M8, add_mul → MT, add_sub_cancel → NC, add_sub_cancel_left → N3, add_zero → N0, beq → LV, beq_refl → M0, ble → LX, ble_eq_true_of_le → L2, le_refl → Mc, le_trans → L0, lt_irrefl → OJ, lt_or_ge → Mv, lt_succ_self → O8, mod_one → PS, mul_add → NN, mul_assoc → M5, mul_comm → Nr, mul_le_mul_right → MF, mul_one → Ms, not_lt_zero → M7, pow_add → Pr, pow_succ → Ng, sub_mul → PR, sub_self → M9, sub_zero → OA, succ_le_succ → NP, succ_ne_zero → NR, two_pow_pos → Nq, zero_add → Mq, zero_le → MK, zero_mul → Nh
open UInt8 renaming ofNat → MW, toNat → LW, toNat_add → P4
namespace Go.Proofs.YtefjnofhgkjpmaaGreat
open Go.RowKit Go.Bw Go.Vx
open List (length getD map take drop flatMap replicate)
namespace Vp
theorem qG {p:Prop} (h:p:=by repeat' first | exact (fun _=>qH _ _ _) | exact trivial | exact rfl | exact (fun _=>aS _) | exact (fun _=>by assumption) | exact (fun _=>bS _ (fun _=>rfl) _) | exact (fun _=>da (fun _=>rfl) _) | (intro h; cases h; done) | (intro _; rfl) | (intro _; exact cG _ (bS _ (fun _=>rfl) _)) | exact jl _ (bS _ (fun _=>rfl) _) | refine Mb ?_ ?_ | refine fR ?_ ?_ | (intro _; refine cW ?_ ?_) | refine cW ?_ ?_ | (intro _; refine gv ?_ ?_) | exact cG _ (bS _ (fun _=>rfl) _) | exact bS _ (fun _=>rfl) _):p:=h
theorem Fo {p:Prop} (h:p:=by (refine aO ?_; (omega))):p:=h
theorem Fp {p:Prop} (h:p:=by ( have z:=hT.i.nextk om (((k:Int) - 1).toNat) om; have z2:=hT.l; have z3:=cm ws (((k:Int) - 1).toNat); have z4:(take n (ar ws ((k:Int) - 1).toNat)).length = n:=MM z.1; omega)):p:=h
theorem Ig {p:Prop} (h:p:=by ( have z:=hT.i.nextk om (((k:Int) - 1).toNat) om; have z2:=hT.l; have z3:=cm ws (((k:Int) - 1).toNat); have z4:(take n (ar ws ((k:Int) - 1).toNat)).length = n:=MM z.1; simp [aL,cn,aY]; omega)):p:=h
theorem LH {p:Prop} (h:p:=by (rw [iZ]; simp only [Ml]; refine L2 ?_; (omega))):p:=h
theorem LI {p:Prop} (h:p:=by show n - (j + 1) < n - j; clear next2 last2 next1 last1; omega):p:=h
theorem LJ {p:Prop} (h:p:=by (refine decide_eq_true ?_;  have z:=hT.i.nextk om (((k:Int) - 1).toNat) om; have z2:=hT.l; have z3:=cm ws (((k:Int) - 1).toNat); have z4:(take n (ar ws ((k:Int) - 1).toNat)).length = n:=MM z.1; have h9:=hA.at (t:=0 + j * 1) om; have h8:=cz o S j; omega)):p:=h
theorem oN (W:List Nat) (L:Nat) (hL:L = W.length) (hL2:L ≤ 320) (hB:∀ t,W.getD t jk ≤ 1073741824) (m:Nat) (hm:1 ≤ m ∧ m ≤ 15) (S:List Nat) (hS:eS W = S) (N:Nat) (hN:N = S.length) (hNm:N ≤ 2 ^ m):SpecH false Tryz.prog 144 [.sl false L 1 (W.map nD),nD m] [] (.tup [.ref 0 0 0 N 1,iD 0]) [⟨S.map nD, 3, true⟩]:=by
 subst hS
 have hp:=(dL W).length_eq
 have hN2:N = (ew W L).length:=by rw [hN,hp,hL]
 obtain ⟨T1,hE⟩:=EK hL (X:=ew W L) rfl hN2
 exact Ab W L hL hL2 hB m hm N hN2 _ T1 rfl hE hNm hE.o hE.t1 hE.o1 hE.t
abbrev Af (T:List Pc):D:=.sl false T.length 2 (T.flatMap cy)
theorem xG (T:List Pc):(T.flatMap cy).length = T.length * 2:=by rw [bn (k:=2) (fun _=>rfl)]
theorem Ih (ws:List Nat) (n:Nat) (hn:n = ws.length) (hn2:n ≤ 320) (hB:∀ w ∈ ws,w ≤ 1073741824) (j:Nat) (hj:j ≤ 14) (r:Nat) (hr:r = (ar ws j).length):SpecH false Tryz.prog 145 [.sl false r 2 ((ar ws j).flatMap cy),.sl false n 1 (ws.map nD)] [] (Af (ar ws (j + 1))) []:=by
 have h:=cm ws j
 refine SpecH.frz (Ia (ar ws j) r hr (by omega) 100000000000000 (by decide) (Ad hB (by omega)) ws n hn (by omega) (ar ws (j + 1)) (lU ws j)) (xG _) (by decide) (da (fun _=>rfl) _)
theorem Ii (ws:List Nat) (n:Nat) (hn:n = ws.length) (hn2:n ≤ 320):SpecH false Tryz.prog 145 [aR,.sl false n 1 (ws.map nD)] [] (Af (ar ws 0)) [] :=
 SpecH.frz (Ib ws n hn (by omega) _ (oK ws)) (xG _) (by decide) (da (fun _=>rfl) _)
def gG (ws:List Nat) (k m:Nat):List D:=lk ws ((MH m).map fun j=>if j < k then Af (ar ws j) else aR)
theorem sg (ws:List Nat) (k m:Nat):gG ws k m = (MH m).map fun j=>if j < k then Af (ar ws j) else aR:=aF _ _
theorem iZ (ws:List Nat) (k m:Nat):(gG ws k m).length = m:=by rw [sg,Ma,M4]
theorem qH (ws:List Nat) (k m:Nat):ab (gG ws k m) = true:=by
 rw [bh,sg]
 intro d hd
 obtain ⟨j,_,rfl⟩:=List.mem_map.1 hd
 split <;> rfl
theorem tU {ws:List Nat} {k m j:Nat} (hj:j < m):(gG ws k m)[j]? = some (if j < k then Af (ar ws j) else aR):=by
 rw [sg,List.getElem?_map,List.getElem?_range hj]; rfl
theorem xH (ws:List Nat) {k m j:Nat} (h:j < k) (hj:j < m):(gG ws k m)[0 + j * 1]? = some (Af (ar ws j)):=by
 rw [Mq,Ms,tU hj,if_pos h]
theorem xI {ws:List Nat} {k m o i:Nat} (hk:k < m) (ho:o = k) (hi:i = k):aj (gG ws k m) o [Af (ar ws i)] = gG ws (k + 1) m:=by
 subst o i
 apply List.ext_getElem?
 intro t
 rw [cq (by rw [iZ]; simp only [MI]; omega)]
 simp only [MI]
 rcases Mv t m with q | q
 ·rw [tU q,tU q]
  by_cases e:t = k
  ·subst e; rw [if_pos (by omega),M9,if_pos (by omega)]; rfl
  ·rw [if_neg (by omega)]
   by_cases z:t < k
   ·rw [if_pos z,if_pos (by omega)]
   ·rw [if_neg z,if_neg (by omega)]
 ·rw [if_neg (by omega),List.getElem?_eq_none (by rw [iZ]; exact q),List.getElem?_eq_none (by rw [iZ]; exact q)]
theorem KF (ws:List Nat) (m:Nat):Md m aR = gG ws 0 m:=by
 apply List.ext_getElem?
 intro t
 rw [List.getElem?_replicate]
 rcases Mv t m with q | q
 ·rw [if_pos q,tU q,if_neg (M7 t)]
 ·rw [if_neg (by omega),List.getElem?_eq_none (by rw [iZ]; exact q)]
theorem CV (d:D) (m:Nat):cD [d] (m * 1) = Md m d:=by
 rw [Ms]
 apply List.ext_getElem?
 intro i
 unfold cD
 rw [List.getElem?_map,List.getElem?_replicate]
 rcases Mv i m with q | q
 ·rw [List.getElem?_range q,if_pos q]
  show some (Qb [d] (i % 1) jk) = _
  rw [PS]; rfl
 ·rw [List.getElem?_eq_none (by simpa using q),if_neg (by omega)]; rfl
theorem CW {t:TypeId} {a b:Int} (h:a = b):(⟨[D.v (.int .i64 a)],t,false⟩:Blk) = ⟨[D.v (.int .i64 b)],t,false⟩:=by rw [h]
theorem tV (L:Nat):cD [D.v (.int .u8 0)] (L * 1) = (Md L (0:UInt8)).map dB:=by rw [CV,Ns]; rfl
theorem LnI.nextk {ws:List Nat} {k n:Nat} (h:LnI ws k n) (hk:0 < k) (i:Nat) (hi:i = k - 1):n ≤ (ar ws i).length ∧ cJ (ar ws i) n ≤ n ∧ n - cJ (ar ws i) n ≤ ws.length:=by
 subst hi
 have q:=LnI.next (k:=k - 1) (n:=n) (by rw [show k - 1 + 1 = k from by omega]; exact h)
 exact ⟨q.1,q.2.1,q.2.2.1⟩
structure LnT (ws S:List Nat) (L k n:Nat) (o T:List UInt8):Prop where
 i:LnI ws k n
 l:o.length = L
 r:Ae ws S k n o = T
theorem LnT.next {ws S:List Nat} {L k n:Nat} {o T:List UInt8} (h:LnT ws S L k n o T) (hk:0 < k):LnT ws S L (k - 1) (2 * cJ (ar ws (k - 1)) n) (cg o S (n - cJ (ar ws (k - 1)) n)) T:=by
 obtain ⟨j,rfl⟩:∃ j,k = j + 1:=⟨k - 1,by omega⟩
 exact ⟨(LnI.next h.i).2.2.2,by rw [cz]; exact h.l,h.r⟩
theorem LnT.next' {ws S:List Nat} {L k n:Nat} {o T:List UInt8} (h:LnT ws S L k n o T) (hk:0 < k) (i:Nat) (hi:i = k - 1):LnT ws S L (k - 1) (2 * cJ (ar ws i) n) (cg o S (n - cJ (ar ws i) n)) T:=by
 subst hi; exact h.next hk
theorem CX {l:List Pc} {n j:Nat} (h:j < n):(l.take n).getD j jk = l.getD j jk:=by
 rw [List.getD_eq_getElem?_getD,List.getD_eq_getElem?_getD,List.getElem?_take,if_pos h]
theorem Ij {row:List Pc} {n j:Nat} (hj:j < n) (hn:n ≤ row.length) (h:((row.take n).getD j jk).p = true):cJ row (j + 1) = cJ row j + 1:=by
 rw [CX hj] at h; rw [CQ (by omega),h]; rfl
theorem Ik {row:List Pc} {n j:Nat} (hj:j < n) (hn:n ≤ row.length) (h:((row.take n).getD j jk).p = false):cJ row (j + 1) = cJ row j:=by
 rw [CX hj] at h; rw [CQ (by omega),h]; rfl
theorem gH {n N:Nat} {x:Int} (h:x = n) (h2:n ≤ N):(aL none (some x) none N && true) = true:=by
 subst h; simp [aL,cn,aY]; omega
theorem Il {o:List UInt8} {S:List Nat} {j a i:Nat} (hj:j < S.length) (ha:a = S.getD j jk) (hi:i = S.getD j jk) (hl:S.getD j jk < o.length):aj ((cg o S j).map dB) a [D.v (.int .u8 ((((((cg o S j).getD i jk).toNat:Nat):Int) + 1) % 256))] = (cg o S (j + 1)).map dB:=by
 subst ha hi
 have e:(((((cg o S j).getD (S.getD j jk) jk).toNat:Nat):Int) + 1) % 256 = ((((cg o S j).getD (S.getD j jk) jk + 1).toNat:Nat):Int):=by
  rw [P4]; show _ = (((_ + 1) % 256:Nat):Int); omega
 rw [e,sf hj]
 generalize (cg o S j).getD (S.getD j jk) jk + 1 = v
 apply List.ext_getElem?
 intro t
 rw [cq (by simp only [Ma,MI,cz]; omega),List.getElem?_map,List.getElem?_map,List.getElem?_set,cz]
 simp only [MI]
 by_cases q:S.getD j jk = t
 ·rw [← q,if_pos (by omega),if_pos rfl,if_pos hl,M9]; rfl
 ·rw [if_neg (by omega),if_neg q]
theorem LnT.last {ws S:List Nat} {L k n:Nat} {o T:List UInt8} (h:LnT ws S L k n o T) (hk:k = 0):o = T:=by subst hk; exact h.r
theorem Im (W:List Nat) (L:Nat) (hL:L = W.length) (hL2:L ≤ 320) (hB:∀ t,W.getD t jk ≤ 1073741824) (m:Nat) (hm:1 ≤ m ∧ m ≤ 15) (S:List Nat) (hS:eS W = S) (N:Nat) (hN:N = S.length) (hNm:N ≤ 2 ^ m) (hA:bw L S) (hN3:N ≤ 320) (h2:2 ≤ N) (ws:List Nat) (hw:oI W S N = ws) (hwl:ws.length = N) (hwb:∀ w ∈ ws,w ≤ 1073741824) (T:List UInt8) (hI:LnT ws S L m (2 * N - 2) (Md L 0) T):SpecH false Tryz.prog 108 [.sl false L 1 (W.map nD),nD m] [] (.tup [.ref 0 0 0 L 1,iD 0]) [⟨T.map dB, 5, true⟩]:=by
 have hcl0:=qH ws 0 m
 have hclm:=qH ws m m
 refine SpecH.run T_ok ai Tryz.func108 rfl rfl rfl ⟨aW _,trivial⟩ rfl 1000 64 (fun R ok=>(.s 5 (.cl 144 false [] (.fn D0 (@oN (W) (L) om om om (m) om (S) bu (N) bu om)) (.s 18 (.chk (true && decide ((L:Int) ≤ (L:Int)) && true && true && true && true && decide ((↑(TI.bytes zw):Int) * (L:Int) ≤ 140737488355328)) (by (have h9:((zw.bytes:Nat):Int) = 1:=rfl; rw [h9]; simp; omega)) (.s 11 (.f ((N:Int) == 1) (by (refine decide_eq_false ?_; (omega))) (.s 6 (.f (decide ((N:Int) < 2)) (by (refine decide_eq_false ?_; (omega))) (.s 6 (.nils 9 224 1 3 (.blk 120 120 (Blk.mk (cD [bI 0] (L * 1)) 5 true) (Blk.mk (map dB (replicate L 0)) 5 true) (by (refine aC ?_; rw [tV])) (.blk 224 224 (Blk.mk [] 3 true) (Blk.mk (map nD (oI W S 0)) 3 true) (by (rw [Ic]; rfl)) (Hn.inl T_ok ai false 126 0 (aA Tryz.prog 108 0) (fun (x:(k:Nat) ×' (hk:k ≤ N) ×' Unit)=>match x with | ⟨k,hk,_⟩=>CutS.mk [(0,D.sl false L 1 (map nD W)),(1,zN m),(4,zS),(5,zI 0),(6,D.ptr 8 8 0),(8,D.ptr 24 24 0),(9,(D.ref 32 32 (0) (k) 1)),(46,D.ref 0 0 0 N 1),(47,zN N),(48,nD k)] [⟨0,0,32,32,.b ⟨map nD S,3,true⟩⟩,⟨8,8,64,64,.b ⟨[D.ref 0 0 0 N 1],152,false⟩⟩,⟨16,16,120,120,.b ⟨(replicate L (0:UInt8)).map dB,5,true⟩⟩,⟨24,24,128,128,.b ⟨[D.ref 16 16 0 L 1],24,false⟩⟩,⟨32,32,224,224,.b ⟨(oI W S k).map nD,3,true⟩⟩] 40) (fun (x:(k:Nat) ×' (hk:k ≤ N) ×' Unit)=>match x with | ⟨k,hk,_⟩=>N - k) [⟨Unit,.exit 0,fun x=>match x with | ()=>CutS.mk [(0,D.sl false L 1 (map nD W)),(1,zN m),(4,zS),(5,zI 0),(6,D.ptr 8 8 0),(8,D.ptr 24 24 0),(9,(D.ref 32 32 (0) (N) 1)),(46,D.ref 0 0 0 N 1),(47,zN N)] [⟨0,0,32,32,.b ⟨map nD S,3,true⟩⟩,⟨8,8,64,64,.b ⟨[D.ref 0 0 0 N 1],152,false⟩⟩,⟨16,16,120,120,.b ⟨(replicate L (0:UInt8)).map dB,5,true⟩⟩,⟨24,24,128,128,.b ⟨[D.ref 16 16 0 L 1],24,false⟩⟩,⟨32,32,224,224,.b ⟨ws.map nD,3,true⟩⟩] 40⟩] 1000 64 (fun | ⟨k,hk,_⟩,Q,next1,last1=>(.s 2 (.br (decide ((k:Int) < (N:Int))) (fun p0=>have p0f:=aT p0; (.s 1 (.chk (true && decide ((k:Int) < (N:Int))) bu (.s 2 (.opt ((map nD S)[0 + k * 1]?) (nD (getD S (0 + k * 1) jk)) (av _ _ om) (.s 5 (.chk (true && decide ((↑(getD S (0 + k * 1) jk):Int) < (L:Int)) && true) (by ((refine aH ?_ ?_) <;> (repeat' (first | (refine aH ?_ ?_) | (with_reducible rfl) | (refine decide_eq_true ?_) | (refine L2 ?_) | (refine eu ?_))) <;> ( have h9:=hA.at (t:=0 + k * 1) om; omega))) (.s 2 (.opt ((map nD W)[getD S (0 + k * 1) jk * 1]?) (nD (getD W (getD S (0 + k * 1) jk * 1) jk)) (av _ _ (by ( have h9:=hA.at (t:=0 + k * 1) om; omega))) (.s 3 (.chk (true && LV (k * 1) (length (map nD (oI W S k))) && true && true && true && true && LX ((k + 1) * 8) 140737488355328) (by (rw [Ma,kD (by (omega))]; simp only [Ms,M0,Ml,Mp]; refine L2 ?_; (omega))) (.s 3 (.ow ((k:Int) + 1) (.s 1 (.val 48 (zI ((k:Int) + 1)) (zN (k + 1)) Fo (.blk 120 120 (Blk.mk (map nD (oI W S k) ++ [zN (getD W (getD S (0 + k * 1) jk * 1) jk)]) 3 true) (Blk.mk (map nD (oI W S (k + 1))) 3 true) (by ( refine aC ?_; simp only [Mq,Ms]; rw [Ie om,MJ]; rfl)) (Hn.next next1 ⟨(k + 1),om,⟨⟩⟩ (by show N - (k + 1) < N - k; clear next1 last1; omega) [(0,0),(8,8),(16,16),(24,24),(120,120)] qG))))))))))))))))) (fun p0=>have p0f:=aU p0; (.val 9 (D.ref 32 32 0 k 1) (D.ref 32 32 0 N 1) (by (simp <;> (omega))) (.blk 32 32 (Blk.mk (map nD (oI W S k)) 3 true) (Blk.mk (map nD ws) 3 true) (by ( rw [show k = N from by omega,hw])) (Hn.last last1 0 (():Unit) rfl [(0,0),(8,8),(16,16),(24,24),(32,32)] qG))))))) (fun | ⟨k,hk,_⟩=>by kernel_rfl) ⟨(0),om,⟨⟩⟩ [(32,32),(64,64),(120,120),(128,128),(224,224)] qG (cb (fun | ()=>(.s 2 (.chk (true && decide ((m:Int) ≤ (m:Int)) && true && true && true && true && decide ((↑(TI.bytes tE):Int) * (m:Int) ≤ 140737488355328)) (by (have h9:((tE.bytes:Nat):Int) = 24:=rfl; rw [h9]; simp; omega)) (.s 4 (.blk 48 48 (Blk.mk (cD [zS] (m * 1)) 225 true) (Blk.mk (gG ws 0 m) 225 true) (by (refine aC ?_; rw [CV,KF])) (Hn.inl T_ok ai false 126 0 (aA Tryz.prog 108 1) (fun (x:(k:Nat) ×' (hk:k ≤ m) ×' (hcl:ab (gG ws k m) = true) ×' Unit)=>match x with | ⟨k,hk,hcl,_⟩=>CutS.mk [(4,zS),(5,zI 0),(6,D.ptr 8 8 0),(8,D.ptr 24 24 0),(9,D.ref 32 32 0 N 1),(12,D.ref 40 40 0 m 1),(63,zN m),(64,nD k)] [⟨0,0,0,0,.b ⟨map nD S,3,true⟩⟩,⟨8,8,8,8,.b ⟨[D.ref 0 0 0 N 1],152,false⟩⟩,⟨16,16,16,16,.b ⟨map dB (replicate L 0),5,true⟩⟩,⟨24,24,24,24,.b ⟨[D.ref 16 16 0 L 1],24,false⟩⟩,⟨32,32,32,32,.b ⟨map nD ws,3,true⟩⟩,⟨40,40,48,48,.b ⟨gG ws k m,225,true⟩⟩] 48) (fun (x:(k:Nat) ×' (hk:k ≤ m) ×' (hcl:ab (gG ws k m) = true) ×' Unit)=>match x with | ⟨k,hk,hcl,_⟩=>m - k) [⟨(hcl2:ab (gG ws m m) = true) ×' Unit,.exit 2,fun x=>match x with | ⟨hcl2,_⟩=>CutS.mk [(4,zS),(5,zI 0),(6,D.ptr 8 8 0),(8,D.ptr 24 24 0),(9,D.ref 32 32 0 N 1),(12,D.ref 40 40 0 m 1),(63,zN m)] [⟨0,0,0,0,.b ⟨map nD S,3,true⟩⟩,⟨8,8,8,8,.b ⟨[D.ref 0 0 0 N 1],152,false⟩⟩,⟨16,16,16,16,.b ⟨map dB (replicate L 0),5,true⟩⟩,⟨24,24,24,24,.b ⟨[D.ref 16 16 0 L 1],24,false⟩⟩,⟨32,32,32,32,.b ⟨map nD ws,3,true⟩⟩,⟨40,40,48,48,.b ⟨gG ws m m,225,true⟩⟩] 48⟩] 1000 64 (fun | ⟨k,hk,hcl,_⟩,Q,next1,last1=>(.s 2 (.br (decide ((k:Int) < (m:Int))) (fun p1=>have p1f:=aT p1; (.s 5 (.br (decide (0 < (k:Int))) (fun p2=>have p2f:=aT p2; (.s 6 (.ow ((k:Int) - 1) (.s 1 (.chk (decide (0 ≤ (k:Int) - 1) && decide ((k:Int) - 1 < (m:Int))) (by ((refine aH ?_ ?_) <;> (repeat' (first | (refine aH ?_ ?_) | (with_reducible rfl) | (refine decide_eq_true ?_) | (refine L2 ?_) | (refine eu ?_))) <;> (omega))) (.s 2 (.opt ((gG ws k m)[0 + uV ((k:Int) - 1) * 1]?) (Af (ar ws (uV ((k:Int) - 1)))) (@xH ws (k) (m) (uV ((k:Int) - 1)) om om) (.s 2 (.call 145 false [] (true && (true && (true && LX (0 + N * 1) (length (map nD ws)) && true && ab (bif true && LV (N * 1) (length (map nD ws)) then map nD ws else take (N * 1) (drop 0 (map nD ws)))) && true)) (by (simp <;> (omega))) ([D.sl false (length (ar ws (uV ((k:Int) - 1)))) 2 (flatMap cy (ar ws (uV ((k:Int) - 1)))),D.sl (LX 1 N) N 1 (bif true && LV (N * 1) (length (map nD ws)) then map nD ws else take (N * 1) (drop 0 (map nD ws)))]) _ (by exact (Mb (D.sim.refl _) (Mb (D.sim.slw rfl (bg (by (simp <;> (omega))) |>.trans rfl)) trivial))) (true) wr _ _ _ (CallOk.fn (aw.of Tryz.func145 rfl rfl) (@Ih (ws) (N) om om om (uV ((k:Int) - 1)) om (length (ar ws (uV ((k:Int) - 1)))) om)) (.s 1 (.chk (true && decide ((k:Int) < (m:Int))) bu (.s 1 (.chk (true && LX (0 + k * 1 + 1) (length (gG ws k m))) LH (.lst (aj (gG ws k m) (0 + k * 1) [D.sl false (length (ar ws (uV ((k:Int) - 1) + 1))) 2 (flatMap cy (ar ws (uV ((k:Int) - 1) + 1)))]) (aj (gG ws k m) k [D.sl false (length (ar ws (uV ((k:Int) - 1) + 1))) 2 (flatMap cy (ar ws (uV ((k:Int) - 1) + 1)))]) (by (simp; done)) (.s 2 (.ow ((k:Int) + 1) (.s 1 (.val 64 (zI ((k:Int) + 1)) (zN (k + 1)) Fo (.blk 40 40 (Blk.mk (aj (gG ws k m) k [D.sl false (length (ar ws (uV ((k:Int) - 1) + 1))) 2 (flatMap cy (ar ws (uV ((k:Int) - 1) + 1)))]) 225 true) (Blk.mk (gG ws (k + 1) m) 225 true) (by ( exact aC (xI om om om))) (Hn.next next1 ⟨(k + 1),om,(by (exact qH _ _ _)),⟨⟩⟩ (by show m - (k + 1) < m - k; clear next1 last1; omega) [(0,0),(8,8),(16,16),(24,24),(32,32),(40,40)] qG)))))))))))))))))))) (fun p2=>have p2f:=aU p2; (.s 4 (.call 145 false [] (true && (true && (true && LX (0 + N * 1) (length (map nD ws)) && true && ab (bif true && LV (N * 1) (length (map nD ws)) then map nD ws else take (N * 1) (drop 0 (map nD ws)))) && true)) (by (simp;  have h9:=hA.at (t:=0 + k * 1) om; omega)) ([zS,D.sl (LX 1 N) N 1 (bif true && LV (N * 1) (length (map nD ws)) then map nD ws else take (N * 1) (drop 0 (map nD ws)))]) _ (by exact (Mb (D.sim.refl _) (Mb (D.sim.slw rfl (bg (by (simp;  have h9:=hA.at (t:=0 + k * 1) om; omega)) |>.trans rfl)) trivial))) (true) wr _ _ _ (CallOk.fn (aw.of Tryz.func145 rfl rfl) (@Ii (ws) (N) om om)) (.s 1 (.chk (true && decide ((k:Int) < (m:Int))) bu (.s 1 (.chk (true && LX (0 + k * 1 + 1) (length (gG ws k m))) LH (.lst (aj (gG ws k m) (0 + k * 1) [D.sl false (length (ar ws 0)) 2 (flatMap cy (ar ws 0))]) (aj (gG ws k m) k [D.sl false (length (ar ws 0)) 2 (flatMap cy (ar ws 0))]) (by (simp; done)) (.s 2 (.ow ((k:Int) + 1) (.s 1 (.val 64 (zI ((k:Int) + 1)) (zN (k + 1)) Fo (.blk 40 40 (Blk.mk (aj (gG ws k m) k [D.sl false (length (ar ws 0)) 2 (flatMap cy (ar ws 0))]) 225 true) (Blk.mk (gG ws (k + 1) m) 225 true) (by ( exact aC (xI om om om))) (Hn.next next1 ⟨(k + 1),om,(by (exact qH _ _ _)),⟨⟩⟩ (by show m - (k + 1) < m - k; clear next1 last1; omega) [(0,0),(8,8),(16,16),(24,24),(32,32),(40,40)] qG))))))))))))))))) (fun p1=>have p1f:=aU p1; (.blk 40 40 (Blk.mk (gG ws k m) 225 true) (Blk.mk (gG ws m m) 225 true) (by ( rw [show k = m from by omega])) (Hn.last last1 0 (⟨om,⟨⟩⟩:(hcl2:ab (gG ws m m) = true) ×' Unit) rfl [(0,0),(8,8),(16,16),(24,24),(32,32),(40,40)] qG)))))) (fun | ⟨k,hk,hcl,_⟩=>by kernel_rfl) ⟨(0),om,om,⟨⟩⟩ [(0,0),(8,8),(16,16),(24,24),(32,32),(48,48)] qG (cb (fun | ⟨hcl2,_⟩=>(.s 6 (.ow (2 * (N:Int)) (.s 2 (.ow (2 * (N:Int) - 2) (.s 19 (.ow ((m:Int) - 1) (.s 1 (.blk 80 80 (Blk.mk [zI (2 * (N:Int) - 2)] 3 false) (Blk.mk [zN (2 * N - 2)] 3 false) (by ( exact CW om)) (Hn.inl T_ok ai false 19 168 (aA Tryz.prog 177 0) (fun (x:(k:Nat) ×' (n:Nat) ×' (o:List UInt8) ×' (hk:k ≤ m) ×' (hT:LnT ws S L k n o T) ×' Unit)=>match x with | ⟨k,n,o,hk,hT,_⟩=>CutS.mk [(0,D.yl 160 160),(1,D.ptr 112 112 0),(3,iD ((k:Int) - 1))] [⟨0,0,0,0,.b ⟨map nD S,3,true⟩⟩,⟨8,8,8,8,.b ⟨[D.ref 0 0 0 N 1],152,false⟩⟩,⟨16,16,16,16,.b ⟨o.map dB,5,true⟩⟩,⟨24,24,24,24,.b ⟨[D.ref 16 16 0 L 1],24,false⟩⟩,⟨32,32,32,32,.b ⟨map nD ws,3,true⟩⟩,⟨40,40,40,40,.b ⟨gG ws m m,225,true⟩⟩,⟨80,80,80,80,.b ⟨[nD n],3,false⟩⟩,⟨112,112,112,112,.b ⟨[D.ref 40 40 0 m 1],224,false⟩⟩,⟨160,160,160,160,.l N9 none (rangeAt Tryz.prog 108 0).1 (rangeAt Tryz.prog 108 0).2.1 (rangeAt Tryz.prog 108 0).2.2 126 [(63,zN m),(87,zI (2 * (N:Int))),(5,zI 0),(9,D.ref 32 32 0 N 1),(89,D.ref 40 40 0 m 1),(85,D.ref 0 0 0 N 1),(4,zS),(8,D.ptr 24 24 0),(88,zI (2 * (N:Int) - 2)),(12,D.ref 40 40 0 m 1),(6,D.ptr 8 8 0),(90,D.fn (MB 177) [] [D.ptr 112 112 0]),(14,D.ptr 80 80 0),(86,zN N)]⟩] 240) (fun (x:(k:Nat) ×' (n:Nat) ×' (o:List UInt8) ×' (hk:k ≤ m) ×' (hT:LnT ws S L k n o T) ×' Unit)=>match x with | ⟨k,n,o,hk,hT,_⟩=>k) [⟨(n2:Nat) ×' Unit,.exit 0,fun x=>match x with | ⟨n2,_⟩=>CutS.mk [(0,D.yl 160 160),(1,D.ptr 112 112 0)] [⟨0,0,0,0,.b ⟨map nD S,3,true⟩⟩,⟨8,8,8,8,.b ⟨[D.ref 0 0 0 N 1],152,false⟩⟩,⟨16,16,16,16,.b ⟨T.map dB,5,true⟩⟩,⟨24,24,24,24,.b ⟨[D.ref 16 16 0 L 1],24,false⟩⟩,⟨32,32,32,32,.b ⟨map nD ws,3,true⟩⟩,⟨40,40,40,40,.b ⟨gG ws m m,225,true⟩⟩,⟨80,80,80,80,.b ⟨[nD n2],3,false⟩⟩,⟨112,112,112,112,.b ⟨[D.ref 40 40 0 m 1],224,false⟩⟩,⟨160,160,160,160,.l N9 none (rangeAt Tryz.prog 108 0).1 (rangeAt Tryz.prog 108 0).2.1 (rangeAt Tryz.prog 108 0).2.2 126 [(63,zN m),(87,zI (2 * (N:Int))),(5,zI 0),(9,D.ref 32 32 0 N 1),(89,D.ref 40 40 0 m 1),(85,D.ref 0 0 0 N 1),(4,zS),(8,D.ptr 24 24 0),(88,zI (2 * (N:Int) - 2)),(12,D.ref 40 40 0 m 1),(6,D.ptr 8 8 0),(90,D.fn (MB 177) [] [D.ptr 112 112 0]),(14,D.ptr 80 80 0),(86,zN N)]⟩] 240⟩] 1000 64 (fun | ⟨k,n,o,hk,hT,_⟩,Q,next1,last1=>(.s 3 (.br (decide (0 ≤ (k:Int) - 1)) (fun p3=>have p3f:=aT p3; (.s 7 (.chk (decide (0 ≤ (k:Int) - 1) && decide ((k:Int) - 1 < (m:Int))) Ig (.s 2 (.opt ((gG ws m m)[0 + uV ((k:Int) - 1) * 1]?) (Af (ar ws (uV ((k:Int) - 1)))) (@xH ws (m) (m) (uV ((k:Int) - 1)) om om) (.s 8 (.chk (aL none (some (n:Int)) none (length (ar ws (uV ((k:Int) - 1)))) && true) (by ( have z:=hT.i.nextk om (((k:Int) - 1).toNat) om; have z2:=hT.l; have z3:=cm ws (((k:Int) - 1).toNat); have z4:(take n (ar ws ((k:Int) - 1).toNat)).length = n:=MM z.1; exact gH rfl om)) (.s 2 (.val 17 (zI 0) (zN (cJ (ar ws (uV ((k:Int) - 1))) 0)) (by (rw [If]; rfl)) (.val 95 (D.sl false n 2 (take (n * 2) (flatMap cy (ar ws (uV ((k:Int) - 1)))))) (D.sl false n 2 (flatMap cy (take n (ar ws (uV ((k:Int) - 1)))))) (by (refine congrArg (D.sl false n 2) ?_; refine tC ?_ _ _; exact fun _=>rfl)) (Hn.inl T_ok ai true 126 312 (aA Tryz.prog 108 2) (fun (x:(j:Nat) ×' (hj:j ≤ n) ×' Unit)=>match x with | ⟨j,hj,_⟩=>CutS.mk [(4,zS),(5,zI 0),(6,D.ptr 8 8 0),(8,D.ptr 24 24 0),(14,D.ptr 80 80 0),(16,D.sl false (length (ar ws (uV ((k:Int) - 1)))) 2 (flatMap cy (ar ws (uV ((k:Int) - 1))))),(17,nD (cJ (ar ws ((k:Int) - 1).toNat) j)),(90,D.fn (MB 177) [] [D.ptr 112 112 0]),(92,D.sl false (length (ar ws (uV ((k:Int) - 1)))) 2 (flatMap cy (ar ws (uV ((k:Int) - 1))))),(93,D.sl false (length (ar ws (uV ((k:Int) - 1)))) 2 (flatMap cy (ar ws (uV ((k:Int) - 1))))),(94,zN n),(95,.sl false n 2 ((take n (ar ws ((k:Int) - 1).toNat)).flatMap cy)),(96,zN n),(97,nD j)] [⟨0,0,0,0,.b ⟨map nD S,3,true⟩⟩,⟨8,8,8,8,.b ⟨[D.ref 0 0 0 N 1],152,false⟩⟩,⟨16,16,16,16,.b ⟨map dB o,5,true⟩⟩,⟨24,24,24,24,.b ⟨[D.ref 16 16 0 L 1],24,false⟩⟩,⟨32,32,32,32,.b ⟨map nD ws,3,true⟩⟩,⟨40,40,40,40,.b ⟨gG ws m m,225,true⟩⟩,⟨80,80,80,80,.b ⟨[zN n],3,false⟩⟩,⟨112,112,112,112,.b ⟨[D.ref 40 40 0 m 1],224,false⟩⟩,⟨160,160,160,160,.l OW none (rangeAt Tryz.prog 108 0).1 (rangeAt Tryz.prog 108 0).2.1 (rangeAt Tryz.prog 108 0).2.2 126 [(63,zN m),(87,zI (2 * (N:Int))),(5,zI 0),(9,D.ref 32 32 0 N 1),(89,D.ref 40 40 0 m 1),(85,D.ref 0 0 0 N 1),(4,zS),(8,D.ptr 24 24 0),(88,zI (2 * (N:Int) - 2)),(12,D.ref 40 40 0 m 1),(6,D.ptr 8 8 0),(90,D.fn (MB 177) [] [D.ptr 112 112 0]),(14,D.ptr 80 80 0),(86,zN N)]⟩] 384) (fun (x:(j:Nat) ×' (hj:j ≤ n) ×' Unit)=>match x with | ⟨j,hj,_⟩=>n - j) [⟨Unit,.exit 6,fun x=>match x with | ()=>CutS.mk [(4,zS),(5,zI 0),(6,D.ptr 8 8 0),(8,D.ptr 24 24 0),(14,D.ptr 80 80 0),(16,D.sl false (length (ar ws (uV ((k:Int) - 1)))) 2 (flatMap cy (ar ws (uV ((k:Int) - 1))))),(17,nD (cJ (ar ws ((k:Int) - 1).toNat) n)),(90,D.fn (MB 177) [] [D.ptr 112 112 0]),(92,D.sl false (length (ar ws (uV ((k:Int) - 1)))) 2 (flatMap cy (ar ws (uV ((k:Int) - 1))))),(93,D.sl false (length (ar ws (uV ((k:Int) - 1)))) 2 (flatMap cy (ar ws (uV ((k:Int) - 1))))),(94,zN n),(96,zN n),(97,nD n)] [⟨0,0,0,0,.b ⟨map nD S,3,true⟩⟩,⟨8,8,8,8,.b ⟨[D.ref 0 0 0 N 1],152,false⟩⟩,⟨16,16,16,16,.b ⟨map dB o,5,true⟩⟩,⟨24,24,24,24,.b ⟨[D.ref 16 16 0 L 1],24,false⟩⟩,⟨32,32,32,32,.b ⟨map nD ws,3,true⟩⟩,⟨40,40,40,40,.b ⟨gG ws m m,225,true⟩⟩,⟨80,80,80,80,.b ⟨[zN n],3,false⟩⟩,⟨112,112,112,112,.b ⟨[D.ref 40 40 0 m 1],224,false⟩⟩,⟨160,160,160,160,.l OW none (rangeAt Tryz.prog 108 0).1 (rangeAt Tryz.prog 108 0).2.1 (rangeAt Tryz.prog 108 0).2.2 126 [(63,zN m),(87,zI (2 * (N:Int))),(5,zI 0),(9,D.ref 32 32 0 N 1),(89,D.ref 40 40 0 m 1),(85,D.ref 0 0 0 N 1),(4,zS),(8,D.ptr 24 24 0),(88,zI (2 * (N:Int) - 2)),(12,D.ref 40 40 0 m 1),(6,D.ptr 8 8 0),(90,D.fn (MB 177) [] [D.ptr 112 112 0]),(14,D.ptr 80 80 0),(86,zN N)]⟩] 384⟩] 1000 64 (fun | ⟨j,hj,_⟩,Q,next2,last2=>(.s 2 (.br (decide ((j:Int) < (n:Int))) (fun p4=>have p4f:=aT p4; (.s 1 (.chk (true && decide ((j:Int) < (n:Int)) && true) Ig (.s 2 (.chk (LX (j * 2 + 2) (length (flatMap cy (take n (ar ws (uV ((k:Int) - 1))))))) (by (rw [bn (k:=2) (fun (x:Pc)=>(rfl:(cy x).length = 2)),L5]; refine L2 ?_;  have z:=hT.i.nextk om (((k:Int) - 1).toNat) om; have z2:=hT.l; have z3:=cm ws (((k:Int) - 1).toNat); have z4:(take n (ar ws ((k:Int) - 1).toNat)).length = n:=MM z.1; omega)) (.lst (take 2 (drop (j * 2) (flatMap cy (take n (ar ws (uV ((k:Int) - 1))))))) ([zN (Pc.w (getD (take n (ar ws (uV ((k:Int) - 1)))) j jk)),D.v (.bool (Pc.p (getD (take n (ar ws (uV ((k:Int) - 1)))) j jk)))]) (aD (k:=2) (i:=j) (fun _=>rfl) Fp om) (.s 11 (.br (Pc.p (getD (take n (ar ws (uV ((k:Int) - 1)))) j jk)) (fun p5=>(.s 3 (.op ((↑(cJ (ar ws (uV ((k:Int) - 1))) j):Int) + 1) (by ( have z:=hT.i.nextk om (((k:Int) - 1).toNat) om; have z2:=hT.l; have z3:=cm ws (((k:Int) - 1).toNat); have z4:(take n (ar ws ((k:Int) - 1).toNat)).length = n:=MM z.1; have h7:=xA (ar ws ((k:Int) - 1).toNat) j; omega)) (.s 3 (.op ((j:Int) + 1) Fp (.s 1 (.val 17 (zI ((↑(cJ (ar ws (uV ((k:Int) - 1))) j):Int) + 1)) (zN (cJ (ar ws (uV ((k:Int) - 1))) (j + 1))) (by ( have z:=hT.i.nextk om (((k:Int) - 1).toNat) om; have z2:=hT.l; have z3:=cm ws (((k:Int) - 1).toNat); have z4:(take n (ar ws ((k:Int) - 1).toNat)).length = n:=MM z.1; refine aO ?_; rw [Ij (n:=n) om z.1 bu]; omega)) (.val 97 (zI ((j:Int) + 1)) (zN (j + 1)) Fo (Hn.next next2 ⟨(j + 1),om,⟨⟩⟩ LI [(0,0),(8,8),(16,16),(24,24),(32,32),(40,40),(80,80),(112,112),(160,160)] qG))))))))) (fun p5=>(.s 2 (.op ((j:Int) + 1) Fp (.s 1 (.val 17 (zN (cJ (ar ws (uV ((k:Int) - 1))) j)) (zN (cJ (ar ws (uV ((k:Int) - 1))) (j + 1))) (by ( have z:=hT.i.nextk om (((k:Int) - 1).toNat) om; have z2:=hT.l; have z3:=cm ws (((k:Int) - 1).toNat); have z4:(take n (ar ws ((k:Int) - 1).toNat)).length = n:=MM z.1; rw [Ik (n:=n) om z.1 bu])) (.val 97 (zI ((j:Int) + 1)) (zN (j + 1)) Fo (Hn.next next2 ⟨(j + 1),om,⟨⟩⟩ LI [(0,0),(8,8),(16,16),(24,24),(32,32),(40,40),(80,80),(112,112),(160,160)] qG))))))))))))))) (fun p4=>have p4f:=aU p4; (.val 17 (zN (cJ (ar ws (uV ((k:Int) - 1))) j)) (zN (cJ (ar ws (uV ((k:Int) - 1))) n)) (by ( rw [show j = n from by omega])) (.val 97 (zN j) (zN n) Ig (Hn.last last2 0 (():Unit) rfl [(0,0),(8,8),(16,16),(24,24),(32,32),(40,40),(80,80),(112,112),(160,160)] qG))))))) (fun | ⟨j,hj,_⟩=>by kernel_rfl) ⟨(0),om,⟨⟩⟩ [(0,0),(8,8),(16,16),(24,24),(32,32),(40,40),(80,80),(112,112),(160,160)] qG (cb (fun | ()=>(.s 9 (.op ((n:Int) - (↑(cJ (ar ws (uV ((k:Int) - 1))) n):Int)) Fp (.s 1 (.chk (aL none (some ((n:Int) - (↑(cJ (ar ws (uV ((k:Int) - 1))) n):Int))) none N && true) (by ( have z:=hT.i.nextk om (((k:Int) - 1).toNat) om; have z2:=hT.l; have z3:=cm ws (((k:Int) - 1).toNat); have z4:(take n (ar ws ((k:Int) - 1).toNat)).length = n:=MM z.1; refine gH (n:=n - cJ (ar ws ((k:Int) - 1).toNat) n) ?_ ?_ <;> omega)) (.s 2 (.blk 16 16 (Blk.mk (map dB o) 5 true) (Blk.mk (map dB (cg o S 0)) 5 true) (by (rw [se])) (Hn.inl T_ok ai true 126 312 (aA Tryz.prog 108 3) (fun (x:(j:Nat) ×' (hj:j ≤ n - cJ (ar ws ((k:Int) - 1).toNat) n) ×' Unit)=>match x with | ⟨j,hj,_⟩=>CutS.mk [(4,zS),(5,zI 0),(6,D.ptr 8 8 0),(8,D.ptr 24 24 0),(14,D.ptr 80 80 0),(16,D.sl false (length (ar ws (uV ((k:Int) - 1)))) 2 (flatMap cy (ar ws (uV ((k:Int) - 1))))),(17,zN (cJ (ar ws (uV ((k:Int) - 1))) n)),(90,D.fn (MB 177) [] [D.ptr 112 112 0]),(92,D.sl false (length (ar ws (uV ((k:Int) - 1)))) 2 (flatMap cy (ar ws (uV ((k:Int) - 1))))),(93,D.sl false (length (ar ws (uV ((k:Int) - 1)))) 2 (flatMap cy (ar ws (uV ((k:Int) - 1))))),(94,zN n),(96,zN n),(97,zN n),(106,D.ref 0 0 0 N 1),(107,zN n),(108,zN (cJ (ar ws (uV ((k:Int) - 1))) n)),(109,zI ((n:Int) - (↑(cJ (ar ws (uV ((k:Int) - 1))) n):Int))),(110,D.ref 0 0 0 (uV ((n:Int) - (↑(cJ (ar ws (uV ((k:Int) - 1))) n):Int))) 1),(111,zN (uV ((n:Int) - (↑(cJ (ar ws (uV ((k:Int) - 1))) n):Int)))),(112,nD j)] [⟨0,0,0,0,.b ⟨map nD S,3,true⟩⟩,⟨8,8,8,8,.b ⟨[D.ref 0 0 0 N 1],152,false⟩⟩,⟨16,16,16,16,.b ⟨(cg o S j).map dB,5,true⟩⟩,⟨24,24,24,24,.b ⟨[D.ref 16 16 0 L 1],24,false⟩⟩,⟨32,32,32,32,.b ⟨map nD ws,3,true⟩⟩,⟨40,40,40,40,.b ⟨gG ws m m,225,true⟩⟩,⟨80,80,80,80,.b ⟨[zN n],3,false⟩⟩,⟨112,112,112,112,.b ⟨[D.ref 40 40 0 m 1],224,false⟩⟩,⟨160,160,160,160,.l OW none (rangeAt Tryz.prog 108 0).1 (rangeAt Tryz.prog 108 0).2.1 (rangeAt Tryz.prog 108 0).2.2 126 [(63,zN m),(87,zI (2 * (N:Int))),(5,zI 0),(9,D.ref 32 32 0 N 1),(89,D.ref 40 40 0 m 1),(85,D.ref 0 0 0 N 1),(4,zS),(8,D.ptr 24 24 0),(88,zI (2 * (N:Int) - 2)),(12,D.ref 40 40 0 m 1),(6,D.ptr 8 8 0),(90,D.fn (MB 177) [] [D.ptr 112 112 0]),(14,D.ptr 80 80 0),(86,zN N)]⟩] 384) (fun (x:(j:Nat) ×' (hj:j ≤ n - cJ (ar ws ((k:Int) - 1).toNat) n) ×' Unit)=>match x with | ⟨j,hj,_⟩=>n - cJ (ar ws ((k:Int) - 1).toNat) n - j) [⟨Unit,.exit 8,fun x=>match x with | ()=>CutS.mk [(4,zS),(5,zI 0),(6,D.ptr 8 8 0),(8,D.ptr 24 24 0),(14,D.ptr 80 80 0),(16,D.sl false (length (ar ws (uV ((k:Int) - 1)))) 2 (flatMap cy (ar ws (uV ((k:Int) - 1))))),(17,zN (cJ (ar ws (uV ((k:Int) - 1))) n)),(90,D.fn (MB 177) [] [D.ptr 112 112 0]),(92,D.sl false (length (ar ws (uV ((k:Int) - 1)))) 2 (flatMap cy (ar ws (uV ((k:Int) - 1))))),(93,D.sl false (length (ar ws (uV ((k:Int) - 1)))) 2 (flatMap cy (ar ws (uV ((k:Int) - 1))))),(94,zN n),(96,zN n),(97,zN n),(106,D.ref 0 0 0 N 1),(107,zN n),(108,zN (cJ (ar ws (uV ((k:Int) - 1))) n)),(109,zI ((n:Int) - (↑(cJ (ar ws (uV ((k:Int) - 1))) n):Int))),(110,D.ref 0 0 0 (uV ((n:Int) - (↑(cJ (ar ws (uV ((k:Int) - 1))) n):Int))) 1),(111,zN (uV ((n:Int) - (↑(cJ (ar ws (uV ((k:Int) - 1))) n):Int))))] [⟨0,0,0,0,.b ⟨map nD S,3,true⟩⟩,⟨8,8,8,8,.b ⟨[D.ref 0 0 0 N 1],152,false⟩⟩,⟨16,16,16,16,.b ⟨(cg o S (n - cJ (ar ws ((k:Int) - 1).toNat) n)).map dB,5,true⟩⟩,⟨24,24,24,24,.b ⟨[D.ref 16 16 0 L 1],24,false⟩⟩,⟨32,32,32,32,.b ⟨map nD ws,3,true⟩⟩,⟨40,40,40,40,.b ⟨gG ws m m,225,true⟩⟩,⟨80,80,80,80,.b ⟨[zN n],3,false⟩⟩,⟨112,112,112,112,.b ⟨[D.ref 40 40 0 m 1],224,false⟩⟩,⟨160,160,160,160,.l OW none (rangeAt Tryz.prog 108 0).1 (rangeAt Tryz.prog 108 0).2.1 (rangeAt Tryz.prog 108 0).2.2 126 [(63,zN m),(87,zI (2 * (N:Int))),(5,zI 0),(9,D.ref 32 32 0 N 1),(89,D.ref 40 40 0 m 1),(85,D.ref 0 0 0 N 1),(4,zS),(8,D.ptr 24 24 0),(88,zI (2 * (N:Int) - 2)),(12,D.ref 40 40 0 m 1),(6,D.ptr 8 8 0),(90,D.fn (MB 177) [] [D.ptr 112 112 0]),(14,D.ptr 80 80 0),(86,zN N)]⟩] 384⟩] 1000 64 (fun | ⟨j,hj,_⟩,Q,next2,last2=>(.s 2 (.br (decide ((j:Int) < (↑(uV ((n:Int) - (↑(cJ (ar ws (uV ((k:Int) - 1))) n):Int))):Int))) (fun p6=>have p6f:=aT p6; (.s 1 (.chk (true && decide ((j:Int) < (↑(uV ((n:Int) - (↑(cJ (ar ws (uV ((k:Int) - 1))) n):Int))):Int))) bu (.s 2 (.opt ((map nD S)[0 + j * 1]?) (nD (getD S (0 + j * 1) jk)) (av _ _ Ig) (.s 6 (.chk (true && decide ((↑(getD S (0 + j * 1) jk):Int) < (L:Int))) LJ (.s 2 (.opt ((map dB (cg o S j))[0 + getD S (0 + j * 1) jk * 1]?) (dB (getD (cg o S j) (0 + getD S (0 + j * 1) jk * 1) jk)) (av _ _ (by ( have z:=hT.i.nextk om (((k:Int) - 1).toNat) om; have z2:=hT.l; have z3:=cm ws (((k:Int) - 1).toNat); have z4:(take n (ar ws ((k:Int) - 1).toNat)).length = n:=MM z.1; have h9:=hA.at (t:=0 + j * 1) om; have h8:=cz o S j; omega))) (.s 2 (.opt (az .u8 ((↑(LW (getD (cg o S j) (0 + getD S (0 + j * 1) jk * 1) jk)):Int) + 1)) (bI (((↑(LW (getD (cg o S j) (0 + getD S (0 + j * 1) jk * 1) jk)):Int) + 1) % 256)) (aM _ _) (.s 1 (.chk (true && decide ((↑(getD S (0 + j * 1) jk):Int) < (L:Int))) LJ (.s 1 (.chk (true && LX (0 + getD S (0 + j * 1) jk * 1 + 1) (length (map dB (cg o S j)))) (by (rw [Ma];  have z:=hT.i.nextk om (((k:Int) - 1).toNat) om; have z2:=hT.l; have z3:=cm ws (((k:Int) - 1).toNat); have z4:(take n (ar ws ((k:Int) - 1).toNat)).length = n:=MM z.1; have h9:=hA.at (t:=0 + j * 1) om; have h8:=cz o S j; simp only [Ml]; refine L2 ?_; omega)) (.lst (aj (map dB (cg o S j)) (0 + getD S (0 + j * 1) jk * 1) [bI (((↑(LW (getD (cg o S j) (0 + getD S (0 + j * 1) jk * 1) jk)):Int) + 1) % 256)]) (aj (map dB (cg o S j)) (getD S j jk) [bI (((↑(LW (getD (cg o S j) (getD S j jk) jk)):Int) + 1) % 256)]) (by (simp; done)) (.s 2 (.op ((j:Int) + 1) Fp (.s 1 (.val 112 (zI ((j:Int) + 1)) (zN (j + 1)) Fo (.blk 16 16 (Blk.mk (aj (map dB (cg o S j)) (getD S j jk) [bI (((↑(LW (getD (cg o S j) (getD S j jk) jk)):Int) + 1) % 256)]) 5 true) (Blk.mk (map dB (cg o S (j + 1))) 5 true) (by ( have z:=hT.i.nextk om (((k:Int) - 1).toNat) om; have z2:=hT.l; have z3:=cm ws (((k:Int) - 1).toNat); have z4:(take n (ar ws ((k:Int) - 1).toNat)).length = n:=MM z.1; have h9:=hA.at (t:=0 + j * 1) om; have h8:=cz o S j; refine aC (Il om ?_ ?_ ?_) <;> first | (simp only [Mq,Ms]; done) | rfl | (simp only [Mq,Ms] at *; omega))) (Hn.next next2 ⟨(j + 1),om,⟨⟩⟩ (by show n - cJ (ar ws (uV ((k:Int) - 1))) n - (j + 1) < n - cJ (ar ws (uV ((k:Int) - 1))) n - j; clear next2 last2 next1 last1; omega) [(0,0),(8,8),(16,16),(24,24),(32,32),(40,40),(80,80),(112,112),(160,160)] qG)))))))))))))))))))))) (fun p6=>have p6f:=aU p6; (.blk 16 16 (Blk.mk (map dB (cg o S j)) 5 true) (Blk.mk (map dB (cg o S (n - cJ (ar ws (uV ((k:Int) - 1))) n))) 5 true) (by ( rw [show j = n - cJ (ar ws ((k:Int) - 1).toNat) n from by omega])) (Hn.last last2 0 (():Unit) rfl [(0,0),(8,8),(16,16),(24,24),(32,32),(40,40),(80,80),(112,112),(160,160)] qG)))))) (fun | ⟨j,hj,_⟩=>by kernel_rfl) ⟨(0),om,⟨⟩⟩ [(0,0),(8,8),(16,16),(24,24),(32,32),(40,40),(80,80),(112,112),(160,160)] qG (cb (fun | ()=>(.s 3 (.op (2 * (↑(cJ (ar ws (uV ((k:Int) - 1))) n):Int)) Fp (.s 8 (.ow ((k:Int) - 1 - 1) (.s 1 (.val 3 (zI ((k:Int) - 1 - 1)) (zI ((↑(k - 1):Int) - 1)) Ig (.blk 80 80 (Blk.mk [zI (2 * (↑(cJ (ar ws (uV ((k:Int) - 1))) n):Int))] 3 false) (Blk.mk [zN (2 * cJ (ar ws (uV ((k:Int) - 1))) n)] 3 false) (by ( exact CW om)) (Hn.next next1 ⟨(k - 1),(2 * cJ (ar ws ((k:Int) - 1).toNat) n),(cg o S (n - cJ (ar ws ((k:Int) - 1).toNat) n)),om,(by ( exact hT.next' om _ om)),⟨⟩⟩ (by show k - 1 < k; clear next1 last1; omega) [(0,0),(8,8),(16,16),(24,24),(32,32),(40,40),(80,80),(112,112),(160,160)] qG)))))))))))))))))))))))))))))) (fun p3=>have p3f:=aU p3; (.blk 16 16 (Blk.mk (map dB o) 5 true) (Blk.mk (map dB T) 5 true) (by ( rw [hT.last om])) (Hn.last last1 0 (⟨(n),⟨⟩⟩:(n2:Nat) ×' Unit) rfl [(0,0),(8,8),(16,16),(24,24),(32,32),(40,40),(80,80),(112,112),(160,160)] qG)))))) (fun | ⟨k,n,o,hk,hT,_⟩=>by kernel_rfl) ⟨(m),(2 * N - 2),(replicate L 0),om,om,⟨⟩⟩ [(0,0),(8,8),(16,16),(24,24),(32,32),(40,40),(80,80),(112,112),(160,160)] qG (cb (fun | ⟨n2,_⟩=>(.s 5 (.out [16] [16] (D.tup [D.ref 0 0 0 L 1,zI 0]) [Blk.mk (map dB T) 5 true] R (ok _ _ wr wr))))))))))))))))))))))))))))))))))))) (by kernel_rfl)
theorem I9 {p:Prop} (h:p:=by ( have h9:=hA.at (t:=0) om; refine decide_eq_true ?_; omega)):p:=h
theorem LK {p:Prop} (h:p:=by (have h9:((zw.bytes:Nat):Int) = 1:=rfl; rw [h9]; simp; omega)):p:=h
theorem In (W:List Nat) (L:Nat) (hL:L = W.length) (hL2:L ≤ 320) (hB:∀ t,W.getD t jk ≤ 1073741824) (m:Nat) (hm:1 ≤ m ∧ m ≤ 15) (S:List Nat) (hS:eS W = S) (N:Nat) (hN:N = S.length) (hNm:N ≤ 2 ^ m) (hA:bw L S) (hN3:N ≤ 320) (h2:N = 1):SpecH false Tryz.prog 108 [.sl false L 1 (W.map nD),nD m] [] (.tup [.ref 0 0 0 L 1,iD 0]) [⟨((Md L (0:UInt8)).set (S.getD 0 jk) (MW 1)).map dB, 5, true⟩]:=by
 refine SpecH.run T_ok ai Tryz.func108 rfl rfl rfl ⟨aW _,trivial⟩ rfl 1000 64 (fun R ok=>(.s 5 (.cl 144 false [] (.fn D0 (@oN (W) (L) om om om (m) om (S) bu (N) bu om)) (.s 18 (.chk (true && decide ((L:Int) ≤ (L:Int)) && true && true && true && true && decide ((↑(TI.bytes zw):Int) * (L:Int) ≤ 140737488355328)) LK (.s 11 (.t ((N:Int) == 1) I9 (.s 8 (.chk (true && decide (0 < (N:Int))) I9 (.s 2 (.opt ((map nD S)[0]?) (nD (getD S 0 jk)) (av _ _ om) (.s 1 (.chk (true && decide ((↑(getD S 0 jk):Int) < (L:Int))) I9 (.s 1 (.chk (true && LX (0 + getD S 0 jk * 1 + 1) (length (cD [bI 0] (L * 1)))) (by ( have h9:=hA.at (t:=0) om; rw [tV,Ma,Mu,Ml]; refine L2 ?_; omega)) (.lst (aj (cD [bI 0] (L * 1)) (0 + getD S 0 jk * 1) [bI 1]) (aj (cD [bI 0] L) (getD S 0 jk) [bI 1]) (by (simp; done)) (.s 6 (.t (decide ((N:Int) < 2)) I9 (.s 5 (.out [120] [120] (D.tup [D.ref 0 0 0 L 1,zI 0]) [Blk.mk (aj (cD [bI 0] L) (getD S 0 jk) [bI 1]) 5 true] R (ok _ _ wr (by ( have h9:=hA.at (t:=0) om; have e:=tV L; rw [Ms] at e; rw [e]; exact congrArg (fun z=>[Blk.mk z 5 true]) (w7 (a:=1) (by decide) (by rw [Mu]; omega))))))))))))))))))))))))) (by kernel_rfl)
theorem Io (W:List Nat) (L:Nat) (hL:L = W.length) (hL2:L ≤ 320) (hB:∀ t,W.getD t jk ≤ 1073741824) (m:Nat) (hm:1 ≤ m ∧ m ≤ 15) (S:List Nat) (hS:eS W = S) (N:Nat) (hN:N = S.length) (hNm:N ≤ 2 ^ m) (hA:bw L S) (hN3:N ≤ 320) (h2:N = 0):SpecH false Tryz.prog 108 [.sl false L 1 (W.map nD),nD m] [] (.tup [.ref 0 0 0 L 1,iD 0]) [⟨(Md L (0:UInt8)).map dB, 5, true⟩]:=by
 refine SpecH.run T_ok ai Tryz.func108 rfl rfl rfl ⟨aW _,trivial⟩ rfl 1000 64 (fun R ok=>(.s 5 (.cl 144 false [] (.fn D0 (@oN (W) (L) om om om (m) om (S) bu (N) bu om)) (.s 18 (.chk (true && decide ((L:Int) ≤ (L:Int)) && true && true && true && true && decide ((↑(TI.bytes zw):Int) * (L:Int) ≤ 140737488355328)) LK (.s 11 (.f ((N:Int) == 1) (by (refine decide_eq_false ?_; (omega))) (.s 6 (.t (decide ((N:Int) < 2)) (by (refine decide_eq_true ?_; (omega))) (.s 5 (.out [120] [120] (D.tup [D.ref 0 0 0 L 1,zI 0]) [Blk.mk (cD [bI 0] (L * 1)) 5 true] R (ok _ _ wr (by (rw [tV])))))))))))))) (by kernel_rfl)
def vd (W S:List Nat) (m:Nat):List UInt8 :=
 if S.length = 0 then Md W.length 0 else if S.length = 1 then (Md W.length 0).set (S.getD 0 jk) (MW 1)
 else Ae (oI W S S.length) S m (2 * S.length - 2) (Md W.length 0)
def bL (W:List Nat) (m:Nat):List UInt8:=lk W (vd W (eS W) m)
theorem kF (W:List Nat) (m:Nat):bL W m = vd W (eS W) m:=aF _ _
theorem oO (ws S:List Nat):∀ (k n:Nat) (o:List UInt8),(Ae ws S k n o).length = o.length
 | 0,_,_=>rfl
 | k + 1,n,o=>by rw [Ae,oO ws S k,cz]
theorem i4 (W:List Nat) (m:Nat):(bL W m).length = W.length:=by
 rw [kF,vd]
 split
 ·rw [Mu]
 ·split
  ·rw [NZ,Mu]
  ·rw [oO,Mu]
theorem Ip (W:List Nat) (L:Nat) (hL:L = W.length) (hL2:L ≤ 320) (hB:∀ t,W.getD t jk ≤ 1073741824) (m:Nat) (hm:1 ≤ m ∧ m ≤ 15) (hNm:(ew W L).length ≤ 2 ^ m):SpecH false Tryz.prog 108 [.sl false L 1 (W.map nD),nD m] [] (.tup [.ref 0 0 0 L 1,iD 0]) [⟨(bL W m).map dB, 5, true⟩]:=by
 have hp:=dL W
 have hl:=hp.length_eq
 have hA:bw L (eS W):=by rw [hL]; exact oH.perm hp
 have h3:=ir W L
 rw [← hL] at hl
 rw [kF,vd]
 by_cases c0:(eS W).length = 0
 ·rw [if_pos c0,← hL]
  exact Io W L hL hL2 hB m hm _ rfl _ rfl (by omega) hA (by omega) c0
 ·rw [if_neg c0]
  by_cases c1:(eS W).length = 1
  ·rw [if_pos c1,← hL]
   exact In W L hL hL2 hB m hm _ rfl _ rfl (by omega) hA (by omega) c1
  ·rw [if_neg c1,← hL]
   have hwl:(oI W (eS W) (eS W).length).length = (eS W).length:=kD (Mc _)
   refine Im W L hL hL2 hB m hm _ rfl _ rfl (by omega) hA (by omega) (by omega) _ rfl hwl (fun w hw=>?_) _ ⟨?_,Mu,rfl⟩
   ·rw [lT] at hw
    obtain ⟨i,_,rfl⟩:=List.mem_map.1 hw
    exact hB i
   ·have q:=LnI.first (ws:=oI W (eS W) (eS W).length) hm.1 (by rw [hwl]; omega) (by rw [hwl]; omega)
    rwa [hwl] at q
end Vp
end Go.Proofs.YtefjnofhgkjpmaaGreat
namespace Go.Proofs.YtefjnofhgkjpmaaGreat
open Go.RowKit Go.Bw Go.Vx
namespace Vp
theorem Ja {p:Prop} (h:p:=by rw [Mu]):p:=h
def ve (l:List Pc):Nat:=(l.filter (fun x=>!x.p)).length
def tW (l:List Pc):Nat:=(l.filter (·.p)).length
def sW (l:List Pc):List Nat:=(l.filter (fun x=>!x.p)).map (·.w)
theorem oP (a b:List Pc):ve (a ++ b) = ve a + ve b:=by unfold ve; rw [M2,LZ]
theorem tX (a b:List Pc):tW (a ++ b) = tW a + tW b:=by unfold tW; rw [M2,LZ]
theorem lV (ws:List Nat):ve (gb ws) = ws.length ∧ tW (gb ws) = 0:=by
 unfold ve tW gb
 refine ⟨?_,?_⟩
 ·rw [List.filter_eq_self.2 (fun x hx=>by obtain ⟨w,_,rfl⟩:=List.mem_map.1 hx; rfl),Ma]
 ·rw [List.filter_eq_nil_iff.2 (fun x hx=>by obtain ⟨w,_,rfl⟩:=List.mem_map.1 hx; simp)]; rfl
theorem lW (ws:List Nat) (n:Nat):(gb ws).take n = gb (ws.take n):=by unfold gb; rw [OL]
theorem xJ (ws:List Nat):sW (gb ws) = ws:=by
 unfold sW gb
 rw [List.filter_eq_self.2 (fun x hx=>by obtain ⟨w,_,rfl⟩:=List.mem_map.1 hx; rfl),List.map_map]
 exact List.map_id ws
theorem xK (s:Nat):∀ ws:List Nat,∃ em,(dX s ws).1 = gb em ++ [⟨s,true⟩] ∧ ws = em ++ (dX s ws).2 ∧ ∀ u r,(dX s ws).2 = u :: r → s < u
 | []=>⟨[],rfl,rfl,fun u r h=>by cases h⟩
 | w :: r=>by
  rw [dX]; split
  ·next q=>exact ⟨[],rfl,rfl,fun u r' h=>by cases h; exact q⟩
  ·obtain ⟨em,h1,h2,h3⟩:=xK s r
   exact ⟨w :: em,by rw [h1]; rfl,by rw [NQ,← h2],h3⟩
theorem xM:∀ (row:List Pc) (ws:List Nat),sW (ey row ws) = ws
 | [],ws=>xJ ws
 | [_],ws=>xJ ws
 | x :: y :: r,ws=>by
  obtain ⟨em,h1,h2,_⟩:=xK (x.w + y.w) ws
  have ih:=xM r (dX (x.w + y.w) ws).2
  rw [ey,h1]
  unfold sW at *
  rw [M2,MJ,ih,M2,MJ]
  have e:=xJ em
  unfold sW at e
  rw [e]
  show (em ++ []) ++ _ = ws
  rw [MN,← h2]
theorem EN (ws:List Nat):∀ k,sW (ar ws k) = ws
 | 0=>by rw [← oK,f8]; exact xM _ _
 | k + 1=>by rw [← lU,f8]; exact xM _ _
theorem tY:∀ (row:List Pc) (v ws:List Nat),sW row = v ++ ws → ∀ n,ve (row.take (2 * tW ((ey row ws).take n))) ≤ v.length + ve ((ey row ws).take n)
 | [],v,ws,_,n=>by
  have e:(ey [] ws).take n = gb (ws.take n):=lW ws n
  rw [e,(lV _).2]; exact MK _
 | [x],v,ws,_,n=>by
  have e:(ey [x] ws).take n = gb (ws.take n):=lW ws n
  rw [e,(lV _).2]; exact MK _
 | x :: y :: r,v,ws,h,n=>by
  obtain ⟨em,h1,h2,h3⟩:=xK (x.w + y.w) ws
  have ih:=tY r
  rw [ey,h1]
  generalize (dX (x.w + y.w) ws).2 = ws' at *
  rcases Mv em.length n with q | q
  ·have e:(gb em ++ [(⟨x.w + y.w,true⟩:Pc)] ++ ey r ws').take n = (gb em ++ [(⟨x.w + y.w,true⟩:Pc)]) ++ (ey r ws').take (n - (em.length + 1)):=by
    have l:(gb em ++ [(⟨x.w + y.w,true⟩:Pc)]).length = em.length + 1:=by unfold gb; rw [LZ,Ma]; rfl
    rw [PP,l,Mt (by omega)]
   rw [e,tX,tX,oP,oP,(lV em).1,(lV em).2]
   show ve ((x :: y :: r).take (2 * (0 + 1 + _))) ≤ v.length + (em.length + 0 + _)
   generalize hZ:(ey r ws').take (n - (em.length + 1)) = Z
   have hk:sW (x :: y :: r) = sW [x,y] ++ sW r:=by
    unfold sW
    rw [show x :: y :: r = [x,y] ++ r from rfl,M2,MJ]
   have hs:∀ u ∈ sW [x,y],u ≤ x.w + y.w:=fun u hu=>by
    obtain ⟨p,hp,rfl⟩:=List.mem_map.1 hu
    rcases List.mem_cons.1 (List.mem_filter.1 hp).1 with rfl | hp
    ·omega
    ·cases List.mem_singleton.1 hp; omega
   have hl:(sW [x,y]).length = ve [x,y]:=by unfold sW ve; rw [Ma]
   rw [hk,h2,← Mo] at h
   have hc:(sW [x,y]).length ≤ (v ++ em).length:=by
    rcases Mv (v ++ em).length (sW [x,y]).length with z | z
    ·exfalso
     have g:(sW [x,y] ++ sW r)[(v ++ em).length]? = (v ++ em ++ ws')[(v ++ em).length]?:=by rw [h]
     rw [List.getElem?_append_left z,List.getElem?_append_right (Mc _),M9,List.getElem?_eq_getElem z] at g
     cases hw:ws' with
     | nil=>rw [hw] at g; cases g
     | cons u t =>
      rw [hw] at g
      have g2:(sW [x,y])[(v ++ em).length] = u:=Option.some.inj g
      have:=hs _ (MG z)
      have:=h3 u t hw
      omega
    ·exact z
   have hr:sW r = (v ++ em).drop (sW [x,y]).length ++ ws' := by
    have g:=congrArg (MA (sW [x,y]).length) h
    rwa [List.drop_left,N5 hc] at g
   have i2:=ih _ ws' hr (n - (em.length + 1))
   rw [hZ,Mn,LZ,hl] at i2
   rw [LZ,hl] at hc
   have e3:(x :: y :: r).take (2 * (0 + 1 + tW Z)) = [x,y] ++ r.take (2 * tW Z):=by
    rw [show 2 * (0 + 1 + tW Z) = 2 * tW Z + 1 + 1 from by omega]; rfl
   rw [e3,oP]
   omega
  ·have e:(gb em ++ [(⟨x.w + y.w,true⟩:Pc)] ++ ey r ws').take n = gb (em.take n):=by
    have l:n ≤ (gb em).length:=by unfold gb; rw [Ma]; exact q
    rw [Mo,NF l,lW]
   rw [e,(lV _).2]; exact MK _
def CY (l:List Nat) (j:Nat):List Nat:=(l.take j).map (· + 1) ++ l.drop j
def lX (m:Nat):List Nat → Nat
 | []=>0
 | x :: r=>2 ^ (m - x) + lX m r
theorem oQ (m:Nat) (a b:List Nat):lX m (a ++ b) = lX m a + lX m b:=by
 induction a with
 | nil=>simp [lX]
 | cons x a ih=>rw [NQ,lX,lX,ih,M8]
theorem i5 (m d:Nat):∀ a,lX m (Md a d) = a * 2 ^ (m - d)
 | 0=>by simp [lX]
 | a + 1=>by rw [List.replicate_succ,lX,i5 m d a,Nat.succ_mul,Nat.add_comm]
def Ag (ws:List Nat):Nat → Nat → List Nat → List Nat
 | 0,_,l=>l
 | k + 1,n,l=>Ag ws k (2 * cJ (ar ws k) n) (CY l (n - cJ (ar ws k) n))
theorem tZ (a b d:Nat):Md (a + b) d = Md a d ++ Md b d:=List.replicate_append_replicate.symm
structure KrI (ws:List Nat) (m k n a:Nat) (l:List Nat):Prop where
 i:LnI ws k n
 km:k ≤ m
 z:k = 0 → n = 0
 nx:k ≠ 0 → n - cJ (ar ws (k - 1)) n ≤ a
 sh:∃ r,l = Md a (m - k) ++ r ∧ ∀ x ∈ r,x ≤ m - k
 ph:2 * lX m l = 2 * 2 ^ m + n * 2 ^ k
theorem xN (l:List Pc):l.length = tW l + ve l:=by unfold tW ve; exact oM l
theorem xP (row:List Pc) (n:Nat):cJ row n = tW (row.take n):=iu row n
theorem KrI.next {ws:List Nat} {m k n a:Nat} {l:List Nat} (h:KrI ws m (k + 1) n a l):KrI ws m k (2 * cJ (ar ws k) n) (n - cJ (ar ws k) n) (CY l (n - cJ (ar ws k) n)):=by
 have hn:=LnI.next h.i
 have ha:=h.nx (NR k)
 rw [NC] at ha
 obtain ⟨r,hr,hx⟩:=h.sh
 have hkm:=h.km
 generalize hc:cJ (ar ws k) n = c at *
 refine ⟨hn.2.2.2,by omega,fun hk=>?_,fun hk=>?_,?_,?_⟩
 ·subst hk
  have q:=tS (ar ws 0) n
  rw [(jv ws 0).2.1,if_pos rfl,hc] at q; omega
 ·obtain ⟨j,rfl⟩:∃ j,k = j + 1:=⟨k - 1,by omega⟩
  rw [NC]
  have q:=tY (ar ws j) [] ws (EN ws j) n
  rw [← f8,lU,← xP,hc] at q
  have q2:=xN ((ar ws (j + 1)).take n)
  rw [← xP,hc,L5] at q2
  have q3:=xN ((ar ws j).take (2 * c))
  have q4:=(hn.2.2.2).a (NR j)
  rw [NC] at q4
  rw [← xP,L5] at q3
  have q5:([]:List Nat).length = 0:=rfl
  omega
 ·refine ⟨Md (a - (n - c)) (m - (k + 1)) ++ r,?_,fun x hx2=>?_⟩
  ·unfold CY
   rw [hr,show a = (n - c) + (a - (n - c)) from by omega,tZ,N3,Mo,P5 Ja,P6 Ja,Ns,show m - (k + 1) + 1 = m - k from by omega]
  ·rcases List.mem_append.1 hx2 with q | q
   ·have:=(List.mem_replicate.1 q).2; omega
   ·have:=hx x q; omega
 ·have hp:=h.ph
  have e:l = Md (n - c) (m - (k + 1)) ++ (Md (a - (n - c)) (m - (k + 1)) ++ r):=by
   rw [hr,← Mo,← tZ,show n - c + (a - (n - c)) = a from by omega]
  have e2:CY l (n - c) = Md (n - c) (m - k) ++ (Md (a - (n - c)) (m - (k + 1)) ++ r):=by
   unfold CY
   rw [e,P5 Ja,P6 Ja,Ns,show m - (k + 1) + 1 = m - k from by omega]
  rw [e,oQ,i5,show m - (m - (k + 1)) = k + 1 from by omega] at hp
  rw [e2,oQ,i5,show m - (m - k) = k from by omega]
  generalize lX m (Md (a - (n - c)) (m - (k + 1)) ++ r) = Q at *
  have e3:n = (n - c) + c:=by omega
  generalize n - c = b at *
  subst e3
  rw [Ng] at hp
  generalize 2 ^ k = P at *
  rw [MT,Nr P 2,← M5,← M5,Nr b 2,Nr c 2,M5 2 b P,M5 2 c P] at hp
  rw [M5 2 c P]
  omega
theorem KrI.last {ws:List Nat} {m:Nat}:∀ (k n a:Nat) (l:List Nat),KrI ws m k n a l → lX m (Ag ws k n l) = 2 ^ m ∧ (∀ x ∈ Ag ws k n l,x ≤ m) ∧ (Ag ws k n l).length = l.length
 | 0,n,a,l,h=>by
  have hz:=h.z rfl
  have hp:=h.ph
  rw [hz,Nh] at hp
  obtain ⟨r,hr,hx⟩:=h.sh
  refine ⟨by rw [Ag]; omega,fun x hx2=>?_,rfl⟩
  rw [Ag,hr] at hx2
  rcases List.mem_append.1 hx2 with q | q
  ·have:=(List.mem_replicate.1 q).2; omega
  ·have:=hx x q; omega
 | k + 1,n,a,l,h=>by
  have q:=KrI.last k _ _ _ h.next
  rw [Ag]
  refine ⟨q.1,q.2.1,q.2.2.trans ?_⟩
  unfold CY
  rw [LZ,Ma,L5,Mn]; omega
theorem t0 {m:Nat}:∀ {l:List Nat},lX m l = 2 ^ m → 2 ≤ l.length → ∀ x ∈ l,x ≠ 0:=fun {l} h h2 x hx h0=>by
 obtain ⟨a,b,rfl⟩:=List.append_of_mem hx
 rw [oQ,lX,h0,OA] at h
 have pos:∀ l:List Nat,l.length ≤ lX m l:=fun l=>by
  induction l with
  | nil=>exact Mc _
  | cons y l ih=>rw [lX,Mr]; have:=Nq (m - y); omega
 have p1:=pos a
 have p2:=pos b
 rw [LZ,Mr] at h2
 omega
theorem xQ {m:Nat} (hm:m ≤ 15):∀ l:List Nat,(∀ x ∈ l,x ≤ m) → lX 15 l = 2 ^ (15 - m) * lX m l
 | [],_=>rfl
 | x :: r,h=>by
  have hx:=h x Mj
  rw [lX,lX,xQ hm r (fun y hy=>h y (Mg _ hy)),NN,← Pr,show 15 - m + (m - x) = 15 - x from by omega]
theorem LL {p:Prop} (h:p:=by rw [Ma,L5,Ma]; omega):p:=h
def ib (f:Nat → Nat):List Nat → Nat
 | []=>0
 | i :: r=>f i + ib f r
theorem t6 (f:Nat → Nat) (a b:List Nat):ib f (a ++ b) = ib f a + ib f b:=by
 induction a with
 | nil=>simp [ib]
 | cons x a ih=>rw [NQ,ib,ib,ih,M8]
theorem qI {f:Nat → Nat} {a b:List Nat} (h:a.Perm b):ib f a = ib f b:=by
 induction h with
 | nil=>rfl
 | cons x _ ih=>rw [ib,ib,ih]
 | swap x y l=>rw [ib,ib,ib,ib]; omega
 | trans _ _ h1 h2=>exact h1.trans h2
theorem oS {f:Nat → Nat} {p:Nat → Bool}:∀ l:List Nat,(∀ i ∈ l,p i = false → f i = 0) → ib f l = ib f (l.filter p)
 | [],_=>rfl
 | x :: r,h=>by
  have ih:=oS r fun i hi=>h i (Mg _ hi)
  cases hp:p x
  ·rw [Nw (by simp [hp]),ib,h x Mj hp,ih,Mq]
  ·rw [Nv hp,ib,ib,ih]
def kf (o:List UInt8) (i:Nat):Nat:=if (o.getD i jk).toNat = 0 then 0 else 2 ^ (15 - (o.getD i jk).toNat)
def uf (o:List UInt8) (i:Nat):Nat:=if (o.getD i jk).toNat = 0 then 0 else 1
theorem qJ (o:List UInt8):∀ k,k ≤ o.length → aX (o.take k) = ib (kf o) (MH k) ∧ bp (o.take k) = ib (uf o) (MH k)
 | 0,_=>⟨rfl,rfl⟩
 | k + 1,h=>by
  have ih:=qJ o k (by omega)
  rw [fW (by omega),io (by omega),N8,t6,t6,ih.1,ih.2]
  exact ⟨rfl,rfl⟩
theorem xR {W:List Nat} {o:List UInt8} (hl:o.length = W.length) (h0:∀ i,i < W.length → W.getD i jk = 0 → o.getD i jk = 0):aX o = ib (kf o) (eS W) ∧ bp o = ib (uf o) (eS W):=by
 have h:=qJ o o.length (Mc _)
 rw [M3,hl] at h
 have hz:∀ i,i < W.length → decide (0 < W.getD i jk) = false → (o.getD i jk).toNat = 0:=fun i hi hp=>by
  have hp:=of_decide_eq_false hp
  rw [h0 i hi (by omega)]; rfl
 rw [qI (dL W),qI (dL W),fb,h.1,h.2]
 exact ⟨oS _ fun i hi hp=>by unfold kf; rw [if_pos (hz i (List.mem_range.1 hi) hp)],oS _ fun i hi hp=>by unfold uf; rw [if_pos (hz i (List.mem_range.1 hi) hp)]⟩
theorem CZ (W:List Nat):(eS W).Nodup:=by
 rw [(dL W).nodup_iff,fb]; exact List.Nodup.sublist List.filter_sublist List.nodup_range
theorem si {W:List Nat} {i:Nat}:i ∈ eS W ↔ i < W.length ∧ 0 < W.getD i jk:=by
 rw [(dL W).mem_iff,fb,Oq,Pj,decide_eq_true_eq]
theorem oT {o:List UInt8} {i j:Nat} {v:UInt8} (hi:i < o.length):(o.set i v).getD j jk = if i = j then v else o.getD j jk:=by
 rw [List.getD_eq_getElem?_getD,List.getD_eq_getElem?_getD,List.getElem?_set]
 by_cases h:i = j
 ·rw [if_pos h,if_pos h,if_pos (by omega)]; rfl
 ·rw [if_neg h,if_neg h]
theorem Iq {S:List Nat} (hN:S.Nodup) {i j:Nat} (hi:i < S.length) (hj:j < S.length) (h:i ≠ j):S.getD i jk ≠ S.getD j jk:=by
 rw [List.getD_eq_getElem?_getD,List.getD_eq_getElem?_getD,List.getElem?_eq_getElem hi,List.getElem?_eq_getElem hj]
 rcases Nat.lt_or_gt_of_ne h with q | q
 ·exact List.pairwise_iff_getElem.1 hN _ _ hi hj q
 ·exact (List.pairwise_iff_getElem.1 hN _ _ hj hi q).symm
theorem xS {S:List Nat} (hN:S.Nodup) {o:List UInt8} (hA:bw o.length S):∀ j,j ≤ S.length → (∀ t,t < S.length → (cg o S j).getD (S.getD t jk) jk = if t < j then o.getD (S.getD t jk) jk + 1 else o.getD (S.getD t jk) jk) ∧ ∀ i,i ∉ S → (cg o S j).getD i jk = o.getD i jk
 | 0,_=>⟨fun t _=>by rw [se,if_neg (M7 t)],fun i _=>by rw [se]⟩
 | j + 1,h=>by
  have ih:=xS hN hA j (by omega)
  have hb:=hA.at (t:=j) (by omega)
  refine ⟨fun t ht=>?_,fun i hi=>?_⟩
  ·rw [sf (by omega),oT (by rw [cz]; exact hb)]
   by_cases e:j = t
   ·subst e; rw [if_pos rfl,ih.1 j ht,if_neg (OJ j),if_pos (O8 j)]
   ·rw [if_neg (Iq hN (by omega) ht e),ih.1 t ht]
    by_cases q:t < j
    ·rw [if_pos q,if_pos (by omega)]
    ·rw [if_neg q,if_neg (by omega)]
  ·rw [sf (by omega),oT (by rw [cz]; exact hb),if_neg (fun q=>hi (by rw [← q,List.getD_eq_getElem?_getD,List.getElem?_eq_getElem (by omega)]; exact MG _)),ih.2 i hi]
def oU (S:List Nat) (o:List UInt8):List Nat:=S.map fun i=>(o.getD i jk).toNat
theorem Ah {S:List Nat} (hN:S.Nodup) {o:List UInt8} (hA:bw o.length S) {j:Nat} (hj:j ≤ S.length) (hb:∀ x ∈ oU S o,x < 255):oU S (cg o S j) = CY (oU S o) j:=by
 have h:=(xS hN hA j hj).1
 unfold oU CY at *
 apply List.ext_getElem?
 intro t
 rcases Mv t S.length with q | q
 ·have e:S[t] = S.getD t jk:=by rw [List.getD_eq_getElem?_getD,List.getElem?_eq_getElem q]; rfl
  have hx:=hb ((o.getD (S.getD t jk) jk).toNat) (List.mem_map.2 ⟨S[t],MG q,by rw [e]⟩)
  rw [List.getElem?_map,List.getElem?_eq_getElem q,e]
  show some ((cg o S j).getD (S.getD t jk) jk).toNat = _
  rw [h t q]
  by_cases z:t < j
  ·rw [if_pos z,List.getElem?_append_left LL,List.getElem?_map,List.getElem?_take,if_pos z,List.getElem?_map,List.getElem?_eq_getElem q,e]
   show some _ = some ((o.getD (S.getD t jk) jk).toNat + 1)
   rw [P4]
   show some ((_ + 1) % 256) = _
   congr 1; omega
  ·rw [if_neg z,List.getElem?_append_right LL,Ma,L5,Ma,List.getElem?_drop,show j + (t - min j S.length) = t from by omega,List.getElem?_map,List.getElem?_eq_getElem q,e]; rfl
 ·rw [List.getElem?_eq_none (by rw [Ma]; exact q),List.getElem?_eq_none (by rw [LZ,Ma,L5,Mn,Ma]; omega)]
theorem xT {ws S:List Nat} {m:Nat} (hm:m ≤ 15) (hN:S.Nodup) (hw:ws.length = S.length):∀ (k n a:Nat) (o:List UInt8),bw o.length S → KrI ws m k n a (oU S o) → oU S (Ae ws S k n o) = Ag ws k n (oU S o) ∧ ∀ i,i ∉ S → (Ae ws S k n o).getD i jk = o.getD i jk
 | 0,n,a,o,hA,h=>⟨rfl,fun _ _=>rfl⟩
 | k + 1,n,a,o,hA,h=>by
  have hn:=(LnI.next h.i).2.2.1
  rw [hw] at hn
  have hb:∀ x ∈ oU S o,x < 255:=fun x hx=>by
   obtain ⟨r,hr,hx2⟩:=h.sh
   rw [hr] at hx
   rcases List.mem_append.1 hx with q | q
   ·have:=(List.mem_replicate.1 q).2; omega
   ·have:=hx2 x q; omega
  have e:=Ah hN hA hn hb
  have ih:=xT hm hN hw k _ _ (cg o S (n - cJ (ar ws k) n)) (by rw [cz]; exact hA) (by rw [e]; exact h.next)
  rw [Ae,Ag,← e]
  exact ⟨ih.1,fun i hi=>(ih.2 i hi).trans ((xS hN hA _ hn).2 i hi)⟩
theorem lY (W:List Nat) (hL:W.length ≤ 320) (m:Nat) (hm:1 ≤ m ∧ m ≤ 15) (hNm:(ew W W.length).length ≤ 2 ^ m):cM (bL W m) m = 0:=by
 have hp:=dL W
 have hA:bw W.length (eS W):=oH.perm hp
 have hlen:=i4 W m
 have hl:=hp.length_eq
 have fin:(∀ i,i < W.length → ((bL W m).getD i jk).toNat ≤ m) → (aX (bL W m) = 32768 ∨ bp (bL W m) = 0 ∨ bp (bL W m) = 1 ∧ aX (bL W m) = 16384) → aX (bL W m) ≤ 32768 → cM (bL W m) m = 0:=fun h1 h2 h3=>by
  rw [iP]; unfold rY
  rw [hlen,if_neg (by omega),kv (fun i hi=>h1 i (by rw [hlen] at hi; exact hi)),if_neg (by decide),if_neg (by omega),if_pos h2]
 have zero:∀ i,W.length ≤ i ∨ True → (Md W.length (0:UInt8)).getD i jk = 0:=fun i _=>by
  rw [List.getD_eq_getElem?_getD,List.getElem?_replicate]; split <;> rfl
 rw [kF,vd] at fin ⊢
 by_cases c0:(eS W).length = 0
 ·rw [if_pos c0] at fin ⊢
  have s:=xR (W:=W) (o:=Md W.length 0) Mu (fun i _ _=>zero i (.inr trivial))
  rw [Mm c0] at s
  exact fin (fun i _=>by rw [zero i (.inr trivial)]; exact MK _) (.inr (.inl s.2)) (by rw [s.1]; exact MK _)
 ·rw [if_neg c0] at fin ⊢
  by_cases c1:(eS W).length = 1
  ·rw [if_pos c1] at fin ⊢
   obtain ⟨i0,h0⟩:∃ i0,eS W = [i0]:=List.length_eq_one_iff.1 c1
   rw [h0] at fin hA ⊢
   have hi:i0 < W.length:=hA i0 (List.mem_singleton.2 rfl)
   have at' : ∀ j,((Md W.length (0:UInt8)).set i0 (MW 1)).getD j jk = if i0 = j then MW 1 else 0:=fun j=>by
    rw [oT (by rw [Mu]; exact hi),zero j (.inr trivial)]
   have s:=xR (W:=W) (o:=(Md W.length 0).set i0 (MW 1)) (by rw [NZ,Mu]) (fun i hi2 hz=>by
    rw [at', if_neg (fun q=>by
     have:=(si (W:=W) (i:=i0)).1 (by rw [h0]; exact List.mem_singleton.2 rfl)
     rw [q] at this; omega)])
   rw [h0] at s
   have e1:ib (kf ((Md W.length 0).set i0 (MW 1))) [i0] = 16384:=by
    rw [ib,ib,kf,at', if_pos rfl]; rfl
   have e2:ib (uf ((Md W.length 0).set i0 (MW 1))) [i0] = 1:=by
    rw [ib,ib,uf,at', if_pos rfl]; rfl
   rw [e1,e2] at s
   refine fin (fun i _=>?_) (.inr (.inr ⟨s.2,s.1⟩)) (by show aX ((Md W.length 0).set i0 (MW 1)) ≤ _; rw [s.1]; decide)
   show (((Md W.length 0).set i0 (MW 1)).getD i jk).toNat ≤ m
   rw [at']; split
   ·exact hm.1
   ·exact MK _
  ·rw [if_neg c1] at fin ⊢
   have hw:(oI W (eS W) (eS W).length).length = (eS W).length:=kD (Mc _)
   have hS:=CZ W
   have hlast:2 * (eS W).length - 2 ≠ 0:=by omega
   generalize hSS:eS W = S at *
   generalize oI W S S.length = ws at *
   have hv:oU S (Md W.length 0) = Md S.length 0:=by
    unfold oU
    rw [OD]
    refine ⟨by rw [Ma],fun b hb=>?_⟩
    obtain ⟨i,_,rfl⟩:=List.mem_map.1 hb
    rw [zero i (.inr trivial)]; rfl
   have hI:LnI ws m (2 * S.length - 2):=by
    have:=LnI.first (ws:=ws) hm.1 (by rw [hw]; omega) (by rw [hw]; omega)
    rwa [hw] at this
   have hK:KrI ws m m (2 * S.length - 2) S.length (oU S (Md W.length 0)):=by
    refine ⟨hI,Mc _,fun q=>by omega,fun q=>?_,⟨[],by rw [hv,M9,MN],fun x hx=>by cases hx⟩,?_⟩
    ·have:=(hI.nextk (by omega) (m - 1) rfl).2.2
     rwa [hw] at this
    ·rw [hv,i5,OA]
     generalize 2 ^ m = P
     rw [PR,M5]
     have:1 * P ≤ S.length * P:=MF _ (by omega)
     omega
   have hA0:bw (Md W.length (0:UInt8)).length S:=by rw [Mu]; exact hA
   have r:=xT hm.2 hS hw m _ _ _ hA0 hK
   have q:=KrI.last m _ _ _ hK
   rw [← r.1] at q
   generalize hO:Ae ws S m (2 * S.length - 2) (Md W.length 0) = O at *
   have hOl:O.length = W.length:=by rw [← hO,oO,Mu]
   have hp2:=t0 q.1 (by unfold oU; rw [Ma]; omega)
   have s:=xR (W:=W) (o:=O) hOl (fun i hi hz=>by
    rw [r.2 i (fun hm2=>by rw [← hSS] at hm2; have:=si.1 hm2; omega),zero i (.inr trivial)])
   rw [hSS] at s
   have e1:∀ l:List Nat,(∀ i ∈ l,(O.getD i jk).toNat ≠ 0) → ib (kf O) l = lX 15 (oU l O):=fun l=>by
    induction l with
    | nil=>intro _; rfl
    | cons x l ih =>
     intro h
     have hx:=h x Mj
     show kf O x + ib (kf O) l = 2 ^ (15 - _) + lX 15 (oU l O)
     rw [ih fun i hi=>h i (Mg _ hi),kf,if_neg hx]
   have e2:=e1 S fun i hi=>hp2 _ (List.mem_map.2 ⟨i,hi,rfl⟩)
   have e3:=xQ hm.2 (oU S O) q.2.1
   rw [q.1,← Pr,show 15 - m + m = 15 from by omega] at e3
   have hk:aX O = 32768:=by rw [s.1,e2,e3]
   refine fin (fun i hi=>?_) (.inl hk) (Nat.le_of_eq hk)
   by_cases hi2:i ∈ S
   ·exact q.2.1 _ (List.mem_map.2 ⟨i,hi2,rfl⟩)
   ·rw [r.2 i hi2,zero i (.inr trivial)]; exact MK _
end Vp
end Go.Proofs.YtefjnofhgkjpmaaGreat
namespace Go.Proofs.YtefjnofhgkjpmaaGreat
open Go.RowKit Go.Bw Go.Vx
namespace Vp
def bq (k:Nat) (S:List Nat):List Nat:=lk S ((MH k).map fun i=>S.count i)
theorem xU (k:Nat) (S:List Nat):bq k S = (MH k).map fun i=>S.count i:=aF _ _
theorem dY (k:Nat) (S:List Nat):(bq k S).length = k:=by rw [xU,Ma,M4]
theorem t7 (k:Nat) (S:List Nat) (i:Nat):(bq k S)[i]? = if i < k then some (S.count i) else none:=by
 rw [xU,List.getElem?_map]
 rcases Mv i k with h | h
 ·rw [List.getElem?_range h,if_pos h]; rfl
 ·rw [List.getElem?_eq_none (by simpa using h),if_neg (by omega)]; rfl
theorem sj (k:Nat) (S:List Nat) (i:Nat):(bq k S).getD i jk = if i < k then S.count i else 0:=by
 rw [List.getD_eq_getElem?_getD,t7]; split <;> rfl
theorem fc (k:Nat) (S:List Nat) (i:Nat):(bq k S).getD i jk ≤ S.length:=by
 rw [sj]; split
 ·exact List.count_le_length
 ·exact MK _
theorem xV (k:Nat):bq k [] = Md k 0:=by
 apply List.ext_getElem?
 intro i
 rw [t7,List.getElem?_replicate]; rfl
theorem Ir {k:Nat} {S:List Nat} {i:Nat} (h:i < k):bq k (S ++ [i]) = (bq k S).set i ((bq k S).getD i jk + 1):=by
 apply List.ext_getElem?
 intro j
 rw [List.getElem?_set,dY,t7,t7]
 by_cases e:i = j
 ·subst e; rw [if_pos h,if_pos rfl,if_pos h,sj,if_pos h,PJ,Ps,beq_self_eq_true]; rfl
 ·rw [if_neg e]; split
  ·rw [PJ,Ps,beq_eq_false_iff_ne.2 (fun q=>e q)]; rfl
  ·rfl
theorem xW {k:Nat} {S:List Nat} {i a b:Nat} {x:Int} (h:i < k) (ha:a = i) (hb:b = i) (hx:x = (((bq k S).getD b jk:Nat):Int) + 1):aj ((bq k S).map nD) a [D.v (.int .i64 x)] = (bq k (S ++ [i])).map nD:=by
 subst ha hb hx; rw [Ir h]; exact Ez (by rw [dY]; exact h)
def C2 (T1:List Sy) (t:Tn):Nat:=if t.long = 0 then t.lit.toNat else 257 + ao T1 t.long
def EO (T2:List Sy) (t:Tn):List Nat:=if t.long = 0 then [] else [ao T2 t.dist]
def cO (T1:List Sy) (l:List Tn) (i:Nat):List Nat:=lk l ((l.take i).map (C2 T1))
def ez (T2:List Sy) (l:List Tn) (i:Nat):List Nat:=lk l ((l.take i).flatMap (EO T2))
section
variable {T1 T2:List Sy} {l:List Tn} {i:Nat}
theorem qK:cO T1 l i = (l.take i).map (C2 T1):=aF _ _
theorem t8:ez T2 l i = (l.take i).flatMap (EO T2):=aF _ _
theorem KG:cO T1 l 0 = []:=qK
theorem Is:ez T2 l 0 = []:=t8
theorem oV:(cO T1 l i).length ≤ i:=by rw [qK,Ma,L5]; omega
theorem EP (h:i < l.length):ez T2 l (i + 1) = ez T2 l i ++ EO T2 (l.getD i jk):=by
 have e1:l.take (i + 1) = l.take i ++ [l.getD i jk]:=by
  rw [Mw h,List.getD_eq_getElem?_getD,List.getElem?_eq_getElem h]; rfl
 rw [t8,t8,e1,NA,N6]
theorem It (h:i < l.length):cO T1 l (i + 1) = cO T1 l i ++ [C2 T1 (l.getD i jk)]:=by
 have e1:l.take (i + 1) = l.take i ++ [l.getD i jk]:=by
  rw [Mw h,List.getD_eq_getElem?_getD,List.getElem?_eq_getElem h]; rfl
 rw [qK,qK,e1,MJ]; rfl
theorem sk:∀ i,i ≤ l.length → (ez T2 l i).length ≤ i
 | 0,_=>by rw [Is]; exact Mc _
 | i + 1,h=>by
  rw [EP (by omega),LZ]
  have:=sk i (by omega)
  unfold EO; split <;> simp <;> omega
theorem C3 (h:i < l.length) (h0:(l.getD i jk).long = 0):cO T1 l (i + 1) = cO T1 l i ++ [(l.getD i jk).lit.toNat] ∧ ez T2 l (i + 1) = ez T2 l i:=by
 rw [It h,EP h,C2,EO,if_pos h0,if_pos h0,MN]; exact ⟨rfl,rfl⟩
theorem C4 (h:i < l.length) (h0:(l.getD i jk).long ≠ 0):cO T1 l (i + 1) = cO T1 l i ++ [257 + ao T1 (l.getD i jk).long] ∧ ez T2 l (i + 1) = ez T2 l i ++ [ao T2 (l.getD i jk).dist]:=by
 rw [It h,EP h,C2,EO,if_neg h0,if_neg h0]; exact ⟨rfl,rfl⟩
end
theorem xX:∀ (l:List UInt8) (n:Nat),(∀ i,n ≤ i → (l.getD i jk).toNat = 0) → aX (l.take n) = aX l ∧ bp (l.take n) = bp l
 | [],n,_=>by rw [List.take_nil]; exact ⟨rfl,rfl⟩
 | x :: r,0,h=>by
  have ih:=xX r 0 fun i _=>h (i + 1) (MK _)
  have h0:x.toNat = 0:=h 0 (Mc _)
  rw [List.take_zero] at ih ⊢
  rw [aX,aX,bp,bp,if_pos h0,if_pos h0,← ih.1,← ih.2]; exact ⟨rfl,rfl⟩
 | x :: r,n + 1,h=>by
  have ih:=xX r n fun i hi=>h (i + 1) (NP hi)
  rw [Pv,aX,aX,bp,bp,ih.1,ih.2]; exact ⟨rfl,rfl⟩
theorem t9 {l:List UInt8} {m:Nat}:∀ n,∀ i,tJ l m n ≤ i → i < n → l.getD i jk = 0
 | 0,i,_,h=>absurd h (M7 _)
 | n + 1,i,h,h2=>by
  rw [tJ] at h
  split at h
  ·next q =>
   rcases Mv i n with r | r
   ·exact t9 n i h r
   ·rw [show i = n from by omega]; exact q.2
  ·omega
theorem kG {l:List UInt8} {i:Nat} (h:l.length ≤ i):l.getD i jk = 0:=by
 rw [List.getD_eq_getElem?_getD,List.getElem?_eq_none h]; rfl
def qZ (l:List UInt8) (m:Nat):List UInt8:=lk l (l.take (gA l m))
theorem jx (l:List UInt8) (m:Nat):qZ l m = l.take (gA l m):=aF _ _
theorem kH (l:List UInt8) (m:Nat):(qZ l m).length = gA l m:=by
 rw [jx,L5]; have:=(js l m).1; omega
theorem EQ (l:List UInt8) (m i:Nat):(qZ l m).getD i jk = l.getD i jk:=by
 rw [jx,List.getD_eq_getElem?_getD,List.getElem?_take]
 split
 ·rw [List.getD_eq_getElem?_getD]
 ·rcases Mv i l.length with q | q
  ·rw [t9 (m:=m) l.length i (by rw [← lK]; omega) q]; rfl
  ·rw [kG q]; rfl
theorem ua {l:List UInt8} {m q:Nat} (h:cM l m = 0):cM (qZ l q) m = 0:=by
 have h0:=eZ h
 have hk:=xX l (gA l q) (fun i hi=>by
  rcases Mv i l.length with r | r
  ·rw [t9 (m:=q) l.length i (by rw [← lK]; exact hi) r]; rfl
  ·rw [kG r]; rfl)
 have hl:(qZ l q).length ≤ 320:=by rw [kH]; have:=(js l q).1; omega
 have ho:dr (qZ l q) m = false:=kv fun i hi=>by
  rw [EQ]
  exact eN h0.2.1 (by rw [kH] at hi; have:=(js l q).1; omega)
 rw [iP] at h ⊢
 unfold rY at h ⊢
 rw [if_neg (by omega),h0.2.1] at h
 rw [if_neg (by omega),ho,show aX (qZ l q) = aX l from by rw [jx]; exact hk.1,show bp (qZ l q) = bp l from by rw [jx]; exact hk.2]
 exact h
def d8 {α:Type} (H:List Nm) (g:α → List Nm) (l:List α) (i:Nat):List Nm:=lk l (H ++ (l.take i).flatMap g)
section
variable {α:Type} {H:List Nm} {g:α → List Nm} {l:List α} {i:Nat}
theorem jy:d8 H g l i = H ++ (l.take i).flatMap g:=aF _ _
theorem qL:d8 H g l 0 = H:=by rw [jy]; exact MN _
theorem qM [Inhabited α] (h:i < l.length):d8 H g l (i + 1) = d8 H g l i ++ g (l.getD i jk):=by
 have e1:l.take (i + 1) = l.take i ++ [l.getD i jk]:=by
  rw [Mw h,List.getD_eq_getElem?_getD,List.getElem?_eq_getElem h]; rfl
 rw [jy,jy,e1,NA,← Mo,N6]
theorem i6 [Inhabited α] {c:Nat} (hc:∀ x,(g x).length = c):∀ i,i ≤ l.length → (d8 H g l i).length = H.length + c * i
 | 0,_=>by rw [qL]; rfl
 | i + 1,h=>by
  rw [qM (by omega),LZ,i6 hc i (by omega),hc,NN,Ms,M8]
end
def lZ (x:UInt8):List Nm:=[⟨x.toNat,3⟩]
def mf (C:List (Nat × Nat)) (r:Rn):List Nm:=gB C r.s (rb r.s) r.x
def oW:List Nat:=[16,17,18,0,8,7,9,6,10,5,11,4,12,3,13,2,14,1,15]
theorem Iu:∀ i,i < 19 → oW.getD i jk < 19:=by decide
def ja (C:List UInt8) (i:Nat):List UInt8:=lk C ((oW.take i).map fun s=>C.getD s jk)
theorem l6 (C:List UInt8) (i:Nat):ja C i = (oW.take i).map fun s=>C.getD s jk:=aF _ _
theorem Iv (C:List UInt8):ja C 0 = []:=l6 C 0
theorem ub (C:List UInt8) {i:Nat} (h:i ≤ 19):(ja C i).length = i:=by
 rw [l6,Ma,L5,show oW.length = 19 from rfl]; omega
theorem Iw (C:List UInt8) {i:Nat} (h:i < 19):ja C (i + 1) = ja C i ++ [C.getD (oW.getD i jk) jk]:=by
 have e1:oW.take (i + 1) = oW.take i ++ [oW.getD i jk]:=by
  rw [Mw (show i < oW.length from h),List.getD_eq_getElem?_getD,List.getElem?_eq_getElem (show i < oW.length from h)]; rfl
 rw [l6,l6,e1,MJ]; rfl
theorem KH (i:Nat) (h:i < 19):(oW.map nD)[i]? = some (nD (oW.getD i jk)):=by
 rw [List.getElem?_map,List.getElem?_eq_getElem (show i < oW.length from h),List.getD_eq_getElem?_getD,List.getElem?_eq_getElem (show i < oW.length from h)]; rfl
theorem l7 {l:List UInt8} (ho:∀ i,(l.getD i jk).toNat ≤ 15):∀ (f a:Nat),∀ r ∈ jp l f a,r.s ≤ 18 ∧ r.x < 2 ^ rb r.s
 | 0,_=>fun r hr=>absurd hr N2
 | f + 1,a=>by
  rw [jp]
  split
  ·exact fun r hr=>absurd hr N2
  ·split
   ·intro r hr
    rcases List.mem_cons.1 hr with e | e
    ·subst e; refine ⟨Mc _,?_⟩; show min (co l a) 138 - 11 < 2 ^ 7; omega
    ·exact l7 ho f _ r e
   ·split
    ·intro r hr
     rcases List.mem_cons.1 hr with e | e
     ·subst e; refine ⟨Nat.le_succ _,?_⟩; show co l a - 3 < 2 ^ 3; omega
     ·exact l7 ho f _ r e
    ·split
     ·intro r hr
      rcases List.mem_cons.1 hr with e | e
      ·subst e; refine ⟨show (16:Nat) ≤ 18 from by decide,?_⟩; show min (co l a) 6 - 3 < 2 ^ 2; omega
      ·exact l7 ho f _ r e
     ·intro r hr
      rcases List.mem_cons.1 hr with e | e
      ·subst e
       have h1:=ho a
       refine ⟨L0 h1 (by decide),?_⟩
       show 0 < 2 ^ rb _
       exact Nq _
      ·exact l7 ho f _ r e
theorem ER {l:List UInt8} (ho:∀ i,(l.getD i jk).toNat ≤ 15) (i:Nat):((vm l).getD i jk).s ≤ 18 ∧ ((vm l).getD i jk).x < 2 ^ rb ((vm l).getD i jk).s:=by
 rw [List.getD_eq_getElem?_getD]
 rcases Mv i (vm l).length with h | h
 ·rw [List.getElem?_eq_getElem h]
  have hm:(vm l)[i] ∈ jp l l.length 0:=by rw [← r6]; exact MG h
  exact l7 ho _ _ _ hm
 ·rw [List.getElem?_eq_none h]; exact ⟨MK _,by decide⟩
theorem Ai (l:List UInt8):(vm l).length ≤ l.length:=by rw [r6]; exact iQ _ _ _
theorem ES (l:List UInt8) (j:Nat) (ho:dr l 15 = false):(af l).getD j jk = if j < l.length ∧ (l.getD j jk).toNat ≠ 0 then (qk l j,(l.getD j jk).toNat) else (0,0):=by
 rw [← Co ho,lJ,List.getD_eq_getElem?_getD,List.getElem?_map]
 rcases Mv j l.length with h | h
 ·rw [List.getElem?_range h]; exact rfl
 ·rw [List.getElem?_eq_none (by simpa using h),if_neg (by omega)]; rfl
theorem xY {l:List UInt8} {s:Nat} (h:s < l.length):(ek l (l.getD s jk).toNat s).length < (ek l (l.getD s jk).toNat l.length).length:=by
 obtain ⟨r,hr⟩:=lG l (l.getD s jk).toNat (s + 1) (l.length - (s + 1))
 rw [show s + 1 + (l.length - (s + 1)) = l.length from by omega,gW,if_pos rfl] at hr
 rw [hr,LZ,LZ,MI]; omega
theorem er {l:List UInt8} (h:cM l 15 = 0):mc (af l):=fun s=>by
 have h0:=eZ h
 rw [ES l s h0.2.1]
 split
 ·next q =>
  have h1:=eN h0.2.1 q.1
  refine ⟨h1,?_⟩
  have h2:=Cp h h1
  have h3:=Ck rfl q.2 h1
  have h4:=xY q.1
  show qk l s < 2 ^ (l.getD s jk).toNat
  rw [lw] at h2
  unfold wR at h2
  rw [if_neg q.2] at h2
  omega
 ·exact ⟨MK _,by decide⟩
theorem qN (W:List Nat) (hL:W.length ≤ 320) (m:Nat) (hm:1 ≤ m ∧ m ≤ 15) (hNm:(ew W W.length).length ≤ 2 ^ m) {i:Nat} (hi0:0 < W.getD i jk):((bL W m).getD i jk).toNat ≠ 0:=by
 have hp:=dL W
 have hA:bw W.length (eS W):=oH.perm hp
 have hl:=hp.length_eq
 have hiW:i < W.length:=by
  rcases Mv i W.length with q | q
  ·exact q
  ·rw [List.getD_eq_getElem?_getD,List.getElem?_eq_none q] at hi0; exact absurd hi0 (OJ 0)
 have hiS:i ∈ eS W:=si.2 ⟨hiW,hi0⟩
 have zero:∀ i,(Md W.length (0:UInt8)).getD i jk = 0:=fun i=>by
  rw [List.getD_eq_getElem?_getD,List.getElem?_replicate]; split <;> rfl
 rw [kF,vd]
 by_cases c0:(eS W).length = 0
 ·rw [Mm c0] at hiS; exact absurd hiS N2
 ·rw [if_neg c0]
  by_cases c1:(eS W).length = 1
  ·rw [if_pos c1]
   obtain ⟨i0,h0⟩:∃ i0,eS W = [i0]:=List.length_eq_one_iff.1 c1
   rw [h0] at hiS ⊢
   have e:i = i0:=List.mem_singleton.1 hiS
   subst e
   show (((Md W.length (0:UInt8)).set i (MW 1)).getD i jk).toNat ≠ 0
   rw [oT (by rw [Mu]; exact hiW),if_pos rfl]; decide
  ·rw [if_neg c1]
   have hw:(oI W (eS W) (eS W).length).length = (eS W).length:=kD (Mc _)
   have hS:=CZ W
   generalize hSS:eS W = S at *
   generalize oI W S S.length = ws at *
   have hv:oU S (Md W.length 0) = Md S.length 0:=by
    unfold oU
    rw [OD]
    refine ⟨by rw [Ma],fun b hb=>?_⟩
    obtain ⟨i,_,rfl⟩:=List.mem_map.1 hb
    rw [zero i]; rfl
   have hI:LnI ws m (2 * S.length - 2):=by
    have:=LnI.first (ws:=ws) hm.1 (by rw [hw]; omega) (by rw [hw]; omega)
    rwa [hw] at this
   have hK:KrI ws m m (2 * S.length - 2) S.length (oU S (Md W.length 0)):=by
    refine ⟨hI,Mc _,fun q=>by omega,fun q=>?_,⟨[],by rw [hv,M9,MN],fun x hx=>by cases hx⟩,?_⟩
    ·have:=(hI.nextk (by omega) (m - 1) rfl).2.2
     rwa [hw] at this
    ·rw [hv,i5,OA]
     generalize 2 ^ m = P
     rw [PR,M5]
     have:1 * P ≤ S.length * P:=MF _ (by omega)
     omega
   have hA0:bw (Md W.length (0:UInt8)).length S:=by rw [Mu]; exact hA
   have r:=xT hm.2 hS hw m _ _ _ hA0 hK
   have q:=KrI.last m _ _ _ hK
   rw [← r.1] at q
   have hp2:=t0 q.1 (by unfold oU; rw [Ma]; omega)
   exact hp2 _ (List.mem_map.2 ⟨i,hiS,rfl⟩)
theorem xZ {l:List UInt8} {m s:Nat} (h:(l.getD s jk).toNat ≠ 0):s < gA l m:=by
 rcases Mv s (gA l m) with q | q
 ·exact q
 ·exfalso
  rcases Mv s l.length with r | r
  ·rw [t9 (m:=m) l.length s (by rw [← lK]; exact q) r] at h; exact h rfl
  ·rw [kG r] at h; exact h rfl
theorem ud {k:Nat} {S:List Nat} {s:Nat} (h:s < k) (hm:s ∈ S):0 < (bq k S).getD s jk:=by
 rw [sj,if_pos h]; exact List.count_pos_iff.2 hm
theorem x0 {T1:List Sy} {l:List Tn} {i k:Nat} (hk:k = l.length) (h:i < k):C2 T1 (l.getD i jk) ∈ cO T1 l k:=by
 rw [qK,hk,Mt (Mc _),List.getD_eq_getElem?_getD,List.getElem?_eq_getElem (by omega)]
 exact List.mem_map_of_mem (MG _)
theorem ET {T2:List Sy} {l:List Tn} {i k:Nat} (hk:k = l.length) (h:i < k) (h0:(l.getD i jk).long ≠ 0):ao T2 (l.getD i jk).dist ∈ ez T2 l k:=by
 rw [t8,hk,Mt (Mc _)]
 have hi:i < l.length:=by omega
 rw [List.getD_eq_getElem?_getD,List.getElem?_eq_getElem hi] at h0 ⊢
 refine List.mem_flatMap.2 ⟨l[i],MG hi,?_⟩
 unfold EO
 rw [if_neg (show ¬ l[i].long = 0 from h0)]; exact List.mem_singleton.2 rfl
theorem kI (k:Nat) (S:List Nat) (i:Nat) {a b:Nat} (h:i < k) (ha:a = i) (hb:b = i):aj ((bq k S).map nD) a [D.v (.int .i64 ((((bq k S).getD b jk:Nat):Int) + 1))] = (bq k (S ++ [i])).map nD:=xW h ha hb rfl
theorem i7 (k:Nat) (S:List Nat) (i:Nat) {o:Nat} (h:i < k) (ho:o = i):((bq k S).map nD)[o]? = some (nD ((bq k S).getD i jk)):=by
 subst ho
 rw [List.getElem?_map,List.getD_eq_getElem?_getD,List.getElem?_eq_getElem (by rw [dY]; exact h)]; rfl
theorem Ix (k:Nat) (S:List Nat) (i:Nat) (W:List Nat) (hW:bq k (S ++ [i]) = W) {a b:Nat} (h:i < k) (ha:a = i) (hb:b = i):aj ((bq k S).map nD) a [D.v (.int .i64 ((((bq k S).getD b jk:Nat):Int) + 1))] = W.map nD:=by rw [← hW]; exact xW h ha hb rfl
def C5 (C:List UInt8) (i:Nat):Nat:=lk C (oW.getD i jk)
theorem sn (C:List UInt8) (i:Nat):C5 C i = oW.getD i jk:=aF _ _
theorem x4 (C:List UInt8) (i:Nat) (h:i < 19):C5 C i < 19:=by rw [sn]; exact Iu i h
theorem Iy (C:List UInt8) (i:Nat) (h:i < 19):(oW.map nD)[i]? = some (nD (C5 C i)):=by rw [sn]; exact KH i h
theorem Aj {l:List UInt8} {n i:Nat} (h:i < n):(l.take n).getD i jk = l.getD i jk:=by
 rw [List.getD_eq_getElem?_getD,List.getElem?_take,if_pos h,← List.getD_eq_getElem?_getD]
theorem Iz {e n1 n2 n3:Nat} {x y z:Int} (hx:x = ((n1 - 257:Nat):Int)) (hy:y = ((n2 - 1:Nat):Int)) (hz:z = ((n3 - 4:Nat):Int)):[D.v (.int .u32 (e:Int)),D.v (.int .i64 1),D.v (.int .u32 2),D.v (.int .i64 2),D.v (.int .u32 x),D.v (.int .i64 5),D.v (.int .u32 y),D.v (.int .i64 5),D.v (.int .u32 z),D.v (.int .i64 4)] = (mb e 2 ++ ([⟨n1 - 257,5⟩,⟨n2 - 1,5⟩,⟨n3 - 4,4⟩]:List Nm)).flatMap aV:=by
 subst hx hy hz; rfl

end Vp
end Go.Proofs.YtefjnofhgkjpmaaGreat
namespace Go.Proofs.YtefjnofhgkjpmaaGreat
open Go.RowKit Go.Bw Go.Vx
namespace Vt
abbrev iD (i:Int):D:=.v (.int .i64 i)
abbrev aR:D:=.v (.slice none 0 0)
structure Tok where
 lit:UInt8
 dist:Int
 long:Int
 deriving Inhabited
abbrev tokD (t:Tok):List D:=[dB t.lit,iD t.dist,iD t.long]
end Vt
end Go.Proofs.YtefjnofhgkjpmaaGreat
namespace Go.Proofs.YtefjnofhgkjpmaaGreat
open Go.RowKit Go.Bw Go.Vx
open List (length getD map take drop flatMap replicate)
namespace Vm
theorem l8 {p:Prop} (h:p:=by (refine aO ?_; (omega))):p:=h
theorem vf {p:Prop} (h:p:=by ((refine aH ?_ ?_) <;> (repeat' (first | (refine aH ?_ ?_) | (with_reducible rfl) | (refine decide_eq_true ?_) | (refine L2 ?_) | (refine eu ?_))) <;> (omega))):p:=h
theorem vg {p:Prop} (h:p:=by (exact fV _ (by decide) (by decide))):p:=h
theorem Ak {p:Prop} (h:p:=by (refine ug hh ?_ ?_ ?_ <;> (omega))):p:=h
theorem Al {p:Prop} (h:p:=by show j - 1 < j; clear next1 last1; omega):p:=h
abbrev iD (i:Int):D:=.v (.int .i64 i)
abbrev aR:D:=.v (.slice none 0 0)
theorem KI (x:Int):Mf .u32 x = x % 4294967296:=rfl
abbrev bI (l:List UInt8) (i:Nat):Int:=((l.getD i jk).toNat:Int)
def bM (l:List UInt8) (i:Nat):Int:=((bI l (i + 2) * 16777619 + bI l (i + 1)) * 16777619 + bI l i) % 4294967296
abbrev EU:Int:=1055306571
theorem nq (l:List UInt8) (i:Nat):0 ≤ bI l i ∧ bI l i < 256:=by
 have h:=(l.getD i jk).toNat_lt
 unfold bI
 constructor <;> omega
def hR (p:List UInt8):Nat → Int
 | 0=>0
 | k + 1=>((((hR p k * 16777619) % 4294967296) + bI p (2 - k)) % 4294967296)
theorem Am {p:List UInt8} {k j:Nat} {h:Int} (hh:h = hR p k) (hj:j = 2 - k):((((h * 16777619) % 4294967296) + bI p j) % 4294967296) = hR p (k + 1):=by rw [hh,hj,hR]
theorem KJ (p:List UInt8):hR p 3 = bM p 0:=by
 have h0:=nq p 0; have h1:=nq p 1; have h2:=nq p 2
 simp only [hR,KI,bM,show 2 - 0 = 2 from rfl,show 2 - 1 = 1 from rfl,show 2 - 2 = 0 from rfl,show 0 + 2 = 2 from rfl,show 0 + 1 = 1 from rfl]
 omega
theorem hash (p:List UInt8) (hp:p.length = 3) (H:Int) (hH:H = bM p 0):SpecH false Tryz.prog 198 [.sl false 3 1 (p.map dB)] [] (.tup [.v (.int .u32 H),.v (.int .u32 EU)]) []:=by
 refine SpecH.run T_ok ai Tryz.func198 rfl rfl rfl trivial rfl 1000 64 (fun R ok=>(.s 9 (Hn.inl T_ok ai false 41 0 (aA Tryz.prog 198 0) (fun (x:(k:Nat) ×' (hk:k ≤ 3) ×' (h:Int) ×' (hh:h = hR p k) ×' Unit)=>match x with | ⟨k,hk,h,hh,_⟩=>CutS.mk [(0,D.sl false 3 1 (map dB p)),(4,.v (.int .u32 h)),(5,iD (2 - (k:Int)))] [] 0) (fun (x:(k:Nat) ×' (hk:k ≤ 3) ×' (h:Int) ×' (hh:h = hR p k) ×' Unit)=>match x with | ⟨k,hk,h,hh,_⟩=>3 - k) [⟨Unit,.exit 0,fun x=>match x with | ()=>CutS.mk [(0,D.sl false 3 1 (map dB p)),(4,.v (.int .u32 H))] [] 0⟩] 1000 64 (fun | ⟨k,hk,h,hh,_⟩,Q,next1,last1=>(.s 3 (.br (decide (0 ≤ 2 - (k:Int))) (fun p0=>have p0f:=aT p0; (.s 3 (.opt (az .u32 (h * 16777619)) (uI (h * 16777619 % 4294967296)) (aM _ _) (.s 3 (.chk (decide (0 ≤ 2 - (k:Int)) && decide (2 - (k:Int) < (↑3:Int)) && true) vf (.s 2 (.opt ((map dB p)[uV (2 - (k:Int)) * 1]?) (dB (getD p (uV (2 - (k:Int)) * 1) jk)) (av _ _ om) (.s 1 (.opt (az .u32 (↑(LW (getD p (uV (2 - (k:Int)) * 1) jk)):Int)) (ah (LW (getD p (uV (2 - (k:Int)) * 1) jk))) (aB vg) (.s 2 (.opt (az .u32 (h * 16777619 % 4294967296 + (↑(LW (getD p (uV (2 - (k:Int)) * 1) jk)):Int))) (uI ((h * 16777619 % 4294967296 + (↑(LW (getD p (uV (2 - (k:Int)) * 1) jk)):Int)) % 4294967296)) (aM _ _) (.s 4 (.ow (2 - (k:Int) - 1) (.s 1 (.val 4 (uI ((h * 16777619 % 4294967296 + (↑(LW (getD p (uV (2 - (k:Int)) * 1) jk)):Int)) % 4294967296)) (uI ((h * 16777619 % 4294967296 + bI p (2 - k)) % 4294967296)) (by (refine aO (congrArg (fun z=>((((h * 16777619) % 4294967296) + bI p z) % 4294967296)) ?_); (omega))) (.val 5 (zI (2 - (k:Int) - 1)) (zI (2 - (↑(k + 1):Int))) l8 (Hn.next next1 ⟨(k+1),om,(((((h * 16777619) % 4294967296) + bI p (2 - k)) % 4294967296)),(by (refine Am hh ?_; (omega))),⟨⟩⟩ (by show 3 - (k + 1) < 3 - k; clear next1 last1; omega) [] ro))))))))))))))))) (fun p0=>have p0f:=aU p0; (.val 4 (uI h) (uI H) (by (refine aO ?_; rw [hh,hH,show k = 3 from by (omega),KJ])) (Hn.last last1 0 (():Unit) rfl [] ro)))))) (fun | ⟨k,hk,h,hh,_⟩=>by kernel_rfl) ⟨(0),om,(0),(by exact rfl),⟨⟩⟩ [] ro (cb (fun | ()=>(.s 70 (.out [] [] (D.tup [uI H,uI 1055306571]) [] R (ok _ _ wr wr)))))))) (by kernel_rfl)
def aq (s p:List UInt8):Nat → Int
 | 0=>-1
 | k + 1=>if (s.drop k).take 3 = p then (k:Int) else aq s p k
theorem ya {s p:List UInt8} {i:Nat} (h:(s.drop i).take 3 = p) (hi:i + 3 ≤ s.length):bM s i = bM p 0:=by
 have e:∀ j,j < 3 → bI p j = bI s (i + j):=fun j hj=>by
  unfold bI
  rw [← h]
  simp only [List.getD_eq_getElem?_getD,List.getElem?_take,List.getElem?_drop,hj,if_true]
 unfold bM
 rw [e 0 (by decide),e 1 (by decide),e 2 (by decide)]
 rfl
theorem KK (s:List UInt8) (i:Nat):((((((bM s (i + 1) * 16777619) % 4294967296) + bI s i) % 4294967296) - ((EU * bI s (i + 3)) % 4294967296)) % 4294967296) = bM s i:=by
 simp only [EU,KI,bM,show i + 1 + 2 = i + 3 from rfl,show i + 1 + 1 = i + 2 from rfl]
 omega
def hW (s:List UInt8) (i:Nat):Nat → Int
 | 0=>0
 | k + 1=>((((hW s i k * 16777619) % 4294967296) + bI s (i + (2 - k))) % 4294967296)
theorem Ao {s:List UInt8} {i k j:Nat} {h:Int} (hh:h = hW s i k) (hj:j = i + (2 - k)):((((h * 16777619) % 4294967296) + bI s j) % 4294967296) = hW s i (k + 1):=by rw [hh,hj,hW]
theorem KL (s:List UInt8) (i:Nat):hW s i 3 = bM s i:=by
 have h0:=nq s i; have h1:=nq s (i + 1); have h2:=nq s (i + 2)
 simp only [hW,KI,bM,show 2 - 0 = 2 from rfl,show 2 - 1 = 1 from rfl,show 2 - 2 = 0 from rfl,N0]
 omega
theorem qO {s p:List UInt8} {k m:Nat} (hm:m = k + 1) (h:(s.drop k).take 3 = p):aq s p m = k:=by rw [hm,aq,if_pos h]
theorem jz {s p:List UInt8} {k m:Nat} (hm:m = k + 1) (h:(s.drop k).take 3 ≠ p):aq s p m = aq s p k:=by rw [hm,aq,if_neg h]
theorem nr {s p:List UInt8} {k m:Nat} {h H:Int} (hm:m = k + 1) (hl:m + 2 ≤ s.length) (hh:h = bM s k) (hH:H = bM p 0) (hne:h ≠ H):aq s p m = aq s p k :=
 jz hm fun e=>hne (by rw [hh,hH]; exact ya e (by omega))
theorem EV {l p:List UInt8} (e:(MD { data:=l.toArray } == MD { data:=p.toArray }) = true):l = p:=by rw [fu,fu] at e; exact eq_of_beq e
theorem EW {l p:List UInt8} (e:(MD { data:=l.toArray } == MD { data:=p.toArray }) = false):l ≠ p:=by rw [fu,fu] at e; exact au e
theorem ue {s:List UInt8} {n j:Nat} (hn:n = s.length) (h3:3 ≤ n) (hj:j = n - 3):s.drop j = (s.drop (n - 3)).take 3:=by
 rw [hj,Mt (by rw [Mn]; omega)]
theorem nu {s p:List UInt8} {a:Int} {j:Nat} (hl:a = aq s p j) (hj:j = 0):a = -1:=by rw [hl,hj]; rfl
theorem ug {s:List UInt8} {j a b:Nat} {h:Int} (hh:h = bM s j) (hj:0 < j) (ha:a = j - 1) (hb:b = j + 2):((((((h * 16777619) % 4294967296) + ((s.getD a jk).toNat:Int)) % 4294967296) - ((1055306571 * ((s.getD b jk).toNat:Int)) % 4294967296)) % 4294967296) = bM s (j - 1):=by
 have e1:bM s j = bM s (a + 1):=congrArg (bM s) (by omega)
 have e2:b = a + 3:=by omega
 have e3:=KK s a
 rw [hh,e1,e2,← ha]
 exact e3
theorem yb {s:List UInt8} {j:Nat} (hj:0 < j):Mz (((j:Int) - 1 + 3).toNat - ((j:Int) - 1).toNat) (MA ((j:Int) - 1).toNat s) = (s.drop (j - 1)).take 3:=by
 rw [show ((j:Int) - 1 + 3).toNat - ((j:Int) - 1).toNat = 3 from by omega,show ((j:Int) - 1).toNat = j - 1 from by omega]
theorem uh {s p:List UInt8} {j:Nat} {a:Int} (hl:a = aq s p j) (hj:0 < j) (e:(MD { data:=(Mz (((j:Int) - 1 + 3).toNat - ((j:Int) - 1).toNat) (MA ((j:Int) - 1).toNat s)).toArray } == MD { data:=p.toArray }) = false):a = aq s p (j - 1):=by
 rw [hl]
 refine jz (by omega) ?_
 rw [← yb hj]
 exact EW e
theorem yc {s p:List UInt8} {j:Nat} {a:Int} (hl:a = aq s p j) (hj:0 < j) (e:(MD { data:=(Mz (((j:Int) - 1 + 3).toNat - ((j:Int) - 1).toNat) (MA ((j:Int) - 1).toNat s)).toArray } == MD { data:=p.toArray }) = true):(j:Int) - 1 = a:=by
 rw [hl,qO (k:=j - 1) (by omega) (by rw [← yb hj]; exact EV e)]
 omega
theorem uj {s p:List UInt8} {j:Nat} {a h H:Int} (hl:a = aq s p j) (hj:0 < j) (hb:j + 2 ≤ s.length) (hh:h = bM s j) (hH:H = bM p 0) (e:(((((((h * 16777619) % 4294967296) + ((s.getD (((j:Int) - 1).toNat * 1) jk).toNat:Int)) % 4294967296) - ((1055306571 * ((s.getD (((j:Int) - 1 + 3).toNat * 1) jk).toNat:Int)) % 4294967296)) % 4294967296) == H) = false):a = aq s p (j - 1) :=
 hl.trans (nr (by omega) hb (ug hh hj (by omega) (by omega)) hH (au e))
theorem Ap {s p:List UInt8} {n:Nat} (hn:n = s.length) (h3:3 ≤ n) (e:(MD { data:=(MA ((n:Int) - 3).toNat s).toArray } == MD { data:=p.toArray }) = true):(n:Int) - 3 = aq s p (n - 2):=by
 rw [qO (k:=n - 3) (by omega) (by rw [← ue hn h3 rfl,← EV e]; exact congrArg (MA · s) (by omega))]
 omega
theorem rk (s p:List UInt8) (n:Nat) (hn:n = s.length) (hp:p.length = 3) (h3:4 ≤ n) (h4:n ≤ 1000000) (H:Int) (hH:H = bM p 0):SpecH false Tryz.prog 193 [.sl false n 1 (s.map dB),.sl false 3 1 (p.map dB)] [] (iD (aq s p (n - 2))) []:=by
 refine SpecH.run T_ok ai Tryz.func193 rfl rfl rfl trivial rfl 1000 64 (fun R ok=>(.s 3 (.cl 198 false [] (.fn JR (@Go.Proofs.YtefjnofhgkjpmaaGreat.Vm.hash (p) om (H) bu)) (.s 15 (.ow ((n:Int) - 3) (.s 6 (.ow ((n:Int) - 1) (.s 1 (.val 10 (zI ((n:Int) - 1)) (zI ((n:Int) - 1 - 0)) l8 (Hn.inl T_ok ai false 94 0 (aA Tryz.prog 193 0) (fun (x:(k:Nat) ×' (hk:k ≤ 3) ×' (h:Int) ×' (hh:h = hW s (n - 3) k) ×' Unit)=>match x with | ⟨k,hk,h,hh,_⟩=>CutS.mk [(0,D.sl false n 1 (map dB s)),(1,D.sl false 3 1 (map dB p)),(5,uI H),(6,uI 1055306571),(7,zI 3),(8,zI ((n:Int) - 3)),(9,.v (.int .u32 h)),(10,iD ((n:Int) - 1 - (k:Int)))] [] 0) (fun (x:(k:Nat) ×' (hk:k ≤ 3) ×' (h:Int) ×' (hh:h = hW s (n - 3) k) ×' Unit)=>match x with | ⟨k,hk,h,hh,_⟩=>3 - k) [⟨(h2:Int) ×' (hh2:h2 = bM s (n - 3)) ×' Unit,.exit 0,fun x=>match x with | ⟨h2,hh2,_⟩=>CutS.mk [(0,D.sl false n 1 (map dB s)),(1,D.sl false 3 1 (map dB p)),(5,uI H),(6,uI 1055306571),(7,zI 3),(8,zI ((n:Int) - 3)),(9,.v (.int .u32 h2))] [] 0⟩] 1000 64 (fun | ⟨k,hk,h,hh,_⟩,Q,next1,last1=>(.s 4 (.br (decide ((n:Int) - 3 ≤ (n:Int) - 1 - (k:Int))) (fun p0=>have p0f:=aT p0; (.s 3 (.opt (az .u32 (h * 16777619)) (uI (h * 16777619 % 4294967296)) (aM _ _) (.s 3 (.chk (decide (0 ≤ (n:Int) - 1 - (k:Int)) && decide ((n:Int) - 1 - (k:Int) < (n:Int)) && true) vf (.s 2 (.opt ((map dB s)[uV ((n:Int) - 1 - (k:Int)) * 1]?) (dB (getD s (uV ((n:Int) - 1 - (k:Int)) * 1) jk)) (av _ _ om) (.s 1 (.opt (az .u32 (↑(LW (getD s (uV ((n:Int) - 1 - (k:Int)) * 1) jk)):Int)) (ah (LW (getD s (uV ((n:Int) - 1 - (k:Int)) * 1) jk))) (aB vg) (.s 2 (.opt (az .u32 (h * 16777619 % 4294967296 + (↑(LW (getD s (uV ((n:Int) - 1 - (k:Int)) * 1) jk)):Int))) (uI ((h * 16777619 % 4294967296 + (↑(LW (getD s (uV ((n:Int) - 1 - (k:Int)) * 1) jk)):Int)) % 4294967296)) (aM _ _) (.s 4 (.ow ((n:Int) - 1 - (k:Int) - 1) (.s 1 (.val 9 (uI ((h * 16777619 % 4294967296 + (↑(LW (getD s (uV ((n:Int) - 1 - (k:Int)) * 1) jk)):Int)) % 4294967296)) (uI ((h * 16777619 % 4294967296 + bI s (n - 1 - k)) % 4294967296)) (by (refine aO (congrArg (fun z=>((((h * 16777619) % 4294967296) + bI s z) % 4294967296)) ?_); (omega))) (.val 10 (zI ((n:Int) - 1 - (k:Int) - 1)) (zI ((n:Int) - 1 - (↑(k + 1):Int))) l8 (Hn.next next1 ⟨(k+1),om,(((((h * 16777619) % 4294967296) + bI s (n - 1 - k)) % 4294967296)),(by (refine Ao hh ?_; (omega))),⟨⟩⟩ (by show 3 - (k + 1) < 3 - k; clear next1 last1; omega) [] ro))))))))))))))))) (fun p0=>have p0f:=aU p0; (Hn.last last1 0 (⟨(h),(by (rw [hh,show k = 3 from by (omega),KL])),⟨⟩⟩:(h2:Int) ×' (hh2:h2 = bM s (n - 3)) ×' Unit) rfl [] ro))))) (fun | ⟨k,hk,h,hh,_⟩=>by kernel_rfl) ⟨(0),om,(0),(by exact rfl),⟨⟩⟩ [] ro (cb (fun | ⟨h2,hh2,_⟩=>(.s 7 (.br (h2 == H) (fun p1=>have p1f:=eq_of_beq p1; (.s 4 (.chk (aL (some ((n:Int) - 3)) none none n && true) (by (simp <;> (omega))) (.s 3 (.byt (drop (uV ((n:Int) - 3) * 1) (map dB s)) (drop (uV ((n:Int) - 3)) s) (by (simp; done)) (.s 5 (.byt (map dB p) (p) rfl (.s 3 (.br (MD (Nb (NK (drop (uV ((n:Int) - 3)) s))) == MD (Nb (NK p))) (fun p2=>have p2f:=eq_of_beq p2; (.s 2 (.out [] [] (zI ((n:Int) - 3)) [] R (ok _ _ (by (exact aO (Ap hn (by (omega)) bu))) wr)))) (fun p2=>have p2f:=au p2; (.s 3 (.ow ((n:Int) - 3 - 1) (.s 1 (.val 11 (zI ((n:Int) - 3 - 1)) (zI ((↑(n - 3):Int) - 1)) l8 (Hn.inl T_ok ai false 94 0 (aA Tryz.prog 193 1) (fun (x:(j:Nat) ×' (hj:j ≤ n - 3) ×' (h:Int) ×' (hh:h = bM s j) ×' (hl:aq s p (n - 2) = aq s p j) ×' Unit)=>match x with | ⟨j,hj,h,hh,hl,_⟩=>CutS.mk [(0,D.sl false n 1 (map dB s)),(1,D.sl false 3 1 (map dB p)),(5,uI H),(6,uI 1055306571),(7,zI 3),(9,.v (.int .u32 h)),(11,iD ((j:Int) - 1))] [] 0) (fun (x:(j:Nat) ×' (hj:j ≤ n - 3) ×' (h:Int) ×' (hh:h = bM s j) ×' (hl:aq s p (n - 2) = aq s p j) ×' Unit)=>match x with | ⟨j,hj,h,hh,hl,_⟩=>j) [⟨(hz:aq s p (n - 2) = -1) ×' Unit,.exit 2,fun x=>match x with | ⟨hz,_⟩=>CutS.mk [(0,D.sl false n 1 (map dB s)),(1,D.sl false 3 1 (map dB p)),(5,uI H),(6,uI 1055306571),(7,zI 3)] [] 0⟩,⟨Unit,.ret,fun x=>match x with | ()=>CutS.mk [(4,iD (aq s p (n - 2)))] [] 0⟩] 1000 64 (fun | ⟨j,hj,h,hh,hl,_⟩,Q,next1,last1=>(.s 3 (.br (decide (0 ≤ (j:Int) - 1)) (fun p3=>have p3f:=aT p3; (.s 3 (.opt (az .u32 (h * 16777619)) (uI (h * 16777619 % 4294967296)) (aM _ _) (.s 5 (.chk (decide (0 ≤ (j:Int) - 1) && decide ((j:Int) - 1 < (n:Int)) && true) vf (.s 2 (.opt ((map dB s)[uV ((j:Int) - 1) * 1]?) (dB (getD s (uV ((j:Int) - 1) * 1) jk)) (av _ _ om) (.s 1 (.opt (az .u32 (↑(LW (getD s (uV ((j:Int) - 1) * 1) jk)):Int)) (ah (LW (getD s (uV ((j:Int) - 1) * 1) jk))) (aB vg) (.s 2 (.opt (az .u32 (h * 16777619 % 4294967296 + (↑(LW (getD s (uV ((j:Int) - 1) * 1) jk)):Int))) (uI ((h * 16777619 % 4294967296 + (↑(LW (getD s (uV ((j:Int) - 1) * 1) jk)):Int)) % 4294967296)) (aM _ _) (.s 8 (.ow ((j:Int) - 1 + 3) (.s 1 (.chk (decide (0 ≤ (j:Int) - 1 + 3) && decide ((j:Int) - 1 + 3 < (n:Int)) && true) vf (.s 2 (.opt ((map dB s)[uV ((j:Int) - 1 + 3) * 1]?) (dB (getD s (uV ((j:Int) - 1 + 3) * 1) jk)) (av _ _ om) (.s 1 (.opt (az .u32 (↑(LW (getD s (uV ((j:Int) - 1 + 3) * 1) jk)):Int)) (ah (LW (getD s (uV ((j:Int) - 1 + 3) * 1) jk))) (aB vg) (.s 2 (.opt (az .u32 (1055306571 * (↑(LW (getD s (uV ((j:Int) - 1 + 3) * 1) jk)):Int))) (uI (1055306571 * (↑(LW (getD s (uV ((j:Int) - 1 + 3) * 1) jk)):Int) % 4294967296)) (aM _ _) (.s 2 (.opt (az .u32 ((h * 16777619 % 4294967296 + (↑(LW (getD s (uV ((j:Int) - 1) * 1) jk)):Int)) % 4294967296 - 1055306571 * (↑(LW (getD s (uV ((j:Int) - 1 + 3) * 1) jk)):Int) % 4294967296)) (uI (((h * 16777619 % 4294967296 + (↑(LW (getD s (uV ((j:Int) - 1) * 1) jk)):Int)) % 4294967296 - 1055306571 * (↑(LW (getD s (uV ((j:Int) - 1 + 3) * 1) jk)):Int) % 4294967296) % 4294967296)) (aM _ _) (.s 8 (.br (((h * 16777619 % 4294967296 + (↑(LW (getD s (uV ((j:Int) - 1) * 1) jk)):Int)) % 4294967296 - 1055306571 * (↑(LW (getD s (uV ((j:Int) - 1 + 3) * 1) jk)):Int) % 4294967296) % 4294967296 == H) (fun p4=>have p4f:=eq_of_beq p4; (.s 9 (.ow ((j:Int) - 1 + 3) (.s 2 (.chk (aL (some ((j:Int) - 1)) (some ((j:Int) - 1 + 3)) none n && true) (by (simp <;> (omega))) (.s 3 (.byt (take ((uV ((j:Int) - 1 + 3) - uV ((j:Int) - 1)) * 1) (drop (uV ((j:Int) - 1) * 1) (map dB s))) (take (uV ((j:Int) - 1 + 3) - uV ((j:Int) - 1)) (drop (uV ((j:Int) - 1)) s)) (by (simp; done)) (.s 5 (.byt (map dB p) (p) rfl (.s 3 (.br (MD (Nb (NK (take (uV ((j:Int) - 1 + 3) - uV ((j:Int) - 1)) (drop (uV ((j:Int) - 1)) s)))) == MD (Nb (NK p))) (fun p5=>have p5f:=eq_of_beq p5; (.s 2 (.val 4 (zI ((j:Int) - 1)) (zI (aq s p (n - 2))) (by (exact aO (yc hl (by (omega)) bu))) (Hn.last last1 1 (():Unit) rfl [] ro)))) (fun p5=>have p5f:=au p5; (.s 3 (.ow ((j:Int) - 1 - 1) (.s 1 (.val 11 (zI ((j:Int) - 1 - 1)) (zI ((↑(j - 1):Int) - 1)) l8 (Hn.next next1 ⟨(j - 1),om,(((((((h * 16777619) % 4294967296) + ((s.getD (((j:Int) - 1).toNat * 1) jk).toNat:Int)) % 4294967296) - ((1055306571 * ((s.getD (((j:Int) - 1 + 3).toNat * 1) jk).toNat:Int)) % 4294967296)) % 4294967296)),Ak,(by (exact uh hl (by (omega)) bu)),⟨⟩⟩ Al [] ro))))))))))))))))) (fun p4=>have p4f:=au p4; (.s 23 (.ow ((j:Int) - 1 - 1) (.s 1 (.val 11 (zI ((j:Int) - 1 - 1)) (zI ((↑(j - 1):Int) - 1)) l8 (Hn.next next1 ⟨(j - 1),om,(((((((h * 16777619) % 4294967296) + ((s.getD (((j:Int) - 1).toNat * 1) jk).toNat:Int)) % 4294967296) - ((1055306571 * ((s.getD (((j:Int) - 1 + 3).toNat * 1) jk).toNat:Int)) % 4294967296)) % 4294967296)),Ak,(by (exact uj hl (by (omega)) (by (omega)) hh hH bu)),⟨⟩⟩ Al [] ro))))))))))))))))))))))))))))))) (fun p3=>have p3f:=aU p3; (Hn.last last1 0 (⟨(by (exact nu hl (by (omega)))),⟨⟩⟩:(hz:aq s p (n - 2) = -1) ×' Unit) rfl [] ro))))) (fun | ⟨j,hj,h,hh,hl,_⟩=>by kernel_rfl) ⟨(n - 3),om,(h2),om,(by (refine jz om ?_; rw [← ue hn om rfl]; refine fun e=>EW p2 ?_; refine Pq ?_ e; exact congrArg (drop · s) om)),⟨⟩⟩ [] ro (fe (fun | ⟨hz,_⟩=>(.s 1 (.out [] [] (zI (-1)) [] R (ok _ _ l8 wr)))) (fun | ()=>(.out [] [] (zI (aq s p (n - 2))) [] R (ok _ _ wr wr))))))))))))))))))) (fun p1=>have p1f:=au p1; (.s 17 (.ow ((n:Int) - 3 - 1) (.s 1 (.val 11 (zI ((n:Int) - 3 - 1)) (zI ((↑(n - 3):Int) - 1)) l8 (Hn.inl T_ok ai false 94 0 (aA Tryz.prog 193 1) (fun (x:(j:Nat) ×' (hj:j ≤ n - 3) ×' (h:Int) ×' (hh:h = bM s j) ×' (hl:aq s p (n - 2) = aq s p j) ×' Unit)=>match x with | ⟨j,hj,h,hh,hl,_⟩=>CutS.mk [(0,D.sl false n 1 (map dB s)),(1,D.sl false 3 1 (map dB p)),(5,uI H),(6,uI 1055306571),(7,zI 3),(9,.v (.int .u32 h)),(11,iD ((j:Int) - 1))] [] 0) (fun (x:(j:Nat) ×' (hj:j ≤ n - 3) ×' (h:Int) ×' (hh:h = bM s j) ×' (hl:aq s p (n - 2) = aq s p j) ×' Unit)=>match x with | ⟨j,hj,h,hh,hl,_⟩=>j) [⟨(hz:aq s p (n - 2) = -1) ×' Unit,.exit 2,fun x=>match x with | ⟨hz,_⟩=>CutS.mk [(0,D.sl false n 1 (map dB s)),(1,D.sl false 3 1 (map dB p)),(5,uI H),(6,uI 1055306571),(7,zI 3)] [] 0⟩,⟨Unit,.ret,fun x=>match x with | ()=>CutS.mk [(4,iD (aq s p (n - 2)))] [] 0⟩] 1000 64 (fun | ⟨j,hj,h,hh,hl,_⟩,Q,next1,last1=>(.s 3 (.br (decide (0 ≤ (j:Int) - 1)) (fun p6=>have p6f:=aT p6; (.s 3 (.opt (az .u32 (h * 16777619)) (uI (h * 16777619 % 4294967296)) (aM _ _) (.s 5 (.chk (decide (0 ≤ (j:Int) - 1) && decide ((j:Int) - 1 < (n:Int)) && true) vf (.s 2 (.opt ((map dB s)[uV ((j:Int) - 1) * 1]?) (dB (getD s (uV ((j:Int) - 1) * 1) jk)) (av _ _ om) (.s 1 (.opt (az .u32 (↑(LW (getD s (uV ((j:Int) - 1) * 1) jk)):Int)) (ah (LW (getD s (uV ((j:Int) - 1) * 1) jk))) (aB vg) (.s 2 (.opt (az .u32 (h * 16777619 % 4294967296 + (↑(LW (getD s (uV ((j:Int) - 1) * 1) jk)):Int))) (uI ((h * 16777619 % 4294967296 + (↑(LW (getD s (uV ((j:Int) - 1) * 1) jk)):Int)) % 4294967296)) (aM _ _) (.s 8 (.ow ((j:Int) - 1 + 3) (.s 1 (.chk (decide (0 ≤ (j:Int) - 1 + 3) && decide ((j:Int) - 1 + 3 < (n:Int)) && true) vf (.s 2 (.opt ((map dB s)[uV ((j:Int) - 1 + 3) * 1]?) (dB (getD s (uV ((j:Int) - 1 + 3) * 1) jk)) (av _ _ om) (.s 1 (.opt (az .u32 (↑(LW (getD s (uV ((j:Int) - 1 + 3) * 1) jk)):Int)) (ah (LW (getD s (uV ((j:Int) - 1 + 3) * 1) jk))) (aB vg) (.s 2 (.opt (az .u32 (1055306571 * (↑(LW (getD s (uV ((j:Int) - 1 + 3) * 1) jk)):Int))) (uI (1055306571 * (↑(LW (getD s (uV ((j:Int) - 1 + 3) * 1) jk)):Int) % 4294967296)) (aM _ _) (.s 2 (.opt (az .u32 ((h * 16777619 % 4294967296 + (↑(LW (getD s (uV ((j:Int) - 1) * 1) jk)):Int)) % 4294967296 - 1055306571 * (↑(LW (getD s (uV ((j:Int) - 1 + 3) * 1) jk)):Int) % 4294967296)) (uI (((h * 16777619 % 4294967296 + (↑(LW (getD s (uV ((j:Int) - 1) * 1) jk)):Int)) % 4294967296 - 1055306571 * (↑(LW (getD s (uV ((j:Int) - 1 + 3) * 1) jk)):Int) % 4294967296) % 4294967296)) (aM _ _) (.s 8 (.br (((h * 16777619 % 4294967296 + (↑(LW (getD s (uV ((j:Int) - 1) * 1) jk)):Int)) % 4294967296 - 1055306571 * (↑(LW (getD s (uV ((j:Int) - 1 + 3) * 1) jk)):Int) % 4294967296) % 4294967296 == H) (fun p7=>have p7f:=eq_of_beq p7; (.s 9 (.ow ((j:Int) - 1 + 3) (.s 2 (.chk (aL (some ((j:Int) - 1)) (some ((j:Int) - 1 + 3)) none n && true) (by (simp <;> (omega))) (.s 3 (.byt (take ((uV ((j:Int) - 1 + 3) - uV ((j:Int) - 1)) * 1) (drop (uV ((j:Int) - 1) * 1) (map dB s))) (take (uV ((j:Int) - 1 + 3) - uV ((j:Int) - 1)) (drop (uV ((j:Int) - 1)) s)) (by (simp; done)) (.s 5 (.byt (map dB p) (p) rfl (.s 3 (.br (MD (Nb (NK (take (uV ((j:Int) - 1 + 3) - uV ((j:Int) - 1)) (drop (uV ((j:Int) - 1)) s)))) == MD (Nb (NK p))) (fun p8=>have p8f:=eq_of_beq p8; (.s 2 (.val 4 (zI ((j:Int) - 1)) (zI (aq s p (n - 2))) (by (exact aO (yc hl (by (omega)) bu))) (Hn.last last1 1 (():Unit) rfl [] ro)))) (fun p8=>have p8f:=au p8; (.s 3 (.ow ((j:Int) - 1 - 1) (.s 1 (.val 11 (zI ((j:Int) - 1 - 1)) (zI ((↑(j - 1):Int) - 1)) l8 (Hn.next next1 ⟨(j - 1),om,(((((((h * 16777619) % 4294967296) + ((s.getD (((j:Int) - 1).toNat * 1) jk).toNat:Int)) % 4294967296) - ((1055306571 * ((s.getD (((j:Int) - 1 + 3).toNat * 1) jk).toNat:Int)) % 4294967296)) % 4294967296)),Ak,(by (exact uh hl (by (omega)) bu)),⟨⟩⟩ Al [] ro))))))))))))))))) (fun p7=>have p7f:=au p7; (.s 23 (.ow ((j:Int) - 1 - 1) (.s 1 (.val 11 (zI ((j:Int) - 1 - 1)) (zI ((↑(j - 1):Int) - 1)) l8 (Hn.next next1 ⟨(j - 1),om,(((((((h * 16777619) % 4294967296) + ((s.getD (((j:Int) - 1).toNat * 1) jk).toNat:Int)) % 4294967296) - ((1055306571 * ((s.getD (((j:Int) - 1 + 3).toNat * 1) jk).toNat:Int)) % 4294967296)) % 4294967296)),Ak,(by (exact uj hl (by (omega)) (by (omega)) hh hH bu)),⟨⟩⟩ Al [] ro))))))))))))))))))))))))))))))) (fun p6=>have p6f:=aU p6; (Hn.last last1 0 (⟨(by (exact nu hl (by (omega)))),⟨⟩⟩:(hz:aq s p (n - 2) = -1) ×' Unit) rfl [] ro))))) (fun | ⟨j,hj,h,hh,hl,_⟩=>by kernel_rfl) ⟨(n - 3),om,(h2),om,(by (refine nr om om hh2 hH (au p1))),⟨⟩⟩ [] ro (fe (fun | ⟨hz,_⟩=>(.s 1 (.out [] [] (zI (-1)) [] R (ok _ _ l8 wr)))) (fun | ()=>(.out [] [] (zI (aq s p (n - 2))) [] R (ok _ _ wr wr)))))))))))))))))))))))) (by kernel_rfl)
theorem qP {s p:List UInt8} {n:Nat} (hn:n = s.length) (h3:n = 3):aq s p (n - 2) = if s = p then 0 else -1:=by
 rw [show n - 2 = 0 + 1 from by omega,aq,Nd,Mt (by omega)]
 rfl
theorem IA {s p:List UInt8} {n:Nat} (hn:n = s.length) (h3:n = 3) (e:(MD { data:=s.toArray } == MD { data:=p.toArray }) = true):0 = aq s p (n - 2):=by rw [qP hn h3,if_pos (EV e)]
theorem IB {s p:List UInt8} {n:Nat} (hn:n = s.length) (h3:n = 3) (e:(MD { data:=s.toArray } == MD { data:=p.toArray }) = false):-1 = aq s p (n - 2):=by rw [qP hn h3,if_neg (EW e)]
theorem IC {s p:List UInt8} {n:Nat} (h:n ≤ 2):-1 = aq s p (n - 2):=by rw [show n - 2 = 0 from by omega]; rfl
theorem EX (s p:List UInt8) (n:Nat) (hn:n = s.length) (hp:p.length = 3) (h4:n ≤ 1000000):SpecH false Tryz.prog 179 [.sl false n 1 (s.map dB),.sl false 3 1 (p.map dB)] [] (iD (aq s p (n - 2))) []:=by
 have hH:bM p 0 = bM p 0:=rfl
 refine SpecH.run T_ok ai Tryz.func179 rfl rfl rfl trivial rfl 1000 64 (fun R ok=>(.s 20 (.br (3 == (n:Int)) (fun p0=>have p0f:=eq_of_beq p0; (.s 8 (.byt (map dB s) (s) rfl (.s 3 (.byt (map dB p) (p) rfl (.s 2 (.br (MD (Nb (NK s)) == MD (Nb (NK p))) (fun p1=>have p1f:=eq_of_beq p1; (.s 1 (.out [] [] (zI 0) [] R (ok _ _ (by (exact aO (IA hn (by (omega)) bu))) wr)))) (fun p1=>have p1f:=au p1; (.s 1 (.out [] [] (zI (-1)) [] R (ok _ _ (by (exact aO (IB hn (by (omega)) bu))) wr))))))))))) (fun p0=>have p0f:=au p0; (.s 6 (.br (decide ((n:Int) < 3)) (fun p2=>have p2f:=aT p2; (.s 1 (.out [] [] (zI (-1)) [] R (ok _ _ (by (exact aO (IC (by (omega))))) wr)))) (fun p2=>have p2f:=aU p2; (.s 3 (.cl 193 false [] (.fn JQ (@Go.Proofs.YtefjnofhgkjpmaaGreat.Vm.rk (s) (p) (n) om om om om (bM p 0) bu)) (.s 1 (.out [] [] (zI (aq s p (n - 2))) [] R (ok _ _ wr wr)))))))))))) (by kernel_rfl)
end Vm
end Go.Proofs.YtefjnofhgkjpmaaGreat
namespace Go.Proofs.YtefjnofhgkjpmaaGreat
open Go.RowKit Go.Bw Go.Vx
open List (length getD map take drop flatMap replicate)
namespace Vm
theorem Aq {p:Prop} (h:p:=by ((refine aH ?_ ?_) <;> (repeat' (first | (refine aH ?_ ?_) | (with_reducible rfl) | (refine decide_eq_true ?_) | (refine L2 ?_) | (refine eu ?_))) <;> (omega))):p:=h
def same (b:List UInt8) (i j:Nat):Nat → Nat
 | 0=>0
 | k + 1=>if i < b.length ∧ b.getD j jk = b.getD i jk then same b (i + 1) (j + 1) k + 1 else 0
theorem uk (b:List UInt8):∀ (k i j:Nat),same b i j k ≤ k
 | 0,i,j=>Mc 0
 | k + 1,i,j=>by
  unfold same
  split
  ·exact NP (uk b k (i + 1) (j + 1))
  ·omega
theorem i8 (b:List UInt8):∀ (k i j:Nat),i ≤ b.length → i + same b i j k ≤ b.length
 | 0,i,j,h=>h
 | k + 1,i,j,h=>by
  unfold same
  split
  ·next e=>have:=i8 b k (i + 1) (j + 1) e.1; omega
  ·exact h
theorem Ar {b:List UInt8} {i j m a:Nat} (hs:a = m + same b (i + m) (j + m) (258 - m)) (h1:m < 258) (h2:i + m < b.length) (h3:b.getD (j + m) jk = b.getD (i + m) jk):a = (m + 1) + same b (i + (m + 1)) (j + (m + 1)) (258 - (m + 1)):=by
 rw [hs,show 258 - m = (258 - (m + 1)) + 1 from by omega,same,if_pos ⟨h2,h3⟩]
 rw [show i + m + 1 = i + (m + 1) from by omega,show j + m + 1 = j + (m + 1) from by omega]
 omega
theorem oX {b:List UInt8} {i j m a:Nat} (hs:a = m + same b (i + m) (j + m) (258 - m)) (h:m = 258 ∨ ¬ i + m < b.length ∨ b.getD (j + m) jk ≠ b.getD (i + m) jk):a = m:=by
 rw [hs]
 rcases h with h | h | h
 ·rw [h]; rfl
 ·cases k:258 - m with
  | zero=>rfl
  | succ k=>rw [same,if_neg (fun e=>h e.1)]; rfl
 ·cases k:258 - m with
  | zero=>rfl
  | succ k=>rw [same,if_neg (fun e=>h e.2)]; rfl
theorem um {b:List UInt8} {i m:Nat}:b.getD (((i:Int) + (m:Int)).toNat * 1) jk = b.getD (i + m) jk:=congrArg (b.getD · jk) (by omega)
theorem ID {x y:UInt8} (h:(x.toNat:Int) = (y.toNat:Int)):x = y:=UInt8.toNat_inj.1 (Int.ofNat.inj h)
theorem r8 {b:List UInt8} {i j m a:Nat} (hs:a = m + same b (i + m) (j + m) (258 - m)) (h1:m < 258) (h2:i + m < b.length) (e:(((b.getD (((j:Int) + (m:Int)).toNat * 1) jk).toNat:Int) == ((b.getD (((i:Int) + (m:Int)).toNat * 1) jk).toNat:Int)) = true):a = m + 1 + same b (i + (m + 1)) (j + (m + 1)) (258 - (m + 1)):=by
 rw [um,um] at e
 exact Ar hs h1 h2 (ID (eq_of_beq e))
theorem yd {b:List UInt8} {i j m a:Nat} (hs:a = m + same b (i + m) (j + m) (258 - m)) (e:(((b.getD (((j:Int) + (m:Int)).toNat * 1) jk).toNat:Int) == ((b.getD (((i:Int) + (m:Int)).toNat * 1) jk).toNat:Int)) = false):(m:Int) = (a:Int):=by
 rw [um,um] at e
 rw [oX hs (.inr (.inr fun h=>au e (by rw [h])))]
theorem un {b:List UInt8} {i j m a n:Nat} (hs:a = m + same b (i + m) (j + m) (258 - m)) (hn:n = b.length) (e:decide ((i:Int) + (m:Int) < (n:Int)) = false):(m:Int) = (a:Int):=by
 have:=of_decide_eq_false e
 rw [oX hs (.inr (.inl (by omega)))]
theorem uo {b:List UInt8} {i j m a:Nat} (hs:a = m + same b (i + m) (j + m) (258 - m)) (hm:m ≤ 258) (e:decide ((m:Int) < 258) = false):(m:Int) = (a:Int):=by
 have:=of_decide_eq_false e
 rw [oX hs (.inl (by omega))]
theorem long (b:List UInt8) (n i j:Nat) (hn:n = b.length) (hN:n ≤ 1000000) (hi:i ≤ n) (hj:j < i):SpecH false Tryz.prog 155 [.sl false n 1 (b.map dB),iD i,iD j] [] (iD (same b i j 258:Nat)) []:=by
 refine SpecH.run T_ok ai Tryz.func155 rfl rfl rfl trivial rfl 1000 64 (fun R ok=>(.s 1 (Hn.inl T_ok ai false 35 0 (aA Tryz.prog 155 0) (fun (x:(m:Nat) ×' (hm:m ≤ 258) ×' (hi2:i + m ≤ n) ×' (hs:same b i j 258 = m + same b (i + m) (j + m) (258 - m)) ×' Unit)=>match x with | ⟨m,hm,hi2,hs,_⟩=>CutS.mk [(0,D.sl false n 1 (map dB b)),(1,zN i),(2,zN j),(6,iD (m:Nat))] [] 0) (fun (x:(m:Nat) ×' (hm:m ≤ 258) ×' (hi2:i + m ≤ n) ×' (hs:same b i j 258 = m + same b (i + m) (j + m) (258 - m)) ×' Unit)=>match x with | ⟨m,hm,hi2,hs,_⟩=>258 - m) [⟨Unit,.exit 0,fun x=>match x with | ()=>CutS.mk [(0,D.sl false n 1 (map dB b)),(1,zN i),(2,zN j),(6,iD (same b i j 258:Nat))] [] 0⟩] 1000 64 (fun | ⟨m,hm,hi2,hs,_⟩,Q,next1,last1=>(.s 6 (.br (decide ((m:Int) < 258)) (fun p0=>have p0f:=aT p0; (.s 5 (.ow ((i:Int) + (m:Int)) (.s 10 (.br (decide ((i:Int) + (m:Int) < (n:Int))) (fun p1=>have p1f:=aT p1; (.s 7 (.ow ((j:Int) + (m:Int)) (.s 2 (.chk (true && decide ((j:Int) + (m:Int) < (n:Int)) && true) Aq (.s 3 (.opt ((map dB b)[uV ((j:Int) + (m:Int)) * 1]?) (dB (getD b (uV ((j:Int) + (m:Int)) * 1) jk)) (av _ _ om) (.s 9 (.ow ((i:Int) + (m:Int)) (.s 2 (.chk (true && decide ((i:Int) + (m:Int) < (n:Int)) && true) Aq (.s 3 (.opt ((map dB b)[uV ((i:Int) + (m:Int)) * 1]?) (dB (getD b (uV ((i:Int) + (m:Int)) * 1) jk)) (av _ _ om) (.s 4 (.br ((↑(LW (getD b (uV ((j:Int) + (m:Int)) * 1) jk)):Int) == (↑(LW (getD b (uV ((i:Int) + (m:Int)) * 1) jk)):Int)) (fun p2=>have p2f:=eq_of_beq p2; (.s 3 (.ow ((m:Int) + 1) (.s 1 (.val 6 (zI ((m:Int) + 1)) (zN (m + 1)) (by (simp; done)) (Hn.next next1 ⟨(m + 1),om,om,(by (exact r8 hs (by (omega)) (by (omega)) bu)),⟨⟩⟩ (by show 258 - (m + 1) < 258 - m; clear next1 last1; omega) [] ro)))))) (fun p2=>have p2f:=au p2; (.val 6 (zN m) (zN (same b i j 258)) (by (exact aO (yd hs bu))) (Hn.last last1 0 (():Unit) rfl [] ro)))))))))))))))))) (fun p1=>have p1f:=aU p1; (.s 26 (.val 6 (zN m) (zN (same b i j 258)) (by (exact aO (un hs hn bu))) (Hn.last last1 0 (():Unit) rfl [] ro))))))))) (fun p0=>have p0f:=aU p0; (.s 40 (.val 6 (zN m) (zN (same b i j 258)) (by (exact aO (uo hs hm bu))) (Hn.last last1 0 (():Unit) rfl [] ro))))))) (fun | ⟨m,hm,hi2,hs,_⟩=>by kernel_rfl) ⟨(0),om,om,(by (simp only [N0,Mq,OA]; done)),⟨⟩⟩ [] ro (cb (fun | ()=>(.s 2 (.out [] [] (zN (same b i j 258)) [] R (ok _ _ wr wr)))))))) (by kernel_rfl)
theorem KM (b:List UInt8) (n i j:Nat) (hn:n = b.length) (hN:n ≤ 1000000) (hi:i ≤ n) (hj:j < i):SpecH false Tryz.prog 128 [.sl false n 1 (b.map dB),iD i,iD j] [] (iD (same b i j 258:Nat)) []:=by
 refine SpecH.run T_ok ai Tryz.func128 rfl rfl rfl trivial rfl 1000 64 (fun R ok=>(.s 2 (Hn.inl T_ok ai false 36 0 (aA Tryz.prog 128 0) (fun (x:(m:Nat) ×' (hm:m ≤ 258) ×' (hi2:i + m ≤ n) ×' (hs:same b i j 258 = m + same b (i + m) (j + m) (258 - m)) ×' Unit)=>match x with | ⟨m,hm,hi2,hs,_⟩=>CutS.mk [(0,D.sl false n 1 (map dB b)),(1,zN i),(2,zN j),(7,iD (m:Nat))] [] 0) (fun (x:(m:Nat) ×' (hm:m ≤ 258) ×' (hi2:i + m ≤ n) ×' (hs:same b i j 258 = m + same b (i + m) (j + m) (258 - m)) ×' Unit)=>match x with | ⟨m,hm,hi2,hs,_⟩=>258 - m) [⟨Unit,.exit 0,fun x=>match x with | ()=>CutS.mk [(0,D.sl false n 1 (map dB b)),(1,zN i),(2,zN j),(7,iD (same b i j 258:Nat))] [] 0⟩] 1000 64 (fun | ⟨m,hm,hi2,hs,_⟩,Q,next1,last1=>(.s 6 (.br (decide ((m:Int) < 258)) (fun p0=>have p0f:=aT p0; (.s 5 (.ow ((i:Int) + (m:Int)) (.s 10 (.br (decide ((i:Int) + (m:Int) < (n:Int))) (fun p1=>have p1f:=aT p1; (.s 7 (.ow ((j:Int) + (m:Int)) (.s 2 (.chk (true && decide ((j:Int) + (m:Int) < (n:Int)) && true) Aq (.s 3 (.opt ((map dB b)[uV ((j:Int) + (m:Int)) * 1]?) (dB (getD b (uV ((j:Int) + (m:Int)) * 1) jk)) (av _ _ om) (.s 9 (.ow ((i:Int) + (m:Int)) (.s 2 (.chk (true && decide ((i:Int) + (m:Int) < (n:Int)) && true) Aq (.s 3 (.opt ((map dB b)[uV ((i:Int) + (m:Int)) * 1]?) (dB (getD b (uV ((i:Int) + (m:Int)) * 1) jk)) (av _ _ om) (.s 4 (.br ((↑(LW (getD b (uV ((j:Int) + (m:Int)) * 1) jk)):Int) == (↑(LW (getD b (uV ((i:Int) + (m:Int)) * 1) jk)):Int)) (fun p2=>have p2f:=eq_of_beq p2; (.s 3 (.ow ((m:Int) + 1) (.s 1 (.val 7 (zI ((m:Int) + 1)) (zN (m + 1)) (by (simp; done)) (Hn.next next1 ⟨(m + 1),om,om,(by (exact r8 hs (by (omega)) (by (omega)) bu)),⟨⟩⟩ (by show 258 - (m + 1) < 258 - m; clear next1 last1; omega) [] ro)))))) (fun p2=>have p2f:=au p2; (.val 7 (zN m) (zN (same b i j 258)) (by (exact aO (yd hs bu))) (Hn.last last1 0 (():Unit) rfl [] ro)))))))))))))))))) (fun p1=>have p1f:=aU p1; (.s 26 (.val 7 (zN m) (zN (same b i j 258)) (by (exact aO (un hs hn bu))) (Hn.last last1 0 (():Unit) rfl [] ro))))))))) (fun p0=>have p0f:=aU p0; (.s 40 (.val 7 (zN m) (zN (same b i j 258)) (by (exact aO (uo hs hm bu))) (Hn.last last1 0 (():Unit) rfl [] ro))))))) (fun | ⟨m,hm,hi2,hs,_⟩=>by kernel_rfl) ⟨(0),om,om,(by (simp only [N0,Mq,OA]; done)),⟨⟩⟩ [] ro (cb (fun | ()=>(.s 2 (.out [] [] (zN (same b i j 258)) [] R (ok _ _ wr wr)))))))) (by kernel_rfl)
theorem longX (b:List UInt8) (n:Nat) (x y:Int) (hn:n = b.length) (hN:n ≤ 1000000) (hx:x ≤ n) (hy:0 ≤ y) (hxy:y < x):SpecH false Tryz.prog 155 [.sl false n 1 (b.map dB),iD x,iD y] [] (iD (same b x.toNat y.toNat 258:Nat)) []:=by
 obtain ⟨i,rfl⟩:=ML (show 0 ≤ x by omega)
 obtain ⟨j,rfl⟩:=ML hy
 exact long b n i j hn hN (by omega) (by omega)
theorem SameX (b:List UInt8) (n:Nat) (x y:Int) (hn:n = b.length) (hN:n ≤ 1000000) (hx:x ≤ n) (hy:0 ≤ y) (hxy:y < x):SpecH false Tryz.prog 128 [.sl false n 1 (b.map dB),iD x,iD y] [] (iD (same b x.toNat y.toNat 258:Nat)) []:=by
 obtain ⟨i,rfl⟩:=ML (show 0 ≤ x by omega)
 obtain ⟨j,rfl⟩:=ML hy
 exact KM b n i j hn hN (by omega) (by omega)
end Vm
end Go.Proofs.YtefjnofhgkjpmaaGreat

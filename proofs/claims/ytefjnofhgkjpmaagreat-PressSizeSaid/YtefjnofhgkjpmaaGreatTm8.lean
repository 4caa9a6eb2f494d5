/- Part 8. -/
import Derived.Test.YtefjnofhgkjpmaaGreatTm7
import Derived.Test.YtefjnofhgkjpmaaGreatTm5
import Derived.Test.YtefjnofhgkjpmaaGreatTm6
set_option linter.unusedVariables false
set_option linter.unusedSimpArgs false
set_option maxRecDepth 100000
set_option maxHeartbeats 4000000
open And renaming intro → Mi
open Bool renaming and_true → Mv, true_and → Mr
open ByteArray renaming mk → Nu, toList → MM
open Eq renaming trans → Px
open Go.Fn renaming func → MG
open Go.IntKind renaming wrap → Mj
open Go.LoopState renaming busy → O2, ready → Oh
open Inhabited renaming default → ji
open Int renaming eq_ofNat_of_zero_le → M2, toNat → u7
open List renaming append_assoc → Mu, append_nil → MU, cons_append → NV, count_append → PP, count_singleton → Pz, drop → MI, drop_append_of_le_length → N8, drop_left' → Qb, drop_zero → Ns, eq_nil_of_length_eq_zero → Mt, eq_replicate_iff → OJ, filter_append → M7, filter_cons_of_neg → NB, filter_cons_of_pos → NA, flatMap_append → NF, flatMap_singleton → N9, getD → Qi, getElem_mem → ML, length_append → L6, length_cons → Mx, length_drop → Ms, length_map → Mg, length_range → Nh, length_replicate → MA, length_set → N1, length_singleton → MN, length_take → Mc, length_take_of_le → MR, map_append → MO, map_replicate → Nv, map_take → OS, mem_cons_of_mem → Mn, mem_cons_self → Mp, mem_filter → Oy, mem_range → Pq, not_mem_nil → N5, range → MQ, range_succ → Og, replicate → Ml, take → ME, take_append → PV, take_append_of_le_length → NN, take_left' → Qa, take_length → M8, take_of_length_le → Mz, take_succ_cons → PC, take_succ_eq_append_getElem → MB, toArray → Oe
open Nat renaming add_assoc → Nd, add_mul → MY, add_sub_cancel → NJ, add_sub_cancel_left → N6, add_zero → N2, beq → L2, beq_refl → M5, ble → L5, ble_eq_true_of_le → L9, le_refl → Mh, le_trans → L8, lt_irrefl → OQ, lt_or_ge → MF, lt_succ_self → Pe, mul_add → NS, mul_assoc → Na, mul_comm → Nk, mul_le_mul_right → MJ, mul_one → My, not_lt_zero → Nc, pow_add → Py, pow_succ → Nt, sub_mul → PX, sub_self → Nf, sub_zero → OH, succ_le_succ → NU, succ_ne_zero → NW, two_pow_pos → NH, zero_add → Mw, zero_le → MP, zero_mul → Nj
open UInt8 renaming ofNat → M1, toNat → L4, toNat_add → P9
namespace Go.Proofs.YtefjnofhgkjpmaaGreat
open Go.RowKit Go.Bw Go.Vx
open List (length getD map take drop flatMap replicate)
namespace Vp
theorem qI {p:Prop} (h:p:=by repeat' first | exact (fun _=>qJ _ _ _) | exact trivial | exact rfl | exact (fun _=>aR _) | exact (fun _=>by assumption) | exact (fun _=>bP _ (fun _=>rfl) _) | exact (fun _=>cS (fun _=>rfl) _) | (intro h; cases h; done) | (intro _; rfl) | (intro _; exact cz _ (bP _ (fun _=>rfl) _)) | exact jj _ (bP _ (fun _=>rfl) _) | refine Mi ?_ ?_ | refine fQ ?_ ?_ | (intro _; refine cQ ?_ ?_) | refine cQ ?_ ?_ | (intro _; refine gq ?_ ?_) | exact cz _ (bP _ (fun _=>rfl) _) | exact bP _ (fun _=>rfl) _):p:=h
theorem Ft {p:Prop} (h:p:=by (refine aO ?_; (omega))):p:=h
theorem Fu {p:Prop} (h:p:=by ( have z:=hT.i.nextk om (((k:Int) - 1).toNat) om; have z2:=hT.l; have z3:=cg ws (((k:Int) - 1).toNat); have z4:(take n (ar ws ((k:Int) - 1).toNat)).length = n:=MR z.1; omega)):p:=h
theorem Im {p:Prop} (h:p:=by ( have z:=hT.i.nextk om (((k:Int) - 1).toNat) om; have z2:=hT.l; have z3:=cg ws (((k:Int) - 1).toNat); have z4:(take n (ar ws ((k:Int) - 1).toNat)).length = n:=MR z.1; simp [aM,ci,aW]; omega)):p:=h
theorem LN {p:Prop} (h:p:=by (rw [iV]; simp only [Mr]; refine L9 ?_; (omega))):p:=h
theorem LO {p:Prop} (h:p:=by show n - (j + 1) < n - j; clear next2 last2 next1 last1; omega):p:=h
theorem LP {p:Prop} (h:p:=by (refine decide_eq_true ?_;  have z:=hT.i.nextk om (((k:Int) - 1).toNat) om; have z2:=hT.l; have z3:=cg ws (((k:Int) - 1).toNat); have z4:(take n (ar ws ((k:Int) - 1).toNat)).length = n:=MR z.1; have h9:=hA.at (t:=0 + j * 1) om; have h8:=cu o S j; omega)):p:=h
theorem oU (W:List Nat) (L:Nat) (hL:L = W.length) (hL2:L ≤ 320) (hB:∀ t,W.getD t ji ≤ 1073741824) (m:Nat) (hm:1 ≤ m ∧ m ≤ 15) (S:List Nat) (hS:eP W = S) (N:Nat) (hN:N = S.length) (hNm:N ≤ 2 ^ m):SpecH false Tryz.prog 144 [.sl false L 1 (W.map nD),nD m] [] (.tup [.ref 0 0 0 N 1,iD 0]) [⟨S.map nD, 3, true⟩]:=by
 subst hS
 have hp:=(dF W).length_eq
 have hN2:N = (et W L).length:=by rw [hN,hp,hL]
 obtain ⟨T1,hE⟩:=EN hL (X:=et W L) rfl hN2
 exact Ah W L hL hL2 hB m hm N hN2 _ T1 rfl hE hNm hE.o hE.t1 hE.o1 hE.t
abbrev Al (T:List Pc):D:=.sl false T.length 2 (T.flatMap ct)
theorem xR (T:List Pc):(T.flatMap ct).length = T.length * 2:=by rw [bl (k:=2) (fun _=>rfl)]
theorem In (ws:List Nat) (n:Nat) (hn:n = ws.length) (hn2:n ≤ 320) (hB:∀ w ∈ ws,w ≤ 1073741824) (j:Nat) (hj:j ≤ 14) (r:Nat) (hr:r = (ar ws j).length):SpecH false Tryz.prog 145 [.sl false r 2 ((ar ws j).flatMap ct),.sl false n 1 (ws.map nD)] [] (Al (ar ws (j + 1))) []:=by
 have h:=cg ws j
 refine SpecH.frz (Ih (ar ws j) r hr (by omega) 100000000000000 (by decide) (Aj hB (by omega)) ws n hn (by omega) (ar ws (j + 1)) (lU ws j)) (xR _) (by decide) (cS (fun _=>rfl) _)
theorem Io (ws:List Nat) (n:Nat) (hn:n = ws.length) (hn2:n ≤ 320):SpecH false Tryz.prog 145 [bB,.sl false n 1 (ws.map nD)] [] (Al (ar ws 0)) [] :=
 SpecH.frz (Ii ws n hn (by omega) _ (oS ws)) (xR _) (by decide) (cS (fun _=>rfl) _)
def gD (ws:List Nat) (k m:Nat):List D:=lk ws ((MQ m).map fun j=>if j < k then Al (ar ws j) else bB)
theorem sw (ws:List Nat) (k m:Nat):gD ws k m = (MQ m).map fun j=>if j < k then Al (ar ws j) else bB:=aG _ _
theorem iV (ws:List Nat) (k m:Nat):(gD ws k m).length = m:=by rw [sw,Mg,Nh]
theorem qJ (ws:List Nat) (k m:Nat):ab (gD ws k m) = true:=by
 rw [bd,sw]
 intro d hd
 obtain ⟨j,_,rfl⟩:=List.mem_map.1 hd
 split <;> rfl
theorem ua {ws:List Nat} {k m j:Nat} (hj:j < m):(gD ws k m)[j]? = some (if j < k then Al (ar ws j) else bB):=by
 rw [sw,List.getElem?_map,List.getElem?_range hj]; rfl
theorem xS (ws:List Nat) {k m j:Nat} (h:j < k) (hj:j < m):(gD ws k m)[0 + j * 1]? = some (Al (ar ws j)):=by
 rw [Mw,My,ua hj,if_pos h]
theorem xT {ws:List Nat} {k m o i:Nat} (hk:k < m) (ho:o = k) (hi:i = k):aj (gD ws k m) o [Al (ar ws i)] = gD ws (k + 1) m:=by
 subst o i
 apply List.ext_getElem?
 intro t
 rw [ck (by rw [iV]; simp only [MN]; omega)]
 simp only [MN]
 rcases MF t m with q | q
 ·rw [ua q,ua q]
  by_cases e:t = k
  ·subst e; rw [if_pos (by omega),Nf,if_pos (by omega)]; rfl
  ·rw [if_neg (by omega)]
   by_cases z:t < k
   ·rw [if_pos z,if_pos (by omega)]
   ·rw [if_neg z,if_neg (by omega)]
 ·rw [if_neg (by omega),List.getElem?_eq_none (by rw [iV]; exact q),List.getElem?_eq_none (by rw [iV]; exact q)]
theorem KL (ws:List Nat) (m:Nat):Ml m bB = gD ws 0 m:=by
 apply List.ext_getElem?
 intro t
 rw [List.getElem?_replicate]
 rcases MF t m with q | q
 ·rw [if_pos q,ua q,if_neg (Nc t)]
 ·rw [if_neg (by omega),List.getElem?_eq_none (by rw [iV]; exact q)]
theorem C5 (d:D) (m:Nat):cv [d] (m * 1) = Ml m d:=by
 rw [My]
 apply List.ext_getElem?
 intro i
 unfold cv
 rw [List.getElem?_map,List.getElem?_replicate]
 rcases MF i m with q | q
 ·rw [List.getElem?_range q,if_pos q]
  show some (Qi [d] (i % 1) ji) = _
  rw [Nat.mod_one]; rfl
 ·rw [List.getElem?_eq_none (by simpa using q),if_neg (by omega)]; rfl
theorem C6 {t:TypeId} {a b:Int} (h:a = b):(⟨[D.v (.int .i64 a)],t,false⟩:Blk) = ⟨[D.v (.int .i64 b)],t,false⟩:=by rw [h]
theorem ub (L:Nat):cv [D.v (.int .u8 0)] (L * 1) = (Ml L (0:UInt8)).map dB:=by rw [C5,Nv]; rfl
theorem LnI.nextk {ws:List Nat} {k n:Nat} (h:LnI ws k n) (hk:0 < k) (i:Nat) (hi:i = k - 1):n ≤ (ar ws i).length ∧ cE (ar ws i) n ≤ n ∧ n - cE (ar ws i) n ≤ ws.length:=by
 subst hi
 have q:=LnI.next (k:=k - 1) (n:=n) (by rw [show k - 1 + 1 = k from by omega]; exact h)
 exact ⟨q.1,q.2.1,q.2.2.1⟩
structure LnT (ws S:List Nat) (L k n:Nat) (o T:List UInt8):Prop where
 i:LnI ws k n
 l:o.length = L
 r:Ak ws S k n o = T
theorem LnT.next {ws S:List Nat} {L k n:Nat} {o T:List UInt8} (h:LnT ws S L k n o T) (hk:0 < k):LnT ws S L (k - 1) (2 * cE (ar ws (k - 1)) n) (b9 o S (n - cE (ar ws (k - 1)) n)) T:=by
 obtain ⟨j,rfl⟩:∃ j,k = j + 1:=⟨k - 1,by omega⟩
 exact ⟨(LnI.next h.i).2.2.2,by rw [cu]; exact h.l,h.r⟩
theorem LnT.next' {ws S:List Nat} {L k n:Nat} {o T:List UInt8} (h:LnT ws S L k n o T) (hk:0 < k) (i:Nat) (hi:i = k - 1):LnT ws S L (k - 1) (2 * cE (ar ws i) n) (b9 o S (n - cE (ar ws i) n)) T:=by
 subst hi; exact h.next hk
theorem C7 {l:List Pc} {n j:Nat} (h:j < n):(l.take n).getD j ji = l.getD j ji:=by
 rw [List.getD_eq_getElem?_getD,List.getD_eq_getElem?_getD,List.getElem?_take,if_pos h]
theorem Ip {row:List Pc} {n j:Nat} (hj:j < n) (hn:n ≤ row.length) (h:((row.take n).getD j ji).p = true):cE row (j + 1) = cE row j + 1:=by
 rw [C7 hj] at h; rw [CZ (by omega),h]; rfl
theorem Iq {row:List Pc} {n j:Nat} (hj:j < n) (hn:n ≤ row.length) (h:((row.take n).getD j ji).p = false):cE row (j + 1) = cE row j:=by
 rw [C7 hj] at h; rw [CZ (by omega),h]; rfl
theorem gE {n N:Nat} {x:Int} (h:x = n) (h2:n ≤ N):(aM none (some x) none N && true) = true:=by
 subst h; simp [aM,ci,aW]; omega
theorem Ir {o:List UInt8} {S:List Nat} {j a i:Nat} (hj:j < S.length) (ha:a = S.getD j ji) (hi:i = S.getD j ji) (hl:S.getD j ji < o.length):aj ((b9 o S j).map dB) a [D.v (.int .u8 ((((((b9 o S j).getD i ji).toNat:Nat):Int) + 1) % 256))] = (b9 o S (j + 1)).map dB:=by
 subst ha hi
 have e:(((((b9 o S j).getD (S.getD j ji) ji).toNat:Nat):Int) + 1) % 256 = ((((b9 o S j).getD (S.getD j ji) ji + 1).toNat:Nat):Int):=by
  rw [P9]; show _ = (((_ + 1) % 256:Nat):Int); omega
 rw [e,sv hj]
 generalize (b9 o S j).getD (S.getD j ji) ji + 1 = v
 apply List.ext_getElem?
 intro t
 rw [ck (by simp only [Mg,MN,cu]; omega),List.getElem?_map,List.getElem?_map,List.getElem?_set,cu]
 simp only [MN]
 by_cases q:S.getD j ji = t
 ·rw [← q,if_pos (by omega),if_pos rfl,if_pos hl,Nf]; rfl
 ·rw [if_neg (by omega),if_neg q]
theorem LnT.last {ws S:List Nat} {L k n:Nat} {o T:List UInt8} (h:LnT ws S L k n o T) (hk:k = 0):o = T:=by subst hk; exact h.r
theorem Is (W:List Nat) (L:Nat) (hL:L = W.length) (hL2:L ≤ 320) (hB:∀ t,W.getD t ji ≤ 1073741824) (m:Nat) (hm:1 ≤ m ∧ m ≤ 15) (S:List Nat) (hS:eP W = S) (N:Nat) (hN:N = S.length) (hNm:N ≤ 2 ^ m) (hA:bq L S) (hN3:N ≤ 320) (h2:2 ≤ N) (ws:List Nat) (hw:oP W S N = ws) (hwl:ws.length = N) (hwb:∀ w ∈ ws,w ≤ 1073741824) (T:List UInt8) (hI:LnT ws S L m (2 * N - 2) (Ml L 0) T):SpecH false Tryz.prog 108 [.sl false L 1 (W.map nD),nD m] [] (.tup [.ref 0 0 0 L 1,iD 0]) [⟨T.map dB, 5, true⟩]:=by
 have hcl0:=qJ ws 0 m
 have hclm:=qJ ws m m
 refine SpecH.run T_ok ai Tryz.func108 rfl rfl rfl ⟨aT _,trivial⟩ rfl 1000 64 (fun R ok=>(.s 5 (.cl 144 false [] (.fn D6 (@oU (W) (L) om om om (m) om (S) bz (N) bz om)) (.s 18 (.chk (true && decide ((L:Int) ≤ (L:Int)) && true && true && true && true && decide ((↑(TI.bytes zB):Int) * (L:Int) ≤ 140737488355328)) (by (have h9:((zB.bytes:Nat):Int) = 1:=rfl; rw [h9]; simp; omega)) (.s 11 (.f ((N:Int) == 1) (by (refine decide_eq_false ?_; (omega))) (.s 6 (.f (decide ((N:Int) < 2)) (by (refine decide_eq_false ?_; (omega))) (.s 6 (.nils 9 224 1 3 (.blk 120 120 (Blk.mk (cv [bI 0] (L * 1)) 5 true) (Blk.mk (map dB (replicate L 0)) 5 true) (by (refine aC ?_; rw [ub])) (.blk 224 224 (Blk.mk [] 3 true) (Blk.mk (map nD (oP W S 0)) 3 true) (by (rw [Ij]; rfl)) (Hn.inl T_ok ai false 126 0 (ay Tryz.prog 108 0) (fun (x:(k:Nat) ×' (hk:k ≤ N) ×' Unit)=>match x with | ⟨k,hk,_⟩=>CutS.mk [(0,D.sl false L 1 (map nD W)),(1,zN m),(4,zS),(5,zI 0),(6,D.ptr 8 8 0),(8,D.ptr 24 24 0),(9,(D.ref 32 32 (0) (k) 1)),(46,D.ref 0 0 0 N 1),(47,zN N),(48,nD k)] [⟨0,0,32,32,.b ⟨map nD S,3,true⟩⟩,⟨8,8,64,64,.b ⟨[D.ref 0 0 0 N 1],152,false⟩⟩,⟨16,16,120,120,.b ⟨(replicate L (0:UInt8)).map dB,5,true⟩⟩,⟨24,24,128,128,.b ⟨[D.ref 16 16 0 L 1],24,false⟩⟩,⟨32,32,224,224,.b ⟨(oP W S k).map nD,3,true⟩⟩] 40) (fun (x:(k:Nat) ×' (hk:k ≤ N) ×' Unit)=>match x with | ⟨k,hk,_⟩=>N - k) [⟨Unit,.exit 0,fun x=>match x with | ()=>CutS.mk [(0,D.sl false L 1 (map nD W)),(1,zN m),(4,zS),(5,zI 0),(6,D.ptr 8 8 0),(8,D.ptr 24 24 0),(9,(D.ref 32 32 (0) (N) 1)),(46,D.ref 0 0 0 N 1),(47,zN N)] [⟨0,0,32,32,.b ⟨map nD S,3,true⟩⟩,⟨8,8,64,64,.b ⟨[D.ref 0 0 0 N 1],152,false⟩⟩,⟨16,16,120,120,.b ⟨(replicate L (0:UInt8)).map dB,5,true⟩⟩,⟨24,24,128,128,.b ⟨[D.ref 16 16 0 L 1],24,false⟩⟩,⟨32,32,224,224,.b ⟨ws.map nD,3,true⟩⟩] 40⟩] 1000 64 (fun | ⟨k,hk,_⟩,Q,next1,last1=>(.s 2 (.br (decide ((k:Int) < (N:Int))) (fun p0=>have p0f:=ba p0; (.s 1 (.chk (true && decide ((k:Int) < (N:Int))) bz (.s 2 (.opt ((map nD S)[0 + k * 1]?) (nD (getD S (0 + k * 1) ji)) (au _ _ om) (.s 5 (.chk (true && decide ((↑(getD S (0 + k * 1) ji):Int) < (L:Int)) && true) (by ((refine aI ?_ ?_) <;> (repeat' (first | (refine aI ?_ ?_) | (with_reducible rfl) | (refine decide_eq_true ?_) | (refine L9 ?_) | (refine er ?_))) <;> ( have h9:=hA.at (t:=0 + k * 1) om; omega))) (.s 2 (.opt ((map nD W)[getD S (0 + k * 1) ji * 1]?) (nD (getD W (getD S (0 + k * 1) ji * 1) ji)) (au _ _ (by ( have h9:=hA.at (t:=0 + k * 1) om; omega))) (.s 3 (.chk (true && L2 (k * 1) (length (map nD (oP W S k))) && true && true && true && true && L5 ((k + 1) * 8) 140737488355328) (by (rw [Mg,kC (by (omega))]; simp only [My,M5,Mr,Mv]; refine L9 ?_; (omega))) (.s 3 (.ow ((k:Int) + 1) (.s 1 (.val 48 (zI ((k:Int) + 1)) (zN (k + 1)) Ft (.blk 120 120 (Blk.mk (map nD (oP W S k) ++ [zN (getD W (getD S (0 + k * 1) ji * 1) ji)]) 3 true) (Blk.mk (map nD (oP W S (k + 1))) 3 true) (by ( refine aC ?_; simp only [Mw,My]; rw [Ik om,MO]; rfl)) (Hn.next next1 ⟨(k + 1),om,⟨⟩⟩ (by show N - (k + 1) < N - k; clear next1 last1; omega) [(0,0),(8,8),(16,16),(24,24),(120,120)] qI))))))))))))))))) (fun p0=>have p0f:=bb p0; (.val 9 (D.ref 32 32 0 k 1) (D.ref 32 32 0 N 1) (by (simp <;> (omega))) (.blk 32 32 (Blk.mk (map nD (oP W S k)) 3 true) (Blk.mk (map nD ws) 3 true) (by ( rw [show k = N from by omega,hw])) (Hn.last last1 0 (():Unit) rfl [(0,0),(8,8),(16,16),(24,24),(32,32)] qI))))))) (fun | ⟨k,hk,_⟩=>by kernel_rfl) ⟨(0),om,⟨⟩⟩ [(32,32),(64,64),(120,120),(128,128),(224,224)] qI (bZ (fun | ()=>(.s 2 (.chk (true && decide ((m:Int) ≤ (m:Int)) && true && true && true && true && decide ((↑(TI.bytes tP):Int) * (m:Int) ≤ 140737488355328)) (by (have h9:((tP.bytes:Nat):Int) = 24:=rfl; rw [h9]; simp; omega)) (.s 4 (.blk 48 48 (Blk.mk (cv [zS] (m * 1)) 225 true) (Blk.mk (gD ws 0 m) 225 true) (by (refine aC ?_; rw [C5,KL])) (Hn.inl T_ok ai false 126 0 (ay Tryz.prog 108 1) (fun (x:(k:Nat) ×' (hk:k ≤ m) ×' (hcl:ab (gD ws k m) = true) ×' Unit)=>match x with | ⟨k,hk,hcl,_⟩=>CutS.mk [(4,zS),(5,zI 0),(6,D.ptr 8 8 0),(8,D.ptr 24 24 0),(9,D.ref 32 32 0 N 1),(12,D.ref 40 40 0 m 1),(63,zN m),(64,nD k)] [⟨0,0,0,0,.b ⟨map nD S,3,true⟩⟩,⟨8,8,8,8,.b ⟨[D.ref 0 0 0 N 1],152,false⟩⟩,⟨16,16,16,16,.b ⟨map dB (replicate L 0),5,true⟩⟩,⟨24,24,24,24,.b ⟨[D.ref 16 16 0 L 1],24,false⟩⟩,⟨32,32,32,32,.b ⟨map nD ws,3,true⟩⟩,⟨40,40,48,48,.b ⟨gD ws k m,225,true⟩⟩] 48) (fun (x:(k:Nat) ×' (hk:k ≤ m) ×' (hcl:ab (gD ws k m) = true) ×' Unit)=>match x with | ⟨k,hk,hcl,_⟩=>m - k) [⟨(hcl2:ab (gD ws m m) = true) ×' Unit,.exit 2,fun x=>match x with | ⟨hcl2,_⟩=>CutS.mk [(4,zS),(5,zI 0),(6,D.ptr 8 8 0),(8,D.ptr 24 24 0),(9,D.ref 32 32 0 N 1),(12,D.ref 40 40 0 m 1),(63,zN m)] [⟨0,0,0,0,.b ⟨map nD S,3,true⟩⟩,⟨8,8,8,8,.b ⟨[D.ref 0 0 0 N 1],152,false⟩⟩,⟨16,16,16,16,.b ⟨map dB (replicate L 0),5,true⟩⟩,⟨24,24,24,24,.b ⟨[D.ref 16 16 0 L 1],24,false⟩⟩,⟨32,32,32,32,.b ⟨map nD ws,3,true⟩⟩,⟨40,40,48,48,.b ⟨gD ws m m,225,true⟩⟩] 48⟩] 1000 64 (fun | ⟨k,hk,hcl,_⟩,Q,next1,last1=>(.s 2 (.br (decide ((k:Int) < (m:Int))) (fun p1=>have p1f:=ba p1; (.s 5 (.br (decide (0 < (k:Int))) (fun p2=>have p2f:=ba p2; (.s 6 (.ow ((k:Int) - 1) (.s 1 (.chk (decide (0 ≤ (k:Int) - 1) && decide ((k:Int) - 1 < (m:Int))) (by ((refine aI ?_ ?_) <;> (repeat' (first | (refine aI ?_ ?_) | (with_reducible rfl) | (refine decide_eq_true ?_) | (refine L9 ?_) | (refine er ?_))) <;> (omega))) (.s 2 (.opt ((gD ws k m)[0 + u7 ((k:Int) - 1) * 1]?) (Al (ar ws (u7 ((k:Int) - 1)))) (@xS ws (k) (m) (u7 ((k:Int) - 1)) om om) (.s 2 (.call 145 false [] (true && (true && (true && L5 (0 + N * 1) (length (map nD ws)) && true && ab (bif true && L2 (N * 1) (length (map nD ws)) then map nD ws else take (N * 1) (drop 0 (map nD ws)))) && true)) (by (simp <;> (omega))) ([D.sl false (length (ar ws (u7 ((k:Int) - 1)))) 2 (flatMap ct (ar ws (u7 ((k:Int) - 1)))),D.sl (L5 1 N) N 1 (bif true && L2 (N * 1) (length (map nD ws)) then map nD ws else take (N * 1) (drop 0 (map nD ws)))]) _ (by exact (Mi (D.sim.refl _) (Mi (D.sim.slw rfl (aV (by (simp <;> (omega))) |>.trans rfl)) trivial))) (true) wr _ _ _ (CallOk.fn (ax.of Tryz.func145 rfl rfl) (@In (ws) (N) om om om (u7 ((k:Int) - 1)) om (length (ar ws (u7 ((k:Int) - 1)))) om)) (.s 1 (.chk (true && decide ((k:Int) < (m:Int))) bz (.s 1 (.chk (true && L5 (0 + k * 1 + 1) (length (gD ws k m))) LN (.lst (aj (gD ws k m) (0 + k * 1) [D.sl false (length (ar ws (u7 ((k:Int) - 1) + 1))) 2 (flatMap ct (ar ws (u7 ((k:Int) - 1) + 1)))]) (aj (gD ws k m) k [D.sl false (length (ar ws (u7 ((k:Int) - 1) + 1))) 2 (flatMap ct (ar ws (u7 ((k:Int) - 1) + 1)))]) (by (simp; done)) (.s 2 (.ow ((k:Int) + 1) (.s 1 (.val 64 (zI ((k:Int) + 1)) (zN (k + 1)) Ft (.blk 40 40 (Blk.mk (aj (gD ws k m) k [D.sl false (length (ar ws (u7 ((k:Int) - 1) + 1))) 2 (flatMap ct (ar ws (u7 ((k:Int) - 1) + 1)))]) 225 true) (Blk.mk (gD ws (k + 1) m) 225 true) (by ( exact aC (xT om om om))) (Hn.next next1 ⟨(k + 1),om,(by (exact qJ _ _ _)),⟨⟩⟩ (by show m - (k + 1) < m - k; clear next1 last1; omega) [(0,0),(8,8),(16,16),(24,24),(32,32),(40,40)] qI)))))))))))))))))))) (fun p2=>have p2f:=bb p2; (.s 4 (.call 145 false [] (true && (true && (true && L5 (0 + N * 1) (length (map nD ws)) && true && ab (bif true && L2 (N * 1) (length (map nD ws)) then map nD ws else take (N * 1) (drop 0 (map nD ws)))) && true)) (by (simp;  have h9:=hA.at (t:=0 + k * 1) om; omega)) ([zS,D.sl (L5 1 N) N 1 (bif true && L2 (N * 1) (length (map nD ws)) then map nD ws else take (N * 1) (drop 0 (map nD ws)))]) _ (by exact (Mi (D.sim.refl _) (Mi (D.sim.slw rfl (aV (by (simp;  have h9:=hA.at (t:=0 + k * 1) om; omega)) |>.trans rfl)) trivial))) (true) wr _ _ _ (CallOk.fn (ax.of Tryz.func145 rfl rfl) (@Io (ws) (N) om om)) (.s 1 (.chk (true && decide ((k:Int) < (m:Int))) bz (.s 1 (.chk (true && L5 (0 + k * 1 + 1) (length (gD ws k m))) LN (.lst (aj (gD ws k m) (0 + k * 1) [D.sl false (length (ar ws 0)) 2 (flatMap ct (ar ws 0))]) (aj (gD ws k m) k [D.sl false (length (ar ws 0)) 2 (flatMap ct (ar ws 0))]) (by (simp; done)) (.s 2 (.ow ((k:Int) + 1) (.s 1 (.val 64 (zI ((k:Int) + 1)) (zN (k + 1)) Ft (.blk 40 40 (Blk.mk (aj (gD ws k m) k [D.sl false (length (ar ws 0)) 2 (flatMap ct (ar ws 0))]) 225 true) (Blk.mk (gD ws (k + 1) m) 225 true) (by ( exact aC (xT om om om))) (Hn.next next1 ⟨(k + 1),om,(by (exact qJ _ _ _)),⟨⟩⟩ (by show m - (k + 1) < m - k; clear next1 last1; omega) [(0,0),(8,8),(16,16),(24,24),(32,32),(40,40)] qI))))))))))))))))) (fun p1=>have p1f:=bb p1; (.blk 40 40 (Blk.mk (gD ws k m) 225 true) (Blk.mk (gD ws m m) 225 true) (by ( rw [show k = m from by omega])) (Hn.last last1 0 (⟨om,⟨⟩⟩:(hcl2:ab (gD ws m m) = true) ×' Unit) rfl [(0,0),(8,8),(16,16),(24,24),(32,32),(40,40)] qI)))))) (fun | ⟨k,hk,hcl,_⟩=>by kernel_rfl) ⟨(0),om,om,⟨⟩⟩ [(0,0),(8,8),(16,16),(24,24),(32,32),(48,48)] qI (bZ (fun | ⟨hcl2,_⟩=>(.s 6 (.ow (2 * (N:Int)) (.s 2 (.ow (2 * (N:Int) - 2) (.s 19 (.ow ((m:Int) - 1) (.s 1 (.blk 80 80 (Blk.mk [zI (2 * (N:Int) - 2)] 3 false) (Blk.mk [zN (2 * N - 2)] 3 false) (by ( exact C6 om)) (Hn.inl T_ok ai false 19 168 (ay Tryz.prog 177 0) (fun (x:(k:Nat) ×' (n:Nat) ×' (o:List UInt8) ×' (hk:k ≤ m) ×' (hT:LnT ws S L k n o T) ×' Unit)=>match x with | ⟨k,n,o,hk,hT,_⟩=>CutS.mk [(0,D.yl 160 160),(1,D.ptr 112 112 0),(3,iD ((k:Int) - 1))] [⟨0,0,0,0,.b ⟨map nD S,3,true⟩⟩,⟨8,8,8,8,.b ⟨[D.ref 0 0 0 N 1],152,false⟩⟩,⟨16,16,16,16,.b ⟨o.map dB,5,true⟩⟩,⟨24,24,24,24,.b ⟨[D.ref 16 16 0 L 1],24,false⟩⟩,⟨32,32,32,32,.b ⟨map nD ws,3,true⟩⟩,⟨40,40,40,40,.b ⟨gD ws m m,225,true⟩⟩,⟨80,80,80,80,.b ⟨[nD n],3,false⟩⟩,⟨112,112,112,112,.b ⟨[D.ref 40 40 0 m 1],224,false⟩⟩,⟨160,160,160,160,.l Oh none (rangeAt Tryz.prog 108 0).1 (rangeAt Tryz.prog 108 0).2.1 (rangeAt Tryz.prog 108 0).2.2 126 [(63,zN m),(87,zI (2 * (N:Int))),(5,zI 0),(9,D.ref 32 32 0 N 1),(89,D.ref 40 40 0 m 1),(85,D.ref 0 0 0 N 1),(4,zS),(8,D.ptr 24 24 0),(88,zI (2 * (N:Int) - 2)),(12,D.ref 40 40 0 m 1),(6,D.ptr 8 8 0),(90,D.fn (MG 177) [] [D.ptr 112 112 0]),(14,D.ptr 80 80 0),(86,zN N)]⟩] 240) (fun (x:(k:Nat) ×' (n:Nat) ×' (o:List UInt8) ×' (hk:k ≤ m) ×' (hT:LnT ws S L k n o T) ×' Unit)=>match x with | ⟨k,n,o,hk,hT,_⟩=>k) [⟨(n2:Nat) ×' Unit,.exit 0,fun x=>match x with | ⟨n2,_⟩=>CutS.mk [(0,D.yl 160 160),(1,D.ptr 112 112 0)] [⟨0,0,0,0,.b ⟨map nD S,3,true⟩⟩,⟨8,8,8,8,.b ⟨[D.ref 0 0 0 N 1],152,false⟩⟩,⟨16,16,16,16,.b ⟨T.map dB,5,true⟩⟩,⟨24,24,24,24,.b ⟨[D.ref 16 16 0 L 1],24,false⟩⟩,⟨32,32,32,32,.b ⟨map nD ws,3,true⟩⟩,⟨40,40,40,40,.b ⟨gD ws m m,225,true⟩⟩,⟨80,80,80,80,.b ⟨[nD n2],3,false⟩⟩,⟨112,112,112,112,.b ⟨[D.ref 40 40 0 m 1],224,false⟩⟩,⟨160,160,160,160,.l Oh none (rangeAt Tryz.prog 108 0).1 (rangeAt Tryz.prog 108 0).2.1 (rangeAt Tryz.prog 108 0).2.2 126 [(63,zN m),(87,zI (2 * (N:Int))),(5,zI 0),(9,D.ref 32 32 0 N 1),(89,D.ref 40 40 0 m 1),(85,D.ref 0 0 0 N 1),(4,zS),(8,D.ptr 24 24 0),(88,zI (2 * (N:Int) - 2)),(12,D.ref 40 40 0 m 1),(6,D.ptr 8 8 0),(90,D.fn (MG 177) [] [D.ptr 112 112 0]),(14,D.ptr 80 80 0),(86,zN N)]⟩] 240⟩] 1000 64 (fun | ⟨k,n,o,hk,hT,_⟩,Q,next1,last1=>(.s 3 (.br (decide (0 ≤ (k:Int) - 1)) (fun p3=>have p3f:=ba p3; (.s 7 (.chk (decide (0 ≤ (k:Int) - 1) && decide ((k:Int) - 1 < (m:Int))) Im (.s 2 (.opt ((gD ws m m)[0 + u7 ((k:Int) - 1) * 1]?) (Al (ar ws (u7 ((k:Int) - 1)))) (@xS ws (m) (m) (u7 ((k:Int) - 1)) om om) (.s 8 (.chk (aM none (some (n:Int)) none (length (ar ws (u7 ((k:Int) - 1)))) && true) (by ( have z:=hT.i.nextk om (((k:Int) - 1).toNat) om; have z2:=hT.l; have z3:=cg ws (((k:Int) - 1).toNat); have z4:(take n (ar ws ((k:Int) - 1).toNat)).length = n:=MR z.1; exact gE rfl om)) (.s 2 (.val 17 (zI 0) (zN (cE (ar ws (u7 ((k:Int) - 1))) 0)) (by (rw [Il]; rfl)) (.val 95 (D.sl false n 2 (take (n * 2) (flatMap ct (ar ws (u7 ((k:Int) - 1)))))) (D.sl false n 2 (flatMap ct (take n (ar ws (u7 ((k:Int) - 1)))))) (by (refine congrArg (D.sl false n 2) ?_; refine tN ?_ _ _; exact fun _=>rfl)) (Hn.inl T_ok ai true 126 312 (ay Tryz.prog 108 2) (fun (x:(j:Nat) ×' (hj:j ≤ n) ×' Unit)=>match x with | ⟨j,hj,_⟩=>CutS.mk [(4,zS),(5,zI 0),(6,D.ptr 8 8 0),(8,D.ptr 24 24 0),(14,D.ptr 80 80 0),(16,D.sl false (length (ar ws (u7 ((k:Int) - 1)))) 2 (flatMap ct (ar ws (u7 ((k:Int) - 1))))),(17,nD (cE (ar ws ((k:Int) - 1).toNat) j)),(90,D.fn (MG 177) [] [D.ptr 112 112 0]),(92,D.sl false (length (ar ws (u7 ((k:Int) - 1)))) 2 (flatMap ct (ar ws (u7 ((k:Int) - 1))))),(93,D.sl false (length (ar ws (u7 ((k:Int) - 1)))) 2 (flatMap ct (ar ws (u7 ((k:Int) - 1))))),(94,zN n),(95,.sl false n 2 ((take n (ar ws ((k:Int) - 1).toNat)).flatMap ct)),(96,zN n),(97,nD j)] [⟨0,0,0,0,.b ⟨map nD S,3,true⟩⟩,⟨8,8,8,8,.b ⟨[D.ref 0 0 0 N 1],152,false⟩⟩,⟨16,16,16,16,.b ⟨map dB o,5,true⟩⟩,⟨24,24,24,24,.b ⟨[D.ref 16 16 0 L 1],24,false⟩⟩,⟨32,32,32,32,.b ⟨map nD ws,3,true⟩⟩,⟨40,40,40,40,.b ⟨gD ws m m,225,true⟩⟩,⟨80,80,80,80,.b ⟨[zN n],3,false⟩⟩,⟨112,112,112,112,.b ⟨[D.ref 40 40 0 m 1],224,false⟩⟩,⟨160,160,160,160,.l O2 none (rangeAt Tryz.prog 108 0).1 (rangeAt Tryz.prog 108 0).2.1 (rangeAt Tryz.prog 108 0).2.2 126 [(63,zN m),(87,zI (2 * (N:Int))),(5,zI 0),(9,D.ref 32 32 0 N 1),(89,D.ref 40 40 0 m 1),(85,D.ref 0 0 0 N 1),(4,zS),(8,D.ptr 24 24 0),(88,zI (2 * (N:Int) - 2)),(12,D.ref 40 40 0 m 1),(6,D.ptr 8 8 0),(90,D.fn (MG 177) [] [D.ptr 112 112 0]),(14,D.ptr 80 80 0),(86,zN N)]⟩] 384) (fun (x:(j:Nat) ×' (hj:j ≤ n) ×' Unit)=>match x with | ⟨j,hj,_⟩=>n - j) [⟨Unit,.exit 6,fun x=>match x with | ()=>CutS.mk [(4,zS),(5,zI 0),(6,D.ptr 8 8 0),(8,D.ptr 24 24 0),(14,D.ptr 80 80 0),(16,D.sl false (length (ar ws (u7 ((k:Int) - 1)))) 2 (flatMap ct (ar ws (u7 ((k:Int) - 1))))),(17,nD (cE (ar ws ((k:Int) - 1).toNat) n)),(90,D.fn (MG 177) [] [D.ptr 112 112 0]),(92,D.sl false (length (ar ws (u7 ((k:Int) - 1)))) 2 (flatMap ct (ar ws (u7 ((k:Int) - 1))))),(93,D.sl false (length (ar ws (u7 ((k:Int) - 1)))) 2 (flatMap ct (ar ws (u7 ((k:Int) - 1))))),(94,zN n),(96,zN n),(97,nD n)] [⟨0,0,0,0,.b ⟨map nD S,3,true⟩⟩,⟨8,8,8,8,.b ⟨[D.ref 0 0 0 N 1],152,false⟩⟩,⟨16,16,16,16,.b ⟨map dB o,5,true⟩⟩,⟨24,24,24,24,.b ⟨[D.ref 16 16 0 L 1],24,false⟩⟩,⟨32,32,32,32,.b ⟨map nD ws,3,true⟩⟩,⟨40,40,40,40,.b ⟨gD ws m m,225,true⟩⟩,⟨80,80,80,80,.b ⟨[zN n],3,false⟩⟩,⟨112,112,112,112,.b ⟨[D.ref 40 40 0 m 1],224,false⟩⟩,⟨160,160,160,160,.l O2 none (rangeAt Tryz.prog 108 0).1 (rangeAt Tryz.prog 108 0).2.1 (rangeAt Tryz.prog 108 0).2.2 126 [(63,zN m),(87,zI (2 * (N:Int))),(5,zI 0),(9,D.ref 32 32 0 N 1),(89,D.ref 40 40 0 m 1),(85,D.ref 0 0 0 N 1),(4,zS),(8,D.ptr 24 24 0),(88,zI (2 * (N:Int) - 2)),(12,D.ref 40 40 0 m 1),(6,D.ptr 8 8 0),(90,D.fn (MG 177) [] [D.ptr 112 112 0]),(14,D.ptr 80 80 0),(86,zN N)]⟩] 384⟩] 1000 64 (fun | ⟨j,hj,_⟩,Q,next2,last2=>(.s 2 (.br (decide ((j:Int) < (n:Int))) (fun p4=>have p4f:=ba p4; (.s 1 (.chk (true && decide ((j:Int) < (n:Int)) && true) Im (.s 2 (.chk (L5 (j * 2 + 2) (length (flatMap ct (take n (ar ws (u7 ((k:Int) - 1))))))) (by (rw [bl (k:=2) (fun (x:Pc)=>(rfl:(ct x).length = 2)),Mc]; refine L9 ?_;  have z:=hT.i.nextk om (((k:Int) - 1).toNat) om; have z2:=hT.l; have z3:=cg ws (((k:Int) - 1).toNat); have z4:(take n (ar ws ((k:Int) - 1).toNat)).length = n:=MR z.1; omega)) (.lst (take 2 (drop (j * 2) (flatMap ct (take n (ar ws (u7 ((k:Int) - 1))))))) ([zN (Pc.w (getD (take n (ar ws (u7 ((k:Int) - 1)))) j ji)),D.v (.bool (Pc.p (getD (take n (ar ws (u7 ((k:Int) - 1)))) j ji)))]) (aE (k:=2) (i:=j) (fun _=>rfl) Fu om) (.s 11 (.br (Pc.p (getD (take n (ar ws (u7 ((k:Int) - 1)))) j ji)) (fun p5=>(.s 3 (.op ((↑(cE (ar ws (u7 ((k:Int) - 1))) j):Int) + 1) (by ( have z:=hT.i.nextk om (((k:Int) - 1).toNat) om; have z2:=hT.l; have z3:=cg ws (((k:Int) - 1).toNat); have z4:(take n (ar ws ((k:Int) - 1).toNat)).length = n:=MR z.1; have h7:=xM (ar ws ((k:Int) - 1).toNat) j; omega)) (.s 3 (.op ((j:Int) + 1) Fu (.s 1 (.val 17 (zI ((↑(cE (ar ws (u7 ((k:Int) - 1))) j):Int) + 1)) (zN (cE (ar ws (u7 ((k:Int) - 1))) (j + 1))) (by ( have z:=hT.i.nextk om (((k:Int) - 1).toNat) om; have z2:=hT.l; have z3:=cg ws (((k:Int) - 1).toNat); have z4:(take n (ar ws ((k:Int) - 1).toNat)).length = n:=MR z.1; refine aO ?_; rw [Ip (n:=n) om z.1 bz]; omega)) (.val 97 (zI ((j:Int) + 1)) (zN (j + 1)) Ft (Hn.next next2 ⟨(j + 1),om,⟨⟩⟩ LO [(0,0),(8,8),(16,16),(24,24),(32,32),(40,40),(80,80),(112,112),(160,160)] qI))))))))) (fun p5=>(.s 2 (.op ((j:Int) + 1) Fu (.s 1 (.val 17 (zN (cE (ar ws (u7 ((k:Int) - 1))) j)) (zN (cE (ar ws (u7 ((k:Int) - 1))) (j + 1))) (by ( have z:=hT.i.nextk om (((k:Int) - 1).toNat) om; have z2:=hT.l; have z3:=cg ws (((k:Int) - 1).toNat); have z4:(take n (ar ws ((k:Int) - 1).toNat)).length = n:=MR z.1; rw [Iq (n:=n) om z.1 bz])) (.val 97 (zI ((j:Int) + 1)) (zN (j + 1)) Ft (Hn.next next2 ⟨(j + 1),om,⟨⟩⟩ LO [(0,0),(8,8),(16,16),(24,24),(32,32),(40,40),(80,80),(112,112),(160,160)] qI))))))))))))))) (fun p4=>have p4f:=bb p4; (.val 17 (zN (cE (ar ws (u7 ((k:Int) - 1))) j)) (zN (cE (ar ws (u7 ((k:Int) - 1))) n)) (by ( rw [show j = n from by omega])) (.val 97 (zN j) (zN n) Im (Hn.last last2 0 (():Unit) rfl [(0,0),(8,8),(16,16),(24,24),(32,32),(40,40),(80,80),(112,112),(160,160)] qI))))))) (fun | ⟨j,hj,_⟩=>by kernel_rfl) ⟨(0),om,⟨⟩⟩ [(0,0),(8,8),(16,16),(24,24),(32,32),(40,40),(80,80),(112,112),(160,160)] qI (bZ (fun | ()=>(.s 9 (.op ((n:Int) - (↑(cE (ar ws (u7 ((k:Int) - 1))) n):Int)) Fu (.s 1 (.chk (aM none (some ((n:Int) - (↑(cE (ar ws (u7 ((k:Int) - 1))) n):Int))) none N && true) (by ( have z:=hT.i.nextk om (((k:Int) - 1).toNat) om; have z2:=hT.l; have z3:=cg ws (((k:Int) - 1).toNat); have z4:(take n (ar ws ((k:Int) - 1).toNat)).length = n:=MR z.1; refine gE (n:=n - cE (ar ws ((k:Int) - 1).toNat) n) ?_ ?_ <;> omega)) (.s 2 (.blk 16 16 (Blk.mk (map dB o) 5 true) (Blk.mk (map dB (b9 o S 0)) 5 true) (by (rw [su])) (Hn.inl T_ok ai true 126 312 (ay Tryz.prog 108 3) (fun (x:(j:Nat) ×' (hj:j ≤ n - cE (ar ws ((k:Int) - 1).toNat) n) ×' Unit)=>match x with | ⟨j,hj,_⟩=>CutS.mk [(4,zS),(5,zI 0),(6,D.ptr 8 8 0),(8,D.ptr 24 24 0),(14,D.ptr 80 80 0),(16,D.sl false (length (ar ws (u7 ((k:Int) - 1)))) 2 (flatMap ct (ar ws (u7 ((k:Int) - 1))))),(17,zN (cE (ar ws (u7 ((k:Int) - 1))) n)),(90,D.fn (MG 177) [] [D.ptr 112 112 0]),(92,D.sl false (length (ar ws (u7 ((k:Int) - 1)))) 2 (flatMap ct (ar ws (u7 ((k:Int) - 1))))),(93,D.sl false (length (ar ws (u7 ((k:Int) - 1)))) 2 (flatMap ct (ar ws (u7 ((k:Int) - 1))))),(94,zN n),(96,zN n),(97,zN n),(106,D.ref 0 0 0 N 1),(107,zN n),(108,zN (cE (ar ws (u7 ((k:Int) - 1))) n)),(109,zI ((n:Int) - (↑(cE (ar ws (u7 ((k:Int) - 1))) n):Int))),(110,D.ref 0 0 0 (u7 ((n:Int) - (↑(cE (ar ws (u7 ((k:Int) - 1))) n):Int))) 1),(111,zN (u7 ((n:Int) - (↑(cE (ar ws (u7 ((k:Int) - 1))) n):Int)))),(112,nD j)] [⟨0,0,0,0,.b ⟨map nD S,3,true⟩⟩,⟨8,8,8,8,.b ⟨[D.ref 0 0 0 N 1],152,false⟩⟩,⟨16,16,16,16,.b ⟨(b9 o S j).map dB,5,true⟩⟩,⟨24,24,24,24,.b ⟨[D.ref 16 16 0 L 1],24,false⟩⟩,⟨32,32,32,32,.b ⟨map nD ws,3,true⟩⟩,⟨40,40,40,40,.b ⟨gD ws m m,225,true⟩⟩,⟨80,80,80,80,.b ⟨[zN n],3,false⟩⟩,⟨112,112,112,112,.b ⟨[D.ref 40 40 0 m 1],224,false⟩⟩,⟨160,160,160,160,.l O2 none (rangeAt Tryz.prog 108 0).1 (rangeAt Tryz.prog 108 0).2.1 (rangeAt Tryz.prog 108 0).2.2 126 [(63,zN m),(87,zI (2 * (N:Int))),(5,zI 0),(9,D.ref 32 32 0 N 1),(89,D.ref 40 40 0 m 1),(85,D.ref 0 0 0 N 1),(4,zS),(8,D.ptr 24 24 0),(88,zI (2 * (N:Int) - 2)),(12,D.ref 40 40 0 m 1),(6,D.ptr 8 8 0),(90,D.fn (MG 177) [] [D.ptr 112 112 0]),(14,D.ptr 80 80 0),(86,zN N)]⟩] 384) (fun (x:(j:Nat) ×' (hj:j ≤ n - cE (ar ws ((k:Int) - 1).toNat) n) ×' Unit)=>match x with | ⟨j,hj,_⟩=>n - cE (ar ws ((k:Int) - 1).toNat) n - j) [⟨Unit,.exit 8,fun x=>match x with | ()=>CutS.mk [(4,zS),(5,zI 0),(6,D.ptr 8 8 0),(8,D.ptr 24 24 0),(14,D.ptr 80 80 0),(16,D.sl false (length (ar ws (u7 ((k:Int) - 1)))) 2 (flatMap ct (ar ws (u7 ((k:Int) - 1))))),(17,zN (cE (ar ws (u7 ((k:Int) - 1))) n)),(90,D.fn (MG 177) [] [D.ptr 112 112 0]),(92,D.sl false (length (ar ws (u7 ((k:Int) - 1)))) 2 (flatMap ct (ar ws (u7 ((k:Int) - 1))))),(93,D.sl false (length (ar ws (u7 ((k:Int) - 1)))) 2 (flatMap ct (ar ws (u7 ((k:Int) - 1))))),(94,zN n),(96,zN n),(97,zN n),(106,D.ref 0 0 0 N 1),(107,zN n),(108,zN (cE (ar ws (u7 ((k:Int) - 1))) n)),(109,zI ((n:Int) - (↑(cE (ar ws (u7 ((k:Int) - 1))) n):Int))),(110,D.ref 0 0 0 (u7 ((n:Int) - (↑(cE (ar ws (u7 ((k:Int) - 1))) n):Int))) 1),(111,zN (u7 ((n:Int) - (↑(cE (ar ws (u7 ((k:Int) - 1))) n):Int))))] [⟨0,0,0,0,.b ⟨map nD S,3,true⟩⟩,⟨8,8,8,8,.b ⟨[D.ref 0 0 0 N 1],152,false⟩⟩,⟨16,16,16,16,.b ⟨(b9 o S (n - cE (ar ws ((k:Int) - 1).toNat) n)).map dB,5,true⟩⟩,⟨24,24,24,24,.b ⟨[D.ref 16 16 0 L 1],24,false⟩⟩,⟨32,32,32,32,.b ⟨map nD ws,3,true⟩⟩,⟨40,40,40,40,.b ⟨gD ws m m,225,true⟩⟩,⟨80,80,80,80,.b ⟨[zN n],3,false⟩⟩,⟨112,112,112,112,.b ⟨[D.ref 40 40 0 m 1],224,false⟩⟩,⟨160,160,160,160,.l O2 none (rangeAt Tryz.prog 108 0).1 (rangeAt Tryz.prog 108 0).2.1 (rangeAt Tryz.prog 108 0).2.2 126 [(63,zN m),(87,zI (2 * (N:Int))),(5,zI 0),(9,D.ref 32 32 0 N 1),(89,D.ref 40 40 0 m 1),(85,D.ref 0 0 0 N 1),(4,zS),(8,D.ptr 24 24 0),(88,zI (2 * (N:Int) - 2)),(12,D.ref 40 40 0 m 1),(6,D.ptr 8 8 0),(90,D.fn (MG 177) [] [D.ptr 112 112 0]),(14,D.ptr 80 80 0),(86,zN N)]⟩] 384⟩] 1000 64 (fun | ⟨j,hj,_⟩,Q,next2,last2=>(.s 2 (.br (decide ((j:Int) < (↑(u7 ((n:Int) - (↑(cE (ar ws (u7 ((k:Int) - 1))) n):Int))):Int))) (fun p6=>have p6f:=ba p6; (.s 1 (.chk (true && decide ((j:Int) < (↑(u7 ((n:Int) - (↑(cE (ar ws (u7 ((k:Int) - 1))) n):Int))):Int))) bz (.s 2 (.opt ((map nD S)[0 + j * 1]?) (nD (getD S (0 + j * 1) ji)) (au _ _ Im) (.s 6 (.chk (true && decide ((↑(getD S (0 + j * 1) ji):Int) < (L:Int))) LP (.s 2 (.opt ((map dB (b9 o S j))[0 + getD S (0 + j * 1) ji * 1]?) (dB (getD (b9 o S j) (0 + getD S (0 + j * 1) ji * 1) ji)) (au _ _ (by ( have z:=hT.i.nextk om (((k:Int) - 1).toNat) om; have z2:=hT.l; have z3:=cg ws (((k:Int) - 1).toNat); have z4:(take n (ar ws ((k:Int) - 1).toNat)).length = n:=MR z.1; have h9:=hA.at (t:=0 + j * 1) om; have h8:=cu o S j; omega))) (.s 2 (.opt (aw .u8 ((↑(L4 (getD (b9 o S j) (0 + getD S (0 + j * 1) ji * 1) ji)):Int) + 1)) (bI (((↑(L4 (getD (b9 o S j) (0 + getD S (0 + j * 1) ji * 1) ji)):Int) + 1) % 256)) (aD _ _) (.s 1 (.chk (true && decide ((↑(getD S (0 + j * 1) ji):Int) < (L:Int))) LP (.s 1 (.chk (true && L5 (0 + getD S (0 + j * 1) ji * 1 + 1) (length (map dB (b9 o S j)))) (by (rw [Mg];  have z:=hT.i.nextk om (((k:Int) - 1).toNat) om; have z2:=hT.l; have z3:=cg ws (((k:Int) - 1).toNat); have z4:(take n (ar ws ((k:Int) - 1).toNat)).length = n:=MR z.1; have h9:=hA.at (t:=0 + j * 1) om; have h8:=cu o S j; simp only [Mr]; refine L9 ?_; omega)) (.lst (aj (map dB (b9 o S j)) (0 + getD S (0 + j * 1) ji * 1) [bI (((↑(L4 (getD (b9 o S j) (0 + getD S (0 + j * 1) ji * 1) ji)):Int) + 1) % 256)]) (aj (map dB (b9 o S j)) (getD S j ji) [bI (((↑(L4 (getD (b9 o S j) (getD S j ji) ji)):Int) + 1) % 256)]) (by (simp; done)) (.s 2 (.op ((j:Int) + 1) Fu (.s 1 (.val 112 (zI ((j:Int) + 1)) (zN (j + 1)) Ft (.blk 16 16 (Blk.mk (aj (map dB (b9 o S j)) (getD S j ji) [bI (((↑(L4 (getD (b9 o S j) (getD S j ji) ji)):Int) + 1) % 256)]) 5 true) (Blk.mk (map dB (b9 o S (j + 1))) 5 true) (by ( have z:=hT.i.nextk om (((k:Int) - 1).toNat) om; have z2:=hT.l; have z3:=cg ws (((k:Int) - 1).toNat); have z4:(take n (ar ws ((k:Int) - 1).toNat)).length = n:=MR z.1; have h9:=hA.at (t:=0 + j * 1) om; have h8:=cu o S j; refine aC (Ir om ?_ ?_ ?_) <;> first | (simp only [Mw,My]; done) | rfl | (simp only [Mw,My] at *; omega))) (Hn.next next2 ⟨(j + 1),om,⟨⟩⟩ (by show n - cE (ar ws (u7 ((k:Int) - 1))) n - (j + 1) < n - cE (ar ws (u7 ((k:Int) - 1))) n - j; clear next2 last2 next1 last1; omega) [(0,0),(8,8),(16,16),(24,24),(32,32),(40,40),(80,80),(112,112),(160,160)] qI)))))))))))))))))))))) (fun p6=>have p6f:=bb p6; (.blk 16 16 (Blk.mk (map dB (b9 o S j)) 5 true) (Blk.mk (map dB (b9 o S (n - cE (ar ws (u7 ((k:Int) - 1))) n))) 5 true) (by ( rw [show j = n - cE (ar ws ((k:Int) - 1).toNat) n from by omega])) (Hn.last last2 0 (():Unit) rfl [(0,0),(8,8),(16,16),(24,24),(32,32),(40,40),(80,80),(112,112),(160,160)] qI)))))) (fun | ⟨j,hj,_⟩=>by kernel_rfl) ⟨(0),om,⟨⟩⟩ [(0,0),(8,8),(16,16),(24,24),(32,32),(40,40),(80,80),(112,112),(160,160)] qI (bZ (fun | ()=>(.s 3 (.op (2 * (↑(cE (ar ws (u7 ((k:Int) - 1))) n):Int)) Fu (.s 8 (.ow ((k:Int) - 1 - 1) (.s 1 (.val 3 (zI ((k:Int) - 1 - 1)) (zI ((↑(k - 1):Int) - 1)) Im (.blk 80 80 (Blk.mk [zI (2 * (↑(cE (ar ws (u7 ((k:Int) - 1))) n):Int))] 3 false) (Blk.mk [zN (2 * cE (ar ws (u7 ((k:Int) - 1))) n)] 3 false) (by ( exact C6 om)) (Hn.next next1 ⟨(k - 1),(2 * cE (ar ws ((k:Int) - 1).toNat) n),(b9 o S (n - cE (ar ws ((k:Int) - 1).toNat) n)),om,(by ( exact hT.next' om _ om)),⟨⟩⟩ (by show k - 1 < k; clear next1 last1; omega) [(0,0),(8,8),(16,16),(24,24),(32,32),(40,40),(80,80),(112,112),(160,160)] qI)))))))))))))))))))))))))))))) (fun p3=>have p3f:=bb p3; (.blk 16 16 (Blk.mk (map dB o) 5 true) (Blk.mk (map dB T) 5 true) (by ( rw [hT.last om])) (Hn.last last1 0 (⟨(n),⟨⟩⟩:(n2:Nat) ×' Unit) rfl [(0,0),(8,8),(16,16),(24,24),(32,32),(40,40),(80,80),(112,112),(160,160)] qI)))))) (fun | ⟨k,n,o,hk,hT,_⟩=>by kernel_rfl) ⟨(m),(2 * N - 2),(replicate L 0),om,om,⟨⟩⟩ [(0,0),(8,8),(16,16),(24,24),(32,32),(40,40),(80,80),(112,112),(160,160)] qI (bZ (fun | ⟨n2,_⟩=>(.s 5 (.out [16] [16] (D.tup [D.ref 0 0 0 L 1,zI 0]) [Blk.mk (map dB T) 5 true] R (ok _ _ wr wr))))))))))))))))))))))))))))))))))))) (by kernel_rfl)
theorem Je {p:Prop} (h:p:=by ( have h9:=hA.at (t:=0) om; refine decide_eq_true ?_; omega)):p:=h
theorem LQ {p:Prop} (h:p:=by (have h9:((zB.bytes:Nat):Int) = 1:=rfl; rw [h9]; simp; omega)):p:=h
theorem It (W:List Nat) (L:Nat) (hL:L = W.length) (hL2:L ≤ 320) (hB:∀ t,W.getD t ji ≤ 1073741824) (m:Nat) (hm:1 ≤ m ∧ m ≤ 15) (S:List Nat) (hS:eP W = S) (N:Nat) (hN:N = S.length) (hNm:N ≤ 2 ^ m) (hA:bq L S) (hN3:N ≤ 320) (h2:N = 1):SpecH false Tryz.prog 108 [.sl false L 1 (W.map nD),nD m] [] (.tup [.ref 0 0 0 L 1,iD 0]) [⟨((Ml L (0:UInt8)).set (S.getD 0 ji) (M1 1)).map dB, 5, true⟩]:=by
 refine SpecH.run T_ok ai Tryz.func108 rfl rfl rfl ⟨aT _,trivial⟩ rfl 1000 64 (fun R ok=>(.s 5 (.cl 144 false [] (.fn D6 (@oU (W) (L) om om om (m) om (S) bz (N) bz om)) (.s 18 (.chk (true && decide ((L:Int) ≤ (L:Int)) && true && true && true && true && decide ((↑(TI.bytes zB):Int) * (L:Int) ≤ 140737488355328)) LQ (.s 11 (.t ((N:Int) == 1) Je (.s 8 (.chk (true && decide (0 < (N:Int))) Je (.s 2 (.opt ((map nD S)[0]?) (nD (getD S 0 ji)) (au _ _ om) (.s 1 (.chk (true && decide ((↑(getD S 0 ji):Int) < (L:Int))) Je (.s 1 (.chk (true && L5 (0 + getD S 0 ji * 1 + 1) (length (cv [bI 0] (L * 1)))) (by ( have h9:=hA.at (t:=0) om; rw [ub,Mg,MA,Mr]; refine L9 ?_; omega)) (.lst (aj (cv [bI 0] (L * 1)) (0 + getD S 0 ji * 1) [bI 1]) (aj (cv [bI 0] L) (getD S 0 ji) [bI 1]) (by (simp; done)) (.s 6 (.t (decide ((N:Int) < 2)) Je (.s 5 (.out [120] [120] (D.tup [D.ref 0 0 0 L 1,zI 0]) [Blk.mk (aj (cv [bI 0] L) (getD S 0 ji) [bI 1]) 5 true] R (ok _ _ wr (by ( have h9:=hA.at (t:=0) om; have e:=ub L; rw [My] at e; rw [e]; exact congrArg (fun z=>[Blk.mk z 5 true]) (xg (a:=1) (by decide) (by rw [MA]; omega))))))))))))))))))))))))) (by kernel_rfl)
theorem Iu (W:List Nat) (L:Nat) (hL:L = W.length) (hL2:L ≤ 320) (hB:∀ t,W.getD t ji ≤ 1073741824) (m:Nat) (hm:1 ≤ m ∧ m ≤ 15) (S:List Nat) (hS:eP W = S) (N:Nat) (hN:N = S.length) (hNm:N ≤ 2 ^ m) (hA:bq L S) (hN3:N ≤ 320) (h2:N = 0):SpecH false Tryz.prog 108 [.sl false L 1 (W.map nD),nD m] [] (.tup [.ref 0 0 0 L 1,iD 0]) [⟨(Ml L (0:UInt8)).map dB, 5, true⟩]:=by
 refine SpecH.run T_ok ai Tryz.func108 rfl rfl rfl ⟨aT _,trivial⟩ rfl 1000 64 (fun R ok=>(.s 5 (.cl 144 false [] (.fn D6 (@oU (W) (L) om om om (m) om (S) bz (N) bz om)) (.s 18 (.chk (true && decide ((L:Int) ≤ (L:Int)) && true && true && true && true && decide ((↑(TI.bytes zB):Int) * (L:Int) ≤ 140737488355328)) LQ (.s 11 (.f ((N:Int) == 1) (by (refine decide_eq_false ?_; (omega))) (.s 6 (.t (decide ((N:Int) < 2)) (by (refine decide_eq_true ?_; (omega))) (.s 5 (.out [120] [120] (D.tup [D.ref 0 0 0 L 1,zI 0]) [Blk.mk (cv [bI 0] (L * 1)) 5 true] R (ok _ _ wr (by (rw [ub])))))))))))))) (by kernel_rfl)
def vm (W S:List Nat) (m:Nat):List UInt8 :=
 if S.length = 0 then Ml W.length 0 else if S.length = 1 then (Ml W.length 0).set (S.getD 0 ji) (M1 1)
 else Ak (oP W S S.length) S m (2 * S.length - 2) (Ml W.length 0)
def bK (W:List Nat) (m:Nat):List UInt8:=lk W (vm W (eP W) m)
theorem kE (W:List Nat) (m:Nat):bK W m = vm W (eP W) m:=aG _ _
theorem oV (ws S:List Nat):∀ (k n:Nat) (o:List UInt8),(Ak ws S k n o).length = o.length
 | 0,_,_=>rfl
 | k + 1,n,o=>by rw [Ak,oV ws S k,cu]
theorem iW (W:List Nat) (m:Nat):(bK W m).length = W.length:=by
 rw [kE,vm]
 split
 ·rw [MA]
 ·split
  ·rw [N1,MA]
  ·rw [oV,MA]
theorem Iv (W:List Nat) (L:Nat) (hL:L = W.length) (hL2:L ≤ 320) (hB:∀ t,W.getD t ji ≤ 1073741824) (m:Nat) (hm:1 ≤ m ∧ m ≤ 15) (hNm:(et W L).length ≤ 2 ^ m):SpecH false Tryz.prog 108 [.sl false L 1 (W.map nD),nD m] [] (.tup [.ref 0 0 0 L 1,iD 0]) [⟨(bK W m).map dB, 5, true⟩]:=by
 have hp:=dF W
 have hl:=hp.length_eq
 have hA:bq L (eP W):=by rw [hL]; exact oO.perm hp
 have h3:=il W L
 rw [← hL] at hl
 rw [kE,vm]
 by_cases c0:(eP W).length = 0
 ·rw [if_pos c0,← hL]
  exact Iu W L hL hL2 hB m hm _ rfl _ rfl (by omega) hA (by omega) c0
 ·rw [if_neg c0]
  by_cases c1:(eP W).length = 1
  ·rw [if_pos c1,← hL]
   exact It W L hL hL2 hB m hm _ rfl _ rfl (by omega) hA (by omega) c1
  ·rw [if_neg c1,← hL]
   have hwl:(oP W (eP W) (eP W).length).length = (eP W).length:=kC (Mh _)
   refine Is W L hL hL2 hB m hm _ rfl _ rfl (by omega) hA (by omega) (by omega) _ rfl hwl (fun w hw=>?_) _ ⟨?_,MA,rfl⟩
   ·rw [lT] at hw
    obtain ⟨i,_,rfl⟩:=List.mem_map.1 hw
    exact hB i
   ·have q:=LnI.first (ws:=oP W (eP W) (eP W).length) hm.1 (by rw [hwl]; omega) (by rw [hwl]; omega)
    rwa [hwl] at q
end Vp
end Go.Proofs.YtefjnofhgkjpmaaGreat
namespace Go.Proofs.YtefjnofhgkjpmaaGreat
open Go.RowKit Go.Bw Go.Vx
namespace Vp
theorem Jf {p:Prop} (h:p:=by rw [MA]):p:=h
def vn (l:List Pc):Nat:=(l.filter (fun x=>!x.p)).length
def ud (l:List Pc):Nat:=(l.filter (·.p)).length
def sW (l:List Pc):List Nat:=(l.filter (fun x=>!x.p)).map (·.w)
theorem oW (a b:List Pc):vn (a ++ b) = vn a + vn b:=by unfold vn; rw [M7,L6]
theorem ue (a b:List Pc):ud (a ++ b) = ud a + ud b:=by unfold ud; rw [M7,L6]
theorem lV (ws:List Nat):vn (f9 ws) = ws.length ∧ ud (f9 ws) = 0:=by
 unfold vn ud f9
 refine ⟨?_,?_⟩
 ·rw [List.filter_eq_self.2 (fun x hx=>by obtain ⟨w,_,rfl⟩:=List.mem_map.1 hx; rfl),Mg]
 ·rw [List.filter_eq_nil_iff.2 (fun x hx=>by obtain ⟨w,_,rfl⟩:=List.mem_map.1 hx; simp)]; rfl
theorem lW (ws:List Nat) (n:Nat):(f9 ws).take n = f9 (ws.take n):=by unfold f9; rw [OS]
theorem xU (ws:List Nat):sW (f9 ws) = ws:=by
 unfold sW f9
 rw [List.filter_eq_self.2 (fun x hx=>by obtain ⟨w,_,rfl⟩:=List.mem_map.1 hx; rfl),List.map_map]
 exact List.map_id ws
theorem xV (s:Nat):∀ ws:List Nat,∃ em,(dS s ws).1 = f9 em ++ [⟨s,true⟩] ∧ ws = em ++ (dS s ws).2 ∧ ∀ u r,(dS s ws).2 = u :: r → s < u
 | []=>⟨[],rfl,rfl,fun u r h=>by cases h⟩
 | w :: r=>by
  rw [dS]; split
  ·next q=>exact ⟨[],rfl,rfl,fun u r' h=>by cases h; exact q⟩
  ·obtain ⟨em,h1,h2,h3⟩:=xV s r
   exact ⟨w :: em,by rw [h1]; rfl,by rw [NV,← h2],h3⟩
theorem xW:∀ (row:List Pc) (ws:List Nat),sW (eu row ws) = ws
 | [],ws=>xU ws
 | [_],ws=>xU ws
 | x :: y :: r,ws=>by
  obtain ⟨em,h1,h2,_⟩:=xV (x.w + y.w) ws
  have ih:=xW r (dS (x.w + y.w) ws).2
  rw [eu,h1]
  unfold sW at *
  rw [M7,MO,ih,M7,MO]
  have e:=xU em
  unfold sW at e
  rw [e]
  show (em ++ []) ++ _ = ws
  rw [MU,← h2]
theorem EQ (ws:List Nat):∀ k,sW (ar ws k) = ws
 | 0=>by rw [← oS,f6]; exact xW _ _
 | k + 1=>by rw [← lU,f6]; exact xW _ _
theorem ug:∀ (row:List Pc) (v ws:List Nat),sW row = v ++ ws → ∀ n,vn (row.take (2 * ud ((eu row ws).take n))) ≤ v.length + vn ((eu row ws).take n)
 | [],v,ws,_,n=>by
  have e:(eu [] ws).take n = f9 (ws.take n):=lW ws n
  rw [e,(lV _).2]; exact MP _
 | [x],v,ws,_,n=>by
  have e:(eu [x] ws).take n = f9 (ws.take n):=lW ws n
  rw [e,(lV _).2]; exact MP _
 | x :: y :: r,v,ws,h,n=>by
  obtain ⟨em,h1,h2,h3⟩:=xV (x.w + y.w) ws
  have ih:=ug r
  rw [eu,h1]
  generalize (dS (x.w + y.w) ws).2 = ws' at *
  rcases MF em.length n with q | q
  ·have e:(f9 em ++ [(⟨x.w + y.w,true⟩:Pc)] ++ eu r ws').take n = (f9 em ++ [(⟨x.w + y.w,true⟩:Pc)]) ++ (eu r ws').take (n - (em.length + 1)):=by
    have l:(f9 em ++ [(⟨x.w + y.w,true⟩:Pc)]).length = em.length + 1:=by unfold f9; rw [L6,Mg]; rfl
    rw [PV,l,Mz (by omega)]
   rw [e,ue,ue,oW,oW,(lV em).1,(lV em).2]
   show vn ((x :: y :: r).take (2 * (0 + 1 + _))) ≤ v.length + (em.length + 0 + _)
   generalize hZ:(eu r ws').take (n - (em.length + 1)) = Z
   have hk:sW (x :: y :: r) = sW [x,y] ++ sW r:=by
    unfold sW
    rw [show x :: y :: r = [x,y] ++ r from rfl,M7,MO]
   have hs:∀ u ∈ sW [x,y],u ≤ x.w + y.w:=fun u hu=>by
    obtain ⟨p,hp,rfl⟩:=List.mem_map.1 hu
    rcases List.mem_cons.1 (List.mem_filter.1 hp).1 with rfl | hp
    ·omega
    ·cases List.mem_singleton.1 hp; omega
   have hl:(sW [x,y]).length = vn [x,y]:=by unfold sW vn; rw [Mg]
   rw [hk,h2,← Mu] at h
   have hc:(sW [x,y]).length ≤ (v ++ em).length:=by
    rcases MF (v ++ em).length (sW [x,y]).length with z | z
    ·exfalso
     have g:(sW [x,y] ++ sW r)[(v ++ em).length]? = (v ++ em ++ ws')[(v ++ em).length]?:=by rw [h]
     rw [List.getElem?_append_left z,List.getElem?_append_right (Mh _),Nf,List.getElem?_eq_getElem z] at g
     cases hw:ws' with
     | nil=>rw [hw] at g; cases g
     | cons u t =>
      rw [hw] at g
      have g2:(sW [x,y])[(v ++ em).length] = u:=Option.some.inj g
      have:=hs _ (ML z)
      have:=h3 u t hw
      omega
    ·exact z
   have hr:sW r = (v ++ em).drop (sW [x,y]).length ++ ws' := by
    have g:=congrArg (MI (sW [x,y]).length) h
    rwa [List.drop_left,N8 hc] at g
   have i2:=ih _ ws' hr (n - (em.length + 1))
   rw [hZ,Ms,L6,hl] at i2
   rw [L6,hl] at hc
   have e3:(x :: y :: r).take (2 * (0 + 1 + ud Z)) = [x,y] ++ r.take (2 * ud Z):=by
    rw [show 2 * (0 + 1 + ud Z) = 2 * ud Z + 1 + 1 from by omega]; rfl
   rw [e3,oW]
   omega
  ·have e:(f9 em ++ [(⟨x.w + y.w,true⟩:Pc)] ++ eu r ws').take n = f9 (em.take n):=by
    have l:n ≤ (f9 em).length:=by unfold f9; rw [Mg]; exact q
    rw [Mu,NN l,lW]
   rw [e,(lV _).2]; exact MP _
def C8 (l:List Nat) (j:Nat):List Nat:=(l.take j).map (· + 1) ++ l.drop j
def lX (m:Nat):List Nat → Nat
 | []=>0
 | x :: r=>2 ^ (m - x) + lX m r
theorem oX (m:Nat) (a b:List Nat):lX m (a ++ b) = lX m a + lX m b:=by
 induction a with
 | nil=>simp [lX]
 | cons x a ih=>rw [NV,lX,lX,ih,Nd]
theorem iX (m d:Nat):∀ a,lX m (Ml a d) = a * 2 ^ (m - d)
 | 0=>by simp [lX]
 | a + 1=>by rw [List.replicate_succ,lX,iX m d a,Nat.succ_mul,Nat.add_comm]
def Am (ws:List Nat):Nat → Nat → List Nat → List Nat
 | 0,_,l=>l
 | k + 1,n,l=>Am ws k (2 * cE (ar ws k) n) (C8 l (n - cE (ar ws k) n))
theorem uh (a b d:Nat):Ml (a + b) d = Ml a d ++ Ml b d:=List.replicate_append_replicate.symm
structure KrI (ws:List Nat) (m k n a:Nat) (l:List Nat):Prop where
 i:LnI ws k n
 km:k ≤ m
 z:k = 0 → n = 0
 nx:k ≠ 0 → n - cE (ar ws (k - 1)) n ≤ a
 sh:∃ r,l = Ml a (m - k) ++ r ∧ ∀ x ∈ r,x ≤ m - k
 ph:2 * lX m l = 2 * 2 ^ m + n * 2 ^ k
theorem xX (l:List Pc):l.length = ud l + vn l:=by unfold ud vn; exact oT l
theorem xY (row:List Pc) (n:Nat):cE row n = ud (row.take n):=im row n
theorem KrI.next {ws:List Nat} {m k n a:Nat} {l:List Nat} (h:KrI ws m (k + 1) n a l):KrI ws m k (2 * cE (ar ws k) n) (n - cE (ar ws k) n) (C8 l (n - cE (ar ws k) n)):=by
 have hn:=LnI.next h.i
 have ha:=h.nx (NW k)
 rw [NJ] at ha
 obtain ⟨r,hr,hx⟩:=h.sh
 have hkm:=h.km
 generalize hc:cE (ar ws k) n = c at *
 refine ⟨hn.2.2.2,by omega,fun hk=>?_,fun hk=>?_,?_,?_⟩
 ·subst hk
  have q:=t8 (ar ws 0) n
  rw [(jt ws 0).2.1,if_pos rfl,hc] at q; omega
 ·obtain ⟨j,rfl⟩:∃ j,k = j + 1:=⟨k - 1,by omega⟩
  rw [NJ]
  have q:=ug (ar ws j) [] ws (EQ ws j) n
  rw [← f6,lU,← xY,hc] at q
  have q2:=xX ((ar ws (j + 1)).take n)
  rw [← xY,hc,Mc] at q2
  have q3:=xX ((ar ws j).take (2 * c))
  have q4:=(hn.2.2.2).a (NW j)
  rw [NJ] at q4
  rw [← xY,Mc] at q3
  have q5:([]:List Nat).length = 0:=rfl
  omega
 ·refine ⟨Ml (a - (n - c)) (m - (k + 1)) ++ r,?_,fun x hx2=>?_⟩
  ·unfold C8
   rw [hr,show a = (n - c) + (a - (n - c)) from by omega,uh,N6,Mu,Qa Jf,Qb Jf,Nv,show m - (k + 1) + 1 = m - k from by omega]
  ·rcases List.mem_append.1 hx2 with q | q
   ·have:=(List.mem_replicate.1 q).2; omega
   ·have:=hx x q; omega
 ·have hp:=h.ph
  have e:l = Ml (n - c) (m - (k + 1)) ++ (Ml (a - (n - c)) (m - (k + 1)) ++ r):=by
   rw [hr,← Mu,← uh,show n - c + (a - (n - c)) = a from by omega]
  have e2:C8 l (n - c) = Ml (n - c) (m - k) ++ (Ml (a - (n - c)) (m - (k + 1)) ++ r):=by
   unfold C8
   rw [e,Qa Jf,Qb Jf,Nv,show m - (k + 1) + 1 = m - k from by omega]
  rw [e,oX,iX,show m - (m - (k + 1)) = k + 1 from by omega] at hp
  rw [e2,oX,iX,show m - (m - k) = k from by omega]
  generalize lX m (Ml (a - (n - c)) (m - (k + 1)) ++ r) = Q at *
  have e3:n = (n - c) + c:=by omega
  generalize n - c = b at *
  subst e3
  rw [Nt] at hp
  generalize 2 ^ k = P at *
  rw [MY,Nk P 2,← Na,← Na,Nk b 2,Nk c 2,Na 2 b P,Na 2 c P] at hp
  rw [Na 2 c P]
  omega
theorem KrI.last {ws:List Nat} {m:Nat}:∀ (k n a:Nat) (l:List Nat),KrI ws m k n a l → lX m (Am ws k n l) = 2 ^ m ∧ (∀ x ∈ Am ws k n l,x ≤ m) ∧ (Am ws k n l).length = l.length
 | 0,n,a,l,h=>by
  have hz:=h.z rfl
  have hp:=h.ph
  rw [hz,Nj] at hp
  obtain ⟨r,hr,hx⟩:=h.sh
  refine ⟨by rw [Am]; omega,fun x hx2=>?_,rfl⟩
  rw [Am,hr] at hx2
  rcases List.mem_append.1 hx2 with q | q
  ·have:=(List.mem_replicate.1 q).2; omega
  ·have:=hx x q; omega
 | k + 1,n,a,l,h=>by
  have q:=KrI.last k _ _ _ h.next
  rw [Am]
  refine ⟨q.1,q.2.1,q.2.2.trans ?_⟩
  unfold C8
  rw [L6,Mg,Mc,Ms]; omega
theorem uj {m:Nat}:∀ {l:List Nat},lX m l = 2 ^ m → 2 ≤ l.length → ∀ x ∈ l,x ≠ 0:=fun {l} h h2 x hx h0=>by
 obtain ⟨a,b,rfl⟩:=List.append_of_mem hx
 rw [oX,lX,h0,OH] at h
 have pos:∀ l:List Nat,l.length ≤ lX m l:=fun l=>by
  induction l with
  | nil=>exact Mh _
  | cons y l ih=>rw [lX,Mx]; have:=NH (m - y); omega
 have p1:=pos a
 have p2:=pos b
 rw [L6,Mx] at h2
 omega
theorem xZ {m:Nat} (hm:m ≤ 15):∀ l:List Nat,(∀ x ∈ l,x ≤ m) → lX 15 l = 2 ^ (15 - m) * lX m l
 | [],_=>rfl
 | x :: r,h=>by
  have hx:=h x Mp
  rw [lX,lX,xZ hm r (fun y hy=>h y (Mn _ hy)),NS,← Py,show 15 - m + (m - x) = 15 - x from by omega]
theorem LS {p:Prop} (h:p:=by rw [Mg,Mc,Mg]; omega):p:=h
def hD (f:Nat → Nat):List Nat → Nat
 | []=>0
 | i :: r=>f i + hD f r
theorem uk (f:Nat → Nat) (a b:List Nat):hD f (a ++ b) = hD f a + hD f b:=by
 induction a with
 | nil=>simp [hD]
 | cons x a ih=>rw [NV,hD,hD,ih,Nd]
theorem qK {f:Nat → Nat} {a b:List Nat} (h:a.Perm b):hD f a = hD f b:=by
 induction h with
 | nil=>rfl
 | cons x _ ih=>rw [hD,hD,ih]
 | swap x y l=>rw [hD,hD,hD,hD]; omega
 | trans _ _ h1 h2=>exact h1.trans h2
theorem oY {f:Nat → Nat} {p:Nat → Bool}:∀ l:List Nat,(∀ i ∈ l,p i = false → f i = 0) → hD f l = hD f (l.filter p)
 | [],_=>rfl
 | x :: r,h=>by
  have ih:=oY r fun i hi=>h i (Mn _ hi)
  cases hp:p x
  ·rw [NB (by simp [hp]),hD,h x Mp hp,ih,Mw]
  ·rw [NA hp,hD,hD,ih]
def kf (o:List UInt8) (i:Nat):Nat:=if (o.getD i ji).toNat = 0 then 0 else 2 ^ (15 - (o.getD i ji).toNat)
def uf (o:List UInt8) (i:Nat):Nat:=if (o.getD i ji).toNat = 0 then 0 else 1
theorem qL (o:List UInt8):∀ k,k ≤ o.length → aU (o.take k) = hD (kf o) (MQ k) ∧ bm (o.take k) = hD (uf o) (MQ k)
 | 0,_=>⟨rfl,rfl⟩
 | k + 1,h=>by
  have ih:=qL o k (by omega)
  rw [fV (by omega),ij (by omega),Og,uk,uk,ih.1,ih.2]
  exact ⟨rfl,rfl⟩
theorem x0 {W:List Nat} {o:List UInt8} (hl:o.length = W.length) (h0:∀ i,i < W.length → W.getD i ji = 0 → o.getD i ji = 0):aU o = hD (kf o) (eP W) ∧ bm o = hD (uf o) (eP W):=by
 have h:=qL o o.length (Mh _)
 rw [M8,hl] at h
 have hz:∀ i,i < W.length → decide (0 < W.getD i ji) = false → (o.getD i ji).toNat = 0:=fun i hi hp=>by
  have hp:=of_decide_eq_false hp
  rw [h0 i hi (by omega)]; rfl
 rw [qK (dF W),qK (dF W),eZ,h.1,h.2]
 exact ⟨oY _ fun i hi hp=>by unfold kf; rw [if_pos (hz i (List.mem_range.1 hi) hp)],oY _ fun i hi hp=>by unfold uf; rw [if_pos (hz i (List.mem_range.1 hi) hp)]⟩
theorem C9 (W:List Nat):(eP W).Nodup:=by
 rw [(dF W).nodup_iff,eZ]; exact List.Nodup.sublist List.filter_sublist List.nodup_range
theorem sx {W:List Nat} {i:Nat}:i ∈ eP W ↔ i < W.length ∧ 0 < W.getD i ji:=by
 rw [(dF W).mem_iff,eZ,Oy,Pq,decide_eq_true_eq]
theorem oZ {o:List UInt8} {i j:Nat} {v:UInt8} (hi:i < o.length):(o.set i v).getD j ji = if i = j then v else o.getD j ji:=by
 rw [List.getD_eq_getElem?_getD,List.getD_eq_getElem?_getD,List.getElem?_set]
 by_cases h:i = j
 ·rw [if_pos h,if_pos h,if_pos (by omega)]; rfl
 ·rw [if_neg h,if_neg h]
theorem Iw {S:List Nat} (hN:S.Nodup) {i j:Nat} (hi:i < S.length) (hj:j < S.length) (h:i ≠ j):S.getD i ji ≠ S.getD j ji:=by
 rw [List.getD_eq_getElem?_getD,List.getD_eq_getElem?_getD,List.getElem?_eq_getElem hi,List.getElem?_eq_getElem hj]
 rcases Nat.lt_or_gt_of_ne h with q | q
 ·exact List.pairwise_iff_getElem.1 hN _ _ hi hj q
 ·exact (List.pairwise_iff_getElem.1 hN _ _ hj hi q).symm
theorem x4 {S:List Nat} (hN:S.Nodup) {o:List UInt8} (hA:bq o.length S):∀ j,j ≤ S.length → (∀ t,t < S.length → (b9 o S j).getD (S.getD t ji) ji = if t < j then o.getD (S.getD t ji) ji + 1 else o.getD (S.getD t ji) ji) ∧ ∀ i,i ∉ S → (b9 o S j).getD i ji = o.getD i ji
 | 0,_=>⟨fun t _=>by rw [su,if_neg (Nc t)],fun i _=>by rw [su]⟩
 | j + 1,h=>by
  have ih:=x4 hN hA j (by omega)
  have hb:=hA.at (t:=j) (by omega)
  refine ⟨fun t ht=>?_,fun i hi=>?_⟩
  ·rw [sv (by omega),oZ (by rw [cu]; exact hb)]
   by_cases e:j = t
   ·subst e; rw [if_pos rfl,ih.1 j ht,if_neg (OQ j),if_pos (Pe j)]
   ·rw [if_neg (Iw hN (by omega) ht e),ih.1 t ht]
    by_cases q:t < j
    ·rw [if_pos q,if_pos (by omega)]
    ·rw [if_neg q,if_neg (by omega)]
  ·rw [sv (by omega),oZ (by rw [cu]; exact hb),if_neg (fun q=>hi (by rw [← q,List.getD_eq_getElem?_getD,List.getElem?_eq_getElem (by omega)]; exact ML _)),ih.2 i hi]
def o5 (S:List Nat) (o:List UInt8):List Nat:=S.map fun i=>(o.getD i ji).toNat
theorem Ao {S:List Nat} (hN:S.Nodup) {o:List UInt8} (hA:bq o.length S) {j:Nat} (hj:j ≤ S.length) (hb:∀ x ∈ o5 S o,x < 255):o5 S (b9 o S j) = C8 (o5 S o) j:=by
 have h:=(x4 hN hA j hj).1
 unfold o5 C8 at *
 apply List.ext_getElem?
 intro t
 rcases MF t S.length with q | q
 ·have e:S[t] = S.getD t ji:=by rw [List.getD_eq_getElem?_getD,List.getElem?_eq_getElem q]; rfl
  have hx:=hb ((o.getD (S.getD t ji) ji).toNat) (List.mem_map.2 ⟨S[t],ML q,by rw [e]⟩)
  rw [List.getElem?_map,List.getElem?_eq_getElem q,e]
  show some ((b9 o S j).getD (S.getD t ji) ji).toNat = _
  rw [h t q]
  by_cases z:t < j
  ·rw [if_pos z,List.getElem?_append_left LS,List.getElem?_map,List.getElem?_take,if_pos z,List.getElem?_map,List.getElem?_eq_getElem q,e]
   show some _ = some ((o.getD (S.getD t ji) ji).toNat + 1)
   rw [P9]
   show some ((_ + 1) % 256) = _
   congr 1; omega
  ·rw [if_neg z,List.getElem?_append_right LS,Mg,Mc,Mg,List.getElem?_drop,show j + (t - min j S.length) = t from by omega,List.getElem?_map,List.getElem?_eq_getElem q,e]; rfl
 ·rw [List.getElem?_eq_none (by rw [Mg]; exact q),List.getElem?_eq_none (by rw [L6,Mg,Mc,Ms,Mg]; omega)]
theorem ya {ws S:List Nat} {m:Nat} (hm:m ≤ 15) (hN:S.Nodup) (hw:ws.length = S.length):∀ (k n a:Nat) (o:List UInt8),bq o.length S → KrI ws m k n a (o5 S o) → o5 S (Ak ws S k n o) = Am ws k n (o5 S o) ∧ ∀ i,i ∉ S → (Ak ws S k n o).getD i ji = o.getD i ji
 | 0,n,a,o,hA,h=>⟨rfl,fun _ _=>rfl⟩
 | k + 1,n,a,o,hA,h=>by
  have hn:=(LnI.next h.i).2.2.1
  rw [hw] at hn
  have hb:∀ x ∈ o5 S o,x < 255:=fun x hx=>by
   obtain ⟨r,hr,hx2⟩:=h.sh
   rw [hr] at hx
   rcases List.mem_append.1 hx with q | q
   ·have:=(List.mem_replicate.1 q).2; omega
   ·have:=hx2 x q; omega
  have e:=Ao hN hA hn hb
  have ih:=ya hm hN hw k _ _ (b9 o S (n - cE (ar ws k) n)) (by rw [cu]; exact hA) (by rw [e]; exact h.next)
  rw [Ak,Am,← e]
  exact ⟨ih.1,fun i hi=>(ih.2 i hi).trans ((x4 hN hA _ hn).2 i hi)⟩
theorem lY (W:List Nat) (hL:W.length ≤ 320) (m:Nat) (hm:1 ≤ m ∧ m ≤ 15) (hNm:(et W W.length).length ≤ 2 ^ m):cG (bK W m) m = 0:=by
 have hp:=dF W
 have hA:bq W.length (eP W):=oO.perm hp
 have hlen:=iW W m
 have hl:=hp.length_eq
 have fin:(∀ i,i < W.length → ((bK W m).getD i ji).toNat ≤ m) → (aU (bK W m) = 32768 ∨ bm (bK W m) = 0 ∨ bm (bK W m) = 1 ∧ aU (bK W m) = 16384) → aU (bK W m) ≤ 32768 → cG (bK W m) m = 0:=fun h1 h2 h3=>by
  rw [iL]; unfold se
  rw [hlen,if_neg (by omega),kv (fun i hi=>h1 i (by rw [hlen] at hi; exact hi)),if_neg (by decide),if_neg (by omega),if_pos h2]
 have zero:∀ i,W.length ≤ i ∨ True → (Ml W.length (0:UInt8)).getD i ji = 0:=fun i _=>by
  rw [List.getD_eq_getElem?_getD,List.getElem?_replicate]; split <;> rfl
 rw [kE,vm] at fin ⊢
 by_cases c0:(eP W).length = 0
 ·rw [if_pos c0] at fin ⊢
  have s:=x0 (W:=W) (o:=Ml W.length 0) MA (fun i _ _=>zero i (.inr trivial))
  rw [Mt c0] at s
  exact fin (fun i _=>by rw [zero i (.inr trivial)]; exact MP _) (.inr (.inl s.2)) (by rw [s.1]; exact MP _)
 ·rw [if_neg c0] at fin ⊢
  by_cases c1:(eP W).length = 1
  ·rw [if_pos c1] at fin ⊢
   obtain ⟨i0,h0⟩:∃ i0,eP W = [i0]:=List.length_eq_one_iff.1 c1
   rw [h0] at fin hA ⊢
   have hi:i0 < W.length:=hA i0 (List.mem_singleton.2 rfl)
   have at' : ∀ j,((Ml W.length (0:UInt8)).set i0 (M1 1)).getD j ji = if i0 = j then M1 1 else 0:=fun j=>by
    rw [oZ (by rw [MA]; exact hi),zero j (.inr trivial)]
   have s:=x0 (W:=W) (o:=(Ml W.length 0).set i0 (M1 1)) (by rw [N1,MA]) (fun i hi2 hz=>by
    rw [at', if_neg (fun q=>by
     have:=(sx (W:=W) (i:=i0)).1 (by rw [h0]; exact List.mem_singleton.2 rfl)
     rw [q] at this; omega)])
   rw [h0] at s
   have e1:hD (kf ((Ml W.length 0).set i0 (M1 1))) [i0] = 16384:=by
    rw [hD,hD,kf,at', if_pos rfl]; rfl
   have e2:hD (uf ((Ml W.length 0).set i0 (M1 1))) [i0] = 1:=by
    rw [hD,hD,uf,at', if_pos rfl]; rfl
   rw [e1,e2] at s
   refine fin (fun i _=>?_) (.inr (.inr ⟨s.2,s.1⟩)) (by show aU ((Ml W.length 0).set i0 (M1 1)) ≤ _; rw [s.1]; decide)
   show (((Ml W.length 0).set i0 (M1 1)).getD i ji).toNat ≤ m
   rw [at']; split
   ·exact hm.1
   ·exact MP _
  ·rw [if_neg c1] at fin ⊢
   have hw:(oP W (eP W) (eP W).length).length = (eP W).length:=kC (Mh _)
   have hS:=C9 W
   have hlast:2 * (eP W).length - 2 ≠ 0:=by omega
   generalize hSS:eP W = S at *
   generalize oP W S S.length = ws at *
   have hv:o5 S (Ml W.length 0) = Ml S.length 0:=by
    unfold o5
    rw [OJ]
    refine ⟨by rw [Mg],fun b hb=>?_⟩
    obtain ⟨i,_,rfl⟩:=List.mem_map.1 hb
    rw [zero i (.inr trivial)]; rfl
   have hI:LnI ws m (2 * S.length - 2):=by
    have:=LnI.first (ws:=ws) hm.1 (by rw [hw]; omega) (by rw [hw]; omega)
    rwa [hw] at this
   have hK:KrI ws m m (2 * S.length - 2) S.length (o5 S (Ml W.length 0)):=by
    refine ⟨hI,Mh _,fun q=>by omega,fun q=>?_,⟨[],by rw [hv,Nf,MU],fun x hx=>by cases hx⟩,?_⟩
    ·have:=(hI.nextk (by omega) (m - 1) rfl).2.2
     rwa [hw] at this
    ·rw [hv,iX,OH]
     generalize 2 ^ m = P
     rw [PX,Na]
     have:1 * P ≤ S.length * P:=MJ _ (by omega)
     omega
   have hA0:bq (Ml W.length (0:UInt8)).length S:=by rw [MA]; exact hA
   have r:=ya hm.2 hS hw m _ _ _ hA0 hK
   have q:=KrI.last m _ _ _ hK
   rw [← r.1] at q
   generalize hO:Ak ws S m (2 * S.length - 2) (Ml W.length 0) = O at *
   have hOl:O.length = W.length:=by rw [← hO,oV,MA]
   have hp2:=uj q.1 (by unfold o5; rw [Mg]; omega)
   have s:=x0 (W:=W) (o:=O) hOl (fun i hi hz=>by
    rw [r.2 i (fun hm2=>by rw [← hSS] at hm2; have:=sx.1 hm2; omega),zero i (.inr trivial)])
   rw [hSS] at s
   have e1:∀ l:List Nat,(∀ i ∈ l,(O.getD i ji).toNat ≠ 0) → hD (kf O) l = lX 15 (o5 l O):=fun l=>by
    induction l with
    | nil=>intro _; rfl
    | cons x l ih =>
     intro h
     have hx:=h x Mp
     show kf O x + hD (kf O) l = 2 ^ (15 - _) + lX 15 (o5 l O)
     rw [ih fun i hi=>h i (Mn _ hi),kf,if_neg hx]
   have e2:=e1 S fun i hi=>hp2 _ (List.mem_map.2 ⟨i,hi,rfl⟩)
   have e3:=xZ hm.2 (o5 S O) q.2.1
   rw [q.1,← Py,show 15 - m + m = 15 from by omega] at e3
   have hk:aU O = 32768:=by rw [s.1,e2,e3]
   refine fin (fun i hi=>?_) (.inl hk) (Nat.le_of_eq hk)
   by_cases hi2:i ∈ S
   ·exact q.2.1 _ (List.mem_map.2 ⟨i,hi2,rfl⟩)
   ·rw [r.2 i hi2,zero i (.inr trivial)]; exact MP _
end Vp
end Go.Proofs.YtefjnofhgkjpmaaGreat
namespace Go.Proofs.YtefjnofhgkjpmaaGreat
open Go.RowKit Go.Bw Go.Vx
namespace Vp
def bn (k:Nat) (S:List Nat):List Nat:=lk S ((MQ k).map fun i=>S.count i)
theorem yb (k:Nat) (S:List Nat):bn k S = (MQ k).map fun i=>S.count i:=aG _ _
theorem dT (k:Nat) (S:List Nat):(bn k S).length = k:=by rw [yb,Mg,Nh]
theorem um (k:Nat) (S:List Nat) (i:Nat):(bn k S)[i]? = if i < k then some (S.count i) else none:=by
 rw [yb,List.getElem?_map]
 rcases MF i k with h | h
 ·rw [List.getElem?_range h,if_pos h]; rfl
 ·rw [List.getElem?_eq_none (by simpa using h),if_neg (by omega)]; rfl
theorem sy (k:Nat) (S:List Nat) (i:Nat):(bn k S).getD i ji = if i < k then S.count i else 0:=by
 rw [List.getD_eq_getElem?_getD,um]; split <;> rfl
theorem e9 (k:Nat) (S:List Nat) (i:Nat):(bn k S).getD i ji ≤ S.length:=by
 rw [sy]; split
 ·exact List.count_le_length
 ·exact MP _
theorem yc (k:Nat):bn k [] = Ml k 0:=by
 apply List.ext_getElem?
 intro i
 rw [um,List.getElem?_replicate]; rfl
theorem Ix {k:Nat} {S:List Nat} {i:Nat} (h:i < k):bn k (S ++ [i]) = (bn k S).set i ((bn k S).getD i ji + 1):=by
 apply List.ext_getElem?
 intro j
 rw [List.getElem?_set,dT,um,um]
 by_cases e:i = j
 ·subst e; rw [if_pos h,if_pos rfl,if_pos h,sy,if_pos h,PP,Pz,beq_self_eq_true]; rfl
 ·rw [if_neg e]; split
  ·rw [PP,Pz,beq_eq_false_iff_ne.2 (fun q=>e q)]; rfl
  ·rfl
theorem yd {k:Nat} {S:List Nat} {i a b:Nat} {x:Int} (h:i < k) (ha:a = i) (hb:b = i) (hx:x = (((bn k S).getD b ji:Nat):Int) + 1):aj ((bn k S).map nD) a [D.v (.int .i64 x)] = (bn k (S ++ [i])).map nD:=by
 subst ha hb hx; rw [Ix h]; exact EC (by rw [dT]; exact h)
def Da (T1:List Sy) (t:Tn):Nat:=if t.long = 0 then t.lit.toNat else 257 + ao T1 t.long
def ER (T2:List Sy) (t:Tn):List Nat:=if t.long = 0 then [] else [ao T2 t.dist]
def cI (T1:List Sy) (l:List Tn) (i:Nat):List Nat:=lk l ((l.take i).map (Da T1))
def ew (T2:List Sy) (l:List Tn) (i:Nat):List Nat:=lk l ((l.take i).flatMap (ER T2))
section
variable {T1 T2:List Sy} {l:List Tn} {i:Nat}
theorem qM:cI T1 l i = (l.take i).map (Da T1):=aG _ _
theorem un:ew T2 l i = (l.take i).flatMap (ER T2):=aG _ _
theorem KM:cI T1 l 0 = []:=qM
theorem Iy:ew T2 l 0 = []:=un
theorem o6:(cI T1 l i).length ≤ i:=by rw [qM,Mg,Mc]; omega
theorem ES (h:i < l.length):ew T2 l (i + 1) = ew T2 l i ++ ER T2 (l.getD i ji):=by
 have e1:l.take (i + 1) = l.take i ++ [l.getD i ji]:=by
  rw [MB h,List.getD_eq_getElem?_getD,List.getElem?_eq_getElem h]; rfl
 rw [un,un,e1,NF,N9]
theorem Iz (h:i < l.length):cI T1 l (i + 1) = cI T1 l i ++ [Da T1 (l.getD i ji)]:=by
 have e1:l.take (i + 1) = l.take i ++ [l.getD i ji]:=by
  rw [MB h,List.getD_eq_getElem?_getD,List.getElem?_eq_getElem h]; rfl
 rw [qM,qM,e1,MO]; rfl
theorem sA:∀ i,i ≤ l.length → (ew T2 l i).length ≤ i
 | 0,_=>by rw [Iy]; exact Mh _
 | i + 1,h=>by
  rw [ES (by omega),L6]
  have:=sA i (by omega)
  unfold ER; split <;> simp <;> omega
theorem Db (h:i < l.length) (h0:(l.getD i ji).long = 0):cI T1 l (i + 1) = cI T1 l i ++ [(l.getD i ji).lit.toNat] ∧ ew T2 l (i + 1) = ew T2 l i:=by
 rw [Iz h,ES h,Da,ER,if_pos h0,if_pos h0,MU]; exact ⟨rfl,rfl⟩
theorem Dc (h:i < l.length) (h0:(l.getD i ji).long ≠ 0):cI T1 l (i + 1) = cI T1 l i ++ [257 + ao T1 (l.getD i ji).long] ∧ ew T2 l (i + 1) = ew T2 l i ++ [ao T2 (l.getD i ji).dist]:=by
 rw [Iz h,ES h,Da,ER,if_neg h0,if_neg h0]; exact ⟨rfl,rfl⟩
end
theorem ye:∀ (l:List UInt8) (n:Nat),(∀ i,n ≤ i → (l.getD i ji).toNat = 0) → aU (l.take n) = aU l ∧ bm (l.take n) = bm l
 | [],n,_=>by rw [List.take_nil]; exact ⟨rfl,rfl⟩
 | x :: r,0,h=>by
  have ih:=ye r 0 fun i _=>h (i + 1) (MP _)
  have h0:x.toNat = 0:=h 0 (Mh _)
  rw [List.take_zero] at ih ⊢
  rw [aU,aU,bm,bm,if_pos h0,if_pos h0,← ih.1,← ih.2]; exact ⟨rfl,rfl⟩
 | x :: r,n + 1,h=>by
  have ih:=ye r n fun i hi=>h (i + 1) (NU hi)
  rw [PC,aU,aU,bm,bm,ih.1,ih.2]; exact ⟨rfl,rfl⟩
theorem uo {l:List UInt8} {m:Nat}:∀ n,∀ i,tU l m n ≤ i → i < n → l.getD i ji = 0
 | 0,i,_,h=>absurd h (Nc _)
 | n + 1,i,h,h2=>by
  rw [tU] at h
  split at h
  ·next q =>
   rcases MF i n with r | r
   ·exact uo n i h r
   ·rw [show i = n from by omega]; exact q.2
  ·omega
theorem kF {l:List UInt8} {i:Nat} (h:l.length ≤ i):l.getD i ji = 0:=by
 rw [List.getD_eq_getElem?_getD,List.getElem?_eq_none h]; rfl
def q7 (l:List UInt8) (m:Nat):List UInt8:=lk l (l.take (gx l m))
theorem ju (l:List UInt8) (m:Nat):q7 l m = l.take (gx l m):=aG _ _
theorem kG (l:List UInt8) (m:Nat):(q7 l m).length = gx l m:=by
 rw [ju,Mc]; have:=(jq l m).1; omega
theorem ET (l:List UInt8) (m i:Nat):(q7 l m).getD i ji = l.getD i ji:=by
 rw [ju,List.getD_eq_getElem?_getD,List.getElem?_take]
 split
 ·rw [List.getD_eq_getElem?_getD]
 ·rcases MF i l.length with q | q
  ·rw [uo (m:=m) l.length i (by rw [← lK]; omega) q]; rfl
  ·rw [kF q]; rfl
theorem uq {l:List UInt8} {m q:Nat} (h:cG l m = 0):cG (q7 l q) m = 0:=by
 have h0:=eV h
 have hk:=ye l (gx l q) (fun i hi=>by
  rcases MF i l.length with r | r
  ·rw [uo (m:=q) l.length i (by rw [← lK]; exact hi) r]; rfl
  ·rw [kF r]; rfl)
 have hl:(q7 l q).length ≤ 320:=by rw [kG]; have:=(jq l q).1; omega
 have ho:dk (q7 l q) m = false:=kv fun i hi=>by
  rw [ET]
  exact eK h0.2.1 (by rw [kG] at hi; have:=(jq l q).1; omega)
 rw [iL] at h ⊢
 unfold se at h ⊢
 rw [if_neg (by omega),h0.2.1] at h
 rw [if_neg (by omega),ho,show aU (q7 l q) = aU l from by rw [ju]; exact hk.1,show bm (q7 l q) = bm l from by rw [ju]; exact hk.2]
 exact h
def dV {α:Type} (H:List Nm) (g:α → List Nm) (l:List α) (i:Nat):List Nm:=lk l (H ++ (l.take i).flatMap g)
section
variable {α:Type} {H:List Nm} {g:α → List Nm} {l:List α} {i:Nat}
theorem jv:dV H g l i = H ++ (l.take i).flatMap g:=aG _ _
theorem qN:dV H g l 0 = H:=by rw [jv]; exact MU _
theorem qO [Inhabited α] (h:i < l.length):dV H g l (i + 1) = dV H g l i ++ g (l.getD i ji):=by
 have e1:l.take (i + 1) = l.take i ++ [l.getD i ji]:=by
  rw [MB h,List.getD_eq_getElem?_getD,List.getElem?_eq_getElem h]; rfl
 rw [jv,jv,e1,NF,← Mu,N9]
theorem iY [Inhabited α] {c:Nat} (hc:∀ x,(g x).length = c):∀ i,i ≤ l.length → (dV H g l i).length = H.length + c * i
 | 0,_=>by rw [qN]; rfl
 | i + 1,h=>by
  rw [qO (by omega),L6,iY hc i (by omega),hc,NS,My,Nd]
end
def lZ (x:UInt8):List Nm:=[⟨x.toNat,3⟩]
def mf (C:List (Nat × Nat)) (r:Rn):List Nm:=gy C r.s (rb r.s) r.x
def o7:List Nat:=[16,17,18,0,8,7,9,6,10,5,11,4,12,3,13,2,14,1,15]
theorem IA:∀ i,i < 19 → o7.getD i ji < 19:=by decide
def i7 (C:List UInt8) (i:Nat):List UInt8:=lk C ((o7.take i).map fun s=>C.getD s ji)
theorem l6 (C:List UInt8) (i:Nat):i7 C i = (o7.take i).map fun s=>C.getD s ji:=aG _ _
theorem IB (C:List UInt8):i7 C 0 = []:=l6 C 0
theorem ur (C:List UInt8) {i:Nat} (h:i ≤ 19):(i7 C i).length = i:=by
 rw [l6,Mg,Mc,show o7.length = 19 from rfl]; omega
theorem IC (C:List UInt8) {i:Nat} (h:i < 19):i7 C (i + 1) = i7 C i ++ [C.getD (o7.getD i ji) ji]:=by
 have e1:o7.take (i + 1) = o7.take i ++ [o7.getD i ji]:=by
  rw [MB (show i < o7.length from h),List.getD_eq_getElem?_getD,List.getElem?_eq_getElem (show i < o7.length from h)]; rfl
 rw [l6,l6,e1,MO]; rfl
theorem KN (i:Nat) (h:i < 19):(o7.map nD)[i]? = some (nD (o7.getD i ji)):=by
 rw [List.getElem?_map,List.getElem?_eq_getElem (show i < o7.length from h),List.getD_eq_getElem?_getD,List.getElem?_eq_getElem (show i < o7.length from h)]; rfl
theorem l7 {l:List UInt8} (ho:∀ i,(l.getD i ji).toNat ≤ 15):∀ (f a:Nat),∀ r ∈ jn l f a,r.s ≤ 18 ∧ r.x < 2 ^ rb r.s
 | 0,_=>fun r hr=>absurd hr N5
 | f + 1,a=>by
  rw [jn]
  split
  ·exact fun r hr=>absurd hr N5
  ·split
   ·intro r hr
    rcases List.mem_cons.1 hr with e | e
    ·subst e; refine ⟨Mh _,?_⟩; show min (cj l a) 138 - 11 < 2 ^ 7; omega
    ·exact l7 ho f _ r e
   ·split
    ·intro r hr
     rcases List.mem_cons.1 hr with e | e
     ·subst e; refine ⟨Nat.le_succ _,?_⟩; show cj l a - 3 < 2 ^ 3; omega
     ·exact l7 ho f _ r e
    ·split
     ·intro r hr
      rcases List.mem_cons.1 hr with e | e
      ·subst e; refine ⟨show (16:Nat) ≤ 18 from by decide,?_⟩; show min (cj l a) 6 - 3 < 2 ^ 2; omega
      ·exact l7 ho f _ r e
     ·intro r hr
      rcases List.mem_cons.1 hr with e | e
      ·subst e
       have h1:=ho a
       refine ⟨L8 h1 (by decide),?_⟩
       show 0 < 2 ^ rb _
       exact NH _
      ·exact l7 ho f _ r e
theorem EU {l:List UInt8} (ho:∀ i,(l.getD i ji).toNat ≤ 15) (i:Nat):((vy l).getD i ji).s ≤ 18 ∧ ((vy l).getD i ji).x < 2 ^ rb ((vy l).getD i ji).s:=by
 rw [List.getD_eq_getElem?_getD]
 rcases MF i (vy l).length with h | h
 ·rw [List.getElem?_eq_getElem h]
  have hm:(vy l)[i] ∈ jn l l.length 0:=by rw [← sg]; exact ML h
  exact l7 ho _ _ _ hm
 ·rw [List.getElem?_eq_none h]; exact ⟨MP _,by decide⟩
theorem Ap (l:List UInt8):(vy l).length ≤ l.length:=by rw [sg]; exact iM _ _ _
theorem EV (l:List UInt8) (j:Nat) (ho:dk l 15 = false):(af l).getD j ji = if j < l.length ∧ (l.getD j ji).toNat ≠ 0 then (qn l j,(l.getD j ji).toNat) else (0,0):=by
 rw [← Cw ho,lJ,List.getD_eq_getElem?_getD,List.getElem?_map]
 rcases MF j l.length with h | h
 ·rw [List.getElem?_range h]; exact rfl
 ·rw [List.getElem?_eq_none (by simpa using h),if_neg (by omega)]; rfl
theorem yf {l:List UInt8} {s:Nat} (h:s < l.length):(eg l (l.getD s ji).toNat s).length < (eg l (l.getD s ji).toNat l.length).length:=by
 obtain ⟨r,hr⟩:=lG l (l.getD s ji).toNat (s + 1) (l.length - (s + 1))
 rw [show s + 1 + (l.length - (s + 1)) = l.length from by omega,gT,if_pos rfl] at hr
 rw [hr,L6,L6,MN]; omega
theorem ej {l:List UInt8} (h:cG l 15 = 0):mc (af l):=fun s=>by
 have h0:=eV h
 rw [EV l s h0.2.1]
 split
 ·next q =>
  have h1:=eK h0.2.1 q.1
  refine ⟨h1,?_⟩
  have h2:=Cy h h1
  have h3:=Cs rfl q.2 h1
  have h4:=yf q.1
  show qn l s < 2 ^ (l.getD s ji).toNat
  rw [lx] at h2
  unfold w4 at h2
  rw [if_neg q.2] at h2
  omega
 ·exact ⟨MP _,by decide⟩
theorem qP (W:List Nat) (hL:W.length ≤ 320) (m:Nat) (hm:1 ≤ m ∧ m ≤ 15) (hNm:(et W W.length).length ≤ 2 ^ m) {i:Nat} (hi0:0 < W.getD i ji):((bK W m).getD i ji).toNat ≠ 0:=by
 have hp:=dF W
 have hA:bq W.length (eP W):=oO.perm hp
 have hl:=hp.length_eq
 have hiW:i < W.length:=by
  rcases MF i W.length with q | q
  ·exact q
  ·rw [List.getD_eq_getElem?_getD,List.getElem?_eq_none q] at hi0; exact absurd hi0 (OQ 0)
 have hiS:i ∈ eP W:=sx.2 ⟨hiW,hi0⟩
 have zero:∀ i,(Ml W.length (0:UInt8)).getD i ji = 0:=fun i=>by
  rw [List.getD_eq_getElem?_getD,List.getElem?_replicate]; split <;> rfl
 rw [kE,vm]
 by_cases c0:(eP W).length = 0
 ·rw [Mt c0] at hiS; exact absurd hiS N5
 ·rw [if_neg c0]
  by_cases c1:(eP W).length = 1
  ·rw [if_pos c1]
   obtain ⟨i0,h0⟩:∃ i0,eP W = [i0]:=List.length_eq_one_iff.1 c1
   rw [h0] at hiS ⊢
   have e:i = i0:=List.mem_singleton.1 hiS
   subst e
   show (((Ml W.length (0:UInt8)).set i (M1 1)).getD i ji).toNat ≠ 0
   rw [oZ (by rw [MA]; exact hiW),if_pos rfl]; decide
  ·rw [if_neg c1]
   have hw:(oP W (eP W) (eP W).length).length = (eP W).length:=kC (Mh _)
   have hS:=C9 W
   generalize hSS:eP W = S at *
   generalize oP W S S.length = ws at *
   have hv:o5 S (Ml W.length 0) = Ml S.length 0:=by
    unfold o5
    rw [OJ]
    refine ⟨by rw [Mg],fun b hb=>?_⟩
    obtain ⟨i,_,rfl⟩:=List.mem_map.1 hb
    rw [zero i]; rfl
   have hI:LnI ws m (2 * S.length - 2):=by
    have:=LnI.first (ws:=ws) hm.1 (by rw [hw]; omega) (by rw [hw]; omega)
    rwa [hw] at this
   have hK:KrI ws m m (2 * S.length - 2) S.length (o5 S (Ml W.length 0)):=by
    refine ⟨hI,Mh _,fun q=>by omega,fun q=>?_,⟨[],by rw [hv,Nf,MU],fun x hx=>by cases hx⟩,?_⟩
    ·have:=(hI.nextk (by omega) (m - 1) rfl).2.2
     rwa [hw] at this
    ·rw [hv,iX,OH]
     generalize 2 ^ m = P
     rw [PX,Na]
     have:1 * P ≤ S.length * P:=MJ _ (by omega)
     omega
   have hA0:bq (Ml W.length (0:UInt8)).length S:=by rw [MA]; exact hA
   have r:=ya hm.2 hS hw m _ _ _ hA0 hK
   have q:=KrI.last m _ _ _ hK
   rw [← r.1] at q
   have hp2:=uj q.1 (by unfold o5; rw [Mg]; omega)
   exact hp2 _ (List.mem_map.2 ⟨i,hiS,rfl⟩)
theorem yg {l:List UInt8} {m s:Nat} (h:(l.getD s ji).toNat ≠ 0):s < gx l m:=by
 rcases MF s (gx l m) with q | q
 ·exact q
 ·exfalso
  rcases MF s l.length with r | r
  ·rw [uo (m:=m) l.length s (by rw [← lK]; exact q) r] at h; exact h rfl
  ·rw [kF r] at h; exact h rfl
theorem ut {k:Nat} {S:List Nat} {s:Nat} (h:s < k) (hm:s ∈ S):0 < (bn k S).getD s ji:=by
 rw [sy,if_pos h]; exact List.count_pos_iff.2 hm
theorem yh {T1:List Sy} {l:List Tn} {i k:Nat} (hk:k = l.length) (h:i < k):Da T1 (l.getD i ji) ∈ cI T1 l k:=by
 rw [qM,hk,Mz (Mh _),List.getD_eq_getElem?_getD,List.getElem?_eq_getElem (by omega)]
 exact List.mem_map_of_mem (ML _)
theorem EW {T2:List Sy} {l:List Tn} {i k:Nat} (hk:k = l.length) (h:i < k) (h0:(l.getD i ji).long ≠ 0):ao T2 (l.getD i ji).dist ∈ ew T2 l k:=by
 rw [un,hk,Mz (Mh _)]
 have hi:i < l.length:=by omega
 rw [List.getD_eq_getElem?_getD,List.getElem?_eq_getElem hi] at h0 ⊢
 refine List.mem_flatMap.2 ⟨l[i],ML hi,?_⟩
 unfold ER
 rw [if_neg (show ¬ l[i].long = 0 from h0)]; exact List.mem_singleton.2 rfl
theorem kH (k:Nat) (S:List Nat) (i:Nat) {a b:Nat} (h:i < k) (ha:a = i) (hb:b = i):aj ((bn k S).map nD) a [D.v (.int .i64 ((((bn k S).getD b ji:Nat):Int) + 1))] = (bn k (S ++ [i])).map nD:=yd h ha hb rfl
theorem iZ (k:Nat) (S:List Nat) (i:Nat) {o:Nat} (h:i < k) (ho:o = i):((bn k S).map nD)[o]? = some (nD ((bn k S).getD i ji)):=by
 subst ho
 rw [List.getElem?_map,List.getD_eq_getElem?_getD,List.getElem?_eq_getElem (by rw [dT]; exact h)]; rfl
theorem ID (k:Nat) (S:List Nat) (i:Nat) (W:List Nat) (hW:bn k (S ++ [i]) = W) {a b:Nat} (h:i < k) (ha:a = i) (hb:b = i):aj ((bn k S).map nD) a [D.v (.int .i64 ((((bn k S).getD b ji:Nat):Int) + 1))] = W.map nD:=by rw [← hW]; exact yd h ha hb rfl
def Dd (C:List UInt8) (i:Nat):Nat:=lk C (o7.getD i ji)
theorem sB (C:List UInt8) (i:Nat):Dd C i = o7.getD i ji:=aG _ _
theorem yi (C:List UInt8) (i:Nat) (h:i < 19):Dd C i < 19:=by rw [sB]; exact IA i h
theorem IE (C:List UInt8) (i:Nat) (h:i < 19):(o7.map nD)[i]? = some (nD (Dd C i)):=by rw [sB]; exact KN i h
theorem Aq {l:List UInt8} {n i:Nat} (h:i < n):(l.take n).getD i ji = l.getD i ji:=by
 rw [List.getD_eq_getElem?_getD,List.getElem?_take,if_pos h,← List.getD_eq_getElem?_getD]
theorem IF {e n1 n2 n3:Nat} {x y z:Int} (hx:x = ((n1 - 257:Nat):Int)) (hy:y = ((n2 - 1:Nat):Int)) (hz:z = ((n3 - 4:Nat):Int)):[D.v (.int .u32 (e:Int)),D.v (.int .i64 1),D.v (.int .u32 2),D.v (.int .i64 2),D.v (.int .u32 x),D.v (.int .i64 5),D.v (.int .u32 y),D.v (.int .i64 5),D.v (.int .u32 z),D.v (.int .i64 4)] = (mb e 2 ++ ([⟨n1 - 257,5⟩,⟨n2 - 1,5⟩,⟨n3 - 4,4⟩]:List Nm)).flatMap aS:=by
 subst hx hy hz; rfl

end Vp
end Go.Proofs.YtefjnofhgkjpmaaGreat
namespace Go.Proofs.YtefjnofhgkjpmaaGreat
open Go.RowKit Go.Bw Go.Vx
namespace Vt
abbrev iD (i:Int):D:=.v (.int .i64 i)
abbrev bB:D:=.v (.slice none 0 0)
structure Tok where
 lit:UInt8
 dist:Int
 long:Int
 deriving Inhabited
abbrev tokD (t:Tok):List D:=[dB t.lit,iD t.dist,iD t.long]
end Vt
end Go.Proofs.YtefjnofhgkjpmaaGreat
namespace Go.Proofs.YtefjnofhgkjpmaaGreat
open Go.RowKit Go.Bw Go.Vx
open List (length getD map take drop flatMap replicate)
namespace Vm
theorem l8 {p:Prop} (h:p:=by (refine aO ?_; (omega))):p:=h
theorem vo {p:Prop} (h:p:=by ((refine aI ?_ ?_) <;> (repeat' (first | (refine aI ?_ ?_) | (with_reducible rfl) | (refine decide_eq_true ?_) | (refine L9 ?_) | (refine er ?_))) <;> (omega))):p:=h
theorem vp {p:Prop} (h:p:=by (exact fU _ (by decide) (by decide))):p:=h
theorem Ar {p:Prop} (h:p:=by (refine uv hh ?_ ?_ ?_ <;> (omega))):p:=h
theorem As {p:Prop} (h:p:=by show j - 1 < j; clear next1 last1; omega):p:=h
abbrev iD (i:Int):D:=.v (.int .i64 i)
abbrev bB:D:=.v (.slice none 0 0)
theorem KO (x:Int):Mj .u32 x = x % 4294967296:=rfl
abbrev bI (l:List UInt8) (i:Nat):Int:=((l.getD i ji).toNat:Int)
def bL (l:List UInt8) (i:Nat):Int:=((bI l (i + 2) * 16777619 + bI l (i + 1)) * 16777619 + bI l i) % 4294967296
abbrev EX:Int:=1055306571
theorem nw (l:List UInt8) (i:Nat):0 ≤ bI l i ∧ bI l i < 256:=by
 have h:=(l.getD i ji).toNat_lt
 unfold bI
 constructor <;> omega
def hR (p:List UInt8):Nat → Int
 | 0=>0
 | k + 1=>((((hR p k * 16777619) % 4294967296) + bI p (2 - k)) % 4294967296)
theorem At {p:List UInt8} {k j:Nat} {h:Int} (hh:h = hR p k) (hj:j = 2 - k):((((h * 16777619) % 4294967296) + bI p j) % 4294967296) = hR p (k + 1):=by rw [hh,hj,hR]
theorem KP (p:List UInt8):hR p 3 = bL p 0:=by
 have h0:=nw p 0; have h1:=nw p 1; have h2:=nw p 2
 simp only [hR,KO,bL,show 2 - 0 = 2 from rfl,show 2 - 1 = 1 from rfl,show 2 - 2 = 0 from rfl,show 0 + 2 = 2 from rfl,show 0 + 1 = 1 from rfl]
 omega
theorem hash (p:List UInt8) (hp:p.length = 3) (H:Int) (hH:H = bL p 0):SpecH false Tryz.prog 198 [.sl false 3 1 (p.map dB)] [] (.tup [.v (.int .u32 H),.v (.int .u32 EX)]) []:=by
 refine SpecH.run T_ok ai Tryz.func198 rfl rfl rfl trivial rfl 1000 64 (fun R ok=>(.s 9 (Hn.inl T_ok ai false 41 0 (ay Tryz.prog 198 0) (fun (x:(k:Nat) ×' (hk:k ≤ 3) ×' (h:Int) ×' (hh:h = hR p k) ×' Unit)=>match x with | ⟨k,hk,h,hh,_⟩=>CutS.mk [(0,D.sl false 3 1 (map dB p)),(4,.v (.int .u32 h)),(5,iD (2 - (k:Int)))] [] 0) (fun (x:(k:Nat) ×' (hk:k ≤ 3) ×' (h:Int) ×' (hh:h = hR p k) ×' Unit)=>match x with | ⟨k,hk,h,hh,_⟩=>3 - k) [⟨Unit,.exit 0,fun x=>match x with | ()=>CutS.mk [(0,D.sl false 3 1 (map dB p)),(4,.v (.int .u32 H))] [] 0⟩] 1000 64 (fun | ⟨k,hk,h,hh,_⟩,Q,next1,last1=>(.s 3 (.br (decide (0 ≤ 2 - (k:Int))) (fun p0=>have p0f:=ba p0; (.s 3 (.opt (aw .u32 (h * 16777619)) (uI (h * 16777619 % 4294967296)) (aD _ _) (.s 3 (.chk (decide (0 ≤ 2 - (k:Int)) && decide (2 - (k:Int) < (↑3:Int)) && true) vo (.s 2 (.opt ((map dB p)[u7 (2 - (k:Int)) * 1]?) (dB (getD p (u7 (2 - (k:Int)) * 1) ji)) (au _ _ om) (.s 1 (.opt (aw .u32 (↑(L4 (getD p (u7 (2 - (k:Int)) * 1) ji)):Int)) (ah (L4 (getD p (u7 (2 - (k:Int)) * 1) ji))) (aB vp) (.s 2 (.opt (aw .u32 (h * 16777619 % 4294967296 + (↑(L4 (getD p (u7 (2 - (k:Int)) * 1) ji)):Int))) (uI ((h * 16777619 % 4294967296 + (↑(L4 (getD p (u7 (2 - (k:Int)) * 1) ji)):Int)) % 4294967296)) (aD _ _) (.s 4 (.ow (2 - (k:Int) - 1) (.s 1 (.val 4 (uI ((h * 16777619 % 4294967296 + (↑(L4 (getD p (u7 (2 - (k:Int)) * 1) ji)):Int)) % 4294967296)) (uI ((h * 16777619 % 4294967296 + bI p (2 - k)) % 4294967296)) (by (refine aO (congrArg (fun z=>((((h * 16777619) % 4294967296) + bI p z) % 4294967296)) ?_); (omega))) (.val 5 (zI (2 - (k:Int) - 1)) (zI (2 - (↑(k + 1):Int))) l8 (Hn.next next1 ⟨(k+1),om,(((((h * 16777619) % 4294967296) + bI p (2 - k)) % 4294967296)),(by (refine At hh ?_; (omega))),⟨⟩⟩ (by show 3 - (k + 1) < 3 - k; clear next1 last1; omega) [] ro))))))))))))))))) (fun p0=>have p0f:=bb p0; (.val 4 (uI h) (uI H) (by (refine aO ?_; rw [hh,hH,show k = 3 from by (omega),KP])) (Hn.last last1 0 (():Unit) rfl [] ro)))))) (fun | ⟨k,hk,h,hh,_⟩=>by kernel_rfl) ⟨(0),om,(0),(by exact rfl),⟨⟩⟩ [] ro (bZ (fun | ()=>(.s 70 (.out [] [] (D.tup [uI H,uI 1055306571]) [] R (ok _ _ wr wr)))))))) (by kernel_rfl)
def aq (s p:List UInt8):Nat → Int
 | 0=>-1
 | k + 1=>if (s.drop k).take 3 = p then (k:Int) else aq s p k
theorem yj {s p:List UInt8} {i:Nat} (h:(s.drop i).take 3 = p) (hi:i + 3 ≤ s.length):bL s i = bL p 0:=by
 have e:∀ j,j < 3 → bI p j = bI s (i + j):=fun j hj=>by
  unfold bI
  rw [← h]
  simp only [List.getD_eq_getElem?_getD,List.getElem?_take,List.getElem?_drop,hj,if_true]
 unfold bL
 rw [e 0 (by decide),e 1 (by decide),e 2 (by decide)]
 rfl
theorem KQ (s:List UInt8) (i:Nat):((((((bL s (i + 1) * 16777619) % 4294967296) + bI s i) % 4294967296) - ((EX * bI s (i + 3)) % 4294967296)) % 4294967296) = bL s i:=by
 simp only [EX,KO,bL,show i + 1 + 2 = i + 3 from rfl,show i + 1 + 1 = i + 2 from rfl]
 omega
def hW (s:List UInt8) (i:Nat):Nat → Int
 | 0=>0
 | k + 1=>((((hW s i k * 16777619) % 4294967296) + bI s (i + (2 - k))) % 4294967296)
theorem Au {s:List UInt8} {i k j:Nat} {h:Int} (hh:h = hW s i k) (hj:j = i + (2 - k)):((((h * 16777619) % 4294967296) + bI s j) % 4294967296) = hW s i (k + 1):=by rw [hh,hj,hW]
theorem KR (s:List UInt8) (i:Nat):hW s i 3 = bL s i:=by
 have h0:=nw s i; have h1:=nw s (i + 1); have h2:=nw s (i + 2)
 simp only [hW,KO,bL,show 2 - 0 = 2 from rfl,show 2 - 1 = 1 from rfl,show 2 - 2 = 0 from rfl,N2]
 omega
theorem qQ {s p:List UInt8} {k m:Nat} (hm:m = k + 1) (h:(s.drop k).take 3 = p):aq s p m = k:=by rw [hm,aq,if_pos h]
theorem jx {s p:List UInt8} {k m:Nat} (hm:m = k + 1) (h:(s.drop k).take 3 ≠ p):aq s p m = aq s p k:=by rw [hm,aq,if_neg h]
theorem ny {s p:List UInt8} {k m:Nat} {h H:Int} (hm:m = k + 1) (hl:m + 2 ≤ s.length) (hh:h = bL s k) (hH:H = bL p 0) (hne:h ≠ H):aq s p m = aq s p k :=
 jx hm fun e=>hne (by rw [hh,hH]; exact yj e (by omega))
theorem EY {l p:List UInt8} (e:(MM { data:=l.toArray } == MM { data:=p.toArray }) = true):l = p:=by rw [fu,fu] at e; exact eq_of_beq e
theorem EZ {l p:List UInt8} (e:(MM { data:=l.toArray } == MM { data:=p.toArray }) = false):l ≠ p:=by rw [fu,fu] at e; exact av e
theorem uu {s:List UInt8} {n j:Nat} (hn:n = s.length) (h3:3 ≤ n) (hj:j = n - 3):s.drop j = (s.drop (n - 3)).take 3:=by
 rw [hj,Mz (by rw [Ms]; omega)]
theorem nz {s p:List UInt8} {a:Int} {j:Nat} (hl:a = aq s p j) (hj:j = 0):a = -1:=by rw [hl,hj]; rfl
theorem uv {s:List UInt8} {j a b:Nat} {h:Int} (hh:h = bL s j) (hj:0 < j) (ha:a = j - 1) (hb:b = j + 2):((((((h * 16777619) % 4294967296) + ((s.getD a ji).toNat:Int)) % 4294967296) - ((1055306571 * ((s.getD b ji).toNat:Int)) % 4294967296)) % 4294967296) = bL s (j - 1):=by
 have e1:bL s j = bL s (a + 1):=congrArg (bL s) (by omega)
 have e2:b = a + 3:=by omega
 have e3:=KQ s a
 rw [hh,e1,e2,← ha]
 exact e3
theorem yk {s:List UInt8} {j:Nat} (hj:0 < j):ME (((j:Int) - 1 + 3).toNat - ((j:Int) - 1).toNat) (MI ((j:Int) - 1).toNat s) = (s.drop (j - 1)).take 3:=by
 rw [show ((j:Int) - 1 + 3).toNat - ((j:Int) - 1).toNat = 3 from by omega,show ((j:Int) - 1).toNat = j - 1 from by omega]
theorem uw {s p:List UInt8} {j:Nat} {a:Int} (hl:a = aq s p j) (hj:0 < j) (e:(MM { data:=(ME (((j:Int) - 1 + 3).toNat - ((j:Int) - 1).toNat) (MI ((j:Int) - 1).toNat s)).toArray } == MM { data:=p.toArray }) = false):a = aq s p (j - 1):=by
 rw [hl]
 refine jx (by omega) ?_
 rw [← yk hj]
 exact EZ e
theorem ym {s p:List UInt8} {j:Nat} {a:Int} (hl:a = aq s p j) (hj:0 < j) (e:(MM { data:=(ME (((j:Int) - 1 + 3).toNat - ((j:Int) - 1).toNat) (MI ((j:Int) - 1).toNat s)).toArray } == MM { data:=p.toArray }) = true):(j:Int) - 1 = a:=by
 rw [hl,qQ (k:=j - 1) (by omega) (by rw [← yk hj]; exact EY e)]
 omega
theorem uz {s p:List UInt8} {j:Nat} {a h H:Int} (hl:a = aq s p j) (hj:0 < j) (hb:j + 2 ≤ s.length) (hh:h = bL s j) (hH:H = bL p 0) (e:(((((((h * 16777619) % 4294967296) + ((s.getD (((j:Int) - 1).toNat * 1) ji).toNat:Int)) % 4294967296) - ((1055306571 * ((s.getD (((j:Int) - 1 + 3).toNat * 1) ji).toNat:Int)) % 4294967296)) % 4294967296) == H) = false):a = aq s p (j - 1) :=
 hl.trans (ny (by omega) hb (uv hh hj (by omega) (by omega)) hH (av e))
theorem Av {s p:List UInt8} {n:Nat} (hn:n = s.length) (h3:3 ≤ n) (e:(MM { data:=(MI ((n:Int) - 3).toNat s).toArray } == MM { data:=p.toArray }) = true):(n:Int) - 3 = aq s p (n - 2):=by
 rw [qQ (k:=n - 3) (by omega) (by rw [← uu hn h3 rfl,← EY e]; exact congrArg (MI · s) (by omega))]
 omega
theorem rk (s p:List UInt8) (n:Nat) (hn:n = s.length) (hp:p.length = 3) (h3:4 ≤ n) (h4:n ≤ 1000000) (H:Int) (hH:H = bL p 0):SpecH false Tryz.prog 193 [.sl false n 1 (s.map dB),.sl false 3 1 (p.map dB)] [] (iD (aq s p (n - 2))) []:=by
 refine SpecH.run T_ok ai Tryz.func193 rfl rfl rfl trivial rfl 1000 64 (fun R ok=>(.s 3 (.cl 198 false [] (.fn JW (@Go.Proofs.YtefjnofhgkjpmaaGreat.Vm.hash (p) om (H) bz)) (.s 15 (.ow ((n:Int) - 3) (.s 6 (.ow ((n:Int) - 1) (.s 1 (.val 10 (zI ((n:Int) - 1)) (zI ((n:Int) - 1 - 0)) l8 (Hn.inl T_ok ai false 94 0 (ay Tryz.prog 193 0) (fun (x:(k:Nat) ×' (hk:k ≤ 3) ×' (h:Int) ×' (hh:h = hW s (n - 3) k) ×' Unit)=>match x with | ⟨k,hk,h,hh,_⟩=>CutS.mk [(0,D.sl false n 1 (map dB s)),(1,D.sl false 3 1 (map dB p)),(5,uI H),(6,uI 1055306571),(7,zI 3),(8,zI ((n:Int) - 3)),(9,.v (.int .u32 h)),(10,iD ((n:Int) - 1 - (k:Int)))] [] 0) (fun (x:(k:Nat) ×' (hk:k ≤ 3) ×' (h:Int) ×' (hh:h = hW s (n - 3) k) ×' Unit)=>match x with | ⟨k,hk,h,hh,_⟩=>3 - k) [⟨(h2:Int) ×' (hh2:h2 = bL s (n - 3)) ×' Unit,.exit 0,fun x=>match x with | ⟨h2,hh2,_⟩=>CutS.mk [(0,D.sl false n 1 (map dB s)),(1,D.sl false 3 1 (map dB p)),(5,uI H),(6,uI 1055306571),(7,zI 3),(8,zI ((n:Int) - 3)),(9,.v (.int .u32 h2))] [] 0⟩] 1000 64 (fun | ⟨k,hk,h,hh,_⟩,Q,next1,last1=>(.s 4 (.br (decide ((n:Int) - 3 ≤ (n:Int) - 1 - (k:Int))) (fun p0=>have p0f:=ba p0; (.s 3 (.opt (aw .u32 (h * 16777619)) (uI (h * 16777619 % 4294967296)) (aD _ _) (.s 3 (.chk (decide (0 ≤ (n:Int) - 1 - (k:Int)) && decide ((n:Int) - 1 - (k:Int) < (n:Int)) && true) vo (.s 2 (.opt ((map dB s)[u7 ((n:Int) - 1 - (k:Int)) * 1]?) (dB (getD s (u7 ((n:Int) - 1 - (k:Int)) * 1) ji)) (au _ _ om) (.s 1 (.opt (aw .u32 (↑(L4 (getD s (u7 ((n:Int) - 1 - (k:Int)) * 1) ji)):Int)) (ah (L4 (getD s (u7 ((n:Int) - 1 - (k:Int)) * 1) ji))) (aB vp) (.s 2 (.opt (aw .u32 (h * 16777619 % 4294967296 + (↑(L4 (getD s (u7 ((n:Int) - 1 - (k:Int)) * 1) ji)):Int))) (uI ((h * 16777619 % 4294967296 + (↑(L4 (getD s (u7 ((n:Int) - 1 - (k:Int)) * 1) ji)):Int)) % 4294967296)) (aD _ _) (.s 4 (.ow ((n:Int) - 1 - (k:Int) - 1) (.s 1 (.val 9 (uI ((h * 16777619 % 4294967296 + (↑(L4 (getD s (u7 ((n:Int) - 1 - (k:Int)) * 1) ji)):Int)) % 4294967296)) (uI ((h * 16777619 % 4294967296 + bI s (n - 1 - k)) % 4294967296)) (by (refine aO (congrArg (fun z=>((((h * 16777619) % 4294967296) + bI s z) % 4294967296)) ?_); (omega))) (.val 10 (zI ((n:Int) - 1 - (k:Int) - 1)) (zI ((n:Int) - 1 - (↑(k + 1):Int))) l8 (Hn.next next1 ⟨(k+1),om,(((((h * 16777619) % 4294967296) + bI s (n - 1 - k)) % 4294967296)),(by (refine Au hh ?_; (omega))),⟨⟩⟩ (by show 3 - (k + 1) < 3 - k; clear next1 last1; omega) [] ro))))))))))))))))) (fun p0=>have p0f:=bb p0; (Hn.last last1 0 (⟨(h),(by (rw [hh,show k = 3 from by (omega),KR])),⟨⟩⟩:(h2:Int) ×' (hh2:h2 = bL s (n - 3)) ×' Unit) rfl [] ro))))) (fun | ⟨k,hk,h,hh,_⟩=>by kernel_rfl) ⟨(0),om,(0),(by exact rfl),⟨⟩⟩ [] ro (bZ (fun | ⟨h2,hh2,_⟩=>(.s 7 (.br (h2 == H) (fun p1=>have p1f:=eq_of_beq p1; (.s 4 (.chk (aM (some ((n:Int) - 3)) none none n && true) (by (simp <;> (omega))) (.s 3 (.byt (drop (u7 ((n:Int) - 3) * 1) (map dB s)) (drop (u7 ((n:Int) - 3)) s) (by (simp; done)) (.s 5 (.byt (map dB p) (p) rfl (.s 3 (.br (MM (Nu (Oe (drop (u7 ((n:Int) - 3)) s))) == MM (Nu (Oe p))) (fun p2=>have p2f:=eq_of_beq p2; (.s 2 (.out [] [] (zI ((n:Int) - 3)) [] R (ok _ _ (by (exact aO (Av hn (by (omega)) bz))) wr)))) (fun p2=>have p2f:=av p2; (.s 3 (.ow ((n:Int) - 3 - 1) (.s 1 (.val 11 (zI ((n:Int) - 3 - 1)) (zI ((↑(n - 3):Int) - 1)) l8 (Hn.inl T_ok ai false 94 0 (ay Tryz.prog 193 1) (fun (x:(j:Nat) ×' (hj:j ≤ n - 3) ×' (h:Int) ×' (hh:h = bL s j) ×' (hl:aq s p (n - 2) = aq s p j) ×' Unit)=>match x with | ⟨j,hj,h,hh,hl,_⟩=>CutS.mk [(0,D.sl false n 1 (map dB s)),(1,D.sl false 3 1 (map dB p)),(5,uI H),(6,uI 1055306571),(7,zI 3),(9,.v (.int .u32 h)),(11,iD ((j:Int) - 1))] [] 0) (fun (x:(j:Nat) ×' (hj:j ≤ n - 3) ×' (h:Int) ×' (hh:h = bL s j) ×' (hl:aq s p (n - 2) = aq s p j) ×' Unit)=>match x with | ⟨j,hj,h,hh,hl,_⟩=>j) [⟨(hz:aq s p (n - 2) = -1) ×' Unit,.exit 2,fun x=>match x with | ⟨hz,_⟩=>CutS.mk [(0,D.sl false n 1 (map dB s)),(1,D.sl false 3 1 (map dB p)),(5,uI H),(6,uI 1055306571),(7,zI 3)] [] 0⟩,⟨Unit,.ret,fun x=>match x with | ()=>CutS.mk [(4,iD (aq s p (n - 2)))] [] 0⟩] 1000 64 (fun | ⟨j,hj,h,hh,hl,_⟩,Q,next1,last1=>(.s 3 (.br (decide (0 ≤ (j:Int) - 1)) (fun p3=>have p3f:=ba p3; (.s 3 (.opt (aw .u32 (h * 16777619)) (uI (h * 16777619 % 4294967296)) (aD _ _) (.s 5 (.chk (decide (0 ≤ (j:Int) - 1) && decide ((j:Int) - 1 < (n:Int)) && true) vo (.s 2 (.opt ((map dB s)[u7 ((j:Int) - 1) * 1]?) (dB (getD s (u7 ((j:Int) - 1) * 1) ji)) (au _ _ om) (.s 1 (.opt (aw .u32 (↑(L4 (getD s (u7 ((j:Int) - 1) * 1) ji)):Int)) (ah (L4 (getD s (u7 ((j:Int) - 1) * 1) ji))) (aB vp) (.s 2 (.opt (aw .u32 (h * 16777619 % 4294967296 + (↑(L4 (getD s (u7 ((j:Int) - 1) * 1) ji)):Int))) (uI ((h * 16777619 % 4294967296 + (↑(L4 (getD s (u7 ((j:Int) - 1) * 1) ji)):Int)) % 4294967296)) (aD _ _) (.s 8 (.ow ((j:Int) - 1 + 3) (.s 1 (.chk (decide (0 ≤ (j:Int) - 1 + 3) && decide ((j:Int) - 1 + 3 < (n:Int)) && true) vo (.s 2 (.opt ((map dB s)[u7 ((j:Int) - 1 + 3) * 1]?) (dB (getD s (u7 ((j:Int) - 1 + 3) * 1) ji)) (au _ _ om) (.s 1 (.opt (aw .u32 (↑(L4 (getD s (u7 ((j:Int) - 1 + 3) * 1) ji)):Int)) (ah (L4 (getD s (u7 ((j:Int) - 1 + 3) * 1) ji))) (aB vp) (.s 2 (.opt (aw .u32 (1055306571 * (↑(L4 (getD s (u7 ((j:Int) - 1 + 3) * 1) ji)):Int))) (uI (1055306571 * (↑(L4 (getD s (u7 ((j:Int) - 1 + 3) * 1) ji)):Int) % 4294967296)) (aD _ _) (.s 2 (.opt (aw .u32 ((h * 16777619 % 4294967296 + (↑(L4 (getD s (u7 ((j:Int) - 1) * 1) ji)):Int)) % 4294967296 - 1055306571 * (↑(L4 (getD s (u7 ((j:Int) - 1 + 3) * 1) ji)):Int) % 4294967296)) (uI (((h * 16777619 % 4294967296 + (↑(L4 (getD s (u7 ((j:Int) - 1) * 1) ji)):Int)) % 4294967296 - 1055306571 * (↑(L4 (getD s (u7 ((j:Int) - 1 + 3) * 1) ji)):Int) % 4294967296) % 4294967296)) (aD _ _) (.s 8 (.br (((h * 16777619 % 4294967296 + (↑(L4 (getD s (u7 ((j:Int) - 1) * 1) ji)):Int)) % 4294967296 - 1055306571 * (↑(L4 (getD s (u7 ((j:Int) - 1 + 3) * 1) ji)):Int) % 4294967296) % 4294967296 == H) (fun p4=>have p4f:=eq_of_beq p4; (.s 9 (.ow ((j:Int) - 1 + 3) (.s 2 (.chk (aM (some ((j:Int) - 1)) (some ((j:Int) - 1 + 3)) none n && true) (by (simp <;> (omega))) (.s 3 (.byt (take ((u7 ((j:Int) - 1 + 3) - u7 ((j:Int) - 1)) * 1) (drop (u7 ((j:Int) - 1) * 1) (map dB s))) (take (u7 ((j:Int) - 1 + 3) - u7 ((j:Int) - 1)) (drop (u7 ((j:Int) - 1)) s)) (by (simp; done)) (.s 5 (.byt (map dB p) (p) rfl (.s 3 (.br (MM (Nu (Oe (take (u7 ((j:Int) - 1 + 3) - u7 ((j:Int) - 1)) (drop (u7 ((j:Int) - 1)) s)))) == MM (Nu (Oe p))) (fun p5=>have p5f:=eq_of_beq p5; (.s 2 (.val 4 (zI ((j:Int) - 1)) (zI (aq s p (n - 2))) (by (exact aO (ym hl (by (omega)) bz))) (Hn.last last1 1 (():Unit) rfl [] ro)))) (fun p5=>have p5f:=av p5; (.s 3 (.ow ((j:Int) - 1 - 1) (.s 1 (.val 11 (zI ((j:Int) - 1 - 1)) (zI ((↑(j - 1):Int) - 1)) l8 (Hn.next next1 ⟨(j - 1),om,(((((((h * 16777619) % 4294967296) + ((s.getD (((j:Int) - 1).toNat * 1) ji).toNat:Int)) % 4294967296) - ((1055306571 * ((s.getD (((j:Int) - 1 + 3).toNat * 1) ji).toNat:Int)) % 4294967296)) % 4294967296)),Ar,(by (exact uw hl (by (omega)) bz)),⟨⟩⟩ As [] ro))))))))))))))))) (fun p4=>have p4f:=av p4; (.s 23 (.ow ((j:Int) - 1 - 1) (.s 1 (.val 11 (zI ((j:Int) - 1 - 1)) (zI ((↑(j - 1):Int) - 1)) l8 (Hn.next next1 ⟨(j - 1),om,(((((((h * 16777619) % 4294967296) + ((s.getD (((j:Int) - 1).toNat * 1) ji).toNat:Int)) % 4294967296) - ((1055306571 * ((s.getD (((j:Int) - 1 + 3).toNat * 1) ji).toNat:Int)) % 4294967296)) % 4294967296)),Ar,(by (exact uz hl (by (omega)) (by (omega)) hh hH bz)),⟨⟩⟩ As [] ro))))))))))))))))))))))))))))))) (fun p3=>have p3f:=bb p3; (Hn.last last1 0 (⟨(by (exact nz hl (by (omega)))),⟨⟩⟩:(hz:aq s p (n - 2) = -1) ×' Unit) rfl [] ro))))) (fun | ⟨j,hj,h,hh,hl,_⟩=>by kernel_rfl) ⟨(n - 3),om,(h2),om,(by (refine jx om ?_; rw [← uu hn om rfl]; refine fun e=>EZ p2 ?_; refine Px ?_ e; exact congrArg (drop · s) om)),⟨⟩⟩ [] ro (fa (fun | ⟨hz,_⟩=>(.s 1 (.out [] [] (zI (-1)) [] R (ok _ _ l8 wr)))) (fun | ()=>(.out [] [] (zI (aq s p (n - 2))) [] R (ok _ _ wr wr))))))))))))))))))) (fun p1=>have p1f:=av p1; (.s 17 (.ow ((n:Int) - 3 - 1) (.s 1 (.val 11 (zI ((n:Int) - 3 - 1)) (zI ((↑(n - 3):Int) - 1)) l8 (Hn.inl T_ok ai false 94 0 (ay Tryz.prog 193 1) (fun (x:(j:Nat) ×' (hj:j ≤ n - 3) ×' (h:Int) ×' (hh:h = bL s j) ×' (hl:aq s p (n - 2) = aq s p j) ×' Unit)=>match x with | ⟨j,hj,h,hh,hl,_⟩=>CutS.mk [(0,D.sl false n 1 (map dB s)),(1,D.sl false 3 1 (map dB p)),(5,uI H),(6,uI 1055306571),(7,zI 3),(9,.v (.int .u32 h)),(11,iD ((j:Int) - 1))] [] 0) (fun (x:(j:Nat) ×' (hj:j ≤ n - 3) ×' (h:Int) ×' (hh:h = bL s j) ×' (hl:aq s p (n - 2) = aq s p j) ×' Unit)=>match x with | ⟨j,hj,h,hh,hl,_⟩=>j) [⟨(hz:aq s p (n - 2) = -1) ×' Unit,.exit 2,fun x=>match x with | ⟨hz,_⟩=>CutS.mk [(0,D.sl false n 1 (map dB s)),(1,D.sl false 3 1 (map dB p)),(5,uI H),(6,uI 1055306571),(7,zI 3)] [] 0⟩,⟨Unit,.ret,fun x=>match x with | ()=>CutS.mk [(4,iD (aq s p (n - 2)))] [] 0⟩] 1000 64 (fun | ⟨j,hj,h,hh,hl,_⟩,Q,next1,last1=>(.s 3 (.br (decide (0 ≤ (j:Int) - 1)) (fun p6=>have p6f:=ba p6; (.s 3 (.opt (aw .u32 (h * 16777619)) (uI (h * 16777619 % 4294967296)) (aD _ _) (.s 5 (.chk (decide (0 ≤ (j:Int) - 1) && decide ((j:Int) - 1 < (n:Int)) && true) vo (.s 2 (.opt ((map dB s)[u7 ((j:Int) - 1) * 1]?) (dB (getD s (u7 ((j:Int) - 1) * 1) ji)) (au _ _ om) (.s 1 (.opt (aw .u32 (↑(L4 (getD s (u7 ((j:Int) - 1) * 1) ji)):Int)) (ah (L4 (getD s (u7 ((j:Int) - 1) * 1) ji))) (aB vp) (.s 2 (.opt (aw .u32 (h * 16777619 % 4294967296 + (↑(L4 (getD s (u7 ((j:Int) - 1) * 1) ji)):Int))) (uI ((h * 16777619 % 4294967296 + (↑(L4 (getD s (u7 ((j:Int) - 1) * 1) ji)):Int)) % 4294967296)) (aD _ _) (.s 8 (.ow ((j:Int) - 1 + 3) (.s 1 (.chk (decide (0 ≤ (j:Int) - 1 + 3) && decide ((j:Int) - 1 + 3 < (n:Int)) && true) vo (.s 2 (.opt ((map dB s)[u7 ((j:Int) - 1 + 3) * 1]?) (dB (getD s (u7 ((j:Int) - 1 + 3) * 1) ji)) (au _ _ om) (.s 1 (.opt (aw .u32 (↑(L4 (getD s (u7 ((j:Int) - 1 + 3) * 1) ji)):Int)) (ah (L4 (getD s (u7 ((j:Int) - 1 + 3) * 1) ji))) (aB vp) (.s 2 (.opt (aw .u32 (1055306571 * (↑(L4 (getD s (u7 ((j:Int) - 1 + 3) * 1) ji)):Int))) (uI (1055306571 * (↑(L4 (getD s (u7 ((j:Int) - 1 + 3) * 1) ji)):Int) % 4294967296)) (aD _ _) (.s 2 (.opt (aw .u32 ((h * 16777619 % 4294967296 + (↑(L4 (getD s (u7 ((j:Int) - 1) * 1) ji)):Int)) % 4294967296 - 1055306571 * (↑(L4 (getD s (u7 ((j:Int) - 1 + 3) * 1) ji)):Int) % 4294967296)) (uI (((h * 16777619 % 4294967296 + (↑(L4 (getD s (u7 ((j:Int) - 1) * 1) ji)):Int)) % 4294967296 - 1055306571 * (↑(L4 (getD s (u7 ((j:Int) - 1 + 3) * 1) ji)):Int) % 4294967296) % 4294967296)) (aD _ _) (.s 8 (.br (((h * 16777619 % 4294967296 + (↑(L4 (getD s (u7 ((j:Int) - 1) * 1) ji)):Int)) % 4294967296 - 1055306571 * (↑(L4 (getD s (u7 ((j:Int) - 1 + 3) * 1) ji)):Int) % 4294967296) % 4294967296 == H) (fun p7=>have p7f:=eq_of_beq p7; (.s 9 (.ow ((j:Int) - 1 + 3) (.s 2 (.chk (aM (some ((j:Int) - 1)) (some ((j:Int) - 1 + 3)) none n && true) (by (simp <;> (omega))) (.s 3 (.byt (take ((u7 ((j:Int) - 1 + 3) - u7 ((j:Int) - 1)) * 1) (drop (u7 ((j:Int) - 1) * 1) (map dB s))) (take (u7 ((j:Int) - 1 + 3) - u7 ((j:Int) - 1)) (drop (u7 ((j:Int) - 1)) s)) (by (simp; done)) (.s 5 (.byt (map dB p) (p) rfl (.s 3 (.br (MM (Nu (Oe (take (u7 ((j:Int) - 1 + 3) - u7 ((j:Int) - 1)) (drop (u7 ((j:Int) - 1)) s)))) == MM (Nu (Oe p))) (fun p8=>have p8f:=eq_of_beq p8; (.s 2 (.val 4 (zI ((j:Int) - 1)) (zI (aq s p (n - 2))) (by (exact aO (ym hl (by (omega)) bz))) (Hn.last last1 1 (():Unit) rfl [] ro)))) (fun p8=>have p8f:=av p8; (.s 3 (.ow ((j:Int) - 1 - 1) (.s 1 (.val 11 (zI ((j:Int) - 1 - 1)) (zI ((↑(j - 1):Int) - 1)) l8 (Hn.next next1 ⟨(j - 1),om,(((((((h * 16777619) % 4294967296) + ((s.getD (((j:Int) - 1).toNat * 1) ji).toNat:Int)) % 4294967296) - ((1055306571 * ((s.getD (((j:Int) - 1 + 3).toNat * 1) ji).toNat:Int)) % 4294967296)) % 4294967296)),Ar,(by (exact uw hl (by (omega)) bz)),⟨⟩⟩ As [] ro))))))))))))))))) (fun p7=>have p7f:=av p7; (.s 23 (.ow ((j:Int) - 1 - 1) (.s 1 (.val 11 (zI ((j:Int) - 1 - 1)) (zI ((↑(j - 1):Int) - 1)) l8 (Hn.next next1 ⟨(j - 1),om,(((((((h * 16777619) % 4294967296) + ((s.getD (((j:Int) - 1).toNat * 1) ji).toNat:Int)) % 4294967296) - ((1055306571 * ((s.getD (((j:Int) - 1 + 3).toNat * 1) ji).toNat:Int)) % 4294967296)) % 4294967296)),Ar,(by (exact uz hl (by (omega)) (by (omega)) hh hH bz)),⟨⟩⟩ As [] ro))))))))))))))))))))))))))))))) (fun p6=>have p6f:=bb p6; (Hn.last last1 0 (⟨(by (exact nz hl (by (omega)))),⟨⟩⟩:(hz:aq s p (n - 2) = -1) ×' Unit) rfl [] ro))))) (fun | ⟨j,hj,h,hh,hl,_⟩=>by kernel_rfl) ⟨(n - 3),om,(h2),om,(by (refine ny om om hh2 hH (av p1))),⟨⟩⟩ [] ro (fa (fun | ⟨hz,_⟩=>(.s 1 (.out [] [] (zI (-1)) [] R (ok _ _ l8 wr)))) (fun | ()=>(.out [] [] (zI (aq s p (n - 2))) [] R (ok _ _ wr wr)))))))))))))))))))))))) (by kernel_rfl)
theorem qR {s p:List UInt8} {n:Nat} (hn:n = s.length) (h3:n = 3):aq s p (n - 2) = if s = p then 0 else -1:=by
 rw [show n - 2 = 0 + 1 from by omega,aq,Ns,Mz (by omega)]
 rfl
theorem IG {s p:List UInt8} {n:Nat} (hn:n = s.length) (h3:n = 3) (e:(MM { data:=s.toArray } == MM { data:=p.toArray }) = true):0 = aq s p (n - 2):=by rw [qR hn h3,if_pos (EY e)]
theorem IH {s p:List UInt8} {n:Nat} (hn:n = s.length) (h3:n = 3) (e:(MM { data:=s.toArray } == MM { data:=p.toArray }) = false):-1 = aq s p (n - 2):=by rw [qR hn h3,if_neg (EZ e)]
theorem II {s p:List UInt8} {n:Nat} (h:n ≤ 2):-1 = aq s p (n - 2):=by rw [show n - 2 = 0 from by omega]; rfl
theorem E5 (s p:List UInt8) (n:Nat) (hn:n = s.length) (hp:p.length = 3) (h4:n ≤ 1000000):SpecH false Tryz.prog 179 [.sl false n 1 (s.map dB),.sl false 3 1 (p.map dB)] [] (iD (aq s p (n - 2))) []:=by
 have hH:bL p 0 = bL p 0:=rfl
 refine SpecH.run T_ok ai Tryz.func179 rfl rfl rfl trivial rfl 1000 64 (fun R ok=>(.s 20 (.br (3 == (n:Int)) (fun p0=>have p0f:=eq_of_beq p0; (.s 8 (.byt (map dB s) (s) rfl (.s 3 (.byt (map dB p) (p) rfl (.s 2 (.br (MM (Nu (Oe s)) == MM (Nu (Oe p))) (fun p1=>have p1f:=eq_of_beq p1; (.s 1 (.out [] [] (zI 0) [] R (ok _ _ (by (exact aO (IG hn (by (omega)) bz))) wr)))) (fun p1=>have p1f:=av p1; (.s 1 (.out [] [] (zI (-1)) [] R (ok _ _ (by (exact aO (IH hn (by (omega)) bz))) wr))))))))))) (fun p0=>have p0f:=av p0; (.s 6 (.br (decide ((n:Int) < 3)) (fun p2=>have p2f:=ba p2; (.s 1 (.out [] [] (zI (-1)) [] R (ok _ _ (by (exact aO (II (by (omega))))) wr)))) (fun p2=>have p2f:=bb p2; (.s 3 (.cl 193 false [] (.fn JV (@Go.Proofs.YtefjnofhgkjpmaaGreat.Vm.rk (s) (p) (n) om om om om (bL p 0) bz)) (.s 1 (.out [] [] (zI (aq s p (n - 2))) [] R (ok _ _ wr wr)))))))))))) (by kernel_rfl)
end Vm
end Go.Proofs.YtefjnofhgkjpmaaGreat
namespace Go.Proofs.YtefjnofhgkjpmaaGreat
open Go.RowKit Go.Bw Go.Vx
open List (length getD map take drop flatMap replicate)
namespace Vm
theorem Aw {p:Prop} (h:p:=by ((refine aI ?_ ?_) <;> (repeat' (first | (refine aI ?_ ?_) | (with_reducible rfl) | (refine decide_eq_true ?_) | (refine L9 ?_) | (refine er ?_))) <;> (omega))):p:=h
def same (b:List UInt8) (i j:Nat):Nat → Nat
 | 0=>0
 | k + 1=>if i < b.length ∧ b.getD j ji = b.getD i ji then same b (i + 1) (j + 1) k + 1 else 0
theorem uA (b:List UInt8):∀ (k i j:Nat),same b i j k ≤ k
 | 0,i,j=>Mh 0
 | k + 1,i,j=>by
  unfold same
  split
  ·exact NU (uA b k (i + 1) (j + 1))
  ·omega
theorem i4 (b:List UInt8):∀ (k i j:Nat),i ≤ b.length → i + same b i j k ≤ b.length
 | 0,i,j,h=>h
 | k + 1,i,j,h=>by
  unfold same
  split
  ·next e=>have:=i4 b k (i + 1) (j + 1) e.1; omega
  ·exact h
theorem Ax {b:List UInt8} {i j m a:Nat} (hs:a = m + same b (i + m) (j + m) (258 - m)) (h1:m < 258) (h2:i + m < b.length) (h3:b.getD (j + m) ji = b.getD (i + m) ji):a = (m + 1) + same b (i + (m + 1)) (j + (m + 1)) (258 - (m + 1)):=by
 rw [hs,show 258 - m = (258 - (m + 1)) + 1 from by omega,same,if_pos ⟨h2,h3⟩]
 rw [show i + m + 1 = i + (m + 1) from by omega,show j + m + 1 = j + (m + 1) from by omega]
 omega
theorem o8 {b:List UInt8} {i j m a:Nat} (hs:a = m + same b (i + m) (j + m) (258 - m)) (h:m = 258 ∨ ¬ i + m < b.length ∨ b.getD (j + m) ji ≠ b.getD (i + m) ji):a = m:=by
 rw [hs]
 rcases h with h | h | h
 ·rw [h]; rfl
 ·cases k:258 - m with
  | zero=>rfl
  | succ k=>rw [same,if_neg (fun e=>h e.1)]; rfl
 ·cases k:258 - m with
  | zero=>rfl
  | succ k=>rw [same,if_neg (fun e=>h e.2)]; rfl
theorem uB {b:List UInt8} {i m:Nat}:b.getD (((i:Int) + (m:Int)).toNat * 1) ji = b.getD (i + m) ji:=congrArg (b.getD · ji) (by omega)
theorem IJ {x y:UInt8} (h:(x.toNat:Int) = (y.toNat:Int)):x = y:=UInt8.toNat_inj.1 (Int.ofNat.inj h)
theorem sn {b:List UInt8} {i j m a:Nat} (hs:a = m + same b (i + m) (j + m) (258 - m)) (h1:m < 258) (h2:i + m < b.length) (e:(((b.getD (((j:Int) + (m:Int)).toNat * 1) ji).toNat:Int) == ((b.getD (((i:Int) + (m:Int)).toNat * 1) ji).toNat:Int)) = true):a = m + 1 + same b (i + (m + 1)) (j + (m + 1)) (258 - (m + 1)):=by
 rw [uB,uB] at e
 exact Ax hs h1 h2 (IJ (eq_of_beq e))
theorem yn {b:List UInt8} {i j m a:Nat} (hs:a = m + same b (i + m) (j + m) (258 - m)) (e:(((b.getD (((j:Int) + (m:Int)).toNat * 1) ji).toNat:Int) == ((b.getD (((i:Int) + (m:Int)).toNat * 1) ji).toNat:Int)) = false):(m:Int) = (a:Int):=by
 rw [uB,uB] at e
 rw [o8 hs (.inr (.inr fun h=>av e (by rw [h])))]
theorem uC {b:List UInt8} {i j m a n:Nat} (hs:a = m + same b (i + m) (j + m) (258 - m)) (hn:n = b.length) (e:decide ((i:Int) + (m:Int) < (n:Int)) = false):(m:Int) = (a:Int):=by
 have:=of_decide_eq_false e
 rw [o8 hs (.inr (.inl (by omega)))]
theorem uD {b:List UInt8} {i j m a:Nat} (hs:a = m + same b (i + m) (j + m) (258 - m)) (hm:m ≤ 258) (e:decide ((m:Int) < 258) = false):(m:Int) = (a:Int):=by
 have:=of_decide_eq_false e
 rw [o8 hs (.inl (by omega))]
theorem long (b:List UInt8) (n i j:Nat) (hn:n = b.length) (hN:n ≤ 1000000) (hi:i ≤ n) (hj:j < i):SpecH false Tryz.prog 155 [.sl false n 1 (b.map dB),iD i,iD j] [] (iD (same b i j 258:Nat)) []:=by
 refine SpecH.run T_ok ai Tryz.func155 rfl rfl rfl trivial rfl 1000 64 (fun R ok=>(.s 1 (Hn.inl T_ok ai false 35 0 (ay Tryz.prog 155 0) (fun (x:(m:Nat) ×' (hm:m ≤ 258) ×' (hi2:i + m ≤ n) ×' (hs:same b i j 258 = m + same b (i + m) (j + m) (258 - m)) ×' Unit)=>match x with | ⟨m,hm,hi2,hs,_⟩=>CutS.mk [(0,D.sl false n 1 (map dB b)),(1,zN i),(2,zN j),(6,iD (m:Nat))] [] 0) (fun (x:(m:Nat) ×' (hm:m ≤ 258) ×' (hi2:i + m ≤ n) ×' (hs:same b i j 258 = m + same b (i + m) (j + m) (258 - m)) ×' Unit)=>match x with | ⟨m,hm,hi2,hs,_⟩=>258 - m) [⟨Unit,.exit 0,fun x=>match x with | ()=>CutS.mk [(0,D.sl false n 1 (map dB b)),(1,zN i),(2,zN j),(6,iD (same b i j 258:Nat))] [] 0⟩] 1000 64 (fun | ⟨m,hm,hi2,hs,_⟩,Q,next1,last1=>(.s 6 (.br (decide ((m:Int) < 258)) (fun p0=>have p0f:=ba p0; (.s 5 (.ow ((i:Int) + (m:Int)) (.s 10 (.br (decide ((i:Int) + (m:Int) < (n:Int))) (fun p1=>have p1f:=ba p1; (.s 7 (.ow ((j:Int) + (m:Int)) (.s 2 (.chk (true && decide ((j:Int) + (m:Int) < (n:Int)) && true) Aw (.s 3 (.opt ((map dB b)[u7 ((j:Int) + (m:Int)) * 1]?) (dB (getD b (u7 ((j:Int) + (m:Int)) * 1) ji)) (au _ _ om) (.s 9 (.ow ((i:Int) + (m:Int)) (.s 2 (.chk (true && decide ((i:Int) + (m:Int) < (n:Int)) && true) Aw (.s 3 (.opt ((map dB b)[u7 ((i:Int) + (m:Int)) * 1]?) (dB (getD b (u7 ((i:Int) + (m:Int)) * 1) ji)) (au _ _ om) (.s 4 (.br ((↑(L4 (getD b (u7 ((j:Int) + (m:Int)) * 1) ji)):Int) == (↑(L4 (getD b (u7 ((i:Int) + (m:Int)) * 1) ji)):Int)) (fun p2=>have p2f:=eq_of_beq p2; (.s 3 (.ow ((m:Int) + 1) (.s 1 (.val 6 (zI ((m:Int) + 1)) (zN (m + 1)) (by (simp; done)) (Hn.next next1 ⟨(m + 1),om,om,(by (exact sn hs (by (omega)) (by (omega)) bz)),⟨⟩⟩ (by show 258 - (m + 1) < 258 - m; clear next1 last1; omega) [] ro)))))) (fun p2=>have p2f:=av p2; (.val 6 (zN m) (zN (same b i j 258)) (by (exact aO (yn hs bz))) (Hn.last last1 0 (():Unit) rfl [] ro)))))))))))))))))) (fun p1=>have p1f:=bb p1; (.s 26 (.val 6 (zN m) (zN (same b i j 258)) (by (exact aO (uC hs hn bz))) (Hn.last last1 0 (():Unit) rfl [] ro))))))))) (fun p0=>have p0f:=bb p0; (.s 40 (.val 6 (zN m) (zN (same b i j 258)) (by (exact aO (uD hs hm bz))) (Hn.last last1 0 (():Unit) rfl [] ro))))))) (fun | ⟨m,hm,hi2,hs,_⟩=>by kernel_rfl) ⟨(0),om,om,(by (simp only [N2,Mw,OH]; done)),⟨⟩⟩ [] ro (bZ (fun | ()=>(.s 2 (.out [] [] (zN (same b i j 258)) [] R (ok _ _ wr wr)))))))) (by kernel_rfl)
theorem KS (b:List UInt8) (n i j:Nat) (hn:n = b.length) (hN:n ≤ 1000000) (hi:i ≤ n) (hj:j < i):SpecH false Tryz.prog 128 [.sl false n 1 (b.map dB),iD i,iD j] [] (iD (same b i j 258:Nat)) []:=by
 refine SpecH.run T_ok ai Tryz.func128 rfl rfl rfl trivial rfl 1000 64 (fun R ok=>(.s 2 (Hn.inl T_ok ai false 36 0 (ay Tryz.prog 128 0) (fun (x:(m:Nat) ×' (hm:m ≤ 258) ×' (hi2:i + m ≤ n) ×' (hs:same b i j 258 = m + same b (i + m) (j + m) (258 - m)) ×' Unit)=>match x with | ⟨m,hm,hi2,hs,_⟩=>CutS.mk [(0,D.sl false n 1 (map dB b)),(1,zN i),(2,zN j),(7,iD (m:Nat))] [] 0) (fun (x:(m:Nat) ×' (hm:m ≤ 258) ×' (hi2:i + m ≤ n) ×' (hs:same b i j 258 = m + same b (i + m) (j + m) (258 - m)) ×' Unit)=>match x with | ⟨m,hm,hi2,hs,_⟩=>258 - m) [⟨Unit,.exit 0,fun x=>match x with | ()=>CutS.mk [(0,D.sl false n 1 (map dB b)),(1,zN i),(2,zN j),(7,iD (same b i j 258:Nat))] [] 0⟩] 1000 64 (fun | ⟨m,hm,hi2,hs,_⟩,Q,next1,last1=>(.s 6 (.br (decide ((m:Int) < 258)) (fun p0=>have p0f:=ba p0; (.s 5 (.ow ((i:Int) + (m:Int)) (.s 10 (.br (decide ((i:Int) + (m:Int) < (n:Int))) (fun p1=>have p1f:=ba p1; (.s 7 (.ow ((j:Int) + (m:Int)) (.s 2 (.chk (true && decide ((j:Int) + (m:Int) < (n:Int)) && true) Aw (.s 3 (.opt ((map dB b)[u7 ((j:Int) + (m:Int)) * 1]?) (dB (getD b (u7 ((j:Int) + (m:Int)) * 1) ji)) (au _ _ om) (.s 9 (.ow ((i:Int) + (m:Int)) (.s 2 (.chk (true && decide ((i:Int) + (m:Int) < (n:Int)) && true) Aw (.s 3 (.opt ((map dB b)[u7 ((i:Int) + (m:Int)) * 1]?) (dB (getD b (u7 ((i:Int) + (m:Int)) * 1) ji)) (au _ _ om) (.s 4 (.br ((↑(L4 (getD b (u7 ((j:Int) + (m:Int)) * 1) ji)):Int) == (↑(L4 (getD b (u7 ((i:Int) + (m:Int)) * 1) ji)):Int)) (fun p2=>have p2f:=eq_of_beq p2; (.s 3 (.ow ((m:Int) + 1) (.s 1 (.val 7 (zI ((m:Int) + 1)) (zN (m + 1)) (by (simp; done)) (Hn.next next1 ⟨(m + 1),om,om,(by (exact sn hs (by (omega)) (by (omega)) bz)),⟨⟩⟩ (by show 258 - (m + 1) < 258 - m; clear next1 last1; omega) [] ro)))))) (fun p2=>have p2f:=av p2; (.val 7 (zN m) (zN (same b i j 258)) (by (exact aO (yn hs bz))) (Hn.last last1 0 (():Unit) rfl [] ro)))))))))))))))))) (fun p1=>have p1f:=bb p1; (.s 26 (.val 7 (zN m) (zN (same b i j 258)) (by (exact aO (uC hs hn bz))) (Hn.last last1 0 (():Unit) rfl [] ro))))))))) (fun p0=>have p0f:=bb p0; (.s 40 (.val 7 (zN m) (zN (same b i j 258)) (by (exact aO (uD hs hm bz))) (Hn.last last1 0 (():Unit) rfl [] ro))))))) (fun | ⟨m,hm,hi2,hs,_⟩=>by kernel_rfl) ⟨(0),om,om,(by (simp only [N2,Mw,OH]; done)),⟨⟩⟩ [] ro (bZ (fun | ()=>(.s 2 (.out [] [] (zN (same b i j 258)) [] R (ok _ _ wr wr)))))))) (by kernel_rfl)
theorem longX (b:List UInt8) (n:Nat) (x y:Int) (hn:n = b.length) (hN:n ≤ 1000000) (hx:x ≤ n) (hy:0 ≤ y) (hxy:y < x):SpecH false Tryz.prog 155 [.sl false n 1 (b.map dB),iD x,iD y] [] (iD (same b x.toNat y.toNat 258:Nat)) []:=by
 obtain ⟨i,rfl⟩:=M2 (show 0 ≤ x by omega)
 obtain ⟨j,rfl⟩:=M2 hy
 exact long b n i j hn hN (by omega) (by omega)
theorem SameX (b:List UInt8) (n:Nat) (x y:Int) (hn:n = b.length) (hN:n ≤ 1000000) (hx:x ≤ n) (hy:0 ≤ y) (hxy:y < x):SpecH false Tryz.prog 128 [.sl false n 1 (b.map dB),iD x,iD y] [] (iD (same b x.toNat y.toNat 258:Nat)) []:=by
 obtain ⟨i,rfl⟩:=M2 (show 0 ≤ x by omega)
 obtain ⟨j,rfl⟩:=M2 hy
 exact KS b n i j hn hN (by omega) (by omega)
end Vm
end Go.Proofs.YtefjnofhgkjpmaaGreat

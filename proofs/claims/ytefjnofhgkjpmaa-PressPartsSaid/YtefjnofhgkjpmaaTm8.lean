/- Part 8. -/
import Derived.Test.YtefjnofhgkjpmaaTm7
import Derived.Test.YtefjnofhgkjpmaaTm5
import Derived.Test.YtefjnofhgkjpmaaTm6
set_option linter.unusedVariables false
set_option linter.unusedSimpArgs false
set_option maxRecDepth 100000
set_option maxHeartbeats 4000000
open And renaming intro → KI
open Bool renaming and_true → K2, true_and → KX
open ByteArray renaming mk → Lp, toList → K0
open Eq renaming trans → NY
open Go.Fn renaming func → K9
open Go.IntKind renaming wrap → KP
open Go.LoopState renaming busy → Nv, ready → MK
open Inhabited renaming default → i4
open Int renaming eq_ofNat_of_zero_le → Lo, toNat → un
open List renaming append_assoc → KS, append_nil → Lk, cons_append → Mr, count_append → Oi, count_singleton → N0, drop → K8, drop_append_of_le_length → Mh, drop_left' → OI, drop_zero → Ma, eq_nil_of_length_eq_zero → KT, eq_replicate_iff → M8, filter_append → LD, filter_cons_of_neg → L8, filter_cons_of_pos → L7, flatMap_append → Mb, flatMap_singleton → MH, getD → ON, getElem_mem → Ld, length_append → Kw, length_cons → KU, length_drop → KQ, length_map → KH, length_range → LG, length_replicate → K1, length_set → Mz, length_singleton → Lg, length_take → KC, length_take_of_le → Lj, map_append → Lh, map_replicate → L4, map_take → Nh, mem_cons_of_mem → KM, mem_cons_self → KO, mem_filter → MY, mem_range → NR, not_mem_nil → MD, range → Lf, range_succ → MJ, replicate → KJ, take → K7, take_append → Oo, take_append_of_le_length → LW, take_left' → OH, take_length → LF, take_of_length_le → KZ, take_succ_cons → N3, take_succ_eq_append_getElem → K4, toArray → LC
open Nat renaming add_assoc → LK, add_mul → Lr, add_sub_cancel → Me, add_sub_cancel_left → ME, add_zero → MG, beq → Kv, beq_refl → Ly, ble → Kx, ble_eq_true_of_le → KA, le_refl → KG, le_trans → KK, lt_irrefl → Nf, lt_or_ge → K3, lt_succ_self → NI, mod_one → Ou, mul_add → Mo, mul_assoc → LH, mul_comm → L0, mul_le_mul_right → Lc, mul_one → KW, not_lt_zero → LJ, pow_add → NZ, pow_succ → LP, sub_mul → Ot, sub_self → LL, sub_zero → Ns, succ_le_succ → Mq, succ_ne_zero → Ms, two_pow_pos → LZ, zero_add → KV, zero_le → Li, zero_mul → LQ
open UInt8 renaming ofNat → Lu, toNat → Ku, toNat_add → OG
namespace Go.Proofs.Ytefjnofhgkjpmaa
open Go.RowKit Go.Bw Go.Vx
open List (length getD map take drop flatMap replicate)
namespace Vp
theorem ql {p:Prop} (h:p:=by repeat' first | exact (fun _=>qm _ _ _) | exact trivial | exact rfl | exact (fun _=>de _) | exact (fun _=>by assumption) | exact (fun _=>bF _ (fun _=>rfl) _) | exact (fun _=>dN (fun _=>rfl) _) | (intro h; cases h; done) | (intro _; rfl) | (intro _; exact ct _ (bF _ (fun _=>rfl) _)) | exact i5 _ (bF _ (fun _=>rfl) _) | refine KI ?_ ?_ | refine fJ ?_ ?_ | (intro _; refine cP ?_ ?_) | refine cP ?_ ?_ | (intro _; refine gg ?_ ?_) | exact ct _ (bF _ (fun _=>rfl) _) | exact bF _ (fun _=>rfl) _):p:=h
theorem D4 {p:Prop} (h:p:=by (refine aJ ?_; (omega))):p:=h
theorem D5 {p:Prop} (h:p:=by ( have z:=hT.i.nextk om (((k:Int) - 1).toNat) om; have z2:=hT.l; have z3:=b8 ws (((k:Int) - 1).toNat); have z4:(take n (ak ws ((k:Int) - 1).toNat)).length = n:=Lj z.1; omega)):p:=h
theorem G3 {p:Prop} (h:p:=by ( have z:=hT.i.nextk om (((k:Int) - 1).toNat) om; have z2:=hT.l; have z3:=b8 ws (((k:Int) - 1).toNat); have z4:(take n (ak ws ((k:Int) - 1).toNat)).length = n:=Lj z.1; simp [aS,b9,aM]; omega)):p:=h
theorem Ke {p:Prop} (h:p:=by (rw [iL]; simp only [KX]; refine KA ?_; (omega))):p:=h
theorem Kf {p:Prop} (h:p:=by show n - (j + 1) < n - j; clear next2 last2 next1 last1; omega):p:=h
theorem Kg {p:Prop} (h:p:=by (refine decide_eq_true ?_;  have z:=hT.i.nextk om (((k:Int) - 1).toNat) om; have z2:=hT.l; have z3:=b8 ws (((k:Int) - 1).toNat); have z4:(take n (ak ws ((k:Int) - 1).toNat)).length = n:=Lj z.1; have h9:=hA.at (t:=0 + j * 1) om; have h8:=cn o S j; omega)):p:=h
theorem oo (W:List Nat) (L:Nat) (hL:L = W.length) (hL2:L ≤ 320) (hB:∀ t,W.getD t i4 ≤ 1073741824) (m:Nat) (hm:1 ≤ m ∧ m ≤ 15) (S:List Nat) (hS:eN W = S) (N:Nat) (hN:N = S.length) (hNm:N ≤ 2 ^ m):SpecH false Try.prog 100 [.sl false L 1 (W.map nD),nD m] [] (.tup [.ref 0 0 0 N 1,iD 0]) [⟨S.map nD, 3, true⟩]:=by
 subst hS
 have hp:=(dF W).length_eq
 have hN2:N = (et W L).length:=by rw [hN,hp,hL]
 obtain ⟨T1,hE⟩:=Dy hL (X:=et W L) rfl hN2
 exact zi W L hL hL2 hB m hm N hN2 _ T1 rfl hE hNm hE.o hE.t1 hE.o1 hE.t
abbrev zn (T:List Pc):D:=.sl false T.length 2 (T.flatMap cm)
theorem wW (T:List Pc):(T.flatMap cm).length = T.length * 2:=by rw [ba (k:=2) (fun _=>rfl)]
theorem G4 (ws:List Nat) (n:Nat) (hn:n = ws.length) (hn2:n ≤ 320) (hB:∀ w ∈ ws,w ≤ 1073741824) (j:Nat) (hj:j ≤ 14) (r:Nat) (hr:r = (ak ws j).length):SpecH false Try.prog 101 [.sl false r 2 ((ak ws j).flatMap cm),.sl false n 1 (ws.map nD)] [] (zn (ak ws (j + 1))) []:=by
 have h:=b8 ws j
 refine SpecH.frz (GY (ak ws j) r hr (by omega) 100000000000000 (by decide) (zk hB (by omega)) ws n hn (by omega) (ak ws (j + 1)) (lq ws j)) (wW _) (by decide) (dN (fun _=>rfl) _)
theorem G5 (ws:List Nat) (n:Nat) (hn:n = ws.length) (hn2:n ≤ 320):SpecH false Try.prog 101 [cM,.sl false n 1 (ws.map nD)] [] (zn (ak ws 0)) [] :=
 SpecH.frz (GZ ws n hn (by omega) _ (oj ws)) (wW _) (by decide) (dN (fun _=>rfl) _)
def gw (ws:List Nat) (k m:Nat):List D:=lk ws ((Lf m).map fun j=>if j < k then zn (ak ws j) else cM)
theorem rR (ws:List Nat) (k m:Nat):gw ws k m = (Lf m).map fun j=>if j < k then zn (ak ws j) else cM:=aA _ _
theorem iL (ws:List Nat) (k m:Nat):(gw ws k m).length = m:=by rw [rR,KH,LG]
theorem qm (ws:List Nat) (k m:Nat):aa (gw ws k m) = true:=by
 rw [aV,rR]
 intro d hd
 obtain ⟨j,_,rfl⟩:=List.mem_map.1 hd
 split <;> rfl
theorem tq {ws:List Nat} {k m j:Nat} (hj:j < m):(gw ws k m)[j]? = some (if j < k then zn (ak ws j) else cM):=by
 rw [rR,List.getElem?_map,List.getElem?_range hj]; rfl
theorem wX (ws:List Nat) {k m j:Nat} (h:j < k) (hj:j < m):(gw ws k m)[0 + j * 1]? = some (zn (ak ws j)):=by
 rw [KV,KW,tq hj,if_pos h]
theorem wY {ws:List Nat} {k m o i:Nat} (hk:k < m) (ho:o = k) (hi:i = k):af (gw ws k m) o [zn (ak ws i)] = gw ws (k + 1) m:=by
 subst o i
 apply List.ext_getElem?
 intro t
 rw [cd (by rw [iL]; simp only [Lg]; omega)]
 simp only [Lg]
 rcases K3 t m with q | q
 ·rw [tq q,tq q]
  by_cases e:t = k
  ·subst e; rw [if_pos (by omega),LL,if_pos (by omega)]; rfl
  ·rw [if_neg (by omega)]
   by_cases z:t < k
   ·rw [if_pos z,if_pos (by omega)]
   ·rw [if_neg z,if_neg (by omega)]
 ·rw [if_neg (by omega),List.getElem?_eq_none (by rw [iL]; exact q),List.getElem?_eq_none (by rw [iL]; exact q)]
theorem Jn (ws:List Nat) (m:Nat):KJ m cM = gw ws 0 m:=by
 apply List.ext_getElem?
 intro t
 rw [List.getElem?_replicate]
 rcases K3 t m with q | q
 ·rw [if_pos q,tq q,if_neg (LJ t)]
 ·rw [if_neg (by omega),List.getElem?_eq_none (by rw [iL]; exact q)]
theorem BL (d:D) (m:Nat):co [d] (m * 1) = KJ m d:=by
 rw [KW]
 apply List.ext_getElem?
 intro i
 unfold co
 rw [List.getElem?_map,List.getElem?_replicate]
 rcases K3 i m with q | q
 ·rw [List.getElem?_range q,if_pos q]
  show some (ON [d] (i % 1) i4) = _
  rw [Ou]; rfl
 ·rw [List.getElem?_eq_none (by simpa using q),if_neg (by omega)]; rfl
theorem BM {t:TypeId} {a b:Int} (h:a = b):(⟨[D.v (.int .i64 a)],t,false⟩:Blk) = ⟨[D.v (.int .i64 b)],t,false⟩:=by rw [h]
theorem tu (L:Nat):co [D.v (.int .u8 0)] (L * 1) = (KJ L (0:UInt8)).map dB:=by rw [BL,L4]; rfl
theorem LnI.nextk {ws:List Nat} {k n:Nat} (h:LnI ws k n) (hk:0 < k) (i:Nat) (hi:i = k - 1):n ≤ (ak ws i).length ∧ cw (ak ws i) n ≤ n ∧ n - cw (ak ws i) n ≤ ws.length:=by
 subst hi
 have q:=LnI.next (k:=k - 1) (n:=n) (by rw [show k - 1 + 1 = k from by omega]; exact h)
 exact ⟨q.1,q.2.1,q.2.2.1⟩
structure LnT (ws S:List Nat) (L k n:Nat) (o T:List UInt8):Prop where
 i:LnI ws k n
 l:o.length = L
 r:zm ws S k n o = T
theorem LnT.next {ws S:List Nat} {L k n:Nat} {o T:List UInt8} (h:LnT ws S L k n o T) (hk:0 < k):LnT ws S L (k - 1) (2 * cw (ak ws (k - 1)) n) (bW o S (n - cw (ak ws (k - 1)) n)) T:=by
 obtain ⟨j,rfl⟩:∃ j,k = j + 1:=⟨k - 1,by omega⟩
 exact ⟨(LnI.next h.i).2.2.2,by rw [cn]; exact h.l,h.r⟩
theorem LnT.next' {ws S:List Nat} {L k n:Nat} {o T:List UInt8} (h:LnT ws S L k n o T) (hk:0 < k) (i:Nat) (hi:i = k - 1):LnT ws S L (k - 1) (2 * cw (ak ws i) n) (bW o S (n - cw (ak ws i) n)) T:=by
 subst hi; exact h.next hk
theorem BN {l:List Pc} {n j:Nat} (h:j < n):(l.take n).getD j i4 = l.getD j i4:=by
 rw [List.getD_eq_getElem?_getD,List.getD_eq_getElem?_getD,List.getElem?_take,if_pos h]
theorem G6 {row:List Pc} {n j:Nat} (hj:j < n) (hn:n ≤ row.length) (h:((row.take n).getD j i4).p = true):cw row (j + 1) = cw row j + 1:=by
 rw [BN hj] at h; rw [BH (by omega),h]; rfl
theorem G7 {row:List Pc} {n j:Nat} (hj:j < n) (hn:n ≤ row.length) (h:((row.take n).getD j i4).p = false):cw row (j + 1) = cw row j:=by
 rw [BN hj] at h; rw [BH (by omega),h]; rfl
theorem mY {n N:Nat} {x:Int} (h:x = n) (h2:n ≤ N):(aS none (some x) none N && true) = true:=by
 subst h; simp [aS,b9,aM]; omega
theorem G8 {o:List UInt8} {S:List Nat} {j a i:Nat} (hj:j < S.length) (ha:a = S.getD j i4) (hi:i = S.getD j i4) (hl:S.getD j i4 < o.length):af ((bW o S j).map dB) a [D.v (.int .u8 ((((((bW o S j).getD i i4).toNat:Nat):Int) + 1) % 256))] = (bW o S (j + 1)).map dB:=by
 subst ha hi
 have e:(((((bW o S j).getD (S.getD j i4) i4).toNat:Nat):Int) + 1) % 256 = ((((bW o S j).getD (S.getD j i4) i4 + 1).toNat:Nat):Int):=by
  rw [OG]; show _ = (((_ + 1) % 256:Nat):Int); omega
 rw [e,rQ hj]
 generalize (bW o S j).getD (S.getD j i4) i4 + 1 = v
 apply List.ext_getElem?
 intro t
 rw [cd (by simp only [KH,Lg,cn]; omega),List.getElem?_map,List.getElem?_map,List.getElem?_set,cn]
 simp only [Lg]
 by_cases q:S.getD j i4 = t
 ·rw [← q,if_pos (by omega),if_pos rfl,if_pos hl,LL]; rfl
 ·rw [if_neg (by omega),if_neg q]
theorem LnT.last {ws S:List Nat} {L k n:Nat} {o T:List UInt8} (h:LnT ws S L k n o T) (hk:k = 0):o = T:=by subst hk; exact h.r
theorem G9 (W:List Nat) (L:Nat) (hL:L = W.length) (hL2:L ≤ 320) (hB:∀ t,W.getD t i4 ≤ 1073741824) (m:Nat) (hm:1 ≤ m ∧ m ≤ 15) (S:List Nat) (hS:eN W = S) (N:Nat) (hN:N = S.length) (hNm:N ≤ 2 ^ m) (hA:bh L S) (hN3:N ≤ 320) (h2:2 ≤ N) (ws:List Nat) (hw:oh W S N = ws) (hwl:ws.length = N) (hwb:∀ w ∈ ws,w ≤ 1073741824) (T:List UInt8) (hI:LnT ws S L m (2 * N - 2) (KJ L 0) T):SpecH false Try.prog 76 [.sl false L 1 (W.map nD),nD m] [] (.tup [.ref 0 0 0 L 1,iD 0]) [⟨T.map dB, 5, true⟩]:=by
 have hcl0:=qm ws 0 m
 have hclm:=qm ws m m
 refine SpecH.run T_ok ag Try.func76 rfl rfl rfl ⟨bf _,trivial⟩ rfl 1000 64 (fun R ok=>(.s 5 (.cl 100 false [] (.fn CN (@oo (W) (L) om om om (m) om (S) bk (N) bk om)) (.s 18 (.chk (true && decide ((L:Int) ≤ (L:Int)) && true && true && true && true && decide ((↑(TI.bytes yF):Int) * (L:Int) ≤ 140737488355328)) (by (have h9:((yF.bytes:Nat):Int) = 1:=rfl; rw [h9]; simp; omega)) (.s 11 (.f ((N:Int) == 1) (by (refine decide_eq_false ?_; (omega))) (.s 6 (.f (decide ((N:Int) < 2)) (by (refine decide_eq_false ?_; (omega))) (.s 6 (.nils 9 224 1 3 (.blk 120 120 (Blk.mk (co [bI 0] (L * 1)) 5 true) (Blk.mk (map dB (replicate L 0)) 5 true) (by (refine au ?_; rw [tu])) (.blk 224 224 (Blk.mk [] 3 true) (Blk.mk (map nD (oh W S 0)) 3 true) (by (rw [G0]; rfl)) (Hn.inl T_ok ag false 126 0 (aq Try.prog 76 0) (fun (x:(k:Nat) ×' (hk:k ≤ N) ×' Unit)=>match x with | ⟨k,hk,_⟩=>CutS.mk [(0,D.sl false L 1 (map nD W)),(1,zN m),(4,zS),(5,zI 0),(6,D.ptr 8 8 0),(8,D.ptr 24 24 0),(9,(D.ref 32 32 (0) (k) 1)),(46,D.ref 0 0 0 N 1),(47,zN N),(48,nD k)] [⟨0,0,32,32,.b ⟨map nD S,3,true⟩⟩,⟨8,8,64,64,.b ⟨[D.ref 0 0 0 N 1],41,false⟩⟩,⟨16,16,120,120,.b ⟨(replicate L (0:UInt8)).map dB,5,true⟩⟩,⟨24,24,128,128,.b ⟨[D.ref 16 16 0 L 1],24,false⟩⟩,⟨32,32,224,224,.b ⟨(oh W S k).map nD,3,true⟩⟩] 40) (fun (x:(k:Nat) ×' (hk:k ≤ N) ×' Unit)=>match x with | ⟨k,hk,_⟩=>N - k) [⟨Unit,.exit 0,fun x=>match x with | ()=>CutS.mk [(0,D.sl false L 1 (map nD W)),(1,zN m),(4,zS),(5,zI 0),(6,D.ptr 8 8 0),(8,D.ptr 24 24 0),(9,(D.ref 32 32 (0) (N) 1)),(46,D.ref 0 0 0 N 1),(47,zN N)] [⟨0,0,32,32,.b ⟨map nD S,3,true⟩⟩,⟨8,8,64,64,.b ⟨[D.ref 0 0 0 N 1],41,false⟩⟩,⟨16,16,120,120,.b ⟨(replicate L (0:UInt8)).map dB,5,true⟩⟩,⟨24,24,128,128,.b ⟨[D.ref 16 16 0 L 1],24,false⟩⟩,⟨32,32,224,224,.b ⟨ws.map nD,3,true⟩⟩] 40⟩] 1000 64 (fun | ⟨k,hk,_⟩,Q,next1,last1=>(.s 2 (.br (decide ((k:Int) < (N:Int))) (fun p0=>have p0f:=aN p0; (.s 1 (.chk (true && decide ((k:Int) < (N:Int))) bk (.s 2 (.opt ((map nD S)[0 + k * 1]?) (nD (getD S (0 + k * 1) i4)) (ao _ _ om) (.s 5 (.chk (true && decide ((↑(getD S (0 + k * 1) i4):Int) < (L:Int)) && true) (by ((refine aF ?_ ?_) <;> (repeat' (first | (refine aF ?_ ?_) | (with_reducible rfl) | (refine decide_eq_true ?_) | (refine KA ?_) | (refine er ?_))) <;> ( have h9:=hA.at (t:=0 + k * 1) om; omega))) (.s 2 (.opt ((map nD W)[getD S (0 + k * 1) i4 * 1]?) (nD (getD W (getD S (0 + k * 1) i4 * 1) i4)) (ao _ _ (by ( have h9:=hA.at (t:=0 + k * 1) om; omega))) (.s 3 (.chk (true && Kv (k * 1) (length (map nD (oh W S k))) && true && true && true && true && Kx ((k + 1) * 8) 140737488355328) (by (rw [KH,ka (by (omega))]; simp only [KW,Ly,KX,K2]; refine KA ?_; (omega))) (.s 3 (.ow ((k:Int) + 1) (.s 1 (.val 48 (zI ((k:Int) + 1)) (zN (k + 1)) D4 (.blk 120 120 (Blk.mk (map nD (oh W S k) ++ [zN (getD W (getD S (0 + k * 1) i4 * 1) i4)]) 3 true) (Blk.mk (map nD (oh W S (k + 1))) 3 true) (by ( refine au ?_; simp only [KV,KW]; rw [G1 om,Lh]; rfl)) (Hn.next next1 ⟨(k + 1),om,⟨⟩⟩ (by show N - (k + 1) < N - k; clear next1 last1; omega) [(0,0),(8,8),(16,16),(24,24),(120,120)] ql))))))))))))))))) (fun p0=>have p0f:=aO p0; (.val 9 (D.ref 32 32 0 k 1) (D.ref 32 32 0 N 1) (by (simp <;> (omega))) (.blk 32 32 (Blk.mk (map nD (oh W S k)) 3 true) (Blk.mk (map nD ws) 3 true) (by ( rw [show k = N from by omega,hw])) (Hn.last last1 0 (():Unit) rfl [(0,0),(8,8),(16,16),(24,24),(32,32)] ql))))))) (fun | ⟨k,hk,_⟩=>by kernel_rfl) ⟨(0),om,⟨⟩⟩ [(32,32),(64,64),(120,120),(128,128),(224,224)] ql (bX (fun | ()=>(.s 2 (.chk (true && decide ((m:Int) ≤ (m:Int)) && true && true && true && true && decide ((↑(TI.bytes sX):Int) * (m:Int) ≤ 140737488355328)) (by (have h9:((sX.bytes:Nat):Int) = 24:=rfl; rw [h9]; simp; omega)) (.s 4 (.blk 48 48 (Blk.mk (co [zS] (m * 1)) 187 true) (Blk.mk (gw ws 0 m) 187 true) (by (refine au ?_; rw [BL,Jn])) (Hn.inl T_ok ag false 126 0 (aq Try.prog 76 1) (fun (x:(k:Nat) ×' (hk:k ≤ m) ×' (hcl:aa (gw ws k m) = true) ×' Unit)=>match x with | ⟨k,hk,hcl,_⟩=>CutS.mk [(4,zS),(5,zI 0),(6,D.ptr 8 8 0),(8,D.ptr 24 24 0),(9,D.ref 32 32 0 N 1),(12,D.ref 40 40 0 m 1),(63,zN m),(64,nD k)] [⟨0,0,0,0,.b ⟨map nD S,3,true⟩⟩,⟨8,8,8,8,.b ⟨[D.ref 0 0 0 N 1],41,false⟩⟩,⟨16,16,16,16,.b ⟨map dB (replicate L 0),5,true⟩⟩,⟨24,24,24,24,.b ⟨[D.ref 16 16 0 L 1],24,false⟩⟩,⟨32,32,32,32,.b ⟨map nD ws,3,true⟩⟩,⟨40,40,48,48,.b ⟨gw ws k m,187,true⟩⟩] 48) (fun (x:(k:Nat) ×' (hk:k ≤ m) ×' (hcl:aa (gw ws k m) = true) ×' Unit)=>match x with | ⟨k,hk,hcl,_⟩=>m - k) [⟨(hcl2:aa (gw ws m m) = true) ×' Unit,.exit 2,fun x=>match x with | ⟨hcl2,_⟩=>CutS.mk [(4,zS),(5,zI 0),(6,D.ptr 8 8 0),(8,D.ptr 24 24 0),(9,D.ref 32 32 0 N 1),(12,D.ref 40 40 0 m 1),(63,zN m)] [⟨0,0,0,0,.b ⟨map nD S,3,true⟩⟩,⟨8,8,8,8,.b ⟨[D.ref 0 0 0 N 1],41,false⟩⟩,⟨16,16,16,16,.b ⟨map dB (replicate L 0),5,true⟩⟩,⟨24,24,24,24,.b ⟨[D.ref 16 16 0 L 1],24,false⟩⟩,⟨32,32,32,32,.b ⟨map nD ws,3,true⟩⟩,⟨40,40,48,48,.b ⟨gw ws m m,187,true⟩⟩] 48⟩] 1000 64 (fun | ⟨k,hk,hcl,_⟩,Q,next1,last1=>(.s 2 (.br (decide ((k:Int) < (m:Int))) (fun p1=>have p1f:=aN p1; (.s 5 (.br (decide (0 < (k:Int))) (fun p2=>have p2f:=aN p2; (.s 6 (.ow ((k:Int) - 1) (.s 1 (.chk (decide (0 ≤ (k:Int) - 1) && decide ((k:Int) - 1 < (m:Int))) (by ((refine aF ?_ ?_) <;> (repeat' (first | (refine aF ?_ ?_) | (with_reducible rfl) | (refine decide_eq_true ?_) | (refine KA ?_) | (refine er ?_))) <;> (omega))) (.s 2 (.opt ((gw ws k m)[0 + un ((k:Int) - 1) * 1]?) (zn (ak ws (un ((k:Int) - 1)))) (@wX ws (k) (m) (un ((k:Int) - 1)) om om) (.s 2 (.call 101 false [] (true && (true && (true && Kx (0 + N * 1) (length (map nD ws)) && true && aa (bif true && Kv (N * 1) (length (map nD ws)) then map nD ws else take (N * 1) (drop 0 (map nD ws)))) && true)) (by (simp <;> (omega))) ([D.sl false (length (ak ws (un ((k:Int) - 1)))) 2 (flatMap cm (ak ws (un ((k:Int) - 1)))),D.sl (Kx 1 N) N 1 (bif true && Kv (N * 1) (length (map nD ws)) then map nD ws else take (N * 1) (drop 0 (map nD ws)))]) _ (by exact (KI (D.sim.refl _) (KI (D.sim.slw rfl (aR (by (simp <;> (omega))) |>.trans rfl)) trivial))) (true) wr _ _ _ (CallOk.fn (ax.of Try.func101 rfl rfl) (@G4 (ws) (N) om om om (un ((k:Int) - 1)) om (length (ak ws (un ((k:Int) - 1)))) om)) (.s 1 (.chk (true && decide ((k:Int) < (m:Int))) bk (.s 1 (.chk (true && Kx (0 + k * 1 + 1) (length (gw ws k m))) Ke (.lst (af (gw ws k m) (0 + k * 1) [D.sl false (length (ak ws (un ((k:Int) - 1) + 1))) 2 (flatMap cm (ak ws (un ((k:Int) - 1) + 1)))]) (af (gw ws k m) k [D.sl false (length (ak ws (un ((k:Int) - 1) + 1))) 2 (flatMap cm (ak ws (un ((k:Int) - 1) + 1)))]) (by (simp; done)) (.s 2 (.ow ((k:Int) + 1) (.s 1 (.val 64 (zI ((k:Int) + 1)) (zN (k + 1)) D4 (.blk 40 40 (Blk.mk (af (gw ws k m) k [D.sl false (length (ak ws (un ((k:Int) - 1) + 1))) 2 (flatMap cm (ak ws (un ((k:Int) - 1) + 1)))]) 187 true) (Blk.mk (gw ws (k + 1) m) 187 true) (by ( exact au (wY om om om))) (Hn.next next1 ⟨(k + 1),om,(by (exact qm _ _ _)),⟨⟩⟩ (by show m - (k + 1) < m - k; clear next1 last1; omega) [(0,0),(8,8),(16,16),(24,24),(32,32),(40,40)] ql)))))))))))))))))))) (fun p2=>have p2f:=aO p2; (.s 4 (.call 101 false [] (true && (true && (true && Kx (0 + N * 1) (length (map nD ws)) && true && aa (bif true && Kv (N * 1) (length (map nD ws)) then map nD ws else take (N * 1) (drop 0 (map nD ws)))) && true)) (by (simp;  have h9:=hA.at (t:=0 + k * 1) om; omega)) ([zS,D.sl (Kx 1 N) N 1 (bif true && Kv (N * 1) (length (map nD ws)) then map nD ws else take (N * 1) (drop 0 (map nD ws)))]) _ (by exact (KI (D.sim.refl _) (KI (D.sim.slw rfl (aR (by (simp;  have h9:=hA.at (t:=0 + k * 1) om; omega)) |>.trans rfl)) trivial))) (true) wr _ _ _ (CallOk.fn (ax.of Try.func101 rfl rfl) (@G5 (ws) (N) om om)) (.s 1 (.chk (true && decide ((k:Int) < (m:Int))) bk (.s 1 (.chk (true && Kx (0 + k * 1 + 1) (length (gw ws k m))) Ke (.lst (af (gw ws k m) (0 + k * 1) [D.sl false (length (ak ws 0)) 2 (flatMap cm (ak ws 0))]) (af (gw ws k m) k [D.sl false (length (ak ws 0)) 2 (flatMap cm (ak ws 0))]) (by (simp; done)) (.s 2 (.ow ((k:Int) + 1) (.s 1 (.val 64 (zI ((k:Int) + 1)) (zN (k + 1)) D4 (.blk 40 40 (Blk.mk (af (gw ws k m) k [D.sl false (length (ak ws 0)) 2 (flatMap cm (ak ws 0))]) 187 true) (Blk.mk (gw ws (k + 1) m) 187 true) (by ( exact au (wY om om om))) (Hn.next next1 ⟨(k + 1),om,(by (exact qm _ _ _)),⟨⟩⟩ (by show m - (k + 1) < m - k; clear next1 last1; omega) [(0,0),(8,8),(16,16),(24,24),(32,32),(40,40)] ql))))))))))))))))) (fun p1=>have p1f:=aO p1; (.blk 40 40 (Blk.mk (gw ws k m) 187 true) (Blk.mk (gw ws m m) 187 true) (by ( rw [show k = m from by omega])) (Hn.last last1 0 (⟨om,⟨⟩⟩:(hcl2:aa (gw ws m m) = true) ×' Unit) rfl [(0,0),(8,8),(16,16),(24,24),(32,32),(40,40)] ql)))))) (fun | ⟨k,hk,hcl,_⟩=>by kernel_rfl) ⟨(0),om,om,⟨⟩⟩ [(0,0),(8,8),(16,16),(24,24),(32,32),(48,48)] ql (bX (fun | ⟨hcl2,_⟩=>(.s 6 (.ow (2 * (N:Int)) (.s 2 (.ow (2 * (N:Int) - 2) (.s 19 (.ow ((m:Int) - 1) (.s 1 (.blk 80 80 (Blk.mk [zI (2 * (N:Int) - 2)] 3 false) (Blk.mk [zN (2 * N - 2)] 3 false) (by ( exact BM om)) (Hn.inl T_ok ag false 19 168 (aq Try.prog 123 0) (fun (x:(k:Nat) ×' (n:Nat) ×' (o:List UInt8) ×' (hk:k ≤ m) ×' (hT:LnT ws S L k n o T) ×' Unit)=>match x with | ⟨k,n,o,hk,hT,_⟩=>CutS.mk [(0,D.yl 160 160),(1,D.ptr 112 112 0),(3,iD ((k:Int) - 1))] [⟨0,0,0,0,.b ⟨map nD S,3,true⟩⟩,⟨8,8,8,8,.b ⟨[D.ref 0 0 0 N 1],41,false⟩⟩,⟨16,16,16,16,.b ⟨o.map dB,5,true⟩⟩,⟨24,24,24,24,.b ⟨[D.ref 16 16 0 L 1],24,false⟩⟩,⟨32,32,32,32,.b ⟨map nD ws,3,true⟩⟩,⟨40,40,40,40,.b ⟨gw ws m m,187,true⟩⟩,⟨80,80,80,80,.b ⟨[nD n],3,false⟩⟩,⟨112,112,112,112,.b ⟨[D.ref 40 40 0 m 1],186,false⟩⟩,⟨160,160,160,160,.l MK none (rangeAt Try.prog 76 0).1 (rangeAt Try.prog 76 0).2.1 (rangeAt Try.prog 76 0).2.2 126 [(63,zN m),(87,zI (2 * (N:Int))),(5,zI 0),(9,D.ref 32 32 0 N 1),(89,D.ref 40 40 0 m 1),(85,D.ref 0 0 0 N 1),(4,zS),(8,D.ptr 24 24 0),(88,zI (2 * (N:Int) - 2)),(12,D.ref 40 40 0 m 1),(6,D.ptr 8 8 0),(90,D.fn (K9 123) [] [D.ptr 112 112 0]),(14,D.ptr 80 80 0),(86,zN N)]⟩] 240) (fun (x:(k:Nat) ×' (n:Nat) ×' (o:List UInt8) ×' (hk:k ≤ m) ×' (hT:LnT ws S L k n o T) ×' Unit)=>match x with | ⟨k,n,o,hk,hT,_⟩=>k) [⟨(n2:Nat) ×' Unit,.exit 0,fun x=>match x with | ⟨n2,_⟩=>CutS.mk [(0,D.yl 160 160),(1,D.ptr 112 112 0)] [⟨0,0,0,0,.b ⟨map nD S,3,true⟩⟩,⟨8,8,8,8,.b ⟨[D.ref 0 0 0 N 1],41,false⟩⟩,⟨16,16,16,16,.b ⟨T.map dB,5,true⟩⟩,⟨24,24,24,24,.b ⟨[D.ref 16 16 0 L 1],24,false⟩⟩,⟨32,32,32,32,.b ⟨map nD ws,3,true⟩⟩,⟨40,40,40,40,.b ⟨gw ws m m,187,true⟩⟩,⟨80,80,80,80,.b ⟨[nD n2],3,false⟩⟩,⟨112,112,112,112,.b ⟨[D.ref 40 40 0 m 1],186,false⟩⟩,⟨160,160,160,160,.l MK none (rangeAt Try.prog 76 0).1 (rangeAt Try.prog 76 0).2.1 (rangeAt Try.prog 76 0).2.2 126 [(63,zN m),(87,zI (2 * (N:Int))),(5,zI 0),(9,D.ref 32 32 0 N 1),(89,D.ref 40 40 0 m 1),(85,D.ref 0 0 0 N 1),(4,zS),(8,D.ptr 24 24 0),(88,zI (2 * (N:Int) - 2)),(12,D.ref 40 40 0 m 1),(6,D.ptr 8 8 0),(90,D.fn (K9 123) [] [D.ptr 112 112 0]),(14,D.ptr 80 80 0),(86,zN N)]⟩] 240⟩] 1000 64 (fun | ⟨k,n,o,hk,hT,_⟩,Q,next1,last1=>(.s 3 (.br (decide (0 ≤ (k:Int) - 1)) (fun p3=>have p3f:=aN p3; (.s 7 (.chk (decide (0 ≤ (k:Int) - 1) && decide ((k:Int) - 1 < (m:Int))) G3 (.s 2 (.opt ((gw ws m m)[0 + un ((k:Int) - 1) * 1]?) (zn (ak ws (un ((k:Int) - 1)))) (@wX ws (m) (m) (un ((k:Int) - 1)) om om) (.s 8 (.chk (aS none (some (n:Int)) none (length (ak ws (un ((k:Int) - 1)))) && true) (by ( have z:=hT.i.nextk om (((k:Int) - 1).toNat) om; have z2:=hT.l; have z3:=b8 ws (((k:Int) - 1).toNat); have z4:(take n (ak ws ((k:Int) - 1).toNat)).length = n:=Lj z.1; exact mY rfl om)) (.s 2 (.val 17 (zI 0) (zN (cw (ak ws (un ((k:Int) - 1))) 0)) (by (rw [G2]; rfl)) (.val 95 (D.sl false n 2 (take (n * 2) (flatMap cm (ak ws (un ((k:Int) - 1)))))) (D.sl false n 2 (flatMap cm (take n (ak ws (un ((k:Int) - 1)))))) (by (refine congrArg (D.sl false n 2) ?_; refine sV ?_ _ _; exact fun _=>rfl)) (Hn.inl T_ok ag true 126 312 (aq Try.prog 76 2) (fun (x:(j:Nat) ×' (hj:j ≤ n) ×' Unit)=>match x with | ⟨j,hj,_⟩=>CutS.mk [(4,zS),(5,zI 0),(6,D.ptr 8 8 0),(8,D.ptr 24 24 0),(14,D.ptr 80 80 0),(16,D.sl false (length (ak ws (un ((k:Int) - 1)))) 2 (flatMap cm (ak ws (un ((k:Int) - 1))))),(17,nD (cw (ak ws ((k:Int) - 1).toNat) j)),(90,D.fn (K9 123) [] [D.ptr 112 112 0]),(92,D.sl false (length (ak ws (un ((k:Int) - 1)))) 2 (flatMap cm (ak ws (un ((k:Int) - 1))))),(93,D.sl false (length (ak ws (un ((k:Int) - 1)))) 2 (flatMap cm (ak ws (un ((k:Int) - 1))))),(94,zN n),(95,.sl false n 2 ((take n (ak ws ((k:Int) - 1).toNat)).flatMap cm)),(96,zN n),(97,nD j)] [⟨0,0,0,0,.b ⟨map nD S,3,true⟩⟩,⟨8,8,8,8,.b ⟨[D.ref 0 0 0 N 1],41,false⟩⟩,⟨16,16,16,16,.b ⟨map dB o,5,true⟩⟩,⟨24,24,24,24,.b ⟨[D.ref 16 16 0 L 1],24,false⟩⟩,⟨32,32,32,32,.b ⟨map nD ws,3,true⟩⟩,⟨40,40,40,40,.b ⟨gw ws m m,187,true⟩⟩,⟨80,80,80,80,.b ⟨[zN n],3,false⟩⟩,⟨112,112,112,112,.b ⟨[D.ref 40 40 0 m 1],186,false⟩⟩,⟨160,160,160,160,.l Nv none (rangeAt Try.prog 76 0).1 (rangeAt Try.prog 76 0).2.1 (rangeAt Try.prog 76 0).2.2 126 [(63,zN m),(87,zI (2 * (N:Int))),(5,zI 0),(9,D.ref 32 32 0 N 1),(89,D.ref 40 40 0 m 1),(85,D.ref 0 0 0 N 1),(4,zS),(8,D.ptr 24 24 0),(88,zI (2 * (N:Int) - 2)),(12,D.ref 40 40 0 m 1),(6,D.ptr 8 8 0),(90,D.fn (K9 123) [] [D.ptr 112 112 0]),(14,D.ptr 80 80 0),(86,zN N)]⟩] 384) (fun (x:(j:Nat) ×' (hj:j ≤ n) ×' Unit)=>match x with | ⟨j,hj,_⟩=>n - j) [⟨Unit,.exit 6,fun x=>match x with | ()=>CutS.mk [(4,zS),(5,zI 0),(6,D.ptr 8 8 0),(8,D.ptr 24 24 0),(14,D.ptr 80 80 0),(16,D.sl false (length (ak ws (un ((k:Int) - 1)))) 2 (flatMap cm (ak ws (un ((k:Int) - 1))))),(17,nD (cw (ak ws ((k:Int) - 1).toNat) n)),(90,D.fn (K9 123) [] [D.ptr 112 112 0]),(92,D.sl false (length (ak ws (un ((k:Int) - 1)))) 2 (flatMap cm (ak ws (un ((k:Int) - 1))))),(93,D.sl false (length (ak ws (un ((k:Int) - 1)))) 2 (flatMap cm (ak ws (un ((k:Int) - 1))))),(94,zN n),(96,zN n),(97,nD n)] [⟨0,0,0,0,.b ⟨map nD S,3,true⟩⟩,⟨8,8,8,8,.b ⟨[D.ref 0 0 0 N 1],41,false⟩⟩,⟨16,16,16,16,.b ⟨map dB o,5,true⟩⟩,⟨24,24,24,24,.b ⟨[D.ref 16 16 0 L 1],24,false⟩⟩,⟨32,32,32,32,.b ⟨map nD ws,3,true⟩⟩,⟨40,40,40,40,.b ⟨gw ws m m,187,true⟩⟩,⟨80,80,80,80,.b ⟨[zN n],3,false⟩⟩,⟨112,112,112,112,.b ⟨[D.ref 40 40 0 m 1],186,false⟩⟩,⟨160,160,160,160,.l Nv none (rangeAt Try.prog 76 0).1 (rangeAt Try.prog 76 0).2.1 (rangeAt Try.prog 76 0).2.2 126 [(63,zN m),(87,zI (2 * (N:Int))),(5,zI 0),(9,D.ref 32 32 0 N 1),(89,D.ref 40 40 0 m 1),(85,D.ref 0 0 0 N 1),(4,zS),(8,D.ptr 24 24 0),(88,zI (2 * (N:Int) - 2)),(12,D.ref 40 40 0 m 1),(6,D.ptr 8 8 0),(90,D.fn (K9 123) [] [D.ptr 112 112 0]),(14,D.ptr 80 80 0),(86,zN N)]⟩] 384⟩] 1000 64 (fun | ⟨j,hj,_⟩,Q,next2,last2=>(.s 2 (.br (decide ((j:Int) < (n:Int))) (fun p4=>have p4f:=aN p4; (.s 1 (.chk (true && decide ((j:Int) < (n:Int)) && true) G3 (.s 2 (.chk (Kx (j * 2 + 2) (length (flatMap cm (take n (ak ws (un ((k:Int) - 1))))))) (by (rw [ba (k:=2) (fun (x:Pc)=>(rfl:(cm x).length = 2)),KC]; refine KA ?_;  have z:=hT.i.nextk om (((k:Int) - 1).toNat) om; have z2:=hT.l; have z3:=b8 ws (((k:Int) - 1).toNat); have z4:(take n (ak ws ((k:Int) - 1).toNat)).length = n:=Lj z.1; omega)) (.lst (take 2 (drop (j * 2) (flatMap cm (take n (ak ws (un ((k:Int) - 1))))))) ([zN (Pc.w (getD (take n (ak ws (un ((k:Int) - 1)))) j i4)),D.v (.bool (Pc.p (getD (take n (ak ws (un ((k:Int) - 1)))) j i4)))]) (av (k:=2) (i:=j) (fun _=>rfl) D5 om) (.s 11 (.br (Pc.p (getD (take n (ak ws (un ((k:Int) - 1)))) j i4)) (fun p5=>(.s 3 (.op ((↑(cw (ak ws (un ((k:Int) - 1))) j):Int) + 1) (by ( have z:=hT.i.nextk om (((k:Int) - 1).toNat) om; have z2:=hT.l; have z3:=b8 ws (((k:Int) - 1).toNat); have z4:(take n (ak ws ((k:Int) - 1).toNat)).length = n:=Lj z.1; have h7:=wS (ak ws ((k:Int) - 1).toNat) j; omega)) (.s 3 (.op ((j:Int) + 1) D5 (.s 1 (.val 17 (zI ((↑(cw (ak ws (un ((k:Int) - 1))) j):Int) + 1)) (zN (cw (ak ws (un ((k:Int) - 1))) (j + 1))) (by ( have z:=hT.i.nextk om (((k:Int) - 1).toNat) om; have z2:=hT.l; have z3:=b8 ws (((k:Int) - 1).toNat); have z4:(take n (ak ws ((k:Int) - 1).toNat)).length = n:=Lj z.1; refine aJ ?_; rw [G6 (n:=n) om z.1 bk]; omega)) (.val 97 (zI ((j:Int) + 1)) (zN (j + 1)) D4 (Hn.next next2 ⟨(j + 1),om,⟨⟩⟩ Kf [(0,0),(8,8),(16,16),(24,24),(32,32),(40,40),(80,80),(112,112),(160,160)] ql))))))))) (fun p5=>(.s 2 (.op ((j:Int) + 1) D5 (.s 1 (.val 17 (zN (cw (ak ws (un ((k:Int) - 1))) j)) (zN (cw (ak ws (un ((k:Int) - 1))) (j + 1))) (by ( have z:=hT.i.nextk om (((k:Int) - 1).toNat) om; have z2:=hT.l; have z3:=b8 ws (((k:Int) - 1).toNat); have z4:(take n (ak ws ((k:Int) - 1).toNat)).length = n:=Lj z.1; rw [G7 (n:=n) om z.1 bk])) (.val 97 (zI ((j:Int) + 1)) (zN (j + 1)) D4 (Hn.next next2 ⟨(j + 1),om,⟨⟩⟩ Kf [(0,0),(8,8),(16,16),(24,24),(32,32),(40,40),(80,80),(112,112),(160,160)] ql))))))))))))))) (fun p4=>have p4f:=aO p4; (.val 17 (zN (cw (ak ws (un ((k:Int) - 1))) j)) (zN (cw (ak ws (un ((k:Int) - 1))) n)) (by ( rw [show j = n from by omega])) (.val 97 (zN j) (zN n) G3 (Hn.last last2 0 (():Unit) rfl [(0,0),(8,8),(16,16),(24,24),(32,32),(40,40),(80,80),(112,112),(160,160)] ql))))))) (fun | ⟨j,hj,_⟩=>by kernel_rfl) ⟨(0),om,⟨⟩⟩ [(0,0),(8,8),(16,16),(24,24),(32,32),(40,40),(80,80),(112,112),(160,160)] ql (bX (fun | ()=>(.s 9 (.op ((n:Int) - (↑(cw (ak ws (un ((k:Int) - 1))) n):Int)) D5 (.s 1 (.chk (aS none (some ((n:Int) - (↑(cw (ak ws (un ((k:Int) - 1))) n):Int))) none N && true) (by ( have z:=hT.i.nextk om (((k:Int) - 1).toNat) om; have z2:=hT.l; have z3:=b8 ws (((k:Int) - 1).toNat); have z4:(take n (ak ws ((k:Int) - 1).toNat)).length = n:=Lj z.1; refine mY (n:=n - cw (ak ws ((k:Int) - 1).toNat) n) ?_ ?_ <;> omega)) (.s 2 (.blk 16 16 (Blk.mk (map dB o) 5 true) (Blk.mk (map dB (bW o S 0)) 5 true) (by (rw [rP])) (Hn.inl T_ok ag true 126 312 (aq Try.prog 76 3) (fun (x:(j:Nat) ×' (hj:j ≤ n - cw (ak ws ((k:Int) - 1).toNat) n) ×' Unit)=>match x with | ⟨j,hj,_⟩=>CutS.mk [(4,zS),(5,zI 0),(6,D.ptr 8 8 0),(8,D.ptr 24 24 0),(14,D.ptr 80 80 0),(16,D.sl false (length (ak ws (un ((k:Int) - 1)))) 2 (flatMap cm (ak ws (un ((k:Int) - 1))))),(17,zN (cw (ak ws (un ((k:Int) - 1))) n)),(90,D.fn (K9 123) [] [D.ptr 112 112 0]),(92,D.sl false (length (ak ws (un ((k:Int) - 1)))) 2 (flatMap cm (ak ws (un ((k:Int) - 1))))),(93,D.sl false (length (ak ws (un ((k:Int) - 1)))) 2 (flatMap cm (ak ws (un ((k:Int) - 1))))),(94,zN n),(96,zN n),(97,zN n),(106,D.ref 0 0 0 N 1),(107,zN n),(108,zN (cw (ak ws (un ((k:Int) - 1))) n)),(109,zI ((n:Int) - (↑(cw (ak ws (un ((k:Int) - 1))) n):Int))),(110,D.ref 0 0 0 (un ((n:Int) - (↑(cw (ak ws (un ((k:Int) - 1))) n):Int))) 1),(111,zN (un ((n:Int) - (↑(cw (ak ws (un ((k:Int) - 1))) n):Int)))),(112,nD j)] [⟨0,0,0,0,.b ⟨map nD S,3,true⟩⟩,⟨8,8,8,8,.b ⟨[D.ref 0 0 0 N 1],41,false⟩⟩,⟨16,16,16,16,.b ⟨(bW o S j).map dB,5,true⟩⟩,⟨24,24,24,24,.b ⟨[D.ref 16 16 0 L 1],24,false⟩⟩,⟨32,32,32,32,.b ⟨map nD ws,3,true⟩⟩,⟨40,40,40,40,.b ⟨gw ws m m,187,true⟩⟩,⟨80,80,80,80,.b ⟨[zN n],3,false⟩⟩,⟨112,112,112,112,.b ⟨[D.ref 40 40 0 m 1],186,false⟩⟩,⟨160,160,160,160,.l Nv none (rangeAt Try.prog 76 0).1 (rangeAt Try.prog 76 0).2.1 (rangeAt Try.prog 76 0).2.2 126 [(63,zN m),(87,zI (2 * (N:Int))),(5,zI 0),(9,D.ref 32 32 0 N 1),(89,D.ref 40 40 0 m 1),(85,D.ref 0 0 0 N 1),(4,zS),(8,D.ptr 24 24 0),(88,zI (2 * (N:Int) - 2)),(12,D.ref 40 40 0 m 1),(6,D.ptr 8 8 0),(90,D.fn (K9 123) [] [D.ptr 112 112 0]),(14,D.ptr 80 80 0),(86,zN N)]⟩] 384) (fun (x:(j:Nat) ×' (hj:j ≤ n - cw (ak ws ((k:Int) - 1).toNat) n) ×' Unit)=>match x with | ⟨j,hj,_⟩=>n - cw (ak ws ((k:Int) - 1).toNat) n - j) [⟨Unit,.exit 8,fun x=>match x with | ()=>CutS.mk [(4,zS),(5,zI 0),(6,D.ptr 8 8 0),(8,D.ptr 24 24 0),(14,D.ptr 80 80 0),(16,D.sl false (length (ak ws (un ((k:Int) - 1)))) 2 (flatMap cm (ak ws (un ((k:Int) - 1))))),(17,zN (cw (ak ws (un ((k:Int) - 1))) n)),(90,D.fn (K9 123) [] [D.ptr 112 112 0]),(92,D.sl false (length (ak ws (un ((k:Int) - 1)))) 2 (flatMap cm (ak ws (un ((k:Int) - 1))))),(93,D.sl false (length (ak ws (un ((k:Int) - 1)))) 2 (flatMap cm (ak ws (un ((k:Int) - 1))))),(94,zN n),(96,zN n),(97,zN n),(106,D.ref 0 0 0 N 1),(107,zN n),(108,zN (cw (ak ws (un ((k:Int) - 1))) n)),(109,zI ((n:Int) - (↑(cw (ak ws (un ((k:Int) - 1))) n):Int))),(110,D.ref 0 0 0 (un ((n:Int) - (↑(cw (ak ws (un ((k:Int) - 1))) n):Int))) 1),(111,zN (un ((n:Int) - (↑(cw (ak ws (un ((k:Int) - 1))) n):Int))))] [⟨0,0,0,0,.b ⟨map nD S,3,true⟩⟩,⟨8,8,8,8,.b ⟨[D.ref 0 0 0 N 1],41,false⟩⟩,⟨16,16,16,16,.b ⟨(bW o S (n - cw (ak ws ((k:Int) - 1).toNat) n)).map dB,5,true⟩⟩,⟨24,24,24,24,.b ⟨[D.ref 16 16 0 L 1],24,false⟩⟩,⟨32,32,32,32,.b ⟨map nD ws,3,true⟩⟩,⟨40,40,40,40,.b ⟨gw ws m m,187,true⟩⟩,⟨80,80,80,80,.b ⟨[zN n],3,false⟩⟩,⟨112,112,112,112,.b ⟨[D.ref 40 40 0 m 1],186,false⟩⟩,⟨160,160,160,160,.l Nv none (rangeAt Try.prog 76 0).1 (rangeAt Try.prog 76 0).2.1 (rangeAt Try.prog 76 0).2.2 126 [(63,zN m),(87,zI (2 * (N:Int))),(5,zI 0),(9,D.ref 32 32 0 N 1),(89,D.ref 40 40 0 m 1),(85,D.ref 0 0 0 N 1),(4,zS),(8,D.ptr 24 24 0),(88,zI (2 * (N:Int) - 2)),(12,D.ref 40 40 0 m 1),(6,D.ptr 8 8 0),(90,D.fn (K9 123) [] [D.ptr 112 112 0]),(14,D.ptr 80 80 0),(86,zN N)]⟩] 384⟩] 1000 64 (fun | ⟨j,hj,_⟩,Q,next2,last2=>(.s 2 (.br (decide ((j:Int) < (↑(un ((n:Int) - (↑(cw (ak ws (un ((k:Int) - 1))) n):Int))):Int))) (fun p6=>have p6f:=aN p6; (.s 1 (.chk (true && decide ((j:Int) < (↑(un ((n:Int) - (↑(cw (ak ws (un ((k:Int) - 1))) n):Int))):Int))) bk (.s 2 (.opt ((map nD S)[0 + j * 1]?) (nD (getD S (0 + j * 1) i4)) (ao _ _ G3) (.s 6 (.chk (true && decide ((↑(getD S (0 + j * 1) i4):Int) < (L:Int))) Kg (.s 2 (.opt ((map dB (bW o S j))[0 + getD S (0 + j * 1) i4 * 1]?) (dB (getD (bW o S j) (0 + getD S (0 + j * 1) i4 * 1) i4)) (ao _ _ (by ( have z:=hT.i.nextk om (((k:Int) - 1).toNat) om; have z2:=hT.l; have z3:=b8 ws (((k:Int) - 1).toNat); have z4:(take n (ak ws ((k:Int) - 1).toNat)).length = n:=Lj z.1; have h9:=hA.at (t:=0 + j * 1) om; have h8:=cn o S j; omega))) (.s 2 (.opt (ap .u8 ((↑(Ku (getD (bW o S j) (0 + getD S (0 + j * 1) i4 * 1) i4)):Int) + 1)) (bI (((↑(Ku (getD (bW o S j) (0 + getD S (0 + j * 1) i4 * 1) i4)):Int) + 1) % 256)) (aE _ _) (.s 1 (.chk (true && decide ((↑(getD S (0 + j * 1) i4):Int) < (L:Int))) Kg (.s 1 (.chk (true && Kx (0 + getD S (0 + j * 1) i4 * 1 + 1) (length (map dB (bW o S j)))) (by (rw [KH];  have z:=hT.i.nextk om (((k:Int) - 1).toNat) om; have z2:=hT.l; have z3:=b8 ws (((k:Int) - 1).toNat); have z4:(take n (ak ws ((k:Int) - 1).toNat)).length = n:=Lj z.1; have h9:=hA.at (t:=0 + j * 1) om; have h8:=cn o S j; simp only [KX]; refine KA ?_; omega)) (.lst (af (map dB (bW o S j)) (0 + getD S (0 + j * 1) i4 * 1) [bI (((↑(Ku (getD (bW o S j) (0 + getD S (0 + j * 1) i4 * 1) i4)):Int) + 1) % 256)]) (af (map dB (bW o S j)) (getD S j i4) [bI (((↑(Ku (getD (bW o S j) (getD S j i4) i4)):Int) + 1) % 256)]) (by (simp; done)) (.s 2 (.op ((j:Int) + 1) D5 (.s 1 (.val 112 (zI ((j:Int) + 1)) (zN (j + 1)) D4 (.blk 16 16 (Blk.mk (af (map dB (bW o S j)) (getD S j i4) [bI (((↑(Ku (getD (bW o S j) (getD S j i4) i4)):Int) + 1) % 256)]) 5 true) (Blk.mk (map dB (bW o S (j + 1))) 5 true) (by ( have z:=hT.i.nextk om (((k:Int) - 1).toNat) om; have z2:=hT.l; have z3:=b8 ws (((k:Int) - 1).toNat); have z4:(take n (ak ws ((k:Int) - 1).toNat)).length = n:=Lj z.1; have h9:=hA.at (t:=0 + j * 1) om; have h8:=cn o S j; refine au (G8 om ?_ ?_ ?_) <;> first | (simp only [KV,KW]; done) | rfl | (simp only [KV,KW] at *; omega))) (Hn.next next2 ⟨(j + 1),om,⟨⟩⟩ (by show n - cw (ak ws (un ((k:Int) - 1))) n - (j + 1) < n - cw (ak ws (un ((k:Int) - 1))) n - j; clear next2 last2 next1 last1; omega) [(0,0),(8,8),(16,16),(24,24),(32,32),(40,40),(80,80),(112,112),(160,160)] ql)))))))))))))))))))))) (fun p6=>have p6f:=aO p6; (.blk 16 16 (Blk.mk (map dB (bW o S j)) 5 true) (Blk.mk (map dB (bW o S (n - cw (ak ws (un ((k:Int) - 1))) n))) 5 true) (by ( rw [show j = n - cw (ak ws ((k:Int) - 1).toNat) n from by omega])) (Hn.last last2 0 (():Unit) rfl [(0,0),(8,8),(16,16),(24,24),(32,32),(40,40),(80,80),(112,112),(160,160)] ql)))))) (fun | ⟨j,hj,_⟩=>by kernel_rfl) ⟨(0),om,⟨⟩⟩ [(0,0),(8,8),(16,16),(24,24),(32,32),(40,40),(80,80),(112,112),(160,160)] ql (bX (fun | ()=>(.s 3 (.op (2 * (↑(cw (ak ws (un ((k:Int) - 1))) n):Int)) D5 (.s 8 (.ow ((k:Int) - 1 - 1) (.s 1 (.val 3 (zI ((k:Int) - 1 - 1)) (zI ((↑(k - 1):Int) - 1)) G3 (.blk 80 80 (Blk.mk [zI (2 * (↑(cw (ak ws (un ((k:Int) - 1))) n):Int))] 3 false) (Blk.mk [zN (2 * cw (ak ws (un ((k:Int) - 1))) n)] 3 false) (by ( exact BM om)) (Hn.next next1 ⟨(k - 1),(2 * cw (ak ws ((k:Int) - 1).toNat) n),(bW o S (n - cw (ak ws ((k:Int) - 1).toNat) n)),om,(by ( exact hT.next' om _ om)),⟨⟩⟩ (by show k - 1 < k; clear next1 last1; omega) [(0,0),(8,8),(16,16),(24,24),(32,32),(40,40),(80,80),(112,112),(160,160)] ql)))))))))))))))))))))))))))))) (fun p3=>have p3f:=aO p3; (.blk 16 16 (Blk.mk (map dB o) 5 true) (Blk.mk (map dB T) 5 true) (by ( rw [hT.last om])) (Hn.last last1 0 (⟨(n),⟨⟩⟩:(n2:Nat) ×' Unit) rfl [(0,0),(8,8),(16,16),(24,24),(32,32),(40,40),(80,80),(112,112),(160,160)] ql)))))) (fun | ⟨k,n,o,hk,hT,_⟩=>by kernel_rfl) ⟨(m),(2 * N - 2),(replicate L 0),om,om,⟨⟩⟩ [(0,0),(8,8),(16,16),(24,24),(32,32),(40,40),(80,80),(112,112),(160,160)] ql (bX (fun | ⟨n2,_⟩=>(.s 5 (.out [16] [16] (D.tup [D.ref 0 0 0 L 1,zI 0]) [Blk.mk (map dB T) 5 true] R (ok _ _ wr wr))))))))))))))))))))))))))))))))))))) (by kernel_rfl)
theorem HU {p:Prop} (h:p:=by ( have h9:=hA.at (t:=0) om; refine decide_eq_true ?_; omega)):p:=h
theorem Kh {p:Prop} (h:p:=by (have h9:((yF.bytes:Nat):Int) = 1:=rfl; rw [h9]; simp; omega)):p:=h
theorem Ha (W:List Nat) (L:Nat) (hL:L = W.length) (hL2:L ≤ 320) (hB:∀ t,W.getD t i4 ≤ 1073741824) (m:Nat) (hm:1 ≤ m ∧ m ≤ 15) (S:List Nat) (hS:eN W = S) (N:Nat) (hN:N = S.length) (hNm:N ≤ 2 ^ m) (hA:bh L S) (hN3:N ≤ 320) (h2:N = 1):SpecH false Try.prog 76 [.sl false L 1 (W.map nD),nD m] [] (.tup [.ref 0 0 0 L 1,iD 0]) [⟨((KJ L (0:UInt8)).set (S.getD 0 i4) (Lu 1)).map dB, 5, true⟩]:=by
 refine SpecH.run T_ok ag Try.func76 rfl rfl rfl ⟨bf _,trivial⟩ rfl 1000 64 (fun R ok=>(.s 5 (.cl 100 false [] (.fn CN (@oo (W) (L) om om om (m) om (S) bk (N) bk om)) (.s 18 (.chk (true && decide ((L:Int) ≤ (L:Int)) && true && true && true && true && decide ((↑(TI.bytes yF):Int) * (L:Int) ≤ 140737488355328)) Kh (.s 11 (.t ((N:Int) == 1) HU (.s 8 (.chk (true && decide (0 < (N:Int))) HU (.s 2 (.opt ((map nD S)[0]?) (nD (getD S 0 i4)) (ao _ _ om) (.s 1 (.chk (true && decide ((↑(getD S 0 i4):Int) < (L:Int))) HU (.s 1 (.chk (true && Kx (0 + getD S 0 i4 * 1 + 1) (length (co [bI 0] (L * 1)))) (by ( have h9:=hA.at (t:=0) om; rw [tu,KH,K1,KX]; refine KA ?_; omega)) (.lst (af (co [bI 0] (L * 1)) (0 + getD S 0 i4 * 1) [bI 1]) (af (co [bI 0] L) (getD S 0 i4) [bI 1]) (by (simp; done)) (.s 6 (.t (decide ((N:Int) < 2)) HU (.s 5 (.out [120] [120] (D.tup [D.ref 0 0 0 L 1,zI 0]) [Blk.mk (af (co [bI 0] L) (getD S 0 i4) [bI 1]) 5 true] R (ok _ _ wr (by ( have h9:=hA.at (t:=0) om; have e:=tu L; rw [KW] at e; rw [e]; exact congrArg (fun z=>[Blk.mk z 5 true]) (wq (a:=1) (by decide) (by rw [K1]; omega))))))))))))))))))))))))) (by kernel_rfl)
theorem Hb (W:List Nat) (L:Nat) (hL:L = W.length) (hL2:L ≤ 320) (hB:∀ t,W.getD t i4 ≤ 1073741824) (m:Nat) (hm:1 ≤ m ∧ m ≤ 15) (S:List Nat) (hS:eN W = S) (N:Nat) (hN:N = S.length) (hNm:N ≤ 2 ^ m) (hA:bh L S) (hN3:N ≤ 320) (h2:N = 0):SpecH false Try.prog 76 [.sl false L 1 (W.map nD),nD m] [] (.tup [.ref 0 0 0 L 1,iD 0]) [⟨(KJ L (0:UInt8)).map dB, 5, true⟩]:=by
 refine SpecH.run T_ok ag Try.func76 rfl rfl rfl ⟨bf _,trivial⟩ rfl 1000 64 (fun R ok=>(.s 5 (.cl 100 false [] (.fn CN (@oo (W) (L) om om om (m) om (S) bk (N) bk om)) (.s 18 (.chk (true && decide ((L:Int) ≤ (L:Int)) && true && true && true && true && decide ((↑(TI.bytes yF):Int) * (L:Int) ≤ 140737488355328)) Kh (.s 11 (.f ((N:Int) == 1) (by (refine decide_eq_false ?_; (omega))) (.s 6 (.t (decide ((N:Int) < 2)) (by (refine decide_eq_true ?_; (omega))) (.s 5 (.out [120] [120] (D.tup [D.ref 0 0 0 L 1,zI 0]) [Blk.mk (co [bI 0] (L * 1)) 5 true] R (ok _ _ wr (by (rw [tu])))))))))))))) (by kernel_rfl)
def uE (W S:List Nat) (m:Nat):List UInt8 :=
 if S.length = 0 then KJ W.length 0 else if S.length = 1 then (KJ W.length 0).set (S.getD 0 i4) (Lu 1)
 else zm (oh W S S.length) S m (2 * S.length - 2) (KJ W.length 0)
def bB (W:List Nat) (m:Nat):List UInt8:=lk W (uE W (eN W) m)
theorem kg (W:List Nat) (m:Nat):bB W m = uE W (eN W) m:=aA _ _
theorem oq (ws S:List Nat):∀ (k n:Nat) (o:List UInt8),(zm ws S k n o).length = o.length
 | 0,_,_=>rfl
 | k + 1,n,o=>by rw [zm,oq ws S k,cn]
theorem iM (W:List Nat) (m:Nat):(bB W m).length = W.length:=by
 rw [kg,uE]
 split
 ·rw [K1]
 ·split
  ·rw [Mz,K1]
  ·rw [oq,K1]
theorem Hc (W:List Nat) (L:Nat) (hL:L = W.length) (hL2:L ≤ 320) (hB:∀ t,W.getD t i4 ≤ 1073741824) (m:Nat) (hm:1 ≤ m ∧ m ≤ 15) (hNm:(et W L).length ≤ 2 ^ m):SpecH false Try.prog 76 [.sl false L 1 (W.map nD),nD m] [] (.tup [.ref 0 0 0 L 1,iD 0]) [⟨(bB W m).map dB, 5, true⟩]:=by
 have hp:=dF W
 have hl:=hp.length_eq
 have hA:bh L (eN W):=by rw [hL]; exact og.perm hp
 have h3:=ib W L
 rw [← hL] at hl
 rw [kg,uE]
 by_cases c0:(eN W).length = 0
 ·rw [if_pos c0,← hL]
  exact Hb W L hL hL2 hB m hm _ rfl _ rfl (by omega) hA (by omega) c0
 ·rw [if_neg c0]
  by_cases c1:(eN W).length = 1
  ·rw [if_pos c1,← hL]
   exact Ha W L hL hL2 hB m hm _ rfl _ rfl (by omega) hA (by omega) c1
  ·rw [if_neg c1,← hL]
   have hwl:(oh W (eN W) (eN W).length).length = (eN W).length:=ka (KG _)
   refine G9 W L hL hL2 hB m hm _ rfl _ rfl (by omega) hA (by omega) (by omega) _ rfl hwl (fun w hw=>?_) _ ⟨?_,K1,rfl⟩
   ·rw [ln] at hw
    obtain ⟨i,_,rfl⟩:=List.mem_map.1 hw
    exact hB i
   ·have q:=LnI.first (ws:=oh W (eN W) (eN W).length) hm.1 (by rw [hwl]; omega) (by rw [hwl]; omega)
    rwa [hwl] at q
end Vp
end Go.Proofs.Ytefjnofhgkjpmaa
namespace Go.Proofs.Ytefjnofhgkjpmaa
open Go.RowKit Go.Bw Go.Vx
namespace Vp
theorem HV {p:Prop} (h:p:=by rw [K1]):p:=h
def uF (l:List Pc):Nat:=(l.filter (fun x=>!x.p)).length
def tv (l:List Pc):Nat:=(l.filter (·.p)).length
def sW (l:List Pc):List Nat:=(l.filter (fun x=>!x.p)).map (·.w)
theorem ot (a b:List Pc):uF (a ++ b) = uF a + uF b:=by unfold uF; rw [LD,Kw]
theorem tw (a b:List Pc):tv (a ++ b) = tv a + tv b:=by unfold tv; rw [LD,Kw]
theorem lr (ws:List Nat):uF (fW ws) = ws.length ∧ tv (fW ws) = 0:=by
 unfold uF tv fW
 refine ⟨?_,?_⟩
 ·rw [List.filter_eq_self.2 (fun x hx=>by obtain ⟨w,_,rfl⟩:=List.mem_map.1 hx; rfl),KH]
 ·rw [List.filter_eq_nil_iff.2 (fun x hx=>by obtain ⟨w,_,rfl⟩:=List.mem_map.1 hx; simp)]; rfl
theorem lu (ws:List Nat) (n:Nat):(fW ws).take n = fW (ws.take n):=by unfold fW; rw [Nh]
theorem wZ (ws:List Nat):sW (fW ws) = ws:=by
 unfold sW fW
 rw [List.filter_eq_self.2 (fun x hx=>by obtain ⟨w,_,rfl⟩:=List.mem_map.1 hx; rfl),List.map_map]
 exact List.map_id ws
theorem w4 (s:Nat):∀ ws:List Nat,∃ em,(dT s ws).1 = fW em ++ [⟨s,true⟩] ∧ ws = em ++ (dT s ws).2 ∧ ∀ u r,(dT s ws).2 = u :: r → s < u
 | []=>⟨[],rfl,rfl,fun u r h=>by cases h⟩
 | w :: r=>by
  rw [dT]; split
  ·next q=>exact ⟨[],rfl,rfl,fun u r' h=>by cases h; exact q⟩
  ·obtain ⟨em,h1,h2,h3⟩:=w4 s r
   exact ⟨w :: em,by rw [h1]; rfl,by rw [Mr,← h2],h3⟩
theorem w5:∀ (row:List Pc) (ws:List Nat),sW (eu row ws) = ws
 | [],ws=>wZ ws
 | [_],ws=>wZ ws
 | x :: y :: r,ws=>by
  obtain ⟨em,h1,h2,_⟩:=w4 (x.w + y.w) ws
  have ih:=w5 r (dT (x.w + y.w) ws).2
  rw [eu,h1]
  unfold sW at *
  rw [LD,Lh,ih,LD,Lh]
  have e:=wZ em
  unfold sW at e
  rw [e]
  show (em ++ []) ++ _ = ws
  rw [Lk,← h2]
theorem DB (ws:List Nat):∀ k,sW (ak ws k) = ws
 | 0=>by rw [← oj,fT]; exact w5 _ _
 | k + 1=>by rw [← lq,fT]; exact w5 _ _
theorem tz:∀ (row:List Pc) (v ws:List Nat),sW row = v ++ ws → ∀ n,uF (row.take (2 * tv ((eu row ws).take n))) ≤ v.length + uF ((eu row ws).take n)
 | [],v,ws,_,n=>by
  have e:(eu [] ws).take n = fW (ws.take n):=lu ws n
  rw [e,(lr _).2]; exact Li _
 | [x],v,ws,_,n=>by
  have e:(eu [x] ws).take n = fW (ws.take n):=lu ws n
  rw [e,(lr _).2]; exact Li _
 | x :: y :: r,v,ws,h,n=>by
  obtain ⟨em,h1,h2,h3⟩:=w4 (x.w + y.w) ws
  have ih:=tz r
  rw [eu,h1]
  generalize (dT (x.w + y.w) ws).2 = ws' at *
  rcases K3 em.length n with q | q
  ·have e:(fW em ++ [(⟨x.w + y.w,true⟩:Pc)] ++ eu r ws').take n = (fW em ++ [(⟨x.w + y.w,true⟩:Pc)]) ++ (eu r ws').take (n - (em.length + 1)):=by
    have l:(fW em ++ [(⟨x.w + y.w,true⟩:Pc)]).length = em.length + 1:=by unfold fW; rw [Kw,KH]; rfl
    rw [Oo,l,KZ (by omega)]
   rw [e,tw,tw,ot,ot,(lr em).1,(lr em).2]
   show uF ((x :: y :: r).take (2 * (0 + 1 + _))) ≤ v.length + (em.length + 0 + _)
   generalize hZ:(eu r ws').take (n - (em.length + 1)) = Z
   have hk:sW (x :: y :: r) = sW [x,y] ++ sW r:=by
    unfold sW
    rw [show x :: y :: r = [x,y] ++ r from rfl,LD,Lh]
   have hs:∀ u ∈ sW [x,y],u ≤ x.w + y.w:=fun u hu=>by
    obtain ⟨p,hp,rfl⟩:=List.mem_map.1 hu
    rcases List.mem_cons.1 (List.mem_filter.1 hp).1 with rfl | hp
    ·omega
    ·cases List.mem_singleton.1 hp; omega
   have hl:(sW [x,y]).length = uF [x,y]:=by unfold sW uF; rw [KH]
   rw [hk,h2,← KS] at h
   have hc:(sW [x,y]).length ≤ (v ++ em).length:=by
    rcases K3 (v ++ em).length (sW [x,y]).length with z | z
    ·exfalso
     have g:(sW [x,y] ++ sW r)[(v ++ em).length]? = (v ++ em ++ ws')[(v ++ em).length]?:=by rw [h]
     rw [List.getElem?_append_left z,List.getElem?_append_right (KG _),LL,List.getElem?_eq_getElem z] at g
     cases hw:ws' with
     | nil=>rw [hw] at g; cases g
     | cons u t =>
      rw [hw] at g
      have g2:(sW [x,y])[(v ++ em).length] = u:=Option.some.inj g
      have:=hs _ (Ld z)
      have:=h3 u t hw
      omega
    ·exact z
   have hr:sW r = (v ++ em).drop (sW [x,y]).length ++ ws' := by
    have g:=congrArg (K8 (sW [x,y]).length) h
    rwa [List.drop_left,Mh hc] at g
   have i2:=ih _ ws' hr (n - (em.length + 1))
   rw [hZ,KQ,Kw,hl] at i2
   rw [Kw,hl] at hc
   have e3:(x :: y :: r).take (2 * (0 + 1 + tv Z)) = [x,y] ++ r.take (2 * tv Z):=by
    rw [show 2 * (0 + 1 + tv Z) = 2 * tv Z + 1 + 1 from by omega]; rfl
   rw [e3,ot]
   omega
  ·have e:(fW em ++ [(⟨x.w + y.w,true⟩:Pc)] ++ eu r ws').take n = fW (em.take n):=by
    have l:n ≤ (fW em).length:=by unfold fW; rw [KH]; exact q
    rw [KS,LW l,lu]
   rw [e,(lr _).2]; exact Li _
def BO (l:List Nat) (j:Nat):List Nat:=(l.take j).map (· + 1) ++ l.drop j
def lv (m:Nat):List Nat → Nat
 | []=>0
 | x :: r=>2 ^ (m - x) + lv m r
theorem ou (m:Nat) (a b:List Nat):lv m (a ++ b) = lv m a + lv m b:=by
 induction a with
 | nil=>simp [lv]
 | cons x a ih=>rw [Mr,lv,lv,ih,LK]
theorem iN (m d:Nat):∀ a,lv m (KJ a d) = a * 2 ^ (m - d)
 | 0=>by simp [lv]
 | a + 1=>by rw [List.replicate_succ,lv,iN m d a,Nat.succ_mul,Nat.add_comm]
def zo (ws:List Nat):Nat → Nat → List Nat → List Nat
 | 0,_,l=>l
 | k + 1,n,l=>zo ws k (2 * cw (ak ws k) n) (BO l (n - cw (ak ws k) n))
theorem tA (a b d:Nat):KJ (a + b) d = KJ a d ++ KJ b d:=List.replicate_append_replicate.symm
structure KrI (ws:List Nat) (m k n a:Nat) (l:List Nat):Prop where
 i:LnI ws k n
 km:k ≤ m
 z:k = 0 → n = 0
 nx:k ≠ 0 → n - cw (ak ws (k - 1)) n ≤ a
 sh:∃ r,l = KJ a (m - k) ++ r ∧ ∀ x ∈ r,x ≤ m - k
 ph:2 * lv m l = 2 * 2 ^ m + n * 2 ^ k
theorem w6 (l:List Pc):l.length = tv l + uF l:=by unfold tv uF; exact ol l
theorem w7 (row:List Pc) (n:Nat):cw row n = tv (row.take n):=ic row n
theorem KrI.next {ws:List Nat} {m k n a:Nat} {l:List Nat} (h:KrI ws m (k + 1) n a l):KrI ws m k (2 * cw (ak ws k) n) (n - cw (ak ws k) n) (BO l (n - cw (ak ws k) n)):=by
 have hn:=LnI.next h.i
 have ha:=h.nx (Ms k)
 rw [Me] at ha
 obtain ⟨r,hr,hx⟩:=h.sh
 have hkm:=h.km
 generalize hc:cw (ak ws k) n = c at *
 refine ⟨hn.2.2.2,by omega,fun hk=>?_,fun hk=>?_,?_,?_⟩
 ·subst hk
  have q:=tl (ak ws 0) n
  rw [(jf ws 0).2.1,if_pos rfl,hc] at q; omega
 ·obtain ⟨j,rfl⟩:∃ j,k = j + 1:=⟨k - 1,by omega⟩
  rw [Me]
  have q:=tz (ak ws j) [] ws (DB ws j) n
  rw [← fT,lq,← w7,hc] at q
  have q2:=w6 ((ak ws (j + 1)).take n)
  rw [← w7,hc,KC] at q2
  have q3:=w6 ((ak ws j).take (2 * c))
  have q4:=(hn.2.2.2).a (Ms j)
  rw [Me] at q4
  rw [← w7,KC] at q3
  have q5:([]:List Nat).length = 0:=rfl
  omega
 ·refine ⟨KJ (a - (n - c)) (m - (k + 1)) ++ r,?_,fun x hx2=>?_⟩
  ·unfold BO
   rw [hr,show a = (n - c) + (a - (n - c)) from by omega,tA,ME,KS,OH HV,OI HV,L4,show m - (k + 1) + 1 = m - k from by omega]
  ·rcases List.mem_append.1 hx2 with q | q
   ·have:=(List.mem_replicate.1 q).2; omega
   ·have:=hx x q; omega
 ·have hp:=h.ph
  have e:l = KJ (n - c) (m - (k + 1)) ++ (KJ (a - (n - c)) (m - (k + 1)) ++ r):=by
   rw [hr,← KS,← tA,show n - c + (a - (n - c)) = a from by omega]
  have e2:BO l (n - c) = KJ (n - c) (m - k) ++ (KJ (a - (n - c)) (m - (k + 1)) ++ r):=by
   unfold BO
   rw [e,OH HV,OI HV,L4,show m - (k + 1) + 1 = m - k from by omega]
  rw [e,ou,iN,show m - (m - (k + 1)) = k + 1 from by omega] at hp
  rw [e2,ou,iN,show m - (m - k) = k from by omega]
  generalize lv m (KJ (a - (n - c)) (m - (k + 1)) ++ r) = Q at *
  have e3:n = (n - c) + c:=by omega
  generalize n - c = b at *
  subst e3
  rw [LP] at hp
  generalize 2 ^ k = P at *
  rw [Lr,L0 P 2,← LH,← LH,L0 b 2,L0 c 2,LH 2 b P,LH 2 c P] at hp
  rw [LH 2 c P]
  omega
theorem KrI.last {ws:List Nat} {m:Nat}:∀ (k n a:Nat) (l:List Nat),KrI ws m k n a l → lv m (zo ws k n l) = 2 ^ m ∧ (∀ x ∈ zo ws k n l,x ≤ m) ∧ (zo ws k n l).length = l.length
 | 0,n,a,l,h=>by
  have hz:=h.z rfl
  have hp:=h.ph
  rw [hz,LQ] at hp
  obtain ⟨r,hr,hx⟩:=h.sh
  refine ⟨by rw [zo]; omega,fun x hx2=>?_,rfl⟩
  rw [zo,hr] at hx2
  rcases List.mem_append.1 hx2 with q | q
  ·have:=(List.mem_replicate.1 q).2; omega
  ·have:=hx x q; omega
 | k + 1,n,a,l,h=>by
  have q:=KrI.last k _ _ _ h.next
  rw [zo]
  refine ⟨q.1,q.2.1,q.2.2.trans ?_⟩
  unfold BO
  rw [Kw,KH,KC,KQ]; omega
theorem tB {m:Nat}:∀ {l:List Nat},lv m l = 2 ^ m → 2 ≤ l.length → ∀ x ∈ l,x ≠ 0:=fun {l} h h2 x hx h0=>by
 obtain ⟨a,b,rfl⟩:=List.append_of_mem hx
 rw [ou,lv,h0,Ns] at h
 have pos:∀ l:List Nat,l.length ≤ lv m l:=fun l=>by
  induction l with
  | nil=>exact KG _
  | cons y l ih=>rw [lv,KU]; have:=LZ (m - y); omega
 have p1:=pos a
 have p2:=pos b
 rw [Kw,KU] at h2
 omega
theorem w8 {m:Nat} (hm:m ≤ 15):∀ l:List Nat,(∀ x ∈ l,x ≤ m) → lv 15 l = 2 ^ (15 - m) * lv m l
 | [],_=>rfl
 | x :: r,h=>by
  have hx:=h x KO
  rw [lv,lv,w8 hm r (fun y hy=>h y (KM _ hy)),Mo,← NZ,show 15 - m + (m - x) = 15 - x from by omega]
theorem Ki {p:Prop} (h:p:=by rw [KH,KC,KH]; omega):p:=h
def gV (f:Nat → Nat):List Nat → Nat
 | []=>0
 | i :: r=>f i + gV f r
theorem tC (f:Nat → Nat) (a b:List Nat):gV f (a ++ b) = gV f a + gV f b:=by
 induction a with
 | nil=>simp [gV]
 | cons x a ih=>rw [Mr,gV,gV,ih,LK]
theorem qn {f:Nat → Nat} {a b:List Nat} (h:a.Perm b):gV f a = gV f b:=by
 induction h with
 | nil=>rfl
 | cons x _ ih=>rw [gV,gV,ih]
 | swap x y l=>rw [gV,gV,gV,gV]; omega
 | trans _ _ h1 h2=>exact h1.trans h2
theorem ox {f:Nat → Nat} {p:Nat → Bool}:∀ l:List Nat,(∀ i ∈ l,p i = false → f i = 0) → gV f l = gV f (l.filter p)
 | [],_=>rfl
 | x :: r,h=>by
  have ih:=ox r fun i hi=>h i (KM _ hi)
  cases hp:p x
  ·rw [L8 (by simp [hp]),gV,h x KO hp,ih,KV]
  ·rw [L7 hp,gV,gV,ih]
def kf (o:List UInt8) (i:Nat):Nat:=if (o.getD i i4).toNat = 0 then 0 else 2 ^ (15 - (o.getD i i4).toNat)
def uf (o:List UInt8) (i:Nat):Nat:=if (o.getD i i4).toNat = 0 then 0 else 1
theorem qo (o:List UInt8):∀ k,k ≤ o.length → aL (o.take k) = gV (kf o) (Lf k) ∧ bb (o.take k) = gV (uf o) (Lf k)
 | 0,_=>⟨rfl,rfl⟩
 | k + 1,h=>by
  have ih:=qo o k (by omega)
  rw [fO (by omega),hJ (by omega),MJ,tC,tC,ih.1,ih.2]
  exact ⟨rfl,rfl⟩
theorem w9 {W:List Nat} {o:List UInt8} (hl:o.length = W.length) (h0:∀ i,i < W.length → W.getD i i4 = 0 → o.getD i i4 = 0):aL o = gV (kf o) (eN W) ∧ bb o = gV (uf o) (eN W):=by
 have h:=qo o o.length (KG _)
 rw [LF,hl] at h
 have hz:∀ i,i < W.length → decide (0 < W.getD i i4) = false → (o.getD i i4).toNat = 0:=fun i hi hp=>by
  have hp:=of_decide_eq_false hp
  rw [h0 i hi (by omega)]; rfl
 rw [qn (dF W),qn (dF W),eX,h.1,h.2]
 exact ⟨ox _ fun i hi hp=>by unfold kf; rw [if_pos (hz i (List.mem_range.1 hi) hp)],ox _ fun i hi hp=>by unfold uf; rw [if_pos (hz i (List.mem_range.1 hi) hp)]⟩
theorem BP (W:List Nat):(eN W).Nodup:=by
 rw [(dF W).nodup_iff,eX]; exact List.Nodup.sublist List.filter_sublist List.nodup_range
theorem rS {W:List Nat} {i:Nat}:i ∈ eN W ↔ i < W.length ∧ 0 < W.getD i i4:=by
 rw [(dF W).mem_iff,eX,MY,NR,decide_eq_true_eq]
theorem oy {o:List UInt8} {i j:Nat} {v:UInt8} (hi:i < o.length):(o.set i v).getD j i4 = if i = j then v else o.getD j i4:=by
 rw [List.getD_eq_getElem?_getD,List.getD_eq_getElem?_getD,List.getElem?_set]
 by_cases h:i = j
 ·rw [if_pos h,if_pos h,if_pos (by omega)]; rfl
 ·rw [if_neg h,if_neg h]
theorem Hd {S:List Nat} (hN:S.Nodup) {i j:Nat} (hi:i < S.length) (hj:j < S.length) (h:i ≠ j):S.getD i i4 ≠ S.getD j i4:=by
 rw [List.getD_eq_getElem?_getD,List.getD_eq_getElem?_getD,List.getElem?_eq_getElem hi,List.getElem?_eq_getElem hj]
 rcases Nat.lt_or_gt_of_ne h with q | q
 ·exact List.pairwise_iff_getElem.1 hN _ _ hi hj q
 ·exact (List.pairwise_iff_getElem.1 hN _ _ hj hi q).symm
theorem xa {S:List Nat} (hN:S.Nodup) {o:List UInt8} (hA:bh o.length S):∀ j,j ≤ S.length → (∀ t,t < S.length → (bW o S j).getD (S.getD t i4) i4 = if t < j then o.getD (S.getD t i4) i4 + 1 else o.getD (S.getD t i4) i4) ∧ ∀ i,i ∉ S → (bW o S j).getD i i4 = o.getD i i4
 | 0,_=>⟨fun t _=>by rw [rP,if_neg (LJ t)],fun i _=>by rw [rP]⟩
 | j + 1,h=>by
  have ih:=xa hN hA j (by omega)
  have hb:=hA.at (t:=j) (by omega)
  refine ⟨fun t ht=>?_,fun i hi=>?_⟩
  ·rw [rQ (by omega),oy (by rw [cn]; exact hb)]
   by_cases e:j = t
   ·subst e; rw [if_pos rfl,ih.1 j ht,if_neg (Nf j),if_pos (NI j)]
   ·rw [if_neg (Hd hN (by omega) ht e),ih.1 t ht]
    by_cases q:t < j
    ·rw [if_pos q,if_pos (by omega)]
    ·rw [if_neg q,if_neg (by omega)]
  ·rw [rQ (by omega),oy (by rw [cn]; exact hb),if_neg (fun q=>hi (by rw [← q,List.getD_eq_getElem?_getD,List.getElem?_eq_getElem (by omega)]; exact Ld _)),ih.2 i hi]
def oz (S:List Nat) (o:List UInt8):List Nat:=S.map fun i=>(o.getD i i4).toNat
theorem zp {S:List Nat} (hN:S.Nodup) {o:List UInt8} (hA:bh o.length S) {j:Nat} (hj:j ≤ S.length) (hb:∀ x ∈ oz S o,x < 255):oz S (bW o S j) = BO (oz S o) j:=by
 have h:=(xa hN hA j hj).1
 unfold oz BO at *
 apply List.ext_getElem?
 intro t
 rcases K3 t S.length with q | q
 ·have e:S[t] = S.getD t i4:=by rw [List.getD_eq_getElem?_getD,List.getElem?_eq_getElem q]; rfl
  have hx:=hb ((o.getD (S.getD t i4) i4).toNat) (List.mem_map.2 ⟨S[t],Ld q,by rw [e]⟩)
  rw [List.getElem?_map,List.getElem?_eq_getElem q,e]
  show some ((bW o S j).getD (S.getD t i4) i4).toNat = _
  rw [h t q]
  by_cases z:t < j
  ·rw [if_pos z,List.getElem?_append_left Ki,List.getElem?_map,List.getElem?_take,if_pos z,List.getElem?_map,List.getElem?_eq_getElem q,e]
   show some _ = some ((o.getD (S.getD t i4) i4).toNat + 1)
   rw [OG]
   show some ((_ + 1) % 256) = _
   congr 1; omega
  ·rw [if_neg z,List.getElem?_append_right Ki,KH,KC,KH,List.getElem?_drop,show j + (t - min j S.length) = t from by omega,List.getElem?_map,List.getElem?_eq_getElem q,e]; rfl
 ·rw [List.getElem?_eq_none (by rw [KH]; exact q),List.getElem?_eq_none (by rw [Kw,KH,KC,KQ,KH]; omega)]
theorem xb {ws S:List Nat} {m:Nat} (hm:m ≤ 15) (hN:S.Nodup) (hw:ws.length = S.length):∀ (k n a:Nat) (o:List UInt8),bh o.length S → KrI ws m k n a (oz S o) → oz S (zm ws S k n o) = zo ws k n (oz S o) ∧ ∀ i,i ∉ S → (zm ws S k n o).getD i i4 = o.getD i i4
 | 0,n,a,o,hA,h=>⟨rfl,fun _ _=>rfl⟩
 | k + 1,n,a,o,hA,h=>by
  have hn:=(LnI.next h.i).2.2.1
  rw [hw] at hn
  have hb:∀ x ∈ oz S o,x < 255:=fun x hx=>by
   obtain ⟨r,hr,hx2⟩:=h.sh
   rw [hr] at hx
   rcases List.mem_append.1 hx with q | q
   ·have:=(List.mem_replicate.1 q).2; omega
   ·have:=hx2 x q; omega
  have e:=zp hN hA hn hb
  have ih:=xb hm hN hw k _ _ (bW o S (n - cw (ak ws k) n)) (by rw [cn]; exact hA) (by rw [e]; exact h.next)
  rw [zm,zo,← e]
  exact ⟨ih.1,fun i hi=>(ih.2 i hi).trans ((xa hN hA _ hn).2 i hi)⟩
theorem lw (W:List Nat) (hL:W.length ≤ 320) (m:Nat) (hm:1 ≤ m ∧ m ≤ 15) (hNm:(et W W.length).length ≤ 2 ^ m):cz (bB W m) m = 0:=by
 have hp:=dF W
 have hA:bh W.length (eN W):=og.perm hp
 have hlen:=iM W m
 have hl:=hp.length_eq
 have fin:(∀ i,i < W.length → ((bB W m).getD i i4).toNat ≤ m) → (aL (bB W m) = 32768 ∨ bb (bB W m) = 0 ∨ bb (bB W m) = 1 ∧ aL (bB W m) = 16384) → aL (bB W m) ≤ 32768 → cz (bB W m) m = 0:=fun h1 h2 h3=>by
  rw [iA]; unfold rF
  rw [hlen,if_neg (by omega),j5 (fun i hi=>h1 i (by rw [hlen] at hi; exact hi)),if_neg (by decide),if_neg (by omega),if_pos h2]
 have zero:∀ i,W.length ≤ i ∨ True → (KJ W.length (0:UInt8)).getD i i4 = 0:=fun i _=>by
  rw [List.getD_eq_getElem?_getD,List.getElem?_replicate]; split <;> rfl
 rw [kg,uE] at fin ⊢
 by_cases c0:(eN W).length = 0
 ·rw [if_pos c0] at fin ⊢
  have s:=w9 (W:=W) (o:=KJ W.length 0) K1 (fun i _ _=>zero i (.inr trivial))
  rw [KT c0] at s
  exact fin (fun i _=>by rw [zero i (.inr trivial)]; exact Li _) (.inr (.inl s.2)) (by rw [s.1]; exact Li _)
 ·rw [if_neg c0] at fin ⊢
  by_cases c1:(eN W).length = 1
  ·rw [if_pos c1] at fin ⊢
   obtain ⟨i0,h0⟩:∃ i0,eN W = [i0]:=List.length_eq_one_iff.1 c1
   rw [h0] at fin hA ⊢
   have hi:i0 < W.length:=hA i0 (List.mem_singleton.2 rfl)
   have at' : ∀ j,((KJ W.length (0:UInt8)).set i0 (Lu 1)).getD j i4 = if i0 = j then Lu 1 else 0:=fun j=>by
    rw [oy (by rw [K1]; exact hi),zero j (.inr trivial)]
   have s:=w9 (W:=W) (o:=(KJ W.length 0).set i0 (Lu 1)) (by rw [Mz,K1]) (fun i hi2 hz=>by
    rw [at', if_neg (fun q=>by
     have:=(rS (W:=W) (i:=i0)).1 (by rw [h0]; exact List.mem_singleton.2 rfl)
     rw [q] at this; omega)])
   rw [h0] at s
   have e1:gV (kf ((KJ W.length 0).set i0 (Lu 1))) [i0] = 16384:=by
    rw [gV,gV,kf,at', if_pos rfl]; rfl
   have e2:gV (uf ((KJ W.length 0).set i0 (Lu 1))) [i0] = 1:=by
    rw [gV,gV,uf,at', if_pos rfl]; rfl
   rw [e1,e2] at s
   refine fin (fun i _=>?_) (.inr (.inr ⟨s.2,s.1⟩)) (by show aL ((KJ W.length 0).set i0 (Lu 1)) ≤ _; rw [s.1]; decide)
   show (((KJ W.length 0).set i0 (Lu 1)).getD i i4).toNat ≤ m
   rw [at']; split
   ·exact hm.1
   ·exact Li _
  ·rw [if_neg c1] at fin ⊢
   have hw:(oh W (eN W) (eN W).length).length = (eN W).length:=ka (KG _)
   have hS:=BP W
   have hlast:2 * (eN W).length - 2 ≠ 0:=by omega
   generalize hSS:eN W = S at *
   generalize oh W S S.length = ws at *
   have hv:oz S (KJ W.length 0) = KJ S.length 0:=by
    unfold oz
    rw [M8]
    refine ⟨by rw [KH],fun b hb=>?_⟩
    obtain ⟨i,_,rfl⟩:=List.mem_map.1 hb
    rw [zero i (.inr trivial)]; rfl
   have hI:LnI ws m (2 * S.length - 2):=by
    have:=LnI.first (ws:=ws) hm.1 (by rw [hw]; omega) (by rw [hw]; omega)
    rwa [hw] at this
   have hK:KrI ws m m (2 * S.length - 2) S.length (oz S (KJ W.length 0)):=by
    refine ⟨hI,KG _,fun q=>by omega,fun q=>?_,⟨[],by rw [hv,LL,Lk],fun x hx=>by cases hx⟩,?_⟩
    ·have:=(hI.nextk (by omega) (m - 1) rfl).2.2
     rwa [hw] at this
    ·rw [hv,iN,Ns]
     generalize 2 ^ m = P
     rw [Ot,LH]
     have:1 * P ≤ S.length * P:=Lc _ (by omega)
     omega
   have hA0:bh (KJ W.length (0:UInt8)).length S:=by rw [K1]; exact hA
   have r:=xb hm.2 hS hw m _ _ _ hA0 hK
   have q:=KrI.last m _ _ _ hK
   rw [← r.1] at q
   generalize hO:zm ws S m (2 * S.length - 2) (KJ W.length 0) = O at *
   have hOl:O.length = W.length:=by rw [← hO,oq,K1]
   have hp2:=tB q.1 (by unfold oz; rw [KH]; omega)
   have s:=w9 (W:=W) (o:=O) hOl (fun i hi hz=>by
    rw [r.2 i (fun hm2=>by rw [← hSS] at hm2; have:=rS.1 hm2; omega),zero i (.inr trivial)])
   rw [hSS] at s
   have e1:∀ l:List Nat,(∀ i ∈ l,(O.getD i i4).toNat ≠ 0) → gV (kf O) l = lv 15 (oz l O):=fun l=>by
    induction l with
    | nil=>intro _; rfl
    | cons x l ih =>
     intro h
     have hx:=h x KO
     show kf O x + gV (kf O) l = 2 ^ (15 - _) + lv 15 (oz l O)
     rw [ih fun i hi=>h i (KM _ hi),kf,if_neg hx]
   have e2:=e1 S fun i hi=>hp2 _ (List.mem_map.2 ⟨i,hi,rfl⟩)
   have e3:=w8 hm.2 (oz S O) q.2.1
   rw [q.1,← NZ,show 15 - m + m = 15 from by omega] at e3
   have hk:aL O = 32768:=by rw [s.1,e2,e3]
   refine fin (fun i hi=>?_) (.inl hk) (Nat.le_of_eq hk)
   by_cases hi2:i ∈ S
   ·exact q.2.1 _ (List.mem_map.2 ⟨i,hi2,rfl⟩)
   ·rw [r.2 i hi2,zero i (.inr trivial)]; exact Li _
end Vp
end Go.Proofs.Ytefjnofhgkjpmaa
namespace Go.Proofs.Ytefjnofhgkjpmaa
open Go.RowKit Go.Bw Go.Vx
namespace Vp
def bc (k:Nat) (S:List Nat):List Nat:=lk S ((Lf k).map fun i=>S.count i)
theorem xc (k:Nat) (S:List Nat):bc k S = (Lf k).map fun i=>S.count i:=aA _ _
theorem dU (k:Nat) (S:List Nat):(bc k S).length = k:=by rw [xc,KH,LG]
theorem tD (k:Nat) (S:List Nat) (i:Nat):(bc k S)[i]? = if i < k then some (S.count i) else none:=by
 rw [xc,List.getElem?_map]
 rcases K3 i k with h | h
 ·rw [List.getElem?_range h,if_pos h]; rfl
 ·rw [List.getElem?_eq_none (by simpa using h),if_neg (by omega)]; rfl
theorem rT (k:Nat) (S:List Nat) (i:Nat):(bc k S).getD i i4 = if i < k then S.count i else 0:=by
 rw [List.getD_eq_getElem?_getD,tD]; split <;> rfl
theorem eY (k:Nat) (S:List Nat) (i:Nat):(bc k S).getD i i4 ≤ S.length:=by
 rw [rT]; split
 ·exact List.count_le_length
 ·exact Li _
theorem xd (k:Nat):bc k [] = KJ k 0:=by
 apply List.ext_getElem?
 intro i
 rw [tD,List.getElem?_replicate]; rfl
theorem He {k:Nat} {S:List Nat} {i:Nat} (h:i < k):bc k (S ++ [i]) = (bc k S).set i ((bc k S).getD i i4 + 1):=by
 apply List.ext_getElem?
 intro j
 rw [List.getElem?_set,dU,tD,tD]
 by_cases e:i = j
 ·subst e; rw [if_pos h,if_pos rfl,if_pos h,rT,if_pos h,Oi,N0,beq_self_eq_true]; rfl
 ·rw [if_neg e]; split
  ·rw [Oi,N0,beq_eq_false_iff_ne.2 (fun q=>e q)]; rfl
  ·rfl
theorem xe {k:Nat} {S:List Nat} {i a b:Nat} {x:Int} (h:i < k) (ha:a = i) (hb:b = i) (hx:x = (((bc k S).getD b i4:Nat):Int) + 1):af ((bc k S).map nD) a [D.v (.int .i64 x)] = (bc k (S ++ [i])).map nD:=by
 subst ha hb hx; rw [He h]; exact Dn (by rw [dU]; exact h)
def BQ (T1:List Sy) (t:Tn):Nat:=if t.long = 0 then t.lit.toNat else 257 + ai T1 t.long
def DC (T2:List Sy) (t:Tn):List Nat:=if t.long = 0 then [] else [ai T2 t.dist]
def cE (T1:List Sy) (l:List Tn) (i:Nat):List Nat:=lk l ((l.take i).map (BQ T1))
def ew (T2:List Sy) (l:List Tn) (i:Nat):List Nat:=lk l ((l.take i).flatMap (DC T2))
section
variable {T1 T2:List Sy} {l:List Tn} {i:Nat}
theorem qp:cE T1 l i = (l.take i).map (BQ T1):=aA _ _
theorem tE:ew T2 l i = (l.take i).flatMap (DC T2):=aA _ _
theorem Jo:cE T1 l 0 = []:=qp
theorem Hf:ew T2 l 0 = []:=tE
theorem oD:(cE T1 l i).length ≤ i:=by rw [qp,KH,KC]; omega
theorem DD (h:i < l.length):ew T2 l (i + 1) = ew T2 l i ++ DC T2 (l.getD i i4):=by
 have e1:l.take (i + 1) = l.take i ++ [l.getD i i4]:=by
  rw [K4 h,List.getD_eq_getElem?_getD,List.getElem?_eq_getElem h]; rfl
 rw [tE,tE,e1,Mb,MH]
theorem Hg (h:i < l.length):cE T1 l (i + 1) = cE T1 l i ++ [BQ T1 (l.getD i i4)]:=by
 have e1:l.take (i + 1) = l.take i ++ [l.getD i i4]:=by
  rw [K4 h,List.getD_eq_getElem?_getD,List.getElem?_eq_getElem h]; rfl
 rw [qp,qp,e1,Lh]; rfl
theorem rU:∀ i,i ≤ l.length → (ew T2 l i).length ≤ i
 | 0,_=>by rw [Hf]; exact KG _
 | i + 1,h=>by
  rw [DD (by omega),Kw]
  have:=rU i (by omega)
  unfold DC; split <;> simp <;> omega
theorem BR (h:i < l.length) (h0:(l.getD i i4).long = 0):cE T1 l (i + 1) = cE T1 l i ++ [(l.getD i i4).lit.toNat] ∧ ew T2 l (i + 1) = ew T2 l i:=by
 rw [Hg h,DD h,BQ,DC,if_pos h0,if_pos h0,Lk]; exact ⟨rfl,rfl⟩
theorem BS (h:i < l.length) (h0:(l.getD i i4).long ≠ 0):cE T1 l (i + 1) = cE T1 l i ++ [257 + ai T1 (l.getD i i4).long] ∧ ew T2 l (i + 1) = ew T2 l i ++ [ai T2 (l.getD i i4).dist]:=by
 rw [Hg h,DD h,BQ,DC,if_neg h0,if_neg h0]; exact ⟨rfl,rfl⟩
end
theorem xf:∀ (l:List UInt8) (n:Nat),(∀ i,n ≤ i → (l.getD i i4).toNat = 0) → aL (l.take n) = aL l ∧ bb (l.take n) = bb l
 | [],n,_=>by rw [List.take_nil]; exact ⟨rfl,rfl⟩
 | x :: r,0,h=>by
  have ih:=xf r 0 fun i _=>h (i + 1) (Li _)
  have h0:x.toNat = 0:=h 0 (KG _)
  rw [List.take_zero] at ih ⊢
  rw [aL,aL,bb,bb,if_pos h0,if_pos h0,← ih.1,← ih.2]; exact ⟨rfl,rfl⟩
 | x :: r,n + 1,h=>by
  have ih:=xf r n fun i hi=>h (i + 1) (Mq hi)
  rw [N3,aL,aL,bb,bb,ih.1,ih.2]; exact ⟨rfl,rfl⟩
theorem tF {l:List UInt8} {m:Nat}:∀ n,∀ i,s8 l m n ≤ i → i < n → l.getD i i4 = 0
 | 0,i,_,h=>absurd h (LJ _)
 | n + 1,i,h,h2=>by
  rw [s8] at h
  split at h
  ·next q =>
   rcases K3 i n with r | r
   ·exact tF n i h r
   ·rw [show i = n from by omega]; exact q.2
  ·omega
theorem ki {l:List UInt8} {i:Nat} (h:l.length ≤ i):l.getD i i4 = 0:=by
 rw [List.getD_eq_getElem?_getD,List.getElem?_eq_none h]; rfl
def qH (l:List UInt8) (m:Nat):List UInt8:=lk l (l.take (gl l m))
theorem jg (l:List UInt8) (m:Nat):qH l m = l.take (gl l m):=aA _ _
theorem kj (l:List UInt8) (m:Nat):(qH l m).length = gl l m:=by
 rw [jg,KC]; have:=(jc l m).1; omega
theorem DE (l:List UInt8) (m i:Nat):(qH l m).getD i i4 = l.getD i i4:=by
 rw [jg,List.getD_eq_getElem?_getD,List.getElem?_take]
 split
 ·rw [List.getD_eq_getElem?_getD]
 ·rcases K3 i l.length with q | q
  ·rw [tF (m:=m) l.length i (by rw [← li]; omega) q]; rfl
  ·rw [ki q]; rfl
theorem tG {l:List UInt8} {m q:Nat} (h:cz l m = 0):cz (qH l q) m = 0:=by
 have h0:=eU h
 have hk:=xf l (gl l q) (fun i hi=>by
  rcases K3 i l.length with r | r
  ·rw [tF (m:=q) l.length i (by rw [← li]; exact hi) r]; rfl
  ·rw [ki r]; rfl)
 have hl:(qH l q).length ≤ 320:=by rw [kj]; have:=(jc l q).1; omega
 have ho:dj (qH l q) m = false:=j5 fun i hi=>by
  rw [DE]
  exact eJ h0.2.1 (by rw [kj] at hi; have:=(jc l q).1; omega)
 rw [iA] at h ⊢
 unfold rF at h ⊢
 rw [if_neg (by omega),h0.2.1] at h
 rw [if_neg (by omega),ho,show aL (qH l q) = aL l from by rw [jg]; exact hk.1,show bb (qH l q) = bb l from by rw [jg]; exact hk.2]
 exact h
def dW {α:Type} (H:List Nm) (g:α → List Nm) (l:List α) (i:Nat):List Nm:=lk l (H ++ (l.take i).flatMap g)
section
variable {α:Type} {H:List Nm} {g:α → List Nm} {l:List α} {i:Nat}
theorem jh:dW H g l i = H ++ (l.take i).flatMap g:=aA _ _
theorem qq:dW H g l 0 = H:=by rw [jh]; exact Lk _
theorem qr [Inhabited α] (h:i < l.length):dW H g l (i + 1) = dW H g l i ++ g (l.getD i i4):=by
 have e1:l.take (i + 1) = l.take i ++ [l.getD i i4]:=by
  rw [K4 h,List.getD_eq_getElem?_getD,List.getElem?_eq_getElem h]; rfl
 rw [jh,jh,e1,Mb,← KS,MH]
theorem iO [Inhabited α] {c:Nat} (hc:∀ x,(g x).length = c):∀ i,i ≤ l.length → (dW H g l i).length = H.length + c * i
 | 0,_=>by rw [qq]; rfl
 | i + 1,h=>by
  rw [qr (by omega),Kw,iO hc i (by omega),hc,Mo,KW,LK]
end
def lx (x:UInt8):List Nm:=[⟨x.toNat,3⟩]
def lN (C:List (Nat × Nat)) (r:Rn):List Nm:=gn C r.s (rb r.s) r.x
def oE:List Nat:=[16,17,18,0,8,7,9,6,10,5,11,4,12,3,13,2,14,1,15]
theorem Hh:∀ i,i < 19 → oE.getD i i4 < 19:=by decide
def iR (C:List UInt8) (i:Nat):List UInt8:=lk C ((oE.take i).map fun s=>C.getD s i4)
theorem ly (C:List UInt8) (i:Nat):iR C i = (oE.take i).map fun s=>C.getD s i4:=aA _ _
theorem Hi (C:List UInt8):iR C 0 = []:=ly C 0
theorem tH (C:List UInt8) {i:Nat} (h:i ≤ 19):(iR C i).length = i:=by
 rw [ly,KH,KC,show oE.length = 19 from rfl]; omega
theorem Hj (C:List UInt8) {i:Nat} (h:i < 19):iR C (i + 1) = iR C i ++ [C.getD (oE.getD i i4) i4]:=by
 have e1:oE.take (i + 1) = oE.take i ++ [oE.getD i i4]:=by
  rw [K4 (show i < oE.length from h),List.getD_eq_getElem?_getD,List.getElem?_eq_getElem (show i < oE.length from h)]; rfl
 rw [ly,ly,e1,Lh]; rfl
theorem Jp (i:Nat) (h:i < 19):(oE.map nD)[i]? = some (nD (oE.getD i i4)):=by
 rw [List.getElem?_map,List.getElem?_eq_getElem (show i < oE.length from h),List.getD_eq_getElem?_getD,List.getElem?_eq_getElem (show i < oE.length from h)]; rfl
theorem lD {l:List UInt8} (ho:∀ i,(l.getD i i4).toNat ≤ 15):∀ (f a:Nat),∀ r ∈ i9 l f a,r.s ≤ 18 ∧ r.x < 2 ^ rb r.s
 | 0,_=>fun r hr=>absurd hr MD
 | f + 1,a=>by
  rw [i9]
  split
  ·exact fun r hr=>absurd hr MD
  ·split
   ·intro r hr
    rcases List.mem_cons.1 hr with e | e
    ·subst e; refine ⟨KG _,?_⟩; show min (cb l a) 138 - 11 < 2 ^ 7; omega
    ·exact lD ho f _ r e
   ·split
    ·intro r hr
     rcases List.mem_cons.1 hr with e | e
     ·subst e; refine ⟨Nat.le_succ _,?_⟩; show cb l a - 3 < 2 ^ 3; omega
     ·exact lD ho f _ r e
    ·split
     ·intro r hr
      rcases List.mem_cons.1 hr with e | e
      ·subst e; refine ⟨show (16:Nat) ≤ 18 from by decide,?_⟩; show min (cb l a) 6 - 3 < 2 ^ 2; omega
      ·exact lD ho f _ r e
     ·intro r hr
      rcases List.mem_cons.1 hr with e | e
      ·subst e
       have h1:=ho a
       refine ⟨KK h1 (by decide),?_⟩
       show 0 < 2 ^ rb _
       exact LZ _
      ·exact lD ho f _ r e
theorem DF {l:List UInt8} (ho:∀ i,(l.getD i i4).toNat ≤ 15) (i:Nat):((uM l).getD i i4).s ≤ 18 ∧ ((uM l).getD i i4).x < 2 ^ rb ((uM l).getD i i4).s:=by
 rw [List.getD_eq_getElem?_getD]
 rcases K3 i (uM l).length with h | h
 ·rw [List.getElem?_eq_getElem h]
  have hm:(uM l)[i] ∈ i9 l l.length 0:=by rw [← rH]; exact Ld h
  exact lD ho _ _ _ hm
 ·rw [List.getElem?_eq_none h]; exact ⟨Li _,by decide⟩
theorem zq (l:List UInt8):(uM l).length ≤ l.length:=by rw [rH]; exact iB _ _ _
theorem DG (l:List UInt8) (j:Nat) (ho:dj l 15 = false):(ab l).getD j i4 = if j < l.length ∧ (l.getD j i4).toNat ≠ 0 then (pU l j,(l.getD j i4).toNat) else (0,0):=by
 rw [← Bh ho,lh,List.getD_eq_getElem?_getD,List.getElem?_map]
 rcases K3 j l.length with h | h
 ·rw [List.getElem?_range h]; exact rfl
 ·rw [List.getElem?_eq_none (by simpa using h),if_neg (by omega)]; rfl
theorem xg {l:List UInt8} {s:Nat} (h:s < l.length):(ef l (l.getD s i4).toNat s).length < (ef l (l.getD s i4).toNat l.length).length:=by
 obtain ⟨r,hr⟩:=lf l (l.getD s i4).toNat (s + 1) (l.length - (s + 1))
 rw [show s + 1 + (l.length - (s + 1)) = l.length from by omega,gK,if_pos rfl] at hr
 rw [hr,Kw,Kw,Lg]; omega
theorem ej {l:List UInt8} (h:cz l 15 = 0):lK (ab l):=fun s=>by
 have h0:=eU h
 rw [DG l s h0.2.1]
 split
 ·next q =>
  have h1:=eJ h0.2.1 q.1
  refine ⟨h1,?_⟩
  have h2:=Bi h h1
  have h3:=Bd rfl q.2 h1
  have h4:=xg q.1
  show pU l s < 2 ^ (l.getD s i4).toNat
  rw [k7] at h2
  unfold wc at h2
  rw [if_neg q.2] at h2
  omega
 ·exact ⟨Li _,by decide⟩
theorem qt (W:List Nat) (hL:W.length ≤ 320) (m:Nat) (hm:1 ≤ m ∧ m ≤ 15) (hNm:(et W W.length).length ≤ 2 ^ m) {i:Nat} (hi0:0 < W.getD i i4):((bB W m).getD i i4).toNat ≠ 0:=by
 have hp:=dF W
 have hA:bh W.length (eN W):=og.perm hp
 have hl:=hp.length_eq
 have hiW:i < W.length:=by
  rcases K3 i W.length with q | q
  ·exact q
  ·rw [List.getD_eq_getElem?_getD,List.getElem?_eq_none q] at hi0; exact absurd hi0 (Nf 0)
 have hiS:i ∈ eN W:=rS.2 ⟨hiW,hi0⟩
 have zero:∀ i,(KJ W.length (0:UInt8)).getD i i4 = 0:=fun i=>by
  rw [List.getD_eq_getElem?_getD,List.getElem?_replicate]; split <;> rfl
 rw [kg,uE]
 by_cases c0:(eN W).length = 0
 ·rw [KT c0] at hiS; exact absurd hiS MD
 ·rw [if_neg c0]
  by_cases c1:(eN W).length = 1
  ·rw [if_pos c1]
   obtain ⟨i0,h0⟩:∃ i0,eN W = [i0]:=List.length_eq_one_iff.1 c1
   rw [h0] at hiS ⊢
   have e:i = i0:=List.mem_singleton.1 hiS
   subst e
   show (((KJ W.length (0:UInt8)).set i (Lu 1)).getD i i4).toNat ≠ 0
   rw [oy (by rw [K1]; exact hiW),if_pos rfl]; decide
  ·rw [if_neg c1]
   have hw:(oh W (eN W) (eN W).length).length = (eN W).length:=ka (KG _)
   have hS:=BP W
   generalize hSS:eN W = S at *
   generalize oh W S S.length = ws at *
   have hv:oz S (KJ W.length 0) = KJ S.length 0:=by
    unfold oz
    rw [M8]
    refine ⟨by rw [KH],fun b hb=>?_⟩
    obtain ⟨i,_,rfl⟩:=List.mem_map.1 hb
    rw [zero i]; rfl
   have hI:LnI ws m (2 * S.length - 2):=by
    have:=LnI.first (ws:=ws) hm.1 (by rw [hw]; omega) (by rw [hw]; omega)
    rwa [hw] at this
   have hK:KrI ws m m (2 * S.length - 2) S.length (oz S (KJ W.length 0)):=by
    refine ⟨hI,KG _,fun q=>by omega,fun q=>?_,⟨[],by rw [hv,LL,Lk],fun x hx=>by cases hx⟩,?_⟩
    ·have:=(hI.nextk (by omega) (m - 1) rfl).2.2
     rwa [hw] at this
    ·rw [hv,iN,Ns]
     generalize 2 ^ m = P
     rw [Ot,LH]
     have:1 * P ≤ S.length * P:=Lc _ (by omega)
     omega
   have hA0:bh (KJ W.length (0:UInt8)).length S:=by rw [K1]; exact hA
   have r:=xb hm.2 hS hw m _ _ _ hA0 hK
   have q:=KrI.last m _ _ _ hK
   rw [← r.1] at q
   have hp2:=tB q.1 (by unfold oz; rw [KH]; omega)
   exact hp2 _ (List.mem_map.2 ⟨i,hiS,rfl⟩)
theorem xh {l:List UInt8} {m s:Nat} (h:(l.getD s i4).toNat ≠ 0):s < gl l m:=by
 rcases K3 s (gl l m) with q | q
 ·exact q
 ·exfalso
  rcases K3 s l.length with r | r
  ·rw [tF (m:=m) l.length s (by rw [← li]; exact q) r] at h; exact h rfl
  ·rw [ki r] at h; exact h rfl
theorem tI {k:Nat} {S:List Nat} {s:Nat} (h:s < k) (hm:s ∈ S):0 < (bc k S).getD s i4:=by
 rw [rT,if_pos h]; exact List.count_pos_iff.2 hm
theorem xi {T1:List Sy} {l:List Tn} {i k:Nat} (hk:k = l.length) (h:i < k):BQ T1 (l.getD i i4) ∈ cE T1 l k:=by
 rw [qp,hk,KZ (KG _),List.getD_eq_getElem?_getD,List.getElem?_eq_getElem (by omega)]
 exact List.mem_map_of_mem (Ld _)
theorem DH {T2:List Sy} {l:List Tn} {i k:Nat} (hk:k = l.length) (h:i < k) (h0:(l.getD i i4).long ≠ 0):ai T2 (l.getD i i4).dist ∈ ew T2 l k:=by
 rw [tE,hk,KZ (KG _)]
 have hi:i < l.length:=by omega
 rw [List.getD_eq_getElem?_getD,List.getElem?_eq_getElem hi] at h0 ⊢
 refine List.mem_flatMap.2 ⟨l[i],Ld hi,?_⟩
 unfold DC
 rw [if_neg (show ¬ l[i].long = 0 from h0)]; exact List.mem_singleton.2 rfl
theorem kn (k:Nat) (S:List Nat) (i:Nat) {a b:Nat} (h:i < k) (ha:a = i) (hb:b = i):af ((bc k S).map nD) a [D.v (.int .i64 ((((bc k S).getD b i4:Nat):Int) + 1))] = (bc k (S ++ [i])).map nD:=xe h ha hb rfl
theorem iP (k:Nat) (S:List Nat) (i:Nat) {o:Nat} (h:i < k) (ho:o = i):((bc k S).map nD)[o]? = some (nD ((bc k S).getD i i4)):=by
 subst ho
 rw [List.getElem?_map,List.getD_eq_getElem?_getD,List.getElem?_eq_getElem (by rw [dU]; exact h)]; rfl
theorem Hk (k:Nat) (S:List Nat) (i:Nat) (W:List Nat) (hW:bc k (S ++ [i]) = W) {a b:Nat} (h:i < k) (ha:a = i) (hb:b = i):af ((bc k S).map nD) a [D.v (.int .i64 ((((bc k S).getD b i4:Nat):Int) + 1))] = W.map nD:=by rw [← hW]; exact xe h ha hb rfl
def BT (C:List UInt8) (i:Nat):Nat:=lk C (oE.getD i i4)
theorem rV (C:List UInt8) (i:Nat):BT C i = oE.getD i i4:=aA _ _
theorem xj (C:List UInt8) (i:Nat) (h:i < 19):BT C i < 19:=by rw [rV]; exact Hh i h
theorem Hl (C:List UInt8) (i:Nat) (h:i < 19):(oE.map nD)[i]? = some (nD (BT C i)):=by rw [rV]; exact Jp i h
theorem zr {l:List UInt8} {n i:Nat} (h:i < n):(l.take n).getD i i4 = l.getD i i4:=by
 rw [List.getD_eq_getElem?_getD,List.getElem?_take,if_pos h,← List.getD_eq_getElem?_getD]
theorem Hm {e n1 n2 n3:Nat} {x y z:Int} (hx:x = ((n1 - 257:Nat):Int)) (hy:y = ((n2 - 1:Nat):Int)) (hz:z = ((n3 - 4:Nat):Int)):[D.v (.int .u32 (e:Int)),D.v (.int .i64 1),D.v (.int .u32 2),D.v (.int .i64 2),D.v (.int .u32 x),D.v (.int .i64 5),D.v (.int .u32 y),D.v (.int .i64 5),D.v (.int .u32 z),D.v (.int .i64 4)] = (lJ e 2 ++ ([⟨n1 - 257,5⟩,⟨n2 - 1,5⟩,⟨n3 - 4,4⟩]:List Nm)).flatMap aK:=by
 subst hx hy hz; rfl

end Vp
end Go.Proofs.Ytefjnofhgkjpmaa
namespace Go.Proofs.Ytefjnofhgkjpmaa
open Go.RowKit Go.Bw Go.Vx
namespace Vt
abbrev iD (i:Int):D:=.v (.int .i64 i)
abbrev cM:D:=.v (.slice none 0 0)
structure Tok where
 lit:UInt8
 dist:Int
 long:Int
 deriving Inhabited
abbrev tokD (t:Tok):List D:=[dB t.lit,iD t.dist,iD t.long]
end Vt
end Go.Proofs.Ytefjnofhgkjpmaa
namespace Go.Proofs.Ytefjnofhgkjpmaa
open Go.RowKit Go.Bw Go.Vx
open List (length getD map take drop flatMap replicate)
namespace Vm
theorem lE {p:Prop} (h:p:=by (refine aJ ?_; (omega))):p:=h
theorem uG {p:Prop} (h:p:=by ((refine aF ?_ ?_) <;> (repeat' (first | (refine aF ?_ ?_) | (with_reducible rfl) | (refine decide_eq_true ?_) | (refine KA ?_) | (refine er ?_))) <;> (omega))):p:=h
theorem uH {p:Prop} (h:p:=by (exact fN _ (by decide) (by decide))):p:=h
theorem zt {p:Prop} (h:p:=by (refine tK hh ?_ ?_ ?_ <;> (omega))):p:=h
theorem zu {p:Prop} (h:p:=by show j - 1 < j; clear next1 last1; omega):p:=h
abbrev iD (i:Int):D:=.v (.int .i64 i)
abbrev cM:D:=.v (.slice none 0 0)
theorem Jq (x:Int):KP .u32 x = x % 4294967296:=rfl
abbrev bI (l:List UInt8) (i:Nat):Int:=((l.getD i i4).toNat:Int)
def bE (l:List UInt8) (i:Nat):Int:=((bI l (i + 2) * 16777619 + bI l (i + 1)) * 16777619 + bI l i) % 4294967296
abbrev DI:Int:=1055306571
theorem mZ (l:List UInt8) (i:Nat):0 ≤ bI l i ∧ bI l i < 256:=by
 have h:=(l.getD i i4).toNat_lt
 unfold bI
 constructor <;> omega
def hR (p:List UInt8):Nat → Int
 | 0=>0
 | k + 1=>((((hR p k * 16777619) % 4294967296) + bI p (2 - k)) % 4294967296)
theorem zv {p:List UInt8} {k j:Nat} {h:Int} (hh:h = hR p k) (hj:j = 2 - k):((((h * 16777619) % 4294967296) + bI p j) % 4294967296) = hR p (k + 1):=by rw [hh,hj,hR]
theorem Jr (p:List UInt8):hR p 3 = bE p 0:=by
 have h0:=mZ p 0; have h1:=mZ p 1; have h2:=mZ p 2
 simp only [hR,Jq,bE,show 2 - 0 = 2 from rfl,show 2 - 1 = 1 from rfl,show 2 - 2 = 0 from rfl,show 0 + 2 = 2 from rfl,show 0 + 1 = 1 from rfl]
 omega
theorem hash (p:List UInt8) (hp:p.length = 3) (H:Int) (hH:H = bE p 0):SpecH false Try.prog 136 [.sl false 3 1 (p.map dB)] [] (.tup [.v (.int .u32 H),.v (.int .u32 DI)]) []:=by
 refine SpecH.run T_ok ag Try.func136 rfl rfl rfl trivial rfl 1000 64 (fun R ok=>(.s 9 (Hn.inl T_ok ag false 41 0 (aq Try.prog 136 0) (fun (x:(k:Nat) ×' (hk:k ≤ 3) ×' (h:Int) ×' (hh:h = hR p k) ×' Unit)=>match x with | ⟨k,hk,h,hh,_⟩=>CutS.mk [(0,D.sl false 3 1 (map dB p)),(4,.v (.int .u32 h)),(5,iD (2 - (k:Int)))] [] 0) (fun (x:(k:Nat) ×' (hk:k ≤ 3) ×' (h:Int) ×' (hh:h = hR p k) ×' Unit)=>match x with | ⟨k,hk,h,hh,_⟩=>3 - k) [⟨Unit,.exit 0,fun x=>match x with | ()=>CutS.mk [(0,D.sl false 3 1 (map dB p)),(4,.v (.int .u32 H))] [] 0⟩] 1000 64 (fun | ⟨k,hk,h,hh,_⟩,Q,next1,last1=>(.s 3 (.br (decide (0 ≤ 2 - (k:Int))) (fun p0=>have p0f:=aN p0; (.s 3 (.opt (ap .u32 (h * 16777619)) (uI (h * 16777619 % 4294967296)) (aE _ _) (.s 3 (.chk (decide (0 ≤ 2 - (k:Int)) && decide (2 - (k:Int) < (↑3:Int)) && true) uG (.s 2 (.opt ((map dB p)[un (2 - (k:Int)) * 1]?) (dB (getD p (un (2 - (k:Int)) * 1) i4)) (ao _ _ om) (.s 1 (.opt (ap .u32 (↑(Ku (getD p (un (2 - (k:Int)) * 1) i4)):Int)) (ac (Ku (getD p (un (2 - (k:Int)) * 1) i4))) (ar uH) (.s 2 (.opt (ap .u32 (h * 16777619 % 4294967296 + (↑(Ku (getD p (un (2 - (k:Int)) * 1) i4)):Int))) (uI ((h * 16777619 % 4294967296 + (↑(Ku (getD p (un (2 - (k:Int)) * 1) i4)):Int)) % 4294967296)) (aE _ _) (.s 4 (.ow (2 - (k:Int) - 1) (.s 1 (.val 4 (uI ((h * 16777619 % 4294967296 + (↑(Ku (getD p (un (2 - (k:Int)) * 1) i4)):Int)) % 4294967296)) (uI ((h * 16777619 % 4294967296 + bI p (2 - k)) % 4294967296)) (by (refine aJ (congrArg (fun z=>((((h * 16777619) % 4294967296) + bI p z) % 4294967296)) ?_); (omega))) (.val 5 (zI (2 - (k:Int) - 1)) (zI (2 - (↑(k + 1):Int))) lE (Hn.next next1 ⟨(k+1),om,(((((h * 16777619) % 4294967296) + bI p (2 - k)) % 4294967296)),(by (refine zv hh ?_; (omega))),⟨⟩⟩ (by show 3 - (k + 1) < 3 - k; clear next1 last1; omega) [] ro))))))))))))))))) (fun p0=>have p0f:=aO p0; (.val 4 (uI h) (uI H) (by (refine aJ ?_; rw [hh,hH,show k = 3 from by (omega),Jr])) (Hn.last last1 0 (():Unit) rfl [] ro)))))) (fun | ⟨k,hk,h,hh,_⟩=>by kernel_rfl) ⟨(0),om,(0),(by exact rfl),⟨⟩⟩ [] ro (bX (fun | ()=>(.s 70 (.out [] [] (D.tup [uI H,uI 1055306571]) [] R (ok _ _ wr wr)))))))) (by kernel_rfl)
def aj (s p:List UInt8):Nat → Int
 | 0=>-1
 | k + 1=>if (s.drop k).take 3 = p then (k:Int) else aj s p k
theorem xk {s p:List UInt8} {i:Nat} (h:(s.drop i).take 3 = p) (hi:i + 3 ≤ s.length):bE s i = bE p 0:=by
 have e:∀ j,j < 3 → bI p j = bI s (i + j):=fun j hj=>by
  unfold bI
  rw [← h]
  simp only [List.getD_eq_getElem?_getD,List.getElem?_take,List.getElem?_drop,hj,if_true]
 unfold bE
 rw [e 0 (by decide),e 1 (by decide),e 2 (by decide)]
 rfl
theorem Js (s:List UInt8) (i:Nat):((((((bE s (i + 1) * 16777619) % 4294967296) + bI s i) % 4294967296) - ((DI * bI s (i + 3)) % 4294967296)) % 4294967296) = bE s i:=by
 simp only [DI,Jq,bE,show i + 1 + 2 = i + 3 from rfl,show i + 1 + 1 = i + 2 from rfl]
 omega
def hW (s:List UInt8) (i:Nat):Nat → Int
 | 0=>0
 | k + 1=>((((hW s i k * 16777619) % 4294967296) + bI s (i + (2 - k))) % 4294967296)
theorem zw {s:List UInt8} {i k j:Nat} {h:Int} (hh:h = hW s i k) (hj:j = i + (2 - k)):((((h * 16777619) % 4294967296) + bI s j) % 4294967296) = hW s i (k + 1):=by rw [hh,hj,hW]
theorem Jt (s:List UInt8) (i:Nat):hW s i 3 = bE s i:=by
 have h0:=mZ s i; have h1:=mZ s (i + 1); have h2:=mZ s (i + 2)
 simp only [hW,Jq,bE,show 2 - 0 = 2 from rfl,show 2 - 1 = 1 from rfl,show 2 - 2 = 0 from rfl,MG]
 omega
theorem qu {s p:List UInt8} {k m:Nat} (hm:m = k + 1) (h:(s.drop k).take 3 = p):aj s p m = k:=by rw [hm,aj,if_pos h]
theorem ji {s p:List UInt8} {k m:Nat} (hm:m = k + 1) (h:(s.drop k).take 3 ≠ p):aj s p m = aj s p k:=by rw [hm,aj,if_neg h]
theorem m5 {s p:List UInt8} {k m:Nat} {h H:Int} (hm:m = k + 1) (hl:m + 2 ≤ s.length) (hh:h = bE s k) (hH:H = bE p 0) (hne:h ≠ H):aj s p m = aj s p k :=
 ji hm fun e=>hne (by rw [hh,hH]; exact xk e (by omega))
theorem DJ {l p:List UInt8} (e:(K0 { data:=l.toArray } == K0 { data:=p.toArray }) = true):l = p:=by rw [fk,fk] at e; exact eq_of_beq e
theorem DK {l p:List UInt8} (e:(K0 { data:=l.toArray } == K0 { data:=p.toArray }) = false):l ≠ p:=by rw [fk,fk] at e; exact am e
theorem tJ {s:List UInt8} {n j:Nat} (hn:n = s.length) (h3:3 ≤ n) (hj:j = n - 3):s.drop j = (s.drop (n - 3)).take 3:=by
 rw [hj,KZ (by rw [KQ]; omega)]
theorem m6 {s p:List UInt8} {a:Int} {j:Nat} (hl:a = aj s p j) (hj:j = 0):a = -1:=by rw [hl,hj]; rfl
theorem tK {s:List UInt8} {j a b:Nat} {h:Int} (hh:h = bE s j) (hj:0 < j) (ha:a = j - 1) (hb:b = j + 2):((((((h * 16777619) % 4294967296) + ((s.getD a i4).toNat:Int)) % 4294967296) - ((1055306571 * ((s.getD b i4).toNat:Int)) % 4294967296)) % 4294967296) = bE s (j - 1):=by
 have e1:bE s j = bE s (a + 1):=congrArg (bE s) (by omega)
 have e2:b = a + 3:=by omega
 have e3:=Js s a
 rw [hh,e1,e2,← ha]
 exact e3
theorem xl {s:List UInt8} {j:Nat} (hj:0 < j):K7 (((j:Int) - 1 + 3).toNat - ((j:Int) - 1).toNat) (K8 ((j:Int) - 1).toNat s) = (s.drop (j - 1)).take 3:=by
 rw [show ((j:Int) - 1 + 3).toNat - ((j:Int) - 1).toNat = 3 from by omega,show ((j:Int) - 1).toNat = j - 1 from by omega]
theorem tL {s p:List UInt8} {j:Nat} {a:Int} (hl:a = aj s p j) (hj:0 < j) (e:(K0 { data:=(K7 (((j:Int) - 1 + 3).toNat - ((j:Int) - 1).toNat) (K8 ((j:Int) - 1).toNat s)).toArray } == K0 { data:=p.toArray }) = false):a = aj s p (j - 1):=by
 rw [hl]
 refine ji (by omega) ?_
 rw [← xl hj]
 exact DK e
theorem xm {s p:List UInt8} {j:Nat} {a:Int} (hl:a = aj s p j) (hj:0 < j) (e:(K0 { data:=(K7 (((j:Int) - 1 + 3).toNat - ((j:Int) - 1).toNat) (K8 ((j:Int) - 1).toNat s)).toArray } == K0 { data:=p.toArray }) = true):(j:Int) - 1 = a:=by
 rw [hl,qu (k:=j - 1) (by omega) (by rw [← xl hj]; exact DJ e)]
 omega
theorem tM {s p:List UInt8} {j:Nat} {a h H:Int} (hl:a = aj s p j) (hj:0 < j) (hb:j + 2 ≤ s.length) (hh:h = bE s j) (hH:H = bE p 0) (e:(((((((h * 16777619) % 4294967296) + ((s.getD (((j:Int) - 1).toNat * 1) i4).toNat:Int)) % 4294967296) - ((1055306571 * ((s.getD (((j:Int) - 1 + 3).toNat * 1) i4).toNat:Int)) % 4294967296)) % 4294967296) == H) = false):a = aj s p (j - 1) :=
 hl.trans (m5 (by omega) hb (tK hh hj (by omega) (by omega)) hH (am e))
theorem zx {s p:List UInt8} {n:Nat} (hn:n = s.length) (h3:3 ≤ n) (e:(K0 { data:=(K8 ((n:Int) - 3).toNat s).toArray } == K0 { data:=p.toArray }) = true):(n:Int) - 3 = aj s p (n - 2):=by
 rw [qu (k:=n - 3) (by omega) (by rw [← tJ hn h3 rfl,← DJ e]; exact congrArg (K8 · s) (by omega))]
 omega
theorem rk (s p:List UInt8) (n:Nat) (hn:n = s.length) (hp:p.length = 3) (h3:4 ≤ n) (h4:n ≤ 1000000) (H:Int) (hH:H = bE p 0):SpecH false Try.prog 134 [.sl false n 1 (s.map dB),.sl false 3 1 (p.map dB)] [] (iD (aj s p (n - 2))) []:=by
 refine SpecH.run T_ok ag Try.func134 rfl rfl rfl trivial rfl 1000 64 (fun R ok=>(.s 3 (.cl 136 false [] (.fn Ix (@Go.Proofs.Ytefjnofhgkjpmaa.Vm.hash (p) om (H) bk)) (.s 15 (.ow ((n:Int) - 3) (.s 6 (.ow ((n:Int) - 1) (.s 1 (.val 10 (zI ((n:Int) - 1)) (zI ((n:Int) - 1 - 0)) lE (Hn.inl T_ok ag false 94 0 (aq Try.prog 134 0) (fun (x:(k:Nat) ×' (hk:k ≤ 3) ×' (h:Int) ×' (hh:h = hW s (n - 3) k) ×' Unit)=>match x with | ⟨k,hk,h,hh,_⟩=>CutS.mk [(0,D.sl false n 1 (map dB s)),(1,D.sl false 3 1 (map dB p)),(5,uI H),(6,uI 1055306571),(7,zI 3),(8,zI ((n:Int) - 3)),(9,.v (.int .u32 h)),(10,iD ((n:Int) - 1 - (k:Int)))] [] 0) (fun (x:(k:Nat) ×' (hk:k ≤ 3) ×' (h:Int) ×' (hh:h = hW s (n - 3) k) ×' Unit)=>match x with | ⟨k,hk,h,hh,_⟩=>3 - k) [⟨(h2:Int) ×' (hh2:h2 = bE s (n - 3)) ×' Unit,.exit 0,fun x=>match x with | ⟨h2,hh2,_⟩=>CutS.mk [(0,D.sl false n 1 (map dB s)),(1,D.sl false 3 1 (map dB p)),(5,uI H),(6,uI 1055306571),(7,zI 3),(8,zI ((n:Int) - 3)),(9,.v (.int .u32 h2))] [] 0⟩] 1000 64 (fun | ⟨k,hk,h,hh,_⟩,Q,next1,last1=>(.s 4 (.br (decide ((n:Int) - 3 ≤ (n:Int) - 1 - (k:Int))) (fun p0=>have p0f:=aN p0; (.s 3 (.opt (ap .u32 (h * 16777619)) (uI (h * 16777619 % 4294967296)) (aE _ _) (.s 3 (.chk (decide (0 ≤ (n:Int) - 1 - (k:Int)) && decide ((n:Int) - 1 - (k:Int) < (n:Int)) && true) uG (.s 2 (.opt ((map dB s)[un ((n:Int) - 1 - (k:Int)) * 1]?) (dB (getD s (un ((n:Int) - 1 - (k:Int)) * 1) i4)) (ao _ _ om) (.s 1 (.opt (ap .u32 (↑(Ku (getD s (un ((n:Int) - 1 - (k:Int)) * 1) i4)):Int)) (ac (Ku (getD s (un ((n:Int) - 1 - (k:Int)) * 1) i4))) (ar uH) (.s 2 (.opt (ap .u32 (h * 16777619 % 4294967296 + (↑(Ku (getD s (un ((n:Int) - 1 - (k:Int)) * 1) i4)):Int))) (uI ((h * 16777619 % 4294967296 + (↑(Ku (getD s (un ((n:Int) - 1 - (k:Int)) * 1) i4)):Int)) % 4294967296)) (aE _ _) (.s 4 (.ow ((n:Int) - 1 - (k:Int) - 1) (.s 1 (.val 9 (uI ((h * 16777619 % 4294967296 + (↑(Ku (getD s (un ((n:Int) - 1 - (k:Int)) * 1) i4)):Int)) % 4294967296)) (uI ((h * 16777619 % 4294967296 + bI s (n - 1 - k)) % 4294967296)) (by (refine aJ (congrArg (fun z=>((((h * 16777619) % 4294967296) + bI s z) % 4294967296)) ?_); (omega))) (.val 10 (zI ((n:Int) - 1 - (k:Int) - 1)) (zI ((n:Int) - 1 - (↑(k + 1):Int))) lE (Hn.next next1 ⟨(k+1),om,(((((h * 16777619) % 4294967296) + bI s (n - 1 - k)) % 4294967296)),(by (refine zw hh ?_; (omega))),⟨⟩⟩ (by show 3 - (k + 1) < 3 - k; clear next1 last1; omega) [] ro))))))))))))))))) (fun p0=>have p0f:=aO p0; (Hn.last last1 0 (⟨(h),(by (rw [hh,show k = 3 from by (omega),Jt])),⟨⟩⟩:(h2:Int) ×' (hh2:h2 = bE s (n - 3)) ×' Unit) rfl [] ro))))) (fun | ⟨k,hk,h,hh,_⟩=>by kernel_rfl) ⟨(0),om,(0),(by exact rfl),⟨⟩⟩ [] ro (bX (fun | ⟨h2,hh2,_⟩=>(.s 7 (.br (h2 == H) (fun p1=>have p1f:=eq_of_beq p1; (.s 4 (.chk (aS (some ((n:Int) - 3)) none none n && true) (by (simp <;> (omega))) (.s 3 (.byt (drop (un ((n:Int) - 3) * 1) (map dB s)) (drop (un ((n:Int) - 3)) s) (by (simp; done)) (.s 5 (.byt (map dB p) (p) rfl (.s 3 (.br (K0 (Lp (LC (drop (un ((n:Int) - 3)) s))) == K0 (Lp (LC p))) (fun p2=>have p2f:=eq_of_beq p2; (.s 2 (.out [] [] (zI ((n:Int) - 3)) [] R (ok _ _ (by (exact aJ (zx hn (by (omega)) bk))) wr)))) (fun p2=>have p2f:=am p2; (.s 3 (.ow ((n:Int) - 3 - 1) (.s 1 (.val 11 (zI ((n:Int) - 3 - 1)) (zI ((↑(n - 3):Int) - 1)) lE (Hn.inl T_ok ag false 94 0 (aq Try.prog 134 1) (fun (x:(j:Nat) ×' (hj:j ≤ n - 3) ×' (h:Int) ×' (hh:h = bE s j) ×' (hl:aj s p (n - 2) = aj s p j) ×' Unit)=>match x with | ⟨j,hj,h,hh,hl,_⟩=>CutS.mk [(0,D.sl false n 1 (map dB s)),(1,D.sl false 3 1 (map dB p)),(5,uI H),(6,uI 1055306571),(7,zI 3),(9,.v (.int .u32 h)),(11,iD ((j:Int) - 1))] [] 0) (fun (x:(j:Nat) ×' (hj:j ≤ n - 3) ×' (h:Int) ×' (hh:h = bE s j) ×' (hl:aj s p (n - 2) = aj s p j) ×' Unit)=>match x with | ⟨j,hj,h,hh,hl,_⟩=>j) [⟨(hz:aj s p (n - 2) = -1) ×' Unit,.exit 2,fun x=>match x with | ⟨hz,_⟩=>CutS.mk [(0,D.sl false n 1 (map dB s)),(1,D.sl false 3 1 (map dB p)),(5,uI H),(6,uI 1055306571),(7,zI 3)] [] 0⟩,⟨Unit,.ret,fun x=>match x with | ()=>CutS.mk [(4,iD (aj s p (n - 2)))] [] 0⟩] 1000 64 (fun | ⟨j,hj,h,hh,hl,_⟩,Q,next1,last1=>(.s 3 (.br (decide (0 ≤ (j:Int) - 1)) (fun p3=>have p3f:=aN p3; (.s 3 (.opt (ap .u32 (h * 16777619)) (uI (h * 16777619 % 4294967296)) (aE _ _) (.s 5 (.chk (decide (0 ≤ (j:Int) - 1) && decide ((j:Int) - 1 < (n:Int)) && true) uG (.s 2 (.opt ((map dB s)[un ((j:Int) - 1) * 1]?) (dB (getD s (un ((j:Int) - 1) * 1) i4)) (ao _ _ om) (.s 1 (.opt (ap .u32 (↑(Ku (getD s (un ((j:Int) - 1) * 1) i4)):Int)) (ac (Ku (getD s (un ((j:Int) - 1) * 1) i4))) (ar uH) (.s 2 (.opt (ap .u32 (h * 16777619 % 4294967296 + (↑(Ku (getD s (un ((j:Int) - 1) * 1) i4)):Int))) (uI ((h * 16777619 % 4294967296 + (↑(Ku (getD s (un ((j:Int) - 1) * 1) i4)):Int)) % 4294967296)) (aE _ _) (.s 8 (.ow ((j:Int) - 1 + 3) (.s 1 (.chk (decide (0 ≤ (j:Int) - 1 + 3) && decide ((j:Int) - 1 + 3 < (n:Int)) && true) uG (.s 2 (.opt ((map dB s)[un ((j:Int) - 1 + 3) * 1]?) (dB (getD s (un ((j:Int) - 1 + 3) * 1) i4)) (ao _ _ om) (.s 1 (.opt (ap .u32 (↑(Ku (getD s (un ((j:Int) - 1 + 3) * 1) i4)):Int)) (ac (Ku (getD s (un ((j:Int) - 1 + 3) * 1) i4))) (ar uH) (.s 2 (.opt (ap .u32 (1055306571 * (↑(Ku (getD s (un ((j:Int) - 1 + 3) * 1) i4)):Int))) (uI (1055306571 * (↑(Ku (getD s (un ((j:Int) - 1 + 3) * 1) i4)):Int) % 4294967296)) (aE _ _) (.s 2 (.opt (ap .u32 ((h * 16777619 % 4294967296 + (↑(Ku (getD s (un ((j:Int) - 1) * 1) i4)):Int)) % 4294967296 - 1055306571 * (↑(Ku (getD s (un ((j:Int) - 1 + 3) * 1) i4)):Int) % 4294967296)) (uI (((h * 16777619 % 4294967296 + (↑(Ku (getD s (un ((j:Int) - 1) * 1) i4)):Int)) % 4294967296 - 1055306571 * (↑(Ku (getD s (un ((j:Int) - 1 + 3) * 1) i4)):Int) % 4294967296) % 4294967296)) (aE _ _) (.s 8 (.br (((h * 16777619 % 4294967296 + (↑(Ku (getD s (un ((j:Int) - 1) * 1) i4)):Int)) % 4294967296 - 1055306571 * (↑(Ku (getD s (un ((j:Int) - 1 + 3) * 1) i4)):Int) % 4294967296) % 4294967296 == H) (fun p4=>have p4f:=eq_of_beq p4; (.s 9 (.ow ((j:Int) - 1 + 3) (.s 2 (.chk (aS (some ((j:Int) - 1)) (some ((j:Int) - 1 + 3)) none n && true) (by (simp <;> (omega))) (.s 3 (.byt (take ((un ((j:Int) - 1 + 3) - un ((j:Int) - 1)) * 1) (drop (un ((j:Int) - 1) * 1) (map dB s))) (take (un ((j:Int) - 1 + 3) - un ((j:Int) - 1)) (drop (un ((j:Int) - 1)) s)) (by (simp; done)) (.s 5 (.byt (map dB p) (p) rfl (.s 3 (.br (K0 (Lp (LC (take (un ((j:Int) - 1 + 3) - un ((j:Int) - 1)) (drop (un ((j:Int) - 1)) s)))) == K0 (Lp (LC p))) (fun p5=>have p5f:=eq_of_beq p5; (.s 2 (.val 4 (zI ((j:Int) - 1)) (zI (aj s p (n - 2))) (by (exact aJ (xm hl (by (omega)) bk))) (Hn.last last1 1 (():Unit) rfl [] ro)))) (fun p5=>have p5f:=am p5; (.s 3 (.ow ((j:Int) - 1 - 1) (.s 1 (.val 11 (zI ((j:Int) - 1 - 1)) (zI ((↑(j - 1):Int) - 1)) lE (Hn.next next1 ⟨(j - 1),om,(((((((h * 16777619) % 4294967296) + ((s.getD (((j:Int) - 1).toNat * 1) i4).toNat:Int)) % 4294967296) - ((1055306571 * ((s.getD (((j:Int) - 1 + 3).toNat * 1) i4).toNat:Int)) % 4294967296)) % 4294967296)),zt,(by (exact tL hl (by (omega)) bk)),⟨⟩⟩ zu [] ro))))))))))))))))) (fun p4=>have p4f:=am p4; (.s 23 (.ow ((j:Int) - 1 - 1) (.s 1 (.val 11 (zI ((j:Int) - 1 - 1)) (zI ((↑(j - 1):Int) - 1)) lE (Hn.next next1 ⟨(j - 1),om,(((((((h * 16777619) % 4294967296) + ((s.getD (((j:Int) - 1).toNat * 1) i4).toNat:Int)) % 4294967296) - ((1055306571 * ((s.getD (((j:Int) - 1 + 3).toNat * 1) i4).toNat:Int)) % 4294967296)) % 4294967296)),zt,(by (exact tM hl (by (omega)) (by (omega)) hh hH bk)),⟨⟩⟩ zu [] ro))))))))))))))))))))))))))))))) (fun p3=>have p3f:=aO p3; (Hn.last last1 0 (⟨(by (exact m6 hl (by (omega)))),⟨⟩⟩:(hz:aj s p (n - 2) = -1) ×' Unit) rfl [] ro))))) (fun | ⟨j,hj,h,hh,hl,_⟩=>by kernel_rfl) ⟨(n - 3),om,(h2),om,(by (refine ji om ?_; rw [← tJ hn om rfl]; refine fun e=>DK p2 ?_; refine NY ?_ e; exact congrArg (drop · s) om)),⟨⟩⟩ [] ro (eZ (fun | ⟨hz,_⟩=>(.s 1 (.out [] [] (zI (-1)) [] R (ok _ _ lE wr)))) (fun | ()=>(.out [] [] (zI (aj s p (n - 2))) [] R (ok _ _ wr wr))))))))))))))))))) (fun p1=>have p1f:=am p1; (.s 17 (.ow ((n:Int) - 3 - 1) (.s 1 (.val 11 (zI ((n:Int) - 3 - 1)) (zI ((↑(n - 3):Int) - 1)) lE (Hn.inl T_ok ag false 94 0 (aq Try.prog 134 1) (fun (x:(j:Nat) ×' (hj:j ≤ n - 3) ×' (h:Int) ×' (hh:h = bE s j) ×' (hl:aj s p (n - 2) = aj s p j) ×' Unit)=>match x with | ⟨j,hj,h,hh,hl,_⟩=>CutS.mk [(0,D.sl false n 1 (map dB s)),(1,D.sl false 3 1 (map dB p)),(5,uI H),(6,uI 1055306571),(7,zI 3),(9,.v (.int .u32 h)),(11,iD ((j:Int) - 1))] [] 0) (fun (x:(j:Nat) ×' (hj:j ≤ n - 3) ×' (h:Int) ×' (hh:h = bE s j) ×' (hl:aj s p (n - 2) = aj s p j) ×' Unit)=>match x with | ⟨j,hj,h,hh,hl,_⟩=>j) [⟨(hz:aj s p (n - 2) = -1) ×' Unit,.exit 2,fun x=>match x with | ⟨hz,_⟩=>CutS.mk [(0,D.sl false n 1 (map dB s)),(1,D.sl false 3 1 (map dB p)),(5,uI H),(6,uI 1055306571),(7,zI 3)] [] 0⟩,⟨Unit,.ret,fun x=>match x with | ()=>CutS.mk [(4,iD (aj s p (n - 2)))] [] 0⟩] 1000 64 (fun | ⟨j,hj,h,hh,hl,_⟩,Q,next1,last1=>(.s 3 (.br (decide (0 ≤ (j:Int) - 1)) (fun p6=>have p6f:=aN p6; (.s 3 (.opt (ap .u32 (h * 16777619)) (uI (h * 16777619 % 4294967296)) (aE _ _) (.s 5 (.chk (decide (0 ≤ (j:Int) - 1) && decide ((j:Int) - 1 < (n:Int)) && true) uG (.s 2 (.opt ((map dB s)[un ((j:Int) - 1) * 1]?) (dB (getD s (un ((j:Int) - 1) * 1) i4)) (ao _ _ om) (.s 1 (.opt (ap .u32 (↑(Ku (getD s (un ((j:Int) - 1) * 1) i4)):Int)) (ac (Ku (getD s (un ((j:Int) - 1) * 1) i4))) (ar uH) (.s 2 (.opt (ap .u32 (h * 16777619 % 4294967296 + (↑(Ku (getD s (un ((j:Int) - 1) * 1) i4)):Int))) (uI ((h * 16777619 % 4294967296 + (↑(Ku (getD s (un ((j:Int) - 1) * 1) i4)):Int)) % 4294967296)) (aE _ _) (.s 8 (.ow ((j:Int) - 1 + 3) (.s 1 (.chk (decide (0 ≤ (j:Int) - 1 + 3) && decide ((j:Int) - 1 + 3 < (n:Int)) && true) uG (.s 2 (.opt ((map dB s)[un ((j:Int) - 1 + 3) * 1]?) (dB (getD s (un ((j:Int) - 1 + 3) * 1) i4)) (ao _ _ om) (.s 1 (.opt (ap .u32 (↑(Ku (getD s (un ((j:Int) - 1 + 3) * 1) i4)):Int)) (ac (Ku (getD s (un ((j:Int) - 1 + 3) * 1) i4))) (ar uH) (.s 2 (.opt (ap .u32 (1055306571 * (↑(Ku (getD s (un ((j:Int) - 1 + 3) * 1) i4)):Int))) (uI (1055306571 * (↑(Ku (getD s (un ((j:Int) - 1 + 3) * 1) i4)):Int) % 4294967296)) (aE _ _) (.s 2 (.opt (ap .u32 ((h * 16777619 % 4294967296 + (↑(Ku (getD s (un ((j:Int) - 1) * 1) i4)):Int)) % 4294967296 - 1055306571 * (↑(Ku (getD s (un ((j:Int) - 1 + 3) * 1) i4)):Int) % 4294967296)) (uI (((h * 16777619 % 4294967296 + (↑(Ku (getD s (un ((j:Int) - 1) * 1) i4)):Int)) % 4294967296 - 1055306571 * (↑(Ku (getD s (un ((j:Int) - 1 + 3) * 1) i4)):Int) % 4294967296) % 4294967296)) (aE _ _) (.s 8 (.br (((h * 16777619 % 4294967296 + (↑(Ku (getD s (un ((j:Int) - 1) * 1) i4)):Int)) % 4294967296 - 1055306571 * (↑(Ku (getD s (un ((j:Int) - 1 + 3) * 1) i4)):Int) % 4294967296) % 4294967296 == H) (fun p7=>have p7f:=eq_of_beq p7; (.s 9 (.ow ((j:Int) - 1 + 3) (.s 2 (.chk (aS (some ((j:Int) - 1)) (some ((j:Int) - 1 + 3)) none n && true) (by (simp <;> (omega))) (.s 3 (.byt (take ((un ((j:Int) - 1 + 3) - un ((j:Int) - 1)) * 1) (drop (un ((j:Int) - 1) * 1) (map dB s))) (take (un ((j:Int) - 1 + 3) - un ((j:Int) - 1)) (drop (un ((j:Int) - 1)) s)) (by (simp; done)) (.s 5 (.byt (map dB p) (p) rfl (.s 3 (.br (K0 (Lp (LC (take (un ((j:Int) - 1 + 3) - un ((j:Int) - 1)) (drop (un ((j:Int) - 1)) s)))) == K0 (Lp (LC p))) (fun p8=>have p8f:=eq_of_beq p8; (.s 2 (.val 4 (zI ((j:Int) - 1)) (zI (aj s p (n - 2))) (by (exact aJ (xm hl (by (omega)) bk))) (Hn.last last1 1 (():Unit) rfl [] ro)))) (fun p8=>have p8f:=am p8; (.s 3 (.ow ((j:Int) - 1 - 1) (.s 1 (.val 11 (zI ((j:Int) - 1 - 1)) (zI ((↑(j - 1):Int) - 1)) lE (Hn.next next1 ⟨(j - 1),om,(((((((h * 16777619) % 4294967296) + ((s.getD (((j:Int) - 1).toNat * 1) i4).toNat:Int)) % 4294967296) - ((1055306571 * ((s.getD (((j:Int) - 1 + 3).toNat * 1) i4).toNat:Int)) % 4294967296)) % 4294967296)),zt,(by (exact tL hl (by (omega)) bk)),⟨⟩⟩ zu [] ro))))))))))))))))) (fun p7=>have p7f:=am p7; (.s 23 (.ow ((j:Int) - 1 - 1) (.s 1 (.val 11 (zI ((j:Int) - 1 - 1)) (zI ((↑(j - 1):Int) - 1)) lE (Hn.next next1 ⟨(j - 1),om,(((((((h * 16777619) % 4294967296) + ((s.getD (((j:Int) - 1).toNat * 1) i4).toNat:Int)) % 4294967296) - ((1055306571 * ((s.getD (((j:Int) - 1 + 3).toNat * 1) i4).toNat:Int)) % 4294967296)) % 4294967296)),zt,(by (exact tM hl (by (omega)) (by (omega)) hh hH bk)),⟨⟩⟩ zu [] ro))))))))))))))))))))))))))))))) (fun p6=>have p6f:=aO p6; (Hn.last last1 0 (⟨(by (exact m6 hl (by (omega)))),⟨⟩⟩:(hz:aj s p (n - 2) = -1) ×' Unit) rfl [] ro))))) (fun | ⟨j,hj,h,hh,hl,_⟩=>by kernel_rfl) ⟨(n - 3),om,(h2),om,(by (refine m5 om om hh2 hH (am p1))),⟨⟩⟩ [] ro (eZ (fun | ⟨hz,_⟩=>(.s 1 (.out [] [] (zI (-1)) [] R (ok _ _ lE wr)))) (fun | ()=>(.out [] [] (zI (aj s p (n - 2))) [] R (ok _ _ wr wr)))))))))))))))))))))))) (by kernel_rfl)
theorem qv {s p:List UInt8} {n:Nat} (hn:n = s.length) (h3:n = 3):aj s p (n - 2) = if s = p then 0 else -1:=by
 rw [show n - 2 = 0 + 1 from by omega,aj,Ma,KZ (by omega)]
 rfl
theorem Ho {s p:List UInt8} {n:Nat} (hn:n = s.length) (h3:n = 3) (e:(K0 { data:=s.toArray } == K0 { data:=p.toArray }) = true):0 = aj s p (n - 2):=by rw [qv hn h3,if_pos (DJ e)]
theorem Hp {s p:List UInt8} {n:Nat} (hn:n = s.length) (h3:n = 3) (e:(K0 { data:=s.toArray } == K0 { data:=p.toArray }) = false):-1 = aj s p (n - 2):=by rw [qv hn h3,if_neg (DK e)]
theorem Hq {s p:List UInt8} {n:Nat} (h:n ≤ 2):-1 = aj s p (n - 2):=by rw [show n - 2 = 0 from by omega]; rfl
theorem DL (s p:List UInt8) (n:Nat) (hn:n = s.length) (hp:p.length = 3) (h4:n ≤ 1000000):SpecH false Try.prog 130 [.sl false n 1 (s.map dB),.sl false 3 1 (p.map dB)] [] (iD (aj s p (n - 2))) []:=by
 have hH:bE p 0 = bE p 0:=rfl
 refine SpecH.run T_ok ag Try.func130 rfl rfl rfl trivial rfl 1000 64 (fun R ok=>(.s 20 (.br (3 == (n:Int)) (fun p0=>have p0f:=eq_of_beq p0; (.s 8 (.byt (map dB s) (s) rfl (.s 3 (.byt (map dB p) (p) rfl (.s 2 (.br (K0 (Lp (LC s)) == K0 (Lp (LC p))) (fun p1=>have p1f:=eq_of_beq p1; (.s 1 (.out [] [] (zI 0) [] R (ok _ _ (by (exact aJ (Ho hn (by (omega)) bk))) wr)))) (fun p1=>have p1f:=am p1; (.s 1 (.out [] [] (zI (-1)) [] R (ok _ _ (by (exact aJ (Hp hn (by (omega)) bk))) wr))))))))))) (fun p0=>have p0f:=am p0; (.s 6 (.br (decide ((n:Int) < 3)) (fun p2=>have p2f:=aN p2; (.s 1 (.out [] [] (zI (-1)) [] R (ok _ _ (by (exact aJ (Hq (by (omega))))) wr)))) (fun p2=>have p2f:=aO p2; (.s 3 (.cl 134 false [] (.fn Iw (@Go.Proofs.Ytefjnofhgkjpmaa.Vm.rk (s) (p) (n) om om om om (bE p 0) bk)) (.s 1 (.out [] [] (zI (aj s p (n - 2))) [] R (ok _ _ wr wr)))))))))))) (by kernel_rfl)
end Vm
end Go.Proofs.Ytefjnofhgkjpmaa
namespace Go.Proofs.Ytefjnofhgkjpmaa
open Go.RowKit Go.Bw Go.Vx
open List (length getD map take drop flatMap replicate)
namespace Vm
theorem Hr {p:Prop} (h:p:=by ((refine aF ?_ ?_) <;> (repeat' (first | (refine aF ?_ ?_) | (with_reducible rfl) | (refine decide_eq_true ?_) | (refine KA ?_) | (refine er ?_))) <;> (omega))):p:=h
def same (b:List UInt8) (i j:Nat):Nat → Nat
 | 0=>0
 | k + 1=>if i < b.length ∧ b.getD j i4 = b.getD i i4 then same b (i + 1) (j + 1) k + 1 else 0
theorem tN (b:List UInt8):∀ (k i j:Nat),same b i j k ≤ k
 | 0,i,j=>KG 0
 | k + 1,i,j=>by
  unfold same
  split
  ·exact Mq (tN b k (i + 1) (j + 1))
  ·omega
theorem iQ (b:List UInt8):∀ (k i j:Nat),i ≤ b.length → i + same b i j k ≤ b.length
 | 0,i,j,h=>h
 | k + 1,i,j,h=>by
  unfold same
  split
  ·next e=>have:=iQ b k (i + 1) (j + 1) e.1; omega
  ·exact h
theorem zy {b:List UInt8} {i j m a:Nat} (hs:a = m + same b (i + m) (j + m) (258 - m)) (h1:m < 258) (h2:i + m < b.length) (h3:b.getD (j + m) i4 = b.getD (i + m) i4):a = (m + 1) + same b (i + (m + 1)) (j + (m + 1)) (258 - (m + 1)):=by
 rw [hs,show 258 - m = (258 - (m + 1)) + 1 from by omega,same,if_pos ⟨h2,h3⟩]
 rw [show i + m + 1 = i + (m + 1) from by omega,show j + m + 1 = j + (m + 1) from by omega]
 omega
theorem oF {b:List UInt8} {i j m a:Nat} (hs:a = m + same b (i + m) (j + m) (258 - m)) (h:m = 258 ∨ ¬ i + m < b.length ∨ b.getD (j + m) i4 ≠ b.getD (i + m) i4):a = m:=by
 rw [hs]
 rcases h with h | h | h
 ·rw [h]; rfl
 ·cases k:258 - m with
  | zero=>rfl
  | succ k=>rw [same,if_neg (fun e=>h e.1)]; rfl
 ·cases k:258 - m with
  | zero=>rfl
  | succ k=>rw [same,if_neg (fun e=>h e.2)]; rfl
theorem tO {b:List UInt8} {i m:Nat}:b.getD (((i:Int) + (m:Int)).toNat * 1) i4 = b.getD (i + m) i4:=congrArg (b.getD · i4) (by omega)
theorem Hs {x y:UInt8} (h:(x.toNat:Int) = (y.toNat:Int)):x = y:=UInt8.toNat_inj.1 (Int.ofNat.inj h)
theorem wv {b:List UInt8} {i j m a:Nat} (hs:a = m + same b (i + m) (j + m) (258 - m)) (h1:m < 258) (h2:i + m < b.length) (e:(((b.getD (((j:Int) + (m:Int)).toNat * 1) i4).toNat:Int) == ((b.getD (((i:Int) + (m:Int)).toNat * 1) i4).toNat:Int)) = true):a = m + 1 + same b (i + (m + 1)) (j + (m + 1)) (258 - (m + 1)):=by
 rw [tO,tO] at e
 exact zy hs h1 h2 (Hs (eq_of_beq e))
theorem DM {b:List UInt8} {i j m a:Nat} (hs:a = m + same b (i + m) (j + m) (258 - m)) (e:(((b.getD (((j:Int) + (m:Int)).toNat * 1) i4).toNat:Int) == ((b.getD (((i:Int) + (m:Int)).toNat * 1) i4).toNat:Int)) = false):(m:Int) = (a:Int):=by
 rw [tO,tO] at e
 rw [oF hs (.inr (.inr fun h=>am e (by rw [h])))]
theorem zz {b:List UInt8} {i j m a n:Nat} (hs:a = m + same b (i + m) (j + m) (258 - m)) (hn:n = b.length) (e:decide ((i:Int) + (m:Int) < (n:Int)) = false):(m:Int) = (a:Int):=by
 have:=of_decide_eq_false e
 rw [oF hs (.inr (.inl (by omega)))]
theorem zA {b:List UInt8} {i j m a:Nat} (hs:a = m + same b (i + m) (j + m) (258 - m)) (hm:m ≤ 258) (e:decide ((m:Int) < 258) = false):(m:Int) = (a:Int):=by
 have:=of_decide_eq_false e
 rw [oF hs (.inl (by omega))]
theorem long (b:List UInt8) (n i j:Nat) (hn:n = b.length) (hN:n ≤ 1000000) (hi:i ≤ n) (hj:j < i):SpecH false Try.prog 126 [.sl false n 1 (b.map dB),iD i,iD j] [] (iD (same b i j 258:Nat)) []:=by
 refine SpecH.run T_ok ag Try.func126 rfl rfl rfl trivial rfl 1000 64 (fun R ok=>(.s 1 (Hn.inl T_ok ag false 35 0 (aq Try.prog 126 0) (fun (x:(m:Nat) ×' (hm:m ≤ 258) ×' (hi2:i + m ≤ n) ×' (hs:same b i j 258 = m + same b (i + m) (j + m) (258 - m)) ×' Unit)=>match x with | ⟨m,hm,hi2,hs,_⟩=>CutS.mk [(0,D.sl false n 1 (map dB b)),(1,zN i),(2,zN j),(6,iD (m:Nat))] [] 0) (fun (x:(m:Nat) ×' (hm:m ≤ 258) ×' (hi2:i + m ≤ n) ×' (hs:same b i j 258 = m + same b (i + m) (j + m) (258 - m)) ×' Unit)=>match x with | ⟨m,hm,hi2,hs,_⟩=>258 - m) [⟨Unit,.exit 0,fun x=>match x with | ()=>CutS.mk [(0,D.sl false n 1 (map dB b)),(1,zN i),(2,zN j),(6,iD (same b i j 258:Nat))] [] 0⟩] 1000 64 (fun | ⟨m,hm,hi2,hs,_⟩,Q,next1,last1=>(.s 6 (.br (decide ((m:Int) < 258)) (fun p0=>have p0f:=aN p0; (.s 5 (.ow ((i:Int) + (m:Int)) (.s 10 (.br (decide ((i:Int) + (m:Int) < (n:Int))) (fun p1=>have p1f:=aN p1; (.s 7 (.ow ((j:Int) + (m:Int)) (.s 2 (.chk (true && decide ((j:Int) + (m:Int) < (n:Int)) && true) Hr (.s 3 (.opt ((map dB b)[un ((j:Int) + (m:Int)) * 1]?) (dB (getD b (un ((j:Int) + (m:Int)) * 1) i4)) (ao _ _ om) (.s 9 (.ow ((i:Int) + (m:Int)) (.s 2 (.chk (true && decide ((i:Int) + (m:Int) < (n:Int)) && true) Hr (.s 3 (.opt ((map dB b)[un ((i:Int) + (m:Int)) * 1]?) (dB (getD b (un ((i:Int) + (m:Int)) * 1) i4)) (ao _ _ om) (.s 4 (.br ((↑(Ku (getD b (un ((j:Int) + (m:Int)) * 1) i4)):Int) == (↑(Ku (getD b (un ((i:Int) + (m:Int)) * 1) i4)):Int)) (fun p2=>have p2f:=eq_of_beq p2; (.s 3 (.ow ((m:Int) + 1) (.s 1 (.val 6 (zI ((m:Int) + 1)) (zN (m + 1)) (by (simp; done)) (Hn.next next1 ⟨(m + 1),om,om,(by (exact wv hs (by (omega)) (by (omega)) bk)),⟨⟩⟩ (by show 258 - (m + 1) < 258 - m; clear next1 last1; omega) [] ro)))))) (fun p2=>have p2f:=am p2; (.val 6 (zN m) (zN (same b i j 258)) (by (exact aJ (DM hs bk))) (Hn.last last1 0 (():Unit) rfl [] ro)))))))))))))))))) (fun p1=>have p1f:=aO p1; (.s 26 (.val 6 (zN m) (zN (same b i j 258)) (by (exact aJ (zz hs hn bk))) (Hn.last last1 0 (():Unit) rfl [] ro))))))))) (fun p0=>have p0f:=aO p0; (.s 40 (.val 6 (zN m) (zN (same b i j 258)) (by (exact aJ (zA hs hm bk))) (Hn.last last1 0 (():Unit) rfl [] ro))))))) (fun | ⟨m,hm,hi2,hs,_⟩=>by kernel_rfl) ⟨(0),om,om,(by (simp only [MG,KV,Ns]; done)),⟨⟩⟩ [] ro (bX (fun | ()=>(.s 2 (.out [] [] (zN (same b i j 258)) [] R (ok _ _ wr wr)))))))) (by kernel_rfl)
theorem longX (b:List UInt8) (n:Nat) (x y:Int) (hn:n = b.length) (hN:n ≤ 1000000) (hx:x ≤ n) (hy:0 ≤ y) (hxy:y < x):SpecH false Try.prog 126 [.sl false n 1 (b.map dB),iD x,iD y] [] (iD (same b x.toNat y.toNat 258:Nat)) []:=by
 obtain ⟨i,rfl⟩:=Lo (show 0 ≤ x by omega)
 obtain ⟨j,rfl⟩:=Lo hy
 exact long b n i j hn hN (by omega) (by omega)
end Vm
end Go.Proofs.Ytefjnofhgkjpmaa

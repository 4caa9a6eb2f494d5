/- Part 8. -/
import Derived.Test.YtefjnofhgkjpmaaGreatTm7
import Derived.Test.YtefjnofhgkjpmaaGreatTm5
import Derived.Test.YtefjnofhgkjpmaaGreatTm6
set_option linter.unusedVariables false
set_option linter.unusedSimpArgs false
set_option maxRecDepth 100000
set_option maxHeartbeats 4000000
open And renaming intro → LW
open Bool renaming and_true → Mc, true_and → L7
open ByteArray renaming mk → M9, toList → Ms
open Eq renaming trans → Pa
open Go.Fn renaming func → Mn
open Go.IntKind renaming wrap → LZ
open Go.LoopState renaming busy → OI, ready → NV
open Inhabited renaming default → jd
open Int renaming eq_ofNat_of_zero_le → MD, toNat → uM
open List renaming append_assoc → Ma, append_nil → MA, cons_append → NB, count_append → Pu, count_singleton → Pd, drop → Mm, drop_append_of_le_length → NQ, drop_left' → PQ, drop_zero → M6, eq_nil_of_length_eq_zero → L8, eq_replicate_iff → Ol, filter_append → MO, filter_cons_of_neg → Ng, filter_cons_of_pos → Nf, flatMap_append → Nj, flatMap_singleton → NR, getD → PV, getElem_mem → Mr, length_append → LJ, length_cons → Md, length_drop → L9, length_map → LU, length_range → MQ, length_replicate → Mg, length_set → NJ, length_singleton → Mu, length_take → LO, length_take_of_le → Mx, map_append → Mv, map_replicate → Na, map_take → Ow, mem_cons_of_mem → L0, mem_cons_self → L4, mem_filter → N9, mem_range → O3, not_mem_nil → NN, range → Mt, range_succ → NU, replicate → LX, take → Ml, take_append → PA, take_append_of_le_length → Nq, take_left' → PP, take_length → MP, take_of_length_le → Mf, take_succ_cons → Pg, take_succ_eq_append_getElem → Mi, toArray → NT
open Nat renaming add_assoc → MU, add_mul → ME, add_sub_cancel → Nl, add_sub_cancel_left → NO, add_zero → NK, beq → LF, beq_refl → MM, ble → LH, ble_eq_true_of_le → LK, le_refl → LV, le_trans → LM, lt_irrefl → Ou, lt_or_ge → Mh, lt_succ_self → OU, mod_one → PD, mul_add → Ny, mul_assoc → MR, mul_comm → M8, mul_le_mul_right → Mq, mul_one → Me, not_lt_zero → MT, pow_add → Pb, pow_succ → MZ, sub_mul → PC, sub_self → MV, sub_zero → Oj, succ_le_succ → NA, succ_ne_zero → NC, two_pow_pos → M7, zero_add → Mb, zero_le → Mw, zero_mul → M0
open UInt8 renaming ofNat → MH, toNat → LG, toNat_add → PO
namespace Go.Proofs.YtefjnofhgkjpmaaGreat
open Go.RowKit Go.Bw Go.Vx
open List (length getD map take drop flatMap replicate)
namespace Vp
theorem qz {p:Prop} (h:p:=by repeat' first | exact (fun _=>qD _ _ _) | exact trivial | exact rfl | exact (fun _=>aS _) | exact (fun _=>by assumption) | exact (fun _=>bN _ (fun _=>rfl) _) | exact (fun _=>di (fun _=>rfl) _) | (intro h; cases h; done) | (intro _; rfl) | (intro _; exact cy _ (bN _ (fun _=>rfl) _)) | exact je _ (bN _ (fun _=>rfl) _) | refine LW ?_ ?_ | refine fK ?_ ?_ | (intro _; refine cS ?_ ?_) | refine cS ?_ ?_ | (intro _; refine gn ?_ ?_) | exact cy _ (bN _ (fun _=>rfl) _) | exact bN _ (fun _=>rfl) _):p:=h
theorem EV {p:Prop} (h:p:=by (refine aO ?_; (omega))):p:=h
theorem EW {p:Prop} (h:p:=by ( have z:=hT.i.nextk om (((k:Int) - 1).toNat) om; have z2:=hT.l; have z3:=ce ws (((k:Int) - 1).toNat); have z4:(take n (aq ws ((k:Int) - 1).toNat)).length = n:=Mx z.1; omega)):p:=h
theorem HT {p:Prop} (h:p:=by ( have z:=hT.i.nextk om (((k:Int) - 1).toNat) om; have z2:=hT.l; have z3:=ce ws (((k:Int) - 1).toNat); have z4:(take n (aq ws ((k:Int) - 1).toNat)).length = n:=Mx z.1; simp [aM,cg,aX]; omega)):p:=h
theorem Lq {p:Prop} (h:p:=by (rw [iS]; simp only [L7]; refine LK ?_; (omega))):p:=h
theorem Lr {p:Prop} (h:p:=by show n - (j + 1) < n - j; clear next2 last2 next1 last1; omega):p:=h
theorem Lt {p:Prop} (h:p:=by (refine decide_eq_true ?_;  have z:=hT.i.nextk om (((k:Int) - 1).toNat) om; have z2:=hT.l; have z3:=ce ws (((k:Int) - 1).toNat); have z4:(take n (aq ws ((k:Int) - 1).toNat)).length = n:=Mx z.1; have h9:=hA.at (t:=0 + j * 1) om; have h8:=ct o S j; omega)):p:=h
theorem oI (W:List Nat) (L:Nat) (hL:L = W.length) (hL2:L ≤ 320) (hB:∀ t,W.getD t jd ≤ 1073741824) (m:Nat) (hm:1 ≤ m ∧ m ≤ 15) (S:List Nat) (hS:eJ W = S) (N:Nat) (hN:N = S.length) (hNm:N ≤ 2 ^ m):SpecH false Tryz.prog 144 [.sl false L 1 (W.map nD),nD m] [] (.tup [.ref 0 0 0 N 1,iD 0]) [⟨S.map nD, 3, true⟩]:=by
 subst hS
 have hp:=(dH W).length_eq
 have hN2:N = (ek W L).length:=by rw [hN,hp,hL]
 obtain ⟨T1,hE⟩:=Ek hL (X:=ek W L) rfl hN2
 exact zK W L hL hL2 hB m hm N hN2 _ T1 rfl hE hNm hE.o hE.t1 hE.o1 hE.t
abbrev zP (T:List Pc):D:=.sl false T.length 2 (T.flatMap cr)
theorem xp (T:List Pc):(T.flatMap cr).length = T.length * 2:=by rw [bl (k:=2) (fun _=>rfl)]
theorem HU (ws:List Nat) (n:Nat) (hn:n = ws.length) (hn2:n ≤ 320) (hB:∀ w ∈ ws,w ≤ 1073741824) (j:Nat) (hj:j ≤ 14) (r:Nat) (hr:r = (aq ws j).length):SpecH false Tryz.prog 145 [.sl false r 2 ((aq ws j).flatMap cr),.sl false n 1 (ws.map nD)] [] (zP (aq ws (j + 1))) []:=by
 have h:=ce ws j
 refine SpecH.frz (HO (aq ws j) r hr (by omega) 100000000000000 (by decide) (zM hB (by omega)) ws n hn (by omega) (aq ws (j + 1)) (lI ws j)) (xp _) (by decide) (di (fun _=>rfl) _)
theorem HV (ws:List Nat) (n:Nat) (hn:n = ws.length) (hn2:n ≤ 320):SpecH false Tryz.prog 145 [aW,.sl false n 1 (ws.map nD)] [] (zP (aq ws 0)) [] :=
 SpecH.frz (HP ws n hn (by omega) _ (oG ws)) (xp _) (by decide) (di (fun _=>rfl) _)
def gC (ws:List Nat) (k m:Nat):List D:=lk ws ((Mt m).map fun j=>if j < k then zP (aq ws j) else aW)
theorem sc (ws:List Nat) (k m:Nat):gC ws k m = (Mt m).map fun j=>if j < k then zP (aq ws j) else aW:=aF _ _
theorem iS (ws:List Nat) (k m:Nat):(gC ws k m).length = m:=by rw [sc,LU,MQ]
theorem qD (ws:List Nat) (k m:Nat):ab (gC ws k m) = true:=by
 rw [bc,sc]
 intro d hd
 obtain ⟨j,_,rfl⟩:=List.mem_map.1 hd
 split <;> rfl
theorem tO {ws:List Nat} {k m j:Nat} (hj:j < m):(gC ws k m)[j]? = some (if j < k then zP (aq ws j) else aW):=by
 rw [sc,List.getElem?_map,List.getElem?_range hj]; rfl
theorem xq (ws:List Nat) {k m j:Nat} (h:j < k) (hj:j < m):(gC ws k m)[0 + j * 1]? = some (zP (aq ws j)):=by
 rw [Mb,Me,tO hj,if_pos h]
theorem xu {ws:List Nat} {k m o i:Nat} (hk:k < m) (ho:o = k) (hi:i = k):aj (gC ws k m) o [zP (aq ws i)] = gC ws (k + 1) m:=by
 subst o i
 apply List.ext_getElem?
 intro t
 rw [cj (by rw [iS]; simp only [Mu]; omega)]
 simp only [Mu]
 rcases Mh t m with q | q
 ·rw [tO q,tO q]
  by_cases e:t = k
  ·subst e; rw [if_pos (by omega),MV,if_pos (by omega)]; rfl
  ·rw [if_neg (by omega)]
   by_cases z:t < k
   ·rw [if_pos z,if_pos (by omega)]
   ·rw [if_neg z,if_neg (by omega)]
 ·rw [if_neg (by omega),List.getElem?_eq_none (by rw [iS]; exact q),List.getElem?_eq_none (by rw [iS]; exact q)]
theorem Ks (ws:List Nat) (m:Nat):LX m aW = gC ws 0 m:=by
 apply List.ext_getElem?
 intro t
 rw [List.getElem?_replicate]
 rcases Mh t m with q | q
 ·rw [if_pos q,tO q,if_neg (MT t)]
 ·rw [if_neg (by omega),List.getElem?_eq_none (by rw [iS]; exact q)]
theorem Cy (d:D) (m:Nat):cu [d] (m * 1) = LX m d:=by
 rw [Me]
 apply List.ext_getElem?
 intro i
 unfold cu
 rw [List.getElem?_map,List.getElem?_replicate]
 rcases Mh i m with q | q
 ·rw [List.getElem?_range q,if_pos q]
  show some (PV [d] (i % 1) jd) = _
  rw [PD]; rfl
 ·rw [List.getElem?_eq_none (by simpa using q),if_neg (by omega)]; rfl
theorem Cz {t:TypeId} {a b:Int} (h:a = b):(⟨[D.v (.int .i64 a)],t,false⟩:Blk) = ⟨[D.v (.int .i64 b)],t,false⟩:=by rw [h]
theorem tP (L:Nat):cu [D.v (.int .u8 0)] (L * 1) = (LX L (0:UInt8)).map dB:=by rw [Cy,Na]; rfl
theorem LnI.nextk {ws:List Nat} {k n:Nat} (h:LnI ws k n) (hk:0 < k) (i:Nat) (hi:i = k - 1):n ≤ (aq ws i).length ∧ cE (aq ws i) n ≤ n ∧ n - cE (aq ws i) n ≤ ws.length:=by
 subst hi
 have q:=LnI.next (k:=k - 1) (n:=n) (by rw [show k - 1 + 1 = k from by omega]; exact h)
 exact ⟨q.1,q.2.1,q.2.2.1⟩
structure LnT (ws S:List Nat) (L k n:Nat) (o T:List UInt8):Prop where
 i:LnI ws k n
 l:o.length = L
 r:zO ws S k n o = T
theorem LnT.next {ws S:List Nat} {L k n:Nat} {o T:List UInt8} (h:LnT ws S L k n o T) (hk:0 < k):LnT ws S L (k - 1) (2 * cE (aq ws (k - 1)) n) (b8 o S (n - cE (aq ws (k - 1)) n)) T:=by
 obtain ⟨j,rfl⟩:∃ j,k = j + 1:=⟨k - 1,by omega⟩
 exact ⟨(LnI.next h.i).2.2.2,by rw [ct]; exact h.l,h.r⟩
theorem LnT.next' {ws S:List Nat} {L k n:Nat} {o T:List UInt8} (h:LnT ws S L k n o T) (hk:0 < k) (i:Nat) (hi:i = k - 1):LnT ws S L (k - 1) (2 * cE (aq ws i) n) (b8 o S (n - cE (aq ws i) n)) T:=by
 subst hi; exact h.next hk
theorem CA {l:List Pc} {n j:Nat} (h:j < n):(l.take n).getD j jd = l.getD j jd:=by
 rw [List.getD_eq_getElem?_getD,List.getD_eq_getElem?_getD,List.getElem?_take,if_pos h]
theorem HW {row:List Pc} {n j:Nat} (hj:j < n) (hn:n ≤ row.length) (h:((row.take n).getD j jd).p = true):cE row (j + 1) = cE row j + 1:=by
 rw [CA hj] at h; rw [Ct (by omega),h]; rfl
theorem HX {row:List Pc} {n j:Nat} (hj:j < n) (hn:n ≤ row.length) (h:((row.take n).getD j jd).p = false):cE row (j + 1) = cE row j:=by
 rw [CA hj] at h; rw [Ct (by omega),h]; rfl
theorem g7 {n N:Nat} {x:Int} (h:x = n) (h2:n ≤ N):(aM none (some x) none N && true) = true:=by
 subst h; simp [aM,cg,aX]; omega
theorem HY {o:List UInt8} {S:List Nat} {j a i:Nat} (hj:j < S.length) (ha:a = S.getD j jd) (hi:i = S.getD j jd) (hl:S.getD j jd < o.length):aj ((b8 o S j).map dB) a [D.v (.int .u8 ((((((b8 o S j).getD i jd).toNat:Nat):Int) + 1) % 256))] = (b8 o S (j + 1)).map dB:=by
 subst ha hi
 have e:(((((b8 o S j).getD (S.getD j jd) jd).toNat:Nat):Int) + 1) % 256 = ((((b8 o S j).getD (S.getD j jd) jd + 1).toNat:Nat):Int):=by
  rw [PO]; show _ = (((_ + 1) % 256:Nat):Int); omega
 rw [e,sa hj]
 generalize (b8 o S j).getD (S.getD j jd) jd + 1 = v
 apply List.ext_getElem?
 intro t
 rw [cj (by simp only [LU,Mu,ct]; omega),List.getElem?_map,List.getElem?_map,List.getElem?_set,ct]
 simp only [Mu]
 by_cases q:S.getD j jd = t
 ·rw [← q,if_pos (by omega),if_pos rfl,if_pos hl,MV]; rfl
 ·rw [if_neg (by omega),if_neg q]
theorem LnT.last {ws S:List Nat} {L k n:Nat} {o T:List UInt8} (h:LnT ws S L k n o T) (hk:k = 0):o = T:=by subst hk; exact h.r
theorem HZ (W:List Nat) (L:Nat) (hL:L = W.length) (hL2:L ≤ 320) (hB:∀ t,W.getD t jd ≤ 1073741824) (m:Nat) (hm:1 ≤ m ∧ m ≤ 15) (S:List Nat) (hS:eJ W = S) (N:Nat) (hN:N = S.length) (hNm:N ≤ 2 ^ m) (hA:bq L S) (hN3:N ≤ 320) (h2:2 ≤ N) (ws:List Nat) (hw:oE W S N = ws) (hwl:ws.length = N) (hwb:∀ w ∈ ws,w ≤ 1073741824) (T:List UInt8) (hI:LnT ws S L m (2 * N - 2) (LX L 0) T):SpecH false Tryz.prog 108 [.sl false L 1 (W.map nD),nD m] [] (.tup [.ref 0 0 0 L 1,iD 0]) [⟨T.map dB, 5, true⟩]:=by
 have hcl0:=qD ws 0 m
 have hclm:=qD ws m m
 refine SpecH.run T_ok ai Tryz.func108 rfl rfl rfl ⟨ba _,trivial⟩ rfl 1000 64 (fun R ok=>(.s 5 (.cl 144 false [] (.fn DD (@oI (W) (L) om om om (m) om (S) bx (N) bx om)) (.s 18 (.chk (true && decide ((L:Int) ≤ (L:Int)) && true && true && true && true && decide ((↑(TI.bytes ze):Int) * (L:Int) ≤ 140737488355328)) (by (have h9:((ze.bytes:Nat):Int) = 1:=rfl; rw [h9]; simp; omega)) (.s 11 (.f ((N:Int) == 1) (by (refine decide_eq_false ?_; (omega))) (.s 6 (.f (decide ((N:Int) < 2)) (by (refine decide_eq_false ?_; (omega))) (.s 6 (.nils 9 224 1 3 (.blk 120 120 (Blk.mk (cu [bI 0] (L * 1)) 5 true) (Blk.mk (map dB (replicate L 0)) 5 true) (by (refine aC ?_; rw [tP])) (.blk 224 224 (Blk.mk [] 3 true) (Blk.mk (map nD (oE W S 0)) 3 true) (by (rw [HQ]; rfl)) (Hn.inl T_ok ai false 126 0 (ay Tryz.prog 108 0) (fun (x:(k:Nat) ×' (hk:k ≤ N) ×' Unit)=>match x with | ⟨k,hk,_⟩=>CutS.mk [(0,D.sl false L 1 (map nD W)),(1,zN m),(4,zS),(5,zI 0),(6,D.ptr 8 8 0),(8,D.ptr 24 24 0),(9,(D.ref 32 32 (0) (k) 1)),(46,D.ref 0 0 0 N 1),(47,zN N),(48,nD k)] [⟨0,0,32,32,.b ⟨map nD S,3,true⟩⟩,⟨8,8,64,64,.b ⟨[D.ref 0 0 0 N 1],152,false⟩⟩,⟨16,16,120,120,.b ⟨(replicate L (0:UInt8)).map dB,5,true⟩⟩,⟨24,24,128,128,.b ⟨[D.ref 16 16 0 L 1],24,false⟩⟩,⟨32,32,224,224,.b ⟨(oE W S k).map nD,3,true⟩⟩] 40) (fun (x:(k:Nat) ×' (hk:k ≤ N) ×' Unit)=>match x with | ⟨k,hk,_⟩=>N - k) [⟨Unit,.exit 0,fun x=>match x with | ()=>CutS.mk [(0,D.sl false L 1 (map nD W)),(1,zN m),(4,zS),(5,zI 0),(6,D.ptr 8 8 0),(8,D.ptr 24 24 0),(9,(D.ref 32 32 (0) (N) 1)),(46,D.ref 0 0 0 N 1),(47,zN N)] [⟨0,0,32,32,.b ⟨map nD S,3,true⟩⟩,⟨8,8,64,64,.b ⟨[D.ref 0 0 0 N 1],152,false⟩⟩,⟨16,16,120,120,.b ⟨(replicate L (0:UInt8)).map dB,5,true⟩⟩,⟨24,24,128,128,.b ⟨[D.ref 16 16 0 L 1],24,false⟩⟩,⟨32,32,224,224,.b ⟨ws.map nD,3,true⟩⟩] 40⟩] 1000 64 (fun | ⟨k,hk,_⟩,Q,next1,last1=>(.s 2 (.br (decide ((k:Int) < (N:Int))) (fun p0=>have p0f:=aU p0; (.s 1 (.chk (true && decide ((k:Int) < (N:Int))) bx (.s 2 (.opt ((map nD S)[0 + k * 1]?) (nD (getD S (0 + k * 1) jd)) (au _ _ om) (.s 5 (.chk (true && decide ((↑(getD S (0 + k * 1) jd):Int) < (L:Int)) && true) (by ((refine aK ?_ ?_) <;> (repeat' (first | (refine aK ?_ ?_) | (with_reducible rfl) | (refine decide_eq_true ?_) | (refine LK ?_) | (refine eT ?_))) <;> ( have h9:=hA.at (t:=0 + k * 1) om; omega))) (.s 2 (.opt ((map nD W)[getD S (0 + k * 1) jd * 1]?) (nD (getD W (getD S (0 + k * 1) jd * 1) jd)) (au _ _ (by ( have h9:=hA.at (t:=0 + k * 1) om; omega))) (.s 3 (.chk (true && LF (k * 1) (length (map nD (oE W S k))) && true && true && true && true && LH ((k + 1) * 8) 140737488355328) (by (rw [LU,ku (by (omega))]; simp only [Me,MM,L7,Mc]; refine LK ?_; (omega))) (.s 3 (.ow ((k:Int) + 1) (.s 1 (.val 48 (zI ((k:Int) + 1)) (zN (k + 1)) EV (.blk 120 120 (Blk.mk (map nD (oE W S k) ++ [zN (getD W (getD S (0 + k * 1) jd * 1) jd)]) 3 true) (Blk.mk (map nD (oE W S (k + 1))) 3 true) (by ( refine aC ?_; simp only [Mb,Me]; rw [HR om,Mv]; rfl)) (Hn.next next1 ⟨(k + 1),om,⟨⟩⟩ (by show N - (k + 1) < N - k; clear next1 last1; omega) [(0,0),(8,8),(16,16),(24,24),(120,120)] qz))))))))))))))))) (fun p0=>have p0f:=aV p0; (.val 9 (D.ref 32 32 0 k 1) (D.ref 32 32 0 N 1) (by (simp <;> (omega))) (.blk 32 32 (Blk.mk (map nD (oE W S k)) 3 true) (Blk.mk (map nD ws) 3 true) (by ( rw [show k = N from by omega,hw])) (Hn.last last1 0 (():Unit) rfl [(0,0),(8,8),(16,16),(24,24),(32,32)] qz))))))) (fun | ⟨k,hk,_⟩=>by kernel_rfl) ⟨(0),om,⟨⟩⟩ [(32,32),(64,64),(120,120),(128,128),(224,224)] qz (b5 (fun | ()=>(.s 2 (.chk (true && decide ((m:Int) ≤ (m:Int)) && true && true && true && true && decide ((↑(TI.bytes tv):Int) * (m:Int) ≤ 140737488355328)) (by (have h9:((tv.bytes:Nat):Int) = 24:=rfl; rw [h9]; simp; omega)) (.s 4 (.blk 48 48 (Blk.mk (cu [zS] (m * 1)) 225 true) (Blk.mk (gC ws 0 m) 225 true) (by (refine aC ?_; rw [Cy,Ks])) (Hn.inl T_ok ai false 126 0 (ay Tryz.prog 108 1) (fun (x:(k:Nat) ×' (hk:k ≤ m) ×' (hcl:ab (gC ws k m) = true) ×' Unit)=>match x with | ⟨k,hk,hcl,_⟩=>CutS.mk [(4,zS),(5,zI 0),(6,D.ptr 8 8 0),(8,D.ptr 24 24 0),(9,D.ref 32 32 0 N 1),(12,D.ref 40 40 0 m 1),(63,zN m),(64,nD k)] [⟨0,0,0,0,.b ⟨map nD S,3,true⟩⟩,⟨8,8,8,8,.b ⟨[D.ref 0 0 0 N 1],152,false⟩⟩,⟨16,16,16,16,.b ⟨map dB (replicate L 0),5,true⟩⟩,⟨24,24,24,24,.b ⟨[D.ref 16 16 0 L 1],24,false⟩⟩,⟨32,32,32,32,.b ⟨map nD ws,3,true⟩⟩,⟨40,40,48,48,.b ⟨gC ws k m,225,true⟩⟩] 48) (fun (x:(k:Nat) ×' (hk:k ≤ m) ×' (hcl:ab (gC ws k m) = true) ×' Unit)=>match x with | ⟨k,hk,hcl,_⟩=>m - k) [⟨(hcl2:ab (gC ws m m) = true) ×' Unit,.exit 2,fun x=>match x with | ⟨hcl2,_⟩=>CutS.mk [(4,zS),(5,zI 0),(6,D.ptr 8 8 0),(8,D.ptr 24 24 0),(9,D.ref 32 32 0 N 1),(12,D.ref 40 40 0 m 1),(63,zN m)] [⟨0,0,0,0,.b ⟨map nD S,3,true⟩⟩,⟨8,8,8,8,.b ⟨[D.ref 0 0 0 N 1],152,false⟩⟩,⟨16,16,16,16,.b ⟨map dB (replicate L 0),5,true⟩⟩,⟨24,24,24,24,.b ⟨[D.ref 16 16 0 L 1],24,false⟩⟩,⟨32,32,32,32,.b ⟨map nD ws,3,true⟩⟩,⟨40,40,48,48,.b ⟨gC ws m m,225,true⟩⟩] 48⟩] 1000 64 (fun | ⟨k,hk,hcl,_⟩,Q,next1,last1=>(.s 2 (.br (decide ((k:Int) < (m:Int))) (fun p1=>have p1f:=aU p1; (.s 5 (.br (decide (0 < (k:Int))) (fun p2=>have p2f:=aU p2; (.s 6 (.ow ((k:Int) - 1) (.s 1 (.chk (decide (0 ≤ (k:Int) - 1) && decide ((k:Int) - 1 < (m:Int))) (by ((refine aK ?_ ?_) <;> (repeat' (first | (refine aK ?_ ?_) | (with_reducible rfl) | (refine decide_eq_true ?_) | (refine LK ?_) | (refine eT ?_))) <;> (omega))) (.s 2 (.opt ((gC ws k m)[0 + uM ((k:Int) - 1) * 1]?) (zP (aq ws (uM ((k:Int) - 1)))) (@xq ws (k) (m) (uM ((k:Int) - 1)) om om) (.s 2 (.call 145 false [] (true && (true && (true && LH (0 + N * 1) (length (map nD ws)) && true && ab (bif true && LF (N * 1) (length (map nD ws)) then map nD ws else take (N * 1) (drop 0 (map nD ws)))) && true)) (by (simp <;> (omega))) ([D.sl false (length (aq ws (uM ((k:Int) - 1)))) 2 (flatMap cr (aq ws (uM ((k:Int) - 1)))),D.sl (LH 1 N) N 1 (bif true && LF (N * 1) (length (map nD ws)) then map nD ws else take (N * 1) (drop 0 (map nD ws)))]) _ (by exact (LW (D.sim.refl _) (LW (D.sim.slw rfl (bt (by (simp <;> (omega))) |>.trans rfl)) trivial))) (true) wr _ _ _ (CallOk.fn (aA.of Tryz.func145 rfl rfl) (@HU (ws) (N) om om om (uM ((k:Int) - 1)) om (length (aq ws (uM ((k:Int) - 1)))) om)) (.s 1 (.chk (true && decide ((k:Int) < (m:Int))) bx (.s 1 (.chk (true && LH (0 + k * 1 + 1) (length (gC ws k m))) Lq (.lst (aj (gC ws k m) (0 + k * 1) [D.sl false (length (aq ws (uM ((k:Int) - 1) + 1))) 2 (flatMap cr (aq ws (uM ((k:Int) - 1) + 1)))]) (aj (gC ws k m) k [D.sl false (length (aq ws (uM ((k:Int) - 1) + 1))) 2 (flatMap cr (aq ws (uM ((k:Int) - 1) + 1)))]) (by (simp; done)) (.s 2 (.ow ((k:Int) + 1) (.s 1 (.val 64 (zI ((k:Int) + 1)) (zN (k + 1)) EV (.blk 40 40 (Blk.mk (aj (gC ws k m) k [D.sl false (length (aq ws (uM ((k:Int) - 1) + 1))) 2 (flatMap cr (aq ws (uM ((k:Int) - 1) + 1)))]) 225 true) (Blk.mk (gC ws (k + 1) m) 225 true) (by ( exact aC (xu om om om))) (Hn.next next1 ⟨(k + 1),om,(by (exact qD _ _ _)),⟨⟩⟩ (by show m - (k + 1) < m - k; clear next1 last1; omega) [(0,0),(8,8),(16,16),(24,24),(32,32),(40,40)] qz)))))))))))))))))))) (fun p2=>have p2f:=aV p2; (.s 4 (.call 145 false [] (true && (true && (true && LH (0 + N * 1) (length (map nD ws)) && true && ab (bif true && LF (N * 1) (length (map nD ws)) then map nD ws else take (N * 1) (drop 0 (map nD ws)))) && true)) (by (simp;  have h9:=hA.at (t:=0 + k * 1) om; omega)) ([zS,D.sl (LH 1 N) N 1 (bif true && LF (N * 1) (length (map nD ws)) then map nD ws else take (N * 1) (drop 0 (map nD ws)))]) _ (by exact (LW (D.sim.refl _) (LW (D.sim.slw rfl (bt (by (simp;  have h9:=hA.at (t:=0 + k * 1) om; omega)) |>.trans rfl)) trivial))) (true) wr _ _ _ (CallOk.fn (aA.of Tryz.func145 rfl rfl) (@HV (ws) (N) om om)) (.s 1 (.chk (true && decide ((k:Int) < (m:Int))) bx (.s 1 (.chk (true && LH (0 + k * 1 + 1) (length (gC ws k m))) Lq (.lst (aj (gC ws k m) (0 + k * 1) [D.sl false (length (aq ws 0)) 2 (flatMap cr (aq ws 0))]) (aj (gC ws k m) k [D.sl false (length (aq ws 0)) 2 (flatMap cr (aq ws 0))]) (by (simp; done)) (.s 2 (.ow ((k:Int) + 1) (.s 1 (.val 64 (zI ((k:Int) + 1)) (zN (k + 1)) EV (.blk 40 40 (Blk.mk (aj (gC ws k m) k [D.sl false (length (aq ws 0)) 2 (flatMap cr (aq ws 0))]) 225 true) (Blk.mk (gC ws (k + 1) m) 225 true) (by ( exact aC (xu om om om))) (Hn.next next1 ⟨(k + 1),om,(by (exact qD _ _ _)),⟨⟩⟩ (by show m - (k + 1) < m - k; clear next1 last1; omega) [(0,0),(8,8),(16,16),(24,24),(32,32),(40,40)] qz))))))))))))))))) (fun p1=>have p1f:=aV p1; (.blk 40 40 (Blk.mk (gC ws k m) 225 true) (Blk.mk (gC ws m m) 225 true) (by ( rw [show k = m from by omega])) (Hn.last last1 0 (⟨om,⟨⟩⟩:(hcl2:ab (gC ws m m) = true) ×' Unit) rfl [(0,0),(8,8),(16,16),(24,24),(32,32),(40,40)] qz)))))) (fun | ⟨k,hk,hcl,_⟩=>by kernel_rfl) ⟨(0),om,om,⟨⟩⟩ [(0,0),(8,8),(16,16),(24,24),(32,32),(48,48)] qz (b5 (fun | ⟨hcl2,_⟩=>(.s 6 (.ow (2 * (N:Int)) (.s 2 (.ow (2 * (N:Int) - 2) (.s 19 (.ow ((m:Int) - 1) (.s 1 (.blk 80 80 (Blk.mk [zI (2 * (N:Int) - 2)] 3 false) (Blk.mk [zN (2 * N - 2)] 3 false) (by ( exact Cz om)) (Hn.inl T_ok ai false 19 168 (ay Tryz.prog 177 0) (fun (x:(k:Nat) ×' (n:Nat) ×' (o:List UInt8) ×' (hk:k ≤ m) ×' (hT:LnT ws S L k n o T) ×' Unit)=>match x with | ⟨k,n,o,hk,hT,_⟩=>CutS.mk [(0,D.yl 160 160),(1,D.ptr 112 112 0),(3,iD ((k:Int) - 1))] [⟨0,0,0,0,.b ⟨map nD S,3,true⟩⟩,⟨8,8,8,8,.b ⟨[D.ref 0 0 0 N 1],152,false⟩⟩,⟨16,16,16,16,.b ⟨o.map dB,5,true⟩⟩,⟨24,24,24,24,.b ⟨[D.ref 16 16 0 L 1],24,false⟩⟩,⟨32,32,32,32,.b ⟨map nD ws,3,true⟩⟩,⟨40,40,40,40,.b ⟨gC ws m m,225,true⟩⟩,⟨80,80,80,80,.b ⟨[nD n],3,false⟩⟩,⟨112,112,112,112,.b ⟨[D.ref 40 40 0 m 1],224,false⟩⟩,⟨160,160,160,160,.l NV none (rangeAt Tryz.prog 108 0).1 (rangeAt Tryz.prog 108 0).2.1 (rangeAt Tryz.prog 108 0).2.2 126 [(63,zN m),(87,zI (2 * (N:Int))),(5,zI 0),(9,D.ref 32 32 0 N 1),(89,D.ref 40 40 0 m 1),(85,D.ref 0 0 0 N 1),(4,zS),(8,D.ptr 24 24 0),(88,zI (2 * (N:Int) - 2)),(12,D.ref 40 40 0 m 1),(6,D.ptr 8 8 0),(90,D.fn (Mn 177) [] [D.ptr 112 112 0]),(14,D.ptr 80 80 0),(86,zN N)]⟩] 240) (fun (x:(k:Nat) ×' (n:Nat) ×' (o:List UInt8) ×' (hk:k ≤ m) ×' (hT:LnT ws S L k n o T) ×' Unit)=>match x with | ⟨k,n,o,hk,hT,_⟩=>k) [⟨(n2:Nat) ×' Unit,.exit 0,fun x=>match x with | ⟨n2,_⟩=>CutS.mk [(0,D.yl 160 160),(1,D.ptr 112 112 0)] [⟨0,0,0,0,.b ⟨map nD S,3,true⟩⟩,⟨8,8,8,8,.b ⟨[D.ref 0 0 0 N 1],152,false⟩⟩,⟨16,16,16,16,.b ⟨T.map dB,5,true⟩⟩,⟨24,24,24,24,.b ⟨[D.ref 16 16 0 L 1],24,false⟩⟩,⟨32,32,32,32,.b ⟨map nD ws,3,true⟩⟩,⟨40,40,40,40,.b ⟨gC ws m m,225,true⟩⟩,⟨80,80,80,80,.b ⟨[nD n2],3,false⟩⟩,⟨112,112,112,112,.b ⟨[D.ref 40 40 0 m 1],224,false⟩⟩,⟨160,160,160,160,.l NV none (rangeAt Tryz.prog 108 0).1 (rangeAt Tryz.prog 108 0).2.1 (rangeAt Tryz.prog 108 0).2.2 126 [(63,zN m),(87,zI (2 * (N:Int))),(5,zI 0),(9,D.ref 32 32 0 N 1),(89,D.ref 40 40 0 m 1),(85,D.ref 0 0 0 N 1),(4,zS),(8,D.ptr 24 24 0),(88,zI (2 * (N:Int) - 2)),(12,D.ref 40 40 0 m 1),(6,D.ptr 8 8 0),(90,D.fn (Mn 177) [] [D.ptr 112 112 0]),(14,D.ptr 80 80 0),(86,zN N)]⟩] 240⟩] 1000 64 (fun | ⟨k,n,o,hk,hT,_⟩,Q,next1,last1=>(.s 3 (.br (decide (0 ≤ (k:Int) - 1)) (fun p3=>have p3f:=aU p3; (.s 7 (.chk (decide (0 ≤ (k:Int) - 1) && decide ((k:Int) - 1 < (m:Int))) HT (.s 2 (.opt ((gC ws m m)[0 + uM ((k:Int) - 1) * 1]?) (zP (aq ws (uM ((k:Int) - 1)))) (@xq ws (m) (m) (uM ((k:Int) - 1)) om om) (.s 8 (.chk (aM none (some (n:Int)) none (length (aq ws (uM ((k:Int) - 1)))) && true) (by ( have z:=hT.i.nextk om (((k:Int) - 1).toNat) om; have z2:=hT.l; have z3:=ce ws (((k:Int) - 1).toNat); have z4:(take n (aq ws ((k:Int) - 1).toNat)).length = n:=Mx z.1; exact g7 rfl om)) (.s 2 (.val 17 (zI 0) (zN (cE (aq ws (uM ((k:Int) - 1))) 0)) (by (rw [HS]; rfl)) (.val 95 (D.sl false n 2 (take (n * 2) (flatMap cr (aq ws (uM ((k:Int) - 1)))))) (D.sl false n 2 (flatMap cr (take n (aq ws (uM ((k:Int) - 1)))))) (by (refine congrArg (D.sl false n 2) ?_; refine tq ?_ _ _; exact fun _=>rfl)) (Hn.inl T_ok ai true 126 312 (ay Tryz.prog 108 2) (fun (x:(j:Nat) ×' (hj:j ≤ n) ×' Unit)=>match x with | ⟨j,hj,_⟩=>CutS.mk [(4,zS),(5,zI 0),(6,D.ptr 8 8 0),(8,D.ptr 24 24 0),(14,D.ptr 80 80 0),(16,D.sl false (length (aq ws (uM ((k:Int) - 1)))) 2 (flatMap cr (aq ws (uM ((k:Int) - 1))))),(17,nD (cE (aq ws ((k:Int) - 1).toNat) j)),(90,D.fn (Mn 177) [] [D.ptr 112 112 0]),(92,D.sl false (length (aq ws (uM ((k:Int) - 1)))) 2 (flatMap cr (aq ws (uM ((k:Int) - 1))))),(93,D.sl false (length (aq ws (uM ((k:Int) - 1)))) 2 (flatMap cr (aq ws (uM ((k:Int) - 1))))),(94,zN n),(95,.sl false n 2 ((take n (aq ws ((k:Int) - 1).toNat)).flatMap cr)),(96,zN n),(97,nD j)] [⟨0,0,0,0,.b ⟨map nD S,3,true⟩⟩,⟨8,8,8,8,.b ⟨[D.ref 0 0 0 N 1],152,false⟩⟩,⟨16,16,16,16,.b ⟨map dB o,5,true⟩⟩,⟨24,24,24,24,.b ⟨[D.ref 16 16 0 L 1],24,false⟩⟩,⟨32,32,32,32,.b ⟨map nD ws,3,true⟩⟩,⟨40,40,40,40,.b ⟨gC ws m m,225,true⟩⟩,⟨80,80,80,80,.b ⟨[zN n],3,false⟩⟩,⟨112,112,112,112,.b ⟨[D.ref 40 40 0 m 1],224,false⟩⟩,⟨160,160,160,160,.l OI none (rangeAt Tryz.prog 108 0).1 (rangeAt Tryz.prog 108 0).2.1 (rangeAt Tryz.prog 108 0).2.2 126 [(63,zN m),(87,zI (2 * (N:Int))),(5,zI 0),(9,D.ref 32 32 0 N 1),(89,D.ref 40 40 0 m 1),(85,D.ref 0 0 0 N 1),(4,zS),(8,D.ptr 24 24 0),(88,zI (2 * (N:Int) - 2)),(12,D.ref 40 40 0 m 1),(6,D.ptr 8 8 0),(90,D.fn (Mn 177) [] [D.ptr 112 112 0]),(14,D.ptr 80 80 0),(86,zN N)]⟩] 384) (fun (x:(j:Nat) ×' (hj:j ≤ n) ×' Unit)=>match x with | ⟨j,hj,_⟩=>n - j) [⟨Unit,.exit 6,fun x=>match x with | ()=>CutS.mk [(4,zS),(5,zI 0),(6,D.ptr 8 8 0),(8,D.ptr 24 24 0),(14,D.ptr 80 80 0),(16,D.sl false (length (aq ws (uM ((k:Int) - 1)))) 2 (flatMap cr (aq ws (uM ((k:Int) - 1))))),(17,nD (cE (aq ws ((k:Int) - 1).toNat) n)),(90,D.fn (Mn 177) [] [D.ptr 112 112 0]),(92,D.sl false (length (aq ws (uM ((k:Int) - 1)))) 2 (flatMap cr (aq ws (uM ((k:Int) - 1))))),(93,D.sl false (length (aq ws (uM ((k:Int) - 1)))) 2 (flatMap cr (aq ws (uM ((k:Int) - 1))))),(94,zN n),(96,zN n),(97,nD n)] [⟨0,0,0,0,.b ⟨map nD S,3,true⟩⟩,⟨8,8,8,8,.b ⟨[D.ref 0 0 0 N 1],152,false⟩⟩,⟨16,16,16,16,.b ⟨map dB o,5,true⟩⟩,⟨24,24,24,24,.b ⟨[D.ref 16 16 0 L 1],24,false⟩⟩,⟨32,32,32,32,.b ⟨map nD ws,3,true⟩⟩,⟨40,40,40,40,.b ⟨gC ws m m,225,true⟩⟩,⟨80,80,80,80,.b ⟨[zN n],3,false⟩⟩,⟨112,112,112,112,.b ⟨[D.ref 40 40 0 m 1],224,false⟩⟩,⟨160,160,160,160,.l OI none (rangeAt Tryz.prog 108 0).1 (rangeAt Tryz.prog 108 0).2.1 (rangeAt Tryz.prog 108 0).2.2 126 [(63,zN m),(87,zI (2 * (N:Int))),(5,zI 0),(9,D.ref 32 32 0 N 1),(89,D.ref 40 40 0 m 1),(85,D.ref 0 0 0 N 1),(4,zS),(8,D.ptr 24 24 0),(88,zI (2 * (N:Int) - 2)),(12,D.ref 40 40 0 m 1),(6,D.ptr 8 8 0),(90,D.fn (Mn 177) [] [D.ptr 112 112 0]),(14,D.ptr 80 80 0),(86,zN N)]⟩] 384⟩] 1000 64 (fun | ⟨j,hj,_⟩,Q,next2,last2=>(.s 2 (.br (decide ((j:Int) < (n:Int))) (fun p4=>have p4f:=aU p4; (.s 1 (.chk (true && decide ((j:Int) < (n:Int)) && true) HT (.s 2 (.chk (LH (j * 2 + 2) (length (flatMap cr (take n (aq ws (uM ((k:Int) - 1))))))) (by (rw [bl (k:=2) (fun (x:Pc)=>(rfl:(cr x).length = 2)),LO]; refine LK ?_;  have z:=hT.i.nextk om (((k:Int) - 1).toNat) om; have z2:=hT.l; have z3:=ce ws (((k:Int) - 1).toNat); have z4:(take n (aq ws ((k:Int) - 1).toNat)).length = n:=Mx z.1; omega)) (.lst (take 2 (drop (j * 2) (flatMap cr (take n (aq ws (uM ((k:Int) - 1))))))) ([zN (Pc.w (getD (take n (aq ws (uM ((k:Int) - 1)))) j jd)),D.v (.bool (Pc.p (getD (take n (aq ws (uM ((k:Int) - 1)))) j jd)))]) (aD (k:=2) (i:=j) (fun _=>rfl) EW om) (.s 11 (.br (Pc.p (getD (take n (aq ws (uM ((k:Int) - 1)))) j jd)) (fun p5=>(.s 3 (.op ((↑(cE (aq ws (uM ((k:Int) - 1))) j):Int) + 1) (by ( have z:=hT.i.nextk om (((k:Int) - 1).toNat) om; have z2:=hT.l; have z3:=ce ws (((k:Int) - 1).toNat); have z4:(take n (aq ws ((k:Int) - 1).toNat)).length = n:=Mx z.1; have h7:=xk (aq ws ((k:Int) - 1).toNat) j; omega)) (.s 3 (.op ((j:Int) + 1) EW (.s 1 (.val 17 (zI ((↑(cE (aq ws (uM ((k:Int) - 1))) j):Int) + 1)) (zN (cE (aq ws (uM ((k:Int) - 1))) (j + 1))) (by ( have z:=hT.i.nextk om (((k:Int) - 1).toNat) om; have z2:=hT.l; have z3:=ce ws (((k:Int) - 1).toNat); have z4:(take n (aq ws ((k:Int) - 1).toNat)).length = n:=Mx z.1; refine aO ?_; rw [HW (n:=n) om z.1 bx]; omega)) (.val 97 (zI ((j:Int) + 1)) (zN (j + 1)) EV (Hn.next next2 ⟨(j + 1),om,⟨⟩⟩ Lr [(0,0),(8,8),(16,16),(24,24),(32,32),(40,40),(80,80),(112,112),(160,160)] qz))))))))) (fun p5=>(.s 2 (.op ((j:Int) + 1) EW (.s 1 (.val 17 (zN (cE (aq ws (uM ((k:Int) - 1))) j)) (zN (cE (aq ws (uM ((k:Int) - 1))) (j + 1))) (by ( have z:=hT.i.nextk om (((k:Int) - 1).toNat) om; have z2:=hT.l; have z3:=ce ws (((k:Int) - 1).toNat); have z4:(take n (aq ws ((k:Int) - 1).toNat)).length = n:=Mx z.1; rw [HX (n:=n) om z.1 bx])) (.val 97 (zI ((j:Int) + 1)) (zN (j + 1)) EV (Hn.next next2 ⟨(j + 1),om,⟨⟩⟩ Lr [(0,0),(8,8),(16,16),(24,24),(32,32),(40,40),(80,80),(112,112),(160,160)] qz))))))))))))))) (fun p4=>have p4f:=aV p4; (.val 17 (zN (cE (aq ws (uM ((k:Int) - 1))) j)) (zN (cE (aq ws (uM ((k:Int) - 1))) n)) (by ( rw [show j = n from by omega])) (.val 97 (zN j) (zN n) HT (Hn.last last2 0 (():Unit) rfl [(0,0),(8,8),(16,16),(24,24),(32,32),(40,40),(80,80),(112,112),(160,160)] qz))))))) (fun | ⟨j,hj,_⟩=>by kernel_rfl) ⟨(0),om,⟨⟩⟩ [(0,0),(8,8),(16,16),(24,24),(32,32),(40,40),(80,80),(112,112),(160,160)] qz (b5 (fun | ()=>(.s 9 (.op ((n:Int) - (↑(cE (aq ws (uM ((k:Int) - 1))) n):Int)) EW (.s 1 (.chk (aM none (some ((n:Int) - (↑(cE (aq ws (uM ((k:Int) - 1))) n):Int))) none N && true) (by ( have z:=hT.i.nextk om (((k:Int) - 1).toNat) om; have z2:=hT.l; have z3:=ce ws (((k:Int) - 1).toNat); have z4:(take n (aq ws ((k:Int) - 1).toNat)).length = n:=Mx z.1; refine g7 (n:=n - cE (aq ws ((k:Int) - 1).toNat) n) ?_ ?_ <;> omega)) (.s 2 (.blk 16 16 (Blk.mk (map dB o) 5 true) (Blk.mk (map dB (b8 o S 0)) 5 true) (by (rw [r9])) (Hn.inl T_ok ai true 126 312 (ay Tryz.prog 108 3) (fun (x:(j:Nat) ×' (hj:j ≤ n - cE (aq ws ((k:Int) - 1).toNat) n) ×' Unit)=>match x with | ⟨j,hj,_⟩=>CutS.mk [(4,zS),(5,zI 0),(6,D.ptr 8 8 0),(8,D.ptr 24 24 0),(14,D.ptr 80 80 0),(16,D.sl false (length (aq ws (uM ((k:Int) - 1)))) 2 (flatMap cr (aq ws (uM ((k:Int) - 1))))),(17,zN (cE (aq ws (uM ((k:Int) - 1))) n)),(90,D.fn (Mn 177) [] [D.ptr 112 112 0]),(92,D.sl false (length (aq ws (uM ((k:Int) - 1)))) 2 (flatMap cr (aq ws (uM ((k:Int) - 1))))),(93,D.sl false (length (aq ws (uM ((k:Int) - 1)))) 2 (flatMap cr (aq ws (uM ((k:Int) - 1))))),(94,zN n),(96,zN n),(97,zN n),(106,D.ref 0 0 0 N 1),(107,zN n),(108,zN (cE (aq ws (uM ((k:Int) - 1))) n)),(109,zI ((n:Int) - (↑(cE (aq ws (uM ((k:Int) - 1))) n):Int))),(110,D.ref 0 0 0 (uM ((n:Int) - (↑(cE (aq ws (uM ((k:Int) - 1))) n):Int))) 1),(111,zN (uM ((n:Int) - (↑(cE (aq ws (uM ((k:Int) - 1))) n):Int)))),(112,nD j)] [⟨0,0,0,0,.b ⟨map nD S,3,true⟩⟩,⟨8,8,8,8,.b ⟨[D.ref 0 0 0 N 1],152,false⟩⟩,⟨16,16,16,16,.b ⟨(b8 o S j).map dB,5,true⟩⟩,⟨24,24,24,24,.b ⟨[D.ref 16 16 0 L 1],24,false⟩⟩,⟨32,32,32,32,.b ⟨map nD ws,3,true⟩⟩,⟨40,40,40,40,.b ⟨gC ws m m,225,true⟩⟩,⟨80,80,80,80,.b ⟨[zN n],3,false⟩⟩,⟨112,112,112,112,.b ⟨[D.ref 40 40 0 m 1],224,false⟩⟩,⟨160,160,160,160,.l OI none (rangeAt Tryz.prog 108 0).1 (rangeAt Tryz.prog 108 0).2.1 (rangeAt Tryz.prog 108 0).2.2 126 [(63,zN m),(87,zI (2 * (N:Int))),(5,zI 0),(9,D.ref 32 32 0 N 1),(89,D.ref 40 40 0 m 1),(85,D.ref 0 0 0 N 1),(4,zS),(8,D.ptr 24 24 0),(88,zI (2 * (N:Int) - 2)),(12,D.ref 40 40 0 m 1),(6,D.ptr 8 8 0),(90,D.fn (Mn 177) [] [D.ptr 112 112 0]),(14,D.ptr 80 80 0),(86,zN N)]⟩] 384) (fun (x:(j:Nat) ×' (hj:j ≤ n - cE (aq ws ((k:Int) - 1).toNat) n) ×' Unit)=>match x with | ⟨j,hj,_⟩=>n - cE (aq ws ((k:Int) - 1).toNat) n - j) [⟨Unit,.exit 8,fun x=>match x with | ()=>CutS.mk [(4,zS),(5,zI 0),(6,D.ptr 8 8 0),(8,D.ptr 24 24 0),(14,D.ptr 80 80 0),(16,D.sl false (length (aq ws (uM ((k:Int) - 1)))) 2 (flatMap cr (aq ws (uM ((k:Int) - 1))))),(17,zN (cE (aq ws (uM ((k:Int) - 1))) n)),(90,D.fn (Mn 177) [] [D.ptr 112 112 0]),(92,D.sl false (length (aq ws (uM ((k:Int) - 1)))) 2 (flatMap cr (aq ws (uM ((k:Int) - 1))))),(93,D.sl false (length (aq ws (uM ((k:Int) - 1)))) 2 (flatMap cr (aq ws (uM ((k:Int) - 1))))),(94,zN n),(96,zN n),(97,zN n),(106,D.ref 0 0 0 N 1),(107,zN n),(108,zN (cE (aq ws (uM ((k:Int) - 1))) n)),(109,zI ((n:Int) - (↑(cE (aq ws (uM ((k:Int) - 1))) n):Int))),(110,D.ref 0 0 0 (uM ((n:Int) - (↑(cE (aq ws (uM ((k:Int) - 1))) n):Int))) 1),(111,zN (uM ((n:Int) - (↑(cE (aq ws (uM ((k:Int) - 1))) n):Int))))] [⟨0,0,0,0,.b ⟨map nD S,3,true⟩⟩,⟨8,8,8,8,.b ⟨[D.ref 0 0 0 N 1],152,false⟩⟩,⟨16,16,16,16,.b ⟨(b8 o S (n - cE (aq ws ((k:Int) - 1).toNat) n)).map dB,5,true⟩⟩,⟨24,24,24,24,.b ⟨[D.ref 16 16 0 L 1],24,false⟩⟩,⟨32,32,32,32,.b ⟨map nD ws,3,true⟩⟩,⟨40,40,40,40,.b ⟨gC ws m m,225,true⟩⟩,⟨80,80,80,80,.b ⟨[zN n],3,false⟩⟩,⟨112,112,112,112,.b ⟨[D.ref 40 40 0 m 1],224,false⟩⟩,⟨160,160,160,160,.l OI none (rangeAt Tryz.prog 108 0).1 (rangeAt Tryz.prog 108 0).2.1 (rangeAt Tryz.prog 108 0).2.2 126 [(63,zN m),(87,zI (2 * (N:Int))),(5,zI 0),(9,D.ref 32 32 0 N 1),(89,D.ref 40 40 0 m 1),(85,D.ref 0 0 0 N 1),(4,zS),(8,D.ptr 24 24 0),(88,zI (2 * (N:Int) - 2)),(12,D.ref 40 40 0 m 1),(6,D.ptr 8 8 0),(90,D.fn (Mn 177) [] [D.ptr 112 112 0]),(14,D.ptr 80 80 0),(86,zN N)]⟩] 384⟩] 1000 64 (fun | ⟨j,hj,_⟩,Q,next2,last2=>(.s 2 (.br (decide ((j:Int) < (↑(uM ((n:Int) - (↑(cE (aq ws (uM ((k:Int) - 1))) n):Int))):Int))) (fun p6=>have p6f:=aU p6; (.s 1 (.chk (true && decide ((j:Int) < (↑(uM ((n:Int) - (↑(cE (aq ws (uM ((k:Int) - 1))) n):Int))):Int))) bx (.s 2 (.opt ((map nD S)[0 + j * 1]?) (nD (getD S (0 + j * 1) jd)) (au _ _ HT) (.s 6 (.chk (true && decide ((↑(getD S (0 + j * 1) jd):Int) < (L:Int))) Lt (.s 2 (.opt ((map dB (b8 o S j))[0 + getD S (0 + j * 1) jd * 1]?) (dB (getD (b8 o S j) (0 + getD S (0 + j * 1) jd * 1) jd)) (au _ _ (by ( have z:=hT.i.nextk om (((k:Int) - 1).toNat) om; have z2:=hT.l; have z3:=ce ws (((k:Int) - 1).toNat); have z4:(take n (aq ws ((k:Int) - 1).toNat)).length = n:=Mx z.1; have h9:=hA.at (t:=0 + j * 1) om; have h8:=ct o S j; omega))) (.s 2 (.opt (aw .u8 ((↑(LG (getD (b8 o S j) (0 + getD S (0 + j * 1) jd * 1) jd)):Int) + 1)) (bI (((↑(LG (getD (b8 o S j) (0 + getD S (0 + j * 1) jd * 1) jd)):Int) + 1) % 256)) (aL _ _) (.s 1 (.chk (true && decide ((↑(getD S (0 + j * 1) jd):Int) < (L:Int))) Lt (.s 1 (.chk (true && LH (0 + getD S (0 + j * 1) jd * 1 + 1) (length (map dB (b8 o S j)))) (by (rw [LU];  have z:=hT.i.nextk om (((k:Int) - 1).toNat) om; have z2:=hT.l; have z3:=ce ws (((k:Int) - 1).toNat); have z4:(take n (aq ws ((k:Int) - 1).toNat)).length = n:=Mx z.1; have h9:=hA.at (t:=0 + j * 1) om; have h8:=ct o S j; simp only [L7]; refine LK ?_; omega)) (.lst (aj (map dB (b8 o S j)) (0 + getD S (0 + j * 1) jd * 1) [bI (((↑(LG (getD (b8 o S j) (0 + getD S (0 + j * 1) jd * 1) jd)):Int) + 1) % 256)]) (aj (map dB (b8 o S j)) (getD S j jd) [bI (((↑(LG (getD (b8 o S j) (getD S j jd) jd)):Int) + 1) % 256)]) (by (simp; done)) (.s 2 (.op ((j:Int) + 1) EW (.s 1 (.val 112 (zI ((j:Int) + 1)) (zN (j + 1)) EV (.blk 16 16 (Blk.mk (aj (map dB (b8 o S j)) (getD S j jd) [bI (((↑(LG (getD (b8 o S j) (getD S j jd) jd)):Int) + 1) % 256)]) 5 true) (Blk.mk (map dB (b8 o S (j + 1))) 5 true) (by ( have z:=hT.i.nextk om (((k:Int) - 1).toNat) om; have z2:=hT.l; have z3:=ce ws (((k:Int) - 1).toNat); have z4:(take n (aq ws ((k:Int) - 1).toNat)).length = n:=Mx z.1; have h9:=hA.at (t:=0 + j * 1) om; have h8:=ct o S j; refine aC (HY om ?_ ?_ ?_) <;> first | (simp only [Mb,Me]; done) | rfl | (simp only [Mb,Me] at *; omega))) (Hn.next next2 ⟨(j + 1),om,⟨⟩⟩ (by show n - cE (aq ws (uM ((k:Int) - 1))) n - (j + 1) < n - cE (aq ws (uM ((k:Int) - 1))) n - j; clear next2 last2 next1 last1; omega) [(0,0),(8,8),(16,16),(24,24),(32,32),(40,40),(80,80),(112,112),(160,160)] qz)))))))))))))))))))))) (fun p6=>have p6f:=aV p6; (.blk 16 16 (Blk.mk (map dB (b8 o S j)) 5 true) (Blk.mk (map dB (b8 o S (n - cE (aq ws (uM ((k:Int) - 1))) n))) 5 true) (by ( rw [show j = n - cE (aq ws ((k:Int) - 1).toNat) n from by omega])) (Hn.last last2 0 (():Unit) rfl [(0,0),(8,8),(16,16),(24,24),(32,32),(40,40),(80,80),(112,112),(160,160)] qz)))))) (fun | ⟨j,hj,_⟩=>by kernel_rfl) ⟨(0),om,⟨⟩⟩ [(0,0),(8,8),(16,16),(24,24),(32,32),(40,40),(80,80),(112,112),(160,160)] qz (b5 (fun | ()=>(.s 3 (.op (2 * (↑(cE (aq ws (uM ((k:Int) - 1))) n):Int)) EW (.s 8 (.ow ((k:Int) - 1 - 1) (.s 1 (.val 3 (zI ((k:Int) - 1 - 1)) (zI ((↑(k - 1):Int) - 1)) HT (.blk 80 80 (Blk.mk [zI (2 * (↑(cE (aq ws (uM ((k:Int) - 1))) n):Int))] 3 false) (Blk.mk [zN (2 * cE (aq ws (uM ((k:Int) - 1))) n)] 3 false) (by ( exact Cz om)) (Hn.next next1 ⟨(k - 1),(2 * cE (aq ws ((k:Int) - 1).toNat) n),(b8 o S (n - cE (aq ws ((k:Int) - 1).toNat) n)),om,(by ( exact hT.next' om _ om)),⟨⟩⟩ (by show k - 1 < k; clear next1 last1; omega) [(0,0),(8,8),(16,16),(24,24),(32,32),(40,40),(80,80),(112,112),(160,160)] qz)))))))))))))))))))))))))))))) (fun p3=>have p3f:=aV p3; (.blk 16 16 (Blk.mk (map dB o) 5 true) (Blk.mk (map dB T) 5 true) (by ( rw [hT.last om])) (Hn.last last1 0 (⟨(n),⟨⟩⟩:(n2:Nat) ×' Unit) rfl [(0,0),(8,8),(16,16),(24,24),(32,32),(40,40),(80,80),(112,112),(160,160)] qz)))))) (fun | ⟨k,n,o,hk,hT,_⟩=>by kernel_rfl) ⟨(m),(2 * N - 2),(replicate L 0),om,om,⟨⟩⟩ [(0,0),(8,8),(16,16),(24,24),(32,32),(40,40),(80,80),(112,112),(160,160)] qz (b5 (fun | ⟨n2,_⟩=>(.s 5 (.out [16] [16] (D.tup [D.ref 0 0 0 L 1,zI 0]) [Blk.mk (map dB T) 5 true] R (ok _ _ wr wr))))))))))))))))))))))))))))))))))))) (by kernel_rfl)
theorem IR {p:Prop} (h:p:=by ( have h9:=hA.at (t:=0) om; refine decide_eq_true ?_; omega)):p:=h
theorem Lu {p:Prop} (h:p:=by (have h9:((ze.bytes:Nat):Int) = 1:=rfl; rw [h9]; simp; omega)):p:=h
theorem H1 (W:List Nat) (L:Nat) (hL:L = W.length) (hL2:L ≤ 320) (hB:∀ t,W.getD t jd ≤ 1073741824) (m:Nat) (hm:1 ≤ m ∧ m ≤ 15) (S:List Nat) (hS:eJ W = S) (N:Nat) (hN:N = S.length) (hNm:N ≤ 2 ^ m) (hA:bq L S) (hN3:N ≤ 320) (h2:N = 1):SpecH false Tryz.prog 108 [.sl false L 1 (W.map nD),nD m] [] (.tup [.ref 0 0 0 L 1,iD 0]) [⟨((LX L (0:UInt8)).set (S.getD 0 jd) (MH 1)).map dB, 5, true⟩]:=by
 refine SpecH.run T_ok ai Tryz.func108 rfl rfl rfl ⟨ba _,trivial⟩ rfl 1000 64 (fun R ok=>(.s 5 (.cl 144 false [] (.fn DD (@oI (W) (L) om om om (m) om (S) bx (N) bx om)) (.s 18 (.chk (true && decide ((L:Int) ≤ (L:Int)) && true && true && true && true && decide ((↑(TI.bytes ze):Int) * (L:Int) ≤ 140737488355328)) Lu (.s 11 (.t ((N:Int) == 1) IR (.s 8 (.chk (true && decide (0 < (N:Int))) IR (.s 2 (.opt ((map nD S)[0]?) (nD (getD S 0 jd)) (au _ _ om) (.s 1 (.chk (true && decide ((↑(getD S 0 jd):Int) < (L:Int))) IR (.s 1 (.chk (true && LH (0 + getD S 0 jd * 1 + 1) (length (cu [bI 0] (L * 1)))) (by ( have h9:=hA.at (t:=0) om; rw [tP,LU,Mg,L7]; refine LK ?_; omega)) (.lst (aj (cu [bI 0] (L * 1)) (0 + getD S 0 jd * 1) [bI 1]) (aj (cu [bI 0] L) (getD S 0 jd) [bI 1]) (by (simp; done)) (.s 6 (.t (decide ((N:Int) < 2)) IR (.s 5 (.out [120] [120] (D.tup [D.ref 0 0 0 L 1,zI 0]) [Blk.mk (aj (cu [bI 0] L) (getD S 0 jd) [bI 1]) 5 true] R (ok _ _ wr (by ( have h9:=hA.at (t:=0) om; have e:=tP L; rw [Me] at e; rw [e]; exact congrArg (fun z=>[Blk.mk z 5 true]) (wR (a:=1) (by decide) (by rw [Mg]; omega))))))))))))))))))))))))) (by kernel_rfl)
theorem H2 (W:List Nat) (L:Nat) (hL:L = W.length) (hL2:L ≤ 320) (hB:∀ t,W.getD t jd ≤ 1073741824) (m:Nat) (hm:1 ≤ m ∧ m ≤ 15) (S:List Nat) (hS:eJ W = S) (N:Nat) (hN:N = S.length) (hNm:N ≤ 2 ^ m) (hA:bq L S) (hN3:N ≤ 320) (h2:N = 0):SpecH false Tryz.prog 108 [.sl false L 1 (W.map nD),nD m] [] (.tup [.ref 0 0 0 L 1,iD 0]) [⟨(LX L (0:UInt8)).map dB, 5, true⟩]:=by
 refine SpecH.run T_ok ai Tryz.func108 rfl rfl rfl ⟨ba _,trivial⟩ rfl 1000 64 (fun R ok=>(.s 5 (.cl 144 false [] (.fn DD (@oI (W) (L) om om om (m) om (S) bx (N) bx om)) (.s 18 (.chk (true && decide ((L:Int) ≤ (L:Int)) && true && true && true && true && decide ((↑(TI.bytes ze):Int) * (L:Int) ≤ 140737488355328)) Lu (.s 11 (.f ((N:Int) == 1) (by (refine decide_eq_false ?_; (omega))) (.s 6 (.t (decide ((N:Int) < 2)) (by (refine decide_eq_true ?_; (omega))) (.s 5 (.out [120] [120] (D.tup [D.ref 0 0 0 L 1,zI 0]) [Blk.mk (cu [bI 0] (L * 1)) 5 true] R (ok _ _ wr (by (rw [tP])))))))))))))) (by kernel_rfl)
def uZ (W S:List Nat) (m:Nat):List UInt8 :=
 if S.length = 0 then LX W.length 0 else if S.length = 1 then (LX W.length 0).set (S.getD 0 jd) (MH 1)
 else zO (oE W S S.length) S m (2 * S.length - 2) (LX W.length 0)
def bK (W:List Nat) (m:Nat):List UInt8:=lk W (uZ W (eJ W) m)
theorem kw (W:List Nat) (m:Nat):bK W m = uZ W (eJ W) m:=aF _ _
theorem oJ (ws S:List Nat):∀ (k n:Nat) (o:List UInt8),(zO ws S k n o).length = o.length
 | 0,_,_=>rfl
 | k + 1,n,o=>by rw [zO,oJ ws S k,ct]
theorem iT (W:List Nat) (m:Nat):(bK W m).length = W.length:=by
 rw [kw,uZ]
 split
 ·rw [Mg]
 ·split
  ·rw [NJ,Mg]
  ·rw [oJ,Mg]
theorem H6 (W:List Nat) (L:Nat) (hL:L = W.length) (hL2:L ≤ 320) (hB:∀ t,W.getD t jd ≤ 1073741824) (m:Nat) (hm:1 ≤ m ∧ m ≤ 15) (hNm:(ek W L).length ≤ 2 ^ m):SpecH false Tryz.prog 108 [.sl false L 1 (W.map nD),nD m] [] (.tup [.ref 0 0 0 L 1,iD 0]) [⟨(bK W m).map dB, 5, true⟩]:=by
 have hp:=dH W
 have hl:=hp.length_eq
 have hA:bq L (eJ W):=by rw [hL]; exact oD.perm hp
 have h3:=ik W L
 rw [← hL] at hl
 rw [kw,uZ]
 by_cases c0:(eJ W).length = 0
 ·rw [if_pos c0,← hL]
  exact H2 W L hL hL2 hB m hm _ rfl _ rfl (by omega) hA (by omega) c0
 ·rw [if_neg c0]
  by_cases c1:(eJ W).length = 1
  ·rw [if_pos c1,← hL]
   exact H1 W L hL hL2 hB m hm _ rfl _ rfl (by omega) hA (by omega) c1
  ·rw [if_neg c1,← hL]
   have hwl:(oE W (eJ W) (eJ W).length).length = (eJ W).length:=ku (LV _)
   refine HZ W L hL hL2 hB m hm _ rfl _ rfl (by omega) hA (by omega) (by omega) _ rfl hwl (fun w hw=>?_) _ ⟨?_,Mg,rfl⟩
   ·rw [lG] at hw
    obtain ⟨i,_,rfl⟩:=List.mem_map.1 hw
    exact hB i
   ·have q:=LnI.first (ws:=oE W (eJ W) (eJ W).length) hm.1 (by rw [hwl]; omega) (by rw [hwl]; omega)
    rwa [hwl] at q
end Vp
end Go.Proofs.YtefjnofhgkjpmaaGreat
namespace Go.Proofs.YtefjnofhgkjpmaaGreat
open Go.RowKit Go.Bw Go.Vx
namespace Vp
theorem IS {p:Prop} (h:p:=by rw [Mg]):p:=h
def u0 (l:List Pc):Nat:=(l.filter (fun x=>!x.p)).length
def tQ (l:List Pc):Nat:=(l.filter (·.p)).length
def sW (l:List Pc):List Nat:=(l.filter (fun x=>!x.p)).map (·.w)
theorem oK (a b:List Pc):u0 (a ++ b) = u0 a + u0 b:=by unfold u0; rw [MO,LJ]
theorem tR (a b:List Pc):tQ (a ++ b) = tQ a + tQ b:=by unfold tQ; rw [MO,LJ]
theorem lJ (ws:List Nat):u0 (fY ws) = ws.length ∧ tQ (fY ws) = 0:=by
 unfold u0 tQ fY
 refine ⟨?_,?_⟩
 ·rw [List.filter_eq_self.2 (fun x hx=>by obtain ⟨w,_,rfl⟩:=List.mem_map.1 hx; rfl),LU]
 ·rw [List.filter_eq_nil_iff.2 (fun x hx=>by obtain ⟨w,_,rfl⟩:=List.mem_map.1 hx; simp)]; rfl
theorem lK (ws:List Nat) (n:Nat):(fY ws).take n = fY (ws.take n):=by unfold fY; rw [Ow]
theorem xv (ws:List Nat):sW (fY ws) = ws:=by
 unfold sW fY
 rw [List.filter_eq_self.2 (fun x hx=>by obtain ⟨w,_,rfl⟩:=List.mem_map.1 hx; rfl),List.map_map]
 exact List.map_id ws
theorem xw (s:Nat):∀ ws:List Nat,∃ em,(dT s ws).1 = fY em ++ [⟨s,true⟩] ∧ ws = em ++ (dT s ws).2 ∧ ∀ u r,(dT s ws).2 = u :: r → s < u
 | []=>⟨[],rfl,rfl,fun u r h=>by cases h⟩
 | w :: r=>by
  rw [dT]; split
  ·next q=>exact ⟨[],rfl,rfl,fun u r' h=>by cases h; exact q⟩
  ·obtain ⟨em,h1,h2,h3⟩:=xw s r
   exact ⟨w :: em,by rw [h1]; rfl,by rw [NB,← h2],h3⟩
theorem xx:∀ (row:List Pc) (ws:List Nat),sW (eo row ws) = ws
 | [],ws=>xv ws
 | [_],ws=>xv ws
 | x :: y :: r,ws=>by
  obtain ⟨em,h1,h2,_⟩:=xw (x.w + y.w) ws
  have ih:=xx r (dT (x.w + y.w) ws).2
  rw [eo,h1]
  unfold sW at *
  rw [MO,Mv,ih,MO,Mv]
  have e:=xv em
  unfold sW at e
  rw [e]
  show (em ++ []) ++ _ = ws
  rw [MA,← h2]
theorem En (ws:List Nat):∀ k,sW (aq ws k) = ws
 | 0=>by rw [← oG,fV]; exact xx _ _
 | k + 1=>by rw [← lI,fV]; exact xx _ _
theorem tS:∀ (row:List Pc) (v ws:List Nat),sW row = v ++ ws → ∀ n,u0 (row.take (2 * tQ ((eo row ws).take n))) ≤ v.length + u0 ((eo row ws).take n)
 | [],v,ws,_,n=>by
  have e:(eo [] ws).take n = fY (ws.take n):=lK ws n
  rw [e,(lJ _).2]; exact Mw _
 | [x],v,ws,_,n=>by
  have e:(eo [x] ws).take n = fY (ws.take n):=lK ws n
  rw [e,(lJ _).2]; exact Mw _
 | x :: y :: r,v,ws,h,n=>by
  obtain ⟨em,h1,h2,h3⟩:=xw (x.w + y.w) ws
  have ih:=tS r
  rw [eo,h1]
  generalize (dT (x.w + y.w) ws).2 = ws' at *
  rcases Mh em.length n with q | q
  ·have e:(fY em ++ [(⟨x.w + y.w,true⟩:Pc)] ++ eo r ws').take n = (fY em ++ [(⟨x.w + y.w,true⟩:Pc)]) ++ (eo r ws').take (n - (em.length + 1)):=by
    have l:(fY em ++ [(⟨x.w + y.w,true⟩:Pc)]).length = em.length + 1:=by unfold fY; rw [LJ,LU]; rfl
    rw [PA,l,Mf (by omega)]
   rw [e,tR,tR,oK,oK,(lJ em).1,(lJ em).2]
   show u0 ((x :: y :: r).take (2 * (0 + 1 + _))) ≤ v.length + (em.length + 0 + _)
   generalize hZ:(eo r ws').take (n - (em.length + 1)) = Z
   have hk:sW (x :: y :: r) = sW [x,y] ++ sW r:=by
    unfold sW
    rw [show x :: y :: r = [x,y] ++ r from rfl,MO,Mv]
   have hs:∀ u ∈ sW [x,y],u ≤ x.w + y.w:=fun u hu=>by
    obtain ⟨p,hp,rfl⟩:=List.mem_map.1 hu
    rcases List.mem_cons.1 (List.mem_filter.1 hp).1 with rfl | hp
    ·omega
    ·cases List.mem_singleton.1 hp; omega
   have hl:(sW [x,y]).length = u0 [x,y]:=by unfold sW u0; rw [LU]
   rw [hk,h2,← Ma] at h
   have hc:(sW [x,y]).length ≤ (v ++ em).length:=by
    rcases Mh (v ++ em).length (sW [x,y]).length with z | z
    ·exfalso
     have g:(sW [x,y] ++ sW r)[(v ++ em).length]? = (v ++ em ++ ws')[(v ++ em).length]?:=by rw [h]
     rw [List.getElem?_append_left z,List.getElem?_append_right (LV _),MV,List.getElem?_eq_getElem z] at g
     cases hw:ws' with
     | nil=>rw [hw] at g; cases g
     | cons u t =>
      rw [hw] at g
      have g2:(sW [x,y])[(v ++ em).length] = u:=Option.some.inj g
      have:=hs _ (Mr z)
      have:=h3 u t hw
      omega
    ·exact z
   have hr:sW r = (v ++ em).drop (sW [x,y]).length ++ ws' := by
    have g:=congrArg (Mm (sW [x,y]).length) h
    rwa [List.drop_left,NQ hc] at g
   have i2:=ih _ ws' hr (n - (em.length + 1))
   rw [hZ,L9,LJ,hl] at i2
   rw [LJ,hl] at hc
   have e3:(x :: y :: r).take (2 * (0 + 1 + tQ Z)) = [x,y] ++ r.take (2 * tQ Z):=by
    rw [show 2 * (0 + 1 + tQ Z) = 2 * tQ Z + 1 + 1 from by omega]; rfl
   rw [e3,oK]
   omega
  ·have e:(fY em ++ [(⟨x.w + y.w,true⟩:Pc)] ++ eo r ws').take n = fY (em.take n):=by
    have l:n ≤ (fY em).length:=by unfold fY; rw [LU]; exact q
    rw [Ma,Nq l,lK]
   rw [e,(lJ _).2]; exact Mw _
def CB (l:List Nat) (j:Nat):List Nat:=(l.take j).map (· + 1) ++ l.drop j
def lM (m:Nat):List Nat → Nat
 | []=>0
 | x :: r=>2 ^ (m - x) + lM m r
theorem oM (m:Nat) (a b:List Nat):lM m (a ++ b) = lM m a + lM m b:=by
 induction a with
 | nil=>simp [lM]
 | cons x a ih=>rw [NB,lM,lM,ih,MU]
theorem iU (m d:Nat):∀ a,lM m (LX a d) = a * 2 ^ (m - d)
 | 0=>by simp [lM]
 | a + 1=>by rw [List.replicate_succ,lM,iU m d a,Nat.succ_mul,Nat.add_comm]
def zQ (ws:List Nat):Nat → Nat → List Nat → List Nat
 | 0,_,l=>l
 | k + 1,n,l=>zQ ws k (2 * cE (aq ws k) n) (CB l (n - cE (aq ws k) n))
theorem tT (a b d:Nat):LX (a + b) d = LX a d ++ LX b d:=List.replicate_append_replicate.symm
structure KrI (ws:List Nat) (m k n a:Nat) (l:List Nat):Prop where
 i:LnI ws k n
 km:k ≤ m
 z:k = 0 → n = 0
 nx:k ≠ 0 → n - cE (aq ws (k - 1)) n ≤ a
 sh:∃ r,l = LX a (m - k) ++ r ∧ ∀ x ∈ r,x ≤ m - k
 ph:2 * lM m l = 2 * 2 ^ m + n * 2 ^ k
theorem xy (l:List Pc):l.length = tQ l + u0 l:=by unfold tQ u0; exact oH l
theorem xz (row:List Pc) (n:Nat):cE row n = tQ (row.take n):=il row n
theorem KrI.next {ws:List Nat} {m k n a:Nat} {l:List Nat} (h:KrI ws m (k + 1) n a l):KrI ws m k (2 * cE (aq ws k) n) (n - cE (aq ws k) n) (CB l (n - cE (aq ws k) n)):=by
 have hn:=LnI.next h.i
 have ha:=h.nx (NC k)
 rw [Nl] at ha
 obtain ⟨r,hr,hx⟩:=h.sh
 have hkm:=h.km
 generalize hc:cE (aq ws k) n = c at *
 refine ⟨hn.2.2.2,by omega,fun hk=>?_,fun hk=>?_,?_,?_⟩
 ·subst hk
  have q:=tM (aq ws 0) n
  rw [(jo ws 0).2.1,if_pos rfl,hc] at q; omega
 ·obtain ⟨j,rfl⟩:∃ j,k = j + 1:=⟨k - 1,by omega⟩
  rw [Nl]
  have q:=tS (aq ws j) [] ws (En ws j) n
  rw [← fV,lI,← xz,hc] at q
  have q2:=xy ((aq ws (j + 1)).take n)
  rw [← xz,hc,LO] at q2
  have q3:=xy ((aq ws j).take (2 * c))
  have q4:=(hn.2.2.2).a (NC j)
  rw [Nl] at q4
  rw [← xz,LO] at q3
  have q5:([]:List Nat).length = 0:=rfl
  omega
 ·refine ⟨LX (a - (n - c)) (m - (k + 1)) ++ r,?_,fun x hx2=>?_⟩
  ·unfold CB
   rw [hr,show a = (n - c) + (a - (n - c)) from by omega,tT,NO,Ma,PP IS,PQ IS,Na,show m - (k + 1) + 1 = m - k from by omega]
  ·rcases List.mem_append.1 hx2 with q | q
   ·have:=(List.mem_replicate.1 q).2; omega
   ·have:=hx x q; omega
 ·have hp:=h.ph
  have e:l = LX (n - c) (m - (k + 1)) ++ (LX (a - (n - c)) (m - (k + 1)) ++ r):=by
   rw [hr,← Ma,← tT,show n - c + (a - (n - c)) = a from by omega]
  have e2:CB l (n - c) = LX (n - c) (m - k) ++ (LX (a - (n - c)) (m - (k + 1)) ++ r):=by
   unfold CB
   rw [e,PP IS,PQ IS,Na,show m - (k + 1) + 1 = m - k from by omega]
  rw [e,oM,iU,show m - (m - (k + 1)) = k + 1 from by omega] at hp
  rw [e2,oM,iU,show m - (m - k) = k from by omega]
  generalize lM m (LX (a - (n - c)) (m - (k + 1)) ++ r) = Q at *
  have e3:n = (n - c) + c:=by omega
  generalize n - c = b at *
  subst e3
  rw [MZ] at hp
  generalize 2 ^ k = P at *
  rw [ME,M8 P 2,← MR,← MR,M8 b 2,M8 c 2,MR 2 b P,MR 2 c P] at hp
  rw [MR 2 c P]
  omega
theorem KrI.last {ws:List Nat} {m:Nat}:∀ (k n a:Nat) (l:List Nat),KrI ws m k n a l → lM m (zQ ws k n l) = 2 ^ m ∧ (∀ x ∈ zQ ws k n l,x ≤ m) ∧ (zQ ws k n l).length = l.length
 | 0,n,a,l,h=>by
  have hz:=h.z rfl
  have hp:=h.ph
  rw [hz,M0] at hp
  obtain ⟨r,hr,hx⟩:=h.sh
  refine ⟨by rw [zQ]; omega,fun x hx2=>?_,rfl⟩
  rw [zQ,hr] at hx2
  rcases List.mem_append.1 hx2 with q | q
  ·have:=(List.mem_replicate.1 q).2; omega
  ·have:=hx x q; omega
 | k + 1,n,a,l,h=>by
  have q:=KrI.last k _ _ _ h.next
  rw [zQ]
  refine ⟨q.1,q.2.1,q.2.2.trans ?_⟩
  unfold CB
  rw [LJ,LU,LO,L9]; omega
theorem tU {m:Nat}:∀ {l:List Nat},lM m l = 2 ^ m → 2 ≤ l.length → ∀ x ∈ l,x ≠ 0:=fun {l} h h2 x hx h0=>by
 obtain ⟨a,b,rfl⟩:=List.append_of_mem hx
 rw [oM,lM,h0,Oj] at h
 have pos:∀ l:List Nat,l.length ≤ lM m l:=fun l=>by
  induction l with
  | nil=>exact LV _
  | cons y l ih=>rw [lM,Md]; have:=M7 (m - y); omega
 have p1:=pos a
 have p2:=pos b
 rw [LJ,Md] at h2
 omega
theorem xA {m:Nat} (hm:m ≤ 15):∀ l:List Nat,(∀ x ∈ l,x ≤ m) → lM 15 l = 2 ^ (15 - m) * lM m l
 | [],_=>rfl
 | x :: r,h=>by
  have hx:=h x L4
  rw [lM,lM,xA hm r (fun y hy=>h y (L0 _ hy)),Ny,← Pb,show 15 - m + (m - x) = 15 - x from by omega]
theorem Lv {p:Prop} (h:p:=by rw [LU,LO,LU]; omega):p:=h
def g8 (f:Nat → Nat):List Nat → Nat
 | []=>0
 | i :: r=>f i + g8 f r
theorem tV (f:Nat → Nat) (a b:List Nat):g8 f (a ++ b) = g8 f a + g8 f b:=by
 induction a with
 | nil=>simp [g8]
 | cons x a ih=>rw [NB,g8,g8,ih,MU]
theorem qE {f:Nat → Nat} {a b:List Nat} (h:a.Perm b):g8 f a = g8 f b:=by
 induction h with
 | nil=>rfl
 | cons x _ ih=>rw [g8,g8,ih]
 | swap x y l=>rw [g8,g8,g8,g8]; omega
 | trans _ _ h1 h2=>exact h1.trans h2
theorem oN {f:Nat → Nat} {p:Nat → Bool}:∀ l:List Nat,(∀ i ∈ l,p i = false → f i = 0) → g8 f l = g8 f (l.filter p)
 | [],_=>rfl
 | x :: r,h=>by
  have ih:=oN r fun i hi=>h i (L0 _ hi)
  cases hp:p x
  ·rw [Ng (by simp [hp]),g8,h x L4 hp,ih,Mb]
  ·rw [Nf hp,g8,g8,ih]
def kf (o:List UInt8) (i:Nat):Nat:=if (o.getD i jd).toNat = 0 then 0 else 2 ^ (15 - (o.getD i jd).toNat)
def uf (o:List UInt8) (i:Nat):Nat:=if (o.getD i jd).toNat = 0 then 0 else 1
theorem qF (o:List UInt8):∀ k,k ≤ o.length → aT (o.take k) = g8 (kf o) (Mt k) ∧ bm (o.take k) = g8 (uf o) (Mt k)
 | 0,_=>⟨rfl,rfl⟩
 | k + 1,h=>by
  have ih:=qF o k (by omega)
  rw [fP (by omega),ig (by omega),NU,tV,tV,ih.1,ih.2]
  exact ⟨rfl,rfl⟩
theorem xB {W:List Nat} {o:List UInt8} (hl:o.length = W.length) (h0:∀ i,i < W.length → W.getD i jd = 0 → o.getD i jd = 0):aT o = g8 (kf o) (eJ W) ∧ bm o = g8 (uf o) (eJ W):=by
 have h:=qF o o.length (LV _)
 rw [MP,hl] at h
 have hz:∀ i,i < W.length → decide (0 < W.getD i jd) = false → (o.getD i jd).toNat = 0:=fun i hi hp=>by
  have hp:=of_decide_eq_false hp
  rw [h0 i hi (by omega)]; rfl
 rw [qE (dH W),qE (dH W),eX,h.1,h.2]
 exact ⟨oN _ fun i hi hp=>by unfold kf; rw [if_pos (hz i (List.mem_range.1 hi) hp)],oN _ fun i hi hp=>by unfold uf; rw [if_pos (hz i (List.mem_range.1 hi) hp)]⟩
theorem CC (W:List Nat):(eJ W).Nodup:=by
 rw [(dH W).nodup_iff,eX]; exact List.Nodup.sublist List.filter_sublist List.nodup_range
theorem sd {W:List Nat} {i:Nat}:i ∈ eJ W ↔ i < W.length ∧ 0 < W.getD i jd:=by
 rw [(dH W).mem_iff,eX,N9,O3,decide_eq_true_eq]
theorem oO {o:List UInt8} {i j:Nat} {v:UInt8} (hi:i < o.length):(o.set i v).getD j jd = if i = j then v else o.getD j jd:=by
 rw [List.getD_eq_getElem?_getD,List.getD_eq_getElem?_getD,List.getElem?_set]
 by_cases h:i = j
 ·rw [if_pos h,if_pos h,if_pos (by omega)]; rfl
 ·rw [if_neg h,if_neg h]
theorem H7 {S:List Nat} (hN:S.Nodup) {i j:Nat} (hi:i < S.length) (hj:j < S.length) (h:i ≠ j):S.getD i jd ≠ S.getD j jd:=by
 rw [List.getD_eq_getElem?_getD,List.getD_eq_getElem?_getD,List.getElem?_eq_getElem hi,List.getElem?_eq_getElem hj]
 rcases Nat.lt_or_gt_of_ne h with q | q
 ·exact List.pairwise_iff_getElem.1 hN _ _ hi hj q
 ·exact (List.pairwise_iff_getElem.1 hN _ _ hj hi q).symm
theorem xE {S:List Nat} (hN:S.Nodup) {o:List UInt8} (hA:bq o.length S):∀ j,j ≤ S.length → (∀ t,t < S.length → (b8 o S j).getD (S.getD t jd) jd = if t < j then o.getD (S.getD t jd) jd + 1 else o.getD (S.getD t jd) jd) ∧ ∀ i,i ∉ S → (b8 o S j).getD i jd = o.getD i jd
 | 0,_=>⟨fun t _=>by rw [r9,if_neg (MT t)],fun i _=>by rw [r9]⟩
 | j + 1,h=>by
  have ih:=xE hN hA j (by omega)
  have hb:=hA.at (t:=j) (by omega)
  refine ⟨fun t ht=>?_,fun i hi=>?_⟩
  ·rw [sa (by omega),oO (by rw [ct]; exact hb)]
   by_cases e:j = t
   ·subst e; rw [if_pos rfl,ih.1 j ht,if_neg (Ou j),if_pos (OU j)]
   ·rw [if_neg (H7 hN (by omega) ht e),ih.1 t ht]
    by_cases q:t < j
    ·rw [if_pos q,if_pos (by omega)]
    ·rw [if_neg q,if_neg (by omega)]
  ·rw [sa (by omega),oO (by rw [ct]; exact hb),if_neg (fun q=>hi (by rw [← q,List.getD_eq_getElem?_getD,List.getElem?_eq_getElem (by omega)]; exact Mr _)),ih.2 i hi]
def oP (S:List Nat) (o:List UInt8):List Nat:=S.map fun i=>(o.getD i jd).toNat
theorem zR {S:List Nat} (hN:S.Nodup) {o:List UInt8} (hA:bq o.length S) {j:Nat} (hj:j ≤ S.length) (hb:∀ x ∈ oP S o,x < 255):oP S (b8 o S j) = CB (oP S o) j:=by
 have h:=(xE hN hA j hj).1
 unfold oP CB at *
 apply List.ext_getElem?
 intro t
 rcases Mh t S.length with q | q
 ·have e:S[t] = S.getD t jd:=by rw [List.getD_eq_getElem?_getD,List.getElem?_eq_getElem q]; rfl
  have hx:=hb ((o.getD (S.getD t jd) jd).toNat) (List.mem_map.2 ⟨S[t],Mr q,by rw [e]⟩)
  rw [List.getElem?_map,List.getElem?_eq_getElem q,e]
  show some ((b8 o S j).getD (S.getD t jd) jd).toNat = _
  rw [h t q]
  by_cases z:t < j
  ·rw [if_pos z,List.getElem?_append_left Lv,List.getElem?_map,List.getElem?_take,if_pos z,List.getElem?_map,List.getElem?_eq_getElem q,e]
   show some _ = some ((o.getD (S.getD t jd) jd).toNat + 1)
   rw [PO]
   show some ((_ + 1) % 256) = _
   congr 1; omega
  ·rw [if_neg z,List.getElem?_append_right Lv,LU,LO,LU,List.getElem?_drop,show j + (t - min j S.length) = t from by omega,List.getElem?_map,List.getElem?_eq_getElem q,e]; rfl
 ·rw [List.getElem?_eq_none (by rw [LU]; exact q),List.getElem?_eq_none (by rw [LJ,LU,LO,L9,LU]; omega)]
theorem xF {ws S:List Nat} {m:Nat} (hm:m ≤ 15) (hN:S.Nodup) (hw:ws.length = S.length):∀ (k n a:Nat) (o:List UInt8),bq o.length S → KrI ws m k n a (oP S o) → oP S (zO ws S k n o) = zQ ws k n (oP S o) ∧ ∀ i,i ∉ S → (zO ws S k n o).getD i jd = o.getD i jd
 | 0,n,a,o,hA,h=>⟨rfl,fun _ _=>rfl⟩
 | k + 1,n,a,o,hA,h=>by
  have hn:=(LnI.next h.i).2.2.1
  rw [hw] at hn
  have hb:∀ x ∈ oP S o,x < 255:=fun x hx=>by
   obtain ⟨r,hr,hx2⟩:=h.sh
   rw [hr] at hx
   rcases List.mem_append.1 hx with q | q
   ·have:=(List.mem_replicate.1 q).2; omega
   ·have:=hx2 x q; omega
  have e:=zR hN hA hn hb
  have ih:=xF hm hN hw k _ _ (b8 o S (n - cE (aq ws k) n)) (by rw [ct]; exact hA) (by rw [e]; exact h.next)
  rw [zO,zQ,← e]
  exact ⟨ih.1,fun i hi=>(ih.2 i hi).trans ((xE hN hA _ hn).2 i hi)⟩
theorem lN (W:List Nat) (hL:W.length ≤ 320) (m:Nat) (hm:1 ≤ m ∧ m ≤ 15) (hNm:(ek W W.length).length ≤ 2 ^ m):cG (bK W m) m = 0:=by
 have hp:=dH W
 have hA:bq W.length (eJ W):=oD.perm hp
 have hlen:=iT W m
 have hl:=hp.length_eq
 have fin:(∀ i,i < W.length → ((bK W m).getD i jd).toNat ≤ m) → (aT (bK W m) = 32768 ∨ bm (bK W m) = 0 ∨ bm (bK W m) = 1 ∧ aT (bK W m) = 16384) → aT (bK W m) ≤ 32768 → cG (bK W m) m = 0:=fun h1 h2 h3=>by
  rw [iI]; unfold rU
  rw [hlen,if_neg (by omega),kn (fun i hi=>h1 i (by rw [hlen] at hi; exact hi)),if_neg (by decide),if_neg (by omega),if_pos h2]
 have zero:∀ i,W.length ≤ i ∨ True → (LX W.length (0:UInt8)).getD i jd = 0:=fun i _=>by
  rw [List.getD_eq_getElem?_getD,List.getElem?_replicate]; split <;> rfl
 rw [kw,uZ] at fin ⊢
 by_cases c0:(eJ W).length = 0
 ·rw [if_pos c0] at fin ⊢
  have s:=xB (W:=W) (o:=LX W.length 0) Mg (fun i _ _=>zero i (.inr trivial))
  rw [L8 c0] at s
  exact fin (fun i _=>by rw [zero i (.inr trivial)]; exact Mw _) (.inr (.inl s.2)) (by rw [s.1]; exact Mw _)
 ·rw [if_neg c0] at fin ⊢
  by_cases c1:(eJ W).length = 1
  ·rw [if_pos c1] at fin ⊢
   obtain ⟨i0,h0⟩:∃ i0,eJ W = [i0]:=List.length_eq_one_iff.1 c1
   rw [h0] at fin hA ⊢
   have hi:i0 < W.length:=hA i0 (List.mem_singleton.2 rfl)
   have at' : ∀ j,((LX W.length (0:UInt8)).set i0 (MH 1)).getD j jd = if i0 = j then MH 1 else 0:=fun j=>by
    rw [oO (by rw [Mg]; exact hi),zero j (.inr trivial)]
   have s:=xB (W:=W) (o:=(LX W.length 0).set i0 (MH 1)) (by rw [NJ,Mg]) (fun i hi2 hz=>by
    rw [at', if_neg (fun q=>by
     have:=(sd (W:=W) (i:=i0)).1 (by rw [h0]; exact List.mem_singleton.2 rfl)
     rw [q] at this; omega)])
   rw [h0] at s
   have e1:g8 (kf ((LX W.length 0).set i0 (MH 1))) [i0] = 16384:=by
    rw [g8,g8,kf,at', if_pos rfl]; rfl
   have e2:g8 (uf ((LX W.length 0).set i0 (MH 1))) [i0] = 1:=by
    rw [g8,g8,uf,at', if_pos rfl]; rfl
   rw [e1,e2] at s
   refine fin (fun i _=>?_) (.inr (.inr ⟨s.2,s.1⟩)) (by show aT ((LX W.length 0).set i0 (MH 1)) ≤ _; rw [s.1]; decide)
   show (((LX W.length 0).set i0 (MH 1)).getD i jd).toNat ≤ m
   rw [at']; split
   ·exact hm.1
   ·exact Mw _
  ·rw [if_neg c1] at fin ⊢
   have hw:(oE W (eJ W) (eJ W).length).length = (eJ W).length:=ku (LV _)
   have hS:=CC W
   have hlast:2 * (eJ W).length - 2 ≠ 0:=by omega
   generalize hSS:eJ W = S at *
   generalize oE W S S.length = ws at *
   have hv:oP S (LX W.length 0) = LX S.length 0:=by
    unfold oP
    rw [Ol]
    refine ⟨by rw [LU],fun b hb=>?_⟩
    obtain ⟨i,_,rfl⟩:=List.mem_map.1 hb
    rw [zero i (.inr trivial)]; rfl
   have hI:LnI ws m (2 * S.length - 2):=by
    have:=LnI.first (ws:=ws) hm.1 (by rw [hw]; omega) (by rw [hw]; omega)
    rwa [hw] at this
   have hK:KrI ws m m (2 * S.length - 2) S.length (oP S (LX W.length 0)):=by
    refine ⟨hI,LV _,fun q=>by omega,fun q=>?_,⟨[],by rw [hv,MV,MA],fun x hx=>by cases hx⟩,?_⟩
    ·have:=(hI.nextk (by omega) (m - 1) rfl).2.2
     rwa [hw] at this
    ·rw [hv,iU,Oj]
     generalize 2 ^ m = P
     rw [PC,MR]
     have:1 * P ≤ S.length * P:=Mq _ (by omega)
     omega
   have hA0:bq (LX W.length (0:UInt8)).length S:=by rw [Mg]; exact hA
   have r:=xF hm.2 hS hw m _ _ _ hA0 hK
   have q:=KrI.last m _ _ _ hK
   rw [← r.1] at q
   generalize hO:zO ws S m (2 * S.length - 2) (LX W.length 0) = O at *
   have hOl:O.length = W.length:=by rw [← hO,oJ,Mg]
   have hp2:=tU q.1 (by unfold oP; rw [LU]; omega)
   have s:=xB (W:=W) (o:=O) hOl (fun i hi hz=>by
    rw [r.2 i (fun hm2=>by rw [← hSS] at hm2; have:=sd.1 hm2; omega),zero i (.inr trivial)])
   rw [hSS] at s
   have e1:∀ l:List Nat,(∀ i ∈ l,(O.getD i jd).toNat ≠ 0) → g8 (kf O) l = lM 15 (oP l O):=fun l=>by
    induction l with
    | nil=>intro _; rfl
    | cons x l ih =>
     intro h
     have hx:=h x L4
     show kf O x + g8 (kf O) l = 2 ^ (15 - _) + lM 15 (oP l O)
     rw [ih fun i hi=>h i (L0 _ hi),kf,if_neg hx]
   have e2:=e1 S fun i hi=>hp2 _ (List.mem_map.2 ⟨i,hi,rfl⟩)
   have e3:=xA hm.2 (oP S O) q.2.1
   rw [q.1,← Pb,show 15 - m + m = 15 from by omega] at e3
   have hk:aT O = 32768:=by rw [s.1,e2,e3]
   refine fin (fun i hi=>?_) (.inl hk) (Nat.le_of_eq hk)
   by_cases hi2:i ∈ S
   ·exact q.2.1 _ (List.mem_map.2 ⟨i,hi2,rfl⟩)
   ·rw [r.2 i hi2,zero i (.inr trivial)]; exact Mw _
end Vp
end Go.Proofs.YtefjnofhgkjpmaaGreat
namespace Go.Proofs.YtefjnofhgkjpmaaGreat
open Go.RowKit Go.Bw Go.Vx
namespace Vp
def bn (k:Nat) (S:List Nat):List Nat:=lk S ((Mt k).map fun i=>S.count i)
theorem xG (k:Nat) (S:List Nat):bn k S = (Mt k).map fun i=>S.count i:=aF _ _
theorem dU (k:Nat) (S:List Nat):(bn k S).length = k:=by rw [xG,LU,MQ]
theorem tW (k:Nat) (S:List Nat) (i:Nat):(bn k S)[i]? = if i < k then some (S.count i) else none:=by
 rw [xG,List.getElem?_map]
 rcases Mh i k with h | h
 ·rw [List.getElem?_range h,if_pos h]; rfl
 ·rw [List.getElem?_eq_none (by simpa using h),if_neg (by omega)]; rfl
theorem se (k:Nat) (S:List Nat) (i:Nat):(bn k S).getD i jd = if i < k then S.count i else 0:=by
 rw [List.getD_eq_getElem?_getD,tW]; split <;> rfl
theorem eY (k:Nat) (S:List Nat) (i:Nat):(bn k S).getD i jd ≤ S.length:=by
 rw [se]; split
 ·exact List.count_le_length
 ·exact Mw _
theorem xH (k:Nat):bn k [] = LX k 0:=by
 apply List.ext_getElem?
 intro i
 rw [tW,List.getElem?_replicate]; rfl
theorem H8 {k:Nat} {S:List Nat} {i:Nat} (h:i < k):bn k (S ++ [i]) = (bn k S).set i ((bn k S).getD i jd + 1):=by
 apply List.ext_getElem?
 intro j
 rw [List.getElem?_set,dU,tW,tW]
 by_cases e:i = j
 ·subst e; rw [if_pos h,if_pos rfl,if_pos h,se,if_pos h,Pu,Pd,beq_self_eq_true]; rfl
 ·rw [if_neg e]; split
  ·rw [Pu,Pd,beq_eq_false_iff_ne.2 (fun q=>e q)]; rfl
  ·rfl
theorem xI {k:Nat} {S:List Nat} {i a b:Nat} {x:Int} (h:i < k) (ha:a = i) (hb:b = i) (hx:x = (((bn k S).getD b jd:Nat):Int) + 1):aj ((bn k S).map nD) a [D.v (.int .i64 x)] = (bn k (S ++ [i])).map nD:=by
 subst ha hb hx; rw [H8 h]; exact D9 (by rw [dU]; exact h)
def CD (T1:List Sy) (t:Tn):Nat:=if t.long = 0 then t.lit.toNat else 257 + am T1 t.long
def Eo (T2:List Sy) (t:Tn):List Nat:=if t.long = 0 then [] else [am T2 t.dist]
def cJ (T1:List Sy) (l:List Tn) (i:Nat):List Nat:=lk l ((l.take i).map (CD T1))
def er (T2:List Sy) (l:List Tn) (i:Nat):List Nat:=lk l ((l.take i).flatMap (Eo T2))
section
variable {T1 T2:List Sy} {l:List Tn} {i:Nat}
theorem qG:cJ T1 l i = (l.take i).map (CD T1):=aF _ _
theorem tX:er T2 l i = (l.take i).flatMap (Eo T2):=aF _ _
theorem Kt:cJ T1 l 0 = []:=qG
theorem H9:er T2 l 0 = []:=tX
theorem oQ:(cJ T1 l i).length ≤ i:=by rw [qG,LU,LO]; omega
theorem Ep (h:i < l.length):er T2 l (i + 1) = er T2 l i ++ Eo T2 (l.getD i jd):=by
 have e1:l.take (i + 1) = l.take i ++ [l.getD i jd]:=by
  rw [Mi h,List.getD_eq_getElem?_getD,List.getElem?_eq_getElem h]; rfl
 rw [tX,tX,e1,Nj,NR]
theorem Ia (h:i < l.length):cJ T1 l (i + 1) = cJ T1 l i ++ [CD T1 (l.getD i jd)]:=by
 have e1:l.take (i + 1) = l.take i ++ [l.getD i jd]:=by
  rw [Mi h,List.getD_eq_getElem?_getD,List.getElem?_eq_getElem h]; rfl
 rw [qG,qG,e1,Mv]; rfl
theorem sf:∀ i,i ≤ l.length → (er T2 l i).length ≤ i
 | 0,_=>by rw [H9]; exact LV _
 | i + 1,h=>by
  rw [Ep (by omega),LJ]
  have:=sf i (by omega)
  unfold Eo; split <;> simp <;> omega
theorem CE (h:i < l.length) (h0:(l.getD i jd).long = 0):cJ T1 l (i + 1) = cJ T1 l i ++ [(l.getD i jd).lit.toNat] ∧ er T2 l (i + 1) = er T2 l i:=by
 rw [Ia h,Ep h,CD,Eo,if_pos h0,if_pos h0,MA]; exact ⟨rfl,rfl⟩
theorem CG (h:i < l.length) (h0:(l.getD i jd).long ≠ 0):cJ T1 l (i + 1) = cJ T1 l i ++ [257 + am T1 (l.getD i jd).long] ∧ er T2 l (i + 1) = er T2 l i ++ [am T2 (l.getD i jd).dist]:=by
 rw [Ia h,Ep h,CD,Eo,if_neg h0,if_neg h0]; exact ⟨rfl,rfl⟩
end
theorem xJ:∀ (l:List UInt8) (n:Nat),(∀ i,n ≤ i → (l.getD i jd).toNat = 0) → aT (l.take n) = aT l ∧ bm (l.take n) = bm l
 | [],n,_=>by rw [List.take_nil]; exact ⟨rfl,rfl⟩
 | x :: r,0,h=>by
  have ih:=xJ r 0 fun i _=>h (i + 1) (Mw _)
  have h0:x.toNat = 0:=h 0 (LV _)
  rw [List.take_zero] at ih ⊢
  rw [aT,aT,bm,bm,if_pos h0,if_pos h0,← ih.1,← ih.2]; exact ⟨rfl,rfl⟩
 | x :: r,n + 1,h=>by
  have ih:=xJ r n fun i hi=>h (i + 1) (NA hi)
  rw [Pg,aT,aT,bm,bm,ih.1,ih.2]; exact ⟨rfl,rfl⟩
theorem tY {l:List UInt8} {m:Nat}:∀ n,∀ i,tD l m n ≤ i → i < n → l.getD i jd = 0
 | 0,i,_,h=>absurd h (MT _)
 | n + 1,i,h,h2=>by
  rw [tD] at h
  split at h
  ·next q =>
   rcases Mh i n with r | r
   ·exact tY n i h r
   ·rw [show i = n from by omega]; exact q.2
  ·omega
theorem kx {l:List UInt8} {i:Nat} (h:l.length ≤ i):l.getD i jd = 0:=by
 rw [List.getD_eq_getElem?_getD,List.getElem?_eq_none h]; rfl
def qU (l:List UInt8) (m:Nat):List UInt8:=lk l (l.take (gw l m))
theorem jp (l:List UInt8) (m:Nat):qU l m = l.take (gw l m):=aF _ _
theorem kA (l:List UInt8) (m:Nat):(qU l m).length = gw l m:=by
 rw [jp,LO]; have:=(jl l m).1; omega
theorem Es (l:List UInt8) (m i:Nat):(qU l m).getD i jd = l.getD i jd:=by
 rw [jp,List.getD_eq_getElem?_getD,List.getElem?_take]
 split
 ·rw [List.getD_eq_getElem?_getD]
 ·rcases Mh i l.length with q | q
  ·rw [tY (m:=m) l.length i (by rw [← ly]; omega) q]; rfl
  ·rw [kx q]; rfl
theorem tZ {l:List UInt8} {m q:Nat} (h:cG l m = 0):cG (qU l q) m = 0:=by
 have h0:=eU h
 have hk:=xJ l (gw l q) (fun i hi=>by
  rcases Mh i l.length with r | r
  ·rw [tY (m:=q) l.length i (by rw [← ly]; exact hi) r]; rfl
  ·rw [kx r]; rfl)
 have hl:(qU l q).length ≤ 320:=by rw [kA]; have:=(jl l q).1; omega
 have ho:dm (qU l q) m = false:=kn fun i hi=>by
  rw [Es]
  exact eG h0.2.1 (by rw [kA] at hi; have:=(jl l q).1; omega)
 rw [iI] at h ⊢
 unfold rU at h ⊢
 rw [if_neg (by omega),h0.2.1] at h
 rw [if_neg (by omega),ho,show aT (qU l q) = aT l from by rw [jp]; exact hk.1,show bm (qU l q) = bm l from by rw [jp]; exact hk.2]
 exact h
def dW {α:Type} (H:List Nm) (g:α → List Nm) (l:List α) (i:Nat):List Nm:=lk l (H ++ (l.take i).flatMap g)
section
variable {α:Type} {H:List Nm} {g:α → List Nm} {l:List α} {i:Nat}
theorem jq:dW H g l i = H ++ (l.take i).flatMap g:=aF _ _
theorem qH:dW H g l 0 = H:=by rw [jq]; exact MA _
theorem qI [Inhabited α] (h:i < l.length):dW H g l (i + 1) = dW H g l i ++ g (l.getD i jd):=by
 have e1:l.take (i + 1) = l.take i ++ [l.getD i jd]:=by
  rw [Mi h,List.getD_eq_getElem?_getD,List.getElem?_eq_getElem h]; rfl
 rw [jq,jq,e1,Nj,← Ma,NR]
theorem iV [Inhabited α] {c:Nat} (hc:∀ x,(g x).length = c):∀ i,i ≤ l.length → (dW H g l i).length = H.length + c * i
 | 0,_=>by rw [qH]; rfl
 | i + 1,h=>by
  rw [qI (by omega),LJ,iV hc i (by omega),hc,Ny,Me,MU]
end
def lP (x:UInt8):List Nm:=[⟨x.toNat,3⟩]
def l7 (C:List (Nat × Nat)) (r:Rn):List Nm:=gx C r.s (rb r.s) r.x
def oS:List Nat:=[16,17,18,0,8,7,9,6,10,5,11,4,12,3,13,2,14,1,15]
theorem Ib:∀ i,i < 19 → oS.getD i jd < 19:=by decide
def iZ (C:List UInt8) (i:Nat):List UInt8:=lk C ((oS.take i).map fun s=>C.getD s jd)
theorem lT (C:List UInt8) (i:Nat):iZ C i = (oS.take i).map fun s=>C.getD s jd:=aF _ _
theorem Ic (C:List UInt8):iZ C 0 = []:=lT C 0
theorem t0 (C:List UInt8) {i:Nat} (h:i ≤ 19):(iZ C i).length = i:=by
 rw [lT,LU,LO,show oS.length = 19 from rfl]; omega
theorem Ie (C:List UInt8) {i:Nat} (h:i < 19):iZ C (i + 1) = iZ C i ++ [C.getD (oS.getD i jd) jd]:=by
 have e1:oS.take (i + 1) = oS.take i ++ [oS.getD i jd]:=by
  rw [Mi (show i < oS.length from h),List.getD_eq_getElem?_getD,List.getElem?_eq_getElem (show i < oS.length from h)]; rfl
 rw [lT,lT,e1,Mv]; rfl
theorem Ku (i:Nat) (h:i < 19):(oS.map nD)[i]? = some (nD (oS.getD i jd)):=by
 rw [List.getElem?_map,List.getElem?_eq_getElem (show i < oS.length from h),List.getD_eq_getElem?_getD,List.getElem?_eq_getElem (show i < oS.length from h)]; rfl
theorem lU {l:List UInt8} (ho:∀ i,(l.getD i jd).toNat ≤ 15):∀ (f a:Nat),∀ r ∈ ji l f a,r.s ≤ 18 ∧ r.x < 2 ^ rb r.s
 | 0,_=>fun r hr=>absurd hr NN
 | f + 1,a=>by
  rw [ji]
  split
  ·exact fun r hr=>absurd hr NN
  ·split
   ·intro r hr
    rcases List.mem_cons.1 hr with e | e
    ·subst e; refine ⟨LV _,?_⟩; show min (ci l a) 138 - 11 < 2 ^ 7; omega
    ·exact lU ho f _ r e
   ·split
    ·intro r hr
     rcases List.mem_cons.1 hr with e | e
     ·subst e; refine ⟨Nat.le_succ _,?_⟩; show ci l a - 3 < 2 ^ 3; omega
     ·exact lU ho f _ r e
    ·split
     ·intro r hr
      rcases List.mem_cons.1 hr with e | e
      ·subst e; refine ⟨show (16:Nat) ≤ 18 from by decide,?_⟩; show min (ci l a) 6 - 3 < 2 ^ 2; omega
      ·exact lU ho f _ r e
     ·intro r hr
      rcases List.mem_cons.1 hr with e | e
      ·subst e
       have h1:=ho a
       refine ⟨LM h1 (by decide),?_⟩
       show 0 < 2 ^ rb _
       exact M7 _
      ·exact lU ho f _ r e
theorem Et {l:List UInt8} (ho:∀ i,(l.getD i jd).toNat ≤ 15) (i:Nat):((vd l).getD i jd).s ≤ 18 ∧ ((vd l).getD i jd).x < 2 ^ rb ((vd l).getD i jd).s:=by
 rw [List.getD_eq_getElem?_getD]
 rcases Mh i (vd l).length with h | h
 ·rw [List.getElem?_eq_getElem h]
  have hm:(vd l)[i] ∈ ji l l.length 0:=by rw [← rW]; exact Mr h
  exact lU ho _ _ _ hm
 ·rw [List.getElem?_eq_none h]; exact ⟨Mw _,by decide⟩
theorem zT (l:List UInt8):(vd l).length ≤ l.length:=by rw [rW]; exact iJ _ _ _
theorem Eu (l:List UInt8) (j:Nat) (ho:dm l 15 = false):(ae l).getD j jd = if j < l.length ∧ (l.getD j jd).toNat ≠ 0 then (qg l j,(l.getD j jd).toNat) else (0,0):=by
 rw [← B4 ho,lx,List.getD_eq_getElem?_getD,List.getElem?_map]
 rcases Mh j l.length with h | h
 ·rw [List.getElem?_range h]; exact rfl
 ·rw [List.getElem?_eq_none (by simpa using h),if_neg (by omega)]; rfl
theorem xK {l:List UInt8} {s:Nat} (h:s < l.length):(ef l (l.getD s jd).toNat s).length < (ef l (l.getD s jd).toNat l.length).length:=by
 obtain ⟨r,hr⟩:=lv l (l.getD s jd).toNat (s + 1) (l.length - (s + 1))
 rw [show s + 1 + (l.length - (s + 1)) = l.length from by omega,gQ,if_pos rfl] at hr
 rw [hr,LJ,LJ,Mu]; omega
theorem eh {l:List UInt8} (h:cG l 15 = 0):lZ (ae l):=fun s=>by
 have h0:=eU h
 rw [Eu l s h0.2.1]
 split
 ·next q =>
  have h1:=eG h0.2.1 q.1
  refine ⟨h1,?_⟩
  have h2:=B5 h h1
  have h3:=B0 rfl q.2 h1
  have h4:=xK q.1
  show qg l s < 2 ^ (l.getD s jd).toNat
  rw [ll] at h2
  unfold wF at h2
  rw [if_neg q.2] at h2
  omega
 ·exact ⟨Mw _,by decide⟩
theorem qJ (W:List Nat) (hL:W.length ≤ 320) (m:Nat) (hm:1 ≤ m ∧ m ≤ 15) (hNm:(ek W W.length).length ≤ 2 ^ m) {i:Nat} (hi0:0 < W.getD i jd):((bK W m).getD i jd).toNat ≠ 0:=by
 have hp:=dH W
 have hA:bq W.length (eJ W):=oD.perm hp
 have hl:=hp.length_eq
 have hiW:i < W.length:=by
  rcases Mh i W.length with q | q
  ·exact q
  ·rw [List.getD_eq_getElem?_getD,List.getElem?_eq_none q] at hi0; exact absurd hi0 (Ou 0)
 have hiS:i ∈ eJ W:=sd.2 ⟨hiW,hi0⟩
 have zero:∀ i,(LX W.length (0:UInt8)).getD i jd = 0:=fun i=>by
  rw [List.getD_eq_getElem?_getD,List.getElem?_replicate]; split <;> rfl
 rw [kw,uZ]
 by_cases c0:(eJ W).length = 0
 ·rw [L8 c0] at hiS; exact absurd hiS NN
 ·rw [if_neg c0]
  by_cases c1:(eJ W).length = 1
  ·rw [if_pos c1]
   obtain ⟨i0,h0⟩:∃ i0,eJ W = [i0]:=List.length_eq_one_iff.1 c1
   rw [h0] at hiS ⊢
   have e:i = i0:=List.mem_singleton.1 hiS
   subst e
   show (((LX W.length (0:UInt8)).set i (MH 1)).getD i jd).toNat ≠ 0
   rw [oO (by rw [Mg]; exact hiW),if_pos rfl]; decide
  ·rw [if_neg c1]
   have hw:(oE W (eJ W) (eJ W).length).length = (eJ W).length:=ku (LV _)
   have hS:=CC W
   generalize hSS:eJ W = S at *
   generalize oE W S S.length = ws at *
   have hv:oP S (LX W.length 0) = LX S.length 0:=by
    unfold oP
    rw [Ol]
    refine ⟨by rw [LU],fun b hb=>?_⟩
    obtain ⟨i,_,rfl⟩:=List.mem_map.1 hb
    rw [zero i]; rfl
   have hI:LnI ws m (2 * S.length - 2):=by
    have:=LnI.first (ws:=ws) hm.1 (by rw [hw]; omega) (by rw [hw]; omega)
    rwa [hw] at this
   have hK:KrI ws m m (2 * S.length - 2) S.length (oP S (LX W.length 0)):=by
    refine ⟨hI,LV _,fun q=>by omega,fun q=>?_,⟨[],by rw [hv,MV,MA],fun x hx=>by cases hx⟩,?_⟩
    ·have:=(hI.nextk (by omega) (m - 1) rfl).2.2
     rwa [hw] at this
    ·rw [hv,iU,Oj]
     generalize 2 ^ m = P
     rw [PC,MR]
     have:1 * P ≤ S.length * P:=Mq _ (by omega)
     omega
   have hA0:bq (LX W.length (0:UInt8)).length S:=by rw [Mg]; exact hA
   have r:=xF hm.2 hS hw m _ _ _ hA0 hK
   have q:=KrI.last m _ _ _ hK
   rw [← r.1] at q
   have hp2:=tU q.1 (by unfold oP; rw [LU]; omega)
   exact hp2 _ (List.mem_map.2 ⟨i,hiS,rfl⟩)
theorem xM {l:List UInt8} {m s:Nat} (h:(l.getD s jd).toNat ≠ 0):s < gw l m:=by
 rcases Mh s (gw l m) with q | q
 ·exact q
 ·exfalso
  rcases Mh s l.length with r | r
  ·rw [tY (m:=m) l.length s (by rw [← ly]; exact q) r] at h; exact h rfl
  ·rw [kx r] at h; exact h rfl
theorem t6 {k:Nat} {S:List Nat} {s:Nat} (h:s < k) (hm:s ∈ S):0 < (bn k S).getD s jd:=by
 rw [se,if_pos h]; exact List.count_pos_iff.2 hm
theorem xN {T1:List Sy} {l:List Tn} {i k:Nat} (hk:k = l.length) (h:i < k):CD T1 (l.getD i jd) ∈ cJ T1 l k:=by
 rw [qG,hk,Mf (LV _),List.getD_eq_getElem?_getD,List.getElem?_eq_getElem (by omega)]
 exact List.mem_map_of_mem (Mr _)
theorem Ew {T2:List Sy} {l:List Tn} {i k:Nat} (hk:k = l.length) (h:i < k) (h0:(l.getD i jd).long ≠ 0):am T2 (l.getD i jd).dist ∈ er T2 l k:=by
 rw [tX,hk,Mf (LV _)]
 have hi:i < l.length:=by omega
 rw [List.getD_eq_getElem?_getD,List.getElem?_eq_getElem hi] at h0 ⊢
 refine List.mem_flatMap.2 ⟨l[i],Mr hi,?_⟩
 unfold Eo
 rw [if_neg (show ¬ l[i].long = 0 from h0)]; exact List.mem_singleton.2 rfl
theorem kB (k:Nat) (S:List Nat) (i:Nat) {a b:Nat} (h:i < k) (ha:a = i) (hb:b = i):aj ((bn k S).map nD) a [D.v (.int .i64 ((((bn k S).getD b jd:Nat):Int) + 1))] = (bn k (S ++ [i])).map nD:=xI h ha hb rfl
theorem iW (k:Nat) (S:List Nat) (i:Nat) {o:Nat} (h:i < k) (ho:o = i):((bn k S).map nD)[o]? = some (nD ((bn k S).getD i jd)):=by
 subst ho
 rw [List.getElem?_map,List.getD_eq_getElem?_getD,List.getElem?_eq_getElem (by rw [dU]; exact h)]; rfl
theorem If (k:Nat) (S:List Nat) (i:Nat) (W:List Nat) (hW:bn k (S ++ [i]) = W) {a b:Nat} (h:i < k) (ha:a = i) (hb:b = i):aj ((bn k S).map nD) a [D.v (.int .i64 ((((bn k S).getD b jd:Nat):Int) + 1))] = W.map nD:=by rw [← hW]; exact xI h ha hb rfl
def CH (C:List UInt8) (i:Nat):Nat:=lk C (oS.getD i jd)
theorem sg (C:List UInt8) (i:Nat):CH C i = oS.getD i jd:=aF _ _
theorem xP (C:List UInt8) (i:Nat) (h:i < 19):CH C i < 19:=by rw [sg]; exact Ib i h
theorem Ig (C:List UInt8) (i:Nat) (h:i < 19):(oS.map nD)[i]? = some (nD (CH C i)):=by rw [sg]; exact Ku i h
theorem zU {l:List UInt8} {n i:Nat} (h:i < n):(l.take n).getD i jd = l.getD i jd:=by
 rw [List.getD_eq_getElem?_getD,List.getElem?_take,if_pos h,← List.getD_eq_getElem?_getD]
theorem Ih {e n1 n2 n3:Nat} {x y z:Int} (hx:x = ((n1 - 257:Nat):Int)) (hy:y = ((n2 - 1:Nat):Int)) (hz:z = ((n3 - 4:Nat):Int)):[D.v (.int .u32 (e:Int)),D.v (.int .i64 1),D.v (.int .u32 2),D.v (.int .i64 2),D.v (.int .u32 x),D.v (.int .i64 5),D.v (.int .u32 y),D.v (.int .i64 5),D.v (.int .u32 z),D.v (.int .i64 4)] = (lY e 2 ++ ([⟨n1 - 257,5⟩,⟨n2 - 1,5⟩,⟨n3 - 4,4⟩]:List Nm)).flatMap aR:=by
 subst hx hy hz; rfl

end Vp
end Go.Proofs.YtefjnofhgkjpmaaGreat
namespace Go.Proofs.YtefjnofhgkjpmaaGreat
open Go.RowKit Go.Bw Go.Vx
namespace Vt
abbrev iD (i:Int):D:=.v (.int .i64 i)
abbrev aW:D:=.v (.slice none 0 0)
structure Tok where
 lit:UInt8
 dist:Int
 long:Int
 deriving Inhabited
abbrev tokD (t:Tok):List D:=[dB t.lit,iD t.dist,iD t.long]
end Vt
end Go.Proofs.YtefjnofhgkjpmaaGreat
namespace Go.Proofs.YtefjnofhgkjpmaaGreat
open Go.RowKit Go.Bw Go.Vx
open List (length getD map take drop flatMap replicate)
namespace Vm
theorem lV {p:Prop} (h:p:=by (refine aO ?_; (omega))):p:=h
theorem u4 {p:Prop} (h:p:=by ((refine aK ?_ ?_) <;> (repeat' (first | (refine aK ?_ ?_) | (with_reducible rfl) | (refine decide_eq_true ?_) | (refine LK ?_) | (refine eT ?_))) <;> (omega))):p:=h
theorem u5 {p:Prop} (h:p:=by (exact fO _ (by decide) (by decide))):p:=h
theorem zV {p:Prop} (h:p:=by (refine t8 hh ?_ ?_ ?_ <;> (omega))):p:=h
theorem zW {p:Prop} (h:p:=by show j - 1 < j; clear next1 last1; omega):p:=h
abbrev iD (i:Int):D:=.v (.int .i64 i)
abbrev aW:D:=.v (.slice none 0 0)
theorem Kv (x:Int):LZ .u32 x = x % 4294967296:=rfl
abbrev bI (l:List UInt8) (i:Nat):Int:=((l.getD i jd).toNat:Int)
def bL (l:List UInt8) (i:Nat):Int:=((bI l (i + 2) * 16777619 + bI l (i + 1)) * 16777619 + bI l i) % 4294967296
abbrev Ex:Int:=1055306571
theorem ni (l:List UInt8) (i:Nat):0 ≤ bI l i ∧ bI l i < 256:=by
 have h:=(l.getD i jd).toNat_lt
 unfold bI
 constructor <;> omega
def hR (p:List UInt8):Nat → Int
 | 0=>0
 | k + 1=>((((hR p k * 16777619) % 4294967296) + bI p (2 - k)) % 4294967296)
theorem zX {p:List UInt8} {k j:Nat} {h:Int} (hh:h = hR p k) (hj:j = 2 - k):((((h * 16777619) % 4294967296) + bI p j) % 4294967296) = hR p (k + 1):=by rw [hh,hj,hR]
theorem Kw (p:List UInt8):hR p 3 = bL p 0:=by
 have h0:=ni p 0; have h1:=ni p 1; have h2:=ni p 2
 simp only [hR,Kv,bL,show 2 - 0 = 2 from rfl,show 2 - 1 = 1 from rfl,show 2 - 2 = 0 from rfl,show 0 + 2 = 2 from rfl,show 0 + 1 = 1 from rfl]
 omega
theorem hash (p:List UInt8) (hp:p.length = 3) (H:Int) (hH:H = bL p 0):SpecH false Tryz.prog 198 [.sl false 3 1 (p.map dB)] [] (.tup [.v (.int .u32 H),.v (.int .u32 Ex)]) []:=by
 refine SpecH.run T_ok ai Tryz.func198 rfl rfl rfl trivial rfl 1000 64 (fun R ok=>(.s 9 (Hn.inl T_ok ai false 41 0 (ay Tryz.prog 198 0) (fun (x:(k:Nat) ×' (hk:k ≤ 3) ×' (h:Int) ×' (hh:h = hR p k) ×' Unit)=>match x with | ⟨k,hk,h,hh,_⟩=>CutS.mk [(0,D.sl false 3 1 (map dB p)),(4,.v (.int .u32 h)),(5,iD (2 - (k:Int)))] [] 0) (fun (x:(k:Nat) ×' (hk:k ≤ 3) ×' (h:Int) ×' (hh:h = hR p k) ×' Unit)=>match x with | ⟨k,hk,h,hh,_⟩=>3 - k) [⟨Unit,.exit 0,fun x=>match x with | ()=>CutS.mk [(0,D.sl false 3 1 (map dB p)),(4,.v (.int .u32 H))] [] 0⟩] 1000 64 (fun | ⟨k,hk,h,hh,_⟩,Q,next1,last1=>(.s 3 (.br (decide (0 ≤ 2 - (k:Int))) (fun p0=>have p0f:=aU p0; (.s 3 (.opt (aw .u32 (h * 16777619)) (uI (h * 16777619 % 4294967296)) (aL _ _) (.s 3 (.chk (decide (0 ≤ 2 - (k:Int)) && decide (2 - (k:Int) < (↑3:Int)) && true) u4 (.s 2 (.opt ((map dB p)[uM (2 - (k:Int)) * 1]?) (dB (getD p (uM (2 - (k:Int)) * 1) jd)) (au _ _ om) (.s 1 (.opt (aw .u32 (↑(LG (getD p (uM (2 - (k:Int)) * 1) jd)):Int)) (ag (LG (getD p (uM (2 - (k:Int)) * 1) jd))) (aB u5) (.s 2 (.opt (aw .u32 (h * 16777619 % 4294967296 + (↑(LG (getD p (uM (2 - (k:Int)) * 1) jd)):Int))) (uI ((h * 16777619 % 4294967296 + (↑(LG (getD p (uM (2 - (k:Int)) * 1) jd)):Int)) % 4294967296)) (aL _ _) (.s 4 (.ow (2 - (k:Int) - 1) (.s 1 (.val 4 (uI ((h * 16777619 % 4294967296 + (↑(LG (getD p (uM (2 - (k:Int)) * 1) jd)):Int)) % 4294967296)) (uI ((h * 16777619 % 4294967296 + bI p (2 - k)) % 4294967296)) (by (refine aO (congrArg (fun z=>((((h * 16777619) % 4294967296) + bI p z) % 4294967296)) ?_); (omega))) (.val 5 (zI (2 - (k:Int) - 1)) (zI (2 - (↑(k + 1):Int))) lV (Hn.next next1 ⟨(k+1),om,(((((h * 16777619) % 4294967296) + bI p (2 - k)) % 4294967296)),(by (refine zX hh ?_; (omega))),⟨⟩⟩ (by show 3 - (k + 1) < 3 - k; clear next1 last1; omega) [] ro))))))))))))))))) (fun p0=>have p0f:=aV p0; (.val 4 (uI h) (uI H) (by (refine aO ?_; rw [hh,hH,show k = 3 from by (omega),Kw])) (Hn.last last1 0 (():Unit) rfl [] ro)))))) (fun | ⟨k,hk,h,hh,_⟩=>by kernel_rfl) ⟨(0),om,(0),(by exact rfl),⟨⟩⟩ [] ro (b5 (fun | ()=>(.s 70 (.out [] [] (D.tup [uI H,uI 1055306571]) [] R (ok _ _ wr wr)))))))) (by kernel_rfl)
def ap (s p:List UInt8):Nat → Int
 | 0=>-1
 | k + 1=>if (s.drop k).take 3 = p then (k:Int) else ap s p k
theorem xQ {s p:List UInt8} {i:Nat} (h:(s.drop i).take 3 = p) (hi:i + 3 ≤ s.length):bL s i = bL p 0:=by
 have e:∀ j,j < 3 → bI p j = bI s (i + j):=fun j hj=>by
  unfold bI
  rw [← h]
  simp only [List.getD_eq_getElem?_getD,List.getElem?_take,List.getElem?_drop,hj,if_true]
 unfold bL
 rw [e 0 (by decide),e 1 (by decide),e 2 (by decide)]
 rfl
theorem Kx (s:List UInt8) (i:Nat):((((((bL s (i + 1) * 16777619) % 4294967296) + bI s i) % 4294967296) - ((Ex * bI s (i + 3)) % 4294967296)) % 4294967296) = bL s i:=by
 simp only [Ex,Kv,bL,show i + 1 + 2 = i + 3 from rfl,show i + 1 + 1 = i + 2 from rfl]
 omega
def hW (s:List UInt8) (i:Nat):Nat → Int
 | 0=>0
 | k + 1=>((((hW s i k * 16777619) % 4294967296) + bI s (i + (2 - k))) % 4294967296)
theorem zY {s:List UInt8} {i k j:Nat} {h:Int} (hh:h = hW s i k) (hj:j = i + (2 - k)):((((h * 16777619) % 4294967296) + bI s j) % 4294967296) = hW s i (k + 1):=by rw [hh,hj,hW]
theorem Ky (s:List UInt8) (i:Nat):hW s i 3 = bL s i:=by
 have h0:=ni s i; have h1:=ni s (i + 1); have h2:=ni s (i + 2)
 simp only [hW,Kv,bL,show 2 - 0 = 2 from rfl,show 2 - 1 = 1 from rfl,show 2 - 2 = 0 from rfl,NK]
 omega
theorem qK {s p:List UInt8} {k m:Nat} (hm:m = k + 1) (h:(s.drop k).take 3 = p):ap s p m = k:=by rw [hm,ap,if_pos h]
theorem jr {s p:List UInt8} {k m:Nat} (hm:m = k + 1) (h:(s.drop k).take 3 ≠ p):ap s p m = ap s p k:=by rw [hm,ap,if_neg h]
theorem nj {s p:List UInt8} {k m:Nat} {h H:Int} (hm:m = k + 1) (hl:m + 2 ≤ s.length) (hh:h = bL s k) (hH:H = bL p 0) (hne:h ≠ H):ap s p m = ap s p k :=
 jr hm fun e=>hne (by rw [hh,hH]; exact xQ e (by omega))
theorem Ey {l p:List UInt8} (e:(Ms { data:=l.toArray } == Ms { data:=p.toArray }) = true):l = p:=by rw [fk,fk] at e; exact eq_of_beq e
theorem Ez {l p:List UInt8} (e:(Ms { data:=l.toArray } == Ms { data:=p.toArray }) = false):l ≠ p:=by rw [fk,fk] at e; exact ar e
theorem t7 {s:List UInt8} {n j:Nat} (hn:n = s.length) (h3:3 ≤ n) (hj:j = n - 3):s.drop j = (s.drop (n - 3)).take 3:=by
 rw [hj,Mf (by rw [L9]; omega)]
theorem nk {s p:List UInt8} {a:Int} {j:Nat} (hl:a = ap s p j) (hj:j = 0):a = -1:=by rw [hl,hj]; rfl
theorem t8 {s:List UInt8} {j a b:Nat} {h:Int} (hh:h = bL s j) (hj:0 < j) (ha:a = j - 1) (hb:b = j + 2):((((((h * 16777619) % 4294967296) + ((s.getD a jd).toNat:Int)) % 4294967296) - ((1055306571 * ((s.getD b jd).toNat:Int)) % 4294967296)) % 4294967296) = bL s (j - 1):=by
 have e1:bL s j = bL s (a + 1):=congrArg (bL s) (by omega)
 have e2:b = a + 3:=by omega
 have e3:=Kx s a
 rw [hh,e1,e2,← ha]
 exact e3
theorem xR {s:List UInt8} {j:Nat} (hj:0 < j):Ml (((j:Int) - 1 + 3).toNat - ((j:Int) - 1).toNat) (Mm ((j:Int) - 1).toNat s) = (s.drop (j - 1)).take 3:=by
 rw [show ((j:Int) - 1 + 3).toNat - ((j:Int) - 1).toNat = 3 from by omega,show ((j:Int) - 1).toNat = j - 1 from by omega]
theorem t9 {s p:List UInt8} {j:Nat} {a:Int} (hl:a = ap s p j) (hj:0 < j) (e:(Ms { data:=(Ml (((j:Int) - 1 + 3).toNat - ((j:Int) - 1).toNat) (Mm ((j:Int) - 1).toNat s)).toArray } == Ms { data:=p.toArray }) = false):a = ap s p (j - 1):=by
 rw [hl]
 refine jr (by omega) ?_
 rw [← xR hj]
 exact Ez e
theorem xS {s p:List UInt8} {j:Nat} {a:Int} (hl:a = ap s p j) (hj:0 < j) (e:(Ms { data:=(Ml (((j:Int) - 1 + 3).toNat - ((j:Int) - 1).toNat) (Mm ((j:Int) - 1).toNat s)).toArray } == Ms { data:=p.toArray }) = true):(j:Int) - 1 = a:=by
 rw [hl,qK (k:=j - 1) (by omega) (by rw [← xR hj]; exact Ey e)]
 omega
theorem ua {s p:List UInt8} {j:Nat} {a h H:Int} (hl:a = ap s p j) (hj:0 < j) (hb:j + 2 ≤ s.length) (hh:h = bL s j) (hH:H = bL p 0) (e:(((((((h * 16777619) % 4294967296) + ((s.getD (((j:Int) - 1).toNat * 1) jd).toNat:Int)) % 4294967296) - ((1055306571 * ((s.getD (((j:Int) - 1 + 3).toNat * 1) jd).toNat:Int)) % 4294967296)) % 4294967296) == H) = false):a = ap s p (j - 1) :=
 hl.trans (nj (by omega) hb (t8 hh hj (by omega) (by omega)) hH (ar e))
theorem zZ {s p:List UInt8} {n:Nat} (hn:n = s.length) (h3:3 ≤ n) (e:(Ms { data:=(Mm ((n:Int) - 3).toNat s).toArray } == Ms { data:=p.toArray }) = true):(n:Int) - 3 = ap s p (n - 2):=by
 rw [qK (k:=n - 3) (by omega) (by rw [← t7 hn h3 rfl,← Ey e]; exact congrArg (Mm · s) (by omega))]
 omega
theorem rk (s p:List UInt8) (n:Nat) (hn:n = s.length) (hp:p.length = 3) (h3:4 ≤ n) (h4:n ≤ 1000000) (H:Int) (hH:H = bL p 0):SpecH false Tryz.prog 193 [.sl false n 1 (s.map dB),.sl false 3 1 (p.map dB)] [] (iD (ap s p (n - 2))) []:=by
 refine SpecH.run T_ok ai Tryz.func193 rfl rfl rfl trivial rfl 1000 64 (fun R ok=>(.s 3 (.cl 198 false [] (.fn JE (@Go.Proofs.YtefjnofhgkjpmaaGreat.Vm.hash (p) om (H) bx)) (.s 15 (.ow ((n:Int) - 3) (.s 6 (.ow ((n:Int) - 1) (.s 1 (.val 10 (zI ((n:Int) - 1)) (zI ((n:Int) - 1 - 0)) lV (Hn.inl T_ok ai false 94 0 (ay Tryz.prog 193 0) (fun (x:(k:Nat) ×' (hk:k ≤ 3) ×' (h:Int) ×' (hh:h = hW s (n - 3) k) ×' Unit)=>match x with | ⟨k,hk,h,hh,_⟩=>CutS.mk [(0,D.sl false n 1 (map dB s)),(1,D.sl false 3 1 (map dB p)),(5,uI H),(6,uI 1055306571),(7,zI 3),(8,zI ((n:Int) - 3)),(9,.v (.int .u32 h)),(10,iD ((n:Int) - 1 - (k:Int)))] [] 0) (fun (x:(k:Nat) ×' (hk:k ≤ 3) ×' (h:Int) ×' (hh:h = hW s (n - 3) k) ×' Unit)=>match x with | ⟨k,hk,h,hh,_⟩=>3 - k) [⟨(h2:Int) ×' (hh2:h2 = bL s (n - 3)) ×' Unit,.exit 0,fun x=>match x with | ⟨h2,hh2,_⟩=>CutS.mk [(0,D.sl false n 1 (map dB s)),(1,D.sl false 3 1 (map dB p)),(5,uI H),(6,uI 1055306571),(7,zI 3),(8,zI ((n:Int) - 3)),(9,.v (.int .u32 h2))] [] 0⟩] 1000 64 (fun | ⟨k,hk,h,hh,_⟩,Q,next1,last1=>(.s 4 (.br (decide ((n:Int) - 3 ≤ (n:Int) - 1 - (k:Int))) (fun p0=>have p0f:=aU p0; (.s 3 (.opt (aw .u32 (h * 16777619)) (uI (h * 16777619 % 4294967296)) (aL _ _) (.s 3 (.chk (decide (0 ≤ (n:Int) - 1 - (k:Int)) && decide ((n:Int) - 1 - (k:Int) < (n:Int)) && true) u4 (.s 2 (.opt ((map dB s)[uM ((n:Int) - 1 - (k:Int)) * 1]?) (dB (getD s (uM ((n:Int) - 1 - (k:Int)) * 1) jd)) (au _ _ om) (.s 1 (.opt (aw .u32 (↑(LG (getD s (uM ((n:Int) - 1 - (k:Int)) * 1) jd)):Int)) (ag (LG (getD s (uM ((n:Int) - 1 - (k:Int)) * 1) jd))) (aB u5) (.s 2 (.opt (aw .u32 (h * 16777619 % 4294967296 + (↑(LG (getD s (uM ((n:Int) - 1 - (k:Int)) * 1) jd)):Int))) (uI ((h * 16777619 % 4294967296 + (↑(LG (getD s (uM ((n:Int) - 1 - (k:Int)) * 1) jd)):Int)) % 4294967296)) (aL _ _) (.s 4 (.ow ((n:Int) - 1 - (k:Int) - 1) (.s 1 (.val 9 (uI ((h * 16777619 % 4294967296 + (↑(LG (getD s (uM ((n:Int) - 1 - (k:Int)) * 1) jd)):Int)) % 4294967296)) (uI ((h * 16777619 % 4294967296 + bI s (n - 1 - k)) % 4294967296)) (by (refine aO (congrArg (fun z=>((((h * 16777619) % 4294967296) + bI s z) % 4294967296)) ?_); (omega))) (.val 10 (zI ((n:Int) - 1 - (k:Int) - 1)) (zI ((n:Int) - 1 - (↑(k + 1):Int))) lV (Hn.next next1 ⟨(k+1),om,(((((h * 16777619) % 4294967296) + bI s (n - 1 - k)) % 4294967296)),(by (refine zY hh ?_; (omega))),⟨⟩⟩ (by show 3 - (k + 1) < 3 - k; clear next1 last1; omega) [] ro))))))))))))))))) (fun p0=>have p0f:=aV p0; (Hn.last last1 0 (⟨(h),(by (rw [hh,show k = 3 from by (omega),Ky])),⟨⟩⟩:(h2:Int) ×' (hh2:h2 = bL s (n - 3)) ×' Unit) rfl [] ro))))) (fun | ⟨k,hk,h,hh,_⟩=>by kernel_rfl) ⟨(0),om,(0),(by exact rfl),⟨⟩⟩ [] ro (b5 (fun | ⟨h2,hh2,_⟩=>(.s 7 (.br (h2 == H) (fun p1=>have p1f:=eq_of_beq p1; (.s 4 (.chk (aM (some ((n:Int) - 3)) none none n && true) (by (simp <;> (omega))) (.s 3 (.byt (drop (uM ((n:Int) - 3) * 1) (map dB s)) (drop (uM ((n:Int) - 3)) s) (by (simp; done)) (.s 5 (.byt (map dB p) (p) rfl (.s 3 (.br (Ms (M9 (NT (drop (uM ((n:Int) - 3)) s))) == Ms (M9 (NT p))) (fun p2=>have p2f:=eq_of_beq p2; (.s 2 (.out [] [] (zI ((n:Int) - 3)) [] R (ok _ _ (by (exact aO (zZ hn (by (omega)) bx))) wr)))) (fun p2=>have p2f:=ar p2; (.s 3 (.ow ((n:Int) - 3 - 1) (.s 1 (.val 11 (zI ((n:Int) - 3 - 1)) (zI ((↑(n - 3):Int) - 1)) lV (Hn.inl T_ok ai false 94 0 (ay Tryz.prog 193 1) (fun (x:(j:Nat) ×' (hj:j ≤ n - 3) ×' (h:Int) ×' (hh:h = bL s j) ×' (hl:ap s p (n - 2) = ap s p j) ×' Unit)=>match x with | ⟨j,hj,h,hh,hl,_⟩=>CutS.mk [(0,D.sl false n 1 (map dB s)),(1,D.sl false 3 1 (map dB p)),(5,uI H),(6,uI 1055306571),(7,zI 3),(9,.v (.int .u32 h)),(11,iD ((j:Int) - 1))] [] 0) (fun (x:(j:Nat) ×' (hj:j ≤ n - 3) ×' (h:Int) ×' (hh:h = bL s j) ×' (hl:ap s p (n - 2) = ap s p j) ×' Unit)=>match x with | ⟨j,hj,h,hh,hl,_⟩=>j) [⟨(hz:ap s p (n - 2) = -1) ×' Unit,.exit 2,fun x=>match x with | ⟨hz,_⟩=>CutS.mk [(0,D.sl false n 1 (map dB s)),(1,D.sl false 3 1 (map dB p)),(5,uI H),(6,uI 1055306571),(7,zI 3)] [] 0⟩,⟨Unit,.ret,fun x=>match x with | ()=>CutS.mk [(4,iD (ap s p (n - 2)))] [] 0⟩] 1000 64 (fun | ⟨j,hj,h,hh,hl,_⟩,Q,next1,last1=>(.s 3 (.br (decide (0 ≤ (j:Int) - 1)) (fun p3=>have p3f:=aU p3; (.s 3 (.opt (aw .u32 (h * 16777619)) (uI (h * 16777619 % 4294967296)) (aL _ _) (.s 5 (.chk (decide (0 ≤ (j:Int) - 1) && decide ((j:Int) - 1 < (n:Int)) && true) u4 (.s 2 (.opt ((map dB s)[uM ((j:Int) - 1) * 1]?) (dB (getD s (uM ((j:Int) - 1) * 1) jd)) (au _ _ om) (.s 1 (.opt (aw .u32 (↑(LG (getD s (uM ((j:Int) - 1) * 1) jd)):Int)) (ag (LG (getD s (uM ((j:Int) - 1) * 1) jd))) (aB u5) (.s 2 (.opt (aw .u32 (h * 16777619 % 4294967296 + (↑(LG (getD s (uM ((j:Int) - 1) * 1) jd)):Int))) (uI ((h * 16777619 % 4294967296 + (↑(LG (getD s (uM ((j:Int) - 1) * 1) jd)):Int)) % 4294967296)) (aL _ _) (.s 8 (.ow ((j:Int) - 1 + 3) (.s 1 (.chk (decide (0 ≤ (j:Int) - 1 + 3) && decide ((j:Int) - 1 + 3 < (n:Int)) && true) u4 (.s 2 (.opt ((map dB s)[uM ((j:Int) - 1 + 3) * 1]?) (dB (getD s (uM ((j:Int) - 1 + 3) * 1) jd)) (au _ _ om) (.s 1 (.opt (aw .u32 (↑(LG (getD s (uM ((j:Int) - 1 + 3) * 1) jd)):Int)) (ag (LG (getD s (uM ((j:Int) - 1 + 3) * 1) jd))) (aB u5) (.s 2 (.opt (aw .u32 (1055306571 * (↑(LG (getD s (uM ((j:Int) - 1 + 3) * 1) jd)):Int))) (uI (1055306571 * (↑(LG (getD s (uM ((j:Int) - 1 + 3) * 1) jd)):Int) % 4294967296)) (aL _ _) (.s 2 (.opt (aw .u32 ((h * 16777619 % 4294967296 + (↑(LG (getD s (uM ((j:Int) - 1) * 1) jd)):Int)) % 4294967296 - 1055306571 * (↑(LG (getD s (uM ((j:Int) - 1 + 3) * 1) jd)):Int) % 4294967296)) (uI (((h * 16777619 % 4294967296 + (↑(LG (getD s (uM ((j:Int) - 1) * 1) jd)):Int)) % 4294967296 - 1055306571 * (↑(LG (getD s (uM ((j:Int) - 1 + 3) * 1) jd)):Int) % 4294967296) % 4294967296)) (aL _ _) (.s 8 (.br (((h * 16777619 % 4294967296 + (↑(LG (getD s (uM ((j:Int) - 1) * 1) jd)):Int)) % 4294967296 - 1055306571 * (↑(LG (getD s (uM ((j:Int) - 1 + 3) * 1) jd)):Int) % 4294967296) % 4294967296 == H) (fun p4=>have p4f:=eq_of_beq p4; (.s 9 (.ow ((j:Int) - 1 + 3) (.s 2 (.chk (aM (some ((j:Int) - 1)) (some ((j:Int) - 1 + 3)) none n && true) (by (simp <;> (omega))) (.s 3 (.byt (take ((uM ((j:Int) - 1 + 3) - uM ((j:Int) - 1)) * 1) (drop (uM ((j:Int) - 1) * 1) (map dB s))) (take (uM ((j:Int) - 1 + 3) - uM ((j:Int) - 1)) (drop (uM ((j:Int) - 1)) s)) (by (simp; done)) (.s 5 (.byt (map dB p) (p) rfl (.s 3 (.br (Ms (M9 (NT (take (uM ((j:Int) - 1 + 3) - uM ((j:Int) - 1)) (drop (uM ((j:Int) - 1)) s)))) == Ms (M9 (NT p))) (fun p5=>have p5f:=eq_of_beq p5; (.s 2 (.val 4 (zI ((j:Int) - 1)) (zI (ap s p (n - 2))) (by (exact aO (xS hl (by (omega)) bx))) (Hn.last last1 1 (():Unit) rfl [] ro)))) (fun p5=>have p5f:=ar p5; (.s 3 (.ow ((j:Int) - 1 - 1) (.s 1 (.val 11 (zI ((j:Int) - 1 - 1)) (zI ((↑(j - 1):Int) - 1)) lV (Hn.next next1 ⟨(j - 1),om,(((((((h * 16777619) % 4294967296) + ((s.getD (((j:Int) - 1).toNat * 1) jd).toNat:Int)) % 4294967296) - ((1055306571 * ((s.getD (((j:Int) - 1 + 3).toNat * 1) jd).toNat:Int)) % 4294967296)) % 4294967296)),zV,(by (exact t9 hl (by (omega)) bx)),⟨⟩⟩ zW [] ro))))))))))))))))) (fun p4=>have p4f:=ar p4; (.s 23 (.ow ((j:Int) - 1 - 1) (.s 1 (.val 11 (zI ((j:Int) - 1 - 1)) (zI ((↑(j - 1):Int) - 1)) lV (Hn.next next1 ⟨(j - 1),om,(((((((h * 16777619) % 4294967296) + ((s.getD (((j:Int) - 1).toNat * 1) jd).toNat:Int)) % 4294967296) - ((1055306571 * ((s.getD (((j:Int) - 1 + 3).toNat * 1) jd).toNat:Int)) % 4294967296)) % 4294967296)),zV,(by (exact ua hl (by (omega)) (by (omega)) hh hH bx)),⟨⟩⟩ zW [] ro))))))))))))))))))))))))))))))) (fun p3=>have p3f:=aV p3; (Hn.last last1 0 (⟨(by (exact nk hl (by (omega)))),⟨⟩⟩:(hz:ap s p (n - 2) = -1) ×' Unit) rfl [] ro))))) (fun | ⟨j,hj,h,hh,hl,_⟩=>by kernel_rfl) ⟨(n - 3),om,(h2),om,(by (refine jr om ?_; rw [← t7 hn om rfl]; refine fun e=>Ez p2 ?_; refine Pa ?_ e; exact congrArg (drop · s) om)),⟨⟩⟩ [] ro (eZ (fun | ⟨hz,_⟩=>(.s 1 (.out [] [] (zI (-1)) [] R (ok _ _ lV wr)))) (fun | ()=>(.out [] [] (zI (ap s p (n - 2))) [] R (ok _ _ wr wr))))))))))))))))))) (fun p1=>have p1f:=ar p1; (.s 17 (.ow ((n:Int) - 3 - 1) (.s 1 (.val 11 (zI ((n:Int) - 3 - 1)) (zI ((↑(n - 3):Int) - 1)) lV (Hn.inl T_ok ai false 94 0 (ay Tryz.prog 193 1) (fun (x:(j:Nat) ×' (hj:j ≤ n - 3) ×' (h:Int) ×' (hh:h = bL s j) ×' (hl:ap s p (n - 2) = ap s p j) ×' Unit)=>match x with | ⟨j,hj,h,hh,hl,_⟩=>CutS.mk [(0,D.sl false n 1 (map dB s)),(1,D.sl false 3 1 (map dB p)),(5,uI H),(6,uI 1055306571),(7,zI 3),(9,.v (.int .u32 h)),(11,iD ((j:Int) - 1))] [] 0) (fun (x:(j:Nat) ×' (hj:j ≤ n - 3) ×' (h:Int) ×' (hh:h = bL s j) ×' (hl:ap s p (n - 2) = ap s p j) ×' Unit)=>match x with | ⟨j,hj,h,hh,hl,_⟩=>j) [⟨(hz:ap s p (n - 2) = -1) ×' Unit,.exit 2,fun x=>match x with | ⟨hz,_⟩=>CutS.mk [(0,D.sl false n 1 (map dB s)),(1,D.sl false 3 1 (map dB p)),(5,uI H),(6,uI 1055306571),(7,zI 3)] [] 0⟩,⟨Unit,.ret,fun x=>match x with | ()=>CutS.mk [(4,iD (ap s p (n - 2)))] [] 0⟩] 1000 64 (fun | ⟨j,hj,h,hh,hl,_⟩,Q,next1,last1=>(.s 3 (.br (decide (0 ≤ (j:Int) - 1)) (fun p6=>have p6f:=aU p6; (.s 3 (.opt (aw .u32 (h * 16777619)) (uI (h * 16777619 % 4294967296)) (aL _ _) (.s 5 (.chk (decide (0 ≤ (j:Int) - 1) && decide ((j:Int) - 1 < (n:Int)) && true) u4 (.s 2 (.opt ((map dB s)[uM ((j:Int) - 1) * 1]?) (dB (getD s (uM ((j:Int) - 1) * 1) jd)) (au _ _ om) (.s 1 (.opt (aw .u32 (↑(LG (getD s (uM ((j:Int) - 1) * 1) jd)):Int)) (ag (LG (getD s (uM ((j:Int) - 1) * 1) jd))) (aB u5) (.s 2 (.opt (aw .u32 (h * 16777619 % 4294967296 + (↑(LG (getD s (uM ((j:Int) - 1) * 1) jd)):Int))) (uI ((h * 16777619 % 4294967296 + (↑(LG (getD s (uM ((j:Int) - 1) * 1) jd)):Int)) % 4294967296)) (aL _ _) (.s 8 (.ow ((j:Int) - 1 + 3) (.s 1 (.chk (decide (0 ≤ (j:Int) - 1 + 3) && decide ((j:Int) - 1 + 3 < (n:Int)) && true) u4 (.s 2 (.opt ((map dB s)[uM ((j:Int) - 1 + 3) * 1]?) (dB (getD s (uM ((j:Int) - 1 + 3) * 1) jd)) (au _ _ om) (.s 1 (.opt (aw .u32 (↑(LG (getD s (uM ((j:Int) - 1 + 3) * 1) jd)):Int)) (ag (LG (getD s (uM ((j:Int) - 1 + 3) * 1) jd))) (aB u5) (.s 2 (.opt (aw .u32 (1055306571 * (↑(LG (getD s (uM ((j:Int) - 1 + 3) * 1) jd)):Int))) (uI (1055306571 * (↑(LG (getD s (uM ((j:Int) - 1 + 3) * 1) jd)):Int) % 4294967296)) (aL _ _) (.s 2 (.opt (aw .u32 ((h * 16777619 % 4294967296 + (↑(LG (getD s (uM ((j:Int) - 1) * 1) jd)):Int)) % 4294967296 - 1055306571 * (↑(LG (getD s (uM ((j:Int) - 1 + 3) * 1) jd)):Int) % 4294967296)) (uI (((h * 16777619 % 4294967296 + (↑(LG (getD s (uM ((j:Int) - 1) * 1) jd)):Int)) % 4294967296 - 1055306571 * (↑(LG (getD s (uM ((j:Int) - 1 + 3) * 1) jd)):Int) % 4294967296) % 4294967296)) (aL _ _) (.s 8 (.br (((h * 16777619 % 4294967296 + (↑(LG (getD s (uM ((j:Int) - 1) * 1) jd)):Int)) % 4294967296 - 1055306571 * (↑(LG (getD s (uM ((j:Int) - 1 + 3) * 1) jd)):Int) % 4294967296) % 4294967296 == H) (fun p7=>have p7f:=eq_of_beq p7; (.s 9 (.ow ((j:Int) - 1 + 3) (.s 2 (.chk (aM (some ((j:Int) - 1)) (some ((j:Int) - 1 + 3)) none n && true) (by (simp <;> (omega))) (.s 3 (.byt (take ((uM ((j:Int) - 1 + 3) - uM ((j:Int) - 1)) * 1) (drop (uM ((j:Int) - 1) * 1) (map dB s))) (take (uM ((j:Int) - 1 + 3) - uM ((j:Int) - 1)) (drop (uM ((j:Int) - 1)) s)) (by (simp; done)) (.s 5 (.byt (map dB p) (p) rfl (.s 3 (.br (Ms (M9 (NT (take (uM ((j:Int) - 1 + 3) - uM ((j:Int) - 1)) (drop (uM ((j:Int) - 1)) s)))) == Ms (M9 (NT p))) (fun p8=>have p8f:=eq_of_beq p8; (.s 2 (.val 4 (zI ((j:Int) - 1)) (zI (ap s p (n - 2))) (by (exact aO (xS hl (by (omega)) bx))) (Hn.last last1 1 (():Unit) rfl [] ro)))) (fun p8=>have p8f:=ar p8; (.s 3 (.ow ((j:Int) - 1 - 1) (.s 1 (.val 11 (zI ((j:Int) - 1 - 1)) (zI ((↑(j - 1):Int) - 1)) lV (Hn.next next1 ⟨(j - 1),om,(((((((h * 16777619) % 4294967296) + ((s.getD (((j:Int) - 1).toNat * 1) jd).toNat:Int)) % 4294967296) - ((1055306571 * ((s.getD (((j:Int) - 1 + 3).toNat * 1) jd).toNat:Int)) % 4294967296)) % 4294967296)),zV,(by (exact t9 hl (by (omega)) bx)),⟨⟩⟩ zW [] ro))))))))))))))))) (fun p7=>have p7f:=ar p7; (.s 23 (.ow ((j:Int) - 1 - 1) (.s 1 (.val 11 (zI ((j:Int) - 1 - 1)) (zI ((↑(j - 1):Int) - 1)) lV (Hn.next next1 ⟨(j - 1),om,(((((((h * 16777619) % 4294967296) + ((s.getD (((j:Int) - 1).toNat * 1) jd).toNat:Int)) % 4294967296) - ((1055306571 * ((s.getD (((j:Int) - 1 + 3).toNat * 1) jd).toNat:Int)) % 4294967296)) % 4294967296)),zV,(by (exact ua hl (by (omega)) (by (omega)) hh hH bx)),⟨⟩⟩ zW [] ro))))))))))))))))))))))))))))))) (fun p6=>have p6f:=aV p6; (Hn.last last1 0 (⟨(by (exact nk hl (by (omega)))),⟨⟩⟩:(hz:ap s p (n - 2) = -1) ×' Unit) rfl [] ro))))) (fun | ⟨j,hj,h,hh,hl,_⟩=>by kernel_rfl) ⟨(n - 3),om,(h2),om,(by (refine nj om om hh2 hH (ar p1))),⟨⟩⟩ [] ro (eZ (fun | ⟨hz,_⟩=>(.s 1 (.out [] [] (zI (-1)) [] R (ok _ _ lV wr)))) (fun | ()=>(.out [] [] (zI (ap s p (n - 2))) [] R (ok _ _ wr wr)))))))))))))))))))))))) (by kernel_rfl)
theorem qL {s p:List UInt8} {n:Nat} (hn:n = s.length) (h3:n = 3):ap s p (n - 2) = if s = p then 0 else -1:=by
 rw [show n - 2 = 0 + 1 from by omega,ap,M6,Mf (by omega)]
 rfl
theorem Ii {s p:List UInt8} {n:Nat} (hn:n = s.length) (h3:n = 3) (e:(Ms { data:=s.toArray } == Ms { data:=p.toArray }) = true):0 = ap s p (n - 2):=by rw [qL hn h3,if_pos (Ey e)]
theorem Ij {s p:List UInt8} {n:Nat} (hn:n = s.length) (h3:n = 3) (e:(Ms { data:=s.toArray } == Ms { data:=p.toArray }) = false):-1 = ap s p (n - 2):=by rw [qL hn h3,if_neg (Ez e)]
theorem Ik {s p:List UInt8} {n:Nat} (h:n ≤ 2):-1 = ap s p (n - 2):=by rw [show n - 2 = 0 from by omega]; rfl
theorem EA (s p:List UInt8) (n:Nat) (hn:n = s.length) (hp:p.length = 3) (h4:n ≤ 1000000):SpecH false Tryz.prog 179 [.sl false n 1 (s.map dB),.sl false 3 1 (p.map dB)] [] (iD (ap s p (n - 2))) []:=by
 have hH:bL p 0 = bL p 0:=rfl
 refine SpecH.run T_ok ai Tryz.func179 rfl rfl rfl trivial rfl 1000 64 (fun R ok=>(.s 20 (.br (3 == (n:Int)) (fun p0=>have p0f:=eq_of_beq p0; (.s 8 (.byt (map dB s) (s) rfl (.s 3 (.byt (map dB p) (p) rfl (.s 2 (.br (Ms (M9 (NT s)) == Ms (M9 (NT p))) (fun p1=>have p1f:=eq_of_beq p1; (.s 1 (.out [] [] (zI 0) [] R (ok _ _ (by (exact aO (Ii hn (by (omega)) bx))) wr)))) (fun p1=>have p1f:=ar p1; (.s 1 (.out [] [] (zI (-1)) [] R (ok _ _ (by (exact aO (Ij hn (by (omega)) bx))) wr))))))))))) (fun p0=>have p0f:=ar p0; (.s 6 (.br (decide ((n:Int) < 3)) (fun p2=>have p2f:=aU p2; (.s 1 (.out [] [] (zI (-1)) [] R (ok _ _ (by (exact aO (Ik (by (omega))))) wr)))) (fun p2=>have p2f:=aV p2; (.s 3 (.cl 193 false [] (.fn JD (@Go.Proofs.YtefjnofhgkjpmaaGreat.Vm.rk (s) (p) (n) om om om om (bL p 0) bx)) (.s 1 (.out [] [] (zI (ap s p (n - 2))) [] R (ok _ _ wr wr)))))))))))) (by kernel_rfl)
end Vm
end Go.Proofs.YtefjnofhgkjpmaaGreat
namespace Go.Proofs.YtefjnofhgkjpmaaGreat
open Go.RowKit Go.Bw Go.Vx
open List (length getD map take drop flatMap replicate)
namespace Vm
theorem z0 {p:Prop} (h:p:=by ((refine aK ?_ ?_) <;> (repeat' (first | (refine aK ?_ ?_) | (with_reducible rfl) | (refine decide_eq_true ?_) | (refine LK ?_) | (refine eT ?_))) <;> (omega))):p:=h
def same (b:List UInt8) (i j:Nat):Nat → Nat
 | 0=>0
 | k + 1=>if i < b.length ∧ b.getD j jd = b.getD i jd then same b (i + 1) (j + 1) k + 1 else 0
theorem ub (b:List UInt8):∀ (k i j:Nat),same b i j k ≤ k
 | 0,i,j=>LV 0
 | k + 1,i,j=>by
  unfold same
  split
  ·exact NA (ub b k (i + 1) (j + 1))
  ·omega
theorem iX (b:List UInt8):∀ (k i j:Nat),i ≤ b.length → i + same b i j k ≤ b.length
 | 0,i,j,h=>h
 | k + 1,i,j,h=>by
  unfold same
  split
  ·next e=>have:=iX b k (i + 1) (j + 1) e.1; omega
  ·exact h
theorem z9 {b:List UInt8} {i j m a:Nat} (hs:a = m + same b (i + m) (j + m) (258 - m)) (h1:m < 258) (h2:i + m < b.length) (h3:b.getD (j + m) jd = b.getD (i + m) jd):a = (m + 1) + same b (i + (m + 1)) (j + (m + 1)) (258 - (m + 1)):=by
 rw [hs,show 258 - m = (258 - (m + 1)) + 1 from by omega,same,if_pos ⟨h2,h3⟩]
 rw [show i + m + 1 = i + (m + 1) from by omega,show j + m + 1 = j + (m + 1) from by omega]
 omega
theorem oT {b:List UInt8} {i j m a:Nat} (hs:a = m + same b (i + m) (j + m) (258 - m)) (h:m = 258 ∨ ¬ i + m < b.length ∨ b.getD (j + m) jd ≠ b.getD (i + m) jd):a = m:=by
 rw [hs]
 rcases h with h | h | h
 ·rw [h]; rfl
 ·cases k:258 - m with
  | zero=>rfl
  | succ k=>rw [same,if_neg (fun e=>h e.1)]; rfl
 ·cases k:258 - m with
  | zero=>rfl
  | succ k=>rw [same,if_neg (fun e=>h e.2)]; rfl
theorem ud {b:List UInt8} {i m:Nat}:b.getD (((i:Int) + (m:Int)).toNat * 1) jd = b.getD (i + m) jd:=congrArg (b.getD · jd) (by omega)
theorem Il {x y:UInt8} (h:(x.toNat:Int) = (y.toNat:Int)):x = y:=UInt8.toNat_inj.1 (Int.ofNat.inj h)
theorem rY {b:List UInt8} {i j m a:Nat} (hs:a = m + same b (i + m) (j + m) (258 - m)) (h1:m < 258) (h2:i + m < b.length) (e:(((b.getD (((j:Int) + (m:Int)).toNat * 1) jd).toNat:Int) == ((b.getD (((i:Int) + (m:Int)).toNat * 1) jd).toNat:Int)) = true):a = m + 1 + same b (i + (m + 1)) (j + (m + 1)) (258 - (m + 1)):=by
 rw [ud,ud] at e
 exact z9 hs h1 h2 (Il (eq_of_beq e))
theorem xT {b:List UInt8} {i j m a:Nat} (hs:a = m + same b (i + m) (j + m) (258 - m)) (e:(((b.getD (((j:Int) + (m:Int)).toNat * 1) jd).toNat:Int) == ((b.getD (((i:Int) + (m:Int)).toNat * 1) jd).toNat:Int)) = false):(m:Int) = (a:Int):=by
 rw [ud,ud] at e
 rw [oT hs (.inr (.inr fun h=>ar e (by rw [h])))]
theorem ue {b:List UInt8} {i j m a n:Nat} (hs:a = m + same b (i + m) (j + m) (258 - m)) (hn:n = b.length) (e:decide ((i:Int) + (m:Int) < (n:Int)) = false):(m:Int) = (a:Int):=by
 have:=of_decide_eq_false e
 rw [oT hs (.inr (.inl (by omega)))]
theorem ug {b:List UInt8} {i j m a:Nat} (hs:a = m + same b (i + m) (j + m) (258 - m)) (hm:m ≤ 258) (e:decide ((m:Int) < 258) = false):(m:Int) = (a:Int):=by
 have:=of_decide_eq_false e
 rw [oT hs (.inl (by omega))]
theorem long (b:List UInt8) (n i j:Nat) (hn:n = b.length) (hN:n ≤ 1000000) (hi:i ≤ n) (hj:j < i):SpecH false Tryz.prog 155 [.sl false n 1 (b.map dB),iD i,iD j] [] (iD (same b i j 258:Nat)) []:=by
 refine SpecH.run T_ok ai Tryz.func155 rfl rfl rfl trivial rfl 1000 64 (fun R ok=>(.s 1 (Hn.inl T_ok ai false 35 0 (ay Tryz.prog 155 0) (fun (x:(m:Nat) ×' (hm:m ≤ 258) ×' (hi2:i + m ≤ n) ×' (hs:same b i j 258 = m + same b (i + m) (j + m) (258 - m)) ×' Unit)=>match x with | ⟨m,hm,hi2,hs,_⟩=>CutS.mk [(0,D.sl false n 1 (map dB b)),(1,zN i),(2,zN j),(6,iD (m:Nat))] [] 0) (fun (x:(m:Nat) ×' (hm:m ≤ 258) ×' (hi2:i + m ≤ n) ×' (hs:same b i j 258 = m + same b (i + m) (j + m) (258 - m)) ×' Unit)=>match x with | ⟨m,hm,hi2,hs,_⟩=>258 - m) [⟨Unit,.exit 0,fun x=>match x with | ()=>CutS.mk [(0,D.sl false n 1 (map dB b)),(1,zN i),(2,zN j),(6,iD (same b i j 258:Nat))] [] 0⟩] 1000 64 (fun | ⟨m,hm,hi2,hs,_⟩,Q,next1,last1=>(.s 6 (.br (decide ((m:Int) < 258)) (fun p0=>have p0f:=aU p0; (.s 5 (.ow ((i:Int) + (m:Int)) (.s 10 (.br (decide ((i:Int) + (m:Int) < (n:Int))) (fun p1=>have p1f:=aU p1; (.s 7 (.ow ((j:Int) + (m:Int)) (.s 2 (.chk (true && decide ((j:Int) + (m:Int) < (n:Int)) && true) z0 (.s 3 (.opt ((map dB b)[uM ((j:Int) + (m:Int)) * 1]?) (dB (getD b (uM ((j:Int) + (m:Int)) * 1) jd)) (au _ _ om) (.s 9 (.ow ((i:Int) + (m:Int)) (.s 2 (.chk (true && decide ((i:Int) + (m:Int) < (n:Int)) && true) z0 (.s 3 (.opt ((map dB b)[uM ((i:Int) + (m:Int)) * 1]?) (dB (getD b (uM ((i:Int) + (m:Int)) * 1) jd)) (au _ _ om) (.s 4 (.br ((↑(LG (getD b (uM ((j:Int) + (m:Int)) * 1) jd)):Int) == (↑(LG (getD b (uM ((i:Int) + (m:Int)) * 1) jd)):Int)) (fun p2=>have p2f:=eq_of_beq p2; (.s 3 (.ow ((m:Int) + 1) (.s 1 (.val 6 (zI ((m:Int) + 1)) (zN (m + 1)) (by (simp; done)) (Hn.next next1 ⟨(m + 1),om,om,(by (exact rY hs (by (omega)) (by (omega)) bx)),⟨⟩⟩ (by show 258 - (m + 1) < 258 - m; clear next1 last1; omega) [] ro)))))) (fun p2=>have p2f:=ar p2; (.val 6 (zN m) (zN (same b i j 258)) (by (exact aO (xT hs bx))) (Hn.last last1 0 (():Unit) rfl [] ro)))))))))))))))))) (fun p1=>have p1f:=aV p1; (.s 26 (.val 6 (zN m) (zN (same b i j 258)) (by (exact aO (ue hs hn bx))) (Hn.last last1 0 (():Unit) rfl [] ro))))))))) (fun p0=>have p0f:=aV p0; (.s 40 (.val 6 (zN m) (zN (same b i j 258)) (by (exact aO (ug hs hm bx))) (Hn.last last1 0 (():Unit) rfl [] ro))))))) (fun | ⟨m,hm,hi2,hs,_⟩=>by kernel_rfl) ⟨(0),om,om,(by (simp only [NK,Mb,Oj]; done)),⟨⟩⟩ [] ro (b5 (fun | ()=>(.s 2 (.out [] [] (zN (same b i j 258)) [] R (ok _ _ wr wr)))))))) (by kernel_rfl)
theorem Kz (b:List UInt8) (n i j:Nat) (hn:n = b.length) (hN:n ≤ 1000000) (hi:i ≤ n) (hj:j < i):SpecH false Tryz.prog 128 [.sl false n 1 (b.map dB),iD i,iD j] [] (iD (same b i j 258:Nat)) []:=by
 refine SpecH.run T_ok ai Tryz.func128 rfl rfl rfl trivial rfl 1000 64 (fun R ok=>(.s 2 (Hn.inl T_ok ai false 36 0 (ay Tryz.prog 128 0) (fun (x:(m:Nat) ×' (hm:m ≤ 258) ×' (hi2:i + m ≤ n) ×' (hs:same b i j 258 = m + same b (i + m) (j + m) (258 - m)) ×' Unit)=>match x with | ⟨m,hm,hi2,hs,_⟩=>CutS.mk [(0,D.sl false n 1 (map dB b)),(1,zN i),(2,zN j),(7,iD (m:Nat))] [] 0) (fun (x:(m:Nat) ×' (hm:m ≤ 258) ×' (hi2:i + m ≤ n) ×' (hs:same b i j 258 = m + same b (i + m) (j + m) (258 - m)) ×' Unit)=>match x with | ⟨m,hm,hi2,hs,_⟩=>258 - m) [⟨Unit,.exit 0,fun x=>match x with | ()=>CutS.mk [(0,D.sl false n 1 (map dB b)),(1,zN i),(2,zN j),(7,iD (same b i j 258:Nat))] [] 0⟩] 1000 64 (fun | ⟨m,hm,hi2,hs,_⟩,Q,next1,last1=>(.s 6 (.br (decide ((m:Int) < 258)) (fun p0=>have p0f:=aU p0; (.s 5 (.ow ((i:Int) + (m:Int)) (.s 10 (.br (decide ((i:Int) + (m:Int) < (n:Int))) (fun p1=>have p1f:=aU p1; (.s 7 (.ow ((j:Int) + (m:Int)) (.s 2 (.chk (true && decide ((j:Int) + (m:Int) < (n:Int)) && true) z0 (.s 3 (.opt ((map dB b)[uM ((j:Int) + (m:Int)) * 1]?) (dB (getD b (uM ((j:Int) + (m:Int)) * 1) jd)) (au _ _ om) (.s 9 (.ow ((i:Int) + (m:Int)) (.s 2 (.chk (true && decide ((i:Int) + (m:Int) < (n:Int)) && true) z0 (.s 3 (.opt ((map dB b)[uM ((i:Int) + (m:Int)) * 1]?) (dB (getD b (uM ((i:Int) + (m:Int)) * 1) jd)) (au _ _ om) (.s 4 (.br ((↑(LG (getD b (uM ((j:Int) + (m:Int)) * 1) jd)):Int) == (↑(LG (getD b (uM ((i:Int) + (m:Int)) * 1) jd)):Int)) (fun p2=>have p2f:=eq_of_beq p2; (.s 3 (.ow ((m:Int) + 1) (.s 1 (.val 7 (zI ((m:Int) + 1)) (zN (m + 1)) (by (simp; done)) (Hn.next next1 ⟨(m + 1),om,om,(by (exact rY hs (by (omega)) (by (omega)) bx)),⟨⟩⟩ (by show 258 - (m + 1) < 258 - m; clear next1 last1; omega) [] ro)))))) (fun p2=>have p2f:=ar p2; (.val 7 (zN m) (zN (same b i j 258)) (by (exact aO (xT hs bx))) (Hn.last last1 0 (():Unit) rfl [] ro)))))))))))))))))) (fun p1=>have p1f:=aV p1; (.s 26 (.val 7 (zN m) (zN (same b i j 258)) (by (exact aO (ue hs hn bx))) (Hn.last last1 0 (():Unit) rfl [] ro))))))))) (fun p0=>have p0f:=aV p0; (.s 40 (.val 7 (zN m) (zN (same b i j 258)) (by (exact aO (ug hs hm bx))) (Hn.last last1 0 (():Unit) rfl [] ro))))))) (fun | ⟨m,hm,hi2,hs,_⟩=>by kernel_rfl) ⟨(0),om,om,(by (simp only [NK,Mb,Oj]; done)),⟨⟩⟩ [] ro (b5 (fun | ()=>(.s 2 (.out [] [] (zN (same b i j 258)) [] R (ok _ _ wr wr)))))))) (by kernel_rfl)
theorem longX (b:List UInt8) (n:Nat) (x y:Int) (hn:n = b.length) (hN:n ≤ 1000000) (hx:x ≤ n) (hy:0 ≤ y) (hxy:y < x):SpecH false Tryz.prog 155 [.sl false n 1 (b.map dB),iD x,iD y] [] (iD (same b x.toNat y.toNat 258:Nat)) []:=by
 obtain ⟨i,rfl⟩:=MD (show 0 ≤ x by omega)
 obtain ⟨j,rfl⟩:=MD hy
 exact long b n i j hn hN (by omega) (by omega)
theorem SameX (b:List UInt8) (n:Nat) (x y:Int) (hn:n = b.length) (hN:n ≤ 1000000) (hx:x ≤ n) (hy:0 ≤ y) (hxy:y < x):SpecH false Tryz.prog 128 [.sl false n 1 (b.map dB),iD x,iD y] [] (iD (same b x.toNat y.toNat 258:Nat)) []:=by
 obtain ⟨i,rfl⟩:=MD (show 0 ≤ x by omega)
 obtain ⟨j,rfl⟩:=MD hy
 exact Kz b n i j hn hN (by omega) (by omega)
end Vm
end Go.Proofs.YtefjnofhgkjpmaaGreat

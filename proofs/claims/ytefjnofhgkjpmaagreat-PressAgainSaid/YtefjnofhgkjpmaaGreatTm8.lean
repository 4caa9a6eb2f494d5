/- Part 8. -/
import Derived.Test.YtefjnofhgkjpmaaGreatTm7
import Derived.Test.YtefjnofhgkjpmaaGreatTm5
import Derived.Test.YtefjnofhgkjpmaaGreatTm6
set_option linter.unusedVariables false
set_option linter.unusedSimpArgs false
set_option maxRecDepth 100000
set_option maxHeartbeats 4000000
namespace Go.Proofs.YtefjnofhgkjpmaaGreat
open Go.RowKit Go.Bw Go.Vx
open List (length getD map take drop flatMap replicate)
namespace Vp
theorem qE {p:Prop} (h:p:=by repeat' first | exact (fun _=>qF _ _ _) | exact trivial | exact rfl | exact (fun _=>aR _) | exact (fun _=>by assumption) | exact (fun _=>bS _ (fun _=>rfl) _) | exact (fun _=>da (fun _=>rfl) _) | (intro h; cases h; done) | (intro _; rfl) | (intro _; exact cG _ (bS _ (fun _=>rfl) _)) | exact jj _ (bS _ (fun _=>rfl) _) | refine And.intro ?_ ?_ | refine fQ ?_ ?_ | (intro _; refine cW ?_ ?_) | refine cW ?_ ?_ | (intro _; refine gr ?_ ?_) | exact cG _ (bS _ (fun _=>rfl) _) | exact bS _ (fun _=>rfl) _):p:=h
theorem Fh {p:Prop} (h:p:=by (refine aO ?_; (omega))):p:=h
theorem Fi {p:Prop} (h:p:=by ( have z:=hT.i.nextk om (((k:Int) - 1).toNat) om; have z2:=hT.l; have z3:=cm ws (((k:Int) - 1).toNat); have z4:(take n (aq ws ((k:Int) - 1).toNat)).length = n:=List.length_take_of_le z.1; omega)):p:=h
theorem H7 {p:Prop} (h:p:=by ( have z:=hT.i.nextk om (((k:Int) - 1).toNat) om; have z2:=hT.l; have z3:=cm ws (((k:Int) - 1).toNat); have z4:(take n (aq ws ((k:Int) - 1).toNat)).length = n:=List.length_take_of_le z.1; simp [aL,cn,aX]; omega)):p:=h
theorem Lu {p:Prop} (h:p:=by (rw [iX]; simp only [Bool.true_and]; refine Nat.ble_eq_true_of_le ?_; (omega))):p:=h
theorem Lv {p:Prop} (h:p:=by show n - (j + 1) < n - j; clear next2 last2 next1 last1; omega):p:=h
theorem Lw {p:Prop} (h:p:=by (refine decide_eq_true ?_;  have z:=hT.i.nextk om (((k:Int) - 1).toNat) om; have z2:=hT.l; have z3:=cm ws (((k:Int) - 1).toNat); have z4:(take n (aq ws ((k:Int) - 1).toNat)).length = n:=List.length_take_of_le z.1; have h9:=hA.at (t:=0 + j * 1) om; have h8:=cz o S j; omega)):p:=h
theorem oK (W:List Nat) (L:Nat) (hL:L = W.length) (hL2:L ≤ 320) (hB:∀ t,W.getD t default ≤ 1073741824) (m:Nat) (hm:1 ≤ m ∧ m ≤ 15) (S:List Nat) (hS:eQ W = S) (N:Nat) (hN:N = S.length) (hNm:N ≤ 2 ^ m):SpecH false Tryz.prog 144 [.sl false L 1 (W.map nD),nD m] [] (.tup [.ref 0 0 0 N 1,iD 0]) [⟨S.map nD, 3, true⟩]:=by
 subst hS
 have hp:=(dL W).length_eq
 have hN2:N = (eu W L).length:=by rw [hN,hp,hL]
 obtain ⟨T1,hE⟩:=EF hL (X:=eu W L) rfl hN2
 exact zZ W L hL hL2 hB m hm N hN2 _ T1 rfl hE hNm hE.o hE.t1 hE.o1 hE.t
abbrev Ab (T:List Pc):D:=.sl false T.length 2 (T.flatMap cy)
theorem xF (T:List Pc):(T.flatMap cy).length = T.length * 2:=by rw [bm (k:=2) (fun _=>rfl)]
theorem H8 (ws:List Nat) (n:Nat) (hn:n = ws.length) (hn2:n ≤ 320) (hB:∀ w ∈ ws,w ≤ 1073741824) (j:Nat) (hj:j ≤ 14) (r:Nat) (hr:r = (aq ws j).length):SpecH false Tryz.prog 145 [.sl false r 2 ((aq ws j).flatMap cy),.sl false n 1 (ws.map nD)] [] (Ab (aq ws (j + 1))) []:=by
 have h:=cm ws j
 refine SpecH.frz (HY (aq ws j) r hr (by omega) 100000000000000 (by decide) (z9 hB (by omega)) ws n hn (by omega) (aq ws (j + 1)) (lP ws j)) (xF _) (by decide) (da (fun _=>rfl) _)
theorem H9 (ws:List Nat) (n:Nat) (hn:n = ws.length) (hn2:n ≤ 320):SpecH false Tryz.prog 145 [ar,.sl false n 1 (ws.map nD)] [] (Ab (aq ws 0)) [] :=
 SpecH.frz (HZ ws n hn (by omega) _ (oI ws)) (xF _) (by decide) (da (fun _=>rfl) _)
def gE (ws:List Nat) (k m:Nat):List D:=lk ws ((List.range m).map fun j=>if j < k then Ab (aq ws j) else ar)
theorem se (ws:List Nat) (k m:Nat):gE ws k m = (List.range m).map fun j=>if j < k then Ab (aq ws j) else ar:=aF _ _
theorem iX (ws:List Nat) (k m:Nat):(gE ws k m).length = m:=by rw [se,List.length_map,List.length_range]
theorem qF (ws:List Nat) (k m:Nat):ab (gE ws k m) = true:=by
 rw [bg,se]
 intro d hd
 obtain ⟨j,_,rfl⟩:=List.mem_map.1 hd
 split <;> rfl
theorem tS {ws:List Nat} {k m j:Nat} (hj:j < m):(gE ws k m)[j]? = some (if j < k then Ab (aq ws j) else ar):=by
 rw [se,List.getElem?_map,List.getElem?_range hj]; rfl
theorem xG (ws:List Nat) {k m j:Nat} (h:j < k) (hj:j < m):(gE ws k m)[0 + j * 1]? = some (Ab (aq ws j)):=by
 rw [Nat.zero_add,Nat.mul_one,tS hj,if_pos h]
theorem xH {ws:List Nat} {k m o i:Nat} (hk:k < m) (ho:o = k) (hi:i = k):ai (gE ws k m) o [Ab (aq ws i)] = gE ws (k + 1) m:=by
 subst o i
 apply List.ext_getElem?
 intro t
 rw [cq (by rw [iX]; simp only [List.length_singleton]; omega)]
 simp only [List.length_singleton]
 rcases Nat.lt_or_ge t m with q | q
 ·rw [tS q,tS q]
  by_cases e:t = k
  ·subst e; rw [if_pos (by omega),Nat.sub_self,if_pos (by omega)]; rfl
  ·rw [if_neg (by omega)]
   by_cases z:t < k
   ·rw [if_pos z,if_pos (by omega)]
   ·rw [if_neg z,if_neg (by omega)]
 ·rw [if_neg (by omega),List.getElem?_eq_none (by rw [iX]; exact q),List.getElem?_eq_none (by rw [iX]; exact q)]
theorem Kv (ws:List Nat) (m:Nat):List.replicate m ar = gE ws 0 m:=by
 apply List.ext_getElem?
 intro t
 rw [List.getElem?_replicate]
 rcases Nat.lt_or_ge t m with q | q
 ·rw [if_pos q,tS q,if_neg (Nat.not_lt_zero t)]
 ·rw [if_neg (by omega),List.getElem?_eq_none (by rw [iX]; exact q)]
theorem CP (d:D) (m:Nat):cD [d] (m * 1) = List.replicate m d:=by
 rw [Nat.mul_one]
 apply List.ext_getElem?
 intro i
 unfold cD
 rw [List.getElem?_map,List.getElem?_replicate]
 rcases Nat.lt_or_ge i m with q | q
 ·rw [List.getElem?_range q,if_pos q]
  show some (List.getD [d] (i % 1) default) = _
  rw [Nat.mod_one]; rfl
 ·rw [List.getElem?_eq_none (by simpa using q),if_neg (by omega)]; rfl
theorem CQ {t:TypeId} {a b:Int} (h:a = b):(⟨[D.v (.int .i64 a)],t,false⟩:Blk) = ⟨[D.v (.int .i64 b)],t,false⟩:=by rw [h]
theorem tT (L:Nat):cD [D.v (.int .u8 0)] (L * 1) = (List.replicate L (0:UInt8)).map dB:=by rw [CP,List.map_replicate]; rfl
theorem LnI.nextk {ws:List Nat} {k n:Nat} (h:LnI ws k n) (hk:0 < k) (i:Nat) (hi:i = k - 1):n ≤ (aq ws i).length ∧ cJ (aq ws i) n ≤ n ∧ n - cJ (aq ws i) n ≤ ws.length:=by
 subst hi
 have q:=LnI.next (k:=k - 1) (n:=n) (by rw [show k - 1 + 1 = k from by omega]; exact h)
 exact ⟨q.1,q.2.1,q.2.2.1⟩
structure LnT (ws S:List Nat) (L k n:Nat) (o T:List UInt8):Prop where
 i:LnI ws k n
 l:o.length = L
 r:Aa ws S k n o = T
theorem LnT.next {ws S:List Nat} {L k n:Nat} {o T:List UInt8} (h:LnT ws S L k n o T) (hk:0 < k):LnT ws S L (k - 1) (2 * cJ (aq ws (k - 1)) n) (cg o S (n - cJ (aq ws (k - 1)) n)) T:=by
 obtain ⟨j,rfl⟩:∃ j,k = j + 1:=⟨k - 1,by omega⟩
 exact ⟨(LnI.next h.i).2.2.2,by rw [cz]; exact h.l,h.r⟩
theorem LnT.next' {ws S:List Nat} {L k n:Nat} {o T:List UInt8} (h:LnT ws S L k n o T) (hk:0 < k) (i:Nat) (hi:i = k - 1):LnT ws S L (k - 1) (2 * cJ (aq ws i) n) (cg o S (n - cJ (aq ws i) n)) T:=by
 subst hi; exact h.next hk
theorem CS {l:List Pc} {n j:Nat} (h:j < n):(l.take n).getD j default = l.getD j default:=by
 rw [List.getD_eq_getElem?_getD,List.getD_eq_getElem?_getD,List.getElem?_take,if_pos h]
theorem Ia {row:List Pc} {n j:Nat} (hj:j < n) (hn:n ≤ row.length) (h:((row.take n).getD j default).p = true):cJ row (j + 1) = cJ row j + 1:=by
 rw [CS hj] at h; rw [CK (by omega),h]; rfl
theorem Ib {row:List Pc} {n j:Nat} (hj:j < n) (hn:n ≤ row.length) (h:((row.take n).getD j default).p = false):cJ row (j + 1) = cJ row j:=by
 rw [CS hj] at h; rw [CK (by omega),h]; rfl
theorem gF {n N:Nat} {x:Int} (h:x = n) (h2:n ≤ N):(aL none (some x) none N && true) = true:=by
 subst h; simp [aL,cn,aX]; omega
theorem Ic {o:List UInt8} {S:List Nat} {j a i:Nat} (hj:j < S.length) (ha:a = S.getD j default) (hi:i = S.getD j default) (hl:S.getD j default < o.length):ai ((cg o S j).map dB) a [D.v (.int .u8 ((((((cg o S j).getD i default).toNat:Nat):Int) + 1) % 256))] = (cg o S (j + 1)).map dB:=by
 subst ha hi
 have e:(((((cg o S j).getD (S.getD j default) default).toNat:Nat):Int) + 1) % 256 = ((((cg o S j).getD (S.getD j default) default + 1).toNat:Nat):Int):=by
  rw [UInt8.toNat_add]; show _ = (((_ + 1) % 256:Nat):Int); omega
 rw [e,sd hj]
 generalize (cg o S j).getD (S.getD j default) default + 1 = v
 apply List.ext_getElem?
 intro t
 rw [cq (by simp only [List.length_map,List.length_singleton,cz]; omega),List.getElem?_map,List.getElem?_map,List.getElem?_set,cz]
 simp only [List.length_singleton]
 by_cases q:S.getD j default = t
 ·rw [← q,if_pos (by omega),if_pos rfl,if_pos hl,Nat.sub_self]; rfl
 ·rw [if_neg (by omega),if_neg q]
theorem LnT.last {ws S:List Nat} {L k n:Nat} {o T:List UInt8} (h:LnT ws S L k n o T) (hk:k = 0):o = T:=by subst hk; exact h.r
theorem Id (W:List Nat) (L:Nat) (hL:L = W.length) (hL2:L ≤ 320) (hB:∀ t,W.getD t default ≤ 1073741824) (m:Nat) (hm:1 ≤ m ∧ m ≤ 15) (S:List Nat) (hS:eQ W = S) (N:Nat) (hN:N = S.length) (hNm:N ≤ 2 ^ m) (hA:bu L S) (hN3:N ≤ 320) (h2:2 ≤ N) (ws:List Nat) (hw:oG W S N = ws) (hwl:ws.length = N) (hwb:∀ w ∈ ws,w ≤ 1073741824) (T:List UInt8) (hI:LnT ws S L m (2 * N - 2) (List.replicate L 0) T):SpecH false Tryz.prog 108 [.sl false L 1 (W.map nD),nD m] [] (.tup [.ref 0 0 0 L 1,iD 0]) [⟨T.map dB, 5, true⟩]:=by
 have hcl0:=qF ws 0 m
 have hclm:=qF ws m m
 refine SpecH.run T_ok ah Tryz.func108 rfl rfl rfl ⟨aV _,trivial⟩ rfl 1000 64 (fun R ok=>(.s 5 (.cl 144 false [] (.fn DV (@oK (W) (L) om om om (m) om (S) bt (N) bt om)) (.s 18 (.chk (true && decide ((↑L:Int) ≤ (↑L:Int)) && true && true && true && true && decide ((↑(TI.bytes zv):Int) * (↑L:Int) ≤ 140737488355328)) (by (have h9:((zv.bytes:Nat):Int) = 1:=rfl; rw [h9]; simp; omega)) (.s 11 (.f ((↑N:Int) == 1) (by (refine decide_eq_false ?_; (omega))) (.s 6 (.f (decide ((↑N:Int) < 2)) (by (refine decide_eq_false ?_; (omega))) (.s 6 (.nils 9 224 1 3 (.blk 120 120 (Blk.mk (cD [bI 0] (L * 1)) 5 true) (Blk.mk (map dB (replicate L 0)) 5 true) (by (refine aC ?_; rw [tT])) (.blk 224 224 (Blk.mk [] 3 true) (Blk.mk (map nD (oG W S 0)) 3 true) (by (rw [H1]; rfl)) (Hn.inl T_ok ah false 126 0 (aA Tryz.prog 108 0) (fun (x:(k:Nat) ×' (hk:k ≤ N) ×' Unit)=>match x with | ⟨k,hk,_⟩=>CutS.mk [(0,D.sl false L 1 (map nD W)),(1,nD m),(4,ar),(5,iD 0),(6,D.ptr 8 8 0),(8,D.ptr 24 24 0),(9,(D.ref 32 32 (0) (k) 1)),(46,D.ref 0 0 0 N 1),(47,nD N),(48,nD k)] [⟨0,0,32,32,.b ⟨map nD S,3,true⟩⟩,⟨8,8,64,64,.b ⟨[D.ref 0 0 0 N 1],152,false⟩⟩,⟨16,16,120,120,.b ⟨(replicate L (0:UInt8)).map dB,5,true⟩⟩,⟨24,24,128,128,.b ⟨[D.ref 16 16 0 L 1],24,false⟩⟩,⟨32,32,224,224,.b ⟨(oG W S k).map nD,3,true⟩⟩] 40) (fun (x:(k:Nat) ×' (hk:k ≤ N) ×' Unit)=>match x with | ⟨k,hk,_⟩=>N - k) [⟨Unit,.exit 0,fun x=>match x with | ()=>CutS.mk [(0,D.sl false L 1 (map nD W)),(1,nD m),(4,ar),(5,iD 0),(6,D.ptr 8 8 0),(8,D.ptr 24 24 0),(9,(D.ref 32 32 (0) (N) 1)),(46,D.ref 0 0 0 N 1),(47,nD N)] [⟨0,0,32,32,.b ⟨map nD S,3,true⟩⟩,⟨8,8,64,64,.b ⟨[D.ref 0 0 0 N 1],152,false⟩⟩,⟨16,16,120,120,.b ⟨(replicate L (0:UInt8)).map dB,5,true⟩⟩,⟨24,24,128,128,.b ⟨[D.ref 16 16 0 L 1],24,false⟩⟩,⟨32,32,224,224,.b ⟨ws.map nD,3,true⟩⟩] 40⟩] 1000 64 (fun | ⟨k,hk,_⟩,Q,next1,last1=>(.s 2 (.br (decide ((↑k:Int) < (↑N:Int))) (fun p0=>have p0f:=aS p0; (.s 1 (.chk (true && decide ((↑k:Int) < (↑N:Int))) bt (.s 2 (.opt ((map nD S)[0 + k * 1]?) (nD (getD S (0 + k * 1) default)) (av _ _ om) (.s 5 (.chk (true && decide ((↑(getD S (0 + k * 1) default):Int) < (↑L:Int)) && true) (by ((refine aH ?_ ?_) <;> (repeat' (first | (refine aH ?_ ?_) | (with_reducible rfl) | (refine decide_eq_true ?_) | (refine Nat.ble_eq_true_of_le ?_) | (refine et ?_))) <;> ( have h9:=hA.at (t:=0 + k * 1) om; omega))) (.s 2 (.opt ((map nD W)[getD S (0 + k * 1) default * 1]?) (nD (getD W (getD S (0 + k * 1) default * 1) default)) (av _ _ (by ( have h9:=hA.at (t:=0 + k * 1) om; omega))) (.s 3 (.chk (true && Nat.beq (k * 1) (length (map nD (oG W S k))) && true && true && true && true && Nat.ble ((k + 1) * 8) 140737488355328) (by (rw [List.length_map,kB (by (omega))]; simp only [Nat.mul_one,Nat.beq_refl,Bool.true_and,Bool.and_true]; refine Nat.ble_eq_true_of_le ?_; (omega))) (.s 3 (.ow ((↑k:Int) + 1) (.s 1 (.val 48 (iD ((↑k:Int) + 1)) (nD (k + 1)) Fh (.blk 120 120 (Blk.mk (map nD (oG W S k) ++ [nD (getD W (getD S (0 + k * 1) default * 1) default)]) 3 true) (Blk.mk (map nD (oG W S (k + 1))) 3 true) (by ( refine aC ?_; simp only [Nat.zero_add,Nat.mul_one]; rw [H2 om,List.map_append]; rfl)) (Hn.next next1 ⟨(k + 1),om,⟨⟩⟩ (by show N - (k + 1) < N - k; clear next1 last1; omega) [(0,0),(8,8),(16,16),(24,24),(120,120)] qE))))))))))))))))) (fun p0=>have p0f:=aT p0; (.val 9 (D.ref 32 32 0 k 1) (D.ref 32 32 0 N 1) (by (simp <;> (omega))) (.blk 32 32 (Blk.mk (map nD (oG W S k)) 3 true) (Blk.mk (map nD ws) 3 true) (by ( rw [show k = N from by omega,hw])) (Hn.last last1 0 (():Unit) rfl [(0,0),(8,8),(16,16),(24,24),(32,32)] qE))))))) (fun | ⟨k,hk,_⟩=>by kernel_rfl) ⟨(0),om,⟨⟩⟩ [(32,32),(64,64),(120,120),(128,128),(224,224)] qE (cb (fun | ()=>(.s 2 (.chk (true && decide ((↑m:Int) ≤ (↑m:Int)) && true && true && true && true && decide ((↑(TI.bytes tC):Int) * (↑m:Int) ≤ 140737488355328)) (by (have h9:((tC.bytes:Nat):Int) = 24:=rfl; rw [h9]; simp; omega)) (.s 4 (.blk 48 48 (Blk.mk (cD [ar] (m * 1)) 225 true) (Blk.mk (gE ws 0 m) 225 true) (by (refine aC ?_; rw [CP,Kv])) (Hn.inl T_ok ah false 126 0 (aA Tryz.prog 108 1) (fun (x:(k:Nat) ×' (hk:k ≤ m) ×' (hcl:ab (gE ws k m) = true) ×' Unit)=>match x with | ⟨k,hk,hcl,_⟩=>CutS.mk [(4,ar),(5,iD 0),(6,D.ptr 8 8 0),(8,D.ptr 24 24 0),(9,D.ref 32 32 0 N 1),(12,D.ref 40 40 0 m 1),(63,nD m),(64,nD k)] [⟨0,0,0,0,.b ⟨map nD S,3,true⟩⟩,⟨8,8,8,8,.b ⟨[D.ref 0 0 0 N 1],152,false⟩⟩,⟨16,16,16,16,.b ⟨map dB (replicate L 0),5,true⟩⟩,⟨24,24,24,24,.b ⟨[D.ref 16 16 0 L 1],24,false⟩⟩,⟨32,32,32,32,.b ⟨map nD ws,3,true⟩⟩,⟨40,40,48,48,.b ⟨gE ws k m,225,true⟩⟩] 48) (fun (x:(k:Nat) ×' (hk:k ≤ m) ×' (hcl:ab (gE ws k m) = true) ×' Unit)=>match x with | ⟨k,hk,hcl,_⟩=>m - k) [⟨(hcl2:ab (gE ws m m) = true) ×' Unit,.exit 2,fun x=>match x with | ⟨hcl2,_⟩=>CutS.mk [(4,ar),(5,iD 0),(6,D.ptr 8 8 0),(8,D.ptr 24 24 0),(9,D.ref 32 32 0 N 1),(12,D.ref 40 40 0 m 1),(63,nD m)] [⟨0,0,0,0,.b ⟨map nD S,3,true⟩⟩,⟨8,8,8,8,.b ⟨[D.ref 0 0 0 N 1],152,false⟩⟩,⟨16,16,16,16,.b ⟨map dB (replicate L 0),5,true⟩⟩,⟨24,24,24,24,.b ⟨[D.ref 16 16 0 L 1],24,false⟩⟩,⟨32,32,32,32,.b ⟨map nD ws,3,true⟩⟩,⟨40,40,48,48,.b ⟨gE ws m m,225,true⟩⟩] 48⟩] 1000 64 (fun | ⟨k,hk,hcl,_⟩,Q,next1,last1=>(.s 2 (.br (decide ((↑k:Int) < (↑m:Int))) (fun p1=>have p1f:=aS p1; (.s 5 (.br (decide (0 < (↑k:Int))) (fun p2=>have p2f:=aS p2; (.s 6 (.ow ((↑k:Int) - 1) (.s 1 (.chk (decide (0 ≤ (↑k:Int) - 1) && decide ((↑k:Int) - 1 < (↑m:Int))) (by ((refine aH ?_ ?_) <;> (repeat' (first | (refine aH ?_ ?_) | (with_reducible rfl) | (refine decide_eq_true ?_) | (refine Nat.ble_eq_true_of_le ?_) | (refine et ?_))) <;> (omega))) (.s 2 (.opt ((gE ws k m)[0 + Int.toNat ((↑k:Int) - 1) * 1]?) (Ab (aq ws (Int.toNat ((↑k:Int) - 1)))) (@xG ws (k) (m) (Int.toNat ((↑k:Int) - 1)) om om) (.s 2 (.call 145 false [] (true && (true && (true && Nat.ble (0 + N * 1) (length (map nD ws)) && true && ab (bif true && Nat.beq (N * 1) (length (map nD ws)) then map nD ws else take (N * 1) (drop 0 (map nD ws)))) && true)) (by (simp <;> (omega))) ([D.sl false (length (aq ws (Int.toNat ((↑k:Int) - 1)))) 2 (flatMap cy (aq ws (Int.toNat ((↑k:Int) - 1)))),D.sl (Nat.ble 1 N) N 1 (bif true && Nat.beq (N * 1) (length (map nD ws)) then map nD ws else take (N * 1) (drop 0 (map nD ws)))]) _ (by exact (And.intro (D.sim.refl _) (And.intro (D.sim.slw rfl (bf (by (simp <;> (omega))) |>.trans rfl)) trivial))) (true) wr _ _ _ (CallOk.fn (aw.of Tryz.func145 rfl rfl) (@H8 (ws) (N) om om om (Int.toNat ((↑k:Int) - 1)) om (length (aq ws (Int.toNat ((↑k:Int) - 1)))) om)) (.s 1 (.chk (true && decide ((↑k:Int) < (↑m:Int))) bt (.s 1 (.chk (true && Nat.ble (0 + k * 1 + 1) (length (gE ws k m))) Lu (.lst (ai (gE ws k m) (0 + k * 1) [D.sl false (length (aq ws (Int.toNat ((↑k:Int) - 1) + 1))) 2 (flatMap cy (aq ws (Int.toNat ((↑k:Int) - 1) + 1)))]) (ai (gE ws k m) k [D.sl false (length (aq ws (Int.toNat ((↑k:Int) - 1) + 1))) 2 (flatMap cy (aq ws (Int.toNat ((↑k:Int) - 1) + 1)))]) (by (simp; done)) (.s 2 (.ow ((↑k:Int) + 1) (.s 1 (.val 64 (iD ((↑k:Int) + 1)) (nD (k + 1)) Fh (.blk 40 40 (Blk.mk (ai (gE ws k m) k [D.sl false (length (aq ws (Int.toNat ((↑k:Int) - 1) + 1))) 2 (flatMap cy (aq ws (Int.toNat ((↑k:Int) - 1) + 1)))]) 225 true) (Blk.mk (gE ws (k + 1) m) 225 true) (by ( exact aC (xH om om om))) (Hn.next next1 ⟨(k + 1),om,(by (exact qF _ _ _)),⟨⟩⟩ (by show m - (k + 1) < m - k; clear next1 last1; omega) [(0,0),(8,8),(16,16),(24,24),(32,32),(40,40)] qE)))))))))))))))))))) (fun p2=>have p2f:=aT p2; (.s 4 (.call 145 false [] (true && (true && (true && Nat.ble (0 + N * 1) (length (map nD ws)) && true && ab (bif true && Nat.beq (N * 1) (length (map nD ws)) then map nD ws else take (N * 1) (drop 0 (map nD ws)))) && true)) (by (simp;  have h9:=hA.at (t:=0 + k * 1) om; omega)) ([ar,D.sl (Nat.ble 1 N) N 1 (bif true && Nat.beq (N * 1) (length (map nD ws)) then map nD ws else take (N * 1) (drop 0 (map nD ws)))]) _ (by exact (And.intro (D.sim.refl _) (And.intro (D.sim.slw rfl (bf (by (simp;  have h9:=hA.at (t:=0 + k * 1) om; omega)) |>.trans rfl)) trivial))) (true) wr _ _ _ (CallOk.fn (aw.of Tryz.func145 rfl rfl) (@H9 (ws) (N) om om)) (.s 1 (.chk (true && decide ((↑k:Int) < (↑m:Int))) bt (.s 1 (.chk (true && Nat.ble (0 + k * 1 + 1) (length (gE ws k m))) Lu (.lst (ai (gE ws k m) (0 + k * 1) [D.sl false (length (aq ws 0)) 2 (flatMap cy (aq ws 0))]) (ai (gE ws k m) k [D.sl false (length (aq ws 0)) 2 (flatMap cy (aq ws 0))]) (by (simp; done)) (.s 2 (.ow ((↑k:Int) + 1) (.s 1 (.val 64 (iD ((↑k:Int) + 1)) (nD (k + 1)) Fh (.blk 40 40 (Blk.mk (ai (gE ws k m) k [D.sl false (length (aq ws 0)) 2 (flatMap cy (aq ws 0))]) 225 true) (Blk.mk (gE ws (k + 1) m) 225 true) (by ( exact aC (xH om om om))) (Hn.next next1 ⟨(k + 1),om,(by (exact qF _ _ _)),⟨⟩⟩ (by show m - (k + 1) < m - k; clear next1 last1; omega) [(0,0),(8,8),(16,16),(24,24),(32,32),(40,40)] qE))))))))))))))))) (fun p1=>have p1f:=aT p1; (.blk 40 40 (Blk.mk (gE ws k m) 225 true) (Blk.mk (gE ws m m) 225 true) (by ( rw [show k = m from by omega])) (Hn.last last1 0 (⟨om,⟨⟩⟩:(hcl2:ab (gE ws m m) = true) ×' Unit) rfl [(0,0),(8,8),(16,16),(24,24),(32,32),(40,40)] qE)))))) (fun | ⟨k,hk,hcl,_⟩=>by kernel_rfl) ⟨(0),om,om,⟨⟩⟩ [(0,0),(8,8),(16,16),(24,24),(32,32),(48,48)] qE (cb (fun | ⟨hcl2,_⟩=>(.s 6 (.ow (2 * (↑N:Int)) (.s 2 (.ow (2 * (↑N:Int) - 2) (.s 19 (.ow ((↑m:Int) - 1) (.s 1 (.blk 80 80 (Blk.mk [iD (2 * (↑N:Int) - 2)] 3 false) (Blk.mk [nD (2 * N - 2)] 3 false) (by ( exact CQ om)) (Hn.inl T_ok ah false 19 168 (aA Tryz.prog 177 0) (fun (x:(k:Nat) ×' (n:Nat) ×' (o:List UInt8) ×' (hk:k ≤ m) ×' (hT:LnT ws S L k n o T) ×' Unit)=>match x with | ⟨k,n,o,hk,hT,_⟩=>CutS.mk [(0,D.yl 160 160),(1,D.ptr 112 112 0),(3,iD ((k:Int) - 1))] [⟨0,0,0,0,.b ⟨map nD S,3,true⟩⟩,⟨8,8,8,8,.b ⟨[D.ref 0 0 0 N 1],152,false⟩⟩,⟨16,16,16,16,.b ⟨o.map dB,5,true⟩⟩,⟨24,24,24,24,.b ⟨[D.ref 16 16 0 L 1],24,false⟩⟩,⟨32,32,32,32,.b ⟨map nD ws,3,true⟩⟩,⟨40,40,40,40,.b ⟨gE ws m m,225,true⟩⟩,⟨80,80,80,80,.b ⟨[nD n],3,false⟩⟩,⟨112,112,112,112,.b ⟨[D.ref 40 40 0 m 1],224,false⟩⟩,⟨160,160,160,160,.l LoopState.ready none (rangeAt Tryz.prog 108 0).1 (rangeAt Tryz.prog 108 0).2.1 (rangeAt Tryz.prog 108 0).2.2 126 [(63,nD m),(87,iD (2 * (↑N:Int))),(5,iD 0),(9,D.ref 32 32 0 N 1),(89,D.ref 40 40 0 m 1),(85,D.ref 0 0 0 N 1),(4,ar),(8,D.ptr 24 24 0),(88,iD (2 * (↑N:Int) - 2)),(12,D.ref 40 40 0 m 1),(6,D.ptr 8 8 0),(90,D.fn (Fn.func 177) [] [D.ptr 112 112 0]),(14,D.ptr 80 80 0),(86,nD N)]⟩] 240) (fun (x:(k:Nat) ×' (n:Nat) ×' (o:List UInt8) ×' (hk:k ≤ m) ×' (hT:LnT ws S L k n o T) ×' Unit)=>match x with | ⟨k,n,o,hk,hT,_⟩=>k) [⟨(n2:Nat) ×' Unit,.exit 0,fun x=>match x with | ⟨n2,_⟩=>CutS.mk [(0,D.yl 160 160),(1,D.ptr 112 112 0)] [⟨0,0,0,0,.b ⟨map nD S,3,true⟩⟩,⟨8,8,8,8,.b ⟨[D.ref 0 0 0 N 1],152,false⟩⟩,⟨16,16,16,16,.b ⟨T.map dB,5,true⟩⟩,⟨24,24,24,24,.b ⟨[D.ref 16 16 0 L 1],24,false⟩⟩,⟨32,32,32,32,.b ⟨map nD ws,3,true⟩⟩,⟨40,40,40,40,.b ⟨gE ws m m,225,true⟩⟩,⟨80,80,80,80,.b ⟨[nD n2],3,false⟩⟩,⟨112,112,112,112,.b ⟨[D.ref 40 40 0 m 1],224,false⟩⟩,⟨160,160,160,160,.l LoopState.ready none (rangeAt Tryz.prog 108 0).1 (rangeAt Tryz.prog 108 0).2.1 (rangeAt Tryz.prog 108 0).2.2 126 [(63,nD m),(87,iD (2 * (↑N:Int))),(5,iD 0),(9,D.ref 32 32 0 N 1),(89,D.ref 40 40 0 m 1),(85,D.ref 0 0 0 N 1),(4,ar),(8,D.ptr 24 24 0),(88,iD (2 * (↑N:Int) - 2)),(12,D.ref 40 40 0 m 1),(6,D.ptr 8 8 0),(90,D.fn (Fn.func 177) [] [D.ptr 112 112 0]),(14,D.ptr 80 80 0),(86,nD N)]⟩] 240⟩] 1000 64 (fun | ⟨k,n,o,hk,hT,_⟩,Q,next1,last1=>(.s 3 (.br (decide (0 ≤ (↑k:Int) - 1)) (fun p3=>have p3f:=aS p3; (.s 7 (.chk (decide (0 ≤ (↑k:Int) - 1) && decide ((↑k:Int) - 1 < (↑m:Int))) H7 (.s 2 (.opt ((gE ws m m)[0 + Int.toNat ((↑k:Int) - 1) * 1]?) (Ab (aq ws (Int.toNat ((↑k:Int) - 1)))) (@xG ws (m) (m) (Int.toNat ((↑k:Int) - 1)) om om) (.s 8 (.chk (aL none (some (↑n:Int)) none (length (aq ws (Int.toNat ((↑k:Int) - 1)))) && true) (by ( have z:=hT.i.nextk om (((k:Int) - 1).toNat) om; have z2:=hT.l; have z3:=cm ws (((k:Int) - 1).toNat); have z4:(take n (aq ws ((k:Int) - 1).toNat)).length = n:=List.length_take_of_le z.1; exact gF rfl om)) (.s 2 (.val 17 (iD 0) (nD (cJ (aq ws (Int.toNat ((↑k:Int) - 1))) 0)) (by (rw [H6]; rfl)) (.val 95 (D.sl false n 2 (take (n * 2) (flatMap cy (aq ws (Int.toNat ((↑k:Int) - 1)))))) (D.sl false n 2 (flatMap cy (take n (aq ws (Int.toNat ((↑k:Int) - 1)))))) (by (refine congrArg (D.sl false n 2) ?_; refine tA ?_ _ _; exact fun _=>rfl)) (Hn.inl T_ok ah true 126 312 (aA Tryz.prog 108 2) (fun (x:(j:Nat) ×' (hj:j ≤ n) ×' Unit)=>match x with | ⟨j,hj,_⟩=>CutS.mk [(4,ar),(5,iD 0),(6,D.ptr 8 8 0),(8,D.ptr 24 24 0),(14,D.ptr 80 80 0),(16,D.sl false (length (aq ws (Int.toNat ((↑k:Int) - 1)))) 2 (flatMap cy (aq ws (Int.toNat ((↑k:Int) - 1))))),(17,nD (cJ (aq ws ((k:Int) - 1).toNat) j)),(90,D.fn (Fn.func 177) [] [D.ptr 112 112 0]),(92,D.sl false (length (aq ws (Int.toNat ((↑k:Int) - 1)))) 2 (flatMap cy (aq ws (Int.toNat ((↑k:Int) - 1))))),(93,D.sl false (length (aq ws (Int.toNat ((↑k:Int) - 1)))) 2 (flatMap cy (aq ws (Int.toNat ((↑k:Int) - 1))))),(94,nD n),(95,.sl false n 2 ((take n (aq ws ((k:Int) - 1).toNat)).flatMap cy)),(96,nD n),(97,nD j)] [⟨0,0,0,0,.b ⟨map nD S,3,true⟩⟩,⟨8,8,8,8,.b ⟨[D.ref 0 0 0 N 1],152,false⟩⟩,⟨16,16,16,16,.b ⟨map dB o,5,true⟩⟩,⟨24,24,24,24,.b ⟨[D.ref 16 16 0 L 1],24,false⟩⟩,⟨32,32,32,32,.b ⟨map nD ws,3,true⟩⟩,⟨40,40,40,40,.b ⟨gE ws m m,225,true⟩⟩,⟨80,80,80,80,.b ⟨[nD n],3,false⟩⟩,⟨112,112,112,112,.b ⟨[D.ref 40 40 0 m 1],224,false⟩⟩,⟨160,160,160,160,.l LoopState.busy none (rangeAt Tryz.prog 108 0).1 (rangeAt Tryz.prog 108 0).2.1 (rangeAt Tryz.prog 108 0).2.2 126 [(63,nD m),(87,iD (2 * (↑N:Int))),(5,iD 0),(9,D.ref 32 32 0 N 1),(89,D.ref 40 40 0 m 1),(85,D.ref 0 0 0 N 1),(4,ar),(8,D.ptr 24 24 0),(88,iD (2 * (↑N:Int) - 2)),(12,D.ref 40 40 0 m 1),(6,D.ptr 8 8 0),(90,D.fn (Fn.func 177) [] [D.ptr 112 112 0]),(14,D.ptr 80 80 0),(86,nD N)]⟩] 384) (fun (x:(j:Nat) ×' (hj:j ≤ n) ×' Unit)=>match x with | ⟨j,hj,_⟩=>n - j) [⟨Unit,.exit 6,fun x=>match x with | ()=>CutS.mk [(4,ar),(5,iD 0),(6,D.ptr 8 8 0),(8,D.ptr 24 24 0),(14,D.ptr 80 80 0),(16,D.sl false (length (aq ws (Int.toNat ((↑k:Int) - 1)))) 2 (flatMap cy (aq ws (Int.toNat ((↑k:Int) - 1))))),(17,nD (cJ (aq ws ((k:Int) - 1).toNat) n)),(90,D.fn (Fn.func 177) [] [D.ptr 112 112 0]),(92,D.sl false (length (aq ws (Int.toNat ((↑k:Int) - 1)))) 2 (flatMap cy (aq ws (Int.toNat ((↑k:Int) - 1))))),(93,D.sl false (length (aq ws (Int.toNat ((↑k:Int) - 1)))) 2 (flatMap cy (aq ws (Int.toNat ((↑k:Int) - 1))))),(94,nD n),(96,nD n),(97,nD n)] [⟨0,0,0,0,.b ⟨map nD S,3,true⟩⟩,⟨8,8,8,8,.b ⟨[D.ref 0 0 0 N 1],152,false⟩⟩,⟨16,16,16,16,.b ⟨map dB o,5,true⟩⟩,⟨24,24,24,24,.b ⟨[D.ref 16 16 0 L 1],24,false⟩⟩,⟨32,32,32,32,.b ⟨map nD ws,3,true⟩⟩,⟨40,40,40,40,.b ⟨gE ws m m,225,true⟩⟩,⟨80,80,80,80,.b ⟨[nD n],3,false⟩⟩,⟨112,112,112,112,.b ⟨[D.ref 40 40 0 m 1],224,false⟩⟩,⟨160,160,160,160,.l LoopState.busy none (rangeAt Tryz.prog 108 0).1 (rangeAt Tryz.prog 108 0).2.1 (rangeAt Tryz.prog 108 0).2.2 126 [(63,nD m),(87,iD (2 * (↑N:Int))),(5,iD 0),(9,D.ref 32 32 0 N 1),(89,D.ref 40 40 0 m 1),(85,D.ref 0 0 0 N 1),(4,ar),(8,D.ptr 24 24 0),(88,iD (2 * (↑N:Int) - 2)),(12,D.ref 40 40 0 m 1),(6,D.ptr 8 8 0),(90,D.fn (Fn.func 177) [] [D.ptr 112 112 0]),(14,D.ptr 80 80 0),(86,nD N)]⟩] 384⟩] 1000 64 (fun | ⟨j,hj,_⟩,Q,next2,last2=>(.s 2 (.br (decide ((↑j:Int) < (↑n:Int))) (fun p4=>have p4f:=aS p4; (.s 1 (.chk (true && decide ((↑j:Int) < (↑n:Int)) && true) H7 (.s 2 (.chk (Nat.ble (j * 2 + 2) (length (flatMap cy (take n (aq ws (Int.toNat ((↑k:Int) - 1))))))) (by (rw [bm (k:=2) (fun (x:Pc)=>(rfl:(cy x).length = 2)),List.length_take]; refine Nat.ble_eq_true_of_le ?_;  have z:=hT.i.nextk om (((k:Int) - 1).toNat) om; have z2:=hT.l; have z3:=cm ws (((k:Int) - 1).toNat); have z4:(take n (aq ws ((k:Int) - 1).toNat)).length = n:=List.length_take_of_le z.1; omega)) (.lst (take 2 (drop (j * 2) (flatMap cy (take n (aq ws (Int.toNat ((↑k:Int) - 1))))))) ([nD (Pc.w (getD (take n (aq ws (Int.toNat ((↑k:Int) - 1)))) j default)),D.v (.bool (Pc.p (getD (take n (aq ws (Int.toNat ((↑k:Int) - 1)))) j default)))]) (aD (k:=2) (i:=j) (fun _=>rfl) Fi om) (.s 11 (.br (Pc.p (getD (take n (aq ws (Int.toNat ((↑k:Int) - 1)))) j default)) (fun p5=>(.s 3 (.op ((↑(cJ (aq ws (Int.toNat ((↑k:Int) - 1))) j):Int) + 1) (by ( have z:=hT.i.nextk om (((k:Int) - 1).toNat) om; have z2:=hT.l; have z3:=cm ws (((k:Int) - 1).toNat); have z4:(take n (aq ws ((k:Int) - 1).toNat)).length = n:=List.length_take_of_le z.1; have h7:=xz (aq ws ((k:Int) - 1).toNat) j; omega)) (.s 3 (.op ((↑j:Int) + 1) Fi (.s 1 (.val 17 (iD ((↑(cJ (aq ws (Int.toNat ((↑k:Int) - 1))) j):Int) + 1)) (nD (cJ (aq ws (Int.toNat ((↑k:Int) - 1))) (j + 1))) (by ( have z:=hT.i.nextk om (((k:Int) - 1).toNat) om; have z2:=hT.l; have z3:=cm ws (((k:Int) - 1).toNat); have z4:(take n (aq ws ((k:Int) - 1).toNat)).length = n:=List.length_take_of_le z.1; refine aO ?_; rw [Ia (n:=n) om z.1 bt]; omega)) (.val 97 (iD ((↑j:Int) + 1)) (nD (j + 1)) Fh (Hn.next next2 ⟨(j + 1),om,⟨⟩⟩ Lv [(0,0),(8,8),(16,16),(24,24),(32,32),(40,40),(80,80),(112,112),(160,160)] qE))))))))) (fun p5=>(.s 2 (.op ((↑j:Int) + 1) Fi (.s 1 (.val 17 (nD (cJ (aq ws (Int.toNat ((↑k:Int) - 1))) j)) (nD (cJ (aq ws (Int.toNat ((↑k:Int) - 1))) (j + 1))) (by ( have z:=hT.i.nextk om (((k:Int) - 1).toNat) om; have z2:=hT.l; have z3:=cm ws (((k:Int) - 1).toNat); have z4:(take n (aq ws ((k:Int) - 1).toNat)).length = n:=List.length_take_of_le z.1; rw [Ib (n:=n) om z.1 bt])) (.val 97 (iD ((↑j:Int) + 1)) (nD (j + 1)) Fh (Hn.next next2 ⟨(j + 1),om,⟨⟩⟩ Lv [(0,0),(8,8),(16,16),(24,24),(32,32),(40,40),(80,80),(112,112),(160,160)] qE))))))))))))))) (fun p4=>have p4f:=aT p4; (.val 17 (nD (cJ (aq ws (Int.toNat ((↑k:Int) - 1))) j)) (nD (cJ (aq ws (Int.toNat ((↑k:Int) - 1))) n)) (by ( rw [show j = n from by omega])) (.val 97 (nD j) (nD n) H7 (Hn.last last2 0 (():Unit) rfl [(0,0),(8,8),(16,16),(24,24),(32,32),(40,40),(80,80),(112,112),(160,160)] qE))))))) (fun | ⟨j,hj,_⟩=>by kernel_rfl) ⟨(0),om,⟨⟩⟩ [(0,0),(8,8),(16,16),(24,24),(32,32),(40,40),(80,80),(112,112),(160,160)] qE (cb (fun | ()=>(.s 9 (.op ((↑n:Int) - (↑(cJ (aq ws (Int.toNat ((↑k:Int) - 1))) n):Int)) Fi (.s 1 (.chk (aL none (some ((↑n:Int) - (↑(cJ (aq ws (Int.toNat ((↑k:Int) - 1))) n):Int))) none N && true) (by ( have z:=hT.i.nextk om (((k:Int) - 1).toNat) om; have z2:=hT.l; have z3:=cm ws (((k:Int) - 1).toNat); have z4:(take n (aq ws ((k:Int) - 1).toNat)).length = n:=List.length_take_of_le z.1; refine gF (n:=n - cJ (aq ws ((k:Int) - 1).toNat) n) ?_ ?_ <;> omega)) (.s 2 (.blk 16 16 (Blk.mk (map dB o) 5 true) (Blk.mk (map dB (cg o S 0)) 5 true) (by (rw [sc])) (Hn.inl T_ok ah true 126 312 (aA Tryz.prog 108 3) (fun (x:(j:Nat) ×' (hj:j ≤ n - cJ (aq ws ((k:Int) - 1).toNat) n) ×' Unit)=>match x with | ⟨j,hj,_⟩=>CutS.mk [(4,ar),(5,iD 0),(6,D.ptr 8 8 0),(8,D.ptr 24 24 0),(14,D.ptr 80 80 0),(16,D.sl false (length (aq ws (Int.toNat ((↑k:Int) - 1)))) 2 (flatMap cy (aq ws (Int.toNat ((↑k:Int) - 1))))),(17,nD (cJ (aq ws (Int.toNat ((↑k:Int) - 1))) n)),(90,D.fn (Fn.func 177) [] [D.ptr 112 112 0]),(92,D.sl false (length (aq ws (Int.toNat ((↑k:Int) - 1)))) 2 (flatMap cy (aq ws (Int.toNat ((↑k:Int) - 1))))),(93,D.sl false (length (aq ws (Int.toNat ((↑k:Int) - 1)))) 2 (flatMap cy (aq ws (Int.toNat ((↑k:Int) - 1))))),(94,nD n),(96,nD n),(97,nD n),(106,D.ref 0 0 0 N 1),(107,nD n),(108,nD (cJ (aq ws (Int.toNat ((↑k:Int) - 1))) n)),(109,iD ((↑n:Int) - (↑(cJ (aq ws (Int.toNat ((↑k:Int) - 1))) n):Int))),(110,D.ref 0 0 0 (Int.toNat ((↑n:Int) - (↑(cJ (aq ws (Int.toNat ((↑k:Int) - 1))) n):Int))) 1),(111,nD (Int.toNat ((↑n:Int) - (↑(cJ (aq ws (Int.toNat ((↑k:Int) - 1))) n):Int)))),(112,nD j)] [⟨0,0,0,0,.b ⟨map nD S,3,true⟩⟩,⟨8,8,8,8,.b ⟨[D.ref 0 0 0 N 1],152,false⟩⟩,⟨16,16,16,16,.b ⟨(cg o S j).map dB,5,true⟩⟩,⟨24,24,24,24,.b ⟨[D.ref 16 16 0 L 1],24,false⟩⟩,⟨32,32,32,32,.b ⟨map nD ws,3,true⟩⟩,⟨40,40,40,40,.b ⟨gE ws m m,225,true⟩⟩,⟨80,80,80,80,.b ⟨[nD n],3,false⟩⟩,⟨112,112,112,112,.b ⟨[D.ref 40 40 0 m 1],224,false⟩⟩,⟨160,160,160,160,.l LoopState.busy none (rangeAt Tryz.prog 108 0).1 (rangeAt Tryz.prog 108 0).2.1 (rangeAt Tryz.prog 108 0).2.2 126 [(63,nD m),(87,iD (2 * (↑N:Int))),(5,iD 0),(9,D.ref 32 32 0 N 1),(89,D.ref 40 40 0 m 1),(85,D.ref 0 0 0 N 1),(4,ar),(8,D.ptr 24 24 0),(88,iD (2 * (↑N:Int) - 2)),(12,D.ref 40 40 0 m 1),(6,D.ptr 8 8 0),(90,D.fn (Fn.func 177) [] [D.ptr 112 112 0]),(14,D.ptr 80 80 0),(86,nD N)]⟩] 384) (fun (x:(j:Nat) ×' (hj:j ≤ n - cJ (aq ws ((k:Int) - 1).toNat) n) ×' Unit)=>match x with | ⟨j,hj,_⟩=>n - cJ (aq ws ((k:Int) - 1).toNat) n - j) [⟨Unit,.exit 8,fun x=>match x with | ()=>CutS.mk [(4,ar),(5,iD 0),(6,D.ptr 8 8 0),(8,D.ptr 24 24 0),(14,D.ptr 80 80 0),(16,D.sl false (length (aq ws (Int.toNat ((↑k:Int) - 1)))) 2 (flatMap cy (aq ws (Int.toNat ((↑k:Int) - 1))))),(17,nD (cJ (aq ws (Int.toNat ((↑k:Int) - 1))) n)),(90,D.fn (Fn.func 177) [] [D.ptr 112 112 0]),(92,D.sl false (length (aq ws (Int.toNat ((↑k:Int) - 1)))) 2 (flatMap cy (aq ws (Int.toNat ((↑k:Int) - 1))))),(93,D.sl false (length (aq ws (Int.toNat ((↑k:Int) - 1)))) 2 (flatMap cy (aq ws (Int.toNat ((↑k:Int) - 1))))),(94,nD n),(96,nD n),(97,nD n),(106,D.ref 0 0 0 N 1),(107,nD n),(108,nD (cJ (aq ws (Int.toNat ((↑k:Int) - 1))) n)),(109,iD ((↑n:Int) - (↑(cJ (aq ws (Int.toNat ((↑k:Int) - 1))) n):Int))),(110,D.ref 0 0 0 (Int.toNat ((↑n:Int) - (↑(cJ (aq ws (Int.toNat ((↑k:Int) - 1))) n):Int))) 1),(111,nD (Int.toNat ((↑n:Int) - (↑(cJ (aq ws (Int.toNat ((↑k:Int) - 1))) n):Int))))] [⟨0,0,0,0,.b ⟨map nD S,3,true⟩⟩,⟨8,8,8,8,.b ⟨[D.ref 0 0 0 N 1],152,false⟩⟩,⟨16,16,16,16,.b ⟨(cg o S (n - cJ (aq ws ((k:Int) - 1).toNat) n)).map dB,5,true⟩⟩,⟨24,24,24,24,.b ⟨[D.ref 16 16 0 L 1],24,false⟩⟩,⟨32,32,32,32,.b ⟨map nD ws,3,true⟩⟩,⟨40,40,40,40,.b ⟨gE ws m m,225,true⟩⟩,⟨80,80,80,80,.b ⟨[nD n],3,false⟩⟩,⟨112,112,112,112,.b ⟨[D.ref 40 40 0 m 1],224,false⟩⟩,⟨160,160,160,160,.l LoopState.busy none (rangeAt Tryz.prog 108 0).1 (rangeAt Tryz.prog 108 0).2.1 (rangeAt Tryz.prog 108 0).2.2 126 [(63,nD m),(87,iD (2 * (↑N:Int))),(5,iD 0),(9,D.ref 32 32 0 N 1),(89,D.ref 40 40 0 m 1),(85,D.ref 0 0 0 N 1),(4,ar),(8,D.ptr 24 24 0),(88,iD (2 * (↑N:Int) - 2)),(12,D.ref 40 40 0 m 1),(6,D.ptr 8 8 0),(90,D.fn (Fn.func 177) [] [D.ptr 112 112 0]),(14,D.ptr 80 80 0),(86,nD N)]⟩] 384⟩] 1000 64 (fun | ⟨j,hj,_⟩,Q,next2,last2=>(.s 2 (.br (decide ((↑j:Int) < (↑(Int.toNat ((↑n:Int) - (↑(cJ (aq ws (Int.toNat ((↑k:Int) - 1))) n):Int))):Int))) (fun p6=>have p6f:=aS p6; (.s 1 (.chk (true && decide ((↑j:Int) < (↑(Int.toNat ((↑n:Int) - (↑(cJ (aq ws (Int.toNat ((↑k:Int) - 1))) n):Int))):Int))) bt (.s 2 (.opt ((map nD S)[0 + j * 1]?) (nD (getD S (0 + j * 1) default)) (av _ _ H7) (.s 6 (.chk (true && decide ((↑(getD S (0 + j * 1) default):Int) < (↑L:Int))) Lw (.s 2 (.opt ((map dB (cg o S j))[0 + getD S (0 + j * 1) default * 1]?) (dB (getD (cg o S j) (0 + getD S (0 + j * 1) default * 1) default)) (av _ _ (by ( have z:=hT.i.nextk om (((k:Int) - 1).toNat) om; have z2:=hT.l; have z3:=cm ws (((k:Int) - 1).toNat); have z4:(take n (aq ws ((k:Int) - 1).toNat)).length = n:=List.length_take_of_le z.1; have h9:=hA.at (t:=0 + j * 1) om; have h8:=cz o S j; omega))) (.s 2 (.opt (az .u8 ((↑(UInt8.toNat (getD (cg o S j) (0 + getD S (0 + j * 1) default * 1) default)):Int) + 1)) (bI (((↑(UInt8.toNat (getD (cg o S j) (0 + getD S (0 + j * 1) default * 1) default)):Int) + 1) % 256)) (aM _ _) (.s 1 (.chk (true && decide ((↑(getD S (0 + j * 1) default):Int) < (↑L:Int))) Lw (.s 1 (.chk (true && Nat.ble (0 + getD S (0 + j * 1) default * 1 + 1) (length (map dB (cg o S j)))) (by (rw [List.length_map];  have z:=hT.i.nextk om (((k:Int) - 1).toNat) om; have z2:=hT.l; have z3:=cm ws (((k:Int) - 1).toNat); have z4:(take n (aq ws ((k:Int) - 1).toNat)).length = n:=List.length_take_of_le z.1; have h9:=hA.at (t:=0 + j * 1) om; have h8:=cz o S j; simp only [Bool.true_and]; refine Nat.ble_eq_true_of_le ?_; omega)) (.lst (ai (map dB (cg o S j)) (0 + getD S (0 + j * 1) default * 1) [bI (((↑(UInt8.toNat (getD (cg o S j) (0 + getD S (0 + j * 1) default * 1) default)):Int) + 1) % 256)]) (ai (map dB (cg o S j)) (getD S j default) [bI (((↑(UInt8.toNat (getD (cg o S j) (getD S j default) default)):Int) + 1) % 256)]) (by (simp; done)) (.s 2 (.op ((↑j:Int) + 1) Fi (.s 1 (.val 112 (iD ((↑j:Int) + 1)) (nD (j + 1)) Fh (.blk 16 16 (Blk.mk (ai (map dB (cg o S j)) (getD S j default) [bI (((↑(UInt8.toNat (getD (cg o S j) (getD S j default) default)):Int) + 1) % 256)]) 5 true) (Blk.mk (map dB (cg o S (j + 1))) 5 true) (by ( have z:=hT.i.nextk om (((k:Int) - 1).toNat) om; have z2:=hT.l; have z3:=cm ws (((k:Int) - 1).toNat); have z4:(take n (aq ws ((k:Int) - 1).toNat)).length = n:=List.length_take_of_le z.1; have h9:=hA.at (t:=0 + j * 1) om; have h8:=cz o S j; refine aC (Ic om ?_ ?_ ?_) <;> first | (simp only [Nat.zero_add,Nat.mul_one]; done) | rfl | (simp only [Nat.zero_add,Nat.mul_one] at *; omega))) (Hn.next next2 ⟨(j + 1),om,⟨⟩⟩ (by show n - cJ (aq ws (Int.toNat ((↑k:Int) - 1))) n - (j + 1) < n - cJ (aq ws (Int.toNat ((↑k:Int) - 1))) n - j; clear next2 last2 next1 last1; omega) [(0,0),(8,8),(16,16),(24,24),(32,32),(40,40),(80,80),(112,112),(160,160)] qE)))))))))))))))))))))) (fun p6=>have p6f:=aT p6; (.blk 16 16 (Blk.mk (map dB (cg o S j)) 5 true) (Blk.mk (map dB (cg o S (n - cJ (aq ws (Int.toNat ((↑k:Int) - 1))) n))) 5 true) (by ( rw [show j = n - cJ (aq ws ((k:Int) - 1).toNat) n from by omega])) (Hn.last last2 0 (():Unit) rfl [(0,0),(8,8),(16,16),(24,24),(32,32),(40,40),(80,80),(112,112),(160,160)] qE)))))) (fun | ⟨j,hj,_⟩=>by kernel_rfl) ⟨(0),om,⟨⟩⟩ [(0,0),(8,8),(16,16),(24,24),(32,32),(40,40),(80,80),(112,112),(160,160)] qE (cb (fun | ()=>(.s 3 (.op (2 * (↑(cJ (aq ws (Int.toNat ((↑k:Int) - 1))) n):Int)) Fi (.s 8 (.ow ((↑k:Int) - 1 - 1) (.s 1 (.val 3 (iD ((↑k:Int) - 1 - 1)) (iD ((↑(k - 1):Int) - 1)) H7 (.blk 80 80 (Blk.mk [iD (2 * (↑(cJ (aq ws (Int.toNat ((↑k:Int) - 1))) n):Int))] 3 false) (Blk.mk [nD (2 * cJ (aq ws (Int.toNat ((↑k:Int) - 1))) n)] 3 false) (by ( exact CQ om)) (Hn.next next1 ⟨(k - 1),(2 * cJ (aq ws ((k:Int) - 1).toNat) n),(cg o S (n - cJ (aq ws ((k:Int) - 1).toNat) n)),om,(by ( exact hT.next' om _ om)),⟨⟩⟩ (by show k - 1 < k; clear next1 last1; omega) [(0,0),(8,8),(16,16),(24,24),(32,32),(40,40),(80,80),(112,112),(160,160)] qE)))))))))))))))))))))))))))))) (fun p3=>have p3f:=aT p3; (.blk 16 16 (Blk.mk (map dB o) 5 true) (Blk.mk (map dB T) 5 true) (by ( rw [hT.last om])) (Hn.last last1 0 (⟨(n),⟨⟩⟩:(n2:Nat) ×' Unit) rfl [(0,0),(8,8),(16,16),(24,24),(32,32),(40,40),(80,80),(112,112),(160,160)] qE)))))) (fun | ⟨k,n,o,hk,hT,_⟩=>by kernel_rfl) ⟨(m),(2 * N - 2),(replicate L 0),om,om,⟨⟩⟩ [(0,0),(8,8),(16,16),(24,24),(32,32),(40,40),(80,80),(112,112),(160,160)] qE (cb (fun | ⟨n2,_⟩=>(.s 5 (.out [16] [16] (D.tup [D.ref 0 0 0 L 1,iD 0]) [Blk.mk (map dB T) 5 true] R (ok _ _ wr wr))))))))))))))))))))))))))))))))))))) (by kernel_rfl)
theorem IZ {p:Prop} (h:p:=by ( have h9:=hA.at (t:=0) om; refine decide_eq_true ?_; omega)):p:=h
theorem Lx {p:Prop} (h:p:=by (have h9:((zv.bytes:Nat):Int) = 1:=rfl; rw [h9]; simp; omega)):p:=h
theorem Ie (W:List Nat) (L:Nat) (hL:L = W.length) (hL2:L ≤ 320) (hB:∀ t,W.getD t default ≤ 1073741824) (m:Nat) (hm:1 ≤ m ∧ m ≤ 15) (S:List Nat) (hS:eQ W = S) (N:Nat) (hN:N = S.length) (hNm:N ≤ 2 ^ m) (hA:bu L S) (hN3:N ≤ 320) (h2:N = 1):SpecH false Tryz.prog 108 [.sl false L 1 (W.map nD),nD m] [] (.tup [.ref 0 0 0 L 1,iD 0]) [⟨((List.replicate L (0:UInt8)).set (S.getD 0 default) (UInt8.ofNat 1)).map dB, 5, true⟩]:=by
 refine SpecH.run T_ok ah Tryz.func108 rfl rfl rfl ⟨aV _,trivial⟩ rfl 1000 64 (fun R ok=>(.s 5 (.cl 144 false [] (.fn DV (@oK (W) (L) om om om (m) om (S) bt (N) bt om)) (.s 18 (.chk (true && decide ((↑L:Int) ≤ (↑L:Int)) && true && true && true && true && decide ((↑(TI.bytes zv):Int) * (↑L:Int) ≤ 140737488355328)) Lx (.s 11 (.t ((↑N:Int) == 1) IZ (.s 8 (.chk (true && decide (0 < (↑N:Int))) IZ (.s 2 (.opt ((map nD S)[0]?) (nD (getD S 0 default)) (av _ _ om) (.s 1 (.chk (true && decide ((↑(getD S 0 default):Int) < (↑L:Int))) IZ (.s 1 (.chk (true && Nat.ble (0 + getD S 0 default * 1 + 1) (length (cD [bI 0] (L * 1)))) (by ( have h9:=hA.at (t:=0) om; rw [tT,List.length_map,List.length_replicate,Bool.true_and]; refine Nat.ble_eq_true_of_le ?_; omega)) (.lst (ai (cD [bI 0] (L * 1)) (0 + getD S 0 default * 1) [bI 1]) (ai (cD [bI 0] L) (getD S 0 default) [bI 1]) (by (simp; done)) (.s 6 (.t (decide ((↑N:Int) < 2)) IZ (.s 5 (.out [120] [120] (D.tup [D.ref 0 0 0 L 1,iD 0]) [Blk.mk (ai (cD [bI 0] L) (getD S 0 default) [bI 1]) 5 true] R (ok _ _ wr (by ( have h9:=hA.at (t:=0) om; have e:=tT L; rw [Nat.mul_one] at e; rw [e]; exact congrArg (fun z=>[Blk.mk z 5 true]) (w6 (a:=1) (by decide) (by rw [List.length_replicate]; omega))))))))))))))))))))))))) (by kernel_rfl)
theorem If (W:List Nat) (L:Nat) (hL:L = W.length) (hL2:L ≤ 320) (hB:∀ t,W.getD t default ≤ 1073741824) (m:Nat) (hm:1 ≤ m ∧ m ≤ 15) (S:List Nat) (hS:eQ W = S) (N:Nat) (hN:N = S.length) (hNm:N ≤ 2 ^ m) (hA:bu L S) (hN3:N ≤ 320) (h2:N = 0):SpecH false Tryz.prog 108 [.sl false L 1 (W.map nD),nD m] [] (.tup [.ref 0 0 0 L 1,iD 0]) [⟨(List.replicate L (0:UInt8)).map dB, 5, true⟩]:=by
 refine SpecH.run T_ok ah Tryz.func108 rfl rfl rfl ⟨aV _,trivial⟩ rfl 1000 64 (fun R ok=>(.s 5 (.cl 144 false [] (.fn DV (@oK (W) (L) om om om (m) om (S) bt (N) bt om)) (.s 18 (.chk (true && decide ((↑L:Int) ≤ (↑L:Int)) && true && true && true && true && decide ((↑(TI.bytes zv):Int) * (↑L:Int) ≤ 140737488355328)) Lx (.s 11 (.f ((↑N:Int) == 1) (by (refine decide_eq_false ?_; (omega))) (.s 6 (.t (decide ((↑N:Int) < 2)) (by (refine decide_eq_true ?_; (omega))) (.s 5 (.out [120] [120] (D.tup [D.ref 0 0 0 L 1,iD 0]) [Blk.mk (cD [bI 0] (L * 1)) 5 true] R (ok _ _ wr (by (rw [tT])))))))))))))) (by kernel_rfl)
def vb (W S:List Nat) (m:Nat):List UInt8 :=
 if S.length = 0 then List.replicate W.length 0 else if S.length = 1 then (List.replicate W.length 0).set (S.getD 0 default) (UInt8.ofNat 1)
 else Aa (oG W S S.length) S m (2 * S.length - 2) (List.replicate W.length 0)
def bK (W:List Nat) (m:Nat):List UInt8:=lk W (vb W (eQ W) m)
theorem kD (W:List Nat) (m:Nat):bK W m = vb W (eQ W) m:=aF _ _
theorem oM (ws S:List Nat):∀ (k n:Nat) (o:List UInt8),(Aa ws S k n o).length = o.length
 | 0,_,_=>rfl
 | k + 1,n,o=>by rw [Aa,oM ws S k,cz]
theorem iY (W:List Nat) (m:Nat):(bK W m).length = W.length:=by
 rw [kD,vb]
 split
 ·rw [List.length_replicate]
 ·split
  ·rw [List.length_set,List.length_replicate]
  ·rw [oM,List.length_replicate]
theorem Ig (W:List Nat) (L:Nat) (hL:L = W.length) (hL2:L ≤ 320) (hB:∀ t,W.getD t default ≤ 1073741824) (m:Nat) (hm:1 ≤ m ∧ m ≤ 15) (hNm:(eu W L).length ≤ 2 ^ m):SpecH false Tryz.prog 108 [.sl false L 1 (W.map nD),nD m] [] (.tup [.ref 0 0 0 L 1,iD 0]) [⟨(bK W m).map dB, 5, true⟩]:=by
 have hp:=dL W
 have hl:=hp.length_eq
 have hA:bu L (eQ W):=by rw [hL]; exact oF.perm hp
 have h3:=ip W L
 rw [← hL] at hl
 rw [kD,vb]
 by_cases c0:(eQ W).length = 0
 ·rw [if_pos c0,← hL]
  exact If W L hL hL2 hB m hm _ rfl _ rfl (by omega) hA (by omega) c0
 ·rw [if_neg c0]
  by_cases c1:(eQ W).length = 1
  ·rw [if_pos c1,← hL]
   exact Ie W L hL hL2 hB m hm _ rfl _ rfl (by omega) hA (by omega) c1
  ·rw [if_neg c1,← hL]
   have hwl:(oG W (eQ W) (eQ W).length).length = (eQ W).length:=kB (Nat.le_refl _)
   refine Id W L hL hL2 hB m hm _ rfl _ rfl (by omega) hA (by omega) (by omega) _ rfl hwl (fun w hw=>?_) _ ⟨?_,List.length_replicate,rfl⟩
   ·rw [lN] at hw
    obtain ⟨i,_,rfl⟩:=List.mem_map.1 hw
    exact hB i
   ·have q:=LnI.first (ws:=oG W (eQ W) (eQ W).length) hm.1 (by rw [hwl]; omega) (by rw [hwl]; omega)
    rwa [hwl] at q
end Vp
end Go.Proofs.YtefjnofhgkjpmaaGreat
namespace Go.Proofs.YtefjnofhgkjpmaaGreat
open Go.RowKit Go.Bw Go.Vx
namespace Vp
theorem I0 {p:Prop} (h:p:=by rw [List.length_replicate]):p:=h
def vd (l:List Pc):Nat:=(l.filter (fun x=>!x.p)).length
def tU (l:List Pc):Nat:=(l.filter (·.p)).length
def sW (l:List Pc):List Nat:=(l.filter (fun x=>!x.p)).map (·.w)
theorem oN (a b:List Pc):vd (a ++ b) = vd a + vd b:=by unfold vd; rw [List.filter_append,List.length_append]
theorem tV (a b:List Pc):tU (a ++ b) = tU a + tU b:=by unfold tU; rw [List.filter_append,List.length_append]
theorem lT (ws:List Nat):vd (f9 ws) = ws.length ∧ tU (f9 ws) = 0:=by
 unfold vd tU f9
 refine ⟨?_,?_⟩
 ·rw [List.filter_eq_self.2 (fun x hx=>by obtain ⟨w,_,rfl⟩:=List.mem_map.1 hx; rfl),List.length_map]
 ·rw [List.filter_eq_nil_iff.2 (fun x hx=>by obtain ⟨w,_,rfl⟩:=List.mem_map.1 hx; simp)]; rfl
theorem lU (ws:List Nat) (n:Nat):(f9 ws).take n = f9 (ws.take n):=by unfold f9; rw [List.map_take]
theorem xI (ws:List Nat):sW (f9 ws) = ws:=by
 unfold sW f9
 rw [List.filter_eq_self.2 (fun x hx=>by obtain ⟨w,_,rfl⟩:=List.mem_map.1 hx; rfl),List.map_map]
 exact List.map_id ws
theorem xJ (s:Nat):∀ ws:List Nat,∃ em,(dW s ws).1 = f9 em ++ [⟨s,true⟩] ∧ ws = em ++ (dW s ws).2 ∧ ∀ u r,(dW s ws).2 = u :: r → s < u
 | []=>⟨[],rfl,rfl,fun u r h=>by cases h⟩
 | w :: r=>by
  rw [dW]; split
  ·next q=>exact ⟨[],rfl,rfl,fun u r' h=>by cases h; exact q⟩
  ·obtain ⟨em,h1,h2,h3⟩:=xJ s r
   exact ⟨w :: em,by rw [h1]; rfl,by rw [List.cons_append,← h2],h3⟩
theorem xK:∀ (row:List Pc) (ws:List Nat),sW (ew row ws) = ws
 | [],ws=>xI ws
 | [_],ws=>xI ws
 | x :: y :: r,ws=>by
  obtain ⟨em,h1,h2,_⟩:=xJ (x.w + y.w) ws
  have ih:=xK r (dW (x.w + y.w) ws).2
  rw [ew,h1]
  unfold sW at *
  rw [List.filter_append,List.map_append,ih,List.filter_append,List.map_append]
  have e:=xI em
  unfold sW at e
  rw [e]
  show (em ++ []) ++ _ = ws
  rw [List.append_nil,← h2]
theorem EI (ws:List Nat):∀ k,sW (aq ws k) = ws
 | 0=>by rw [← oI,f7]; exact xK _ _
 | k + 1=>by rw [← lP,f7]; exact xK _ _
theorem tW:∀ (row:List Pc) (v ws:List Nat),sW row = v ++ ws → ∀ n,vd (row.take (2 * tU ((ew row ws).take n))) ≤ v.length + vd ((ew row ws).take n)
 | [],v,ws,_,n=>by
  have e:(ew [] ws).take n = f9 (ws.take n):=lU ws n
  rw [e,(lT _).2]; exact Nat.zero_le _
 | [x],v,ws,_,n=>by
  have e:(ew [x] ws).take n = f9 (ws.take n):=lU ws n
  rw [e,(lT _).2]; exact Nat.zero_le _
 | x :: y :: r,v,ws,h,n=>by
  obtain ⟨em,h1,h2,h3⟩:=xJ (x.w + y.w) ws
  have ih:=tW r
  rw [ew,h1]
  generalize (dW (x.w + y.w) ws).2 = ws' at *
  rcases Nat.lt_or_ge em.length n with q | q
  ·have e:(f9 em ++ [(⟨x.w + y.w,true⟩:Pc)] ++ ew r ws').take n = (f9 em ++ [(⟨x.w + y.w,true⟩:Pc)]) ++ (ew r ws').take (n - (em.length + 1)):=by
    have l:(f9 em ++ [(⟨x.w + y.w,true⟩:Pc)]).length = em.length + 1:=by unfold f9; rw [List.length_append,List.length_map]; rfl
    rw [List.take_append,l,List.take_of_length_le (by omega)]
   rw [e,tV,tV,oN,oN,(lT em).1,(lT em).2]
   show vd ((x :: y :: r).take (2 * (0 + 1 + _))) ≤ v.length + (em.length + 0 + _)
   generalize hZ:(ew r ws').take (n - (em.length + 1)) = Z
   have hk:sW (x :: y :: r) = sW [x,y] ++ sW r:=by
    unfold sW
    rw [show x :: y :: r = [x,y] ++ r from rfl,List.filter_append,List.map_append]
   have hs:∀ u ∈ sW [x,y],u ≤ x.w + y.w:=fun u hu=>by
    obtain ⟨p,hp,rfl⟩:=List.mem_map.1 hu
    rcases List.mem_cons.1 (List.mem_filter.1 hp).1 with rfl | hp
    ·omega
    ·cases List.mem_singleton.1 hp; omega
   have hl:(sW [x,y]).length = vd [x,y]:=by unfold sW vd; rw [List.length_map]
   rw [hk,h2,← List.append_assoc] at h
   have hc:(sW [x,y]).length ≤ (v ++ em).length:=by
    rcases Nat.lt_or_ge (v ++ em).length (sW [x,y]).length with z | z
    ·exfalso
     have g:(sW [x,y] ++ sW r)[(v ++ em).length]? = (v ++ em ++ ws')[(v ++ em).length]?:=by rw [h]
     rw [List.getElem?_append_left z,List.getElem?_append_right (Nat.le_refl _),Nat.sub_self,List.getElem?_eq_getElem z] at g
     cases hw:ws' with
     | nil=>rw [hw] at g; cases g
     | cons u t =>
      rw [hw] at g
      have g2:(sW [x,y])[(v ++ em).length] = u:=Option.some.inj g
      have:=hs _ (List.getElem_mem z)
      have:=h3 u t hw
      omega
    ·exact z
   have hr:sW r = (v ++ em).drop (sW [x,y]).length ++ ws' := by
    have g:=congrArg (List.drop (sW [x,y]).length) h
    rwa [List.drop_left,List.drop_append_of_le_length hc] at g
   have i2:=ih _ ws' hr (n - (em.length + 1))
   rw [hZ,List.length_drop,List.length_append,hl] at i2
   rw [List.length_append,hl] at hc
   have e3:(x :: y :: r).take (2 * (0 + 1 + tU Z)) = [x,y] ++ r.take (2 * tU Z):=by
    rw [show 2 * (0 + 1 + tU Z) = 2 * tU Z + 1 + 1 from by omega]; rfl
   rw [e3,oN]
   omega
  ·have e:(f9 em ++ [(⟨x.w + y.w,true⟩:Pc)] ++ ew r ws').take n = f9 (em.take n):=by
    have l:n ≤ (f9 em).length:=by unfold f9; rw [List.length_map]; exact q
    rw [List.append_assoc,List.take_append_of_le_length l,lU]
   rw [e,(lT _).2]; exact Nat.zero_le _
def CT (l:List Nat) (j:Nat):List Nat:=(l.take j).map (· + 1) ++ l.drop j
def lV (m:Nat):List Nat → Nat
 | []=>0
 | x :: r=>2 ^ (m - x) + lV m r
theorem oO (m:Nat) (a b:List Nat):lV m (a ++ b) = lV m a + lV m b:=by
 induction a with
 | nil=>simp [lV]
 | cons x a ih=>rw [List.cons_append,lV,lV,ih,Nat.add_assoc]
theorem iZ (m d:Nat):∀ a,lV m (List.replicate a d) = a * 2 ^ (m - d)
 | 0=>by simp [lV]
 | a + 1=>by rw [List.replicate_succ,lV,iZ m d a,Nat.succ_mul,Nat.add_comm]
def Ac (ws:List Nat):Nat → Nat → List Nat → List Nat
 | 0,_,l=>l
 | k + 1,n,l=>Ac ws k (2 * cJ (aq ws k) n) (CT l (n - cJ (aq ws k) n))
theorem tX (a b d:Nat):List.replicate (a + b) d = List.replicate a d ++ List.replicate b d:=List.replicate_append_replicate.symm
structure KrI (ws:List Nat) (m k n a:Nat) (l:List Nat):Prop where
 i:LnI ws k n
 km:k ≤ m
 z:k = 0 → n = 0
 nx:k ≠ 0 → n - cJ (aq ws (k - 1)) n ≤ a
 sh:∃ r,l = List.replicate a (m - k) ++ r ∧ ∀ x ∈ r,x ≤ m - k
 ph:2 * lV m l = 2 * 2 ^ m + n * 2 ^ k
theorem xM (l:List Pc):l.length = tU l + vd l:=by unfold tU vd; exact oJ l
theorem xN (row:List Pc) (n:Nat):cJ row n = tU (row.take n):=iq row n
theorem KrI.next {ws:List Nat} {m k n a:Nat} {l:List Nat} (h:KrI ws m (k + 1) n a l):KrI ws m k (2 * cJ (aq ws k) n) (n - cJ (aq ws k) n) (CT l (n - cJ (aq ws k) n)):=by
 have hn:=LnI.next h.i
 have ha:=h.nx (Nat.succ_ne_zero k)
 rw [Nat.add_sub_cancel] at ha
 obtain ⟨r,hr,hx⟩:=h.sh
 have hkm:=h.km
 generalize hc:cJ (aq ws k) n = c at *
 refine ⟨hn.2.2.2,by omega,fun hk=>?_,fun hk=>?_,?_,?_⟩
 ·subst hk
  have q:=tQ (aq ws 0) n
  rw [(jt ws 0).2.1,if_pos rfl,hc] at q; omega
 ·obtain ⟨j,rfl⟩:∃ j,k = j + 1:=⟨k - 1,by omega⟩
  rw [Nat.add_sub_cancel]
  have q:=tW (aq ws j) [] ws (EI ws j) n
  rw [← f7,lP,← xN,hc] at q
  have q2:=xM ((aq ws (j + 1)).take n)
  rw [← xN,hc,List.length_take] at q2
  have q3:=xM ((aq ws j).take (2 * c))
  have q4:=(hn.2.2.2).a (Nat.succ_ne_zero j)
  rw [Nat.add_sub_cancel] at q4
  rw [← xN,List.length_take] at q3
  have q5:([]:List Nat).length = 0:=rfl
  omega
 ·refine ⟨List.replicate (a - (n - c)) (m - (k + 1)) ++ r,?_,fun x hx2=>?_⟩
  ·unfold CT
   rw [hr,show a = (n - c) + (a - (n - c)) from by omega,tX,Nat.add_sub_cancel_left,List.append_assoc,List.take_left' I0,List.drop_left' I0,List.map_replicate,show m - (k + 1) + 1 = m - k from by omega]
  ·rcases List.mem_append.1 hx2 with q | q
   ·have:=(List.mem_replicate.1 q).2; omega
   ·have:=hx x q; omega
 ·have hp:=h.ph
  have e:l = List.replicate (n - c) (m - (k + 1)) ++ (List.replicate (a - (n - c)) (m - (k + 1)) ++ r):=by
   rw [hr,← List.append_assoc,← tX,show n - c + (a - (n - c)) = a from by omega]
  have e2:CT l (n - c) = List.replicate (n - c) (m - k) ++ (List.replicate (a - (n - c)) (m - (k + 1)) ++ r):=by
   unfold CT
   rw [e,List.take_left' I0,List.drop_left' I0,List.map_replicate,show m - (k + 1) + 1 = m - k from by omega]
  rw [e,oO,iZ,show m - (m - (k + 1)) = k + 1 from by omega] at hp
  rw [e2,oO,iZ,show m - (m - k) = k from by omega]
  generalize lV m (List.replicate (a - (n - c)) (m - (k + 1)) ++ r) = Q at *
  have e3:n = (n - c) + c:=by omega
  generalize n - c = b at *
  subst e3
  rw [Nat.pow_succ] at hp
  generalize 2 ^ k = P at *
  rw [Nat.add_mul,Nat.mul_comm P 2,← Nat.mul_assoc,← Nat.mul_assoc,Nat.mul_comm b 2,Nat.mul_comm c 2,Nat.mul_assoc 2 b P,Nat.mul_assoc 2 c P] at hp
  rw [Nat.mul_assoc 2 c P]
  omega
theorem KrI.last {ws:List Nat} {m:Nat}:∀ (k n a:Nat) (l:List Nat),KrI ws m k n a l → lV m (Ac ws k n l) = 2 ^ m ∧ (∀ x ∈ Ac ws k n l,x ≤ m) ∧ (Ac ws k n l).length = l.length
 | 0,n,a,l,h=>by
  have hz:=h.z rfl
  have hp:=h.ph
  rw [hz,Nat.zero_mul] at hp
  obtain ⟨r,hr,hx⟩:=h.sh
  refine ⟨by rw [Ac]; omega,fun x hx2=>?_,rfl⟩
  rw [Ac,hr] at hx2
  rcases List.mem_append.1 hx2 with q | q
  ·have:=(List.mem_replicate.1 q).2; omega
  ·have:=hx x q; omega
 | k + 1,n,a,l,h=>by
  have q:=KrI.last k _ _ _ h.next
  rw [Ac]
  refine ⟨q.1,q.2.1,q.2.2.trans ?_⟩
  unfold CT
  rw [List.length_append,List.length_map,List.length_take,List.length_drop]; omega
theorem tY {m:Nat}:∀ {l:List Nat},lV m l = 2 ^ m → 2 ≤ l.length → ∀ x ∈ l,x ≠ 0:=fun {l} h h2 x hx h0=>by
 obtain ⟨a,b,rfl⟩:=List.append_of_mem hx
 rw [oO,lV,h0,Nat.sub_zero] at h
 have pos:∀ l:List Nat,l.length ≤ lV m l:=fun l=>by
  induction l with
  | nil=>exact Nat.le_refl _
  | cons y l ih=>rw [lV,List.length_cons]; have:=Nat.two_pow_pos (m - y); omega
 have p1:=pos a
 have p2:=pos b
 rw [List.length_append,List.length_cons] at h2
 omega
theorem xP {m:Nat} (hm:m ≤ 15):∀ l:List Nat,(∀ x ∈ l,x ≤ m) → lV 15 l = 2 ^ (15 - m) * lV m l
 | [],_=>rfl
 | x :: r,h=>by
  have hx:=h x List.mem_cons_self
  rw [lV,lV,xP hm r (fun y hy=>h y (List.mem_cons_of_mem _ hy)),Nat.mul_add,← Nat.pow_add,show 15 - m + (m - x) = 15 - x from by omega]
theorem Ly {p:Prop} (h:p:=by rw [List.length_map,List.length_take,List.length_map]; omega):p:=h
def hU (f:Nat → Nat):List Nat → Nat
 | []=>0
 | i :: r=>f i + hU f r
theorem tZ (f:Nat → Nat) (a b:List Nat):hU f (a ++ b) = hU f a + hU f b:=by
 induction a with
 | nil=>simp [hU]
 | cons x a ih=>rw [List.cons_append,hU,hU,ih,Nat.add_assoc]
theorem qG {f:Nat → Nat} {a b:List Nat} (h:a.Perm b):hU f a = hU f b:=by
 induction h with
 | nil=>rfl
 | cons x _ ih=>rw [hU,hU,ih]
 | swap x y l=>rw [hU,hU,hU,hU]; omega
 | trans _ _ h1 h2=>exact h1.trans h2
theorem oP {f:Nat → Nat} {p:Nat → Bool}:∀ l:List Nat,(∀ i ∈ l,p i = false → f i = 0) → hU f l = hU f (l.filter p)
 | [],_=>rfl
 | x :: r,h=>by
  have ih:=oP r fun i hi=>h i (List.mem_cons_of_mem _ hi)
  cases hp:p x
  ·rw [List.filter_cons_of_neg (by simp [hp]),hU,h x List.mem_cons_self hp,ih,Nat.zero_add]
  ·rw [List.filter_cons_of_pos hp,hU,hU,ih]
def kf (o:List UInt8) (i:Nat):Nat:=if (o.getD i default).toNat = 0 then 0 else 2 ^ (15 - (o.getD i default).toNat)
def uf (o:List UInt8) (i:Nat):Nat:=if (o.getD i default).toNat = 0 then 0 else 1
theorem qH (o:List UInt8):∀ k,k ≤ o.length → aW (o.take k) = hU (kf o) (List.range k) ∧ bn (o.take k) = hU (uf o) (List.range k)
 | 0,_=>⟨rfl,rfl⟩
 | k + 1,h=>by
  have ih:=qH o k (by omega)
  rw [fV (by omega),il (by omega),List.range_succ,tZ,tZ,ih.1,ih.2]
  exact ⟨rfl,rfl⟩
theorem xQ {W:List Nat} {o:List UInt8} (hl:o.length = W.length) (h0:∀ i,i < W.length → W.getD i default = 0 → o.getD i default = 0):aW o = hU (kf o) (eQ W) ∧ bn o = hU (uf o) (eQ W):=by
 have h:=qH o o.length (Nat.le_refl _)
 rw [List.take_length,hl] at h
 have hz:∀ i,i < W.length → decide (0 < W.getD i default) = false → (o.getD i default).toNat = 0:=fun i hi hp=>by
  have hp:=of_decide_eq_false hp
  rw [h0 i hi (by omega)]; rfl
 rw [qG (dL W),qG (dL W),fa,h.1,h.2]
 exact ⟨oP _ fun i hi hp=>by unfold kf; rw [if_pos (hz i (List.mem_range.1 hi) hp)],oP _ fun i hi hp=>by unfold uf; rw [if_pos (hz i (List.mem_range.1 hi) hp)]⟩
theorem CU (W:List Nat):(eQ W).Nodup:=by
 rw [(dL W).nodup_iff,fa]; exact List.Nodup.sublist List.filter_sublist List.nodup_range
theorem sf {W:List Nat} {i:Nat}:i ∈ eQ W ↔ i < W.length ∧ 0 < W.getD i default:=by
 rw [(dL W).mem_iff,fa,List.mem_filter,List.mem_range,decide_eq_true_eq]
theorem oQ {o:List UInt8} {i j:Nat} {v:UInt8} (hi:i < o.length):(o.set i v).getD j default = if i = j then v else o.getD j default:=by
 rw [List.getD_eq_getElem?_getD,List.getD_eq_getElem?_getD,List.getElem?_set]
 by_cases h:i = j
 ·rw [if_pos h,if_pos h,if_pos (by omega)]; rfl
 ·rw [if_neg h,if_neg h]
theorem Ih {S:List Nat} (hN:S.Nodup) {i j:Nat} (hi:i < S.length) (hj:j < S.length) (h:i ≠ j):S.getD i default ≠ S.getD j default:=by
 rw [List.getD_eq_getElem?_getD,List.getD_eq_getElem?_getD,List.getElem?_eq_getElem hi,List.getElem?_eq_getElem hj]
 rcases Nat.lt_or_gt_of_ne h with q | q
 ·exact List.pairwise_iff_getElem.1 hN _ _ hi hj q
 ·exact (List.pairwise_iff_getElem.1 hN _ _ hj hi q).symm
theorem xR {S:List Nat} (hN:S.Nodup) {o:List UInt8} (hA:bu o.length S):∀ j,j ≤ S.length → (∀ t,t < S.length → (cg o S j).getD (S.getD t default) default = if t < j then o.getD (S.getD t default) default + 1 else o.getD (S.getD t default) default) ∧ ∀ i,i ∉ S → (cg o S j).getD i default = o.getD i default
 | 0,_=>⟨fun t _=>by rw [sc,if_neg (Nat.not_lt_zero t)],fun i _=>by rw [sc]⟩
 | j + 1,h=>by
  have ih:=xR hN hA j (by omega)
  have hb:=hA.at (t:=j) (by omega)
  refine ⟨fun t ht=>?_,fun i hi=>?_⟩
  ·rw [sd (by omega),oQ (by rw [cz]; exact hb)]
   by_cases e:j = t
   ·subst e; rw [if_pos rfl,ih.1 j ht,if_neg (Nat.lt_irrefl j),if_pos (Nat.lt_succ_self j)]
   ·rw [if_neg (Ih hN (by omega) ht e),ih.1 t ht]
    by_cases q:t < j
    ·rw [if_pos q,if_pos (by omega)]
    ·rw [if_neg q,if_neg (by omega)]
  ·rw [sd (by omega),oQ (by rw [cz]; exact hb),if_neg (fun q=>hi (by rw [← q,List.getD_eq_getElem?_getD,List.getElem?_eq_getElem (by omega)]; exact List.getElem_mem _)),ih.2 i hi]
def oS (S:List Nat) (o:List UInt8):List Nat:=S.map fun i=>(o.getD i default).toNat
theorem Ad {S:List Nat} (hN:S.Nodup) {o:List UInt8} (hA:bu o.length S) {j:Nat} (hj:j ≤ S.length) (hb:∀ x ∈ oS S o,x < 255):oS S (cg o S j) = CT (oS S o) j:=by
 have h:=(xR hN hA j hj).1
 unfold oS CT at *
 apply List.ext_getElem?
 intro t
 rcases Nat.lt_or_ge t S.length with q | q
 ·have e:S[t] = S.getD t default:=by rw [List.getD_eq_getElem?_getD,List.getElem?_eq_getElem q]; rfl
  have hx:=hb ((o.getD (S.getD t default) default).toNat) (List.mem_map.2 ⟨S[t],List.getElem_mem q,by rw [e]⟩)
  rw [List.getElem?_map,List.getElem?_eq_getElem q,e]
  show some ((cg o S j).getD (S.getD t default) default).toNat = _
  rw [h t q]
  by_cases z:t < j
  ·rw [if_pos z,List.getElem?_append_left Ly,List.getElem?_map,List.getElem?_take,if_pos z,List.getElem?_map,List.getElem?_eq_getElem q,e]
   show some _ = some ((o.getD (S.getD t default) default).toNat + 1)
   rw [UInt8.toNat_add]
   show some ((_ + 1) % 256) = _
   congr 1; omega
  ·rw [if_neg z,List.getElem?_append_right Ly,List.length_map,List.length_take,List.length_map,List.getElem?_drop,show j + (t - min j S.length) = t from by omega,List.getElem?_map,List.getElem?_eq_getElem q,e]; rfl
 ·rw [List.getElem?_eq_none (by rw [List.length_map]; exact q),List.getElem?_eq_none (by rw [List.length_append,List.length_map,List.length_take,List.length_drop,List.length_map]; omega)]
theorem xS {ws S:List Nat} {m:Nat} (hm:m ≤ 15) (hN:S.Nodup) (hw:ws.length = S.length):∀ (k n a:Nat) (o:List UInt8),bu o.length S → KrI ws m k n a (oS S o) → oS S (Aa ws S k n o) = Ac ws k n (oS S o) ∧ ∀ i,i ∉ S → (Aa ws S k n o).getD i default = o.getD i default
 | 0,n,a,o,hA,h=>⟨rfl,fun _ _=>rfl⟩
 | k + 1,n,a,o,hA,h=>by
  have hn:=(LnI.next h.i).2.2.1
  rw [hw] at hn
  have hb:∀ x ∈ oS S o,x < 255:=fun x hx=>by
   obtain ⟨r,hr,hx2⟩:=h.sh
   rw [hr] at hx
   rcases List.mem_append.1 hx with q | q
   ·have:=(List.mem_replicate.1 q).2; omega
   ·have:=hx2 x q; omega
  have e:=Ad hN hA hn hb
  have ih:=xS hm hN hw k _ _ (cg o S (n - cJ (aq ws k) n)) (by rw [cz]; exact hA) (by rw [e]; exact h.next)
  rw [Aa,Ac,← e]
  exact ⟨ih.1,fun i hi=>(ih.2 i hi).trans ((xR hN hA _ hn).2 i hi)⟩
theorem lW (W:List Nat) (hL:W.length ≤ 320) (m:Nat) (hm:1 ≤ m ∧ m ≤ 15) (hNm:(eu W W.length).length ≤ 2 ^ m):cM (bK W m) m = 0:=by
 have hp:=dL W
 have hA:bu W.length (eQ W):=oF.perm hp
 have hlen:=iY W m
 have hl:=hp.length_eq
 have fin:(∀ i,i < W.length → ((bK W m).getD i default).toNat ≤ m) → (aW (bK W m) = 32768 ∨ bn (bK W m) = 0 ∨ bn (bK W m) = 1 ∧ aW (bK W m) = 16384) → aW (bK W m) ≤ 32768 → cM (bK W m) m = 0:=fun h1 h2 h3=>by
  rw [iN]; unfold rW
  rw [hlen,if_neg (by omega),kt (fun i hi=>h1 i (by rw [hlen] at hi; exact hi)),if_neg (by decide),if_neg (by omega),if_pos h2]
 have zero:∀ i,W.length ≤ i ∨ True → (List.replicate W.length (0:UInt8)).getD i default = 0:=fun i _=>by
  rw [List.getD_eq_getElem?_getD,List.getElem?_replicate]; split <;> rfl
 rw [kD,vb] at fin ⊢
 by_cases c0:(eQ W).length = 0
 ·rw [if_pos c0] at fin ⊢
  have s:=xQ (W:=W) (o:=List.replicate W.length 0) List.length_replicate (fun i _ _=>zero i (.inr trivial))
  rw [List.eq_nil_of_length_eq_zero c0] at s
  exact fin (fun i _=>by rw [zero i (.inr trivial)]; exact Nat.zero_le _) (.inr (.inl s.2)) (by rw [s.1]; exact Nat.zero_le _)
 ·rw [if_neg c0] at fin ⊢
  by_cases c1:(eQ W).length = 1
  ·rw [if_pos c1] at fin ⊢
   obtain ⟨i0,h0⟩:∃ i0,eQ W = [i0]:=List.length_eq_one_iff.1 c1
   rw [h0] at fin hA ⊢
   have hi:i0 < W.length:=hA i0 (List.mem_singleton.2 rfl)
   have at' : ∀ j,((List.replicate W.length (0:UInt8)).set i0 (UInt8.ofNat 1)).getD j default = if i0 = j then UInt8.ofNat 1 else 0:=fun j=>by
    rw [oQ (by rw [List.length_replicate]; exact hi),zero j (.inr trivial)]
   have s:=xQ (W:=W) (o:=(List.replicate W.length 0).set i0 (UInt8.ofNat 1)) (by rw [List.length_set,List.length_replicate]) (fun i hi2 hz=>by
    rw [at', if_neg (fun q=>by
     have:=(sf (W:=W) (i:=i0)).1 (by rw [h0]; exact List.mem_singleton.2 rfl)
     rw [q] at this; omega)])
   rw [h0] at s
   have e1:hU (kf ((List.replicate W.length 0).set i0 (UInt8.ofNat 1))) [i0] = 16384:=by
    rw [hU,hU,kf,at', if_pos rfl]; rfl
   have e2:hU (uf ((List.replicate W.length 0).set i0 (UInt8.ofNat 1))) [i0] = 1:=by
    rw [hU,hU,uf,at', if_pos rfl]; rfl
   rw [e1,e2] at s
   refine fin (fun i _=>?_) (.inr (.inr ⟨s.2,s.1⟩)) (by show aW ((List.replicate W.length 0).set i0 (UInt8.ofNat 1)) ≤ _; rw [s.1]; decide)
   show (((List.replicate W.length 0).set i0 (UInt8.ofNat 1)).getD i default).toNat ≤ m
   rw [at']; split
   ·exact hm.1
   ·exact Nat.zero_le _
  ·rw [if_neg c1] at fin ⊢
   have hw:(oG W (eQ W) (eQ W).length).length = (eQ W).length:=kB (Nat.le_refl _)
   have hS:=CU W
   have hlast:2 * (eQ W).length - 2 ≠ 0:=by omega
   generalize hSS:eQ W = S at *
   generalize oG W S S.length = ws at *
   have hv:oS S (List.replicate W.length 0) = List.replicate S.length 0:=by
    unfold oS
    rw [List.eq_replicate_iff]
    refine ⟨by rw [List.length_map],fun b hb=>?_⟩
    obtain ⟨i,_,rfl⟩:=List.mem_map.1 hb
    rw [zero i (.inr trivial)]; rfl
   have hI:LnI ws m (2 * S.length - 2):=by
    have:=LnI.first (ws:=ws) hm.1 (by rw [hw]; omega) (by rw [hw]; omega)
    rwa [hw] at this
   have hK:KrI ws m m (2 * S.length - 2) S.length (oS S (List.replicate W.length 0)):=by
    refine ⟨hI,Nat.le_refl _,fun q=>by omega,fun q=>?_,⟨[],by rw [hv,Nat.sub_self,List.append_nil],fun x hx=>by cases hx⟩,?_⟩
    ·have:=(hI.nextk (by omega) (m - 1) rfl).2.2
     rwa [hw] at this
    ·rw [hv,iZ,Nat.sub_zero]
     generalize 2 ^ m = P
     rw [Nat.sub_mul,Nat.mul_assoc]
     have:1 * P ≤ S.length * P:=Nat.mul_le_mul_right _ (by omega)
     omega
   have hA0:bu (List.replicate W.length (0:UInt8)).length S:=by rw [List.length_replicate]; exact hA
   have r:=xS hm.2 hS hw m _ _ _ hA0 hK
   have q:=KrI.last m _ _ _ hK
   rw [← r.1] at q
   generalize hO:Aa ws S m (2 * S.length - 2) (List.replicate W.length 0) = O at *
   have hOl:O.length = W.length:=by rw [← hO,oM,List.length_replicate]
   have hp2:=tY q.1 (by unfold oS; rw [List.length_map]; omega)
   have s:=xQ (W:=W) (o:=O) hOl (fun i hi hz=>by
    rw [r.2 i (fun hm2=>by rw [← hSS] at hm2; have:=sf.1 hm2; omega),zero i (.inr trivial)])
   rw [hSS] at s
   have e1:∀ l:List Nat,(∀ i ∈ l,(O.getD i default).toNat ≠ 0) → hU (kf O) l = lV 15 (oS l O):=fun l=>by
    induction l with
    | nil=>intro _; rfl
    | cons x l ih =>
     intro h
     have hx:=h x List.mem_cons_self
     show kf O x + hU (kf O) l = 2 ^ (15 - _) + lV 15 (oS l O)
     rw [ih fun i hi=>h i (List.mem_cons_of_mem _ hi),kf,if_neg hx]
   have e2:=e1 S fun i hi=>hp2 _ (List.mem_map.2 ⟨i,hi,rfl⟩)
   have e3:=xP hm.2 (oS S O) q.2.1
   rw [q.1,← Nat.pow_add,show 15 - m + m = 15 from by omega] at e3
   have hk:aW O = 32768:=by rw [s.1,e2,e3]
   refine fin (fun i hi=>?_) (.inl hk) (Nat.le_of_eq hk)
   by_cases hi2:i ∈ S
   ·exact q.2.1 _ (List.mem_map.2 ⟨i,hi2,rfl⟩)
   ·rw [r.2 i hi2,zero i (.inr trivial)]; exact Nat.zero_le _
end Vp
end Go.Proofs.YtefjnofhgkjpmaaGreat
namespace Go.Proofs.YtefjnofhgkjpmaaGreat
open Go.RowKit Go.Bw Go.Vx
namespace Vp
def bp (k:Nat) (S:List Nat):List Nat:=lk S ((List.range k).map fun i=>S.count i)
theorem xT (k:Nat) (S:List Nat):bp k S = (List.range k).map fun i=>S.count i:=aF _ _
theorem dX (k:Nat) (S:List Nat):(bp k S).length = k:=by rw [xT,List.length_map,List.length_range]
theorem t0 (k:Nat) (S:List Nat) (i:Nat):(bp k S)[i]? = if i < k then some (S.count i) else none:=by
 rw [xT,List.getElem?_map]
 rcases Nat.lt_or_ge i k with h | h
 ·rw [List.getElem?_range h,if_pos h]; rfl
 ·rw [List.getElem?_eq_none (by simpa using h),if_neg (by omega)]; rfl
theorem sg (k:Nat) (S:List Nat) (i:Nat):(bp k S).getD i default = if i < k then S.count i else 0:=by
 rw [List.getD_eq_getElem?_getD,t0]; split <;> rfl
theorem fb (k:Nat) (S:List Nat) (i:Nat):(bp k S).getD i default ≤ S.length:=by
 rw [sg]; split
 ·exact List.count_le_length
 ·exact Nat.zero_le _
theorem xU (k:Nat):bp k [] = List.replicate k 0:=by
 apply List.ext_getElem?
 intro i
 rw [t0,List.getElem?_replicate]; rfl
theorem Ii {k:Nat} {S:List Nat} {i:Nat} (h:i < k):bp k (S ++ [i]) = (bp k S).set i ((bp k S).getD i default + 1):=by
 apply List.ext_getElem?
 intro j
 rw [List.getElem?_set,dX,t0,t0]
 by_cases e:i = j
 ·subst e; rw [if_pos h,if_pos rfl,if_pos h,sg,if_pos h,List.count_append,List.count_singleton,beq_self_eq_true]; rfl
 ·rw [if_neg e]; split
  ·rw [List.count_append,List.count_singleton,beq_eq_false_iff_ne.2 (fun q=>e q)]; rfl
  ·rfl
theorem xV {k:Nat} {S:List Nat} {i a b:Nat} {x:Int} (h:i < k) (ha:a = i) (hb:b = i) (hx:x = (((bp k S).getD b default:Nat):Int) + 1):ai ((bp k S).map nD) a [D.v (.int .i64 x)] = (bp k (S ++ [i])).map nD:=by
 subst ha hb hx; rw [Ii h]; exact Et (by rw [dX]; exact h)
def CV (T1:List Sy) (t:Tn):Nat:=if t.long = 0 then t.lit.toNat else 257 + am T1 t.long
def EJ (T2:List Sy) (t:Tn):List Nat:=if t.long = 0 then [] else [am T2 t.dist]
def cO (T1:List Sy) (l:List Tn) (i:Nat):List Nat:=lk l ((l.take i).map (CV T1))
def ey (T2:List Sy) (l:List Tn) (i:Nat):List Nat:=lk l ((l.take i).flatMap (EJ T2))
section
variable {T1 T2:List Sy} {l:List Tn} {i:Nat}
theorem qI:cO T1 l i = (l.take i).map (CV T1):=aF _ _
theorem t6:ey T2 l i = (l.take i).flatMap (EJ T2):=aF _ _
theorem Kw:cO T1 l 0 = []:=qI
theorem Ij:ey T2 l 0 = []:=t6
theorem oT:(cO T1 l i).length ≤ i:=by rw [qI,List.length_map,List.length_take]; omega
theorem EK (h:i < l.length):ey T2 l (i + 1) = ey T2 l i ++ EJ T2 (l.getD i default):=by
 have e1:l.take (i + 1) = l.take i ++ [l.getD i default]:=by
  rw [List.take_succ_eq_append_getElem h,List.getD_eq_getElem?_getD,List.getElem?_eq_getElem h]; rfl
 rw [t6,t6,e1,List.flatMap_append,List.flatMap_singleton]
theorem Ik (h:i < l.length):cO T1 l (i + 1) = cO T1 l i ++ [CV T1 (l.getD i default)]:=by
 have e1:l.take (i + 1) = l.take i ++ [l.getD i default]:=by
  rw [List.take_succ_eq_append_getElem h,List.getD_eq_getElem?_getD,List.getElem?_eq_getElem h]; rfl
 rw [qI,qI,e1,List.map_append]; rfl
theorem si:∀ i,i ≤ l.length → (ey T2 l i).length ≤ i
 | 0,_=>by rw [Ij]; exact Nat.le_refl _
 | i + 1,h=>by
  rw [EK (by omega),List.length_append]
  have:=si i (by omega)
  unfold EJ; split <;> simp <;> omega
theorem CW (h:i < l.length) (h0:(l.getD i default).long = 0):cO T1 l (i + 1) = cO T1 l i ++ [(l.getD i default).lit.toNat] ∧ ey T2 l (i + 1) = ey T2 l i:=by
 rw [Ik h,EK h,CV,EJ,if_pos h0,if_pos h0,List.append_nil]; exact ⟨rfl,rfl⟩
theorem CX (h:i < l.length) (h0:(l.getD i default).long ≠ 0):cO T1 l (i + 1) = cO T1 l i ++ [257 + am T1 (l.getD i default).long] ∧ ey T2 l (i + 1) = ey T2 l i ++ [am T2 (l.getD i default).dist]:=by
 rw [Ik h,EK h,CV,EJ,if_neg h0,if_neg h0]; exact ⟨rfl,rfl⟩
end
theorem xW:∀ (l:List UInt8) (n:Nat),(∀ i,n ≤ i → (l.getD i default).toNat = 0) → aW (l.take n) = aW l ∧ bn (l.take n) = bn l
 | [],n,_=>by rw [List.take_nil]; exact ⟨rfl,rfl⟩
 | x :: r,0,h=>by
  have ih:=xW r 0 fun i _=>h (i + 1) (Nat.zero_le _)
  have h0:x.toNat = 0:=h 0 (Nat.le_refl _)
  rw [List.take_zero] at ih ⊢
  rw [aW,aW,bn,bn,if_pos h0,if_pos h0,← ih.1,← ih.2]; exact ⟨rfl,rfl⟩
 | x :: r,n + 1,h=>by
  have ih:=xW r n fun i hi=>h (i + 1) (Nat.succ_le_succ hi)
  rw [List.take_succ_cons,aW,aW,bn,bn,ih.1,ih.2]; exact ⟨rfl,rfl⟩
theorem t7 {l:List UInt8} {m:Nat}:∀ n,∀ i,tH l m n ≤ i → i < n → l.getD i default = 0
 | 0,i,_,h=>absurd h (Nat.not_lt_zero _)
 | n + 1,i,h,h2=>by
  rw [tH] at h
  split at h
  ·next q =>
   rcases Nat.lt_or_ge i n with r | r
   ·exact t7 n i h r
   ·rw [show i = n from by omega]; exact q.2
  ·omega
theorem kE {l:List UInt8} {i:Nat} (h:l.length ≤ i):l.getD i default = 0:=by
 rw [List.getD_eq_getElem?_getD,List.getElem?_eq_none h]; rfl
def qX (l:List UInt8) (m:Nat):List UInt8:=lk l (l.take (gy l m))
theorem ju (l:List UInt8) (m:Nat):qX l m = l.take (gy l m):=aF _ _
theorem kF (l:List UInt8) (m:Nat):(qX l m).length = gy l m:=by
 rw [ju,List.length_take]; have:=(jq l m).1; omega
theorem EL (l:List UInt8) (m i:Nat):(qX l m).getD i default = l.getD i default:=by
 rw [ju,List.getD_eq_getElem?_getD,List.getElem?_take]
 split
 ·rw [List.getD_eq_getElem?_getD]
 ·rcases Nat.lt_or_ge i l.length with q | q
  ·rw [t7 (m:=m) l.length i (by rw [← lI]; omega) q]; rfl
  ·rw [kE q]; rfl
theorem t8 {l:List UInt8} {m q:Nat} (h:cM l m = 0):cM (qX l q) m = 0:=by
 have h0:=eY h
 have hk:=xW l (gy l q) (fun i hi=>by
  rcases Nat.lt_or_ge i l.length with r | r
  ·rw [t7 (m:=q) l.length i (by rw [← lI]; exact hi) r]; rfl
  ·rw [kE r]; rfl)
 have hl:(qX l q).length ≤ 320:=by rw [kF]; have:=(jq l q).1; omega
 have ho:dr (qX l q) m = false:=kt fun i hi=>by
  rw [EL]
  exact eM h0.2.1 (by rw [kF] at hi; have:=(jq l q).1; omega)
 rw [iN] at h ⊢
 unfold rW at h ⊢
 rw [if_neg (by omega),h0.2.1] at h
 rw [if_neg (by omega),ho,show aW (qX l q) = aW l from by rw [ju]; exact hk.1,show bn (qX l q) = bn l from by rw [ju]; exact hk.2]
 exact h
def dZ {α:Type} (H:List Nm) (g:α → List Nm) (l:List α) (i:Nat):List Nm:=lk l (H ++ (l.take i).flatMap g)
section
variable {α:Type} {H:List Nm} {g:α → List Nm} {l:List α} {i:Nat}
theorem jv:dZ H g l i = H ++ (l.take i).flatMap g:=aF _ _
theorem qJ:dZ H g l 0 = H:=by rw [jv]; exact List.append_nil _
theorem qK [Inhabited α] (h:i < l.length):dZ H g l (i + 1) = dZ H g l i ++ g (l.getD i default):=by
 have e1:l.take (i + 1) = l.take i ++ [l.getD i default]:=by
  rw [List.take_succ_eq_append_getElem h,List.getD_eq_getElem?_getD,List.getElem?_eq_getElem h]; rfl
 rw [jv,jv,e1,List.flatMap_append,← List.append_assoc,List.flatMap_singleton]
theorem i4 [Inhabited α] {c:Nat} (hc:∀ x,(g x).length = c):∀ i,i ≤ l.length → (dZ H g l i).length = H.length + c * i
 | 0,_=>by rw [qJ]; rfl
 | i + 1,h=>by
  rw [qK (by omega),List.length_append,i4 hc i (by omega),hc,Nat.mul_add,Nat.mul_one,Nat.add_assoc]
end
def lX (x:UInt8):List Nm:=[⟨x.toNat,3⟩]
def mc (C:List (Nat × Nat)) (r:Rn):List Nm:=gz C r.s (rb r.s) r.x
def oU:List Nat:=[16,17,18,0,8,7,9,6,10,5,11,4,12,3,13,2,14,1,15]
theorem Il:∀ i,i < 19 → oU.getD i default < 19:=by decide
def i8 (C:List UInt8) (i:Nat):List UInt8:=lk C ((oU.take i).map fun s=>C.getD s default)
theorem lY (C:List UInt8) (i:Nat):i8 C i = (oU.take i).map fun s=>C.getD s default:=aF _ _
theorem Im (C:List UInt8):i8 C 0 = []:=lY C 0
theorem t9 (C:List UInt8) {i:Nat} (h:i ≤ 19):(i8 C i).length = i:=by
 rw [lY,List.length_map,List.length_take,show oU.length = 19 from rfl]; omega
theorem In (C:List UInt8) {i:Nat} (h:i < 19):i8 C (i + 1) = i8 C i ++ [C.getD (oU.getD i default) default]:=by
 have e1:oU.take (i + 1) = oU.take i ++ [oU.getD i default]:=by
  rw [List.take_succ_eq_append_getElem (show i < oU.length from h),List.getD_eq_getElem?_getD,List.getElem?_eq_getElem (show i < oU.length from h)]; rfl
 rw [lY,lY,e1,List.map_append]; rfl
theorem Kx (i:Nat) (h:i < 19):(oU.map nD)[i]? = some (nD (oU.getD i default)):=by
 rw [List.getElem?_map,List.getElem?_eq_getElem (show i < oU.length from h),List.getD_eq_getElem?_getD,List.getElem?_eq_getElem (show i < oU.length from h)]; rfl
theorem lZ {l:List UInt8} (ho:∀ i,(l.getD i default).toNat ≤ 15):∀ (f a:Nat),∀ r ∈ jn l f a,r.s ≤ 18 ∧ r.x < 2 ^ rb r.s
 | 0,_=>fun r hr=>absurd hr List.not_mem_nil
 | f + 1,a=>by
  rw [jn]
  split
  ·exact fun r hr=>absurd hr List.not_mem_nil
  ·split
   ·intro r hr
    rcases List.mem_cons.1 hr with e | e
    ·subst e; refine ⟨Nat.le_refl _,?_⟩; show min (co l a) 138 - 11 < 2 ^ 7; omega
    ·exact lZ ho f _ r e
   ·split
    ·intro r hr
     rcases List.mem_cons.1 hr with e | e
     ·subst e; refine ⟨Nat.le_succ _,?_⟩; show co l a - 3 < 2 ^ 3; omega
     ·exact lZ ho f _ r e
    ·split
     ·intro r hr
      rcases List.mem_cons.1 hr with e | e
      ·subst e; refine ⟨show (16:Nat) ≤ 18 from by decide,?_⟩; show min (co l a) 6 - 3 < 2 ^ 2; omega
      ·exact lZ ho f _ r e
     ·intro r hr
      rcases List.mem_cons.1 hr with e | e
      ·subst e
       have h1:=ho a
       refine ⟨Nat.le_trans h1 (by decide),?_⟩
       show 0 < 2 ^ rb _
       exact Nat.two_pow_pos _
      ·exact lZ ho f _ r e
theorem EM {l:List UInt8} (ho:∀ i,(l.getD i default).toNat ≤ 15) (i:Nat):((vl l).getD i default).s ≤ 18 ∧ ((vl l).getD i default).x < 2 ^ rb ((vl l).getD i default).s:=by
 rw [List.getD_eq_getElem?_getD]
 rcases Nat.lt_or_ge i (vl l).length with h | h
 ·rw [List.getElem?_eq_getElem h]
  have hm:(vl l)[i] ∈ jn l l.length 0:=by rw [← rY]; exact List.getElem_mem h
  exact lZ ho _ _ _ hm
 ·rw [List.getElem?_eq_none h]; exact ⟨Nat.zero_le _,by decide⟩
theorem Ae (l:List UInt8):(vl l).length ≤ l.length:=by rw [rY]; exact iO _ _ _
theorem EN (l:List UInt8) (j:Nat) (ho:dr l 15 = false):(af l).getD j default = if j < l.length ∧ (l.getD j default).toNat ≠ 0 then (qi l j,(l.getD j default).toNat) else (0,0):=by
 rw [← Cj ho,lG,List.getD_eq_getElem?_getD,List.getElem?_map]
 rcases Nat.lt_or_ge j l.length with h | h
 ·rw [List.getElem?_range h]; exact rfl
 ·rw [List.getElem?_eq_none (by simpa using h),if_neg (by omega)]; rfl
theorem xX {l:List UInt8} {s:Nat} (h:s < l.length):(ej l (l.getD s default).toNat s).length < (ej l (l.getD s default).toNat l.length).length:=by
 obtain ⟨r,hr⟩:=lE l (l.getD s default).toNat (s + 1) (l.length - (s + 1))
 rw [show s + 1 + (l.length - (s + 1)) = l.length from by omega,gU,if_pos rfl] at hr
 rw [hr,List.length_append,List.length_append,List.length_singleton]; omega
theorem eo {l:List UInt8} (h:cM l 15 = 0):ma (af l):=fun s=>by
 have h0:=eY h
 rw [EN l s h0.2.1]
 split
 ·next q =>
  have h1:=eM h0.2.1 q.1
  refine ⟨h1,?_⟩
  have h2:=Ck h h1
  have h3:=Cf rfl q.2 h1
  have h4:=xX q.1
  show qi l s < 2 ^ (l.getD s default).toNat
  rw [lu] at h2
  unfold wQ at h2
  rw [if_neg q.2] at h2
  omega
 ·exact ⟨Nat.zero_le _,by decide⟩
theorem qL (W:List Nat) (hL:W.length ≤ 320) (m:Nat) (hm:1 ≤ m ∧ m ≤ 15) (hNm:(eu W W.length).length ≤ 2 ^ m) {i:Nat} (hi0:0 < W.getD i default):((bK W m).getD i default).toNat ≠ 0:=by
 have hp:=dL W
 have hA:bu W.length (eQ W):=oF.perm hp
 have hl:=hp.length_eq
 have hiW:i < W.length:=by
  rcases Nat.lt_or_ge i W.length with q | q
  ·exact q
  ·rw [List.getD_eq_getElem?_getD,List.getElem?_eq_none q] at hi0; exact absurd hi0 (Nat.lt_irrefl 0)
 have hiS:i ∈ eQ W:=sf.2 ⟨hiW,hi0⟩
 have zero:∀ i,(List.replicate W.length (0:UInt8)).getD i default = 0:=fun i=>by
  rw [List.getD_eq_getElem?_getD,List.getElem?_replicate]; split <;> rfl
 rw [kD,vb]
 by_cases c0:(eQ W).length = 0
 ·rw [List.eq_nil_of_length_eq_zero c0] at hiS; exact absurd hiS List.not_mem_nil
 ·rw [if_neg c0]
  by_cases c1:(eQ W).length = 1
  ·rw [if_pos c1]
   obtain ⟨i0,h0⟩:∃ i0,eQ W = [i0]:=List.length_eq_one_iff.1 c1
   rw [h0] at hiS ⊢
   have e:i = i0:=List.mem_singleton.1 hiS
   subst e
   show (((List.replicate W.length (0:UInt8)).set i (UInt8.ofNat 1)).getD i default).toNat ≠ 0
   rw [oQ (by rw [List.length_replicate]; exact hiW),if_pos rfl]; decide
  ·rw [if_neg c1]
   have hw:(oG W (eQ W) (eQ W).length).length = (eQ W).length:=kB (Nat.le_refl _)
   have hS:=CU W
   generalize hSS:eQ W = S at *
   generalize oG W S S.length = ws at *
   have hv:oS S (List.replicate W.length 0) = List.replicate S.length 0:=by
    unfold oS
    rw [List.eq_replicate_iff]
    refine ⟨by rw [List.length_map],fun b hb=>?_⟩
    obtain ⟨i,_,rfl⟩:=List.mem_map.1 hb
    rw [zero i]; rfl
   have hI:LnI ws m (2 * S.length - 2):=by
    have:=LnI.first (ws:=ws) hm.1 (by rw [hw]; omega) (by rw [hw]; omega)
    rwa [hw] at this
   have hK:KrI ws m m (2 * S.length - 2) S.length (oS S (List.replicate W.length 0)):=by
    refine ⟨hI,Nat.le_refl _,fun q=>by omega,fun q=>?_,⟨[],by rw [hv,Nat.sub_self,List.append_nil],fun x hx=>by cases hx⟩,?_⟩
    ·have:=(hI.nextk (by omega) (m - 1) rfl).2.2
     rwa [hw] at this
    ·rw [hv,iZ,Nat.sub_zero]
     generalize 2 ^ m = P
     rw [Nat.sub_mul,Nat.mul_assoc]
     have:1 * P ≤ S.length * P:=Nat.mul_le_mul_right _ (by omega)
     omega
   have hA0:bu (List.replicate W.length (0:UInt8)).length S:=by rw [List.length_replicate]; exact hA
   have r:=xS hm.2 hS hw m _ _ _ hA0 hK
   have q:=KrI.last m _ _ _ hK
   rw [← r.1] at q
   have hp2:=tY q.1 (by unfold oS; rw [List.length_map]; omega)
   exact hp2 _ (List.mem_map.2 ⟨i,hiS,rfl⟩)
theorem xY {l:List UInt8} {m s:Nat} (h:(l.getD s default).toNat ≠ 0):s < gy l m:=by
 rcases Nat.lt_or_ge s (gy l m) with q | q
 ·exact q
 ·exfalso
  rcases Nat.lt_or_ge s l.length with r | r
  ·rw [t7 (m:=m) l.length s (by rw [← lI]; exact q) r] at h; exact h rfl
  ·rw [kE r] at h; exact h rfl
theorem ua {k:Nat} {S:List Nat} {s:Nat} (h:s < k) (hm:s ∈ S):0 < (bp k S).getD s default:=by
 rw [sg,if_pos h]; exact List.count_pos_iff.2 hm
theorem xZ {T1:List Sy} {l:List Tn} {i k:Nat} (hk:k = l.length) (h:i < k):CV T1 (l.getD i default) ∈ cO T1 l k:=by
 rw [qI,hk,List.take_of_length_le (Nat.le_refl _),List.getD_eq_getElem?_getD,List.getElem?_eq_getElem (by omega)]
 exact List.mem_map_of_mem (List.getElem_mem _)
theorem EO {T2:List Sy} {l:List Tn} {i k:Nat} (hk:k = l.length) (h:i < k) (h0:(l.getD i default).long ≠ 0):am T2 (l.getD i default).dist ∈ ey T2 l k:=by
 rw [t6,hk,List.take_of_length_le (Nat.le_refl _)]
 have hi:i < l.length:=by omega
 rw [List.getD_eq_getElem?_getD,List.getElem?_eq_getElem hi] at h0 ⊢
 refine List.mem_flatMap.2 ⟨l[i],List.getElem_mem hi,?_⟩
 unfold EJ
 rw [if_neg (show ¬ l[i].long = 0 from h0)]; exact List.mem_singleton.2 rfl
theorem kG (k:Nat) (S:List Nat) (i:Nat) {a b:Nat} (h:i < k) (ha:a = i) (hb:b = i):ai ((bp k S).map nD) a [D.v (.int .i64 ((((bp k S).getD b default:Nat):Int) + 1))] = (bp k (S ++ [i])).map nD:=xV h ha hb rfl
theorem i5 (k:Nat) (S:List Nat) (i:Nat) {o:Nat} (h:i < k) (ho:o = i):((bp k S).map nD)[o]? = some (nD ((bp k S).getD i default)):=by
 subst ho
 rw [List.getElem?_map,List.getD_eq_getElem?_getD,List.getElem?_eq_getElem (by rw [dX]; exact h)]; rfl
theorem Io (k:Nat) (S:List Nat) (i:Nat) (W:List Nat) (hW:bp k (S ++ [i]) = W) {a b:Nat} (h:i < k) (ha:a = i) (hb:b = i):ai ((bp k S).map nD) a [D.v (.int .i64 ((((bp k S).getD b default:Nat):Int) + 1))] = W.map nD:=by rw [← hW]; exact xV h ha hb rfl
def CY (C:List UInt8) (i:Nat):Nat:=lk C (oU.getD i default)
theorem sj (C:List UInt8) (i:Nat):CY C i = oU.getD i default:=aF _ _
theorem x0 (C:List UInt8) (i:Nat) (h:i < 19):CY C i < 19:=by rw [sj]; exact Il i h
theorem Ip (C:List UInt8) (i:Nat) (h:i < 19):(oU.map nD)[i]? = some (nD (CY C i)):=by rw [sj]; exact Kx i h
theorem Af {l:List UInt8} {n i:Nat} (h:i < n):(l.take n).getD i default = l.getD i default:=by
 rw [List.getD_eq_getElem?_getD,List.getElem?_take,if_pos h,← List.getD_eq_getElem?_getD]
theorem Iq {e n1 n2 n3:Nat} {x y z:Int} (hx:x = ((n1 - 257:Nat):Int)) (hy:y = ((n2 - 1:Nat):Int)) (hz:z = ((n3 - 4:Nat):Int)):[D.v (.int .u32 (e:Int)),D.v (.int .i64 1),D.v (.int .u32 2),D.v (.int .i64 2),D.v (.int .u32 x),D.v (.int .i64 5),D.v (.int .u32 y),D.v (.int .i64 5),D.v (.int .u32 z),D.v (.int .i64 4)] = (l9 e 2 ++ ([⟨n1 - 257,5⟩,⟨n2 - 1,5⟩,⟨n3 - 4,4⟩]:List Nm)).flatMap aU:=by
 subst hx hy hz; rfl

end Vp
end Go.Proofs.YtefjnofhgkjpmaaGreat
namespace Go.Proofs.YtefjnofhgkjpmaaGreat
open Go.RowKit Go.Bw Go.Vx
namespace Vt
abbrev iD (i:Int):D:=.v (.int .i64 i)
abbrev ar:D:=.v (.slice none 0 0)
structure Tok where
 lit:UInt8
 dist:Int
 long:Int
 deriving Inhabited
abbrev tokD (t:Tok):List D:=[dB t.lit,iD t.dist,iD t.long]
end Vt
end Go.Proofs.YtefjnofhgkjpmaaGreat
namespace Go.Proofs.YtefjnofhgkjpmaaGreat
open Go.RowKit Go.Bw Go.Vx
open List (length getD map take drop flatMap replicate)
namespace Vm
theorem l6 {p:Prop} (h:p:=by (refine aO ?_; (omega))):p:=h
theorem ve {p:Prop} (h:p:=by ((refine aH ?_ ?_) <;> (repeat' (first | (refine aH ?_ ?_) | (with_reducible rfl) | (refine decide_eq_true ?_) | (refine Nat.ble_eq_true_of_le ?_) | (refine et ?_))) <;> (omega))):p:=h
theorem vf {p:Prop} (h:p:=by (exact fU _ (by decide) (by decide))):p:=h
theorem Ag {p:Prop} (h:p:=by (refine ud hh ?_ ?_ ?_ <;> (omega))):p:=h
theorem Ah {p:Prop} (h:p:=by show j - 1 < j; clear next1 last1; omega):p:=h
abbrev iD (i:Int):D:=.v (.int .i64 i)
abbrev ar:D:=.v (.slice none 0 0)
theorem Ky (x:Int):IntKind.wrap .u32 x = x % 4294967296:=rfl
abbrev bI (l:List UInt8) (i:Nat):Int:=((l.getD i default).toNat:Int)
def bL (l:List UInt8) (i:Nat):Int:=((bI l (i + 2) * 16777619 + bI l (i + 1)) * 16777619 + bI l i) % 4294967296
abbrev EP:Int:=1055306571
theorem nl (l:List UInt8) (i:Nat):0 ≤ bI l i ∧ bI l i < 256:=by
 have h:=(l.getD i default).toNat_lt
 unfold bI
 constructor <;> omega
def hR (p:List UInt8):Nat → Int
 | 0=>0
 | k + 1=>((((hR p k * 16777619) % 4294967296) + bI p (2 - k)) % 4294967296)
theorem Ai {p:List UInt8} {k j:Nat} {h:Int} (hh:h = hR p k) (hj:j = 2 - k):((((h * 16777619) % 4294967296) + bI p j) % 4294967296) = hR p (k + 1):=by rw [hh,hj,hR]
theorem Kz (p:List UInt8):hR p 3 = bL p 0:=by
 have h0:=nl p 0; have h1:=nl p 1; have h2:=nl p 2
 simp only [hR,Ky,bL,show 2 - 0 = 2 from rfl,show 2 - 1 = 1 from rfl,show 2 - 2 = 0 from rfl,show 0 + 2 = 2 from rfl,show 0 + 1 = 1 from rfl]
 omega
theorem hash (p:List UInt8) (hp:p.length = 3) (H:Int) (hH:H = bL p 0):SpecH false Tryz.prog 198 [.sl false 3 1 (p.map dB)] [] (.tup [.v (.int .u32 H),.v (.int .u32 EP)]) []:=by
 refine SpecH.run T_ok ah Tryz.func198 rfl rfl rfl trivial rfl 1000 64 (fun R ok=>(.s 9 (Hn.inl T_ok ah false 41 0 (aA Tryz.prog 198 0) (fun (x:(k:Nat) ×' (hk:k ≤ 3) ×' (h:Int) ×' (hh:h = hR p k) ×' Unit)=>match x with | ⟨k,hk,h,hh,_⟩=>CutS.mk [(0,D.sl false 3 1 (map dB p)),(4,.v (.int .u32 h)),(5,iD (2 - (k:Int)))] [] 0) (fun (x:(k:Nat) ×' (hk:k ≤ 3) ×' (h:Int) ×' (hh:h = hR p k) ×' Unit)=>match x with | ⟨k,hk,h,hh,_⟩=>3 - k) [⟨Unit,.exit 0,fun x=>match x with | ()=>CutS.mk [(0,D.sl false 3 1 (map dB p)),(4,.v (.int .u32 H))] [] 0⟩] 1000 64 (fun | ⟨k,hk,h,hh,_⟩,Q,next1,last1=>(.s 3 (.br (decide (0 ≤ 2 - (↑k:Int))) (fun p0=>have p0f:=aS p0; (.s 3 (.opt (az .u32 (h * 16777619)) (uI (h * 16777619 % 4294967296)) (aM _ _) (.s 3 (.chk (decide (0 ≤ 2 - (↑k:Int)) && decide (2 - (↑k:Int) < (↑3:Int)) && true) ve (.s 2 (.opt ((map dB p)[Int.toNat (2 - (↑k:Int)) * 1]?) (dB (getD p (Int.toNat (2 - (↑k:Int)) * 1) default)) (av _ _ om) (.s 1 (.opt (az .u32 (↑(UInt8.toNat (getD p (Int.toNat (2 - (↑k:Int)) * 1) default)):Int)) (uD (UInt8.toNat (getD p (Int.toNat (2 - (↑k:Int)) * 1) default))) (aB vf) (.s 2 (.opt (az .u32 (h * 16777619 % 4294967296 + (↑(UInt8.toNat (getD p (Int.toNat (2 - (↑k:Int)) * 1) default)):Int))) (uI ((h * 16777619 % 4294967296 + (↑(UInt8.toNat (getD p (Int.toNat (2 - (↑k:Int)) * 1) default)):Int)) % 4294967296)) (aM _ _) (.s 4 (.ow (2 - (↑k:Int) - 1) (.s 1 (.val 4 (uI ((h * 16777619 % 4294967296 + (↑(UInt8.toNat (getD p (Int.toNat (2 - (↑k:Int)) * 1) default)):Int)) % 4294967296)) (uI ((h * 16777619 % 4294967296 + bI p (2 - k)) % 4294967296)) (by (refine aO (congrArg (fun z=>((((h * 16777619) % 4294967296) + bI p z) % 4294967296)) ?_); (omega))) (.val 5 (iD (2 - (↑k:Int) - 1)) (iD (2 - (↑(k + 1):Int))) l6 (Hn.next next1 ⟨(k+1),om,(((((h * 16777619) % 4294967296) + bI p (2 - k)) % 4294967296)),(by (refine Ai hh ?_; (omega))),⟨⟩⟩ (by show 3 - (k + 1) < 3 - k; clear next1 last1; omega) [] ro))))))))))))))))) (fun p0=>have p0f:=aT p0; (.val 4 (uI h) (uI H) (by (refine aO ?_; rw [hh,hH,show k = 3 from by (omega),Kz])) (Hn.last last1 0 (():Unit) rfl [] ro)))))) (fun | ⟨k,hk,h,hh,_⟩=>by kernel_rfl) ⟨(0),om,(0),(by exact rfl),⟨⟩⟩ [] ro (cb (fun | ()=>(.s 70 (.out [] [] (D.tup [uI H,uI 1055306571]) [] R (ok _ _ wr wr)))))))) (by kernel_rfl)
def ap (s p:List UInt8):Nat → Int
 | 0=>-1
 | k + 1=>if (s.drop k).take 3 = p then (k:Int) else ap s p k
theorem x4 {s p:List UInt8} {i:Nat} (h:(s.drop i).take 3 = p) (hi:i + 3 ≤ s.length):bL s i = bL p 0:=by
 have e:∀ j,j < 3 → bI p j = bI s (i + j):=fun j hj=>by
  unfold bI
  rw [← h]
  simp only [List.getD_eq_getElem?_getD,List.getElem?_take,List.getElem?_drop,hj,if_true]
 unfold bL
 rw [e 0 (by decide),e 1 (by decide),e 2 (by decide)]
 rfl
theorem KA (s:List UInt8) (i:Nat):((((((bL s (i + 1) * 16777619) % 4294967296) + bI s i) % 4294967296) - ((EP * bI s (i + 3)) % 4294967296)) % 4294967296) = bL s i:=by
 simp only [EP,Ky,bL,show i + 1 + 2 = i + 3 from rfl,show i + 1 + 1 = i + 2 from rfl]
 omega
def hW (s:List UInt8) (i:Nat):Nat → Int
 | 0=>0
 | k + 1=>((((hW s i k * 16777619) % 4294967296) + bI s (i + (2 - k))) % 4294967296)
theorem Aj {s:List UInt8} {i k j:Nat} {h:Int} (hh:h = hW s i k) (hj:j = i + (2 - k)):((((h * 16777619) % 4294967296) + bI s j) % 4294967296) = hW s i (k + 1):=by rw [hh,hj,hW]
theorem KB (s:List UInt8) (i:Nat):hW s i 3 = bL s i:=by
 have h0:=nl s i; have h1:=nl s (i + 1); have h2:=nl s (i + 2)
 simp only [hW,Ky,bL,show 2 - 0 = 2 from rfl,show 2 - 1 = 1 from rfl,show 2 - 2 = 0 from rfl,Nat.add_zero]
 omega
theorem qM {s p:List UInt8} {k m:Nat} (hm:m = k + 1) (h:(s.drop k).take 3 = p):ap s p m = k:=by rw [hm,ap,if_pos h]
theorem jx {s p:List UInt8} {k m:Nat} (hm:m = k + 1) (h:(s.drop k).take 3 ≠ p):ap s p m = ap s p k:=by rw [hm,ap,if_neg h]
theorem np {s p:List UInt8} {k m:Nat} {h H:Int} (hm:m = k + 1) (hl:m + 2 ≤ s.length) (hh:h = bL s k) (hH:H = bL p 0) (hne:h ≠ H):ap s p m = ap s p k :=
 jx hm fun e=>hne (by rw [hh,hH]; exact x4 e (by omega))
theorem EQ {l p:List UInt8} (e:(ByteArray.toList { data:=l.toArray } == ByteArray.toList { data:=p.toArray }) = true):l = p:=by rw [ft,ft] at e; exact eq_of_beq e
theorem ER {l p:List UInt8} (e:(ByteArray.toList { data:=l.toArray } == ByteArray.toList { data:=p.toArray }) = false):l ≠ p:=by rw [ft,ft] at e; exact au e
theorem ub {s:List UInt8} {n j:Nat} (hn:n = s.length) (h3:3 ≤ n) (hj:j = n - 3):s.drop j = (s.drop (n - 3)).take 3:=by
 rw [hj,List.take_of_length_le (by rw [List.length_drop]; omega)]
theorem nq {s p:List UInt8} {a:Int} {j:Nat} (hl:a = ap s p j) (hj:j = 0):a = -1:=by rw [hl,hj]; rfl
theorem ud {s:List UInt8} {j a b:Nat} {h:Int} (hh:h = bL s j) (hj:0 < j) (ha:a = j - 1) (hb:b = j + 2):((((((h * 16777619) % 4294967296) + ((s.getD a default).toNat:Int)) % 4294967296) - ((1055306571 * ((s.getD b default).toNat:Int)) % 4294967296)) % 4294967296) = bL s (j - 1):=by
 have e1:bL s j = bL s (a + 1):=congrArg (bL s) (by omega)
 have e2:b = a + 3:=by omega
 have e3:=KA s a
 rw [hh,e1,e2,← ha]
 exact e3
theorem ya {s:List UInt8} {j:Nat} (hj:0 < j):List.take (((j:Int) - 1 + 3).toNat - ((j:Int) - 1).toNat) (List.drop ((j:Int) - 1).toNat s) = (s.drop (j - 1)).take 3:=by
 rw [show ((j:Int) - 1 + 3).toNat - ((j:Int) - 1).toNat = 3 from by omega,show ((j:Int) - 1).toNat = j - 1 from by omega]
theorem ue {s p:List UInt8} {j:Nat} {a:Int} (hl:a = ap s p j) (hj:0 < j) (e:(ByteArray.toList { data:=(List.take (((j:Int) - 1 + 3).toNat - ((j:Int) - 1).toNat) (List.drop ((j:Int) - 1).toNat s)).toArray } == ByteArray.toList { data:=p.toArray }) = false):a = ap s p (j - 1):=by
 rw [hl]
 refine jx (by omega) ?_
 rw [← ya hj]
 exact ER e
theorem yb {s p:List UInt8} {j:Nat} {a:Int} (hl:a = ap s p j) (hj:0 < j) (e:(ByteArray.toList { data:=(List.take (((j:Int) - 1 + 3).toNat - ((j:Int) - 1).toNat) (List.drop ((j:Int) - 1).toNat s)).toArray } == ByteArray.toList { data:=p.toArray }) = true):(j:Int) - 1 = a:=by
 rw [hl,qM (k:=j - 1) (by omega) (by rw [← ya hj]; exact EQ e)]
 omega
theorem ug {s p:List UInt8} {j:Nat} {a h H:Int} (hl:a = ap s p j) (hj:0 < j) (hb:j + 2 ≤ s.length) (hh:h = bL s j) (hH:H = bL p 0) (e:(((((((h * 16777619) % 4294967296) + ((s.getD (((j:Int) - 1).toNat * 1) default).toNat:Int)) % 4294967296) - ((1055306571 * ((s.getD (((j:Int) - 1 + 3).toNat * 1) default).toNat:Int)) % 4294967296)) % 4294967296) == H) = false):a = ap s p (j - 1) :=
 hl.trans (np (by omega) hb (ud hh hj (by omega) (by omega)) hH (au e))
theorem Ak {s p:List UInt8} {n:Nat} (hn:n = s.length) (h3:3 ≤ n) (e:(ByteArray.toList { data:=(List.drop ((n:Int) - 3).toNat s).toArray } == ByteArray.toList { data:=p.toArray }) = true):(n:Int) - 3 = ap s p (n - 2):=by
 rw [qM (k:=n - 3) (by omega) (by rw [← ub hn h3 rfl,← EQ e]; exact congrArg (List.drop · s) (by omega))]
 omega
theorem rk (s p:List UInt8) (n:Nat) (hn:n = s.length) (hp:p.length = 3) (h3:4 ≤ n) (h4:n ≤ 1000000) (H:Int) (hH:H = bL p 0):SpecH false Tryz.prog 193 [.sl false n 1 (s.map dB),.sl false 3 1 (p.map dB)] [] (iD (ap s p (n - 2))) []:=by
 refine SpecH.run T_ok ah Tryz.func193 rfl rfl rfl trivial rfl 1000 64 (fun R ok=>(.s 3 (.cl 198 false [] (.fn JH (@Go.Proofs.YtefjnofhgkjpmaaGreat.Vm.hash (p) om (H) bt)) (.s 15 (.ow ((↑n:Int) - 3) (.s 6 (.ow ((↑n:Int) - 1) (.s 1 (.val 10 (iD ((↑n:Int) - 1)) (iD ((↑n:Int) - 1 - 0)) l6 (Hn.inl T_ok ah false 94 0 (aA Tryz.prog 193 0) (fun (x:(k:Nat) ×' (hk:k ≤ 3) ×' (h:Int) ×' (hh:h = hW s (n - 3) k) ×' Unit)=>match x with | ⟨k,hk,h,hh,_⟩=>CutS.mk [(0,D.sl false n 1 (map dB s)),(1,D.sl false 3 1 (map dB p)),(5,uI H),(6,uI 1055306571),(7,iD 3),(8,iD ((↑n:Int) - 3)),(9,.v (.int .u32 h)),(10,iD ((n:Int) - 1 - (k:Int)))] [] 0) (fun (x:(k:Nat) ×' (hk:k ≤ 3) ×' (h:Int) ×' (hh:h = hW s (n - 3) k) ×' Unit)=>match x with | ⟨k,hk,h,hh,_⟩=>3 - k) [⟨(h2:Int) ×' (hh2:h2 = bL s (n - 3)) ×' Unit,.exit 0,fun x=>match x with | ⟨h2,hh2,_⟩=>CutS.mk [(0,D.sl false n 1 (map dB s)),(1,D.sl false 3 1 (map dB p)),(5,uI H),(6,uI 1055306571),(7,iD 3),(8,iD ((↑n:Int) - 3)),(9,.v (.int .u32 h2))] [] 0⟩] 1000 64 (fun | ⟨k,hk,h,hh,_⟩,Q,next1,last1=>(.s 4 (.br (decide ((↑n:Int) - 3 ≤ (↑n:Int) - 1 - (↑k:Int))) (fun p0=>have p0f:=aS p0; (.s 3 (.opt (az .u32 (h * 16777619)) (uI (h * 16777619 % 4294967296)) (aM _ _) (.s 3 (.chk (decide (0 ≤ (↑n:Int) - 1 - (↑k:Int)) && decide ((↑n:Int) - 1 - (↑k:Int) < (↑n:Int)) && true) ve (.s 2 (.opt ((map dB s)[Int.toNat ((↑n:Int) - 1 - (↑k:Int)) * 1]?) (dB (getD s (Int.toNat ((↑n:Int) - 1 - (↑k:Int)) * 1) default)) (av _ _ om) (.s 1 (.opt (az .u32 (↑(UInt8.toNat (getD s (Int.toNat ((↑n:Int) - 1 - (↑k:Int)) * 1) default)):Int)) (uD (UInt8.toNat (getD s (Int.toNat ((↑n:Int) - 1 - (↑k:Int)) * 1) default))) (aB vf) (.s 2 (.opt (az .u32 (h * 16777619 % 4294967296 + (↑(UInt8.toNat (getD s (Int.toNat ((↑n:Int) - 1 - (↑k:Int)) * 1) default)):Int))) (uI ((h * 16777619 % 4294967296 + (↑(UInt8.toNat (getD s (Int.toNat ((↑n:Int) - 1 - (↑k:Int)) * 1) default)):Int)) % 4294967296)) (aM _ _) (.s 4 (.ow ((↑n:Int) - 1 - (↑k:Int) - 1) (.s 1 (.val 9 (uI ((h * 16777619 % 4294967296 + (↑(UInt8.toNat (getD s (Int.toNat ((↑n:Int) - 1 - (↑k:Int)) * 1) default)):Int)) % 4294967296)) (uI ((h * 16777619 % 4294967296 + bI s (n - 1 - k)) % 4294967296)) (by (refine aO (congrArg (fun z=>((((h * 16777619) % 4294967296) + bI s z) % 4294967296)) ?_); (omega))) (.val 10 (iD ((↑n:Int) - 1 - (↑k:Int) - 1)) (iD ((↑n:Int) - 1 - (↑(k + 1):Int))) l6 (Hn.next next1 ⟨(k+1),om,(((((h * 16777619) % 4294967296) + bI s (n - 1 - k)) % 4294967296)),(by (refine Aj hh ?_; (omega))),⟨⟩⟩ (by show 3 - (k + 1) < 3 - k; clear next1 last1; omega) [] ro))))))))))))))))) (fun p0=>have p0f:=aT p0; (Hn.last last1 0 (⟨(h),(by (rw [hh,show k = 3 from by (omega),KB])),⟨⟩⟩:(h2:Int) ×' (hh2:h2 = bL s (n - 3)) ×' Unit) rfl [] ro))))) (fun | ⟨k,hk,h,hh,_⟩=>by kernel_rfl) ⟨(0),om,(0),(by exact rfl),⟨⟩⟩ [] ro (cb (fun | ⟨h2,hh2,_⟩=>(.s 7 (.br (h2 == H) (fun p1=>have p1f:=eq_of_beq p1; (.s 4 (.chk (aL (some ((↑n:Int) - 3)) none none n && true) (by (simp <;> (omega))) (.s 3 (.byt (drop (Int.toNat ((↑n:Int) - 3) * 1) (map dB s)) (drop (Int.toNat ((↑n:Int) - 3)) s) (by (simp; done)) (.s 5 (.byt (map dB p) (p) rfl (.s 3 (.br (ByteArray.toList (ByteArray.mk (List.toArray (drop (Int.toNat ((↑n:Int) - 3)) s))) == ByteArray.toList (ByteArray.mk (List.toArray p))) (fun p2=>have p2f:=eq_of_beq p2; (.s 2 (.out [] [] (iD ((↑n:Int) - 3)) [] R (ok _ _ (by (exact aO (Ak hn (by (omega)) bt))) wr)))) (fun p2=>have p2f:=au p2; (.s 3 (.ow ((↑n:Int) - 3 - 1) (.s 1 (.val 11 (iD ((↑n:Int) - 3 - 1)) (iD ((↑(n - 3):Int) - 1)) l6 (Hn.inl T_ok ah false 94 0 (aA Tryz.prog 193 1) (fun (x:(j:Nat) ×' (hj:j ≤ n - 3) ×' (h:Int) ×' (hh:h = bL s j) ×' (hl:ap s p (n - 2) = ap s p j) ×' Unit)=>match x with | ⟨j,hj,h,hh,hl,_⟩=>CutS.mk [(0,D.sl false n 1 (map dB s)),(1,D.sl false 3 1 (map dB p)),(5,uI H),(6,uI 1055306571),(7,iD 3),(9,.v (.int .u32 h)),(11,iD ((j:Int) - 1))] [] 0) (fun (x:(j:Nat) ×' (hj:j ≤ n - 3) ×' (h:Int) ×' (hh:h = bL s j) ×' (hl:ap s p (n - 2) = ap s p j) ×' Unit)=>match x with | ⟨j,hj,h,hh,hl,_⟩=>j) [⟨(hz:ap s p (n - 2) = -1) ×' Unit,.exit 2,fun x=>match x with | ⟨hz,_⟩=>CutS.mk [(0,D.sl false n 1 (map dB s)),(1,D.sl false 3 1 (map dB p)),(5,uI H),(6,uI 1055306571),(7,iD 3)] [] 0⟩,⟨Unit,.ret,fun x=>match x with | ()=>CutS.mk [(4,iD (ap s p (n - 2)))] [] 0⟩] 1000 64 (fun | ⟨j,hj,h,hh,hl,_⟩,Q,next1,last1=>(.s 3 (.br (decide (0 ≤ (↑j:Int) - 1)) (fun p3=>have p3f:=aS p3; (.s 3 (.opt (az .u32 (h * 16777619)) (uI (h * 16777619 % 4294967296)) (aM _ _) (.s 5 (.chk (decide (0 ≤ (↑j:Int) - 1) && decide ((↑j:Int) - 1 < (↑n:Int)) && true) ve (.s 2 (.opt ((map dB s)[Int.toNat ((↑j:Int) - 1) * 1]?) (dB (getD s (Int.toNat ((↑j:Int) - 1) * 1) default)) (av _ _ om) (.s 1 (.opt (az .u32 (↑(UInt8.toNat (getD s (Int.toNat ((↑j:Int) - 1) * 1) default)):Int)) (uD (UInt8.toNat (getD s (Int.toNat ((↑j:Int) - 1) * 1) default))) (aB vf) (.s 2 (.opt (az .u32 (h * 16777619 % 4294967296 + (↑(UInt8.toNat (getD s (Int.toNat ((↑j:Int) - 1) * 1) default)):Int))) (uI ((h * 16777619 % 4294967296 + (↑(UInt8.toNat (getD s (Int.toNat ((↑j:Int) - 1) * 1) default)):Int)) % 4294967296)) (aM _ _) (.s 8 (.ow ((↑j:Int) - 1 + 3) (.s 1 (.chk (decide (0 ≤ (↑j:Int) - 1 + 3) && decide ((↑j:Int) - 1 + 3 < (↑n:Int)) && true) ve (.s 2 (.opt ((map dB s)[Int.toNat ((↑j:Int) - 1 + 3) * 1]?) (dB (getD s (Int.toNat ((↑j:Int) - 1 + 3) * 1) default)) (av _ _ om) (.s 1 (.opt (az .u32 (↑(UInt8.toNat (getD s (Int.toNat ((↑j:Int) - 1 + 3) * 1) default)):Int)) (uD (UInt8.toNat (getD s (Int.toNat ((↑j:Int) - 1 + 3) * 1) default))) (aB vf) (.s 2 (.opt (az .u32 (1055306571 * (↑(UInt8.toNat (getD s (Int.toNat ((↑j:Int) - 1 + 3) * 1) default)):Int))) (uI (1055306571 * (↑(UInt8.toNat (getD s (Int.toNat ((↑j:Int) - 1 + 3) * 1) default)):Int) % 4294967296)) (aM _ _) (.s 2 (.opt (az .u32 ((h * 16777619 % 4294967296 + (↑(UInt8.toNat (getD s (Int.toNat ((↑j:Int) - 1) * 1) default)):Int)) % 4294967296 - 1055306571 * (↑(UInt8.toNat (getD s (Int.toNat ((↑j:Int) - 1 + 3) * 1) default)):Int) % 4294967296)) (uI (((h * 16777619 % 4294967296 + (↑(UInt8.toNat (getD s (Int.toNat ((↑j:Int) - 1) * 1) default)):Int)) % 4294967296 - 1055306571 * (↑(UInt8.toNat (getD s (Int.toNat ((↑j:Int) - 1 + 3) * 1) default)):Int) % 4294967296) % 4294967296)) (aM _ _) (.s 8 (.br (((h * 16777619 % 4294967296 + (↑(UInt8.toNat (getD s (Int.toNat ((↑j:Int) - 1) * 1) default)):Int)) % 4294967296 - 1055306571 * (↑(UInt8.toNat (getD s (Int.toNat ((↑j:Int) - 1 + 3) * 1) default)):Int) % 4294967296) % 4294967296 == H) (fun p4=>have p4f:=eq_of_beq p4; (.s 9 (.ow ((↑j:Int) - 1 + 3) (.s 2 (.chk (aL (some ((↑j:Int) - 1)) (some ((↑j:Int) - 1 + 3)) none n && true) (by (simp <;> (omega))) (.s 3 (.byt (take ((Int.toNat ((↑j:Int) - 1 + 3) - Int.toNat ((↑j:Int) - 1)) * 1) (drop (Int.toNat ((↑j:Int) - 1) * 1) (map dB s))) (take (Int.toNat ((↑j:Int) - 1 + 3) - Int.toNat ((↑j:Int) - 1)) (drop (Int.toNat ((↑j:Int) - 1)) s)) (by (simp; done)) (.s 5 (.byt (map dB p) (p) rfl (.s 3 (.br (ByteArray.toList (ByteArray.mk (List.toArray (take (Int.toNat ((↑j:Int) - 1 + 3) - Int.toNat ((↑j:Int) - 1)) (drop (Int.toNat ((↑j:Int) - 1)) s)))) == ByteArray.toList (ByteArray.mk (List.toArray p))) (fun p5=>have p5f:=eq_of_beq p5; (.s 2 (.val 4 (iD ((↑j:Int) - 1)) (iD (ap s p (n - 2))) (by (exact aO (yb hl (by (omega)) bt))) (Hn.last last1 1 (():Unit) rfl [] ro)))) (fun p5=>have p5f:=au p5; (.s 3 (.ow ((↑j:Int) - 1 - 1) (.s 1 (.val 11 (iD ((↑j:Int) - 1 - 1)) (iD ((↑(j - 1):Int) - 1)) l6 (Hn.next next1 ⟨(j - 1),om,(((((((h * 16777619) % 4294967296) + ((s.getD (((j:Int) - 1).toNat * 1) default).toNat:Int)) % 4294967296) - ((1055306571 * ((s.getD (((j:Int) - 1 + 3).toNat * 1) default).toNat:Int)) % 4294967296)) % 4294967296)),Ag,(by (exact ue hl (by (omega)) bt)),⟨⟩⟩ Ah [] ro))))))))))))))))) (fun p4=>have p4f:=au p4; (.s 23 (.ow ((↑j:Int) - 1 - 1) (.s 1 (.val 11 (iD ((↑j:Int) - 1 - 1)) (iD ((↑(j - 1):Int) - 1)) l6 (Hn.next next1 ⟨(j - 1),om,(((((((h * 16777619) % 4294967296) + ((s.getD (((j:Int) - 1).toNat * 1) default).toNat:Int)) % 4294967296) - ((1055306571 * ((s.getD (((j:Int) - 1 + 3).toNat * 1) default).toNat:Int)) % 4294967296)) % 4294967296)),Ag,(by (exact ug hl (by (omega)) (by (omega)) hh hH bt)),⟨⟩⟩ Ah [] ro))))))))))))))))))))))))))))))) (fun p3=>have p3f:=aT p3; (Hn.last last1 0 (⟨(by (exact nq hl (by (omega)))),⟨⟩⟩:(hz:ap s p (n - 2) = -1) ×' Unit) rfl [] ro))))) (fun | ⟨j,hj,h,hh,hl,_⟩=>by kernel_rfl) ⟨(n - 3),om,(h2),om,(by (refine jx om ?_; rw [← ub hn om rfl]; refine fun e=>ER p2 ?_; refine Eq.trans ?_ e; exact congrArg (drop · s) om)),⟨⟩⟩ [] ro (fc (fun | ⟨hz,_⟩=>(.s 1 (.out [] [] (iD (-1)) [] R (ok _ _ l6 wr)))) (fun | ()=>(.out [] [] (iD (ap s p (n - 2))) [] R (ok _ _ wr wr))))))))))))))))))) (fun p1=>have p1f:=au p1; (.s 17 (.ow ((↑n:Int) - 3 - 1) (.s 1 (.val 11 (iD ((↑n:Int) - 3 - 1)) (iD ((↑(n - 3):Int) - 1)) l6 (Hn.inl T_ok ah false 94 0 (aA Tryz.prog 193 1) (fun (x:(j:Nat) ×' (hj:j ≤ n - 3) ×' (h:Int) ×' (hh:h = bL s j) ×' (hl:ap s p (n - 2) = ap s p j) ×' Unit)=>match x with | ⟨j,hj,h,hh,hl,_⟩=>CutS.mk [(0,D.sl false n 1 (map dB s)),(1,D.sl false 3 1 (map dB p)),(5,uI H),(6,uI 1055306571),(7,iD 3),(9,.v (.int .u32 h)),(11,iD ((j:Int) - 1))] [] 0) (fun (x:(j:Nat) ×' (hj:j ≤ n - 3) ×' (h:Int) ×' (hh:h = bL s j) ×' (hl:ap s p (n - 2) = ap s p j) ×' Unit)=>match x with | ⟨j,hj,h,hh,hl,_⟩=>j) [⟨(hz:ap s p (n - 2) = -1) ×' Unit,.exit 2,fun x=>match x with | ⟨hz,_⟩=>CutS.mk [(0,D.sl false n 1 (map dB s)),(1,D.sl false 3 1 (map dB p)),(5,uI H),(6,uI 1055306571),(7,iD 3)] [] 0⟩,⟨Unit,.ret,fun x=>match x with | ()=>CutS.mk [(4,iD (ap s p (n - 2)))] [] 0⟩] 1000 64 (fun | ⟨j,hj,h,hh,hl,_⟩,Q,next1,last1=>(.s 3 (.br (decide (0 ≤ (↑j:Int) - 1)) (fun p6=>have p6f:=aS p6; (.s 3 (.opt (az .u32 (h * 16777619)) (uI (h * 16777619 % 4294967296)) (aM _ _) (.s 5 (.chk (decide (0 ≤ (↑j:Int) - 1) && decide ((↑j:Int) - 1 < (↑n:Int)) && true) ve (.s 2 (.opt ((map dB s)[Int.toNat ((↑j:Int) - 1) * 1]?) (dB (getD s (Int.toNat ((↑j:Int) - 1) * 1) default)) (av _ _ om) (.s 1 (.opt (az .u32 (↑(UInt8.toNat (getD s (Int.toNat ((↑j:Int) - 1) * 1) default)):Int)) (uD (UInt8.toNat (getD s (Int.toNat ((↑j:Int) - 1) * 1) default))) (aB vf) (.s 2 (.opt (az .u32 (h * 16777619 % 4294967296 + (↑(UInt8.toNat (getD s (Int.toNat ((↑j:Int) - 1) * 1) default)):Int))) (uI ((h * 16777619 % 4294967296 + (↑(UInt8.toNat (getD s (Int.toNat ((↑j:Int) - 1) * 1) default)):Int)) % 4294967296)) (aM _ _) (.s 8 (.ow ((↑j:Int) - 1 + 3) (.s 1 (.chk (decide (0 ≤ (↑j:Int) - 1 + 3) && decide ((↑j:Int) - 1 + 3 < (↑n:Int)) && true) ve (.s 2 (.opt ((map dB s)[Int.toNat ((↑j:Int) - 1 + 3) * 1]?) (dB (getD s (Int.toNat ((↑j:Int) - 1 + 3) * 1) default)) (av _ _ om) (.s 1 (.opt (az .u32 (↑(UInt8.toNat (getD s (Int.toNat ((↑j:Int) - 1 + 3) * 1) default)):Int)) (uD (UInt8.toNat (getD s (Int.toNat ((↑j:Int) - 1 + 3) * 1) default))) (aB vf) (.s 2 (.opt (az .u32 (1055306571 * (↑(UInt8.toNat (getD s (Int.toNat ((↑j:Int) - 1 + 3) * 1) default)):Int))) (uI (1055306571 * (↑(UInt8.toNat (getD s (Int.toNat ((↑j:Int) - 1 + 3) * 1) default)):Int) % 4294967296)) (aM _ _) (.s 2 (.opt (az .u32 ((h * 16777619 % 4294967296 + (↑(UInt8.toNat (getD s (Int.toNat ((↑j:Int) - 1) * 1) default)):Int)) % 4294967296 - 1055306571 * (↑(UInt8.toNat (getD s (Int.toNat ((↑j:Int) - 1 + 3) * 1) default)):Int) % 4294967296)) (uI (((h * 16777619 % 4294967296 + (↑(UInt8.toNat (getD s (Int.toNat ((↑j:Int) - 1) * 1) default)):Int)) % 4294967296 - 1055306571 * (↑(UInt8.toNat (getD s (Int.toNat ((↑j:Int) - 1 + 3) * 1) default)):Int) % 4294967296) % 4294967296)) (aM _ _) (.s 8 (.br (((h * 16777619 % 4294967296 + (↑(UInt8.toNat (getD s (Int.toNat ((↑j:Int) - 1) * 1) default)):Int)) % 4294967296 - 1055306571 * (↑(UInt8.toNat (getD s (Int.toNat ((↑j:Int) - 1 + 3) * 1) default)):Int) % 4294967296) % 4294967296 == H) (fun p7=>have p7f:=eq_of_beq p7; (.s 9 (.ow ((↑j:Int) - 1 + 3) (.s 2 (.chk (aL (some ((↑j:Int) - 1)) (some ((↑j:Int) - 1 + 3)) none n && true) (by (simp <;> (omega))) (.s 3 (.byt (take ((Int.toNat ((↑j:Int) - 1 + 3) - Int.toNat ((↑j:Int) - 1)) * 1) (drop (Int.toNat ((↑j:Int) - 1) * 1) (map dB s))) (take (Int.toNat ((↑j:Int) - 1 + 3) - Int.toNat ((↑j:Int) - 1)) (drop (Int.toNat ((↑j:Int) - 1)) s)) (by (simp; done)) (.s 5 (.byt (map dB p) (p) rfl (.s 3 (.br (ByteArray.toList (ByteArray.mk (List.toArray (take (Int.toNat ((↑j:Int) - 1 + 3) - Int.toNat ((↑j:Int) - 1)) (drop (Int.toNat ((↑j:Int) - 1)) s)))) == ByteArray.toList (ByteArray.mk (List.toArray p))) (fun p8=>have p8f:=eq_of_beq p8; (.s 2 (.val 4 (iD ((↑j:Int) - 1)) (iD (ap s p (n - 2))) (by (exact aO (yb hl (by (omega)) bt))) (Hn.last last1 1 (():Unit) rfl [] ro)))) (fun p8=>have p8f:=au p8; (.s 3 (.ow ((↑j:Int) - 1 - 1) (.s 1 (.val 11 (iD ((↑j:Int) - 1 - 1)) (iD ((↑(j - 1):Int) - 1)) l6 (Hn.next next1 ⟨(j - 1),om,(((((((h * 16777619) % 4294967296) + ((s.getD (((j:Int) - 1).toNat * 1) default).toNat:Int)) % 4294967296) - ((1055306571 * ((s.getD (((j:Int) - 1 + 3).toNat * 1) default).toNat:Int)) % 4294967296)) % 4294967296)),Ag,(by (exact ue hl (by (omega)) bt)),⟨⟩⟩ Ah [] ro))))))))))))))))) (fun p7=>have p7f:=au p7; (.s 23 (.ow ((↑j:Int) - 1 - 1) (.s 1 (.val 11 (iD ((↑j:Int) - 1 - 1)) (iD ((↑(j - 1):Int) - 1)) l6 (Hn.next next1 ⟨(j - 1),om,(((((((h * 16777619) % 4294967296) + ((s.getD (((j:Int) - 1).toNat * 1) default).toNat:Int)) % 4294967296) - ((1055306571 * ((s.getD (((j:Int) - 1 + 3).toNat * 1) default).toNat:Int)) % 4294967296)) % 4294967296)),Ag,(by (exact ug hl (by (omega)) (by (omega)) hh hH bt)),⟨⟩⟩ Ah [] ro))))))))))))))))))))))))))))))) (fun p6=>have p6f:=aT p6; (Hn.last last1 0 (⟨(by (exact nq hl (by (omega)))),⟨⟩⟩:(hz:ap s p (n - 2) = -1) ×' Unit) rfl [] ro))))) (fun | ⟨j,hj,h,hh,hl,_⟩=>by kernel_rfl) ⟨(n - 3),om,(h2),om,(by (refine np om om hh2 hH (au p1))),⟨⟩⟩ [] ro (fc (fun | ⟨hz,_⟩=>(.s 1 (.out [] [] (iD (-1)) [] R (ok _ _ l6 wr)))) (fun | ()=>(.out [] [] (iD (ap s p (n - 2))) [] R (ok _ _ wr wr)))))))))))))))))))))))) (by kernel_rfl)
theorem qN {s p:List UInt8} {n:Nat} (hn:n = s.length) (h3:n = 3):ap s p (n - 2) = if s = p then 0 else -1:=by
 rw [show n - 2 = 0 + 1 from by omega,ap,List.drop_zero,List.take_of_length_le (by omega)]
 rfl
theorem Ir {s p:List UInt8} {n:Nat} (hn:n = s.length) (h3:n = 3) (e:(ByteArray.toList { data:=s.toArray } == ByteArray.toList { data:=p.toArray }) = true):0 = ap s p (n - 2):=by rw [qN hn h3,if_pos (EQ e)]
theorem Is {s p:List UInt8} {n:Nat} (hn:n = s.length) (h3:n = 3) (e:(ByteArray.toList { data:=s.toArray } == ByteArray.toList { data:=p.toArray }) = false):-1 = ap s p (n - 2):=by rw [qN hn h3,if_neg (ER e)]
theorem It {s p:List UInt8} {n:Nat} (h:n ≤ 2):-1 = ap s p (n - 2):=by rw [show n - 2 = 0 from by omega]; rfl
theorem ES (s p:List UInt8) (n:Nat) (hn:n = s.length) (hp:p.length = 3) (h4:n ≤ 1000000):SpecH false Tryz.prog 179 [.sl false n 1 (s.map dB),.sl false 3 1 (p.map dB)] [] (iD (ap s p (n - 2))) []:=by
 have hH:bL p 0 = bL p 0:=rfl
 refine SpecH.run T_ok ah Tryz.func179 rfl rfl rfl trivial rfl 1000 64 (fun R ok=>(.s 20 (.br (3 == (↑n:Int)) (fun p0=>have p0f:=eq_of_beq p0; (.s 8 (.byt (map dB s) (s) rfl (.s 3 (.byt (map dB p) (p) rfl (.s 2 (.br (ByteArray.toList (ByteArray.mk (List.toArray s)) == ByteArray.toList (ByteArray.mk (List.toArray p))) (fun p1=>have p1f:=eq_of_beq p1; (.s 1 (.out [] [] (iD 0) [] R (ok _ _ (by (exact aO (Ir hn (by (omega)) bt))) wr)))) (fun p1=>have p1f:=au p1; (.s 1 (.out [] [] (iD (-1)) [] R (ok _ _ (by (exact aO (Is hn (by (omega)) bt))) wr))))))))))) (fun p0=>have p0f:=au p0; (.s 6 (.br (decide ((↑n:Int) < 3)) (fun p2=>have p2f:=aS p2; (.s 1 (.out [] [] (iD (-1)) [] R (ok _ _ (by (exact aO (It (by (omega))))) wr)))) (fun p2=>have p2f:=aT p2; (.s 3 (.cl 193 false [] (.fn JG (@Go.Proofs.YtefjnofhgkjpmaaGreat.Vm.rk (s) (p) (n) om om om om (bL p 0) bt)) (.s 1 (.out [] [] (iD (ap s p (n - 2))) [] R (ok _ _ wr wr)))))))))))) (by kernel_rfl)
end Vm
end Go.Proofs.YtefjnofhgkjpmaaGreat
namespace Go.Proofs.YtefjnofhgkjpmaaGreat
open Go.RowKit Go.Bw Go.Vx
open List (length getD map take drop flatMap replicate)
namespace Vm
theorem Al {p:Prop} (h:p:=by ((refine aH ?_ ?_) <;> (repeat' (first | (refine aH ?_ ?_) | (with_reducible rfl) | (refine decide_eq_true ?_) | (refine Nat.ble_eq_true_of_le ?_) | (refine et ?_))) <;> (omega))):p:=h
def same (b:List UInt8) (i j:Nat):Nat → Nat
 | 0=>0
 | k + 1=>if i < b.length ∧ b.getD j default = b.getD i default then same b (i + 1) (j + 1) k + 1 else 0
theorem uh (b:List UInt8):∀ (k i j:Nat),same b i j k ≤ k
 | 0,i,j=>Nat.le_refl 0
 | k + 1,i,j=>by
  unfold same
  split
  ·exact Nat.succ_le_succ (uh b k (i + 1) (j + 1))
  ·omega
theorem i6 (b:List UInt8):∀ (k i j:Nat),i ≤ b.length → i + same b i j k ≤ b.length
 | 0,i,j,h=>h
 | k + 1,i,j,h=>by
  unfold same
  split
  ·next e=>have:=i6 b k (i + 1) (j + 1) e.1; omega
  ·exact h
theorem Am {b:List UInt8} {i j m a:Nat} (hs:a = m + same b (i + m) (j + m) (258 - m)) (h1:m < 258) (h2:i + m < b.length) (h3:b.getD (j + m) default = b.getD (i + m) default):a = (m + 1) + same b (i + (m + 1)) (j + (m + 1)) (258 - (m + 1)):=by
 rw [hs,show 258 - m = (258 - (m + 1)) + 1 from by omega,same,if_pos ⟨h2,h3⟩]
 rw [show i + m + 1 = i + (m + 1) from by omega,show j + m + 1 = j + (m + 1) from by omega]
 omega
theorem oV {b:List UInt8} {i j m a:Nat} (hs:a = m + same b (i + m) (j + m) (258 - m)) (h:m = 258 ∨ ¬ i + m < b.length ∨ b.getD (j + m) default ≠ b.getD (i + m) default):a = m:=by
 rw [hs]
 rcases h with h | h | h
 ·rw [h]; rfl
 ·cases k:258 - m with
  | zero=>rfl
  | succ k=>rw [same,if_neg (fun e=>h e.1)]; rfl
 ·cases k:258 - m with
  | zero=>rfl
  | succ k=>rw [same,if_neg (fun e=>h e.2)]; rfl
theorem uj {b:List UInt8} {i m:Nat}:b.getD (((i:Int) + (m:Int)).toNat * 1) default = b.getD (i + m) default:=congrArg (b.getD · default) (by omega)
theorem Iu {x y:UInt8} (h:(x.toNat:Int) = (y.toNat:Int)):x = y:=UInt8.toNat_inj.1 (Int.ofNat.inj h)
theorem r6 {b:List UInt8} {i j m a:Nat} (hs:a = m + same b (i + m) (j + m) (258 - m)) (h1:m < 258) (h2:i + m < b.length) (e:(((b.getD (((j:Int) + (m:Int)).toNat * 1) default).toNat:Int) == ((b.getD (((i:Int) + (m:Int)).toNat * 1) default).toNat:Int)) = true):a = m + 1 + same b (i + (m + 1)) (j + (m + 1)) (258 - (m + 1)):=by
 rw [uj,uj] at e
 exact Am hs h1 h2 (Iu (eq_of_beq e))
theorem yc {b:List UInt8} {i j m a:Nat} (hs:a = m + same b (i + m) (j + m) (258 - m)) (e:(((b.getD (((j:Int) + (m:Int)).toNat * 1) default).toNat:Int) == ((b.getD (((i:Int) + (m:Int)).toNat * 1) default).toNat:Int)) = false):(m:Int) = (a:Int):=by
 rw [uj,uj] at e
 rw [oV hs (.inr (.inr fun h=>au e (by rw [h])))]
theorem uk {b:List UInt8} {i j m a n:Nat} (hs:a = m + same b (i + m) (j + m) (258 - m)) (hn:n = b.length) (e:decide ((i:Int) + (m:Int) < (n:Int)) = false):(m:Int) = (a:Int):=by
 have:=of_decide_eq_false e
 rw [oV hs (.inr (.inl (by omega)))]
theorem um {b:List UInt8} {i j m a:Nat} (hs:a = m + same b (i + m) (j + m) (258 - m)) (hm:m ≤ 258) (e:decide ((m:Int) < 258) = false):(m:Int) = (a:Int):=by
 have:=of_decide_eq_false e
 rw [oV hs (.inl (by omega))]
theorem long (b:List UInt8) (n i j:Nat) (hn:n = b.length) (hN:n ≤ 1000000) (hi:i ≤ n) (hj:j < i):SpecH false Tryz.prog 155 [.sl false n 1 (b.map dB),iD i,iD j] [] (iD (same b i j 258:Nat)) []:=by
 refine SpecH.run T_ok ah Tryz.func155 rfl rfl rfl trivial rfl 1000 64 (fun R ok=>(.s 1 (Hn.inl T_ok ah false 35 0 (aA Tryz.prog 155 0) (fun (x:(m:Nat) ×' (hm:m ≤ 258) ×' (hi2:i + m ≤ n) ×' (hs:same b i j 258 = m + same b (i + m) (j + m) (258 - m)) ×' Unit)=>match x with | ⟨m,hm,hi2,hs,_⟩=>CutS.mk [(0,D.sl false n 1 (map dB b)),(1,nD i),(2,nD j),(6,iD (m:Nat))] [] 0) (fun (x:(m:Nat) ×' (hm:m ≤ 258) ×' (hi2:i + m ≤ n) ×' (hs:same b i j 258 = m + same b (i + m) (j + m) (258 - m)) ×' Unit)=>match x with | ⟨m,hm,hi2,hs,_⟩=>258 - m) [⟨Unit,.exit 0,fun x=>match x with | ()=>CutS.mk [(0,D.sl false n 1 (map dB b)),(1,nD i),(2,nD j),(6,iD (same b i j 258:Nat))] [] 0⟩] 1000 64 (fun | ⟨m,hm,hi2,hs,_⟩,Q,next1,last1=>(.s 6 (.br (decide ((↑m:Int) < 258)) (fun p0=>have p0f:=aS p0; (.s 5 (.ow ((↑i:Int) + (↑m:Int)) (.s 10 (.br (decide ((↑i:Int) + (↑m:Int) < (↑n:Int))) (fun p1=>have p1f:=aS p1; (.s 7 (.ow ((↑j:Int) + (↑m:Int)) (.s 2 (.chk (true && decide ((↑j:Int) + (↑m:Int) < (↑n:Int)) && true) Al (.s 3 (.opt ((map dB b)[Int.toNat ((↑j:Int) + (↑m:Int)) * 1]?) (dB (getD b (Int.toNat ((↑j:Int) + (↑m:Int)) * 1) default)) (av _ _ om) (.s 9 (.ow ((↑i:Int) + (↑m:Int)) (.s 2 (.chk (true && decide ((↑i:Int) + (↑m:Int) < (↑n:Int)) && true) Al (.s 3 (.opt ((map dB b)[Int.toNat ((↑i:Int) + (↑m:Int)) * 1]?) (dB (getD b (Int.toNat ((↑i:Int) + (↑m:Int)) * 1) default)) (av _ _ om) (.s 4 (.br ((↑(UInt8.toNat (getD b (Int.toNat ((↑j:Int) + (↑m:Int)) * 1) default)):Int) == (↑(UInt8.toNat (getD b (Int.toNat ((↑i:Int) + (↑m:Int)) * 1) default)):Int)) (fun p2=>have p2f:=eq_of_beq p2; (.s 3 (.ow ((↑m:Int) + 1) (.s 1 (.val 6 (iD ((↑m:Int) + 1)) (nD (m + 1)) (by (simp; done)) (Hn.next next1 ⟨(m + 1),om,om,(by (exact r6 hs (by (omega)) (by (omega)) bt)),⟨⟩⟩ (by show 258 - (m + 1) < 258 - m; clear next1 last1; omega) [] ro)))))) (fun p2=>have p2f:=au p2; (.val 6 (nD m) (nD (same b i j 258)) (by (exact aO (yc hs bt))) (Hn.last last1 0 (():Unit) rfl [] ro)))))))))))))))))) (fun p1=>have p1f:=aT p1; (.s 26 (.val 6 (nD m) (nD (same b i j 258)) (by (exact aO (uk hs hn bt))) (Hn.last last1 0 (():Unit) rfl [] ro))))))))) (fun p0=>have p0f:=aT p0; (.s 40 (.val 6 (nD m) (nD (same b i j 258)) (by (exact aO (um hs hm bt))) (Hn.last last1 0 (():Unit) rfl [] ro))))))) (fun | ⟨m,hm,hi2,hs,_⟩=>by kernel_rfl) ⟨(0),om,om,(by (simp only [Nat.add_zero,Nat.zero_add,Nat.sub_zero]; done)),⟨⟩⟩ [] ro (cb (fun | ()=>(.s 2 (.out [] [] (nD (same b i j 258)) [] R (ok _ _ wr wr)))))))) (by kernel_rfl)
theorem KC (b:List UInt8) (n i j:Nat) (hn:n = b.length) (hN:n ≤ 1000000) (hi:i ≤ n) (hj:j < i):SpecH false Tryz.prog 128 [.sl false n 1 (b.map dB),iD i,iD j] [] (iD (same b i j 258:Nat)) []:=by
 refine SpecH.run T_ok ah Tryz.func128 rfl rfl rfl trivial rfl 1000 64 (fun R ok=>(.s 2 (Hn.inl T_ok ah false 36 0 (aA Tryz.prog 128 0) (fun (x:(m:Nat) ×' (hm:m ≤ 258) ×' (hi2:i + m ≤ n) ×' (hs:same b i j 258 = m + same b (i + m) (j + m) (258 - m)) ×' Unit)=>match x with | ⟨m,hm,hi2,hs,_⟩=>CutS.mk [(0,D.sl false n 1 (map dB b)),(1,nD i),(2,nD j),(7,iD (m:Nat))] [] 0) (fun (x:(m:Nat) ×' (hm:m ≤ 258) ×' (hi2:i + m ≤ n) ×' (hs:same b i j 258 = m + same b (i + m) (j + m) (258 - m)) ×' Unit)=>match x with | ⟨m,hm,hi2,hs,_⟩=>258 - m) [⟨Unit,.exit 0,fun x=>match x with | ()=>CutS.mk [(0,D.sl false n 1 (map dB b)),(1,nD i),(2,nD j),(7,iD (same b i j 258:Nat))] [] 0⟩] 1000 64 (fun | ⟨m,hm,hi2,hs,_⟩,Q,next1,last1=>(.s 6 (.br (decide ((↑m:Int) < 258)) (fun p0=>have p0f:=aS p0; (.s 5 (.ow ((↑i:Int) + (↑m:Int)) (.s 10 (.br (decide ((↑i:Int) + (↑m:Int) < (↑n:Int))) (fun p1=>have p1f:=aS p1; (.s 7 (.ow ((↑j:Int) + (↑m:Int)) (.s 2 (.chk (true && decide ((↑j:Int) + (↑m:Int) < (↑n:Int)) && true) Al (.s 3 (.opt ((map dB b)[Int.toNat ((↑j:Int) + (↑m:Int)) * 1]?) (dB (getD b (Int.toNat ((↑j:Int) + (↑m:Int)) * 1) default)) (av _ _ om) (.s 9 (.ow ((↑i:Int) + (↑m:Int)) (.s 2 (.chk (true && decide ((↑i:Int) + (↑m:Int) < (↑n:Int)) && true) Al (.s 3 (.opt ((map dB b)[Int.toNat ((↑i:Int) + (↑m:Int)) * 1]?) (dB (getD b (Int.toNat ((↑i:Int) + (↑m:Int)) * 1) default)) (av _ _ om) (.s 4 (.br ((↑(UInt8.toNat (getD b (Int.toNat ((↑j:Int) + (↑m:Int)) * 1) default)):Int) == (↑(UInt8.toNat (getD b (Int.toNat ((↑i:Int) + (↑m:Int)) * 1) default)):Int)) (fun p2=>have p2f:=eq_of_beq p2; (.s 3 (.ow ((↑m:Int) + 1) (.s 1 (.val 7 (iD ((↑m:Int) + 1)) (nD (m + 1)) (by (simp; done)) (Hn.next next1 ⟨(m + 1),om,om,(by (exact r6 hs (by (omega)) (by (omega)) bt)),⟨⟩⟩ (by show 258 - (m + 1) < 258 - m; clear next1 last1; omega) [] ro)))))) (fun p2=>have p2f:=au p2; (.val 7 (nD m) (nD (same b i j 258)) (by (exact aO (yc hs bt))) (Hn.last last1 0 (():Unit) rfl [] ro)))))))))))))))))) (fun p1=>have p1f:=aT p1; (.s 26 (.val 7 (nD m) (nD (same b i j 258)) (by (exact aO (uk hs hn bt))) (Hn.last last1 0 (():Unit) rfl [] ro))))))))) (fun p0=>have p0f:=aT p0; (.s 40 (.val 7 (nD m) (nD (same b i j 258)) (by (exact aO (um hs hm bt))) (Hn.last last1 0 (():Unit) rfl [] ro))))))) (fun | ⟨m,hm,hi2,hs,_⟩=>by kernel_rfl) ⟨(0),om,om,(by (simp only [Nat.add_zero,Nat.zero_add,Nat.sub_zero]; done)),⟨⟩⟩ [] ro (cb (fun | ()=>(.s 2 (.out [] [] (nD (same b i j 258)) [] R (ok _ _ wr wr)))))))) (by kernel_rfl)
theorem longX (b:List UInt8) (n:Nat) (x y:Int) (hn:n = b.length) (hN:n ≤ 1000000) (hx:x ≤ n) (hy:0 ≤ y) (hxy:y < x):SpecH false Tryz.prog 155 [.sl false n 1 (b.map dB),iD x,iD y] [] (iD (same b x.toNat y.toNat 258:Nat)) []:=by
 obtain ⟨i,rfl⟩:=Int.eq_ofNat_of_zero_le (show 0 ≤ x by omega)
 obtain ⟨j,rfl⟩:=Int.eq_ofNat_of_zero_le hy
 exact long b n i j hn hN (by omega) (by omega)
theorem SameX (b:List UInt8) (n:Nat) (x y:Int) (hn:n = b.length) (hN:n ≤ 1000000) (hx:x ≤ n) (hy:0 ≤ y) (hxy:y < x):SpecH false Tryz.prog 128 [.sl false n 1 (b.map dB),iD x,iD y] [] (iD (same b x.toNat y.toNat 258:Nat)) []:=by
 obtain ⟨i,rfl⟩:=Int.eq_ofNat_of_zero_le (show 0 ≤ x by omega)
 obtain ⟨j,rfl⟩:=Int.eq_ofNat_of_zero_le hy
 exact KC b n i j hn hN (by omega) (by omega)
end Vm
end Go.Proofs.YtefjnofhgkjpmaaGreat

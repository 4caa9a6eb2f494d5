/- Part 7. -/
import Derived.Test.YtefjnofhgkjpmaaGreatTm5
import Derived.Test.YtefjnofhgkjpmaaGreatTm6
set_option linter.unusedVariables false
set_option linter.unusedSimpArgs false
set_option maxRecDepth 100000
set_option maxHeartbeats 4000000
open Bool renaming and_true → Mp, true_and → Ml
open Eq renaming trans → Pq
open Go.Fn renaming func → MB
open Go.IntKind renaming i64 → Mi, u64 → Nn, wrap → Mf
open Go.Value renaming int → MO
open Inhabited renaming default → jk
open Int renaming fdiv → ME, toNat → uV
open List renaming append_assoc → Mo, append_nil → MN, drop → MA, drop_eq_getElem_cons → Ni, drop_eq_nil_of_le → M6, filter_append → M2, filter_cons_of_neg → Nw, filter_cons_of_pos → Nv, filter_nil → P2, flatMap_append → NA, getElem_mem → MG, length_append → LZ, length_cons → Mr, length_drop → Mn, length_filter_le → OC, length_map → Ma, length_set → NZ, length_singleton → MI, length_take → L5, map_append → MJ, mem_cons_of_mem → Mg, mem_cons_self → Mj, mem_filter → Oq, mem_or_eq_of_mem_set → OZ, range → MH, range_succ → N8, take_sublist → PI, take_succ_eq_append_getElem → Mw
open List.Perm renaming refl → NV
open Nat renaming add_sub_cancel → NC, beq → LV, beq_refl → M0, ble → LX, ble_eq_true_of_le → L2, le_refl → Mc, le_trans → L0, lt_or_ge → Mv, min_le_left → PZ, mul_add → NN, mul_assoc → M5, mul_comm → Nr, mul_le_mul_left → Ok, mul_one → Ms, pow_le_pow_right → MQ, pow_succ → Ng, sub_self → M9, succ_ne_zero → NR, two_pow_pos → Nq, zero_add → Mq, zero_le → MK
namespace Go.Proofs.YtefjnofhgkjpmaaGreat
open Go.RowKit Go.Bw Go.Vx
open List (length getD map take drop flatMap replicate)
namespace Vp
theorem ou {p:Prop} (h:p:=by (refine aO ?_; (omega))):p:=h
theorem sc {p:Prop} (h:p:=by (refine decide_eq_true ?_; (omega))):p:=h
theorem xi {p:Prop} (h:p:=by ((refine aH ?_ ?_) <;> (repeat' (first | (refine aH ?_ ?_) | (with_reducible rfl) | (refine decide_eq_true ?_) | (refine L2 ?_) | (refine eu ?_))) <;> (omega))):p:=h
def me (a b:Nat):Int:=if a < b then -1 else if b < a then 1 else 0
theorem HH {a b:Nat} (h:(a:Int) < b):me a b = -1:=if_pos (by omega)
theorem HI {a b:Nat} (h:¬ (a:Int) < b) (h2:(b:Int) < a):me a b = 1:=(if_neg (by omega)).trans (if_pos (by omega))
theorem HJ {a b:Nat} (h:¬ (a:Int) < b) (h2:¬ (b:Int) < a):me a b = 0:=(if_neg (by omega)).trans (if_neg (by omega))
theorem xj (a b:Nat):me a b < 0 ↔ a < b:=by
 unfold me; split
 ·omega
 ·split <;> omega
def swp (X:List Nat) (i j:Nat):List Nat:=lk X ((X.set i (X.getD j jk)).set j (X.getD i jk))
theorem ox (X:List Nat) (i j:Nat):swp X i j = (X.set i (X.getD j jk)).set j (X.getD i jk):=aF _ _
theorem fZ (X:List Nat) (i j:Nat):(swp X i j).length = X.length:=by rw [ox,NZ,NZ]
theorem Ez {M:List Nat} {o a:Nat} (ho:o < M.length):aj (M.map nD) o [nD a] = (M.set o a).map nD:=by
 apply List.ext_getElem?
 intro i
 rw [cq (by simp only [Ma,MI]; omega),List.getElem?_map,List.getElem?_map,List.getElem?_set]
 simp only [MI]
 by_cases hi:o = i
 ·subst hi
  rw [if_pos (by omega),if_pos rfl,if_pos ho,M9]; rfl
 ·rw [if_neg (by omega),if_neg hi]
theorem tK {X:List Nat} {i j i' j' i2 j2:Nat} (hi:i < X.length) (hj:j < X.length) (h1:i' = i) (h2:j' = j) (h3:i2 = i) (h4:j2 = j):aj (aj (X.map nD) i' [D.v (.int .i64 ((X.getD j2 jk:Nat):Int))]) j' [D.v (.int .i64 ((X.getD i2 jk:Nat):Int))] = (swp X i j).map nD:=by
 subst h1 h2 h3 h4
 rw [show D.v (.int .i64 ((X.getD j2 jk:Nat):Int)) = nD (X.getD j2 jk) from rfl,Ez hi,show D.v (.int .i64 ((X.getD i2 jk:Nat):Int)) = nD (X.getD i2 jk) from rfl,Ez (by rw [NZ]; exact hj),ox]
theorem zR {X:List Nat} {o m:Nat} {z:Int} (ho:o < X.length) (hm:m ≤ X.length):(true && m.ble (aj (X.map nD) o [D.v (.int .i64 z)]).length) = true:=by
 rw [cP (by rw [Ma,MI]; omega),Ma,Ml]
 exact L2 hm
def HK (X:List Nat) (a b:Nat):Nat → List Nat
 | 0=>X
 | k + 1=>swp (HK X a b k) (a + k) (b + k)
theorem tL (X:List Nat) (a b:Nat):∀ k,(HK X a b k).length = X.length
 | 0=>rfl
 | k + 1=>by rw [HK,fZ,tL X a b k]
def dM (X:List Nat) (a b k:Nat):List Nat:=lk X (HK X a b k)
theorem oy (X:List Nat) (a b k:Nat):dM X a b k = HK X a b k:=aF _ _
theorem dn (X:List Nat) (a b k:Nat):(dM X a b k).length = X.length:=by rw [oy,tL]
theorem Cw (X:List Nat) (a b:Nat):dM X a b 0 = X:=oy X a b 0
theorem Cy (X:List Nat) (a b k:Nat):swp (dM X a b k) (a + k) (b + k) = dM X a b (k + 1):=by rw [oy,oy]; rfl
theorem EA (a b:Nat):SpecH false Tryz.prog 176 [nD a,nD b] [] (iD (me a b)) []:=by
 refine SpecH.run T_ok ai Tryz.func176 rfl rfl rfl trivial rfl 1000 64 (fun R ok=>(.s 22 (.f ((a:Int) != (a:Int)) (by (simp; done)) (.s 1 (.f ((b:Int) != (b:Int)) (by (simp; done)) (.s 4 (.br (decide ((a:Int) < (b:Int))) (fun p0=>have p0f:=aT p0; (.s 1 (.out [] [] (zI (-1)) [] R (ok _ _ (by ( rw [HH om])) wr)))) (fun p0=>have p0f:=aU p0; (.s 4 (.br (decide ((b:Int) < (a:Int))) (fun p1=>have p1f:=aT p1; (.s 1 (.out [] [] (zI 1) [] R (ok _ _ (by ( rw [HI om om])) wr)))) (fun p1=>have p1f:=aU p1; (.s 1 (.out [] [] (zI 0) [] R (ok _ _ (by ( rw [HJ om om])) wr)))))))))))))) (by kernel_rfl)
theorem qv (W:List Nat) (L:Nat) (hL:L = W.length) (x y:Nat) (hx:x < L) (hy:y < L):SpecH true Tryz.prog 175 [nD x,nD y,.ptr 0 0 0] [⟨[.sl false L 1 (W.map nD)], 152, false⟩] (iD (me (W.getD x jk) (W.getD y jk))) [⟨[.sl false L 1 (W.map nD)], 152, false⟩]:=by
 refine SpecH.run T_ok ai Tryz.func175 rfl rfl rfl ⟨rfl,trivial⟩ rfl 1000 64 (fun R ok=>(.s 7 (.chk (true && decide ((x:Int) < (L:Int)) && true) xi (.s 2 (.opt ((map nD W)[x * 1]?) (nD (getD W (x * 1) jk)) (av _ _ om) (.s 5 (.chk (true && decide ((y:Int) < (L:Int)) && true) xi (.s 2 (.opt ((map nD W)[y * 1]?) (nD (getD W (y * 1) jk)) (av _ _ om) (.s 1 (.cl 176 false [] (.fn JP (@EA (getD W (x * 1) jk) (getD W (y * 1) jk))) (.s 1 (.out [0] [0] (zI (me (getD W (x * 1) jk) (getD W (y * 1) jk))) [Blk.mk [D.sl false L 1 (map nD W)] 152 false] R (ok _ _ (by (rw [Ms,Ms])) wr)))))))))))))) (by kernel_rfl)
theorem HL (X:List Nat) (N:Nat) (hN:N = X.length) (hN2:N ≤ 1000) (W:List Nat) (L:Nat) (hL:L = W.length) (a b n:Nat) (h1:a + n ≤ N) (h2:b + n ≤ N):SpecH true Tryz.prog 201 [.ref 0 0 0 N 1,nD a,nD b,nD n,.fn (.func 175) [] [.ptr 1 1 0]] [⟨X.map nD, 3, true⟩,⟨[.sl false L 1 (W.map nD)], 152, false⟩] (.tup []) [⟨(dM X a b n).map nD, 3, true⟩,⟨[.sl false L 1 (W.map nD)], 152, false⟩]:=by
 refine SpecH.run T_ok ai Tryz.func201 rfl rfl rfl ⟨lx _,rfl,trivial⟩ rfl 1000 64 (fun R ok=>(.s 1 (.blk 0 0 (Blk.mk (map nD X) 3 true) (Blk.mk (map nD (dM X a b 0)) 3 true) (by (rw [Cw]; done)) (Hn.inl T_ok ai false 38 2 (aA Tryz.prog 201 0) (fun (x:(i:Nat) ×' (hi:i ≤ n) ×' Unit)=>match x with | ⟨i,hi,_⟩=>CutS.mk [(0,D.ref 0 0 0 N 1),(1,zN a),(2,zN b),(3,zN n),(10,nD i)] [⟨0,0,0,0,.b ⟨(dM X a b i).map nD,3,true⟩⟩,⟨1,1,1,1,.b ⟨[D.sl false L 1 (map nD W)],152,false⟩⟩] 24) (fun (x:(i:Nat) ×' (hi:i ≤ n) ×' Unit)=>match x with | ⟨i,hi,_⟩=>n - i) [⟨Unit,.exit 0,fun x=>match x with | ()=>CutS.mk [(0,D.ref 0 0 0 N 1),(1,zN a),(2,zN b),(3,zN n)] [⟨0,0,0,0,.b ⟨(dM X a b n).map nD,3,true⟩⟩,⟨1,1,1,1,.b ⟨[D.sl false L 1 (map nD W)],152,false⟩⟩] 24⟩] 1000 64 (fun | ⟨i,hi,_⟩,Q,next1,last1=>(.s 4 (.br (decide ((i:Int) < (n:Int))) (fun p0=>have p0f:=aT p0; (.s 6 (.ow ((a:Int) + (i:Int)) (.s 5 (.ow ((b:Int) + (i:Int)) (.s 5 (.ow ((b:Int) + (i:Int)) (.s 1 (.chk (true && decide ((b:Int) + (i:Int) < (N:Int))) sc (.s 2 (.opt ((map nD (dM X a b i))[0 + uV ((b:Int) + (i:Int)) * 1]?) (nD (getD (dM X a b i) (0 + uV ((b:Int) + (i:Int)) * 1) jk)) (av _ _ (by ( have h9:=dn X a b i; omega))) (.s 5 (.ow ((a:Int) + (i:Int)) (.s 1 (.chk (true && decide ((a:Int) + (i:Int) < (N:Int))) sc (.s 2 (.opt ((map nD (dM X a b i))[0 + uV ((a:Int) + (i:Int)) * 1]?) (nD (getD (dM X a b i) (0 + uV ((a:Int) + (i:Int)) * 1) jk)) (av _ _ (by ( have h9:=dn X a b i; omega))) (.s 1 (.chk (true && decide ((a:Int) + (i:Int) < (N:Int))) sc (.s 1 (.chk (true && LX (0 + uV ((a:Int) + (i:Int)) * 1 + 1) (length (map nD (dM X a b i)))) (by (simp;  have h9:=dn X a b i; omega)) (.lst (aj (map nD (dM X a b i)) (0 + uV ((a:Int) + (i:Int)) * 1) [zN (getD (dM X a b i) (0 + uV ((b:Int) + (i:Int)) * 1) jk)]) (aj (map nD (dM X a b i)) (uV ((a:Int) + (i:Int))) [zN (getD (dM X a b i) (uV ((b:Int) + (i:Int))) jk)]) (by (simp; done)) (.s 1 (.chk (true && decide ((b:Int) + (i:Int) < (N:Int))) sc (.s 1 (.chk (true && LX (0 + uV ((b:Int) + (i:Int)) * 1 + 1) (length (aj (map nD (dM X a b i)) (uV ((a:Int) + (i:Int))) [zN (getD (dM X a b i) (uV ((b:Int) + (i:Int))) jk)]))) (by ( have h9:=dn X a b i; exact zR om om)) (.lst (aj (aj (map nD (dM X a b i)) (uV ((a:Int) + (i:Int))) [zN (getD (dM X a b i) (uV ((b:Int) + (i:Int))) jk)]) (0 + uV ((b:Int) + (i:Int)) * 1) [zN (getD (dM X a b i) (0 + uV ((a:Int) + (i:Int)) * 1) jk)]) (aj (aj (map nD (dM X a b i)) (uV ((a:Int) + (i:Int))) [zN (getD (dM X a b i) (uV ((b:Int) + (i:Int))) jk)]) (uV ((b:Int) + (i:Int))) [zN (getD (dM X a b i) (uV ((a:Int) + (i:Int))) jk)]) (by (simp; done)) (.s 3 (.ow ((i:Int) + 1) (.s 1 (.val 10 (zI ((i:Int) + 1)) (zN (i + 1)) ou (.blk 0 0 (Blk.mk (aj (aj (map nD (dM X a b i)) (uV ((a:Int) + (i:Int))) [zN (getD (dM X a b i) (uV ((b:Int) + (i:Int))) jk)]) (uV ((b:Int) + (i:Int))) [zN (getD (dM X a b i) (uV ((a:Int) + (i:Int))) jk)]) 3 true) (Blk.mk (map nD (dM X a b (i + 1))) 3 true) (by ( have h9:=dn X a b i; refine aC (Pq (tK (i:=a + i) (j:=b + i) om om om om om om) ?_); rw [Cy])) (Hn.next next1 ⟨(i + 1),om,⟨⟩⟩ (by show n - (i + 1) < n - i; clear next1 last1; omega) [(0,0),(1,1)] ro))))))))))))))))))))))))))))))))) (fun p0=>have p0f:=aU p0; (.blk 0 0 (Blk.mk (map nD (dM X a b i)) 3 true) (Blk.mk (map nD (dM X a b n)) 3 true) (by (rw [show i = n from by (omega)])) (Hn.last last1 0 (():Unit) rfl [(0,0),(1,1)] ro)))))) (fun | ⟨i,hi,_⟩=>by kernel_rfl) ⟨(0),om,⟨⟩⟩ [(0,0),(1,1)] ro (cb (fun | ()=>(.out [0,1] [0,1] (D.tup []) [Blk.mk (map nD (dM X a b n)) 3 true,Blk.mk [D.sl false L 1 (map nD W)] 152 false] R (ok _ _ wr wr)))))))) (by kernel_rfl)
def gg (m:Nat):Nat → Nat → Nat → List Nat → List Nat
 | 0,i,_,X=>dM X (m - i) m i
 | f + 1,i,j,X=>if i = j then dM X (m - i) m i else if j < i then gg m f (i - j) j (dM X (m - i) m j) else gg m f i (j - i) (dM X (m - i) (m + j - i) i)
theorem HM {m f i j:Nat} {X:List Nat} (h:i = j):gg m f i j X = dM X (m - i) m i:=by
 cases f with
 | zero=>rfl
 | succ f=>exact if_pos h
theorem HN {m f i j:Nat} {X:List Nat} (h:j < i):gg m (f + 1) i j X = gg m f (i - j) j (dM X (m - i) m j):=(if_neg (by omega)).trans (if_pos h)
theorem HO {m f i j:Nat} {X:List Nat} (h:i < j):gg m (f + 1) i j X = gg m f i (j - i) (dM X (m - i) (m + j - i) i):=(if_neg (by omega)).trans (if_neg (by omega))
def xk (X:List Nat) (a m b:Nat):List Nat:=lk X (gg m (b - a) (m - a) (b - m) X)
theorem tM (X:List Nat) (a m b:Nat):xk X a m b = gg m (b - a) (m - a) (b - m) X:=aF _ _
def inI (W:List Nat) (a:Nat):Nat → List Nat → List Nat
 | 0,X=>X
 | j + 1,X=>if a < j + 1 ∧ W.getD (X.getD (j + 1) jk) jk < W.getD (X.getD j jk) jk then inI W a j (swp X (j + 1) j) else X
theorem HP {W:List Nat} {a j k:Nat} {X:List Nat} (hk:k + 1 = j) (h:a < j) (h2:W.getD (X.getD j jk) jk < W.getD (X.getD k jk) jk):inI W a j X = inI W a k (swp X j k):=by
 subst hk; exact if_pos ⟨h,h2⟩
theorem Cz {W:List Nat} {a j:Nat} {X:List Nat} (h:¬ a < j ∨ ¬ W.getD (X.getD j jk) jk < W.getD (X.getD (j - 1) jk) jk):inI W a j X = X:=by
 cases j with
 | zero=>rfl
 | succ j=>exact if_neg (fun q=>by rcases h with h | h; exact h q.1; exact h q.2)
theorem tN {W:List Nat} {a:Nat}:∀ (j:Nat) (X:List Nat),(inI W a j X).length = X.length
 | 0,_=>rfl
 | j + 1,X=>by
  rw [inI]; split
  ·rw [tN j,fZ]
  ·rfl
def HQ (W X:List Nat) (a:Nat):Nat → List Nat
 | 0=>X
 | k + 1=>inI W a (a + 1 + k) (HQ W X a k)
theorem tO (W X:List Nat) (a:Nat):∀ k,(HQ W X a k).length = X.length
 | 0=>rfl
 | k + 1=>by rw [HQ,tN,tO W X a k]
def inQ (W X:List Nat) (a k:Nat):List Nat:=lk X (HQ W X a k)
theorem oz (W X:List Nat) (a k:Nat):inQ W X a k = HQ W X a k:=aF _ _
theorem iU (W X:List Nat) (a k:Nat):(inQ W X a k).length = X.length:=by rw [oz,tO]
theorem xl (W X:List Nat) (a:Nat):inQ W X a 0 = X:=oz W X a 0
theorem xm (W X:List Nat) (a k:Nat):inI W a (a + 1 + k) (inQ W X a k) = inQ W X a (k + 1):=by rw [oz,oz]; rfl
theorem CA (X:List Nat) (N:Nat) (hN:N = X.length) (hN2:N ≤ 1000) (W:List Nat) (L:Nat) (hL:L = W.length) (a b n:Int) (a' b' n' : Nat) (e1:a = a') (e2:b = b') (e3:n = n') (h1:a' + n' ≤ N) (h2:b' + n' ≤ N):SpecH true Tryz.prog 201 [.ref 0 0 0 N 1,iD a,iD b,iD n,.fn (.func 175) [] [.ptr 1 1 0]] [⟨X.map nD, 3, true⟩,⟨[.sl false L 1 (W.map nD)], 152, false⟩] (.tup []) [⟨(dM X a' b' n').map nD, 3, true⟩,⟨[.sl false L 1 (W.map nD)], 152, false⟩]:=by
 subst e1 e2 e3
 exact HL X N hN hN2 W L hL a' b' n' h1 h2
theorem CB (X:List Nat) (N:Nat) (hN:N = X.length) (hN2:N ≤ 1000) (W:List Nat) (L:Nat) (hL:L = W.length) (m i j:Nat) (h1:i ≤ m) (h2:m + j ≤ N) (h3:j ≤ i):SpecH true Tryz.prog 201 [.ref 0 0 0 N 1,iD ((m:Int) - i),iD ((m:Nat):Int),nD j,.fn (.func 175) [] [.ptr 1 1 0]] [⟨X.map nD, 3, true⟩,⟨[.sl false L 1 (W.map nD)], 152, false⟩] (.tup []) [⟨(dM X (m - i) m j).map nD, 3, true⟩,⟨[.sl false L 1 (W.map nD)], 152, false⟩]:=CA X N hN hN2 W L hL _ _ _ (m - i) m j (by omega) rfl rfl (by omega) (by omega)
theorem HR (X:List Nat) (N:Nat) (hN:N = X.length) (hN2:N ≤ 1000) (W:List Nat) (L:Nat) (hL:L = W.length) (m i j:Nat) (h1:i ≤ m) (h2:m + j ≤ N) (h3:i ≤ j):SpecH true Tryz.prog 201 [.ref 0 0 0 N 1,iD ((m:Int) - i),iD ((m:Int) + j - i),nD i,.fn (.func 175) [] [.ptr 1 1 0]] [⟨X.map nD, 3, true⟩,⟨[.sl false L 1 (W.map nD)], 152, false⟩] (.tup []) [⟨(dM X (m - i) (m + j - i) i).map nD, 3, true⟩,⟨[.sl false L 1 (W.map nD)], 152, false⟩]:=CA X N hN hN2 W L hL _ _ _ (m - i) (m + j - i) i (by omega) (by omega) rfl (by omega) (by omega)
theorem EB {m f i j:Nat} {X T:List Nat} (hR:gg m f i j X = T) (hf:i + j ≤ f) (h1:1 ≤ j) (h:j < i):gg m (f - 1) (i - j) j (dM X (m - i) m j) = T:=by
 obtain ⟨g,rfl⟩:∃ g,f = g + 1:=⟨f - 1,by omega⟩
 rw [← hR,HN h]; rfl
theorem EC {m f i j:Nat} {X T:List Nat} (hR:gg m f i j X = T) (hf:i + j ≤ f) (h1:1 ≤ i) (h:i < j):gg m (f - 1) i (j - i) (dM X (m - i) (m + j - i) i) = T:=by
 obtain ⟨g,rfl⟩:∃ g,f = g + 1:=⟨f - 1,by omega⟩
 rw [← hR,HO h]; rfl
theorem ED {m f i j:Nat} {X T:List Nat} (hR:gg m f i j X = T) (h:i = j):dM X (m - i) m i = T:=by rw [← hR,HM h]
theorem HS (X:List Nat) (N:Nat) (hN:N = X.length) (hN2:N ≤ 1000) (W:List Nat) (L:Nat) (hL:L = W.length) (a m b:Nat) (h1:a < m) (h2:m < b) (h3:b ≤ N) (T:List Nat) (hT:xk X a m b = T):SpecH true Tryz.prog 200 [.ref 0 0 0 N 1,nD a,nD m,nD b,.fn (.func 175) [] [.ptr 1 1 0]] [⟨X.map nD, 3, true⟩,⟨[.sl false L 1 (W.map nD)], 152, false⟩] (.tup []) [⟨(T).map nD, 3, true⟩,⟨[.sl false L 1 (W.map nD)], 152, false⟩]:=by
 refine SpecH.run T_ok ai Tryz.func200 rfl rfl rfl ⟨lx _,rfl,trivial⟩ rfl 1000 64 (fun R ok=>(.s 4 (.ow ((m:Int) - (a:Int)) (.s 5 (.ow ((b:Int) - (m:Int)) (.s 1 (.val 10 (zI ((m:Int) - (a:Int))) (zN (m - a)) ou (.val 11 (zI ((b:Int) - (m:Int))) (zN (b - m)) ou (Hn.inl T_ok ai false 58 2 (aA Tryz.prog 200 0) (fun (x:(i:Nat) ×' (j:Nat) ×' (f:Nat) ×' (Y:List Nat) ×' (hY:Y.length = N) ×' (hi:1 ≤ i ∧ i ≤ m) ×' (hj:1 ≤ j ∧ m + j ≤ N) ×' (hf:i + j ≤ f) ×' (hR:gg m f i j Y = T) ×' Unit)=>match x with | ⟨i,j,f,Y,hY,hi,hj,hf,hR,_⟩=>CutS.mk [(0,D.ref 0 0 0 N 1),(2,zN m),(4,D.fn (MB 175) [] [D.ptr 1 1 0]),(10,nD i),(11,nD j)] [⟨0,0,0,0,.b ⟨Y.map nD,3,true⟩⟩,⟨1,1,1,1,.b ⟨[D.sl false L 1 (map nD W)],152,false⟩⟩] 24) (fun (x:(i:Nat) ×' (j:Nat) ×' (f:Nat) ×' (Y:List Nat) ×' (hY:Y.length = N) ×' (hi:1 ≤ i ∧ i ≤ m) ×' (hj:1 ≤ j ∧ m + j ≤ N) ×' (hf:i + j ≤ f) ×' (hR:gg m f i j Y = T) ×' Unit)=>match x with | ⟨i,j,f,Y,hY,hi,hj,hf,hR,_⟩=>i + j) [⟨(i2:Nat) ×' (Y2:List Nat) ×' (hY2:Y2.length = N) ×' (hi2:1 ≤ i2 ∧ i2 ≤ m ∧ m + i2 ≤ N) ×' (hR2:dM Y2 (m - i2) m i2 = T) ×' Unit,.exit 0,fun x=>match x with | ⟨i2,Y2,hY2,hi2,hR2,_⟩=>CutS.mk [(0,D.ref 0 0 0 N 1),(2,zN m),(4,D.fn (MB 175) [] [D.ptr 1 1 0]),(10,nD i2),(11,nD i2)] [⟨0,0,0,0,.b ⟨Y2.map nD,3,true⟩⟩,⟨1,1,1,1,.b ⟨[D.sl false L 1 (map nD W)],152,false⟩⟩] 24⟩] 1000 64 (fun | ⟨i,j,f,Y,hY,hi,hj,hf,hR,_⟩,Q,next1,last1=>(.s 4 (.br ((i:Int) != (j:Int)) (fun p0=>have p0f:=qb p0; (.s 4 (.br (decide ((j:Int) < (i:Int))) (fun p1=>have p1f:=aT p1; (.s 5 (.ow ((m:Int) - (i:Int)) (.s 4 (.call 201 true [0,1] (true) wr ([D.ref 0 0 0 N 1,zI ((m:Int) - (i:Int)),zN m,zN j,D.fn (MB 175) [] [D.ptr 1 1 0]]) _ (bY.refl _) (ab (map nD Y) && true) (by (simp; done)) _ _ _ (CallOk.fn (aw.of Tryz.func201 rfl rfl) (@CB (Y) (N) om om (W) (L) om (m) (i) (j) om om om)) (.s 4 (.ow ((i:Int) - (j:Int)) (.s 1 (.val 10 (zI ((i:Int) - (j:Int))) (zN (i - j)) ou (Hn.next next1 ⟨(i - j),(j),(f - 1),(dM Y (m - i) m j),(by (rw [dn]; (omega))),om,om,om,(by ( exact EB hR om om om)),⟨⟩⟩ (by show i - j + j < i + j; clear next1 last1; omega) [(0,0),(1,1)] ro)))))))))) (fun p1=>have p1f:=aU p1; (.s 5 (.ow ((m:Int) - (i:Int)) (.s 4 (.ow ((m:Int) + (j:Int)) (.s 3 (.ow ((m:Int) + (j:Int) - (i:Int)) (.s 3 (.call 201 true [0,1] (true) wr ([D.ref 0 0 0 N 1,zI ((m:Int) - (i:Int)),zI ((m:Int) + (j:Int) - (i:Int)),zN i,D.fn (MB 175) [] [D.ptr 1 1 0]]) _ (bY.refl _) (ab (map nD Y) && true) (by (simp; done)) _ _ _ (CallOk.fn (aw.of Tryz.func201 rfl rfl) (@HR (Y) (N) om om (W) (L) om (m) (i) (j) om om om)) (.s 4 (.ow ((j:Int) - (i:Int)) (.s 1 (.val 11 (zI ((j:Int) - (i:Int))) (zN (j - i)) ou (Hn.next next1 ⟨(i),(j - i),(f - 1),(dM Y (m - i) (m + j - i) i),(by (rw [dn]; (omega))),om,om,om,(by ( exact EC hR om om om)),⟨⟩⟩ (by show i + (j - i) < i + j; clear next1 last1; omega) [(0,0),(1,1)] ro))))))))))))))))) (fun p0=>have p0f:=qc p0; (.val 11 (zN j) (zN i) ou (Hn.last last1 0 (⟨(i),(Y),om,om,(by ( rw [ED hR om])),⟨⟩⟩:(i2:Nat) ×' (Y2:List Nat) ×' (hY2:Y2.length = N) ×' (hi2:1 ≤ i2 ∧ i2 ≤ m ∧ m + i2 ≤ N) ×' (hR2:dM Y2 (m - i2) m i2 = T) ×' Unit) rfl [(0,0),(1,1)] ro)))))) (fun | ⟨i,j,f,Y,hY,hi,hj,hf,hR,_⟩=>by kernel_rfl) ⟨(m - a),(b - m),(b - a),(X),om,om,om,om,(by (exact (tM X a m b).symm.trans hT)),⟨⟩⟩ [(0,0),(1,1)] ro (cb (fun | ⟨i2,Y2,hY2,hi2,hR2,_⟩=>(.s 5 (.ow ((m:Int) - (i2:Int)) (.s 4 (.call 201 true [0,1] (true) wr ([D.ref 0 0 0 N 1,zI ((m:Int) - (i2:Int)),zN m,zN i2,D.fn (MB 175) [] [D.ptr 1 1 0]]) _ (bY.refl _) (ab (map nD Y2) && true) (by (simp; done)) _ _ _ (CallOk.fn (aw.of Tryz.func201 rfl rfl) (@CB (Y2) (N) om om (W) (L) om (m) (i2) (i2) om om om)) (.out [0,1] [0,1] (D.tup []) [Blk.mk (map nD (dM Y2 (m - i2) m i2)) 3 true,Blk.mk [D.sl false L 1 (map nD W)] 152 false] R (ok _ _ wr (by (simp_all; done))))))))))))))))))) (by kernel_rfl)
def bw (L:Nat) (X:List Nat):Prop:=∀ x ∈ X,x < L
theorem bw.at {L:Nat} {X:List Nat} (h:bw L X) {t:Nat} (ht:t < X.length):X.getD t jk < L:=by
 rw [List.getD_eq_getElem?_getD,List.getElem?_eq_getElem ht]; exact h _ (MG ht)
theorem bw.swp {L:Nat} {X:List Nat} (h:bw L X) {i j:Nat} (hi:i < X.length) (hj:j < X.length):bw L (swp X i j):=by
 intro x hx
 rw [ox] at hx
 rcases OZ hx with q | q
 ·rcases OZ q with q | q
  ·exact h x q
  ·rw [q]; exact h.at hj
 ·rw [q]; exact h.at hi
theorem bw.inI {L:Nat} {W:List Nat} {a:Nat}:∀ (j:Nat) {X:List Nat},bw L X → j < X.length → bw L (inI W a j X)
 | 0,_,h,_=>h
 | j + 1,X,h,hj=>by
  rw [Vp.inI]; split
  ·exact bw.inI j (h.swp hj (by omega)) (by rw [fZ]; omega)
  ·exact h
theorem bw.inQ {L:Nat} {W X:List Nat} {a:Nat} (h:bw L X):∀ (k:Nat),a + k < X.length → bw L (inQ W X a k)
 | 0,_=>by rw [xl]; exact h
 | k + 1,hk=>by
  rw [← xm]
  exact bw.inI _ (bw.inQ h k (by omega)) (by rw [iU]; omega)
theorem EE {W Y T:List Nat} {a j u v:Nat} (hR:inI W a j Y = T) (h:a < j) (hu:u = j) (hv:v = j - 1) (h2:me (W.getD (Y.getD u jk) jk) (W.getD (Y.getD v jk) jk) < 0):inI W a (j - 1) (swp Y j (j - 1)) = T:=by
 subst hu hv
 rw [← hR]; exact (HP (by omega) h ((xj _ _).1 h2)).symm
theorem EF {W Y T:List Nat} {a j:Nat} (hR:inI W a j Y = T) (h:¬ a < j):Y = T:=by rw [← hR,Cz (.inl h)]
theorem EG {W Y T:List Nat} {a j u v:Nat} (hR:inI W a j Y = T) (hu:u = j) (hv:v = j - 1) (h2:¬ me (W.getD (Y.getD u jk) jk) (W.getD (Y.getD v jk) jk) < 0):Y = T:=by
 subst hu hv
 rw [← hR,Cz (.inr fun q=>h2 ((xj _ _).2 q))]
theorem HT (X:List Nat) (N:Nat) (hN:N = X.length) (hN2:N ≤ 1000) (W:List Nat) (L:Nat) (hL:L = W.length) (hA:bw L X) (a b:Nat) (h1:a ≤ b) (h3:b ≤ N) (T:List Nat) (hT:inQ W X a (b - (a + 1)) = T):SpecH true Tryz.prog 196 [.ref 0 0 0 N 1,nD a,nD b,.fn (.func 175) [] [.ptr 1 1 0]] [⟨X.map nD, 3, true⟩,⟨[.sl false L 1 (W.map nD)], 152, false⟩] (.tup []) [⟨(T).map nD, 3, true⟩,⟨[.sl false L 1 (W.map nD)], 152, false⟩]:=by
 refine SpecH.run T_ok ai Tryz.func196 rfl rfl rfl ⟨lx _,rfl,trivial⟩ rfl 1000 64 (fun R ok=>(.s 3 (.ow ((a:Int) + 1) (.s 1 (.val 8 (zI ((a:Int) + 1)) (zN (a + 1 + 0)) ou (.blk 0 0 (Blk.mk (map nD X) 3 true) (Blk.mk (map nD (inQ W X a 0)) 3 true) (by (rw [xl]; done)) (Hn.inl T_ok ai false 53 2 (aA Tryz.prog 196 0) (fun (x:(k:Nat) ×' (hk:k ≤ b - (a + 1)) ×' Unit)=>match x with | ⟨k,hk,_⟩=>CutS.mk [(0,D.ref 0 0 0 N 1),(1,zN a),(2,zN b),(3,D.fn (MB 175) [] [D.ptr 1 1 0]),(8,nD (a + 1 + k))] [⟨0,0,0,0,.b ⟨(inQ W X a k).map nD,3,true⟩⟩,⟨1,1,1,1,.b ⟨[D.sl false L 1 (map nD W)],152,false⟩⟩] 24) (fun (x:(k:Nat) ×' (hk:k ≤ b - (a + 1)) ×' Unit)=>match x with | ⟨k,hk,_⟩=>b - (a + 1) - k) [⟨Unit,.exit 0,fun x=>match x with | ()=>CutS.mk [(0,D.ref 0 0 0 N 1),(1,zN a),(2,zN b),(3,D.fn (MB 175) [] [D.ptr 1 1 0])] [⟨0,0,0,0,.b ⟨T.map nD,3,true⟩⟩,⟨1,1,1,1,.b ⟨[D.sl false L 1 (map nD W)],152,false⟩⟩] 24⟩] 1000 64 (fun | ⟨k,hk,_⟩,Q,next1,last1=>(.s 4 (.br (decide ((↑(a + 1 + k):Int) < (b:Int))) (fun p0=>have p0f:=aT p0; (.s 2 (Hn.inl T_ok ai false 53 2 (aA Tryz.prog 196 1) (fun (x:(j:Nat) ×' (Y:List Nat) ×' (hY:Y.length = N) ×' (hj:a ≤ j ∧ j ≤ a + 1 + k) ×' (hB:bw L Y) ×' (hR:inI W a j Y = inQ W X a (k + 1)) ×' Unit)=>match x with | ⟨j,Y,hY,hj,hB,hR,_⟩=>CutS.mk [(0,D.ref 0 0 0 N 1),(1,zN a),(2,zN b),(3,D.fn (MB 175) [] [D.ptr 1 1 0]),(8,zN (a + 1 + k)),(9,nD j)] [⟨0,0,0,0,.b ⟨Y.map nD,3,true⟩⟩,⟨1,1,1,1,.b ⟨[D.sl false L 1 (map nD W)],152,false⟩⟩] 24) (fun (x:(j:Nat) ×' (Y:List Nat) ×' (hY:Y.length = N) ×' (hj:a ≤ j ∧ j ≤ a + 1 + k) ×' (hB:bw L Y) ×' (hR:inI W a j Y = inQ W X a (k + 1)) ×' Unit)=>match x with | ⟨j,Y,hY,hj,hB,hR,_⟩=>j) [⟨Unit,.exit 2,fun x=>match x with | ()=>CutS.mk [(0,D.ref 0 0 0 N 1),(1,zN a),(2,zN b),(3,D.fn (MB 175) [] [D.ptr 1 1 0]),(8,zN (a + 1 + k))] [⟨0,0,0,0,.b ⟨(inQ W X a (k + 1)).map nD,3,true⟩⟩,⟨1,1,1,1,.b ⟨[D.sl false L 1 (map nD W)],152,false⟩⟩] 24⟩] 1000 64 (fun | ⟨j,Y,hY,hj,hB,hR,_⟩,Q,next2,last2=>(.s 7 (.br (decide ((a:Int) < (j:Int))) (fun p1=>have p1f:=aT p1; (.s 6 (.chk (true && decide ((j:Int) < (N:Int))) sc (.s 3 (.opt ((map nD Y)[0 + j * 1]?) (nD (getD Y (0 + j * 1) jk)) (av _ _ om) (.s 7 (.ow ((j:Int) - 1) (.s 2 (.chk (decide (0 ≤ (j:Int) - 1) && decide ((j:Int) - 1 < (N:Int))) xi (.s 3 (.opt ((map nD Y)[0 + uV ((j:Int) - 1) * 1]?) (nD (getD Y (0 + uV ((j:Int) - 1) * 1) jk)) (av _ _ om) (.s 2 (.cl 175 true [1] (.fn wO (@qv (W) (L) om (getD Y (0 + j * 1) jk) (getD Y (0 + uV ((j:Int) - 1) * 1) jk) (by ( exact hB.at om)) (by ( exact hB.at om)))) (.s 4 (.br (decide (me (getD W (getD Y (0 + j * 1) jk) jk) (getD W (getD Y (0 + uV ((j:Int) - 1) * 1) jk) jk) < 0)) (fun p2=>have p2f:=aT p2; (.s 7 (.ow ((j:Int) - 1) (.s 4 (.ow ((j:Int) - 1) (.s 1 (.chk (decide (0 ≤ (j:Int) - 1) && decide ((j:Int) - 1 < (N:Int))) xi (.s 2 (.opt ((map nD Y)[0 + uV ((j:Int) - 1) * 1]?) (nD (getD Y (0 + uV ((j:Int) - 1) * 1) jk)) (av _ _ om) (.s 3 (.chk (true && decide ((j:Int) < (N:Int))) sc (.s 2 (.opt ((map nD Y)[0 + j * 1]?) (nD (getD Y (0 + j * 1) jk)) (av _ _ om) (.s 1 (.chk (true && decide ((j:Int) < (N:Int))) sc (.s 1 (.chk (true && LX (0 + j * 1 + 1) (length (map nD Y))) (by (simp;  have h9:=iU W X a k; omega)) (.lst (aj (map nD Y) (0 + j * 1) [zN (getD Y (0 + uV ((j:Int) - 1) * 1) jk)]) (aj (map nD Y) j [zN (getD Y (uV ((j:Int) - 1)) jk)]) (by (simp; done)) (.s 1 (.chk (decide (0 ≤ (j:Int) - 1) && decide ((j:Int) - 1 < (N:Int))) xi (.s 1 (.chk (true && LX (0 + uV ((j:Int) - 1) * 1 + 1) (length (aj (map nD Y) j [zN (getD Y (uV ((j:Int) - 1)) jk)]))) (by ( exact zR om om)) (.lst (aj (aj (map nD Y) j [zN (getD Y (uV ((j:Int) - 1)) jk)]) (0 + uV ((j:Int) - 1) * 1) [zN (getD Y (0 + j * 1) jk)]) (aj (aj (map nD Y) j [zN (getD Y (uV ((j:Int) - 1)) jk)]) (uV ((j:Int) - 1)) [zN (getD Y j jk)]) (by (simp; done)) (.s 3 (.ow ((j:Int) - 1) (.s 1 (.val 9 (zI ((j:Int) - 1)) (zN (j - 1)) ou (.blk 0 0 (Blk.mk (aj (aj (map nD Y) j [zN (getD Y (uV ((j:Int) - 1)) jk)]) (uV ((j:Int) - 1)) [zN (getD Y j jk)]) 3 true) (Blk.mk (map nD (swp Y j (j - 1))) 3 true) (by ( exact aC (tK om om om om om om))) (Hn.next next2 ⟨(j - 1),(swp Y j (j - 1)),(by (rw [fZ]; (omega))),om,(by ( exact hB.swp om om)),(by ( exact EE (u:=0 + j * 1) (v:=0 + ((j:Int) - 1).toNat * 1) hR om om om bu)),⟨⟩⟩ (by show j - 1 < j; clear next2 last2 next1 last1; omega) [(0,0),(1,1)] ro))))))))))))))))))))))))))))) (fun p2=>have p2f:=aU p2; (.blk 0 0 (Blk.mk (map nD Y) 3 true) (Blk.mk (map nD (inQ W X a (k + 1))) 3 true) (by ( rw [EG (u:=0 + j * 1) (v:=0 + ((j:Int) - 1).toNat * 1) hR om om bu])) (Hn.last last2 0 (():Unit) rfl [(0,0),(1,1)] ro)))))))))))))))))) (fun p1=>have p1f:=aU p1; (.s 24 (.blk 0 0 (Blk.mk (map nD Y) 3 true) (Blk.mk (map nD (inQ W X a (k + 1))) 3 true) (by ( rw [EF hR om])) (Hn.last last2 0 (():Unit) rfl [(0,0),(1,1)] ro))))))) (fun | ⟨j,Y,hY,hj,hB,hR,_⟩=>by kernel_rfl) ⟨(a + 1 + k),(inQ W X a k),(by ( have h9:=iU W X a k; omega)),om,(by ( have h9:=iU W X a k; exact bw.inQ hA k om)),(by (exact xm W X a k)),⟨⟩⟩ [(0,0),(1,1)] ro (cb (fun | ()=>(.s 3 (.ow ((↑(a + 1 + k):Int) + 1) (.s 1 (.val 8 (zI ((↑(a + 1 + k):Int) + 1)) (zN (a + 1 + (k + 1))) ou (Hn.next next1 ⟨(k + 1),om,⟨⟩⟩ (by show b - (a + 1) - (k + 1) < b - (a + 1) - k; clear next1 last1; omega) [(0,0),(1,1)] ro)))))))))) (fun p0=>have p0f:=aU p0; (.blk 0 0 (Blk.mk (map nD (inQ W X a k)) 3 true) (Blk.mk (map nD T) 3 true) (by ( rw [← hT,show b - (a + 1) = k from by omega])) (Hn.last last1 0 (():Unit) rfl [(0,0),(1,1)] ro)))))) (fun | ⟨k,hk,_⟩=>by kernel_rfl) ⟨(0),om,⟨⟩⟩ [(0,0),(1,1)] ro (cb (fun | ()=>(.out [0,1] [0,1] (D.tup []) [Blk.mk (map nD T) 3 true,Blk.mk [D.sl false L 1 (map nD W)] 152 false] R (ok _ _ wr wr))))))))))) (by kernel_rfl)
end Vp
end Go.Proofs.YtefjnofhgkjpmaaGreat
namespace Go.Proofs.YtefjnofhgkjpmaaGreat
open Go.RowKit Go.Bw Go.Vx
open List (length getD map take drop flatMap replicate)
namespace Vp
theorem dE {p:Prop} (h:p:=by (refine decide_eq_true ?_; (omega))):p:=h
theorem oD {p:Prop} (h:p:=by (refine decide_eq_false ?_; (omega))):p:=h
theorem qw {p:Prop} (h:p:=by (refine aO ?_; (omega))):p:=h
theorem zT {p:Prop} (h:p:=by show y - ((x + y) / 2 + 1) < y - x; clear next1 last1; omega):p:=h
theorem zU {p:Prop} (h:p:=by show (x + y) / 2 - x < y - x; clear next1 last1; omega):p:=h
theorem zV {p:Prop} (h:p:=by ( have z:=xo hR om; refine aO ?_; omega)):p:=h
theorem zW {p:Prop} (h:p:=by ((refine aH ?_ ?_) <;> (repeat' (first | (refine aH ?_ ?_) | (with_reducible rfl) | (refine decide_eq_true ?_) | (refine L2 ?_) | (refine eu ?_))) <;> (omega))):p:=h
theorem zX {p:Prop} (h:p:=by ( have z:=hE.e3 om; refine aO ?_; omega)):p:=h
theorem zY {p:Prop} (h:p:=by ( have z:=hE.e4 om; refine aO ?_; omega)):p:=h
theorem HU {p:Prop} (h:p:=by show (!decide _) = true; rw [decide_eq_false (show ¬ HV W X _ _ < 0 from hp)]; rfl):p:=h
theorem CC {p:Prop} (h:p:=by show ¬ (!decide _) = true; rw [decide_eq_true (show HV W X _ _ < 0 from hp)]; decide):p:=h
theorem CD {p:Prop} (h:p:=by ( exact Ki (u:=0 + (((x:Int) + (y:Int)) / 2).toNat * 1) (v:=0 + (((a:Int) + (b:Int)) / 2 + (m:Int) - 1 - ((x:Int) + (y:Int)) / 2).toNat * 1) hR om om om om bu)):p:=h
theorem CE {p:Prop} (h:p:=by ( exact Kj (u:=0 + (((x:Int) + (y:Int)) / 2).toNat * 1) (v:=0 + (((a:Int) + (b:Int)) / 2 + (m:Int) - 1 - ((x:Int) + (y:Int)) / 2).toNat * 1) hR om om om om bu)):p:=h
def gh (p:Nat → Bool):Nat → Nat → Nat → Nat
 | 0,i,_=>i
 | f + 1,i,j=>if i < j then (if p ((i + j) / 2) = true then gh p f ((i + j) / 2 + 1) j else gh p f i ((i + j) / 2)) else i
theorem xo {p:Nat → Bool} {f i j T:Nat} (hR:gh p f i j = T) (h:¬ i < j):i = T:=by
 rw [← hR]; cases f with
 | zero=>rfl
 | succ f=>exact (if_neg h).symm
theorem EH {p:Nat → Bool} {f i j T:Nat} (hR:gh p f i j = T) (hf:j - i ≤ f) (h:i < j) (hp:p ((i + j) / 2) = true):gh p (f - 1) ((i + j) / 2 + 1) j = T:=by
 obtain ⟨g,rfl⟩:∃ g,f = g + 1:=⟨f - 1,by omega⟩
 rw [← hR]; exact ((if_pos h).trans (if_pos hp)).symm
theorem EI {p:Nat → Bool} {f i j T:Nat} (hR:gh p f i j = T) (hf:j - i ≤ f) (h:i < j) (hp:¬ p ((i + j) / 2) = true):gh p (f - 1) i ((i + j) / 2) = T:=by
 obtain ⟨g,rfl⟩:∃ g,f = g + 1:=⟨f - 1,by omega⟩
 rw [← hR]; exact ((if_pos h).trans (if_neg hp)).symm
theorem lN {p:Nat → Bool}:∀ (f i j:Nat),i ≤ j → i ≤ gh p f i j ∧ gh p f i j ≤ j
 | 0,i,j,h=>⟨Mc _,h⟩
 | f + 1,i,j,h=>by
  rw [gh]; split
  ·split
   ·have:=lN (p:=p) f ((i + j) / 2 + 1) j (by omega); omega
   ·have:=lN (p:=p) f i ((i + j) / 2) (by omega); omega
  ·exact ⟨Mc _,h⟩
def HV (W X:List Nat) (u v:Nat):Int:=me (W.getD (X.getD u jk) jk) (W.getD (X.getD v jk) jk)
def qA (W X:List Nat) (a h:Nat):Bool:=decide (HV W X h a < 0)
def qB (W X:List Nat) (m h:Nat):Bool:=!decide (HV W X m h < 0)
def qC (W X:List Nat) (q c:Nat):Bool:=!decide (HV W X (q - c) c < 0)
section
variable {W X:List Nat} {f x y T a u v:Nat}
theorem Ke (hR:gh (qA W X a) f x y = T) (hf:y - x ≤ f) (h:x < y) (hu:u = (x + y) / 2) (hv:v = a) (hp:me (W.getD (X.getD u jk) jk) (W.getD (X.getD v jk) jk) < 0):gh (qA W X a) (f - 1) ((x + y) / 2 + 1) y = T:=by
 subst hu hv; exact EH hR hf h (decide_eq_true hp)
theorem Kf (hR:gh (qA W X a) f x y = T) (hf:y - x ≤ f) (h:x < y) (hu:u = (x + y) / 2) (hv:v = a) (hp:¬ me (W.getD (X.getD u jk) jk) (W.getD (X.getD v jk) jk) < 0):gh (qA W X a) (f - 1) x ((x + y) / 2) = T:=by
 subst hu hv; exact EI hR hf h (fun q=>hp (of_decide_eq_true q))
theorem Kg (hR:gh (qB W X a) f x y = T) (hf:y - x ≤ f) (h:x < y) (hu:u = (x + y) / 2) (hv:v = a) (hp:¬ me (W.getD (X.getD v jk) jk) (W.getD (X.getD u jk) jk) < 0):gh (qB W X a) (f - 1) ((x + y) / 2 + 1) y = T:=by
 subst hu hv; exact EH hR hf h HU
theorem Kh (hR:gh (qB W X a) f x y = T) (hf:y - x ≤ f) (h:x < y) (hu:u = (x + y) / 2) (hv:v = a) (hp:me (W.getD (X.getD v jk) jk) (W.getD (X.getD u jk) jk) < 0):gh (qB W X a) (f - 1) x ((x + y) / 2) = T:=by
 subst hu hv; exact EI hR hf h CC
theorem Ki (hR:gh (qC W X a) f x y = T) (hf:y - x ≤ f) (h:x < y) (hu:u = (x + y) / 2) (hv:v = a - (x + y) / 2) (hp:¬ me (W.getD (X.getD v jk) jk) (W.getD (X.getD u jk) jk) < 0):gh (qC W X a) (f - 1) ((x + y) / 2 + 1) y = T:=by
 subst hu hv; exact EH hR hf h HU
theorem Kj (hR:gh (qC W X a) f x y = T) (hf:y - x ≤ f) (h:x < y) (hu:u = (x + y) / 2) (hv:v = a - (x + y) / 2) (hp:me (W.getD (X.getD v jk) jk) (W.getD (X.getD u jk) jk) < 0):gh (qC W X a) (f - 1) x ((x + y) / 2) = T:=by
 subst hu hv; exact EI hR hf h CC
end
def HW (X:List Nat) (a:Nat):Nat → List Nat
 | 0=>X
 | k + 1=>swp (HW X a k) (a + k) (a + k + 1)
def HX (X:List Nat) (m:Nat):Nat → List Nat
 | 0=>X
 | k + 1=>swp (HX X m k) (m - k) (m - k - 1)
theorem tP (X:List Nat) (a:Nat):∀ k,(HW X a k).length = X.length
 | 0=>rfl
 | k + 1=>by rw [HW,fZ,tP X a k]
theorem tQ (X:List Nat) (a:Nat):∀ k,(HX X a k).length = X.length
 | 0=>rfl
 | k + 1=>by rw [HX,fZ,tQ X a k]
def gD (X:List Nat) (a k:Nat):List Nat:=lk X (HW X a k)
def gE (X:List Nat) (m k:Nat):List Nat:=lk X (HX X m k)
theorem oE (X:List Nat) (a k:Nat):gD X a k = HW X a k:=aF _ _
theorem oF (X:List Nat) (a k:Nat):gE X a k = HX X a k:=aF _ _
theorem CG (X:List Nat) (a:Nat):gD X a 0 = X:=oE X a 0
theorem CH (X:List Nat) (a:Nat):gE X a 0 = X:=oF X a 0
theorem f6 (X:List Nat) (a k:Nat):(gD X a k).length = X.length:=by rw [oE,tP]
theorem f7 (X:List Nat) (a k:Nat):(gE X a k).length = X.length:=by rw [oF,tQ]
theorem CI (X:List Nat) (a k:Nat):swp (gD X a k) (a + k) (a + k + 1) = gD X a (k + 1):=by rw [oE,oE]; rfl
theorem CJ (X:List Nat) (a k:Nat):swp (gE X a k) (a - k) (a - k - 1) = gE X a (k + 1):=by rw [oF,oF]; rfl
theorem Kk (X:List Nat) (N:Nat) (hN:N = X.length) (hN2:N ≤ 1000) (W:List Nat) (L:Nat) (hL:L = W.length) (hA:bw L X) (a m b:Nat) (h1:a < m) (h2:m < b) (h3:b ≤ N) (hm:m = a + 1) (i:Nat) (hi:gh (qA W X a) (b - m) m b = i) (hi2:m ≤ i ∧ i ≤ b):SpecH true Tryz.prog 197 [.ref 0 0 0 N 1,nD a,nD m,nD b,.fn (.func 175) [] [.ptr 1 1 0]] [⟨X.map nD, 3, true⟩,⟨[.sl false L 1 (W.map nD)], 152, false⟩] (.tup []) [⟨(gD X a (i - 1 - a)).map nD, 3, true⟩,⟨[.sl false L 1 (W.map nD)], 152, false⟩]:=by
 refine SpecH.run T_ok ai Tryz.func197 rfl rfl rfl ⟨lx _,rfl,trivial⟩ rfl 1000 64 (fun R ok=>(.s 4 (.ow ((m:Int) - (a:Int)) (.s 2 (.t ((m:Int) - (a:Int) == 1) dE (.s 4 (Hn.inl T_ok ai false 220 2 (aA Tryz.prog 197 0) (fun (x:(x:Nat) ×' (y:Nat) ×' (f:Nat) ×' (hx:m ≤ x ∧ x ≤ y ∧ y ≤ b) ×' (hf:y - x ≤ f) ×' (hR:gh (qA W X a) f x y = i) ×' Unit)=>match x with | ⟨x,y,f,hx,hf,hR,_⟩=>CutS.mk [(0,D.ref 0 0 0 N 1),(1,zN a),(4,D.fn (MB 175) [] [D.ptr 1 1 0]),(10,nD x),(11,nD y)] [⟨0,0,0,0,.b ⟨map nD X,3,true⟩⟩,⟨1,1,1,1,.b ⟨[D.sl false L 1 (map nD W)],152,false⟩⟩] 24) (fun (x:(x:Nat) ×' (y:Nat) ×' (f:Nat) ×' (hx:m ≤ x ∧ x ≤ y ∧ y ≤ b) ×' (hf:y - x ≤ f) ×' (hR:gh (qA W X a) f x y = i) ×' Unit)=>match x with | ⟨x,y,f,hx,hf,hR,_⟩=>y - x) [⟨Unit,.exit 0,fun x=>match x with | ()=>CutS.mk [(0,D.ref 0 0 0 N 1),(1,zN a),(4,D.fn (MB 175) [] [D.ptr 1 1 0]),(10,nD i),(11,nD i)] [⟨0,0,0,0,.b ⟨map nD X,3,true⟩⟩,⟨1,1,1,1,.b ⟨[D.sl false L 1 (map nD W)],152,false⟩⟩] 24⟩] 1000 64 (fun | ⟨x,y,f,hx,hf,hR,_⟩,Q,next1,last1=>(.s 4 (.br (decide ((x:Int) < (y:Int))) (fun p0=>have p0f:=aT p0; (.s 4 (.ow ((x:Int) + (y:Int)) (.s 1 (.opt (az .u64 ((x:Int) + (y:Int))) (D.v (MO .u64 ((x:Int) + (y:Int)))) (bm om) (.s 2 (.opt (bj Nn (ME ((x:Int) + (y:Int)) 2)) (D.v (MO .u64 (((x:Int) + (y:Int)) / 2))) (ay (@fU  ((x:Int) + (y:Int)) (2) om)) (.s 1 (.ow (((x:Int) + (y:Int)) / 2) (.s 6 (.chk (true && decide (((x:Int) + (y:Int)) / 2 < (N:Int))) dE (.s 2 (.opt ((map nD X)[0 + uV (((x:Int) + (y:Int)) / 2) * 1]?) (nD (getD X (0 + uV (((x:Int) + (y:Int)) / 2) * 1) jk)) (av _ _ om) (.s 3 (.chk (true && decide ((a:Int) < (N:Int))) dE (.s 2 (.opt ((map nD X)[0 + a * 1]?) (nD (getD X (0 + a * 1) jk)) (av _ _ om) (.s 1 (.cl 175 true [1] (.fn wO (@qv (W) (L) om (getD X (0 + uV (((x:Int) + (y:Int)) / 2) * 1) jk) (getD X (0 + a * 1) jk) (by ( exact hA.at om)) (by ( exact hA.at om)))) (.s 2 (.br (decide (me (getD W (getD X (0 + uV (((x:Int) + (y:Int)) / 2) * 1) jk) jk) (getD W (getD X (0 + a * 1) jk) jk) < 0)) (fun p1=>have p1f:=aT p1; (.s 3 (.ow (((x:Int) + (y:Int)) / 2 + 1) (.s 1 (.val 10 (zI (((x:Int) + (y:Int)) / 2 + 1)) (zN ((x + y) / 2 + 1)) qw (Hn.next next1 ⟨((x + y) / 2 + 1),(y),(f - 1),om,om,(by ( exact Ke (u:=0 + (((x:Int) + (y:Int)) / 2).toNat * 1) (v:=0 + a * 1) hR om om om om bu)),⟨⟩⟩ zT [(0,0),(1,1)] ro)))))) (fun p1=>have p1f:=aU p1; (.s 2 (.val 11 (zI (((x:Int) + (y:Int)) / 2)) (zN ((x + y) / 2)) qw (Hn.next next1 ⟨(x),((x + y) / 2),(f - 1),om,om,(by ( exact Kf (u:=0 + (((x:Int) + (y:Int)) / 2).toNat * 1) (v:=0 + a * 1) hR om om om om bu)),⟨⟩⟩ zU [(0,0),(1,1)] ro))))))))))))))))))))))))) (fun p0=>have p0f:=aU p0; (.val 10 (zN x) (zN i) (by ( rw [xo hR om])) (.val 11 (zN y) (zN i) zV (Hn.last last1 0 (():Unit) rfl [(0,0),(1,1)] ro))))))) (fun | ⟨x,y,f,hx,hf,hR,_⟩=>by kernel_rfl) ⟨(m),(b),(b - m),om,om,om,⟨⟩⟩ [(0,0),(1,1)] ro (cb (fun | ()=>(.s 2 (.val 13 (zN a) (zN (a + 0)) qw (.blk 0 0 (Blk.mk (map nD X) 3 true) (Blk.mk (map nD (gD X a 0)) 3 true) (by (rw [CG]; done)) (Hn.inl T_ok ai false 220 2 (aA Tryz.prog 197 1) (fun (x:(k:Nat) ×' (hk:a + k ≤ i - 1) ×' Unit)=>match x with | ⟨k,hk,_⟩=>CutS.mk [(0,D.ref 0 0 0 N 1),(10,zN i),(13,nD (a + k))] [⟨0,0,0,0,.b ⟨(gD X a k).map nD,3,true⟩⟩,⟨1,1,1,1,.b ⟨[D.sl false L 1 (map nD W)],152,false⟩⟩] 24) (fun (x:(k:Nat) ×' (hk:a + k ≤ i - 1) ×' Unit)=>match x with | ⟨k,hk,_⟩=>i - 1 - a - k) [⟨Unit,.exit 2,fun x=>match x with | ()=>CutS.mk [(0,D.ref 0 0 0 N 1),(10,zN i)] [⟨0,0,0,0,.b ⟨(gD X a (i - 1 - a)).map nD,3,true⟩⟩,⟨1,1,1,1,.b ⟨[D.sl false L 1 (map nD W)],152,false⟩⟩] 24⟩] 1000 64 (fun | ⟨k,hk,_⟩,Q,next1,last1=>(.s 4 (.ow ((i:Int) - 1) (.s 2 (.br (decide ((↑(a + k):Int) < (i:Int) - 1)) (fun p2=>have p2f:=aT p2; (.s 7 (.ow ((↑(a + k):Int) + 1) (.s 4 (.ow ((↑(a + k):Int) + 1) (.s 1 (.chk (true && decide ((↑(a + k):Int) + 1 < (N:Int))) dE (.s 2 (.opt ((map nD (gD X a k))[0 + uV ((↑(a + k):Int) + 1) * 1]?) (nD (getD (gD X a k) (0 + uV ((↑(a + k):Int) + 1) * 1) jk)) (av _ _ (by ( have h9:=f6 X a k; omega))) (.s 3 (.chk (true && decide ((↑(a + k):Int) < (N:Int))) dE (.s 2 (.opt ((map nD (gD X a k))[0 + (a + k) * 1]?) (nD (getD (gD X a k) (0 + (a + k) * 1) jk)) (av _ _ (by ( have h9:=f6 X a k; omega))) (.s 1 (.chk (true && decide ((↑(a + k):Int) < (N:Int))) dE (.s 1 (.chk (true && LX (0 + (a + k) * 1 + 1) (length (map nD (gD X a k)))) (by (simp;  have h9:=f6 X a k; omega)) (.lst (aj (map nD (gD X a k)) (0 + (a + k) * 1) [zN (getD (gD X a k) (0 + uV ((↑(a + k):Int) + 1) * 1) jk)]) (aj (map nD (gD X a k)) (a + k) [zN (getD (gD X a k) (uV ((↑(a + k):Int) + 1)) jk)]) (by (simp; done)) (.s 1 (.chk (true && decide ((↑(a + k):Int) + 1 < (N:Int))) dE (.s 1 (.chk (true && LX (0 + uV ((↑(a + k):Int) + 1) * 1 + 1) (length (aj (map nD (gD X a k)) (a + k) [zN (getD (gD X a k) (uV ((↑(a + k):Int) + 1)) jk)]))) (by ( have h9:=f6 X a k; exact zR om om)) (.lst (aj (aj (map nD (gD X a k)) (a + k) [zN (getD (gD X a k) (uV ((↑(a + k):Int) + 1)) jk)]) (0 + uV ((↑(a + k):Int) + 1) * 1) [zN (getD (gD X a k) (0 + (a + k) * 1) jk)]) (aj (aj (map nD (gD X a k)) (a + k) [zN (getD (gD X a k) (uV ((↑(a + k):Int) + 1)) jk)]) (uV ((↑(a + k):Int) + 1)) [zN (getD (gD X a k) (a + k) jk)]) (by (simp; done)) (.s 3 (.ow ((↑(a + k):Int) + 1) (.s 1 (.val 13 (zI ((↑(a + k):Int) + 1)) (zN (a + (k + 1))) qw (.blk 0 0 (Blk.mk (aj (aj (map nD (gD X a k)) (a + k) [zN (getD (gD X a k) (uV ((↑(a + k):Int) + 1)) jk)]) (uV ((↑(a + k):Int) + 1)) [zN (getD (gD X a k) (a + k) jk)]) 3 true) (Blk.mk (map nD (gD X a (k + 1))) 3 true) (by ( have h9:=f6 X a k; exact aC (Pq (tK (i:=a + k) (j:=a + k + 1) om om om om om om) (by rw [CI])))) (Hn.next next1 ⟨(k + 1),om,⟨⟩⟩ (by show i - 1 - a - (k + 1) < i - 1 - a - k; clear next1 last1; omega) [(0,0),(1,1)] ro))))))))))))))))))))))))))))) (fun p2=>have p2f:=aU p2; (.blk 0 0 (Blk.mk (map nD (gD X a k)) 3 true) (Blk.mk (map nD (gD X a (i - 1 - a))) 3 true) (by ( rw [show k = i - 1 - a from by omega])) (Hn.last last1 0 (():Unit) rfl [(0,0),(1,1)] ro)))))))) (fun | ⟨k,hk,_⟩=>by kernel_rfl) ⟨(0),om,⟨⟩⟩ [(0,0),(1,1)] ro (cb (fun | ()=>(.out [0,1] [0,1] (D.tup []) [Blk.mk (map nD (gD X a (i - 1 - a))) 3 true,Blk.mk [D.sl false L 1 (map nD W)] 152 false] R (ok _ _ wr wr))))))))))))))))) (by kernel_rfl)
theorem Kl (X:List Nat) (N:Nat) (hN:N = X.length) (hN2:N ≤ 1000) (W:List Nat) (L:Nat) (hL:L = W.length) (hA:bw L X) (a m b:Nat) (h1:a < m) (h2:m < b) (h3:b ≤ N) (hm:m ≠ a + 1) (hb:b = m + 1) (i:Nat) (hi:gh (qB W X m) (m - a) a m = i) (hi2:a ≤ i ∧ i ≤ m):SpecH true Tryz.prog 197 [.ref 0 0 0 N 1,nD a,nD m,nD b,.fn (.func 175) [] [.ptr 1 1 0]] [⟨X.map nD, 3, true⟩,⟨[.sl false L 1 (W.map nD)], 152, false⟩] (.tup []) [⟨(gE X m (m - i)).map nD, 3, true⟩,⟨[.sl false L 1 (W.map nD)], 152, false⟩]:=by
 refine SpecH.run T_ok ai Tryz.func197 rfl rfl rfl ⟨lx _,rfl,trivial⟩ rfl 1000 64 (fun R ok=>(.s 4 (.ow ((m:Int) - (a:Int)) (.s 2 (.f ((m:Int) - (a:Int) == 1) oD (.s 4 (.ow ((b:Int) - (m:Int)) (.s 2 (.t ((b:Int) - (m:Int) == 1) dE (.s 4 (Hn.inl T_ok ai false 220 2 (aA Tryz.prog 197 2) (fun (x:(x:Nat) ×' (y:Nat) ×' (f:Nat) ×' (hx:a ≤ x ∧ x ≤ y ∧ y ≤ m) ×' (hf:y - x ≤ f) ×' (hR:gh (qB W X m) f x y = i) ×' Unit)=>match x with | ⟨x,y,f,hx,hf,hR,_⟩=>CutS.mk [(0,D.ref 0 0 0 N 1),(2,zN m),(4,D.fn (MB 175) [] [D.ptr 1 1 0]),(14,nD x),(15,nD y)] [⟨0,0,0,0,.b ⟨map nD X,3,true⟩⟩,⟨1,1,1,1,.b ⟨[D.sl false L 1 (map nD W)],152,false⟩⟩] 24) (fun (x:(x:Nat) ×' (y:Nat) ×' (f:Nat) ×' (hx:a ≤ x ∧ x ≤ y ∧ y ≤ m) ×' (hf:y - x ≤ f) ×' (hR:gh (qB W X m) f x y = i) ×' Unit)=>match x with | ⟨x,y,f,hx,hf,hR,_⟩=>y - x) [⟨Unit,.exit 4,fun x=>match x with | ()=>CutS.mk [(0,D.ref 0 0 0 N 1),(2,zN m),(4,D.fn (MB 175) [] [D.ptr 1 1 0]),(14,nD i),(15,nD i)] [⟨0,0,0,0,.b ⟨map nD X,3,true⟩⟩,⟨1,1,1,1,.b ⟨[D.sl false L 1 (map nD W)],152,false⟩⟩] 24⟩] 1000 64 (fun | ⟨x,y,f,hx,hf,hR,_⟩,Q,next1,last1=>(.s 4 (.br (decide ((x:Int) < (y:Int))) (fun p0=>have p0f:=aT p0; (.s 4 (.ow ((x:Int) + (y:Int)) (.s 1 (.opt (az .u64 ((x:Int) + (y:Int))) (D.v (MO .u64 ((x:Int) + (y:Int)))) (bm om) (.s 2 (.opt (bj Nn (ME ((x:Int) + (y:Int)) 2)) (D.v (MO .u64 (((x:Int) + (y:Int)) / 2))) (ay (@fU  ((x:Int) + (y:Int)) (2) om)) (.s 1 (.ow (((x:Int) + (y:Int)) / 2) (.s 6 (.chk (true && decide ((m:Int) < (N:Int))) dE (.s 2 (.opt ((map nD X)[0 + m * 1]?) (nD (getD X (0 + m * 1) jk)) (av _ _ om) (.s 3 (.chk (true && decide (((x:Int) + (y:Int)) / 2 < (N:Int))) dE (.s 2 (.opt ((map nD X)[0 + uV (((x:Int) + (y:Int)) / 2) * 1]?) (nD (getD X (0 + uV (((x:Int) + (y:Int)) / 2) * 1) jk)) (av _ _ om) (.s 1 (.cl 175 true [1] (.fn wO (@qv (W) (L) om (getD X (0 + m * 1) jk) (getD X (0 + uV (((x:Int) + (y:Int)) / 2) * 1) jk) (by ( exact hA.at om)) (by ( exact hA.at om)))) (.s 3 (.br (!decide (me (getD W (getD X (0 + m * 1) jk) jk) (getD W (getD X (0 + uV (((x:Int) + (y:Int)) / 2) * 1) jk) jk) < 0)) (fun p1=>have p1f:=aU (cY p1); (.s 3 (.ow (((x:Int) + (y:Int)) / 2 + 1) (.s 1 (.val 14 (zI (((x:Int) + (y:Int)) / 2 + 1)) (zN ((x + y) / 2 + 1)) qw (Hn.next next1 ⟨((x + y) / 2 + 1),(y),(f - 1),om,om,(by ( exact Kg (u:=0 + (((x:Int) + (y:Int)) / 2).toNat * 1) (v:=0 + m * 1) hR om om om om bu)),⟨⟩⟩ zT [(0,0),(1,1)] ro)))))) (fun p1=>have p1f:=aT (cZ p1); (.s 2 (.val 15 (zI (((x:Int) + (y:Int)) / 2)) (zN ((x + y) / 2)) qw (Hn.next next1 ⟨(x),((x + y) / 2),(f - 1),om,om,(by ( exact Kh (u:=0 + (((x:Int) + (y:Int)) / 2).toNat * 1) (v:=0 + m * 1) hR om om om om bu)),⟨⟩⟩ zU [(0,0),(1,1)] ro))))))))))))))))))))))))) (fun p0=>have p0f:=aU p0; (.val 14 (zN x) (zN i) (by ( rw [xo hR om])) (.val 15 (zN y) (zN i) zV (Hn.last last1 0 (():Unit) rfl [(0,0),(1,1)] ro))))))) (fun | ⟨x,y,f,hx,hf,hR,_⟩=>by kernel_rfl) ⟨(a),(m),(m - a),om,om,om,⟨⟩⟩ [(0,0),(1,1)] ro (cb (fun | ()=>(.s 2 (.val 17 (zN m) (zN (m - 0)) qw (.blk 0 0 (Blk.mk (map nD X) 3 true) (Blk.mk (map nD (gE X m 0)) 3 true) (by (rw [CH]; done)) (Hn.inl T_ok ai false 220 2 (aA Tryz.prog 197 3) (fun (x:(k:Nat) ×' (hk:k ≤ m - i) ×' Unit)=>match x with | ⟨k,hk,_⟩=>CutS.mk [(0,D.ref 0 0 0 N 1),(14,zN i),(17,nD (m - k))] [⟨0,0,0,0,.b ⟨(gE X m k).map nD,3,true⟩⟩,⟨1,1,1,1,.b ⟨[D.sl false L 1 (map nD W)],152,false⟩⟩] 24) (fun (x:(k:Nat) ×' (hk:k ≤ m - i) ×' Unit)=>match x with | ⟨k,hk,_⟩=>m - i - k) [⟨Unit,.exit 6,fun x=>match x with | ()=>CutS.mk [(0,D.ref 0 0 0 N 1),(14,zN i)] [⟨0,0,0,0,.b ⟨(gE X m (m - i)).map nD,3,true⟩⟩,⟨1,1,1,1,.b ⟨[D.sl false L 1 (map nD W)],152,false⟩⟩] 24⟩] 1000 64 (fun | ⟨k,hk,_⟩,Q,next1,last1=>(.s 4 (.br (decide ((i:Int) < (↑(m - k):Int))) (fun p2=>have p2f:=aT p2; (.s 7 (.ow ((↑(m - k):Int) - 1) (.s 4 (.ow ((↑(m - k):Int) - 1) (.s 1 (.chk (decide (0 ≤ (↑(m - k):Int) - 1) && decide ((↑(m - k):Int) - 1 < (N:Int))) zW (.s 2 (.opt ((map nD (gE X m k))[0 + uV ((↑(m - k):Int) - 1) * 1]?) (nD (getD (gE X m k) (0 + uV ((↑(m - k):Int) - 1) * 1) jk)) (av _ _ (by ( have h9:=f7 X m k; omega))) (.s 3 (.chk (true && decide ((↑(m - k):Int) < (N:Int))) dE (.s 2 (.opt ((map nD (gE X m k))[0 + (m - k) * 1]?) (nD (getD (gE X m k) (0 + (m - k) * 1) jk)) (av _ _ (by ( have h9:=f7 X m k; omega))) (.s 1 (.chk (true && decide ((↑(m - k):Int) < (N:Int))) dE (.s 1 (.chk (true && LX (0 + (m - k) * 1 + 1) (length (map nD (gE X m k)))) (by (simp;  have h9:=f7 X m k; omega)) (.lst (aj (map nD (gE X m k)) (0 + (m - k) * 1) [zN (getD (gE X m k) (0 + uV ((↑(m - k):Int) - 1) * 1) jk)]) (aj (map nD (gE X m k)) (m - k) [zN (getD (gE X m k) (uV ((↑(m - k):Int) - 1)) jk)]) (by (simp; done)) (.s 1 (.chk (decide (0 ≤ (↑(m - k):Int) - 1) && decide ((↑(m - k):Int) - 1 < (N:Int))) zW (.s 1 (.chk (true && LX (0 + uV ((↑(m - k):Int) - 1) * 1 + 1) (length (aj (map nD (gE X m k)) (m - k) [zN (getD (gE X m k) (uV ((↑(m - k):Int) - 1)) jk)]))) (by ( have h9:=f7 X m k; exact zR om om)) (.lst (aj (aj (map nD (gE X m k)) (m - k) [zN (getD (gE X m k) (uV ((↑(m - k):Int) - 1)) jk)]) (0 + uV ((↑(m - k):Int) - 1) * 1) [zN (getD (gE X m k) (0 + (m - k) * 1) jk)]) (aj (aj (map nD (gE X m k)) (m - k) [zN (getD (gE X m k) (uV ((↑(m - k):Int) - 1)) jk)]) (uV ((↑(m - k):Int) - 1)) [zN (getD (gE X m k) (m - k) jk)]) (by (simp; done)) (.s 3 (.ow ((↑(m - k):Int) - 1) (.s 1 (.val 17 (zI ((↑(m - k):Int) - 1)) (zN (m - (k + 1))) qw (.blk 0 0 (Blk.mk (aj (aj (map nD (gE X m k)) (m - k) [zN (getD (gE X m k) (uV ((↑(m - k):Int) - 1)) jk)]) (uV ((↑(m - k):Int) - 1)) [zN (getD (gE X m k) (m - k) jk)]) 3 true) (Blk.mk (map nD (gE X m (k + 1))) 3 true) (by ( have h9:=f7 X m k; exact aC (Pq (tK (i:=m - k) (j:=m - k - 1) om om om om om om) (by rw [CJ])))) (Hn.next next1 ⟨(k + 1),om,⟨⟩⟩ (by show m - i - (k + 1) < m - i - k; clear next1 last1; omega) [(0,0),(1,1)] ro))))))))))))))))))))))))))))) (fun p2=>have p2f:=aU p2; (.blk 0 0 (Blk.mk (map nD (gE X m k)) 3 true) (Blk.mk (map nD (gE X m (m - i))) 3 true) (by ( rw [show k = m - i from by omega])) (Hn.last last1 0 (():Unit) rfl [(0,0),(1,1)] ro)))))) (fun | ⟨k,hk,_⟩=>by kernel_rfl) ⟨(0),om,⟨⟩⟩ [(0,0),(1,1)] ro (cb (fun | ()=>(.out [0,1] [0,1] (D.tup []) [Blk.mk (map nD (gE X m (m - i))) 3 true,Blk.mk [D.sl false L 1 (map nD W)] 152 false] R (ok _ _ wr wr))))))))))))))))))))) (by kernel_rfl)
structure RtH (W:List Nat) (L N:Nat) (X:List Nat) (a m b:Nat) (X1:List Nat):Prop where
 h:∀ (Y:List Nat) (x y z:Int),Y = X → x = a → y = m → z = b → SpecH true Tryz.prog 200 [.ref 0 0 0 N 1,iD x,iD y,iD z,.fn (.func 175) [] [.ptr 1 1 0]] [⟨Y.map nD, 3, true⟩,⟨[.sl false L 1 (W.map nD)], 152, false⟩] (.tup []) [⟨X1.map nD, 3, true⟩,⟨[.sl false L 1 (W.map nD)], 152, false⟩]
structure SaH (W:List Nat) (L N:Nat) (X:List Nat) (a m b:Nat) (X1:List Nat):Prop where
 h:∀ (Y:List Nat) (x y z:Int),Y = X → x = a → y = m → z = b → SpecH true Tryz.prog 197 [.ref 0 0 0 N 1,iD x,iD y,iD z,.fn (.func 175) [] [.ptr 1 1 0]] [⟨Y.map nD, 3, true⟩,⟨[.sl false L 1 (W.map nD)], 152, false⟩] (.tup []) [⟨X1.map nD, 3, true⟩,⟨[.sl false L 1 (W.map nD)], 152, false⟩]
structure SbH (W:List Nat) (L N:Nat) (X:List Nat) (a m b:Nat) (X1:List Nat):Prop where
 h:∀ (Y:List Nat) (x y z:Int),Y = X → x = a → y = m → z = b → SpecH true Tryz.prog 197 [.ref 0 0 0 N 1,iD x,iD y,iD z,.fn (.func 175) [] [.ptr 1 1 0]] [⟨Y.map nD, 3, true⟩,⟨[.sl false L 1 (W.map nD)], 152, false⟩] (.tup []) [⟨X1.map nD, 3, true⟩,⟨[.sl false L 1 (W.map nD)], 152, false⟩]
structure SmE (W:List Nat) (L N:Nat) (X X1 X2 T:List Nat) (a m b mid q st en s0 r0:Nat):Prop where
 r:st < m → m < en → RtH W L N X st m en X1
 r0' : (st < m → m < en → False) → X = X1
 s:a < st → st < mid → SaH W L N X1 a st mid X2
 s0' : (a < st → st < mid → False) → X1 = X2
 t:mid < en → en < b → SbH W L N X2 mid en b T
 t0' : (mid < en → en < b → False) → X2 = T
 e3:mid < m → s0 = q - b ∧ r0 = mid
 e4:m ≤ mid → s0 = a ∧ r0 = m
section
variable {W:List Nat} {L N:Nat} {X X1 X2 T:List Nat} {a m b mid q st en s0 r0:Nat} (h:SmE W L N X X1 X2 T a m b mid q st en s0 r0)
include h
theorem SmE.rp (c1:st < m) (c2:m < en) (Y:List Nat) (x y z:Int) (hY:Y = X) (hx:x = st) (hy:y = m) (hz:z = en):SpecH true Tryz.prog 200 [.ref 0 0 0 N 1,iD x,iD y,iD z,.fn (.func 175) [] [.ptr 1 1 0]] [⟨Y.map nD, 3, true⟩,⟨[.sl false L 1 (W.map nD)], 152, false⟩] (.tup []) [⟨X1.map nD, 3, true⟩,⟨[.sl false L 1 (W.map nD)], 152, false⟩]:=(h.r c1 c2).h Y x y z hY hx hy hz
theorem SmE.sp (c1:a < st) (c2:st < mid) (Y:List Nat) (x y z:Int) (hY:Y = X1) (hx:x = a) (hy:y = st) (hz:z = mid):SpecH true Tryz.prog 197 [.ref 0 0 0 N 1,iD x,iD y,iD z,.fn (.func 175) [] [.ptr 1 1 0]] [⟨Y.map nD, 3, true⟩,⟨[.sl false L 1 (W.map nD)], 152, false⟩] (.tup []) [⟨X2.map nD, 3, true⟩,⟨[.sl false L 1 (W.map nD)], 152, false⟩]:=(h.s c1 c2).h Y x y z hY hx hy hz
theorem SmE.tp (c1:mid < en) (c2:en < b) (Y:List Nat) (x y z:Int) (hY:Y = X2) (hx:x = mid) (hy:y = en) (hz:z = b):SpecH true Tryz.prog 197 [.ref 0 0 0 N 1,iD x,iD y,iD z,.fn (.func 175) [] [.ptr 1 1 0]] [⟨Y.map nD, 3, true⟩,⟨[.sl false L 1 (W.map nD)], 152, false⟩] (.tup []) [⟨T.map nD, 3, true⟩,⟨[.sl false L 1 (W.map nD)], 152, false⟩]:=(h.t c1 c2).h Y x y z hY hx hy hz
end
theorem Km (X:List Nat) (N:Nat) (hN:N = X.length) (hN2:N ≤ 1000) (W:List Nat) (L:Nat) (hL:L = W.length) (hA:bw L X) (a m b:Nat) (h1:a < m) (h2:m < b) (h3:b ≤ N) (hm:m ≠ a + 1) (hb:b ≠ m + 1) (X1 X2 T:List Nat) (mid q st en:Nat) (e1:mid = (a + b) / 2) (e2:q = mid + m) (s0 r0:Nat) (hs0:s0 ≤ r0 ∧ r0 ≤ m ∧ a ≤ s0 ∧ q ≤ s0 + b) (hi:gh (qC W X (q - 1)) (r0 - s0) s0 r0 = st) (hi2:s0 ≤ st ∧ st ≤ r0) (e5:en = q - st) (hE:SmE W L N X X1 X2 T a m b mid q st en s0 r0):SpecH true Tryz.prog 197 [.ref 0 0 0 N 1,nD a,nD m,nD b,.fn (.func 175) [] [.ptr 1 1 0]] [⟨X.map nD, 3, true⟩,⟨[.sl false L 1 (W.map nD)], 152, false⟩] (.tup []) [⟨(T).map nD, 3, true⟩,⟨[.sl false L 1 (W.map nD)], 152, false⟩]:=by
 refine SpecH.run T_ok ai Tryz.func197 rfl rfl rfl ⟨lx _,rfl,trivial⟩ rfl 1000 64 (fun R ok=>(.s 4 (.ow ((m:Int) - (a:Int)) (.s 2 (.f ((m:Int) - (a:Int) == 1) oD (.s 4 (.ow ((b:Int) - (m:Int)) (.s 2 (.f ((b:Int) - (m:Int) == 1) oD (.s 4 (.ow ((a:Int) + (b:Int)) (.s 1 (.opt (az .u64 ((a:Int) + (b:Int))) (D.v (MO .u64 ((a:Int) + (b:Int)))) (bm om) (.s 2 (.opt (bj Nn (ME ((a:Int) + (b:Int)) 2)) (D.v (MO .u64 (((a:Int) + (b:Int)) / 2))) (ay (@fU  ((a:Int) + (b:Int)) (2) om)) (.s 1 (.ow (((a:Int) + (b:Int)) / 2) (.s 5 (.ow (((a:Int) + (b:Int)) / 2 + (m:Int)) (.s 7 (.br (decide (((a:Int) + (b:Int)) / 2 < (m:Int))) (fun p0=>have p0f:=aT p0; (.s 4 (.ow (((a:Int) + (b:Int)) / 2 + (m:Int) - (b:Int)) (.s 6 (.ow (((a:Int) + (b:Int)) / 2 + (m:Int) - 1) (.s 1 (.val 20 (zI (((a:Int) + (b:Int)) / 2 + (m:Int) - (b:Int))) (zN s0) zX (.val 21 (zI (((a:Int) + (b:Int)) / 2)) (zN r0) zX (Hn.inl T_ok ai false 220 2 (aA Tryz.prog 197 4) (fun (x:(x:Nat) ×' (y:Nat) ×' (f:Nat) ×' (hx:s0 ≤ x ∧ x ≤ y ∧ y ≤ r0) ×' (hf:y - x ≤ f) ×' (hR:gh (qC W X (q - 1)) f x y = st) ×' Unit)=>match x with | ⟨x,y,f,hx,hf,hR,_⟩=>CutS.mk [(0,D.ref 0 0 0 N 1),(1,zN a),(2,zN m),(3,zN b),(4,D.fn (MB 175) [] [D.ptr 1 1 0]),(18,zI (((a:Int) + (b:Int)) / 2)),(19,zI (((a:Int) + (b:Int)) / 2 + (m:Int))),(20,nD x),(21,nD y),(22,zI (((a:Int) + (b:Int)) / 2 + (m:Int) - 1))] [⟨0,0,0,0,.b ⟨map nD X,3,true⟩⟩,⟨1,1,1,1,.b ⟨[D.sl false L 1 (map nD W)],152,false⟩⟩] 24) (fun (x:(x:Nat) ×' (y:Nat) ×' (f:Nat) ×' (hx:s0 ≤ x ∧ x ≤ y ∧ y ≤ r0) ×' (hf:y - x ≤ f) ×' (hR:gh (qC W X (q - 1)) f x y = st) ×' Unit)=>match x with | ⟨x,y,f,hx,hf,hR,_⟩=>y - x) [⟨Unit,.exit 8,fun x=>match x with | ()=>CutS.mk [(0,D.ref 0 0 0 N 1),(1,zN a),(2,zN m),(3,zN b),(4,D.fn (MB 175) [] [D.ptr 1 1 0]),(18,zI (((a:Int) + (b:Int)) / 2)),(19,zI (((a:Int) + (b:Int)) / 2 + (m:Int))),(20,nD st),(21,nD st),(22,zI (((a:Int) + (b:Int)) / 2 + (m:Int) - 1))] [⟨0,0,0,0,.b ⟨map nD X,3,true⟩⟩,⟨1,1,1,1,.b ⟨[D.sl false L 1 (map nD W)],152,false⟩⟩] 24⟩] 1000 64 (fun | ⟨x,y,f,hx,hf,hR,_⟩,Q,next1,last1=>(.s 4 (.br (decide ((x:Int) < (y:Int))) (fun p1=>have p1f:=aT p1; (.s 4 (.ow ((x:Int) + (y:Int)) (.s 1 (.opt (az .u64 ((x:Int) + (y:Int))) (D.v (MO .u64 ((x:Int) + (y:Int)))) (bm om) (.s 2 (.opt (bj Nn (ME ((x:Int) + (y:Int)) 2)) (D.v (MO .u64 (((x:Int) + (y:Int)) / 2))) (ay (@fU  ((x:Int) + (y:Int)) (2) om)) (.s 1 (.ow (((x:Int) + (y:Int)) / 2) (.s 8 (.ow (((a:Int) + (b:Int)) / 2 + (m:Int) - 1 - ((x:Int) + (y:Int)) / 2) (.s 1 (.chk (decide (0 ≤ ((a:Int) + (b:Int)) / 2 + (m:Int) - 1 - ((x:Int) + (y:Int)) / 2) && decide (((a:Int) + (b:Int)) / 2 + (m:Int) - 1 - ((x:Int) + (y:Int)) / 2 < (N:Int))) zW (.s 2 (.opt ((map nD X)[0 + uV (((a:Int) + (b:Int)) / 2 + (m:Int) - 1 - ((x:Int) + (y:Int)) / 2) * 1]?) (nD (getD X (0 + uV (((a:Int) + (b:Int)) / 2 + (m:Int) - 1 - ((x:Int) + (y:Int)) / 2) * 1) jk)) (av _ _ om) (.s 3 (.chk (true && decide (((x:Int) + (y:Int)) / 2 < (N:Int))) dE (.s 2 (.opt ((map nD X)[0 + uV (((x:Int) + (y:Int)) / 2) * 1]?) (nD (getD X (0 + uV (((x:Int) + (y:Int)) / 2) * 1) jk)) (av _ _ om) (.s 1 (.cl 175 true [1] (.fn wO (@qv (W) (L) om (getD X (0 + uV (((a:Int) + (b:Int)) / 2 + (m:Int) - 1 - ((x:Int) + (y:Int)) / 2) * 1) jk) (getD X (0 + uV (((x:Int) + (y:Int)) / 2) * 1) jk) (by ( exact hA.at om)) (by ( exact hA.at om)))) (.s 3 (.br (!decide (me (getD W (getD X (0 + uV (((a:Int) + (b:Int)) / 2 + (m:Int) - 1 - ((x:Int) + (y:Int)) / 2) * 1) jk) jk) (getD W (getD X (0 + uV (((x:Int) + (y:Int)) / 2) * 1) jk) jk) < 0)) (fun p2=>have p2f:=aU (cY p2); (.s 3 (.ow (((x:Int) + (y:Int)) / 2 + 1) (.s 1 (.val 20 (zI (((x:Int) + (y:Int)) / 2 + 1)) (zN ((x + y) / 2 + 1)) zX (Hn.next next1 ⟨((x + y) / 2 + 1),(y),(f - 1),om,om,CD,⟨⟩⟩ zT [(0,0),(1,1)] ro)))))) (fun p2=>have p2f:=aT (cZ p2); (.s 2 (.val 21 (zI (((x:Int) + (y:Int)) / 2)) (zN ((x + y) / 2)) zX (Hn.next next1 ⟨(x),((x + y) / 2),(f - 1),om,om,CE,⟨⟩⟩ zU [(0,0),(1,1)] ro))))))))))))))))))))))))))) (fun p1=>have p1f:=aU p1; (.val 20 (zN x) (zN st) (by ( rw [xo hR om])) (.val 21 (zN y) (zN st) zV (Hn.last last1 0 (():Unit) rfl [(0,0),(1,1)] ro))))))) (fun | ⟨x,y,f,hx,hf,hR,_⟩=>by kernel_rfl) ⟨(s0),(r0),(r0 - s0),om,om,om,⟨⟩⟩ [(0,0),(1,1)] ro (cb (fun | ()=>(.s 4 (.ow (((a:Int) + (b:Int)) / 2 + (m:Int) - (st:Int)) (.s 7 (.br (decide ((st:Int) < (m:Int))) (fun p3=>have p3f:=aT p3; (.s 6 (.br (decide ((m:Int) < ((a:Int) + (b:Int)) / 2 + (m:Int) - (st:Int))) (fun p4=>have p4f:=aT p4; (.s 6 (.call 200 true [0,1] (true) wr ([D.ref 0 0 0 N 1,zN st,zN m,zI (((a:Int) + (b:Int)) / 2 + (m:Int) - (st:Int)),D.fn (MB 175) [] [D.ptr 1 1 0]]) _ (bY.refl _) (ab (map nD X) && true) (by (simp; done)) _ _ _ (CallOk.fn (aw.of Tryz.func200 rfl rfl) (@SmE.rp (W) (L) (N) (X) (X1) (X2) (T) (a) (m) (b) (mid) (q) (st) (en) (s0) (r0) bu om om (X) ((st:Int)) ((m:Int)) (((a:Int) + (b:Int)) / 2 + (m:Int) - (st:Int)) wr om om om)) (.s 6 (.br (decide ((a:Int) < (st:Int))) (fun p5=>have p5f:=aT p5; (.s 6 (.t (decide ((st:Int) < ((a:Int) + (b:Int)) / 2)) dE (.s 6 (.call 197 true [0,1] (true) wr ([D.ref 0 0 0 N 1,zN a,zN st,zI (((a:Int) + (b:Int)) / 2),D.fn (MB 175) [] [D.ptr 1 1 0]]) _ (bY.refl _) (ab (map nD X1) && true) (by (simp; done)) _ _ _ (CallOk.fn (aw.of Tryz.func197 rfl rfl) (@SmE.sp (W) (L) (N) (X) (X1) (X2) (T) (a) (m) (b) (mid) (q) (st) (en) (s0) (r0) bu om om (X1) ((a:Int)) ((st:Int)) (((a:Int) + (b:Int)) / 2) wr om om om)) (.s 6 (.t (decide (((a:Int) + (b:Int)) / 2 < ((a:Int) + (b:Int)) / 2 + (m:Int) - (st:Int))) dE (.s 6 (.br (decide (((a:Int) + (b:Int)) / 2 + (m:Int) - (st:Int) < (b:Int))) (fun p6=>have p6f:=aT p6; (.s 6 (.call 197 true [0,1] (true) wr ([D.ref 0 0 0 N 1,zI (((a:Int) + (b:Int)) / 2),zI (((a:Int) + (b:Int)) / 2 + (m:Int) - (st:Int)),zN b,D.fn (MB 175) [] [D.ptr 1 1 0]]) _ (bY.refl _) (ab (map nD X2) && true) (by (simp; done)) _ _ _ (CallOk.fn (aw.of Tryz.func197 rfl rfl) (@SmE.tp (W) (L) (N) (X) (X1) (X2) (T) (a) (m) (b) (mid) (q) (st) (en) (s0) (r0) bu om om (X2) (((a:Int) + (b:Int)) / 2) (((a:Int) + (b:Int)) / 2 + (m:Int) - (st:Int)) ((b:Int)) wr om om om)) (.out [0,1] [0,1] (D.tup []) [Blk.mk (map nD T) 3 true,Blk.mk [D.sl false L 1 (map nD W)] 152 false] R (ok _ _ wr wr))))) (fun p6=>have p6f:=aU p6; (.out [0,1] [0,1] (D.tup []) [Blk.mk (map nD X2) 3 true,Blk.mk [D.sl false L 1 (map nD W)] 152 false] R (ok _ _ wr (by ( rw [hE.t0' om])))))))))))))) (fun p5=>have p5f:=aU p5; (.s 12 (.t (decide (((a:Int) + (b:Int)) / 2 < ((a:Int) + (b:Int)) / 2 + (m:Int) - (st:Int))) dE (.s 6 (.f (decide (((a:Int) + (b:Int)) / 2 + (m:Int) - (st:Int) < (b:Int))) oD (.out [0,1] [0,1] (D.tup []) [Blk.mk (map nD X1) 3 true,Blk.mk [D.sl false L 1 (map nD W)] 152 false] R (ok _ _ wr (by ( rw [hE.s0' om,hE.t0' om])))))))))))))) (fun p4=>have p4f:=aU p4; (.s 6 (.t (decide ((a:Int) < (st:Int))) dE (.s 6 (.f (decide ((st:Int) < ((a:Int) + (b:Int)) / 2)) oD (.s 6 (.t (decide (((a:Int) + (b:Int)) / 2 < ((a:Int) + (b:Int)) / 2 + (m:Int) - (st:Int))) dE (.s 6 (.t (decide (((a:Int) + (b:Int)) / 2 + (m:Int) - (st:Int) < (b:Int))) dE (.s 6 (.call 197 true [0,1] (true) wr ([D.ref 0 0 0 N 1,zI (((a:Int) + (b:Int)) / 2),zI (((a:Int) + (b:Int)) / 2 + (m:Int) - (st:Int)),zN b,D.fn (MB 175) [] [D.ptr 1 1 0]]) _ (bY.refl _) (ab (map nD X) && true) (by (simp; done)) _ _ _ (CallOk.fn (aw.of Tryz.func197 rfl rfl) (@SmE.tp (W) (L) (N) (X) (X1) (X2) (T) (a) (m) (b) (mid) (q) (st) (en) (s0) (r0) bu om om (X) (((a:Int) + (b:Int)) / 2) (((a:Int) + (b:Int)) / 2 + (m:Int) - (st:Int)) ((b:Int)) (by ( exact (hE.r0' om).trans (hE.s0' om))) om om om)) (.out [0,1] [0,1] (D.tup []) [Blk.mk (map nD T) 3 true,Blk.mk [D.sl false L 1 (map nD W)] 152 false] R (ok _ _ wr wr)))))))))))))))) (fun p3=>have p3f:=aU p3; (.s 12 (.t (decide ((a:Int) < (st:Int))) dE (.s 6 (.f (decide ((st:Int) < ((a:Int) + (b:Int)) / 2)) oD (.s 6 (.f (decide (((a:Int) + (b:Int)) / 2 < ((a:Int) + (b:Int)) / 2 + (m:Int) - (st:Int))) oD (.s 6 (.out [0,1] [0,1] (D.tup []) [Blk.mk (map nD X) 3 true,Blk.mk [D.sl false L 1 (map nD W)] 152 false] R (ok _ _ wr (by ( rw [hE.r0' om,hE.s0' om,hE.t0' om]))))))))))))))))))))))))))) (fun p0=>have p0f:=aU p0; (.s 7 (.ow (((a:Int) + (b:Int)) / 2 + (m:Int) - 1) (.s 1 (.val 20 (zN a) (zN s0) zY (.val 21 (zN m) (zN r0) zY (Hn.inl T_ok ai false 220 2 (aA Tryz.prog 197 4) (fun (x:(x:Nat) ×' (y:Nat) ×' (f:Nat) ×' (hx:s0 ≤ x ∧ x ≤ y ∧ y ≤ r0) ×' (hf:y - x ≤ f) ×' (hR:gh (qC W X (q - 1)) f x y = st) ×' Unit)=>match x with | ⟨x,y,f,hx,hf,hR,_⟩=>CutS.mk [(0,D.ref 0 0 0 N 1),(1,zN a),(2,zN m),(3,zN b),(4,D.fn (MB 175) [] [D.ptr 1 1 0]),(18,zI (((a:Int) + (b:Int)) / 2)),(19,zI (((a:Int) + (b:Int)) / 2 + (m:Int))),(20,nD x),(21,nD y),(22,zI (((a:Int) + (b:Int)) / 2 + (m:Int) - 1))] [⟨0,0,0,0,.b ⟨map nD X,3,true⟩⟩,⟨1,1,1,1,.b ⟨[D.sl false L 1 (map nD W)],152,false⟩⟩] 24) (fun (x:(x:Nat) ×' (y:Nat) ×' (f:Nat) ×' (hx:s0 ≤ x ∧ x ≤ y ∧ y ≤ r0) ×' (hf:y - x ≤ f) ×' (hR:gh (qC W X (q - 1)) f x y = st) ×' Unit)=>match x with | ⟨x,y,f,hx,hf,hR,_⟩=>y - x) [⟨Unit,.exit 8,fun x=>match x with | ()=>CutS.mk [(0,D.ref 0 0 0 N 1),(1,zN a),(2,zN m),(3,zN b),(4,D.fn (MB 175) [] [D.ptr 1 1 0]),(18,zI (((a:Int) + (b:Int)) / 2)),(19,zI (((a:Int) + (b:Int)) / 2 + (m:Int))),(20,nD st),(21,nD st),(22,zI (((a:Int) + (b:Int)) / 2 + (m:Int) - 1))] [⟨0,0,0,0,.b ⟨map nD X,3,true⟩⟩,⟨1,1,1,1,.b ⟨[D.sl false L 1 (map nD W)],152,false⟩⟩] 24⟩] 1000 64 (fun | ⟨x,y,f,hx,hf,hR,_⟩,Q,next1,last1=>(.s 4 (.br (decide ((x:Int) < (y:Int))) (fun p7=>have p7f:=aT p7; (.s 4 (.ow ((x:Int) + (y:Int)) (.s 1 (.opt (az .u64 ((x:Int) + (y:Int))) (D.v (MO .u64 ((x:Int) + (y:Int)))) (bm om) (.s 2 (.opt (bj Nn (ME ((x:Int) + (y:Int)) 2)) (D.v (MO .u64 (((x:Int) + (y:Int)) / 2))) (ay (@fU  ((x:Int) + (y:Int)) (2) om)) (.s 1 (.ow (((x:Int) + (y:Int)) / 2) (.s 8 (.ow (((a:Int) + (b:Int)) / 2 + (m:Int) - 1 - ((x:Int) + (y:Int)) / 2) (.s 1 (.chk (decide (0 ≤ ((a:Int) + (b:Int)) / 2 + (m:Int) - 1 - ((x:Int) + (y:Int)) / 2) && decide (((a:Int) + (b:Int)) / 2 + (m:Int) - 1 - ((x:Int) + (y:Int)) / 2 < (N:Int))) zW (.s 2 (.opt ((map nD X)[0 + uV (((a:Int) + (b:Int)) / 2 + (m:Int) - 1 - ((x:Int) + (y:Int)) / 2) * 1]?) (nD (getD X (0 + uV (((a:Int) + (b:Int)) / 2 + (m:Int) - 1 - ((x:Int) + (y:Int)) / 2) * 1) jk)) (av _ _ om) (.s 3 (.chk (true && decide (((x:Int) + (y:Int)) / 2 < (N:Int))) dE (.s 2 (.opt ((map nD X)[0 + uV (((x:Int) + (y:Int)) / 2) * 1]?) (nD (getD X (0 + uV (((x:Int) + (y:Int)) / 2) * 1) jk)) (av _ _ om) (.s 1 (.cl 175 true [1] (.fn wO (@qv (W) (L) om (getD X (0 + uV (((a:Int) + (b:Int)) / 2 + (m:Int) - 1 - ((x:Int) + (y:Int)) / 2) * 1) jk) (getD X (0 + uV (((x:Int) + (y:Int)) / 2) * 1) jk) (by ( exact hA.at om)) (by ( exact hA.at om)))) (.s 3 (.br (!decide (me (getD W (getD X (0 + uV (((a:Int) + (b:Int)) / 2 + (m:Int) - 1 - ((x:Int) + (y:Int)) / 2) * 1) jk) jk) (getD W (getD X (0 + uV (((x:Int) + (y:Int)) / 2) * 1) jk) jk) < 0)) (fun p8=>have p8f:=aU (cY p8); (.s 3 (.ow (((x:Int) + (y:Int)) / 2 + 1) (.s 1 (.val 20 (zI (((x:Int) + (y:Int)) / 2 + 1)) (zN ((x + y) / 2 + 1)) zY (Hn.next next1 ⟨((x + y) / 2 + 1),(y),(f - 1),om,om,CD,⟨⟩⟩ zT [(0,0),(1,1)] ro)))))) (fun p8=>have p8f:=aT (cZ p8); (.s 2 (.val 21 (zI (((x:Int) + (y:Int)) / 2)) (zN ((x + y) / 2)) zY (Hn.next next1 ⟨(x),((x + y) / 2),(f - 1),om,om,CE,⟨⟩⟩ zU [(0,0),(1,1)] ro))))))))))))))))))))))))))) (fun p7=>have p7f:=aU p7; (.val 20 (zN x) (zN st) (by ( rw [xo hR om])) (.val 21 (zN y) (zN st) zV (Hn.last last1 0 (():Unit) rfl [(0,0),(1,1)] ro))))))) (fun | ⟨x,y,f,hx,hf,hR,_⟩=>by kernel_rfl) ⟨(s0),(r0),(r0 - s0),om,om,om,⟨⟩⟩ [(0,0),(1,1)] ro (cb (fun | ()=>(.s 4 (.ow (((a:Int) + (b:Int)) / 2 + (m:Int) - (st:Int)) (.s 7 (.br (decide ((st:Int) < (m:Int))) (fun p9=>have p9f:=aT p9; (.s 6 (.t (decide ((m:Int) < ((a:Int) + (b:Int)) / 2 + (m:Int) - (st:Int))) dE (.s 6 (.call 200 true [0,1] (true) wr ([D.ref 0 0 0 N 1,zN st,zN m,zI (((a:Int) + (b:Int)) / 2 + (m:Int) - (st:Int)),D.fn (MB 175) [] [D.ptr 1 1 0]]) _ (bY.refl _) (ab (map nD X) && true) (by (simp; done)) _ _ _ (CallOk.fn (aw.of Tryz.func200 rfl rfl) (@SmE.rp (W) (L) (N) (X) (X1) (X2) (T) (a) (m) (b) (mid) (q) (st) (en) (s0) (r0) bu om om (X) ((st:Int)) ((m:Int)) (((a:Int) + (b:Int)) / 2 + (m:Int) - (st:Int)) wr om om om)) (.s 6 (.br (decide ((a:Int) < (st:Int))) (fun p10=>have p10f:=aT p10; (.s 6 (.t (decide ((st:Int) < ((a:Int) + (b:Int)) / 2)) dE (.s 6 (.call 197 true [0,1] (true) wr ([D.ref 0 0 0 N 1,zN a,zN st,zI (((a:Int) + (b:Int)) / 2),D.fn (MB 175) [] [D.ptr 1 1 0]]) _ (bY.refl _) (ab (map nD X1) && true) (by (simp; done)) _ _ _ (CallOk.fn (aw.of Tryz.func197 rfl rfl) (@SmE.sp (W) (L) (N) (X) (X1) (X2) (T) (a) (m) (b) (mid) (q) (st) (en) (s0) (r0) bu om om (X1) ((a:Int)) ((st:Int)) (((a:Int) + (b:Int)) / 2) wr om om om)) (.s 6 (.t (decide (((a:Int) + (b:Int)) / 2 < ((a:Int) + (b:Int)) / 2 + (m:Int) - (st:Int))) dE (.s 6 (.t (decide (((a:Int) + (b:Int)) / 2 + (m:Int) - (st:Int) < (b:Int))) dE (.s 6 (.call 197 true [0,1] (true) wr ([D.ref 0 0 0 N 1,zI (((a:Int) + (b:Int)) / 2),zI (((a:Int) + (b:Int)) / 2 + (m:Int) - (st:Int)),zN b,D.fn (MB 175) [] [D.ptr 1 1 0]]) _ (bY.refl _) (ab (map nD X2) && true) (by (simp; done)) _ _ _ (CallOk.fn (aw.of Tryz.func197 rfl rfl) (@SmE.tp (W) (L) (N) (X) (X1) (X2) (T) (a) (m) (b) (mid) (q) (st) (en) (s0) (r0) bu om om (X2) (((a:Int) + (b:Int)) / 2) (((a:Int) + (b:Int)) / 2 + (m:Int) - (st:Int)) ((b:Int)) wr om om om)) (.out [0,1] [0,1] (D.tup []) [Blk.mk (map nD T) 3 true,Blk.mk [D.sl false L 1 (map nD W)] 152 false] R (ok _ _ wr wr))))))))))))) (fun p10=>have p10f:=aU p10; (.s 12 (.t (decide (((a:Int) + (b:Int)) / 2 < ((a:Int) + (b:Int)) / 2 + (m:Int) - (st:Int))) dE (.s 6 (.br (decide (((a:Int) + (b:Int)) / 2 + (m:Int) - (st:Int) < (b:Int))) (fun p11=>have p11f:=aT p11; (.s 6 (.call 197 true [0,1] (true) wr ([D.ref 0 0 0 N 1,zI (((a:Int) + (b:Int)) / 2),zI (((a:Int) + (b:Int)) / 2 + (m:Int) - (st:Int)),zN b,D.fn (MB 175) [] [D.ptr 1 1 0]]) _ (bY.refl _) (ab (map nD X1) && true) (by (simp; done)) _ _ _ (CallOk.fn (aw.of Tryz.func197 rfl rfl) (@SmE.tp (W) (L) (N) (X) (X1) (X2) (T) (a) (m) (b) (mid) (q) (st) (en) (s0) (r0) bu om om (X1) (((a:Int) + (b:Int)) / 2) (((a:Int) + (b:Int)) / 2 + (m:Int) - (st:Int)) ((b:Int)) (by ( exact hE.s0' om)) om om om)) (.out [0,1] [0,1] (D.tup []) [Blk.mk (map nD T) 3 true,Blk.mk [D.sl false L 1 (map nD W)] 152 false] R (ok _ _ wr wr))))) (fun p11=>have p11f:=aU p11; (.out [0,1] [0,1] (D.tup []) [Blk.mk (map nD X1) 3 true,Blk.mk [D.sl false L 1 (map nD W)] 152 false] R (ok _ _ wr (by ( rw [hE.s0' om,hE.t0' om]))))))))))))))))) (fun p9=>have p9f:=aU p9; (.s 12 (.t (decide ((a:Int) < (st:Int))) dE (.s 6 (.br (decide ((st:Int) < ((a:Int) + (b:Int)) / 2)) (fun p12=>have p12f:=aT p12; (.s 6 (.call 197 true [0,1] (true) wr ([D.ref 0 0 0 N 1,zN a,zN st,zI (((a:Int) + (b:Int)) / 2),D.fn (MB 175) [] [D.ptr 1 1 0]]) _ (bY.refl _) (ab (map nD X) && true) (by (simp; done)) _ _ _ (CallOk.fn (aw.of Tryz.func197 rfl rfl) (@SmE.sp (W) (L) (N) (X) (X1) (X2) (T) (a) (m) (b) (mid) (q) (st) (en) (s0) (r0) bu om om (X) ((a:Int)) ((st:Int)) (((a:Int) + (b:Int)) / 2) (by ( exact hE.r0' om)) om om om)) (.s 6 (.f (decide (((a:Int) + (b:Int)) / 2 < ((a:Int) + (b:Int)) / 2 + (m:Int) - (st:Int))) oD (.s 6 (.out [0,1] [0,1] (D.tup []) [Blk.mk (map nD X2) 3 true,Blk.mk [D.sl false L 1 (map nD W)] 152 false] R (ok _ _ wr (by ( rw [hE.t0' om])))))))))) (fun p12=>have p12f:=aU p12; (.s 6 (.f (decide (((a:Int) + (b:Int)) / 2 < ((a:Int) + (b:Int)) / 2 + (m:Int) - (st:Int))) oD (.s 6 (.out [0,1] [0,1] (D.tup []) [Blk.mk (map nD X) 3 true,Blk.mk [D.sl false L 1 (map nD W)] 152 false] R (ok _ _ wr (by ( rw [hE.r0' om,hE.s0' om,hE.t0' om]))))))))))))))))))))))))))))))))))))))))))))))) (by kernel_rfl)
end Vp
end Go.Proofs.YtefjnofhgkjpmaaGreat
namespace Go.Proofs.YtefjnofhgkjpmaaGreat
open Go.RowKit Go.Bw Go.Vx
namespace Vp
theorem iV {X:List Nat} {i j:Nat} (hi:i < X.length) (hj:j < X.length):(swp X i j).Perm X:=by
 rw [List.perm_iff_count]
 intro c
 have e1:X.getD i jk = X[i]:=by rw [List.getD_eq_getElem?_getD,List.getElem?_eq_getElem hi]; rfl
 have e2:X.getD j jk = X[j]:=by rw [List.getD_eq_getElem?_getD,List.getElem?_eq_getElem hj]; rfl
 rw [ox,e1,e2,List.count_set (by rw [NZ]; exact hj),List.count_set hi,List.getElem_set]
 have h1:(X[i] == c) = true → 1 ≤ X.count c:=fun q=>by
  rw [List.one_le_count_iff,← eq_of_beq q]; exact MG hi
 have h3:(if i = j then X[j] else X[j]) = X[j]:=by split <;> rfl
 rw [h3]
 cases q1:(X[i] == c) <;> cases q2:(X[j] == c) <;> simp <;> (try have:=h1 q1) <;> omega
theorem iW {X:List Nat} {a b:Nat}:∀ k,a + k ≤ X.length → b + k ≤ X.length → (dM X a b k).Perm X
 | 0,_,_=>by rw [Cw]
 | k + 1,h1,h2=>by
  rw [← Cy]
  exact (iV (by rw [dn]; omega) (by rw [dn]; omega)).trans (iW k (by omega) (by omega))
theorem jt {m:Nat}:∀ (f i j:Nat) (X:List Nat),1 ≤ i → 1 ≤ j → i ≤ m → m + j ≤ X.length → i + j ≤ f → (gg m f i j X).Perm X
 | 0,i,j,X,h1,h2,h3,h4,h5=>by omega
 | f + 1,i,j,X,h1,h2,h3,h4,h5=>by
  rw [gg]; split
  ·exact iW i (by omega) (by omega)
  ·split
   ·exact (jt f (i - j) j _ (by omega) h2 (by omega) (by rw [dn]; omega) (by omega)).trans (iW j (by omega) (by omega))
   ·exact (jt f i (j - i) _ h1 (by omega) h3 (by rw [dn]; omega) (by omega)).trans (iW i (by omega) (by omega))
theorem vb {X:List Nat} {a m b:Nat} (h1:a < m) (h2:m < b) (h3:b ≤ X.length):(xk X a m b).Perm X:=by
 rw [tM]; exact jt _ _ _ _ (by omega) (by omega) (by omega) (by omega) (by omega)
theorem qx {W:List Nat} {a:Nat}:∀ (j:Nat) (X:List Nat),j < X.length → (inI W a j X).Perm X
 | 0,_,_=>NV _
 | j + 1,X,h=>by
  rw [inI]; split
  ·exact (qx j _ (by rw [fZ]; omega)).trans (iV h (by omega))
  ·exact NV _
theorem gF {W X:List Nat} {a:Nat}:∀ (k:Nat),a + k < X.length ∨ k = 0 → (inQ W X a k).Perm X
 | 0,_=>by rw [xl]
 | k + 1,h=>by
  rw [← xm]
  exact (qx _ _ (by rw [iU]; omega)).trans (gF k (by omega))
theorem qy {X:List Nat} {a:Nat}:∀ (k:Nat),a + k < X.length ∨ k = 0 → (gD X a k).Perm X
 | 0,_=>by rw [CG]
 | k + 1,h=>by
  rw [← CI]
  exact (iV (by rw [f6]; omega) (by rw [f6]; omega)).trans (qy k (by omega))
theorem qz {X:List Nat} {m:Nat} (hm:m < X.length):∀ (k:Nat),(gE X m k).Perm X
 | 0=>by rw [CH]
 | k + 1=>by
  rw [← CJ]
  exact (iV (by rw [f7]; omega) (by rw [f7]; omega)).trans (qz hm k)
theorem bw.perm {L:Nat} {X Y:List Nat} (h:bw L X) (hp:Y.Perm X):bw L Y:=fun x hx=>h x (hp.mem_iff.1 hx)
def iX (a m b:Nat):Nat:=if (a + b) / 2 < m then (a + b) / 2 + m - b else a
def ju (a m b:Nat):Nat:=if (a + b) / 2 < m then (a + b) / 2 else m
def dK (W X:List Nat) (a m b:Nat):Nat:=gh (qC W X ((a + b) / 2 + m - 1)) (ju a m b - iX a m b) (iX a m b) (ju a m b)
def fx (X:List Nat) (m st en:Nat):List Nat:=if st < m ∧ m < en then xk X st m en else X
def jW (W:List Nat):Nat → List Nat → Nat → Nat → Nat → List Nat
 | 0,X,_,_,_=>X
 | f + 1,X,a,m,b =>
  if m = a + 1 then gD X a (gh (qA W X a) (b - m) m b - 1 - a)
  else if b = m + 1 then gE X m (m - gh (qB W X m) (m - a) a m)
  else
   (fun st=>(fun en=>(fun X1=>(fun X2=>if (a + b) / 2 < en ∧ en < b then jW W f X2 ((a + b) / 2) en b else X2)
    (if a < st ∧ st < (a + b) / 2 then jW W f X1 a st ((a + b) / 2) else X1)) (fx X m st en)) ((a + b) / 2 + m - st)) (dK W X a m b)
theorem xp {a m b:Nat} (h1:a < m) (h2:m < b):iX a m b ≤ ju a m b ∧ ju a m b ≤ m ∧ a ≤ iX a m b ∧ (a + b) / 2 + m ≤ iX a m b + b:=by
 unfold iX ju; split <;> omega
theorem np {X:List Nat} {m st en:Nat} (h:en ≤ X.length):(fx X m st en).Perm X:=by
 unfold fx; split
 ·next q=>exact vb q.1 q.2 h
 ·exact NV _
theorem eo {W:List Nat}:∀ (f:Nat) (X:List Nat) (a m b:Nat),a < m → m < b → b ≤ X.length → (jW W f X a m b).Perm X
 | 0,_,_,_,_,_,_,_=>NV _
 | f + 1,X,a,m,b,h1,h2,h3=>by
  rw [jW]
  split
  ·have:=lN (p:=qA W X a) (b - m) m b (by omega)
   exact qy _ (by omega)
  ·split
   ·exact qz (by omega) _
   ·have hs:=xp h1 h2
    have hi:=lN (p:=qC W X ((a + b) / 2 + m - 1)) (ju a m b - iX a m b) (iX a m b) (ju a m b) hs.1
    show List.Perm (if (a + b) / 2 < (a + b) / 2 + m - dK W X a m b ∧ _ then _ else _) X
    generalize hst:dK W X a m b = st at *
    have hst2:iX a m b ≤ st ∧ st ≤ ju a m b:=by rw [← hst]; exact hi
    have q1:(fx X m st ((a + b) / 2 + m - st)).Perm X:=np (by omega)
    have l1:=q1.length_eq
    have q2:(if a < st ∧ st < (a + b) / 2 then jW W f (fx X m st ((a + b) / 2 + m - st)) a st ((a + b) / 2) else fx X m st ((a + b) / 2 + m - st)).Perm X:=by
     split
     ·next q=>exact (eo f _ _ _ _ q.1 q.2 (by omega)).trans q1
     ·exact q1
    have l2:=q2.length_eq
    generalize (if a < st ∧ st < (a + b) / 2 then jW W f (fx X m st ((a + b) / 2 + m - st)) a st ((a + b) / 2) else fx X m st ((a + b) / 2 + m - st)) = X2 at *
    split
    ·next q=>exact (eo f _ _ _ _ q.1 q.2 (by omega)).trans q2
    ·exact q2
theorem EJ (X:List Nat) (N:Nat) (hN:N = X.length) (hN2:N ≤ 1000) (W:List Nat) (L:Nat) (hL:L = W.length) {a m b:Nat} (h1:a < m) (h2:m < b) (h3:b ≤ N):RtH W L N X a m b (xk X a m b):=⟨fun Y x y z hY hx hy hz=>by
 subst hY hx hy hz
 exact HS Y N hN hN2 W L hL a m b h1 h2 h3 _ rfl⟩
theorem tR (W:List Nat) (L:Nat) (hL:L = W.length) (N:Nat) (hN2:N ≤ 1000):∀ (f:Nat) (X:List Nat),N = X.length → bw L X → ∀ (a m b:Nat),a < m → m < b → b ≤ N → b - a ≤ f → SpecH true Tryz.prog 197 [.ref 0 0 0 N 1,nD a,nD m,nD b,.fn (.func 175) [] [.ptr 1 1 0]] [⟨X.map nD, 3, true⟩,⟨[.sl false L 1 (W.map nD)], 152, false⟩] (.tup []) [⟨(jW W f X a m b).map nD, 3, true⟩,⟨[.sl false L 1 (W.map nD)], 152, false⟩]
 | 0,X,hN,hA,a,m,b,h1,h2,h3,hf=>by omega
 | f + 1,X,hN,hA,a,m,b,h1,h2,h3,hf=>by
  rw [jW]
  by_cases c1:m = a + 1
  ·rw [if_pos c1]
   exact Kk X N hN hN2 W L hL hA a m b h1 h2 h3 c1 _ rfl (lN _ _ _ (by omega))
  ·rw [if_neg c1]
   by_cases c2:b = m + 1
   ·rw [if_pos c2]
    exact Kl X N hN hN2 W L hL hA a m b h1 h2 h3 c1 c2 _ rfl (lN _ _ _ (by omega))
   ·rw [if_neg c2]
    have hs:=xp h1 h2
    have hi:iX a m b ≤ dK W X a m b ∧ dK W X a m b ≤ ju a m b:=lN _ _ _ hs.1
    have q1:(fx X m (dK W X a m b) ((a + b) / 2 + m - dK W X a m b)).Perm X:=np (by omega)
    refine Km X N hN hN2 W L hL hA a m b h1 h2 h3 c1 c2 (fx X m (dK W X a m b) ((a + b) / 2 + m - dK W X a m b)) (if a < dK W X a m b ∧ dK W X a m b < (a + b) / 2 then jW W f (fx X m (dK W X a m b) ((a + b) / 2 + m - dK W X a m b)) a (dK W X a m b) ((a + b) / 2) else fx X m (dK W X a m b) ((a + b) / 2 + m - dK W X a m b)) _ ((a + b) / 2) ((a + b) / 2 + m) (dK W X a m b) ((a + b) / 2 + m - dK W X a m b) rfl rfl (iX a m b) (ju a m b) ⟨hs.1,hs.2.1,hs.2.2.1,hs.2.2.2⟩ rfl hi rfl ?_
    have q2:(if a < dK W X a m b ∧ dK W X a m b < (a + b) / 2 then jW W f (fx X m (dK W X a m b) ((a + b) / 2 + m - dK W X a m b)) a (dK W X a m b) ((a + b) / 2) else fx X m (dK W X a m b) ((a + b) / 2 + m - dK W X a m b)).Perm X:=by
     split
     ·next q=>exact (eo f _ _ _ _ q.1 q.2 (by rw [q1.length_eq]; omega)).trans q1
     ·exact q1
    have e3:(a + b) / 2 < m → iX a m b = (a + b) / 2 + m - b ∧ ju a m b = (a + b) / 2:=fun q=>⟨if_pos q,if_pos q⟩
    have e4:m ≤ (a + b) / 2 → iX a m b = a ∧ ju a m b = m:=fun q=>⟨if_neg (by omega),if_neg (by omega)⟩
    generalize dK W X a m b = st at *
    generalize iX a m b = s0 at *
    generalize ju a m b = r0 at *
    refine ⟨fun a1 a2=>?_,fun a1=>?_,fun a1 a2=>?_,fun a1=>?_,fun a1 a2=>?_,fun a1=>?_,e3,e4⟩
    ·unfold fx; rw [if_pos ⟨a1,a2⟩]; exact EJ X N hN hN2 W L hL a1 a2 (by omega)
    ·unfold fx; rw [if_neg (fun q=>a1 q.1 q.2)]
    ·rw [if_pos ⟨a1,a2⟩]
     refine ⟨fun Y x y z hY hx hy hz=>?_⟩
     subst hY hx hy hz
     exact tR W L hL N hN2 f _ (by rw [q1.length_eq]; exact hN) (hA.perm q1) _ _ _ a1 a2 (by omega) (by omega)
    ·rw [if_neg (fun q=>a1 q.1 q.2)]
    ·dsimp only
     generalize (if a < st ∧ st < (a + b) / 2 then jW W f (fx X m st ((a + b) / 2 + m - st)) a st ((a + b) / 2) else fx X m st ((a + b) / 2 + m - st)) = X2 at *
     rw [if_pos ⟨a1,a2⟩]
     refine ⟨fun Y x y z hY hx hy hz=>?_⟩
     subst hY hx hy hz
     exact tR W L hL N hN2 f _ (by rw [q2.length_eq]; exact hN) (hA.perm q2) _ _ _ a1 a2 (by omega) (by omega)
    ·dsimp only
     generalize (if a < st ∧ st < (a + b) / 2 then jW W f (fx X m st ((a + b) / 2 + m - st)) a st ((a + b) / 2) else fx X m st ((a + b) / 2 + m - st)) = X2 at *
     rw [if_neg (fun q=>a1 q.1 q.2)]
end Vp
end Go.Proofs.YtefjnofhgkjpmaaGreat
namespace Go.Proofs.YtefjnofhgkjpmaaGreat
open Go.RowKit Go.Bw Go.Vx
open List (length getD map take drop flatMap replicate)
namespace Vp
theorem xq {p:Prop} (h:p:=by (refine aO ?_; (omega))):p:=h
def vt (W:List Nat) (n:Nat):Nat → Nat → List Nat → List Nat
 | 0,a,Y=>inQ W Y a (n - (a + 1))
 | f + 1,a,Y=>if a + 20 ≤ n then vt W n f (a + 20) (inQ W Y a 19) else inQ W Y a (n - (a + 1))
theorem Kn {W:List Nat} {n f a:Nat} {Y T:List Nat} (hR:vt W n f a Y = T) (hf:n - a ≤ f) (h:a + 20 ≤ n):vt W n (f - 1) (a + 20) (inQ W Y a (a + 20 - (a + 1))) = T:=by
 obtain ⟨g,rfl⟩:∃ g,f = g + 1:=⟨f - 1,by omega⟩
 rw [← hR,show a + 20 - (a + 1) = 19 from by omega]; exact (if_pos h).symm
theorem Ko {W:List Nat} {n f a:Nat} {Y T:List Nat} (hR:vt W n f a Y = T) (h:¬ a + 20 ≤ n):inQ W Y a (n - (a + 1)) = T:=by
 rw [← hR]; cases f with
 | zero=>rfl
 | succ f=>exact (if_neg h).symm
def oG (W:List Nat) (z n:Nat):Nat → Nat → List Nat → List Nat
 | 0,a,Y=>if a + z < n then jW W (2 * z) Y a (a + z) n else Y
 | f + 1,a,Y=>if a + 2 * z ≤ n then oG W z n f (a + 2 * z) (jW W (2 * z) Y a (a + z) (a + 2 * z)) else if a + z < n then jW W (2 * z) Y a (a + z) n else Y
theorem Kp {W:List Nat} {z n f a:Nat} {Y T:List Nat} (hR:oG W z n f a Y = T) (hf:n - a ≤ f) (hz:0 < z) (h:a + 2 * z ≤ n):oG W z n (f - 1) (a + 2 * z) (jW W (2 * z) Y a (a + z) (a + 2 * z)) = T:=by
 obtain ⟨g,rfl⟩:∃ g,f = g + 1:=⟨f - 1,by omega⟩
 rw [← hR]; exact (if_pos h).symm
theorem Kq {W:List Nat} {z n f a:Nat} {Y T:List Nat} (hR:oG W z n f a Y = T) (h:¬ a + 2 * z ≤ n):(if a + z < n then jW W (2 * z) Y a (a + z) n else Y) = T:=by
 rw [← hR]; cases f with
 | zero=>rfl
 | succ f=>exact (if_neg h).symm
def vu (W:List Nat) (n:Nat):Nat → Nat → List Nat → List Nat
 | 0,_,Y=>Y
 | f + 1,z,Y=>if z < n then vu W n f (2 * z) (oG W z n n 0 Y) else Y
theorem HY {W:List Nat} {z n f:Nat} {Y T:List Nat} (hR:vu W n f z Y = T) (hf:n - z ≤ f) (h:z < n):vu W n (f - 1) (2 * z) (oG W z n n 0 Y) = T:=by
 obtain ⟨g,rfl⟩:∃ g,f = g + 1:=⟨f - 1,by omega⟩
 rw [← hR]; exact (if_pos h).symm
theorem Kr {W:List Nat} {z n f:Nat} {Y T:List Nat} (hR:vu W n f z Y = T) (h:¬ z < n):Y = T:=by
 rw [← hR]; cases f with
 | zero=>rfl
 | succ f=>exact (if_neg h).symm
def Ks (W X:List Nat):List Nat:=vu W X.length X.length 20 (vt W X.length X.length 0 X)
theorem lP {W:List Nat} {n:Nat}:∀ (f a:Nat) (Y:List Nat),n = Y.length → a ≤ n → (vt W n f a Y).Perm Y
 | 0,a,Y,hn,ha=>gF _ (by omega)
 | f + 1,a,Y,hn,ha=>by
  rw [vt]; split
  ·have q:(inQ W Y a 19).Perm Y:=gF _ (by omega)
   exact (lP f _ _ (by rw [q.length_eq]; exact hn) (by omega)).trans q
  ·exact gF _ (by omega)
theorem iY {W:List Nat} {z n:Nat} (hz:0 < z):∀ (f a:Nat) (Y:List Nat),n = Y.length → (oG W z n f a Y).Perm Y
 | 0,a,Y,hn=>by
  rw [oG]; split
  ·exact eo _ _ _ _ _ (by omega) (by omega) (by omega)
  ·exact NV _
 | f + 1,a,Y,hn=>by
  rw [oG]; split
  ·have q:(jW W (2 * z) Y a (a + z) (a + 2 * z)).Perm Y:=eo _ _ _ _ _ (by omega) (by omega) (by omega)
   exact (iY hz f _ _ (by rw [q.length_eq]; exact hn)).trans q
  ·split
   ·exact eo _ _ _ _ _ (by omega) (by omega) (by omega)
   ·exact NV _
theorem qD {W:List Nat} {n:Nat}:∀ (f z:Nat) (Y:List Nat),0 < z → n = Y.length → (vu W n f z Y).Perm Y
 | 0,z,Y,hz,hn=>NV _
 | f + 1,z,Y,hz,hn=>by
  rw [vu]; split
  ·have q:=iY (W:=W) hz n 0 Y hn
   exact (qD f _ _ (by omega) (by rw [q.length_eq]; exact hn)).trans q
  ·exact NV _
theorem xu (W X:List Nat):(Ks W X).Perm X:=by
 have q:=lP (W:=W) X.length 0 X rfl (MK _)
 exact (qD _ _ _ (by decide) q.length_eq.symm).trans q
structure Ord (L N:Nat) (Y:List Nat):Prop where
 n:N = Y.length
 a:bw L Y
theorem Ord.perm {L N:Nat} {X Y:List Nat} (h:Ord L N X) (q:Y.Perm X):Ord L N Y:=⟨by rw [q.length_eq]; exact h.n,h.a.perm q⟩
theorem Ord.in {L N:Nat} {W Y:List Nat} {a b:Nat} (h:Ord L N Y) (hb:b ≤ N):Ord L N (inQ W Y a (b - (a + 1))):=h.perm (gF _ (by have:=h.n; omega))
theorem Ord.sm {L N:Nat} {W Y:List Nat} {f a m b:Nat} (h:Ord L N Y) (h1:a < m) (h2:m < b) (hb:b ≤ N):Ord L N (jW W f Y a m b):=h.perm (eo _ _ _ _ _ h1 h2 (by have:=h.n; omega))
theorem CK (Y:List Nat) (N:Nat) (hN2:N ≤ 1000) (W:List Nat) (L:Nat) (hL:L = W.length) (hO:Ord L N Y) (a b:Nat) (h1:a ≤ b) (h3:b ≤ N):SpecH true Tryz.prog 196 [.ref 0 0 0 N 1,nD a,nD b,.fn (.func 175) [] [.ptr 1 1 0]] [⟨Y.map nD, 3, true⟩,⟨[.sl false L 1 (W.map nD)], 152, false⟩] (.tup []) [⟨(inQ W Y a (b - (a + 1))).map nD, 3, true⟩,⟨[.sl false L 1 (W.map nD)], 152, false⟩]:=HT Y N hO.n hN2 W L hL hO.a a b h1 h3 _ rfl
theorem HZ (Y:List Nat) (N:Nat) (hN2:N ≤ 1000) (W:List Nat) (L:Nat) (hL:L = W.length) (hO:Ord L N Y) (z a:Nat) (hz:0 < z) (h3:a + 2 * z ≤ N):SpecH true Tryz.prog 197 [.ref 0 0 0 N 1,nD a,iD ((a:Int) + z),nD (a + 2 * z),.fn (.func 175) [] [.ptr 1 1 0]] [⟨Y.map nD, 3, true⟩,⟨[.sl false L 1 (W.map nD)], 152, false⟩] (.tup []) [⟨(jW W (2 * z) Y a (a + z) (a + 2 * z)).map nD, 3, true⟩,⟨[.sl false L 1 (W.map nD)], 152, false⟩] :=
 tR W L hL N hN2 (2 * z) Y hO.n hO.a a (a + z) (a + 2 * z) (by omega) (by omega) h3 (by omega)
theorem H1 (Y:List Nat) (N:Nat) (hN2:N ≤ 1000) (W:List Nat) (L:Nat) (hL:L = W.length) (hO:Ord L N Y) (z a:Nat) (hz:0 < z) (h:a + z < N) (h3:N < a + 2 * z):SpecH true Tryz.prog 197 [.ref 0 0 0 N 1,nD a,iD ((a:Int) + z),nD N,.fn (.func 175) [] [.ptr 1 1 0]] [⟨Y.map nD, 3, true⟩,⟨[.sl false L 1 (W.map nD)], 152, false⟩] (.tup []) [⟨(jW W (2 * z) Y a (a + z) N).map nD, 3, true⟩,⟨[.sl false L 1 (W.map nD)], 152, false⟩] :=
 tR W L hL N hN2 (2 * z) Y hO.n hO.a a (a + z) N (by omega) h (Mc _) (by omega)
theorem H2 (X:List Nat) (N:Nat) (hN2:N ≤ 1000) (W:List Nat) (L:Nat) (hL:L = W.length) (hO:Ord L N X) (T1 T:List Nat) (hT1:vt W N N 0 X = T1) (hO1:Ord L N T1) (hT:vu W N N 20 T1 = T):SpecH true Tryz.prog 190 [.ref 0 0 0 N 1,nD N,.fn (.func 175) [] [.ptr 1 1 0]] [⟨X.map nD, 3, true⟩,⟨[.sl false L 1 (W.map nD)], 152, false⟩] (.tup []) [⟨T.map nD, 3, true⟩,⟨[.sl false L 1 (W.map nD)], 152, false⟩]:=by
 refine SpecH.run T_ok ai Tryz.func190 rfl rfl rfl ⟨lx _,rfl,trivial⟩ rfl 1000 64 (fun R ok=>(.s 4 (Hn.inl T_ok ai false 63 2 (aA Tryz.prog 190 0) (fun (x:(a:Nat) ×' (Y:List Nat) ×' (f:Nat) ×' (ha:a ≤ N) ×' (hQ:Ord L N Y) ×' (hf:N - a ≤ f) ×' (hR:vt W N f a Y = T1) ×' Unit)=>match x with | ⟨a,Y,f,ha,hQ,hf,hR,_⟩=>CutS.mk [(0,D.ref 0 0 0 N 1),(1,zN N),(2,D.fn (MB 175) [] [D.ptr 1 1 0]),(6,zI 20),(7,nD a),(8,nD (a + 20))] [⟨0,0,0,0,.b ⟨Y.map nD,3,true⟩⟩,⟨1,1,1,1,.b ⟨[D.sl false L 1 (map nD W)],152,false⟩⟩] 24) (fun (x:(a:Nat) ×' (Y:List Nat) ×' (f:Nat) ×' (ha:a ≤ N) ×' (hQ:Ord L N Y) ×' (hf:N - a ≤ f) ×' (hR:vt W N f a Y = T1) ×' Unit)=>match x with | ⟨a,Y,f,ha,hQ,hf,hR,_⟩=>N - a) [⟨(a2:Nat) ×' (Y2:List Nat) ×' (ha2:a2 ≤ N) ×' (hQ2:Ord L N Y2) ×' (hR2:inQ W Y2 a2 (N - (a2 + 1)) = T1) ×' Unit,.exit 0,fun x=>match x with | ⟨a2,Y2,ha2,hQ2,hR2,_⟩=>CutS.mk [(0,D.ref 0 0 0 N 1),(1,zN N),(2,D.fn (MB 175) [] [D.ptr 1 1 0]),(6,zI 20),(7,nD a2),(8,nD (a2 + 20))] [⟨0,0,0,0,.b ⟨Y2.map nD,3,true⟩⟩,⟨1,1,1,1,.b ⟨[D.sl false L 1 (map nD W)],152,false⟩⟩] 24⟩] 1000 64 (fun | ⟨a,Y,f,ha,hQ,hf,hR,_⟩,Q,next1,last1=>(.s 4 (.br (decide ((↑(a + 20):Int) ≤ (N:Int))) (fun p0=>have p0f:=aT p0; (.s 5 (.call 196 true [0,1] (true) wr ([D.ref 0 0 0 N 1,zN a,zN (a + 20),D.fn (MB 175) [] [D.ptr 1 1 0]]) _ (bY.refl _) (ab (map nD Y) && true) (by (simp; done)) _ _ _ (CallOk.fn (aw.of Tryz.func196 rfl rfl) (@CK (Y) (N) om (W) (L) om om (a) (a + 20) om om)) (.s 6 (.ow ((↑(a + 20):Int) + 20) (.s 1 (.val 8 (zI ((↑(a + 20):Int) + 20)) (zN (a + 20 + 20)) xq (Hn.next next1 ⟨(a + 20),(inQ W Y a (a + 20 - (a + 1))),(f - 1),om,(by (exact hQ.in (by (omega)))),om,(by ( exact Kn hR om om)),⟨⟩⟩ (by show N - (a + 20) < N - a; clear next1 last1; omega) [(0,0),(1,1)] ro)))))))) (fun p0=>have p0f:=aU p0; (Hn.last last1 0 (⟨(a),(Y),om,om,(by ( exact Ko hR om)),⟨⟩⟩:(a2:Nat) ×' (Y2:List Nat) ×' (ha2:a2 ≤ N) ×' (hQ2:Ord L N Y2) ×' (hR2:inQ W Y2 a2 (N - (a2 + 1)) = T1) ×' Unit) rfl [(0,0),(1,1)] ro))))) (fun | ⟨a,Y,f,ha,hQ,hf,hR,_⟩=>by kernel_rfl) ⟨(0),(X),(N),om,om,om,om,⟨⟩⟩ [(0,0),(1,1)] ro (cb (fun | ⟨a2,Y2,ha2,hQ2,hR2,_⟩=>(.s 5 (.call 196 true [0,1] (true) wr ([D.ref 0 0 0 N 1,zN a2,zN N,D.fn (MB 175) [] [D.ptr 1 1 0]]) _ (bY.refl _) (ab (map nD Y2) && true) (by (simp; done)) _ _ _ (CallOk.fn (aw.of Tryz.func196 rfl rfl) (@CK (Y2) (N) om (W) (L) om om (a2) (N) om om)) (.blk 0 0 (Blk.mk (map nD (inQ W Y2 a2 (N - (a2 + 1)))) 3 true) (Blk.mk (map nD T1) 3 true) (by (rw [hR2])) (Hn.inl T_ok ai false 63 2 (aA Tryz.prog 190 1) (fun (x:(z:Nat) ×' (Z:List Nat) ×' (f:Nat) ×' (hz:20 ≤ z ∧ z ≤ 2000) ×' (hQ:Ord L N Z) ×' (hf:N - z ≤ f) ×' (hR:vu W N f z Z = T) ×' Unit)=>match x with | ⟨z,Z,f,hz,hQ,hf,hR,_⟩=>CutS.mk [(0,D.ref 0 0 0 N 1),(1,zN N),(2,D.fn (MB 175) [] [D.ptr 1 1 0]),(6,nD z)] [⟨0,0,0,0,.b ⟨Z.map nD,3,true⟩⟩,⟨1,1,1,1,.b ⟨[D.sl false L 1 (map nD W)],152,false⟩⟩] 24) (fun (x:(z:Nat) ×' (Z:List Nat) ×' (f:Nat) ×' (hz:20 ≤ z ∧ z ≤ 2000) ×' (hQ:Ord L N Z) ×' (hf:N - z ≤ f) ×' (hR:vu W N f z Z = T) ×' Unit)=>match x with | ⟨z,Z,f,hz,hQ,hf,hR,_⟩=>N - z) [⟨Unit,.exit 2,fun x=>match x with | ()=>CutS.mk [(0,D.ref 0 0 0 N 1),(1,zN N),(2,D.fn (MB 175) [] [D.ptr 1 1 0])] [⟨0,0,0,0,.b ⟨T.map nD,3,true⟩⟩,⟨1,1,1,1,.b ⟨[D.sl false L 1 (map nD W)],152,false⟩⟩] 24⟩] 1000 64 (fun | ⟨z,Z,f,hz,hQ,hf,hR,_⟩,Q,next1,last1=>(.s 4 (.br (decide ((z:Int) < (N:Int))) (fun p1=>have p1f:=aT p1; (.s 3 (.ow (2 * (z:Int)) (.s 2 (.val 8 (zI (2 * (z:Int))) (zN (0 + 2 * z)) xq (Hn.inl T_ok ai false 63 2 (aA Tryz.prog 190 2) (fun (x:(a:Nat) ×' (Y:List Nat) ×' (g:Nat) ×' (ha:a ≤ N) ×' (hQ:Ord L N Y) ×' (hf:N - a ≤ g) ×' (hR:oG W z N g a Y = oG W z N N 0 Z) ×' Unit)=>match x with | ⟨a,Y,g,ha,hQ,hf,hR,_⟩=>CutS.mk [(0,D.ref 0 0 0 N 1),(1,zN N),(2,D.fn (MB 175) [] [D.ptr 1 1 0]),(6,zN z),(7,nD a),(8,nD (a + 2 * z))] [⟨0,0,0,0,.b ⟨Y.map nD,3,true⟩⟩,⟨1,1,1,1,.b ⟨[D.sl false L 1 (map nD W)],152,false⟩⟩] 24) (fun (x:(a:Nat) ×' (Y:List Nat) ×' (g:Nat) ×' (ha:a ≤ N) ×' (hQ:Ord L N Y) ×' (hf:N - a ≤ g) ×' (hR:oG W z N g a Y = oG W z N N 0 Z) ×' Unit)=>match x with | ⟨a,Y,g,ha,hQ,hf,hR,_⟩=>N - a) [⟨(a3:Nat) ×' (Y3:List Nat) ×' (ha3:a3 ≤ N ∧ N < a3 + 2 * z) ×' (hQ3:Ord L N Y3) ×' (hR3:(if a3 + z < N then jW W (2 * z) Y3 a3 (a3 + z) N else Y3) = oG W z N N 0 Z) ×' Unit,.exit 4,fun x=>match x with | ⟨a3,Y3,ha3,hQ3,hR3,_⟩=>CutS.mk [(0,D.ref 0 0 0 N 1),(1,zN N),(2,D.fn (MB 175) [] [D.ptr 1 1 0]),(6,zN z),(7,nD a3),(8,nD (a3 + 2 * z))] [⟨0,0,0,0,.b ⟨Y3.map nD,3,true⟩⟩,⟨1,1,1,1,.b ⟨[D.sl false L 1 (map nD W)],152,false⟩⟩] 24⟩] 1000 64 (fun | ⟨a,Y,g,ha,hQ,hf,hR,_⟩,Q,next2,last2=>(.s 4 (.br (decide ((↑(a + 2 * z):Int) ≤ (N:Int))) (fun p2=>have p2f:=aT p2; (.s 6 (.ow ((a:Int) + (z:Int)) (.s 3 (.call 197 true [0,1] (true) wr ([D.ref 0 0 0 N 1,zN a,zI ((a:Int) + (z:Int)),zN (a + 2 * z),D.fn (MB 175) [] [D.ptr 1 1 0]]) _ (bY.refl _) (ab (map nD Y) && true) (by (simp; done)) _ _ _ (CallOk.fn (aw.of Tryz.func197 rfl rfl) (@HZ (Y) (N) om (W) (L) om om (z) (a) om om)) (.s 6 (.ow (2 * (z:Int)) (.s 2 (.ow ((↑(a + 2 * z):Int) + 2 * (z:Int)) (.s 1 (.val 8 (zI ((↑(a + 2 * z):Int) + 2 * (z:Int))) (zN (a + 2 * z + 2 * z)) xq (Hn.next next2 ⟨(a + 2 * z),(jW W (2 * z) Y a (a + z) (a + 2 * z)),(g - 1),om,(by (exact hQ.sm (by (omega)) (by (omega)) (by (omega)))),om,(by ( exact Kp hR om om om)),⟨⟩⟩ (by show N - (a + 2 * z) < N - a; clear next2 last2 next1 last1; omega) [(0,0),(1,1)] ro)))))))))))) (fun p2=>have p2f:=aU p2; (Hn.last last2 0 (⟨(a),(Y),om,om,(by ( exact Kq hR om)),⟨⟩⟩:(a3:Nat) ×' (Y3:List Nat) ×' (ha3:a3 ≤ N ∧ N < a3 + 2 * z) ×' (hQ3:Ord L N Y3) ×' (hR3:(if a3 + z < N then jW W (2 * z) Y3 a3 (a3 + z) N else Y3) = oG W z N N 0 Z) ×' Unit) rfl [(0,0),(1,1)] ro))))) (fun | ⟨a,Y,g,ha,hQ,hf,hR,_⟩=>by kernel_rfl) ⟨(0),(Z),(N),om,om,om,wr,⟨⟩⟩ [(0,0),(1,1)] ro (cb (fun | ⟨a3,Y3,ha3,hQ3,hR3,_⟩=>(.s 4 (.ow ((a3:Int) + (z:Int)) (.s 5 (.br (decide ((a3:Int) + (z:Int) < (N:Int))) (fun p3=>have p3f:=aT p3; (.s 6 (.call 197 true [0,1] (true) wr ([D.ref 0 0 0 N 1,zN a3,zI ((a3:Int) + (z:Int)),zN N,D.fn (MB 175) [] [D.ptr 1 1 0]]) _ (bY.refl _) (ab (map nD Y3) && true) (by (simp; done)) _ _ _ (CallOk.fn (aw.of Tryz.func197 rfl rfl) (@H1 (Y3) (N) om (W) (L) om om (z) (a3) om om om)) (.s 3 (.ow ((z:Int) * 2) (.s 1 (.val 6 (zI ((z:Int) * 2)) (zN (2 * z)) xq (.blk 0 0 (Blk.mk (map nD (jW W (2 * z) Y3 a3 (a3 + z) N)) 3 true) (Blk.mk (map nD (oG W z N N 0 Z)) 3 true) (by ( rw [if_pos om] at hR3; rw [hR3])) (Hn.next next1 ⟨(2 * z),(oG W z N N 0 Z),(f - 1),om,(by ( exact hQ.perm (iY om _ _ _ hQ.n))),om,(by ( exact HY hR om om)),⟨⟩⟩ (by show N - 2 * z < N - z; clear next1 last1; omega) [(0,0),(1,1)] ro))))))))) (fun p3=>have p3f:=aU p3; (.s 3 (.ow ((z:Int) * 2) (.s 1 (.val 6 (zI ((z:Int) * 2)) (zN (2 * z)) xq (.blk 0 0 (Blk.mk (map nD Y3) 3 true) (Blk.mk (map nD (oG W z N N 0 Z)) 3 true) (by ( rw [if_neg om] at hR3; rw [hR3])) (Hn.next next1 ⟨(2 * z),(oG W z N N 0 Z),(f - 1),om,(by ( exact hQ.perm (iY om _ _ _ hQ.n))),om,(by ( exact HY hR om om)),⟨⟩⟩ (by show N - 2 * z < N - z; clear next1 last1; omega) [(0,0),(1,1)] ro))))))))))))))))))) (fun p1=>have p1f:=aU p1; (.blk 0 0 (Blk.mk (map nD Z) 3 true) (Blk.mk (map nD T) 3 true) (by ( rw [Kr hR om])) (Hn.last last1 0 (():Unit) rfl [(0,0),(1,1)] ro)))))) (fun | ⟨z,Z,f,hz,hQ,hf,hR,_⟩=>by kernel_rfl) ⟨(20),(T1),(N),om,om,om,om,⟨⟩⟩ [(0,0),(1,1)] ro (cb (fun | ()=>(.out [0,1] [0,1] (D.tup []) [Blk.mk (map nD T) 3 true,Blk.mk [D.sl false L 1 (map nD W)] 152 false] R (ok _ _ wr wr))))))))))))) (by kernel_rfl)
end Vp
end Go.Proofs.YtefjnofhgkjpmaaGreat
namespace Go.Proofs.YtefjnofhgkjpmaaGreat
open Go.RowKit Go.Bw Go.Vx
open List (length getD map take drop flatMap replicate)
namespace Vp
theorem sd {p:Prop} (h:p:=by ((refine aH ?_ ?_) <;> (repeat' (first | (refine aH ?_ ?_) | (with_reducible rfl) | (refine decide_eq_true ?_) | (refine L2 ?_) | (refine eu ?_))) <;> (omega))):p:=h
theorem xv {p:Prop} (h:p:=by (simp only [bn (k:=2) (fun (x:Pc)=>(rfl:(cy x).length = 2)),M0,Ml,Mp]; refine L2 ?_; (omega))):p:=h
theorem xw {p:Prop} (h:p:=by (rw [LZ]; rfl)):p:=h
theorem xx {p:Prop} (h:p:=by (rw [LZ]; simp only [MI]; (omega))):p:=h
theorem zZ {p:Prop} (h:p:=by (refine decide_eq_false ?_; (omega))):p:=h
theorem z0 {p:Prop} (h:p:=by (refine aO ?_; (omega))):p:=h
theorem z9 {p:Prop} (h:p:=by ( have q:=@KE row i; refine aO ?_; omega)):p:=h
def ew (W:List Nat) (k:Nat):List Nat:=lk W ((MH k).filter fun i=>decide (0 < W.getD i jk))
theorem fb (W:List Nat) (k:Nat):ew W k = (MH k).filter fun i=>decide (0 < W.getD i jk):=aF _ _
theorem CL (W:List Nat):ew W 0 = []:=fb W 0
theorem CM {W:List Nat} {k:Nat} (h:0 < W.getD (k * 1) jk):ew W (k + 1) = ew W k ++ [k]:=by
 rw [Ms] at h
 rw [fb,fb,N8,M2,Nv (by simpa using h)]; rfl
theorem CN {W:List Nat} {k:Nat} (h:¬ 0 < W.getD (k * 1) jk):ew W (k + 1) = ew W k:=by
 rw [Ms] at h
 rw [fb,fb,N8,M2,Nw (by simpa using h),P2,MN]
theorem ir (W:List Nat) (k:Nat):(ew W k).length ≤ k:=by
 rw [fb]; exact L0 (OC _ _) (by simp)
theorem oH {W:List Nat} {k:Nat}:bw k (ew W k):=fun x hx=>by
 rw [fb,Oq] at hx
 exact List.mem_range.1 hx.1
def eS (W:List Nat):List Nat:=lk W (Ks W (ew W W.length))
theorem xy (W:List Nat):eS W = Ks W (ew W W.length):=aF _ _
theorem dL (W:List Nat):(eS W).Perm (ew W W.length):=by rw [xy]; exact xu _ _
structure SrE (W:List Nat) (L N:Nat) (X T1 T:List Nat):Prop where
 o:Ord L N X
 t1:vt W N N 0 X = T1
 o1:Ord L N T1
 t:vu W N N 20 T1 = T
theorem EK {W:List Nat} {L N:Nat} (hL:L = W.length) {X:List Nat} (hX:X = ew W L) (hN:N = X.length):∃ T1,SrE W L N X T1 (eS W):=by
 subst hX hN hL
 have o:Ord W.length (ew W W.length).length (ew W W.length):=⟨rfl,oH⟩
 exact ⟨_,o,rfl,o.perm (lP _ _ _ rfl (MK _)),by rw [xy]; rfl⟩
theorem Kt {m:Nat} (h:m ≤ 15):IntKind.i64.wrap (2 ^ min m 64 * 1) = ((2 ^ m:Nat):Int):=by
 have h2:2 ^ m ≤ 2 ^ 15:=MQ (by decide) h
 rw [show min m 64 = m from by omega,Int.mul_one,show (2:Int) ^ m = ((2 ^ m:Nat):Int) from by push_cast; rfl]
 generalize 2 ^ m = Z at *
 have q:=ft (x:=((Z:Nat):Int)) (by omega)
 rw [aM] at q
 injection q with q; injection q with q; injection q
structure Pc where
 w:Nat
 p:Bool
 deriving Inhabited
abbrev cy (x:Pc):List D:=[nD x.w,bD x.p]
def gb (ws:List Nat):List Pc:=ws.map fun w=>⟨w,false⟩
def dX (s:Nat):List Nat → List Pc × List Nat
 | []=>([⟨s,true⟩],[])
 | w :: r=>if s < w then ([⟨s,true⟩],w :: r) else (⟨w,false⟩ :: (dX s r).1,(dX s r).2)
def ey:List Pc → List Nat → List Pc
 | x :: y :: r,ws=>(dX (x.w + y.w) ws).1 ++ ey r (dX (x.w + y.w) ws).2
 | _,ws=>gb ws
def EL (row:List Pc) (ws:List Nat):List Pc:=lk ws (ey row ws)
theorem f8 (row:List Pc) (ws:List Nat):EL row ws = ey row ws:=aF _ _
theorem Ku {row:List Pc} {ws:List Nat} {i:Nat} (h:i + 1 < row.length):ey (row.drop i) ws = (dX ((row.getD i jk).w + (row.getD (i + 1) jk).w) ws).1 ++ ey (row.drop (i + 2)) (dX ((row.getD i jk).w + (row.getD (i + 1) jk).w) ws).2:=by
 rw [Ni (show i < row.length by omega),Ni h,ey]
 have e1:row[i] = row.getD i jk:=by rw [List.getD_eq_getElem?_getD,List.getElem?_eq_getElem (by omega)]; rfl
 have e2:row[i + 1] = row.getD (i + 1) jk:=by rw [List.getD_eq_getElem?_getD,List.getElem?_eq_getElem h]; rfl
 rw [e1,e2]
theorem Kv {row:List Pc} {ws:List Nat} {i:Nat} (h:¬ i + 1 < row.length):ey (row.drop i) ws = gb ws:=by
 have:(row.drop i).length ≤ 1:=by rw [Mn]; omega
 match hm:row.drop i,this with
 | [],_=>rfl
 | [x],_=>rfl
theorem Kw {s:Nat} {ws:List Nat} {k:Nat} (hk:k < ws.length) (h:s < ws.getD k jk):dX s (ws.drop k) = ([⟨s,true⟩],ws.drop k):=by
 have e1:ws[k] = ws.getD k jk:=by rw [List.getD_eq_getElem?_getD,List.getElem?_eq_getElem hk]; rfl
 rw [Ni hk,dX,if_pos (by rw [e1]; exact h)]
theorem Kx {s:Nat} {ws:List Nat} {k:Nat} (hk:k < ws.length) (h:¬ s < ws.getD k jk):dX s (ws.drop k) = (⟨ws.getD k jk,false⟩ :: (dX s (ws.drop (k + 1))).1,(dX s (ws.drop (k + 1))).2):=by
 have e1:ws[k] = ws.getD k jk:=by rw [List.getD_eq_getElem?_getD,List.getElem?_eq_getElem hk]; rfl
 conv=>lhs; rw [Ni hk,dX,if_neg (by rw [e1]; exact h),e1]
theorem Ky {s:Nat} {ws:List Nat} {k:Nat} (hk:¬ k < ws.length):dX s (ws.drop k) = ([⟨s,true⟩],[]):=by
 rw [M6 (by omega)]; rfl
section
variable {row o T:List Pc} {ws:List Nat} {i k s x:Nat}
theorem Kz (h:i + 1 < row.length) (hR:o ++ ey (row.drop i) (ws.drop k) = T):o ++ ((dX ((row.getD i jk).w + (row.getD (i + 1) jk).w) (ws.drop k)).1 ++ ey (row.drop (i + 2)) (dX ((row.getD i jk).w + (row.getD (i + 1) jk).w) (ws.drop k)).2) = T:=by rw [← hR,Ku h]
theorem KA (hk:k < ws.length) (h:s < ws.getD k jk) (hR:o ++ ((dX s (ws.drop k)).1 ++ ey (row.drop (i + 2)) (dX s (ws.drop k)).2) = T):(o ++ [⟨s,true⟩]) ++ ey (row.drop (i + 2)) (ws.drop k) = T:=by
 rw [← hR,Kw hk h,Mo]
theorem KB (hk:k < ws.length) (h:¬ s < ws.getD k jk) (hR:o ++ ((dX s (ws.drop k)).1 ++ ey (row.drop (i + 2)) (dX s (ws.drop k)).2) = T):(o ++ [⟨ws.getD k jk,false⟩]) ++ ((dX s (ws.drop (k + 1))).1 ++ ey (row.drop (i + 2)) (dX s (ws.drop (k + 1))).2) = T:=by
 rw [← hR,Kx hk h,Mo]; rfl
theorem KC (hk:¬ k < ws.length) (hR:o ++ ((dX s (ws.drop k)).1 ++ ey (row.drop (i + 2)) (dX s (ws.drop k)).2) = T):(o ++ [⟨s,true⟩]) ++ ey (row.drop (i + 2)) (ws.drop k) = T:=by
 rw [← hR,Ky hk,show ws.drop k = [] from M6 (by omega),Mo]
theorem KD (h:¬ i + 1 < row.length) (hR:o ++ ey (row.drop i) (ws.drop k) = T):o ++ gb (ws.drop k) = T:=by rw [← hR,Kv h]
theorem H6 (hk:k < ws.length) (hR:o ++ gb (ws.drop k) = T):(o ++ [⟨ws.getD k jk,false⟩]) ++ gb (ws.drop (k + 1)) = T:=by
 have e1:ws[k] = ws.getD k jk:=by rw [List.getD_eq_getElem?_getD,List.getElem?_eq_getElem hk]; rfl
 rw [← hR,Ni hk,Mo,e1]; rfl
theorem Aa (hk:¬ k < ws.length) (hR:o ++ gb (ws.drop k) = T):o = T:=by
 rw [← hR,M6 (by omega)]; exact (MN _).symm
end
theorem Ab (W:List Nat) (L:Nat) (hL:L = W.length) (hL2:L ≤ 320) (hB:∀ t,W.getD t jk ≤ 1073741824) (m:Nat) (hm:1 ≤ m ∧ m ≤ 15) (N:Nat) (hN:N = (ew W L).length) (X T1:List Nat) (hX:ew W L = X) (hS:SrE W L N X T1 (eS W)) (hNm:N ≤ 2 ^ m) (o:Ord L N X) (t1:vt W N N 0 X = T1) (o1:Ord L N T1) (t:vu W N N 20 T1 = eS W):SpecH false Tryz.prog 144 [.sl false L 1 (W.map nD),nD m] [] (.tup [.ref 0 0 0 N 1,iD 0]) [⟨(eS W).map nD, 3, true⟩]:=by
 have hP:=Kt hm.2
 have hN3:N ≤ 320:=by rw [hN]; exact L0 (ir W L) hL2
 refine SpecH.run T_ok ai Tryz.func144 rfl rfl rfl ⟨DV _ (fun _=>rfl) _,trivial⟩ rfl 1000 64 (fun R ok=>(.s 9 (.f (decide ((m:Int) < 1)) zZ (.s 4 (.f (decide (15 < (m:Int))) zZ (.s 6 (.f (decide (320 < (L:Int))) zZ (.s 5 (.nils 4 120 1 3 (.val 4 (D.ref 120 120 0 0 1) (D.ref 120 120 0 (length (ew W 0)) 1) (by (rw [CL]; rfl)) (.blk 120 120 (Blk.mk [] 3 true) (Blk.mk (map nD (ew W 0)) 3 true) (by (rw [CL]; rfl)) (Hn.inl T_ok ai false 46 0 (aA Tryz.prog 144 0) (fun (x:(k:Nat) ×' (hk:k ≤ L) ×' Unit)=>match x with | ⟨k,hk,_⟩=>CutS.mk [(1,zN m),(2,D.ptr 0 0 0),(4,(D.ref 8 8 (0) ((ew W k).length) 1)),(17,D.sl false L 1 (map nD W)),(18,zN L),(19,nD k)] [⟨0,0,0,0,.b ⟨[D.sl false L 1 (map nD W)],152,false⟩⟩,⟨8,8,120,120,.b ⟨(ew W k).map nD,3,true⟩⟩] 16) (fun (x:(k:Nat) ×' (hk:k ≤ L) ×' Unit)=>match x with | ⟨k,hk,_⟩=>L - k) [⟨Unit,.exit 0,fun x=>match x with | ()=>CutS.mk [(1,zN m),(2,D.ptr 0 0 0),(4,(D.ref 8 8 (0) (N) 1)),(17,D.sl false L 1 (map nD W)),(18,zN L)] [⟨0,0,0,0,.b ⟨[D.sl false L 1 (map nD W)],152,false⟩⟩,⟨8,8,120,120,.b ⟨X.map nD,3,true⟩⟩] 16⟩] 1000 64 (fun | ⟨k,hk,_⟩,Q,next1,last1=>(.s 2 (.br (decide ((k:Int) < (L:Int))) (fun p0=>have p0f:=aT p0; (.s 2 (.chk (true && decide ((k:Int) < (L:Int)) && true) sd (.s 2 (.opt ((map nD W)[k * 1]?) (nD (getD W (k * 1) jk)) (av _ _ om) (.s 12 (.f (decide (1073741824 < (↑(getD W (k * 1) jk):Int))) (by (refine decide_eq_false ?_;  have h9:=hB (k * 1); have h8:=ir W k; omega)) (.s 3 (.br (decide (0 < (↑(getD W (k * 1) jk):Int))) (fun p1=>have p1f:=aT p1; (.s 5 (.chk (true && LV (length (ew W k) * 1) (length (map nD (ew W k))) && true && true && true && true && LX ((length (ew W k) + 1) * 8) 140737488355328) (by (simp;  have h9:=hB (k * 1); have h8:=ir W k; omega)) (.s 3 (.ow ((k:Int) + 1) (.s 1 (.val 4 (D.ref 152 152 0 (length (ew W k) + 1) 1) (D.ref 152 152 0 (length (ew W (k + 1))) 1) (by (rw [CM (by (omega)),LZ]; rfl)) (.val 19 (zI ((k:Int) + 1)) (zN (k + 1)) z0 (.blk 152 152 (Blk.mk (map nD (ew W k) ++ [zN k]) 3 true) (Blk.mk (map nD (ew W (k + 1))) 3 true) (by (rw [CM (by (omega)),MJ]; rfl)) (Hn.next next1 ⟨(k + 1),om,⟨⟩⟩ (by show L - (k + 1) < L - k; clear next1 last1; omega) [(0,0),(152,152)] ro)))))))))) (fun p1=>have p1f:=aU p1; (.s 2 (.ow ((k:Int) + 1) (.s 1 (.val 4 (D.ref 8 8 0 (length (ew W k)) 1) (D.ref 8 8 0 (length (ew W (k + 1))) 1) (by (rw [CN (by (omega))])) (.val 19 (zI ((k:Int) + 1)) (zN (k + 1)) z0 (.blk 8 8 (Blk.mk (map nD (ew W k)) 3 true) (Blk.mk (map nD (ew W (k + 1))) 3 true) (by (rw [CN (by (omega))])) (Hn.next next1 ⟨(k + 1),om,⟨⟩⟩ (by show L - (k + 1) < L - k; clear next1 last1; omega) [(0,0),(8,8)] ro))))))))))))))))) (fun p0=>have p0f:=aU p0; (.val 4 (D.ref 8 8 0 (length (ew W k)) 1) (D.ref 8 8 0 N 1) (by ( rw [show k = L from by omega,hX,o.n])) (.blk 8 8 (Blk.mk (map nD (ew W k)) 3 true) (Blk.mk (map nD X) 3 true) (by ( rw [show k = L from by omega,hX])) (Hn.last last1 0 (():Unit) rfl [(0,0),(8,8)] ro))))))) (fun | ⟨k,hk,_⟩=>by kernel_rfl) ⟨(0),om,⟨⟩⟩ [(0,0),(120,120)] ro (cb (fun | ()=>(.s 5 (.opt (az .i64 (2 ^ min m 64 * 1)) (zI (Mf Mi (2 ^ min m 64 * 1))) (aM _ _) (.s 2 (.f (decide (Mf Mi (2 ^ min m 64 * 1) < (N:Int))) zZ (.s 9 (.call 190 true [8,0] (true) wr ([D.ref 0 0 0 N 1,zN N,D.fn (MB 175) [] [D.ptr 1 1 0]]) _ (bY.refl _) (ab (map nD X) && true) (by (simp; done)) _ _ _ (CallOk.fn (aw.of Tryz.func190 rfl rfl) (@H2 (X) (N) om (W) (L) om om (T1) (eS W) bu om bu)) (.s 3 (.out [8] [8] (D.tup [D.ref 0 0 0 N 1,zI 0]) [Blk.mk (map nD (eS W)) 3 true] R (ok _ _ wr wr))))))))))))))))))))))) (by kernel_rfl)
theorem H7 {o:List Pc} {x:Pc}:(o ++ [x]).flatMap cy = o.flatMap cy ++ [nD x.w,bD x.p]:=by rw [NA]; rfl
theorem H8 {row:List Pc} {B:Nat} (h:∀ x ∈ row,x.w ≤ B) {i:Nat} (hi:i < row.length):(row.getD i jk).w ≤ B:=by
 rw [List.getD_eq_getElem?_getD,List.getElem?_eq_getElem hi]; exact h _ (MG hi)
def sP (row:List Pc) (i:Nat):Nat:=lk row ((row.getD i jk).w + (row.getD (i + 1) jk).w)
theorem xz (ws:List Nat) {k j:Nat} (h:k + j < ws.length):(MA (k * 1) (ws.map nD))[j * 1]? = some (nD (ws.getD (k + j) jk)):=by
 rw [Ms,Ms,List.getElem?_drop,List.getElem?_map,List.getD_eq_getElem?_getD,List.getElem?_eq_getElem h]; rfl
theorem CP (row:List Pc) (i:Nat):sP row i = (row.getD i jk).w + (row.getD (i + 1) jk).w:=aF _ _
theorem KE {row:List Pc} {i:Nat}:((sP row i:Nat):Int) = ((row.getD i jk).w:Int) + ((row.getD ((i:Int) + 1).toNat jk).w:Int):=by rw [CP,show ((i:Int) + 1).toNat = i + 1 from by omega]; push_cast; rfl
section
variable {row o T:List Pc} {ws:List Nat} {i k:Nat}
theorem H9 (h:i + 1 < row.length) (hR:o ++ ey (row.drop i) (ws.drop k) = T):o ++ ((dX (sP row i) (ws.drop k)).1 ++ ey (row.drop (i + 2)) (dX (sP row i) (ws.drop k)).2) = T:=by rw [CP]; exact Kz h hR
end
theorem Ia (row:List Pc) (r:Nat) (hr:r = row.length) (hr2:r ≤ 1000) (B:Nat) (hB2:B ≤ 1000000000000000) (hB:∀ x ∈ row,x.w ≤ B) (ws:List Nat) (n:Nat) (hn:n = ws.length) (hn2:n ≤ 1000) (T:List Pc) (hT:EL row ws = T):SpecH false Tryz.prog 145 [.sl false r 2 (row.flatMap cy),.sl false n 1 (ws.map nD)] [] (.ref 0 0 0 T.length 2) [⟨T.flatMap cy, 231, true⟩]:=by
 refine SpecH.run T_ok ai Tryz.func145 rfl rfl rfl ⟨ej (fun _=>rfl) _,trivial⟩ rfl 1000 64 (fun R ok=>(.s 3 (.nils 4 24 2 231 (Hn.inl T_ok ai false 74 0 (aA Tryz.prog 145 0) (fun (x:(i:Nat) ×' (k:Nat) ×' (o:List Pc) ×' (hi:i ≤ r + 1) ×' (hk:k ≤ n) ×' (ho:o.length ≤ i + k) ×' (hR:o ++ ey (row.drop i) (ws.drop k) = T) ×' Unit)=>match x with | ⟨i,k,o,hi,hk,ho,hR,_⟩=>CutS.mk [(0,D.sl false r 2 (flatMap cy row)),(1,D.sl false n 1 (map nD ws)),(4,(D.ref 0 0 (0) (o.length) 2)),(5,nD k),(6,nD i)] [⟨0,0,24,24,.b ⟨o.flatMap cy,231,true⟩⟩] 8) (fun (x:(i:Nat) ×' (k:Nat) ×' (o:List Pc) ×' (hi:i ≤ r + 1) ×' (hk:k ≤ n) ×' (ho:o.length ≤ i + k) ×' (hR:o ++ ey (row.drop i) (ws.drop k) = T) ×' Unit)=>match x with | ⟨i,k,o,hi,hk,ho,hR,_⟩=>r + 1 - i) [⟨(k3:Nat) ×' (o3:List Pc) ×' (hk3:k3 ≤ n) ×' (ho3:o3.length ≤ 3000) ×' (hR3:o3 ++ gb (ws.drop k3) = T) ×' Unit,.exit 0,fun x=>match x with | ⟨k3,o3,hk3,ho3,hR3,_⟩=>CutS.mk [(0,D.sl false r 2 (flatMap cy row)),(1,D.sl false n 1 (map nD ws)),(4,(D.ref 0 0 (0) (o3.length) 2)),(5,nD k3)] [⟨0,0,24,24,.b ⟨o3.flatMap cy,231,true⟩⟩] 8⟩] 1000 64 (fun | ⟨i,k,o,hi,hk,ho,hR,_⟩,Q,next1,last1=>(.s 3 (.ow ((i:Int) + 1) (.s 4 (.br (decide ((i:Int) + 1 < (r:Int))) (fun p0=>have p0f:=aT p0; (.s 4 (.chk (true && decide ((i:Int) < (r:Int)) && true) sd (.s 5 (.opt ((flatMap cy row)[i * 2 + 0]?) (zN (Pc.w (getD row i jk))) (A9 (k:=2) (i:=i) (j:=0) (fun _=>rfl) om om rfl) (.s 4 (.ow ((i:Int) + 1) (.s 1 (.chk (true && decide ((i:Int) + 1 < (r:Int)) && true) sd (.s 5 (.opt ((flatMap cy row)[uV ((i:Int) + 1) * 2 + 0]?) (zN (Pc.w (getD row (uV ((i:Int) + 1)) jk))) (A9 (k:=2) (i:=uV ((i:Int) + 1)) (j:=0) (fun _=>rfl) om om rfl) (.s 2 (.op ((↑(Pc.w (getD row i jk)):Int) + (↑(Pc.w (getD row (uV ((i:Int) + 1)) jk)):Int)) (by ( have h9:=H8 hB (i:=i) om; have h8:=H8 hB (i:=((i:Int) + 1).toNat) om; omega)) (.s 1 (.val 7 (zI ((↑(Pc.w (getD row i jk)):Int) + (↑(Pc.w (getD row (uV ((i:Int) + 1)) jk)):Int))) (zN (sP row i)) z9 (Hn.inl T_ok ai false 74 0 (aA Tryz.prog 145 1) (fun (x:(k1:Nat) ×' (o1:List Pc) ×' (hk1:k1 ≤ n) ×' (ho1:o1.length ≤ i + k1) ×' (hR1:o1 ++ ((dX (sP row i) (ws.drop k1)).1 ++ ey (row.drop (i + 2)) (dX (sP row i) (ws.drop k1)).2) = T) ×' Unit)=>match x with | ⟨k1,o1,hk1,ho1,hR1,_⟩=>CutS.mk [(0,D.sl false r 2 (flatMap cy row)),(1,D.sl false n 1 (map nD ws)),(4,(D.ref 0 0 (0) (o1.length) 2)),(5,nD k1),(6,zN i),(7,nD (sP row i))] [⟨0,0,0,0,.b ⟨o1.flatMap cy,231,true⟩⟩] 8) (fun (x:(k1:Nat) ×' (o1:List Pc) ×' (hk1:k1 ≤ n) ×' (ho1:o1.length ≤ i + k1) ×' (hR1:o1 ++ ((dX (sP row i) (ws.drop k1)).1 ++ ey (row.drop (i + 2)) (dX (sP row i) (ws.drop k1)).2) = T) ×' Unit)=>match x with | ⟨k1,o1,hk1,ho1,hR1,_⟩=>n - k1) [⟨(k2:Nat) ×' (o2:List Pc) ×' (hk2:k2 ≤ n) ×' (ho2:o2.length ≤ i + 2 + k2) ×' (hR2:o2 ++ ey (row.drop (i + 2)) (ws.drop k2) = T) ×' Unit,.exit 1,fun x=>match x with | ⟨k2,o2,hk2,ho2,hR2,_⟩=>CutS.mk [(0,D.sl false r 2 (flatMap cy row)),(1,D.sl false n 1 (map nD ws)),(4,(D.ref 0 0 (0) (o2.length) 2)),(5,nD k2),(6,zN i)] [⟨0,0,0,0,.b ⟨o2.flatMap cy,231,true⟩⟩] 8⟩,⟨(k4:Nat) ×' (o4:List Pc) ×' (hk4:k4 ≤ n ∧ n ≤ k4) ×' (ho4:o4.length ≤ i + k4) ×' (hR4:o4 ++ ((dX (sP row i) (ws.drop k4)).1 ++ ey (row.drop (i + 2)) (dX (sP row i) (ws.drop k4)).2) = T) ×' Unit,.exit 2,fun x=>match x with | ⟨k4,o4,hk4,ho4,hR4,_⟩=>CutS.mk [(0,D.sl false r 2 (flatMap cy row)),(1,D.sl false n 1 (map nD ws)),(4,(D.ref 0 0 (0) (o4.length) 2)),(5,nD k4),(6,zN i),(7,nD (sP row i))] [⟨0,0,0,0,.b ⟨o4.flatMap cy,231,true⟩⟩] 8⟩] 1000 64 (fun | ⟨k1,o1,hk1,ho1,hR1,_⟩,Q,next2,last2=>(.s 5 (.br (decide ((k1:Int) < (n:Int))) (fun p1=>have p1f:=aT p1; (.s 3 (.chk (true && decide ((k1:Int) < (n:Int)) && true) sd (.s 2 (.opt ((map nD ws)[k1 * 1]?) (nD (getD ws (k1 * 1) jk)) (av _ _ om) (.s 3 (.br (decide ((↑(sP row i):Int) < (↑(getD ws (k1 * 1) jk):Int))) (fun p2=>have p2f:=aT p2; (.s 7 (.chk (true && LV (length o1 * 2) (length (flatMap cy o1)) && true && true && true && true && LX ((length o1 + 1) * 16) 140737488355328) xv (.s 1 (.val 4 (D.ref 120 120 0 (length o1 + 1) 2) (D.ref 120 120 0 (length (o1 ++ [Pc.mk (sP row i) true])) 2) xw (.blk 120 120 (Blk.mk (flatMap cy o1 ++ [zN (sP row i),D.v (.bool true)]) 231 true) (Blk.mk (flatMap cy (o1 ++ [Pc.mk (sP row i) true])) 231 true) (by (simp; done)) (Hn.last last2 0 (⟨(k1),(o1 ++ [⟨sP row i,true⟩]),om,xx,(by (simp only [Ms] at *;  exact KA om om hR1)),⟨⟩⟩:(k2:Nat) ×' (o2:List Pc) ×' (hk2:k2 ≤ n) ×' (ho2:o2.length ≤ i + 2 + k2) ×' (hR2:o2 ++ ey (row.drop (i + 2)) (ws.drop k2) = T) ×' Unit) rfl [(120,120)] ro))))))) (fun p2=>have p2f:=aU p2; (.s 4 (.chk (true && decide ((k1:Int) < (n:Int)) && true) sd (.s 2 (.opt ((map nD ws)[k1 * 1]?) (nD (getD ws (k1 * 1) jk)) (av _ _ om) (.s 5 (.chk (true && LV (length o1 * 2) (length (flatMap cy o1)) && true && true && true && true && LX ((length o1 + 1) * 16) 140737488355328) xv (.s 4 (.ow ((k1:Int) + 1) (.s 1 (.val 4 (D.ref 144 144 0 (length o1 + 1) 2) (D.ref 144 144 0 (length (o1 ++ [Pc.mk (getD ws k1 jk) false])) 2) xw (.val 5 (zI ((k1:Int) + 1)) (zN (k1 + 1)) z9 (.blk 144 144 (Blk.mk (flatMap cy o1 ++ [zN (getD ws (k1 * 1) jk),D.v (.bool false)]) 231 true) (Blk.mk (flatMap cy (o1 ++ [Pc.mk (getD ws k1 jk) false])) 231 true) (by (refine aC ?_; rw [H7]; simp only [Ms])) (Hn.next next2 ⟨(k1 + 1),(o1 ++ [⟨ws.getD k1 jk,false⟩]),om,xx,(by (simp only [Ms] at *;  exact KB om om hR1)),⟨⟩⟩ (by show n - (k1 + 1) < n - k1; clear next2 last2 next1 last1; omega) [(144,144)] ro))))))))))))))))))))) (fun p1=>have p1f:=aU p1; (Hn.last last2 1 (⟨(k1),(o1),om,om,om,⟨⟩⟩:(k4:Nat) ×' (o4:List Pc) ×' (hk4:k4 ≤ n ∧ n ≤ k4) ×' (ho4:o4.length ≤ i + k4) ×' (hR4:o4 ++ ((dX (sP row i) (ws.drop k4)).1 ++ ey (row.drop (i + 2)) (dX (sP row i) (ws.drop k4)).2) = T) ×' Unit) rfl [(0,0)] ro))))) (fun | ⟨k1,o1,hk1,ho1,hR1,_⟩=>by kernel_rfl) ⟨(k),(o),om,om,(by ( exact H9 om hR)),⟨⟩⟩ [(0,0)] ro (fe (fun | ⟨k2,o2,hk2,ho2,hR2,_⟩=>(.s 3 (.ow ((i:Int) + 2) (.s 1 (.val 6 (zI ((i:Int) + 2)) (zN (i + 2)) z9 (Hn.next next1 ⟨(i + 2),(k2),(o2),om,om,om,om,⟨⟩⟩ (by show r + 1 - (i + 2) < r + 1 - i; clear next1 last1; omega) [(0,0)] ro)))))) (fun | ⟨k4,o4,hk4,ho4,hR4,_⟩=>(.s 7 (.chk (true && LV (length o4 * 2) (length (flatMap cy o4)) && true && true && true && true && LX ((length o4 + 1) * 16) 140737488355328) xv (.s 4 (.ow ((i:Int) + 2) (.s 1 (.val 4 (D.ref 40 40 0 (length o4 + 1) 2) (D.ref 40 40 0 (length (o4 ++ [Pc.mk (sP row i) true])) 2) xw (.val 6 (zI ((i:Int) + 2)) (zN (i + 2)) z9 (.blk 40 40 (Blk.mk (flatMap cy o4 ++ [zN (sP row i),D.v (.bool true)]) 231 true) (Blk.mk (flatMap cy (o4 ++ [Pc.mk (sP row i) true])) 231 true) (by (simp; done)) (Hn.next next1 ⟨(i + 2),(k4),(o4 ++ [⟨sP row i,true⟩]),om,om,xx,(by ( exact KC om hR4)),⟨⟩⟩ (by show r + 1 - (i + 2) < r + 1 - i; clear next1 last1; omega) [(40,40)] ro))))))))))))))))))))))))))) (fun p0=>have p0f:=aU p0; (Hn.last last1 0 (⟨(k),(o),om,om,(by ( exact KD om hR)),⟨⟩⟩:(k3:Nat) ×' (o3:List Pc) ×' (hk3:k3 ≤ n) ×' (ho3:o3.length ≤ 3000) ×' (hR3:o3 ++ gb (ws.drop k3) = T) ×' Unit) rfl [(0,0)] ro))))))) (fun | ⟨i,k,o,hi,hk,ho,hR,_⟩=>by kernel_rfl) ⟨(0),(0),([]),om,om,(by (simp; done)),(by (exact (f8 _ _).symm.trans hT)),⟨⟩⟩ [(24,24)] ro (cb (fun | ⟨k3,o3,hk3,ho3,hR3,_⟩=>(.s 3 (.chk (aL (some (k3:Int)) none none n && true) (by (simp <;> (omega))) (.s 2 (Hn.inl T_ok ai false 74 0 (aA Tryz.prog 145 2) (fun (x:(j:Nat) ×' (o:List Pc) ×' (hk:j ≤ n - k3) ×' (ho:o.length ≤ 3000 + j) ×' (hR:o ++ gb (ws.drop (k3 + j)) = T) ×' Unit)=>match x with | ⟨j,o,hk,ho,hR,_⟩=>CutS.mk [(4,(D.ref 0 0 (0) (o.length) 2)),(61,D.sl false (n - k3) 1 (drop (k3 * 1) (map nD ws))),(62,zN (n - k3)),(63,nD j)] [⟨0,0,0,0,.b ⟨o.flatMap cy,231,true⟩⟩] 8) (fun (x:(j:Nat) ×' (o:List Pc) ×' (hk:j ≤ n - k3) ×' (ho:o.length ≤ 3000 + j) ×' (hR:o ++ gb (ws.drop (k3 + j)) = T) ×' Unit)=>match x with | ⟨j,o,hk,ho,hR,_⟩=>n - k3 - j) [⟨Unit,.exit 4,fun x=>match x with | ()=>CutS.mk [(4,(D.ref 0 0 (0) (T.length) 2)),(61,D.sl false (n - k3) 1 (drop (k3 * 1) (map nD ws))),(62,zN (n - k3))] [⟨0,0,0,0,.b ⟨T.flatMap cy,231,true⟩⟩] 8⟩] 1000 64 (fun | ⟨j,o,hk,ho,hR,_⟩,Q,next1,last1=>(.s 2 (.br (decide ((j:Int) < (↑(n - k3):Int))) (fun p3=>have p3f:=aT p3; (.s 1 (.chk (true && decide ((j:Int) < (↑(n - k3):Int)) && true) sd (.s 2 (.opt ((drop (k3 * 1) (map nD ws))[j * 1]?) (nD (getD ws (k3 + j) jk)) (@xz ws (k3) (j) om) (.s 8 (.chk (true && LV (length o * 2) (length (flatMap cy o)) && true && true && true && true && LX ((length o + 1) * 16) 140737488355328) xv (.s 3 (.ow ((j:Int) + 1) (.s 1 (.val 4 (D.ref 72 72 0 (length o + 1) 2) (D.ref 72 72 0 (length (o ++ [Pc.mk (getD ws (k3 + j) jk) false])) 2) xw (.val 63 (zI ((j:Int) + 1)) (zN (j + 1)) z0 (.blk 72 72 (Blk.mk (flatMap cy o ++ [zN (getD ws (k3 + j) jk),D.v (.bool false)]) 231 true) (Blk.mk (flatMap cy (o ++ [Pc.mk (getD ws (k3 + j) jk) false])) 231 true) (by (simp; done)) (Hn.next next1 ⟨(j + 1),(o ++ [⟨ws.getD (k3 + j) jk,false⟩]),om,xx,(by ( exact H6 om hR)),⟨⟩⟩ (by show n - k3 - (j + 1) < n - k3 - j; clear next1 last1; omega) [(72,72)] ro)))))))))))))) (fun p3=>have p3f:=aU p3; (.val 4 (D.ref 0 0 0 (length o) 2) (D.ref 0 0 0 (length T) 2) (by ( rw [Aa om hR])) (.blk 0 0 (Blk.mk (flatMap cy o) 231 true) (Blk.mk (flatMap cy T) 231 true) (by ( rw [Aa om hR])) (Hn.last last1 0 (():Unit) rfl [(0,0)] ro))))))) (fun | ⟨j,o,hk,ho,hR,_⟩=>by kernel_rfl) ⟨(0),(o3),om,om,om,⟨⟩⟩ [(0,0)] ro (cb (fun | ()=>(.s 2 (.out [0] [0] (D.ref 0 0 0 (length T) 2) [Blk.mk (flatMap cy T) 231 true] R (ok _ _ wr wr))))))))))))))) (by kernel_rfl)
theorem Ac (ws:List Nat) {j:Nat} (h:j < ws.length):(MA (0 * 1) (ws.map nD))[j * 1]? = some (nD (ws.getD j jk)):=by
 have:=xz ws (k:=0) (j:=j) (by omega)
 rwa [Mq] at this
theorem Ib (ws:List Nat) (n:Nat) (hn:n = ws.length) (hn2:n ≤ 1000) (T:List Pc) (hT:EL [] ws = T):SpecH false Tryz.prog 145 [aR,.sl false n 1 (ws.map nD)] [] (.ref 0 0 0 T.length 2) [⟨T.flatMap cy, 231, true⟩]:=by
 refine SpecH.run T_ok ai Tryz.func145 rfl rfl rfl ⟨ej (fun _=>rfl) _,trivial⟩ rfl 1000 64 (fun R ok=>(.s 16 (.chk (aL (some 0) none none n && true) (by (simp; done)) (.s 2 (.nils 4 104 2 231 (Hn.inl T_ok ai false 74 0 (aA Tryz.prog 145 2) (fun (x:(j:Nat) ×' (o:List Pc) ×' (hk:j ≤ n) ×' (ho:o.length ≤ j) ×' (hR:o ++ gb (ws.drop j) = T) ×' Unit)=>match x with | ⟨j,o,hk,ho,hR,_⟩=>CutS.mk [(4,(D.ref 0 0 (0) (o.length) 2)),(61,D.sl false (n - 0) 1 (drop 0 (map nD ws))),(62,zN (n - 0)),(63,nD j)] [⟨0,0,104,104,.b ⟨o.flatMap cy,231,true⟩⟩] 8) (fun (x:(j:Nat) ×' (o:List Pc) ×' (hk:j ≤ n) ×' (ho:o.length ≤ j) ×' (hR:o ++ gb (ws.drop j) = T) ×' Unit)=>match x with | ⟨j,o,hk,ho,hR,_⟩=>n - j) [⟨Unit,.exit 4,fun x=>match x with | ()=>CutS.mk [(4,(D.ref 0 0 (0) (T.length) 2)),(61,D.sl false (n - 0) 1 (drop 0 (map nD ws))),(62,zN (n - 0))] [⟨0,0,104,104,.b ⟨T.flatMap cy,231,true⟩⟩] 8⟩] 1000 64 (fun | ⟨j,o,hk,ho,hR,_⟩,Q,next1,last1=>(.s 2 (.br (decide ((j:Int) < (↑(n - 0):Int))) (fun p0=>have p0f:=aT p0; (.s 1 (.chk (true && decide ((j:Int) < (↑(n - 0):Int)) && true) sd (.s 2 (.opt ((drop (0 * 1) (map nD ws))[j * 1]?) (nD (getD ws j jk)) (@Ac ws (j) om) (.s 8 (.chk (true && LV (length o * 2) (length (flatMap cy o)) && true && true && true && true && LX ((length o + 1) * 16) 140737488355328) xv (.s 3 (.ow ((j:Int) + 1) (.s 1 (.val 4 (D.ref 72 72 0 (length o + 1) 2) (D.ref 72 72 0 (length (o ++ [Pc.mk (getD ws j jk) false])) 2) xw (.val 63 (zI ((j:Int) + 1)) (zN (j + 1)) z0 (.blk 72 72 (Blk.mk (flatMap cy o ++ [zN (getD ws j jk),D.v (.bool false)]) 231 true) (Blk.mk (flatMap cy (o ++ [Pc.mk (getD ws j jk) false])) 231 true) (by (simp; done)) (Hn.next next1 ⟨(j + 1),(o ++ [⟨ws.getD j jk,false⟩]),om,xx,(by ( exact H6 om hR)),⟨⟩⟩ (by show n - (j + 1) < n - j; clear next1 last1; omega) [(72,72)] ro)))))))))))))) (fun p0=>have p0f:=aU p0; (.val 4 (D.ref 0 0 0 (length o) 2) (D.ref 0 0 0 (length T) 2) (by ( rw [Aa om hR])) (.blk 0 0 (Blk.mk (flatMap cy o) 231 true) (Blk.mk (flatMap cy T) 231 true) (by ( rw [Aa om hR])) (Hn.last last1 0 (():Unit) rfl [(0,0)] ro))))))) (fun | ⟨j,o,hk,ho,hR,_⟩=>by kernel_rfl) ⟨(0),([]),om,(by (simp; done)),(by (exact (f8 _ _).symm.trans hT)),⟨⟩⟩ [(104,104)] ro (cb (fun | ()=>(.s 2 (.out [0] [0] (D.ref 0 0 0 (length T) 2) [Blk.mk (flatMap cy T) 231 true] R (ok _ _ wr wr))))))))))) (by kernel_rfl)
end Vp
end Go.Proofs.YtefjnofhgkjpmaaGreat
namespace Go.Proofs.YtefjnofhgkjpmaaGreat
open Go.RowKit Go.Bw Go.Vx
namespace Vp
def oI (W S:List Nat) (k:Nat):List Nat:=lk S ((S.take k).map fun i=>W.getD i jk)
theorem lT (W S:List Nat) (k:Nat):oI W S k = (S.take k).map fun i=>W.getD i jk:=aF _ _
theorem Ic (W S:List Nat):oI W S 0 = []:=lT W S 0
theorem Ie {W S:List Nat} {k:Nat} (h:k < S.length):oI W S (k + 1) = oI W S k ++ [W.getD (S.getD k jk) jk]:=by
 rw [lT,lT,Mw h,MJ,List.getD_eq_getElem?_getD (l:=S),List.getElem?_eq_getElem h]; rfl
theorem kD {W S:List Nat} {k:Nat} (h:k ≤ S.length):(oI W S k).length = k:=by rw [lT,Ma,L5]; omega
def EM (ws:List Nat):Nat → List Pc
 | 0=>EL [] ws
 | k + 1=>EL (EM ws k) ws
def ar (ws:List Nat) (k:Nat):List Pc:=lk ws (EM ws k)
theorem oJ (ws:List Nat) (k:Nat):ar ws k = EM ws k:=aF _ _
theorem oK (ws:List Nat):EL [] ws = ar ws 0:=by rw [oJ]; rfl
theorem lU (ws:List Nat) (k:Nat):EL (ar ws k) ws = ar ws (k + 1):=by rw [oJ,oJ]; rfl
def cJ (row:List Pc) (n:Nat):Nat:=lk row ((row.take n).filter (·.p)).length
theorem iu (row:List Pc) (n:Nat):cJ row n = ((row.take n).filter (·.p)).length:=aF _ _
theorem If (row:List Pc):cJ row 0 = 0:=iu row 0
theorem CQ {row:List Pc} {k:Nat} (h:k < row.length):cJ row (k + 1) = cJ row k + (row.getD k jk).p.toNat:=by
 rw [iu,iu,Mw h,M2,LZ,List.getD_eq_getElem?_getD,List.getElem?_eq_getElem h]
 show _ + (List.filter _ [row[k]]).length = _ + (row[k]).p.toNat
 cases hp:(row[k]).p
 ·rw [Nw (by simp [hp])]; rfl
 ·rw [Nv (by simp [hp])]; rfl
theorem xA (row:List Pc) (n:Nat):cJ row n ≤ n:=by
 rw [iu]; exact L0 (OC _ _) (by rw [L5]; exact PZ _ _)
theorem tS (row:List Pc) (n:Nat):cJ row n ≤ (row.filter (·.p)).length:=by
 rw [iu]; exact ((PI n row).filter _).length_le
theorem oM:∀ l:List Pc,l.length = (l.filter (·.p)).length + (l.filter (fun x=>!x.p)).length
 | []=>rfl
 | x :: r=>by
  have ih:=oM r
  cases hp:x.p
  ·rw [Nw (by simp [hp]),Nv (by simp [hp]),Mr,Mr]; omega
  ·rw [Nv (by simp [hp]),Nw (by simp [hp]),Mr,Mr]; omega
theorem CS (s:Nat):∀ ws:List Nat,((dX s ws).1.filter (·.p)).length = 1 ∧ (dX s ws).1.length + (dX s ws).2.length = ws.length + 1 ∧ (dX s ws).1.length = ((dX s ws).1.filter (fun x=>!x.p)).length + 1
 | []=>⟨rfl,rfl,rfl⟩
 | w :: r=>by
  have ih:=CS s r
  rw [dX]; split
  ·exact ⟨rfl,by simp; omega,rfl⟩
  ·refine ⟨?_,?_,?_⟩
   ·rw [Nw (by simp)]; exact ih.1
   ·simp only [Mr]; omega
   ·rw [Nv (by simp),Mr,Mr]; omega
theorem xB:∀ (row:List Pc) (ws:List Nat),((ey row ws).filter (·.p)).length = row.length / 2 ∧ (ey row ws).length = ws.length + row.length / 2 ∧ ((ey row ws).filter (fun x=>!x.p)).length = ws.length
 | [],ws=>by
  have e:ey [] ws = gb ws:=rfl
  rw [e]; unfold gb
  refine ⟨?_,by simp,?_⟩
  ·rw [List.filter_eq_nil_iff.2 (fun x hx=>by obtain ⟨w,_,rfl⟩:=List.mem_map.1 hx; simp)]; rfl
  ·rw [List.filter_eq_self.2 (fun x hx=>by obtain ⟨w,_,rfl⟩:=List.mem_map.1 hx; rfl),Ma]
 | [x],ws=>by
  have e:ey [x] ws = gb ws:=rfl
  rw [e]; unfold gb
  refine ⟨?_,by simp,?_⟩
  ·rw [List.filter_eq_nil_iff.2 (fun x hx=>by obtain ⟨w,_,rfl⟩:=List.mem_map.1 hx; simp)]; simp
  ·rw [List.filter_eq_self.2 (fun x hx=>by obtain ⟨w,_,rfl⟩:=List.mem_map.1 hx; rfl),Ma]
 | x :: y :: r,ws=>by
  have h1:=CS (x.w + y.w) ws
  have h2:=xB r (dX (x.w + y.w) ws).2
  rw [ey]
  refine ⟨?_,?_,?_⟩
  ·rw [M2,LZ,h1.1,h2.1,Mr,Mr]; omega
  ·rw [LZ,h2.2.1,Mr,Mr]; omega
  ·rw [M2,LZ,h2.2.2]; omega
theorem CT {s B:Nat}:∀ ws:List Nat,(∀ w ∈ ws,w ≤ B) → s ≤ B → (∀ x ∈ (dX s ws).1,x.w ≤ B) ∧ ∀ w ∈ (dX s ws).2,w ∈ ws
 | [],_,hs=>⟨fun x hx=>by cases List.mem_singleton.1 hx; exact hs,fun w hw=>by cases hw⟩
 | w :: r,h,hs=>by
  have ih:=CT (s:=s) r (fun y hy=>h y (Mg _ hy)) hs
  rw [dX]; split
  ·exact ⟨fun x hx=>by cases List.mem_singleton.1 hx; exact hs,fun y hy=>hy⟩
  ·refine ⟨fun x hx=>?_,fun y hy=>Mg _ (ih.2 y hy)⟩
   rcases List.mem_cons.1 hx with rfl | hx
   ·exact h w Mj
   ·exact ih.1 x hx
theorem CU {B C:Nat} (hC:2 * B ≤ C) (hC2:B ≤ C):∀ (row:List Pc) (ws:List Nat),(∀ w ∈ ws,w ≤ B) → (∀ x ∈ row,x.w ≤ B) → ∀ x ∈ ey row ws,x.w ≤ C
 | [],ws,h,_=>fun x hx=>by
  obtain ⟨w,hw,rfl⟩:=List.mem_map.1 (show x ∈ gb ws from hx)
  exact L0 (h w hw) hC2
 | [_],ws,h,_=>fun x hx=>by
  obtain ⟨w,hw,rfl⟩:=List.mem_map.1 (show x ∈ gb ws from hx)
  exact L0 (h w hw) hC2
 | a :: b :: r,ws,h,hr=>fun x hx=>by
  have ha:=hr a Mj
  have hb:=hr b (Mg _ Mj)
  have h1:=CT (s:=a.w + b.w) (B:=C) ws (fun w hw=>L0 (h w hw) hC2) (by omega)
  rw [ey] at hx
  rcases List.mem_append.1 hx with q | q
  ·exact h1.1 x q
  ·exact CU hC hC2 r _ (fun w hw=>h w (h1.2 w hw)) (fun y hy=>hr y (Mg _ (Mg _ hy))) x q
theorem xE {ws:List Nat} (h:∀ w ∈ ws,w ≤ 1073741824):∀ k,∀ x ∈ ar ws k,x.w ≤ 2 ^ k * 1073741824
 | 0=>fun x hx=>by
  rw [← oK,f8] at hx
  obtain ⟨w,hw,rfl⟩:=List.mem_map.1 (show x ∈ gb ws from hx)
  have:=h w hw; simpa using this
 | k + 1=>fun x hx=>by
  rw [← lU,f8] at hx
  have hp:=Nq k
  refine CU (B:=2 ^ k * 1073741824) (by rw [Ng]; omega) (by rw [Ng]; omega) _ _ (fun w hw=>L0 (h w hw) (by omega)) (xE h k) x hx
theorem Ad {ws:List Nat} (h:∀ w ∈ ws,w ≤ 1073741824) {k:Nat} (hk:k ≤ 15):∀ x ∈ ar ws k,x.w ≤ 100000000000000:=fun x hx=>by
 have h1:=xE h k x hx
 have h2:2 ^ k ≤ 2 ^ 15:=MQ (by decide) hk
 omega
theorem jv (ws:List Nat):∀ k,(ar ws k).length = ws.length + (if k = 0 then 0 else (ar ws (k - 1)).length / 2) ∧ ((ar ws k).filter (·.p)).length = (if k = 0 then 0 else (ar ws (k - 1)).length / 2) ∧ ((ar ws k).filter (fun x=>!x.p)).length = ws.length
 | 0=>by
  have h:=xB [] ws
  rw [← f8,oK] at h
  exact ⟨h.2.1,h.1,h.2.2⟩
 | k + 1=>by
  have h:=xB (ar ws k) ws
  rw [← f8,lU] at h
  exact ⟨h.2.1,h.1,h.2.2⟩
theorem cm (ws:List Nat):∀ k,(ar ws k).length ≤ 2 * ws.length
 | 0=>by rw [(jv ws 0).1,if_pos rfl]; omega
 | k + 1=>by
  have:=cm ws k
  rw [(jv ws (k + 1)).1,if_neg (NR k),NC]; omega
theorem tT (ws:List Nat):∀ k,2 ^ k * (2 * ws.length) ≤ 2 ^ k * (ar ws k).length + ws.length + (2 ^ k - 1)
 | 0=>by rw [(jv ws 0).1,if_pos rfl]; omega
 | k + 1=>by
  have ih:=tT ws k
  have e:=(jv ws (k + 1)).1
  rw [if_neg (NR k),NC] at e
  have hp:=Nq k
  rw [e,Ng]
  generalize ws.length = N at *
  generalize (ar ws k).length = R at *
  generalize 2 ^ k = P at *
  have h2:P * R ≤ P * (2 * (R / 2)) + P:=by
   have:R ≤ 2 * (R / 2) + 1:=by omega
   have:=Ok P this
   rw [NN,Ms] at this; exact this
  have e1:P * 2 * (2 * N) = P * (2 * N) + P * (2 * N):=by rw [M5,Nat.two_mul,NN]
  have e2:P * 2 * (N + R / 2) = P * (2 * N) + P * (2 * (R / 2)):=by rw [M5,NN 2,NN]
  rw [e1,e2]
  omega
def qE:List UInt8 → List Nat → List UInt8
 | o,[]=>o
 | o,i :: r=>qE (o.set i (o.getD i jk + 1)) r
theorem xF (o:List UInt8) (a b:List Nat):qE o (a ++ b) = qE (qE o a) b:=by
 induction a generalizing o with
 | nil=>rfl
 | cons x a ih=>exact ih _
theorem qF:∀ (o:List UInt8) (l:List Nat),(qE o l).length = o.length
 | _,[]=>rfl
 | o,i :: r=>by rw [qE,qF,NZ]
def cg (o:List UInt8) (S:List Nat) (j:Nat):List UInt8:=lk o (qE o (S.take j))
theorem kE (o:List UInt8) (S:List Nat) (j:Nat):cg o S j = qE o (S.take j):=aF _ _
theorem se (o:List UInt8) (S:List Nat):cg o S 0 = o:=kE o S 0
theorem cz (o:List UInt8) (S:List Nat) (j:Nat):(cg o S j).length = o.length:=by rw [kE,qF]
theorem sf {o:List UInt8} {S:List Nat} {j:Nat} (h:j < S.length):cg o S (j + 1) = (cg o S j).set (S.getD j jk) ((cg o S j).getD (S.getD j jk) jk + 1):=by
 rw [kE,kE,Mw h,xF,List.getD_eq_getElem?_getD (l:=S),List.getElem?_eq_getElem h]; rfl
def Ae (ws S:List Nat):Nat → Nat → List UInt8 → List UInt8
 | 0,_,o=>o
 | k + 1,n,o=>Ae ws S k (2 * cJ (ar ws k) n) (cg o S (n - cJ (ar ws k) n))
structure LnI (ws:List Nat) (k n:Nat):Prop where
 a:k ≠ 0 → n ≤ (ar ws (k - 1)).length
theorem LnI.next {ws:List Nat} {k n:Nat} (h:LnI ws (k + 1) n):n ≤ (ar ws k).length ∧ cJ (ar ws k) n ≤ n ∧ n - cJ (ar ws k) n ≤ ws.length ∧ LnI ws k (2 * cJ (ar ws k) n):=by
 have hn:=h.a (NR k)
 rw [NC] at hn
 have hc:=jv ws k
 have h1:=tS (ar ws k) n
 refine ⟨hn,xA _ _,?_,⟨fun hk=>?_⟩⟩
 ·have e:n = ((ar ws k).take n).length:=by rw [L5]; omega
  have e2:((ar ws k).take n).length = (((ar ws k).take n).filter (·.p)).length + (((ar ws k).take n).filter (fun x=>!x.p)).length:=by
   exact oM _
  have e3:(((ar ws k).take n).filter (fun x=>!x.p)).length ≤ ws.length:=by
   rw [← hc.2.2]; exact ((PI n _).filter _).length_le
  rw [iu]; omega
 ·rw [hc.2.1,if_neg hk] at h1; omega
theorem LnI.first {ws:List Nat} {m:Nat} (hm:1 ≤ m) (h:ws.length ≤ 2 ^ m) (h2:2 ≤ ws.length):LnI ws m (2 * ws.length - 2):=⟨fun _=>by
 have g:=tT ws (m - 1)
 have hp:=Nq (m - 1)
 have e:2 ^ m = 2 * 2 ^ (m - 1):=by rw [show m = (m - 1) + 1 from by omega,Ng,Nr]; rfl
 generalize (ar ws (m - 1)).length = R at *
 generalize ws.length = N at *
 generalize 2 ^ (m - 1) = P at *
 rcases Mv R (2 * N - 2) with q | q
 ·have h3:P * R + 3 * P ≤ P * (2 * N):=by
   have:R + 3 ≤ 2 * N:=by omega
   have:=Ok P this
   rw [NN,Nr P 3] at this; exact this
  omega
 ·exact q⟩
end Vp
end Go.Proofs.YtefjnofhgkjpmaaGreat

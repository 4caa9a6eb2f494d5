/- Part 7. -/
import Derived.Test.YtefjnofhgkjpmaaGreatTm5
import Derived.Test.YtefjnofhgkjpmaaGreatTm6
set_option linter.unusedVariables false
set_option linter.unusedSimpArgs false
set_option maxRecDepth 100000
set_option maxHeartbeats 4000000
namespace Go.Proofs.YtefjnofhgkjpmaaGreat
open Go.RowKit Go.Bw Go.Vx
open List (length getD map take drop flatMap replicate)
namespace Vp
theorem oq {p:Prop} (h:p:=by (refine aO ?_; (omega))):p:=h
theorem r9 {p:Prop} (h:p:=by (refine decide_eq_true ?_; (omega))):p:=h
theorem xh {p:Prop} (h:p:=by ((refine aH ?_ ?_) <;> (repeat' (first | (refine aH ?_ ?_) | (with_reducible rfl) | (refine decide_eq_true ?_) | (refine Nat.ble_eq_true_of_le ?_) | (refine et ?_))) <;> (omega))):p:=h
def mb (a b:Nat):Int:=if a < b then -1 else if b < a then 1 else 0
theorem Hy {a b:Nat} (h:(a:Int) < b):mb a b = -1:=if_pos (by omega)
theorem Hz {a b:Nat} (h:¬ (a:Int) < b) (h2:(b:Int) < a):mb a b = 1:=(if_neg (by omega)).trans (if_pos (by omega))
theorem HA {a b:Nat} (h:¬ (a:Int) < b) (h2:¬ (b:Int) < a):mb a b = 0:=(if_neg (by omega)).trans (if_neg (by omega))
theorem xi (a b:Nat):mb a b < 0 ↔ a < b:=by
 unfold mb; split
 ·omega
 ·split <;> omega
def swp (X:List Nat) (i j:Nat):List Nat:=lk X ((X.set i (X.getD j default)).set j (X.getD i default))
theorem ot (X:List Nat) (i j:Nat):swp X i j = (X.set i (X.getD j default)).set j (X.getD i default):=aF _ _
theorem fY (X:List Nat) (i j:Nat):(swp X i j).length = X.length:=by rw [ot,List.length_set,List.length_set]
theorem Et {M:List Nat} {o a:Nat} (ho:o < M.length):ai (M.map nD) o [nD a] = (M.set o a).map nD:=by
 apply List.ext_getElem?
 intro i
 rw [cq (by simp only [List.length_map,List.length_singleton]; omega),List.getElem?_map,List.getElem?_map,List.getElem?_set]
 simp only [List.length_singleton]
 by_cases hi:o = i
 ·subst hi
  rw [if_pos (by omega),if_pos rfl,if_pos ho,Nat.sub_self]; rfl
 ·rw [if_neg (by omega),if_neg hi]
theorem tI {X:List Nat} {i j i' j' i2 j2:Nat} (hi:i < X.length) (hj:j < X.length) (h1:i' = i) (h2:j' = j) (h3:i2 = i) (h4:j2 = j):ai (ai (X.map nD) i' [D.v (.int .i64 ((X.getD j2 default:Nat):Int))]) j' [D.v (.int .i64 ((X.getD i2 default:Nat):Int))] = (swp X i j).map nD:=by
 subst h1 h2 h3 h4
 rw [show D.v (.int .i64 ((X.getD j2 default:Nat):Int)) = nD (X.getD j2 default) from rfl,Et hi,show D.v (.int .i64 ((X.getD i2 default:Nat):Int)) = nD (X.getD i2 default) from rfl,Et (by rw [List.length_set]; exact hj),ot]
theorem zO {X:List Nat} {o m:Nat} {z:Int} (ho:o < X.length) (hm:m ≤ X.length):(true && m.ble (ai (X.map nD) o [D.v (.int .i64 z)]).length) = true:=by
 rw [cP (by rw [List.length_map,List.length_singleton]; omega),List.length_map,Bool.true_and]
 exact Nat.ble_eq_true_of_le hm
def HC (X:List Nat) (a b:Nat):Nat → List Nat
 | 0=>X
 | k + 1=>swp (HC X a b k) (a + k) (b + k)
theorem tJ (X:List Nat) (a b:Nat):∀ k,(HC X a b k).length = X.length
 | 0=>rfl
 | k + 1=>by rw [HC,fY,tJ X a b k]
def dM (X:List Nat) (a b k:Nat):List Nat:=lk X (HC X a b k)
theorem ou (X:List Nat) (a b k:Nat):dM X a b k = HC X a b k:=aF _ _
theorem dn (X:List Nat) (a b k:Nat):(dM X a b k).length = X.length:=by rw [ou,tJ]
theorem Cr (X:List Nat) (a b:Nat):dM X a b 0 = X:=ou X a b 0
theorem Cs (X:List Nat) (a b k:Nat):swp (dM X a b k) (a + k) (b + k) = dM X a b (k + 1):=by rw [ou,ou]; rfl
theorem Eu (a b:Nat):SpecH false Tryz.prog 176 [nD a,nD b] [] (iD (mb a b)) []:=by
 refine SpecH.run T_ok ah Tryz.func176 rfl rfl rfl trivial rfl 1000 64 (fun R ok=>(.s 22 (.f ((↑a:Int) != (↑a:Int)) (by (simp; done)) (.s 1 (.f ((↑b:Int) != (↑b:Int)) (by (simp; done)) (.s 4 (.br (decide ((↑a:Int) < (↑b:Int))) (fun p0=>have p0f:=aS p0; (.s 1 (.out [] [] (iD (-1)) [] R (ok _ _ (by ( rw [Hy om])) wr)))) (fun p0=>have p0f:=aT p0; (.s 4 (.br (decide ((↑b:Int) < (↑a:Int))) (fun p1=>have p1f:=aS p1; (.s 1 (.out [] [] (iD 1) [] R (ok _ _ (by ( rw [Hz om om])) wr)))) (fun p1=>have p1f:=aT p1; (.s 1 (.out [] [] (iD 0) [] R (ok _ _ (by ( rw [HA om om])) wr)))))))))))))) (by kernel_rfl)
theorem qt (W:List Nat) (L:Nat) (hL:L = W.length) (x y:Nat) (hx:x < L) (hy:y < L):SpecH true Tryz.prog 175 [nD x,nD y,.ptr 0 0 0] [⟨[.sl false L 1 (W.map nD)], 152, false⟩] (iD (mb (W.getD x default) (W.getD y default))) [⟨[.sl false L 1 (W.map nD)], 152, false⟩]:=by
 refine SpecH.run T_ok ah Tryz.func175 rfl rfl rfl ⟨rfl,trivial⟩ rfl 1000 64 (fun R ok=>(.s 7 (.chk (true && decide ((↑x:Int) < (↑L:Int)) && true) xh (.s 2 (.opt ((map nD W)[x * 1]?) (nD (getD W (x * 1) default)) (av _ _ om) (.s 5 (.chk (true && decide ((↑y:Int) < (↑L:Int)) && true) xh (.s 2 (.opt ((map nD W)[y * 1]?) (nD (getD W (y * 1) default)) (av _ _ om) (.s 1 (.cl 176 false [] (.fn JF (@Eu (getD W (x * 1) default) (getD W (y * 1) default))) (.s 1 (.out [0] [0] (iD (mb (getD W (x * 1) default) (getD W (y * 1) default))) [Blk.mk [D.sl false L 1 (map nD W)] 152 false] R (ok _ _ (by (rw [Nat.mul_one,Nat.mul_one])) wr)))))))))))))) (by kernel_rfl)
theorem HD (X:List Nat) (N:Nat) (hN:N = X.length) (hN2:N ≤ 1000) (W:List Nat) (L:Nat) (hL:L = W.length) (a b n:Nat) (h1:a + n ≤ N) (h2:b + n ≤ N):SpecH true Tryz.prog 201 [.ref 0 0 0 N 1,nD a,nD b,nD n,.fn (.func 175) [] [.ptr 1 1 0]] [⟨X.map nD, 3, true⟩,⟨[.sl false L 1 (W.map nD)], 152, false⟩] (.tup []) [⟨(dM X a b n).map nD, 3, true⟩,⟨[.sl false L 1 (W.map nD)], 152, false⟩]:=by
 refine SpecH.run T_ok ah Tryz.func201 rfl rfl rfl ⟨lv _,rfl,trivial⟩ rfl 1000 64 (fun R ok=>(.s 1 (.blk 0 0 (Blk.mk (map nD X) 3 true) (Blk.mk (map nD (dM X a b 0)) 3 true) (by (rw [Cr]; done)) (Hn.inl T_ok ah false 38 2 (aA Tryz.prog 201 0) (fun (x:(i:Nat) ×' (hi:i ≤ n) ×' Unit)=>match x with | ⟨i,hi,_⟩=>CutS.mk [(0,D.ref 0 0 0 N 1),(1,nD a),(2,nD b),(3,nD n),(10,nD i)] [⟨0,0,0,0,.b ⟨(dM X a b i).map nD,3,true⟩⟩,⟨1,1,1,1,.b ⟨[D.sl false L 1 (map nD W)],152,false⟩⟩] 24) (fun (x:(i:Nat) ×' (hi:i ≤ n) ×' Unit)=>match x with | ⟨i,hi,_⟩=>n - i) [⟨Unit,.exit 0,fun x=>match x with | ()=>CutS.mk [(0,D.ref 0 0 0 N 1),(1,nD a),(2,nD b),(3,nD n)] [⟨0,0,0,0,.b ⟨(dM X a b n).map nD,3,true⟩⟩,⟨1,1,1,1,.b ⟨[D.sl false L 1 (map nD W)],152,false⟩⟩] 24⟩] 1000 64 (fun | ⟨i,hi,_⟩,Q,next1,last1=>(.s 4 (.br (decide ((↑i:Int) < (↑n:Int))) (fun p0=>have p0f:=aS p0; (.s 6 (.ow ((↑a:Int) + (↑i:Int)) (.s 5 (.ow ((↑b:Int) + (↑i:Int)) (.s 5 (.ow ((↑b:Int) + (↑i:Int)) (.s 1 (.chk (true && decide ((↑b:Int) + (↑i:Int) < (↑N:Int))) r9 (.s 2 (.opt ((map nD (dM X a b i))[0 + Int.toNat ((↑b:Int) + (↑i:Int)) * 1]?) (nD (getD (dM X a b i) (0 + Int.toNat ((↑b:Int) + (↑i:Int)) * 1) default)) (av _ _ (by ( have h9:=dn X a b i; omega))) (.s 5 (.ow ((↑a:Int) + (↑i:Int)) (.s 1 (.chk (true && decide ((↑a:Int) + (↑i:Int) < (↑N:Int))) r9 (.s 2 (.opt ((map nD (dM X a b i))[0 + Int.toNat ((↑a:Int) + (↑i:Int)) * 1]?) (nD (getD (dM X a b i) (0 + Int.toNat ((↑a:Int) + (↑i:Int)) * 1) default)) (av _ _ (by ( have h9:=dn X a b i; omega))) (.s 1 (.chk (true && decide ((↑a:Int) + (↑i:Int) < (↑N:Int))) r9 (.s 1 (.chk (true && Nat.ble (0 + Int.toNat ((↑a:Int) + (↑i:Int)) * 1 + 1) (length (map nD (dM X a b i)))) (by (simp;  have h9:=dn X a b i; omega)) (.lst (ai (map nD (dM X a b i)) (0 + Int.toNat ((↑a:Int) + (↑i:Int)) * 1) [nD (getD (dM X a b i) (0 + Int.toNat ((↑b:Int) + (↑i:Int)) * 1) default)]) (ai (map nD (dM X a b i)) (Int.toNat ((↑a:Int) + (↑i:Int))) [nD (getD (dM X a b i) (Int.toNat ((↑b:Int) + (↑i:Int))) default)]) (by (simp; done)) (.s 1 (.chk (true && decide ((↑b:Int) + (↑i:Int) < (↑N:Int))) r9 (.s 1 (.chk (true && Nat.ble (0 + Int.toNat ((↑b:Int) + (↑i:Int)) * 1 + 1) (length (ai (map nD (dM X a b i)) (Int.toNat ((↑a:Int) + (↑i:Int))) [nD (getD (dM X a b i) (Int.toNat ((↑b:Int) + (↑i:Int))) default)]))) (by ( have h9:=dn X a b i; exact zO om om)) (.lst (ai (ai (map nD (dM X a b i)) (Int.toNat ((↑a:Int) + (↑i:Int))) [nD (getD (dM X a b i) (Int.toNat ((↑b:Int) + (↑i:Int))) default)]) (0 + Int.toNat ((↑b:Int) + (↑i:Int)) * 1) [nD (getD (dM X a b i) (0 + Int.toNat ((↑a:Int) + (↑i:Int)) * 1) default)]) (ai (ai (map nD (dM X a b i)) (Int.toNat ((↑a:Int) + (↑i:Int))) [nD (getD (dM X a b i) (Int.toNat ((↑b:Int) + (↑i:Int))) default)]) (Int.toNat ((↑b:Int) + (↑i:Int))) [nD (getD (dM X a b i) (Int.toNat ((↑a:Int) + (↑i:Int))) default)]) (by (simp; done)) (.s 3 (.ow ((↑i:Int) + 1) (.s 1 (.val 10 (iD ((↑i:Int) + 1)) (nD (i + 1)) oq (.blk 0 0 (Blk.mk (ai (ai (map nD (dM X a b i)) (Int.toNat ((↑a:Int) + (↑i:Int))) [nD (getD (dM X a b i) (Int.toNat ((↑b:Int) + (↑i:Int))) default)]) (Int.toNat ((↑b:Int) + (↑i:Int))) [nD (getD (dM X a b i) (Int.toNat ((↑a:Int) + (↑i:Int))) default)]) 3 true) (Blk.mk (map nD (dM X a b (i + 1))) 3 true) (by ( have h9:=dn X a b i; refine aC (Eq.trans (tI (i:=a + i) (j:=b + i) om om om om om om) ?_); rw [Cs])) (Hn.next next1 ⟨(i + 1),om,⟨⟩⟩ (by show n - (i + 1) < n - i; clear next1 last1; omega) [(0,0),(1,1)] ro))))))))))))))))))))))))))))))))) (fun p0=>have p0f:=aT p0; (.blk 0 0 (Blk.mk (map nD (dM X a b i)) 3 true) (Blk.mk (map nD (dM X a b n)) 3 true) (by (rw [show i = n from by (omega)])) (Hn.last last1 0 (():Unit) rfl [(0,0),(1,1)] ro)))))) (fun | ⟨i,hi,_⟩=>by kernel_rfl) ⟨(0),om,⟨⟩⟩ [(0,0),(1,1)] ro (cb (fun | ()=>(.out [0,1] [0,1] (D.tup []) [Blk.mk (map nD (dM X a b n)) 3 true,Blk.mk [D.sl false L 1 (map nD W)] 152 false] R (ok _ _ wr wr)))))))) (by kernel_rfl)
def gd (m:Nat):Nat → Nat → Nat → List Nat → List Nat
 | 0,i,_,X=>dM X (m - i) m i
 | f + 1,i,j,X=>if i = j then dM X (m - i) m i else if j < i then gd m f (i - j) j (dM X (m - i) m j) else gd m f i (j - i) (dM X (m - i) (m + j - i) i)
theorem HE {m f i j:Nat} {X:List Nat} (h:i = j):gd m f i j X = dM X (m - i) m i:=by
 cases f with
 | zero=>rfl
 | succ f=>exact if_pos h
theorem HF {m f i j:Nat} {X:List Nat} (h:j < i):gd m (f + 1) i j X = gd m f (i - j) j (dM X (m - i) m j):=(if_neg (by omega)).trans (if_pos h)
theorem HG {m f i j:Nat} {X:List Nat} (h:i < j):gd m (f + 1) i j X = gd m f i (j - i) (dM X (m - i) (m + j - i) i):=(if_neg (by omega)).trans (if_neg (by omega))
def xj (X:List Nat) (a m b:Nat):List Nat:=lk X (gd m (b - a) (m - a) (b - m) X)
theorem tK (X:List Nat) (a m b:Nat):xj X a m b = gd m (b - a) (m - a) (b - m) X:=aF _ _
def inI (W:List Nat) (a:Nat):Nat → List Nat → List Nat
 | 0,X=>X
 | j + 1,X=>if a < j + 1 ∧ W.getD (X.getD (j + 1) default) default < W.getD (X.getD j default) default then inI W a j (swp X (j + 1) j) else X
theorem HH {W:List Nat} {a j k:Nat} {X:List Nat} (hk:k + 1 = j) (h:a < j) (h2:W.getD (X.getD j default) default < W.getD (X.getD k default) default):inI W a j X = inI W a k (swp X j k):=by
 subst hk; exact if_pos ⟨h,h2⟩
theorem Ct {W:List Nat} {a j:Nat} {X:List Nat} (h:¬ a < j ∨ ¬ W.getD (X.getD j default) default < W.getD (X.getD (j - 1) default) default):inI W a j X = X:=by
 cases j with
 | zero=>rfl
 | succ j=>exact if_neg (fun q=>by rcases h with h | h; exact h q.1; exact h q.2)
theorem tL {W:List Nat} {a:Nat}:∀ (j:Nat) (X:List Nat),(inI W a j X).length = X.length
 | 0,_=>rfl
 | j + 1,X=>by
  rw [inI]; split
  ·rw [tL j,fY]
  ·rfl
def HI (W X:List Nat) (a:Nat):Nat → List Nat
 | 0=>X
 | k + 1=>inI W a (a + 1 + k) (HI W X a k)
theorem tM (W X:List Nat) (a:Nat):∀ k,(HI W X a k).length = X.length
 | 0=>rfl
 | k + 1=>by rw [HI,tL,tM W X a k]
def inQ (W X:List Nat) (a k:Nat):List Nat:=lk X (HI W X a k)
theorem ox (W X:List Nat) (a k:Nat):inQ W X a k = HI W X a k:=aF _ _
theorem iS (W X:List Nat) (a k:Nat):(inQ W X a k).length = X.length:=by rw [ox,tM]
theorem xk (W X:List Nat) (a:Nat):inQ W X a 0 = X:=ox W X a 0
theorem xl (W X:List Nat) (a k:Nat):inI W a (a + 1 + k) (inQ W X a k) = inQ W X a (k + 1):=by rw [ox,ox]; rfl
theorem Cu (X:List Nat) (N:Nat) (hN:N = X.length) (hN2:N ≤ 1000) (W:List Nat) (L:Nat) (hL:L = W.length) (a b n:Int) (a' b' n' : Nat) (e1:a = a') (e2:b = b') (e3:n = n') (h1:a' + n' ≤ N) (h2:b' + n' ≤ N):SpecH true Tryz.prog 201 [.ref 0 0 0 N 1,iD a,iD b,iD n,.fn (.func 175) [] [.ptr 1 1 0]] [⟨X.map nD, 3, true⟩,⟨[.sl false L 1 (W.map nD)], 152, false⟩] (.tup []) [⟨(dM X a' b' n').map nD, 3, true⟩,⟨[.sl false L 1 (W.map nD)], 152, false⟩]:=by
 subst e1 e2 e3
 exact HD X N hN hN2 W L hL a' b' n' h1 h2
theorem Cv (X:List Nat) (N:Nat) (hN:N = X.length) (hN2:N ≤ 1000) (W:List Nat) (L:Nat) (hL:L = W.length) (m i j:Nat) (h1:i ≤ m) (h2:m + j ≤ N) (h3:j ≤ i):SpecH true Tryz.prog 201 [.ref 0 0 0 N 1,iD ((m:Int) - i),iD ((m:Nat):Int),nD j,.fn (.func 175) [] [.ptr 1 1 0]] [⟨X.map nD, 3, true⟩,⟨[.sl false L 1 (W.map nD)], 152, false⟩] (.tup []) [⟨(dM X (m - i) m j).map nD, 3, true⟩,⟨[.sl false L 1 (W.map nD)], 152, false⟩]:=Cu X N hN hN2 W L hL _ _ _ (m - i) m j (by omega) rfl rfl (by omega) (by omega)
theorem HJ (X:List Nat) (N:Nat) (hN:N = X.length) (hN2:N ≤ 1000) (W:List Nat) (L:Nat) (hL:L = W.length) (m i j:Nat) (h1:i ≤ m) (h2:m + j ≤ N) (h3:i ≤ j):SpecH true Tryz.prog 201 [.ref 0 0 0 N 1,iD ((m:Int) - i),iD ((m:Int) + j - i),nD i,.fn (.func 175) [] [.ptr 1 1 0]] [⟨X.map nD, 3, true⟩,⟨[.sl false L 1 (W.map nD)], 152, false⟩] (.tup []) [⟨(dM X (m - i) (m + j - i) i).map nD, 3, true⟩,⟨[.sl false L 1 (W.map nD)], 152, false⟩]:=Cu X N hN hN2 W L hL _ _ _ (m - i) (m + j - i) i (by omega) (by omega) rfl (by omega) (by omega)
theorem Ew {m f i j:Nat} {X T:List Nat} (hR:gd m f i j X = T) (hf:i + j ≤ f) (h1:1 ≤ j) (h:j < i):gd m (f - 1) (i - j) j (dM X (m - i) m j) = T:=by
 obtain ⟨g,rfl⟩:∃ g,f = g + 1:=⟨f - 1,by omega⟩
 rw [← hR,HF h]; rfl
theorem Ex {m f i j:Nat} {X T:List Nat} (hR:gd m f i j X = T) (hf:i + j ≤ f) (h1:1 ≤ i) (h:i < j):gd m (f - 1) i (j - i) (dM X (m - i) (m + j - i) i) = T:=by
 obtain ⟨g,rfl⟩:∃ g,f = g + 1:=⟨f - 1,by omega⟩
 rw [← hR,HG h]; rfl
theorem Ey {m f i j:Nat} {X T:List Nat} (hR:gd m f i j X = T) (h:i = j):dM X (m - i) m i = T:=by rw [← hR,HE h]
theorem HK (X:List Nat) (N:Nat) (hN:N = X.length) (hN2:N ≤ 1000) (W:List Nat) (L:Nat) (hL:L = W.length) (a m b:Nat) (h1:a < m) (h2:m < b) (h3:b ≤ N) (T:List Nat) (hT:xj X a m b = T):SpecH true Tryz.prog 200 [.ref 0 0 0 N 1,nD a,nD m,nD b,.fn (.func 175) [] [.ptr 1 1 0]] [⟨X.map nD, 3, true⟩,⟨[.sl false L 1 (W.map nD)], 152, false⟩] (.tup []) [⟨(T).map nD, 3, true⟩,⟨[.sl false L 1 (W.map nD)], 152, false⟩]:=by
 refine SpecH.run T_ok ah Tryz.func200 rfl rfl rfl ⟨lv _,rfl,trivial⟩ rfl 1000 64 (fun R ok=>(.s 4 (.ow ((↑m:Int) - (↑a:Int)) (.s 5 (.ow ((↑b:Int) - (↑m:Int)) (.s 1 (.val 10 (iD ((↑m:Int) - (↑a:Int))) (nD (m - a)) oq (.val 11 (iD ((↑b:Int) - (↑m:Int))) (nD (b - m)) oq (Hn.inl T_ok ah false 58 2 (aA Tryz.prog 200 0) (fun (x:(i:Nat) ×' (j:Nat) ×' (f:Nat) ×' (Y:List Nat) ×' (hY:Y.length = N) ×' (hi:1 ≤ i ∧ i ≤ m) ×' (hj:1 ≤ j ∧ m + j ≤ N) ×' (hf:i + j ≤ f) ×' (hR:gd m f i j Y = T) ×' Unit)=>match x with | ⟨i,j,f,Y,hY,hi,hj,hf,hR,_⟩=>CutS.mk [(0,D.ref 0 0 0 N 1),(2,nD m),(4,D.fn (Fn.func 175) [] [D.ptr 1 1 0]),(10,nD i),(11,nD j)] [⟨0,0,0,0,.b ⟨Y.map nD,3,true⟩⟩,⟨1,1,1,1,.b ⟨[D.sl false L 1 (map nD W)],152,false⟩⟩] 24) (fun (x:(i:Nat) ×' (j:Nat) ×' (f:Nat) ×' (Y:List Nat) ×' (hY:Y.length = N) ×' (hi:1 ≤ i ∧ i ≤ m) ×' (hj:1 ≤ j ∧ m + j ≤ N) ×' (hf:i + j ≤ f) ×' (hR:gd m f i j Y = T) ×' Unit)=>match x with | ⟨i,j,f,Y,hY,hi,hj,hf,hR,_⟩=>i + j) [⟨(i2:Nat) ×' (Y2:List Nat) ×' (hY2:Y2.length = N) ×' (hi2:1 ≤ i2 ∧ i2 ≤ m ∧ m + i2 ≤ N) ×' (hR2:dM Y2 (m - i2) m i2 = T) ×' Unit,.exit 0,fun x=>match x with | ⟨i2,Y2,hY2,hi2,hR2,_⟩=>CutS.mk [(0,D.ref 0 0 0 N 1),(2,nD m),(4,D.fn (Fn.func 175) [] [D.ptr 1 1 0]),(10,nD i2),(11,nD i2)] [⟨0,0,0,0,.b ⟨Y2.map nD,3,true⟩⟩,⟨1,1,1,1,.b ⟨[D.sl false L 1 (map nD W)],152,false⟩⟩] 24⟩] 1000 64 (fun | ⟨i,j,f,Y,hY,hi,hj,hf,hR,_⟩,Q,next1,last1=>(.s 4 (.br ((↑i:Int) != (↑j:Int)) (fun p0=>have p0f:=pZ p0; (.s 4 (.br (decide ((↑j:Int) < (↑i:Int))) (fun p1=>have p1f:=aS p1; (.s 5 (.ow ((↑m:Int) - (↑i:Int)) (.s 4 (.call 201 true [0,1] (true) wr ([D.ref 0 0 0 N 1,iD ((↑m:Int) - (↑i:Int)),nD m,nD j,D.fn (Fn.func 175) [] [D.ptr 1 1 0]]) _ (bY.refl _) (ab (map nD Y) && true) (by (simp; done)) _ _ _ (CallOk.fn (aw.of Tryz.func201 rfl rfl) (@Cv (Y) (N) om om (W) (L) om (m) (i) (j) om om om)) (.s 4 (.ow ((↑i:Int) - (↑j:Int)) (.s 1 (.val 10 (iD ((↑i:Int) - (↑j:Int))) (nD (i - j)) oq (Hn.next next1 ⟨(i - j),(j),(f - 1),(dM Y (m - i) m j),(by (rw [dn]; (omega))),om,om,om,(by ( exact Ew hR om om om)),⟨⟩⟩ (by show i - j + j < i + j; clear next1 last1; omega) [(0,0),(1,1)] ro)))))))))) (fun p1=>have p1f:=aT p1; (.s 5 (.ow ((↑m:Int) - (↑i:Int)) (.s 4 (.ow ((↑m:Int) + (↑j:Int)) (.s 3 (.ow ((↑m:Int) + (↑j:Int) - (↑i:Int)) (.s 3 (.call 201 true [0,1] (true) wr ([D.ref 0 0 0 N 1,iD ((↑m:Int) - (↑i:Int)),iD ((↑m:Int) + (↑j:Int) - (↑i:Int)),nD i,D.fn (Fn.func 175) [] [D.ptr 1 1 0]]) _ (bY.refl _) (ab (map nD Y) && true) (by (simp; done)) _ _ _ (CallOk.fn (aw.of Tryz.func201 rfl rfl) (@HJ (Y) (N) om om (W) (L) om (m) (i) (j) om om om)) (.s 4 (.ow ((↑j:Int) - (↑i:Int)) (.s 1 (.val 11 (iD ((↑j:Int) - (↑i:Int))) (nD (j - i)) oq (Hn.next next1 ⟨(i),(j - i),(f - 1),(dM Y (m - i) (m + j - i) i),(by (rw [dn]; (omega))),om,om,om,(by ( exact Ex hR om om om)),⟨⟩⟩ (by show i + (j - i) < i + j; clear next1 last1; omega) [(0,0),(1,1)] ro))))))))))))))))) (fun p0=>have p0f:=qa p0; (.val 11 (nD j) (nD i) oq (Hn.last last1 0 (⟨(i),(Y),om,om,(by ( rw [Ey hR om])),⟨⟩⟩:(i2:Nat) ×' (Y2:List Nat) ×' (hY2:Y2.length = N) ×' (hi2:1 ≤ i2 ∧ i2 ≤ m ∧ m + i2 ≤ N) ×' (hR2:dM Y2 (m - i2) m i2 = T) ×' Unit) rfl [(0,0),(1,1)] ro)))))) (fun | ⟨i,j,f,Y,hY,hi,hj,hf,hR,_⟩=>by kernel_rfl) ⟨(m - a),(b - m),(b - a),(X),om,om,om,om,(by (exact (tK X a m b).symm.trans hT)),⟨⟩⟩ [(0,0),(1,1)] ro (cb (fun | ⟨i2,Y2,hY2,hi2,hR2,_⟩=>(.s 5 (.ow ((↑m:Int) - (↑i2:Int)) (.s 4 (.call 201 true [0,1] (true) wr ([D.ref 0 0 0 N 1,iD ((↑m:Int) - (↑i2:Int)),nD m,nD i2,D.fn (Fn.func 175) [] [D.ptr 1 1 0]]) _ (bY.refl _) (ab (map nD Y2) && true) (by (simp; done)) _ _ _ (CallOk.fn (aw.of Tryz.func201 rfl rfl) (@Cv (Y2) (N) om om (W) (L) om (m) (i2) (i2) om om om)) (.out [0,1] [0,1] (D.tup []) [Blk.mk (map nD (dM Y2 (m - i2) m i2)) 3 true,Blk.mk [D.sl false L 1 (map nD W)] 152 false] R (ok _ _ wr (by (simp_all; done))))))))))))))))))) (by kernel_rfl)
def bu (L:Nat) (X:List Nat):Prop:=∀ x ∈ X,x < L
theorem bu.at {L:Nat} {X:List Nat} (h:bu L X) {t:Nat} (ht:t < X.length):X.getD t default < L:=by
 rw [List.getD_eq_getElem?_getD,List.getElem?_eq_getElem ht]; exact h _ (List.getElem_mem ht)
theorem bu.swp {L:Nat} {X:List Nat} (h:bu L X) {i j:Nat} (hi:i < X.length) (hj:j < X.length):bu L (swp X i j):=by
 intro x hx
 rw [ot] at hx
 rcases List.mem_or_eq_of_mem_set hx with q | q
 ·rcases List.mem_or_eq_of_mem_set q with q | q
  ·exact h x q
  ·rw [q]; exact h.at hj
 ·rw [q]; exact h.at hi
theorem bu.inI {L:Nat} {W:List Nat} {a:Nat}:∀ (j:Nat) {X:List Nat},bu L X → j < X.length → bu L (inI W a j X)
 | 0,_,h,_=>h
 | j + 1,X,h,hj=>by
  rw [Vp.inI]; split
  ·exact bu.inI j (h.swp hj (by omega)) (by rw [fY]; omega)
  ·exact h
theorem bu.inQ {L:Nat} {W X:List Nat} {a:Nat} (h:bu L X):∀ (k:Nat),a + k < X.length → bu L (inQ W X a k)
 | 0,_=>by rw [xk]; exact h
 | k + 1,hk=>by
  rw [← xl]
  exact bu.inI _ (bu.inQ h k (by omega)) (by rw [iS]; omega)
theorem Ez {W Y T:List Nat} {a j u v:Nat} (hR:inI W a j Y = T) (h:a < j) (hu:u = j) (hv:v = j - 1) (h2:mb (W.getD (Y.getD u default) default) (W.getD (Y.getD v default) default) < 0):inI W a (j - 1) (swp Y j (j - 1)) = T:=by
 subst hu hv
 rw [← hR]; exact (HH (by omega) h ((xi _ _).1 h2)).symm
theorem EA {W Y T:List Nat} {a j:Nat} (hR:inI W a j Y = T) (h:¬ a < j):Y = T:=by rw [← hR,Ct (.inl h)]
theorem EB {W Y T:List Nat} {a j u v:Nat} (hR:inI W a j Y = T) (hu:u = j) (hv:v = j - 1) (h2:¬ mb (W.getD (Y.getD u default) default) (W.getD (Y.getD v default) default) < 0):Y = T:=by
 subst hu hv
 rw [← hR,Ct (.inr fun q=>h2 ((xi _ _).2 q))]
theorem HL (X:List Nat) (N:Nat) (hN:N = X.length) (hN2:N ≤ 1000) (W:List Nat) (L:Nat) (hL:L = W.length) (hA:bu L X) (a b:Nat) (h1:a ≤ b) (h3:b ≤ N) (T:List Nat) (hT:inQ W X a (b - (a + 1)) = T):SpecH true Tryz.prog 196 [.ref 0 0 0 N 1,nD a,nD b,.fn (.func 175) [] [.ptr 1 1 0]] [⟨X.map nD, 3, true⟩,⟨[.sl false L 1 (W.map nD)], 152, false⟩] (.tup []) [⟨(T).map nD, 3, true⟩,⟨[.sl false L 1 (W.map nD)], 152, false⟩]:=by
 refine SpecH.run T_ok ah Tryz.func196 rfl rfl rfl ⟨lv _,rfl,trivial⟩ rfl 1000 64 (fun R ok=>(.s 3 (.ow ((↑a:Int) + 1) (.s 1 (.val 8 (iD ((↑a:Int) + 1)) (nD (a + 1 + 0)) oq (.blk 0 0 (Blk.mk (map nD X) 3 true) (Blk.mk (map nD (inQ W X a 0)) 3 true) (by (rw [xk]; done)) (Hn.inl T_ok ah false 53 2 (aA Tryz.prog 196 0) (fun (x:(k:Nat) ×' (hk:k ≤ b - (a + 1)) ×' Unit)=>match x with | ⟨k,hk,_⟩=>CutS.mk [(0,D.ref 0 0 0 N 1),(1,nD a),(2,nD b),(3,D.fn (Fn.func 175) [] [D.ptr 1 1 0]),(8,nD (a + 1 + k))] [⟨0,0,0,0,.b ⟨(inQ W X a k).map nD,3,true⟩⟩,⟨1,1,1,1,.b ⟨[D.sl false L 1 (map nD W)],152,false⟩⟩] 24) (fun (x:(k:Nat) ×' (hk:k ≤ b - (a + 1)) ×' Unit)=>match x with | ⟨k,hk,_⟩=>b - (a + 1) - k) [⟨Unit,.exit 0,fun x=>match x with | ()=>CutS.mk [(0,D.ref 0 0 0 N 1),(1,nD a),(2,nD b),(3,D.fn (Fn.func 175) [] [D.ptr 1 1 0])] [⟨0,0,0,0,.b ⟨T.map nD,3,true⟩⟩,⟨1,1,1,1,.b ⟨[D.sl false L 1 (map nD W)],152,false⟩⟩] 24⟩] 1000 64 (fun | ⟨k,hk,_⟩,Q,next1,last1=>(.s 4 (.br (decide ((↑(a + 1 + k):Int) < (↑b:Int))) (fun p0=>have p0f:=aS p0; (.s 2 (Hn.inl T_ok ah false 53 2 (aA Tryz.prog 196 1) (fun (x:(j:Nat) ×' (Y:List Nat) ×' (hY:Y.length = N) ×' (hj:a ≤ j ∧ j ≤ a + 1 + k) ×' (hB:bu L Y) ×' (hR:inI W a j Y = inQ W X a (k + 1)) ×' Unit)=>match x with | ⟨j,Y,hY,hj,hB,hR,_⟩=>CutS.mk [(0,D.ref 0 0 0 N 1),(1,nD a),(2,nD b),(3,D.fn (Fn.func 175) [] [D.ptr 1 1 0]),(8,nD (a + 1 + k)),(9,nD j)] [⟨0,0,0,0,.b ⟨Y.map nD,3,true⟩⟩,⟨1,1,1,1,.b ⟨[D.sl false L 1 (map nD W)],152,false⟩⟩] 24) (fun (x:(j:Nat) ×' (Y:List Nat) ×' (hY:Y.length = N) ×' (hj:a ≤ j ∧ j ≤ a + 1 + k) ×' (hB:bu L Y) ×' (hR:inI W a j Y = inQ W X a (k + 1)) ×' Unit)=>match x with | ⟨j,Y,hY,hj,hB,hR,_⟩=>j) [⟨Unit,.exit 2,fun x=>match x with | ()=>CutS.mk [(0,D.ref 0 0 0 N 1),(1,nD a),(2,nD b),(3,D.fn (Fn.func 175) [] [D.ptr 1 1 0]),(8,nD (a + 1 + k))] [⟨0,0,0,0,.b ⟨(inQ W X a (k + 1)).map nD,3,true⟩⟩,⟨1,1,1,1,.b ⟨[D.sl false L 1 (map nD W)],152,false⟩⟩] 24⟩] 1000 64 (fun | ⟨j,Y,hY,hj,hB,hR,_⟩,Q,next2,last2=>(.s 7 (.br (decide ((↑a:Int) < (↑j:Int))) (fun p1=>have p1f:=aS p1; (.s 6 (.chk (true && decide ((↑j:Int) < (↑N:Int))) r9 (.s 3 (.opt ((map nD Y)[0 + j * 1]?) (nD (getD Y (0 + j * 1) default)) (av _ _ om) (.s 7 (.ow ((↑j:Int) - 1) (.s 2 (.chk (decide (0 ≤ (↑j:Int) - 1) && decide ((↑j:Int) - 1 < (↑N:Int))) xh (.s 3 (.opt ((map nD Y)[0 + Int.toNat ((↑j:Int) - 1) * 1]?) (nD (getD Y (0 + Int.toNat ((↑j:Int) - 1) * 1) default)) (av _ _ om) (.s 2 (.cl 175 true [1] (.fn wN (@qt (W) (L) om (getD Y (0 + j * 1) default) (getD Y (0 + Int.toNat ((↑j:Int) - 1) * 1) default) (by ( exact hB.at om)) (by ( exact hB.at om)))) (.s 4 (.br (decide (mb (getD W (getD Y (0 + j * 1) default) default) (getD W (getD Y (0 + Int.toNat ((↑j:Int) - 1) * 1) default) default) < 0)) (fun p2=>have p2f:=aS p2; (.s 7 (.ow ((↑j:Int) - 1) (.s 4 (.ow ((↑j:Int) - 1) (.s 1 (.chk (decide (0 ≤ (↑j:Int) - 1) && decide ((↑j:Int) - 1 < (↑N:Int))) xh (.s 2 (.opt ((map nD Y)[0 + Int.toNat ((↑j:Int) - 1) * 1]?) (nD (getD Y (0 + Int.toNat ((↑j:Int) - 1) * 1) default)) (av _ _ om) (.s 3 (.chk (true && decide ((↑j:Int) < (↑N:Int))) r9 (.s 2 (.opt ((map nD Y)[0 + j * 1]?) (nD (getD Y (0 + j * 1) default)) (av _ _ om) (.s 1 (.chk (true && decide ((↑j:Int) < (↑N:Int))) r9 (.s 1 (.chk (true && Nat.ble (0 + j * 1 + 1) (length (map nD Y))) (by (simp;  have h9:=iS W X a k; omega)) (.lst (ai (map nD Y) (0 + j * 1) [nD (getD Y (0 + Int.toNat ((↑j:Int) - 1) * 1) default)]) (ai (map nD Y) j [nD (getD Y (Int.toNat ((↑j:Int) - 1)) default)]) (by (simp; done)) (.s 1 (.chk (decide (0 ≤ (↑j:Int) - 1) && decide ((↑j:Int) - 1 < (↑N:Int))) xh (.s 1 (.chk (true && Nat.ble (0 + Int.toNat ((↑j:Int) - 1) * 1 + 1) (length (ai (map nD Y) j [nD (getD Y (Int.toNat ((↑j:Int) - 1)) default)]))) (by ( exact zO om om)) (.lst (ai (ai (map nD Y) j [nD (getD Y (Int.toNat ((↑j:Int) - 1)) default)]) (0 + Int.toNat ((↑j:Int) - 1) * 1) [nD (getD Y (0 + j * 1) default)]) (ai (ai (map nD Y) j [nD (getD Y (Int.toNat ((↑j:Int) - 1)) default)]) (Int.toNat ((↑j:Int) - 1)) [nD (getD Y j default)]) (by (simp; done)) (.s 3 (.ow ((↑j:Int) - 1) (.s 1 (.val 9 (iD ((↑j:Int) - 1)) (nD (j - 1)) oq (.blk 0 0 (Blk.mk (ai (ai (map nD Y) j [nD (getD Y (Int.toNat ((↑j:Int) - 1)) default)]) (Int.toNat ((↑j:Int) - 1)) [nD (getD Y j default)]) 3 true) (Blk.mk (map nD (swp Y j (j - 1))) 3 true) (by ( exact aC (tI om om om om om om))) (Hn.next next2 ⟨(j - 1),(swp Y j (j - 1)),(by (rw [fY]; (omega))),om,(by ( exact hB.swp om om)),(by ( exact Ez (u:=0 + j * 1) (v:=0 + ((j:Int) - 1).toNat * 1) hR om om om bt)),⟨⟩⟩ (by show j - 1 < j; clear next2 last2 next1 last1; omega) [(0,0),(1,1)] ro))))))))))))))))))))))))))))) (fun p2=>have p2f:=aT p2; (.blk 0 0 (Blk.mk (map nD Y) 3 true) (Blk.mk (map nD (inQ W X a (k + 1))) 3 true) (by ( rw [EB (u:=0 + j * 1) (v:=0 + ((j:Int) - 1).toNat * 1) hR om om bt])) (Hn.last last2 0 (():Unit) rfl [(0,0),(1,1)] ro)))))))))))))))))) (fun p1=>have p1f:=aT p1; (.s 24 (.blk 0 0 (Blk.mk (map nD Y) 3 true) (Blk.mk (map nD (inQ W X a (k + 1))) 3 true) (by ( rw [EA hR om])) (Hn.last last2 0 (():Unit) rfl [(0,0),(1,1)] ro))))))) (fun | ⟨j,Y,hY,hj,hB,hR,_⟩=>by kernel_rfl) ⟨(a + 1 + k),(inQ W X a k),(by ( have h9:=iS W X a k; omega)),om,(by ( have h9:=iS W X a k; exact bu.inQ hA k om)),(by (exact xl W X a k)),⟨⟩⟩ [(0,0),(1,1)] ro (cb (fun | ()=>(.s 3 (.ow ((↑(a + 1 + k):Int) + 1) (.s 1 (.val 8 (iD ((↑(a + 1 + k):Int) + 1)) (nD (a + 1 + (k + 1))) oq (Hn.next next1 ⟨(k + 1),om,⟨⟩⟩ (by show b - (a + 1) - (k + 1) < b - (a + 1) - k; clear next1 last1; omega) [(0,0),(1,1)] ro)))))))))) (fun p0=>have p0f:=aT p0; (.blk 0 0 (Blk.mk (map nD (inQ W X a k)) 3 true) (Blk.mk (map nD T) 3 true) (by ( rw [← hT,show b - (a + 1) = k from by omega])) (Hn.last last1 0 (():Unit) rfl [(0,0),(1,1)] ro)))))) (fun | ⟨k,hk,_⟩=>by kernel_rfl) ⟨(0),om,⟨⟩⟩ [(0,0),(1,1)] ro (cb (fun | ()=>(.out [0,1] [0,1] (D.tup []) [Blk.mk (map nD T) 3 true,Blk.mk [D.sl false L 1 (map nD W)] 152 false] R (ok _ _ wr wr))))))))))) (by kernel_rfl)
end Vp
end Go.Proofs.YtefjnofhgkjpmaaGreat
namespace Go.Proofs.YtefjnofhgkjpmaaGreat
open Go.RowKit Go.Bw Go.Vx
open List (length getD map take drop flatMap replicate)
namespace Vp
theorem dE {p:Prop} (h:p:=by (refine decide_eq_true ?_; (omega))):p:=h
theorem oy {p:Prop} (h:p:=by (refine decide_eq_false ?_; (omega))):p:=h
theorem qu {p:Prop} (h:p:=by (refine aO ?_; (omega))):p:=h
theorem zP {p:Prop} (h:p:=by show y - ((x + y) / 2 + 1) < y - x; clear next1 last1; omega):p:=h
theorem zQ {p:Prop} (h:p:=by show (x + y) / 2 - x < y - x; clear next1 last1; omega):p:=h
theorem zR {p:Prop} (h:p:=by ( have z:=xm hR om; refine aO ?_; omega)):p:=h
theorem zS {p:Prop} (h:p:=by ((refine aH ?_ ?_) <;> (repeat' (first | (refine aH ?_ ?_) | (with_reducible rfl) | (refine decide_eq_true ?_) | (refine Nat.ble_eq_true_of_le ?_) | (refine et ?_))) <;> (omega))):p:=h
theorem zT {p:Prop} (h:p:=by ( have z:=hE.e3 om; refine aO ?_; omega)):p:=h
theorem zU {p:Prop} (h:p:=by ( have z:=hE.e4 om; refine aO ?_; omega)):p:=h
theorem HM {p:Prop} (h:p:=by show (!decide _) = true; rw [decide_eq_false (show ¬ HN W X _ _ < 0 from hp)]; rfl):p:=h
theorem Cw {p:Prop} (h:p:=by show ¬ (!decide _) = true; rw [decide_eq_true (show HN W X _ _ < 0 from hp)]; decide):p:=h
theorem Cy {p:Prop} (h:p:=by ( exact J8 (u:=0 + (((x:Int) + (y:Int)) / 2).toNat * 1) (v:=0 + (((a:Int) + (b:Int)) / 2 + (m:Int) - 1 - ((x:Int) + (y:Int)) / 2).toNat * 1) hR om om om om bt)):p:=h
theorem Cz {p:Prop} (h:p:=by ( exact J9 (u:=0 + (((x:Int) + (y:Int)) / 2).toNat * 1) (v:=0 + (((a:Int) + (b:Int)) / 2 + (m:Int) - 1 - ((x:Int) + (y:Int)) / 2).toNat * 1) hR om om om om bt)):p:=h
def gf (p:Nat → Bool):Nat → Nat → Nat → Nat
 | 0,i,_=>i
 | f + 1,i,j=>if i < j then (if p ((i + j) / 2) = true then gf p f ((i + j) / 2 + 1) j else gf p f i ((i + j) / 2)) else i
theorem xm {p:Nat → Bool} {f i j T:Nat} (hR:gf p f i j = T) (h:¬ i < j):i = T:=by
 rw [← hR]; cases f with
 | zero=>rfl
 | succ f=>exact (if_neg h).symm
theorem EC {p:Nat → Bool} {f i j T:Nat} (hR:gf p f i j = T) (hf:j - i ≤ f) (h:i < j) (hp:p ((i + j) / 2) = true):gf p (f - 1) ((i + j) / 2 + 1) j = T:=by
 obtain ⟨g,rfl⟩:∃ g,f = g + 1:=⟨f - 1,by omega⟩
 rw [← hR]; exact ((if_pos h).trans (if_pos hp)).symm
theorem ED {p:Nat → Bool} {f i j T:Nat} (hR:gf p f i j = T) (hf:j - i ≤ f) (h:i < j) (hp:¬ p ((i + j) / 2) = true):gf p (f - 1) i ((i + j) / 2) = T:=by
 obtain ⟨g,rfl⟩:∃ g,f = g + 1:=⟨f - 1,by omega⟩
 rw [← hR]; exact ((if_pos h).trans (if_neg hp)).symm
theorem lK {p:Nat → Bool}:∀ (f i j:Nat),i ≤ j → i ≤ gf p f i j ∧ gf p f i j ≤ j
 | 0,i,j,h=>⟨Nat.le_refl _,h⟩
 | f + 1,i,j,h=>by
  rw [gf]; split
  ·split
   ·have:=lK (p:=p) f ((i + j) / 2 + 1) j (by omega); omega
   ·have:=lK (p:=p) f i ((i + j) / 2) (by omega); omega
  ·exact ⟨Nat.le_refl _,h⟩
def HN (W X:List Nat) (u v:Nat):Int:=mb (W.getD (X.getD u default) default) (W.getD (X.getD v default) default)
def qA (W X:List Nat) (a h:Nat):Bool:=decide (HN W X h a < 0)
def qB (W X:List Nat) (m h:Nat):Bool:=!decide (HN W X m h < 0)
def qC (W X:List Nat) (q c:Nat):Bool:=!decide (HN W X (q - c) c < 0)
section
variable {W X:List Nat} {f x y T a u v:Nat}
theorem J4 (hR:gf (qA W X a) f x y = T) (hf:y - x ≤ f) (h:x < y) (hu:u = (x + y) / 2) (hv:v = a) (hp:mb (W.getD (X.getD u default) default) (W.getD (X.getD v default) default) < 0):gf (qA W X a) (f - 1) ((x + y) / 2 + 1) y = T:=by
 subst hu hv; exact EC hR hf h (decide_eq_true hp)
theorem J5 (hR:gf (qA W X a) f x y = T) (hf:y - x ≤ f) (h:x < y) (hu:u = (x + y) / 2) (hv:v = a) (hp:¬ mb (W.getD (X.getD u default) default) (W.getD (X.getD v default) default) < 0):gf (qA W X a) (f - 1) x ((x + y) / 2) = T:=by
 subst hu hv; exact ED hR hf h (fun q=>hp (of_decide_eq_true q))
theorem J6 (hR:gf (qB W X a) f x y = T) (hf:y - x ≤ f) (h:x < y) (hu:u = (x + y) / 2) (hv:v = a) (hp:¬ mb (W.getD (X.getD v default) default) (W.getD (X.getD u default) default) < 0):gf (qB W X a) (f - 1) ((x + y) / 2 + 1) y = T:=by
 subst hu hv; exact EC hR hf h HM
theorem J7 (hR:gf (qB W X a) f x y = T) (hf:y - x ≤ f) (h:x < y) (hu:u = (x + y) / 2) (hv:v = a) (hp:mb (W.getD (X.getD v default) default) (W.getD (X.getD u default) default) < 0):gf (qB W X a) (f - 1) x ((x + y) / 2) = T:=by
 subst hu hv; exact ED hR hf h Cw
theorem J8 (hR:gf (qC W X a) f x y = T) (hf:y - x ≤ f) (h:x < y) (hu:u = (x + y) / 2) (hv:v = a - (x + y) / 2) (hp:¬ mb (W.getD (X.getD v default) default) (W.getD (X.getD u default) default) < 0):gf (qC W X a) (f - 1) ((x + y) / 2 + 1) y = T:=by
 subst hu hv; exact EC hR hf h HM
theorem J9 (hR:gf (qC W X a) f x y = T) (hf:y - x ≤ f) (h:x < y) (hu:u = (x + y) / 2) (hv:v = a - (x + y) / 2) (hp:mb (W.getD (X.getD v default) default) (W.getD (X.getD u default) default) < 0):gf (qC W X a) (f - 1) x ((x + y) / 2) = T:=by
 subst hu hv; exact ED hR hf h Cw
end
def HO (X:List Nat) (a:Nat):Nat → List Nat
 | 0=>X
 | k + 1=>swp (HO X a k) (a + k) (a + k + 1)
def HP (X:List Nat) (m:Nat):Nat → List Nat
 | 0=>X
 | k + 1=>swp (HP X m k) (m - k) (m - k - 1)
theorem tN (X:List Nat) (a:Nat):∀ k,(HO X a k).length = X.length
 | 0=>rfl
 | k + 1=>by rw [HO,fY,tN X a k]
theorem tO (X:List Nat) (a:Nat):∀ k,(HP X a k).length = X.length
 | 0=>rfl
 | k + 1=>by rw [HP,fY,tO X a k]
def gB (X:List Nat) (a k:Nat):List Nat:=lk X (HO X a k)
def gC (X:List Nat) (m k:Nat):List Nat:=lk X (HP X m k)
theorem oz (X:List Nat) (a k:Nat):gB X a k = HO X a k:=aF _ _
theorem oD (X:List Nat) (a k:Nat):gC X a k = HP X a k:=aF _ _
theorem CA (X:List Nat) (a:Nat):gB X a 0 = X:=oz X a 0
theorem CB (X:List Nat) (a:Nat):gC X a 0 = X:=oD X a 0
theorem fZ (X:List Nat) (a k:Nat):(gB X a k).length = X.length:=by rw [oz,tN]
theorem f6 (X:List Nat) (a k:Nat):(gC X a k).length = X.length:=by rw [oD,tO]
theorem CC (X:List Nat) (a k:Nat):swp (gB X a k) (a + k) (a + k + 1) = gB X a (k + 1):=by rw [oz,oz]; rfl
theorem CD (X:List Nat) (a k:Nat):swp (gC X a k) (a - k) (a - k - 1) = gC X a (k + 1):=by rw [oD,oD]; rfl
theorem Ka (X:List Nat) (N:Nat) (hN:N = X.length) (hN2:N ≤ 1000) (W:List Nat) (L:Nat) (hL:L = W.length) (hA:bu L X) (a m b:Nat) (h1:a < m) (h2:m < b) (h3:b ≤ N) (hm:m = a + 1) (i:Nat) (hi:gf (qA W X a) (b - m) m b = i) (hi2:m ≤ i ∧ i ≤ b):SpecH true Tryz.prog 197 [.ref 0 0 0 N 1,nD a,nD m,nD b,.fn (.func 175) [] [.ptr 1 1 0]] [⟨X.map nD, 3, true⟩,⟨[.sl false L 1 (W.map nD)], 152, false⟩] (.tup []) [⟨(gB X a (i - 1 - a)).map nD, 3, true⟩,⟨[.sl false L 1 (W.map nD)], 152, false⟩]:=by
 refine SpecH.run T_ok ah Tryz.func197 rfl rfl rfl ⟨lv _,rfl,trivial⟩ rfl 1000 64 (fun R ok=>(.s 4 (.ow ((↑m:Int) - (↑a:Int)) (.s 2 (.t ((↑m:Int) - (↑a:Int) == 1) dE (.s 4 (Hn.inl T_ok ah false 220 2 (aA Tryz.prog 197 0) (fun (x:(x:Nat) ×' (y:Nat) ×' (f:Nat) ×' (hx:m ≤ x ∧ x ≤ y ∧ y ≤ b) ×' (hf:y - x ≤ f) ×' (hR:gf (qA W X a) f x y = i) ×' Unit)=>match x with | ⟨x,y,f,hx,hf,hR,_⟩=>CutS.mk [(0,D.ref 0 0 0 N 1),(1,nD a),(4,D.fn (Fn.func 175) [] [D.ptr 1 1 0]),(10,nD x),(11,nD y)] [⟨0,0,0,0,.b ⟨map nD X,3,true⟩⟩,⟨1,1,1,1,.b ⟨[D.sl false L 1 (map nD W)],152,false⟩⟩] 24) (fun (x:(x:Nat) ×' (y:Nat) ×' (f:Nat) ×' (hx:m ≤ x ∧ x ≤ y ∧ y ≤ b) ×' (hf:y - x ≤ f) ×' (hR:gf (qA W X a) f x y = i) ×' Unit)=>match x with | ⟨x,y,f,hx,hf,hR,_⟩=>y - x) [⟨Unit,.exit 0,fun x=>match x with | ()=>CutS.mk [(0,D.ref 0 0 0 N 1),(1,nD a),(4,D.fn (Fn.func 175) [] [D.ptr 1 1 0]),(10,nD i),(11,nD i)] [⟨0,0,0,0,.b ⟨map nD X,3,true⟩⟩,⟨1,1,1,1,.b ⟨[D.sl false L 1 (map nD W)],152,false⟩⟩] 24⟩] 1000 64 (fun | ⟨x,y,f,hx,hf,hR,_⟩,Q,next1,last1=>(.s 4 (.br (decide ((↑x:Int) < (↑y:Int))) (fun p0=>have p0f:=aS p0; (.s 4 (.ow ((↑x:Int) + (↑y:Int)) (.s 1 (.opt (az .u64 ((↑x:Int) + (↑y:Int))) (D.v (Value.int .u64 ((↑x:Int) + (↑y:Int)))) (bl om) (.s 2 (.opt (bi IntKind.u64 (Int.fdiv ((↑x:Int) + (↑y:Int)) 2)) (D.v (Value.int .u64 (((↑x:Int) + (↑y:Int)) / 2))) (ay (@fT  ((↑x:Int) + (↑y:Int)) (2) om)) (.s 1 (.ow (((↑x:Int) + (↑y:Int)) / 2) (.s 6 (.chk (true && decide (((↑x:Int) + (↑y:Int)) / 2 < (↑N:Int))) dE (.s 2 (.opt ((map nD X)[0 + Int.toNat (((↑x:Int) + (↑y:Int)) / 2) * 1]?) (nD (getD X (0 + Int.toNat (((↑x:Int) + (↑y:Int)) / 2) * 1) default)) (av _ _ om) (.s 3 (.chk (true && decide ((↑a:Int) < (↑N:Int))) dE (.s 2 (.opt ((map nD X)[0 + a * 1]?) (nD (getD X (0 + a * 1) default)) (av _ _ om) (.s 1 (.cl 175 true [1] (.fn wN (@qt (W) (L) om (getD X (0 + Int.toNat (((↑x:Int) + (↑y:Int)) / 2) * 1) default) (getD X (0 + a * 1) default) (by ( exact hA.at om)) (by ( exact hA.at om)))) (.s 2 (.br (decide (mb (getD W (getD X (0 + Int.toNat (((↑x:Int) + (↑y:Int)) / 2) * 1) default) default) (getD W (getD X (0 + a * 1) default) default) < 0)) (fun p1=>have p1f:=aS p1; (.s 3 (.ow (((↑x:Int) + (↑y:Int)) / 2 + 1) (.s 1 (.val 10 (iD (((↑x:Int) + (↑y:Int)) / 2 + 1)) (nD ((x + y) / 2 + 1)) qu (Hn.next next1 ⟨((x + y) / 2 + 1),(y),(f - 1),om,om,(by ( exact J4 (u:=0 + (((x:Int) + (y:Int)) / 2).toNat * 1) (v:=0 + a * 1) hR om om om om bt)),⟨⟩⟩ zP [(0,0),(1,1)] ro)))))) (fun p1=>have p1f:=aT p1; (.s 2 (.val 11 (iD (((↑x:Int) + (↑y:Int)) / 2)) (nD ((x + y) / 2)) qu (Hn.next next1 ⟨(x),((x + y) / 2),(f - 1),om,om,(by ( exact J5 (u:=0 + (((x:Int) + (y:Int)) / 2).toNat * 1) (v:=0 + a * 1) hR om om om om bt)),⟨⟩⟩ zQ [(0,0),(1,1)] ro))))))))))))))))))))))))) (fun p0=>have p0f:=aT p0; (.val 10 (nD x) (nD i) (by ( rw [xm hR om])) (.val 11 (nD y) (nD i) zR (Hn.last last1 0 (():Unit) rfl [(0,0),(1,1)] ro))))))) (fun | ⟨x,y,f,hx,hf,hR,_⟩=>by kernel_rfl) ⟨(m),(b),(b - m),om,om,om,⟨⟩⟩ [(0,0),(1,1)] ro (cb (fun | ()=>(.s 2 (.val 13 (nD a) (nD (a + 0)) qu (.blk 0 0 (Blk.mk (map nD X) 3 true) (Blk.mk (map nD (gB X a 0)) 3 true) (by (rw [CA]; done)) (Hn.inl T_ok ah false 220 2 (aA Tryz.prog 197 1) (fun (x:(k:Nat) ×' (hk:a + k ≤ i - 1) ×' Unit)=>match x with | ⟨k,hk,_⟩=>CutS.mk [(0,D.ref 0 0 0 N 1),(10,nD i),(13,nD (a + k))] [⟨0,0,0,0,.b ⟨(gB X a k).map nD,3,true⟩⟩,⟨1,1,1,1,.b ⟨[D.sl false L 1 (map nD W)],152,false⟩⟩] 24) (fun (x:(k:Nat) ×' (hk:a + k ≤ i - 1) ×' Unit)=>match x with | ⟨k,hk,_⟩=>i - 1 - a - k) [⟨Unit,.exit 2,fun x=>match x with | ()=>CutS.mk [(0,D.ref 0 0 0 N 1),(10,nD i)] [⟨0,0,0,0,.b ⟨(gB X a (i - 1 - a)).map nD,3,true⟩⟩,⟨1,1,1,1,.b ⟨[D.sl false L 1 (map nD W)],152,false⟩⟩] 24⟩] 1000 64 (fun | ⟨k,hk,_⟩,Q,next1,last1=>(.s 4 (.ow ((↑i:Int) - 1) (.s 2 (.br (decide ((↑(a + k):Int) < (↑i:Int) - 1)) (fun p2=>have p2f:=aS p2; (.s 7 (.ow ((↑(a + k):Int) + 1) (.s 4 (.ow ((↑(a + k):Int) + 1) (.s 1 (.chk (true && decide ((↑(a + k):Int) + 1 < (↑N:Int))) dE (.s 2 (.opt ((map nD (gB X a k))[0 + Int.toNat ((↑(a + k):Int) + 1) * 1]?) (nD (getD (gB X a k) (0 + Int.toNat ((↑(a + k):Int) + 1) * 1) default)) (av _ _ (by ( have h9:=fZ X a k; omega))) (.s 3 (.chk (true && decide ((↑(a + k):Int) < (↑N:Int))) dE (.s 2 (.opt ((map nD (gB X a k))[0 + (a + k) * 1]?) (nD (getD (gB X a k) (0 + (a + k) * 1) default)) (av _ _ (by ( have h9:=fZ X a k; omega))) (.s 1 (.chk (true && decide ((↑(a + k):Int) < (↑N:Int))) dE (.s 1 (.chk (true && Nat.ble (0 + (a + k) * 1 + 1) (length (map nD (gB X a k)))) (by (simp;  have h9:=fZ X a k; omega)) (.lst (ai (map nD (gB X a k)) (0 + (a + k) * 1) [nD (getD (gB X a k) (0 + Int.toNat ((↑(a + k):Int) + 1) * 1) default)]) (ai (map nD (gB X a k)) (a + k) [nD (getD (gB X a k) (Int.toNat ((↑(a + k):Int) + 1)) default)]) (by (simp; done)) (.s 1 (.chk (true && decide ((↑(a + k):Int) + 1 < (↑N:Int))) dE (.s 1 (.chk (true && Nat.ble (0 + Int.toNat ((↑(a + k):Int) + 1) * 1 + 1) (length (ai (map nD (gB X a k)) (a + k) [nD (getD (gB X a k) (Int.toNat ((↑(a + k):Int) + 1)) default)]))) (by ( have h9:=fZ X a k; exact zO om om)) (.lst (ai (ai (map nD (gB X a k)) (a + k) [nD (getD (gB X a k) (Int.toNat ((↑(a + k):Int) + 1)) default)]) (0 + Int.toNat ((↑(a + k):Int) + 1) * 1) [nD (getD (gB X a k) (0 + (a + k) * 1) default)]) (ai (ai (map nD (gB X a k)) (a + k) [nD (getD (gB X a k) (Int.toNat ((↑(a + k):Int) + 1)) default)]) (Int.toNat ((↑(a + k):Int) + 1)) [nD (getD (gB X a k) (a + k) default)]) (by (simp; done)) (.s 3 (.ow ((↑(a + k):Int) + 1) (.s 1 (.val 13 (iD ((↑(a + k):Int) + 1)) (nD (a + (k + 1))) qu (.blk 0 0 (Blk.mk (ai (ai (map nD (gB X a k)) (a + k) [nD (getD (gB X a k) (Int.toNat ((↑(a + k):Int) + 1)) default)]) (Int.toNat ((↑(a + k):Int) + 1)) [nD (getD (gB X a k) (a + k) default)]) 3 true) (Blk.mk (map nD (gB X a (k + 1))) 3 true) (by ( have h9:=fZ X a k; exact aC (Eq.trans (tI (i:=a + k) (j:=a + k + 1) om om om om om om) (by rw [CC])))) (Hn.next next1 ⟨(k + 1),om,⟨⟩⟩ (by show i - 1 - a - (k + 1) < i - 1 - a - k; clear next1 last1; omega) [(0,0),(1,1)] ro))))))))))))))))))))))))))))) (fun p2=>have p2f:=aT p2; (.blk 0 0 (Blk.mk (map nD (gB X a k)) 3 true) (Blk.mk (map nD (gB X a (i - 1 - a))) 3 true) (by ( rw [show k = i - 1 - a from by omega])) (Hn.last last1 0 (():Unit) rfl [(0,0),(1,1)] ro)))))))) (fun | ⟨k,hk,_⟩=>by kernel_rfl) ⟨(0),om,⟨⟩⟩ [(0,0),(1,1)] ro (cb (fun | ()=>(.out [0,1] [0,1] (D.tup []) [Blk.mk (map nD (gB X a (i - 1 - a))) 3 true,Blk.mk [D.sl false L 1 (map nD W)] 152 false] R (ok _ _ wr wr))))))))))))))))) (by kernel_rfl)
theorem Kb (X:List Nat) (N:Nat) (hN:N = X.length) (hN2:N ≤ 1000) (W:List Nat) (L:Nat) (hL:L = W.length) (hA:bu L X) (a m b:Nat) (h1:a < m) (h2:m < b) (h3:b ≤ N) (hm:m ≠ a + 1) (hb:b = m + 1) (i:Nat) (hi:gf (qB W X m) (m - a) a m = i) (hi2:a ≤ i ∧ i ≤ m):SpecH true Tryz.prog 197 [.ref 0 0 0 N 1,nD a,nD m,nD b,.fn (.func 175) [] [.ptr 1 1 0]] [⟨X.map nD, 3, true⟩,⟨[.sl false L 1 (W.map nD)], 152, false⟩] (.tup []) [⟨(gC X m (m - i)).map nD, 3, true⟩,⟨[.sl false L 1 (W.map nD)], 152, false⟩]:=by
 refine SpecH.run T_ok ah Tryz.func197 rfl rfl rfl ⟨lv _,rfl,trivial⟩ rfl 1000 64 (fun R ok=>(.s 4 (.ow ((↑m:Int) - (↑a:Int)) (.s 2 (.f ((↑m:Int) - (↑a:Int) == 1) oy (.s 4 (.ow ((↑b:Int) - (↑m:Int)) (.s 2 (.t ((↑b:Int) - (↑m:Int) == 1) dE (.s 4 (Hn.inl T_ok ah false 220 2 (aA Tryz.prog 197 2) (fun (x:(x:Nat) ×' (y:Nat) ×' (f:Nat) ×' (hx:a ≤ x ∧ x ≤ y ∧ y ≤ m) ×' (hf:y - x ≤ f) ×' (hR:gf (qB W X m) f x y = i) ×' Unit)=>match x with | ⟨x,y,f,hx,hf,hR,_⟩=>CutS.mk [(0,D.ref 0 0 0 N 1),(2,nD m),(4,D.fn (Fn.func 175) [] [D.ptr 1 1 0]),(14,nD x),(15,nD y)] [⟨0,0,0,0,.b ⟨map nD X,3,true⟩⟩,⟨1,1,1,1,.b ⟨[D.sl false L 1 (map nD W)],152,false⟩⟩] 24) (fun (x:(x:Nat) ×' (y:Nat) ×' (f:Nat) ×' (hx:a ≤ x ∧ x ≤ y ∧ y ≤ m) ×' (hf:y - x ≤ f) ×' (hR:gf (qB W X m) f x y = i) ×' Unit)=>match x with | ⟨x,y,f,hx,hf,hR,_⟩=>y - x) [⟨Unit,.exit 4,fun x=>match x with | ()=>CutS.mk [(0,D.ref 0 0 0 N 1),(2,nD m),(4,D.fn (Fn.func 175) [] [D.ptr 1 1 0]),(14,nD i),(15,nD i)] [⟨0,0,0,0,.b ⟨map nD X,3,true⟩⟩,⟨1,1,1,1,.b ⟨[D.sl false L 1 (map nD W)],152,false⟩⟩] 24⟩] 1000 64 (fun | ⟨x,y,f,hx,hf,hR,_⟩,Q,next1,last1=>(.s 4 (.br (decide ((↑x:Int) < (↑y:Int))) (fun p0=>have p0f:=aS p0; (.s 4 (.ow ((↑x:Int) + (↑y:Int)) (.s 1 (.opt (az .u64 ((↑x:Int) + (↑y:Int))) (D.v (Value.int .u64 ((↑x:Int) + (↑y:Int)))) (bl om) (.s 2 (.opt (bi IntKind.u64 (Int.fdiv ((↑x:Int) + (↑y:Int)) 2)) (D.v (Value.int .u64 (((↑x:Int) + (↑y:Int)) / 2))) (ay (@fT  ((↑x:Int) + (↑y:Int)) (2) om)) (.s 1 (.ow (((↑x:Int) + (↑y:Int)) / 2) (.s 6 (.chk (true && decide ((↑m:Int) < (↑N:Int))) dE (.s 2 (.opt ((map nD X)[0 + m * 1]?) (nD (getD X (0 + m * 1) default)) (av _ _ om) (.s 3 (.chk (true && decide (((↑x:Int) + (↑y:Int)) / 2 < (↑N:Int))) dE (.s 2 (.opt ((map nD X)[0 + Int.toNat (((↑x:Int) + (↑y:Int)) / 2) * 1]?) (nD (getD X (0 + Int.toNat (((↑x:Int) + (↑y:Int)) / 2) * 1) default)) (av _ _ om) (.s 1 (.cl 175 true [1] (.fn wN (@qt (W) (L) om (getD X (0 + m * 1) default) (getD X (0 + Int.toNat (((↑x:Int) + (↑y:Int)) / 2) * 1) default) (by ( exact hA.at om)) (by ( exact hA.at om)))) (.s 3 (.br (!decide (mb (getD W (getD X (0 + m * 1) default) default) (getD W (getD X (0 + Int.toNat (((↑x:Int) + (↑y:Int)) / 2) * 1) default) default) < 0)) (fun p1=>have p1f:=aT (cY p1); (.s 3 (.ow (((↑x:Int) + (↑y:Int)) / 2 + 1) (.s 1 (.val 14 (iD (((↑x:Int) + (↑y:Int)) / 2 + 1)) (nD ((x + y) / 2 + 1)) qu (Hn.next next1 ⟨((x + y) / 2 + 1),(y),(f - 1),om,om,(by ( exact J6 (u:=0 + (((x:Int) + (y:Int)) / 2).toNat * 1) (v:=0 + m * 1) hR om om om om bt)),⟨⟩⟩ zP [(0,0),(1,1)] ro)))))) (fun p1=>have p1f:=aS (cZ p1); (.s 2 (.val 15 (iD (((↑x:Int) + (↑y:Int)) / 2)) (nD ((x + y) / 2)) qu (Hn.next next1 ⟨(x),((x + y) / 2),(f - 1),om,om,(by ( exact J7 (u:=0 + (((x:Int) + (y:Int)) / 2).toNat * 1) (v:=0 + m * 1) hR om om om om bt)),⟨⟩⟩ zQ [(0,0),(1,1)] ro))))))))))))))))))))))))) (fun p0=>have p0f:=aT p0; (.val 14 (nD x) (nD i) (by ( rw [xm hR om])) (.val 15 (nD y) (nD i) zR (Hn.last last1 0 (():Unit) rfl [(0,0),(1,1)] ro))))))) (fun | ⟨x,y,f,hx,hf,hR,_⟩=>by kernel_rfl) ⟨(a),(m),(m - a),om,om,om,⟨⟩⟩ [(0,0),(1,1)] ro (cb (fun | ()=>(.s 2 (.val 17 (nD m) (nD (m - 0)) qu (.blk 0 0 (Blk.mk (map nD X) 3 true) (Blk.mk (map nD (gC X m 0)) 3 true) (by (rw [CB]; done)) (Hn.inl T_ok ah false 220 2 (aA Tryz.prog 197 3) (fun (x:(k:Nat) ×' (hk:k ≤ m - i) ×' Unit)=>match x with | ⟨k,hk,_⟩=>CutS.mk [(0,D.ref 0 0 0 N 1),(14,nD i),(17,nD (m - k))] [⟨0,0,0,0,.b ⟨(gC X m k).map nD,3,true⟩⟩,⟨1,1,1,1,.b ⟨[D.sl false L 1 (map nD W)],152,false⟩⟩] 24) (fun (x:(k:Nat) ×' (hk:k ≤ m - i) ×' Unit)=>match x with | ⟨k,hk,_⟩=>m - i - k) [⟨Unit,.exit 6,fun x=>match x with | ()=>CutS.mk [(0,D.ref 0 0 0 N 1),(14,nD i)] [⟨0,0,0,0,.b ⟨(gC X m (m - i)).map nD,3,true⟩⟩,⟨1,1,1,1,.b ⟨[D.sl false L 1 (map nD W)],152,false⟩⟩] 24⟩] 1000 64 (fun | ⟨k,hk,_⟩,Q,next1,last1=>(.s 4 (.br (decide ((↑i:Int) < (↑(m - k):Int))) (fun p2=>have p2f:=aS p2; (.s 7 (.ow ((↑(m - k):Int) - 1) (.s 4 (.ow ((↑(m - k):Int) - 1) (.s 1 (.chk (decide (0 ≤ (↑(m - k):Int) - 1) && decide ((↑(m - k):Int) - 1 < (↑N:Int))) zS (.s 2 (.opt ((map nD (gC X m k))[0 + Int.toNat ((↑(m - k):Int) - 1) * 1]?) (nD (getD (gC X m k) (0 + Int.toNat ((↑(m - k):Int) - 1) * 1) default)) (av _ _ (by ( have h9:=f6 X m k; omega))) (.s 3 (.chk (true && decide ((↑(m - k):Int) < (↑N:Int))) dE (.s 2 (.opt ((map nD (gC X m k))[0 + (m - k) * 1]?) (nD (getD (gC X m k) (0 + (m - k) * 1) default)) (av _ _ (by ( have h9:=f6 X m k; omega))) (.s 1 (.chk (true && decide ((↑(m - k):Int) < (↑N:Int))) dE (.s 1 (.chk (true && Nat.ble (0 + (m - k) * 1 + 1) (length (map nD (gC X m k)))) (by (simp;  have h9:=f6 X m k; omega)) (.lst (ai (map nD (gC X m k)) (0 + (m - k) * 1) [nD (getD (gC X m k) (0 + Int.toNat ((↑(m - k):Int) - 1) * 1) default)]) (ai (map nD (gC X m k)) (m - k) [nD (getD (gC X m k) (Int.toNat ((↑(m - k):Int) - 1)) default)]) (by (simp; done)) (.s 1 (.chk (decide (0 ≤ (↑(m - k):Int) - 1) && decide ((↑(m - k):Int) - 1 < (↑N:Int))) zS (.s 1 (.chk (true && Nat.ble (0 + Int.toNat ((↑(m - k):Int) - 1) * 1 + 1) (length (ai (map nD (gC X m k)) (m - k) [nD (getD (gC X m k) (Int.toNat ((↑(m - k):Int) - 1)) default)]))) (by ( have h9:=f6 X m k; exact zO om om)) (.lst (ai (ai (map nD (gC X m k)) (m - k) [nD (getD (gC X m k) (Int.toNat ((↑(m - k):Int) - 1)) default)]) (0 + Int.toNat ((↑(m - k):Int) - 1) * 1) [nD (getD (gC X m k) (0 + (m - k) * 1) default)]) (ai (ai (map nD (gC X m k)) (m - k) [nD (getD (gC X m k) (Int.toNat ((↑(m - k):Int) - 1)) default)]) (Int.toNat ((↑(m - k):Int) - 1)) [nD (getD (gC X m k) (m - k) default)]) (by (simp; done)) (.s 3 (.ow ((↑(m - k):Int) - 1) (.s 1 (.val 17 (iD ((↑(m - k):Int) - 1)) (nD (m - (k + 1))) qu (.blk 0 0 (Blk.mk (ai (ai (map nD (gC X m k)) (m - k) [nD (getD (gC X m k) (Int.toNat ((↑(m - k):Int) - 1)) default)]) (Int.toNat ((↑(m - k):Int) - 1)) [nD (getD (gC X m k) (m - k) default)]) 3 true) (Blk.mk (map nD (gC X m (k + 1))) 3 true) (by ( have h9:=f6 X m k; exact aC (Eq.trans (tI (i:=m - k) (j:=m - k - 1) om om om om om om) (by rw [CD])))) (Hn.next next1 ⟨(k + 1),om,⟨⟩⟩ (by show m - i - (k + 1) < m - i - k; clear next1 last1; omega) [(0,0),(1,1)] ro))))))))))))))))))))))))))))) (fun p2=>have p2f:=aT p2; (.blk 0 0 (Blk.mk (map nD (gC X m k)) 3 true) (Blk.mk (map nD (gC X m (m - i))) 3 true) (by ( rw [show k = m - i from by omega])) (Hn.last last1 0 (():Unit) rfl [(0,0),(1,1)] ro)))))) (fun | ⟨k,hk,_⟩=>by kernel_rfl) ⟨(0),om,⟨⟩⟩ [(0,0),(1,1)] ro (cb (fun | ()=>(.out [0,1] [0,1] (D.tup []) [Blk.mk (map nD (gC X m (m - i))) 3 true,Blk.mk [D.sl false L 1 (map nD W)] 152 false] R (ok _ _ wr wr))))))))))))))))))))) (by kernel_rfl)
structure RtH (W:List Nat) (L N:Nat) (X:List Nat) (a m b:Nat) (X1:List Nat):Prop where
 h:∀ (Y:List Nat) (x y z:Int),Y = X → x = a → y = m → z = b → SpecH true Tryz.prog 200 [.ref 0 0 0 N 1,iD x,iD y,iD z,.fn (.func 175) [] [.ptr 1 1 0]] [⟨Y.map nD, 3, true⟩,⟨[.sl false L 1 (W.map nD)], 152, false⟩] (.tup []) [⟨X1.map nD, 3, true⟩,⟨[.sl false L 1 (W.map nD)], 152, false⟩]
structure SaH (W:List Nat) (L N:Nat) (X:List Nat) (a m b:Nat) (X1:List Nat):Prop where
 h:∀ (Y:List Nat) (x y z:Int),Y = X → x = a → y = m → z = b → SpecH true Tryz.prog 197 [.ref 0 0 0 N 1,iD x,iD y,iD z,.fn (.func 175) [] [.ptr 1 1 0]] [⟨Y.map nD, 3, true⟩,⟨[.sl false L 1 (W.map nD)], 152, false⟩] (.tup []) [⟨X1.map nD, 3, true⟩,⟨[.sl false L 1 (W.map nD)], 152, false⟩]
structure SbH (W:List Nat) (L N:Nat) (X:List Nat) (a m b:Nat) (X1:List Nat):Prop where
 h:∀ (Y:List Nat) (x y z:Int),Y = X → x = a → y = m → z = b → SpecH true Tryz.prog 197 [.ref 0 0 0 N 1,iD x,iD y,iD z,.fn (.func 175) [] [.ptr 1 1 0]] [⟨Y.map nD, 3, true⟩,⟨[.sl false L 1 (W.map nD)], 152, false⟩] (.tup []) [⟨X1.map nD, 3, true⟩,⟨[.sl false L 1 (W.map nD)], 152, false⟩]
structure SmE (W:List Nat) (L N:Nat) (X X1 X2 T:List Nat) (a m b mid q st en s0 r0:Nat):Prop where
 r:st < m → m < en → RtH W L N X st m en X1
 r0' : (st < m → m < en → False) → X = X1
 s:a < st → st < mid → SaH W L N X1 a st mid X2
 s0' : (a < st → st < mid → False) → X1 = X2
 t:mid < en → en < b → SbH W L N X2 mid en b T
 t0' : (mid < en → en < b → False) → X2 = T
 e3:mid < m → s0 = q - b ∧ r0 = mid
 e4:m ≤ mid → s0 = a ∧ r0 = m
section
variable {W:List Nat} {L N:Nat} {X X1 X2 T:List Nat} {a m b mid q st en s0 r0:Nat} (h:SmE W L N X X1 X2 T a m b mid q st en s0 r0)
include h
theorem SmE.rp (c1:st < m) (c2:m < en) (Y:List Nat) (x y z:Int) (hY:Y = X) (hx:x = st) (hy:y = m) (hz:z = en):SpecH true Tryz.prog 200 [.ref 0 0 0 N 1,iD x,iD y,iD z,.fn (.func 175) [] [.ptr 1 1 0]] [⟨Y.map nD, 3, true⟩,⟨[.sl false L 1 (W.map nD)], 152, false⟩] (.tup []) [⟨X1.map nD, 3, true⟩,⟨[.sl false L 1 (W.map nD)], 152, false⟩]:=(h.r c1 c2).h Y x y z hY hx hy hz
theorem SmE.sp (c1:a < st) (c2:st < mid) (Y:List Nat) (x y z:Int) (hY:Y = X1) (hx:x = a) (hy:y = st) (hz:z = mid):SpecH true Tryz.prog 197 [.ref 0 0 0 N 1,iD x,iD y,iD z,.fn (.func 175) [] [.ptr 1 1 0]] [⟨Y.map nD, 3, true⟩,⟨[.sl false L 1 (W.map nD)], 152, false⟩] (.tup []) [⟨X2.map nD, 3, true⟩,⟨[.sl false L 1 (W.map nD)], 152, false⟩]:=(h.s c1 c2).h Y x y z hY hx hy hz
theorem SmE.tp (c1:mid < en) (c2:en < b) (Y:List Nat) (x y z:Int) (hY:Y = X2) (hx:x = mid) (hy:y = en) (hz:z = b):SpecH true Tryz.prog 197 [.ref 0 0 0 N 1,iD x,iD y,iD z,.fn (.func 175) [] [.ptr 1 1 0]] [⟨Y.map nD, 3, true⟩,⟨[.sl false L 1 (W.map nD)], 152, false⟩] (.tup []) [⟨T.map nD, 3, true⟩,⟨[.sl false L 1 (W.map nD)], 152, false⟩]:=(h.t c1 c2).h Y x y z hY hx hy hz
end
theorem Kc (X:List Nat) (N:Nat) (hN:N = X.length) (hN2:N ≤ 1000) (W:List Nat) (L:Nat) (hL:L = W.length) (hA:bu L X) (a m b:Nat) (h1:a < m) (h2:m < b) (h3:b ≤ N) (hm:m ≠ a + 1) (hb:b ≠ m + 1) (X1 X2 T:List Nat) (mid q st en:Nat) (e1:mid = (a + b) / 2) (e2:q = mid + m) (s0 r0:Nat) (hs0:s0 ≤ r0 ∧ r0 ≤ m ∧ a ≤ s0 ∧ q ≤ s0 + b) (hi:gf (qC W X (q - 1)) (r0 - s0) s0 r0 = st) (hi2:s0 ≤ st ∧ st ≤ r0) (e5:en = q - st) (hE:SmE W L N X X1 X2 T a m b mid q st en s0 r0):SpecH true Tryz.prog 197 [.ref 0 0 0 N 1,nD a,nD m,nD b,.fn (.func 175) [] [.ptr 1 1 0]] [⟨X.map nD, 3, true⟩,⟨[.sl false L 1 (W.map nD)], 152, false⟩] (.tup []) [⟨(T).map nD, 3, true⟩,⟨[.sl false L 1 (W.map nD)], 152, false⟩]:=by
 refine SpecH.run T_ok ah Tryz.func197 rfl rfl rfl ⟨lv _,rfl,trivial⟩ rfl 1000 64 (fun R ok=>(.s 4 (.ow ((↑m:Int) - (↑a:Int)) (.s 2 (.f ((↑m:Int) - (↑a:Int) == 1) oy (.s 4 (.ow ((↑b:Int) - (↑m:Int)) (.s 2 (.f ((↑b:Int) - (↑m:Int) == 1) oy (.s 4 (.ow ((↑a:Int) + (↑b:Int)) (.s 1 (.opt (az .u64 ((↑a:Int) + (↑b:Int))) (D.v (Value.int .u64 ((↑a:Int) + (↑b:Int)))) (bl om) (.s 2 (.opt (bi IntKind.u64 (Int.fdiv ((↑a:Int) + (↑b:Int)) 2)) (D.v (Value.int .u64 (((↑a:Int) + (↑b:Int)) / 2))) (ay (@fT  ((↑a:Int) + (↑b:Int)) (2) om)) (.s 1 (.ow (((↑a:Int) + (↑b:Int)) / 2) (.s 5 (.ow (((↑a:Int) + (↑b:Int)) / 2 + (↑m:Int)) (.s 7 (.br (decide (((↑a:Int) + (↑b:Int)) / 2 < (↑m:Int))) (fun p0=>have p0f:=aS p0; (.s 4 (.ow (((↑a:Int) + (↑b:Int)) / 2 + (↑m:Int) - (↑b:Int)) (.s 6 (.ow (((↑a:Int) + (↑b:Int)) / 2 + (↑m:Int) - 1) (.s 1 (.val 20 (iD (((↑a:Int) + (↑b:Int)) / 2 + (↑m:Int) - (↑b:Int))) (nD s0) zT (.val 21 (iD (((↑a:Int) + (↑b:Int)) / 2)) (nD r0) zT (Hn.inl T_ok ah false 220 2 (aA Tryz.prog 197 4) (fun (x:(x:Nat) ×' (y:Nat) ×' (f:Nat) ×' (hx:s0 ≤ x ∧ x ≤ y ∧ y ≤ r0) ×' (hf:y - x ≤ f) ×' (hR:gf (qC W X (q - 1)) f x y = st) ×' Unit)=>match x with | ⟨x,y,f,hx,hf,hR,_⟩=>CutS.mk [(0,D.ref 0 0 0 N 1),(1,nD a),(2,nD m),(3,nD b),(4,D.fn (Fn.func 175) [] [D.ptr 1 1 0]),(18,iD (((↑a:Int) + (↑b:Int)) / 2)),(19,iD (((↑a:Int) + (↑b:Int)) / 2 + (↑m:Int))),(20,nD x),(21,nD y),(22,iD (((↑a:Int) + (↑b:Int)) / 2 + (↑m:Int) - 1))] [⟨0,0,0,0,.b ⟨map nD X,3,true⟩⟩,⟨1,1,1,1,.b ⟨[D.sl false L 1 (map nD W)],152,false⟩⟩] 24) (fun (x:(x:Nat) ×' (y:Nat) ×' (f:Nat) ×' (hx:s0 ≤ x ∧ x ≤ y ∧ y ≤ r0) ×' (hf:y - x ≤ f) ×' (hR:gf (qC W X (q - 1)) f x y = st) ×' Unit)=>match x with | ⟨x,y,f,hx,hf,hR,_⟩=>y - x) [⟨Unit,.exit 8,fun x=>match x with | ()=>CutS.mk [(0,D.ref 0 0 0 N 1),(1,nD a),(2,nD m),(3,nD b),(4,D.fn (Fn.func 175) [] [D.ptr 1 1 0]),(18,iD (((↑a:Int) + (↑b:Int)) / 2)),(19,iD (((↑a:Int) + (↑b:Int)) / 2 + (↑m:Int))),(20,nD st),(21,nD st),(22,iD (((↑a:Int) + (↑b:Int)) / 2 + (↑m:Int) - 1))] [⟨0,0,0,0,.b ⟨map nD X,3,true⟩⟩,⟨1,1,1,1,.b ⟨[D.sl false L 1 (map nD W)],152,false⟩⟩] 24⟩] 1000 64 (fun | ⟨x,y,f,hx,hf,hR,_⟩,Q,next1,last1=>(.s 4 (.br (decide ((↑x:Int) < (↑y:Int))) (fun p1=>have p1f:=aS p1; (.s 4 (.ow ((↑x:Int) + (↑y:Int)) (.s 1 (.opt (az .u64 ((↑x:Int) + (↑y:Int))) (D.v (Value.int .u64 ((↑x:Int) + (↑y:Int)))) (bl om) (.s 2 (.opt (bi IntKind.u64 (Int.fdiv ((↑x:Int) + (↑y:Int)) 2)) (D.v (Value.int .u64 (((↑x:Int) + (↑y:Int)) / 2))) (ay (@fT  ((↑x:Int) + (↑y:Int)) (2) om)) (.s 1 (.ow (((↑x:Int) + (↑y:Int)) / 2) (.s 8 (.ow (((↑a:Int) + (↑b:Int)) / 2 + (↑m:Int) - 1 - ((↑x:Int) + (↑y:Int)) / 2) (.s 1 (.chk (decide (0 ≤ ((↑a:Int) + (↑b:Int)) / 2 + (↑m:Int) - 1 - ((↑x:Int) + (↑y:Int)) / 2) && decide (((↑a:Int) + (↑b:Int)) / 2 + (↑m:Int) - 1 - ((↑x:Int) + (↑y:Int)) / 2 < (↑N:Int))) zS (.s 2 (.opt ((map nD X)[0 + Int.toNat (((↑a:Int) + (↑b:Int)) / 2 + (↑m:Int) - 1 - ((↑x:Int) + (↑y:Int)) / 2) * 1]?) (nD (getD X (0 + Int.toNat (((↑a:Int) + (↑b:Int)) / 2 + (↑m:Int) - 1 - ((↑x:Int) + (↑y:Int)) / 2) * 1) default)) (av _ _ om) (.s 3 (.chk (true && decide (((↑x:Int) + (↑y:Int)) / 2 < (↑N:Int))) dE (.s 2 (.opt ((map nD X)[0 + Int.toNat (((↑x:Int) + (↑y:Int)) / 2) * 1]?) (nD (getD X (0 + Int.toNat (((↑x:Int) + (↑y:Int)) / 2) * 1) default)) (av _ _ om) (.s 1 (.cl 175 true [1] (.fn wN (@qt (W) (L) om (getD X (0 + Int.toNat (((↑a:Int) + (↑b:Int)) / 2 + (↑m:Int) - 1 - ((↑x:Int) + (↑y:Int)) / 2) * 1) default) (getD X (0 + Int.toNat (((↑x:Int) + (↑y:Int)) / 2) * 1) default) (by ( exact hA.at om)) (by ( exact hA.at om)))) (.s 3 (.br (!decide (mb (getD W (getD X (0 + Int.toNat (((↑a:Int) + (↑b:Int)) / 2 + (↑m:Int) - 1 - ((↑x:Int) + (↑y:Int)) / 2) * 1) default) default) (getD W (getD X (0 + Int.toNat (((↑x:Int) + (↑y:Int)) / 2) * 1) default) default) < 0)) (fun p2=>have p2f:=aT (cY p2); (.s 3 (.ow (((↑x:Int) + (↑y:Int)) / 2 + 1) (.s 1 (.val 20 (iD (((↑x:Int) + (↑y:Int)) / 2 + 1)) (nD ((x + y) / 2 + 1)) zT (Hn.next next1 ⟨((x + y) / 2 + 1),(y),(f - 1),om,om,Cy,⟨⟩⟩ zP [(0,0),(1,1)] ro)))))) (fun p2=>have p2f:=aS (cZ p2); (.s 2 (.val 21 (iD (((↑x:Int) + (↑y:Int)) / 2)) (nD ((x + y) / 2)) zT (Hn.next next1 ⟨(x),((x + y) / 2),(f - 1),om,om,Cz,⟨⟩⟩ zQ [(0,0),(1,1)] ro))))))))))))))))))))))))))) (fun p1=>have p1f:=aT p1; (.val 20 (nD x) (nD st) (by ( rw [xm hR om])) (.val 21 (nD y) (nD st) zR (Hn.last last1 0 (():Unit) rfl [(0,0),(1,1)] ro))))))) (fun | ⟨x,y,f,hx,hf,hR,_⟩=>by kernel_rfl) ⟨(s0),(r0),(r0 - s0),om,om,om,⟨⟩⟩ [(0,0),(1,1)] ro (cb (fun | ()=>(.s 4 (.ow (((↑a:Int) + (↑b:Int)) / 2 + (↑m:Int) - (↑st:Int)) (.s 7 (.br (decide ((↑st:Int) < (↑m:Int))) (fun p3=>have p3f:=aS p3; (.s 6 (.br (decide ((↑m:Int) < ((↑a:Int) + (↑b:Int)) / 2 + (↑m:Int) - (↑st:Int))) (fun p4=>have p4f:=aS p4; (.s 6 (.call 200 true [0,1] (true) wr ([D.ref 0 0 0 N 1,nD st,nD m,iD (((↑a:Int) + (↑b:Int)) / 2 + (↑m:Int) - (↑st:Int)),D.fn (Fn.func 175) [] [D.ptr 1 1 0]]) _ (bY.refl _) (ab (map nD X) && true) (by (simp; done)) _ _ _ (CallOk.fn (aw.of Tryz.func200 rfl rfl) (@SmE.rp (W) (L) (N) (X) (X1) (X2) (T) (a) (m) (b) (mid) (q) (st) (en) (s0) (r0) bt om om (X) ((↑st:Int)) ((↑m:Int)) (((↑a:Int) + (↑b:Int)) / 2 + (↑m:Int) - (↑st:Int)) wr om om om)) (.s 6 (.br (decide ((↑a:Int) < (↑st:Int))) (fun p5=>have p5f:=aS p5; (.s 6 (.t (decide ((↑st:Int) < ((↑a:Int) + (↑b:Int)) / 2)) dE (.s 6 (.call 197 true [0,1] (true) wr ([D.ref 0 0 0 N 1,nD a,nD st,iD (((↑a:Int) + (↑b:Int)) / 2),D.fn (Fn.func 175) [] [D.ptr 1 1 0]]) _ (bY.refl _) (ab (map nD X1) && true) (by (simp; done)) _ _ _ (CallOk.fn (aw.of Tryz.func197 rfl rfl) (@SmE.sp (W) (L) (N) (X) (X1) (X2) (T) (a) (m) (b) (mid) (q) (st) (en) (s0) (r0) bt om om (X1) ((↑a:Int)) ((↑st:Int)) (((↑a:Int) + (↑b:Int)) / 2) wr om om om)) (.s 6 (.t (decide (((↑a:Int) + (↑b:Int)) / 2 < ((↑a:Int) + (↑b:Int)) / 2 + (↑m:Int) - (↑st:Int))) dE (.s 6 (.br (decide (((↑a:Int) + (↑b:Int)) / 2 + (↑m:Int) - (↑st:Int) < (↑b:Int))) (fun p6=>have p6f:=aS p6; (.s 6 (.call 197 true [0,1] (true) wr ([D.ref 0 0 0 N 1,iD (((↑a:Int) + (↑b:Int)) / 2),iD (((↑a:Int) + (↑b:Int)) / 2 + (↑m:Int) - (↑st:Int)),nD b,D.fn (Fn.func 175) [] [D.ptr 1 1 0]]) _ (bY.refl _) (ab (map nD X2) && true) (by (simp; done)) _ _ _ (CallOk.fn (aw.of Tryz.func197 rfl rfl) (@SmE.tp (W) (L) (N) (X) (X1) (X2) (T) (a) (m) (b) (mid) (q) (st) (en) (s0) (r0) bt om om (X2) (((↑a:Int) + (↑b:Int)) / 2) (((↑a:Int) + (↑b:Int)) / 2 + (↑m:Int) - (↑st:Int)) ((↑b:Int)) wr om om om)) (.out [0,1] [0,1] (D.tup []) [Blk.mk (map nD T) 3 true,Blk.mk [D.sl false L 1 (map nD W)] 152 false] R (ok _ _ wr wr))))) (fun p6=>have p6f:=aT p6; (.out [0,1] [0,1] (D.tup []) [Blk.mk (map nD X2) 3 true,Blk.mk [D.sl false L 1 (map nD W)] 152 false] R (ok _ _ wr (by ( rw [hE.t0' om])))))))))))))) (fun p5=>have p5f:=aT p5; (.s 12 (.t (decide (((↑a:Int) + (↑b:Int)) / 2 < ((↑a:Int) + (↑b:Int)) / 2 + (↑m:Int) - (↑st:Int))) dE (.s 6 (.f (decide (((↑a:Int) + (↑b:Int)) / 2 + (↑m:Int) - (↑st:Int) < (↑b:Int))) oy (.out [0,1] [0,1] (D.tup []) [Blk.mk (map nD X1) 3 true,Blk.mk [D.sl false L 1 (map nD W)] 152 false] R (ok _ _ wr (by ( rw [hE.s0' om,hE.t0' om])))))))))))))) (fun p4=>have p4f:=aT p4; (.s 6 (.t (decide ((↑a:Int) < (↑st:Int))) dE (.s 6 (.f (decide ((↑st:Int) < ((↑a:Int) + (↑b:Int)) / 2)) oy (.s 6 (.t (decide (((↑a:Int) + (↑b:Int)) / 2 < ((↑a:Int) + (↑b:Int)) / 2 + (↑m:Int) - (↑st:Int))) dE (.s 6 (.t (decide (((↑a:Int) + (↑b:Int)) / 2 + (↑m:Int) - (↑st:Int) < (↑b:Int))) dE (.s 6 (.call 197 true [0,1] (true) wr ([D.ref 0 0 0 N 1,iD (((↑a:Int) + (↑b:Int)) / 2),iD (((↑a:Int) + (↑b:Int)) / 2 + (↑m:Int) - (↑st:Int)),nD b,D.fn (Fn.func 175) [] [D.ptr 1 1 0]]) _ (bY.refl _) (ab (map nD X) && true) (by (simp; done)) _ _ _ (CallOk.fn (aw.of Tryz.func197 rfl rfl) (@SmE.tp (W) (L) (N) (X) (X1) (X2) (T) (a) (m) (b) (mid) (q) (st) (en) (s0) (r0) bt om om (X) (((↑a:Int) + (↑b:Int)) / 2) (((↑a:Int) + (↑b:Int)) / 2 + (↑m:Int) - (↑st:Int)) ((↑b:Int)) (by ( exact (hE.r0' om).trans (hE.s0' om))) om om om)) (.out [0,1] [0,1] (D.tup []) [Blk.mk (map nD T) 3 true,Blk.mk [D.sl false L 1 (map nD W)] 152 false] R (ok _ _ wr wr)))))))))))))))) (fun p3=>have p3f:=aT p3; (.s 12 (.t (decide ((↑a:Int) < (↑st:Int))) dE (.s 6 (.f (decide ((↑st:Int) < ((↑a:Int) + (↑b:Int)) / 2)) oy (.s 6 (.f (decide (((↑a:Int) + (↑b:Int)) / 2 < ((↑a:Int) + (↑b:Int)) / 2 + (↑m:Int) - (↑st:Int))) oy (.s 6 (.out [0,1] [0,1] (D.tup []) [Blk.mk (map nD X) 3 true,Blk.mk [D.sl false L 1 (map nD W)] 152 false] R (ok _ _ wr (by ( rw [hE.r0' om,hE.s0' om,hE.t0' om]))))))))))))))))))))))))))) (fun p0=>have p0f:=aT p0; (.s 7 (.ow (((↑a:Int) + (↑b:Int)) / 2 + (↑m:Int) - 1) (.s 1 (.val 20 (nD a) (nD s0) zU (.val 21 (nD m) (nD r0) zU (Hn.inl T_ok ah false 220 2 (aA Tryz.prog 197 4) (fun (x:(x:Nat) ×' (y:Nat) ×' (f:Nat) ×' (hx:s0 ≤ x ∧ x ≤ y ∧ y ≤ r0) ×' (hf:y - x ≤ f) ×' (hR:gf (qC W X (q - 1)) f x y = st) ×' Unit)=>match x with | ⟨x,y,f,hx,hf,hR,_⟩=>CutS.mk [(0,D.ref 0 0 0 N 1),(1,nD a),(2,nD m),(3,nD b),(4,D.fn (Fn.func 175) [] [D.ptr 1 1 0]),(18,iD (((↑a:Int) + (↑b:Int)) / 2)),(19,iD (((↑a:Int) + (↑b:Int)) / 2 + (↑m:Int))),(20,nD x),(21,nD y),(22,iD (((↑a:Int) + (↑b:Int)) / 2 + (↑m:Int) - 1))] [⟨0,0,0,0,.b ⟨map nD X,3,true⟩⟩,⟨1,1,1,1,.b ⟨[D.sl false L 1 (map nD W)],152,false⟩⟩] 24) (fun (x:(x:Nat) ×' (y:Nat) ×' (f:Nat) ×' (hx:s0 ≤ x ∧ x ≤ y ∧ y ≤ r0) ×' (hf:y - x ≤ f) ×' (hR:gf (qC W X (q - 1)) f x y = st) ×' Unit)=>match x with | ⟨x,y,f,hx,hf,hR,_⟩=>y - x) [⟨Unit,.exit 8,fun x=>match x with | ()=>CutS.mk [(0,D.ref 0 0 0 N 1),(1,nD a),(2,nD m),(3,nD b),(4,D.fn (Fn.func 175) [] [D.ptr 1 1 0]),(18,iD (((↑a:Int) + (↑b:Int)) / 2)),(19,iD (((↑a:Int) + (↑b:Int)) / 2 + (↑m:Int))),(20,nD st),(21,nD st),(22,iD (((↑a:Int) + (↑b:Int)) / 2 + (↑m:Int) - 1))] [⟨0,0,0,0,.b ⟨map nD X,3,true⟩⟩,⟨1,1,1,1,.b ⟨[D.sl false L 1 (map nD W)],152,false⟩⟩] 24⟩] 1000 64 (fun | ⟨x,y,f,hx,hf,hR,_⟩,Q,next1,last1=>(.s 4 (.br (decide ((↑x:Int) < (↑y:Int))) (fun p7=>have p7f:=aS p7; (.s 4 (.ow ((↑x:Int) + (↑y:Int)) (.s 1 (.opt (az .u64 ((↑x:Int) + (↑y:Int))) (D.v (Value.int .u64 ((↑x:Int) + (↑y:Int)))) (bl om) (.s 2 (.opt (bi IntKind.u64 (Int.fdiv ((↑x:Int) + (↑y:Int)) 2)) (D.v (Value.int .u64 (((↑x:Int) + (↑y:Int)) / 2))) (ay (@fT  ((↑x:Int) + (↑y:Int)) (2) om)) (.s 1 (.ow (((↑x:Int) + (↑y:Int)) / 2) (.s 8 (.ow (((↑a:Int) + (↑b:Int)) / 2 + (↑m:Int) - 1 - ((↑x:Int) + (↑y:Int)) / 2) (.s 1 (.chk (decide (0 ≤ ((↑a:Int) + (↑b:Int)) / 2 + (↑m:Int) - 1 - ((↑x:Int) + (↑y:Int)) / 2) && decide (((↑a:Int) + (↑b:Int)) / 2 + (↑m:Int) - 1 - ((↑x:Int) + (↑y:Int)) / 2 < (↑N:Int))) zS (.s 2 (.opt ((map nD X)[0 + Int.toNat (((↑a:Int) + (↑b:Int)) / 2 + (↑m:Int) - 1 - ((↑x:Int) + (↑y:Int)) / 2) * 1]?) (nD (getD X (0 + Int.toNat (((↑a:Int) + (↑b:Int)) / 2 + (↑m:Int) - 1 - ((↑x:Int) + (↑y:Int)) / 2) * 1) default)) (av _ _ om) (.s 3 (.chk (true && decide (((↑x:Int) + (↑y:Int)) / 2 < (↑N:Int))) dE (.s 2 (.opt ((map nD X)[0 + Int.toNat (((↑x:Int) + (↑y:Int)) / 2) * 1]?) (nD (getD X (0 + Int.toNat (((↑x:Int) + (↑y:Int)) / 2) * 1) default)) (av _ _ om) (.s 1 (.cl 175 true [1] (.fn wN (@qt (W) (L) om (getD X (0 + Int.toNat (((↑a:Int) + (↑b:Int)) / 2 + (↑m:Int) - 1 - ((↑x:Int) + (↑y:Int)) / 2) * 1) default) (getD X (0 + Int.toNat (((↑x:Int) + (↑y:Int)) / 2) * 1) default) (by ( exact hA.at om)) (by ( exact hA.at om)))) (.s 3 (.br (!decide (mb (getD W (getD X (0 + Int.toNat (((↑a:Int) + (↑b:Int)) / 2 + (↑m:Int) - 1 - ((↑x:Int) + (↑y:Int)) / 2) * 1) default) default) (getD W (getD X (0 + Int.toNat (((↑x:Int) + (↑y:Int)) / 2) * 1) default) default) < 0)) (fun p8=>have p8f:=aT (cY p8); (.s 3 (.ow (((↑x:Int) + (↑y:Int)) / 2 + 1) (.s 1 (.val 20 (iD (((↑x:Int) + (↑y:Int)) / 2 + 1)) (nD ((x + y) / 2 + 1)) zU (Hn.next next1 ⟨((x + y) / 2 + 1),(y),(f - 1),om,om,Cy,⟨⟩⟩ zP [(0,0),(1,1)] ro)))))) (fun p8=>have p8f:=aS (cZ p8); (.s 2 (.val 21 (iD (((↑x:Int) + (↑y:Int)) / 2)) (nD ((x + y) / 2)) zU (Hn.next next1 ⟨(x),((x + y) / 2),(f - 1),om,om,Cz,⟨⟩⟩ zQ [(0,0),(1,1)] ro))))))))))))))))))))))))))) (fun p7=>have p7f:=aT p7; (.val 20 (nD x) (nD st) (by ( rw [xm hR om])) (.val 21 (nD y) (nD st) zR (Hn.last last1 0 (():Unit) rfl [(0,0),(1,1)] ro))))))) (fun | ⟨x,y,f,hx,hf,hR,_⟩=>by kernel_rfl) ⟨(s0),(r0),(r0 - s0),om,om,om,⟨⟩⟩ [(0,0),(1,1)] ro (cb (fun | ()=>(.s 4 (.ow (((↑a:Int) + (↑b:Int)) / 2 + (↑m:Int) - (↑st:Int)) (.s 7 (.br (decide ((↑st:Int) < (↑m:Int))) (fun p9=>have p9f:=aS p9; (.s 6 (.t (decide ((↑m:Int) < ((↑a:Int) + (↑b:Int)) / 2 + (↑m:Int) - (↑st:Int))) dE (.s 6 (.call 200 true [0,1] (true) wr ([D.ref 0 0 0 N 1,nD st,nD m,iD (((↑a:Int) + (↑b:Int)) / 2 + (↑m:Int) - (↑st:Int)),D.fn (Fn.func 175) [] [D.ptr 1 1 0]]) _ (bY.refl _) (ab (map nD X) && true) (by (simp; done)) _ _ _ (CallOk.fn (aw.of Tryz.func200 rfl rfl) (@SmE.rp (W) (L) (N) (X) (X1) (X2) (T) (a) (m) (b) (mid) (q) (st) (en) (s0) (r0) bt om om (X) ((↑st:Int)) ((↑m:Int)) (((↑a:Int) + (↑b:Int)) / 2 + (↑m:Int) - (↑st:Int)) wr om om om)) (.s 6 (.br (decide ((↑a:Int) < (↑st:Int))) (fun p10=>have p10f:=aS p10; (.s 6 (.t (decide ((↑st:Int) < ((↑a:Int) + (↑b:Int)) / 2)) dE (.s 6 (.call 197 true [0,1] (true) wr ([D.ref 0 0 0 N 1,nD a,nD st,iD (((↑a:Int) + (↑b:Int)) / 2),D.fn (Fn.func 175) [] [D.ptr 1 1 0]]) _ (bY.refl _) (ab (map nD X1) && true) (by (simp; done)) _ _ _ (CallOk.fn (aw.of Tryz.func197 rfl rfl) (@SmE.sp (W) (L) (N) (X) (X1) (X2) (T) (a) (m) (b) (mid) (q) (st) (en) (s0) (r0) bt om om (X1) ((↑a:Int)) ((↑st:Int)) (((↑a:Int) + (↑b:Int)) / 2) wr om om om)) (.s 6 (.t (decide (((↑a:Int) + (↑b:Int)) / 2 < ((↑a:Int) + (↑b:Int)) / 2 + (↑m:Int) - (↑st:Int))) dE (.s 6 (.t (decide (((↑a:Int) + (↑b:Int)) / 2 + (↑m:Int) - (↑st:Int) < (↑b:Int))) dE (.s 6 (.call 197 true [0,1] (true) wr ([D.ref 0 0 0 N 1,iD (((↑a:Int) + (↑b:Int)) / 2),iD (((↑a:Int) + (↑b:Int)) / 2 + (↑m:Int) - (↑st:Int)),nD b,D.fn (Fn.func 175) [] [D.ptr 1 1 0]]) _ (bY.refl _) (ab (map nD X2) && true) (by (simp; done)) _ _ _ (CallOk.fn (aw.of Tryz.func197 rfl rfl) (@SmE.tp (W) (L) (N) (X) (X1) (X2) (T) (a) (m) (b) (mid) (q) (st) (en) (s0) (r0) bt om om (X2) (((↑a:Int) + (↑b:Int)) / 2) (((↑a:Int) + (↑b:Int)) / 2 + (↑m:Int) - (↑st:Int)) ((↑b:Int)) wr om om om)) (.out [0,1] [0,1] (D.tup []) [Blk.mk (map nD T) 3 true,Blk.mk [D.sl false L 1 (map nD W)] 152 false] R (ok _ _ wr wr))))))))))))) (fun p10=>have p10f:=aT p10; (.s 12 (.t (decide (((↑a:Int) + (↑b:Int)) / 2 < ((↑a:Int) + (↑b:Int)) / 2 + (↑m:Int) - (↑st:Int))) dE (.s 6 (.br (decide (((↑a:Int) + (↑b:Int)) / 2 + (↑m:Int) - (↑st:Int) < (↑b:Int))) (fun p11=>have p11f:=aS p11; (.s 6 (.call 197 true [0,1] (true) wr ([D.ref 0 0 0 N 1,iD (((↑a:Int) + (↑b:Int)) / 2),iD (((↑a:Int) + (↑b:Int)) / 2 + (↑m:Int) - (↑st:Int)),nD b,D.fn (Fn.func 175) [] [D.ptr 1 1 0]]) _ (bY.refl _) (ab (map nD X1) && true) (by (simp; done)) _ _ _ (CallOk.fn (aw.of Tryz.func197 rfl rfl) (@SmE.tp (W) (L) (N) (X) (X1) (X2) (T) (a) (m) (b) (mid) (q) (st) (en) (s0) (r0) bt om om (X1) (((↑a:Int) + (↑b:Int)) / 2) (((↑a:Int) + (↑b:Int)) / 2 + (↑m:Int) - (↑st:Int)) ((↑b:Int)) (by ( exact hE.s0' om)) om om om)) (.out [0,1] [0,1] (D.tup []) [Blk.mk (map nD T) 3 true,Blk.mk [D.sl false L 1 (map nD W)] 152 false] R (ok _ _ wr wr))))) (fun p11=>have p11f:=aT p11; (.out [0,1] [0,1] (D.tup []) [Blk.mk (map nD X1) 3 true,Blk.mk [D.sl false L 1 (map nD W)] 152 false] R (ok _ _ wr (by ( rw [hE.s0' om,hE.t0' om]))))))))))))))))) (fun p9=>have p9f:=aT p9; (.s 12 (.t (decide ((↑a:Int) < (↑st:Int))) dE (.s 6 (.br (decide ((↑st:Int) < ((↑a:Int) + (↑b:Int)) / 2)) (fun p12=>have p12f:=aS p12; (.s 6 (.call 197 true [0,1] (true) wr ([D.ref 0 0 0 N 1,nD a,nD st,iD (((↑a:Int) + (↑b:Int)) / 2),D.fn (Fn.func 175) [] [D.ptr 1 1 0]]) _ (bY.refl _) (ab (map nD X) && true) (by (simp; done)) _ _ _ (CallOk.fn (aw.of Tryz.func197 rfl rfl) (@SmE.sp (W) (L) (N) (X) (X1) (X2) (T) (a) (m) (b) (mid) (q) (st) (en) (s0) (r0) bt om om (X) ((↑a:Int)) ((↑st:Int)) (((↑a:Int) + (↑b:Int)) / 2) (by ( exact hE.r0' om)) om om om)) (.s 6 (.f (decide (((↑a:Int) + (↑b:Int)) / 2 < ((↑a:Int) + (↑b:Int)) / 2 + (↑m:Int) - (↑st:Int))) oy (.s 6 (.out [0,1] [0,1] (D.tup []) [Blk.mk (map nD X2) 3 true,Blk.mk [D.sl false L 1 (map nD W)] 152 false] R (ok _ _ wr (by ( rw [hE.t0' om])))))))))) (fun p12=>have p12f:=aT p12; (.s 6 (.f (decide (((↑a:Int) + (↑b:Int)) / 2 < ((↑a:Int) + (↑b:Int)) / 2 + (↑m:Int) - (↑st:Int))) oy (.s 6 (.out [0,1] [0,1] (D.tup []) [Blk.mk (map nD X) 3 true,Blk.mk [D.sl false L 1 (map nD W)] 152 false] R (ok _ _ wr (by ( rw [hE.r0' om,hE.s0' om,hE.t0' om]))))))))))))))))))))))))))))))))))))))))))))))) (by kernel_rfl)
end Vp
end Go.Proofs.YtefjnofhgkjpmaaGreat
namespace Go.Proofs.YtefjnofhgkjpmaaGreat
open Go.RowKit Go.Bw Go.Vx
namespace Vp
theorem iT {X:List Nat} {i j:Nat} (hi:i < X.length) (hj:j < X.length):(swp X i j).Perm X:=by
 rw [List.perm_iff_count]
 intro c
 have e1:X.getD i default = X[i]:=by rw [List.getD_eq_getElem?_getD,List.getElem?_eq_getElem hi]; rfl
 have e2:X.getD j default = X[j]:=by rw [List.getD_eq_getElem?_getD,List.getElem?_eq_getElem hj]; rfl
 rw [ot,e1,e2,List.count_set (by rw [List.length_set]; exact hj),List.count_set hi,List.getElem_set]
 have h1:(X[i] == c) = true → 1 ≤ X.count c:=fun q=>by
  rw [List.one_le_count_iff,← eq_of_beq q]; exact List.getElem_mem hi
 have h3:(if i = j then X[j] else X[j]) = X[j]:=by split <;> rfl
 rw [h3]
 cases q1:(X[i] == c) <;> cases q2:(X[j] == c) <;> simp <;> (try have:=h1 q1) <;> omega
theorem iU {X:List Nat} {a b:Nat}:∀ k,a + k ≤ X.length → b + k ≤ X.length → (dM X a b k).Perm X
 | 0,_,_=>by rw [Cr]
 | k + 1,h1,h2=>by
  rw [← Cs]
  exact (iT (by rw [dn]; omega) (by rw [dn]; omega)).trans (iU k (by omega) (by omega))
theorem jr {m:Nat}:∀ (f i j:Nat) (X:List Nat),1 ≤ i → 1 ≤ j → i ≤ m → m + j ≤ X.length → i + j ≤ f → (gd m f i j X).Perm X
 | 0,i,j,X,h1,h2,h3,h4,h5=>by omega
 | f + 1,i,j,X,h1,h2,h3,h4,h5=>by
  rw [gd]; split
  ·exact iU i (by omega) (by omega)
  ·split
   ·exact (jr f (i - j) j _ (by omega) h2 (by omega) (by rw [dn]; omega) (by omega)).trans (iU j (by omega) (by omega))
   ·exact (jr f i (j - i) _ h1 (by omega) h3 (by rw [dn]; omega) (by omega)).trans (iU i (by omega) (by omega))
theorem va {X:List Nat} {a m b:Nat} (h1:a < m) (h2:m < b) (h3:b ≤ X.length):(xj X a m b).Perm X:=by
 rw [tK]; exact jr _ _ _ _ (by omega) (by omega) (by omega) (by omega) (by omega)
theorem qv {W:List Nat} {a:Nat}:∀ (j:Nat) (X:List Nat),j < X.length → (inI W a j X).Perm X
 | 0,_,_=>List.Perm.refl _
 | j + 1,X,h=>by
  rw [inI]; split
  ·exact (qv j _ (by rw [fY]; omega)).trans (iT h (by omega))
  ·exact List.Perm.refl _
theorem gD {W X:List Nat} {a:Nat}:∀ (k:Nat),a + k < X.length ∨ k = 0 → (inQ W X a k).Perm X
 | 0,_=>by rw [xk]
 | k + 1,h=>by
  rw [← xl]
  exact (qv _ _ (by rw [iS]; omega)).trans (gD k (by omega))
theorem qw {X:List Nat} {a:Nat}:∀ (k:Nat),a + k < X.length ∨ k = 0 → (gB X a k).Perm X
 | 0,_=>by rw [CA]
 | k + 1,h=>by
  rw [← CC]
  exact (iT (by rw [fZ]; omega) (by rw [fZ]; omega)).trans (qw k (by omega))
theorem qx {X:List Nat} {m:Nat} (hm:m < X.length):∀ (k:Nat),(gC X m k).Perm X
 | 0=>by rw [CB]
 | k + 1=>by
  rw [← CD]
  exact (iT (by rw [f6]; omega) (by rw [f6]; omega)).trans (qx hm k)
theorem bu.perm {L:Nat} {X Y:List Nat} (h:bu L X) (hp:Y.Perm X):bu L Y:=fun x hx=>h x (hp.mem_iff.1 hx)
def iV (a m b:Nat):Nat:=if (a + b) / 2 < m then (a + b) / 2 + m - b else a
def js (a m b:Nat):Nat:=if (a + b) / 2 < m then (a + b) / 2 else m
def dK (W X:List Nat) (a m b:Nat):Nat:=gf (qC W X ((a + b) / 2 + m - 1)) (js a m b - iV a m b) (iV a m b) (js a m b)
def fw (X:List Nat) (m st en:Nat):List Nat:=if st < m ∧ m < en then xj X st m en else X
def jU (W:List Nat):Nat → List Nat → Nat → Nat → Nat → List Nat
 | 0,X,_,_,_=>X
 | f + 1,X,a,m,b =>
  if m = a + 1 then gB X a (gf (qA W X a) (b - m) m b - 1 - a)
  else if b = m + 1 then gC X m (m - gf (qB W X m) (m - a) a m)
  else
   (fun st=>(fun en=>(fun X1=>(fun X2=>if (a + b) / 2 < en ∧ en < b then jU W f X2 ((a + b) / 2) en b else X2)
    (if a < st ∧ st < (a + b) / 2 then jU W f X1 a st ((a + b) / 2) else X1)) (fw X m st en)) ((a + b) / 2 + m - st)) (dK W X a m b)
theorem xo {a m b:Nat} (h1:a < m) (h2:m < b):iV a m b ≤ js a m b ∧ js a m b ≤ m ∧ a ≤ iV a m b ∧ (a + b) / 2 + m ≤ iV a m b + b:=by
 unfold iV js; split <;> omega
theorem nk {X:List Nat} {m st en:Nat} (h:en ≤ X.length):(fw X m st en).Perm X:=by
 unfold fw; split
 ·next q=>exact va q.1 q.2 h
 ·exact List.Perm.refl _
theorem ek {W:List Nat}:∀ (f:Nat) (X:List Nat) (a m b:Nat),a < m → m < b → b ≤ X.length → (jU W f X a m b).Perm X
 | 0,_,_,_,_,_,_,_=>List.Perm.refl _
 | f + 1,X,a,m,b,h1,h2,h3=>by
  rw [jU]
  split
  ·have:=lK (p:=qA W X a) (b - m) m b (by omega)
   exact qw _ (by omega)
  ·split
   ·exact qx (by omega) _
   ·have hs:=xo h1 h2
    have hi:=lK (p:=qC W X ((a + b) / 2 + m - 1)) (js a m b - iV a m b) (iV a m b) (js a m b) hs.1
    show List.Perm (if (a + b) / 2 < (a + b) / 2 + m - dK W X a m b ∧ _ then _ else _) X
    generalize hst:dK W X a m b = st at *
    have hst2:iV a m b ≤ st ∧ st ≤ js a m b:=by rw [← hst]; exact hi
    have q1:(fw X m st ((a + b) / 2 + m - st)).Perm X:=nk (by omega)
    have l1:=q1.length_eq
    have q2:(if a < st ∧ st < (a + b) / 2 then jU W f (fw X m st ((a + b) / 2 + m - st)) a st ((a + b) / 2) else fw X m st ((a + b) / 2 + m - st)).Perm X:=by
     split
     ·next q=>exact (ek f _ _ _ _ q.1 q.2 (by omega)).trans q1
     ·exact q1
    have l2:=q2.length_eq
    generalize (if a < st ∧ st < (a + b) / 2 then jU W f (fw X m st ((a + b) / 2 + m - st)) a st ((a + b) / 2) else fw X m st ((a + b) / 2 + m - st)) = X2 at *
    split
    ·next q=>exact (ek f _ _ _ _ q.1 q.2 (by omega)).trans q2
    ·exact q2
theorem EE (X:List Nat) (N:Nat) (hN:N = X.length) (hN2:N ≤ 1000) (W:List Nat) (L:Nat) (hL:L = W.length) {a m b:Nat} (h1:a < m) (h2:m < b) (h3:b ≤ N):RtH W L N X a m b (xj X a m b):=⟨fun Y x y z hY hx hy hz=>by
 subst hY hx hy hz
 exact HK Y N hN hN2 W L hL a m b h1 h2 h3 _ rfl⟩
theorem tP (W:List Nat) (L:Nat) (hL:L = W.length) (N:Nat) (hN2:N ≤ 1000):∀ (f:Nat) (X:List Nat),N = X.length → bu L X → ∀ (a m b:Nat),a < m → m < b → b ≤ N → b - a ≤ f → SpecH true Tryz.prog 197 [.ref 0 0 0 N 1,nD a,nD m,nD b,.fn (.func 175) [] [.ptr 1 1 0]] [⟨X.map nD, 3, true⟩,⟨[.sl false L 1 (W.map nD)], 152, false⟩] (.tup []) [⟨(jU W f X a m b).map nD, 3, true⟩,⟨[.sl false L 1 (W.map nD)], 152, false⟩]
 | 0,X,hN,hA,a,m,b,h1,h2,h3,hf=>by omega
 | f + 1,X,hN,hA,a,m,b,h1,h2,h3,hf=>by
  rw [jU]
  by_cases c1:m = a + 1
  ·rw [if_pos c1]
   exact Ka X N hN hN2 W L hL hA a m b h1 h2 h3 c1 _ rfl (lK _ _ _ (by omega))
  ·rw [if_neg c1]
   by_cases c2:b = m + 1
   ·rw [if_pos c2]
    exact Kb X N hN hN2 W L hL hA a m b h1 h2 h3 c1 c2 _ rfl (lK _ _ _ (by omega))
   ·rw [if_neg c2]
    have hs:=xo h1 h2
    have hi:iV a m b ≤ dK W X a m b ∧ dK W X a m b ≤ js a m b:=lK _ _ _ hs.1
    have q1:(fw X m (dK W X a m b) ((a + b) / 2 + m - dK W X a m b)).Perm X:=nk (by omega)
    refine Kc X N hN hN2 W L hL hA a m b h1 h2 h3 c1 c2 (fw X m (dK W X a m b) ((a + b) / 2 + m - dK W X a m b)) (if a < dK W X a m b ∧ dK W X a m b < (a + b) / 2 then jU W f (fw X m (dK W X a m b) ((a + b) / 2 + m - dK W X a m b)) a (dK W X a m b) ((a + b) / 2) else fw X m (dK W X a m b) ((a + b) / 2 + m - dK W X a m b)) _ ((a + b) / 2) ((a + b) / 2 + m) (dK W X a m b) ((a + b) / 2 + m - dK W X a m b) rfl rfl (iV a m b) (js a m b) ⟨hs.1,hs.2.1,hs.2.2.1,hs.2.2.2⟩ rfl hi rfl ?_
    have q2:(if a < dK W X a m b ∧ dK W X a m b < (a + b) / 2 then jU W f (fw X m (dK W X a m b) ((a + b) / 2 + m - dK W X a m b)) a (dK W X a m b) ((a + b) / 2) else fw X m (dK W X a m b) ((a + b) / 2 + m - dK W X a m b)).Perm X:=by
     split
     ·next q=>exact (ek f _ _ _ _ q.1 q.2 (by rw [q1.length_eq]; omega)).trans q1
     ·exact q1
    have e3:(a + b) / 2 < m → iV a m b = (a + b) / 2 + m - b ∧ js a m b = (a + b) / 2:=fun q=>⟨if_pos q,if_pos q⟩
    have e4:m ≤ (a + b) / 2 → iV a m b = a ∧ js a m b = m:=fun q=>⟨if_neg (by omega),if_neg (by omega)⟩
    generalize dK W X a m b = st at *
    generalize iV a m b = s0 at *
    generalize js a m b = r0 at *
    refine ⟨fun a1 a2=>?_,fun a1=>?_,fun a1 a2=>?_,fun a1=>?_,fun a1 a2=>?_,fun a1=>?_,e3,e4⟩
    ·unfold fw; rw [if_pos ⟨a1,a2⟩]; exact EE X N hN hN2 W L hL a1 a2 (by omega)
    ·unfold fw; rw [if_neg (fun q=>a1 q.1 q.2)]
    ·rw [if_pos ⟨a1,a2⟩]
     refine ⟨fun Y x y z hY hx hy hz=>?_⟩
     subst hY hx hy hz
     exact tP W L hL N hN2 f _ (by rw [q1.length_eq]; exact hN) (hA.perm q1) _ _ _ a1 a2 (by omega) (by omega)
    ·rw [if_neg (fun q=>a1 q.1 q.2)]
    ·dsimp only
     generalize (if a < st ∧ st < (a + b) / 2 then jU W f (fw X m st ((a + b) / 2 + m - st)) a st ((a + b) / 2) else fw X m st ((a + b) / 2 + m - st)) = X2 at *
     rw [if_pos ⟨a1,a2⟩]
     refine ⟨fun Y x y z hY hx hy hz=>?_⟩
     subst hY hx hy hz
     exact tP W L hL N hN2 f _ (by rw [q2.length_eq]; exact hN) (hA.perm q2) _ _ _ a1 a2 (by omega) (by omega)
    ·dsimp only
     generalize (if a < st ∧ st < (a + b) / 2 then jU W f (fw X m st ((a + b) / 2 + m - st)) a st ((a + b) / 2) else fw X m st ((a + b) / 2 + m - st)) = X2 at *
     rw [if_neg (fun q=>a1 q.1 q.2)]
end Vp
end Go.Proofs.YtefjnofhgkjpmaaGreat
namespace Go.Proofs.YtefjnofhgkjpmaaGreat
open Go.RowKit Go.Bw Go.Vx
open List (length getD map take drop flatMap replicate)
namespace Vp
theorem xp {p:Prop} (h:p:=by (refine aO ?_; (omega))):p:=h
def vr (W:List Nat) (n:Nat):Nat → Nat → List Nat → List Nat
 | 0,a,Y=>inQ W Y a (n - (a + 1))
 | f + 1,a,Y=>if a + 20 ≤ n then vr W n f (a + 20) (inQ W Y a 19) else inQ W Y a (n - (a + 1))
theorem Kd {W:List Nat} {n f a:Nat} {Y T:List Nat} (hR:vr W n f a Y = T) (hf:n - a ≤ f) (h:a + 20 ≤ n):vr W n (f - 1) (a + 20) (inQ W Y a (a + 20 - (a + 1))) = T:=by
 obtain ⟨g,rfl⟩:∃ g,f = g + 1:=⟨f - 1,by omega⟩
 rw [← hR,show a + 20 - (a + 1) = 19 from by omega]; exact (if_pos h).symm
theorem Ke {W:List Nat} {n f a:Nat} {Y T:List Nat} (hR:vr W n f a Y = T) (h:¬ a + 20 ≤ n):inQ W Y a (n - (a + 1)) = T:=by
 rw [← hR]; cases f with
 | zero=>rfl
 | succ f=>exact (if_neg h).symm
def oE (W:List Nat) (z n:Nat):Nat → Nat → List Nat → List Nat
 | 0,a,Y=>if a + z < n then jU W (2 * z) Y a (a + z) n else Y
 | f + 1,a,Y=>if a + 2 * z ≤ n then oE W z n f (a + 2 * z) (jU W (2 * z) Y a (a + z) (a + 2 * z)) else if a + z < n then jU W (2 * z) Y a (a + z) n else Y
theorem Kf {W:List Nat} {z n f a:Nat} {Y T:List Nat} (hR:oE W z n f a Y = T) (hf:n - a ≤ f) (hz:0 < z) (h:a + 2 * z ≤ n):oE W z n (f - 1) (a + 2 * z) (jU W (2 * z) Y a (a + z) (a + 2 * z)) = T:=by
 obtain ⟨g,rfl⟩:∃ g,f = g + 1:=⟨f - 1,by omega⟩
 rw [← hR]; exact (if_pos h).symm
theorem Kg {W:List Nat} {z n f a:Nat} {Y T:List Nat} (hR:oE W z n f a Y = T) (h:¬ a + 2 * z ≤ n):(if a + z < n then jU W (2 * z) Y a (a + z) n else Y) = T:=by
 rw [← hR]; cases f with
 | zero=>rfl
 | succ f=>exact (if_neg h).symm
def vt (W:List Nat) (n:Nat):Nat → Nat → List Nat → List Nat
 | 0,_,Y=>Y
 | f + 1,z,Y=>if z < n then vt W n f (2 * z) (oE W z n n 0 Y) else Y
theorem HQ {W:List Nat} {z n f:Nat} {Y T:List Nat} (hR:vt W n f z Y = T) (hf:n - z ≤ f) (h:z < n):vt W n (f - 1) (2 * z) (oE W z n n 0 Y) = T:=by
 obtain ⟨g,rfl⟩:∃ g,f = g + 1:=⟨f - 1,by omega⟩
 rw [← hR]; exact (if_pos h).symm
theorem Kh {W:List Nat} {z n f:Nat} {Y T:List Nat} (hR:vt W n f z Y = T) (h:¬ z < n):Y = T:=by
 rw [← hR]; cases f with
 | zero=>rfl
 | succ f=>exact (if_neg h).symm
def Ki (W X:List Nat):List Nat:=vt W X.length X.length 20 (vr W X.length X.length 0 X)
theorem lM {W:List Nat} {n:Nat}:∀ (f a:Nat) (Y:List Nat),n = Y.length → a ≤ n → (vr W n f a Y).Perm Y
 | 0,a,Y,hn,ha=>gD _ (by omega)
 | f + 1,a,Y,hn,ha=>by
  rw [vr]; split
  ·have q:(inQ W Y a 19).Perm Y:=gD _ (by omega)
   exact (lM f _ _ (by rw [q.length_eq]; exact hn) (by omega)).trans q
  ·exact gD _ (by omega)
theorem iW {W:List Nat} {z n:Nat} (hz:0 < z):∀ (f a:Nat) (Y:List Nat),n = Y.length → (oE W z n f a Y).Perm Y
 | 0,a,Y,hn=>by
  rw [oE]; split
  ·exact ek _ _ _ _ _ (by omega) (by omega) (by omega)
  ·exact List.Perm.refl _
 | f + 1,a,Y,hn=>by
  rw [oE]; split
  ·have q:(jU W (2 * z) Y a (a + z) (a + 2 * z)).Perm Y:=ek _ _ _ _ _ (by omega) (by omega) (by omega)
   exact (iW hz f _ _ (by rw [q.length_eq]; exact hn)).trans q
  ·split
   ·exact ek _ _ _ _ _ (by omega) (by omega) (by omega)
   ·exact List.Perm.refl _
theorem qy {W:List Nat} {n:Nat}:∀ (f z:Nat) (Y:List Nat),0 < z → n = Y.length → (vt W n f z Y).Perm Y
 | 0,z,Y,hz,hn=>List.Perm.refl _
 | f + 1,z,Y,hz,hn=>by
  rw [vt]; split
  ·have q:=iW (W:=W) hz n 0 Y hn
   exact (qy f _ _ (by omega) (by rw [q.length_eq]; exact hn)).trans q
  ·exact List.Perm.refl _
theorem xq (W X:List Nat):(Ki W X).Perm X:=by
 have q:=lM (W:=W) X.length 0 X rfl (Nat.zero_le _)
 exact (qy _ _ _ (by decide) q.length_eq.symm).trans q
structure Ord (L N:Nat) (Y:List Nat):Prop where
 n:N = Y.length
 a:bu L Y
theorem Ord.perm {L N:Nat} {X Y:List Nat} (h:Ord L N X) (q:Y.Perm X):Ord L N Y:=⟨by rw [q.length_eq]; exact h.n,h.a.perm q⟩
theorem Ord.in {L N:Nat} {W Y:List Nat} {a b:Nat} (h:Ord L N Y) (hb:b ≤ N):Ord L N (inQ W Y a (b - (a + 1))):=h.perm (gD _ (by have:=h.n; omega))
theorem Ord.sm {L N:Nat} {W Y:List Nat} {f a m b:Nat} (h:Ord L N Y) (h1:a < m) (h2:m < b) (hb:b ≤ N):Ord L N (jU W f Y a m b):=h.perm (ek _ _ _ _ _ h1 h2 (by have:=h.n; omega))
theorem CE (Y:List Nat) (N:Nat) (hN2:N ≤ 1000) (W:List Nat) (L:Nat) (hL:L = W.length) (hO:Ord L N Y) (a b:Nat) (h1:a ≤ b) (h3:b ≤ N):SpecH true Tryz.prog 196 [.ref 0 0 0 N 1,nD a,nD b,.fn (.func 175) [] [.ptr 1 1 0]] [⟨Y.map nD, 3, true⟩,⟨[.sl false L 1 (W.map nD)], 152, false⟩] (.tup []) [⟨(inQ W Y a (b - (a + 1))).map nD, 3, true⟩,⟨[.sl false L 1 (W.map nD)], 152, false⟩]:=HL Y N hO.n hN2 W L hL hO.a a b h1 h3 _ rfl
theorem HR (Y:List Nat) (N:Nat) (hN2:N ≤ 1000) (W:List Nat) (L:Nat) (hL:L = W.length) (hO:Ord L N Y) (z a:Nat) (hz:0 < z) (h3:a + 2 * z ≤ N):SpecH true Tryz.prog 197 [.ref 0 0 0 N 1,nD a,iD ((a:Int) + z),nD (a + 2 * z),.fn (.func 175) [] [.ptr 1 1 0]] [⟨Y.map nD, 3, true⟩,⟨[.sl false L 1 (W.map nD)], 152, false⟩] (.tup []) [⟨(jU W (2 * z) Y a (a + z) (a + 2 * z)).map nD, 3, true⟩,⟨[.sl false L 1 (W.map nD)], 152, false⟩] :=
 tP W L hL N hN2 (2 * z) Y hO.n hO.a a (a + z) (a + 2 * z) (by omega) (by omega) h3 (by omega)
theorem HS (Y:List Nat) (N:Nat) (hN2:N ≤ 1000) (W:List Nat) (L:Nat) (hL:L = W.length) (hO:Ord L N Y) (z a:Nat) (hz:0 < z) (h:a + z < N) (h3:N < a + 2 * z):SpecH true Tryz.prog 197 [.ref 0 0 0 N 1,nD a,iD ((a:Int) + z),nD N,.fn (.func 175) [] [.ptr 1 1 0]] [⟨Y.map nD, 3, true⟩,⟨[.sl false L 1 (W.map nD)], 152, false⟩] (.tup []) [⟨(jU W (2 * z) Y a (a + z) N).map nD, 3, true⟩,⟨[.sl false L 1 (W.map nD)], 152, false⟩] :=
 tP W L hL N hN2 (2 * z) Y hO.n hO.a a (a + z) N (by omega) h (Nat.le_refl _) (by omega)
theorem HT (X:List Nat) (N:Nat) (hN2:N ≤ 1000) (W:List Nat) (L:Nat) (hL:L = W.length) (hO:Ord L N X) (T1 T:List Nat) (hT1:vr W N N 0 X = T1) (hO1:Ord L N T1) (hT:vt W N N 20 T1 = T):SpecH true Tryz.prog 190 [.ref 0 0 0 N 1,nD N,.fn (.func 175) [] [.ptr 1 1 0]] [⟨X.map nD, 3, true⟩,⟨[.sl false L 1 (W.map nD)], 152, false⟩] (.tup []) [⟨T.map nD, 3, true⟩,⟨[.sl false L 1 (W.map nD)], 152, false⟩]:=by
 refine SpecH.run T_ok ah Tryz.func190 rfl rfl rfl ⟨lv _,rfl,trivial⟩ rfl 1000 64 (fun R ok=>(.s 4 (Hn.inl T_ok ah false 63 2 (aA Tryz.prog 190 0) (fun (x:(a:Nat) ×' (Y:List Nat) ×' (f:Nat) ×' (ha:a ≤ N) ×' (hQ:Ord L N Y) ×' (hf:N - a ≤ f) ×' (hR:vr W N f a Y = T1) ×' Unit)=>match x with | ⟨a,Y,f,ha,hQ,hf,hR,_⟩=>CutS.mk [(0,D.ref 0 0 0 N 1),(1,nD N),(2,D.fn (Fn.func 175) [] [D.ptr 1 1 0]),(6,iD 20),(7,nD a),(8,nD (a + 20))] [⟨0,0,0,0,.b ⟨Y.map nD,3,true⟩⟩,⟨1,1,1,1,.b ⟨[D.sl false L 1 (map nD W)],152,false⟩⟩] 24) (fun (x:(a:Nat) ×' (Y:List Nat) ×' (f:Nat) ×' (ha:a ≤ N) ×' (hQ:Ord L N Y) ×' (hf:N - a ≤ f) ×' (hR:vr W N f a Y = T1) ×' Unit)=>match x with | ⟨a,Y,f,ha,hQ,hf,hR,_⟩=>N - a) [⟨(a2:Nat) ×' (Y2:List Nat) ×' (ha2:a2 ≤ N) ×' (hQ2:Ord L N Y2) ×' (hR2:inQ W Y2 a2 (N - (a2 + 1)) = T1) ×' Unit,.exit 0,fun x=>match x with | ⟨a2,Y2,ha2,hQ2,hR2,_⟩=>CutS.mk [(0,D.ref 0 0 0 N 1),(1,nD N),(2,D.fn (Fn.func 175) [] [D.ptr 1 1 0]),(6,iD 20),(7,nD a2),(8,nD (a2 + 20))] [⟨0,0,0,0,.b ⟨Y2.map nD,3,true⟩⟩,⟨1,1,1,1,.b ⟨[D.sl false L 1 (map nD W)],152,false⟩⟩] 24⟩] 1000 64 (fun | ⟨a,Y,f,ha,hQ,hf,hR,_⟩,Q,next1,last1=>(.s 4 (.br (decide ((↑(a + 20):Int) ≤ (↑N:Int))) (fun p0=>have p0f:=aS p0; (.s 5 (.call 196 true [0,1] (true) wr ([D.ref 0 0 0 N 1,nD a,nD (a + 20),D.fn (Fn.func 175) [] [D.ptr 1 1 0]]) _ (bY.refl _) (ab (map nD Y) && true) (by (simp; done)) _ _ _ (CallOk.fn (aw.of Tryz.func196 rfl rfl) (@CE (Y) (N) om (W) (L) om om (a) (a + 20) om om)) (.s 6 (.ow ((↑(a + 20):Int) + 20) (.s 1 (.val 8 (iD ((↑(a + 20):Int) + 20)) (nD (a + 20 + 20)) xp (Hn.next next1 ⟨(a + 20),(inQ W Y a (a + 20 - (a + 1))),(f - 1),om,(by (exact hQ.in (by (omega)))),om,(by ( exact Kd hR om om)),⟨⟩⟩ (by show N - (a + 20) < N - a; clear next1 last1; omega) [(0,0),(1,1)] ro)))))))) (fun p0=>have p0f:=aT p0; (Hn.last last1 0 (⟨(a),(Y),om,om,(by ( exact Ke hR om)),⟨⟩⟩:(a2:Nat) ×' (Y2:List Nat) ×' (ha2:a2 ≤ N) ×' (hQ2:Ord L N Y2) ×' (hR2:inQ W Y2 a2 (N - (a2 + 1)) = T1) ×' Unit) rfl [(0,0),(1,1)] ro))))) (fun | ⟨a,Y,f,ha,hQ,hf,hR,_⟩=>by kernel_rfl) ⟨(0),(X),(N),om,om,om,om,⟨⟩⟩ [(0,0),(1,1)] ro (cb (fun | ⟨a2,Y2,ha2,hQ2,hR2,_⟩=>(.s 5 (.call 196 true [0,1] (true) wr ([D.ref 0 0 0 N 1,nD a2,nD N,D.fn (Fn.func 175) [] [D.ptr 1 1 0]]) _ (bY.refl _) (ab (map nD Y2) && true) (by (simp; done)) _ _ _ (CallOk.fn (aw.of Tryz.func196 rfl rfl) (@CE (Y2) (N) om (W) (L) om om (a2) (N) om om)) (.blk 0 0 (Blk.mk (map nD (inQ W Y2 a2 (N - (a2 + 1)))) 3 true) (Blk.mk (map nD T1) 3 true) (by (rw [hR2])) (Hn.inl T_ok ah false 63 2 (aA Tryz.prog 190 1) (fun (x:(z:Nat) ×' (Z:List Nat) ×' (f:Nat) ×' (hz:20 ≤ z ∧ z ≤ 2000) ×' (hQ:Ord L N Z) ×' (hf:N - z ≤ f) ×' (hR:vt W N f z Z = T) ×' Unit)=>match x with | ⟨z,Z,f,hz,hQ,hf,hR,_⟩=>CutS.mk [(0,D.ref 0 0 0 N 1),(1,nD N),(2,D.fn (Fn.func 175) [] [D.ptr 1 1 0]),(6,nD z)] [⟨0,0,0,0,.b ⟨Z.map nD,3,true⟩⟩,⟨1,1,1,1,.b ⟨[D.sl false L 1 (map nD W)],152,false⟩⟩] 24) (fun (x:(z:Nat) ×' (Z:List Nat) ×' (f:Nat) ×' (hz:20 ≤ z ∧ z ≤ 2000) ×' (hQ:Ord L N Z) ×' (hf:N - z ≤ f) ×' (hR:vt W N f z Z = T) ×' Unit)=>match x with | ⟨z,Z,f,hz,hQ,hf,hR,_⟩=>N - z) [⟨Unit,.exit 2,fun x=>match x with | ()=>CutS.mk [(0,D.ref 0 0 0 N 1),(1,nD N),(2,D.fn (Fn.func 175) [] [D.ptr 1 1 0])] [⟨0,0,0,0,.b ⟨T.map nD,3,true⟩⟩,⟨1,1,1,1,.b ⟨[D.sl false L 1 (map nD W)],152,false⟩⟩] 24⟩] 1000 64 (fun | ⟨z,Z,f,hz,hQ,hf,hR,_⟩,Q,next1,last1=>(.s 4 (.br (decide ((↑z:Int) < (↑N:Int))) (fun p1=>have p1f:=aS p1; (.s 3 (.ow (2 * (↑z:Int)) (.s 2 (.val 8 (iD (2 * (↑z:Int))) (nD (0 + 2 * z)) xp (Hn.inl T_ok ah false 63 2 (aA Tryz.prog 190 2) (fun (x:(a:Nat) ×' (Y:List Nat) ×' (g:Nat) ×' (ha:a ≤ N) ×' (hQ:Ord L N Y) ×' (hf:N - a ≤ g) ×' (hR:oE W z N g a Y = oE W z N N 0 Z) ×' Unit)=>match x with | ⟨a,Y,g,ha,hQ,hf,hR,_⟩=>CutS.mk [(0,D.ref 0 0 0 N 1),(1,nD N),(2,D.fn (Fn.func 175) [] [D.ptr 1 1 0]),(6,nD z),(7,nD a),(8,nD (a + 2 * z))] [⟨0,0,0,0,.b ⟨Y.map nD,3,true⟩⟩,⟨1,1,1,1,.b ⟨[D.sl false L 1 (map nD W)],152,false⟩⟩] 24) (fun (x:(a:Nat) ×' (Y:List Nat) ×' (g:Nat) ×' (ha:a ≤ N) ×' (hQ:Ord L N Y) ×' (hf:N - a ≤ g) ×' (hR:oE W z N g a Y = oE W z N N 0 Z) ×' Unit)=>match x with | ⟨a,Y,g,ha,hQ,hf,hR,_⟩=>N - a) [⟨(a3:Nat) ×' (Y3:List Nat) ×' (ha3:a3 ≤ N ∧ N < a3 + 2 * z) ×' (hQ3:Ord L N Y3) ×' (hR3:(if a3 + z < N then jU W (2 * z) Y3 a3 (a3 + z) N else Y3) = oE W z N N 0 Z) ×' Unit,.exit 4,fun x=>match x with | ⟨a3,Y3,ha3,hQ3,hR3,_⟩=>CutS.mk [(0,D.ref 0 0 0 N 1),(1,nD N),(2,D.fn (Fn.func 175) [] [D.ptr 1 1 0]),(6,nD z),(7,nD a3),(8,nD (a3 + 2 * z))] [⟨0,0,0,0,.b ⟨Y3.map nD,3,true⟩⟩,⟨1,1,1,1,.b ⟨[D.sl false L 1 (map nD W)],152,false⟩⟩] 24⟩] 1000 64 (fun | ⟨a,Y,g,ha,hQ,hf,hR,_⟩,Q,next2,last2=>(.s 4 (.br (decide ((↑(a + 2 * z):Int) ≤ (↑N:Int))) (fun p2=>have p2f:=aS p2; (.s 6 (.ow ((↑a:Int) + (↑z:Int)) (.s 3 (.call 197 true [0,1] (true) wr ([D.ref 0 0 0 N 1,nD a,iD ((↑a:Int) + (↑z:Int)),nD (a + 2 * z),D.fn (Fn.func 175) [] [D.ptr 1 1 0]]) _ (bY.refl _) (ab (map nD Y) && true) (by (simp; done)) _ _ _ (CallOk.fn (aw.of Tryz.func197 rfl rfl) (@HR (Y) (N) om (W) (L) om om (z) (a) om om)) (.s 6 (.ow (2 * (↑z:Int)) (.s 2 (.ow ((↑(a + 2 * z):Int) + 2 * (↑z:Int)) (.s 1 (.val 8 (iD ((↑(a + 2 * z):Int) + 2 * (↑z:Int))) (nD (a + 2 * z + 2 * z)) xp (Hn.next next2 ⟨(a + 2 * z),(jU W (2 * z) Y a (a + z) (a + 2 * z)),(g - 1),om,(by (exact hQ.sm (by (omega)) (by (omega)) (by (omega)))),om,(by ( exact Kf hR om om om)),⟨⟩⟩ (by show N - (a + 2 * z) < N - a; clear next2 last2 next1 last1; omega) [(0,0),(1,1)] ro)))))))))))) (fun p2=>have p2f:=aT p2; (Hn.last last2 0 (⟨(a),(Y),om,om,(by ( exact Kg hR om)),⟨⟩⟩:(a3:Nat) ×' (Y3:List Nat) ×' (ha3:a3 ≤ N ∧ N < a3 + 2 * z) ×' (hQ3:Ord L N Y3) ×' (hR3:(if a3 + z < N then jU W (2 * z) Y3 a3 (a3 + z) N else Y3) = oE W z N N 0 Z) ×' Unit) rfl [(0,0),(1,1)] ro))))) (fun | ⟨a,Y,g,ha,hQ,hf,hR,_⟩=>by kernel_rfl) ⟨(0),(Z),(N),om,om,om,wr,⟨⟩⟩ [(0,0),(1,1)] ro (cb (fun | ⟨a3,Y3,ha3,hQ3,hR3,_⟩=>(.s 4 (.ow ((↑a3:Int) + (↑z:Int)) (.s 5 (.br (decide ((↑a3:Int) + (↑z:Int) < (↑N:Int))) (fun p3=>have p3f:=aS p3; (.s 6 (.call 197 true [0,1] (true) wr ([D.ref 0 0 0 N 1,nD a3,iD ((↑a3:Int) + (↑z:Int)),nD N,D.fn (Fn.func 175) [] [D.ptr 1 1 0]]) _ (bY.refl _) (ab (map nD Y3) && true) (by (simp; done)) _ _ _ (CallOk.fn (aw.of Tryz.func197 rfl rfl) (@HS (Y3) (N) om (W) (L) om om (z) (a3) om om om)) (.s 3 (.ow ((↑z:Int) * 2) (.s 1 (.val 6 (iD ((↑z:Int) * 2)) (nD (2 * z)) xp (.blk 0 0 (Blk.mk (map nD (jU W (2 * z) Y3 a3 (a3 + z) N)) 3 true) (Blk.mk (map nD (oE W z N N 0 Z)) 3 true) (by ( rw [if_pos om] at hR3; rw [hR3])) (Hn.next next1 ⟨(2 * z),(oE W z N N 0 Z),(f - 1),om,(by ( exact hQ.perm (iW om _ _ _ hQ.n))),om,(by ( exact HQ hR om om)),⟨⟩⟩ (by show N - 2 * z < N - z; clear next1 last1; omega) [(0,0),(1,1)] ro))))))))) (fun p3=>have p3f:=aT p3; (.s 3 (.ow ((↑z:Int) * 2) (.s 1 (.val 6 (iD ((↑z:Int) * 2)) (nD (2 * z)) xp (.blk 0 0 (Blk.mk (map nD Y3) 3 true) (Blk.mk (map nD (oE W z N N 0 Z)) 3 true) (by ( rw [if_neg om] at hR3; rw [hR3])) (Hn.next next1 ⟨(2 * z),(oE W z N N 0 Z),(f - 1),om,(by ( exact hQ.perm (iW om _ _ _ hQ.n))),om,(by ( exact HQ hR om om)),⟨⟩⟩ (by show N - 2 * z < N - z; clear next1 last1; omega) [(0,0),(1,1)] ro))))))))))))))))))) (fun p1=>have p1f:=aT p1; (.blk 0 0 (Blk.mk (map nD Z) 3 true) (Blk.mk (map nD T) 3 true) (by ( rw [Kh hR om])) (Hn.last last1 0 (():Unit) rfl [(0,0),(1,1)] ro)))))) (fun | ⟨z,Z,f,hz,hQ,hf,hR,_⟩=>by kernel_rfl) ⟨(20),(T1),(N),om,om,om,om,⟨⟩⟩ [(0,0),(1,1)] ro (cb (fun | ()=>(.out [0,1] [0,1] (D.tup []) [Blk.mk (map nD T) 3 true,Blk.mk [D.sl false L 1 (map nD W)] 152 false] R (ok _ _ wr wr))))))))))))) (by kernel_rfl)
end Vp
end Go.Proofs.YtefjnofhgkjpmaaGreat
namespace Go.Proofs.YtefjnofhgkjpmaaGreat
open Go.RowKit Go.Bw Go.Vx
open List (length getD map take drop flatMap replicate)
namespace Vp
theorem sa {p:Prop} (h:p:=by ((refine aH ?_ ?_) <;> (repeat' (first | (refine aH ?_ ?_) | (with_reducible rfl) | (refine decide_eq_true ?_) | (refine Nat.ble_eq_true_of_le ?_) | (refine et ?_))) <;> (omega))):p:=h
theorem xu {p:Prop} (h:p:=by (simp only [bm (k:=2) (fun (x:Pc)=>(rfl:(cy x).length = 2)),Nat.beq_refl,Bool.true_and,Bool.and_true]; refine Nat.ble_eq_true_of_le ?_; (omega))):p:=h
theorem xv {p:Prop} (h:p:=by (rw [List.length_append]; rfl)):p:=h
theorem xw {p:Prop} (h:p:=by (rw [List.length_append]; simp only [List.length_singleton]; (omega))):p:=h
theorem zV {p:Prop} (h:p:=by (refine decide_eq_false ?_; (omega))):p:=h
theorem zW {p:Prop} (h:p:=by (refine aO ?_; (omega))):p:=h
theorem zX {p:Prop} (h:p:=by ( have q:=@Ku row i; refine aO ?_; omega)):p:=h
def eu (W:List Nat) (k:Nat):List Nat:=lk W ((List.range k).filter fun i=>decide (0 < W.getD i default))
theorem fa (W:List Nat) (k:Nat):eu W k = (List.range k).filter fun i=>decide (0 < W.getD i default):=aF _ _
theorem CG (W:List Nat):eu W 0 = []:=fa W 0
theorem CH {W:List Nat} {k:Nat} (h:0 < W.getD (k * 1) default):eu W (k + 1) = eu W k ++ [k]:=by
 rw [Nat.mul_one] at h
 rw [fa,fa,List.range_succ,List.filter_append,List.filter_cons_of_pos (by simpa using h)]; rfl
theorem CI {W:List Nat} {k:Nat} (h:¬ 0 < W.getD (k * 1) default):eu W (k + 1) = eu W k:=by
 rw [Nat.mul_one] at h
 rw [fa,fa,List.range_succ,List.filter_append,List.filter_cons_of_neg (by simpa using h),List.filter_nil,List.append_nil]
theorem ip (W:List Nat) (k:Nat):(eu W k).length ≤ k:=by
 rw [fa]; exact Nat.le_trans (List.length_filter_le _ _) (by simp)
theorem oF {W:List Nat} {k:Nat}:bu k (eu W k):=fun x hx=>by
 rw [fa,List.mem_filter] at hx
 exact List.mem_range.1 hx.1
def eQ (W:List Nat):List Nat:=lk W (Ki W (eu W W.length))
theorem xx (W:List Nat):eQ W = Ki W (eu W W.length):=aF _ _
theorem dL (W:List Nat):(eQ W).Perm (eu W W.length):=by rw [xx]; exact xq _ _
structure SrE (W:List Nat) (L N:Nat) (X T1 T:List Nat):Prop where
 o:Ord L N X
 t1:vr W N N 0 X = T1
 o1:Ord L N T1
 t:vt W N N 20 T1 = T
theorem EF {W:List Nat} {L N:Nat} (hL:L = W.length) {X:List Nat} (hX:X = eu W L) (hN:N = X.length):∃ T1,SrE W L N X T1 (eQ W):=by
 subst hX hN hL
 have o:Ord W.length (eu W W.length).length (eu W W.length):=⟨rfl,oF⟩
 exact ⟨_,o,rfl,o.perm (lM _ _ _ rfl (Nat.zero_le _)),by rw [xx]; rfl⟩
theorem Kj {m:Nat} (h:m ≤ 15):IntKind.i64.wrap (2 ^ min m 64 * 1) = ((2 ^ m:Nat):Int):=by
 have h2:2 ^ m ≤ 2 ^ 15:=Nat.pow_le_pow_right (by decide) h
 rw [show min m 64 = m from by omega,Int.mul_one,show (2:Int) ^ m = ((2 ^ m:Nat):Int) from by push_cast; rfl]
 generalize 2 ^ m = Z at *
 have q:=fq (x:=((Z:Nat):Int)) (by omega)
 rw [aM] at q
 injection q with q; injection q with q; injection q
structure Pc where
 w:Nat
 p:Bool
 deriving Inhabited
abbrev cy (x:Pc):List D:=[nD x.w,bD x.p]
def f9 (ws:List Nat):List Pc:=ws.map fun w=>⟨w,false⟩
def dW (s:Nat):List Nat → List Pc × List Nat
 | []=>([⟨s,true⟩],[])
 | w :: r=>if s < w then ([⟨s,true⟩],w :: r) else (⟨w,false⟩ :: (dW s r).1,(dW s r).2)
def ew:List Pc → List Nat → List Pc
 | x :: y :: r,ws=>(dW (x.w + y.w) ws).1 ++ ew r (dW (x.w + y.w) ws).2
 | _,ws=>f9 ws
def EG (row:List Pc) (ws:List Nat):List Pc:=lk ws (ew row ws)
theorem f7 (row:List Pc) (ws:List Nat):EG row ws = ew row ws:=aF _ _
theorem Kk {row:List Pc} {ws:List Nat} {i:Nat} (h:i + 1 < row.length):ew (row.drop i) ws = (dW ((row.getD i default).w + (row.getD (i + 1) default).w) ws).1 ++ ew (row.drop (i + 2)) (dW ((row.getD i default).w + (row.getD (i + 1) default).w) ws).2:=by
 rw [List.drop_eq_getElem_cons (show i < row.length by omega),List.drop_eq_getElem_cons h,ew]
 have e1:row[i] = row.getD i default:=by rw [List.getD_eq_getElem?_getD,List.getElem?_eq_getElem (by omega)]; rfl
 have e2:row[i + 1] = row.getD (i + 1) default:=by rw [List.getD_eq_getElem?_getD,List.getElem?_eq_getElem h]; rfl
 rw [e1,e2]
theorem Kl {row:List Pc} {ws:List Nat} {i:Nat} (h:¬ i + 1 < row.length):ew (row.drop i) ws = f9 ws:=by
 have:(row.drop i).length ≤ 1:=by rw [List.length_drop]; omega
 match hm:row.drop i,this with
 | [],_=>rfl
 | [x],_=>rfl
theorem Km {s:Nat} {ws:List Nat} {k:Nat} (hk:k < ws.length) (h:s < ws.getD k default):dW s (ws.drop k) = ([⟨s,true⟩],ws.drop k):=by
 have e1:ws[k] = ws.getD k default:=by rw [List.getD_eq_getElem?_getD,List.getElem?_eq_getElem hk]; rfl
 rw [List.drop_eq_getElem_cons hk,dW,if_pos (by rw [e1]; exact h)]
theorem Kn {s:Nat} {ws:List Nat} {k:Nat} (hk:k < ws.length) (h:¬ s < ws.getD k default):dW s (ws.drop k) = (⟨ws.getD k default,false⟩ :: (dW s (ws.drop (k + 1))).1,(dW s (ws.drop (k + 1))).2):=by
 have e1:ws[k] = ws.getD k default:=by rw [List.getD_eq_getElem?_getD,List.getElem?_eq_getElem hk]; rfl
 conv=>lhs; rw [List.drop_eq_getElem_cons hk,dW,if_neg (by rw [e1]; exact h),e1]
theorem Ko {s:Nat} {ws:List Nat} {k:Nat} (hk:¬ k < ws.length):dW s (ws.drop k) = ([⟨s,true⟩],[]):=by
 rw [List.drop_eq_nil_of_le (by omega)]; rfl
section
variable {row o T:List Pc} {ws:List Nat} {i k s x:Nat}
theorem Kp (h:i + 1 < row.length) (hR:o ++ ew (row.drop i) (ws.drop k) = T):o ++ ((dW ((row.getD i default).w + (row.getD (i + 1) default).w) (ws.drop k)).1 ++ ew (row.drop (i + 2)) (dW ((row.getD i default).w + (row.getD (i + 1) default).w) (ws.drop k)).2) = T:=by rw [← hR,Kk h]
theorem Kq (hk:k < ws.length) (h:s < ws.getD k default) (hR:o ++ ((dW s (ws.drop k)).1 ++ ew (row.drop (i + 2)) (dW s (ws.drop k)).2) = T):(o ++ [⟨s,true⟩]) ++ ew (row.drop (i + 2)) (ws.drop k) = T:=by
 rw [← hR,Km hk h,List.append_assoc]
theorem Kr (hk:k < ws.length) (h:¬ s < ws.getD k default) (hR:o ++ ((dW s (ws.drop k)).1 ++ ew (row.drop (i + 2)) (dW s (ws.drop k)).2) = T):(o ++ [⟨ws.getD k default,false⟩]) ++ ((dW s (ws.drop (k + 1))).1 ++ ew (row.drop (i + 2)) (dW s (ws.drop (k + 1))).2) = T:=by
 rw [← hR,Kn hk h,List.append_assoc]; rfl
theorem Ks (hk:¬ k < ws.length) (hR:o ++ ((dW s (ws.drop k)).1 ++ ew (row.drop (i + 2)) (dW s (ws.drop k)).2) = T):(o ++ [⟨s,true⟩]) ++ ew (row.drop (i + 2)) (ws.drop k) = T:=by
 rw [← hR,Ko hk,show ws.drop k = [] from List.drop_eq_nil_of_le (by omega),List.append_assoc]
theorem Kt (h:¬ i + 1 < row.length) (hR:o ++ ew (row.drop i) (ws.drop k) = T):o ++ f9 (ws.drop k) = T:=by rw [← hR,Kl h]
theorem HU (hk:k < ws.length) (hR:o ++ f9 (ws.drop k) = T):(o ++ [⟨ws.getD k default,false⟩]) ++ f9 (ws.drop (k + 1)) = T:=by
 have e1:ws[k] = ws.getD k default:=by rw [List.getD_eq_getElem?_getD,List.getElem?_eq_getElem hk]; rfl
 rw [← hR,List.drop_eq_getElem_cons hk,List.append_assoc,e1]; rfl
theorem zY (hk:¬ k < ws.length) (hR:o ++ f9 (ws.drop k) = T):o = T:=by
 rw [← hR,List.drop_eq_nil_of_le (by omega)]; exact (List.append_nil _).symm
end
theorem zZ (W:List Nat) (L:Nat) (hL:L = W.length) (hL2:L ≤ 320) (hB:∀ t,W.getD t default ≤ 1073741824) (m:Nat) (hm:1 ≤ m ∧ m ≤ 15) (N:Nat) (hN:N = (eu W L).length) (X T1:List Nat) (hX:eu W L = X) (hS:SrE W L N X T1 (eQ W)) (hNm:N ≤ 2 ^ m) (o:Ord L N X) (t1:vr W N N 0 X = T1) (o1:Ord L N T1) (t:vt W N N 20 T1 = eQ W):SpecH false Tryz.prog 144 [.sl false L 1 (W.map nD),nD m] [] (.tup [.ref 0 0 0 N 1,iD 0]) [⟨(eQ W).map nD, 3, true⟩]:=by
 have hP:=Kj hm.2
 have hN3:N ≤ 320:=by rw [hN]; exact Nat.le_trans (ip W L) hL2
 refine SpecH.run T_ok ah Tryz.func144 rfl rfl rfl ⟨DQ _ (fun _=>rfl) _,trivial⟩ rfl 1000 64 (fun R ok=>(.s 9 (.f (decide ((↑m:Int) < 1)) zV (.s 4 (.f (decide (15 < (↑m:Int))) zV (.s 6 (.f (decide (320 < (↑L:Int))) zV (.s 5 (.nils 4 120 1 3 (.val 4 (D.ref 120 120 0 0 1) (D.ref 120 120 0 (length (eu W 0)) 1) (by (rw [CG]; rfl)) (.blk 120 120 (Blk.mk [] 3 true) (Blk.mk (map nD (eu W 0)) 3 true) (by (rw [CG]; rfl)) (Hn.inl T_ok ah false 46 0 (aA Tryz.prog 144 0) (fun (x:(k:Nat) ×' (hk:k ≤ L) ×' Unit)=>match x with | ⟨k,hk,_⟩=>CutS.mk [(1,nD m),(2,D.ptr 0 0 0),(4,(D.ref 8 8 (0) ((eu W k).length) 1)),(17,D.sl false L 1 (map nD W)),(18,nD L),(19,nD k)] [⟨0,0,0,0,.b ⟨[D.sl false L 1 (map nD W)],152,false⟩⟩,⟨8,8,120,120,.b ⟨(eu W k).map nD,3,true⟩⟩] 16) (fun (x:(k:Nat) ×' (hk:k ≤ L) ×' Unit)=>match x with | ⟨k,hk,_⟩=>L - k) [⟨Unit,.exit 0,fun x=>match x with | ()=>CutS.mk [(1,nD m),(2,D.ptr 0 0 0),(4,(D.ref 8 8 (0) (N) 1)),(17,D.sl false L 1 (map nD W)),(18,nD L)] [⟨0,0,0,0,.b ⟨[D.sl false L 1 (map nD W)],152,false⟩⟩,⟨8,8,120,120,.b ⟨X.map nD,3,true⟩⟩] 16⟩] 1000 64 (fun | ⟨k,hk,_⟩,Q,next1,last1=>(.s 2 (.br (decide ((↑k:Int) < (↑L:Int))) (fun p0=>have p0f:=aS p0; (.s 2 (.chk (true && decide ((↑k:Int) < (↑L:Int)) && true) sa (.s 2 (.opt ((map nD W)[k * 1]?) (nD (getD W (k * 1) default)) (av _ _ om) (.s 12 (.f (decide (1073741824 < (↑(getD W (k * 1) default):Int))) (by (refine decide_eq_false ?_;  have h9:=hB (k * 1); have h8:=ip W k; omega)) (.s 3 (.br (decide (0 < (↑(getD W (k * 1) default):Int))) (fun p1=>have p1f:=aS p1; (.s 5 (.chk (true && Nat.beq (length (eu W k) * 1) (length (map nD (eu W k))) && true && true && true && true && Nat.ble ((length (eu W k) + 1) * 8) 140737488355328) (by (simp;  have h9:=hB (k * 1); have h8:=ip W k; omega)) (.s 3 (.ow ((↑k:Int) + 1) (.s 1 (.val 4 (D.ref 152 152 0 (length (eu W k) + 1) 1) (D.ref 152 152 0 (length (eu W (k + 1))) 1) (by (rw [CH (by (omega)),List.length_append]; rfl)) (.val 19 (iD ((↑k:Int) + 1)) (nD (k + 1)) zW (.blk 152 152 (Blk.mk (map nD (eu W k) ++ [nD k]) 3 true) (Blk.mk (map nD (eu W (k + 1))) 3 true) (by (rw [CH (by (omega)),List.map_append]; rfl)) (Hn.next next1 ⟨(k + 1),om,⟨⟩⟩ (by show L - (k + 1) < L - k; clear next1 last1; omega) [(0,0),(152,152)] ro)))))))))) (fun p1=>have p1f:=aT p1; (.s 2 (.ow ((↑k:Int) + 1) (.s 1 (.val 4 (D.ref 8 8 0 (length (eu W k)) 1) (D.ref 8 8 0 (length (eu W (k + 1))) 1) (by (rw [CI (by (omega))])) (.val 19 (iD ((↑k:Int) + 1)) (nD (k + 1)) zW (.blk 8 8 (Blk.mk (map nD (eu W k)) 3 true) (Blk.mk (map nD (eu W (k + 1))) 3 true) (by (rw [CI (by (omega))])) (Hn.next next1 ⟨(k + 1),om,⟨⟩⟩ (by show L - (k + 1) < L - k; clear next1 last1; omega) [(0,0),(8,8)] ro))))))))))))))))) (fun p0=>have p0f:=aT p0; (.val 4 (D.ref 8 8 0 (length (eu W k)) 1) (D.ref 8 8 0 N 1) (by ( rw [show k = L from by omega,hX,o.n])) (.blk 8 8 (Blk.mk (map nD (eu W k)) 3 true) (Blk.mk (map nD X) 3 true) (by ( rw [show k = L from by omega,hX])) (Hn.last last1 0 (():Unit) rfl [(0,0),(8,8)] ro))))))) (fun | ⟨k,hk,_⟩=>by kernel_rfl) ⟨(0),om,⟨⟩⟩ [(0,0),(120,120)] ro (cb (fun | ()=>(.s 5 (.opt (az .i64 (2 ^ min m 64 * 1)) (iD (IntKind.wrap IntKind.i64 (2 ^ min m 64 * 1))) (aM _ _) (.s 2 (.f (decide (IntKind.wrap IntKind.i64 (2 ^ min m 64 * 1) < (↑N:Int))) zV (.s 9 (.call 190 true [8,0] (true) wr ([D.ref 0 0 0 N 1,nD N,D.fn (Fn.func 175) [] [D.ptr 1 1 0]]) _ (bY.refl _) (ab (map nD X) && true) (by (simp; done)) _ _ _ (CallOk.fn (aw.of Tryz.func190 rfl rfl) (@HT (X) (N) om (W) (L) om om (T1) (eQ W) bt om bt)) (.s 3 (.out [8] [8] (D.tup [D.ref 0 0 0 N 1,iD 0]) [Blk.mk (map nD (eQ W)) 3 true] R (ok _ _ wr wr))))))))))))))))))))))) (by kernel_rfl)
theorem HV {o:List Pc} {x:Pc}:(o ++ [x]).flatMap cy = o.flatMap cy ++ [nD x.w,bD x.p]:=by rw [List.flatMap_append]; rfl
theorem HW {row:List Pc} {B:Nat} (h:∀ x ∈ row,x.w ≤ B) {i:Nat} (hi:i < row.length):(row.getD i default).w ≤ B:=by
 rw [List.getD_eq_getElem?_getD,List.getElem?_eq_getElem hi]; exact h _ (List.getElem_mem hi)
def sP (row:List Pc) (i:Nat):Nat:=lk row ((row.getD i default).w + (row.getD (i + 1) default).w)
theorem xy (ws:List Nat) {k j:Nat} (h:k + j < ws.length):(List.drop (k * 1) (ws.map nD))[j * 1]? = some (nD (ws.getD (k + j) default)):=by
 rw [Nat.mul_one,Nat.mul_one,List.getElem?_drop,List.getElem?_map,List.getD_eq_getElem?_getD,List.getElem?_eq_getElem h]; rfl
theorem CJ (row:List Pc) (i:Nat):sP row i = (row.getD i default).w + (row.getD (i + 1) default).w:=aF _ _
theorem Ku {row:List Pc} {i:Nat}:((sP row i:Nat):Int) = ((row.getD i default).w:Int) + ((row.getD ((i:Int) + 1).toNat default).w:Int):=by rw [CJ,show ((i:Int) + 1).toNat = i + 1 from by omega]; push_cast; rfl
section
variable {row o T:List Pc} {ws:List Nat} {i k:Nat}
theorem HX (h:i + 1 < row.length) (hR:o ++ ew (row.drop i) (ws.drop k) = T):o ++ ((dW (sP row i) (ws.drop k)).1 ++ ew (row.drop (i + 2)) (dW (sP row i) (ws.drop k)).2) = T:=by rw [CJ]; exact Kp h hR
end
theorem HY (row:List Pc) (r:Nat) (hr:r = row.length) (hr2:r ≤ 1000) (B:Nat) (hB2:B ≤ 1000000000000000) (hB:∀ x ∈ row,x.w ≤ B) (ws:List Nat) (n:Nat) (hn:n = ws.length) (hn2:n ≤ 1000) (T:List Pc) (hT:EG row ws = T):SpecH false Tryz.prog 145 [.sl false r 2 (row.flatMap cy),.sl false n 1 (ws.map nD)] [] (.ref 0 0 0 T.length 2) [⟨T.flatMap cy, 231, true⟩]:=by
 refine SpecH.run T_ok ah Tryz.func145 rfl rfl rfl ⟨eh (fun _=>rfl) _,trivial⟩ rfl 1000 64 (fun R ok=>(.s 3 (.nils 4 24 2 231 (Hn.inl T_ok ah false 74 0 (aA Tryz.prog 145 0) (fun (x:(i:Nat) ×' (k:Nat) ×' (o:List Pc) ×' (hi:i ≤ r + 1) ×' (hk:k ≤ n) ×' (ho:o.length ≤ i + k) ×' (hR:o ++ ew (row.drop i) (ws.drop k) = T) ×' Unit)=>match x with | ⟨i,k,o,hi,hk,ho,hR,_⟩=>CutS.mk [(0,D.sl false r 2 (flatMap cy row)),(1,D.sl false n 1 (map nD ws)),(4,(D.ref 0 0 (0) (o.length) 2)),(5,nD k),(6,nD i)] [⟨0,0,24,24,.b ⟨o.flatMap cy,231,true⟩⟩] 8) (fun (x:(i:Nat) ×' (k:Nat) ×' (o:List Pc) ×' (hi:i ≤ r + 1) ×' (hk:k ≤ n) ×' (ho:o.length ≤ i + k) ×' (hR:o ++ ew (row.drop i) (ws.drop k) = T) ×' Unit)=>match x with | ⟨i,k,o,hi,hk,ho,hR,_⟩=>r + 1 - i) [⟨(k3:Nat) ×' (o3:List Pc) ×' (hk3:k3 ≤ n) ×' (ho3:o3.length ≤ 3000) ×' (hR3:o3 ++ f9 (ws.drop k3) = T) ×' Unit,.exit 0,fun x=>match x with | ⟨k3,o3,hk3,ho3,hR3,_⟩=>CutS.mk [(0,D.sl false r 2 (flatMap cy row)),(1,D.sl false n 1 (map nD ws)),(4,(D.ref 0 0 (0) (o3.length) 2)),(5,nD k3)] [⟨0,0,24,24,.b ⟨o3.flatMap cy,231,true⟩⟩] 8⟩] 1000 64 (fun | ⟨i,k,o,hi,hk,ho,hR,_⟩,Q,next1,last1=>(.s 3 (.ow ((↑i:Int) + 1) (.s 4 (.br (decide ((↑i:Int) + 1 < (↑r:Int))) (fun p0=>have p0f:=aS p0; (.s 4 (.chk (true && decide ((↑i:Int) < (↑r:Int)) && true) sa (.s 5 (.opt ((flatMap cy row)[i * 2 + 0]?) (nD (Pc.w (getD row i default))) (A5 (k:=2) (i:=i) (j:=0) (fun _=>rfl) om om rfl) (.s 4 (.ow ((↑i:Int) + 1) (.s 1 (.chk (true && decide ((↑i:Int) + 1 < (↑r:Int)) && true) sa (.s 5 (.opt ((flatMap cy row)[Int.toNat ((↑i:Int) + 1) * 2 + 0]?) (nD (Pc.w (getD row (Int.toNat ((↑i:Int) + 1)) default))) (A5 (k:=2) (i:=Int.toNat ((↑i:Int) + 1)) (j:=0) (fun _=>rfl) om om rfl) (.s 2 (.op ((↑(Pc.w (getD row i default)):Int) + (↑(Pc.w (getD row (Int.toNat ((↑i:Int) + 1)) default)):Int)) (by ( have h9:=HW hB (i:=i) om; have h8:=HW hB (i:=((i:Int) + 1).toNat) om; omega)) (.s 1 (.val 7 (iD ((↑(Pc.w (getD row i default)):Int) + (↑(Pc.w (getD row (Int.toNat ((↑i:Int) + 1)) default)):Int))) (nD (sP row i)) zX (Hn.inl T_ok ah false 74 0 (aA Tryz.prog 145 1) (fun (x:(k1:Nat) ×' (o1:List Pc) ×' (hk1:k1 ≤ n) ×' (ho1:o1.length ≤ i + k1) ×' (hR1:o1 ++ ((dW (sP row i) (ws.drop k1)).1 ++ ew (row.drop (i + 2)) (dW (sP row i) (ws.drop k1)).2) = T) ×' Unit)=>match x with | ⟨k1,o1,hk1,ho1,hR1,_⟩=>CutS.mk [(0,D.sl false r 2 (flatMap cy row)),(1,D.sl false n 1 (map nD ws)),(4,(D.ref 0 0 (0) (o1.length) 2)),(5,nD k1),(6,nD i),(7,nD (sP row i))] [⟨0,0,0,0,.b ⟨o1.flatMap cy,231,true⟩⟩] 8) (fun (x:(k1:Nat) ×' (o1:List Pc) ×' (hk1:k1 ≤ n) ×' (ho1:o1.length ≤ i + k1) ×' (hR1:o1 ++ ((dW (sP row i) (ws.drop k1)).1 ++ ew (row.drop (i + 2)) (dW (sP row i) (ws.drop k1)).2) = T) ×' Unit)=>match x with | ⟨k1,o1,hk1,ho1,hR1,_⟩=>n - k1) [⟨(k2:Nat) ×' (o2:List Pc) ×' (hk2:k2 ≤ n) ×' (ho2:o2.length ≤ i + 2 + k2) ×' (hR2:o2 ++ ew (row.drop (i + 2)) (ws.drop k2) = T) ×' Unit,.exit 1,fun x=>match x with | ⟨k2,o2,hk2,ho2,hR2,_⟩=>CutS.mk [(0,D.sl false r 2 (flatMap cy row)),(1,D.sl false n 1 (map nD ws)),(4,(D.ref 0 0 (0) (o2.length) 2)),(5,nD k2),(6,nD i)] [⟨0,0,0,0,.b ⟨o2.flatMap cy,231,true⟩⟩] 8⟩,⟨(k4:Nat) ×' (o4:List Pc) ×' (hk4:k4 ≤ n ∧ n ≤ k4) ×' (ho4:o4.length ≤ i + k4) ×' (hR4:o4 ++ ((dW (sP row i) (ws.drop k4)).1 ++ ew (row.drop (i + 2)) (dW (sP row i) (ws.drop k4)).2) = T) ×' Unit,.exit 2,fun x=>match x with | ⟨k4,o4,hk4,ho4,hR4,_⟩=>CutS.mk [(0,D.sl false r 2 (flatMap cy row)),(1,D.sl false n 1 (map nD ws)),(4,(D.ref 0 0 (0) (o4.length) 2)),(5,nD k4),(6,nD i),(7,nD (sP row i))] [⟨0,0,0,0,.b ⟨o4.flatMap cy,231,true⟩⟩] 8⟩] 1000 64 (fun | ⟨k1,o1,hk1,ho1,hR1,_⟩,Q,next2,last2=>(.s 5 (.br (decide ((↑k1:Int) < (↑n:Int))) (fun p1=>have p1f:=aS p1; (.s 3 (.chk (true && decide ((↑k1:Int) < (↑n:Int)) && true) sa (.s 2 (.opt ((map nD ws)[k1 * 1]?) (nD (getD ws (k1 * 1) default)) (av _ _ om) (.s 3 (.br (decide ((↑(sP row i):Int) < (↑(getD ws (k1 * 1) default):Int))) (fun p2=>have p2f:=aS p2; (.s 7 (.chk (true && Nat.beq (length o1 * 2) (length (flatMap cy o1)) && true && true && true && true && Nat.ble ((length o1 + 1) * 16) 140737488355328) xu (.s 1 (.val 4 (D.ref 120 120 0 (length o1 + 1) 2) (D.ref 120 120 0 (length (o1 ++ [Pc.mk (sP row i) true])) 2) xv (.blk 120 120 (Blk.mk (flatMap cy o1 ++ [nD (sP row i),D.v (.bool true)]) 231 true) (Blk.mk (flatMap cy (o1 ++ [Pc.mk (sP row i) true])) 231 true) (by (simp; done)) (Hn.last last2 0 (⟨(k1),(o1 ++ [⟨sP row i,true⟩]),om,xw,(by (simp only [Nat.mul_one] at *;  exact Kq om om hR1)),⟨⟩⟩:(k2:Nat) ×' (o2:List Pc) ×' (hk2:k2 ≤ n) ×' (ho2:o2.length ≤ i + 2 + k2) ×' (hR2:o2 ++ ew (row.drop (i + 2)) (ws.drop k2) = T) ×' Unit) rfl [(120,120)] ro))))))) (fun p2=>have p2f:=aT p2; (.s 4 (.chk (true && decide ((↑k1:Int) < (↑n:Int)) && true) sa (.s 2 (.opt ((map nD ws)[k1 * 1]?) (nD (getD ws (k1 * 1) default)) (av _ _ om) (.s 5 (.chk (true && Nat.beq (length o1 * 2) (length (flatMap cy o1)) && true && true && true && true && Nat.ble ((length o1 + 1) * 16) 140737488355328) xu (.s 4 (.ow ((↑k1:Int) + 1) (.s 1 (.val 4 (D.ref 144 144 0 (length o1 + 1) 2) (D.ref 144 144 0 (length (o1 ++ [Pc.mk (getD ws k1 default) false])) 2) xv (.val 5 (iD ((↑k1:Int) + 1)) (nD (k1 + 1)) zX (.blk 144 144 (Blk.mk (flatMap cy o1 ++ [nD (getD ws (k1 * 1) default),D.v (.bool false)]) 231 true) (Blk.mk (flatMap cy (o1 ++ [Pc.mk (getD ws k1 default) false])) 231 true) (by (refine aC ?_; rw [HV]; simp only [Nat.mul_one])) (Hn.next next2 ⟨(k1 + 1),(o1 ++ [⟨ws.getD k1 default,false⟩]),om,xw,(by (simp only [Nat.mul_one] at *;  exact Kr om om hR1)),⟨⟩⟩ (by show n - (k1 + 1) < n - k1; clear next2 last2 next1 last1; omega) [(144,144)] ro))))))))))))))))))))) (fun p1=>have p1f:=aT p1; (Hn.last last2 1 (⟨(k1),(o1),om,om,om,⟨⟩⟩:(k4:Nat) ×' (o4:List Pc) ×' (hk4:k4 ≤ n ∧ n ≤ k4) ×' (ho4:o4.length ≤ i + k4) ×' (hR4:o4 ++ ((dW (sP row i) (ws.drop k4)).1 ++ ew (row.drop (i + 2)) (dW (sP row i) (ws.drop k4)).2) = T) ×' Unit) rfl [(0,0)] ro))))) (fun | ⟨k1,o1,hk1,ho1,hR1,_⟩=>by kernel_rfl) ⟨(k),(o),om,om,(by ( exact HX om hR)),⟨⟩⟩ [(0,0)] ro (fc (fun | ⟨k2,o2,hk2,ho2,hR2,_⟩=>(.s 3 (.ow ((↑i:Int) + 2) (.s 1 (.val 6 (iD ((↑i:Int) + 2)) (nD (i + 2)) zX (Hn.next next1 ⟨(i + 2),(k2),(o2),om,om,om,om,⟨⟩⟩ (by show r + 1 - (i + 2) < r + 1 - i; clear next1 last1; omega) [(0,0)] ro)))))) (fun | ⟨k4,o4,hk4,ho4,hR4,_⟩=>(.s 7 (.chk (true && Nat.beq (length o4 * 2) (length (flatMap cy o4)) && true && true && true && true && Nat.ble ((length o4 + 1) * 16) 140737488355328) xu (.s 4 (.ow ((↑i:Int) + 2) (.s 1 (.val 4 (D.ref 40 40 0 (length o4 + 1) 2) (D.ref 40 40 0 (length (o4 ++ [Pc.mk (sP row i) true])) 2) xv (.val 6 (iD ((↑i:Int) + 2)) (nD (i + 2)) zX (.blk 40 40 (Blk.mk (flatMap cy o4 ++ [nD (sP row i),D.v (.bool true)]) 231 true) (Blk.mk (flatMap cy (o4 ++ [Pc.mk (sP row i) true])) 231 true) (by (simp; done)) (Hn.next next1 ⟨(i + 2),(k4),(o4 ++ [⟨sP row i,true⟩]),om,om,xw,(by ( exact Ks om hR4)),⟨⟩⟩ (by show r + 1 - (i + 2) < r + 1 - i; clear next1 last1; omega) [(40,40)] ro))))))))))))))))))))))))))) (fun p0=>have p0f:=aT p0; (Hn.last last1 0 (⟨(k),(o),om,om,(by ( exact Kt om hR)),⟨⟩⟩:(k3:Nat) ×' (o3:List Pc) ×' (hk3:k3 ≤ n) ×' (ho3:o3.length ≤ 3000) ×' (hR3:o3 ++ f9 (ws.drop k3) = T) ×' Unit) rfl [(0,0)] ro))))))) (fun | ⟨i,k,o,hi,hk,ho,hR,_⟩=>by kernel_rfl) ⟨(0),(0),([]),om,om,(by (simp; done)),(by (exact (f7 _ _).symm.trans hT)),⟨⟩⟩ [(24,24)] ro (cb (fun | ⟨k3,o3,hk3,ho3,hR3,_⟩=>(.s 3 (.chk (aL (some (↑k3:Int)) none none n && true) (by (simp <;> (omega))) (.s 2 (Hn.inl T_ok ah false 74 0 (aA Tryz.prog 145 2) (fun (x:(j:Nat) ×' (o:List Pc) ×' (hk:j ≤ n - k3) ×' (ho:o.length ≤ 3000 + j) ×' (hR:o ++ f9 (ws.drop (k3 + j)) = T) ×' Unit)=>match x with | ⟨j,o,hk,ho,hR,_⟩=>CutS.mk [(4,(D.ref 0 0 (0) (o.length) 2)),(61,D.sl false (n - k3) 1 (drop (k3 * 1) (map nD ws))),(62,nD (n - k3)),(63,nD j)] [⟨0,0,0,0,.b ⟨o.flatMap cy,231,true⟩⟩] 8) (fun (x:(j:Nat) ×' (o:List Pc) ×' (hk:j ≤ n - k3) ×' (ho:o.length ≤ 3000 + j) ×' (hR:o ++ f9 (ws.drop (k3 + j)) = T) ×' Unit)=>match x with | ⟨j,o,hk,ho,hR,_⟩=>n - k3 - j) [⟨Unit,.exit 4,fun x=>match x with | ()=>CutS.mk [(4,(D.ref 0 0 (0) (T.length) 2)),(61,D.sl false (n - k3) 1 (drop (k3 * 1) (map nD ws))),(62,nD (n - k3))] [⟨0,0,0,0,.b ⟨T.flatMap cy,231,true⟩⟩] 8⟩] 1000 64 (fun | ⟨j,o,hk,ho,hR,_⟩,Q,next1,last1=>(.s 2 (.br (decide ((↑j:Int) < (↑(n - k3):Int))) (fun p3=>have p3f:=aS p3; (.s 1 (.chk (true && decide ((↑j:Int) < (↑(n - k3):Int)) && true) sa (.s 2 (.opt ((drop (k3 * 1) (map nD ws))[j * 1]?) (nD (getD ws (k3 + j) default)) (@xy ws (k3) (j) om) (.s 8 (.chk (true && Nat.beq (length o * 2) (length (flatMap cy o)) && true && true && true && true && Nat.ble ((length o + 1) * 16) 140737488355328) xu (.s 3 (.ow ((↑j:Int) + 1) (.s 1 (.val 4 (D.ref 72 72 0 (length o + 1) 2) (D.ref 72 72 0 (length (o ++ [Pc.mk (getD ws (k3 + j) default) false])) 2) xv (.val 63 (iD ((↑j:Int) + 1)) (nD (j + 1)) zW (.blk 72 72 (Blk.mk (flatMap cy o ++ [nD (getD ws (k3 + j) default),D.v (.bool false)]) 231 true) (Blk.mk (flatMap cy (o ++ [Pc.mk (getD ws (k3 + j) default) false])) 231 true) (by (simp; done)) (Hn.next next1 ⟨(j + 1),(o ++ [⟨ws.getD (k3 + j) default,false⟩]),om,xw,(by ( exact HU om hR)),⟨⟩⟩ (by show n - k3 - (j + 1) < n - k3 - j; clear next1 last1; omega) [(72,72)] ro)))))))))))))) (fun p3=>have p3f:=aT p3; (.val 4 (D.ref 0 0 0 (length o) 2) (D.ref 0 0 0 (length T) 2) (by ( rw [zY om hR])) (.blk 0 0 (Blk.mk (flatMap cy o) 231 true) (Blk.mk (flatMap cy T) 231 true) (by ( rw [zY om hR])) (Hn.last last1 0 (():Unit) rfl [(0,0)] ro))))))) (fun | ⟨j,o,hk,ho,hR,_⟩=>by kernel_rfl) ⟨(0),(o3),om,om,om,⟨⟩⟩ [(0,0)] ro (cb (fun | ()=>(.s 2 (.out [0] [0] (D.ref 0 0 0 (length T) 2) [Blk.mk (flatMap cy T) 231 true] R (ok _ _ wr wr))))))))))))))) (by kernel_rfl)
theorem z0 (ws:List Nat) {j:Nat} (h:j < ws.length):(List.drop (0 * 1) (ws.map nD))[j * 1]? = some (nD (ws.getD j default)):=by
 have:=xy ws (k:=0) (j:=j) (by omega)
 rwa [Nat.zero_add] at this
theorem HZ (ws:List Nat) (n:Nat) (hn:n = ws.length) (hn2:n ≤ 1000) (T:List Pc) (hT:EG [] ws = T):SpecH false Tryz.prog 145 [ar,.sl false n 1 (ws.map nD)] [] (.ref 0 0 0 T.length 2) [⟨T.flatMap cy, 231, true⟩]:=by
 refine SpecH.run T_ok ah Tryz.func145 rfl rfl rfl ⟨eh (fun _=>rfl) _,trivial⟩ rfl 1000 64 (fun R ok=>(.s 16 (.chk (aL (some 0) none none n && true) (by (simp; done)) (.s 2 (.nils 4 104 2 231 (Hn.inl T_ok ah false 74 0 (aA Tryz.prog 145 2) (fun (x:(j:Nat) ×' (o:List Pc) ×' (hk:j ≤ n) ×' (ho:o.length ≤ j) ×' (hR:o ++ f9 (ws.drop j) = T) ×' Unit)=>match x with | ⟨j,o,hk,ho,hR,_⟩=>CutS.mk [(4,(D.ref 0 0 (0) (o.length) 2)),(61,D.sl false (n - 0) 1 (drop 0 (map nD ws))),(62,nD (n - 0)),(63,nD j)] [⟨0,0,104,104,.b ⟨o.flatMap cy,231,true⟩⟩] 8) (fun (x:(j:Nat) ×' (o:List Pc) ×' (hk:j ≤ n) ×' (ho:o.length ≤ j) ×' (hR:o ++ f9 (ws.drop j) = T) ×' Unit)=>match x with | ⟨j,o,hk,ho,hR,_⟩=>n - j) [⟨Unit,.exit 4,fun x=>match x with | ()=>CutS.mk [(4,(D.ref 0 0 (0) (T.length) 2)),(61,D.sl false (n - 0) 1 (drop 0 (map nD ws))),(62,nD (n - 0))] [⟨0,0,104,104,.b ⟨T.flatMap cy,231,true⟩⟩] 8⟩] 1000 64 (fun | ⟨j,o,hk,ho,hR,_⟩,Q,next1,last1=>(.s 2 (.br (decide ((↑j:Int) < (↑(n - 0):Int))) (fun p0=>have p0f:=aS p0; (.s 1 (.chk (true && decide ((↑j:Int) < (↑(n - 0):Int)) && true) sa (.s 2 (.opt ((drop (0 * 1) (map nD ws))[j * 1]?) (nD (getD ws j default)) (@z0 ws (j) om) (.s 8 (.chk (true && Nat.beq (length o * 2) (length (flatMap cy o)) && true && true && true && true && Nat.ble ((length o + 1) * 16) 140737488355328) xu (.s 3 (.ow ((↑j:Int) + 1) (.s 1 (.val 4 (D.ref 72 72 0 (length o + 1) 2) (D.ref 72 72 0 (length (o ++ [Pc.mk (getD ws j default) false])) 2) xv (.val 63 (iD ((↑j:Int) + 1)) (nD (j + 1)) zW (.blk 72 72 (Blk.mk (flatMap cy o ++ [nD (getD ws j default),D.v (.bool false)]) 231 true) (Blk.mk (flatMap cy (o ++ [Pc.mk (getD ws j default) false])) 231 true) (by (simp; done)) (Hn.next next1 ⟨(j + 1),(o ++ [⟨ws.getD j default,false⟩]),om,xw,(by ( exact HU om hR)),⟨⟩⟩ (by show n - (j + 1) < n - j; clear next1 last1; omega) [(72,72)] ro)))))))))))))) (fun p0=>have p0f:=aT p0; (.val 4 (D.ref 0 0 0 (length o) 2) (D.ref 0 0 0 (length T) 2) (by ( rw [zY om hR])) (.blk 0 0 (Blk.mk (flatMap cy o) 231 true) (Blk.mk (flatMap cy T) 231 true) (by ( rw [zY om hR])) (Hn.last last1 0 (():Unit) rfl [(0,0)] ro))))))) (fun | ⟨j,o,hk,ho,hR,_⟩=>by kernel_rfl) ⟨(0),([]),om,(by (simp; done)),(by (exact (f7 _ _).symm.trans hT)),⟨⟩⟩ [(104,104)] ro (cb (fun | ()=>(.s 2 (.out [0] [0] (D.ref 0 0 0 (length T) 2) [Blk.mk (flatMap cy T) 231 true] R (ok _ _ wr wr))))))))))) (by kernel_rfl)
end Vp
end Go.Proofs.YtefjnofhgkjpmaaGreat
namespace Go.Proofs.YtefjnofhgkjpmaaGreat
open Go.RowKit Go.Bw Go.Vx
namespace Vp
def oG (W S:List Nat) (k:Nat):List Nat:=lk S ((S.take k).map fun i=>W.getD i default)
theorem lN (W S:List Nat) (k:Nat):oG W S k = (S.take k).map fun i=>W.getD i default:=aF _ _
theorem H1 (W S:List Nat):oG W S 0 = []:=lN W S 0
theorem H2 {W S:List Nat} {k:Nat} (h:k < S.length):oG W S (k + 1) = oG W S k ++ [W.getD (S.getD k default) default]:=by
 rw [lN,lN,List.take_succ_eq_append_getElem h,List.map_append,List.getD_eq_getElem?_getD (l:=S),List.getElem?_eq_getElem h]; rfl
theorem kB {W S:List Nat} {k:Nat} (h:k ≤ S.length):(oG W S k).length = k:=by rw [lN,List.length_map,List.length_take]; omega
def EH (ws:List Nat):Nat → List Pc
 | 0=>EG [] ws
 | k + 1=>EG (EH ws k) ws
def aq (ws:List Nat) (k:Nat):List Pc:=lk ws (EH ws k)
theorem oH (ws:List Nat) (k:Nat):aq ws k = EH ws k:=aF _ _
theorem oI (ws:List Nat):EG [] ws = aq ws 0:=by rw [oH]; rfl
theorem lP (ws:List Nat) (k:Nat):EG (aq ws k) ws = aq ws (k + 1):=by rw [oH,oH]; rfl
def cJ (row:List Pc) (n:Nat):Nat:=lk row ((row.take n).filter (·.p)).length
theorem iq (row:List Pc) (n:Nat):cJ row n = ((row.take n).filter (·.p)).length:=aF _ _
theorem H6 (row:List Pc):cJ row 0 = 0:=iq row 0
theorem CK {row:List Pc} {k:Nat} (h:k < row.length):cJ row (k + 1) = cJ row k + (row.getD k default).p.toNat:=by
 rw [iq,iq,List.take_succ_eq_append_getElem h,List.filter_append,List.length_append,List.getD_eq_getElem?_getD,List.getElem?_eq_getElem h]
 show _ + (List.filter _ [row[k]]).length = _ + (row[k]).p.toNat
 cases hp:(row[k]).p
 ·rw [List.filter_cons_of_neg (by simp [hp])]; rfl
 ·rw [List.filter_cons_of_pos (by simp [hp])]; rfl
theorem xz (row:List Pc) (n:Nat):cJ row n ≤ n:=by
 rw [iq]; exact Nat.le_trans (List.length_filter_le _ _) (by rw [List.length_take]; exact Nat.min_le_left _ _)
theorem tQ (row:List Pc) (n:Nat):cJ row n ≤ (row.filter (·.p)).length:=by
 rw [iq]; exact ((List.take_sublist n row).filter _).length_le
theorem oJ:∀ l:List Pc,l.length = (l.filter (·.p)).length + (l.filter (fun x=>!x.p)).length
 | []=>rfl
 | x :: r=>by
  have ih:=oJ r
  cases hp:x.p
  ·rw [List.filter_cons_of_neg (by simp [hp]),List.filter_cons_of_pos (by simp [hp]),List.length_cons,List.length_cons]; omega
  ·rw [List.filter_cons_of_pos (by simp [hp]),List.filter_cons_of_neg (by simp [hp]),List.length_cons,List.length_cons]; omega
theorem CL (s:Nat):∀ ws:List Nat,((dW s ws).1.filter (·.p)).length = 1 ∧ (dW s ws).1.length + (dW s ws).2.length = ws.length + 1 ∧ (dW s ws).1.length = ((dW s ws).1.filter (fun x=>!x.p)).length + 1
 | []=>⟨rfl,rfl,rfl⟩
 | w :: r=>by
  have ih:=CL s r
  rw [dW]; split
  ·exact ⟨rfl,by simp; omega,rfl⟩
  ·refine ⟨?_,?_,?_⟩
   ·rw [List.filter_cons_of_neg (by simp)]; exact ih.1
   ·simp only [List.length_cons]; omega
   ·rw [List.filter_cons_of_pos (by simp),List.length_cons,List.length_cons]; omega
theorem xA:∀ (row:List Pc) (ws:List Nat),((ew row ws).filter (·.p)).length = row.length / 2 ∧ (ew row ws).length = ws.length + row.length / 2 ∧ ((ew row ws).filter (fun x=>!x.p)).length = ws.length
 | [],ws=>by
  have e:ew [] ws = f9 ws:=rfl
  rw [e]; unfold f9
  refine ⟨?_,by simp,?_⟩
  ·rw [List.filter_eq_nil_iff.2 (fun x hx=>by obtain ⟨w,_,rfl⟩:=List.mem_map.1 hx; simp)]; rfl
  ·rw [List.filter_eq_self.2 (fun x hx=>by obtain ⟨w,_,rfl⟩:=List.mem_map.1 hx; rfl),List.length_map]
 | [x],ws=>by
  have e:ew [x] ws = f9 ws:=rfl
  rw [e]; unfold f9
  refine ⟨?_,by simp,?_⟩
  ·rw [List.filter_eq_nil_iff.2 (fun x hx=>by obtain ⟨w,_,rfl⟩:=List.mem_map.1 hx; simp)]; simp
  ·rw [List.filter_eq_self.2 (fun x hx=>by obtain ⟨w,_,rfl⟩:=List.mem_map.1 hx; rfl),List.length_map]
 | x :: y :: r,ws=>by
  have h1:=CL (x.w + y.w) ws
  have h2:=xA r (dW (x.w + y.w) ws).2
  rw [ew]
  refine ⟨?_,?_,?_⟩
  ·rw [List.filter_append,List.length_append,h1.1,h2.1,List.length_cons,List.length_cons]; omega
  ·rw [List.length_append,h2.2.1,List.length_cons,List.length_cons]; omega
  ·rw [List.filter_append,List.length_append,h2.2.2]; omega
theorem CM {s B:Nat}:∀ ws:List Nat,(∀ w ∈ ws,w ≤ B) → s ≤ B → (∀ x ∈ (dW s ws).1,x.w ≤ B) ∧ ∀ w ∈ (dW s ws).2,w ∈ ws
 | [],_,hs=>⟨fun x hx=>by cases List.mem_singleton.1 hx; exact hs,fun w hw=>by cases hw⟩
 | w :: r,h,hs=>by
  have ih:=CM (s:=s) r (fun y hy=>h y (List.mem_cons_of_mem _ hy)) hs
  rw [dW]; split
  ·exact ⟨fun x hx=>by cases List.mem_singleton.1 hx; exact hs,fun y hy=>hy⟩
  ·refine ⟨fun x hx=>?_,fun y hy=>List.mem_cons_of_mem _ (ih.2 y hy)⟩
   rcases List.mem_cons.1 hx with rfl | hx
   ·exact h w List.mem_cons_self
   ·exact ih.1 x hx
theorem CN {B C:Nat} (hC:2 * B ≤ C) (hC2:B ≤ C):∀ (row:List Pc) (ws:List Nat),(∀ w ∈ ws,w ≤ B) → (∀ x ∈ row,x.w ≤ B) → ∀ x ∈ ew row ws,x.w ≤ C
 | [],ws,h,_=>fun x hx=>by
  obtain ⟨w,hw,rfl⟩:=List.mem_map.1 (show x ∈ f9 ws from hx)
  exact Nat.le_trans (h w hw) hC2
 | [_],ws,h,_=>fun x hx=>by
  obtain ⟨w,hw,rfl⟩:=List.mem_map.1 (show x ∈ f9 ws from hx)
  exact Nat.le_trans (h w hw) hC2
 | a :: b :: r,ws,h,hr=>fun x hx=>by
  have ha:=hr a List.mem_cons_self
  have hb:=hr b (List.mem_cons_of_mem _ List.mem_cons_self)
  have h1:=CM (s:=a.w + b.w) (B:=C) ws (fun w hw=>Nat.le_trans (h w hw) hC2) (by omega)
  rw [ew] at hx
  rcases List.mem_append.1 hx with q | q
  ·exact h1.1 x q
  ·exact CN hC hC2 r _ (fun w hw=>h w (h1.2 w hw)) (fun y hy=>hr y (List.mem_cons_of_mem _ (List.mem_cons_of_mem _ hy))) x q
theorem xB {ws:List Nat} (h:∀ w ∈ ws,w ≤ 1073741824):∀ k,∀ x ∈ aq ws k,x.w ≤ 2 ^ k * 1073741824
 | 0=>fun x hx=>by
  rw [← oI,f7] at hx
  obtain ⟨w,hw,rfl⟩:=List.mem_map.1 (show x ∈ f9 ws from hx)
  have:=h w hw; simpa using this
 | k + 1=>fun x hx=>by
  rw [← lP,f7] at hx
  have hp:=Nat.two_pow_pos k
  refine CN (B:=2 ^ k * 1073741824) (by rw [Nat.pow_succ]; omega) (by rw [Nat.pow_succ]; omega) _ _ (fun w hw=>Nat.le_trans (h w hw) (by omega)) (xB h k) x hx
theorem z9 {ws:List Nat} (h:∀ w ∈ ws,w ≤ 1073741824) {k:Nat} (hk:k ≤ 15):∀ x ∈ aq ws k,x.w ≤ 100000000000000:=fun x hx=>by
 have h1:=xB h k x hx
 have h2:2 ^ k ≤ 2 ^ 15:=Nat.pow_le_pow_right (by decide) hk
 omega
theorem jt (ws:List Nat):∀ k,(aq ws k).length = ws.length + (if k = 0 then 0 else (aq ws (k - 1)).length / 2) ∧ ((aq ws k).filter (·.p)).length = (if k = 0 then 0 else (aq ws (k - 1)).length / 2) ∧ ((aq ws k).filter (fun x=>!x.p)).length = ws.length
 | 0=>by
  have h:=xA [] ws
  rw [← f7,oI] at h
  exact ⟨h.2.1,h.1,h.2.2⟩
 | k + 1=>by
  have h:=xA (aq ws k) ws
  rw [← f7,lP] at h
  exact ⟨h.2.1,h.1,h.2.2⟩
theorem cm (ws:List Nat):∀ k,(aq ws k).length ≤ 2 * ws.length
 | 0=>by rw [(jt ws 0).1,if_pos rfl]; omega
 | k + 1=>by
  have:=cm ws k
  rw [(jt ws (k + 1)).1,if_neg (Nat.succ_ne_zero k),Nat.add_sub_cancel]; omega
theorem tR (ws:List Nat):∀ k,2 ^ k * (2 * ws.length) ≤ 2 ^ k * (aq ws k).length + ws.length + (2 ^ k - 1)
 | 0=>by rw [(jt ws 0).1,if_pos rfl]; omega
 | k + 1=>by
  have ih:=tR ws k
  have e:=(jt ws (k + 1)).1
  rw [if_neg (Nat.succ_ne_zero k),Nat.add_sub_cancel] at e
  have hp:=Nat.two_pow_pos k
  rw [e,Nat.pow_succ]
  generalize ws.length = N at *
  generalize (aq ws k).length = R at *
  generalize 2 ^ k = P at *
  have h2:P * R ≤ P * (2 * (R / 2)) + P:=by
   have:R ≤ 2 * (R / 2) + 1:=by omega
   have:=Nat.mul_le_mul_left P this
   rw [Nat.mul_add,Nat.mul_one] at this; exact this
  have e1:P * 2 * (2 * N) = P * (2 * N) + P * (2 * N):=by rw [Nat.mul_assoc,Nat.two_mul,Nat.mul_add]
  have e2:P * 2 * (N + R / 2) = P * (2 * N) + P * (2 * (R / 2)):=by rw [Nat.mul_assoc,Nat.mul_add 2,Nat.mul_add]
  rw [e1,e2]
  omega
def qz:List UInt8 → List Nat → List UInt8
 | o,[]=>o
 | o,i :: r=>qz (o.set i (o.getD i default + 1)) r
theorem xE (o:List UInt8) (a b:List Nat):qz o (a ++ b) = qz (qz o a) b:=by
 induction a generalizing o with
 | nil=>rfl
 | cons x a ih=>exact ih _
theorem qD:∀ (o:List UInt8) (l:List Nat),(qz o l).length = o.length
 | _,[]=>rfl
 | o,i :: r=>by rw [qz,qD,List.length_set]
def cg (o:List UInt8) (S:List Nat) (j:Nat):List UInt8:=lk o (qz o (S.take j))
theorem kC (o:List UInt8) (S:List Nat) (j:Nat):cg o S j = qz o (S.take j):=aF _ _
theorem sc (o:List UInt8) (S:List Nat):cg o S 0 = o:=kC o S 0
theorem cz (o:List UInt8) (S:List Nat) (j:Nat):(cg o S j).length = o.length:=by rw [kC,qD]
theorem sd {o:List UInt8} {S:List Nat} {j:Nat} (h:j < S.length):cg o S (j + 1) = (cg o S j).set (S.getD j default) ((cg o S j).getD (S.getD j default) default + 1):=by
 rw [kC,kC,List.take_succ_eq_append_getElem h,xE,List.getD_eq_getElem?_getD (l:=S),List.getElem?_eq_getElem h]; rfl
def Aa (ws S:List Nat):Nat → Nat → List UInt8 → List UInt8
 | 0,_,o=>o
 | k + 1,n,o=>Aa ws S k (2 * cJ (aq ws k) n) (cg o S (n - cJ (aq ws k) n))
structure LnI (ws:List Nat) (k n:Nat):Prop where
 a:k ≠ 0 → n ≤ (aq ws (k - 1)).length
theorem LnI.next {ws:List Nat} {k n:Nat} (h:LnI ws (k + 1) n):n ≤ (aq ws k).length ∧ cJ (aq ws k) n ≤ n ∧ n - cJ (aq ws k) n ≤ ws.length ∧ LnI ws k (2 * cJ (aq ws k) n):=by
 have hn:=h.a (Nat.succ_ne_zero k)
 rw [Nat.add_sub_cancel] at hn
 have hc:=jt ws k
 have h1:=tQ (aq ws k) n
 refine ⟨hn,xz _ _,?_,⟨fun hk=>?_⟩⟩
 ·have e:n = ((aq ws k).take n).length:=by rw [List.length_take]; omega
  have e2:((aq ws k).take n).length = (((aq ws k).take n).filter (·.p)).length + (((aq ws k).take n).filter (fun x=>!x.p)).length:=by
   exact oJ _
  have e3:(((aq ws k).take n).filter (fun x=>!x.p)).length ≤ ws.length:=by
   rw [← hc.2.2]; exact ((List.take_sublist n _).filter _).length_le
  rw [iq]; omega
 ·rw [hc.2.1,if_neg hk] at h1; omega
theorem LnI.first {ws:List Nat} {m:Nat} (hm:1 ≤ m) (h:ws.length ≤ 2 ^ m) (h2:2 ≤ ws.length):LnI ws m (2 * ws.length - 2):=⟨fun _=>by
 have g:=tR ws (m - 1)
 have hp:=Nat.two_pow_pos (m - 1)
 have e:2 ^ m = 2 * 2 ^ (m - 1):=by rw [show m = (m - 1) + 1 from by omega,Nat.pow_succ,Nat.mul_comm]; rfl
 generalize (aq ws (m - 1)).length = R at *
 generalize ws.length = N at *
 generalize 2 ^ (m - 1) = P at *
 rcases Nat.lt_or_ge R (2 * N - 2) with q | q
 ·have h3:P * R + 3 * P ≤ P * (2 * N):=by
   have:R + 3 ≤ 2 * N:=by omega
   have:=Nat.mul_le_mul_left P this
   rw [Nat.mul_add,Nat.mul_comm P 3] at this; exact this
  omega
 ·exact q⟩
end Vp
end Go.Proofs.YtefjnofhgkjpmaaGreat

/- Part 7. -/
import Derived.Test.YtefjnofhgkjpmaaTm5
import Derived.Test.YtefjnofhgkjpmaaTm6
set_option linter.unusedVariables false
set_option linter.unusedSimpArgs false
set_option maxRecDepth 100000
set_option maxHeartbeats 4000000
open Bool renaming and_true → K2, true_and → KX
open Eq renaming trans → NY
open Go.Fn renaming func → K9
open Go.IntKind renaming i64 → KY, u64 → LY, wrap → KP
open Go.Value renaming int → Ll
open Inhabited renaming default → i4
open Int renaming fdiv → Lb, toNat → un
open List renaming append_assoc → KS, append_nil → Lk, drop → K8, drop_eq_getElem_cons → LS, drop_eq_nil_of_le → LI, filter_append → LD, filter_cons_of_neg → L8, filter_cons_of_pos → L7, filter_nil → OE, flatMap_append → Mb, getElem_mem → Ld, length_append → Kw, length_cons → KU, length_drop → KQ, length_filter_le → M7, length_map → KH, length_set → Mz, length_singleton → Lg, length_take → KC, map_append → Lh, mem_cons_of_mem → KM, mem_cons_self → KO, mem_filter → MY, mem_or_eq_of_mem_set → Nz, range → Lf, range_succ → MJ, take_sublist → Oh, take_succ_eq_append_getElem → K4
open List.Perm renaming refl → Mv
open Nat renaming add_sub_cancel → Me, beq → Kv, beq_refl → Ly, ble → Kx, ble_eq_true_of_le → KA, le_refl → KG, le_trans → KK, lt_or_ge → K3, min_le_left → OC, mul_add → Mo, mul_assoc → LH, mul_comm → L0, mul_le_mul_left → MT, mul_one → KW, pow_le_pow_right → Ln, pow_succ → LP, sub_self → LL, succ_ne_zero → Ms, two_pow_pos → LZ, zero_add → KV, zero_le → Li
namespace Go.Proofs.Ytefjnofhgkjpmaa
open Go.RowKit Go.Bw Go.Vx
open List (length getD map take drop flatMap replicate)
namespace Vp
theorem n6 {p:Prop} (h:p:=by (refine aJ ?_; (omega))):p:=h
theorem rN {p:Prop} (h:p:=by (refine decide_eq_true ?_; (omega))):p:=h
theorem wE {p:Prop} (h:p:=by ((refine aF ?_ ?_) <;> (repeat' (first | (refine aF ?_ ?_) | (with_reducible rfl) | (refine decide_eq_true ?_) | (refine KA ?_) | (refine er ?_))) <;> (omega))):p:=h
def lM (a b:Nat):Int:=if a < b then -1 else if b < a then 1 else 0
theorem Gx {a b:Nat} (h:(a:Int) < b):lM a b = -1:=if_pos (by omega)
theorem Gy {a b:Nat} (h:¬ (a:Int) < b) (h2:(b:Int) < a):lM a b = 1:=(if_neg (by omega)).trans (if_pos (by omega))
theorem Gz {a b:Nat} (h:¬ (a:Int) < b) (h2:¬ (b:Int) < a):lM a b = 0:=(if_neg (by omega)).trans (if_neg (by omega))
theorem wF (a b:Nat):lM a b < 0 ↔ a < b:=by
 unfold lM; split
 ·omega
 ·split <;> omega
def swp (X:List Nat) (i j:Nat):List Nat:=lk X ((X.set i (X.getD j i4)).set j (X.getD i i4))
theorem n7 (X:List Nat) (i j:Nat):swp X i j = (X.set i (X.getD j i4)).set j (X.getD i i4):=aA _ _
theorem fQ (X:List Nat) (i j:Nat):(swp X i j).length = X.length:=by rw [n7,Mz,Mz]
theorem Dn {M:List Nat} {o a:Nat} (ho:o < M.length):af (M.map nD) o [nD a] = (M.set o a).map nD:=by
 apply List.ext_getElem?
 intro i
 rw [cd (by simp only [KH,Lg]; omega),List.getElem?_map,List.getElem?_map,List.getElem?_set]
 simp only [Lg]
 by_cases hi:o = i
 ·subst hi
  rw [if_pos (by omega),if_pos rfl,if_pos ho,LL]; rfl
 ·rw [if_neg (by omega),if_neg hi]
theorem s9 {X:List Nat} {i j i' j' i2 j2:Nat} (hi:i < X.length) (hj:j < X.length) (h1:i' = i) (h2:j' = j) (h3:i2 = i) (h4:j2 = j):af (af (X.map nD) i' [D.v (.int .i64 ((X.getD j2 i4:Nat):Int))]) j' [D.v (.int .i64 ((X.getD i2 i4:Nat):Int))] = (swp X i j).map nD:=by
 subst h1 h2 h3 h4
 rw [show D.v (.int .i64 ((X.getD j2 i4:Nat):Int)) = nD (X.getD j2 i4) from rfl,Dn hi,show D.v (.int .i64 ((X.getD i2 i4:Nat):Int)) = nD (X.getD i2 i4) from rfl,Dn (by rw [Mz]; exact hj),n7]
theorem yX {X:List Nat} {o m:Nat} {z:Int} (ho:o < X.length) (hm:m ≤ X.length):(true && m.ble (af (X.map nD) o [D.v (.int .i64 z)]).length) = true:=by
 rw [cF (by rw [KH,Lg]; omega),KH,KX]
 exact KA hm
def GA (X:List Nat) (a b:Nat):Nat → List Nat
 | 0=>X
 | k + 1=>swp (GA X a b k) (a + k) (b + k)
theorem ta (X:List Nat) (a b:Nat):∀ k,(GA X a b k).length = X.length
 | 0=>rfl
 | k + 1=>by rw [GA,fQ,ta X a b k]
def dG (X:List Nat) (a b k:Nat):List Nat:=lk X (GA X a b k)
theorem n8 (X:List Nat) (a b k:Nat):dG X a b k = GA X a b k:=aA _ _
theorem dg (X:List Nat) (a b k:Nat):(dG X a b k).length = X.length:=by rw [n8,ta]
theorem Bp (X:List Nat) (a b:Nat):dG X a b 0 = X:=n8 X a b 0
theorem Bq (X:List Nat) (a b k:Nat):swp (dG X a b k) (a + k) (b + k) = dG X a b (k + 1):=by rw [n8,n8]; rfl
theorem Do (a b:Nat):SpecH false Try.prog 122 [nD a,nD b] [] (iD (lM a b)) []:=by
 refine SpecH.run T_ok ag Try.func122 rfl rfl rfl trivial rfl 1000 64 (fun R ok=>(.s 22 (.f ((a:Int) != (a:Int)) (by (simp; done)) (.s 1 (.f ((b:Int) != (b:Int)) (by (simp; done)) (.s 4 (.br (decide ((a:Int) < (b:Int))) (fun p0=>have p0f:=aN p0; (.s 1 (.out [] [] (zI (-1)) [] R (ok _ _ (by ( rw [Gx om])) wr)))) (fun p0=>have p0f:=aO p0; (.s 4 (.br (decide ((b:Int) < (a:Int))) (fun p1=>have p1f:=aN p1; (.s 1 (.out [] [] (zI 1) [] R (ok _ _ (by ( rw [Gy om om])) wr)))) (fun p1=>have p1f:=aO p1; (.s 1 (.out [] [] (zI 0) [] R (ok _ _ (by ( rw [Gz om om])) wr)))))))))))))) (by kernel_rfl)
theorem qd (W:List Nat) (L:Nat) (hL:L = W.length) (x y:Nat) (hx:x < L) (hy:y < L):SpecH true Try.prog 121 [nD x,nD y,.ptr 0 0 0] [⟨[.sl false L 1 (W.map nD)], 41, false⟩] (iD (lM (W.getD x i4) (W.getD y i4))) [⟨[.sl false L 1 (W.map nD)], 41, false⟩]:=by
 refine SpecH.run T_ok ag Try.func121 rfl rfl rfl ⟨rfl,trivial⟩ rfl 1000 64 (fun R ok=>(.s 7 (.chk (true && decide ((x:Int) < (L:Int)) && true) wE (.s 2 (.opt ((map nD W)[x * 1]?) (nD (getD W (x * 1) i4)) (ao _ _ om) (.s 5 (.chk (true && decide ((y:Int) < (L:Int)) && true) wE (.s 2 (.opt ((map nD W)[y * 1]?) (nD (getD W (y * 1) i4)) (ao _ _ om) (.s 1 (.cl 122 false [] (.fn Iu (@Do (getD W (x * 1) i4) (getD W (y * 1) i4))) (.s 1 (.out [0] [0] (zI (lM (getD W (x * 1) i4) (getD W (y * 1) i4))) [Blk.mk [D.sl false L 1 (map nD W)] 41 false] R (ok _ _ (by (rw [KW,KW])) wr)))))))))))))) (by kernel_rfl)
theorem GB (X:List Nat) (N:Nat) (hN:N = X.length) (hN2:N ≤ 1000) (W:List Nat) (L:Nat) (hL:L = W.length) (a b n:Nat) (h1:a + n ≤ N) (h2:b + n ≤ N):SpecH true Try.prog 137 [.ref 0 0 0 N 1,nD a,nD b,nD n,.fn (.func 121) [] [.ptr 1 1 0]] [⟨X.map nD, 3, true⟩,⟨[.sl false L 1 (W.map nD)], 41, false⟩] (.tup []) [⟨(dG X a b n).map nD, 3, true⟩,⟨[.sl false L 1 (W.map nD)], 41, false⟩]:=by
 refine SpecH.run T_ok ag Try.func137 rfl rfl rfl ⟨k8 _,rfl,trivial⟩ rfl 1000 64 (fun R ok=>(.s 1 (.blk 0 0 (Blk.mk (map nD X) 3 true) (Blk.mk (map nD (dG X a b 0)) 3 true) (by (rw [Bp]; done)) (Hn.inl T_ok ag false 38 2 (aq Try.prog 137 0) (fun (x:(i:Nat) ×' (hi:i ≤ n) ×' Unit)=>match x with | ⟨i,hi,_⟩=>CutS.mk [(0,D.ref 0 0 0 N 1),(1,zN a),(2,zN b),(3,zN n),(10,nD i)] [⟨0,0,0,0,.b ⟨(dG X a b i).map nD,3,true⟩⟩,⟨1,1,1,1,.b ⟨[D.sl false L 1 (map nD W)],41,false⟩⟩] 24) (fun (x:(i:Nat) ×' (hi:i ≤ n) ×' Unit)=>match x with | ⟨i,hi,_⟩=>n - i) [⟨Unit,.exit 0,fun x=>match x with | ()=>CutS.mk [(0,D.ref 0 0 0 N 1),(1,zN a),(2,zN b),(3,zN n)] [⟨0,0,0,0,.b ⟨(dG X a b n).map nD,3,true⟩⟩,⟨1,1,1,1,.b ⟨[D.sl false L 1 (map nD W)],41,false⟩⟩] 24⟩] 1000 64 (fun | ⟨i,hi,_⟩,Q,next1,last1=>(.s 4 (.br (decide ((i:Int) < (n:Int))) (fun p0=>have p0f:=aN p0; (.s 6 (.ow ((a:Int) + (i:Int)) (.s 5 (.ow ((b:Int) + (i:Int)) (.s 5 (.ow ((b:Int) + (i:Int)) (.s 1 (.chk (true && decide ((b:Int) + (i:Int) < (N:Int))) rN (.s 2 (.opt ((map nD (dG X a b i))[0 + un ((b:Int) + (i:Int)) * 1]?) (nD (getD (dG X a b i) (0 + un ((b:Int) + (i:Int)) * 1) i4)) (ao _ _ (by ( have h9:=dg X a b i; omega))) (.s 5 (.ow ((a:Int) + (i:Int)) (.s 1 (.chk (true && decide ((a:Int) + (i:Int) < (N:Int))) rN (.s 2 (.opt ((map nD (dG X a b i))[0 + un ((a:Int) + (i:Int)) * 1]?) (nD (getD (dG X a b i) (0 + un ((a:Int) + (i:Int)) * 1) i4)) (ao _ _ (by ( have h9:=dg X a b i; omega))) (.s 1 (.chk (true && decide ((a:Int) + (i:Int) < (N:Int))) rN (.s 1 (.chk (true && Kx (0 + un ((a:Int) + (i:Int)) * 1 + 1) (length (map nD (dG X a b i)))) (by (simp;  have h9:=dg X a b i; omega)) (.lst (af (map nD (dG X a b i)) (0 + un ((a:Int) + (i:Int)) * 1) [zN (getD (dG X a b i) (0 + un ((b:Int) + (i:Int)) * 1) i4)]) (af (map nD (dG X a b i)) (un ((a:Int) + (i:Int))) [zN (getD (dG X a b i) (un ((b:Int) + (i:Int))) i4)]) (by (simp; done)) (.s 1 (.chk (true && decide ((b:Int) + (i:Int) < (N:Int))) rN (.s 1 (.chk (true && Kx (0 + un ((b:Int) + (i:Int)) * 1 + 1) (length (af (map nD (dG X a b i)) (un ((a:Int) + (i:Int))) [zN (getD (dG X a b i) (un ((b:Int) + (i:Int))) i4)]))) (by ( have h9:=dg X a b i; exact yX om om)) (.lst (af (af (map nD (dG X a b i)) (un ((a:Int) + (i:Int))) [zN (getD (dG X a b i) (un ((b:Int) + (i:Int))) i4)]) (0 + un ((b:Int) + (i:Int)) * 1) [zN (getD (dG X a b i) (0 + un ((a:Int) + (i:Int)) * 1) i4)]) (af (af (map nD (dG X a b i)) (un ((a:Int) + (i:Int))) [zN (getD (dG X a b i) (un ((b:Int) + (i:Int))) i4)]) (un ((b:Int) + (i:Int))) [zN (getD (dG X a b i) (un ((a:Int) + (i:Int))) i4)]) (by (simp; done)) (.s 3 (.ow ((i:Int) + 1) (.s 1 (.val 10 (zI ((i:Int) + 1)) (zN (i + 1)) n6 (.blk 0 0 (Blk.mk (af (af (map nD (dG X a b i)) (un ((a:Int) + (i:Int))) [zN (getD (dG X a b i) (un ((b:Int) + (i:Int))) i4)]) (un ((b:Int) + (i:Int))) [zN (getD (dG X a b i) (un ((a:Int) + (i:Int))) i4)]) 3 true) (Blk.mk (map nD (dG X a b (i + 1))) 3 true) (by ( have h9:=dg X a b i; refine au (NY (s9 (i:=a + i) (j:=b + i) om om om om om om) ?_); rw [Bq])) (Hn.next next1 ⟨(i + 1),om,⟨⟩⟩ (by show n - (i + 1) < n - i; clear next1 last1; omega) [(0,0),(1,1)] ro))))))))))))))))))))))))))))))))) (fun p0=>have p0f:=aO p0; (.blk 0 0 (Blk.mk (map nD (dG X a b i)) 3 true) (Blk.mk (map nD (dG X a b n)) 3 true) (by (rw [show i = n from by (omega)])) (Hn.last last1 0 (():Unit) rfl [(0,0),(1,1)] ro)))))) (fun | ⟨i,hi,_⟩=>by kernel_rfl) ⟨(0),om,⟨⟩⟩ [(0,0),(1,1)] ro (bX (fun | ()=>(.out [0,1] [0,1] (D.tup []) [Blk.mk (map nD (dG X a b n)) 3 true,Blk.mk [D.sl false L 1 (map nD W)] 41 false] R (ok _ _ wr wr)))))))) (by kernel_rfl)
def fZ (m:Nat):Nat → Nat → Nat → List Nat → List Nat
 | 0,i,_,X=>dG X (m - i) m i
 | f + 1,i,j,X=>if i = j then dG X (m - i) m i else if j < i then fZ m f (i - j) j (dG X (m - i) m j) else fZ m f i (j - i) (dG X (m - i) (m + j - i) i)
theorem GC {m f i j:Nat} {X:List Nat} (h:i = j):fZ m f i j X = dG X (m - i) m i:=by
 cases f with
 | zero=>rfl
 | succ f=>exact if_pos h
theorem GD {m f i j:Nat} {X:List Nat} (h:j < i):fZ m (f + 1) i j X = fZ m f (i - j) j (dG X (m - i) m j):=(if_neg (by omega)).trans (if_pos h)
theorem GF {m f i j:Nat} {X:List Nat} (h:i < j):fZ m (f + 1) i j X = fZ m f i (j - i) (dG X (m - i) (m + j - i) i):=(if_neg (by omega)).trans (if_neg (by omega))
def wG (X:List Nat) (a m b:Nat):List Nat:=lk X (fZ m (b - a) (m - a) (b - m) X)
theorem tb (X:List Nat) (a m b:Nat):wG X a m b = fZ m (b - a) (m - a) (b - m) X:=aA _ _
def inI (W:List Nat) (a:Nat):Nat → List Nat → List Nat
 | 0,X=>X
 | j + 1,X=>if a < j + 1 ∧ W.getD (X.getD (j + 1) i4) i4 < W.getD (X.getD j i4) i4 then inI W a j (swp X (j + 1) j) else X
theorem GG {W:List Nat} {a j k:Nat} {X:List Nat} (hk:k + 1 = j) (h:a < j) (h2:W.getD (X.getD j i4) i4 < W.getD (X.getD k i4) i4):inI W a j X = inI W a k (swp X j k):=by
 subst hk; exact if_pos ⟨h,h2⟩
theorem Br {W:List Nat} {a j:Nat} {X:List Nat} (h:¬ a < j ∨ ¬ W.getD (X.getD j i4) i4 < W.getD (X.getD (j - 1) i4) i4):inI W a j X = X:=by
 cases j with
 | zero=>rfl
 | succ j=>exact if_neg (fun q=>by rcases h with h | h; exact h q.1; exact h q.2)
theorem tc {W:List Nat} {a:Nat}:∀ (j:Nat) (X:List Nat),(inI W a j X).length = X.length
 | 0,_=>rfl
 | j + 1,X=>by
  rw [inI]; split
  ·rw [tc j,fQ]
  ·rfl
def GH (W X:List Nat) (a:Nat):Nat → List Nat
 | 0=>X
 | k + 1=>inI W a (a + 1 + k) (GH W X a k)
theorem tf (W X:List Nat) (a:Nat):∀ k,(GH W X a k).length = X.length
 | 0=>rfl
 | k + 1=>by rw [GH,tc,tf W X a k]
def inQ (W X:List Nat) (a k:Nat):List Nat:=lk X (GH W X a k)
theorem n9 (W X:List Nat) (a k:Nat):inQ W X a k = GH W X a k:=aA _ _
theorem iG (W X:List Nat) (a k:Nat):(inQ W X a k).length = X.length:=by rw [n9,tf]
theorem wH (W X:List Nat) (a:Nat):inQ W X a 0 = X:=n9 W X a 0
theorem wI (W X:List Nat) (a k:Nat):inI W a (a + 1 + k) (inQ W X a k) = inQ W X a (k + 1):=by rw [n9,n9]; rfl
theorem Bs (X:List Nat) (N:Nat) (hN:N = X.length) (hN2:N ≤ 1000) (W:List Nat) (L:Nat) (hL:L = W.length) (a b n:Int) (a' b' n' : Nat) (e1:a = a') (e2:b = b') (e3:n = n') (h1:a' + n' ≤ N) (h2:b' + n' ≤ N):SpecH true Try.prog 137 [.ref 0 0 0 N 1,iD a,iD b,iD n,.fn (.func 121) [] [.ptr 1 1 0]] [⟨X.map nD, 3, true⟩,⟨[.sl false L 1 (W.map nD)], 41, false⟩] (.tup []) [⟨(dG X a' b' n').map nD, 3, true⟩,⟨[.sl false L 1 (W.map nD)], 41, false⟩]:=by
 subst e1 e2 e3
 exact GB X N hN hN2 W L hL a' b' n' h1 h2
theorem Bt (X:List Nat) (N:Nat) (hN:N = X.length) (hN2:N ≤ 1000) (W:List Nat) (L:Nat) (hL:L = W.length) (m i j:Nat) (h1:i ≤ m) (h2:m + j ≤ N) (h3:j ≤ i):SpecH true Try.prog 137 [.ref 0 0 0 N 1,iD ((m:Int) - i),iD ((m:Nat):Int),nD j,.fn (.func 121) [] [.ptr 1 1 0]] [⟨X.map nD, 3, true⟩,⟨[.sl false L 1 (W.map nD)], 41, false⟩] (.tup []) [⟨(dG X (m - i) m j).map nD, 3, true⟩,⟨[.sl false L 1 (W.map nD)], 41, false⟩]:=Bs X N hN hN2 W L hL _ _ _ (m - i) m j (by omega) rfl rfl (by omega) (by omega)
theorem GI (X:List Nat) (N:Nat) (hN:N = X.length) (hN2:N ≤ 1000) (W:List Nat) (L:Nat) (hL:L = W.length) (m i j:Nat) (h1:i ≤ m) (h2:m + j ≤ N) (h3:i ≤ j):SpecH true Try.prog 137 [.ref 0 0 0 N 1,iD ((m:Int) - i),iD ((m:Int) + j - i),nD i,.fn (.func 121) [] [.ptr 1 1 0]] [⟨X.map nD, 3, true⟩,⟨[.sl false L 1 (W.map nD)], 41, false⟩] (.tup []) [⟨(dG X (m - i) (m + j - i) i).map nD, 3, true⟩,⟨[.sl false L 1 (W.map nD)], 41, false⟩]:=Bs X N hN hN2 W L hL _ _ _ (m - i) (m + j - i) i (by omega) (by omega) rfl (by omega) (by omega)
theorem Dp {m f i j:Nat} {X T:List Nat} (hR:fZ m f i j X = T) (hf:i + j ≤ f) (h1:1 ≤ j) (h:j < i):fZ m (f - 1) (i - j) j (dG X (m - i) m j) = T:=by
 obtain ⟨g,rfl⟩:∃ g,f = g + 1:=⟨f - 1,by omega⟩
 rw [← hR,GD h]; rfl
theorem Dq {m f i j:Nat} {X T:List Nat} (hR:fZ m f i j X = T) (hf:i + j ≤ f) (h1:1 ≤ i) (h:i < j):fZ m (f - 1) i (j - i) (dG X (m - i) (m + j - i) i) = T:=by
 obtain ⟨g,rfl⟩:∃ g,f = g + 1:=⟨f - 1,by omega⟩
 rw [← hR,GF h]; rfl
theorem Dr {m f i j:Nat} {X T:List Nat} (hR:fZ m f i j X = T) (h:i = j):dG X (m - i) m i = T:=by rw [← hR,GC h]
theorem GJ (X:List Nat) (N:Nat) (hN:N = X.length) (hN2:N ≤ 1000) (W:List Nat) (L:Nat) (hL:L = W.length) (a m b:Nat) (h1:a < m) (h2:m < b) (h3:b ≤ N) (T:List Nat) (hT:wG X a m b = T):SpecH true Try.prog 135 [.ref 0 0 0 N 1,nD a,nD m,nD b,.fn (.func 121) [] [.ptr 1 1 0]] [⟨X.map nD, 3, true⟩,⟨[.sl false L 1 (W.map nD)], 41, false⟩] (.tup []) [⟨(T).map nD, 3, true⟩,⟨[.sl false L 1 (W.map nD)], 41, false⟩]:=by
 refine SpecH.run T_ok ag Try.func135 rfl rfl rfl ⟨k8 _,rfl,trivial⟩ rfl 1000 64 (fun R ok=>(.s 4 (.ow ((m:Int) - (a:Int)) (.s 5 (.ow ((b:Int) - (m:Int)) (.s 1 (.val 10 (zI ((m:Int) - (a:Int))) (zN (m - a)) n6 (.val 11 (zI ((b:Int) - (m:Int))) (zN (b - m)) n6 (Hn.inl T_ok ag false 58 2 (aq Try.prog 135 0) (fun (x:(i:Nat) ×' (j:Nat) ×' (f:Nat) ×' (Y:List Nat) ×' (hY:Y.length = N) ×' (hi:1 ≤ i ∧ i ≤ m) ×' (hj:1 ≤ j ∧ m + j ≤ N) ×' (hf:i + j ≤ f) ×' (hR:fZ m f i j Y = T) ×' Unit)=>match x with | ⟨i,j,f,Y,hY,hi,hj,hf,hR,_⟩=>CutS.mk [(0,D.ref 0 0 0 N 1),(2,zN m),(4,D.fn (K9 121) [] [D.ptr 1 1 0]),(10,nD i),(11,nD j)] [⟨0,0,0,0,.b ⟨Y.map nD,3,true⟩⟩,⟨1,1,1,1,.b ⟨[D.sl false L 1 (map nD W)],41,false⟩⟩] 24) (fun (x:(i:Nat) ×' (j:Nat) ×' (f:Nat) ×' (Y:List Nat) ×' (hY:Y.length = N) ×' (hi:1 ≤ i ∧ i ≤ m) ×' (hj:1 ≤ j ∧ m + j ≤ N) ×' (hf:i + j ≤ f) ×' (hR:fZ m f i j Y = T) ×' Unit)=>match x with | ⟨i,j,f,Y,hY,hi,hj,hf,hR,_⟩=>i + j) [⟨(i2:Nat) ×' (Y2:List Nat) ×' (hY2:Y2.length = N) ×' (hi2:1 ≤ i2 ∧ i2 ≤ m ∧ m + i2 ≤ N) ×' (hR2:dG Y2 (m - i2) m i2 = T) ×' Unit,.exit 0,fun x=>match x with | ⟨i2,Y2,hY2,hi2,hR2,_⟩=>CutS.mk [(0,D.ref 0 0 0 N 1),(2,zN m),(4,D.fn (K9 121) [] [D.ptr 1 1 0]),(10,nD i2),(11,nD i2)] [⟨0,0,0,0,.b ⟨Y2.map nD,3,true⟩⟩,⟨1,1,1,1,.b ⟨[D.sl false L 1 (map nD W)],41,false⟩⟩] 24⟩] 1000 64 (fun | ⟨i,j,f,Y,hY,hi,hj,hf,hR,_⟩,Q,next1,last1=>(.s 4 (.br ((i:Int) != (j:Int)) (fun p0=>have p0f:=pL p0; (.s 4 (.br (decide ((j:Int) < (i:Int))) (fun p1=>have p1f:=aN p1; (.s 5 (.ow ((m:Int) - (i:Int)) (.s 4 (.call 137 true [0,1] (true) wr ([D.ref 0 0 0 N 1,zI ((m:Int) - (i:Int)),zN m,zN j,D.fn (K9 121) [] [D.ptr 1 1 0]]) _ (bY.refl _) (aa (map nD Y) && true) (by (simp; done)) _ _ _ (CallOk.fn (ax.of Try.func137 rfl rfl) (@Bt (Y) (N) om om (W) (L) om (m) (i) (j) om om om)) (.s 4 (.ow ((i:Int) - (j:Int)) (.s 1 (.val 10 (zI ((i:Int) - (j:Int))) (zN (i - j)) n6 (Hn.next next1 ⟨(i - j),(j),(f - 1),(dG Y (m - i) m j),(by (rw [dg]; (omega))),om,om,om,(by ( exact Dp hR om om om)),⟨⟩⟩ (by show i - j + j < i + j; clear next1 last1; omega) [(0,0),(1,1)] ro)))))))))) (fun p1=>have p1f:=aO p1; (.s 5 (.ow ((m:Int) - (i:Int)) (.s 4 (.ow ((m:Int) + (j:Int)) (.s 3 (.ow ((m:Int) + (j:Int) - (i:Int)) (.s 3 (.call 137 true [0,1] (true) wr ([D.ref 0 0 0 N 1,zI ((m:Int) - (i:Int)),zI ((m:Int) + (j:Int) - (i:Int)),zN i,D.fn (K9 121) [] [D.ptr 1 1 0]]) _ (bY.refl _) (aa (map nD Y) && true) (by (simp; done)) _ _ _ (CallOk.fn (ax.of Try.func137 rfl rfl) (@GI (Y) (N) om om (W) (L) om (m) (i) (j) om om om)) (.s 4 (.ow ((j:Int) - (i:Int)) (.s 1 (.val 11 (zI ((j:Int) - (i:Int))) (zN (j - i)) n6 (Hn.next next1 ⟨(i),(j - i),(f - 1),(dG Y (m - i) (m + j - i) i),(by (rw [dg]; (omega))),om,om,om,(by ( exact Dq hR om om om)),⟨⟩⟩ (by show i + (j - i) < i + j; clear next1 last1; omega) [(0,0),(1,1)] ro))))))))))))))))) (fun p0=>have p0f:=pM p0; (.val 11 (zN j) (zN i) n6 (Hn.last last1 0 (⟨(i),(Y),om,om,(by ( rw [Dr hR om])),⟨⟩⟩:(i2:Nat) ×' (Y2:List Nat) ×' (hY2:Y2.length = N) ×' (hi2:1 ≤ i2 ∧ i2 ≤ m ∧ m + i2 ≤ N) ×' (hR2:dG Y2 (m - i2) m i2 = T) ×' Unit) rfl [(0,0),(1,1)] ro)))))) (fun | ⟨i,j,f,Y,hY,hi,hj,hf,hR,_⟩=>by kernel_rfl) ⟨(m - a),(b - m),(b - a),(X),om,om,om,om,(by (exact (tb X a m b).symm.trans hT)),⟨⟩⟩ [(0,0),(1,1)] ro (bX (fun | ⟨i2,Y2,hY2,hi2,hR2,_⟩=>(.s 5 (.ow ((m:Int) - (i2:Int)) (.s 4 (.call 137 true [0,1] (true) wr ([D.ref 0 0 0 N 1,zI ((m:Int) - (i2:Int)),zN m,zN i2,D.fn (K9 121) [] [D.ptr 1 1 0]]) _ (bY.refl _) (aa (map nD Y2) && true) (by (simp; done)) _ _ _ (CallOk.fn (ax.of Try.func137 rfl rfl) (@Bt (Y2) (N) om om (W) (L) om (m) (i2) (i2) om om om)) (.out [0,1] [0,1] (D.tup []) [Blk.mk (map nD (dG Y2 (m - i2) m i2)) 3 true,Blk.mk [D.sl false L 1 (map nD W)] 41 false] R (ok _ _ wr (by (simp_all; done))))))))))))))))))) (by kernel_rfl)
def bh (L:Nat) (X:List Nat):Prop:=∀ x ∈ X,x < L
theorem bh.at {L:Nat} {X:List Nat} (h:bh L X) {t:Nat} (ht:t < X.length):X.getD t i4 < L:=by
 rw [List.getD_eq_getElem?_getD,List.getElem?_eq_getElem ht]; exact h _ (Ld ht)
theorem bh.swp {L:Nat} {X:List Nat} (h:bh L X) {i j:Nat} (hi:i < X.length) (hj:j < X.length):bh L (swp X i j):=by
 intro x hx
 rw [n7] at hx
 rcases Nz hx with q | q
 ·rcases Nz q with q | q
  ·exact h x q
  ·rw [q]; exact h.at hj
 ·rw [q]; exact h.at hi
theorem bh.inI {L:Nat} {W:List Nat} {a:Nat}:∀ (j:Nat) {X:List Nat},bh L X → j < X.length → bh L (inI W a j X)
 | 0,_,h,_=>h
 | j + 1,X,h,hj=>by
  rw [Vp.inI]; split
  ·exact bh.inI j (h.swp hj (by omega)) (by rw [fQ]; omega)
  ·exact h
theorem bh.inQ {L:Nat} {W X:List Nat} {a:Nat} (h:bh L X):∀ (k:Nat),a + k < X.length → bh L (inQ W X a k)
 | 0,_=>by rw [wH]; exact h
 | k + 1,hk=>by
  rw [← wI]
  exact bh.inI _ (bh.inQ h k (by omega)) (by rw [iG]; omega)
theorem Ds {W Y T:List Nat} {a j u v:Nat} (hR:inI W a j Y = T) (h:a < j) (hu:u = j) (hv:v = j - 1) (h2:lM (W.getD (Y.getD u i4) i4) (W.getD (Y.getD v i4) i4) < 0):inI W a (j - 1) (swp Y j (j - 1)) = T:=by
 subst hu hv
 rw [← hR]; exact (GG (by omega) h ((wF _ _).1 h2)).symm
theorem Dt {W Y T:List Nat} {a j:Nat} (hR:inI W a j Y = T) (h:¬ a < j):Y = T:=by rw [← hR,Br (.inl h)]
theorem Du {W Y T:List Nat} {a j u v:Nat} (hR:inI W a j Y = T) (hu:u = j) (hv:v = j - 1) (h2:¬ lM (W.getD (Y.getD u i4) i4) (W.getD (Y.getD v i4) i4) < 0):Y = T:=by
 subst hu hv
 rw [← hR,Br (.inr fun q=>h2 ((wF _ _).2 q))]
theorem GK (X:List Nat) (N:Nat) (hN:N = X.length) (hN2:N ≤ 1000) (W:List Nat) (L:Nat) (hL:L = W.length) (hA:bh L X) (a b:Nat) (h1:a ≤ b) (h3:b ≤ N) (T:List Nat) (hT:inQ W X a (b - (a + 1)) = T):SpecH true Try.prog 131 [.ref 0 0 0 N 1,nD a,nD b,.fn (.func 121) [] [.ptr 1 1 0]] [⟨X.map nD, 3, true⟩,⟨[.sl false L 1 (W.map nD)], 41, false⟩] (.tup []) [⟨(T).map nD, 3, true⟩,⟨[.sl false L 1 (W.map nD)], 41, false⟩]:=by
 refine SpecH.run T_ok ag Try.func131 rfl rfl rfl ⟨k8 _,rfl,trivial⟩ rfl 1000 64 (fun R ok=>(.s 3 (.ow ((a:Int) + 1) (.s 1 (.val 8 (zI ((a:Int) + 1)) (zN (a + 1 + 0)) n6 (.blk 0 0 (Blk.mk (map nD X) 3 true) (Blk.mk (map nD (inQ W X a 0)) 3 true) (by (rw [wH]; done)) (Hn.inl T_ok ag false 53 2 (aq Try.prog 131 0) (fun (x:(k:Nat) ×' (hk:k ≤ b - (a + 1)) ×' Unit)=>match x with | ⟨k,hk,_⟩=>CutS.mk [(0,D.ref 0 0 0 N 1),(1,zN a),(2,zN b),(3,D.fn (K9 121) [] [D.ptr 1 1 0]),(8,nD (a + 1 + k))] [⟨0,0,0,0,.b ⟨(inQ W X a k).map nD,3,true⟩⟩,⟨1,1,1,1,.b ⟨[D.sl false L 1 (map nD W)],41,false⟩⟩] 24) (fun (x:(k:Nat) ×' (hk:k ≤ b - (a + 1)) ×' Unit)=>match x with | ⟨k,hk,_⟩=>b - (a + 1) - k) [⟨Unit,.exit 0,fun x=>match x with | ()=>CutS.mk [(0,D.ref 0 0 0 N 1),(1,zN a),(2,zN b),(3,D.fn (K9 121) [] [D.ptr 1 1 0])] [⟨0,0,0,0,.b ⟨T.map nD,3,true⟩⟩,⟨1,1,1,1,.b ⟨[D.sl false L 1 (map nD W)],41,false⟩⟩] 24⟩] 1000 64 (fun | ⟨k,hk,_⟩,Q,next1,last1=>(.s 4 (.br (decide ((↑(a + 1 + k):Int) < (b:Int))) (fun p0=>have p0f:=aN p0; (.s 2 (Hn.inl T_ok ag false 53 2 (aq Try.prog 131 1) (fun (x:(j:Nat) ×' (Y:List Nat) ×' (hY:Y.length = N) ×' (hj:a ≤ j ∧ j ≤ a + 1 + k) ×' (hB:bh L Y) ×' (hR:inI W a j Y = inQ W X a (k + 1)) ×' Unit)=>match x with | ⟨j,Y,hY,hj,hB,hR,_⟩=>CutS.mk [(0,D.ref 0 0 0 N 1),(1,zN a),(2,zN b),(3,D.fn (K9 121) [] [D.ptr 1 1 0]),(8,zN (a + 1 + k)),(9,nD j)] [⟨0,0,0,0,.b ⟨Y.map nD,3,true⟩⟩,⟨1,1,1,1,.b ⟨[D.sl false L 1 (map nD W)],41,false⟩⟩] 24) (fun (x:(j:Nat) ×' (Y:List Nat) ×' (hY:Y.length = N) ×' (hj:a ≤ j ∧ j ≤ a + 1 + k) ×' (hB:bh L Y) ×' (hR:inI W a j Y = inQ W X a (k + 1)) ×' Unit)=>match x with | ⟨j,Y,hY,hj,hB,hR,_⟩=>j) [⟨Unit,.exit 2,fun x=>match x with | ()=>CutS.mk [(0,D.ref 0 0 0 N 1),(1,zN a),(2,zN b),(3,D.fn (K9 121) [] [D.ptr 1 1 0]),(8,zN (a + 1 + k))] [⟨0,0,0,0,.b ⟨(inQ W X a (k + 1)).map nD,3,true⟩⟩,⟨1,1,1,1,.b ⟨[D.sl false L 1 (map nD W)],41,false⟩⟩] 24⟩] 1000 64 (fun | ⟨j,Y,hY,hj,hB,hR,_⟩,Q,next2,last2=>(.s 7 (.br (decide ((a:Int) < (j:Int))) (fun p1=>have p1f:=aN p1; (.s 6 (.chk (true && decide ((j:Int) < (N:Int))) rN (.s 3 (.opt ((map nD Y)[0 + j * 1]?) (nD (getD Y (0 + j * 1) i4)) (ao _ _ om) (.s 7 (.ow ((j:Int) - 1) (.s 2 (.chk (decide (0 ≤ (j:Int) - 1) && decide ((j:Int) - 1 < (N:Int))) wE (.s 3 (.opt ((map nD Y)[0 + un ((j:Int) - 1) * 1]?) (nD (getD Y (0 + un ((j:Int) - 1) * 1) i4)) (ao _ _ om) (.s 2 (.cl 121 true [1] (.fn v9 (@qd (W) (L) om (getD Y (0 + j * 1) i4) (getD Y (0 + un ((j:Int) - 1) * 1) i4) (by ( exact hB.at om)) (by ( exact hB.at om)))) (.s 4 (.br (decide (lM (getD W (getD Y (0 + j * 1) i4) i4) (getD W (getD Y (0 + un ((j:Int) - 1) * 1) i4) i4) < 0)) (fun p2=>have p2f:=aN p2; (.s 7 (.ow ((j:Int) - 1) (.s 4 (.ow ((j:Int) - 1) (.s 1 (.chk (decide (0 ≤ (j:Int) - 1) && decide ((j:Int) - 1 < (N:Int))) wE (.s 2 (.opt ((map nD Y)[0 + un ((j:Int) - 1) * 1]?) (nD (getD Y (0 + un ((j:Int) - 1) * 1) i4)) (ao _ _ om) (.s 3 (.chk (true && decide ((j:Int) < (N:Int))) rN (.s 2 (.opt ((map nD Y)[0 + j * 1]?) (nD (getD Y (0 + j * 1) i4)) (ao _ _ om) (.s 1 (.chk (true && decide ((j:Int) < (N:Int))) rN (.s 1 (.chk (true && Kx (0 + j * 1 + 1) (length (map nD Y))) (by (simp;  have h9:=iG W X a k; omega)) (.lst (af (map nD Y) (0 + j * 1) [zN (getD Y (0 + un ((j:Int) - 1) * 1) i4)]) (af (map nD Y) j [zN (getD Y (un ((j:Int) - 1)) i4)]) (by (simp; done)) (.s 1 (.chk (decide (0 ≤ (j:Int) - 1) && decide ((j:Int) - 1 < (N:Int))) wE (.s 1 (.chk (true && Kx (0 + un ((j:Int) - 1) * 1 + 1) (length (af (map nD Y) j [zN (getD Y (un ((j:Int) - 1)) i4)]))) (by ( exact yX om om)) (.lst (af (af (map nD Y) j [zN (getD Y (un ((j:Int) - 1)) i4)]) (0 + un ((j:Int) - 1) * 1) [zN (getD Y (0 + j * 1) i4)]) (af (af (map nD Y) j [zN (getD Y (un ((j:Int) - 1)) i4)]) (un ((j:Int) - 1)) [zN (getD Y j i4)]) (by (simp; done)) (.s 3 (.ow ((j:Int) - 1) (.s 1 (.val 9 (zI ((j:Int) - 1)) (zN (j - 1)) n6 (.blk 0 0 (Blk.mk (af (af (map nD Y) j [zN (getD Y (un ((j:Int) - 1)) i4)]) (un ((j:Int) - 1)) [zN (getD Y j i4)]) 3 true) (Blk.mk (map nD (swp Y j (j - 1))) 3 true) (by ( exact au (s9 om om om om om om))) (Hn.next next2 ⟨(j - 1),(swp Y j (j - 1)),(by (rw [fQ]; (omega))),om,(by ( exact hB.swp om om)),(by ( exact Ds (u:=0 + j * 1) (v:=0 + ((j:Int) - 1).toNat * 1) hR om om om bk)),⟨⟩⟩ (by show j - 1 < j; clear next2 last2 next1 last1; omega) [(0,0),(1,1)] ro))))))))))))))))))))))))))))) (fun p2=>have p2f:=aO p2; (.blk 0 0 (Blk.mk (map nD Y) 3 true) (Blk.mk (map nD (inQ W X a (k + 1))) 3 true) (by ( rw [Du (u:=0 + j * 1) (v:=0 + ((j:Int) - 1).toNat * 1) hR om om bk])) (Hn.last last2 0 (():Unit) rfl [(0,0),(1,1)] ro)))))))))))))))))) (fun p1=>have p1f:=aO p1; (.s 24 (.blk 0 0 (Blk.mk (map nD Y) 3 true) (Blk.mk (map nD (inQ W X a (k + 1))) 3 true) (by ( rw [Dt hR om])) (Hn.last last2 0 (():Unit) rfl [(0,0),(1,1)] ro))))))) (fun | ⟨j,Y,hY,hj,hB,hR,_⟩=>by kernel_rfl) ⟨(a + 1 + k),(inQ W X a k),(by ( have h9:=iG W X a k; omega)),om,(by ( have h9:=iG W X a k; exact bh.inQ hA k om)),(by (exact wI W X a k)),⟨⟩⟩ [(0,0),(1,1)] ro (bX (fun | ()=>(.s 3 (.ow ((↑(a + 1 + k):Int) + 1) (.s 1 (.val 8 (zI ((↑(a + 1 + k):Int) + 1)) (zN (a + 1 + (k + 1))) n6 (Hn.next next1 ⟨(k + 1),om,⟨⟩⟩ (by show b - (a + 1) - (k + 1) < b - (a + 1) - k; clear next1 last1; omega) [(0,0),(1,1)] ro)))))))))) (fun p0=>have p0f:=aO p0; (.blk 0 0 (Blk.mk (map nD (inQ W X a k)) 3 true) (Blk.mk (map nD T) 3 true) (by ( rw [← hT,show b - (a + 1) = k from by omega])) (Hn.last last1 0 (():Unit) rfl [(0,0),(1,1)] ro)))))) (fun | ⟨k,hk,_⟩=>by kernel_rfl) ⟨(0),om,⟨⟩⟩ [(0,0),(1,1)] ro (bX (fun | ()=>(.out [0,1] [0,1] (D.tup []) [Blk.mk (map nD T) 3 true,Blk.mk [D.sl false L 1 (map nD W)] 41 false] R (ok _ _ wr wr))))))))))) (by kernel_rfl)
end Vp
end Go.Proofs.Ytefjnofhgkjpmaa
namespace Go.Proofs.Ytefjnofhgkjpmaa
open Go.RowKit Go.Bw Go.Vx
open List (length getD map take drop flatMap replicate)
namespace Vp
theorem dv {p:Prop} (h:p:=by (refine decide_eq_true ?_; (omega))):p:=h
theorem oa {p:Prop} (h:p:=by (refine decide_eq_false ?_; (omega))):p:=h
theorem qe {p:Prop} (h:p:=by (refine aJ ?_; (omega))):p:=h
theorem yY {p:Prop} (h:p:=by show y - ((x + y) / 2 + 1) < y - x; clear next1 last1; omega):p:=h
theorem yZ {p:Prop} (h:p:=by show (x + y) / 2 - x < y - x; clear next1 last1; omega):p:=h
theorem y0 {p:Prop} (h:p:=by ( have z:=wJ hR om; refine aJ ?_; omega)):p:=h
theorem za {p:Prop} (h:p:=by ((refine aF ?_ ?_) <;> (repeat' (first | (refine aF ?_ ?_) | (with_reducible rfl) | (refine decide_eq_true ?_) | (refine KA ?_) | (refine er ?_))) <;> (omega))):p:=h
theorem zb {p:Prop} (h:p:=by ( have z:=hE.e3 om; refine aJ ?_; omega)):p:=h
theorem zd {p:Prop} (h:p:=by ( have z:=hE.e4 om; refine aJ ?_; omega)):p:=h
theorem GL {p:Prop} (h:p:=by show (!decide _) = true; rw [decide_eq_false (show ¬ GM W X _ _ < 0 from hp)]; rfl):p:=h
theorem Bu {p:Prop} (h:p:=by show ¬ (!decide _) = true; rw [decide_eq_true (show GM W X _ _ < 0 from hp)]; decide):p:=h
theorem Bv {p:Prop} (h:p:=by ( exact I0 (u:=0 + (((x:Int) + (y:Int)) / 2).toNat * 1) (v:=0 + (((a:Int) + (b:Int)) / 2 + (m:Int) - 1 - ((x:Int) + (y:Int)) / 2).toNat * 1) hR om om om om bk)):p:=h
theorem Bx {p:Prop} (h:p:=by ( exact I1 (u:=0 + (((x:Int) + (y:Int)) / 2).toNat * 1) (v:=0 + (((a:Int) + (b:Int)) / 2 + (m:Int) - 1 - ((x:Int) + (y:Int)) / 2).toNat * 1) hR om om om om bk)):p:=h
def f6 (p:Nat → Bool):Nat → Nat → Nat → Nat
 | 0,i,_=>i
 | f + 1,i,j=>if i < j then (if p ((i + j) / 2) = true then f6 p f ((i + j) / 2 + 1) j else f6 p f i ((i + j) / 2)) else i
theorem wJ {p:Nat → Bool} {f i j T:Nat} (hR:f6 p f i j = T) (h:¬ i < j):i = T:=by
 rw [← hR]; cases f with
 | zero=>rfl
 | succ f=>exact (if_neg h).symm
theorem Dv {p:Nat → Bool} {f i j T:Nat} (hR:f6 p f i j = T) (hf:j - i ≤ f) (h:i < j) (hp:p ((i + j) / 2) = true):f6 p (f - 1) ((i + j) / 2 + 1) j = T:=by
 obtain ⟨g,rfl⟩:∃ g,f = g + 1:=⟨f - 1,by omega⟩
 rw [← hR]; exact ((if_pos h).trans (if_pos hp)).symm
theorem Dw {p:Nat → Bool} {f i j T:Nat} (hR:f6 p f i j = T) (hf:j - i ≤ f) (h:i < j) (hp:¬ p ((i + j) / 2) = true):f6 p (f - 1) i ((i + j) / 2) = T:=by
 obtain ⟨g,rfl⟩:∃ g,f = g + 1:=⟨f - 1,by omega⟩
 rw [← hR]; exact ((if_pos h).trans (if_neg hp)).symm
theorem ll {p:Nat → Bool}:∀ (f i j:Nat),i ≤ j → i ≤ f6 p f i j ∧ f6 p f i j ≤ j
 | 0,i,j,h=>⟨KG _,h⟩
 | f + 1,i,j,h=>by
  rw [f6]; split
  ·split
   ·have:=ll (p:=p) f ((i + j) / 2 + 1) j (by omega); omega
   ·have:=ll (p:=p) f i ((i + j) / 2) (by omega); omega
  ·exact ⟨KG _,h⟩
def GM (W X:List Nat) (u v:Nat):Int:=lM (W.getD (X.getD u i4) i4) (W.getD (X.getD v i4) i4)
def qA (W X:List Nat) (a h:Nat):Bool:=decide (GM W X h a < 0)
def qB (W X:List Nat) (m h:Nat):Bool:=!decide (GM W X m h < 0)
def qC (W X:List Nat) (q c:Nat):Bool:=!decide (GM W X (q - c) c < 0)
section
variable {W X:List Nat} {f x y T a u v:Nat}
theorem IW (hR:f6 (qA W X a) f x y = T) (hf:y - x ≤ f) (h:x < y) (hu:u = (x + y) / 2) (hv:v = a) (hp:lM (W.getD (X.getD u i4) i4) (W.getD (X.getD v i4) i4) < 0):f6 (qA W X a) (f - 1) ((x + y) / 2 + 1) y = T:=by
 subst hu hv; exact Dv hR hf h (decide_eq_true hp)
theorem IX (hR:f6 (qA W X a) f x y = T) (hf:y - x ≤ f) (h:x < y) (hu:u = (x + y) / 2) (hv:v = a) (hp:¬ lM (W.getD (X.getD u i4) i4) (W.getD (X.getD v i4) i4) < 0):f6 (qA W X a) (f - 1) x ((x + y) / 2) = T:=by
 subst hu hv; exact Dw hR hf h (fun q=>hp (of_decide_eq_true q))
theorem IY (hR:f6 (qB W X a) f x y = T) (hf:y - x ≤ f) (h:x < y) (hu:u = (x + y) / 2) (hv:v = a) (hp:¬ lM (W.getD (X.getD v i4) i4) (W.getD (X.getD u i4) i4) < 0):f6 (qB W X a) (f - 1) ((x + y) / 2 + 1) y = T:=by
 subst hu hv; exact Dv hR hf h GL
theorem IZ (hR:f6 (qB W X a) f x y = T) (hf:y - x ≤ f) (h:x < y) (hu:u = (x + y) / 2) (hv:v = a) (hp:lM (W.getD (X.getD v i4) i4) (W.getD (X.getD u i4) i4) < 0):f6 (qB W X a) (f - 1) x ((x + y) / 2) = T:=by
 subst hu hv; exact Dw hR hf h Bu
theorem I0 (hR:f6 (qC W X a) f x y = T) (hf:y - x ≤ f) (h:x < y) (hu:u = (x + y) / 2) (hv:v = a - (x + y) / 2) (hp:¬ lM (W.getD (X.getD v i4) i4) (W.getD (X.getD u i4) i4) < 0):f6 (qC W X a) (f - 1) ((x + y) / 2 + 1) y = T:=by
 subst hu hv; exact Dv hR hf h GL
theorem I1 (hR:f6 (qC W X a) f x y = T) (hf:y - x ≤ f) (h:x < y) (hu:u = (x + y) / 2) (hv:v = a - (x + y) / 2) (hp:lM (W.getD (X.getD v i4) i4) (W.getD (X.getD u i4) i4) < 0):f6 (qC W X a) (f - 1) x ((x + y) / 2) = T:=by
 subst hu hv; exact Dw hR hf h Bu
end
def GN (X:List Nat) (a:Nat):Nat → List Nat
 | 0=>X
 | k + 1=>swp (GN X a k) (a + k) (a + k + 1)
def GO (X:List Nat) (m:Nat):Nat → List Nat
 | 0=>X
 | k + 1=>swp (GO X m k) (m - k) (m - k - 1)
theorem tg (X:List Nat) (a:Nat):∀ k,(GN X a k).length = X.length
 | 0=>rfl
 | k + 1=>by rw [GN,fQ,tg X a k]
theorem th (X:List Nat) (a:Nat):∀ k,(GO X a k).length = X.length
 | 0=>rfl
 | k + 1=>by rw [GO,fQ,th X a k]
def gr (X:List Nat) (a k:Nat):List Nat:=lk X (GN X a k)
def gu (X:List Nat) (m k:Nat):List Nat:=lk X (GO X m k)
theorem oc (X:List Nat) (a k:Nat):gr X a k = GN X a k:=aA _ _
theorem od (X:List Nat) (a k:Nat):gu X a k = GO X a k:=aA _ _
theorem By (X:List Nat) (a:Nat):gr X a 0 = X:=oc X a 0
theorem Bz (X:List Nat) (a:Nat):gu X a 0 = X:=od X a 0
theorem fR (X:List Nat) (a k:Nat):(gr X a k).length = X.length:=by rw [oc,tg]
theorem fS (X:List Nat) (a k:Nat):(gu X a k).length = X.length:=by rw [od,th]
theorem BA (X:List Nat) (a k:Nat):swp (gr X a k) (a + k) (a + k + 1) = gr X a (k + 1):=by rw [oc,oc]; rfl
theorem BB (X:List Nat) (a k:Nat):swp (gu X a k) (a - k) (a - k - 1) = gu X a (k + 1):=by rw [od,od]; rfl
theorem I2 (X:List Nat) (N:Nat) (hN:N = X.length) (hN2:N ≤ 1000) (W:List Nat) (L:Nat) (hL:L = W.length) (hA:bh L X) (a m b:Nat) (h1:a < m) (h2:m < b) (h3:b ≤ N) (hm:m = a + 1) (i:Nat) (hi:f6 (qA W X a) (b - m) m b = i) (hi2:m ≤ i ∧ i ≤ b):SpecH true Try.prog 132 [.ref 0 0 0 N 1,nD a,nD m,nD b,.fn (.func 121) [] [.ptr 1 1 0]] [⟨X.map nD, 3, true⟩,⟨[.sl false L 1 (W.map nD)], 41, false⟩] (.tup []) [⟨(gr X a (i - 1 - a)).map nD, 3, true⟩,⟨[.sl false L 1 (W.map nD)], 41, false⟩]:=by
 refine SpecH.run T_ok ag Try.func132 rfl rfl rfl ⟨k8 _,rfl,trivial⟩ rfl 1000 64 (fun R ok=>(.s 4 (.ow ((m:Int) - (a:Int)) (.s 2 (.t ((m:Int) - (a:Int) == 1) dv (.s 4 (Hn.inl T_ok ag false 220 2 (aq Try.prog 132 0) (fun (x:(x:Nat) ×' (y:Nat) ×' (f:Nat) ×' (hx:m ≤ x ∧ x ≤ y ∧ y ≤ b) ×' (hf:y - x ≤ f) ×' (hR:f6 (qA W X a) f x y = i) ×' Unit)=>match x with | ⟨x,y,f,hx,hf,hR,_⟩=>CutS.mk [(0,D.ref 0 0 0 N 1),(1,zN a),(4,D.fn (K9 121) [] [D.ptr 1 1 0]),(10,nD x),(11,nD y)] [⟨0,0,0,0,.b ⟨map nD X,3,true⟩⟩,⟨1,1,1,1,.b ⟨[D.sl false L 1 (map nD W)],41,false⟩⟩] 24) (fun (x:(x:Nat) ×' (y:Nat) ×' (f:Nat) ×' (hx:m ≤ x ∧ x ≤ y ∧ y ≤ b) ×' (hf:y - x ≤ f) ×' (hR:f6 (qA W X a) f x y = i) ×' Unit)=>match x with | ⟨x,y,f,hx,hf,hR,_⟩=>y - x) [⟨Unit,.exit 0,fun x=>match x with | ()=>CutS.mk [(0,D.ref 0 0 0 N 1),(1,zN a),(4,D.fn (K9 121) [] [D.ptr 1 1 0]),(10,nD i),(11,nD i)] [⟨0,0,0,0,.b ⟨map nD X,3,true⟩⟩,⟨1,1,1,1,.b ⟨[D.sl false L 1 (map nD W)],41,false⟩⟩] 24⟩] 1000 64 (fun | ⟨x,y,f,hx,hf,hR,_⟩,Q,next1,last1=>(.s 4 (.br (decide ((x:Int) < (y:Int))) (fun p0=>have p0f:=aN p0; (.s 4 (.ow ((x:Int) + (y:Int)) (.s 1 (.opt (ap .u64 ((x:Int) + (y:Int))) (D.v (Ll .u64 ((x:Int) + (y:Int)))) (a9 om) (.s 2 (.opt (bq LY (Lb ((x:Int) + (y:Int)) 2)) (D.v (Ll .u64 (((x:Int) + (y:Int)) / 2))) (aC (@fM  ((x:Int) + (y:Int)) (2) om)) (.s 1 (.ow (((x:Int) + (y:Int)) / 2) (.s 6 (.chk (true && decide (((x:Int) + (y:Int)) / 2 < (N:Int))) dv (.s 2 (.opt ((map nD X)[0 + un (((x:Int) + (y:Int)) / 2) * 1]?) (nD (getD X (0 + un (((x:Int) + (y:Int)) / 2) * 1) i4)) (ao _ _ om) (.s 3 (.chk (true && decide ((a:Int) < (N:Int))) dv (.s 2 (.opt ((map nD X)[0 + a * 1]?) (nD (getD X (0 + a * 1) i4)) (ao _ _ om) (.s 1 (.cl 121 true [1] (.fn v9 (@qd (W) (L) om (getD X (0 + un (((x:Int) + (y:Int)) / 2) * 1) i4) (getD X (0 + a * 1) i4) (by ( exact hA.at om)) (by ( exact hA.at om)))) (.s 2 (.br (decide (lM (getD W (getD X (0 + un (((x:Int) + (y:Int)) / 2) * 1) i4) i4) (getD W (getD X (0 + a * 1) i4) i4) < 0)) (fun p1=>have p1f:=aN p1; (.s 3 (.ow (((x:Int) + (y:Int)) / 2 + 1) (.s 1 (.val 10 (zI (((x:Int) + (y:Int)) / 2 + 1)) (zN ((x + y) / 2 + 1)) qe (Hn.next next1 ⟨((x + y) / 2 + 1),(y),(f - 1),om,om,(by ( exact IW (u:=0 + (((x:Int) + (y:Int)) / 2).toNat * 1) (v:=0 + a * 1) hR om om om om bk)),⟨⟩⟩ yY [(0,0),(1,1)] ro)))))) (fun p1=>have p1f:=aO p1; (.s 2 (.val 11 (zI (((x:Int) + (y:Int)) / 2)) (zN ((x + y) / 2)) qe (Hn.next next1 ⟨(x),((x + y) / 2),(f - 1),om,om,(by ( exact IX (u:=0 + (((x:Int) + (y:Int)) / 2).toNat * 1) (v:=0 + a * 1) hR om om om om bk)),⟨⟩⟩ yZ [(0,0),(1,1)] ro))))))))))))))))))))))))) (fun p0=>have p0f:=aO p0; (.val 10 (zN x) (zN i) (by ( rw [wJ hR om])) (.val 11 (zN y) (zN i) y0 (Hn.last last1 0 (():Unit) rfl [(0,0),(1,1)] ro))))))) (fun | ⟨x,y,f,hx,hf,hR,_⟩=>by kernel_rfl) ⟨(m),(b),(b - m),om,om,om,⟨⟩⟩ [(0,0),(1,1)] ro (bX (fun | ()=>(.s 2 (.val 13 (zN a) (zN (a + 0)) qe (.blk 0 0 (Blk.mk (map nD X) 3 true) (Blk.mk (map nD (gr X a 0)) 3 true) (by (rw [By]; done)) (Hn.inl T_ok ag false 220 2 (aq Try.prog 132 1) (fun (x:(k:Nat) ×' (hk:a + k ≤ i - 1) ×' Unit)=>match x with | ⟨k,hk,_⟩=>CutS.mk [(0,D.ref 0 0 0 N 1),(10,zN i),(13,nD (a + k))] [⟨0,0,0,0,.b ⟨(gr X a k).map nD,3,true⟩⟩,⟨1,1,1,1,.b ⟨[D.sl false L 1 (map nD W)],41,false⟩⟩] 24) (fun (x:(k:Nat) ×' (hk:a + k ≤ i - 1) ×' Unit)=>match x with | ⟨k,hk,_⟩=>i - 1 - a - k) [⟨Unit,.exit 2,fun x=>match x with | ()=>CutS.mk [(0,D.ref 0 0 0 N 1),(10,zN i)] [⟨0,0,0,0,.b ⟨(gr X a (i - 1 - a)).map nD,3,true⟩⟩,⟨1,1,1,1,.b ⟨[D.sl false L 1 (map nD W)],41,false⟩⟩] 24⟩] 1000 64 (fun | ⟨k,hk,_⟩,Q,next1,last1=>(.s 4 (.ow ((i:Int) - 1) (.s 2 (.br (decide ((↑(a + k):Int) < (i:Int) - 1)) (fun p2=>have p2f:=aN p2; (.s 7 (.ow ((↑(a + k):Int) + 1) (.s 4 (.ow ((↑(a + k):Int) + 1) (.s 1 (.chk (true && decide ((↑(a + k):Int) + 1 < (N:Int))) dv (.s 2 (.opt ((map nD (gr X a k))[0 + un ((↑(a + k):Int) + 1) * 1]?) (nD (getD (gr X a k) (0 + un ((↑(a + k):Int) + 1) * 1) i4)) (ao _ _ (by ( have h9:=fR X a k; omega))) (.s 3 (.chk (true && decide ((↑(a + k):Int) < (N:Int))) dv (.s 2 (.opt ((map nD (gr X a k))[0 + (a + k) * 1]?) (nD (getD (gr X a k) (0 + (a + k) * 1) i4)) (ao _ _ (by ( have h9:=fR X a k; omega))) (.s 1 (.chk (true && decide ((↑(a + k):Int) < (N:Int))) dv (.s 1 (.chk (true && Kx (0 + (a + k) * 1 + 1) (length (map nD (gr X a k)))) (by (simp;  have h9:=fR X a k; omega)) (.lst (af (map nD (gr X a k)) (0 + (a + k) * 1) [zN (getD (gr X a k) (0 + un ((↑(a + k):Int) + 1) * 1) i4)]) (af (map nD (gr X a k)) (a + k) [zN (getD (gr X a k) (un ((↑(a + k):Int) + 1)) i4)]) (by (simp; done)) (.s 1 (.chk (true && decide ((↑(a + k):Int) + 1 < (N:Int))) dv (.s 1 (.chk (true && Kx (0 + un ((↑(a + k):Int) + 1) * 1 + 1) (length (af (map nD (gr X a k)) (a + k) [zN (getD (gr X a k) (un ((↑(a + k):Int) + 1)) i4)]))) (by ( have h9:=fR X a k; exact yX om om)) (.lst (af (af (map nD (gr X a k)) (a + k) [zN (getD (gr X a k) (un ((↑(a + k):Int) + 1)) i4)]) (0 + un ((↑(a + k):Int) + 1) * 1) [zN (getD (gr X a k) (0 + (a + k) * 1) i4)]) (af (af (map nD (gr X a k)) (a + k) [zN (getD (gr X a k) (un ((↑(a + k):Int) + 1)) i4)]) (un ((↑(a + k):Int) + 1)) [zN (getD (gr X a k) (a + k) i4)]) (by (simp; done)) (.s 3 (.ow ((↑(a + k):Int) + 1) (.s 1 (.val 13 (zI ((↑(a + k):Int) + 1)) (zN (a + (k + 1))) qe (.blk 0 0 (Blk.mk (af (af (map nD (gr X a k)) (a + k) [zN (getD (gr X a k) (un ((↑(a + k):Int) + 1)) i4)]) (un ((↑(a + k):Int) + 1)) [zN (getD (gr X a k) (a + k) i4)]) 3 true) (Blk.mk (map nD (gr X a (k + 1))) 3 true) (by ( have h9:=fR X a k; exact au (NY (s9 (i:=a + k) (j:=a + k + 1) om om om om om om) (by rw [BA])))) (Hn.next next1 ⟨(k + 1),om,⟨⟩⟩ (by show i - 1 - a - (k + 1) < i - 1 - a - k; clear next1 last1; omega) [(0,0),(1,1)] ro))))))))))))))))))))))))))))) (fun p2=>have p2f:=aO p2; (.blk 0 0 (Blk.mk (map nD (gr X a k)) 3 true) (Blk.mk (map nD (gr X a (i - 1 - a))) 3 true) (by ( rw [show k = i - 1 - a from by omega])) (Hn.last last1 0 (():Unit) rfl [(0,0),(1,1)] ro)))))))) (fun | ⟨k,hk,_⟩=>by kernel_rfl) ⟨(0),om,⟨⟩⟩ [(0,0),(1,1)] ro (bX (fun | ()=>(.out [0,1] [0,1] (D.tup []) [Blk.mk (map nD (gr X a (i - 1 - a))) 3 true,Blk.mk [D.sl false L 1 (map nD W)] 41 false] R (ok _ _ wr wr))))))))))))))))) (by kernel_rfl)
theorem I3 (X:List Nat) (N:Nat) (hN:N = X.length) (hN2:N ≤ 1000) (W:List Nat) (L:Nat) (hL:L = W.length) (hA:bh L X) (a m b:Nat) (h1:a < m) (h2:m < b) (h3:b ≤ N) (hm:m ≠ a + 1) (hb:b = m + 1) (i:Nat) (hi:f6 (qB W X m) (m - a) a m = i) (hi2:a ≤ i ∧ i ≤ m):SpecH true Try.prog 132 [.ref 0 0 0 N 1,nD a,nD m,nD b,.fn (.func 121) [] [.ptr 1 1 0]] [⟨X.map nD, 3, true⟩,⟨[.sl false L 1 (W.map nD)], 41, false⟩] (.tup []) [⟨(gu X m (m - i)).map nD, 3, true⟩,⟨[.sl false L 1 (W.map nD)], 41, false⟩]:=by
 refine SpecH.run T_ok ag Try.func132 rfl rfl rfl ⟨k8 _,rfl,trivial⟩ rfl 1000 64 (fun R ok=>(.s 4 (.ow ((m:Int) - (a:Int)) (.s 2 (.f ((m:Int) - (a:Int) == 1) oa (.s 4 (.ow ((b:Int) - (m:Int)) (.s 2 (.t ((b:Int) - (m:Int) == 1) dv (.s 4 (Hn.inl T_ok ag false 220 2 (aq Try.prog 132 2) (fun (x:(x:Nat) ×' (y:Nat) ×' (f:Nat) ×' (hx:a ≤ x ∧ x ≤ y ∧ y ≤ m) ×' (hf:y - x ≤ f) ×' (hR:f6 (qB W X m) f x y = i) ×' Unit)=>match x with | ⟨x,y,f,hx,hf,hR,_⟩=>CutS.mk [(0,D.ref 0 0 0 N 1),(2,zN m),(4,D.fn (K9 121) [] [D.ptr 1 1 0]),(14,nD x),(15,nD y)] [⟨0,0,0,0,.b ⟨map nD X,3,true⟩⟩,⟨1,1,1,1,.b ⟨[D.sl false L 1 (map nD W)],41,false⟩⟩] 24) (fun (x:(x:Nat) ×' (y:Nat) ×' (f:Nat) ×' (hx:a ≤ x ∧ x ≤ y ∧ y ≤ m) ×' (hf:y - x ≤ f) ×' (hR:f6 (qB W X m) f x y = i) ×' Unit)=>match x with | ⟨x,y,f,hx,hf,hR,_⟩=>y - x) [⟨Unit,.exit 4,fun x=>match x with | ()=>CutS.mk [(0,D.ref 0 0 0 N 1),(2,zN m),(4,D.fn (K9 121) [] [D.ptr 1 1 0]),(14,nD i),(15,nD i)] [⟨0,0,0,0,.b ⟨map nD X,3,true⟩⟩,⟨1,1,1,1,.b ⟨[D.sl false L 1 (map nD W)],41,false⟩⟩] 24⟩] 1000 64 (fun | ⟨x,y,f,hx,hf,hR,_⟩,Q,next1,last1=>(.s 4 (.br (decide ((x:Int) < (y:Int))) (fun p0=>have p0f:=aN p0; (.s 4 (.ow ((x:Int) + (y:Int)) (.s 1 (.opt (ap .u64 ((x:Int) + (y:Int))) (D.v (Ll .u64 ((x:Int) + (y:Int)))) (a9 om) (.s 2 (.opt (bq LY (Lb ((x:Int) + (y:Int)) 2)) (D.v (Ll .u64 (((x:Int) + (y:Int)) / 2))) (aC (@fM  ((x:Int) + (y:Int)) (2) om)) (.s 1 (.ow (((x:Int) + (y:Int)) / 2) (.s 6 (.chk (true && decide ((m:Int) < (N:Int))) dv (.s 2 (.opt ((map nD X)[0 + m * 1]?) (nD (getD X (0 + m * 1) i4)) (ao _ _ om) (.s 3 (.chk (true && decide (((x:Int) + (y:Int)) / 2 < (N:Int))) dv (.s 2 (.opt ((map nD X)[0 + un (((x:Int) + (y:Int)) / 2) * 1]?) (nD (getD X (0 + un (((x:Int) + (y:Int)) / 2) * 1) i4)) (ao _ _ om) (.s 1 (.cl 121 true [1] (.fn v9 (@qd (W) (L) om (getD X (0 + m * 1) i4) (getD X (0 + un (((x:Int) + (y:Int)) / 2) * 1) i4) (by ( exact hA.at om)) (by ( exact hA.at om)))) (.s 3 (.br (!decide (lM (getD W (getD X (0 + m * 1) i4) i4) (getD W (getD X (0 + un (((x:Int) + (y:Int)) / 2) * 1) i4) i4) < 0)) (fun p1=>have p1f:=aO (cR p1); (.s 3 (.ow (((x:Int) + (y:Int)) / 2 + 1) (.s 1 (.val 14 (zI (((x:Int) + (y:Int)) / 2 + 1)) (zN ((x + y) / 2 + 1)) qe (Hn.next next1 ⟨((x + y) / 2 + 1),(y),(f - 1),om,om,(by ( exact IY (u:=0 + (((x:Int) + (y:Int)) / 2).toNat * 1) (v:=0 + m * 1) hR om om om om bk)),⟨⟩⟩ yY [(0,0),(1,1)] ro)))))) (fun p1=>have p1f:=aN (cS p1); (.s 2 (.val 15 (zI (((x:Int) + (y:Int)) / 2)) (zN ((x + y) / 2)) qe (Hn.next next1 ⟨(x),((x + y) / 2),(f - 1),om,om,(by ( exact IZ (u:=0 + (((x:Int) + (y:Int)) / 2).toNat * 1) (v:=0 + m * 1) hR om om om om bk)),⟨⟩⟩ yZ [(0,0),(1,1)] ro))))))))))))))))))))))))) (fun p0=>have p0f:=aO p0; (.val 14 (zN x) (zN i) (by ( rw [wJ hR om])) (.val 15 (zN y) (zN i) y0 (Hn.last last1 0 (():Unit) rfl [(0,0),(1,1)] ro))))))) (fun | ⟨x,y,f,hx,hf,hR,_⟩=>by kernel_rfl) ⟨(a),(m),(m - a),om,om,om,⟨⟩⟩ [(0,0),(1,1)] ro (bX (fun | ()=>(.s 2 (.val 17 (zN m) (zN (m - 0)) qe (.blk 0 0 (Blk.mk (map nD X) 3 true) (Blk.mk (map nD (gu X m 0)) 3 true) (by (rw [Bz]; done)) (Hn.inl T_ok ag false 220 2 (aq Try.prog 132 3) (fun (x:(k:Nat) ×' (hk:k ≤ m - i) ×' Unit)=>match x with | ⟨k,hk,_⟩=>CutS.mk [(0,D.ref 0 0 0 N 1),(14,zN i),(17,nD (m - k))] [⟨0,0,0,0,.b ⟨(gu X m k).map nD,3,true⟩⟩,⟨1,1,1,1,.b ⟨[D.sl false L 1 (map nD W)],41,false⟩⟩] 24) (fun (x:(k:Nat) ×' (hk:k ≤ m - i) ×' Unit)=>match x with | ⟨k,hk,_⟩=>m - i - k) [⟨Unit,.exit 6,fun x=>match x with | ()=>CutS.mk [(0,D.ref 0 0 0 N 1),(14,zN i)] [⟨0,0,0,0,.b ⟨(gu X m (m - i)).map nD,3,true⟩⟩,⟨1,1,1,1,.b ⟨[D.sl false L 1 (map nD W)],41,false⟩⟩] 24⟩] 1000 64 (fun | ⟨k,hk,_⟩,Q,next1,last1=>(.s 4 (.br (decide ((i:Int) < (↑(m - k):Int))) (fun p2=>have p2f:=aN p2; (.s 7 (.ow ((↑(m - k):Int) - 1) (.s 4 (.ow ((↑(m - k):Int) - 1) (.s 1 (.chk (decide (0 ≤ (↑(m - k):Int) - 1) && decide ((↑(m - k):Int) - 1 < (N:Int))) za (.s 2 (.opt ((map nD (gu X m k))[0 + un ((↑(m - k):Int) - 1) * 1]?) (nD (getD (gu X m k) (0 + un ((↑(m - k):Int) - 1) * 1) i4)) (ao _ _ (by ( have h9:=fS X m k; omega))) (.s 3 (.chk (true && decide ((↑(m - k):Int) < (N:Int))) dv (.s 2 (.opt ((map nD (gu X m k))[0 + (m - k) * 1]?) (nD (getD (gu X m k) (0 + (m - k) * 1) i4)) (ao _ _ (by ( have h9:=fS X m k; omega))) (.s 1 (.chk (true && decide ((↑(m - k):Int) < (N:Int))) dv (.s 1 (.chk (true && Kx (0 + (m - k) * 1 + 1) (length (map nD (gu X m k)))) (by (simp;  have h9:=fS X m k; omega)) (.lst (af (map nD (gu X m k)) (0 + (m - k) * 1) [zN (getD (gu X m k) (0 + un ((↑(m - k):Int) - 1) * 1) i4)]) (af (map nD (gu X m k)) (m - k) [zN (getD (gu X m k) (un ((↑(m - k):Int) - 1)) i4)]) (by (simp; done)) (.s 1 (.chk (decide (0 ≤ (↑(m - k):Int) - 1) && decide ((↑(m - k):Int) - 1 < (N:Int))) za (.s 1 (.chk (true && Kx (0 + un ((↑(m - k):Int) - 1) * 1 + 1) (length (af (map nD (gu X m k)) (m - k) [zN (getD (gu X m k) (un ((↑(m - k):Int) - 1)) i4)]))) (by ( have h9:=fS X m k; exact yX om om)) (.lst (af (af (map nD (gu X m k)) (m - k) [zN (getD (gu X m k) (un ((↑(m - k):Int) - 1)) i4)]) (0 + un ((↑(m - k):Int) - 1) * 1) [zN (getD (gu X m k) (0 + (m - k) * 1) i4)]) (af (af (map nD (gu X m k)) (m - k) [zN (getD (gu X m k) (un ((↑(m - k):Int) - 1)) i4)]) (un ((↑(m - k):Int) - 1)) [zN (getD (gu X m k) (m - k) i4)]) (by (simp; done)) (.s 3 (.ow ((↑(m - k):Int) - 1) (.s 1 (.val 17 (zI ((↑(m - k):Int) - 1)) (zN (m - (k + 1))) qe (.blk 0 0 (Blk.mk (af (af (map nD (gu X m k)) (m - k) [zN (getD (gu X m k) (un ((↑(m - k):Int) - 1)) i4)]) (un ((↑(m - k):Int) - 1)) [zN (getD (gu X m k) (m - k) i4)]) 3 true) (Blk.mk (map nD (gu X m (k + 1))) 3 true) (by ( have h9:=fS X m k; exact au (NY (s9 (i:=m - k) (j:=m - k - 1) om om om om om om) (by rw [BB])))) (Hn.next next1 ⟨(k + 1),om,⟨⟩⟩ (by show m - i - (k + 1) < m - i - k; clear next1 last1; omega) [(0,0),(1,1)] ro))))))))))))))))))))))))))))) (fun p2=>have p2f:=aO p2; (.blk 0 0 (Blk.mk (map nD (gu X m k)) 3 true) (Blk.mk (map nD (gu X m (m - i))) 3 true) (by ( rw [show k = m - i from by omega])) (Hn.last last1 0 (():Unit) rfl [(0,0),(1,1)] ro)))))) (fun | ⟨k,hk,_⟩=>by kernel_rfl) ⟨(0),om,⟨⟩⟩ [(0,0),(1,1)] ro (bX (fun | ()=>(.out [0,1] [0,1] (D.tup []) [Blk.mk (map nD (gu X m (m - i))) 3 true,Blk.mk [D.sl false L 1 (map nD W)] 41 false] R (ok _ _ wr wr))))))))))))))))))))) (by kernel_rfl)
structure RtH (W:List Nat) (L N:Nat) (X:List Nat) (a m b:Nat) (X1:List Nat):Prop where
 h:∀ (Y:List Nat) (x y z:Int),Y = X → x = a → y = m → z = b → SpecH true Try.prog 135 [.ref 0 0 0 N 1,iD x,iD y,iD z,.fn (.func 121) [] [.ptr 1 1 0]] [⟨Y.map nD, 3, true⟩,⟨[.sl false L 1 (W.map nD)], 41, false⟩] (.tup []) [⟨X1.map nD, 3, true⟩,⟨[.sl false L 1 (W.map nD)], 41, false⟩]
structure SaH (W:List Nat) (L N:Nat) (X:List Nat) (a m b:Nat) (X1:List Nat):Prop where
 h:∀ (Y:List Nat) (x y z:Int),Y = X → x = a → y = m → z = b → SpecH true Try.prog 132 [.ref 0 0 0 N 1,iD x,iD y,iD z,.fn (.func 121) [] [.ptr 1 1 0]] [⟨Y.map nD, 3, true⟩,⟨[.sl false L 1 (W.map nD)], 41, false⟩] (.tup []) [⟨X1.map nD, 3, true⟩,⟨[.sl false L 1 (W.map nD)], 41, false⟩]
structure SbH (W:List Nat) (L N:Nat) (X:List Nat) (a m b:Nat) (X1:List Nat):Prop where
 h:∀ (Y:List Nat) (x y z:Int),Y = X → x = a → y = m → z = b → SpecH true Try.prog 132 [.ref 0 0 0 N 1,iD x,iD y,iD z,.fn (.func 121) [] [.ptr 1 1 0]] [⟨Y.map nD, 3, true⟩,⟨[.sl false L 1 (W.map nD)], 41, false⟩] (.tup []) [⟨X1.map nD, 3, true⟩,⟨[.sl false L 1 (W.map nD)], 41, false⟩]
structure SmE (W:List Nat) (L N:Nat) (X X1 X2 T:List Nat) (a m b mid q st en s0 r0:Nat):Prop where
 r:st < m → m < en → RtH W L N X st m en X1
 r0' : (st < m → m < en → False) → X = X1
 s:a < st → st < mid → SaH W L N X1 a st mid X2
 s0' : (a < st → st < mid → False) → X1 = X2
 t:mid < en → en < b → SbH W L N X2 mid en b T
 t0' : (mid < en → en < b → False) → X2 = T
 e3:mid < m → s0 = q - b ∧ r0 = mid
 e4:m ≤ mid → s0 = a ∧ r0 = m
section
variable {W:List Nat} {L N:Nat} {X X1 X2 T:List Nat} {a m b mid q st en s0 r0:Nat} (h:SmE W L N X X1 X2 T a m b mid q st en s0 r0)
include h
theorem SmE.rp (c1:st < m) (c2:m < en) (Y:List Nat) (x y z:Int) (hY:Y = X) (hx:x = st) (hy:y = m) (hz:z = en):SpecH true Try.prog 135 [.ref 0 0 0 N 1,iD x,iD y,iD z,.fn (.func 121) [] [.ptr 1 1 0]] [⟨Y.map nD, 3, true⟩,⟨[.sl false L 1 (W.map nD)], 41, false⟩] (.tup []) [⟨X1.map nD, 3, true⟩,⟨[.sl false L 1 (W.map nD)], 41, false⟩]:=(h.r c1 c2).h Y x y z hY hx hy hz
theorem SmE.sp (c1:a < st) (c2:st < mid) (Y:List Nat) (x y z:Int) (hY:Y = X1) (hx:x = a) (hy:y = st) (hz:z = mid):SpecH true Try.prog 132 [.ref 0 0 0 N 1,iD x,iD y,iD z,.fn (.func 121) [] [.ptr 1 1 0]] [⟨Y.map nD, 3, true⟩,⟨[.sl false L 1 (W.map nD)], 41, false⟩] (.tup []) [⟨X2.map nD, 3, true⟩,⟨[.sl false L 1 (W.map nD)], 41, false⟩]:=(h.s c1 c2).h Y x y z hY hx hy hz
theorem SmE.tp (c1:mid < en) (c2:en < b) (Y:List Nat) (x y z:Int) (hY:Y = X2) (hx:x = mid) (hy:y = en) (hz:z = b):SpecH true Try.prog 132 [.ref 0 0 0 N 1,iD x,iD y,iD z,.fn (.func 121) [] [.ptr 1 1 0]] [⟨Y.map nD, 3, true⟩,⟨[.sl false L 1 (W.map nD)], 41, false⟩] (.tup []) [⟨T.map nD, 3, true⟩,⟨[.sl false L 1 (W.map nD)], 41, false⟩]:=(h.t c1 c2).h Y x y z hY hx hy hz
end
theorem I4 (X:List Nat) (N:Nat) (hN:N = X.length) (hN2:N ≤ 1000) (W:List Nat) (L:Nat) (hL:L = W.length) (hA:bh L X) (a m b:Nat) (h1:a < m) (h2:m < b) (h3:b ≤ N) (hm:m ≠ a + 1) (hb:b ≠ m + 1) (X1 X2 T:List Nat) (mid q st en:Nat) (e1:mid = (a + b) / 2) (e2:q = mid + m) (s0 r0:Nat) (hs0:s0 ≤ r0 ∧ r0 ≤ m ∧ a ≤ s0 ∧ q ≤ s0 + b) (hi:f6 (qC W X (q - 1)) (r0 - s0) s0 r0 = st) (hi2:s0 ≤ st ∧ st ≤ r0) (e5:en = q - st) (hE:SmE W L N X X1 X2 T a m b mid q st en s0 r0):SpecH true Try.prog 132 [.ref 0 0 0 N 1,nD a,nD m,nD b,.fn (.func 121) [] [.ptr 1 1 0]] [⟨X.map nD, 3, true⟩,⟨[.sl false L 1 (W.map nD)], 41, false⟩] (.tup []) [⟨(T).map nD, 3, true⟩,⟨[.sl false L 1 (W.map nD)], 41, false⟩]:=by
 refine SpecH.run T_ok ag Try.func132 rfl rfl rfl ⟨k8 _,rfl,trivial⟩ rfl 1000 64 (fun R ok=>(.s 4 (.ow ((m:Int) - (a:Int)) (.s 2 (.f ((m:Int) - (a:Int) == 1) oa (.s 4 (.ow ((b:Int) - (m:Int)) (.s 2 (.f ((b:Int) - (m:Int) == 1) oa (.s 4 (.ow ((a:Int) + (b:Int)) (.s 1 (.opt (ap .u64 ((a:Int) + (b:Int))) (D.v (Ll .u64 ((a:Int) + (b:Int)))) (a9 om) (.s 2 (.opt (bq LY (Lb ((a:Int) + (b:Int)) 2)) (D.v (Ll .u64 (((a:Int) + (b:Int)) / 2))) (aC (@fM  ((a:Int) + (b:Int)) (2) om)) (.s 1 (.ow (((a:Int) + (b:Int)) / 2) (.s 5 (.ow (((a:Int) + (b:Int)) / 2 + (m:Int)) (.s 7 (.br (decide (((a:Int) + (b:Int)) / 2 < (m:Int))) (fun p0=>have p0f:=aN p0; (.s 4 (.ow (((a:Int) + (b:Int)) / 2 + (m:Int) - (b:Int)) (.s 6 (.ow (((a:Int) + (b:Int)) / 2 + (m:Int) - 1) (.s 1 (.val 20 (zI (((a:Int) + (b:Int)) / 2 + (m:Int) - (b:Int))) (zN s0) zb (.val 21 (zI (((a:Int) + (b:Int)) / 2)) (zN r0) zb (Hn.inl T_ok ag false 220 2 (aq Try.prog 132 4) (fun (x:(x:Nat) ×' (y:Nat) ×' (f:Nat) ×' (hx:s0 ≤ x ∧ x ≤ y ∧ y ≤ r0) ×' (hf:y - x ≤ f) ×' (hR:f6 (qC W X (q - 1)) f x y = st) ×' Unit)=>match x with | ⟨x,y,f,hx,hf,hR,_⟩=>CutS.mk [(0,D.ref 0 0 0 N 1),(1,zN a),(2,zN m),(3,zN b),(4,D.fn (K9 121) [] [D.ptr 1 1 0]),(18,zI (((a:Int) + (b:Int)) / 2)),(19,zI (((a:Int) + (b:Int)) / 2 + (m:Int))),(20,nD x),(21,nD y),(22,zI (((a:Int) + (b:Int)) / 2 + (m:Int) - 1))] [⟨0,0,0,0,.b ⟨map nD X,3,true⟩⟩,⟨1,1,1,1,.b ⟨[D.sl false L 1 (map nD W)],41,false⟩⟩] 24) (fun (x:(x:Nat) ×' (y:Nat) ×' (f:Nat) ×' (hx:s0 ≤ x ∧ x ≤ y ∧ y ≤ r0) ×' (hf:y - x ≤ f) ×' (hR:f6 (qC W X (q - 1)) f x y = st) ×' Unit)=>match x with | ⟨x,y,f,hx,hf,hR,_⟩=>y - x) [⟨Unit,.exit 8,fun x=>match x with | ()=>CutS.mk [(0,D.ref 0 0 0 N 1),(1,zN a),(2,zN m),(3,zN b),(4,D.fn (K9 121) [] [D.ptr 1 1 0]),(18,zI (((a:Int) + (b:Int)) / 2)),(19,zI (((a:Int) + (b:Int)) / 2 + (m:Int))),(20,nD st),(21,nD st),(22,zI (((a:Int) + (b:Int)) / 2 + (m:Int) - 1))] [⟨0,0,0,0,.b ⟨map nD X,3,true⟩⟩,⟨1,1,1,1,.b ⟨[D.sl false L 1 (map nD W)],41,false⟩⟩] 24⟩] 1000 64 (fun | ⟨x,y,f,hx,hf,hR,_⟩,Q,next1,last1=>(.s 4 (.br (decide ((x:Int) < (y:Int))) (fun p1=>have p1f:=aN p1; (.s 4 (.ow ((x:Int) + (y:Int)) (.s 1 (.opt (ap .u64 ((x:Int) + (y:Int))) (D.v (Ll .u64 ((x:Int) + (y:Int)))) (a9 om) (.s 2 (.opt (bq LY (Lb ((x:Int) + (y:Int)) 2)) (D.v (Ll .u64 (((x:Int) + (y:Int)) / 2))) (aC (@fM  ((x:Int) + (y:Int)) (2) om)) (.s 1 (.ow (((x:Int) + (y:Int)) / 2) (.s 8 (.ow (((a:Int) + (b:Int)) / 2 + (m:Int) - 1 - ((x:Int) + (y:Int)) / 2) (.s 1 (.chk (decide (0 ≤ ((a:Int) + (b:Int)) / 2 + (m:Int) - 1 - ((x:Int) + (y:Int)) / 2) && decide (((a:Int) + (b:Int)) / 2 + (m:Int) - 1 - ((x:Int) + (y:Int)) / 2 < (N:Int))) za (.s 2 (.opt ((map nD X)[0 + un (((a:Int) + (b:Int)) / 2 + (m:Int) - 1 - ((x:Int) + (y:Int)) / 2) * 1]?) (nD (getD X (0 + un (((a:Int) + (b:Int)) / 2 + (m:Int) - 1 - ((x:Int) + (y:Int)) / 2) * 1) i4)) (ao _ _ om) (.s 3 (.chk (true && decide (((x:Int) + (y:Int)) / 2 < (N:Int))) dv (.s 2 (.opt ((map nD X)[0 + un (((x:Int) + (y:Int)) / 2) * 1]?) (nD (getD X (0 + un (((x:Int) + (y:Int)) / 2) * 1) i4)) (ao _ _ om) (.s 1 (.cl 121 true [1] (.fn v9 (@qd (W) (L) om (getD X (0 + un (((a:Int) + (b:Int)) / 2 + (m:Int) - 1 - ((x:Int) + (y:Int)) / 2) * 1) i4) (getD X (0 + un (((x:Int) + (y:Int)) / 2) * 1) i4) (by ( exact hA.at om)) (by ( exact hA.at om)))) (.s 3 (.br (!decide (lM (getD W (getD X (0 + un (((a:Int) + (b:Int)) / 2 + (m:Int) - 1 - ((x:Int) + (y:Int)) / 2) * 1) i4) i4) (getD W (getD X (0 + un (((x:Int) + (y:Int)) / 2) * 1) i4) i4) < 0)) (fun p2=>have p2f:=aO (cR p2); (.s 3 (.ow (((x:Int) + (y:Int)) / 2 + 1) (.s 1 (.val 20 (zI (((x:Int) + (y:Int)) / 2 + 1)) (zN ((x + y) / 2 + 1)) zb (Hn.next next1 ⟨((x + y) / 2 + 1),(y),(f - 1),om,om,Bv,⟨⟩⟩ yY [(0,0),(1,1)] ro)))))) (fun p2=>have p2f:=aN (cS p2); (.s 2 (.val 21 (zI (((x:Int) + (y:Int)) / 2)) (zN ((x + y) / 2)) zb (Hn.next next1 ⟨(x),((x + y) / 2),(f - 1),om,om,Bx,⟨⟩⟩ yZ [(0,0),(1,1)] ro))))))))))))))))))))))))))) (fun p1=>have p1f:=aO p1; (.val 20 (zN x) (zN st) (by ( rw [wJ hR om])) (.val 21 (zN y) (zN st) y0 (Hn.last last1 0 (():Unit) rfl [(0,0),(1,1)] ro))))))) (fun | ⟨x,y,f,hx,hf,hR,_⟩=>by kernel_rfl) ⟨(s0),(r0),(r0 - s0),om,om,om,⟨⟩⟩ [(0,0),(1,1)] ro (bX (fun | ()=>(.s 4 (.ow (((a:Int) + (b:Int)) / 2 + (m:Int) - (st:Int)) (.s 7 (.br (decide ((st:Int) < (m:Int))) (fun p3=>have p3f:=aN p3; (.s 6 (.br (decide ((m:Int) < ((a:Int) + (b:Int)) / 2 + (m:Int) - (st:Int))) (fun p4=>have p4f:=aN p4; (.s 6 (.call 135 true [0,1] (true) wr ([D.ref 0 0 0 N 1,zN st,zN m,zI (((a:Int) + (b:Int)) / 2 + (m:Int) - (st:Int)),D.fn (K9 121) [] [D.ptr 1 1 0]]) _ (bY.refl _) (aa (map nD X) && true) (by (simp; done)) _ _ _ (CallOk.fn (ax.of Try.func135 rfl rfl) (@SmE.rp (W) (L) (N) (X) (X1) (X2) (T) (a) (m) (b) (mid) (q) (st) (en) (s0) (r0) bk om om (X) ((st:Int)) ((m:Int)) (((a:Int) + (b:Int)) / 2 + (m:Int) - (st:Int)) wr om om om)) (.s 6 (.br (decide ((a:Int) < (st:Int))) (fun p5=>have p5f:=aN p5; (.s 6 (.t (decide ((st:Int) < ((a:Int) + (b:Int)) / 2)) dv (.s 6 (.call 132 true [0,1] (true) wr ([D.ref 0 0 0 N 1,zN a,zN st,zI (((a:Int) + (b:Int)) / 2),D.fn (K9 121) [] [D.ptr 1 1 0]]) _ (bY.refl _) (aa (map nD X1) && true) (by (simp; done)) _ _ _ (CallOk.fn (ax.of Try.func132 rfl rfl) (@SmE.sp (W) (L) (N) (X) (X1) (X2) (T) (a) (m) (b) (mid) (q) (st) (en) (s0) (r0) bk om om (X1) ((a:Int)) ((st:Int)) (((a:Int) + (b:Int)) / 2) wr om om om)) (.s 6 (.t (decide (((a:Int) + (b:Int)) / 2 < ((a:Int) + (b:Int)) / 2 + (m:Int) - (st:Int))) dv (.s 6 (.br (decide (((a:Int) + (b:Int)) / 2 + (m:Int) - (st:Int) < (b:Int))) (fun p6=>have p6f:=aN p6; (.s 6 (.call 132 true [0,1] (true) wr ([D.ref 0 0 0 N 1,zI (((a:Int) + (b:Int)) / 2),zI (((a:Int) + (b:Int)) / 2 + (m:Int) - (st:Int)),zN b,D.fn (K9 121) [] [D.ptr 1 1 0]]) _ (bY.refl _) (aa (map nD X2) && true) (by (simp; done)) _ _ _ (CallOk.fn (ax.of Try.func132 rfl rfl) (@SmE.tp (W) (L) (N) (X) (X1) (X2) (T) (a) (m) (b) (mid) (q) (st) (en) (s0) (r0) bk om om (X2) (((a:Int) + (b:Int)) / 2) (((a:Int) + (b:Int)) / 2 + (m:Int) - (st:Int)) ((b:Int)) wr om om om)) (.out [0,1] [0,1] (D.tup []) [Blk.mk (map nD T) 3 true,Blk.mk [D.sl false L 1 (map nD W)] 41 false] R (ok _ _ wr wr))))) (fun p6=>have p6f:=aO p6; (.out [0,1] [0,1] (D.tup []) [Blk.mk (map nD X2) 3 true,Blk.mk [D.sl false L 1 (map nD W)] 41 false] R (ok _ _ wr (by ( rw [hE.t0' om])))))))))))))) (fun p5=>have p5f:=aO p5; (.s 12 (.t (decide (((a:Int) + (b:Int)) / 2 < ((a:Int) + (b:Int)) / 2 + (m:Int) - (st:Int))) dv (.s 6 (.f (decide (((a:Int) + (b:Int)) / 2 + (m:Int) - (st:Int) < (b:Int))) oa (.out [0,1] [0,1] (D.tup []) [Blk.mk (map nD X1) 3 true,Blk.mk [D.sl false L 1 (map nD W)] 41 false] R (ok _ _ wr (by ( rw [hE.s0' om,hE.t0' om])))))))))))))) (fun p4=>have p4f:=aO p4; (.s 6 (.t (decide ((a:Int) < (st:Int))) dv (.s 6 (.f (decide ((st:Int) < ((a:Int) + (b:Int)) / 2)) oa (.s 6 (.t (decide (((a:Int) + (b:Int)) / 2 < ((a:Int) + (b:Int)) / 2 + (m:Int) - (st:Int))) dv (.s 6 (.t (decide (((a:Int) + (b:Int)) / 2 + (m:Int) - (st:Int) < (b:Int))) dv (.s 6 (.call 132 true [0,1] (true) wr ([D.ref 0 0 0 N 1,zI (((a:Int) + (b:Int)) / 2),zI (((a:Int) + (b:Int)) / 2 + (m:Int) - (st:Int)),zN b,D.fn (K9 121) [] [D.ptr 1 1 0]]) _ (bY.refl _) (aa (map nD X) && true) (by (simp; done)) _ _ _ (CallOk.fn (ax.of Try.func132 rfl rfl) (@SmE.tp (W) (L) (N) (X) (X1) (X2) (T) (a) (m) (b) (mid) (q) (st) (en) (s0) (r0) bk om om (X) (((a:Int) + (b:Int)) / 2) (((a:Int) + (b:Int)) / 2 + (m:Int) - (st:Int)) ((b:Int)) (by ( exact (hE.r0' om).trans (hE.s0' om))) om om om)) (.out [0,1] [0,1] (D.tup []) [Blk.mk (map nD T) 3 true,Blk.mk [D.sl false L 1 (map nD W)] 41 false] R (ok _ _ wr wr)))))))))))))))) (fun p3=>have p3f:=aO p3; (.s 12 (.t (decide ((a:Int) < (st:Int))) dv (.s 6 (.f (decide ((st:Int) < ((a:Int) + (b:Int)) / 2)) oa (.s 6 (.f (decide (((a:Int) + (b:Int)) / 2 < ((a:Int) + (b:Int)) / 2 + (m:Int) - (st:Int))) oa (.s 6 (.out [0,1] [0,1] (D.tup []) [Blk.mk (map nD X) 3 true,Blk.mk [D.sl false L 1 (map nD W)] 41 false] R (ok _ _ wr (by ( rw [hE.r0' om,hE.s0' om,hE.t0' om]))))))))))))))))))))))))))) (fun p0=>have p0f:=aO p0; (.s 7 (.ow (((a:Int) + (b:Int)) / 2 + (m:Int) - 1) (.s 1 (.val 20 (zN a) (zN s0) zd (.val 21 (zN m) (zN r0) zd (Hn.inl T_ok ag false 220 2 (aq Try.prog 132 4) (fun (x:(x:Nat) ×' (y:Nat) ×' (f:Nat) ×' (hx:s0 ≤ x ∧ x ≤ y ∧ y ≤ r0) ×' (hf:y - x ≤ f) ×' (hR:f6 (qC W X (q - 1)) f x y = st) ×' Unit)=>match x with | ⟨x,y,f,hx,hf,hR,_⟩=>CutS.mk [(0,D.ref 0 0 0 N 1),(1,zN a),(2,zN m),(3,zN b),(4,D.fn (K9 121) [] [D.ptr 1 1 0]),(18,zI (((a:Int) + (b:Int)) / 2)),(19,zI (((a:Int) + (b:Int)) / 2 + (m:Int))),(20,nD x),(21,nD y),(22,zI (((a:Int) + (b:Int)) / 2 + (m:Int) - 1))] [⟨0,0,0,0,.b ⟨map nD X,3,true⟩⟩,⟨1,1,1,1,.b ⟨[D.sl false L 1 (map nD W)],41,false⟩⟩] 24) (fun (x:(x:Nat) ×' (y:Nat) ×' (f:Nat) ×' (hx:s0 ≤ x ∧ x ≤ y ∧ y ≤ r0) ×' (hf:y - x ≤ f) ×' (hR:f6 (qC W X (q - 1)) f x y = st) ×' Unit)=>match x with | ⟨x,y,f,hx,hf,hR,_⟩=>y - x) [⟨Unit,.exit 8,fun x=>match x with | ()=>CutS.mk [(0,D.ref 0 0 0 N 1),(1,zN a),(2,zN m),(3,zN b),(4,D.fn (K9 121) [] [D.ptr 1 1 0]),(18,zI (((a:Int) + (b:Int)) / 2)),(19,zI (((a:Int) + (b:Int)) / 2 + (m:Int))),(20,nD st),(21,nD st),(22,zI (((a:Int) + (b:Int)) / 2 + (m:Int) - 1))] [⟨0,0,0,0,.b ⟨map nD X,3,true⟩⟩,⟨1,1,1,1,.b ⟨[D.sl false L 1 (map nD W)],41,false⟩⟩] 24⟩] 1000 64 (fun | ⟨x,y,f,hx,hf,hR,_⟩,Q,next1,last1=>(.s 4 (.br (decide ((x:Int) < (y:Int))) (fun p7=>have p7f:=aN p7; (.s 4 (.ow ((x:Int) + (y:Int)) (.s 1 (.opt (ap .u64 ((x:Int) + (y:Int))) (D.v (Ll .u64 ((x:Int) + (y:Int)))) (a9 om) (.s 2 (.opt (bq LY (Lb ((x:Int) + (y:Int)) 2)) (D.v (Ll .u64 (((x:Int) + (y:Int)) / 2))) (aC (@fM  ((x:Int) + (y:Int)) (2) om)) (.s 1 (.ow (((x:Int) + (y:Int)) / 2) (.s 8 (.ow (((a:Int) + (b:Int)) / 2 + (m:Int) - 1 - ((x:Int) + (y:Int)) / 2) (.s 1 (.chk (decide (0 ≤ ((a:Int) + (b:Int)) / 2 + (m:Int) - 1 - ((x:Int) + (y:Int)) / 2) && decide (((a:Int) + (b:Int)) / 2 + (m:Int) - 1 - ((x:Int) + (y:Int)) / 2 < (N:Int))) za (.s 2 (.opt ((map nD X)[0 + un (((a:Int) + (b:Int)) / 2 + (m:Int) - 1 - ((x:Int) + (y:Int)) / 2) * 1]?) (nD (getD X (0 + un (((a:Int) + (b:Int)) / 2 + (m:Int) - 1 - ((x:Int) + (y:Int)) / 2) * 1) i4)) (ao _ _ om) (.s 3 (.chk (true && decide (((x:Int) + (y:Int)) / 2 < (N:Int))) dv (.s 2 (.opt ((map nD X)[0 + un (((x:Int) + (y:Int)) / 2) * 1]?) (nD (getD X (0 + un (((x:Int) + (y:Int)) / 2) * 1) i4)) (ao _ _ om) (.s 1 (.cl 121 true [1] (.fn v9 (@qd (W) (L) om (getD X (0 + un (((a:Int) + (b:Int)) / 2 + (m:Int) - 1 - ((x:Int) + (y:Int)) / 2) * 1) i4) (getD X (0 + un (((x:Int) + (y:Int)) / 2) * 1) i4) (by ( exact hA.at om)) (by ( exact hA.at om)))) (.s 3 (.br (!decide (lM (getD W (getD X (0 + un (((a:Int) + (b:Int)) / 2 + (m:Int) - 1 - ((x:Int) + (y:Int)) / 2) * 1) i4) i4) (getD W (getD X (0 + un (((x:Int) + (y:Int)) / 2) * 1) i4) i4) < 0)) (fun p8=>have p8f:=aO (cR p8); (.s 3 (.ow (((x:Int) + (y:Int)) / 2 + 1) (.s 1 (.val 20 (zI (((x:Int) + (y:Int)) / 2 + 1)) (zN ((x + y) / 2 + 1)) zd (Hn.next next1 ⟨((x + y) / 2 + 1),(y),(f - 1),om,om,Bv,⟨⟩⟩ yY [(0,0),(1,1)] ro)))))) (fun p8=>have p8f:=aN (cS p8); (.s 2 (.val 21 (zI (((x:Int) + (y:Int)) / 2)) (zN ((x + y) / 2)) zd (Hn.next next1 ⟨(x),((x + y) / 2),(f - 1),om,om,Bx,⟨⟩⟩ yZ [(0,0),(1,1)] ro))))))))))))))))))))))))))) (fun p7=>have p7f:=aO p7; (.val 20 (zN x) (zN st) (by ( rw [wJ hR om])) (.val 21 (zN y) (zN st) y0 (Hn.last last1 0 (():Unit) rfl [(0,0),(1,1)] ro))))))) (fun | ⟨x,y,f,hx,hf,hR,_⟩=>by kernel_rfl) ⟨(s0),(r0),(r0 - s0),om,om,om,⟨⟩⟩ [(0,0),(1,1)] ro (bX (fun | ()=>(.s 4 (.ow (((a:Int) + (b:Int)) / 2 + (m:Int) - (st:Int)) (.s 7 (.br (decide ((st:Int) < (m:Int))) (fun p9=>have p9f:=aN p9; (.s 6 (.t (decide ((m:Int) < ((a:Int) + (b:Int)) / 2 + (m:Int) - (st:Int))) dv (.s 6 (.call 135 true [0,1] (true) wr ([D.ref 0 0 0 N 1,zN st,zN m,zI (((a:Int) + (b:Int)) / 2 + (m:Int) - (st:Int)),D.fn (K9 121) [] [D.ptr 1 1 0]]) _ (bY.refl _) (aa (map nD X) && true) (by (simp; done)) _ _ _ (CallOk.fn (ax.of Try.func135 rfl rfl) (@SmE.rp (W) (L) (N) (X) (X1) (X2) (T) (a) (m) (b) (mid) (q) (st) (en) (s0) (r0) bk om om (X) ((st:Int)) ((m:Int)) (((a:Int) + (b:Int)) / 2 + (m:Int) - (st:Int)) wr om om om)) (.s 6 (.br (decide ((a:Int) < (st:Int))) (fun p10=>have p10f:=aN p10; (.s 6 (.t (decide ((st:Int) < ((a:Int) + (b:Int)) / 2)) dv (.s 6 (.call 132 true [0,1] (true) wr ([D.ref 0 0 0 N 1,zN a,zN st,zI (((a:Int) + (b:Int)) / 2),D.fn (K9 121) [] [D.ptr 1 1 0]]) _ (bY.refl _) (aa (map nD X1) && true) (by (simp; done)) _ _ _ (CallOk.fn (ax.of Try.func132 rfl rfl) (@SmE.sp (W) (L) (N) (X) (X1) (X2) (T) (a) (m) (b) (mid) (q) (st) (en) (s0) (r0) bk om om (X1) ((a:Int)) ((st:Int)) (((a:Int) + (b:Int)) / 2) wr om om om)) (.s 6 (.t (decide (((a:Int) + (b:Int)) / 2 < ((a:Int) + (b:Int)) / 2 + (m:Int) - (st:Int))) dv (.s 6 (.t (decide (((a:Int) + (b:Int)) / 2 + (m:Int) - (st:Int) < (b:Int))) dv (.s 6 (.call 132 true [0,1] (true) wr ([D.ref 0 0 0 N 1,zI (((a:Int) + (b:Int)) / 2),zI (((a:Int) + (b:Int)) / 2 + (m:Int) - (st:Int)),zN b,D.fn (K9 121) [] [D.ptr 1 1 0]]) _ (bY.refl _) (aa (map nD X2) && true) (by (simp; done)) _ _ _ (CallOk.fn (ax.of Try.func132 rfl rfl) (@SmE.tp (W) (L) (N) (X) (X1) (X2) (T) (a) (m) (b) (mid) (q) (st) (en) (s0) (r0) bk om om (X2) (((a:Int) + (b:Int)) / 2) (((a:Int) + (b:Int)) / 2 + (m:Int) - (st:Int)) ((b:Int)) wr om om om)) (.out [0,1] [0,1] (D.tup []) [Blk.mk (map nD T) 3 true,Blk.mk [D.sl false L 1 (map nD W)] 41 false] R (ok _ _ wr wr))))))))))))) (fun p10=>have p10f:=aO p10; (.s 12 (.t (decide (((a:Int) + (b:Int)) / 2 < ((a:Int) + (b:Int)) / 2 + (m:Int) - (st:Int))) dv (.s 6 (.br (decide (((a:Int) + (b:Int)) / 2 + (m:Int) - (st:Int) < (b:Int))) (fun p11=>have p11f:=aN p11; (.s 6 (.call 132 true [0,1] (true) wr ([D.ref 0 0 0 N 1,zI (((a:Int) + (b:Int)) / 2),zI (((a:Int) + (b:Int)) / 2 + (m:Int) - (st:Int)),zN b,D.fn (K9 121) [] [D.ptr 1 1 0]]) _ (bY.refl _) (aa (map nD X1) && true) (by (simp; done)) _ _ _ (CallOk.fn (ax.of Try.func132 rfl rfl) (@SmE.tp (W) (L) (N) (X) (X1) (X2) (T) (a) (m) (b) (mid) (q) (st) (en) (s0) (r0) bk om om (X1) (((a:Int) + (b:Int)) / 2) (((a:Int) + (b:Int)) / 2 + (m:Int) - (st:Int)) ((b:Int)) (by ( exact hE.s0' om)) om om om)) (.out [0,1] [0,1] (D.tup []) [Blk.mk (map nD T) 3 true,Blk.mk [D.sl false L 1 (map nD W)] 41 false] R (ok _ _ wr wr))))) (fun p11=>have p11f:=aO p11; (.out [0,1] [0,1] (D.tup []) [Blk.mk (map nD X1) 3 true,Blk.mk [D.sl false L 1 (map nD W)] 41 false] R (ok _ _ wr (by ( rw [hE.s0' om,hE.t0' om]))))))))))))))))) (fun p9=>have p9f:=aO p9; (.s 12 (.t (decide ((a:Int) < (st:Int))) dv (.s 6 (.br (decide ((st:Int) < ((a:Int) + (b:Int)) / 2)) (fun p12=>have p12f:=aN p12; (.s 6 (.call 132 true [0,1] (true) wr ([D.ref 0 0 0 N 1,zN a,zN st,zI (((a:Int) + (b:Int)) / 2),D.fn (K9 121) [] [D.ptr 1 1 0]]) _ (bY.refl _) (aa (map nD X) && true) (by (simp; done)) _ _ _ (CallOk.fn (ax.of Try.func132 rfl rfl) (@SmE.sp (W) (L) (N) (X) (X1) (X2) (T) (a) (m) (b) (mid) (q) (st) (en) (s0) (r0) bk om om (X) ((a:Int)) ((st:Int)) (((a:Int) + (b:Int)) / 2) (by ( exact hE.r0' om)) om om om)) (.s 6 (.f (decide (((a:Int) + (b:Int)) / 2 < ((a:Int) + (b:Int)) / 2 + (m:Int) - (st:Int))) oa (.s 6 (.out [0,1] [0,1] (D.tup []) [Blk.mk (map nD X2) 3 true,Blk.mk [D.sl false L 1 (map nD W)] 41 false] R (ok _ _ wr (by ( rw [hE.t0' om])))))))))) (fun p12=>have p12f:=aO p12; (.s 6 (.f (decide (((a:Int) + (b:Int)) / 2 < ((a:Int) + (b:Int)) / 2 + (m:Int) - (st:Int))) oa (.s 6 (.out [0,1] [0,1] (D.tup []) [Blk.mk (map nD X) 3 true,Blk.mk [D.sl false L 1 (map nD W)] 41 false] R (ok _ _ wr (by ( rw [hE.r0' om,hE.s0' om,hE.t0' om]))))))))))))))))))))))))))))))))))))))))))))))) (by kernel_rfl)
end Vp
end Go.Proofs.Ytefjnofhgkjpmaa
namespace Go.Proofs.Ytefjnofhgkjpmaa
open Go.RowKit Go.Bw Go.Vx
namespace Vp
theorem iH {X:List Nat} {i j:Nat} (hi:i < X.length) (hj:j < X.length):(swp X i j).Perm X:=by
 rw [List.perm_iff_count]
 intro c
 have e1:X.getD i i4 = X[i]:=by rw [List.getD_eq_getElem?_getD,List.getElem?_eq_getElem hi]; rfl
 have e2:X.getD j i4 = X[j]:=by rw [List.getD_eq_getElem?_getD,List.getElem?_eq_getElem hj]; rfl
 rw [n7,e1,e2,List.count_set (by rw [Mz]; exact hj),List.count_set hi,List.getElem_set]
 have h1:(X[i] == c) = true → 1 ≤ X.count c:=fun q=>by
  rw [List.one_le_count_iff,← eq_of_beq q]; exact Ld hi
 have h3:(if i = j then X[j] else X[j]) = X[j]:=by split <;> rfl
 rw [h3]
 cases q1:(X[i] == c) <;> cases q2:(X[j] == c) <;> simp <;> (try have:=h1 q1) <;> omega
theorem iI {X:List Nat} {a b:Nat}:∀ k,a + k ≤ X.length → b + k ≤ X.length → (dG X a b k).Perm X
 | 0,_,_=>by rw [Bp]
 | k + 1,h1,h2=>by
  rw [← Bq]
  exact (iH (by rw [dg]; omega) (by rw [dg]; omega)).trans (iI k (by omega) (by omega))
theorem jd {m:Nat}:∀ (f i j:Nat) (X:List Nat),1 ≤ i → 1 ≤ j → i ≤ m → m + j ≤ X.length → i + j ≤ f → (fZ m f i j X).Perm X
 | 0,i,j,X,h1,h2,h3,h4,h5=>by omega
 | f + 1,i,j,X,h1,h2,h3,h4,h5=>by
  rw [fZ]; split
  ·exact iI i (by omega) (by omega)
  ·split
   ·exact (jd f (i - j) j _ (by omega) h2 (by omega) (by rw [dg]; omega) (by omega)).trans (iI j (by omega) (by omega))
   ·exact (jd f i (j - i) _ h1 (by omega) h3 (by rw [dg]; omega) (by omega)).trans (iI i (by omega) (by omega))
theorem uD {X:List Nat} {a m b:Nat} (h1:a < m) (h2:m < b) (h3:b ≤ X.length):(wG X a m b).Perm X:=by
 rw [tb]; exact jd _ _ _ _ (by omega) (by omega) (by omega) (by omega) (by omega)
theorem qf {W:List Nat} {a:Nat}:∀ (j:Nat) (X:List Nat),j < X.length → (inI W a j X).Perm X
 | 0,_,_=>Mv _
 | j + 1,X,h=>by
  rw [inI]; split
  ·exact (qf j _ (by rw [fQ]; omega)).trans (iH h (by omega))
  ·exact Mv _
theorem gv {W X:List Nat} {a:Nat}:∀ (k:Nat),a + k < X.length ∨ k = 0 → (inQ W X a k).Perm X
 | 0,_=>by rw [wH]
 | k + 1,h=>by
  rw [← wI]
  exact (qf _ _ (by rw [iG]; omega)).trans (gv k (by omega))
theorem qg {X:List Nat} {a:Nat}:∀ (k:Nat),a + k < X.length ∨ k = 0 → (gr X a k).Perm X
 | 0,_=>by rw [By]
 | k + 1,h=>by
  rw [← BA]
  exact (iH (by rw [fR]; omega) (by rw [fR]; omega)).trans (qg k (by omega))
theorem qh {X:List Nat} {m:Nat} (hm:m < X.length):∀ (k:Nat),(gu X m k).Perm X
 | 0=>by rw [Bz]
 | k + 1=>by
  rw [← BB]
  exact (iH (by rw [fS]; omega) (by rw [fS]; omega)).trans (qh hm k)
theorem bh.perm {L:Nat} {X Y:List Nat} (h:bh L X) (hp:Y.Perm X):bh L Y:=fun x hx=>h x (hp.mem_iff.1 hx)
def iJ (a m b:Nat):Nat:=if (a + b) / 2 < m then (a + b) / 2 + m - b else a
def je (a m b:Nat):Nat:=if (a + b) / 2 < m then (a + b) / 2 else m
def dE (W X:List Nat) (a m b:Nat):Nat:=f6 (qC W X ((a + b) / 2 + m - 1)) (je a m b - iJ a m b) (iJ a m b) (je a m b)
def fo (X:List Nat) (m st en:Nat):List Nat:=if st < m ∧ m < en then wG X st m en else X
def jH (W:List Nat):Nat → List Nat → Nat → Nat → Nat → List Nat
 | 0,X,_,_,_=>X
 | f + 1,X,a,m,b =>
  if m = a + 1 then gr X a (f6 (qA W X a) (b - m) m b - 1 - a)
  else if b = m + 1 then gu X m (m - f6 (qB W X m) (m - a) a m)
  else
   (fun st=>(fun en=>(fun X1=>(fun X2=>if (a + b) / 2 < en ∧ en < b then jH W f X2 ((a + b) / 2) en b else X2)
    (if a < st ∧ st < (a + b) / 2 then jH W f X1 a st ((a + b) / 2) else X1)) (fo X m st en)) ((a + b) / 2 + m - st)) (dE W X a m b)
theorem wK {a m b:Nat} (h1:a < m) (h2:m < b):iJ a m b ≤ je a m b ∧ je a m b ≤ m ∧ a ≤ iJ a m b ∧ (a + b) / 2 + m ≤ iJ a m b + b:=by
 unfold iJ je; split <;> omega
theorem mX {X:List Nat} {m st en:Nat} (h:en ≤ X.length):(fo X m st en).Perm X:=by
 unfold fo; split
 ·next q=>exact uD q.1 q.2 h
 ·exact Mv _
theorem eh {W:List Nat}:∀ (f:Nat) (X:List Nat) (a m b:Nat),a < m → m < b → b ≤ X.length → (jH W f X a m b).Perm X
 | 0,_,_,_,_,_,_,_=>Mv _
 | f + 1,X,a,m,b,h1,h2,h3=>by
  rw [jH]
  split
  ·have:=ll (p:=qA W X a) (b - m) m b (by omega)
   exact qg _ (by omega)
  ·split
   ·exact qh (by omega) _
   ·have hs:=wK h1 h2
    have hi:=ll (p:=qC W X ((a + b) / 2 + m - 1)) (je a m b - iJ a m b) (iJ a m b) (je a m b) hs.1
    show List.Perm (if (a + b) / 2 < (a + b) / 2 + m - dE W X a m b ∧ _ then _ else _) X
    generalize hst:dE W X a m b = st at *
    have hst2:iJ a m b ≤ st ∧ st ≤ je a m b:=by rw [← hst]; exact hi
    have q1:(fo X m st ((a + b) / 2 + m - st)).Perm X:=mX (by omega)
    have l1:=q1.length_eq
    have q2:(if a < st ∧ st < (a + b) / 2 then jH W f (fo X m st ((a + b) / 2 + m - st)) a st ((a + b) / 2) else fo X m st ((a + b) / 2 + m - st)).Perm X:=by
     split
     ·next q=>exact (eh f _ _ _ _ q.1 q.2 (by omega)).trans q1
     ·exact q1
    have l2:=q2.length_eq
    generalize (if a < st ∧ st < (a + b) / 2 then jH W f (fo X m st ((a + b) / 2 + m - st)) a st ((a + b) / 2) else fo X m st ((a + b) / 2 + m - st)) = X2 at *
    split
    ·next q=>exact (eh f _ _ _ _ q.1 q.2 (by omega)).trans q2
    ·exact q2
theorem Dx (X:List Nat) (N:Nat) (hN:N = X.length) (hN2:N ≤ 1000) (W:List Nat) (L:Nat) (hL:L = W.length) {a m b:Nat} (h1:a < m) (h2:m < b) (h3:b ≤ N):RtH W L N X a m b (wG X a m b):=⟨fun Y x y z hY hx hy hz=>by
 subst hY hx hy hz
 exact GJ Y N hN hN2 W L hL a m b h1 h2 h3 _ rfl⟩
theorem tj (W:List Nat) (L:Nat) (hL:L = W.length) (N:Nat) (hN2:N ≤ 1000):∀ (f:Nat) (X:List Nat),N = X.length → bh L X → ∀ (a m b:Nat),a < m → m < b → b ≤ N → b - a ≤ f → SpecH true Try.prog 132 [.ref 0 0 0 N 1,nD a,nD m,nD b,.fn (.func 121) [] [.ptr 1 1 0]] [⟨X.map nD, 3, true⟩,⟨[.sl false L 1 (W.map nD)], 41, false⟩] (.tup []) [⟨(jH W f X a m b).map nD, 3, true⟩,⟨[.sl false L 1 (W.map nD)], 41, false⟩]
 | 0,X,hN,hA,a,m,b,h1,h2,h3,hf=>by omega
 | f + 1,X,hN,hA,a,m,b,h1,h2,h3,hf=>by
  rw [jH]
  by_cases c1:m = a + 1
  ·rw [if_pos c1]
   exact I2 X N hN hN2 W L hL hA a m b h1 h2 h3 c1 _ rfl (ll _ _ _ (by omega))
  ·rw [if_neg c1]
   by_cases c2:b = m + 1
   ·rw [if_pos c2]
    exact I3 X N hN hN2 W L hL hA a m b h1 h2 h3 c1 c2 _ rfl (ll _ _ _ (by omega))
   ·rw [if_neg c2]
    have hs:=wK h1 h2
    have hi:iJ a m b ≤ dE W X a m b ∧ dE W X a m b ≤ je a m b:=ll _ _ _ hs.1
    have q1:(fo X m (dE W X a m b) ((a + b) / 2 + m - dE W X a m b)).Perm X:=mX (by omega)
    refine I4 X N hN hN2 W L hL hA a m b h1 h2 h3 c1 c2 (fo X m (dE W X a m b) ((a + b) / 2 + m - dE W X a m b)) (if a < dE W X a m b ∧ dE W X a m b < (a + b) / 2 then jH W f (fo X m (dE W X a m b) ((a + b) / 2 + m - dE W X a m b)) a (dE W X a m b) ((a + b) / 2) else fo X m (dE W X a m b) ((a + b) / 2 + m - dE W X a m b)) _ ((a + b) / 2) ((a + b) / 2 + m) (dE W X a m b) ((a + b) / 2 + m - dE W X a m b) rfl rfl (iJ a m b) (je a m b) ⟨hs.1,hs.2.1,hs.2.2.1,hs.2.2.2⟩ rfl hi rfl ?_
    have q2:(if a < dE W X a m b ∧ dE W X a m b < (a + b) / 2 then jH W f (fo X m (dE W X a m b) ((a + b) / 2 + m - dE W X a m b)) a (dE W X a m b) ((a + b) / 2) else fo X m (dE W X a m b) ((a + b) / 2 + m - dE W X a m b)).Perm X:=by
     split
     ·next q=>exact (eh f _ _ _ _ q.1 q.2 (by rw [q1.length_eq]; omega)).trans q1
     ·exact q1
    have e3:(a + b) / 2 < m → iJ a m b = (a + b) / 2 + m - b ∧ je a m b = (a + b) / 2:=fun q=>⟨if_pos q,if_pos q⟩
    have e4:m ≤ (a + b) / 2 → iJ a m b = a ∧ je a m b = m:=fun q=>⟨if_neg (by omega),if_neg (by omega)⟩
    generalize dE W X a m b = st at *
    generalize iJ a m b = s0 at *
    generalize je a m b = r0 at *
    refine ⟨fun a1 a2=>?_,fun a1=>?_,fun a1 a2=>?_,fun a1=>?_,fun a1 a2=>?_,fun a1=>?_,e3,e4⟩
    ·unfold fo; rw [if_pos ⟨a1,a2⟩]; exact Dx X N hN hN2 W L hL a1 a2 (by omega)
    ·unfold fo; rw [if_neg (fun q=>a1 q.1 q.2)]
    ·rw [if_pos ⟨a1,a2⟩]
     refine ⟨fun Y x y z hY hx hy hz=>?_⟩
     subst hY hx hy hz
     exact tj W L hL N hN2 f _ (by rw [q1.length_eq]; exact hN) (hA.perm q1) _ _ _ a1 a2 (by omega) (by omega)
    ·rw [if_neg (fun q=>a1 q.1 q.2)]
    ·dsimp only
     generalize (if a < st ∧ st < (a + b) / 2 then jH W f (fo X m st ((a + b) / 2 + m - st)) a st ((a + b) / 2) else fo X m st ((a + b) / 2 + m - st)) = X2 at *
     rw [if_pos ⟨a1,a2⟩]
     refine ⟨fun Y x y z hY hx hy hz=>?_⟩
     subst hY hx hy hz
     exact tj W L hL N hN2 f _ (by rw [q2.length_eq]; exact hN) (hA.perm q2) _ _ _ a1 a2 (by omega) (by omega)
    ·dsimp only
     generalize (if a < st ∧ st < (a + b) / 2 then jH W f (fo X m st ((a + b) / 2 + m - st)) a st ((a + b) / 2) else fo X m st ((a + b) / 2 + m - st)) = X2 at *
     rw [if_neg (fun q=>a1 q.1 q.2)]
end Vp
end Go.Proofs.Ytefjnofhgkjpmaa
namespace Go.Proofs.Ytefjnofhgkjpmaa
open Go.RowKit Go.Bw Go.Vx
open List (length getD map take drop flatMap replicate)
namespace Vp
theorem wL {p:Prop} (h:p:=by (refine aJ ?_; (omega))):p:=h
def uS (W:List Nat) (n:Nat):Nat → Nat → List Nat → List Nat
 | 0,a,Y=>inQ W Y a (n - (a + 1))
 | f + 1,a,Y=>if a + 20 ≤ n then uS W n f (a + 20) (inQ W Y a 19) else inQ W Y a (n - (a + 1))
theorem I5 {W:List Nat} {n f a:Nat} {Y T:List Nat} (hR:uS W n f a Y = T) (hf:n - a ≤ f) (h:a + 20 ≤ n):uS W n (f - 1) (a + 20) (inQ W Y a (a + 20 - (a + 1))) = T:=by
 obtain ⟨g,rfl⟩:∃ g,f = g + 1:=⟨f - 1,by omega⟩
 rw [← hR,show a + 20 - (a + 1) = 19 from by omega]; exact (if_pos h).symm
theorem I6 {W:List Nat} {n f a:Nat} {Y T:List Nat} (hR:uS W n f a Y = T) (h:¬ a + 20 ≤ n):inQ W Y a (n - (a + 1)) = T:=by
 rw [← hR]; cases f with
 | zero=>rfl
 | succ f=>exact (if_neg h).symm
def oe (W:List Nat) (z n:Nat):Nat → Nat → List Nat → List Nat
 | 0,a,Y=>if a + z < n then jH W (2 * z) Y a (a + z) n else Y
 | f + 1,a,Y=>if a + 2 * z ≤ n then oe W z n f (a + 2 * z) (jH W (2 * z) Y a (a + z) (a + 2 * z)) else if a + z < n then jH W (2 * z) Y a (a + z) n else Y
theorem I7 {W:List Nat} {z n f a:Nat} {Y T:List Nat} (hR:oe W z n f a Y = T) (hf:n - a ≤ f) (hz:0 < z) (h:a + 2 * z ≤ n):oe W z n (f - 1) (a + 2 * z) (jH W (2 * z) Y a (a + z) (a + 2 * z)) = T:=by
 obtain ⟨g,rfl⟩:∃ g,f = g + 1:=⟨f - 1,by omega⟩
 rw [← hR]; exact (if_pos h).symm
theorem I8 {W:List Nat} {z n f a:Nat} {Y T:List Nat} (hR:oe W z n f a Y = T) (h:¬ a + 2 * z ≤ n):(if a + z < n then jH W (2 * z) Y a (a + z) n else Y) = T:=by
 rw [← hR]; cases f with
 | zero=>rfl
 | succ f=>exact (if_neg h).symm
def uT (W:List Nat) (n:Nat):Nat → Nat → List Nat → List Nat
 | 0,_,Y=>Y
 | f + 1,z,Y=>if z < n then uT W n f (2 * z) (oe W z n n 0 Y) else Y
theorem GP {W:List Nat} {z n f:Nat} {Y T:List Nat} (hR:uT W n f z Y = T) (hf:n - z ≤ f) (h:z < n):uT W n (f - 1) (2 * z) (oe W z n n 0 Y) = T:=by
 obtain ⟨g,rfl⟩:∃ g,f = g + 1:=⟨f - 1,by omega⟩
 rw [← hR]; exact (if_pos h).symm
theorem I9 {W:List Nat} {z n f:Nat} {Y T:List Nat} (hR:uT W n f z Y = T) (h:¬ z < n):Y = T:=by
 rw [← hR]; cases f with
 | zero=>rfl
 | succ f=>exact (if_neg h).symm
def Ja (W X:List Nat):List Nat:=uT W X.length X.length 20 (uS W X.length X.length 0 X)
theorem lm {W:List Nat} {n:Nat}:∀ (f a:Nat) (Y:List Nat),n = Y.length → a ≤ n → (uS W n f a Y).Perm Y
 | 0,a,Y,hn,ha=>gv _ (by omega)
 | f + 1,a,Y,hn,ha=>by
  rw [uS]; split
  ·have q:(inQ W Y a 19).Perm Y:=gv _ (by omega)
   exact (lm f _ _ (by rw [q.length_eq]; exact hn) (by omega)).trans q
  ·exact gv _ (by omega)
theorem iK {W:List Nat} {z n:Nat} (hz:0 < z):∀ (f a:Nat) (Y:List Nat),n = Y.length → (oe W z n f a Y).Perm Y
 | 0,a,Y,hn=>by
  rw [oe]; split
  ·exact eh _ _ _ _ _ (by omega) (by omega) (by omega)
  ·exact Mv _
 | f + 1,a,Y,hn=>by
  rw [oe]; split
  ·have q:(jH W (2 * z) Y a (a + z) (a + 2 * z)).Perm Y:=eh _ _ _ _ _ (by omega) (by omega) (by omega)
   exact (iK hz f _ _ (by rw [q.length_eq]; exact hn)).trans q
  ·split
   ·exact eh _ _ _ _ _ (by omega) (by omega) (by omega)
   ·exact Mv _
theorem qi {W:List Nat} {n:Nat}:∀ (f z:Nat) (Y:List Nat),0 < z → n = Y.length → (uT W n f z Y).Perm Y
 | 0,z,Y,hz,hn=>Mv _
 | f + 1,z,Y,hz,hn=>by
  rw [uT]; split
  ·have q:=iK (W:=W) hz n 0 Y hn
   exact (qi f _ _ (by omega) (by rw [q.length_eq]; exact hn)).trans q
  ·exact Mv _
theorem wM (W X:List Nat):(Ja W X).Perm X:=by
 have q:=lm (W:=W) X.length 0 X rfl (Li _)
 exact (qi _ _ _ (by decide) q.length_eq.symm).trans q
structure Ord (L N:Nat) (Y:List Nat):Prop where
 n:N = Y.length
 a:bh L Y
theorem Ord.perm {L N:Nat} {X Y:List Nat} (h:Ord L N X) (q:Y.Perm X):Ord L N Y:=⟨by rw [q.length_eq]; exact h.n,h.a.perm q⟩
theorem Ord.in {L N:Nat} {W Y:List Nat} {a b:Nat} (h:Ord L N Y) (hb:b ≤ N):Ord L N (inQ W Y a (b - (a + 1))):=h.perm (gv _ (by have:=h.n; omega))
theorem Ord.sm {L N:Nat} {W Y:List Nat} {f a m b:Nat} (h:Ord L N Y) (h1:a < m) (h2:m < b) (hb:b ≤ N):Ord L N (jH W f Y a m b):=h.perm (eh _ _ _ _ _ h1 h2 (by have:=h.n; omega))
theorem BC (Y:List Nat) (N:Nat) (hN2:N ≤ 1000) (W:List Nat) (L:Nat) (hL:L = W.length) (hO:Ord L N Y) (a b:Nat) (h1:a ≤ b) (h3:b ≤ N):SpecH true Try.prog 131 [.ref 0 0 0 N 1,nD a,nD b,.fn (.func 121) [] [.ptr 1 1 0]] [⟨Y.map nD, 3, true⟩,⟨[.sl false L 1 (W.map nD)], 41, false⟩] (.tup []) [⟨(inQ W Y a (b - (a + 1))).map nD, 3, true⟩,⟨[.sl false L 1 (W.map nD)], 41, false⟩]:=GK Y N hO.n hN2 W L hL hO.a a b h1 h3 _ rfl
theorem GQ (Y:List Nat) (N:Nat) (hN2:N ≤ 1000) (W:List Nat) (L:Nat) (hL:L = W.length) (hO:Ord L N Y) (z a:Nat) (hz:0 < z) (h3:a + 2 * z ≤ N):SpecH true Try.prog 132 [.ref 0 0 0 N 1,nD a,iD ((a:Int) + z),nD (a + 2 * z),.fn (.func 121) [] [.ptr 1 1 0]] [⟨Y.map nD, 3, true⟩,⟨[.sl false L 1 (W.map nD)], 41, false⟩] (.tup []) [⟨(jH W (2 * z) Y a (a + z) (a + 2 * z)).map nD, 3, true⟩,⟨[.sl false L 1 (W.map nD)], 41, false⟩] :=
 tj W L hL N hN2 (2 * z) Y hO.n hO.a a (a + z) (a + 2 * z) (by omega) (by omega) h3 (by omega)
theorem GR (Y:List Nat) (N:Nat) (hN2:N ≤ 1000) (W:List Nat) (L:Nat) (hL:L = W.length) (hO:Ord L N Y) (z a:Nat) (hz:0 < z) (h:a + z < N) (h3:N < a + 2 * z):SpecH true Try.prog 132 [.ref 0 0 0 N 1,nD a,iD ((a:Int) + z),nD N,.fn (.func 121) [] [.ptr 1 1 0]] [⟨Y.map nD, 3, true⟩,⟨[.sl false L 1 (W.map nD)], 41, false⟩] (.tup []) [⟨(jH W (2 * z) Y a (a + z) N).map nD, 3, true⟩,⟨[.sl false L 1 (W.map nD)], 41, false⟩] :=
 tj W L hL N hN2 (2 * z) Y hO.n hO.a a (a + z) N (by omega) h (KG _) (by omega)
theorem GS (X:List Nat) (N:Nat) (hN2:N ≤ 1000) (W:List Nat) (L:Nat) (hL:L = W.length) (hO:Ord L N X) (T1 T:List Nat) (hT1:uS W N N 0 X = T1) (hO1:Ord L N T1) (hT:uT W N N 20 T1 = T):SpecH true Try.prog 127 [.ref 0 0 0 N 1,nD N,.fn (.func 121) [] [.ptr 1 1 0]] [⟨X.map nD, 3, true⟩,⟨[.sl false L 1 (W.map nD)], 41, false⟩] (.tup []) [⟨T.map nD, 3, true⟩,⟨[.sl false L 1 (W.map nD)], 41, false⟩]:=by
 refine SpecH.run T_ok ag Try.func127 rfl rfl rfl ⟨k8 _,rfl,trivial⟩ rfl 1000 64 (fun R ok=>(.s 4 (Hn.inl T_ok ag false 63 2 (aq Try.prog 127 0) (fun (x:(a:Nat) ×' (Y:List Nat) ×' (f:Nat) ×' (ha:a ≤ N) ×' (hQ:Ord L N Y) ×' (hf:N - a ≤ f) ×' (hR:uS W N f a Y = T1) ×' Unit)=>match x with | ⟨a,Y,f,ha,hQ,hf,hR,_⟩=>CutS.mk [(0,D.ref 0 0 0 N 1),(1,zN N),(2,D.fn (K9 121) [] [D.ptr 1 1 0]),(6,zI 20),(7,nD a),(8,nD (a + 20))] [⟨0,0,0,0,.b ⟨Y.map nD,3,true⟩⟩,⟨1,1,1,1,.b ⟨[D.sl false L 1 (map nD W)],41,false⟩⟩] 24) (fun (x:(a:Nat) ×' (Y:List Nat) ×' (f:Nat) ×' (ha:a ≤ N) ×' (hQ:Ord L N Y) ×' (hf:N - a ≤ f) ×' (hR:uS W N f a Y = T1) ×' Unit)=>match x with | ⟨a,Y,f,ha,hQ,hf,hR,_⟩=>N - a) [⟨(a2:Nat) ×' (Y2:List Nat) ×' (ha2:a2 ≤ N) ×' (hQ2:Ord L N Y2) ×' (hR2:inQ W Y2 a2 (N - (a2 + 1)) = T1) ×' Unit,.exit 0,fun x=>match x with | ⟨a2,Y2,ha2,hQ2,hR2,_⟩=>CutS.mk [(0,D.ref 0 0 0 N 1),(1,zN N),(2,D.fn (K9 121) [] [D.ptr 1 1 0]),(6,zI 20),(7,nD a2),(8,nD (a2 + 20))] [⟨0,0,0,0,.b ⟨Y2.map nD,3,true⟩⟩,⟨1,1,1,1,.b ⟨[D.sl false L 1 (map nD W)],41,false⟩⟩] 24⟩] 1000 64 (fun | ⟨a,Y,f,ha,hQ,hf,hR,_⟩,Q,next1,last1=>(.s 4 (.br (decide ((↑(a + 20):Int) ≤ (N:Int))) (fun p0=>have p0f:=aN p0; (.s 5 (.call 131 true [0,1] (true) wr ([D.ref 0 0 0 N 1,zN a,zN (a + 20),D.fn (K9 121) [] [D.ptr 1 1 0]]) _ (bY.refl _) (aa (map nD Y) && true) (by (simp; done)) _ _ _ (CallOk.fn (ax.of Try.func131 rfl rfl) (@BC (Y) (N) om (W) (L) om om (a) (a + 20) om om)) (.s 6 (.ow ((↑(a + 20):Int) + 20) (.s 1 (.val 8 (zI ((↑(a + 20):Int) + 20)) (zN (a + 20 + 20)) wL (Hn.next next1 ⟨(a + 20),(inQ W Y a (a + 20 - (a + 1))),(f - 1),om,(by (exact hQ.in (by (omega)))),om,(by ( exact I5 hR om om)),⟨⟩⟩ (by show N - (a + 20) < N - a; clear next1 last1; omega) [(0,0),(1,1)] ro)))))))) (fun p0=>have p0f:=aO p0; (Hn.last last1 0 (⟨(a),(Y),om,om,(by ( exact I6 hR om)),⟨⟩⟩:(a2:Nat) ×' (Y2:List Nat) ×' (ha2:a2 ≤ N) ×' (hQ2:Ord L N Y2) ×' (hR2:inQ W Y2 a2 (N - (a2 + 1)) = T1) ×' Unit) rfl [(0,0),(1,1)] ro))))) (fun | ⟨a,Y,f,ha,hQ,hf,hR,_⟩=>by kernel_rfl) ⟨(0),(X),(N),om,om,om,om,⟨⟩⟩ [(0,0),(1,1)] ro (bX (fun | ⟨a2,Y2,ha2,hQ2,hR2,_⟩=>(.s 5 (.call 131 true [0,1] (true) wr ([D.ref 0 0 0 N 1,zN a2,zN N,D.fn (K9 121) [] [D.ptr 1 1 0]]) _ (bY.refl _) (aa (map nD Y2) && true) (by (simp; done)) _ _ _ (CallOk.fn (ax.of Try.func131 rfl rfl) (@BC (Y2) (N) om (W) (L) om om (a2) (N) om om)) (.blk 0 0 (Blk.mk (map nD (inQ W Y2 a2 (N - (a2 + 1)))) 3 true) (Blk.mk (map nD T1) 3 true) (by (rw [hR2])) (Hn.inl T_ok ag false 63 2 (aq Try.prog 127 1) (fun (x:(z:Nat) ×' (Z:List Nat) ×' (f:Nat) ×' (hz:20 ≤ z ∧ z ≤ 2000) ×' (hQ:Ord L N Z) ×' (hf:N - z ≤ f) ×' (hR:uT W N f z Z = T) ×' Unit)=>match x with | ⟨z,Z,f,hz,hQ,hf,hR,_⟩=>CutS.mk [(0,D.ref 0 0 0 N 1),(1,zN N),(2,D.fn (K9 121) [] [D.ptr 1 1 0]),(6,nD z)] [⟨0,0,0,0,.b ⟨Z.map nD,3,true⟩⟩,⟨1,1,1,1,.b ⟨[D.sl false L 1 (map nD W)],41,false⟩⟩] 24) (fun (x:(z:Nat) ×' (Z:List Nat) ×' (f:Nat) ×' (hz:20 ≤ z ∧ z ≤ 2000) ×' (hQ:Ord L N Z) ×' (hf:N - z ≤ f) ×' (hR:uT W N f z Z = T) ×' Unit)=>match x with | ⟨z,Z,f,hz,hQ,hf,hR,_⟩=>N - z) [⟨Unit,.exit 2,fun x=>match x with | ()=>CutS.mk [(0,D.ref 0 0 0 N 1),(1,zN N),(2,D.fn (K9 121) [] [D.ptr 1 1 0])] [⟨0,0,0,0,.b ⟨T.map nD,3,true⟩⟩,⟨1,1,1,1,.b ⟨[D.sl false L 1 (map nD W)],41,false⟩⟩] 24⟩] 1000 64 (fun | ⟨z,Z,f,hz,hQ,hf,hR,_⟩,Q,next1,last1=>(.s 4 (.br (decide ((z:Int) < (N:Int))) (fun p1=>have p1f:=aN p1; (.s 3 (.ow (2 * (z:Int)) (.s 2 (.val 8 (zI (2 * (z:Int))) (zN (0 + 2 * z)) wL (Hn.inl T_ok ag false 63 2 (aq Try.prog 127 2) (fun (x:(a:Nat) ×' (Y:List Nat) ×' (g:Nat) ×' (ha:a ≤ N) ×' (hQ:Ord L N Y) ×' (hf:N - a ≤ g) ×' (hR:oe W z N g a Y = oe W z N N 0 Z) ×' Unit)=>match x with | ⟨a,Y,g,ha,hQ,hf,hR,_⟩=>CutS.mk [(0,D.ref 0 0 0 N 1),(1,zN N),(2,D.fn (K9 121) [] [D.ptr 1 1 0]),(6,zN z),(7,nD a),(8,nD (a + 2 * z))] [⟨0,0,0,0,.b ⟨Y.map nD,3,true⟩⟩,⟨1,1,1,1,.b ⟨[D.sl false L 1 (map nD W)],41,false⟩⟩] 24) (fun (x:(a:Nat) ×' (Y:List Nat) ×' (g:Nat) ×' (ha:a ≤ N) ×' (hQ:Ord L N Y) ×' (hf:N - a ≤ g) ×' (hR:oe W z N g a Y = oe W z N N 0 Z) ×' Unit)=>match x with | ⟨a,Y,g,ha,hQ,hf,hR,_⟩=>N - a) [⟨(a3:Nat) ×' (Y3:List Nat) ×' (ha3:a3 ≤ N ∧ N < a3 + 2 * z) ×' (hQ3:Ord L N Y3) ×' (hR3:(if a3 + z < N then jH W (2 * z) Y3 a3 (a3 + z) N else Y3) = oe W z N N 0 Z) ×' Unit,.exit 4,fun x=>match x with | ⟨a3,Y3,ha3,hQ3,hR3,_⟩=>CutS.mk [(0,D.ref 0 0 0 N 1),(1,zN N),(2,D.fn (K9 121) [] [D.ptr 1 1 0]),(6,zN z),(7,nD a3),(8,nD (a3 + 2 * z))] [⟨0,0,0,0,.b ⟨Y3.map nD,3,true⟩⟩,⟨1,1,1,1,.b ⟨[D.sl false L 1 (map nD W)],41,false⟩⟩] 24⟩] 1000 64 (fun | ⟨a,Y,g,ha,hQ,hf,hR,_⟩,Q,next2,last2=>(.s 4 (.br (decide ((↑(a + 2 * z):Int) ≤ (N:Int))) (fun p2=>have p2f:=aN p2; (.s 6 (.ow ((a:Int) + (z:Int)) (.s 3 (.call 132 true [0,1] (true) wr ([D.ref 0 0 0 N 1,zN a,zI ((a:Int) + (z:Int)),zN (a + 2 * z),D.fn (K9 121) [] [D.ptr 1 1 0]]) _ (bY.refl _) (aa (map nD Y) && true) (by (simp; done)) _ _ _ (CallOk.fn (ax.of Try.func132 rfl rfl) (@GQ (Y) (N) om (W) (L) om om (z) (a) om om)) (.s 6 (.ow (2 * (z:Int)) (.s 2 (.ow ((↑(a + 2 * z):Int) + 2 * (z:Int)) (.s 1 (.val 8 (zI ((↑(a + 2 * z):Int) + 2 * (z:Int))) (zN (a + 2 * z + 2 * z)) wL (Hn.next next2 ⟨(a + 2 * z),(jH W (2 * z) Y a (a + z) (a + 2 * z)),(g - 1),om,(by (exact hQ.sm (by (omega)) (by (omega)) (by (omega)))),om,(by ( exact I7 hR om om om)),⟨⟩⟩ (by show N - (a + 2 * z) < N - a; clear next2 last2 next1 last1; omega) [(0,0),(1,1)] ro)))))))))))) (fun p2=>have p2f:=aO p2; (Hn.last last2 0 (⟨(a),(Y),om,om,(by ( exact I8 hR om)),⟨⟩⟩:(a3:Nat) ×' (Y3:List Nat) ×' (ha3:a3 ≤ N ∧ N < a3 + 2 * z) ×' (hQ3:Ord L N Y3) ×' (hR3:(if a3 + z < N then jH W (2 * z) Y3 a3 (a3 + z) N else Y3) = oe W z N N 0 Z) ×' Unit) rfl [(0,0),(1,1)] ro))))) (fun | ⟨a,Y,g,ha,hQ,hf,hR,_⟩=>by kernel_rfl) ⟨(0),(Z),(N),om,om,om,wr,⟨⟩⟩ [(0,0),(1,1)] ro (bX (fun | ⟨a3,Y3,ha3,hQ3,hR3,_⟩=>(.s 4 (.ow ((a3:Int) + (z:Int)) (.s 5 (.br (decide ((a3:Int) + (z:Int) < (N:Int))) (fun p3=>have p3f:=aN p3; (.s 6 (.call 132 true [0,1] (true) wr ([D.ref 0 0 0 N 1,zN a3,zI ((a3:Int) + (z:Int)),zN N,D.fn (K9 121) [] [D.ptr 1 1 0]]) _ (bY.refl _) (aa (map nD Y3) && true) (by (simp; done)) _ _ _ (CallOk.fn (ax.of Try.func132 rfl rfl) (@GR (Y3) (N) om (W) (L) om om (z) (a3) om om om)) (.s 3 (.ow ((z:Int) * 2) (.s 1 (.val 6 (zI ((z:Int) * 2)) (zN (2 * z)) wL (.blk 0 0 (Blk.mk (map nD (jH W (2 * z) Y3 a3 (a3 + z) N)) 3 true) (Blk.mk (map nD (oe W z N N 0 Z)) 3 true) (by ( rw [if_pos om] at hR3; rw [hR3])) (Hn.next next1 ⟨(2 * z),(oe W z N N 0 Z),(f - 1),om,(by ( exact hQ.perm (iK om _ _ _ hQ.n))),om,(by ( exact GP hR om om)),⟨⟩⟩ (by show N - 2 * z < N - z; clear next1 last1; omega) [(0,0),(1,1)] ro))))))))) (fun p3=>have p3f:=aO p3; (.s 3 (.ow ((z:Int) * 2) (.s 1 (.val 6 (zI ((z:Int) * 2)) (zN (2 * z)) wL (.blk 0 0 (Blk.mk (map nD Y3) 3 true) (Blk.mk (map nD (oe W z N N 0 Z)) 3 true) (by ( rw [if_neg om] at hR3; rw [hR3])) (Hn.next next1 ⟨(2 * z),(oe W z N N 0 Z),(f - 1),om,(by ( exact hQ.perm (iK om _ _ _ hQ.n))),om,(by ( exact GP hR om om)),⟨⟩⟩ (by show N - 2 * z < N - z; clear next1 last1; omega) [(0,0),(1,1)] ro))))))))))))))))))) (fun p1=>have p1f:=aO p1; (.blk 0 0 (Blk.mk (map nD Z) 3 true) (Blk.mk (map nD T) 3 true) (by ( rw [I9 hR om])) (Hn.last last1 0 (():Unit) rfl [(0,0),(1,1)] ro)))))) (fun | ⟨z,Z,f,hz,hQ,hf,hR,_⟩=>by kernel_rfl) ⟨(20),(T1),(N),om,om,om,om,⟨⟩⟩ [(0,0),(1,1)] ro (bX (fun | ()=>(.out [0,1] [0,1] (D.tup []) [Blk.mk (map nD T) 3 true,Blk.mk [D.sl false L 1 (map nD W)] 41 false] R (ok _ _ wr wr))))))))))))) (by kernel_rfl)
end Vp
end Go.Proofs.Ytefjnofhgkjpmaa
namespace Go.Proofs.Ytefjnofhgkjpmaa
open Go.RowKit Go.Bw Go.Vx
open List (length getD map take drop flatMap replicate)
namespace Vp
theorem rO {p:Prop} (h:p:=by ((refine aF ?_ ?_) <;> (repeat' (first | (refine aF ?_ ?_) | (with_reducible rfl) | (refine decide_eq_true ?_) | (refine KA ?_) | (refine er ?_))) <;> (omega))):p:=h
theorem wN {p:Prop} (h:p:=by (simp only [ba (k:=2) (fun (x:Pc)=>(rfl:(cm x).length = 2)),Ly,KX,K2]; refine KA ?_; (omega))):p:=h
theorem wO {p:Prop} (h:p:=by (rw [Kw]; rfl)):p:=h
theorem wP {p:Prop} (h:p:=by (rw [Kw]; simp only [Lg]; (omega))):p:=h
theorem ze {p:Prop} (h:p:=by (refine decide_eq_false ?_; (omega))):p:=h
theorem zf {p:Prop} (h:p:=by (refine aJ ?_; (omega))):p:=h
theorem zg {p:Prop} (h:p:=by ( have q:=@Jm row i; refine aJ ?_; omega)):p:=h
def et (W:List Nat) (k:Nat):List Nat:=lk W ((Lf k).filter fun i=>decide (0 < W.getD i i4))
theorem eX (W:List Nat) (k:Nat):et W k = (Lf k).filter fun i=>decide (0 < W.getD i i4):=aA _ _
theorem BD (W:List Nat):et W 0 = []:=eX W 0
theorem BE {W:List Nat} {k:Nat} (h:0 < W.getD (k * 1) i4):et W (k + 1) = et W k ++ [k]:=by
 rw [KW] at h
 rw [eX,eX,MJ,LD,L7 (by simpa using h)]; rfl
theorem BF {W:List Nat} {k:Nat} (h:¬ 0 < W.getD (k * 1) i4):et W (k + 1) = et W k:=by
 rw [KW] at h
 rw [eX,eX,MJ,LD,L8 (by simpa using h),OE,Lk]
theorem ib (W:List Nat) (k:Nat):(et W k).length ≤ k:=by
 rw [eX]; exact KK (M7 _ _) (by simp)
theorem og {W:List Nat} {k:Nat}:bh k (et W k):=fun x hx=>by
 rw [eX,MY] at hx
 exact List.mem_range.1 hx.1
def eN (W:List Nat):List Nat:=lk W (Ja W (et W W.length))
theorem wQ (W:List Nat):eN W = Ja W (et W W.length):=aA _ _
theorem dF (W:List Nat):(eN W).Perm (et W W.length):=by rw [wQ]; exact wM _ _
structure SrE (W:List Nat) (L N:Nat) (X T1 T:List Nat):Prop where
 o:Ord L N X
 t1:uS W N N 0 X = T1
 o1:Ord L N T1
 t:uT W N N 20 T1 = T
theorem Dy {W:List Nat} {L N:Nat} (hL:L = W.length) {X:List Nat} (hX:X = et W L) (hN:N = X.length):∃ T1,SrE W L N X T1 (eN W):=by
 subst hX hN hL
 have o:Ord W.length (et W W.length).length (et W W.length):=⟨rfl,og⟩
 exact ⟨_,o,rfl,o.perm (lm _ _ _ rfl (Li _)),by rw [wQ]; rfl⟩
theorem Jb {m:Nat} (h:m ≤ 15):IntKind.i64.wrap (2 ^ min m 64 * 1) = ((2 ^ m:Nat):Int):=by
 have h2:2 ^ m ≤ 2 ^ 15:=Ln (by decide) h
 rw [show min m 64 = m from by omega,Int.mul_one,show (2:Int) ^ m = ((2 ^ m:Nat):Int) from by push_cast; rfl]
 generalize 2 ^ m = Z at *
 have q:=fj (x:=((Z:Nat):Int)) (by omega)
 rw [aE] at q
 injection q with q; injection q with q; injection q
structure Pc where
 w:Nat
 p:Bool
 deriving Inhabited
abbrev cm (x:Pc):List D:=[nD x.w,bD x.p]
def fW (ws:List Nat):List Pc:=ws.map fun w=>⟨w,false⟩
def dT (s:Nat):List Nat → List Pc × List Nat
 | []=>([⟨s,true⟩],[])
 | w :: r=>if s < w then ([⟨s,true⟩],w :: r) else (⟨w,false⟩ :: (dT s r).1,(dT s r).2)
def eu:List Pc → List Nat → List Pc
 | x :: y :: r,ws=>(dT (x.w + y.w) ws).1 ++ eu r (dT (x.w + y.w) ws).2
 | _,ws=>fW ws
def Dz (row:List Pc) (ws:List Nat):List Pc:=lk ws (eu row ws)
theorem fT (row:List Pc) (ws:List Nat):Dz row ws = eu row ws:=aA _ _
theorem Jc {row:List Pc} {ws:List Nat} {i:Nat} (h:i + 1 < row.length):eu (row.drop i) ws = (dT ((row.getD i i4).w + (row.getD (i + 1) i4).w) ws).1 ++ eu (row.drop (i + 2)) (dT ((row.getD i i4).w + (row.getD (i + 1) i4).w) ws).2:=by
 rw [LS (show i < row.length by omega),LS h,eu]
 have e1:row[i] = row.getD i i4:=by rw [List.getD_eq_getElem?_getD,List.getElem?_eq_getElem (by omega)]; rfl
 have e2:row[i + 1] = row.getD (i + 1) i4:=by rw [List.getD_eq_getElem?_getD,List.getElem?_eq_getElem h]; rfl
 rw [e1,e2]
theorem Jd {row:List Pc} {ws:List Nat} {i:Nat} (h:¬ i + 1 < row.length):eu (row.drop i) ws = fW ws:=by
 have:(row.drop i).length ≤ 1:=by rw [KQ]; omega
 match hm:row.drop i,this with
 | [],_=>rfl
 | [x],_=>rfl
theorem Je {s:Nat} {ws:List Nat} {k:Nat} (hk:k < ws.length) (h:s < ws.getD k i4):dT s (ws.drop k) = ([⟨s,true⟩],ws.drop k):=by
 have e1:ws[k] = ws.getD k i4:=by rw [List.getD_eq_getElem?_getD,List.getElem?_eq_getElem hk]; rfl
 rw [LS hk,dT,if_pos (by rw [e1]; exact h)]
theorem Jf {s:Nat} {ws:List Nat} {k:Nat} (hk:k < ws.length) (h:¬ s < ws.getD k i4):dT s (ws.drop k) = (⟨ws.getD k i4,false⟩ :: (dT s (ws.drop (k + 1))).1,(dT s (ws.drop (k + 1))).2):=by
 have e1:ws[k] = ws.getD k i4:=by rw [List.getD_eq_getElem?_getD,List.getElem?_eq_getElem hk]; rfl
 conv=>lhs; rw [LS hk,dT,if_neg (by rw [e1]; exact h),e1]
theorem Jg {s:Nat} {ws:List Nat} {k:Nat} (hk:¬ k < ws.length):dT s (ws.drop k) = ([⟨s,true⟩],[]):=by
 rw [LI (by omega)]; rfl
section
variable {row o T:List Pc} {ws:List Nat} {i k s x:Nat}
theorem Jh (h:i + 1 < row.length) (hR:o ++ eu (row.drop i) (ws.drop k) = T):o ++ ((dT ((row.getD i i4).w + (row.getD (i + 1) i4).w) (ws.drop k)).1 ++ eu (row.drop (i + 2)) (dT ((row.getD i i4).w + (row.getD (i + 1) i4).w) (ws.drop k)).2) = T:=by rw [← hR,Jc h]
theorem Ji (hk:k < ws.length) (h:s < ws.getD k i4) (hR:o ++ ((dT s (ws.drop k)).1 ++ eu (row.drop (i + 2)) (dT s (ws.drop k)).2) = T):(o ++ [⟨s,true⟩]) ++ eu (row.drop (i + 2)) (ws.drop k) = T:=by
 rw [← hR,Je hk h,KS]
theorem Jj (hk:k < ws.length) (h:¬ s < ws.getD k i4) (hR:o ++ ((dT s (ws.drop k)).1 ++ eu (row.drop (i + 2)) (dT s (ws.drop k)).2) = T):(o ++ [⟨ws.getD k i4,false⟩]) ++ ((dT s (ws.drop (k + 1))).1 ++ eu (row.drop (i + 2)) (dT s (ws.drop (k + 1))).2) = T:=by
 rw [← hR,Jf hk h,KS]; rfl
theorem Jk (hk:¬ k < ws.length) (hR:o ++ ((dT s (ws.drop k)).1 ++ eu (row.drop (i + 2)) (dT s (ws.drop k)).2) = T):(o ++ [⟨s,true⟩]) ++ eu (row.drop (i + 2)) (ws.drop k) = T:=by
 rw [← hR,Jg hk,show ws.drop k = [] from LI (by omega),KS]
theorem Jl (h:¬ i + 1 < row.length) (hR:o ++ eu (row.drop i) (ws.drop k) = T):o ++ fW (ws.drop k) = T:=by rw [← hR,Jd h]
theorem GU (hk:k < ws.length) (hR:o ++ fW (ws.drop k) = T):(o ++ [⟨ws.getD k i4,false⟩]) ++ fW (ws.drop (k + 1)) = T:=by
 have e1:ws[k] = ws.getD k i4:=by rw [List.getD_eq_getElem?_getD,List.getElem?_eq_getElem hk]; rfl
 rw [← hR,LS hk,KS,e1]; rfl
theorem zh (hk:¬ k < ws.length) (hR:o ++ fW (ws.drop k) = T):o = T:=by
 rw [← hR,LI (by omega)]; exact (Lk _).symm
end
theorem zi (W:List Nat) (L:Nat) (hL:L = W.length) (hL2:L ≤ 320) (hB:∀ t,W.getD t i4 ≤ 1073741824) (m:Nat) (hm:1 ≤ m ∧ m ≤ 15) (N:Nat) (hN:N = (et W L).length) (X T1:List Nat) (hX:et W L = X) (hS:SrE W L N X T1 (eN W)) (hNm:N ≤ 2 ^ m) (o:Ord L N X) (t1:uS W N N 0 X = T1) (o1:Ord L N T1) (t:uT W N N 20 T1 = eN W):SpecH false Try.prog 100 [.sl false L 1 (W.map nD),nD m] [] (.tup [.ref 0 0 0 N 1,iD 0]) [⟨(eN W).map nD, 3, true⟩]:=by
 have hP:=Jb hm.2
 have hN3:N ≤ 320:=by rw [hN]; exact KK (ib W L) hL2
 refine SpecH.run T_ok ag Try.func100 rfl rfl rfl ⟨CG _ (fun _=>rfl) _,trivial⟩ rfl 1000 64 (fun R ok=>(.s 9 (.f (decide ((m:Int) < 1)) ze (.s 4 (.f (decide (15 < (m:Int))) ze (.s 6 (.f (decide (320 < (L:Int))) ze (.s 5 (.nils 4 120 1 3 (.val 4 (D.ref 120 120 0 0 1) (D.ref 120 120 0 (length (et W 0)) 1) (by (rw [BD]; rfl)) (.blk 120 120 (Blk.mk [] 3 true) (Blk.mk (map nD (et W 0)) 3 true) (by (rw [BD]; rfl)) (Hn.inl T_ok ag false 46 0 (aq Try.prog 100 0) (fun (x:(k:Nat) ×' (hk:k ≤ L) ×' Unit)=>match x with | ⟨k,hk,_⟩=>CutS.mk [(1,zN m),(2,D.ptr 0 0 0),(4,(D.ref 8 8 (0) ((et W k).length) 1)),(17,D.sl false L 1 (map nD W)),(18,zN L),(19,nD k)] [⟨0,0,0,0,.b ⟨[D.sl false L 1 (map nD W)],41,false⟩⟩,⟨8,8,120,120,.b ⟨(et W k).map nD,3,true⟩⟩] 16) (fun (x:(k:Nat) ×' (hk:k ≤ L) ×' Unit)=>match x with | ⟨k,hk,_⟩=>L - k) [⟨Unit,.exit 0,fun x=>match x with | ()=>CutS.mk [(1,zN m),(2,D.ptr 0 0 0),(4,(D.ref 8 8 (0) (N) 1)),(17,D.sl false L 1 (map nD W)),(18,zN L)] [⟨0,0,0,0,.b ⟨[D.sl false L 1 (map nD W)],41,false⟩⟩,⟨8,8,120,120,.b ⟨X.map nD,3,true⟩⟩] 16⟩] 1000 64 (fun | ⟨k,hk,_⟩,Q,next1,last1=>(.s 2 (.br (decide ((k:Int) < (L:Int))) (fun p0=>have p0f:=aN p0; (.s 2 (.chk (true && decide ((k:Int) < (L:Int)) && true) rO (.s 2 (.opt ((map nD W)[k * 1]?) (nD (getD W (k * 1) i4)) (ao _ _ om) (.s 12 (.f (decide (1073741824 < (↑(getD W (k * 1) i4):Int))) (by (refine decide_eq_false ?_;  have h9:=hB (k * 1); have h8:=ib W k; omega)) (.s 3 (.br (decide (0 < (↑(getD W (k * 1) i4):Int))) (fun p1=>have p1f:=aN p1; (.s 5 (.chk (true && Kv (length (et W k) * 1) (length (map nD (et W k))) && true && true && true && true && Kx ((length (et W k) + 1) * 8) 140737488355328) (by (simp;  have h9:=hB (k * 1); have h8:=ib W k; omega)) (.s 3 (.ow ((k:Int) + 1) (.s 1 (.val 4 (D.ref 152 152 0 (length (et W k) + 1) 1) (D.ref 152 152 0 (length (et W (k + 1))) 1) (by (rw [BE (by (omega)),Kw]; rfl)) (.val 19 (zI ((k:Int) + 1)) (zN (k + 1)) zf (.blk 152 152 (Blk.mk (map nD (et W k) ++ [zN k]) 3 true) (Blk.mk (map nD (et W (k + 1))) 3 true) (by (rw [BE (by (omega)),Lh]; rfl)) (Hn.next next1 ⟨(k + 1),om,⟨⟩⟩ (by show L - (k + 1) < L - k; clear next1 last1; omega) [(0,0),(152,152)] ro)))))))))) (fun p1=>have p1f:=aO p1; (.s 2 (.ow ((k:Int) + 1) (.s 1 (.val 4 (D.ref 8 8 0 (length (et W k)) 1) (D.ref 8 8 0 (length (et W (k + 1))) 1) (by (rw [BF (by (omega))])) (.val 19 (zI ((k:Int) + 1)) (zN (k + 1)) zf (.blk 8 8 (Blk.mk (map nD (et W k)) 3 true) (Blk.mk (map nD (et W (k + 1))) 3 true) (by (rw [BF (by (omega))])) (Hn.next next1 ⟨(k + 1),om,⟨⟩⟩ (by show L - (k + 1) < L - k; clear next1 last1; omega) [(0,0),(8,8)] ro))))))))))))))))) (fun p0=>have p0f:=aO p0; (.val 4 (D.ref 8 8 0 (length (et W k)) 1) (D.ref 8 8 0 N 1) (by ( rw [show k = L from by omega,hX,o.n])) (.blk 8 8 (Blk.mk (map nD (et W k)) 3 true) (Blk.mk (map nD X) 3 true) (by ( rw [show k = L from by omega,hX])) (Hn.last last1 0 (():Unit) rfl [(0,0),(8,8)] ro))))))) (fun | ⟨k,hk,_⟩=>by kernel_rfl) ⟨(0),om,⟨⟩⟩ [(0,0),(120,120)] ro (bX (fun | ()=>(.s 5 (.opt (ap .i64 (2 ^ min m 64 * 1)) (zI (KP KY (2 ^ min m 64 * 1))) (aE _ _) (.s 2 (.f (decide (KP KY (2 ^ min m 64 * 1) < (N:Int))) ze (.s 9 (.call 127 true [8,0] (true) wr ([D.ref 0 0 0 N 1,zN N,D.fn (K9 121) [] [D.ptr 1 1 0]]) _ (bY.refl _) (aa (map nD X) && true) (by (simp; done)) _ _ _ (CallOk.fn (ax.of Try.func127 rfl rfl) (@GS (X) (N) om (W) (L) om om (T1) (eN W) bk om bk)) (.s 3 (.out [8] [8] (D.tup [D.ref 0 0 0 N 1,zI 0]) [Blk.mk (map nD (eN W)) 3 true] R (ok _ _ wr wr))))))))))))))))))))))) (by kernel_rfl)
theorem GV {o:List Pc} {x:Pc}:(o ++ [x]).flatMap cm = o.flatMap cm ++ [nD x.w,bD x.p]:=by rw [Mb]; rfl
theorem GW {row:List Pc} {B:Nat} (h:∀ x ∈ row,x.w ≤ B) {i:Nat} (hi:i < row.length):(row.getD i i4).w ≤ B:=by
 rw [List.getD_eq_getElem?_getD,List.getElem?_eq_getElem hi]; exact h _ (Ld hi)
def sP (row:List Pc) (i:Nat):Nat:=lk row ((row.getD i i4).w + (row.getD (i + 1) i4).w)
theorem wR (ws:List Nat) {k j:Nat} (h:k + j < ws.length):(K8 (k * 1) (ws.map nD))[j * 1]? = some (nD (ws.getD (k + j) i4)):=by
 rw [KW,KW,List.getElem?_drop,List.getElem?_map,List.getD_eq_getElem?_getD,List.getElem?_eq_getElem h]; rfl
theorem BG (row:List Pc) (i:Nat):sP row i = (row.getD i i4).w + (row.getD (i + 1) i4).w:=aA _ _
theorem Jm {row:List Pc} {i:Nat}:((sP row i:Nat):Int) = ((row.getD i i4).w:Int) + ((row.getD ((i:Int) + 1).toNat i4).w:Int):=by rw [BG,show ((i:Int) + 1).toNat = i + 1 from by omega]; push_cast; rfl
section
variable {row o T:List Pc} {ws:List Nat} {i k:Nat}
theorem GX (h:i + 1 < row.length) (hR:o ++ eu (row.drop i) (ws.drop k) = T):o ++ ((dT (sP row i) (ws.drop k)).1 ++ eu (row.drop (i + 2)) (dT (sP row i) (ws.drop k)).2) = T:=by rw [BG]; exact Jh h hR
end
theorem GY (row:List Pc) (r:Nat) (hr:r = row.length) (hr2:r ≤ 1000) (B:Nat) (hB2:B ≤ 1000000000000000) (hB:∀ x ∈ row,x.w ≤ B) (ws:List Nat) (n:Nat) (hn:n = ws.length) (hn2:n ≤ 1000) (T:List Pc) (hT:Dz row ws = T):SpecH false Try.prog 101 [.sl false r 2 (row.flatMap cm),.sl false n 1 (ws.map nD)] [] (.ref 0 0 0 T.length 2) [⟨T.flatMap cm, 193, true⟩]:=by
 refine SpecH.run T_ok ag Try.func101 rfl rfl rfl ⟨ee (fun _=>rfl) _,trivial⟩ rfl 1000 64 (fun R ok=>(.s 3 (.nils 4 24 2 193 (Hn.inl T_ok ag false 74 0 (aq Try.prog 101 0) (fun (x:(i:Nat) ×' (k:Nat) ×' (o:List Pc) ×' (hi:i ≤ r + 1) ×' (hk:k ≤ n) ×' (ho:o.length ≤ i + k) ×' (hR:o ++ eu (row.drop i) (ws.drop k) = T) ×' Unit)=>match x with | ⟨i,k,o,hi,hk,ho,hR,_⟩=>CutS.mk [(0,D.sl false r 2 (flatMap cm row)),(1,D.sl false n 1 (map nD ws)),(4,(D.ref 0 0 (0) (o.length) 2)),(5,nD k),(6,nD i)] [⟨0,0,24,24,.b ⟨o.flatMap cm,193,true⟩⟩] 8) (fun (x:(i:Nat) ×' (k:Nat) ×' (o:List Pc) ×' (hi:i ≤ r + 1) ×' (hk:k ≤ n) ×' (ho:o.length ≤ i + k) ×' (hR:o ++ eu (row.drop i) (ws.drop k) = T) ×' Unit)=>match x with | ⟨i,k,o,hi,hk,ho,hR,_⟩=>r + 1 - i) [⟨(k3:Nat) ×' (o3:List Pc) ×' (hk3:k3 ≤ n) ×' (ho3:o3.length ≤ 3000) ×' (hR3:o3 ++ fW (ws.drop k3) = T) ×' Unit,.exit 0,fun x=>match x with | ⟨k3,o3,hk3,ho3,hR3,_⟩=>CutS.mk [(0,D.sl false r 2 (flatMap cm row)),(1,D.sl false n 1 (map nD ws)),(4,(D.ref 0 0 (0) (o3.length) 2)),(5,nD k3)] [⟨0,0,24,24,.b ⟨o3.flatMap cm,193,true⟩⟩] 8⟩] 1000 64 (fun | ⟨i,k,o,hi,hk,ho,hR,_⟩,Q,next1,last1=>(.s 3 (.ow ((i:Int) + 1) (.s 4 (.br (decide ((i:Int) + 1 < (r:Int))) (fun p0=>have p0f:=aN p0; (.s 4 (.chk (true && decide ((i:Int) < (r:Int)) && true) rO (.s 5 (.opt ((flatMap cm row)[i * 2 + 0]?) (zN (Pc.w (getD row i i4))) (Ao (k:=2) (i:=i) (j:=0) (fun _=>rfl) om om rfl) (.s 4 (.ow ((i:Int) + 1) (.s 1 (.chk (true && decide ((i:Int) + 1 < (r:Int)) && true) rO (.s 5 (.opt ((flatMap cm row)[un ((i:Int) + 1) * 2 + 0]?) (zN (Pc.w (getD row (un ((i:Int) + 1)) i4))) (Ao (k:=2) (i:=un ((i:Int) + 1)) (j:=0) (fun _=>rfl) om om rfl) (.s 2 (.op ((↑(Pc.w (getD row i i4)):Int) + (↑(Pc.w (getD row (un ((i:Int) + 1)) i4)):Int)) (by ( have h9:=GW hB (i:=i) om; have h8:=GW hB (i:=((i:Int) + 1).toNat) om; omega)) (.s 1 (.val 7 (zI ((↑(Pc.w (getD row i i4)):Int) + (↑(Pc.w (getD row (un ((i:Int) + 1)) i4)):Int))) (zN (sP row i)) zg (Hn.inl T_ok ag false 74 0 (aq Try.prog 101 1) (fun (x:(k1:Nat) ×' (o1:List Pc) ×' (hk1:k1 ≤ n) ×' (ho1:o1.length ≤ i + k1) ×' (hR1:o1 ++ ((dT (sP row i) (ws.drop k1)).1 ++ eu (row.drop (i + 2)) (dT (sP row i) (ws.drop k1)).2) = T) ×' Unit)=>match x with | ⟨k1,o1,hk1,ho1,hR1,_⟩=>CutS.mk [(0,D.sl false r 2 (flatMap cm row)),(1,D.sl false n 1 (map nD ws)),(4,(D.ref 0 0 (0) (o1.length) 2)),(5,nD k1),(6,zN i),(7,nD (sP row i))] [⟨0,0,0,0,.b ⟨o1.flatMap cm,193,true⟩⟩] 8) (fun (x:(k1:Nat) ×' (o1:List Pc) ×' (hk1:k1 ≤ n) ×' (ho1:o1.length ≤ i + k1) ×' (hR1:o1 ++ ((dT (sP row i) (ws.drop k1)).1 ++ eu (row.drop (i + 2)) (dT (sP row i) (ws.drop k1)).2) = T) ×' Unit)=>match x with | ⟨k1,o1,hk1,ho1,hR1,_⟩=>n - k1) [⟨(k2:Nat) ×' (o2:List Pc) ×' (hk2:k2 ≤ n) ×' (ho2:o2.length ≤ i + 2 + k2) ×' (hR2:o2 ++ eu (row.drop (i + 2)) (ws.drop k2) = T) ×' Unit,.exit 1,fun x=>match x with | ⟨k2,o2,hk2,ho2,hR2,_⟩=>CutS.mk [(0,D.sl false r 2 (flatMap cm row)),(1,D.sl false n 1 (map nD ws)),(4,(D.ref 0 0 (0) (o2.length) 2)),(5,nD k2),(6,zN i)] [⟨0,0,0,0,.b ⟨o2.flatMap cm,193,true⟩⟩] 8⟩,⟨(k4:Nat) ×' (o4:List Pc) ×' (hk4:k4 ≤ n ∧ n ≤ k4) ×' (ho4:o4.length ≤ i + k4) ×' (hR4:o4 ++ ((dT (sP row i) (ws.drop k4)).1 ++ eu (row.drop (i + 2)) (dT (sP row i) (ws.drop k4)).2) = T) ×' Unit,.exit 2,fun x=>match x with | ⟨k4,o4,hk4,ho4,hR4,_⟩=>CutS.mk [(0,D.sl false r 2 (flatMap cm row)),(1,D.sl false n 1 (map nD ws)),(4,(D.ref 0 0 (0) (o4.length) 2)),(5,nD k4),(6,zN i),(7,nD (sP row i))] [⟨0,0,0,0,.b ⟨o4.flatMap cm,193,true⟩⟩] 8⟩] 1000 64 (fun | ⟨k1,o1,hk1,ho1,hR1,_⟩,Q,next2,last2=>(.s 5 (.br (decide ((k1:Int) < (n:Int))) (fun p1=>have p1f:=aN p1; (.s 3 (.chk (true && decide ((k1:Int) < (n:Int)) && true) rO (.s 2 (.opt ((map nD ws)[k1 * 1]?) (nD (getD ws (k1 * 1) i4)) (ao _ _ om) (.s 3 (.br (decide ((↑(sP row i):Int) < (↑(getD ws (k1 * 1) i4):Int))) (fun p2=>have p2f:=aN p2; (.s 7 (.chk (true && Kv (length o1 * 2) (length (flatMap cm o1)) && true && true && true && true && Kx ((length o1 + 1) * 16) 140737488355328) wN (.s 1 (.val 4 (D.ref 120 120 0 (length o1 + 1) 2) (D.ref 120 120 0 (length (o1 ++ [Pc.mk (sP row i) true])) 2) wO (.blk 120 120 (Blk.mk (flatMap cm o1 ++ [zN (sP row i),D.v (.bool true)]) 193 true) (Blk.mk (flatMap cm (o1 ++ [Pc.mk (sP row i) true])) 193 true) (by (simp; done)) (Hn.last last2 0 (⟨(k1),(o1 ++ [⟨sP row i,true⟩]),om,wP,(by (simp only [KW] at *;  exact Ji om om hR1)),⟨⟩⟩:(k2:Nat) ×' (o2:List Pc) ×' (hk2:k2 ≤ n) ×' (ho2:o2.length ≤ i + 2 + k2) ×' (hR2:o2 ++ eu (row.drop (i + 2)) (ws.drop k2) = T) ×' Unit) rfl [(120,120)] ro))))))) (fun p2=>have p2f:=aO p2; (.s 4 (.chk (true && decide ((k1:Int) < (n:Int)) && true) rO (.s 2 (.opt ((map nD ws)[k1 * 1]?) (nD (getD ws (k1 * 1) i4)) (ao _ _ om) (.s 5 (.chk (true && Kv (length o1 * 2) (length (flatMap cm o1)) && true && true && true && true && Kx ((length o1 + 1) * 16) 140737488355328) wN (.s 4 (.ow ((k1:Int) + 1) (.s 1 (.val 4 (D.ref 144 144 0 (length o1 + 1) 2) (D.ref 144 144 0 (length (o1 ++ [Pc.mk (getD ws k1 i4) false])) 2) wO (.val 5 (zI ((k1:Int) + 1)) (zN (k1 + 1)) zg (.blk 144 144 (Blk.mk (flatMap cm o1 ++ [zN (getD ws (k1 * 1) i4),D.v (.bool false)]) 193 true) (Blk.mk (flatMap cm (o1 ++ [Pc.mk (getD ws k1 i4) false])) 193 true) (by (refine au ?_; rw [GV]; simp only [KW])) (Hn.next next2 ⟨(k1 + 1),(o1 ++ [⟨ws.getD k1 i4,false⟩]),om,wP,(by (simp only [KW] at *;  exact Jj om om hR1)),⟨⟩⟩ (by show n - (k1 + 1) < n - k1; clear next2 last2 next1 last1; omega) [(144,144)] ro))))))))))))))))))))) (fun p1=>have p1f:=aO p1; (Hn.last last2 1 (⟨(k1),(o1),om,om,om,⟨⟩⟩:(k4:Nat) ×' (o4:List Pc) ×' (hk4:k4 ≤ n ∧ n ≤ k4) ×' (ho4:o4.length ≤ i + k4) ×' (hR4:o4 ++ ((dT (sP row i) (ws.drop k4)).1 ++ eu (row.drop (i + 2)) (dT (sP row i) (ws.drop k4)).2) = T) ×' Unit) rfl [(0,0)] ro))))) (fun | ⟨k1,o1,hk1,ho1,hR1,_⟩=>by kernel_rfl) ⟨(k),(o),om,om,(by ( exact GX om hR)),⟨⟩⟩ [(0,0)] ro (eZ (fun | ⟨k2,o2,hk2,ho2,hR2,_⟩=>(.s 3 (.ow ((i:Int) + 2) (.s 1 (.val 6 (zI ((i:Int) + 2)) (zN (i + 2)) zg (Hn.next next1 ⟨(i + 2),(k2),(o2),om,om,om,om,⟨⟩⟩ (by show r + 1 - (i + 2) < r + 1 - i; clear next1 last1; omega) [(0,0)] ro)))))) (fun | ⟨k4,o4,hk4,ho4,hR4,_⟩=>(.s 7 (.chk (true && Kv (length o4 * 2) (length (flatMap cm o4)) && true && true && true && true && Kx ((length o4 + 1) * 16) 140737488355328) wN (.s 4 (.ow ((i:Int) + 2) (.s 1 (.val 4 (D.ref 40 40 0 (length o4 + 1) 2) (D.ref 40 40 0 (length (o4 ++ [Pc.mk (sP row i) true])) 2) wO (.val 6 (zI ((i:Int) + 2)) (zN (i + 2)) zg (.blk 40 40 (Blk.mk (flatMap cm o4 ++ [zN (sP row i),D.v (.bool true)]) 193 true) (Blk.mk (flatMap cm (o4 ++ [Pc.mk (sP row i) true])) 193 true) (by (simp; done)) (Hn.next next1 ⟨(i + 2),(k4),(o4 ++ [⟨sP row i,true⟩]),om,om,wP,(by ( exact Jk om hR4)),⟨⟩⟩ (by show r + 1 - (i + 2) < r + 1 - i; clear next1 last1; omega) [(40,40)] ro))))))))))))))))))))))))))) (fun p0=>have p0f:=aO p0; (Hn.last last1 0 (⟨(k),(o),om,om,(by ( exact Jl om hR)),⟨⟩⟩:(k3:Nat) ×' (o3:List Pc) ×' (hk3:k3 ≤ n) ×' (ho3:o3.length ≤ 3000) ×' (hR3:o3 ++ fW (ws.drop k3) = T) ×' Unit) rfl [(0,0)] ro))))))) (fun | ⟨i,k,o,hi,hk,ho,hR,_⟩=>by kernel_rfl) ⟨(0),(0),([]),om,om,(by (simp; done)),(by (exact (fT _ _).symm.trans hT)),⟨⟩⟩ [(24,24)] ro (bX (fun | ⟨k3,o3,hk3,ho3,hR3,_⟩=>(.s 3 (.chk (aS (some (k3:Int)) none none n && true) (by (simp <;> (omega))) (.s 2 (Hn.inl T_ok ag false 74 0 (aq Try.prog 101 2) (fun (x:(j:Nat) ×' (o:List Pc) ×' (hk:j ≤ n - k3) ×' (ho:o.length ≤ 3000 + j) ×' (hR:o ++ fW (ws.drop (k3 + j)) = T) ×' Unit)=>match x with | ⟨j,o,hk,ho,hR,_⟩=>CutS.mk [(4,(D.ref 0 0 (0) (o.length) 2)),(61,D.sl false (n - k3) 1 (drop (k3 * 1) (map nD ws))),(62,zN (n - k3)),(63,nD j)] [⟨0,0,0,0,.b ⟨o.flatMap cm,193,true⟩⟩] 8) (fun (x:(j:Nat) ×' (o:List Pc) ×' (hk:j ≤ n - k3) ×' (ho:o.length ≤ 3000 + j) ×' (hR:o ++ fW (ws.drop (k3 + j)) = T) ×' Unit)=>match x with | ⟨j,o,hk,ho,hR,_⟩=>n - k3 - j) [⟨Unit,.exit 4,fun x=>match x with | ()=>CutS.mk [(4,(D.ref 0 0 (0) (T.length) 2)),(61,D.sl false (n - k3) 1 (drop (k3 * 1) (map nD ws))),(62,zN (n - k3))] [⟨0,0,0,0,.b ⟨T.flatMap cm,193,true⟩⟩] 8⟩] 1000 64 (fun | ⟨j,o,hk,ho,hR,_⟩,Q,next1,last1=>(.s 2 (.br (decide ((j:Int) < (↑(n - k3):Int))) (fun p3=>have p3f:=aN p3; (.s 1 (.chk (true && decide ((j:Int) < (↑(n - k3):Int)) && true) rO (.s 2 (.opt ((drop (k3 * 1) (map nD ws))[j * 1]?) (nD (getD ws (k3 + j) i4)) (@wR ws (k3) (j) om) (.s 8 (.chk (true && Kv (length o * 2) (length (flatMap cm o)) && true && true && true && true && Kx ((length o + 1) * 16) 140737488355328) wN (.s 3 (.ow ((j:Int) + 1) (.s 1 (.val 4 (D.ref 72 72 0 (length o + 1) 2) (D.ref 72 72 0 (length (o ++ [Pc.mk (getD ws (k3 + j) i4) false])) 2) wO (.val 63 (zI ((j:Int) + 1)) (zN (j + 1)) zf (.blk 72 72 (Blk.mk (flatMap cm o ++ [zN (getD ws (k3 + j) i4),D.v (.bool false)]) 193 true) (Blk.mk (flatMap cm (o ++ [Pc.mk (getD ws (k3 + j) i4) false])) 193 true) (by (simp; done)) (Hn.next next1 ⟨(j + 1),(o ++ [⟨ws.getD (k3 + j) i4,false⟩]),om,wP,(by ( exact GU om hR)),⟨⟩⟩ (by show n - k3 - (j + 1) < n - k3 - j; clear next1 last1; omega) [(72,72)] ro)))))))))))))) (fun p3=>have p3f:=aO p3; (.val 4 (D.ref 0 0 0 (length o) 2) (D.ref 0 0 0 (length T) 2) (by ( rw [zh om hR])) (.blk 0 0 (Blk.mk (flatMap cm o) 193 true) (Blk.mk (flatMap cm T) 193 true) (by ( rw [zh om hR])) (Hn.last last1 0 (():Unit) rfl [(0,0)] ro))))))) (fun | ⟨j,o,hk,ho,hR,_⟩=>by kernel_rfl) ⟨(0),(o3),om,om,om,⟨⟩⟩ [(0,0)] ro (bX (fun | ()=>(.s 2 (.out [0] [0] (D.ref 0 0 0 (length T) 2) [Blk.mk (flatMap cm T) 193 true] R (ok _ _ wr wr))))))))))))))) (by kernel_rfl)
theorem zj (ws:List Nat) {j:Nat} (h:j < ws.length):(K8 (0 * 1) (ws.map nD))[j * 1]? = some (nD (ws.getD j i4)):=by
 have:=wR ws (k:=0) (j:=j) (by omega)
 rwa [KV] at this
theorem GZ (ws:List Nat) (n:Nat) (hn:n = ws.length) (hn2:n ≤ 1000) (T:List Pc) (hT:Dz [] ws = T):SpecH false Try.prog 101 [cM,.sl false n 1 (ws.map nD)] [] (.ref 0 0 0 T.length 2) [⟨T.flatMap cm, 193, true⟩]:=by
 refine SpecH.run T_ok ag Try.func101 rfl rfl rfl ⟨ee (fun _=>rfl) _,trivial⟩ rfl 1000 64 (fun R ok=>(.s 16 (.chk (aS (some 0) none none n && true) (by (simp; done)) (.s 2 (.nils 4 104 2 193 (Hn.inl T_ok ag false 74 0 (aq Try.prog 101 2) (fun (x:(j:Nat) ×' (o:List Pc) ×' (hk:j ≤ n) ×' (ho:o.length ≤ j) ×' (hR:o ++ fW (ws.drop j) = T) ×' Unit)=>match x with | ⟨j,o,hk,ho,hR,_⟩=>CutS.mk [(4,(D.ref 0 0 (0) (o.length) 2)),(61,D.sl false (n - 0) 1 (drop 0 (map nD ws))),(62,zN (n - 0)),(63,nD j)] [⟨0,0,104,104,.b ⟨o.flatMap cm,193,true⟩⟩] 8) (fun (x:(j:Nat) ×' (o:List Pc) ×' (hk:j ≤ n) ×' (ho:o.length ≤ j) ×' (hR:o ++ fW (ws.drop j) = T) ×' Unit)=>match x with | ⟨j,o,hk,ho,hR,_⟩=>n - j) [⟨Unit,.exit 4,fun x=>match x with | ()=>CutS.mk [(4,(D.ref 0 0 (0) (T.length) 2)),(61,D.sl false (n - 0) 1 (drop 0 (map nD ws))),(62,zN (n - 0))] [⟨0,0,104,104,.b ⟨T.flatMap cm,193,true⟩⟩] 8⟩] 1000 64 (fun | ⟨j,o,hk,ho,hR,_⟩,Q,next1,last1=>(.s 2 (.br (decide ((j:Int) < (↑(n - 0):Int))) (fun p0=>have p0f:=aN p0; (.s 1 (.chk (true && decide ((j:Int) < (↑(n - 0):Int)) && true) rO (.s 2 (.opt ((drop (0 * 1) (map nD ws))[j * 1]?) (nD (getD ws j i4)) (@zj ws (j) om) (.s 8 (.chk (true && Kv (length o * 2) (length (flatMap cm o)) && true && true && true && true && Kx ((length o + 1) * 16) 140737488355328) wN (.s 3 (.ow ((j:Int) + 1) (.s 1 (.val 4 (D.ref 72 72 0 (length o + 1) 2) (D.ref 72 72 0 (length (o ++ [Pc.mk (getD ws j i4) false])) 2) wO (.val 63 (zI ((j:Int) + 1)) (zN (j + 1)) zf (.blk 72 72 (Blk.mk (flatMap cm o ++ [zN (getD ws j i4),D.v (.bool false)]) 193 true) (Blk.mk (flatMap cm (o ++ [Pc.mk (getD ws j i4) false])) 193 true) (by (simp; done)) (Hn.next next1 ⟨(j + 1),(o ++ [⟨ws.getD j i4,false⟩]),om,wP,(by ( exact GU om hR)),⟨⟩⟩ (by show n - (j + 1) < n - j; clear next1 last1; omega) [(72,72)] ro)))))))))))))) (fun p0=>have p0f:=aO p0; (.val 4 (D.ref 0 0 0 (length o) 2) (D.ref 0 0 0 (length T) 2) (by ( rw [zh om hR])) (.blk 0 0 (Blk.mk (flatMap cm o) 193 true) (Blk.mk (flatMap cm T) 193 true) (by ( rw [zh om hR])) (Hn.last last1 0 (():Unit) rfl [(0,0)] ro))))))) (fun | ⟨j,o,hk,ho,hR,_⟩=>by kernel_rfl) ⟨(0),([]),om,(by (simp; done)),(by (exact (fT _ _).symm.trans hT)),⟨⟩⟩ [(104,104)] ro (bX (fun | ()=>(.s 2 (.out [0] [0] (D.ref 0 0 0 (length T) 2) [Blk.mk (flatMap cm T) 193 true] R (ok _ _ wr wr))))))))))) (by kernel_rfl)
end Vp
end Go.Proofs.Ytefjnofhgkjpmaa
namespace Go.Proofs.Ytefjnofhgkjpmaa
open Go.RowKit Go.Bw Go.Vx
namespace Vp
def oh (W S:List Nat) (k:Nat):List Nat:=lk S ((S.take k).map fun i=>W.getD i i4)
theorem ln (W S:List Nat) (k:Nat):oh W S k = (S.take k).map fun i=>W.getD i i4:=aA _ _
theorem G0 (W S:List Nat):oh W S 0 = []:=ln W S 0
theorem G1 {W S:List Nat} {k:Nat} (h:k < S.length):oh W S (k + 1) = oh W S k ++ [W.getD (S.getD k i4) i4]:=by
 rw [ln,ln,K4 h,Lh,List.getD_eq_getElem?_getD (l:=S),List.getElem?_eq_getElem h]; rfl
theorem ka {W S:List Nat} {k:Nat} (h:k ≤ S.length):(oh W S k).length = k:=by rw [ln,KH,KC]; omega
def DA (ws:List Nat):Nat → List Pc
 | 0=>Dz [] ws
 | k + 1=>Dz (DA ws k) ws
def ak (ws:List Nat) (k:Nat):List Pc:=lk ws (DA ws k)
theorem oi (ws:List Nat) (k:Nat):ak ws k = DA ws k:=aA _ _
theorem oj (ws:List Nat):Dz [] ws = ak ws 0:=by rw [oi]; rfl
theorem lq (ws:List Nat) (k:Nat):Dz (ak ws k) ws = ak ws (k + 1):=by rw [oi,oi]; rfl
def cw (row:List Pc) (n:Nat):Nat:=lk row ((row.take n).filter (·.p)).length
theorem ic (row:List Pc) (n:Nat):cw row n = ((row.take n).filter (·.p)).length:=aA _ _
theorem G2 (row:List Pc):cw row 0 = 0:=ic row 0
theorem BH {row:List Pc} {k:Nat} (h:k < row.length):cw row (k + 1) = cw row k + (row.getD k i4).p.toNat:=by
 rw [ic,ic,K4 h,LD,Kw,List.getD_eq_getElem?_getD,List.getElem?_eq_getElem h]
 show _ + (List.filter _ [row[k]]).length = _ + (row[k]).p.toNat
 cases hp:(row[k]).p
 ·rw [L8 (by simp [hp])]; rfl
 ·rw [L7 (by simp [hp])]; rfl
theorem wS (row:List Pc) (n:Nat):cw row n ≤ n:=by
 rw [ic]; exact KK (M7 _ _) (by rw [KC]; exact OC _ _)
theorem tl (row:List Pc) (n:Nat):cw row n ≤ (row.filter (·.p)).length:=by
 rw [ic]; exact ((Oh n row).filter _).length_le
theorem ol:∀ l:List Pc,l.length = (l.filter (·.p)).length + (l.filter (fun x=>!x.p)).length
 | []=>rfl
 | x :: r=>by
  have ih:=ol r
  cases hp:x.p
  ·rw [L8 (by simp [hp]),L7 (by simp [hp]),KU,KU]; omega
  ·rw [L7 (by simp [hp]),L8 (by simp [hp]),KU,KU]; omega
theorem BI (s:Nat):∀ ws:List Nat,((dT s ws).1.filter (·.p)).length = 1 ∧ (dT s ws).1.length + (dT s ws).2.length = ws.length + 1 ∧ (dT s ws).1.length = ((dT s ws).1.filter (fun x=>!x.p)).length + 1
 | []=>⟨rfl,rfl,rfl⟩
 | w :: r=>by
  have ih:=BI s r
  rw [dT]; split
  ·exact ⟨rfl,by simp; omega,rfl⟩
  ·refine ⟨?_,?_,?_⟩
   ·rw [L8 (by simp)]; exact ih.1
   ·simp only [KU]; omega
   ·rw [L7 (by simp),KU,KU]; omega
theorem wT:∀ (row:List Pc) (ws:List Nat),((eu row ws).filter (·.p)).length = row.length / 2 ∧ (eu row ws).length = ws.length + row.length / 2 ∧ ((eu row ws).filter (fun x=>!x.p)).length = ws.length
 | [],ws=>by
  have e:eu [] ws = fW ws:=rfl
  rw [e]; unfold fW
  refine ⟨?_,by simp,?_⟩
  ·rw [List.filter_eq_nil_iff.2 (fun x hx=>by obtain ⟨w,_,rfl⟩:=List.mem_map.1 hx; simp)]; rfl
  ·rw [List.filter_eq_self.2 (fun x hx=>by obtain ⟨w,_,rfl⟩:=List.mem_map.1 hx; rfl),KH]
 | [x],ws=>by
  have e:eu [x] ws = fW ws:=rfl
  rw [e]; unfold fW
  refine ⟨?_,by simp,?_⟩
  ·rw [List.filter_eq_nil_iff.2 (fun x hx=>by obtain ⟨w,_,rfl⟩:=List.mem_map.1 hx; simp)]; simp
  ·rw [List.filter_eq_self.2 (fun x hx=>by obtain ⟨w,_,rfl⟩:=List.mem_map.1 hx; rfl),KH]
 | x :: y :: r,ws=>by
  have h1:=BI (x.w + y.w) ws
  have h2:=wT r (dT (x.w + y.w) ws).2
  rw [eu]
  refine ⟨?_,?_,?_⟩
  ·rw [LD,Kw,h1.1,h2.1,KU,KU]; omega
  ·rw [Kw,h2.2.1,KU,KU]; omega
  ·rw [LD,Kw,h2.2.2]; omega
theorem BJ {s B:Nat}:∀ ws:List Nat,(∀ w ∈ ws,w ≤ B) → s ≤ B → (∀ x ∈ (dT s ws).1,x.w ≤ B) ∧ ∀ w ∈ (dT s ws).2,w ∈ ws
 | [],_,hs=>⟨fun x hx=>by cases List.mem_singleton.1 hx; exact hs,fun w hw=>by cases hw⟩
 | w :: r,h,hs=>by
  have ih:=BJ (s:=s) r (fun y hy=>h y (KM _ hy)) hs
  rw [dT]; split
  ·exact ⟨fun x hx=>by cases List.mem_singleton.1 hx; exact hs,fun y hy=>hy⟩
  ·refine ⟨fun x hx=>?_,fun y hy=>KM _ (ih.2 y hy)⟩
   rcases List.mem_cons.1 hx with rfl | hx
   ·exact h w KO
   ·exact ih.1 x hx
theorem BK {B C:Nat} (hC:2 * B ≤ C) (hC2:B ≤ C):∀ (row:List Pc) (ws:List Nat),(∀ w ∈ ws,w ≤ B) → (∀ x ∈ row,x.w ≤ B) → ∀ x ∈ eu row ws,x.w ≤ C
 | [],ws,h,_=>fun x hx=>by
  obtain ⟨w,hw,rfl⟩:=List.mem_map.1 (show x ∈ fW ws from hx)
  exact KK (h w hw) hC2
 | [_],ws,h,_=>fun x hx=>by
  obtain ⟨w,hw,rfl⟩:=List.mem_map.1 (show x ∈ fW ws from hx)
  exact KK (h w hw) hC2
 | a :: b :: r,ws,h,hr=>fun x hx=>by
  have ha:=hr a KO
  have hb:=hr b (KM _ KO)
  have h1:=BJ (s:=a.w + b.w) (B:=C) ws (fun w hw=>KK (h w hw) hC2) (by omega)
  rw [eu] at hx
  rcases List.mem_append.1 hx with q | q
  ·exact h1.1 x q
  ·exact BK hC hC2 r _ (fun w hw=>h w (h1.2 w hw)) (fun y hy=>hr y (KM _ (KM _ hy))) x q
theorem wU {ws:List Nat} (h:∀ w ∈ ws,w ≤ 1073741824):∀ k,∀ x ∈ ak ws k,x.w ≤ 2 ^ k * 1073741824
 | 0=>fun x hx=>by
  rw [← oj,fT] at hx
  obtain ⟨w,hw,rfl⟩:=List.mem_map.1 (show x ∈ fW ws from hx)
  have:=h w hw; simpa using this
 | k + 1=>fun x hx=>by
  rw [← lq,fT] at hx
  have hp:=LZ k
  refine BK (B:=2 ^ k * 1073741824) (by rw [LP]; omega) (by rw [LP]; omega) _ _ (fun w hw=>KK (h w hw) (by omega)) (wU h k) x hx
theorem zk {ws:List Nat} (h:∀ w ∈ ws,w ≤ 1073741824) {k:Nat} (hk:k ≤ 15):∀ x ∈ ak ws k,x.w ≤ 100000000000000:=fun x hx=>by
 have h1:=wU h k x hx
 have h2:2 ^ k ≤ 2 ^ 15:=Ln (by decide) hk
 omega
theorem jf (ws:List Nat):∀ k,(ak ws k).length = ws.length + (if k = 0 then 0 else (ak ws (k - 1)).length / 2) ∧ ((ak ws k).filter (·.p)).length = (if k = 0 then 0 else (ak ws (k - 1)).length / 2) ∧ ((ak ws k).filter (fun x=>!x.p)).length = ws.length
 | 0=>by
  have h:=wT [] ws
  rw [← fT,oj] at h
  exact ⟨h.2.1,h.1,h.2.2⟩
 | k + 1=>by
  have h:=wT (ak ws k) ws
  rw [← fT,lq] at h
  exact ⟨h.2.1,h.1,h.2.2⟩
theorem b8 (ws:List Nat):∀ k,(ak ws k).length ≤ 2 * ws.length
 | 0=>by rw [(jf ws 0).1,if_pos rfl]; omega
 | k + 1=>by
  have:=b8 ws k
  rw [(jf ws (k + 1)).1,if_neg (Ms k),Me]; omega
theorem tn (ws:List Nat):∀ k,2 ^ k * (2 * ws.length) ≤ 2 ^ k * (ak ws k).length + ws.length + (2 ^ k - 1)
 | 0=>by rw [(jf ws 0).1,if_pos rfl]; omega
 | k + 1=>by
  have ih:=tn ws k
  have e:=(jf ws (k + 1)).1
  rw [if_neg (Ms k),Me] at e
  have hp:=LZ k
  rw [e,LP]
  generalize ws.length = N at *
  generalize (ak ws k).length = R at *
  generalize 2 ^ k = P at *
  have h2:P * R ≤ P * (2 * (R / 2)) + P:=by
   have:R ≤ 2 * (R / 2) + 1:=by omega
   have:=MT P this
   rw [Mo,KW] at this; exact this
  have e1:P * 2 * (2 * N) = P * (2 * N) + P * (2 * N):=by rw [LH,Nat.two_mul,Mo]
  have e2:P * 2 * (N + R / 2) = P * (2 * N) + P * (2 * (R / 2)):=by rw [LH,Mo 2,Mo]
  rw [e1,e2]
  omega
def qj:List UInt8 → List Nat → List UInt8
 | o,[]=>o
 | o,i :: r=>qj (o.set i (o.getD i i4 + 1)) r
theorem wV (o:List UInt8) (a b:List Nat):qj o (a ++ b) = qj (qj o a) b:=by
 induction a generalizing o with
 | nil=>rfl
 | cons x a ih=>exact ih _
theorem qk:∀ (o:List UInt8) (l:List Nat),(qj o l).length = o.length
 | _,[]=>rfl
 | o,i :: r=>by rw [qj,qk,Mz]
def bW (o:List UInt8) (S:List Nat) (j:Nat):List UInt8:=lk o (qj o (S.take j))
theorem ke (o:List UInt8) (S:List Nat) (j:Nat):bW o S j = qj o (S.take j):=aA _ _
theorem rP (o:List UInt8) (S:List Nat):bW o S 0 = o:=ke o S 0
theorem cn (o:List UInt8) (S:List Nat) (j:Nat):(bW o S j).length = o.length:=by rw [ke,qk]
theorem rQ {o:List UInt8} {S:List Nat} {j:Nat} (h:j < S.length):bW o S (j + 1) = (bW o S j).set (S.getD j i4) ((bW o S j).getD (S.getD j i4) i4 + 1):=by
 rw [ke,ke,K4 h,wV,List.getD_eq_getElem?_getD (l:=S),List.getElem?_eq_getElem h]; rfl
def zm (ws S:List Nat):Nat → Nat → List UInt8 → List UInt8
 | 0,_,o=>o
 | k + 1,n,o=>zm ws S k (2 * cw (ak ws k) n) (bW o S (n - cw (ak ws k) n))
structure LnI (ws:List Nat) (k n:Nat):Prop where
 a:k ≠ 0 → n ≤ (ak ws (k - 1)).length
theorem LnI.next {ws:List Nat} {k n:Nat} (h:LnI ws (k + 1) n):n ≤ (ak ws k).length ∧ cw (ak ws k) n ≤ n ∧ n - cw (ak ws k) n ≤ ws.length ∧ LnI ws k (2 * cw (ak ws k) n):=by
 have hn:=h.a (Ms k)
 rw [Me] at hn
 have hc:=jf ws k
 have h1:=tl (ak ws k) n
 refine ⟨hn,wS _ _,?_,⟨fun hk=>?_⟩⟩
 ·have e:n = ((ak ws k).take n).length:=by rw [KC]; omega
  have e2:((ak ws k).take n).length = (((ak ws k).take n).filter (·.p)).length + (((ak ws k).take n).filter (fun x=>!x.p)).length:=by
   exact ol _
  have e3:(((ak ws k).take n).filter (fun x=>!x.p)).length ≤ ws.length:=by
   rw [← hc.2.2]; exact ((Oh n _).filter _).length_le
  rw [ic]; omega
 ·rw [hc.2.1,if_neg hk] at h1; omega
theorem LnI.first {ws:List Nat} {m:Nat} (hm:1 ≤ m) (h:ws.length ≤ 2 ^ m) (h2:2 ≤ ws.length):LnI ws m (2 * ws.length - 2):=⟨fun _=>by
 have g:=tn ws (m - 1)
 have hp:=LZ (m - 1)
 have e:2 ^ m = 2 * 2 ^ (m - 1):=by rw [show m = (m - 1) + 1 from by omega,LP,L0]; rfl
 generalize (ak ws (m - 1)).length = R at *
 generalize ws.length = N at *
 generalize 2 ^ (m - 1) = P at *
 rcases K3 R (2 * N - 2) with q | q
 ·have h3:P * R + 3 * P ≤ P * (2 * N):=by
   have:R + 3 ≤ 2 * N:=by omega
   have:=MT P this
   rw [Mo,L0 P 3] at this; exact this
  omega
 ·exact q⟩
end Vp
end Go.Proofs.Ytefjnofhgkjpmaa

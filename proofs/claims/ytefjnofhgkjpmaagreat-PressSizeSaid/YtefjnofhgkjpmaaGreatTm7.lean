/- Part 7. -/
import Derived.Test.YtefjnofhgkjpmaaGreatTm5
import Derived.Test.YtefjnofhgkjpmaaGreatTm6
set_option linter.unusedVariables false
set_option linter.unusedSimpArgs false
set_option maxRecDepth 100000
set_option maxHeartbeats 4000000
open Bool renaming and_true → Mv, true_and → Mr
open Eq renaming trans → Px
open Go.Fn renaming func → MG
open Go.IntKind renaming i64 → Mk, u64 → Nr, wrap → Mj
open Go.Value renaming int → MS
open Inhabited renaming default → ji
open Int renaming fdiv → MK, toNat → u7
open List renaming append_assoc → Mu, append_nil → MU, drop → MI, drop_eq_getElem_cons → Nl, drop_eq_nil_of_le → Nb, filter_append → M7, filter_cons_of_neg → NB, filter_cons_of_pos → NA, filter_nil → P8, flatMap_append → NF, getElem_mem → ML, length_append → L6, length_cons → Mx, length_drop → Ms, length_filter_le → OI, length_map → Mg, length_set → N1, length_singleton → MN, length_take → Mc, map_append → MO, mem_cons_of_mem → Mn, mem_cons_self → Mp, mem_filter → Oy, mem_or_eq_of_mem_set → O5, range → MQ, range_succ → Og, take_sublist → PO, take_succ_eq_append_getElem → MB
open List.Perm renaming refl → NX
open Nat renaming add_sub_cancel → NJ, beq → L2, beq_refl → M5, ble → L5, ble_eq_true_of_le → L9, le_refl → Mh, le_trans → L8, lt_or_ge → MF, min_le_left → P6, mul_add → NS, mul_assoc → Na, mul_comm → Nk, mul_le_mul_left → Ot, mul_one → My, pow_le_pow_right → MV, pow_succ → Nt, sub_self → Nf, succ_ne_zero → NW, two_pow_pos → NH, zero_add → Mw, zero_le → MP
namespace Go.Proofs.YtefjnofhgkjpmaaGreat
open Go.RowKit Go.Bw Go.Vx
open List (length getD map take drop flatMap replicate)
namespace Vp
theorem oF {p:Prop} (h:p:=by (refine aO ?_; (omega))):p:=h
theorem sr {p:Prop} (h:p:=by (refine decide_eq_true ?_; (omega))):p:=h
theorem xv {p:Prop} (h:p:=by ((refine aI ?_ ?_) <;> (repeat' (first | (refine aI ?_ ?_) | (with_reducible rfl) | (refine decide_eq_true ?_) | (refine L9 ?_) | (refine er ?_))) <;> (omega))):p:=h
def me (a b:Nat):Int:=if a < b then -1 else if b < a then 1 else 0
theorem HM {a b:Nat} (h:(a:Int) < b):me a b = -1:=if_pos (by omega)
theorem HN {a b:Nat} (h:¬ (a:Int) < b) (h2:(b:Int) < a):me a b = 1:=(if_neg (by omega)).trans (if_pos (by omega))
theorem HO {a b:Nat} (h:¬ (a:Int) < b) (h2:¬ (b:Int) < a):me a b = 0:=(if_neg (by omega)).trans (if_neg (by omega))
theorem xw (a b:Nat):me a b < 0 ↔ a < b:=by
 unfold me; split
 ·omega
 ·split <;> omega
def swp (X:List Nat) (i j:Nat):List Nat:=lk X ((X.set i (X.getD j ji)).set j (X.getD i ji))
theorem oG (X:List Nat) (i j:Nat):swp X i j = (X.set i (X.getD j ji)).set j (X.getD i ji):=aG _ _
theorem fX (X:List Nat) (i j:Nat):(swp X i j).length = X.length:=by rw [oG,N1,N1]
theorem EC {M:List Nat} {o a:Nat} (ho:o < M.length):aj (M.map nD) o [nD a] = (M.set o a).map nD:=by
 apply List.ext_getElem?
 intro i
 rw [ck (by simp only [Mg,MN]; omega),List.getElem?_map,List.getElem?_map,List.getElem?_set]
 simp only [MN]
 by_cases hi:o = i
 ·subst hi
  rw [if_pos (by omega),if_pos rfl,if_pos ho,Nf]; rfl
 ·rw [if_neg (by omega),if_neg hi]
theorem tV {X:List Nat} {i j i' j' i2 j2:Nat} (hi:i < X.length) (hj:j < X.length) (h1:i' = i) (h2:j' = j) (h3:i2 = i) (h4:j2 = j):aj (aj (X.map nD) i' [D.v (.int .i64 ((X.getD j2 ji:Nat):Int))]) j' [D.v (.int .i64 ((X.getD i2 ji:Nat):Int))] = (swp X i j).map nD:=by
 subst h1 h2 h3 h4
 rw [show D.v (.int .i64 ((X.getD j2 ji:Nat):Int)) = nD (X.getD j2 ji) from rfl,EC hi,show D.v (.int .i64 ((X.getD i2 ji:Nat):Int)) = nD (X.getD i2 ji) from rfl,EC (by rw [N1]; exact hj),oG]
theorem zX {X:List Nat} {o m:Nat} {z:Int} (ho:o < X.length) (hm:m ≤ X.length):(true && m.ble (aj (X.map nD) o [D.v (.int .i64 z)]).length) = true:=by
 rw [cJ (by rw [Mg,MN]; omega),Mg,Mr]
 exact L9 hm
def HP (X:List Nat) (a b:Nat):Nat → List Nat
 | 0=>X
 | k + 1=>swp (HP X a b k) (a + k) (b + k)
theorem tW (X:List Nat) (a b:Nat):∀ k,(HP X a b k).length = X.length
 | 0=>rfl
 | k + 1=>by rw [HP,fX,tW X a b k]
def dG (X:List Nat) (a b k:Nat):List Nat:=lk X (HP X a b k)
theorem oH (X:List Nat) (a b k:Nat):dG X a b k = HP X a b k:=aG _ _
theorem dh (X:List Nat) (a b k:Nat):(dG X a b k).length = X.length:=by rw [oH,tW]
theorem CG (X:List Nat) (a b:Nat):dG X a b 0 = X:=oH X a b 0
theorem CH (X:List Nat) (a b k:Nat):swp (dG X a b k) (a + k) (b + k) = dG X a b (k + 1):=by rw [oH,oH]; rfl
theorem ED (a b:Nat):SpecH false Tryz.prog 176 [nD a,nD b] [] (iD (me a b)) []:=by
 refine SpecH.run T_ok ai Tryz.func176 rfl rfl rfl trivial rfl 1000 64 (fun R ok=>(.s 22 (.f ((a:Int) != (a:Int)) (by (simp; done)) (.s 1 (.f ((b:Int) != (b:Int)) (by (simp; done)) (.s 4 (.br (decide ((a:Int) < (b:Int))) (fun p0=>have p0f:=ba p0; (.s 1 (.out [] [] (zI (-1)) [] R (ok _ _ (by ( rw [HM om])) wr)))) (fun p0=>have p0f:=bb p0; (.s 4 (.br (decide ((b:Int) < (a:Int))) (fun p1=>have p1f:=ba p1; (.s 1 (.out [] [] (zI 1) [] R (ok _ _ (by ( rw [HN om om])) wr)))) (fun p1=>have p1f:=bb p1; (.s 1 (.out [] [] (zI 0) [] R (ok _ _ (by ( rw [HO om om])) wr)))))))))))))) (by kernel_rfl)
theorem qx (W:List Nat) (L:Nat) (hL:L = W.length) (x y:Nat) (hx:x < L) (hy:y < L):SpecH true Tryz.prog 175 [nD x,nD y,.ptr 0 0 0] [⟨[.sl false L 1 (W.map nD)], 152, false⟩] (iD (me (W.getD x ji) (W.getD y ji))) [⟨[.sl false L 1 (W.map nD)], 152, false⟩]:=by
 refine SpecH.run T_ok ai Tryz.func175 rfl rfl rfl ⟨rfl,trivial⟩ rfl 1000 64 (fun R ok=>(.s 7 (.chk (true && decide ((x:Int) < (L:Int)) && true) xv (.s 2 (.opt ((map nD W)[x * 1]?) (nD (getD W (x * 1) ji)) (au _ _ om) (.s 5 (.chk (true && decide ((y:Int) < (L:Int)) && true) xv (.s 2 (.opt ((map nD W)[y * 1]?) (nD (getD W (y * 1) ji)) (au _ _ om) (.s 1 (.cl 176 false [] (.fn JU (@ED (getD W (x * 1) ji) (getD W (y * 1) ji))) (.s 1 (.out [0] [0] (zI (me (getD W (x * 1) ji) (getD W (y * 1) ji))) [Blk.mk [D.sl false L 1 (map nD W)] 152 false] R (ok _ _ (by (rw [My,My])) wr)))))))))))))) (by kernel_rfl)
theorem HQ (X:List Nat) (N:Nat) (hN:N = X.length) (hN2:N ≤ 1000) (W:List Nat) (L:Nat) (hL:L = W.length) (a b n:Nat) (h1:a + n ≤ N) (h2:b + n ≤ N):SpecH true Tryz.prog 201 [.ref 0 0 0 N 1,nD a,nD b,nD n,.fn (.func 175) [] [.ptr 1 1 0]] [⟨X.map nD, 3, true⟩,⟨[.sl false L 1 (W.map nD)], 152, false⟩] (.tup []) [⟨(dG X a b n).map nD, 3, true⟩,⟨[.sl false L 1 (W.map nD)], 152, false⟩]:=by
 refine SpecH.run T_ok ai Tryz.func201 rfl rfl rfl ⟨ly _,rfl,trivial⟩ rfl 1000 64 (fun R ok=>(.s 1 (.blk 0 0 (Blk.mk (map nD X) 3 true) (Blk.mk (map nD (dG X a b 0)) 3 true) (by (rw [CG]; done)) (Hn.inl T_ok ai false 38 2 (ay Tryz.prog 201 0) (fun (x:(i:Nat) ×' (hi:i ≤ n) ×' Unit)=>match x with | ⟨i,hi,_⟩=>CutS.mk [(0,D.ref 0 0 0 N 1),(1,zN a),(2,zN b),(3,zN n),(10,nD i)] [⟨0,0,0,0,.b ⟨(dG X a b i).map nD,3,true⟩⟩,⟨1,1,1,1,.b ⟨[D.sl false L 1 (map nD W)],152,false⟩⟩] 24) (fun (x:(i:Nat) ×' (hi:i ≤ n) ×' Unit)=>match x with | ⟨i,hi,_⟩=>n - i) [⟨Unit,.exit 0,fun x=>match x with | ()=>CutS.mk [(0,D.ref 0 0 0 N 1),(1,zN a),(2,zN b),(3,zN n)] [⟨0,0,0,0,.b ⟨(dG X a b n).map nD,3,true⟩⟩,⟨1,1,1,1,.b ⟨[D.sl false L 1 (map nD W)],152,false⟩⟩] 24⟩] 1000 64 (fun | ⟨i,hi,_⟩,Q,next1,last1=>(.s 4 (.br (decide ((i:Int) < (n:Int))) (fun p0=>have p0f:=ba p0; (.s 6 (.ow ((a:Int) + (i:Int)) (.s 5 (.ow ((b:Int) + (i:Int)) (.s 5 (.ow ((b:Int) + (i:Int)) (.s 1 (.chk (true && decide ((b:Int) + (i:Int) < (N:Int))) sr (.s 2 (.opt ((map nD (dG X a b i))[0 + u7 ((b:Int) + (i:Int)) * 1]?) (nD (getD (dG X a b i) (0 + u7 ((b:Int) + (i:Int)) * 1) ji)) (au _ _ (by ( have h9:=dh X a b i; omega))) (.s 5 (.ow ((a:Int) + (i:Int)) (.s 1 (.chk (true && decide ((a:Int) + (i:Int) < (N:Int))) sr (.s 2 (.opt ((map nD (dG X a b i))[0 + u7 ((a:Int) + (i:Int)) * 1]?) (nD (getD (dG X a b i) (0 + u7 ((a:Int) + (i:Int)) * 1) ji)) (au _ _ (by ( have h9:=dh X a b i; omega))) (.s 1 (.chk (true && decide ((a:Int) + (i:Int) < (N:Int))) sr (.s 1 (.chk (true && L5 (0 + u7 ((a:Int) + (i:Int)) * 1 + 1) (length (map nD (dG X a b i)))) (by (simp;  have h9:=dh X a b i; omega)) (.lst (aj (map nD (dG X a b i)) (0 + u7 ((a:Int) + (i:Int)) * 1) [zN (getD (dG X a b i) (0 + u7 ((b:Int) + (i:Int)) * 1) ji)]) (aj (map nD (dG X a b i)) (u7 ((a:Int) + (i:Int))) [zN (getD (dG X a b i) (u7 ((b:Int) + (i:Int))) ji)]) (by (simp; done)) (.s 1 (.chk (true && decide ((b:Int) + (i:Int) < (N:Int))) sr (.s 1 (.chk (true && L5 (0 + u7 ((b:Int) + (i:Int)) * 1 + 1) (length (aj (map nD (dG X a b i)) (u7 ((a:Int) + (i:Int))) [zN (getD (dG X a b i) (u7 ((b:Int) + (i:Int))) ji)]))) (by ( have h9:=dh X a b i; exact zX om om)) (.lst (aj (aj (map nD (dG X a b i)) (u7 ((a:Int) + (i:Int))) [zN (getD (dG X a b i) (u7 ((b:Int) + (i:Int))) ji)]) (0 + u7 ((b:Int) + (i:Int)) * 1) [zN (getD (dG X a b i) (0 + u7 ((a:Int) + (i:Int)) * 1) ji)]) (aj (aj (map nD (dG X a b i)) (u7 ((a:Int) + (i:Int))) [zN (getD (dG X a b i) (u7 ((b:Int) + (i:Int))) ji)]) (u7 ((b:Int) + (i:Int))) [zN (getD (dG X a b i) (u7 ((a:Int) + (i:Int))) ji)]) (by (simp; done)) (.s 3 (.ow ((i:Int) + 1) (.s 1 (.val 10 (zI ((i:Int) + 1)) (zN (i + 1)) oF (.blk 0 0 (Blk.mk (aj (aj (map nD (dG X a b i)) (u7 ((a:Int) + (i:Int))) [zN (getD (dG X a b i) (u7 ((b:Int) + (i:Int))) ji)]) (u7 ((b:Int) + (i:Int))) [zN (getD (dG X a b i) (u7 ((a:Int) + (i:Int))) ji)]) 3 true) (Blk.mk (map nD (dG X a b (i + 1))) 3 true) (by ( have h9:=dh X a b i; refine aC (Px (tV (i:=a + i) (j:=b + i) om om om om om om) ?_); rw [CH])) (Hn.next next1 ⟨(i + 1),om,⟨⟩⟩ (by show n - (i + 1) < n - i; clear next1 last1; omega) [(0,0),(1,1)] ro))))))))))))))))))))))))))))))))) (fun p0=>have p0f:=bb p0; (.blk 0 0 (Blk.mk (map nD (dG X a b i)) 3 true) (Blk.mk (map nD (dG X a b n)) 3 true) (by (rw [show i = n from by (omega)])) (Hn.last last1 0 (():Unit) rfl [(0,0),(1,1)] ro)))))) (fun | ⟨i,hi,_⟩=>by kernel_rfl) ⟨(0),om,⟨⟩⟩ [(0,0),(1,1)] ro (bZ (fun | ()=>(.out [0,1] [0,1] (D.tup []) [Blk.mk (map nD (dG X a b n)) 3 true,Blk.mk [D.sl false L 1 (map nD W)] 152 false] R (ok _ _ wr wr)))))))) (by kernel_rfl)
def gd (m:Nat):Nat → Nat → Nat → List Nat → List Nat
 | 0,i,_,X=>dG X (m - i) m i
 | f + 1,i,j,X=>if i = j then dG X (m - i) m i else if j < i then gd m f (i - j) j (dG X (m - i) m j) else gd m f i (j - i) (dG X (m - i) (m + j - i) i)
theorem HR {m f i j:Nat} {X:List Nat} (h:i = j):gd m f i j X = dG X (m - i) m i:=by
 cases f with
 | zero=>rfl
 | succ f=>exact if_pos h
theorem HS {m f i j:Nat} {X:List Nat} (h:j < i):gd m (f + 1) i j X = gd m f (i - j) j (dG X (m - i) m j):=(if_neg (by omega)).trans (if_pos h)
theorem HT {m f i j:Nat} {X:List Nat} (h:i < j):gd m (f + 1) i j X = gd m f i (j - i) (dG X (m - i) (m + j - i) i):=(if_neg (by omega)).trans (if_neg (by omega))
def xx (X:List Nat) (a m b:Nat):List Nat:=lk X (gd m (b - a) (m - a) (b - m) X)
theorem tX (X:List Nat) (a m b:Nat):xx X a m b = gd m (b - a) (m - a) (b - m) X:=aG _ _
def inI (W:List Nat) (a:Nat):Nat → List Nat → List Nat
 | 0,X=>X
 | j + 1,X=>if a < j + 1 ∧ W.getD (X.getD (j + 1) ji) ji < W.getD (X.getD j ji) ji then inI W a j (swp X (j + 1) j) else X
theorem HU {W:List Nat} {a j k:Nat} {X:List Nat} (hk:k + 1 = j) (h:a < j) (h2:W.getD (X.getD j ji) ji < W.getD (X.getD k ji) ji):inI W a j X = inI W a k (swp X j k):=by
 subst hk; exact if_pos ⟨h,h2⟩
theorem CI {W:List Nat} {a j:Nat} {X:List Nat} (h:¬ a < j ∨ ¬ W.getD (X.getD j ji) ji < W.getD (X.getD (j - 1) ji) ji):inI W a j X = X:=by
 cases j with
 | zero=>rfl
 | succ j=>exact if_neg (fun q=>by rcases h with h | h; exact h q.1; exact h q.2)
theorem tY {W:List Nat} {a:Nat}:∀ (j:Nat) (X:List Nat),(inI W a j X).length = X.length
 | 0,_=>rfl
 | j + 1,X=>by
  rw [inI]; split
  ·rw [tY j,fX]
  ·rfl
def HV (W X:List Nat) (a:Nat):Nat → List Nat
 | 0=>X
 | k + 1=>inI W a (a + 1 + k) (HV W X a k)
theorem tZ (W X:List Nat) (a:Nat):∀ k,(HV W X a k).length = X.length
 | 0=>rfl
 | k + 1=>by rw [HV,tY,tZ W X a k]
def inQ (W X:List Nat) (a k:Nat):List Nat:=lk X (HV W X a k)
theorem oI (W X:List Nat) (a k:Nat):inQ W X a k = HV W X a k:=aG _ _
theorem iQ (W X:List Nat) (a k:Nat):(inQ W X a k).length = X.length:=by rw [oI,tZ]
theorem xy (W X:List Nat) (a:Nat):inQ W X a 0 = X:=oI W X a 0
theorem xz (W X:List Nat) (a k:Nat):inI W a (a + 1 + k) (inQ W X a k) = inQ W X a (k + 1):=by rw [oI,oI]; rfl
theorem CJ (X:List Nat) (N:Nat) (hN:N = X.length) (hN2:N ≤ 1000) (W:List Nat) (L:Nat) (hL:L = W.length) (a b n:Int) (a' b' n' : Nat) (e1:a = a') (e2:b = b') (e3:n = n') (h1:a' + n' ≤ N) (h2:b' + n' ≤ N):SpecH true Tryz.prog 201 [.ref 0 0 0 N 1,iD a,iD b,iD n,.fn (.func 175) [] [.ptr 1 1 0]] [⟨X.map nD, 3, true⟩,⟨[.sl false L 1 (W.map nD)], 152, false⟩] (.tup []) [⟨(dG X a' b' n').map nD, 3, true⟩,⟨[.sl false L 1 (W.map nD)], 152, false⟩]:=by
 subst e1 e2 e3
 exact HQ X N hN hN2 W L hL a' b' n' h1 h2
theorem CK (X:List Nat) (N:Nat) (hN:N = X.length) (hN2:N ≤ 1000) (W:List Nat) (L:Nat) (hL:L = W.length) (m i j:Nat) (h1:i ≤ m) (h2:m + j ≤ N) (h3:j ≤ i):SpecH true Tryz.prog 201 [.ref 0 0 0 N 1,iD ((m:Int) - i),iD ((m:Nat):Int),nD j,.fn (.func 175) [] [.ptr 1 1 0]] [⟨X.map nD, 3, true⟩,⟨[.sl false L 1 (W.map nD)], 152, false⟩] (.tup []) [⟨(dG X (m - i) m j).map nD, 3, true⟩,⟨[.sl false L 1 (W.map nD)], 152, false⟩]:=CJ X N hN hN2 W L hL _ _ _ (m - i) m j (by omega) rfl rfl (by omega) (by omega)
theorem HW (X:List Nat) (N:Nat) (hN:N = X.length) (hN2:N ≤ 1000) (W:List Nat) (L:Nat) (hL:L = W.length) (m i j:Nat) (h1:i ≤ m) (h2:m + j ≤ N) (h3:i ≤ j):SpecH true Tryz.prog 201 [.ref 0 0 0 N 1,iD ((m:Int) - i),iD ((m:Int) + j - i),nD i,.fn (.func 175) [] [.ptr 1 1 0]] [⟨X.map nD, 3, true⟩,⟨[.sl false L 1 (W.map nD)], 152, false⟩] (.tup []) [⟨(dG X (m - i) (m + j - i) i).map nD, 3, true⟩,⟨[.sl false L 1 (W.map nD)], 152, false⟩]:=CJ X N hN hN2 W L hL _ _ _ (m - i) (m + j - i) i (by omega) (by omega) rfl (by omega) (by omega)
theorem EE {m f i j:Nat} {X T:List Nat} (hR:gd m f i j X = T) (hf:i + j ≤ f) (h1:1 ≤ j) (h:j < i):gd m (f - 1) (i - j) j (dG X (m - i) m j) = T:=by
 obtain ⟨g,rfl⟩:∃ g,f = g + 1:=⟨f - 1,by omega⟩
 rw [← hR,HS h]; rfl
theorem EF {m f i j:Nat} {X T:List Nat} (hR:gd m f i j X = T) (hf:i + j ≤ f) (h1:1 ≤ i) (h:i < j):gd m (f - 1) i (j - i) (dG X (m - i) (m + j - i) i) = T:=by
 obtain ⟨g,rfl⟩:∃ g,f = g + 1:=⟨f - 1,by omega⟩
 rw [← hR,HT h]; rfl
theorem EG {m f i j:Nat} {X T:List Nat} (hR:gd m f i j X = T) (h:i = j):dG X (m - i) m i = T:=by rw [← hR,HR h]
theorem HX (X:List Nat) (N:Nat) (hN:N = X.length) (hN2:N ≤ 1000) (W:List Nat) (L:Nat) (hL:L = W.length) (a m b:Nat) (h1:a < m) (h2:m < b) (h3:b ≤ N) (T:List Nat) (hT:xx X a m b = T):SpecH true Tryz.prog 200 [.ref 0 0 0 N 1,nD a,nD m,nD b,.fn (.func 175) [] [.ptr 1 1 0]] [⟨X.map nD, 3, true⟩,⟨[.sl false L 1 (W.map nD)], 152, false⟩] (.tup []) [⟨(T).map nD, 3, true⟩,⟨[.sl false L 1 (W.map nD)], 152, false⟩]:=by
 refine SpecH.run T_ok ai Tryz.func200 rfl rfl rfl ⟨ly _,rfl,trivial⟩ rfl 1000 64 (fun R ok=>(.s 4 (.ow ((m:Int) - (a:Int)) (.s 5 (.ow ((b:Int) - (m:Int)) (.s 1 (.val 10 (zI ((m:Int) - (a:Int))) (zN (m - a)) oF (.val 11 (zI ((b:Int) - (m:Int))) (zN (b - m)) oF (Hn.inl T_ok ai false 58 2 (ay Tryz.prog 200 0) (fun (x:(i:Nat) ×' (j:Nat) ×' (f:Nat) ×' (Y:List Nat) ×' (hY:Y.length = N) ×' (hi:1 ≤ i ∧ i ≤ m) ×' (hj:1 ≤ j ∧ m + j ≤ N) ×' (hf:i + j ≤ f) ×' (hR:gd m f i j Y = T) ×' Unit)=>match x with | ⟨i,j,f,Y,hY,hi,hj,hf,hR,_⟩=>CutS.mk [(0,D.ref 0 0 0 N 1),(2,zN m),(4,D.fn (MG 175) [] [D.ptr 1 1 0]),(10,nD i),(11,nD j)] [⟨0,0,0,0,.b ⟨Y.map nD,3,true⟩⟩,⟨1,1,1,1,.b ⟨[D.sl false L 1 (map nD W)],152,false⟩⟩] 24) (fun (x:(i:Nat) ×' (j:Nat) ×' (f:Nat) ×' (Y:List Nat) ×' (hY:Y.length = N) ×' (hi:1 ≤ i ∧ i ≤ m) ×' (hj:1 ≤ j ∧ m + j ≤ N) ×' (hf:i + j ≤ f) ×' (hR:gd m f i j Y = T) ×' Unit)=>match x with | ⟨i,j,f,Y,hY,hi,hj,hf,hR,_⟩=>i + j) [⟨(i2:Nat) ×' (Y2:List Nat) ×' (hY2:Y2.length = N) ×' (hi2:1 ≤ i2 ∧ i2 ≤ m ∧ m + i2 ≤ N) ×' (hR2:dG Y2 (m - i2) m i2 = T) ×' Unit,.exit 0,fun x=>match x with | ⟨i2,Y2,hY2,hi2,hR2,_⟩=>CutS.mk [(0,D.ref 0 0 0 N 1),(2,zN m),(4,D.fn (MG 175) [] [D.ptr 1 1 0]),(10,nD i2),(11,nD i2)] [⟨0,0,0,0,.b ⟨Y2.map nD,3,true⟩⟩,⟨1,1,1,1,.b ⟨[D.sl false L 1 (map nD W)],152,false⟩⟩] 24⟩] 1000 64 (fun | ⟨i,j,f,Y,hY,hi,hj,hf,hR,_⟩,Q,next1,last1=>(.s 4 (.br ((i:Int) != (j:Int)) (fun p0=>have p0f:=wU p0; (.s 4 (.br (decide ((j:Int) < (i:Int))) (fun p1=>have p1f:=ba p1; (.s 5 (.ow ((m:Int) - (i:Int)) (.s 4 (.call 201 true [0,1] (true) wr ([D.ref 0 0 0 N 1,zI ((m:Int) - (i:Int)),zN m,zN j,D.fn (MG 175) [] [D.ptr 1 1 0]]) _ (bX.refl _) (ab (map nD Y) && true) (by (simp; done)) _ _ _ (CallOk.fn (ax.of Tryz.func201 rfl rfl) (@CK (Y) (N) om om (W) (L) om (m) (i) (j) om om om)) (.s 4 (.ow ((i:Int) - (j:Int)) (.s 1 (.val 10 (zI ((i:Int) - (j:Int))) (zN (i - j)) oF (Hn.next next1 ⟨(i - j),(j),(f - 1),(dG Y (m - i) m j),(by (rw [dh]; (omega))),om,om,om,(by ( exact EE hR om om om)),⟨⟩⟩ (by show i - j + j < i + j; clear next1 last1; omega) [(0,0),(1,1)] ro)))))))))) (fun p1=>have p1f:=bb p1; (.s 5 (.ow ((m:Int) - (i:Int)) (.s 4 (.ow ((m:Int) + (j:Int)) (.s 3 (.ow ((m:Int) + (j:Int) - (i:Int)) (.s 3 (.call 201 true [0,1] (true) wr ([D.ref 0 0 0 N 1,zI ((m:Int) - (i:Int)),zI ((m:Int) + (j:Int) - (i:Int)),zN i,D.fn (MG 175) [] [D.ptr 1 1 0]]) _ (bX.refl _) (ab (map nD Y) && true) (by (simp; done)) _ _ _ (CallOk.fn (ax.of Tryz.func201 rfl rfl) (@HW (Y) (N) om om (W) (L) om (m) (i) (j) om om om)) (.s 4 (.ow ((j:Int) - (i:Int)) (.s 1 (.val 11 (zI ((j:Int) - (i:Int))) (zN (j - i)) oF (Hn.next next1 ⟨(i),(j - i),(f - 1),(dG Y (m - i) (m + j - i) i),(by (rw [dh]; (omega))),om,om,om,(by ( exact EF hR om om om)),⟨⟩⟩ (by show i + (j - i) < i + j; clear next1 last1; omega) [(0,0),(1,1)] ro))))))))))))))))) (fun p0=>have p0f:=wV p0; (.val 11 (zN j) (zN i) oF (Hn.last last1 0 (⟨(i),(Y),om,om,(by ( rw [EG hR om])),⟨⟩⟩:(i2:Nat) ×' (Y2:List Nat) ×' (hY2:Y2.length = N) ×' (hi2:1 ≤ i2 ∧ i2 ≤ m ∧ m + i2 ≤ N) ×' (hR2:dG Y2 (m - i2) m i2 = T) ×' Unit) rfl [(0,0),(1,1)] ro)))))) (fun | ⟨i,j,f,Y,hY,hi,hj,hf,hR,_⟩=>by kernel_rfl) ⟨(m - a),(b - m),(b - a),(X),om,om,om,om,(by (exact (tX X a m b).symm.trans hT)),⟨⟩⟩ [(0,0),(1,1)] ro (bZ (fun | ⟨i2,Y2,hY2,hi2,hR2,_⟩=>(.s 5 (.ow ((m:Int) - (i2:Int)) (.s 4 (.call 201 true [0,1] (true) wr ([D.ref 0 0 0 N 1,zI ((m:Int) - (i2:Int)),zN m,zN i2,D.fn (MG 175) [] [D.ptr 1 1 0]]) _ (bX.refl _) (ab (map nD Y2) && true) (by (simp; done)) _ _ _ (CallOk.fn (ax.of Tryz.func201 rfl rfl) (@CK (Y2) (N) om om (W) (L) om (m) (i2) (i2) om om om)) (.out [0,1] [0,1] (D.tup []) [Blk.mk (map nD (dG Y2 (m - i2) m i2)) 3 true,Blk.mk [D.sl false L 1 (map nD W)] 152 false] R (ok _ _ wr (by (simp_all; done))))))))))))))))))) (by kernel_rfl)
def bq (L:Nat) (X:List Nat):Prop:=∀ x ∈ X,x < L
theorem bq.at {L:Nat} {X:List Nat} (h:bq L X) {t:Nat} (ht:t < X.length):X.getD t ji < L:=by
 rw [List.getD_eq_getElem?_getD,List.getElem?_eq_getElem ht]; exact h _ (ML ht)
theorem bq.swp {L:Nat} {X:List Nat} (h:bq L X) {i j:Nat} (hi:i < X.length) (hj:j < X.length):bq L (swp X i j):=by
 intro x hx
 rw [oG] at hx
 rcases O5 hx with q | q
 ·rcases O5 q with q | q
  ·exact h x q
  ·rw [q]; exact h.at hj
 ·rw [q]; exact h.at hi
theorem bq.inI {L:Nat} {W:List Nat} {a:Nat}:∀ (j:Nat) {X:List Nat},bq L X → j < X.length → bq L (inI W a j X)
 | 0,_,h,_=>h
 | j + 1,X,h,hj=>by
  rw [Vp.inI]; split
  ·exact bq.inI j (h.swp hj (by omega)) (by rw [fX]; omega)
  ·exact h
theorem bq.inQ {L:Nat} {W X:List Nat} {a:Nat} (h:bq L X):∀ (k:Nat),a + k < X.length → bq L (inQ W X a k)
 | 0,_=>by rw [xy]; exact h
 | k + 1,hk=>by
  rw [← xz]
  exact bq.inI _ (bq.inQ h k (by omega)) (by rw [iQ]; omega)
theorem EH {W Y T:List Nat} {a j u v:Nat} (hR:inI W a j Y = T) (h:a < j) (hu:u = j) (hv:v = j - 1) (h2:me (W.getD (Y.getD u ji) ji) (W.getD (Y.getD v ji) ji) < 0):inI W a (j - 1) (swp Y j (j - 1)) = T:=by
 subst hu hv
 rw [← hR]; exact (HU (by omega) h ((xw _ _).1 h2)).symm
theorem EI {W Y T:List Nat} {a j:Nat} (hR:inI W a j Y = T) (h:¬ a < j):Y = T:=by rw [← hR,CI (.inl h)]
theorem EJ {W Y T:List Nat} {a j u v:Nat} (hR:inI W a j Y = T) (hu:u = j) (hv:v = j - 1) (h2:¬ me (W.getD (Y.getD u ji) ji) (W.getD (Y.getD v ji) ji) < 0):Y = T:=by
 subst hu hv
 rw [← hR,CI (.inr fun q=>h2 ((xw _ _).2 q))]
theorem HY (X:List Nat) (N:Nat) (hN:N = X.length) (hN2:N ≤ 1000) (W:List Nat) (L:Nat) (hL:L = W.length) (hA:bq L X) (a b:Nat) (h1:a ≤ b) (h3:b ≤ N) (T:List Nat) (hT:inQ W X a (b - (a + 1)) = T):SpecH true Tryz.prog 196 [.ref 0 0 0 N 1,nD a,nD b,.fn (.func 175) [] [.ptr 1 1 0]] [⟨X.map nD, 3, true⟩,⟨[.sl false L 1 (W.map nD)], 152, false⟩] (.tup []) [⟨(T).map nD, 3, true⟩,⟨[.sl false L 1 (W.map nD)], 152, false⟩]:=by
 refine SpecH.run T_ok ai Tryz.func196 rfl rfl rfl ⟨ly _,rfl,trivial⟩ rfl 1000 64 (fun R ok=>(.s 3 (.ow ((a:Int) + 1) (.s 1 (.val 8 (zI ((a:Int) + 1)) (zN (a + 1 + 0)) oF (.blk 0 0 (Blk.mk (map nD X) 3 true) (Blk.mk (map nD (inQ W X a 0)) 3 true) (by (rw [xy]; done)) (Hn.inl T_ok ai false 53 2 (ay Tryz.prog 196 0) (fun (x:(k:Nat) ×' (hk:k ≤ b - (a + 1)) ×' Unit)=>match x with | ⟨k,hk,_⟩=>CutS.mk [(0,D.ref 0 0 0 N 1),(1,zN a),(2,zN b),(3,D.fn (MG 175) [] [D.ptr 1 1 0]),(8,nD (a + 1 + k))] [⟨0,0,0,0,.b ⟨(inQ W X a k).map nD,3,true⟩⟩,⟨1,1,1,1,.b ⟨[D.sl false L 1 (map nD W)],152,false⟩⟩] 24) (fun (x:(k:Nat) ×' (hk:k ≤ b - (a + 1)) ×' Unit)=>match x with | ⟨k,hk,_⟩=>b - (a + 1) - k) [⟨Unit,.exit 0,fun x=>match x with | ()=>CutS.mk [(0,D.ref 0 0 0 N 1),(1,zN a),(2,zN b),(3,D.fn (MG 175) [] [D.ptr 1 1 0])] [⟨0,0,0,0,.b ⟨T.map nD,3,true⟩⟩,⟨1,1,1,1,.b ⟨[D.sl false L 1 (map nD W)],152,false⟩⟩] 24⟩] 1000 64 (fun | ⟨k,hk,_⟩,Q,next1,last1=>(.s 4 (.br (decide ((↑(a + 1 + k):Int) < (b:Int))) (fun p0=>have p0f:=ba p0; (.s 2 (Hn.inl T_ok ai false 53 2 (ay Tryz.prog 196 1) (fun (x:(j:Nat) ×' (Y:List Nat) ×' (hY:Y.length = N) ×' (hj:a ≤ j ∧ j ≤ a + 1 + k) ×' (hB:bq L Y) ×' (hR:inI W a j Y = inQ W X a (k + 1)) ×' Unit)=>match x with | ⟨j,Y,hY,hj,hB,hR,_⟩=>CutS.mk [(0,D.ref 0 0 0 N 1),(1,zN a),(2,zN b),(3,D.fn (MG 175) [] [D.ptr 1 1 0]),(8,zN (a + 1 + k)),(9,nD j)] [⟨0,0,0,0,.b ⟨Y.map nD,3,true⟩⟩,⟨1,1,1,1,.b ⟨[D.sl false L 1 (map nD W)],152,false⟩⟩] 24) (fun (x:(j:Nat) ×' (Y:List Nat) ×' (hY:Y.length = N) ×' (hj:a ≤ j ∧ j ≤ a + 1 + k) ×' (hB:bq L Y) ×' (hR:inI W a j Y = inQ W X a (k + 1)) ×' Unit)=>match x with | ⟨j,Y,hY,hj,hB,hR,_⟩=>j) [⟨Unit,.exit 2,fun x=>match x with | ()=>CutS.mk [(0,D.ref 0 0 0 N 1),(1,zN a),(2,zN b),(3,D.fn (MG 175) [] [D.ptr 1 1 0]),(8,zN (a + 1 + k))] [⟨0,0,0,0,.b ⟨(inQ W X a (k + 1)).map nD,3,true⟩⟩,⟨1,1,1,1,.b ⟨[D.sl false L 1 (map nD W)],152,false⟩⟩] 24⟩] 1000 64 (fun | ⟨j,Y,hY,hj,hB,hR,_⟩,Q,next2,last2=>(.s 7 (.br (decide ((a:Int) < (j:Int))) (fun p1=>have p1f:=ba p1; (.s 6 (.chk (true && decide ((j:Int) < (N:Int))) sr (.s 3 (.opt ((map nD Y)[0 + j * 1]?) (nD (getD Y (0 + j * 1) ji)) (au _ _ om) (.s 7 (.ow ((j:Int) - 1) (.s 2 (.chk (decide (0 ≤ (j:Int) - 1) && decide ((j:Int) - 1 < (N:Int))) xv (.s 3 (.opt ((map nD Y)[0 + u7 ((j:Int) - 1) * 1]?) (nD (getD Y (0 + u7 ((j:Int) - 1) * 1) ji)) (au _ _ om) (.s 2 (.cl 175 true [1] (.fn wX (@qx (W) (L) om (getD Y (0 + j * 1) ji) (getD Y (0 + u7 ((j:Int) - 1) * 1) ji) (by ( exact hB.at om)) (by ( exact hB.at om)))) (.s 4 (.br (decide (me (getD W (getD Y (0 + j * 1) ji) ji) (getD W (getD Y (0 + u7 ((j:Int) - 1) * 1) ji) ji) < 0)) (fun p2=>have p2f:=ba p2; (.s 7 (.ow ((j:Int) - 1) (.s 4 (.ow ((j:Int) - 1) (.s 1 (.chk (decide (0 ≤ (j:Int) - 1) && decide ((j:Int) - 1 < (N:Int))) xv (.s 2 (.opt ((map nD Y)[0 + u7 ((j:Int) - 1) * 1]?) (nD (getD Y (0 + u7 ((j:Int) - 1) * 1) ji)) (au _ _ om) (.s 3 (.chk (true && decide ((j:Int) < (N:Int))) sr (.s 2 (.opt ((map nD Y)[0 + j * 1]?) (nD (getD Y (0 + j * 1) ji)) (au _ _ om) (.s 1 (.chk (true && decide ((j:Int) < (N:Int))) sr (.s 1 (.chk (true && L5 (0 + j * 1 + 1) (length (map nD Y))) (by (simp;  have h9:=iQ W X a k; omega)) (.lst (aj (map nD Y) (0 + j * 1) [zN (getD Y (0 + u7 ((j:Int) - 1) * 1) ji)]) (aj (map nD Y) j [zN (getD Y (u7 ((j:Int) - 1)) ji)]) (by (simp; done)) (.s 1 (.chk (decide (0 ≤ (j:Int) - 1) && decide ((j:Int) - 1 < (N:Int))) xv (.s 1 (.chk (true && L5 (0 + u7 ((j:Int) - 1) * 1 + 1) (length (aj (map nD Y) j [zN (getD Y (u7 ((j:Int) - 1)) ji)]))) (by ( exact zX om om)) (.lst (aj (aj (map nD Y) j [zN (getD Y (u7 ((j:Int) - 1)) ji)]) (0 + u7 ((j:Int) - 1) * 1) [zN (getD Y (0 + j * 1) ji)]) (aj (aj (map nD Y) j [zN (getD Y (u7 ((j:Int) - 1)) ji)]) (u7 ((j:Int) - 1)) [zN (getD Y j ji)]) (by (simp; done)) (.s 3 (.ow ((j:Int) - 1) (.s 1 (.val 9 (zI ((j:Int) - 1)) (zN (j - 1)) oF (.blk 0 0 (Blk.mk (aj (aj (map nD Y) j [zN (getD Y (u7 ((j:Int) - 1)) ji)]) (u7 ((j:Int) - 1)) [zN (getD Y j ji)]) 3 true) (Blk.mk (map nD (swp Y j (j - 1))) 3 true) (by ( exact aC (tV om om om om om om))) (Hn.next next2 ⟨(j - 1),(swp Y j (j - 1)),(by (rw [fX]; (omega))),om,(by ( exact hB.swp om om)),(by ( exact EH (u:=0 + j * 1) (v:=0 + ((j:Int) - 1).toNat * 1) hR om om om bz)),⟨⟩⟩ (by show j - 1 < j; clear next2 last2 next1 last1; omega) [(0,0),(1,1)] ro))))))))))))))))))))))))))))) (fun p2=>have p2f:=bb p2; (.blk 0 0 (Blk.mk (map nD Y) 3 true) (Blk.mk (map nD (inQ W X a (k + 1))) 3 true) (by ( rw [EJ (u:=0 + j * 1) (v:=0 + ((j:Int) - 1).toNat * 1) hR om om bz])) (Hn.last last2 0 (():Unit) rfl [(0,0),(1,1)] ro)))))))))))))))))) (fun p1=>have p1f:=bb p1; (.s 24 (.blk 0 0 (Blk.mk (map nD Y) 3 true) (Blk.mk (map nD (inQ W X a (k + 1))) 3 true) (by ( rw [EI hR om])) (Hn.last last2 0 (():Unit) rfl [(0,0),(1,1)] ro))))))) (fun | ⟨j,Y,hY,hj,hB,hR,_⟩=>by kernel_rfl) ⟨(a + 1 + k),(inQ W X a k),(by ( have h9:=iQ W X a k; omega)),om,(by ( have h9:=iQ W X a k; exact bq.inQ hA k om)),(by (exact xz W X a k)),⟨⟩⟩ [(0,0),(1,1)] ro (bZ (fun | ()=>(.s 3 (.ow ((↑(a + 1 + k):Int) + 1) (.s 1 (.val 8 (zI ((↑(a + 1 + k):Int) + 1)) (zN (a + 1 + (k + 1))) oF (Hn.next next1 ⟨(k + 1),om,⟨⟩⟩ (by show b - (a + 1) - (k + 1) < b - (a + 1) - k; clear next1 last1; omega) [(0,0),(1,1)] ro)))))))))) (fun p0=>have p0f:=bb p0; (.blk 0 0 (Blk.mk (map nD (inQ W X a k)) 3 true) (Blk.mk (map nD T) 3 true) (by ( rw [← hT,show b - (a + 1) = k from by omega])) (Hn.last last1 0 (():Unit) rfl [(0,0),(1,1)] ro)))))) (fun | ⟨k,hk,_⟩=>by kernel_rfl) ⟨(0),om,⟨⟩⟩ [(0,0),(1,1)] ro (bZ (fun | ()=>(.out [0,1] [0,1] (D.tup []) [Blk.mk (map nD T) 3 true,Blk.mk [D.sl false L 1 (map nD W)] 152 false] R (ok _ _ wr wr))))))))))) (by kernel_rfl)
end Vp
end Go.Proofs.YtefjnofhgkjpmaaGreat
namespace Go.Proofs.YtefjnofhgkjpmaaGreat
open Go.RowKit Go.Bw Go.Vx
open List (length getD map take drop flatMap replicate)
namespace Vp
theorem dv {p:Prop} (h:p:=by (refine decide_eq_true ?_; (omega))):p:=h
theorem oJ {p:Prop} (h:p:=by (refine decide_eq_false ?_; (omega))):p:=h
theorem qy {p:Prop} (h:p:=by (refine aO ?_; (omega))):p:=h
theorem zY {p:Prop} (h:p:=by show y - ((x + y) / 2 + 1) < y - x; clear next1 last1; omega):p:=h
theorem zZ {p:Prop} (h:p:=by show (x + y) / 2 - x < y - x; clear next1 last1; omega):p:=h
theorem z0 {p:Prop} (h:p:=by ( have z:=xA hR om; refine aO ?_; omega)):p:=h
theorem Aa {p:Prop} (h:p:=by ((refine aI ?_ ?_) <;> (repeat' (first | (refine aI ?_ ?_) | (with_reducible rfl) | (refine decide_eq_true ?_) | (refine L9 ?_) | (refine er ?_))) <;> (omega))):p:=h
theorem Ab {p:Prop} (h:p:=by ( have z:=hE.e3 om; refine aO ?_; omega)):p:=h
theorem Ac {p:Prop} (h:p:=by ( have z:=hE.e4 om; refine aO ?_; omega)):p:=h
theorem HZ {p:Prop} (h:p:=by show (!decide _) = true; rw [decide_eq_false (show ¬ H1 W X _ _ < 0 from hp)]; rfl):p:=h
theorem CL {p:Prop} (h:p:=by show ¬ (!decide _) = true; rw [decide_eq_true (show H1 W X _ _ < 0 from hp)]; decide):p:=h
theorem CM {p:Prop} (h:p:=by ( exact Ko (u:=0 + (((x:Int) + (y:Int)) / 2).toNat * 1) (v:=0 + (((a:Int) + (b:Int)) / 2 + (m:Int) - 1 - ((x:Int) + (y:Int)) / 2).toNat * 1) hR om om om om bz)):p:=h
theorem CN {p:Prop} (h:p:=by ( exact Kp (u:=0 + (((x:Int) + (y:Int)) / 2).toNat * 1) (v:=0 + (((a:Int) + (b:Int)) / 2 + (m:Int) - 1 - ((x:Int) + (y:Int)) / 2).toNat * 1) hR om om om om bz)):p:=h
def gf (p:Nat → Bool):Nat → Nat → Nat → Nat
 | 0,i,_=>i
 | f + 1,i,j=>if i < j then (if p ((i + j) / 2) = true then gf p f ((i + j) / 2 + 1) j else gf p f i ((i + j) / 2)) else i
theorem xA {p:Nat → Bool} {f i j T:Nat} (hR:gf p f i j = T) (h:¬ i < j):i = T:=by
 rw [← hR]; cases f with
 | zero=>rfl
 | succ f=>exact (if_neg h).symm
theorem EK {p:Nat → Bool} {f i j T:Nat} (hR:gf p f i j = T) (hf:j - i ≤ f) (h:i < j) (hp:p ((i + j) / 2) = true):gf p (f - 1) ((i + j) / 2 + 1) j = T:=by
 obtain ⟨g,rfl⟩:∃ g,f = g + 1:=⟨f - 1,by omega⟩
 rw [← hR]; exact ((if_pos h).trans (if_pos hp)).symm
theorem EL {p:Nat → Bool} {f i j T:Nat} (hR:gf p f i j = T) (hf:j - i ≤ f) (h:i < j) (hp:¬ p ((i + j) / 2) = true):gf p (f - 1) i ((i + j) / 2) = T:=by
 obtain ⟨g,rfl⟩:∃ g,f = g + 1:=⟨f - 1,by omega⟩
 rw [← hR]; exact ((if_pos h).trans (if_neg hp)).symm
theorem lN {p:Nat → Bool}:∀ (f i j:Nat),i ≤ j → i ≤ gf p f i j ∧ gf p f i j ≤ j
 | 0,i,j,h=>⟨Mh _,h⟩
 | f + 1,i,j,h=>by
  rw [gf]; split
  ·split
   ·have:=lN (p:=p) f ((i + j) / 2 + 1) j (by omega); omega
   ·have:=lN (p:=p) f i ((i + j) / 2) (by omega); omega
  ·exact ⟨Mh _,h⟩
def H1 (W X:List Nat) (u v:Nat):Int:=me (W.getD (X.getD u ji) ji) (W.getD (X.getD v ji) ji)
def qA (W X:List Nat) (a h:Nat):Bool:=decide (H1 W X h a < 0)
def qB (W X:List Nat) (m h:Nat):Bool:=!decide (H1 W X m h < 0)
def qC (W X:List Nat) (q c:Nat):Bool:=!decide (H1 W X (q - c) c < 0)
section
variable {W X:List Nat} {f x y T a u v:Nat}
theorem Kk (hR:gf (qA W X a) f x y = T) (hf:y - x ≤ f) (h:x < y) (hu:u = (x + y) / 2) (hv:v = a) (hp:me (W.getD (X.getD u ji) ji) (W.getD (X.getD v ji) ji) < 0):gf (qA W X a) (f - 1) ((x + y) / 2 + 1) y = T:=by
 subst hu hv; exact EK hR hf h (decide_eq_true hp)
theorem Kl (hR:gf (qA W X a) f x y = T) (hf:y - x ≤ f) (h:x < y) (hu:u = (x + y) / 2) (hv:v = a) (hp:¬ me (W.getD (X.getD u ji) ji) (W.getD (X.getD v ji) ji) < 0):gf (qA W X a) (f - 1) x ((x + y) / 2) = T:=by
 subst hu hv; exact EL hR hf h (fun q=>hp (of_decide_eq_true q))
theorem Km (hR:gf (qB W X a) f x y = T) (hf:y - x ≤ f) (h:x < y) (hu:u = (x + y) / 2) (hv:v = a) (hp:¬ me (W.getD (X.getD v ji) ji) (W.getD (X.getD u ji) ji) < 0):gf (qB W X a) (f - 1) ((x + y) / 2 + 1) y = T:=by
 subst hu hv; exact EK hR hf h HZ
theorem Kn (hR:gf (qB W X a) f x y = T) (hf:y - x ≤ f) (h:x < y) (hu:u = (x + y) / 2) (hv:v = a) (hp:me (W.getD (X.getD v ji) ji) (W.getD (X.getD u ji) ji) < 0):gf (qB W X a) (f - 1) x ((x + y) / 2) = T:=by
 subst hu hv; exact EL hR hf h CL
theorem Ko (hR:gf (qC W X a) f x y = T) (hf:y - x ≤ f) (h:x < y) (hu:u = (x + y) / 2) (hv:v = a - (x + y) / 2) (hp:¬ me (W.getD (X.getD v ji) ji) (W.getD (X.getD u ji) ji) < 0):gf (qC W X a) (f - 1) ((x + y) / 2 + 1) y = T:=by
 subst hu hv; exact EK hR hf h HZ
theorem Kp (hR:gf (qC W X a) f x y = T) (hf:y - x ≤ f) (h:x < y) (hu:u = (x + y) / 2) (hv:v = a - (x + y) / 2) (hp:me (W.getD (X.getD v ji) ji) (W.getD (X.getD u ji) ji) < 0):gf (qC W X a) (f - 1) x ((x + y) / 2) = T:=by
 subst hu hv; exact EL hR hf h CL
end
def H6 (X:List Nat) (a:Nat):Nat → List Nat
 | 0=>X
 | k + 1=>swp (H6 X a k) (a + k) (a + k + 1)
def H7 (X:List Nat) (m:Nat):Nat → List Nat
 | 0=>X
 | k + 1=>swp (H7 X m k) (m - k) (m - k - 1)
theorem t0 (X:List Nat) (a:Nat):∀ k,(H6 X a k).length = X.length
 | 0=>rfl
 | k + 1=>by rw [H6,fX,t0 X a k]
theorem t6 (X:List Nat) (a:Nat):∀ k,(H7 X a k).length = X.length
 | 0=>rfl
 | k + 1=>by rw [H7,fX,t6 X a k]
def gA (X:List Nat) (a k:Nat):List Nat:=lk X (H6 X a k)
def gB (X:List Nat) (m k:Nat):List Nat:=lk X (H7 X m k)
theorem oK (X:List Nat) (a k:Nat):gA X a k = H6 X a k:=aG _ _
theorem oM (X:List Nat) (a k:Nat):gB X a k = H7 X a k:=aG _ _
theorem CP (X:List Nat) (a:Nat):gA X a 0 = X:=oK X a 0
theorem CQ (X:List Nat) (a:Nat):gB X a 0 = X:=oM X a 0
theorem fY (X:List Nat) (a k:Nat):(gA X a k).length = X.length:=by rw [oK,t0]
theorem fZ (X:List Nat) (a k:Nat):(gB X a k).length = X.length:=by rw [oM,t6]
theorem CS (X:List Nat) (a k:Nat):swp (gA X a k) (a + k) (a + k + 1) = gA X a (k + 1):=by rw [oK,oK]; rfl
theorem CT (X:List Nat) (a k:Nat):swp (gB X a k) (a - k) (a - k - 1) = gB X a (k + 1):=by rw [oM,oM]; rfl
theorem Kq (X:List Nat) (N:Nat) (hN:N = X.length) (hN2:N ≤ 1000) (W:List Nat) (L:Nat) (hL:L = W.length) (hA:bq L X) (a m b:Nat) (h1:a < m) (h2:m < b) (h3:b ≤ N) (hm:m = a + 1) (i:Nat) (hi:gf (qA W X a) (b - m) m b = i) (hi2:m ≤ i ∧ i ≤ b):SpecH true Tryz.prog 197 [.ref 0 0 0 N 1,nD a,nD m,nD b,.fn (.func 175) [] [.ptr 1 1 0]] [⟨X.map nD, 3, true⟩,⟨[.sl false L 1 (W.map nD)], 152, false⟩] (.tup []) [⟨(gA X a (i - 1 - a)).map nD, 3, true⟩,⟨[.sl false L 1 (W.map nD)], 152, false⟩]:=by
 refine SpecH.run T_ok ai Tryz.func197 rfl rfl rfl ⟨ly _,rfl,trivial⟩ rfl 1000 64 (fun R ok=>(.s 4 (.ow ((m:Int) - (a:Int)) (.s 2 (.t ((m:Int) - (a:Int) == 1) dv (.s 4 (Hn.inl T_ok ai false 220 2 (ay Tryz.prog 197 0) (fun (x:(x:Nat) ×' (y:Nat) ×' (f:Nat) ×' (hx:m ≤ x ∧ x ≤ y ∧ y ≤ b) ×' (hf:y - x ≤ f) ×' (hR:gf (qA W X a) f x y = i) ×' Unit)=>match x with | ⟨x,y,f,hx,hf,hR,_⟩=>CutS.mk [(0,D.ref 0 0 0 N 1),(1,zN a),(4,D.fn (MG 175) [] [D.ptr 1 1 0]),(10,nD x),(11,nD y)] [⟨0,0,0,0,.b ⟨map nD X,3,true⟩⟩,⟨1,1,1,1,.b ⟨[D.sl false L 1 (map nD W)],152,false⟩⟩] 24) (fun (x:(x:Nat) ×' (y:Nat) ×' (f:Nat) ×' (hx:m ≤ x ∧ x ≤ y ∧ y ≤ b) ×' (hf:y - x ≤ f) ×' (hR:gf (qA W X a) f x y = i) ×' Unit)=>match x with | ⟨x,y,f,hx,hf,hR,_⟩=>y - x) [⟨Unit,.exit 0,fun x=>match x with | ()=>CutS.mk [(0,D.ref 0 0 0 N 1),(1,zN a),(4,D.fn (MG 175) [] [D.ptr 1 1 0]),(10,nD i),(11,nD i)] [⟨0,0,0,0,.b ⟨map nD X,3,true⟩⟩,⟨1,1,1,1,.b ⟨[D.sl false L 1 (map nD W)],152,false⟩⟩] 24⟩] 1000 64 (fun | ⟨x,y,f,hx,hf,hR,_⟩,Q,next1,last1=>(.s 4 (.br (decide ((x:Int) < (y:Int))) (fun p0=>have p0f:=ba p0; (.s 4 (.ow ((x:Int) + (y:Int)) (.s 1 (.opt (aw .u64 ((x:Int) + (y:Int))) (D.v (MS .u64 ((x:Int) + (y:Int)))) (bk om) (.s 2 (.opt (bi Nr (MK ((x:Int) + (y:Int)) 2)) (D.v (MS .u64 (((x:Int) + (y:Int)) / 2))) (aA (@fT  ((x:Int) + (y:Int)) (2) om)) (.s 1 (.ow (((x:Int) + (y:Int)) / 2) (.s 6 (.chk (true && decide (((x:Int) + (y:Int)) / 2 < (N:Int))) dv (.s 2 (.opt ((map nD X)[0 + u7 (((x:Int) + (y:Int)) / 2) * 1]?) (nD (getD X (0 + u7 (((x:Int) + (y:Int)) / 2) * 1) ji)) (au _ _ om) (.s 3 (.chk (true && decide ((a:Int) < (N:Int))) dv (.s 2 (.opt ((map nD X)[0 + a * 1]?) (nD (getD X (0 + a * 1) ji)) (au _ _ om) (.s 1 (.cl 175 true [1] (.fn wX (@qx (W) (L) om (getD X (0 + u7 (((x:Int) + (y:Int)) / 2) * 1) ji) (getD X (0 + a * 1) ji) (by ( exact hA.at om)) (by ( exact hA.at om)))) (.s 2 (.br (decide (me (getD W (getD X (0 + u7 (((x:Int) + (y:Int)) / 2) * 1) ji) ji) (getD W (getD X (0 + a * 1) ji) ji) < 0)) (fun p1=>have p1f:=ba p1; (.s 3 (.ow (((x:Int) + (y:Int)) / 2 + 1) (.s 1 (.val 10 (zI (((x:Int) + (y:Int)) / 2 + 1)) (zN ((x + y) / 2 + 1)) qy (Hn.next next1 ⟨((x + y) / 2 + 1),(y),(f - 1),om,om,(by ( exact Kk (u:=0 + (((x:Int) + (y:Int)) / 2).toNat * 1) (v:=0 + a * 1) hR om om om om bz)),⟨⟩⟩ zY [(0,0),(1,1)] ro)))))) (fun p1=>have p1f:=bb p1; (.s 2 (.val 11 (zI (((x:Int) + (y:Int)) / 2)) (zN ((x + y) / 2)) qy (Hn.next next1 ⟨(x),((x + y) / 2),(f - 1),om,om,(by ( exact Kl (u:=0 + (((x:Int) + (y:Int)) / 2).toNat * 1) (v:=0 + a * 1) hR om om om om bz)),⟨⟩⟩ zZ [(0,0),(1,1)] ro))))))))))))))))))))))))) (fun p0=>have p0f:=bb p0; (.val 10 (zN x) (zN i) (by ( rw [xA hR om])) (.val 11 (zN y) (zN i) z0 (Hn.last last1 0 (():Unit) rfl [(0,0),(1,1)] ro))))))) (fun | ⟨x,y,f,hx,hf,hR,_⟩=>by kernel_rfl) ⟨(m),(b),(b - m),om,om,om,⟨⟩⟩ [(0,0),(1,1)] ro (bZ (fun | ()=>(.s 2 (.val 13 (zN a) (zN (a + 0)) qy (.blk 0 0 (Blk.mk (map nD X) 3 true) (Blk.mk (map nD (gA X a 0)) 3 true) (by (rw [CP]; done)) (Hn.inl T_ok ai false 220 2 (ay Tryz.prog 197 1) (fun (x:(k:Nat) ×' (hk:a + k ≤ i - 1) ×' Unit)=>match x with | ⟨k,hk,_⟩=>CutS.mk [(0,D.ref 0 0 0 N 1),(10,zN i),(13,nD (a + k))] [⟨0,0,0,0,.b ⟨(gA X a k).map nD,3,true⟩⟩,⟨1,1,1,1,.b ⟨[D.sl false L 1 (map nD W)],152,false⟩⟩] 24) (fun (x:(k:Nat) ×' (hk:a + k ≤ i - 1) ×' Unit)=>match x with | ⟨k,hk,_⟩=>i - 1 - a - k) [⟨Unit,.exit 2,fun x=>match x with | ()=>CutS.mk [(0,D.ref 0 0 0 N 1),(10,zN i)] [⟨0,0,0,0,.b ⟨(gA X a (i - 1 - a)).map nD,3,true⟩⟩,⟨1,1,1,1,.b ⟨[D.sl false L 1 (map nD W)],152,false⟩⟩] 24⟩] 1000 64 (fun | ⟨k,hk,_⟩,Q,next1,last1=>(.s 4 (.ow ((i:Int) - 1) (.s 2 (.br (decide ((↑(a + k):Int) < (i:Int) - 1)) (fun p2=>have p2f:=ba p2; (.s 7 (.ow ((↑(a + k):Int) + 1) (.s 4 (.ow ((↑(a + k):Int) + 1) (.s 1 (.chk (true && decide ((↑(a + k):Int) + 1 < (N:Int))) dv (.s 2 (.opt ((map nD (gA X a k))[0 + u7 ((↑(a + k):Int) + 1) * 1]?) (nD (getD (gA X a k) (0 + u7 ((↑(a + k):Int) + 1) * 1) ji)) (au _ _ (by ( have h9:=fY X a k; omega))) (.s 3 (.chk (true && decide ((↑(a + k):Int) < (N:Int))) dv (.s 2 (.opt ((map nD (gA X a k))[0 + (a + k) * 1]?) (nD (getD (gA X a k) (0 + (a + k) * 1) ji)) (au _ _ (by ( have h9:=fY X a k; omega))) (.s 1 (.chk (true && decide ((↑(a + k):Int) < (N:Int))) dv (.s 1 (.chk (true && L5 (0 + (a + k) * 1 + 1) (length (map nD (gA X a k)))) (by (simp;  have h9:=fY X a k; omega)) (.lst (aj (map nD (gA X a k)) (0 + (a + k) * 1) [zN (getD (gA X a k) (0 + u7 ((↑(a + k):Int) + 1) * 1) ji)]) (aj (map nD (gA X a k)) (a + k) [zN (getD (gA X a k) (u7 ((↑(a + k):Int) + 1)) ji)]) (by (simp; done)) (.s 1 (.chk (true && decide ((↑(a + k):Int) + 1 < (N:Int))) dv (.s 1 (.chk (true && L5 (0 + u7 ((↑(a + k):Int) + 1) * 1 + 1) (length (aj (map nD (gA X a k)) (a + k) [zN (getD (gA X a k) (u7 ((↑(a + k):Int) + 1)) ji)]))) (by ( have h9:=fY X a k; exact zX om om)) (.lst (aj (aj (map nD (gA X a k)) (a + k) [zN (getD (gA X a k) (u7 ((↑(a + k):Int) + 1)) ji)]) (0 + u7 ((↑(a + k):Int) + 1) * 1) [zN (getD (gA X a k) (0 + (a + k) * 1) ji)]) (aj (aj (map nD (gA X a k)) (a + k) [zN (getD (gA X a k) (u7 ((↑(a + k):Int) + 1)) ji)]) (u7 ((↑(a + k):Int) + 1)) [zN (getD (gA X a k) (a + k) ji)]) (by (simp; done)) (.s 3 (.ow ((↑(a + k):Int) + 1) (.s 1 (.val 13 (zI ((↑(a + k):Int) + 1)) (zN (a + (k + 1))) qy (.blk 0 0 (Blk.mk (aj (aj (map nD (gA X a k)) (a + k) [zN (getD (gA X a k) (u7 ((↑(a + k):Int) + 1)) ji)]) (u7 ((↑(a + k):Int) + 1)) [zN (getD (gA X a k) (a + k) ji)]) 3 true) (Blk.mk (map nD (gA X a (k + 1))) 3 true) (by ( have h9:=fY X a k; exact aC (Px (tV (i:=a + k) (j:=a + k + 1) om om om om om om) (by rw [CS])))) (Hn.next next1 ⟨(k + 1),om,⟨⟩⟩ (by show i - 1 - a - (k + 1) < i - 1 - a - k; clear next1 last1; omega) [(0,0),(1,1)] ro))))))))))))))))))))))))))))) (fun p2=>have p2f:=bb p2; (.blk 0 0 (Blk.mk (map nD (gA X a k)) 3 true) (Blk.mk (map nD (gA X a (i - 1 - a))) 3 true) (by ( rw [show k = i - 1 - a from by omega])) (Hn.last last1 0 (():Unit) rfl [(0,0),(1,1)] ro)))))))) (fun | ⟨k,hk,_⟩=>by kernel_rfl) ⟨(0),om,⟨⟩⟩ [(0,0),(1,1)] ro (bZ (fun | ()=>(.out [0,1] [0,1] (D.tup []) [Blk.mk (map nD (gA X a (i - 1 - a))) 3 true,Blk.mk [D.sl false L 1 (map nD W)] 152 false] R (ok _ _ wr wr))))))))))))))))) (by kernel_rfl)
theorem Kr (X:List Nat) (N:Nat) (hN:N = X.length) (hN2:N ≤ 1000) (W:List Nat) (L:Nat) (hL:L = W.length) (hA:bq L X) (a m b:Nat) (h1:a < m) (h2:m < b) (h3:b ≤ N) (hm:m ≠ a + 1) (hb:b = m + 1) (i:Nat) (hi:gf (qB W X m) (m - a) a m = i) (hi2:a ≤ i ∧ i ≤ m):SpecH true Tryz.prog 197 [.ref 0 0 0 N 1,nD a,nD m,nD b,.fn (.func 175) [] [.ptr 1 1 0]] [⟨X.map nD, 3, true⟩,⟨[.sl false L 1 (W.map nD)], 152, false⟩] (.tup []) [⟨(gB X m (m - i)).map nD, 3, true⟩,⟨[.sl false L 1 (W.map nD)], 152, false⟩]:=by
 refine SpecH.run T_ok ai Tryz.func197 rfl rfl rfl ⟨ly _,rfl,trivial⟩ rfl 1000 64 (fun R ok=>(.s 4 (.ow ((m:Int) - (a:Int)) (.s 2 (.f ((m:Int) - (a:Int) == 1) oJ (.s 4 (.ow ((b:Int) - (m:Int)) (.s 2 (.t ((b:Int) - (m:Int) == 1) dv (.s 4 (Hn.inl T_ok ai false 220 2 (ay Tryz.prog 197 2) (fun (x:(x:Nat) ×' (y:Nat) ×' (f:Nat) ×' (hx:a ≤ x ∧ x ≤ y ∧ y ≤ m) ×' (hf:y - x ≤ f) ×' (hR:gf (qB W X m) f x y = i) ×' Unit)=>match x with | ⟨x,y,f,hx,hf,hR,_⟩=>CutS.mk [(0,D.ref 0 0 0 N 1),(2,zN m),(4,D.fn (MG 175) [] [D.ptr 1 1 0]),(14,nD x),(15,nD y)] [⟨0,0,0,0,.b ⟨map nD X,3,true⟩⟩,⟨1,1,1,1,.b ⟨[D.sl false L 1 (map nD W)],152,false⟩⟩] 24) (fun (x:(x:Nat) ×' (y:Nat) ×' (f:Nat) ×' (hx:a ≤ x ∧ x ≤ y ∧ y ≤ m) ×' (hf:y - x ≤ f) ×' (hR:gf (qB W X m) f x y = i) ×' Unit)=>match x with | ⟨x,y,f,hx,hf,hR,_⟩=>y - x) [⟨Unit,.exit 4,fun x=>match x with | ()=>CutS.mk [(0,D.ref 0 0 0 N 1),(2,zN m),(4,D.fn (MG 175) [] [D.ptr 1 1 0]),(14,nD i),(15,nD i)] [⟨0,0,0,0,.b ⟨map nD X,3,true⟩⟩,⟨1,1,1,1,.b ⟨[D.sl false L 1 (map nD W)],152,false⟩⟩] 24⟩] 1000 64 (fun | ⟨x,y,f,hx,hf,hR,_⟩,Q,next1,last1=>(.s 4 (.br (decide ((x:Int) < (y:Int))) (fun p0=>have p0f:=ba p0; (.s 4 (.ow ((x:Int) + (y:Int)) (.s 1 (.opt (aw .u64 ((x:Int) + (y:Int))) (D.v (MS .u64 ((x:Int) + (y:Int)))) (bk om) (.s 2 (.opt (bi Nr (MK ((x:Int) + (y:Int)) 2)) (D.v (MS .u64 (((x:Int) + (y:Int)) / 2))) (aA (@fT  ((x:Int) + (y:Int)) (2) om)) (.s 1 (.ow (((x:Int) + (y:Int)) / 2) (.s 6 (.chk (true && decide ((m:Int) < (N:Int))) dv (.s 2 (.opt ((map nD X)[0 + m * 1]?) (nD (getD X (0 + m * 1) ji)) (au _ _ om) (.s 3 (.chk (true && decide (((x:Int) + (y:Int)) / 2 < (N:Int))) dv (.s 2 (.opt ((map nD X)[0 + u7 (((x:Int) + (y:Int)) / 2) * 1]?) (nD (getD X (0 + u7 (((x:Int) + (y:Int)) / 2) * 1) ji)) (au _ _ om) (.s 1 (.cl 175 true [1] (.fn wX (@qx (W) (L) om (getD X (0 + m * 1) ji) (getD X (0 + u7 (((x:Int) + (y:Int)) / 2) * 1) ji) (by ( exact hA.at om)) (by ( exact hA.at om)))) (.s 3 (.br (!decide (me (getD W (getD X (0 + m * 1) ji) ji) (getD W (getD X (0 + u7 (((x:Int) + (y:Int)) / 2) * 1) ji) ji) < 0)) (fun p1=>have p1f:=bb (fq p1); (.s 3 (.ow (((x:Int) + (y:Int)) / 2 + 1) (.s 1 (.val 14 (zI (((x:Int) + (y:Int)) / 2 + 1)) (zN ((x + y) / 2 + 1)) qy (Hn.next next1 ⟨((x + y) / 2 + 1),(y),(f - 1),om,om,(by ( exact Km (u:=0 + (((x:Int) + (y:Int)) / 2).toNat * 1) (v:=0 + m * 1) hR om om om om bz)),⟨⟩⟩ zY [(0,0),(1,1)] ro)))))) (fun p1=>have p1f:=ba (ft p1); (.s 2 (.val 15 (zI (((x:Int) + (y:Int)) / 2)) (zN ((x + y) / 2)) qy (Hn.next next1 ⟨(x),((x + y) / 2),(f - 1),om,om,(by ( exact Kn (u:=0 + (((x:Int) + (y:Int)) / 2).toNat * 1) (v:=0 + m * 1) hR om om om om bz)),⟨⟩⟩ zZ [(0,0),(1,1)] ro))))))))))))))))))))))))) (fun p0=>have p0f:=bb p0; (.val 14 (zN x) (zN i) (by ( rw [xA hR om])) (.val 15 (zN y) (zN i) z0 (Hn.last last1 0 (():Unit) rfl [(0,0),(1,1)] ro))))))) (fun | ⟨x,y,f,hx,hf,hR,_⟩=>by kernel_rfl) ⟨(a),(m),(m - a),om,om,om,⟨⟩⟩ [(0,0),(1,1)] ro (bZ (fun | ()=>(.s 2 (.val 17 (zN m) (zN (m - 0)) qy (.blk 0 0 (Blk.mk (map nD X) 3 true) (Blk.mk (map nD (gB X m 0)) 3 true) (by (rw [CQ]; done)) (Hn.inl T_ok ai false 220 2 (ay Tryz.prog 197 3) (fun (x:(k:Nat) ×' (hk:k ≤ m - i) ×' Unit)=>match x with | ⟨k,hk,_⟩=>CutS.mk [(0,D.ref 0 0 0 N 1),(14,zN i),(17,nD (m - k))] [⟨0,0,0,0,.b ⟨(gB X m k).map nD,3,true⟩⟩,⟨1,1,1,1,.b ⟨[D.sl false L 1 (map nD W)],152,false⟩⟩] 24) (fun (x:(k:Nat) ×' (hk:k ≤ m - i) ×' Unit)=>match x with | ⟨k,hk,_⟩=>m - i - k) [⟨Unit,.exit 6,fun x=>match x with | ()=>CutS.mk [(0,D.ref 0 0 0 N 1),(14,zN i)] [⟨0,0,0,0,.b ⟨(gB X m (m - i)).map nD,3,true⟩⟩,⟨1,1,1,1,.b ⟨[D.sl false L 1 (map nD W)],152,false⟩⟩] 24⟩] 1000 64 (fun | ⟨k,hk,_⟩,Q,next1,last1=>(.s 4 (.br (decide ((i:Int) < (↑(m - k):Int))) (fun p2=>have p2f:=ba p2; (.s 7 (.ow ((↑(m - k):Int) - 1) (.s 4 (.ow ((↑(m - k):Int) - 1) (.s 1 (.chk (decide (0 ≤ (↑(m - k):Int) - 1) && decide ((↑(m - k):Int) - 1 < (N:Int))) Aa (.s 2 (.opt ((map nD (gB X m k))[0 + u7 ((↑(m - k):Int) - 1) * 1]?) (nD (getD (gB X m k) (0 + u7 ((↑(m - k):Int) - 1) * 1) ji)) (au _ _ (by ( have h9:=fZ X m k; omega))) (.s 3 (.chk (true && decide ((↑(m - k):Int) < (N:Int))) dv (.s 2 (.opt ((map nD (gB X m k))[0 + (m - k) * 1]?) (nD (getD (gB X m k) (0 + (m - k) * 1) ji)) (au _ _ (by ( have h9:=fZ X m k; omega))) (.s 1 (.chk (true && decide ((↑(m - k):Int) < (N:Int))) dv (.s 1 (.chk (true && L5 (0 + (m - k) * 1 + 1) (length (map nD (gB X m k)))) (by (simp;  have h9:=fZ X m k; omega)) (.lst (aj (map nD (gB X m k)) (0 + (m - k) * 1) [zN (getD (gB X m k) (0 + u7 ((↑(m - k):Int) - 1) * 1) ji)]) (aj (map nD (gB X m k)) (m - k) [zN (getD (gB X m k) (u7 ((↑(m - k):Int) - 1)) ji)]) (by (simp; done)) (.s 1 (.chk (decide (0 ≤ (↑(m - k):Int) - 1) && decide ((↑(m - k):Int) - 1 < (N:Int))) Aa (.s 1 (.chk (true && L5 (0 + u7 ((↑(m - k):Int) - 1) * 1 + 1) (length (aj (map nD (gB X m k)) (m - k) [zN (getD (gB X m k) (u7 ((↑(m - k):Int) - 1)) ji)]))) (by ( have h9:=fZ X m k; exact zX om om)) (.lst (aj (aj (map nD (gB X m k)) (m - k) [zN (getD (gB X m k) (u7 ((↑(m - k):Int) - 1)) ji)]) (0 + u7 ((↑(m - k):Int) - 1) * 1) [zN (getD (gB X m k) (0 + (m - k) * 1) ji)]) (aj (aj (map nD (gB X m k)) (m - k) [zN (getD (gB X m k) (u7 ((↑(m - k):Int) - 1)) ji)]) (u7 ((↑(m - k):Int) - 1)) [zN (getD (gB X m k) (m - k) ji)]) (by (simp; done)) (.s 3 (.ow ((↑(m - k):Int) - 1) (.s 1 (.val 17 (zI ((↑(m - k):Int) - 1)) (zN (m - (k + 1))) qy (.blk 0 0 (Blk.mk (aj (aj (map nD (gB X m k)) (m - k) [zN (getD (gB X m k) (u7 ((↑(m - k):Int) - 1)) ji)]) (u7 ((↑(m - k):Int) - 1)) [zN (getD (gB X m k) (m - k) ji)]) 3 true) (Blk.mk (map nD (gB X m (k + 1))) 3 true) (by ( have h9:=fZ X m k; exact aC (Px (tV (i:=m - k) (j:=m - k - 1) om om om om om om) (by rw [CT])))) (Hn.next next1 ⟨(k + 1),om,⟨⟩⟩ (by show m - i - (k + 1) < m - i - k; clear next1 last1; omega) [(0,0),(1,1)] ro))))))))))))))))))))))))))))) (fun p2=>have p2f:=bb p2; (.blk 0 0 (Blk.mk (map nD (gB X m k)) 3 true) (Blk.mk (map nD (gB X m (m - i))) 3 true) (by ( rw [show k = m - i from by omega])) (Hn.last last1 0 (():Unit) rfl [(0,0),(1,1)] ro)))))) (fun | ⟨k,hk,_⟩=>by kernel_rfl) ⟨(0),om,⟨⟩⟩ [(0,0),(1,1)] ro (bZ (fun | ()=>(.out [0,1] [0,1] (D.tup []) [Blk.mk (map nD (gB X m (m - i))) 3 true,Blk.mk [D.sl false L 1 (map nD W)] 152 false] R (ok _ _ wr wr))))))))))))))))))))) (by kernel_rfl)
structure RtH (W:List Nat) (L N:Nat) (X:List Nat) (a m b:Nat) (X1:List Nat):Prop where
 h:∀ (Y:List Nat) (x y z:Int),Y = X → x = a → y = m → z = b → SpecH true Tryz.prog 200 [.ref 0 0 0 N 1,iD x,iD y,iD z,.fn (.func 175) [] [.ptr 1 1 0]] [⟨Y.map nD, 3, true⟩,⟨[.sl false L 1 (W.map nD)], 152, false⟩] (.tup []) [⟨X1.map nD, 3, true⟩,⟨[.sl false L 1 (W.map nD)], 152, false⟩]
structure SaH (W:List Nat) (L N:Nat) (X:List Nat) (a m b:Nat) (X1:List Nat):Prop where
 h:∀ (Y:List Nat) (x y z:Int),Y = X → x = a → y = m → z = b → SpecH true Tryz.prog 197 [.ref 0 0 0 N 1,iD x,iD y,iD z,.fn (.func 175) [] [.ptr 1 1 0]] [⟨Y.map nD, 3, true⟩,⟨[.sl false L 1 (W.map nD)], 152, false⟩] (.tup []) [⟨X1.map nD, 3, true⟩,⟨[.sl false L 1 (W.map nD)], 152, false⟩]
structure SbH (W:List Nat) (L N:Nat) (X:List Nat) (a m b:Nat) (X1:List Nat):Prop where
 h:∀ (Y:List Nat) (x y z:Int),Y = X → x = a → y = m → z = b → SpecH true Tryz.prog 197 [.ref 0 0 0 N 1,iD x,iD y,iD z,.fn (.func 175) [] [.ptr 1 1 0]] [⟨Y.map nD, 3, true⟩,⟨[.sl false L 1 (W.map nD)], 152, false⟩] (.tup []) [⟨X1.map nD, 3, true⟩,⟨[.sl false L 1 (W.map nD)], 152, false⟩]
structure SmE (W:List Nat) (L N:Nat) (X X1 X2 T:List Nat) (a m b mid q st en s0 r0:Nat):Prop where
 r:st < m → m < en → RtH W L N X st m en X1
 r0' : (st < m → m < en → False) → X = X1
 s:a < st → st < mid → SaH W L N X1 a st mid X2
 s0' : (a < st → st < mid → False) → X1 = X2
 t:mid < en → en < b → SbH W L N X2 mid en b T
 t0' : (mid < en → en < b → False) → X2 = T
 e3:mid < m → s0 = q - b ∧ r0 = mid
 e4:m ≤ mid → s0 = a ∧ r0 = m
section
variable {W:List Nat} {L N:Nat} {X X1 X2 T:List Nat} {a m b mid q st en s0 r0:Nat} (h:SmE W L N X X1 X2 T a m b mid q st en s0 r0)
include h
theorem SmE.rp (c1:st < m) (c2:m < en) (Y:List Nat) (x y z:Int) (hY:Y = X) (hx:x = st) (hy:y = m) (hz:z = en):SpecH true Tryz.prog 200 [.ref 0 0 0 N 1,iD x,iD y,iD z,.fn (.func 175) [] [.ptr 1 1 0]] [⟨Y.map nD, 3, true⟩,⟨[.sl false L 1 (W.map nD)], 152, false⟩] (.tup []) [⟨X1.map nD, 3, true⟩,⟨[.sl false L 1 (W.map nD)], 152, false⟩]:=(h.r c1 c2).h Y x y z hY hx hy hz
theorem SmE.sp (c1:a < st) (c2:st < mid) (Y:List Nat) (x y z:Int) (hY:Y = X1) (hx:x = a) (hy:y = st) (hz:z = mid):SpecH true Tryz.prog 197 [.ref 0 0 0 N 1,iD x,iD y,iD z,.fn (.func 175) [] [.ptr 1 1 0]] [⟨Y.map nD, 3, true⟩,⟨[.sl false L 1 (W.map nD)], 152, false⟩] (.tup []) [⟨X2.map nD, 3, true⟩,⟨[.sl false L 1 (W.map nD)], 152, false⟩]:=(h.s c1 c2).h Y x y z hY hx hy hz
theorem SmE.tp (c1:mid < en) (c2:en < b) (Y:List Nat) (x y z:Int) (hY:Y = X2) (hx:x = mid) (hy:y = en) (hz:z = b):SpecH true Tryz.prog 197 [.ref 0 0 0 N 1,iD x,iD y,iD z,.fn (.func 175) [] [.ptr 1 1 0]] [⟨Y.map nD, 3, true⟩,⟨[.sl false L 1 (W.map nD)], 152, false⟩] (.tup []) [⟨T.map nD, 3, true⟩,⟨[.sl false L 1 (W.map nD)], 152, false⟩]:=(h.t c1 c2).h Y x y z hY hx hy hz
end
theorem Ks (X:List Nat) (N:Nat) (hN:N = X.length) (hN2:N ≤ 1000) (W:List Nat) (L:Nat) (hL:L = W.length) (hA:bq L X) (a m b:Nat) (h1:a < m) (h2:m < b) (h3:b ≤ N) (hm:m ≠ a + 1) (hb:b ≠ m + 1) (X1 X2 T:List Nat) (mid q st en:Nat) (e1:mid = (a + b) / 2) (e2:q = mid + m) (s0 r0:Nat) (hs0:s0 ≤ r0 ∧ r0 ≤ m ∧ a ≤ s0 ∧ q ≤ s0 + b) (hi:gf (qC W X (q - 1)) (r0 - s0) s0 r0 = st) (hi2:s0 ≤ st ∧ st ≤ r0) (e5:en = q - st) (hE:SmE W L N X X1 X2 T a m b mid q st en s0 r0):SpecH true Tryz.prog 197 [.ref 0 0 0 N 1,nD a,nD m,nD b,.fn (.func 175) [] [.ptr 1 1 0]] [⟨X.map nD, 3, true⟩,⟨[.sl false L 1 (W.map nD)], 152, false⟩] (.tup []) [⟨(T).map nD, 3, true⟩,⟨[.sl false L 1 (W.map nD)], 152, false⟩]:=by
 refine SpecH.run T_ok ai Tryz.func197 rfl rfl rfl ⟨ly _,rfl,trivial⟩ rfl 1000 64 (fun R ok=>(.s 4 (.ow ((m:Int) - (a:Int)) (.s 2 (.f ((m:Int) - (a:Int) == 1) oJ (.s 4 (.ow ((b:Int) - (m:Int)) (.s 2 (.f ((b:Int) - (m:Int) == 1) oJ (.s 4 (.ow ((a:Int) + (b:Int)) (.s 1 (.opt (aw .u64 ((a:Int) + (b:Int))) (D.v (MS .u64 ((a:Int) + (b:Int)))) (bk om) (.s 2 (.opt (bi Nr (MK ((a:Int) + (b:Int)) 2)) (D.v (MS .u64 (((a:Int) + (b:Int)) / 2))) (aA (@fT  ((a:Int) + (b:Int)) (2) om)) (.s 1 (.ow (((a:Int) + (b:Int)) / 2) (.s 5 (.ow (((a:Int) + (b:Int)) / 2 + (m:Int)) (.s 7 (.br (decide (((a:Int) + (b:Int)) / 2 < (m:Int))) (fun p0=>have p0f:=ba p0; (.s 4 (.ow (((a:Int) + (b:Int)) / 2 + (m:Int) - (b:Int)) (.s 6 (.ow (((a:Int) + (b:Int)) / 2 + (m:Int) - 1) (.s 1 (.val 20 (zI (((a:Int) + (b:Int)) / 2 + (m:Int) - (b:Int))) (zN s0) Ab (.val 21 (zI (((a:Int) + (b:Int)) / 2)) (zN r0) Ab (Hn.inl T_ok ai false 220 2 (ay Tryz.prog 197 4) (fun (x:(x:Nat) ×' (y:Nat) ×' (f:Nat) ×' (hx:s0 ≤ x ∧ x ≤ y ∧ y ≤ r0) ×' (hf:y - x ≤ f) ×' (hR:gf (qC W X (q - 1)) f x y = st) ×' Unit)=>match x with | ⟨x,y,f,hx,hf,hR,_⟩=>CutS.mk [(0,D.ref 0 0 0 N 1),(1,zN a),(2,zN m),(3,zN b),(4,D.fn (MG 175) [] [D.ptr 1 1 0]),(18,zI (((a:Int) + (b:Int)) / 2)),(19,zI (((a:Int) + (b:Int)) / 2 + (m:Int))),(20,nD x),(21,nD y),(22,zI (((a:Int) + (b:Int)) / 2 + (m:Int) - 1))] [⟨0,0,0,0,.b ⟨map nD X,3,true⟩⟩,⟨1,1,1,1,.b ⟨[D.sl false L 1 (map nD W)],152,false⟩⟩] 24) (fun (x:(x:Nat) ×' (y:Nat) ×' (f:Nat) ×' (hx:s0 ≤ x ∧ x ≤ y ∧ y ≤ r0) ×' (hf:y - x ≤ f) ×' (hR:gf (qC W X (q - 1)) f x y = st) ×' Unit)=>match x with | ⟨x,y,f,hx,hf,hR,_⟩=>y - x) [⟨Unit,.exit 8,fun x=>match x with | ()=>CutS.mk [(0,D.ref 0 0 0 N 1),(1,zN a),(2,zN m),(3,zN b),(4,D.fn (MG 175) [] [D.ptr 1 1 0]),(18,zI (((a:Int) + (b:Int)) / 2)),(19,zI (((a:Int) + (b:Int)) / 2 + (m:Int))),(20,nD st),(21,nD st),(22,zI (((a:Int) + (b:Int)) / 2 + (m:Int) - 1))] [⟨0,0,0,0,.b ⟨map nD X,3,true⟩⟩,⟨1,1,1,1,.b ⟨[D.sl false L 1 (map nD W)],152,false⟩⟩] 24⟩] 1000 64 (fun | ⟨x,y,f,hx,hf,hR,_⟩,Q,next1,last1=>(.s 4 (.br (decide ((x:Int) < (y:Int))) (fun p1=>have p1f:=ba p1; (.s 4 (.ow ((x:Int) + (y:Int)) (.s 1 (.opt (aw .u64 ((x:Int) + (y:Int))) (D.v (MS .u64 ((x:Int) + (y:Int)))) (bk om) (.s 2 (.opt (bi Nr (MK ((x:Int) + (y:Int)) 2)) (D.v (MS .u64 (((x:Int) + (y:Int)) / 2))) (aA (@fT  ((x:Int) + (y:Int)) (2) om)) (.s 1 (.ow (((x:Int) + (y:Int)) / 2) (.s 8 (.ow (((a:Int) + (b:Int)) / 2 + (m:Int) - 1 - ((x:Int) + (y:Int)) / 2) (.s 1 (.chk (decide (0 ≤ ((a:Int) + (b:Int)) / 2 + (m:Int) - 1 - ((x:Int) + (y:Int)) / 2) && decide (((a:Int) + (b:Int)) / 2 + (m:Int) - 1 - ((x:Int) + (y:Int)) / 2 < (N:Int))) Aa (.s 2 (.opt ((map nD X)[0 + u7 (((a:Int) + (b:Int)) / 2 + (m:Int) - 1 - ((x:Int) + (y:Int)) / 2) * 1]?) (nD (getD X (0 + u7 (((a:Int) + (b:Int)) / 2 + (m:Int) - 1 - ((x:Int) + (y:Int)) / 2) * 1) ji)) (au _ _ om) (.s 3 (.chk (true && decide (((x:Int) + (y:Int)) / 2 < (N:Int))) dv (.s 2 (.opt ((map nD X)[0 + u7 (((x:Int) + (y:Int)) / 2) * 1]?) (nD (getD X (0 + u7 (((x:Int) + (y:Int)) / 2) * 1) ji)) (au _ _ om) (.s 1 (.cl 175 true [1] (.fn wX (@qx (W) (L) om (getD X (0 + u7 (((a:Int) + (b:Int)) / 2 + (m:Int) - 1 - ((x:Int) + (y:Int)) / 2) * 1) ji) (getD X (0 + u7 (((x:Int) + (y:Int)) / 2) * 1) ji) (by ( exact hA.at om)) (by ( exact hA.at om)))) (.s 3 (.br (!decide (me (getD W (getD X (0 + u7 (((a:Int) + (b:Int)) / 2 + (m:Int) - 1 - ((x:Int) + (y:Int)) / 2) * 1) ji) ji) (getD W (getD X (0 + u7 (((x:Int) + (y:Int)) / 2) * 1) ji) ji) < 0)) (fun p2=>have p2f:=bb (fq p2); (.s 3 (.ow (((x:Int) + (y:Int)) / 2 + 1) (.s 1 (.val 20 (zI (((x:Int) + (y:Int)) / 2 + 1)) (zN ((x + y) / 2 + 1)) Ab (Hn.next next1 ⟨((x + y) / 2 + 1),(y),(f - 1),om,om,CM,⟨⟩⟩ zY [(0,0),(1,1)] ro)))))) (fun p2=>have p2f:=ba (ft p2); (.s 2 (.val 21 (zI (((x:Int) + (y:Int)) / 2)) (zN ((x + y) / 2)) Ab (Hn.next next1 ⟨(x),((x + y) / 2),(f - 1),om,om,CN,⟨⟩⟩ zZ [(0,0),(1,1)] ro))))))))))))))))))))))))))) (fun p1=>have p1f:=bb p1; (.val 20 (zN x) (zN st) (by ( rw [xA hR om])) (.val 21 (zN y) (zN st) z0 (Hn.last last1 0 (():Unit) rfl [(0,0),(1,1)] ro))))))) (fun | ⟨x,y,f,hx,hf,hR,_⟩=>by kernel_rfl) ⟨(s0),(r0),(r0 - s0),om,om,om,⟨⟩⟩ [(0,0),(1,1)] ro (bZ (fun | ()=>(.s 4 (.ow (((a:Int) + (b:Int)) / 2 + (m:Int) - (st:Int)) (.s 7 (.br (decide ((st:Int) < (m:Int))) (fun p3=>have p3f:=ba p3; (.s 6 (.br (decide ((m:Int) < ((a:Int) + (b:Int)) / 2 + (m:Int) - (st:Int))) (fun p4=>have p4f:=ba p4; (.s 6 (.call 200 true [0,1] (true) wr ([D.ref 0 0 0 N 1,zN st,zN m,zI (((a:Int) + (b:Int)) / 2 + (m:Int) - (st:Int)),D.fn (MG 175) [] [D.ptr 1 1 0]]) _ (bX.refl _) (ab (map nD X) && true) (by (simp; done)) _ _ _ (CallOk.fn (ax.of Tryz.func200 rfl rfl) (@SmE.rp (W) (L) (N) (X) (X1) (X2) (T) (a) (m) (b) (mid) (q) (st) (en) (s0) (r0) bz om om (X) ((st:Int)) ((m:Int)) (((a:Int) + (b:Int)) / 2 + (m:Int) - (st:Int)) wr om om om)) (.s 6 (.br (decide ((a:Int) < (st:Int))) (fun p5=>have p5f:=ba p5; (.s 6 (.t (decide ((st:Int) < ((a:Int) + (b:Int)) / 2)) dv (.s 6 (.call 197 true [0,1] (true) wr ([D.ref 0 0 0 N 1,zN a,zN st,zI (((a:Int) + (b:Int)) / 2),D.fn (MG 175) [] [D.ptr 1 1 0]]) _ (bX.refl _) (ab (map nD X1) && true) (by (simp; done)) _ _ _ (CallOk.fn (ax.of Tryz.func197 rfl rfl) (@SmE.sp (W) (L) (N) (X) (X1) (X2) (T) (a) (m) (b) (mid) (q) (st) (en) (s0) (r0) bz om om (X1) ((a:Int)) ((st:Int)) (((a:Int) + (b:Int)) / 2) wr om om om)) (.s 6 (.t (decide (((a:Int) + (b:Int)) / 2 < ((a:Int) + (b:Int)) / 2 + (m:Int) - (st:Int))) dv (.s 6 (.br (decide (((a:Int) + (b:Int)) / 2 + (m:Int) - (st:Int) < (b:Int))) (fun p6=>have p6f:=ba p6; (.s 6 (.call 197 true [0,1] (true) wr ([D.ref 0 0 0 N 1,zI (((a:Int) + (b:Int)) / 2),zI (((a:Int) + (b:Int)) / 2 + (m:Int) - (st:Int)),zN b,D.fn (MG 175) [] [D.ptr 1 1 0]]) _ (bX.refl _) (ab (map nD X2) && true) (by (simp; done)) _ _ _ (CallOk.fn (ax.of Tryz.func197 rfl rfl) (@SmE.tp (W) (L) (N) (X) (X1) (X2) (T) (a) (m) (b) (mid) (q) (st) (en) (s0) (r0) bz om om (X2) (((a:Int) + (b:Int)) / 2) (((a:Int) + (b:Int)) / 2 + (m:Int) - (st:Int)) ((b:Int)) wr om om om)) (.out [0,1] [0,1] (D.tup []) [Blk.mk (map nD T) 3 true,Blk.mk [D.sl false L 1 (map nD W)] 152 false] R (ok _ _ wr wr))))) (fun p6=>have p6f:=bb p6; (.out [0,1] [0,1] (D.tup []) [Blk.mk (map nD X2) 3 true,Blk.mk [D.sl false L 1 (map nD W)] 152 false] R (ok _ _ wr (by ( rw [hE.t0' om])))))))))))))) (fun p5=>have p5f:=bb p5; (.s 12 (.t (decide (((a:Int) + (b:Int)) / 2 < ((a:Int) + (b:Int)) / 2 + (m:Int) - (st:Int))) dv (.s 6 (.f (decide (((a:Int) + (b:Int)) / 2 + (m:Int) - (st:Int) < (b:Int))) oJ (.out [0,1] [0,1] (D.tup []) [Blk.mk (map nD X1) 3 true,Blk.mk [D.sl false L 1 (map nD W)] 152 false] R (ok _ _ wr (by ( rw [hE.s0' om,hE.t0' om])))))))))))))) (fun p4=>have p4f:=bb p4; (.s 6 (.t (decide ((a:Int) < (st:Int))) dv (.s 6 (.f (decide ((st:Int) < ((a:Int) + (b:Int)) / 2)) oJ (.s 6 (.t (decide (((a:Int) + (b:Int)) / 2 < ((a:Int) + (b:Int)) / 2 + (m:Int) - (st:Int))) dv (.s 6 (.t (decide (((a:Int) + (b:Int)) / 2 + (m:Int) - (st:Int) < (b:Int))) dv (.s 6 (.call 197 true [0,1] (true) wr ([D.ref 0 0 0 N 1,zI (((a:Int) + (b:Int)) / 2),zI (((a:Int) + (b:Int)) / 2 + (m:Int) - (st:Int)),zN b,D.fn (MG 175) [] [D.ptr 1 1 0]]) _ (bX.refl _) (ab (map nD X) && true) (by (simp; done)) _ _ _ (CallOk.fn (ax.of Tryz.func197 rfl rfl) (@SmE.tp (W) (L) (N) (X) (X1) (X2) (T) (a) (m) (b) (mid) (q) (st) (en) (s0) (r0) bz om om (X) (((a:Int) + (b:Int)) / 2) (((a:Int) + (b:Int)) / 2 + (m:Int) - (st:Int)) ((b:Int)) (by ( exact (hE.r0' om).trans (hE.s0' om))) om om om)) (.out [0,1] [0,1] (D.tup []) [Blk.mk (map nD T) 3 true,Blk.mk [D.sl false L 1 (map nD W)] 152 false] R (ok _ _ wr wr)))))))))))))))) (fun p3=>have p3f:=bb p3; (.s 12 (.t (decide ((a:Int) < (st:Int))) dv (.s 6 (.f (decide ((st:Int) < ((a:Int) + (b:Int)) / 2)) oJ (.s 6 (.f (decide (((a:Int) + (b:Int)) / 2 < ((a:Int) + (b:Int)) / 2 + (m:Int) - (st:Int))) oJ (.s 6 (.out [0,1] [0,1] (D.tup []) [Blk.mk (map nD X) 3 true,Blk.mk [D.sl false L 1 (map nD W)] 152 false] R (ok _ _ wr (by ( rw [hE.r0' om,hE.s0' om,hE.t0' om]))))))))))))))))))))))))))) (fun p0=>have p0f:=bb p0; (.s 7 (.ow (((a:Int) + (b:Int)) / 2 + (m:Int) - 1) (.s 1 (.val 20 (zN a) (zN s0) Ac (.val 21 (zN m) (zN r0) Ac (Hn.inl T_ok ai false 220 2 (ay Tryz.prog 197 4) (fun (x:(x:Nat) ×' (y:Nat) ×' (f:Nat) ×' (hx:s0 ≤ x ∧ x ≤ y ∧ y ≤ r0) ×' (hf:y - x ≤ f) ×' (hR:gf (qC W X (q - 1)) f x y = st) ×' Unit)=>match x with | ⟨x,y,f,hx,hf,hR,_⟩=>CutS.mk [(0,D.ref 0 0 0 N 1),(1,zN a),(2,zN m),(3,zN b),(4,D.fn (MG 175) [] [D.ptr 1 1 0]),(18,zI (((a:Int) + (b:Int)) / 2)),(19,zI (((a:Int) + (b:Int)) / 2 + (m:Int))),(20,nD x),(21,nD y),(22,zI (((a:Int) + (b:Int)) / 2 + (m:Int) - 1))] [⟨0,0,0,0,.b ⟨map nD X,3,true⟩⟩,⟨1,1,1,1,.b ⟨[D.sl false L 1 (map nD W)],152,false⟩⟩] 24) (fun (x:(x:Nat) ×' (y:Nat) ×' (f:Nat) ×' (hx:s0 ≤ x ∧ x ≤ y ∧ y ≤ r0) ×' (hf:y - x ≤ f) ×' (hR:gf (qC W X (q - 1)) f x y = st) ×' Unit)=>match x with | ⟨x,y,f,hx,hf,hR,_⟩=>y - x) [⟨Unit,.exit 8,fun x=>match x with | ()=>CutS.mk [(0,D.ref 0 0 0 N 1),(1,zN a),(2,zN m),(3,zN b),(4,D.fn (MG 175) [] [D.ptr 1 1 0]),(18,zI (((a:Int) + (b:Int)) / 2)),(19,zI (((a:Int) + (b:Int)) / 2 + (m:Int))),(20,nD st),(21,nD st),(22,zI (((a:Int) + (b:Int)) / 2 + (m:Int) - 1))] [⟨0,0,0,0,.b ⟨map nD X,3,true⟩⟩,⟨1,1,1,1,.b ⟨[D.sl false L 1 (map nD W)],152,false⟩⟩] 24⟩] 1000 64 (fun | ⟨x,y,f,hx,hf,hR,_⟩,Q,next1,last1=>(.s 4 (.br (decide ((x:Int) < (y:Int))) (fun p7=>have p7f:=ba p7; (.s 4 (.ow ((x:Int) + (y:Int)) (.s 1 (.opt (aw .u64 ((x:Int) + (y:Int))) (D.v (MS .u64 ((x:Int) + (y:Int)))) (bk om) (.s 2 (.opt (bi Nr (MK ((x:Int) + (y:Int)) 2)) (D.v (MS .u64 (((x:Int) + (y:Int)) / 2))) (aA (@fT  ((x:Int) + (y:Int)) (2) om)) (.s 1 (.ow (((x:Int) + (y:Int)) / 2) (.s 8 (.ow (((a:Int) + (b:Int)) / 2 + (m:Int) - 1 - ((x:Int) + (y:Int)) / 2) (.s 1 (.chk (decide (0 ≤ ((a:Int) + (b:Int)) / 2 + (m:Int) - 1 - ((x:Int) + (y:Int)) / 2) && decide (((a:Int) + (b:Int)) / 2 + (m:Int) - 1 - ((x:Int) + (y:Int)) / 2 < (N:Int))) Aa (.s 2 (.opt ((map nD X)[0 + u7 (((a:Int) + (b:Int)) / 2 + (m:Int) - 1 - ((x:Int) + (y:Int)) / 2) * 1]?) (nD (getD X (0 + u7 (((a:Int) + (b:Int)) / 2 + (m:Int) - 1 - ((x:Int) + (y:Int)) / 2) * 1) ji)) (au _ _ om) (.s 3 (.chk (true && decide (((x:Int) + (y:Int)) / 2 < (N:Int))) dv (.s 2 (.opt ((map nD X)[0 + u7 (((x:Int) + (y:Int)) / 2) * 1]?) (nD (getD X (0 + u7 (((x:Int) + (y:Int)) / 2) * 1) ji)) (au _ _ om) (.s 1 (.cl 175 true [1] (.fn wX (@qx (W) (L) om (getD X (0 + u7 (((a:Int) + (b:Int)) / 2 + (m:Int) - 1 - ((x:Int) + (y:Int)) / 2) * 1) ji) (getD X (0 + u7 (((x:Int) + (y:Int)) / 2) * 1) ji) (by ( exact hA.at om)) (by ( exact hA.at om)))) (.s 3 (.br (!decide (me (getD W (getD X (0 + u7 (((a:Int) + (b:Int)) / 2 + (m:Int) - 1 - ((x:Int) + (y:Int)) / 2) * 1) ji) ji) (getD W (getD X (0 + u7 (((x:Int) + (y:Int)) / 2) * 1) ji) ji) < 0)) (fun p8=>have p8f:=bb (fq p8); (.s 3 (.ow (((x:Int) + (y:Int)) / 2 + 1) (.s 1 (.val 20 (zI (((x:Int) + (y:Int)) / 2 + 1)) (zN ((x + y) / 2 + 1)) Ac (Hn.next next1 ⟨((x + y) / 2 + 1),(y),(f - 1),om,om,CM,⟨⟩⟩ zY [(0,0),(1,1)] ro)))))) (fun p8=>have p8f:=ba (ft p8); (.s 2 (.val 21 (zI (((x:Int) + (y:Int)) / 2)) (zN ((x + y) / 2)) Ac (Hn.next next1 ⟨(x),((x + y) / 2),(f - 1),om,om,CN,⟨⟩⟩ zZ [(0,0),(1,1)] ro))))))))))))))))))))))))))) (fun p7=>have p7f:=bb p7; (.val 20 (zN x) (zN st) (by ( rw [xA hR om])) (.val 21 (zN y) (zN st) z0 (Hn.last last1 0 (():Unit) rfl [(0,0),(1,1)] ro))))))) (fun | ⟨x,y,f,hx,hf,hR,_⟩=>by kernel_rfl) ⟨(s0),(r0),(r0 - s0),om,om,om,⟨⟩⟩ [(0,0),(1,1)] ro (bZ (fun | ()=>(.s 4 (.ow (((a:Int) + (b:Int)) / 2 + (m:Int) - (st:Int)) (.s 7 (.br (decide ((st:Int) < (m:Int))) (fun p9=>have p9f:=ba p9; (.s 6 (.t (decide ((m:Int) < ((a:Int) + (b:Int)) / 2 + (m:Int) - (st:Int))) dv (.s 6 (.call 200 true [0,1] (true) wr ([D.ref 0 0 0 N 1,zN st,zN m,zI (((a:Int) + (b:Int)) / 2 + (m:Int) - (st:Int)),D.fn (MG 175) [] [D.ptr 1 1 0]]) _ (bX.refl _) (ab (map nD X) && true) (by (simp; done)) _ _ _ (CallOk.fn (ax.of Tryz.func200 rfl rfl) (@SmE.rp (W) (L) (N) (X) (X1) (X2) (T) (a) (m) (b) (mid) (q) (st) (en) (s0) (r0) bz om om (X) ((st:Int)) ((m:Int)) (((a:Int) + (b:Int)) / 2 + (m:Int) - (st:Int)) wr om om om)) (.s 6 (.br (decide ((a:Int) < (st:Int))) (fun p10=>have p10f:=ba p10; (.s 6 (.t (decide ((st:Int) < ((a:Int) + (b:Int)) / 2)) dv (.s 6 (.call 197 true [0,1] (true) wr ([D.ref 0 0 0 N 1,zN a,zN st,zI (((a:Int) + (b:Int)) / 2),D.fn (MG 175) [] [D.ptr 1 1 0]]) _ (bX.refl _) (ab (map nD X1) && true) (by (simp; done)) _ _ _ (CallOk.fn (ax.of Tryz.func197 rfl rfl) (@SmE.sp (W) (L) (N) (X) (X1) (X2) (T) (a) (m) (b) (mid) (q) (st) (en) (s0) (r0) bz om om (X1) ((a:Int)) ((st:Int)) (((a:Int) + (b:Int)) / 2) wr om om om)) (.s 6 (.t (decide (((a:Int) + (b:Int)) / 2 < ((a:Int) + (b:Int)) / 2 + (m:Int) - (st:Int))) dv (.s 6 (.t (decide (((a:Int) + (b:Int)) / 2 + (m:Int) - (st:Int) < (b:Int))) dv (.s 6 (.call 197 true [0,1] (true) wr ([D.ref 0 0 0 N 1,zI (((a:Int) + (b:Int)) / 2),zI (((a:Int) + (b:Int)) / 2 + (m:Int) - (st:Int)),zN b,D.fn (MG 175) [] [D.ptr 1 1 0]]) _ (bX.refl _) (ab (map nD X2) && true) (by (simp; done)) _ _ _ (CallOk.fn (ax.of Tryz.func197 rfl rfl) (@SmE.tp (W) (L) (N) (X) (X1) (X2) (T) (a) (m) (b) (mid) (q) (st) (en) (s0) (r0) bz om om (X2) (((a:Int) + (b:Int)) / 2) (((a:Int) + (b:Int)) / 2 + (m:Int) - (st:Int)) ((b:Int)) wr om om om)) (.out [0,1] [0,1] (D.tup []) [Blk.mk (map nD T) 3 true,Blk.mk [D.sl false L 1 (map nD W)] 152 false] R (ok _ _ wr wr))))))))))))) (fun p10=>have p10f:=bb p10; (.s 12 (.t (decide (((a:Int) + (b:Int)) / 2 < ((a:Int) + (b:Int)) / 2 + (m:Int) - (st:Int))) dv (.s 6 (.br (decide (((a:Int) + (b:Int)) / 2 + (m:Int) - (st:Int) < (b:Int))) (fun p11=>have p11f:=ba p11; (.s 6 (.call 197 true [0,1] (true) wr ([D.ref 0 0 0 N 1,zI (((a:Int) + (b:Int)) / 2),zI (((a:Int) + (b:Int)) / 2 + (m:Int) - (st:Int)),zN b,D.fn (MG 175) [] [D.ptr 1 1 0]]) _ (bX.refl _) (ab (map nD X1) && true) (by (simp; done)) _ _ _ (CallOk.fn (ax.of Tryz.func197 rfl rfl) (@SmE.tp (W) (L) (N) (X) (X1) (X2) (T) (a) (m) (b) (mid) (q) (st) (en) (s0) (r0) bz om om (X1) (((a:Int) + (b:Int)) / 2) (((a:Int) + (b:Int)) / 2 + (m:Int) - (st:Int)) ((b:Int)) (by ( exact hE.s0' om)) om om om)) (.out [0,1] [0,1] (D.tup []) [Blk.mk (map nD T) 3 true,Blk.mk [D.sl false L 1 (map nD W)] 152 false] R (ok _ _ wr wr))))) (fun p11=>have p11f:=bb p11; (.out [0,1] [0,1] (D.tup []) [Blk.mk (map nD X1) 3 true,Blk.mk [D.sl false L 1 (map nD W)] 152 false] R (ok _ _ wr (by ( rw [hE.s0' om,hE.t0' om]))))))))))))))))) (fun p9=>have p9f:=bb p9; (.s 12 (.t (decide ((a:Int) < (st:Int))) dv (.s 6 (.br (decide ((st:Int) < ((a:Int) + (b:Int)) / 2)) (fun p12=>have p12f:=ba p12; (.s 6 (.call 197 true [0,1] (true) wr ([D.ref 0 0 0 N 1,zN a,zN st,zI (((a:Int) + (b:Int)) / 2),D.fn (MG 175) [] [D.ptr 1 1 0]]) _ (bX.refl _) (ab (map nD X) && true) (by (simp; done)) _ _ _ (CallOk.fn (ax.of Tryz.func197 rfl rfl) (@SmE.sp (W) (L) (N) (X) (X1) (X2) (T) (a) (m) (b) (mid) (q) (st) (en) (s0) (r0) bz om om (X) ((a:Int)) ((st:Int)) (((a:Int) + (b:Int)) / 2) (by ( exact hE.r0' om)) om om om)) (.s 6 (.f (decide (((a:Int) + (b:Int)) / 2 < ((a:Int) + (b:Int)) / 2 + (m:Int) - (st:Int))) oJ (.s 6 (.out [0,1] [0,1] (D.tup []) [Blk.mk (map nD X2) 3 true,Blk.mk [D.sl false L 1 (map nD W)] 152 false] R (ok _ _ wr (by ( rw [hE.t0' om])))))))))) (fun p12=>have p12f:=bb p12; (.s 6 (.f (decide (((a:Int) + (b:Int)) / 2 < ((a:Int) + (b:Int)) / 2 + (m:Int) - (st:Int))) oJ (.s 6 (.out [0,1] [0,1] (D.tup []) [Blk.mk (map nD X) 3 true,Blk.mk [D.sl false L 1 (map nD W)] 152 false] R (ok _ _ wr (by ( rw [hE.r0' om,hE.s0' om,hE.t0' om]))))))))))))))))))))))))))))))))))))))))))))))) (by kernel_rfl)
end Vp
end Go.Proofs.YtefjnofhgkjpmaaGreat
namespace Go.Proofs.YtefjnofhgkjpmaaGreat
open Go.RowKit Go.Bw Go.Vx
namespace Vp
theorem iR {X:List Nat} {i j:Nat} (hi:i < X.length) (hj:j < X.length):(swp X i j).Perm X:=by
 rw [List.perm_iff_count]
 intro c
 have e1:X.getD i ji = X[i]:=by rw [List.getD_eq_getElem?_getD,List.getElem?_eq_getElem hi]; rfl
 have e2:X.getD j ji = X[j]:=by rw [List.getD_eq_getElem?_getD,List.getElem?_eq_getElem hj]; rfl
 rw [oG,e1,e2,List.count_set (by rw [N1]; exact hj),List.count_set hi,List.getElem_set]
 have h1:(X[i] == c) = true → 1 ≤ X.count c:=fun q=>by
  rw [List.one_le_count_iff,← eq_of_beq q]; exact ML hi
 have h3:(if i = j then X[j] else X[j]) = X[j]:=by split <;> rfl
 rw [h3]
 cases q1:(X[i] == c) <;> cases q2:(X[j] == c) <;> simp <;> (try have:=h1 q1) <;> omega
theorem iS {X:List Nat} {a b:Nat}:∀ k,a + k ≤ X.length → b + k ≤ X.length → (dG X a b k).Perm X
 | 0,_,_=>by rw [CG]
 | k + 1,h1,h2=>by
  rw [← CH]
  exact (iR (by rw [dh]; omega) (by rw [dh]; omega)).trans (iS k (by omega) (by omega))
theorem jr {m:Nat}:∀ (f i j:Nat) (X:List Nat),1 ≤ i → 1 ≤ j → i ≤ m → m + j ≤ X.length → i + j ≤ f → (gd m f i j X).Perm X
 | 0,i,j,X,h1,h2,h3,h4,h5=>by omega
 | f + 1,i,j,X,h1,h2,h3,h4,h5=>by
  rw [gd]; split
  ·exact iS i (by omega) (by omega)
  ·split
   ·exact (jr f (i - j) j _ (by omega) h2 (by omega) (by rw [dh]; omega) (by omega)).trans (iS j (by omega) (by omega))
   ·exact (jr f i (j - i) _ h1 (by omega) h3 (by rw [dh]; omega) (by omega)).trans (iS i (by omega) (by omega))
theorem vl {X:List Nat} {a m b:Nat} (h1:a < m) (h2:m < b) (h3:b ≤ X.length):(xx X a m b).Perm X:=by
 rw [tX]; exact jr _ _ _ _ (by omega) (by omega) (by omega) (by omega) (by omega)
theorem qz {W:List Nat} {a:Nat}:∀ (j:Nat) (X:List Nat),j < X.length → (inI W a j X).Perm X
 | 0,_,_=>NX _
 | j + 1,X,h=>by
  rw [inI]; split
  ·exact (qz j _ (by rw [fX]; omega)).trans (iR h (by omega))
  ·exact NX _
theorem gC {W X:List Nat} {a:Nat}:∀ (k:Nat),a + k < X.length ∨ k = 0 → (inQ W X a k).Perm X
 | 0,_=>by rw [xy]
 | k + 1,h=>by
  rw [← xz]
  exact (qz _ _ (by rw [iQ]; omega)).trans (gC k (by omega))
theorem qD {X:List Nat} {a:Nat}:∀ (k:Nat),a + k < X.length ∨ k = 0 → (gA X a k).Perm X
 | 0,_=>by rw [CP]
 | k + 1,h=>by
  rw [← CS]
  exact (iR (by rw [fY]; omega) (by rw [fY]; omega)).trans (qD k (by omega))
theorem qE {X:List Nat} {m:Nat} (hm:m < X.length):∀ (k:Nat),(gB X m k).Perm X
 | 0=>by rw [CQ]
 | k + 1=>by
  rw [← CT]
  exact (iR (by rw [fZ]; omega) (by rw [fZ]; omega)).trans (qE hm k)
theorem bq.perm {L:Nat} {X Y:List Nat} (h:bq L X) (hp:Y.Perm X):bq L Y:=fun x hx=>h x (hp.mem_iff.1 hx)
def iT (a m b:Nat):Nat:=if (a + b) / 2 < m then (a + b) / 2 + m - b else a
def js (a m b:Nat):Nat:=if (a + b) / 2 < m then (a + b) / 2 else m
def dE (W X:List Nat) (a m b:Nat):Nat:=gf (qC W X ((a + b) / 2 + m - 1)) (js a m b - iT a m b) (iT a m b) (js a m b)
def fx (X:List Nat) (m st en:Nat):List Nat:=if st < m ∧ m < en then xx X st m en else X
def jV (W:List Nat):Nat → List Nat → Nat → Nat → Nat → List Nat
 | 0,X,_,_,_=>X
 | f + 1,X,a,m,b =>
  if m = a + 1 then gA X a (gf (qA W X a) (b - m) m b - 1 - a)
  else if b = m + 1 then gB X m (m - gf (qB W X m) (m - a) a m)
  else
   (fun st=>(fun en=>(fun X1=>(fun X2=>if (a + b) / 2 < en ∧ en < b then jV W f X2 ((a + b) / 2) en b else X2)
    (if a < st ∧ st < (a + b) / 2 then jV W f X1 a st ((a + b) / 2) else X1)) (fx X m st en)) ((a + b) / 2 + m - st)) (dE W X a m b)
theorem xB {a m b:Nat} (h1:a < m) (h2:m < b):iT a m b ≤ js a m b ∧ js a m b ≤ m ∧ a ≤ iT a m b ∧ (a + b) / 2 + m ≤ iT a m b + b:=by
 unfold iT js; split <;> omega
theorem nv {X:List Nat} {m st en:Nat} (h:en ≤ X.length):(fx X m st en).Perm X:=by
 unfold fx; split
 ·next q=>exact vl q.1 q.2 h
 ·exact NX _
theorem eh {W:List Nat}:∀ (f:Nat) (X:List Nat) (a m b:Nat),a < m → m < b → b ≤ X.length → (jV W f X a m b).Perm X
 | 0,_,_,_,_,_,_,_=>NX _
 | f + 1,X,a,m,b,h1,h2,h3=>by
  rw [jV]
  split
  ·have:=lN (p:=qA W X a) (b - m) m b (by omega)
   exact qD _ (by omega)
  ·split
   ·exact qE (by omega) _
   ·have hs:=xB h1 h2
    have hi:=lN (p:=qC W X ((a + b) / 2 + m - 1)) (js a m b - iT a m b) (iT a m b) (js a m b) hs.1
    show List.Perm (if (a + b) / 2 < (a + b) / 2 + m - dE W X a m b ∧ _ then _ else _) X
    generalize hst:dE W X a m b = st at *
    have hst2:iT a m b ≤ st ∧ st ≤ js a m b:=by rw [← hst]; exact hi
    have q1:(fx X m st ((a + b) / 2 + m - st)).Perm X:=nv (by omega)
    have l1:=q1.length_eq
    have q2:(if a < st ∧ st < (a + b) / 2 then jV W f (fx X m st ((a + b) / 2 + m - st)) a st ((a + b) / 2) else fx X m st ((a + b) / 2 + m - st)).Perm X:=by
     split
     ·next q=>exact (eh f _ _ _ _ q.1 q.2 (by omega)).trans q1
     ·exact q1
    have l2:=q2.length_eq
    generalize (if a < st ∧ st < (a + b) / 2 then jV W f (fx X m st ((a + b) / 2 + m - st)) a st ((a + b) / 2) else fx X m st ((a + b) / 2 + m - st)) = X2 at *
    split
    ·next q=>exact (eh f _ _ _ _ q.1 q.2 (by omega)).trans q2
    ·exact q2
theorem EM (X:List Nat) (N:Nat) (hN:N = X.length) (hN2:N ≤ 1000) (W:List Nat) (L:Nat) (hL:L = W.length) {a m b:Nat} (h1:a < m) (h2:m < b) (h3:b ≤ N):RtH W L N X a m b (xx X a m b):=⟨fun Y x y z hY hx hy hz=>by
 subst hY hx hy hz
 exact HX Y N hN hN2 W L hL a m b h1 h2 h3 _ rfl⟩
theorem t7 (W:List Nat) (L:Nat) (hL:L = W.length) (N:Nat) (hN2:N ≤ 1000):∀ (f:Nat) (X:List Nat),N = X.length → bq L X → ∀ (a m b:Nat),a < m → m < b → b ≤ N → b - a ≤ f → SpecH true Tryz.prog 197 [.ref 0 0 0 N 1,nD a,nD m,nD b,.fn (.func 175) [] [.ptr 1 1 0]] [⟨X.map nD, 3, true⟩,⟨[.sl false L 1 (W.map nD)], 152, false⟩] (.tup []) [⟨(jV W f X a m b).map nD, 3, true⟩,⟨[.sl false L 1 (W.map nD)], 152, false⟩]
 | 0,X,hN,hA,a,m,b,h1,h2,h3,hf=>by omega
 | f + 1,X,hN,hA,a,m,b,h1,h2,h3,hf=>by
  rw [jV]
  by_cases c1:m = a + 1
  ·rw [if_pos c1]
   exact Kq X N hN hN2 W L hL hA a m b h1 h2 h3 c1 _ rfl (lN _ _ _ (by omega))
  ·rw [if_neg c1]
   by_cases c2:b = m + 1
   ·rw [if_pos c2]
    exact Kr X N hN hN2 W L hL hA a m b h1 h2 h3 c1 c2 _ rfl (lN _ _ _ (by omega))
   ·rw [if_neg c2]
    have hs:=xB h1 h2
    have hi:iT a m b ≤ dE W X a m b ∧ dE W X a m b ≤ js a m b:=lN _ _ _ hs.1
    have q1:(fx X m (dE W X a m b) ((a + b) / 2 + m - dE W X a m b)).Perm X:=nv (by omega)
    refine Ks X N hN hN2 W L hL hA a m b h1 h2 h3 c1 c2 (fx X m (dE W X a m b) ((a + b) / 2 + m - dE W X a m b)) (if a < dE W X a m b ∧ dE W X a m b < (a + b) / 2 then jV W f (fx X m (dE W X a m b) ((a + b) / 2 + m - dE W X a m b)) a (dE W X a m b) ((a + b) / 2) else fx X m (dE W X a m b) ((a + b) / 2 + m - dE W X a m b)) _ ((a + b) / 2) ((a + b) / 2 + m) (dE W X a m b) ((a + b) / 2 + m - dE W X a m b) rfl rfl (iT a m b) (js a m b) ⟨hs.1,hs.2.1,hs.2.2.1,hs.2.2.2⟩ rfl hi rfl ?_
    have q2:(if a < dE W X a m b ∧ dE W X a m b < (a + b) / 2 then jV W f (fx X m (dE W X a m b) ((a + b) / 2 + m - dE W X a m b)) a (dE W X a m b) ((a + b) / 2) else fx X m (dE W X a m b) ((a + b) / 2 + m - dE W X a m b)).Perm X:=by
     split
     ·next q=>exact (eh f _ _ _ _ q.1 q.2 (by rw [q1.length_eq]; omega)).trans q1
     ·exact q1
    have e3:(a + b) / 2 < m → iT a m b = (a + b) / 2 + m - b ∧ js a m b = (a + b) / 2:=fun q=>⟨if_pos q,if_pos q⟩
    have e4:m ≤ (a + b) / 2 → iT a m b = a ∧ js a m b = m:=fun q=>⟨if_neg (by omega),if_neg (by omega)⟩
    generalize dE W X a m b = st at *
    generalize iT a m b = s0 at *
    generalize js a m b = r0 at *
    refine ⟨fun a1 a2=>?_,fun a1=>?_,fun a1 a2=>?_,fun a1=>?_,fun a1 a2=>?_,fun a1=>?_,e3,e4⟩
    ·unfold fx; rw [if_pos ⟨a1,a2⟩]; exact EM X N hN hN2 W L hL a1 a2 (by omega)
    ·unfold fx; rw [if_neg (fun q=>a1 q.1 q.2)]
    ·rw [if_pos ⟨a1,a2⟩]
     refine ⟨fun Y x y z hY hx hy hz=>?_⟩
     subst hY hx hy hz
     exact t7 W L hL N hN2 f _ (by rw [q1.length_eq]; exact hN) (hA.perm q1) _ _ _ a1 a2 (by omega) (by omega)
    ·rw [if_neg (fun q=>a1 q.1 q.2)]
    ·dsimp only
     generalize (if a < st ∧ st < (a + b) / 2 then jV W f (fx X m st ((a + b) / 2 + m - st)) a st ((a + b) / 2) else fx X m st ((a + b) / 2 + m - st)) = X2 at *
     rw [if_pos ⟨a1,a2⟩]
     refine ⟨fun Y x y z hY hx hy hz=>?_⟩
     subst hY hx hy hz
     exact t7 W L hL N hN2 f _ (by rw [q2.length_eq]; exact hN) (hA.perm q2) _ _ _ a1 a2 (by omega) (by omega)
    ·dsimp only
     generalize (if a < st ∧ st < (a + b) / 2 then jV W f (fx X m st ((a + b) / 2 + m - st)) a st ((a + b) / 2) else fx X m st ((a + b) / 2 + m - st)) = X2 at *
     rw [if_neg (fun q=>a1 q.1 q.2)]
end Vp
end Go.Proofs.YtefjnofhgkjpmaaGreat
namespace Go.Proofs.YtefjnofhgkjpmaaGreat
open Go.RowKit Go.Bw Go.Vx
open List (length getD map take drop flatMap replicate)
namespace Vp
theorem xE {p:Prop} (h:p:=by (refine aO ?_; (omega))):p:=h
def vD (W:List Nat) (n:Nat):Nat → Nat → List Nat → List Nat
 | 0,a,Y=>inQ W Y a (n - (a + 1))
 | f + 1,a,Y=>if a + 20 ≤ n then vD W n f (a + 20) (inQ W Y a 19) else inQ W Y a (n - (a + 1))
theorem Kt {W:List Nat} {n f a:Nat} {Y T:List Nat} (hR:vD W n f a Y = T) (hf:n - a ≤ f) (h:a + 20 ≤ n):vD W n (f - 1) (a + 20) (inQ W Y a (a + 20 - (a + 1))) = T:=by
 obtain ⟨g,rfl⟩:∃ g,f = g + 1:=⟨f - 1,by omega⟩
 rw [← hR,show a + 20 - (a + 1) = 19 from by omega]; exact (if_pos h).symm
theorem Ku {W:List Nat} {n f a:Nat} {Y T:List Nat} (hR:vD W n f a Y = T) (h:¬ a + 20 ≤ n):inQ W Y a (n - (a + 1)) = T:=by
 rw [← hR]; cases f with
 | zero=>rfl
 | succ f=>exact (if_neg h).symm
def oN (W:List Nat) (z n:Nat):Nat → Nat → List Nat → List Nat
 | 0,a,Y=>if a + z < n then jV W (2 * z) Y a (a + z) n else Y
 | f + 1,a,Y=>if a + 2 * z ≤ n then oN W z n f (a + 2 * z) (jV W (2 * z) Y a (a + z) (a + 2 * z)) else if a + z < n then jV W (2 * z) Y a (a + z) n else Y
theorem Kv {W:List Nat} {z n f a:Nat} {Y T:List Nat} (hR:oN W z n f a Y = T) (hf:n - a ≤ f) (hz:0 < z) (h:a + 2 * z ≤ n):oN W z n (f - 1) (a + 2 * z) (jV W (2 * z) Y a (a + z) (a + 2 * z)) = T:=by
 obtain ⟨g,rfl⟩:∃ g,f = g + 1:=⟨f - 1,by omega⟩
 rw [← hR]; exact (if_pos h).symm
theorem Kw {W:List Nat} {z n f a:Nat} {Y T:List Nat} (hR:oN W z n f a Y = T) (h:¬ a + 2 * z ≤ n):(if a + z < n then jV W (2 * z) Y a (a + z) n else Y) = T:=by
 rw [← hR]; cases f with
 | zero=>rfl
 | succ f=>exact (if_neg h).symm
def vE (W:List Nat) (n:Nat):Nat → Nat → List Nat → List Nat
 | 0,_,Y=>Y
 | f + 1,z,Y=>if z < n then vE W n f (2 * z) (oN W z n n 0 Y) else Y
theorem H8 {W:List Nat} {z n f:Nat} {Y T:List Nat} (hR:vE W n f z Y = T) (hf:n - z ≤ f) (h:z < n):vE W n (f - 1) (2 * z) (oN W z n n 0 Y) = T:=by
 obtain ⟨g,rfl⟩:∃ g,f = g + 1:=⟨f - 1,by omega⟩
 rw [← hR]; exact (if_pos h).symm
theorem Kx {W:List Nat} {z n f:Nat} {Y T:List Nat} (hR:vE W n f z Y = T) (h:¬ z < n):Y = T:=by
 rw [← hR]; cases f with
 | zero=>rfl
 | succ f=>exact (if_neg h).symm
def Ky (W X:List Nat):List Nat:=vE W X.length X.length 20 (vD W X.length X.length 0 X)
theorem lP {W:List Nat} {n:Nat}:∀ (f a:Nat) (Y:List Nat),n = Y.length → a ≤ n → (vD W n f a Y).Perm Y
 | 0,a,Y,hn,ha=>gC _ (by omega)
 | f + 1,a,Y,hn,ha=>by
  rw [vD]; split
  ·have q:(inQ W Y a 19).Perm Y:=gC _ (by omega)
   exact (lP f _ _ (by rw [q.length_eq]; exact hn) (by omega)).trans q
  ·exact gC _ (by omega)
theorem iU {W:List Nat} {z n:Nat} (hz:0 < z):∀ (f a:Nat) (Y:List Nat),n = Y.length → (oN W z n f a Y).Perm Y
 | 0,a,Y,hn=>by
  rw [oN]; split
  ·exact eh _ _ _ _ _ (by omega) (by omega) (by omega)
  ·exact NX _
 | f + 1,a,Y,hn=>by
  rw [oN]; split
  ·have q:(jV W (2 * z) Y a (a + z) (a + 2 * z)).Perm Y:=eh _ _ _ _ _ (by omega) (by omega) (by omega)
   exact (iU hz f _ _ (by rw [q.length_eq]; exact hn)).trans q
  ·split
   ·exact eh _ _ _ _ _ (by omega) (by omega) (by omega)
   ·exact NX _
theorem qF {W:List Nat} {n:Nat}:∀ (f z:Nat) (Y:List Nat),0 < z → n = Y.length → (vE W n f z Y).Perm Y
 | 0,z,Y,hz,hn=>NX _
 | f + 1,z,Y,hz,hn=>by
  rw [vE]; split
  ·have q:=iU (W:=W) hz n 0 Y hn
   exact (qF f _ _ (by omega) (by rw [q.length_eq]; exact hn)).trans q
  ·exact NX _
theorem xF (W X:List Nat):(Ky W X).Perm X:=by
 have q:=lP (W:=W) X.length 0 X rfl (MP _)
 exact (qF _ _ _ (by decide) q.length_eq.symm).trans q
structure Ord (L N:Nat) (Y:List Nat):Prop where
 n:N = Y.length
 a:bq L Y
theorem Ord.perm {L N:Nat} {X Y:List Nat} (h:Ord L N X) (q:Y.Perm X):Ord L N Y:=⟨by rw [q.length_eq]; exact h.n,h.a.perm q⟩
theorem Ord.in {L N:Nat} {W Y:List Nat} {a b:Nat} (h:Ord L N Y) (hb:b ≤ N):Ord L N (inQ W Y a (b - (a + 1))):=h.perm (gC _ (by have:=h.n; omega))
theorem Ord.sm {L N:Nat} {W Y:List Nat} {f a m b:Nat} (h:Ord L N Y) (h1:a < m) (h2:m < b) (hb:b ≤ N):Ord L N (jV W f Y a m b):=h.perm (eh _ _ _ _ _ h1 h2 (by have:=h.n; omega))
theorem CU (Y:List Nat) (N:Nat) (hN2:N ≤ 1000) (W:List Nat) (L:Nat) (hL:L = W.length) (hO:Ord L N Y) (a b:Nat) (h1:a ≤ b) (h3:b ≤ N):SpecH true Tryz.prog 196 [.ref 0 0 0 N 1,nD a,nD b,.fn (.func 175) [] [.ptr 1 1 0]] [⟨Y.map nD, 3, true⟩,⟨[.sl false L 1 (W.map nD)], 152, false⟩] (.tup []) [⟨(inQ W Y a (b - (a + 1))).map nD, 3, true⟩,⟨[.sl false L 1 (W.map nD)], 152, false⟩]:=HY Y N hO.n hN2 W L hL hO.a a b h1 h3 _ rfl
theorem H9 (Y:List Nat) (N:Nat) (hN2:N ≤ 1000) (W:List Nat) (L:Nat) (hL:L = W.length) (hO:Ord L N Y) (z a:Nat) (hz:0 < z) (h3:a + 2 * z ≤ N):SpecH true Tryz.prog 197 [.ref 0 0 0 N 1,nD a,iD ((a:Int) + z),nD (a + 2 * z),.fn (.func 175) [] [.ptr 1 1 0]] [⟨Y.map nD, 3, true⟩,⟨[.sl false L 1 (W.map nD)], 152, false⟩] (.tup []) [⟨(jV W (2 * z) Y a (a + z) (a + 2 * z)).map nD, 3, true⟩,⟨[.sl false L 1 (W.map nD)], 152, false⟩] :=
 t7 W L hL N hN2 (2 * z) Y hO.n hO.a a (a + z) (a + 2 * z) (by omega) (by omega) h3 (by omega)
theorem Ia (Y:List Nat) (N:Nat) (hN2:N ≤ 1000) (W:List Nat) (L:Nat) (hL:L = W.length) (hO:Ord L N Y) (z a:Nat) (hz:0 < z) (h:a + z < N) (h3:N < a + 2 * z):SpecH true Tryz.prog 197 [.ref 0 0 0 N 1,nD a,iD ((a:Int) + z),nD N,.fn (.func 175) [] [.ptr 1 1 0]] [⟨Y.map nD, 3, true⟩,⟨[.sl false L 1 (W.map nD)], 152, false⟩] (.tup []) [⟨(jV W (2 * z) Y a (a + z) N).map nD, 3, true⟩,⟨[.sl false L 1 (W.map nD)], 152, false⟩] :=
 t7 W L hL N hN2 (2 * z) Y hO.n hO.a a (a + z) N (by omega) h (Mh _) (by omega)
theorem Ib (X:List Nat) (N:Nat) (hN2:N ≤ 1000) (W:List Nat) (L:Nat) (hL:L = W.length) (hO:Ord L N X) (T1 T:List Nat) (hT1:vD W N N 0 X = T1) (hO1:Ord L N T1) (hT:vE W N N 20 T1 = T):SpecH true Tryz.prog 190 [.ref 0 0 0 N 1,nD N,.fn (.func 175) [] [.ptr 1 1 0]] [⟨X.map nD, 3, true⟩,⟨[.sl false L 1 (W.map nD)], 152, false⟩] (.tup []) [⟨T.map nD, 3, true⟩,⟨[.sl false L 1 (W.map nD)], 152, false⟩]:=by
 refine SpecH.run T_ok ai Tryz.func190 rfl rfl rfl ⟨ly _,rfl,trivial⟩ rfl 1000 64 (fun R ok=>(.s 4 (Hn.inl T_ok ai false 63 2 (ay Tryz.prog 190 0) (fun (x:(a:Nat) ×' (Y:List Nat) ×' (f:Nat) ×' (ha:a ≤ N) ×' (hQ:Ord L N Y) ×' (hf:N - a ≤ f) ×' (hR:vD W N f a Y = T1) ×' Unit)=>match x with | ⟨a,Y,f,ha,hQ,hf,hR,_⟩=>CutS.mk [(0,D.ref 0 0 0 N 1),(1,zN N),(2,D.fn (MG 175) [] [D.ptr 1 1 0]),(6,zI 20),(7,nD a),(8,nD (a + 20))] [⟨0,0,0,0,.b ⟨Y.map nD,3,true⟩⟩,⟨1,1,1,1,.b ⟨[D.sl false L 1 (map nD W)],152,false⟩⟩] 24) (fun (x:(a:Nat) ×' (Y:List Nat) ×' (f:Nat) ×' (ha:a ≤ N) ×' (hQ:Ord L N Y) ×' (hf:N - a ≤ f) ×' (hR:vD W N f a Y = T1) ×' Unit)=>match x with | ⟨a,Y,f,ha,hQ,hf,hR,_⟩=>N - a) [⟨(a2:Nat) ×' (Y2:List Nat) ×' (ha2:a2 ≤ N) ×' (hQ2:Ord L N Y2) ×' (hR2:inQ W Y2 a2 (N - (a2 + 1)) = T1) ×' Unit,.exit 0,fun x=>match x with | ⟨a2,Y2,ha2,hQ2,hR2,_⟩=>CutS.mk [(0,D.ref 0 0 0 N 1),(1,zN N),(2,D.fn (MG 175) [] [D.ptr 1 1 0]),(6,zI 20),(7,nD a2),(8,nD (a2 + 20))] [⟨0,0,0,0,.b ⟨Y2.map nD,3,true⟩⟩,⟨1,1,1,1,.b ⟨[D.sl false L 1 (map nD W)],152,false⟩⟩] 24⟩] 1000 64 (fun | ⟨a,Y,f,ha,hQ,hf,hR,_⟩,Q,next1,last1=>(.s 4 (.br (decide ((↑(a + 20):Int) ≤ (N:Int))) (fun p0=>have p0f:=ba p0; (.s 5 (.call 196 true [0,1] (true) wr ([D.ref 0 0 0 N 1,zN a,zN (a + 20),D.fn (MG 175) [] [D.ptr 1 1 0]]) _ (bX.refl _) (ab (map nD Y) && true) (by (simp; done)) _ _ _ (CallOk.fn (ax.of Tryz.func196 rfl rfl) (@CU (Y) (N) om (W) (L) om om (a) (a + 20) om om)) (.s 6 (.ow ((↑(a + 20):Int) + 20) (.s 1 (.val 8 (zI ((↑(a + 20):Int) + 20)) (zN (a + 20 + 20)) xE (Hn.next next1 ⟨(a + 20),(inQ W Y a (a + 20 - (a + 1))),(f - 1),om,(by (exact hQ.in (by (omega)))),om,(by ( exact Kt hR om om)),⟨⟩⟩ (by show N - (a + 20) < N - a; clear next1 last1; omega) [(0,0),(1,1)] ro)))))))) (fun p0=>have p0f:=bb p0; (Hn.last last1 0 (⟨(a),(Y),om,om,(by ( exact Ku hR om)),⟨⟩⟩:(a2:Nat) ×' (Y2:List Nat) ×' (ha2:a2 ≤ N) ×' (hQ2:Ord L N Y2) ×' (hR2:inQ W Y2 a2 (N - (a2 + 1)) = T1) ×' Unit) rfl [(0,0),(1,1)] ro))))) (fun | ⟨a,Y,f,ha,hQ,hf,hR,_⟩=>by kernel_rfl) ⟨(0),(X),(N),om,om,om,om,⟨⟩⟩ [(0,0),(1,1)] ro (bZ (fun | ⟨a2,Y2,ha2,hQ2,hR2,_⟩=>(.s 5 (.call 196 true [0,1] (true) wr ([D.ref 0 0 0 N 1,zN a2,zN N,D.fn (MG 175) [] [D.ptr 1 1 0]]) _ (bX.refl _) (ab (map nD Y2) && true) (by (simp; done)) _ _ _ (CallOk.fn (ax.of Tryz.func196 rfl rfl) (@CU (Y2) (N) om (W) (L) om om (a2) (N) om om)) (.blk 0 0 (Blk.mk (map nD (inQ W Y2 a2 (N - (a2 + 1)))) 3 true) (Blk.mk (map nD T1) 3 true) (by (rw [hR2])) (Hn.inl T_ok ai false 63 2 (ay Tryz.prog 190 1) (fun (x:(z:Nat) ×' (Z:List Nat) ×' (f:Nat) ×' (hz:20 ≤ z ∧ z ≤ 2000) ×' (hQ:Ord L N Z) ×' (hf:N - z ≤ f) ×' (hR:vE W N f z Z = T) ×' Unit)=>match x with | ⟨z,Z,f,hz,hQ,hf,hR,_⟩=>CutS.mk [(0,D.ref 0 0 0 N 1),(1,zN N),(2,D.fn (MG 175) [] [D.ptr 1 1 0]),(6,nD z)] [⟨0,0,0,0,.b ⟨Z.map nD,3,true⟩⟩,⟨1,1,1,1,.b ⟨[D.sl false L 1 (map nD W)],152,false⟩⟩] 24) (fun (x:(z:Nat) ×' (Z:List Nat) ×' (f:Nat) ×' (hz:20 ≤ z ∧ z ≤ 2000) ×' (hQ:Ord L N Z) ×' (hf:N - z ≤ f) ×' (hR:vE W N f z Z = T) ×' Unit)=>match x with | ⟨z,Z,f,hz,hQ,hf,hR,_⟩=>N - z) [⟨Unit,.exit 2,fun x=>match x with | ()=>CutS.mk [(0,D.ref 0 0 0 N 1),(1,zN N),(2,D.fn (MG 175) [] [D.ptr 1 1 0])] [⟨0,0,0,0,.b ⟨T.map nD,3,true⟩⟩,⟨1,1,1,1,.b ⟨[D.sl false L 1 (map nD W)],152,false⟩⟩] 24⟩] 1000 64 (fun | ⟨z,Z,f,hz,hQ,hf,hR,_⟩,Q,next1,last1=>(.s 4 (.br (decide ((z:Int) < (N:Int))) (fun p1=>have p1f:=ba p1; (.s 3 (.ow (2 * (z:Int)) (.s 2 (.val 8 (zI (2 * (z:Int))) (zN (0 + 2 * z)) xE (Hn.inl T_ok ai false 63 2 (ay Tryz.prog 190 2) (fun (x:(a:Nat) ×' (Y:List Nat) ×' (g:Nat) ×' (ha:a ≤ N) ×' (hQ:Ord L N Y) ×' (hf:N - a ≤ g) ×' (hR:oN W z N g a Y = oN W z N N 0 Z) ×' Unit)=>match x with | ⟨a,Y,g,ha,hQ,hf,hR,_⟩=>CutS.mk [(0,D.ref 0 0 0 N 1),(1,zN N),(2,D.fn (MG 175) [] [D.ptr 1 1 0]),(6,zN z),(7,nD a),(8,nD (a + 2 * z))] [⟨0,0,0,0,.b ⟨Y.map nD,3,true⟩⟩,⟨1,1,1,1,.b ⟨[D.sl false L 1 (map nD W)],152,false⟩⟩] 24) (fun (x:(a:Nat) ×' (Y:List Nat) ×' (g:Nat) ×' (ha:a ≤ N) ×' (hQ:Ord L N Y) ×' (hf:N - a ≤ g) ×' (hR:oN W z N g a Y = oN W z N N 0 Z) ×' Unit)=>match x with | ⟨a,Y,g,ha,hQ,hf,hR,_⟩=>N - a) [⟨(a3:Nat) ×' (Y3:List Nat) ×' (ha3:a3 ≤ N ∧ N < a3 + 2 * z) ×' (hQ3:Ord L N Y3) ×' (hR3:(if a3 + z < N then jV W (2 * z) Y3 a3 (a3 + z) N else Y3) = oN W z N N 0 Z) ×' Unit,.exit 4,fun x=>match x with | ⟨a3,Y3,ha3,hQ3,hR3,_⟩=>CutS.mk [(0,D.ref 0 0 0 N 1),(1,zN N),(2,D.fn (MG 175) [] [D.ptr 1 1 0]),(6,zN z),(7,nD a3),(8,nD (a3 + 2 * z))] [⟨0,0,0,0,.b ⟨Y3.map nD,3,true⟩⟩,⟨1,1,1,1,.b ⟨[D.sl false L 1 (map nD W)],152,false⟩⟩] 24⟩] 1000 64 (fun | ⟨a,Y,g,ha,hQ,hf,hR,_⟩,Q,next2,last2=>(.s 4 (.br (decide ((↑(a + 2 * z):Int) ≤ (N:Int))) (fun p2=>have p2f:=ba p2; (.s 6 (.ow ((a:Int) + (z:Int)) (.s 3 (.call 197 true [0,1] (true) wr ([D.ref 0 0 0 N 1,zN a,zI ((a:Int) + (z:Int)),zN (a + 2 * z),D.fn (MG 175) [] [D.ptr 1 1 0]]) _ (bX.refl _) (ab (map nD Y) && true) (by (simp; done)) _ _ _ (CallOk.fn (ax.of Tryz.func197 rfl rfl) (@H9 (Y) (N) om (W) (L) om om (z) (a) om om)) (.s 6 (.ow (2 * (z:Int)) (.s 2 (.ow ((↑(a + 2 * z):Int) + 2 * (z:Int)) (.s 1 (.val 8 (zI ((↑(a + 2 * z):Int) + 2 * (z:Int))) (zN (a + 2 * z + 2 * z)) xE (Hn.next next2 ⟨(a + 2 * z),(jV W (2 * z) Y a (a + z) (a + 2 * z)),(g - 1),om,(by (exact hQ.sm (by (omega)) (by (omega)) (by (omega)))),om,(by ( exact Kv hR om om om)),⟨⟩⟩ (by show N - (a + 2 * z) < N - a; clear next2 last2 next1 last1; omega) [(0,0),(1,1)] ro)))))))))))) (fun p2=>have p2f:=bb p2; (Hn.last last2 0 (⟨(a),(Y),om,om,(by ( exact Kw hR om)),⟨⟩⟩:(a3:Nat) ×' (Y3:List Nat) ×' (ha3:a3 ≤ N ∧ N < a3 + 2 * z) ×' (hQ3:Ord L N Y3) ×' (hR3:(if a3 + z < N then jV W (2 * z) Y3 a3 (a3 + z) N else Y3) = oN W z N N 0 Z) ×' Unit) rfl [(0,0),(1,1)] ro))))) (fun | ⟨a,Y,g,ha,hQ,hf,hR,_⟩=>by kernel_rfl) ⟨(0),(Z),(N),om,om,om,wr,⟨⟩⟩ [(0,0),(1,1)] ro (bZ (fun | ⟨a3,Y3,ha3,hQ3,hR3,_⟩=>(.s 4 (.ow ((a3:Int) + (z:Int)) (.s 5 (.br (decide ((a3:Int) + (z:Int) < (N:Int))) (fun p3=>have p3f:=ba p3; (.s 6 (.call 197 true [0,1] (true) wr ([D.ref 0 0 0 N 1,zN a3,zI ((a3:Int) + (z:Int)),zN N,D.fn (MG 175) [] [D.ptr 1 1 0]]) _ (bX.refl _) (ab (map nD Y3) && true) (by (simp; done)) _ _ _ (CallOk.fn (ax.of Tryz.func197 rfl rfl) (@Ia (Y3) (N) om (W) (L) om om (z) (a3) om om om)) (.s 3 (.ow ((z:Int) * 2) (.s 1 (.val 6 (zI ((z:Int) * 2)) (zN (2 * z)) xE (.blk 0 0 (Blk.mk (map nD (jV W (2 * z) Y3 a3 (a3 + z) N)) 3 true) (Blk.mk (map nD (oN W z N N 0 Z)) 3 true) (by ( rw [if_pos om] at hR3; rw [hR3])) (Hn.next next1 ⟨(2 * z),(oN W z N N 0 Z),(f - 1),om,(by ( exact hQ.perm (iU om _ _ _ hQ.n))),om,(by ( exact H8 hR om om)),⟨⟩⟩ (by show N - 2 * z < N - z; clear next1 last1; omega) [(0,0),(1,1)] ro))))))))) (fun p3=>have p3f:=bb p3; (.s 3 (.ow ((z:Int) * 2) (.s 1 (.val 6 (zI ((z:Int) * 2)) (zN (2 * z)) xE (.blk 0 0 (Blk.mk (map nD Y3) 3 true) (Blk.mk (map nD (oN W z N N 0 Z)) 3 true) (by ( rw [if_neg om] at hR3; rw [hR3])) (Hn.next next1 ⟨(2 * z),(oN W z N N 0 Z),(f - 1),om,(by ( exact hQ.perm (iU om _ _ _ hQ.n))),om,(by ( exact H8 hR om om)),⟨⟩⟩ (by show N - 2 * z < N - z; clear next1 last1; omega) [(0,0),(1,1)] ro))))))))))))))))))) (fun p1=>have p1f:=bb p1; (.blk 0 0 (Blk.mk (map nD Z) 3 true) (Blk.mk (map nD T) 3 true) (by ( rw [Kx hR om])) (Hn.last last1 0 (():Unit) rfl [(0,0),(1,1)] ro)))))) (fun | ⟨z,Z,f,hz,hQ,hf,hR,_⟩=>by kernel_rfl) ⟨(20),(T1),(N),om,om,om,om,⟨⟩⟩ [(0,0),(1,1)] ro (bZ (fun | ()=>(.out [0,1] [0,1] (D.tup []) [Blk.mk (map nD T) 3 true,Blk.mk [D.sl false L 1 (map nD W)] 152 false] R (ok _ _ wr wr))))))))))))) (by kernel_rfl)
end Vp
end Go.Proofs.YtefjnofhgkjpmaaGreat
namespace Go.Proofs.YtefjnofhgkjpmaaGreat
open Go.RowKit Go.Bw Go.Vx
open List (length getD map take drop flatMap replicate)
namespace Vp
theorem ss {p:Prop} (h:p:=by ((refine aI ?_ ?_) <;> (repeat' (first | (refine aI ?_ ?_) | (with_reducible rfl) | (refine decide_eq_true ?_) | (refine L9 ?_) | (refine er ?_))) <;> (omega))):p:=h
theorem xG {p:Prop} (h:p:=by (simp only [bl (k:=2) (fun (x:Pc)=>(rfl:(ct x).length = 2)),M5,Mr,Mv]; refine L9 ?_; (omega))):p:=h
theorem xH {p:Prop} (h:p:=by (rw [L6]; rfl)):p:=h
theorem xI {p:Prop} (h:p:=by (rw [L6]; simp only [MN]; (omega))):p:=h
theorem Ad {p:Prop} (h:p:=by (refine decide_eq_false ?_; (omega))):p:=h
theorem Ae {p:Prop} (h:p:=by (refine aO ?_; (omega))):p:=h
theorem Af {p:Prop} (h:p:=by ( have q:=@KK row i; refine aO ?_; omega)):p:=h
def et (W:List Nat) (k:Nat):List Nat:=lk W ((MQ k).filter fun i=>decide (0 < W.getD i ji))
theorem eZ (W:List Nat) (k:Nat):et W k = (MQ k).filter fun i=>decide (0 < W.getD i ji):=aG _ _
theorem CV (W:List Nat):et W 0 = []:=eZ W 0
theorem CW {W:List Nat} {k:Nat} (h:0 < W.getD (k * 1) ji):et W (k + 1) = et W k ++ [k]:=by
 rw [My] at h
 rw [eZ,eZ,Og,M7,NA (by simpa using h)]; rfl
theorem CX {W:List Nat} {k:Nat} (h:¬ 0 < W.getD (k * 1) ji):et W (k + 1) = et W k:=by
 rw [My] at h
 rw [eZ,eZ,Og,M7,NB (by simpa using h),P8,MU]
theorem il (W:List Nat) (k:Nat):(et W k).length ≤ k:=by
 rw [eZ]; exact L8 (OI _ _) (by simp)
theorem oO {W:List Nat} {k:Nat}:bq k (et W k):=fun x hx=>by
 rw [eZ,Oy] at hx
 exact List.mem_range.1 hx.1
def eP (W:List Nat):List Nat:=lk W (Ky W (et W W.length))
theorem xJ (W:List Nat):eP W = Ky W (et W W.length):=aG _ _
theorem dF (W:List Nat):(eP W).Perm (et W W.length):=by rw [xJ]; exact xF _ _
structure SrE (W:List Nat) (L N:Nat) (X T1 T:List Nat):Prop where
 o:Ord L N X
 t1:vD W N N 0 X = T1
 o1:Ord L N T1
 t:vE W N N 20 T1 = T
theorem EN {W:List Nat} {L N:Nat} (hL:L = W.length) {X:List Nat} (hX:X = et W L) (hN:N = X.length):∃ T1,SrE W L N X T1 (eP W):=by
 subst hX hN hL
 have o:Ord W.length (et W W.length).length (et W W.length):=⟨rfl,oO⟩
 exact ⟨_,o,rfl,o.perm (lP _ _ _ rfl (MP _)),by rw [xJ]; rfl⟩
theorem Kz {m:Nat} (h:m ≤ 15):IntKind.i64.wrap (2 ^ min m 64 * 1) = ((2 ^ m:Nat):Int):=by
 have h2:2 ^ m ≤ 2 ^ 15:=MV (by decide) h
 rw [show min m 64 = m from by omega,Int.mul_one,show (2:Int) ^ m = ((2 ^ m:Nat):Int) from by push_cast; rfl]
 generalize 2 ^ m = Z at *
 have q:=fo (x:=((Z:Nat):Int)) (by omega)
 rw [aD] at q
 injection q with q; injection q with q; injection q
structure Pc where
 w:Nat
 p:Bool
 deriving Inhabited
abbrev ct (x:Pc):List D:=[nD x.w,bD x.p]
def f9 (ws:List Nat):List Pc:=ws.map fun w=>⟨w,false⟩
def dS (s:Nat):List Nat → List Pc × List Nat
 | []=>([⟨s,true⟩],[])
 | w :: r=>if s < w then ([⟨s,true⟩],w :: r) else (⟨w,false⟩ :: (dS s r).1,(dS s r).2)
def eu:List Pc → List Nat → List Pc
 | x :: y :: r,ws=>(dS (x.w + y.w) ws).1 ++ eu r (dS (x.w + y.w) ws).2
 | _,ws=>f9 ws
def EO (row:List Pc) (ws:List Nat):List Pc:=lk ws (eu row ws)
theorem f6 (row:List Pc) (ws:List Nat):EO row ws = eu row ws:=aG _ _
theorem KA {row:List Pc} {ws:List Nat} {i:Nat} (h:i + 1 < row.length):eu (row.drop i) ws = (dS ((row.getD i ji).w + (row.getD (i + 1) ji).w) ws).1 ++ eu (row.drop (i + 2)) (dS ((row.getD i ji).w + (row.getD (i + 1) ji).w) ws).2:=by
 rw [Nl (show i < row.length by omega),Nl h,eu]
 have e1:row[i] = row.getD i ji:=by rw [List.getD_eq_getElem?_getD,List.getElem?_eq_getElem (by omega)]; rfl
 have e2:row[i + 1] = row.getD (i + 1) ji:=by rw [List.getD_eq_getElem?_getD,List.getElem?_eq_getElem h]; rfl
 rw [e1,e2]
theorem KB {row:List Pc} {ws:List Nat} {i:Nat} (h:¬ i + 1 < row.length):eu (row.drop i) ws = f9 ws:=by
 have:(row.drop i).length ≤ 1:=by rw [Ms]; omega
 match hm:row.drop i,this with
 | [],_=>rfl
 | [x],_=>rfl
theorem KC {s:Nat} {ws:List Nat} {k:Nat} (hk:k < ws.length) (h:s < ws.getD k ji):dS s (ws.drop k) = ([⟨s,true⟩],ws.drop k):=by
 have e1:ws[k] = ws.getD k ji:=by rw [List.getD_eq_getElem?_getD,List.getElem?_eq_getElem hk]; rfl
 rw [Nl hk,dS,if_pos (by rw [e1]; exact h)]
theorem KD {s:Nat} {ws:List Nat} {k:Nat} (hk:k < ws.length) (h:¬ s < ws.getD k ji):dS s (ws.drop k) = (⟨ws.getD k ji,false⟩ :: (dS s (ws.drop (k + 1))).1,(dS s (ws.drop (k + 1))).2):=by
 have e1:ws[k] = ws.getD k ji:=by rw [List.getD_eq_getElem?_getD,List.getElem?_eq_getElem hk]; rfl
 conv=>lhs; rw [Nl hk,dS,if_neg (by rw [e1]; exact h),e1]
theorem KE {s:Nat} {ws:List Nat} {k:Nat} (hk:¬ k < ws.length):dS s (ws.drop k) = ([⟨s,true⟩],[]):=by
 rw [Nb (by omega)]; rfl
section
variable {row o T:List Pc} {ws:List Nat} {i k s x:Nat}
theorem KF (h:i + 1 < row.length) (hR:o ++ eu (row.drop i) (ws.drop k) = T):o ++ ((dS ((row.getD i ji).w + (row.getD (i + 1) ji).w) (ws.drop k)).1 ++ eu (row.drop (i + 2)) (dS ((row.getD i ji).w + (row.getD (i + 1) ji).w) (ws.drop k)).2) = T:=by rw [← hR,KA h]
theorem KG (hk:k < ws.length) (h:s < ws.getD k ji) (hR:o ++ ((dS s (ws.drop k)).1 ++ eu (row.drop (i + 2)) (dS s (ws.drop k)).2) = T):(o ++ [⟨s,true⟩]) ++ eu (row.drop (i + 2)) (ws.drop k) = T:=by
 rw [← hR,KC hk h,Mu]
theorem KH (hk:k < ws.length) (h:¬ s < ws.getD k ji) (hR:o ++ ((dS s (ws.drop k)).1 ++ eu (row.drop (i + 2)) (dS s (ws.drop k)).2) = T):(o ++ [⟨ws.getD k ji,false⟩]) ++ ((dS s (ws.drop (k + 1))).1 ++ eu (row.drop (i + 2)) (dS s (ws.drop (k + 1))).2) = T:=by
 rw [← hR,KD hk h,Mu]; rfl
theorem KI (hk:¬ k < ws.length) (hR:o ++ ((dS s (ws.drop k)).1 ++ eu (row.drop (i + 2)) (dS s (ws.drop k)).2) = T):(o ++ [⟨s,true⟩]) ++ eu (row.drop (i + 2)) (ws.drop k) = T:=by
 rw [← hR,KE hk,show ws.drop k = [] from Nb (by omega),Mu]
theorem KJ (h:¬ i + 1 < row.length) (hR:o ++ eu (row.drop i) (ws.drop k) = T):o ++ f9 (ws.drop k) = T:=by rw [← hR,KB h]
theorem Ic (hk:k < ws.length) (hR:o ++ f9 (ws.drop k) = T):(o ++ [⟨ws.getD k ji,false⟩]) ++ f9 (ws.drop (k + 1)) = T:=by
 have e1:ws[k] = ws.getD k ji:=by rw [List.getD_eq_getElem?_getD,List.getElem?_eq_getElem hk]; rfl
 rw [← hR,Nl hk,Mu,e1]; rfl
theorem Ag (hk:¬ k < ws.length) (hR:o ++ f9 (ws.drop k) = T):o = T:=by
 rw [← hR,Nb (by omega)]; exact (MU _).symm
end
theorem Ah (W:List Nat) (L:Nat) (hL:L = W.length) (hL2:L ≤ 320) (hB:∀ t,W.getD t ji ≤ 1073741824) (m:Nat) (hm:1 ≤ m ∧ m ≤ 15) (N:Nat) (hN:N = (et W L).length) (X T1:List Nat) (hX:et W L = X) (hS:SrE W L N X T1 (eP W)) (hNm:N ≤ 2 ^ m) (o:Ord L N X) (t1:vD W N N 0 X = T1) (o1:Ord L N T1) (t:vE W N N 20 T1 = eP W):SpecH false Tryz.prog 144 [.sl false L 1 (W.map nD),nD m] [] (.tup [.ref 0 0 0 N 1,iD 0]) [⟨(eP W).map nD, 3, true⟩]:=by
 have hP:=Kz hm.2
 have hN3:N ≤ 320:=by rw [hN]; exact L8 (il W L) hL2
 refine SpecH.run T_ok ai Tryz.func144 rfl rfl rfl ⟨D2 _ (fun _=>rfl) _,trivial⟩ rfl 1000 64 (fun R ok=>(.s 9 (.f (decide ((m:Int) < 1)) Ad (.s 4 (.f (decide (15 < (m:Int))) Ad (.s 6 (.f (decide (320 < (L:Int))) Ad (.s 5 (.nils 4 120 1 3 (.val 4 (D.ref 120 120 0 0 1) (D.ref 120 120 0 (length (et W 0)) 1) (by (rw [CV]; rfl)) (.blk 120 120 (Blk.mk [] 3 true) (Blk.mk (map nD (et W 0)) 3 true) (by (rw [CV]; rfl)) (Hn.inl T_ok ai false 46 0 (ay Tryz.prog 144 0) (fun (x:(k:Nat) ×' (hk:k ≤ L) ×' Unit)=>match x with | ⟨k,hk,_⟩=>CutS.mk [(1,zN m),(2,D.ptr 0 0 0),(4,(D.ref 8 8 (0) ((et W k).length) 1)),(17,D.sl false L 1 (map nD W)),(18,zN L),(19,nD k)] [⟨0,0,0,0,.b ⟨[D.sl false L 1 (map nD W)],152,false⟩⟩,⟨8,8,120,120,.b ⟨(et W k).map nD,3,true⟩⟩] 16) (fun (x:(k:Nat) ×' (hk:k ≤ L) ×' Unit)=>match x with | ⟨k,hk,_⟩=>L - k) [⟨Unit,.exit 0,fun x=>match x with | ()=>CutS.mk [(1,zN m),(2,D.ptr 0 0 0),(4,(D.ref 8 8 (0) (N) 1)),(17,D.sl false L 1 (map nD W)),(18,zN L)] [⟨0,0,0,0,.b ⟨[D.sl false L 1 (map nD W)],152,false⟩⟩,⟨8,8,120,120,.b ⟨X.map nD,3,true⟩⟩] 16⟩] 1000 64 (fun | ⟨k,hk,_⟩,Q,next1,last1=>(.s 2 (.br (decide ((k:Int) < (L:Int))) (fun p0=>have p0f:=ba p0; (.s 2 (.chk (true && decide ((k:Int) < (L:Int)) && true) ss (.s 2 (.opt ((map nD W)[k * 1]?) (nD (getD W (k * 1) ji)) (au _ _ om) (.s 12 (.f (decide (1073741824 < (↑(getD W (k * 1) ji):Int))) (by (refine decide_eq_false ?_;  have h9:=hB (k * 1); have h8:=il W k; omega)) (.s 3 (.br (decide (0 < (↑(getD W (k * 1) ji):Int))) (fun p1=>have p1f:=ba p1; (.s 5 (.chk (true && L2 (length (et W k) * 1) (length (map nD (et W k))) && true && true && true && true && L5 ((length (et W k) + 1) * 8) 140737488355328) (by (simp;  have h9:=hB (k * 1); have h8:=il W k; omega)) (.s 3 (.ow ((k:Int) + 1) (.s 1 (.val 4 (D.ref 152 152 0 (length (et W k) + 1) 1) (D.ref 152 152 0 (length (et W (k + 1))) 1) (by (rw [CW (by (omega)),L6]; rfl)) (.val 19 (zI ((k:Int) + 1)) (zN (k + 1)) Ae (.blk 152 152 (Blk.mk (map nD (et W k) ++ [zN k]) 3 true) (Blk.mk (map nD (et W (k + 1))) 3 true) (by (rw [CW (by (omega)),MO]; rfl)) (Hn.next next1 ⟨(k + 1),om,⟨⟩⟩ (by show L - (k + 1) < L - k; clear next1 last1; omega) [(0,0),(152,152)] ro)))))))))) (fun p1=>have p1f:=bb p1; (.s 2 (.ow ((k:Int) + 1) (.s 1 (.val 4 (D.ref 8 8 0 (length (et W k)) 1) (D.ref 8 8 0 (length (et W (k + 1))) 1) (by (rw [CX (by (omega))])) (.val 19 (zI ((k:Int) + 1)) (zN (k + 1)) Ae (.blk 8 8 (Blk.mk (map nD (et W k)) 3 true) (Blk.mk (map nD (et W (k + 1))) 3 true) (by (rw [CX (by (omega))])) (Hn.next next1 ⟨(k + 1),om,⟨⟩⟩ (by show L - (k + 1) < L - k; clear next1 last1; omega) [(0,0),(8,8)] ro))))))))))))))))) (fun p0=>have p0f:=bb p0; (.val 4 (D.ref 8 8 0 (length (et W k)) 1) (D.ref 8 8 0 N 1) (by ( rw [show k = L from by omega,hX,o.n])) (.blk 8 8 (Blk.mk (map nD (et W k)) 3 true) (Blk.mk (map nD X) 3 true) (by ( rw [show k = L from by omega,hX])) (Hn.last last1 0 (():Unit) rfl [(0,0),(8,8)] ro))))))) (fun | ⟨k,hk,_⟩=>by kernel_rfl) ⟨(0),om,⟨⟩⟩ [(0,0),(120,120)] ro (bZ (fun | ()=>(.s 5 (.opt (aw .i64 (2 ^ min m 64 * 1)) (zI (Mj Mk (2 ^ min m 64 * 1))) (aD _ _) (.s 2 (.f (decide (Mj Mk (2 ^ min m 64 * 1) < (N:Int))) Ad (.s 9 (.call 190 true [8,0] (true) wr ([D.ref 0 0 0 N 1,zN N,D.fn (MG 175) [] [D.ptr 1 1 0]]) _ (bX.refl _) (ab (map nD X) && true) (by (simp; done)) _ _ _ (CallOk.fn (ax.of Tryz.func190 rfl rfl) (@Ib (X) (N) om (W) (L) om om (T1) (eP W) bz om bz)) (.s 3 (.out [8] [8] (D.tup [D.ref 0 0 0 N 1,zI 0]) [Blk.mk (map nD (eP W)) 3 true] R (ok _ _ wr wr))))))))))))))))))))))) (by kernel_rfl)
theorem Ie {o:List Pc} {x:Pc}:(o ++ [x]).flatMap ct = o.flatMap ct ++ [nD x.w,bD x.p]:=by rw [NF]; rfl
theorem If {row:List Pc} {B:Nat} (h:∀ x ∈ row,x.w ≤ B) {i:Nat} (hi:i < row.length):(row.getD i ji).w ≤ B:=by
 rw [List.getD_eq_getElem?_getD,List.getElem?_eq_getElem hi]; exact h _ (ML hi)
def sP (row:List Pc) (i:Nat):Nat:=lk row ((row.getD i ji).w + (row.getD (i + 1) ji).w)
theorem xK (ws:List Nat) {k j:Nat} (h:k + j < ws.length):(MI (k * 1) (ws.map nD))[j * 1]? = some (nD (ws.getD (k + j) ji)):=by
 rw [My,My,List.getElem?_drop,List.getElem?_map,List.getD_eq_getElem?_getD,List.getElem?_eq_getElem h]; rfl
theorem CY (row:List Pc) (i:Nat):sP row i = (row.getD i ji).w + (row.getD (i + 1) ji).w:=aG _ _
theorem KK {row:List Pc} {i:Nat}:((sP row i:Nat):Int) = ((row.getD i ji).w:Int) + ((row.getD ((i:Int) + 1).toNat ji).w:Int):=by rw [CY,show ((i:Int) + 1).toNat = i + 1 from by omega]; push_cast; rfl
section
variable {row o T:List Pc} {ws:List Nat} {i k:Nat}
theorem Ig (h:i + 1 < row.length) (hR:o ++ eu (row.drop i) (ws.drop k) = T):o ++ ((dS (sP row i) (ws.drop k)).1 ++ eu (row.drop (i + 2)) (dS (sP row i) (ws.drop k)).2) = T:=by rw [CY]; exact KF h hR
end
theorem Ih (row:List Pc) (r:Nat) (hr:r = row.length) (hr2:r ≤ 1000) (B:Nat) (hB2:B ≤ 1000000000000000) (hB:∀ x ∈ row,x.w ≤ B) (ws:List Nat) (n:Nat) (hn:n = ws.length) (hn2:n ≤ 1000) (T:List Pc) (hT:EO row ws = T):SpecH false Tryz.prog 145 [.sl false r 2 (row.flatMap ct),.sl false n 1 (ws.map nD)] [] (.ref 0 0 0 T.length 2) [⟨T.flatMap ct, 231, true⟩]:=by
 refine SpecH.run T_ok ai Tryz.func145 rfl rfl rfl ⟨ef (fun _=>rfl) _,trivial⟩ rfl 1000 64 (fun R ok=>(.s 3 (.nils 4 24 2 231 (Hn.inl T_ok ai false 74 0 (ay Tryz.prog 145 0) (fun (x:(i:Nat) ×' (k:Nat) ×' (o:List Pc) ×' (hi:i ≤ r + 1) ×' (hk:k ≤ n) ×' (ho:o.length ≤ i + k) ×' (hR:o ++ eu (row.drop i) (ws.drop k) = T) ×' Unit)=>match x with | ⟨i,k,o,hi,hk,ho,hR,_⟩=>CutS.mk [(0,D.sl false r 2 (flatMap ct row)),(1,D.sl false n 1 (map nD ws)),(4,(D.ref 0 0 (0) (o.length) 2)),(5,nD k),(6,nD i)] [⟨0,0,24,24,.b ⟨o.flatMap ct,231,true⟩⟩] 8) (fun (x:(i:Nat) ×' (k:Nat) ×' (o:List Pc) ×' (hi:i ≤ r + 1) ×' (hk:k ≤ n) ×' (ho:o.length ≤ i + k) ×' (hR:o ++ eu (row.drop i) (ws.drop k) = T) ×' Unit)=>match x with | ⟨i,k,o,hi,hk,ho,hR,_⟩=>r + 1 - i) [⟨(k3:Nat) ×' (o3:List Pc) ×' (hk3:k3 ≤ n) ×' (ho3:o3.length ≤ 3000) ×' (hR3:o3 ++ f9 (ws.drop k3) = T) ×' Unit,.exit 0,fun x=>match x with | ⟨k3,o3,hk3,ho3,hR3,_⟩=>CutS.mk [(0,D.sl false r 2 (flatMap ct row)),(1,D.sl false n 1 (map nD ws)),(4,(D.ref 0 0 (0) (o3.length) 2)),(5,nD k3)] [⟨0,0,24,24,.b ⟨o3.flatMap ct,231,true⟩⟩] 8⟩] 1000 64 (fun | ⟨i,k,o,hi,hk,ho,hR,_⟩,Q,next1,last1=>(.s 3 (.ow ((i:Int) + 1) (.s 4 (.br (decide ((i:Int) + 1 < (r:Int))) (fun p0=>have p0f:=ba p0; (.s 4 (.chk (true && decide ((i:Int) < (r:Int)) && true) ss (.s 5 (.opt ((flatMap ct row)[i * 2 + 0]?) (zN (Pc.w (getD row i ji))) (lw (k:=2) (i:=i) (j:=0) (fun _=>rfl) om om rfl) (.s 4 (.ow ((i:Int) + 1) (.s 1 (.chk (true && decide ((i:Int) + 1 < (r:Int)) && true) ss (.s 5 (.opt ((flatMap ct row)[u7 ((i:Int) + 1) * 2 + 0]?) (zN (Pc.w (getD row (u7 ((i:Int) + 1)) ji))) (lw (k:=2) (i:=u7 ((i:Int) + 1)) (j:=0) (fun _=>rfl) om om rfl) (.s 2 (.op ((↑(Pc.w (getD row i ji)):Int) + (↑(Pc.w (getD row (u7 ((i:Int) + 1)) ji)):Int)) (by ( have h9:=If hB (i:=i) om; have h8:=If hB (i:=((i:Int) + 1).toNat) om; omega)) (.s 1 (.val 7 (zI ((↑(Pc.w (getD row i ji)):Int) + (↑(Pc.w (getD row (u7 ((i:Int) + 1)) ji)):Int))) (zN (sP row i)) Af (Hn.inl T_ok ai false 74 0 (ay Tryz.prog 145 1) (fun (x:(k1:Nat) ×' (o1:List Pc) ×' (hk1:k1 ≤ n) ×' (ho1:o1.length ≤ i + k1) ×' (hR1:o1 ++ ((dS (sP row i) (ws.drop k1)).1 ++ eu (row.drop (i + 2)) (dS (sP row i) (ws.drop k1)).2) = T) ×' Unit)=>match x with | ⟨k1,o1,hk1,ho1,hR1,_⟩=>CutS.mk [(0,D.sl false r 2 (flatMap ct row)),(1,D.sl false n 1 (map nD ws)),(4,(D.ref 0 0 (0) (o1.length) 2)),(5,nD k1),(6,zN i),(7,nD (sP row i))] [⟨0,0,0,0,.b ⟨o1.flatMap ct,231,true⟩⟩] 8) (fun (x:(k1:Nat) ×' (o1:List Pc) ×' (hk1:k1 ≤ n) ×' (ho1:o1.length ≤ i + k1) ×' (hR1:o1 ++ ((dS (sP row i) (ws.drop k1)).1 ++ eu (row.drop (i + 2)) (dS (sP row i) (ws.drop k1)).2) = T) ×' Unit)=>match x with | ⟨k1,o1,hk1,ho1,hR1,_⟩=>n - k1) [⟨(k2:Nat) ×' (o2:List Pc) ×' (hk2:k2 ≤ n) ×' (ho2:o2.length ≤ i + 2 + k2) ×' (hR2:o2 ++ eu (row.drop (i + 2)) (ws.drop k2) = T) ×' Unit,.exit 1,fun x=>match x with | ⟨k2,o2,hk2,ho2,hR2,_⟩=>CutS.mk [(0,D.sl false r 2 (flatMap ct row)),(1,D.sl false n 1 (map nD ws)),(4,(D.ref 0 0 (0) (o2.length) 2)),(5,nD k2),(6,zN i)] [⟨0,0,0,0,.b ⟨o2.flatMap ct,231,true⟩⟩] 8⟩,⟨(k4:Nat) ×' (o4:List Pc) ×' (hk4:k4 ≤ n ∧ n ≤ k4) ×' (ho4:o4.length ≤ i + k4) ×' (hR4:o4 ++ ((dS (sP row i) (ws.drop k4)).1 ++ eu (row.drop (i + 2)) (dS (sP row i) (ws.drop k4)).2) = T) ×' Unit,.exit 2,fun x=>match x with | ⟨k4,o4,hk4,ho4,hR4,_⟩=>CutS.mk [(0,D.sl false r 2 (flatMap ct row)),(1,D.sl false n 1 (map nD ws)),(4,(D.ref 0 0 (0) (o4.length) 2)),(5,nD k4),(6,zN i),(7,nD (sP row i))] [⟨0,0,0,0,.b ⟨o4.flatMap ct,231,true⟩⟩] 8⟩] 1000 64 (fun | ⟨k1,o1,hk1,ho1,hR1,_⟩,Q,next2,last2=>(.s 5 (.br (decide ((k1:Int) < (n:Int))) (fun p1=>have p1f:=ba p1; (.s 3 (.chk (true && decide ((k1:Int) < (n:Int)) && true) ss (.s 2 (.opt ((map nD ws)[k1 * 1]?) (nD (getD ws (k1 * 1) ji)) (au _ _ om) (.s 3 (.br (decide ((↑(sP row i):Int) < (↑(getD ws (k1 * 1) ji):Int))) (fun p2=>have p2f:=ba p2; (.s 7 (.chk (true && L2 (length o1 * 2) (length (flatMap ct o1)) && true && true && true && true && L5 ((length o1 + 1) * 16) 140737488355328) xG (.s 1 (.val 4 (D.ref 120 120 0 (length o1 + 1) 2) (D.ref 120 120 0 (length (o1 ++ [Pc.mk (sP row i) true])) 2) xH (.blk 120 120 (Blk.mk (flatMap ct o1 ++ [zN (sP row i),D.v (.bool true)]) 231 true) (Blk.mk (flatMap ct (o1 ++ [Pc.mk (sP row i) true])) 231 true) (by (simp; done)) (Hn.last last2 0 (⟨(k1),(o1 ++ [⟨sP row i,true⟩]),om,xI,(by (simp only [My] at *;  exact KG om om hR1)),⟨⟩⟩:(k2:Nat) ×' (o2:List Pc) ×' (hk2:k2 ≤ n) ×' (ho2:o2.length ≤ i + 2 + k2) ×' (hR2:o2 ++ eu (row.drop (i + 2)) (ws.drop k2) = T) ×' Unit) rfl [(120,120)] ro))))))) (fun p2=>have p2f:=bb p2; (.s 4 (.chk (true && decide ((k1:Int) < (n:Int)) && true) ss (.s 2 (.opt ((map nD ws)[k1 * 1]?) (nD (getD ws (k1 * 1) ji)) (au _ _ om) (.s 5 (.chk (true && L2 (length o1 * 2) (length (flatMap ct o1)) && true && true && true && true && L5 ((length o1 + 1) * 16) 140737488355328) xG (.s 4 (.ow ((k1:Int) + 1) (.s 1 (.val 4 (D.ref 144 144 0 (length o1 + 1) 2) (D.ref 144 144 0 (length (o1 ++ [Pc.mk (getD ws k1 ji) false])) 2) xH (.val 5 (zI ((k1:Int) + 1)) (zN (k1 + 1)) Af (.blk 144 144 (Blk.mk (flatMap ct o1 ++ [zN (getD ws (k1 * 1) ji),D.v (.bool false)]) 231 true) (Blk.mk (flatMap ct (o1 ++ [Pc.mk (getD ws k1 ji) false])) 231 true) (by (refine aC ?_; rw [Ie]; simp only [My])) (Hn.next next2 ⟨(k1 + 1),(o1 ++ [⟨ws.getD k1 ji,false⟩]),om,xI,(by (simp only [My] at *;  exact KH om om hR1)),⟨⟩⟩ (by show n - (k1 + 1) < n - k1; clear next2 last2 next1 last1; omega) [(144,144)] ro))))))))))))))))))))) (fun p1=>have p1f:=bb p1; (Hn.last last2 1 (⟨(k1),(o1),om,om,om,⟨⟩⟩:(k4:Nat) ×' (o4:List Pc) ×' (hk4:k4 ≤ n ∧ n ≤ k4) ×' (ho4:o4.length ≤ i + k4) ×' (hR4:o4 ++ ((dS (sP row i) (ws.drop k4)).1 ++ eu (row.drop (i + 2)) (dS (sP row i) (ws.drop k4)).2) = T) ×' Unit) rfl [(0,0)] ro))))) (fun | ⟨k1,o1,hk1,ho1,hR1,_⟩=>by kernel_rfl) ⟨(k),(o),om,om,(by ( exact Ig om hR)),⟨⟩⟩ [(0,0)] ro (fa (fun | ⟨k2,o2,hk2,ho2,hR2,_⟩=>(.s 3 (.ow ((i:Int) + 2) (.s 1 (.val 6 (zI ((i:Int) + 2)) (zN (i + 2)) Af (Hn.next next1 ⟨(i + 2),(k2),(o2),om,om,om,om,⟨⟩⟩ (by show r + 1 - (i + 2) < r + 1 - i; clear next1 last1; omega) [(0,0)] ro)))))) (fun | ⟨k4,o4,hk4,ho4,hR4,_⟩=>(.s 7 (.chk (true && L2 (length o4 * 2) (length (flatMap ct o4)) && true && true && true && true && L5 ((length o4 + 1) * 16) 140737488355328) xG (.s 4 (.ow ((i:Int) + 2) (.s 1 (.val 4 (D.ref 40 40 0 (length o4 + 1) 2) (D.ref 40 40 0 (length (o4 ++ [Pc.mk (sP row i) true])) 2) xH (.val 6 (zI ((i:Int) + 2)) (zN (i + 2)) Af (.blk 40 40 (Blk.mk (flatMap ct o4 ++ [zN (sP row i),D.v (.bool true)]) 231 true) (Blk.mk (flatMap ct (o4 ++ [Pc.mk (sP row i) true])) 231 true) (by (simp; done)) (Hn.next next1 ⟨(i + 2),(k4),(o4 ++ [⟨sP row i,true⟩]),om,om,xI,(by ( exact KI om hR4)),⟨⟩⟩ (by show r + 1 - (i + 2) < r + 1 - i; clear next1 last1; omega) [(40,40)] ro))))))))))))))))))))))))))) (fun p0=>have p0f:=bb p0; (Hn.last last1 0 (⟨(k),(o),om,om,(by ( exact KJ om hR)),⟨⟩⟩:(k3:Nat) ×' (o3:List Pc) ×' (hk3:k3 ≤ n) ×' (ho3:o3.length ≤ 3000) ×' (hR3:o3 ++ f9 (ws.drop k3) = T) ×' Unit) rfl [(0,0)] ro))))))) (fun | ⟨i,k,o,hi,hk,ho,hR,_⟩=>by kernel_rfl) ⟨(0),(0),([]),om,om,(by (simp; done)),(by (exact (f6 _ _).symm.trans hT)),⟨⟩⟩ [(24,24)] ro (bZ (fun | ⟨k3,o3,hk3,ho3,hR3,_⟩=>(.s 3 (.chk (aM (some (k3:Int)) none none n && true) (by (simp <;> (omega))) (.s 2 (Hn.inl T_ok ai false 74 0 (ay Tryz.prog 145 2) (fun (x:(j:Nat) ×' (o:List Pc) ×' (hk:j ≤ n - k3) ×' (ho:o.length ≤ 3000 + j) ×' (hR:o ++ f9 (ws.drop (k3 + j)) = T) ×' Unit)=>match x with | ⟨j,o,hk,ho,hR,_⟩=>CutS.mk [(4,(D.ref 0 0 (0) (o.length) 2)),(61,D.sl false (n - k3) 1 (drop (k3 * 1) (map nD ws))),(62,zN (n - k3)),(63,nD j)] [⟨0,0,0,0,.b ⟨o.flatMap ct,231,true⟩⟩] 8) (fun (x:(j:Nat) ×' (o:List Pc) ×' (hk:j ≤ n - k3) ×' (ho:o.length ≤ 3000 + j) ×' (hR:o ++ f9 (ws.drop (k3 + j)) = T) ×' Unit)=>match x with | ⟨j,o,hk,ho,hR,_⟩=>n - k3 - j) [⟨Unit,.exit 4,fun x=>match x with | ()=>CutS.mk [(4,(D.ref 0 0 (0) (T.length) 2)),(61,D.sl false (n - k3) 1 (drop (k3 * 1) (map nD ws))),(62,zN (n - k3))] [⟨0,0,0,0,.b ⟨T.flatMap ct,231,true⟩⟩] 8⟩] 1000 64 (fun | ⟨j,o,hk,ho,hR,_⟩,Q,next1,last1=>(.s 2 (.br (decide ((j:Int) < (↑(n - k3):Int))) (fun p3=>have p3f:=ba p3; (.s 1 (.chk (true && decide ((j:Int) < (↑(n - k3):Int)) && true) ss (.s 2 (.opt ((drop (k3 * 1) (map nD ws))[j * 1]?) (nD (getD ws (k3 + j) ji)) (@xK ws (k3) (j) om) (.s 8 (.chk (true && L2 (length o * 2) (length (flatMap ct o)) && true && true && true && true && L5 ((length o + 1) * 16) 140737488355328) xG (.s 3 (.ow ((j:Int) + 1) (.s 1 (.val 4 (D.ref 72 72 0 (length o + 1) 2) (D.ref 72 72 0 (length (o ++ [Pc.mk (getD ws (k3 + j) ji) false])) 2) xH (.val 63 (zI ((j:Int) + 1)) (zN (j + 1)) Ae (.blk 72 72 (Blk.mk (flatMap ct o ++ [zN (getD ws (k3 + j) ji),D.v (.bool false)]) 231 true) (Blk.mk (flatMap ct (o ++ [Pc.mk (getD ws (k3 + j) ji) false])) 231 true) (by (simp; done)) (Hn.next next1 ⟨(j + 1),(o ++ [⟨ws.getD (k3 + j) ji,false⟩]),om,xI,(by ( exact Ic om hR)),⟨⟩⟩ (by show n - k3 - (j + 1) < n - k3 - j; clear next1 last1; omega) [(72,72)] ro)))))))))))))) (fun p3=>have p3f:=bb p3; (.val 4 (D.ref 0 0 0 (length o) 2) (D.ref 0 0 0 (length T) 2) (by ( rw [Ag om hR])) (.blk 0 0 (Blk.mk (flatMap ct o) 231 true) (Blk.mk (flatMap ct T) 231 true) (by ( rw [Ag om hR])) (Hn.last last1 0 (():Unit) rfl [(0,0)] ro))))))) (fun | ⟨j,o,hk,ho,hR,_⟩=>by kernel_rfl) ⟨(0),(o3),om,om,om,⟨⟩⟩ [(0,0)] ro (bZ (fun | ()=>(.s 2 (.out [0] [0] (D.ref 0 0 0 (length T) 2) [Blk.mk (flatMap ct T) 231 true] R (ok _ _ wr wr))))))))))))))) (by kernel_rfl)
theorem Ai (ws:List Nat) {j:Nat} (h:j < ws.length):(MI (0 * 1) (ws.map nD))[j * 1]? = some (nD (ws.getD j ji)):=by
 have:=xK ws (k:=0) (j:=j) (by omega)
 rwa [Mw] at this
theorem Ii (ws:List Nat) (n:Nat) (hn:n = ws.length) (hn2:n ≤ 1000) (T:List Pc) (hT:EO [] ws = T):SpecH false Tryz.prog 145 [bB,.sl false n 1 (ws.map nD)] [] (.ref 0 0 0 T.length 2) [⟨T.flatMap ct, 231, true⟩]:=by
 refine SpecH.run T_ok ai Tryz.func145 rfl rfl rfl ⟨ef (fun _=>rfl) _,trivial⟩ rfl 1000 64 (fun R ok=>(.s 16 (.chk (aM (some 0) none none n && true) (by (simp; done)) (.s 2 (.nils 4 104 2 231 (Hn.inl T_ok ai false 74 0 (ay Tryz.prog 145 2) (fun (x:(j:Nat) ×' (o:List Pc) ×' (hk:j ≤ n) ×' (ho:o.length ≤ j) ×' (hR:o ++ f9 (ws.drop j) = T) ×' Unit)=>match x with | ⟨j,o,hk,ho,hR,_⟩=>CutS.mk [(4,(D.ref 0 0 (0) (o.length) 2)),(61,D.sl false (n - 0) 1 (drop 0 (map nD ws))),(62,zN (n - 0)),(63,nD j)] [⟨0,0,104,104,.b ⟨o.flatMap ct,231,true⟩⟩] 8) (fun (x:(j:Nat) ×' (o:List Pc) ×' (hk:j ≤ n) ×' (ho:o.length ≤ j) ×' (hR:o ++ f9 (ws.drop j) = T) ×' Unit)=>match x with | ⟨j,o,hk,ho,hR,_⟩=>n - j) [⟨Unit,.exit 4,fun x=>match x with | ()=>CutS.mk [(4,(D.ref 0 0 (0) (T.length) 2)),(61,D.sl false (n - 0) 1 (drop 0 (map nD ws))),(62,zN (n - 0))] [⟨0,0,104,104,.b ⟨T.flatMap ct,231,true⟩⟩] 8⟩] 1000 64 (fun | ⟨j,o,hk,ho,hR,_⟩,Q,next1,last1=>(.s 2 (.br (decide ((j:Int) < (↑(n - 0):Int))) (fun p0=>have p0f:=ba p0; (.s 1 (.chk (true && decide ((j:Int) < (↑(n - 0):Int)) && true) ss (.s 2 (.opt ((drop (0 * 1) (map nD ws))[j * 1]?) (nD (getD ws j ji)) (@Ai ws (j) om) (.s 8 (.chk (true && L2 (length o * 2) (length (flatMap ct o)) && true && true && true && true && L5 ((length o + 1) * 16) 140737488355328) xG (.s 3 (.ow ((j:Int) + 1) (.s 1 (.val 4 (D.ref 72 72 0 (length o + 1) 2) (D.ref 72 72 0 (length (o ++ [Pc.mk (getD ws j ji) false])) 2) xH (.val 63 (zI ((j:Int) + 1)) (zN (j + 1)) Ae (.blk 72 72 (Blk.mk (flatMap ct o ++ [zN (getD ws j ji),D.v (.bool false)]) 231 true) (Blk.mk (flatMap ct (o ++ [Pc.mk (getD ws j ji) false])) 231 true) (by (simp; done)) (Hn.next next1 ⟨(j + 1),(o ++ [⟨ws.getD j ji,false⟩]),om,xI,(by ( exact Ic om hR)),⟨⟩⟩ (by show n - (j + 1) < n - j; clear next1 last1; omega) [(72,72)] ro)))))))))))))) (fun p0=>have p0f:=bb p0; (.val 4 (D.ref 0 0 0 (length o) 2) (D.ref 0 0 0 (length T) 2) (by ( rw [Ag om hR])) (.blk 0 0 (Blk.mk (flatMap ct o) 231 true) (Blk.mk (flatMap ct T) 231 true) (by ( rw [Ag om hR])) (Hn.last last1 0 (():Unit) rfl [(0,0)] ro))))))) (fun | ⟨j,o,hk,ho,hR,_⟩=>by kernel_rfl) ⟨(0),([]),om,(by (simp; done)),(by (exact (f6 _ _).symm.trans hT)),⟨⟩⟩ [(104,104)] ro (bZ (fun | ()=>(.s 2 (.out [0] [0] (D.ref 0 0 0 (length T) 2) [Blk.mk (flatMap ct T) 231 true] R (ok _ _ wr wr))))))))))) (by kernel_rfl)
end Vp
end Go.Proofs.YtefjnofhgkjpmaaGreat
namespace Go.Proofs.YtefjnofhgkjpmaaGreat
open Go.RowKit Go.Bw Go.Vx
namespace Vp
def oP (W S:List Nat) (k:Nat):List Nat:=lk S ((S.take k).map fun i=>W.getD i ji)
theorem lT (W S:List Nat) (k:Nat):oP W S k = (S.take k).map fun i=>W.getD i ji:=aG _ _
theorem Ij (W S:List Nat):oP W S 0 = []:=lT W S 0
theorem Ik {W S:List Nat} {k:Nat} (h:k < S.length):oP W S (k + 1) = oP W S k ++ [W.getD (S.getD k ji) ji]:=by
 rw [lT,lT,MB h,MO,List.getD_eq_getElem?_getD (l:=S),List.getElem?_eq_getElem h]; rfl
theorem kC {W S:List Nat} {k:Nat} (h:k ≤ S.length):(oP W S k).length = k:=by rw [lT,Mg,Mc]; omega
def EP (ws:List Nat):Nat → List Pc
 | 0=>EO [] ws
 | k + 1=>EO (EP ws k) ws
def ar (ws:List Nat) (k:Nat):List Pc:=lk ws (EP ws k)
theorem oQ (ws:List Nat) (k:Nat):ar ws k = EP ws k:=aG _ _
theorem oS (ws:List Nat):EO [] ws = ar ws 0:=by rw [oQ]; rfl
theorem lU (ws:List Nat) (k:Nat):EO (ar ws k) ws = ar ws (k + 1):=by rw [oQ,oQ]; rfl
def cE (row:List Pc) (n:Nat):Nat:=lk row ((row.take n).filter (·.p)).length
theorem im (row:List Pc) (n:Nat):cE row n = ((row.take n).filter (·.p)).length:=aG _ _
theorem Il (row:List Pc):cE row 0 = 0:=im row 0
theorem CZ {row:List Pc} {k:Nat} (h:k < row.length):cE row (k + 1) = cE row k + (row.getD k ji).p.toNat:=by
 rw [im,im,MB h,M7,L6,List.getD_eq_getElem?_getD,List.getElem?_eq_getElem h]
 show _ + (List.filter _ [row[k]]).length = _ + (row[k]).p.toNat
 cases hp:(row[k]).p
 ·rw [NB (by simp [hp])]; rfl
 ·rw [NA (by simp [hp])]; rfl
theorem xM (row:List Pc) (n:Nat):cE row n ≤ n:=by
 rw [im]; exact L8 (OI _ _) (by rw [Mc]; exact P6 _ _)
theorem t8 (row:List Pc) (n:Nat):cE row n ≤ (row.filter (·.p)).length:=by
 rw [im]; exact ((PO n row).filter _).length_le
theorem oT:∀ l:List Pc,l.length = (l.filter (·.p)).length + (l.filter (fun x=>!x.p)).length
 | []=>rfl
 | x :: r=>by
  have ih:=oT r
  cases hp:x.p
  ·rw [NB (by simp [hp]),NA (by simp [hp]),Mx,Mx]; omega
  ·rw [NA (by simp [hp]),NB (by simp [hp]),Mx,Mx]; omega
theorem C2 (s:Nat):∀ ws:List Nat,((dS s ws).1.filter (·.p)).length = 1 ∧ (dS s ws).1.length + (dS s ws).2.length = ws.length + 1 ∧ (dS s ws).1.length = ((dS s ws).1.filter (fun x=>!x.p)).length + 1
 | []=>⟨rfl,rfl,rfl⟩
 | w :: r=>by
  have ih:=C2 s r
  rw [dS]; split
  ·exact ⟨rfl,by simp; omega,rfl⟩
  ·refine ⟨?_,?_,?_⟩
   ·rw [NB (by simp)]; exact ih.1
   ·simp only [Mx]; omega
   ·rw [NA (by simp),Mx,Mx]; omega
theorem xN:∀ (row:List Pc) (ws:List Nat),((eu row ws).filter (·.p)).length = row.length / 2 ∧ (eu row ws).length = ws.length + row.length / 2 ∧ ((eu row ws).filter (fun x=>!x.p)).length = ws.length
 | [],ws=>by
  have e:eu [] ws = f9 ws:=rfl
  rw [e]; unfold f9
  refine ⟨?_,by simp,?_⟩
  ·rw [List.filter_eq_nil_iff.2 (fun x hx=>by obtain ⟨w,_,rfl⟩:=List.mem_map.1 hx; simp)]; rfl
  ·rw [List.filter_eq_self.2 (fun x hx=>by obtain ⟨w,_,rfl⟩:=List.mem_map.1 hx; rfl),Mg]
 | [x],ws=>by
  have e:eu [x] ws = f9 ws:=rfl
  rw [e]; unfold f9
  refine ⟨?_,by simp,?_⟩
  ·rw [List.filter_eq_nil_iff.2 (fun x hx=>by obtain ⟨w,_,rfl⟩:=List.mem_map.1 hx; simp)]; simp
  ·rw [List.filter_eq_self.2 (fun x hx=>by obtain ⟨w,_,rfl⟩:=List.mem_map.1 hx; rfl),Mg]
 | x :: y :: r,ws=>by
  have h1:=C2 (x.w + y.w) ws
  have h2:=xN r (dS (x.w + y.w) ws).2
  rw [eu]
  refine ⟨?_,?_,?_⟩
  ·rw [M7,L6,h1.1,h2.1,Mx,Mx]; omega
  ·rw [L6,h2.2.1,Mx,Mx]; omega
  ·rw [M7,L6,h2.2.2]; omega
theorem C3 {s B:Nat}:∀ ws:List Nat,(∀ w ∈ ws,w ≤ B) → s ≤ B → (∀ x ∈ (dS s ws).1,x.w ≤ B) ∧ ∀ w ∈ (dS s ws).2,w ∈ ws
 | [],_,hs=>⟨fun x hx=>by cases List.mem_singleton.1 hx; exact hs,fun w hw=>by cases hw⟩
 | w :: r,h,hs=>by
  have ih:=C3 (s:=s) r (fun y hy=>h y (Mn _ hy)) hs
  rw [dS]; split
  ·exact ⟨fun x hx=>by cases List.mem_singleton.1 hx; exact hs,fun y hy=>hy⟩
  ·refine ⟨fun x hx=>?_,fun y hy=>Mn _ (ih.2 y hy)⟩
   rcases List.mem_cons.1 hx with rfl | hx
   ·exact h w Mp
   ·exact ih.1 x hx
theorem C4 {B C:Nat} (hC:2 * B ≤ C) (hC2:B ≤ C):∀ (row:List Pc) (ws:List Nat),(∀ w ∈ ws,w ≤ B) → (∀ x ∈ row,x.w ≤ B) → ∀ x ∈ eu row ws,x.w ≤ C
 | [],ws,h,_=>fun x hx=>by
  obtain ⟨w,hw,rfl⟩:=List.mem_map.1 (show x ∈ f9 ws from hx)
  exact L8 (h w hw) hC2
 | [_],ws,h,_=>fun x hx=>by
  obtain ⟨w,hw,rfl⟩:=List.mem_map.1 (show x ∈ f9 ws from hx)
  exact L8 (h w hw) hC2
 | a :: b :: r,ws,h,hr=>fun x hx=>by
  have ha:=hr a Mp
  have hb:=hr b (Mn _ Mp)
  have h1:=C3 (s:=a.w + b.w) (B:=C) ws (fun w hw=>L8 (h w hw) hC2) (by omega)
  rw [eu] at hx
  rcases List.mem_append.1 hx with q | q
  ·exact h1.1 x q
  ·exact C4 hC hC2 r _ (fun w hw=>h w (h1.2 w hw)) (fun y hy=>hr y (Mn _ (Mn _ hy))) x q
theorem xP {ws:List Nat} (h:∀ w ∈ ws,w ≤ 1073741824):∀ k,∀ x ∈ ar ws k,x.w ≤ 2 ^ k * 1073741824
 | 0=>fun x hx=>by
  rw [← oS,f6] at hx
  obtain ⟨w,hw,rfl⟩:=List.mem_map.1 (show x ∈ f9 ws from hx)
  have:=h w hw; simpa using this
 | k + 1=>fun x hx=>by
  rw [← lU,f6] at hx
  have hp:=NH k
  refine C4 (B:=2 ^ k * 1073741824) (by rw [Nt]; omega) (by rw [Nt]; omega) _ _ (fun w hw=>L8 (h w hw) (by omega)) (xP h k) x hx
theorem Aj {ws:List Nat} (h:∀ w ∈ ws,w ≤ 1073741824) {k:Nat} (hk:k ≤ 15):∀ x ∈ ar ws k,x.w ≤ 100000000000000:=fun x hx=>by
 have h1:=xP h k x hx
 have h2:2 ^ k ≤ 2 ^ 15:=MV (by decide) hk
 omega
theorem jt (ws:List Nat):∀ k,(ar ws k).length = ws.length + (if k = 0 then 0 else (ar ws (k - 1)).length / 2) ∧ ((ar ws k).filter (·.p)).length = (if k = 0 then 0 else (ar ws (k - 1)).length / 2) ∧ ((ar ws k).filter (fun x=>!x.p)).length = ws.length
 | 0=>by
  have h:=xN [] ws
  rw [← f6,oS] at h
  exact ⟨h.2.1,h.1,h.2.2⟩
 | k + 1=>by
  have h:=xN (ar ws k) ws
  rw [← f6,lU] at h
  exact ⟨h.2.1,h.1,h.2.2⟩
theorem cg (ws:List Nat):∀ k,(ar ws k).length ≤ 2 * ws.length
 | 0=>by rw [(jt ws 0).1,if_pos rfl]; omega
 | k + 1=>by
  have:=cg ws k
  rw [(jt ws (k + 1)).1,if_neg (NW k),NJ]; omega
theorem t9 (ws:List Nat):∀ k,2 ^ k * (2 * ws.length) ≤ 2 ^ k * (ar ws k).length + ws.length + (2 ^ k - 1)
 | 0=>by rw [(jt ws 0).1,if_pos rfl]; omega
 | k + 1=>by
  have ih:=t9 ws k
  have e:=(jt ws (k + 1)).1
  rw [if_neg (NW k),NJ] at e
  have hp:=NH k
  rw [e,Nt]
  generalize ws.length = N at *
  generalize (ar ws k).length = R at *
  generalize 2 ^ k = P at *
  have h2:P * R ≤ P * (2 * (R / 2)) + P:=by
   have:R ≤ 2 * (R / 2) + 1:=by omega
   have:=Ot P this
   rw [NS,My] at this; exact this
  have e1:P * 2 * (2 * N) = P * (2 * N) + P * (2 * N):=by rw [Na,Nat.two_mul,NS]
  have e2:P * 2 * (N + R / 2) = P * (2 * N) + P * (2 * (R / 2)):=by rw [Na,NS 2,NS]
  rw [e1,e2]
  omega
def qG:List UInt8 → List Nat → List UInt8
 | o,[]=>o
 | o,i :: r=>qG (o.set i (o.getD i ji + 1)) r
theorem xQ (o:List UInt8) (a b:List Nat):qG o (a ++ b) = qG (qG o a) b:=by
 induction a generalizing o with
 | nil=>rfl
 | cons x a ih=>exact ih _
theorem qH:∀ (o:List UInt8) (l:List Nat),(qG o l).length = o.length
 | _,[]=>rfl
 | o,i :: r=>by rw [qG,qH,N1]
def b9 (o:List UInt8) (S:List Nat) (j:Nat):List UInt8:=lk o (qG o (S.take j))
theorem kD (o:List UInt8) (S:List Nat) (j:Nat):b9 o S j = qG o (S.take j):=aG _ _
theorem su (o:List UInt8) (S:List Nat):b9 o S 0 = o:=kD o S 0
theorem cu (o:List UInt8) (S:List Nat) (j:Nat):(b9 o S j).length = o.length:=by rw [kD,qH]
theorem sv {o:List UInt8} {S:List Nat} {j:Nat} (h:j < S.length):b9 o S (j + 1) = (b9 o S j).set (S.getD j ji) ((b9 o S j).getD (S.getD j ji) ji + 1):=by
 rw [kD,kD,MB h,xQ,List.getD_eq_getElem?_getD (l:=S),List.getElem?_eq_getElem h]; rfl
def Ak (ws S:List Nat):Nat → Nat → List UInt8 → List UInt8
 | 0,_,o=>o
 | k + 1,n,o=>Ak ws S k (2 * cE (ar ws k) n) (b9 o S (n - cE (ar ws k) n))
structure LnI (ws:List Nat) (k n:Nat):Prop where
 a:k ≠ 0 → n ≤ (ar ws (k - 1)).length
theorem LnI.next {ws:List Nat} {k n:Nat} (h:LnI ws (k + 1) n):n ≤ (ar ws k).length ∧ cE (ar ws k) n ≤ n ∧ n - cE (ar ws k) n ≤ ws.length ∧ LnI ws k (2 * cE (ar ws k) n):=by
 have hn:=h.a (NW k)
 rw [NJ] at hn
 have hc:=jt ws k
 have h1:=t8 (ar ws k) n
 refine ⟨hn,xM _ _,?_,⟨fun hk=>?_⟩⟩
 ·have e:n = ((ar ws k).take n).length:=by rw [Mc]; omega
  have e2:((ar ws k).take n).length = (((ar ws k).take n).filter (·.p)).length + (((ar ws k).take n).filter (fun x=>!x.p)).length:=by
   exact oT _
  have e3:(((ar ws k).take n).filter (fun x=>!x.p)).length ≤ ws.length:=by
   rw [← hc.2.2]; exact ((PO n _).filter _).length_le
  rw [im]; omega
 ·rw [hc.2.1,if_neg hk] at h1; omega
theorem LnI.first {ws:List Nat} {m:Nat} (hm:1 ≤ m) (h:ws.length ≤ 2 ^ m) (h2:2 ≤ ws.length):LnI ws m (2 * ws.length - 2):=⟨fun _=>by
 have g:=t9 ws (m - 1)
 have hp:=NH (m - 1)
 have e:2 ^ m = 2 * 2 ^ (m - 1):=by rw [show m = (m - 1) + 1 from by omega,Nt,Nk]; rfl
 generalize (ar ws (m - 1)).length = R at *
 generalize ws.length = N at *
 generalize 2 ^ (m - 1) = P at *
 rcases MF R (2 * N - 2) with q | q
 ·have h3:P * R + 3 * P ≤ P * (2 * N):=by
   have:R + 3 ≤ 2 * N:=by omega
   have:=Ot P this
   rw [NS,Nk P 3] at this; exact this
  omega
 ·exact q⟩
end Vp
end Go.Proofs.YtefjnofhgkjpmaaGreat

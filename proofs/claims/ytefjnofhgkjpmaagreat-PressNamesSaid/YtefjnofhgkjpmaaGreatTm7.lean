/- Part 7. -/
import Derived.Test.YtefjnofhgkjpmaaGreatTm5
import Derived.Test.YtefjnofhgkjpmaaGreatTm6
set_option linter.unusedVariables false
set_option linter.unusedSimpArgs false
set_option maxRecDepth 100000
set_option maxHeartbeats 4000000
open Bool renaming and_true → Mc, true_and → L7
open Eq renaming trans → Pa
open Go.Fn renaming func → Mn
open Go.IntKind renaming i64 → L5, u64 → M5, wrap → LZ
open Go.Value renaming int → My
open Inhabited renaming default → jd
open Int renaming fdiv → Mp, toNat → uM
open List renaming append_assoc → Ma, append_nil → MA, drop → Mm, drop_eq_getElem_cons → M1, drop_eq_nil_of_le → MS, filter_append → MO, filter_cons_of_neg → Ng, filter_cons_of_pos → Nf, filter_nil → PM, flatMap_append → Nj, getElem_mem → Mr, length_append → LJ, length_cons → Md, length_drop → L9, length_filter_le → Ok, length_map → LU, length_set → NJ, length_singleton → Mu, length_take → LO, map_append → Mv, mem_cons_of_mem → L0, mem_cons_self → L4, mem_filter → N9, mem_or_eq_of_mem_set → OL, range → Mt, range_succ → NU, take_sublist → Pt, take_succ_eq_append_getElem → Mi
open List.Perm renaming refl → NF
open Nat renaming add_sub_cancel → Nl, beq → LF, beq_refl → MM, ble → LH, ble_eq_true_of_le → LK, le_refl → LV, le_trans → LM, lt_or_ge → Mh, min_le_left → PK, mul_add → Ny, mul_assoc → MR, mul_comm → M8, mul_le_mul_left → N4, mul_one → Me, pow_le_pow_right → MB, pow_succ → MZ, sub_self → MV, succ_ne_zero → NC, two_pow_pos → M7, zero_add → Mb, zero_le → Mw
namespace Go.Proofs.YtefjnofhgkjpmaaGreat
open Go.RowKit Go.Bw Go.Vx
open List (length getD map take drop flatMap replicate)
namespace Vp
theorem ol {p:Prop} (h:p:=by (refine aO ?_; (omega))):p:=h
theorem r7 {p:Prop} (h:p:=by (refine decide_eq_true ?_; (omega))):p:=h
theorem w6 {p:Prop} (h:p:=by ((refine aK ?_ ?_) <;> (repeat' (first | (refine aK ?_ ?_) | (with_reducible rfl) | (refine decide_eq_true ?_) | (refine LK ?_) | (refine eT ?_))) <;> (omega))):p:=h
def l6 (a b:Nat):Int:=if a < b then -1 else if b < a then 1 else 0
theorem Ho {a b:Nat} (h:(a:Int) < b):l6 a b = -1:=if_pos (by omega)
theorem Hp {a b:Nat} (h:¬ (a:Int) < b) (h2:(b:Int) < a):l6 a b = 1:=(if_neg (by omega)).trans (if_pos (by omega))
theorem Hq {a b:Nat} (h:¬ (a:Int) < b) (h2:¬ (b:Int) < a):l6 a b = 0:=(if_neg (by omega)).trans (if_neg (by omega))
theorem w7 (a b:Nat):l6 a b < 0 ↔ a < b:=by
 unfold l6; split
 ·omega
 ·split <;> omega
def swp (X:List Nat) (i j:Nat):List Nat:=lk X ((X.set i (X.getD j jd)).set j (X.getD i jd))
theorem oo (X:List Nat) (i j:Nat):swp X i j = (X.set i (X.getD j jd)).set j (X.getD i jd):=aF _ _
theorem fS (X:List Nat) (i j:Nat):(swp X i j).length = X.length:=by rw [oo,NJ,NJ]
theorem D9 {M:List Nat} {o a:Nat} (ho:o < M.length):aj (M.map nD) o [nD a] = (M.set o a).map nD:=by
 apply List.ext_getElem?
 intro i
 rw [cj (by simp only [LU,Mu]; omega),List.getElem?_map,List.getElem?_map,List.getElem?_set]
 simp only [Mu]
 by_cases hi:o = i
 ·subst hi
  rw [if_pos (by omega),if_pos rfl,if_pos ho,MV]; rfl
 ·rw [if_neg (by omega),if_neg hi]
theorem tE {X:List Nat} {i j i' j' i2 j2:Nat} (hi:i < X.length) (hj:j < X.length) (h1:i' = i) (h2:j' = j) (h3:i2 = i) (h4:j2 = j):aj (aj (X.map nD) i' [D.v (.int .i64 ((X.getD j2 jd:Nat):Int))]) j' [D.v (.int .i64 ((X.getD i2 jd:Nat):Int))] = (swp X i j).map nD:=by
 subst h1 h2 h3 h4
 rw [show D.v (.int .i64 ((X.getD j2 jd:Nat):Int)) = nD (X.getD j2 jd) from rfl,D9 hi,show D.v (.int .i64 ((X.getD i2 jd:Nat):Int)) = nD (X.getD i2 jd) from rfl,D9 (by rw [NJ]; exact hj),oo]
theorem zy {X:List Nat} {o m:Nat} {z:Int} (ho:o < X.length) (hm:m ≤ X.length):(true && m.ble (aj (X.map nD) o [D.v (.int .i64 z)]).length) = true:=by
 rw [cK (by rw [LU,Mu]; omega),LU,L7]
 exact LK hm
def Hr (X:List Nat) (a b:Nat):Nat → List Nat
 | 0=>X
 | k + 1=>swp (Hr X a b k) (a + k) (b + k)
theorem tF (X:List Nat) (a b:Nat):∀ k,(Hr X a b k).length = X.length
 | 0=>rfl
 | k + 1=>by rw [Hr,fS,tF X a b k]
def dI (X:List Nat) (a b k:Nat):List Nat:=lk X (Hr X a b k)
theorem oq (X:List Nat) (a b k:Nat):dI X a b k = Hr X a b k:=aF _ _
theorem dj (X:List Nat) (a b k:Nat):(dI X a b k).length = X.length:=by rw [oq,tF]
theorem Cc (X:List Nat) (a b:Nat):dI X a b 0 = X:=oq X a b 0
theorem Cd (X:List Nat) (a b k:Nat):swp (dI X a b k) (a + k) (b + k) = dI X a b (k + 1):=by rw [oq,oq]; rfl
theorem Ea (a b:Nat):SpecH false Tryz.prog 176 [nD a,nD b] [] (iD (l6 a b)) []:=by
 refine SpecH.run T_ok ai Tryz.func176 rfl rfl rfl trivial rfl 1000 64 (fun R ok=>(.s 22 (.f ((a:Int) != (a:Int)) (by (simp; done)) (.s 1 (.f ((b:Int) != (b:Int)) (by (simp; done)) (.s 4 (.br (decide ((a:Int) < (b:Int))) (fun p0=>have p0f:=aU p0; (.s 1 (.out [] [] (zI (-1)) [] R (ok _ _ (by ( rw [Ho om])) wr)))) (fun p0=>have p0f:=aV p0; (.s 4 (.br (decide ((b:Int) < (a:Int))) (fun p1=>have p1f:=aU p1; (.s 1 (.out [] [] (zI 1) [] R (ok _ _ (by ( rw [Hp om om])) wr)))) (fun p1=>have p1f:=aV p1; (.s 1 (.out [] [] (zI 0) [] R (ok _ _ (by ( rw [Hq om om])) wr)))))))))))))) (by kernel_rfl)
theorem qq (W:List Nat) (L:Nat) (hL:L = W.length) (x y:Nat) (hx:x < L) (hy:y < L):SpecH true Tryz.prog 175 [nD x,nD y,.ptr 0 0 0] [⟨[.sl false L 1 (W.map nD)], 152, false⟩] (iD (l6 (W.getD x jd) (W.getD y jd))) [⟨[.sl false L 1 (W.map nD)], 152, false⟩]:=by
 refine SpecH.run T_ok ai Tryz.func175 rfl rfl rfl ⟨rfl,trivial⟩ rfl 1000 64 (fun R ok=>(.s 7 (.chk (true && decide ((x:Int) < (L:Int)) && true) w6 (.s 2 (.opt ((map nD W)[x * 1]?) (nD (getD W (x * 1) jd)) (au _ _ om) (.s 5 (.chk (true && decide ((y:Int) < (L:Int)) && true) w6 (.s 2 (.opt ((map nD W)[y * 1]?) (nD (getD W (y * 1) jd)) (au _ _ om) (.s 1 (.cl 176 false [] (.fn JC (@Ea (getD W (x * 1) jd) (getD W (y * 1) jd))) (.s 1 (.out [0] [0] (zI (l6 (getD W (x * 1) jd) (getD W (y * 1) jd))) [Blk.mk [D.sl false L 1 (map nD W)] 152 false] R (ok _ _ (by (rw [Me,Me])) wr)))))))))))))) (by kernel_rfl)
theorem Hs (X:List Nat) (N:Nat) (hN:N = X.length) (hN2:N ≤ 1000) (W:List Nat) (L:Nat) (hL:L = W.length) (a b n:Nat) (h1:a + n ≤ N) (h2:b + n ≤ N):SpecH true Tryz.prog 201 [.ref 0 0 0 N 1,nD a,nD b,nD n,.fn (.func 175) [] [.ptr 1 1 0]] [⟨X.map nD, 3, true⟩,⟨[.sl false L 1 (W.map nD)], 152, false⟩] (.tup []) [⟨(dI X a b n).map nD, 3, true⟩,⟨[.sl false L 1 (W.map nD)], 152, false⟩]:=by
 refine SpecH.run T_ok ai Tryz.func201 rfl rfl rfl ⟨lm _,rfl,trivial⟩ rfl 1000 64 (fun R ok=>(.s 1 (.blk 0 0 (Blk.mk (map nD X) 3 true) (Blk.mk (map nD (dI X a b 0)) 3 true) (by (rw [Cc]; done)) (Hn.inl T_ok ai false 38 2 (ay Tryz.prog 201 0) (fun (x:(i:Nat) ×' (hi:i ≤ n) ×' Unit)=>match x with | ⟨i,hi,_⟩=>CutS.mk [(0,D.ref 0 0 0 N 1),(1,zN a),(2,zN b),(3,zN n),(10,nD i)] [⟨0,0,0,0,.b ⟨(dI X a b i).map nD,3,true⟩⟩,⟨1,1,1,1,.b ⟨[D.sl false L 1 (map nD W)],152,false⟩⟩] 24) (fun (x:(i:Nat) ×' (hi:i ≤ n) ×' Unit)=>match x with | ⟨i,hi,_⟩=>n - i) [⟨Unit,.exit 0,fun x=>match x with | ()=>CutS.mk [(0,D.ref 0 0 0 N 1),(1,zN a),(2,zN b),(3,zN n)] [⟨0,0,0,0,.b ⟨(dI X a b n).map nD,3,true⟩⟩,⟨1,1,1,1,.b ⟨[D.sl false L 1 (map nD W)],152,false⟩⟩] 24⟩] 1000 64 (fun | ⟨i,hi,_⟩,Q,next1,last1=>(.s 4 (.br (decide ((i:Int) < (n:Int))) (fun p0=>have p0f:=aU p0; (.s 6 (.ow ((a:Int) + (i:Int)) (.s 5 (.ow ((b:Int) + (i:Int)) (.s 5 (.ow ((b:Int) + (i:Int)) (.s 1 (.chk (true && decide ((b:Int) + (i:Int) < (N:Int))) r7 (.s 2 (.opt ((map nD (dI X a b i))[0 + uM ((b:Int) + (i:Int)) * 1]?) (nD (getD (dI X a b i) (0 + uM ((b:Int) + (i:Int)) * 1) jd)) (au _ _ (by ( have h9:=dj X a b i; omega))) (.s 5 (.ow ((a:Int) + (i:Int)) (.s 1 (.chk (true && decide ((a:Int) + (i:Int) < (N:Int))) r7 (.s 2 (.opt ((map nD (dI X a b i))[0 + uM ((a:Int) + (i:Int)) * 1]?) (nD (getD (dI X a b i) (0 + uM ((a:Int) + (i:Int)) * 1) jd)) (au _ _ (by ( have h9:=dj X a b i; omega))) (.s 1 (.chk (true && decide ((a:Int) + (i:Int) < (N:Int))) r7 (.s 1 (.chk (true && LH (0 + uM ((a:Int) + (i:Int)) * 1 + 1) (length (map nD (dI X a b i)))) (by (simp;  have h9:=dj X a b i; omega)) (.lst (aj (map nD (dI X a b i)) (0 + uM ((a:Int) + (i:Int)) * 1) [zN (getD (dI X a b i) (0 + uM ((b:Int) + (i:Int)) * 1) jd)]) (aj (map nD (dI X a b i)) (uM ((a:Int) + (i:Int))) [zN (getD (dI X a b i) (uM ((b:Int) + (i:Int))) jd)]) (by (simp; done)) (.s 1 (.chk (true && decide ((b:Int) + (i:Int) < (N:Int))) r7 (.s 1 (.chk (true && LH (0 + uM ((b:Int) + (i:Int)) * 1 + 1) (length (aj (map nD (dI X a b i)) (uM ((a:Int) + (i:Int))) [zN (getD (dI X a b i) (uM ((b:Int) + (i:Int))) jd)]))) (by ( have h9:=dj X a b i; exact zy om om)) (.lst (aj (aj (map nD (dI X a b i)) (uM ((a:Int) + (i:Int))) [zN (getD (dI X a b i) (uM ((b:Int) + (i:Int))) jd)]) (0 + uM ((b:Int) + (i:Int)) * 1) [zN (getD (dI X a b i) (0 + uM ((a:Int) + (i:Int)) * 1) jd)]) (aj (aj (map nD (dI X a b i)) (uM ((a:Int) + (i:Int))) [zN (getD (dI X a b i) (uM ((b:Int) + (i:Int))) jd)]) (uM ((b:Int) + (i:Int))) [zN (getD (dI X a b i) (uM ((a:Int) + (i:Int))) jd)]) (by (simp; done)) (.s 3 (.ow ((i:Int) + 1) (.s 1 (.val 10 (zI ((i:Int) + 1)) (zN (i + 1)) ol (.blk 0 0 (Blk.mk (aj (aj (map nD (dI X a b i)) (uM ((a:Int) + (i:Int))) [zN (getD (dI X a b i) (uM ((b:Int) + (i:Int))) jd)]) (uM ((b:Int) + (i:Int))) [zN (getD (dI X a b i) (uM ((a:Int) + (i:Int))) jd)]) 3 true) (Blk.mk (map nD (dI X a b (i + 1))) 3 true) (by ( have h9:=dj X a b i; refine aC (Pa (tE (i:=a + i) (j:=b + i) om om om om om om) ?_); rw [Cd])) (Hn.next next1 ⟨(i + 1),om,⟨⟩⟩ (by show n - (i + 1) < n - i; clear next1 last1; omega) [(0,0),(1,1)] ro))))))))))))))))))))))))))))))))) (fun p0=>have p0f:=aV p0; (.blk 0 0 (Blk.mk (map nD (dI X a b i)) 3 true) (Blk.mk (map nD (dI X a b n)) 3 true) (by (rw [show i = n from by (omega)])) (Hn.last last1 0 (():Unit) rfl [(0,0),(1,1)] ro)))))) (fun | ⟨i,hi,_⟩=>by kernel_rfl) ⟨(0),om,⟨⟩⟩ [(0,0),(1,1)] ro (b5 (fun | ()=>(.out [0,1] [0,1] (D.tup []) [Blk.mk (map nD (dI X a b n)) 3 true,Blk.mk [D.sl false L 1 (map nD W)] 152 false] R (ok _ _ wr wr)))))))) (by kernel_rfl)
def f9 (m:Nat):Nat → Nat → Nat → List Nat → List Nat
 | 0,i,_,X=>dI X (m - i) m i
 | f + 1,i,j,X=>if i = j then dI X (m - i) m i else if j < i then f9 m f (i - j) j (dI X (m - i) m j) else f9 m f i (j - i) (dI X (m - i) (m + j - i) i)
theorem Ht {m f i j:Nat} {X:List Nat} (h:i = j):f9 m f i j X = dI X (m - i) m i:=by
 cases f with
 | zero=>rfl
 | succ f=>exact if_pos h
theorem Hu {m f i j:Nat} {X:List Nat} (h:j < i):f9 m (f + 1) i j X = f9 m f (i - j) j (dI X (m - i) m j):=(if_neg (by omega)).trans (if_pos h)
theorem Hv {m f i j:Nat} {X:List Nat} (h:i < j):f9 m (f + 1) i j X = f9 m f i (j - i) (dI X (m - i) (m + j - i) i):=(if_neg (by omega)).trans (if_neg (by omega))
def w8 (X:List Nat) (a m b:Nat):List Nat:=lk X (f9 m (b - a) (m - a) (b - m) X)
theorem tG (X:List Nat) (a m b:Nat):w8 X a m b = f9 m (b - a) (m - a) (b - m) X:=aF _ _
def inI (W:List Nat) (a:Nat):Nat → List Nat → List Nat
 | 0,X=>X
 | j + 1,X=>if a < j + 1 ∧ W.getD (X.getD (j + 1) jd) jd < W.getD (X.getD j jd) jd then inI W a j (swp X (j + 1) j) else X
theorem Hw {W:List Nat} {a j k:Nat} {X:List Nat} (hk:k + 1 = j) (h:a < j) (h2:W.getD (X.getD j jd) jd < W.getD (X.getD k jd) jd):inI W a j X = inI W a k (swp X j k):=by
 subst hk; exact if_pos ⟨h,h2⟩
theorem Ce {W:List Nat} {a j:Nat} {X:List Nat} (h:¬ a < j ∨ ¬ W.getD (X.getD j jd) jd < W.getD (X.getD (j - 1) jd) jd):inI W a j X = X:=by
 cases j with
 | zero=>rfl
 | succ j=>exact if_neg (fun q=>by rcases h with h | h; exact h q.1; exact h q.2)
theorem tH {W:List Nat} {a:Nat}:∀ (j:Nat) (X:List Nat),(inI W a j X).length = X.length
 | 0,_=>rfl
 | j + 1,X=>by
  rw [inI]; split
  ·rw [tH j,fS]
  ·rfl
def Hx (W X:List Nat) (a:Nat):Nat → List Nat
 | 0=>X
 | k + 1=>inI W a (a + 1 + k) (Hx W X a k)
theorem tI (W X:List Nat) (a:Nat):∀ k,(Hx W X a k).length = X.length
 | 0=>rfl
 | k + 1=>by rw [Hx,tH,tI W X a k]
def inQ (W X:List Nat) (a k:Nat):List Nat:=lk X (Hx W X a k)
theorem ot (W X:List Nat) (a k:Nat):inQ W X a k = Hx W X a k:=aF _ _
theorem iN (W X:List Nat) (a k:Nat):(inQ W X a k).length = X.length:=by rw [ot,tI]
theorem w9 (W X:List Nat) (a:Nat):inQ W X a 0 = X:=ot W X a 0
theorem xa (W X:List Nat) (a k:Nat):inI W a (a + 1 + k) (inQ W X a k) = inQ W X a (k + 1):=by rw [ot,ot]; rfl
theorem Cf (X:List Nat) (N:Nat) (hN:N = X.length) (hN2:N ≤ 1000) (W:List Nat) (L:Nat) (hL:L = W.length) (a b n:Int) (a' b' n' : Nat) (e1:a = a') (e2:b = b') (e3:n = n') (h1:a' + n' ≤ N) (h2:b' + n' ≤ N):SpecH true Tryz.prog 201 [.ref 0 0 0 N 1,iD a,iD b,iD n,.fn (.func 175) [] [.ptr 1 1 0]] [⟨X.map nD, 3, true⟩,⟨[.sl false L 1 (W.map nD)], 152, false⟩] (.tup []) [⟨(dI X a' b' n').map nD, 3, true⟩,⟨[.sl false L 1 (W.map nD)], 152, false⟩]:=by
 subst e1 e2 e3
 exact Hs X N hN hN2 W L hL a' b' n' h1 h2
theorem Cg (X:List Nat) (N:Nat) (hN:N = X.length) (hN2:N ≤ 1000) (W:List Nat) (L:Nat) (hL:L = W.length) (m i j:Nat) (h1:i ≤ m) (h2:m + j ≤ N) (h3:j ≤ i):SpecH true Tryz.prog 201 [.ref 0 0 0 N 1,iD ((m:Int) - i),iD ((m:Nat):Int),nD j,.fn (.func 175) [] [.ptr 1 1 0]] [⟨X.map nD, 3, true⟩,⟨[.sl false L 1 (W.map nD)], 152, false⟩] (.tup []) [⟨(dI X (m - i) m j).map nD, 3, true⟩,⟨[.sl false L 1 (W.map nD)], 152, false⟩]:=Cf X N hN hN2 W L hL _ _ _ (m - i) m j (by omega) rfl rfl (by omega) (by omega)
theorem Hy (X:List Nat) (N:Nat) (hN:N = X.length) (hN2:N ≤ 1000) (W:List Nat) (L:Nat) (hL:L = W.length) (m i j:Nat) (h1:i ≤ m) (h2:m + j ≤ N) (h3:i ≤ j):SpecH true Tryz.prog 201 [.ref 0 0 0 N 1,iD ((m:Int) - i),iD ((m:Int) + j - i),nD i,.fn (.func 175) [] [.ptr 1 1 0]] [⟨X.map nD, 3, true⟩,⟨[.sl false L 1 (W.map nD)], 152, false⟩] (.tup []) [⟨(dI X (m - i) (m + j - i) i).map nD, 3, true⟩,⟨[.sl false L 1 (W.map nD)], 152, false⟩]:=Cf X N hN hN2 W L hL _ _ _ (m - i) (m + j - i) i (by omega) (by omega) rfl (by omega) (by omega)
theorem Eb {m f i j:Nat} {X T:List Nat} (hR:f9 m f i j X = T) (hf:i + j ≤ f) (h1:1 ≤ j) (h:j < i):f9 m (f - 1) (i - j) j (dI X (m - i) m j) = T:=by
 obtain ⟨g,rfl⟩:∃ g,f = g + 1:=⟨f - 1,by omega⟩
 rw [← hR,Hu h]; rfl
theorem Ec {m f i j:Nat} {X T:List Nat} (hR:f9 m f i j X = T) (hf:i + j ≤ f) (h1:1 ≤ i) (h:i < j):f9 m (f - 1) i (j - i) (dI X (m - i) (m + j - i) i) = T:=by
 obtain ⟨g,rfl⟩:∃ g,f = g + 1:=⟨f - 1,by omega⟩
 rw [← hR,Hv h]; rfl
theorem Ed {m f i j:Nat} {X T:List Nat} (hR:f9 m f i j X = T) (h:i = j):dI X (m - i) m i = T:=by rw [← hR,Ht h]
theorem Hz (X:List Nat) (N:Nat) (hN:N = X.length) (hN2:N ≤ 1000) (W:List Nat) (L:Nat) (hL:L = W.length) (a m b:Nat) (h1:a < m) (h2:m < b) (h3:b ≤ N) (T:List Nat) (hT:w8 X a m b = T):SpecH true Tryz.prog 200 [.ref 0 0 0 N 1,nD a,nD m,nD b,.fn (.func 175) [] [.ptr 1 1 0]] [⟨X.map nD, 3, true⟩,⟨[.sl false L 1 (W.map nD)], 152, false⟩] (.tup []) [⟨(T).map nD, 3, true⟩,⟨[.sl false L 1 (W.map nD)], 152, false⟩]:=by
 refine SpecH.run T_ok ai Tryz.func200 rfl rfl rfl ⟨lm _,rfl,trivial⟩ rfl 1000 64 (fun R ok=>(.s 4 (.ow ((m:Int) - (a:Int)) (.s 5 (.ow ((b:Int) - (m:Int)) (.s 1 (.val 10 (zI ((m:Int) - (a:Int))) (zN (m - a)) ol (.val 11 (zI ((b:Int) - (m:Int))) (zN (b - m)) ol (Hn.inl T_ok ai false 58 2 (ay Tryz.prog 200 0) (fun (x:(i:Nat) ×' (j:Nat) ×' (f:Nat) ×' (Y:List Nat) ×' (hY:Y.length = N) ×' (hi:1 ≤ i ∧ i ≤ m) ×' (hj:1 ≤ j ∧ m + j ≤ N) ×' (hf:i + j ≤ f) ×' (hR:f9 m f i j Y = T) ×' Unit)=>match x with | ⟨i,j,f,Y,hY,hi,hj,hf,hR,_⟩=>CutS.mk [(0,D.ref 0 0 0 N 1),(2,zN m),(4,D.fn (Mn 175) [] [D.ptr 1 1 0]),(10,nD i),(11,nD j)] [⟨0,0,0,0,.b ⟨Y.map nD,3,true⟩⟩,⟨1,1,1,1,.b ⟨[D.sl false L 1 (map nD W)],152,false⟩⟩] 24) (fun (x:(i:Nat) ×' (j:Nat) ×' (f:Nat) ×' (Y:List Nat) ×' (hY:Y.length = N) ×' (hi:1 ≤ i ∧ i ≤ m) ×' (hj:1 ≤ j ∧ m + j ≤ N) ×' (hf:i + j ≤ f) ×' (hR:f9 m f i j Y = T) ×' Unit)=>match x with | ⟨i,j,f,Y,hY,hi,hj,hf,hR,_⟩=>i + j) [⟨(i2:Nat) ×' (Y2:List Nat) ×' (hY2:Y2.length = N) ×' (hi2:1 ≤ i2 ∧ i2 ≤ m ∧ m + i2 ≤ N) ×' (hR2:dI Y2 (m - i2) m i2 = T) ×' Unit,.exit 0,fun x=>match x with | ⟨i2,Y2,hY2,hi2,hR2,_⟩=>CutS.mk [(0,D.ref 0 0 0 N 1),(2,zN m),(4,D.fn (Mn 175) [] [D.ptr 1 1 0]),(10,nD i2),(11,nD i2)] [⟨0,0,0,0,.b ⟨Y2.map nD,3,true⟩⟩,⟨1,1,1,1,.b ⟨[D.sl false L 1 (map nD W)],152,false⟩⟩] 24⟩] 1000 64 (fun | ⟨i,j,f,Y,hY,hi,hj,hf,hR,_⟩,Q,next1,last1=>(.s 4 (.br ((i:Int) != (j:Int)) (fun p0=>have p0f:=pY p0; (.s 4 (.br (decide ((j:Int) < (i:Int))) (fun p1=>have p1f:=aU p1; (.s 5 (.ow ((m:Int) - (i:Int)) (.s 4 (.call 201 true [0,1] (true) wr ([D.ref 0 0 0 N 1,zI ((m:Int) - (i:Int)),zN m,zN j,D.fn (Mn 175) [] [D.ptr 1 1 0]]) _ (bW.refl _) (ab (map nD Y) && true) (by (simp; done)) _ _ _ (CallOk.fn (aA.of Tryz.func201 rfl rfl) (@Cg (Y) (N) om om (W) (L) om (m) (i) (j) om om om)) (.s 4 (.ow ((i:Int) - (j:Int)) (.s 1 (.val 10 (zI ((i:Int) - (j:Int))) (zN (i - j)) ol (Hn.next next1 ⟨(i - j),(j),(f - 1),(dI Y (m - i) m j),(by (rw [dj]; (omega))),om,om,om,(by ( exact Eb hR om om om)),⟨⟩⟩ (by show i - j + j < i + j; clear next1 last1; omega) [(0,0),(1,1)] ro)))))))))) (fun p1=>have p1f:=aV p1; (.s 5 (.ow ((m:Int) - (i:Int)) (.s 4 (.ow ((m:Int) + (j:Int)) (.s 3 (.ow ((m:Int) + (j:Int) - (i:Int)) (.s 3 (.call 201 true [0,1] (true) wr ([D.ref 0 0 0 N 1,zI ((m:Int) - (i:Int)),zI ((m:Int) + (j:Int) - (i:Int)),zN i,D.fn (Mn 175) [] [D.ptr 1 1 0]]) _ (bW.refl _) (ab (map nD Y) && true) (by (simp; done)) _ _ _ (CallOk.fn (aA.of Tryz.func201 rfl rfl) (@Hy (Y) (N) om om (W) (L) om (m) (i) (j) om om om)) (.s 4 (.ow ((j:Int) - (i:Int)) (.s 1 (.val 11 (zI ((j:Int) - (i:Int))) (zN (j - i)) ol (Hn.next next1 ⟨(i),(j - i),(f - 1),(dI Y (m - i) (m + j - i) i),(by (rw [dj]; (omega))),om,om,om,(by ( exact Ec hR om om om)),⟨⟩⟩ (by show i + (j - i) < i + j; clear next1 last1; omega) [(0,0),(1,1)] ro))))))))))))))))) (fun p0=>have p0f:=pZ p0; (.val 11 (zN j) (zN i) ol (Hn.last last1 0 (⟨(i),(Y),om,om,(by ( rw [Ed hR om])),⟨⟩⟩:(i2:Nat) ×' (Y2:List Nat) ×' (hY2:Y2.length = N) ×' (hi2:1 ≤ i2 ∧ i2 ≤ m ∧ m + i2 ≤ N) ×' (hR2:dI Y2 (m - i2) m i2 = T) ×' Unit) rfl [(0,0),(1,1)] ro)))))) (fun | ⟨i,j,f,Y,hY,hi,hj,hf,hR,_⟩=>by kernel_rfl) ⟨(m - a),(b - m),(b - a),(X),om,om,om,om,(by (exact (tG X a m b).symm.trans hT)),⟨⟩⟩ [(0,0),(1,1)] ro (b5 (fun | ⟨i2,Y2,hY2,hi2,hR2,_⟩=>(.s 5 (.ow ((m:Int) - (i2:Int)) (.s 4 (.call 201 true [0,1] (true) wr ([D.ref 0 0 0 N 1,zI ((m:Int) - (i2:Int)),zN m,zN i2,D.fn (Mn 175) [] [D.ptr 1 1 0]]) _ (bW.refl _) (ab (map nD Y2) && true) (by (simp; done)) _ _ _ (CallOk.fn (aA.of Tryz.func201 rfl rfl) (@Cg (Y2) (N) om om (W) (L) om (m) (i2) (i2) om om om)) (.out [0,1] [0,1] (D.tup []) [Blk.mk (map nD (dI Y2 (m - i2) m i2)) 3 true,Blk.mk [D.sl false L 1 (map nD W)] 152 false] R (ok _ _ wr (by (simp_all; done))))))))))))))))))) (by kernel_rfl)
def bq (L:Nat) (X:List Nat):Prop:=∀ x ∈ X,x < L
theorem bq.at {L:Nat} {X:List Nat} (h:bq L X) {t:Nat} (ht:t < X.length):X.getD t jd < L:=by
 rw [List.getD_eq_getElem?_getD,List.getElem?_eq_getElem ht]; exact h _ (Mr ht)
theorem bq.swp {L:Nat} {X:List Nat} (h:bq L X) {i j:Nat} (hi:i < X.length) (hj:j < X.length):bq L (swp X i j):=by
 intro x hx
 rw [oo] at hx
 rcases OL hx with q | q
 ·rcases OL q with q | q
  ·exact h x q
  ·rw [q]; exact h.at hj
 ·rw [q]; exact h.at hi
theorem bq.inI {L:Nat} {W:List Nat} {a:Nat}:∀ (j:Nat) {X:List Nat},bq L X → j < X.length → bq L (inI W a j X)
 | 0,_,h,_=>h
 | j + 1,X,h,hj=>by
  rw [Vp.inI]; split
  ·exact bq.inI j (h.swp hj (by omega)) (by rw [fS]; omega)
  ·exact h
theorem bq.inQ {L:Nat} {W X:List Nat} {a:Nat} (h:bq L X):∀ (k:Nat),a + k < X.length → bq L (inQ W X a k)
 | 0,_=>by rw [w9]; exact h
 | k + 1,hk=>by
  rw [← xa]
  exact bq.inI _ (bq.inQ h k (by omega)) (by rw [iN]; omega)
theorem Ee {W Y T:List Nat} {a j u v:Nat} (hR:inI W a j Y = T) (h:a < j) (hu:u = j) (hv:v = j - 1) (h2:l6 (W.getD (Y.getD u jd) jd) (W.getD (Y.getD v jd) jd) < 0):inI W a (j - 1) (swp Y j (j - 1)) = T:=by
 subst hu hv
 rw [← hR]; exact (Hw (by omega) h ((w7 _ _).1 h2)).symm
theorem Ef {W Y T:List Nat} {a j:Nat} (hR:inI W a j Y = T) (h:¬ a < j):Y = T:=by rw [← hR,Ce (.inl h)]
theorem Eg {W Y T:List Nat} {a j u v:Nat} (hR:inI W a j Y = T) (hu:u = j) (hv:v = j - 1) (h2:¬ l6 (W.getD (Y.getD u jd) jd) (W.getD (Y.getD v jd) jd) < 0):Y = T:=by
 subst hu hv
 rw [← hR,Ce (.inr fun q=>h2 ((w7 _ _).2 q))]
theorem HA (X:List Nat) (N:Nat) (hN:N = X.length) (hN2:N ≤ 1000) (W:List Nat) (L:Nat) (hL:L = W.length) (hA:bq L X) (a b:Nat) (h1:a ≤ b) (h3:b ≤ N) (T:List Nat) (hT:inQ W X a (b - (a + 1)) = T):SpecH true Tryz.prog 196 [.ref 0 0 0 N 1,nD a,nD b,.fn (.func 175) [] [.ptr 1 1 0]] [⟨X.map nD, 3, true⟩,⟨[.sl false L 1 (W.map nD)], 152, false⟩] (.tup []) [⟨(T).map nD, 3, true⟩,⟨[.sl false L 1 (W.map nD)], 152, false⟩]:=by
 refine SpecH.run T_ok ai Tryz.func196 rfl rfl rfl ⟨lm _,rfl,trivial⟩ rfl 1000 64 (fun R ok=>(.s 3 (.ow ((a:Int) + 1) (.s 1 (.val 8 (zI ((a:Int) + 1)) (zN (a + 1 + 0)) ol (.blk 0 0 (Blk.mk (map nD X) 3 true) (Blk.mk (map nD (inQ W X a 0)) 3 true) (by (rw [w9]; done)) (Hn.inl T_ok ai false 53 2 (ay Tryz.prog 196 0) (fun (x:(k:Nat) ×' (hk:k ≤ b - (a + 1)) ×' Unit)=>match x with | ⟨k,hk,_⟩=>CutS.mk [(0,D.ref 0 0 0 N 1),(1,zN a),(2,zN b),(3,D.fn (Mn 175) [] [D.ptr 1 1 0]),(8,nD (a + 1 + k))] [⟨0,0,0,0,.b ⟨(inQ W X a k).map nD,3,true⟩⟩,⟨1,1,1,1,.b ⟨[D.sl false L 1 (map nD W)],152,false⟩⟩] 24) (fun (x:(k:Nat) ×' (hk:k ≤ b - (a + 1)) ×' Unit)=>match x with | ⟨k,hk,_⟩=>b - (a + 1) - k) [⟨Unit,.exit 0,fun x=>match x with | ()=>CutS.mk [(0,D.ref 0 0 0 N 1),(1,zN a),(2,zN b),(3,D.fn (Mn 175) [] [D.ptr 1 1 0])] [⟨0,0,0,0,.b ⟨T.map nD,3,true⟩⟩,⟨1,1,1,1,.b ⟨[D.sl false L 1 (map nD W)],152,false⟩⟩] 24⟩] 1000 64 (fun | ⟨k,hk,_⟩,Q,next1,last1=>(.s 4 (.br (decide ((↑(a + 1 + k):Int) < (b:Int))) (fun p0=>have p0f:=aU p0; (.s 2 (Hn.inl T_ok ai false 53 2 (ay Tryz.prog 196 1) (fun (x:(j:Nat) ×' (Y:List Nat) ×' (hY:Y.length = N) ×' (hj:a ≤ j ∧ j ≤ a + 1 + k) ×' (hB:bq L Y) ×' (hR:inI W a j Y = inQ W X a (k + 1)) ×' Unit)=>match x with | ⟨j,Y,hY,hj,hB,hR,_⟩=>CutS.mk [(0,D.ref 0 0 0 N 1),(1,zN a),(2,zN b),(3,D.fn (Mn 175) [] [D.ptr 1 1 0]),(8,zN (a + 1 + k)),(9,nD j)] [⟨0,0,0,0,.b ⟨Y.map nD,3,true⟩⟩,⟨1,1,1,1,.b ⟨[D.sl false L 1 (map nD W)],152,false⟩⟩] 24) (fun (x:(j:Nat) ×' (Y:List Nat) ×' (hY:Y.length = N) ×' (hj:a ≤ j ∧ j ≤ a + 1 + k) ×' (hB:bq L Y) ×' (hR:inI W a j Y = inQ W X a (k + 1)) ×' Unit)=>match x with | ⟨j,Y,hY,hj,hB,hR,_⟩=>j) [⟨Unit,.exit 2,fun x=>match x with | ()=>CutS.mk [(0,D.ref 0 0 0 N 1),(1,zN a),(2,zN b),(3,D.fn (Mn 175) [] [D.ptr 1 1 0]),(8,zN (a + 1 + k))] [⟨0,0,0,0,.b ⟨(inQ W X a (k + 1)).map nD,3,true⟩⟩,⟨1,1,1,1,.b ⟨[D.sl false L 1 (map nD W)],152,false⟩⟩] 24⟩] 1000 64 (fun | ⟨j,Y,hY,hj,hB,hR,_⟩,Q,next2,last2=>(.s 7 (.br (decide ((a:Int) < (j:Int))) (fun p1=>have p1f:=aU p1; (.s 6 (.chk (true && decide ((j:Int) < (N:Int))) r7 (.s 3 (.opt ((map nD Y)[0 + j * 1]?) (nD (getD Y (0 + j * 1) jd)) (au _ _ om) (.s 7 (.ow ((j:Int) - 1) (.s 2 (.chk (decide (0 ≤ (j:Int) - 1) && decide ((j:Int) - 1 < (N:Int))) w6 (.s 3 (.opt ((map nD Y)[0 + uM ((j:Int) - 1) * 1]?) (nD (getD Y (0 + uM ((j:Int) - 1) * 1) jd)) (au _ _ om) (.s 2 (.cl 175 true [1] (.fn wC (@qq (W) (L) om (getD Y (0 + j * 1) jd) (getD Y (0 + uM ((j:Int) - 1) * 1) jd) (by ( exact hB.at om)) (by ( exact hB.at om)))) (.s 4 (.br (decide (l6 (getD W (getD Y (0 + j * 1) jd) jd) (getD W (getD Y (0 + uM ((j:Int) - 1) * 1) jd) jd) < 0)) (fun p2=>have p2f:=aU p2; (.s 7 (.ow ((j:Int) - 1) (.s 4 (.ow ((j:Int) - 1) (.s 1 (.chk (decide (0 ≤ (j:Int) - 1) && decide ((j:Int) - 1 < (N:Int))) w6 (.s 2 (.opt ((map nD Y)[0 + uM ((j:Int) - 1) * 1]?) (nD (getD Y (0 + uM ((j:Int) - 1) * 1) jd)) (au _ _ om) (.s 3 (.chk (true && decide ((j:Int) < (N:Int))) r7 (.s 2 (.opt ((map nD Y)[0 + j * 1]?) (nD (getD Y (0 + j * 1) jd)) (au _ _ om) (.s 1 (.chk (true && decide ((j:Int) < (N:Int))) r7 (.s 1 (.chk (true && LH (0 + j * 1 + 1) (length (map nD Y))) (by (simp;  have h9:=iN W X a k; omega)) (.lst (aj (map nD Y) (0 + j * 1) [zN (getD Y (0 + uM ((j:Int) - 1) * 1) jd)]) (aj (map nD Y) j [zN (getD Y (uM ((j:Int) - 1)) jd)]) (by (simp; done)) (.s 1 (.chk (decide (0 ≤ (j:Int) - 1) && decide ((j:Int) - 1 < (N:Int))) w6 (.s 1 (.chk (true && LH (0 + uM ((j:Int) - 1) * 1 + 1) (length (aj (map nD Y) j [zN (getD Y (uM ((j:Int) - 1)) jd)]))) (by ( exact zy om om)) (.lst (aj (aj (map nD Y) j [zN (getD Y (uM ((j:Int) - 1)) jd)]) (0 + uM ((j:Int) - 1) * 1) [zN (getD Y (0 + j * 1) jd)]) (aj (aj (map nD Y) j [zN (getD Y (uM ((j:Int) - 1)) jd)]) (uM ((j:Int) - 1)) [zN (getD Y j jd)]) (by (simp; done)) (.s 3 (.ow ((j:Int) - 1) (.s 1 (.val 9 (zI ((j:Int) - 1)) (zN (j - 1)) ol (.blk 0 0 (Blk.mk (aj (aj (map nD Y) j [zN (getD Y (uM ((j:Int) - 1)) jd)]) (uM ((j:Int) - 1)) [zN (getD Y j jd)]) 3 true) (Blk.mk (map nD (swp Y j (j - 1))) 3 true) (by ( exact aC (tE om om om om om om))) (Hn.next next2 ⟨(j - 1),(swp Y j (j - 1)),(by (rw [fS]; (omega))),om,(by ( exact hB.swp om om)),(by ( exact Ee (u:=0 + j * 1) (v:=0 + ((j:Int) - 1).toNat * 1) hR om om om bx)),⟨⟩⟩ (by show j - 1 < j; clear next2 last2 next1 last1; omega) [(0,0),(1,1)] ro))))))))))))))))))))))))))))) (fun p2=>have p2f:=aV p2; (.blk 0 0 (Blk.mk (map nD Y) 3 true) (Blk.mk (map nD (inQ W X a (k + 1))) 3 true) (by ( rw [Eg (u:=0 + j * 1) (v:=0 + ((j:Int) - 1).toNat * 1) hR om om bx])) (Hn.last last2 0 (():Unit) rfl [(0,0),(1,1)] ro)))))))))))))))))) (fun p1=>have p1f:=aV p1; (.s 24 (.blk 0 0 (Blk.mk (map nD Y) 3 true) (Blk.mk (map nD (inQ W X a (k + 1))) 3 true) (by ( rw [Ef hR om])) (Hn.last last2 0 (():Unit) rfl [(0,0),(1,1)] ro))))))) (fun | ⟨j,Y,hY,hj,hB,hR,_⟩=>by kernel_rfl) ⟨(a + 1 + k),(inQ W X a k),(by ( have h9:=iN W X a k; omega)),om,(by ( have h9:=iN W X a k; exact bq.inQ hA k om)),(by (exact xa W X a k)),⟨⟩⟩ [(0,0),(1,1)] ro (b5 (fun | ()=>(.s 3 (.ow ((↑(a + 1 + k):Int) + 1) (.s 1 (.val 8 (zI ((↑(a + 1 + k):Int) + 1)) (zN (a + 1 + (k + 1))) ol (Hn.next next1 ⟨(k + 1),om,⟨⟩⟩ (by show b - (a + 1) - (k + 1) < b - (a + 1) - k; clear next1 last1; omega) [(0,0),(1,1)] ro)))))))))) (fun p0=>have p0f:=aV p0; (.blk 0 0 (Blk.mk (map nD (inQ W X a k)) 3 true) (Blk.mk (map nD T) 3 true) (by ( rw [← hT,show b - (a + 1) = k from by omega])) (Hn.last last1 0 (():Unit) rfl [(0,0),(1,1)] ro)))))) (fun | ⟨k,hk,_⟩=>by kernel_rfl) ⟨(0),om,⟨⟩⟩ [(0,0),(1,1)] ro (b5 (fun | ()=>(.out [0,1] [0,1] (D.tup []) [Blk.mk (map nD T) 3 true,Blk.mk [D.sl false L 1 (map nD W)] 152 false] R (ok _ _ wr wr))))))))))) (by kernel_rfl)
end Vp
end Go.Proofs.YtefjnofhgkjpmaaGreat
namespace Go.Proofs.YtefjnofhgkjpmaaGreat
open Go.RowKit Go.Bw Go.Vx
open List (length getD map take drop flatMap replicate)
namespace Vp
theorem dz {p:Prop} (h:p:=by (refine decide_eq_true ?_; (omega))):p:=h
theorem ou {p:Prop} (h:p:=by (refine decide_eq_false ?_; (omega))):p:=h
theorem qr {p:Prop} (h:p:=by (refine aO ?_; (omega))):p:=h
theorem zz {p:Prop} (h:p:=by show y - ((x + y) / 2 + 1) < y - x; clear next1 last1; omega):p:=h
theorem zA {p:Prop} (h:p:=by show (x + y) / 2 - x < y - x; clear next1 last1; omega):p:=h
theorem zB {p:Prop} (h:p:=by ( have z:=xb hR om; refine aO ?_; omega)):p:=h
theorem zC {p:Prop} (h:p:=by ((refine aK ?_ ?_) <;> (repeat' (first | (refine aK ?_ ?_) | (with_reducible rfl) | (refine decide_eq_true ?_) | (refine LK ?_) | (refine eT ?_))) <;> (omega))):p:=h
theorem zD {p:Prop} (h:p:=by ( have z:=hE.e3 om; refine aO ?_; omega)):p:=h
theorem zE {p:Prop} (h:p:=by ( have z:=hE.e4 om; refine aO ?_; omega)):p:=h
theorem HC {p:Prop} (h:p:=by show (!decide _) = true; rw [decide_eq_false (show ¬ HD W X _ _ < 0 from hp)]; rfl):p:=h
theorem Ch {p:Prop} (h:p:=by show ¬ (!decide _) = true; rw [decide_eq_true (show HD W X _ _ < 0 from hp)]; decide):p:=h
theorem Ci {p:Prop} (h:p:=by ( exact J5 (u:=0 + (((x:Int) + (y:Int)) / 2).toNat * 1) (v:=0 + (((a:Int) + (b:Int)) / 2 + (m:Int) - 1 - ((x:Int) + (y:Int)) / 2).toNat * 1) hR om om om om bx)):p:=h
theorem Cj {p:Prop} (h:p:=by ( exact J6 (u:=0 + (((x:Int) + (y:Int)) / 2).toNat * 1) (v:=0 + (((a:Int) + (b:Int)) / 2 + (m:Int) - 1 - ((x:Int) + (y:Int)) / 2).toNat * 1) hR om om om om bx)):p:=h
def gb (p:Nat → Bool):Nat → Nat → Nat → Nat
 | 0,i,_=>i
 | f + 1,i,j=>if i < j then (if p ((i + j) / 2) = true then gb p f ((i + j) / 2 + 1) j else gb p f i ((i + j) / 2)) else i
theorem xb {p:Nat → Bool} {f i j T:Nat} (hR:gb p f i j = T) (h:¬ i < j):i = T:=by
 rw [← hR]; cases f with
 | zero=>rfl
 | succ f=>exact (if_neg h).symm
theorem Eh {p:Nat → Bool} {f i j T:Nat} (hR:gb p f i j = T) (hf:j - i ≤ f) (h:i < j) (hp:p ((i + j) / 2) = true):gb p (f - 1) ((i + j) / 2 + 1) j = T:=by
 obtain ⟨g,rfl⟩:∃ g,f = g + 1:=⟨f - 1,by omega⟩
 rw [← hR]; exact ((if_pos h).trans (if_pos hp)).symm
theorem Ei {p:Nat → Bool} {f i j T:Nat} (hR:gb p f i j = T) (hf:j - i ≤ f) (h:i < j) (hp:¬ p ((i + j) / 2) = true):gb p (f - 1) i ((i + j) / 2) = T:=by
 obtain ⟨g,rfl⟩:∃ g,f = g + 1:=⟨f - 1,by omega⟩
 rw [← hR]; exact ((if_pos h).trans (if_neg hp)).symm
theorem lE {p:Nat → Bool}:∀ (f i j:Nat),i ≤ j → i ≤ gb p f i j ∧ gb p f i j ≤ j
 | 0,i,j,h=>⟨LV _,h⟩
 | f + 1,i,j,h=>by
  rw [gb]; split
  ·split
   ·have:=lE (p:=p) f ((i + j) / 2 + 1) j (by omega); omega
   ·have:=lE (p:=p) f i ((i + j) / 2) (by omega); omega
  ·exact ⟨LV _,h⟩
def HD (W X:List Nat) (u v:Nat):Int:=l6 (W.getD (X.getD u jd) jd) (W.getD (X.getD v jd) jd)
def qA (W X:List Nat) (a h:Nat):Bool:=decide (HD W X h a < 0)
def qB (W X:List Nat) (m h:Nat):Bool:=!decide (HD W X m h < 0)
def qC (W X:List Nat) (q c:Nat):Bool:=!decide (HD W X (q - c) c < 0)
section
variable {W X:List Nat} {f x y T a u v:Nat}
theorem J1 (hR:gb (qA W X a) f x y = T) (hf:y - x ≤ f) (h:x < y) (hu:u = (x + y) / 2) (hv:v = a) (hp:l6 (W.getD (X.getD u jd) jd) (W.getD (X.getD v jd) jd) < 0):gb (qA W X a) (f - 1) ((x + y) / 2 + 1) y = T:=by
 subst hu hv; exact Eh hR hf h (decide_eq_true hp)
theorem J2 (hR:gb (qA W X a) f x y = T) (hf:y - x ≤ f) (h:x < y) (hu:u = (x + y) / 2) (hv:v = a) (hp:¬ l6 (W.getD (X.getD u jd) jd) (W.getD (X.getD v jd) jd) < 0):gb (qA W X a) (f - 1) x ((x + y) / 2) = T:=by
 subst hu hv; exact Ei hR hf h (fun q=>hp (of_decide_eq_true q))
theorem J3 (hR:gb (qB W X a) f x y = T) (hf:y - x ≤ f) (h:x < y) (hu:u = (x + y) / 2) (hv:v = a) (hp:¬ l6 (W.getD (X.getD v jd) jd) (W.getD (X.getD u jd) jd) < 0):gb (qB W X a) (f - 1) ((x + y) / 2 + 1) y = T:=by
 subst hu hv; exact Eh hR hf h HC
theorem J4 (hR:gb (qB W X a) f x y = T) (hf:y - x ≤ f) (h:x < y) (hu:u = (x + y) / 2) (hv:v = a) (hp:l6 (W.getD (X.getD v jd) jd) (W.getD (X.getD u jd) jd) < 0):gb (qB W X a) (f - 1) x ((x + y) / 2) = T:=by
 subst hu hv; exact Ei hR hf h Ch
theorem J5 (hR:gb (qC W X a) f x y = T) (hf:y - x ≤ f) (h:x < y) (hu:u = (x + y) / 2) (hv:v = a - (x + y) / 2) (hp:¬ l6 (W.getD (X.getD v jd) jd) (W.getD (X.getD u jd) jd) < 0):gb (qC W X a) (f - 1) ((x + y) / 2 + 1) y = T:=by
 subst hu hv; exact Eh hR hf h HC
theorem J6 (hR:gb (qC W X a) f x y = T) (hf:y - x ≤ f) (h:x < y) (hu:u = (x + y) / 2) (hv:v = a - (x + y) / 2) (hp:l6 (W.getD (X.getD v jd) jd) (W.getD (X.getD u jd) jd) < 0):gb (qC W X a) (f - 1) x ((x + y) / 2) = T:=by
 subst hu hv; exact Ei hR hf h Ch
end
def HE (X:List Nat) (a:Nat):Nat → List Nat
 | 0=>X
 | k + 1=>swp (HE X a k) (a + k) (a + k + 1)
def HF (X:List Nat) (m:Nat):Nat → List Nat
 | 0=>X
 | k + 1=>swp (HF X m k) (m - k) (m - k - 1)
theorem tJ (X:List Nat) (a:Nat):∀ k,(HE X a k).length = X.length
 | 0=>rfl
 | k + 1=>by rw [HE,fS,tJ X a k]
theorem tK (X:List Nat) (a:Nat):∀ k,(HF X a k).length = X.length
 | 0=>rfl
 | k + 1=>by rw [HF,fS,tK X a k]
def gz (X:List Nat) (a k:Nat):List Nat:=lk X (HE X a k)
def gA (X:List Nat) (m k:Nat):List Nat:=lk X (HF X m k)
theorem ox (X:List Nat) (a k:Nat):gz X a k = HE X a k:=aF _ _
theorem oy (X:List Nat) (a k:Nat):gA X a k = HF X a k:=aF _ _
theorem Ck (X:List Nat) (a:Nat):gz X a 0 = X:=ox X a 0
theorem Cl (X:List Nat) (a:Nat):gA X a 0 = X:=oy X a 0
theorem fT (X:List Nat) (a k:Nat):(gz X a k).length = X.length:=by rw [ox,tJ]
theorem fU (X:List Nat) (a k:Nat):(gA X a k).length = X.length:=by rw [oy,tK]
theorem Cm (X:List Nat) (a k:Nat):swp (gz X a k) (a + k) (a + k + 1) = gz X a (k + 1):=by rw [ox,ox]; rfl
theorem Cn (X:List Nat) (a k:Nat):swp (gA X a k) (a - k) (a - k - 1) = gA X a (k + 1):=by rw [oy,oy]; rfl
theorem J7 (X:List Nat) (N:Nat) (hN:N = X.length) (hN2:N ≤ 1000) (W:List Nat) (L:Nat) (hL:L = W.length) (hA:bq L X) (a m b:Nat) (h1:a < m) (h2:m < b) (h3:b ≤ N) (hm:m = a + 1) (i:Nat) (hi:gb (qA W X a) (b - m) m b = i) (hi2:m ≤ i ∧ i ≤ b):SpecH true Tryz.prog 197 [.ref 0 0 0 N 1,nD a,nD m,nD b,.fn (.func 175) [] [.ptr 1 1 0]] [⟨X.map nD, 3, true⟩,⟨[.sl false L 1 (W.map nD)], 152, false⟩] (.tup []) [⟨(gz X a (i - 1 - a)).map nD, 3, true⟩,⟨[.sl false L 1 (W.map nD)], 152, false⟩]:=by
 refine SpecH.run T_ok ai Tryz.func197 rfl rfl rfl ⟨lm _,rfl,trivial⟩ rfl 1000 64 (fun R ok=>(.s 4 (.ow ((m:Int) - (a:Int)) (.s 2 (.t ((m:Int) - (a:Int) == 1) dz (.s 4 (Hn.inl T_ok ai false 220 2 (ay Tryz.prog 197 0) (fun (x:(x:Nat) ×' (y:Nat) ×' (f:Nat) ×' (hx:m ≤ x ∧ x ≤ y ∧ y ≤ b) ×' (hf:y - x ≤ f) ×' (hR:gb (qA W X a) f x y = i) ×' Unit)=>match x with | ⟨x,y,f,hx,hf,hR,_⟩=>CutS.mk [(0,D.ref 0 0 0 N 1),(1,zN a),(4,D.fn (Mn 175) [] [D.ptr 1 1 0]),(10,nD x),(11,nD y)] [⟨0,0,0,0,.b ⟨map nD X,3,true⟩⟩,⟨1,1,1,1,.b ⟨[D.sl false L 1 (map nD W)],152,false⟩⟩] 24) (fun (x:(x:Nat) ×' (y:Nat) ×' (f:Nat) ×' (hx:m ≤ x ∧ x ≤ y ∧ y ≤ b) ×' (hf:y - x ≤ f) ×' (hR:gb (qA W X a) f x y = i) ×' Unit)=>match x with | ⟨x,y,f,hx,hf,hR,_⟩=>y - x) [⟨Unit,.exit 0,fun x=>match x with | ()=>CutS.mk [(0,D.ref 0 0 0 N 1),(1,zN a),(4,D.fn (Mn 175) [] [D.ptr 1 1 0]),(10,nD i),(11,nD i)] [⟨0,0,0,0,.b ⟨map nD X,3,true⟩⟩,⟨1,1,1,1,.b ⟨[D.sl false L 1 (map nD W)],152,false⟩⟩] 24⟩] 1000 64 (fun | ⟨x,y,f,hx,hf,hR,_⟩,Q,next1,last1=>(.s 4 (.br (decide ((x:Int) < (y:Int))) (fun p0=>have p0f:=aU p0; (.s 4 (.ow ((x:Int) + (y:Int)) (.s 1 (.opt (aw .u64 ((x:Int) + (y:Int))) (D.v (My .u64 ((x:Int) + (y:Int)))) (bk om) (.s 2 (.opt (bh M5 (Mp ((x:Int) + (y:Int)) 2)) (D.v (My .u64 (((x:Int) + (y:Int)) / 2))) (az (@fN  ((x:Int) + (y:Int)) (2) om)) (.s 1 (.ow (((x:Int) + (y:Int)) / 2) (.s 6 (.chk (true && decide (((x:Int) + (y:Int)) / 2 < (N:Int))) dz (.s 2 (.opt ((map nD X)[0 + uM (((x:Int) + (y:Int)) / 2) * 1]?) (nD (getD X (0 + uM (((x:Int) + (y:Int)) / 2) * 1) jd)) (au _ _ om) (.s 3 (.chk (true && decide ((a:Int) < (N:Int))) dz (.s 2 (.opt ((map nD X)[0 + a * 1]?) (nD (getD X (0 + a * 1) jd)) (au _ _ om) (.s 1 (.cl 175 true [1] (.fn wC (@qq (W) (L) om (getD X (0 + uM (((x:Int) + (y:Int)) / 2) * 1) jd) (getD X (0 + a * 1) jd) (by ( exact hA.at om)) (by ( exact hA.at om)))) (.s 2 (.br (decide (l6 (getD W (getD X (0 + uM (((x:Int) + (y:Int)) / 2) * 1) jd) jd) (getD W (getD X (0 + a * 1) jd) jd) < 0)) (fun p1=>have p1f:=aU p1; (.s 3 (.ow (((x:Int) + (y:Int)) / 2 + 1) (.s 1 (.val 10 (zI (((x:Int) + (y:Int)) / 2 + 1)) (zN ((x + y) / 2 + 1)) qr (Hn.next next1 ⟨((x + y) / 2 + 1),(y),(f - 1),om,om,(by ( exact J1 (u:=0 + (((x:Int) + (y:Int)) / 2).toNat * 1) (v:=0 + a * 1) hR om om om om bx)),⟨⟩⟩ zz [(0,0),(1,1)] ro)))))) (fun p1=>have p1f:=aV p1; (.s 2 (.val 11 (zI (((x:Int) + (y:Int)) / 2)) (zN ((x + y) / 2)) qr (Hn.next next1 ⟨(x),((x + y) / 2),(f - 1),om,om,(by ( exact J2 (u:=0 + (((x:Int) + (y:Int)) / 2).toNat * 1) (v:=0 + a * 1) hR om om om om bx)),⟨⟩⟩ zA [(0,0),(1,1)] ro))))))))))))))))))))))))) (fun p0=>have p0f:=aV p0; (.val 10 (zN x) (zN i) (by ( rw [xb hR om])) (.val 11 (zN y) (zN i) zB (Hn.last last1 0 (():Unit) rfl [(0,0),(1,1)] ro))))))) (fun | ⟨x,y,f,hx,hf,hR,_⟩=>by kernel_rfl) ⟨(m),(b),(b - m),om,om,om,⟨⟩⟩ [(0,0),(1,1)] ro (b5 (fun | ()=>(.s 2 (.val 13 (zN a) (zN (a + 0)) qr (.blk 0 0 (Blk.mk (map nD X) 3 true) (Blk.mk (map nD (gz X a 0)) 3 true) (by (rw [Ck]; done)) (Hn.inl T_ok ai false 220 2 (ay Tryz.prog 197 1) (fun (x:(k:Nat) ×' (hk:a + k ≤ i - 1) ×' Unit)=>match x with | ⟨k,hk,_⟩=>CutS.mk [(0,D.ref 0 0 0 N 1),(10,zN i),(13,nD (a + k))] [⟨0,0,0,0,.b ⟨(gz X a k).map nD,3,true⟩⟩,⟨1,1,1,1,.b ⟨[D.sl false L 1 (map nD W)],152,false⟩⟩] 24) (fun (x:(k:Nat) ×' (hk:a + k ≤ i - 1) ×' Unit)=>match x with | ⟨k,hk,_⟩=>i - 1 - a - k) [⟨Unit,.exit 2,fun x=>match x with | ()=>CutS.mk [(0,D.ref 0 0 0 N 1),(10,zN i)] [⟨0,0,0,0,.b ⟨(gz X a (i - 1 - a)).map nD,3,true⟩⟩,⟨1,1,1,1,.b ⟨[D.sl false L 1 (map nD W)],152,false⟩⟩] 24⟩] 1000 64 (fun | ⟨k,hk,_⟩,Q,next1,last1=>(.s 4 (.ow ((i:Int) - 1) (.s 2 (.br (decide ((↑(a + k):Int) < (i:Int) - 1)) (fun p2=>have p2f:=aU p2; (.s 7 (.ow ((↑(a + k):Int) + 1) (.s 4 (.ow ((↑(a + k):Int) + 1) (.s 1 (.chk (true && decide ((↑(a + k):Int) + 1 < (N:Int))) dz (.s 2 (.opt ((map nD (gz X a k))[0 + uM ((↑(a + k):Int) + 1) * 1]?) (nD (getD (gz X a k) (0 + uM ((↑(a + k):Int) + 1) * 1) jd)) (au _ _ (by ( have h9:=fT X a k; omega))) (.s 3 (.chk (true && decide ((↑(a + k):Int) < (N:Int))) dz (.s 2 (.opt ((map nD (gz X a k))[0 + (a + k) * 1]?) (nD (getD (gz X a k) (0 + (a + k) * 1) jd)) (au _ _ (by ( have h9:=fT X a k; omega))) (.s 1 (.chk (true && decide ((↑(a + k):Int) < (N:Int))) dz (.s 1 (.chk (true && LH (0 + (a + k) * 1 + 1) (length (map nD (gz X a k)))) (by (simp;  have h9:=fT X a k; omega)) (.lst (aj (map nD (gz X a k)) (0 + (a + k) * 1) [zN (getD (gz X a k) (0 + uM ((↑(a + k):Int) + 1) * 1) jd)]) (aj (map nD (gz X a k)) (a + k) [zN (getD (gz X a k) (uM ((↑(a + k):Int) + 1)) jd)]) (by (simp; done)) (.s 1 (.chk (true && decide ((↑(a + k):Int) + 1 < (N:Int))) dz (.s 1 (.chk (true && LH (0 + uM ((↑(a + k):Int) + 1) * 1 + 1) (length (aj (map nD (gz X a k)) (a + k) [zN (getD (gz X a k) (uM ((↑(a + k):Int) + 1)) jd)]))) (by ( have h9:=fT X a k; exact zy om om)) (.lst (aj (aj (map nD (gz X a k)) (a + k) [zN (getD (gz X a k) (uM ((↑(a + k):Int) + 1)) jd)]) (0 + uM ((↑(a + k):Int) + 1) * 1) [zN (getD (gz X a k) (0 + (a + k) * 1) jd)]) (aj (aj (map nD (gz X a k)) (a + k) [zN (getD (gz X a k) (uM ((↑(a + k):Int) + 1)) jd)]) (uM ((↑(a + k):Int) + 1)) [zN (getD (gz X a k) (a + k) jd)]) (by (simp; done)) (.s 3 (.ow ((↑(a + k):Int) + 1) (.s 1 (.val 13 (zI ((↑(a + k):Int) + 1)) (zN (a + (k + 1))) qr (.blk 0 0 (Blk.mk (aj (aj (map nD (gz X a k)) (a + k) [zN (getD (gz X a k) (uM ((↑(a + k):Int) + 1)) jd)]) (uM ((↑(a + k):Int) + 1)) [zN (getD (gz X a k) (a + k) jd)]) 3 true) (Blk.mk (map nD (gz X a (k + 1))) 3 true) (by ( have h9:=fT X a k; exact aC (Pa (tE (i:=a + k) (j:=a + k + 1) om om om om om om) (by rw [Cm])))) (Hn.next next1 ⟨(k + 1),om,⟨⟩⟩ (by show i - 1 - a - (k + 1) < i - 1 - a - k; clear next1 last1; omega) [(0,0),(1,1)] ro))))))))))))))))))))))))))))) (fun p2=>have p2f:=aV p2; (.blk 0 0 (Blk.mk (map nD (gz X a k)) 3 true) (Blk.mk (map nD (gz X a (i - 1 - a))) 3 true) (by ( rw [show k = i - 1 - a from by omega])) (Hn.last last1 0 (():Unit) rfl [(0,0),(1,1)] ro)))))))) (fun | ⟨k,hk,_⟩=>by kernel_rfl) ⟨(0),om,⟨⟩⟩ [(0,0),(1,1)] ro (b5 (fun | ()=>(.out [0,1] [0,1] (D.tup []) [Blk.mk (map nD (gz X a (i - 1 - a))) 3 true,Blk.mk [D.sl false L 1 (map nD W)] 152 false] R (ok _ _ wr wr))))))))))))))))) (by kernel_rfl)
theorem J8 (X:List Nat) (N:Nat) (hN:N = X.length) (hN2:N ≤ 1000) (W:List Nat) (L:Nat) (hL:L = W.length) (hA:bq L X) (a m b:Nat) (h1:a < m) (h2:m < b) (h3:b ≤ N) (hm:m ≠ a + 1) (hb:b = m + 1) (i:Nat) (hi:gb (qB W X m) (m - a) a m = i) (hi2:a ≤ i ∧ i ≤ m):SpecH true Tryz.prog 197 [.ref 0 0 0 N 1,nD a,nD m,nD b,.fn (.func 175) [] [.ptr 1 1 0]] [⟨X.map nD, 3, true⟩,⟨[.sl false L 1 (W.map nD)], 152, false⟩] (.tup []) [⟨(gA X m (m - i)).map nD, 3, true⟩,⟨[.sl false L 1 (W.map nD)], 152, false⟩]:=by
 refine SpecH.run T_ok ai Tryz.func197 rfl rfl rfl ⟨lm _,rfl,trivial⟩ rfl 1000 64 (fun R ok=>(.s 4 (.ow ((m:Int) - (a:Int)) (.s 2 (.f ((m:Int) - (a:Int) == 1) ou (.s 4 (.ow ((b:Int) - (m:Int)) (.s 2 (.t ((b:Int) - (m:Int) == 1) dz (.s 4 (Hn.inl T_ok ai false 220 2 (ay Tryz.prog 197 2) (fun (x:(x:Nat) ×' (y:Nat) ×' (f:Nat) ×' (hx:a ≤ x ∧ x ≤ y ∧ y ≤ m) ×' (hf:y - x ≤ f) ×' (hR:gb (qB W X m) f x y = i) ×' Unit)=>match x with | ⟨x,y,f,hx,hf,hR,_⟩=>CutS.mk [(0,D.ref 0 0 0 N 1),(2,zN m),(4,D.fn (Mn 175) [] [D.ptr 1 1 0]),(14,nD x),(15,nD y)] [⟨0,0,0,0,.b ⟨map nD X,3,true⟩⟩,⟨1,1,1,1,.b ⟨[D.sl false L 1 (map nD W)],152,false⟩⟩] 24) (fun (x:(x:Nat) ×' (y:Nat) ×' (f:Nat) ×' (hx:a ≤ x ∧ x ≤ y ∧ y ≤ m) ×' (hf:y - x ≤ f) ×' (hR:gb (qB W X m) f x y = i) ×' Unit)=>match x with | ⟨x,y,f,hx,hf,hR,_⟩=>y - x) [⟨Unit,.exit 4,fun x=>match x with | ()=>CutS.mk [(0,D.ref 0 0 0 N 1),(2,zN m),(4,D.fn (Mn 175) [] [D.ptr 1 1 0]),(14,nD i),(15,nD i)] [⟨0,0,0,0,.b ⟨map nD X,3,true⟩⟩,⟨1,1,1,1,.b ⟨[D.sl false L 1 (map nD W)],152,false⟩⟩] 24⟩] 1000 64 (fun | ⟨x,y,f,hx,hf,hR,_⟩,Q,next1,last1=>(.s 4 (.br (decide ((x:Int) < (y:Int))) (fun p0=>have p0f:=aU p0; (.s 4 (.ow ((x:Int) + (y:Int)) (.s 1 (.opt (aw .u64 ((x:Int) + (y:Int))) (D.v (My .u64 ((x:Int) + (y:Int)))) (bk om) (.s 2 (.opt (bh M5 (Mp ((x:Int) + (y:Int)) 2)) (D.v (My .u64 (((x:Int) + (y:Int)) / 2))) (az (@fN  ((x:Int) + (y:Int)) (2) om)) (.s 1 (.ow (((x:Int) + (y:Int)) / 2) (.s 6 (.chk (true && decide ((m:Int) < (N:Int))) dz (.s 2 (.opt ((map nD X)[0 + m * 1]?) (nD (getD X (0 + m * 1) jd)) (au _ _ om) (.s 3 (.chk (true && decide (((x:Int) + (y:Int)) / 2 < (N:Int))) dz (.s 2 (.opt ((map nD X)[0 + uM (((x:Int) + (y:Int)) / 2) * 1]?) (nD (getD X (0 + uM (((x:Int) + (y:Int)) / 2) * 1) jd)) (au _ _ om) (.s 1 (.cl 175 true [1] (.fn wC (@qq (W) (L) om (getD X (0 + m * 1) jd) (getD X (0 + uM (((x:Int) + (y:Int)) / 2) * 1) jd) (by ( exact hA.at om)) (by ( exact hA.at om)))) (.s 3 (.br (!decide (l6 (getD W (getD X (0 + m * 1) jd) jd) (getD W (getD X (0 + uM (((x:Int) + (y:Int)) / 2) * 1) jd) jd) < 0)) (fun p1=>have p1f:=aV (cU p1); (.s 3 (.ow (((x:Int) + (y:Int)) / 2 + 1) (.s 1 (.val 14 (zI (((x:Int) + (y:Int)) / 2 + 1)) (zN ((x + y) / 2 + 1)) qr (Hn.next next1 ⟨((x + y) / 2 + 1),(y),(f - 1),om,om,(by ( exact J3 (u:=0 + (((x:Int) + (y:Int)) / 2).toNat * 1) (v:=0 + m * 1) hR om om om om bx)),⟨⟩⟩ zz [(0,0),(1,1)] ro)))))) (fun p1=>have p1f:=aU (cV p1); (.s 2 (.val 15 (zI (((x:Int) + (y:Int)) / 2)) (zN ((x + y) / 2)) qr (Hn.next next1 ⟨(x),((x + y) / 2),(f - 1),om,om,(by ( exact J4 (u:=0 + (((x:Int) + (y:Int)) / 2).toNat * 1) (v:=0 + m * 1) hR om om om om bx)),⟨⟩⟩ zA [(0,0),(1,1)] ro))))))))))))))))))))))))) (fun p0=>have p0f:=aV p0; (.val 14 (zN x) (zN i) (by ( rw [xb hR om])) (.val 15 (zN y) (zN i) zB (Hn.last last1 0 (():Unit) rfl [(0,0),(1,1)] ro))))))) (fun | ⟨x,y,f,hx,hf,hR,_⟩=>by kernel_rfl) ⟨(a),(m),(m - a),om,om,om,⟨⟩⟩ [(0,0),(1,1)] ro (b5 (fun | ()=>(.s 2 (.val 17 (zN m) (zN (m - 0)) qr (.blk 0 0 (Blk.mk (map nD X) 3 true) (Blk.mk (map nD (gA X m 0)) 3 true) (by (rw [Cl]; done)) (Hn.inl T_ok ai false 220 2 (ay Tryz.prog 197 3) (fun (x:(k:Nat) ×' (hk:k ≤ m - i) ×' Unit)=>match x with | ⟨k,hk,_⟩=>CutS.mk [(0,D.ref 0 0 0 N 1),(14,zN i),(17,nD (m - k))] [⟨0,0,0,0,.b ⟨(gA X m k).map nD,3,true⟩⟩,⟨1,1,1,1,.b ⟨[D.sl false L 1 (map nD W)],152,false⟩⟩] 24) (fun (x:(k:Nat) ×' (hk:k ≤ m - i) ×' Unit)=>match x with | ⟨k,hk,_⟩=>m - i - k) [⟨Unit,.exit 6,fun x=>match x with | ()=>CutS.mk [(0,D.ref 0 0 0 N 1),(14,zN i)] [⟨0,0,0,0,.b ⟨(gA X m (m - i)).map nD,3,true⟩⟩,⟨1,1,1,1,.b ⟨[D.sl false L 1 (map nD W)],152,false⟩⟩] 24⟩] 1000 64 (fun | ⟨k,hk,_⟩,Q,next1,last1=>(.s 4 (.br (decide ((i:Int) < (↑(m - k):Int))) (fun p2=>have p2f:=aU p2; (.s 7 (.ow ((↑(m - k):Int) - 1) (.s 4 (.ow ((↑(m - k):Int) - 1) (.s 1 (.chk (decide (0 ≤ (↑(m - k):Int) - 1) && decide ((↑(m - k):Int) - 1 < (N:Int))) zC (.s 2 (.opt ((map nD (gA X m k))[0 + uM ((↑(m - k):Int) - 1) * 1]?) (nD (getD (gA X m k) (0 + uM ((↑(m - k):Int) - 1) * 1) jd)) (au _ _ (by ( have h9:=fU X m k; omega))) (.s 3 (.chk (true && decide ((↑(m - k):Int) < (N:Int))) dz (.s 2 (.opt ((map nD (gA X m k))[0 + (m - k) * 1]?) (nD (getD (gA X m k) (0 + (m - k) * 1) jd)) (au _ _ (by ( have h9:=fU X m k; omega))) (.s 1 (.chk (true && decide ((↑(m - k):Int) < (N:Int))) dz (.s 1 (.chk (true && LH (0 + (m - k) * 1 + 1) (length (map nD (gA X m k)))) (by (simp;  have h9:=fU X m k; omega)) (.lst (aj (map nD (gA X m k)) (0 + (m - k) * 1) [zN (getD (gA X m k) (0 + uM ((↑(m - k):Int) - 1) * 1) jd)]) (aj (map nD (gA X m k)) (m - k) [zN (getD (gA X m k) (uM ((↑(m - k):Int) - 1)) jd)]) (by (simp; done)) (.s 1 (.chk (decide (0 ≤ (↑(m - k):Int) - 1) && decide ((↑(m - k):Int) - 1 < (N:Int))) zC (.s 1 (.chk (true && LH (0 + uM ((↑(m - k):Int) - 1) * 1 + 1) (length (aj (map nD (gA X m k)) (m - k) [zN (getD (gA X m k) (uM ((↑(m - k):Int) - 1)) jd)]))) (by ( have h9:=fU X m k; exact zy om om)) (.lst (aj (aj (map nD (gA X m k)) (m - k) [zN (getD (gA X m k) (uM ((↑(m - k):Int) - 1)) jd)]) (0 + uM ((↑(m - k):Int) - 1) * 1) [zN (getD (gA X m k) (0 + (m - k) * 1) jd)]) (aj (aj (map nD (gA X m k)) (m - k) [zN (getD (gA X m k) (uM ((↑(m - k):Int) - 1)) jd)]) (uM ((↑(m - k):Int) - 1)) [zN (getD (gA X m k) (m - k) jd)]) (by (simp; done)) (.s 3 (.ow ((↑(m - k):Int) - 1) (.s 1 (.val 17 (zI ((↑(m - k):Int) - 1)) (zN (m - (k + 1))) qr (.blk 0 0 (Blk.mk (aj (aj (map nD (gA X m k)) (m - k) [zN (getD (gA X m k) (uM ((↑(m - k):Int) - 1)) jd)]) (uM ((↑(m - k):Int) - 1)) [zN (getD (gA X m k) (m - k) jd)]) 3 true) (Blk.mk (map nD (gA X m (k + 1))) 3 true) (by ( have h9:=fU X m k; exact aC (Pa (tE (i:=m - k) (j:=m - k - 1) om om om om om om) (by rw [Cn])))) (Hn.next next1 ⟨(k + 1),om,⟨⟩⟩ (by show m - i - (k + 1) < m - i - k; clear next1 last1; omega) [(0,0),(1,1)] ro))))))))))))))))))))))))))))) (fun p2=>have p2f:=aV p2; (.blk 0 0 (Blk.mk (map nD (gA X m k)) 3 true) (Blk.mk (map nD (gA X m (m - i))) 3 true) (by ( rw [show k = m - i from by omega])) (Hn.last last1 0 (():Unit) rfl [(0,0),(1,1)] ro)))))) (fun | ⟨k,hk,_⟩=>by kernel_rfl) ⟨(0),om,⟨⟩⟩ [(0,0),(1,1)] ro (b5 (fun | ()=>(.out [0,1] [0,1] (D.tup []) [Blk.mk (map nD (gA X m (m - i))) 3 true,Blk.mk [D.sl false L 1 (map nD W)] 152 false] R (ok _ _ wr wr))))))))))))))))))))) (by kernel_rfl)
structure RtH (W:List Nat) (L N:Nat) (X:List Nat) (a m b:Nat) (X1:List Nat):Prop where
 h:∀ (Y:List Nat) (x y z:Int),Y = X → x = a → y = m → z = b → SpecH true Tryz.prog 200 [.ref 0 0 0 N 1,iD x,iD y,iD z,.fn (.func 175) [] [.ptr 1 1 0]] [⟨Y.map nD, 3, true⟩,⟨[.sl false L 1 (W.map nD)], 152, false⟩] (.tup []) [⟨X1.map nD, 3, true⟩,⟨[.sl false L 1 (W.map nD)], 152, false⟩]
structure SaH (W:List Nat) (L N:Nat) (X:List Nat) (a m b:Nat) (X1:List Nat):Prop where
 h:∀ (Y:List Nat) (x y z:Int),Y = X → x = a → y = m → z = b → SpecH true Tryz.prog 197 [.ref 0 0 0 N 1,iD x,iD y,iD z,.fn (.func 175) [] [.ptr 1 1 0]] [⟨Y.map nD, 3, true⟩,⟨[.sl false L 1 (W.map nD)], 152, false⟩] (.tup []) [⟨X1.map nD, 3, true⟩,⟨[.sl false L 1 (W.map nD)], 152, false⟩]
structure SbH (W:List Nat) (L N:Nat) (X:List Nat) (a m b:Nat) (X1:List Nat):Prop where
 h:∀ (Y:List Nat) (x y z:Int),Y = X → x = a → y = m → z = b → SpecH true Tryz.prog 197 [.ref 0 0 0 N 1,iD x,iD y,iD z,.fn (.func 175) [] [.ptr 1 1 0]] [⟨Y.map nD, 3, true⟩,⟨[.sl false L 1 (W.map nD)], 152, false⟩] (.tup []) [⟨X1.map nD, 3, true⟩,⟨[.sl false L 1 (W.map nD)], 152, false⟩]
structure SmE (W:List Nat) (L N:Nat) (X X1 X2 T:List Nat) (a m b mid q st en s0 r0:Nat):Prop where
 r:st < m → m < en → RtH W L N X st m en X1
 r0' : (st < m → m < en → False) → X = X1
 s:a < st → st < mid → SaH W L N X1 a st mid X2
 s0' : (a < st → st < mid → False) → X1 = X2
 t:mid < en → en < b → SbH W L N X2 mid en b T
 t0' : (mid < en → en < b → False) → X2 = T
 e3:mid < m → s0 = q - b ∧ r0 = mid
 e4:m ≤ mid → s0 = a ∧ r0 = m
section
variable {W:List Nat} {L N:Nat} {X X1 X2 T:List Nat} {a m b mid q st en s0 r0:Nat} (h:SmE W L N X X1 X2 T a m b mid q st en s0 r0)
include h
theorem SmE.rp (c1:st < m) (c2:m < en) (Y:List Nat) (x y z:Int) (hY:Y = X) (hx:x = st) (hy:y = m) (hz:z = en):SpecH true Tryz.prog 200 [.ref 0 0 0 N 1,iD x,iD y,iD z,.fn (.func 175) [] [.ptr 1 1 0]] [⟨Y.map nD, 3, true⟩,⟨[.sl false L 1 (W.map nD)], 152, false⟩] (.tup []) [⟨X1.map nD, 3, true⟩,⟨[.sl false L 1 (W.map nD)], 152, false⟩]:=(h.r c1 c2).h Y x y z hY hx hy hz
theorem SmE.sp (c1:a < st) (c2:st < mid) (Y:List Nat) (x y z:Int) (hY:Y = X1) (hx:x = a) (hy:y = st) (hz:z = mid):SpecH true Tryz.prog 197 [.ref 0 0 0 N 1,iD x,iD y,iD z,.fn (.func 175) [] [.ptr 1 1 0]] [⟨Y.map nD, 3, true⟩,⟨[.sl false L 1 (W.map nD)], 152, false⟩] (.tup []) [⟨X2.map nD, 3, true⟩,⟨[.sl false L 1 (W.map nD)], 152, false⟩]:=(h.s c1 c2).h Y x y z hY hx hy hz
theorem SmE.tp (c1:mid < en) (c2:en < b) (Y:List Nat) (x y z:Int) (hY:Y = X2) (hx:x = mid) (hy:y = en) (hz:z = b):SpecH true Tryz.prog 197 [.ref 0 0 0 N 1,iD x,iD y,iD z,.fn (.func 175) [] [.ptr 1 1 0]] [⟨Y.map nD, 3, true⟩,⟨[.sl false L 1 (W.map nD)], 152, false⟩] (.tup []) [⟨T.map nD, 3, true⟩,⟨[.sl false L 1 (W.map nD)], 152, false⟩]:=(h.t c1 c2).h Y x y z hY hx hy hz
end
theorem J9 (X:List Nat) (N:Nat) (hN:N = X.length) (hN2:N ≤ 1000) (W:List Nat) (L:Nat) (hL:L = W.length) (hA:bq L X) (a m b:Nat) (h1:a < m) (h2:m < b) (h3:b ≤ N) (hm:m ≠ a + 1) (hb:b ≠ m + 1) (X1 X2 T:List Nat) (mid q st en:Nat) (e1:mid = (a + b) / 2) (e2:q = mid + m) (s0 r0:Nat) (hs0:s0 ≤ r0 ∧ r0 ≤ m ∧ a ≤ s0 ∧ q ≤ s0 + b) (hi:gb (qC W X (q - 1)) (r0 - s0) s0 r0 = st) (hi2:s0 ≤ st ∧ st ≤ r0) (e5:en = q - st) (hE:SmE W L N X X1 X2 T a m b mid q st en s0 r0):SpecH true Tryz.prog 197 [.ref 0 0 0 N 1,nD a,nD m,nD b,.fn (.func 175) [] [.ptr 1 1 0]] [⟨X.map nD, 3, true⟩,⟨[.sl false L 1 (W.map nD)], 152, false⟩] (.tup []) [⟨(T).map nD, 3, true⟩,⟨[.sl false L 1 (W.map nD)], 152, false⟩]:=by
 refine SpecH.run T_ok ai Tryz.func197 rfl rfl rfl ⟨lm _,rfl,trivial⟩ rfl 1000 64 (fun R ok=>(.s 4 (.ow ((m:Int) - (a:Int)) (.s 2 (.f ((m:Int) - (a:Int) == 1) ou (.s 4 (.ow ((b:Int) - (m:Int)) (.s 2 (.f ((b:Int) - (m:Int) == 1) ou (.s 4 (.ow ((a:Int) + (b:Int)) (.s 1 (.opt (aw .u64 ((a:Int) + (b:Int))) (D.v (My .u64 ((a:Int) + (b:Int)))) (bk om) (.s 2 (.opt (bh M5 (Mp ((a:Int) + (b:Int)) 2)) (D.v (My .u64 (((a:Int) + (b:Int)) / 2))) (az (@fN  ((a:Int) + (b:Int)) (2) om)) (.s 1 (.ow (((a:Int) + (b:Int)) / 2) (.s 5 (.ow (((a:Int) + (b:Int)) / 2 + (m:Int)) (.s 7 (.br (decide (((a:Int) + (b:Int)) / 2 < (m:Int))) (fun p0=>have p0f:=aU p0; (.s 4 (.ow (((a:Int) + (b:Int)) / 2 + (m:Int) - (b:Int)) (.s 6 (.ow (((a:Int) + (b:Int)) / 2 + (m:Int) - 1) (.s 1 (.val 20 (zI (((a:Int) + (b:Int)) / 2 + (m:Int) - (b:Int))) (zN s0) zD (.val 21 (zI (((a:Int) + (b:Int)) / 2)) (zN r0) zD (Hn.inl T_ok ai false 220 2 (ay Tryz.prog 197 4) (fun (x:(x:Nat) ×' (y:Nat) ×' (f:Nat) ×' (hx:s0 ≤ x ∧ x ≤ y ∧ y ≤ r0) ×' (hf:y - x ≤ f) ×' (hR:gb (qC W X (q - 1)) f x y = st) ×' Unit)=>match x with | ⟨x,y,f,hx,hf,hR,_⟩=>CutS.mk [(0,D.ref 0 0 0 N 1),(1,zN a),(2,zN m),(3,zN b),(4,D.fn (Mn 175) [] [D.ptr 1 1 0]),(18,zI (((a:Int) + (b:Int)) / 2)),(19,zI (((a:Int) + (b:Int)) / 2 + (m:Int))),(20,nD x),(21,nD y),(22,zI (((a:Int) + (b:Int)) / 2 + (m:Int) - 1))] [⟨0,0,0,0,.b ⟨map nD X,3,true⟩⟩,⟨1,1,1,1,.b ⟨[D.sl false L 1 (map nD W)],152,false⟩⟩] 24) (fun (x:(x:Nat) ×' (y:Nat) ×' (f:Nat) ×' (hx:s0 ≤ x ∧ x ≤ y ∧ y ≤ r0) ×' (hf:y - x ≤ f) ×' (hR:gb (qC W X (q - 1)) f x y = st) ×' Unit)=>match x with | ⟨x,y,f,hx,hf,hR,_⟩=>y - x) [⟨Unit,.exit 8,fun x=>match x with | ()=>CutS.mk [(0,D.ref 0 0 0 N 1),(1,zN a),(2,zN m),(3,zN b),(4,D.fn (Mn 175) [] [D.ptr 1 1 0]),(18,zI (((a:Int) + (b:Int)) / 2)),(19,zI (((a:Int) + (b:Int)) / 2 + (m:Int))),(20,nD st),(21,nD st),(22,zI (((a:Int) + (b:Int)) / 2 + (m:Int) - 1))] [⟨0,0,0,0,.b ⟨map nD X,3,true⟩⟩,⟨1,1,1,1,.b ⟨[D.sl false L 1 (map nD W)],152,false⟩⟩] 24⟩] 1000 64 (fun | ⟨x,y,f,hx,hf,hR,_⟩,Q,next1,last1=>(.s 4 (.br (decide ((x:Int) < (y:Int))) (fun p1=>have p1f:=aU p1; (.s 4 (.ow ((x:Int) + (y:Int)) (.s 1 (.opt (aw .u64 ((x:Int) + (y:Int))) (D.v (My .u64 ((x:Int) + (y:Int)))) (bk om) (.s 2 (.opt (bh M5 (Mp ((x:Int) + (y:Int)) 2)) (D.v (My .u64 (((x:Int) + (y:Int)) / 2))) (az (@fN  ((x:Int) + (y:Int)) (2) om)) (.s 1 (.ow (((x:Int) + (y:Int)) / 2) (.s 8 (.ow (((a:Int) + (b:Int)) / 2 + (m:Int) - 1 - ((x:Int) + (y:Int)) / 2) (.s 1 (.chk (decide (0 ≤ ((a:Int) + (b:Int)) / 2 + (m:Int) - 1 - ((x:Int) + (y:Int)) / 2) && decide (((a:Int) + (b:Int)) / 2 + (m:Int) - 1 - ((x:Int) + (y:Int)) / 2 < (N:Int))) zC (.s 2 (.opt ((map nD X)[0 + uM (((a:Int) + (b:Int)) / 2 + (m:Int) - 1 - ((x:Int) + (y:Int)) / 2) * 1]?) (nD (getD X (0 + uM (((a:Int) + (b:Int)) / 2 + (m:Int) - 1 - ((x:Int) + (y:Int)) / 2) * 1) jd)) (au _ _ om) (.s 3 (.chk (true && decide (((x:Int) + (y:Int)) / 2 < (N:Int))) dz (.s 2 (.opt ((map nD X)[0 + uM (((x:Int) + (y:Int)) / 2) * 1]?) (nD (getD X (0 + uM (((x:Int) + (y:Int)) / 2) * 1) jd)) (au _ _ om) (.s 1 (.cl 175 true [1] (.fn wC (@qq (W) (L) om (getD X (0 + uM (((a:Int) + (b:Int)) / 2 + (m:Int) - 1 - ((x:Int) + (y:Int)) / 2) * 1) jd) (getD X (0 + uM (((x:Int) + (y:Int)) / 2) * 1) jd) (by ( exact hA.at om)) (by ( exact hA.at om)))) (.s 3 (.br (!decide (l6 (getD W (getD X (0 + uM (((a:Int) + (b:Int)) / 2 + (m:Int) - 1 - ((x:Int) + (y:Int)) / 2) * 1) jd) jd) (getD W (getD X (0 + uM (((x:Int) + (y:Int)) / 2) * 1) jd) jd) < 0)) (fun p2=>have p2f:=aV (cU p2); (.s 3 (.ow (((x:Int) + (y:Int)) / 2 + 1) (.s 1 (.val 20 (zI (((x:Int) + (y:Int)) / 2 + 1)) (zN ((x + y) / 2 + 1)) zD (Hn.next next1 ⟨((x + y) / 2 + 1),(y),(f - 1),om,om,Ci,⟨⟩⟩ zz [(0,0),(1,1)] ro)))))) (fun p2=>have p2f:=aU (cV p2); (.s 2 (.val 21 (zI (((x:Int) + (y:Int)) / 2)) (zN ((x + y) / 2)) zD (Hn.next next1 ⟨(x),((x + y) / 2),(f - 1),om,om,Cj,⟨⟩⟩ zA [(0,0),(1,1)] ro))))))))))))))))))))))))))) (fun p1=>have p1f:=aV p1; (.val 20 (zN x) (zN st) (by ( rw [xb hR om])) (.val 21 (zN y) (zN st) zB (Hn.last last1 0 (():Unit) rfl [(0,0),(1,1)] ro))))))) (fun | ⟨x,y,f,hx,hf,hR,_⟩=>by kernel_rfl) ⟨(s0),(r0),(r0 - s0),om,om,om,⟨⟩⟩ [(0,0),(1,1)] ro (b5 (fun | ()=>(.s 4 (.ow (((a:Int) + (b:Int)) / 2 + (m:Int) - (st:Int)) (.s 7 (.br (decide ((st:Int) < (m:Int))) (fun p3=>have p3f:=aU p3; (.s 6 (.br (decide ((m:Int) < ((a:Int) + (b:Int)) / 2 + (m:Int) - (st:Int))) (fun p4=>have p4f:=aU p4; (.s 6 (.call 200 true [0,1] (true) wr ([D.ref 0 0 0 N 1,zN st,zN m,zI (((a:Int) + (b:Int)) / 2 + (m:Int) - (st:Int)),D.fn (Mn 175) [] [D.ptr 1 1 0]]) _ (bW.refl _) (ab (map nD X) && true) (by (simp; done)) _ _ _ (CallOk.fn (aA.of Tryz.func200 rfl rfl) (@SmE.rp (W) (L) (N) (X) (X1) (X2) (T) (a) (m) (b) (mid) (q) (st) (en) (s0) (r0) bx om om (X) ((st:Int)) ((m:Int)) (((a:Int) + (b:Int)) / 2 + (m:Int) - (st:Int)) wr om om om)) (.s 6 (.br (decide ((a:Int) < (st:Int))) (fun p5=>have p5f:=aU p5; (.s 6 (.t (decide ((st:Int) < ((a:Int) + (b:Int)) / 2)) dz (.s 6 (.call 197 true [0,1] (true) wr ([D.ref 0 0 0 N 1,zN a,zN st,zI (((a:Int) + (b:Int)) / 2),D.fn (Mn 175) [] [D.ptr 1 1 0]]) _ (bW.refl _) (ab (map nD X1) && true) (by (simp; done)) _ _ _ (CallOk.fn (aA.of Tryz.func197 rfl rfl) (@SmE.sp (W) (L) (N) (X) (X1) (X2) (T) (a) (m) (b) (mid) (q) (st) (en) (s0) (r0) bx om om (X1) ((a:Int)) ((st:Int)) (((a:Int) + (b:Int)) / 2) wr om om om)) (.s 6 (.t (decide (((a:Int) + (b:Int)) / 2 < ((a:Int) + (b:Int)) / 2 + (m:Int) - (st:Int))) dz (.s 6 (.br (decide (((a:Int) + (b:Int)) / 2 + (m:Int) - (st:Int) < (b:Int))) (fun p6=>have p6f:=aU p6; (.s 6 (.call 197 true [0,1] (true) wr ([D.ref 0 0 0 N 1,zI (((a:Int) + (b:Int)) / 2),zI (((a:Int) + (b:Int)) / 2 + (m:Int) - (st:Int)),zN b,D.fn (Mn 175) [] [D.ptr 1 1 0]]) _ (bW.refl _) (ab (map nD X2) && true) (by (simp; done)) _ _ _ (CallOk.fn (aA.of Tryz.func197 rfl rfl) (@SmE.tp (W) (L) (N) (X) (X1) (X2) (T) (a) (m) (b) (mid) (q) (st) (en) (s0) (r0) bx om om (X2) (((a:Int) + (b:Int)) / 2) (((a:Int) + (b:Int)) / 2 + (m:Int) - (st:Int)) ((b:Int)) wr om om om)) (.out [0,1] [0,1] (D.tup []) [Blk.mk (map nD T) 3 true,Blk.mk [D.sl false L 1 (map nD W)] 152 false] R (ok _ _ wr wr))))) (fun p6=>have p6f:=aV p6; (.out [0,1] [0,1] (D.tup []) [Blk.mk (map nD X2) 3 true,Blk.mk [D.sl false L 1 (map nD W)] 152 false] R (ok _ _ wr (by ( rw [hE.t0' om])))))))))))))) (fun p5=>have p5f:=aV p5; (.s 12 (.t (decide (((a:Int) + (b:Int)) / 2 < ((a:Int) + (b:Int)) / 2 + (m:Int) - (st:Int))) dz (.s 6 (.f (decide (((a:Int) + (b:Int)) / 2 + (m:Int) - (st:Int) < (b:Int))) ou (.out [0,1] [0,1] (D.tup []) [Blk.mk (map nD X1) 3 true,Blk.mk [D.sl false L 1 (map nD W)] 152 false] R (ok _ _ wr (by ( rw [hE.s0' om,hE.t0' om])))))))))))))) (fun p4=>have p4f:=aV p4; (.s 6 (.t (decide ((a:Int) < (st:Int))) dz (.s 6 (.f (decide ((st:Int) < ((a:Int) + (b:Int)) / 2)) ou (.s 6 (.t (decide (((a:Int) + (b:Int)) / 2 < ((a:Int) + (b:Int)) / 2 + (m:Int) - (st:Int))) dz (.s 6 (.t (decide (((a:Int) + (b:Int)) / 2 + (m:Int) - (st:Int) < (b:Int))) dz (.s 6 (.call 197 true [0,1] (true) wr ([D.ref 0 0 0 N 1,zI (((a:Int) + (b:Int)) / 2),zI (((a:Int) + (b:Int)) / 2 + (m:Int) - (st:Int)),zN b,D.fn (Mn 175) [] [D.ptr 1 1 0]]) _ (bW.refl _) (ab (map nD X) && true) (by (simp; done)) _ _ _ (CallOk.fn (aA.of Tryz.func197 rfl rfl) (@SmE.tp (W) (L) (N) (X) (X1) (X2) (T) (a) (m) (b) (mid) (q) (st) (en) (s0) (r0) bx om om (X) (((a:Int) + (b:Int)) / 2) (((a:Int) + (b:Int)) / 2 + (m:Int) - (st:Int)) ((b:Int)) (by ( exact (hE.r0' om).trans (hE.s0' om))) om om om)) (.out [0,1] [0,1] (D.tup []) [Blk.mk (map nD T) 3 true,Blk.mk [D.sl false L 1 (map nD W)] 152 false] R (ok _ _ wr wr)))))))))))))))) (fun p3=>have p3f:=aV p3; (.s 12 (.t (decide ((a:Int) < (st:Int))) dz (.s 6 (.f (decide ((st:Int) < ((a:Int) + (b:Int)) / 2)) ou (.s 6 (.f (decide (((a:Int) + (b:Int)) / 2 < ((a:Int) + (b:Int)) / 2 + (m:Int) - (st:Int))) ou (.s 6 (.out [0,1] [0,1] (D.tup []) [Blk.mk (map nD X) 3 true,Blk.mk [D.sl false L 1 (map nD W)] 152 false] R (ok _ _ wr (by ( rw [hE.r0' om,hE.s0' om,hE.t0' om]))))))))))))))))))))))))))) (fun p0=>have p0f:=aV p0; (.s 7 (.ow (((a:Int) + (b:Int)) / 2 + (m:Int) - 1) (.s 1 (.val 20 (zN a) (zN s0) zE (.val 21 (zN m) (zN r0) zE (Hn.inl T_ok ai false 220 2 (ay Tryz.prog 197 4) (fun (x:(x:Nat) ×' (y:Nat) ×' (f:Nat) ×' (hx:s0 ≤ x ∧ x ≤ y ∧ y ≤ r0) ×' (hf:y - x ≤ f) ×' (hR:gb (qC W X (q - 1)) f x y = st) ×' Unit)=>match x with | ⟨x,y,f,hx,hf,hR,_⟩=>CutS.mk [(0,D.ref 0 0 0 N 1),(1,zN a),(2,zN m),(3,zN b),(4,D.fn (Mn 175) [] [D.ptr 1 1 0]),(18,zI (((a:Int) + (b:Int)) / 2)),(19,zI (((a:Int) + (b:Int)) / 2 + (m:Int))),(20,nD x),(21,nD y),(22,zI (((a:Int) + (b:Int)) / 2 + (m:Int) - 1))] [⟨0,0,0,0,.b ⟨map nD X,3,true⟩⟩,⟨1,1,1,1,.b ⟨[D.sl false L 1 (map nD W)],152,false⟩⟩] 24) (fun (x:(x:Nat) ×' (y:Nat) ×' (f:Nat) ×' (hx:s0 ≤ x ∧ x ≤ y ∧ y ≤ r0) ×' (hf:y - x ≤ f) ×' (hR:gb (qC W X (q - 1)) f x y = st) ×' Unit)=>match x with | ⟨x,y,f,hx,hf,hR,_⟩=>y - x) [⟨Unit,.exit 8,fun x=>match x with | ()=>CutS.mk [(0,D.ref 0 0 0 N 1),(1,zN a),(2,zN m),(3,zN b),(4,D.fn (Mn 175) [] [D.ptr 1 1 0]),(18,zI (((a:Int) + (b:Int)) / 2)),(19,zI (((a:Int) + (b:Int)) / 2 + (m:Int))),(20,nD st),(21,nD st),(22,zI (((a:Int) + (b:Int)) / 2 + (m:Int) - 1))] [⟨0,0,0,0,.b ⟨map nD X,3,true⟩⟩,⟨1,1,1,1,.b ⟨[D.sl false L 1 (map nD W)],152,false⟩⟩] 24⟩] 1000 64 (fun | ⟨x,y,f,hx,hf,hR,_⟩,Q,next1,last1=>(.s 4 (.br (decide ((x:Int) < (y:Int))) (fun p7=>have p7f:=aU p7; (.s 4 (.ow ((x:Int) + (y:Int)) (.s 1 (.opt (aw .u64 ((x:Int) + (y:Int))) (D.v (My .u64 ((x:Int) + (y:Int)))) (bk om) (.s 2 (.opt (bh M5 (Mp ((x:Int) + (y:Int)) 2)) (D.v (My .u64 (((x:Int) + (y:Int)) / 2))) (az (@fN  ((x:Int) + (y:Int)) (2) om)) (.s 1 (.ow (((x:Int) + (y:Int)) / 2) (.s 8 (.ow (((a:Int) + (b:Int)) / 2 + (m:Int) - 1 - ((x:Int) + (y:Int)) / 2) (.s 1 (.chk (decide (0 ≤ ((a:Int) + (b:Int)) / 2 + (m:Int) - 1 - ((x:Int) + (y:Int)) / 2) && decide (((a:Int) + (b:Int)) / 2 + (m:Int) - 1 - ((x:Int) + (y:Int)) / 2 < (N:Int))) zC (.s 2 (.opt ((map nD X)[0 + uM (((a:Int) + (b:Int)) / 2 + (m:Int) - 1 - ((x:Int) + (y:Int)) / 2) * 1]?) (nD (getD X (0 + uM (((a:Int) + (b:Int)) / 2 + (m:Int) - 1 - ((x:Int) + (y:Int)) / 2) * 1) jd)) (au _ _ om) (.s 3 (.chk (true && decide (((x:Int) + (y:Int)) / 2 < (N:Int))) dz (.s 2 (.opt ((map nD X)[0 + uM (((x:Int) + (y:Int)) / 2) * 1]?) (nD (getD X (0 + uM (((x:Int) + (y:Int)) / 2) * 1) jd)) (au _ _ om) (.s 1 (.cl 175 true [1] (.fn wC (@qq (W) (L) om (getD X (0 + uM (((a:Int) + (b:Int)) / 2 + (m:Int) - 1 - ((x:Int) + (y:Int)) / 2) * 1) jd) (getD X (0 + uM (((x:Int) + (y:Int)) / 2) * 1) jd) (by ( exact hA.at om)) (by ( exact hA.at om)))) (.s 3 (.br (!decide (l6 (getD W (getD X (0 + uM (((a:Int) + (b:Int)) / 2 + (m:Int) - 1 - ((x:Int) + (y:Int)) / 2) * 1) jd) jd) (getD W (getD X (0 + uM (((x:Int) + (y:Int)) / 2) * 1) jd) jd) < 0)) (fun p8=>have p8f:=aV (cU p8); (.s 3 (.ow (((x:Int) + (y:Int)) / 2 + 1) (.s 1 (.val 20 (zI (((x:Int) + (y:Int)) / 2 + 1)) (zN ((x + y) / 2 + 1)) zE (Hn.next next1 ⟨((x + y) / 2 + 1),(y),(f - 1),om,om,Ci,⟨⟩⟩ zz [(0,0),(1,1)] ro)))))) (fun p8=>have p8f:=aU (cV p8); (.s 2 (.val 21 (zI (((x:Int) + (y:Int)) / 2)) (zN ((x + y) / 2)) zE (Hn.next next1 ⟨(x),((x + y) / 2),(f - 1),om,om,Cj,⟨⟩⟩ zA [(0,0),(1,1)] ro))))))))))))))))))))))))))) (fun p7=>have p7f:=aV p7; (.val 20 (zN x) (zN st) (by ( rw [xb hR om])) (.val 21 (zN y) (zN st) zB (Hn.last last1 0 (():Unit) rfl [(0,0),(1,1)] ro))))))) (fun | ⟨x,y,f,hx,hf,hR,_⟩=>by kernel_rfl) ⟨(s0),(r0),(r0 - s0),om,om,om,⟨⟩⟩ [(0,0),(1,1)] ro (b5 (fun | ()=>(.s 4 (.ow (((a:Int) + (b:Int)) / 2 + (m:Int) - (st:Int)) (.s 7 (.br (decide ((st:Int) < (m:Int))) (fun p9=>have p9f:=aU p9; (.s 6 (.t (decide ((m:Int) < ((a:Int) + (b:Int)) / 2 + (m:Int) - (st:Int))) dz (.s 6 (.call 200 true [0,1] (true) wr ([D.ref 0 0 0 N 1,zN st,zN m,zI (((a:Int) + (b:Int)) / 2 + (m:Int) - (st:Int)),D.fn (Mn 175) [] [D.ptr 1 1 0]]) _ (bW.refl _) (ab (map nD X) && true) (by (simp; done)) _ _ _ (CallOk.fn (aA.of Tryz.func200 rfl rfl) (@SmE.rp (W) (L) (N) (X) (X1) (X2) (T) (a) (m) (b) (mid) (q) (st) (en) (s0) (r0) bx om om (X) ((st:Int)) ((m:Int)) (((a:Int) + (b:Int)) / 2 + (m:Int) - (st:Int)) wr om om om)) (.s 6 (.br (decide ((a:Int) < (st:Int))) (fun p10=>have p10f:=aU p10; (.s 6 (.t (decide ((st:Int) < ((a:Int) + (b:Int)) / 2)) dz (.s 6 (.call 197 true [0,1] (true) wr ([D.ref 0 0 0 N 1,zN a,zN st,zI (((a:Int) + (b:Int)) / 2),D.fn (Mn 175) [] [D.ptr 1 1 0]]) _ (bW.refl _) (ab (map nD X1) && true) (by (simp; done)) _ _ _ (CallOk.fn (aA.of Tryz.func197 rfl rfl) (@SmE.sp (W) (L) (N) (X) (X1) (X2) (T) (a) (m) (b) (mid) (q) (st) (en) (s0) (r0) bx om om (X1) ((a:Int)) ((st:Int)) (((a:Int) + (b:Int)) / 2) wr om om om)) (.s 6 (.t (decide (((a:Int) + (b:Int)) / 2 < ((a:Int) + (b:Int)) / 2 + (m:Int) - (st:Int))) dz (.s 6 (.t (decide (((a:Int) + (b:Int)) / 2 + (m:Int) - (st:Int) < (b:Int))) dz (.s 6 (.call 197 true [0,1] (true) wr ([D.ref 0 0 0 N 1,zI (((a:Int) + (b:Int)) / 2),zI (((a:Int) + (b:Int)) / 2 + (m:Int) - (st:Int)),zN b,D.fn (Mn 175) [] [D.ptr 1 1 0]]) _ (bW.refl _) (ab (map nD X2) && true) (by (simp; done)) _ _ _ (CallOk.fn (aA.of Tryz.func197 rfl rfl) (@SmE.tp (W) (L) (N) (X) (X1) (X2) (T) (a) (m) (b) (mid) (q) (st) (en) (s0) (r0) bx om om (X2) (((a:Int) + (b:Int)) / 2) (((a:Int) + (b:Int)) / 2 + (m:Int) - (st:Int)) ((b:Int)) wr om om om)) (.out [0,1] [0,1] (D.tup []) [Blk.mk (map nD T) 3 true,Blk.mk [D.sl false L 1 (map nD W)] 152 false] R (ok _ _ wr wr))))))))))))) (fun p10=>have p10f:=aV p10; (.s 12 (.t (decide (((a:Int) + (b:Int)) / 2 < ((a:Int) + (b:Int)) / 2 + (m:Int) - (st:Int))) dz (.s 6 (.br (decide (((a:Int) + (b:Int)) / 2 + (m:Int) - (st:Int) < (b:Int))) (fun p11=>have p11f:=aU p11; (.s 6 (.call 197 true [0,1] (true) wr ([D.ref 0 0 0 N 1,zI (((a:Int) + (b:Int)) / 2),zI (((a:Int) + (b:Int)) / 2 + (m:Int) - (st:Int)),zN b,D.fn (Mn 175) [] [D.ptr 1 1 0]]) _ (bW.refl _) (ab (map nD X1) && true) (by (simp; done)) _ _ _ (CallOk.fn (aA.of Tryz.func197 rfl rfl) (@SmE.tp (W) (L) (N) (X) (X1) (X2) (T) (a) (m) (b) (mid) (q) (st) (en) (s0) (r0) bx om om (X1) (((a:Int) + (b:Int)) / 2) (((a:Int) + (b:Int)) / 2 + (m:Int) - (st:Int)) ((b:Int)) (by ( exact hE.s0' om)) om om om)) (.out [0,1] [0,1] (D.tup []) [Blk.mk (map nD T) 3 true,Blk.mk [D.sl false L 1 (map nD W)] 152 false] R (ok _ _ wr wr))))) (fun p11=>have p11f:=aV p11; (.out [0,1] [0,1] (D.tup []) [Blk.mk (map nD X1) 3 true,Blk.mk [D.sl false L 1 (map nD W)] 152 false] R (ok _ _ wr (by ( rw [hE.s0' om,hE.t0' om]))))))))))))))))) (fun p9=>have p9f:=aV p9; (.s 12 (.t (decide ((a:Int) < (st:Int))) dz (.s 6 (.br (decide ((st:Int) < ((a:Int) + (b:Int)) / 2)) (fun p12=>have p12f:=aU p12; (.s 6 (.call 197 true [0,1] (true) wr ([D.ref 0 0 0 N 1,zN a,zN st,zI (((a:Int) + (b:Int)) / 2),D.fn (Mn 175) [] [D.ptr 1 1 0]]) _ (bW.refl _) (ab (map nD X) && true) (by (simp; done)) _ _ _ (CallOk.fn (aA.of Tryz.func197 rfl rfl) (@SmE.sp (W) (L) (N) (X) (X1) (X2) (T) (a) (m) (b) (mid) (q) (st) (en) (s0) (r0) bx om om (X) ((a:Int)) ((st:Int)) (((a:Int) + (b:Int)) / 2) (by ( exact hE.r0' om)) om om om)) (.s 6 (.f (decide (((a:Int) + (b:Int)) / 2 < ((a:Int) + (b:Int)) / 2 + (m:Int) - (st:Int))) ou (.s 6 (.out [0,1] [0,1] (D.tup []) [Blk.mk (map nD X2) 3 true,Blk.mk [D.sl false L 1 (map nD W)] 152 false] R (ok _ _ wr (by ( rw [hE.t0' om])))))))))) (fun p12=>have p12f:=aV p12; (.s 6 (.f (decide (((a:Int) + (b:Int)) / 2 < ((a:Int) + (b:Int)) / 2 + (m:Int) - (st:Int))) ou (.s 6 (.out [0,1] [0,1] (D.tup []) [Blk.mk (map nD X) 3 true,Blk.mk [D.sl false L 1 (map nD W)] 152 false] R (ok _ _ wr (by ( rw [hE.r0' om,hE.s0' om,hE.t0' om]))))))))))))))))))))))))))))))))))))))))))))))) (by kernel_rfl)
end Vp
end Go.Proofs.YtefjnofhgkjpmaaGreat
namespace Go.Proofs.YtefjnofhgkjpmaaGreat
open Go.RowKit Go.Bw Go.Vx
namespace Vp
theorem iO {X:List Nat} {i j:Nat} (hi:i < X.length) (hj:j < X.length):(swp X i j).Perm X:=by
 rw [List.perm_iff_count]
 intro c
 have e1:X.getD i jd = X[i]:=by rw [List.getD_eq_getElem?_getD,List.getElem?_eq_getElem hi]; rfl
 have e2:X.getD j jd = X[j]:=by rw [List.getD_eq_getElem?_getD,List.getElem?_eq_getElem hj]; rfl
 rw [oo,e1,e2,List.count_set (by rw [NJ]; exact hj),List.count_set hi,List.getElem_set]
 have h1:(X[i] == c) = true → 1 ≤ X.count c:=fun q=>by
  rw [List.one_le_count_iff,← eq_of_beq q]; exact Mr hi
 have h3:(if i = j then X[j] else X[j]) = X[j]:=by split <;> rfl
 rw [h3]
 cases q1:(X[i] == c) <;> cases q2:(X[j] == c) <;> simp <;> (try have:=h1 q1) <;> omega
theorem iP {X:List Nat} {a b:Nat}:∀ k,a + k ≤ X.length → b + k ≤ X.length → (dI X a b k).Perm X
 | 0,_,_=>by rw [Cc]
 | k + 1,h1,h2=>by
  rw [← Cd]
  exact (iO (by rw [dj]; omega) (by rw [dj]; omega)).trans (iP k (by omega) (by omega))
theorem jm {m:Nat}:∀ (f i j:Nat) (X:List Nat),1 ≤ i → 1 ≤ j → i ≤ m → m + j ≤ X.length → i + j ≤ f → (f9 m f i j X).Perm X
 | 0,i,j,X,h1,h2,h3,h4,h5=>by omega
 | f + 1,i,j,X,h1,h2,h3,h4,h5=>by
  rw [f9]; split
  ·exact iP i (by omega) (by omega)
  ·split
   ·exact (jm f (i - j) j _ (by omega) h2 (by omega) (by rw [dj]; omega) (by omega)).trans (iP j (by omega) (by omega))
   ·exact (jm f i (j - i) _ h1 (by omega) h3 (by rw [dj]; omega) (by omega)).trans (iP i (by omega) (by omega))
theorem uY {X:List Nat} {a m b:Nat} (h1:a < m) (h2:m < b) (h3:b ≤ X.length):(w8 X a m b).Perm X:=by
 rw [tG]; exact jm _ _ _ _ (by omega) (by omega) (by omega) (by omega) (by omega)
theorem qt {W:List Nat} {a:Nat}:∀ (j:Nat) (X:List Nat),j < X.length → (inI W a j X).Perm X
 | 0,_,_=>NF _
 | j + 1,X,h=>by
  rw [inI]; split
  ·exact (qt j _ (by rw [fS]; omega)).trans (iO h (by omega))
  ·exact NF _
theorem gB {W X:List Nat} {a:Nat}:∀ (k:Nat),a + k < X.length ∨ k = 0 → (inQ W X a k).Perm X
 | 0,_=>by rw [w9]
 | k + 1,h=>by
  rw [← xa]
  exact (qt _ _ (by rw [iN]; omega)).trans (gB k (by omega))
theorem qu {X:List Nat} {a:Nat}:∀ (k:Nat),a + k < X.length ∨ k = 0 → (gz X a k).Perm X
 | 0,_=>by rw [Ck]
 | k + 1,h=>by
  rw [← Cm]
  exact (iO (by rw [fT]; omega) (by rw [fT]; omega)).trans (qu k (by omega))
theorem qv {X:List Nat} {m:Nat} (hm:m < X.length):∀ (k:Nat),(gA X m k).Perm X
 | 0=>by rw [Cl]
 | k + 1=>by
  rw [← Cn]
  exact (iO (by rw [fU]; omega) (by rw [fU]; omega)).trans (qv hm k)
theorem bq.perm {L:Nat} {X Y:List Nat} (h:bq L X) (hp:Y.Perm X):bq L Y:=fun x hx=>h x (hp.mem_iff.1 hx)
def iQ (a m b:Nat):Nat:=if (a + b) / 2 < m then (a + b) / 2 + m - b else a
def jn (a m b:Nat):Nat:=if (a + b) / 2 < m then (a + b) / 2 else m
def dG (W X:List Nat) (a m b:Nat):Nat:=gb (qC W X ((a + b) / 2 + m - 1)) (jn a m b - iQ a m b) (iQ a m b) (jn a m b)
def fo (X:List Nat) (m st en:Nat):List Nat:=if st < m ∧ m < en then w8 X st m en else X
def jQ (W:List Nat):Nat → List Nat → Nat → Nat → Nat → List Nat
 | 0,X,_,_,_=>X
 | f + 1,X,a,m,b =>
  if m = a + 1 then gz X a (gb (qA W X a) (b - m) m b - 1 - a)
  else if b = m + 1 then gA X m (m - gb (qB W X m) (m - a) a m)
  else
   (fun st=>(fun en=>(fun X1=>(fun X2=>if (a + b) / 2 < en ∧ en < b then jQ W f X2 ((a + b) / 2) en b else X2)
    (if a < st ∧ st < (a + b) / 2 then jQ W f X1 a st ((a + b) / 2) else X1)) (fo X m st en)) ((a + b) / 2 + m - st)) (dG W X a m b)
theorem xc {a m b:Nat} (h1:a < m) (h2:m < b):iQ a m b ≤ jn a m b ∧ jn a m b ≤ m ∧ a ≤ iQ a m b ∧ (a + b) / 2 + m ≤ iQ a m b + b:=by
 unfold iQ jn; split <;> omega
theorem nh {X:List Nat} {m st en:Nat} (h:en ≤ X.length):(fo X m st en).Perm X:=by
 unfold fo; split
 ·next q=>exact uY q.1 q.2 h
 ·exact NF _
theorem eg {W:List Nat}:∀ (f:Nat) (X:List Nat) (a m b:Nat),a < m → m < b → b ≤ X.length → (jQ W f X a m b).Perm X
 | 0,_,_,_,_,_,_,_=>NF _
 | f + 1,X,a,m,b,h1,h2,h3=>by
  rw [jQ]
  split
  ·have:=lE (p:=qA W X a) (b - m) m b (by omega)
   exact qu _ (by omega)
  ·split
   ·exact qv (by omega) _
   ·have hs:=xc h1 h2
    have hi:=lE (p:=qC W X ((a + b) / 2 + m - 1)) (jn a m b - iQ a m b) (iQ a m b) (jn a m b) hs.1
    show List.Perm (if (a + b) / 2 < (a + b) / 2 + m - dG W X a m b ∧ _ then _ else _) X
    generalize hst:dG W X a m b = st at *
    have hst2:iQ a m b ≤ st ∧ st ≤ jn a m b:=by rw [← hst]; exact hi
    have q1:(fo X m st ((a + b) / 2 + m - st)).Perm X:=nh (by omega)
    have l1:=q1.length_eq
    have q2:(if a < st ∧ st < (a + b) / 2 then jQ W f (fo X m st ((a + b) / 2 + m - st)) a st ((a + b) / 2) else fo X m st ((a + b) / 2 + m - st)).Perm X:=by
     split
     ·next q=>exact (eg f _ _ _ _ q.1 q.2 (by omega)).trans q1
     ·exact q1
    have l2:=q2.length_eq
    generalize (if a < st ∧ st < (a + b) / 2 then jQ W f (fo X m st ((a + b) / 2 + m - st)) a st ((a + b) / 2) else fo X m st ((a + b) / 2 + m - st)) = X2 at *
    split
    ·next q=>exact (eg f _ _ _ _ q.1 q.2 (by omega)).trans q2
    ·exact q2
theorem Ej (X:List Nat) (N:Nat) (hN:N = X.length) (hN2:N ≤ 1000) (W:List Nat) (L:Nat) (hL:L = W.length) {a m b:Nat} (h1:a < m) (h2:m < b) (h3:b ≤ N):RtH W L N X a m b (w8 X a m b):=⟨fun Y x y z hY hx hy hz=>by
 subst hY hx hy hz
 exact Hz Y N hN hN2 W L hL a m b h1 h2 h3 _ rfl⟩
theorem tL (W:List Nat) (L:Nat) (hL:L = W.length) (N:Nat) (hN2:N ≤ 1000):∀ (f:Nat) (X:List Nat),N = X.length → bq L X → ∀ (a m b:Nat),a < m → m < b → b ≤ N → b - a ≤ f → SpecH true Tryz.prog 197 [.ref 0 0 0 N 1,nD a,nD m,nD b,.fn (.func 175) [] [.ptr 1 1 0]] [⟨X.map nD, 3, true⟩,⟨[.sl false L 1 (W.map nD)], 152, false⟩] (.tup []) [⟨(jQ W f X a m b).map nD, 3, true⟩,⟨[.sl false L 1 (W.map nD)], 152, false⟩]
 | 0,X,hN,hA,a,m,b,h1,h2,h3,hf=>by omega
 | f + 1,X,hN,hA,a,m,b,h1,h2,h3,hf=>by
  rw [jQ]
  by_cases c1:m = a + 1
  ·rw [if_pos c1]
   exact J7 X N hN hN2 W L hL hA a m b h1 h2 h3 c1 _ rfl (lE _ _ _ (by omega))
  ·rw [if_neg c1]
   by_cases c2:b = m + 1
   ·rw [if_pos c2]
    exact J8 X N hN hN2 W L hL hA a m b h1 h2 h3 c1 c2 _ rfl (lE _ _ _ (by omega))
   ·rw [if_neg c2]
    have hs:=xc h1 h2
    have hi:iQ a m b ≤ dG W X a m b ∧ dG W X a m b ≤ jn a m b:=lE _ _ _ hs.1
    have q1:(fo X m (dG W X a m b) ((a + b) / 2 + m - dG W X a m b)).Perm X:=nh (by omega)
    refine J9 X N hN hN2 W L hL hA a m b h1 h2 h3 c1 c2 (fo X m (dG W X a m b) ((a + b) / 2 + m - dG W X a m b)) (if a < dG W X a m b ∧ dG W X a m b < (a + b) / 2 then jQ W f (fo X m (dG W X a m b) ((a + b) / 2 + m - dG W X a m b)) a (dG W X a m b) ((a + b) / 2) else fo X m (dG W X a m b) ((a + b) / 2 + m - dG W X a m b)) _ ((a + b) / 2) ((a + b) / 2 + m) (dG W X a m b) ((a + b) / 2 + m - dG W X a m b) rfl rfl (iQ a m b) (jn a m b) ⟨hs.1,hs.2.1,hs.2.2.1,hs.2.2.2⟩ rfl hi rfl ?_
    have q2:(if a < dG W X a m b ∧ dG W X a m b < (a + b) / 2 then jQ W f (fo X m (dG W X a m b) ((a + b) / 2 + m - dG W X a m b)) a (dG W X a m b) ((a + b) / 2) else fo X m (dG W X a m b) ((a + b) / 2 + m - dG W X a m b)).Perm X:=by
     split
     ·next q=>exact (eg f _ _ _ _ q.1 q.2 (by rw [q1.length_eq]; omega)).trans q1
     ·exact q1
    have e3:(a + b) / 2 < m → iQ a m b = (a + b) / 2 + m - b ∧ jn a m b = (a + b) / 2:=fun q=>⟨if_pos q,if_pos q⟩
    have e4:m ≤ (a + b) / 2 → iQ a m b = a ∧ jn a m b = m:=fun q=>⟨if_neg (by omega),if_neg (by omega)⟩
    generalize dG W X a m b = st at *
    generalize iQ a m b = s0 at *
    generalize jn a m b = r0 at *
    refine ⟨fun a1 a2=>?_,fun a1=>?_,fun a1 a2=>?_,fun a1=>?_,fun a1 a2=>?_,fun a1=>?_,e3,e4⟩
    ·unfold fo; rw [if_pos ⟨a1,a2⟩]; exact Ej X N hN hN2 W L hL a1 a2 (by omega)
    ·unfold fo; rw [if_neg (fun q=>a1 q.1 q.2)]
    ·rw [if_pos ⟨a1,a2⟩]
     refine ⟨fun Y x y z hY hx hy hz=>?_⟩
     subst hY hx hy hz
     exact tL W L hL N hN2 f _ (by rw [q1.length_eq]; exact hN) (hA.perm q1) _ _ _ a1 a2 (by omega) (by omega)
    ·rw [if_neg (fun q=>a1 q.1 q.2)]
    ·dsimp only
     generalize (if a < st ∧ st < (a + b) / 2 then jQ W f (fo X m st ((a + b) / 2 + m - st)) a st ((a + b) / 2) else fo X m st ((a + b) / 2 + m - st)) = X2 at *
     rw [if_pos ⟨a1,a2⟩]
     refine ⟨fun Y x y z hY hx hy hz=>?_⟩
     subst hY hx hy hz
     exact tL W L hL N hN2 f _ (by rw [q2.length_eq]; exact hN) (hA.perm q2) _ _ _ a1 a2 (by omega) (by omega)
    ·dsimp only
     generalize (if a < st ∧ st < (a + b) / 2 then jQ W f (fo X m st ((a + b) / 2 + m - st)) a st ((a + b) / 2) else fo X m st ((a + b) / 2 + m - st)) = X2 at *
     rw [if_neg (fun q=>a1 q.1 q.2)]
end Vp
end Go.Proofs.YtefjnofhgkjpmaaGreat
namespace Go.Proofs.YtefjnofhgkjpmaaGreat
open Go.RowKit Go.Bw Go.Vx
open List (length getD map take drop flatMap replicate)
namespace Vp
theorem xd {p:Prop} (h:p:=by (refine aO ?_; (omega))):p:=h
def vj (W:List Nat) (n:Nat):Nat → Nat → List Nat → List Nat
 | 0,a,Y=>inQ W Y a (n - (a + 1))
 | f + 1,a,Y=>if a + 20 ≤ n then vj W n f (a + 20) (inQ W Y a 19) else inQ W Y a (n - (a + 1))
theorem Ka {W:List Nat} {n f a:Nat} {Y T:List Nat} (hR:vj W n f a Y = T) (hf:n - a ≤ f) (h:a + 20 ≤ n):vj W n (f - 1) (a + 20) (inQ W Y a (a + 20 - (a + 1))) = T:=by
 obtain ⟨g,rfl⟩:∃ g,f = g + 1:=⟨f - 1,by omega⟩
 rw [← hR,show a + 20 - (a + 1) = 19 from by omega]; exact (if_pos h).symm
theorem Kb {W:List Nat} {n f a:Nat} {Y T:List Nat} (hR:vj W n f a Y = T) (h:¬ a + 20 ≤ n):inQ W Y a (n - (a + 1)) = T:=by
 rw [← hR]; cases f with
 | zero=>rfl
 | succ f=>exact (if_neg h).symm
def oz (W:List Nat) (z n:Nat):Nat → Nat → List Nat → List Nat
 | 0,a,Y=>if a + z < n then jQ W (2 * z) Y a (a + z) n else Y
 | f + 1,a,Y=>if a + 2 * z ≤ n then oz W z n f (a + 2 * z) (jQ W (2 * z) Y a (a + z) (a + 2 * z)) else if a + z < n then jQ W (2 * z) Y a (a + z) n else Y
theorem Kc {W:List Nat} {z n f a:Nat} {Y T:List Nat} (hR:oz W z n f a Y = T) (hf:n - a ≤ f) (hz:0 < z) (h:a + 2 * z ≤ n):oz W z n (f - 1) (a + 2 * z) (jQ W (2 * z) Y a (a + z) (a + 2 * z)) = T:=by
 obtain ⟨g,rfl⟩:∃ g,f = g + 1:=⟨f - 1,by omega⟩
 rw [← hR]; exact (if_pos h).symm
theorem Kd {W:List Nat} {z n f a:Nat} {Y T:List Nat} (hR:oz W z n f a Y = T) (h:¬ a + 2 * z ≤ n):(if a + z < n then jQ W (2 * z) Y a (a + z) n else Y) = T:=by
 rw [← hR]; cases f with
 | zero=>rfl
 | succ f=>exact (if_neg h).symm
def vk (W:List Nat) (n:Nat):Nat → Nat → List Nat → List Nat
 | 0,_,Y=>Y
 | f + 1,z,Y=>if z < n then vk W n f (2 * z) (oz W z n n 0 Y) else Y
theorem HG {W:List Nat} {z n f:Nat} {Y T:List Nat} (hR:vk W n f z Y = T) (hf:n - z ≤ f) (h:z < n):vk W n (f - 1) (2 * z) (oz W z n n 0 Y) = T:=by
 obtain ⟨g,rfl⟩:∃ g,f = g + 1:=⟨f - 1,by omega⟩
 rw [← hR]; exact (if_pos h).symm
theorem Ke {W:List Nat} {z n f:Nat} {Y T:List Nat} (hR:vk W n f z Y = T) (h:¬ z < n):Y = T:=by
 rw [← hR]; cases f with
 | zero=>rfl
 | succ f=>exact (if_neg h).symm
def Kf (W X:List Nat):List Nat:=vk W X.length X.length 20 (vj W X.length X.length 0 X)
theorem lF {W:List Nat} {n:Nat}:∀ (f a:Nat) (Y:List Nat),n = Y.length → a ≤ n → (vj W n f a Y).Perm Y
 | 0,a,Y,hn,ha=>gB _ (by omega)
 | f + 1,a,Y,hn,ha=>by
  rw [vj]; split
  ·have q:(inQ W Y a 19).Perm Y:=gB _ (by omega)
   exact (lF f _ _ (by rw [q.length_eq]; exact hn) (by omega)).trans q
  ·exact gB _ (by omega)
theorem iR {W:List Nat} {z n:Nat} (hz:0 < z):∀ (f a:Nat) (Y:List Nat),n = Y.length → (oz W z n f a Y).Perm Y
 | 0,a,Y,hn=>by
  rw [oz]; split
  ·exact eg _ _ _ _ _ (by omega) (by omega) (by omega)
  ·exact NF _
 | f + 1,a,Y,hn=>by
  rw [oz]; split
  ·have q:(jQ W (2 * z) Y a (a + z) (a + 2 * z)).Perm Y:=eg _ _ _ _ _ (by omega) (by omega) (by omega)
   exact (iR hz f _ _ (by rw [q.length_eq]; exact hn)).trans q
  ·split
   ·exact eg _ _ _ _ _ (by omega) (by omega) (by omega)
   ·exact NF _
theorem qw {W:List Nat} {n:Nat}:∀ (f z:Nat) (Y:List Nat),0 < z → n = Y.length → (vk W n f z Y).Perm Y
 | 0,z,Y,hz,hn=>NF _
 | f + 1,z,Y,hz,hn=>by
  rw [vk]; split
  ·have q:=iR (W:=W) hz n 0 Y hn
   exact (qw f _ _ (by omega) (by rw [q.length_eq]; exact hn)).trans q
  ·exact NF _
theorem xe (W X:List Nat):(Kf W X).Perm X:=by
 have q:=lF (W:=W) X.length 0 X rfl (Mw _)
 exact (qw _ _ _ (by decide) q.length_eq.symm).trans q
structure Ord (L N:Nat) (Y:List Nat):Prop where
 n:N = Y.length
 a:bq L Y
theorem Ord.perm {L N:Nat} {X Y:List Nat} (h:Ord L N X) (q:Y.Perm X):Ord L N Y:=⟨by rw [q.length_eq]; exact h.n,h.a.perm q⟩
theorem Ord.in {L N:Nat} {W Y:List Nat} {a b:Nat} (h:Ord L N Y) (hb:b ≤ N):Ord L N (inQ W Y a (b - (a + 1))):=h.perm (gB _ (by have:=h.n; omega))
theorem Ord.sm {L N:Nat} {W Y:List Nat} {f a m b:Nat} (h:Ord L N Y) (h1:a < m) (h2:m < b) (hb:b ≤ N):Ord L N (jQ W f Y a m b):=h.perm (eg _ _ _ _ _ h1 h2 (by have:=h.n; omega))
theorem Co (Y:List Nat) (N:Nat) (hN2:N ≤ 1000) (W:List Nat) (L:Nat) (hL:L = W.length) (hO:Ord L N Y) (a b:Nat) (h1:a ≤ b) (h3:b ≤ N):SpecH true Tryz.prog 196 [.ref 0 0 0 N 1,nD a,nD b,.fn (.func 175) [] [.ptr 1 1 0]] [⟨Y.map nD, 3, true⟩,⟨[.sl false L 1 (W.map nD)], 152, false⟩] (.tup []) [⟨(inQ W Y a (b - (a + 1))).map nD, 3, true⟩,⟨[.sl false L 1 (W.map nD)], 152, false⟩]:=HA Y N hO.n hN2 W L hL hO.a a b h1 h3 _ rfl
theorem HH (Y:List Nat) (N:Nat) (hN2:N ≤ 1000) (W:List Nat) (L:Nat) (hL:L = W.length) (hO:Ord L N Y) (z a:Nat) (hz:0 < z) (h3:a + 2 * z ≤ N):SpecH true Tryz.prog 197 [.ref 0 0 0 N 1,nD a,iD ((a:Int) + z),nD (a + 2 * z),.fn (.func 175) [] [.ptr 1 1 0]] [⟨Y.map nD, 3, true⟩,⟨[.sl false L 1 (W.map nD)], 152, false⟩] (.tup []) [⟨(jQ W (2 * z) Y a (a + z) (a + 2 * z)).map nD, 3, true⟩,⟨[.sl false L 1 (W.map nD)], 152, false⟩] :=
 tL W L hL N hN2 (2 * z) Y hO.n hO.a a (a + z) (a + 2 * z) (by omega) (by omega) h3 (by omega)
theorem HI (Y:List Nat) (N:Nat) (hN2:N ≤ 1000) (W:List Nat) (L:Nat) (hL:L = W.length) (hO:Ord L N Y) (z a:Nat) (hz:0 < z) (h:a + z < N) (h3:N < a + 2 * z):SpecH true Tryz.prog 197 [.ref 0 0 0 N 1,nD a,iD ((a:Int) + z),nD N,.fn (.func 175) [] [.ptr 1 1 0]] [⟨Y.map nD, 3, true⟩,⟨[.sl false L 1 (W.map nD)], 152, false⟩] (.tup []) [⟨(jQ W (2 * z) Y a (a + z) N).map nD, 3, true⟩,⟨[.sl false L 1 (W.map nD)], 152, false⟩] :=
 tL W L hL N hN2 (2 * z) Y hO.n hO.a a (a + z) N (by omega) h (LV _) (by omega)
theorem HJ (X:List Nat) (N:Nat) (hN2:N ≤ 1000) (W:List Nat) (L:Nat) (hL:L = W.length) (hO:Ord L N X) (T1 T:List Nat) (hT1:vj W N N 0 X = T1) (hO1:Ord L N T1) (hT:vk W N N 20 T1 = T):SpecH true Tryz.prog 190 [.ref 0 0 0 N 1,nD N,.fn (.func 175) [] [.ptr 1 1 0]] [⟨X.map nD, 3, true⟩,⟨[.sl false L 1 (W.map nD)], 152, false⟩] (.tup []) [⟨T.map nD, 3, true⟩,⟨[.sl false L 1 (W.map nD)], 152, false⟩]:=by
 refine SpecH.run T_ok ai Tryz.func190 rfl rfl rfl ⟨lm _,rfl,trivial⟩ rfl 1000 64 (fun R ok=>(.s 4 (Hn.inl T_ok ai false 63 2 (ay Tryz.prog 190 0) (fun (x:(a:Nat) ×' (Y:List Nat) ×' (f:Nat) ×' (ha:a ≤ N) ×' (hQ:Ord L N Y) ×' (hf:N - a ≤ f) ×' (hR:vj W N f a Y = T1) ×' Unit)=>match x with | ⟨a,Y,f,ha,hQ,hf,hR,_⟩=>CutS.mk [(0,D.ref 0 0 0 N 1),(1,zN N),(2,D.fn (Mn 175) [] [D.ptr 1 1 0]),(6,zI 20),(7,nD a),(8,nD (a + 20))] [⟨0,0,0,0,.b ⟨Y.map nD,3,true⟩⟩,⟨1,1,1,1,.b ⟨[D.sl false L 1 (map nD W)],152,false⟩⟩] 24) (fun (x:(a:Nat) ×' (Y:List Nat) ×' (f:Nat) ×' (ha:a ≤ N) ×' (hQ:Ord L N Y) ×' (hf:N - a ≤ f) ×' (hR:vj W N f a Y = T1) ×' Unit)=>match x with | ⟨a,Y,f,ha,hQ,hf,hR,_⟩=>N - a) [⟨(a2:Nat) ×' (Y2:List Nat) ×' (ha2:a2 ≤ N) ×' (hQ2:Ord L N Y2) ×' (hR2:inQ W Y2 a2 (N - (a2 + 1)) = T1) ×' Unit,.exit 0,fun x=>match x with | ⟨a2,Y2,ha2,hQ2,hR2,_⟩=>CutS.mk [(0,D.ref 0 0 0 N 1),(1,zN N),(2,D.fn (Mn 175) [] [D.ptr 1 1 0]),(6,zI 20),(7,nD a2),(8,nD (a2 + 20))] [⟨0,0,0,0,.b ⟨Y2.map nD,3,true⟩⟩,⟨1,1,1,1,.b ⟨[D.sl false L 1 (map nD W)],152,false⟩⟩] 24⟩] 1000 64 (fun | ⟨a,Y,f,ha,hQ,hf,hR,_⟩,Q,next1,last1=>(.s 4 (.br (decide ((↑(a + 20):Int) ≤ (N:Int))) (fun p0=>have p0f:=aU p0; (.s 5 (.call 196 true [0,1] (true) wr ([D.ref 0 0 0 N 1,zN a,zN (a + 20),D.fn (Mn 175) [] [D.ptr 1 1 0]]) _ (bW.refl _) (ab (map nD Y) && true) (by (simp; done)) _ _ _ (CallOk.fn (aA.of Tryz.func196 rfl rfl) (@Co (Y) (N) om (W) (L) om om (a) (a + 20) om om)) (.s 6 (.ow ((↑(a + 20):Int) + 20) (.s 1 (.val 8 (zI ((↑(a + 20):Int) + 20)) (zN (a + 20 + 20)) xd (Hn.next next1 ⟨(a + 20),(inQ W Y a (a + 20 - (a + 1))),(f - 1),om,(by (exact hQ.in (by (omega)))),om,(by ( exact Ka hR om om)),⟨⟩⟩ (by show N - (a + 20) < N - a; clear next1 last1; omega) [(0,0),(1,1)] ro)))))))) (fun p0=>have p0f:=aV p0; (Hn.last last1 0 (⟨(a),(Y),om,om,(by ( exact Kb hR om)),⟨⟩⟩:(a2:Nat) ×' (Y2:List Nat) ×' (ha2:a2 ≤ N) ×' (hQ2:Ord L N Y2) ×' (hR2:inQ W Y2 a2 (N - (a2 + 1)) = T1) ×' Unit) rfl [(0,0),(1,1)] ro))))) (fun | ⟨a,Y,f,ha,hQ,hf,hR,_⟩=>by kernel_rfl) ⟨(0),(X),(N),om,om,om,om,⟨⟩⟩ [(0,0),(1,1)] ro (b5 (fun | ⟨a2,Y2,ha2,hQ2,hR2,_⟩=>(.s 5 (.call 196 true [0,1] (true) wr ([D.ref 0 0 0 N 1,zN a2,zN N,D.fn (Mn 175) [] [D.ptr 1 1 0]]) _ (bW.refl _) (ab (map nD Y2) && true) (by (simp; done)) _ _ _ (CallOk.fn (aA.of Tryz.func196 rfl rfl) (@Co (Y2) (N) om (W) (L) om om (a2) (N) om om)) (.blk 0 0 (Blk.mk (map nD (inQ W Y2 a2 (N - (a2 + 1)))) 3 true) (Blk.mk (map nD T1) 3 true) (by (rw [hR2])) (Hn.inl T_ok ai false 63 2 (ay Tryz.prog 190 1) (fun (x:(z:Nat) ×' (Z:List Nat) ×' (f:Nat) ×' (hz:20 ≤ z ∧ z ≤ 2000) ×' (hQ:Ord L N Z) ×' (hf:N - z ≤ f) ×' (hR:vk W N f z Z = T) ×' Unit)=>match x with | ⟨z,Z,f,hz,hQ,hf,hR,_⟩=>CutS.mk [(0,D.ref 0 0 0 N 1),(1,zN N),(2,D.fn (Mn 175) [] [D.ptr 1 1 0]),(6,nD z)] [⟨0,0,0,0,.b ⟨Z.map nD,3,true⟩⟩,⟨1,1,1,1,.b ⟨[D.sl false L 1 (map nD W)],152,false⟩⟩] 24) (fun (x:(z:Nat) ×' (Z:List Nat) ×' (f:Nat) ×' (hz:20 ≤ z ∧ z ≤ 2000) ×' (hQ:Ord L N Z) ×' (hf:N - z ≤ f) ×' (hR:vk W N f z Z = T) ×' Unit)=>match x with | ⟨z,Z,f,hz,hQ,hf,hR,_⟩=>N - z) [⟨Unit,.exit 2,fun x=>match x with | ()=>CutS.mk [(0,D.ref 0 0 0 N 1),(1,zN N),(2,D.fn (Mn 175) [] [D.ptr 1 1 0])] [⟨0,0,0,0,.b ⟨T.map nD,3,true⟩⟩,⟨1,1,1,1,.b ⟨[D.sl false L 1 (map nD W)],152,false⟩⟩] 24⟩] 1000 64 (fun | ⟨z,Z,f,hz,hQ,hf,hR,_⟩,Q,next1,last1=>(.s 4 (.br (decide ((z:Int) < (N:Int))) (fun p1=>have p1f:=aU p1; (.s 3 (.ow (2 * (z:Int)) (.s 2 (.val 8 (zI (2 * (z:Int))) (zN (0 + 2 * z)) xd (Hn.inl T_ok ai false 63 2 (ay Tryz.prog 190 2) (fun (x:(a:Nat) ×' (Y:List Nat) ×' (g:Nat) ×' (ha:a ≤ N) ×' (hQ:Ord L N Y) ×' (hf:N - a ≤ g) ×' (hR:oz W z N g a Y = oz W z N N 0 Z) ×' Unit)=>match x with | ⟨a,Y,g,ha,hQ,hf,hR,_⟩=>CutS.mk [(0,D.ref 0 0 0 N 1),(1,zN N),(2,D.fn (Mn 175) [] [D.ptr 1 1 0]),(6,zN z),(7,nD a),(8,nD (a + 2 * z))] [⟨0,0,0,0,.b ⟨Y.map nD,3,true⟩⟩,⟨1,1,1,1,.b ⟨[D.sl false L 1 (map nD W)],152,false⟩⟩] 24) (fun (x:(a:Nat) ×' (Y:List Nat) ×' (g:Nat) ×' (ha:a ≤ N) ×' (hQ:Ord L N Y) ×' (hf:N - a ≤ g) ×' (hR:oz W z N g a Y = oz W z N N 0 Z) ×' Unit)=>match x with | ⟨a,Y,g,ha,hQ,hf,hR,_⟩=>N - a) [⟨(a3:Nat) ×' (Y3:List Nat) ×' (ha3:a3 ≤ N ∧ N < a3 + 2 * z) ×' (hQ3:Ord L N Y3) ×' (hR3:(if a3 + z < N then jQ W (2 * z) Y3 a3 (a3 + z) N else Y3) = oz W z N N 0 Z) ×' Unit,.exit 4,fun x=>match x with | ⟨a3,Y3,ha3,hQ3,hR3,_⟩=>CutS.mk [(0,D.ref 0 0 0 N 1),(1,zN N),(2,D.fn (Mn 175) [] [D.ptr 1 1 0]),(6,zN z),(7,nD a3),(8,nD (a3 + 2 * z))] [⟨0,0,0,0,.b ⟨Y3.map nD,3,true⟩⟩,⟨1,1,1,1,.b ⟨[D.sl false L 1 (map nD W)],152,false⟩⟩] 24⟩] 1000 64 (fun | ⟨a,Y,g,ha,hQ,hf,hR,_⟩,Q,next2,last2=>(.s 4 (.br (decide ((↑(a + 2 * z):Int) ≤ (N:Int))) (fun p2=>have p2f:=aU p2; (.s 6 (.ow ((a:Int) + (z:Int)) (.s 3 (.call 197 true [0,1] (true) wr ([D.ref 0 0 0 N 1,zN a,zI ((a:Int) + (z:Int)),zN (a + 2 * z),D.fn (Mn 175) [] [D.ptr 1 1 0]]) _ (bW.refl _) (ab (map nD Y) && true) (by (simp; done)) _ _ _ (CallOk.fn (aA.of Tryz.func197 rfl rfl) (@HH (Y) (N) om (W) (L) om om (z) (a) om om)) (.s 6 (.ow (2 * (z:Int)) (.s 2 (.ow ((↑(a + 2 * z):Int) + 2 * (z:Int)) (.s 1 (.val 8 (zI ((↑(a + 2 * z):Int) + 2 * (z:Int))) (zN (a + 2 * z + 2 * z)) xd (Hn.next next2 ⟨(a + 2 * z),(jQ W (2 * z) Y a (a + z) (a + 2 * z)),(g - 1),om,(by (exact hQ.sm (by (omega)) (by (omega)) (by (omega)))),om,(by ( exact Kc hR om om om)),⟨⟩⟩ (by show N - (a + 2 * z) < N - a; clear next2 last2 next1 last1; omega) [(0,0),(1,1)] ro)))))))))))) (fun p2=>have p2f:=aV p2; (Hn.last last2 0 (⟨(a),(Y),om,om,(by ( exact Kd hR om)),⟨⟩⟩:(a3:Nat) ×' (Y3:List Nat) ×' (ha3:a3 ≤ N ∧ N < a3 + 2 * z) ×' (hQ3:Ord L N Y3) ×' (hR3:(if a3 + z < N then jQ W (2 * z) Y3 a3 (a3 + z) N else Y3) = oz W z N N 0 Z) ×' Unit) rfl [(0,0),(1,1)] ro))))) (fun | ⟨a,Y,g,ha,hQ,hf,hR,_⟩=>by kernel_rfl) ⟨(0),(Z),(N),om,om,om,wr,⟨⟩⟩ [(0,0),(1,1)] ro (b5 (fun | ⟨a3,Y3,ha3,hQ3,hR3,_⟩=>(.s 4 (.ow ((a3:Int) + (z:Int)) (.s 5 (.br (decide ((a3:Int) + (z:Int) < (N:Int))) (fun p3=>have p3f:=aU p3; (.s 6 (.call 197 true [0,1] (true) wr ([D.ref 0 0 0 N 1,zN a3,zI ((a3:Int) + (z:Int)),zN N,D.fn (Mn 175) [] [D.ptr 1 1 0]]) _ (bW.refl _) (ab (map nD Y3) && true) (by (simp; done)) _ _ _ (CallOk.fn (aA.of Tryz.func197 rfl rfl) (@HI (Y3) (N) om (W) (L) om om (z) (a3) om om om)) (.s 3 (.ow ((z:Int) * 2) (.s 1 (.val 6 (zI ((z:Int) * 2)) (zN (2 * z)) xd (.blk 0 0 (Blk.mk (map nD (jQ W (2 * z) Y3 a3 (a3 + z) N)) 3 true) (Blk.mk (map nD (oz W z N N 0 Z)) 3 true) (by ( rw [if_pos om] at hR3; rw [hR3])) (Hn.next next1 ⟨(2 * z),(oz W z N N 0 Z),(f - 1),om,(by ( exact hQ.perm (iR om _ _ _ hQ.n))),om,(by ( exact HG hR om om)),⟨⟩⟩ (by show N - 2 * z < N - z; clear next1 last1; omega) [(0,0),(1,1)] ro))))))))) (fun p3=>have p3f:=aV p3; (.s 3 (.ow ((z:Int) * 2) (.s 1 (.val 6 (zI ((z:Int) * 2)) (zN (2 * z)) xd (.blk 0 0 (Blk.mk (map nD Y3) 3 true) (Blk.mk (map nD (oz W z N N 0 Z)) 3 true) (by ( rw [if_neg om] at hR3; rw [hR3])) (Hn.next next1 ⟨(2 * z),(oz W z N N 0 Z),(f - 1),om,(by ( exact hQ.perm (iR om _ _ _ hQ.n))),om,(by ( exact HG hR om om)),⟨⟩⟩ (by show N - 2 * z < N - z; clear next1 last1; omega) [(0,0),(1,1)] ro))))))))))))))))))) (fun p1=>have p1f:=aV p1; (.blk 0 0 (Blk.mk (map nD Z) 3 true) (Blk.mk (map nD T) 3 true) (by ( rw [Ke hR om])) (Hn.last last1 0 (():Unit) rfl [(0,0),(1,1)] ro)))))) (fun | ⟨z,Z,f,hz,hQ,hf,hR,_⟩=>by kernel_rfl) ⟨(20),(T1),(N),om,om,om,om,⟨⟩⟩ [(0,0),(1,1)] ro (b5 (fun | ()=>(.out [0,1] [0,1] (D.tup []) [Blk.mk (map nD T) 3 true,Blk.mk [D.sl false L 1 (map nD W)] 152 false] R (ok _ _ wr wr))))))))))))) (by kernel_rfl)
end Vp
end Go.Proofs.YtefjnofhgkjpmaaGreat
namespace Go.Proofs.YtefjnofhgkjpmaaGreat
open Go.RowKit Go.Bw Go.Vx
open List (length getD map take drop flatMap replicate)
namespace Vp
theorem r8 {p:Prop} (h:p:=by ((refine aK ?_ ?_) <;> (repeat' (first | (refine aK ?_ ?_) | (with_reducible rfl) | (refine decide_eq_true ?_) | (refine LK ?_) | (refine eT ?_))) <;> (omega))):p:=h
theorem xf {p:Prop} (h:p:=by (simp only [bl (k:=2) (fun (x:Pc)=>(rfl:(cr x).length = 2)),MM,L7,Mc]; refine LK ?_; (omega))):p:=h
theorem xg {p:Prop} (h:p:=by (rw [LJ]; rfl)):p:=h
theorem xh {p:Prop} (h:p:=by (rw [LJ]; simp only [Mu]; (omega))):p:=h
theorem zF {p:Prop} (h:p:=by (refine decide_eq_false ?_; (omega))):p:=h
theorem zG {p:Prop} (h:p:=by (refine aO ?_; (omega))):p:=h
theorem zH {p:Prop} (h:p:=by ( have q:=@Kr row i; refine aO ?_; omega)):p:=h
def ek (W:List Nat) (k:Nat):List Nat:=lk W ((Mt k).filter fun i=>decide (0 < W.getD i jd))
theorem eX (W:List Nat) (k:Nat):ek W k = (Mt k).filter fun i=>decide (0 < W.getD i jd):=aF _ _
theorem Cp (W:List Nat):ek W 0 = []:=eX W 0
theorem Cq {W:List Nat} {k:Nat} (h:0 < W.getD (k * 1) jd):ek W (k + 1) = ek W k ++ [k]:=by
 rw [Me] at h
 rw [eX,eX,NU,MO,Nf (by simpa using h)]; rfl
theorem Cr {W:List Nat} {k:Nat} (h:¬ 0 < W.getD (k * 1) jd):ek W (k + 1) = ek W k:=by
 rw [Me] at h
 rw [eX,eX,NU,MO,Ng (by simpa using h),PM,MA]
theorem ik (W:List Nat) (k:Nat):(ek W k).length ≤ k:=by
 rw [eX]; exact LM (Ok _ _) (by simp)
theorem oD {W:List Nat} {k:Nat}:bq k (ek W k):=fun x hx=>by
 rw [eX,N9] at hx
 exact List.mem_range.1 hx.1
def eJ (W:List Nat):List Nat:=lk W (Kf W (ek W W.length))
theorem xi (W:List Nat):eJ W = Kf W (ek W W.length):=aF _ _
theorem dH (W:List Nat):(eJ W).Perm (ek W W.length):=by rw [xi]; exact xe _ _
structure SrE (W:List Nat) (L N:Nat) (X T1 T:List Nat):Prop where
 o:Ord L N X
 t1:vj W N N 0 X = T1
 o1:Ord L N T1
 t:vk W N N 20 T1 = T
theorem Ek {W:List Nat} {L N:Nat} (hL:L = W.length) {X:List Nat} (hX:X = ek W L) (hN:N = X.length):∃ T1,SrE W L N X T1 (eJ W):=by
 subst hX hN hL
 have o:Ord W.length (ek W W.length).length (ek W W.length):=⟨rfl,oD⟩
 exact ⟨_,o,rfl,o.perm (lF _ _ _ rfl (Mw _)),by rw [xi]; rfl⟩
theorem Kg {m:Nat} (h:m ≤ 15):IntKind.i64.wrap (2 ^ min m 64 * 1) = ((2 ^ m:Nat):Int):=by
 have h2:2 ^ m ≤ 2 ^ 15:=MB (by decide) h
 rw [show min m 64 = m from by omega,Int.mul_one,show (2:Int) ^ m = ((2 ^ m:Nat):Int) from by push_cast; rfl]
 generalize 2 ^ m = Z at *
 have q:=fj (x:=((Z:Nat):Int)) (by omega)
 rw [aL] at q
 injection q with q; injection q with q; injection q
structure Pc where
 w:Nat
 p:Bool
 deriving Inhabited
abbrev cr (x:Pc):List D:=[nD x.w,bD x.p]
def fY (ws:List Nat):List Pc:=ws.map fun w=>⟨w,false⟩
def dT (s:Nat):List Nat → List Pc × List Nat
 | []=>([⟨s,true⟩],[])
 | w :: r=>if s < w then ([⟨s,true⟩],w :: r) else (⟨w,false⟩ :: (dT s r).1,(dT s r).2)
def eo:List Pc → List Nat → List Pc
 | x :: y :: r,ws=>(dT (x.w + y.w) ws).1 ++ eo r (dT (x.w + y.w) ws).2
 | _,ws=>fY ws
def El (row:List Pc) (ws:List Nat):List Pc:=lk ws (eo row ws)
theorem fV (row:List Pc) (ws:List Nat):El row ws = eo row ws:=aF _ _
theorem Kh {row:List Pc} {ws:List Nat} {i:Nat} (h:i + 1 < row.length):eo (row.drop i) ws = (dT ((row.getD i jd).w + (row.getD (i + 1) jd).w) ws).1 ++ eo (row.drop (i + 2)) (dT ((row.getD i jd).w + (row.getD (i + 1) jd).w) ws).2:=by
 rw [M1 (show i < row.length by omega),M1 h,eo]
 have e1:row[i] = row.getD i jd:=by rw [List.getD_eq_getElem?_getD,List.getElem?_eq_getElem (by omega)]; rfl
 have e2:row[i + 1] = row.getD (i + 1) jd:=by rw [List.getD_eq_getElem?_getD,List.getElem?_eq_getElem h]; rfl
 rw [e1,e2]
theorem Ki {row:List Pc} {ws:List Nat} {i:Nat} (h:¬ i + 1 < row.length):eo (row.drop i) ws = fY ws:=by
 have:(row.drop i).length ≤ 1:=by rw [L9]; omega
 match hm:row.drop i,this with
 | [],_=>rfl
 | [x],_=>rfl
theorem Kj {s:Nat} {ws:List Nat} {k:Nat} (hk:k < ws.length) (h:s < ws.getD k jd):dT s (ws.drop k) = ([⟨s,true⟩],ws.drop k):=by
 have e1:ws[k] = ws.getD k jd:=by rw [List.getD_eq_getElem?_getD,List.getElem?_eq_getElem hk]; rfl
 rw [M1 hk,dT,if_pos (by rw [e1]; exact h)]
theorem Kk {s:Nat} {ws:List Nat} {k:Nat} (hk:k < ws.length) (h:¬ s < ws.getD k jd):dT s (ws.drop k) = (⟨ws.getD k jd,false⟩ :: (dT s (ws.drop (k + 1))).1,(dT s (ws.drop (k + 1))).2):=by
 have e1:ws[k] = ws.getD k jd:=by rw [List.getD_eq_getElem?_getD,List.getElem?_eq_getElem hk]; rfl
 conv=>lhs; rw [M1 hk,dT,if_neg (by rw [e1]; exact h),e1]
theorem Kl {s:Nat} {ws:List Nat} {k:Nat} (hk:¬ k < ws.length):dT s (ws.drop k) = ([⟨s,true⟩],[]):=by
 rw [MS (by omega)]; rfl
section
variable {row o T:List Pc} {ws:List Nat} {i k s x:Nat}
theorem Km (h:i + 1 < row.length) (hR:o ++ eo (row.drop i) (ws.drop k) = T):o ++ ((dT ((row.getD i jd).w + (row.getD (i + 1) jd).w) (ws.drop k)).1 ++ eo (row.drop (i + 2)) (dT ((row.getD i jd).w + (row.getD (i + 1) jd).w) (ws.drop k)).2) = T:=by rw [← hR,Kh h]
theorem Kn (hk:k < ws.length) (h:s < ws.getD k jd) (hR:o ++ ((dT s (ws.drop k)).1 ++ eo (row.drop (i + 2)) (dT s (ws.drop k)).2) = T):(o ++ [⟨s,true⟩]) ++ eo (row.drop (i + 2)) (ws.drop k) = T:=by
 rw [← hR,Kj hk h,Ma]
theorem Ko (hk:k < ws.length) (h:¬ s < ws.getD k jd) (hR:o ++ ((dT s (ws.drop k)).1 ++ eo (row.drop (i + 2)) (dT s (ws.drop k)).2) = T):(o ++ [⟨ws.getD k jd,false⟩]) ++ ((dT s (ws.drop (k + 1))).1 ++ eo (row.drop (i + 2)) (dT s (ws.drop (k + 1))).2) = T:=by
 rw [← hR,Kk hk h,Ma]; rfl
theorem Kp (hk:¬ k < ws.length) (hR:o ++ ((dT s (ws.drop k)).1 ++ eo (row.drop (i + 2)) (dT s (ws.drop k)).2) = T):(o ++ [⟨s,true⟩]) ++ eo (row.drop (i + 2)) (ws.drop k) = T:=by
 rw [← hR,Kl hk,show ws.drop k = [] from MS (by omega),Ma]
theorem Kq (h:¬ i + 1 < row.length) (hR:o ++ eo (row.drop i) (ws.drop k) = T):o ++ fY (ws.drop k) = T:=by rw [← hR,Ki h]
theorem HK (hk:k < ws.length) (hR:o ++ fY (ws.drop k) = T):(o ++ [⟨ws.getD k jd,false⟩]) ++ fY (ws.drop (k + 1)) = T:=by
 have e1:ws[k] = ws.getD k jd:=by rw [List.getD_eq_getElem?_getD,List.getElem?_eq_getElem hk]; rfl
 rw [← hR,M1 hk,Ma,e1]; rfl
theorem zJ (hk:¬ k < ws.length) (hR:o ++ fY (ws.drop k) = T):o = T:=by
 rw [← hR,MS (by omega)]; exact (MA _).symm
end
theorem zK (W:List Nat) (L:Nat) (hL:L = W.length) (hL2:L ≤ 320) (hB:∀ t,W.getD t jd ≤ 1073741824) (m:Nat) (hm:1 ≤ m ∧ m ≤ 15) (N:Nat) (hN:N = (ek W L).length) (X T1:List Nat) (hX:ek W L = X) (hS:SrE W L N X T1 (eJ W)) (hNm:N ≤ 2 ^ m) (o:Ord L N X) (t1:vj W N N 0 X = T1) (o1:Ord L N T1) (t:vk W N N 20 T1 = eJ W):SpecH false Tryz.prog 144 [.sl false L 1 (W.map nD),nD m] [] (.tup [.ref 0 0 0 N 1,iD 0]) [⟨(eJ W).map nD, 3, true⟩]:=by
 have hP:=Kg hm.2
 have hN3:N ≤ 320:=by rw [hN]; exact LM (ik W L) hL2
 refine SpecH.run T_ok ai Tryz.func144 rfl rfl rfl ⟨Dx _ (fun _=>rfl) _,trivial⟩ rfl 1000 64 (fun R ok=>(.s 9 (.f (decide ((m:Int) < 1)) zF (.s 4 (.f (decide (15 < (m:Int))) zF (.s 6 (.f (decide (320 < (L:Int))) zF (.s 5 (.nils 4 120 1 3 (.val 4 (D.ref 120 120 0 0 1) (D.ref 120 120 0 (length (ek W 0)) 1) (by (rw [Cp]; rfl)) (.blk 120 120 (Blk.mk [] 3 true) (Blk.mk (map nD (ek W 0)) 3 true) (by (rw [Cp]; rfl)) (Hn.inl T_ok ai false 46 0 (ay Tryz.prog 144 0) (fun (x:(k:Nat) ×' (hk:k ≤ L) ×' Unit)=>match x with | ⟨k,hk,_⟩=>CutS.mk [(1,zN m),(2,D.ptr 0 0 0),(4,(D.ref 8 8 (0) ((ek W k).length) 1)),(17,D.sl false L 1 (map nD W)),(18,zN L),(19,nD k)] [⟨0,0,0,0,.b ⟨[D.sl false L 1 (map nD W)],152,false⟩⟩,⟨8,8,120,120,.b ⟨(ek W k).map nD,3,true⟩⟩] 16) (fun (x:(k:Nat) ×' (hk:k ≤ L) ×' Unit)=>match x with | ⟨k,hk,_⟩=>L - k) [⟨Unit,.exit 0,fun x=>match x with | ()=>CutS.mk [(1,zN m),(2,D.ptr 0 0 0),(4,(D.ref 8 8 (0) (N) 1)),(17,D.sl false L 1 (map nD W)),(18,zN L)] [⟨0,0,0,0,.b ⟨[D.sl false L 1 (map nD W)],152,false⟩⟩,⟨8,8,120,120,.b ⟨X.map nD,3,true⟩⟩] 16⟩] 1000 64 (fun | ⟨k,hk,_⟩,Q,next1,last1=>(.s 2 (.br (decide ((k:Int) < (L:Int))) (fun p0=>have p0f:=aU p0; (.s 2 (.chk (true && decide ((k:Int) < (L:Int)) && true) r8 (.s 2 (.opt ((map nD W)[k * 1]?) (nD (getD W (k * 1) jd)) (au _ _ om) (.s 12 (.f (decide (1073741824 < (↑(getD W (k * 1) jd):Int))) (by (refine decide_eq_false ?_;  have h9:=hB (k * 1); have h8:=ik W k; omega)) (.s 3 (.br (decide (0 < (↑(getD W (k * 1) jd):Int))) (fun p1=>have p1f:=aU p1; (.s 5 (.chk (true && LF (length (ek W k) * 1) (length (map nD (ek W k))) && true && true && true && true && LH ((length (ek W k) + 1) * 8) 140737488355328) (by (simp;  have h9:=hB (k * 1); have h8:=ik W k; omega)) (.s 3 (.ow ((k:Int) + 1) (.s 1 (.val 4 (D.ref 152 152 0 (length (ek W k) + 1) 1) (D.ref 152 152 0 (length (ek W (k + 1))) 1) (by (rw [Cq (by (omega)),LJ]; rfl)) (.val 19 (zI ((k:Int) + 1)) (zN (k + 1)) zG (.blk 152 152 (Blk.mk (map nD (ek W k) ++ [zN k]) 3 true) (Blk.mk (map nD (ek W (k + 1))) 3 true) (by (rw [Cq (by (omega)),Mv]; rfl)) (Hn.next next1 ⟨(k + 1),om,⟨⟩⟩ (by show L - (k + 1) < L - k; clear next1 last1; omega) [(0,0),(152,152)] ro)))))))))) (fun p1=>have p1f:=aV p1; (.s 2 (.ow ((k:Int) + 1) (.s 1 (.val 4 (D.ref 8 8 0 (length (ek W k)) 1) (D.ref 8 8 0 (length (ek W (k + 1))) 1) (by (rw [Cr (by (omega))])) (.val 19 (zI ((k:Int) + 1)) (zN (k + 1)) zG (.blk 8 8 (Blk.mk (map nD (ek W k)) 3 true) (Blk.mk (map nD (ek W (k + 1))) 3 true) (by (rw [Cr (by (omega))])) (Hn.next next1 ⟨(k + 1),om,⟨⟩⟩ (by show L - (k + 1) < L - k; clear next1 last1; omega) [(0,0),(8,8)] ro))))))))))))))))) (fun p0=>have p0f:=aV p0; (.val 4 (D.ref 8 8 0 (length (ek W k)) 1) (D.ref 8 8 0 N 1) (by ( rw [show k = L from by omega,hX,o.n])) (.blk 8 8 (Blk.mk (map nD (ek W k)) 3 true) (Blk.mk (map nD X) 3 true) (by ( rw [show k = L from by omega,hX])) (Hn.last last1 0 (():Unit) rfl [(0,0),(8,8)] ro))))))) (fun | ⟨k,hk,_⟩=>by kernel_rfl) ⟨(0),om,⟨⟩⟩ [(0,0),(120,120)] ro (b5 (fun | ()=>(.s 5 (.opt (aw .i64 (2 ^ min m 64 * 1)) (zI (LZ L5 (2 ^ min m 64 * 1))) (aL _ _) (.s 2 (.f (decide (LZ L5 (2 ^ min m 64 * 1) < (N:Int))) zF (.s 9 (.call 190 true [8,0] (true) wr ([D.ref 0 0 0 N 1,zN N,D.fn (Mn 175) [] [D.ptr 1 1 0]]) _ (bW.refl _) (ab (map nD X) && true) (by (simp; done)) _ _ _ (CallOk.fn (aA.of Tryz.func190 rfl rfl) (@HJ (X) (N) om (W) (L) om om (T1) (eJ W) bx om bx)) (.s 3 (.out [8] [8] (D.tup [D.ref 0 0 0 N 1,zI 0]) [Blk.mk (map nD (eJ W)) 3 true] R (ok _ _ wr wr))))))))))))))))))))))) (by kernel_rfl)
theorem HL {o:List Pc} {x:Pc}:(o ++ [x]).flatMap cr = o.flatMap cr ++ [nD x.w,bD x.p]:=by rw [Nj]; rfl
theorem HM {row:List Pc} {B:Nat} (h:∀ x ∈ row,x.w ≤ B) {i:Nat} (hi:i < row.length):(row.getD i jd).w ≤ B:=by
 rw [List.getD_eq_getElem?_getD,List.getElem?_eq_getElem hi]; exact h _ (Mr hi)
def sP (row:List Pc) (i:Nat):Nat:=lk row ((row.getD i jd).w + (row.getD (i + 1) jd).w)
theorem xj (ws:List Nat) {k j:Nat} (h:k + j < ws.length):(Mm (k * 1) (ws.map nD))[j * 1]? = some (nD (ws.getD (k + j) jd)):=by
 rw [Me,Me,List.getElem?_drop,List.getElem?_map,List.getD_eq_getElem?_getD,List.getElem?_eq_getElem h]; rfl
theorem Cs (row:List Pc) (i:Nat):sP row i = (row.getD i jd).w + (row.getD (i + 1) jd).w:=aF _ _
theorem Kr {row:List Pc} {i:Nat}:((sP row i:Nat):Int) = ((row.getD i jd).w:Int) + ((row.getD ((i:Int) + 1).toNat jd).w:Int):=by rw [Cs,show ((i:Int) + 1).toNat = i + 1 from by omega]; push_cast; rfl
section
variable {row o T:List Pc} {ws:List Nat} {i k:Nat}
theorem HN (h:i + 1 < row.length) (hR:o ++ eo (row.drop i) (ws.drop k) = T):o ++ ((dT (sP row i) (ws.drop k)).1 ++ eo (row.drop (i + 2)) (dT (sP row i) (ws.drop k)).2) = T:=by rw [Cs]; exact Km h hR
end
theorem HO (row:List Pc) (r:Nat) (hr:r = row.length) (hr2:r ≤ 1000) (B:Nat) (hB2:B ≤ 1000000000000000) (hB:∀ x ∈ row,x.w ≤ B) (ws:List Nat) (n:Nat) (hn:n = ws.length) (hn2:n ≤ 1000) (T:List Pc) (hT:El row ws = T):SpecH false Tryz.prog 145 [.sl false r 2 (row.flatMap cr),.sl false n 1 (ws.map nD)] [] (.ref 0 0 0 T.length 2) [⟨T.flatMap cr, 231, true⟩]:=by
 refine SpecH.run T_ok ai Tryz.func145 rfl rfl rfl ⟨ee (fun _=>rfl) _,trivial⟩ rfl 1000 64 (fun R ok=>(.s 3 (.nils 4 24 2 231 (Hn.inl T_ok ai false 74 0 (ay Tryz.prog 145 0) (fun (x:(i:Nat) ×' (k:Nat) ×' (o:List Pc) ×' (hi:i ≤ r + 1) ×' (hk:k ≤ n) ×' (ho:o.length ≤ i + k) ×' (hR:o ++ eo (row.drop i) (ws.drop k) = T) ×' Unit)=>match x with | ⟨i,k,o,hi,hk,ho,hR,_⟩=>CutS.mk [(0,D.sl false r 2 (flatMap cr row)),(1,D.sl false n 1 (map nD ws)),(4,(D.ref 0 0 (0) (o.length) 2)),(5,nD k),(6,nD i)] [⟨0,0,24,24,.b ⟨o.flatMap cr,231,true⟩⟩] 8) (fun (x:(i:Nat) ×' (k:Nat) ×' (o:List Pc) ×' (hi:i ≤ r + 1) ×' (hk:k ≤ n) ×' (ho:o.length ≤ i + k) ×' (hR:o ++ eo (row.drop i) (ws.drop k) = T) ×' Unit)=>match x with | ⟨i,k,o,hi,hk,ho,hR,_⟩=>r + 1 - i) [⟨(k3:Nat) ×' (o3:List Pc) ×' (hk3:k3 ≤ n) ×' (ho3:o3.length ≤ 3000) ×' (hR3:o3 ++ fY (ws.drop k3) = T) ×' Unit,.exit 0,fun x=>match x with | ⟨k3,o3,hk3,ho3,hR3,_⟩=>CutS.mk [(0,D.sl false r 2 (flatMap cr row)),(1,D.sl false n 1 (map nD ws)),(4,(D.ref 0 0 (0) (o3.length) 2)),(5,nD k3)] [⟨0,0,24,24,.b ⟨o3.flatMap cr,231,true⟩⟩] 8⟩] 1000 64 (fun | ⟨i,k,o,hi,hk,ho,hR,_⟩,Q,next1,last1=>(.s 3 (.ow ((i:Int) + 1) (.s 4 (.br (decide ((i:Int) + 1 < (r:Int))) (fun p0=>have p0f:=aU p0; (.s 4 (.chk (true && decide ((i:Int) < (r:Int)) && true) r8 (.s 5 (.opt ((flatMap cr row)[i * 2 + 0]?) (zN (Pc.w (getD row i jd))) (AL (k:=2) (i:=i) (j:=0) (fun _=>rfl) om om rfl) (.s 4 (.ow ((i:Int) + 1) (.s 1 (.chk (true && decide ((i:Int) + 1 < (r:Int)) && true) r8 (.s 5 (.opt ((flatMap cr row)[uM ((i:Int) + 1) * 2 + 0]?) (zN (Pc.w (getD row (uM ((i:Int) + 1)) jd))) (AL (k:=2) (i:=uM ((i:Int) + 1)) (j:=0) (fun _=>rfl) om om rfl) (.s 2 (.op ((↑(Pc.w (getD row i jd)):Int) + (↑(Pc.w (getD row (uM ((i:Int) + 1)) jd)):Int)) (by ( have h9:=HM hB (i:=i) om; have h8:=HM hB (i:=((i:Int) + 1).toNat) om; omega)) (.s 1 (.val 7 (zI ((↑(Pc.w (getD row i jd)):Int) + (↑(Pc.w (getD row (uM ((i:Int) + 1)) jd)):Int))) (zN (sP row i)) zH (Hn.inl T_ok ai false 74 0 (ay Tryz.prog 145 1) (fun (x:(k1:Nat) ×' (o1:List Pc) ×' (hk1:k1 ≤ n) ×' (ho1:o1.length ≤ i + k1) ×' (hR1:o1 ++ ((dT (sP row i) (ws.drop k1)).1 ++ eo (row.drop (i + 2)) (dT (sP row i) (ws.drop k1)).2) = T) ×' Unit)=>match x with | ⟨k1,o1,hk1,ho1,hR1,_⟩=>CutS.mk [(0,D.sl false r 2 (flatMap cr row)),(1,D.sl false n 1 (map nD ws)),(4,(D.ref 0 0 (0) (o1.length) 2)),(5,nD k1),(6,zN i),(7,nD (sP row i))] [⟨0,0,0,0,.b ⟨o1.flatMap cr,231,true⟩⟩] 8) (fun (x:(k1:Nat) ×' (o1:List Pc) ×' (hk1:k1 ≤ n) ×' (ho1:o1.length ≤ i + k1) ×' (hR1:o1 ++ ((dT (sP row i) (ws.drop k1)).1 ++ eo (row.drop (i + 2)) (dT (sP row i) (ws.drop k1)).2) = T) ×' Unit)=>match x with | ⟨k1,o1,hk1,ho1,hR1,_⟩=>n - k1) [⟨(k2:Nat) ×' (o2:List Pc) ×' (hk2:k2 ≤ n) ×' (ho2:o2.length ≤ i + 2 + k2) ×' (hR2:o2 ++ eo (row.drop (i + 2)) (ws.drop k2) = T) ×' Unit,.exit 1,fun x=>match x with | ⟨k2,o2,hk2,ho2,hR2,_⟩=>CutS.mk [(0,D.sl false r 2 (flatMap cr row)),(1,D.sl false n 1 (map nD ws)),(4,(D.ref 0 0 (0) (o2.length) 2)),(5,nD k2),(6,zN i)] [⟨0,0,0,0,.b ⟨o2.flatMap cr,231,true⟩⟩] 8⟩,⟨(k4:Nat) ×' (o4:List Pc) ×' (hk4:k4 ≤ n ∧ n ≤ k4) ×' (ho4:o4.length ≤ i + k4) ×' (hR4:o4 ++ ((dT (sP row i) (ws.drop k4)).1 ++ eo (row.drop (i + 2)) (dT (sP row i) (ws.drop k4)).2) = T) ×' Unit,.exit 2,fun x=>match x with | ⟨k4,o4,hk4,ho4,hR4,_⟩=>CutS.mk [(0,D.sl false r 2 (flatMap cr row)),(1,D.sl false n 1 (map nD ws)),(4,(D.ref 0 0 (0) (o4.length) 2)),(5,nD k4),(6,zN i),(7,nD (sP row i))] [⟨0,0,0,0,.b ⟨o4.flatMap cr,231,true⟩⟩] 8⟩] 1000 64 (fun | ⟨k1,o1,hk1,ho1,hR1,_⟩,Q,next2,last2=>(.s 5 (.br (decide ((k1:Int) < (n:Int))) (fun p1=>have p1f:=aU p1; (.s 3 (.chk (true && decide ((k1:Int) < (n:Int)) && true) r8 (.s 2 (.opt ((map nD ws)[k1 * 1]?) (nD (getD ws (k1 * 1) jd)) (au _ _ om) (.s 3 (.br (decide ((↑(sP row i):Int) < (↑(getD ws (k1 * 1) jd):Int))) (fun p2=>have p2f:=aU p2; (.s 7 (.chk (true && LF (length o1 * 2) (length (flatMap cr o1)) && true && true && true && true && LH ((length o1 + 1) * 16) 140737488355328) xf (.s 1 (.val 4 (D.ref 120 120 0 (length o1 + 1) 2) (D.ref 120 120 0 (length (o1 ++ [Pc.mk (sP row i) true])) 2) xg (.blk 120 120 (Blk.mk (flatMap cr o1 ++ [zN (sP row i),D.v (.bool true)]) 231 true) (Blk.mk (flatMap cr (o1 ++ [Pc.mk (sP row i) true])) 231 true) (by (simp; done)) (Hn.last last2 0 (⟨(k1),(o1 ++ [⟨sP row i,true⟩]),om,xh,(by (simp only [Me] at *;  exact Kn om om hR1)),⟨⟩⟩:(k2:Nat) ×' (o2:List Pc) ×' (hk2:k2 ≤ n) ×' (ho2:o2.length ≤ i + 2 + k2) ×' (hR2:o2 ++ eo (row.drop (i + 2)) (ws.drop k2) = T) ×' Unit) rfl [(120,120)] ro))))))) (fun p2=>have p2f:=aV p2; (.s 4 (.chk (true && decide ((k1:Int) < (n:Int)) && true) r8 (.s 2 (.opt ((map nD ws)[k1 * 1]?) (nD (getD ws (k1 * 1) jd)) (au _ _ om) (.s 5 (.chk (true && LF (length o1 * 2) (length (flatMap cr o1)) && true && true && true && true && LH ((length o1 + 1) * 16) 140737488355328) xf (.s 4 (.ow ((k1:Int) + 1) (.s 1 (.val 4 (D.ref 144 144 0 (length o1 + 1) 2) (D.ref 144 144 0 (length (o1 ++ [Pc.mk (getD ws k1 jd) false])) 2) xg (.val 5 (zI ((k1:Int) + 1)) (zN (k1 + 1)) zH (.blk 144 144 (Blk.mk (flatMap cr o1 ++ [zN (getD ws (k1 * 1) jd),D.v (.bool false)]) 231 true) (Blk.mk (flatMap cr (o1 ++ [Pc.mk (getD ws k1 jd) false])) 231 true) (by (refine aC ?_; rw [HL]; simp only [Me])) (Hn.next next2 ⟨(k1 + 1),(o1 ++ [⟨ws.getD k1 jd,false⟩]),om,xh,(by (simp only [Me] at *;  exact Ko om om hR1)),⟨⟩⟩ (by show n - (k1 + 1) < n - k1; clear next2 last2 next1 last1; omega) [(144,144)] ro))))))))))))))))))))) (fun p1=>have p1f:=aV p1; (Hn.last last2 1 (⟨(k1),(o1),om,om,om,⟨⟩⟩:(k4:Nat) ×' (o4:List Pc) ×' (hk4:k4 ≤ n ∧ n ≤ k4) ×' (ho4:o4.length ≤ i + k4) ×' (hR4:o4 ++ ((dT (sP row i) (ws.drop k4)).1 ++ eo (row.drop (i + 2)) (dT (sP row i) (ws.drop k4)).2) = T) ×' Unit) rfl [(0,0)] ro))))) (fun | ⟨k1,o1,hk1,ho1,hR1,_⟩=>by kernel_rfl) ⟨(k),(o),om,om,(by ( exact HN om hR)),⟨⟩⟩ [(0,0)] ro (eZ (fun | ⟨k2,o2,hk2,ho2,hR2,_⟩=>(.s 3 (.ow ((i:Int) + 2) (.s 1 (.val 6 (zI ((i:Int) + 2)) (zN (i + 2)) zH (Hn.next next1 ⟨(i + 2),(k2),(o2),om,om,om,om,⟨⟩⟩ (by show r + 1 - (i + 2) < r + 1 - i; clear next1 last1; omega) [(0,0)] ro)))))) (fun | ⟨k4,o4,hk4,ho4,hR4,_⟩=>(.s 7 (.chk (true && LF (length o4 * 2) (length (flatMap cr o4)) && true && true && true && true && LH ((length o4 + 1) * 16) 140737488355328) xf (.s 4 (.ow ((i:Int) + 2) (.s 1 (.val 4 (D.ref 40 40 0 (length o4 + 1) 2) (D.ref 40 40 0 (length (o4 ++ [Pc.mk (sP row i) true])) 2) xg (.val 6 (zI ((i:Int) + 2)) (zN (i + 2)) zH (.blk 40 40 (Blk.mk (flatMap cr o4 ++ [zN (sP row i),D.v (.bool true)]) 231 true) (Blk.mk (flatMap cr (o4 ++ [Pc.mk (sP row i) true])) 231 true) (by (simp; done)) (Hn.next next1 ⟨(i + 2),(k4),(o4 ++ [⟨sP row i,true⟩]),om,om,xh,(by ( exact Kp om hR4)),⟨⟩⟩ (by show r + 1 - (i + 2) < r + 1 - i; clear next1 last1; omega) [(40,40)] ro))))))))))))))))))))))))))) (fun p0=>have p0f:=aV p0; (Hn.last last1 0 (⟨(k),(o),om,om,(by ( exact Kq om hR)),⟨⟩⟩:(k3:Nat) ×' (o3:List Pc) ×' (hk3:k3 ≤ n) ×' (ho3:o3.length ≤ 3000) ×' (hR3:o3 ++ fY (ws.drop k3) = T) ×' Unit) rfl [(0,0)] ro))))))) (fun | ⟨i,k,o,hi,hk,ho,hR,_⟩=>by kernel_rfl) ⟨(0),(0),([]),om,om,(by (simp; done)),(by (exact (fV _ _).symm.trans hT)),⟨⟩⟩ [(24,24)] ro (b5 (fun | ⟨k3,o3,hk3,ho3,hR3,_⟩=>(.s 3 (.chk (aM (some (k3:Int)) none none n && true) (by (simp <;> (omega))) (.s 2 (Hn.inl T_ok ai false 74 0 (ay Tryz.prog 145 2) (fun (x:(j:Nat) ×' (o:List Pc) ×' (hk:j ≤ n - k3) ×' (ho:o.length ≤ 3000 + j) ×' (hR:o ++ fY (ws.drop (k3 + j)) = T) ×' Unit)=>match x with | ⟨j,o,hk,ho,hR,_⟩=>CutS.mk [(4,(D.ref 0 0 (0) (o.length) 2)),(61,D.sl false (n - k3) 1 (drop (k3 * 1) (map nD ws))),(62,zN (n - k3)),(63,nD j)] [⟨0,0,0,0,.b ⟨o.flatMap cr,231,true⟩⟩] 8) (fun (x:(j:Nat) ×' (o:List Pc) ×' (hk:j ≤ n - k3) ×' (ho:o.length ≤ 3000 + j) ×' (hR:o ++ fY (ws.drop (k3 + j)) = T) ×' Unit)=>match x with | ⟨j,o,hk,ho,hR,_⟩=>n - k3 - j) [⟨Unit,.exit 4,fun x=>match x with | ()=>CutS.mk [(4,(D.ref 0 0 (0) (T.length) 2)),(61,D.sl false (n - k3) 1 (drop (k3 * 1) (map nD ws))),(62,zN (n - k3))] [⟨0,0,0,0,.b ⟨T.flatMap cr,231,true⟩⟩] 8⟩] 1000 64 (fun | ⟨j,o,hk,ho,hR,_⟩,Q,next1,last1=>(.s 2 (.br (decide ((j:Int) < (↑(n - k3):Int))) (fun p3=>have p3f:=aU p3; (.s 1 (.chk (true && decide ((j:Int) < (↑(n - k3):Int)) && true) r8 (.s 2 (.opt ((drop (k3 * 1) (map nD ws))[j * 1]?) (nD (getD ws (k3 + j) jd)) (@xj ws (k3) (j) om) (.s 8 (.chk (true && LF (length o * 2) (length (flatMap cr o)) && true && true && true && true && LH ((length o + 1) * 16) 140737488355328) xf (.s 3 (.ow ((j:Int) + 1) (.s 1 (.val 4 (D.ref 72 72 0 (length o + 1) 2) (D.ref 72 72 0 (length (o ++ [Pc.mk (getD ws (k3 + j) jd) false])) 2) xg (.val 63 (zI ((j:Int) + 1)) (zN (j + 1)) zG (.blk 72 72 (Blk.mk (flatMap cr o ++ [zN (getD ws (k3 + j) jd),D.v (.bool false)]) 231 true) (Blk.mk (flatMap cr (o ++ [Pc.mk (getD ws (k3 + j) jd) false])) 231 true) (by (simp; done)) (Hn.next next1 ⟨(j + 1),(o ++ [⟨ws.getD (k3 + j) jd,false⟩]),om,xh,(by ( exact HK om hR)),⟨⟩⟩ (by show n - k3 - (j + 1) < n - k3 - j; clear next1 last1; omega) [(72,72)] ro)))))))))))))) (fun p3=>have p3f:=aV p3; (.val 4 (D.ref 0 0 0 (length o) 2) (D.ref 0 0 0 (length T) 2) (by ( rw [zJ om hR])) (.blk 0 0 (Blk.mk (flatMap cr o) 231 true) (Blk.mk (flatMap cr T) 231 true) (by ( rw [zJ om hR])) (Hn.last last1 0 (():Unit) rfl [(0,0)] ro))))))) (fun | ⟨j,o,hk,ho,hR,_⟩=>by kernel_rfl) ⟨(0),(o3),om,om,om,⟨⟩⟩ [(0,0)] ro (b5 (fun | ()=>(.s 2 (.out [0] [0] (D.ref 0 0 0 (length T) 2) [Blk.mk (flatMap cr T) 231 true] R (ok _ _ wr wr))))))))))))))) (by kernel_rfl)
theorem zL (ws:List Nat) {j:Nat} (h:j < ws.length):(Mm (0 * 1) (ws.map nD))[j * 1]? = some (nD (ws.getD j jd)):=by
 have:=xj ws (k:=0) (j:=j) (by omega)
 rwa [Mb] at this
theorem HP (ws:List Nat) (n:Nat) (hn:n = ws.length) (hn2:n ≤ 1000) (T:List Pc) (hT:El [] ws = T):SpecH false Tryz.prog 145 [aW,.sl false n 1 (ws.map nD)] [] (.ref 0 0 0 T.length 2) [⟨T.flatMap cr, 231, true⟩]:=by
 refine SpecH.run T_ok ai Tryz.func145 rfl rfl rfl ⟨ee (fun _=>rfl) _,trivial⟩ rfl 1000 64 (fun R ok=>(.s 16 (.chk (aM (some 0) none none n && true) (by (simp; done)) (.s 2 (.nils 4 104 2 231 (Hn.inl T_ok ai false 74 0 (ay Tryz.prog 145 2) (fun (x:(j:Nat) ×' (o:List Pc) ×' (hk:j ≤ n) ×' (ho:o.length ≤ j) ×' (hR:o ++ fY (ws.drop j) = T) ×' Unit)=>match x with | ⟨j,o,hk,ho,hR,_⟩=>CutS.mk [(4,(D.ref 0 0 (0) (o.length) 2)),(61,D.sl false (n - 0) 1 (drop 0 (map nD ws))),(62,zN (n - 0)),(63,nD j)] [⟨0,0,104,104,.b ⟨o.flatMap cr,231,true⟩⟩] 8) (fun (x:(j:Nat) ×' (o:List Pc) ×' (hk:j ≤ n) ×' (ho:o.length ≤ j) ×' (hR:o ++ fY (ws.drop j) = T) ×' Unit)=>match x with | ⟨j,o,hk,ho,hR,_⟩=>n - j) [⟨Unit,.exit 4,fun x=>match x with | ()=>CutS.mk [(4,(D.ref 0 0 (0) (T.length) 2)),(61,D.sl false (n - 0) 1 (drop 0 (map nD ws))),(62,zN (n - 0))] [⟨0,0,104,104,.b ⟨T.flatMap cr,231,true⟩⟩] 8⟩] 1000 64 (fun | ⟨j,o,hk,ho,hR,_⟩,Q,next1,last1=>(.s 2 (.br (decide ((j:Int) < (↑(n - 0):Int))) (fun p0=>have p0f:=aU p0; (.s 1 (.chk (true && decide ((j:Int) < (↑(n - 0):Int)) && true) r8 (.s 2 (.opt ((drop (0 * 1) (map nD ws))[j * 1]?) (nD (getD ws j jd)) (@zL ws (j) om) (.s 8 (.chk (true && LF (length o * 2) (length (flatMap cr o)) && true && true && true && true && LH ((length o + 1) * 16) 140737488355328) xf (.s 3 (.ow ((j:Int) + 1) (.s 1 (.val 4 (D.ref 72 72 0 (length o + 1) 2) (D.ref 72 72 0 (length (o ++ [Pc.mk (getD ws j jd) false])) 2) xg (.val 63 (zI ((j:Int) + 1)) (zN (j + 1)) zG (.blk 72 72 (Blk.mk (flatMap cr o ++ [zN (getD ws j jd),D.v (.bool false)]) 231 true) (Blk.mk (flatMap cr (o ++ [Pc.mk (getD ws j jd) false])) 231 true) (by (simp; done)) (Hn.next next1 ⟨(j + 1),(o ++ [⟨ws.getD j jd,false⟩]),om,xh,(by ( exact HK om hR)),⟨⟩⟩ (by show n - (j + 1) < n - j; clear next1 last1; omega) [(72,72)] ro)))))))))))))) (fun p0=>have p0f:=aV p0; (.val 4 (D.ref 0 0 0 (length o) 2) (D.ref 0 0 0 (length T) 2) (by ( rw [zJ om hR])) (.blk 0 0 (Blk.mk (flatMap cr o) 231 true) (Blk.mk (flatMap cr T) 231 true) (by ( rw [zJ om hR])) (Hn.last last1 0 (():Unit) rfl [(0,0)] ro))))))) (fun | ⟨j,o,hk,ho,hR,_⟩=>by kernel_rfl) ⟨(0),([]),om,(by (simp; done)),(by (exact (fV _ _).symm.trans hT)),⟨⟩⟩ [(104,104)] ro (b5 (fun | ()=>(.s 2 (.out [0] [0] (D.ref 0 0 0 (length T) 2) [Blk.mk (flatMap cr T) 231 true] R (ok _ _ wr wr))))))))))) (by kernel_rfl)
end Vp
end Go.Proofs.YtefjnofhgkjpmaaGreat
namespace Go.Proofs.YtefjnofhgkjpmaaGreat
open Go.RowKit Go.Bw Go.Vx
namespace Vp
def oE (W S:List Nat) (k:Nat):List Nat:=lk S ((S.take k).map fun i=>W.getD i jd)
theorem lG (W S:List Nat) (k:Nat):oE W S k = (S.take k).map fun i=>W.getD i jd:=aF _ _
theorem HQ (W S:List Nat):oE W S 0 = []:=lG W S 0
theorem HR {W S:List Nat} {k:Nat} (h:k < S.length):oE W S (k + 1) = oE W S k ++ [W.getD (S.getD k jd) jd]:=by
 rw [lG,lG,Mi h,Mv,List.getD_eq_getElem?_getD (l:=S),List.getElem?_eq_getElem h]; rfl
theorem ku {W S:List Nat} {k:Nat} (h:k ≤ S.length):(oE W S k).length = k:=by rw [lG,LU,LO]; omega
def Em (ws:List Nat):Nat → List Pc
 | 0=>El [] ws
 | k + 1=>El (Em ws k) ws
def aq (ws:List Nat) (k:Nat):List Pc:=lk ws (Em ws k)
theorem oF (ws:List Nat) (k:Nat):aq ws k = Em ws k:=aF _ _
theorem oG (ws:List Nat):El [] ws = aq ws 0:=by rw [oF]; rfl
theorem lI (ws:List Nat) (k:Nat):El (aq ws k) ws = aq ws (k + 1):=by rw [oF,oF]; rfl
def cE (row:List Pc) (n:Nat):Nat:=lk row ((row.take n).filter (·.p)).length
theorem il (row:List Pc) (n:Nat):cE row n = ((row.take n).filter (·.p)).length:=aF _ _
theorem HS (row:List Pc):cE row 0 = 0:=il row 0
theorem Ct {row:List Pc} {k:Nat} (h:k < row.length):cE row (k + 1) = cE row k + (row.getD k jd).p.toNat:=by
 rw [il,il,Mi h,MO,LJ,List.getD_eq_getElem?_getD,List.getElem?_eq_getElem h]
 show _ + (List.filter _ [row[k]]).length = _ + (row[k]).p.toNat
 cases hp:(row[k]).p
 ·rw [Ng (by simp [hp])]; rfl
 ·rw [Nf (by simp [hp])]; rfl
theorem xk (row:List Pc) (n:Nat):cE row n ≤ n:=by
 rw [il]; exact LM (Ok _ _) (by rw [LO]; exact PK _ _)
theorem tM (row:List Pc) (n:Nat):cE row n ≤ (row.filter (·.p)).length:=by
 rw [il]; exact ((Pt n row).filter _).length_le
theorem oH:∀ l:List Pc,l.length = (l.filter (·.p)).length + (l.filter (fun x=>!x.p)).length
 | []=>rfl
 | x :: r=>by
  have ih:=oH r
  cases hp:x.p
  ·rw [Ng (by simp [hp]),Nf (by simp [hp]),Md,Md]; omega
  ·rw [Nf (by simp [hp]),Ng (by simp [hp]),Md,Md]; omega
theorem Cu (s:Nat):∀ ws:List Nat,((dT s ws).1.filter (·.p)).length = 1 ∧ (dT s ws).1.length + (dT s ws).2.length = ws.length + 1 ∧ (dT s ws).1.length = ((dT s ws).1.filter (fun x=>!x.p)).length + 1
 | []=>⟨rfl,rfl,rfl⟩
 | w :: r=>by
  have ih:=Cu s r
  rw [dT]; split
  ·exact ⟨rfl,by simp; omega,rfl⟩
  ·refine ⟨?_,?_,?_⟩
   ·rw [Ng (by simp)]; exact ih.1
   ·simp only [Md]; omega
   ·rw [Nf (by simp),Md,Md]; omega
theorem xl:∀ (row:List Pc) (ws:List Nat),((eo row ws).filter (·.p)).length = row.length / 2 ∧ (eo row ws).length = ws.length + row.length / 2 ∧ ((eo row ws).filter (fun x=>!x.p)).length = ws.length
 | [],ws=>by
  have e:eo [] ws = fY ws:=rfl
  rw [e]; unfold fY
  refine ⟨?_,by simp,?_⟩
  ·rw [List.filter_eq_nil_iff.2 (fun x hx=>by obtain ⟨w,_,rfl⟩:=List.mem_map.1 hx; simp)]; rfl
  ·rw [List.filter_eq_self.2 (fun x hx=>by obtain ⟨w,_,rfl⟩:=List.mem_map.1 hx; rfl),LU]
 | [x],ws=>by
  have e:eo [x] ws = fY ws:=rfl
  rw [e]; unfold fY
  refine ⟨?_,by simp,?_⟩
  ·rw [List.filter_eq_nil_iff.2 (fun x hx=>by obtain ⟨w,_,rfl⟩:=List.mem_map.1 hx; simp)]; simp
  ·rw [List.filter_eq_self.2 (fun x hx=>by obtain ⟨w,_,rfl⟩:=List.mem_map.1 hx; rfl),LU]
 | x :: y :: r,ws=>by
  have h1:=Cu (x.w + y.w) ws
  have h2:=xl r (dT (x.w + y.w) ws).2
  rw [eo]
  refine ⟨?_,?_,?_⟩
  ·rw [MO,LJ,h1.1,h2.1,Md,Md]; omega
  ·rw [LJ,h2.2.1,Md,Md]; omega
  ·rw [MO,LJ,h2.2.2]; omega
theorem Cv {s B:Nat}:∀ ws:List Nat,(∀ w ∈ ws,w ≤ B) → s ≤ B → (∀ x ∈ (dT s ws).1,x.w ≤ B) ∧ ∀ w ∈ (dT s ws).2,w ∈ ws
 | [],_,hs=>⟨fun x hx=>by cases List.mem_singleton.1 hx; exact hs,fun w hw=>by cases hw⟩
 | w :: r,h,hs=>by
  have ih:=Cv (s:=s) r (fun y hy=>h y (L0 _ hy)) hs
  rw [dT]; split
  ·exact ⟨fun x hx=>by cases List.mem_singleton.1 hx; exact hs,fun y hy=>hy⟩
  ·refine ⟨fun x hx=>?_,fun y hy=>L0 _ (ih.2 y hy)⟩
   rcases List.mem_cons.1 hx with rfl | hx
   ·exact h w L4
   ·exact ih.1 x hx
theorem Cw {B C:Nat} (hC:2 * B ≤ C) (hC2:B ≤ C):∀ (row:List Pc) (ws:List Nat),(∀ w ∈ ws,w ≤ B) → (∀ x ∈ row,x.w ≤ B) → ∀ x ∈ eo row ws,x.w ≤ C
 | [],ws,h,_=>fun x hx=>by
  obtain ⟨w,hw,rfl⟩:=List.mem_map.1 (show x ∈ fY ws from hx)
  exact LM (h w hw) hC2
 | [_],ws,h,_=>fun x hx=>by
  obtain ⟨w,hw,rfl⟩:=List.mem_map.1 (show x ∈ fY ws from hx)
  exact LM (h w hw) hC2
 | a :: b :: r,ws,h,hr=>fun x hx=>by
  have ha:=hr a L4
  have hb:=hr b (L0 _ L4)
  have h1:=Cv (s:=a.w + b.w) (B:=C) ws (fun w hw=>LM (h w hw) hC2) (by omega)
  rw [eo] at hx
  rcases List.mem_append.1 hx with q | q
  ·exact h1.1 x q
  ·exact Cw hC hC2 r _ (fun w hw=>h w (h1.2 w hw)) (fun y hy=>hr y (L0 _ (L0 _ hy))) x q
theorem xm {ws:List Nat} (h:∀ w ∈ ws,w ≤ 1073741824):∀ k,∀ x ∈ aq ws k,x.w ≤ 2 ^ k * 1073741824
 | 0=>fun x hx=>by
  rw [← oG,fV] at hx
  obtain ⟨w,hw,rfl⟩:=List.mem_map.1 (show x ∈ fY ws from hx)
  have:=h w hw; simpa using this
 | k + 1=>fun x hx=>by
  rw [← lI,fV] at hx
  have hp:=M7 k
  refine Cw (B:=2 ^ k * 1073741824) (by rw [MZ]; omega) (by rw [MZ]; omega) _ _ (fun w hw=>LM (h w hw) (by omega)) (xm h k) x hx
theorem zM {ws:List Nat} (h:∀ w ∈ ws,w ≤ 1073741824) {k:Nat} (hk:k ≤ 15):∀ x ∈ aq ws k,x.w ≤ 100000000000000:=fun x hx=>by
 have h1:=xm h k x hx
 have h2:2 ^ k ≤ 2 ^ 15:=MB (by decide) hk
 omega
theorem jo (ws:List Nat):∀ k,(aq ws k).length = ws.length + (if k = 0 then 0 else (aq ws (k - 1)).length / 2) ∧ ((aq ws k).filter (·.p)).length = (if k = 0 then 0 else (aq ws (k - 1)).length / 2) ∧ ((aq ws k).filter (fun x=>!x.p)).length = ws.length
 | 0=>by
  have h:=xl [] ws
  rw [← fV,oG] at h
  exact ⟨h.2.1,h.1,h.2.2⟩
 | k + 1=>by
  have h:=xl (aq ws k) ws
  rw [← fV,lI] at h
  exact ⟨h.2.1,h.1,h.2.2⟩
theorem ce (ws:List Nat):∀ k,(aq ws k).length ≤ 2 * ws.length
 | 0=>by rw [(jo ws 0).1,if_pos rfl]; omega
 | k + 1=>by
  have:=ce ws k
  rw [(jo ws (k + 1)).1,if_neg (NC k),Nl]; omega
theorem tN (ws:List Nat):∀ k,2 ^ k * (2 * ws.length) ≤ 2 ^ k * (aq ws k).length + ws.length + (2 ^ k - 1)
 | 0=>by rw [(jo ws 0).1,if_pos rfl]; omega
 | k + 1=>by
  have ih:=tN ws k
  have e:=(jo ws (k + 1)).1
  rw [if_neg (NC k),Nl] at e
  have hp:=M7 k
  rw [e,MZ]
  generalize ws.length = N at *
  generalize (aq ws k).length = R at *
  generalize 2 ^ k = P at *
  have h2:P * R ≤ P * (2 * (R / 2)) + P:=by
   have:R ≤ 2 * (R / 2) + 1:=by omega
   have:=N4 P this
   rw [Ny,Me] at this; exact this
  have e1:P * 2 * (2 * N) = P * (2 * N) + P * (2 * N):=by rw [MR,Nat.two_mul,Ny]
  have e2:P * 2 * (N + R / 2) = P * (2 * N) + P * (2 * (R / 2)):=by rw [MR,Ny 2,Ny]
  rw [e1,e2]
  omega
def qx:List UInt8 → List Nat → List UInt8
 | o,[]=>o
 | o,i :: r=>qx (o.set i (o.getD i jd + 1)) r
theorem xo (o:List UInt8) (a b:List Nat):qx o (a ++ b) = qx (qx o a) b:=by
 induction a generalizing o with
 | nil=>rfl
 | cons x a ih=>exact ih _
theorem qy:∀ (o:List UInt8) (l:List Nat),(qx o l).length = o.length
 | _,[]=>rfl
 | o,i :: r=>by rw [qx,qy,NJ]
def b8 (o:List UInt8) (S:List Nat) (j:Nat):List UInt8:=lk o (qx o (S.take j))
theorem kv (o:List UInt8) (S:List Nat) (j:Nat):b8 o S j = qx o (S.take j):=aF _ _
theorem r9 (o:List UInt8) (S:List Nat):b8 o S 0 = o:=kv o S 0
theorem ct (o:List UInt8) (S:List Nat) (j:Nat):(b8 o S j).length = o.length:=by rw [kv,qy]
theorem sa {o:List UInt8} {S:List Nat} {j:Nat} (h:j < S.length):b8 o S (j + 1) = (b8 o S j).set (S.getD j jd) ((b8 o S j).getD (S.getD j jd) jd + 1):=by
 rw [kv,kv,Mi h,xo,List.getD_eq_getElem?_getD (l:=S),List.getElem?_eq_getElem h]; rfl
def zO (ws S:List Nat):Nat → Nat → List UInt8 → List UInt8
 | 0,_,o=>o
 | k + 1,n,o=>zO ws S k (2 * cE (aq ws k) n) (b8 o S (n - cE (aq ws k) n))
structure LnI (ws:List Nat) (k n:Nat):Prop where
 a:k ≠ 0 → n ≤ (aq ws (k - 1)).length
theorem LnI.next {ws:List Nat} {k n:Nat} (h:LnI ws (k + 1) n):n ≤ (aq ws k).length ∧ cE (aq ws k) n ≤ n ∧ n - cE (aq ws k) n ≤ ws.length ∧ LnI ws k (2 * cE (aq ws k) n):=by
 have hn:=h.a (NC k)
 rw [Nl] at hn
 have hc:=jo ws k
 have h1:=tM (aq ws k) n
 refine ⟨hn,xk _ _,?_,⟨fun hk=>?_⟩⟩
 ·have e:n = ((aq ws k).take n).length:=by rw [LO]; omega
  have e2:((aq ws k).take n).length = (((aq ws k).take n).filter (·.p)).length + (((aq ws k).take n).filter (fun x=>!x.p)).length:=by
   exact oH _
  have e3:(((aq ws k).take n).filter (fun x=>!x.p)).length ≤ ws.length:=by
   rw [← hc.2.2]; exact ((Pt n _).filter _).length_le
  rw [il]; omega
 ·rw [hc.2.1,if_neg hk] at h1; omega
theorem LnI.first {ws:List Nat} {m:Nat} (hm:1 ≤ m) (h:ws.length ≤ 2 ^ m) (h2:2 ≤ ws.length):LnI ws m (2 * ws.length - 2):=⟨fun _=>by
 have g:=tN ws (m - 1)
 have hp:=M7 (m - 1)
 have e:2 ^ m = 2 * 2 ^ (m - 1):=by rw [show m = (m - 1) + 1 from by omega,MZ,M8]; rfl
 generalize (aq ws (m - 1)).length = R at *
 generalize ws.length = N at *
 generalize 2 ^ (m - 1) = P at *
 rcases Mh R (2 * N - 2) with q | q
 ·have h3:P * R + 3 * P ≤ P * (2 * N):=by
   have:R + 3 ≤ 2 * N:=by omega
   have:=N4 P this
   rw [Ny,M8 P 3] at this; exact this
  omega
 ·exact q⟩
end Vp
end Go.Proofs.YtefjnofhgkjpmaaGreat

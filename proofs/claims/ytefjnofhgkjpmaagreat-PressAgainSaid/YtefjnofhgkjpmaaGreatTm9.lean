/- Part 9. -/
import Derived.Test.YtefjnofhgkjpmaaGreatTm5
import Derived.Test.YtefjnofhgkjpmaaGreatTm8
set_option linter.unusedVariables false
set_option linter.unusedSimpArgs false
set_option maxRecDepth 100000
set_option maxHeartbeats 4000000
namespace Go.Proofs.YtefjnofhgkjpmaaGreat
open Go.RowKit Go.Bw Go.Vx
open List (length getD map take drop flatMap replicate)
namespace Vm
theorem jV {p:Prop} (h:p:=by ( have h9:=fx (take (((k:Int) + 2).toNat - (max 0 (q - size)).toNat) (drop (max 0 (q - size)).toNat b)) (take ((q + 3).toNat - q.toNat) (drop q.toNat b)) (((k:Int) + 2).toNat - (max 0 (q - size)).toNat - 2); omega)):p:=h
theorem vg {p:Prop} (h:p:=by (refine aO ?_; (omega))):p:=h
theorem vh {p:Prop} (h:p:=by (exact EX (by (omega)) (by (omega)))):p:=h
theorem ET {p:Prop} (h:p:=by show k - 1 < k; clear next1 last1; omega):p:=h
theorem EU {p:Prop} (h:p:=by (exact aO (sk (qO hg (by (omega)))))):p:=h
theorem EV {p:Prop} (h:p:=by (exact aO (sn (qO hg (by (omega)))))):p:=h
theorem Iv {p:Prop} (h:p:=by show Int.toNat (max 0 (q - size) + ap (take (Int.toNat ((↑k:Int) + 2) - Int.toNat (max 0 (q - size))) (drop (Int.toNat (max 0 (q - size))) b)) (take (Int.toNat (q + 3) - Int.toNat q) (drop (Int.toNat q) b)) (Int.toNat ((↑k:Int) + 2) - Int.toNat (max 0 (q - size)) - 2)) < k; clear next1 last1; ( have h9:=fx (take (((k:Int) + 2).toNat - (max 0 (q - size)).toNat) (drop (max 0 (q - size)).toNat b)) (take ((q + 3).toNat - q.toNat) (drop q.toNat b)) (((k:Int) + 2).toNat - (max 0 (q - size)).toNat - 2); omega)):p:=h
def bestG (b:List UInt8) (i:Nat) (size:Int):Nat → Int → Int → Int → Int × Int
 | 0,_,d,l=>(d,l)
 | k + 1,c,d,l =>
  if (i:Int) - k ≤ size ∧ 0 < c then
   if same b i k 258 < 3 then bestG b i size k c d l
   else if l < same b i k 258 then bestG b i size k (c - 1) ((i:Int) - k) (same b i k 258:Nat)
   else bestG b i size k (c - 1) d l
  else (d,l)
theorem i7 (b:List UInt8) (i j:Nat):same b i j 258 ≤ 258:=uh b 258 i j
theorem yd {b:List UInt8} {i k:Nat}:((same b i (((k + 1:Nat):Int) - 1).toNat 258:Nat):Int) = (same b i k 258:Nat):=by
 rw [show (((k + 1:Nat):Int) - 1).toNat = k from by omega]
theorem vi {b:List UInt8} {i k:Nat} {size c d l:Int} {a:Int × Int} (hg:a = bestG b i size k c d l) (h0:0 < k) (h1:(i:Int) - ((k:Int) - 1) ≤ size) (hc:0 < c) (e:((same b i ((k:Int) - 1).toNat 258:Nat):Int) < 3):a = bestG b i size (k - 1) c d l:=by
 obtain ⟨m,rfl⟩:∃ m,k = m + 1:=⟨k - 1,by omega⟩
 rw [yd] at e
 rw [hg,bestG,if_pos ⟨by omega,hc⟩,if_pos (by omega)]; rfl
theorem ye {b:List UInt8} {i k:Nat} {size c d l:Int} {a:Int × Int} (hg:a = bestG b i size k c d l) (h0:0 < k) (h1:(i:Int) - ((k:Int) - 1) ≤ size) (hc:0 < c) (e:¬ ((same b i ((k:Int) - 1).toNat 258:Nat):Int) < 3) (f:l < ((same b i ((k:Int) - 1).toNat 258:Nat):Int)):a = bestG b i size (k - 1) (c - 1) ((i:Int) - ((k:Int) - 1)) ((same b i ((k:Int) - 1).toNat 258:Nat):Int):=by
 obtain ⟨m,rfl⟩:∃ m,k = m + 1:=⟨k - 1,by omega⟩
 rw [yd] at e f ⊢
 rw [hg,bestG,if_pos ⟨by omega,hc⟩,if_neg (by omega),if_pos f,show (((m + 1:Nat):Int) - 1) = (m:Int) from by omega]; rfl
theorem yf {b:List UInt8} {i k:Nat} {size c d l:Int} {a:Int × Int} (hg:a = bestG b i size k c d l) (h0:0 < k) (h1:(i:Int) - ((k:Int) - 1) ≤ size) (hc:0 < c) (e:¬ ((same b i ((k:Int) - 1).toNat 258:Nat):Int) < 3) (f:¬ l < ((same b i ((k:Int) - 1).toNat 258:Nat):Int)):a = bestG b i size (k - 1) (c - 1) d l:=by
 obtain ⟨m,rfl⟩:∃ m,k = m + 1:=⟨k - 1,by omega⟩
 rw [yd] at e f
 rw [hg,bestG,if_pos ⟨by omega,hc⟩,if_neg (by omega),if_neg f]; rfl
theorem qO {b:List UInt8} {i k:Nat} {size c d l:Int} {a:Int × Int} (hg:a = bestG b i size k c d l) (h:k = 0 ∨ ¬ (i:Int) - ((k:Int) - 1) ≤ size ∨ ¬ 0 < c):a = (d,l):=by
 rw [hg]
 cases k with
 | zero=>rfl
 | succ m=>rw [bestG,if_neg (by omega)]
theorem sk {x:Int × Int} {d l:Int} (h:x = (d,l)):d = x.1:=by rw [h]
theorem sn {x:Int × Int} {d l:Int} (h:x = (d,l)):l = x.2:=by rw [h]
theorem LH (b:List UInt8) (n i:Nat) (size chain:Int) (hn:n = b.length) (hN:n ≤ 1000000) (hi:i ≤ n) (hs:1 ≤ size ∧ size ≤ 32768) (hc:0 ≤ chain ∧ chain ≤ 256):SpecH false Tryz.prog 97 [.sl false n 1 (b.map dB),iD i,iD size,iD chain] [] (.tup [iD (bestG b i size i chain 0 0).1,iD (bestG b i size i chain 0 0).2]) []:=by
 have hS:=i7 b
 refine SpecH.run T_ok ah Tryz.func97 rfl rfl rfl trivial rfl 1000 64 (fun R ok=>(.s 7 (.ow ((↑i:Int) - 1) (.s 1 (Hn.inl T_ok ah false 48 0 (aA Tryz.prog 97 0) (fun (x:(k:Nat) ×' (hk:k ≤ i) ×' (c:Int) ×' (d:Int) ×' (l:Int) ×' (hc2:0 ≤ c ∧ c ≤ 256) ×' (hd:0 ≤ d ∧ d ≤ 1000000) ×' (hl:0 ≤ l ∧ l ≤ 258) ×' (hg:bestG b i size i chain 0 0 = bestG b i size k c d l) ×' Unit)=>match x with | ⟨k,hk,c,d,l,hc2,hd,hl,hg,_⟩=>CutS.mk [(0,D.sl false n 1 (map dB b)),(1,nD i),(2,iD size),(3,iD c),(10,iD d),(11,iD l),(12,iD ((k:Int) - 1))] [] 0) (fun (x:(k:Nat) ×' (hk:k ≤ i) ×' (c:Int) ×' (d:Int) ×' (l:Int) ×' (hc2:0 ≤ c ∧ c ≤ 256) ×' (hd:0 ≤ d ∧ d ≤ 1000000) ×' (hl:0 ≤ l ∧ l ≤ 258) ×' (hg:bestG b i size i chain 0 0 = bestG b i size k c d l) ×' Unit)=>match x with | ⟨k,hk,c,d,l,hc2,hd,hl,hg,_⟩=>k) [⟨Unit,.exit 0,fun x=>match x with | ()=>CutS.mk [(0,D.sl false n 1 (map dB b)),(1,nD i),(2,iD size),(10,iD (bestG b i size i chain 0 0).1),(11,iD (bestG b i size i chain 0 0).2)] [] 0⟩] 1000 64 (fun | ⟨k,hk,c,d,l,hc2,hd,hl,hg,_⟩,Q,next1,last1=>(.s 5 (.br (decide (0 ≤ (↑k:Int) - 1)) (fun p0=>have p0f:=aS p0; (.s 5 (.ow ((↑i:Int) - ((↑k:Int) - 1)) (.s 8 (.br (decide ((↑i:Int) - ((↑k:Int) - 1) ≤ size)) (fun p1=>have p1f:=aS p1; (.s 4 (.br (decide (0 < c)) (fun p2=>have p2f:=aS p2; (.s 4 (.cl 128 false [] (.fn Jy (@Go.Proofs.YtefjnofhgkjpmaaGreat.Vm.SameX (b) (n) ((↑i:Int)) ((↑k:Int) - 1) om om om om om)) (.s 4 (.br (decide ((↑(same b (Int.toNat (↑i:Int)) (Int.toNat ((↑k:Int) - 1)) 258):Int) < 3)) (fun p3=>have p3f:=aS p3; (.s 3 (.ow ((↑k:Int) - 1 - 1) (.s 1 (.val 12 (iD ((↑k:Int) - 1 - 1)) (iD ((↑(k - 1):Int) - 1)) vg (Hn.next next1 ⟨(k - 1),om,(c),(d),(l),om,om,om,(by ( have h8:same b (i:Int).toNat ((k:Int) - 1).toNat 258 = same b i ((k:Int) - 1).toNat 258:=rfl; have h9:=hS i ((k:Int) - 1).toNat; exact vi hg om om om om)),⟨⟩⟩ ET [] ro)))))) (fun p3=>have p3f:=aT p3; (.s 3 (.ow (c - 1) (.s 5 (.br (decide (l < (↑(same b i (Int.toNat ((↑k:Int) - 1)) 258):Int))) (fun p4=>have p4f:=aS p4; (.s 4 (.ow ((↑i:Int) - ((↑k:Int) - 1)) (.s 6 (.ow ((↑k:Int) - 1 - 1) (.s 1 (.val 12 (iD ((↑k:Int) - 1 - 1)) (iD ((↑(k - 1):Int) - 1)) vg (Hn.next next1 ⟨(k - 1),om,(c - 1),((i:Int) - ((k:Int) - 1)),(((same b i ((k:Int) - 1).toNat 258:Nat):Int)),om,om,(by ( have h8:same b (i:Int).toNat ((k:Int) - 1).toNat 258 = same b i ((k:Int) - 1).toNat 258:=rfl; have h9:=hS i ((k:Int) - 1).toNat; omega)),(by ( have h8:same b (i:Int).toNat ((k:Int) - 1).toNat 258 = same b i ((k:Int) - 1).toNat 258:=rfl; have h9:=hS i ((k:Int) - 1).toNat; exact ye hg om om om om om)),⟨⟩⟩ ET [] ro)))))))) (fun p4=>have p4f:=aT p4; (.s 3 (.ow ((↑k:Int) - 1 - 1) (.s 1 (.val 12 (iD ((↑k:Int) - 1 - 1)) (iD ((↑(k - 1):Int) - 1)) vg (Hn.next next1 ⟨(k - 1),om,(c - 1),(d),(l),om,om,om,(by ( have h8:same b (i:Int).toNat ((k:Int) - 1).toNat 258 = same b i ((k:Int) - 1).toNat 258:=rfl; have h9:=hS i ((k:Int) - 1).toNat; exact yf hg om om om om om)),⟨⟩⟩ ET [] ro)))))))))))))))) (fun p2=>have p2f:=aT p2; (.val 10 (iD d) (iD (Prod.fst (bestG b i size i chain 0 0))) EU (.val 11 (iD l) (iD (Prod.snd (bestG b i size i chain 0 0))) EV (Hn.last last1 0 (():Unit) rfl [] ro))))))) (fun p1=>have p1f:=aT p1; (.s 4 (.val 10 (iD d) (iD (Prod.fst (bestG b i size i chain 0 0))) EU (.val 11 (iD l) (iD (Prod.snd (bestG b i size i chain 0 0))) EV (Hn.last last1 0 (():Unit) rfl [] ro)))))))))) (fun p0=>have p0f:=aT p0; (.s 16 (.val 10 (iD d) (iD (Prod.fst (bestG b i size i chain 0 0))) EU (.val 11 (iD l) (iD (Prod.snd (bestG b i size i chain 0 0))) EV (Hn.last last1 0 (():Unit) rfl [] ro)))))))) (fun | ⟨k,hk,c,d,l,hc2,hd,hl,hg,_⟩=>by kernel_rfl) ⟨(i),om,(chain),(0),(0),om,om,om,wr,⟨⟩⟩ [] ro (cb (fun | ()=>(.s 4 (.out [] [] (D.tup [iD (Prod.fst (bestG b i size i chain 0 0)),iD (Prod.snd (bestG b i size i chain 0 0))]) [] R (ok _ _ wr wr)))))))))) (by kernel_rfl)
def qP (n:Nat) (x size chain:Int):Prop:=x < 0 ∨ (n:Int) < x ∨ size < 1 ∨ 32768 < size ∨ chain < 0 ∨ 256 < chain
instance (n:Nat) (x size chain:Int):Decidable (qP n x size chain):=by unfold qP; infer_instance
def du (b:List UInt8) (n:Nat) (x size chain:Int):Int:=if 131072 < n then 4 else if qP n x size chain then 2 else if (bestG b x.toNat size x.toNat chain 0 0).2 = 0 then 6 else 0
def nr (b:List UInt8) (n:Nat) (x size chain:Int):Int:=if du b n x size chain = 0 then (bestG b x.toNat size x.toNat chain 0 0).1 else 0
def jN (b:List UInt8) (n:Nat) (x size chain:Int):Int:=if du b n x size chain = 0 then (bestG b x.toNat size x.toNat chain 0 0).2 else 0
abbrev ia (b:List UInt8) (n:Nat) (x size chain:Int):D:=.tup [iD (nr b n x size chain),iD (jN b n x size chain),iD (du b n x size chain)]
theorem oW {b:List UInt8} {n:Nat} {x size chain e:Int} (h:du b n x size chain = e) (he:e ≠ 0):D.tup [iD 0,iD 0,iD e] = ia b n x size chain:=by
 have h2:¬ du b n x size chain = 0:=fun q=>he (h.symm.trans q)
 unfold ia nr jN
 rw [if_neg h2,if_neg h2,h]
theorem EW {b:List UInt8} {n:Nat} {x size chain:Int} (h:131072 < n):D.tup [iD 0,iD 0,iD 4] = ia b n x size chain:=oW (if_pos h) (by decide)
theorem EX {b:List UInt8} {n:Nat} {x size chain:Int} (h:n ≤ 131072) (h2:x < 0 ∨ (n:Int) < x ∨ size < 1 ∨ 32768 < size ∨ chain < 0 ∨ 256 < chain):D.tup [iD 0,iD 0,iD 2] = ia b n x size chain:=oW (by rw [du,if_neg (by omega),if_pos (show qP n x size chain from h2)]) (by decide)
theorem so {b:List UInt8} {n:Nat} {x size chain:Int} (h:n ≤ 131072) (h2:¬ (x < 0 ∨ (n:Int) < x ∨ size < 1 ∨ 32768 < size ∨ chain < 0 ∨ 256 < chain)) (h3:(bestG b x.toNat size x.toNat chain 0 0).2 = 0):D.tup [iD 0,iD 0,iD 6] = ia b n x size chain:=oW (by rw [du,if_neg (by omega),if_neg (show ¬ qP n x size chain from h2),if_pos h3]) (by decide)
theorem yg {b:List UInt8} {n:Nat} {x size chain:Int} (h:n ≤ 131072) (h2:¬ (x < 0 ∨ (n:Int) < x ∨ size < 1 ∨ 32768 < size ∨ chain < 0 ∨ 256 < chain)) (h3:¬ (bestG b x.toNat size x.toNat chain 0 0).2 = 0):D.tup [iD (bestG b x.toNat size x.toNat chain 0 0).1,iD (bestG b x.toNat size x.toNat chain 0 0).2,iD 0] = ia b n x size chain:=by
 have e:du b n x size chain = 0:=by rw [du,if_neg (by omega),if_neg (show ¬ qP n x size chain from h2),if_neg h3]
 unfold ia nr jN
 rw [if_pos e,if_pos e,e]
theorem fx (s p:List UInt8):∀ k:Nat,-1 ≤ ap s p k ∧ ap s p k < k
 | 0=>by unfold ap; decide
 | k + 1=>by
  have:=fx s p k
  unfold ap
  split <;> omega
theorem qQ (s p:List UInt8):∀ k:Nat,ap s p k < 0 → ∀ j,j < k → (s.drop j).take 3 ≠ p
 | 0,_,j,h=>absurd h (Nat.not_lt_zero j)
 | k + 1,h,j,hj=>by
  unfold ap at h
  split at h
  ·omega
  ·next e=>exact if q:j = k then q ▸ e else qQ s p k h j (by omega)
theorem qR (s p:List UInt8):∀ k:Nat,0 ≤ ap s p k → (s.drop (ap s p k).toNat).take 3 = p ∧ ∀ j:Nat,ap s p k < j → j < k → (s.drop j).take 3 ≠ p
 | 0,h=>absurd h (by unfold ap; decide)
 | k + 1,h=>by
  unfold ap at h ⊢
  split at h
  ·next e =>
   rw [if_pos e]
   exact ⟨e,fun j h1 h2=>by omega⟩
  ·next e =>
   rw [if_neg e]
   have:=qR s p k h
   exact ⟨this.1,fun j h1 h2=>if q:j = k then q ▸ e else this.2 j h1 (by omega)⟩
theorem CZ (b:List UInt8) (i:Nat) (h:i + 3 ≤ b.length):(b.drop i).take 3 = [b.getD i default,b.getD (i + 1) default,b.getD (i + 2) default]:=by
 have g:∀ j,j < 3 → b[i + j]? = some (b.getD (i + j) default):=fun j hj=>by
  rw [List.getD_eq_getElem?_getD,List.getElem?_eq_getElem (by omega)]; rfl
 apply List.ext_getElem?
 intro j
 rw [List.getElem?_take]
 split
 ·next hj =>
  rw [List.getElem?_drop,g j hj]
  match j,hj with
  | 0,_=>rfl
  | 1,_=>rfl
  | 2,_=>rfl
 ·next hj =>
  rw [List.getElem?_eq_none (by simp; omega)]
theorem EY {b:List UInt8} {i j k:Nat} (hi:i + 3 ≤ b.length) (hj:j < i):3 ≤ same b i j (k + 1 + 1 + 1) ↔ (b.drop j).take 3 = (b.drop i).take 3:=by
 rw [CZ b i hi,CZ b j (by omega)]
 simp only [same,List.cons.injEq,and_true]
 constructor
 ·intro h
  split at h
  ·next e1 =>
   split at h
   ·next e2 =>
    split at h
    ·next e3=>exact ⟨e1.2,e2.2,e3.2⟩
    ·omega
   ·omega
  ·omega
 ·rintro ⟨e1,e2,e3⟩
  rw [if_pos ⟨by omega,e1⟩,if_pos ⟨by omega,e2⟩,if_pos ⟨by omega,e3⟩]
  omega
theorem yh {b:List UInt8} {i j:Nat} (hi:i + 3 ≤ b.length) (hj:j < i):3 ≤ same b i j 258 ↔ (b.drop j).take 3 = (b.drop i).take 3:=EY (k:=255) hi hj
theorem yi {b:List UInt8} {i:Nat} {size d l c:Int} (hc:¬ 0 < c):∀ k,bestG b i size k c d l = (d,l)
 | 0=>rfl
 | k + 1=>by rw [bestG,if_neg (fun h=>hc h.2)]
theorem jy {b:List UInt8} {i m:Nat} {size c d l:Int} (hs:(i:Int) - m ≤ size) (hc:0 < c):∀ k,m ≤ k → (∀ j,m ≤ j → j < k → same b i j 258 < 3) → bestG b i size k c d l = bestG b i size m c d l
 | 0,h,_=>by rw [show m = 0 from by omega]
 | k + 1,h,hj=>by
  by_cases q:m = k + 1
  ·rw [q]
  ·rw [bestG,if_pos ⟨by omega,hc⟩,if_pos (hj k (by omega) (by omega))]
   exact jy hs hc k (by omega) fun j h1 h2=>hj j h1 (by omega)
theorem vj {b:List UInt8} {i m k:Nat} {size c d l:Int} (hm:(m:Int) = max 0 ((i:Int) - size)) (hk:m ≤ k) (hj:∀ j,m ≤ j → j < k → same b i j 258 < 3):bestG b i size k c d l = (d,l):=by
 by_cases hc:0 < c
 ·rw [jy (m:=m) (by omega) hc k hk hj]
  cases m with
  | zero=>rfl
  | succ m=>rw [bestG,if_neg (by omega)]
 ·exact yi hc k
theorem vk {b:List UInt8} {i k:Nat} {size d l:Int} (h:(b.length:Int) < (i:Int) + 3):∀ c,bestG b i size k c d l = (d,l):=by
 have g:∀ j,same b i j 258 < 3:=fun j=>by
  by_cases hi:i ≤ b.length
  ·have:=i6 b 258 i j hi; omega
  ·rw [show (258:Nat) = 257 + 1 from rfl,same,if_neg (fun e=>by have:=e.1; omega)]; decide
 intro c
 induction k with
 | zero=>rfl
 | succ k ih =>
  rw [bestG]
  split
  ·rw [if_pos (g k)]; exact ih
  ·rfl
theorem yj (b:List UInt8) {low m j:Nat} (h:j + 3 ≤ m):((((b.drop low).take m).drop j).take 3) = (b.drop (low + j)).take 3:=by
 rw [List.drop_take,List.take_take,List.drop_drop,Nat.min_eq_left (by omega)]
theorem KD {b:List UInt8} {i k low m:Nat} {size c d l:Int} {a:Int × Int} (hg:a = bestG b i size k c d l) (hlow:(low:Int) = max 0 ((i:Int) - size)) (hk:low ≤ k) (hki:k ≤ i) (hi:i + 3 ≤ b.length) (hm:m = k + 2 - low) (h:ap ((b.drop low).take m) ((b.drop i).take 3) (m - 2) < 0):a = (d,l):=by
 rw [hg]
 refine vj hlow hk fun j h1 h2=>?_
 have e:=qQ _ _ _ h (j - low) (by omega)
 rw [yj b (by omega),show low + (j - low) = j from by omega] at e
 have:¬ 3 ≤ same b i j 258:=fun q=>e ((yh hi (show j < i by omega)).1 q)
 omega
theorem KE {b:List UInt8} {i k low m f:Nat} {r size c d l:Int} {a:Int × Int} (hg:a = bestG b i size k c d l) (hlow:(low:Int) = max 0 ((i:Int) - size)) (hk:low ≤ k) (hki:k ≤ i) (hi:i + 3 ≤ b.length) (hm:m = k + 2 - low) (hr:r = ap ((b.drop low).take m) ((b.drop i).take 3) (m - 2)) (h:0 ≤ r) (hc:0 < c) (hf:(f:Int) = low + r) :
  a = if l < same b i f 258 then bestG b i size f (c - 1) ((i:Int) - f) (same b i f 258:Nat) else bestG b i size f (c - 1) d l:=by
 have hb:=fx ((b.drop low).take m) ((b.drop i).take 3) (m - 2)
 have hp:=qR ((b.drop low).take m) ((b.drop i).take 3) (m - 2) (hr ▸ h)
 rw [← hr] at hb hp
 have e1:=hp.1
 rw [yj b (by omega),show low + r.toNat = f from by omega] at e1
 have s1:=(yh hi (show f < i by omega)).2 e1
 rw [hg,jy (m:=f + 1) (by omega) hc k (by omega) (fun j h1 h2=>?_),bestG,if_pos ⟨by omega,hc⟩,if_neg (by omega)]
 have e:=hp.2 (j - low) (by omega) (by omega)
 rw [yj b (by omega),show low + (j - low) = j from by omega] at e
 have:¬ 3 ≤ same b i j 258:=fun q=>e ((yh hi (show j < i by omega)).1 q)
 omega
theorem lastIxX (s p:List UInt8) (n m:Nat) (hn:n = s.length) (hp:p.length = m) (hm:m = 3) (h4:n ≤ 1000000):SpecH false Tryz.prog 179 [.sl false n 1 (s.map dB),.sl false m 1 (p.map dB)] [] (iD (ap s p (n - 2))) []:=by
 subst hm
 exact ES s p n hn hp h4
theorem Ao {x y:Int} {t:TypeId} {r:Bool} (h:x = y):(⟨[D.v (.int .i64 x)],t,r⟩:Blk) = ⟨[D.v (.int .i64 y)],t,r⟩:=by rw [h]
abbrev LA (b:List UInt8) (q size:Int) (k:Nat):Int:=ap (List.take (((k:Int) + 2).toNat - (max 0 (q - size)).toNat) (List.drop (max 0 (q - size)).toNat b)) (List.take ((q + 3).toNat - q.toNat) (List.drop q.toNat b)) (((k:Int) + 2).toNat - (max 0 (q - size)).toNat - 2)
theorem C2 {b:List UInt8} {n k:Nat} {q size c d l:Int} {a:Int × Int} (hn:n = b.length) (h7:q + 3 ≤ n) (h1:0 ≤ q) (h3:1 ≤ size) (hlow:max 0 (q - size) ≤ (k:Int)) (hk:k ≤ q.toNat) (hg:a = bestG b q.toNat size k c d l) (h:LA b q size k < 0):a = (d,l):=by
 unfold LA at h
 rw [show (q + 3).toNat - q.toNat = 3 from by omega] at h
 exact KD hg (low:=(max 0 (q - size)).toNat) (m:=((k:Int) + 2).toNat - (max 0 (q - size)).toNat) (by omega) (by omega) (by omega) (by omega) (by omega) h
theorem C3 {b:List UInt8} {k:Nat} {q size c d l:Int} {a:Int × Int} (hg:a = bestG b q.toNat size k c d l) (h:¬ 0 < c):a = (d,l):=hg.trans (yi h k)
theorem C4 {b:List UInt8} {n k:Nat} {q size c d l:Int} {a:Int × Int} (hn:n = b.length) (h7:q + 3 ≤ n) (h1:0 ≤ q) (h3:1 ≤ size) (hlow:max 0 (q - size) ≤ (k:Int)) (hk:k ≤ q.toNat) (hg:a = bestG b q.toNat size k c d l) (h:0 ≤ LA b q size k) (hc:0 < c) :
  a = if l < same b q.toNat (max 0 (q - size) + LA b q size k).toNat 258 then bestG b q.toNat size (max 0 (q - size) + LA b q size k).toNat (c - 1) (q - (max 0 (q - size) + LA b q size k)) (same b q.toNat (max 0 (q - size) + LA b q size k).toNat 258:Nat) else bestG b q.toNat size (max 0 (q - size) + LA b q size k).toNat (c - 1) d l:=by
 have e3:(q + 3).toNat - q.toNat = 3:=by omega
 have h0:=h
 unfold LA at h0
 rw [e3] at h0
 have key:=KE hg (low:=(max 0 (q - size)).toNat) (m:=((k:Int) + 2).toNat - (max 0 (q - size)).toNat) (f:=(max 0 (q - size) + LA b q size k).toNat) (r:=LA b q size k) (by omega) (by omega) (by omega) (by omega) (by omega) (by unfold LA; rw [e3]) h hc (by omega)
 rw [show ((q.toNat:Nat):Int) - ((max 0 (q - size) + LA b q size k).toNat:Nat) = q - (max 0 (q - size) + LA b q size k) from by omega] at key
 exact key
theorem Ap {b:List UInt8} {n k:Nat} {q size c d l:Int} {a:Int × Int} (hn:n = b.length) (h7:q + 3 ≤ n) (h1:0 ≤ q) (h3:1 ≤ size) (hlow:max 0 (q - size) ≤ (k:Int)) (hk:k ≤ q.toNat) (hg:a = bestG b q.toNat size k c d l) (h:0 ≤ (ap (List.take (((k:Int) + 2).toNat - (max 0 (q - size)).toNat) (List.drop (max 0 (q - size)).toNat b)) (List.take ((q + 3).toNat - q.toNat) (List.drop q.toNat b)) (((k:Int) + 2).toNat - (max 0 (q - size)).toNat - 2))) (hc:0 < c) (hl:l < (same b q.toNat (max 0 (q - size) + (ap (List.take (((k:Int) + 2).toNat - (max 0 (q - size)).toNat) (List.drop (max 0 (q - size)).toNat b)) (List.take ((q + 3).toNat - q.toNat) (List.drop q.toNat b)) (((k:Int) + 2).toNat - (max 0 (q - size)).toNat - 2))).toNat 258:Nat)) :
  a = bestG b q.toNat size (max 0 (q - size) + (ap (List.take (((k:Int) + 2).toNat - (max 0 (q - size)).toNat) (List.drop (max 0 (q - size)).toNat b)) (List.take ((q + 3).toNat - q.toNat) (List.drop q.toNat b)) (((k:Int) + 2).toNat - (max 0 (q - size)).toNat - 2))).toNat (c - 1) (q - (max 0 (q - size) + (ap (List.take (((k:Int) + 2).toNat - (max 0 (q - size)).toNat) (List.drop (max 0 (q - size)).toNat b)) (List.take ((q + 3).toNat - q.toNat) (List.drop q.toNat b)) (((k:Int) + 2).toNat - (max 0 (q - size)).toNat - 2)))) (same b q.toNat (max 0 (q - size) + (ap (List.take (((k:Int) + 2).toNat - (max 0 (q - size)).toNat) (List.drop (max 0 (q - size)).toNat b)) (List.take ((q + 3).toNat - q.toNat) (List.drop q.toNat b)) (((k:Int) + 2).toNat - (max 0 (q - size)).toNat - 2))).toNat 258:Nat):=by
 rw [C4 hn h7 h1 h3 hlow hk hg h hc,if_pos hl]
theorem Aq {b:List UInt8} {n k:Nat} {q size c d l:Int} {a:Int × Int} (hn:n = b.length) (h7:q + 3 ≤ n) (h1:0 ≤ q) (h3:1 ≤ size) (hlow:max 0 (q - size) ≤ (k:Int)) (hk:k ≤ q.toNat) (hg:a = bestG b q.toNat size k c d l) (h:0 ≤ (ap (List.take (((k:Int) + 2).toNat - (max 0 (q - size)).toNat) (List.drop (max 0 (q - size)).toNat b)) (List.take ((q + 3).toNat - q.toNat) (List.drop q.toNat b)) (((k:Int) + 2).toNat - (max 0 (q - size)).toNat - 2))) (hc:0 < c) (hl:¬ l < (same b q.toNat (max 0 (q - size) + (ap (List.take (((k:Int) + 2).toNat - (max 0 (q - size)).toNat) (List.drop (max 0 (q - size)).toNat b)) (List.take ((q + 3).toNat - q.toNat) (List.drop q.toNat b)) (((k:Int) + 2).toNat - (max 0 (q - size)).toNat - 2))).toNat 258:Nat)) :
  a = bestG b q.toNat size (max 0 (q - size) + (ap (List.take (((k:Int) + 2).toNat - (max 0 (q - size)).toNat) (List.drop (max 0 (q - size)).toNat b)) (List.take ((q + 3).toNat - q.toNat) (List.drop q.toNat b)) (((k:Int) + 2).toNat - (max 0 (q - size)).toNat - 2))).toNat (c - 1) d l:=by
 rw [C4 hn h7 h1 h3 hlow hk hg h hc,if_neg hl]
theorem KF (b:List UInt8) (n:Nat) (q size chain:Int) (hn:n = b.length) (hN:n ≤ 1000000) (hx:-9223372036854775808 ≤ q ∧ q ≤ 9223372036854775807) (hs:-9223372036854775808 ≤ size ∧ size ≤ 9223372036854775807) (hc:-9223372036854775808 ≤ chain ∧ chain ≤ 9223372036854775807):SpecH false Tryz.prog 117 [.sl false n 1 (b.map dB),iD q,iD size,iD chain] [] (ia b n q size chain) []:=by
 refine SpecH.run T_ok ah Tryz.func117 rfl rfl rfl trivial rfl 1000 64 (fun R ok=>(.s 24 (.br (decide (131072 < (↑n:Int))) (fun p0=>have p0f:=aS p0; (.s 18 (.out [] [] (D.tup [iD 0,iD 0,iD 4]) [] R (ok _ _ (by (exact EW (by (omega)))) wr)))) (fun p0=>have p0f:=aT p0; (.s 5 (.br (decide (q < 0)) (fun p1=>have p1f:=aS p1; (.s 26 (.out [] [] (D.tup [iD 0,iD 0,iD 2]) [] R (ok _ _ vh wr)))) (fun p1=>have p1f:=aT p1; (.s 8 (.br (decide ((↑n:Int) < q)) (fun p2=>have p2f:=aS p2; (.s 18 (.out [] [] (D.tup [iD 0,iD 0,iD 2]) [] R (ok _ _ vh wr)))) (fun p2=>have p2f:=aT p2; (.s 11 (.br (decide (size < 1)) (fun p3=>have p3f:=aS p3; (.s 27 (.out [] [] (D.tup [iD 0,iD 0,iD 2]) [] R (ok _ _ vh wr)))) (fun p3=>have p3f:=aT p3; (.s 6 (.br (decide (32768 < size)) (fun p4=>have p4f:=aS p4; (.s 21 (.out [] [] (D.tup [iD 0,iD 0,iD 2]) [] R (ok _ _ vh wr)))) (fun p4=>have p4f:=aT p4; (.s 8 (.br (decide (chain < 0)) (fun p5=>have p5f:=aS p5; (.s 15 (.out [] [] (D.tup [iD 0,iD 0,iD 2]) [] R (ok _ _ vh wr)))) (fun p5=>have p5f:=aT p5; (.s 6 (.br (decide (256 < chain)) (fun p6=>have p6f:=aS p6; (.s 11 (.out [] [] (D.tup [iD 0,iD 0,iD 2]) [] R (ok _ _ vh wr)))) (fun p6=>have p6f:=aT p6; (.s 23 (.ow (q + 3) (.s 6 (.br (decide ((↑n:Int) < q + 3)) (fun p7=>have p7f:=aS p7; (.s 17 (.out [] [] (D.tup [iD 0,iD 0,iD 6]) [] R (ok _ _ (by (exact so (by (omega)) (by (omega)) (by rw [vk (by (omega))]))) wr)))) (fun p7=>have p7f:=aT p7; (.s 11 (.ow (q + 3) (.s 1 (.chk (aL (some q) (some (q + 3)) none n && true) (by (simp <;> (omega))) (.s 9 (.ow (q - size) (.s 1 (.opt (fB IntKind.i64 true 0 (q - size)) (iD (max 0 (q - size))) (eg _ _ _) (.s 6 (.ow (q - 1) (.s 2 (.ow (q - 1 + 3) (.s 1 (.val 7 (iD (q - 1 + 3)) (iD ((↑(Int.toNat q):Int) + 2)) vg (Hn.inl T_ok ah false 47 456 (aA Tryz.prog 178 0) (fun (x:(k:Nat) ×' (hk:k ≤ q.toNat) ×' (c:Int) ×' (d:Int) ×' (l:Int) ×' (hc2:0 ≤ c ∧ c ≤ 256) ×' (hd:0 ≤ d ∧ d ≤ 1000000) ×' (hl:0 ≤ l ∧ l ≤ 258) ×' (hlow:max 0 (q - size) ≤ (k:Int)) ×' (hg:bestG b q.toNat size q.toNat chain 0 0 = bestG b q.toNat size k c d l) ×' Unit)=>match x with | ⟨k,hk,c,d,l,hc2,hd,hl,hlow,hg,_⟩=>CutS.mk [(0,D.yl 448 448),(2,D.ptr 368 368 0),(5,D.sl false (Int.toNat (q + 3) - Int.toNat q) 1 (take ((Int.toNat (q + 3) - Int.toNat q) * 1) (drop (Int.toNat q * 1) (map dB b)))),(6,iD (max 0 (q - size))),(7,iD ((k:Int) + 2))] [⟨0,0,0,0,.b ⟨[D.sl false n 1 (map dB b)],24,false⟩⟩,⟨8,8,8,8,.b ⟨[iD q],3,false⟩⟩,⟨16,16,16,16,.b ⟨[iD c],3,false⟩⟩,⟨24,24,24,24,.b ⟨[iD d],3,false⟩⟩,⟨32,32,32,32,.b ⟨[iD l],3,false⟩⟩,⟨368,368,368,368,.b ⟨[D.sl false n 1 (map dB b)],24,false⟩⟩,⟨376,376,376,376,.b ⟨[iD q],3,false⟩⟩,⟨384,384,384,384,.b ⟨[iD size],3,false⟩⟩,⟨448,448,448,448,.l LoopState.ready none (rangeAt Tryz.prog 117 0).1 (rangeAt Tryz.prog 117 0).2.1 (rangeAt Tryz.prog 117 0).2.2 58 [(0,D.sl false n 1 (map dB b)),(1,iD q),(3,iD chain),(7,D.ptr 16 16 0),(15,iD q),(31,iD chain),(23,iD size),(11,iD 0),(35,iD q),(27,iD chain),(5,D.ptr 8 8 0),(9,D.ptr 32 32 0),(17,iD 0),(33,D.v (.bool false)),(25,D.v (.bool (decide (32768 < size)))),(21,D.v (.bool (decide (size < 1)))),(37,D.fn (Fn.func 178) [] [D.ptr 376 376 0,D.ptr 368 368 0,D.ptr 384 384 0]),(29,D.v (.bool (decide (chain < 0)))),(2,iD size),(4,D.ptr 0 0 0),(8,D.ptr 24 24 0),(16,iD 0),(32,D.v (.bool (decide (256 < chain)))),(24,D.v (.bool (decide (32768 < size)))),(20,iD size),(36,iD size),(28,D.v (.bool (decide (chain < 0)))),(10,iD 0),(18,D.v (.bool false)),(34,D.sl false n 1 (map dB b)),(26,D.v (.bool false)),(14,D.sl false n 1 (map dB b)),(22,D.v (.bool false)),(30,D.v (.bool false))]⟩] 528) (fun (x:(k:Nat) ×' (hk:k ≤ q.toNat) ×' (c:Int) ×' (d:Int) ×' (l:Int) ×' (hc2:0 ≤ c ∧ c ≤ 256) ×' (hd:0 ≤ d ∧ d ≤ 1000000) ×' (hl:0 ≤ l ∧ l ≤ 258) ×' (hlow:max 0 (q - size) ≤ (k:Int)) ×' (hg:bestG b q.toNat size q.toNat chain 0 0 = bestG b q.toNat size k c d l) ×' Unit)=>match x with | ⟨k,hk,c,d,l,hc2,hd,hl,hlow,hg,_⟩=>k) [⟨Unit,.ret,fun x=>match x with | ()=>CutS.mk [] [⟨0,0,0,0,.b ⟨[D.sl false n 1 (map dB b)],24,false⟩⟩,⟨8,8,8,8,.b ⟨[iD q],3,false⟩⟩,⟨24,24,24,24,.b ⟨[iD (bestG b q.toNat size q.toNat chain 0 0).1],3,false⟩⟩,⟨32,32,32,32,.b ⟨[iD (bestG b q.toNat size q.toNat chain 0 0).2],3,false⟩⟩,⟨368,368,368,368,.b ⟨[D.sl false n 1 (map dB b)],24,false⟩⟩,⟨376,376,376,376,.b ⟨[iD q],3,false⟩⟩,⟨384,384,384,384,.b ⟨[iD size],3,false⟩⟩,⟨448,448,448,448,.l LoopState.ready none (rangeAt Tryz.prog 117 0).1 (rangeAt Tryz.prog 117 0).2.1 (rangeAt Tryz.prog 117 0).2.2 58 [(0,D.sl false n 1 (map dB b)),(1,iD q),(3,iD chain),(7,D.ptr 16 16 0),(15,iD q),(31,iD chain),(23,iD size),(11,iD 0),(35,iD q),(27,iD chain),(5,D.ptr 8 8 0),(9,D.ptr 32 32 0),(17,iD 0),(33,D.v (.bool false)),(25,D.v (.bool (decide (32768 < size)))),(21,D.v (.bool (decide (size < 1)))),(37,D.fn (Fn.func 178) [] [D.ptr 376 376 0,D.ptr 368 368 0,D.ptr 384 384 0]),(29,D.v (.bool (decide (chain < 0)))),(2,iD size),(4,D.ptr 0 0 0),(8,D.ptr 24 24 0),(16,iD 0),(32,D.v (.bool (decide (256 < chain)))),(24,D.v (.bool (decide (32768 < size)))),(20,iD size),(36,iD size),(28,D.v (.bool (decide (chain < 0)))),(10,iD 0),(18,D.v (.bool false)),(34,D.sl false n 1 (map dB b)),(26,D.v (.bool false)),(14,D.sl false n 1 (map dB b)),(22,D.v (.bool false)),(30,D.v (.bool false))]⟩] 528⟩,⟨Unit,.ret,fun x=>match x with | ()=>CutS.mk [] [⟨0,0,0,0,.b ⟨[D.sl false n 1 (map dB b)],24,false⟩⟩,⟨8,8,8,8,.b ⟨[iD q],3,false⟩⟩,⟨24,24,24,24,.b ⟨[iD (bestG b q.toNat size q.toNat chain 0 0).1],3,false⟩⟩,⟨32,32,32,32,.b ⟨[iD (bestG b q.toNat size q.toNat chain 0 0).2],3,false⟩⟩,⟨368,368,368,368,.b ⟨[D.sl false n 1 (map dB b)],24,false⟩⟩,⟨376,376,376,376,.b ⟨[iD q],3,false⟩⟩,⟨384,384,384,384,.b ⟨[iD size],3,false⟩⟩,⟨448,448,448,448,.l LoopState.done (some (Code.exit 0)) (rangeAt Tryz.prog 117 0).1 (rangeAt Tryz.prog 117 0).2.1 (rangeAt Tryz.prog 117 0).2.2 58 [(0,D.sl false n 1 (map dB b)),(1,iD q),(3,iD chain),(7,D.ptr 16 16 0),(15,iD q),(31,iD chain),(23,iD size),(11,iD 0),(35,iD q),(27,iD chain),(5,D.ptr 8 8 0),(9,D.ptr 32 32 0),(17,iD 0),(33,D.v (.bool false)),(25,D.v (.bool (decide (32768 < size)))),(21,D.v (.bool (decide (size < 1)))),(37,D.fn (Fn.func 178) [] [D.ptr 376 376 0,D.ptr 368 368 0,D.ptr 384 384 0]),(29,D.v (.bool (decide (chain < 0)))),(2,iD size),(4,D.ptr 0 0 0),(8,D.ptr 24 24 0),(16,iD 0),(32,D.v (.bool (decide (256 < chain)))),(24,D.v (.bool (decide (32768 < size)))),(20,iD size),(36,iD size),(28,D.v (.bool (decide (chain < 0)))),(10,iD 0),(18,D.v (.bool false)),(34,D.sl false n 1 (map dB b)),(26,D.v (.bool false)),(14,D.sl false n 1 (map dB b)),(22,D.v (.bool false)),(30,D.v (.bool false))]⟩] 528⟩] 1000 64 (fun | ⟨k,hk,c,d,l,hc2,hd,hl,hlow,hg,_⟩,Q,next1,last1=>(.s 6 (.chk (aL (some (max 0 (q - size))) (some ((↑k:Int) + 2)) none n && true) (by (simp;  have h9:=fx (take (((k:Int) + 2).toNat - (max 0 (q - size)).toNat) (drop (max 0 (q - size)).toNat b)) (take ((q + 3).toNat - q.toNat) (drop q.toNat b)) (((k:Int) + 2).toNat - (max 0 (q - size)).toNat - 2); omega)) (.s 2 (.call 179 false [] (true) wr ([D.sl false (Int.toNat ((↑k:Int) + 2) - Int.toNat (max 0 (q - size))) 1 (take ((Int.toNat ((↑k:Int) + 2) - Int.toNat (max 0 (q - size))) * 1) (drop (Int.toNat (max 0 (q - size)) * 1) (map dB b))),D.sl false (Int.toNat (q + 3) - Int.toNat q) 1 (take ((Int.toNat (q + 3) - Int.toNat q) * 1) (drop (Int.toNat q * 1) (map dB b)))]) _ (by exact (And.intro (D.sim.slw rfl (by (simp; done))) (And.intro (D.sim.slw rfl (by (simp; done))) trivial))) (true) wr _ _ _ (CallOk.fn (aw.of Tryz.func179 rfl rfl) (@Go.Proofs.YtefjnofhgkjpmaaGreat.Vm.lastIxX (take (Int.toNat ((↑k:Int) + 2) - Int.toNat (max 0 (q - size))) (drop (Int.toNat (max 0 (q - size))) b)) (take (Int.toNat (q + 3) - Int.toNat q) (drop (Int.toNat q) b)) (Int.toNat ((↑k:Int) + 2) - Int.toNat (max 0 (q - size))) (Int.toNat (q + 3) - Int.toNat q) (by (simp only [List.length_take,List.length_drop]; (omega))) (by (simp only [List.length_take,List.length_drop]; (omega))) om om)) (.s 6 (.br (decide (ap (take (Int.toNat ((↑k:Int) + 2) - Int.toNat (max 0 (q - size))) (drop (Int.toNat (max 0 (q - size))) b)) (take (Int.toNat (q + 3) - Int.toNat q) (drop (Int.toNat q) b)) (Int.toNat ((↑k:Int) + 2) - Int.toNat (max 0 (q - size)) - 2) < 0)) (fun p8=>have p8f:=aS p8; (.s 12 (.blk 24 24 (Blk.mk [iD d] 3 false) (Blk.mk [iD (Prod.fst (bestG b (Int.toNat q) size (Int.toNat q) chain 0 0))] 3 false) (by (exact Ao (sk (C2 hn (by (omega)) (by (omega)) (by (omega)) hlow hk hg (by (omega)))))) (.blk 32 32 (Blk.mk [iD l] 3 false) (Blk.mk [iD (Prod.snd (bestG b (Int.toNat q) size (Int.toNat q) chain 0 0))] 3 false) (by (exact Ao (sn (C2 hn (by (omega)) (by (omega)) (by (omega)) hlow hk hg (by (omega)))))) (Hn.last last1 0 (():Unit) rfl [(0,0),(8,8),(24,24),(32,32),(368,368),(376,376),(384,384),(448,448)] ro))))) (fun p8=>have p8f:=aT p8; (.s 7 (.op (max 0 (q - size) + ap (take (Int.toNat ((↑k:Int) + 2) - Int.toNat (max 0 (q - size))) (drop (Int.toNat (max 0 (q - size))) b)) (take (Int.toNat (q + 3) - Int.toNat q) (drop (Int.toNat q) b)) (Int.toNat ((↑k:Int) + 2) - Int.toNat (max 0 (q - size)) - 2)) jV (.s 8 (.br (c == 0) (fun p9=>have p9f:=eq_of_beq p9; (.s 4 (.blk 24 24 (Blk.mk [iD d] 3 false) (Blk.mk [iD (Prod.fst (bestG b (Int.toNat q) size (Int.toNat q) chain 0 0))] 3 false) (by (exact Ao (sk (C3 hg (by (omega)))))) (.blk 32 32 (Blk.mk [iD l] 3 false) (Blk.mk [iD (Prod.snd (bestG b (Int.toNat q) size (Int.toNat q) chain 0 0))] 3 false) (by (exact Ao (sn (C3 hg (by (omega)))))) (Hn.last last1 1 (():Unit) rfl [(0,0),(8,8),(24,24),(32,32),(368,368),(376,376),(384,384),(448,448)] ro))))) (fun p9=>have p9f:=au p9; (.s 5 (.ow (c - 1) (.s 11 (.cl 155 false [] (.fn JC (@Go.Proofs.YtefjnofhgkjpmaaGreat.Vm.longX (b) (n) (q) (max 0 (q - size) + ap (take (Int.toNat ((↑k:Int) + 2) - Int.toNat (max 0 (q - size))) (drop (Int.toNat (max 0 (q - size))) b)) (take (Int.toNat (q + 3) - Int.toNat q) (drop (Int.toNat q) b)) (Int.toNat ((↑k:Int) + 2) - Int.toNat (max 0 (q - size)) - 2)) om om om om jV)) (.s 7 (.br (decide (l < (↑(same b (Int.toNat q) (Int.toNat (max 0 (q - size) + ap (take (Int.toNat ((↑k:Int) + 2) - Int.toNat (max 0 (q - size))) (drop (Int.toNat (max 0 (q - size))) b)) (take (Int.toNat (q + 3) - Int.toNat q) (drop (Int.toNat q) b)) (Int.toNat ((↑k:Int) + 2) - Int.toNat (max 0 (q - size)) - 2))) 258):Int))) (fun p10=>have p10f:=aS p10; (.s 6 (.op (q - (max 0 (q - size) + ap (take (Int.toNat ((↑k:Int) + 2) - Int.toNat (max 0 (q - size))) (drop (Int.toNat (max 0 (q - size))) b)) (take (Int.toNat (q + 3) - Int.toNat q) (drop (Int.toNat q) b)) (Int.toNat ((↑k:Int) + 2) - Int.toNat (max 0 (q - size)) - 2))) jV (.s 15 (.op (max 0 (q - size) + ap (take (Int.toNat ((↑k:Int) + 2) - Int.toNat (max 0 (q - size))) (drop (Int.toNat (max 0 (q - size))) b)) (take (Int.toNat (q + 3) - Int.toNat q) (drop (Int.toNat q) b)) (Int.toNat ((↑k:Int) + 2) - Int.toNat (max 0 (q - size)) - 2)) jV (.s 2 (.op (max 0 (q - size) + ap (take (Int.toNat ((↑k:Int) + 2) - Int.toNat (max 0 (q - size))) (drop (Int.toNat (max 0 (q - size))) b)) (take (Int.toNat (q + 3) - Int.toNat q) (drop (Int.toNat q) b)) (Int.toNat ((↑k:Int) + 2) - Int.toNat (max 0 (q - size)) - 2) + 3) jV (.s 2 (.op (max 0 (q - size) + ap (take (Int.toNat ((↑k:Int) + 2) - Int.toNat (max 0 (q - size))) (drop (Int.toNat (max 0 (q - size))) b)) (take (Int.toNat (q + 3) - Int.toNat q) (drop (Int.toNat q) b)) (Int.toNat ((↑k:Int) + 2) - Int.toNat (max 0 (q - size)) - 2) + 3 - 1) jV (.s 1 (.val 7 (iD (max 0 (q - size) + ap (take (Int.toNat ((↑k:Int) + 2) - Int.toNat (max 0 (q - size))) (drop (Int.toNat (max 0 (q - size))) b)) (take (Int.toNat (q + 3) - Int.toNat q) (drop (Int.toNat q) b)) (Int.toNat ((↑k:Int) + 2) - Int.toNat (max 0 (q - size)) - 2) + 3 - 1)) (iD ((↑(Int.toNat (max 0 (q - size) + ap (take (Int.toNat ((↑k:Int) + 2) - Int.toNat (max 0 (q - size))) (drop (Int.toNat (max 0 (q - size))) b)) (take (Int.toNat (q + 3) - Int.toNat q) (drop (Int.toNat q) b)) (Int.toNat ((↑k:Int) + 2) - Int.toNat (max 0 (q - size)) - 2))):Int) + 2)) vg (Hn.next next1 ⟨((max 0 (q - size) + (ap (take (((k:Int) + 2).toNat - (max 0 (q - size)).toNat) (drop (max 0 (q - size)).toNat b)) (take ((q + 3).toNat - q.toNat) (drop q.toNat b)) (((k:Int) + 2).toNat - (max 0 (q - size)).toNat - 2))).toNat),jV,(c - 1),(q - (max 0 (q - size) + (ap (take (((k:Int) + 2).toNat - (max 0 (q - size)).toNat) (drop (max 0 (q - size)).toNat b)) (take ((q + 3).toNat - q.toNat) (drop q.toNat b)) (((k:Int) + 2).toNat - (max 0 (q - size)).toNat - 2)))),(((same b q.toNat (max 0 (q - size) + (ap (take (((k:Int) + 2).toNat - (max 0 (q - size)).toNat) (drop (max 0 (q - size)).toNat b)) (take ((q + 3).toNat - q.toNat) (drop q.toNat b)) (((k:Int) + 2).toNat - (max 0 (q - size)).toNat - 2))).toNat 258:Nat):Int)),om,jV,(by (exact ⟨Int.natCast_nonneg _,Int.ofNat_le.2 (i7 _ _ _)⟩)),om,(by (exact Ap hn (by (omega)) (by (omega)) (by (omega)) hlow hk hg (by (omega)) (by (omega)) (by (omega)))),⟨⟩⟩ Iv [(0,0),(8,8),(16,16),(24,24),(32,32),(368,368),(376,376),(384,384),(448,448)] ro)))))))))))) (fun p10=>have p10f:=aT p10; (.s 8 (.op (max 0 (q - size) + ap (take (Int.toNat ((↑k:Int) + 2) - Int.toNat (max 0 (q - size))) (drop (Int.toNat (max 0 (q - size))) b)) (take (Int.toNat (q + 3) - Int.toNat q) (drop (Int.toNat q) b)) (Int.toNat ((↑k:Int) + 2) - Int.toNat (max 0 (q - size)) - 2)) jV (.s 2 (.op (max 0 (q - size) + ap (take (Int.toNat ((↑k:Int) + 2) - Int.toNat (max 0 (q - size))) (drop (Int.toNat (max 0 (q - size))) b)) (take (Int.toNat (q + 3) - Int.toNat q) (drop (Int.toNat q) b)) (Int.toNat ((↑k:Int) + 2) - Int.toNat (max 0 (q - size)) - 2) + 3) jV (.s 2 (.op (max 0 (q - size) + ap (take (Int.toNat ((↑k:Int) + 2) - Int.toNat (max 0 (q - size))) (drop (Int.toNat (max 0 (q - size))) b)) (take (Int.toNat (q + 3) - Int.toNat q) (drop (Int.toNat q) b)) (Int.toNat ((↑k:Int) + 2) - Int.toNat (max 0 (q - size)) - 2) + 3 - 1) jV (.s 1 (.val 7 (iD (max 0 (q - size) + ap (take (Int.toNat ((↑k:Int) + 2) - Int.toNat (max 0 (q - size))) (drop (Int.toNat (max 0 (q - size))) b)) (take (Int.toNat (q + 3) - Int.toNat q) (drop (Int.toNat q) b)) (Int.toNat ((↑k:Int) + 2) - Int.toNat (max 0 (q - size)) - 2) + 3 - 1)) (iD ((↑(Int.toNat (max 0 (q - size) + ap (take (Int.toNat ((↑k:Int) + 2) - Int.toNat (max 0 (q - size))) (drop (Int.toNat (max 0 (q - size))) b)) (take (Int.toNat (q + 3) - Int.toNat q) (drop (Int.toNat q) b)) (Int.toNat ((↑k:Int) + 2) - Int.toNat (max 0 (q - size)) - 2))):Int) + 2)) vg (Hn.next next1 ⟨((max 0 (q - size) + (ap (take (((k:Int) + 2).toNat - (max 0 (q - size)).toNat) (drop (max 0 (q - size)).toNat b)) (take ((q + 3).toNat - q.toNat) (drop q.toNat b)) (((k:Int) + 2).toNat - (max 0 (q - size)).toNat - 2))).toNat),jV,(c - 1),(d),(l),om,om,om,om,(by (exact Aq hn (by (omega)) (by (omega)) (by (omega)) hlow hk hg (by (omega)) (by (omega)) (by (omega)))),⟨⟩⟩ Iv [(0,0),(8,8),(16,16),(24,24),(32,32),(368,368),(376,376),(384,384),(448,448)] ro))))))))))))))))))))))))))))) (fun | ⟨k,hk,c,d,l,hc2,hd,hl,hlow,hg,_⟩=>by kernel_rfl) ⟨(q.toNat),om,(chain),(0),(0),om,om,om,om,wr,⟨⟩⟩ [(0,0),(8,8),(16,16),(24,24),(32,32),(368,368),(376,376),(384,384),(448,448)] ro (fc (fun | ()=>(.s 5 (.br (Prod.snd (bestG b (Int.toNat q) size (Int.toNat q) chain 0 0) == 0) (fun p11=>have p11f:=eq_of_beq p11; (.s 11 (.out [] [] (D.tup [iD 0,iD 0,iD 6]) [] R (ok _ _ (by (exact so (by (omega)) (by (omega)) (eq_of_beq bt))) wr)))) (fun p11=>have p11f:=au p11; (.s 18 (.out [] [] (D.tup [iD (Prod.fst (bestG b (Int.toNat q) size (Int.toNat q) chain 0 0)),iD (Prod.snd (bestG b (Int.toNat q) size (Int.toNat q) chain 0 0)),iD 0]) [] R (ok _ _ (by (exact yg (by (omega)) (by (omega)) (au bt))) wr))))))) (fun | ()=>(.s 5 (.br (Prod.snd (bestG b (Int.toNat q) size (Int.toNat q) chain 0 0) == 0) (fun p12=>have p12f:=eq_of_beq p12; (.s 11 (.out [] [] (D.tup [iD 0,iD 0,iD 6]) [] R (ok _ _ (by (exact so (by (omega)) (by (omega)) (eq_of_beq bt))) wr)))) (fun p12=>have p12f:=au p12; (.s 18 (.out [] [] (D.tup [iD (Prod.fst (bestG b (Int.toNat q) size (Int.toNat q) chain 0 0)),iD (Prod.snd (bestG b (Int.toNat q) size (Int.toNat q) chain 0 0)),iD 0]) [] R (ok _ _ (by (exact yg (by (omega)) (by (omega)) (au bt))) wr)))))))))))))))))))))))))))))))))))))))))))))))))) (by kernel_rfl)
end Vm
end Go.Proofs.YtefjnofhgkjpmaaGreat
namespace Go.Proofs.YtefjnofhgkjpmaaGreat
open Go.RowKit Go.Bw Go.Vx
namespace Vm
theorem gG (b:List UInt8) (i:Nat) (size:Int):∀ (k:Nat) (c d l:Int),bestG b i size k c d l = (d,l) ∨ ∃ j,j < k ∧ (bestG b i size k c d l).1 = (i:Int) - (j:Int) ∧ (bestG b i size k c d l).2 = (same b i j 258:Nat) ∧ 3 ≤ same b i j 258 ∧ (i:Int) - (j:Int) ≤ size
 | 0,c,d,l=>.inl rfl
 | k + 1,c,d,l=>by
  have up:∀ {c d l:Int},(∃ j,j < k ∧ (bestG b i size k c d l).1 = (i:Int) - (j:Int) ∧ (bestG b i size k c d l).2 = (same b i j 258:Nat) ∧ 3 ≤ same b i j 258 ∧ (i:Int) - (j:Int) ≤ size) → ∃ j,j < k + 1 ∧ (bestG b i size k c d l).1 = (i:Int) - (j:Int) ∧ (bestG b i size k c d l).2 = (same b i j 258:Nat) ∧ 3 ≤ same b i j 258 ∧ (i:Int) - (j:Int) ≤ size:=fun ⟨j,h1,h2⟩=>⟨j,by omega,h2⟩
  unfold bestG
  split
  ·next e =>
   split
   ·exact (gG b i size k c d l).imp id up
   ·next e3 =>
    split
    ·rcases gG b i size k (c - 1) ((i:Int) - k) (same b i k 258:Nat) with h | h
     ·exact .inr ⟨k,by omega,by rw [h],by rw [h],by omega,e.1⟩
     ·exact .inr (up h)
    ·exact (gG b i size k (c - 1) d l).imp id up
  ·exact .inl rfl
theorem jz {b:List UInt8} {n:Nat} {x size chain:Int} (h:du b n x size chain ≠ 0):nr b n x size chain = 0 ∧ jN b n x size chain = 0:=⟨if_neg h,if_neg h⟩
def un (n:Nat) (q size chain:Int):Prop:=n ≤ 131072 ∧ 0 ≤ q ∧ q ≤ (n:Int) ∧ 1 ≤ size ∧ size ≤ 32768 ∧ 0 ≤ chain ∧ chain ≤ 256
theorem nu {b:List UInt8} {n:Nat} {q size chain:Int} (h:un n q size chain):(du b n q size chain = 0 ∨ du b n q size chain = 6) ∧ jN b n q size chain = (bestG b q.toNat size q.toNat chain 0 0).2:=by
 unfold un at h
 have h2:¬ qP n q size chain:=by unfold qP; omega
 have e:du b n q size chain = if (bestG b q.toNat size q.toNat chain 0 0).2 = 0 then 6 else 0:=by rw [du,if_neg (by omega),if_neg h2]
 constructor
 ·rw [e]; split <;> simp
 ·unfold jN
  by_cases h3:(bestG b q.toNat size q.toNat chain 0 0).2 = 0
  ·rw [if_pos h3] at e; rw [if_neg (by rw [e]; decide),h3]
  ·rw [if_neg h3] at e; rw [if_pos e]
end Vm
end Go.Proofs.YtefjnofhgkjpmaaGreat
namespace Go.Proofs.YtefjnofhgkjpmaaGreat
open Go.RowKit Go.Bw Go.Vx Vm
open List (length getD map take drop flatMap replicate)
namespace Vt
theorem qS {p:Prop} (h:p:=by (refine decide_eq_false ?_; (omega))):p:=h
theorem Ar {p:Prop} (h:p:=by ( have h9:=best_bd b i size chain om; omega)):p:=h
theorem As {p:Prop} (h:p:=by (simp only [E5]; (repeat' (first | (refine aH ?_ ?_) | (with_reducible rfl) | (refine decide_eq_true ?_) | (refine Nat.ble_eq_true_of_le ?_) | (refine et ?_))) <;> (omega))):p:=h
theorem At {p:Prop} (h:p:=by (refine aO ?_; (omega))):p:=h
theorem Au {p:Prop} (h:p:=by (rw [List.length_append,List.length_singleton]; (omega))):p:=h
theorem Iw {p:Prop} (h:p:=by show n - (i + Int.toNat (Prod.snd (bestG b i size i chain 0 0))) < n - i; clear next1 last1; omega):p:=h
open Vm (bestG ia du jN nr same i7 i6 gG nu un jz)
def mayS (size chain most:Int):Bool:=decide (1 ≤ size) && decide (size ≤ 32768) && decide (0 ≤ chain) && decide (chain ≤ 256) && decide (1 ≤ most) && decide (most ≤ 65535)
theorem mayS_iff {size chain most:Int}:mayS size chain most = true ↔ 1 ≤ size ∧ size ≤ 32768 ∧ 0 ≤ chain ∧ chain ≤ 256 ∧ 1 ≤ most ∧ most ≤ 65535:=by
 unfold mayS; simp [and_assoc]
abbrev EZ (size chain most:Int) (lazy:Bool):D:=.agg [iD size,iD chain,iD most,.v (.bool lazy)]
theorem sty_t0 (size chain most:Int) (lazy:Bool) (hm:mayS size chain most = true):SpecH false Tryz.prog 29 [EZ size chain most lazy] [] (iD 0) []:=by
 have hm2:=mayS_iff.1 hm
 refine SpecH.run T_ok ah Tryz.func29 rfl rfl rfl trivial rfl 1000 64 (fun R ok=>(.s 13 (.f (decide (size < 1)) qS (.s 12 (.f (decide (32768 < size)) qS (.s 12 (.f (decide (chain < 0)) qS (.s 12 (.f (decide (256 < chain)) qS (.s 12 (.f (decide (most < 1)) qS (.s 10 (.f (decide (65535 < most)) qS (.s 1 (.out [] [] (iD 0) [] R (ok _ _ wr wr)))))))))))))))) (by kernel_rfl)
theorem sty_t8 (size chain most:Int) (lazy:Bool) (hm:mayS size chain most = false):SpecH false Tryz.prog 29 [EZ size chain most lazy] [] (iD 8) []:=by
 have hm2:=mt mayS_iff.2 (by rw [hm]; decide)
 refine SpecH.run T_ok ah Tryz.func29 rfl rfl rfl trivial rfl 1000 64 (fun R ok=>(.s 13 (.br (decide (size < 1)) (fun p0=>have p0f:=aS p0; (.s 39 (.out [] [] (iD 8) [] R (ok _ _ wr wr)))) (fun p0=>have p0f:=aT p0; (.s 12 (.br (decide (32768 < size)) (fun p1=>have p1f:=aS p1; (.s 31 (.out [] [] (iD 8) [] R (ok _ _ wr wr)))) (fun p1=>have p1f:=aT p1; (.s 12 (.br (decide (chain < 0)) (fun p2=>have p2f:=aS p2; (.s 23 (.out [] [] (iD 8) [] R (ok _ _ wr wr)))) (fun p2=>have p2f:=aT p2; (.s 12 (.br (decide (256 < chain)) (fun p3=>have p3f:=aS p3; (.s 15 (.out [] [] (iD 8) [] R (ok _ _ wr wr)))) (fun p3=>have p3f:=aT p3; (.s 12 (.br (decide (most < 1)) (fun p4=>have p4f:=aS p4; (.s 7 (.out [] [] (iD 8) [] R (ok _ _ wr wr)))) (fun p4=>have p4f:=aT p4; (.s 10 (.t (decide (65535 < most)) (by (refine decide_eq_true ?_; (omega))) (.s 1 (.out [] [] (iD 8) [] R (ok _ _ wr wr))))))))))))))))))))) (by kernel_rfl)
def l7 (b:List UInt8) (size chain:Int) (lazy:Bool) (i:Nat):Int:=if lazy = true ∧ i + 1 < b.length then (bestG b (i + 1) size (i + 1) chain 0 0).2 else 0
def tokAt (b:List UInt8) (size chain:Int) (lazy:Bool) (i:Nat):Tok :=
 if (bestG b i size i chain 0 0).2 = 0 ∨ (bestG b i size i chain 0 0).2 < l7 b size chain lazy i then ⟨b.getD i default,0,0⟩ else ⟨0,(bestG b i size i chain 0 0).1,(bestG b i size i chain 0 0).2⟩
def mq (t:Tok):Nat:=if t.long = 0 then 1 else t.long.toNat
def cutK (b:List UInt8) (size chain:Int) (lazy:Bool):Nat → Nat → List Tok
 | 0,_=>[]
 | k + 1,i=>if i < b.length then tokAt b size chain lazy i :: cutK b size chain lazy k (i + mq (tokAt b size chain lazy i)) else []
def cutG (b:List UInt8) (size chain:Int) (lazy:Bool) (i:Nat):List Tok:=cutK b size chain lazy (b.length - i) i
theorem best_bd (b:List UInt8) (i:Nat) (size chain:Int) (hi:i ≤ b.length):0 ≤ (bestG b i size i chain 0 0).2 ∧ (bestG b i size i chain 0 0).2 ≤ 258 ∧ (i:Int) + (bestG b i size i chain 0 0).2 ≤ b.length ∧ 0 ≤ (bestG b i size i chain 0 0).1 ∧ (bestG b i size i chain 0 0).1 ≤ i ∧ ((bestG b i size i chain 0 0).2 = 0 → (bestG b i size i chain 0 0).1 = 0) ∧ ((bestG b i size i chain 0 0).2 ≠ 0 → 3 ≤ (bestG b i size i chain 0 0).2 ∧ 1 ≤ (bestG b i size i chain 0 0).1 ∧ (bestG b i size i chain 0 0).1 ≤ size):=by
 rcases gG b i size i chain 0 0 with h | ⟨j,h1,h2,h3,h4,h5⟩
 ·rw [h]; simp; omega
 ·rw [h2,h3]
  have:=i7 b i j
  have:=i6 b 258 i j hi
  omega
theorem l8 (b:List UInt8) (size chain:Int) (lazy:Bool) (i:Nat) (hi:i < b.length):1 ≤ mq (tokAt b size chain lazy i) ∧ i + mq (tokAt b size chain lazy i) ≤ b.length:=by
 have h:=best_bd b i size chain (by omega)
 unfold tokAt
 split
 ·unfold mq; simp; omega
 ·next e =>
  unfold mq
  dsimp only
  rw [if_neg (fun q=>e (.inl q))]
  omega
theorem nv (b:List UInt8) (size chain:Int) (lazy:Bool):∀ (k m i:Nat),b.length - i ≤ k → b.length - i ≤ m → cutK b size chain lazy k i = cutK b size chain lazy m i
 | 0,0,i,_,_=>rfl
 | 0,m + 1,i,h,_=>by rw [cutK,cutK,if_neg (by omega)]
 | k + 1,0,i,_,h=>by rw [cutK,cutK,if_neg (by omega)]
 | k + 1,m + 1,i,h1,h2=>by
  rw [cutK,cutK]
  split
  ·next hi =>
   have:=l8 b size chain lazy i hi
   rw [nv b size chain lazy k m _ (by omega) (by omega)]
  ·rfl
theorem qT {b:List UInt8} {size chain:Int} {lazy:Bool} {i:Nat} (h:b.length ≤ i):cutG b size chain lazy i = []:=by
 unfold cutG; rw [show b.length - i = 0 from by omega]; rfl
theorem nw {b:List UInt8} {size chain:Int} {lazy:Bool} {i:Nat} (h:i < b.length):cutG b size chain lazy i = tokAt b size chain lazy i :: cutG b size chain lazy (i + mq (tokAt b size chain lazy i)):=by
 unfold cutG
 have:=l8 b size chain lazy i h
 rw [show b.length - i = (b.length - i - 1) + 1 from by omega,cutK,if_pos h,nv b size chain lazy (b.length - i - 1) (b.length - (i + mq (tokAt b size chain lazy i))) _ (by omega) (by omega)]
theorem qU (b:List UInt8) (size chain:Int) (lazy:Bool):∀ k i:Nat,(cutK b size chain lazy k i).length ≤ b.length - i
 | 0,i=>by simp [cutK]
 | k + 1,i=>by
  rw [cutK]
  split
  ·next h =>
   have h1:=qU b size chain lazy k (i + mq (tokAt b size chain lazy i))
   have h2:=l8 b size chain lazy i h
   rw [List.length_cons]; omega
  ·simp
theorem cutG_len (b:List UInt8) (size chain:Int) (lazy:Bool) (i:Nat):(cutG b size chain lazy i).length ≤ b.length - i:=qU b size chain lazy _ i
theorem uo {b:List UInt8} {size chain:Int} {lazy:Bool} {i:Nat} {c R:List Tok} (hr:c ++ cutG b size chain lazy i = R) (h:i < b.length) (e:(bestG b i size i chain 0 0).2 = 0 ∨ (bestG b i size i chain 0 0).2 < l7 b size chain lazy i):(c ++ [⟨b.getD i default,0,0⟩]) ++ cutG b size chain lazy (i + 1) = R:=by
 rw [nw h,tokAt,if_pos e,mq,if_pos rfl] at hr
 rw [List.append_assoc]; exact hr
theorem qV {b:List UInt8} {size chain:Int} {lazy:Bool} {i j:Nat} {c R:List Tok} (hr:c ++ cutG b size chain lazy i = R) (h:i < b.length) (e:¬ ((bestG b i size i chain 0 0).2 = 0 ∨ (bestG b i size i chain 0 0).2 < l7 b size chain lazy i)) (hj:(j:Int) = i + (bestG b i size i chain 0 0).2):(c ++ [⟨0,(bestG b i size i chain 0 0).1,(bestG b i size i chain 0 0).2⟩]) ++ cutG b size chain lazy j = R:=by
 have hb:=best_bd b i size chain (by omega)
 rw [nw h,tokAt,if_neg e,mq,if_neg (fun q=>e (.inl q)),show i + (bestG b i size i chain 0 0).2.toNat = j from by omega] at hr
 rw [List.append_assoc]; exact hr
theorem uq {b:List UInt8} {size chain:Int} {lazy:Bool} {i:Nat} (h:lazy = true) (h2:i + 1 < b.length):l7 b size chain lazy i = (bestG b (i + 1) size (i + 1) chain 0 0).2:=if_pos ⟨h,h2⟩
theorem Av {b:List UInt8} {size chain:Int} {lazy:Bool} {i:Nat} (h:lazy = false ∨ b.length ≤ i + 1):l7 b size chain lazy i = 0:=if_neg (by
 rintro ⟨h1,h2⟩
 rcases h with h | h
 ·rw [h] at h1; cases h1
 ·omega)
theorem E5 (l:List Tok):(l.flatMap tokD).length = l.length * 3:=bm (f:=tokD) (k:=3) (fun _=>rfl) l
theorem qW {b:List UInt8} {n i:Nat} {size chain:Int} (hn:n = b.length) (h:n ≤ 131072) (hi:i ≤ n) (hs:1 ≤ size ∧ size ≤ 32768) (hc:0 ≤ chain ∧ chain ≤ 256):jN b n i size chain = (bestG b i size i chain 0 0).2 ∧ nr b n i size chain = (bestG b i size i chain 0 0).1:=by
 have g:=nu (b:=b) (n:=n) (q:=i) (size:=size) (chain:=chain) (by unfold un; omega)
 simp only [Int.toNat_natCast] at g
 refine ⟨g.2,?_⟩
 by_cases e:du b n i size chain = 0
 ·exact if_pos e
 ·have h0:=(jz e).2
  have hb:=best_bd b i size chain (by omega)
  rw [(jz e).1,hb.2.2.2.2.2.1 (by rw [← g.2,h0])]
theorem FindTok (b:List UInt8) (n i:Nat) (size chain:Int) (hn:n = b.length) (h:n ≤ 131072) (hi:i ≤ n) (hs:1 ≤ size ∧ size ≤ 32768) (hc:0 ≤ chain ∧ chain ≤ 256):SpecH false Tryz.prog 117 [.sl false n 1 (b.map dB),iD i,iD size,iD chain] [] (.tup [iD (bestG b i size i chain 0 0).1,iD (bestG b i size i chain 0 0).2,iD (du b n i size chain)]) []:=by
 have h2:=KF b n i size chain hn (by omega) (by omega) (by omega) (by omega)
 unfold ia at h2
 rw [(qW hn h hi hs hc).1,(qW hn h hi hs hc).2] at h2
 exact h2
theorem FindTok1 (b:List UInt8) (n i:Nat) (size chain:Int) (hn:n = b.length) (h:n ≤ 131072) (hi:i + 1 ≤ n) (hs:1 ≤ size ∧ size ≤ 32768) (hc:0 ≤ chain ∧ chain ≤ 256):SpecH false Tryz.prog 117 [.sl false n 1 (b.map dB),iD ((i:Int) + 1),iD size,iD chain] [] (.tup [iD (bestG b (i + 1) size (i + 1) chain 0 0).1,iD (bestG b (i + 1) size (i + 1) chain 0 0).2,iD (du b n ((i:Int) + 1) size chain)]) []:=FindTok b n (i + 1) size chain hn h hi hs hc
theorem Cut_ok (b:List UInt8) (n:Nat) (size chain most q:Int) (lazy:Bool) (hn:n = b.length) (hN:n ≤ 1000000) (hq:-9223372036854775808 ≤ q ∧ q ≤ 9223372036854775807) (hm:mayS size chain most = true) (h:n ≤ 131072 ∧ 0 ≤ q ∧ q ≤ n):SpecH false Tryz.prog 67 [.sl false n 1 (b.map dB),iD q,EZ size chain most lazy] [] (.tup [.ref 0 0 0 (cutG b size chain lazy q.toNat).length 3,iD 0]) [⟨(cutG b size chain lazy q.toNat).flatMap tokD, 119, true⟩]:=by
 have hm2:=mayS_iff.1 hm
 obtain ⟨k,rfl⟩:=Int.eq_ofNat_of_zero_le h.2.1
 simp only [Int.toNat_natCast]
 refine SpecH.run T_ok ah Tryz.func67 rfl rfl rfl ⟨eh (fun _=>rfl) _,trivial⟩ rfl 1000 64 (fun R ok=>(.s 10 (.cl 29 false [] (.fn Jv (@Go.Proofs.YtefjnofhgkjpmaaGreat.Vt.sty_t0 (size) (chain) (most) (lazy) om)) (.s 9 (.f (decide (131072 < (↑n:Int))) qS (.s 14 (.f (decide ((↑n:Int) < (↑k:Int))) qS (.s 27 (.nilc 8 8 (Blk.mk [ar] 82 false) 0 312 3 119 (Hn.inl T_ok ah false 55 296 (aA Tryz.prog 118 0) (fun (x:(i:Nat) ×' (hi:i ≤ n) ×' (c:List Tok) ×' (hr:c ++ cutG b size chain lazy i = cutG b size chain lazy k) ×' (hb:c.length ≤ i) ×' Unit)=>match x with | ⟨i,hi,c,hr,hb,_⟩=>CutS.mk [(0,D.yl 288 288),(2,D.ptr 184 184 0),(3,D.ptr 224 224 0),(4,D.ptr 200 200 0),(6,iD (i:Nat))] [⟨0,0,0,0,.b ⟨[iD size,iD chain,iD most,D.v (.bool lazy)],23,false⟩⟩,⟨8,8,8,8,.b ⟨[(D.ref 352 352 (0) (c.length) 3)],82,false⟩⟩,⟨184,184,184,184,.b ⟨[D.sl false n 1 (map dB b)],24,false⟩⟩,⟨192,192,192,192,.b ⟨[nD k],3,false⟩⟩,⟨200,200,200,200,.b ⟨[iD size,iD chain,iD most,D.v (.bool lazy)],23,false⟩⟩,⟨224,224,224,224,.b ⟨[D.fn (Fn.func 116) [] [D.ptr 184 184 0,D.ptr 200 200 0]],196,false⟩⟩,⟨288,288,288,288,.l LoopState.ready none (rangeAt Tryz.prog 67 0).1 (rangeAt Tryz.prog 67 0).2.1 (rangeAt Tryz.prog 67 0).2.2 36 [(0,D.sl false n 1 (map dB b)),(1,nD k),(7,iD 0),(15,D.sl false n 1 (map dB b)),(23,nD n),(11,iD 0),(19,D.v (.bool false)),(27,nD k),(5,D.ptr 0 0 0),(17,D.v (.bool false)),(25,D.v (.bool false)),(13,D.v (.bool false)),(21,nD k),(29,D.fn (Fn.func 118) [] [D.ptr 192 192 0,D.ptr 184 184 0,D.ptr 224 224 0,D.ptr 200 200 0]),(2,D.agg [iD size,iD chain,iD most,D.v (.bool lazy)]),(8,iD 0),(16,nD n),(24,D.v (.bool (decide ((↑n:Int) < (↑k:Int))))),(12,iD 0),(20,D.v (.bool false)),(28,D.agg [iD size,iD chain,iD most,D.v (.bool lazy)]),(6,D.ptr 8 8 0),(10,D.agg [iD size,iD chain,iD most,D.v (.bool lazy)]),(18,nD k),(26,D.sl false n 1 (map dB b)),(22,D.sl false n 1 (map dB b))]⟩,⟨352,352,312,312,.b ⟨c.flatMap tokD,119,true⟩⟩] 360) (fun (x:(i:Nat) ×' (hi:i ≤ n) ×' (c:List Tok) ×' (hr:c ++ cutG b size chain lazy i = cutG b size chain lazy k) ×' (hb:c.length ≤ i) ×' Unit)=>match x with | ⟨i,hi,c,hr,hb,_⟩=>n - i) [⟨Unit,.exit 0,fun x=>match x with | ()=>CutS.mk [(0,D.yl 288 288),(2,D.ptr 184 184 0),(3,D.ptr 224 224 0),(4,D.ptr 200 200 0)] [⟨0,0,0,0,.b ⟨[iD size,iD chain,iD most,D.v (.bool lazy)],23,false⟩⟩,⟨8,8,8,8,.b ⟨[(D.ref 352 352 (0) ((cutG b size chain lazy k).length) 3)],82,false⟩⟩,⟨184,184,184,184,.b ⟨[D.sl false n 1 (map dB b)],24,false⟩⟩,⟨192,192,192,192,.b ⟨[nD k],3,false⟩⟩,⟨200,200,200,200,.b ⟨[iD size,iD chain,iD most,D.v (.bool lazy)],23,false⟩⟩,⟨224,224,224,224,.b ⟨[D.fn (Fn.func 116) [] [D.ptr 184 184 0,D.ptr 200 200 0]],196,false⟩⟩,⟨288,288,288,288,.l LoopState.ready none (rangeAt Tryz.prog 67 0).1 (rangeAt Tryz.prog 67 0).2.1 (rangeAt Tryz.prog 67 0).2.2 36 [(0,D.sl false n 1 (map dB b)),(1,nD k),(7,iD 0),(15,D.sl false n 1 (map dB b)),(23,nD n),(11,iD 0),(19,D.v (.bool false)),(27,nD k),(5,D.ptr 0 0 0),(17,D.v (.bool false)),(25,D.v (.bool false)),(13,D.v (.bool false)),(21,nD k),(29,D.fn (Fn.func 118) [] [D.ptr 192 192 0,D.ptr 184 184 0,D.ptr 224 224 0,D.ptr 200 200 0]),(2,D.agg [iD size,iD chain,iD most,D.v (.bool lazy)]),(8,iD 0),(16,nD n),(24,D.v (.bool (decide ((↑n:Int) < (↑k:Int))))),(12,iD 0),(20,D.v (.bool false)),(28,D.agg [iD size,iD chain,iD most,D.v (.bool lazy)]),(6,D.ptr 8 8 0),(10,D.agg [iD size,iD chain,iD most,D.v (.bool lazy)]),(18,nD k),(26,D.sl false n 1 (map dB b)),(22,D.sl false n 1 (map dB b))]⟩,⟨352,352,312,312,.b ⟨(cutG b size chain lazy k).flatMap tokD,119,true⟩⟩] 360⟩] 1000 64 (fun | ⟨i,hi,c,hr,hb,_⟩,Q,next1,last1=>(.s 7 (.br (decide ((↑i:Int) < (↑n:Int))) (fun p0=>have p0f:=aS p0; (.s 5 (.chk (true && decide ((↑i:Int) < (↑n:Int)) && true) (by ((refine aH ?_ ?_) <;> (repeat' (first | (refine aH ?_ ?_) | (with_reducible rfl) | (refine decide_eq_true ?_) | (refine Nat.ble_eq_true_of_le ?_) | (refine et ?_))) <;> (omega))) (.s 2 (.opt ((map dB b)[i * 1]?) (dB (getD b (i * 1) default)) (av _ _ om) (.s 10 (.ow ((↑i:Int) + 1) (.s 16 (.t (decide ((↑i:Int) < (↑n:Int))) p0 (.s 17 (.cl 117 false [] (.fn GC (@Go.Proofs.YtefjnofhgkjpmaaGreat.Vt.FindTok (b) (n) (i) (size) (chain) om om om om om)) (.s 23 (.br (decide (0 < Prod.snd (bestG b i size i chain 0 0))) (fun p1=>have p1f:=aS p1; (.s 7 (.br (lazy) (fun p2=>(.s 6 (.ow ((↑i:Int) + 1) (.s 11 (.t (decide ((↑i:Int) + 1 < (↑n:Int))) (by (refine decide_eq_true ?_;  have h9:=best_bd b i size chain om; omega)) (.s 17 (.cl 117 false [] (.fn GC (@Go.Proofs.YtefjnofhgkjpmaaGreat.Vt.FindTok1 (b) (n) (i) (size) (chain) om om om om om)) (.s 23 (.br (decide (Prod.snd (bestG b (i + 1) size (i + 1) chain 0 0) ≤ Prod.snd (bestG b i size i chain 0 0))) (fun p3=>have p3f:=aS p3; (.s 8 (.op ((↑i:Int) + Prod.snd (bestG b i size i chain 0 0)) Ar (.s 25 (.chk (true && Nat.beq (length c * 3) (length (flatMap tokD c)) && true && true && true && true && Nat.ble ((length c + 1) * 24) 140737488355328) As (.s 7 (.val 6 (iD ((↑i:Int) + Prod.snd (bestG b i size i chain 0 0))) (nD (i + Int.toNat (Prod.snd (bestG b i size i chain 0 0)))) At (.blk 8 8 (Blk.mk [D.ref 1216 1216 0 (length c + 1) 3] 82 false) (Blk.mk [D.ref 1216 1216 0 (length (c ++ [Tok.mk 0 (Prod.fst (bestG b i size i chain 0 0)) (Prod.snd (bestG b i size i chain 0 0))])) 3] 82 false) (by (simp; done)) (.blk 1216 1216 (Blk.mk (flatMap tokD c ++ [bI 0,iD (Prod.fst (bestG b i size i chain 0 0)),iD (Prod.snd (bestG b i size i chain 0 0))]) 119 true) (Blk.mk (flatMap tokD (c ++ [Tok.mk 0 (Prod.fst (bestG b i size i chain 0 0)) (Prod.snd (bestG b i size i chain 0 0))])) 119 true) (by (exact kr rfl)) (Hn.next next1 ⟨(i + (bestG b i size i chain 0 0).2.toNat),Ar,(c ++ [⟨0,(bestG b i size i chain 0 0).1,(bestG b i size i chain 0 0).2⟩]),(by ( have h9:=best_bd b i size chain om; have h8:=uq (size:=size) (chain:=chain) (lazy:=lazy) (i:=i) bt (show i + 1 < b.length by omega); exact qV hr om om om)),Au,⟨⟩⟩ Iw [(0,0),(8,8),(184,184),(192,192),(200,200),(224,224),(288,288),(1216,1216)] ro)))))))))) (fun p3=>have p3f:=aT p3; (.s 21 (.chk (true && Nat.beq (length c * 3) (length (flatMap tokD c)) && true && true && true && true && Nat.ble ((length c + 1) * 24) 140737488355328) As (.s 7 (.val 6 (iD ((↑i:Int) + 1)) (nD (i + 1)) At (.blk 8 8 (Blk.mk [D.ref 1152 1152 0 (length c + 1) 3] 82 false) (Blk.mk [D.ref 1152 1152 0 (length (c ++ [Tok.mk (getD b i default) 0 0])) 3] 82 false) (by (simp; done)) (.blk 1152 1152 (Blk.mk (flatMap tokD c ++ [bN (UInt8.toNat (getD b (i * 1) default)),iD 0,iD 0]) 119 true) (Blk.mk (flatMap tokD (c ++ [Tok.mk (getD b i default) 0 0])) 119 true) (by (refine kr ?_; simp only [Nat.mul_one]; rfl)) (Hn.next next1 ⟨(i + 1),om,(c ++ [⟨b.getD i default,0,0⟩]),(by ( have h9:=best_bd b i size chain om; have h8:=uq (size:=size) (chain:=chain) (lazy:=lazy) (i:=i) bt (show i + 1 < b.length by omega); exact uo hr om om)),Au,⟨⟩⟩ (by show n - (i + 1) < n - i; clear next1 last1; omega) [(0,0),(8,8),(184,184),(192,192),(200,200),(224,224),(288,288),(1152,1152)] ro))))))))))))))))) (fun p2=>(.s 4 (.t (decide (0 ≤ Prod.snd (bestG b i size i chain 0 0))) (by (refine decide_eq_true ?_; (omega))) (.s 8 (.op ((↑i:Int) + Prod.snd (bestG b i size i chain 0 0)) Ar (.s 25 (.chk (true && Nat.beq (length c * 3) (length (flatMap tokD c)) && true && true && true && true && Nat.ble ((length c + 1) * 24) 140737488355328) As (.s 7 (.val 6 (iD ((↑i:Int) + Prod.snd (bestG b i size i chain 0 0))) (nD (i + Int.toNat (Prod.snd (bestG b i size i chain 0 0)))) At (.blk 8 8 (Blk.mk [D.ref 936 936 0 (length c + 1) 3] 82 false) (Blk.mk [D.ref 936 936 0 (length (c ++ [Tok.mk 0 (Prod.fst (bestG b i size i chain 0 0)) (Prod.snd (bestG b i size i chain 0 0))])) 3] 82 false) (by (simp; done)) (.blk 936 936 (Blk.mk (flatMap tokD c ++ [bI 0,iD (Prod.fst (bestG b i size i chain 0 0)),iD (Prod.snd (bestG b i size i chain 0 0))]) 119 true) (Blk.mk (flatMap tokD (c ++ [Tok.mk 0 (Prod.fst (bestG b i size i chain 0 0)) (Prod.snd (bestG b i size i chain 0 0))])) 119 true) (by (exact kr rfl)) (Hn.next next1 ⟨(i + (bestG b i size i chain 0 0).2.toNat),Ar,(c ++ [⟨0,(bestG b i size i chain 0 0).1,(bestG b i size i chain 0 0).2⟩]),(by ( have h9:=best_bd b i size chain om; have h8:=Av (b:=b) (size:=size) (chain:=chain) (lazy:=lazy) (i:=i) (.inl bt); exact qV hr om om om)),Au,⟨⟩⟩ Iw [(0,0),(8,8),(184,184),(192,192),(200,200),(224,224),(288,288),(936,936)] ro))))))))))))))) (fun p1=>have p1f:=aT p1; (.s 21 (.chk (true && Nat.beq (length c * 3) (length (flatMap tokD c)) && true && true && true && true && Nat.ble ((length c + 1) * 24) 140737488355328) As (.s 7 (.val 6 (iD ((↑i:Int) + 1)) (nD (i + 1)) At (.blk 8 8 (Blk.mk [D.ref 824 824 0 (length c + 1) 3] 82 false) (Blk.mk [D.ref 824 824 0 (length (c ++ [Tok.mk (getD b i default) 0 0])) 3] 82 false) (by (simp; done)) (.blk 824 824 (Blk.mk (flatMap tokD c ++ [bN (UInt8.toNat (getD b (i * 1) default)),iD 0,iD 0]) 119 true) (Blk.mk (flatMap tokD (c ++ [Tok.mk (getD b i default) 0 0])) 119 true) (by (refine kr ?_; simp only [Nat.mul_one]; rfl)) (Hn.next next1 ⟨(i + 1),om,(c ++ [⟨b.getD i default,0,0⟩]),(by ( have h9:=best_bd b i size chain om; exact uo hr om om)),Au,⟨⟩⟩ (by show n - (i + 1) < n - i; clear next1 last1; omega) [(0,0),(8,8),(184,184),(192,192),(200,200),(224,224),(288,288),(824,824)] ro))))))))))))))))))))) (fun p0=>have p0f:=aT p0; (.blk 8 8 (Blk.mk [D.ref 352 352 0 (length c) 3] 82 false) (Blk.mk [D.ref 352 352 0 (length (cutG b size chain lazy k)) 3] 82 false) (by ( rw [qT om,List.append_nil] at hr; rw [hr])) (.blk 352 352 (Blk.mk (flatMap tokD c) 119 true) (Blk.mk (flatMap tokD (cutG b size chain lazy k)) 119 true) (by ( rw [qT om,List.append_nil] at hr; rw [hr])) (Hn.last last1 0 (():Unit) rfl [(0,0),(8,8),(184,184),(192,192),(200,200),(224,224),(288,288),(352,352)] ro))))))) (fun | ⟨i,hi,c,hr,hb,_⟩=>by kernel_rfl) ⟨(k),om,([]),(by (simp; done)),(by (simp; done)),⟨⟩⟩ [(0,0),(8,8),(184,184),(192,192),(200,200),(224,224),(288,288),(312,312)] ro (cb (fun | ()=>(.s 9 (.out [352] [352] (D.tup [D.ref 0 0 0 (length (cutG b size chain lazy k)) 3,iD 0]) [Blk.mk (flatMap tokD (cutG b size chain lazy k)) 119 true] R (ok _ _ wr wr))))))))))))))) (by kernel_rfl)
end Vt
end Go.Proofs.YtefjnofhgkjpmaaGreat
namespace Go.Proofs.YtefjnofhgkjpmaaGreat
open Go.RowKit Go.Bw Go.Vx
open List (length getD map take drop flatMap replicate)
namespace Vp
theorem Aw {p:Prop} (h:p:=by (refine aO ?_; (omega))):p:=h
theorem Ax {p:Prop} (h:p:=by (refine decide_eq_true ?_;  have h9:=hl i; unfold me at h9; have h8:=E8 (l.getD i default).lit; omega)):p:=h
theorem Fj {p:Prop} (h:p:=by (refine decide_eq_false ?_; (omega))):p:=h
theorem Fk {p:Prop} (h:p:=by ( have h9:=hl i; unfold me at h9; have h8:=E8 (l.getD i default).lit; rcases h9 with h9 | h9 <;> omega)):p:=h
theorem Fl {p:Prop} (h:p:=by show k - (i + 1) < k - i; clear next1 last1; omega):p:=h
theorem I1 {p:Prop} (h:p:=by ((refine aH ?_ ?_) <;> (repeat' (first | (refine aH ?_ ?_) | (with_reducible rfl) | (refine decide_eq_true ?_) | (refine Nat.ble_eq_true_of_le ?_) | (refine et ?_))) <;> (omega))):p:=h
theorem KG {p:Prop} (h:p:=by (rw [ci]; refine Nat.ble_eq_true_of_le ?_; (omega))):p:=h
theorem KH {p:Prop} (h:p:=by (refine decide_eq_true ?_; (omega))):p:=h
theorem KI {p:Prop} (h:p:=by ( have h9:=hl i; unfold me at h9; have h8:=E8 (l.getD i default).lit; rcases h9 with h9 | h9 <;> (try have h7:=h8.1 h9.1) <;> omega)):p:=h
theorem E6 (nn1 nn2:Bool) (X Y:List UInt8) (a b:Nat) (ha:a = X.length) (hb:b = Y.length) (ha2:a ≤ 10000000) (hb2:b ≤ 10000000):SpecH false Tryz.prog 68 [.sl false 2 1 [.sl nn1 a 1 (X.map dB),.sl nn2 b 1 (Y.map dB)]] [] (.ref 0 0 0 (a + b) 1) [⟨(X ++ Y).map dB, 5, true⟩]:=by
 refine SpecH.run T_ok ah Tryz.func68 rfl rfl rfl ⟨aV _,trivial⟩ rfl 1000 64 (fun R ok=>(.s 20 (.ow (0 + (↑a:Int)) (.s 23 (.ow (0 + (↑a:Int) + (↑b:Int)) (.s 30 (.ow (0 + (↑a:Int) + (↑b:Int) - 0) (.s 4 (.br (decide (0 < 0 + (↑a:Int) + (↑b:Int) - 0)) (fun p0=>have p0f:=aS p0; (.s 7 (.chk (decide (0 < 0 + (↑a:Int) + (↑b:Int) - 0) && true && Nat.ble (Int.toNat (0 + (↑a:Int) + (↑b:Int) - 0)) 140737488355328 && Nat.ble (Int.toNat (0 + (↑a:Int) + (↑b:Int) - 0) * 1) 140737488355328) I1 (.s 3 (.chk (aL none (some 0) none (Int.toNat (0 + (↑a:Int) + (↑b:Int) - 0)) && true) (by (simp; done)) (.s 20 (.chk (true && Nat.ble ((0 + a) * 1) 140737488355328) (by (refine Nat.ble_eq_true_of_le ?_; (omega))) (.s 17 (.chk (true && Nat.beq ((0 + a) * 1) (length (map dB X)) && true && true && true && true && Nat.ble ((0 + a + b) * 1) 140737488355328) (by (simp <;> (omega))) (.s 10 (.out [648] [648] (D.ref 0 0 0 (0 + a + b) 1) [Blk.mk (map dB X ++ map dB Y) 5 true] R (ok _ _ (by (simp; done)) (by (simp; done)))))))))))))) (fun p0=>have p0f:=aT p0; (.s 19 (.chk (true && Nat.ble ((0 + a) * 1) 140737488355328) (by (refine Nat.ble_eq_true_of_le ?_; (omega))) (.s 17 (.chk (true && Nat.beq (a * 1) (length (map dB X)) && true && true && true && true && Nat.ble ((a + b) * 1) 140737488355328) (by (simp <;> (omega))) (.s 10 (.out [568] [568] (D.ref 0 0 0 (a + b) 1) [Blk.mk (map dB X ++ map dB Y) 5 true] R (ok _ _ wr (by (simp; done))))))))))))))))))) (by kernel_rfl)
theorem Ix (l:List Bool) (m:Nat) (hm:m = (pk l).length) (hl:l.length ≤ 8388608):SpecH false Tryz.prog 52 [yw m l] [] (.tup [.agg [.ref 0 0 0 m 1,nD (8 * m)],iD 0]) [⟨(pk l).map dB, 5, true⟩]:=by
 have h9:=ac l
 refine SpecH.run T_ok ah Tryz.func52 rfl rfl rfl ⟨aV _,trivial⟩ rfl 1000 64 (fun R ok=>(.s 10 (.cl 43 false [] (.fn DU (@ly (l) (m) om om)) (.s 13 (.cl 56 false [] (.fn qb (@bP (pk l) (m) om om)) (.s 9 (.ow (8 * (↑m:Int)) (.s 9 (.out [80] [80] (D.tup [D.agg [D.ref 0 0 0 m 1,iD (8 * (↑m:Int))],iD 0]) [Blk.mk (map dB (pk l)) 5 true] R (ok _ _ (by (simp; done)) wr)))))))))) (by kernel_rfl)
def me (t:Tn):Prop:=(t.long = 0 ∧ t.dist = 0) ∨ (t.lit = 0 ∧ 3 ≤ t.long ∧ t.long ≤ 258 ∧ 1 ≤ t.dist ∧ t.dist ≤ 32768)
theorem me.may {t:Tn} (h:me t):dq t:=by
 rcases h with h | h
 ·exact .inl h.1
 ·exact .inr h.2
def yk (t:Vt.Tok):Tn:=⟨t.lit,t.dist.toNat,t.long.toNat⟩
structure TokK (t:Vt.Tok):Prop where
 d:0 ≤ t.dist
 l:0 ≤ t.long
 ok:me (yk t)
theorem Ay {b:List UInt8} {sz ch:Nat} {lz:Bool} {i:Nat} (hs:sz ≤ 32768) (hi:i < b.length):TokK (Vt.tokAt b (sz:Int) (ch:Int) lz i):=by
 have h:=Vt.best_bd b i (sz:Int) (ch:Int) (by omega)
 unfold Vt.tokAt
 split
 ·exact ⟨Int.le_refl _,Int.le_refl _,.inl ⟨rfl,rfl⟩⟩
 ·next q =>
  have h2:=h.2.2.2.2.2.2 (fun e=>q (.inl e))
  refine ⟨h.2.2.2.1,h.1,.inr ⟨rfl,?_⟩⟩
  show 3 ≤ (Vm.bestG b i (sz:Int) i (ch:Int) 0 0).2.toNat ∧ (Vm.bestG b i (sz:Int) i (ch:Int) 0 0).2.toNat ≤ 258 ∧ 1 ≤ (Vm.bestG b i (sz:Int) i (ch:Int) 0 0).1.toNat ∧ (Vm.bestG b i (sz:Int) i (ch:Int) 0 0).1.toNat ≤ 32768
  omega
theorem sq {b:List UInt8} {sz ch:Nat} {lz:Bool} (hs:sz ≤ 32768):∀ (k i:Nat),∀ t ∈ Vt.cutK b (sz:Int) (ch:Int) lz k i,TokK t
 | 0,_=>fun t ht=>absurd ht List.not_mem_nil
 | k + 1,i=>fun t ht=>by
  rw [Vt.cutK] at ht
  split at ht
  ·next q =>
   rcases List.mem_cons.1 ht with e | e
   ·subst e; exact Ay hs q
   ·exact sq hs k _ t e
  ·exact absurd ht List.not_mem_nil
def C5 (b:List UInt8) (q sz ch:Nat) (lz:Bool):List Tn:=lk b ((Vt.cutG b (sz:Int) (ch:Int) lz q).map yk)
theorem oX (b:List UInt8) (q sz ch:Nat) (lz:Bool):C5 b q sz ch lz = (Vt.cutG b (sz:Int) (ch:Int) lz q).map yk:=aF _ _
theorem Az (b:List UInt8) (q sz ch:Nat) (lz:Bool):(C5 b q sz ch lz).length ≤ b.length - q:=by
 rw [oX,List.length_map]; exact Vt.cutG_len _ _ _ _ _
theorem ym:∀ l:List Vt.Tok,(∀ t ∈ l,TokK t) → l.flatMap Vt.tokD = (l.map yk).flatMap a9
 | [],_=>rfl
 | t :: r,h=>by
  have h1:=h t List.mem_cons_self
  have e:Vt.tokD t = a9 (yk t):=by
   show [dB t.lit,D.v (.int .i64 t.dist),D.v (.int .i64 t.long)] = [dB t.lit,D.v (.int .i64 ((t.dist.toNat:Nat):Int)),D.v (.int .i64 ((t.long.toNat:Nat):Int))]
   rw [Int.toNat_of_nonneg h1.d,Int.toNat_of_nonneg h1.l]
  rw [List.map_cons,List.flatMap_cons,List.flatMap_cons,e,ym r fun t ht=>h t (List.mem_cons_of_mem _ ht)]
theorem E7 {b:List UInt8} {q sz ch:Nat} {lz:Bool} (hs:sz ≤ 32768):(Vt.cutG b (sz:Int) (ch:Int) lz q).flatMap Vt.tokD = (C5 b q sz ch lz).flatMap a9:=by
 rw [oX]; exact ym _ (sq hs _ _)
theorem gH {b:List UInt8} {q sz ch:Nat} {lz:Bool} (hs:sz ≤ 32768) (i:Nat):me ((C5 b q sz ch lz).getD i default):=by
 rw [oX,List.getD_eq_getElem?_getD,List.getElem?_map]
 cases h:(Vt.cutG b (sz:Int) (ch:Int) lz q)[i]? with
 | none=>exact .inl ⟨rfl,rfl⟩
 | some t=>exact (sq hs _ _ t (List.mem_of_getElem? h)).ok
abbrev KJ (sz ch mo:Nat) (lz:Bool):D:=.agg [nD sz,nD ch,nD mo,bD lz]
theorem Iy (b:List UInt8) (n q:Nat) (hn:n = b.length) (hN:n ≤ 131072) (hq:q ≤ n) (sz ch mo:Nat) (lz:Bool) (hs:1 ≤ sz ∧ sz ≤ 32768) (hc:ch ≤ 256) (hm:1 ≤ mo ∧ mo ≤ 65535) (T:List Tn) (hT:C5 b q sz ch lz = T):SpecH false Tryz.prog 67 [.sl false n 1 (b.map dB),nD q,KJ sz ch mo lz] [] (.tup [.ref 0 0 0 T.length 3,iD 0]) [⟨T.flatMap a9, 119, true⟩]:=by
 subst hT
 have h:=Vt.Cut_ok b n (sz:Int) (ch:Int) (mo:Int) (q:Int) lz hn (by omega) (by omega) (Vt.mayS_iff.2 (by omega)) (by omega)
 rw [Int.toNat_natCast,E7 hs.2,show (Vt.cutG b (sz:Int) (ch:Int) lz q).length = (C5 b q sz ch lz).length from by rw [oX,List.length_map]] at h
 exact h
theorem E8 (x:UInt8):(x = 0 → ((x.toNat:Nat):Int) = 0) ∧ x.toNat < 256:=⟨fun h=>by rw [h]; rfl,x.toNat_lt⟩
theorem AA (l:List Tn) (k:Nat) (hk:k = l.length) (hk2:k ≤ 65535) (hl:∀ i,me (l.getD i default)) (raw:List UInt8) (r:Nat) (hr:r = raw.length) (hr2:r ≤ 65535):SpecH false Tryz.prog 64 [bN 0,.sl false r 1 (raw.map dB),.sl false k 3 (l.flatMap a9)] [] (iD 0) []:=by
 refine SpecH.run T_ok ah Tryz.func64 rfl rfl rfl trivial rfl 1000 64 (fun R ok=>(.s 11 (.f (decide (65535 < (↑r:Int))) Fj (.s 6 (.f (decide (65535 < (↑k:Int))) Fj (.s 12 (Hn.inl T_ok ah false 19 136 (aA Tryz.prog 103 0) (fun (x:(i:Nat) ×' (hi:i ≤ k) ×' Unit)=>match x with | ⟨i,hi,_⟩=>CutS.mk [(0,D.sl false k 3 (flatMap a9 l)),(1,D.fn (Fn.func 83) [] []),(7,nD k),(8,nD i)] [] 136) (fun (x:(i:Nat) ×' (hi:i ≤ k) ×' Unit)=>match x with | ⟨i,hi,_⟩=>k - i) [⟨Unit,.exit 0,fun x=>match x with | ()=>CutS.mk [(0,D.sl false k 3 (flatMap a9 l)),(1,D.fn (Fn.func 83) [] []),(7,nD k),(8,nD k)] [] 136⟩] 1000 64 (fun | ⟨i,hi,_⟩,Q,next1,last1=>(.s 2 (.br (decide ((↑i:Int) < (↑k:Int))) (fun p0=>have p0f:=aS p0; (.s 6 (.chk (true && decide ((↑i:Int) < (↑k:Int)) && true) I1 (.s 2 (.chk (Nat.ble (i * 3 + 3) (length (flatMap a9 l))) KG (.lst (take 3 (drop (i * 3) (flatMap a9 l))) ([bN (UInt8.toNat (Tn.lit (getD l i default))),nD (Tn.dist (getD l i default)),nD (Tn.long (getD l i default))]) (aD (k:=3) (i:=i) (fun _=>rfl) om om) (.s 42 (.br (!decide (0 < (↑(Tn.long (getD l i default)):Int))) (fun p1=>have p1f:=aT (cY p1); (.s 10 (.t ((↑(Tn.long (getD l i default)):Int) == 0) KH (.s 12 (.br (!(↑(Tn.dist (getD l i default)):Int) == 0) (fun p2=>have p2f:=au (cY p2); (.abs Fk)) (fun p2=>have p2f:=eq_of_beq (cZ p2); (.s 7 (.ow ((↑i:Int) + 1) (.s 1 (.val 8 (iD ((↑i:Int) + 1)) (nD (i + 1)) Aw (Hn.next next1 ⟨(i + 1),om,⟨⟩⟩ Fl [] ro))))))))))) (fun p1=>have p1f:=aS (cZ p1); (.s 10 (.br ((↑(UInt8.toNat (Tn.lit (getD l i default))):Int) == 0) (fun p3=>have p3f:=eq_of_beq p3; (.s 12 (.t (decide (3 ≤ (↑(Tn.long (getD l i default)):Int))) Ax (.s 12 (.t (decide ((↑(Tn.long (getD l i default)):Int) ≤ 258)) Ax (.s 12 (.t (decide (1 ≤ (↑(Tn.dist (getD l i default)):Int))) Ax (.s 12 (.br (!decide ((↑(Tn.dist (getD l i default)):Int) ≤ 32768)) (fun p4=>have p4f:=aT (cY p4); (.abs Fk)) (fun p4=>have p4f:=aS (cZ p4); (.s 7 (.ow ((↑i:Int) + 1) (.s 1 (.val 8 (iD ((↑i:Int) + 1)) (nD (i + 1)) Aw (Hn.next next1 ⟨(i + 1),om,⟨⟩⟩ Fl [] ro))))))))))))))) (fun p3=>have p3f:=au p3; (.abs KI))))))))))))) (fun p0=>have p0f:=aT p0; (.val 8 (nD i) (nD k) Aw (Hn.last last1 0 (():Unit) rfl [] ro)))))) (fun | ⟨i,hi,_⟩=>by kernel_rfl) ⟨(0),om,⟨⟩⟩ [] ro (cb (fun | ()=>(.s 6 (.out [] [] (iD 0) [] R (ok _ _ wr wr)))))))))))) (by kernel_rfl)
theorem AB (l:List Tn) (k:Nat) (hk:k = l.length) (hk2:k ≤ 65535) (hl:∀ i,me (l.getD i default)) (raw:List UInt8) (r:Nat) (hr:r = raw.length) (hr2:r ≤ 65535):SpecH false Tryz.prog 64 [bN 1,.sl false r 1 (raw.map dB),.sl false k 3 (l.flatMap a9)] [] (iD 0) []:=by
 refine SpecH.run T_ok ah Tryz.func64 rfl rfl rfl trivial rfl 1000 64 (fun R ok=>(.s 11 (.f (decide (65535 < (↑r:Int))) Fj (.s 6 (.f (decide (65535 < (↑k:Int))) Fj (.s 12 (Hn.inl T_ok ah false 19 136 (aA Tryz.prog 103 0) (fun (x:(i:Nat) ×' (hi:i ≤ k) ×' Unit)=>match x with | ⟨i,hi,_⟩=>CutS.mk [(0,D.sl false k 3 (flatMap a9 l)),(1,D.fn (Fn.func 83) [] []),(7,nD k),(8,nD i)] [] 136) (fun (x:(i:Nat) ×' (hi:i ≤ k) ×' Unit)=>match x with | ⟨i,hi,_⟩=>k - i) [⟨Unit,.exit 0,fun x=>match x with | ()=>CutS.mk [(0,D.sl false k 3 (flatMap a9 l)),(1,D.fn (Fn.func 83) [] []),(7,nD k),(8,nD k)] [] 136⟩] 1000 64 (fun | ⟨i,hi,_⟩,Q,next1,last1=>(.s 2 (.br (decide ((↑i:Int) < (↑k:Int))) (fun p0=>have p0f:=aS p0; (.s 6 (.chk (true && decide ((↑i:Int) < (↑k:Int)) && true) I1 (.s 2 (.chk (Nat.ble (i * 3 + 3) (length (flatMap a9 l))) KG (.lst (take 3 (drop (i * 3) (flatMap a9 l))) ([bN (UInt8.toNat (Tn.lit (getD l i default))),nD (Tn.dist (getD l i default)),nD (Tn.long (getD l i default))]) (aD (k:=3) (i:=i) (fun _=>rfl) om om) (.s 42 (.br (!decide (0 < (↑(Tn.long (getD l i default)):Int))) (fun p1=>have p1f:=aT (cY p1); (.s 10 (.t ((↑(Tn.long (getD l i default)):Int) == 0) KH (.s 12 (.br (!(↑(Tn.dist (getD l i default)):Int) == 0) (fun p2=>have p2f:=au (cY p2); (.abs Fk)) (fun p2=>have p2f:=eq_of_beq (cZ p2); (.s 7 (.ow ((↑i:Int) + 1) (.s 1 (.val 8 (iD ((↑i:Int) + 1)) (nD (i + 1)) Aw (Hn.next next1 ⟨(i + 1),om,⟨⟩⟩ Fl [] ro))))))))))) (fun p1=>have p1f:=aS (cZ p1); (.s 10 (.br ((↑(UInt8.toNat (Tn.lit (getD l i default))):Int) == 0) (fun p3=>have p3f:=eq_of_beq p3; (.s 12 (.t (decide (3 ≤ (↑(Tn.long (getD l i default)):Int))) Ax (.s 12 (.t (decide ((↑(Tn.long (getD l i default)):Int) ≤ 258)) Ax (.s 12 (.t (decide (1 ≤ (↑(Tn.dist (getD l i default)):Int))) Ax (.s 12 (.br (!decide ((↑(Tn.dist (getD l i default)):Int) ≤ 32768)) (fun p4=>have p4f:=aT (cY p4); (.abs Fk)) (fun p4=>have p4f:=aS (cZ p4); (.s 7 (.ow ((↑i:Int) + 1) (.s 1 (.val 8 (iD ((↑i:Int) + 1)) (nD (i + 1)) Aw (Hn.next next1 ⟨(i + 1),om,⟨⟩⟩ Fl [] ro))))))))))))))) (fun p3=>have p3f:=au p3; (.abs KI))))))))))))) (fun p0=>have p0f:=aT p0; (.val 8 (nD i) (nD k) Aw (Hn.last last1 0 (():Unit) rfl [] ro)))))) (fun | ⟨i,hi,_⟩=>by kernel_rfl) ⟨(0),om,⟨⟩⟩ [] ro (cb (fun | ()=>(.s 6 (.out [] [] (iD 0) [] R (ok _ _ wr wr)))))))))))) (by kernel_rfl)
theorem AC (l:List Tn) (k:Nat) (hk:k = l.length) (hk2:k ≤ 65535) (hl:∀ i,me (l.getD i default)) (raw:List UInt8) (r:Nat) (hr:r = raw.length) (hr2:r ≤ 65535):SpecH false Tryz.prog 64 [bN 2,.sl false r 1 (raw.map dB),.sl false k 3 (l.flatMap a9)] [] (iD 0) []:=by
 refine SpecH.run T_ok ah Tryz.func64 rfl rfl rfl trivial rfl 1000 64 (fun R ok=>(.s 11 (.f (decide (65535 < (↑r:Int))) Fj (.s 6 (.f (decide (65535 < (↑k:Int))) Fj (.s 12 (Hn.inl T_ok ah false 19 136 (aA Tryz.prog 103 0) (fun (x:(i:Nat) ×' (hi:i ≤ k) ×' Unit)=>match x with | ⟨i,hi,_⟩=>CutS.mk [(0,D.sl false k 3 (flatMap a9 l)),(1,D.fn (Fn.func 83) [] []),(7,nD k),(8,nD i)] [] 136) (fun (x:(i:Nat) ×' (hi:i ≤ k) ×' Unit)=>match x with | ⟨i,hi,_⟩=>k - i) [⟨Unit,.exit 0,fun x=>match x with | ()=>CutS.mk [(0,D.sl false k 3 (flatMap a9 l)),(1,D.fn (Fn.func 83) [] []),(7,nD k),(8,nD k)] [] 136⟩] 1000 64 (fun | ⟨i,hi,_⟩,Q,next1,last1=>(.s 2 (.br (decide ((↑i:Int) < (↑k:Int))) (fun p0=>have p0f:=aS p0; (.s 6 (.chk (true && decide ((↑i:Int) < (↑k:Int)) && true) I1 (.s 2 (.chk (Nat.ble (i * 3 + 3) (length (flatMap a9 l))) KG (.lst (take 3 (drop (i * 3) (flatMap a9 l))) ([bN (UInt8.toNat (Tn.lit (getD l i default))),nD (Tn.dist (getD l i default)),nD (Tn.long (getD l i default))]) (aD (k:=3) (i:=i) (fun _=>rfl) om om) (.s 42 (.br (!decide (0 < (↑(Tn.long (getD l i default)):Int))) (fun p1=>have p1f:=aT (cY p1); (.s 10 (.t ((↑(Tn.long (getD l i default)):Int) == 0) KH (.s 12 (.br (!(↑(Tn.dist (getD l i default)):Int) == 0) (fun p2=>have p2f:=au (cY p2); (.abs Fk)) (fun p2=>have p2f:=eq_of_beq (cZ p2); (.s 7 (.ow ((↑i:Int) + 1) (.s 1 (.val 8 (iD ((↑i:Int) + 1)) (nD (i + 1)) Aw (Hn.next next1 ⟨(i + 1),om,⟨⟩⟩ Fl [] ro))))))))))) (fun p1=>have p1f:=aS (cZ p1); (.s 10 (.br ((↑(UInt8.toNat (Tn.lit (getD l i default))):Int) == 0) (fun p3=>have p3f:=eq_of_beq p3; (.s 12 (.t (decide (3 ≤ (↑(Tn.long (getD l i default)):Int))) Ax (.s 12 (.t (decide ((↑(Tn.long (getD l i default)):Int) ≤ 258)) Ax (.s 12 (.t (decide (1 ≤ (↑(Tn.dist (getD l i default)):Int))) Ax (.s 12 (.br (!decide ((↑(Tn.dist (getD l i default)):Int) ≤ 32768)) (fun p4=>have p4f:=aT (cY p4); (.abs Fk)) (fun p4=>have p4f:=aS (cZ p4); (.s 7 (.ow ((↑i:Int) + 1) (.s 1 (.val 8 (iD ((↑i:Int) + 1)) (nD (i + 1)) Aw (Hn.next next1 ⟨(i + 1),om,⟨⟩⟩ Fl [] ro))))))))))))))) (fun p3=>have p3f:=au p3; (.abs KI))))))))))))) (fun p0=>have p0f:=aT p0; (.val 8 (nD i) (nD k) Aw (Hn.last last1 0 (():Unit) rfl [] ro)))))) (fun | ⟨i,hi,_⟩=>by kernel_rfl) ⟨(0),om,⟨⟩⟩ [] ro (cb (fun | ()=>(.s 6 (.out [] [] (iD 0) [] R (ok _ _ wr wr)))))))))))) (by kernel_rfl)
end Vp
end Go.Proofs.YtefjnofhgkjpmaaGreat

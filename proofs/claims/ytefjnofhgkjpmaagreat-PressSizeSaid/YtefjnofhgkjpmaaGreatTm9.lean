/- Part 9. -/
import Derived.Test.YtefjnofhgkjpmaaGreatTm5
import Derived.Test.YtefjnofhgkjpmaaGreatTm8
set_option linter.unusedVariables false
set_option linter.unusedSimpArgs false
set_option maxRecDepth 100000
set_option maxHeartbeats 4000000
open And renaming intro → Mi
open Go.Fn renaming func → MG
open Go.IntKind renaming i64 → Mk
open Go.LoopState renaming ready → Oh
open Inhabited renaming default → ji
open Int renaming eq_ofNat_of_zero_le → M2, natCast_nonneg → Od, toNat → u7, toNat_natCast → Nq, toNat_of_nonneg → Nn
open List renaming append_assoc → Mu, append_nil → MU, drop → MI, drop_drop → Ps, flatMap_cons → M6, length_append → L6, length_cons → Mx, length_drop → Ms, length_map → Mg, length_singleton → MN, length_take → Mc, map_cons → NL, mem_cons_of_mem → Mn, mem_cons_self → Mp, not_mem_nil → N5, take → ME
open Nat renaming beq → L2, ble → L5, ble_eq_true_of_le → L9, min_eq_left → Pn, mul_one → My, not_lt_zero → Nc
open Prod renaming fst → Mq, snd → Mb
open UInt8 renaming toNat → L4
namespace Go.Proofs.YtefjnofhgkjpmaaGreat
open Go.RowKit Go.Bw Go.Vx
open List (length getD map take drop flatMap replicate)
namespace Vm
theorem jW {p:Prop} (h:p:=by ( have h9:=fy (take (((k:Int) + 2).toNat - (max 0 (q - size)).toNat) (drop (max 0 (q - size)).toNat b)) (take ((q + 3).toNat - q.toNat) (drop q.toNat b)) (((k:Int) + 2).toNat - (max 0 (q - size)).toNat - 2); omega)):p:=h
theorem vq {p:Prop} (h:p:=by (refine aO ?_; (omega))):p:=h
theorem vr {p:Prop} (h:p:=by (exact Fa (by (omega)) (by (omega)))):p:=h
theorem E6 {p:Prop} (h:p:=by show k - 1 < k; clear next1 last1; omega):p:=h
theorem E7 {p:Prop} (h:p:=by (exact aO (sC (qS hg (by (omega)))))):p:=h
theorem E8 {p:Prop} (h:p:=by (exact aO (sD (qS hg (by (omega)))))):p:=h
theorem IK {p:Prop} (h:p:=by show u7 (max 0 (q - size) + aq (take (u7 ((k:Int) + 2) - u7 (max 0 (q - size))) (drop (u7 (max 0 (q - size))) b)) (take (u7 (q + 3) - u7 q) (drop (u7 q) b)) (u7 ((k:Int) + 2) - u7 (max 0 (q - size)) - 2)) < k; clear next1 last1; ( have h9:=fy (take (((k:Int) + 2).toNat - (max 0 (q - size)).toNat) (drop (max 0 (q - size)).toNat b)) (take ((q + 3).toNat - q.toNat) (drop q.toNat b)) (((k:Int) + 2).toNat - (max 0 (q - size)).toNat - 2); omega)):p:=h
def bestG (b:List UInt8) (i:Nat) (size:Int):Nat → Int → Int → Int → Int × Int
 | 0,_,d,l=>(d,l)
 | k + 1,c,d,l =>
  if (i:Int) - k ≤ size ∧ 0 < c then
   if same b i k 258 < 3 then bestG b i size k c d l
   else if l < same b i k 258 then bestG b i size k (c - 1) ((i:Int) - k) (same b i k 258:Nat)
   else bestG b i size k (c - 1) d l
  else (d,l)
theorem i5 (b:List UInt8) (i j:Nat):same b i j 258 ≤ 258:=uA b 258 i j
theorem yo {b:List UInt8} {i k:Nat}:((same b i (((k + 1:Nat):Int) - 1).toNat 258:Nat):Int) = (same b i k 258:Nat):=by
 rw [show (((k + 1:Nat):Int) - 1).toNat = k from by omega]
theorem vt {b:List UInt8} {i k:Nat} {size c d l:Int} {a:Int × Int} (hg:a = bestG b i size k c d l) (h0:0 < k) (h1:(i:Int) - ((k:Int) - 1) ≤ size) (hc:0 < c) (e:((same b i ((k:Int) - 1).toNat 258:Nat):Int) < 3):a = bestG b i size (k - 1) c d l:=by
 obtain ⟨m,rfl⟩:∃ m,k = m + 1:=⟨k - 1,by omega⟩
 rw [yo] at e
 rw [hg,bestG,if_pos ⟨by omega,hc⟩,if_pos (by omega)]; rfl
theorem yp {b:List UInt8} {i k:Nat} {size c d l:Int} {a:Int × Int} (hg:a = bestG b i size k c d l) (h0:0 < k) (h1:(i:Int) - ((k:Int) - 1) ≤ size) (hc:0 < c) (e:¬ ((same b i ((k:Int) - 1).toNat 258:Nat):Int) < 3) (f:l < ((same b i ((k:Int) - 1).toNat 258:Nat):Int)):a = bestG b i size (k - 1) (c - 1) ((i:Int) - ((k:Int) - 1)) ((same b i ((k:Int) - 1).toNat 258:Nat):Int):=by
 obtain ⟨m,rfl⟩:∃ m,k = m + 1:=⟨k - 1,by omega⟩
 rw [yo] at e f ⊢
 rw [hg,bestG,if_pos ⟨by omega,hc⟩,if_neg (by omega),if_pos f,show (((m + 1:Nat):Int) - 1) = (m:Int) from by omega]; rfl
theorem yq {b:List UInt8} {i k:Nat} {size c d l:Int} {a:Int × Int} (hg:a = bestG b i size k c d l) (h0:0 < k) (h1:(i:Int) - ((k:Int) - 1) ≤ size) (hc:0 < c) (e:¬ ((same b i ((k:Int) - 1).toNat 258:Nat):Int) < 3) (f:¬ l < ((same b i ((k:Int) - 1).toNat 258:Nat):Int)):a = bestG b i size (k - 1) (c - 1) d l:=by
 obtain ⟨m,rfl⟩:∃ m,k = m + 1:=⟨k - 1,by omega⟩
 rw [yo] at e f
 rw [hg,bestG,if_pos ⟨by omega,hc⟩,if_neg (by omega),if_neg f]; rfl
theorem qS {b:List UInt8} {i k:Nat} {size c d l:Int} {a:Int × Int} (hg:a = bestG b i size k c d l) (h:k = 0 ∨ ¬ (i:Int) - ((k:Int) - 1) ≤ size ∨ ¬ 0 < c):a = (d,l):=by
 rw [hg]
 cases k with
 | zero=>rfl
 | succ m=>rw [bestG,if_neg (by omega)]
theorem sC {x:Int × Int} {d l:Int} (h:x = (d,l)):d = x.1:=by rw [h]
theorem sD {x:Int × Int} {d l:Int} (h:x = (d,l)):l = x.2:=by rw [h]
theorem L0 (b:List UInt8) (n i:Nat) (size chain:Int) (hn:n = b.length) (hN:n ≤ 1000000) (hi:i ≤ n) (hs:1 ≤ size ∧ size ≤ 32768) (hc:0 ≤ chain ∧ chain ≤ 256):SpecH false Tryz.prog 97 [.sl false n 1 (b.map dB),iD i,iD size,iD chain] [] (.tup [iD (bestG b i size i chain 0 0).1,iD (bestG b i size i chain 0 0).2]) []:=by
 have hS:=i5 b
 refine SpecH.run T_ok ai Tryz.func97 rfl rfl rfl trivial rfl 1000 64 (fun R ok=>(.s 7 (.ow ((i:Int) - 1) (.s 1 (Hn.inl T_ok ai false 48 0 (ay Tryz.prog 97 0) (fun (x:(k:Nat) ×' (hk:k ≤ i) ×' (c:Int) ×' (d:Int) ×' (l:Int) ×' (hc2:0 ≤ c ∧ c ≤ 256) ×' (hd:0 ≤ d ∧ d ≤ 1000000) ×' (hl:0 ≤ l ∧ l ≤ 258) ×' (hg:bestG b i size i chain 0 0 = bestG b i size k c d l) ×' Unit)=>match x with | ⟨k,hk,c,d,l,hc2,hd,hl,hg,_⟩=>CutS.mk [(0,D.sl false n 1 (map dB b)),(1,zN i),(2,zI size),(3,iD c),(10,iD d),(11,iD l),(12,iD ((k:Int) - 1))] [] 0) (fun (x:(k:Nat) ×' (hk:k ≤ i) ×' (c:Int) ×' (d:Int) ×' (l:Int) ×' (hc2:0 ≤ c ∧ c ≤ 256) ×' (hd:0 ≤ d ∧ d ≤ 1000000) ×' (hl:0 ≤ l ∧ l ≤ 258) ×' (hg:bestG b i size i chain 0 0 = bestG b i size k c d l) ×' Unit)=>match x with | ⟨k,hk,c,d,l,hc2,hd,hl,hg,_⟩=>k) [⟨Unit,.exit 0,fun x=>match x with | ()=>CutS.mk [(0,D.sl false n 1 (map dB b)),(1,zN i),(2,zI size),(10,iD (bestG b i size i chain 0 0).1),(11,iD (bestG b i size i chain 0 0).2)] [] 0⟩] 1000 64 (fun | ⟨k,hk,c,d,l,hc2,hd,hl,hg,_⟩,Q,next1,last1=>(.s 5 (.br (decide (0 ≤ (k:Int) - 1)) (fun p0=>have p0f:=ba p0; (.s 5 (.ow ((i:Int) - ((k:Int) - 1)) (.s 8 (.br (decide ((i:Int) - ((k:Int) - 1) ≤ size)) (fun p1=>have p1f:=ba p1; (.s 4 (.br (decide (0 < c)) (fun p2=>have p2f:=ba p2; (.s 4 (.cl 128 false [] (.fn JN (@Go.Proofs.YtefjnofhgkjpmaaGreat.Vm.SameX (b) (n) ((i:Int)) ((k:Int) - 1) om om om om om)) (.s 4 (.br (decide ((↑(same b (u7 (i:Int)) (u7 ((k:Int) - 1)) 258):Int) < 3)) (fun p3=>have p3f:=ba p3; (.s 3 (.ow ((k:Int) - 1 - 1) (.s 1 (.val 12 (zI ((k:Int) - 1 - 1)) (zI ((↑(k - 1):Int) - 1)) vq (Hn.next next1 ⟨(k - 1),om,(c),(d),(l),om,om,om,(by ( have h8:same b (i:Int).toNat ((k:Int) - 1).toNat 258 = same b i ((k:Int) - 1).toNat 258:=rfl; have h9:=hS i ((k:Int) - 1).toNat; exact vt hg om om om om)),⟨⟩⟩ E6 [] ro)))))) (fun p3=>have p3f:=bb p3; (.s 3 (.ow (c - 1) (.s 5 (.br (decide (l < (↑(same b i (u7 ((k:Int) - 1)) 258):Int))) (fun p4=>have p4f:=ba p4; (.s 4 (.ow ((i:Int) - ((k:Int) - 1)) (.s 6 (.ow ((k:Int) - 1 - 1) (.s 1 (.val 12 (zI ((k:Int) - 1 - 1)) (zI ((↑(k - 1):Int) - 1)) vq (Hn.next next1 ⟨(k - 1),om,(c - 1),((i:Int) - ((k:Int) - 1)),(((same b i ((k:Int) - 1).toNat 258:Nat):Int)),om,om,(by ( have h8:same b (i:Int).toNat ((k:Int) - 1).toNat 258 = same b i ((k:Int) - 1).toNat 258:=rfl; have h9:=hS i ((k:Int) - 1).toNat; omega)),(by ( have h8:same b (i:Int).toNat ((k:Int) - 1).toNat 258 = same b i ((k:Int) - 1).toNat 258:=rfl; have h9:=hS i ((k:Int) - 1).toNat; exact yp hg om om om om om)),⟨⟩⟩ E6 [] ro)))))))) (fun p4=>have p4f:=bb p4; (.s 3 (.ow ((k:Int) - 1 - 1) (.s 1 (.val 12 (zI ((k:Int) - 1 - 1)) (zI ((↑(k - 1):Int) - 1)) vq (Hn.next next1 ⟨(k - 1),om,(c - 1),(d),(l),om,om,om,(by ( have h8:same b (i:Int).toNat ((k:Int) - 1).toNat 258 = same b i ((k:Int) - 1).toNat 258:=rfl; have h9:=hS i ((k:Int) - 1).toNat; exact yq hg om om om om om)),⟨⟩⟩ E6 [] ro)))))))))))))))) (fun p2=>have p2f:=bb p2; (.val 10 (zI d) (zI (Mq (bestG b i size i chain 0 0))) E7 (.val 11 (zI l) (zI (Mb (bestG b i size i chain 0 0))) E8 (Hn.last last1 0 (():Unit) rfl [] ro))))))) (fun p1=>have p1f:=bb p1; (.s 4 (.val 10 (zI d) (zI (Mq (bestG b i size i chain 0 0))) E7 (.val 11 (zI l) (zI (Mb (bestG b i size i chain 0 0))) E8 (Hn.last last1 0 (():Unit) rfl [] ro)))))))))) (fun p0=>have p0f:=bb p0; (.s 16 (.val 10 (zI d) (zI (Mq (bestG b i size i chain 0 0))) E7 (.val 11 (zI l) (zI (Mb (bestG b i size i chain 0 0))) E8 (Hn.last last1 0 (():Unit) rfl [] ro)))))))) (fun | ⟨k,hk,c,d,l,hc2,hd,hl,hg,_⟩=>by kernel_rfl) ⟨(i),om,(chain),(0),(0),om,om,om,wr,⟨⟩⟩ [] ro (bZ (fun | ()=>(.s 4 (.out [] [] (D.tup [zI (Mq (bestG b i size i chain 0 0)),zI (Mb (bestG b i size i chain 0 0))]) [] R (ok _ _ wr wr)))))))))) (by kernel_rfl)
def qT (n:Nat) (x size chain:Int):Prop:=x < 0 ∨ (n:Int) < x ∨ size < 1 ∨ 32768 < size ∨ chain < 0 ∨ 256 < chain
instance (n:Nat) (x size chain:Int):Decidable (qT n x size chain):=by unfold qT; infer_instance
def dm (b:List UInt8) (n:Nat) (x size chain:Int):Int:=if 131072 < n then 4 else if qT n x size chain then 2 else if (bestG b x.toNat size x.toNat chain 0 0).2 = 0 then 6 else 0
def nA (b:List UInt8) (n:Nat) (x size chain:Int):Int:=if dm b n x size chain = 0 then (bestG b x.toNat size x.toNat chain 0 0).1 else 0
def jO (b:List UInt8) (n:Nat) (x size chain:Int):Int:=if dm b n x size chain = 0 then (bestG b x.toNat size x.toNat chain 0 0).2 else 0
abbrev hJ (b:List UInt8) (n:Nat) (x size chain:Int):D:=.tup [iD (nA b n x size chain),iD (jO b n x size chain),iD (dm b n x size chain)]
theorem o9 {b:List UInt8} {n:Nat} {x size chain e:Int} (h:dm b n x size chain = e) (he:e ≠ 0):D.tup [iD 0,iD 0,iD e] = hJ b n x size chain:=by
 have h2:¬ dm b n x size chain = 0:=fun q=>he (h.symm.trans q)
 unfold hJ nA jO
 rw [if_neg h2,if_neg h2,h]
theorem E9 {b:List UInt8} {n:Nat} {x size chain:Int} (h:131072 < n):D.tup [iD 0,iD 0,iD 4] = hJ b n x size chain:=o9 (if_pos h) (by decide)
theorem Fa {b:List UInt8} {n:Nat} {x size chain:Int} (h:n ≤ 131072) (h2:x < 0 ∨ (n:Int) < x ∨ size < 1 ∨ 32768 < size ∨ chain < 0 ∨ 256 < chain):D.tup [iD 0,iD 0,iD 2] = hJ b n x size chain:=o9 (by rw [dm,if_neg (by omega),if_pos (show qT n x size chain from h2)]) (by decide)
theorem sE {b:List UInt8} {n:Nat} {x size chain:Int} (h:n ≤ 131072) (h2:¬ (x < 0 ∨ (n:Int) < x ∨ size < 1 ∨ 32768 < size ∨ chain < 0 ∨ 256 < chain)) (h3:(bestG b x.toNat size x.toNat chain 0 0).2 = 0):D.tup [iD 0,iD 0,iD 6] = hJ b n x size chain:=o9 (by rw [dm,if_neg (by omega),if_neg (show ¬ qT n x size chain from h2),if_pos h3]) (by decide)
theorem yr {b:List UInt8} {n:Nat} {x size chain:Int} (h:n ≤ 131072) (h2:¬ (x < 0 ∨ (n:Int) < x ∨ size < 1 ∨ 32768 < size ∨ chain < 0 ∨ 256 < chain)) (h3:¬ (bestG b x.toNat size x.toNat chain 0 0).2 = 0):D.tup [iD (bestG b x.toNat size x.toNat chain 0 0).1,iD (bestG b x.toNat size x.toNat chain 0 0).2,iD 0] = hJ b n x size chain:=by
 have e:dm b n x size chain = 0:=by rw [dm,if_neg (by omega),if_neg (show ¬ qT n x size chain from h2),if_neg h3]
 unfold hJ nA jO
 rw [if_pos e,if_pos e,e]
theorem fy (s p:List UInt8):∀ k:Nat,-1 ≤ aq s p k ∧ aq s p k < k
 | 0=>by unfold aq; decide
 | k + 1=>by
  have:=fy s p k
  unfold aq
  split <;> omega
theorem qU (s p:List UInt8):∀ k:Nat,aq s p k < 0 → ∀ j,j < k → (s.drop j).take 3 ≠ p
 | 0,_,j,h=>absurd h (Nc j)
 | k + 1,h,j,hj=>by
  unfold aq at h
  split at h
  ·omega
  ·next e=>exact if q:j = k then q ▸ e else qU s p k h j (by omega)
theorem qV (s p:List UInt8):∀ k:Nat,0 ≤ aq s p k → (s.drop (aq s p k).toNat).take 3 = p ∧ ∀ j:Nat,aq s p k < j → j < k → (s.drop j).take 3 ≠ p
 | 0,h=>absurd h (by unfold aq; decide)
 | k + 1,h=>by
  unfold aq at h ⊢
  split at h
  ·next e =>
   rw [if_pos e]
   exact ⟨e,fun j h1 h2=>by omega⟩
  ·next e =>
   rw [if_neg e]
   have:=qV s p k h
   exact ⟨this.1,fun j h1 h2=>if q:j = k then q ▸ e else this.2 j h1 (by omega)⟩
theorem De (b:List UInt8) (i:Nat) (h:i + 3 ≤ b.length):(b.drop i).take 3 = [b.getD i ji,b.getD (i + 1) ji,b.getD (i + 2) ji]:=by
 have g:∀ j,j < 3 → b[i + j]? = some (b.getD (i + j) ji):=fun j hj=>by
  rw [List.getD_eq_getElem?_getD,List.getElem?_eq_getElem (by omega)]; rfl
 apply List.ext_getElem?
 intro j
 rw [List.getElem?_take]
 split
 ·next hj =>
  rw [List.getElem?_drop,g j hj]
  match j,hj with
  | 0,_=>rfl
  | 1,_=>rfl
  | 2,_=>rfl
 ·next hj =>
  rw [List.getElem?_eq_none (by simp; omega)]
theorem Fb {b:List UInt8} {i j k:Nat} (hi:i + 3 ≤ b.length) (hj:j < i):3 ≤ same b i j (k + 1 + 1 + 1) ↔ (b.drop j).take 3 = (b.drop i).take 3:=by
 rw [De b i hi,De b j (by omega)]
 simp only [same,List.cons.injEq,and_true]
 constructor
 ·intro h
  split at h
  ·next e1 =>
   split at h
   ·next e2 =>
    split at h
    ·next e3=>exact ⟨e1.2,e2.2,e3.2⟩
    ·omega
   ·omega
  ·omega
 ·rintro ⟨e1,e2,e3⟩
  rw [if_pos ⟨by omega,e1⟩,if_pos ⟨by omega,e2⟩,if_pos ⟨by omega,e3⟩]
  omega
theorem yu {b:List UInt8} {i j:Nat} (hi:i + 3 ≤ b.length) (hj:j < i):3 ≤ same b i j 258 ↔ (b.drop j).take 3 = (b.drop i).take 3:=Fb (k:=255) hi hj
theorem yv {b:List UInt8} {i:Nat} {size d l c:Int} (hc:¬ 0 < c):∀ k,bestG b i size k c d l = (d,l)
 | 0=>rfl
 | k + 1=>by rw [bestG,if_neg (fun h=>hc h.2)]
theorem jy {b:List UInt8} {i m:Nat} {size c d l:Int} (hs:(i:Int) - m ≤ size) (hc:0 < c):∀ k,m ≤ k → (∀ j,m ≤ j → j < k → same b i j 258 < 3) → bestG b i size k c d l = bestG b i size m c d l
 | 0,h,_=>by rw [show m = 0 from by omega]
 | k + 1,h,hj=>by
  by_cases q:m = k + 1
  ·rw [q]
  ·rw [bestG,if_pos ⟨by omega,hc⟩,if_pos (hj k (by omega) (by omega))]
   exact jy hs hc k (by omega) fun j h1 h2=>hj j h1 (by omega)
theorem vu {b:List UInt8} {i m k:Nat} {size c d l:Int} (hm:(m:Int) = max 0 ((i:Int) - size)) (hk:m ≤ k) (hj:∀ j,m ≤ j → j < k → same b i j 258 < 3):bestG b i size k c d l = (d,l):=by
 by_cases hc:0 < c
 ·rw [jy (m:=m) (by omega) hc k hk hj]
  cases m with
  | zero=>rfl
  | succ m=>rw [bestG,if_neg (by omega)]
 ·exact yv hc k
theorem vw {b:List UInt8} {i k:Nat} {size d l:Int} (h:(b.length:Int) < (i:Int) + 3):∀ c,bestG b i size k c d l = (d,l):=by
 have g:∀ j,same b i j 258 < 3:=fun j=>by
  by_cases hi:i ≤ b.length
  ·have:=i4 b 258 i j hi; omega
  ·rw [show (258:Nat) = 257 + 1 from rfl,same,if_neg (fun e=>by have:=e.1; omega)]; decide
 intro c
 induction k with
 | zero=>rfl
 | succ k ih =>
  rw [bestG]
  split
  ·rw [if_pos (g k)]; exact ih
  ·rfl
theorem yw (b:List UInt8) {low m j:Nat} (h:j + 3 ≤ m):((((b.drop low).take m).drop j).take 3) = (b.drop (low + j)).take 3:=by
 rw [List.drop_take,List.take_take,Ps,Pn (by omega)]
theorem KT {b:List UInt8} {i k low m:Nat} {size c d l:Int} {a:Int × Int} (hg:a = bestG b i size k c d l) (hlow:(low:Int) = max 0 ((i:Int) - size)) (hk:low ≤ k) (hki:k ≤ i) (hi:i + 3 ≤ b.length) (hm:m = k + 2 - low) (h:aq ((b.drop low).take m) ((b.drop i).take 3) (m - 2) < 0):a = (d,l):=by
 rw [hg]
 refine vu hlow hk fun j h1 h2=>?_
 have e:=qU _ _ _ h (j - low) (by omega)
 rw [yw b (by omega),show low + (j - low) = j from by omega] at e
 have:¬ 3 ≤ same b i j 258:=fun q=>e ((yu hi (show j < i by omega)).1 q)
 omega
theorem KU {b:List UInt8} {i k low m f:Nat} {r size c d l:Int} {a:Int × Int} (hg:a = bestG b i size k c d l) (hlow:(low:Int) = max 0 ((i:Int) - size)) (hk:low ≤ k) (hki:k ≤ i) (hi:i + 3 ≤ b.length) (hm:m = k + 2 - low) (hr:r = aq ((b.drop low).take m) ((b.drop i).take 3) (m - 2)) (h:0 ≤ r) (hc:0 < c) (hf:(f:Int) = low + r) :
  a = if l < same b i f 258 then bestG b i size f (c - 1) ((i:Int) - f) (same b i f 258:Nat) else bestG b i size f (c - 1) d l:=by
 have hb:=fy ((b.drop low).take m) ((b.drop i).take 3) (m - 2)
 have hp:=qV ((b.drop low).take m) ((b.drop i).take 3) (m - 2) (hr ▸ h)
 rw [← hr] at hb hp
 have e1:=hp.1
 rw [yw b (by omega),show low + r.toNat = f from by omega] at e1
 have s1:=(yu hi (show f < i by omega)).2 e1
 rw [hg,jy (m:=f + 1) (by omega) hc k (by omega) (fun j h1 h2=>?_),bestG,if_pos ⟨by omega,hc⟩,if_neg (by omega)]
 have e:=hp.2 (j - low) (by omega) (by omega)
 rw [yw b (by omega),show low + (j - low) = j from by omega] at e
 have:¬ 3 ≤ same b i j 258:=fun q=>e ((yu hi (show j < i by omega)).1 q)
 omega
theorem lastIxX (s p:List UInt8) (n m:Nat) (hn:n = s.length) (hp:p.length = m) (hm:m = 3) (h4:n ≤ 1000000):SpecH false Tryz.prog 179 [.sl false n 1 (s.map dB),.sl false m 1 (p.map dB)] [] (iD (aq s p (n - 2))) []:=by
 subst hm
 exact E5 s p n hn hp h4
theorem Ay {x y:Int} {t:TypeId} {r:Bool} (h:x = y):(⟨[D.v (.int .i64 x)],t,r⟩:Blk) = ⟨[D.v (.int .i64 y)],t,r⟩:=by rw [h]
abbrev LA (b:List UInt8) (q size:Int) (k:Nat):Int:=aq (ME (((k:Int) + 2).toNat - (max 0 (q - size)).toNat) (MI (max 0 (q - size)).toNat b)) (ME ((q + 3).toNat - q.toNat) (MI q.toNat b)) (((k:Int) + 2).toNat - (max 0 (q - size)).toNat - 2)
theorem Df {b:List UInt8} {n k:Nat} {q size c d l:Int} {a:Int × Int} (hn:n = b.length) (h7:q + 3 ≤ n) (h1:0 ≤ q) (h3:1 ≤ size) (hlow:max 0 (q - size) ≤ (k:Int)) (hk:k ≤ q.toNat) (hg:a = bestG b q.toNat size k c d l) (h:LA b q size k < 0):a = (d,l):=by
 unfold LA at h
 rw [show (q + 3).toNat - q.toNat = 3 from by omega] at h
 exact KT hg (low:=(max 0 (q - size)).toNat) (m:=((k:Int) + 2).toNat - (max 0 (q - size)).toNat) (by omega) (by omega) (by omega) (by omega) (by omega) h
theorem Dg {b:List UInt8} {k:Nat} {q size c d l:Int} {a:Int × Int} (hg:a = bestG b q.toNat size k c d l) (h:¬ 0 < c):a = (d,l):=hg.trans (yv h k)
theorem Dh {b:List UInt8} {n k:Nat} {q size c d l:Int} {a:Int × Int} (hn:n = b.length) (h7:q + 3 ≤ n) (h1:0 ≤ q) (h3:1 ≤ size) (hlow:max 0 (q - size) ≤ (k:Int)) (hk:k ≤ q.toNat) (hg:a = bestG b q.toNat size k c d l) (h:0 ≤ LA b q size k) (hc:0 < c) :
  a = if l < same b q.toNat (max 0 (q - size) + LA b q size k).toNat 258 then bestG b q.toNat size (max 0 (q - size) + LA b q size k).toNat (c - 1) (q - (max 0 (q - size) + LA b q size k)) (same b q.toNat (max 0 (q - size) + LA b q size k).toNat 258:Nat) else bestG b q.toNat size (max 0 (q - size) + LA b q size k).toNat (c - 1) d l:=by
 have e3:(q + 3).toNat - q.toNat = 3:=by omega
 have h0:=h
 unfold LA at h0
 rw [e3] at h0
 have key:=KU hg (low:=(max 0 (q - size)).toNat) (m:=((k:Int) + 2).toNat - (max 0 (q - size)).toNat) (f:=(max 0 (q - size) + LA b q size k).toNat) (r:=LA b q size k) (by omega) (by omega) (by omega) (by omega) (by omega) (by unfold LA; rw [e3]) h hc (by omega)
 rw [show ((q.toNat:Nat):Int) - ((max 0 (q - size) + LA b q size k).toNat:Nat) = q - (max 0 (q - size) + LA b q size k) from by omega] at key
 exact key
theorem Az {b:List UInt8} {n k:Nat} {q size c d l:Int} {a:Int × Int} (hn:n = b.length) (h7:q + 3 ≤ n) (h1:0 ≤ q) (h3:1 ≤ size) (hlow:max 0 (q - size) ≤ (k:Int)) (hk:k ≤ q.toNat) (hg:a = bestG b q.toNat size k c d l) (h:0 ≤ (aq (ME (((k:Int) + 2).toNat - (max 0 (q - size)).toNat) (MI (max 0 (q - size)).toNat b)) (ME ((q + 3).toNat - q.toNat) (MI q.toNat b)) (((k:Int) + 2).toNat - (max 0 (q - size)).toNat - 2))) (hc:0 < c) (hl:l < (same b q.toNat (max 0 (q - size) + (aq (ME (((k:Int) + 2).toNat - (max 0 (q - size)).toNat) (MI (max 0 (q - size)).toNat b)) (ME ((q + 3).toNat - q.toNat) (MI q.toNat b)) (((k:Int) + 2).toNat - (max 0 (q - size)).toNat - 2))).toNat 258:Nat)) :
  a = bestG b q.toNat size (max 0 (q - size) + (aq (ME (((k:Int) + 2).toNat - (max 0 (q - size)).toNat) (MI (max 0 (q - size)).toNat b)) (ME ((q + 3).toNat - q.toNat) (MI q.toNat b)) (((k:Int) + 2).toNat - (max 0 (q - size)).toNat - 2))).toNat (c - 1) (q - (max 0 (q - size) + (aq (ME (((k:Int) + 2).toNat - (max 0 (q - size)).toNat) (MI (max 0 (q - size)).toNat b)) (ME ((q + 3).toNat - q.toNat) (MI q.toNat b)) (((k:Int) + 2).toNat - (max 0 (q - size)).toNat - 2)))) (same b q.toNat (max 0 (q - size) + (aq (ME (((k:Int) + 2).toNat - (max 0 (q - size)).toNat) (MI (max 0 (q - size)).toNat b)) (ME ((q + 3).toNat - q.toNat) (MI q.toNat b)) (((k:Int) + 2).toNat - (max 0 (q - size)).toNat - 2))).toNat 258:Nat):=by
 rw [Dh hn h7 h1 h3 hlow hk hg h hc,if_pos hl]
theorem AA {b:List UInt8} {n k:Nat} {q size c d l:Int} {a:Int × Int} (hn:n = b.length) (h7:q + 3 ≤ n) (h1:0 ≤ q) (h3:1 ≤ size) (hlow:max 0 (q - size) ≤ (k:Int)) (hk:k ≤ q.toNat) (hg:a = bestG b q.toNat size k c d l) (h:0 ≤ (aq (ME (((k:Int) + 2).toNat - (max 0 (q - size)).toNat) (MI (max 0 (q - size)).toNat b)) (ME ((q + 3).toNat - q.toNat) (MI q.toNat b)) (((k:Int) + 2).toNat - (max 0 (q - size)).toNat - 2))) (hc:0 < c) (hl:¬ l < (same b q.toNat (max 0 (q - size) + (aq (ME (((k:Int) + 2).toNat - (max 0 (q - size)).toNat) (MI (max 0 (q - size)).toNat b)) (ME ((q + 3).toNat - q.toNat) (MI q.toNat b)) (((k:Int) + 2).toNat - (max 0 (q - size)).toNat - 2))).toNat 258:Nat)) :
  a = bestG b q.toNat size (max 0 (q - size) + (aq (ME (((k:Int) + 2).toNat - (max 0 (q - size)).toNat) (MI (max 0 (q - size)).toNat b)) (ME ((q + 3).toNat - q.toNat) (MI q.toNat b)) (((k:Int) + 2).toNat - (max 0 (q - size)).toNat - 2))).toNat (c - 1) d l:=by
 rw [Dh hn h7 h1 h3 hlow hk hg h hc,if_neg hl]
theorem KV (b:List UInt8) (n:Nat) (q size chain:Int) (hn:n = b.length) (hN:n ≤ 1000000) (hx:-9223372036854775808 ≤ q ∧ q ≤ 9223372036854775807) (hs:-9223372036854775808 ≤ size ∧ size ≤ 9223372036854775807) (hc:-9223372036854775808 ≤ chain ∧ chain ≤ 9223372036854775807):SpecH false Tryz.prog 117 [.sl false n 1 (b.map dB),iD q,iD size,iD chain] [] (hJ b n q size chain) []:=by
 refine SpecH.run T_ok ai Tryz.func117 rfl rfl rfl trivial rfl 1000 64 (fun R ok=>(.s 24 (.br (decide (131072 < (n:Int))) (fun p0=>have p0f:=ba p0; (.s 18 (.out [] [] (D.tup [zI 0,zI 0,zI 4]) [] R (ok _ _ (by (exact E9 (by (omega)))) wr)))) (fun p0=>have p0f:=bb p0; (.s 5 (.br (decide (q < 0)) (fun p1=>have p1f:=ba p1; (.s 26 (.out [] [] (D.tup [zI 0,zI 0,zI 2]) [] R (ok _ _ vr wr)))) (fun p1=>have p1f:=bb p1; (.s 8 (.br (decide ((n:Int) < q)) (fun p2=>have p2f:=ba p2; (.s 18 (.out [] [] (D.tup [zI 0,zI 0,zI 2]) [] R (ok _ _ vr wr)))) (fun p2=>have p2f:=bb p2; (.s 11 (.br (decide (size < 1)) (fun p3=>have p3f:=ba p3; (.s 27 (.out [] [] (D.tup [zI 0,zI 0,zI 2]) [] R (ok _ _ vr wr)))) (fun p3=>have p3f:=bb p3; (.s 6 (.br (decide (32768 < size)) (fun p4=>have p4f:=ba p4; (.s 21 (.out [] [] (D.tup [zI 0,zI 0,zI 2]) [] R (ok _ _ vr wr)))) (fun p4=>have p4f:=bb p4; (.s 8 (.br (decide (chain < 0)) (fun p5=>have p5f:=ba p5; (.s 15 (.out [] [] (D.tup [zI 0,zI 0,zI 2]) [] R (ok _ _ vr wr)))) (fun p5=>have p5f:=bb p5; (.s 6 (.br (decide (256 < chain)) (fun p6=>have p6f:=ba p6; (.s 11 (.out [] [] (D.tup [zI 0,zI 0,zI 2]) [] R (ok _ _ vr wr)))) (fun p6=>have p6f:=bb p6; (.s 23 (.ow (q + 3) (.s 6 (.br (decide ((n:Int) < q + 3)) (fun p7=>have p7f:=ba p7; (.s 17 (.out [] [] (D.tup [zI 0,zI 0,zI 6]) [] R (ok _ _ (by (exact sE (by (omega)) (by (omega)) (by rw [vw (by (omega))]))) wr)))) (fun p7=>have p7f:=bb p7; (.s 11 (.ow (q + 3) (.s 1 (.chk (aM (some q) (some (q + 3)) none n && true) (by (simp <;> (omega))) (.s 9 (.ow (q - size) (.s 1 (.opt (eo Mk true 0 (q - size)) (zI (max 0 (q - size))) (ee _ _ _) (.s 6 (.ow (q - 1) (.s 2 (.ow (q - 1 + 3) (.s 1 (.val 7 (zI (q - 1 + 3)) (zI ((↑(u7 q):Int) + 2)) vq (Hn.inl T_ok ai false 47 456 (ay Tryz.prog 178 0) (fun (x:(k:Nat) ×' (hk:k ≤ q.toNat) ×' (c:Int) ×' (d:Int) ×' (l:Int) ×' (hc2:0 ≤ c ∧ c ≤ 256) ×' (hd:0 ≤ d ∧ d ≤ 1000000) ×' (hl:0 ≤ l ∧ l ≤ 258) ×' (hlow:max 0 (q - size) ≤ (k:Int)) ×' (hg:bestG b q.toNat size q.toNat chain 0 0 = bestG b q.toNat size k c d l) ×' Unit)=>match x with | ⟨k,hk,c,d,l,hc2,hd,hl,hlow,hg,_⟩=>CutS.mk [(0,D.yl 448 448),(2,D.ptr 368 368 0),(5,D.sl false (u7 (q + 3) - u7 q) 1 (take ((u7 (q + 3) - u7 q) * 1) (drop (u7 q * 1) (map dB b)))),(6,zI (max 0 (q - size))),(7,iD ((k:Int) + 2))] [⟨0,0,0,0,.b ⟨[D.sl false n 1 (map dB b)],24,false⟩⟩,⟨8,8,8,8,.b ⟨[zI q],3,false⟩⟩,⟨16,16,16,16,.b ⟨[iD c],3,false⟩⟩,⟨24,24,24,24,.b ⟨[iD d],3,false⟩⟩,⟨32,32,32,32,.b ⟨[iD l],3,false⟩⟩,⟨368,368,368,368,.b ⟨[D.sl false n 1 (map dB b)],24,false⟩⟩,⟨376,376,376,376,.b ⟨[zI q],3,false⟩⟩,⟨384,384,384,384,.b ⟨[zI size],3,false⟩⟩,⟨448,448,448,448,.l Oh none (rangeAt Tryz.prog 117 0).1 (rangeAt Tryz.prog 117 0).2.1 (rangeAt Tryz.prog 117 0).2.2 58 [(0,D.sl false n 1 (map dB b)),(1,zI q),(3,zI chain),(7,D.ptr 16 16 0),(15,zI q),(31,zI chain),(23,zI size),(11,zI 0),(35,zI q),(27,zI chain),(5,D.ptr 8 8 0),(9,D.ptr 32 32 0),(17,zI 0),(33,D.v (.bool false)),(25,D.v (.bool (decide (32768 < size)))),(21,D.v (.bool (decide (size < 1)))),(37,D.fn (MG 178) [] [D.ptr 376 376 0,D.ptr 368 368 0,D.ptr 384 384 0]),(29,D.v (.bool (decide (chain < 0)))),(2,zI size),(4,D.ptr 0 0 0),(8,D.ptr 24 24 0),(16,zI 0),(32,D.v (.bool (decide (256 < chain)))),(24,D.v (.bool (decide (32768 < size)))),(20,zI size),(36,zI size),(28,D.v (.bool (decide (chain < 0)))),(10,zI 0),(18,D.v (.bool false)),(34,D.sl false n 1 (map dB b)),(26,D.v (.bool false)),(14,D.sl false n 1 (map dB b)),(22,D.v (.bool false)),(30,D.v (.bool false))]⟩] 528) (fun (x:(k:Nat) ×' (hk:k ≤ q.toNat) ×' (c:Int) ×' (d:Int) ×' (l:Int) ×' (hc2:0 ≤ c ∧ c ≤ 256) ×' (hd:0 ≤ d ∧ d ≤ 1000000) ×' (hl:0 ≤ l ∧ l ≤ 258) ×' (hlow:max 0 (q - size) ≤ (k:Int)) ×' (hg:bestG b q.toNat size q.toNat chain 0 0 = bestG b q.toNat size k c d l) ×' Unit)=>match x with | ⟨k,hk,c,d,l,hc2,hd,hl,hlow,hg,_⟩=>k) [⟨Unit,.ret,fun x=>match x with | ()=>CutS.mk [] [⟨0,0,0,0,.b ⟨[D.sl false n 1 (map dB b)],24,false⟩⟩,⟨8,8,8,8,.b ⟨[zI q],3,false⟩⟩,⟨24,24,24,24,.b ⟨[iD (bestG b q.toNat size q.toNat chain 0 0).1],3,false⟩⟩,⟨32,32,32,32,.b ⟨[iD (bestG b q.toNat size q.toNat chain 0 0).2],3,false⟩⟩,⟨368,368,368,368,.b ⟨[D.sl false n 1 (map dB b)],24,false⟩⟩,⟨376,376,376,376,.b ⟨[zI q],3,false⟩⟩,⟨384,384,384,384,.b ⟨[zI size],3,false⟩⟩,⟨448,448,448,448,.l Oh none (rangeAt Tryz.prog 117 0).1 (rangeAt Tryz.prog 117 0).2.1 (rangeAt Tryz.prog 117 0).2.2 58 [(0,D.sl false n 1 (map dB b)),(1,zI q),(3,zI chain),(7,D.ptr 16 16 0),(15,zI q),(31,zI chain),(23,zI size),(11,zI 0),(35,zI q),(27,zI chain),(5,D.ptr 8 8 0),(9,D.ptr 32 32 0),(17,zI 0),(33,D.v (.bool false)),(25,D.v (.bool (decide (32768 < size)))),(21,D.v (.bool (decide (size < 1)))),(37,D.fn (MG 178) [] [D.ptr 376 376 0,D.ptr 368 368 0,D.ptr 384 384 0]),(29,D.v (.bool (decide (chain < 0)))),(2,zI size),(4,D.ptr 0 0 0),(8,D.ptr 24 24 0),(16,zI 0),(32,D.v (.bool (decide (256 < chain)))),(24,D.v (.bool (decide (32768 < size)))),(20,zI size),(36,zI size),(28,D.v (.bool (decide (chain < 0)))),(10,zI 0),(18,D.v (.bool false)),(34,D.sl false n 1 (map dB b)),(26,D.v (.bool false)),(14,D.sl false n 1 (map dB b)),(22,D.v (.bool false)),(30,D.v (.bool false))]⟩] 528⟩,⟨Unit,.ret,fun x=>match x with | ()=>CutS.mk [] [⟨0,0,0,0,.b ⟨[D.sl false n 1 (map dB b)],24,false⟩⟩,⟨8,8,8,8,.b ⟨[zI q],3,false⟩⟩,⟨24,24,24,24,.b ⟨[iD (bestG b q.toNat size q.toNat chain 0 0).1],3,false⟩⟩,⟨32,32,32,32,.b ⟨[iD (bestG b q.toNat size q.toNat chain 0 0).2],3,false⟩⟩,⟨368,368,368,368,.b ⟨[D.sl false n 1 (map dB b)],24,false⟩⟩,⟨376,376,376,376,.b ⟨[zI q],3,false⟩⟩,⟨384,384,384,384,.b ⟨[zI size],3,false⟩⟩,⟨448,448,448,448,.l LoopState.done (some (Code.exit 0)) (rangeAt Tryz.prog 117 0).1 (rangeAt Tryz.prog 117 0).2.1 (rangeAt Tryz.prog 117 0).2.2 58 [(0,D.sl false n 1 (map dB b)),(1,zI q),(3,zI chain),(7,D.ptr 16 16 0),(15,zI q),(31,zI chain),(23,zI size),(11,zI 0),(35,zI q),(27,zI chain),(5,D.ptr 8 8 0),(9,D.ptr 32 32 0),(17,zI 0),(33,D.v (.bool false)),(25,D.v (.bool (decide (32768 < size)))),(21,D.v (.bool (decide (size < 1)))),(37,D.fn (MG 178) [] [D.ptr 376 376 0,D.ptr 368 368 0,D.ptr 384 384 0]),(29,D.v (.bool (decide (chain < 0)))),(2,zI size),(4,D.ptr 0 0 0),(8,D.ptr 24 24 0),(16,zI 0),(32,D.v (.bool (decide (256 < chain)))),(24,D.v (.bool (decide (32768 < size)))),(20,zI size),(36,zI size),(28,D.v (.bool (decide (chain < 0)))),(10,zI 0),(18,D.v (.bool false)),(34,D.sl false n 1 (map dB b)),(26,D.v (.bool false)),(14,D.sl false n 1 (map dB b)),(22,D.v (.bool false)),(30,D.v (.bool false))]⟩] 528⟩] 1000 64 (fun | ⟨k,hk,c,d,l,hc2,hd,hl,hlow,hg,_⟩,Q,next1,last1=>(.s 6 (.chk (aM (some (max 0 (q - size))) (some ((k:Int) + 2)) none n && true) (by (simp;  have h9:=fy (take (((k:Int) + 2).toNat - (max 0 (q - size)).toNat) (drop (max 0 (q - size)).toNat b)) (take ((q + 3).toNat - q.toNat) (drop q.toNat b)) (((k:Int) + 2).toNat - (max 0 (q - size)).toNat - 2); omega)) (.s 2 (.call 179 false [] (true) wr ([D.sl false (u7 ((k:Int) + 2) - u7 (max 0 (q - size))) 1 (take ((u7 ((k:Int) + 2) - u7 (max 0 (q - size))) * 1) (drop (u7 (max 0 (q - size)) * 1) (map dB b))),D.sl false (u7 (q + 3) - u7 q) 1 (take ((u7 (q + 3) - u7 q) * 1) (drop (u7 q * 1) (map dB b)))]) _ (by exact (Mi (D.sim.slw rfl (by (simp; done))) (Mi (D.sim.slw rfl (by (simp; done))) trivial))) (true) wr _ _ _ (CallOk.fn (ax.of Tryz.func179 rfl rfl) (@Go.Proofs.YtefjnofhgkjpmaaGreat.Vm.lastIxX (take (u7 ((k:Int) + 2) - u7 (max 0 (q - size))) (drop (u7 (max 0 (q - size))) b)) (take (u7 (q + 3) - u7 q) (drop (u7 q) b)) (u7 ((k:Int) + 2) - u7 (max 0 (q - size))) (u7 (q + 3) - u7 q) (by (simp only [Mc,Ms]; (omega))) (by (simp only [Mc,Ms]; (omega))) om om)) (.s 6 (.br (decide (aq (take (u7 ((k:Int) + 2) - u7 (max 0 (q - size))) (drop (u7 (max 0 (q - size))) b)) (take (u7 (q + 3) - u7 q) (drop (u7 q) b)) (u7 ((k:Int) + 2) - u7 (max 0 (q - size)) - 2) < 0)) (fun p8=>have p8f:=ba p8; (.s 12 (.blk 24 24 (Blk.mk [zI d] 3 false) (Blk.mk [zI (Mq (bestG b (u7 q) size (u7 q) chain 0 0))] 3 false) (by (exact Ay (sC (Df hn (by (omega)) (by (omega)) (by (omega)) hlow hk hg (by (omega)))))) (.blk 32 32 (Blk.mk [zI l] 3 false) (Blk.mk [zI (Mb (bestG b (u7 q) size (u7 q) chain 0 0))] 3 false) (by (exact Ay (sD (Df hn (by (omega)) (by (omega)) (by (omega)) hlow hk hg (by (omega)))))) (Hn.last last1 0 (():Unit) rfl [(0,0),(8,8),(24,24),(32,32),(368,368),(376,376),(384,384),(448,448)] ro))))) (fun p8=>have p8f:=bb p8; (.s 7 (.op (max 0 (q - size) + aq (take (u7 ((k:Int) + 2) - u7 (max 0 (q - size))) (drop (u7 (max 0 (q - size))) b)) (take (u7 (q + 3) - u7 q) (drop (u7 q) b)) (u7 ((k:Int) + 2) - u7 (max 0 (q - size)) - 2)) jW (.s 8 (.br (c == 0) (fun p9=>have p9f:=eq_of_beq p9; (.s 4 (.blk 24 24 (Blk.mk [zI d] 3 false) (Blk.mk [zI (Mq (bestG b (u7 q) size (u7 q) chain 0 0))] 3 false) (by (exact Ay (sC (Dg hg (by (omega)))))) (.blk 32 32 (Blk.mk [zI l] 3 false) (Blk.mk [zI (Mb (bestG b (u7 q) size (u7 q) chain 0 0))] 3 false) (by (exact Ay (sD (Dg hg (by (omega)))))) (Hn.last last1 1 (():Unit) rfl [(0,0),(8,8),(24,24),(32,32),(368,368),(376,376),(384,384),(448,448)] ro))))) (fun p9=>have p9f:=av p9; (.s 5 (.ow (c - 1) (.s 11 (.cl 155 false [] (.fn JR (@Go.Proofs.YtefjnofhgkjpmaaGreat.Vm.longX (b) (n) (q) (max 0 (q - size) + aq (take (u7 ((k:Int) + 2) - u7 (max 0 (q - size))) (drop (u7 (max 0 (q - size))) b)) (take (u7 (q + 3) - u7 q) (drop (u7 q) b)) (u7 ((k:Int) + 2) - u7 (max 0 (q - size)) - 2)) om om om om jW)) (.s 7 (.br (decide (l < (↑(same b (u7 q) (u7 (max 0 (q - size) + aq (take (u7 ((k:Int) + 2) - u7 (max 0 (q - size))) (drop (u7 (max 0 (q - size))) b)) (take (u7 (q + 3) - u7 q) (drop (u7 q) b)) (u7 ((k:Int) + 2) - u7 (max 0 (q - size)) - 2))) 258):Int))) (fun p10=>have p10f:=ba p10; (.s 6 (.op (q - (max 0 (q - size) + aq (take (u7 ((k:Int) + 2) - u7 (max 0 (q - size))) (drop (u7 (max 0 (q - size))) b)) (take (u7 (q + 3) - u7 q) (drop (u7 q) b)) (u7 ((k:Int) + 2) - u7 (max 0 (q - size)) - 2))) jW (.s 15 (.op (max 0 (q - size) + aq (take (u7 ((k:Int) + 2) - u7 (max 0 (q - size))) (drop (u7 (max 0 (q - size))) b)) (take (u7 (q + 3) - u7 q) (drop (u7 q) b)) (u7 ((k:Int) + 2) - u7 (max 0 (q - size)) - 2)) jW (.s 2 (.op (max 0 (q - size) + aq (take (u7 ((k:Int) + 2) - u7 (max 0 (q - size))) (drop (u7 (max 0 (q - size))) b)) (take (u7 (q + 3) - u7 q) (drop (u7 q) b)) (u7 ((k:Int) + 2) - u7 (max 0 (q - size)) - 2) + 3) jW (.s 2 (.op (max 0 (q - size) + aq (take (u7 ((k:Int) + 2) - u7 (max 0 (q - size))) (drop (u7 (max 0 (q - size))) b)) (take (u7 (q + 3) - u7 q) (drop (u7 q) b)) (u7 ((k:Int) + 2) - u7 (max 0 (q - size)) - 2) + 3 - 1) jW (.s 1 (.val 7 (zI (max 0 (q - size) + aq (take (u7 ((k:Int) + 2) - u7 (max 0 (q - size))) (drop (u7 (max 0 (q - size))) b)) (take (u7 (q + 3) - u7 q) (drop (u7 q) b)) (u7 ((k:Int) + 2) - u7 (max 0 (q - size)) - 2) + 3 - 1)) (zI ((↑(u7 (max 0 (q - size) + aq (take (u7 ((k:Int) + 2) - u7 (max 0 (q - size))) (drop (u7 (max 0 (q - size))) b)) (take (u7 (q + 3) - u7 q) (drop (u7 q) b)) (u7 ((k:Int) + 2) - u7 (max 0 (q - size)) - 2))):Int) + 2)) vq (Hn.next next1 ⟨((max 0 (q - size) + (aq (take (((k:Int) + 2).toNat - (max 0 (q - size)).toNat) (drop (max 0 (q - size)).toNat b)) (take ((q + 3).toNat - q.toNat) (drop q.toNat b)) (((k:Int) + 2).toNat - (max 0 (q - size)).toNat - 2))).toNat),jW,(c - 1),(q - (max 0 (q - size) + (aq (take (((k:Int) + 2).toNat - (max 0 (q - size)).toNat) (drop (max 0 (q - size)).toNat b)) (take ((q + 3).toNat - q.toNat) (drop q.toNat b)) (((k:Int) + 2).toNat - (max 0 (q - size)).toNat - 2)))),(((same b q.toNat (max 0 (q - size) + (aq (take (((k:Int) + 2).toNat - (max 0 (q - size)).toNat) (drop (max 0 (q - size)).toNat b)) (take ((q + 3).toNat - q.toNat) (drop q.toNat b)) (((k:Int) + 2).toNat - (max 0 (q - size)).toNat - 2))).toNat 258:Nat):Int)),om,jW,(by (exact ⟨Od _,Int.ofNat_le.2 (i5 _ _ _)⟩)),om,(by (exact Az hn (by (omega)) (by (omega)) (by (omega)) hlow hk hg (by (omega)) (by (omega)) (by (omega)))),⟨⟩⟩ IK [(0,0),(8,8),(16,16),(24,24),(32,32),(368,368),(376,376),(384,384),(448,448)] ro)))))))))))) (fun p10=>have p10f:=bb p10; (.s 8 (.op (max 0 (q - size) + aq (take (u7 ((k:Int) + 2) - u7 (max 0 (q - size))) (drop (u7 (max 0 (q - size))) b)) (take (u7 (q + 3) - u7 q) (drop (u7 q) b)) (u7 ((k:Int) + 2) - u7 (max 0 (q - size)) - 2)) jW (.s 2 (.op (max 0 (q - size) + aq (take (u7 ((k:Int) + 2) - u7 (max 0 (q - size))) (drop (u7 (max 0 (q - size))) b)) (take (u7 (q + 3) - u7 q) (drop (u7 q) b)) (u7 ((k:Int) + 2) - u7 (max 0 (q - size)) - 2) + 3) jW (.s 2 (.op (max 0 (q - size) + aq (take (u7 ((k:Int) + 2) - u7 (max 0 (q - size))) (drop (u7 (max 0 (q - size))) b)) (take (u7 (q + 3) - u7 q) (drop (u7 q) b)) (u7 ((k:Int) + 2) - u7 (max 0 (q - size)) - 2) + 3 - 1) jW (.s 1 (.val 7 (zI (max 0 (q - size) + aq (take (u7 ((k:Int) + 2) - u7 (max 0 (q - size))) (drop (u7 (max 0 (q - size))) b)) (take (u7 (q + 3) - u7 q) (drop (u7 q) b)) (u7 ((k:Int) + 2) - u7 (max 0 (q - size)) - 2) + 3 - 1)) (zI ((↑(u7 (max 0 (q - size) + aq (take (u7 ((k:Int) + 2) - u7 (max 0 (q - size))) (drop (u7 (max 0 (q - size))) b)) (take (u7 (q + 3) - u7 q) (drop (u7 q) b)) (u7 ((k:Int) + 2) - u7 (max 0 (q - size)) - 2))):Int) + 2)) vq (Hn.next next1 ⟨((max 0 (q - size) + (aq (take (((k:Int) + 2).toNat - (max 0 (q - size)).toNat) (drop (max 0 (q - size)).toNat b)) (take ((q + 3).toNat - q.toNat) (drop q.toNat b)) (((k:Int) + 2).toNat - (max 0 (q - size)).toNat - 2))).toNat),jW,(c - 1),(d),(l),om,om,om,om,(by (exact AA hn (by (omega)) (by (omega)) (by (omega)) hlow hk hg (by (omega)) (by (omega)) (by (omega)))),⟨⟩⟩ IK [(0,0),(8,8),(16,16),(24,24),(32,32),(368,368),(376,376),(384,384),(448,448)] ro))))))))))))))))))))))))))))) (fun | ⟨k,hk,c,d,l,hc2,hd,hl,hlow,hg,_⟩=>by kernel_rfl) ⟨(q.toNat),om,(chain),(0),(0),om,om,om,om,wr,⟨⟩⟩ [(0,0),(8,8),(16,16),(24,24),(32,32),(368,368),(376,376),(384,384),(448,448)] ro (fa (fun | ()=>(.s 5 (.br (Mb (bestG b (u7 q) size (u7 q) chain 0 0) == 0) (fun p11=>have p11f:=eq_of_beq p11; (.s 11 (.out [] [] (D.tup [zI 0,zI 0,zI 6]) [] R (ok _ _ (by (exact sE (by (omega)) (by (omega)) (eq_of_beq bz))) wr)))) (fun p11=>have p11f:=av p11; (.s 18 (.out [] [] (D.tup [zI (Mq (bestG b (u7 q) size (u7 q) chain 0 0)),zI (Mb (bestG b (u7 q) size (u7 q) chain 0 0)),zI 0]) [] R (ok _ _ (by (exact yr (by (omega)) (by (omega)) (av bz))) wr))))))) (fun | ()=>(.s 5 (.br (Mb (bestG b (u7 q) size (u7 q) chain 0 0) == 0) (fun p12=>have p12f:=eq_of_beq p12; (.s 11 (.out [] [] (D.tup [zI 0,zI 0,zI 6]) [] R (ok _ _ (by (exact sE (by (omega)) (by (omega)) (eq_of_beq bz))) wr)))) (fun p12=>have p12f:=av p12; (.s 18 (.out [] [] (D.tup [zI (Mq (bestG b (u7 q) size (u7 q) chain 0 0)),zI (Mb (bestG b (u7 q) size (u7 q) chain 0 0)),zI 0]) [] R (ok _ _ (by (exact yr (by (omega)) (by (omega)) (av bz))) wr)))))))))))))))))))))))))))))))))))))))))))))))))) (by kernel_rfl)
end Vm
end Go.Proofs.YtefjnofhgkjpmaaGreat
namespace Go.Proofs.YtefjnofhgkjpmaaGreat
open Go.RowKit Go.Bw Go.Vx
namespace Vm
theorem gF (b:List UInt8) (i:Nat) (size:Int):∀ (k:Nat) (c d l:Int),bestG b i size k c d l = (d,l) ∨ ∃ j,j < k ∧ (bestG b i size k c d l).1 = (i:Int) - (j:Int) ∧ (bestG b i size k c d l).2 = (same b i j 258:Nat) ∧ 3 ≤ same b i j 258 ∧ (i:Int) - (j:Int) ≤ size
 | 0,c,d,l=>.inl rfl
 | k + 1,c,d,l=>by
  have up:∀ {c d l:Int},(∃ j,j < k ∧ (bestG b i size k c d l).1 = (i:Int) - (j:Int) ∧ (bestG b i size k c d l).2 = (same b i j 258:Nat) ∧ 3 ≤ same b i j 258 ∧ (i:Int) - (j:Int) ≤ size) → ∃ j,j < k + 1 ∧ (bestG b i size k c d l).1 = (i:Int) - (j:Int) ∧ (bestG b i size k c d l).2 = (same b i j 258:Nat) ∧ 3 ≤ same b i j 258 ∧ (i:Int) - (j:Int) ≤ size:=fun ⟨j,h1,h2⟩=>⟨j,by omega,h2⟩
  unfold bestG
  split
  ·next e =>
   split
   ·exact (gF b i size k c d l).imp id up
   ·next e3 =>
    split
    ·rcases gF b i size k (c - 1) ((i:Int) - k) (same b i k 258:Nat) with h | h
     ·exact .inr ⟨k,by omega,by rw [h],by rw [h],by omega,e.1⟩
     ·exact .inr (up h)
    ·exact (gF b i size k (c - 1) d l).imp id up
  ·exact .inl rfl
theorem jz {b:List UInt8} {n:Nat} {x size chain:Int} (h:dm b n x size chain ≠ 0):nA b n x size chain = 0 ∧ jO b n x size chain = 0:=⟨if_neg h,if_neg h⟩
def uE (n:Nat) (q size chain:Int):Prop:=n ≤ 131072 ∧ 0 ≤ q ∧ q ≤ (n:Int) ∧ 1 ≤ size ∧ size ≤ 32768 ∧ 0 ≤ chain ∧ chain ≤ 256
theorem nB {b:List UInt8} {n:Nat} {q size chain:Int} (h:uE n q size chain):(dm b n q size chain = 0 ∨ dm b n q size chain = 6) ∧ jO b n q size chain = (bestG b q.toNat size q.toNat chain 0 0).2:=by
 unfold uE at h
 have h2:¬ qT n q size chain:=by unfold qT; omega
 have e:dm b n q size chain = if (bestG b q.toNat size q.toNat chain 0 0).2 = 0 then 6 else 0:=by rw [dm,if_neg (by omega),if_neg h2]
 constructor
 ·rw [e]; split <;> simp
 ·unfold jO
  by_cases h3:(bestG b q.toNat size q.toNat chain 0 0).2 = 0
  ·rw [if_pos h3] at e; rw [if_neg (by rw [e]; decide),h3]
  ·rw [if_neg h3] at e; rw [if_pos e]
end Vm
end Go.Proofs.YtefjnofhgkjpmaaGreat
namespace Go.Proofs.YtefjnofhgkjpmaaGreat
open Go.RowKit Go.Bw Go.Vx Vm
open List (length getD map take drop flatMap replicate)
namespace Vt
theorem qW {p:Prop} (h:p:=by (refine decide_eq_false ?_; (omega))):p:=h
theorem AB {p:Prop} (h:p:=by ( have h9:=best_bd b i size chain om; omega)):p:=h
theorem AC {p:Prop} (h:p:=by (simp only [Fe]; (repeat' (first | (refine aI ?_ ?_) | (with_reducible rfl) | (refine decide_eq_true ?_) | (refine L9 ?_) | (refine er ?_))) <;> (omega))):p:=h
theorem AD {p:Prop} (h:p:=by (refine aO ?_; (omega))):p:=h
theorem AE {p:Prop} (h:p:=by (rw [L6,MN]; (omega))):p:=h
theorem IL {p:Prop} (h:p:=by show n - (i + u7 (Mb (bestG b i size i chain 0 0))) < n - i; clear next1 last1; omega):p:=h
open Vm (bestG hJ dm jO nA same i5 i4 gF nB uE jz)
def mayS (size chain most:Int):Bool:=decide (1 ≤ size) && decide (size ≤ 32768) && decide (0 ≤ chain) && decide (chain ≤ 256) && decide (1 ≤ most) && decide (most ≤ 65535)
theorem mayS_iff {size chain most:Int}:mayS size chain most = true ↔ 1 ≤ size ∧ size ≤ 32768 ∧ 0 ≤ chain ∧ chain ≤ 256 ∧ 1 ≤ most ∧ most ≤ 65535:=by
 unfold mayS; simp [and_assoc]
abbrev Fc (size chain most:Int) (lazy:Bool):D:=.agg [iD size,iD chain,iD most,.v (.bool lazy)]
theorem sty_t0 (size chain most:Int) (lazy:Bool) (hm:mayS size chain most = true):SpecH false Tryz.prog 29 [Fc size chain most lazy] [] (iD 0) []:=by
 have hm2:=mayS_iff.1 hm
 refine SpecH.run T_ok ai Tryz.func29 rfl rfl rfl trivial rfl 1000 64 (fun R ok=>(.s 13 (.f (decide (size < 1)) qW (.s 12 (.f (decide (32768 < size)) qW (.s 12 (.f (decide (chain < 0)) qW (.s 12 (.f (decide (256 < chain)) qW (.s 12 (.f (decide (most < 1)) qW (.s 10 (.f (decide (65535 < most)) qW (.s 1 (.out [] [] (zI 0) [] R (ok _ _ wr wr)))))))))))))))) (by kernel_rfl)
theorem sty_t8 (size chain most:Int) (lazy:Bool) (hm:mayS size chain most = false):SpecH false Tryz.prog 29 [Fc size chain most lazy] [] (iD 8) []:=by
 have hm2:=mt mayS_iff.2 (by rw [hm]; decide)
 refine SpecH.run T_ok ai Tryz.func29 rfl rfl rfl trivial rfl 1000 64 (fun R ok=>(.s 13 (.br (decide (size < 1)) (fun p0=>have p0f:=ba p0; (.s 39 (.out [] [] (zI 8) [] R (ok _ _ wr wr)))) (fun p0=>have p0f:=bb p0; (.s 12 (.br (decide (32768 < size)) (fun p1=>have p1f:=ba p1; (.s 31 (.out [] [] (zI 8) [] R (ok _ _ wr wr)))) (fun p1=>have p1f:=bb p1; (.s 12 (.br (decide (chain < 0)) (fun p2=>have p2f:=ba p2; (.s 23 (.out [] [] (zI 8) [] R (ok _ _ wr wr)))) (fun p2=>have p2f:=bb p2; (.s 12 (.br (decide (256 < chain)) (fun p3=>have p3f:=ba p3; (.s 15 (.out [] [] (zI 8) [] R (ok _ _ wr wr)))) (fun p3=>have p3f:=bb p3; (.s 12 (.br (decide (most < 1)) (fun p4=>have p4f:=ba p4; (.s 7 (.out [] [] (zI 8) [] R (ok _ _ wr wr)))) (fun p4=>have p4f:=bb p4; (.s 10 (.t (decide (65535 < most)) (by (refine decide_eq_true ?_; (omega))) (.s 1 (.out [] [] (zI 8) [] R (ok _ _ wr wr))))))))))))))))))))) (by kernel_rfl)
def l9 (b:List UInt8) (size chain:Int) (lazy:Bool) (i:Nat):Int:=if lazy = true ∧ i + 1 < b.length then (bestG b (i + 1) size (i + 1) chain 0 0).2 else 0
def tokAt (b:List UInt8) (size chain:Int) (lazy:Bool) (i:Nat):Tok :=
 if (bestG b i size i chain 0 0).2 = 0 ∨ (bestG b i size i chain 0 0).2 < l9 b size chain lazy i then ⟨b.getD i ji,0,0⟩ else ⟨0,(bestG b i size i chain 0 0).1,(bestG b i size i chain 0 0).2⟩
def my (t:Tok):Nat:=if t.long = 0 then 1 else t.long.toNat
def cutK (b:List UInt8) (size chain:Int) (lazy:Bool):Nat → Nat → List Tok
 | 0,_=>[]
 | k + 1,i=>if i < b.length then tokAt b size chain lazy i :: cutK b size chain lazy k (i + my (tokAt b size chain lazy i)) else []
def cutG (b:List UInt8) (size chain:Int) (lazy:Bool) (i:Nat):List Tok:=cutK b size chain lazy (b.length - i) i
theorem best_bd (b:List UInt8) (i:Nat) (size chain:Int) (hi:i ≤ b.length):0 ≤ (bestG b i size i chain 0 0).2 ∧ (bestG b i size i chain 0 0).2 ≤ 258 ∧ (i:Int) + (bestG b i size i chain 0 0).2 ≤ b.length ∧ 0 ≤ (bestG b i size i chain 0 0).1 ∧ (bestG b i size i chain 0 0).1 ≤ i ∧ ((bestG b i size i chain 0 0).2 = 0 → (bestG b i size i chain 0 0).1 = 0) ∧ ((bestG b i size i chain 0 0).2 ≠ 0 → 3 ≤ (bestG b i size i chain 0 0).2 ∧ 1 ≤ (bestG b i size i chain 0 0).1 ∧ (bestG b i size i chain 0 0).1 ≤ size):=by
 rcases gF b i size i chain 0 0 with h | ⟨j,h1,h2,h3,h4,h5⟩
 ·rw [h]; simp; omega
 ·rw [h2,h3]
  have:=i5 b i j
  have:=i4 b 258 i j hi
  omega
theorem ma (b:List UInt8) (size chain:Int) (lazy:Bool) (i:Nat) (hi:i < b.length):1 ≤ my (tokAt b size chain lazy i) ∧ i + my (tokAt b size chain lazy i) ≤ b.length:=by
 have h:=best_bd b i size chain (by omega)
 unfold tokAt
 split
 ·unfold my; simp; omega
 ·next e =>
  unfold my
  dsimp only
  rw [if_neg (fun q=>e (.inl q))]
  omega
theorem nC (b:List UInt8) (size chain:Int) (lazy:Bool):∀ (k m i:Nat),b.length - i ≤ k → b.length - i ≤ m → cutK b size chain lazy k i = cutK b size chain lazy m i
 | 0,0,i,_,_=>rfl
 | 0,m + 1,i,h,_=>by rw [cutK,cutK,if_neg (by omega)]
 | k + 1,0,i,_,h=>by rw [cutK,cutK,if_neg (by omega)]
 | k + 1,m + 1,i,h1,h2=>by
  rw [cutK,cutK]
  split
  ·next hi =>
   have:=ma b size chain lazy i hi
   rw [nC b size chain lazy k m _ (by omega) (by omega)]
  ·rfl
theorem qX {b:List UInt8} {size chain:Int} {lazy:Bool} {i:Nat} (h:b.length ≤ i):cutG b size chain lazy i = []:=by
 unfold cutG; rw [show b.length - i = 0 from by omega]; rfl
theorem nE {b:List UInt8} {size chain:Int} {lazy:Bool} {i:Nat} (h:i < b.length):cutG b size chain lazy i = tokAt b size chain lazy i :: cutG b size chain lazy (i + my (tokAt b size chain lazy i)):=by
 unfold cutG
 have:=ma b size chain lazy i h
 rw [show b.length - i = (b.length - i - 1) + 1 from by omega,cutK,if_pos h,nC b size chain lazy (b.length - i - 1) (b.length - (i + my (tokAt b size chain lazy i))) _ (by omega) (by omega)]
theorem qY (b:List UInt8) (size chain:Int) (lazy:Bool):∀ k i:Nat,(cutK b size chain lazy k i).length ≤ b.length - i
 | 0,i=>by simp [cutK]
 | k + 1,i=>by
  rw [cutK]
  split
  ·next h =>
   have h1:=qY b size chain lazy k (i + my (tokAt b size chain lazy i))
   have h2:=ma b size chain lazy i h
   rw [Mx]; omega
  ·simp
theorem cutG_len (b:List UInt8) (size chain:Int) (lazy:Bool) (i:Nat):(cutG b size chain lazy i).length ≤ b.length - i:=qY b size chain lazy _ i
theorem uF {b:List UInt8} {size chain:Int} {lazy:Bool} {i:Nat} {c R:List Tok} (hr:c ++ cutG b size chain lazy i = R) (h:i < b.length) (e:(bestG b i size i chain 0 0).2 = 0 ∨ (bestG b i size i chain 0 0).2 < l9 b size chain lazy i):(c ++ [⟨b.getD i ji,0,0⟩]) ++ cutG b size chain lazy (i + 1) = R:=by
 rw [nE h,tokAt,if_pos e,my,if_pos rfl] at hr
 rw [Mu]; exact hr
theorem qZ {b:List UInt8} {size chain:Int} {lazy:Bool} {i j:Nat} {c R:List Tok} (hr:c ++ cutG b size chain lazy i = R) (h:i < b.length) (e:¬ ((bestG b i size i chain 0 0).2 = 0 ∨ (bestG b i size i chain 0 0).2 < l9 b size chain lazy i)) (hj:(j:Int) = i + (bestG b i size i chain 0 0).2):(c ++ [⟨0,(bestG b i size i chain 0 0).1,(bestG b i size i chain 0 0).2⟩]) ++ cutG b size chain lazy j = R:=by
 have hb:=best_bd b i size chain (by omega)
 rw [nE h,tokAt,if_neg e,my,if_neg (fun q=>e (.inl q)),show i + (bestG b i size i chain 0 0).2.toNat = j from by omega] at hr
 rw [Mu]; exact hr
theorem uG {b:List UInt8} {size chain:Int} {lazy:Bool} {i:Nat} (h:lazy = true) (h2:i + 1 < b.length):l9 b size chain lazy i = (bestG b (i + 1) size (i + 1) chain 0 0).2:=if_pos ⟨h,h2⟩
theorem AF {b:List UInt8} {size chain:Int} {lazy:Bool} {i:Nat} (h:lazy = false ∨ b.length ≤ i + 1):l9 b size chain lazy i = 0:=if_neg (by
 rintro ⟨h1,h2⟩
 rcases h with h | h
 ·rw [h] at h1; cases h1
 ·omega)
theorem Fe (l:List Tok):(l.flatMap tokD).length = l.length * 3:=bl (f:=tokD) (k:=3) (fun _=>rfl) l
theorem q6 {b:List UInt8} {n i:Nat} {size chain:Int} (hn:n = b.length) (h:n ≤ 131072) (hi:i ≤ n) (hs:1 ≤ size ∧ size ≤ 32768) (hc:0 ≤ chain ∧ chain ≤ 256):jO b n i size chain = (bestG b i size i chain 0 0).2 ∧ nA b n i size chain = (bestG b i size i chain 0 0).1:=by
 have g:=nB (b:=b) (n:=n) (q:=i) (size:=size) (chain:=chain) (by unfold uE; omega)
 simp only [Nq] at g
 refine ⟨g.2,?_⟩
 by_cases e:dm b n i size chain = 0
 ·exact if_pos e
 ·have h0:=(jz e).2
  have hb:=best_bd b i size chain (by omega)
  rw [(jz e).1,hb.2.2.2.2.2.1 (by rw [← g.2,h0])]
theorem FindTok (b:List UInt8) (n i:Nat) (size chain:Int) (hn:n = b.length) (h:n ≤ 131072) (hi:i ≤ n) (hs:1 ≤ size ∧ size ≤ 32768) (hc:0 ≤ chain ∧ chain ≤ 256):SpecH false Tryz.prog 117 [.sl false n 1 (b.map dB),iD i,iD size,iD chain] [] (.tup [iD (bestG b i size i chain 0 0).1,iD (bestG b i size i chain 0 0).2,iD (dm b n i size chain)]) []:=by
 have h2:=KV b n i size chain hn (by omega) (by omega) (by omega) (by omega)
 unfold hJ at h2
 rw [(q6 hn h hi hs hc).1,(q6 hn h hi hs hc).2] at h2
 exact h2
theorem FindTok1 (b:List UInt8) (n i:Nat) (size chain:Int) (hn:n = b.length) (h:n ≤ 131072) (hi:i + 1 ≤ n) (hs:1 ≤ size ∧ size ≤ 32768) (hc:0 ≤ chain ∧ chain ≤ 256):SpecH false Tryz.prog 117 [.sl false n 1 (b.map dB),iD ((i:Int) + 1),iD size,iD chain] [] (.tup [iD (bestG b (i + 1) size (i + 1) chain 0 0).1,iD (bestG b (i + 1) size (i + 1) chain 0 0).2,iD (dm b n ((i:Int) + 1) size chain)]) []:=FindTok b n (i + 1) size chain hn h hi hs hc
theorem Cut_ok (b:List UInt8) (n:Nat) (size chain most q:Int) (lazy:Bool) (hn:n = b.length) (hN:n ≤ 1000000) (hq:-9223372036854775808 ≤ q ∧ q ≤ 9223372036854775807) (hm:mayS size chain most = true) (h:n ≤ 131072 ∧ 0 ≤ q ∧ q ≤ n):SpecH false Tryz.prog 67 [.sl false n 1 (b.map dB),iD q,Fc size chain most lazy] [] (.tup [.ref 0 0 0 (cutG b size chain lazy q.toNat).length 3,iD 0]) [⟨(cutG b size chain lazy q.toNat).flatMap tokD, 119, true⟩]:=by
 have hm2:=mayS_iff.1 hm
 obtain ⟨k,rfl⟩:=M2 h.2.1
 simp only [Nq]
 refine SpecH.run T_ok ai Tryz.func67 rfl rfl rfl ⟨ef (fun _=>rfl) _,trivial⟩ rfl 1000 64 (fun R ok=>(.s 10 (.cl 29 false [] (.fn I1 (@Go.Proofs.YtefjnofhgkjpmaaGreat.Vt.sty_t0 (size) (chain) (most) (lazy) om)) (.s 9 (.f (decide (131072 < (n:Int))) qW (.s 14 (.f (decide ((n:Int) < (k:Int))) qW (.s 27 (.nilc 8 8 (Blk.mk [zS] 82 false) 0 312 3 119 (Hn.inl T_ok ai false 55 296 (ay Tryz.prog 118 0) (fun (x:(i:Nat) ×' (hi:i ≤ n) ×' (c:List Tok) ×' (hr:c ++ cutG b size chain lazy i = cutG b size chain lazy k) ×' (hb:c.length ≤ i) ×' Unit)=>match x with | ⟨i,hi,c,hr,hb,_⟩=>CutS.mk [(0,D.yl 288 288),(2,D.ptr 184 184 0),(3,D.ptr 224 224 0),(4,D.ptr 200 200 0),(6,iD (i:Nat))] [⟨0,0,0,0,.b ⟨[zI size,zI chain,zI most,D.v (.bool lazy)],23,false⟩⟩,⟨8,8,8,8,.b ⟨[(D.ref 352 352 (0) (c.length) 3)],82,false⟩⟩,⟨184,184,184,184,.b ⟨[D.sl false n 1 (map dB b)],24,false⟩⟩,⟨192,192,192,192,.b ⟨[zN k],3,false⟩⟩,⟨200,200,200,200,.b ⟨[zI size,zI chain,zI most,D.v (.bool lazy)],23,false⟩⟩,⟨224,224,224,224,.b ⟨[D.fn (MG 116) [] [D.ptr 184 184 0,D.ptr 200 200 0]],196,false⟩⟩,⟨288,288,288,288,.l Oh none (rangeAt Tryz.prog 67 0).1 (rangeAt Tryz.prog 67 0).2.1 (rangeAt Tryz.prog 67 0).2.2 36 [(0,D.sl false n 1 (map dB b)),(1,zN k),(7,zI 0),(15,D.sl false n 1 (map dB b)),(23,zN n),(11,zI 0),(19,D.v (.bool false)),(27,zN k),(5,D.ptr 0 0 0),(17,D.v (.bool false)),(25,D.v (.bool false)),(13,D.v (.bool false)),(21,zN k),(29,D.fn (MG 118) [] [D.ptr 192 192 0,D.ptr 184 184 0,D.ptr 224 224 0,D.ptr 200 200 0]),(2,D.agg [zI size,zI chain,zI most,D.v (.bool lazy)]),(8,zI 0),(16,zN n),(24,D.v (.bool (decide ((n:Int) < (k:Int))))),(12,zI 0),(20,D.v (.bool false)),(28,D.agg [zI size,zI chain,zI most,D.v (.bool lazy)]),(6,D.ptr 8 8 0),(10,D.agg [zI size,zI chain,zI most,D.v (.bool lazy)]),(18,zN k),(26,D.sl false n 1 (map dB b)),(22,D.sl false n 1 (map dB b))]⟩,⟨352,352,312,312,.b ⟨c.flatMap tokD,119,true⟩⟩] 360) (fun (x:(i:Nat) ×' (hi:i ≤ n) ×' (c:List Tok) ×' (hr:c ++ cutG b size chain lazy i = cutG b size chain lazy k) ×' (hb:c.length ≤ i) ×' Unit)=>match x with | ⟨i,hi,c,hr,hb,_⟩=>n - i) [⟨Unit,.exit 0,fun x=>match x with | ()=>CutS.mk [(0,D.yl 288 288),(2,D.ptr 184 184 0),(3,D.ptr 224 224 0),(4,D.ptr 200 200 0)] [⟨0,0,0,0,.b ⟨[zI size,zI chain,zI most,D.v (.bool lazy)],23,false⟩⟩,⟨8,8,8,8,.b ⟨[(D.ref 352 352 (0) ((cutG b size chain lazy k).length) 3)],82,false⟩⟩,⟨184,184,184,184,.b ⟨[D.sl false n 1 (map dB b)],24,false⟩⟩,⟨192,192,192,192,.b ⟨[zN k],3,false⟩⟩,⟨200,200,200,200,.b ⟨[zI size,zI chain,zI most,D.v (.bool lazy)],23,false⟩⟩,⟨224,224,224,224,.b ⟨[D.fn (MG 116) [] [D.ptr 184 184 0,D.ptr 200 200 0]],196,false⟩⟩,⟨288,288,288,288,.l Oh none (rangeAt Tryz.prog 67 0).1 (rangeAt Tryz.prog 67 0).2.1 (rangeAt Tryz.prog 67 0).2.2 36 [(0,D.sl false n 1 (map dB b)),(1,zN k),(7,zI 0),(15,D.sl false n 1 (map dB b)),(23,zN n),(11,zI 0),(19,D.v (.bool false)),(27,zN k),(5,D.ptr 0 0 0),(17,D.v (.bool false)),(25,D.v (.bool false)),(13,D.v (.bool false)),(21,zN k),(29,D.fn (MG 118) [] [D.ptr 192 192 0,D.ptr 184 184 0,D.ptr 224 224 0,D.ptr 200 200 0]),(2,D.agg [zI size,zI chain,zI most,D.v (.bool lazy)]),(8,zI 0),(16,zN n),(24,D.v (.bool (decide ((n:Int) < (k:Int))))),(12,zI 0),(20,D.v (.bool false)),(28,D.agg [zI size,zI chain,zI most,D.v (.bool lazy)]),(6,D.ptr 8 8 0),(10,D.agg [zI size,zI chain,zI most,D.v (.bool lazy)]),(18,zN k),(26,D.sl false n 1 (map dB b)),(22,D.sl false n 1 (map dB b))]⟩,⟨352,352,312,312,.b ⟨(cutG b size chain lazy k).flatMap tokD,119,true⟩⟩] 360⟩] 1000 64 (fun | ⟨i,hi,c,hr,hb,_⟩,Q,next1,last1=>(.s 7 (.br (decide ((i:Int) < (n:Int))) (fun p0=>have p0f:=ba p0; (.s 5 (.chk (true && decide ((i:Int) < (n:Int)) && true) (by ((refine aI ?_ ?_) <;> (repeat' (first | (refine aI ?_ ?_) | (with_reducible rfl) | (refine decide_eq_true ?_) | (refine L9 ?_) | (refine er ?_))) <;> (omega))) (.s 2 (.opt ((map dB b)[i * 1]?) (dB (getD b (i * 1) ji)) (au _ _ om) (.s 10 (.ow ((i:Int) + 1) (.s 16 (.t (decide ((i:Int) < (n:Int))) p0 (.s 17 (.cl 117 false [] (.fn GQ (@Go.Proofs.YtefjnofhgkjpmaaGreat.Vt.FindTok (b) (n) (i) (size) (chain) om om om om om)) (.s 23 (.br (decide (0 < Mb (bestG b i size i chain 0 0))) (fun p1=>have p1f:=ba p1; (.s 7 (.br (lazy) (fun p2=>(.s 6 (.ow ((i:Int) + 1) (.s 11 (.t (decide ((i:Int) + 1 < (n:Int))) (by (refine decide_eq_true ?_;  have h9:=best_bd b i size chain om; omega)) (.s 17 (.cl 117 false [] (.fn GQ (@Go.Proofs.YtefjnofhgkjpmaaGreat.Vt.FindTok1 (b) (n) (i) (size) (chain) om om om om om)) (.s 23 (.br (decide (Mb (bestG b (i + 1) size (i + 1) chain 0 0) ≤ Mb (bestG b i size i chain 0 0))) (fun p3=>have p3f:=ba p3; (.s 8 (.op ((i:Int) + Mb (bestG b i size i chain 0 0)) AB (.s 25 (.chk (true && L2 (length c * 3) (length (flatMap tokD c)) && true && true && true && true && L5 ((length c + 1) * 24) 140737488355328) AC (.s 7 (.val 6 (zI ((i:Int) + Mb (bestG b i size i chain 0 0))) (zN (i + u7 (Mb (bestG b i size i chain 0 0)))) AD (.blk 8 8 (Blk.mk [D.ref 1216 1216 0 (length c + 1) 3] 82 false) (Blk.mk [D.ref 1216 1216 0 (length (c ++ [Tok.mk 0 (Mq (bestG b i size i chain 0 0)) (Mb (bestG b i size i chain 0 0))])) 3] 82 false) (by (simp; done)) (.blk 1216 1216 (Blk.mk (flatMap tokD c ++ [bI 0,zI (Mq (bestG b i size i chain 0 0)),zI (Mb (bestG b i size i chain 0 0))]) 119 true) (Blk.mk (flatMap tokD (c ++ [Tok.mk 0 (Mq (bestG b i size i chain 0 0)) (Mb (bestG b i size i chain 0 0))])) 119 true) (by (exact ku rfl)) (Hn.next next1 ⟨(i + (bestG b i size i chain 0 0).2.toNat),AB,(c ++ [⟨0,(bestG b i size i chain 0 0).1,(bestG b i size i chain 0 0).2⟩]),(by ( have h9:=best_bd b i size chain om; have h8:=uG (size:=size) (chain:=chain) (lazy:=lazy) (i:=i) bz (show i + 1 < b.length by omega); exact qZ hr om om om)),AE,⟨⟩⟩ IL [(0,0),(8,8),(184,184),(192,192),(200,200),(224,224),(288,288),(1216,1216)] ro)))))))))) (fun p3=>have p3f:=bb p3; (.s 21 (.chk (true && L2 (length c * 3) (length (flatMap tokD c)) && true && true && true && true && L5 ((length c + 1) * 24) 140737488355328) AC (.s 7 (.val 6 (zI ((i:Int) + 1)) (zN (i + 1)) AD (.blk 8 8 (Blk.mk [D.ref 1152 1152 0 (length c + 1) 3] 82 false) (Blk.mk [D.ref 1152 1152 0 (length (c ++ [Tok.mk (getD b i ji) 0 0])) 3] 82 false) (by (simp; done)) (.blk 1152 1152 (Blk.mk (flatMap tokD c ++ [dL (L4 (getD b (i * 1) ji)),zI 0,zI 0]) 119 true) (Blk.mk (flatMap tokD (c ++ [Tok.mk (getD b i ji) 0 0])) 119 true) (by (refine ku ?_; simp only [My]; rfl)) (Hn.next next1 ⟨(i + 1),om,(c ++ [⟨b.getD i ji,0,0⟩]),(by ( have h9:=best_bd b i size chain om; have h8:=uG (size:=size) (chain:=chain) (lazy:=lazy) (i:=i) bz (show i + 1 < b.length by omega); exact uF hr om om)),AE,⟨⟩⟩ (by show n - (i + 1) < n - i; clear next1 last1; omega) [(0,0),(8,8),(184,184),(192,192),(200,200),(224,224),(288,288),(1152,1152)] ro))))))))))))))))) (fun p2=>(.s 4 (.t (decide (0 ≤ Mb (bestG b i size i chain 0 0))) (by (refine decide_eq_true ?_; (omega))) (.s 8 (.op ((i:Int) + Mb (bestG b i size i chain 0 0)) AB (.s 25 (.chk (true && L2 (length c * 3) (length (flatMap tokD c)) && true && true && true && true && L5 ((length c + 1) * 24) 140737488355328) AC (.s 7 (.val 6 (zI ((i:Int) + Mb (bestG b i size i chain 0 0))) (zN (i + u7 (Mb (bestG b i size i chain 0 0)))) AD (.blk 8 8 (Blk.mk [D.ref 936 936 0 (length c + 1) 3] 82 false) (Blk.mk [D.ref 936 936 0 (length (c ++ [Tok.mk 0 (Mq (bestG b i size i chain 0 0)) (Mb (bestG b i size i chain 0 0))])) 3] 82 false) (by (simp; done)) (.blk 936 936 (Blk.mk (flatMap tokD c ++ [bI 0,zI (Mq (bestG b i size i chain 0 0)),zI (Mb (bestG b i size i chain 0 0))]) 119 true) (Blk.mk (flatMap tokD (c ++ [Tok.mk 0 (Mq (bestG b i size i chain 0 0)) (Mb (bestG b i size i chain 0 0))])) 119 true) (by (exact ku rfl)) (Hn.next next1 ⟨(i + (bestG b i size i chain 0 0).2.toNat),AB,(c ++ [⟨0,(bestG b i size i chain 0 0).1,(bestG b i size i chain 0 0).2⟩]),(by ( have h9:=best_bd b i size chain om; have h8:=AF (b:=b) (size:=size) (chain:=chain) (lazy:=lazy) (i:=i) (.inl bz); exact qZ hr om om om)),AE,⟨⟩⟩ IL [(0,0),(8,8),(184,184),(192,192),(200,200),(224,224),(288,288),(936,936)] ro))))))))))))))) (fun p1=>have p1f:=bb p1; (.s 21 (.chk (true && L2 (length c * 3) (length (flatMap tokD c)) && true && true && true && true && L5 ((length c + 1) * 24) 140737488355328) AC (.s 7 (.val 6 (zI ((i:Int) + 1)) (zN (i + 1)) AD (.blk 8 8 (Blk.mk [D.ref 824 824 0 (length c + 1) 3] 82 false) (Blk.mk [D.ref 824 824 0 (length (c ++ [Tok.mk (getD b i ji) 0 0])) 3] 82 false) (by (simp; done)) (.blk 824 824 (Blk.mk (flatMap tokD c ++ [dL (L4 (getD b (i * 1) ji)),zI 0,zI 0]) 119 true) (Blk.mk (flatMap tokD (c ++ [Tok.mk (getD b i ji) 0 0])) 119 true) (by (refine ku ?_; simp only [My]; rfl)) (Hn.next next1 ⟨(i + 1),om,(c ++ [⟨b.getD i ji,0,0⟩]),(by ( have h9:=best_bd b i size chain om; exact uF hr om om)),AE,⟨⟩⟩ (by show n - (i + 1) < n - i; clear next1 last1; omega) [(0,0),(8,8),(184,184),(192,192),(200,200),(224,224),(288,288),(824,824)] ro))))))))))))))))))))) (fun p0=>have p0f:=bb p0; (.blk 8 8 (Blk.mk [D.ref 352 352 0 (length c) 3] 82 false) (Blk.mk [D.ref 352 352 0 (length (cutG b size chain lazy k)) 3] 82 false) (by ( rw [qX om,MU] at hr; rw [hr])) (.blk 352 352 (Blk.mk (flatMap tokD c) 119 true) (Blk.mk (flatMap tokD (cutG b size chain lazy k)) 119 true) (by ( rw [qX om,MU] at hr; rw [hr])) (Hn.last last1 0 (():Unit) rfl [(0,0),(8,8),(184,184),(192,192),(200,200),(224,224),(288,288),(352,352)] ro))))))) (fun | ⟨i,hi,c,hr,hb,_⟩=>by kernel_rfl) ⟨(k),om,([]),(by (simp; done)),(by (simp; done)),⟨⟩⟩ [(0,0),(8,8),(184,184),(192,192),(200,200),(224,224),(288,288),(312,312)] ro (bZ (fun | ()=>(.s 9 (.out [352] [352] (D.tup [D.ref 0 0 0 (length (cutG b size chain lazy k)) 3,zI 0]) [Blk.mk (flatMap tokD (cutG b size chain lazy k)) 119 true] R (ok _ _ wr wr))))))))))))))) (by kernel_rfl)
end Vt
end Go.Proofs.YtefjnofhgkjpmaaGreat
namespace Go.Proofs.YtefjnofhgkjpmaaGreat
open Go.RowKit Go.Bw Go.Vx
open List (length getD map take drop flatMap replicate)
namespace Vp
theorem AG {p:Prop} (h:p:=by (refine aO ?_; (omega))):p:=h
theorem AH {p:Prop} (h:p:=by (refine decide_eq_true ?_;  have h9:=hl i; unfold mg at h9; have h8:=Fh (l.getD i ji).lit; omega)):p:=h
theorem Fv {p:Prop} (h:p:=by (refine decide_eq_false ?_; (omega))):p:=h
theorem Fw {p:Prop} (h:p:=by ( have h9:=hl i; unfold mg at h9; have h8:=Fh (l.getD i ji).lit; rcases h9 with h9 | h9 <;> omega)):p:=h
theorem Fx {p:Prop} (h:p:=by show k - (i + 1) < k - i; clear next1 last1; omega):p:=h
theorem Jg {p:Prop} (h:p:=by ((refine aI ?_ ?_) <;> (repeat' (first | (refine aI ?_ ?_) | (with_reducible rfl) | (refine decide_eq_true ?_) | (refine L9 ?_) | (refine er ?_))) <;> (omega))):p:=h
theorem KW {p:Prop} (h:p:=by (rw [cb]; refine L9 ?_; (omega))):p:=h
theorem KX {p:Prop} (h:p:=by (refine decide_eq_true ?_; (omega))):p:=h
theorem KY {p:Prop} (h:p:=by ( have h9:=hl i; unfold mg at h9; have h8:=Fh (l.getD i ji).lit; rcases h9 with h9 | h9 <;> (try have h7:=h8.1 h9.1) <;> omega)):p:=h
theorem Ff (nn1 nn2:Bool) (X Y:List UInt8) (a b:Nat) (ha:a = X.length) (hb:b = Y.length) (ha2:a ≤ 10000000) (hb2:b ≤ 10000000):SpecH false Tryz.prog 68 [.sl false 2 1 [.sl nn1 a 1 (X.map dB),.sl nn2 b 1 (Y.map dB)]] [] (.ref 0 0 0 (a + b) 1) [⟨(X ++ Y).map dB, 5, true⟩]:=by
 refine SpecH.run T_ok ai Tryz.func68 rfl rfl rfl ⟨aT _,trivial⟩ rfl 1000 64 (fun R ok=>(.s 20 (.ow (0 + (a:Int)) (.s 23 (.ow (0 + (a:Int) + (b:Int)) (.s 30 (.ow (0 + (a:Int) + (b:Int) - 0) (.s 4 (.br (decide (0 < 0 + (a:Int) + (b:Int) - 0)) (fun p0=>have p0f:=ba p0; (.s 7 (.chk (decide (0 < 0 + (a:Int) + (b:Int) - 0) && true && L5 (u7 (0 + (a:Int) + (b:Int) - 0)) 140737488355328 && L5 (u7 (0 + (a:Int) + (b:Int) - 0) * 1) 140737488355328) Jg (.s 3 (.chk (aM none (some 0) none (u7 (0 + (a:Int) + (b:Int) - 0)) && true) (by (simp; done)) (.s 20 (.chk (true && L5 ((0 + a) * 1) 140737488355328) (by (refine L9 ?_; (omega))) (.s 17 (.chk (true && L2 ((0 + a) * 1) (length (map dB X)) && true && true && true && true && L5 ((0 + a + b) * 1) 140737488355328) (by (simp <;> (omega))) (.s 10 (.out [648] [648] (D.ref 0 0 0 (0 + a + b) 1) [Blk.mk (map dB X ++ map dB Y) 5 true] R (ok _ _ (by (simp; done)) (by (simp; done)))))))))))))) (fun p0=>have p0f:=bb p0; (.s 19 (.chk (true && L5 ((0 + a) * 1) 140737488355328) (by (refine L9 ?_; (omega))) (.s 17 (.chk (true && L2 (a * 1) (length (map dB X)) && true && true && true && true && L5 ((a + b) * 1) 140737488355328) (by (simp <;> (omega))) (.s 10 (.out [568] [568] (D.ref 0 0 0 (a + b) 1) [Blk.mk (map dB X ++ map dB Y) 5 true] R (ok _ _ wr (by (simp; done))))))))))))))))))) (by kernel_rfl)
theorem IM (l:List Bool) (m:Nat) (hm:m = (pk l).length) (hl:l.length ≤ 8388608):SpecH false Tryz.prog 52 [yH m l] [] (.tup [.agg [.ref 0 0 0 m 1,nD (8 * m)],iD 0]) [⟨(pk l).map dB, 5, true⟩]:=by
 have h9:=ac l
 refine SpecH.run T_ok ai Tryz.func52 rfl rfl rfl ⟨aT _,trivial⟩ rfl 1000 64 (fun R ok=>(.s 10 (.cl 43 false [] (.fn I2 (@ox (l) (m) om om)) (.s 13 (.cl 56 false [] (.fn qi (@bN (pk l) (m) om om)) (.s 9 (.ow (8 * (m:Int)) (.s 9 (.out [80] [80] (D.tup [D.agg [D.ref 0 0 0 m 1,zI (8 * (m:Int))],zI 0]) [Blk.mk (map dB (pk l)) 5 true] R (ok _ _ (by (simp; done)) wr)))))))))) (by kernel_rfl)
def mg (t:Tn):Prop:=(t.long = 0 ∧ t.dist = 0) ∨ (t.lit = 0 ∧ 3 ≤ t.long ∧ t.long ≤ 258 ∧ 1 ≤ t.dist ∧ t.dist ≤ 32768)
theorem mg.may {t:Tn} (h:mg t):dj t:=by
 rcases h with h | h
 ·exact .inl h.1
 ·exact .inr h.2
def yx (t:Vt.Tok):Tn:=⟨t.lit,t.dist.toNat,t.long.toNat⟩
structure TokK (t:Vt.Tok):Prop where
 d:0 ≤ t.dist
 l:0 ≤ t.long
 ok:mg (yx t)
theorem AI {b:List UInt8} {sz ch:Nat} {lz:Bool} {i:Nat} (hs:sz ≤ 32768) (hi:i < b.length):TokK (Vt.tokAt b (sz:Int) (ch:Int) lz i):=by
 have h:=Vt.best_bd b i (sz:Int) (ch:Int) (by omega)
 unfold Vt.tokAt
 split
 ·exact ⟨Int.le_refl _,Int.le_refl _,.inl ⟨rfl,rfl⟩⟩
 ·next q =>
  have h2:=h.2.2.2.2.2.2 (fun e=>q (.inl e))
  refine ⟨h.2.2.2.1,h.1,.inr ⟨rfl,?_⟩⟩
  show 3 ≤ (Vm.bestG b i (sz:Int) i (ch:Int) 0 0).2.toNat ∧ (Vm.bestG b i (sz:Int) i (ch:Int) 0 0).2.toNat ≤ 258 ∧ 1 ≤ (Vm.bestG b i (sz:Int) i (ch:Int) 0 0).1.toNat ∧ (Vm.bestG b i (sz:Int) i (ch:Int) 0 0).1.toNat ≤ 32768
  omega
theorem sF {b:List UInt8} {sz ch:Nat} {lz:Bool} (hs:sz ≤ 32768):∀ (k i:Nat),∀ t ∈ Vt.cutK b (sz:Int) (ch:Int) lz k i,TokK t
 | 0,_=>fun t ht=>absurd ht N5
 | k + 1,i=>fun t ht=>by
  rw [Vt.cutK] at ht
  split at ht
  ·next q =>
   rcases List.mem_cons.1 ht with e | e
   ·subst e; exact AI hs q
   ·exact sF hs k _ t e
  ·exact absurd ht N5
def Di (b:List UInt8) (q sz ch:Nat) (lz:Bool):List Tn:=lk b ((Vt.cutG b (sz:Int) (ch:Int) lz q).map yx)
theorem pa (b:List UInt8) (q sz ch:Nat) (lz:Bool):Di b q sz ch lz = (Vt.cutG b (sz:Int) (ch:Int) lz q).map yx:=aG _ _
theorem AJ (b:List UInt8) (q sz ch:Nat) (lz:Bool):(Di b q sz ch lz).length ≤ b.length - q:=by
 rw [pa,Mg]; exact Vt.cutG_len _ _ _ _ _
theorem yy:∀ l:List Vt.Tok,(∀ t ∈ l,TokK t) → l.flatMap Vt.tokD = (l.map yx).flatMap aZ
 | [],_=>rfl
 | t :: r,h=>by
  have h1:=h t Mp
  have e:Vt.tokD t = aZ (yx t):=by
   show [dB t.lit,D.v (.int .i64 t.dist),D.v (.int .i64 t.long)] = [dB t.lit,D.v (.int .i64 ((t.dist.toNat:Nat):Int)),D.v (.int .i64 ((t.long.toNat:Nat):Int))]
   rw [Nn h1.d,Nn h1.l]
  rw [NL,M6,M6,e,yy r fun t ht=>h t (Mn _ ht)]
theorem Fg {b:List UInt8} {q sz ch:Nat} {lz:Bool} (hs:sz ≤ 32768):(Vt.cutG b (sz:Int) (ch:Int) lz q).flatMap Vt.tokD = (Di b q sz ch lz).flatMap aZ:=by
 rw [pa]; exact yy _ (sF hs _ _)
theorem gG {b:List UInt8} {q sz ch:Nat} {lz:Bool} (hs:sz ≤ 32768) (i:Nat):mg ((Di b q sz ch lz).getD i ji):=by
 rw [pa,List.getD_eq_getElem?_getD,List.getElem?_map]
 cases h:(Vt.cutG b (sz:Int) (ch:Int) lz q)[i]? with
 | none=>exact .inl ⟨rfl,rfl⟩
 | some t=>exact (sF hs _ _ t (List.mem_of_getElem? h)).ok
abbrev KZ (sz ch mo:Nat) (lz:Bool):D:=.agg [nD sz,nD ch,nD mo,bD lz]
theorem IN (b:List UInt8) (n q:Nat) (hn:n = b.length) (hN:n ≤ 131072) (hq:q ≤ n) (sz ch mo:Nat) (lz:Bool) (hs:1 ≤ sz ∧ sz ≤ 32768) (hc:ch ≤ 256) (hm:1 ≤ mo ∧ mo ≤ 65535) (T:List Tn) (hT:Di b q sz ch lz = T):SpecH false Tryz.prog 67 [.sl false n 1 (b.map dB),nD q,KZ sz ch mo lz] [] (.tup [.ref 0 0 0 T.length 3,iD 0]) [⟨T.flatMap aZ, 119, true⟩]:=by
 subst hT
 have h:=Vt.Cut_ok b n (sz:Int) (ch:Int) (mo:Int) (q:Int) lz hn (by omega) (by omega) (Vt.mayS_iff.2 (by omega)) (by omega)
 rw [Nq,Fg hs.2,show (Vt.cutG b (sz:Int) (ch:Int) lz q).length = (Di b q sz ch lz).length from by rw [pa,Mg]] at h
 exact h
theorem Fh (x:UInt8):(x = 0 → ((x.toNat:Nat):Int) = 0) ∧ x.toNat < 256:=⟨fun h=>by rw [h]; rfl,x.toNat_lt⟩
theorem AK (l:List Tn) (k:Nat) (hk:k = l.length) (hk2:k ≤ 65535) (hl:∀ i,mg (l.getD i ji)) (raw:List UInt8) (r:Nat) (hr:r = raw.length) (hr2:r ≤ 65535):SpecH false Tryz.prog 64 [f8 0,.sl false r 1 (raw.map dB),.sl false k 3 (l.flatMap aZ)] [] (iD 0) []:=by
 refine SpecH.run T_ok ai Tryz.func64 rfl rfl rfl trivial rfl 1000 64 (fun R ok=>(.s 11 (.f (decide (65535 < (r:Int))) Fv (.s 6 (.f (decide (65535 < (k:Int))) Fv (.s 12 (Hn.inl T_ok ai false 19 136 (ay Tryz.prog 103 0) (fun (x:(i:Nat) ×' (hi:i ≤ k) ×' Unit)=>match x with | ⟨i,hi,_⟩=>CutS.mk [(0,D.sl false k 3 (flatMap aZ l)),(1,D.fn (MG 83) [] []),(7,zN k),(8,nD i)] [] 136) (fun (x:(i:Nat) ×' (hi:i ≤ k) ×' Unit)=>match x with | ⟨i,hi,_⟩=>k - i) [⟨Unit,.exit 0,fun x=>match x with | ()=>CutS.mk [(0,D.sl false k 3 (flatMap aZ l)),(1,D.fn (MG 83) [] []),(7,zN k),(8,nD k)] [] 136⟩] 1000 64 (fun | ⟨i,hi,_⟩,Q,next1,last1=>(.s 2 (.br (decide ((i:Int) < (k:Int))) (fun p0=>have p0f:=ba p0; (.s 6 (.chk (true && decide ((i:Int) < (k:Int)) && true) Jg (.s 2 (.chk (L5 (i * 3 + 3) (length (flatMap aZ l))) KW (.lst (take 3 (drop (i * 3) (flatMap aZ l))) ([dL (L4 (Tn.lit (getD l i ji))),zN (Tn.dist (getD l i ji)),zN (Tn.long (getD l i ji))]) (aE (k:=3) (i:=i) (fun _=>rfl) om om) (.s 42 (.br (!decide (0 < (↑(Tn.long (getD l i ji)):Int))) (fun p1=>have p1f:=bb (fq p1); (.s 10 (.t ((↑(Tn.long (getD l i ji)):Int) == 0) KX (.s 12 (.br (!(↑(Tn.dist (getD l i ji)):Int) == 0) (fun p2=>have p2f:=av (fq p2); (.abs Fw)) (fun p2=>have p2f:=eq_of_beq (ft p2); (.s 7 (.ow ((i:Int) + 1) (.s 1 (.val 8 (zI ((i:Int) + 1)) (zN (i + 1)) AG (Hn.next next1 ⟨(i + 1),om,⟨⟩⟩ Fx [] ro))))))))))) (fun p1=>have p1f:=ba (ft p1); (.s 10 (.br ((↑(L4 (Tn.lit (getD l i ji))):Int) == 0) (fun p3=>have p3f:=eq_of_beq p3; (.s 12 (.t (decide (3 ≤ (↑(Tn.long (getD l i ji)):Int))) AH (.s 12 (.t (decide ((↑(Tn.long (getD l i ji)):Int) ≤ 258)) AH (.s 12 (.t (decide (1 ≤ (↑(Tn.dist (getD l i ji)):Int))) AH (.s 12 (.br (!decide ((↑(Tn.dist (getD l i ji)):Int) ≤ 32768)) (fun p4=>have p4f:=bb (fq p4); (.abs Fw)) (fun p4=>have p4f:=ba (ft p4); (.s 7 (.ow ((i:Int) + 1) (.s 1 (.val 8 (zI ((i:Int) + 1)) (zN (i + 1)) AG (Hn.next next1 ⟨(i + 1),om,⟨⟩⟩ Fx [] ro))))))))))))))) (fun p3=>have p3f:=av p3; (.abs KY))))))))))))) (fun p0=>have p0f:=bb p0; (.val 8 (zN i) (zN k) AG (Hn.last last1 0 (():Unit) rfl [] ro)))))) (fun | ⟨i,hi,_⟩=>by kernel_rfl) ⟨(0),om,⟨⟩⟩ [] ro (bZ (fun | ()=>(.s 6 (.out [] [] (zI 0) [] R (ok _ _ wr wr)))))))))))) (by kernel_rfl)
theorem AL (l:List Tn) (k:Nat) (hk:k = l.length) (hk2:k ≤ 65535) (hl:∀ i,mg (l.getD i ji)) (raw:List UInt8) (r:Nat) (hr:r = raw.length) (hr2:r ≤ 65535):SpecH false Tryz.prog 64 [f8 1,.sl false r 1 (raw.map dB),.sl false k 3 (l.flatMap aZ)] [] (iD 0) []:=by
 refine SpecH.run T_ok ai Tryz.func64 rfl rfl rfl trivial rfl 1000 64 (fun R ok=>(.s 11 (.f (decide (65535 < (r:Int))) Fv (.s 6 (.f (decide (65535 < (k:Int))) Fv (.s 12 (Hn.inl T_ok ai false 19 136 (ay Tryz.prog 103 0) (fun (x:(i:Nat) ×' (hi:i ≤ k) ×' Unit)=>match x with | ⟨i,hi,_⟩=>CutS.mk [(0,D.sl false k 3 (flatMap aZ l)),(1,D.fn (MG 83) [] []),(7,zN k),(8,nD i)] [] 136) (fun (x:(i:Nat) ×' (hi:i ≤ k) ×' Unit)=>match x with | ⟨i,hi,_⟩=>k - i) [⟨Unit,.exit 0,fun x=>match x with | ()=>CutS.mk [(0,D.sl false k 3 (flatMap aZ l)),(1,D.fn (MG 83) [] []),(7,zN k),(8,nD k)] [] 136⟩] 1000 64 (fun | ⟨i,hi,_⟩,Q,next1,last1=>(.s 2 (.br (decide ((i:Int) < (k:Int))) (fun p0=>have p0f:=ba p0; (.s 6 (.chk (true && decide ((i:Int) < (k:Int)) && true) Jg (.s 2 (.chk (L5 (i * 3 + 3) (length (flatMap aZ l))) KW (.lst (take 3 (drop (i * 3) (flatMap aZ l))) ([dL (L4 (Tn.lit (getD l i ji))),zN (Tn.dist (getD l i ji)),zN (Tn.long (getD l i ji))]) (aE (k:=3) (i:=i) (fun _=>rfl) om om) (.s 42 (.br (!decide (0 < (↑(Tn.long (getD l i ji)):Int))) (fun p1=>have p1f:=bb (fq p1); (.s 10 (.t ((↑(Tn.long (getD l i ji)):Int) == 0) KX (.s 12 (.br (!(↑(Tn.dist (getD l i ji)):Int) == 0) (fun p2=>have p2f:=av (fq p2); (.abs Fw)) (fun p2=>have p2f:=eq_of_beq (ft p2); (.s 7 (.ow ((i:Int) + 1) (.s 1 (.val 8 (zI ((i:Int) + 1)) (zN (i + 1)) AG (Hn.next next1 ⟨(i + 1),om,⟨⟩⟩ Fx [] ro))))))))))) (fun p1=>have p1f:=ba (ft p1); (.s 10 (.br ((↑(L4 (Tn.lit (getD l i ji))):Int) == 0) (fun p3=>have p3f:=eq_of_beq p3; (.s 12 (.t (decide (3 ≤ (↑(Tn.long (getD l i ji)):Int))) AH (.s 12 (.t (decide ((↑(Tn.long (getD l i ji)):Int) ≤ 258)) AH (.s 12 (.t (decide (1 ≤ (↑(Tn.dist (getD l i ji)):Int))) AH (.s 12 (.br (!decide ((↑(Tn.dist (getD l i ji)):Int) ≤ 32768)) (fun p4=>have p4f:=bb (fq p4); (.abs Fw)) (fun p4=>have p4f:=ba (ft p4); (.s 7 (.ow ((i:Int) + 1) (.s 1 (.val 8 (zI ((i:Int) + 1)) (zN (i + 1)) AG (Hn.next next1 ⟨(i + 1),om,⟨⟩⟩ Fx [] ro))))))))))))))) (fun p3=>have p3f:=av p3; (.abs KY))))))))))))) (fun p0=>have p0f:=bb p0; (.val 8 (zN i) (zN k) AG (Hn.last last1 0 (():Unit) rfl [] ro)))))) (fun | ⟨i,hi,_⟩=>by kernel_rfl) ⟨(0),om,⟨⟩⟩ [] ro (bZ (fun | ()=>(.s 6 (.out [] [] (zI 0) [] R (ok _ _ wr wr)))))))))))) (by kernel_rfl)
theorem AM (l:List Tn) (k:Nat) (hk:k = l.length) (hk2:k ≤ 65535) (hl:∀ i,mg (l.getD i ji)) (raw:List UInt8) (r:Nat) (hr:r = raw.length) (hr2:r ≤ 65535):SpecH false Tryz.prog 64 [f8 2,.sl false r 1 (raw.map dB),.sl false k 3 (l.flatMap aZ)] [] (iD 0) []:=by
 refine SpecH.run T_ok ai Tryz.func64 rfl rfl rfl trivial rfl 1000 64 (fun R ok=>(.s 11 (.f (decide (65535 < (r:Int))) Fv (.s 6 (.f (decide (65535 < (k:Int))) Fv (.s 12 (Hn.inl T_ok ai false 19 136 (ay Tryz.prog 103 0) (fun (x:(i:Nat) ×' (hi:i ≤ k) ×' Unit)=>match x with | ⟨i,hi,_⟩=>CutS.mk [(0,D.sl false k 3 (flatMap aZ l)),(1,D.fn (MG 83) [] []),(7,zN k),(8,nD i)] [] 136) (fun (x:(i:Nat) ×' (hi:i ≤ k) ×' Unit)=>match x with | ⟨i,hi,_⟩=>k - i) [⟨Unit,.exit 0,fun x=>match x with | ()=>CutS.mk [(0,D.sl false k 3 (flatMap aZ l)),(1,D.fn (MG 83) [] []),(7,zN k),(8,nD k)] [] 136⟩] 1000 64 (fun | ⟨i,hi,_⟩,Q,next1,last1=>(.s 2 (.br (decide ((i:Int) < (k:Int))) (fun p0=>have p0f:=ba p0; (.s 6 (.chk (true && decide ((i:Int) < (k:Int)) && true) Jg (.s 2 (.chk (L5 (i * 3 + 3) (length (flatMap aZ l))) KW (.lst (take 3 (drop (i * 3) (flatMap aZ l))) ([dL (L4 (Tn.lit (getD l i ji))),zN (Tn.dist (getD l i ji)),zN (Tn.long (getD l i ji))]) (aE (k:=3) (i:=i) (fun _=>rfl) om om) (.s 42 (.br (!decide (0 < (↑(Tn.long (getD l i ji)):Int))) (fun p1=>have p1f:=bb (fq p1); (.s 10 (.t ((↑(Tn.long (getD l i ji)):Int) == 0) KX (.s 12 (.br (!(↑(Tn.dist (getD l i ji)):Int) == 0) (fun p2=>have p2f:=av (fq p2); (.abs Fw)) (fun p2=>have p2f:=eq_of_beq (ft p2); (.s 7 (.ow ((i:Int) + 1) (.s 1 (.val 8 (zI ((i:Int) + 1)) (zN (i + 1)) AG (Hn.next next1 ⟨(i + 1),om,⟨⟩⟩ Fx [] ro))))))))))) (fun p1=>have p1f:=ba (ft p1); (.s 10 (.br ((↑(L4 (Tn.lit (getD l i ji))):Int) == 0) (fun p3=>have p3f:=eq_of_beq p3; (.s 12 (.t (decide (3 ≤ (↑(Tn.long (getD l i ji)):Int))) AH (.s 12 (.t (decide ((↑(Tn.long (getD l i ji)):Int) ≤ 258)) AH (.s 12 (.t (decide (1 ≤ (↑(Tn.dist (getD l i ji)):Int))) AH (.s 12 (.br (!decide ((↑(Tn.dist (getD l i ji)):Int) ≤ 32768)) (fun p4=>have p4f:=bb (fq p4); (.abs Fw)) (fun p4=>have p4f:=ba (ft p4); (.s 7 (.ow ((i:Int) + 1) (.s 1 (.val 8 (zI ((i:Int) + 1)) (zN (i + 1)) AG (Hn.next next1 ⟨(i + 1),om,⟨⟩⟩ Fx [] ro))))))))))))))) (fun p3=>have p3f:=av p3; (.abs KY))))))))))))) (fun p0=>have p0f:=bb p0; (.val 8 (zN i) (zN k) AG (Hn.last last1 0 (():Unit) rfl [] ro)))))) (fun | ⟨i,hi,_⟩=>by kernel_rfl) ⟨(0),om,⟨⟩⟩ [] ro (bZ (fun | ()=>(.s 6 (.out [] [] (zI 0) [] R (ok _ _ wr wr)))))))))))) (by kernel_rfl)
end Vp
end Go.Proofs.YtefjnofhgkjpmaaGreat

/- Vm5: made by vx.py. -/
import Derived.Test.YtcinacfabkoeaaaVm3
namespace Go.Proofs.Ytcinacfabkoeaaa
open Go.RowKit Go.Bw Go.Vx
namespace Vm
theorem same_at (b : List UInt8) : ∀ (k i j t : Nat), t < same b i j k → b.getD (j + t) default = b.getD (i + t) default
  | 0, i, j, t, h => absurd h (Nat.not_lt_zero t)
  | k + 1, i, j, t, h => by
    unfold same at h
    split at h
    · next e =>
      cases t with
      | zero => exact e.2
      | succ t =>
        have := same_at b k (i + 1) (j + 1) t (by omega)
        rw [show j + (t + 1) = j + 1 + t from by omega, show i + (t + 1) = i + 1 + t from by omega]; exact this
    · omega
theorem same_stops (b : List UInt8) : ∀ (k i j : Nat), same b i j k = k ∨ b.length ≤ i + same b i j k ∨ b.getD (j + same b i j k) default ≠ b.getD (i + same b i j k) default
  | 0, i, j => .inl rfl
  | k + 1, i, j => by
    unfold same
    split
    · next e =>
      rcases same_stops b k (i + 1) (j + 1) with h | h | h
      · exact .inl (by omega)
      · exact .inr (.inl (by omega))
      · refine .inr (.inr ?_)
        rw [show j + (same b (i + 1) (j + 1) k + 1) = j + 1 + same b (i + 1) (j + 1) k from by omega, show i + (same b (i + 1) (j + 1) k + 1) = i + 1 + same b (i + 1) (j + 1) k from by omega]; exact h
    · next e =>
      by_cases h : i < b.length
      · exact .inr (.inr fun q => e ⟨h, q⟩)
      · exact .inr (.inl (by omega))
theorem best_inv (b : List UInt8) (i : Nat) (size : Int) : ∀ (k : Nat) (c d l : Int), bestG b i size k c d l = (d, l) ∨ ∃ j, j < k ∧ (bestG b i size k c d l).1 = (i : Int) - (j : Int) ∧ (bestG b i size k c d l).2 = (same b i j 258 : Nat) ∧ 3 ≤ same b i j 258 ∧ (i : Int) - (j : Int) ≤ size
  | 0, c, d, l => .inl rfl
  | k + 1, c, d, l => by
    have up : ∀ {c d l : Int}, (∃ j, j < k ∧ (bestG b i size k c d l).1 = (i : Int) - (j : Int) ∧ (bestG b i size k c d l).2 = (same b i j 258 : Nat) ∧ 3 ≤ same b i j 258 ∧ (i : Int) - (j : Int) ≤ size) → ∃ j, j < k + 1 ∧ (bestG b i size k c d l).1 = (i : Int) - (j : Int) ∧ (bestG b i size k c d l).2 = (same b i j 258 : Nat) ∧ 3 ≤ same b i j 258 ∧ (i : Int) - (j : Int) ≤ size := fun ⟨j, h1, h2⟩ => ⟨j, by omega, h2⟩
    unfold bestG
    split
    · next e =>
      split
      · exact (best_inv b i size k c d l).imp id up
      · next e3 =>
        split
        · rcases best_inv b i size k (c - 1) ((i : Int) - k) (same b i k 258 : Nat) with h | h
          · exact .inr ⟨k, by omega, by rw [h], by rw [h], by omega, e.1⟩
          · exact .inr (up h)
        · exact (best_inv b i size k (c - 1) d l).imp id up
    · exact .inl rfl
theorem find_e (b : List UInt8) (n : Nat) (x size chain : Int) : findE b n x size chain = 0 ∨ findE b n x size chain = 2 ∨ findE b n x size chain = 4 ∨ findE b n x size chain = 6 := by
  unfold findE
  split
  · simp
  · split
    · simp
    · split <;> simp
theorem find_none {b : List UInt8} {n : Nat} {x size chain : Int} (h : findE b n x size chain ≠ 0) : findD b n x size chain = 0 ∧ findN b n x size chain = 0 := ⟨if_neg h, if_neg h⟩
structure Found (b : List UInt8) (n : Nat) (x size chain D N : Int) : Prop where
  hD : 1 ≤ D ∧ D ≤ size ∧ D ≤ x
  hN : 3 ≤ N ∧ N ≤ 258 ∧ x + N ≤ n
  hx : 0 ≤ x ∧ x ≤ n ∧ n ≤ 131072
  hs : 1 ≤ size ∧ size ≤ 32768 ∧ 0 ≤ chain ∧ chain ≤ 256
  same : N = (same b x.toNat (x - D).toNat 258 : Nat)
theorem find_some {b : List UInt8} {n : Nat} {x size chain : Int} (hn : n = b.length) (h : findE b n x size chain = 0) : Found b n x size chain (findD b n x size chain) (findN b n x size chain) := by
  have h0 := h
  unfold findE at h
  split at h
  · cases h
  · split at h
    · cases h
    · split at h
      · cases h
      · next h1 h2 h3 =>
        have e1 : findD b n x size chain = (bestG b x.toNat size x.toNat chain 0 0).1 := if_pos h0
        have e2 : findN b n x size chain = (bestG b x.toNat size x.toNat chain 0 0).2 := if_pos h0
        have h4 : ¬ (x < 0 ∨ (n : Int) < x ∨ size < 1 ∨ 32768 < size ∨ chain < 0 ∨ 256 < chain) := h2
        rcases best_inv b x.toNat size x.toNat chain 0 0 with q | ⟨j, q1, q2, q3, q4, q5⟩
        · rw [q] at h3; exact absurd rfl h3
        · have s1 := same_258 b x.toNat j
          have s2 := same_end b 258 x.toNat j (by omega)
          refine ⟨by omega, by omega, by omega, by omega, ?_⟩
          rw [e2, q3, e1, q2, show (x - ((x.toNat : Int) - (j : Int))).toNat = j from by omega]
set_option maxRecDepth 100000 in
set_option maxHeartbeats 4000000 in
theorem alive  : SpecH false Try.prog 8 [] [] (.v (.bool true)) [] := by
  refine SpecH.run T_ok mixed Try.func8 rfl rfl rfl trivial 1000 64 (fun R ok => (.s 16 (.call 9 false [] (true) (by with_reducible rfl) ([D.sl true 15 1 [D.v (Value.int IntKind.u8 97), D.v (Value.int IntKind.u8 98), D.v (Value.int IntKind.u8 99), D.v (Value.int IntKind.u8 97), D.v (Value.int IntKind.u8 98), D.v (Value.int IntKind.u8 99), D.v (Value.int IntKind.u8 97), D.v (Value.int IntKind.u8 98), D.v (Value.int IntKind.u8 120), D.v (Value.int IntKind.u8 97), D.v (Value.int IntKind.u8 98), D.v (Value.int IntKind.u8 99), D.v (Value.int IntKind.u8 97), D.v (Value.int IntKind.u8 98), D.v (Value.int IntKind.u8 99)], D.v (Value.int IntKind.i64 3), D.v (Value.int IntKind.i64 32), D.v (Value.int IntKind.i64 9)]) _ (by exact (And.intro (D.sim.slw rfl rfl) (And.intro (D.sim.refl _) (And.intro (D.sim.refl _) (And.intro (D.sim.refl _) trivial))))) (true) (by with_reducible rfl) _ _ _ (@Go.Proofs.Ytcinacfabkoeaaa.Vm.Find ([97, 98, 99, 97, 98, 99, 97, 98, 120, 97, 98, 99, 97, 98, 99]) (15) (3) (32) (9) (by (simp; done)) (by omega) (by omega) (by omega) (by omega)) (FnOk.of Try.func9 rfl rfl) (.s 49 (.call 9 false [] (true) (by with_reducible rfl) ([D.sl true 15 1 [D.v (Value.int IntKind.u8 97), D.v (Value.int IntKind.u8 98), D.v (Value.int IntKind.u8 99), D.v (Value.int IntKind.u8 97), D.v (Value.int IntKind.u8 98), D.v (Value.int IntKind.u8 99), D.v (Value.int IntKind.u8 97), D.v (Value.int IntKind.u8 98), D.v (Value.int IntKind.u8 120), D.v (Value.int IntKind.u8 97), D.v (Value.int IntKind.u8 98), D.v (Value.int IntKind.u8 99), D.v (Value.int IntKind.u8 97), D.v (Value.int IntKind.u8 98), D.v (Value.int IntKind.u8 99)], D.v (Value.int IntKind.i64 9), D.v (Value.int IntKind.i64 32), D.v (Value.int IntKind.i64 9)]) _ (by exact (And.intro (D.sim.slw rfl rfl) (And.intro (D.sim.refl _) (And.intro (D.sim.refl _) (And.intro (D.sim.refl _) trivial))))) (true) (by with_reducible rfl) _ _ _ (@Go.Proofs.Ytcinacfabkoeaaa.Vm.Find ([97, 98, 99, 97, 98, 99, 97, 98, 120, 97, 98, 99, 97, 98, 99]) (15) (9) (32) (9) (by (simp; done)) (by omega) (by omega) (by omega) (by omega)) (FnOk.of Try.func9 rfl rfl) (.s 50 (.call 9 false [] (true) (by with_reducible rfl) ([D.sl true 15 1 [D.v (Value.int IntKind.u8 97), D.v (Value.int IntKind.u8 98), D.v (Value.int IntKind.u8 99), D.v (Value.int IntKind.u8 97), D.v (Value.int IntKind.u8 98), D.v (Value.int IntKind.u8 99), D.v (Value.int IntKind.u8 97), D.v (Value.int IntKind.u8 98), D.v (Value.int IntKind.u8 120), D.v (Value.int IntKind.u8 97), D.v (Value.int IntKind.u8 98), D.v (Value.int IntKind.u8 99), D.v (Value.int IntKind.u8 97), D.v (Value.int IntKind.u8 98), D.v (Value.int IntKind.u8 99)], D.v (Value.int IntKind.i64 9), D.v (Value.int IntKind.i64 32), D.v (Value.int IntKind.i64 1)]) _ (by exact (And.intro (D.sim.slw rfl rfl) (And.intro (D.sim.refl _) (And.intro (D.sim.refl _) (And.intro (D.sim.refl _) trivial))))) (true) (by with_reducible rfl) _ _ _ (@Go.Proofs.Ytcinacfabkoeaaa.Vm.Find ([97, 98, 99, 97, 98, 99, 97, 98, 120, 97, 98, 99, 97, 98, 99]) (15) (9) (32) (1) (by (simp; done)) (by omega) (by omega) (by omega) (by omega)) (FnOk.of Try.func9 rfl rfl) (.s 34 (.out [] [] (D.v (Value.bool true)) [] R (ok _ _ (by with_reducible rfl) (by with_reducible rfl))))))))))) (by kernel_rfl)
set_option maxRecDepth 100000 in
set_option maxHeartbeats 4000000 in
theorem there_no (b : List UInt8) (n : Nat) (q size chain : Int) (hn : n = b.length) (hx : -9223372036854775808 ≤ q ∧ q ≤ 9223372036854775807) (hs : -9223372036854775808 ≤ size ∧ size ≤ 9223372036854775807) (hc : -9223372036854775808 ≤ chain ∧ chain ≤ 9223372036854775807) (hE : findE b n q size chain ≠ 0) : SpecH false Try.prog 3 [.sl false n 1 (b.map dB), iD q, iD size, iD chain] [] (.v (.bool true)) [] := by
  have hF := find_none hE
  refine SpecH.run T_ok mixed Try.func3 rfl rfl rfl trivial 1000 64 (fun R ok => (.s 2 (.call 8 false [] (true) (by with_reducible rfl) ([]) _ (simL.refl _) (true) (by with_reducible rfl) _ _ _ (@Go.Proofs.Ytcinacfabkoeaaa.Vm.alive) (FnOk.of Try.func8 rfl rfl) (.s 7 (.br (decide (4000 < (↑n : Int)))
  (fun p0 => have p0f := of_decide_eq_true p0; (.s 6 (.out [] [] (D.v (Value.bool true)) [] R (ok _ _ (by with_reducible rfl) (by with_reducible rfl)))))
  (fun p0 => have p0f := of_decide_eq_false p0; (.s 9 (.call 9 false [] (true) (by with_reducible rfl) ([D.sl false n 1 (List.map dB b), D.v (Value.int IntKind.i64 q), D.v (Value.int IntKind.i64 size), D.v (Value.int IntKind.i64 chain)]) _ (simL.refl _) (true) (by with_reducible rfl) _ _ _ (@Go.Proofs.Ytcinacfabkoeaaa.Vm.Find (b) (n) (q) (size) (chain) (by omega) (by omega) (by omega) (by omega) (by omega)) (FnOk.of Try.func9 rfl rfl) (.s 13 (.t (findE b n q size chain != 0) (by (simp <;> (omega))) (.s 10 (.t (findD b n q size chain == 0) (by (refine decide_eq_true ?_; (omega))) (.s 5 (.out [] [] (D.v (Value.bool (findN b n q size chain == 0))) [] R (ok _ _ (by (simp <;> (omega))) (by with_reducible rfl)))))))))))))))) (by kernel_rfl)
theorem at_i {b : List UInt8} {x : Int} {t k : Nat} (h : k = x.toNat + t) (hx : 0 ≤ x) : b.getD k default = b.getD (x.toNat + t) default := by rw [h]
theorem there_eq {b : List UInt8} {n t : Nat} {x size chain D N : Int} (F : Found b n x size chain D N) (h : (t : Int) < N) {p q : Nat} (hp : (p : Int) = x + t) (hq : (q : Int) = x + t - D) : ((b.getD p default).toNat : Int) = ((b.getD q default).toNat : Int) := by
  have h1 := F.hD; have h2 := F.hx
  have e := same_at b 258 x.toNat (x - D).toNat t (by have := F.same; omega)
  rw [show p = x.toNat + t from by omega, show q = (x - D).toNat + t from by omega, e]
theorem there_end {b : List UInt8} {n : Nat} {x size chain D N : Int} (hn : n = b.length) (F : Found b n x size chain D N) (h : N ≠ 258) (h2 : x + N ≠ n) {p q : Nat} (hp : (p : Int) = x + N) (hq : (q : Int) = x + N - D) : ((b.getD p default).toNat : Int) ≠ ((b.getD q default).toNat : Int) := by
  have h3 := F.hD; have h4 := F.hx; have h5 := F.hN
  intro e
  have e2 := u8_eq e
  have hs := F.same
  rcases same_stops b 258 x.toNat (x - D).toNat with s | s | s
  · omega
  · omega
  · rw [show p = x.toNat + same b x.toNat (x - D).toNat 258 from by omega, show q = (x - D).toNat + same b x.toNat (x - D).toNat 258 from by omega] at e2
    exact s e2.symm
theorem FindOk (b : List UInt8) (n : Nat) (q size chain : Int) (hn : n = b.length) (hx : -9223372036854775808 ≤ q ∧ q ≤ 9223372036854775807) (hs : -9223372036854775808 ≤ size ∧ size ≤ 9223372036854775807) (hc : -9223372036854775808 ≤ chain ∧ chain ≤ 9223372036854775807) (D N : Int) (hE : findE b n q size chain = 0) (hD : findD b n q size chain = D) (hN : findN b n q size chain = N) (h1 : n ≤ 1000000) : SpecH false Try.prog 9 [.sl false n 1 (b.map dB), iD q, iD size, iD chain] [] (.tup [iD D, iD N, iD 0]) [] := by
  have h := Find b n q size chain hn h1 hx hs hc
  unfold find3 at h
  rw [hE, hD, hN] at h
  exact h
set_option maxRecDepth 100000 in
set_option maxHeartbeats 4000000 in
theorem there_great (b : List UInt8) (n : Nat) (q size chain : Int) (hn : n = b.length) (hx : -9223372036854775808 ≤ q ∧ q ≤ 9223372036854775807) (hs : -9223372036854775808 ≤ size ∧ size ≤ 9223372036854775807) (hc : -9223372036854775808 ≤ chain ∧ chain ≤ 9223372036854775807) (h : 4000 < n) : SpecH false Try.prog 3 [.sl false n 1 (b.map dB), iD q, iD size, iD chain] [] (.v (.bool true)) [] := by
  refine SpecH.run T_ok mixed Try.func3 rfl rfl rfl trivial 1000 64 (fun R ok => (.s 2 (.call 8 false [] (true) (by with_reducible rfl) ([]) _ (simL.refl _) (true) (by with_reducible rfl) _ _ _ (@Go.Proofs.Ytcinacfabkoeaaa.Vm.alive) (FnOk.of Try.func8 rfl rfl) (.s 7 (.t (decide (4000 < (↑n : Int))) (by (refine decide_eq_true ?_; (omega))) (.s 6 (.out [] [] (D.v (Value.bool true)) [] R (ok _ _ (by with_reducible rfl) (by with_reducible rfl))))))))) (by kernel_rfl)
set_option maxRecDepth 100000 in
set_option maxHeartbeats 4000000 in
theorem there_ok (b : List UInt8) (n : Nat) (q size chain : Int) (hn : n = b.length) (hx : -9223372036854775808 ≤ q ∧ q ≤ 9223372036854775807) (hs : -9223372036854775808 ≤ size ∧ size ≤ 9223372036854775807) (hc : -9223372036854775808 ≤ chain ∧ chain ≤ 9223372036854775807) (D N : Int) (hE : findE b n q size chain = 0) (hD : findD b n q size chain = D) (hN : findN b n q size chain = N) (F : Found b n q size chain D N) (h1 : n ≤ 4000) : SpecH false Try.prog 3 [.sl false n 1 (b.map dB), iD q, iD size, iD chain] [] (.v (.bool true)) [] := by
  have f1 := F.hD
  have f2 := F.hN
  have f3 := F.hx
  have f4 := F.hs
  refine SpecH.run T_ok mixed Try.func3 rfl rfl rfl trivial 1000 64 (fun R ok => (.s 2 (.call 8 false [] (true) (by with_reducible rfl) ([]) _ (simL.refl _) (true) (by with_reducible rfl) _ _ _ (@Go.Proofs.Ytcinacfabkoeaaa.Vm.alive) (FnOk.of Try.func8 rfl rfl) (.s 7 (.f (decide (4000 < (↑n : Int))) (by (refine decide_eq_false ?_; (omega))) (.s 9 (.call 9 false [] (true) (by with_reducible rfl) ([Vx.D.sl false n 1 (List.map dB b), Vx.D.v (Value.int IntKind.i64 q), Vx.D.v (Value.int IntKind.i64 size), Vx.D.v (Value.int IntKind.i64 chain)]) _ (simL.refl _) (true) (by with_reducible rfl) _ _ _ (@Go.Proofs.Ytcinacfabkoeaaa.Vm.FindOk (b) (n) (q) (size) (chain) (by omega) (by omega) (by omega) (by omega) (D) (N) (by omega) (by assumption) (by assumption) (by omega)) (FnOk.of Try.func9 rfl rfl) (.s 19 (.f (decide (D < 1)) (by (refine decide_eq_false ?_; (omega))) (.s 8 (.f (decide (size < D)) (by (refine decide_eq_false ?_; (omega))) (.s 8 (.f (decide (q < D)) (by (refine decide_eq_false ?_; (omega))) (.s 6 (.f (decide (N < 3)) (by (refine decide_eq_false ?_; (omega))) (.s 6 (.f (decide (258 < N)) (by (refine decide_eq_false ?_; (omega))) (.s 5 (.opt (wrapO IntKind.i64 (q + N)) (Vx.D.v (Value.int IntKind.i64 (q + N))) (Go.Vx.wrapO_i64 (by omega)) (.s 8 (.f (decide ((↑n : Int) < q + N)) (by (refine decide_eq_false ?_; (omega))) (.s 1 (Hn.inl T_ok mixed false 121 0 (loopAt Try.prog 3 0) (fun (x : PSigma fun (t : Nat) => PSigma fun (ht : (t : Int) ≤ N) => Unit) => match x with | ⟨t, ht, _⟩ => CutS.mk [(0, Vx.D.sl false n 1 (List.map dB b)), (1, Vx.D.v (Value.int IntKind.i64 q)), (9, Vx.D.v (Value.bool true)), (10, Vx.D.v (Value.int IntKind.i64 D)), (11, Vx.D.v (Value.int IntKind.i64 N)), (13, iD (t : Nat))] [] 0) (fun (x : PSigma fun (t : Nat) => PSigma fun (ht : (t : Int) ≤ N) => Unit) => match x with | ⟨t, ht, _⟩ => N.toNat - t) [⟨Unit, .exit 0, fun x => match x with | () => CutS.mk [(0, Vx.D.sl false n 1 (List.map dB b)), (1, Vx.D.v (Value.int IntKind.i64 q)), (9, Vx.D.v (Value.bool true)), (10, Vx.D.v (Value.int IntKind.i64 D)), (11, Vx.D.v (Value.int IntKind.i64 N))] [] 0⟩] 1000 64 (fun | ⟨t, ht, _⟩, Q, next1, last1 => (.s 4 (.br (decide ((↑t : Int) < N))
    (fun p0 => have p0f := of_decide_eq_true p0; (.s 6 (.opt (wrapO IntKind.i64 (q + (↑t : Int))) (Vx.D.v (Value.int IntKind.i64 (q + (↑t : Int)))) (Go.Vx.wrapO_i64 (by clear next1 last1; omega)) (.s 1 (.chk (decide (0 ≤ q + (↑t : Int)) && decide (q + (↑t : Int) < (↑n : Int)) && true) (by clear next1 last1; ((refine and_tI ?_ ?_) <;> (repeat' (first | (refine and_tI ?_ ?_) | (with_reducible rfl) | (refine decide_eq_true ?_) | (refine Nat.ble_eq_true_of_le ?_) | (refine nbeq ?_))) <;> (omega))) (.s 2 (.opt ((List.map dB b)[Int.toNat (q + (↑t : Int)) * 1]?) (dB (List.getD b (Int.toNat (q + (↑t : Int)) * 1) default)) (map_get _ _ (by clear next1 last1; omega)) (.s 5 (.opt (wrapO IntKind.i64 (q + (↑t : Int))) (Vx.D.v (Value.int IntKind.i64 (q + (↑t : Int)))) (Go.Vx.wrapO_i64 (by clear next1 last1; omega)) (.s 3 (.opt (wrapO IntKind.i64 (q + (↑t : Int) - D)) (Vx.D.v (Value.int IntKind.i64 (q + (↑t : Int) - D))) (Go.Vx.wrapO_i64 (by clear next1 last1; omega)) (.s 1 (.chk (decide (0 ≤ q + (↑t : Int) - D) && decide (q + (↑t : Int) - D < (↑n : Int)) && true) (by clear next1 last1; ((refine and_tI ?_ ?_) <;> (repeat' (first | (refine and_tI ?_ ?_) | (with_reducible rfl) | (refine decide_eq_true ?_) | (refine Nat.ble_eq_true_of_le ?_) | (refine nbeq ?_))) <;> (omega))) (.s 2 (.opt ((List.map dB b)[Int.toNat (q + (↑t : Int) - D) * 1]?) (dB (List.getD b (Int.toNat (q + (↑t : Int) - D) * 1) default)) (map_get _ _ (by clear next1 last1; omega)) (.s 2 (.f ((↑(UInt8.toNat (List.getD b (Int.toNat (q + (↑t : Int)) * 1) default)) : Int) != (↑(UInt8.toNat (List.getD b (Int.toNat (q + (↑t : Int) - D) * 1) default)) : Int)) (by clear next1 last1; (refine bne_eq_false_iff_eq.2 ?_; exact there_eq F (by (omega)) (by (omega)) (by (omega)))) (.s 3 (.opt (wrapO IntKind.i64 ((↑t : Int) + 1)) (Vx.D.v (Value.int IntKind.i64 ((↑t : Int) + 1))) (Go.Vx.wrapO_i64 (by clear next1 last1; omega)) (.s 1 (.val 13 (Vx.D.v (Value.int IntKind.i64 ((↑t : Int) + 1))) (Vx.D.v (Value.int IntKind.i64 (↑(t + 1) : Int))) (by clear next1 last1; (refine iv_eq ?_; (omega))) (Hn.next next1 ⟨(t + 1), (by clear next1 last1; omega), ⟨⟩⟩ (by show Int.toNat N - (t + 1) < Int.toNat N - t; clear next1 last1; omega) [] (by repeat' first | exact trivial | exact (fun _ => cl_bytes _) | exact (fun _ => cl_map _ (fun _ => rfl) _) | (intro h; cases h; done) | (intro _; rfl) | refine And.intro ?_ ?_)))))))))))))))))))))))
    (fun p0 => have p0f := of_decide_eq_false p0; (Hn.last last1 0 (() : Unit) rfl [] (by repeat' first | exact trivial | exact (fun _ => cl_bytes _) | exact (fun _ => cl_map _ (fun _ => rfl) _) | (intro h; cases h; done) | (intro _; rfl) | refine And.intro ?_ ?_)))))) (fun | ⟨t, ht, _⟩ => by kernel_rfl) ⟨(0), (by omega), ⟨⟩⟩ [] (by repeat' first | exact trivial | exact (fun _ => cl_bytes _) | exact (fun _ => cl_map _ (fun _ => rfl) _) | (intro h; cases h; done) | (intro _; rfl) | refine And.intro ?_ ?_) (hs1 (fun | () => (.s 11 (.br (N == 258)
  (fun p1 => have p1f := eq_of_beq p1; (.s 48 (.out [] [] (Vx.D.v (Value.bool true)) [] R (ok _ _ (by with_reducible rfl) (by with_reducible rfl)))))
  (fun p1 => have p1f := of_beq_f p1; (.s 5 (.opt (wrapO IntKind.i64 (q + N)) (Vx.D.v (Value.int IntKind.i64 (q + N))) (Go.Vx.wrapO_i64 (by omega)) (.s 12 (.br (q + N == (↑n : Int))
    (fun p2 => have p2f := eq_of_beq p2; (.s 32 (.out [] [] (Vx.D.v (Value.bool true)) [] R (ok _ _ (by with_reducible rfl) (by with_reducible rfl)))))
    (fun p2 => have p2f := of_beq_f p2; (.s 7 (.opt (wrapO IntKind.i64 (q + N)) (Vx.D.v (Value.int IntKind.i64 (q + N))) (Go.Vx.wrapO_i64 (by omega)) (.s 2 (.chk (decide (0 ≤ q + N) && decide (q + N < (↑n : Int)) && true) (by ((refine and_tI ?_ ?_) <;> (repeat' (first | (refine and_tI ?_ ?_) | (with_reducible rfl) | (refine decide_eq_true ?_) | (refine Nat.ble_eq_true_of_le ?_) | (refine nbeq ?_))) <;> (omega))) (.s 3 (.opt ((List.map dB b)[Int.toNat (q + N) * 1]?) (dB (List.getD b (Int.toNat (q + N) * 1) default)) (map_get _ _ (by omega)) (.s 9 (.opt (wrapO IntKind.i64 (q + N)) (Vx.D.v (Value.int IntKind.i64 (q + N))) (Go.Vx.wrapO_i64 (by omega)) (.s 5 (.opt (wrapO IntKind.i64 (q + N - D)) (Vx.D.v (Value.int IntKind.i64 (q + N - D))) (Go.Vx.wrapO_i64 (by omega)) (.s 2 (.chk (decide (0 ≤ q + N - D) && decide (q + N - D < (↑n : Int)) && true) (by ((refine and_tI ?_ ?_) <;> (repeat' (first | (refine and_tI ?_ ?_) | (with_reducible rfl) | (refine decide_eq_true ?_) | (refine Nat.ble_eq_true_of_le ?_) | (refine nbeq ?_))) <;> (omega))) (.s 3 (.opt ((List.map dB b)[Int.toNat (q + N - D) * 1]?) (dB (List.getD b (Int.toNat (q + N - D) * 1) default)) (map_get _ _ (by omega)) (.s 7 (.out [] [] (Vx.D.v (Value.bool ((↑(UInt8.toNat (List.getD b (Int.toNat (q + N) * 1) default)) : Int) != (↑(UInt8.toNat (List.getD b (Int.toNat (q + N - D) * 1) default)) : Int)))) [] R (ok _ _ (by (refine bv_eq (bne_iff_ne.2 ?_); exact there_end hn F (by (omega)) (by (omega)) (by (omega)) (by (omega)))) (by with_reducible rfl))))))))))))))))))))))))))))))))))))))))))))))))))) (by kernel_rfl)
theorem best_ge {b : List UInt8} {i : Nat} {size : Int} : ∀ (k : Nat) (c d l : Int), l ≤ (bestG b i size k c d l).2
  | 0, c, d, l => Int.le_refl l
  | k + 1, c, d, l => by
    unfold bestG
    split
    · split
      · exact best_ge k c d l
      · split
        · exact Int.le_trans (by omega) (best_ge k (c - 1) ((i : Int) - k) (same b i k 258 : Nat))
        · exact best_ge k (c - 1) d l
    · exact Int.le_refl l
theorem best_mono {b : List UInt8} {i : Nat} {size size2 : Int} (hs : size ≤ size2) : ∀ (k : Nat) (c c2 d d2 l l2 : Int), c ≤ c2 → l ≤ l2 → (bestG b i size k c d l).2 ≤ (bestG b i size2 k c2 d2 l2).2
  | 0, c, c2, d, d2, l, l2, hc, hl => hl
  | k + 1, c, c2, d, d2, l, l2, hc, hl => by
    by_cases h1 : (i : Int) - k ≤ size ∧ 0 < c
    · have h1' : (i : Int) - k ≤ size2 ∧ 0 < c2 := ⟨by omega, by omega⟩
      rw [bestG, bestG, if_pos h1, if_pos h1']
      by_cases h2 : same b i k 258 < 3
      · rw [if_pos h2, if_pos h2]; exact best_mono hs k c c2 d d2 l l2 hc hl
      · rw [if_neg h2, if_neg h2]
        by_cases h3 : l < (same b i k 258 : Nat)
        · rw [if_pos h3]
          by_cases h4 : l2 < (same b i k 258 : Nat)
          · rw [if_pos h4]; exact best_mono hs k _ _ _ _ _ _ (by omega) (Int.le_refl _)
          · rw [if_neg h4]; exact best_mono hs k _ _ _ _ _ _ (by omega) (by omega)
        · rw [if_neg h3, if_neg (by omega)]; exact best_mono hs k _ _ _ _ _ _ (by omega) hl
    · rw [bestG, if_neg h1]
      exact Int.le_trans hl (best_ge (k + 1) c2 d2 l2)
theorem best_all {b : List UInt8} {i j : Nat} {size : Int} (hs : (i : Int) - j ≤ size) (h3 : 3 ≤ same b i j 258) : ∀ (k : Nat) (c d l : Int), j < k → (k : Int) ≤ c → ((same b i j 258 : Nat) : Int) ≤ (bestG b i size k c d l).2
  | 0, c, d, l, hj, hc => absurd hj (Nat.not_lt_zero j)
  | k + 1, c, d, l, hj, hc => by
    rw [bestG, if_pos ⟨by omega, by omega⟩]
    by_cases e : j = k
    · subst e
      rw [if_neg (by omega)]
      split
      · exact best_ge j _ _ _
      · exact Int.le_trans (by omega) (best_ge j (c - 1) d l)
    · split
      · exact best_all hs h3 k _ _ _ (by omega) (by omega)
      · split
        · exact best_all hs h3 k _ _ _ (by omega) (by omega)
        · exact best_all hs h3 k _ _ _ (by omega) (by omega)
def goodF (n : Nat) (q size chain : Int) : Prop := n ≤ 131072 ∧ 0 ≤ q ∧ q ≤ (n : Int) ∧ 1 ≤ size ∧ size ≤ 32768 ∧ 0 ≤ chain ∧ chain ≤ 256
theorem find_bad {b : List UInt8} {n : Nat} {q size chain : Int} (h : ¬ goodF n q size chain) : findE b n q size chain = 4 ∨ findE b n q size chain = 2 := by
  unfold findE
  split
  · exact .inl rfl
  · next h1 =>
    have h2 : badF n q size chain := Decidable.byContradiction fun h2 => h (by
      have h3 : ¬ (q < 0 ∨ (n : Int) < q ∨ size < 1 ∨ 32768 < size ∨ chain < 0 ∨ 256 < chain) := h2
      unfold goodF; omega)
    exact .inr (if_pos h2)
theorem find_good {b : List UInt8} {n : Nat} {q size chain : Int} (h : goodF n q size chain) : (findE b n q size chain = 0 ∨ findE b n q size chain = 6) ∧ findN b n q size chain = (bestG b q.toNat size q.toNat chain 0 0).2 := by
  unfold goodF at h
  have h2 : ¬ badF n q size chain := by unfold badF; omega
  have e : findE b n q size chain = if (bestG b q.toNat size q.toNat chain 0 0).2 = 0 then 6 else 0 := by rw [findE, if_neg (by omega), if_neg h2]
  constructor
  · rw [e]; split <;> simp
  · unfold findN
    by_cases h3 : (bestG b q.toNat size q.toNat chain 0 0).2 = 0
    · rw [if_pos h3] at e; rw [if_neg (by rw [e]; decide), h3]
    · rw [if_neg h3] at e; rw [if_pos e]
theorem longer {b : List UInt8} {n : Nat} {q size chain size2 chain2 : Int} (h : goodF n q size chain) (h2 : goodF n q size2 chain2) (hs : size ≤ size2) (hc : chain ≤ chain2) : findN b n q size chain ≤ findN b n q size2 chain2 := by
  rw [(find_good h).2, (find_good h2).2]
  exact best_mono hs _ _ _ _ _ _ _ hc (Int.le_refl _)
theorem longest {b : List UInt8} {n : Nat} {q y size : Int} (hn : n = b.length) (h2 : n ≤ 200) (h : goodF n q size 256) (e : longE n q y = 0) (hs : q - y ≤ size) (h3 : 3 ≤ longN b q y) : longN b q y ≤ findN b n q size 256 := by
  have hy : 0 ≤ y ∧ y < q ∧ q ≤ n := by
    unfold longE at e
    split at e
    · cases e
    · split at e
      · cases e
      · omega
  rw [(find_good h).2]
  have e2 : longN b q y = (same b q.toNat y.toNat 258 : Nat) := by unfold longN; rw [← hn, if_pos e]
  rw [e2] at h3 ⊢
  exact best_all (by omega) (by omega) _ _ _ _ (by omega) (by omega)
set_option maxRecDepth 100000 in
set_option maxHeartbeats 4000000 in
theorem longer_bad (b : List UInt8) (n : Nat) (q size chain more y : Int) (hn : n = b.length) (hx : -9223372036854775808 ≤ q ∧ q ≤ 9223372036854775807) (hs : -9223372036854775808 ≤ size ∧ size ≤ 9223372036854775807) (hc : -9223372036854775808 ≤ chain ∧ chain ≤ 9223372036854775807) (hm : -9223372036854775808 ≤ more ∧ more ≤ 9223372036854775807) (hy : -9223372036854775808 ≤ y ∧ y ≤ 9223372036854775807) (hE : ¬ goodF n q size chain) : SpecH false Try.prog 6 [.sl false n 1 (b.map dB), iD q, iD size, iD chain, iD more, iD y] [] (.v (.bool true)) [] := by
  have f1 := find_bad (b := b) hE
  refine SpecH.run T_ok mixed Try.func6 rfl rfl rfl trivial 1000 64 (fun R ok => (.s 2 (.call 8 false [] (true) (by with_reducible rfl) ([]) _ (simL.refl _) (true) (by with_reducible rfl) _ _ _ (@Go.Proofs.Ytcinacfabkoeaaa.Vm.alive) (FnOk.of Try.func8 rfl rfl) (.s 7 (.br (decide (200 < (↑n : Int)))
  (fun p0 => have p0f := of_decide_eq_true p0; (.s 6 (.out [] [] (D.v (Value.bool true)) [] R (ok _ _ (by with_reducible rfl) (by with_reducible rfl)))))
  (fun p0 => have p0f := of_decide_eq_false p0; (.s 9 (.call 9 false [] (true) (by with_reducible rfl) ([D.sl false n 1 (List.map dB b), D.v (Value.int IntKind.i64 q), D.v (Value.int IntKind.i64 size), D.v (Value.int IntKind.i64 chain)]) _ (simL.refl _) (true) (by with_reducible rfl) _ _ _ (@Go.Proofs.Ytcinacfabkoeaaa.Vm.Find (b) (n) (q) (size) (chain) (by omega) (by omega) (by omega) (by omega) (by omega)) (FnOk.of Try.func9 rfl rfl) (.s 15 (.t (findE b n q size chain != 0) (by (simp <;> (omega))) (.s 6 (.t (findE b n q size chain != 6) (by (simp <;> (omega))) (.s 12 (.out [] [] (D.v (Value.bool true)) [] R (ok _ _ (by with_reducible rfl) (by with_reducible rfl)))))))))))))))) (by kernel_rfl)
set_option maxRecDepth 100000 in
set_option maxHeartbeats 4000000 in
theorem longer_more (b : List UInt8) (n : Nat) (q size chain more y : Int) (hn : n = b.length) (hx : -9223372036854775808 ≤ q ∧ q ≤ 9223372036854775807) (hs : -9223372036854775808 ≤ size ∧ size ≤ 9223372036854775807) (hc : -9223372036854775808 ≤ chain ∧ chain ≤ 9223372036854775807) (hm : -9223372036854775808 ≤ more ∧ more ≤ 9223372036854775807) (hy : -9223372036854775808 ≤ y ∧ y ≤ 9223372036854775807) (hE : goodF n q size chain) (h : more < 0 ∨ 100000 < more) : SpecH false Try.prog 6 [.sl false n 1 (b.map dB), iD q, iD size, iD chain, iD more, iD y] [] (.v (.bool true)) [] := by
  have f1 := (find_good (b := b) hE).1
  refine SpecH.run T_ok mixed Try.func6 rfl rfl rfl trivial 1000 64 (fun R ok => (.s 2 (.call 8 false [] (true) (by with_reducible rfl) ([]) _ (simL.refl _) (true) (by with_reducible rfl) _ _ _ (@Go.Proofs.Ytcinacfabkoeaaa.Vm.alive) (FnOk.of Try.func8 rfl rfl) (.s 7 (.br (decide (200 < (↑n : Int)))
  (fun p0 => have p0f := of_decide_eq_true p0; (.s 6 (.out [] [] (D.v (Value.bool true)) [] R (ok _ _ (by with_reducible rfl) (by with_reducible rfl)))))
  (fun p0 => have p0f := of_decide_eq_false p0; (.s 9 (.call 9 false [] (true) (by with_reducible rfl) ([D.sl false n 1 (List.map dB b), D.v (Value.int IntKind.i64 q), D.v (Value.int IntKind.i64 size), D.v (Value.int IntKind.i64 chain)]) _ (simL.refl _) (true) (by with_reducible rfl) _ _ _ (@Go.Proofs.Ytcinacfabkoeaaa.Vm.Find (b) (n) (q) (size) (chain) (by omega) (by omega) (by omega) (by omega) (by omega)) (FnOk.of Try.func9 rfl rfl) (.s 15 (.br (findE b n q size chain != 0)
    (fun p1 => have p1f := of_bne_t p1; (.s 6 (.f (findE b n q size chain != 6) (by (simp <;> (omega))) (.s 6 (.br (decide (more < 0))
      (fun p2 => have p2f := of_decide_eq_true p2; (.s 6 (.out [] [] (D.v (Value.bool true)) [] R (ok _ _ (by with_reducible rfl) (by with_reducible rfl)))))
      (fun p2 => have p2f := of_decide_eq_false p2; (.s 4 (.t (decide (100000 < more)) (by (refine decide_eq_true ?_; (omega))) (.s 2 (.out [] [] (D.v (Value.bool true)) [] R (ok _ _ (by with_reducible rfl) (by with_reducible rfl))))))))))))
    (fun p1 => have p1f := of_bne_f p1; (.s 12 (.br (decide (more < 0))
      (fun p3 => have p3f := of_decide_eq_true p3; (.s 6 (.out [] [] (D.v (Value.bool true)) [] R (ok _ _ (by with_reducible rfl) (by with_reducible rfl)))))
      (fun p3 => have p3f := of_decide_eq_false p3; (.s 4 (.t (decide (100000 < more)) (by (refine decide_eq_true ?_; (omega))) (.s 2 (.out [] [] (D.v (Value.bool true)) [] R (ok _ _ (by with_reducible rfl) (by with_reducible rfl)))))))))))))))))))) (by kernel_rfl)
set_option maxRecDepth 100000 in
set_option maxHeartbeats 4000000 in
theorem longer_great (b : List UInt8) (n : Nat) (q size chain more y : Int) (hn : n = b.length) (hx : -9223372036854775808 ≤ q ∧ q ≤ 9223372036854775807) (hs : -9223372036854775808 ≤ size ∧ size ≤ 9223372036854775807) (hc : -9223372036854775808 ≤ chain ∧ chain ≤ 9223372036854775807) (hm : -9223372036854775808 ≤ more ∧ more ≤ 9223372036854775807) (hy : -9223372036854775808 ≤ y ∧ y ≤ 9223372036854775807) (h : 200 < n) : SpecH false Try.prog 6 [.sl false n 1 (b.map dB), iD q, iD size, iD chain, iD more, iD y] [] (.v (.bool true)) [] := by
  refine SpecH.run T_ok mixed Try.func6 rfl rfl rfl trivial 1000 64 (fun R ok => (.s 2 (.call 8 false [] (true) (by with_reducible rfl) ([]) _ (simL.refl _) (true) (by with_reducible rfl) _ _ _ (@Go.Proofs.Ytcinacfabkoeaaa.Vm.alive) (FnOk.of Try.func8 rfl rfl) (.s 7 (.t (decide (200 < (↑n : Int))) (by (refine decide_eq_true ?_; (omega))) (.s 6 (.out [] [] (D.v (Value.bool true)) [] R (ok _ _ (by with_reducible rfl) (by with_reducible rfl))))))))) (by kernel_rfl)
set_option maxRecDepth 100000 in
set_option maxHeartbeats 4000000 in
theorem longer_ok (b : List UInt8) (n : Nat) (q size chain more y : Int) (hn : n = b.length) (hx : -9223372036854775808 ≤ q ∧ q ≤ 9223372036854775807) (hs : -9223372036854775808 ≤ size ∧ size ≤ 9223372036854775807) (hc : -9223372036854775808 ≤ chain ∧ chain ≤ 9223372036854775807) (hm : -9223372036854775808 ≤ more ∧ more ≤ 9223372036854775807) (hy : -9223372036854775808 ≤ y ∧ y ≤ 9223372036854775807) (hE : goodF n q size chain) (h : 0 ≤ more ∧ more ≤ 100000) (h2 : n ≤ 200) : SpecH false Try.prog 6 [.sl false n 1 (b.map dB), iD q, iD size, iD chain, iD more, iD y] [] (.v (.bool true)) [] := by
  have hE1 : n ≤ 131072 ∧ 0 ≤ q ∧ q ≤ (n : Int) ∧ 1 ≤ size ∧ size ≤ 32768 ∧ 0 ≤ chain ∧ chain ≤ 256 := hE
  have hE2 : goodF n q size (min 256 (chain + more)) := by unfold goodF; omega
  have hE3 : goodF n q (min 32768 (size + more)) 256 := by unfold goodF; omega
  have hE4 : goodF n q size 256 := by unfold goodF; omega
  have f1 := (find_good (b := b) hE).1
  have f2 := (find_good (b := b) hE2).1
  have f3 := (find_good (b := b) hE3).1
  have f5 : findN b n q size chain ≤ findN b n q size (min 256 (chain + more)) := longer hE hE2 (by omega) (by omega)
  have f6 : findN b n q size chain ≤ findN b n q (min 32768 (size + more)) 256 := longer hE hE3 (by omega) (by omega)
  have f7 : longE n q y = 0 → q - y ≤ size → 3 ≤ longN b q y → longN b q y ≤ findN b n q size 256 := fun e a c => longest hn h2 hE4 e a c
  have f8 : longE n q y = 0 → 0 ≤ y ∧ y < q := fun e => by unfold longE at e; (repeat' split at e) <;> omega
  refine SpecH.run T_ok mixed Try.func6 rfl rfl rfl trivial 1000 64 (fun R ok => (.s 2 (.call 8 false [] (true) (by with_reducible rfl) ([]) _ (simL.refl _) (true) (by with_reducible rfl) _ _ _ (@Go.Proofs.Ytcinacfabkoeaaa.Vm.alive) (FnOk.of Try.func8 rfl rfl) (.s 7 (.f (decide (200 < (↑n : Int))) (by (refine decide_eq_false ?_; (omega))) (.s 9 (.call 9 false [] (true) (by with_reducible rfl) ([D.sl false n 1 (List.map dB b), D.v (Value.int IntKind.i64 q), D.v (Value.int IntKind.i64 size), D.v (Value.int IntKind.i64 chain)]) _ (simL.refl _) (true) (by with_reducible rfl) _ _ _ (@Go.Proofs.Ytcinacfabkoeaaa.Vm.Find (b) (n) (q) (size) (chain) (by omega) (by omega) (by omega) (by omega) (by omega)) (FnOk.of Try.func9 rfl rfl) (.s 15 (.br (findE b n q size chain != 0)
  (fun p0 => have p0f := of_bne_t p0; (.s 6 (.f (findE b n q size chain != 6) (by (simp_all; done)) (.s 6 (.f (decide (more < 0)) (by (refine decide_eq_false ?_; (omega))) (.s 4 (.f (decide (100000 < more)) (by (refine decide_eq_false ?_; (omega))) (.s 7 (.opt (wrapO IntKind.i64 (chain + more)) (D.v (Value.int IntKind.i64 (chain + more))) (Go.Vx.wrapO_i64 (by omega)) (.s 1 (.opt (minO IntKind.i64 false 256 (chain + more)) (D.v (Value.int IntKind.i64 (min 256 (chain + more)))) (minO_min _ _ _) (.s 1 (.call 9 false [] (true) (by with_reducible rfl) ([D.sl false n 1 (List.map dB b), D.v (Value.int IntKind.i64 q), D.v (Value.int IntKind.i64 size), D.v (Value.int IntKind.i64 (min 256 (chain + more)))]) _ (simL.refl _) (true) (by with_reducible rfl) _ _ _ (@Go.Proofs.Ytcinacfabkoeaaa.Vm.Find (b) (n) (q) (size) (min 256 (chain + more)) (by omega) (by omega) (by omega) (by omega) (by omega)) (FnOk.of Try.func9 rfl rfl) (.s 16 (.opt (wrapO IntKind.i64 (size + more)) (D.v (Value.int IntKind.i64 (size + more))) (Go.Vx.wrapO_i64 (by omega)) (.s 1 (.opt (minO IntKind.i64 false 32768 (size + more)) (D.v (Value.int IntKind.i64 (min 32768 (size + more)))) (minO_min _ _ _) (.s 1 (.call 9 false [] (true) (by with_reducible rfl) ([D.sl false n 1 (List.map dB b), D.v (Value.int IntKind.i64 q), D.v (Value.int IntKind.i64 (min 32768 (size + more))), D.v (Value.int IntKind.i64 256)]) _ (simL.refl _) (true) (by with_reducible rfl) _ _ _ (@Go.Proofs.Ytcinacfabkoeaaa.Vm.Find (b) (n) (q) (min 32768 (size + more)) (256) (by omega) (by omega) (by omega) (by omega) (by omega)) (FnOk.of Try.func9 rfl rfl) (.s 16 (.f (decide (findN b n q size (min 256 (chain + more)) < findN b n q size chain)) (by (refine decide_eq_false ?_; (omega))) (.s 8 (.f (decide (findN b n q (min 32768 (size + more)) 256 < findN b n q size chain)) (by (refine decide_eq_false ?_; (omega))) (.s 6 (.br (findE b n q size (min 256 (chain + more)) != 0)
    (fun p1 => have p1f := of_bne_t p1; (.s 8 (.f (findE b n q size (min 256 (chain + more)) != 6) (by (simp_all; done)) (.s 6 (.br (findE b n q (min 32768 (size + more)) 256 != 0)
      (fun p2 => have p2f := of_bne_t p2; (.s 6 (.f (findE b n q (min 32768 (size + more)) 256 != 6) (by (simp_all; done)) (.s 4 (.call 10 false [] (true) (by with_reducible rfl) ([D.sl false n 1 (List.map dB b), D.v (Value.int IntKind.i64 q), D.v (Value.int IntKind.i64 y)]) _ (simL.refl _) (true) (by with_reducible rfl) _ _ _ (@Go.Proofs.Ytcinacfabkoeaaa.Vm.Long (b) (n) (q) (y) (by omega) (by omega) (by omega) (by omega)) (FnOk.of Try.func10 rfl rfl) (.s 11 (.call 9 false [] (true) (by with_reducible rfl) ([D.sl false n 1 (List.map dB b), D.v (Value.int IntKind.i64 q), D.v (Value.int IntKind.i64 size), D.v (Value.int IntKind.i64 256)]) _ (simL.refl _) (true) (by with_reducible rfl) _ _ _ (@Go.Proofs.Ytcinacfabkoeaaa.Vm.Find (b) (n) (q) (size) (256) (by omega) (by omega) (by omega) (by omega) (by omega)) (FnOk.of Try.func9 rfl rfl) (.s 20 (.br (longE n q y != 0)
        (fun p3 => have p3f := of_bne_t p3; (.s 30 (.out [] [] (D.v (Value.bool true)) [] R (ok _ _ (by with_reducible rfl) (by with_reducible rfl)))))
        (fun p3 => have p3f := of_bne_f p3; (.s 5 (.opt (wrapO IntKind.i64 (q - y)) (D.v (Value.int IntKind.i64 (q - y))) (Go.Vx.wrapO_i64 (by omega)) (.s 10 (.br (decide (size < q - y))
          (fun p4 => have p4f := of_decide_eq_true p4; (.s 16 (.out [] [] (D.v (Value.bool true)) [] R (ok _ _ (by with_reducible rfl) (by with_reducible rfl)))))
          (fun p4 => have p4f := of_decide_eq_false p4; (.s 8 (.br (decide (longN b q y < 3))
            (fun p5 => have p5f := of_decide_eq_true p5; (.s 8 (.out [] [] (D.v (Value.bool true)) [] R (ok _ _ (by with_reducible rfl) (by with_reducible rfl)))))
            (fun p5 => have p5f := of_decide_eq_false p5; (.s 9 (.out [] [] (D.v (Value.bool (decide (longN b q y ≤ findN b n q size 256)))) [] R (ok _ _ (by (refine bv_eq (decide_eq_true ?_); have := f7 (by (omega)) (by (omega)) (by (omega)); omega)) (by with_reducible rfl))))))))))))))))))))))
      (fun p2 => have p2f := of_bne_f p2; (.s 10 (.call 10 false [] (true) (by with_reducible rfl) ([D.sl false n 1 (List.map dB b), D.v (Value.int IntKind.i64 q), D.v (Value.int IntKind.i64 y)]) _ (simL.refl _) (true) (by with_reducible rfl) _ _ _ (@Go.Proofs.Ytcinacfabkoeaaa.Vm.Long (b) (n) (q) (y) (by omega) (by omega) (by omega) (by omega)) (FnOk.of Try.func10 rfl rfl) (.s 11 (.call 9 false [] (true) (by with_reducible rfl) ([D.sl false n 1 (List.map dB b), D.v (Value.int IntKind.i64 q), D.v (Value.int IntKind.i64 size), D.v (Value.int IntKind.i64 256)]) _ (simL.refl _) (true) (by with_reducible rfl) _ _ _ (@Go.Proofs.Ytcinacfabkoeaaa.Vm.Find (b) (n) (q) (size) (256) (by omega) (by omega) (by omega) (by omega) (by omega)) (FnOk.of Try.func9 rfl rfl) (.s 20 (.br (longE n q y != 0)
        (fun p6 => have p6f := of_bne_t p6; (.s 30 (.out [] [] (D.v (Value.bool true)) [] R (ok _ _ (by with_reducible rfl) (by with_reducible rfl)))))
        (fun p6 => have p6f := of_bne_f p6; (.s 5 (.opt (wrapO IntKind.i64 (q - y)) (D.v (Value.int IntKind.i64 (q - y))) (Go.Vx.wrapO_i64 (by omega)) (.s 10 (.br (decide (size < q - y))
          (fun p7 => have p7f := of_decide_eq_true p7; (.s 16 (.out [] [] (D.v (Value.bool true)) [] R (ok _ _ (by with_reducible rfl) (by with_reducible rfl)))))
          (fun p7 => have p7f := of_decide_eq_false p7; (.s 8 (.br (decide (longN b q y < 3))
            (fun p8 => have p8f := of_decide_eq_true p8; (.s 8 (.out [] [] (D.v (Value.bool true)) [] R (ok _ _ (by with_reducible rfl) (by with_reducible rfl)))))
            (fun p8 => have p8f := of_decide_eq_false p8; (.s 9 (.out [] [] (D.v (Value.bool (decide (longN b q y ≤ findN b n q size 256)))) [] R (ok _ _ (by (refine bv_eq (decide_eq_true ?_); have := f7 (by (omega)) (by (omega)) (by (omega)); omega)) (by with_reducible rfl)))))))))))))))))))))))))
    (fun p1 => have p1f := of_bne_f p1; (.s 14 (.br (findE b n q (min 32768 (size + more)) 256 != 0)
      (fun p9 => have p9f := of_bne_t p9; (.s 6 (.f (findE b n q (min 32768 (size + more)) 256 != 6) (by (simp <;> (omega))) (.s 4 (.call 10 false [] (true) (by with_reducible rfl) ([D.sl false n 1 (List.map dB b), D.v (Value.int IntKind.i64 q), D.v (Value.int IntKind.i64 y)]) _ (simL.refl _) (true) (by with_reducible rfl) _ _ _ (@Go.Proofs.Ytcinacfabkoeaaa.Vm.Long (b) (n) (q) (y) (by omega) (by omega) (by omega) (by omega)) (FnOk.of Try.func10 rfl rfl) (.s 11 (.call 9 false [] (true) (by with_reducible rfl) ([D.sl false n 1 (List.map dB b), D.v (Value.int IntKind.i64 q), D.v (Value.int IntKind.i64 size), D.v (Value.int IntKind.i64 256)]) _ (simL.refl _) (true) (by with_reducible rfl) _ _ _ (@Go.Proofs.Ytcinacfabkoeaaa.Vm.Find (b) (n) (q) (size) (256) (by omega) (by omega) (by omega) (by omega) (by omega)) (FnOk.of Try.func9 rfl rfl) (.s 20 (.br (longE n q y != 0)
        (fun p10 => have p10f := of_bne_t p10; (.s 30 (.out [] [] (D.v (Value.bool true)) [] R (ok _ _ (by with_reducible rfl) (by with_reducible rfl)))))
        (fun p10 => have p10f := of_bne_f p10; (.s 5 (.opt (wrapO IntKind.i64 (q - y)) (D.v (Value.int IntKind.i64 (q - y))) (Go.Vx.wrapO_i64 (by omega)) (.s 10 (.br (decide (size < q - y))
          (fun p11 => have p11f := of_decide_eq_true p11; (.s 16 (.out [] [] (D.v (Value.bool true)) [] R (ok _ _ (by with_reducible rfl) (by with_reducible rfl)))))
          (fun p11 => have p11f := of_decide_eq_false p11; (.s 8 (.br (decide (longN b q y < 3))
            (fun p12 => have p12f := of_decide_eq_true p12; (.s 8 (.out [] [] (D.v (Value.bool true)) [] R (ok _ _ (by with_reducible rfl) (by with_reducible rfl)))))
            (fun p12 => have p12f := of_decide_eq_false p12; (.s 9 (.out [] [] (D.v (Value.bool (decide (longN b q y ≤ findN b n q size 256)))) [] R (ok _ _ (by (refine bv_eq (decide_eq_true ?_); have := f7 (by (omega)) (by (omega)) (by (omega)); omega)) (by with_reducible rfl))))))))))))))))))))))
      (fun p9 => have p9f := of_bne_f p9; (.s 10 (.call 10 false [] (true) (by with_reducible rfl) ([D.sl false n 1 (List.map dB b), D.v (Value.int IntKind.i64 q), D.v (Value.int IntKind.i64 y)]) _ (simL.refl _) (true) (by with_reducible rfl) _ _ _ (@Go.Proofs.Ytcinacfabkoeaaa.Vm.Long (b) (n) (q) (y) (by omega) (by omega) (by omega) (by omega)) (FnOk.of Try.func10 rfl rfl) (.s 11 (.call 9 false [] (true) (by with_reducible rfl) ([D.sl false n 1 (List.map dB b), D.v (Value.int IntKind.i64 q), D.v (Value.int IntKind.i64 size), D.v (Value.int IntKind.i64 256)]) _ (simL.refl _) (true) (by with_reducible rfl) _ _ _ (@Go.Proofs.Ytcinacfabkoeaaa.Vm.Find (b) (n) (q) (size) (256) (by omega) (by omega) (by omega) (by omega) (by omega)) (FnOk.of Try.func9 rfl rfl) (.s 20 (.br (longE n q y != 0)
        (fun p13 => have p13f := of_bne_t p13; (.s 30 (.out [] [] (D.v (Value.bool true)) [] R (ok _ _ (by with_reducible rfl) (by with_reducible rfl)))))
        (fun p13 => have p13f := of_bne_f p13; (.s 5 (.opt (wrapO IntKind.i64 (q - y)) (D.v (Value.int IntKind.i64 (q - y))) (Go.Vx.wrapO_i64 (by omega)) (.s 10 (.br (decide (size < q - y))
          (fun p14 => have p14f := of_decide_eq_true p14; (.s 16 (.out [] [] (D.v (Value.bool true)) [] R (ok _ _ (by with_reducible rfl) (by with_reducible rfl)))))
          (fun p14 => have p14f := of_decide_eq_false p14; (.s 8 (.br (decide (longN b q y < 3))
            (fun p15 => have p15f := of_decide_eq_true p15; (.s 8 (.out [] [] (D.v (Value.bool true)) [] R (ok _ _ (by with_reducible rfl) (by with_reducible rfl)))))
            (fun p15 => have p15f := of_decide_eq_false p15; (.s 9 (.out [] [] (D.v (Value.bool (decide (longN b q y ≤ findN b n q size 256)))) [] R (ok _ _ (by (refine bv_eq (decide_eq_true ?_); have := f7 (by (omega)) (by (omega)) (by (omega)); omega)) (by with_reducible rfl))))))))))))))))))))))))))))))))))))))))))))))))
  (fun p0 => have p0f := of_bne_f p0; (.s 12 (.f (decide (more < 0)) (by (refine decide_eq_false ?_; (omega))) (.s 4 (.f (decide (100000 < more)) (by (refine decide_eq_false ?_; (omega))) (.s 7 (.opt (wrapO IntKind.i64 (chain + more)) (D.v (Value.int IntKind.i64 (chain + more))) (Go.Vx.wrapO_i64 (by omega)) (.s 1 (.opt (minO IntKind.i64 false 256 (chain + more)) (D.v (Value.int IntKind.i64 (min 256 (chain + more)))) (minO_min _ _ _) (.s 1 (.call 9 false [] (true) (by with_reducible rfl) ([D.sl false n 1 (List.map dB b), D.v (Value.int IntKind.i64 q), D.v (Value.int IntKind.i64 size), D.v (Value.int IntKind.i64 (min 256 (chain + more)))]) _ (simL.refl _) (true) (by with_reducible rfl) _ _ _ (@Go.Proofs.Ytcinacfabkoeaaa.Vm.Find (b) (n) (q) (size) (min 256 (chain + more)) (by omega) (by omega) (by omega) (by omega) (by omega)) (FnOk.of Try.func9 rfl rfl) (.s 16 (.opt (wrapO IntKind.i64 (size + more)) (D.v (Value.int IntKind.i64 (size + more))) (Go.Vx.wrapO_i64 (by omega)) (.s 1 (.opt (minO IntKind.i64 false 32768 (size + more)) (D.v (Value.int IntKind.i64 (min 32768 (size + more)))) (minO_min _ _ _) (.s 1 (.call 9 false [] (true) (by with_reducible rfl) ([D.sl false n 1 (List.map dB b), D.v (Value.int IntKind.i64 q), D.v (Value.int IntKind.i64 (min 32768 (size + more))), D.v (Value.int IntKind.i64 256)]) _ (simL.refl _) (true) (by with_reducible rfl) _ _ _ (@Go.Proofs.Ytcinacfabkoeaaa.Vm.Find (b) (n) (q) (min 32768 (size + more)) (256) (by omega) (by omega) (by omega) (by omega) (by omega)) (FnOk.of Try.func9 rfl rfl) (.s 16 (.f (decide (findN b n q size (min 256 (chain + more)) < findN b n q size chain)) (by (refine decide_eq_false ?_; (omega))) (.s 8 (.f (decide (findN b n q (min 32768 (size + more)) 256 < findN b n q size chain)) (by (refine decide_eq_false ?_; (omega))) (.s 6 (.br (findE b n q size (min 256 (chain + more)) != 0)
    (fun p16 => have p16f := of_bne_t p16; (.s 8 (.f (findE b n q size (min 256 (chain + more)) != 6) (by (simp <;> (omega))) (.s 6 (.br (findE b n q (min 32768 (size + more)) 256 != 0)
      (fun p17 => have p17f := of_bne_t p17; (.s 6 (.f (findE b n q (min 32768 (size + more)) 256 != 6) (by (simp <;> (omega))) (.s 4 (.call 10 false [] (true) (by with_reducible rfl) ([D.sl false n 1 (List.map dB b), D.v (Value.int IntKind.i64 q), D.v (Value.int IntKind.i64 y)]) _ (simL.refl _) (true) (by with_reducible rfl) _ _ _ (@Go.Proofs.Ytcinacfabkoeaaa.Vm.Long (b) (n) (q) (y) (by omega) (by omega) (by omega) (by omega)) (FnOk.of Try.func10 rfl rfl) (.s 11 (.call 9 false [] (true) (by with_reducible rfl) ([D.sl false n 1 (List.map dB b), D.v (Value.int IntKind.i64 q), D.v (Value.int IntKind.i64 size), D.v (Value.int IntKind.i64 256)]) _ (simL.refl _) (true) (by with_reducible rfl) _ _ _ (@Go.Proofs.Ytcinacfabkoeaaa.Vm.Find (b) (n) (q) (size) (256) (by omega) (by omega) (by omega) (by omega) (by omega)) (FnOk.of Try.func9 rfl rfl) (.s 20 (.br (longE n q y != 0)
        (fun p18 => have p18f := of_bne_t p18; (.s 30 (.out [] [] (D.v (Value.bool true)) [] R (ok _ _ (by with_reducible rfl) (by with_reducible rfl)))))
        (fun p18 => have p18f := of_bne_f p18; (.s 5 (.opt (wrapO IntKind.i64 (q - y)) (D.v (Value.int IntKind.i64 (q - y))) (Go.Vx.wrapO_i64 (by omega)) (.s 10 (.br (decide (size < q - y))
          (fun p19 => have p19f := of_decide_eq_true p19; (.s 16 (.out [] [] (D.v (Value.bool true)) [] R (ok _ _ (by with_reducible rfl) (by with_reducible rfl)))))
          (fun p19 => have p19f := of_decide_eq_false p19; (.s 8 (.br (decide (longN b q y < 3))
            (fun p20 => have p20f := of_decide_eq_true p20; (.s 8 (.out [] [] (D.v (Value.bool true)) [] R (ok _ _ (by with_reducible rfl) (by with_reducible rfl)))))
            (fun p20 => have p20f := of_decide_eq_false p20; (.s 9 (.out [] [] (D.v (Value.bool (decide (longN b q y ≤ findN b n q size 256)))) [] R (ok _ _ (by (refine bv_eq (decide_eq_true ?_); have := f7 (by (omega)) (by (omega)) (by (omega)); omega)) (by with_reducible rfl))))))))))))))))))))))
      (fun p17 => have p17f := of_bne_f p17; (.s 10 (.call 10 false [] (true) (by with_reducible rfl) ([D.sl false n 1 (List.map dB b), D.v (Value.int IntKind.i64 q), D.v (Value.int IntKind.i64 y)]) _ (simL.refl _) (true) (by with_reducible rfl) _ _ _ (@Go.Proofs.Ytcinacfabkoeaaa.Vm.Long (b) (n) (q) (y) (by omega) (by omega) (by omega) (by omega)) (FnOk.of Try.func10 rfl rfl) (.s 11 (.call 9 false [] (true) (by with_reducible rfl) ([D.sl false n 1 (List.map dB b), D.v (Value.int IntKind.i64 q), D.v (Value.int IntKind.i64 size), D.v (Value.int IntKind.i64 256)]) _ (simL.refl _) (true) (by with_reducible rfl) _ _ _ (@Go.Proofs.Ytcinacfabkoeaaa.Vm.Find (b) (n) (q) (size) (256) (by omega) (by omega) (by omega) (by omega) (by omega)) (FnOk.of Try.func9 rfl rfl) (.s 20 (.br (longE n q y != 0)
        (fun p21 => have p21f := of_bne_t p21; (.s 30 (.out [] [] (D.v (Value.bool true)) [] R (ok _ _ (by with_reducible rfl) (by with_reducible rfl)))))
        (fun p21 => have p21f := of_bne_f p21; (.s 5 (.opt (wrapO IntKind.i64 (q - y)) (D.v (Value.int IntKind.i64 (q - y))) (Go.Vx.wrapO_i64 (by omega)) (.s 10 (.br (decide (size < q - y))
          (fun p22 => have p22f := of_decide_eq_true p22; (.s 16 (.out [] [] (D.v (Value.bool true)) [] R (ok _ _ (by with_reducible rfl) (by with_reducible rfl)))))
          (fun p22 => have p22f := of_decide_eq_false p22; (.s 8 (.br (decide (longN b q y < 3))
            (fun p23 => have p23f := of_decide_eq_true p23; (.s 8 (.out [] [] (D.v (Value.bool true)) [] R (ok _ _ (by with_reducible rfl) (by with_reducible rfl)))))
            (fun p23 => have p23f := of_decide_eq_false p23; (.s 9 (.out [] [] (D.v (Value.bool (decide (longN b q y ≤ findN b n q size 256)))) [] R (ok _ _ (by (refine bv_eq (decide_eq_true ?_); have := f7 (by (omega)) (by (omega)) (by (omega)); omega)) (by with_reducible rfl)))))))))))))))))))))))))
    (fun p16 => have p16f := of_bne_f p16; (.s 14 (.br (findE b n q (min 32768 (size + more)) 256 != 0)
      (fun p24 => have p24f := of_bne_t p24; (.s 6 (.f (findE b n q (min 32768 (size + more)) 256 != 6) (by (simp <;> (omega))) (.s 4 (.call 10 false [] (true) (by with_reducible rfl) ([D.sl false n 1 (List.map dB b), D.v (Value.int IntKind.i64 q), D.v (Value.int IntKind.i64 y)]) _ (simL.refl _) (true) (by with_reducible rfl) _ _ _ (@Go.Proofs.Ytcinacfabkoeaaa.Vm.Long (b) (n) (q) (y) (by omega) (by omega) (by omega) (by omega)) (FnOk.of Try.func10 rfl rfl) (.s 11 (.call 9 false [] (true) (by with_reducible rfl) ([D.sl false n 1 (List.map dB b), D.v (Value.int IntKind.i64 q), D.v (Value.int IntKind.i64 size), D.v (Value.int IntKind.i64 256)]) _ (simL.refl _) (true) (by with_reducible rfl) _ _ _ (@Go.Proofs.Ytcinacfabkoeaaa.Vm.Find (b) (n) (q) (size) (256) (by omega) (by omega) (by omega) (by omega) (by omega)) (FnOk.of Try.func9 rfl rfl) (.s 20 (.br (longE n q y != 0)
        (fun p25 => have p25f := of_bne_t p25; (.s 30 (.out [] [] (D.v (Value.bool true)) [] R (ok _ _ (by with_reducible rfl) (by with_reducible rfl)))))
        (fun p25 => have p25f := of_bne_f p25; (.s 5 (.opt (wrapO IntKind.i64 (q - y)) (D.v (Value.int IntKind.i64 (q - y))) (Go.Vx.wrapO_i64 (by omega)) (.s 10 (.br (decide (size < q - y))
          (fun p26 => have p26f := of_decide_eq_true p26; (.s 16 (.out [] [] (D.v (Value.bool true)) [] R (ok _ _ (by with_reducible rfl) (by with_reducible rfl)))))
          (fun p26 => have p26f := of_decide_eq_false p26; (.s 8 (.br (decide (longN b q y < 3))
            (fun p27 => have p27f := of_decide_eq_true p27; (.s 8 (.out [] [] (D.v (Value.bool true)) [] R (ok _ _ (by with_reducible rfl) (by with_reducible rfl)))))
            (fun p27 => have p27f := of_decide_eq_false p27; (.s 9 (.out [] [] (D.v (Value.bool (decide (longN b q y ≤ findN b n q size 256)))) [] R (ok _ _ (by (refine bv_eq (decide_eq_true ?_); have := f7 (by (omega)) (by (omega)) (by (omega)); omega)) (by with_reducible rfl))))))))))))))))))))))
      (fun p24 => have p24f := of_bne_f p24; (.s 10 (.call 10 false [] (true) (by with_reducible rfl) ([D.sl false n 1 (List.map dB b), D.v (Value.int IntKind.i64 q), D.v (Value.int IntKind.i64 y)]) _ (simL.refl _) (true) (by with_reducible rfl) _ _ _ (@Go.Proofs.Ytcinacfabkoeaaa.Vm.Long (b) (n) (q) (y) (by omega) (by omega) (by omega) (by omega)) (FnOk.of Try.func10 rfl rfl) (.s 11 (.call 9 false [] (true) (by with_reducible rfl) ([D.sl false n 1 (List.map dB b), D.v (Value.int IntKind.i64 q), D.v (Value.int IntKind.i64 size), D.v (Value.int IntKind.i64 256)]) _ (simL.refl _) (true) (by with_reducible rfl) _ _ _ (@Go.Proofs.Ytcinacfabkoeaaa.Vm.Find (b) (n) (q) (size) (256) (by omega) (by omega) (by omega) (by omega) (by omega)) (FnOk.of Try.func9 rfl rfl) (.s 20 (.br (longE n q y != 0)
        (fun p28 => have p28f := of_bne_t p28; (.s 30 (.out [] [] (D.v (Value.bool true)) [] R (ok _ _ (by with_reducible rfl) (by with_reducible rfl)))))
        (fun p28 => have p28f := of_bne_f p28; (.s 5 (.opt (wrapO IntKind.i64 (q - y)) (D.v (Value.int IntKind.i64 (q - y))) (Go.Vx.wrapO_i64 (by omega)) (.s 10 (.br (decide (size < q - y))
          (fun p29 => have p29f := of_decide_eq_true p29; (.s 16 (.out [] [] (D.v (Value.bool true)) [] R (ok _ _ (by with_reducible rfl) (by with_reducible rfl)))))
          (fun p29 => have p29f := of_decide_eq_false p29; (.s 8 (.br (decide (longN b q y < 3))
            (fun p30 => have p30f := of_decide_eq_true p30; (.s 8 (.out [] [] (D.v (Value.bool true)) [] R (ok _ _ (by with_reducible rfl) (by with_reducible rfl)))))
            (fun p30 => have p30f := of_decide_eq_false p30; (.s 9 (.out [] [] (D.v (Value.bool (decide (longN b q y ≤ findN b n q size 256)))) [] R (ok _ _ (by (refine bv_eq (decide_eq_true ?_); have := f7 (by (omega)) (by (omega)) (by (omega)); omega)) (by with_reducible rfl))))))))))))))))))))))))))))))))))))))))))))))))))))))) (by kernel_rfl)
theorem same_cut {b c : List UInt8} {m : Nat} (hb : m ≤ b.length) (hc : m ≤ c.length) (he : ∀ t, t < m → c.getD t default = b.getD t default) : ∀ (K i j : Nat), j < i → (same b i j K = K ∧ i + K ≤ m ∨ i + same b i j K < m) → same c i j K = same b i j K
  | 0, i, j, hj, h => rfl
  | K + 1, i, j, hj, h => by
    unfold same at h ⊢
    by_cases e : i < b.length ∧ b.getD j default = b.getD i default
    · rw [if_pos e] at h
      have h2 : i + 1 ≤ m := by omega
      rw [if_pos e, if_pos ⟨by omega, by rw [he j (by omega), he i (by omega)]; exact e.2⟩, same_cut hb hc he K (i + 1) (j + 1) (by omega) (by omega)]
    · rw [if_neg e] at h
      rw [if_neg e, if_neg]
      rintro ⟨h1, h2⟩
      have h3 : i < m := by omega
      rw [he j (by omega), he i (by omega)] at h2
      exact e ⟨by omega, h2⟩
theorem long_ok {b : List UInt8} {n : Nat} {q y : Int} (hn : n = b.length) (e : longE n q y = 0) : longN b q y = (same b q.toNat y.toNat 258 : Nat) ∧ 0 ≤ y ∧ y < q ∧ q ≤ n ∧ 0 ≤ longN b q y ∧ longN b q y ≤ 258 ∧ q + longN b q y ≤ n := by
  have hy : 0 ≤ y ∧ y < q ∧ q ≤ n := by
    unfold longE at e
    split at e
    · cases e
    · split at e
      · cases e
      · omega
  have e2 : longN b q y = (same b q.toNat y.toNat 258 : Nat) := by unfold longN; rw [← hn, if_pos e]
  have := same_258 b q.toNat y.toNat
  have := same_end b 258 q.toNat y.toNat (by omega)
  omega
theorem behind {b more : List UInt8} {n k : Nat} {q y : Int} (hn : n = b.length) (h1 : n ≤ 2000) (h2 : more.length ≤ 2000) (e : longE n q y = 0) (h : ¬ ((n : Int) ≤ q + longN b q y ∧ longN b q y < 258)) (hk : (k : Int) = min (q + longN b q y + 1) n) : longE (b.take k ++ more).length q y = 0 ∧ longN (b.take k ++ more) q y = longN b q y := by
  obtain ⟨f1, f2, f3, f4, f5, f6, f7⟩ := long_ok hn e
  have hl : (b.take k ++ more).length = k + more.length := by rw [List.length_append, List.length_take]; omega
  have e1 : longE (b.take k ++ more).length q y = 0 := by
    rw [hl, longE, if_neg (by omega), if_neg (by omega)]
  refine ⟨e1, ?_⟩
  have e2 : longN (b.take k ++ more) q y = (same (b.take k ++ more) q.toNat y.toNat 258 : Nat) := by unfold longN; rw [if_pos e1]
  rw [e2, f1, same_cut (b := b) (m := k) (by omega) (by omega) (fun t ht => ?_) 258 q.toNat y.toNat (by omega) (by omega)]
  simp only [List.getD_eq_getElem?_getD]
  rw [List.getElem?_append_left (by rw [List.length_take]; omega), List.getElem?_take, if_pos ht]
theorem behindK {b more : List UInt8} {n m : Nat} {q y : Int} (hn : n = b.length) (hm : m = more.length) (h1 : n ≤ 2000) (h2 : m ≤ 2000) (e : longE n q y = 0) (h : ¬ ((n : Int) ≤ q + longN b q y ∧ longN b q y < 258)) (k K : Nat) (hk : (k : Int) = min (q + longN b q y + 1) n) (hK : K = k + m) : longE K q y = 0 ∧ longN (b.take k ++ more) q y = longN b q y := by
  have := behind hn h1 (hm ▸ h2) e h hk
  rw [List.length_append, List.length_take, Nat.min_eq_left (by omega), ← hm, ← hK] at this
  exact this
set_option maxRecDepth 100000 in
set_option maxHeartbeats 4000000 in
theorem behind_no (b more : List UInt8) (n m : Nat) (q y : Int) (hn : n = b.length) (hm : m = more.length) (hx : -9223372036854775808 ≤ q ∧ q ≤ 9223372036854775807) (hy : -9223372036854775808 ≤ y ∧ y ≤ 9223372036854775807) (h : 2000 < n ∨ 2000 < m ∨ longE n q y ≠ 0) : SpecH false Try.prog 7 [.sl false n 1 (b.map dB), iD q, iD y, .sl false m 1 (more.map dB)] [] (.v (.bool true)) [] := by
  refine SpecH.run T_ok mixed Try.func7 rfl rfl rfl trivial 1000 64 (fun R ok => (.s 2 (.call 8 false [] (true) (by with_reducible rfl) ([]) _ (simL.refl _) (true) (by with_reducible rfl) _ _ _ (@Go.Proofs.Ytcinacfabkoeaaa.Vm.alive) (FnOk.of Try.func8 rfl rfl) (.s 7 (.br (decide (2000 < (↑n : Int)))
  (fun p0 => have p0f := of_decide_eq_true p0; (.s 14 (.out [] [] (D.v (Value.bool true)) [] R (ok _ _ (by with_reducible rfl) (by with_reducible rfl)))))
  (fun p0 => have p0f := of_decide_eq_false p0; (.s 8 (.br (decide (2000 < (↑m : Int)))
    (fun p1 => have p1f := of_decide_eq_true p1; (.s 6 (.out [] [] (D.v (Value.bool true)) [] R (ok _ _ (by with_reducible rfl) (by with_reducible rfl)))))
    (fun p1 => have p1f := of_decide_eq_false p1; (.s 8 (.call 10 false [] (true) (by with_reducible rfl) ([D.sl false n 1 (List.map dB b), D.v (Value.int IntKind.i64 q), D.v (Value.int IntKind.i64 y)]) _ (simL.refl _) (true) (by with_reducible rfl) _ _ _ (@Go.Proofs.Ytcinacfabkoeaaa.Vm.Long (b) (n) (q) (y) (by omega) (by omega) (by omega) (by omega)) (FnOk.of Try.func10 rfl rfl) (.s 12 (.t (longE n q y != 0) (by (simp <;> (omega))) (.s 20 (.out [] [] (D.v (Value.bool true)) [] R (ok _ _ (by with_reducible rfl) (by with_reducible rfl))))))))))))))))) (by kernel_rfl)
set_option maxRecDepth 100000 in
set_option maxHeartbeats 4000000 in
theorem behind_end (b more : List UInt8) (n m : Nat) (q y : Int) (hn : n = b.length) (hm : m = more.length) (hx : -9223372036854775808 ≤ q ∧ q ≤ 9223372036854775807) (hy : -9223372036854775808 ≤ y ∧ y ≤ 9223372036854775807) (hz : n ≤ 2000 ∧ m ≤ 2000) (hE : longE n q y = 0) (h : (n : Int) ≤ q + longN b q y ∧ longN b q y < 258) : SpecH false Try.prog 7 [.sl false n 1 (b.map dB), iD q, iD y, .sl false m 1 (more.map dB)] [] (.v (.bool true)) [] := by
  have f0 := long_ok hn hE
  refine SpecH.run T_ok mixed Try.func7 rfl rfl rfl trivial 1000 64 (fun R ok => (.s 2 (.call 8 false [] (true) (by with_reducible rfl) ([]) _ (simL.refl _) (true) (by with_reducible rfl) _ _ _ (@Go.Proofs.Ytcinacfabkoeaaa.Vm.alive) (FnOk.of Try.func8 rfl rfl) (.s 7 (.f (decide (2000 < (↑n : Int))) (by (refine decide_eq_false ?_; (omega))) (.s 8 (.f (decide (2000 < (↑m : Int))) (by (refine decide_eq_false ?_; (omega))) (.s 8 (.call 10 false [] (true) (by with_reducible rfl) ([D.sl false n 1 (List.map dB b), D.v (Value.int IntKind.i64 q), D.v (Value.int IntKind.i64 y)]) _ (simL.refl _) (true) (by with_reducible rfl) _ _ _ (@Go.Proofs.Ytcinacfabkoeaaa.Vm.Long (b) (n) (q) (y) (by omega) (by omega) (by omega) (by omega)) (FnOk.of Try.func10 rfl rfl) (.s 12 (.f (longE n q y != 0) (by (simp <;> (omega))) (.s 5 (.opt (wrapO IntKind.i64 (q + longN b q y)) (D.v (Value.int IntKind.i64 (q + longN b q y))) (Go.Vx.wrapO_i64 (by omega)) (.s 10 (.t (decide ((↑n : Int) ≤ q + longN b q y)) (by (refine decide_eq_true ?_; (omega))) (.s 6 (.t (decide (longN b q y < 258)) (by (refine decide_eq_true ?_; (omega))) (.s 2 (.out [] [] (D.v (Value.bool true)) [] R (ok _ _ (by with_reducible rfl) (by with_reducible rfl))))))))))))))))))))) (by kernel_rfl)
set_option maxRecDepth 100000 in
set_option maxHeartbeats 4000000 in
theorem behind_ok (b more : List UInt8) (n m : Nat) (q y : Int) (hn : n = b.length) (hm : m = more.length) (hx : -9223372036854775808 ≤ q ∧ q ≤ 9223372036854775807) (hy : -9223372036854775808 ≤ y ∧ y ≤ 9223372036854775807) (hz : n ≤ 2000 ∧ m ≤ 2000) (hE : longE n q y = 0) (h : ¬ ((n : Int) ≤ q + longN b q y ∧ longN b q y < 258)) : SpecH false Try.prog 7 [.sl false n 1 (b.map dB), iD q, iD y, .sl false m 1 (more.map dB)] [] (.v (.bool true)) [] := by
  have f0 := long_ok hn hE
  have f1 := behindK hn hm hz.1 hz.2 hE h
  refine SpecH.run T_ok mixed Try.func7 rfl rfl rfl trivial 1000 64 (fun R ok => (.s 2 (.call 8 false [] (true) (by with_reducible rfl) ([]) _ (simL.refl _) (true) (by with_reducible rfl) _ _ _ (@Go.Proofs.Ytcinacfabkoeaaa.Vm.alive) (FnOk.of Try.func8 rfl rfl) (.s 7 (.f (decide (2000 < (↑n : Int))) (by (refine decide_eq_false ?_; (omega))) (.s 8 (.f (decide (2000 < (↑m : Int))) (by (refine decide_eq_false ?_; (omega))) (.s 8 (.call 10 false [] (true) (by with_reducible rfl) ([D.sl false n 1 (List.map dB b), D.v (Value.int IntKind.i64 q), D.v (Value.int IntKind.i64 y)]) _ (simL.refl _) (true) (by with_reducible rfl) _ _ _ (@Go.Proofs.Ytcinacfabkoeaaa.Vm.Long (b) (n) (q) (y) (by omega) (by omega) (by omega) (by omega)) (FnOk.of Try.func10 rfl rfl) (.s 12 (.f (longE n q y != 0) (by (simp <;> (omega))) (.s 5 (.opt (wrapO IntKind.i64 (q + longN b q y)) (D.v (Value.int IntKind.i64 (q + longN b q y))) (Go.Vx.wrapO_i64 (by omega)) (.s 10 (.br (decide ((↑n : Int) ≤ q + longN b q y))
  (fun p0 => have p0f := of_decide_eq_true p0; (.s 6 (.f (decide (longN b q y < 258)) (by (refine decide_eq_false ?_; (omega))) (.s 5 (.opt (wrapO IntKind.i64 (q + longN b q y)) (D.v (Value.int IntKind.i64 (q + longN b q y))) (Go.Vx.wrapO_i64 (by omega)) (.s 2 (.opt (wrapO IntKind.i64 (q + longN b q y + 1)) (D.v (Value.int IntKind.i64 (q + longN b q y + 1))) (Go.Vx.wrapO_i64 (by omega)) (.s 3 (.opt (minO IntKind.i64 false (q + longN b q y + 1) (↑n : Int)) (D.v (Value.int IntKind.i64 (↑n : Int))) (minO_r (by omega)) (.s 1 (.chk (bndOk none (some (↑n : Int)) none n && true) (by (simp; done)) (.s 1 (.chk (true && Nat.ble ((0 + n) * 1) 140737488355328) (by (refine Nat.ble_eq_true_of_le ?_; (omega))) (.s 4 (.chk (true && Nat.beq (n * 1) (List.length (List.take (n * 1) (List.map dB b))) && true && true && true && true && Nat.ble ((n + m) * 1) 140737488355328) (by (simp <;> (omega))) (.s 3 (.call 10 false [] (true && (true && Nat.ble (0 + (n + m) * 1) (List.length (List.take (n * 1) (List.map dB b) ++ List.map dB more)) && true && closedL (bif true && Nat.beq ((n + m) * 1) (List.length (List.take (n * 1) (List.map dB b) ++ List.map dB more)) then List.take (n * 1) (List.map dB b) ++ List.map dB more else List.take ((n + m) * 1) (List.drop 0 (List.take (n * 1) (List.map dB b) ++ List.map dB more)))) && true) (by (simp <;> (omega))) ([D.sl (Nat.ble 1 (n + m)) (n + m) 1 (bif true && Nat.beq ((n + m) * 1) (List.length (List.take (n * 1) (List.map dB b) ++ List.map dB more)) then List.take (n * 1) (List.map dB b) ++ List.map dB more else List.take ((n + m) * 1) (List.drop 0 (List.take (n * 1) (List.map dB b) ++ List.map dB more))), D.v (Value.int IntKind.i64 q), D.v (Value.int IntKind.i64 y)]) _ (by exact (And.intro (D.sim.slw rfl (cond_t (by (simp <;> (omega))) |>.trans (by (simp; done)))) (And.intro (D.sim.refl _) (And.intro (D.sim.refl _) trivial)))) (true) (by with_reducible rfl) _ _ _ (@Go.Proofs.Ytcinacfabkoeaaa.Vm.Long (List.take n b ++ more) (n + m) (q) (y) (by (simp <;> (omega))) (by omega) (by omega) (by omega)) (FnOk.of Try.func10 rfl rfl) (.s 17 (.t (longE (n + m) q y == 0) (by (refine beq_iff_eq.2 ?_; exact (f1 _ _ (by (omega)) rfl).1)) (.s 7 (.out [] [] (D.v (Value.bool (longN (List.take n b ++ more) q y == longN b q y))) [] R (ok _ _ (by (refine bv_eq (beq_iff_eq.2 ?_); exact (f1 _ _ (by (omega)) rfl).2)) (by with_reducible rfl)))))))))))))))))))))))
  (fun p0 => have p0f := of_decide_eq_false p0; (.s 11 (.opt (wrapO IntKind.i64 (q + longN b q y)) (D.v (Value.int IntKind.i64 (q + longN b q y))) (Go.Vx.wrapO_i64 (by omega)) (.s 2 (.opt (wrapO IntKind.i64 (q + longN b q y + 1)) (D.v (Value.int IntKind.i64 (q + longN b q y + 1))) (Go.Vx.wrapO_i64 (by omega)) (.s 3 (.opt (minO IntKind.i64 false (q + longN b q y + 1) (↑n : Int)) (D.v (Value.int IntKind.i64 (q + longN b q y + 1))) (minO_l (by omega)) (.s 1 (.chk (bndOk none (some (q + longN b q y + 1)) none n && true) (by (simp <;> (omega))) (.s 1 (.chk (true && Nat.ble ((0 + Int.toNat (q + longN b q y + 1)) * 1) 140737488355328) (by (refine Nat.ble_eq_true_of_le ?_; (omega))) (.s 4 (.chk (true && Nat.beq (Int.toNat (q + longN b q y + 1) * 1) (List.length (List.take (Int.toNat (q + longN b q y + 1) * 1) (List.map dB b))) && true && true && true && true && Nat.ble ((Int.toNat (q + longN b q y + 1) + m) * 1) 140737488355328) (by (simp <;> (omega))) (.s 3 (.call 10 false [] (true && (true && Nat.ble (0 + (Int.toNat (q + longN b q y + 1) + m) * 1) (List.length (List.take (Int.toNat (q + longN b q y + 1) * 1) (List.map dB b) ++ List.map dB more)) && true && closedL (bif true && Nat.beq ((Int.toNat (q + longN b q y + 1) + m) * 1) (List.length (List.take (Int.toNat (q + longN b q y + 1) * 1) (List.map dB b) ++ List.map dB more)) then List.take (Int.toNat (q + longN b q y + 1) * 1) (List.map dB b) ++ List.map dB more else List.take ((Int.toNat (q + longN b q y + 1) + m) * 1) (List.drop 0 (List.take (Int.toNat (q + longN b q y + 1) * 1) (List.map dB b) ++ List.map dB more)))) && true) (by (simp <;> (omega))) ([D.sl (Nat.ble 1 (Int.toNat (q + longN b q y + 1) + m)) (Int.toNat (q + longN b q y + 1) + m) 1 (bif true && Nat.beq ((Int.toNat (q + longN b q y + 1) + m) * 1) (List.length (List.take (Int.toNat (q + longN b q y + 1) * 1) (List.map dB b) ++ List.map dB more)) then List.take (Int.toNat (q + longN b q y + 1) * 1) (List.map dB b) ++ List.map dB more else List.take ((Int.toNat (q + longN b q y + 1) + m) * 1) (List.drop 0 (List.take (Int.toNat (q + longN b q y + 1) * 1) (List.map dB b) ++ List.map dB more))), D.v (Value.int IntKind.i64 q), D.v (Value.int IntKind.i64 y)]) _ (by exact (And.intro (D.sim.slw rfl (cond_t (by (simp <;> (omega))) |>.trans (by (simp; done)))) (And.intro (D.sim.refl _) (And.intro (D.sim.refl _) trivial)))) (true) (by with_reducible rfl) _ _ _ (@Go.Proofs.Ytcinacfabkoeaaa.Vm.Long (List.take (Int.toNat (q + longN b q y + 1)) b ++ more) (Int.toNat (q + longN b q y + 1) + m) (q) (y) (by (simp <;> (omega))) (by omega) (by omega) (by omega)) (FnOk.of Try.func10 rfl rfl) (.s 17 (.t (longE (Int.toNat (q + longN b q y + 1) + m) q y == 0) (by (refine beq_iff_eq.2 ?_; exact (f1 _ _ (by (omega)) rfl).1)) (.s 7 (.out [] [] (D.v (Value.bool (longN (List.take (Int.toNat (q + longN b q y + 1)) b ++ more) q y == longN b q y))) [] R (ok _ _ (by (refine bv_eq (beq_iff_eq.2 ?_); exact (f1 _ _ (by (omega)) rfl).2)) (by with_reducible rfl)))))))))))))))))))))))))))))))))))) (by kernel_rfl)
set_option maxRecDepth 100000 in
set_option maxHeartbeats 4000000 in
theorem names  : SpecH false Try.prog 4 [] [] (.v (.bool true)) [] := by
  refine SpecH.run T_ok mixed Try.func4 rfl rfl rfl trivial 1000 64 (fun R ok => (.s 10 (.call 10 false [] (true) (by with_reducible rfl) ([D.sl true 15 1 [D.v (Value.int IntKind.u8 97), D.v (Value.int IntKind.u8 98), D.v (Value.int IntKind.u8 99), D.v (Value.int IntKind.u8 97), D.v (Value.int IntKind.u8 98), D.v (Value.int IntKind.u8 99), D.v (Value.int IntKind.u8 97), D.v (Value.int IntKind.u8 98), D.v (Value.int IntKind.u8 120), D.v (Value.int IntKind.u8 97), D.v (Value.int IntKind.u8 98), D.v (Value.int IntKind.u8 99), D.v (Value.int IntKind.u8 97), D.v (Value.int IntKind.u8 98), D.v (Value.int IntKind.u8 99)], D.v (Value.int IntKind.i64 3), D.v (Value.int IntKind.i64 0)]) _ (by exact (And.intro (D.sim.slw rfl rfl) (And.intro (D.sim.refl _) (And.intro (D.sim.refl _) trivial)))) (true) (by with_reducible rfl) _ _ _ (@Go.Proofs.Ytcinacfabkoeaaa.Vm.Long ([97, 98, 99, 97, 98, 99, 97, 98, 120, 97, 98, 99, 97, 98, 99]) (15) (3) (0) (by (simp; done)) (by omega) (by omega) (by omega)) (FnOk.of Try.func10 rfl rfl) (.s 16 (.call 10 false [] (true) (by with_reducible rfl) ([D.sl true 15 1 [D.v (Value.int IntKind.u8 97), D.v (Value.int IntKind.u8 98), D.v (Value.int IntKind.u8 99), D.v (Value.int IntKind.u8 97), D.v (Value.int IntKind.u8 98), D.v (Value.int IntKind.u8 99), D.v (Value.int IntKind.u8 97), D.v (Value.int IntKind.u8 98), D.v (Value.int IntKind.u8 120), D.v (Value.int IntKind.u8 97), D.v (Value.int IntKind.u8 98), D.v (Value.int IntKind.u8 99), D.v (Value.int IntKind.u8 97), D.v (Value.int IntKind.u8 98), D.v (Value.int IntKind.u8 99)], D.v (Value.int IntKind.i64 9), D.v (Value.int IntKind.i64 3)]) _ (by exact (And.intro (D.sim.slw rfl rfl) (And.intro (D.sim.refl _) (And.intro (D.sim.refl _) trivial)))) (true) (by with_reducible rfl) _ _ _ (@Go.Proofs.Ytcinacfabkoeaaa.Vm.Long ([97, 98, 99, 97, 98, 99, 97, 98, 120, 97, 98, 99, 97, 98, 99]) (15) (9) (3) (by (simp; done)) (by omega) (by omega) (by omega)) (FnOk.of Try.func10 rfl rfl) (.s 16 (.call 10 false [] (true) (by with_reducible rfl) ([D.sl true 15 1 [D.v (Value.int IntKind.u8 97), D.v (Value.int IntKind.u8 98), D.v (Value.int IntKind.u8 99), D.v (Value.int IntKind.u8 97), D.v (Value.int IntKind.u8 98), D.v (Value.int IntKind.u8 99), D.v (Value.int IntKind.u8 97), D.v (Value.int IntKind.u8 98), D.v (Value.int IntKind.u8 120), D.v (Value.int IntKind.u8 97), D.v (Value.int IntKind.u8 98), D.v (Value.int IntKind.u8 99), D.v (Value.int IntKind.u8 97), D.v (Value.int IntKind.u8 98), D.v (Value.int IntKind.u8 99)], D.v (Value.int IntKind.i64 15), D.v (Value.int IntKind.i64 0)]) _ (by exact (And.intro (D.sim.slw rfl rfl) (And.intro (D.sim.refl _) (And.intro (D.sim.refl _) trivial)))) (true) (by with_reducible rfl) _ _ _ (@Go.Proofs.Ytcinacfabkoeaaa.Vm.Long ([97, 98, 99, 97, 98, 99, 97, 98, 120, 97, 98, 99, 97, 98, 99]) (15) (15) (0) (by (simp; done)) (by omega) (by omega) (by omega)) (FnOk.of Try.func10 rfl rfl) (.s 16 (.call 9 false [] (true) (by with_reducible rfl) ([D.sl true 15 1 [D.v (Value.int IntKind.u8 97), D.v (Value.int IntKind.u8 98), D.v (Value.int IntKind.u8 99), D.v (Value.int IntKind.u8 97), D.v (Value.int IntKind.u8 98), D.v (Value.int IntKind.u8 99), D.v (Value.int IntKind.u8 97), D.v (Value.int IntKind.u8 98), D.v (Value.int IntKind.u8 120), D.v (Value.int IntKind.u8 97), D.v (Value.int IntKind.u8 98), D.v (Value.int IntKind.u8 99), D.v (Value.int IntKind.u8 97), D.v (Value.int IntKind.u8 98), D.v (Value.int IntKind.u8 99)], D.v (Value.int IntKind.i64 8), D.v (Value.int IntKind.i64 32), D.v (Value.int IntKind.i64 9)]) _ (by exact (And.intro (D.sim.slw rfl rfl) (And.intro (D.sim.refl _) (And.intro (D.sim.refl _) (And.intro (D.sim.refl _) trivial))))) (true) (by with_reducible rfl) _ _ _ (@Go.Proofs.Ytcinacfabkoeaaa.Vm.Find ([97, 98, 99, 97, 98, 99, 97, 98, 120, 97, 98, 99, 97, 98, 99]) (15) (8) (32) (9) (by (simp; done)) (by omega) (by omega) (by omega) (by omega)) (FnOk.of Try.func9 rfl rfl) (.s 19 (.call 9 false [] (true) (by with_reducible rfl) ([D.sl true 15 1 [D.v (Value.int IntKind.u8 97), D.v (Value.int IntKind.u8 98), D.v (Value.int IntKind.u8 99), D.v (Value.int IntKind.u8 97), D.v (Value.int IntKind.u8 98), D.v (Value.int IntKind.u8 99), D.v (Value.int IntKind.u8 97), D.v (Value.int IntKind.u8 98), D.v (Value.int IntKind.u8 120), D.v (Value.int IntKind.u8 97), D.v (Value.int IntKind.u8 98), D.v (Value.int IntKind.u8 99), D.v (Value.int IntKind.u8 97), D.v (Value.int IntKind.u8 98), D.v (Value.int IntKind.u8 99)], D.v (Value.int IntKind.i64 9), D.v (Value.int IntKind.i64 32), D.v (Value.int IntKind.i64 0)]) _ (by exact (And.intro (D.sim.slw rfl rfl) (And.intro (D.sim.refl _) (And.intro (D.sim.refl _) (And.intro (D.sim.refl _) trivial))))) (true) (by with_reducible rfl) _ _ _ (@Go.Proofs.Ytcinacfabkoeaaa.Vm.Find ([97, 98, 99, 97, 98, 99, 97, 98, 120, 97, 98, 99, 97, 98, 99]) (15) (9) (32) (0) (by (simp; done)) (by omega) (by omega) (by omega) (by omega)) (FnOk.of Try.func9 rfl rfl) (.s 19 (.call 10 false [] (true) (by with_reducible rfl) ([D.sl true 15 1 [D.v (Value.int IntKind.u8 97), D.v (Value.int IntKind.u8 98), D.v (Value.int IntKind.u8 99), D.v (Value.int IntKind.u8 97), D.v (Value.int IntKind.u8 98), D.v (Value.int IntKind.u8 99), D.v (Value.int IntKind.u8 97), D.v (Value.int IntKind.u8 98), D.v (Value.int IntKind.u8 120), D.v (Value.int IntKind.u8 97), D.v (Value.int IntKind.u8 98), D.v (Value.int IntKind.u8 99), D.v (Value.int IntKind.u8 97), D.v (Value.int IntKind.u8 98), D.v (Value.int IntKind.u8 99)], D.v (Value.int IntKind.i64 3), D.v (Value.int IntKind.i64 3)]) _ (by exact (And.intro (D.sim.slw rfl rfl) (And.intro (D.sim.refl _) (And.intro (D.sim.refl _) trivial)))) (true) (by with_reducible rfl) _ _ _ (@Go.Proofs.Ytcinacfabkoeaaa.Vm.Long ([97, 98, 99, 97, 98, 99, 97, 98, 120, 97, 98, 99, 97, 98, 99]) (15) (3) (3) (by (simp; done)) (by omega) (by omega) (by omega)) (FnOk.of Try.func10 rfl rfl) (.s 16 (.call 9 false [] (true) (by with_reducible rfl) ([D.sl true 15 1 [D.v (Value.int IntKind.u8 97), D.v (Value.int IntKind.u8 98), D.v (Value.int IntKind.u8 99), D.v (Value.int IntKind.u8 97), D.v (Value.int IntKind.u8 98), D.v (Value.int IntKind.u8 99), D.v (Value.int IntKind.u8 97), D.v (Value.int IntKind.u8 98), D.v (Value.int IntKind.u8 120), D.v (Value.int IntKind.u8 97), D.v (Value.int IntKind.u8 98), D.v (Value.int IntKind.u8 99), D.v (Value.int IntKind.u8 97), D.v (Value.int IntKind.u8 98), D.v (Value.int IntKind.u8 99)], D.v (Value.int IntKind.i64 16), D.v (Value.int IntKind.i64 32), D.v (Value.int IntKind.i64 9)]) _ (by exact (And.intro (D.sim.slw rfl rfl) (And.intro (D.sim.refl _) (And.intro (D.sim.refl _) (And.intro (D.sim.refl _) trivial))))) (true) (by with_reducible rfl) _ _ _ (@Go.Proofs.Ytcinacfabkoeaaa.Vm.Find ([97, 98, 99, 97, 98, 99, 97, 98, 120, 97, 98, 99, 97, 98, 99]) (15) (16) (32) (9) (by (simp; done)) (by omega) (by omega) (by omega) (by omega)) (FnOk.of Try.func9 rfl rfl) (.s 19 (.call 9 false [] (true) (by with_reducible rfl) ([D.sl true 15 1 [D.v (Value.int IntKind.u8 97), D.v (Value.int IntKind.u8 98), D.v (Value.int IntKind.u8 99), D.v (Value.int IntKind.u8 97), D.v (Value.int IntKind.u8 98), D.v (Value.int IntKind.u8 99), D.v (Value.int IntKind.u8 97), D.v (Value.int IntKind.u8 98), D.v (Value.int IntKind.u8 120), D.v (Value.int IntKind.u8 97), D.v (Value.int IntKind.u8 98), D.v (Value.int IntKind.u8 99), D.v (Value.int IntKind.u8 97), D.v (Value.int IntKind.u8 98), D.v (Value.int IntKind.u8 99)], D.v (Value.int IntKind.i64 9), D.v (Value.int IntKind.i64 0), D.v (Value.int IntKind.i64 9)]) _ (by exact (And.intro (D.sim.slw rfl rfl) (And.intro (D.sim.refl _) (And.intro (D.sim.refl _) (And.intro (D.sim.refl _) trivial))))) (true) (by with_reducible rfl) _ _ _ (@Go.Proofs.Ytcinacfabkoeaaa.Vm.Find ([97, 98, 99, 97, 98, 99, 97, 98, 120, 97, 98, 99, 97, 98, 99]) (15) (9) (0) (9) (by (simp; done)) (by omega) (by omega) (by omega) (by omega)) (FnOk.of Try.func9 rfl rfl) (.s 13 (.call 8 false [] (true) (by with_reducible rfl) ([]) _ (simL.refl _) (true) (by with_reducible rfl) _ _ _ (@Go.Proofs.Ytcinacfabkoeaaa.Vm.alive) (FnOk.of Try.func8 rfl rfl) (.s 60 (.call 9 false [] (true) (by with_reducible rfl) ([D.sl true 15 1 [D.v (Value.int IntKind.u8 97), D.v (Value.int IntKind.u8 98), D.v (Value.int IntKind.u8 99), D.v (Value.int IntKind.u8 97), D.v (Value.int IntKind.u8 98), D.v (Value.int IntKind.u8 99), D.v (Value.int IntKind.u8 97), D.v (Value.int IntKind.u8 98), D.v (Value.int IntKind.u8 120), D.v (Value.int IntKind.u8 97), D.v (Value.int IntKind.u8 98), D.v (Value.int IntKind.u8 99), D.v (Value.int IntKind.u8 97), D.v (Value.int IntKind.u8 98), D.v (Value.int IntKind.u8 99)], D.v (Value.int IntKind.i64 9), D.v (Value.int IntKind.i64 8), D.v (Value.int IntKind.i64 9)]) _ (by exact (And.intro (D.sim.slw rfl rfl) (And.intro (D.sim.refl _) (And.intro (D.sim.refl _) (And.intro (D.sim.refl _) trivial))))) (true) (by with_reducible rfl) _ _ _ (@Go.Proofs.Ytcinacfabkoeaaa.Vm.Find ([97, 98, 99, 97, 98, 99, 97, 98, 120, 97, 98, 99, 97, 98, 99]) (15) (9) (8) (9) (by (simp; done)) (by omega) (by omega) (by omega) (by omega)) (FnOk.of Try.func9 rfl rfl) (.s 69 (.out [] [] (D.v (Value.bool true)) [] R (ok _ _ (by with_reducible rfl) (by with_reducible rfl))))))))))))))))))))))))) (by kernel_rfl)
end Vm
end Go.Proofs.Ytcinacfabkoeaaa

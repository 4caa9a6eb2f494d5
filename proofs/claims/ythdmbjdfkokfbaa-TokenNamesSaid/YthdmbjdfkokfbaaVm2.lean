/- Vm2: made by vx.py. -/
import Derived.Test.YthdmbjdfkokfbaaTab
import Derived.Test.YthdmbjdfkokfbaaVm1
namespace Go.Proofs.Ythdmbjdfkokfbaa
open Go.RowKit Go.Bw Go.Vx
namespace Vm
/-- How many bytes at i are those at j, at most k. -/
def same (b : List UInt8) (i j : Nat) : Nat → Nat
  | 0 => 0
  | k + 1 => if i < b.length ∧ b.getD j default = b.getD i default then same b (i + 1) (j + 1) k + 1 else 0
theorem same_le (b : List UInt8) : ∀ (k i j : Nat), same b i j k ≤ k
  | 0, i, j => Nat.le_refl 0
  | k + 1, i, j => by
    unfold same
    split
    · exact Nat.succ_le_succ (same_le b k (i + 1) (j + 1))
    · omega
theorem same_end (b : List UInt8) : ∀ (k i j : Nat), i ≤ b.length → i + same b i j k ≤ b.length
  | 0, i, j, h => h
  | k + 1, i, j, h => by
    unfold same
    split
    · next e => have := same_end b k (i + 1) (j + 1) e.1; omega
    · exact h
theorem same_go {b : List UInt8} {i j m a : Nat} (hs : a = m + same b (i + m) (j + m) (258 - m)) (h1 : m < 258) (h2 : i + m < b.length) (h3 : b.getD (j + m) default = b.getD (i + m) default) : a = (m + 1) + same b (i + (m + 1)) (j + (m + 1)) (258 - (m + 1)) := by
  rw [hs, show 258 - m = (258 - (m + 1)) + 1 from by omega, same, if_pos ⟨h2, h3⟩]
  rw [show i + m + 1 = i + (m + 1) from by omega, show j + m + 1 = j + (m + 1) from by omega]
  omega
theorem same_no {b : List UInt8} {i j m a : Nat} (hs : a = m + same b (i + m) (j + m) (258 - m)) (h : m = 258 ∨ ¬ i + m < b.length ∨ b.getD (j + m) default ≠ b.getD (i + m) default) : a = m := by
  rw [hs]
  rcases h with h | h | h
  · rw [h]; rfl
  · cases k : 258 - m with
    | zero => rfl
    | succ k => rw [same, if_neg (fun e => h e.1)]; rfl
  · cases k : 258 - m with
    | zero => rfl
    | succ k => rw [same, if_neg (fun e => h e.2)]; rfl
theorem at_eq {b : List UInt8} {i m : Nat} : b.getD (((i : Int) + (m : Int)).toNat * 1) default = b.getD (i + m) default := congrArg (b.getD · default) (by omega)
theorem u8_eq {x y : UInt8} (h : (x.toNat : Int) = (y.toNat : Int)) : x = y := UInt8.toNat_inj.1 (Int.ofNat.inj h)
theorem same_t {b : List UInt8} {i j m a : Nat} (hs : a = m + same b (i + m) (j + m) (258 - m)) (h1 : m < 258) (h2 : i + m < b.length) (e : (((b.getD (((j : Int) + (m : Int)).toNat * 1) default).toNat : Int) == ((b.getD (((i : Int) + (m : Int)).toNat * 1) default).toNat : Int)) = true) : a = m + 1 + same b (i + (m + 1)) (j + (m + 1)) (258 - (m + 1)) := by
  rw [at_eq, at_eq] at e
  exact same_go hs h1 h2 (u8_eq (eq_of_beq e))
theorem same_f {b : List UInt8} {i j m a : Nat} (hs : a = m + same b (i + m) (j + m) (258 - m)) (e : (((b.getD (((j : Int) + (m : Int)).toNat * 1) default).toNat : Int) == ((b.getD (((i : Int) + (m : Int)).toNat * 1) default).toNat : Int)) = false) : (m : Int) = (a : Int) := by
  rw [at_eq, at_eq] at e
  rw [same_no hs (.inr (.inr fun h => of_beq_f e (by rw [h])))]
theorem same_n1 {b : List UInt8} {i j m a n : Nat} (hs : a = m + same b (i + m) (j + m) (258 - m)) (hn : n = b.length) (e : decide ((i : Int) + (m : Int) < (n : Int)) = false) : (m : Int) = (a : Int) := by
  have := of_decide_eq_false e
  rw [same_no hs (.inr (.inl (by omega)))]
theorem same_n2 {b : List UInt8} {i j m a : Nat} (hs : a = m + same b (i + m) (j + m) (258 - m)) (hm : m ≤ 258) (e : decide ((m : Int) < 258) = false) : (m : Int) = (a : Int) := by
  have := of_decide_eq_false e
  rw [same_no hs (.inl (by omega))]
set_option maxRecDepth 100000 in
set_option maxHeartbeats 4000000 in
theorem long (b : List UInt8) (n i j : Nat) (hn : n = b.length) (hN : n ≤ 1000000) (hi : i ≤ n) (hj : j < i) : SpecH false Try.prog 34 [.sl false n 1 (b.map dB), iD i, iD j] [] (iD (same b i j 258 : Nat)) [] := by
  refine SpecH.run T_ok mixed Try.func34 rfl rfl rfl trivial 1000 64 (fun R ok => (.s 1 (Hn.inl T_ok mixed false 35 0 (loopAt Try.prog 34 0) (fun (x : PSigma fun (m : Nat) => PSigma fun (hm : m ≤ 258) => PSigma fun (hi2 : i + m ≤ n) => PSigma fun (hs : same b i j 258 = m + same b (i + m) (j + m) (258 - m)) => Unit) => match x with | ⟨m, hm, hi2, hs, _⟩ => CutS.mk [(0, D.sl false n 1 (List.map dB b)), (1, D.v (Value.int IntKind.i64 (↑i : Int))), (2, D.v (Value.int IntKind.i64 (↑j : Int))), (6, iD (m : Nat))] [] 0) (fun (x : PSigma fun (m : Nat) => PSigma fun (hm : m ≤ 258) => PSigma fun (hi2 : i + m ≤ n) => PSigma fun (hs : same b i j 258 = m + same b (i + m) (j + m) (258 - m)) => Unit) => match x with | ⟨m, hm, hi2, hs, _⟩ => 258 - m) [⟨Unit, .exit 0, fun x => match x with | () => CutS.mk [(0, D.sl false n 1 (List.map dB b)), (1, D.v (Value.int IntKind.i64 (↑i : Int))), (2, D.v (Value.int IntKind.i64 (↑j : Int))), (6, iD (same b i j 258 : Nat))] [] 0⟩] 1000 64 (fun | ⟨m, hm, hi2, hs, _⟩, Q, next1, last1 => (.s 6 (.br (decide ((↑m : Int) < 258))
    (fun p0 => have p0f := of_decide_eq_true p0; (.s 5 (.opt (wrapO IntKind.i64 ((↑i : Int) + (↑m : Int))) (D.v (Value.int IntKind.i64 ((↑i : Int) + (↑m : Int)))) (Go.Vx.wrapO_i64 (by clear next1 last1; omega)) (.s 10 (.br (decide ((↑i : Int) + (↑m : Int) < (↑n : Int)))
      (fun p1 => have p1f := of_decide_eq_true p1; (.s 7 (.opt (wrapO IntKind.i64 ((↑j : Int) + (↑m : Int))) (D.v (Value.int IntKind.i64 ((↑j : Int) + (↑m : Int)))) (Go.Vx.wrapO_i64 (by clear next1 last1; omega)) (.s 2 (.chk (true && decide ((↑j : Int) + (↑m : Int) < (↑n : Int)) && true) (by clear next1 last1; ((refine and_tI ?_ ?_) <;> (repeat' (first | (refine and_tI ?_ ?_) | (with_reducible rfl) | (refine decide_eq_true ?_) | (refine Nat.ble_eq_true_of_le ?_) | (refine nbeq ?_))) <;> (omega))) (.s 3 (.opt ((List.map dB b)[Int.toNat ((↑j : Int) + (↑m : Int)) * 1]?) (dB (List.getD b (Int.toNat ((↑j : Int) + (↑m : Int)) * 1) default)) (map_get _ _ (by clear next1 last1; omega)) (.s 9 (.opt (wrapO IntKind.i64 ((↑i : Int) + (↑m : Int))) (D.v (Value.int IntKind.i64 ((↑i : Int) + (↑m : Int)))) (Go.Vx.wrapO_i64 (by clear next1 last1; omega)) (.s 2 (.chk (true && decide ((↑i : Int) + (↑m : Int) < (↑n : Int)) && true) (by clear next1 last1; ((refine and_tI ?_ ?_) <;> (repeat' (first | (refine and_tI ?_ ?_) | (with_reducible rfl) | (refine decide_eq_true ?_) | (refine Nat.ble_eq_true_of_le ?_) | (refine nbeq ?_))) <;> (omega))) (.s 3 (.opt ((List.map dB b)[Int.toNat ((↑i : Int) + (↑m : Int)) * 1]?) (dB (List.getD b (Int.toNat ((↑i : Int) + (↑m : Int)) * 1) default)) (map_get _ _ (by clear next1 last1; omega)) (.s 4 (.br ((↑(UInt8.toNat (List.getD b (Int.toNat ((↑j : Int) + (↑m : Int)) * 1) default)) : Int) == (↑(UInt8.toNat (List.getD b (Int.toNat ((↑i : Int) + (↑m : Int)) * 1) default)) : Int))
        (fun p2 => have p2f := eq_of_beq p2; (.s 3 (.opt (wrapO IntKind.i64 ((↑m : Int) + 1)) (D.v (Value.int IntKind.i64 ((↑m : Int) + 1))) (Go.Vx.wrapO_i64 (by clear next1 last1; omega)) (.s 1 (.val 6 (D.v (Value.int IntKind.i64 ((↑m : Int) + 1))) (D.v (Value.int IntKind.i64 (↑(m + 1) : Int))) (by clear next1 last1; (simp; done)) (Hn.next next1 ⟨(m + 1), (by clear next1 last1; omega), (by clear next1 last1; omega), (by clear next1 last1; (exact same_t hs (by (omega)) (by (omega)) (by assumption))), ⟨⟩⟩ (by show 258 - (m + 1) < 258 - m; clear next1 last1; omega) [] (by repeat' first | exact trivial | exact (fun _ => cl_bytes _) | exact (fun _ => cl_map _ (fun _ => rfl) _) | (intro h; cases h; done) | (intro _; rfl) | refine And.intro ?_ ?_)))))))
        (fun p2 => have p2f := of_beq_f p2; (.val 6 (D.v (Value.int IntKind.i64 (↑m : Int))) (D.v (Value.int IntKind.i64 (↑(same b i j 258) : Int))) (by clear next1 last1; (exact iv_eq (same_f hs (by assumption)))) (Hn.last last1 0 (() : Unit) rfl [] (by repeat' first | exact trivial | exact (fun _ => cl_bytes _) | exact (fun _ => cl_map _ (fun _ => rfl) _) | (intro h; cases h; done) | (intro _; rfl) | refine And.intro ?_ ?_)))))))))))))))))))
      (fun p1 => have p1f := of_decide_eq_false p1; (.s 26 (.val 6 (D.v (Value.int IntKind.i64 (↑m : Int))) (D.v (Value.int IntKind.i64 (↑(same b i j 258) : Int))) (by clear next1 last1; (exact iv_eq (same_n1 hs hn (by assumption)))) (Hn.last last1 0 (() : Unit) rfl [] (by repeat' first | exact trivial | exact (fun _ => cl_bytes _) | exact (fun _ => cl_map _ (fun _ => rfl) _) | (intro h; cases h; done) | (intro _; rfl) | refine And.intro ?_ ?_))))))))))
    (fun p0 => have p0f := of_decide_eq_false p0; (.s 40 (.val 6 (D.v (Value.int IntKind.i64 (↑m : Int))) (D.v (Value.int IntKind.i64 (↑(same b i j 258) : Int))) (by clear next1 last1; (exact iv_eq (same_n2 hs hm (by assumption)))) (Hn.last last1 0 (() : Unit) rfl [] (by repeat' first | exact trivial | exact (fun _ => cl_bytes _) | exact (fun _ => cl_map _ (fun _ => rfl) _) | (intro h; cases h; done) | (intro _; rfl) | refine And.intro ?_ ?_)))))))) (fun | ⟨m, hm, hi2, hs, _⟩ => by kernel_rfl) ⟨(0), (by omega), (by omega), (by (simp only [Nat.add_zero, Nat.zero_add, Nat.sub_zero]; done)), ⟨⟩⟩ [] (by repeat' first | exact trivial | exact (fun _ => cl_bytes _) | exact (fun _ => cl_map _ (fun _ => rfl) _) | (intro h; cases h; done) | (intro _; rfl) | refine And.intro ?_ ?_) (hs1 (fun | () => (.s 2 (.out [] [] (D.v (Value.int IntKind.i64 (↑(same b i j 258) : Int))) [] R (ok _ _ (by with_reducible rfl) (by with_reducible rfl))))))))) (by kernel_rfl)
set_option maxRecDepth 100000 in
set_option maxHeartbeats 4000000 in
theorem Same (b : List UInt8) (n i j : Nat) (hn : n = b.length) (hN : n ≤ 1000000) (hi : i ≤ n) (hj : j < i) : SpecH false Try.prog 35 [.sl false n 1 (b.map dB), iD i, iD j] [] (iD (same b i j 258 : Nat)) [] := by
  refine SpecH.run T_ok mixed Try.func35 rfl rfl rfl trivial 1000 64 (fun R ok => (.s 2 (Hn.inl T_ok mixed false 36 0 (loopAt Try.prog 35 0) (fun (x : PSigma fun (m : Nat) => PSigma fun (hm : m ≤ 258) => PSigma fun (hi2 : i + m ≤ n) => PSigma fun (hs : same b i j 258 = m + same b (i + m) (j + m) (258 - m)) => Unit) => match x with | ⟨m, hm, hi2, hs, _⟩ => CutS.mk [(0, D.sl false n 1 (List.map dB b)), (1, D.v (Value.int IntKind.i64 (↑i : Int))), (2, D.v (Value.int IntKind.i64 (↑j : Int))), (7, iD (m : Nat))] [] 0) (fun (x : PSigma fun (m : Nat) => PSigma fun (hm : m ≤ 258) => PSigma fun (hi2 : i + m ≤ n) => PSigma fun (hs : same b i j 258 = m + same b (i + m) (j + m) (258 - m)) => Unit) => match x with | ⟨m, hm, hi2, hs, _⟩ => 258 - m) [⟨Unit, .exit 0, fun x => match x with | () => CutS.mk [(0, D.sl false n 1 (List.map dB b)), (1, D.v (Value.int IntKind.i64 (↑i : Int))), (2, D.v (Value.int IntKind.i64 (↑j : Int))), (7, iD (same b i j 258 : Nat))] [] 0⟩] 1000 64 (fun | ⟨m, hm, hi2, hs, _⟩, Q, next1, last1 => (.s 6 (.br (decide ((↑m : Int) < 258))
    (fun p0 => have p0f := of_decide_eq_true p0; (.s 5 (.opt (wrapO IntKind.i64 ((↑i : Int) + (↑m : Int))) (D.v (Value.int IntKind.i64 ((↑i : Int) + (↑m : Int)))) (Go.Vx.wrapO_i64 (by clear next1 last1; omega)) (.s 10 (.br (decide ((↑i : Int) + (↑m : Int) < (↑n : Int)))
      (fun p1 => have p1f := of_decide_eq_true p1; (.s 7 (.opt (wrapO IntKind.i64 ((↑j : Int) + (↑m : Int))) (D.v (Value.int IntKind.i64 ((↑j : Int) + (↑m : Int)))) (Go.Vx.wrapO_i64 (by clear next1 last1; omega)) (.s 2 (.chk (true && decide ((↑j : Int) + (↑m : Int) < (↑n : Int)) && true) (by clear next1 last1; ((refine and_tI ?_ ?_) <;> (repeat' (first | (refine and_tI ?_ ?_) | (with_reducible rfl) | (refine decide_eq_true ?_) | (refine Nat.ble_eq_true_of_le ?_) | (refine nbeq ?_))) <;> (omega))) (.s 3 (.opt ((List.map dB b)[Int.toNat ((↑j : Int) + (↑m : Int)) * 1]?) (dB (List.getD b (Int.toNat ((↑j : Int) + (↑m : Int)) * 1) default)) (map_get _ _ (by clear next1 last1; omega)) (.s 9 (.opt (wrapO IntKind.i64 ((↑i : Int) + (↑m : Int))) (D.v (Value.int IntKind.i64 ((↑i : Int) + (↑m : Int)))) (Go.Vx.wrapO_i64 (by clear next1 last1; omega)) (.s 2 (.chk (true && decide ((↑i : Int) + (↑m : Int) < (↑n : Int)) && true) (by clear next1 last1; ((refine and_tI ?_ ?_) <;> (repeat' (first | (refine and_tI ?_ ?_) | (with_reducible rfl) | (refine decide_eq_true ?_) | (refine Nat.ble_eq_true_of_le ?_) | (refine nbeq ?_))) <;> (omega))) (.s 3 (.opt ((List.map dB b)[Int.toNat ((↑i : Int) + (↑m : Int)) * 1]?) (dB (List.getD b (Int.toNat ((↑i : Int) + (↑m : Int)) * 1) default)) (map_get _ _ (by clear next1 last1; omega)) (.s 4 (.br ((↑(UInt8.toNat (List.getD b (Int.toNat ((↑j : Int) + (↑m : Int)) * 1) default)) : Int) == (↑(UInt8.toNat (List.getD b (Int.toNat ((↑i : Int) + (↑m : Int)) * 1) default)) : Int))
        (fun p2 => have p2f := eq_of_beq p2; (.s 3 (.opt (wrapO IntKind.i64 ((↑m : Int) + 1)) (D.v (Value.int IntKind.i64 ((↑m : Int) + 1))) (Go.Vx.wrapO_i64 (by clear next1 last1; omega)) (.s 1 (.val 7 (D.v (Value.int IntKind.i64 ((↑m : Int) + 1))) (D.v (Value.int IntKind.i64 (↑(m + 1) : Int))) (by clear next1 last1; (simp; done)) (Hn.next next1 ⟨(m + 1), (by clear next1 last1; omega), (by clear next1 last1; omega), (by clear next1 last1; (exact same_t hs (by (omega)) (by (omega)) (by assumption))), ⟨⟩⟩ (by show 258 - (m + 1) < 258 - m; clear next1 last1; omega) [] (by repeat' first | exact trivial | exact (fun _ => cl_bytes _) | exact (fun _ => cl_map _ (fun _ => rfl) _) | (intro h; cases h; done) | (intro _; rfl) | refine And.intro ?_ ?_)))))))
        (fun p2 => have p2f := of_beq_f p2; (.val 7 (D.v (Value.int IntKind.i64 (↑m : Int))) (D.v (Value.int IntKind.i64 (↑(same b i j 258) : Int))) (by clear next1 last1; (exact iv_eq (same_f hs (by assumption)))) (Hn.last last1 0 (() : Unit) rfl [] (by repeat' first | exact trivial | exact (fun _ => cl_bytes _) | exact (fun _ => cl_map _ (fun _ => rfl) _) | (intro h; cases h; done) | (intro _; rfl) | refine And.intro ?_ ?_)))))))))))))))))))
      (fun p1 => have p1f := of_decide_eq_false p1; (.s 26 (.val 7 (D.v (Value.int IntKind.i64 (↑m : Int))) (D.v (Value.int IntKind.i64 (↑(same b i j 258) : Int))) (by clear next1 last1; (exact iv_eq (same_n1 hs hn (by assumption)))) (Hn.last last1 0 (() : Unit) rfl [] (by repeat' first | exact trivial | exact (fun _ => cl_bytes _) | exact (fun _ => cl_map _ (fun _ => rfl) _) | (intro h; cases h; done) | (intro _; rfl) | refine And.intro ?_ ?_))))))))))
    (fun p0 => have p0f := of_decide_eq_false p0; (.s 40 (.val 7 (D.v (Value.int IntKind.i64 (↑m : Int))) (D.v (Value.int IntKind.i64 (↑(same b i j 258) : Int))) (by clear next1 last1; (exact iv_eq (same_n2 hs hm (by assumption)))) (Hn.last last1 0 (() : Unit) rfl [] (by repeat' first | exact trivial | exact (fun _ => cl_bytes _) | exact (fun _ => cl_map _ (fun _ => rfl) _) | (intro h; cases h; done) | (intro _; rfl) | refine And.intro ?_ ?_)))))))) (fun | ⟨m, hm, hi2, hs, _⟩ => by kernel_rfl) ⟨(0), (by omega), (by omega), (by (simp only [Nat.add_zero, Nat.zero_add, Nat.sub_zero]; done)), ⟨⟩⟩ [] (by repeat' first | exact trivial | exact (fun _ => cl_bytes _) | exact (fun _ => cl_map _ (fun _ => rfl) _) | (intro h; cases h; done) | (intro _; rfl) | refine And.intro ?_ ?_) (hs1 (fun | () => (.s 2 (.out [] [] (D.v (Value.int IntKind.i64 (↑(same b i j 258) : Int))) [] R (ok _ _ (by with_reducible rfl) (by with_reducible rfl))))))))) (by kernel_rfl)
theorem longX (b : List UInt8) (n : Nat) (x y : Int) (hn : n = b.length) (hN : n ≤ 1000000) (hx : x ≤ n) (hy : 0 ≤ y) (hxy : y < x) : SpecH false Try.prog 34 [.sl false n 1 (b.map dB), iD x, iD y] [] (iD (same b x.toNat y.toNat 258 : Nat)) [] := by
  obtain ⟨i, rfl⟩ := Int.eq_ofNat_of_zero_le (show 0 ≤ x by omega)
  obtain ⟨j, rfl⟩ := Int.eq_ofNat_of_zero_le hy
  exact long b n i j hn hN (by omega) (by omega)
theorem SameX (b : List UInt8) (n : Nat) (x y : Int) (hn : n = b.length) (hN : n ≤ 1000000) (hx : x ≤ n) (hy : 0 ≤ y) (hxy : y < x) : SpecH false Try.prog 35 [.sl false n 1 (b.map dB), iD x, iD y] [] (iD (same b x.toNat y.toNat 258 : Nat)) [] := by
  obtain ⟨i, rfl⟩ := Int.eq_ofNat_of_zero_le (show 0 ≤ x by omega)
  obtain ⟨j, rfl⟩ := Int.eq_ofNat_of_zero_le hy
  exact Same b n i j hn hN (by omega) (by omega)
def longE (n : Nat) (x y : Int) : Int := if 131072 < n then 4 else if x < 0 ∨ (n : Int) < x ∨ y < 0 ∨ x ≤ y then 2 else 0
def longN (b : List UInt8) (x y : Int) : Int := if longE b.length x y = 0 then (same b x.toNat y.toNat 258 : Nat) else 0
theorem longE_4 {n : Nat} {x y : Int} (h : 131072 < n) : longE n x y = 4 := if_pos h
theorem longE_2 {n : Nat} {x y : Int} (h : n ≤ 131072) (h2 : x < 0 ∨ (n : Int) < x ∨ y < 0 ∨ x ≤ y) : longE n x y = 2 := by rw [longE, if_neg (by omega), if_pos h2]
theorem longE_0 {n : Nat} {x y : Int} (h : n ≤ 131072) (h2 : 0 ≤ x ∧ x ≤ (n : Int) ∧ 0 ≤ y ∧ y < x) : longE n x y = 0 := by rw [longE, if_neg (by omega), if_neg (by omega)]
theorem longN_0 {b : List UInt8} {n : Nat} {x y : Int} (hn : n = b.length) (h : n ≤ 131072) (h2 : 0 ≤ x ∧ x ≤ (n : Int) ∧ 0 ≤ y ∧ y < x) : longN b x y = (same b x.toNat y.toNat 258 : Nat) := by rw [longN, ← hn, longE_0 h h2]; rfl
theorem longN_4 {b : List UInt8} {n : Nat} {x y : Int} (hn : n = b.length) (h : 131072 < n) : longN b x y = 0 := by rw [longN, ← hn, longE_4 h]; rfl
theorem longN_2 {b : List UInt8} {n : Nat} {x y : Int} (hn : n = b.length) (h : n ≤ 131072) (h2 : x < 0 ∨ (n : Int) < x ∨ y < 0 ∨ x ≤ y) : longN b x y = 0 := by rw [longN, ← hn, longE_2 h h2]; rfl
theorem tup2_eq {a b c d : Int} (h1 : a = c) (h2 : b = d) : D.tup [iD a, iD b] = D.tup [iD c, iD d] := by rw [h1, h2]
end Vm
end Go.Proofs.Ythdmbjdfkokfbaa

/- QueueF: QueueParts, walked. -/
import Derived.Test.YtekbfimlmdofbaaQueueD
import Derived.Test.YtekbfimlmdofbaaOpen
namespace Go.Proofs.Ytekbfimlmdofbaa
open Go.RowKit Go.Bw QueueA QueueB QueueC QueueD
namespace QueueF

/-- A queue that was handed in. -/
theorem open_queue {H : Type} (enc : TypeId × Value → H) {base : Nat} (w : World) (v : Value) (o : Value.okWide Try.prog w .any base 24 v) (h : Tr enc Try.prog w 24 v) :
    ∃ (m : Int) (a : Option Addr) (cap : Nat) (bs : List UInt8), v = .agg #[.int .i64 m, .slice a bs.length cap] ∧ BRow w a cap bs ∧ -9223372036854775808 ≤ m ∧ m ≤ 9223372036854775807 := by
  obtain ⟨d, p, h⟩ := h
  obtain ⟨v0, v1, y0, y1, n, rfl, _, _, h0, h1⟩ := Go.Joins.open_agg2 Try.underlying24 (by kernel_rfl) (by kernel_rfl) o h
  obtain ⟨m, rfl, hw⟩ := int_cell Try.underlying3 h0
  obtain ⟨a, cap, bs, rfl, hr⟩ := bytes_cell Try.underlying22 Try.underlying5 (by kernel_rfl) h1
  obtain ⟨b0, b1⟩ := bounds_i64 hw
  exact ⟨m, a, cap, bs, rfl, hr, b0, b1⟩

/-- What the law answers where it asks nothing: the size is too great, or a number. -/
def Early (x y z : Nat) (n m : Int) : Prop :=
  5000 < x ∨ (x ≤ 5000 ∧ (5000 < y ∨ (y ≤ 5000 ∧ (5000 < z ∨ (z ≤ 5000 ∧ (n < 0 ∨ (0 ≤ n ∧ (10000 < n ∨ (n ≤ 10000 ∧ (m < 0 ∨ (0 ≤ m ∧ 10000 < m)))))))))))

set_option maxRecDepth 100000 in
set_option maxHeartbeats 4000000 in
theorem parts_early (M : Int) (a : Option Addr) (x cap : Nat) (n m : Int) (b : Option Addr) (y kb : Nat) (c : Option Addr) (z kc : Nat) (w : World) (h : Early x y z n m) :
    Calls Try.prog 3 #[.agg #[.int .i64 M, .slice a x cap], .int .i64 n, .int .i64 m, .slice b y kb, .slice c z kc] w (Gives w (.bool true)) := by
  have hb0 := bthenAlloc (Below.refl w.heap.size w) (.cells #[.int .i64 M, .slice a x cap] 24)
  rcases h with h | ⟨h1, h | ⟨h2, h | ⟨h3, h | ⟨h4, h | ⟨h5, h | ⟨h6, h⟩⟩⟩⟩⟩⟩
  · have d1 : decide ((5000 : Int) < (x : Int)) = true := by rw [decide_eq_true_eq]; omega
    go_enter Try.func3, Try.ntmps3
    go_wp2_with fail
    refine (alive_code _).mono ?_; rintro e w1 ⟨rfl, hb1⟩
    obtain ⟨hc1, hf1⟩ := bcell hb1
    have hz1 : w.heap.size < w1.heap.size := by have := hb1.size; simp at this; omega
    go_wp2
    go_ret
    exact ⟨rfl, bthen hb0 hb1⟩
  · have d1 : decide ((5000 : Int) < (x : Int)) = false := by rw [decide_eq_false_iff_not]; omega
    have d2 : decide ((5000 : Int) < (y : Int)) = true := by rw [decide_eq_true_eq]; omega
    go_enter Try.func3, Try.ntmps3
    go_wp2_with fail
    refine (alive_code _).mono ?_; rintro e w1 ⟨rfl, hb1⟩
    obtain ⟨hc1, hf1⟩ := bcell hb1
    have hz1 : w.heap.size < w1.heap.size := by have := hb1.size; simp at this; omega
    go_wp2
    go_ret
    exact ⟨rfl, bthen hb0 hb1⟩
  · have d1 : decide ((5000 : Int) < (x : Int)) = false := by rw [decide_eq_false_iff_not]; omega
    have d2 : decide ((5000 : Int) < (y : Int)) = false := by rw [decide_eq_false_iff_not]; omega
    have d3 : decide ((5000 : Int) < (z : Int)) = true := by rw [decide_eq_true_eq]; omega
    go_enter Try.func3, Try.ntmps3
    go_wp2_with fail
    refine (alive_code _).mono ?_; rintro e w1 ⟨rfl, hb1⟩
    obtain ⟨hc1, hf1⟩ := bcell hb1
    have hz1 : w.heap.size < w1.heap.size := by have := hb1.size; simp at this; omega
    go_wp2
    go_ret
    exact ⟨rfl, bthen hb0 hb1⟩
  · have d1 : decide ((5000 : Int) < (x : Int)) = false := by rw [decide_eq_false_iff_not]; omega
    have d2 : decide ((5000 : Int) < (y : Int)) = false := by rw [decide_eq_false_iff_not]; omega
    have d3 : decide ((5000 : Int) < (z : Int)) = false := by rw [decide_eq_false_iff_not]; omega
    have d4 : decide (n < 0) = true := by rw [decide_eq_true_eq]; omega
    go_enter Try.func3, Try.ntmps3
    go_wp2_with fail
    refine (alive_code _).mono ?_; rintro e w1 ⟨rfl, hb1⟩
    obtain ⟨hc1, hf1⟩ := bcell hb1
    have hz1 : w.heap.size < w1.heap.size := by have := hb1.size; simp at this; omega
    go_wp2
    go_ret
    exact ⟨rfl, bthen hb0 hb1⟩
  · have d1 : decide ((5000 : Int) < (x : Int)) = false := by rw [decide_eq_false_iff_not]; omega
    have d2 : decide ((5000 : Int) < (y : Int)) = false := by rw [decide_eq_false_iff_not]; omega
    have d3 : decide ((5000 : Int) < (z : Int)) = false := by rw [decide_eq_false_iff_not]; omega
    have d4 : decide (n < 0) = false := by rw [decide_eq_false_iff_not]; omega
    have d5 : decide (10000 < n) = true := by rw [decide_eq_true_eq]; omega
    go_enter Try.func3, Try.ntmps3
    go_wp2_with fail
    refine (alive_code _).mono ?_; rintro e w1 ⟨rfl, hb1⟩
    obtain ⟨hc1, hf1⟩ := bcell hb1
    have hz1 : w.heap.size < w1.heap.size := by have := hb1.size; simp at this; omega
    go_wp2
    go_ret
    exact ⟨rfl, bthen hb0 hb1⟩
  · have d1 : decide ((5000 : Int) < (x : Int)) = false := by rw [decide_eq_false_iff_not]; omega
    have d2 : decide ((5000 : Int) < (y : Int)) = false := by rw [decide_eq_false_iff_not]; omega
    have d3 : decide ((5000 : Int) < (z : Int)) = false := by rw [decide_eq_false_iff_not]; omega
    have d4 : decide (n < 0) = false := by rw [decide_eq_false_iff_not]; omega
    have d5 : decide (10000 < n) = false := by rw [decide_eq_false_iff_not]; omega
    have d6 : decide (m < 0) = true := by rw [decide_eq_true_eq]; omega
    go_enter Try.func3, Try.ntmps3
    go_wp2_with fail
    refine (alive_code _).mono ?_; rintro e w1 ⟨rfl, hb1⟩
    obtain ⟨hc1, hf1⟩ := bcell hb1
    have hz1 : w.heap.size < w1.heap.size := by have := hb1.size; simp at this; omega
    go_wp2
    go_ret
    exact ⟨rfl, bthen hb0 hb1⟩
  · have d1 : decide ((5000 : Int) < (x : Int)) = false := by rw [decide_eq_false_iff_not]; omega
    have d2 : decide ((5000 : Int) < (y : Int)) = false := by rw [decide_eq_false_iff_not]; omega
    have d3 : decide ((5000 : Int) < (z : Int)) = false := by rw [decide_eq_false_iff_not]; omega
    have d4 : decide (n < 0) = false := by rw [decide_eq_false_iff_not]; omega
    have d5 : decide (10000 < n) = false := by rw [decide_eq_false_iff_not]; omega
    have d6 : decide (m < 0) = false := by rw [decide_eq_false_iff_not]; omega
    have d7 : decide (10000 < m) = true := by rw [decide_eq_true_eq]; omega
    go_enter Try.func3, Try.ntmps3
    go_wp2_with fail
    refine (alive_code _).mono ?_; rintro e w1 ⟨rfl, hb1⟩
    obtain ⟨hc1, hf1⟩ := bcell hb1
    have hz1 : w.heap.size < w1.heap.size := by have := hb1.size; simp at this; omega
    go_wp2
    go_ret
    exact ⟨rfl, bthen hb0 hb1⟩

set_option maxRecDepth 100000 in
set_option maxHeartbeats 4000000 in
theorem parts_bad (M : Int) (a : Option Addr) (x cap n m : Nat) (b : Option Addr) (y kb : Nat) (c : Option Addr) (z kc : Nat) (w : World) (hx : x ≤ 5000) (hy : y ≤ 5000) (hz : z ≤ 5000) (hn : n ≤ 10000) (hm : m ≤ 10000)
    (hM : -9223372036854775808 ≤ M ∧ M ≤ 9223372036854775807) (h : ¬ (0 ≤ M ∧ M ≤ 65536 ∧ (x : Int) ≤ M)) :
    Calls Try.prog 3 #[.agg #[.int .i64 M, .slice a x cap], .int .i64 n, .int .i64 m, .slice b y kb, .slice c z kc] w (Gives w (.bool true)) := by
  have d1 : decide ((5000 : Int) < (x : Int)) = false := by rw [decide_eq_false_iff_not]; omega
  have d2 : decide ((5000 : Int) < (y : Int)) = false := by rw [decide_eq_false_iff_not]; omega
  have d3 : decide ((5000 : Int) < (z : Int)) = false := by rw [decide_eq_false_iff_not]; omega
  have d4 : decide ((n : Int) < 0) = false := by rw [decide_eq_false_iff_not]; omega
  have d5 : decide (10000 < (n : Int)) = false := by rw [decide_eq_false_iff_not]; omega
  have d6 : decide ((m : Int) < 0) = false := by rw [decide_eq_false_iff_not]; omega
  have d7 : decide (10000 < (m : Int)) = false := by rw [decide_eq_false_iff_not]; omega
  have hb0 := bthenAlloc (Below.refl w.heap.size w) (.cells #[.int .i64 M, .slice a x cap] 24)
  have hB0 := Block.new w #[.int .i64 M, .slice a x cap] 24
  go_enter Try.func3, Try.ntmps3
  go_wp2_with fail
  refine (alive_code _).mono ?_; rintro e w1 ⟨rfl, hb1⟩
  have hB1 := hB0.below hb1 (by simp)
  have hl1 := hB1.lt
  have q0 := hB1.cell 0
  have q1 := hB1.cell 1
  go_wp2_with fail
  refine (take_no M a x cap _ _ hM (by omega) h).mono ?_; rintro e w2 ⟨rfl, hb2⟩
  unfold TakeErr
  clear q0 q1
  have hB2 := hB1.below hb2 hl1
  have hl2 := hB2.lt
  have q0 := hB2.cell 0
  have q1 := hB2.cell 1
  go_wp2_with fail
  refine (take_no M a x cap _ _ hM (by omega) h).mono ?_; rintro e w3 ⟨rfl, hb3⟩
  unfold TakeErr
  clear q0 q1
  have hB3 := (hB2.alloc (.cells #[.int .i64 0, .slice none 0 0] 24)).below hb3 (by simp; omega)
  have hl3 := hB3.lt
  have q0 := hB3.cell 0
  have q1 := hB3.cell 1
  go_wp2_with fail
  refine (check_no M a x cap _ hM (by omega) h).mono ?_; rintro e w4 ⟨rfl, hb4⟩
  go_wp2
  go_ret
  exact ⟨rfl, bthen (bthenAlloc (bthen (bthenAlloc (bthen (bthen hb0 hb1) hb2) _) hb3) _) hb4⟩

end QueueF
end Go.Proofs.Ytekbfimlmdofbaa

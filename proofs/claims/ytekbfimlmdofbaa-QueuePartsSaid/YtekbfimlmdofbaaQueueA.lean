/- QueueA: the queue's functions, walked. -/
import Derived.Test.YtekbfimlmdofbaaRows
import Derived.Test.YtekbfimlmdofbaaRegion
namespace Go.Proofs.Ytekbfimlmdofbaa
open Go.RowKit Go.Bw
namespace QueueA

/-- A queue as a value. -/
def qv (m : Int) (a : Option Addr) (n cap : Nat) : Value := .agg #[.int .i64 m, .slice a n cap]

set_option maxRecDepth 100000 in
theorem asked_yes (m : Int) (a : Option Addr) (n cap : Nat) (w : World) (h0 : 0 ≤ m) (h1 : m ≤ 65536) (h2 : (n : Int) ≤ m) :
    Calls Try.prog 26 #[.agg #[.int .i64 m, .slice a n cap]] w (Gives w (.iface 56 (.agg #[.int .i64 m, .slice a n cap]))) := by
  have d0 : decide (m < 0) = false := by rw [decide_eq_false_iff_not]; omega
  have d1 : decide (65536 < m) = false := by rw [decide_eq_false_iff_not]; omega
  have d2 : decide (m < (n : Int)) = false := by rw [decide_eq_false_iff_not]; omega
  go_enter Try.func26, Try.ntmps26
  go_wp2
  go_ret
  exact ⟨rfl, bthenAlloc (Below.refl _ _) _⟩

set_option maxRecDepth 100000 in
theorem asked_no (m : Int) (a : Option Addr) (n cap : Nat) (w : World) (hm : -9223372036854775808 ≤ m ∧ m ≤ 9223372036854775807) (hn : n ≤ 9223372036854775807) (h : ¬ (0 ≤ m ∧ m ≤ 65536 ∧ (n : Int) ≤ m)) :
    Calls Try.prog 26 #[.agg #[.int .i64 m, .slice a n cap]] w (Gives w (.iface 26 (.int .i64 8))) := by
  by_cases h0 : m < 0
  · have d0 : decide (m < 0) = true := by rw [decide_eq_true_eq]; omega
    go_enter Try.func26, Try.ntmps26
    go_wp2
    go_ret
    exact ⟨rfl, bthenAlloc (Below.refl _ _) _⟩
  · have d0 : decide (m < 0) = false := by rw [decide_eq_false_iff_not]; omega
    by_cases h1 : 65536 < m
    · have d1 : decide (65536 < m) = true := by rw [decide_eq_true_eq]; omega
      go_enter Try.func26, Try.ntmps26
      go_wp2
      go_ret
      exact ⟨rfl, bthenAlloc (Below.refl _ _) _⟩
    · have d1 : decide (65536 < m) = false := by rw [decide_eq_false_iff_not]; omega
      have d2 : decide (m < (n : Int)) = true := by rw [decide_eq_true_eq]; omega
      clear h h0 h1
      go_enter Try.func26, Try.ntmps26
      go_wp2
      go_ret
      exact ⟨rfl, bthenAlloc (Below.refl _ _) _⟩

theorem ta_line (v : Value) (w : World) : (Instr.typeAssert (.iface 56 v) 20 56 true).run Try.prog w = .ok (.tuple #[v, .bool true]) w := by kernel_rfl
theorem ta_no (v : Value) (w : World) : (Instr.typeAssert (.iface 26 v) 20 56 true).run Try.prog w = .ok (.tuple #[.agg #[.int .i64 0, .slice none 0 0], .bool false]) w := by kernel_rfl
theorem ta_err (v : Value) (w : World) : (Instr.typeAssert (.iface 26 v) 20 26 true).run Try.prog w = .ok (.tuple #[v, .bool true]) w := by kernel_rfl

set_option maxRecDepth 100000 in
theorem of_yes (m : Int) (a : Option Addr) (n cap : Nat) (w : World) (h0 : 0 ≤ m) (h1 : m ≤ 65536) (h2 : (n : Int) ≤ m) :
    Calls Try.prog 22 #[.agg #[.int .i64 m, .slice a n cap]] w (Gives w (.tuple #[.agg #[.int .i64 m, .slice a n cap], .int .i64 0])) := by
  have ta := ta_line
  go_enter Try.func22, Try.ntmps22
  go_wp2_with fail
  refine (asked_yes m a n cap _ h0 h1 h2).mono ?_; rintro e w1 ⟨rfl, hb1⟩
  obtain ⟨hc1, hf1⟩ := bcell hb1
  have hz1 : w.heap.size + 1 < w1.heap.size := by have := hb1.size; simp at this; omega
  have hz0 : w.heap.size < w1.heap.size := by omega
  go_wp2
  refine bodyPost_ret (v := .tuple #[.agg #[.int .i64 m, .slice a n cap], .int .i64 0]) (by simp [results, Try.results22, go_sem, hc1, hz1, hz0]) rfl ⟨rfl, ?_⟩
  (repeat' first | exact Below.refl _ _ | assumption | refine bthenDrew ?_ | refine bthenAlloc ?_ _ | refine bthenSet ?_ ?_ _ | refine bthen ?_ (by assumption) | (dsimp only; omega) | (simp; done) | (simp; omega))

set_option maxRecDepth 100000 in
theorem of_no (m : Int) (a : Option Addr) (n cap : Nat) (w : World) (hm : -9223372036854775808 ≤ m ∧ m ≤ 9223372036854775807) (hn : n ≤ 9223372036854775807) (h : ¬ (0 ≤ m ∧ m ≤ 65536 ∧ (n : Int) ≤ m)) :
    Calls Try.prog 22 #[.agg #[.int .i64 m, .slice a n cap]] w (Gives w (.tuple #[.agg #[.int .i64 0, .slice none 0 0], .int .i64 8])) := by
  have ta := ta_no
  have tb := ta_err
  go_enter Try.func22, Try.ntmps22
  go_wp2_with fail
  refine (asked_no m a n cap _ hm hn h).mono ?_; rintro e w1 ⟨rfl, hb1⟩
  obtain ⟨hc1, hf1⟩ := bcell hb1
  have hz1 : w.heap.size + 1 < w1.heap.size := by have := hb1.size; simp at this; omega
  have hz0 : w.heap.size < w1.heap.size := by omega
  go_wp2
  refine bodyPost_ret (v := .tuple #[.agg #[.int .i64 0, .slice none 0 0], .int .i64 8]) (by simp [results, Try.results22, go_sem, hc1, hz1, hz0]) rfl ⟨rfl, ?_⟩
  (repeat' first | exact Below.refl _ _ | assumption | refine bthenDrew ?_ | refine bthenAlloc ?_ _ | refine bthenSet ?_ ?_ _ | refine bthen ?_ (by assumption) | (dsimp only; omega) | (simp; done) | (simp; omega))

theorem infoB : (Try.prog.info? 5).map (fun i => (i.zero, i.size, i.bytes)) = some (some (.int .u8 0), 1, 1) := by kernel_rfl
theorem one_bv (bs : List UInt8) : ∀ u ∈ bs.map bv, u.oneCell' = true := by
  intro u hu; simp only [List.mem_map] at hu; obtain ⟨x, _, rfl⟩ := hu; rfl

/-- A slice of bytes in memory of the call's own. -/
def OwnB (w : World) (base : Nat) (a : Option Addr) (cap : Nat) (bs : List UInt8) : Prop := w.ownsRow base 5 1 (.slice a bs.length cap) bs.length (bs.map bv)
theorem OwnB.row {w : World} {base : Nat} {a : Option Addr} {cap : Nat} {bs : List UInt8} (h : OwnB w base a cap bs) : BRow w a cap bs := by
  obtain ⟨a', cap', e, hr⟩ := BRow.of_owns h
  cases e; exact hr
/-- The call answers a slice in new memory that reads as bs. -/
def GivesO (w : World) (bs : List UInt8) (e : Ending) (w' : World) : Prop := ∃ a cap, e = .returned (.slice a bs.length cap) ∧ OwnB w' w.heap.size a cap bs ∧ Below w.heap.size w w'

theorem owns_form {w : World} {base : Nat} {v : Value} {bs : List UInt8} (h : w.ownsRow base 5 1 v bs.length (bs.map bv)) : ∃ a cap, v = .slice a bs.length cap ∧ OwnB w base a cap bs := by
  obtain ⟨a, cap, rfl, _⟩ := BRow.of_owns h
  exact ⟨a, cap, rfl, h⟩

theorem owns_empty (w : World) : (w.alloc (.cells #[] 5)).ownsRow w.heap.size 5 1 (.slice (some ⟨w.heap.size, 0, none⟩) 0 0) 0 [] :=
  ⟨rfl, .inr ⟨w.heap.size, 0, #[], rfl, Nat.le_refl _, heap_alloc_new w _, Nat.le_refl _, Nat.zero_le _, rfl, rfl⟩⟩

set_option maxRecDepth 100000 in
theorem clone_code (a : Option Addr) (cap : Nat) (bs : List UInt8) (w : World) (hr : BRow w a cap bs) (hl : bs.length ≤ 140737488355328) :
    Calls Try.prog 23 #[.slice a bs.length cap] w (GivesO w bs) := by
  have hn := fun w a n c => Lib.run_eql_slice_nil (P := Try.prog) w 22 5 a n c 0 0 Try.underlying22
  obtain ⟨i0, hi, hz0, hz1, hz2⟩ := info_parts infoB
  cases a with
  | none =>
    have hbs : bs = [] := by
      have h1 := hr.2.2.2.1 rfl
      have h2 := hr.2.1
      cases bs with
      | nil => rfl
      | cons x l => simp at h2; omega
    subst hbs
    go_enter Try.func23, Try.ntmps23
    go_wp2
    go_ret
    exact ⟨none, 0, rfl, World.ownsRow_nil _ _ _ _, Below.refl _ _⟩
  | some ad =>
    have hr0 := hr.below (bthenAlloc (Below.refl w.heap.size w) (.cells #[] 5)) rfl
    go_enter Try.func23, Try.ntmps23
    go_wp2_with (refine wpList_append_row rfl _ _ 22 rfl w.heap.size 5 i0 (.int .u8 0) 1 1 Try.underlying22 hi hz0 hz1 hz2 rfl (by decide) _ 0 [] rfl (owns_empty w) _ _ _ (bs.map bv) rfl hr0 (one_bv bs) (by omega) (by decide) (by simp) ?_; intro v1 w1 hown hg _)
    rw [Nat.zero_add, List.nil_append] at hown
    obtain ⟨a1, cap1, rfl, ho⟩ := owns_form hown
    go_ret
    exact ⟨a1, cap1, rfl, ho, (bthenAlloc (Below.refl _ _) _).grown hg (by simp) (fun k hk => by cases hk; exact Nat.le_refl _)⟩

end QueueA
end Go.Proofs.Ytekbfimlmdofbaa

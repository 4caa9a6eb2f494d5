/- QueueC: Put and Take where they fail, and Take, walked. -/
import Derived.Test.YtekbfimlmdofbaaQueueB
namespace Go.Proofs.Ytekbfimlmdofbaa
open Go.RowKit Go.Bw QueueA QueueB
namespace QueueC

set_option maxRecDepth 100000 in
theorem put_no (m : Int) (a : Option Addr) (n cap : Nat) (b : Value) (w : World) (hm : -9223372036854775808 ≤ m ∧ m ≤ 9223372036854775807) (hn : n ≤ 9223372036854775807) (h : ¬ (0 ≤ m ∧ m ≤ 65536 ∧ (n : Int) ≤ m)) :
    Calls Try.prog 10 #[.agg #[.int .i64 m, .slice a n cap], b] w (Gives w (.tuple #[.agg #[.int .i64 0, .slice none 0 0], .int .i64 0, .int .i64 8])) := by
  go_enter Try.func10, Try.ntmps10
  go_wp2_with fail
  refine (of_no m a n cap _ hm hn h).mono ?_; rintro e w1 ⟨rfl, hb1⟩
  obtain ⟨hc1, hf1⟩ := bcell hb1
  have hz1 : w.heap.size + 1 < w1.heap.size := by have := hb1.size; simp at this; omega
  have hz0 : w.heap.size < w1.heap.size := by omega
  go_wp2
  refine bodyPost_ret (v := .tuple #[.agg #[.int .i64 0, .slice none 0 0], .int .i64 0, .int .i64 8]) (by simp [results, Try.results10, go_sem, hc1, hz1, hz0]) rfl ⟨rfl, ?_⟩
  (repeat' first | exact Below.refl _ _ | assumption | refine bthenDrew ?_ | refine bthenAlloc ?_ _ | refine bthenSet ?_ ?_ _ | refine bthen ?_ (by assumption) | (dsimp only; omega) | (simp; done) | (simp; omega))

/-- What Take answers where it can't: the error e. -/
def TakeErr (e : Int) : Value := .tuple #[.agg #[.int .i64 0, .slice none 0 0], .slice none 0 0, .int .i64 e]

set_option maxRecDepth 100000 in
theorem take_no (m : Int) (a : Option Addr) (n cap : Nat) (k : Int) (w : World) (hm : -9223372036854775808 ≤ m ∧ m ≤ 9223372036854775807) (hn : n ≤ 9223372036854775807) (h : ¬ (0 ≤ m ∧ m ≤ 65536 ∧ (n : Int) ≤ m)) :
    Calls Try.prog 8 #[.agg #[.int .i64 m, .slice a n cap], .int .i64 k] w (Gives w (TakeErr 8)) := by
  go_enter Try.func8, Try.ntmps8
  go_wp2_with fail
  refine (of_no m a n cap _ hm hn h).mono ?_; rintro e w1 ⟨rfl, hb1⟩
  obtain ⟨hc1, hf1⟩ := bcell hb1
  have hz1 : w.heap.size + 1 < w1.heap.size := by have := hb1.size; simp at this; omega
  have hz0 : w.heap.size < w1.heap.size := by omega
  go_wp2
  refine bodyPost_ret (v := TakeErr 8) (by simp [results, Try.results8, go_sem, hc1, hz1, hz0, TakeErr]) rfl ⟨rfl, ?_⟩
  (repeat' first | exact Below.refl _ _ | assumption | refine bthenDrew ?_ | refine bthenAlloc ?_ _ | refine bthenSet ?_ ?_ _ | refine bthen ?_ (by assumption) | (dsimp only; omega) | (simp; done) | (simp; omega))

set_option maxRecDepth 100000 in
theorem take_neg (m : Int) (a : Option Addr) (n cap : Nat) (k : Int) (w : World) (h0 : 0 ≤ m) (h1 : m ≤ 65536) (h2 : (n : Int) ≤ m) (hk : k < 0) :
    Calls Try.prog 8 #[.agg #[.int .i64 m, .slice a n cap], .int .i64 k] w (Gives w (TakeErr 2)) := by
  have d : decide (k < 0) = true := by rw [decide_eq_true_eq]; exact hk
  go_enter Try.func8, Try.ntmps8
  go_wp2_with fail
  refine (of_yes m a n cap _ h0 h1 h2).mono ?_; rintro e w1 ⟨rfl, hb1⟩
  obtain ⟨hc1, hf1⟩ := bcell hb1
  have hz1 : w.heap.size + 1 < w1.heap.size := by have := hb1.size; simp at this; omega
  have hz0 : w.heap.size < w1.heap.size := by omega
  go_wp2
  refine bodyPost_ret (v := TakeErr 2) (by simp [results, Try.results8, go_sem, hc1, hz1, hz0, TakeErr]) rfl ⟨rfl, ?_⟩
  (repeat' first | exact Below.refl _ _ | assumption | refine bthenDrew ?_ | refine bthenAlloc ?_ _ | refine bthenSet ?_ ?_ _ | refine bthen ?_ (by assumption) | (dsimp only; omega) | (simp; done) | (simp; omega))

/-- What Take answers: a queue of the rest, and the bytes, each in new memory of its own. -/
def GivesT (w : World) (m : Int) (xs ys : List UInt8) (e : Ending) (w' : World) : Prop :=
  ∃ a cap b kb B, e = .returned (.tuple #[.agg #[.int .i64 m, .slice a xs.length cap], .slice b ys.length kb, .int .i64 0]) ∧ w.heap.size ≤ B ∧ OwnB w' B a cap xs ∧ OwnB w' w.heap.size b kb ys ∧ (∀ g, Value.ownBlock (.slice b ys.length kb) = some g → g < B) ∧ Below w.heap.size w w'

theorem ownsBelow {w w' : World} {base : Nat} {a : Option Addr} {cap : Nat} {bs : List UInt8} (h : OwnB w base a cap bs) (hb : Below w.heap.size w w') : OwnB w' base a cap bs := by
  obtain ⟨h1, h | ⟨g, c, cur, e, hg, hh, r⟩⟩ := h
  · exact ⟨h1, .inl h⟩
  · have hlt : g < w.heap.size := Block.lt (w := w) (cs := cur) (t := 5) hh
    exact ⟨h1, .inr ⟨g, c, cur, e, hg, (hb.block g hlt).trans hh, r⟩⟩
theorem ownsLt {w : World} {base : Nat} {a : Option Addr} {cap : Nat} {bs : List UInt8} (h : OwnB w base a cap bs) {g : Nat} (hg : Value.ownBlock (.slice a bs.length cap) = some g) : g < w.heap.size := by
  obtain ⟨h1, h | ⟨g', c, cur, e, hg', hh, r⟩⟩ := h
  · rw [h.1] at hg; cases hg
  · rw [e] at hg
    simp [Value.ownBlock] at hg
    subst hg
    exact Block.lt (w := w) (cs := cur) (t := 5) hh

theorem clone_at (a : Option Addr) (cap n : Nat) (bs : List UInt8) (w : World) (hr : BRow w a cap bs) (hn : bs.length = n) (hl : n ≤ 140737488355328) :
    Calls Try.prog 23 #[.slice a n cap] w (fun e w' => ∃ a' cap', e = .returned (.slice a' n cap') ∧ OwnB w' w.heap.size a' cap' bs ∧ Below w.heap.size w w') := by
  subst hn; exact clone_code a cap bs w hr hl

set_option maxRecDepth 100000 in
set_option maxHeartbeats 4000000 in
theorem take_yes (M : Nat) (a : Option Addr) (cap : Nat) (bs : List UInt8) (n k : Nat) (w : World) (hr : BRow w a cap bs) (h1 : M ≤ 65536) (h2 : bs.length ≤ M) (hn : (n : Int) ≤ 9223372036854775807)
    (hk : (bs.length < n ∧ k = bs.length) ∨ (n ≤ bs.length ∧ k = n)) :
    Calls Try.prog 8 #[.agg #[.int .i64 M, .slice a bs.length cap], .int .i64 n] w (GivesT w M (bs.drop k) (bs.take k)) := by
  have hla := hr.le
  have hMn : (bs.length : Int) ≤ (M : Int) := by omega
  have d : decide ((n : Int) < 0) = false := by rw [decide_eq_false_iff_not]; omega
  have hm1 : (if bs.length < n then (bs.length : Int) else (n : Int)) = (k : Int) := by split <;> omega
  have hm2 : (if (bs.length : Int) < (n : Int) then (bs.length : Int) else (n : Int)) = (k : Int) := by split <;> omega
  have htl : k ≤ bs.length := by omega
  clear hk
  have ht := run_cut_to (P := Try.prog) Try.underlying22 sizeB a bs.length cap .i64 k (by omega)
  have hf := run_cut_from (P := Try.prog) Try.underlying22 sizeB a bs.length cap .i64 k (by omega)
  go_enter Try.func8, Try.ntmps8
  go_wp2_with fail
  refine (of_yes M a bs.length cap _ (by omega) (by omega) (by omega)).mono ?_; rintro e w1 ⟨rfl, hb1⟩
  obtain ⟨hc1, hf1⟩ := bcell hb1
  have hz1 : w.heap.size + 1 < w1.heap.size := by have := hb1.size; simp at this; omega
  have hz0 : w.heap.size < w1.heap.size := by omega
  have hb01 : Below w.heap.size w w1 := by (repeat' first | exact Below.refl _ _ | assumption | refine bthenDrew ?_ | refine bthenAlloc ?_ _ | refine bthenSet ?_ ?_ _ | refine bthen ?_ (by assumption) | (dsimp only; omega) | (simp; done) | (simp; omega))
  go_wp2_with fail
  refine (clone_at a cap k (bs.take k) _ ((hr.below (bthenAlloc hb01 _) rfl).take k) (List.length_take_of_le htl) (by omega)).mono ?_; rintro e w2 ⟨a2, c2, rfl, ho2, hb2⟩
  obtain ⟨hc2, hf2⟩ := bcell hb2
  have hz2 : w1.heap.size < w2.heap.size := by have := hb2.size; simp at this; omega
  have hb02 : Below w.heap.size w w2 := by (repeat' first | exact Below.refl _ _ | assumption | refine bthenDrew ?_ | refine bthenAlloc ?_ _ | refine bthenSet ?_ ?_ _ | refine bthen ?_ (by assumption) | (dsimp only; omega) | (simp; done) | (simp; omega))
  have hBL : Block w2 w1.heap.size #[.int .i64 M, .slice a bs.length cap] 56 := (Block.new w1 _ _).below hb2 (by simp)
  have hBR : Block w2 (w.heap.size + 1) #[.int .i64 0, .slice none 0 0] 24 := (((Block.new_at (w.alloc (.cells #[.int .i64 M, .slice a bs.length cap] 24)) #[.int .i64 0, .slice none 0 0] 24 (w.heap.size + 1) (by simp)).below hb1 (by simp)).alloc _).below hb2 (by simp; omega)
  have l0 := hBL.cell 0
  have l1 := hBL.cell 1
  have lf := hBL.frozen
  go_wp2_with fail
  refine (clone_at (cutAddr a cap k) (cap - k) (bs.length - k) (bs.drop k) _ ((hr.below hb02 rfl).drop k htl) (List.length_drop) (by omega)).mono ?_; rintro e w3 ⟨a3, c3, rfl, ho3, hb3⟩
  have hz3 : w1.heap.size < w3.heap.size := Nat.lt_of_lt_of_le hz2 hb3.size
  have hBL3 := hBL.below hb3 hz2
  have hBR3 := hBR.below hb3 (by omega)
  clear l0 l1 lf
  have l0 := hBL3.cell 0
  have l1 := hBL3.cell 1
  have lf := hBL3.frozen
  have r0 := hBR3.cell 0
  have r1 := hBR3.cell 1
  have rf := hBR3.frozen
  clear hc1 hc2 hf1 hf2
  go_wp2
  refine bodyPost_ret (v := .tuple #[.agg #[.int .i64 M, .slice a3 (bs.length - k) c3], .slice a2 k c2, .int .i64 0]) (by simp [results, Try.results8, go_sem, r0, r1, rf, l0, l1]) rfl ?_
  have ha : w1.heap.size < (w1.alloc (Obj.cells #[.int .i64 M, .slice a bs.length cap] 56)).heap.size := by simp
  have hr' : w.heap.size + 1 < (w1.alloc (Obj.cells #[.int .i64 M, .slice a bs.length cap] 56)).heap.size := by simp; omega
  refine ⟨a3, c3, a2, c2, w2.heap.size, by rw [List.length_drop, List.length_take_of_le htl], hb02.size, ?_, ?_, ?_, ?_⟩
  · exact ownsSet (ownsSet (ownsSet ho3 (by exact hz2) _) (by show w.heap.size + 1 < _; omega) _) (by show w.heap.size + 1 < _; omega) _
  · exact ownsBase (ownsSet (ownsSet (ownsSet (ownsBelow ho2 hb3) (by exact ha) _) (by exact hr') _) (by exact hr') _) (by simp; omega)
  · intro g hg; exact ownsLt ho2 hg
  · (repeat' first | exact Below.refl _ _ | assumption | refine bthenDrew ?_ | refine bthenAlloc ?_ _ | refine bthenSet ?_ ?_ _ | refine bthen ?_ (by assumption) | (dsimp only; omega) | (simp; done) | (simp; omega))

end QueueC
end Go.Proofs.Ytekbfimlmdofbaa

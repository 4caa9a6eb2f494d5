/- QueueD: the chapter's queue, walked. -/
import Derived.Test.YtekbfimlmdofbaaQueueC
namespace Go.Proofs.Ytekbfimlmdofbaa
open Go.RowKit Go.Bw QueueA QueueB QueueC
namespace QueueD

/-- The bytes abc. -/
def abcB : List UInt8 := [97, 98, 99]

set_option maxRecDepth 100000 in
set_option maxHeartbeats 2000000 in
theorem abc_code (w : World) : Calls Try.prog 11 #[] w fun e w' => ∃ a cap, e = .returned (.tuple #[.agg #[.int .i64 4, .slice a 3 cap], .bool true]) ∧ OwnB w' w.heap.size a cap abcB ∧ Below w.heap.size w w' := by
  have kc := run_bytes_const_at (P := Try.prog) 22 5 Try.underlying22 Try.underlying5
  go_enter Try.func11, Try.ntmps11
  go_wp2_with fail
  refine (new_yes 4 _ (by omega) (by omega)).mono ?_; rintro e w1 ⟨rfl, hb1⟩
  obtain ⟨hc1, hf1⟩ := bcell hb1
  have hz1 : w.heap.size < w1.heap.size := by have := hb1.size; simp at this; omega
  go_wp2_with fail
  refine (put_yes 4 none 0 [] _ 3 abcB 3 _ (BRow.nil _) (BRow.of_cells_at (fr := (3, 4)) (t := 5) (cs := #[.int .u8 97, .int .u8 98, .int .u8 99]) (w := w1.alloc (.cells #[.int .i64 4, .slice none 0 0] 24)) (by simp) (by rfl) (by decide)) (by omega) (by decide) (by decide)).mono ?_
  rintro e w2 ⟨a2, c2, rfl, ho2, hb2⟩
  rw [show ([] ++ List.take 3 abcB) = abcB from rfl] at ho2 ⊢
  rw [show abcB.length = 3 from rfl]
  have hb02 : Below w.heap.size w w2 := by (repeat' first | exact Below.refl _ _ | assumption | refine bthenDrew ?_ | refine bthenAlloc ?_ _ | refine bthenSet ?_ ?_ _ | refine bthen ?_ (by assumption) | (dsimp only; omega) | (simp; done) | (simp; omega))
  have hz2 : w1.heap.size + 1 < w2.heap.size := by have := hb2.size; simp at this; omega
  have hz2' : w1.heap.size < w2.heap.size := by omega
  have hz3 : w.heap.size < w2.heap.size := by omega
  have hV : Block w2 w1.heap.size #[.int .i64 4, .slice none 0 0] 24 := ((Block.new w1 _ _).alloc _).below hb2 (by simp; omega)
  have hR : Block w2 w.heap.size #[.int .i64 0, .slice none 0 0] 24 := ((((Block.new w #[.int .i64 0, .slice none 0 0] 24).below hb1 (by simp)).alloc _).alloc _).below hb2 (by simp; omega)
  have v0 := hV.cell 0
  have v1 := hV.cell 1
  have vf := hV.frozen
  have r0 := hR.cell 0
  have r1 := hR.cell 1
  have rf := hR.frozen
  go_wp2
  refine bodyPost_ret (v := .tuple #[.agg #[.int .i64 4, .slice a2 3 c2], .bool true]) (by simp [results, Try.results11, go_sem, r0, r1, rf, v0, v1]) rfl ⟨a2, c2, rfl, ?_, ?_⟩
  · exact ownsBase (ownsSet (ownsSet (ownsSet (ownsSet ho2 (by simp; omega) _) (by simp; omega) _) (by simp; omega) _) (by simp; omega) _) (by simp; omega)
  · (repeat' first | exact Below.refl _ _ | assumption | refine bthenDrew ?_ | refine bthenAlloc ?_ _ | refine bthenSet ?_ ?_ _ | refine bthen ?_ (by assumption) | (dsimp only; omega) | (simp; done) | (simp; omega))

theorem own_string {w : World} {base : Nat} {a : Option Addr} {cap n : Nat} {bs : List UInt8} (h : OwnB w base a cap bs) (hn : bs.length = n) :
    (convert 22 9 (.slice a n cap)).run Try.prog w = .ok (.string ⟨bs.toArray⟩) w := by
  subst hn; exact run_toString h.row Try.underlying22 Try.underlying5 Try.underlying9

set_option maxRecDepth 100000 in
set_option maxHeartbeats 4000000 in
theorem alive_code (w : World) : Calls Try.prog 7 #[] w (Gives w (.bool true)) := by
  have kc := run_bytes_const_at (P := Try.prog) 22 5 Try.underlying22 Try.underlying5
  go_enter Try.func7, Try.ntmps7
  go_wp2_with fail
  refine (abc_code _).mono ?_; rintro e w1 ⟨a1, c1, rfl, ho1, hb1⟩
  go_wp2_with fail
  refine (put_yes 4 a1 c1 abcB _ 2 [100, 101] 1 _ ((ho1.row.below (bthenAlloc (Below.refl _ _) _) rfl).below (bthenAlloc (Below.refl _ _) _) rfl) (BRow.of_cells_at (fr := (2, 3)) (t := 5) (cs := #[.int .u8 100, .int .u8 101]) (w := w1.alloc (.cells #[.int .i64 4, .slice a1 3 c1] 24)) (by simp) (by rfl) (by decide)) (by omega) (by decide) (by decide)).mono ?_
  rintro e w2 ⟨a2, c2, rfl, ho2, hb2⟩
  rw [show (abcB ++ List.take 1 [100, 101]) = ([97, 98, 99, 100] : List UInt8) from rfl] at ho2 ⊢
  rw [show ([97, 98, 99, 100] : List UInt8).length = 4 from rfl]
  have hb02 : Below w.heap.size w w2 := by (repeat' first | exact Below.refl _ _ | assumption | refine bthenDrew ?_ | refine bthenAlloc ?_ _ | refine bthenSet ?_ ?_ _ | refine bthen ?_ (by assumption) | (dsimp only; omega) | (simp; done) | (simp; omega))
  have hz2 : w1.heap.size + 1 < w2.heap.size := by have := hb2.size; simp at this; omega
  have hz2' : w1.heap.size < w2.heap.size := by omega
  have hV : Block w2 w1.heap.size #[.int .i64 4, .slice a1 3 c1] 24 := ((Block.new w1 _ _).alloc _).below hb2 (by simp; omega)
  have v0 := hV.cell 0
  have v1 := hV.cell 1
  have hb12 : Below w1.heap.size w1 w2 := bthen (bthenAlloc (bthenAlloc (Below.refl _ _) _) _) hb2
  go_wp2_with fail
  refine (take_yes 4 a1 c1 abcB 2 2 _ (ho1.row.below (bthenAlloc hb12 _) rfl) (by omega) (by decide) (by omega) (by decide)).mono ?_
  rintro e w3 ⟨a3, c3, a4, c4, B, rfl, hB, ho3, ho4, hlt, hb3⟩
  rw [show List.drop 2 abcB = ([99] : List UInt8) from rfl] at ho3 ⊢
  rw [show List.take 2 abcB = ([97, 98] : List UInt8) from rfl] at ho4 ⊢
  rw [show ([99] : List UInt8).length = 1 from rfl, show ([97, 98] : List UInt8).length = 2 from rfl]
  have hb23 : Below w2.heap.size w2 w3 := bthen (bthenAlloc (Below.refl _ _) _) hb3
  have hz3 : w2.heap.size < w3.heap.size := by have := hb3.size; simp at this; omega
  have hX : Block w3 w2.heap.size #[.int .i64 4, .slice a2 4 c2] 24 := (Block.new w2 _ _).below hb3 (by simp)
  have x1 := hX.cell 1
  have e1 := own_string (n := 4) (ownsBelow (ownsBelow ho2 hb23) (bthenAlloc (Below.refl _ _) (.cells #[.int .i64 4, .slice a3 1 c3] 24))) rfl
  have e2 := own_string (n := 2) (ownsBelow ho4 (bthenAlloc (Below.refl _ _) (.cells #[.int .i64 4, .slice a3 1 c3] 24))) rfl
  have e3 := own_string (n := 1) (ownsBelow ho3 (bthenAlloc (Below.refl _ _) (.cells #[.int .i64 4, .slice a3 1 c3] 24))) rfl
  clear v0 v1 kc
  go_wp2
  go_ret
  exact ⟨rfl, bthenAlloc (bthen hb02 hb23) _⟩
end QueueD
end Go.Proofs.Ytekbfimlmdofbaa

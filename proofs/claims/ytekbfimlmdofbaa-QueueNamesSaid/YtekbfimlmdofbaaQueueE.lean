/- QueueE: QueueNames, walked. -/
import Derived.Test.YtekbfimlmdofbaaQueueD
import Derived.Test.YtekbfimlmdofbaaOpen
namespace Go.Proofs.Ytekbfimlmdofbaa
open Go.RowKit Go.Bw QueueA QueueB QueueC QueueD
namespace QueueE

set_option maxRecDepth 100000 in
set_option maxHeartbeats 8000000 in
theorem names_walk (w : World) : Calls Try.prog 4 #[] w (Gives w (.bool true)) := by
  have kc := run_bytes_const_at (P := Try.prog) 22 5 Try.underlying22 Try.underlying5
  go_enter Try.func4, Try.ntmps4
  go_wp2_with fail
  refine (abc_code _).mono ?_; rintro e w1 ⟨a1, c1, rfl, ho1, hb1⟩
  have hr1 := ho1.row
  go_wp2_with fail
  refine (take_yes 4 a1 c1 abcB 9 3 _ (hr1.below (bthenAlloc (Below.refl _ _) _) rfl) (by omega) (by decide) (by omega) (by decide)).mono ?_
  rintro e w2 ⟨a2, c2, a2', c2', B, rfl, hB, ho2, ho2', hlt, hb2⟩
  rw [show List.drop 3 abcB = ([] : List UInt8) from rfl] at ho2 ⊢
  rw [show List.take 3 abcB = ([97, 98, 99] : List UInt8) from rfl] at ho2' ⊢
  rw [show ([] : List UInt8).length = 0 from rfl, show ([97, 98, 99] : List UInt8).length = 3 from rfl]
  have hQ2 : Block w2 w1.heap.size #[.int .i64 4, .slice a1 3 c1] 24 := (Block.new w1 _ _).below hb2 (by simp)
  have hl2 := hQ2.lt
  have q0 := hQ2.cell 0
  have q1 := hQ2.cell 1
  have hb12 : Below w1.heap.size w1 w2 := bthen (bthenAlloc (Below.refl _ _) _) hb2
  go_wp2_with fail
  refine (rooms_yes 4 a1 3 c1 _ (by omega) (by omega) (by omega)).mono ?_; rintro e w3 ⟨rfl, hb3⟩
  clear q0 q1
  have hQ3 := (hQ2.alloc (.cells #[.int .i64 4, .slice a2 0 c2] 24)).below hb3 (by simp; omega)
  have hl3 := hQ3.lt
  have q0 := hQ3.cell 0
  have q1 := hQ3.cell 1
  have hb13 : Below w1.heap.size w1 w3 := bthen (bthenAlloc hb12 _) hb3
  have hb23 : Below w2.heap.size w2 w3 := bthen (bthenAlloc (Below.refl _ _) _) hb3
  go_wp2_with fail
  refine (put_yes 4 a1 c1 abcB none 0 [] 0 _ (hr1.below hb13 rfl) (BRow.nil _) (by omega) (by decide) (by decide)).mono ?_
  rintro e w4 ⟨a4, c4, rfl, ho4, hb4⟩
  rw [show abcB ++ List.take 0 [] = abcB from rfl] at ho4 ⊢
  rw [show abcB.length = 3 from rfl]
  clear q0 q1
  have hQ4 := hQ3.below hb4 hl3
  have hl4 := hQ4.lt
  have q0 := hQ4.cell 0
  have q1 := hQ4.cell 1
  have hb24 := bthen hb23 hb4
  go_wp2_with fail
  refine (take_neg 4 a1 3 c1 (-1) _ (by omega) (by omega) (by omega) (by omega)).mono ?_; rintro e w5 ⟨rfl, hb5⟩
  have hb25 := bthen (bthenAlloc hb24 _) hb5
  unfold TakeErr
  go_wp2_with fail
  refine (new_no 65537 _ (by omega)).mono ?_; rintro e w6 ⟨rfl, hb6⟩
  have hb26 := bthen (bthenAlloc hb25 _) hb6
  go_wp2_with fail
  refine (new_no (-1) _ (by omega)).mono ?_; rintro e w7 ⟨rfl, hb7⟩
  have hb27 := bthen (bthenAlloc hb26 _) hb7
  go_wp2_with fail
  refine (alive_code _).mono ?_; rintro e w8 ⟨rfl, hb8⟩
  have hb28 := bthen (bthenAlloc hb27 _) hb8
  have es := own_string (n := 3) (ownsBelow ho2' hb28) rfl
  go_wp2_with fail
  refine (check_no 2 _ 3 3 _ (by omega) (by omega) (by omega)).mono ?_; rintro e w9 ⟨rfl, hb9⟩
  go_wp2
  go_ret
  exact ⟨rfl, bthen (bthenAlloc (bthen hb1 (bthen hb12 hb28)) _) hb9⟩
end QueueE
end Go.Proofs.Ytekbfimlmdofbaa

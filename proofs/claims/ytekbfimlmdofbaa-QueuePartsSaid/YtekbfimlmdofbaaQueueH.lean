/- QueueH: QueueParts, joined. -/
import Derived.Test.YtekbfimlmdofbaaQueueG
namespace Go.Proofs.Ytekbfimlmdofbaa
open Go.RowKit Go.Bw QueueA QueueB QueueC QueueD QueueF QueueG
namespace QueueH

theorem parts_walk {H : Type} (enc : TypeId × Value → H) {base : Nat} (w : World) (v0 v1 v2 v3 v4 : Value) (o0 : Value.okWide Try.prog w .any base 24 v0) (o1 : Value.okWide Try.prog w .any base 3 v1) (o2 : Value.okWide Try.prog w .any base 3 v2) (o3 : Value.okWide Try.prog w .any base 22 v3) (o4 : Value.okWide Try.prog w .any base 22 v4)
    (h0 : Tr enc Try.prog w 24 v0) (h1 : Tr enc Try.prog w 3 v1) (h2 : Tr enc Try.prog w 3 v2) (h3 : Tr enc Try.prog w 22 v3) (h4 : Tr enc Try.prog w 22 v4) :
    Calls Try.prog 3 #[v0, v1, v2, v3, v4] w (Gives w (.bool true)) := by
  obtain ⟨M, a, cap, bs, rfl, hr, hM1, hM2⟩ := open_queue enc w v0 o0 h0
  obtain ⟨n, rfl, hnw⟩ := open_nat Try.underlying3 o1 h1
  obtain ⟨m, rfl, hmw⟩ := open_nat Try.underlying3 o2 h2
  obtain ⟨b, kb, ys, rfl, hr1⟩ := open_bytes Try.underlying22 Try.underlying5 (by kernel_rfl) o3 h3
  obtain ⟨c, kc, zs, rfl, hr2⟩ := open_bytes Try.underlying22 Try.underlying5 (by kernel_rfl) o4 h4
  by_cases he : Early bs.length ys.length zs.length n m
  · exact parts_early M a bs.length cap n m b ys.length kb c zs.length kc w he
  unfold Early at he
  have e1 : bs.length ≤ 5000 := by omega
  have e2 : ys.length ≤ 5000 := by omega
  have e3 : zs.length ≤ 5000 := by omega
  have e4 : 0 ≤ n := by omega
  have e5 : n ≤ 10000 := by omega
  have e6 : 0 ≤ m := by omega
  have e7 : m ≤ 10000 := by omega
  clear he
  obtain ⟨n, rfl⟩ := Int.eq_ofNat_of_zero_le e4
  obtain ⟨m, rfl⟩ := Int.eq_ofNat_of_zero_le e6
  by_cases hq : 0 ≤ M ∧ M ≤ 65536 ∧ (bs.length : Int) ≤ M
  · obtain ⟨q1, q2, q3⟩ := hq
    obtain ⟨M, rfl⟩ := Int.eq_ofNat_of_zero_le q1
    have f1 : (min n bs.length) = min n bs.length := rfl
    refine parts_main M a bs.length cap n m b ys.length kb c zs.length kc bs ys zs w e1 e2 e3 (by omega) (by omega) hr hr1 hr2 rfl rfl rfl (by omega) (by omega)
      (min n bs.length) (min m (bs.length - min n bs.length)) (min (n + m) bs.length) _ _ _ rfl (by omega) (by omega) rfl rfl (by omega)
      _ _ _ _ rfl rfl rfl rfl ?_ ?_
      _ _ (min (M - bs.length) (ys.length + zs.length)) _ rfl (by simp) (by omega) rfl rfl ?_
      (min (M - bs.length) ys.length) _ (min (M - (bs.length + min (M - bs.length) ys.length)) zs.length) _ (by omega) rfl rfl ?_ ?_ ?_ (by omega)
    · rw [show min (n + m) bs.length = min n bs.length + min m (bs.length - min n bs.length) by omega, List.take_add]
    · rw [show min (n + m) bs.length = min n bs.length + min m (bs.length - min n bs.length) by omega, List.drop_drop]
    · rw [List.length_append, List.length_take_of_le (by rw [List.length_append]; exact Nat.min_le_right _ _)]
    · rw [List.length_append, List.length_take_of_le (Nat.min_le_right _ _)]
    · intro hl
      refine ⟨by omega, ?_⟩
      rw [List.take_append_of_le_length (by omega), show min (M - bs.length) (ys.length + zs.length) = min (M - bs.length) ys.length by omega]
    · intro hl
      refine ⟨by omega, ?_⟩
      rw [show min (M - bs.length) ys.length = ys.length by omega, List.take_length, List.append_assoc]
      congr 1
      rw [List.take_append, List.take_of_length_le (l := ys) (i := min (M - bs.length) (ys.length + zs.length)) (by omega), show min (M - bs.length) (ys.length + zs.length) - ys.length = min (M - (bs.length + ys.length)) zs.length by omega]
  · exact parts_bad M a bs.length cap n m b ys.length kb c zs.length kc w e1 e2 e3 (by omega) (by omega) ⟨hM1, hM2⟩ hq

end QueueH
end Go.Proofs.Ytekbfimlmdofbaa

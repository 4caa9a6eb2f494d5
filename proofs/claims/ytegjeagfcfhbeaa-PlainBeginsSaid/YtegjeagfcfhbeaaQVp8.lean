/- Vp8: made by vx.py. -/
import Derived.Test.YtegjeagfcfhbeaaQVp7
namespace Go.Proofs.Ytegjeagfcfhbeaa
open Go.RowKit Go.Bw Go.Vx
namespace Vp
set_option linter.unusedVariables false
set_option linter.unusedSimpArgs false
/-! ### a step -/
abbrev st2 (b l1 : List UInt8) (s : Rs) : Rs := nbS b false (syN b l1 s) (syS b l1 s)
def stR (b : List UInt8) (kd le : Nat) (l1 l2 : List UInt8) (s : Rs) : Rs × Nat × Nat × Nat × Bool := lk b (
  if kd = 0 then (if 0 < le then (tkS b 8 s, tkN b 8 s, 0, 0, false) else (s, 0, 0, 0, true))
  else if (syS b l1 s).e ≠ 0 then (syS b l1 s, 0, 0, 0, false) else if syN b l1 s < 256 then (syS b l1 s, syN b l1 s, 0, 0, false) else if syN b l1 s = 256 then (syS b l1 s, 0, 0, 0, true)
  else (nbS b true (syN b l2 (st2 b l1 s)) (syS b l2 (st2 b l1 s)), 0, nbN b true (syN b l2 (st2 b l1 s)) (syS b l2 (st2 b l1 s)), nbN b false (syN b l1 s) (syS b l1 s), false))
section
variable {b : List UInt8} {kd le : Nat} {l1 l2 : List UInt8} {s : Rs}
theorem st_a (h : kd = 0) (h2 : 0 < le) : stR b kd le l1 l2 s = (tkS b 8 s, tkN b 8 s, 0, 0, false) := by unfold stR; rw [lk_eq, if_pos h, if_pos h2]
theorem st_b (h : kd = 0) (h2 : ¬ 0 < le) : stR b kd le l1 l2 s = (s, 0, 0, 0, true) := by unfold stR; rw [lk_eq, if_pos h, if_neg h2]
theorem st_c (h : kd ≠ 0) (h2 : (syS b l1 s).e ≠ 0) : stR b kd le l1 l2 s = (syS b l1 s, 0, 0, 0, false) := by unfold stR; rw [lk_eq, if_neg h, if_pos h2]
theorem st_d (h : kd ≠ 0) (h2 : (syS b l1 s).e = 0) (h3 : syN b l1 s < 256) : stR b kd le l1 l2 s = (syS b l1 s, syN b l1 s, 0, 0, false) := by unfold stR; rw [lk_eq, if_neg h, if_neg (by omega), if_pos h3]
theorem st_e (h : kd ≠ 0) (h2 : (syS b l1 s).e = 0) (h3 : syN b l1 s = 256) : stR b kd le l1 l2 s = (syS b l1 s, 0, 0, 0, true) := by unfold stR; rw [lk_eq, if_neg h, if_neg (by omega), if_neg (by omega), if_pos h3]
theorem st_f (h : kd ≠ 0) (h2 : (syS b l1 s).e = 0) (h3 : 256 < syN b l1 s) : stR b kd le l1 l2 s = (nbS b true (syN b l2 (st2 b l1 s)) (syS b l2 (st2 b l1 s)), 0, nbN b true (syN b l2 (st2 b l1 s)) (syS b l2 (st2 b l1 s)), nbN b false (syN b l1 s) (syS b l1 s), false) := by unfold stR; rw [lk_eq, if_neg h, if_neg (by omega), if_neg (by omega), if_neg (by omega)]
theorem Rok.st (h : Rok b.length s) : Rok b.length (stR b kd le l1 l2 s).1 := by
  unfold stR; rw [lk_eq]
  split
  · split
    · exact h.tk _
    · exact h
  · split
    · exact h.sy _
    · split
      · exact h.sy _
      · split
        · exact h.sy _
        · exact (((h.sy _).nb _ _).sy _).nb _ _
theorem st_bd : (stR b kd le l1 l2 s).2.1 < 256 ∧ (stR b kd le l1 l2 s).2.2.1 ≤ 200000 ∧ (stR b kd le l1 l2 s).2.2.2.1 ≤ 200000 := by
  unfold stR; rw [lk_eq]
  split
  · split
    · exact ⟨tkN_lt b 8 s, Nat.zero_le _, Nat.zero_le _⟩
    · exact ⟨by show 0 < 256; decide, Nat.zero_le _, Nat.zero_le _⟩
  · split
    · exact ⟨by show 0 < 256; decide, Nat.zero_le _, Nat.zero_le _⟩
    · split
      · next q => exact ⟨q, Nat.zero_le _, Nat.zero_le _⟩
      · split
        · exact ⟨by show 0 < 256; decide, Nat.zero_le _, Nat.zero_le _⟩
        · exact ⟨by show 0 < 256; decide, nbN_le _ _ _ _, nbN_le _ _ _ _⟩
theorem syN_le (h : canE l1 15 = 0) : syN b l1 s ≤ 1000000 := by
  have := syN_lt b l1 s
  have := (canE_0 h).1
  omega
end
def stD (r : Rs × Nat × Nat × Nat × Bool) : D := .tup [.agg [u8D r.2.1, nD r.2.2.1, nD r.2.2.2.1], bD r.2.2.2.2]
theorem st_lit {x y : Nat} {d e f : D} (h : x < 256) : D.tup [.agg [.v (.int .u8 ((x : Int) % 256)), d, e], f] = D.tup [.agg [u8D x, d, e], f] := by
  rw [show (x : Int) % 256 = x from by omega]
end Vp
end Go.Proofs.Ytegjeagfcfhbeaa

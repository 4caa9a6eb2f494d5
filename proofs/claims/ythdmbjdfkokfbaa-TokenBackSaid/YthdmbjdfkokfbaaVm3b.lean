/- Vm3b: made by vx.py. -/
import Derived.Test.YthdmbjdfkokfbaaVm3
namespace Go.Proofs.Ythdmbjdfkokfbaa
open Go.RowKit Go.Bw Go.Vx
namespace Vm
theorem same_at (b : List UInt8) : ∀ (k i j t : Nat), t < same b i j k → b.getD (j + t) default = b.getD (i + t) default
  | 0, i, j, t, h => absurd h (Nat.not_lt_zero t)
  | k + 1, i, j, t, h => by
    unfold same at h
    split at h
    · next e =>
      cases t with
      | zero => exact e.2
      | succ t =>
        have := same_at b k (i + 1) (j + 1) t (by omega)
        rw [show j + (t + 1) = j + 1 + t from by omega, show i + (t + 1) = i + 1 + t from by omega]; exact this
    · omega
theorem same_stops (b : List UInt8) : ∀ (k i j : Nat), same b i j k = k ∨ b.length ≤ i + same b i j k ∨ b.getD (j + same b i j k) default ≠ b.getD (i + same b i j k) default
  | 0, i, j => .inl rfl
  | k + 1, i, j => by
    unfold same
    split
    · next e =>
      rcases same_stops b k (i + 1) (j + 1) with h | h | h
      · exact .inl (by omega)
      · exact .inr (.inl (by omega))
      · refine .inr (.inr ?_)
        rw [show j + (same b (i + 1) (j + 1) k + 1) = j + 1 + same b (i + 1) (j + 1) k from by omega, show i + (same b (i + 1) (j + 1) k + 1) = i + 1 + same b (i + 1) (j + 1) k from by omega]; exact h
    · next e =>
      by_cases h : i < b.length
      · exact .inr (.inr fun q => e ⟨h, q⟩)
      · exact .inr (.inl (by omega))
theorem best_inv (b : List UInt8) (i : Nat) (size : Int) : ∀ (k : Nat) (c d l : Int), bestG b i size k c d l = (d, l) ∨ ∃ j, j < k ∧ (bestG b i size k c d l).1 = (i : Int) - (j : Int) ∧ (bestG b i size k c d l).2 = (same b i j 258 : Nat) ∧ 3 ≤ same b i j 258 ∧ (i : Int) - (j : Int) ≤ size
  | 0, c, d, l => .inl rfl
  | k + 1, c, d, l => by
    have up : ∀ {c d l : Int}, (∃ j, j < k ∧ (bestG b i size k c d l).1 = (i : Int) - (j : Int) ∧ (bestG b i size k c d l).2 = (same b i j 258 : Nat) ∧ 3 ≤ same b i j 258 ∧ (i : Int) - (j : Int) ≤ size) → ∃ j, j < k + 1 ∧ (bestG b i size k c d l).1 = (i : Int) - (j : Int) ∧ (bestG b i size k c d l).2 = (same b i j 258 : Nat) ∧ 3 ≤ same b i j 258 ∧ (i : Int) - (j : Int) ≤ size := fun ⟨j, h1, h2⟩ => ⟨j, by omega, h2⟩
    unfold bestG
    split
    · next e =>
      split
      · exact (best_inv b i size k c d l).imp id up
      · next e3 =>
        split
        · rcases best_inv b i size k (c - 1) ((i : Int) - k) (same b i k 258 : Nat) with h | h
          · exact .inr ⟨k, by omega, by rw [h], by rw [h], by omega, e.1⟩
          · exact .inr (up h)
        · exact (best_inv b i size k (c - 1) d l).imp id up
    · exact .inl rfl
theorem find_e (b : List UInt8) (n : Nat) (x size chain : Int) : findE b n x size chain = 0 ∨ findE b n x size chain = 2 ∨ findE b n x size chain = 4 ∨ findE b n x size chain = 6 := by
  unfold findE
  split
  · simp
  · split
    · simp
    · split <;> simp
theorem find_none {b : List UInt8} {n : Nat} {x size chain : Int} (h : findE b n x size chain ≠ 0) : findD b n x size chain = 0 ∧ findN b n x size chain = 0 := ⟨if_neg h, if_neg h⟩
structure Found (b : List UInt8) (n : Nat) (x size chain D N : Int) : Prop where
  hD : 1 ≤ D ∧ D ≤ size ∧ D ≤ x
  hN : 3 ≤ N ∧ N ≤ 258 ∧ x + N ≤ n
  hx : 0 ≤ x ∧ x ≤ n ∧ n ≤ 131072
  hs : 1 ≤ size ∧ size ≤ 32768 ∧ 0 ≤ chain ∧ chain ≤ 256
  same : N = (same b x.toNat (x - D).toNat 258 : Nat)
theorem find_some {b : List UInt8} {n : Nat} {x size chain : Int} (hn : n = b.length) (h : findE b n x size chain = 0) : Found b n x size chain (findD b n x size chain) (findN b n x size chain) := by
  have h0 := h
  unfold findE at h
  split at h
  · cases h
  · split at h
    · cases h
    · split at h
      · cases h
      · next h1 h2 h3 =>
        have e1 : findD b n x size chain = (bestG b x.toNat size x.toNat chain 0 0).1 := if_pos h0
        have e2 : findN b n x size chain = (bestG b x.toNat size x.toNat chain 0 0).2 := if_pos h0
        have h4 : ¬ (x < 0 ∨ (n : Int) < x ∨ size < 1 ∨ 32768 < size ∨ chain < 0 ∨ 256 < chain) := h2
        rcases best_inv b x.toNat size x.toNat chain 0 0 with q | ⟨j, q1, q2, q3, q4, q5⟩
        · rw [q] at h3; exact absurd rfl h3
        · have s1 := same_258 b x.toNat j
          have s2 := same_end b 258 x.toNat j (by omega)
          refine ⟨by omega, by omega, by omega, by omega, ?_⟩
          rw [e2, q3, e1, q2, show (x - ((x.toNat : Int) - (j : Int))).toNat = j from by omega]
def goodF (n : Nat) (q size chain : Int) : Prop := n ≤ 131072 ∧ 0 ≤ q ∧ q ≤ (n : Int) ∧ 1 ≤ size ∧ size ≤ 32768 ∧ 0 ≤ chain ∧ chain ≤ 256
theorem find_bad {b : List UInt8} {n : Nat} {q size chain : Int} (h : ¬ goodF n q size chain) : findE b n q size chain = 4 ∨ findE b n q size chain = 2 := by
  unfold findE
  split
  · exact .inl rfl
  · next h1 =>
    have h2 : badF n q size chain := Decidable.byContradiction fun h2 => h (by
      have h3 : ¬ (q < 0 ∨ (n : Int) < q ∨ size < 1 ∨ 32768 < size ∨ chain < 0 ∨ 256 < chain) := h2
      unfold goodF; omega)
    exact .inr (if_pos h2)
theorem find_good {b : List UInt8} {n : Nat} {q size chain : Int} (h : goodF n q size chain) : (findE b n q size chain = 0 ∨ findE b n q size chain = 6) ∧ findN b n q size chain = (bestG b q.toNat size q.toNat chain 0 0).2 := by
  unfold goodF at h
  have h2 : ¬ badF n q size chain := by unfold badF; omega
  have e : findE b n q size chain = if (bestG b q.toNat size q.toNat chain 0 0).2 = 0 then 6 else 0 := by rw [findE, if_neg (by omega), if_neg h2]
  constructor
  · rw [e]; split <;> simp
  · unfold findN
    by_cases h3 : (bestG b q.toNat size q.toNat chain 0 0).2 = 0
    · rw [if_pos h3] at e; rw [if_neg (by rw [e]; decide), h3]
    · rw [if_neg h3] at e; rw [if_pos e]
end Vm
end Go.Proofs.Ythdmbjdfkokfbaa

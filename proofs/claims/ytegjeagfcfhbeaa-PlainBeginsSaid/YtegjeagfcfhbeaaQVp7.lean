/- Vp7: made by vx.py. -/
import Derived.Test.YtegjeagfcfhbeaaQVp6
import Derived.Test.YtegjeagfcfhbeaaQVp3
namespace Go.Proofs.Ytegjeagfcfhbeaa
open Go.RowKit Go.Bw Go.Vx
namespace Vp
set_option linter.unusedVariables false
set_option linter.unusedSimpArgs false
theorem Grow_ok_i (l : List UInt8) (n : Nat) (hn : n = l.length) (hN : n ≤ 1000000) (m : Int) (hm : 1 ≤ m ∧ m ≤ 15) (h : canE l m.toNat = 0) : SpecH false Try.prog 67 [.sl false n 1 (l.map dB), iD m] [] (.tup [.agg (c16 (cnt l) ++ [.ref 0 0 0 (symsL l).length 1]), iD 0]) [⟨(symsL l).map nD, 3, true⟩] := by
  obtain ⟨k, rfl⟩ := Int.eq_ofNat_of_zero_le (by omega : 0 ≤ m)
  exact Grow_ok l n hn hN k (by omega) h
theorem Grow_bad_i (l : List UInt8) (n : Nat) (hn : n = l.length) (hN : n ≤ 1000000) (m : Int) (hm : 1 ≤ m ∧ m ≤ 15) (h : canE l m.toNat ≠ 0) : SpecH false Try.prog 67 [.sl false n 1 (l.map dB), iD m] [] (.tup [zeroT, nD (canE l m.toNat)]) [] := by
  obtain ⟨k, rfl⟩ := Int.eq_ofNat_of_zero_le (by omega : 0 ≤ m)
  exact Grow_bad l n hn hN k (by omega) h
theorem canE_i (l : List UInt8) (n : Nat) (hn : n = l.length) (hN : n ≤ 1000000) (m : Int) (hm : 1 ≤ m ∧ m ≤ 15) : SpecH false Try.prog 83 [.sl false n 1 (l.map dB), iD m] [] (nD (canE l m.toNat)) [] := by
  obtain ⟨k, rfl⟩ := Int.eq_ofNat_of_zero_le (by omega : 0 ≤ m)
  exact canE_t l n hn hN k (by omega)
/-- Lengths that may be, or none. -/
def okL (l : List UInt8) (m : Nat) : List UInt8 := lk l (if canE l m = 0 then l else [])
theorem okL_y {l : List UInt8} {m : Nat} (h : canE l m = 0) : okL l m = l := (lk_eq _ _).trans (if_pos h)
theorem okL_n {l : List UInt8} {m : Nat} (h : canE l m ≠ 0) : okL l m = [] := (lk_eq _ _).trans (if_neg h)
theorem okL_15 (l : List UInt8) {m : Nat} (hm : m ≤ 15) : canE (okL l m) 15 = 0 := by
  by_cases h : canE l m = 0
  · rw [okL_y h]; exact (canE_15 hm h).1
  · rw [okL_n h]; rfl
theorem zeroN (j : Nat) : simN j (.agg zeroC) (.agg (c16 (cnt []) ++ [.ref j j 0 0 1])) := simN.agg (simNL.app (a := [iD 0, iD 0, iD 0, iD 0, iD 0, iD 0, iD 0, iD 0, iD 0, iD 0, iD 0, iD 0, iD 0, iD 0, iD 0, iD 0]) (simNL.refl j _) ⟨simN.nil j 1, trivial⟩)
theorem strF_nil (n : Nat) : ∀ (l : List Rn) (o : List UInt8), (strF n l o).2 ≠ 0 → (strF n l o).1 = []
  | [], o, h => by
    rw [strF] at *; split
    · next q => rw [if_pos q] at h; exact absurd rfl h
    · rfl
  | r :: q, o, h => by
    rw [strF] at *
    split
    · rfl
    · next h1 =>
      split
      · rfl
      · next h2 =>
        split
        · rfl
        · next h3 => rw [if_neg h1, if_neg h2, if_neg h3] at h; exact strF_nil n q _ h
theorem Str_t (l : List Rn) (k : Nat) (hk : k = l.length) (hK : k ≤ 1000) (n : Nat) (hn : n ≤ 320) (hB : ∀ i, (l.getD i default).x ≤ 1000000 ∧ (l.getD i default).s ≤ 1000000) : SpecH false Try.prog 113 [.sl false k 2 (l.flatMap rnD), nD n] [] (.tup [.ref 0 0 0 (strR n l).1.length 1, nD (strR n l).2]) [⟨(strR n l).1.map dB, 5, true⟩] := by
  by_cases h : (strR n l).2 = 0
  · have h1 := Str_ok l k hk hK n hn hB h
    rw [h]; exact h1
  · have h1 := Str_bad l k hk hK n hn hB h
    have e : (strR n l).1 = [] := by rw [strR_eq] at *; exact strF_nil _ _ _ h
    rw [e]
    exact SpecH.nilA h1 _ (simN.tup ⟨simN.nil 0 1, simN.refl 0 _, trivial⟩)
end Vp
end Go.Proofs.Ytegjeagfcfhbeaa

/- Vp9: made by vx.py. -/
import Derived.Test.YtegjeagfcfhbeaaQVp8
namespace Go.Proofs.Ytegjeagfcfhbeaa
open Go.RowKit Go.Bw Go.Vx
namespace Vp
set_option linter.unusedVariables false
set_option linter.unusedSimpArgs false
/-! ### lengths by a code for lengths -/
def lnX (b l : List UInt8) (c : Rs) : Rn := ⟨syN b l c, tkN b (rb (syN b l c)) (syS b l c)⟩
def lnB (N many k : Nat) (x : Rn) : Bool := decide (many + rnT x ≤ N) && (decide (x.s ≠ 16) || decide (1 < k + 1))
def lnC (b l : List UInt8) (N : Nat) (c : Rs) (many k : Nat) : Rs := fl (tkS b (rb (syN b l c)) (syS b l c)) (lnB N many k (lnX b l c)) 132
def lnF (b l : List UInt8) (N : Nat) : Nat → Rs → Nat → List Rn → Rs × List Rn
  | 0, c, _, r => (c, r)
  | k + 1, c, many, r => if N ≤ many ∨ c.e ≠ 0 then (c, r) else lnF b l N k (lnC b l N c many r.length) (many + rnT (lnX b l c)) (r ++ [lnX b l c])
def lnR (b l : List UInt8) (N : Nat) (s : Rs) : Rs × List Rn := lk b (lnF b l N N s 0 [])
theorem rnT_pos (x : Rn) : 1 ≤ rnT x := by have := rnt_c x; omega
theorem lnF_end {b l : List UInt8} {N k : Nat} {c : Rs} {many : Nat} {r : List Rn} (h : N ≤ many ∨ c.e ≠ 0) : lnF b l N k c many r = (c, r) := by
  cases k with
  | zero => rfl
  | succ k => rw [lnF, if_pos h]
theorem lnF_fuel (b l : List UInt8) (N : Nat) : ∀ (k m : Nat) (c : Rs) (many : Nat) (r : List Rn), N - many ≤ k → N - many ≤ m → lnF b l N k c many r = lnF b l N m c many r
  | 0, m, c, many, r, h, _ => by rw [lnF_end (k := m) (.inl (by omega))]; rfl
  | k + 1, 0, c, many, r, _, h => by rw [lnF_end (k := k + 1) (.inl (by omega))]; rfl
  | k + 1, m + 1, c, many, r, h1, h2 => by
    rw [lnF, lnF]
    split
    · rfl
    · have := rnT_pos (lnX b l c)
      exact lnF_fuel b l N k m _ _ _ (by omega) (by omega)
theorem lnF_step {b l : List UInt8} {N : Nat} {c : Rs} {many : Nat} {r : List Rn} {R : Rs × List Rn} (h : ¬ N ≤ many) (h2 : c.e = 0) (hR : lnF b l N (N - many) c many r = R) : lnF b l N (N - (many + rnT (lnX b l c))) (lnC b l N c many r.length) (many + rnT (lnX b l c)) (r ++ [lnX b l c]) = R := by
  have := rnT_pos (lnX b l c)
  rw [← hR, show N - many = (N - many - 1) + 1 from by omega, lnF, if_neg (by omega)]
  exact lnF_fuel b l N _ _ _ _ _ (by omega) (by omega)
theorem lnF_fin {b l : List UInt8} {N k : Nat} {c : Rs} {many : Nat} {r : List Rn} {R : Rs × List Rn} (hR : lnF b l N k c many r = R) (h : N ≤ many ∨ c.e ≠ 0) : R = (c, r) := by rw [← hR, lnF_end h]
theorem lnR_eq (b l : List UInt8) (N : Nat) (s : Rs) : lnR b l N s = lnF b l N N s 0 [] := lk_eq _ _
def lnO (b l : List UInt8) (N : Nat) (s : Rs) : List UInt8 := (strR N (lnR b l N s).2).1
def lnS (b l : List UInt8) (N : Nat) (s : Rs) : Rs := fl (lnR b l N s).1 ((((strR N (lnR b l N s).2).2 : Nat) : Int) == 0) 132
theorem lnX_bd {b l : List UInt8} {c : Rs} (hl : l.length ≤ 19) : (lnX b l c).s ≤ 18 ∧ (lnX b l c).x ≤ 128 ∧ rnT (lnX b l c) ≤ 139 := by
  have h1 := syN_lt b l c
  have h2 := tkN_lt b (rb (syN b l c)) (syS b l c)
  have h3 := rb_le (syN b l c)
  have h4 : 2 ^ rb (syN b l c) ≤ 2 ^ 7 := Nat.pow_le_pow_right (by decide) h3.2
  have h5 := rnt_c (lnX b l c)
  have e1 : (lnX b l c).s = syN b l c := rfl
  have e2 : (lnX b l c).x = tkN b (rb (syN b l c)) (syS b l c) := rfl
  omega
theorem rnt_c' (s x : Nat) : (s = 16 ∧ rnT ⟨s, x⟩ = x + 3) ∨ (s = 17 ∧ rnT ⟨s, x⟩ = x + 3) ∨ (s = 18 ∧ rnT ⟨s, x⟩ = x + 11) ∨ (s ≠ 16 ∧ s ≠ 17 ∧ s ≠ 18 ∧ rnT ⟨s, x⟩ = 1) := rnt_c ⟨s, x⟩
theorem Rok.ln {b l : List UInt8} {N : Nat} {c : Rs} {many k : Nat} (h : Rok b.length c) : Rok b.length (lnC b l N c many k) := ((h.sy _).tk _).fl _ _
theorem bd_app {r : List Rn} {x : Rn} (h : ∀ i, (r.getD i default).x ≤ 1000000 ∧ (r.getD i default).s ≤ 1000000) (hx : x.s ≤ 18 ∧ x.x ≤ 128 ∧ rnT x ≤ 139) : ∀ i, ((r ++ [x]).getD i default).x ≤ 1000000 ∧ ((r ++ [x]).getD i default).s ≤ 1000000 := fun i => by
  rw [List.getD_eq_getElem?_getD]
  rcases Nat.lt_trichotomy i r.length with q | q | q
  · rw [List.getElem?_append_left q, ← List.getD_eq_getElem?_getD]; exact h i
  · rw [q, List.getElem?_append_right (Nat.le_refl _), Nat.sub_self]
    show x.x ≤ _ ∧ x.s ≤ _; omega
  · rw [List.getElem?_eq_none (by simp; omega)]; exact ⟨Nat.zero_le _, Nat.zero_le _⟩
theorem bd_nil : ∀ i, (([] : List Rn).getD i default).x ≤ 1000000 ∧ (([] : List Rn).getD i default).s ≤ 1000000 := fun i => by
  rw [List.getD_eq_getElem?_getD]; exact ⟨Nat.zero_le _, Nat.zero_le _⟩
theorem lnC_blk {b l : List UInt8} {N many k : Nat} {c : Rs} {a : D} {d : Bool} {t : TypeId} {r : Bool} (h : d = lnB N many k (lnX b l c)) : (⟨[a, nD (fl (tkS b (rb (syN b l c)) (syS b l c)) d 132).p, nD (fl (tkS b (rb (syN b l c)) (syS b l c)) d 132).e], t, r⟩ : Blk) = ⟨[a, nD (lnC b l N c many k).p, nD (lnC b l N c many k).e], t, r⟩ := by rw [h]; rfl
end Vp
end Go.Proofs.Ytegjeagfcfhbeaa

/- Vp0: made by vx.py. -/
import Derived.Test.YtegjeagfcfhbeaaTab
namespace Go.Proofs.Ytegjeagfcfhbeaa
open Go.RowKit Go.Bw Go.Vx
namespace Vp
set_option linter.unusedVariables false
set_option linter.unusedSimpArgs false
abbrev iD (i : Int) : D := .v (.int .i64 i)
abbrev nilD : D := .v (.slice none 0 0)
abbrev uD (n : Nat) : D := .v (.int .u32 (n : Int))
abbrev nD (n : Nat) : D := .v (.int .i64 (n : Int))
abbrev bD (b : Bool) : D := .v (.bool b)
abbrev u8D (n : Nat) : D := .v (.int .u8 (n : Int))
/-- A value that isn't reckoned while the bytes are not known. -/
def lk {α β : Type} (b : List β) (x : α) : α := match b with
  | [] => x
  | _ :: _ => x
theorem lk_eq {α β : Type} (b : List β) (x : α) : lk b x = x := by cases b <;> rfl
/-! ### bits -/
def bitB (b : List UInt8) (p : Nat) : Nat := (b.getD (p / 8) default).toNat / 2 ^ (p % 8) % 2
def numB (b : List UInt8) (p : Nat) : Nat → Nat
  | 0 => 0
  | n + 1 => numB b p n + 2 ^ n * bitB b (p + n)
theorem bitB_lt (b : List UInt8) (p : Nat) : bitB b p < 2 := Nat.mod_lt _ (by decide)
theorem numB_lt (b : List UInt8) (p : Nat) : ∀ n, numB b p n < 2 ^ n
  | 0 => Nat.zero_lt_one
  | n + 1 => by
    have h1 := numB_lt b p n
    have h2 := bitB_lt b (p + n)
    have h3 : 2 ^ n * bitB b (p + n) ≤ 2 ^ n * 1 := Nat.mul_le_mul_left _ (by omega)
    rw [numB, Nat.pow_succ]; omega
/-- A number of bits at a place, and the error. -/
def tkV (b : List UInt8) (p m : Nat) : Nat := lk b (if 8 * b.length < p + m then 0 else numB b p m)
def tkE (b : List UInt8) (p m : Nat) : Nat := lk b (if 8 * b.length < p + m then 10 else 0)
theorem tkV_0 {b : List UInt8} {p m : Nat} (h : 8 * b.length < p + m) : tkV b p m = 0 := (lk_eq _ _).trans (if_pos h)
theorem tkV_1 {b : List UInt8} {p m : Nat} (h : ¬ 8 * b.length < p + m) : tkV b p m = numB b p m := (lk_eq _ _).trans (if_neg h)
theorem tkE_0 {b : List UInt8} {p m : Nat} (h : 8 * b.length < p + m) : tkE b p m = 10 := (lk_eq _ _).trans (if_pos h)
theorem tkE_1 {b : List UInt8} {p m : Nat} (h : ¬ 8 * b.length < p + m) : tkE b p m = 0 := (lk_eq _ _).trans (if_neg h)
theorem tkV_lt (b : List UInt8) (p m : Nat) : tkV b p m < 2 ^ m := by
  by_cases h : 8 * b.length < p + m
  · rw [tkV_0 h]; exact Nat.two_pow_pos m
  · rw [tkV_1 h]; exact numB_lt b p m
/-! ### lengths of codes -/
def kraft : List UInt8 → Nat
  | [] => 0
  | x :: r => (if x.toNat = 0 then 0 else 2 ^ (15 - x.toNat)) + kraft r
def usedN : List UInt8 → Nat
  | [] => 0
  | x :: r => (if x.toNat = 0 then 0 else 1) + usedN r
def overB (l : List UInt8) (most : Nat) : Bool := l.any fun x => decide (most < x.toNat)
theorem kraft_app (a c : List UInt8) : kraft (a ++ c) = kraft a + kraft c := by
  induction a with
  | nil => simp [kraft]
  | cons x r ih => rw [List.cons_append, kraft, kraft, ih]; omega
theorem usedN_app (a c : List UInt8) : usedN (a ++ c) = usedN a + usedN c := by
  induction a with
  | nil => simp [usedN]
  | cons x r ih => rw [List.cons_append, usedN, usedN, ih]; omega
theorem usedN_le (l : List UInt8) : usedN l ≤ l.length := by
  induction l with
  | nil => exact Nat.le_refl _
  | cons x r ih => rw [usedN, List.length_cons]; split <;> omega
theorem kraft_le (l : List UInt8) : kraft l ≤ l.length * 32768 := by
  induction l with
  | nil => exact Nat.le_refl _
  | cons x r ih =>
    rw [kraft, List.length_cons]
    have : 2 ^ (15 - x.toNat) ≤ 2 ^ 15 := Nat.pow_le_pow_right (by decide) (by omega)
    split <;> omega
theorem take_snoc {l : List UInt8} {i : Nat} (h : i < l.length) : l.take (i + 1) = l.take i ++ [l.getD i default] := take_succ_getD h
theorem kraft_snoc {l : List UInt8} {i : Nat} (h : i < l.length) : kraft (l.take (i + 1)) = kraft (l.take i) + (if (l.getD i default).toNat = 0 then 0 else 2 ^ (15 - (l.getD i default).toNat)) := by
  rw [take_snoc h, kraft_app]; rfl
theorem usedN_snoc {l : List UInt8} {i : Nat} (h : i < l.length) : usedN (l.take (i + 1)) = usedN (l.take i) + (if (l.getD i default).toNat = 0 then 0 else 1) := by
  rw [take_snoc h, usedN_app]; rfl
/-- What is wrong with lengths. -/
def canD (l : List UInt8) (most : Nat) : Nat :=
  if 320 < l.length then 4 else if overB l most = true then 2 else if 32768 < kraft l then 30
  else if kraft l = 32768 ∨ usedN l = 0 ∨ usedN l = 1 ∧ kraft l = 16384 then 0 else 31
def canE (l : List UInt8) (most : Nat) : Nat := lk l (canD l most)
theorem canE_eq (l : List UInt8) (most : Nat) : canE l most = canD l most := lk_eq _ _
theorem over_of {l : List UInt8} {most i : Nat} (h : i < l.length) (h2 : most < (l.getD i default).toNat) : overB l most = true := by
  unfold overB
  rw [List.any_eq_true]
  refine ⟨l.getD i default, ?_, decide_eq_true h2⟩
  rw [List.getD_eq_getElem?_getD, List.getElem?_eq_getElem h]; exact List.getElem_mem h
theorem over_no {l : List UInt8} {most : Nat} (h : ∀ i, i < l.length → (l.getD i default).toNat ≤ most) : overB l most = false := by
  unfold overB
  rw [List.any_eq_false]
  intro x hx
  obtain ⟨i, hi⟩ := List.getElem?_of_mem hx
  have hlt := (List.getElem?_eq_some_iff.1 hi).1
  have := h i hlt
  rw [List.getD_eq_getElem?_getD, hi] at this
  simpa using this
theorem over_le {l : List UInt8} {most : Nat} (h : overB l most = false) {i : Nat} (hi : i < l.length) : (l.getD i default).toNat ≤ most := by
  rcases Nat.lt_or_ge most (l.getD i default).toNat with q | q
  · rw [over_of hi q] at h; cases h
  · exact q
theorem canE_0 {l : List UInt8} {most : Nat} (h : canE l most = 0) : l.length ≤ 320 ∧ overB l most = false ∧ kraft l ≤ 32768 := by
  rw [canE_eq] at h; unfold canD at h
  split at h
  · cases h
  · split at h
    · cases h
    · split at h
      · cases h
      · refine ⟨by omega, by simp_all, by omega⟩
/-! ### trees -/
def posT (l : List UInt8) (n k : Nat) : List Nat := (List.range k).filter fun i => decide ((l.getD i default).toNat = n)
def symsT (l : List UInt8) : Nat → List Nat
  | 0 => []
  | n + 1 => symsT l n ++ (if n = 0 then [] else posT l n l.length)
def cntD (l : List UInt8) (n : Nat) : Nat := if n = 0 then 0 else (posT l n l.length).length
def cnt (l : List UInt8) (n : Nat) : Nat := lk l (cntD l n)
def symsL (l : List UInt8) : List Nat := lk l (symsT l 16)
theorem symsL_eq (l : List UInt8) : symsL l = symsT l 16 := lk_eq _ _
/-- How far a tree is grown: the counts at length n, at the k-th symbol. -/
def cntAt (l : List UInt8) (n k m : Nat) : Nat := lk l (if m = 0 then 0 else if m < n then (posT l m l.length).length else if m = n then (posT l m k).length else 0)
def symsAt (l : List UInt8) (n k : Nat) : List Nat := lk l (symsT l n ++ (if n = 0 then [] else posT l n k))
def c16 (f : Nat → Nat) : List D := [nD (f 0), nD (f 1), nD (f 2), nD (f 3), nD (f 4), nD (f 5), nD (f 6), nD (f 7), nD (f 8), nD (f 9), nD (f 10), nD (f 11), nD (f 12), nD (f 13), nD (f 14), nD (f 15)]
def treeC (m : Nat) (l : List UInt8) : List D := c16 (cnt l) ++ [.sl false m 1 ((symsL l).map nD)]
abbrev treeD (m : Nat) (l : List UInt8) : D := .agg (treeC m l)
def zeroC : List D := [iD 0, iD 0, iD 0, iD 0, iD 0, iD 0, iD 0, iD 0, iD 0, iD 0, iD 0, iD 0, iD 0, iD 0, iD 0, iD 0, nilD]
abbrev zeroT : D := .agg zeroC
theorem get16 (f : Nat → Nat) (r : List D) (n : Nat) (h : n < 16) : (c16 f ++ r)[n]? = some (nD (f n)) := by
  match n, h with
  | 0, _ => rfl | 1, _ => rfl | 2, _ => rfl | 3, _ => rfl | 4, _ => rfl | 5, _ => rfl | 6, _ => rfl | 7, _ => rfl
  | 8, _ => rfl | 9, _ => rfl | 10, _ => rfl | 11, _ => rfl | 12, _ => rfl | 13, _ => rfl | 14, _ => rfl | 15, _ => rfl
  | n + 16, h => exact absurd h (by omega)
theorem get16' (f : Nat → Nat) (n : Nat) (h : n < 16) : (c16 f)[n]? = some (nD (f n)) := by
  have := get16 f [] n h
  rwa [List.append_nil] at this
theorem c16_congr {f g : Nat → Nat} (h : ∀ n, n < 16 → f n = g n) : c16 f = c16 g := by
  unfold c16
  rw [h 0 (by decide), h 1 (by decide), h 2 (by decide), h 3 (by decide), h 4 (by decide), h 5 (by decide), h 6 (by decide), h 7 (by decide), h 8 (by decide), h 9 (by decide), h 10 (by decide), h 11 (by decide), h 12 (by decide), h 13 (by decide), h 14 (by decide), h 15 (by decide)]
theorem set16 (f : Nat → Nat) (r : List D) (n : Nat) (h : n < 16) (x : Nat) : setSeg (c16 f ++ r) n [nD x] = c16 (fun m => if m = n then x else f m) ++ r := by
  match n, h with
  | 0, _ => rfl | 1, _ => rfl | 2, _ => rfl | 3, _ => rfl | 4, _ => rfl | 5, _ => rfl | 6, _ => rfl | 7, _ => rfl
  | 8, _ => rfl | 9, _ => rfl | 10, _ => rfl | 11, _ => rfl | 12, _ => rfl | 13, _ => rfl | 14, _ => rfl | 15, _ => rfl
  | n + 16, h => exact absurd h (by omega)
theorem posT_succ (l : List UInt8) (n k : Nat) : posT l n (k + 1) = posT l n k ++ (if (l.getD k default).toNat = n then [k] else []) := by
  unfold posT
  rw [List.range_succ, List.filter_append]
  congr 1
  rw [List.filter_cons, List.filter_nil]
  by_cases h : (l.getD k default).toNat = n
  · rw [if_pos h, if_pos (decide_eq_true h)]
  · rw [if_neg h, if_neg (by simpa using h)]
theorem posT_le (l : List UInt8) (n k : Nat) : (posT l n k).length ≤ k := by
  unfold posT
  exact Nat.le_trans (List.length_filter_le _ _) (by simp)
theorem posT_mem {l : List UInt8} {n k i : Nat} : i ∈ posT l n k ↔ i < k ∧ (l.getD i default).toNat = n := by
  unfold posT; simp
theorem symsAt_eq (l : List UInt8) (n k : Nat) : symsAt l n k = symsT l n ++ (if n = 0 then [] else posT l n k) := lk_eq _ _
theorem cntAt_eq (l : List UInt8) (n k m : Nat) : cntAt l n k m = if m = 0 then 0 else if m < n then (posT l m l.length).length else if m = n then (posT l m k).length else 0 := lk_eq _ _
theorem cnt_eq (l : List UInt8) (n : Nat) : cnt l n = cntD l n := lk_eq _ _
theorem symsAt_0 (l : List UInt8) : symsAt l 0 0 = [] := symsAt_eq l 0 0
theorem symsAt_up (l : List UInt8) (n : Nat) : symsAt l (n + 1) 0 = symsAt l n l.length := by
  rw [symsAt_eq, symsAt_eq, symsT, if_neg (Nat.succ_ne_zero n)]
  show _ ++ posT l (n + 1) 0 = _
  have : posT l (n + 1) 0 = [] := rfl
  rw [this, List.append_nil]
theorem symsAt_y {l : List UInt8} {n k : Nat} (hn : n ≠ 0) (h : (l.getD k default).toNat = n) : symsAt l n (k + 1) = symsAt l n k ++ [k] := by
  rw [symsAt_eq, symsAt_eq, if_neg hn, if_neg hn, posT_succ, if_pos h, List.append_assoc]
theorem symsAt_n {l : List UInt8} {n k : Nat} (h : n = 0 ∨ (l.getD k default).toNat ≠ n) : symsAt l n (k + 1) = symsAt l n k := by
  rw [symsAt_eq, symsAt_eq]
  by_cases hn : n = 0
  · rw [if_pos hn, if_pos hn]
  · rw [if_neg hn, if_neg hn, posT_succ, if_neg (by rcases h with h | h; exact absurd h hn; exact h), List.append_nil]
theorem symsAt_end (l : List UInt8) : symsAt l 16 0 = symsL l := by
  rw [symsAt_eq]
  show symsT l 16 ++ posT l 16 0 = _
  have : posT l 16 0 = [] := rfl
  rw [this, List.append_nil, symsL_eq]
theorem cntAt_0 (l : List UInt8) (m : Nat) : cntAt l 0 0 m = 0 := by
  rw [cntAt_eq]
  by_cases h : m = 0
  · rw [if_pos h]
  · rw [if_neg h, if_neg (by omega), if_neg h]
theorem cntAt_up (l : List UInt8) (n m : Nat) : cntAt l (n + 1) 0 m = cntAt l n l.length m := by
  rw [cntAt_eq, cntAt_eq]
  by_cases h0 : m = 0
  · rw [if_pos h0, if_pos h0]
  · rw [if_neg h0, if_neg h0]
    by_cases h1 : m < n
    · rw [if_pos (by omega), if_pos h1]
    · rw [if_neg h1]
      by_cases h2 : m = n
      · rw [if_pos (by omega), if_pos h2]
      · rw [if_neg (by omega), if_neg h2]
        by_cases h3 : m = n + 1
        · rw [if_pos h3]; rfl
        · rw [if_neg h3]
theorem cntAt_y {l : List UInt8} {n k : Nat} (hn : n ≠ 0) (h : (l.getD k default).toNat = n) (m : Nat) : cntAt l n (k + 1) m = if m = n then cntAt l n k n + 1 else cntAt l n k m := by
  rw [cntAt_eq, cntAt_eq, cntAt_eq]
  by_cases h2 : m = n
  · subst h2
    rw [if_neg hn, if_neg (by omega), if_pos rfl, if_pos rfl, if_neg hn, if_neg (by omega), if_pos rfl, posT_succ, if_pos h, List.length_append]; rfl
  · rw [if_neg h2, if_neg h2, if_neg h2]
theorem cntAt_n {l : List UInt8} {n k : Nat} (h : n = 0 ∨ (l.getD k default).toNat ≠ n) (m : Nat) : cntAt l n (k + 1) m = cntAt l n k m := by
  rw [cntAt_eq, cntAt_eq]
  by_cases h0 : m = 0
  · rw [if_pos h0, if_pos h0]
  · rw [if_neg h0, if_neg h0]
    by_cases h1 : m < n
    · rw [if_pos h1, if_pos h1]
    · rw [if_neg h1, if_neg h1]
      by_cases h2 : m = n
      · subst h2
        rw [if_pos rfl, if_pos rfl, posT_succ, if_neg (by rcases h with h | h; exact absurd h h0; exact h), List.append_nil]
      · rw [if_neg h2, if_neg h2]
theorem cntAt_end (l : List UInt8) (m : Nat) (h : m < 16) : cntAt l 16 0 m = cnt l m := by
  rw [cntAt_eq, cnt_eq]; unfold cntD
  by_cases h0 : m = 0
  · rw [if_pos h0, if_pos h0]
  · rw [if_neg h0, if_neg h0, if_pos h]
theorem cntAt_le (l : List UInt8) (n k m : Nat) (hk : k ≤ l.length) : cntAt l n k m ≤ l.length := by
  rw [cntAt_eq]
  split
  · omega
  · split
    · exact posT_le _ _ _
    · split
      · exact Nat.le_trans (posT_le _ _ _) hk
      · omega
theorem symsT_len (l : List UInt8) : ∀ n, (symsT l n).length ≤ n * l.length
  | 0 => Nat.zero_le _
  | n + 1 => by
    have h1 := symsT_len l n
    have h2 := posT_le l n l.length
    rw [symsT, List.length_append, Nat.succ_mul]
    split
    · simp; omega
    · omega
theorem symsAt_len {l : List UInt8} {n k : Nat} (hn : n ≤ 16) (hk : k ≤ l.length) : (symsAt l n k).length ≤ 17 * l.length := by
  rw [symsAt_eq, List.length_append]
  have h1 := symsT_len l n
  have h2 := posT_le l n k
  have h3 : n * l.length ≤ 16 * l.length := Nat.mul_le_mul_right _ hn
  have h4 : (if n = 0 then [] else posT l n k).length ≤ l.length := by
    split
    · simp
    · omega
  omega
@[simp] theorem cl_nD (xs : List Nat) : closedL (xs.map nD) = true := cl_map _ (fun _ => rfl) xs
theorem cntN {l : List UInt8} {a k : Nat} (h : a = 0 ∨ (l.getD (k * 1) default).toNat ≠ a) (m : Nat) : cntAt l a (k + 1) m = cntAt l a k m := cntAt_n (by rwa [Nat.mul_one] at h) m
theorem symsN {l : List UInt8} {a k : Nat} (h : a = 0 ∨ (l.getD (k * 1) default).toNat ≠ a) : symsAt l a (k + 1) = symsAt l a k := symsAt_n (by rwa [Nat.mul_one] at h)
theorem st16 (l : List UInt8) (a k : Nat) {o : Nat} {d : D} (ho : o = a) (h0 : 0 < a) (h1 : a < 16) (h : (l.getD (k * 1) default).toNat = a) : setSeg (c16 (cntAt l a k) ++ [d]) o [D.v (.int .i64 (((cntAt l a k o : Nat) : Int) + 1))] = c16 (cntAt l a (k + 1)) ++ [d] := by
  subst ho
  rw [show D.v (.int .i64 (((cntAt l o k o : Nat) : Int) + 1)) = nD (cntAt l o k o + 1) from rfl, set16 _ _ _ h1]
  have e : c16 (fun m => if m = o then cntAt l o k o + 1 else cntAt l o k m) = c16 (cntAt l o (k + 1)) := c16_congr fun m _ => by
    rw [cntAt_y (by omega) (by rwa [Nat.mul_one] at h)]
  rw [e]
theorem symsY {l : List UInt8} {a k : Nat} (h0 : 0 < a) (h : (l.getD (k * 1) default).toNat = a) : symsAt l a (k + 1) = symsAt l a k ++ [k] := symsAt_y (by omega) (by rwa [Nat.mul_one] at h)

end Vp
end Go.Proofs.Ytegjeagfcfhbeaa

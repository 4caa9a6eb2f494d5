/- Part 6. -/
import Derived.Test.YtegjeagfcfhbeaaTm5
namespace Go.Proofs.Ytegjeagfcfhbeaa
open Go.RowKit Go.Bw Go.Vx
namespace Vp
set_option linter.unusedVariables false
set_option linter.unusedSimpArgs false
set_option maxRecDepth 100000
set_option maxHeartbeats 4000000
theorem zj0 {p : Prop} (h : p := by ( have h9 := symsT_pl (l := l) (a := a) om; have h8 := tk1_lt b c; have h7 := cnt_le l a; have h6 := cnt_le l (a + 1); have h5 := symsL_le l; have h4 := Nat.pow_succ 2 a; have h3 : 2 ^ a ≤ 2 ^ 15 := Nat.pow_le_pow_right (by decide) om; omega)) : p := h
theorem zj1 {p : Prop} (h : p := by (simp [cl_cond, cl_take]; done)) : p := h
theorem zj2 {p : Prop} (h : p := by ((refine and_tI ?_ ?_) <;> (repeat' (first | (refine and_tI ?_ ?_) | (with_reducible rfl) | (refine decide_eq_true ?_) | (refine Nat.ble_eq_true_of_le ?_) | (refine nbeq ?_))) <;> (omega))) : p := h
theorem zj3 {p : Prop} (h : p := by (simp;  have h9 := (rest_len (l := l) (a := a) om).1; have h8 := cnt_z (l := l) (a := a); have h4 := cnt_le l a; omega)) : p := h
theorem zj4 {p : Prop} (h : p := by (refine decide_eq_true ?_; (omega))) : p := h
theorem zj5 {p : Prop} (h : p := by (refine decide_eq_false ?_;  have h9 := (rest_len (l := l) (a := a) om).1; have h8 := cnt_z (l := l) (a := a); have h4 := cnt_le l a; omega)) : p := h
theorem zj6 {p : Prop} (h : p := by show 16 - (a + 1) < 16 - a; clear next1 last1; omega) : p := h
theorem zj7 {p : Prop} (h : p := by (refine decide_eq_false ?_;  have h9 := (rest_len (l := l) (a := a) om).1; have h8 := cnt_z (l := l) (a := a); have h4 := cnt_le l a; have h7 := posL_k (l := l) (a := a) (k := k) om om; have h6 := stamp_len l a k; have h5 := posL_len l a; omega)) : p := h
theorem zj8 {p : Prop} (h : p := by (refine decide_eq_true ?_;  have h9 := (rest_len (l := l) (a := a) om).1; have h8 := cnt_z (l := l) (a := a); have h4 := cnt_le l a; have h7 := posL_k (l := l) (a := a) (k := k) om om; have h6 := stamp_len l a k; have h5 := posL_len l a; omega)) : p := h
def posL (l : List UInt8) (a : Nat) : List Nat := lk l (if a = 0 then [] else posT l a l.length)
theorem posL_eq (l : List UInt8) (a : Nat) : posL l a = if a = 0 then [] else posT l a l.length := lk_eq _ _
def restL (l : List UInt8) (a : Nat) : List Nat := lk l ((symsL l).drop (symsT l a).length)
theorem restL_eq (l : List UInt8) (a : Nat) : restL l a = (symsL l).drop (symsT l a).length := lk_eq _ _
theorem posL_len (l : List UInt8) (a : Nat) : (posL l a).length = cnt l a := by
  rw [posL_eq, cnt_eq]; unfold cntD; split <;> rfl
theorem symsT_succ (l : List UInt8) (a : Nat) : symsT l (a + 1) = symsT l a ++ posL l a := by rw [symsT, posL_eq]
theorem symsT_app (l : List UInt8) (a : Nat) : ∀ k, ∃ r, symsT l (a + k) = symsT l a ++ r
  | 0 => ⟨[], by simp⟩
  | k + 1 => by
    obtain ⟨r, hr⟩ := symsT_app l a k
    exact ⟨r ++ posL l (a + k), by rw [← Nat.add_assoc, symsT_succ, hr, List.append_assoc]⟩
theorem symsT_16 {l : List UInt8} {a : Nat} (h : a ≤ 15) : ∃ r, symsL l = symsT l a ++ (posL l a ++ r) := by
  obtain ⟨r, hr⟩ := symsT_app l (a + 1) (16 - (a + 1))
  refine ⟨r, ?_⟩
  rw [symsL_eq, show (16 : Nat) = a + 1 + (16 - (a + 1)) from by omega, hr, symsT_succ, List.append_assoc]
theorem rest_take {l : List UInt8} {a : Nat} (h : a ≤ 15) : (restL l a).take (cnt l a) = posL l a := by
  obtain ⟨r, hr⟩ := symsT_16 (l := l) h
  rw [restL_eq, hr, List.drop_left, ← posL_len, List.take_left]
theorem rest_drop {l : List UInt8} {a : Nat} (h : a ≤ 15) : (restL l a).drop (cnt l a) = restL l (a + 1) := by
  obtain ⟨r, hr⟩ := symsT_16 (l := l) h
  rw [restL_eq, restL_eq, symsT_succ, List.length_append, hr, List.drop_left, ← posL_len, List.drop_left, ← List.append_assoc, ← List.length_append, List.drop_left]
theorem rest_len {l : List UInt8} {a : Nat} (h : a ≤ 15) : cnt l a ≤ (restL l a).length ∧ (restL l (a + 1)).length = (restL l a).length - cnt l a := by
  constructor
  · have := congrArg List.length (rest_take (l := l) h)
    rw [List.length_take, posL_len] at this; omega
  · rw [← rest_drop h, List.length_drop]
theorem rest_0 (l : List UInt8) : restL l 0 = symsL l := by rw [restL_eq]; rfl
theorem rest_16 (l : List UInt8) : restL l 16 = [] := by rw [restL_eq, symsL_eq, List.drop_length]
theorem cnt_0 (l : List UInt8) : cnt l 0 = 0 := by rw [cnt_eq]; rfl
theorem posT_sorted (l : List UInt8) (n k : Nat) : List.Pairwise (· < ·) (posT l n k) := by
  unfold posT; exact List.Pairwise.filter _ List.pairwise_lt_range
theorem posL_sorted (l : List UInt8) (a : Nat) : List.Pairwise (· < ·) (posL l a) := by
  rw [posL_eq]; split
  · exact List.Pairwise.nil
  · exact posT_sorted _ _ _
theorem posL_at {l : List UInt8} {a k : Nat} (h : k < (posL l a).length) : (posL l a).getD k default < l.length ∧ (l.getD ((posL l a).getD k default) default).toNat = a ∧ a ≠ 0 := by
  have hm : (posL l a).getD k default ∈ posL l a := by
    rw [List.getD_eq_getElem?_getD, List.getElem?_eq_getElem h]; exact List.getElem_mem h
  generalize (posL l a).getD k default = x at *
  rw [posL_eq] at hm
  split at hm
  · cases hm
  · next q => exact ⟨(posT_mem.1 hm).1, (posT_mem.1 hm).2, q⟩
theorem getD_succ {l : List Nat} {k : Nat} (h : k < l.length) : l.take (k + 1) = l.take k ++ [l.getD k default] := by
  rw [List.take_succ_eq_append_getElem h, List.getD_eq_getElem?_getD, List.getElem?_eq_getElem h]; rfl
theorem posL_new {l : List UInt8} {a k : Nat} (h : k < (posL l a).length) : (posL l a).getD k default ∉ (posL l a).take k := by
  have hp := (posL_sorted l a).take (i := k + 1)
  rw [getD_succ h, List.pairwise_append] at hp
  intro q
  exact Nat.lt_irrefl _ (hp.2.2 _ q _ List.mem_cons_self)
def stampF (l : List UInt8) (a k i : Nat) : UInt8 := if (l.getD i default).toNat ≠ 0 ∧ ((l.getD i default).toNat < a ∨ ((l.getD i default).toNat = a ∧ i ∈ (posL l a).take k)) then l.getD i default else 0
def stamp (l : List UInt8) (a k : Nat) : List UInt8 := lk l ((List.range 320).map (stampF l a k))
theorem stamp_eq (l : List UInt8) (a k : Nat) : stamp l a k = (List.range 320).map (stampF l a k) := lk_eq _ _
theorem stamp_len (l : List UInt8) (a k : Nat) : (stamp l a k).length = 320 := by rw [stamp_eq, List.length_map, List.length_range]
theorem stamp_get? {l : List UInt8} {a k i : Nat} : (stamp l a k)[i]? = if i < 320 then some (stampF l a k i) else none := by
  rw [stamp_eq, List.getElem?_map]
  by_cases h : i < 320
  · rw [if_pos h, List.getElem?_range h]; rfl
  · rw [if_neg h, List.getElem?_eq_none (by rw [List.length_range]; omega)]; rfl
theorem stamp_new {l : List UInt8} {a k : Nat} (hl : l.length ≤ 320) (h : k < (posL l a).length) : (stamp l a k).getD ((posL l a).getD k default) default = 0 := by
  have h1 := posL_at h
  have h2 := posL_new h
  rw [List.getD_eq_getElem?_getD, stamp_get?, if_pos (by omega)]
  show stampF _ _ _ _ = 0
  unfold stampF
  rw [if_neg]
  rintro ⟨_, q | q⟩
  · omega
  · exact h2 q.2
theorem stamp_set {l : List UInt8} {a k o : Nat} {d : D} (hl : l.length ≤ 320) (h : k < (posL l a).length) (ho : o = (posL l a).getD k default) (hd : d = u8D a) : setSeg ((stamp l a k).map dB) o [d] = (stamp l a (k + 1)).map dB := by
  have h1 := posL_at h
  subst ho
  apply List.ext_getElem?
  intro i
  rw [setSeg_get (by simp only [List.length_map, stamp_len, List.length_singleton]; omega), List.getElem?_map, List.getElem?_map, stamp_get?, stamp_get?]
  by_cases hi : i = (posL l a).getD k default
  · rw [if_pos ⟨by omega, by simp only [List.length_singleton]; omega⟩, if_pos (by omega), hi, Nat.sub_self]
    show some d = some (dB (stampF _ _ _ _))
    unfold stampF
    rw [if_pos ⟨by omega, .inr ⟨h1.2.1, by rw [getD_succ h]; simp⟩⟩, hd]
    unfold dB u8D; rw [h1.2.1]
  · rw [if_neg (by simp only [List.length_singleton]; omega)]
    congr 1
    split
    · congr 1
      unfold stampF
      have e : (i ∈ (posL l a).take (k + 1)) ↔ (i ∈ (posL l a).take k) := by
        rw [getD_succ h, List.mem_append, List.mem_singleton]
        exact ⟨fun q => q.resolve_right hi, .inl⟩
      simp only [e]
    · rfl
theorem stamp_up {l : List UInt8} {a : Nat} : stamp l a (cnt l a) = stamp l (a + 1) 0 := by
  rw [stamp_eq, stamp_eq]
  apply List.map_congr_left
  intro i _
  unfold stampF
  rw [← posL_len, List.take_length, List.take_zero]
  have e : ((l.getD i default).toNat ≠ 0 ∧ ((l.getD i default).toNat < a ∨ ((l.getD i default).toNat = a ∧ i ∈ posL l a))) ↔ ((l.getD i default).toNat ≠ 0 ∧ ((l.getD i default).toNat < a + 1 ∨ ((l.getD i default).toNat = a + 1 ∧ i ∈ ([] : List Nat)))) := by
    simp only [List.not_mem_nil, and_false, or_false]
    constructor
    · rintro ⟨h1, h2 | h2⟩
      · exact ⟨h1, by omega⟩
      · exact ⟨h1, by omega⟩
    · rintro ⟨h1, h2⟩
      refine ⟨h1, ?_⟩
      rcases Nat.lt_or_ge (l.getD i default).toNat a with q | q
      · exact .inl q
      · have e : (l.getD i default).toNat = a := by omega
        refine .inr ⟨e, ?_⟩
        have hi : i < l.length := by
          rcases Nat.lt_or_ge i l.length with z | z
          · exact z
          · rw [List.getD_eq_getElem?_getD, List.getElem?_eq_none z] at h1; exact absurd rfl h1
        rw [posL_eq, if_neg (by omega)]
        exact posT_mem.2 ⟨hi, e⟩
  simp only [e]
def padL (l : List UInt8) : List UInt8 := l ++ List.replicate (320 - l.length) 0
theorem padL_getD (l : List UInt8) (i : Nat) : (padL l).getD i default = l.getD i default := by
  unfold padL
  rw [List.getD_eq_getElem?_getD, List.getD_eq_getElem?_getD]
  rcases Nat.lt_or_ge i l.length with h | h
  · rw [List.getElem?_append_left h]
  · rw [List.getElem?_append_right h, List.getElem?_eq_none h, List.getElem?_replicate]
    split <;> rfl
theorem padL_len {l : List UInt8} (h : l.length ≤ 320) : (padL l).length = 320 := by unfold padL; rw [List.length_append, List.length_replicate]; omega
theorem stamp_16 {l : List UInt8} (hl : l.length ≤ 320) (ho : overB l 15 = false) : stamp l 16 0 = padL l := by
  apply List.ext_getElem?
  intro i
  rw [stamp_get?]
  by_cases h : i < 320
  · rw [if_pos h, List.getElem?_eq_getElem (by rw [padL_len hl]; exact h)]
    congr 1
    have e := padL_getD l i
    rw [List.getD_eq_getElem?_getD, List.getElem?_eq_getElem (by rw [padL_len hl]; exact h)] at e
    show stampF l 16 0 i = _
    refine Eq.trans ?_ e.symm
    unfold stampF
    split
    · rfl
    · next q =>
      have : (l.getD i default).toNat = 0 := by
        rcases Nat.lt_or_ge i l.length with z | z
        · have := over_le ho z
          rcases Nat.eq_zero_or_pos (l.getD i default).toNat with y | y
          · exact y
          · exact absurd ⟨by omega, .inl (by omega)⟩ q
        · rw [List.getD_eq_getElem?_getD, List.getElem?_eq_none z]; rfl
      exact (UInt8.toNat_inj.1 this).symm
  · rw [if_neg h, List.getElem?_eq_none (by rw [padL_len hl]; omega)]
theorem posT_pad {l : List UInt8} {n : Nat} (hl : l.length ≤ 320) (hn : n ≠ 0) : posT (padL l) n (padL l).length = posT l n l.length := by
  rw [padL_len hl]
  unfold posT
  simp only [padL_getD]
  rw [show 320 = l.length + (320 - l.length) from by omega, List.range_add, List.filter_append]
  conv => rhs; rw [← List.append_nil (List.filter _ _)]
  congr 1
  rw [List.filter_eq_nil_iff]
  intro i hi
  obtain ⟨j, _, rfl⟩ := List.mem_map.1 hi
  rw [List.getD_eq_getElem?_getD, List.getElem?_eq_none (by omega)]
  simp; intro q; exact hn (by rw [← q]; rfl)
theorem cnt_pad {l : List UInt8} (hl : l.length ≤ 320) (n : Nat) : cnt (padL l) n = cnt l n := by
  rw [cnt_eq, cnt_eq]; unfold cntD
  split
  · rfl
  · next q => rw [posT_pad hl q]
theorem symsT_pad {l : List UInt8} (hl : l.length ≤ 320) : ∀ n, symsT (padL l) n = symsT l n
  | 0 => rfl
  | n + 1 => by
    rw [symsT, symsT, symsT_pad hl n]
    split
    · rfl
    · next q => rw [posT_pad hl q]
theorem symsL_pad {l : List UInt8} (hl : l.length ≤ 320) : symsL (padL l) = symsL l := by rw [symsL_eq, symsL_eq, symsT_pad hl]
theorem kraft_rep (n : Nat) : kraft (List.replicate n 0) = 0 ∧ usedN (List.replicate n 0) = 0 := by
  induction n with
  | zero => exact ⟨rfl, rfl⟩
  | succ n ih => rw [List.replicate_succ, kraft, usedN, ih.1, ih.2]; exact ⟨rfl, rfl⟩
theorem canE_pad {l : List UInt8} {m : Nat} (hm : m ≤ 15) (h : canE l m = 0) : canE (padL l) 15 = 0 := by
  have h0 := canE_0 h
  rw [canE_eq] at *
  unfold canD at *
  have e1 : kraft (padL l) = kraft l := by unfold padL; rw [kraft_app, (kraft_rep _).1]; rfl
  have e2 : usedN (padL l) = usedN l := by unfold padL; rw [usedN_app, (kraft_rep _).2]; rfl
  have e3 : overB (padL l) 15 = false := over_no fun i _ => by
    rw [padL_getD]
    rcases Nat.lt_or_ge i l.length with z | z
    · have := over_le h0.2.1 z; omega
    · rw [List.getD_eq_getElem?_getD, List.getElem?_eq_none z]; exact Nat.zero_le _
  rw [padL_len h0.1, e1, e2, e3, if_neg (by omega), if_neg (by decide)]
  rw [if_neg (by omega), if_neg (by rw [h0.2.1]; decide)] at h
  exact h
theorem canE_15 {l : List UInt8} {m : Nat} (hm : m ≤ 15) (h : canE l m = 0) : canE l 15 = 0 ∧ overB l 15 = false := by
  have h0 := canE_0 h
  have e3 : overB l 15 = false := over_no fun i z => by have := over_le h0.2.1 z; omega
  refine ⟨?_, e3⟩
  rw [canE_eq] at *
  unfold canD at *
  rw [e3, if_neg (by omega), if_neg (by decide)]
  rw [if_neg (by omega), if_neg (by rw [h0.2.1]; decide)] at h
  exact h
theorem symsL_lt {l : List UInt8} : ∀ x ∈ symsL l, x < l.length := by
  rw [symsL_eq]
  have : ∀ n, ∀ x ∈ symsT l n, x < l.length := fun n => by
    induction n with
    | zero => intro x hx; cases hx
    | succ n ih =>
      intro x hx
      rw [symsT, List.mem_append] at hx
      rcases hx with q | q
      · exact ih x q
      · split at q
        · cases q
        · exact (posT_mem.1 q).1
  exact this 16
theorem filt_cnt (v : Nat → Nat) (n : Nat) (L : List Nat) : (L.filter fun i => decide (0 < v i ∧ v i < n + 1)).length = (L.filter fun i => decide (0 < v i ∧ v i < n)).length + (if n = 0 then 0 else (L.filter fun i => decide (v i = n)).length) := by
  induction L with
  | nil => simp
  | cons x r ih =>
    simp only [List.filter_cons]
    by_cases h1 : 0 < v x ∧ v x < n
    · rw [if_pos (decide_eq_true (show 0 < v x ∧ v x < n + 1 by omega)), if_pos (decide_eq_true h1), if_neg (show ¬ decide (v x = n) = true from by simp; omega), List.length_cons, List.length_cons, ih]
      omega
    · rw [if_neg (show ¬ decide (0 < v x ∧ v x < n) = true from by simpa using h1)]
      by_cases h2 : 0 < v x ∧ v x = n
      · rw [if_pos (decide_eq_true (show 0 < v x ∧ v x < n + 1 by omega)), if_pos (decide_eq_true h2.2), List.length_cons, List.length_cons, ih, if_neg (by omega), if_neg (by omega)]
        omega
      · rw [if_neg (show ¬ decide (0 < v x ∧ v x < n + 1) = true from by simp; omega), ih]
        by_cases h3 : n = 0
        · rw [if_pos h3, if_pos h3]
        · rw [if_neg h3, if_neg h3, if_neg (show ¬ decide (v x = n) = true from by simp; omega)]
theorem symsT_filt (l : List UInt8) : ∀ n, (symsT l n).length = ((List.range l.length).filter fun i => decide (0 < (l.getD i default).toNat ∧ (l.getD i default).toNat < n)).length
  | 0 => by rw [List.filter_eq_nil_iff.2 (fun i _ => by simp)]; rfl
  | n + 1 => by
    rw [filt_cnt (fun i => (l.getD i default).toNat) n, ← symsT_filt l n, symsT, List.length_append]
    split
    · rfl
    · rfl
theorem symsL_le (l : List UInt8) : (symsL l).length ≤ l.length := by
  rw [symsL_eq, symsT_filt]
  exact Nat.le_trans (List.length_filter_le _ _) (by simp)
theorem get16m (f : Nat → Nat) (n : Nat) (h : n < 16) : (c16 f)[n * 1]? = some (nD (f n)) := by rw [Nat.mul_one]; exact get16' f n h
theorem cnt_z {l : List UInt8} {a : Nat} (h : a = 0) : cnt l a = 0 := by rw [h]; exact cnt_0 l
theorem sl_take {l : List UInt8} {a : Nat} (h : a ≤ 15) : D.sl false (cnt l a) 1 (List.take (cnt l a * 1) ((restL l a).map nD)) = D.sl false (cnt l a) 1 ((posL l a).map nD) := by
  rw [Nat.mul_one, ← List.map_take, rest_take h]
theorem sl_drop {l : List UInt8} {a : Nat} (h : a ≤ 15) : D.sl false ((restL l a).length - cnt l a) 1 (List.drop (cnt l a * 1) ((restL l a).map nD)) = D.sl false (restL l (a + 1)).length 1 ((restL l (a + 1)).map nD) := by
  rw [Nat.mul_one, ← List.map_drop, rest_drop h, (rest_len h).2]
theorem posL_k {l : List UInt8} {a k : Nat} (hl : l.length ≤ 320) (h : k < cnt l a) : (posL l a).getD (k * 1) default < l.length ∧ ((stamp l a k).getD ((posL l a).getD (k * 1) default) default).toNat = 0 ∧ ((stamp l a k).getD (0 + (posL l a).getD (k * 1) default * 1) default).toNat = 0 := by
  rw [Nat.mul_one, Nat.mul_one, Nat.zero_add]
  have h' : k < (posL l a).length := by rw [posL_len]; exact h
  have h1 := posL_at h'
  rw [stamp_new hl h']
  exact ⟨h1.1, rfl, rfl⟩
theorem cnt_le (l : List UInt8) (a : Nat) : cnt l a ≤ l.length := by
  rw [cnt_eq]; unfold cntD; split
  · exact Nat.zero_le _
  · exact posT_le _ _ _
theorem stamp_00 (l : List UInt8) : (stamp l 0 0).map dB = List.replicate 320 (u8D 0) := by
  rw [List.eq_replicate_iff]
  refine ⟨by rw [List.length_map, stamp_len], fun d hd => ?_⟩
  obtain ⟨x, hx, rfl⟩ := List.mem_map.1 hd
  rw [stamp_eq] at hx
  obtain ⟨i, _, rfl⟩ := List.mem_map.1 hx
  unfold stampF
  rw [if_neg (by simp)]; rfl
theorem Grow_pad (l : List UInt8) (m : Nat) (hm : m ≤ 15) (h : canE l m = 0) : SpecH false Try.prog 67 [.sl false 320 1 ((padL l).map dB), nD 15] [] (.tup [.agg (c16 (cnt l) ++ [.ref 0 0 0 (symsL l).length 1]), iD 0]) [⟨(symsL l).map nD, 3, true⟩] := by
  have h0 := canE_0 h
  have h2 := Grow_ok (padL l) 320 (padL_len h0.1).symm (by decide) 15 (by decide) (canE_pad hm h)
  rw [symsL_pad h0.1, show cnt (padL l) = cnt l from funext fun n => cnt_pad h0.1 n] at h2
  exact h2
theorem same_t (l : List UInt8) (q p : Nat) (hq : q = (symsL l).length) (hp : p = (symsL l).length) (hQ : q ≤ 320) : SpecH false Try.prog 35 [treeD q l, treeD p l] [] (bD true) [] := by
  refine SpecH.run T_ok mixed Try.func35 rfl rfl rfl trivial rfl 1000 64 (fun R ok => (.s 23 (.t ((↑(cnt l 0) : Int) == (↑(cnt l 0) : Int) && ((↑(cnt l 1) : Int) == (↑(cnt l 1) : Int) && ((↑(cnt l 2) : Int) == (↑(cnt l 2) : Int) && ((↑(cnt l 3) : Int) == (↑(cnt l 3) : Int) && ((↑(cnt l 4) : Int) == (↑(cnt l 4) : Int) && ((↑(cnt l 5) : Int) == (↑(cnt l 5) : Int) && ((↑(cnt l 6) : Int) == (↑(cnt l 6) : Int) && ((↑(cnt l 7) : Int) == (↑(cnt l 7) : Int) && ((↑(cnt l 8) : Int) == (↑(cnt l 8) : Int) && ((↑(cnt l 9) : Int) == (↑(cnt l 9) : Int) && ((↑(cnt l 10) : Int) == (↑(cnt l 10) : Int) && ((↑(cnt l 11) : Int) == (↑(cnt l 11) : Int) && ((↑(cnt l 12) : Int) == (↑(cnt l 12) : Int) && ((↑(cnt l 13) : Int) == (↑(cnt l 13) : Int) && ((↑(cnt l 14) : Int) == (↑(cnt l 14) : Int) && ((↑(cnt l 15) : Int) == (↑(cnt l 15) : Int) && true)))))))))))))))) zj2 (.s 24 (.f ((↑q : Int) != (↑p : Int)) (by (simp <;> (omega))) (.s 3 (Hn.inl T_ok mixed false 26 112 (loopAt Try.prog 66 0) (fun (x : (i : Nat) ×' (hi : i ≤ q) ×' Unit) => match x with | ⟨i, hi, _⟩ => CutS.mk [(0, D.sl false q 1 (List.map nD (symsL l))), (1, D.sl false p 1 (List.map nD (symsL l))), (12, nD q), (13, nD i)] [⟨0, 0, 0, 0, .b ⟨[nD (cnt l 0), nD (cnt l 1), nD (cnt l 2), nD (cnt l 3), nD (cnt l 4), nD (cnt l 5), nD (cnt l 6), nD (cnt l 7), nD (cnt l 8), nD (cnt l 9), nD (cnt l 10), nD (cnt l 11), nD (cnt l 12), nD (cnt l 13), nD (cnt l 14), nD (cnt l 15), D.sl false q 1 (List.map nD (symsL l))], 26, false⟩⟩, ⟨8, 8, 8, 8, .b ⟨[nD (cnt l 0), nD (cnt l 1), nD (cnt l 2), nD (cnt l 3), nD (cnt l 4), nD (cnt l 5), nD (cnt l 6), nD (cnt l 7), nD (cnt l 8), nD (cnt l 9), nD (cnt l 10), nD (cnt l 11), nD (cnt l 12), nD (cnt l 13), nD (cnt l 14), nD (cnt l 15), D.sl false p 1 (List.map nD (symsL l))], 26, false⟩⟩] 128) (fun (x : (i : Nat) ×' (hi : i ≤ q) ×' Unit) => match x with | ⟨i, hi, _⟩ => q - i) [⟨Unit, .exit 0, fun x => match x with | () => CutS.mk [(0, D.sl false q 1 (List.map nD (symsL l))), (1, D.sl false p 1 (List.map nD (symsL l))), (12, nD q)] [⟨0, 0, 0, 0, .b ⟨[nD (cnt l 0), nD (cnt l 1), nD (cnt l 2), nD (cnt l 3), nD (cnt l 4), nD (cnt l 5), nD (cnt l 6), nD (cnt l 7), nD (cnt l 8), nD (cnt l 9), nD (cnt l 10), nD (cnt l 11), nD (cnt l 12), nD (cnt l 13), nD (cnt l 14), nD (cnt l 15), D.sl false q 1 (List.map nD (symsL l))], 26, false⟩⟩, ⟨8, 8, 8, 8, .b ⟨[nD (cnt l 0), nD (cnt l 1), nD (cnt l 2), nD (cnt l 3), nD (cnt l 4), nD (cnt l 5), nD (cnt l 6), nD (cnt l 7), nD (cnt l 8), nD (cnt l 9), nD (cnt l 10), nD (cnt l 11), nD (cnt l 12), nD (cnt l 13), nD (cnt l 14), nD (cnt l 15), D.sl false p 1 (List.map nD (symsL l))], 26, false⟩⟩] 128⟩] 1000 64 (fun | ⟨i, hi, _⟩, Q, next1, last1 => (.s 2 (.br (decide ((↑i : Int) < (↑q : Int))) (fun p0 => have p0f := odt p0; (.s 6 (.chk (true && decide ((↑i : Int) < (↑q : Int)) && true) zj2 (.s 2 (.opt ((List.map nD (symsL l))[i * 1]?) (nD (List.getD (symsL l) (i * 1) default)) (map_get _ _ om) (.s 3 (.chk (true && decide ((↑i : Int) < (↑p : Int)) && true) zj2 (.s 2 (.opt ((List.map nD (symsL l))[i * 1]?) (nD (List.getD (symsL l) (i * 1) default)) (map_get _ _ om) (.s 2 (.f ((↑(List.getD (symsL l) (i * 1) default) : Int) != (↑(List.getD (symsL l) (i * 1) default) : Int)) (by (simp; done)) (.s 2 (.ow ((↑i : Int) + 1) (.s 1 (.val 13 (iD ((↑i : Int) + 1)) (nD (i + 1)) (by (refine iv_eq ?_; (omega))) (Hn.next next1 ⟨(i + 1), om, ⟨⟩⟩ (by show q - (i + 1) < q - i; clear next1 last1; omega) [(0, 0), (8, 8)] ro)))))))))))))))) (fun p0 => have p0f := odf p0; (Hn.last last1 0 (() : Unit) rfl [(0, 0), (8, 8)] ro))))) (fun | ⟨i, hi, _⟩ => by kernel_rfl) ⟨(0), om, ⟨⟩⟩ [(0, 0), (8, 8)] ro (hs1 (fun | () => (.s 3 (.out [] [] (D.v (.bool true)) [] R (ok _ _ wr wr)))))))))))) (by kernel_rfl)
theorem chk_g (l : List UInt8) (m : Nat) (hm : m ≤ 15) (h : canE l m = 0) (q : Nat) (hq : q = (symsL l).length) : SpecH false Try.prog 36 [treeD q l] [] (iD 0) [] := by
  have h0 := canE_0 h
  have h1 := canE_15 hm h
  have hQ := symsL_le l
  have hp := padL_len h0.1
  refine SpecH.run T_ok mixed Try.func36 rfl rfl rfl trivial rfl 1000 64 (fun R ok => (.s 12 (.f (decide (320 < (↑q : Int))) (by (refine decide_eq_false ?_; (omega))) (.s 18 (.val 4 (D.sl false q 1 (List.map nD (symsL l))) (D.sl false (List.length (restL l 0)) 1 (List.map nD (restL l 0))) (by (rw [rest_0, hq])) (.blk 48 48 (Blk.mk [D.v (Value.int .u8 0), D.v (Value.int .u8 0), D.v (Value.int .u8 0), D.v (Value.int .u8 0), D.v (Value.int .u8 0), D.v (Value.int .u8 0), D.v (Value.int .u8 0), D.v (Value.int .u8 0), D.v (Value.int .u8 0), D.v (Value.int .u8 0), D.v (Value.int .u8 0), D.v (Value.int .u8 0), D.v (Value.int .u8 0), D.v (Value.int .u8 0), D.v (Value.int .u8 0), D.v (Value.int .u8 0), D.v (Value.int .u8 0), D.v (Value.int .u8 0), D.v (Value.int .u8 0), D.v (Value.int .u8 0), D.v (Value.int .u8 0), D.v (Value.int .u8 0), D.v (Value.int .u8 0), D.v (Value.int .u8 0), D.v (Value.int .u8 0), D.v (Value.int .u8 0), D.v (Value.int .u8 0), D.v (Value.int .u8 0), D.v (Value.int .u8 0), D.v (Value.int .u8 0), D.v (Value.int .u8 0), D.v (Value.int .u8 0), D.v (Value.int .u8 0), D.v (Value.int .u8 0), D.v (Value.int .u8 0), D.v (Value.int .u8 0), D.v (Value.int .u8 0), D.v (Value.int .u8 0), D.v (Value.int .u8 0), D.v (Value.int .u8 0), D.v (Value.int .u8 0), D.v (Value.int .u8 0), D.v (Value.int .u8 0), D.v (Value.int .u8 0), D.v (Value.int .u8 0), D.v (Value.int .u8 0), D.v (Value.int .u8 0), D.v (Value.int .u8 0), D.v (Value.int .u8 0), D.v (Value.int .u8 0), D.v (Value.int .u8 0), D.v (Value.int .u8 0), D.v (Value.int .u8 0), D.v (Value.int .u8 0), D.v (Value.int .u8 0), D.v (Value.int .u8 0), D.v (Value.int .u8 0), D.v (Value.int .u8 0), D.v (Value.int .u8 0), D.v (Value.int .u8 0), D.v (Value.int .u8 0), D.v (Value.int .u8 0), D.v (Value.int .u8 0), D.v (Value.int .u8 0), D.v (Value.int .u8 0), D.v (Value.int .u8 0), D.v (Value.int .u8 0), D.v (Value.int .u8 0), D.v (Value.int .u8 0), D.v (Value.int .u8 0), D.v (Value.int .u8 0), D.v (Value.int .u8 0), D.v (Value.int .u8 0), D.v (Value.int .u8 0), D.v (Value.int .u8 0), D.v (Value.int .u8 0), D.v (Value.int .u8 0), D.v (Value.int .u8 0), D.v (Value.int .u8 0), D.v (Value.int .u8 0), D.v (Value.int .u8 0), D.v (Value.int .u8 0), D.v (Value.int .u8 0), D.v (Value.int .u8 0), D.v (Value.int .u8 0), D.v (Value.int .u8 0), D.v (Value.int .u8 0), D.v (Value.int .u8 0), D.v (Value.int .u8 0), D.v (Value.int .u8 0), D.v (Value.int .u8 0), D.v (Value.int .u8 0), D.v (Value.int .u8 0), D.v (Value.int .u8 0), D.v (Value.int .u8 0), D.v (Value.int .u8 0), D.v (Value.int .u8 0), D.v (Value.int .u8 0), D.v (Value.int .u8 0), D.v (Value.int .u8 0), D.v (Value.int .u8 0), D.v (Value.int .u8 0), D.v (Value.int .u8 0), D.v (Value.int .u8 0), D.v (Value.int .u8 0), D.v (Value.int .u8 0), D.v (Value.int .u8 0), D.v (Value.int .u8 0), D.v (Value.int .u8 0), D.v (Value.int .u8 0), D.v (Value.int .u8 0), D.v (Value.int .u8 0), D.v (Value.int .u8 0), D.v (Value.int .u8 0), D.v (Value.int .u8 0), D.v (Value.int .u8 0), D.v (Value.int .u8 0), D.v (Value.int .u8 0), D.v (Value.int .u8 0), D.v (Value.int .u8 0), D.v (Value.int .u8 0), D.v (Value.int .u8 0), D.v (Value.int .u8 0), D.v (Value.int .u8 0), D.v (Value.int .u8 0), D.v (Value.int .u8 0), D.v (Value.int .u8 0), D.v (Value.int .u8 0), D.v (Value.int .u8 0), D.v (Value.int .u8 0), D.v (Value.int .u8 0), D.v (Value.int .u8 0), D.v (Value.int .u8 0), D.v (Value.int .u8 0), D.v (Value.int .u8 0), D.v (Value.int .u8 0), D.v (Value.int .u8 0), D.v (Value.int .u8 0), D.v (Value.int .u8 0), D.v (Value.int .u8 0), D.v (Value.int .u8 0), D.v (Value.int .u8 0), D.v (Value.int .u8 0), D.v (Value.int .u8 0), D.v (Value.int .u8 0), D.v (Value.int .u8 0), D.v (Value.int .u8 0), D.v (Value.int .u8 0), D.v (Value.int .u8 0), D.v (Value.int .u8 0), D.v (Value.int .u8 0), D.v (Value.int .u8 0), D.v (Value.int .u8 0), D.v (Value.int .u8 0), D.v (Value.int .u8 0), D.v (Value.int .u8 0), D.v (Value.int .u8 0), D.v (Value.int .u8 0), D.v (Value.int .u8 0), D.v (Value.int .u8 0), D.v (Value.int .u8 0), D.v (Value.int .u8 0), D.v (Value.int .u8 0), D.v (Value.int .u8 0), D.v (Value.int .u8 0), D.v (Value.int .u8 0), D.v (Value.int .u8 0), D.v (Value.int .u8 0), D.v (Value.int .u8 0), D.v (Value.int .u8 0), D.v (Value.int .u8 0), D.v (Value.int .u8 0), D.v (Value.int .u8 0), D.v (Value.int .u8 0), D.v (Value.int .u8 0), D.v (Value.int .u8 0), D.v (Value.int .u8 0), D.v (Value.int .u8 0), D.v (Value.int .u8 0), D.v (Value.int .u8 0), D.v (Value.int .u8 0), D.v (Value.int .u8 0), D.v (Value.int .u8 0), D.v (Value.int .u8 0), D.v (Value.int .u8 0), D.v (Value.int .u8 0), D.v (Value.int .u8 0), D.v (Value.int .u8 0), D.v (Value.int .u8 0), D.v (Value.int .u8 0), D.v (Value.int .u8 0), D.v (Value.int .u8 0), D.v (Value.int .u8 0), D.v (Value.int .u8 0), D.v (Value.int .u8 0), D.v (Value.int .u8 0), D.v (Value.int .u8 0), D.v (Value.int .u8 0), D.v (Value.int .u8 0), D.v (Value.int .u8 0), D.v (Value.int .u8 0), D.v (Value.int .u8 0), D.v (Value.int .u8 0), D.v (Value.int .u8 0), D.v (Value.int .u8 0), D.v (Value.int .u8 0), D.v (Value.int .u8 0), D.v (Value.int .u8 0), D.v (Value.int .u8 0), D.v (Value.int .u8 0), D.v (Value.int .u8 0), D.v (Value.int .u8 0), D.v (Value.int .u8 0), D.v (Value.int .u8 0), D.v (Value.int .u8 0), D.v (Value.int .u8 0), D.v (Value.int .u8 0), D.v (Value.int .u8 0), D.v (Value.int .u8 0), D.v (Value.int .u8 0), D.v (Value.int .u8 0), D.v (Value.int .u8 0), D.v (Value.int .u8 0), D.v (Value.int .u8 0), D.v (Value.int .u8 0), D.v (Value.int .u8 0), D.v (Value.int .u8 0), D.v (Value.int .u8 0), D.v (Value.int .u8 0), D.v (Value.int .u8 0), D.v (Value.int .u8 0), D.v (Value.int .u8 0), D.v (Value.int .u8 0), D.v (Value.int .u8 0), D.v (Value.int .u8 0), D.v (Value.int .u8 0), D.v (Value.int .u8 0), D.v (Value.int .u8 0), D.v (Value.int .u8 0), D.v (Value.int .u8 0), D.v (Value.int .u8 0), D.v (Value.int .u8 0), D.v (Value.int .u8 0), D.v (Value.int .u8 0), D.v (Value.int .u8 0), D.v (Value.int .u8 0), D.v (Value.int .u8 0), D.v (Value.int .u8 0), D.v (Value.int .u8 0), D.v (Value.int .u8 0), D.v (Value.int .u8 0), D.v (Value.int .u8 0), D.v (Value.int .u8 0), D.v (Value.int .u8 0), D.v (Value.int .u8 0), D.v (Value.int .u8 0), D.v (Value.int .u8 0), D.v (Value.int .u8 0), D.v (Value.int .u8 0), D.v (Value.int .u8 0), D.v (Value.int .u8 0), D.v (Value.int .u8 0), D.v (Value.int .u8 0), D.v (Value.int .u8 0), D.v (Value.int .u8 0), D.v (Value.int .u8 0), D.v (Value.int .u8 0), D.v (Value.int .u8 0), D.v (Value.int .u8 0), D.v (Value.int .u8 0), D.v (Value.int .u8 0), D.v (Value.int .u8 0), D.v (Value.int .u8 0), D.v (Value.int .u8 0), D.v (Value.int .u8 0), D.v (Value.int .u8 0), D.v (Value.int .u8 0), D.v (Value.int .u8 0), D.v (Value.int .u8 0), D.v (Value.int .u8 0), D.v (Value.int .u8 0), D.v (Value.int .u8 0), D.v (Value.int .u8 0), D.v (Value.int .u8 0), D.v (Value.int .u8 0), D.v (Value.int .u8 0), D.v (Value.int .u8 0), D.v (Value.int .u8 0), D.v (Value.int .u8 0), D.v (Value.int .u8 0), D.v (Value.int .u8 0), D.v (Value.int .u8 0), D.v (Value.int .u8 0), D.v (Value.int .u8 0), D.v (Value.int .u8 0), D.v (Value.int .u8 0), D.v (Value.int .u8 0), D.v (Value.int .u8 0), D.v (Value.int .u8 0), D.v (Value.int .u8 0), D.v (Value.int .u8 0), D.v (Value.int .u8 0), D.v (Value.int .u8 0), D.v (Value.int .u8 0), D.v (Value.int .u8 0), D.v (Value.int .u8 0), D.v (Value.int .u8 0), D.v (Value.int .u8 0), D.v (Value.int .u8 0), D.v (Value.int .u8 0), D.v (Value.int .u8 0), D.v (Value.int .u8 0), D.v (Value.int .u8 0), D.v (Value.int .u8 0), D.v (Value.int .u8 0), D.v (Value.int .u8 0), D.v (Value.int .u8 0), D.v (Value.int .u8 0), D.v (Value.int .u8 0), D.v (Value.int .u8 0)] 5 true) (Blk.mk (List.map dB (stamp l 0 0)) 5 true) (by (rw [stamp_00]; rfl)) (Hn.inl T_ok mixed false 91 0 (loopAt Try.prog 36 0) (fun (x : (a : Nat) ×' (ha : a ≤ 16) ×' Unit) => match x with | ⟨a, ha, _⟩ => CutS.mk [(1, D.ptr 0 0 0), (3, D.ref 8 8 0 320 1), (4, .sl false (restL l a).length 1 ((restL l a).map nD)), (19, D.agg [nD (cnt l 0), nD (cnt l 1), nD (cnt l 2), nD (cnt l 3), nD (cnt l 4), nD (cnt l 5), nD (cnt l 6), nD (cnt l 7), nD (cnt l 8), nD (cnt l 9), nD (cnt l 10), nD (cnt l 11), nD (cnt l 12), nD (cnt l 13), nD (cnt l 14), nD (cnt l 15)]), (20, nD a)] [⟨0, 0, 0, 0, .b ⟨[nD (cnt l 0), nD (cnt l 1), nD (cnt l 2), nD (cnt l 3), nD (cnt l 4), nD (cnt l 5), nD (cnt l 6), nD (cnt l 7), nD (cnt l 8), nD (cnt l 9), nD (cnt l 10), nD (cnt l 11), nD (cnt l 12), nD (cnt l 13), nD (cnt l 14), nD (cnt l 15), D.sl false q 1 (List.map nD (symsL l))], 26, false⟩⟩, ⟨8, 8, 48, 48, .b ⟨(stamp l a 0).map dB, 5, true⟩⟩] 16) (fun (x : (a : Nat) ×' (ha : a ≤ 16) ×' Unit) => match x with | ⟨a, ha, _⟩ => 16 - a) [⟨Unit, .exit 0, fun x => match x with | () => CutS.mk [(1, D.ptr 0 0 0), (3, D.ref 8 8 0 320 1), (4, .sl false 0 1 []), (19, D.agg [nD (cnt l 0), nD (cnt l 1), nD (cnt l 2), nD (cnt l 3), nD (cnt l 4), nD (cnt l 5), nD (cnt l 6), nD (cnt l 7), nD (cnt l 8), nD (cnt l 9), nD (cnt l 10), nD (cnt l 11), nD (cnt l 12), nD (cnt l 13), nD (cnt l 14), nD (cnt l 15)])] [⟨0, 0, 0, 0, .b ⟨[nD (cnt l 0), nD (cnt l 1), nD (cnt l 2), nD (cnt l 3), nD (cnt l 4), nD (cnt l 5), nD (cnt l 6), nD (cnt l 7), nD (cnt l 8), nD (cnt l 9), nD (cnt l 10), nD (cnt l 11), nD (cnt l 12), nD (cnt l 13), nD (cnt l 14), nD (cnt l 15), D.sl false q 1 (List.map nD (symsL l))], 26, false⟩⟩, ⟨8, 8, 48, 48, .b ⟨(padL l).map dB, 5, true⟩⟩] 16⟩] 1000 64 (fun | ⟨a, ha, _⟩, Q, next1, last1 => (.s 2 (.br (decide ((↑a : Int) < 16)) (fun p0 => have p0f := odt p0; (.s 2 (.chk (true && decide ((↑a : Int) < (↑16 : Int))) asm (.opt ((c16 (cnt l))[a * 1]?) (nD (cnt l a)) (@get16m (cnt l) (a) om) (.s 18 (.f (decide ((↑(List.length (restL l a)) : Int) < (↑(cnt l a) : Int))) zj5 (.s 6 (.br ((↑a : Int) == 0) (fun p1 => have p1f := eq_of_beq p1; (.s 6 (.f (decide (0 < (↑(cnt l a) : Int))) zj5 (.s 3 (.chk (bndOk none (some (↑(cnt l a) : Int)) none (List.length (restL l a)) && true) zj3 (.s 2 (.val 42 (D.sl false (cnt l a) 1 (List.take (cnt l a * 1) (List.map nD (restL l a)))) (D.sl false (cnt l a) 1 (List.map nD (posL l a))) (by (exact sl_take (by (omega)))) (Hn.inl T_ok mixed false 91 0 (loopAt Try.prog 36 1) (fun (x : (k : Nat) ×' (hk : k ≤ cnt l a) ×' Unit) => match x with | ⟨k, hk, _⟩ => CutS.mk [(1, D.ptr 0 0 0), (3, D.ref 8 8 0 320 1), (4, D.sl false (List.length (restL l a)) 1 (List.map nD (restL l a))), (5, nD a), (6, nD (cnt l a)), (19, D.agg [nD (cnt l 0), nD (cnt l 1), nD (cnt l 2), nD (cnt l 3), nD (cnt l 4), nD (cnt l 5), nD (cnt l 6), nD (cnt l 7), nD (cnt l 8), nD (cnt l 9), nD (cnt l 10), nD (cnt l 11), nD (cnt l 12), nD (cnt l 13), nD (cnt l 14), nD (cnt l 15)]), (20, nD a), (27, nD (cnt l a)), (28, D.sl false (List.length (restL l a)) 1 (List.map nD (restL l a))), (29, nD (List.length (restL l a))), (30, D.v (.bool (decide ((↑(List.length (restL l a)) : Int) < (↑(cnt l a) : Int))))), (33, nD a), (34, D.v (.bool ((↑a : Int) == 0))), (35, D.v (.bool true)), (36, nD (cnt l a)), (37, D.v (.bool (decide (0 < (↑(cnt l a) : Int))))), (38, D.v (.bool (decide (0 < (↑(cnt l a) : Int))))), (42, .sl false (cnt l a) 1 ((posL l a).map nD)), (43, nD (cnt l a)), (44, nD k)] [⟨0, 0, 0, 0, .b ⟨[nD (cnt l 0), nD (cnt l 1), nD (cnt l 2), nD (cnt l 3), nD (cnt l 4), nD (cnt l 5), nD (cnt l 6), nD (cnt l 7), nD (cnt l 8), nD (cnt l 9), nD (cnt l 10), nD (cnt l 11), nD (cnt l 12), nD (cnt l 13), nD (cnt l 14), nD (cnt l 15), D.sl false q 1 (List.map nD (symsL l))], 26, false⟩⟩, ⟨8, 8, 8, 8, .b ⟨(stamp l a k).map dB, 5, true⟩⟩] 16) (fun (x : (k : Nat) ×' (hk : k ≤ cnt l a) ×' Unit) => match x with | ⟨k, hk, _⟩ => cnt l a - k) [⟨Unit, .exit 2, fun x => match x with | () => CutS.mk [(1, D.ptr 0 0 0), (3, D.ref 8 8 0 320 1), (4, D.sl false (List.length (restL l a)) 1 (List.map nD (restL l a))), (5, nD a), (6, nD (cnt l a)), (19, D.agg [nD (cnt l 0), nD (cnt l 1), nD (cnt l 2), nD (cnt l 3), nD (cnt l 4), nD (cnt l 5), nD (cnt l 6), nD (cnt l 7), nD (cnt l 8), nD (cnt l 9), nD (cnt l 10), nD (cnt l 11), nD (cnt l 12), nD (cnt l 13), nD (cnt l 14), nD (cnt l 15)]), (20, nD a), (27, nD (cnt l a)), (28, D.sl false (List.length (restL l a)) 1 (List.map nD (restL l a))), (29, nD (List.length (restL l a))), (30, D.v (.bool (decide ((↑(List.length (restL l a)) : Int) < (↑(cnt l a) : Int))))), (33, nD a), (34, D.v (.bool ((↑a : Int) == 0))), (35, D.v (.bool true)), (36, nD (cnt l a)), (37, D.v (.bool (decide (0 < (↑(cnt l a) : Int))))), (38, D.v (.bool (decide (0 < (↑(cnt l a) : Int))))), (43, nD (cnt l a))] [⟨0, 0, 0, 0, .b ⟨[nD (cnt l 0), nD (cnt l 1), nD (cnt l 2), nD (cnt l 3), nD (cnt l 4), nD (cnt l 5), nD (cnt l 6), nD (cnt l 7), nD (cnt l 8), nD (cnt l 9), nD (cnt l 10), nD (cnt l 11), nD (cnt l 12), nD (cnt l 13), nD (cnt l 14), nD (cnt l 15), D.sl false q 1 (List.map nD (symsL l))], 26, false⟩⟩, ⟨8, 8, 8, 8, .b ⟨(stamp l (a + 1) 0).map dB, 5, true⟩⟩] 16⟩] 1000 64 (fun | ⟨k, hk, _⟩, Q, next2, last2 => (.s 2 (.f (decide ((↑k : Int) < (↑(cnt l a) : Int))) zj5 (.blk 8 8 (Blk.mk (List.map dB (stamp l a k)) 5 true) (Blk.mk (List.map dB (stamp l (a + 1) 0)) 5 true) (by ( have h9 := (rest_len (l := l) (a := a) om).1; have h8 := cnt_z (l := l) (a := a); have h4 := cnt_le l a; rw [show k = cnt l a from by omega, stamp_up])) (Hn.last last2 0 (() : Unit) rfl [(0, 0), (8, 8)] ro))))) (fun | ⟨k, hk, _⟩ => by kernel_rfl) ⟨(0), om, ⟨⟩⟩ [(0, 0), (8, 8)] ro (hs1 (fun | () => (.s 3 (.chk (bndOk (some (↑(cnt l a) : Int)) none none (List.length (restL l a)) && true) zj3 (.s 3 (.ow ((↑a : Int) + 1) (.s 1 (.val 4 (D.sl false (List.length (restL l a) - cnt l a) 1 (List.drop (cnt l a * 1) (List.map nD (restL l a)))) (D.sl false (List.length (restL l (a + 1))) 1 (List.map nD (restL l (a + 1)))) (by (exact sl_drop (by (omega)))) (.val 20 (iD ((↑a : Int) + 1)) (nD (a + 1)) zj1 (Hn.next next1 ⟨(a + 1), om, ⟨⟩⟩ zj6 [(0, 0), (8, 8)] ro)))))))))))))))))) (fun p1 => have p1f := of_beq_f p1; (.s 9 (.chk (bndOk none (some (↑(cnt l a) : Int)) none (List.length (restL l a)) && true) zj3 (.s 2 (.val 42 (D.sl false (cnt l a) 1 (List.take (cnt l a * 1) (List.map nD (restL l a)))) (D.sl false (cnt l a) 1 (List.map nD (posL l a))) (by (exact sl_take (by (omega)))) (Hn.inl T_ok mixed false 91 0 (loopAt Try.prog 36 1) (fun (x : (k : Nat) ×' (hk : k ≤ cnt l a) ×' Unit) => match x with | ⟨k, hk, _⟩ => CutS.mk [(1, D.ptr 0 0 0), (3, D.ref 8 8 0 320 1), (4, D.sl false (List.length (restL l a)) 1 (List.map nD (restL l a))), (5, nD a), (6, nD (cnt l a)), (19, D.agg [nD (cnt l 0), nD (cnt l 1), nD (cnt l 2), nD (cnt l 3), nD (cnt l 4), nD (cnt l 5), nD (cnt l 6), nD (cnt l 7), nD (cnt l 8), nD (cnt l 9), nD (cnt l 10), nD (cnt l 11), nD (cnt l 12), nD (cnt l 13), nD (cnt l 14), nD (cnt l 15)]), (20, nD a), (27, nD (cnt l a)), (28, D.sl false (List.length (restL l a)) 1 (List.map nD (restL l a))), (29, nD (List.length (restL l a))), (30, D.v (.bool (decide ((↑(List.length (restL l a)) : Int) < (↑(cnt l a) : Int))))), (33, nD a), (34, D.v (.bool ((↑a : Int) == 0))), (35, D.v (.bool false)), (36, D.tup []), (37, D.tup []), (38, D.v (.bool false)), (42, .sl false (cnt l a) 1 ((posL l a).map nD)), (43, nD (cnt l a)), (44, nD k)] [⟨0, 0, 0, 0, .b ⟨[nD (cnt l 0), nD (cnt l 1), nD (cnt l 2), nD (cnt l 3), nD (cnt l 4), nD (cnt l 5), nD (cnt l 6), nD (cnt l 7), nD (cnt l 8), nD (cnt l 9), nD (cnt l 10), nD (cnt l 11), nD (cnt l 12), nD (cnt l 13), nD (cnt l 14), nD (cnt l 15), D.sl false q 1 (List.map nD (symsL l))], 26, false⟩⟩, ⟨8, 8, 8, 8, .b ⟨(stamp l a k).map dB, 5, true⟩⟩] 16) (fun (x : (k : Nat) ×' (hk : k ≤ cnt l a) ×' Unit) => match x with | ⟨k, hk, _⟩ => cnt l a - k) [⟨Unit, .exit 2, fun x => match x with | () => CutS.mk [(1, D.ptr 0 0 0), (3, D.ref 8 8 0 320 1), (4, D.sl false (List.length (restL l a)) 1 (List.map nD (restL l a))), (5, nD a), (6, nD (cnt l a)), (19, D.agg [nD (cnt l 0), nD (cnt l 1), nD (cnt l 2), nD (cnt l 3), nD (cnt l 4), nD (cnt l 5), nD (cnt l 6), nD (cnt l 7), nD (cnt l 8), nD (cnt l 9), nD (cnt l 10), nD (cnt l 11), nD (cnt l 12), nD (cnt l 13), nD (cnt l 14), nD (cnt l 15)]), (20, nD a), (27, nD (cnt l a)), (28, D.sl false (List.length (restL l a)) 1 (List.map nD (restL l a))), (29, nD (List.length (restL l a))), (30, D.v (.bool (decide ((↑(List.length (restL l a)) : Int) < (↑(cnt l a) : Int))))), (33, nD a), (34, D.v (.bool ((↑a : Int) == 0))), (35, D.v (.bool false)), (36, D.tup []), (37, D.tup []), (38, D.v (.bool false)), (43, nD (cnt l a))] [⟨0, 0, 0, 0, .b ⟨[nD (cnt l 0), nD (cnt l 1), nD (cnt l 2), nD (cnt l 3), nD (cnt l 4), nD (cnt l 5), nD (cnt l 6), nD (cnt l 7), nD (cnt l 8), nD (cnt l 9), nD (cnt l 10), nD (cnt l 11), nD (cnt l 12), nD (cnt l 13), nD (cnt l 14), nD (cnt l 15), D.sl false q 1 (List.map nD (symsL l))], 26, false⟩⟩, ⟨8, 8, 8, 8, .b ⟨(stamp l (a + 1) 0).map dB, 5, true⟩⟩] 16⟩] 1000 64 (fun | ⟨k, hk, _⟩, Q, next2, last2 => (.s 2 (.br (decide ((↑k : Int) < (↑(cnt l a) : Int))) (fun p2 => have p2f := odt p2; (.s 1 (.chk (true && decide ((↑k : Int) < (↑(cnt l a) : Int)) && true) zj2 (.s 2 (.opt ((List.map nD (posL l a))[k * 1]?) (nD (List.getD (posL l a) (k * 1) default)) (map_get _ _ (by ( have h9 := (rest_len (l := l) (a := a) om).1; have h8 := cnt_z (l := l) (a := a); have h4 := cnt_le l a; have h6 := stamp_len l a k; have h5 := posL_len l a; omega))) (.s 17 (.f (decide ((↑320 : Int) ≤ (↑(List.getD (posL l a) (k * 1) default) : Int))) zj7 (.s 4 (.chk (true && decide ((↑(List.getD (posL l a) (k * 1) default) : Int) < (↑320 : Int))) zj8 (.s 3 (.opt ((List.map dB (stamp l a k))[0 + List.getD (posL l a) (k * 1) default * 1]?) (dB (List.getD (stamp l a k) (0 + List.getD (posL l a) (k * 1) default * 1) default)) (map_get _ _ (by ( have h9 := (rest_len (l := l) (a := a) om).1; have h8 := cnt_z (l := l) (a := a); have h4 := cnt_le l a; have h7 := posL_k (l := l) (a := a) (k := k) om om; have h6 := stamp_len l a k; have h5 := posL_len l a; omega))) (.s 4 (.f (decide (0 < (↑(UInt8.toNat (List.getD (stamp l a k) (0 + List.getD (posL l a) (k * 1) default * 1) default)) : Int))) zj7 (.s 4 (.opt (wrapO .u8 (↑a : Int)) (D.v (Value.int .u8 (↑a : Int))) (wrapO_u8 om) (.s 1 (.chk (true && decide ((↑(List.getD (posL l a) (k * 1) default) : Int) < (↑320 : Int))) zj8 (.s 1 (.chk (true && Nat.ble (0 + List.getD (posL l a) (k * 1) default * 1 + 1) (List.length (List.map dB (stamp l a k)))) (by (simp only [Bool.true_and, List.length_map, stamp_len]; refine Nat.ble_eq_true_of_le ?_;  have h9 := (rest_len (l := l) (a := a) om).1; have h8 := cnt_z (l := l) (a := a); have h4 := cnt_le l a; have h7 := posL_k (l := l) (a := a) (k := k) om om; have h6 := stamp_len l a k; have h5 := posL_len l a; omega)) (.lst (setSeg (List.map dB (stamp l a k)) (0 + List.getD (posL l a) (k * 1) default * 1) [D.v (Value.int .u8 (↑a : Int))]) (setSeg (List.map dB (stamp l a k)) (List.getD (posL l a) k default) [D.v (Value.int .u8 (↑a : Int))]) zj1 (.s 2 (.op ((↑k : Int) + 1) (by ( have h9 := (rest_len (l := l) (a := a) om).1; have h8 := cnt_z (l := l) (a := a); have h4 := cnt_le l a; omega)) (.s 1 (.val 44 (iD ((↑k : Int) + 1)) (nD (k + 1)) zj1 (.blk 8 8 (Blk.mk (setSeg (List.map dB (stamp l a k)) (List.getD (posL l a) k default) [D.v (Value.int .u8 (↑a : Int))]) 5 true) (Blk.mk (List.map dB (stamp l a (k + 1))) 5 true) (by (refine blk_eq (stamp_set (by (omega)) (by rw [posL_len]; (omega)) (by simp only [Nat.mul_one, Nat.zero_add]) ?_);  refine congrArg _ (congrArg _ ?_); (omega))) (Hn.next next2 ⟨(k + 1), om, ⟨⟩⟩ (by show cnt l a - (k + 1) < cnt l a - k; clear next2 last2 next1 last1; omega) [(0, 0), (8, 8)] ro)))))))))))))))))))))))))) (fun p2 => have p2f := odf p2; (.blk 8 8 (Blk.mk (List.map dB (stamp l a k)) 5 true) (Blk.mk (List.map dB (stamp l (a + 1) 0)) 5 true) (by (rw [show k = cnt l a from by (omega), stamp_up])) (Hn.last last2 0 (() : Unit) rfl [(0, 0), (8, 8)] ro)))))) (fun | ⟨k, hk, _⟩ => by kernel_rfl) ⟨(0), om, ⟨⟩⟩ [(0, 0), (8, 8)] ro (hs1 (fun | () => (.s 3 (.chk (bndOk (some (↑(cnt l a) : Int)) none none (List.length (restL l a)) && true) zj3 (.s 3 (.ow ((↑a : Int) + 1) (.s 1 (.val 4 (D.sl false (List.length (restL l a) - cnt l a) 1 (List.drop (cnt l a * 1) (List.map nD (restL l a)))) (D.sl false (List.length (restL l (a + 1))) 1 (List.map nD (restL l (a + 1)))) (by (exact sl_drop (by (omega)))) (.val 20 (iD ((↑a : Int) + 1)) (nD (a + 1)) zj1 (Hn.next next1 ⟨(a + 1), om, ⟨⟩⟩ zj6 [(0, 0), (8, 8)] ro)))))))))))))))))))))))) (fun p0 => have p0f := odf p0; (.val 4 (D.sl false (List.length (restL l a)) 1 (List.map nD (restL l a))) (D.sl false 0 1 []) (by (rw [show a = 16 from by (omega), rest_16]; rfl)) (.blk 8 8 (Blk.mk (List.map dB (stamp l a 0)) 5 true) (Blk.mk (List.map dB (padL l)) 5 true) (by (rw [show a = 16 from by (omega), stamp_16 (by (omega)) h1.2])) (Hn.last last1 0 (() : Unit) rfl [(0, 0), (8, 8)] ro))))))) (fun | ⟨a, ha, _⟩ => by kernel_rfl) ⟨(0), om, ⟨⟩⟩ [(0, 0), (48, 48)] ro (hs1 (fun | () => (.s 2 (.call 67 false [] (true && (true && Nat.ble 320 (List.length (List.map dB (padL l))) && true && closedL (bif true && Nat.beq 320 (List.length (List.map dB (padL l))) then List.map dB (padL l) else List.take 320 (List.drop 0 (List.map dB (padL l))))) && true) (by (simp <;> (omega))) ([D.sl true 320 1 (bif true && Nat.beq 320 (List.length (List.map dB (padL l))) then List.map dB (padL l) else List.take 320 (List.drop 0 (List.map dB (padL l)))), iD 15]) _ (by exact (And.intro (D.sim.slw rfl (cond_t (by (simp <;> (omega))) |>.trans rfl)) (And.intro (D.sim.refl _) trivial))) (true) wr _ _ _ (CallOk.fn (FnOk.of Try.func67 rfl rfl) (@Grow_pad (l) (m) asm om)) (.s 36 (.call 35 false [] (true && (true && (true && (true && (true && (true && (true && (true && (true && (true && (true && (true && (true && (true && (true && (true && (true && (true && Nat.ble (0 + List.length (symsL l) * 1) (List.length (List.map nD (symsL l))) && true && closedL (bif true && Nat.beq (List.length (symsL l) * 1) (List.length (List.map nD (symsL l))) then List.map nD (symsL l) else List.take (List.length (symsL l) * 1) (List.drop 0 (List.map nD (symsL l))))) && true)))))))))))))))) && true) zj1 ([D.agg [nD (cnt l 0), nD (cnt l 1), nD (cnt l 2), nD (cnt l 3), nD (cnt l 4), nD (cnt l 5), nD (cnt l 6), nD (cnt l 7), nD (cnt l 8), nD (cnt l 9), nD (cnt l 10), nD (cnt l 11), nD (cnt l 12), nD (cnt l 13), nD (cnt l 14), nD (cnt l 15), D.sl (Nat.ble 1 (List.length (symsL l))) (List.length (symsL l)) 1 (bif true && Nat.beq (List.length (symsL l) * 1) (List.length (List.map nD (symsL l))) then List.map nD (symsL l) else List.take (List.length (symsL l) * 1) (List.drop 0 (List.map nD (symsL l))))], D.agg [nD (cnt l 0), nD (cnt l 1), nD (cnt l 2), nD (cnt l 3), nD (cnt l 4), nD (cnt l 5), nD (cnt l 6), nD (cnt l 7), nD (cnt l 8), nD (cnt l 9), nD (cnt l 10), nD (cnt l 11), nD (cnt l 12), nD (cnt l 13), nD (cnt l 14), nD (cnt l 15), D.sl false q 1 (List.map nD (symsL l))]]) _ (by exact (And.intro (D.sim.agg (And.intro (D.sim.refl _) (And.intro (D.sim.refl _) (And.intro (D.sim.refl _) (And.intro (D.sim.refl _) (And.intro (D.sim.refl _) (And.intro (D.sim.refl _) (And.intro (D.sim.refl _) (And.intro (D.sim.refl _) (And.intro (D.sim.refl _) (And.intro (D.sim.refl _) (And.intro (D.sim.refl _) (And.intro (D.sim.refl _) (And.intro (D.sim.refl _) (And.intro (D.sim.refl _) (And.intro (D.sim.refl _) (And.intro (D.sim.refl _) (And.intro (D.sim.slw rfl (cond_t (by (simp [cl_cond, cl_take]; done)) |>.trans rfl)) trivial)))))))))))))))))) (And.intro (D.sim.refl _) trivial))) (true) wr _ _ _ (CallOk.fn (FnOk.of Try.func35 rfl rfl) (@same_t (l) (List.length (symsL l)) (q) om om om)) (.s 5 (.out [] [] (iD 0) [] R (ok _ _ wr wr)))))))))))))))) (by kernel_rfl)
def nxF (b l : List UInt8) : Nat → Nat → Nat → Nat → Nat × Nat × Nat
  | 0, _, _, _ => (0, 0, 50)
  | k + 1, a, d, p => if (symsT l a).length + cnt l a = (symsL l).length then (0, 0, 50) else if tkE b p 1 ≠ 0 then (0, 0, 10) else
    if 2 * (d - cnt l a) + tkV b p 1 < cnt l (a + 1) then ((symsL l).getD ((symsT l a).length + cnt l a + (2 * (d - cnt l a) + tkV b p 1)) default, p + 1, 0)
    else nxF b l k (a + 1) (2 * (d - cnt l a) + tkV b p 1) (p + 1)
def nxR (b l : List UInt8) (p : Nat) : Nat × Nat × Nat := lk b (nxF b l 16 0 0 p)
theorem nxR_eq (b l : List UInt8) (p : Nat) : nxR b l p = nxF b l 16 0 0 p := lk_eq _ _
theorem nx_1 {b l : List UInt8} {a d p : Nat} (ha : a ≤ 15) (h : (symsT l a).length + cnt l a = (symsL l).length) : nxF b l (16 - a) a d p = (0, 0, 50) := by
  rw [show 16 - a = (15 - a) + 1 from by omega, nxF, if_pos h]
theorem nx_2 {b l : List UInt8} {a d p : Nat} (ha : a ≤ 15) (h : ¬ (symsT l a).length + cnt l a = (symsL l).length) (h2 : tkE b p 1 ≠ 0) : nxF b l (16 - a) a d p = (0, 0, 10) := by
  rw [show 16 - a = (15 - a) + 1 from by omega, nxF, if_neg h, if_pos h2]
theorem nx_3 {b l : List UInt8} {a d p : Nat} (ha : a ≤ 15) (h : ¬ (symsT l a).length + cnt l a = (symsL l).length) (h2 : tkE b p 1 = 0) (h3 : 2 * (d - cnt l a) + tkV b p 1 < cnt l (a + 1)) : nxF b l (16 - a) a d p = ((symsL l).getD ((symsT l a).length + cnt l a + (2 * (d - cnt l a) + tkV b p 1)) default, p + 1, 0) := by
  rw [show 16 - a = (15 - a) + 1 from by omega, nxF, if_neg h, if_neg (by omega), if_pos h3]
theorem nx_4 {b l : List UInt8} {a d p : Nat} (ha : a ≤ 15) (h : ¬ (symsT l a).length + cnt l a = (symsL l).length) (h2 : tkE b p 1 = 0) (h3 : ¬ 2 * (d - cnt l a) + tkV b p 1 < cnt l (a + 1)) : nxF b l (16 - a) a d p = nxF b l (16 - (a + 1)) (a + 1) (2 * (d - cnt l a) + tkV b p 1) (p + 1) := by
  rw [show 16 - a = (15 - a) + 1 from by omega, nxF, if_neg h, if_neg (by omega), if_neg h3, show 15 - a = 16 - (a + 1) from by omega]
def nxD (r : Nat × Nat × Nat) : D := .tup [nD r.1, nD r.2.1, nD r.2.2]
theorem symsT_pl {l : List UInt8} {a : Nat} (h : a ≤ 15) : (symsT l a).length + cnt l a ≤ (symsL l).length ∧ (symsT l (a + 1)).length = (symsT l a).length + cnt l a ∧ (a = 15 → (symsT l a).length + cnt l a = (symsL l).length) := by
  have e : (symsT l (a + 1)).length = (symsT l a).length + cnt l a := by rw [symsT_succ, List.length_append, posL_len]
  obtain ⟨r, hr⟩ := symsT_16 (l := l) h
  have h2 := congrArg List.length hr
  rw [List.length_append, List.length_append, posL_len] at h2
  refine ⟨by omega, e, fun q => ?_⟩
  subst q
  rw [symsL_eq, e]
theorem get16z (f : Nat → Nat) {r : List D} (n : Nat) (h : n < 16) : (c16 f ++ r)[0 + n * 1]? = some (nD (f n)) := by rw [Nat.mul_one, Nat.zero_add]; exact get16 f r n h
theorem get16n (f : Nat → Nat) {r : List D} (a : Nat) (h : a + 1 < 16) : (c16 f ++ r)[0 + Int.toNat ((a : Int) + 1) * 1]? = some (nD (f (a + 1))) := by
  rw [show 0 + Int.toNat ((a : Int) + 1) * 1 = a + 1 from by omega]; exact get16 f r (a + 1) h
theorem nx_p {b l : List UInt8} {p x y z : Nat} (h : nxR b l p = (x, y, z)) : nD x = nD (nxR b l p).1 ∧ nD y = nD (nxR b l p).2.1 ∧ nD z = nD (nxR b l p).2.2 := by rw [h]; exact ⟨rfl, rfl, rfl⟩
theorem nx_v {s : List Nat} {i : Nat} {j : Nat} (h : i = j) : D.v (.int .i64 ((s.getD i default : Nat) : Int)) = nD (s.getD j default) := by rw [h]
theorem tk1_lt (b : List UInt8) (p : Nat) : tkV b p 1 < 2 := tkV_lt b p 1
theorem Next_g (l : List UInt8) (m : Nat) (hm : m ≤ 15) (h : canE l m = 0) (q : Nat) (hq : q = (symsL l).length) (b : List UInt8) (n : Nat) (hn : n = b.length) (hN : n ≤ 1000000) (p : Nat) (hp : p ≤ 15000000) : SpecH false Try.prog 88 [treeD q l, .sl false n 1 (b.map dB), nD p] [] (nxD (nxR b l p)) [] := by
  have h0 := canE_0 h
  have h1 := canE_15 hm h
  have hQ := symsL_le l
  have hp := padL_len h0.1
  refine SpecH.run T_ok mixed Try.func88 rfl rfl rfl trivial rfl 1000 64 (fun R ok => (.s 10 (.call 36 false [] (true) wr ([D.agg [nD (cnt l 0), nD (cnt l 1), nD (cnt l 2), nD (cnt l 3), nD (cnt l 4), nD (cnt l 5), nD (cnt l 6), nD (cnt l 7), nD (cnt l 8), nD (cnt l 9), nD (cnt l 10), nD (cnt l 11), nD (cnt l 12), nD (cnt l 13), nD (cnt l 14), nD (cnt l 15), D.sl false q 1 (List.map nD (symsL l))]]) _ (by exact (And.intro (D.sim.refl _) trivial)) (true) wr _ _ _ (CallOk.fn (FnOk.of Try.func36 rfl rfl) (@chk_g (l) (m) asm om (q) om)) (.s 18 (Hn.inl T_ok mixed false 47 0 (loopAt Try.prog 88 0) (fun (x : (a : Nat) ×' (ha : a ≤ 15) ×' (d : Nat) ×' (hd : cnt l a ≤ d) ×' (fi : Nat) ×' (hb : fi + d + 1 ≤ 2 ^ a) ×' (c : Nat) ×' (hc : c ≤ p + a) ×' (hR : nxF b l (16 - a) a d c = nxR b l p) ×' Unit) => match x with | ⟨a, ha, d, hd, fi, hb, c, hc, hR, _⟩ => CutS.mk [(1, D.sl false n 1 (List.map dB b)), (2, nD c), (3, D.ptr 0 0 0), (10, D.ptr 8 8 0)] [⟨0, 0, 0, 0, .b ⟨[nD (cnt l 0), nD (cnt l 1), nD (cnt l 2), nD (cnt l 3), nD (cnt l 4), nD (cnt l 5), nD (cnt l 6), nD (cnt l 7), nD (cnt l 8), nD (cnt l 9), nD (cnt l 10), nD (cnt l 11), nD (cnt l 12), nD (cnt l 13), nD (cnt l 14), nD (cnt l 15), D.sl false q 1 (List.map nD (symsL l))], 26, false⟩⟩, ⟨8, 8, 104, 104, .c ⟨c16 (cnt l) ++ [.sl false q 1 ((symsL l).map nD), nD a, nD (fi + d), nD fi, nD (symsT l a).length], 196, false⟩⟩] 16) (fun (x : (a : Nat) ×' (ha : a ≤ 15) ×' (d : Nat) ×' (hd : cnt l a ≤ d) ×' (fi : Nat) ×' (hb : fi + d + 1 ≤ 2 ^ a) ×' (c : Nat) ×' (hc : c ≤ p + a) ×' (hR : nxF b l (16 - a) a d c = nxR b l p) ×' Unit) => match x with | ⟨a, ha, d, hd, fi, hb, c, hc, hR, _⟩ => 16 - a) [⟨Unit, .ret, fun x => match x with | () => CutS.mk [(6, nD (nxR b l p).1), (7, nD (nxR b l p).2.1), (8, nD (nxR b l p).2.2)] [⟨0, 0, 0, 0, .b ⟨[nD (cnt l 0), nD (cnt l 1), nD (cnt l 2), nD (cnt l 3), nD (cnt l 4), nD (cnt l 5), nD (cnt l 6), nD (cnt l 7), nD (cnt l 8), nD (cnt l 9), nD (cnt l 10), nD (cnt l 11), nD (cnt l 12), nD (cnt l 13), nD (cnt l 14), nD (cnt l 15), D.sl false q 1 (List.map nD (symsL l))], 26, false⟩⟩] 16⟩] 1000 64 (fun | ⟨a, ha, d, hd, fi, hb, c, hc, hR, _⟩, Q, next1, last1 => (.s 30 (.chk (true && decide ((↑a : Int) < (↑16 : Int))) zj4 (.s 3 (.opt ((c16 (cnt l) ++ [D.sl false q 1 (List.map nD (symsL l)), nD a, nD (fi + d), nD fi, nD (List.length (symsT l a))])[0 + a * 1]?) (nD (cnt l a)) (@get16z (cnt l) ([D.sl false q 1 (List.map nD (symsL l)), nD a, nD (fi + d), nD fi, nD (List.length (symsT l a))]) (a) om) (.s 2 (.op ((↑(List.length (symsT l a)) : Int) + (↑(cnt l a) : Int)) zj0 (.s 15 (.br ((↑(List.length (symsT l a)) : Int) + (↑(cnt l a) : Int) == (↑q : Int)) (fun p0 => have p0f := eq_of_beq p0; (.s 3 (.val 6 (iD 0) (nD (Prod.fst (nxR b l p))) (by ( have h9 := symsT_pl (l := l) (a := a) om; have h8 := tk1_lt b c; have h7 := cnt_le l a; have h6 := cnt_le l (a + 1); have h5 := symsL_le l; have h4 := Nat.pow_succ 2 a; have h3 : 2 ^ a ≤ 2 ^ 15 := Nat.pow_le_pow_right (by decide) om; exact (nx_p (hR.symm.trans (nx_1 om om))).1)) (.val 7 (iD 0) (nD (Prod.fst (Prod.snd (nxR b l p)))) (by ( have h9 := symsT_pl (l := l) (a := a) om; have h8 := tk1_lt b c; have h7 := cnt_le l a; have h6 := cnt_le l (a + 1); have h5 := symsL_le l; have h4 := Nat.pow_succ 2 a; have h3 : 2 ^ a ≤ 2 ^ 15 := Nat.pow_le_pow_right (by decide) om; exact (nx_p (hR.symm.trans (nx_1 om om))).2.1)) (.val 8 (iD 50) (nD (Prod.snd (Prod.snd (nxR b l p)))) (by ( have h9 := symsT_pl (l := l) (a := a) om; have h8 := tk1_lt b c; have h7 := cnt_le l a; have h6 := cnt_le l (a + 1); have h5 := symsL_le l; have h4 := Nat.pow_succ 2 a; have h3 : 2 ^ a ≤ 2 ^ 15 := Nat.pow_le_pow_right (by decide) om; exact (nx_p (hR.symm.trans (nx_1 om om))).2.2)) (Hn.last last1 0 (() : Unit) rfl [(0, 0)] ro)))))) (fun p0 => have p0f := of_beq_f p0; (.s 3 (.cl 78 false [] (.fn q78 (@Take_i (b) (n) om om ((↑c : Int)) (1) om om)) (.s 10 (.br ((↑(tkE b c 1) : Int) != 0) (fun p1 => have p1f := of_bne_t p1; (.s 3 (.val 6 (iD 0) (nD (Prod.fst (nxR b l p))) (by ( have h9 := symsT_pl (l := l) (a := a) om; have h8 := tk1_lt b c; have h7 := cnt_le l a; have h6 := cnt_le l (a + 1); have h5 := symsL_le l; have h4 := Nat.pow_succ 2 a; have h3 : 2 ^ a ≤ 2 ^ 15 := Nat.pow_le_pow_right (by decide) om; exact (nx_p (hR.symm.trans (nx_2 om om om))).1)) (.val 7 (iD 0) (nD (Prod.fst (Prod.snd (nxR b l p)))) (by ( have h9 := symsT_pl (l := l) (a := a) om; have h8 := tk1_lt b c; have h7 := cnt_le l a; have h6 := cnt_le l (a + 1); have h5 := symsL_le l; have h4 := Nat.pow_succ 2 a; have h3 : 2 ^ a ≤ 2 ^ 15 := Nat.pow_le_pow_right (by decide) om; exact (nx_p (hR.symm.trans (nx_2 om om om))).2.1)) (.val 8 (iD 10) (nD (Prod.snd (Prod.snd (nxR b l p)))) (by ( have h9 := symsT_pl (l := l) (a := a) om; have h8 := tk1_lt b c; have h7 := cnt_le l a; have h6 := cnt_le l (a + 1); have h5 := symsL_le l; have h4 := Nat.pow_succ 2 a; have h3 : 2 ^ a ≤ 2 ^ 15 := Nat.pow_le_pow_right (by decide) om; exact (nx_p (hR.symm.trans (nx_2 om om om))).2.2)) (Hn.last last1 0 (() : Unit) rfl [(0, 0)] ro)))))) (fun p1 => have p1f := of_bne_f p1; (.s 3 (.ow ((↑c : Int) + 1) (.s 33 (.chk (true && decide ((↑a : Int) < (↑16 : Int))) zj4 (.s 3 (.opt ((c16 (cnt l) ++ [D.sl false q 1 (List.map nD (symsL l)), nD a, nD (fi + d), nD fi, nD (List.length (symsT l a))])[0 + a * 1]?) (nD (cnt l a)) (@get16z (cnt l) ([D.sl false q 1 (List.map nD (symsL l)), nD a, nD (fi + d), nD fi, nD (List.length (symsT l a))]) (a) om) (.s 2 (.op ((↑fi : Int) + (↑(cnt l a) : Int)) zj0 (.s 2 (.op (((↑fi : Int) + (↑(cnt l a) : Int)) * 2) zj0 (.s 33 (.chk (true && decide ((↑a : Int) < (↑16 : Int))) zj4 (.s 3 (.opt ((c16 (cnt l) ++ [D.sl false q 1 (List.map nD (symsL l)), nD a, nD (fi + d), iD (((↑fi : Int) + (↑(cnt l a) : Int)) * 2), nD (List.length (symsT l a))])[0 + a * 1]?) (nD (cnt l a)) (@get16z (cnt l) ([D.sl false q 1 (List.map nD (symsL l)), nD a, nD (fi + d), iD (((↑fi : Int) + (↑(cnt l a) : Int)) * 2), nD (List.length (symsT l a))]) (a) om) (.s 2 (.op ((↑(List.length (symsT l a)) : Int) + (↑(cnt l a) : Int)) zj0 (.s 18 (.op ((↑(fi + d) : Int) * 2) zj0 (.s 2 (.op (↑(tkV b c 1) : Int) zj0 (.s 2 (.op ((↑(fi + d) : Int) * 2 + (↑(tkV b c 1) : Int)) zj0 (.s 17 (.ow ((↑a : Int) + 1) (.s 26 (.op ((↑(fi + d) : Int) * 2 + (↑(tkV b c 1) : Int) - ((↑fi : Int) + (↑(cnt l a) : Int)) * 2) zj0 (.s 20 (.chk (true && decide ((↑a : Int) + 1 < (↑16 : Int))) (by (refine decide_eq_true ?_;  have h9 := symsT_pl (l := l) (a := a) om; have h8 := tk1_lt b c; have h7 := cnt_le l a; have h6 := cnt_le l (a + 1); have h5 := symsL_le l; have h4 := Nat.pow_succ 2 a; have h3 : 2 ^ a ≤ 2 ^ 15 := Nat.pow_le_pow_right (by decide) om; omega)) (.s 3 (.opt ((c16 (cnt l) ++ [D.sl false q 1 (List.map nD (symsL l)), iD ((↑a : Int) + 1), iD ((↑(fi + d) : Int) * 2 + (↑(tkV b c 1) : Int)), iD (((↑fi : Int) + (↑(cnt l a) : Int)) * 2), iD ((↑(List.length (symsT l a)) : Int) + (↑(cnt l a) : Int))])[0 + Int.toNat ((↑a : Int) + 1) * 1]?) (nD (cnt l (a + 1))) (@get16n (cnt l) ([D.sl false q 1 (List.map nD (symsL l)), iD ((↑a : Int) + 1), iD ((↑(fi + d) : Int) * 2 + (↑(tkV b c 1) : Int)), iD (((↑fi : Int) + (↑(cnt l a) : Int)) * 2), iD ((↑(List.length (symsT l a)) : Int) + (↑(cnt l a) : Int))]) (a) zj0) (.s 2 (.br (decide ((↑(fi + d) : Int) * 2 + (↑(tkV b c 1) : Int) - ((↑fi : Int) + (↑(cnt l a) : Int)) * 2 < (↑(cnt l (a + 1)) : Int))) (fun p2 => have p2f := odt p2; (.s 11 (.op ((↑(List.length (symsT l a)) : Int) + (↑(cnt l a) : Int) + ((↑(fi + d) : Int) * 2 + (↑(tkV b c 1) : Int) - ((↑fi : Int) + (↑(cnt l a) : Int)) * 2)) zj0 (.s 5 (.t (decide (0 ≤ (↑(List.length (symsT l a)) : Int) + (↑(cnt l a) : Int) + ((↑(fi + d) : Int) * 2 + (↑(tkV b c 1) : Int) - ((↑fi : Int) + (↑(cnt l a) : Int)) * 2))) zj4 (.s 8 (.chk (decide (0 ≤ (↑(List.length (symsT l a)) : Int) + (↑(cnt l a) : Int) + ((↑(fi + d) : Int) * 2 + (↑(tkV b c 1) : Int) - ((↑fi : Int) + (↑(cnt l a) : Int)) * 2)) && decide ((↑(List.length (symsT l a)) : Int) + (↑(cnt l a) : Int) + ((↑(fi + d) : Int) * 2 + (↑(tkV b c 1) : Int) - ((↑fi : Int) + (↑(cnt l a) : Int)) * 2) < (↑q : Int)) && true) (by ((refine and_tI ?_ ?_) <;> (repeat' (first | (refine and_tI ?_ ?_) | (with_reducible rfl) | (refine decide_eq_true ?_) | (refine Nat.ble_eq_true_of_le ?_) | (refine nbeq ?_))) <;> ( have h9 := symsT_pl (l := l) (a := a) om; have h8 := tk1_lt b c; have h7 := cnt_le l a; have h6 := cnt_le l (a + 1); have h5 := symsL_le l; have h4 := Nat.pow_succ 2 a; have h3 : 2 ^ a ≤ 2 ^ 15 := Nat.pow_le_pow_right (by decide) om; have h2 := symsT_pl (l := l) (a := a + 1) om; omega))) (.s 2 (.opt ((List.map nD (symsL l))[Int.toNat ((↑(List.length (symsT l a)) : Int) + (↑(cnt l a) : Int) + ((↑(fi + d) : Int) * 2 + (↑(tkV b c 1) : Int) - ((↑fi : Int) + (↑(cnt l a) : Int)) * 2)) * 1]?) (nD (List.getD (symsL l) (Int.toNat ((↑(List.length (symsT l a)) : Int) + (↑(cnt l a) : Int) + ((↑(fi + d) : Int) * 2 + (↑(tkV b c 1) : Int) - ((↑fi : Int) + (↑(cnt l a) : Int)) * 2)) * 1) default)) (map_get _ _ (by ( have h9 := symsT_pl (l := l) (a := a) om; have h8 := tk1_lt b c; have h7 := cnt_le l a; have h6 := cnt_le l (a + 1); have h5 := symsL_le l; have h4 := Nat.pow_succ 2 a; have h3 : 2 ^ a ≤ 2 ^ 15 := Nat.pow_le_pow_right (by decide) om; have h2 := symsT_pl (l := l) (a := a + 1) om; omega))) (.s 4 (.val 6 (nD (List.getD (symsL l) (Int.toNat ((↑(List.length (symsT l a)) : Int) + (↑(cnt l a) : Int) + ((↑(fi + d) : Int) * 2 + (↑(tkV b c 1) : Int) - ((↑fi : Int) + (↑(cnt l a) : Int)) * 2)) * 1) default)) (nD (Prod.fst (nxR b l p))) (by ( have h9 := symsT_pl (l := l) (a := a) om; have h8 := tk1_lt b c; have h7 := cnt_le l a; have h6 := cnt_le l (a + 1); have h5 := symsL_le l; have h4 := Nat.pow_succ 2 a; have h3 : 2 ^ a ≤ 2 ^ 15 := Nat.pow_le_pow_right (by decide) om; refine Eq.trans (nx_v (j := (symsT l a).length + cnt l a + (2 * (d - cnt l a) + tkV b c 1)) ?_) (nx_p (hR.symm.trans (nx_3 om om om om))).1; omega)) (.val 7 (iD ((↑c : Int) + 1)) (nD (Prod.fst (Prod.snd (nxR b l p)))) (by ( have h9 := symsT_pl (l := l) (a := a) om; have h8 := tk1_lt b c; have h7 := cnt_le l a; have h6 := cnt_le l (a + 1); have h5 := symsL_le l; have h4 := Nat.pow_succ 2 a; have h3 : 2 ^ a ≤ 2 ^ 15 := Nat.pow_le_pow_right (by decide) om; exact (nx_p (hR.symm.trans (nx_3 om om om om))).2.1)) (.val 8 (iD 0) (nD (Prod.snd (Prod.snd (nxR b l p)))) (by ( have h9 := symsT_pl (l := l) (a := a) om; have h8 := tk1_lt b c; have h7 := cnt_le l a; have h6 := cnt_le l (a + 1); have h5 := symsL_le l; have h4 := Nat.pow_succ 2 a; have h3 : 2 ^ a ≤ 2 ^ 15 := Nat.pow_le_pow_right (by decide) om; exact (nx_p (hR.symm.trans (nx_3 om om om om))).2.2)) (Hn.last last1 0 (() : Unit) rfl [(0, 0)] ro)))))))))))))) (fun p2 => have p2f := odf p2; (.s 6 (.val 2 (iD ((↑c : Int) + 1)) (nD (c + 1)) (by ( have h9 := symsT_pl (l := l) (a := a) om; have h8 := tk1_lt b c; have h7 := cnt_le l a; have h6 := cnt_le l (a + 1); have h5 := symsL_le l; have h4 := Nat.pow_succ 2 a; have h3 : 2 ^ a ≤ 2 ^ 15 := Nat.pow_le_pow_right (by decide) om; refine iv_eq ?_; omega)) (.blk 8 8 (Blk.mk [nD (cnt l 0), nD (cnt l 1), nD (cnt l 2), nD (cnt l 3), nD (cnt l 4), nD (cnt l 5), nD (cnt l 6), nD (cnt l 7), nD (cnt l 8), nD (cnt l 9), nD (cnt l 10), nD (cnt l 11), nD (cnt l 12), nD (cnt l 13), nD (cnt l 14), nD (cnt l 15), D.sl false q 1 (List.map nD (symsL l)), iD ((↑a : Int) + 1), iD ((↑(fi + d) : Int) * 2 + (↑(tkV b c 1) : Int)), iD (((↑fi : Int) + (↑(cnt l a) : Int)) * 2), iD ((↑(List.length (symsT l a)) : Int) + (↑(cnt l a) : Int))] 196 false) (Blk.mk [nD (cnt l 0), nD (cnt l 1), nD (cnt l 2), nD (cnt l 3), nD (cnt l 4), nD (cnt l 5), nD (cnt l 6), nD (cnt l 7), nD (cnt l 8), nD (cnt l 9), nD (cnt l 10), nD (cnt l 11), nD (cnt l 12), nD (cnt l 13), nD (cnt l 14), nD (cnt l 15), D.sl false q 1 (List.map nD (symsL l)), nD (a + 1), nD (2 * (fi + cnt l a) + (2 * (d - cnt l a) + tkV b c 1)), nD (2 * (fi + cnt l a)), nD (List.length (symsT l (a + 1)))] 196 false) (by (simp;  have h9 := symsT_pl (l := l) (a := a) om; have h8 := tk1_lt b c; have h7 := cnt_le l a; have h6 := cnt_le l (a + 1); have h5 := symsL_le l; have h4 := Nat.pow_succ 2 a; have h3 : 2 ^ a ≤ 2 ^ 15 := Nat.pow_le_pow_right (by decide) om; omega)) (Hn.next next1 ⟨(a + 1), zj0, (2 * (d - cnt l a) + tkV b c 1), om, (2 * (fi + cnt l a)), zj0, (c + 1), om, (by ( have h9 := symsT_pl (l := l) (a := a) om; have h8 := tk1_lt b c; have h7 := cnt_le l a; have h6 := cnt_le l (a + 1); have h5 := symsL_le l; have h4 := Nat.pow_succ 2 a; have h3 : 2 ^ a ≤ 2 ^ 15 := Nat.pow_le_pow_right (by decide) om; exact (nx_4 om om om om).symm.trans hR)), ⟨⟩⟩ zj6 [(0, 0), (8, 8)] ro)))))))))))))))))))))))))))))))))))))))))))))))))))) (fun | ⟨a, ha, d, hd, fi, hb, c, hc, hR, _⟩ => by kernel_rfl) ⟨(0), om, (0), (by (exact Nat.le_of_eq (cnt_0 l))), (0), om, (p), om, (by (exact (nxR_eq b l p).symm)), ⟨⟩⟩ [(0, 0), (104, 104)] ro (hs1 (fun | () => (.out [] [] (D.tup [nD (Prod.fst (nxR b l p)), nD (Prod.fst (Prod.snd (nxR b l p))), nD (Prod.snd (Prod.snd (nxR b l p)))]) [] R (ok _ _ (by exact rfl) wr))))))))) (by kernel_rfl)
end Vp
end Go.Proofs.Ytegjeagfcfhbeaa
namespace Go.Proofs.Ytegjeagfcfhbeaa
open Go.RowKit Go.Bw Go.Vx
namespace Vp
set_option linter.unusedVariables false
set_option linter.unusedSimpArgs false
set_option maxRecDepth 100000
set_option maxHeartbeats 4000000
theorem zdx0 {p : Prop} (h : p := by ( have q := v_lt hb om; have q2 := tk1_lt b c; refine iv_eq ?_; omega)) : p := h
theorem zdx1 {p : Prop} (h : p := by ( have h9 := rdP (l := l) (i := i) ho om; have h8 := h9.s; have h7 := h9.c; have h6 := h9.x; have h5 := h9.y; have h4 := v_lt hb om; intro j hj; rcases Nat.lt_or_ge j i with q | q; exact hno j q; (have e : j = i := by omega); subst e; intro z; omega)) : p := h
theorem zdx2 {p : Prop} (h : p := by show n - (i + 1) < n - i; clear next2 last2 next1 last1; omega) : p := h
theorem zdx3 {p : Prop} (h : p := by ( have h9 := rdP (l := l) (i := i) ho om; have h8 := h9.s; have h7 := h9.c; have h6 := h9.x; have h5 := h9.y; have h4 := v_lt hb om; omega)) : p := h
theorem zdx4 {p : Prop} (h : p := by (refine decide_eq_true ?_; (omega))) : p := h
theorem zdx5 {p : Prop} (h : p := by ( have h9 := rdP (l := l) (i := i) ho om; have h8 := h9.s; have h7 := h9.c; have h6 := h9.x; have h5 := h9.y; have h4 := v_lt hb om; have q := rd_y om hv hR (i := i) om om om om; rw [q] <;> rfl)) : p := h
theorem zdx6 {p : Prop} (h : p := by ( rw [rdE_50 hT hn ha hv hb hno2 hR asm] <;> rfl)) : p := h
theorem zdx7 {p : Prop} (h : p := by ( rw [rdE_10 hT hn ha hv hb hno2 hR asm om] <;> rfl)) : p := h
theorem zdx8 {p : Prop} (h : p := by ( have h9 := rdP (l := l) (i := i) ho om; have h8 := h9.s; have h7 := h9.c; have h6 := h9.x; have h5 := h9.y; have h4 := v_lt hb om; rw [mr_s0 om])) : p := h
theorem zdx9 {p : Prop} (h : p := by ( have h9 := rdP (l := l) (i := i) ho om; have h8 := h9.s; have h7 := h9.c; have h6 := h9.x; have h5 := h9.y; have h4 := v_lt hb om; exact bv_eq ((mr_s0 om).trans asm).symm)) : p := h
theorem posT_pre (l : List UInt8) (n : Nat) : ∀ (k j : Nat), ∃ r, posT l n (k + j) = posT l n k ++ r
  | k, 0 => ⟨[], by simp⟩
  | k, j + 1 => by
    obtain ⟨r, hr⟩ := posT_pre l n k j
    exact ⟨r ++ (if (l.getD (k + j) default).toNat = n then [k + j] else []), by rw [← Nat.add_assoc, posT_succ, hr, List.append_assoc]⟩
theorem posT_at {l : List UInt8} {n N i : Nat} (hi : i < N) (h : (l.getD i default).toNat = n) : (posT l n N)[(posT l n i).length]? = some i := by
  obtain ⟨r, hr⟩ := posT_pre l n (i + 1) (N - (i + 1))
  rw [show i + 1 + (N - (i + 1)) = N from by omega, posT_succ, if_pos h, List.append_assoc] at hr
  rw [hr, List.getElem?_append_right (Nat.le_refl _), Nat.sub_self]; rfl
theorem posT_ge {l : List UInt8} {n N k : Nat} (h : k < (posT l n N).length) : ∃ i, (posT l n N)[k]? = some i ∧ i < N ∧ (l.getD i default).toNat = n ∧ (posT l n i).length = k := by
  refine ⟨(posT l n N)[k], List.getElem?_eq_getElem h, ?_⟩
  have hm := posT_mem.1 (List.getElem_mem h)
  refine ⟨hm.1, hm.2, ?_⟩
  have h2 := posT_at hm.1 hm.2
  obtain ⟨h3, h4⟩ := List.getElem?_eq_some_iff.1 h2
  have hs := posT_sorted l n N
  rcases Nat.lt_trichotomy (posT l n (posT l n N)[k]).length k with q | q | q
  · have := List.pairwise_iff_getElem.1 hs _ _ h3 h q; omega
  · exact q
  · have := List.pairwise_iff_getElem.1 hs _ _ h h3 q; omega
def frC (l : List UInt8) : Nat → Nat
  | 0 => 0
  | a + 1 => 2 * (frC l a + cnt l a)
theorem cnt_pos {l : List UInt8} {a : Nat} (h : a ≠ 0) : (posT l a l.length).length = cnt l a := by rw [cnt_eq]; unfold cntD; rw [if_neg h]
theorem half_two {a : Nat} (h : a < 15) : halfN 32768 a = 2 * halfN 32768 (a + 1) := by
  rw [half_part (by omega), half_part (by omega), show 15 - a = (15 - (a + 1)) + 1 from by omega, Nat.pow_succ, Nat.mul_comm]
theorem atL_fr (l : List UInt8) : ∀ a, a ≤ 15 → atL l (a + 1) = (frC l a + cnt l a) * halfN 32768 a
  | 0, _ => by rw [atL, if_pos rfl, cnt_0]; show 0 + 0 = (0 + 0) * _; omega
  | a + 1, h => by
    have ih := atL_fr l a (by omega)
    rw [atL, if_neg (Nat.succ_ne_zero a), ih, cnt_pos (Nat.succ_ne_zero a), frC, half_two (by omega)]
    generalize halfN 32768 (a + 1) = P
    generalize frC l a + cnt l a = X
    rw [Nat.add_mul (2 * X), Nat.mul_assoc 2 X P, Nat.mul_left_comm X 2 P]
theorem atL_at {l : List UInt8} {a : Nat} (h0 : a ≠ 0) (h : a ≤ 15) : atL l a = frC l a * halfN 32768 a := by
  obtain ⟨b, rfl⟩ : ∃ b, a = b + 1 := ⟨a - 1, by omega⟩
  rw [atL_fr l b (by omega), frC, half_two (by omega)]
  rw [Nat.mul_comm 2 (frC l b + cnt l b), Nat.mul_assoc]
theorem atL_mono (l : List UInt8) (a : Nat) : ∀ k, atL l a ≤ atL l (a + k)
  | 0 => Nat.le_refl _
  | k + 1 => Nat.le_trans (atL_mono l a k) (by rw [← Nat.add_assoc, atL]; exact Nat.le_add_right _ _)
theorem cd_at {l : List UInt8} {i a : Nat} (h : (l.getD i default).toNat = a) (h0 : a ≠ 0) (h1 : a ≤ 15) : cdF l i = frC l a + (posT l a i).length := by
  unfold cdF
  rw [h, atK_eq, if_neg h0, atL_at h0 h1, ← Nat.add_mul, Nat.mul_div_cancel _ (half_pos h1)]
def lvS (l : List UInt8) (k : Nat) : Nat → Nat
  | 0 => 0
  | a + 1 => lvS l k a + (if a = 0 then 0 else (posT l a k).length * halfN 32768 a)
theorem lvS_at (l : List UInt8) : ∀ a, lvS l l.length a = atL l a
  | 0 => rfl
  | a + 1 => by rw [lvS, atL, lvS_at l a]
theorem lvS_zero (l : List UInt8) : ∀ a, lvS l 0 a = 0
  | 0 => rfl
  | a + 1 => by
    have : posT l a 0 = [] := rfl
    rw [lvS, lvS_zero l a, this, List.length_nil, Nat.zero_mul]; split <;> rfl
theorem lvS_succ (l : List UInt8) (k : Nat) : ∀ a, lvS l (k + 1) a = lvS l k a + (if (l.getD k default).toNat ≠ 0 ∧ (l.getD k default).toNat < a then halfN 32768 (l.getD k default).toNat else 0)
  | 0 => by rw [lvS, lvS, if_neg (fun q => Nat.not_lt_zero _ q.2)]
  | a + 1 => by
    rw [lvS, lvS, lvS_succ l k a, posT_succ]
    generalize (l.getD k default).toNat = x
    by_cases h0 : a = 0
    · rw [if_pos h0, if_pos h0, if_neg (fun q => by omega), if_neg (fun q => by omega)]
    · rw [if_neg h0, if_neg h0]
      by_cases h : x = a
      · subst h
        rw [if_pos rfl, if_neg (fun q => by omega), if_pos ⟨h0, by omega⟩, List.length_append, List.length_singleton, Nat.succ_mul]; omega
      · rw [if_neg h, List.append_nil]
        by_cases h2 : x ≠ 0 ∧ x < a
        · rw [if_pos h2, if_pos (by omega)]; omega
        · rw [if_neg h2, if_neg (by omega)]; omega
theorem at_kr (l : List UInt8) (ho : overB l 15 = false) : atL l 16 = kraft l := by
  have key : ∀ k, k ≤ l.length → lvS l k 16 = kraft (l.take k) := by
    intro k
    induction k with
    | zero => intro _; exact lvS_zero l 16
    | succ k ih =>
      intro hk
      have hx := over_le ho (i := k) (by omega)
      rw [lvS_succ, ih (by omega), kraft_snoc (by omega)]
      by_cases q : (l.getD k default).toNat = 0
      · rw [if_neg (fun z => z.1 q), if_pos q]
      · rw [if_pos ⟨q, by omega⟩, if_neg q, half_part hx]
  have h := key l.length (Nat.le_refl _)
  rw [List.take_length, lvS_at] at h; exact h
theorem at_lev {l : List UInt8} {x : Nat} : ∀ a, x < atL l a → ∃ b, b < a ∧ atL l b ≤ x ∧ x < atL l (b + 1)
  | 0, h => absurd h (Nat.not_lt_zero _)
  | a + 1, h => by
    rcases Nat.lt_or_ge x (atL l a) with q | q
    · obtain ⟨b, h1, h2⟩ := at_lev a q
      exact ⟨b, by omega, h2⟩
    · exact ⟨a, by omega, q, h⟩
theorem pow_half {n a : Nat} (h : n ≤ a) (ha : a ≤ 15) : halfN 32768 n = 2 ^ (a - n) * halfN 32768 a := by
  rw [half_part (by omega), half_part ha, ← Nat.pow_add, show a - n + (15 - a) = 15 - n from by omega]
theorem more_of {l : List UInt8} (ho : overB l 15 = false) {n v : Nat} (hn : n ≤ 15) (hv : frC l n + cnt l n ≤ v) (hk : v * halfN 32768 n < kraft l) : ∃ i, i < l.length ∧ n < (l.getD i default).toNat ∧ cdF l i / 2 ^ ((l.getD i default).toNat - n) = v := by
  rw [← at_kr l ho] at hk
  obtain ⟨a, h1, h2, h3⟩ := at_lev 16 hk
  have hna : n < a := by
    rcases Nat.lt_or_ge n a with q | q
    · exact q
    · exfalso
      have h4 := atL_mono l (a + 1) (n - a)
      rw [show a + 1 + (n - a) = n + 1 from by omega, atL_fr l n hn] at h4
      have h5 : (frC l n + cnt l n) * halfN 32768 n ≤ v * halfN 32768 n := Nat.mul_le_mul_right _ hv
      omega
  have h0 : a ≠ 0 := by omega
  have ha : a ≤ 15 := by omega
  have hp := half_pos ha
  rw [pow_half (Nat.le_of_lt hna) ha, ← Nat.mul_assoc] at h2 h3
  rw [atL_at h0 ha] at h2
  rw [atL_fr l a ha] at h3
  have h4 := Nat.le_of_mul_le_mul_right h2 hp
  have h5 := Nat.lt_of_mul_lt_mul_right h3
  have h6 : v * 2 ^ (a - n) - frC l a < (posT l a l.length).length := by rw [cnt_pos h0]; omega
  obtain ⟨i, g1, g2, g3, g4⟩ := posT_ge h6
  refine ⟨i, g2, by omega, ?_⟩
  rw [g3, cd_at g3 h0 ha, g4, show frC l a + (v * 2 ^ (a - n) - frC l a) = v * 2 ^ (a - n) from by omega, Nat.mul_div_cancel _ (Nat.two_pow_pos _)]
theorem kr_zero : ∀ {l : List UInt8}, usedN l = 0 → kraft l = 0 ∧ ∀ i, i < l.length → (l.getD i default).toNat = 0
  | [], _ => ⟨rfl, fun i h => absurd h (Nat.not_lt_zero _)⟩
  | x :: r, h => by
    rw [usedN] at h
    have hx : x.toNat = 0 := by
      by_cases q : x.toNat = 0
      · exact q
      · rw [if_neg q] at h; omega
    rw [if_pos hx] at h
    obtain ⟨h1, h2⟩ := kr_zero (l := r) (by omega)
    refine ⟨by rw [kraft, if_pos hx, h1], fun i hi => ?_⟩
    cases i with
    | zero => exact hx
    | succ i => exact h2 i (by simpa using hi)
theorem kr_one : ∀ {l : List UInt8} {i : Nat}, usedN l = 1 → i < l.length → (l.getD i default).toNat ≠ 0 → kraft l = 2 ^ (15 - (l.getD i default).toNat)
  | [], i, _, h, _ => absurd h (Nat.not_lt_zero _)
  | x :: r, i, h, hi, h0 => by
    rw [usedN] at h
    by_cases q : x.toNat = 0
    · rw [if_pos q] at h
      cases i with
      | zero => exact absurd q h0
      | succ i =>
        have := kr_one (l := r) (i := i) (by omega) (by simpa using hi) h0
        rw [kraft, if_pos q, this, Nat.zero_add]; rfl
    · rw [if_neg q] at h
      obtain ⟨h1, h2⟩ := kr_zero (l := r) (by omega)
      cases i with
      | zero => rw [kraft, if_neg q, h1]; rfl
      | succ i => exact absurd (h2 i (by simpa using hi)) h0
theorem syms_at {l : List UInt8} {a d : Nat} (ha : a ≤ 15) (h : d < cnt l a) : (symsL l).getD ((symsT l a).length + d) default = (posL l a).getD d default := by
  obtain ⟨r, hr⟩ := symsT_16 (l := l) ha
  rw [hr, List.getD_eq_getElem?_getD, List.getD_eq_getElem?_getD, List.getElem?_append_right (by omega), Nat.add_sub_cancel_left, List.getElem?_append_left (by rw [posL_len]; exact h)]
theorem longer_iff {l : List UInt8} (ho : overB l 15 = false) {n : Nat} (hn : n ≤ 15) : (symsT l n).length + cnt l n ≠ (symsL l).length ↔ ∃ i, i < l.length ∧ n < (l.getD i default).toNat := by
  obtain ⟨r, hr⟩ := symsT_app l (n + 1) (16 - (n + 1))
  rw [show n + 1 + (16 - (n + 1)) = 16 from by omega, ← symsL_eq, symsT_succ] at hr
  have hl := congrArg List.length hr
  rw [List.length_append, List.length_append, posL_len] at hl
  constructor
  · intro h
    have hr0 : 0 < r.length := by omega
    have hall : ∀ k, ∀ x ∈ symsT l (n + 1 + k), x ∈ symsT l (n + 1) ∨ (x < l.length ∧ n < (l.getD x default).toNat) := by
      intro k
      induction k with
      | zero => exact fun x hx => .inl hx
      | succ k ih =>
        intro x hx
        rw [← Nat.add_assoc, symsT_succ, List.mem_append] at hx
        rcases hx with hx | hx
        · exact ih x hx
        · rw [posL_eq, if_neg (by omega)] at hx
          have := posT_mem.1 hx
          exact .inr ⟨this.1, by omega⟩
    apply Classical.byContradiction
    intro hno
    have hlen : ∀ k, (symsT l (n + 1 + k)).length = (symsT l (n + 1)).length := by
      intro k
      induction k with
      | zero => rfl
      | succ k ih =>
        rw [← Nat.add_assoc, symsT_succ, List.length_append, ih]
        have : posL l (n + 1 + k) = [] := by
          rw [List.eq_nil_iff_forall_not_mem]
          intro x hx
          rw [posL_eq, if_neg (by omega)] at hx
          have := posT_mem.1 hx
          exact hno ⟨x, this.1, by omega⟩
        rw [this]; rfl
    have h3 := hlen (16 - (n + 1))
    rw [show n + 1 + (16 - (n + 1)) = 16 from by omega, ← symsL_eq, symsT_succ, List.length_append, posL_len] at h3
    exact h h3.symm
  · rintro ⟨i, h1, h2⟩ h
    have hx := over_le ho h1
    generalize ha : (l.getD i default).toNat = a at *
    obtain ⟨r2, hr2⟩ := symsT_app l (n + 1) (a - (n + 1))
    rw [show n + 1 + (a - (n + 1)) = a from by omega] at hr2
    obtain ⟨r3, hr3⟩ := symsT_16 (l := l) (a := a) hx
    have h4 := congrArg List.length hr3
    rw [hr2, symsT_succ, List.length_append, List.length_append, List.length_append, List.length_append, posL_len, posL_len] at h4
    have h5 : 0 < cnt l a := by
      rw [← cnt_pos (by omega)]
      have : i ∈ posT l a l.length := posT_mem.2 ⟨h1, ha⟩
      exact List.length_pos_of_mem this
    omega
def hdX (b l : List UInt8) (n d c : Nat) : Nat × Nat × Nat := lk b (if d < cnt l n then ((symsL l).getD ((symsT l n).length + d) default, c, 0) else nxF b l (16 - n) n d c)
theorem hdX_eq (b l : List UInt8) (n d c : Nat) : hdX b l n d c = if d < cnt l n then ((symsL l).getD ((symsT l n).length + d) default, c, 0) else nxF b l (16 - n) n d c := lk_eq _ _
theorem hdX_0 (b l : List UInt8) (p : Nat) : hdX b l 0 0 p = nxR b l p := by rw [hdX_eq, cnt_0, if_neg (Nat.lt_irrefl 0), nxR_eq]
section
variable {b l : List UInt8} {n d c v : Nat} {R : Nat × Nat × Nat}
theorem rd_y (hn : n ≤ 15) (hv : v = frC l n + d) (hR : hdX b l n d c = R) {i : Nat} (hi : i < l.length) (h : (l.getD i default).toNat = n) (h0 : 0 < n) (hc : cdF l i = v) : R = (i, c, 0) := by
  rw [cd_at h (by omega) hn] at hc
  have hd : (posT l n i).length = d := by omega
  have h2 := posT_at hi h
  have h3 := (List.getElem?_eq_some_iff.1 h2).1
  rw [cnt_pos (by omega)] at h3
  rw [← hR, hdX_eq, if_pos (by omega), ← hd, syms_at hn h3, posL_eq, if_neg (by omega), List.getD_eq_getElem?_getD, h2]; rfl
theorem rd_n (hn : n ≤ 15) (hv : v = frC l n + d) (hno : ∀ i, i < l.length → ¬ ((l.getD i default).toNat = n ∧ cdF l i = v ∧ 0 < n)) : cnt l n ≤ d := by
  rcases Nat.lt_or_ge d (cnt l n) with q | q
  · exfalso
    have h0 : n ≠ 0 := fun e => by subst e; rw [cnt_0] at q; omega
    rw [← cnt_pos h0] at q
    obtain ⟨i, g1, g2, g3, g4⟩ := posT_ge q
    exact hno i g2 ⟨g3, by rw [cd_at g3 h0 hn, g4]; omega, by omega⟩
  · exact q
theorem rd_more (hT : canE l 15 = 0) (hn : n ≤ 15) (hv : v = frC l n + d) (hd : cnt l n ≤ d) (hb : v < 2 ^ n) : ((symsT l n).length + cnt l n ≠ (symsL l).length) ↔ ∃ i, i < l.length ∧ n < (l.getD i default).toNat ∧ cdF l i / 2 ^ ((l.getD i default).toNat - n) = v := by
  have ho := (canE_0 hT).2.1
  rw [longer_iff ho hn]
  constructor
  · rintro ⟨i, h1, h2⟩
    refine more_of ho hn (by omega) ?_
    have hk : kraft l = 32768 ∨ usedN l = 0 ∨ usedN l = 1 ∧ kraft l = 16384 := by
      have h := hT
      rw [canE_eq] at h; unfold canD at h
      split at h
      · cases h
      · split at h
        · cases h
        · split at h
          · cases h
          · split at h
            · assumption
            · cases h
    have hp := half_pos hn
    have hpw : 2 ^ n * halfN 32768 n = 32768 := by
      rw [half_part hn, ← Nat.pow_add, show n + (15 - n) = 15 from by omega]
    rcases hk with hk | hk | ⟨hk, hk2⟩
    · rw [hk]
      have := Nat.mul_lt_mul_of_pos_right hb hp
      omega
    · have := (kr_zero hk).2 i h1; omega
    · have h3 := kr_one hk h1 (by omega)
      have h4 := over_le ho h1
      rw [hk2] at h3
      have h5 : n = 0 := by
        rcases Nat.lt_or_ge (l.getD i default).toNat 2 with q | q
        · omega
        · exfalso
          have : 2 ^ (15 - (l.getD i default).toNat) ≤ 2 ^ 13 := Nat.pow_le_pow_right (by decide) (by omega)
          omega
      subst h5
      have : v = 0 := by have : (2 : Nat) ^ 0 = 1 := rfl; omega
      rw [this, Nat.zero_mul, hk2]; omega
  · rintro ⟨i, h1, h2, _⟩; exact ⟨i, h1, h2⟩
theorem rd_50 (hn : n ≤ 15) (hd : cnt l n ≤ d) (hR : hdX b l n d c = R) (h : (symsT l n).length + cnt l n = (symsL l).length) : R = (0, 0, 50) := by
  rw [← hR, hdX_eq, if_neg (by omega)]; exact nx_1 hn h
theorem rd_10 (hn : n ≤ 15) (hd : cnt l n ≤ d) (hR : hdX b l n d c = R) (h : (symsT l n).length + cnt l n ≠ (symsL l).length) (h2 : tkE b c 1 ≠ 0) : R = (0, 0, 10) := by
  rw [← hR, hdX_eq, if_neg (by omega)]; exact nx_2 hn h h2
theorem rd_go (hn : n ≤ 15) (hd : cnt l n ≤ d) (hR : hdX b l n d c = R) (h : (symsT l n).length + cnt l n ≠ (symsL l).length) (h2 : tkE b c 1 = 0) : n + 1 ≤ 15 ∧ hdX b l (n + 1) (2 * (d - cnt l n) + tkV b c 1) (c + 1) = R := by
  have h3 := symsT_pl (l := l) (a := n) hn
  have hn2 : n + 1 ≤ 15 := by
    rcases Nat.lt_or_ge n 15 with q | q
    · exact q
    · exact absurd (h3.2.2 (by omega)) h
  refine ⟨hn2, ?_⟩
  rw [← hR, hdX_eq, hdX_eq, if_neg (show ¬ d < cnt l n by omega)]
  by_cases q : 2 * (d - cnt l n) + tkV b c 1 < cnt l (n + 1)
  · rw [if_pos q, nx_3 hn h h2 q, h3.2.1]
  · rw [if_neg q, nx_4 hn h h2 q]
theorem rd_v (hv : v = frC l n + d) (hd : cnt l n ≤ d) : 2 * v + tkV b c 1 = frC l (n + 1) + (2 * (d - cnt l n) + tkV b c 1) := by
  rw [frC]; omega
end

theorem mdL_get {l : List UInt8} {i : Nat} (ho : overB l 15 = false) (hi : i < l.length) : (mdL l).getD i default = (if (l.getD i default).toNat = 0 then 0 else cdF l i, (l.getD i default).toNat) := by
  have hx := over_le ho hi
  rw [mdL_eq, md_eq, List.getD_eq_getElem?_getD, List.getElem?_map, List.getElem?_range hi]
  show mdF l 16 0 i = _
  unfold mdF
  by_cases h : (l.getD i default).toNat = 0
  · rw [if_neg (fun q => q.1 h), if_pos h, h]
  · rw [if_pos ⟨h, .inl (by omega)⟩, if_neg h]
def mrB (l : List UInt8) (a v i : Nat) : Bool := lk l ((List.range i).any fun j => decide (a < (l.getD j default).toNat) && decide (cdF l j / 2 ^ ((l.getD j default).toNat - a) = v))
theorem mrB_eq (l : List UInt8) (a v i : Nat) : mrB l a v i = (List.range i).any fun j => decide (a < (l.getD j default).toNat) && decide (cdF l j / 2 ^ ((l.getD j default).toNat - a) = v) := lk_eq _ _
theorem mrB_0 (l : List UInt8) (a v : Nat) : mrB l a v 0 = false := mrB_eq l a v 0
theorem mrB_s (l : List UInt8) (a v i : Nat) : mrB l a v (i + 1) = (mrB l a v i || (decide (a < (l.getD i default).toNat) && decide (cdF l i / 2 ^ ((l.getD i default).toNat - a) = v))) := by
  rw [mrB_eq, mrB_eq, List.range_succ, List.any_append, List.any_cons, List.any_nil, Bool.or_false]
theorem mrB_iff {l : List UInt8} {a v : Nat} : mrB l a v l.length = true ↔ ∃ i, i < l.length ∧ a < (l.getD i default).toNat ∧ cdF l i / 2 ^ ((l.getD i default).toNat - a) = v := by
  rw [mrB_eq, List.any_eq_true]
  constructor
  · rintro ⟨i, h1, h2⟩
    rw [Bool.and_eq_true, decide_eq_true_eq, decide_eq_true_eq] at h2
    exact ⟨i, List.mem_range.1 h1, h2⟩
  · rintro ⟨i, h1, h2⟩
    exact ⟨i, List.mem_range.2 h1, by rw [Bool.and_eq_true, decide_eq_true_eq, decide_eq_true_eq]; exact h2⟩
theorem cdF_le {l : List UInt8} {i : Nat} (hi : i < l.length) (ho : overB l 15 = false) : cdF l i ≤ 17 * (l.length * 32768) := by
  unfold cdF
  exact Nat.le_trans (Nat.div_le_self _ _) (atK_le (Nat.le_trans (over_le ho hi) (by decide)) (Nat.le_of_lt hi))
section
variable {b l : List UInt8} {n a d c v : Nat} {R : Nat × Nat × Nat} (hT : canE l 15 = 0) (hn : n = l.length) (ha : a ≤ 15) (hv : v = frC l a + d) (hb : v < 2 ^ a) (hno : ∀ j, j < n → ¬ ((l.getD j default).toNat = a ∧ cdF l j = v ∧ 0 < a)) (hR : hdX b l a d c = R)
include hT hn ha hv hb hno hR
theorem rdE_50 (hm : mrB l a v n = false) : R = (0, 0, 50) := by
  subst hn
  have hd := rd_n ha hv hno
  refine rd_50 ha hd hR (Classical.byContradiction fun q => ?_)
  have := mrB_iff.2 ((rd_more hT ha hv hd hb).1 q)
  rw [hm] at this; cases this
theorem rdE_10 (hm : mrB l a v n = true) (h : tkE b c 1 ≠ 0) : R = (0, 0, 10) := by
  subst hn
  have hd := rd_n ha hv hno
  exact rd_10 ha hd hR ((rd_more hT ha hv hd hb).2 (mrB_iff.1 hm)) h
theorem rdE_go (hm : mrB l a v n = true) (h : tkE b c 1 = 0) : a + 1 ≤ 15 ∧ 2 * v + tkV b c 1 = frC l (a + 1) + (2 * (d - cnt l a) + tkV b c 1) ∧ 2 * v + tkV b c 1 < 2 ^ (a + 1) ∧ hdX b l (a + 1) (2 * (d - cnt l a) + tkV b c 1) (c + 1) = R := by
  subst hn
  have hd := rd_n ha hv hno
  obtain ⟨h1, h2⟩ := rd_go ha hd hR ((rd_more hT ha hv hd hb).2 (mrB_iff.1 hm)) h
  refine ⟨h1, rd_v hv hd, ?_, h2⟩
  have := tk1_lt b c
  rw [Nat.pow_succ]; omega
end
theorem v_lt {v a : Nat} (hb : v < 2 ^ a) (ha : a ≤ 15) : v < 32768 := Nat.lt_of_lt_of_le hb (Nat.pow_le_pow_right (show 0 < 2 by decide) ha)
structure RdP (l : List UInt8) (i : Nat) : Prop where
  s : ((mdL l).getD i default).2 = (l.getD i default).toNat
  c : (l.getD i default).toNat ≠ 0 → ((mdL l).getD i default).1 = cdF l i
  x : (l.getD i default).toNat ≤ 15
  y : cdF l i ≤ 17 * (l.length * 32768)
theorem rdP {l : List UInt8} {i : Nat} (ho : overB l 15 = false) (hi : i < l.length) : RdP l i := by
  refine ⟨by rw [mdL_get ho hi], fun h => by rw [mdL_get ho hi]; exact if_neg h, over_le ho hi, cdF_le hi ho⟩
theorem mr_s0 {l : List UInt8} {a v i : Nat} (h : ¬ a < (l.getD i default).toNat) : mrB l a v (i + 1) = mrB l a v i := by
  rw [mrB_s, decide_eq_false h, Bool.false_and, Bool.or_false]
theorem mr_t {l : List UInt8} {a v i : Nat} (h : mrB l a v i = true) : mrB l a v (i + 1) = true := by
  rw [mrB_s, h, Bool.true_or]
theorem mr_f {l : List UInt8} {a v i x y : Nat} (h : mrB l a v i = false) (hx : x = cdF l i) (hy : y = (l.getD i default).toNat) (hlt : a < (l.getD i default).toNat) (hle : (l.getD i default).toNat ≤ 15) : (((x : Nat) : Int).fdiv (2 ^ min (((y : Nat) : Int) - ((a : Nat) : Int)).toNat 32) == ((v : Nat) : Int)) = mrB l a v (i + 1) := by
  subst hx
  rw [mrB_s, h, Bool.false_or, decide_eq_true hlt, Bool.true_and, ← hy]
  rw [show min (((y : Nat) : Int) - ((a : Nat) : Int)).toNat 32 = y - a from by omega]
  generalize y - a = k
  generalize cdF l i = z
  have hp : (0 : Int) ≤ 2 ^ k := Int.le_of_lt (Int.pow_pos (by decide))
  rw [Int.fdiv_eq_ediv_of_nonneg _ hp, show ((z : Nat) : Int) / 2 ^ k = ((z / 2 ^ k : Nat) : Int) from by push_cast; rfl]
  generalize z / 2 ^ k = w
  rw [Bool.eq_iff_iff, beq_iff_eq, decide_eq_true_eq]; omega
theorem bv_eq {x y : Bool} (h : x = y) : D.v (Value.bool x) = D.v (Value.bool y) := by rw [h]
theorem rRead (l : List UInt8) (n : Nat) (hn : n = l.length) (hN : n ≤ 1000) (hT : canE l 15 = 0) (b : List UInt8) (m : Nat) (hm : m = b.length) (hM : m ≤ 1000000) (p : Nat) (hp : p ≤ 8 * m) : SpecH false Try.prog 62 [.sl false n 2 ((mdL l).flatMap mdD), .sl false m 1 (b.map dB), nD p] [] (nxD (nxR b l p)) [] := by
  have ho := (canE_0 hT).2.1
  have hl : (mdL l).length = n := by rw [mdL_len, hn]
  refine SpecH.run T_ok mixed Try.func62 rfl rfl rfl trivial rfl 1000 64 (fun R ok => (.s 5 (Hn.inl T_ok mixed false 92 0 (loopAt Try.prog 62 0) (fun (x : (a : Nat) ×' (ha : a ≤ 15) ×' (d : Nat) ×' (v : Nat) ×' (hv : v = frC l a + d) ×' (hb : v < 2 ^ a) ×' (c : Nat) ×' (hc : c ≤ p + a) ×' (hR : hdX b l a d c = nxR b l p) ×' Unit) => match x with | ⟨a, ha, d, v, hv, hb, c, hc, hR, _⟩ => CutS.mk [(0, D.sl false n 2 (List.flatMap mdD (mdL l))), (1, D.sl false m 1 (List.map dB b)), (2, nD c), (9, u32D v), (10, nD a)] [] 0) (fun (x : (a : Nat) ×' (ha : a ≤ 15) ×' (d : Nat) ×' (v : Nat) ×' (hv : v = frC l a + d) ×' (hb : v < 2 ^ a) ×' (c : Nat) ×' (hc : c ≤ p + a) ×' (hR : hdX b l a d c = nxR b l p) ×' Unit) => match x with | ⟨a, ha, d, v, hv, hb, c, hc, hR, _⟩ => 16 - a) [⟨Unit, .ret, fun x => match x with | () => CutS.mk [(6, nD (nxR b l p).1), (7, nD (nxR b l p).2.1), (8, nD (nxR b l p).2.2)] [] 0⟩] 1000 64 (fun | ⟨a, ha, d, v, hv, hb, c, hc, hR, _⟩, Q, next1, last1 => (.s 2 (.val 11 (D.v (.bool false)) (D.v (.bool (mrB l a v 0))) (by (exact congrArg (fun x => D.v (.bool x)) (mrB_0 l a v).symm)) (Hn.inl T_ok mixed false 92 0 (loopAt Try.prog 62 1) (fun (x : (i : Nat) ×' (hi : i ≤ n) ×' (hno : ∀ j, j < i → ¬ ((l.getD j default).toNat = a ∧ cdF l j = v ∧ 0 < a)) ×' Unit) => match x with | ⟨i, hi, hno, _⟩ => CutS.mk [(0, D.sl false n 2 (List.flatMap mdD (mdL l))), (1, D.sl false m 1 (List.map dB b)), (2, nD c), (9, D.v (Value.int .u32 (↑v : Int))), (10, nD a), (11, .v (.bool (mrB l a v i))), (12, nD i)] [] 0) (fun (x : (i : Nat) ×' (hi : i ≤ n) ×' (hno : ∀ j, j < i → ¬ ((l.getD j default).toNat = a ∧ cdF l j = v ∧ 0 < a)) ×' Unit) => match x with | ⟨i, hi, hno, _⟩ => n - i) [⟨(hno2 : ∀ j, j < n → ¬ ((l.getD j default).toNat = a ∧ cdF l j = v ∧ 0 < a)) ×' Unit, .exit 2, fun x => match x with | ⟨hno2, _⟩ => CutS.mk [(0, D.sl false n 2 (List.flatMap mdD (mdL l))), (1, D.sl false m 1 (List.map dB b)), (2, nD c), (9, D.v (Value.int .u32 (↑v : Int))), (10, nD a), (11, .v (.bool (mrB l a v n))), (12, nD n)] [] 0⟩, ⟨Unit, .ret, fun x => match x with | () => CutS.mk [(6, nD (nxR b l p).1), (7, nD (nxR b l p).2.1), (8, nD (nxR b l p).2.2)] [] 0⟩] 1000 64 (fun | ⟨i, hi, hno, _⟩, Q, next2, last2 => (.s 5 (.br (decide ((↑i : Int) < (↑n : Int))) (fun p0 => have p0f := odt p0; (.s 3 (.chk (true && decide ((↑i : Int) < (↑n : Int)) && true) (by ((refine and_tI ?_ ?_) <;> (repeat' (first | (refine and_tI ?_ ?_) | (with_reducible rfl) | (refine decide_eq_true ?_) | (refine Nat.ble_eq_true_of_le ?_) | (refine nbeq ?_))) <;> (omega))) (.s 2 (.chk (Nat.ble (i * 2 + 2) (List.length (List.flatMap mdD (mdL l)))) (by (rw [fm_length (k := 2) (fun _ => rfl), hl];  exact Nat.ble_eq_true_of_le om)) (.lst (List.take 2 (List.drop (i * 2) (List.flatMap mdD (mdL l)))) ([D.v (Value.int .u32 (↑(Prod.fst (List.getD (mdL l) i default)) : Int)), D.v (Value.int .u8 (↑(Prod.snd (List.getD (mdL l) i default)) : Int))]) (fm_elem (k := 2) (i := i) (fun _ => rfl) om om) (.s 15 (.br ((↑(Prod.snd (List.getD (mdL l) i default)) : Int) == 0) (fun p1 => have p1f := eq_of_beq p1; (.s 13 (.ow ((↑i : Int) + 1) (.s 1 (.val 11 (D.v (.bool (mrB l a v i))) (D.v (.bool (mrB l a v (i + 1)))) zdx8 (.val 12 (iD ((↑i : Int) + 1)) (nD (i + 1)) zdx0 (Hn.next next2 ⟨(i + 1), om, zdx1, ⟨⟩⟩ zdx2 [] ro))))))) (fun p1 => have p1f := of_beq_f p1; (.s 8 (.op (↑(Prod.snd (List.getD (mdL l) i default)) : Int) zdx3 (.s 6 (.br (decide ((↑(Prod.snd (List.getD (mdL l) i default)) : Int) < (↑a : Int))) (fun p2 => have p2f := odt p2; (.s 3 (.ow ((↑i : Int) + 1) (.s 1 (.val 11 (D.v (.bool (mrB l a v i))) (D.v (.bool (mrB l a v (i + 1)))) zdx8 (.val 12 (iD ((↑i : Int) + 1)) (nD (i + 1)) zdx0 (Hn.next next2 ⟨(i + 1), om, zdx1, ⟨⟩⟩ zdx2 [] ro))))))) (fun p2 => have p2f := odf p2; (.s 7 (.op (↑(Prod.snd (List.getD (mdL l) i default)) : Int) zdx3 (.s 5 (.br ((↑(Prod.snd (List.getD (mdL l) i default)) : Int) == (↑a : Int)) (fun p3 => have p3f := eq_of_beq p3; (.s 14 (.br ((↑(Prod.fst (List.getD (mdL l) i default)) : Int) == (↑v : Int)) (fun p4 => have p4f := eq_of_beq p4; (.s 4 (.t (decide (0 < (↑a : Int))) zdx4 (.s 5 (.val 6 (nD i) (nD (Prod.fst (nxR b l p))) zdx5 (.val 7 (nD c) (nD (Prod.fst (Prod.snd (nxR b l p)))) zdx5 (.val 8 (iD 0) (nD (Prod.snd (Prod.snd (nxR b l p)))) zdx5 (Hn.last last2 1 (() : Unit) rfl [] ro)))))))) (fun p4 => have p4f := of_beq_f p4; (.s 7 (.br (mrB l a v i) (fun p5 => (.s 28 (.ow ((↑i : Int) + 1) (.s 1 (.val 11 (D.v (.bool true)) (D.v (.bool (mrB l a v (i + 1)))) zdx9 (.val 12 (iD ((↑i : Int) + 1)) (nD (i + 1)) zdx0 (Hn.next next2 ⟨(i + 1), om, zdx1, ⟨⟩⟩ zdx2 [] ro))))))) (fun p5 => (.s 8 (.ow (↑(Prod.snd (List.getD (mdL l) i default)) : Int) (.s 8 (.f (decide ((↑a : Int) < (↑(Prod.snd (List.getD (mdL l) i default)) : Int))) (by (refine decide_eq_false ?_; (omega))) (.s 27 (.ow ((↑i : Int) + 1) (.s 1 (.val 11 (D.v (.bool false)) (D.v (.bool (mrB l a v (i + 1)))) zdx9 (.val 12 (iD ((↑i : Int) + 1)) (nD (i + 1)) zdx0 (Hn.next next2 ⟨(i + 1), om, zdx1, ⟨⟩⟩ zdx2 [] ro))))))))))))))))) (fun p3 => have p3f := of_beq_f p3; (.s 17 (.br (mrB l a v i) (fun p6 => (.s 28 (.ow ((↑i : Int) + 1) (.s 1 (.val 11 (D.v (.bool true)) (D.v (.bool (mrB l a v (i + 1)))) (by (exact bv_eq (mr_t asm).symm)) (.val 12 (iD ((↑i : Int) + 1)) (nD (i + 1)) zdx0 (Hn.next next2 ⟨(i + 1), om, zdx1, ⟨⟩⟩ zdx2 [] ro))))))) (fun p6 => (.s 8 (.op (↑(Prod.snd (List.getD (mdL l) i default)) : Int) zdx3 (.s 8 (.t (decide ((↑a : Int) < (↑(Prod.snd (List.getD (mdL l) i default)) : Int))) zdx4 (.s 16 (.op (↑(Prod.snd (List.getD (mdL l) i default)) : Int) zdx3 (.s 5 (.op ((↑(Prod.snd (List.getD (mdL l) i default)) : Int) - (↑a : Int)) zdx3 (.s 2 (.opt (wrapO .u64 ((↑(Prod.snd (List.getD (mdL l) i default)) : Int) - (↑a : Int))) (D.v (Value.int .u64 ((↑(Prod.snd (List.getD (mdL l) i default)) : Int) - (↑a : Int)))) (wrapO_u64 zdx3) (.s 2 (.chk (decide (0 ≤ (↑(Prod.snd (List.getD (mdL l) i default)) : Int) - (↑a : Int))) zdx4 (.opt (bitO IntKind.u32 (Int.fdiv (↑(Prod.fst (List.getD (mdL l) i default)) : Int) (2 ^ min (Int.toNat ((↑(Prod.snd (List.getD (mdL l) i default)) : Int) - (↑a : Int))) 32))) (D.v (Value.int .u32 (Int.fdiv (↑(Prod.fst (List.getD (mdL l) i default)) : Int) (2 ^ min (Int.toNat ((↑(Prod.snd (List.getD (mdL l) i default)) : Int) - (↑a : Int))) 32)))) (bitO_eq _ _) (.s 12 (.ow ((↑i : Int) + 1) (.s 1 (.val 11 (D.v (.bool (Int.fdiv (↑(Prod.fst (List.getD (mdL l) i default)) : Int) (2 ^ min (Int.toNat ((↑(Prod.snd (List.getD (mdL l) i default)) : Int) - (↑a : Int))) 32) == (↑v : Int)))) (D.v (.bool (mrB l a v (i + 1)))) (by ( have h9 := rdP (l := l) (i := i) ho om; have h8 := h9.s; have h7 := h9.c; have h6 := h9.x; have h5 := h9.y; have h4 := v_lt hb om; exact bv_eq (mr_f asm (h7 om) h8 om h6))) (.val 12 (iD ((↑i : Int) + 1)) (nD (i + 1)) zdx0 (Hn.next next2 ⟨(i + 1), om, zdx1, ⟨⟩⟩ zdx2 [] ro))))))))))))))))))))))))))))))))))))))))) (fun p0 => have p0f := odf p0; (.val 11 (D.v (.bool (mrB l a v i))) (D.v (.bool (mrB l a v n))) (by ( rw [show i = n from by omega])) (.val 12 (nD i) (nD n) (by ( rw [show i = n from by omega])) (Hn.last last2 0 (⟨(by ( exact fun j hj => hno j om)), ⟨⟩⟩ : (hno2 : ∀ j, j < n → ¬ ((l.getD j default).toNat = a ∧ cdF l j = v ∧ 0 < a)) ×' Unit) rfl [] ro))))))) (fun | ⟨i, hi, hno, _⟩ => by kernel_rfl) ⟨(0), om, om, ⟨⟩⟩ [] ro (hs2 (fun | ⟨hno2, _⟩ => (.s 2 (.br (!mrB l a v n) (fun p7 => have p7f := (not_t p7); (.s 3 (.val 6 (iD 0) (nD (Prod.fst (nxR b l p))) zdx6 (.val 7 (iD 0) (nD (Prod.fst (Prod.snd (nxR b l p)))) zdx6 (.val 8 (iD 50) (nD (Prod.snd (Prod.snd (nxR b l p)))) zdx6 (Hn.last last1 0 (() : Unit) rfl [] ro)))))) (fun p7 => have p7f := (not_f p7); (.s 3 (.call 51 false [] (true) wr ([D.sl false m 1 (List.map dB b), nD c, iD 1]) _ (by exact (And.intro (D.sim.refl _) (And.intro (D.sim.refl _) (And.intro (D.sim.refl _) trivial)))) (true) wr _ _ _ (CallOk.fn (FnOk.of Try.func51 rfl rfl) (@rTake (b) (m) om om (c) (1) (by (simp; done)) om)) (.s 10 (.br ((↑(tkE b c 1) : Int) != 0) (fun p8 => have p8f := of_bne_t p8; (.s 3 (.val 6 (iD 0) (nD (Prod.fst (nxR b l p))) zdx7 (.val 7 (iD 0) (nD (Prod.fst (Prod.snd (nxR b l p)))) zdx7 (.val 8 (iD 10) (nD (Prod.snd (Prod.snd (nxR b l p)))) zdx7 (Hn.last last1 0 (() : Unit) rfl [] ro)))))) (fun p8 => have p8f := of_bne_f p8; (.s 3 (.opt (wrapO .u32 (2 * (↑v : Int))) (D.v (Value.int .u32 (2 * (↑v : Int) % 4294967296))) (wrapO_eq _ _) (.s 3 (.opt (wrapO .u32 (2 * (↑v : Int) % 4294967296 + (↑(tkV b c 1) : Int))) (D.v (Value.int .u32 ((2 * (↑v : Int) % 4294967296 + (↑(tkV b c 1) : Int)) % 4294967296))) (wrapO_eq _ _) (.s 4 (.ow ((↑c : Int) + 1) (.s 4 (.ow ((↑a : Int) + 1) (.s 1 (.val 2 (iD ((↑c : Int) + 1)) (nD (c + 1)) zdx0 (.val 9 (D.v (Value.int .u32 ((2 * (↑v : Int) % 4294967296 + (↑(tkV b c 1) : Int)) % 4294967296))) (D.v (Value.int .u32 (↑(2 * v + tkV b c 1) : Int))) zdx0 (.val 10 (iD ((↑a : Int) + 1)) (nD (a + 1)) zdx0 (Hn.next next1 ⟨(a + 1), (by ( exact (rdE_go hT hn ha hv hb hno2 hR asm om).1)), (2 * (d - cnt l a) + tkV b c 1), (2 * v + tkV b c 1), (by ( exact (rdE_go hT hn ha hv hb hno2 hR asm om).2.1)), (by ( exact (rdE_go hT hn ha hv hb hno2 hR asm om).2.2.1)), (c + 1), om, (by ( exact (rdE_go hT hn ha hv hb hno2 hR asm om).2.2.2)), ⟨⟩⟩ (by show 16 - (a + 1) < 16 - a; clear next1 last1; omega) [] ro)))))))))))))))))))))) (fun | () => (Hn.last last1 0 (() : Unit) rfl [] ro))))))) (fun | ⟨a, ha, d, v, hv, hb, c, hc, hR, _⟩ => by kernel_rfl) ⟨(0), om, (0), (0), (by exact rfl), om, (p), om, (by (exact hdX_0 b l p)), ⟨⟩⟩ [] ro (hs1 (fun | () => (.out [] [] (D.tup [nD (Prod.fst (nxR b l p)), nD (Prod.fst (Prod.snd (nxR b l p))), nD (Prod.snd (Prod.snd (nxR b l p)))]) [] R (ok _ _ (by exact rfl) wr))))))) (by kernel_rfl)
end Vp
end Go.Proofs.Ytegjeagfcfhbeaa
namespace Go.Proofs.Ytegjeagfcfhbeaa
open Go.RowKit Go.Bw Go.Vx
namespace Vp
set_option linter.unusedVariables false
set_option linter.unusedSimpArgs false
set_option maxRecDepth 100000
set_option maxHeartbeats 4000000
structure Rs where
  p : Nat
  e : Nat
def fl (s : Rs) (c : Bool) (x : Nat) : Rs := if s.e = 0 ∧ c = false then ⟨s.p, x⟩ else s
def tkS (b : List UInt8) (m : Nat) (s : Rs) : Rs := lk b (if s.e = 0 then ⟨s.p + m, tkE b s.p m⟩ else s)
def tkN (b : List UInt8) (m : Nat) (s : Rs) : Nat := lk b (if s.e = 0 then tkV b s.p m else 0)
def syS (b l : List UInt8) (s : Rs) : Rs := lk b (if s.e = 0 then ⟨(nxR b l s.p).2.1, (nxR b l s.p).2.2⟩ else s)
def syN (b l : List UInt8) (s : Rs) : Nat := lk b (if s.e = 0 then (nxR b l s.p).1 else 0)
theorem fl_x {s : Rs} {c : Bool} {x : Nat} (h : s.e ≠ 0) : fl s c x = s := if_neg fun q => h q.1
theorem fl_t {s : Rs} {x : Nat} : fl s true x = s := if_neg fun q => by cases q.2
theorem fl_f {s : Rs} {x : Nat} (h : s.e = 0) : fl s false x = ⟨s.p, x⟩ := if_pos ⟨h, rfl⟩
theorem fl_p (s : Rs) (c : Bool) (x : Nat) : (fl s c x).p = s.p := by unfold fl; split <;> rfl
theorem fl_0 {s : Rs} {c : Bool} {x : Nat} (hx : x ≠ 0) (h : (fl s c x).e = 0) : s.e = 0 ∧ c = true ∧ fl s c x = s := by
  unfold fl at *
  split at h
  · exact absurd h hx
  · next q =>
    refine ⟨h, ?_, if_neg q⟩
    cases c
    · exact absurd ⟨h, rfl⟩ q
    · rfl
theorem tkS_x {b : List UInt8} {m : Nat} {s : Rs} (h : s.e ≠ 0) : tkS b m s = s := (lk_eq _ _).trans (if_neg h)
theorem tkS_0 {b : List UInt8} {m : Nat} {s : Rs} (h : s.e = 0) : tkS b m s = ⟨s.p + m, tkE b s.p m⟩ := (lk_eq _ _).trans (if_pos h)
theorem tkN_x {b : List UInt8} {m : Nat} {s : Rs} (h : s.e ≠ 0) : tkN b m s = 0 := (lk_eq _ _).trans (if_neg h)
theorem tkN_0 {b : List UInt8} {m : Nat} {s : Rs} (h : s.e = 0) : tkN b m s = tkV b s.p m := (lk_eq _ _).trans (if_pos h)
theorem syS_x {b l : List UInt8} {s : Rs} (h : s.e ≠ 0) : syS b l s = s := (lk_eq _ _).trans (if_neg h)
theorem syS_0 {b l : List UInt8} {s : Rs} (h : s.e = 0) : syS b l s = ⟨(nxR b l s.p).2.1, (nxR b l s.p).2.2⟩ := (lk_eq _ _).trans (if_pos h)
theorem syN_x {b l : List UInt8} {s : Rs} (h : s.e ≠ 0) : syN b l s = 0 := (lk_eq _ _).trans (if_neg h)
theorem syN_0 {b l : List UInt8} {s : Rs} (h : s.e = 0) : syN b l s = (nxR b l s.p).1 := (lk_eq _ _).trans (if_pos h)
theorem tkN_lt (b : List UInt8) (m : Nat) (s : Rs) : tkN b m s < 2 ^ m := by
  by_cases h : s.e = 0
  · rw [tkN_0 h]; exact tkV_lt _ _ _
  · rw [tkN_x h]; exact Nat.two_pow_pos m
def Rok (n : Nat) (s : Rs) : Prop := s.e = 0 → s.p ≤ 8 * n
theorem Rok.fl {n : Nat} {s : Rs} (h : Rok n s) (c : Bool) (x : Nat) : Rok n (fl s c x) := fun q => by
  rw [fl_p]; refine h ?_
  unfold Vp.fl at q; split at q
  · next y => exact y.1
  · exact q
theorem tkE_le {b : List UInt8} {p m : Nat} (h : tkE b p m = 0) : p + m ≤ 8 * b.length := by
  rcases Nat.lt_or_ge (8 * b.length) (p + m) with q | q
  · rw [tkE_0 q] at h; cases h
  · exact q
theorem Rok.tk {b : List UInt8} {s : Rs} (h : Rok b.length s) (m : Nat) : Rok b.length (tkS b m s) := fun q => by
  by_cases h0 : s.e = 0
  · rw [tkS_0 h0] at q ⊢; exact tkE_le q
  · rw [tkS_x h0] at q; exact absurd q h0
theorem nxF_ok {b l : List UInt8} : ∀ (k a d p : Nat), (nxF b l k a d p).2.2 = 0 → p < (nxF b l k a d p).2.1 ∧ (nxF b l k a d p).2.1 ≤ 8 * b.length
  | 0, _, _, _, h => by cases h
  | k + 1, a, d, p, h => by
    rw [nxF] at h ⊢
    split
    · next q => rw [if_pos q] at h; cases h
    · next q =>
      rw [if_neg q] at h
      split
      · next q2 => rw [if_pos q2] at h; cases h
      · next q2 =>
        rw [if_neg q2] at h
        have hp := tkE_le (b := b) (p := p) (m := 1) (by omega)
        split
        · exact ⟨by show p < p + 1; omega, by show p + 1 ≤ _; omega⟩
        · next q3 =>
          rw [if_neg q3] at h
          have := nxF_ok k _ _ _ h
          omega
theorem nxR_ok {b l : List UInt8} {p : Nat} (h : (nxR b l p).2.2 = 0) : p < (nxR b l p).2.1 ∧ (nxR b l p).2.1 ≤ 8 * b.length := by
  rw [nxR_eq] at *; exact nxF_ok _ _ _ _ h
theorem Rok.sy {b : List UInt8} {s : Rs} (h : Rok b.length s) (l : List UInt8) : Rok b.length (syS b l s) := fun q => by
  by_cases h0 : s.e = 0
  · rw [syS_0 h0] at q ⊢; exact (nxR_ok q).2
  · rw [syS_x h0] at q; exact absurd q h0
theorem nxF_lt {b l : List UInt8} : ∀ (k a d p : Nat), (nxF b l k a d p).1 < l.length ∨ (nxF b l k a d p).1 = 0
  | 0, _, _, _ => .inr rfl
  | k + 1, a, d, p => by
    rw [nxF]
    split
    · exact .inr rfl
    · split
      · exact .inr rfl
      · split
        · show List.getD _ _ _ < _ ∨ List.getD _ _ _ = 0
          rw [List.getD_eq_getElem?_getD]
          cases h : (symsL l)[(symsT l a).length + cnt l a + (2 * (d - cnt l a) + tkV b p 1)]? with
          | none => exact .inr rfl
          | some x => exact .inl (symsL_lt x (List.mem_of_getElem? h))
        · exact nxF_lt k _ _ _
theorem syN_lt (b l : List UInt8) (s : Rs) : syN b l s < l.length ∨ syN b l s = 0 := by
  by_cases h : s.e = 0
  · rw [syN_0 h, nxR_eq]; exact nxF_lt _ _ _ _
  · rw [syN_x h]; exact .inr rfl
theorem tk_w {b : List UInt8} {p m : Nat} (h : m ≤ 32) : D.v (.int .i64 (IntKind.i64.wrap ((tkV b p m : Nat) : Int))) = nD (tkV b p m) := by
  have h1 := tkV_lt b p m
  have h2 : 2 ^ m ≤ 2 ^ 32 := Nat.pow_le_pow_right (by decide) h
  rw [w64 (by omega)]
theorem fl_z {s : Rs} {e : Nat} (h : s.e = 0) : (fl s (((e : Nat) : Int) == 0) e).e = e ∧ (fl s (((e : Nat) : Int) == 0) e).p = s.p := by
  refine ⟨?_, fl_p _ _ _⟩
  by_cases h0 : e = 0
  · subst h0; show (fl s true 0).e = 0; rw [fl_t]; exact h
  · rw [show ((((e : Nat) : Int) == 0)) = false from by simp; omega, fl_f h]
theorem tk_b {b : List UInt8} {n : Nat} {s : Rs} {k : Nat} {t : TypeId} (hN : n ≤ 1000000) (ho : s.e = 0 → s.p ≤ 8 * n) (h : s.e = 0) (hk : k ≤ 32) : [(⟨[D.sl false n 1 (b.map dB), D.v (.int .i64 (IntKind.i64.wrap (((fl s (((tkE b s.p k : Nat) : Int) == 0) (tkE b s.p k)).p : Nat) + (k : Int)))), D.v (.int .i64 (((fl s (((tkE b s.p k : Nat) : Int) == 0) (tkE b s.p k)).e : Nat) : Int))], t, false⟩ : Blk)] = [⟨[D.sl false n 1 (b.map dB), nD (Rs.mk (s.p + k) (tkE b s.p k)).p, nD (Rs.mk (s.p + k) (tkE b s.p k)).e], t, false⟩] := by
  have := ho h
  rw [(fl_z h).1, (fl_z h).2, w64 (by omega)]; rfl
theorem fail_t (b : List UInt8) (n : Nat) (hn : n = b.length) (hN : n ≤ 1000000) (s : Rs) (c : Bool) (x : Int) (hx : 0 ≤ x) : SpecH true Try.prog 47 [.ptr 0 0 0, bD c, iD x] [⟨[.sl false n 1 (b.map dB), nD (s).p, nD (s).e], 70, false⟩] (.tup []) [⟨[.sl false n 1 (b.map dB), nD (fl s c x.toNat).p, nD (fl s c x.toNat).e], 70, false⟩] := by
  obtain ⟨k, rfl⟩ := Int.eq_ofNat_of_zero_le hx
  simp only [Int.toNat_natCast]
  refine SpecH.run T_ok mixed Try.func47 rfl rfl rfl ⟨rfl, trivial⟩ rfl 1000 64 (fun R ok => (.s 12 (.br ((↑(Rs.e s) : Int) == 0) (fun p0 => have p0f := eq_of_beq p0; (.s 3 (.br (!c) (fun p1 => have p1f := (not_t p1); (.s 9 (.out [0] [0] (D.tup []) [Blk.mk [D.sl false n 1 (List.map dB b), nD (Rs.p s), nD k] 70 false] R (ok _ _ wr (by ( unfold fl; simp_all <;> omega)))))) (fun p1 => have p1f := (not_f p1); (.out [0] [0] (D.tup []) [Blk.mk [D.sl false n 1 (List.map dB b), nD (Rs.p s), nD (Rs.e s)] 70 false] R (ok _ _ wr (by ( unfold fl; simp_all <;> omega)))))))) (fun p0 => have p0f := of_beq_f p0; (.s 4 (.out [0] [0] (D.tup []) [Blk.mk [D.sl false n 1 (List.map dB b), nD (Rs.p s), nD (Rs.e s)] 70 false] R (ok _ _ wr (by ( cases c <;> first | rw [fl_t] | rw [fl_x om] | rw [fl_f om]))))))))) (by kernel_rfl)
theorem take_t (b : List UInt8) (n : Nat) (hn : n = b.length) (hN : n ≤ 1000000) (s : Rs) (hs : Rok n s) (m : Int) (hm : 0 ≤ m ∧ m ≤ 32) : SpecH true Try.prog 46 [.ptr 0 0 0, iD m] [⟨[.sl false n 1 (b.map dB), nD (s).p, nD (s).e], 70, false⟩] (nD (tkN b m.toNat s)) [⟨[.sl false n 1 (b.map dB), nD (tkS b m.toNat s).p, nD (tkS b m.toNat s).e], 70, false⟩] := by
  obtain ⟨k, rfl⟩ := Int.eq_ofNat_of_zero_le hm.1
  simp only [Int.toNat_natCast]
  have ho : s.e = 0 → s.p ≤ 8 * n := hs
  refine SpecH.run T_ok mixed Try.func46 rfl rfl rfl ⟨rfl, trivial⟩ rfl 1000 64 (fun R ok => (.s 11 (.br ((↑(Rs.e s) : Int) != 0) (fun p0 => have p0f := of_bne_t p0; (.s 1 (.out [0] [0] (iD 0) [Blk.mk [D.sl false n 1 (List.map dB b), nD (Rs.p s), nD (Rs.e s)] 70 false] R (ok _ _ (by ( rw [tkN_x om]; rfl)) (by ( rw [tkS_x om])))))) (fun p0 => have p0f := of_bne_f p0; (.s 19 (.cl 78 false [] (.fn q78 (@Take_i (b) (n) om om ((↑(Rs.p s) : Int)) ((↑k : Int)) om om)) (.s 13 (.cl 47 true [0] (.fn q47 (@fail_t (b) (n) om om (s) ((↑(tkE b (Rs.p s) k) : Int) == 0) ((↑(tkE b (Rs.p s) k) : Int)) om)) (.s 11 (.opt (wrapO .i64 ((↑(Rs.p (fl s ((↑(tkE b (Rs.p s) k) : Int) == 0) (tkE b (Rs.p s) k))) : Int) + (↑k : Int))) (iD (IntKind.wrap IntKind.i64 ((↑(Rs.p (fl s ((↑(tkE b (Rs.p s) k) : Int) == 0) (tkE b (Rs.p s) k))) : Int) + (↑k : Int)))) (wrapO_eq _ _) (.s 9 (.opt (wrapO .i64 (↑(tkV b (Rs.p s) k) : Int)) (iD (IntKind.wrap IntKind.i64 (↑(tkV b (Rs.p s) k) : Int))) (wrapO_eq _ _) (.s 1 (.out [0] [0] (iD (IntKind.wrap IntKind.i64 (↑(tkV b (Rs.p s) k) : Int))) [Blk.mk [D.sl false n 1 (List.map dB b), iD (IntKind.wrap IntKind.i64 ((↑(Rs.p (fl s ((↑(tkE b (Rs.p s) k) : Int) == 0) (tkE b (Rs.p s) k))) : Int) + (↑k : Int))), nD (Rs.e (fl s ((↑(tkE b (Rs.p s) k) : Int) == 0) (tkE b (Rs.p s) k)))] 70 false] R (ok _ _ (by ( rw [tkN_0 om]; exact tk_w om)) (by ( rw [tkS_0 om]; exact tk_b hN ho om om))))))))))))))))) (by kernel_rfl)
def simN (j : Nat) (d d' : D) : Prop := ∀ (E : Env) (w : World) (u : Value), E.nm j → E.φ j = none → RD E w d u → RD E w d' u
def simNL (j : Nat) : List D → List D → Prop
  | [], [] => True
  | a :: r, b :: q => simN j a b ∧ simNL j r q
  | _, _ => False
theorem simN.refl (j : Nat) (d : D) : simN j d d := fun _ _ _ _ _ h => h
theorem simN.nil (j sz : Nat) : simN j nilD (.ref j j 0 0 sz) := fun E w u h1 h2 h => by cases h; exact .refn j j sz h1 h2
theorem simNL.refl (j : Nat) : ∀ l : List D, simNL j l l
  | [] => trivial
  | d :: r => ⟨simN.refl j d, simNL.refl j r⟩
theorem simNL.app {j : Nat} {c d : List D} : ∀ {a b : List D}, simNL j a b → simNL j c d → simNL j (a ++ c) (b ++ d)
  | [], [], _, h => h
  | _ :: _, _ :: _, h1, h2 => ⟨h1.1, simNL.app h1.2 h2⟩
  | [], _ :: _, h1, _ => h1.elim
  | _ :: _, [], h1, _ => h1.elim
theorem simNL.get {j : Nat} : ∀ {l l' : List D}, simNL j l l' → l.length = l'.length ∧ ∀ (i : Nat) d', l'[i]? = some d' → ∃ d, l[i]? = some d ∧ simN j d d'
  | [], [], _ => ⟨rfl, fun i d' h => by simp at h⟩
  | a :: r, b :: q, h => by
    obtain ⟨h1, h2⟩ := simNL.get h.2
    refine ⟨by simp [h1], fun i d' hi => ?_⟩
    cases i with
    | zero => cases hi; exact ⟨a, rfl, h.1⟩
    | succ i => exact h2 i d' (by simpa using hi)
  | [], _ :: _, h => h.elim
  | _ :: _, [], h => h.elim
theorem simN.agg {j : Nat} {l l' : List D} (h : simNL j l l') : simN j (.agg l) (.agg l') := fun E w u a b hr => by
  obtain ⟨e, g⟩ := h.get
  cases hr with
  | agg _ us hl hd h1 => exact .agg _ us (by rw [hl, e]) (fun i d' v hd' hv => by
      obtain ⟨d, q1, q2⟩ := g i d' hd'
      exact q2 E w v a b (hd i d v q1 hv)) h1
theorem simN.tup {j : Nat} {l l' : List D} (h : simNL j l l') : simN j (.tup l) (.tup l') := fun E w u a b hr => by
  obtain ⟨e, g⟩ := h.get
  cases hr with
  | tup _ us hl hd => exact .tup _ us (by rw [hl, e]) (fun i d' v hd' hv => by
      obtain ⟨d, q1, q2⟩ := g i d' hd'
      exact q2 E w v a b (hd i d v q1 hv))
theorem SpecH.nilA {al : Bool} {P : Program} {f : FuncId} {ds : List D} {hin : List Blk} {r r' : D} {bs : List Blk} (h : SpecH al P f ds hin r bs) (t : TypeId) (hr : simN bs.length r r') : SpecH al P f ds hin r' (bs ++ [⟨[], t, true⟩]) := by
  refine ⟨by rw [List.length_append]; exact Nat.le_trans h.1 (Nat.le_add_right _ _), fun O φ w args hO hh hi hl ha => (h.2 O φ w args hO hh hi hl ha).mono ?_⟩
  rintro e w' ⟨u, rfl, hf, ψ, g1, g2, g3, g4, g5⟩
  refine ⟨u, rfl, hf, fun k => if k = bs.length then none else ψ k, fun k hk => ?_, ?_, fun k b hb => ?_, fun i k x h1 h2 hne e1 => ?_, fun k x h1 h2 e1 => ?_⟩
  · have := h.1
    show (if k = bs.length then none else ψ k) = _
    rw [if_neg (by omega)]; exact g1 k hk
  all_goals try (rw [List.length_append, List.length_singleton] at *)
  · have hst : Stp (envR (outO al O w) ψ bs.length) (envR (outO al O w) (fun k => if k = bs.length then none else ψ k) (bs.length + 1)) w' w' := by
      refine ⟨fun g hg => Nat.lt_succ_of_lt hg, fun g hg => ?_, Nat.le_refl _, fun b _ hb => ⟨fun hq => hb ?_, rfl⟩, fun _ _ => rfl⟩
      · have hg : g < bs.length := hg
        show (if g = bs.length then none else ψ g) = ψ g
        rw [if_neg (by omega)]
      · rcases hq with hq | ⟨k, hk, hq⟩
        · exact .inl hq
        · have hq : (if k = bs.length then none else ψ k) = some b := hq
          split at hq
          · cases hq
          · next z => exact .inr ⟨k, by omega, hq⟩
    exact hr _ _ _ (Nat.lt_succ_self _) (if_pos rfl) (g2.step hst)
  · have hst : Stp (envR (outO al O w) ψ bs.length) (envR (outO al O w) (fun k => if k = bs.length then none else ψ k) (bs.length + 1)) w' w' := by
      refine ⟨fun g hg => Nat.lt_succ_of_lt hg, fun g hg => ?_, Nat.le_refl _, fun b _ hb => ⟨fun hq => hb ?_, rfl⟩, fun _ _ => rfl⟩
      · have hg : g < bs.length := hg
        show (if g = bs.length then none else ψ g) = ψ g
        rw [if_neg (by omega)]
      · rcases hq with hq | ⟨k, hk, hq⟩
        · exact .inl hq
        · have hq : (if k = bs.length then none else ψ k) = some b := hq
          split at hq
          · cases hq
          · next z => exact .inr ⟨k, by omega, hq⟩
    rcases Nat.lt_trichotomy k bs.length with q | q | q
    · rw [List.getElem?_append_left q] at hb
      obtain ⟨y1, y2⟩ := g3 k b hb
      refine ⟨?_, y2⟩
      exact OB.step (o := .b b) y1 hst fun x hx => ⟨.inr ⟨k, by omega, by show (if k = bs.length then none else ψ k) = some x; rw [if_neg (by omega)]; exact hx⟩, rfl⟩
    · rw [q, List.getElem?_append_right (Nat.le_refl _), Nat.sub_self] at hb
      cases hb
      refine ⟨⟨by show k < bs.length + 1; omega, ?_⟩, fun _ => rfl⟩
      show (match (if k = bs.length then none else ψ k) with | none => _ | some b => _)
      rw [if_pos q]
      exact ⟨rfl, rfl⟩
    · rw [List.getElem?_eq_none (by rw [List.length_append, List.length_singleton]; omega)] at hb; cases hb
  · have e1 : (if i = bs.length then none else ψ i) = some x := e1
    show (if k = bs.length then none else ψ k) ≠ some x
    split at e1
    · cases e1
    · next z =>
      split
      · exact fun q => by cases q
      · next z2 => exact g4 i k x (by omega) (by omega) hne e1
  · have e1 : (if k = bs.length then none else ψ k) = some x := e1
    split at e1
    · cases e1
    · next z => exact g5 k x h1 (by omega) e1
end Vp
end Go.Proofs.Ytegjeagfcfhbeaa

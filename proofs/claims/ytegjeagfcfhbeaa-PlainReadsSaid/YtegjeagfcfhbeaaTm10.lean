/- Part 10. -/
import Derived.Test.YtegjeagfcfhbeaaTm9
import Derived.Test.YtegjeagfcfhbeaaTm8
set_option linter.unusedVariables false
set_option linter.unusedSimpArgs false
set_option maxRecDepth 100000
set_option maxHeartbeats 4000000
namespace Go.Proofs.Ytegjeagfcfhbeaa
open Go.RowKit Go.Bw Go.Vx
namespace Vp
theorem num_add (b : List UInt8) (p a : Nat) : ∀ c, numB b p (a + c) = numB b p a + 2 ^ a * numB b (p + a) c
 | 0 => by rw [numB, Nat.mul_zero]; rfl
 | c + 1 => by
  rw [← Nat.add_assoc, numB, numB, num_add b p a c, Nat.pow_add, Nat.mul_add, Nat.mul_assoc, Nat.add_assoc, Nat.add_assoc]
theorem tk_add {b : List UInt8} {p a c : Nat} (h : tkE b p (a + c) = 0) : tkE b p a = 0 ∧ tkE b (p + a) c = 0 ∧ tkV b p (a + c) = tkV b p a + 2 ^ a * tkV b (p + a) c := by
 have h1 := tkE_le h
 refine ⟨tkE_1 (by omega), tkE_1 (by omega), ?_⟩
 rw [tkV_1 (by omega), tkV_1 (by omega), tkV_1 (by omega), num_add]
theorem ts_add {b : List UInt8} {p a c : Nat} (h : tkE b p (a + c) = 0) : tkS b a (rs0 p) = rs0 (p + a) ∧ tkS b c (rs0 (p + a)) = rs0 (p + a + c) := by
 have h1 := tk_add h
 rw [tkS_0 rfl, tkS_0 rfl, h1.1, h1.2.1]; exact ⟨rfl, rfl⟩
theorem ts_bad {b : List UInt8} {p a c : Nat} (h : tkE b p (a + c) ≠ 0) : (tkS b c (tkS b a (rs0 p))).e = 10 := by
 have h1 : 8 * b.length < p + (a + c) := by
  rcases Nat.lt_or_ge (8 * b.length) (p + (a + c)) with q | q
  ·exact q
  ·exact absurd (tkE_1 (by omega)) h
 by_cases h2 : tkE b p a = 0
 ·rw [tkS_0 (s := rs0 p) rfl, h2]
  have : tkS b c ⟨p + a, 0⟩ = ⟨p + a + c, tkE b (p + a) c⟩ := tkS_0 rfl
  rw [this]; exact tkE_0 (by omega)
 ·have e : tkS b a (rs0 p) = ⟨p + a, tkE b p a⟩ := tkS_0 rfl
  rw [e, tkS_x (s := ⟨p + a, tkE b p a⟩) h2]; exact tkE_10 h2
theorem dy_num {b : List UInt8} {p : Nat} (h : tkE b p 14 = 0) : tkN b 5 (rs0 p) = tkV b p 14 % 32 ∧ tkS b 5 (rs0 p) = rs0 (p + 5) ∧ tkN b 5 (rs0 (p + 5)) = tkV b p 14 / 32 % 32 ∧ tkS b 5 (rs0 (p + 5)) = rs0 (p + 10) ∧ tkN b 4 (rs0 (p + 10)) = tkV b p 14 / 1024 ∧ tkS b 4 (rs0 (p + 10)) = rs0 (p + 14) := by
 have a1 := tk_add (b := b) (p := p) (a := 5) (c := 9) h
 have a2 := tk_add (b := b) (p := p + 5) (a := 5) (c := 4) a1.2.1
 have b1 := ts_add (b := b) (p := p) (a := 5) (c := 9) h
 have b2 := ts_add (b := b) (p := p + 5) (a := 5) (c := 4) a1.2.1
 have e1 : tkN b 5 (rs0 p) = tkV b p 5 := tkN_0 rfl
 have e2 : tkN b 5 (rs0 (p + 5)) = tkV b (p + 5) 5 := tkN_0 rfl
 have e3 : tkN b 4 (rs0 (p + 10)) = tkV b (p + 10) 4 := tkN_0 rfl
 have l1 := tkV_lt b p 5
 have l2 := tkV_lt b (p + 5) 5
 have v1 : tkV b p 14 = tkV b p 5 + 2 ^ 5 * tkV b (p + 5) 9 := a1.2.2
 have v2 : tkV b (p + 5) 9 = tkV b (p + 5) 5 + 2 ^ 5 * tkV b (p + 10) 4 := a2.2.2
 have p1 : (2 : Nat) ^ 5 = 32 := rfl
 rw [e1, e2, e3]
 exact ⟨by omega, b1.1, by omega, b2.1, by omega, b2.2⟩
theorem fl_132 {s : Rs} {c : Bool} (h : s.e = 0) (hc : c = false) : (fl s c 132).e = 132 := by rw [hc, fl_f h]
def lvU (l : List UInt8) (k : Nat) : Nat → Nat
 | 0 => 0
 | a + 1 => lvU l k a + (if a = 0 then 0 else (posT l a k).length)
theorem lvU_at (l : List UInt8) : ∀ a, lvU l l.length a = (symsT l a).length
 | 0 => rfl
 | a + 1 => by
  rw [lvU, symsT, lvU_at l a, List.length_append]
  by_cases h : a = 0
  ·rw [if_pos h, if_pos h]; rfl
  ·rw [if_neg h, if_neg h]
theorem lvU_zero (l : List UInt8) : ∀ a, lvU l 0 a = 0
 | 0 => rfl
 | a + 1 => by
  have : posT l a 0 = [] := rfl
  rw [lvU, lvU_zero l a, this]; split <;> rfl
theorem lvU_succ (l : List UInt8) (k : Nat) : ∀ a, lvU l (k + 1) a = lvU l k a + (if (l.getD k default).toNat ≠ 0 ∧ (l.getD k default).toNat < a then 1 else 0)
 | 0 => by rw [lvU, lvU, if_neg (fun q => Nat.not_lt_zero _ q.2)]
 | a + 1 => by
  rw [lvU, lvU, lvU_succ l k a, posT_succ]
  generalize (l.getD k default).toNat = x
  by_cases h0 : a = 0
  ·rw [if_pos h0, if_pos h0, if_neg (fun q => by omega), if_neg (fun q => by omega)]
  ·rw [if_neg h0, if_neg h0]
   by_cases h : x = a
   ·subst h
    rw [if_pos rfl, if_neg (fun q => by omega), if_pos ⟨h0, by omega⟩, List.length_append, List.length_singleton]; omega
   ·rw [if_neg h, List.append_nil]
    by_cases h2 : x ≠ 0 ∧ x < a
    ·rw [if_pos h2, if_pos (by omega)]; omega
    ·rw [if_neg h2, if_neg (by omega)]; omega
theorem used_syms {l : List UInt8} (ho : overB l 15 = false) : (symsL l).length = usedN l := by
 have key : ∀ k, k ≤ l.length → lvU l k 16 = usedN (l.take k) := by
  intro k
  induction k with
  | zero => intro _; exact lvU_zero l 16
  | succ k ih =>
   intro hk
   have hx := over_le ho (i := k) (by omega)
   rw [lvU_succ, ih (by omega), usedN_snoc (by omega)]
   by_cases q : (l.getD k default).toNat = 0
   ·rw [if_neg (fun z => z.1 q), if_pos q]
   ·rw [if_pos ⟨q, by omega⟩, if_neg q]
 have h := key l.length (Nat.le_refl _)
 rw [List.take_length, lvU_at, ← symsL_eq] at h; exact h
theorem whole_iff {l : List UInt8} {m : Nat} (h : canE l m = 0) (hm : m ≤ 15) : kraft l = 32768 ↔ 1 < (symsL l).length := by
 have ho := over_up (canE_0 h).2.1 hm
 rw [used_syms ho]
 have hk : kraft l = 32768 ∨ usedN l = 0 ∨ usedN l = 1 ∧ kraft l = 16384 := by
  rw [canE_eq] at h; unfold canD at h
  split at h
  ·cases h
  ·split at h
   ·cases h
   ·split at h
    ·cases h
    ·split at h
     ·assumption
     ·cases h
 constructor
 ·intro q
  rcases Nat.lt_or_ge 1 (usedN l) with z | z
  ·exact z
  ·exfalso
   rcases Nat.eq_zero_or_pos (usedN l) with z0 | z0
   ·have := (kr_zero z0).1; omega
   ·have z1 : usedN l = 1 := by omega
    have hex : ∃ i, i < l.length ∧ (l.getD i default).toNat ≠ 0 := by
     apply Classical.byContradiction
     intro hno
     have : ∀ k, k ≤ l.length → usedN (l.take k) = 0 := by
      intro k
      induction k with
      | zero => intro _; rfl
      | succ k ih =>
       intro hk
       rw [usedN_snoc (by omega), ih (by omega), if_pos]
       apply Classical.byContradiction
       exact fun q => hno ⟨k, by omega, q⟩
     have := this l.length (Nat.le_refl _)
     rw [List.take_length] at this; omega
    obtain ⟨i, h1, h2⟩ := hex
    have h3 := kr_one z1 h1 h2
    have : 2 ^ (15 - (l.getD i default).toNat) ≤ 2 ^ 14 := Nat.pow_le_pow_right (by decide) (by omega)
    omega
 ·intro q
  rcases hk with hk | hk | hk
  ·exact hk
  ·omega
  ·omega
structure DyE (b : List UInt8) (p g f h : Nat) (s l : List UInt8 × Nat × Nat) (e : Nat) : Prop where
 f1 : tkE b p 14 ≠ 0 → e = tkE b p 14
 f2 : tkE b p 14 = 0 → (29 < g ∨ 29 < f) → e = 132
 f3 : tkE b p 14 = 0 → g ≤ 29 → f ≤ 29 → s.2.2 ≠ 0 → e = s.2.2
 f4 : tkE b p 14 = 0 → g ≤ 29 → f ≤ 29 → s.2.2 = 0 → l.2.2 ≠ 0 → e = l.2.2
 f5 : tkE b p 14 = 0 → g ≤ 29 → f ≤ 29 → s.2.2 = 0 → l.2.2 = 0 → ((l.1.getD 256 default).toNat = 0 ∨ canE (l.1.take (g + 257)) 15 ≠ 0 ∨ canE (l.1.drop (g + 257)) 15 ≠ 0) → e = 132
 f6 : tkE b p 14 = 0 → g ≤ 29 → f ≤ 29 → s.2.2 = 0 → l.2.2 = 0 → (l.1.getD 256 default).toNat ≠ 0 → canE (l.1.take (g + 257)) 15 = 0 → canE (l.1.drop (g + 257)) 15 = 0 → e = 0
 s1 : tkE b p 14 = 0 → s.2.2 = 0 → s.1.length = 19 ∧ canE s.1 15 = 0 ∧ s.2.1 ≤ 8 * b.length
 l1 : tkE b p 14 = 0 → s.2.2 = 0 → l.2.2 = 0 → l.1.length = g + 257 + (f + 1) ∧ l.2.1 ≤ 8 * b.length
 gf : g < 32 ∧ f < 32 ∧ h < 16
structure DyO (r : Rs × List UInt8 × List UInt8) (g : Nat) (l : List UInt8 × Nat × Nat) (e : Nat) : Prop where
 h1 : r.1.e = e
 h2 : e = 0 → r = (rs0 l.2.1, l.1.take (g + 257), l.1.drop (g + 257))
theorem dyG_bad {b : List UInt8} {g f q : Nat} {W : List UInt8} (h : canE W 7 ≠ 0 ∨ kraft W ≠ 32768) : (dyG b g f (rs0 q) W).1.e = 132 := by
 unfold dyG
 dsimp only
 have e7 : (fl (fl (rs0 q) (((canE W 7 : Nat) : Int) == 0) 132) (decide ((1 : Int) < (((symsL (okL W 7)).length : Nat) : Int))) 132).e = 132 := by
  by_cases h1 : canE W 7 = 0
  ·rw [h1, show fl (rs0 q) ((((0 : Nat)) : Int) == 0) 132 = rs0 q from fl_t, okL_y h1]
   have h2 : ¬ 1 < (symsL W).length := fun z => h.elim (fun y => y h1) (fun y => y ((whole_iff h1 (by decide)).2 z))
   exact fl_132 rfl (decide_eq_false (by omega))
  ·rw [show (((canE W 7 : Nat) : Int) == 0) = false from by simp; omega, fl_f rfl, fl_x (show (132 : Nat) ≠ 0 by decide)]
 generalize fl (fl (rs0 q) (((canE W 7 : Nat) : Int) == 0) 132) (decide ((1 : Int) < (((symsL (okL W 7)).length : Nat) : Int))) 132 = s7 at *
 have hx : s7.e ≠ 0 := by omega
 rw [lnS_x hx, if_pos hx]; exact e7
theorem fl_s {s : Rs} {x : Nat} (h : s.e ≠ 0) : ∀ c : Bool, (fl s c x) = s := fun c => fl_x h
theorem dyG_at {b : List UInt8} {g f q : Nat} {W : List UInt8} (hl : W.length = 19) (h1 : canE W 7 = 0) (h2 : kraft W = 32768) {l : List UInt8 × Nat × Nat} (hL : dlR b W (g + 257 + (f + 1)) q = l) :
  (l.2.2 ≠ 0 → (dyG b g f (rs0 q) W).1.e = l.2.2) ∧
  (l.2.2 = 0 → ((l.1.getD 256 default).toNat = 0 ∨ canE (l.1.take (g + 257)) 15 ≠ 0 ∨ canE (l.1.drop (g + 257)) 15 ≠ 0) → (dyG b g f (rs0 q) W).1.e = 132) ∧
  (l.2.2 = 0 → (l.1.getD 256 default).toNat ≠ 0 → canE (l.1.take (g + 257)) 15 = 0 → canE (l.1.drop (g + 257)) 15 = 0 → dyG b g f (rs0 q) W = (rs0 l.2.1, l.1.take (g + 257), l.1.drop (g + 257))) ∧
  (l.2.2 = 0 → l.1.length = g + 257 + (f + 1) ∧ (lnS b W (g + 257 + (f + 1)) (rs0 q)).e = 0 ∧ l.2.1 = (lnS b W (g + 257 + (f + 1)) (rs0 q)).p) := by
 have h3 : 1 < (symsL W).length := (whole_iff h1 (by decide)).1 h2
 have e7 : fl (fl (rs0 q) (((canE W 7 : Nat) : Int) == 0) 132) (decide ((1 : Int) < (((symsL (okL W 7)).length : Nat) : Int))) 132 = rs0 q := by
  rw [h1, show fl (rs0 q) ((((0 : Nat)) : Int) == 0) 132 = rs0 q from fl_t, okL_y h1, decide_eq_true (by omega), fl_t]
 have hd := dl_lnR b W (by omega) (g + 257 + (f + 1)) q
 rw [hL] at hd
 unfold dyG
 dsimp only
 rw [e7, okL_y h1]
 by_cases c : (lnS b W (g + 257 + (f + 1)) (rs0 q)).e = 0
 ·have hd := hd.1 c
  have hlen := lnO_len c
  subst hd
  rw [if_neg (by omega)]
  generalize hs8 : lnS b W (g + 257 + (f + 1)) (rs0 q) = s8 at *
  generalize hoo : lnO b W (g + 257 + (f + 1)) (rs0 q) = o at *
  have ed : (o.drop (g + 257)).take (g + 257 + (f + 1) - (g + 257)) = o.drop (g + 257) := List.take_of_length_le (by rw [List.length_drop]; omega)
  rw [ed, List.drop_zero]
  have hs : s8 = rs0 s8.p := by
   cases s8; simp only at c; subst c; rfl
  refine ⟨fun z => absurd rfl z, fun _ z => ?_, fun _ z1 z2 z3 => ?_, fun _ => ⟨hlen, c, rfl⟩⟩
  ·show (fl (fl (fl (fl s8 _ 132) _ 132) _ 132) _ 132).e = 132
   by_cases y1 : (o.getD 256 default).toNat = 0
   ·have e9 : (fl s8 (decide ((0 : Int) < (((o.getD 256 default).toNat : Nat) : Int))) 132).e = 132 := fl_132 c (decide_eq_false (by omega))
    rw [fl_s (s := fl s8 _ 132) (by omega), fl_s (s := fl s8 _ 132) (by omega), fl_s (s := fl s8 _ 132) (by omega)]; exact e9
   ·have e9 : fl s8 (decide ((0 : Int) < (((o.getD 256 default).toNat : Nat) : Int))) 132 = s8 := by rw [decide_eq_true (by omega), fl_t]
    rw [e9]
    by_cases y2 : canE (o.take (g + 257)) 15 = 0
    ·have e10 : ∀ s : Rs, fl s (((canE (o.take (g + 257)) 15 : Nat) : Int) == 0) 132 = s := fun s => by rw [y2]; exact fl_t
     rw [e10, e10]
     exact fl_132 c (by
      have : canE (o.drop (g + 257)) 15 ≠ 0 := by
       rcases z with z | z | z
       ·exact absurd z y1
       ·exact absurd y2 z
       ·exact z
      simp; omega)
    ·have e10 : (fl s8 (((canE (o.take (g + 257)) 15 : Nat) : Int) == 0) 132).e = 132 := fl_132 c (by simp; omega)
     rw [fl_s (s := fl s8 _ 132) (by omega), fl_s (s := fl s8 _ 132) (by omega)]; exact e10
  ·show (fl (fl (fl (fl s8 _ 132) _ 132) _ 132) _ 132, okL (o.take (g + 257)) 15, okL (o.drop (g + 257)) 15) = _
   rw [okL_y z2, okL_y z3, decide_eq_true (show (0 : Int) < (((o.getD 256 default).toNat : Nat) : Int) by have z1 : (o.getD 256 default).toNat ≠ 0 := z1; omega), fl_t, z2, z3]
   have e10 : ∀ s : Rs, fl s ((((0 : Nat)) : Int) == 0) 132 = s := fun s => fl_t
   rw [e10, e10, e10]
   exact congrArg (fun z => (z, o.take (g + 257), o.drop (g + 257))) hs
 ·have hd := hd.2 c
  subst hd
  rw [if_pos c]
  exact ⟨fun _ => rfl, fun z => absurd z c, fun z => absurd z c, fun z => absurd z c⟩
theorem sh_ok {b : List UInt8} {p h : Nat} (hp : p ≤ 8 * b.length) : (shR b p h).2.2 = 0 → (rwS b (rs0 p) h).e = 0 ∧ canE (rwL b (rs0 p) h) 7 = 0 ∧ kraft (rwL b (rs0 p) h) = 32768 ∧ shR b p h = (rwL b (rs0 p) h, p + 3 * h, 0) := fun q => by
 by_cases h1 : (rwS b (rs0 p) h).e = 0
 ·by_cases h2 : canE (rwL b (rs0 p) h) 7 ≠ 0 ∨ kraft (rwL b (rs0 p) h) ≠ 32768
  ·rw [sh_2 rfl h1 h2] at q; cases q
  ·exact ⟨h1, by omega, by omega, sh_3 rfl h1 (by omega) (by omega)⟩
 ·rw [sh_1 rfl h1] at q; cases q
theorem rw_ok {b : List UInt8} {p : Nat} : ∀ i, (rwS b (rs0 p) i).e = 0 → rwS b (rs0 p) i = rs0 (p + 3 * i)
 | 0, _ => rfl
 | i + 1, h => by
  have h0 : (rwS b (rs0 p) i).e = 0 := by
   rcases Classical.em ((rwS b (rs0 p) i).e = 0) with q | q
   ·exact q
   ·rw [rwS_st q 1] at h; exact h
  have hS := rw_ok i h0
  refine sh_s hS ?_
  rw [rwS, hS, tkS_0 (s := rs0 (p + 3 * i)) rfl] at h
  exact h
theorem sh_132 {b : List UInt8} {p h : Nat} (q : (shR b p h).2.2 ≠ 0) : ((rwS b (rs0 p) h).e ≠ 0 ∧ (shR b p h).2.2 = (rwS b (rs0 p) h).e) ∨ ((rwS b (rs0 p) h).e = 0 ∧ (shR b p h).2.2 = 132 ∧ (canE (rwL b (rs0 p) h) 7 ≠ 0 ∨ kraft (rwL b (rs0 p) h) ≠ 32768)) := by
 by_cases h1 : (rwS b (rs0 p) h).e = 0
 ·right
  by_cases h2 : canE (rwL b (rs0 p) h) 7 ≠ 0 ∨ kraft (rwL b (rs0 p) h) ≠ 32768
  ·exact ⟨h1, by rw [sh_2 rfl h1 h2], h2⟩
  ·rw [sh_3 rfl h1 (by omega) (by omega)] at q; exact absurd rfl q
 ·left
  refine ⟨h1, ?_⟩
  rw [sh_1 rfl h1]
  have : ∀ i, (rwS b (rs0 p) i).e = 0 ∨ (rwS b (rs0 p) i).e = 10 := by
   intro i
   induction i with
   | zero => exact .inl rfl
   | succ i ih =>
    rcases ih with ih | ih
    ·rw [rwS, rw_ok i ih, tkS_0 (s := rs0 (p + 3 * i)) rfl]
     show tkE b (p + 3 * i) 3 = 0 ∨ tkE b (p + 3 * i) 3 = 10
     rcases Classical.em (tkE b (p + 3 * i) 3 = 0) with z | z
     ·exact .inl z
     ·exact .inr (tkE_10 z)
    ·rw [rwS, tkS_x (by omega)]; exact .inr ih
  rcases this h with z | z
  ·exact absurd z h1
  ·exact z.symm
theorem dy_st (b : List UInt8) (p : Nat) : ∃ e, DyE b p (tkV b p 14 % 32) (tkV b p 14 / 32 % 32) (tkV b p 14 / 1024) (shR b (p + 14) (tkV b p 14 / 1024 + 4)) (dlR b (shR b (p + 14) (tkV b p 14 / 1024 + 4)).1 (tkV b p 14 % 32 + 257 + (tkV b p 14 / 32 % 32 + 1)) (shR b (p + 14) (tkV b p 14 / 1024 + 4)).2.1) e ∧
  DyO (dyR b (rs0 p)) (tkV b p 14 % 32) (dlR b (shR b (p + 14) (tkV b p 14 / 1024 + 4)).1 (tkV b p 14 % 32 + 257 + (tkV b p 14 / 32 % 32 + 1)) (shR b (p + 14) (tkV b p 14 / 1024 + 4)).2.1) e := by
 have hv := tkV_lt b p 14
 have hgf : tkV b p 14 % 32 < 32 ∧ tkV b p 14 / 32 % 32 < 32 ∧ tkV b p 14 / 1024 < 16 := by
  have : (2 : Nat) ^ 14 = 16384 := rfl
  omega
 have hw : ∀ i, (rwL b (rs0 (p + 14)) i).length = 19 := fun i => rwL_len b _ i
 rw [dyR_g]
 by_cases t : tkE b p 14 = 0
 ·obtain ⟨n1, n2, n3, n4, n5, n6⟩ := dy_num t
  have hp14 := tkE_le t
  have e4' : dyS4 b (rs0 p) = fl (rs0 (p + 14)) (decide (tkV b p 14 % 32 + 257 ≤ 286) && decide (tkV b p 14 / 32 % 32 + 1 ≤ 30)) 132 := by unfold dyS4; rw [n2, n1, n3, n4, n6]
  rw [n2, n1, n3, n4, n5, e4']
  generalize tkV b p 14 % 32 = g at *
  generalize tkV b p 14 / 32 % 32 = f at *
  generalize tkV b p 14 / 1024 = h at *
  have ho : (shR b (p + 14) (h + 4)).2.2 = 0 → (shR b (p + 14) (h + 4)).1.length = 19 ∧ canE (shR b (p + 14) (h + 4)).1 15 = 0 ∧ (shR b (p + 14) (h + 4)).2.1 ≤ 8 * b.length ∧ shR b (p + 14) (h + 4) = (rwL b (rs0 (p + 14)) (h + 4), p + 14 + 3 * (h + 4), 0) ∧ canE (rwL b (rs0 (p + 14)) (h + 4)) 7 = 0 ∧ kraft (rwL b (rs0 (p + 14)) (h + 4)) = 32768 := fun q => by
   obtain ⟨y1, y2, y3, y4⟩ := sh_ok (b := b) (p := p + 14) (h := h + 4) (by omega) q
   have yr := Rok.rw (b := b) (s := rs0 (p + 14)) (fun _ => by show p + 14 ≤ _; omega) (h + 4) y1
   rw [rw_ok _ y1] at yr
   rw [y4]
   refine ⟨hw _, ?_, yr, rfl, y2, y3⟩
   have := okL_15 (rwL b (rs0 (p + 14)) (h + 4)) (m := 7) (by decide)
   rwa [okL_y y2] at this
  have hl : (shR b (p + 14) (h + 4)).2.2 = 0 → (dlR b (shR b (p + 14) (h + 4)).1 (g + 257 + (f + 1)) (shR b (p + 14) (h + 4)).2.1).2.2 = 0 → (dlR b (shR b (p + 14) (h + 4)).1 (g + 257 + (f + 1)) (shR b (p + 14) (h + 4)).2.1).1.length = g + 257 + (f + 1) ∧ (dlR b (shR b (p + 14) (h + 4)).1 (g + 257 + (f + 1)) (shR b (p + 14) (h + 4)).2.1).2.1 ≤ 8 * b.length := fun q q2 => by
   obtain ⟨y1, _, y3, y4, y5, y6⟩ := ho q
   rw [y4] at q2 y3 ⊢
   have z := (dyG_at (b := b) (g := g) (f := f) (q := p + 14 + 3 * (h + 4)) (hw (h + 4)) y5 y6 rfl).2.2.2 q2
   refine ⟨z.1, ?_⟩
   rw [z.2.2]
   exact lnS_ok rfl (fun _ => y3) z.2.1
  by_cases c : 29 < g ∨ 29 < f
  ·have hc : (decide (g + 257 ≤ 286) && decide (f + 1 ≤ 30)) = false := by
    rw [Bool.and_eq_false_iff, decide_eq_false_iff_not, decide_eq_false_iff_not]; omega
   rw [hc, fl_f rfl, rwS_x (show (132 : Nat) ≠ 0 by decide), dyG_x (show (132 : Nat) ≠ 0 by decide)]
   exact ⟨132, ⟨fun z => absurd t z, fun _ _ => rfl, fun _ z1 z2 => absurd c (by omega), fun _ z1 z2 => absurd c (by omega), fun _ z1 z2 => absurd c (by omega), fun _ z1 z2 => absurd c (by omega), fun _ z => ⟨(ho z).1, (ho z).2.1, (ho z).2.2.1⟩, fun _ => hl, hgf⟩, ⟨rfl, fun z => absurd z (by decide)⟩⟩
  ·have hc : (decide (g + 257 ≤ 286) && decide (f + 1 ≤ 30)) = true := by
    rw [Bool.and_eq_true, decide_eq_true_eq, decide_eq_true_eq]; omega
   rw [hc, fl_t]
   by_cases cs : (shR b (p + 14) (h + 4)).2.2 = 0
   ·obtain ⟨y1, y2, y3, y4, y5, y6⟩ := ho cs
    have hr := rw_ok (b := b) (p := p + 14) (h + 4) (sh_ok (b := b) (p := p + 14) (h := h + 4) (by omega) cs).1
    rw [hr]
    have z := dyG_at (b := b) (g := g) (f := f) (q := p + 14 + 3 * (h + 4)) (hw (h + 4)) y5 y6 rfl
    refine ⟨_, ⟨fun z => absurd t z, fun _ z => absurd z c, fun _ _ _ z => absurd cs z, fun _ _ _ _ => ?_, fun _ _ _ _ => ?_, fun _ _ _ _ q1 q2 q3 q4 => ?_, fun _ _ => ⟨y1, y2, y3⟩, fun _ => hl, hgf⟩, ⟨rfl, fun q => ?_⟩⟩
    ·rw [y4]; exact z.1
    ·rw [y4]; exact z.2.1
    ·rw [y4] at q1 q2 q3 q4
     rw [z.2.2.1 q1 q2 q3 q4]
    ·rw [y4]
     refine Classical.byContradiction fun hno => ?_
     by_cases q1 : (dlR b (rwL b (rs0 (p + 14)) (h + 4)) (g + 257 + (f + 1)) (p + 14 + 3 * (h + 4))).2.2 = 0
     ·by_cases q2 : ((dlR b (rwL b (rs0 (p + 14)) (h + 4)) (g + 257 + (f + 1)) (p + 14 + 3 * (h + 4))).1.getD 256 default).toNat = 0 ∨ canE ((dlR b (rwL b (rs0 (p + 14)) (h + 4)) (g + 257 + (f + 1)) (p + 14 + 3 * (h + 4))).1.take (g + 257)) 15 ≠ 0 ∨ canE ((dlR b (rwL b (rs0 (p + 14)) (h + 4)) (g + 257 + (f + 1)) (p + 14 + 3 * (h + 4))).1.drop (g + 257)) 15 ≠ 0
      ·have := z.2.1 q1 q2; omega
      ·exact hno (z.2.2.1 q1 (by omega) (by omega) (by omega))
     ·have := z.1 q1; omega
   ·rcases sh_132 cs with ⟨z1, z2⟩ | ⟨z1, z2, z3⟩
    ·rw [dyG_x z1]
     exact ⟨_, ⟨fun z => absurd t z, fun _ z => absurd z c, fun _ _ _ _ => z2.symm, fun _ _ _ z => absurd z cs, fun _ _ _ z => absurd z cs, fun _ _ _ z => absurd z cs, fun _ z => absurd z cs, fun _ z => absurd z cs, hgf⟩, ⟨rfl, fun z => absurd z z1⟩⟩
    ·rw [rw_ok _ z1]
     have := dyG_bad (b := b) (g := g) (f := f) (q := p + 14 + 3 * (h + 4)) z3
     exact ⟨132, ⟨fun z => absurd t z, fun _ z => absurd z c, fun _ _ _ _ => z2.symm, fun _ _ _ z => absurd z cs, fun _ _ _ z => absurd z cs, fun _ _ _ z => absurd z cs, fun _ z => absurd z cs, fun _ z => absurd z cs, hgf⟩, ⟨this, fun z => absurd z (by decide)⟩⟩
 ·have h3 : (tkS b 4 (tkS b 5 (tkS b 5 (rs0 p)))).e = 10 := by
   by_cases t1 : tkE b p 5 = 0
   ·have e1 : tkS b 5 (rs0 p) = rs0 (p + 5) := by rw [tkS_0 rfl, t1]
    rw [e1]
    refine ts_bad (a := 5) (c := 4) ?_
    rcases Nat.lt_or_ge (8 * b.length) (p + 14) with q | q
    ·rw [tkE_0 (by omega)]; decide
    ·exact absurd (tkE_1 (by omega)) t
   ·have e1 : tkS b 5 (rs0 p) = ⟨p + 5, tkE b p 5⟩ := tkS_0 rfl
    rw [e1, tkS_x (s := ⟨p + 5, tkE b p 5⟩) t1, tkS_x (s := ⟨p + 5, tkE b p 5⟩) t1]; exact tkE_10 t1
  have e4 : dyS4 b (rs0 p) = tkS b 4 (tkS b 5 (tkS b 5 (rs0 p))) := by unfold dyS4; rw [fl_x (by omega)]
  rw [e4, rwS_x (by omega), dyG_x (by omega)]
  exact ⟨10, ⟨fun z => (tkE_10 z).symm, fun z => absurd z t, fun z => absurd z t, fun z => absurd z t, fun z => absurd z t, fun z => absurd z t, fun z => absurd z t, fun z => absurd z t, hgf⟩, ⟨h3, fun z => absurd z (by decide)⟩⟩

theorem zx0 {p : Prop} (h : p := by (simp;  have q1 := hX.d1 om om; have q2 := hX.d2 om om om; omega)) : p := h
theorem zx1 {p : Prop} (h : p := by ( have q := hX.d1 om om; omega)) : p := h
theorem zx2 {p : Prop} (h : p := by ( have q := hX.d1 om om; have q2 := hX.d2 om om om; omega)) : p := h
theorem zx3 {p : Prop} (h : p := by ( rw [hX.x5 om om om om om om] <;> rfl)) : p := h
theorem zx4 {p : Prop} (h : p := by ( have q := hX.x5 om om om om om om; omega)) : p := h
theorem zx5 {p : Prop} (h : p := by exact (And.intro (D.sim.slw rfl (cond_t (by (simp; done)) |>.trans rfl)) (And.intro (D.sim.refl _) (And.intro (D.sim.refl _) (And.intro (D.sim.refl _) trivial))))) : p := h
theorem zx6 {p : Prop} (h : p := by exact (And.intro (D.sim.slw rfl ((seg_bytes (Prod.fst l) (0) (Int.toNat ((↑v : Int) % 32 + 257) * 1)).trans (by (simp; done)))) (And.intro (D.sim.refl _) trivial))) : p := h
theorem zx7 {p : Prop} (h : p := by exact (And.intro (D.sim.slw rfl (cond_f wr |>.trans (by (simp; done)))) (And.intro (D.sim.refl _) trivial))) : p := h
theorem rTkV_14 (b : List UInt8) (n : Nat) (hn : n = b.length) (hN : n ≤ 1000000) (p : Nat) (hp : p ≤ 8 * n) (v : Nat) (hv : tkV b p 14 = v) : SpecH false Try.prog 51 [.sl false n 1 (b.map dB), nD p, iD 14] [] (.tup [u32D v, nD (tkE b p 14)]) [] := by
 subst hv; exact rTake b n hn hN p 14 (by decide) (by omega)
theorem rShV (b : List UInt8) (n : Nat) (hn : n = b.length) (hN : n ≤ 1000000) (p h : Nat) (r : List UInt8 × Nat × Nat) (hr : shR b p h = r) (pi hi : Int) (hpi : pi = p) (hhi : hi = h) (hp : p ≤ 8 * n) (hh : h ≤ 19) : SpecH false Try.prog 85 [.sl false n 1 (b.map dB), iD pi, iD hi] [] (.tup [.ref 0 0 0 r.1.length 1, nD r.2.1, nD r.2.2]) [⟨r.1.map dB, 5, true⟩] := by
 subst hpi hhi; exact rSh_t b n hn hN p hp h hh r hr
theorem rLenV (b : List UInt8) (n : Nat) (hn : n = b.length) (hN : n ≤ 1000000) (l : List UInt8) (k : Nat) (hk : k = l.length) (p N : Nat) (r : List UInt8 × Nat × Nat) (hr : dlR b l N p = r) (Ni : Int) (hNi : Ni = N) (hl : k ≤ 19) (hT : canE l 15 = 0) (hp : p ≤ 8 * n) (hNN : N ≤ 320) : SpecH false Try.prog 86 [.sl false k 1 (l.map dB), .sl false n 1 (b.map dB), nD p, iD Ni] [] (.tup [.ref 0 0 0 r.1.length 1, nD r.2.1, nD r.2.2]) [⟨r.1.map dB, 5, true⟩] := by
 subst hNi; exact rLen_t b n hn hN l k hk hl hT p hp N hNN r hr
structure DyX (b : List UInt8) (n p g f v : Nat) (s l : List UInt8 × Nat × Nat) (e : Nat) : Prop where
 x1 : tkE b p 14 ≠ 0 → e = tkE b p 14
 x2 : tkE b p 14 = 0 → (29 < g ∨ 29 < f) → e = 132
 x3 : tkE b p 14 = 0 → g ≤ 29 → f ≤ 29 → s.2.2 ≠ 0 → e = s.2.2
 x4 : tkE b p 14 = 0 → g ≤ 29 → f ≤ 29 → s.2.2 = 0 → l.2.2 ≠ 0 → e = l.2.2
 x5 : tkE b p 14 = 0 → g ≤ 29 → f ≤ 29 → s.2.2 = 0 → l.2.2 = 0 → ((l.1.getD 256 default).toNat = 0 ∨ canE (List.take ((v : Int) % 32 + 257).toNat l.1) 15 ≠ 0 ∨ canE (List.take (l.1.length - ((v : Int) % 32 + 257).toNat) (List.drop ((v : Int) % 32 + 257).toNat l.1)) 15 ≠ 0) → e = 132
 x6 : tkE b p 14 = 0 → g ≤ 29 → f ≤ 29 → s.2.2 = 0 → l.2.2 = 0 → ¬ ((l.1.getD 256 default).toNat = 0 ∨ canE (List.take ((v : Int) % 32 + 257).toNat l.1) 15 ≠ 0 ∨ canE (List.take (l.1.length - ((v : Int) % 32 + 257).toNat) (List.drop ((v : Int) % 32 + 257).toNat l.1)) 15 ≠ 0) → e = 0
 p2 : tkE b p 14 = 0 → p + 14 ≤ 8 * n
 d1 : tkE b p 14 = 0 → s.2.2 = 0 → s.1.length = 19 ∧ canE s.1 15 = 0 ∧ s.2.1 ≤ 8 * n
 d2 : tkE b p 14 = 0 → s.2.2 = 0 → l.2.2 = 0 → l.1.length = g + 257 + (f + 1) ∧ l.2.1 ≤ 8 * n
theorem dyX {b : List UInt8} {n p g f h v : Nat} {s l : List UInt8 × Nat × Nat} {e : Nat} (hn : n = b.length) (hg : g = v % 32) (hD : DyE b p g f h s l e) : DyX b n p g f v s l e := by
 have hG : ((v : Int) % 32 + 257).toNat = g + 257 := by omega
 have hT : List.take (l.1.length - (g + 257)) (List.drop (g + 257) l.1) = List.drop (g + 257) l.1 := List.take_of_length_le (by rw [List.length_drop]; exact Nat.le_refl _)
 refine ⟨hD.f1, hD.f2, hD.f3, hD.f4, ?_, ?_, fun q => ?_, ?_, ?_⟩
 ·rw [hG, hT]; exact hD.f5
 ·rw [hG, hT]; exact fun a c d x y z => hD.f6 a c d x y (fun q => z (.inl q)) (Classical.byContradiction fun q => z (.inr (.inl q))) (Classical.byContradiction fun q => z (.inr (.inr q)))
 ·have := tkE_le q; omega
 ·rw [hn]; exact hD.s1
 ·rw [hn]; exact hD.l1
theorem rDy_e (b : List UInt8) (n : Nat) (hn : n = b.length) (hN : n ≤ 1000000) (p : Nat) (hp : p ≤ 8 * n) (kd : Nat) (la : Bool) (hkd : kd ≤ 3) (v : Nat) (hv : tkV b p 14 = v) (hv2 : v < 16384) (g f h : Nat) (hg : g = v % 32) (hf : f = v / 32 % 32) (hh : h = v / 1024) (s : List UInt8 × Nat × Nat) (hs : shR b (p + 14) (h + 4) = s) (l : List UInt8 × Nat × Nat) (hl : dlR b s.1 (g + 257 + (f + 1)) s.2.1 = l) (e : Nat) (hD : DyE b p g f h s l e) (he : e ≠ 0) : SpecH false Try.prog 52 [.agg [u8D kd, bD la, iD 0, nilD, nilD], .sl false n 1 (b.map dB), nD p] [] (.tup [.agg [u8D 0, bD false, iD 0, nilD, nilD], iD 0, nD e]) [] := by
 have hgf := hD.gf
 have hX := dyX hn hg hD
 have hG : ((v : Int) % 32 + 257).toNat = g + 257 := by omega
 refine SpecH.run T_ok mixed Try.func52 rfl rfl rfl trivial rfl 1000 64 (fun R ok => (.s 9 (.cl 51 false [] (.fn q51 (@rTkV_14 (b) (n) om om (p) om (v) asm)) (.s 10 (.br ((↑(tkE b p 14) : Int) != 0) (fun p0 => have p0f := of_bne_t p0; (.s 11 (.out [] [] (D.tup [D.agg [D.v (Value.int .u8 0), D.v (.bool false), iD 0, nilD, nilD], iD 0, nD (tkE b p 14)]) [] R (ok _ _ (by ( rw [hX.x1 om] <;> rfl)) wr)))) (fun p0 => have p0f := of_bne_f p0; (.s 3 (.opt (bitO IntKind.u32 (Int.tmod (↑v : Int) 32)) (D.v (Value.int .u32 ((↑v : Int) % 32))) (bitO_of (@bx_rem  ((↑v : Int)) (32) om)) (.s 1 (.ow ((↑v : Int) % 32) (.s 2 (.ow ((↑v : Int) % 32 + 257) (.s 3 (.opt (bitO IntKind.u32 (IntKind.wrap IntKind.u32 (Int.tdiv (↑v : Int) 32))) (D.v (Value.int .u32 ((↑v : Int) / 32))) (bitO_of (@bx_quo_u32  ((↑v : Int)) (32) om om)) (.s 2 (.opt (bitO IntKind.u32 (Int.tmod ((↑v : Int) / 32) 32)) (D.v (Value.int .u32 ((↑v : Int) / 32 % 32))) (bitO_of (@bx_rem  ((↑v : Int) / 32) (32) om)) (.s 1 (.ow ((↑v : Int) / 32 % 32) (.s 2 (.ow ((↑v : Int) / 32 % 32 + 1) (.s 3 (.opt (bitO IntKind.u32 (IntKind.wrap IntKind.u32 (Int.tdiv (↑v : Int) 1024))) (D.v (Value.int .u32 ((↑v : Int) / 1024))) (bitO_of (@bx_quo_u32  ((↑v : Int)) (1024) om om)) (.s 1 (.ow ((↑v : Int) / 1024) (.s 2 (.ow ((↑v : Int) / 1024 + 4) (.s 8 (.br (decide (286 < (↑v : Int) % 32 + 257)) (fun p1 => have p1f := odt p1; (.s 14 (.out [] [] (D.tup [D.agg [D.v (Value.int .u8 0), D.v (.bool false), iD 0, nilD, nilD], iD 0, iD 132]) [] R (ok _ _ (by ( rw [hX.x2 om om] <;> rfl)) wr)))) (fun p1 => have p1f := odf p1; (.s 4 (.br (decide (30 < (↑v : Int) / 32 % 32 + 1)) (fun p2 => have p2f := odt p2; (.s 10 (.out [] [] (D.tup [D.agg [D.v (Value.int .u8 0), D.v (.bool false), iD 0, nilD, nilD], iD 0, iD 132]) [] R (ok _ _ (by ( rw [hX.x2 om om] <;> rfl)) wr)))) (fun p2 => have p2f := odf p2; (.s 4 (.ow ((↑p : Int) + 14) (.s 2 (.cl 85 false [] (.fn q85 (@rShV (b) (n) om om (p + 14) (h + 4) (s) asm ((↑p : Int) + 14) ((↑v : Int) / 1024 + 4) om om (by ( exact hX.p2 om)) om)) (.s 13 (.br ((↑(Prod.snd (Prod.snd s)) : Int) != 0) (fun p3 => have p3f := of_bne_t p3; (.s 11 (.out [] [] (D.tup [D.agg [D.v (Value.int .u8 0), D.v (.bool false), iD 0, nilD, nilD], iD 0, nD (Prod.snd (Prod.snd s))]) [] R (ok _ _ (by ( rw [hX.x3 om om om om] <;> rfl)) wr)))) (fun p3 => have p3f := of_bne_f p3; (.s 7 (.ow ((↑v : Int) % 32 + 257 + ((↑v : Int) / 32 % 32 + 1)) (.s 1 (.call 86 false [] (true && (true && Nat.ble (0 + List.length (Prod.fst s) * 1) (List.length (List.map dB (Prod.fst s))) && true && closedL (bif true && Nat.beq (List.length (Prod.fst s) * 1) (List.length (List.map dB (Prod.fst s))) then List.map dB (Prod.fst s) else List.take (List.length (Prod.fst s) * 1) (List.drop 0 (List.map dB (Prod.fst s))))) && true) (by (simp; done)) ([D.sl (Nat.ble 1 (List.length (Prod.fst s))) (List.length (Prod.fst s)) 1 (bif true && Nat.beq (List.length (Prod.fst s) * 1) (List.length (List.map dB (Prod.fst s))) then List.map dB (Prod.fst s) else List.take (List.length (Prod.fst s) * 1) (List.drop 0 (List.map dB (Prod.fst s)))), D.sl false n 1 (List.map dB b), nD (Prod.fst (Prod.snd s)), iD ((↑v : Int) % 32 + 257 + ((↑v : Int) / 32 % 32 + 1))]) _ zx5 (true) wr _ _ _ (CallOk.fn (FnOk.of Try.func86 rfl rfl) (@rLenV (b) (n) om om (Prod.fst s) (List.length (Prod.fst s)) om (Prod.fst (Prod.snd s)) (g + 257 + (f + 1)) (l) asm ((↑v : Int) % 32 + 257 + ((↑v : Int) / 32 % 32 + 1)) om zx1 (by ( exact (hX.d1 om om).2.1)) zx1 om)) (.s 13 (.br ((↑(Prod.snd (Prod.snd l)) : Int) != 0) (fun p4 => have p4f := of_bne_t p4; (.s 11 (.out [] [] (D.tup [D.agg [D.v (Value.int .u8 0), D.v (.bool false), iD 0, nilD, nilD], iD 0, nD (Prod.snd (Prod.snd l))]) [] R (ok _ _ (by ( rw [hX.x4 om om om om om] <;> rfl)) wr)))) (fun p4 => have p4f := of_bne_f p4; (.s 3 (.chk (bndOk none (some ((↑v : Int) % 32 + 257)) none (List.length (Prod.fst l)) && true) zx0 (.s 9 (.chk (bndOk (some ((↑v : Int) % 32 + 257)) none none (List.length (Prod.fst l)) && true) zx0 (.s 13 (.chk (true && decide (256 < (↑(Int.toNat ((↑v : Int) % 32 + 257)) : Int))) (by ( refine decide_eq_true ?_; have q2 := hX.d2 om om om; omega)) (.s 2 (.opt ((List.map dB (Prod.fst l))[256]?) (dB (List.getD (Prod.fst l) 256 default)) (map_get _ _ zx2) (.s 4 (.br ((↑(UInt8.toNat (List.getD (Prod.fst l) 256 default)) : Int) == 0) (fun p5 => have p5f := eq_of_beq p5; (.s 28 (.out [] [] (D.tup [D.agg [D.v (Value.int .u8 0), D.v (.bool false), iD 0, nilD, nilD], iD 0, iD 132]) [] R (ok _ _ zx3 wr)))) (fun p5 => have p5f := of_beq_f p5; (.s 8 (.call 87 false [] (true && (true && Nat.ble (0 + Int.toNat ((↑v : Int) % 32 + 257) * 1) (List.length (List.map dB (Prod.fst l))) && true && closedL (bif true && Nat.beq (Int.toNat ((↑v : Int) % 32 + 257) * 1) (List.length (List.map dB (Prod.fst l))) then List.map dB (Prod.fst l) else List.take (Int.toNat ((↑v : Int) % 32 + 257) * 1) (List.drop 0 (List.map dB (Prod.fst l))))) && true) zx0 ([D.sl true (Int.toNat ((↑v : Int) % 32 + 257)) 1 (bif true && Nat.beq (Int.toNat ((↑v : Int) % 32 + 257) * 1) (List.length (List.map dB (Prod.fst l))) then List.map dB (Prod.fst l) else List.take (Int.toNat ((↑v : Int) % 32 + 257) * 1) (List.drop 0 (List.map dB (Prod.fst l)))), iD 15]) _ zx6 (true) wr _ _ _ (CallOk.fn (FnOk.of Try.func87 rfl rfl) (@rCan (List.take (Int.toNat ((↑v : Int) % 32 + 257)) (Prod.fst l)) (Int.toNat ((↑v : Int) % 32 + 257)) zx0 om (15) (by (simp; done)))) (.s 6 (.br ((↑(canE (List.take (Int.toNat ((↑v : Int) % 32 + 257)) (Prod.fst l)) 15) : Int) != 0) (fun p6 => have p6f := of_bne_t p6; (.s 18 (.out [] [] (D.tup [D.agg [D.v (Value.int .u8 0), D.v (.bool false), iD 0, nilD, nilD], iD 0, iD 132]) [] R (ok _ _ zx3 wr)))) (fun p6 => have p6f := of_bne_f p6; (.s 8 (.call 87 false [] (true && (true && Nat.ble (0 + Int.toNat ((↑v : Int) % 32 + 257) * 1 + (List.length (Prod.fst l) - Int.toNat ((↑v : Int) % 32 + 257)) * 1) (List.length (List.map dB (Prod.fst l))) && true && closedL (bif false then List.map dB (Prod.fst l) else List.take ((List.length (Prod.fst l) - Int.toNat ((↑v : Int) % 32 + 257)) * 1) (List.drop (0 + Int.toNat ((↑v : Int) % 32 + 257) * 1) (List.map dB (Prod.fst l))))) && true) zx0 ([D.sl (Nat.ble 1 (List.length (Prod.fst l) - Int.toNat ((↑v : Int) % 32 + 257))) (List.length (Prod.fst l) - Int.toNat ((↑v : Int) % 32 + 257)) 1 (bif false then List.map dB (Prod.fst l) else List.take ((List.length (Prod.fst l) - Int.toNat ((↑v : Int) % 32 + 257)) * 1) (List.drop (0 + Int.toNat ((↑v : Int) % 32 + 257) * 1) (List.map dB (Prod.fst l)))), iD 15]) _ zx7 (true) wr _ _ _ (CallOk.fn (FnOk.of Try.func87 rfl rfl) (@rCan (List.take (List.length (Prod.fst l) - Int.toNat ((↑v : Int) % 32 + 257)) (List.drop (Int.toNat ((↑v : Int) % 32 + 257)) (Prod.fst l))) (List.length (Prod.fst l) - Int.toNat ((↑v : Int) % 32 + 257)) (by (simp; done)) zx2 (15) (by (simp; done)))) (.s 4 (.br ((↑(canE (List.take (List.length (Prod.fst l) - Int.toNat ((↑v : Int) % 32 + 257)) (List.drop (Int.toNat ((↑v : Int) % 32 + 257)) (Prod.fst l))) 15) : Int) != 0) (fun p7 => have p7f := of_bne_t p7; (.s 10 (.out [] [] (D.tup [D.agg [D.v (Value.int .u8 0), D.v (.bool false), iD 0, nilD, nilD], iD 0, iD 132]) [] R (ok _ _ zx3 wr)))) (fun p7 => have p7f := of_bne_f p7; (.abs (by ( exact he (hX.x6 om om om om om om))))))))))))))))))))))))))))))))))))))))))))))))))))))))))))))))))))))) (by kernel_rfl)
theorem rDy_o (b : List UInt8) (n : Nat) (hn : n = b.length) (hN : n ≤ 1000000) (p : Nat) (hp : p ≤ 8 * n) (kd : Nat) (la : Bool) (hkd : kd ≤ 3) (v : Nat) (hv : tkV b p 14 = v) (hv2 : v < 16384) (g f h : Nat) (hg : g = v % 32) (hf : f = v / 32 % 32) (hh : h = v / 1024) (s : List UInt8 × Nat × Nat) (hs : shR b (p + 14) (h + 4) = s) (l : List UInt8 × Nat × Nat) (hl : dlR b s.1 (g + 257 + (f + 1)) s.2.1 = l) (e : Nat) (hD : DyE b p g f h s l e) (he : e = 0) : SpecH false Try.prog 52 [.agg [u8D kd, bD la, iD 0, nilD, nilD], .sl false n 1 (b.map dB), nD p] [] (.tup [.agg [u8D kd, bD la, iD 0, .ref 0 0 0 (g + 257) 1, .ref 0 0 (g + 257) (f + 1) 1], nD l.2.1, iD 0]) [⟨l.1.map dB, 5, true⟩] := by
 have hgf := hD.gf
 have hX := dyX hn hg hD
 have hG : ((v : Int) % 32 + 257).toNat = g + 257 := by omega
 refine SpecH.run T_ok mixed Try.func52 rfl rfl rfl ⟨pl_bytes _, trivial⟩ rfl 1000 64 (fun R ok => (.s 9 (.cl 51 false [] (.fn q51 (@rTkV_14 (b) (n) om om (p) om (v) asm)) (.s 10 (.br ((↑(tkE b p 14) : Int) != 0) (fun p0 => have p0f := of_bne_t p0; (.abs (by ( have q := hX.x1 om; omega)))) (fun p0 => have p0f := of_bne_f p0; (.s 3 (.opt (bitO IntKind.u32 (Int.tmod (↑v : Int) 32)) (D.v (Value.int .u32 ((↑v : Int) % 32))) (bitO_of (@bx_rem  ((↑v : Int)) (32) om)) (.s 1 (.ow ((↑v : Int) % 32) (.s 2 (.ow ((↑v : Int) % 32 + 257) (.s 3 (.opt (bitO IntKind.u32 (IntKind.wrap IntKind.u32 (Int.tdiv (↑v : Int) 32))) (D.v (Value.int .u32 ((↑v : Int) / 32))) (bitO_of (@bx_quo_u32  ((↑v : Int)) (32) om om)) (.s 2 (.opt (bitO IntKind.u32 (Int.tmod ((↑v : Int) / 32) 32)) (D.v (Value.int .u32 ((↑v : Int) / 32 % 32))) (bitO_of (@bx_rem  ((↑v : Int) / 32) (32) om)) (.s 1 (.ow ((↑v : Int) / 32 % 32) (.s 2 (.ow ((↑v : Int) / 32 % 32 + 1) (.s 3 (.opt (bitO IntKind.u32 (IntKind.wrap IntKind.u32 (Int.tdiv (↑v : Int) 1024))) (D.v (Value.int .u32 ((↑v : Int) / 1024))) (bitO_of (@bx_quo_u32  ((↑v : Int)) (1024) om om)) (.s 1 (.ow ((↑v : Int) / 1024) (.s 2 (.ow ((↑v : Int) / 1024 + 4) (.s 8 (.br (decide (286 < (↑v : Int) % 32 + 257)) (fun p1 => have p1f := odt p1; (.abs (by ( have q := hX.x2 om om; omega)))) (fun p1 => have p1f := odf p1; (.s 4 (.br (decide (30 < (↑v : Int) / 32 % 32 + 1)) (fun p2 => have p2f := odt p2; (.abs (by ( have q := hX.x2 om om; omega)))) (fun p2 => have p2f := odf p2; (.s 4 (.ow ((↑p : Int) + 14) (.s 2 (.cl 85 false [] (.fn q85 (@rShV (b) (n) om om (p + 14) (h + 4) (s) asm ((↑p : Int) + 14) ((↑v : Int) / 1024 + 4) om om (by ( exact hX.p2 om)) om)) (.s 13 (.br ((↑(Prod.snd (Prod.snd s)) : Int) != 0) (fun p3 => have p3f := of_bne_t p3; (.abs (by ( have q := hX.x3 om om om om; omega)))) (fun p3 => have p3f := of_bne_f p3; (.s 7 (.ow ((↑v : Int) % 32 + 257 + ((↑v : Int) / 32 % 32 + 1)) (.s 1 (.call 86 false [] (true && (true && Nat.ble (0 + List.length (Prod.fst s) * 1) (List.length (List.map dB (Prod.fst s))) && true && closedL (bif true && Nat.beq (List.length (Prod.fst s) * 1) (List.length (List.map dB (Prod.fst s))) then List.map dB (Prod.fst s) else List.take (List.length (Prod.fst s) * 1) (List.drop 0 (List.map dB (Prod.fst s))))) && true) (by (simp; done)) ([D.sl (Nat.ble 1 (List.length (Prod.fst s))) (List.length (Prod.fst s)) 1 (bif true && Nat.beq (List.length (Prod.fst s) * 1) (List.length (List.map dB (Prod.fst s))) then List.map dB (Prod.fst s) else List.take (List.length (Prod.fst s) * 1) (List.drop 0 (List.map dB (Prod.fst s)))), D.sl false n 1 (List.map dB b), nD (Prod.fst (Prod.snd s)), iD ((↑v : Int) % 32 + 257 + ((↑v : Int) / 32 % 32 + 1))]) _ zx5 (true) wr _ _ _ (CallOk.fn (FnOk.of Try.func86 rfl rfl) (@rLenV (b) (n) om om (Prod.fst s) (List.length (Prod.fst s)) om (Prod.fst (Prod.snd s)) (g + 257 + (f + 1)) (l) asm ((↑v : Int) % 32 + 257 + ((↑v : Int) / 32 % 32 + 1)) om zx1 (by ( exact (hX.d1 om om).2.1)) zx1 om)) (.s 13 (.br ((↑(Prod.snd (Prod.snd l)) : Int) != 0) (fun p4 => have p4f := of_bne_t p4; (.abs (by ( have q := hX.x4 om om om om om; omega)))) (fun p4 => have p4f := of_bne_f p4; (.s 3 (.chk (bndOk none (some ((↑v : Int) % 32 + 257)) none (List.length (Prod.fst l)) && true) zx0 (.s 9 (.chk (bndOk (some ((↑v : Int) % 32 + 257)) none none (List.length (Prod.fst l)) && true) zx0 (.s 13 (.chk (true && decide (256 < (↑(Int.toNat ((↑v : Int) % 32 + 257)) : Int))) (by ( refine decide_eq_true ?_; have q2 := hX.d2 om om om; omega)) (.s 2 (.opt ((List.map dB (Prod.fst l))[256]?) (dB (List.getD (Prod.fst l) 256 default)) (map_get _ _ zx2) (.s 4 (.br ((↑(UInt8.toNat (List.getD (Prod.fst l) 256 default)) : Int) == 0) (fun p5 => have p5f := eq_of_beq p5; (.abs zx4)) (fun p5 => have p5f := of_beq_f p5; (.s 8 (.call 87 false [] (true && (true && Nat.ble (0 + Int.toNat ((↑v : Int) % 32 + 257) * 1) (List.length (List.map dB (Prod.fst l))) && true && closedL (bif true && Nat.beq (Int.toNat ((↑v : Int) % 32 + 257) * 1) (List.length (List.map dB (Prod.fst l))) then List.map dB (Prod.fst l) else List.take (Int.toNat ((↑v : Int) % 32 + 257) * 1) (List.drop 0 (List.map dB (Prod.fst l))))) && true) zx0 ([D.sl true (Int.toNat ((↑v : Int) % 32 + 257)) 1 (bif true && Nat.beq (Int.toNat ((↑v : Int) % 32 + 257) * 1) (List.length (List.map dB (Prod.fst l))) then List.map dB (Prod.fst l) else List.take (Int.toNat ((↑v : Int) % 32 + 257) * 1) (List.drop 0 (List.map dB (Prod.fst l)))), iD 15]) _ zx6 (true) wr _ _ _ (CallOk.fn (FnOk.of Try.func87 rfl rfl) (@rCan (List.take (Int.toNat ((↑v : Int) % 32 + 257)) (Prod.fst l)) (Int.toNat ((↑v : Int) % 32 + 257)) zx0 om (15) (by (simp; done)))) (.s 6 (.br ((↑(canE (List.take (Int.toNat ((↑v : Int) % 32 + 257)) (Prod.fst l)) 15) : Int) != 0) (fun p6 => have p6f := of_bne_t p6; (.abs zx4)) (fun p6 => have p6f := of_bne_f p6; (.s 8 (.call 87 false [] (true && (true && Nat.ble (0 + Int.toNat ((↑v : Int) % 32 + 257) * 1 + (List.length (Prod.fst l) - Int.toNat ((↑v : Int) % 32 + 257)) * 1) (List.length (List.map dB (Prod.fst l))) && true && closedL (bif false then List.map dB (Prod.fst l) else List.take ((List.length (Prod.fst l) - Int.toNat ((↑v : Int) % 32 + 257)) * 1) (List.drop (0 + Int.toNat ((↑v : Int) % 32 + 257) * 1) (List.map dB (Prod.fst l))))) && true) zx0 ([D.sl (Nat.ble 1 (List.length (Prod.fst l) - Int.toNat ((↑v : Int) % 32 + 257))) (List.length (Prod.fst l) - Int.toNat ((↑v : Int) % 32 + 257)) 1 (bif false then List.map dB (Prod.fst l) else List.take ((List.length (Prod.fst l) - Int.toNat ((↑v : Int) % 32 + 257)) * 1) (List.drop (0 + Int.toNat ((↑v : Int) % 32 + 257) * 1) (List.map dB (Prod.fst l)))), iD 15]) _ zx7 (true) wr _ _ _ (CallOk.fn (FnOk.of Try.func87 rfl rfl) (@rCan (List.take (List.length (Prod.fst l) - Int.toNat ((↑v : Int) % 32 + 257)) (List.drop (Int.toNat ((↑v : Int) % 32 + 257)) (Prod.fst l))) (List.length (Prod.fst l) - Int.toNat ((↑v : Int) % 32 + 257)) (by (simp; done)) zx2 (15) (by (simp; done)))) (.s 4 (.br ((↑(canE (List.take (List.length (Prod.fst l) - Int.toNat ((↑v : Int) % 32 + 257)) (List.drop (Int.toNat ((↑v : Int) % 32 + 257)) (Prod.fst l))) 15) : Int) != 0) (fun p7 => have p7f := of_bne_t p7; (.abs zx4)) (fun p7 => have p7f := of_bne_f p7; (.s 13 (.out [448] [448] (D.tup [D.agg [D.v (Value.int .u8 (↑kd : Int)), D.v (.bool la), iD 0, D.ref 0 0 0 (Int.toNat ((↑v : Int) % 32 + 257)) 1, D.ref 0 0 (0 + Int.toNat ((↑v : Int) % 32 + 257) * 1) (List.length (Prod.fst l) - Int.toNat ((↑v : Int) % 32 + 257)) 1], nD (Prod.fst (Prod.snd l)), iD 0]) [Blk.mk (List.map dB (Prod.fst l)) 5 true] R (ok _ _ (by ( have q2 := hX.d2 om om om; rw [hG, show 0 + (g + 257) * 1 = g + 257 from by omega, show l.1.length - (g + 257) = f + 1 from by omega] <;> rfl)) wr)))))))))))))))))))))))))))))))))))))))))))))))))))))))))))))))))))))) (by kernel_rfl)
theorem rFars (F : List UInt8) (hF : F = farsB) : SpecH false Try.prog 54 [] [] (.ref 0 0 0 32 1) [⟨F.map dB, 5, true⟩] := by
 refine SpecH.run T_ok mixed Try.func54 rfl rfl rfl ⟨pl_bytes _, trivial⟩ rfl 8000 64 (fun R ok => (.s 524 (.out [8] [8] (D.ref 0 0 0 32 1) [Blk.mk [D.v (Value.int .u8 5), D.v (Value.int .u8 5), D.v (Value.int .u8 5), D.v (Value.int .u8 5), D.v (Value.int .u8 5), D.v (Value.int .u8 5), D.v (Value.int .u8 5), D.v (Value.int .u8 5), D.v (Value.int .u8 5), D.v (Value.int .u8 5), D.v (Value.int .u8 5), D.v (Value.int .u8 5), D.v (Value.int .u8 5), D.v (Value.int .u8 5), D.v (Value.int .u8 5), D.v (Value.int .u8 5), D.v (Value.int .u8 5), D.v (Value.int .u8 5), D.v (Value.int .u8 5), D.v (Value.int .u8 5), D.v (Value.int .u8 5), D.v (Value.int .u8 5), D.v (Value.int .u8 5), D.v (Value.int .u8 5), D.v (Value.int .u8 5), D.v (Value.int .u8 5), D.v (Value.int .u8 5), D.v (Value.int .u8 5), D.v (Value.int .u8 5), D.v (Value.int .u8 5), D.v (Value.int .u8 5), D.v (Value.int .u8 5)] 5 true] R (ok _ _ wr (by (subst hF; rfl)))))) (by kernel_rfl)
theorem rLongs (L : List UInt8) (hL : L = longsB) : SpecH false Try.prog 53 [] [] (.ref 0 0 0 288 1) [⟨L.map dB, 5, true⟩] := by
 refine SpecH.run T_ok mixed Try.func53 rfl rfl rfl ⟨pl_bytes _, trivial⟩ rfl 20000 64 (fun R ok => (.s 11508 (.out [8] [8] (D.ref 0 0 0 288 1) [Blk.mk [D.v (Value.int .u8 8), D.v (Value.int .u8 8), D.v (Value.int .u8 8), D.v (Value.int .u8 8), D.v (Value.int .u8 8), D.v (Value.int .u8 8), D.v (Value.int .u8 8), D.v (Value.int .u8 8), D.v (Value.int .u8 8), D.v (Value.int .u8 8), D.v (Value.int .u8 8), D.v (Value.int .u8 8), D.v (Value.int .u8 8), D.v (Value.int .u8 8), D.v (Value.int .u8 8), D.v (Value.int .u8 8), D.v (Value.int .u8 8), D.v (Value.int .u8 8), D.v (Value.int .u8 8), D.v (Value.int .u8 8), D.v (Value.int .u8 8), D.v (Value.int .u8 8), D.v (Value.int .u8 8), D.v (Value.int .u8 8), D.v (Value.int .u8 8), D.v (Value.int .u8 8), D.v (Value.int .u8 8), D.v (Value.int .u8 8), D.v (Value.int .u8 8), D.v (Value.int .u8 8), D.v (Value.int .u8 8), D.v (Value.int .u8 8), D.v (Value.int .u8 8), D.v (Value.int .u8 8), D.v (Value.int .u8 8), D.v (Value.int .u8 8), D.v (Value.int .u8 8), D.v (Value.int .u8 8), D.v (Value.int .u8 8), D.v (Value.int .u8 8), D.v (Value.int .u8 8), D.v (Value.int .u8 8), D.v (Value.int .u8 8), D.v (Value.int .u8 8), D.v (Value.int .u8 8), D.v (Value.int .u8 8), D.v (Value.int .u8 8), D.v (Value.int .u8 8), D.v (Value.int .u8 8), D.v (Value.int .u8 8), D.v (Value.int .u8 8), D.v (Value.int .u8 8), D.v (Value.int .u8 8), D.v (Value.int .u8 8), D.v (Value.int .u8 8), D.v (Value.int .u8 8), D.v (Value.int .u8 8), D.v (Value.int .u8 8), D.v (Value.int .u8 8), D.v (Value.int .u8 8), D.v (Value.int .u8 8), D.v (Value.int .u8 8), D.v (Value.int .u8 8), D.v (Value.int .u8 8), D.v (Value.int .u8 8), D.v (Value.int .u8 8), D.v (Value.int .u8 8), D.v (Value.int .u8 8), D.v (Value.int .u8 8), D.v (Value.int .u8 8), D.v (Value.int .u8 8), D.v (Value.int .u8 8), D.v (Value.int .u8 8), D.v (Value.int .u8 8), D.v (Value.int .u8 8), D.v (Value.int .u8 8), D.v (Value.int .u8 8), D.v (Value.int .u8 8), D.v (Value.int .u8 8), D.v (Value.int .u8 8), D.v (Value.int .u8 8), D.v (Value.int .u8 8), D.v (Value.int .u8 8), D.v (Value.int .u8 8), D.v (Value.int .u8 8), D.v (Value.int .u8 8), D.v (Value.int .u8 8), D.v (Value.int .u8 8), D.v (Value.int .u8 8), D.v (Value.int .u8 8), D.v (Value.int .u8 8), D.v (Value.int .u8 8), D.v (Value.int .u8 8), D.v (Value.int .u8 8), D.v (Value.int .u8 8), D.v (Value.int .u8 8), D.v (Value.int .u8 8), D.v (Value.int .u8 8), D.v (Value.int .u8 8), D.v (Value.int .u8 8), D.v (Value.int .u8 8), D.v (Value.int .u8 8), D.v (Value.int .u8 8), D.v (Value.int .u8 8), D.v (Value.int .u8 8), D.v (Value.int .u8 8), D.v (Value.int .u8 8), D.v (Value.int .u8 8), D.v (Value.int .u8 8), D.v (Value.int .u8 8), D.v (Value.int .u8 8), D.v (Value.int .u8 8), D.v (Value.int .u8 8), D.v (Value.int .u8 8), D.v (Value.int .u8 8), D.v (Value.int .u8 8), D.v (Value.int .u8 8), D.v (Value.int .u8 8), D.v (Value.int .u8 8), D.v (Value.int .u8 8), D.v (Value.int .u8 8), D.v (Value.int .u8 8), D.v (Value.int .u8 8), D.v (Value.int .u8 8), D.v (Value.int .u8 8), D.v (Value.int .u8 8), D.v (Value.int .u8 8), D.v (Value.int .u8 8), D.v (Value.int .u8 8), D.v (Value.int .u8 8), D.v (Value.int .u8 8), D.v (Value.int .u8 8), D.v (Value.int .u8 8), D.v (Value.int .u8 8), D.v (Value.int .u8 8), D.v (Value.int .u8 8), D.v (Value.int .u8 8), D.v (Value.int .u8 8), D.v (Value.int .u8 8), D.v (Value.int .u8 8), D.v (Value.int .u8 8), D.v (Value.int .u8 8), D.v (Value.int .u8 8), D.v (Value.int .u8 8), D.v (Value.int .u8 9), D.v (Value.int .u8 9), D.v (Value.int .u8 9), D.v (Value.int .u8 9), D.v (Value.int .u8 9), D.v (Value.int .u8 9), D.v (Value.int .u8 9), D.v (Value.int .u8 9), D.v (Value.int .u8 9), D.v (Value.int .u8 9), D.v (Value.int .u8 9), D.v (Value.int .u8 9), D.v (Value.int .u8 9), D.v (Value.int .u8 9), D.v (Value.int .u8 9), D.v (Value.int .u8 9), D.v (Value.int .u8 9), D.v (Value.int .u8 9), D.v (Value.int .u8 9), D.v (Value.int .u8 9), D.v (Value.int .u8 9), D.v (Value.int .u8 9), D.v (Value.int .u8 9), D.v (Value.int .u8 9), D.v (Value.int .u8 9), D.v (Value.int .u8 9), D.v (Value.int .u8 9), D.v (Value.int .u8 9), D.v (Value.int .u8 9), D.v (Value.int .u8 9), D.v (Value.int .u8 9), D.v (Value.int .u8 9), D.v (Value.int .u8 9), D.v (Value.int .u8 9), D.v (Value.int .u8 9), D.v (Value.int .u8 9), D.v (Value.int .u8 9), D.v (Value.int .u8 9), D.v (Value.int .u8 9), D.v (Value.int .u8 9), D.v (Value.int .u8 9), D.v (Value.int .u8 9), D.v (Value.int .u8 9), D.v (Value.int .u8 9), D.v (Value.int .u8 9), D.v (Value.int .u8 9), D.v (Value.int .u8 9), D.v (Value.int .u8 9), D.v (Value.int .u8 9), D.v (Value.int .u8 9), D.v (Value.int .u8 9), D.v (Value.int .u8 9), D.v (Value.int .u8 9), D.v (Value.int .u8 9), D.v (Value.int .u8 9), D.v (Value.int .u8 9), D.v (Value.int .u8 9), D.v (Value.int .u8 9), D.v (Value.int .u8 9), D.v (Value.int .u8 9), D.v (Value.int .u8 9), D.v (Value.int .u8 9), D.v (Value.int .u8 9), D.v (Value.int .u8 9), D.v (Value.int .u8 9), D.v (Value.int .u8 9), D.v (Value.int .u8 9), D.v (Value.int .u8 9), D.v (Value.int .u8 9), D.v (Value.int .u8 9), D.v (Value.int .u8 9), D.v (Value.int .u8 9), D.v (Value.int .u8 9), D.v (Value.int .u8 9), D.v (Value.int .u8 9), D.v (Value.int .u8 9), D.v (Value.int .u8 9), D.v (Value.int .u8 9), D.v (Value.int .u8 9), D.v (Value.int .u8 9), D.v (Value.int .u8 9), D.v (Value.int .u8 9), D.v (Value.int .u8 9), D.v (Value.int .u8 9), D.v (Value.int .u8 9), D.v (Value.int .u8 9), D.v (Value.int .u8 9), D.v (Value.int .u8 9), D.v (Value.int .u8 9), D.v (Value.int .u8 9), D.v (Value.int .u8 9), D.v (Value.int .u8 9), D.v (Value.int .u8 9), D.v (Value.int .u8 9), D.v (Value.int .u8 9), D.v (Value.int .u8 9), D.v (Value.int .u8 9), D.v (Value.int .u8 9), D.v (Value.int .u8 9), D.v (Value.int .u8 9), D.v (Value.int .u8 9), D.v (Value.int .u8 9), D.v (Value.int .u8 9), D.v (Value.int .u8 9), D.v (Value.int .u8 9), D.v (Value.int .u8 9), D.v (Value.int .u8 9), D.v (Value.int .u8 9), D.v (Value.int .u8 9), D.v (Value.int .u8 9), D.v (Value.int .u8 9), D.v (Value.int .u8 9), D.v (Value.int .u8 7), D.v (Value.int .u8 7), D.v (Value.int .u8 7), D.v (Value.int .u8 7), D.v (Value.int .u8 7), D.v (Value.int .u8 7), D.v (Value.int .u8 7), D.v (Value.int .u8 7), D.v (Value.int .u8 7), D.v (Value.int .u8 7), D.v (Value.int .u8 7), D.v (Value.int .u8 7), D.v (Value.int .u8 7), D.v (Value.int .u8 7), D.v (Value.int .u8 7), D.v (Value.int .u8 7), D.v (Value.int .u8 7), D.v (Value.int .u8 7), D.v (Value.int .u8 7), D.v (Value.int .u8 7), D.v (Value.int .u8 7), D.v (Value.int .u8 7), D.v (Value.int .u8 7), D.v (Value.int .u8 7), D.v (Value.int .u8 8), D.v (Value.int .u8 8), D.v (Value.int .u8 8), D.v (Value.int .u8 8), D.v (Value.int .u8 8), D.v (Value.int .u8 8), D.v (Value.int .u8 8), D.v (Value.int .u8 8)] 5 true] R (ok _ _ wr (by (subst hL; rfl)))))) (by kernel_rfl)
theorem zz0 {p : Prop} (h : p := by ( have q1 := hB.kd om; omega)) : p := h
theorem zz1 {p : Prop} (h : p := by (refine iv_eq ?_; (omega))) : p := h
theorem zz2 {p : Prop} (h : p := by exact (And.intro (D.sim.agg (And.intro (D.sim.of_eq (by (refine iv_eq ?_; (omega)))) (And.intro (D.sim.refl _) (And.intro (D.sim.refl _) (And.intro (D.sim.refl _) (And.intro (D.sim.refl _) trivial)))))) (And.intro (D.sim.refl _) (And.intro (D.sim.of_eq (by (refine iv_eq ?_; (omega)))) trivial)))) : p := h
structure BgE (b : List UInt8) (n p v q x : Nat) (H : Hd) : Prop where
 g1 : tkE b p 3 ≠ 0 → H.s.e = tkE b p 3
 g2 : tkE b p 3 = 0 → v / 2 = 3 → H.s.e = 130
 g3 : tkE b p 3 = 0 → v / 2 = 2 → H.s = (dyR b (rs0 (p + 3))).1 ∧ H.kd = 2 ∧ H.le = 0 ∧ H.l1 = (dyR b (rs0 (p + 3))).2.1 ∧ H.l2 = (dyR b (rs0 (p + 3))).2.2
 g4 : tkE b p 3 = 0 → v / 2 = 1 → H.s = rs0 (p + 3) ∧ H.kd = 1 ∧ H.le = 0 ∧ H.l1 = longsB ∧ H.l2 = farsB
 g5 : tkE b p 3 = 0 → v / 2 = 0 → tkE b q 32 ≠ 0 → H.s.e = tkE b q 32
 g6 : tkE b p 3 = 0 → v / 2 = 0 → tkE b q 32 = 0 → x % 65536 + x / 65536 ≠ 65535 → H.s.e = 131
 g7 : tkE b p 3 = 0 → v / 2 = 0 → tkE b q 32 = 0 → x % 65536 + x / 65536 = 65535 → H.s = rs0 (q + 32) ∧ H.kd = 0 ∧ H.le = x % 65536 ∧ H.l1 = [] ∧ H.l2 = []
 la : tkE b p 3 = 0 → H.la = (((v % 2 : Nat) : Int) == 1)
 p3 : tkE b p 3 = 0 → p + 3 ≤ 8 * n
 q3 : tkE b p 3 = 0 → q ≤ 8 * n
 kd : tkE b p 3 = 0 → H.kd = v / 2
theorem bg_st (b : List UInt8) (n : Nat) (hn : n = b.length) (p v q x : Nat) (hv : tkV b p 3 = v) (hq : q = (p + 3 + 7) / 8 * 8) (hx : tkV b q 32 = x) : BgE b n p v q x (hdR b (rs0 p)) := by
 rw [hdR_eq]
 unfold hdD
 dsimp only
 by_cases t : tkE b p 3 = 0
 ·have a1 := tk_add (b := b) (p := p) (a := 1) (c := 2) t
  have b1 := ts_add (b := b) (p := p) (a := 1) (c := 2) t
  have e1 : tkN b 1 (rs0 p) = tkV b p 1 := tkN_0 rfl
  have e2 : tkN b 2 (rs0 (p + 1)) = tkV b (p + 1) 2 := tkN_0 rfl
  have l1 := tkV_lt b p 1
  have l2 := tkV_lt b (p + 1) 2
  have v1 : v = tkV b p 1 + 2 ^ 1 * tkV b (p + 1) 2 := by rw [← hv]; exact a1.2.2
  have p1 : (2 : Nat) ^ 1 = 2 := rfl
  have p2 : (2 : Nat) ^ 2 = 4 := rfl
  have hp := tkE_le t
  rw [b1.1, b1.2, e1, e2, show p + 1 + 2 = p + 3 from by omega]
  have ev : tkV b (p + 1) 2 = v / 2 := by omega
  have ea : tkV b p 1 = v % 2 := by omega
  rw [ev, ea]
  have hv8 : v / 2 < 4 := by omega
  by_cases c3 : v / 2 = 3
  ·have e3 : fl (rs0 (p + 3)) (decide (((v / 2 : Nat) : Int) ≤ 2)) 130 = ⟨p + 3, 130⟩ := by rw [decide_eq_false (by omega), fl_f rfl]
   rw [e3, if_pos (show (130 : Nat) ≠ 0 by decide)]
   exact ⟨fun z => absurd t z, fun _ _ => rfl, fun _ z => by omega, fun _ z => by omega, fun _ z => by omega, fun _ z => by omega, fun _ z => by omega, fun _ => rfl, fun _ => by omega, fun _ => by omega, fun _ => rfl⟩
  ·have e3 : fl (rs0 (p + 3)) (decide (((v / 2 : Nat) : Int) ≤ 2)) 130 = rs0 (p + 3) := by rw [decide_eq_true (by omega), fl_t]
   rw [e3, if_neg (show ¬ (0 : Nat) ≠ 0 by decide)]
   by_cases c0 : v / 2 = 0
   ·rw [if_pos c0]
    have hq2 : (⟨((rs0 (p + 3)).p + 7) / 8 * 8, 0⟩ : Rs) = rs0 q := by rw [hq]
    rw [hq2]
    by_cases tq : tkE b q 32 = 0
    ·have a2 := tk_add (b := b) (p := q) (a := 16) (c := 16) tq
     have b2 := ts_add (b := b) (p := q) (a := 16) (c := 16) tq
     have f1 : tkN b 16 (rs0 q) = tkV b q 16 := tkN_0 rfl
     have f2 : tkN b 16 (rs0 (q + 16)) = tkV b (q + 16) 16 := tkN_0 rfl
     have l3 := tkV_lt b q 16
     have l4 := tkV_lt b (q + 16) 16
     have v2 : x = tkV b q 16 + 2 ^ 16 * tkV b (q + 16) 16 := by rw [← hx]; exact a2.2.2
     have p16 : (2 : Nat) ^ 16 = 65536 := rfl
     rw [b2.1, b2.2, f1, f2]
     have ex : tkV b q 16 = x % 65536 := by omega
     have ey : tkV b (q + 16) 16 = x / 65536 := by omega
     rw [ex, ey]
     by_cases cs : x % 65536 + x / 65536 = 65535
     ·have e6 : fl (rs0 (q + 16 + 16)) (((x % 65536 : Nat) : Int) + ((x / 65536 : Nat) : Int) == 65535) 131 = rs0 (q + 32) := by
       rw [show (((x % 65536 : Nat) : Int) + ((x / 65536 : Nat) : Int) == 65535) = true from by simp; omega, fl_t]
      rw [e6]
      exact ⟨fun z => absurd t z, fun _ z => absurd z c3, fun _ z => by omega, fun _ z => by omega, fun _ _ z => absurd tq z, fun _ _ _ z => absurd cs z, fun _ _ _ _ => ⟨rfl, c0, rfl, rfl, rfl⟩, fun _ => rfl, fun _ => by omega, fun _ => by omega, fun _ => rfl⟩
     ·have e6 : fl (rs0 (q + 16 + 16)) (((x % 65536 : Nat) : Int) + ((x / 65536 : Nat) : Int) == 65535) 131 = ⟨q + 16 + 16, 131⟩ := by
       rw [show (((x % 65536 : Nat) : Int) + ((x / 65536 : Nat) : Int) == 65535) = false from by simp; omega, fl_f rfl]
      rw [e6]
      exact ⟨fun z => absurd t z, fun _ z => absurd z c3, fun _ z => by omega, fun _ z => by omega, fun _ _ z => absurd tq z, fun _ _ _ _ => rfl, fun _ _ _ z => absurd z cs, fun _ => rfl, fun _ => by omega, fun _ => by omega, fun _ => rfl⟩
    ·have e6 := ts_bad (b := b) (p := q) (a := 16) (c := 16) tq
     have e7 : ∀ c : Bool, (fl (tkS b 16 (tkS b 16 (rs0 q))) c 131).e = 10 := fun c => by rw [fl_x (by omega)]; exact e6
     exact ⟨fun z => absurd t z, fun _ z => absurd z c3, fun _ z => by omega, fun _ z => by omega, fun _ _ _ => (e7 _).trans (tkE_10 tq).symm, fun _ _ z => absurd z tq, fun _ _ z => absurd z tq, fun _ => rfl, fun _ => by omega, fun _ => by omega, fun _ => rfl⟩
   ·rw [if_neg c0]
    by_cases c1 : v / 2 = 1
    ·rw [if_pos c1]
     exact ⟨fun z => absurd t z, fun _ z => absurd z c3, fun _ z => by omega, fun _ _ => ⟨rfl, c1, rfl, rfl, rfl⟩, fun _ z => absurd z c0, fun _ z => absurd z c0, fun _ z => absurd z c0, fun _ => rfl, fun _ => by omega, fun _ => by omega, fun _ => rfl⟩
    ·rw [if_neg c1]
     exact ⟨fun z => absurd t z, fun _ z => absurd z c3, fun _ z => ⟨rfl, z, rfl, rfl, rfl⟩, fun _ z => absurd z c1, fun _ z => absurd z c0, fun _ z => absurd z c0, fun _ z => absurd z c0, fun _ => rfl, fun _ => by omega, fun _ => by omega, fun _ => rfl⟩
 ·have e3 := ts_bad (b := b) (p := p) (a := 1) (c := 2) t
  have e4 : ∀ c : Bool, (fl (tkS b 2 (tkS b 1 (rs0 p))) c 130).e = 10 := fun c => by rw [fl_x (by omega)]; exact e3
  rw [if_pos (by rw [e4]; decide)]
  exact ⟨fun _ => (e4 _).trans (tkE_10 t).symm, fun z => absurd z t, fun z => absurd z t, fun z => absurd z t, fun z => absurd z t, fun z => absurd z t, fun z => absurd z t, fun z => absurd z t, fun z => absurd z t, fun z => absurd z t, fun z => absurd z t⟩

theorem rTkV_3 (b : List UInt8) (n : Nat) (hn : n = b.length) (hN : n ≤ 1000000) (p : Nat) (hp : p ≤ 8 * n) (v : Nat) (hv : tkV b p 3 = v) : SpecH false Try.prog 51 [.sl false n 1 (b.map dB), nD p, iD 3] [] (.tup [u32D v, nD (tkE b p 3)]) [] := by
 subst hv; exact rTake b n hn hN p 3 (by decide) (by omega)
theorem rTkV_32 (b : List UInt8) (n : Nat) (hn : n = b.length) (hN : n ≤ 1000000) (p : Nat) (x : Nat) (hx : tkV b p 32 = x) (hp : p ≤ 8 * n) : SpecH false Try.prog 51 [.sl false n 1 (b.map dB), nD p, iD 32] [] (.tup [u32D x, nD (tkE b p 32)]) [] := by
 subst hx; exact rTake b n hn hN p 32 (by decide) (by omega)
theorem rBg_e (b : List UInt8) (n : Nat) (hn : n = b.length) (hN : n ≤ 1000000) (p : Nat) (hp : p ≤ 8 * n) (v q x : Nat) (hv : tkV b p 3 = v) (hv2 : v < 8) (hx : tkV b q 32 = x) (hx2 : x < 4294967296) (hq : q = (p + 3 + 7) / 8 * 8) (H : Hd) (hB : BgE b n p v q x H) (y g f h : Nat) (hy : tkV b (p + 3) 14 = y) (hy2 : y < 16384) (hg : g = y % 32) (hf : f = y / 32 % 32) (hh : h = y / 1024) (s : List UInt8 × Nat × Nat) (hs : shR b (p + 3 + 14) (h + 4) = s) (l : List UInt8 × Nat × Nat) (hl : dlR b s.1 (g + 257 + (f + 1)) s.2.1 = l) (e : Nat) (hD : DyE b (p + 3) g f h s l e) (hO : DyO (dyR b (rs0 (p + 3))) g l e) (L F : List UInt8) (hL : L = longsB) (hF : F = farsB) (he : H.s.e ≠ 0) : SpecH false Try.prog 29 [.sl false n 1 (b.map dB), nD p] [] (.tup [.agg [u8D 0, bD false, iD 0, nilD, nilD], iD 0, nD H.s.e]) [] := by
 have hk3 : v / 2 ≤ 3 := by omega
 refine SpecH.run T_ok mixed Try.func29 rfl rfl rfl trivial rfl 1000 64 (fun R ok => (.s 7 (.cl 51 false [] (.fn q51 (@rTkV_3 (b) (n) om om (p) om (v) asm)) (.s 10 (.br ((↑(tkE b p 3) : Int) != 0) (fun p0 => have p0f := of_bne_t p0; (.s 11 (.out [] [] (D.tup [D.agg [D.v (Value.int .u8 0), D.v (.bool false), iD 0, nilD, nilD], iD 0, nD (tkE b p 3)]) [] R (ok _ _ (by ( rw [hB.g1 om] <;> rfl)) wr)))) (fun p0 => have p0f := of_bne_f p0; (.s 3 (.opt (bitO IntKind.u32 (Int.tmod (↑v : Int) 2)) (D.v (Value.int .u32 ((↑v : Int) % 2))) (bitO_of (@bx_rem  ((↑v : Int)) (2) om)) (.s 5 (.opt (bitO IntKind.u32 (IntKind.wrap IntKind.u32 (Int.tdiv (↑v : Int) 2))) (D.v (Value.int .u32 ((↑v : Int) / 2))) (bitO_of (@bx_quo_u32  ((↑v : Int)) (2) om om)) (.s 1 (.opt (wrapO .u8 ((↑v : Int) / 2)) (D.v (Value.int .u8 ((↑v : Int) / 2))) (wrapO_u8 om) (.s 10 (.ow ((↑p : Int) + 3) (.s 9 (.br ((↑v : Int) / 2 == 3) (fun p1 => have p1f := eq_of_beq p1; (.s 10 (.out [] [] (D.tup [D.agg [D.v (Value.int .u8 0), D.v (.bool false), iD 0, nilD, nilD], iD 0, iD 130]) [] R (ok _ _ (by ( rw [hB.g2 om om] <;> rfl)) wr)))) (fun p1 => have p1f := of_beq_f p1; (.s 8 (.br ((↑v : Int) / 2 == 2) (fun p2 => have p2f := eq_of_beq p2; (.s 7 (.em (decide (e ≠ 0)) (fun p3 => have p3f := odt p3; (.call 52 false [] (true) wr ([D.agg [D.v (Value.int .u8 ((↑v : Int) / 2)), D.v (.bool ((↑v : Int) % 2 == 1)), iD 0, nilD, nilD], D.sl false n 1 (List.map dB b), iD ((↑p : Int) + 3)]) _ zz2 (true) wr _ _ _ (CallOk.fn (FnOk.of Try.func52 rfl rfl) (@rDy_e (b) (n) om om (p + 3) (by ( exact hB.p3 om)) (v / 2) ((↑v : Int) % 2 == 1) om (y) asm om (g) (f) (h) asm asm asm (s) asm (l) asm (e) asm om)) (.s 28 (.out [] [] (D.tup [D.agg [D.v (Value.int .u8 0), D.v (.bool false), iD 0, nilD, nilD], iD 0, nD e]) [] R (ok _ _ (by ( rw [show H.s.e = e from by rw [(hB.g3 om om).1]; exact hO.h1] <;> rfl)) wr))))) (fun p3 => have p3f := odf p3; (.abs (by ( exact he (by rw [(hB.g3 om om).1, hO.h1]; omega)))))))) (fun p2 => have p2f := of_beq_f p2; (.s 8 (.br ((↑v : Int) / 2 == 1) (fun p4 => have p4f := eq_of_beq p4; (.abs (by ( exact he (by rw [(hB.g4 om om).1]))))) (fun p4 => have p4f := of_beq_f p4; (.val 1 (iD ((↑p : Int) + 3)) (nD (p + 3)) zz1 (Hn.inl T_ok mixed false 90 0 (loopAt Try.prog 29 0) (fun (x : (c : Nat) ×' (hc : p + 3 ≤ c ∧ c ≤ q) ×' Unit) => match x with | ⟨c, hc, _⟩ => CutS.mk [(0, D.sl false n 1 (List.map dB b)), (1, nD c), (4, D.ptr 0 0 0), (9, D.ptr 8 8 0)] [⟨0, 0, 0, 0, .b ⟨[D.v (Value.int .u8 0), D.v (.bool false), iD 0, nilD, nilD], 73, false⟩⟩, ⟨8, 8, 160, 160, .b ⟨[D.v (Value.int .u8 ((↑v : Int) / 2)), D.v (.bool ((↑v : Int) % 2 == 1)), iD 0, nilD, nilD], 73, false⟩⟩] 16) (fun (x : (c : Nat) ×' (hc : p + 3 ≤ c ∧ c ≤ q) ×' Unit) => match x with | ⟨c, hc, _⟩ => q - c) [⟨Unit, .exit 0, fun x => match x with | () => CutS.mk [(0, D.sl false n 1 (List.map dB b)), (1, nD q), (4, D.ptr 0 0 0), (9, D.ptr 8 8 0)] [⟨0, 0, 0, 0, .b ⟨[D.v (Value.int .u8 0), D.v (.bool false), iD 0, nilD, nilD], 73, false⟩⟩, ⟨8, 8, 160, 160, .b ⟨[D.v (Value.int .u8 ((↑v : Int) / 2)), D.v (.bool ((↑v : Int) % 2 == 1)), iD 0, nilD, nilD], 73, false⟩⟩] 16⟩] 1000 64 (fun | ⟨c, hc, _⟩, Q, next1, last1 => (.s 3 (.opt (bitO IntKind.i64 (Int.tmod (↑c : Int) 8)) (iD ((↑c : Int) % 8)) (bitO_of (@bx_rem  ((↑c : Int)) (8) om)) (.s 2 (.br ((↑c : Int) % 8 != 0) (fun p5 => have p5f := of_bne_t p5; (.s 3 (.ow ((↑c : Int) + 1) (.s 1 (.val 1 (iD ((↑c : Int) + 1)) (nD (c + 1)) zz1 (Hn.next next1 ⟨(c + 1), om, ⟨⟩⟩ (by show q - (c + 1) < q - c; clear next1 last1; omega) [(0, 0), (8, 8)] ro)))))) (fun p5 => have p5f := of_bne_f p5; (.val 1 (nD c) (nD q) zz1 (Hn.last last1 0 (() : Unit) rfl [(0, 0), (8, 8)] ro)))))))) (fun | ⟨c, hc, _⟩ => by kernel_rfl) ⟨(p + 3), om, ⟨⟩⟩ [(0, 0), (160, 160)] ro (hs1 (fun | () => (.s 3 (.cl 51 false [] (.fn q51 (@rTkV_32 (b) (n) om om (q) (x) asm (by ( have q1 := hB.q3 om; omega)))) (.s 10 (.br ((↑(tkE b q 32) : Int) != 0) (fun p6 => have p6f := of_bne_t p6; (.s 11 (.out [] [] (D.tup [D.agg [D.v (Value.int .u8 0), D.v (.bool false), iD 0, nilD, nilD], iD 0, nD (tkE b q 32)]) [] R (ok _ _ (by ( rw [hB.g5 om om om] <;> rfl)) wr)))) (fun p6 => have p6f := of_bne_f p6; (.s 3 (.opt (bitO IntKind.u32 (Int.tmod (↑x : Int) 65536)) (D.v (Value.int .u32 ((↑x : Int) % 65536))) (bitO_of (@bx_rem  ((↑x : Int)) (65536) om)) (.s 1 (.ow ((↑x : Int) % 65536) (.s 15 (.opt (bitO IntKind.u32 (IntKind.wrap IntKind.u32 (Int.tdiv (↑x : Int) 65536))) (D.v (Value.int .u32 ((↑x : Int) / 65536))) (bitO_of (@bx_quo_u32  ((↑x : Int)) (65536) om om)) (.s 1 (.ow ((↑x : Int) / 65536) (.s 2 (.ow ((↑x : Int) % 65536 + (↑x : Int) / 65536) (.s 2 (.br ((↑x : Int) % 65536 + (↑x : Int) / 65536 != 65535) (fun p7 => have p7f := of_bne_t p7; (.s 10 (.out [] [] (D.tup [D.agg [D.v (Value.int .u8 0), D.v (.bool false), iD 0, nilD, nilD], iD 0, iD 131]) [] R (ok _ _ (by ( rw [hB.g6 om om om om] <;> rfl)) wr)))) (fun p7 => have p7f := of_bne_f p7; (.abs (by ( exact he (by rw [(hB.g7 om om om om).1]))))))))))))))))))))))))))))))))))))))))))))))))) (by kernel_rfl)
theorem bg_s {x q : Nat} {v : Nat} {a : Int} (h : a = 0) : D.tup [.agg [.v (.int .u8 a), .v (.bool (((v : Nat) : Int) % 2 == 1)), iD (((x : Nat) : Int) % 65536), nilD, nilD], iD (((q : Nat) : Int) + 32), iD 0] = D.tup [.agg [u8D 0, bD (((v % 2 : Nat) : Int) == 1), nD (x % 65536), nilD, nilD], nD (rs0 (q + 32)).p, iD 0] := by rw [h]; rfl
theorem bg_f {p : Nat} {v : Nat} {a : Int} (h : a = 1) : D.tup [.agg [.v (.int .u8 a), .v (.bool (((v : Nat) : Int) % 2 == 1)), iD 0, .ref 0 0 0 288 1, .ref 1 1 0 32 1], iD (((p : Nat) : Int) + 3), iD 0] = D.tup [.agg [u8D 1, bD (((v % 2 : Nat) : Int) == 1), iD 0, .ref 0 0 0 288 1, .ref 1 1 0 32 1], nD (rs0 (p + 3)).p, iD 0] := by rw [h]; rfl
theorem bg_d {g f q : Nat} {v : Nat} {a : Int} (h : a = 2) : D.tup [.agg [.v (.int .u8 a), .v (.bool (((v : Nat) : Int) % 2 == 1)), iD 0, .ref 0 0 0 (g + 257) 1, .ref 0 0 (g + 257) (f + 1) 1], nD q, iD 0] = D.tup [.agg [u8D 2, bD (((v % 2 : Nat) : Int) == 1), iD 0, .ref 0 0 0 (g + 257) 1, .ref 0 0 (g + 257) (f + 1) 1], nD (rs0 q).p, iD 0] := by rw [h]; rfl
theorem rBg_s (b : List UInt8) (n : Nat) (hn : n = b.length) (hN : n ≤ 1000000) (p : Nat) (hp : p ≤ 8 * n) (v q x : Nat) (hv : tkV b p 3 = v) (hv2 : v < 8) (hx : tkV b q 32 = x) (hx2 : x < 4294967296) (hq : q = (p + 3 + 7) / 8 * 8) (H : Hd) (hB : BgE b n p v q x H) (y g f h : Nat) (hy : tkV b (p + 3) 14 = y) (hy2 : y < 16384) (hg : g = y % 32) (hf : f = y / 32 % 32) (hh : h = y / 1024) (s : List UInt8 × Nat × Nat) (hs : shR b (p + 3 + 14) (h + 4) = s) (l : List UInt8 × Nat × Nat) (hl : dlR b s.1 (g + 257 + (f + 1)) s.2.1 = l) (e : Nat) (hD : DyE b (p + 3) g f h s l e) (hO : DyO (dyR b (rs0 (p + 3))) g l e) (L F : List UInt8) (hL : L = longsB) (hF : F = farsB) (he : H.s.e = 0) (hk : H.kd = 0) : SpecH false Try.prog 29 [.sl false n 1 (b.map dB), nD p] [] (.tup [.agg [u8D 0, bD H.la, nD H.le, nilD, nilD], nD H.s.p, iD 0]) [] := by
 have hk3 : v / 2 ≤ 3 := by omega
 refine SpecH.run T_ok mixed Try.func29 rfl rfl rfl trivial rfl 1000 64 (fun R ok => (.s 7 (.cl 51 false [] (.fn q51 (@rTkV_3 (b) (n) om om (p) om (v) asm)) (.s 10 (.br ((↑(tkE b p 3) : Int) != 0) (fun p0 => have p0f := of_bne_t p0; (.abs (by ( have q1 := hB.g1 om; omega)))) (fun p0 => have p0f := of_bne_f p0; (.s 3 (.opt (bitO IntKind.u32 (Int.tmod (↑v : Int) 2)) (D.v (Value.int .u32 ((↑v : Int) % 2))) (bitO_of (@bx_rem  ((↑v : Int)) (2) om)) (.s 5 (.opt (bitO IntKind.u32 (IntKind.wrap IntKind.u32 (Int.tdiv (↑v : Int) 2))) (D.v (Value.int .u32 ((↑v : Int) / 2))) (bitO_of (@bx_quo_u32  ((↑v : Int)) (2) om om)) (.s 1 (.opt (wrapO .u8 ((↑v : Int) / 2)) (D.v (Value.int .u8 ((↑v : Int) / 2))) (wrapO_u8 om) (.s 10 (.ow ((↑p : Int) + 3) (.s 9 (.br ((↑v : Int) / 2 == 3) (fun p1 => have p1f := eq_of_beq p1; (.abs zz0)) (fun p1 => have p1f := of_beq_f p1; (.s 8 (.br ((↑v : Int) / 2 == 2) (fun p2 => have p2f := eq_of_beq p2; (.abs zz0)) (fun p2 => have p2f := of_beq_f p2; (.s 8 (.br ((↑v : Int) / 2 == 1) (fun p3 => have p3f := eq_of_beq p3; (.abs zz0)) (fun p3 => have p3f := of_beq_f p3; (.val 1 (iD ((↑p : Int) + 3)) (nD (p + 3)) zz1 (Hn.inl T_ok mixed false 90 0 (loopAt Try.prog 29 0) (fun (x : (c : Nat) ×' (hc : p + 3 ≤ c ∧ c ≤ q) ×' Unit) => match x with | ⟨c, hc, _⟩ => CutS.mk [(0, D.sl false n 1 (List.map dB b)), (1, nD c), (4, D.ptr 0 0 0), (9, D.ptr 8 8 0)] [⟨0, 0, 0, 0, .b ⟨[D.v (Value.int .u8 0), D.v (.bool false), iD 0, nilD, nilD], 73, false⟩⟩, ⟨8, 8, 160, 160, .b ⟨[D.v (Value.int .u8 ((↑v : Int) / 2)), D.v (.bool ((↑v : Int) % 2 == 1)), iD 0, nilD, nilD], 73, false⟩⟩] 16) (fun (x : (c : Nat) ×' (hc : p + 3 ≤ c ∧ c ≤ q) ×' Unit) => match x with | ⟨c, hc, _⟩ => q - c) [⟨Unit, .exit 0, fun x => match x with | () => CutS.mk [(0, D.sl false n 1 (List.map dB b)), (1, nD q), (4, D.ptr 0 0 0), (9, D.ptr 8 8 0)] [⟨0, 0, 0, 0, .b ⟨[D.v (Value.int .u8 0), D.v (.bool false), iD 0, nilD, nilD], 73, false⟩⟩, ⟨8, 8, 160, 160, .b ⟨[D.v (Value.int .u8 ((↑v : Int) / 2)), D.v (.bool ((↑v : Int) % 2 == 1)), iD 0, nilD, nilD], 73, false⟩⟩] 16⟩] 1000 64 (fun | ⟨c, hc, _⟩, Q, next1, last1 => (.s 3 (.opt (bitO IntKind.i64 (Int.tmod (↑c : Int) 8)) (iD ((↑c : Int) % 8)) (bitO_of (@bx_rem  ((↑c : Int)) (8) om)) (.s 2 (.br ((↑c : Int) % 8 != 0) (fun p4 => have p4f := of_bne_t p4; (.s 3 (.ow ((↑c : Int) + 1) (.s 1 (.val 1 (iD ((↑c : Int) + 1)) (nD (c + 1)) zz1 (Hn.next next1 ⟨(c + 1), om, ⟨⟩⟩ (by show q - (c + 1) < q - c; clear next1 last1; omega) [(0, 0), (8, 8)] ro)))))) (fun p4 => have p4f := of_bne_f p4; (.val 1 (nD c) (nD q) zz1 (Hn.last last1 0 (() : Unit) rfl [(0, 0), (8, 8)] ro)))))))) (fun | ⟨c, hc, _⟩ => by kernel_rfl) ⟨(p + 3), om, ⟨⟩⟩ [(0, 0), (160, 160)] ro (hs1 (fun | () => (.s 3 (.cl 51 false [] (.fn q51 (@rTkV_32 (b) (n) om om (q) (x) asm (by ( have q1 := hB.q3 om; omega)))) (.s 10 (.br ((↑(tkE b q 32) : Int) != 0) (fun p5 => have p5f := of_bne_t p5; (.abs (by ( have q1 := hB.g5 om om om; omega)))) (fun p5 => have p5f := of_bne_f p5; (.s 3 (.opt (bitO IntKind.u32 (Int.tmod (↑x : Int) 65536)) (D.v (Value.int .u32 ((↑x : Int) % 65536))) (bitO_of (@bx_rem  ((↑x : Int)) (65536) om)) (.s 1 (.ow ((↑x : Int) % 65536) (.s 15 (.opt (bitO IntKind.u32 (IntKind.wrap IntKind.u32 (Int.tdiv (↑x : Int) 65536))) (D.v (Value.int .u32 ((↑x : Int) / 65536))) (bitO_of (@bx_quo_u32  ((↑x : Int)) (65536) om om)) (.s 1 (.ow ((↑x : Int) / 65536) (.s 2 (.ow ((↑x : Int) % 65536 + (↑x : Int) / 65536) (.s 2 (.br ((↑x : Int) % 65536 + (↑x : Int) / 65536 != 65535) (fun p6 => have p6f := of_bne_t p6; (.abs (by ( have q1 := hB.g6 om om om om; omega)))) (fun p6 => have p6f := of_bne_f p6; (.s 7 (.ow ((↑q : Int) + 32) (.s 8 (.out [] [] (D.tup [D.agg [D.v (Value.int .u8 ((↑v : Int) / 2)), D.v (.bool ((↑v : Int) % 2 == 1)), iD ((↑x : Int) % 65536), nilD, nilD], iD ((↑q : Int) + 32), iD 0]) [] R (ok _ _ (by ( have q1 := hB.g7 om om om om; rw [q1.1, q1.2.2.1, hB.la om]; exact bg_s om)) wr)))))))))))))))))))))))))))))))))))))))))))))))))) (by kernel_rfl)
theorem rBg_f (b : List UInt8) (n : Nat) (hn : n = b.length) (hN : n ≤ 1000000) (p : Nat) (hp : p ≤ 8 * n) (v q x : Nat) (hv : tkV b p 3 = v) (hv2 : v < 8) (hx : tkV b q 32 = x) (hx2 : x < 4294967296) (hq : q = (p + 3 + 7) / 8 * 8) (H : Hd) (hB : BgE b n p v q x H) (y g f h : Nat) (hy : tkV b (p + 3) 14 = y) (hy2 : y < 16384) (hg : g = y % 32) (hf : f = y / 32 % 32) (hh : h = y / 1024) (s : List UInt8 × Nat × Nat) (hs : shR b (p + 3 + 14) (h + 4) = s) (l : List UInt8 × Nat × Nat) (hl : dlR b s.1 (g + 257 + (f + 1)) s.2.1 = l) (e : Nat) (hD : DyE b (p + 3) g f h s l e) (hO : DyO (dyR b (rs0 (p + 3))) g l e) (L F : List UInt8) (hL : L = longsB) (hF : F = farsB) (he : H.s.e = 0) (hk : H.kd = 1) : SpecH false Try.prog 29 [.sl false n 1 (b.map dB), nD p] [] (.tup [.agg [u8D 1, bD H.la, iD 0, .ref 0 0 0 288 1, .ref 1 1 0 32 1], nD H.s.p, iD 0]) [⟨H.l1.map dB, 5, true⟩, ⟨H.l2.map dB, 5, true⟩] := by
 have hk3 : v / 2 ≤ 3 := by omega
 refine SpecH.run T_ok mixed Try.func29 rfl rfl rfl ⟨pl_bytes _, pl_bytes _, trivial⟩ rfl 1000 64 (fun R ok => (.s 7 (.cl 51 false [] (.fn q51 (@rTkV_3 (b) (n) om om (p) om (v) asm)) (.s 10 (.br ((↑(tkE b p 3) : Int) != 0) (fun p0 => have p0f := of_bne_t p0; (.abs (by ( have q1 := hB.g1 om; omega)))) (fun p0 => have p0f := of_bne_f p0; (.s 3 (.opt (bitO IntKind.u32 (Int.tmod (↑v : Int) 2)) (D.v (Value.int .u32 ((↑v : Int) % 2))) (bitO_of (@bx_rem  ((↑v : Int)) (2) om)) (.s 5 (.opt (bitO IntKind.u32 (IntKind.wrap IntKind.u32 (Int.tdiv (↑v : Int) 2))) (D.v (Value.int .u32 ((↑v : Int) / 2))) (bitO_of (@bx_quo_u32  ((↑v : Int)) (2) om om)) (.s 1 (.opt (wrapO .u8 ((↑v : Int) / 2)) (D.v (Value.int .u8 ((↑v : Int) / 2))) (wrapO_u8 om) (.s 10 (.ow ((↑p : Int) + 3) (.s 9 (.br ((↑v : Int) / 2 == 3) (fun p1 => have p1f := eq_of_beq p1; (.abs zz0)) (fun p1 => have p1f := of_beq_f p1; (.s 8 (.br ((↑v : Int) / 2 == 2) (fun p2 => have p2f := eq_of_beq p2; (.abs zz0)) (fun p2 => have p2f := of_beq_f p2; (.s 8 (.br ((↑v : Int) / 2 == 1) (fun p3 => have p3f := eq_of_beq p3; (.s 1 (.cl 53 false [] (.fn q53 (@rLongs (L) asm)) (.s 7 (.cl 54 false [] (.fn q54 (@rFars (F) asm)) (.s 19 (.out [272, 296] [272, 296] (D.tup [D.agg [D.v (Value.int .u8 ((↑v : Int) / 2)), D.v (.bool ((↑v : Int) % 2 == 1)), iD 0, D.ref 0 0 0 288 1, D.ref 1 1 0 32 1], iD ((↑p : Int) + 3), iD 0]) [Blk.mk (List.map dB L) 5 true, Blk.mk (List.map dB F) 5 true] R (ok _ _ (by ( have q1 := hB.g4 om om; rw [q1.1, hB.la om]; exact bg_f om)) (by ( have q1 := hB.g4 om om; rw [q1.2.2.2.1, q1.2.2.2.2, ← hL, ← hF])))))))))) (fun p3 => have p3f := of_beq_f p3; (.abs zz0)))))))))))))))))))))))) (by kernel_rfl)
theorem rBg_d (b : List UInt8) (n : Nat) (hn : n = b.length) (hN : n ≤ 1000000) (p : Nat) (hp : p ≤ 8 * n) (v q x : Nat) (hv : tkV b p 3 = v) (hv2 : v < 8) (hx : tkV b q 32 = x) (hx2 : x < 4294967296) (hq : q = (p + 3 + 7) / 8 * 8) (H : Hd) (hB : BgE b n p v q x H) (y g f h : Nat) (hy : tkV b (p + 3) 14 = y) (hy2 : y < 16384) (hg : g = y % 32) (hf : f = y / 32 % 32) (hh : h = y / 1024) (s : List UInt8 × Nat × Nat) (hs : shR b (p + 3 + 14) (h + 4) = s) (l : List UInt8 × Nat × Nat) (hl : dlR b s.1 (g + 257 + (f + 1)) s.2.1 = l) (e : Nat) (hD : DyE b (p + 3) g f h s l e) (hO : DyO (dyR b (rs0 (p + 3))) g l e) (L F : List UInt8) (hL : L = longsB) (hF : F = farsB) (he : H.s.e = 0) (hk : H.kd = 2) : SpecH false Try.prog 29 [.sl false n 1 (b.map dB), nD p] [] (.tup [.agg [u8D 2, bD H.la, iD 0, .ref 0 0 0 (g + 257) 1, .ref 0 0 (g + 257) (f + 1) 1], nD H.s.p, iD 0]) [⟨l.1.map dB, 5, true⟩] := by
 have hk3 : v / 2 ≤ 3 := by omega
 refine SpecH.run T_ok mixed Try.func29 rfl rfl rfl ⟨pl_bytes _, trivial⟩ rfl 1000 64 (fun R ok => (.s 7 (.cl 51 false [] (.fn q51 (@rTkV_3 (b) (n) om om (p) om (v) asm)) (.s 10 (.br ((↑(tkE b p 3) : Int) != 0) (fun p0 => have p0f := of_bne_t p0; (.abs (by ( have q1 := hB.g1 om; omega)))) (fun p0 => have p0f := of_bne_f p0; (.s 3 (.opt (bitO IntKind.u32 (Int.tmod (↑v : Int) 2)) (D.v (Value.int .u32 ((↑v : Int) % 2))) (bitO_of (@bx_rem  ((↑v : Int)) (2) om)) (.s 5 (.opt (bitO IntKind.u32 (IntKind.wrap IntKind.u32 (Int.tdiv (↑v : Int) 2))) (D.v (Value.int .u32 ((↑v : Int) / 2))) (bitO_of (@bx_quo_u32  ((↑v : Int)) (2) om om)) (.s 1 (.opt (wrapO .u8 ((↑v : Int) / 2)) (D.v (Value.int .u8 ((↑v : Int) / 2))) (wrapO_u8 om) (.s 10 (.ow ((↑p : Int) + 3) (.s 9 (.br ((↑v : Int) / 2 == 3) (fun p1 => have p1f := eq_of_beq p1; (.abs zz0)) (fun p1 => have p1f := of_beq_f p1; (.s 8 (.br ((↑v : Int) / 2 == 2) (fun p2 => have p2f := eq_of_beq p2; (.s 7 (.em (decide (e ≠ 0)) (fun p3 => have p3f := odt p3; (.abs (by ( have q1 := (hB.g3 om om).1; rw [q1, hO.h1] at he; omega)))) (fun p3 => have p3f := odf p3; (.call 52 false [] (true) wr ([D.agg [D.v (Value.int .u8 ((↑v : Int) / 2)), D.v (.bool ((↑v : Int) % 2 == 1)), iD 0, nilD, nilD], D.sl false n 1 (List.map dB b), iD ((↑p : Int) + 3)]) _ zz2 (true) wr _ _ _ (CallOk.fn (FnOk.of Try.func52 rfl rfl) (@rDy_o (b) (n) om om (p + 3) (by ( exact hB.p3 om)) (v / 2) ((↑v : Int) % 2 == 1) om (y) asm om (g) (f) (h) asm asm asm (s) asm (l) asm (e) asm om)) (.s 28 (.out [272] [272] (D.tup [D.agg [D.v (Value.int .u8 (↑(v / 2) : Int)), D.v (.bool ((↑v : Int) % 2 == 1)), iD 0, D.ref 0 0 0 (g + 257) 1, D.ref 0 0 (g + 257) (f + 1) 1], nD (Prod.fst (Prod.snd l)), iD 0]) [Blk.mk (List.map dB (Prod.fst l)) 5 true] R (ok _ _ (by ( have q1 := hB.g3 om om; have q2 : e = 0 := (by rw [q1.1, hO.h1] at he; exact he); rw [q1.1, hO.h2 q2, hB.la om]; exact bg_d om)) wr)))))))) (fun p2 => have p2f := of_beq_f p2; (.abs zz0))))))))))))))))))))) (by kernel_rfl)
end Vp
end Go.Proofs.Ytegjeagfcfhbeaa
namespace Go.Proofs.Ytegjeagfcfhbeaa
open Go.RowKit Go.Bw Go.Vx
namespace Vp
section
variable {b : List UInt8} {most : Int} {K : Kb} {s : Rs} {o : List UInt8} {R : Rs × List UInt8} {Q : Nat}
end

def dY (b : List UInt8) (p : Nat) : Nat := tkV b (p + 3) 14
def dS (b : List UInt8) (p : Nat) : List UInt8 × Nat × Nat := shR b (p + 3 + 14) (dY b p / 1024 + 4)
def dL (b : List UInt8) (p : Nat) : List UInt8 × Nat × Nat := dlR b (dS b p).1 (dY b p % 32 + 257 + (dY b p / 32 % 32 + 1)) (dS b p).2.1
def dO (b : List UInt8) (p : Nat) : List UInt8 := lk b (dL b p).1
def gG (b : List UInt8) (p : Nat) : Nat := lk b (dY b p % 32 + 257)
def gF (b : List UInt8) (p : Nat) : Nat := lk b (dY b p / 32 % 32 + 1)
theorem dO_eq (b : List UInt8) (p : Nat) : dO b p = (dL b p).1 := lk_eq _ _
theorem gG_eq (b : List UInt8) (p : Nat) : gG b p = dY b p % 32 + 257 := lk_eq _ _
theorem gF_eq (b : List UInt8) (p : Nat) : gF b p = dY b p / 32 % 32 + 1 := lk_eq _ _
structure HdF (b : List UInt8) (n p : Nat) : Prop where
 k0 : (hdR b (rs0 p)).kd = 0 → (hdR b (rs0 p)).s.e = 0 → (hdR b (rs0 p)).l1 = [] ∧ (hdR b (rs0 p)).l2 = [] ∧ (hdR b (rs0 p)).le ≤ 65535
 k1 : (hdR b (rs0 p)).kd = 1 → (hdR b (rs0 p)).s.e = 0 → (hdR b (rs0 p)).l1.length = 288 ∧ (hdR b (rs0 p)).l2.length = 32 ∧ (hdR b (rs0 p)).le = 0
 k2 : (hdR b (rs0 p)).kd = 2 → (hdR b (rs0 p)).s.e = 0 → (hdR b (rs0 p)).l1 = (dO b p).take (gG b p) ∧ (hdR b (rs0 p)).l2 = (dO b p).drop (gG b p) ∧ (dO b p).length = gG b p + gF b p ∧ (hdR b (rs0 p)).le = 0
 g : gG b p ≤ 400 ∧ gF b p ≤ 400
 t1 : canE (hdR b (rs0 p)).l1 15 = 0
 t2 : canE (hdR b (rs0 p)).l2 15 = 0
 kd : (hdR b (rs0 p)).s.e = 0 → (hdR b (rs0 p)).kd ≤ 2
 p3 : (hdR b (rs0 p)).s.e = 0 → p + 3 ≤ (hdR b (rs0 p)).s.p ∧ (hdR b (rs0 p)).s.p ≤ 8 * n ∧ (hdR b (rs0 p)).s = rs0 (hdR b (rs0 p)).s.p
theorem rs_eta {s : Rs} (h : s.e = 0) : s = rs0 s.p := by cases s; simp only at h; subst h; rfl
section
variable {b : List UInt8} {n : Nat} (hn : n = b.length) (hN : n ≤ 1000000) {p : Nat} (hp : p ≤ 8 * n)
include hn
theorem bg_of (p : Nat) : BgE b n p (tkV b p 3) ((p + 3 + 7) / 8 * 8) (tkV b ((p + 3 + 7) / 8 * 8) 32) (hdR b (rs0 p)) := bg_st b n hn p _ _ _ rfl rfl rfl
include hp
theorem hdF : HdF b n p := by
 have hB := bg_of hn p
 have ht := hd_t b (rs0 p)
 have hk3 : ((hdR b (rs0 p)).s.e = 0 → tkE b p 3 = 0) := fun q => by
  rcases Classical.em (tkE b p 3 = 0) with z | z
  ·exact z
  ·have := hB.g1 z; omega
 have hy := tkV_lt b (p + 3) 14
 have e2 : (2 : Nat) ^ 14 = 16384 := rfl
 refine ⟨fun q q2 => ?_, fun q q2 => ?_, fun q q2 => ?_, ?_, ht.1, ht.2.1, ht.2.2.2.2, fun q => ?_⟩
 ·have z := hk3 q2
  have zk := hB.kd z
  have z0 : tkV b p 3 / 2 = 0 := by omega
  by_cases c : tkE b ((p + 3 + 7) / 8 * 8) 32 = 0
  ·by_cases c2 : tkV b ((p + 3 + 7) / 8 * 8) 32 % 65536 + tkV b ((p + 3 + 7) / 8 * 8) 32 / 65536 = 65535
   ·have g7 := hB.g7 z z0 c c2
    exact ⟨g7.2.2.2.1, g7.2.2.2.2, by rw [g7.2.2.1]; omega⟩
   ·have := hB.g6 z z0 c c2; omega
  ·have := hB.g5 z z0 c; omega
 ·have z := hk3 q2
  have zk := hB.kd z
  have g4 := hB.g4 z (by omega)
  rw [g4.2.2.2.1, g4.2.2.2.2]
  exact ⟨longs_len, fars_len, g4.2.2.1⟩
 ·have z := hk3 q2
  have zk := hB.kd z
  have g3 := hB.g3 z (by omega)
  obtain ⟨e, hD, hO⟩ := dy_st b (p + 3)
  have he : e = 0 := by rw [← hO.h1, ← g3.1]; exact q2
  have h2 := hO.h2 he
  rw [g3.2.2.2.1, g3.2.2.2.2, h2, dO_eq, gG_eq, gF_eq]
  have hl : (dL b p).1.length = dY b p % 32 + 257 + (dY b p / 32 % 32 + 1) := by
   have t0 : tkE b (p + 3) 14 = 0 := by
    rcases Classical.em (tkE b (p + 3) 14 = 0) with y | y
    ·exact y
    ·have := hD.f1 y; have := tkE_10 y; omega
   have gf : tkV b (p + 3) 14 % 32 ≤ 29 ∧ tkV b (p + 3) 14 / 32 % 32 ≤ 29 := by
    rcases Classical.em (29 < tkV b (p + 3) 14 % 32 ∨ 29 < tkV b (p + 3) 14 / 32 % 32) with y | y
    ·have := hD.f2 t0 y; omega
    ·omega
   have s0 : (dS b p).2.2 = 0 := by
    rcases Classical.em ((dS b p).2.2 = 0) with y | y
    ·exact y
    ·have := hD.f3 t0 gf.1 gf.2 y; exact absurd (this.symm.trans he) y
   have l0 : (dL b p).2.2 = 0 := by
    rcases Classical.em ((dL b p).2.2 = 0) with y | y
    ·exact y
    ·have := hD.f4 t0 gf.1 gf.2 s0 y; exact absurd (this.symm.trans he) y
   exact (hD.l1 t0 s0 l0).1
  exact ⟨rfl, rfl, hl, g3.2.2.1⟩
 ·rw [gG_eq, gF_eq]; omega
 ·have h1 := hd_adv b (rs0 p) q
  have h2 := hd_ok (b := b) (s := rs0 p) (fun _ => by show p ≤ _; omega) q
  exact ⟨h1.2, by omega, rs_eta q⟩
include hN
theorem rBc_e (he : (hdR b (rs0 p)).s.e ≠ 0) : SpecH false Try.prog 29 [.sl false n 1 (b.map dB), nD p] [] (.tup [.agg [u8D 0, bD false, iD 0, nilD, nilD], iD 0, nD (hdR b (rs0 p)).s.e]) [] := by
 obtain ⟨e, hD, hO⟩ := dy_st b (p + 3)
 exact rBg_e b n hn hN p hp _ _ _ rfl (tkV_lt b p 3) rfl (tkV_lt b _ 32) rfl _ (bg_of hn p) _ _ _ _ rfl (tkV_lt b _ 14) rfl rfl rfl _ rfl _ rfl e hD hO _ _ rfl rfl he
theorem rBc_s (he : (hdR b (rs0 p)).s.e = 0) (hk : (hdR b (rs0 p)).kd = 0) : SpecH false Try.prog 29 [.sl false n 1 (b.map dB), nD p] [] (.tup [.agg [u8D 0, bD (hdR b (rs0 p)).la, nD (hdR b (rs0 p)).le, nilD, nilD], nD (hdR b (rs0 p)).s.p, iD 0]) [] := by
 obtain ⟨e, hD, hO⟩ := dy_st b (p + 3)
 exact rBg_s b n hn hN p hp _ _ _ rfl (tkV_lt b p 3) rfl (tkV_lt b _ 32) rfl _ (bg_of hn p) _ _ _ _ rfl (tkV_lt b _ 14) rfl rfl rfl _ rfl _ rfl e hD hO _ _ rfl rfl he hk
theorem rBc_f (he : (hdR b (rs0 p)).s.e = 0) (hk : (hdR b (rs0 p)).kd = 1) : SpecH false Try.prog 29 [.sl false n 1 (b.map dB), nD p] [] (.tup [.agg [u8D 1, bD (hdR b (rs0 p)).la, iD 0, .ref 0 0 0 288 1, .ref 1 1 0 32 1], nD (hdR b (rs0 p)).s.p, iD 0]) [⟨(hdR b (rs0 p)).l1.map dB, 5, true⟩, ⟨(hdR b (rs0 p)).l2.map dB, 5, true⟩] := by
 obtain ⟨e, hD, hO⟩ := dy_st b (p + 3)
 exact rBg_f b n hn hN p hp _ _ _ rfl (tkV_lt b p 3) rfl (tkV_lt b _ 32) rfl _ (bg_of hn p) _ _ _ _ rfl (tkV_lt b _ 14) rfl rfl rfl _ rfl _ rfl e hD hO _ _ rfl rfl he hk
theorem rBc_d (he : (hdR b (rs0 p)).s.e = 0) (hk : (hdR b (rs0 p)).kd = 2) : SpecH false Try.prog 29 [.sl false n 1 (b.map dB), nD p] [] (.tup [.agg [u8D 2, bD (hdR b (rs0 p)).la, iD 0, .ref 0 0 0 (gG b p) 1, .ref 0 0 (gG b p) (gF b p) 1], nD (hdR b (rs0 p)).s.p, iD 0]) [⟨(dO b p).map dB, 5, true⟩] := by
 obtain ⟨e, hD, hO⟩ := dy_st b (p + 3)
 rw [gG_eq, gF_eq, dO_eq]
 exact rBg_d b n hn hN p hp _ _ _ rfl (tkV_lt b p 3) rfl (tkV_lt b _ 32) rfl _ (bg_of hn p) _ _ _ _ rfl (tkV_lt b _ 14) rfl rfl rfl _ rfl _ rfl e hD hO _ _ rfl rfl he hk
end
end Vp
end Go.Proofs.Ytegjeagfcfhbeaa
namespace Go.Proofs.Ytegjeagfcfhbeaa
open Go.RowKit Go.Bw Go.Vx
namespace Vp
theorem zl0 {p : Prop} (h : p := by ( have q := hE.c (fun a b c d e => by first | omega | simp_all) (fun a b c d e => by omega); rw [q]; rfl)) : p := h
theorem zl1 {p : Prop} (h : p := by (refine decide_eq_false ?_; (omega))) : p := h
theorem zl2 {p : Prop} (h : p := by exact (And.intro (D.sim.refl _) trivial)) : p := h
theorem zl3 {p : Prop} (h : p := by exact (And.intro (D.sim.refl _) (And.intro (D.sim.refl _) trivial))) : p := h
structure IsT (f : Nat → Int) (ys : List Int) (l : List UInt8) : Prop where
 ln : l.length = 320
 ca : canE l 15 = 0
 ct : ∀ i, i < 16 → f i = (cnt l i : Int)
 sy : ys = (symsL l).map (fun (n : Nat) => (n : Int))
structure TrE (f : Nat → Int) (ys : List Int) (e : Nat) : Prop where
 a : e = 0 → ∃ l, IsT f ys l
 b : e ≠ 0 → e = 8 ∧ ∀ l, ¬ IsT f ys l
theorem trE_ex (f : Nat → Int) (ys : List Int) : ∃ e, TrE f ys e := by
 by_cases h : ∃ l, IsT f ys l
 ·exact ⟨0, fun _ => h, fun q => absurd rfl q⟩
 ·exact ⟨8, fun q => absurd q (by decide), fun _ => ⟨rfl, fun l q => h ⟨l, q⟩⟩⟩
theorem c16i_congr {f g : Nat → Int} (h : ∀ n, n < 16 → f n = g n) : c16i f = c16i g := by
 unfold c16i
 rw [h 0 (by decide), h 1 (by decide), h 2 (by decide), h 3 (by decide), h 4 (by decide), h 5 (by decide), h 6 (by decide), h 7 (by decide), h 8 (by decide), h 9 (by decide), h 10 (by decide), h 11 (by decide), h 12 (by decide), h 13 (by decide), h 14 (by decide), h 15 (by decide)]
theorem trC_eq {f : Nat → Int} {ys : List Int} {l : List UInt8} (q : Nat) (h1 : ∀ i, i < 16 → f i = (cnt l i : Int)) (h2 : ys = (symsL l).map (fun (n : Nat) => (n : Int))) : trC f q ys = treeC q l := by
 unfold trC treeC
 rw [h2, List.map_map, c16i_congr h1]; rfl
theorem chk_a (f : Nat → Int) (ys : List Int) (q : Nat) (hq : q = ys.length) (hQ : q ≤ 100000) (e : Nat) (h : TrE f ys e) : SpecH false Try.prog 36 [trD f q ys] [] (nD e) [] := by
 by_cases h0 : e = 0
 ·obtain ⟨l, hl⟩ := h.a h0
  have hd : trD f q ys = treeD q l := congrArg D.agg (trC_eq q hl.ct hl.sy)
  rw [hd, h0]
  exact chk_g l 15 (by decide) hl.ca q (by rw [hq, hl.sy, List.length_map])
 ·rw [(h.b h0).1]
  exact chk_b f ys q hq hQ (fun l h1 h2 h3 => (h.b h0).2 l ⟨h1, h2, h3.1, h3.2⟩)
structure ZrB (f : Nat → Int) (q : Nat) (z : Bool) : Prop where
 t : z = true → (∀ i, i < 16 → f i = 0) ∧ q = 0
 f : z = false → ¬ ((∀ i, i < 16 → f i = 0) ∧ q = 0)
theorem zrB_ex (f : Nat → Int) (q : Nat) : ∃ z, ZrB f q z := by
 by_cases h : (∀ i, i < 16 → f i = 0) ∧ q = 0
 ·exact ⟨true, fun _ => h, fun q => absurd q (by decide)⟩
 ·exact ⟨false, fun q => absurd q (by decide), fun _ => h⟩
theorem zr_t {f : Nat → Int} {q : Nat} {z : Bool} (h : ZrB f q z) (h1 : ((f 0 == 0) && ((f 1 == 0) && ((f 2 == 0) && ((f 3 == 0) && ((f 4 == 0) && ((f 5 == 0) && ((f 6 == 0) && ((f 7 == 0) && ((f 8 == 0) && ((f 9 == 0) && ((f 10 == 0) && ((f 11 == 0) && ((f 12 == 0) && ((f 13 == 0) && ((f 14 == 0) && ((f 15 == 0) && true)))))))))))))))) = true) (h2 : q = 0) : z = true := by
 cases z with
 | true => rfl
 | false => exact absurd ⟨eq16 (g := fun _ => 0) h1, h2⟩ (h.f rfl)
theorem zr_q {f : Nat → Int} {q : Nat} {z : Bool} (h : ZrB f q z) (h2 : q ≠ 0) : z = false := by
 cases z with
 | false => rfl
 | true => exact absurd (h.t rfl).2 h2
theorem zr_f {f : Nat → Int} {q : Nat} {z : Bool} (h : ZrB f q z) (h1 : ((f 0 == 0) && ((f 1 == 0) && ((f 2 == 0) && ((f 3 == 0) && ((f 4 == 0) && ((f 5 == 0) && ((f 6 == 0) && ((f 7 == 0) && ((f 8 == 0) && ((f 9 == 0) && ((f 10 == 0) && ((f 11 == 0) && ((f 12 == 0) && ((f 13 == 0) && ((f 14 == 0) && ((f 15 == 0) && true)))))))))))))))) = false) : z = false := by
 cases z with
 | false => rfl
 | true =>
  have q := (h.t rfl).1
  rw [q 0 (by decide), q 1 (by decide), q 2 (by decide), q 3 (by decide), q 4 (by decide), q 5 (by decide), q 6 (by decide), q 7 (by decide), q 8 (by decide), q 9 (by decide), q 10 (by decide), q 11 (by decide), q 12 (by decide), q 13 (by decide), q 14 (by decide), q 15 (by decide)] at h1
  exact absurd h1 (by decide)
structure PkE (kd : Nat) (le : Int) (z1 z2 : Bool) (e1 e2 e : Nat) : Prop where
 a : kd = 0 → 0 ≤ le → le ≤ 65535 → z1 = true → z2 = true → e = 0
 b : 1 ≤ kd → kd ≤ 2 → le = 0 → e1 = 0 → e2 = 0 → e = 0
 c : (kd = 0 → 0 ≤ le → le ≤ 65535 → z1 = true → z2 = true → False) → (1 ≤ kd → kd ≤ 2 → le = 0 → e1 = 0 → e2 = 0 → False) → e = 8
theorem pkE_ex (kd : Nat) (le : Int) (z1 z2 : Bool) (e1 e2 : Nat) : ∃ e, PkE kd le z1 z2 e1 e2 e := by
 by_cases h : kd = 0 ∧ 0 ≤ le ∧ le ≤ 65535 ∧ z1 = true ∧ z2 = true
 ·exact ⟨0, fun _ _ _ _ _ => rfl, fun _ _ _ _ _ => rfl, fun q _ => (q h.1 h.2.1 h.2.2.1 h.2.2.2.1 h.2.2.2.2).elim⟩
 ·by_cases h2 : 1 ≤ kd ∧ kd ≤ 2 ∧ le = 0 ∧ e1 = 0 ∧ e2 = 0
  ·exact ⟨0, fun _ _ _ _ _ => rfl, fun _ _ _ _ _ => rfl, fun _ q => (q h2.1 h2.2.1 h2.2.2.1 h2.2.2.2.1 h2.2.2.2.2).elim⟩
  ·exact ⟨8, fun a b c d e => (h ⟨a, b, c, d, e⟩).elim, fun a b c d e => (h2 ⟨a, b, c, d, e⟩).elim, fun _ _ => rfl⟩
theorem same_z (f : Nat → Int) (ys : List Int) (q : Nat) (hq : q = ys.length) (hQ : q ≤ 100000) (z : Bool) (h : ZrB f q z) : SpecH false Try.prog 35 [trD f q ys, zeroT] [] (bD z) [] := by
 refine SpecH.run T_ok mixed Try.func35 rfl rfl rfl trivial rfl 1000 64 (fun R ok => (.s 23 (.br (f 0 == 0 && (f 1 == 0 && (f 2 == 0 && (f 3 == 0 && (f 4 == 0 && (f 5 == 0 && (f 6 == 0 && (f 7 == 0 && (f 8 == 0 && (f 9 == 0 && (f 10 == 0 && (f 11 == 0 && (f 12 == 0 && (f 13 == 0 && (f 14 == 0 && (f 15 == 0 && true)))))))))))))))) (fun p0 => have p0f := eq_of_beq (and_t1 p0); have p0f1 := eq_of_beq (and_t1 (and_t2 p0)); have p0f2 := eq_of_beq (and_t1 (and_t2 (and_t2 p0))); have p0f3 := eq_of_beq (and_t1 (and_t2 (and_t2 (and_t2 p0)))); have p0f4 := eq_of_beq (and_t1 (and_t2 (and_t2 (and_t2 (and_t2 p0))))); have p0f5 := eq_of_beq (and_t1 (and_t2 (and_t2 (and_t2 (and_t2 (and_t2 p0)))))); have p0f6 := eq_of_beq (and_t1 (and_t2 (and_t2 (and_t2 (and_t2 (and_t2 (and_t2 p0))))))); have p0f7 := eq_of_beq (and_t1 (and_t2 (and_t2 (and_t2 (and_t2 (and_t2 (and_t2 (and_t2 p0)))))))); have p0f8 := eq_of_beq (and_t1 (and_t2 (and_t2 (and_t2 (and_t2 (and_t2 (and_t2 (and_t2 (and_t2 p0))))))))); have p0f9 := eq_of_beq (and_t1 (and_t2 (and_t2 (and_t2 (and_t2 (and_t2 (and_t2 (and_t2 (and_t2 (and_t2 p0)))))))))); have p0f10 := eq_of_beq (and_t1 (and_t2 (and_t2 (and_t2 (and_t2 (and_t2 (and_t2 (and_t2 (and_t2 (and_t2 (and_t2 p0))))))))))); have p0f11 := eq_of_beq (and_t1 (and_t2 (and_t2 (and_t2 (and_t2 (and_t2 (and_t2 (and_t2 (and_t2 (and_t2 (and_t2 (and_t2 p0)))))))))))); have p0f12 := eq_of_beq (and_t1 (and_t2 (and_t2 (and_t2 (and_t2 (and_t2 (and_t2 (and_t2 (and_t2 (and_t2 (and_t2 (and_t2 (and_t2 p0))))))))))))); have p0f13 := eq_of_beq (and_t1 (and_t2 (and_t2 (and_t2 (and_t2 (and_t2 (and_t2 (and_t2 (and_t2 (and_t2 (and_t2 (and_t2 (and_t2 (and_t2 p0)))))))))))))); have p0f14 := eq_of_beq (and_t1 (and_t2 (and_t2 (and_t2 (and_t2 (and_t2 (and_t2 (and_t2 (and_t2 (and_t2 (and_t2 (and_t2 (and_t2 (and_t2 (and_t2 p0))))))))))))))); have p0f15 := eq_of_beq (and_t1 (and_t2 (and_t2 (and_t2 (and_t2 (and_t2 (and_t2 (and_t2 (and_t2 (and_t2 (and_t2 (and_t2 (and_t2 (and_t2 (and_t2 (and_t2 p0)))))))))))))))); (.s 24 (.br ((↑q : Int) != 0) (fun p1 => have p1f := of_bne_t p1; (.s 3 (.out [] [] (D.v (.bool false)) [] R (ok _ _ (by ( rw [zr_q h om])) wr)))) (fun p1 => have p1f := of_bne_f p1; (.s 6 (.f (decide (0 < (↑q : Int))) zl1 (.s 3 (.out [] [] (D.v (.bool true)) [] R (ok _ _ (by ( rw [zr_t h asm om])) wr))))))))) (fun p0 => (.s 10 (.out [] [] (D.v (.bool false)) [] R (ok _ _ (by ( rw [zr_f h asm])) wr))))))) (by kernel_rfl)
theorem pchk (kd : Nat) (hkd : kd < 256) (la : Bool) (le : Int) (f1 f2 : Nat → Int) (ys1 ys2 : List Int) (q1 q2 : Nat) (hq1 : q1 = ys1.length) (hq2 : q2 = ys2.length) (hQ1 : q1 ≤ 100000) (hQ2 : q2 ≤ 100000) (z1 z2 : Bool) (hz1 : ZrB f1 q1 z1) (hz2 : ZrB f2 q2 z2) (e1 e2 : Nat) (he1 : TrE f1 ys1 e1) (he2 : TrE f2 ys2 e2) (e : Nat) (hE : PkE kd le z1 z2 e1 e2 e) : SpecH false Try.prog 15 [.agg ([u8D kd, bD la, iD le] ++ trC f1 q1 ys1 ++ trC f2 q2 ys2)] [] (nD e) [] := by
 refine SpecH.run T_ok mixed Try.func15 rfl rfl rfl trivial rfl 1000 64 (fun R ok => (.s 13 (.br ((↑kd : Int) == 0) (fun p0 => have p0f := eq_of_beq p0; (.s 12 (.br (decide (0 ≤ le)) (fun p1 => have p1f := odt p1; (.s 12 (.br (decide (le ≤ 65535)) (fun p2 => have p2f := odt p2; (.s 12 (.call 35 false [] (true) wr ([D.agg [iD (f1 0), iD (f1 1), iD (f1 2), iD (f1 3), iD (f1 4), iD (f1 5), iD (f1 6), iD (f1 7), iD (f1 8), iD (f1 9), iD (f1 10), iD (f1 11), iD (f1 12), iD (f1 13), iD (f1 14), iD (f1 15), D.sl false q1 1 (List.map iD ys1)], D.agg [iD 0, iD 0, iD 0, iD 0, iD 0, iD 0, iD 0, iD 0, iD 0, iD 0, iD 0, iD 0, iD 0, iD 0, iD 0, iD 0, nilD]]) _ zl3 (true) wr _ _ _ (CallOk.fn (FnOk.of Try.func35 rfl rfl) (@same_z (f1) (ys1) (q1) om om (z1) asm)) (.s 3 (.br (z1) (fun p3 => (.s 12 (.call 35 false [] (true) wr ([D.agg [iD (f2 0), iD (f2 1), iD (f2 2), iD (f2 3), iD (f2 4), iD (f2 5), iD (f2 6), iD (f2 7), iD (f2 8), iD (f2 9), iD (f2 10), iD (f2 11), iD (f2 12), iD (f2 13), iD (f2 14), iD (f2 15), D.sl false q2 1 (List.map iD ys2)], D.agg [iD 0, iD 0, iD 0, iD 0, iD 0, iD 0, iD 0, iD 0, iD 0, iD 0, iD 0, iD 0, iD 0, iD 0, iD 0, iD 0, nilD]]) _ zl3 (true) wr _ _ _ (CallOk.fn (FnOk.of Try.func35 rfl rfl) (@same_z (f2) (ys2) (q2) om om (z2) asm)) (.s 12 (.f ((↑kd : Int) == 1) zl1 (.s 12 (.f ((↑kd : Int) == 2) zl1 (.s 30 (.br (!z2) (fun p4 => have p4f := (not_t p4); (.s 5 (.out [] [] (iD 8) [] R (ok _ _ zl0 wr)))) (fun p4 => have p4f := (not_f p4); (.s 5 (.out [] [] (iD 0) [] R (ok _ _ (by ( rw [hE.a om om om asm asm]; rfl)) wr))))))))))))) (fun p3 => (.s 18 (.f ((↑kd : Int) == 1) zl1 (.s 12 (.f ((↑kd : Int) == 2) zl1 (.s 36 (.out [] [] (iD 8) [] R (ok _ _ zl0 wr))))))))))))) (fun p2 => have p2f := odf p2; (.s 28 (.f ((↑kd : Int) == 1) zl1 (.s 12 (.f ((↑kd : Int) == 2) zl1 (.s 36 (.out [] [] (iD 8) [] R (ok _ _ zl0 wr))))))))))) (fun p1 => have p1f := odf p1; (.s 36 (.f ((↑kd : Int) == 1) zl1 (.s 12 (.f ((↑kd : Int) == 2) zl1 (.s 36 (.out [] [] (iD 8) [] R (ok _ _ zl0 wr))))))))))) (fun p0 => have p0f := of_beq_f p0; (.s 44 (.br ((↑kd : Int) == 1) (fun p5 => have p5f := eq_of_beq p5; (.s 20 (.br (le == 0) (fun p6 => have p6f := eq_of_beq p6; (.s 9 (.call 36 false [] (true) wr ([D.agg [iD (f1 0), iD (f1 1), iD (f1 2), iD (f1 3), iD (f1 4), iD (f1 5), iD (f1 6), iD (f1 7), iD (f1 8), iD (f1 9), iD (f1 10), iD (f1 11), iD (f1 12), iD (f1 13), iD (f1 14), iD (f1 15), D.sl false q1 1 (List.map iD ys1)]]) _ zl2 (true) wr _ _ _ (CallOk.fn (FnOk.of Try.func36 rfl rfl) (@chk_a (f1) (ys1) (q1) om om (e1) asm)) (.s 6 (.br ((↑e1 : Int) == 0) (fun p7 => have p7f := eq_of_beq p7; (.s 9 (.call 36 false [] (true) wr ([D.agg [iD (f2 0), iD (f2 1), iD (f2 2), iD (f2 3), iD (f2 4), iD (f2 5), iD (f2 6), iD (f2 7), iD (f2 8), iD (f2 9), iD (f2 10), iD (f2 11), iD (f2 12), iD (f2 13), iD (f2 14), iD (f2 15), D.sl false q2 1 (List.map iD ys2)]]) _ zl2 (true) wr _ _ _ (CallOk.fn (FnOk.of Try.func36 rfl rfl) (@chk_a (f2) (ys2) (q2) om om (e2) asm)) (.s 13 (.br (!(↑e2 : Int) == 0) (fun p8 => have p8f := of_beq_f (not_t p8); (.s 1 (.out [] [] (iD 8) [] R (ok _ _ zl0 wr)))) (fun p8 => have p8f := eq_of_beq (not_f p8); (.s 1 (.out [] [] (iD 0) [] R (ok _ _ (by ( rw [hE.b om om om om om]; rfl)) wr))))))))) (fun p7 => have p7f := of_beq_f p7; (.s 18 (.out [] [] (iD 8) [] R (ok _ _ zl0 wr))))))))) (fun p6 => have p6f := of_beq_f p6; (.s 28 (.out [] [] (iD 8) [] R (ok _ _ zl0 wr))))))) (fun p5 => have p5f := of_beq_f p5; (.s 12 (.br ((↑kd : Int) == 2) (fun p9 => have p9f := eq_of_beq p9; (.s 12 (.br (le == 0) (fun p10 => have p10f := eq_of_beq p10; (.s 9 (.call 36 false [] (true) wr ([D.agg [iD (f1 0), iD (f1 1), iD (f1 2), iD (f1 3), iD (f1 4), iD (f1 5), iD (f1 6), iD (f1 7), iD (f1 8), iD (f1 9), iD (f1 10), iD (f1 11), iD (f1 12), iD (f1 13), iD (f1 14), iD (f1 15), D.sl false q1 1 (List.map iD ys1)]]) _ zl2 (true) wr _ _ _ (CallOk.fn (FnOk.of Try.func36 rfl rfl) (@chk_a (f1) (ys1) (q1) om om (e1) asm)) (.s 6 (.br ((↑e1 : Int) == 0) (fun p11 => have p11f := eq_of_beq p11; (.s 9 (.call 36 false [] (true) wr ([D.agg [iD (f2 0), iD (f2 1), iD (f2 2), iD (f2 3), iD (f2 4), iD (f2 5), iD (f2 6), iD (f2 7), iD (f2 8), iD (f2 9), iD (f2 10), iD (f2 11), iD (f2 12), iD (f2 13), iD (f2 14), iD (f2 15), D.sl false q2 1 (List.map iD ys2)]]) _ zl2 (true) wr _ _ _ (CallOk.fn (FnOk.of Try.func36 rfl rfl) (@chk_a (f2) (ys2) (q2) om om (e2) asm)) (.s 13 (.br (!(↑e2 : Int) == 0) (fun p12 => have p12f := of_beq_f (not_t p12); (.s 1 (.out [] [] (iD 8) [] R (ok _ _ zl0 wr)))) (fun p12 => have p12f := eq_of_beq (not_f p12); (.s 1 (.out [] [] (iD 0) [] R (ok _ _ (by ( rw [hE.b om om om om om]; rfl)) wr))))))))) (fun p11 => have p11f := of_beq_f p11; (.s 18 (.out [] [] (iD 8) [] R (ok _ _ zl0 wr))))))))) (fun p10 => have p10f := of_beq_f p10; (.s 28 (.out [] [] (iD 8) [] R (ok _ _ zl0 wr))))))) (fun p9 => have p9f := of_beq_f p9; (.s 36 (.out [] [] (iD 8) [] R (ok _ _ zl0 wr))))))))))))) (by kernel_rfl)
end Vp
end Go.Proofs.Ytegjeagfcfhbeaa
namespace Go.Proofs.Ytegjeagfcfhbeaa
open Go.RowKit Go.Bw Go.Vx
namespace Vp
theorem zbx0 {p : Prop} (h : p := by (refine iv_eq ?_; (omega))) : p := h
theorem zbx1 {p : Prop} (h : p := by ((refine and_tI ?_ ?_) <;> (repeat' (first | (refine and_tI ?_ ?_) | (with_reducible rfl) | (refine decide_eq_true ?_) | (refine Nat.ble_eq_true_of_le ?_) | (refine nbeq ?_))) <;> (omega))) : p := h
theorem zbx2 {p : Prop} (h : p := by (rw [show k = n from by (omega)])) : p := h
theorem zbx3 {p : Prop} (h : p := by (simp;  have h9 := cntAt_le l a k a om; have h8 := symsAt_len (l := l) (n := a) (k := k) om om; omega)) : p := h
theorem zbx4 {p : Prop} (h : p := by show n - (k + 1) < n - k; clear next2 last2 next1 last1; omega) : p := h
theorem zbx5 {p : Prop} (h : p := by (simp only [cntN (l := l) (a := a) (k := k) (by (omega)), symsN (l := l) (a := a) (k := k) (by (omega))])) : p := h
theorem zbx6 {p : Prop} (h : p := by (rw [show a = 16 from by (omega)]; simp (disch := decide) only [cntAt_end, symsAt_end])) : p := h
theorem sy_at {l : List UInt8} {a k j : Nat} (ha : a ≤ 15) (hk : k < cnt l a) (hj : j = (symsT l a).length + k) : (symsL l).getD j default = (posL l a).getD k default := by
 obtain ⟨r, hr⟩ := symsT_16 (l := l) ha
 rw [hr, hj, List.getD_eq_getElem?_getD, List.getD_eq_getElem?_getD, List.getElem?_append_right (Nat.le_add_right _ _), Nat.add_sub_cancel_left, List.getElem?_append_left (by rw [posL_len]; exact hk)]
theorem sy_k {l : List UInt8} {a k j : Nat} (hl : l.length ≤ 320) (ha : a ≤ 15) (hk : k < cnt l a) (hj : j = (symsT l a).length + k) : (symsL l).getD j default < l.length ∧ ((stamp l a k).getD ((symsL l).getD j default) default).toNat = 0 := by
 rw [sy_at ha hk hj]
 have h := posL_k (k := k) hl hk
 rw [Nat.mul_one] at h
 exact ⟨h.1, h.2.1⟩
theorem sy_set {l : List UInt8} {a k j o : Nat} {d : D} (hl : l.length ≤ 320) (ha : a ≤ 15) (hk : k < cnt l a) (hj : j = (symsT l a).length + k) (ho : o = (symsL l).getD j default) (hd : d = u8D a) : setSeg ((stamp l a k).map dB) o [d] = (stamp l a (k + 1)).map dB :=
 stamp_set hl (by rw [posL_len]; exact hk) (ho.trans (sy_at ha hk hj)) hd
theorem stamp_10 (l : List UInt8) : stamp l 0 0 = stamp l 1 0 := by
 have h := stamp_up (l := l) (a := 0)
 rwa [cnt_0] at h
theorem pad_id {l : List UInt8} (h : l.length = 320) : padL l = l := by unfold padL; rw [h]; exact List.append_nil _
theorem stamp_l {l : List UInt8} (h : l.length = 320) (ho : overB l 15 = false) : stamp l 16 0 = l := by rw [stamp_16 (by omega) ho, pad_id h]
theorem symsAt_1 (l : List UInt8) : symsAt l 1 0 = [] := by
 rw [symsAt_up, symsAt_eq]; rfl
theorem cntAt_1 (l : List UInt8) (m : Nat) : cntAt l 1 0 m = 0 := by
 rw [cntAt_up, cntAt_eq]
 by_cases h : m = 0
 ·rw [if_pos h]
 ·rw [if_neg h, if_neg (by omega), if_neg h]
theorem not_f {b : Bool} (h : (!b) = false) : b = true := by cases b with | true => rfl | false => cases h
theorem not_t {b : Bool} (h : (!b) = true) : b = false := by cases b with | false => rfl | true => cases h
theorem get16zi (f : Nat → Int) {r : List D} (n : Nat) (h : n < 16) : (c16i f ++ r)[0 + n * 1]? = some (iD (f n)) := by rw [Nat.mul_one, Nat.zero_add]; exact get16i f r n h
theorem rGrown (l : List UInt8) (n : Nat) (hn : n = l.length) (hN : n ≤ 1000) : SpecH false Try.prog 55 [.sl false n 1 (l.map dB)] [] (.agg (c16 (cnt l) ++ [.ref 0 0 0 (symsL l).length 1])) [⟨(symsL l).map nD, 3, true⟩] := by
 refine SpecH.run T_ok mixed Try.func55 rfl rfl rfl ⟨pl_map _ (fun _ => rfl) _, trivial⟩ rfl 1000 64 (fun R ok => (.s 5 (.nilc 8 8 (Blk.mk [iD 0, iD 0, iD 0, iD 0, iD 0, iD 0, iD 0, iD 0, iD 0, iD 0, iD 0, iD 0, iD 0, iD 0, iD 0, iD 0, nilD] 26 false) 16 24 1 3 (.blk 8 8 (Blk.mk [iD 0, iD 0, iD 0, iD 0, iD 0, iD 0, iD 0, iD 0, iD 0, iD 0, iD 0, iD 0, iD 0, iD 0, iD 0, iD 0, D.ref 24 24 0 0 1] 26 false) (Blk.mk [nD (cntAt l 1 0 0), nD (cntAt l 1 0 1), nD (cntAt l 1 0 2), nD (cntAt l 1 0 3), nD (cntAt l 1 0 4), nD (cntAt l 1 0 5), nD (cntAt l 1 0 6), nD (cntAt l 1 0 7), nD (cntAt l 1 0 8), nD (cntAt l 1 0 9), nD (cntAt l 1 0 10), nD (cntAt l 1 0 11), nD (cntAt l 1 0 12), nD (cntAt l 1 0 13), nD (cntAt l 1 0 14), nD (cntAt l 1 0 15), D.ref 24 24 0 (List.length (symsAt l 1 0)) 1] 26 false) (by (simp only [cntAt_1, symsAt_1]; rfl)) (.blk 24 24 (Blk.mk [] 3 true) (Blk.mk (List.map nD (symsAt l 1 0)) 3 true) (by (simp only [cntAt_1, symsAt_1]; rfl)) (Hn.inl T_ok mixed false 37 0 (loopAt Try.prog 55 0) (fun (x : (a : Nat) ×' (ha : 1 ≤ a ∧ a ≤ 16) ×' Unit) => match x with | ⟨a, ha, _⟩ => CutS.mk [(0, D.sl false n 1 (List.map dB l)), (2, D.ptr 0 0 0), (3, D.ptr 8 8 0), (4, nD a)] [⟨0, 0, 0, 0, .b ⟨[iD 0, iD 0, iD 0, iD 0, iD 0, iD 0, iD 0, iD 0, iD 0, iD 0, iD 0, iD 0, iD 0, iD 0, iD 0, iD 0, nilD], 26, false⟩⟩, ⟨8, 8, 8, 8, .b ⟨c16 (cntAt l a 0) ++ [(D.ref 16 16 (0) ((symsAt l a 0).length) 1)], 26, false⟩⟩, ⟨16, 16, 24, 24, .b ⟨(symsAt l a 0).map nD, 3, true⟩⟩] 24) (fun (x : (a : Nat) ×' (ha : 1 ≤ a ∧ a ≤ 16) ×' Unit) => match x with | ⟨a, ha, _⟩ => 16 - a) [⟨Unit, .exit 0, fun x => match x with | () => CutS.mk [(0, D.sl false n 1 (List.map dB l)), (2, D.ptr 0 0 0), (3, D.ptr 8 8 0), (4, nD 16)] [⟨0, 0, 0, 0, .b ⟨[iD 0, iD 0, iD 0, iD 0, iD 0, iD 0, iD 0, iD 0, iD 0, iD 0, iD 0, iD 0, iD 0, iD 0, iD 0, iD 0, nilD], 26, false⟩⟩, ⟨8, 8, 8, 8, .b ⟨c16 (cnt l) ++ [(D.ref 16 16 (0) ((symsL l).length) 1)], 26, false⟩⟩, ⟨16, 16, 24, 24, .b ⟨(symsL l).map nD, 3, true⟩⟩] 24⟩] 1000 64 (fun | ⟨a, ha, _⟩, Q, next1, last1 => (.s 3 (.br (decide ((↑a : Int) ≤ 15)) (fun p0 => have p0f := odt p0; (.s 1 (Hn.inl T_ok mixed false 37 0 (loopAt Try.prog 55 1) (fun (x : (k : Nat) ×' (hk : k ≤ n) ×' Unit) => match x with | ⟨k, hk, _⟩ => CutS.mk [(0, D.sl false n 1 (List.map dB l)), (2, D.ptr 0 0 0), (3, D.ptr 8 8 0), (4, nD a), (5, nD k)] [⟨0, 0, 0, 0, .b ⟨[iD 0, iD 0, iD 0, iD 0, iD 0, iD 0, iD 0, iD 0, iD 0, iD 0, iD 0, iD 0, iD 0, iD 0, iD 0, iD 0, nilD], 26, false⟩⟩, ⟨8, 8, 8, 8, .b ⟨c16 (cntAt l a k) ++ [(D.ref 16 16 (0) ((symsAt l a k).length) 1)], 26, false⟩⟩, ⟨16, 16, 16, 16, .b ⟨(symsAt l a k).map nD, 3, true⟩⟩] 24) (fun (x : (k : Nat) ×' (hk : k ≤ n) ×' Unit) => match x with | ⟨k, hk, _⟩ => n - k) [⟨Unit, .exit 2, fun x => match x with | () => CutS.mk [(0, D.sl false n 1 (List.map dB l)), (2, D.ptr 0 0 0), (3, D.ptr 8 8 0), (4, nD a), (5, nD n)] [⟨0, 0, 0, 0, .b ⟨[iD 0, iD 0, iD 0, iD 0, iD 0, iD 0, iD 0, iD 0, iD 0, iD 0, iD 0, iD 0, iD 0, iD 0, iD 0, iD 0, nilD], 26, false⟩⟩, ⟨8, 8, 8, 8, .b ⟨c16 (cntAt l a n) ++ [(D.ref 16 16 (0) ((symsAt l a n).length) 1)], 26, false⟩⟩, ⟨16, 16, 16, 16, .b ⟨(symsAt l a n).map nD, 3, true⟩⟩] 24⟩] 1000 64 (fun | ⟨k, hk, _⟩, Q, next2, last2 => (.s 5 (.br (decide ((↑k : Int) < (↑n : Int))) (fun p1 => have p1f := odt p1; (.s 3 (.chk (true && decide ((↑k : Int) < (↑n : Int)) && true) zbx1 (.s 2 (.opt ((List.map dB l)[k * 1]?) (dB (List.getD l (k * 1) default)) (map_get _ _ om) (.s 1 (.op (↑(UInt8.toNat (List.getD l (k * 1) default)) : Int) (by (exact u8_rng _ (by decide) (by decide))) (.s 3 (.br ((↑(UInt8.toNat (List.getD l (k * 1) default)) : Int) == (↑a : Int)) (fun p2 => have p2f := eq_of_beq p2; (.s 5 (.chk (true && decide ((↑a : Int) < (↑16 : Int))) (by (refine decide_eq_true ?_; (omega))) (.s 3 (.opt ((c16 (cntAt l a k) ++ [D.ref 16 16 0 (List.length (symsAt l a k)) 1])[0 + a * 1]?) (nD (cntAt l a k (0 + a * 1))) (@get16 (cntAt l a k) ([D.ref 16 16 0 (List.length (symsAt l a k)) 1]) (0 + a * 1) om) (.s 2 (.op ((↑(cntAt l a k (0 + a * 1)) : Int) + 1) zbx3 (.s 4 (.chk (true && decide ((↑a : Int) < (↑16 : Int))) (by (refine decide_eq_true ?_; (omega))) (.s 2 (.chk (true && Nat.ble (0 + a * 1 + 1) 17) (by (refine Nat.ble_eq_true_of_le ?_; (omega))) (.lst (setSeg [nD (cntAt l a k 0), nD (cntAt l a k 1), nD (cntAt l a k 2), nD (cntAt l a k 3), nD (cntAt l a k 4), nD (cntAt l a k 5), nD (cntAt l a k 6), nD (cntAt l a k 7), nD (cntAt l a k 8), nD (cntAt l a k 9), nD (cntAt l a k 10), nD (cntAt l a k 11), nD (cntAt l a k 12), nD (cntAt l a k 13), nD (cntAt l a k 14), nD (cntAt l a k 15), D.ref 16 16 0 (List.length (symsAt l a k)) 1] (0 + a * 1) [iD ((↑(cntAt l a k (0 + a * 1)) : Int) + 1)]) ([nD (cntAt l a (k + 1) 0), nD (cntAt l a (k + 1) 1), nD (cntAt l a (k + 1) 2), nD (cntAt l a (k + 1) 3), nD (cntAt l a (k + 1) 4), nD (cntAt l a (k + 1) 5), nD (cntAt l a (k + 1) 6), nD (cntAt l a (k + 1) 7), nD (cntAt l a (k + 1) 8), nD (cntAt l a (k + 1) 9), nD (cntAt l a (k + 1) 10), nD (cntAt l a (k + 1) 11), nD (cntAt l a (k + 1) 12), nD (cntAt l a (k + 1) 13), nD (cntAt l a (k + 1) 14), nD (cntAt l a (k + 1) 15), D.ref 16 16 0 (List.length (symsAt l a k)) 1]) (@st16 l a k (0 + a * 1) (D.ref 16 16 0 (List.length (symsAt l a k)) 1) om om om om) (.s 10 (.chk (true && Nat.beq (List.length (symsAt l a k) * 1) (List.length (List.map nD (symsAt l a k))) && true && true && true && true && Nat.ble ((List.length (symsAt l a k) + 1) * 8) 140737488355328) zbx3 (.s 9 (.ow ((↑k : Int) + 1) (.s 1 (.val 5 (iD ((↑k : Int) + 1)) (nD (k + 1)) zbx0 (.blk 8 8 (Blk.mk [nD (cntAt l a (k + 1) 0), nD (cntAt l a (k + 1) 1), nD (cntAt l a (k + 1) 2), nD (cntAt l a (k + 1) 3), nD (cntAt l a (k + 1) 4), nD (cntAt l a (k + 1) 5), nD (cntAt l a (k + 1) 6), nD (cntAt l a (k + 1) 7), nD (cntAt l a (k + 1) 8), nD (cntAt l a (k + 1) 9), nD (cntAt l a (k + 1) 10), nD (cntAt l a (k + 1) 11), nD (cntAt l a (k + 1) 12), nD (cntAt l a (k + 1) 13), nD (cntAt l a (k + 1) 14), nD (cntAt l a (k + 1) 15), D.ref 208 208 0 (List.length (symsAt l a k) + 1) 1] 26 false) (Blk.mk [nD (cntAt l a (k + 1) 0), nD (cntAt l a (k + 1) 1), nD (cntAt l a (k + 1) 2), nD (cntAt l a (k + 1) 3), nD (cntAt l a (k + 1) 4), nD (cntAt l a (k + 1) 5), nD (cntAt l a (k + 1) 6), nD (cntAt l a (k + 1) 7), nD (cntAt l a (k + 1) 8), nD (cntAt l a (k + 1) 9), nD (cntAt l a (k + 1) 10), nD (cntAt l a (k + 1) 11), nD (cntAt l a (k + 1) 12), nD (cntAt l a (k + 1) 13), nD (cntAt l a (k + 1) 14), nD (cntAt l a (k + 1) 15), D.ref 208 208 0 (List.length (symsAt l a (k + 1))) 1] 26 false) (by (simp only [symsY (l := l) (a := a) (k := k) (by (omega)) (by (omega)), List.length_append]; rfl)) (.blk 208 208 (Blk.mk (List.map nD (symsAt l a k) ++ [nD k]) 3 true) (Blk.mk (List.map nD (symsAt l a (k + 1))) 3 true) (by (simp only [symsY (l := l) (a := a) (k := k) (by (omega)) (by (omega)), List.map_append]; rfl)) (Hn.next next2 ⟨(k + 1), om, ⟨⟩⟩ zbx4 [(0, 0), (8, 8), (208, 208)] ro))))))))))))))))))))) (fun p2 => have p2f := of_beq_f p2; (.s 3 (.ow ((↑k : Int) + 1) (.s 1 (.val 5 (iD ((↑k : Int) + 1)) (nD (k + 1)) zbx0 (.blk 8 8 (Blk.mk [nD (cntAt l a k 0), nD (cntAt l a k 1), nD (cntAt l a k 2), nD (cntAt l a k 3), nD (cntAt l a k 4), nD (cntAt l a k 5), nD (cntAt l a k 6), nD (cntAt l a k 7), nD (cntAt l a k 8), nD (cntAt l a k 9), nD (cntAt l a k 10), nD (cntAt l a k 11), nD (cntAt l a k 12), nD (cntAt l a k 13), nD (cntAt l a k 14), nD (cntAt l a k 15), D.ref 16 16 0 (List.length (symsAt l a k)) 1] 26 false) (Blk.mk [nD (cntAt l a (k + 1) 0), nD (cntAt l a (k + 1) 1), nD (cntAt l a (k + 1) 2), nD (cntAt l a (k + 1) 3), nD (cntAt l a (k + 1) 4), nD (cntAt l a (k + 1) 5), nD (cntAt l a (k + 1) 6), nD (cntAt l a (k + 1) 7), nD (cntAt l a (k + 1) 8), nD (cntAt l a (k + 1) 9), nD (cntAt l a (k + 1) 10), nD (cntAt l a (k + 1) 11), nD (cntAt l a (k + 1) 12), nD (cntAt l a (k + 1) 13), nD (cntAt l a (k + 1) 14), nD (cntAt l a (k + 1) 15), D.ref 16 16 0 (List.length (symsAt l a (k + 1))) 1] 26 false) zbx5 (.blk 16 16 (Blk.mk (List.map nD (symsAt l a k)) 3 true) (Blk.mk (List.map nD (symsAt l a (k + 1))) 3 true) zbx5 (Hn.next next2 ⟨(k + 1), om, ⟨⟩⟩ zbx4 [(0, 0), (8, 8), (16, 16)] ro))))))))))))))))) (fun p1 => have p1f := odf p1; (.val 5 (nD k) (nD n) zbx2 (.blk 8 8 (Blk.mk [nD (cntAt l a k 0), nD (cntAt l a k 1), nD (cntAt l a k 2), nD (cntAt l a k 3), nD (cntAt l a k 4), nD (cntAt l a k 5), nD (cntAt l a k 6), nD (cntAt l a k 7), nD (cntAt l a k 8), nD (cntAt l a k 9), nD (cntAt l a k 10), nD (cntAt l a k 11), nD (cntAt l a k 12), nD (cntAt l a k 13), nD (cntAt l a k 14), nD (cntAt l a k 15), D.ref 16 16 0 (List.length (symsAt l a k)) 1] 26 false) (Blk.mk [nD (cntAt l a n 0), nD (cntAt l a n 1), nD (cntAt l a n 2), nD (cntAt l a n 3), nD (cntAt l a n 4), nD (cntAt l a n 5), nD (cntAt l a n 6), nD (cntAt l a n 7), nD (cntAt l a n 8), nD (cntAt l a n 9), nD (cntAt l a n 10), nD (cntAt l a n 11), nD (cntAt l a n 12), nD (cntAt l a n 13), nD (cntAt l a n 14), nD (cntAt l a n 15), D.ref 16 16 0 (List.length (symsAt l a n)) 1] 26 false) zbx2 (.blk 16 16 (Blk.mk (List.map nD (symsAt l a k)) 3 true) (Blk.mk (List.map nD (symsAt l a n)) 3 true) zbx2 (Hn.last last2 0 (() : Unit) rfl [(0, 0), (8, 8), (16, 16)] ro)))))))) (fun | ⟨k, hk, _⟩ => by kernel_rfl) ⟨(0), om, ⟨⟩⟩ [(0, 0), (8, 8), (16, 16)] ro (hs1 (fun | () => (.s 3 (.ow ((↑a : Int) + 1) (.s 1 (.val 4 (iD ((↑a : Int) + 1)) (nD (a + 1)) zbx0 (.blk 8 8 (Blk.mk [nD (cntAt l a n 0), nD (cntAt l a n 1), nD (cntAt l a n 2), nD (cntAt l a n 3), nD (cntAt l a n 4), nD (cntAt l a n 5), nD (cntAt l a n 6), nD (cntAt l a n 7), nD (cntAt l a n 8), nD (cntAt l a n 9), nD (cntAt l a n 10), nD (cntAt l a n 11), nD (cntAt l a n 12), nD (cntAt l a n 13), nD (cntAt l a n 14), nD (cntAt l a n 15), D.ref 16 16 0 (List.length (symsAt l a n)) 1] 26 false) (Blk.mk [nD (cntAt l (a + 1) 0 0), nD (cntAt l (a + 1) 0 1), nD (cntAt l (a + 1) 0 2), nD (cntAt l (a + 1) 0 3), nD (cntAt l (a + 1) 0 4), nD (cntAt l (a + 1) 0 5), nD (cntAt l (a + 1) 0 6), nD (cntAt l (a + 1) 0 7), nD (cntAt l (a + 1) 0 8), nD (cntAt l (a + 1) 0 9), nD (cntAt l (a + 1) 0 10), nD (cntAt l (a + 1) 0 11), nD (cntAt l (a + 1) 0 12), nD (cntAt l (a + 1) 0 13), nD (cntAt l (a + 1) 0 14), nD (cntAt l (a + 1) 0 15), D.ref 16 16 0 (List.length (symsAt l (a + 1) 0)) 1] 26 false) (by (subst hn; simp only [cntAt_up, symsAt_up])) (.blk 16 16 (Blk.mk (List.map nD (symsAt l a n)) 3 true) (Blk.mk (List.map nD (symsAt l (a + 1) 0)) 3 true) (by (subst hn; simp only [cntAt_up, symsAt_up])) (Hn.next next1 ⟨(a + 1), om, ⟨⟩⟩ (by show 16 - (a + 1) < 16 - a; clear next1 last1; omega) [(0, 0), (8, 8), (16, 16)] ro)))))))))))) (fun p0 => have p0f := odf p0; (.val 4 (nD a) (iD 16) zbx0 (.blk 8 8 (Blk.mk [nD (cntAt l a 0 0), nD (cntAt l a 0 1), nD (cntAt l a 0 2), nD (cntAt l a 0 3), nD (cntAt l a 0 4), nD (cntAt l a 0 5), nD (cntAt l a 0 6), nD (cntAt l a 0 7), nD (cntAt l a 0 8), nD (cntAt l a 0 9), nD (cntAt l a 0 10), nD (cntAt l a 0 11), nD (cntAt l a 0 12), nD (cntAt l a 0 13), nD (cntAt l a 0 14), nD (cntAt l a 0 15), D.ref 16 16 0 (List.length (symsAt l a 0)) 1] 26 false) (Blk.mk [nD (cnt l 0), nD (cnt l 1), nD (cnt l 2), nD (cnt l 3), nD (cnt l 4), nD (cnt l 5), nD (cnt l 6), nD (cnt l 7), nD (cnt l 8), nD (cnt l 9), nD (cnt l 10), nD (cnt l 11), nD (cnt l 12), nD (cnt l 13), nD (cnt l 14), nD (cnt l 15), D.ref 16 16 0 (List.length (symsL l)) 1] 26 false) zbx6 (.blk 16 16 (Blk.mk (List.map nD (symsAt l a 0)) 3 true) (Blk.mk (List.map nD (symsL l)) 3 true) zbx6 (Hn.last last1 0 (() : Unit) rfl [(0, 0), (8, 8), (16, 16)] ro)))))))) (fun | ⟨a, ha, _⟩ => by kernel_rfl) ⟨(1), om, ⟨⟩⟩ [(0, 0), (8, 8), (24, 24)] ro (hs1 (fun | () => (.s 10 (.out [16] [16] (D.agg [nD (cnt l 0), nD (cnt l 1), nD (cnt l 2), nD (cnt l 3), nD (cnt l 4), nD (cnt l 5), nD (cnt l 6), nD (cnt l 7), nD (cnt l 8), nD (cnt l 9), nD (cnt l 10), nD (cnt l 11), nD (cnt l 12), nD (cnt l 13), nD (cnt l 14), nD (cnt l 15), D.ref 0 0 0 (List.length (symsL l)) 1]) [Blk.mk (List.map nD (symsL l)) 3 true] R (ok _ _ (by exact rfl) wr))))))))))) (by kernel_rfl)
theorem rSame_n (f g : Nat → Int) (ys zs : List Int) (q p : Nat) (hq : q = ys.length) (hp : p = zs.length) (hQ : q ≤ 1000000) (hP : p ≤ 1000000) (hne : ¬ ((∀ i, i < 16 → f i = g i) ∧ ys = zs)) : SpecH false Try.prog 34 [trD f q ys, trD g p zs] [] (bD false) [] := by
 refine SpecH.run T_ok mixed Try.func34 rfl rfl rfl trivial rfl 1000 64 (fun R ok => (.s 23 (.br (!(f 0 == g 0 && (f 1 == g 1 && (f 2 == g 2 && (f 3 == g 3 && (f 4 == g 4 && (f 5 == g 5 && (f 6 == g 6 && (f 7 == g 7 && (f 8 == g 8 && (f 9 == g 9 && (f 10 == g 10 && (f 11 == g 11 && (f 12 == g 12 && (f 13 == g 13 && (f 14 == g 14 && (f 15 == g 15 && true))))))))))))))))) (fun p0 => have p0f := (not_t p0); (.s 15 (.out [] [] (D.v (.bool false)) [] R (ok _ _ wr wr)))) (fun p0 => have p0f := eq_of_beq (and_t1 (not_f p0)); have p0f1 := eq_of_beq (and_t1 (and_t2 (not_f p0))); have p0f2 := eq_of_beq (and_t1 (and_t2 (and_t2 (not_f p0)))); have p0f3 := eq_of_beq (and_t1 (and_t2 (and_t2 (and_t2 (not_f p0))))); have p0f4 := eq_of_beq (and_t1 (and_t2 (and_t2 (and_t2 (and_t2 (not_f p0)))))); have p0f5 := eq_of_beq (and_t1 (and_t2 (and_t2 (and_t2 (and_t2 (and_t2 (not_f p0))))))); have p0f6 := eq_of_beq (and_t1 (and_t2 (and_t2 (and_t2 (and_t2 (and_t2 (and_t2 (not_f p0)))))))); have p0f7 := eq_of_beq (and_t1 (and_t2 (and_t2 (and_t2 (and_t2 (and_t2 (and_t2 (and_t2 (not_f p0))))))))); have p0f8 := eq_of_beq (and_t1 (and_t2 (and_t2 (and_t2 (and_t2 (and_t2 (and_t2 (and_t2 (and_t2 (not_f p0)))))))))); have p0f9 := eq_of_beq (and_t1 (and_t2 (and_t2 (and_t2 (and_t2 (and_t2 (and_t2 (and_t2 (and_t2 (and_t2 (not_f p0))))))))))); have p0f10 := eq_of_beq (and_t1 (and_t2 (and_t2 (and_t2 (and_t2 (and_t2 (and_t2 (and_t2 (and_t2 (and_t2 (and_t2 (not_f p0)))))))))))); have p0f11 := eq_of_beq (and_t1 (and_t2 (and_t2 (and_t2 (and_t2 (and_t2 (and_t2 (and_t2 (and_t2 (and_t2 (and_t2 (and_t2 (not_f p0))))))))))))); have p0f12 := eq_of_beq (and_t1 (and_t2 (and_t2 (and_t2 (and_t2 (and_t2 (and_t2 (and_t2 (and_t2 (and_t2 (and_t2 (and_t2 (and_t2 (not_f p0)))))))))))))); have p0f13 := eq_of_beq (and_t1 (and_t2 (and_t2 (and_t2 (and_t2 (and_t2 (and_t2 (and_t2 (and_t2 (and_t2 (and_t2 (and_t2 (and_t2 (and_t2 (not_f p0))))))))))))))); have p0f14 := eq_of_beq (and_t1 (and_t2 (and_t2 (and_t2 (and_t2 (and_t2 (and_t2 (and_t2 (and_t2 (and_t2 (and_t2 (and_t2 (and_t2 (and_t2 (and_t2 (not_f p0)))))))))))))))); have p0f15 := eq_of_beq (and_t1 (and_t2 (and_t2 (and_t2 (and_t2 (and_t2 (and_t2 (and_t2 (and_t2 (and_t2 (and_t2 (and_t2 (and_t2 (and_t2 (and_t2 (and_t2 (not_f p0))))))))))))))))); (.s 22 (.br ((↑q : Int) != (↑p : Int)) (fun p1 => have p1f := of_bne_t p1; (.s 1 (.out [] [] (D.v (.bool false)) [] R (ok _ _ wr wr)))) (fun p1 => have p1f := of_bne_f p1; (.s 1 (Hn.inl T_ok mixed false 38 0 (loopAt Try.prog 34 0) (fun (x : (i : Nat) ×' (hi : i ≤ q) ×' (he : ∀ j, j < i → ys.getD j default = zs.getD j default) ×' Unit) => match x with | ⟨i, hi, he, _⟩ => CutS.mk [(2, D.ptr 0 0 0), (3, D.ptr 8 8 0), (5, nD i)] [⟨0, 0, 0, 0, .b ⟨[iD (f 0), iD (f 1), iD (f 2), iD (f 3), iD (f 4), iD (f 5), iD (f 6), iD (f 7), iD (f 8), iD (f 9), iD (f 10), iD (f 11), iD (f 12), iD (f 13), iD (f 14), iD (f 15), D.sl false q 1 (List.map iD ys)], 26, false⟩⟩, ⟨8, 8, 8, 8, .b ⟨[iD (g 0), iD (g 1), iD (g 2), iD (g 3), iD (g 4), iD (g 5), iD (g 6), iD (g 7), iD (g 8), iD (g 9), iD (g 10), iD (g 11), iD (g 12), iD (g 13), iD (g 14), iD (g 15), D.sl false p 1 (List.map iD zs)], 26, false⟩⟩] 16) (fun (x : (i : Nat) ×' (hi : i ≤ q) ×' (he : ∀ j, j < i → ys.getD j default = zs.getD j default) ×' Unit) => match x with | ⟨i, hi, he, _⟩ => q - i) [⟨Unit, .ret, fun x => match x with | () => CutS.mk [(4, bD false)] [⟨0, 0, 0, 0, .b ⟨[iD (f 0), iD (f 1), iD (f 2), iD (f 3), iD (f 4), iD (f 5), iD (f 6), iD (f 7), iD (f 8), iD (f 9), iD (f 10), iD (f 11), iD (f 12), iD (f 13), iD (f 14), iD (f 15), D.sl false q 1 (List.map iD ys)], 26, false⟩⟩, ⟨8, 8, 8, 8, .b ⟨[iD (g 0), iD (g 1), iD (g 2), iD (g 3), iD (g 4), iD (g 5), iD (g 6), iD (g 7), iD (g 8), iD (g 9), iD (g 10), iD (g 11), iD (g 12), iD (g 13), iD (g 14), iD (g 15), D.sl false p 1 (List.map iD zs)], 26, false⟩⟩] 16⟩, ⟨(hx : ys = zs) ×' Unit, .exit 0, fun x => match x with | ⟨hx, _⟩ => CutS.mk [(2, D.ptr 0 0 0), (3, D.ptr 8 8 0), (5, nD q)] [⟨0, 0, 0, 0, .b ⟨[iD (f 0), iD (f 1), iD (f 2), iD (f 3), iD (f 4), iD (f 5), iD (f 6), iD (f 7), iD (f 8), iD (f 9), iD (f 10), iD (f 11), iD (f 12), iD (f 13), iD (f 14), iD (f 15), D.sl false q 1 (List.map iD ys)], 26, false⟩⟩, ⟨8, 8, 8, 8, .b ⟨[iD (g 0), iD (g 1), iD (g 2), iD (g 3), iD (g 4), iD (g 5), iD (g 6), iD (g 7), iD (g 8), iD (g 9), iD (g 10), iD (g 11), iD (g 12), iD (g 13), iD (g 14), iD (g 15), D.sl false p 1 (List.map iD zs)], 26, false⟩⟩] 16⟩] 1000 64 (fun | ⟨i, hi, he, _⟩, Q, next1, last1 => (.s 10 (.br (decide ((↑i : Int) < (↑q : Int))) (fun p2 => have p2f := odt p2; (.s 9 (.chk (true && decide ((↑i : Int) < (↑q : Int)) && true) zbx1 (.s 2 (.opt ((List.map iD ys)[i * 1]?) (iD (List.getD ys (i * 1) default)) (map_get _ _ om) (.s 8 (.chk (true && decide ((↑i : Int) < (↑p : Int)) && true) zbx1 (.s 2 (.opt ((List.map iD zs)[i * 1]?) (iD (List.getD zs (i * 1) default)) (map_get _ _ om) (.s 2 (.br (List.getD ys (i * 1) default != List.getD zs (i * 1) default) (fun p3 => have p3f := of_bne_t p3; (.s 1 (Hn.last last1 0 (() : Unit) rfl [(0, 0), (8, 8)] ro))) (fun p3 => have p3f := of_bne_f p3; (.s 3 (.ow ((↑i : Int) + 1) (.s 1 (.val 5 (iD ((↑i : Int) + 1)) (nD (i + 1)) zbx0 (Hn.next next1 ⟨(i + 1), om, (by (refine ex_nx asm ?_; rw [Nat.mul_one] at *; (omega))), ⟨⟩⟩ (by show q - (i + 1) < q - i; clear next1 last1; omega) [(0, 0), (8, 8)] ro))))))))))))))))) (fun p2 => have p2f := odf p2; (.val 5 (nD i) (nD q) zbx0 (Hn.last last1 1 (⟨(by (exact ex_ne (i := i) hq (by (omega)) (by (omega)) asm)), ⟨⟩⟩ : (hx : ys = zs) ×' Unit) rfl [(0, 0), (8, 8)] ro)))))) (fun | ⟨i, hi, he, _⟩ => by kernel_rfl) ⟨(0), om, om, ⟨⟩⟩ [(0, 0), (8, 8)] ro (hs2 (fun | () => (.out [] [] (D.v (.bool false)) [] R (ok _ _ wr wr))) (fun | ⟨hx, _⟩ => (.abs (by ( exact hne ⟨eq16 (not_f asm), hx⟩)))))))))))))) (by kernel_rfl)
theorem rSame_t (l : List UInt8) (q p : Nat) (hq : q = (symsL l).length) (hp : p = (symsL l).length) (hQ : q ≤ 1000000) : SpecH false Try.prog 34 [treeD q l, treeD p l] [] (bD true) [] := by
 refine SpecH.run T_ok mixed Try.func34 rfl rfl rfl trivial rfl 1000 64 (fun R ok => (.s 23 (.f (!((↑(cnt l 0) : Int) == (↑(cnt l 0) : Int) && ((↑(cnt l 1) : Int) == (↑(cnt l 1) : Int) && ((↑(cnt l 2) : Int) == (↑(cnt l 2) : Int) && ((↑(cnt l 3) : Int) == (↑(cnt l 3) : Int) && ((↑(cnt l 4) : Int) == (↑(cnt l 4) : Int) && ((↑(cnt l 5) : Int) == (↑(cnt l 5) : Int) && ((↑(cnt l 6) : Int) == (↑(cnt l 6) : Int) && ((↑(cnt l 7) : Int) == (↑(cnt l 7) : Int) && ((↑(cnt l 8) : Int) == (↑(cnt l 8) : Int) && ((↑(cnt l 9) : Int) == (↑(cnt l 9) : Int) && ((↑(cnt l 10) : Int) == (↑(cnt l 10) : Int) && ((↑(cnt l 11) : Int) == (↑(cnt l 11) : Int) && ((↑(cnt l 12) : Int) == (↑(cnt l 12) : Int) && ((↑(cnt l 13) : Int) == (↑(cnt l 13) : Int) && ((↑(cnt l 14) : Int) == (↑(cnt l 14) : Int) && ((↑(cnt l 15) : Int) == (↑(cnt l 15) : Int) && true))))))))))))))))) (by (simp; done)) (.s 22 (.f ((↑q : Int) != (↑p : Int)) (by (simp <;> (omega))) (.s 1 (Hn.inl T_ok mixed false 38 0 (loopAt Try.prog 34 0) (fun (x : (i : Nat) ×' (hi : i ≤ q) ×' Unit) => match x with | ⟨i, hi, _⟩ => CutS.mk [(2, D.ptr 0 0 0), (3, D.ptr 8 8 0), (5, nD i)] [⟨0, 0, 0, 0, .b ⟨[nD (cnt l 0), nD (cnt l 1), nD (cnt l 2), nD (cnt l 3), nD (cnt l 4), nD (cnt l 5), nD (cnt l 6), nD (cnt l 7), nD (cnt l 8), nD (cnt l 9), nD (cnt l 10), nD (cnt l 11), nD (cnt l 12), nD (cnt l 13), nD (cnt l 14), nD (cnt l 15), D.sl false q 1 (List.map nD (symsL l))], 26, false⟩⟩, ⟨8, 8, 8, 8, .b ⟨[nD (cnt l 0), nD (cnt l 1), nD (cnt l 2), nD (cnt l 3), nD (cnt l 4), nD (cnt l 5), nD (cnt l 6), nD (cnt l 7), nD (cnt l 8), nD (cnt l 9), nD (cnt l 10), nD (cnt l 11), nD (cnt l 12), nD (cnt l 13), nD (cnt l 14), nD (cnt l 15), D.sl false p 1 (List.map nD (symsL l))], 26, false⟩⟩] 16) (fun (x : (i : Nat) ×' (hi : i ≤ q) ×' Unit) => match x with | ⟨i, hi, _⟩ => q - i) [⟨Unit, .exit 0, fun x => match x with | () => CutS.mk [(2, D.ptr 0 0 0), (3, D.ptr 8 8 0), (5, nD q)] [⟨0, 0, 0, 0, .b ⟨[nD (cnt l 0), nD (cnt l 1), nD (cnt l 2), nD (cnt l 3), nD (cnt l 4), nD (cnt l 5), nD (cnt l 6), nD (cnt l 7), nD (cnt l 8), nD (cnt l 9), nD (cnt l 10), nD (cnt l 11), nD (cnt l 12), nD (cnt l 13), nD (cnt l 14), nD (cnt l 15), D.sl false q 1 (List.map nD (symsL l))], 26, false⟩⟩, ⟨8, 8, 8, 8, .b ⟨[nD (cnt l 0), nD (cnt l 1), nD (cnt l 2), nD (cnt l 3), nD (cnt l 4), nD (cnt l 5), nD (cnt l 6), nD (cnt l 7), nD (cnt l 8), nD (cnt l 9), nD (cnt l 10), nD (cnt l 11), nD (cnt l 12), nD (cnt l 13), nD (cnt l 14), nD (cnt l 15), D.sl false p 1 (List.map nD (symsL l))], 26, false⟩⟩] 16⟩] 1000 64 (fun | ⟨i, hi, _⟩, Q, next1, last1 => (.s 10 (.br (decide ((↑i : Int) < (↑q : Int))) (fun p0 => have p0f := odt p0; (.s 9 (.chk (true && decide ((↑i : Int) < (↑q : Int)) && true) zbx1 (.s 2 (.opt ((List.map nD (symsL l))[i * 1]?) (nD (List.getD (symsL l) (i * 1) default)) (map_get _ _ om) (.s 8 (.chk (true && decide ((↑i : Int) < (↑p : Int)) && true) zbx1 (.s 2 (.opt ((List.map nD (symsL l))[i * 1]?) (nD (List.getD (symsL l) (i * 1) default)) (map_get _ _ om) (.s 2 (.f ((↑(List.getD (symsL l) (i * 1) default) : Int) != (↑(List.getD (symsL l) (i * 1) default) : Int)) (by (simp; done)) (.s 3 (.ow ((↑i : Int) + 1) (.s 1 (.val 5 (iD ((↑i : Int) + 1)) (nD (i + 1)) zbx0 (Hn.next next1 ⟨(i + 1), om, ⟨⟩⟩ (by show q - (i + 1) < q - i; clear next1 last1; omega) [(0, 0), (8, 8)] ro)))))))))))))))) (fun p0 => have p0f := odf p0; (.val 5 (nD i) (nD q) zbx0 (Hn.last last1 0 (() : Unit) rfl [(0, 0), (8, 8)] ro)))))) (fun | ⟨i, hi, _⟩ => by kernel_rfl) ⟨(0), om, ⟨⟩⟩ [(0, 0), (8, 8)] ro (hs1 (fun | () => (.s 1 (.out [] [] (D.v (.bool true)) [] R (ok _ _ wr wr)))))))))))) (by kernel_rfl)
theorem rSame_z (f : Nat → Int) (ys : List Int) (q : Nat) (hq : q = ys.length) (hQ : q ≤ 100000) (z : Bool) (h : ZrB f q z) : SpecH false Try.prog 34 [trD f q ys, zeroT] [] (bD z) [] := by
 refine SpecH.run T_ok mixed Try.func34 rfl rfl rfl trivial rfl 1000 64 (fun R ok => (.s 23 (.br (!(f 0 == 0 && (f 1 == 0 && (f 2 == 0 && (f 3 == 0 && (f 4 == 0 && (f 5 == 0 && (f 6 == 0 && (f 7 == 0 && (f 8 == 0 && (f 9 == 0 && (f 10 == 0 && (f 11 == 0 && (f 12 == 0 && (f 13 == 0 && (f 14 == 0 && (f 15 == 0 && true))))))))))))))))) (fun p0 => have p0f := (not_t p0); (.s 15 (.out [] [] (D.v (.bool false)) [] R (ok _ _ (by ( rw [zr_f h (not_t asm)])) wr)))) (fun p0 => have p0f := eq_of_beq (and_t1 (not_f p0)); have p0f1 := eq_of_beq (and_t1 (and_t2 (not_f p0))); have p0f2 := eq_of_beq (and_t1 (and_t2 (and_t2 (not_f p0)))); have p0f3 := eq_of_beq (and_t1 (and_t2 (and_t2 (and_t2 (not_f p0))))); have p0f4 := eq_of_beq (and_t1 (and_t2 (and_t2 (and_t2 (and_t2 (not_f p0)))))); have p0f5 := eq_of_beq (and_t1 (and_t2 (and_t2 (and_t2 (and_t2 (and_t2 (not_f p0))))))); have p0f6 := eq_of_beq (and_t1 (and_t2 (and_t2 (and_t2 (and_t2 (and_t2 (and_t2 (not_f p0)))))))); have p0f7 := eq_of_beq (and_t1 (and_t2 (and_t2 (and_t2 (and_t2 (and_t2 (and_t2 (and_t2 (not_f p0))))))))); have p0f8 := eq_of_beq (and_t1 (and_t2 (and_t2 (and_t2 (and_t2 (and_t2 (and_t2 (and_t2 (and_t2 (not_f p0)))))))))); have p0f9 := eq_of_beq (and_t1 (and_t2 (and_t2 (and_t2 (and_t2 (and_t2 (and_t2 (and_t2 (and_t2 (and_t2 (not_f p0))))))))))); have p0f10 := eq_of_beq (and_t1 (and_t2 (and_t2 (and_t2 (and_t2 (and_t2 (and_t2 (and_t2 (and_t2 (and_t2 (and_t2 (not_f p0)))))))))))); have p0f11 := eq_of_beq (and_t1 (and_t2 (and_t2 (and_t2 (and_t2 (and_t2 (and_t2 (and_t2 (and_t2 (and_t2 (and_t2 (and_t2 (not_f p0))))))))))))); have p0f12 := eq_of_beq (and_t1 (and_t2 (and_t2 (and_t2 (and_t2 (and_t2 (and_t2 (and_t2 (and_t2 (and_t2 (and_t2 (and_t2 (and_t2 (not_f p0)))))))))))))); have p0f13 := eq_of_beq (and_t1 (and_t2 (and_t2 (and_t2 (and_t2 (and_t2 (and_t2 (and_t2 (and_t2 (and_t2 (and_t2 (and_t2 (and_t2 (and_t2 (not_f p0))))))))))))))); have p0f14 := eq_of_beq (and_t1 (and_t2 (and_t2 (and_t2 (and_t2 (and_t2 (and_t2 (and_t2 (and_t2 (and_t2 (and_t2 (and_t2 (and_t2 (and_t2 (and_t2 (not_f p0)))))))))))))))); have p0f15 := eq_of_beq (and_t1 (and_t2 (and_t2 (and_t2 (and_t2 (and_t2 (and_t2 (and_t2 (and_t2 (and_t2 (and_t2 (and_t2 (and_t2 (and_t2 (and_t2 (and_t2 (not_f p0))))))))))))))))); (.s 22 (.br ((↑q : Int) != 0) (fun p1 => have p1f := of_bne_t p1; (.s 1 (.out [] [] (D.v (.bool false)) [] R (ok _ _ (by ( rw [zr_q h om])) wr)))) (fun p1 => have p1f := of_bne_f p1; (.s 12 (.f (decide (0 < (↑q : Int))) (by (refine decide_eq_false ?_; (omega))) (.s 1 (.out [] [] (D.v (.bool true)) [] R (ok _ _ (by ( rw [zr_t h (not_f asm) om])) wr)))))))))))) (by kernel_rfl)
theorem rSame_gn (L : List UInt8) (q : Nat) (hq : q = (symsL L).length) (f : Nat → Int) (ys : List Int) (p : Nat) (hp : p = ys.length) (hQ : L.length ≤ 1000000) (hP : p ≤ 1000000) (hne : ¬ ((∀ i, i < 16 → f i = (cnt L i : Int)) ∧ ys = (symsL L).map (fun (n : Nat) => (n : Int)))) : SpecH false Try.prog 34 [treeD q L, trD f p ys] [] (bD false) [] := by
 have hQ2 := symsL_le L
 have h := rSame_n (fun i => (cnt L i : Int)) f ((symsL L).map (fun (n : Nat) => (n : Int))) ys q p (by rw [List.length_map]; exact hq) hp (by omega) hP (fun h => hne ⟨fun i hi => (h.1 i hi).symm, h.2.symm⟩)
 unfold trD trC at h
 rw [List.map_map] at h
 exact h
end Vp
end Go.Proofs.Ytegjeagfcfhbeaa
namespace Go.Proofs.Ytegjeagfcfhbeaa
open Go.RowKit Go.Bw Go.Vx
namespace Vp
theorem zm0 {p : Prop} (h : p := by (refine decide_eq_false ?_; (omega))) : p := h
theorem St_a (b : List UInt8) (n : Nat) (hn : n = b.length) (hN : n ≤ 131072) (kd : Nat) (hkd : kd < 256) (la : Bool) (le : Int) (f1 f2 : Nat → Int) (ys1 ys2 : List Int) (q1 q2 : Nat) (hq1 : q1 = ys1.length) (hq2 : q2 = ys2.length) (hQ1 : q1 ≤ 100000) (hQ2 : q2 ≤ 100000) (x : Int) (h : x < 0 ∨ 8 * (n : Int) < x) : SpecH false Try.prog 12 [.agg ([u8D kd, bD la, iD le] ++ trC f1 q1 ys1 ++ trC f2 q2 ys2), .sl false n 1 (b.map dB), iD x] [] (nxtD (0, 0, 0, false, 0, 2)) [] := by
 refine SpecH.run T_ok mixed Try.func12 rfl rfl rfl trivial rfl 1000 64 (fun R ok => (.s 17 (.f (decide (131072 < (↑n : Int))) zm0 (.s 5 (.br (decide (x < 0)) (fun p0 => have p0f := odt p0; (.s 37 (.out [] [] (D.tup [D.agg [D.v (Value.int .u8 0), iD 0, iD 0], D.v (.bool false), iD 0, iD 2]) [] R (ok _ _ (by (simp; done)) wr)))) (fun p0 => have p0f := odf p0; (.s 7 (.ow (8 * (↑n : Int)) (.s 4 (.t (decide (8 * (↑n : Int) < x)) (by (refine decide_eq_true ?_; (omega))) (.s 27 (.out [] [] (D.tup [D.agg [D.v (Value.int .u8 0), iD 0, iD 0], D.v (.bool false), iD 0, iD 2]) [] R (ok _ _ (by (simp; done)) wr))))))))))))) (by kernel_rfl)
theorem St_c (b : List UInt8) (n : Nat) (hn : n = b.length) (hN : n ≤ 131072) (kd : Nat) (hkd : kd < 256) (la : Bool) (le : Int) (f1 f2 : Nat → Int) (ys1 ys2 : List Int) (q1 q2 : Nat) (hq1 : q1 = ys1.length) (hq2 : q2 = ys2.length) (hQ1 : q1 ≤ 100000) (hQ2 : q2 ≤ 100000) (z1 z2 : Bool) (hz1 : ZrB f1 q1 z1) (hz2 : ZrB f2 q2 z2) (e1 e2 : Nat) (he1 : TrE f1 ys1 e1) (he2 : TrE f2 ys2 e2) (e : Nat) (hE : PkE kd le z1 z2 e1 e2 e) (x : Int) (h : 0 ≤ x ∧ x ≤ 8 * (n : Int)) (h8 : e = 8) : SpecH false Try.prog 12 [.agg ([u8D kd, bD la, iD le] ++ trC f1 q1 ys1 ++ trC f2 q2 ys2), .sl false n 1 (b.map dB), iD x] [] (nxtD (0, 0, 0, false, 0, 8)) [] := by
 refine SpecH.run T_ok mixed Try.func12 rfl rfl rfl trivial rfl 1000 64 (fun R ok => (.s 17 (.f (decide (131072 < (↑n : Int))) zm0 (.s 5 (.f (decide (x < 0)) zm0 (.s 7 (.ow (8 * (↑n : Int)) (.s 4 (.f (decide (8 * (↑n : Int) < x)) zm0 (.s 24 (.call 15 false [] (true) wr ([D.agg [D.v (Value.int .u8 (↑kd : Int)), D.v (.bool la), iD le, iD (f1 0), iD (f1 1), iD (f1 2), iD (f1 3), iD (f1 4), iD (f1 5), iD (f1 6), iD (f1 7), iD (f1 8), iD (f1 9), iD (f1 10), iD (f1 11), iD (f1 12), iD (f1 13), iD (f1 14), iD (f1 15), D.sl false q1 1 (List.map iD ys1), iD (f2 0), iD (f2 1), iD (f2 2), iD (f2 3), iD (f2 4), iD (f2 5), iD (f2 6), iD (f2 7), iD (f2 8), iD (f2 9), iD (f2 10), iD (f2 11), iD (f2 12), iD (f2 13), iD (f2 14), iD (f2 15), D.sl false q2 1 (List.map iD ys2)]]) _ (by exact (And.intro (D.sim.refl _) trivial)) (true) wr _ _ _ (CallOk.fn (FnOk.of Try.func15 rfl rfl) (@pchk (kd) om (la) (le) (f1) (f2) (ys1) (ys2) (q1) (q2) om om om om (z1) (z2) asm asm (e1) (e2) asm asm (e) asm)) (.s 4 (.t ((↑e : Int) != 0) (by (simp <;> (omega))) (.s 14 (.out [] [] (D.tup [D.agg [D.v (Value.int .u8 0), iD 0, iD 0], D.v (.bool false), iD 0, nD e]) [] R (ok _ _ (by (simp <;> (omega))) wr)))))))))))))))) (by kernel_rfl)
structure KdV (kd le : Nat) (l1 l2 : List UInt8) : Prop where
 a : kd = 0 → le ≤ 65535 ∧ l1 = [] ∧ l2 = []
 b : kd ≠ 0 → kd ≤ 2 ∧ le = 0 ∧ l1.length = 320 ∧ l2.length = 320
 t1 : canE l1 15 = 0
 t2 : canE l2 15 = 0
theorem KdV.k {kd le : Nat} {l1 l2 : List UInt8} (h : KdV kd le l1 l2) : kd ≤ 2 ∧ le ≤ 65535 ∧ (symsL l1).length ≤ 320 ∧ (symsL l2).length ≤ 320 := by
 have s1 := symsL_le l1
 have s2 := symsL_le l2
 by_cases c : kd = 0
 ·have := h.a c
  rw [this.2.1] at s1 ⊢; rw [this.2.2] at s2 ⊢
  simp only [List.length_nil] at s1 s2
  omega
 ·have := h.b c; omega
theorem cnt_nil (i : Nat) : cnt [] i = 0 := by rw [cnt_eq]; unfold cntD; split <;> rfl
theorem pk_v {kd le : Nat} {l1 l2 : List UInt8} {q1 q2 : Nat} (hq1 : q1 = (symsL l1).length) (hq2 : q2 = (symsL l2).length) (hK : KdV kd le l1 l2) {P : Nat → Prop} (h : ∀ (z1 z2 : Bool) (_ : ZrB (fun i => (cnt l1 i : Int)) q1 z1) (_ : ZrB (fun i => (cnt l2 i : Int)) q2 z2) (e1 e2 : Nat) (_ : TrE (fun i => (cnt l1 i : Int)) ((symsL l1).map (fun (n : Nat) => (n : Int))) e1) (_ : TrE (fun i => (cnt l2 i : Int)) ((symsL l2).map (fun (n : Nat) => (n : Int))) e2) (e : Nat) (_ : PkE kd le z1 z2 e1 e2 e), P e) : P 0 := by
 have k := hK.k
 obtain ⟨z1, hz1⟩ := zrB_ex (fun i => (cnt l1 i : Int)) q1
 obtain ⟨z2, hz2⟩ := zrB_ex (fun i => (cnt l2 i : Int)) q2
 obtain ⟨e1, he1⟩ := trE_ex (fun i => (cnt l1 i : Int)) ((symsL l1).map (fun (n : Nat) => (n : Int)))
 obtain ⟨e2, he2⟩ := trE_ex (fun i => (cnt l2 i : Int)) ((symsL l2).map (fun (n : Nat) => (n : Int)))
 obtain ⟨e, hE⟩ := pkE_ex kd le z1 z2 e1 e2
 have h := h z1 z2 hz1 hz2 e1 e2 he1 he2 e hE
 have e0 : e = 0 := by
  by_cases c : kd = 0
  ·have a := hK.a c
   refine hE.a c (by omega) (by omega) ?_ ?_
   ·cases z1 with
    | true => rfl
    | false => exact absurd ⟨fun i _ => by show ((cnt l1 i : Nat) : Int) = 0; rw [a.2.1, cnt_nil]; rfl, by rw [hq1, a.2.1]; rfl⟩ (hz1.f rfl)
   ·cases z2 with
    | true => rfl
    | false => exact absurd ⟨fun i _ => by show ((cnt l2 i : Nat) : Int) = 0; rw [a.2.2, cnt_nil]; rfl, by rw [hq2, a.2.2]; rfl⟩ (hz2.f rfl)
  ·have a := hK.b c
   refine hE.b (by omega) (by omega) (by omega) ?_ ?_
   ·by_cases d : e1 = 0
    ·exact d
    ·exact absurd ⟨a.2.2.1, hK.t1, fun _ _ => rfl, rfl⟩ ((he1.b d).2 l1)
   ·by_cases d : e2 = 0
    ·exact d
    ·exact absurd ⟨a.2.2.2, hK.t2, fun _ _ => rfl, rfl⟩ ((he2.b d).2 l2)
 rw [e0] at h
 exact h
theorem pchk_v (kd le : Nat) (la : Bool) (l1 l2 : List UInt8) (q1 q2 : Nat) (hq1 : q1 = (symsL l1).length) (hq2 : q2 = (symsL l2).length) (hK : KdV kd le l1 l2) : SpecH false Try.prog 15 [.agg ([u8D kd, bD la, nD le] ++ treeC q1 l1 ++ treeC q2 l2)] [] (iD 0) [] := by
 have k := hK.k
 refine pk_v hq1 hq2 hK (P := fun e => SpecH false Try.prog 15 [.agg ([u8D kd, bD la, nD le] ++ treeC q1 l1 ++ treeC q2 l2)] [] (nD e) []) (fun z1 z2 hz1 hz2 e1 e2 he1 he2 e hE => ?_)
 have h := pchk kd (by omega) la le _ _ _ _ q1 q2 (by rw [List.length_map]; exact hq1) (by rw [List.length_map]; exact hq2) (by omega) (by omega) z1 z2 hz1 hz2 e1 e2 he1 he2 e hE
 rwa [trC_eq q1 (fun _ _ => rfl) rfl, trC_eq q2 (fun _ _ => rfl) rfl] at h
theorem step_v (b : List UInt8) (n : Nat) (hn : n = b.length) (hN : n ≤ 131072) (p : Nat) (hp : p ≤ 8 * n) (pi : Int) (hpi : pi = p) (kd le : Nat) (la : Bool) (l1 l2 : List UInt8) (hK : KdV kd le l1 l2) (q1 q2 : Nat) (hq1 : q1 = (symsL l1).length) (hq2 : q2 = (symsL l2).length) (r : Rs × Nat × Nat × Nat × Bool) (hr : stR b kd le l1 l2 (rs0 p) = r) : SpecH true Try.prog 31 [.ptr 0 0 0, .agg ([u8D kd, bD la, nD le] ++ treeC q1 l1 ++ treeC q2 l2)] [⟨[.sl false n 1 (b.map dB), iD pi, iD 0], 70, false⟩] (stD r) [⟨[.sl false n 1 (b.map dB), nD r.1.p, nD r.1.e], 70, false⟩] := by
 have k := hK.k
 subst hpi hr
 exact step_t b n hn (by omega) (rs0 p) (fun _ => hp) kd le la (by omega) (by omega) l1 l2 hK.t1 hK.t2 q1 q2 hq1 hq2
theorem nxt_o2 {r : Rs × Nat × Nat × Nat × Bool} (h : r.1.e = 0) : nxtR r = (r.2.1, r.2.2.1, r.2.2.2.1, r.2.2.2.2, r.1.p, 0) := (lk_eq _ _).trans (if_neg (by omega))
theorem nxt_e2 {r : Rs × Nat × Nat × Nat × Bool} (h : r.1.e ≠ 0) : nxtR r = (0, 0, 0, false, 0, r.1.e) := (lk_eq _ _).trans (if_pos h)
theorem St_v (b : List UInt8) (n : Nat) (hn : n = b.length) (hN : n ≤ 131072) (p : Nat) (hp : p ≤ 8 * n) (kd le : Nat) (la : Bool) (l1 l2 : List UInt8) (hK : KdV kd le l1 l2) (q1 q2 : Nat) (hq1 : q1 = (symsL l1).length) (hq2 : q2 = (symsL l2).length) (r : Rs × Nat × Nat × Nat × Bool) (hr : stR b kd le l1 l2 (rs0 p) = r) : SpecH false Try.prog 12 [.agg ([u8D kd, bD la, nD le] ++ treeC q1 l1 ++ treeC q2 l2), .sl false n 1 (b.map dB), nD p] [] (nxtD (nxtR r)) [] := by
 refine SpecH.run T_ok mixed Try.func12 rfl rfl rfl trivial rfl 1000 64 (fun R ok => (.s 17 (.f (decide (131072 < (↑n : Int))) zm0 (.s 13 (.ow (8 * (↑n : Int)) (.s 4 (.f (decide (8 * (↑n : Int) < (↑p : Int))) zm0 (.s 24 (.call 15 false [] (true) wr ([D.agg [D.v (Value.int .u8 (↑kd : Int)), D.v (.bool la), nD le, nD (cnt l1 0), nD (cnt l1 1), nD (cnt l1 2), nD (cnt l1 3), nD (cnt l1 4), nD (cnt l1 5), nD (cnt l1 6), nD (cnt l1 7), nD (cnt l1 8), nD (cnt l1 9), nD (cnt l1 10), nD (cnt l1 11), nD (cnt l1 12), nD (cnt l1 13), nD (cnt l1 14), nD (cnt l1 15), D.sl false q1 1 (List.map nD (symsL l1)), nD (cnt l2 0), nD (cnt l2 1), nD (cnt l2 2), nD (cnt l2 3), nD (cnt l2 4), nD (cnt l2 5), nD (cnt l2 6), nD (cnt l2 7), nD (cnt l2 8), nD (cnt l2 9), nD (cnt l2 10), nD (cnt l2 11), nD (cnt l2 12), nD (cnt l2 13), nD (cnt l2 14), nD (cnt l2 15), D.sl false q2 1 (List.map nD (symsL l2))]]) _ (by exact (And.intro (D.sim.refl _) trivial)) (true) wr _ _ _ (CallOk.fn (FnOk.of Try.func15 rfl rfl) (@pchk_v (kd) (le) (la) (l1) (l2) (q1) (q2) om om om)) (.s 11 (.call 31 true [200] (true) wr ([D.ptr 0 0 0, D.agg [D.v (Value.int .u8 (↑kd : Int)), D.v (.bool la), nD le, nD (cnt l1 0), nD (cnt l1 1), nD (cnt l1 2), nD (cnt l1 3), nD (cnt l1 4), nD (cnt l1 5), nD (cnt l1 6), nD (cnt l1 7), nD (cnt l1 8), nD (cnt l1 9), nD (cnt l1 10), nD (cnt l1 11), nD (cnt l1 12), nD (cnt l1 13), nD (cnt l1 14), nD (cnt l1 15), D.sl false q1 1 (List.map nD (symsL l1)), nD (cnt l2 0), nD (cnt l2 1), nD (cnt l2 2), nD (cnt l2 3), nD (cnt l2 4), nD (cnt l2 5), nD (cnt l2 6), nD (cnt l2 7), nD (cnt l2 8), nD (cnt l2 9), nD (cnt l2 10), nD (cnt l2 11), nD (cnt l2 12), nD (cnt l2 13), nD (cnt l2 14), nD (cnt l2 15), D.sl false q2 1 (List.map nD (symsL l2))]]) _ (by exact (And.intro (D.sim.refl _) (And.intro (D.sim.refl _) trivial))) (true) wr _ _ _ (CallOk.fn (FnOk.of Try.func31 rfl rfl) (@step_v (b) (n) om om (p) asm ((↑p : Int)) om (kd) (le) (la) (l1) (l2) om (q1) (q2) om om (r) asm)) (.s 19 (.br ((↑(Rs.e (Prod.fst r)) : Int) != 0) (fun p0 => have p0f := of_bne_t p0; (.s 20 (.out [] [] (D.tup [D.agg [D.v (Value.int .u8 0), iD 0, iD 0], D.v (.bool false), iD 0, nD (Rs.e (Prod.fst r))]) [] R (ok _ _ (by ( rw [nxt_e2 om]; rfl)) wr)))) (fun p0 => have p0f := of_bne_f p0; (.s 23 (.out [] [] (D.tup [D.agg [D.v (Value.int .u8 (↑(Prod.fst (Prod.snd r)) : Int)), nD (Prod.fst (Prod.snd (Prod.snd r))), nD (Prod.fst (Prod.snd (Prod.snd (Prod.snd r))))], D.v (.bool (Prod.snd (Prod.snd (Prod.snd (Prod.snd r))))), nD (Rs.p (Prod.fst r)), iD 0]) [] R (ok _ _ (by ( rw [nxt_o2 om]; rfl)) wr))))))))))))))))) (by kernel_rfl)
theorem Hd_a (b : List UInt8) (n : Nat) (hn : n = b.length) (hN : n ≤ 131072) (x : Int) (h : x < 0 ∨ 8 * (n : Int) < x) : SpecH false Try.prog 10 [.sl false n 1 (b.map dB), iD x] [] (.tup [.agg ([u8D 0, bD false, iD 0] ++ zeroC ++ zeroC), iD 0, iD 2]) [] := by
 refine SpecH.run T_ok mixed Try.func10 rfl rfl rfl trivial rfl 1000 64 (fun R ok => (.s 14 (.f (decide (131072 < (↑n : Int))) zm0 (.s 5 (.br (decide (x < 0)) (fun p0 => have p0f := odt p0; (.s 36 (.out [] [] (D.tup [D.agg [D.v (Value.int .u8 0), D.v (.bool false), iD 0, iD 0, iD 0, iD 0, iD 0, iD 0, iD 0, iD 0, iD 0, iD 0, iD 0, iD 0, iD 0, iD 0, iD 0, iD 0, iD 0, nilD, iD 0, iD 0, iD 0, iD 0, iD 0, iD 0, iD 0, iD 0, iD 0, iD 0, iD 0, iD 0, iD 0, iD 0, iD 0, iD 0, nilD], iD 0, iD 2]) [] R (ok _ _ (by exact rfl) wr)))) (fun p0 => have p0f := odf p0; (.s 7 (.ow (8 * (↑n : Int)) (.s 4 (.t (decide (8 * (↑n : Int) < x)) (by (refine decide_eq_true ?_; (omega))) (.s 26 (.out [] [] (D.tup [D.agg [D.v (Value.int .u8 0), D.v (.bool false), iD 0, iD 0, iD 0, iD 0, iD 0, iD 0, iD 0, iD 0, iD 0, iD 0, iD 0, iD 0, iD 0, iD 0, iD 0, iD 0, iD 0, nilD, iD 0, iD 0, iD 0, iD 0, iD 0, iD 0, iD 0, iD 0, iD 0, iD 0, iD 0, iD 0, iD 0, iD 0, iD 0, iD 0, nilD], iD 0, iD 2]) [] R (ok _ _ (by exact rfl) wr))))))))))))) (by kernel_rfl)
theorem head_v (b : List UInt8) (n : Nat) (hn : n = b.length) (hN : n ≤ 131072) (p : Nat) (hp : p ≤ 8 * n) (pi : Int) (hpi : pi = p) (H : Hd) (hH : hdR b (rs0 p) = H) : SpecH true Try.prog 27 [.ptr 0 0 0] [⟨[.sl false n 1 (b.map dB), iD pi, iD 0], 70, false⟩] (.agg ([u8D H.kd, bD H.la, nD H.le] ++ (c16 (cnt H.l1) ++ [.ref 1 1 0 (symsL H.l1).length 1]) ++ (c16 (cnt H.l2) ++ [.ref 2 2 0 (symsL H.l2).length 1]))) [⟨[.sl false n 1 (b.map dB), nD H.s.p, nD H.s.e], 70, false⟩, ⟨(symsL H.l1).map nD, 3, true⟩, ⟨(symsL H.l2).map nD, 3, true⟩] := by
 subst hpi hH
 exact head_t b n hn (by omega) (rs0 p) (fun _ => hp)
theorem Hd_e (b : List UInt8) (n : Nat) (hn : n = b.length) (hN : n ≤ 131072) (p : Nat) (hp : p ≤ 8 * n) (H : Hd) (hH : hdR b (rs0 p) = H) (h : H.s.e ≠ 0) : SpecH false Try.prog 10 [.sl false n 1 (b.map dB), nD p] [] (.tup [.agg ([u8D 0, bD false, iD 0] ++ zeroC ++ zeroC), iD 0, nD H.s.e]) [] := by
 refine SpecH.run T_ok mixed Try.func10 rfl rfl rfl trivial rfl 1000 64 (fun R ok => (.s 14 (.f (decide (131072 < (↑n : Int))) zm0 (.s 13 (.ow (8 * (↑n : Int)) (.s 4 (.f (decide (8 * (↑n : Int) < (↑p : Int))) zm0 (.s 21 (.cl 27 true [184] (.fn q27 (@head_v (b) (n) om om (p) asm ((↑p : Int)) om (H) asm)) (.s 13 (.t ((↑(Rs.e (Hd.s H)) : Int) != 0) (by (simp <;> (omega))) (.s 19 (.out [] [] (D.tup [D.agg [D.v (Value.int .u8 0), D.v (.bool false), iD 0, iD 0, iD 0, iD 0, iD 0, iD 0, iD 0, iD 0, iD 0, iD 0, iD 0, iD 0, iD 0, iD 0, iD 0, iD 0, iD 0, nilD, iD 0, iD 0, iD 0, iD 0, iD 0, iD 0, iD 0, iD 0, iD 0, iD 0, iD 0, iD 0, iD 0, iD 0, iD 0, iD 0, nilD], iD 0, nD (Rs.e (Hd.s H))]) [] R (ok _ _ (by exact rfl) wr)))))))))))))) (by kernel_rfl)
theorem Hd_o (b : List UInt8) (n : Nat) (hn : n = b.length) (hN : n ≤ 131072) (p : Nat) (hp : p ≤ 8 * n) (H : Hd) (hH : hdR b (rs0 p) = H) (h : H.s.e = 0) : SpecH false Try.prog 10 [.sl false n 1 (b.map dB), nD p] [] (.tup [.agg ([u8D H.kd, bD H.la, nD H.le] ++ (c16 (cnt H.l1) ++ [.ref 0 0 0 (symsL H.l1).length 1]) ++ (c16 (cnt H.l2) ++ [.ref 1 1 0 (symsL H.l2).length 1])), nD H.s.p, iD 0]) [⟨(symsL H.l1).map nD, 3, true⟩, ⟨(symsL H.l2).map nD, 3, true⟩] := by
 refine SpecH.run T_ok mixed Try.func10 rfl rfl rfl ⟨pl_map _ (fun _ => rfl) _, pl_map _ (fun _ => rfl) _, trivial⟩ rfl 1000 64 (fun R ok => (.s 14 (.f (decide (131072 < (↑n : Int))) zm0 (.s 13 (.ow (8 * (↑n : Int)) (.s 4 (.f (decide (8 * (↑n : Int) < (↑p : Int))) zm0 (.s 21 (.cl 27 true [184] (.fn q27 (@head_v (b) (n) om om (p) asm ((↑p : Int)) om (H) asm)) (.s 13 (.f ((↑(Rs.e (Hd.s H)) : Int) != 0) (by (simp <;> (omega))) (.s 21 (.out [296, 297] [296, 297] (D.tup [D.agg [D.v (Value.int .u8 (↑(Hd.kd H) : Int)), D.v (.bool (Hd.la H)), nD (Hd.le H), nD (cnt (Hd.l1 H) 0), nD (cnt (Hd.l1 H) 1), nD (cnt (Hd.l1 H) 2), nD (cnt (Hd.l1 H) 3), nD (cnt (Hd.l1 H) 4), nD (cnt (Hd.l1 H) 5), nD (cnt (Hd.l1 H) 6), nD (cnt (Hd.l1 H) 7), nD (cnt (Hd.l1 H) 8), nD (cnt (Hd.l1 H) 9), nD (cnt (Hd.l1 H) 10), nD (cnt (Hd.l1 H) 11), nD (cnt (Hd.l1 H) 12), nD (cnt (Hd.l1 H) 13), nD (cnt (Hd.l1 H) 14), nD (cnt (Hd.l1 H) 15), D.ref 0 0 0 (List.length (symsL (Hd.l1 H))) 1, nD (cnt (Hd.l2 H) 0), nD (cnt (Hd.l2 H) 1), nD (cnt (Hd.l2 H) 2), nD (cnt (Hd.l2 H) 3), nD (cnt (Hd.l2 H) 4), nD (cnt (Hd.l2 H) 5), nD (cnt (Hd.l2 H) 6), nD (cnt (Hd.l2 H) 7), nD (cnt (Hd.l2 H) 8), nD (cnt (Hd.l2 H) 9), nD (cnt (Hd.l2 H) 10), nD (cnt (Hd.l2 H) 11), nD (cnt (Hd.l2 H) 12), nD (cnt (Hd.l2 H) 13), nD (cnt (Hd.l2 H) 14), nD (cnt (Hd.l2 H) 15), D.ref 1 1 0 (List.length (symsL (Hd.l2 H))) 1], nD (Rs.p (Hd.s H)), iD 0]) [Blk.mk (List.map nD (symsL (Hd.l1 H))) 3 true, Blk.mk (List.map nD (symsL (Hd.l2 H))) 3 true] R (ok _ _ (by exact rfl) wr)))))))))))))) (by kernel_rfl)
end Vp
end Go.Proofs.Ytegjeagfcfhbeaa

/- Part 11. -/
import Derived.Test.YtegjeagfcfhbeaaTm10
import Derived.Test.YtegjeagfcfhbeaaTm4
import Derived.Test.YtegjeagfcfhbeaaOpen
import Derived.SizedLaws
namespace Go.Proofs.Ytegjeagfcfhbeaa
open Go.RowKit Go.Bw Go.Vx
namespace Vp
set_option linter.unusedVariables false
set_option linter.unusedSimpArgs false
set_option maxRecDepth 100000
set_option maxHeartbeats 4000000
theorem zy0 {p : Prop} (h : p := by (show D.v (.int .i64 _) = D.v (.int .i64 _);  have q1 := (tdX hn (show c ≤ 8 * n by omega) hT hX).f4 om asm om; first | (rw [q1.2.1]; done) | (rw [q1.2.2]; first | done | rfl))) : p := h
theorem zy1 {p : Prop} (h : p := by (show D.v (.int .i64 _) = D.v (.int .i64 _);  have q1 := (tdX hn (show c ≤ 8 * n by omega) hT hX).f5 om asm om om; first | (rw [q1.2.1]; done) | (rw [q1.2.2]; first | done | rfl))) : p := h
theorem zy2 {p : Prop} (h : p := by (show canE _ _ = 0; assumption)) : p := h
theorem zy3 {p : Prop} (h : p := by ( have h9 := tdX hn (show c ≤ 8 * n by omega) hT hX; have q1 := h9.f7 om; omega)) : p := h
theorem zy4 {p : Prop} (h : p := by (simp;  have h9 := tdX hn (show c ≤ 8 * n by omega) hT hX; have h8 := h9.f9; omega)) : p := h
theorem zy5 {p : Prop} (h : p := by ( have h9 := tdX hn (show c ≤ 8 * n by omega) hT hX; rw [plT_len]; omega)) : p := h
theorem zy6 {p : Prop} (h : p := by (show TdR _ _ _ _ _ _ _;  have h9 := tdX hn (show c ≤ 8 * n by omega) hT hX; exact h9.f6 om asm om om)) : p := h
theorem zy7 {p : Prop} (h : p := by show 8 * n + 1 - Prod.fst X.2.2.2.2 < 8 * n + 1 - c; clear next2 last2 next1 last1; ( have h9 := tdX hn (show c ≤ 8 * n by omega) hT hX; have q1 := h9.f8 om asm; have q2 := h9.f7 om; omega)) : p := h
theorem zy8 {p : Prop} (h : p := by (show D.v (.int .i64 _) = D.v (.int .i64 _);  have q1 := (tdX hn (show c ≤ 8 * n by omega) hT hX).f1 om; first | (rw [q1.2.1]; done) | (rw [q1.2.2]; first | done | rfl))) : p := h
theorem zy9 {p : Prop} (h : p := by (show D.ref _ _ _ _ _ = D.ref _ _ _ _ _;  have q1 := (tdX hn (show c ≤ 8 * n by omega) hT hX).f4 om asm om; rw [q1.1])) : p := h
theorem zy10 {p : Prop} (h : p := by (show (Blk.mk _ _ _ : Blk) = Blk.mk _ _ _;  have q1 := (tdX hn (show c ≤ 8 * n by omega) hT hX).f4 om asm om; rw [q1.1])) : p := h
theorem zy11 {p : Prop} (h : p := by (show D.ref _ _ _ _ _ = D.ref _ _ _ _ _;  have q1 := (tdX hn (show c ≤ 8 * n by omega) hT hX).f5 om asm om om; rw [q1.1])) : p := h
theorem zy12 {p : Prop} (h : p := by (show (Blk.mk _ _ _ : Blk) = Blk.mk _ _ _;  have q1 := (tdX hn (show c ≤ 8 * n by omega) hT hX).f5 om asm om om; rw [q1.1])) : p := h
theorem zy13 {p : Prop} (h : p := by (show D.ref _ _ _ _ _ = D.ref _ _ _ _ _; rw [cpG_0])) : p := h
theorem zy14 {p : Prop} (h : p := by (show (Blk.mk _ _ _ : Blk) = Blk.mk _ _ _; rw [cpG_0])) : p := h
theorem zy15 {p : Prop} (h : p := by (simp only [cpG_len, List.length_map, Nat.mul_one, Nat.beq_refl, Bool.true_and, Bool.and_true];  have h9 := tdX hn (show c ≤ 8 * n by omega) hT hX; refine Nat.ble_eq_true_of_le ?_; omega)) : p := h
theorem zy16 {p : Prop} (h : p := by (show D.ref _ _ _ _ _ = D.ref _ _ _ _ _; rw [cpG_len, cpG_len]; rfl)) : p := h
theorem zy17 {p : Prop} (h : p := by (refine iv_eq ?_; (omega))) : p := h
theorem zy18 {p : Prop} (h : p := by show max 1 X.2.2.1 - (j + 1) < max 1 X.2.2.1 - j; clear next3 last3 next2 last2 next1 last1; omega) : p := h
theorem zy19 {p : Prop} (h : p := by (show D.ref _ _ _ _ _ = D.ref _ _ _ _ _;  rw [cpG_end om])) : p := h
theorem zy20 {p : Prop} (h : p := by (show (Blk.mk _ _ _ : Blk) = Blk.mk _ _ _;  rw [cpG_end om])) : p := h
theorem zy21 {p : Prop} (h : p := by ( have h9 := tdX hn (show c ≤ 8 * n by omega) hT hX; have h7 := h9.len j; have h6 := h9.fa om asm om; omega)) : p := h
theorem zy22 {p : Prop} (h : p := by (show D.v (.int .i64 _) = D.v (.int .i64 _);  have q1 := hA asm; first | (rw [q1.2.1]; done) | (rw [q1.2.2]; first | done | rfl))) : p := h
theorem zy23 {p : Prop} (h : p := by (show D.ref _ _ _ _ _ = D.ref _ _ _ _ _;  have q1 := (tdX hn (show c ≤ 8 * n by omega) hT hX).f1 om; rw [q1.1])) : p := h
theorem zy24 {p : Prop} (h : p := by (show (Blk.mk _ _ _ : Blk) = Blk.mk _ _ _;  have q1 := (tdX hn (show c ≤ 8 * n by omega) hT hX).f1 om; rw [q1.1])) : p := h
theorem zy25 {p : Prop} (h : p := by (show (_ = true → _ ∧ _ ∧ _);  have h9 := tdX hn (show c ≤ 8 * n by omega) hT hX; exact fun z => h9.f2 om asm z)) : p := h
theorem zy26 {p : Prop} (h : p := by (show (_ = false → TdR _ _ _ _ _ _ _);  have h9 := tdX hn (show c ≤ 8 * n by omega) hT hX; exact fun z => h9.f3 om asm z)) : p := h
theorem zy27 {p : Prop} (h : p := by (refine decide_eq_false ?_; (omega))) : p := h
theorem zy28 {p : Prop} (h : p := by (show (Blk.mk _ _ _ : Blk) = Blk.mk _ _ _;  have h9 := tdX hn (show c ≤ 8 * n by omega) hT hX; exact blk_eq (cpg_a om h9.f9.1))) : p := h
theorem zy29 {p : Prop} (h : p := by ( have h9 := tdX hn (show c ≤ 8 * n by omega) hT hX; have h8 := h9.f9; omega)) : p := h
theorem zy30 {p : Prop} (h : p := by (refine decide_eq_true ?_; (omega))) : p := h
theorem zy31 {p : Prop} (h : p := by ((refine and_tI ?_ ?_) <;> (repeat' (first | (refine and_tI ?_ ?_) | (with_reducible rfl) | (refine decide_eq_true ?_) | (refine Nat.ble_eq_true_of_le ?_) | (refine nbeq ?_))) <;> ( have h9 := tdX hn (show c ≤ 8 * n by omega) hT hX; have h7 := h9.len j; have h6 := h9.fa om asm om; omega))) : p := h
theorem zy32 {p : Prop} (h : p := by (show (Blk.mk _ _ _ : Blk) = Blk.mk _ _ _;  have h9 := tdX hn (show c ≤ 8 * n by omega) hT hX; have h7 := h9.len j; have h6 := h9.fa om asm om; exact blk_eq (cpg_b om (by simp only [Nat.mul_one, Nat.zero_add]; omega)))) : p := h
theorem zy33 {p : Prop} (h : p := by ( have q := (hdF hn ha).p3 om; exact ⟨q.1, q.2.1⟩)) : p := h
theorem zy34 {p : Prop} (h : p := by (show D.ref _ _ _ _ _ = D.ref _ _ _ _ _;  have q1 := hA asm; rw [q1.1])) : p := h
theorem zy35 {p : Prop} (h : p := by (show (Blk.mk _ _ _ : Blk) = Blk.mk _ _ _;  have q1 := hA asm; rw [q1.1])) : p := h
theorem zy36 {p : Prop} (h : p := by (show TdR _ _ _ _ _ _ _; exact hB asm)) : p := h
theorem zy37 {p : Prop} (h : p := by show 8 * n + 1 - c2 < 8 * n + 1 - a; clear next1 last1; omega) : p := h
theorem zy38 {p : Prop} (h : p := by exact (And.intro (D.sim.refl _) (And.intro (D.sim.refl _) (And.intro (D.sim.refl _) trivial)))) : p := h
theorem zy39 {p : Prop} (h : p := by (show D.v (.int .i64 _) = D.v (.int .i64 _);  have q1 := td_hx (fun _ => by show a ≤ _; omega) rfl hT om; first | (rw [q1.2]; done) | (rw [q1.1]; done))) : p := h
structure TdF (b : List UInt8) (most : Int) (n kd : Nat) (la : Bool) (le : Nat) (l1 l2 : List UInt8) (c : Nat) (o : List UInt8) (TR : Rs × List UInt8) (TQ : Nat) (X : Nat × Nat × Nat × Bool × Nat × Nat) : Prop where
  f1 : X.2.2.2.2.2 ≠ 0 → TR.2 = o ∧ TQ = c ∧ TR.1.e = X.2.2.2.2.2
  f2 : X.2.2.2.2.2 = 0 → X.2.2.2.1 = true → la = true → TR.2 = o ∧ TQ = X.2.2.2.2.1 ∧ TR.1.e = 0
  f3 : X.2.2.2.2.2 = 0 → X.2.2.2.1 = true → la = false → TdR b most none (rs0 X.2.2.2.2.1) o TR TQ
  f4 : X.2.2.2.2.2 = 0 → X.2.2.2.1 = false → o.length < X.2.1 → TR.2 = o ∧ TQ = X.2.2.2.2.1 ∧ TR.1.e = 60
  f5 : X.2.2.2.2.2 = 0 → X.2.2.2.1 = false → X.2.1 ≤ o.length → most < ((o.length : Nat) : Int) + max 1 ((X.2.2.1 : Nat) : Int) → TR.2 = o ∧ TQ = X.2.2.2.2.1 ∧ TR.1.e = 140
  f6 : X.2.2.2.2.2 = 0 → X.2.2.2.1 = false → X.2.1 ≤ o.length → ((o.length : Nat) : Int) + max 1 ((X.2.2.1 : Nat) : Int) ≤ most → TdR b most (some ⟨kd, la, le - 1, l1, l2⟩) (rs0 X.2.2.2.2.1) (plT X.1 X.2.1 X.2.2.1 o) TR TQ
  f7 : X.2.2.2.2.2 = 0 → c ≤ X.2.2.2.2.1 ∧ X.2.2.2.2.1 ≤ 8 * n
  f8 : X.2.2.2.2.2 = 0 → X.2.2.2.1 = false → c < X.2.2.2.2.1
  f9 : X.1 < 256 ∧ X.2.1 ≤ 200000 ∧ X.2.2.1 ≤ 200000
  fa : X.2.2.2.2.2 = 0 → X.2.2.2.1 = false → X.2.2.1 ≠ 0 → 1 ≤ X.2.1
theorem nxt_c (r : Rs × Nat × Nat × Nat × Bool) : (r.1.e ≠ 0 ∧ nxtR r = (0, 0, 0, false, 0, r.1.e)) ∨ (r.1.e = 0 ∧ nxtR r = (r.2.1, r.2.2.1, r.2.2.2.1, r.2.2.2.2, r.1.p, 0)) := by
  by_cases h : r.1.e = 0
  · exact .inr ⟨h, (lk_eq _ _).trans (if_neg (by omega))⟩
  · exact .inl ⟨h, (lk_eq _ _).trans (if_pos h)⟩
theorem tdF {b : List UInt8} {most : Int} {n kd : Nat} {la : Bool} {le : Nat} {l1 l2 : List UInt8} {c : Nat} {o : List UInt8} {TR : Rs × List UInt8} {TQ : Nat} (hn : n = b.length) (hc : c ≤ 8 * n) (hT : TdR b most (some ⟨kd, la, le, l1, l2⟩) (rs0 c) o TR TQ) : TdF b most n kd la le l1 l2 c o TR TQ (nxtR (stR b kd le l1 l2 ⟨c, 0⟩)) := by
  show TdF b most n kd la le l1 l2 c o TR TQ (nxtR (stR b kd le l1 l2 (rs0 c)))
  have hs : Rok b.length (rs0 c) := fun _ => by show c ≤ _; omega
  have hr : Rok b.length (stR b kd le l1 l2 (rs0 c)).1 := Rok.st hs
  have hbd := @st_bd b kd le l1 l2 (rs0 c)
  rcases nxt_c (stR b kd le l1 l2 (rs0 c)) with ⟨h0, e⟩ | ⟨h0, e⟩
  · rw [e]
    have hx := td_x (K := ⟨kd, la, le, l1, l2⟩) hs rfl hT h0
    refine ⟨fun _ => ?_, fun z => absurd z h0, fun z => absurd z h0, fun z => absurd z h0, fun z => absurd z h0, fun z => absurd z h0, fun z => absurd z h0, fun z => absurd z h0, ⟨by show 0 < 256; decide, Nat.zero_le _, Nat.zero_le _⟩, fun z => absurd z h0⟩
    rw [hx.1, hx.2]; exact ⟨rfl, rfl, rfl⟩
  · rw [e]
    have ha := Adv.st b kd le l1 l2 (rs0 c) h0
    have hp := hr h0
    have he := rs_eta h0
    refine ⟨fun z => absurd rfl z, fun _ z1 z2 => ?_, fun _ z1 z2 => ?_, fun _ z1 z2 => ?_, fun _ z1 z2 z3 => ?_, fun _ z1 z2 z3 => ?_, fun _ => ⟨ha.2, by rw [hn]; exact hp⟩, fun _ z1 => (st_lt h0 z1).2, hbd, fun _ z1 z2 => st_d1 h0 z2⟩
    · have hx := td_end (K := ⟨kd, la, le, l1, l2⟩) hs rfl hT h0 z1 z2
      rw [hx.1, hx.2]; exact ⟨rfl, rfl, h0⟩
    · have hx := td_out (K := ⟨kd, la, le, l1, l2⟩) hs rfl hT h0 z1 z2
      rw [← he]; exact hx
    · have z2 : o.length < (stR b kd le l1 l2 (rs0 c)).2.2.1 := z2
      have e6 : (tkC most (stR b kd le l1 l2 (rs0 c)).2.2.1 (stR b kd le l1 l2 (rs0 c)).2.2.2.1 (stR b kd le l1 l2 (rs0 c)).1 o).e = 60 := by
        unfold tkC
        rw [show decide (((stR b kd le l1 l2 (rs0 c)).2.2.1 : Int) ≤ ((o.length : Nat) : Int)) = false from decide_eq_false (by omega), fl_f h0]
        exact congrArg Rs.e (fl_x (show (60 : Nat) ≠ 0 by decide))
      have hx := td_bad (K := ⟨kd, la, le, l1, l2⟩) hs rfl hT h0 z1 (by show (tkC most _ _ _ o).e ≠ 0; rw [e6]; decide)
      rw [hx.1, hx.2]; exact ⟨rfl, rfl, e6⟩
    · have z2 : (stR b kd le l1 l2 (rs0 c)).2.2.1 ≤ o.length := z2
      have z3 : most < ((o.length : Nat) : Int) + max 1 (((stR b kd le l1 l2 (rs0 c)).2.2.2.1 : Nat) : Int) := z3
      have e6 : (tkC most (stR b kd le l1 l2 (rs0 c)).2.2.1 (stR b kd le l1 l2 (rs0 c)).2.2.2.1 (stR b kd le l1 l2 (rs0 c)).1 o).e = 140 := by
        unfold tkC
        rw [show decide (((stR b kd le l1 l2 (rs0 c)).2.2.1 : Int) ≤ ((o.length : Nat) : Int)) = true from decide_eq_true (by omega), fl_t, decide_eq_false (by omega), fl_f h0]
      have hx := td_bad (K := ⟨kd, la, le, l1, l2⟩) hs rfl hT h0 z1 (by show (tkC most _ _ _ o).e ≠ 0; rw [e6]; decide)
      rw [hx.1, hx.2]; exact ⟨rfl, rfl, e6⟩
    · have z2 : (stR b kd le l1 l2 (rs0 c)).2.2.1 ≤ o.length := z2
      have z3 : ((o.length : Nat) : Int) + max 1 (((stR b kd le l1 l2 (rs0 c)).2.2.2.1 : Nat) : Int) ≤ most := z3
      have e6 : tkC most (stR b kd le l1 l2 (rs0 c)).2.2.1 (stR b kd le l1 l2 (rs0 c)).2.2.2.1 (stR b kd le l1 l2 (rs0 c)).1 o = (stR b kd le l1 l2 (rs0 c)).1 := by
        unfold tkC
        rw [show decide (((stR b kd le l1 l2 (rs0 c)).2.2.1 : Int) ≤ ((o.length : Nat) : Int)) = true from decide_eq_true (by omega), fl_t, decide_eq_true (by omega), fl_t]
      have hx := td_go (K := ⟨kd, la, le, l1, l2⟩) hs rfl hT h0 z1 (by show (tkC most _ _ _ o).e = 0; rw [e6]; exact h0)
      rw [← he]; exact hx
theorem tdX {b : List UInt8} {most : Int} {n kd : Nat} {la : Bool} {le : Nat} {l1 l2 : List UInt8} {c : Nat} {o : List UInt8} {TR : Rs × List UInt8} {TQ : Nat} {X : Nat × Nat × Nat × Bool × Nat × Nat} (hn : n = b.length) (hc : c ≤ 8 * n) (hT : TdR b most (some ⟨kd, la, le, l1, l2⟩) (rs0 c) o TR TQ) (hX : nxtR (stR b kd le l1 l2 ⟨c, 0⟩) = X) : TdF b most n kd la le l1 l2 c o TR TQ X := hX ▸ tdF hn hc hT
def cpG (lit d long j : Nat) (o : List UInt8) : List UInt8 := lk [0] (if long = 0 then repO o (UInt8.ofNat lit) j else cpF d j o)
theorem cpG_0 (lit d long : Nat) (o : List UInt8) : cpG lit d long 0 o = o := by
  unfold cpG; rw [lk_eq]; split <;> rfl
theorem cpG_len (lit d long j : Nat) (o : List UInt8) : (cpG lit d long j o).length = o.length + j := by
  unfold cpG; rw [lk_eq]; split
  · rw [repO_len]
  · rw [cpF_len]
theorem cpG_a {lit d long j : Nat} {o : List UInt8} (h : long = 0) : cpG lit d long (j + 1) o = cpG lit d long j o ++ [UInt8.ofNat lit] := by
  unfold cpG; rw [lk_eq, lk_eq, if_pos h, if_pos h]; rfl
theorem cpG_b {lit d long j : Nat} {o : List UInt8} (h : long ≠ 0) : cpG lit d long (j + 1) o = cpG lit d long j o ++ [(cpG lit d long j o).getD ((cpG lit d long j o).length - d) default] := by
  unfold cpG; rw [lk_eq, lk_eq, if_neg h, if_neg h]; rfl
theorem cpG_end {lit d long j : Nat} {o : List UInt8} (h : j = max 1 long) : cpG lit d long j o = plT lit d long o := by
  unfold cpG plT; rw [lk_eq]
  by_cases h0 : long = 0
  · rw [if_pos h0, if_pos h0, show j = 1 from by omega]; rfl
  · rw [if_neg h0, if_neg h0, show j = long from by omega]
theorem TdF.len {b : List UInt8} {most : Int} {n kd : Nat} {la : Bool} {le : Nat} {l1 l2 : List UInt8} {c : Nat} {o : List UInt8} {TR : Rs × List UInt8} {TQ : Nat} {X : Nat × Nat × Nat × Bool × Nat × Nat} (_ : TdF b most n kd la le l1 l2 c o TR TQ X) (j : Nat) : (cpG X.1 X.2.1 X.2.2.1 j o).length = o.length + j := cpG_len _ _ _ _ _
theorem lit_b {x : Nat} (h : x < 256) : D.v (.int .u8 ((x : Nat) : Int)) = dB (UInt8.ofNat x) := by
  unfold dB; rw [UInt8.toNat_ofNat', Nat.mod_eq_of_lt (by omega)]
theorem cpg_a {lit d long j : Nat} {o : List UInt8} (h : long = 0) (hl : lit < 256) : (cpG lit d long j o).map dB ++ [D.v (.int .u8 ((lit : Nat) : Int))] = (cpG lit d long (j + 1) o).map dB := by
  rw [cpG_a h, List.map_append, lit_b hl]; rfl
theorem cpg_b {lit d long j x : Nat} {o : List UInt8} (h : long ≠ 0) (hx : x = (cpG lit d long j o).length - d) : (cpG lit d long j o).map dB ++ [dB ((cpG lit d long j o).getD x default)] = (cpG lit d long (j + 1) o).map dB := by
  rw [cpG_b h, List.map_append, hx]; rfl
section
variable {b : List UInt8} {most : Int} {n : Nat} {a : Nat} {o : List UInt8} {TR : Rs × List UInt8} {TQ : Nat} (hn : n = b.length) (ha : a ≤ 8 * n) (hT : TdR b most none (rs0 a) o TR TQ) (he : (hdR b (rs0 a)).s.e = 0)
include hn ha hT he
theorem td_k : TdR b most (some ⟨(hdR b (rs0 a)).kd, (hdR b (rs0 a)).la, (hdR b (rs0 a)).le, (hdR b (rs0 a)).l1, (hdR b (rs0 a)).l2⟩) (rs0 (hdR b (rs0 a)).s.p) o TR TQ := by
  have h := td_in (fun _ => by show a ≤ _; omega) rfl hT he
  rw [rs_eta he] at h
  exact h
theorem td_k0 (hk : (hdR b (rs0 a)).kd = 0) : TdR b most (some ⟨0, (hdR b (rs0 a)).la, (hdR b (rs0 a)).le, [], []⟩) (rs0 (hdR b (rs0 a)).s.p) o TR TQ := by
  have h := td_k hn ha hT he
  have q := (hdF hn ha).k0 hk he
  rw [hk, q.1, q.2.1] at h; exact h
theorem td_k1 (hk : (hdR b (rs0 a)).kd = 1) : TdR b most (some ⟨1, (hdR b (rs0 a)).la, 0, (hdR b (rs0 a)).l1, (hdR b (rs0 a)).l2⟩) (rs0 (hdR b (rs0 a)).s.p) o TR TQ := by
  have h := td_k hn ha hT he
  have q := (hdF hn ha).k1 hk he
  rw [hk, q.2.2] at h; exact h
omit hT in
theorem k2_l (hk : (hdR b (rs0 a)).kd = 2) : ((dO b a).drop (gG b a)).take (gF b a) = (hdR b (rs0 a)).l2 ∧ (dO b a).take (gG b a) = (hdR b (rs0 a)).l1 := by
  have q := (hdF hn ha).k2 hk he
  rw [List.take_of_length_le (by rw [List.length_drop]; omega), q.2.1, q.1]; exact ⟨rfl, rfl⟩
theorem td_k2 (hk : (hdR b (rs0 a)).kd = 2) : TdR b most (some ⟨2, (hdR b (rs0 a)).la, 0, List.take (gG b a) (dO b a), List.take (gF b a) (List.drop (gG b a) (dO b a))⟩) (rs0 (hdR b (rs0 a)).s.p) o TR TQ := by
  have h := td_k hn ha hT he
  have q := (hdF hn ha).k2 hk he
  have q2 := k2_l hn ha he hk
  rw [hk, q.2.2.2, ← q2.1, ← q2.2] at h; exact h
end

theorem rNx_n (b : List UInt8) (n : Nat) (hn : n = b.length) (hN : n ≤ 1000000) (c : Nat) (hc : c ≤ 8 * n) (le : Nat) (la : Bool) (hle : le ≤ 1000000) : SpecH false Try.prog 32 [.agg [u8D 0, bD la, nD le, nilD, nilD], .sl false n 1 (b.map dB), nD c] [] (nxtD (nxtR (stR b 0 le [] [] (rs0 c)))) [] := by
  refine SpecH.run T_ok mixed Try.func32 rfl rfl rfl trivial rfl 1000 64 (fun R ok => (.s 24 (.br ((↑le : Int) == 0) (fun p0 => have p0f := eq_of_beq p0; (.s 12 (.out [] [] (D.tup [D.agg [D.v (Value.int .u8 0), iD 0, iD 0], D.v (.bool true), nD c, iD 0]) [] R (ok _ _ (by ( rw [@st_b b 0 le [] [] (rs0 c) rfl om]; rfl)) wr)))) (fun p0 => have p0f := of_beq_f p0; (.s 3 (.call 51 false [] (true) wr ([D.sl false n 1 (List.map dB b), nD c, iD 8]) _ zy38 (true) wr _ _ _ (CallOk.fn (FnOk.of Try.func51 rfl rfl) (@rTake (b) (n) om om (c) (8) (by (simp; done)) om)) (.s 10 (.br ((↑(tkE b c 8) : Int) != 0) (fun p1 => have p1f := of_bne_t p1; (.s 12 (.out [] [] (D.tup [D.agg [D.v (Value.int .u8 0), iD 0, iD 0], D.v (.bool false), iD 0, nD (tkE b c 8)]) [] R (ok _ _ (by ( rw [nt_a (p := c) rfl om]; exact nxt_e (show tkE b c 8 ≠ 0 by omega) rfl)) wr)))) (fun p1 => have p1f := of_bne_f p1; (.s 2 (.opt (wrapO .u8 (↑(tkV b c 8) : Int)) (D.v (Value.int .u8 ((↑(tkV b c 8) : Int) % 256))) (wrapO_eq _ _) (.s 5 (.ow ((↑c : Int) + 8) (.s 9 (.out [] [] (D.tup [D.agg [D.v (Value.int .u8 ((↑(tkV b c 8) : Int) % 256)), iD 0, iD 0], D.v (.bool false), iD ((↑c : Int) + 8), iD 0]) [] R (ok _ _ (by ( rw [nt_a (p := c) rfl om]; have h9 := tkV_lt b c 8; exact nxt_o (show tkE b c 8 = 0 by omega) ⟨by show ((tkV b c 8 : Nat) : Int) = _; omega, rfl, rfl, rfl⟩ rfl)) wr)))))))))))))))) (by kernel_rfl)
theorem rNc_1 (b : List UInt8) (n : Nat) (hn : n = b.length) (hN : n ≤ 1000000) (c : Nat) (hc : c ≤ 8 * n) (kd le : Nat) (la : Bool) (l1 l2 : List UInt8) (n1 n2 : Nat) (hn1 : n1 = l1.length) (hn2 : n2 = l2.length) (hk : 1 ≤ kd ∧ kd ≤ 2) (hT1 : canE l1 15 = 0) (hT2 : canE l2 15 = 0) : SpecH false Try.prog 32 [.agg [u8D kd, bD la, nD le, .sl false n1 1 (l1.map dB), .sl false n2 1 (l2.map dB)], .sl false n 1 (b.map dB), nD c] [] (nxtD (nxtR (stR b kd le l1 l2 (rs0 c)))) [] :=
  rNx_1 b n hn hN c hc kd le la l1 l2 n1 n2 hn1 hn2 hk hT1 hT2 _ _ _ _ rfl rfl rfl rfl
theorem rNx_X (b : List UInt8) (n : Nat) (hn : n = b.length) (hN : n ≤ 1000000) (c : Nat) (hc : c ≤ 8 * n) (le : Nat) (la : Bool) (X : Nat × Nat × Nat × Bool × Nat × Nat) (hX : nxtR (stR b 0 le [] [] (Rs.mk c 0)) = X) (hle : le ≤ 1000000) : SpecH false Try.prog 32 [.agg [u8D 0, bD la, nD le, nilD, nilD], .sl false n 1 (b.map dB), nD c] [] (nxtD X) [] := by
  subst hX; exact rNx_n b n hn hN c hc le la hle
theorem rNc_X (b : List UInt8) (n : Nat) (hn : n = b.length) (hN : n ≤ 1000000) (c : Nat) (hc : c ≤ 8 * n) (kd le : Nat) (la : Bool) (l1 l2 : List UInt8) (n1 n2 : Nat) (X : Nat × Nat × Nat × Bool × Nat × Nat) (hX : nxtR (stR b kd le l1 l2 (Rs.mk c 0)) = X) (hn1 : n1 = l1.length) (hn2 : n2 = l2.length) (hk : 1 ≤ kd ∧ kd ≤ 2) (hT1 : canE l1 15 = 0) (hT2 : canE l2 15 = 0) : SpecH false Try.prog 32 [.agg [u8D kd, bD la, nD le, .sl false n1 1 (l1.map dB), .sl false n2 1 (l2.map dB)], .sl false n 1 (b.map dB), nD c] [] (nxtD X) [] := by
  subst hX; exact rNc_1 b n hn hN c hc kd le la l1 l2 n1 n2 hn1 hn2 hk hT1 hT2
theorem rTold (b : List UInt8) (n : Nat) (hn : n = b.length) (hN : n ≤ 1000000) (p : Nat) (hp : p ≤ 8 * n) (most : Int) (hm : 0 ≤ most ∧ most ≤ 1000000) (TR : Rs × List UInt8) (TQ : Nat) (hT0 : TdR b most none (rs0 p) [] TR TQ) : SpecH false Try.prog 39 [.sl false n 1 (b.map dB), nD p, iD most] [] (.tup [.ref 0 0 0 TR.2.length 1, nD TQ, nD TR.1.e]) [⟨TR.2.map dB, 5, true⟩] := by
  refine SpecH.run T_ok mixed Try.func39 rfl rfl rfl ⟨pl_bytes _, trivial⟩ rfl 1000 64 (fun R ok => (.s 4 (.nils 9 32 1 5 (Hn.inl T_ok mixed false 101 0 (loopAt Try.prog 39 0) (fun (x : (a : Nat) ×' (ha : a ≤ 8 * n) ×' (o : List UInt8) ×' (ho : (o.length : Int) ≤ most) ×' (hT : TdR b most none (rs0 a) o TR TQ) ×' Unit) => match x with | ⟨a, ha, o, ho, hT, _⟩ => CutS.mk [(0, D.sl false n 1 (List.map dB b)), (1, nD a), (2, iD most), (9, (D.ref 0 0 (0) (o.length) 1))] [⟨0, 0, 32, 32, .b ⟨o.map dB, 5, true⟩⟩] 8) (fun (x : (a : Nat) ×' (ha : a ≤ 8 * n) ×' (o : List UInt8) ×' (ho : (o.length : Int) ≤ most) ×' (hT : TdR b most none (rs0 a) o TR TQ) ×' Unit) => match x with | ⟨a, ha, o, ho, hT, _⟩ => 8 * n + 1 - a) [⟨Unit, .ret, fun x => match x with | () => CutS.mk [(6, (D.ref 0 0 (0) (TR.2.length) 1)), (7, nD TQ), (8, nD TR.1.e)] [⟨0, 0, 32, 32, .b ⟨TR.2.map dB, 5, true⟩⟩] 8⟩] 1000 64 (fun | ⟨a, ha, o, ho, hT, _⟩, Q, next1, last1 => (.s 3 (.em (decide (Rs.e (Hd.s (hdR b (rs0 a))) ≠ 0)) (fun p0 => have p0f := odt p0; (.cl 29 false [] (.fn q29 (@rBc_e (b) (n) om om (a) om om)) (.s 17 (.t ((↑(Rs.e (Hd.s (hdR b (Rs.mk a 0)))) : Int) != 0) (by (simp <;> (omega))) (.s 6 (.val 6 (D.ref 0 0 0 (List.length o) 1) (D.ref 0 0 0 (List.length TR.2) 1) (by (show D.ref _ _ _ _ _ = D.ref _ _ _ _ _;  have q1 := td_hx (fun _ => by show a ≤ _; omega) rfl hT om; rw [q1.1])) (.val 7 (nD a) (nD TQ) zy39 (.val 8 (nD (Rs.e (Hd.s (hdR b (Rs.mk a 0))))) (nD (Rs.e TR.1)) zy39 (.blk 0 0 (Blk.mk (List.map dB o) 5 true) (Blk.mk (List.map dB TR.2) 5 true) (by (show (Blk.mk _ _ _ : Blk) = Blk.mk _ _ _;  have q1 := td_hx (fun _ => by show a ≤ _; omega) rfl hT om; rw [q1.1])) (Hn.last last1 0 (() : Unit) rfl [(0, 0)] ro)))))))))) (fun p0 => have p0f := odf p0; (.em (decide (Hd.kd (hdR b (rs0 a)) = 0)) (fun p1 => have p1f := odt p1; (.cl 29 false [] (.fn q29 (@rBc_s (b) (n) om om (a) om om om)) (.s 20 (Hn.inl T_ok mixed false 101 0 (loopAt Try.prog 39 1) (fun (x : (la : Bool) ×' (le : Nat) ×' (hle : le ≤ 65535) ×' (c : Nat) ×' (hc : a + 3 ≤ c ∧ c ≤ 8 * n) ×' (o : List UInt8) ×' (ho2 : (o.length : Int) ≤ most) ×' (hT : TdR b most (some ⟨0, la, le, [], []⟩) (rs0 c) o TR TQ) ×' (X : Nat × Nat × Nat × Bool × Nat × Nat) ×' (hX : nxtR (stR b 0 le [] [] (Rs.mk c 0)) = X) ×' Unit) => match x with | ⟨la, le, hle, c, hc, o, ho2, hT, X, hX, _⟩ => CutS.mk [(0, D.sl false n 1 (List.map dB b)), (1, nD c), (2, iD most), (9, (D.ref 0 0 (0) (o.length) 1)), (10, D.ptr 8 8 0)] [⟨0, 0, 0, 0, .b ⟨o.map dB, 5, true⟩⟩, ⟨8, 8, 64, 64, .b ⟨[u8D 0, bD la, nD le, nilD, nilD], 73, false⟩⟩] 16) (fun (x : (la : Bool) ×' (le : Nat) ×' (hle : le ≤ 65535) ×' (c : Nat) ×' (hc : a + 3 ≤ c ∧ c ≤ 8 * n) ×' (o : List UInt8) ×' (ho2 : (o.length : Int) ≤ most) ×' (hT : TdR b most (some ⟨0, la, le, [], []⟩) (rs0 c) o TR TQ) ×' (X : Nat × Nat × Nat × Bool × Nat × Nat) ×' (hX : nxtR (stR b 0 le [] [] (Rs.mk c 0)) = X) ×' Unit) => match x with | ⟨la, le, hle, c, hc, o, ho2, hT, X, hX, _⟩ => 8 * n + 1 - c) [⟨(c2 : Nat) ×' (o2 : List UInt8) ×' (la2 : Bool) ×' (le2 : Nat) ×' (hc2 : a + 3 ≤ c2 ∧ c2 ≤ 8 * n) ×' (ho3 : (o2.length : Int) ≤ most) ×' (hA : la2 = true → TR.2 = o2 ∧ TQ = c2 ∧ TR.1.e = 0) ×' (hB : la2 = false → TdR b most none (rs0 c2) o2 TR TQ) ×' Unit, .exit 2, fun x => match x with | ⟨c2, o2, la2, le2, hc2, ho3, hA, hB, _⟩ => CutS.mk [(0, D.sl false n 1 (List.map dB b)), (1, nD c2), (2, iD most), (9, (D.ref 0 0 (0) (o2.length) 1)), (10, D.ptr 8 8 0)] [⟨0, 0, 0, 0, .b ⟨o2.map dB, 5, true⟩⟩, ⟨8, 8, 64, 64, .b ⟨[u8D 0, bD la2, nD le2, nilD, nilD], 73, false⟩⟩] 16⟩, ⟨Unit, .ret, fun x => match x with | () => CutS.mk [(6, (D.ref 0 0 (0) (TR.2.length) 1)), (7, nD TQ), (8, nD TR.1.e)] [⟨0, 0, 0, 0, .b ⟨TR.2.map dB, 5, true⟩⟩] 16⟩] 1000 64 (fun | ⟨la, le, hle, c, hc, o, ho2, hT, X, hX, _⟩, Q, next2, last2 => (.s 7 (.call 32 false [] (true) wr ([D.agg [D.v (Value.int .u8 0), D.v (.bool la), nD le, nilD, nilD], D.sl false n 1 (List.map dB b), nD c]) _ zy38 (true) wr _ _ _ (CallOk.fn (FnOk.of Try.func32 rfl rfl) (@rNx_X (b) (n) om om (c) om (le) (la) (X) asm om)) (.s 20 (.br ((↑X.2.2.2.2.2 : Int) != 0) (fun p2 => have p2f := of_bne_t p2; (.s 6 (.val 6 (D.ref 0 0 0 (List.length o) 1) (D.ref 0 0 0 (List.length TR.2) 1) zy23 (.val 7 (nD c) (nD TQ) zy8 (.val 8 (nD X.2.2.2.2.2) (nD (Rs.e TR.1)) zy8 (.blk 0 0 (Blk.mk (List.map dB o) 5 true) (Blk.mk (List.map dB TR.2) 5 true) zy24 (Hn.last last2 1 (() : Unit) rfl [(0, 0)] ro))))))) (fun p2 => have p2f := of_bne_f p2; (.s 3 (.br X.2.2.2.1 (fun p3 => (Hn.last last2 0 (⟨(X.2.2.2.2.1), (o), (la), (le), zy3, om, zy25, zy26, ⟨⟩⟩ : (c2 : Nat) ×' (o2 : List UInt8) ×' (la2 : Bool) ×' (le2 : Nat) ×' (hc2 : a + 3 ≤ c2 ∧ c2 ≤ 8 * n) ×' (ho3 : (o2.length : Int) ≤ most) ×' (hA : la2 = true → TR.2 = o2 ∧ TQ = c2 ∧ TR.1.e = 0) ×' (hB : la2 = false → TdR b most none (rs0 c2) o2 TR TQ) ×' Unit) rfl [(0, 0), (8, 8)] ro)) (fun p3 => (.s 10 (.br ((↑X.2.2.1 : Int) == 0) (fun p4 => have p4f := eq_of_beq p4; (.s 11 (.br (decide ((↑(List.length o) : Int) < (↑X.2.1 : Int))) (fun p5 => have p5f := odt p5; (.s 5 (.val 6 (D.ref 0 0 0 (List.length o) 1) (D.ref 0 0 0 (List.length TR.2) 1) zy9 (.val 7 (nD X.2.2.2.2.1) (nD TQ) zy0 (.val 8 (iD 60) (nD (Rs.e TR.1)) zy0 (.blk 0 0 (Blk.mk (List.map dB o) 5 true) (Blk.mk (List.map dB TR.2) 5 true) zy10 (Hn.last last2 1 (() : Unit) rfl [(0, 0)] ro))))))) (fun p5 => have p5f := odf p5; (.s 5 (.ow ((↑(List.length o) : Int) + 1) (.s 3 (.br (decide (most < (↑(List.length o) : Int) + 1)) (fun p6 => have p6f := odt p6; (.s 5 (.val 6 (D.ref 0 0 0 (List.length o) 1) (D.ref 0 0 0 (List.length TR.2) 1) zy11 (.val 7 (nD X.2.2.2.2.1) (nD TQ) zy1 (.val 8 (iD 140) (nD (Rs.e TR.1)) zy1 (.blk 0 0 (Blk.mk (List.map dB o) 5 true) (Blk.mk (List.map dB TR.2) 5 true) zy12 (Hn.last last2 1 (() : Unit) rfl [(0, 0)] ro))))))) (fun p6 => have p6f := odf p6; (.s 1 (.val 9 (D.ref 0 0 0 (List.length o) 1) (D.ref 0 0 0 (List.length (cpG X.1 X.2.1 X.2.2.1 0 o)) 1) zy13 (.blk 0 0 (Blk.mk (List.map dB o) 5 true) (Blk.mk (List.map dB (cpG X.1 X.2.1 X.2.2.1 0 o)) 5 true) zy14 (Hn.inl T_ok mixed false 101 0 (loopAt Try.prog 39 2) (fun (x : (j : Nat) ×' (hj : j ≤ max 1 X.2.2.1) ×' Unit) => match x with | ⟨j, hj, _⟩ => CutS.mk [(0, D.sl false n 1 (List.map dB b)), (1, nD X.2.2.2.2.1), (2, iD most), (9, (D.ref 0 0 (0) ((cpG X.1 X.2.1 X.2.2.1 j o).length) 1)), (10, D.ptr 8 8 0), (13, D.ptr 16 16 0), (17, iD 1), (18, nD j)] [⟨0, 0, 0, 0, .b ⟨(cpG X.1 X.2.1 X.2.2.1 j o).map dB, 5, true⟩⟩, ⟨8, 8, 8, 8, .b ⟨[D.v (Value.int .u8 0), D.v (.bool la), nD le, nilD, nilD], 73, false⟩⟩, ⟨16, 16, 88, 88, .b ⟨[D.v (Value.int .u8 (↑X.1 : Int)), nD X.2.1, nD X.2.2.1], 36, false⟩⟩] 24) (fun (x : (j : Nat) ×' (hj : j ≤ max 1 X.2.2.1) ×' Unit) => match x with | ⟨j, hj, _⟩ => max 1 X.2.2.1 - j) [⟨Unit, .exit 4, fun x => match x with | () => CutS.mk [(0, D.sl false n 1 (List.map dB b)), (1, nD X.2.2.2.2.1), (2, iD most), (9, (D.ref 0 0 (0) ((plT X.1 X.2.1 X.2.2.1 o).length) 1)), (10, D.ptr 8 8 0)] [⟨0, 0, 0, 0, .b ⟨(plT X.1 X.2.1 X.2.2.1 o).map dB, 5, true⟩⟩, ⟨8, 8, 8, 8, .b ⟨[D.v (Value.int .u8 0), D.v (.bool la), nD le, nilD, nilD], 73, false⟩⟩, ⟨16, 16, 88, 88, .b ⟨[D.v (Value.int .u8 (↑X.1 : Int)), nD X.2.1, nD X.2.2.1], 36, false⟩⟩] 24⟩] 1000 64 (fun | ⟨j, hj, _⟩, Q, next3, last3 => (.s 4 (.br (decide ((↑j : Int) < 1)) (fun p7 => have p7f := odt p7; (.s 15 (.f (decide (0 < (↑X.2.2.1 : Int))) zy27 (.s 5 (.chk (true && Nat.beq (List.length (cpG X.1 X.2.1 X.2.2.1 j o) * 1) (List.length (List.map dB (cpG X.1 X.2.1 X.2.2.1 j o))) && true && true && true && true && Nat.ble ((List.length (cpG X.1 X.2.1 X.2.2.1 j o) + 1) * 1) 140737488355328) zy15 (.s 4 (.ow ((↑j : Int) + 1) (.s 1 (.val 9 (D.ref 120 120 0 (List.length (cpG X.1 X.2.1 X.2.2.1 j o) + 1) 1) (D.ref 120 120 0 (List.length (cpG X.1 X.2.1 X.2.2.1 (j + 1) o)) 1) zy16 (.val 18 (iD ((↑j : Int) + 1)) (nD (j + 1)) zy17 (.blk 120 120 (Blk.mk (List.map dB (cpG X.1 X.2.1 X.2.2.1 j o) ++ [D.v (Value.int .u8 (↑X.1 : Int))]) 5 true) (Blk.mk (List.map dB (cpG X.1 X.2.1 X.2.2.1 (j + 1) o)) 5 true) zy28 (Hn.next next3 ⟨(j + 1), om, ⟨⟩⟩ zy18 [(120, 120), (8, 8), (16, 16)] ro)))))))))))) (fun p7 => have p7f := odf p7; (.val 9 (D.ref 0 0 0 (List.length (cpG X.1 X.2.1 X.2.2.1 j o)) 1) (D.ref 0 0 0 (List.length (plT X.1 X.2.1 X.2.2.1 o)) 1) zy19 (.blk 0 0 (Blk.mk (List.map dB (cpG X.1 X.2.1 X.2.2.1 j o)) 5 true) (Blk.mk (List.map dB (plT X.1 X.2.1 X.2.2.1 o)) 5 true) zy20 (Hn.last last3 0 (() : Unit) rfl [(0, 0), (8, 8), (16, 16)] ro))))))) (fun | ⟨j, hj, _⟩ => by kernel_rfl) ⟨(0), om, ⟨⟩⟩ [(0, 0), (8, 8), (88, 88)] ro (hs1 (fun | () => (.s 8 (.br (decide (0 < (↑le : Int))) (fun p8 => have p8f := odt p8; (.s 8 (.ow ((↑le : Int) - 1) (.s 6 (.blk 8 8 (Blk.mk [D.v (Value.int .u8 0), D.v (.bool la), iD ((↑le : Int) - 1), nilD, nilD] 73 false) (Blk.mk [D.v (Value.int .u8 0), D.v (.bool la), nD (le - 1), nilD, nilD] 73 false) zy4 (Hn.next next2 ⟨(la), (le - 1), om, (X.2.2.2.2.1), zy3, (plT X.1 X.2.1 X.2.2.1 o), zy5, zy6, (nxtR (stR b 0 (le - 1) [] [] (Rs.mk (X.2.2.2.2.1) 0))), wr, ⟨⟩⟩ zy7 [(0, 0), (8, 8)] ro)))))) (fun p8 => have p8f := odf p8; (.blk 8 8 (Blk.mk [D.v (Value.int .u8 0), D.v (.bool la), nD le, nilD, nilD] 73 false) (Blk.mk [D.v (Value.int .u8 0), D.v (.bool la), nD (le - 1), nilD, nilD] 73 false) zy4 (Hn.next next2 ⟨(la), (le - 1), om, (X.2.2.2.2.1), zy3, (plT X.1 X.2.1 X.2.2.1 o), zy5, zy6, (nxtR (stR b 0 (le - 1) [] [] (Rs.mk (X.2.2.2.2.1) 0))), wr, ⟨⟩⟩ zy7 [(0, 0), (8, 8)] ro)))))))))))))))))))) (fun p4 => have p4f := of_beq_f p4; (.s 10 (.br (decide ((↑(List.length o) : Int) < (↑X.2.1 : Int))) (fun p9 => have p9f := odt p9; (.s 5 (.val 6 (D.ref 0 0 0 (List.length o) 1) (D.ref 0 0 0 (List.length TR.2) 1) zy9 (.val 7 (nD X.2.2.2.2.1) (nD TQ) zy0 (.val 8 (iD 60) (nD (Rs.e TR.1)) zy0 (.blk 0 0 (Blk.mk (List.map dB o) 5 true) (Blk.mk (List.map dB TR.2) 5 true) zy10 (Hn.last last2 1 (() : Unit) rfl [(0, 0)] ro))))))) (fun p9 => have p9f := odf p9; (.s 5 (.op ((↑(List.length o) : Int) + (↑X.2.2.1 : Int)) zy29 (.s 3 (.br (decide (most < (↑(List.length o) : Int) + (↑X.2.2.1 : Int))) (fun p10 => have p10f := odt p10; (.s 5 (.val 6 (D.ref 0 0 0 (List.length o) 1) (D.ref 0 0 0 (List.length TR.2) 1) zy11 (.val 7 (nD X.2.2.2.2.1) (nD TQ) zy1 (.val 8 (iD 140) (nD (Rs.e TR.1)) zy1 (.blk 0 0 (Blk.mk (List.map dB o) 5 true) (Blk.mk (List.map dB TR.2) 5 true) zy12 (Hn.last last2 1 (() : Unit) rfl [(0, 0)] ro))))))) (fun p10 => have p10f := odf p10; (.s 1 (.val 9 (D.ref 0 0 0 (List.length o) 1) (D.ref 0 0 0 (List.length (cpG X.1 X.2.1 X.2.2.1 0 o)) 1) zy13 (.blk 0 0 (Blk.mk (List.map dB o) 5 true) (Blk.mk (List.map dB (cpG X.1 X.2.1 X.2.2.1 0 o)) 5 true) zy14 (Hn.inl T_ok mixed false 101 0 (loopAt Try.prog 39 2) (fun (x : (j : Nat) ×' (hj : j ≤ max 1 X.2.2.1) ×' Unit) => match x with | ⟨j, hj, _⟩ => CutS.mk [(0, D.sl false n 1 (List.map dB b)), (1, nD X.2.2.2.2.1), (2, iD most), (9, (D.ref 0 0 (0) ((cpG X.1 X.2.1 X.2.2.1 j o).length) 1)), (10, D.ptr 8 8 0), (13, D.ptr 16 16 0), (17, nD X.2.2.1), (18, nD j)] [⟨0, 0, 0, 0, .b ⟨(cpG X.1 X.2.1 X.2.2.1 j o).map dB, 5, true⟩⟩, ⟨8, 8, 8, 8, .b ⟨[D.v (Value.int .u8 0), D.v (.bool la), nD le, nilD, nilD], 73, false⟩⟩, ⟨16, 16, 88, 88, .b ⟨[D.v (Value.int .u8 (↑X.1 : Int)), nD X.2.1, nD X.2.2.1], 36, false⟩⟩] 24) (fun (x : (j : Nat) ×' (hj : j ≤ max 1 X.2.2.1) ×' Unit) => match x with | ⟨j, hj, _⟩ => max 1 X.2.2.1 - j) [⟨Unit, .exit 4, fun x => match x with | () => CutS.mk [(0, D.sl false n 1 (List.map dB b)), (1, nD X.2.2.2.2.1), (2, iD most), (9, (D.ref 0 0 (0) ((plT X.1 X.2.1 X.2.2.1 o).length) 1)), (10, D.ptr 8 8 0)] [⟨0, 0, 0, 0, .b ⟨(plT X.1 X.2.1 X.2.2.1 o).map dB, 5, true⟩⟩, ⟨8, 8, 8, 8, .b ⟨[D.v (Value.int .u8 0), D.v (.bool la), nD le, nilD, nilD], 73, false⟩⟩, ⟨16, 16, 88, 88, .b ⟨[D.v (Value.int .u8 (↑X.1 : Int)), nD X.2.1, nD X.2.2.1], 36, false⟩⟩] 24⟩] 1000 64 (fun | ⟨j, hj, _⟩, Q, next3, last3 => (.s 4 (.br (decide ((↑j : Int) < (↑X.2.2.1 : Int))) (fun p11 => have p11f := odt p11; (.s 15 (.t (decide (0 < (↑X.2.2.1 : Int))) zy30 (.s 11 (.op ((↑(List.length (cpG X.1 X.2.1 X.2.2.1 j o)) : Int) - (↑X.2.1 : Int)) zy21 (.s 1 (.chk (decide (0 ≤ (↑(List.length (cpG X.1 X.2.1 X.2.2.1 j o)) : Int) - (↑X.2.1 : Int)) && decide ((↑(List.length (cpG X.1 X.2.1 X.2.2.1 j o)) : Int) - (↑X.2.1 : Int) < (↑(List.length (cpG X.1 X.2.1 X.2.2.1 j o)) : Int))) zy31 (.s 2 (.opt ((List.map dB (cpG X.1 X.2.1 X.2.2.1 j o))[0 + Int.toNat ((↑(List.length (cpG X.1 X.2.1 X.2.2.1 j o)) : Int) - (↑X.2.1 : Int)) * 1]?) (dB (List.getD (cpG X.1 X.2.1 X.2.2.1 j o) (0 + Int.toNat ((↑(List.length (cpG X.1 X.2.1 X.2.2.1 j o)) : Int) - (↑X.2.1 : Int)) * 1) default)) (map_get _ _ zy21) (.s 6 (.chk (true && Nat.beq (List.length (cpG X.1 X.2.1 X.2.2.1 j o) * 1) (List.length (List.map dB (cpG X.1 X.2.1 X.2.2.1 j o))) && true && true && true && true && Nat.ble ((List.length (cpG X.1 X.2.1 X.2.2.1 j o) + 1) * 1) 140737488355328) zy15 (.s 4 (.ow ((↑j : Int) + 1) (.s 1 (.val 9 (D.ref 192 192 0 (List.length (cpG X.1 X.2.1 X.2.2.1 j o) + 1) 1) (D.ref 192 192 0 (List.length (cpG X.1 X.2.1 X.2.2.1 (j + 1) o)) 1) zy16 (.val 18 (iD ((↑j : Int) + 1)) (nD (j + 1)) zy17 (.blk 192 192 (Blk.mk (List.map dB (cpG X.1 X.2.1 X.2.2.1 j o) ++ [D.v (Value.int .u8 (↑(UInt8.toNat (List.getD (cpG X.1 X.2.1 X.2.2.1 j o) (0 + Int.toNat ((↑(List.length (cpG X.1 X.2.1 X.2.2.1 j o)) : Int) - (↑X.2.1 : Int)) * 1) default)) : Int))]) 5 true) (Blk.mk (List.map dB (cpG X.1 X.2.1 X.2.2.1 (j + 1) o)) 5 true) zy32 (Hn.next next3 ⟨(j + 1), om, ⟨⟩⟩ zy18 [(192, 192), (8, 8), (16, 16)] ro)))))))))))))))))) (fun p11 => have p11f := odf p11; (.val 9 (D.ref 0 0 0 (List.length (cpG X.1 X.2.1 X.2.2.1 j o)) 1) (D.ref 0 0 0 (List.length (plT X.1 X.2.1 X.2.2.1 o)) 1) zy19 (.blk 0 0 (Blk.mk (List.map dB (cpG X.1 X.2.1 X.2.2.1 j o)) 5 true) (Blk.mk (List.map dB (plT X.1 X.2.1 X.2.2.1 o)) 5 true) zy20 (Hn.last last3 0 (() : Unit) rfl [(0, 0), (8, 8), (16, 16)] ro))))))) (fun | ⟨j, hj, _⟩ => by kernel_rfl) ⟨(0), om, ⟨⟩⟩ [(0, 0), (8, 8), (88, 88)] ro (hs1 (fun | () => (.s 8 (.br (decide (0 < (↑le : Int))) (fun p12 => have p12f := odt p12; (.s 8 (.ow ((↑le : Int) - 1) (.s 6 (.blk 8 8 (Blk.mk [D.v (Value.int .u8 0), D.v (.bool la), iD ((↑le : Int) - 1), nilD, nilD] 73 false) (Blk.mk [D.v (Value.int .u8 0), D.v (.bool la), nD (le - 1), nilD, nilD] 73 false) zy4 (Hn.next next2 ⟨(la), (le - 1), om, (X.2.2.2.2.1), zy3, (plT X.1 X.2.1 X.2.2.1 o), zy5, zy6, (nxtR (stR b 0 (le - 1) [] [] (Rs.mk (X.2.2.2.2.1) 0))), wr, ⟨⟩⟩ zy7 [(0, 0), (8, 8)] ro)))))) (fun p12 => have p12f := odf p12; (.blk 8 8 (Blk.mk [D.v (Value.int .u8 0), D.v (.bool la), nD le, nilD, nilD] 73 false) (Blk.mk [D.v (Value.int .u8 0), D.v (.bool la), nD (le - 1), nilD, nilD] 73 false) zy4 (Hn.next next2 ⟨(la), (le - 1), om, (X.2.2.2.2.1), zy3, (plT X.1 X.2.1 X.2.2.1 o), zy5, zy6, (nxtR (stR b 0 (le - 1) [] [] (Rs.mk (X.2.2.2.2.1) 0))), wr, ⟨⟩⟩ zy7 [(0, 0), (8, 8)] ro))))))))))))))))))))))))))))))) (fun | ⟨la, le, hle, c, hc, o, ho2, hT, X, hX, _⟩ => by kernel_rfl) ⟨((hdR b (rs0 a)).la), ((hdR b (rs0 a)).le), (by ( exact ((hdF hn ha).k0 om om).2.2)), ((hdR b (rs0 a)).s.p), zy33, (o), om, (by (show TdR _ _ _ _ _ _ _;  exact td_k0 hn ha hT om om)), (nxtR (stR b 0 (hdR b (rs0 a)).le [] [] (Rs.mk (hdR b (rs0 a)).s.p 0))), wr, ⟨⟩⟩ [(0, 0), (64, 64)] ro (hs2 (fun | ⟨c2, o2, la2, le2, hc2, ho3, hA, hB, _⟩ => (.s 6 (.br (la2) (fun p13 => (.s 5 (.val 6 (D.ref 0 0 0 (List.length o2) 1) (D.ref 0 0 0 (List.length TR.2) 1) zy34 (.val 7 (nD c2) (nD TQ) zy22 (.val 8 (iD 0) (nD (Rs.e TR.1)) zy22 (.blk 0 0 (Blk.mk (List.map dB o2) 5 true) (Blk.mk (List.map dB TR.2) 5 true) zy35 (Hn.last last1 0 (() : Unit) rfl [(0, 0)] ro))))))) (fun p13 => (Hn.next next1 ⟨(c2), om, (o2), om, zy36, ⟨⟩⟩ zy37 [(0, 0)] ro))))) (fun | () => (Hn.last last1 0 (() : Unit) rfl [(0, 0)] ro))))))) (fun p1 => have p1f := odf p1; (.em (decide (Hd.kd (hdR b (rs0 a)) = 1)) (fun p14 => have p14f := odt p14; (.cl 29 false [] (.fn q29 (@rBc_f (b) (n) om om (a) om om om)) (.s 20 (Hn.inl T_ok mixed false 101 0 (loopAt Try.prog 39 1) (fun (x : (la : Bool) ×' (l1 : List UInt8) ×' (l2 : List UInt8) ×' (e1 : l1.length = 288) ×' (e2 : l2.length = 32) ×' (hT1 : canE l1 15 = 0) ×' (hT2 : canE l2 15 = 0) ×' (c : Nat) ×' (hc : a + 3 ≤ c ∧ c ≤ 8 * n) ×' (o : List UInt8) ×' (ho2 : (o.length : Int) ≤ most) ×' (hT : TdR b most (some ⟨1, la, 0, l1, l2⟩) (rs0 c) o TR TQ) ×' (X : Nat × Nat × Nat × Bool × Nat × Nat) ×' (hX : nxtR (stR b 1 0 l1 l2 (Rs.mk c 0)) = X) ×' Unit) => match x with | ⟨la, l1, l2, e1, e2, hT1, hT2, c, hc, o, ho2, hT, X, hX, _⟩ => CutS.mk [(0, D.sl false n 1 (List.map dB b)), (1, nD c), (2, iD most), (9, (D.ref 0 0 (0) (o.length) 1)), (10, D.ptr 24 24 0)] [⟨0, 0, 0, 0, .b ⟨o.map dB, 5, true⟩⟩, ⟨8, 8, 24, 24, .b ⟨l1.map dB, 5, true⟩⟩, ⟨16, 16, 25, 25, .b ⟨l2.map dB, 5, true⟩⟩, ⟨24, 24, 64, 64, .b ⟨[u8D 1, bD la, nD 0, (D.ref 8 8 (0) (288) 1), (D.ref 16 16 (0) (32) 1)], 73, false⟩⟩] 32) (fun (x : (la : Bool) ×' (l1 : List UInt8) ×' (l2 : List UInt8) ×' (e1 : l1.length = 288) ×' (e2 : l2.length = 32) ×' (hT1 : canE l1 15 = 0) ×' (hT2 : canE l2 15 = 0) ×' (c : Nat) ×' (hc : a + 3 ≤ c ∧ c ≤ 8 * n) ×' (o : List UInt8) ×' (ho2 : (o.length : Int) ≤ most) ×' (hT : TdR b most (some ⟨1, la, 0, l1, l2⟩) (rs0 c) o TR TQ) ×' (X : Nat × Nat × Nat × Bool × Nat × Nat) ×' (hX : nxtR (stR b 1 0 l1 l2 (Rs.mk c 0)) = X) ×' Unit) => match x with | ⟨la, l1, l2, e1, e2, hT1, hT2, c, hc, o, ho2, hT, X, hX, _⟩ => 8 * n + 1 - c) [⟨(c2 : Nat) ×' (o2 : List UInt8) ×' (la2 : Bool) ×' (le2 : Nat) ×' (hc2 : a + 3 ≤ c2 ∧ c2 ≤ 8 * n) ×' (ho3 : (o2.length : Int) ≤ most) ×' (hA : la2 = true → TR.2 = o2 ∧ TQ = c2 ∧ TR.1.e = 0) ×' (hB : la2 = false → TdR b most none (rs0 c2) o2 TR TQ) ×' Unit, .exit 2, fun x => match x with | ⟨c2, o2, la2, le2, hc2, ho3, hA, hB, _⟩ => CutS.mk [(0, D.sl false n 1 (List.map dB b)), (1, nD c2), (2, iD most), (9, (D.ref 0 0 (0) (o2.length) 1)), (10, D.ptr 24 24 0)] [⟨0, 0, 0, 0, .b ⟨o2.map dB, 5, true⟩⟩, ⟨24, 24, 64, 64, .b ⟨[u8D 1, bD la2, nD le2, (D.ref 8 8 (0) (288) 1), (D.ref 16 16 (0) (32) 1)], 73, false⟩⟩] 32⟩, ⟨Unit, .ret, fun x => match x with | () => CutS.mk [(6, (D.ref 0 0 (0) (TR.2.length) 1)), (7, nD TQ), (8, nD TR.1.e)] [⟨0, 0, 0, 0, .b ⟨TR.2.map dB, 5, true⟩⟩] 32⟩] 1000 64 (fun | ⟨la, l1, l2, e1, e2, hT1, hT2, c, hc, o, ho2, hT, X, hX, _⟩, Q, next2, last2 => (.s 7 (.call 32 false [] (true && (true && (true && (true && (true && Nat.ble 288 (List.length (List.map dB l1)) && true && closedL (bif true && Nat.beq 288 (List.length (List.map dB l1)) then List.map dB l1 else List.take 288 (List.drop 0 (List.map dB l1)))) && (true && (true && Nat.ble 32 (List.length (List.map dB l2)) && true && closedL (bif true && Nat.beq 32 (List.length (List.map dB l2)) then List.map dB l2 else List.take 32 (List.drop 0 (List.map dB l2)))) && true)))) && true) zy4 ([D.agg [D.v (Value.int .u8 1), D.v (.bool la), iD 0, D.sl true 288 1 (bif true && Nat.beq 288 (List.length (List.map dB l1)) then List.map dB l1 else List.take 288 (List.drop 0 (List.map dB l1))), D.sl true 32 1 (bif true && Nat.beq 32 (List.length (List.map dB l2)) then List.map dB l2 else List.take 32 (List.drop 0 (List.map dB l2)))], D.sl false n 1 (List.map dB b), nD c]) _ (by exact (And.intro (D.sim.agg (And.intro (D.sim.refl _) (And.intro (D.sim.refl _) (And.intro (D.sim.refl _) (And.intro (D.sim.slw rfl (cond_t (by (simp;  have h9 := tdX hn (show c ≤ 8 * n by omega) hT hX; have h8 := h9.f9; omega)) |>.trans rfl)) (And.intro (D.sim.slw rfl (cond_t (by (simp;  have h9 := tdX hn (show c ≤ 8 * n by omega) hT hX; have h8 := h9.f9; omega)) |>.trans rfl)) trivial)))))) (And.intro (D.sim.refl _) (And.intro (D.sim.refl _) trivial)))) (true) wr _ _ _ (CallOk.fn (FnOk.of Try.func32 rfl rfl) (@rNc_X (b) (n) om om (c) om (1) (0) (la) (l1) (l2) (288) (32) (X) asm om om (by (simp; done)) zy2 zy2)) (.s 20 (.br ((↑X.2.2.2.2.2 : Int) != 0) (fun p15 => have p15f := of_bne_t p15; (.s 6 (.val 6 (D.ref 0 0 0 (List.length o) 1) (D.ref 0 0 0 (List.length TR.2) 1) zy23 (.val 7 (nD c) (nD TQ) zy8 (.val 8 (nD X.2.2.2.2.2) (nD (Rs.e TR.1)) zy8 (.blk 0 0 (Blk.mk (List.map dB o) 5 true) (Blk.mk (List.map dB TR.2) 5 true) zy24 (Hn.last last2 1 (() : Unit) rfl [(0, 0)] ro))))))) (fun p15 => have p15f := of_bne_f p15; (.s 3 (.br X.2.2.2.1 (fun p16 => (Hn.last last2 0 (⟨(X.2.2.2.2.1), (o), (la), (0), zy3, om, zy25, zy26, ⟨⟩⟩ : (c2 : Nat) ×' (o2 : List UInt8) ×' (la2 : Bool) ×' (le2 : Nat) ×' (hc2 : a + 3 ≤ c2 ∧ c2 ≤ 8 * n) ×' (ho3 : (o2.length : Int) ≤ most) ×' (hA : la2 = true → TR.2 = o2 ∧ TQ = c2 ∧ TR.1.e = 0) ×' (hB : la2 = false → TdR b most none (rs0 c2) o2 TR TQ) ×' Unit) rfl [(0, 0), (24, 24)] ro)) (fun p16 => (.s 10 (.br ((↑X.2.2.1 : Int) == 0) (fun p17 => have p17f := eq_of_beq p17; (.s 11 (.br (decide ((↑(List.length o) : Int) < (↑X.2.1 : Int))) (fun p18 => have p18f := odt p18; (.s 5 (.val 6 (D.ref 0 0 0 (List.length o) 1) (D.ref 0 0 0 (List.length TR.2) 1) zy9 (.val 7 (nD X.2.2.2.2.1) (nD TQ) zy0 (.val 8 (iD 60) (nD (Rs.e TR.1)) zy0 (.blk 0 0 (Blk.mk (List.map dB o) 5 true) (Blk.mk (List.map dB TR.2) 5 true) zy10 (Hn.last last2 1 (() : Unit) rfl [(0, 0)] ro))))))) (fun p18 => have p18f := odf p18; (.s 5 (.ow ((↑(List.length o) : Int) + 1) (.s 3 (.br (decide (most < (↑(List.length o) : Int) + 1)) (fun p19 => have p19f := odt p19; (.s 5 (.val 6 (D.ref 0 0 0 (List.length o) 1) (D.ref 0 0 0 (List.length TR.2) 1) zy11 (.val 7 (nD X.2.2.2.2.1) (nD TQ) zy1 (.val 8 (iD 140) (nD (Rs.e TR.1)) zy1 (.blk 0 0 (Blk.mk (List.map dB o) 5 true) (Blk.mk (List.map dB TR.2) 5 true) zy12 (Hn.last last2 1 (() : Unit) rfl [(0, 0)] ro))))))) (fun p19 => have p19f := odf p19; (.s 1 (.val 9 (D.ref 0 0 0 (List.length o) 1) (D.ref 0 0 0 (List.length (cpG X.1 X.2.1 X.2.2.1 0 o)) 1) zy13 (.blk 0 0 (Blk.mk (List.map dB o) 5 true) (Blk.mk (List.map dB (cpG X.1 X.2.1 X.2.2.1 0 o)) 5 true) zy14 (Hn.inl T_ok mixed false 101 0 (loopAt Try.prog 39 2) (fun (x : (j : Nat) ×' (hj : j ≤ max 1 X.2.2.1) ×' Unit) => match x with | ⟨j, hj, _⟩ => CutS.mk [(0, D.sl false n 1 (List.map dB b)), (1, nD X.2.2.2.2.1), (2, iD most), (9, (D.ref 0 0 (0) ((cpG X.1 X.2.1 X.2.2.1 j o).length) 1)), (10, D.ptr 24 24 0), (13, D.ptr 32 32 0), (17, iD 1), (18, nD j)] [⟨0, 0, 0, 0, .b ⟨(cpG X.1 X.2.1 X.2.2.1 j o).map dB, 5, true⟩⟩, ⟨8, 8, 8, 8, .b ⟨List.map dB l1, 5, true⟩⟩, ⟨16, 16, 16, 16, .b ⟨List.map dB l2, 5, true⟩⟩, ⟨24, 24, 24, 24, .b ⟨[D.v (Value.int .u8 1), D.v (.bool la), iD 0, D.ref 8 8 0 288 1, D.ref 16 16 0 32 1], 73, false⟩⟩, ⟨32, 32, 104, 104, .b ⟨[D.v (Value.int .u8 (↑X.1 : Int)), nD X.2.1, nD X.2.2.1], 36, false⟩⟩] 40) (fun (x : (j : Nat) ×' (hj : j ≤ max 1 X.2.2.1) ×' Unit) => match x with | ⟨j, hj, _⟩ => max 1 X.2.2.1 - j) [⟨Unit, .exit 4, fun x => match x with | () => CutS.mk [(0, D.sl false n 1 (List.map dB b)), (1, nD X.2.2.2.2.1), (2, iD most), (9, (D.ref 0 0 (0) ((plT X.1 X.2.1 X.2.2.1 o).length) 1)), (10, D.ptr 24 24 0)] [⟨0, 0, 0, 0, .b ⟨(plT X.1 X.2.1 X.2.2.1 o).map dB, 5, true⟩⟩, ⟨8, 8, 8, 8, .b ⟨List.map dB l1, 5, true⟩⟩, ⟨16, 16, 16, 16, .b ⟨List.map dB l2, 5, true⟩⟩, ⟨24, 24, 24, 24, .b ⟨[D.v (Value.int .u8 1), D.v (.bool la), iD 0, D.ref 8 8 0 288 1, D.ref 16 16 0 32 1], 73, false⟩⟩, ⟨32, 32, 104, 104, .b ⟨[D.v (Value.int .u8 (↑X.1 : Int)), nD X.2.1, nD X.2.2.1], 36, false⟩⟩] 40⟩] 1000 64 (fun | ⟨j, hj, _⟩, Q, next3, last3 => (.s 4 (.br (decide ((↑j : Int) < 1)) (fun p20 => have p20f := odt p20; (.s 15 (.f (decide (0 < (↑X.2.2.1 : Int))) zy27 (.s 5 (.chk (true && Nat.beq (List.length (cpG X.1 X.2.1 X.2.2.1 j o) * 1) (List.length (List.map dB (cpG X.1 X.2.1 X.2.2.1 j o))) && true && true && true && true && Nat.ble ((List.length (cpG X.1 X.2.1 X.2.2.1 j o) + 1) * 1) 140737488355328) zy15 (.s 4 (.ow ((↑j : Int) + 1) (.s 1 (.val 9 (D.ref 136 136 0 (List.length (cpG X.1 X.2.1 X.2.2.1 j o) + 1) 1) (D.ref 136 136 0 (List.length (cpG X.1 X.2.1 X.2.2.1 (j + 1) o)) 1) zy16 (.val 18 (iD ((↑j : Int) + 1)) (nD (j + 1)) zy17 (.blk 136 136 (Blk.mk (List.map dB (cpG X.1 X.2.1 X.2.2.1 j o) ++ [D.v (Value.int .u8 (↑X.1 : Int))]) 5 true) (Blk.mk (List.map dB (cpG X.1 X.2.1 X.2.2.1 (j + 1) o)) 5 true) zy28 (Hn.next next3 ⟨(j + 1), om, ⟨⟩⟩ zy18 [(136, 136), (8, 8), (16, 16), (24, 24), (32, 32)] ro)))))))))))) (fun p20 => have p20f := odf p20; (.val 9 (D.ref 0 0 0 (List.length (cpG X.1 X.2.1 X.2.2.1 j o)) 1) (D.ref 0 0 0 (List.length (plT X.1 X.2.1 X.2.2.1 o)) 1) zy19 (.blk 0 0 (Blk.mk (List.map dB (cpG X.1 X.2.1 X.2.2.1 j o)) 5 true) (Blk.mk (List.map dB (plT X.1 X.2.1 X.2.2.1 o)) 5 true) zy20 (Hn.last last3 0 (() : Unit) rfl [(0, 0), (8, 8), (16, 16), (24, 24), (32, 32)] ro))))))) (fun | ⟨j, hj, _⟩ => by kernel_rfl) ⟨(0), om, ⟨⟩⟩ [(0, 0), (8, 8), (16, 16), (24, 24), (104, 104)] ro (hs1 (fun | () => (.s 9 (Hn.next next2 ⟨(la), (l1), (l2), om, om, zy2, zy2, (X.2.2.2.2.1), zy3, (plT X.1 X.2.1 X.2.2.1 o), zy5, zy6, (nxtR (stR b 1 0 l1 l2 (Rs.mk (X.2.2.2.2.1) 0))), wr, ⟨⟩⟩ zy7 [(0, 0), (8, 8), (16, 16), (24, 24)] ro))))))))))))))))) (fun p17 => have p17f := of_beq_f p17; (.s 10 (.br (decide ((↑(List.length o) : Int) < (↑X.2.1 : Int))) (fun p21 => have p21f := odt p21; (.s 5 (.val 6 (D.ref 0 0 0 (List.length o) 1) (D.ref 0 0 0 (List.length TR.2) 1) zy9 (.val 7 (nD X.2.2.2.2.1) (nD TQ) zy0 (.val 8 (iD 60) (nD (Rs.e TR.1)) zy0 (.blk 0 0 (Blk.mk (List.map dB o) 5 true) (Blk.mk (List.map dB TR.2) 5 true) zy10 (Hn.last last2 1 (() : Unit) rfl [(0, 0)] ro))))))) (fun p21 => have p21f := odf p21; (.s 5 (.op ((↑(List.length o) : Int) + (↑X.2.2.1 : Int)) zy29 (.s 3 (.br (decide (most < (↑(List.length o) : Int) + (↑X.2.2.1 : Int))) (fun p22 => have p22f := odt p22; (.s 5 (.val 6 (D.ref 0 0 0 (List.length o) 1) (D.ref 0 0 0 (List.length TR.2) 1) zy11 (.val 7 (nD X.2.2.2.2.1) (nD TQ) zy1 (.val 8 (iD 140) (nD (Rs.e TR.1)) zy1 (.blk 0 0 (Blk.mk (List.map dB o) 5 true) (Blk.mk (List.map dB TR.2) 5 true) zy12 (Hn.last last2 1 (() : Unit) rfl [(0, 0)] ro))))))) (fun p22 => have p22f := odf p22; (.s 1 (.val 9 (D.ref 0 0 0 (List.length o) 1) (D.ref 0 0 0 (List.length (cpG X.1 X.2.1 X.2.2.1 0 o)) 1) zy13 (.blk 0 0 (Blk.mk (List.map dB o) 5 true) (Blk.mk (List.map dB (cpG X.1 X.2.1 X.2.2.1 0 o)) 5 true) zy14 (Hn.inl T_ok mixed false 101 0 (loopAt Try.prog 39 2) (fun (x : (j : Nat) ×' (hj : j ≤ max 1 X.2.2.1) ×' Unit) => match x with | ⟨j, hj, _⟩ => CutS.mk [(0, D.sl false n 1 (List.map dB b)), (1, nD X.2.2.2.2.1), (2, iD most), (9, (D.ref 0 0 (0) ((cpG X.1 X.2.1 X.2.2.1 j o).length) 1)), (10, D.ptr 24 24 0), (13, D.ptr 32 32 0), (17, nD X.2.2.1), (18, nD j)] [⟨0, 0, 0, 0, .b ⟨(cpG X.1 X.2.1 X.2.2.1 j o).map dB, 5, true⟩⟩, ⟨8, 8, 8, 8, .b ⟨List.map dB l1, 5, true⟩⟩, ⟨16, 16, 16, 16, .b ⟨List.map dB l2, 5, true⟩⟩, ⟨24, 24, 24, 24, .b ⟨[D.v (Value.int .u8 1), D.v (.bool la), iD 0, D.ref 8 8 0 288 1, D.ref 16 16 0 32 1], 73, false⟩⟩, ⟨32, 32, 104, 104, .b ⟨[D.v (Value.int .u8 (↑X.1 : Int)), nD X.2.1, nD X.2.2.1], 36, false⟩⟩] 40) (fun (x : (j : Nat) ×' (hj : j ≤ max 1 X.2.2.1) ×' Unit) => match x with | ⟨j, hj, _⟩ => max 1 X.2.2.1 - j) [⟨Unit, .exit 4, fun x => match x with | () => CutS.mk [(0, D.sl false n 1 (List.map dB b)), (1, nD X.2.2.2.2.1), (2, iD most), (9, (D.ref 0 0 (0) ((plT X.1 X.2.1 X.2.2.1 o).length) 1)), (10, D.ptr 24 24 0)] [⟨0, 0, 0, 0, .b ⟨(plT X.1 X.2.1 X.2.2.1 o).map dB, 5, true⟩⟩, ⟨8, 8, 8, 8, .b ⟨List.map dB l1, 5, true⟩⟩, ⟨16, 16, 16, 16, .b ⟨List.map dB l2, 5, true⟩⟩, ⟨24, 24, 24, 24, .b ⟨[D.v (Value.int .u8 1), D.v (.bool la), iD 0, D.ref 8 8 0 288 1, D.ref 16 16 0 32 1], 73, false⟩⟩, ⟨32, 32, 104, 104, .b ⟨[D.v (Value.int .u8 (↑X.1 : Int)), nD X.2.1, nD X.2.2.1], 36, false⟩⟩] 40⟩] 1000 64 (fun | ⟨j, hj, _⟩, Q, next3, last3 => (.s 4 (.br (decide ((↑j : Int) < (↑X.2.2.1 : Int))) (fun p23 => have p23f := odt p23; (.s 15 (.t (decide (0 < (↑X.2.2.1 : Int))) zy30 (.s 11 (.op ((↑(List.length (cpG X.1 X.2.1 X.2.2.1 j o)) : Int) - (↑X.2.1 : Int)) zy21 (.s 1 (.chk (decide (0 ≤ (↑(List.length (cpG X.1 X.2.1 X.2.2.1 j o)) : Int) - (↑X.2.1 : Int)) && decide ((↑(List.length (cpG X.1 X.2.1 X.2.2.1 j o)) : Int) - (↑X.2.1 : Int) < (↑(List.length (cpG X.1 X.2.1 X.2.2.1 j o)) : Int))) zy31 (.s 2 (.opt ((List.map dB (cpG X.1 X.2.1 X.2.2.1 j o))[0 + Int.toNat ((↑(List.length (cpG X.1 X.2.1 X.2.2.1 j o)) : Int) - (↑X.2.1 : Int)) * 1]?) (dB (List.getD (cpG X.1 X.2.1 X.2.2.1 j o) (0 + Int.toNat ((↑(List.length (cpG X.1 X.2.1 X.2.2.1 j o)) : Int) - (↑X.2.1 : Int)) * 1) default)) (map_get _ _ zy21) (.s 6 (.chk (true && Nat.beq (List.length (cpG X.1 X.2.1 X.2.2.1 j o) * 1) (List.length (List.map dB (cpG X.1 X.2.1 X.2.2.1 j o))) && true && true && true && true && Nat.ble ((List.length (cpG X.1 X.2.1 X.2.2.1 j o) + 1) * 1) 140737488355328) zy15 (.s 4 (.ow ((↑j : Int) + 1) (.s 1 (.val 9 (D.ref 208 208 0 (List.length (cpG X.1 X.2.1 X.2.2.1 j o) + 1) 1) (D.ref 208 208 0 (List.length (cpG X.1 X.2.1 X.2.2.1 (j + 1) o)) 1) zy16 (.val 18 (iD ((↑j : Int) + 1)) (nD (j + 1)) zy17 (.blk 208 208 (Blk.mk (List.map dB (cpG X.1 X.2.1 X.2.2.1 j o) ++ [D.v (Value.int .u8 (↑(UInt8.toNat (List.getD (cpG X.1 X.2.1 X.2.2.1 j o) (0 + Int.toNat ((↑(List.length (cpG X.1 X.2.1 X.2.2.1 j o)) : Int) - (↑X.2.1 : Int)) * 1) default)) : Int))]) 5 true) (Blk.mk (List.map dB (cpG X.1 X.2.1 X.2.2.1 (j + 1) o)) 5 true) zy32 (Hn.next next3 ⟨(j + 1), om, ⟨⟩⟩ zy18 [(208, 208), (8, 8), (16, 16), (24, 24), (32, 32)] ro)))))))))))))))))) (fun p23 => have p23f := odf p23; (.val 9 (D.ref 0 0 0 (List.length (cpG X.1 X.2.1 X.2.2.1 j o)) 1) (D.ref 0 0 0 (List.length (plT X.1 X.2.1 X.2.2.1 o)) 1) zy19 (.blk 0 0 (Blk.mk (List.map dB (cpG X.1 X.2.1 X.2.2.1 j o)) 5 true) (Blk.mk (List.map dB (plT X.1 X.2.1 X.2.2.1 o)) 5 true) zy20 (Hn.last last3 0 (() : Unit) rfl [(0, 0), (8, 8), (16, 16), (24, 24), (32, 32)] ro))))))) (fun | ⟨j, hj, _⟩ => by kernel_rfl) ⟨(0), om, ⟨⟩⟩ [(0, 0), (8, 8), (16, 16), (24, 24), (104, 104)] ro (hs1 (fun | () => (.s 9 (Hn.next next2 ⟨(la), (l1), (l2), om, om, zy2, zy2, (X.2.2.2.2.1), zy3, (plT X.1 X.2.1 X.2.2.1 o), zy5, zy6, (nxtR (stR b 1 0 l1 l2 (Rs.mk (X.2.2.2.2.1) 0))), wr, ⟨⟩⟩ zy7 [(0, 0), (8, 8), (16, 16), (24, 24)] ro)))))))))))))))))))))))))))) (fun | ⟨la, l1, l2, e1, e2, hT1, hT2, c, hc, o, ho2, hT, X, hX, _⟩ => by kernel_rfl) ⟨((hdR b (rs0 a)).la), ((hdR b (rs0 a)).l1), ((hdR b (rs0 a)).l2), (by ( exact ((hdF hn ha).k1 om om).1)), (by ( exact ((hdF hn ha).k1 om om).2.1)), (by (show canE _ _ = 0; exact (hdF hn ha).t1)), (by (show canE _ _ = 0; exact (hdF hn ha).t2)), ((hdR b (rs0 a)).s.p), zy33, (o), om, (by (show TdR _ _ _ _ _ _ _;  exact td_k1 hn ha hT om om)), (nxtR (stR b 1 0 (hdR b (rs0 a)).l1 (hdR b (rs0 a)).l2 (Rs.mk (hdR b (rs0 a)).s.p 0))), wr, ⟨⟩⟩ [(0, 0), (24, 24), (25, 25), (64, 64)] ro (hs2 (fun | ⟨c2, o2, la2, le2, hc2, ho3, hA, hB, _⟩ => (.s 6 (.br (la2) (fun p24 => (.s 5 (.val 6 (D.ref 0 0 0 (List.length o2) 1) (D.ref 0 0 0 (List.length TR.2) 1) zy34 (.val 7 (nD c2) (nD TQ) zy22 (.val 8 (iD 0) (nD (Rs.e TR.1)) zy22 (.blk 0 0 (Blk.mk (List.map dB o2) 5 true) (Blk.mk (List.map dB TR.2) 5 true) zy35 (Hn.last last1 0 (() : Unit) rfl [(0, 0)] ro))))))) (fun p24 => (Hn.next next1 ⟨(c2), om, (o2), om, zy36, ⟨⟩⟩ zy37 [(0, 0)] ro))))) (fun | () => (Hn.last last1 0 (() : Unit) rfl [(0, 0)] ro))))))) (fun p14 => have p14f := odf p14; (.em (decide (Hd.kd (hdR b (rs0 a)) = 2)) (fun p25 => have p25f := odt p25; (.cl 29 false [] (.fn q29 (@rBc_d (b) (n) om om (a) om om om)) (.s 20 (Hn.inl T_ok mixed false 101 0 (loopAt Try.prog 39 1) (fun (x : (la : Bool) ×' (oo : List UInt8) ×' (G : Nat) ×' (F : Nat) ×' (e1 : oo.length = G + F) ×' (e3 : G ≤ 400 ∧ F ≤ 400) ×' (hT1 : canE (List.take G oo) 15 = 0) ×' (hT2 : canE (List.take F (List.drop G oo)) 15 = 0) ×' (c : Nat) ×' (hc : a + 3 ≤ c ∧ c ≤ 8 * n) ×' (o : List UInt8) ×' (ho2 : (o.length : Int) ≤ most) ×' (hT : TdR b most (some ⟨2, la, 0, (List.take G oo), (List.take F (List.drop G oo))⟩) (rs0 c) o TR TQ) ×' (X : Nat × Nat × Nat × Bool × Nat × Nat) ×' (hX : nxtR (stR b 2 0 (List.take G oo) (List.take F (List.drop G oo)) (Rs.mk c 0)) = X) ×' Unit) => match x with | ⟨la, oo, G, F, e1, e3, hT1, hT2, c, hc, o, ho2, hT, X, hX, _⟩ => CutS.mk [(0, D.sl false n 1 (List.map dB b)), (1, nD c), (2, iD most), (9, (D.ref 0 0 (0) (o.length) 1)), (10, D.ptr 16 16 0)] [⟨0, 0, 0, 0, .b ⟨o.map dB, 5, true⟩⟩, ⟨8, 8, 24, 24, .b ⟨oo.map dB, 5, true⟩⟩, ⟨16, 16, 64, 64, .b ⟨[u8D 2, bD la, nD 0, (D.ref 8 8 (0) (G) 1), (D.ref 8 8 (G) (F) 1)], 73, false⟩⟩] 24) (fun (x : (la : Bool) ×' (oo : List UInt8) ×' (G : Nat) ×' (F : Nat) ×' (e1 : oo.length = G + F) ×' (e3 : G ≤ 400 ∧ F ≤ 400) ×' (hT1 : canE (List.take G oo) 15 = 0) ×' (hT2 : canE (List.take F (List.drop G oo)) 15 = 0) ×' (c : Nat) ×' (hc : a + 3 ≤ c ∧ c ≤ 8 * n) ×' (o : List UInt8) ×' (ho2 : (o.length : Int) ≤ most) ×' (hT : TdR b most (some ⟨2, la, 0, (List.take G oo), (List.take F (List.drop G oo))⟩) (rs0 c) o TR TQ) ×' (X : Nat × Nat × Nat × Bool × Nat × Nat) ×' (hX : nxtR (stR b 2 0 (List.take G oo) (List.take F (List.drop G oo)) (Rs.mk c 0)) = X) ×' Unit) => match x with | ⟨la, oo, G, F, e1, e3, hT1, hT2, c, hc, o, ho2, hT, X, hX, _⟩ => 8 * n + 1 - c) [⟨(G : Nat) ×' (F : Nat) ×' (c2 : Nat) ×' (o2 : List UInt8) ×' (la2 : Bool) ×' (le2 : Nat) ×' (hc2 : a + 3 ≤ c2 ∧ c2 ≤ 8 * n) ×' (ho3 : (o2.length : Int) ≤ most) ×' (hA : la2 = true → TR.2 = o2 ∧ TQ = c2 ∧ TR.1.e = 0) ×' (hB : la2 = false → TdR b most none (rs0 c2) o2 TR TQ) ×' Unit, .exit 2, fun x => match x with | ⟨G, F, c2, o2, la2, le2, hc2, ho3, hA, hB, _⟩ => CutS.mk [(0, D.sl false n 1 (List.map dB b)), (1, nD c2), (2, iD most), (9, (D.ref 0 0 (0) (o2.length) 1)), (10, D.ptr 16 16 0)] [⟨0, 0, 0, 0, .b ⟨o2.map dB, 5, true⟩⟩, ⟨16, 16, 64, 64, .b ⟨[u8D 2, bD la2, nD le2, (D.ref 8 8 (0) (G) 1), (D.ref 8 8 (G) (F) 1)], 73, false⟩⟩] 24⟩, ⟨Unit, .ret, fun x => match x with | () => CutS.mk [(6, (D.ref 0 0 (0) (TR.2.length) 1)), (7, nD TQ), (8, nD TR.1.e)] [⟨0, 0, 0, 0, .b ⟨TR.2.map dB, 5, true⟩⟩] 24⟩] 1000 64 (fun | ⟨la, oo, G, F, e1, e3, hT1, hT2, c, hc, o, ho2, hT, X, hX, _⟩, Q, next2, last2 => (.s 7 (.call 32 false [] (true && (true && (true && (true && (true && Nat.ble (0 + G * 1) (List.length (List.map dB oo)) && true && closedL (bif true && Nat.beq (G * 1) (List.length (List.map dB oo)) then List.map dB oo else List.take (G * 1) (List.drop 0 (List.map dB oo)))) && (true && (true && Nat.ble (G + F * 1) (List.length (List.map dB oo)) && true && closedL (bif Nat.beq G 0 && Nat.beq (F * 1) (List.length (List.map dB oo)) then List.map dB oo else List.take (F * 1) (List.drop G (List.map dB oo)))) && true)))) && true) zy4 ([D.agg [D.v (Value.int .u8 2), D.v (.bool la), iD 0, D.sl (Nat.ble 1 G) G 1 (bif true && Nat.beq (G * 1) (List.length (List.map dB oo)) then List.map dB oo else List.take (G * 1) (List.drop 0 (List.map dB oo))), D.sl (Nat.ble 1 F) F 1 (bif Nat.beq G 0 && Nat.beq (F * 1) (List.length (List.map dB oo)) then List.map dB oo else List.take (F * 1) (List.drop G (List.map dB oo)))], D.sl false n 1 (List.map dB b), nD c]) _ (by exact (And.intro (D.sim.agg (And.intro (D.sim.refl _) (And.intro (D.sim.refl _) (And.intro (D.sim.refl _) (And.intro (D.sim.slw rfl ((seg_bytes (oo) (0) (G * 1)).trans (by (simp; done)))) (And.intro (D.sim.slw rfl ((seg_bytes (oo) (G) (F * 1)).trans (by (simp; done)))) trivial)))))) (And.intro (D.sim.refl _) (And.intro (D.sim.refl _) trivial)))) (true) wr _ _ _ (CallOk.fn (FnOk.of Try.func32 rfl rfl) (@rNc_X (b) (n) om om (c) om (2) (0) (la) (List.take G oo) (List.take F (List.drop G oo)) (G) (F) (X) asm zy4 zy4 (by (simp; done)) zy2 zy2)) (.s 20 (.br ((↑X.2.2.2.2.2 : Int) != 0) (fun p26 => have p26f := of_bne_t p26; (.s 6 (.val 6 (D.ref 0 0 0 (List.length o) 1) (D.ref 0 0 0 (List.length TR.2) 1) zy23 (.val 7 (nD c) (nD TQ) zy8 (.val 8 (nD X.2.2.2.2.2) (nD (Rs.e TR.1)) zy8 (.blk 0 0 (Blk.mk (List.map dB o) 5 true) (Blk.mk (List.map dB TR.2) 5 true) zy24 (Hn.last last2 1 (() : Unit) rfl [(0, 0)] ro))))))) (fun p26 => have p26f := of_bne_f p26; (.s 3 (.br X.2.2.2.1 (fun p27 => (Hn.last last2 0 (⟨(G), (F), (X.2.2.2.2.1), (o), (la), (0), zy3, om, zy25, zy26, ⟨⟩⟩ : (G : Nat) ×' (F : Nat) ×' (c2 : Nat) ×' (o2 : List UInt8) ×' (la2 : Bool) ×' (le2 : Nat) ×' (hc2 : a + 3 ≤ c2 ∧ c2 ≤ 8 * n) ×' (ho3 : (o2.length : Int) ≤ most) ×' (hA : la2 = true → TR.2 = o2 ∧ TQ = c2 ∧ TR.1.e = 0) ×' (hB : la2 = false → TdR b most none (rs0 c2) o2 TR TQ) ×' Unit) rfl [(0, 0), (16, 16)] ro)) (fun p27 => (.s 10 (.br ((↑X.2.2.1 : Int) == 0) (fun p28 => have p28f := eq_of_beq p28; (.s 11 (.br (decide ((↑(List.length o) : Int) < (↑X.2.1 : Int))) (fun p29 => have p29f := odt p29; (.s 5 (.val 6 (D.ref 0 0 0 (List.length o) 1) (D.ref 0 0 0 (List.length TR.2) 1) zy9 (.val 7 (nD X.2.2.2.2.1) (nD TQ) zy0 (.val 8 (iD 60) (nD (Rs.e TR.1)) zy0 (.blk 0 0 (Blk.mk (List.map dB o) 5 true) (Blk.mk (List.map dB TR.2) 5 true) zy10 (Hn.last last2 1 (() : Unit) rfl [(0, 0)] ro))))))) (fun p29 => have p29f := odf p29; (.s 5 (.ow ((↑(List.length o) : Int) + 1) (.s 3 (.br (decide (most < (↑(List.length o) : Int) + 1)) (fun p30 => have p30f := odt p30; (.s 5 (.val 6 (D.ref 0 0 0 (List.length o) 1) (D.ref 0 0 0 (List.length TR.2) 1) zy11 (.val 7 (nD X.2.2.2.2.1) (nD TQ) zy1 (.val 8 (iD 140) (nD (Rs.e TR.1)) zy1 (.blk 0 0 (Blk.mk (List.map dB o) 5 true) (Blk.mk (List.map dB TR.2) 5 true) zy12 (Hn.last last2 1 (() : Unit) rfl [(0, 0)] ro))))))) (fun p30 => have p30f := odf p30; (.s 1 (.val 9 (D.ref 0 0 0 (List.length o) 1) (D.ref 0 0 0 (List.length (cpG X.1 X.2.1 X.2.2.1 0 o)) 1) zy13 (.blk 0 0 (Blk.mk (List.map dB o) 5 true) (Blk.mk (List.map dB (cpG X.1 X.2.1 X.2.2.1 0 o)) 5 true) zy14 (Hn.inl T_ok mixed false 101 0 (loopAt Try.prog 39 2) (fun (x : (j : Nat) ×' (hj : j ≤ max 1 X.2.2.1) ×' Unit) => match x with | ⟨j, hj, _⟩ => CutS.mk [(0, D.sl false n 1 (List.map dB b)), (1, nD X.2.2.2.2.1), (2, iD most), (9, (D.ref 0 0 (0) ((cpG X.1 X.2.1 X.2.2.1 j o).length) 1)), (10, D.ptr 16 16 0), (13, D.ptr 24 24 0), (17, iD 1), (18, nD j)] [⟨0, 0, 0, 0, .b ⟨(cpG X.1 X.2.1 X.2.2.1 j o).map dB, 5, true⟩⟩, ⟨8, 8, 8, 8, .b ⟨List.map dB oo, 5, true⟩⟩, ⟨16, 16, 16, 16, .b ⟨[D.v (Value.int .u8 2), D.v (.bool la), iD 0, D.ref 8 8 0 G 1, D.ref 8 8 G F 1], 73, false⟩⟩, ⟨24, 24, 96, 96, .b ⟨[D.v (Value.int .u8 (↑X.1 : Int)), nD X.2.1, nD X.2.2.1], 36, false⟩⟩] 32) (fun (x : (j : Nat) ×' (hj : j ≤ max 1 X.2.2.1) ×' Unit) => match x with | ⟨j, hj, _⟩ => max 1 X.2.2.1 - j) [⟨Unit, .exit 4, fun x => match x with | () => CutS.mk [(0, D.sl false n 1 (List.map dB b)), (1, nD X.2.2.2.2.1), (2, iD most), (9, (D.ref 0 0 (0) ((plT X.1 X.2.1 X.2.2.1 o).length) 1)), (10, D.ptr 16 16 0)] [⟨0, 0, 0, 0, .b ⟨(plT X.1 X.2.1 X.2.2.1 o).map dB, 5, true⟩⟩, ⟨8, 8, 8, 8, .b ⟨List.map dB oo, 5, true⟩⟩, ⟨16, 16, 16, 16, .b ⟨[D.v (Value.int .u8 2), D.v (.bool la), iD 0, D.ref 8 8 0 G 1, D.ref 8 8 G F 1], 73, false⟩⟩, ⟨24, 24, 96, 96, .b ⟨[D.v (Value.int .u8 (↑X.1 : Int)), nD X.2.1, nD X.2.2.1], 36, false⟩⟩] 32⟩] 1000 64 (fun | ⟨j, hj, _⟩, Q, next3, last3 => (.s 4 (.br (decide ((↑j : Int) < 1)) (fun p31 => have p31f := odt p31; (.s 15 (.f (decide (0 < (↑X.2.2.1 : Int))) zy27 (.s 5 (.chk (true && Nat.beq (List.length (cpG X.1 X.2.1 X.2.2.1 j o) * 1) (List.length (List.map dB (cpG X.1 X.2.1 X.2.2.1 j o))) && true && true && true && true && Nat.ble ((List.length (cpG X.1 X.2.1 X.2.2.1 j o) + 1) * 1) 140737488355328) zy15 (.s 4 (.ow ((↑j : Int) + 1) (.s 1 (.val 9 (D.ref 128 128 0 (List.length (cpG X.1 X.2.1 X.2.2.1 j o) + 1) 1) (D.ref 128 128 0 (List.length (cpG X.1 X.2.1 X.2.2.1 (j + 1) o)) 1) zy16 (.val 18 (iD ((↑j : Int) + 1)) (nD (j + 1)) zy17 (.blk 128 128 (Blk.mk (List.map dB (cpG X.1 X.2.1 X.2.2.1 j o) ++ [D.v (Value.int .u8 (↑X.1 : Int))]) 5 true) (Blk.mk (List.map dB (cpG X.1 X.2.1 X.2.2.1 (j + 1) o)) 5 true) zy28 (Hn.next next3 ⟨(j + 1), om, ⟨⟩⟩ zy18 [(128, 128), (8, 8), (16, 16), (24, 24)] ro)))))))))))) (fun p31 => have p31f := odf p31; (.val 9 (D.ref 0 0 0 (List.length (cpG X.1 X.2.1 X.2.2.1 j o)) 1) (D.ref 0 0 0 (List.length (plT X.1 X.2.1 X.2.2.1 o)) 1) zy19 (.blk 0 0 (Blk.mk (List.map dB (cpG X.1 X.2.1 X.2.2.1 j o)) 5 true) (Blk.mk (List.map dB (plT X.1 X.2.1 X.2.2.1 o)) 5 true) zy20 (Hn.last last3 0 (() : Unit) rfl [(0, 0), (8, 8), (16, 16), (24, 24)] ro))))))) (fun | ⟨j, hj, _⟩ => by kernel_rfl) ⟨(0), om, ⟨⟩⟩ [(0, 0), (8, 8), (16, 16), (96, 96)] ro (hs1 (fun | () => (.s 9 (Hn.next next2 ⟨(la), (oo), (G), (F), om, om, zy2, zy2, (X.2.2.2.2.1), zy3, (plT X.1 X.2.1 X.2.2.1 o), zy5, zy6, (nxtR (stR b 2 0 (List.take G oo) (List.take F (List.drop G oo)) (Rs.mk (X.2.2.2.2.1) 0))), wr, ⟨⟩⟩ zy7 [(0, 0), (8, 8), (16, 16)] ro))))))))))))))))) (fun p28 => have p28f := of_beq_f p28; (.s 10 (.br (decide ((↑(List.length o) : Int) < (↑X.2.1 : Int))) (fun p32 => have p32f := odt p32; (.s 5 (.val 6 (D.ref 0 0 0 (List.length o) 1) (D.ref 0 0 0 (List.length TR.2) 1) zy9 (.val 7 (nD X.2.2.2.2.1) (nD TQ) zy0 (.val 8 (iD 60) (nD (Rs.e TR.1)) zy0 (.blk 0 0 (Blk.mk (List.map dB o) 5 true) (Blk.mk (List.map dB TR.2) 5 true) zy10 (Hn.last last2 1 (() : Unit) rfl [(0, 0)] ro))))))) (fun p32 => have p32f := odf p32; (.s 5 (.op ((↑(List.length o) : Int) + (↑X.2.2.1 : Int)) zy29 (.s 3 (.br (decide (most < (↑(List.length o) : Int) + (↑X.2.2.1 : Int))) (fun p33 => have p33f := odt p33; (.s 5 (.val 6 (D.ref 0 0 0 (List.length o) 1) (D.ref 0 0 0 (List.length TR.2) 1) zy11 (.val 7 (nD X.2.2.2.2.1) (nD TQ) zy1 (.val 8 (iD 140) (nD (Rs.e TR.1)) zy1 (.blk 0 0 (Blk.mk (List.map dB o) 5 true) (Blk.mk (List.map dB TR.2) 5 true) zy12 (Hn.last last2 1 (() : Unit) rfl [(0, 0)] ro))))))) (fun p33 => have p33f := odf p33; (.s 1 (.val 9 (D.ref 0 0 0 (List.length o) 1) (D.ref 0 0 0 (List.length (cpG X.1 X.2.1 X.2.2.1 0 o)) 1) zy13 (.blk 0 0 (Blk.mk (List.map dB o) 5 true) (Blk.mk (List.map dB (cpG X.1 X.2.1 X.2.2.1 0 o)) 5 true) zy14 (Hn.inl T_ok mixed false 101 0 (loopAt Try.prog 39 2) (fun (x : (j : Nat) ×' (hj : j ≤ max 1 X.2.2.1) ×' Unit) => match x with | ⟨j, hj, _⟩ => CutS.mk [(0, D.sl false n 1 (List.map dB b)), (1, nD X.2.2.2.2.1), (2, iD most), (9, (D.ref 0 0 (0) ((cpG X.1 X.2.1 X.2.2.1 j o).length) 1)), (10, D.ptr 16 16 0), (13, D.ptr 24 24 0), (17, nD X.2.2.1), (18, nD j)] [⟨0, 0, 0, 0, .b ⟨(cpG X.1 X.2.1 X.2.2.1 j o).map dB, 5, true⟩⟩, ⟨8, 8, 8, 8, .b ⟨List.map dB oo, 5, true⟩⟩, ⟨16, 16, 16, 16, .b ⟨[D.v (Value.int .u8 2), D.v (.bool la), iD 0, D.ref 8 8 0 G 1, D.ref 8 8 G F 1], 73, false⟩⟩, ⟨24, 24, 96, 96, .b ⟨[D.v (Value.int .u8 (↑X.1 : Int)), nD X.2.1, nD X.2.2.1], 36, false⟩⟩] 32) (fun (x : (j : Nat) ×' (hj : j ≤ max 1 X.2.2.1) ×' Unit) => match x with | ⟨j, hj, _⟩ => max 1 X.2.2.1 - j) [⟨Unit, .exit 4, fun x => match x with | () => CutS.mk [(0, D.sl false n 1 (List.map dB b)), (1, nD X.2.2.2.2.1), (2, iD most), (9, (D.ref 0 0 (0) ((plT X.1 X.2.1 X.2.2.1 o).length) 1)), (10, D.ptr 16 16 0)] [⟨0, 0, 0, 0, .b ⟨(plT X.1 X.2.1 X.2.2.1 o).map dB, 5, true⟩⟩, ⟨8, 8, 8, 8, .b ⟨List.map dB oo, 5, true⟩⟩, ⟨16, 16, 16, 16, .b ⟨[D.v (Value.int .u8 2), D.v (.bool la), iD 0, D.ref 8 8 0 G 1, D.ref 8 8 G F 1], 73, false⟩⟩, ⟨24, 24, 96, 96, .b ⟨[D.v (Value.int .u8 (↑X.1 : Int)), nD X.2.1, nD X.2.2.1], 36, false⟩⟩] 32⟩] 1000 64 (fun | ⟨j, hj, _⟩, Q, next3, last3 => (.s 4 (.br (decide ((↑j : Int) < (↑X.2.2.1 : Int))) (fun p34 => have p34f := odt p34; (.s 15 (.t (decide (0 < (↑X.2.2.1 : Int))) zy30 (.s 11 (.op ((↑(List.length (cpG X.1 X.2.1 X.2.2.1 j o)) : Int) - (↑X.2.1 : Int)) zy21 (.s 1 (.chk (decide (0 ≤ (↑(List.length (cpG X.1 X.2.1 X.2.2.1 j o)) : Int) - (↑X.2.1 : Int)) && decide ((↑(List.length (cpG X.1 X.2.1 X.2.2.1 j o)) : Int) - (↑X.2.1 : Int) < (↑(List.length (cpG X.1 X.2.1 X.2.2.1 j o)) : Int))) zy31 (.s 2 (.opt ((List.map dB (cpG X.1 X.2.1 X.2.2.1 j o))[0 + Int.toNat ((↑(List.length (cpG X.1 X.2.1 X.2.2.1 j o)) : Int) - (↑X.2.1 : Int)) * 1]?) (dB (List.getD (cpG X.1 X.2.1 X.2.2.1 j o) (0 + Int.toNat ((↑(List.length (cpG X.1 X.2.1 X.2.2.1 j o)) : Int) - (↑X.2.1 : Int)) * 1) default)) (map_get _ _ zy21) (.s 6 (.chk (true && Nat.beq (List.length (cpG X.1 X.2.1 X.2.2.1 j o) * 1) (List.length (List.map dB (cpG X.1 X.2.1 X.2.2.1 j o))) && true && true && true && true && Nat.ble ((List.length (cpG X.1 X.2.1 X.2.2.1 j o) + 1) * 1) 140737488355328) zy15 (.s 4 (.ow ((↑j : Int) + 1) (.s 1 (.val 9 (D.ref 200 200 0 (List.length (cpG X.1 X.2.1 X.2.2.1 j o) + 1) 1) (D.ref 200 200 0 (List.length (cpG X.1 X.2.1 X.2.2.1 (j + 1) o)) 1) zy16 (.val 18 (iD ((↑j : Int) + 1)) (nD (j + 1)) zy17 (.blk 200 200 (Blk.mk (List.map dB (cpG X.1 X.2.1 X.2.2.1 j o) ++ [D.v (Value.int .u8 (↑(UInt8.toNat (List.getD (cpG X.1 X.2.1 X.2.2.1 j o) (0 + Int.toNat ((↑(List.length (cpG X.1 X.2.1 X.2.2.1 j o)) : Int) - (↑X.2.1 : Int)) * 1) default)) : Int))]) 5 true) (Blk.mk (List.map dB (cpG X.1 X.2.1 X.2.2.1 (j + 1) o)) 5 true) zy32 (Hn.next next3 ⟨(j + 1), om, ⟨⟩⟩ zy18 [(200, 200), (8, 8), (16, 16), (24, 24)] ro)))))))))))))))))) (fun p34 => have p34f := odf p34; (.val 9 (D.ref 0 0 0 (List.length (cpG X.1 X.2.1 X.2.2.1 j o)) 1) (D.ref 0 0 0 (List.length (plT X.1 X.2.1 X.2.2.1 o)) 1) zy19 (.blk 0 0 (Blk.mk (List.map dB (cpG X.1 X.2.1 X.2.2.1 j o)) 5 true) (Blk.mk (List.map dB (plT X.1 X.2.1 X.2.2.1 o)) 5 true) zy20 (Hn.last last3 0 (() : Unit) rfl [(0, 0), (8, 8), (16, 16), (24, 24)] ro))))))) (fun | ⟨j, hj, _⟩ => by kernel_rfl) ⟨(0), om, ⟨⟩⟩ [(0, 0), (8, 8), (16, 16), (96, 96)] ro (hs1 (fun | () => (.s 9 (Hn.next next2 ⟨(la), (oo), (G), (F), om, om, zy2, zy2, (X.2.2.2.2.1), zy3, (plT X.1 X.2.1 X.2.2.1 o), zy5, zy6, (nxtR (stR b 2 0 (List.take G oo) (List.take F (List.drop G oo)) (Rs.mk (X.2.2.2.2.1) 0))), wr, ⟨⟩⟩ zy7 [(0, 0), (8, 8), (16, 16)] ro)))))))))))))))))))))))))))) (fun | ⟨la, oo, G, F, e1, e3, hT1, hT2, c, hc, o, ho2, hT, X, hX, _⟩ => by kernel_rfl) ⟨((hdR b (rs0 a)).la), (dO b a), (gG b a), (gF b a), (by ( exact ((hdF hn ha).k2 om om).2.2.1)), (by (exact (hdF hn ha).g)), (by (show canE _ _ = 0;  rw [(k2_l hn ha om om).2]; exact (hdF hn ha).t1)), (by (show canE _ _ = 0;  rw [(k2_l hn ha om om).1]; exact (hdF hn ha).t2)), ((hdR b (rs0 a)).s.p), zy33, (o), om, (by (show TdR _ _ _ _ _ _ _;  exact td_k2 hn ha hT om om)), (nxtR (stR b 2 0 (List.take (gG b a) (dO b a)) (List.take (gF b a) (List.drop (gG b a) (dO b a))) (Rs.mk (hdR b (rs0 a)).s.p 0))), wr, ⟨⟩⟩ [(0, 0), (24, 24), (64, 64)] ro (hs2 (fun | ⟨G, F, c2, o2, la2, le2, hc2, ho3, hA, hB, _⟩ => (.s 6 (.br (la2) (fun p35 => (.s 5 (.val 6 (D.ref 0 0 0 (List.length o2) 1) (D.ref 0 0 0 (List.length TR.2) 1) zy34 (.val 7 (nD c2) (nD TQ) zy22 (.val 8 (iD 0) (nD (Rs.e TR.1)) zy22 (.blk 0 0 (Blk.mk (List.map dB o2) 5 true) (Blk.mk (List.map dB TR.2) 5 true) zy35 (Hn.last last1 0 (() : Unit) rfl [(0, 0)] ro))))))) (fun p35 => (Hn.next next1 ⟨(c2), om, (o2), om, zy36, ⟨⟩⟩ zy37 [(0, 0)] ro))))) (fun | () => (Hn.last last1 0 (() : Unit) rfl [(0, 0)] ro))))))) (fun p25 => have p25f := odf p25; (.abs (by ( have q1 := (hdF hn ha).kd om; omega))))))))))))) (fun | ⟨a, ha, o, ho, hT, _⟩ => by kernel_rfl) ⟨(p), om, ([]), (by (simp <;> (omega))), om, ⟨⟩⟩ [(32, 32)] ro (hs1 (fun | () => (.out [0] [0] (D.tup [D.ref 0 0 0 (List.length TR.2) 1, nD TQ, nD (Rs.e TR.1)]) [Blk.mk (List.map dB TR.2) 5 true] R (ok _ _ wr wr)))))))) (by kernel_rfl)
end Vp
end Go.Proofs.Ytegjeagfcfhbeaa
namespace Go.Proofs.Ytegjeagfcfhbeaa
open Go.RowKit Go.Bw Go.Vx
namespace Vp
set_option linter.unusedVariables false
set_option linter.unusedSimpArgs false
set_option maxRecDepth 100000
set_option maxHeartbeats 4000000
theorem zz0 {p : Prop} (h : p := by (refine decide_eq_false ?_; (omega))) : p := h
theorem tp_q (b : List UInt8) (most : Int) : ∀ (k : Nat) (m : Option Kb) (s : Rs) (o : List UInt8), (tlF b most k m s o).1.e = 0 → tpF b most k m s o = (tlF b most k m s o).1.p
  | 0, _, _, _, _ => rfl
  | k + 1, none, s, o, h => by
    rw [tlF] at h ⊢; rw [tpF]
    by_cases he : (hdR b s).s.e ≠ 0
    · rw [tl_err _ _ _ _ he] at h; exact absurd h he
    · rw [if_neg he]; exact tp_q b most k _ _ _ h
  | k + 1, some K, s, o, h => by
    by_cases he : (stK b K s).1.e ≠ 0
    · have e : tlF b most (k + 1) (some K) s o = ((stK b K s).1, o) := by rw [tlF, if_pos (.inl he), if_pos (.inl he)]
      rw [e] at h; exact absurd h he
    · by_cases h2 : (stK b K s).2.2.2.2 = true
      · by_cases h3 : K.la = true
        · have e : tlF b most (k + 1) (some K) s o = ((stK b K s).1, o) := by rw [tlF, if_pos (.inr h2), if_pos (.inr h3)]
          rw [e, tpF, if_neg he, if_pos h2, if_pos h3]
        · have e : tlF b most (k + 1) (some K) s o = tlF b most k none (stK b K s).1 o := by rw [tlF, if_pos (.inr h2), if_neg (fun z => z.elim he h3)]
          rw [e] at h ⊢
          rw [tpF, if_neg he, if_pos h2, if_neg h3]; exact tp_q b most k _ _ _ h
      · have hn : ¬ ((stK b K s).1.e ≠ 0 ∨ (stK b K s).2.2.2.2 = true) := fun z => z.elim he h2
        by_cases h3 : (tkC most (stK b K s).2.2.1 (stK b K s).2.2.2.1 (stK b K s).1 o).e ≠ 0
        · have e : tlF b most (k + 1) (some K) s o = (tkC most (stK b K s).2.2.1 (stK b K s).2.2.2.1 (stK b K s).1 o, o) := by rw [tlF, if_neg hn, if_pos h3]
          rw [e] at h; exact absurd h h3
        · have e : tlF b most (k + 1) (some K) s o = tlF b most k (some { K with le := K.le - 1 }) (tkC most (stK b K s).2.2.1 (stK b K s).2.2.2.1 (stK b K s).1 o) (plT (stK b K s).2.1 (stK b K s).2.2.1 (stK b K s).2.2.2.1 o) := by rw [tlF, if_neg hn, if_neg h3]
          rw [e] at h ⊢
          rw [tpF, if_neg he, if_neg h2, if_neg h3]; exact tp_q b most k _ _ _ h
def qR (b : List UInt8) (most : Int) (p : Nat) : Nat := tpR b most none (rs0 p) []
theorem qR_eq {b : List UInt8} {most : Int} {p : Nat} (h : (allR b most p).1.e = 0) : qR b most p = (allR b most p).1.p := by
  unfold qR allR at *
  rw [tpR_eq]; rw [tlR_eq] at h ⊢
  exact tp_q b most _ _ _ _ h
theorem rTold_p (b : List UInt8) (n : Nat) (hn : n = b.length) (hN : n ≤ 131072) (p : Nat) (hp : p ≤ 8 * n) (pi : Int) (hpi : pi = p) (most : Int) (hm : 0 ≤ most ∧ most ≤ 1000000) (R : Rs × List UInt8) (hR : allR b most p = R) (Q : Nat) (hQ : qR b most p = Q) : SpecH false Try.prog 39 [.sl false n 1 (b.map dB), iD pi, iD most] [] (.tup [.ref 0 0 0 R.2.length 1, nD Q, nD R.1.e]) [⟨R.2.map dB, 5, true⟩] := by
  subst hpi hR hQ
  exact rTold b n hn (by omega) p hp most hm _ _ ⟨rfl, rfl⟩
theorem rinf_b (b : List UInt8) (n : Nat) (hn : n = b.length) (hN : n ≤ 131072) (x most : Int) (h : (x < 0 ∨ 8 * (n : Int) < x) ∨ most < 0 ∨ 131072 < most) : SpecH false Try.prog 19 [.sl false n 1 (b.map dB), iD x, iD most] [] (.tup [nilD, iD 0, iD 2]) [] := by
  refine SpecH.run T_ok mixed Try.func19 rfl rfl rfl trivial rfl 1000 64 (fun R ok => (.s 12 (.f (decide (131072 < (↑n : Int))) zz0 (.s 5 (.br (decide (x < 0)) (fun p0 => have p0f := odt p0; (.s 36 (.out [] [] (D.tup [nilD, iD 0, iD 2]) [] R (ok _ _ wr wr)))) (fun p0 => have p0f := odf p0; (.s 7 (.ow (8 * (↑n : Int)) (.s 4 (.br (decide (8 * (↑n : Int) < x)) (fun p1 => have p1f := odt p1; (.s 26 (.out [] [] (D.tup [nilD, iD 0, iD 2]) [] R (ok _ _ wr wr)))) (fun p1 => have p1f := odf p1; (.s 14 (.br (decide (most < 0)) (fun p2 => have p2f := odt p2; (.s 15 (.out [] [] (D.tup [nilD, iD 0, iD 2]) [] R (ok _ _ wr wr)))) (fun p2 => have p2f := odf p2; (.s 6 (.t (decide (131072 < most)) (by (refine decide_eq_true ?_; (omega))) (.s 9 (.out [] [] (D.tup [nilD, iD 0, iD 2]) [] R (ok _ _ wr wr))))))))))))))))))) (by kernel_rfl)
theorem rinf_e (b : List UInt8) (n : Nat) (hn : n = b.length) (hN : n ≤ 131072) (x most : Int) (h1 : 0 ≤ x ∧ x ≤ 8 * (n : Int)) (h2 : 0 ≤ most ∧ most ≤ 131072) (tr : Rs × List UInt8) (hR : allR b most x.toNat = tr) (q : Nat) (hQ : qR b most x.toNat = q) (h : tr.1.e ≠ 0) : SpecH false Try.prog 19 [.sl false n 1 (b.map dB), iD x, iD most] [] (.tup [nilD, iD 0, nD tr.1.e]) [] := by
  refine SpecH.run T_ok mixed Try.func19 rfl rfl rfl trivial rfl 1000 64 (fun R ok => (.s 12 (.f (decide (131072 < (↑n : Int))) zz0 (.s 5 (.f (decide (x < 0)) zz0 (.s 7 (.ow (8 * (↑n : Int)) (.s 4 (.f (decide (8 * (↑n : Int) < x)) zz0 (.s 14 (.f (decide (most < 0)) zz0 (.s 6 (.f (decide (131072 < most)) zz0 (.s 8 (.cl 39 false [] (.fn q39 (@rTold_p (b) (n) om om (Int.toNat x) om (x) om (most) om (tr) asm (q) asm)) (.s 13 (.t ((↑(Rs.e (Prod.fst tr)) : Int) != 0) (by (simp <;> (omega))) (.s 4 (.out [] [] (D.tup [nilD, iD 0, nD (Rs.e (Prod.fst tr))]) [] R (ok _ _ wr wr)))))))))))))))))))) (by kernel_rfl)
theorem rinf_o (b : List UInt8) (n : Nat) (hn : n = b.length) (hN : n ≤ 131072) (x most : Int) (h1 : 0 ≤ x ∧ x ≤ 8 * (n : Int)) (h2 : 0 ≤ most ∧ most ≤ 131072) (tr : Rs × List UInt8) (hR : allR b most x.toNat = tr) (q : Nat) (hQ : qR b most x.toNat = q) (h : tr.1.e = 0) : SpecH false Try.prog 19 [.sl false n 1 (b.map dB), iD x, iD most] [] (.tup [.ref 0 0 0 tr.2.length 1, nD q, iD 0]) [⟨(tr.2).map dB, 5, true⟩] := by
  refine SpecH.run T_ok mixed Try.func19 rfl rfl rfl ⟨pl_bytes _, trivial⟩ rfl 1000 64 (fun R ok => (.s 12 (.f (decide (131072 < (↑n : Int))) zz0 (.s 5 (.f (decide (x < 0)) zz0 (.s 7 (.ow (8 * (↑n : Int)) (.s 4 (.f (decide (8 * (↑n : Int) < x)) zz0 (.s 14 (.f (decide (most < 0)) zz0 (.s 6 (.f (decide (131072 < most)) zz0 (.s 8 (.cl 39 false [] (.fn q39 (@rTold_p (b) (n) om om (Int.toNat x) om (x) om (most) om (tr) asm (q) asm)) (.s 13 (.f ((↑(Rs.e (Prod.fst tr)) : Int) != 0) (by (simp <;> (omega))) (.s 5 (.out [312] [312] (D.tup [D.ref 0 0 0 (List.length (Prod.snd tr)) 1, nD q, iD 0]) [Blk.mk (List.map dB (Prod.snd tr)) 5 true] R (ok _ _ wr wr)))))))))))))))))))) (by kernel_rfl)
theorem rpfx_b (b : List UInt8) (n : Nat) (hn : n = b.length) (hN : n ≤ 131072) (most : Int) (h : most < 0 ∨ 131072 < most) : SpecH false Try.prog 21 [.sl false n 1 (b.map dB), iD most] [] (.tup [nilD, iD 2]) [] := by
  refine SpecH.run T_ok mixed Try.func21 rfl rfl rfl trivial rfl 1000 64 (fun R ok => (.s 10 (.f (decide (131072 < (↑n : Int))) zz0 (.s 13 (.ow (8 * (↑n : Int)) (.s 19 (.br (decide (most < 0)) (fun p0 => have p0f := odt p0; (.s 14 (.out [] [] (D.tup [nilD, iD 2]) [] R (ok _ _ wr wr)))) (fun p0 => have p0f := odf p0; (.s 6 (.t (decide (131072 < most)) (by (refine decide_eq_true ?_; (omega))) (.s 8 (.out [] [] (D.tup [nilD, iD 2]) [] R (ok _ _ wr wr))))))))))))) (by kernel_rfl)
theorem rpfx_e (b : List UInt8) (n : Nat) (hn : n = b.length) (hN : n ≤ 131072) (most : Int) (h2 : 0 ≤ most ∧ most ≤ 131072) (tr : Rs × List UInt8) (hR : allR b most 0 = tr) (q : Nat) (hQ : qR b most 0 = q) (h : tr.1.e ≠ 0 ∧ tr.1.e ≠ 10) : SpecH false Try.prog 21 [.sl false n 1 (b.map dB), iD most] [] (.tup [nilD, nD tr.1.e]) [] := by
  refine SpecH.run T_ok mixed Try.func21 rfl rfl rfl trivial rfl 1000 64 (fun R ok => (.s 10 (.f (decide (131072 < (↑n : Int))) zz0 (.s 13 (.ow (8 * (↑n : Int)) (.s 19 (.f (decide (most < 0)) zz0 (.s 6 (.f (decide (131072 < most)) zz0 (.s 7 (.cl 39 false [] (.fn q39 (@rTold_p (b) (n) om om (0) om (0) om (most) om (tr) asm (q) asm)) (.s 15 (.t ((↑(Rs.e (Prod.fst tr)) : Int) != 0) (by (simp <;> (omega))) (.s 4 (.t ((↑(Rs.e (Prod.fst tr)) : Int) != 10) (by (simp <;> (omega))) (.s 3 (.out [] [] (D.tup [nilD, nD (Rs.e (Prod.fst tr))]) [] R (ok _ _ wr wr)))))))))))))))))) (by kernel_rfl)
theorem rpfx_o (b : List UInt8) (n : Nat) (hn : n = b.length) (hN : n ≤ 131072) (most : Int) (h2 : 0 ≤ most ∧ most ≤ 131072) (tr : Rs × List UInt8) (hR : allR b most 0 = tr) (q : Nat) (hQ : qR b most 0 = q) (h : ¬ (tr.1.e ≠ 0 ∧ tr.1.e ≠ 10)) : SpecH false Try.prog 21 [.sl false n 1 (b.map dB), iD most] [] (.tup [.ref 0 0 0 tr.2.length 1, iD 0]) [⟨(tr.2).map dB, 5, true⟩] := by
  refine SpecH.run T_ok mixed Try.func21 rfl rfl rfl ⟨pl_bytes _, trivial⟩ rfl 1000 64 (fun R ok => (.s 10 (.f (decide (131072 < (↑n : Int))) zz0 (.s 13 (.ow (8 * (↑n : Int)) (.s 19 (.f (decide (most < 0)) zz0 (.s 6 (.f (decide (131072 < most)) zz0 (.s 7 (.cl 39 false [] (.fn q39 (@rTold_p (b) (n) om om (0) om (0) om (most) om (tr) asm (q) asm)) (.s 15 (.br ((↑(Rs.e (Prod.fst tr)) : Int) != 0) (fun p0 => have p0f := of_bne_t p0; (.s 4 (.f ((↑(Rs.e (Prod.fst tr)) : Int) != 10) (by (simp <;> (omega))) (.s 3 (.out [280] [280] (D.tup [D.ref 0 0 0 (List.length (Prod.snd tr)) 1, iD 0]) [Blk.mk (List.map dB (Prod.snd tr)) 5 true] R (ok _ _ wr wr)))))) (fun p0 => have p0f := of_bne_f p0; (.s 7 (.out [280] [280] (D.tup [D.ref 0 0 0 (List.length (Prod.snd tr)) 1, iD 0]) [Blk.mk (List.map dB (Prod.snd tr)) 5 true] R (ok _ _ wr wr))))))))))))))))) (by kernel_rfl)
theorem rInf_t (b : List UInt8) (n : Nat) (hn : n = b.length) (hN : n ≤ 131072) (x most : Int) (r : List UInt8 × Nat × Nat) (hr : infR b x most = r) : SpecH false Try.prog 19 [.sl false n 1 (b.map dB), iD x, iD most] [] (.tup [.ref 0 0 0 r.1.length 1, nD r.2.1, nD r.2.2]) [⟨(r.1).map dB, 5, true⟩] := by
  subst hr
  by_cases h : (x < 0 ∨ 8 * (n : Int) < x) ∨ most < 0 ∨ 131072 < most
  · have h1 := rinf_b b n hn hN x most h
    have e : infR b x most = ([], 0, 2) := by
      rcases h with h | h
      · exact inf_1 (by omega)
      · by_cases q : x < 0 ∨ 8 * (b.length : Int) < x
        · exact inf_1 q
        · exact inf_2 q h
    rw [e]
    exact SpecH.nilA h1 _ (simN.tup ⟨simN.nil 0 1, simN.refl 0 _, simN.refl 0 _, trivial⟩)
  · by_cases q : (allR b most x.toNat).1.e = 0
    · have h1 := rinf_o b n hn hN x most (by omega) (by omega) _ rfl _ rfl q
      rw [inf_4 (by omega) (by omega) (by omega), ← qR_eq q]
      exact h1
    · have h1 := rinf_e b n hn hN x most (by omega) (by omega) _ rfl _ rfl q
      rw [inf_3 (by omega) (by omega) q]
      exact SpecH.nilA h1 _ (simN.tup ⟨simN.nil 0 1, simN.refl 0 _, simN.refl 0 _, trivial⟩)
theorem rPfx_t (b : List UInt8) (n : Nat) (hn : n = b.length) (hN : n ≤ 131072) (most : Int) (r : List UInt8 × Nat) (hr : pfxR b most = r) : SpecH false Try.prog 21 [.sl false n 1 (b.map dB), iD most] [] (.tup [.ref 0 0 0 r.1.length 1, nD r.2]) [⟨(r.1).map dB, 5, true⟩] := by
  subst hr
  by_cases h : most < 0 ∨ 131072 < most
  · have h1 := rpfx_b b n hn hN most h
    rw [pfx_1 h]
    exact SpecH.nilA h1 _ (simN.tup ⟨simN.nil 0 1, simN.refl 0 _, trivial⟩)
  · by_cases q : (allR b most 0).1.e ≠ 0 ∧ (allR b most 0).1.e ≠ 10
    · have h1 := rpfx_e b n hn hN most (by omega) _ rfl _ rfl (by omega)
      rw [pfx_2 h q]
      exact SpecH.nilA h1 _ (simN.tup ⟨simN.nil 0 1, simN.refl 0 _, trivial⟩)
    · have h1 := rpfx_o b n hn hN most (by omega) _ rfl _ rfl q
      rw [pfx_3 h q]
      exact h1
end Vp
end Go.Proofs.Ytegjeagfcfhbeaa
namespace Go.Proofs.Ytegjeagfcfhbeaa
open Go.RowKit Go.Bw Go.Vx
namespace Vp
set_option linter.unusedVariables false
set_option linter.unusedSimpArgs false
set_option maxRecDepth 100000
set_option maxHeartbeats 4000000
theorem zax0 {p : Prop} (h : p := by (refine decide_eq_true ?_; (omega))) : p := h
theorem zax1 {p : Prop} (h : p := by exact (And.intro (D.sim.slw rfl (cond_t (by (simp <;> (omega))) |>.trans rfl)) (And.intro (D.sim.refl _) (And.intro (D.sim.refl _) trivial)))) : p := h
theorem zax2 {p : Prop} (h : p := by exact (And.intro (D.sim.slw rfl (cond_t (by (simp <;> (omega))) |>.trans rfl)) (And.intro (D.sim.refl _) trivial))) : p := h
theorem tel_0 (b : List UInt8) (n : Nat) (hn : n = b.length) (x most : Int) (h : 400 < n ∨ (3000 < most ∧ most ≤ 131072)) : SpecH false Try.prog 5 [.sl false n 1 (b.map dB), iD x, iD most] [] (.v (.bool true)) [] := by
  refine SpecH.run T_ok mixed Try.func5 rfl rfl rfl trivial rfl 1000 64 (fun R ok => (.s 12 (.br (decide (400 < (↑n : Int))) (fun p0 => have p0f := odt p0; (.s 11 (.out [] [] (D.v (.bool true)) [] R (ok _ _ wr wr)))) (fun p0 => have p0f := odf p0; (.s 6 (.t (decide (3000 < most)) zax0 (.s 6 (.t (decide (most ≤ 131072)) zax0 (.s 1 (.out [] [] (D.v (.bool true)) [] R (ok _ _ wr wr))))))))))) (by kernel_rfl)
theorem tel_1 (b : List UInt8) (n : Nat) (hn : n = b.length) (x most : Int) (hN : n ≤ 400) (hm : ¬ (3000 < most ∧ most ≤ 131072)) (r : List UInt8 × Nat × Nat) (hr : infR b x most = r) (r2 : List UInt8 × Nat) (hr2 : pfxR b most = r2) : SpecH false Try.prog 5 [.sl false n 1 (b.map dB), iD x, iD most] [] (.v (.bool true)) [] := by
  refine SpecH.run T_ok mixed Try.func5 rfl rfl rfl trivial rfl 1000 64 (fun R ok => (.s 12 (.f (decide (400 < (↑n : Int))) (by (refine decide_eq_false ?_; (omega))) (.s 6 (.br (decide (3000 < most)) (fun p0 => have p0f := odt p0; (.s 6 (.f (decide (most ≤ 131072)) (by (refine decide_eq_false ?_; (omega))) (.s 2 (.chk (true && Nat.ble ((0 + n) * 1) 140737488355328) (by (refine Nat.ble_eq_true_of_le ?_; (omega))) (.s 5 (.call 18 false [] (true && (true && Nat.ble (0 + n * 1) (List.length (List.map dB b)) && true && closedL (bif true && Nat.beq (n * 1) (List.length (List.map dB b)) then List.map dB b else List.take (n * 1) (List.drop 0 (List.map dB b)))) && true) (by (simp <;> (omega))) ([D.sl (Nat.ble 1 n) n 1 (bif true && Nat.beq (n * 1) (List.length (List.map dB b)) then List.map dB b else List.take (n * 1) (List.drop 0 (List.map dB b))), iD x, iD most]) _ zax1 (true) wr _ _ _ (CallOk.fn (FnOk.of Try.func18 rfl rfl) (@Inf_t (b) (n) om om (x) (most) (r) asm)) (.s 14 (.cl 19 false [] (.fn q19 (@rInf_t (b) (n) om om (x) (most) (r) asm)) (.s 13 (.call 20 false [] (true && (true && Nat.ble (0 + n * 1) (List.length (List.map dB b)) && true && closedL (bif true && Nat.beq (n * 1) (List.length (List.map dB b)) then List.map dB b else List.take (n * 1) (List.drop 0 (List.map dB b)))) && true) (by (simp <;> (omega))) ([D.sl (Nat.ble 1 n) n 1 (bif true && Nat.beq (n * 1) (List.length (List.map dB b)) then List.map dB b else List.take (n * 1) (List.drop 0 (List.map dB b))), iD most]) _ zax2 (true) wr _ _ _ (CallOk.fn (FnOk.of Try.func20 rfl rfl) (@Pfx_t (b) (n) om om (most) (r2) asm)) (.s 10 (.cl 21 false [] (.fn q21 (@rPfx_t (b) (n) om om (most) (r2) asm)) (.s 9 (.chk (true && Nat.ble (0 + List.length (Prod.fst r) * 1) (List.length (List.map dB (Prod.fst r))) && true && true) (by (simp; done)) (.byt (bif true && Nat.beq (List.length (Prod.fst r) * 1) (List.length (List.map dB (Prod.fst r))) then List.map dB (Prod.fst r) else List.take (List.length (Prod.fst r) * 1) (List.drop 0 (List.map dB (Prod.fst r)))) (Prod.fst r) (cond_t (by (simp; done)) |>.trans rfl) (.s 2 (.chk (true && Nat.ble (0 + List.length (Prod.fst r) * 1) (List.length (List.map dB (Prod.fst r))) && true && true) (by (simp; done)) (.byt (bif true && Nat.beq (List.length (Prod.fst r) * 1) (List.length (List.map dB (Prod.fst r))) then List.map dB (Prod.fst r) else List.take (List.length (Prod.fst r) * 1) (List.drop 0 (List.map dB (Prod.fst r)))) (Prod.fst r) (cond_t (by (simp; done)) |>.trans rfl) (.s 3 (.t (ByteArray.toList (ByteArray.mk (List.toArray (Prod.fst r))) == ByteArray.toList (ByteArray.mk (List.toArray (Prod.fst r)))) (by (simp; done)) (.s 8 (.t ((↑(Prod.fst (Prod.snd r)) : Int) == (↑(Prod.fst (Prod.snd r)) : Int)) zax0 (.s 8 (.t ((↑(Prod.snd (Prod.snd r)) : Int) == (↑(Prod.snd (Prod.snd r)) : Int)) zax0 (.s 2 (.chk (true && Nat.ble (0 + List.length (Prod.fst r2) * 1) (List.length (List.map dB (Prod.fst r2))) && true && true) (by (simp; done)) (.byt (bif true && Nat.beq (List.length (Prod.fst r2) * 1) (List.length (List.map dB (Prod.fst r2))) then List.map dB (Prod.fst r2) else List.take (List.length (Prod.fst r2) * 1) (List.drop 0 (List.map dB (Prod.fst r2)))) (Prod.fst r2) (cond_t (by (simp; done)) |>.trans rfl) (.s 4 (.chk (true && Nat.ble (0 + List.length (Prod.fst r2) * 1) (List.length (List.map dB (Prod.fst r2))) && true && true) (by (simp; done)) (.byt (bif true && Nat.beq (List.length (Prod.fst r2) * 1) (List.length (List.map dB (Prod.fst r2))) then List.map dB (Prod.fst r2) else List.take (List.length (Prod.fst r2) * 1) (List.drop 0 (List.map dB (Prod.fst r2)))) (Prod.fst r2) (cond_t (by (simp; done)) |>.trans rfl) (.s 5 (.t (ByteArray.toList (ByteArray.mk (List.toArray (Prod.fst r2))) == ByteArray.toList (ByteArray.mk (List.toArray (Prod.fst r2)))) (by (simp; done)) (.s 8 (.t ((↑(Prod.snd r2) : Int) == (↑(Prod.snd r2) : Int)) zax0 (.s 2 (.chk (true && Nat.ble (0 + n * 1) (List.length (List.map dB b)) && true && true) (by (simp <;> (omega))) (.byt (bif true && Nat.beq (n * 1) (List.length (List.map dB b)) then List.map dB b else List.take (n * 1) (List.drop 0 (List.map dB b))) (b) (cond_t (by (simp <;> (omega))) |>.trans rfl) (.s 5 (.byt (List.map dB b) (b) rfl (.s 4 (.out [] [] (D.v (.bool (ByteArray.toList (ByteArray.mk (List.toArray b)) == ByteArray.toList (ByteArray.mk (List.toArray b))))) [] R (ok _ _ (by (simp; done)) wr))))))))))))))))))))))))))))))))))))))))))) (fun p0 => have p0f := odf p0; (.s 8 (.chk (true && Nat.ble ((0 + n) * 1) 140737488355328) (by (refine Nat.ble_eq_true_of_le ?_; (omega))) (.s 5 (.call 18 false [] (true && (true && Nat.ble (0 + n * 1) (List.length (List.map dB b)) && true && closedL (bif true && Nat.beq (n * 1) (List.length (List.map dB b)) then List.map dB b else List.take (n * 1) (List.drop 0 (List.map dB b)))) && true) (by (simp <;> (omega))) ([D.sl (Nat.ble 1 n) n 1 (bif true && Nat.beq (n * 1) (List.length (List.map dB b)) then List.map dB b else List.take (n * 1) (List.drop 0 (List.map dB b))), iD x, iD most]) _ zax1 (true) wr _ _ _ (CallOk.fn (FnOk.of Try.func18 rfl rfl) (@Inf_t (b) (n) om om (x) (most) (r) asm)) (.s 14 (.cl 19 false [] (.fn q19 (@rInf_t (b) (n) om om (x) (most) (r) asm)) (.s 13 (.call 20 false [] (true && (true && Nat.ble (0 + n * 1) (List.length (List.map dB b)) && true && closedL (bif true && Nat.beq (n * 1) (List.length (List.map dB b)) then List.map dB b else List.take (n * 1) (List.drop 0 (List.map dB b)))) && true) (by (simp <;> (omega))) ([D.sl (Nat.ble 1 n) n 1 (bif true && Nat.beq (n * 1) (List.length (List.map dB b)) then List.map dB b else List.take (n * 1) (List.drop 0 (List.map dB b))), iD most]) _ zax2 (true) wr _ _ _ (CallOk.fn (FnOk.of Try.func20 rfl rfl) (@Pfx_t (b) (n) om om (most) (r2) asm)) (.s 10 (.cl 21 false [] (.fn q21 (@rPfx_t (b) (n) om om (most) (r2) asm)) (.s 9 (.chk (true && Nat.ble (0 + List.length (Prod.fst r) * 1) (List.length (List.map dB (Prod.fst r))) && true && true) (by (simp; done)) (.byt (bif true && Nat.beq (List.length (Prod.fst r) * 1) (List.length (List.map dB (Prod.fst r))) then List.map dB (Prod.fst r) else List.take (List.length (Prod.fst r) * 1) (List.drop 0 (List.map dB (Prod.fst r)))) (Prod.fst r) (cond_t (by (simp; done)) |>.trans rfl) (.s 2 (.chk (true && Nat.ble (0 + List.length (Prod.fst r) * 1) (List.length (List.map dB (Prod.fst r))) && true && true) (by (simp; done)) (.byt (bif true && Nat.beq (List.length (Prod.fst r) * 1) (List.length (List.map dB (Prod.fst r))) then List.map dB (Prod.fst r) else List.take (List.length (Prod.fst r) * 1) (List.drop 0 (List.map dB (Prod.fst r)))) (Prod.fst r) (cond_t (by (simp; done)) |>.trans rfl) (.s 3 (.t (ByteArray.toList (ByteArray.mk (List.toArray (Prod.fst r))) == ByteArray.toList (ByteArray.mk (List.toArray (Prod.fst r)))) (by (simp; done)) (.s 8 (.t ((↑(Prod.fst (Prod.snd r)) : Int) == (↑(Prod.fst (Prod.snd r)) : Int)) zax0 (.s 8 (.t ((↑(Prod.snd (Prod.snd r)) : Int) == (↑(Prod.snd (Prod.snd r)) : Int)) zax0 (.s 2 (.chk (true && Nat.ble (0 + List.length (Prod.fst r2) * 1) (List.length (List.map dB (Prod.fst r2))) && true && true) (by (simp; done)) (.byt (bif true && Nat.beq (List.length (Prod.fst r2) * 1) (List.length (List.map dB (Prod.fst r2))) then List.map dB (Prod.fst r2) else List.take (List.length (Prod.fst r2) * 1) (List.drop 0 (List.map dB (Prod.fst r2)))) (Prod.fst r2) (cond_t (by (simp; done)) |>.trans rfl) (.s 4 (.chk (true && Nat.ble (0 + List.length (Prod.fst r2) * 1) (List.length (List.map dB (Prod.fst r2))) && true && true) (by (simp; done)) (.byt (bif true && Nat.beq (List.length (Prod.fst r2) * 1) (List.length (List.map dB (Prod.fst r2))) then List.map dB (Prod.fst r2) else List.take (List.length (Prod.fst r2) * 1) (List.drop 0 (List.map dB (Prod.fst r2)))) (Prod.fst r2) (cond_t (by (simp; done)) |>.trans rfl) (.s 5 (.t (ByteArray.toList (ByteArray.mk (List.toArray (Prod.fst r2))) == ByteArray.toList (ByteArray.mk (List.toArray (Prod.fst r2)))) (by (simp; done)) (.s 8 (.t ((↑(Prod.snd r2) : Int) == (↑(Prod.snd r2) : Int)) zax0 (.s 2 (.chk (true && Nat.ble (0 + n * 1) (List.length (List.map dB b)) && true && true) (by (simp <;> (omega))) (.byt (bif true && Nat.beq (n * 1) (List.length (List.map dB b)) then List.map dB b else List.take (n * 1) (List.drop 0 (List.map dB b))) (b) (cond_t (by (simp <;> (omega))) |>.trans rfl) (.s 5 (.byt (List.map dB b) (b) rfl (.s 4 (.out [] [] (D.v (.bool (ByteArray.toList (ByteArray.mk (List.toArray b)) == ByteArray.toList (ByteArray.mk (List.toArray b))))) [] R (ok _ _ (by (simp; done)) wr)))))))))))))))))))))))))))))))))))))))))))))) (by kernel_rfl)
theorem tel_ (b : List UInt8) (n : Nat) (hn : n = b.length) (x most : Int) : SpecH false Try.prog 5 [.sl false n 1 (b.map dB), iD x, iD most] [] (.v (.bool true)) [] := by
  by_cases h : 400 < n ∨ (3000 < most ∧ most ≤ 131072)
  · exact tel_0 b n hn x most h
  · exact tel_1 b n hn x most (by omega) (by omega) _ rfl _ rfl
end Vp
end Go.Proofs.Ytegjeagfcfhbeaa
namespace Go.Vx
set_option linter.unusedVariables false
set_option linter.unusedSimpArgs false
open Go.RowKit Go.Bw Go.ChangeShapes Go.WideShapes Go.ChangeAt

inductive Sh
  | int (k : IntKind)
  | bool
  | str
  | bytes
  | sl (e : Sh) (sz : Nat)
  | st (l : Sh)
  | nil
  | cons (a b : Sh)
def Sh.size : Sh → Nat
  | .int _ => 1
  | .bool => 1
  | .str => 1
  | .bytes => 1
  | .sl _ _ => 1
  | .st l => l.size
  | .nil => 0
  | .cons a b => a.size + b.size
def Sh.has : Sh → List D → Prop
  | .int k, ds => ∃ n, ds = [.v (.int k n)] ∧ (Lit.int k n).wf = true
  | .bool, ds => ∃ b, ds = [.v (.bool b)]
  | .str, ds => ∃ s : ByteArray, ds = [.v (.string s)] ∧ s.size ≤ maxLen
  | .bytes, ds => ∃ bs : List UInt8, ds = [.sl false bs.length 1 (bs.map dB)] ∧ bs.length ≤ maxLen
  | .sl e sz, ds => ∃ els : List (List D), ds = [.sl false els.length sz els.flatten] ∧ (∀ el ∈ els, e.has el) ∧ els.length ≤ maxLen
  | .st l, ds => l.has ds
  | .nil, ds => ds = []
  | .cons a b, ds => ∃ d1 d2, ds = d1 ++ d2 ∧ a.has d1 ∧ b.has d2
mutual
def Sh.ty (P : Program) : Sh → TypeId → Prop
  | .int k, t => P.underlying t = some (.int k)
  | .bool, t => P.underlying t = some .bool
  | .str, t => P.underlying t = some .string
  | .bytes, t => ∃ te, P.underlying t = some (.slice te) ∧ P.cellsOf te = 1 ∧ P.underlying te = some (.int .u8)
  | .sl e sz, t => ∃ te, P.underlying t = some (.slice te) ∧ P.cellsOf te = sz ∧ 0 < sz ∧ e.size = sz ∧ e.ty P te
  | .st l, t => ∃ fs, P.underlying t = some (.struct fs) ∧ P.cellsOf t = l.size ∧ l.fty P 0 fs.toList
  | .nil, _ => False
  | .cons _ _, _ => False
def Sh.fty (P : Program) : Sh → Nat → List Field → Prop
  | .nil, _, [] => True
  | .cons a b, off, f :: r => f.offset = off ∧ P.cellsOf f.type = a.size ∧ a.ty P f.type ∧ b.fty P (off + a.size) r
  | _, _, _ => False
end
def CR (E : Env) (w : World) (ds : List D) (us : List Value) : Prop := us.length = ds.length ∧ ∀ (i : Nat) d u, ds[i]? = some d → us[i]? = some u → RD E w d u ∧ u.oneCell' = true
theorem CR.append {E : Env} {w : World} {d1 d2 : List D} {u1 u2 : List Value} (h1 : CR E w d1 u1) (h2 : CR E w d2 u2) : CR E w (d1 ++ d2) (u1 ++ u2) := by
  refine ⟨by simp [h1.1, h2.1], fun i d u hd hu => ?_⟩
  by_cases hi : i < d1.length
  · rw [List.getElem?_append_left hi] at hd
    rw [List.getElem?_append_left (by have := h1.1; omega)] at hu
    exact h1.2 i d u hd hu
  · rw [List.getElem?_append_right (by omega)] at hd
    rw [List.getElem?_append_right (by have := h1.1; omega), h1.1] at hu
    exact h2.2 _ d u hd hu
theorem CR.one {E : Env} {w : World} {d : D} {u : Value} (h : RD E w d u) (h1 : u.oneCell' = true) : CR E w [d] [u] := ⟨rfl, fun i d' u' hd hu => by
  cases i with
  | zero => simp at hd hu; subst hd hu; exact ⟨h, h1⟩
  | succ i => simp at hd⟩
theorem CR.nil (E : Env) (w : World) : CR E w [] [] := ⟨rfl, fun i d u hd => by simp at hd⟩
theorem CR.flatten {E : Env} {w : World} : ∀ {els : List (List D)} {vs : List (List Value)}, els.length = vs.length → (∀ (i : Nat) el v, els[i]? = some el → vs[i]? = some v → CR E w el v) → CR E w els.flatten vs.flatten
  | [], [], _, _ => CR.nil E w
  | e :: els, v :: vs, hl, h => by
    rw [List.flatten_cons, List.flatten_cons]
    exact (h 0 e v rfl rfl).append (CR.flatten (by simpa using hl) fun i el v' h1 h2 => h (i + 1) el v' (by simpa using h1) (by simpa using h2))
  | [], _ :: _, hl, _ => by simp at hl
  | _ :: _, [], hl, _ => by simp at hl

section
variable {H : Type} {enc : TypeId × Value → H} {P : Program} {w : World}
theorem getElem?_flatten_const {α : Type} {sz : Nat} (hs : 0 < sz) : ∀ {l : List (List α)}, (∀ x ∈ l, x.length = sz) → ∀ i : Nat, l.flatten[i]? = (l[i / sz]?).bind (·[i % sz]?)
  | [], _, i => by simp
  | x :: l, h, i => by
    rw [List.flatten_cons]
    have hx := h x List.mem_cons_self
    by_cases hi : i < sz
    · rw [List.getElem?_append_left (by omega), Nat.div_eq_of_lt hi, Nat.mod_eq_of_lt hi]; rfl
    · rw [List.getElem?_append_right (by omega), getElem?_flatten_const hs (fun y hy => h y (List.mem_cons_of_mem _ hy)) (i - x.length), hx]
      have e1 : i / sz = (i - sz) / sz + 1 := by
        rw [← Nat.add_div_right _ hs]; congr 1; omega
      have e2 : i % sz = (i - sz) % sz := by
        conv => lhs; rw [show i = (i - sz) + sz by omega, Nat.add_mod_right]
      rw [e1, e2, List.getElem?_cons_succ]
theorem flatten_const_length {α : Type} {sz : Nat} : ∀ {l : List (List α)}, (∀ x ∈ l, x.length = sz) → l.flatten.length = l.length * sz
  | [], _ => by simp
  | x :: l, h => by
    rw [List.flatten_cons, List.length_append, h x List.mem_cons_self, flatten_const_length (fun y hy => h y (List.mem_cons_of_mem _ hy)), List.length_cons, Nat.add_mul]; omega
theorem rd_of_brow {E : Env} (hE : ∀ b, ¬ E.own b) {a : Option Addr} {cap : Nat} {bs : List UInt8} (h : BRow w a cap bs) : RD E w (.sl false bs.length 1 (bs.map dB)) (.slice a bs.length cap) := by
  obtain ⟨h1, h2, h3, h4, h5⟩ := h
  refine .sl false bs.length 1 _ a cap (bs.map bv) (by simp) (fun i d u hd hu => ?_) (fun u hu => ?_) (by simp) (Nat.zero_lt_one) ⟨h2, h3⟩ (fun h => ⟨h4 h, rfl⟩) ?_
  · rw [List.getElem?_map, Option.map_eq_some_iff] at hd hu
    obtain ⟨x, hx, rfl⟩ := hd
    obtain ⟨y, hy, rfl⟩ := hu
    rw [hx] at hy; cases hy
    exact .v _ rfl
  · simp only [List.mem_map] at hu
    obtain ⟨x, _, rfl⟩ := hu; rfl
  · rcases h5 with h | ⟨b, off, e, hb, hc⟩
    · exact .inl h
    · exact .inr ⟨b, off, e, hb, hE b, hc⟩
theorem list_choose {α β : Type} {R : α → β → Prop} : ∀ (l : List α), (∀ x ∈ l, ∃ y, R x y) → ∃ m : List β, m.length = l.length ∧ ∀ (i : Nat) x y, l[i]? = some x → m[i]? = some y → R x y
  | [], _ => ⟨[], rfl, fun i x y h => by simp at h⟩
  | x :: l, h => by
    obtain ⟨y, hy⟩ := h x List.mem_cons_self
    obtain ⟨m, hl, hm⟩ := list_choose l fun x hx => h x (List.mem_cons_of_mem _ hx)
    refine ⟨y :: m, by simp [hl], fun i a b h1 h2 => ?_⟩
    cases i with
    | zero => simp at h1 h2; subst h1 h2; exact hy
    | succ i => exact hm i a b (by simpa using h1) (by simpa using h2)
theorem bytes_of_els : ∀ (els : List (List D)), (∀ el ∈ els, (Sh.int .u8).has el) → ∃ bs : List UInt8, bs.length = els.length ∧ els.flatten = bs.map dB
  | [], _ => ⟨[], rfl, rfl⟩
  | e :: r, h => by
    obtain ⟨bs, h1, h2⟩ := bytes_of_els r fun el hel => h el (List.mem_cons_of_mem _ hel)
    obtain ⟨n, rfl, hw⟩ := h e List.mem_cons_self
    refine ⟨UInt8.ofNat n.toNat :: bs, by simp [h1], ?_⟩
    rw [List.flatten_cons, h2, List.map_cons]
    show D.v (.int .u8 n) :: bs.map dB = _
    unfold dB
    rw [byte_of n hw]
theorem els_map {α : Type} {f : α → List D} {p : α → Prop} : ∀ (els : List (List D)), (∀ el ∈ els, ∃ x, el = f x ∧ p x) → ∃ xs : List α, els = xs.map f ∧ ∀ x ∈ xs, p x
  | [], _ => ⟨[], rfl, fun x h => by cases h⟩
  | e :: r, h => by
    obtain ⟨xs, h1, h2⟩ := els_map r fun el hel => h el (List.mem_cons_of_mem _ hel)
    obtain ⟨x, rfl, hx⟩ := h e List.mem_cons_self
    exact ⟨x :: xs, by simp [h1], fun y hy => by
      rcases List.mem_cons.1 hy with rfl | hy
      · exact hx
      · exact h2 y hy⟩
mutual
theorem Sh.openT : ∀ (sh : Sh) (t : TypeId) (fuel : Nat) (cs : List Value) (x : DataW H × List MemPlace) (E : Env), (∀ b, ¬ E.own b) → sh.ty P t → DataW.trod enc P w 0 (fun _ => true) true fuel t cs = some x → ∃ ds, sh.has ds ∧ ds.length = sh.size ∧ CR E w ds cs
  | .int k, t, fuel, cs, x, E, hE, ht, h => by
    obtain ⟨n, rfl, _, hw⟩ := DataW.trod_int ht h
    exact ⟨_, ⟨n, rfl, hw⟩, rfl, CR.one (.v _ rfl) rfl⟩
  | .bool, t, fuel, cs, x, E, hE, ht, h => by
    obtain ⟨b, rfl, _⟩ := DataW.trod_bool ht h
    exact ⟨_, ⟨b, rfl⟩, rfl, CR.one (.v _ rfl) rfl⟩
  | .str, t, fuel, cs, x, E, hE, ht, h => by
    obtain ⟨s, rfl, _, hm⟩ := DataW.trod_string ht h
    exact ⟨_, ⟨s, rfl, hm⟩, rfl, CR.one (.v _ rfl) rfl⟩
  | .bytes, t, fuel, cs, x, E, hE, ht, h => by
    obtain ⟨te, ht, hc, he⟩ := ht
    rcases DataW.trod_slice ht h with ⟨rfl, _⟩ | ⟨a, len, cap, elems, rest, n, _, rfl, _⟩
    · obtain ⟨a, cap, bs, hv, hr⟩ := bytes_cell (v := .slice none 0 0) ht he hc h
      exact ⟨[.sl false 0 1 []], ⟨[], rfl, Nat.zero_le _⟩, rfl, CR.one (.sl false 0 1 [] none 0 [] rfl (fun i d u h => by simp at h) (fun u h => by cases h) (by simp) Nat.zero_lt_one ⟨Nat.le_refl _, by decide⟩ (fun _ => ⟨rfl, rfl⟩) (.inl rfl)) rfl⟩
    · obtain ⟨a, cap, bs, hv, hr⟩ := bytes_cell (v := .slice (some a) len cap) ht he hc h
      cases hv
      have hmx : bs.length ≤ maxLen := by
        obtain ⟨_, h2, h3, _⟩ := hr
        exact Nat.le_trans h2 h3
      exact ⟨[.sl false bs.length 1 (bs.map dB)], ⟨bs, rfl, hmx⟩, rfl, CR.one (rd_of_brow hE hr) rfl⟩
  | .sl e sz, t, fuel, cs, x, E, hE, ht, h => by
    obtain ⟨te, ht, hsz, hpos, hes, hte⟩ := ht
    rcases DataW.trod_slice ht h with ⟨rfl, _⟩ | ⟨a, len, cap, elems, rest, n, _, rfl, _, _, hlc, hm, hlen, hel, _, _⟩
    · refine ⟨[.sl false 0 sz []], ⟨[], rfl, (fun el h => by cases h), Nat.zero_le _⟩, rfl, CR.one ?_ rfl⟩
      exact .sl false 0 sz [] none 0 [] rfl (fun i d u h => by simp at h) (fun u h => by cases h) (by simp) hpos ⟨Nat.le_refl _, by decide⟩ (fun _ => ⟨rfl, rfl⟩) (.inl rfl)
    · have hspot0 : len = 0 ∨ a.spot = none := by
        rcases Nat.eq_zero_or_pos len with h0 | h0
        · exact .inl h0
        · right
          have h1 := hel 0 h0
          rw [hsz, List.getElem?_eq_getElem (by omega), Option.bind_eq_some_iff] at h1
          obtain ⟨us, hus, _⟩ := h1
          obtain ⟨_, q1, q2⟩ := World.cells?_some hus
          have := q2 0 hpos
          rw [List.getElem?_eq_getElem (by omega)] at this
          simpa [Addr.add] using World.cell?_spot this
      rcases hspot0 with rfl | hspot
      · have hcap : cap ≤ maxI := hm
        refine ⟨[.sl false 0 sz []], ⟨[], rfl, (fun el h => by cases h), Nat.zero_le _⟩, rfl, CR.one ?_ rfl⟩
        exact .sl false 0 sz [] (some a) cap [] rfl (fun i d u h => by simp at h) (fun u h => by cases h) (by simp) hpos ⟨Nat.zero_le _, hcap⟩ (fun h => by cases h) (.inl rfl)
      obtain ⟨b, off, spot⟩ := a
      have hspot : spot = none := hspot
      subst hspot
      have each : ∀ i, i < len → ∃ us : List Value, us.length = sz ∧ (∀ j, j < sz → w.cell? ⟨b, off + (i * sz + j), none⟩ = us[j]?) ∧ ∃ ds, e.has ds ∧ ds.length = sz ∧ CR E.cl w ds us := fun i hi => by
        have h1 := hel i hi
        have hi' : i < elems.length := by omega
        rw [hsz, List.getElem?_eq_getElem hi', Option.bind_eq_some_iff] at h1
        obtain ⟨us, hus, hr⟩ := h1
        obtain ⟨_, q1, q2⟩ := World.cells?_some hus
        obtain ⟨ds, q3, q4, q5⟩ := Sh.openT e te n us _ E.cl hE hte hr
        refine ⟨us, q1, fun j hj => ?_, ds, q3, q4.trans hes, q5⟩
        rw [← q2 j hj, Addr.add_mid, Addr.add_mid, Nat.add_assoc]
      obtain ⟨usl, hl1, hu⟩ := list_choose (List.range len) (R := fun i us => us.length = sz ∧ (∀ j, j < sz → w.cell? ⟨b, off + (i * sz + j), none⟩ = us[j]?) ∧ ∃ ds, e.has ds ∧ ds.length = sz ∧ CR E.cl w ds us) fun i hi => each i (List.mem_range.1 hi)
      obtain ⟨els, hl2, hd⟩ := list_choose usl (R := fun us ds => e.has ds ∧ ds.length = sz ∧ CR E.cl w ds us) fun us hus => by
        obtain ⟨i, hi⟩ := List.getElem?_of_mem hus
        have hlt : i < len := by have := (List.getElem?_eq_some_iff.1 hi).1; simp at hl1; omega
        exact (hu i i us (by simp [hlt]) hi).2.2
      rw [List.length_range] at hl1
      have hul : ∀ x ∈ usl, x.length = sz := fun us hus => by
        obtain ⟨i, hi⟩ := List.getElem?_of_mem hus
        have hlt : i < len := by have := (List.getElem?_eq_some_iff.1 hi).1; omega
        exact (hu i i us (by simp [hlt]) hi).1
      have hfind : ∀ {i el}, els[i]? = some el → ∃ us, usl[i]? = some us ∧ e.has el ∧ el.length = sz ∧ CR E.cl w el us := fun {i el} hi => by
        have hlt : i < usl.length := by have := (List.getElem?_eq_some_iff.1 hi).1; omega
        exact ⟨usl[i], List.getElem?_eq_getElem hlt, hd i _ el (List.getElem?_eq_getElem hlt) hi⟩
      have hel2 : ∀ x ∈ els, e.has x ∧ x.length = sz := fun el hel => by
        obtain ⟨i, hi⟩ := List.getElem?_of_mem hel
        obtain ⟨us, _, q1, q2, _⟩ := hfind hi
        exact ⟨q1, q2⟩
      have hcr : CR E.cl w els.flatten usl.flatten := CR.flatten hl2 fun i el us h1 h2 => (hd i us el h2 h1).2.2
      refine ⟨_, ⟨els, rfl, fun el hel => (hel2 el hel).1, by omega⟩, rfl, CR.one ?_ rfl⟩
      have hlen' : els.length = len := by omega
      rw [show els.length = len from hlen']
      have hcap : cap ≤ maxI := hm
      refine .sl false len sz els.flatten (some ⟨b, off, none⟩) cap usl.flatten hcr.1 (fun i d u h1 h2 => (hcr.2 i d u h1 h2).1) (fun u hu => ?_) (by rw [flatten_const_length fun x hx => (hel2 x hx).2, hlen']) hpos ⟨hlc, hcap⟩ (fun h => by cases h) ?_
      · obtain ⟨i, hi⟩ := List.getElem?_of_mem hu
        have hlt : i < els.flatten.length := by have := (List.getElem?_eq_some_iff.1 hi).1; rw [hcr.1] at this; exact this
        exact (hcr.2 i _ u (List.getElem?_eq_getElem hlt) hi).2
      · rcases Nat.eq_zero_or_pos len with h0 | h0
        · exact .inl h0
        · right
          have cellat : ∀ (i : Nat) u, usl.flatten[i]? = some u → w.cell? ⟨b, off + i, none⟩ = some u := fun i u hi => by
            rw [getElem?_flatten_const hpos hul, Option.bind_eq_some_iff] at hi
            obtain ⟨us, h1, h2⟩ := hi
            have hlt : i / sz < len := by have := (List.getElem?_eq_some_iff.1 h1).1; omega
            have := (hu (i / sz) (i / sz) us (by simp [hlt]) h1).2.1 (i % sz) (Nat.mod_lt _ hpos)
            rw [h2] at this
            rw [← this]; congr 2
            have := Nat.div_add_mod i sz
            rw [Nat.mul_comm] at this; omega
          have hlt0 : 0 < usl.flatten.length := by rw [flatten_const_length hul, hl1]; exact Nat.mul_pos h0 hpos
          have hc0 := cellat 0 _ (List.getElem?_eq_getElem hlt0)
          exact ⟨b, off, rfl, block_lt_of_cell hc0, hE b, cellat⟩
  | .st l, t, fuel, cs, x, E, hE, ht, h => by
    obtain ⟨fs, ht, hc, hf⟩ := ht
    obtain ⟨xs, n, _, _, hl, hxl, hfs⟩ := DataW.trod_struct ht h
    obtain ⟨ds, q1, q2, q3⟩ := Sh.openF l 0 fs.toList n cs E hE hf (by omega) fun f hf => by
      obtain ⟨i, hi⟩ := List.getElem?_of_mem hf
      have hi' : fs[i]? = some f := by simpa using hi
      have hlt : i < xs.length := by have := (List.getElem?_eq_some_iff.1 hi).1; simp at this; omega
      exact ⟨_, (hfs i f hi').trans (List.getElem?_eq_getElem hlt)⟩
    exact ⟨ds, q1, q2, by simpa using q3⟩
  | .nil, _, _, _, _, _, _, ht, _ => ht.elim
  | .cons _ _, _, _, _, _, _, _, ht, _ => ht.elim
theorem Sh.openF : ∀ (l : Sh) (off : Nat) (fs : List Field) (n : Nat) (cs : List Value) (E : Env), (∀ b, ¬ E.own b) → l.fty P off fs → cs.length = off + l.size → (∀ f ∈ fs, ∃ x, DataW.trod enc P w 0 (fun _ => true) true n f.type ((cs.drop f.offset).take (P.cellsOf f.type)) = some x) → ∃ ds, l.has ds ∧ ds.length = l.size ∧ CR E w ds (cs.drop off)
  | .nil, off, [], n, cs, E, hE, hf, hl, h => ⟨[], rfl, rfl, by rw [List.drop_eq_nil_of_le (by simp only [Sh.size] at hl; omega)]; exact CR.nil E w⟩
  | .cons a b, off, f :: r, n, cs, E, hE, hf, hl, h => by
    obtain ⟨ho, hc, ha, hb⟩ := hf
    simp only [Sh.size] at hl
    obtain ⟨x, hx⟩ := h f List.mem_cons_self
    rw [ho, hc] at hx
    obtain ⟨d1, p1, p2, p3⟩ := Sh.openT a f.type n _ x E hE ha hx
    obtain ⟨d2, q1, q2, q3⟩ := Sh.openF b (off + a.size) r n cs E hE hb (by omega) fun g hg => h g (List.mem_cons_of_mem _ hg)
    refine ⟨d1 ++ d2, ⟨d1, d2, rfl, p1, q1⟩, by simp only [List.length_append, p2, q2, Sh.size], ?_⟩
    have e : cs.drop off = (cs.drop off).take a.size ++ cs.drop (off + a.size) := by rw [← List.drop_drop]; exact (List.take_append_drop _ _).symm
    rw [e]
    exact p3.append q3
  | .nil, _, _ :: _, _, _, _, _, hf, _, _ => hf.elim
  | .cons _ _, _, [], _, _, _, _, hf, _, _ => hf.elim
  | .int _, _, _, _, _, _, _, hf, _, _ => by cases hf
  | .bool, _, _, _, _, _, _, hf, _, _ => by cases hf
  | .str, _, _, _, _, _, _, hf, _, _ => by cases hf
  | .bytes, _, _, _, _, _, _, hf, _, _ => by cases hf
  | .sl _ _, _, _, _, _, _, _, hf, _, _ => by cases hf
  | .st _, _, _, _, _, _, _, hf, _, _ => by cases hf
end
def Sh.simple : Sh → Bool
  | .st _ => false
  | .nil => false
  | .cons _ _ => false
  | _ => true
def Sh.hasV : Sh → D → Prop
  | .st l, d => ∃ ds, d = .agg ds ∧ l.has ds
  | .int k, d => ∃ n, d = .v (.int k n) ∧ (Lit.int k n).wf = true
  | .bool, d => ∃ b, d = .v (.bool b)
  | .str, d => ∃ s : ByteArray, d = .v (.string s) ∧ s.size ≤ maxLen
  | .bytes, d => ∃ bs : List UInt8, d = .sl false bs.length 1 (bs.map dB) ∧ bs.length ≤ maxLen
  | .sl e sz, d => ∃ els : List (List D), d = .sl false els.length sz els.flatten ∧ (∀ el ∈ els, e.has el) ∧ els.length ≤ maxLen
  | _, _ => False
theorem Sh.hasV_of {sh : Sh} {d : D} (h : sh.has [d]) (hs : sh.size = 1) (hn : sh.simple = true) : sh.hasV d := by
  cases sh with
  | int k => obtain ⟨n, e, h⟩ := h; exact ⟨n, (List.cons.inj e).1, h⟩
  | bool => obtain ⟨n, e⟩ := h; exact ⟨n, (List.cons.inj e).1⟩
  | str => obtain ⟨n, e, h⟩ := h; exact ⟨n, (List.cons.inj e).1, h⟩
  | bytes => obtain ⟨n, e, h⟩ := h; exact ⟨n, (List.cons.inj e).1, h⟩
  | sl e sz => obtain ⟨n, e, h⟩ := h; exact ⟨n, (List.cons.inj e).1, h⟩
  | _ => cases hn
theorem Sh.openV {sh : Sh} {t : TypeId} {v : Value} {r : Reach} {base : Nat} (ht : sh.ty P t) (o : Value.okWide P w r base t v) (h : Bw.Tr enc P w t v) {E : Env} (hE : ∀ b, ¬ E.own b) : ∃ d, sh.hasV d ∧ RD E w d v := by
  obtain ⟨dd, p, fuel, hf⟩ := h
  have one : ∀ {sh : Sh}, v.cells = #[v] → sh.size = 1 → sh.simple = true → sh.ty P t → ∃ d, sh.hasV d ∧ RD E w d v := fun {sh} hv hs hn ht => by
    obtain ⟨ds, h1, h2, h3⟩ := Sh.openT sh t fuel _ _ E hE ht hf
    rw [hv] at h3
    rw [hs] at h2
    match ds, h2 with
    | [d], _ => exact ⟨d, Sh.hasV_of h1 hs hn, (h3.2 0 d v rfl rfl).1⟩
  cases sh with
  | int k => obtain ⟨n, rfl⟩ := okWide_int ht o; exact one (sh := .int k) rfl rfl rfl ht
  | bool => obtain ⟨b, rfl⟩ := okWide_bool ht o; exact one (sh := .bool) rfl rfl rfl ht
  | str => obtain ⟨b, rfl⟩ := okWide_string ht o; exact one (sh := .str) rfl rfl rfl ht
  | bytes =>
    obtain ⟨te, h1, h2⟩ := ht
    obtain ⟨a, len, cap, rfl⟩ := okWide_slice h1 o
    exact one (sh := .bytes) rfl rfl rfl ⟨te, h1, h2⟩
  | sl e sz =>
    obtain ⟨te, h1, h2⟩ := ht
    obtain ⟨a, len, cap, rfl⟩ := okWide_slice h1 o
    exact one (sh := .sl e sz) rfl rfl rfl ⟨te, h1, h2⟩
  | st l =>
    obtain ⟨fs, h1, h2⟩ := ht
    obtain ⟨cs, rfl, _⟩ := okWide_struct h1 o
    obtain ⟨ds, q1, q2, q3⟩ := Sh.openT (.st l) t fuel _ _ E hE ⟨fs, h1, h2⟩ hf
    refine ⟨.agg ds, ⟨ds, rfl, q1⟩, ?_⟩
    have := RD.agg (E := E) (w := w) ds cs.toList q3.1 (fun i d u a b => (q3.2 i d u a b).1) fun u hu => by
      obtain ⟨i, hi⟩ := List.getElem?_of_mem hu
      have hlt : i < ds.length := by have := (List.getElem?_eq_some_iff.1 hi).1; have := q3.1; simp [Value.cells] at this; simp at *; omega
      exact (q3.2 i _ u (List.getElem?_eq_getElem hlt) hi).2
    simpa using this
  | nil => exact ht.elim
  | cons a b => exact ht.elim
def E0 : Env := envR (fun _ => False) (fun _ => none) 0
theorem E0_own : ∀ b, ¬ E0.own b := fun b h => by
  rcases h with h | ⟨j, hj, _⟩
  · exact h
  · cases hj
theorem rd_nil (w : World) : ∀ (j : Nat) d u, ([] : List D)[j]? = some d → ([] : List Value)[j]? = some u → RD E0 w d u := fun j d u h => by simp at h
theorem rd_cons {d : D} {v : Value} {ds : List D} {vs : List Value} (h : RD E0 w d v) (k : ∀ (j : Nat) d u, ds[j]? = some d → vs[j]? = some u → RD E0 w d u) : ∀ (j : Nat) d' u, (d :: ds)[j]? = some d' → (v :: vs)[j]? = some u → RD E0 w d' u := fun j d' u h1 h2 => by
  cases j with
  | zero => simp at h1 h2; subst h1 h2; exact h
  | succ j => exact k j d' u (by simpa using h1) (by simpa using h2)
theorem SpecH.gives {f : FuncId} {ds : List D} {c : Value} (h : SpecH false P f ds [] (.v c) []) {args : List Value} (hl : args.length = ds.length) (ha : ∀ (j : Nat) d u, ds[j]? = some d → args[j]? = some u → RD E0 w d u) : Calls P f args.toArray w (Gives w c) := by
  refine (h.2 (fun _ => False) (fun _ => none) w args (fun x hx => hx.elim) (fun j b hb => by simp at hb) (fun i j x hi => by cases hi) hl ha).mono ?_
  rintro e w' ⟨u, rfl, hfr, φ, _, hr, _⟩
  cases hr with
  | v c h => exact ⟨rfl, (hfr.mono (M' := fun k => w.heap.size ≤ k) fun x hx => by
      rcases hx with hx | ⟨j, hj, _⟩
      · exact hx
      · cases hj).below⟩
theorem sized_len {ts : List TypeId} {ds : List (DataW H)} (h : (DataW.weightsEach P ts ds).all (· ≤ reachBytes) = true) {j : Nat} {t e : TypeId} {d : DataW H} {v : Value} {p : List MemPlace} (ht : ts[j]? = some t) (hd : ds[j]? = some d) (hu : P.underlying t = some (.slice e))
    (hr : DataW.Trod enc P w 0 (fun _ => true) true t v d p) {a : Option Addr} {len cap : Nat} (hv : v = .slice a len cap) : len * P.bytesOf e ≤ reachBytes := by
  subst hv
  obtain ⟨fuel, hf⟩ := hr
  rcases DataW.trod_slice hu hf with ⟨h0, _⟩ | ⟨a', len', cap', elems, rest, n, _, hcs, hx, _, _, _, hlen, _⟩
  · have h0 : Value.slice a len cap = .slice none 0 0 := (List.cons.inj h0).1
    cases h0
    omega
  · have hcs : Value.slice a len cap = .slice (some a') len' cap' := (List.cons.inj hcs).1
    cases hcs
    have hd' : d = .slice (elems.map (·.1)) (rest.map (·.1)) := congrArg Prod.fst hx
    subst hd'
    have := sized_slice h ht hd hu
    simp only [List.length_map, hlen] at this
    have h2 : len * P.bytesOf e ≤ (len + rest.length) * P.bytesOf e := Nat.mul_le_mul_right _ (Nat.le_add_right _ _)
    omega
end
end Go.Vx

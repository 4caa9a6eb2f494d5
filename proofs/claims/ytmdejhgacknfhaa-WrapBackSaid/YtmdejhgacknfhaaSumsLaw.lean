/- SumsLaw: the two sums as functions on numbers, and their plain laws. No program. -/
import Derived.Test.YtmdejhgacknfhaaBase
namespace Go.Bw.Sums

def stp (x : Nat) : Nat := if x % 2 = 1 then x / 2 ^^^ 3988292384 else x / 2
def stps : Nat → Nat → Nat
  | 0, x => x
  | n + 1, x => stps n (stp x)
def trow (i : Nat) : Nat := stps 8 i
def tab : List Nat := (List.range 256).map trow
def crcS (ts : List Nat) (c : Nat) (x : UInt8) : Nat := c / 256 ^^^ ts.getD ((c % 256) ^^^ x.toNat) 0
def crcL (ts : List Nat) (c : Nat) (bs : List UInt8) : Nat := bs.foldl (crcS ts) c
def crc (ts : List Nat) (s : Nat) (bs : List UInt8) : Nat := 4294967295 - crcL ts (4294967295 - s) bs
def adS (p : Nat × Nat) (x : UInt8) : Nat × Nat := ((p.1 + x.toNat) % 65521, (p.2 + (p.1 + x.toNat) % 65521) % 65521)
def adL (p : Nat × Nat) (bs : List UInt8) : Nat × Nat := bs.foldl adS p
def adler (s : Nat) (bs : List UInt8) : Nat := (adL (s % 65536, s / 65536) bs).2 * 65536 + (adL (s % 65536, s / 65536) bs).1
def digits : List UInt8 := [49, 50, 51, 52, 53, 54, 55, 56, 57]

theorem step_lt (x : Nat) (h : x < 4294967296) : stp x < 4294967296 := by
  unfold stp
  split
  · exact Nat.xor_lt_two_pow (n := 32) (by omega) (by omega)
  · omega
theorem steps_lt (n : Nat) : ∀ x, x < 4294967296 → stps n x < 4294967296 := by
  induction n with
  | zero => exact fun x h => h
  | succ n ih => exact fun x h => ih _ (step_lt x h)
theorem row_lt (i : Nat) (h : i < 4294967296) : trow i < 4294967296 := steps_lt 8 i h
theorem steps_snoc (n : Nat) : ∀ x, stps (n + 1) x = stp (stps n x) := by
  induction n with
  | zero => exact fun x => rfl
  | succ n ih => exact fun x => ih (stp x)
theorem steps_add (n m : Nat) : ∀ x, stps (n + m) x = stps m (stps n x) := by
  induction n with
  | zero => intro x; simp [stps]
  | succ n ih => intro x; rw [show n + 1 + m = (n + m) + 1 from by omega]; exact ih (stp x)

theorem tab_len : tab.length = 256 := by simp [tab]
theorem tab_get (i : Nat) (h : i < 256) : tab.getD i 0 = trow i := by simp [tab, h]
theorem tab_lt (i : Nat) : tab.getD i 0 < 4294967296 := by
  by_cases h : i < 256
  · rw [tab_get i h]; exact row_lt i (by omega)
  · simp [tab, h]

theorem xor_div2 (a b : Nat) : (a ^^^ b) / 2 = a / 2 ^^^ b / 2 := by
  simpa [Nat.shiftRight_eq_div_pow] using Nat.shiftRight_xor_distrib (a := a) (b := b) (i := 1)
theorem xor_div256 (a b : Nat) : (a ^^^ b) / 256 = a / 256 ^^^ b / 256 := by
  simpa [Nat.shiftRight_eq_div_pow] using Nat.shiftRight_xor_distrib (a := a) (b := b) (i := 8)
theorem xor_mod2 (a b : Nat) : (a ^^^ b) % 2 = (a % 2 + b % 2) % 2 := by
  have := Nat.xor_mod_two_pow (a := a) (b := b) (n := 1)
  simp at this; rw [this]
  have h1 : a % 2 = 0 ∨ a % 2 = 1 := by omega
  have h2 : b % 2 = 0 ∨ b % 2 = 1 := by omega
  rcases h1 with h1 | h1 <;> rcases h2 with h2 | h2 <;> rw [h1, h2] <;> rfl
theorem xor_mod256 (a b : Nat) : (a ^^^ b) % 256 = a % 256 ^^^ b % 256 := by
  simpa using Nat.xor_mod_two_pow (a := a) (b := b) (n := 8)

/-- A stp is linear. -/
theorem step_xor (a b : Nat) : stp (a ^^^ b) = stp a ^^^ stp b := by
  unfold stp
  rw [xor_mod2, xor_div2]
  have h1 : a % 2 = 0 ∨ a % 2 = 1 := by omega
  have h2 : b % 2 = 0 ∨ b % 2 = 1 := by omega
  rcases h1 with h1 | h1 <;> rcases h2 with h2 | h2 <;> simp only [h1, h2] <;> simp
  · rw [Nat.xor_assoc]
  · rw [Nat.xor_assoc, Nat.xor_assoc, Nat.xor_comm _ (b / 2)]
  · rw [Nat.xor_comm (b / 2) 3988292384, ← Nat.xor_assoc, Nat.xor_assoc (a / 2) 3988292384 3988292384, Nat.xor_self, Nat.xor_zero]
theorem steps_xor (n : Nat) : ∀ a b, stps n (a ^^^ b) = stps n a ^^^ stps n b := by
  induction n with
  | zero => exact fun a b => rfl
  | succ n ih => intro a b; show stps n (stp (a ^^^ b)) = _; rw [step_xor, ih]; rfl
theorem row_xor (a b : Nat) : trow (a ^^^ b) = trow a ^^^ trow b := steps_xor 8 a b

theorem steps_shift (n : Nat) : ∀ x, stps n (x * 2 ^ n) = x := by
  induction n with
  | zero => intro x; simp [stps]
  | succ n ih =>
    intro x
    show stps n (stp (x * 2 ^ (n + 1))) = x
    have : stp (x * 2 ^ (n + 1)) = x * 2 ^ n := by
      unfold stp
      rw [if_neg (by rw [Nat.pow_succ, ← Nat.mul_assoc]; omega), Nat.pow_succ, ← Nat.mul_assoc]; omega
    rw [this, ih]

theorem split256 (c : Nat) : c = (c / 256 * 256) ^^^ (c % 256) := by
  have h1 := xor_div256 (c / 256 * 256) (c % 256)
  have h2 := xor_mod256 (c / 256 * 256) (c % 256)
  rw [Nat.mul_div_cancel _ (by omega), Nat.div_eq_of_lt (a := c % 256) (by omega), Nat.xor_zero] at h1
  rw [Nat.mul_mod_left, Nat.mod_mod, Nat.zero_xor] at h2
  omega

/-- Eight stps are one trow of the table. -/
theorem steps8 (c : Nat) : stps 8 c = c / 256 ^^^ trow (c % 256) := by
  conv => lhs; rw [split256 c]
  rw [steps_xor]
  rw [show stps 8 (c / 256 * 256) = c / 256 from steps_shift 8 (c / 256)]
  rfl

theorem crcS_tab (c : Nat) (x : UInt8) : crcS tab c x = stps 8 (c ^^^ x.toNat) := by
  have hx := x.toNat_lt
  have h256 : (c % 256) ^^^ x.toNat < 256 := Nat.xor_lt_two_pow (n := 8) (by omega) (by omega)
  unfold crcS
  rw [tab_get _ h256, steps8, xor_div256, xor_mod256, Nat.mod_eq_of_lt (a := x.toNat) (by omega), Nat.div_eq_of_lt (a := x.toNat) (by omega)]
  simp

theorem crcS_lt (ts : List Nat) (ht : ∀ i, ts.getD i 0 < 4294967296) (c : Nat) (h : c < 4294967296) (x : UInt8) : crcS ts c x < 4294967296 := by
  unfold crcS
  exact Nat.xor_lt_two_pow (n := 32) (by omega) (ht _)
theorem crcL_lt (ts : List Nat) (ht : ∀ i, ts.getD i 0 < 4294967296) (bs : List UInt8) : ∀ c, c < 4294967296 → crcL ts c bs < 4294967296 := by
  induction bs with
  | nil => exact fun c h => h
  | cons x bs ih => exact fun c h => ih _ (crcS_lt ts ht c h x)
theorem crcL_snoc (ts : List Nat) (c : Nat) (bs : List UInt8) (x : UInt8) : crcL ts c (bs ++ [x]) = crcS ts (crcL ts c bs) x := by simp [crcL]
theorem crcL_append (ts : List Nat) (c : Nat) (a b : List UInt8) : crcL ts c (a ++ b) = crcL ts (crcL ts c a) b := by simp [crcL]
theorem crc_lt (ts : List Nat) (s : Nat) (bs : List UInt8) : crc ts s bs < 4294967296 := by unfold crc; omega
theorem crc_append (ts : List Nat) (ht : ∀ i, ts.getD i 0 < 4294967296) (s : Nat) (a b : List UInt8) : crc ts s (a ++ b) = crc ts (crc ts s a) b := by
  have := crcL_lt ts ht a (4294967295 - s) (by omega)
  unfold crc
  rw [crcL_append, show 4294967295 - (4294967295 - crcL ts (4294967295 - s) a) = crcL ts (4294967295 - s) a from by omega]

theorem adL_append (p : Nat × Nat) (a b : List UInt8) : adL p (a ++ b) = adL (adL p a) b := by simp [adL]
theorem adL_lt (bs : List UInt8) : ∀ p : Nat × Nat, p.1 < 65536 → p.2 < 65536 → (adL p bs).1 < 65536 ∧ (adL p bs).2 < 65536 := by
  induction bs with
  | nil => exact fun p h1 h2 => ⟨h1, h2⟩
  | cons x bs ih => exact fun p h1 h2 => ih _ (by unfold adS; simp only; omega) (by unfold adS; simp only; omega)
theorem adler_lt (s : Nat) (h : s < 4294967296) (bs : List UInt8) : adler s bs < 4294967296 := by
  have := adL_lt bs (s % 65536, s / 65536) (by simp only; omega) (by simp only; omega)
  unfold adler; omega
theorem adler_append (s : Nat) (h : s < 4294967296) (a b : List UInt8) : adler s (a ++ b) = adler (adler s a) b := by
  have h1 := adL_lt a (s % 65536, s / 65536) (by simp only; omega) (by simp only; omega)
  have e1 : adler s a % 65536 = (adL (s % 65536, s / 65536) a).1 := by unfold adler; omega
  have e2 : adler s a / 65536 = (adL (s % 65536, s / 65536) a).2 := by unfold adler; omega
  have e : adler (adler s a) b = (adL (adler s a % 65536, adler s a / 65536) b).2 * 65536 + (adL (adler s a % 65536, adler s a / 65536) b).1 := rfl
  rw [e, e1, e2]
  show (adL _ (a ++ b)).2 * 65536 + (adL _ (a ++ b)).1 = _
  rw [adL_append]

/-- The CRC bit by bit. -/
def ofL (c : Nat) (bs : List UInt8) : Nat := bs.foldl (fun c x => stps 8 (c ^^^ x.toNat)) c
theorem ofL_eq (bs : List UInt8) : ∀ c, ofL c bs = crcL tab c bs := by
  induction bs with
  | nil => exact fun c => rfl
  | cons x bs ih => intro c; show ofL (stps 8 (c ^^^ x.toNat)) bs = crcL tab (crcS tab c x) bs; rw [crcS_tab, ih]
theorem ofL_snoc (c : Nat) (bs : List UInt8) (x : UInt8) : ofL c (bs ++ [x]) = stps 8 (ofL c bs ^^^ x.toNat) := by simp [ofL]
theorem ofL_lt (bs : List UInt8) (c : Nat) (h : c < 4294967296) : ofL c bs < 4294967296 := by rw [ofL_eq]; exact crcL_lt tab tab_lt bs c h

/-- The chapter's numbers. -/
theorem alive_crc : crc tab 0 digits = 3421780262 := by decide +kernel
theorem alive_adler : adler 1 digits = 152961502 := by decide +kernel

/-- A stp can be told back: on numbers of 32 bits it is one to one. -/
theorem step_inj (a b : Nat) (ha : a < 4294967296) (hb : b < 4294967296) (h : stp a = stp b) : a = b := by
  have key : ∀ x, x < 4294967296 → (stp x).testBit 31 = decide (x % 2 = 1) := by
    intro x hx
    have h0 : (x / 2).testBit 31 = false := Nat.testBit_lt_two_pow (by omega)
    unfold stp
    split
    · rename_i h1; rw [Nat.testBit_xor, h0, h1]; decide
    · rename_i h1; rw [h0]; simp [h1]
  have k1 := key a ha
  have k2 := key b hb
  rw [h, k2] at k1
  have hm : a % 2 = b % 2 := by
    have h1 : (b % 2 = 1) ↔ (a % 2 = 1) := by simpa using k1
    omega
  have hd : a / 2 = b / 2 := by
    unfold stp at h
    by_cases h1 : a % 2 = 1
    · rw [if_pos h1, if_pos (hm ▸ h1)] at h
      have := congrArg (· ^^^ 3988292384) h
      simpa [Nat.xor_assoc] using this
    · rw [if_neg h1, if_neg (hm ▸ h1)] at h; exact h
  omega
theorem steps_inj (n : Nat) : ∀ a b, a < 4294967296 → b < 4294967296 → stps n a = stps n b → a = b := by
  induction n with
  | zero => exact fun a b _ _ h => h
  | succ n ih => exact fun a b ha hb h => step_inj a b ha hb (ih _ _ (step_lt a ha) (step_lt b hb) h)
theorem xor_cancel (a b x : Nat) (h : a ^^^ x = b ^^^ x) : a = b := by
  have := congrArg (· ^^^ x) h
  simpa [Nat.xor_assoc] using this
theorem crcS_inj (a b : Nat) (ha : a < 4294967296) (hb : b < 4294967296) (x : UInt8) (h : crcS tab a x = crcS tab b x) : a = b := by
  have hx := x.toNat_lt
  rw [crcS_tab, crcS_tab] at h
  exact xor_cancel a b x.toNat (steps_inj 8 _ _ (Nat.xor_lt_two_pow (n := 32) (by omega) (by omega)) (Nat.xor_lt_two_pow (n := 32) (by omega) (by omega)) h)
theorem crcL_inj (bs : List UInt8) : ∀ a b, a < 4294967296 → b < 4294967296 → crcL tab a bs = crcL tab b bs → a = b := by
  induction bs with
  | nil => exact fun a b _ _ h => h
  | cons x bs ih => exact fun a b ha hb h => crcS_inj a b ha hb x (ih _ _ (crcS_lt tab tab_lt a ha x) (crcS_lt tab tab_lt b hb x) h)
theorem four_steps (c x0 x1 x2 x3 : Nat) :
    stps 8 (stps 8 (stps 8 (stps 8 (c ^^^ x0) ^^^ x1) ^^^ x2) ^^^ x3) = stps 32 (c ^^^ (x0 ^^^ (x1 * 256 ^^^ (x2 * 65536 ^^^ x3 * 16777216)))) := by
  have e1 : stps 8 (x1 * 256) = x1 := steps_shift 8 x1
  have e2 : stps 16 (x2 * 65536) = x2 := steps_shift 16 x2
  have e3 : stps 24 (x3 * 16777216) = x3 := steps_shift 24 x3
  have a1 : ∀ y, stps 16 y = stps 8 (stps 8 y) := steps_add 8 8
  have a2 : ∀ y, stps 24 y = stps 8 (stps 16 y) := steps_add 16 8
  have a3 : ∀ y, stps 32 y = stps 8 (stps 24 y) := steps_add 24 8
  have f1 : ∀ z, stps 8 z ^^^ x1 = stps 8 (z ^^^ x1 * 256) := fun z => by rw [steps_xor 8, e1]
  have f2 : ∀ z, stps 8 (stps 8 z) ^^^ x2 = stps 16 (z ^^^ x2 * 65536) := fun z => by rw [steps_xor 16, e2, a1]
  have f3 : ∀ z, stps 8 (stps 16 z) ^^^ x3 = stps 24 (z ^^^ x3 * 16777216) := fun z => by rw [steps_xor 24, e3, a2]
  rw [f1, f2, f3, ← a3, Nat.xor_assoc, Nat.xor_assoc, Nat.xor_assoc]

theorem pack_inj (x0 x1 x2 x3 y0 y1 y2 y3 : Nat) (h0 : x0 < 256) (h1 : x1 < 256) (h2 : x2 < 256)  (k0 : y0 < 256) (k1 : y1 < 256) (k2 : y2 < 256) 
    (h : (x0 ^^^ (x1 * 256 ^^^ (x2 * 65536 ^^^ x3 * 16777216))) = (y0 ^^^ (y1 * 256 ^^^ (y2 * 65536 ^^^ y3 * 16777216)))) : x0 = y0 ∧ x1 = y1 ∧ x2 = y2 ∧ x3 = y3 := by
  have pk : ∀ a b : Nat, a < 256 → (a ^^^ b * 256) % 256 = a ∧ (a ^^^ b * 256) / 256 = b := by
    intro a b ha
    rw [xor_mod256, xor_div256]
    simp [Nat.mod_eq_of_lt ha, Nat.div_eq_of_lt ha]
  have sh : ∀ a b c : Nat, (a * 256 ^^^ (b * 65536 ^^^ c * 16777216)) = (a ^^^ (b ^^^ c * 256) * 256) * 256 := by
    intro a b c
    have m : ∀ u v : Nat, (u ^^^ v) * 256 = u * 256 ^^^ v * 256 := by
      intro u v
      simpa [Nat.shiftLeft_eq] using Nat.shiftLeft_xor_distrib (a := u) (b := v) (i := 8)
    have hb : b * 65536 = b * 256 * 256 := by omega
    have hc : c * 16777216 = c * 256 * 256 * 256 := by simp [Nat.mul_assoc]
    rw [hb, hc, ← m, ← m, ← m]
  rw [sh, sh] at h
  have p1 := pk x0 (x1 ^^^ (x2 ^^^ x3 * 256) * 256) h0
  have q1 := pk y0 (y1 ^^^ (y2 ^^^ y3 * 256) * 256) k0
  rw [h] at p1
  have hh := p1.2.symm.trans q1.2
  have p2 := pk x1 (x2 ^^^ x3 * 256) h1
  have q2 := pk y1 (y2 ^^^ y3 * 256) k1
  rw [hh] at p2
  have hh2 := p2.2.symm.trans q2.2
  have p3 := pk x2 x3 h2
  have q3 := pk y2 y3 k2
  rw [hh2] at p3
  exact ⟨p1.1.symm.trans q1.1, p2.1.symm.trans q2.1, p3.1.symm.trans q3.1, p3.2.symm.trans q3.2⟩

end Go.Bw.Sums

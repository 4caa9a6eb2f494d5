/- SumsTurnLaw: what is turned has other sums. No program. -/
import Derived.Test.YtcgdfdedjbjilaaSumsLaw
namespace Go.Bw.Sums

/-- bs, k of the bytes from a on turned by ys. -/
def turnK (bs : List UInt8) (a : Nat) (ys : List UInt8) (k : Nat) : List UInt8 := bs.mapIdx fun i b => if a ≤ i ∧ i < a + k then b ^^^ ys.getD (i - a) 0 else b

theorem turnK_length (bs : List UInt8) (a : Nat) (ys : List UInt8) (k : Nat) : (turnK bs a ys k).length = bs.length := by simp [turnK]
theorem turnK_zero (bs : List UInt8) (a : Nat) (ys : List UInt8) : turnK bs a ys 0 = bs := by
  apply List.ext_getElem?
  intro i
  simp only [turnK, List.getElem?_mapIdx]
  cases h : bs[i]? with
  | none => rfl
  | some b => simp; intro h1 h2; omega
theorem turnK_at (bs : List UInt8) (a : Nat) (ys : List UInt8) (k : Nat) (i : Nat) (h : i < bs.length) : (turnK bs a ys k)[i]? = some (if a ≤ i ∧ i < a + k then bs[i] ^^^ ys.getD (i - a) 0 else bs[i]) := by
  simp [turnK, h]
theorem turnK_set (bs : List UInt8) (a : Nat) (ys : List UInt8) (k : Nat) (h : a + k < bs.length) : (turnK bs a ys k).set (a + k) (bs[a + k] ^^^ ys.getD k 0) = turnK bs a ys (k + 1) := by
  apply List.ext_getElem?
  intro i
  rw [List.getElem?_set]
  by_cases hi : i < bs.length
  · rw [turnK_at _ _ _ _ i hi, turnK_at _ _ _ _ i hi]
    by_cases e : a + k = i
    · subst e
      rw [if_pos rfl, if_pos (by rw [turnK_length]; exact hi), if_pos (by omega), show a + k - a = k from by omega]
    · rw [if_neg e]
      have : (a ≤ i ∧ i < a + k) ↔ (a ≤ i ∧ i < a + (k + 1)) := by omega
      simp only [this]
  · rw [List.getElem?_eq_none (l := turnK bs a ys (k + 1)) (by rw [turnK_length]; omega)]
    split
    · rw [if_neg (by rw [turnK_length]; omega)]
    · exact List.getElem?_eq_none (by rw [turnK_length]; omega)

theorem split4 (bs : List UInt8) (a : Nat) (h : a + 4 ≤ bs.length) : bs = bs.take a ++ ([bs[a], bs[a + 1], bs[a + 2], bs[a + 3]] ++ bs.drop (a + 4)) := by
  have e : bs.drop a = [bs[a], bs[a + 1], bs[a + 2], bs[a + 3]] ++ bs.drop (a + 4) := by
    rw [List.drop_eq_getElem_cons (by omega), List.drop_eq_getElem_cons (by omega), List.drop_eq_getElem_cons (i := a + 1 + 1) (by omega), List.drop_eq_getElem_cons (i := a + 1 + 1 + 1) (by omega)]
    rfl
  conv => lhs; rw [← List.take_append_drop a bs, e]
theorem turn4 (bs : List UInt8) (a : Nat) (ys : List UInt8) (h : a + 4 ≤ bs.length) :
    turnK bs a ys 4 = bs.take a ++ ([bs[a] ^^^ ys.getD 0 0, bs[a + 1] ^^^ ys.getD 1 0, bs[a + 2] ^^^ ys.getD 2 0, bs[a + 3] ^^^ ys.getD 3 0] ++ bs.drop (a + 4)) := by
  have hl : a + 4 ≤ (turnK bs a ys 4).length := by rw [turnK_length]; exact h
  have g : ∀ i (hi : i < (turnK bs a ys 4).length), (turnK bs a ys 4)[i] = if a ≤ i ∧ i < a + 4 then bs[i]'(by rw [turnK_length] at hi; exact hi) ^^^ ys.getD (i - a) 0 else bs[i]'(by rw [turnK_length] at hi; exact hi) := by
    intro i hi
    rw [turnK_length] at hi
    have := turnK_at bs a ys 4 i hi
    rw [List.getElem?_eq_getElem (by rw [turnK_length]; exact hi)] at this
    exact Option.some.inj this
  rw [split4 (turnK bs a ys 4) a hl]
  rw [g a, g (a + 1), g (a + 2), g (a + 3), if_pos (by omega), if_pos (by omega), if_pos (by omega), if_pos (by omega)]
  rw [show a - a = 0 from by omega, show a + 1 - a = 1 from by omega, show a + 2 - a = 2 from by omega, show a + 3 - a = 3 from by omega]
  congr 1
  · apply List.ext_getElem?
    intro i
    rw [List.getElem?_take, List.getElem?_take]
    split
    · rw [turnK_at _ _ _ _ i (by omega), if_neg (by omega), List.getElem?_eq_getElem (by omega)]
    · rfl
  · congr 1
    apply List.ext_getElem?
    intro i
    rw [List.getElem?_drop, List.getElem?_drop]
    by_cases hi : a + 4 + i < bs.length
    · rw [turnK_at _ _ _ _ _ hi, if_neg (by omega), List.getElem?_eq_getElem hi]
    · rw [List.getElem?_eq_none (by rw [turnK_length]; omega), List.getElem?_eq_none (by omega)]

theorem crcL_four (c : Nat) (x0 x1 x2 x3 : UInt8) : crcL tab c [x0, x1, x2, x3] = stps 32 (c ^^^ (x0.toNat ^^^ (x1.toNat * 256 ^^^ (x2.toNat * 65536 ^^^ x3.toNat * 16777216)))) := by
  show crcS tab (crcS tab (crcS tab (crcS tab c x0) x1) x2) x3 = _
  rw [crcS_tab, crcS_tab, crcS_tab, crcS_tab, four_steps]

theorem pack_lt (x0 x1 x2 x3 : UInt8) : (x0.toNat ^^^ (x1.toNat * 256 ^^^ (x2.toNat * 65536 ^^^ x3.toNat * 16777216))) < 4294967296 := by
  have h0 := x0.toNat_lt; have h1 := x1.toNat_lt; have h2 := x2.toNat_lt; have h3 := x3.toNat_lt
  exact Nat.xor_lt_two_pow (n := 32) (by omega) (Nat.xor_lt_two_pow (n := 32) (by omega) (Nat.xor_lt_two_pow (n := 32) (by omega) (by omega)))

theorem xor_u8 (b y : UInt8) (h : (b ^^^ y).toNat = b.toNat) : y = 0 := by
  have h1 : b ^^^ y = b := UInt8.toNat_inj.1 h
  have := congrArg (fun z => b ^^^ z) h1
  simpa [← UInt8.xor_assoc] using this

/-- Four bytes side by side, turned: the CRC is the same just where they are turned by nothing. -/
theorem crc_turn (s : Nat) (bs : List UInt8) (a : Nat) (ys : List UInt8) (h : a + 4 ≤ bs.length) (hs : s < 4294967296) (hy : ys.length = 4) :
    (crc tab s (turnK bs a ys 4) = crc tab s bs) ↔ ys = [0, 0, 0, 0] := by
  obtain ⟨y0, y1, y2, y3, rfl⟩ : ∃ y0 y1 y2 y3, ys = [y0, y1, y2, y3] := by
    match ys, hy with
    | [y0, y1, y2, y3], _ => exact ⟨y0, y1, y2, y3, rfl⟩
  have hs0 : 4294967295 - s < 4294967296 := by omega
  constructor
  · intro he
    have l1 := crcL_lt tab tab_lt (turnK bs a [y0, y1, y2, y3] 4) (4294967295 - s) hs0
    have l2 := crcL_lt tab tab_lt bs (4294967295 - s) hs0
    have he' : crcL tab (4294967295 - s) (turnK bs a [y0, y1, y2, y3] 4) = crcL tab (4294967295 - s) bs := by unfold crc at he; omega
    rw [turn4 bs a _ h] at he'
    conv at he' => rhs; rw [split4 bs a h]
    rw [crcL_append, crcL_append, crcL_append, crcL_append] at he'
    have hd := crcL_lt tab tab_lt (bs.take a) (4294967295 - s) hs0
    generalize crcL tab (4294967295 - s) (bs.take a) = d at *
    have he2 := crcL_inj _ _ _ (crcL_lt tab tab_lt _ d hd) (crcL_lt tab tab_lt _ d hd) he'
    rw [crcL_four, crcL_four] at he2
    have he3 := steps_inj 32 _ _ (Nat.xor_lt_two_pow (n := 32) (by omega) (pack_lt _ _ _ _)) (Nat.xor_lt_two_pow (n := 32) (by omega) (pack_lt _ _ _ _)) he2
    rw [Nat.xor_comm d, Nat.xor_comm d] at he3
    have he4 := xor_cancel _ _ d he3
    obtain ⟨e0, e1, e2, e3⟩ := pack_inj _ _ _ _ _ _ _ _ (UInt8.toNat_lt _) (UInt8.toNat_lt _) (UInt8.toNat_lt _) (UInt8.toNat_lt _) (UInt8.toNat_lt _) (UInt8.toNat_lt _) he4
    have f0 := xor_u8 _ _ e0
    have f1 := xor_u8 _ _ e1
    have f2 := xor_u8 _ _ e2
    have f3 := xor_u8 _ _ e3
    simp at f0 f1 f2 f3
    rw [f0, f1, f2, f3]
  · intro he
    rw [he, turn4 bs a _ h]
    conv => rhs; rw [split4 bs a h]
    simp

def bsum (bs : List UInt8) : Nat := (bs.map UInt8.toNat).sum
theorem adL_low (bs : List UInt8) : ∀ p : Nat × Nat, p.1 < 65521 → (adL p bs).1 = (p.1 + bsum bs) % 65521 := by
  induction bs with
  | nil => intro p h; simp [adL, bsum]; omega
  | cons x bs ih =>
    intro p h
    show (adL (adS p x) bs).1 = _
    rw [ih _ (by unfold adS; simp only; omega)]
    simp only [adS, bsum, List.map_cons, List.sum_cons]
    omega

/-- One byte turned: the Adler sum is the same just where it is turned by nothing. -/
theorem adler_turn (bs : List UInt8) (a : Nat) (one : UInt8) (h : a < bs.length) : (adler 1 (bs.set a (bs[a] ^^^ one)) = adler 1 bs) ↔ one = 0 := by
  constructor
  · intro he
    have l1 := adL_lt (bs.set a (bs[a] ^^^ one)) (1, 0) (by simp) (by simp)
    have l2 := adL_lt bs (1, 0) (by simp) (by simp)
    have he' : (adL (1, 0) (bs.set a (bs[a] ^^^ one))).1 = (adL (1, 0) bs).1 := by
      have e1 : adler 1 (bs.set a (bs[a] ^^^ one)) = (adL (1, 0) (bs.set a (bs[a] ^^^ one))).2 * 65536 + (adL (1, 0) (bs.set a (bs[a] ^^^ one))).1 := rfl
      have e2 : adler 1 bs = (adL (1, 0) bs).2 * 65536 + (adL (1, 0) bs).1 := rfl
      omega
    rw [adL_low _ _ (by simp), adL_low _ _ (by simp)] at he'
    have s1 : bsum (bs.set a (bs[a] ^^^ one)) = bsum (bs.take a) + ((bs[a] ^^^ one).toNat + bsum (bs.drop (a + 1))) := by
      rw [List.set_eq_take_append_cons_drop, if_pos h]
      simp [bsum]
    have s2 : bsum bs = bsum (bs.take a) + (bs[a].toNat + bsum (bs.drop (a + 1))) := by
      conv => lhs; rw [← List.take_append_drop a bs, List.drop_eq_getElem_cons h]
      unfold bsum
      rw [List.map_append, List.sum_append, List.map_cons, List.sum_cons]
    rw [s1, s2] at he'
    have b1 := (bs[a] ^^^ one).toNat_lt
    have b2 := bs[a].toNat_lt
    simp only at he'
    have hX : (bs[a] ^^^ one).toNat = bs[a].toNat := by omega
    exact xor_u8 _ _ hX
  · intro he
    rw [he]; simp
end Go.Bw.Sums

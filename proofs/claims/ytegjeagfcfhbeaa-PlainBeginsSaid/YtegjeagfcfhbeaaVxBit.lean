/- VxBit: bits of numbers, as numbers (made by gen_bit.py). No program. -/
import Derived.Test.YtegjeagfcfhbeaaVxO
namespace Go.Vx
set_option linter.unusedVariables false
set_option linter.unusedSimpArgs false
open Go.RowKit Go.Bw
theorem bitO_of {k : IntKind} {v r : Int} (h : v = r) : bitO k v = some (.v (.int k r)) := by rw [bitO_eq, h]
theorem ofInt_nat (n : Nat) (x : Int) (hx : 0 ≤ x) : BitVec.ofInt n x = BitVec.ofNat n x.toNat := by
  obtain ⟨m, rfl⟩ := Int.eq_ofNat_of_zero_le hx
  simp
theorem xor_bits {n : Nat} {x y : Int} (hx : 0 ≤ x ∧ x.toNat < 2 ^ n) (hy : 0 ≤ y ∧ y.toNat < 2 ^ n) : (BitVec.ofInt n x ^^^ BitVec.ofInt n y).toNat = x.toNat ^^^ y.toNat := by
  rw [ofInt_nat n x hx.1, ofInt_nat n y hy.1, BitVec.toNat_xor, BitVec.toNat_ofNat, BitVec.toNat_ofNat, Nat.mod_eq_of_lt hx.2, Nat.mod_eq_of_lt hy.2]
theorem or_bits {n : Nat} {x y : Int} (hx : 0 ≤ x ∧ x.toNat < 2 ^ n) (hy : 0 ≤ y ∧ y.toNat < 2 ^ n) : (BitVec.ofInt n x ||| BitVec.ofInt n y).toNat = x.toNat ||| y.toNat := by
  rw [ofInt_nat n x hx.1, ofInt_nat n y hy.1, BitVec.toNat_or, BitVec.toNat_ofNat, BitVec.toNat_ofNat, Nat.mod_eq_of_lt hx.2, Nat.mod_eq_of_lt hy.2]
theorem and_bits {n : Nat} {x y : Int} (hx : 0 ≤ x ∧ x.toNat < 2 ^ n) (hy : 0 ≤ y ∧ y.toNat < 2 ^ n) : (BitVec.ofInt n x &&& BitVec.ofInt n y).toNat = x.toNat &&& y.toNat := by
  rw [ofInt_nat n x hx.1, ofInt_nat n y hy.1, BitVec.toNat_and, BitVec.toNat_ofNat, BitVec.toNat_ofNat, Nat.mod_eq_of_lt hx.2, Nat.mod_eq_of_lt hy.2]
theorem bx_rem {x y : Int} (h : 0 ≤ x) : x.tmod y = x % y := Int.tmod_eq_emod_of_nonneg h
theorem bx_shr {x y : Int} (h : 0 ≤ y) : x.fdiv y = x / y := Int.fdiv_eq_ediv_of_nonneg x h
theorem and_bit {x : Nat} (m : Nat) : x &&& 2 ^ m = x / 2 ^ m % 2 * 2 ^ m := by
  apply Nat.eq_of_testBit_eq
  intro i
  rw [Nat.testBit_and, Nat.testBit_two_pow]
  by_cases h : m = i
  · subst h
    rw [Nat.testBit_mul_two_pow]
    simp [Nat.testBit_eq_decide_div_mod_eq]
  · simp only [h, decide_false, Bool.and_false]
    rw [Nat.testBit_mul_two_pow]
    by_cases h2 : m ≤ i
    · have e : (x / 2 ^ m % 2).testBit (i - m) = false := Nat.testBit_lt_two_pow (Nat.lt_of_lt_of_le (Nat.mod_lt _ (by decide)) (Nat.le_trans (show 2 ≤ 2 ^ 1 from Nat.le_refl _) (Nat.pow_le_pow_right (by decide) (show 1 ≤ i - m by omega))))
      simp [h2, e]
    · simp [h2]
theorem or_add {x y : Nat} (m : Nat) (hx : x % 2 ^ m = 0) (hy : y < 2 ^ m) : x ||| y = x + y := by
  have e : x = 2 ^ m * (x / 2 ^ m) := by have := Nat.div_add_mod x (2 ^ m); omega
  rw [e, ← Nat.two_pow_add_eq_or_of_lt hy]
theorem bx_xor_u8 {x y : Int} (hx : 0 ≤ x ∧ x ≤ 255) (hy : 0 ≤ y ∧ y ≤ 255) : IntKind.wrap .u8 ((BitVec.ofInt 8 x ^^^ BitVec.ofInt 8 y).toNat : Int) = ((x.toNat ^^^ y.toNat : Nat) : Int) := by
  rw [xor_bits ⟨hx.1, by omega⟩ ⟨hy.1, by omega⟩]
  have : x.toNat ^^^ y.toNat < 2 ^ 8 := Nat.xor_lt_two_pow (by omega) (by omega)
  exact IntWalk.u8_in _ (by omega)
theorem bx_or_u8 {x y : Int} (hx : 0 ≤ x ∧ x ≤ 255) (hy : 0 ≤ y ∧ y ≤ 255) : IntKind.wrap .u8 ((BitVec.ofInt 8 x ||| BitVec.ofInt 8 y).toNat : Int) = ((x.toNat ||| y.toNat : Nat) : Int) := by
  rw [or_bits ⟨hx.1, by omega⟩ ⟨hy.1, by omega⟩]
  have : x.toNat ||| y.toNat < 2 ^ 8 := Nat.or_lt_two_pow (by omega) (by omega)
  exact IntWalk.u8_in _ (by omega)
theorem bx_and_u8 {x y : Int} (hx : 0 ≤ x ∧ x ≤ 255) (hy : 0 ≤ y ∧ y ≤ 255) : IntKind.wrap .u8 ((BitVec.ofInt 8 x &&& BitVec.ofInt 8 y).toNat : Int) = ((x.toNat &&& y.toNat : Nat) : Int) := by
  rw [and_bits ⟨hx.1, by omega⟩ ⟨hy.1, by omega⟩]
  have : x.toNat &&& y.toNat ≤ x.toNat := Nat.and_le_left
  exact IntWalk.u8_in _ (by omega)
theorem bx_mask_u8 (m : Nat) (N : Int) {x y : Int} (hx : 0 ≤ x ∧ x ≤ 255) (hy : 0 ≤ y ∧ y ≤ 255) (hN : y + 1 = N) (hm : ((2 ^ m : Nat) : Int) = N) : IntKind.wrap .u8 ((BitVec.ofInt 8 x &&& BitVec.ofInt 8 y).toNat : Int) = x % N := by
  rw [bx_and_u8 hx hy, show y.toNat = 2 ^ m - 1 from by omega, Nat.and_two_pow_sub_one_eq_mod, ← hm]
  rw [Int.natCast_emod, Int.toNat_of_nonneg hx.1]
theorem bx_bit_u8 (m : Nat) {x y : Int} (hx : 0 ≤ x ∧ x ≤ 255) (hy : 0 ≤ y ∧ y ≤ 255) (hm : ((2 ^ m : Nat) : Int) = y) : IntKind.wrap .u8 ((BitVec.ofInt 8 x &&& BitVec.ofInt 8 y).toNat : Int) = x / y % 2 * y := by
  rw [bx_and_u8 hx hy, show y.toNat = 2 ^ m from by omega, and_bit, ← hm]
  rw [Int.natCast_mul, Int.natCast_emod, Int.natCast_ediv, Int.toNat_of_nonneg hx.1]; rfl
theorem bx_oradd_u8 (m : Nat) (N : Int) {x y : Int} (hx : 0 ≤ x ∧ x ≤ 255) (hy : 0 ≤ y ∧ y ≤ 255) (hm : ((2 ^ m : Nat) : Int) = N) (h1 : x % N = 0) (h2 : y < N) : IntKind.wrap .u8 ((BitVec.ofInt 8 x ||| BitVec.ofInt 8 y).toNat : Int) = x + y := by
  rw [bx_or_u8 hx hy, or_add m (by have e := congrArg Int.toNat h1; rw [← hm, ← Int.toNat_of_nonneg hx.1, ← Int.natCast_emod, Int.toNat_natCast] at e; exact e) (by omega)]
  omega
theorem bx_quo_u8 {x y : Int} (hx : 0 ≤ x ∧ x ≤ 255) (hy : 0 < y) : IntKind.wrap .u8 (x.tdiv y) = x / y := by
  rw [Int.tdiv_eq_ediv_of_nonneg hx.1]
  have h1 := Int.ediv_nonneg hx.1 (Int.le_of_lt hy)
  have h2 := Int.ediv_le_self y hx.1
  exact IntWalk.u8_in _ (by omega)
theorem bx_not_u8 {x : Int} (hx : 0 ≤ x ∧ x ≤ 255) : IntKind.wrap .u8 ((BitVec.ofInt 8 255 ^^^ BitVec.ofInt 8 x).toNat : Int) = 255 - x := by
  have e : (BitVec.ofInt 8 255 ^^^ BitVec.ofInt 8 x) = ~~~ (BitVec.ofInt 8 x) := by
    rw [show (BitVec.ofInt 8 255) = BitVec.allOnes 8 from by decide, BitVec.allOnes_xor]
  rw [e, BitVec.toNat_not, ofInt_nat 8 x hx.1, BitVec.toNat_ofNat, Nat.mod_eq_of_lt (by omega)]
  rw [show ((2 ^ 8 - 1 - x.toNat : Nat) : Int) = 255 - x from by omega]
  exact IntWalk.u8_in _ (by omega)
theorem bx_xor_u16 {x y : Int} (hx : 0 ≤ x ∧ x ≤ 65535) (hy : 0 ≤ y ∧ y ≤ 65535) : IntKind.wrap .u16 ((BitVec.ofInt 16 x ^^^ BitVec.ofInt 16 y).toNat : Int) = ((x.toNat ^^^ y.toNat : Nat) : Int) := by
  rw [xor_bits ⟨hx.1, by omega⟩ ⟨hy.1, by omega⟩]
  have : x.toNat ^^^ y.toNat < 2 ^ 16 := Nat.xor_lt_two_pow (by omega) (by omega)
  exact IntWalk.u16_in _ (by omega)
theorem bx_or_u16 {x y : Int} (hx : 0 ≤ x ∧ x ≤ 65535) (hy : 0 ≤ y ∧ y ≤ 65535) : IntKind.wrap .u16 ((BitVec.ofInt 16 x ||| BitVec.ofInt 16 y).toNat : Int) = ((x.toNat ||| y.toNat : Nat) : Int) := by
  rw [or_bits ⟨hx.1, by omega⟩ ⟨hy.1, by omega⟩]
  have : x.toNat ||| y.toNat < 2 ^ 16 := Nat.or_lt_two_pow (by omega) (by omega)
  exact IntWalk.u16_in _ (by omega)
theorem bx_and_u16 {x y : Int} (hx : 0 ≤ x ∧ x ≤ 65535) (hy : 0 ≤ y ∧ y ≤ 65535) : IntKind.wrap .u16 ((BitVec.ofInt 16 x &&& BitVec.ofInt 16 y).toNat : Int) = ((x.toNat &&& y.toNat : Nat) : Int) := by
  rw [and_bits ⟨hx.1, by omega⟩ ⟨hy.1, by omega⟩]
  have : x.toNat &&& y.toNat ≤ x.toNat := Nat.and_le_left
  exact IntWalk.u16_in _ (by omega)
theorem bx_mask_u16 (m : Nat) (N : Int) {x y : Int} (hx : 0 ≤ x ∧ x ≤ 65535) (hy : 0 ≤ y ∧ y ≤ 65535) (hN : y + 1 = N) (hm : ((2 ^ m : Nat) : Int) = N) : IntKind.wrap .u16 ((BitVec.ofInt 16 x &&& BitVec.ofInt 16 y).toNat : Int) = x % N := by
  rw [bx_and_u16 hx hy, show y.toNat = 2 ^ m - 1 from by omega, Nat.and_two_pow_sub_one_eq_mod, ← hm]
  rw [Int.natCast_emod, Int.toNat_of_nonneg hx.1]
theorem bx_bit_u16 (m : Nat) {x y : Int} (hx : 0 ≤ x ∧ x ≤ 65535) (hy : 0 ≤ y ∧ y ≤ 65535) (hm : ((2 ^ m : Nat) : Int) = y) : IntKind.wrap .u16 ((BitVec.ofInt 16 x &&& BitVec.ofInt 16 y).toNat : Int) = x / y % 2 * y := by
  rw [bx_and_u16 hx hy, show y.toNat = 2 ^ m from by omega, and_bit, ← hm]
  rw [Int.natCast_mul, Int.natCast_emod, Int.natCast_ediv, Int.toNat_of_nonneg hx.1]; rfl
theorem bx_oradd_u16 (m : Nat) (N : Int) {x y : Int} (hx : 0 ≤ x ∧ x ≤ 65535) (hy : 0 ≤ y ∧ y ≤ 65535) (hm : ((2 ^ m : Nat) : Int) = N) (h1 : x % N = 0) (h2 : y < N) : IntKind.wrap .u16 ((BitVec.ofInt 16 x ||| BitVec.ofInt 16 y).toNat : Int) = x + y := by
  rw [bx_or_u16 hx hy, or_add m (by have e := congrArg Int.toNat h1; rw [← hm, ← Int.toNat_of_nonneg hx.1, ← Int.natCast_emod, Int.toNat_natCast] at e; exact e) (by omega)]
  omega
theorem bx_quo_u16 {x y : Int} (hx : 0 ≤ x ∧ x ≤ 65535) (hy : 0 < y) : IntKind.wrap .u16 (x.tdiv y) = x / y := by
  rw [Int.tdiv_eq_ediv_of_nonneg hx.1]
  have h1 := Int.ediv_nonneg hx.1 (Int.le_of_lt hy)
  have h2 := Int.ediv_le_self y hx.1
  exact IntWalk.u16_in _ (by omega)
theorem bx_not_u16 {x : Int} (hx : 0 ≤ x ∧ x ≤ 65535) : IntKind.wrap .u16 ((BitVec.ofInt 16 65535 ^^^ BitVec.ofInt 16 x).toNat : Int) = 65535 - x := by
  have e : (BitVec.ofInt 16 65535 ^^^ BitVec.ofInt 16 x) = ~~~ (BitVec.ofInt 16 x) := by
    rw [show (BitVec.ofInt 16 65535) = BitVec.allOnes 16 from by decide, BitVec.allOnes_xor]
  rw [e, BitVec.toNat_not, ofInt_nat 16 x hx.1, BitVec.toNat_ofNat, Nat.mod_eq_of_lt (by omega)]
  rw [show ((2 ^ 16 - 1 - x.toNat : Nat) : Int) = 65535 - x from by omega]
  exact IntWalk.u16_in _ (by omega)
theorem bx_xor_u32 {x y : Int} (hx : 0 ≤ x ∧ x ≤ 4294967295) (hy : 0 ≤ y ∧ y ≤ 4294967295) : IntKind.wrap .u32 ((BitVec.ofInt 32 x ^^^ BitVec.ofInt 32 y).toNat : Int) = ((x.toNat ^^^ y.toNat : Nat) : Int) := by
  rw [xor_bits ⟨hx.1, by omega⟩ ⟨hy.1, by omega⟩]
  have : x.toNat ^^^ y.toNat < 2 ^ 32 := Nat.xor_lt_two_pow (by omega) (by omega)
  exact IntWalk.u32_in _ (by omega)
theorem bx_or_u32 {x y : Int} (hx : 0 ≤ x ∧ x ≤ 4294967295) (hy : 0 ≤ y ∧ y ≤ 4294967295) : IntKind.wrap .u32 ((BitVec.ofInt 32 x ||| BitVec.ofInt 32 y).toNat : Int) = ((x.toNat ||| y.toNat : Nat) : Int) := by
  rw [or_bits ⟨hx.1, by omega⟩ ⟨hy.1, by omega⟩]
  have : x.toNat ||| y.toNat < 2 ^ 32 := Nat.or_lt_two_pow (by omega) (by omega)
  exact IntWalk.u32_in _ (by omega)
theorem bx_and_u32 {x y : Int} (hx : 0 ≤ x ∧ x ≤ 4294967295) (hy : 0 ≤ y ∧ y ≤ 4294967295) : IntKind.wrap .u32 ((BitVec.ofInt 32 x &&& BitVec.ofInt 32 y).toNat : Int) = ((x.toNat &&& y.toNat : Nat) : Int) := by
  rw [and_bits ⟨hx.1, by omega⟩ ⟨hy.1, by omega⟩]
  have : x.toNat &&& y.toNat ≤ x.toNat := Nat.and_le_left
  exact IntWalk.u32_in _ (by omega)
theorem bx_mask_u32 (m : Nat) (N : Int) {x y : Int} (hx : 0 ≤ x ∧ x ≤ 4294967295) (hy : 0 ≤ y ∧ y ≤ 4294967295) (hN : y + 1 = N) (hm : ((2 ^ m : Nat) : Int) = N) : IntKind.wrap .u32 ((BitVec.ofInt 32 x &&& BitVec.ofInt 32 y).toNat : Int) = x % N := by
  rw [bx_and_u32 hx hy, show y.toNat = 2 ^ m - 1 from by omega, Nat.and_two_pow_sub_one_eq_mod, ← hm]
  rw [Int.natCast_emod, Int.toNat_of_nonneg hx.1]
theorem bx_bit_u32 (m : Nat) {x y : Int} (hx : 0 ≤ x ∧ x ≤ 4294967295) (hy : 0 ≤ y ∧ y ≤ 4294967295) (hm : ((2 ^ m : Nat) : Int) = y) : IntKind.wrap .u32 ((BitVec.ofInt 32 x &&& BitVec.ofInt 32 y).toNat : Int) = x / y % 2 * y := by
  rw [bx_and_u32 hx hy, show y.toNat = 2 ^ m from by omega, and_bit, ← hm]
  rw [Int.natCast_mul, Int.natCast_emod, Int.natCast_ediv, Int.toNat_of_nonneg hx.1]; rfl
theorem bx_oradd_u32 (m : Nat) (N : Int) {x y : Int} (hx : 0 ≤ x ∧ x ≤ 4294967295) (hy : 0 ≤ y ∧ y ≤ 4294967295) (hm : ((2 ^ m : Nat) : Int) = N) (h1 : x % N = 0) (h2 : y < N) : IntKind.wrap .u32 ((BitVec.ofInt 32 x ||| BitVec.ofInt 32 y).toNat : Int) = x + y := by
  rw [bx_or_u32 hx hy, or_add m (by have e := congrArg Int.toNat h1; rw [← hm, ← Int.toNat_of_nonneg hx.1, ← Int.natCast_emod, Int.toNat_natCast] at e; exact e) (by omega)]
  omega
theorem bx_quo_u32 {x y : Int} (hx : 0 ≤ x ∧ x ≤ 4294967295) (hy : 0 < y) : IntKind.wrap .u32 (x.tdiv y) = x / y := by
  rw [Int.tdiv_eq_ediv_of_nonneg hx.1]
  have h1 := Int.ediv_nonneg hx.1 (Int.le_of_lt hy)
  have h2 := Int.ediv_le_self y hx.1
  exact IntWalk.u32_in _ (by omega)
theorem bx_not_u32 {x : Int} (hx : 0 ≤ x ∧ x ≤ 4294967295) : IntKind.wrap .u32 ((BitVec.ofInt 32 4294967295 ^^^ BitVec.ofInt 32 x).toNat : Int) = 4294967295 - x := by
  have e : (BitVec.ofInt 32 4294967295 ^^^ BitVec.ofInt 32 x) = ~~~ (BitVec.ofInt 32 x) := by
    rw [show (BitVec.ofInt 32 4294967295) = BitVec.allOnes 32 from by decide, BitVec.allOnes_xor]
  rw [e, BitVec.toNat_not, ofInt_nat 32 x hx.1, BitVec.toNat_ofNat, Nat.mod_eq_of_lt (by omega)]
  rw [show ((2 ^ 32 - 1 - x.toNat : Nat) : Int) = 4294967295 - x from by omega]
  exact IntWalk.u32_in _ (by omega)
theorem bx_xor_u64 {x y : Int} (hx : 0 ≤ x ∧ x ≤ 18446744073709551615) (hy : 0 ≤ y ∧ y ≤ 18446744073709551615) : IntKind.wrap .u64 ((BitVec.ofInt 64 x ^^^ BitVec.ofInt 64 y).toNat : Int) = ((x.toNat ^^^ y.toNat : Nat) : Int) := by
  rw [xor_bits ⟨hx.1, by omega⟩ ⟨hy.1, by omega⟩]
  have : x.toNat ^^^ y.toNat < 2 ^ 64 := Nat.xor_lt_two_pow (by omega) (by omega)
  exact IntWalk.u64_in _ (by omega)
theorem bx_or_u64 {x y : Int} (hx : 0 ≤ x ∧ x ≤ 18446744073709551615) (hy : 0 ≤ y ∧ y ≤ 18446744073709551615) : IntKind.wrap .u64 ((BitVec.ofInt 64 x ||| BitVec.ofInt 64 y).toNat : Int) = ((x.toNat ||| y.toNat : Nat) : Int) := by
  rw [or_bits ⟨hx.1, by omega⟩ ⟨hy.1, by omega⟩]
  have : x.toNat ||| y.toNat < 2 ^ 64 := Nat.or_lt_two_pow (by omega) (by omega)
  exact IntWalk.u64_in _ (by omega)
theorem bx_and_u64 {x y : Int} (hx : 0 ≤ x ∧ x ≤ 18446744073709551615) (hy : 0 ≤ y ∧ y ≤ 18446744073709551615) : IntKind.wrap .u64 ((BitVec.ofInt 64 x &&& BitVec.ofInt 64 y).toNat : Int) = ((x.toNat &&& y.toNat : Nat) : Int) := by
  rw [and_bits ⟨hx.1, by omega⟩ ⟨hy.1, by omega⟩]
  have : x.toNat &&& y.toNat ≤ x.toNat := Nat.and_le_left
  exact IntWalk.u64_in _ (by omega)
theorem bx_mask_u64 (m : Nat) (N : Int) {x y : Int} (hx : 0 ≤ x ∧ x ≤ 18446744073709551615) (hy : 0 ≤ y ∧ y ≤ 18446744073709551615) (hN : y + 1 = N) (hm : ((2 ^ m : Nat) : Int) = N) : IntKind.wrap .u64 ((BitVec.ofInt 64 x &&& BitVec.ofInt 64 y).toNat : Int) = x % N := by
  rw [bx_and_u64 hx hy, show y.toNat = 2 ^ m - 1 from by omega, Nat.and_two_pow_sub_one_eq_mod, ← hm]
  rw [Int.natCast_emod, Int.toNat_of_nonneg hx.1]
theorem bx_bit_u64 (m : Nat) {x y : Int} (hx : 0 ≤ x ∧ x ≤ 18446744073709551615) (hy : 0 ≤ y ∧ y ≤ 18446744073709551615) (hm : ((2 ^ m : Nat) : Int) = y) : IntKind.wrap .u64 ((BitVec.ofInt 64 x &&& BitVec.ofInt 64 y).toNat : Int) = x / y % 2 * y := by
  rw [bx_and_u64 hx hy, show y.toNat = 2 ^ m from by omega, and_bit, ← hm]
  rw [Int.natCast_mul, Int.natCast_emod, Int.natCast_ediv, Int.toNat_of_nonneg hx.1]; rfl
theorem bx_oradd_u64 (m : Nat) (N : Int) {x y : Int} (hx : 0 ≤ x ∧ x ≤ 18446744073709551615) (hy : 0 ≤ y ∧ y ≤ 18446744073709551615) (hm : ((2 ^ m : Nat) : Int) = N) (h1 : x % N = 0) (h2 : y < N) : IntKind.wrap .u64 ((BitVec.ofInt 64 x ||| BitVec.ofInt 64 y).toNat : Int) = x + y := by
  rw [bx_or_u64 hx hy, or_add m (by have e := congrArg Int.toNat h1; rw [← hm, ← Int.toNat_of_nonneg hx.1, ← Int.natCast_emod, Int.toNat_natCast] at e; exact e) (by omega)]
  omega
theorem bx_quo_u64 {x y : Int} (hx : 0 ≤ x ∧ x ≤ 18446744073709551615) (hy : 0 < y) : IntKind.wrap .u64 (x.tdiv y) = x / y := by
  rw [Int.tdiv_eq_ediv_of_nonneg hx.1]
  have h1 := Int.ediv_nonneg hx.1 (Int.le_of_lt hy)
  have h2 := Int.ediv_le_self y hx.1
  exact IntWalk.u64_in _ (by omega)
theorem bx_not_u64 {x : Int} (hx : 0 ≤ x ∧ x ≤ 18446744073709551615) : IntKind.wrap .u64 ((BitVec.ofInt 64 18446744073709551615 ^^^ BitVec.ofInt 64 x).toNat : Int) = 18446744073709551615 - x := by
  have e : (BitVec.ofInt 64 18446744073709551615 ^^^ BitVec.ofInt 64 x) = ~~~ (BitVec.ofInt 64 x) := by
    rw [show (BitVec.ofInt 64 18446744073709551615) = BitVec.allOnes 64 from by decide, BitVec.allOnes_xor]
  rw [e, BitVec.toNat_not, ofInt_nat 64 x hx.1, BitVec.toNat_ofNat, Nat.mod_eq_of_lt (by omega)]
  rw [show ((2 ^ 64 - 1 - x.toNat : Nat) : Int) = 18446744073709551615 - x from by omega]
  exact IntWalk.u64_in _ (by omega)
theorem bx_xor_i64 {x y : Int} (hx : 0 ≤ x ∧ x ≤ 9223372036854775807) (hy : 0 ≤ y ∧ y ≤ 9223372036854775807) : IntKind.wrap .i64 ((BitVec.ofInt 64 x ^^^ BitVec.ofInt 64 y).toNat : Int) = ((x.toNat ^^^ y.toNat : Nat) : Int) := by
  rw [xor_bits ⟨hx.1, by omega⟩ ⟨hy.1, by omega⟩]
  have : x.toNat ^^^ y.toNat < 2 ^ 63 := Nat.xor_lt_two_pow (by omega) (by omega)
  exact IntWalk.i64_in _ (by omega)
theorem bx_or_i64 {x y : Int} (hx : 0 ≤ x ∧ x ≤ 9223372036854775807) (hy : 0 ≤ y ∧ y ≤ 9223372036854775807) : IntKind.wrap .i64 ((BitVec.ofInt 64 x ||| BitVec.ofInt 64 y).toNat : Int) = ((x.toNat ||| y.toNat : Nat) : Int) := by
  rw [or_bits ⟨hx.1, by omega⟩ ⟨hy.1, by omega⟩]
  have : x.toNat ||| y.toNat < 2 ^ 63 := Nat.or_lt_two_pow (by omega) (by omega)
  exact IntWalk.i64_in _ (by omega)
theorem bx_and_i64 {x y : Int} (hx : 0 ≤ x ∧ x ≤ 9223372036854775807) (hy : 0 ≤ y ∧ y ≤ 9223372036854775807) : IntKind.wrap .i64 ((BitVec.ofInt 64 x &&& BitVec.ofInt 64 y).toNat : Int) = ((x.toNat &&& y.toNat : Nat) : Int) := by
  rw [and_bits ⟨hx.1, by omega⟩ ⟨hy.1, by omega⟩]
  have : x.toNat &&& y.toNat ≤ x.toNat := Nat.and_le_left
  exact IntWalk.i64_in _ (by omega)
theorem bx_mask_i64 (m : Nat) (N : Int) {x y : Int} (hx : 0 ≤ x ∧ x ≤ 9223372036854775807) (hy : 0 ≤ y ∧ y ≤ 9223372036854775807) (hN : y + 1 = N) (hm : ((2 ^ m : Nat) : Int) = N) : IntKind.wrap .i64 ((BitVec.ofInt 64 x &&& BitVec.ofInt 64 y).toNat : Int) = x % N := by
  rw [bx_and_i64 hx hy, show y.toNat = 2 ^ m - 1 from by omega, Nat.and_two_pow_sub_one_eq_mod, ← hm]
  rw [Int.natCast_emod, Int.toNat_of_nonneg hx.1]
theorem bx_bit_i64 (m : Nat) {x y : Int} (hx : 0 ≤ x ∧ x ≤ 9223372036854775807) (hy : 0 ≤ y ∧ y ≤ 9223372036854775807) (hm : ((2 ^ m : Nat) : Int) = y) : IntKind.wrap .i64 ((BitVec.ofInt 64 x &&& BitVec.ofInt 64 y).toNat : Int) = x / y % 2 * y := by
  rw [bx_and_i64 hx hy, show y.toNat = 2 ^ m from by omega, and_bit, ← hm]
  rw [Int.natCast_mul, Int.natCast_emod, Int.natCast_ediv, Int.toNat_of_nonneg hx.1]; rfl
theorem bx_oradd_i64 (m : Nat) (N : Int) {x y : Int} (hx : 0 ≤ x ∧ x ≤ 9223372036854775807) (hy : 0 ≤ y ∧ y ≤ 9223372036854775807) (hm : ((2 ^ m : Nat) : Int) = N) (h1 : x % N = 0) (h2 : y < N) : IntKind.wrap .i64 ((BitVec.ofInt 64 x ||| BitVec.ofInt 64 y).toNat : Int) = x + y := by
  rw [bx_or_i64 hx hy, or_add m (by have e := congrArg Int.toNat h1; rw [← hm, ← Int.toNat_of_nonneg hx.1, ← Int.natCast_emod, Int.toNat_natCast] at e; exact e) (by omega)]
  omega
theorem bx_quo_i64 {x y : Int} (hx : 0 ≤ x ∧ x ≤ 9223372036854775807) (hy : 0 < y) : IntKind.wrap .i64 (x.tdiv y) = x / y := by
  rw [Int.tdiv_eq_ediv_of_nonneg hx.1]
  have h1 := Int.ediv_nonneg hx.1 (Int.le_of_lt hy)
  have h2 := Int.ediv_le_self y hx.1
  exact IntWalk.i64_in _ (by omega)
theorem bx_xor_i32 {x y : Int} (hx : 0 ≤ x ∧ x ≤ 2147483647) (hy : 0 ≤ y ∧ y ≤ 2147483647) : IntKind.wrap .i32 ((BitVec.ofInt 32 x ^^^ BitVec.ofInt 32 y).toNat : Int) = ((x.toNat ^^^ y.toNat : Nat) : Int) := by
  rw [xor_bits ⟨hx.1, by omega⟩ ⟨hy.1, by omega⟩]
  have : x.toNat ^^^ y.toNat < 2 ^ 31 := Nat.xor_lt_two_pow (by omega) (by omega)
  exact IntWalk.i32_in _ (by omega)
theorem bx_or_i32 {x y : Int} (hx : 0 ≤ x ∧ x ≤ 2147483647) (hy : 0 ≤ y ∧ y ≤ 2147483647) : IntKind.wrap .i32 ((BitVec.ofInt 32 x ||| BitVec.ofInt 32 y).toNat : Int) = ((x.toNat ||| y.toNat : Nat) : Int) := by
  rw [or_bits ⟨hx.1, by omega⟩ ⟨hy.1, by omega⟩]
  have : x.toNat ||| y.toNat < 2 ^ 31 := Nat.or_lt_two_pow (by omega) (by omega)
  exact IntWalk.i32_in _ (by omega)
theorem bx_and_i32 {x y : Int} (hx : 0 ≤ x ∧ x ≤ 2147483647) (hy : 0 ≤ y ∧ y ≤ 2147483647) : IntKind.wrap .i32 ((BitVec.ofInt 32 x &&& BitVec.ofInt 32 y).toNat : Int) = ((x.toNat &&& y.toNat : Nat) : Int) := by
  rw [and_bits ⟨hx.1, by omega⟩ ⟨hy.1, by omega⟩]
  have : x.toNat &&& y.toNat ≤ x.toNat := Nat.and_le_left
  exact IntWalk.i32_in _ (by omega)
theorem bx_mask_i32 (m : Nat) (N : Int) {x y : Int} (hx : 0 ≤ x ∧ x ≤ 2147483647) (hy : 0 ≤ y ∧ y ≤ 2147483647) (hN : y + 1 = N) (hm : ((2 ^ m : Nat) : Int) = N) : IntKind.wrap .i32 ((BitVec.ofInt 32 x &&& BitVec.ofInt 32 y).toNat : Int) = x % N := by
  rw [bx_and_i32 hx hy, show y.toNat = 2 ^ m - 1 from by omega, Nat.and_two_pow_sub_one_eq_mod, ← hm]
  rw [Int.natCast_emod, Int.toNat_of_nonneg hx.1]
theorem bx_bit_i32 (m : Nat) {x y : Int} (hx : 0 ≤ x ∧ x ≤ 2147483647) (hy : 0 ≤ y ∧ y ≤ 2147483647) (hm : ((2 ^ m : Nat) : Int) = y) : IntKind.wrap .i32 ((BitVec.ofInt 32 x &&& BitVec.ofInt 32 y).toNat : Int) = x / y % 2 * y := by
  rw [bx_and_i32 hx hy, show y.toNat = 2 ^ m from by omega, and_bit, ← hm]
  rw [Int.natCast_mul, Int.natCast_emod, Int.natCast_ediv, Int.toNat_of_nonneg hx.1]; rfl
theorem bx_oradd_i32 (m : Nat) (N : Int) {x y : Int} (hx : 0 ≤ x ∧ x ≤ 2147483647) (hy : 0 ≤ y ∧ y ≤ 2147483647) (hm : ((2 ^ m : Nat) : Int) = N) (h1 : x % N = 0) (h2 : y < N) : IntKind.wrap .i32 ((BitVec.ofInt 32 x ||| BitVec.ofInt 32 y).toNat : Int) = x + y := by
  rw [bx_or_i32 hx hy, or_add m (by have e := congrArg Int.toNat h1; rw [← hm, ← Int.toNat_of_nonneg hx.1, ← Int.natCast_emod, Int.toNat_natCast] at e; exact e) (by omega)]
  omega
theorem bx_quo_i32 {x y : Int} (hx : 0 ≤ x ∧ x ≤ 2147483647) (hy : 0 < y) : IntKind.wrap .i32 (x.tdiv y) = x / y := by
  rw [Int.tdiv_eq_ediv_of_nonneg hx.1]
  have h1 := Int.ediv_nonneg hx.1 (Int.le_of_lt hy)
  have h2 := Int.ediv_le_self y hx.1
  exact IntWalk.i32_in _ (by omega)
end Go.Vx

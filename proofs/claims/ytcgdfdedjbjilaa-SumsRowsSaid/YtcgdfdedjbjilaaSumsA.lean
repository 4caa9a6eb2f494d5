/- SumsA: the sums' functions, walked. -/
import Derived.Test.YtcgdfdedjbjilaaRows
import Derived.Test.YtcgdfdedjbjilaaSumsLaw
namespace Go.Proofs.Ytcgdfdedjbjilaa
open Go.RowKit Go.Bw Go.Bw.Sums

namespace SumsA

theorem step_code (x : Nat) (hx : x < 4294967296) (w : World) :
    Calls Try.prog 17 #[.int .u32 x] w fun e w' => e = .returned (.int .u32 (stp x : Nat)) ∧ w = w' := by
  have h1 : bits BinOp.and IntKind.u32 (x : Int) 1 = ((x % 2 : Nat) : Int) := by
    rw [show (1 : Int) = ((1 : Nat) : Int) from rfl, u32_and_nat x 1 hx (by omega), Nat.and_one_is_mod]
  have h2 : bits BinOp.xor IntKind.u32 ((x : Int) / 2) 3988292384 = ((x / 2 ^^^ 3988292384 : Nat) : Int) := by
    rw [show (3988292384 : Int) = ((3988292384 : Nat) : Int) from rfl, show (x : Int) / 2 = ((x / 2 : Nat) : Int) from by omega, u32_xor_nat _ _ (by omega) (by omega)]
  by_cases h : x % 2 = 1
  · have hfin : stp x = x / 2 ^^^ 3988292384 := by unfold stp; rw [if_pos h]
    have H := Lib.hid hfin; clear hfin
    have hb : (((x % 2 : Nat) : Int) == 1) = true := by rw [h]; rfl
    clear h
    go_enter Try.func17, Try.ntmps17
    go_wp2
    go_ret
    exact ⟨ret_int (by rw [H.out]), rfl⟩
  · have hfin : stp x = x / 2 := by unfold stp; rw [if_neg h]
    have H := Lib.hid hfin; clear hfin
    have hb : (((x % 2 : Nat) : Int) == 1) = false := by rw [beq_eq_false_iff_ne]; omega
    clear h
    go_enter Try.func17, Try.ntmps17
    go_wp2
    go_ret
    exact ⟨ret_int (by rw [H.out]; rfl), rfl⟩

theorem refstep_code (x : Nat) (hx : x < 4294967296) (w : World) :
    Calls Try.prog 18 #[.int .u32 x] w fun e w' => e = .returned (.int .u32 (stp x : Nat)) ∧ w = w' := by
  have h2 : bits BinOp.xor IntKind.u32 ((x : Int) / 2) 3988292384 = ((x / 2 ^^^ 3988292384 : Nat) : Int) := by
    rw [show (3988292384 : Int) = ((3988292384 : Nat) : Int) from rfl, show (x : Int) / 2 = ((x / 2 : Nat) : Int) from by omega, u32_xor_nat _ _ (by omega) (by omega)]
  by_cases h : x % 2 = 1
  · have hfin : stp x = x / 2 ^^^ 3988292384 := by unfold stp; rw [if_pos h]
    have H := Lib.hid hfin; clear hfin
    have hb : ((x : Int) % 2 == 1) = true := by rw [beq_iff_eq]; omega
    clear h
    go_enter Try.func18, Try.ntmps18
    go_wp2
    go_ret
    exact ⟨ret_int (by rw [H.out]), rfl⟩
  · have hfin : stp x = x / 2 := by unfold stp; rw [if_neg h]
    have H := Lib.hid hfin; clear hfin
    have hb : ((x : Int) % 2 == 1) = false := by rw [beq_eq_false_iff_ne]; omega
    clear h
    go_enter Try.func18, Try.ntmps18
    go_wp2
    go_ret
    exact ⟨ret_int (by rw [H.out]; rfl), rfl⟩

theorem row_code (i : Nat) (hi : i < 256) (w : World) :
    Calls Try.prog 20 #[.int .i64 i] w fun e w' => e = .returned (.int .u32 (trow i : Nat)) ∧ w = w' := by
  go_enter Try.func20, Try.ntmps20
  go_wp2
  go_loop [3, 4] (fun c k => ∃ n : Nat, n ≤ 8 ∧ k = .int .i64 n ∧ c = .int .u32 (stps n i : Nat)) (fun _ k => 8 - (intOf k).toNat)
  case atStart => exact ⟨0, by omega, rfl, rfl⟩
  case round =>
    obtain ⟨n, hn, rfl, rfl⟩ := hrel
    have hx := steps_lt n i (by omega)
    have HS := Lib.hid (steps_snoc n i)
    generalize hc : stps n i = c at *
    by_cases hlt : n < 8
    · go_wp2_with (go_at_call 18; refine (refstep_code c hx _).mono ?_; rintro e w' ⟨rfl, rfl⟩)
      go_round
      case rel => exact ⟨n + 1, by omega, by go_num, by rw [HS.out]⟩
      case measure => simp [intOf]; omega
    · have HC := Lib.hid hc; clear hc
      obtain rfl : n = 8 := by omega
      go_wp2
      go_ret
      exact ⟨by rw [← HC.out]; rfl, rfl⟩

/-- The cells of a table of which the first k stand. -/
def cells (k : Nat) : Array Value := ((List.range 256).map fun i => Value.int .u32 ((if i < k then trow i else 0 : Nat) : Int)).toArray

theorem cells_size (k : Nat) : (cells k).size = 256 := by simp [cells]
theorem cells_at (k j : Nat) (h : j < 256) : (cells k)[j]? = some (.int .u32 ((if j < k then trow j else 0 : Nat) : Int)) := by simp [cells, h]
theorem cells_set (k : Nat) : (cells k).setIfInBounds k (.int .u32 ((trow k : Nat) : Int)) = cells (k + 1) := by
  apply Array.ext_getElem?
  intro i
  rw [Array.getElem?_setIfInBounds]
  by_cases hi : i < 256
  · rw [cells_at (k + 1) i hi, cells_at k i hi, cells_size]
    by_cases e : k = i
    · subst e; simp [hi]
    · rw [if_neg e]
      have : (i < k) ↔ (i < k + 1) := by omega
      simp only [this]
  · rw [Array.getElem?_eq_none (by rw [cells_size]; omega), Array.getElem?_eq_none (by rw [cells_size]; omega)]
    split
    · rw [if_neg (by rw [cells_size]; omega)]
    · rfl
theorem zero25 (w : World) : Sem.run Try.prog (zeroValue 25) w = .ok (.agg (cells 0)) w := by kernel_rfl

set_option maxRecDepth 100000 in
theorem table_code (w : World) :
    Calls Try.prog 10 #[] w (Gives w (.agg (cells 256))) := by
  have hz := zero25
  go_enter Try.func10, Try.ntmps10
  go_wp2
  go_loopw [4] (fun k wr => ∃ n : Nat, n ≤ 256 ∧ k = .int .i64 n ∧ wr = w.alloc (.cells (cells n) 25)) (fun k _ => 256 - (intOf k).toNat)
  case atStart => exact ⟨0, by omega, rfl, rfl⟩
  case round =>
    obtain ⟨n, hn, rfl, rfl⟩ := hrel
    by_cases hlt : n < 256
    · have hdt : decide ((n : Int) < 256) = true := by simp; omega
      have hcx : (w.alloc (.cells (cells n) 25)).cell? ⟨w.heap.size, n, none⟩ = some (.int .u32 ((if n < n then trow n else 0 : Nat) : Int)) := by
        rw [(Block.new w (cells n) _).cell]; exact cells_at n n hlt
      have hbs : ∀ v, (w.alloc (.cells (cells n) 25)).setCell ⟨w.heap.size, n, none⟩ v = w.alloc (.cells ((cells n).setIfInBounds n v) 25) := fun v => World.setCell_alloc_at _ _ _ _ _ rfl
      have hcs := cells_set n
      go_wp2
      go_loop [3, 9] (fun c k => ∃ m : Nat, m ≤ 8 ∧ k = .int .i64 m ∧ c = .int .u32 (stps m n : Nat)) (fun _ k => 8 - (intOf k).toNat)
      case atStart => exact ⟨0, by omega, rfl, rfl⟩
      case round =>
        obtain ⟨m, hm, rfl, rfl⟩ := hrel
        have hx := steps_lt m n (by omega)
        have HS := Lib.hid (steps_snoc m n)
        have HC := Lib.hid (show m = 8 → stps m n = trow n from fun e => by rw [e]; rfl)
        generalize hc : stps m n = c at *
        by_cases hlt2 : m < 8
        · go_wp2_with (go_at_call 17; refine (step_code c hx _).mono ?_; rintro e w' ⟨rfl, rfl⟩)
          go_round
          case rel => exact ⟨m + 1, by omega, by go_num, by rw [HS.out]⟩
          case measure => simp [intOf]; omega
        · obtain rfl := HC.out (by omega)
          go_wp2
          go_roundw
          case rel => exact ⟨n + 1, by omega, by go_num, rfl⟩
          case measure => simp [intOf]; omega
    · obtain rfl : n = 256 := by omega
      go_wp2_with (first | (refine wpList_load_block rfl 25 _ rfl w.heap.size (cells 256) 25 rfl _ (Block.new w _ _) Try.underlying25 rfl (by kernel_rfl) ?_) | (refine wpList_store_block rfl 25 _ _ rfl w.heap.size (cells 256) (cells 256) 25 rfl rfl (Block.new w _ _) rfl (by kernel_rfl) (by kernel_rfl) ?_; intro w1 hb1 hg1 hz1))
      exact bodyPost_ret (results_block rfl _ w1 w.heap.size 25 (cells 256) _ rfl hb1 Try.underlying25 rfl (by kernel_rfl)) rfl ⟨rfl, below_grown ((Below.refl _ _).alloc (Nat.le_refl _) _) hg1 (Nat.le_refl _) (by simp)⟩

set_option maxRecDepth 100000 in
theorem reftable_code (w : World) :
    Calls Try.prog 16 #[] w (Gives w (.agg (cells 256))) := by
  have hz := zero25
  go_enter Try.func16, Try.ntmps16
  go_wp2
  go_loopw [2] (fun k wr => ∃ n : Nat, n ≤ 256 ∧ k = .int .i64 n ∧ wr = (w.alloc (.cells (cells 0) 25)).alloc (.cells (cells n) 25)) (fun k _ => 256 - (intOf k).toNat)
  case atStart => exact ⟨0, by omega, rfl, rfl⟩
  case round =>
    obtain ⟨n, hn, rfl, rfl⟩ := hrel
    have hz1 : (w.alloc (.cells (cells 0) 25)).heap.size = w.heap.size + 1 := by simp
    have hb := Block.new (w.alloc (.cells (cells 0) 25)) (cells n) 25
    rw [hz1] at hb
    by_cases hlt : n < 256
    · have hdt : decide ((n : Int) < 256) = true := by simp; omega
      have hcx := (hb.cell n).trans (cells_at n n hlt)
      have hfx := hb.frozen n
      have hbs : ∀ v, ((w.alloc (.cells (cells 0) 25)).alloc (.cells (cells n) 25)).setCell ⟨w.heap.size + 1, n, none⟩ v = (w.alloc (.cells (cells 0) 25)).alloc (.cells ((cells n).setIfInBounds n v) 25) := fun v => World.setCell_alloc_at _ _ _ _ _ (by simp)
      have hcs := cells_set n
      clear hz1
      go_wp2_with (go_at_call 20; refine (row_code n hlt _).mono ?_; rintro e w' ⟨rfl, rfl⟩)
      go_roundw
      case rel => exact ⟨n + 1, by omega, by go_num, rfl⟩
      case measure => simp [intOf]; omega
    · obtain rfl : n = 256 := by omega
      have hb0 := (Block.new w (cells 0) 25).alloc (.cells (cells 256) 25)
      go_wp2_with (first | (refine wpList_load_block rfl 25 _ rfl (w.heap.size + 1) (cells 256) 25 rfl _ hb Try.underlying25 rfl (by kernel_rfl) ?_) | (refine wpList_store_block rfl 25 _ _ rfl w.heap.size (cells 256) (cells 0) 25 rfl rfl hb0 rfl (by kernel_rfl) (by kernel_rfl) ?_; intro w1 hb1 hg1 hz1))
      exact bodyPost_ret (results_block rfl _ w1 w.heap.size 25 (cells 256) _ rfl hb1 Try.underlying25 rfl (by kernel_rfl)) rfl ⟨rfl, below_grown (((Below.refl _ _).alloc (Nat.le_refl _) _).alloc (by simp) _) hg1 (Nat.le_refl _) (by simp; omega)⟩

/-- A table as a value. -/
def tabv (ts : List Nat) : Array Value := (ts.map fun n : Nat => Value.int .u32 (n : Int)).toArray
theorem tabv_at (ts : List Nat) (i : Nat) (h : i < ts.length) : (tabv ts)[i]? = some (.int .u32 ((ts.getD i 0 : Nat) : Int)) := by
  simp [tabv, h]

theorem cells_tab : cells 256 = tabv tab := by
  apply Array.ext_getElem?
  intro i
  by_cases hi : i < 256
  · rw [cells_at 256 i hi, tabv_at tab i (by rw [tab_len]; exact hi), tab_get i hi, if_pos hi]
  · rw [Array.getElem?_eq_none (by rw [cells_size]; omega), Array.getElem?_eq_none (by rw [show (tabv tab).size = tab.length from by simp [tabv], tab_len]; omega)]

theorem not32 (s : Nat) (h : s < 4294967296) : bits BinOp.xor IntKind.u32 IntKind.u32.max (s : Int) = ((4294967295 - s : Nat) : Int) := by
  rw [show IntKind.u32.max = 4294967295 from rfl, show (4294967295 : Int) = ((4294967295 : Nat) : Int) from rfl, u32_xor_nat _ _ (by omega) h]
  congr 1
  apply Nat.eq_of_testBit_eq
  intro i
  rw [Nat.testBit_xor]
  by_cases hi : i < 32
  · have e : (4294967295 - s) = 2 ^ 32 - (s + 1) := by omega
    rw [e, Nat.testBit_two_pow_sub_succ (by omega), show (4294967295 : Nat) = 2 ^ 32 - 1 from rfl, Nat.testBit_two_pow_sub_one]
    simp [hi]
  · have a1 : (4294967295 : Nat).testBit i = false := Nat.testBit_lt_two_pow (Nat.lt_of_lt_of_le (by decide) (Nat.pow_le_pow_right (n := 2) (by omega) (show 32 ≤ i by omega)))
    have a2 : s.testBit i = false := Nat.testBit_lt_two_pow (Nat.lt_of_lt_of_le (show s < 2 ^ 32 by omega) (Nat.pow_le_pow_right (n := 2) (by omega) (show 32 ≤ i by omega)))
    have a3 : (4294967295 - s).testBit i = false := Nat.testBit_lt_two_pow (Nat.lt_of_lt_of_le (show 4294967295 - s < 2 ^ 32 by omega) (Nat.pow_le_pow_right (n := 2) (by omega) (show 32 ≤ i by omega)))
    rw [a1, a2, a3]; rfl

set_option maxRecDepth 100000 in
theorem crc_code (ts : List Nat) (hts : ts.length = 256) (htb : ∀ i, ts.getD i 0 < 4294967296) (s : Nat) (hs : s < 4294967296) (a : Option Addr) (cap : Nat) (bs : List UInt8) (w : World) (hr : BRow w a cap bs) :
    Calls Try.prog 9 #[.agg (tabv ts), .int .u32 s, .slice a bs.length cap] w (Gives w (.int .u32 (crc ts s bs : Nat))) := by
  have h1 := hr.le
  have hx := not32 s hs
  have hlt0 := crcL_lt ts htb
  have HF := Lib.hid (show crc ts s bs = 4294967295 - crcL ts (4294967295 - s) bs from rfl)
  generalize hL : tabv ts = T at *
  have HL := Lib.hid hL; clear hL
  generalize crc ts s bs = R at *
  go_enter Try.func9, Try.ntmps9
  go_wp2
  go_loop [1, 13] (fun c i => ∃ k : Nat, k ≤ bs.length ∧ i = .int .i64 k ∧ c = .int .u32 (crcL ts (4294967295 - s) (bs.take k) : Nat)) (fun _ i => bs.length - (intOf i).toNat)
  case atStart => exact ⟨0, Nat.zero_le _, rfl, rfl⟩
  case round =>
    obtain ⟨k, hk, rfl, rfl⟩ := hrel
    have hcb := hlt0 (bs.take k) (4294967295 - s) (by omega)
    clear hlt0
    generalize hc : crcL ts (4294967295 - s) (bs.take k) = c at *
    by_cases hlt : k < bs.length
    · obtain ⟨b, off, rfl, hb, hcell⟩ := hr.get k hlt
      have HN := Lib.hid (show crcL ts (4294967295 - s) (bs.take (k + 1)) = crcS ts c bs[k] from by rw [Bw.take_succ bs k hlt, crcL_snoc, hc])
      have HC := Lib.hid hc; clear hc
      generalize bs[k] = x at *
      have hxb := x.toNat_lt
      have hib : (c % 256) ^^^ x.toNat < 256 := Nat.xor_lt_two_pow (n := 8) (by omega) (by omega)
      have hi : bits BinOp.xor IntKind.u8 (((c : Nat) : Int) % 256) (x.toNat : Int) = ((((c % 256) ^^^ x.toNat) : Nat) : Int) := by
        rw [show ((c : Int) % 256) = ((c % 256 : Nat) : Int) from by omega]; exact u8_xor_nat _ _ (by omega) (by omega)
      have htb' := htb ((c % 256) ^^^ x.toNat)
      have hcT : (w.alloc (Obj.cells T 25)).cell? ⟨w.heap.size, (c % 256) ^^^ x.toNat, none⟩ = some (.int .u32 ((ts.getD ((c % 256) ^^^ x.toNat) 0 : Nat) : Int)) := by
        rw [(Block.new w T _).cell, ← HL.out]; exact tabv_at ts _ (by omega)
      have hR : bits BinOp.xor IntKind.u32 ((c : Int) / 256) ((ts.getD ((c % 256) ^^^ x.toNat) 0 : Nat) : Int) = ((crcS ts c x : Nat) : Int) := by
        rw [show (c : Int) / 256 = ((c / 256 : Nat) : Int) from by omega]; exact u32_xor_nat _ _ (by omega) htb'
      clear htb hr
      generalize ts.getD ((c % 256) ^^^ x.toNat) 0 = t at *
      generalize (c % 256) ^^^ x.toNat = j at *
      generalize crcS ts c x = c' at *
      go_wp2
      go_round
      case rel => exact ⟨k + 1, by omega, by go_num, by rw [HN.out]⟩
      case measure => simp [intOf]; omega
    · have e : bs.take k = bs := List.take_of_length_le (by omega)
      rw [e] at hc
      rw [hc] at HF
      have hn := not32 c hcb
      clear hc e htb
      go_wp2
      go_ret
      exact ⟨ret_int (by rw [HF.out]), (Below.refl _ _).alloc (Nat.le_refl _) _⟩

set_option maxRecDepth 100000 in
theorem refcrc_code (ts : List Nat) (hts : ts.length = 256) (htb : ∀ i, ts.getD i 0 < 4294967296) (s : Nat) (hs : s < 4294967296) (a : Option Addr) (cap : Nat) (bs : List UInt8) (w : World) (hr : BRow w a cap bs) :
    Calls Try.prog 14 #[.agg (tabv ts), .int .u32 s, .slice a bs.length cap] w (Gives w (.int .u32 (crc ts s bs : Nat))) := by
  have h1 := hr.le
  have hlt0 := crcL_lt ts htb
  have HF := Lib.hid (show crc ts s bs = 4294967295 - crcL ts (4294967295 - s) bs from rfl)
  generalize hL : tabv ts = T at *
  have HL := Lib.hid hL; clear hL
  generalize crc ts s bs = R at *
  go_enter Try.func14, Try.ntmps14
  go_wp2
  go_loop [7, 8] (fun c i => ∃ k : Nat, k ≤ bs.length ∧ i = .int .i64 k ∧ c = .int .u32 (crcL ts (4294967295 - s) (bs.take k) : Nat)) (fun _ i => bs.length - (intOf i).toNat)
  case atStart => exact ⟨0, Nat.zero_le _, rfl, congrArg _ (by simp [crcL]; omega)⟩
  case round =>
    obtain ⟨k, hk, rfl, rfl⟩ := hrel
    have hcb := hlt0 (bs.take k) (4294967295 - s) (by omega)
    clear hlt0
    generalize hc : crcL ts (4294967295 - s) (bs.take k) = c at *
    by_cases hlt : k < bs.length
    · obtain ⟨b, off, rfl, hb, hcell⟩ := hr.get k hlt
      have HN := Lib.hid (show crcL ts (4294967295 - s) (bs.take (k + 1)) = crcS ts c bs[k] from by rw [Bw.take_succ bs k hlt, crcL_snoc, hc])
      have HC := Lib.hid hc; clear hc
      generalize bs[k] = x at *
      have hxb := x.toNat_lt
      have hib : (c % 256) ^^^ x.toNat < 256 := Nat.xor_lt_two_pow (n := 8) (by omega) (by omega)
      have hi : bits BinOp.xor IntKind.i64 (((c : Nat) : Int) % 256) (x.toNat : Int) = ((((c % 256) ^^^ x.toNat) : Nat) : Int) := by
        rw [show ((c : Int) % 256) = ((c % 256 : Nat) : Int) from by omega]; exact i64_xor_nat _ _ (by omega) (by omega)
      have htb' := htb ((c % 256) ^^^ x.toNat)
      have hcT : (w.alloc (Obj.cells T 25)).cell? ⟨w.heap.size, (c % 256) ^^^ x.toNat, none⟩ = some (.int .u32 ((ts.getD ((c % 256) ^^^ x.toNat) 0 : Nat) : Int)) := by
        rw [(Block.new w T _).cell, ← HL.out]; exact tabv_at ts _ (by omega)
      have hR : bits BinOp.xor IntKind.u32 ((c : Int) / 256) ((ts.getD ((c % 256) ^^^ x.toNat) 0 : Nat) : Int) = ((crcS ts c x : Nat) : Int) := by
        rw [show (c : Int) / 256 = ((c / 256 : Nat) : Int) from by omega]; exact u32_xor_nat _ _ (by omega) htb'
      clear htb hr
      generalize ts.getD ((c % 256) ^^^ x.toNat) 0 = t at *
      generalize (c % 256) ^^^ x.toNat = j at *
      generalize crcS ts c x = c' at *
      go_wp2
      go_round
      case rel => exact ⟨k + 1, by omega, by go_num, by rw [HN.out]⟩
      case measure => simp [intOf]; omega
    · have e : bs.take k = bs := List.take_of_length_le (by omega)
      rw [e] at hc
      rw [hc] at HF
      clear hc e htb
      go_wp2
      go_ret
      exact ⟨ret_int (by rw [HF.out]; omega), (Below.refl _ _).alloc (Nat.le_refl _) _⟩

theorem or16 (h l : Nat) (hh : h < 65536) (hl : l < 65536) : bits BinOp.or IntKind.u32 ((h : Int) * 65536) (l : Int) = ((h * 65536 + l : Nat) : Int) := by
  rw [show (h : Int) * 65536 = ((h * 65536 : Nat) : Int) from by omega, u32_or_nat _ _ (by omega) (by omega), Nat.mul_comm h 65536]
  congr 1
  exact (Nat.two_pow_add_eq_or_of_lt (i := 16) (by omega) h).symm

set_option maxRecDepth 100000 in
theorem adler_code (s : Nat) (hs : s < 4294967296) (a : Option Addr) (cap : Nat) (bs : List UInt8) (w : World) (hr : BRow w a cap bs) :
    Calls Try.prog 13 #[.int .u32 s, .slice a bs.length cap] w (Gives w (.int .u32 (adler s bs : Nat))) := by
  have h1 := hr.le
  have hlt0 := fun l => adL_lt l (s % 65536, s / 65536) (by simp only; omega) (by simp only; omega)
  have HF := Lib.hid (show adler s bs = (adL (s % 65536, s / 65536) bs).2 * 65536 + (adL (s % 65536, s / 65536) bs).1 from rfl)
  have hm : bits BinOp.and IntKind.u32 (s : Int) 65535 = ((s % 65536 : Nat) : Int) := by
    rw [show (65535 : Int) = ((65535 : Nat) : Int) from rfl, u32_and_nat _ _ hs (by omega), show (65535 : Nat) = 2 ^ 16 - 1 from rfl, Nat.and_two_pow_sub_one_eq_mod]
  generalize adler s bs = R at *
  go_enter Try.func13, Try.ntmps13
  go_wp2
  go_loop [5, 6, 15] (fun l h i => ∃ k : Nat, k ≤ bs.length ∧ i = .int .i64 k ∧ l = .int .u32 ((adL (s % 65536, s / 65536) (bs.take k)).1 : Nat) ∧ h = .int .u32 ((adL (s % 65536, s / 65536) (bs.take k)).2 : Nat)) (fun _ _ i => bs.length - (intOf i).toNat)
  case atStart => exact ⟨0, Nat.zero_le _, rfl, rfl, rfl⟩
  case round =>
    obtain ⟨k, hk, rfl, rfl, rfl⟩ := hrel
    obtain ⟨hlb, hhb⟩ := hlt0 (bs.take k)
    clear hlt0
    generalize hp : adL (s % 65536, s / 65536) (bs.take k) = p at *
    obtain ⟨l, h⟩ := p
    simp only at *
    by_cases hlt : k < bs.length
    · obtain ⟨b, off, rfl, hb, hcell⟩ := hr.get k hlt
      have HN := Lib.hid (show adL (s % 65536, s / 65536) (bs.take (k + 1)) = adS (l, h) bs[k] from by rw [Bw.take_succ bs k hlt, adL_append, hp]; rfl)
      clear hp
      generalize bs[k] = x at *
      have hxb := x.toNat_lt
      clear hr
      go_wp2
      go_round
      case rel => exact ⟨k + 1, by omega, by go_num, by rw [HN.out]; unfold adS; go_num, by rw [HN.out]; unfold adS; go_num⟩
      case measure => simp [intOf]; omega
    · have e : bs.take k = bs := List.take_of_length_le (by omega)
      rw [e] at hp
      rw [hp] at HF
      have hG := or16 h l hhb hlb
      clear hp e
      go_wp2
      go_ret
      exact ⟨ret_int (by rw [HF.out]; omega), Below.refl _ _⟩

/-- A number under way down to its rest. -/
def Rest (t : Nat) (q : Value) : Prop := ∃ m : Nat, m < 200000 ∧ q = .int .u64 m ∧ m % 65521 = t % 65521

set_option maxRecDepth 100000 in
theorem refadler_code (s : Nat) (hs : s < 4294967296) (a : Option Addr) (cap : Nat) (bs : List UInt8) (w : World) (hr : BRow w a cap bs) :
    Calls Try.prog 15 #[.int .u32 s, .slice a bs.length cap] w (Gives w (.int .u32 (adler s bs : Nat))) := by
  have h1 := hr.le
  have hlt0 := fun l => adL_lt l (s % 65536, s / 65536) (by simp only; omega) (by simp only; omega)
  have HF := Lib.hid (show adler s bs = (adL (s % 65536, s / 65536) bs).2 * 65536 + (adL (s % 65536, s / 65536) bs).1 from rfl)
  generalize adler s bs = R at *
  go_enter Try.func15, Try.ntmps15
  go_wp2
  go_loop [5, 6, 7] (fun l h i => ∃ k : Nat, k ≤ bs.length ∧ i = .int .i64 k ∧ l = .int .u64 ((adL (s % 65536, s / 65536) (bs.take k)).1 : Nat) ∧ h = .int .u64 ((adL (s % 65536, s / 65536) (bs.take k)).2 : Nat)) (fun _ _ i => bs.length - (intOf i).toNat)
  case atStart => exact ⟨0, Nat.zero_le _, rfl, rfl, rfl⟩
  case round =>
    obtain ⟨k, hk, rfl, rfl, rfl⟩ := hrel
    obtain ⟨hlb, hhb⟩ := hlt0 (bs.take k)
    clear hlt0
    generalize hp : adL (s % 65536, s / 65536) (bs.take k) = p at *
    obtain ⟨l, h⟩ := p
    simp only at *
    by_cases hlt : k < bs.length
    · have hdt : decide ((k : Int) < (bs.length : Int)) = true := by simp; omega
      have hdt2 : decide (k < bs.length) = true := by simp; omega
      obtain ⟨b, off, rfl, hb, hcell⟩ := hr.get k hlt
      have HN := Lib.hid (show adL (s % 65536, s / 65536) (bs.take (k + 1)) = adS (l, h) bs[k] from by rw [Bw.take_succ bs k hlt, adL_append, hp]; rfl)
      clear hp
      generalize bs[k] = x at *
      have hxb := x.toNat_lt
      clear hr
      go_wp2
      go_loop [5] (fun q => Rest (l + x.toNat) q) (fun q => (intOf q).toNat)
      case atStart => exact ⟨l + x.toNat, by omega, by go_num, rfl⟩
      case round =>
        obtain ⟨m, hm, rfl, hmm⟩ := hrel
        have HM := Lib.hid hmm; clear hmm
        by_cases hge : 65521 ≤ m
        · have hge' : (65521 : Int) ≤ (m : Int) := by omega
          clear hge
          go_wp2
          go_round
          case rel => exact ⟨m - 65521, by omega, by go_num, by have := HM.out; omega⟩
          case measure => simp [intOf]; omega
        · have HM2 := Lib.hid (show m = (l + x.toNat) % 65521 from by have := HM.out; omega)
          have hge' : decide ((65521 : Int) ≤ (m : Int)) = false := by rw [decide_eq_false_iff_not]; omega
          clear hge
          go_wp2
          go_loop [6] (fun q => Rest (h + m) q) (fun q => (intOf q).toNat)
          case atStart => exact ⟨h + m, by have := HM2.out; omega, by go_num, rfl⟩
          case round =>
            obtain ⟨r, hr, rfl, hrr⟩ := hrel
            have HR := Lib.hid hrr; clear hrr
            by_cases hge2 : 65521 ≤ r
            · have hge2' : (65521 : Int) ≤ (r : Int) := by omega
              clear hge2
              go_wp2
              go_round
              case rel => exact ⟨r - 65521, by omega, by go_num, by have := HR.out; omega⟩
              case measure => simp [intOf]; omega
            · have HR2 := Lib.hid (show r = (h + (l + x.toNat) % 65521) % 65521 from by rw [← HM2.out]; have := HR.out; omega)
              have hge2' : decide ((65521 : Int) ≤ (r : Int)) = false := by rw [decide_eq_false_iff_not]; omega
              clear hge2
              go_wp2
              go_round
              case rel => exact ⟨k + 1, by omega, by go_num, by rw [HN.out, HM2.out]; rfl, by rw [HN.out, HR2.out]; rfl⟩
              case measure => simp [intOf]; omega
    · have e : bs.take k = bs := List.take_of_length_le (by omega)
      rw [e] at hp
      rw [hp] at HF
      clear hp e
      go_wp2
      go_ret
      exact ⟨ret_int (by rw [HF.out]; omega), Below.refl _ _⟩

set_option maxRecDepth 100000 in
theorem of_code (a : Option Addr) (cap : Nat) (bs : List UInt8) (w : World) (hr : BRow w a cap bs) :
    Calls Try.prog 11 #[.slice a bs.length cap] w (Gives w (.int .u32 (4294967295 - ofL 4294967295 bs : Nat))) := by
  have h1 := hr.le
  go_enter Try.func11, Try.ntmps11
  go_wp2
  go_loop [3, 4] (fun c i => ∃ k : Nat, k ≤ bs.length ∧ i = .int .i64 k ∧ c = .int .u32 (ofL 4294967295 (bs.take k) : Nat)) (fun _ i => bs.length - (intOf i).toNat)
  case atStart => exact ⟨0, Nat.zero_le _, rfl, rfl⟩
  case round =>
    obtain ⟨k, hk, rfl, rfl⟩ := hrel
    have hcb := ofL_lt (bs.take k) 4294967295 (by omega)
    generalize hc : ofL 4294967295 (bs.take k) = c at *
    by_cases hlt : k < bs.length
    · have hdt2 : decide (k < bs.length) = true := by simp; omega
      obtain ⟨b, off, rfl, hb, hcell⟩ := hr.get k hlt
      have HN := Lib.hid (show ofL 4294967295 (bs.take (k + 1)) = stps 8 (c ^^^ bs[k].toNat) from by rw [Bw.take_succ bs k hlt, ofL_snoc, hc])
      clear hc
      generalize bs[k] = x at *
      have hxb := x.toNat_lt
      have hX := u32_xor_nat c x.toNat hcb (by omega)
      have hyb : c ^^^ x.toNat < 4294967296 := Nat.xor_lt_two_pow (n := 32) (by omega) (by omega)
      generalize c ^^^ x.toNat = y at *
      go_wp2
      go_loop [3, 5] (fun q i => ∃ m : Nat, m ≤ 8 ∧ i = .int .i64 m ∧ q = .int .u32 (stps m y : Nat)) (fun _ i => 8 - (intOf i).toNat)
      case atStart => exact ⟨0, by omega, rfl, rfl⟩
      case round =>
        obtain ⟨m, hm, rfl, rfl⟩ := hrel
        have hx := steps_lt m y (by omega)
        have HS := Lib.hid (steps_snoc m y)
        have HC := Lib.hid (show m = 8 → stps m y = stps 8 y from fun e => by rw [e])
        generalize hd : stps m y = d at *
        by_cases hlt2 : m < 8
        · go_wp2_with (go_at_call 18; refine (refstep_code d hx _).mono ?_; rintro e w' ⟨rfl, rfl⟩)
          go_round
          case rel => exact ⟨m + 1, by omega, by go_num, by rw [HS.out]⟩
          case measure => simp [intOf]; omega
        · have HD := Lib.hid (HC.out (by omega)); clear hd
          go_wp2
          go_round
          case rel => exact ⟨k + 1, by omega, by go_num, by rw [HN.out, HD.out]⟩
          case measure => simp [intOf]; omega
    · have e : bs.take k = bs := List.take_of_length_le (by omega)
      rw [e] at hc
      have HF := Lib.hid hc
      clear hc e
      go_wp2
      go_ret
      exact ⟨ret_int (by rw [HF.out]; omega), Below.refl _ _⟩

theorem digits_code (w : World) : Calls Try.prog 19 #[] w (GivesB w digits) := by
  have kc := fun (w : World) (C : Array Value) (n c : Nat) => Lib.run_convert_bytes_const (P := Try.prog) w 22 5 C n c Try.underlying22 Try.underlying5
  go_enter Try.func19, Try.ntmps19
  go_wp2
  go_ret
  exact ⟨_, _, rfl, BRow.of_cells (fr := (9, 10)) (by rfl) (by decide), (Below.refl _ _).alloc (Nat.le_refl _) _⟩

theorem tablev_code (w : World) : Calls Try.prog 10 #[] w (Gives w (.agg (tabv tab))) := by
  rw [← cells_tab]; exact table_code w
theorem reftablev_code (w : World) : Calls Try.prog 16 #[] w (Gives w (.agg (tabv tab))) := by
  rw [← cells_tab]; exact reftable_code w

set_option maxRecDepth 100000 in
theorem alive_code (w : World) : Calls Try.prog 12 #[] w (Gives w (.bool true)) := by
  have e1 : (((crc tab 0 digits : Nat) : Int) == 3421780262) = true := by rw [alive_crc]; rfl
  have e2 : (((adler 1 digits : Nat) : Int) == 152961502) = true := by rw [alive_adler]; rfl
  generalize hd : digits = ds at *
  generalize hC : crc tab 0 ds = C at *
  generalize hA : adler 1 ds = A at *
  go_enter Try.func12, Try.ntmps12
  go_wp2_with fail
  refine (tablev_code _).mono ?_; rintro e w1 ⟨rfl, hb1⟩
  go_wp2_with fail
  refine (digits_code _).mono ?_; rintro e w2 ⟨a2, cap2, rfl, hr2, hb2⟩
  rw [hd] at hr2 ⊢
  go_wp2_with fail
  refine (crc_code tab tab_len tab_lt 0 (by omega) _ _ ds _ hr2).mono ?_; rintro e w3 ⟨rfl, hb3⟩
  rw [hC]
  go_wp2_with fail
  refine (digits_code _).mono ?_; rintro e w4 ⟨a4, cap4, rfl, hr4, hb4⟩
  rw [hd] at hr4 ⊢
  go_wp2_with fail
  refine (adler_code 1 (by omega) _ _ ds _ hr4).mono ?_; rintro e w5 ⟨rfl, hb5⟩
  rw [hA]
  go_wp2
  go_ret
  exact ⟨rfl, (((hb1.trans (hb2.mono hb1.size)).trans (hb3.mono (by have := hb1.size; have := hb2.size; omega))).trans (hb4.mono (by have := hb1.size; have := hb2.size; have := hb3.size; omega))).trans (hb5.mono (by have := hb1.size; have := hb2.size; have := hb3.size; have := hb4.size; omega))⟩

end SumsA
end Go.Proofs.Ytcgdfdedjbjilaa

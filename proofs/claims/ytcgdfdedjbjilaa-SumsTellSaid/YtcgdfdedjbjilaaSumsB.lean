/- SumsB: the laws over the sums, walked: plain regions. -/
import Derived.Test.YtcgdfdedjbjilaaSumsA
import Derived.Test.YtcgdfdedjbjilaaOpen
namespace Go.Proofs.Ytcgdfdedjbjilaa
open Go.RowKit Go.Bw Go.Bw.Sums SumsA
namespace SumsB

theorem below_three {w w1 w2 w3 : World} (h1 : Below w.heap.size w w1) (h2 : Below w1.heap.size w1 w2) (h3 : Below w2.heap.size w2 w3) : Below w.heap.size w w3 :=
  (h1.trans (h2.mono h1.size)).trans (h3.mono (Nat.le_trans h1.size h2.size))

set_option maxRecDepth 100000 in
theorem bits_walk {H : Type} (enc : TypeId × Value → H) {base : Nat} (w : World) (v0 : Value) (o0 : Value.okWide Try.prog w .any base 22 v0) (h0 : Tr enc Try.prog w 22 v0) :
    Calls Try.prog 3 #[v0] w (Gives w (.bool true)) := by
  obtain ⟨a, cap, bs, rfl, hr⟩ := open_bytes Try.underlying22 Try.underlying5 (by kernel_rfl) o0 h0
  clear o0 h0
  have hlen := hr.le
  by_cases hb : 20000 < bs.length
  · have hd : decide ((20000 : Int) < (bs.length : Int)) = true := by rw [decide_eq_true_eq]; omega
    go_enter Try.func3, Try.ntmps3
    go_wp2
    go_ret
    exact ⟨rfl, Below.refl _ _⟩
  · have hd : decide ((20000 : Int) < (bs.length : Int)) = false := by rw [decide_eq_false_iff_not]; omega
    have he : crc tab 0 bs = 4294967295 - ofL 4294967295 bs := by unfold crc; rw [ofL_eq]
    have HE := Lib.hid he; clear he
    clear hb
    go_enter Try.func3, Try.ntmps3
    go_wp2_with fail
    refine (tablev_code _).mono ?_; rintro e w1 ⟨rfl, hb1⟩
    have hr1 := hr.below hb1 rfl
    go_wp2_with fail
    refine (crc_code tab tab_len tab_lt 0 (by omega) _ _ bs _ hr1).mono ?_; rintro e w2 ⟨rfl, hb2⟩
    have hr2 := hr1.below hb2 rfl
    go_wp2_with fail
    refine (of_code _ _ bs _ hr2).mono ?_; rintro e w3 ⟨rfl, hb3⟩
    rw [HE.out]
    go_wp2
    go_ret
    exact ⟨rfl, below_three hb1 hb2 hb3⟩

theorem crc_at (t : Nat) (h : t < 256) : (tabv tab)[t]? = some (.int .u32 ((trow t : Nat) : Int)) := by rw [tabv_at tab t (by rw [tab_len]; exact h), tab_get t h]
theorem info25 : (Try.prog.info? 25).map (·.size) = some (tabv tab).size := by rw [show (tabv tab).size = 256 from by simp [tabv, tab_len]]; kernel_rfl
theorem one25 : (tabv tab).all (·.oneCell') = true := by
  rw [← cells_tab]; kernel_rfl

set_option maxRecDepth 100000 in
set_option maxHeartbeats 2000000 in
theorem names_walk (w : World) : Calls Try.prog 4 #[] w (Gives w (.bool true)) := by
  have hz := zero25
  have e0 := crc_at 0 (by omega)
  have e1 := crc_at 1 (by omega)
  have e2 := crc_at 128 (by omega)
  have e3 := crc_at 255 (by omega)
  have d0 : (((trow 0 : Nat) : Int) == 0) = true := by rw [show trow 0 = 0 from by decide +kernel]; rfl
  have d1 : (((trow 1 : Nat) : Int) == 1996959894) = true := by rw [show trow 1 = 1996959894 from by decide +kernel]; rfl
  have d2 : (((trow 128 : Nat) : Int) == 3988292384) = true := by rw [show trow 128 = 3988292384 from by decide +kernel]; rfl
  have d3 : (((trow 255 : Nat) : Int) == 755167117) = true := by rw [show trow 255 = 755167117 from by decide +kernel]; rfl
  generalize trow 0 = n0 at *
  generalize trow 1 = n1 at *
  generalize trow 128 = n2 at *
  generalize trow 255 = n3 at *
  have c1 : (((crc tab 0 [] : Nat) : Int) == 0) = true := by rw [show crc tab 0 [] = 0 from by decide +kernel]; rfl
  have c2 : (((adler 1 [] : Nat) : Int) == 1) = true := by rw [show adler 1 [] = 1 from by decide +kernel]; rfl
  have c3 : (((adler 0 [7] : Nat) : Int) == 458759) = true := by rw [show adler 0 [7] = 458759 from by decide +kernel]; rfl
  have hs : (cells 0).size = (tabv tab).size := by rw [cells_size, show (tabv tab).size = 256 from by simp [tabv, tab_len]]
  generalize hC1 : crc tab 0 [] = C1 at *
  generalize hC2 : adler 1 [] = C2 at *
  generalize hC3 : adler 0 [7] = C3 at *
  go_enter Try.func4, Try.ntmps4
  go_wp2_with fail
  refine (tablev_code _).mono ?_; rintro e w1 ⟨rfl, hb1⟩
  go_wp2_with (refine wpList_store_block rfl 25 _ _ rfl w1.heap.size (tabv tab) (cells 0) 25 rfl rfl (Block.new w1 _ _) hs info25 one25 ?_; intro w2 hB2 hg2 hz2)
  refine (alive_code _).mono ?_; rintro e w3 ⟨rfl, hb3⟩
  have hB3 := hB2.below hb3 hB2.lt
  have k0 := (hB3.cell 0).trans e0
  have k1 := (hB3.cell 1).trans e1
  have k2 := (hB3.cell 128).trans e2
  have k3 := (hB3.cell 255).trans e3
  clear e0 e1 e2 e3
  go_wp2_with fail
  refine wp_load_block 25 _ rfl w1.heap.size (tabv tab) 25 rfl _ hB3 Try.underlying25 rfl info25 ?_
  go_wp2_with fail
  refine (crc_code tab tab_len tab_lt 0 (by omega) _ _ [] _ (BRow.nil w3)).mono ?_; rintro e w4 ⟨rfl, hb4⟩
  clear k0 k1 k2 k3
  rw [hC1]
  go_wp2_with fail
  refine (adler_code 1 (by omega) _ _ [] _ (BRow.nil w4)).mono ?_; rintro e w5 ⟨rfl, hb5⟩
  rw [hC2]
  go_wp2_with fail
  refine (adler_code 0 (by omega) _ _ [7] _ (BRow.of_cells (w := w5) (fr := (0, 0)) (t := 5) (cs := #[.int .u8 7]) (by rfl) (by decide))).mono ?_; rintro e w6 ⟨rfl, hb6⟩
  rw [hC3]
  go_wp2
  go_ret
  exact ⟨rfl, bthen (bthenAlloc (bthen (bthen (bthen (bthenGrown (bthenAlloc hb1 _) hg2 hb1.size) hb3) hb4) hb5) _) hb6⟩

set_option maxRecDepth 100000 in
set_option maxHeartbeats 2000000 in
theorem rows_walk {H : Type} (enc : TypeId × Value → H) {base : Nat} (w : World) (v0 v1 : Value) (o0 : Value.okWide Try.prog w .any base 5 v0) (o1 : Value.okWide Try.prog w .any base 5 v1)
    (h0 : Tr enc Try.prog w 5 v0) (h1 : Tr enc Try.prog w 5 v1) :
    Calls Try.prog 8 #[v0, v1] w (Gives w (.bool true)) := by
  obtain ⟨i, rfl, wi⟩ := open_nat Try.underlying5 o0 h0
  obtain ⟨j, rfl, wj⟩ := open_nat Try.underlying5 o1 h1
  clear o0 h0 o1 h1
  obtain ⟨i0, i1⟩ := bounds_u8 wi
  obtain ⟨j0, j1⟩ := bounds_u8 wj
  obtain ⟨i, rfl⟩ := Int.eq_ofNat_of_zero_le i0
  obtain ⟨j, rfl⟩ := Int.eq_ofNat_of_zero_le j0
  clear wi wj i0 j0
  have hz := zero25
  have hx := u8_xor_nat i j (by omega) (by omega)
  have hxb : i ^^^ j < 256 := Nat.xor_lt_two_pow (n := 8) (by omega) (by omega)
  have hxi : (((i ^^^ j : Nat) : Int)) < 256 := by omega
  have ei := crc_at i (by omega)
  have ej := crc_at j (by omega)
  have ex := crc_at (i ^^^ j) hxb
  have hR := u32_xor_nat (trow i) (trow j) (row_lt i (by omega)) (row_lt j (by omega))
  rw [← row_xor] at hR
  have hi' : (i : Int) < 256 := by omega
  have hj' : (j : Int) < 256 := by omega
  have hs : (cells 0).size = (tabv tab).size := by rw [cells_size, show (tabv tab).size = 256 from by simp [tabv, tab_len]]
  generalize trow (i ^^^ j) = rx at *
  generalize trow i = ri at *
  generalize trow j = rj at *
  generalize i ^^^ j = x at *
  go_enter Try.func8, Try.ntmps8
  go_wp2_with fail
  refine (tablev_code _).mono ?_; rintro e w1 ⟨rfl, hb1⟩
  go_wp2_with (refine wpList_store_block rfl 25 _ _ rfl w1.heap.size (tabv tab) (cells 0) 25 rfl rfl (Block.new w1 _ _) hs info25 one25 ?_; intro w2 hB2 hg2 hz2)
  have k1 := (hB2.cell i).trans ei
  have k2 := (hB2.cell j).trans ej
  have k3 := (hB2.cell x).trans ex
  go_region_held3 (fun w' => Block w' w1.heap.size (tabv tab) 25 ∧ w'.cell? ⟨w1.heap.size, i, none⟩ = some (.int .u32 ri) ∧ w'.cell? ⟨w1.heap.size, j, none⟩ = some (.int .u32 rj) ∧ w'.cell? ⟨w1.heap.size, x, none⟩ = some (.int .u32 rx)) (first | exact ⟨hB2, k1, k2, k3⟩ | exact ⟨hB2.drew.below hb3 hB2.lt, (hb3.cell hB2.lt).trans k1, (hb3.cell hB2.lt).trans k2, (hb3.cell hB2.lt).trans k3⟩)
    (first | (go_at_call 12; refine (alive_code _).mono ?_; rintro e w3 ⟨rfl, hb3⟩))
  go_wp2
  go_ret
  exact ⟨rfl, bthen (bthenDrew (bthenGrown (bthenAlloc hb1 _) hg2 hb1.size)) hb3⟩
end SumsB
end Go.Proofs.Ytcgdfdedjbjilaa

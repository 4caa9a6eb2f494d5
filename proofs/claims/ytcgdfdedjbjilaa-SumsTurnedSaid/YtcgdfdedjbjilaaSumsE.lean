/- SumsE: SumsTurned, walked. -/
import Derived.Test.YtcgdfdedjbjilaaSumsD
import Derived.Test.YtcgdfdedjbjilaaSumsTurnLaw
import Derived.StillTailTactics
namespace Go.Proofs.Ytcgdfdedjbjilaa
open Go.RowKit Go.Bw Go.Bw.Sums SumsA SumsB SumsC SumsD
namespace SumsE

theorem owns_block {w : World} {base : Nat} {e : TypeId} {n : Nat} {v : Value} {xs : List Value} (h : w.ownsRow base e 1 v n xs) (hn : 0 < n) :
    ∃ g cap cur, v = .slice (some ⟨g, 0, none⟩) n cap ∧ base ≤ g ∧ Block w g cur e ∧ n ≤ cap ∧ cap ≤ 9223372036854775807 ∧ cur.size = cap ∧ cur.toList.take n = xs := by
  obtain ⟨hl, h | ⟨g, cap, cur, rfl, hg, hh, hnc, hm, hs, hx⟩⟩ := h
  · omega
  · exact ⟨g, cap, cur, rfl, hg, hh, hnc, by unfold maxLen at hm; omega, by omega, by simpa using hx⟩

/-- A row of bytes out of a block. -/
theorem BRow.of_block {w : World} {g cap : Nat} {cur : Array Value} {t : TypeId} {bs : List UInt8} (h : Block w g cur t) (hn : bs.length ≤ cap) (hm : cap ≤ 9223372036854775807) (hx : cur.toList.take bs.length = bs.map bv) :
    BRow w (some ⟨g, 0, none⟩) cap bs := by
  refine ⟨by simp, hn, hm, (fun h => by cases h), .inr ⟨g, 0, rfl, h.lt, fun i v hv => ?_⟩⟩
  rw [h.cell, Nat.zero_add, ← hv, ← hx, List.getElem?_take]
  split
  · simp
  · rename_i hi
    have hi' := (List.getElem?_eq_some_iff.1 hv).1
    simp at hi'; omega

theorem cells_of_take {cur : Array Value} {bs : List UInt8} (hx : cur.toList.take bs.length = bs.map bv) (i : Nat) (h : i < bs.length) : cur[i]? = some (.int .u8 ((bs[i]).toNat : Int)) := by
  have : (cur.toList.take bs.length)[i]? = some (bv bs[i]) := by rw [hx]; simp [h]
  rw [List.getElem?_take, if_pos h] at this
  rw [← Array.getElem?_toList]; exact this

theorem set_take {cur : Array Value} {bs : List UInt8} (hx : cur.toList.take bs.length = bs.map bv) (i : Nat) (x : UInt8) : (cur.setIfInBounds i (.int .u8 (x.toNat : Int))).toList.take (bs.set i x).length = (bs.set i x).map bv := by
  rw [List.length_set, Array.toList_setIfInBounds, List.take_set, hx, List.map_set]
  rfl

theorem open_four {H : Type} (enc : TypeId × Value → H) {base : Nat} (w : World) (v : Value) (o : Value.okWide Try.prog w .any base 33 v) (h : Tr enc Try.prog w 33 v) :
    ∃ y0 y1 y2 y3 : UInt8, v = .agg #[.int .u8 y0.toNat, .int .u8 y1.toNat, .int .u8 y2.toNat, .int .u8 y3.toNat] := by
  obtain ⟨zs, rfl, hl, hw⟩ := open_array Try.underlying33 Try.underlying5 (by kernel_rfl) (by kernel_rfl) o h
  match zs, hl with
  | [a, b, c, d], _ =>
    refine ⟨UInt8.ofNat a.toNat, UInt8.ofNat b.toNat, UInt8.ofNat c.toNat, UInt8.ofNat d.toNat, ?_⟩
    rw [byte_of a (hw a (by simp)), byte_of b (hw b (by simp)), byte_of c (hw c (by simp)), byte_of d (hw d (by simp))]
    simp

theorem keep6 {w0 w w' : World} {g b : Nat} {cs : List Value} {v0 v1 v2 v3 : Value} (h : Below w0.heap.size w0 w ∧ w.rangeAt g 0 cs ∧ w.cell? ⟨b, 0, none⟩ = some v0 ∧ w.cell? ⟨b, 1, none⟩ = some v1 ∧ w.cell? ⟨b, 2, none⟩ = some v2 ∧ w.cell? ⟨b, 3, none⟩ = some v3)
    (hb : Below w.heap.size w w') (hg : g < w0.heap.size) (hb0 : b < w0.heap.size) :
    Below w0.heap.size w0 w' ∧ w'.rangeAt g 0 cs ∧ w'.cell? ⟨b, 0, none⟩ = some v0 ∧ w'.cell? ⟨b, 1, none⟩ = some v1 ∧ w'.cell? ⟨b, 2, none⟩ = some v2 ∧ w'.cell? ⟨b, 3, none⟩ = some v3 := by
  obtain ⟨h1, h2, c0, c1, c2, c3⟩ := h
  have hlt : b < w.heap.size := Nat.lt_of_lt_of_le hb0 h1.size
  exact ⟨bthen h1 hb, rangeAt_below h2 hb (Nat.lt_of_lt_of_le hg h1.size), (hb.cell (p := ⟨b, 0, none⟩) hlt).trans c0, (hb.cell (p := ⟨b, 1, none⟩) hlt).trans c1, (hb.cell (p := ⟨b, 2, none⟩) hlt).trans c2, (hb.cell (p := ⟨b, 3, none⟩) hlt).trans c3⟩

theorem eql_four (y0 y1 y2 y3 : UInt8) (w : World) : (Op.equalIn 10000 33 (.agg #[.int .u8 y0.toNat, .int .u8 y1.toNat, .int .u8 y2.toNat, .int .u8 y3.toNat]) (.agg #[.int .u8 0, .int .u8 0, .int .u8 0, .int .u8 0])).run Try.prog w = .ok (decide ([y0, y1, y2, y3] = [0, 0, 0, 0])) w := by
  have e : ∀ y : UInt8, ((y.toNat : Int) == 0) = decide (y = 0) := by
    intro y
    rw [Bool.eq_iff_iff, beq_iff_eq, decide_eq_true_eq]
    constructor
    · intro h; exact UInt8.toNat_inj.1 (by simpa using h)
    · intro h; rw [h]; rfl
  have hp : ∀ (a b : Int) (w : World), (Op.equalIn 9999 5 (.int .u8 a) (.int .u8 b)).run Try.prog w = .ok (a == b) w := fun a b w => run_equalIn_int w 9998 _ _ _ a b Try.underlying5
  have h1 : ∀ w, Sem.run Try.prog (sizeOf 5) w = .ok 1 w := fun _ => by kernel_rfl
  rw [show (10000 : Nat) = 9999 + 1 from rfl, Op.equalIn]
  simp only [Sem.run_bind, run_underlying Try.underlying33, Result.andThen_ok, h1]
  have hq : ∀ (v0 v1 v2 v3 : Int) (w : World), Sem.run Try.prog (part 5 #[.int .u8 v0, .int .u8 v1, .int .u8 v2, .int .u8 v3] 0) w = .ok (.int .u8 v0) w ∧ Sem.run Try.prog (part 5 #[.int .u8 v0, .int .u8 v1, .int .u8 v2, .int .u8 v3] 1) w = .ok (.int .u8 v1) w ∧
      Sem.run Try.prog (part 5 #[.int .u8 v0, .int .u8 v1, .int .u8 v2, .int .u8 v3] 2) w = .ok (.int .u8 v2) w ∧ Sem.run Try.prog (part 5 #[.int .u8 v0, .int .u8 v1, .int .u8 v2, .int .u8 v3] 3) w = .ok (.int .u8 v3) w :=
    fun v0 v1 v2 v3 w => ⟨by kernel_rfl, by kernel_rfl, by kernel_rfl, by kernel_rfl⟩
  have q0 := fun v0 v1 v2 v3 w => (hq v0 v1 v2 v3 w).1
  have q1 := fun v0 v1 v2 v3 w => (hq v0 v1 v2 v3 w).2.1
  have q2 := fun v0 v1 v2 v3 w => (hq v0 v1 v2 v3 w).2.2.1
  have q3 := fun v0 v1 v2 v3 w => (hq v0 v1 v2 v3 w).2.2.2
  clear hq
  simp only [Std.Legacy.Range.forIn_eq_forIn_range', Std.Legacy.Range.size, List.range', List.forIn_cons, List.forIn_nil, Nat.mul_one, Nat.zero_add]
  by_cases c0 : y0 = 0 <;> by_cases c1 : y1 = 0 <;> by_cases c2 : y2 = 0 <;> by_cases c3 : y3 = 0 <;> simp [c0, c1, c2, c3, Sem.run_bind, Result.andThen_ok, q0, q1, q2, q3, hp, e, Sem.run_pure]

/-- What the law answers where it asks nothing. -/
theorem turned_early (s : Int) (a : Option Addr) (cap : Nat) (bs : List UInt8) (at' : Int) (by' : Array Value) (one : Int) (w : World) (hl : bs.length ≤ 9223372036854775807) (ha : -9223372036854775808 ≤ at' ∧ at' ≤ 9223372036854775807)
    (h : 10000 < bs.length ∨ (bs.length ≤ 10000 ∧ (at' < 0 ∨ (0 ≤ at' ∧ ((bs.length : Int) - 4 < at' ∨ (at' ≤ (bs.length : Int) - 4 ∧ bs.length < 4)))))) :
    Calls Try.prog 7 #[.int .u32 s, .slice a bs.length cap, .int .i64 at', .agg by', .int .u8 one] w (Gives w (.bool true)) := by
  have hb0 := bthenAlloc (Below.refl w.heap.size w) (.cells by' 33)
  rcases h with h | ⟨h0, h | ⟨h1, h | ⟨h2, h⟩⟩⟩
  · have hd : decide ((10000 : Int) < (bs.length : Int)) = true := by rw [decide_eq_true_eq]; omega
    go_enter Try.func7, Try.ntmps7
    go_wp2_with fail
    refine (alive_code _).mono ?_; rintro e w1 ⟨rfl, hb1⟩
    go_wp2
    go_ret
    exact ⟨rfl, bthen hb0 hb1⟩
  · have hd : decide ((10000 : Int) < (bs.length : Int)) = false := by rw [decide_eq_false_iff_not]; omega
    have hd1 : decide (at' < 0) = true := by rw [decide_eq_true_eq]; omega
    go_enter Try.func7, Try.ntmps7
    go_wp2_with fail
    refine (alive_code _).mono ?_; rintro e w1 ⟨rfl, hb1⟩
    go_wp2
    go_ret
    exact ⟨rfl, bthen hb0 hb1⟩
  · have hd : decide ((10000 : Int) < (bs.length : Int)) = false := by rw [decide_eq_false_iff_not]; omega
    have hd1 : decide (at' < 0) = false := by rw [decide_eq_false_iff_not]; omega
    have hd2 : decide ((bs.length : Int) - 4 < at') = true := by rw [decide_eq_true_eq]; omega
    go_enter Try.func7, Try.ntmps7
    go_wp2_with fail
    refine (alive_code _).mono ?_; rintro e w1 ⟨rfl, hb1⟩
    go_wp2
    go_ret
    exact ⟨rfl, bthen hb0 hb1⟩
  · have hd : decide ((10000 : Int) < (bs.length : Int)) = false := by rw [decide_eq_false_iff_not]; omega
    have hd1 : decide (at' < 0) = false := by rw [decide_eq_false_iff_not]; omega
    have hd2 : decide ((bs.length : Int) - 4 < at') = false := by rw [decide_eq_false_iff_not]; omega
    have hd3 : decide ((bs.length : Int) < 4) = true := by rw [decide_eq_true_eq]; omega
    go_enter Try.func7, Try.ntmps7
    go_wp2_with fail
    refine (alive_code _).mono ?_; rintro e w1 ⟨rfl, hb1⟩
    go_wp2
    go_ret
    exact ⟨rfl, bthen hb0 hb1⟩

/-- The loop's relation: k bytes are turned. -/
def TurnRel (gx kx : Nat) (bs : List UInt8) (a : Nat) (ys : List UInt8) (w1 : World) (i : Value) (wr : World) : Prop :=
  ∃ (k : Nat) (cu : Array Value), k ≤ 4 ∧ i = .int .i64 k ∧ Block wr gx cu 5 ∧ cu.size = kx ∧ cu.toList.take bs.length = (turnK bs a ys k).map bv ∧ Below w1.heap.size w1 wr

theorem four_at (y0 y1 y2 y3 : UInt8) (k : Nat) (h : k < 4) : (#[Value.int .u8 y0.toNat, .int .u8 y1.toNat, .int .u8 y2.toNat, .int .u8 y3.toNat] : Array Value)[k]? = some (.int .u8 (([y0, y1, y2, y3].getD k 0).toNat : Int)) := by
  match k, h with
  | 0, _ => rfl
  | 1, _ => rfl
  | 2, _ => rfl
  | 3, _ => rfl

set_option maxRecDepth 100000 in
set_option maxHeartbeats 8000000 in
theorem turned_walk {H : Type} (enc : TypeId × Value → H) {base : Nat} (w : World) (v0 v1 v2 v3 v4 : Value) (o0 : Value.okWide Try.prog w .any base 23 v0) (o1 : Value.okWide Try.prog w .any base 22 v1) (o2 : Value.okWide Try.prog w .any base 3 v2) (o3 : Value.okWide Try.prog w .any base 33 v3) (o4 : Value.okWide Try.prog w .any base 5 v4)
    (h0 : Tr enc Try.prog w 23 v0) (h1 : Tr enc Try.prog w 22 v1) (h2 : Tr enc Try.prog w 3 v2) (h3 : Tr enc Try.prog w 33 v3) (h4 : Tr enc Try.prog w 5 v4) :
    Calls Try.prog 7 #[v0, v1, v2, v3, v4] w (Gives w (.bool true)) := by
  obtain ⟨s, rfl, ws⟩ := open_nat Try.underlying23 o0 h0
  obtain ⟨p, kp, bs, rfl, hr⟩ := open_bytes Try.underlying22 Try.underlying5 (by kernel_rfl) o1 h1
  obtain ⟨at', rfl, wat⟩ := open_nat Try.underlying3 o2 h2
  obtain ⟨y0, y1, y2, y3, rfl⟩ := open_four enc w v3 o3 h3
  obtain ⟨one, rfl, wone⟩ := open_nat Try.underlying5 o4 h4
  clear o0 h0 o1 h1 o2 h2 o3 h3 o4 h4
  obtain ⟨s0, s1⟩ := bounds_u32 ws
  obtain ⟨a0, a1⟩ := bounds_i64 wat
  obtain ⟨s, rfl⟩ := Int.eq_ofNat_of_zero_le s0
  have hs : s < 4294967296 := by omega
  have hlen := hr.le
  by_cases hearly : 10000 < bs.length ∨ (bs.length ≤ 10000 ∧ (at' < 0 ∨ (0 ≤ at' ∧ ((bs.length : Int) - 4 < at' ∨ (at' ≤ (bs.length : Int) - 4 ∧ bs.length < 4)))))
  · exact turned_early _ _ _ _ _ _ _ _ (by omega) ⟨a0, a1⟩ hearly
  · have hbl : bs.length ≤ 10000 := by omega
    have ha0 : 0 ≤ at' := by omega
    have ha4 : at' + 4 ≤ bs.length := by omega
    clear hearly
    obtain ⟨a, rfl⟩ := Int.eq_ofNat_of_zero_le ha0
    have ha5 : a + 4 ≤ bs.length := by omega
    obtain ⟨n0, n1⟩ := bounds_u8 wone
    obtain ⟨on, rfl⟩ : ∃ on : UInt8, one = on.toNat := ⟨UInt8.ofNat one.toNat, (byte_of one wone).symm⟩
    have hd : decide ((10000 : Int) < (bs.length : Int)) = false := by rw [decide_eq_false_iff_not]; omega
    have hd1 : decide ((a : Int) < 0) = false := by rw [decide_eq_false_iff_not]; omega
    have hd2 : decide ((bs.length : Int) - 4 < (a : Int)) = false := by rw [decide_eq_false_iff_not]; omega
    have hd3 : decide ((bs.length : Int) < 4) = false := by rw [decide_eq_false_iff_not]; omega
    clear ws s0 s1 wat a0 a1 ha0 ha4 n0 n1 wone
    have hb0 := bthenAlloc (Below.refl w.heap.size w) (.cells #[.int .u8 y0.toNat, .int .u8 y1.toNat, .int .u8 y2.toNat, .int .u8 y3.toNat] 33)
    have hBy := Block.new w #[.int .u8 y0.toNat, .int .u8 y1.toNat, .int .u8 y2.toNat, .int .u8 y3.toNat] 33
    have hr0 := hr.below hb0 rfl
    obtain ⟨i0, hi, hz0, hz1, hz2⟩ := info_parts infoB
    have HL := Lib.hid hlen; clear hlen
    go_enter Try.func7, Try.ntmps7
    go_wp2_with fail
    refine (alive_code _).mono ?_; rintro e w1 ⟨rfl, hb1⟩
    have hr1 := hr0.below hb1 rfl
    have hBy1 := hBy.below hb1 hBy.lt
    have hlt0 : w.heap.size < w1.heap.size := hBy1.lt
    have hb01 := bthen hb0 hb1
    clear hBy hr0 hb0 hb1
    go_wp2_with (refine wpList_append_row rfl _ _ 22 rfl w1.heap.size 5 i0 (.int .u8 0) 1 1 Try.underlying22 hi hz0 hz1 hz2 rfl (by decide) (.slice none 0 0) 0 [] rfl (World.ownsRow_nil _ _ _ _) _ _ _ (bs.map bv) rfl hr1 (one_bv bs) (by omega) (by decide) (Nat.le_refl _) ?_; intro v2 w2 hown2 hg2 _)
    rw [Nat.zero_add] at hown2
    obtain ⟨gx, kx, cur, rfl, hgx, hB2, hnk, hkm, hcs, hct⟩ := owns_block hown2 (by omega)
    have hb2 : Below w1.heap.size w1 w2 := (Below.refl _ _).grown hg2 (Nat.le_refl _) (fun k hk => by cases hk)
    clear hown2 hg2
    rw [List.nil_append] at hct
    have HB := Lib.hid (show turnK bs a [y0, y1, y2, y3] 0 = bs from turnK_zero _ _ _)
    go_wp2
    go_loopw [13] (fun i wr => TurnRel gx kx bs a [y0, y1, y2, y3] w1 i wr) (fun i _ => 4 - (intOf i).toNat)
    case atStart => exact ⟨0, cur, by omega, rfl, hB2, hcs, by rw [HB.out]; exact hct, hb2⟩
    case round =>
      obtain ⟨k, cu, hk, rfl, hBr, hcs', hct', hbel⟩ := hrel
      clear hB2 hcs hct hb2
      by_cases hlt : k < 4
      · have hdt : decide ((k : Int) < 4) = true := by rw [decide_eq_true_eq]; omega
        have hkl : a + k < bs.length := by omega
        have hc1 : wr.cell? ⟨gx, a + k, none⟩ = some (.int .u8 ((bs[a + k]).toNat : Int)) := (hBr.cell (a + k)).trans (by
          rw [cells_of_take (cur := cu) (bs := turnK bs a [y0, y1, y2, y3] k) (by rw [turnK_length]; exact hct') (a + k) (by rw [turnK_length]; exact hkl)]
          have := turnK_at bs a [y0, y1, y2, y3] k (a + k) hkl
          rw [List.getElem?_eq_getElem (by rw [turnK_length]; exact hkl), if_neg (by omega)] at this
          rw [Option.some.inj this])
        have hf1 := hBr.frozen (a + k)
        have hc2 := ((hBy1.below hbel hlt0).cell k).trans (four_at y0 y1 y2 y3 k hlt)
        have HS := Lib.hid (turnK_set bs a [y0, y1, y2, y3] k hkl)
        generalize bs[a + k] = x at *
        generalize [y0, y1, y2, y3].getD k 0 = y at *
        have hx1 := x.toNat_lt
        have hy1 := y.toNat_lt
        have hxy : bits BinOp.xor IntKind.u8 (x.toNat : Int) (y.toNat : Int) = ((x ^^^ y).toNat : Int) := by
          rw [UInt8.toNat_xor]; exact u8_xor_nat _ _ (by omega) (by omega)
        have hka : (k : Int) < 4 := by omega
        have hi1 : (a : Int) + (k : Int) < (bs.length : Int) := by omega
        have hs1 : IntKind.i64.wrap ((a : Int) + (k : Int)) = (a : Int) + (k : Int) := IntWalk.i64_in _ (by omega)
        have hs2 : (0 : Int) ≤ (a : Int) + (k : Int) := by omega
        have hs3 : ((a : Int) + (k : Int)).toNat = a + k := by omega
        go_wp2
        go_still_tail 15, (by kernel_rfl)
        change wpList _ _ _ _ _ wr.drew
        clear hs1 hs2 hs3
        go_wp2
        go_roundw
        case rel =>
          refine ⟨k + 1, cu.setIfInBounds (a + k) (.int .u8 ((x ^^^ y).toNat : Int)), by omega, by go_num, hBr.set _ _, by simpa using hcs', ?_, (hbel.setCell (p := ⟨gx, a + k, none⟩) hgx _).drew⟩
          have := set_take (cur := cu) (bs := turnK bs a [y0, y1, y2, y3] k) (by rw [turnK_length]; exact hct') (a + k) (x ^^^ y)
          rw [HS.out, turnK_length] at this
          exact this
        case measure => simp [intOf]; omega
      · obtain rfl : k = 4 := by omega
        have hbr := hr1.below hbel rfl
        have hlx := hBr.lt
        have hal : a < bs.length := by omega
        have hia : (a : Int) < (bs.length : Int) := by omega
        have hxy : bits BinOp.xor IntKind.u8 ((bs[a]).toNat : Int) (on.toNat : Int) = ((bs[a] ^^^ on).toNat : Int) := by
          rw [UInt8.toNat_xor]; exact u8_xor_nat _ _ (UInt8.toNat_lt _) (UInt8.toNat_lt _)
        have hzz := zero25
        go_wp2_with (first | (refine wpList_append_row rfl _ _ 22 rfl w1.heap.size 5 i0 (.int .u8 0) 1 1 Try.underlying22 hi hz0 hz1 hz2 rfl (by decide) (.slice none 0 0) 0 [] rfl (World.ownsRow_nil _ _ _ _) _ _ _ (bs.map bv) rfl hbr (one_bv bs) (by omega) (by decide) hbel.size ?_; intro v3 w3 hown3 hg3 hat3; rw [Nat.zero_add, List.nil_append] at hown3; obtain ⟨gy, ky, cy, rfl, hgy, hB3, hny, hky, hcy, hty⟩ := owns_block hown3 (by omega); have hcb := (hB3.cell a).trans (cells_of_take hty a hal); have hfb := hB3.frozen a))
        have hgy' : gy = wr.heap.size := by
          rcases hat3 with h | h
          · simp [Value.ownBlock] at h
          · simpa [Value.ownBlock] using h
        have hne : gx ≠ gy := by omega
        have hBx3 : Block w3 gx cu 5 := hBr.grown hg3 (by simp [Value.ownBlock])
        have hbel3 : Below w1.heap.size w1 w3 := hbel.grown hg3 hbel.size (fun k hk => by cases hk)
        have hbel4 : Below w1.heap.size w1 (w3.setCell ⟨gy, a, none⟩ (.int .u8 ((bs[a].toNat ^^^ on.toNat : Nat) : Int))) := hbel3.setCell hgy _
        have hBx4 : Block (w3.setCell ⟨gy, a, none⟩ (.int .u8 ((bs[a].toNat ^^^ on.toNat : Nat) : Int))) gx cu 5 := hBx3.set_other _ _ hne
        have hBy4 : Block (w3.setCell ⟨gy, a, none⟩ (.int .u8 ((bs[a].toNat ^^^ on.toNat : Nat) : Int))) gy (cy.setIfInBounds a (.int .u8 ((bs[a].toNat ^^^ on.toNat : Nat) : Int))) 5 := hB3.set _ _
        have hty4 := set_take hty a (bs[a] ^^^ on)
        rw [UInt8.toNat_xor] at hty4
        clear hat3 hg3 hBx3 hbel3 hB3 hfb hcb hxy hBr hown3
        have hX : (cu.toList.take (turnK bs a [y0, y1, y2, y3] 4).length) = (turnK bs a [y0, y1, y2, y3] 4).map bv := by rw [turnK_length]; exact hct'
        have eC := crc_turn s bs a [y0, y1, y2, y3] ha5 hs rfl
        have eA := adler_turn bs a on hal
        have lX : (turnK bs a [y0, y1, y2, y3] 4).length = bs.length := turnK_length _ _ _ _
        have lY : (bs.set a (bs[a] ^^^ on)).length = bs.length := List.length_set ..
        generalize turnK bs a [y0, y1, y2, y3] 4 = X at *
        generalize bs.set a (bs[a] ^^^ on) = Y at *
        generalize Value.int .u8 ((bs[a].toNat ^^^ on.toNat : Nat) : Int) = vy at *
        generalize hw4 : w3.setCell ⟨gy, a, none⟩ vy = w4 at *
        have cx := fun a cap w h => crc_code tab tab_len tab_lt s hs a cap X w h
        have cb := fun a cap w h => crc_code tab tab_len tab_lt s hs a cap bs w h
        have dx := fun a cap w h => adler_code 1 (by omega) a cap Y w h
        have db := fun a cap w h => adler_code 1 (by omega) a cap bs w h
        rw [lX] at cx
        rw [lY] at dx
        have heq := eql_four y0 y1 y2 y3
        have hE : (((crc tab s X : Nat) : Int) == ((crc tab s bs : Nat) : Int)) = decide ([y0, y1, y2, y3] = [0, 0, 0, 0]) := by
          rw [Bool.eq_iff_iff, beq_iff_eq, decide_eq_true_eq, ← eC]; omega
        have hE' : (((adler 1 Y : Nat) : Int) == ((adler 1 bs : Nat) : Int)) = decide (on = 0) := by
          rw [Bool.eq_iff_iff, beq_iff_eq, decide_eq_true_eq, ← eA]; omega
        have hon : ((on.toNat : Int) == 0) = decide (on = 0) := by
          rw [Bool.eq_iff_iff, beq_iff_eq, decide_eq_true_eq]
          constructor
          · intro h; exact UInt8.toNat_inj.1 (by simpa using h)
          · intro h; rw [h]; rfl
        clear eC eA
        generalize crc tab s X = C1 at *
        generalize crc tab s bs = C2 at *
        generalize adler 1 Y = A1 at *
        generalize adler 1 bs = A2 at *
        generalize decide ([y0, y1, y2, y3] = [0, 0, 0, 0]) = E1 at *
        generalize decide (on = 0) = E2 at *
        have CX := Lib.hid cx
        have CB := Lib.hid cb
        have DX := Lib.hid dx
        have DB := Lib.hid db
        have LX := Lib.hid lX
        have LY := Lib.hid lY
        clear cx cb dx db lX lY
        refine (tablev_code _).mono ?_; rintro e w5 ⟨rfl, hb5⟩
        have hs5 : (cells 0).size = (tabv tab).size := by rw [cells_size, show (tabv tab).size = 256 from by simp [tabv, tab_len]]
        go_wp2_with (refine wpList_store_block rfl 25 _ _ rfl w5.heap.size (tabv tab) (cells 0) 25 rfl rfl (Block.new w5 _ _) hs5 info25 one25 ?_; intro w6 hB6 hg6 hz6)
        simp only [Act.put, List.setIfInBounds_toArray, List.set_cons_zero, List.set_cons_succ]
        have hb46 : Below w4.heap.size w4 w6 := bthenGrown (bthenAlloc hb5 _) hg6 hb5.size
        have hb16 : Below w1.heap.size w1 w6 := bthen hbel4 hb46
        have hlt5 : w5.heap.size < w6.heap.size := hB6.lt
        have hlt06 : w.heap.size < w6.heap.size := Nat.lt_of_lt_of_le hlt0 hb16.size
        have hx : BRow w6 (some ⟨gx, 0, none⟩) kx X := BRow.of_block (hBx4.below hb46 hBx4.lt) (by rw [LX.out]; exact hnk) hkm hX
        have hyr : BRow w6 (some ⟨gy, 0, none⟩) ky Y := BRow.of_block (hBy4.below hb46 hBy4.lt) (by rw [LY.out]; exact hny) hky hty4
        have hbb : BRow w6 p kp bs := hr1.below hb16 rfl
        have hBy6 := hBy1.below hb16 hlt0
        have g0 := (hBy6.cell 0).trans (four_at y0 y1 y2 y3 0 (by omega))
        have g1 := (hBy6.cell 1).trans (four_at y0 y1 y2 y3 1 (by omega))
        have g2 := (hBy6.cell 2).trans (four_at y0 y1 y2 y3 2 (by omega))
        have g3 := (hBy6.cell 3).trans (four_at y0 y1 y2 y3 3 (by omega))
        have hTl := info_tabl tab tab_len
        have hu := Try.underlying25
        rw [tabv_l] at *
        clear hz6 hg6 hBx4 hBy4 hX hty4 hty hct' hcy hBy1 hzz hs5 hb5 hbr hcs'
        refine wp_region_held_drew (S := fun w' => Below w6.heap.size w6 w' ∧ w'.rangeAt w5.heap.size 0 (tabl tab) ∧ w'.cell? ⟨w.heap.size, 0, none⟩ = some (.int .u8 y0.toNat) ∧ w'.cell? ⟨w.heap.size, 1, none⟩ = some (.int .u8 y1.toNat) ∧ w'.cell? ⟨w.heap.size, 2, none⟩ = some (.int .u8 y2.toNat) ∧ w'.cell? ⟨w.heap.size, 3, none⟩ = some (.int .u8 y3.toNat)) (by kernel_rfl) ?_ (fun hHeld => ?_)
        · exact ⟨bthenDrew (Below.refl _ _), rangeAt_block hB6, g0, g1, g2, g3⟩
        refine wpAnyH_take (i := 0) (v := .agg (tabl tab).toArray) rfl (by kernel_rfl) (by kernel_rfl) (by kernel_rfl) (fun _ _ _ h => h) (yieldsIf_load_mid (by rfl) _ _ rfl _ _ rfl (tabl tab) _ (fun w h => h.2.1) hu rfl hTl) hHeld ?_
        try simp only [List.getElem_toArray, List.getElem_cons_zero, List.getElem_cons_succ, Act.put, List.setIfInBounds_toArray, List.set_cons_zero, List.set_cons_succ]
        refine wpAnyH_take (i := 4) (v := .agg (tabl tab).toArray) rfl (by kernel_rfl) (by kernel_rfl) (by kernel_rfl) (fun _ _ _ h => h) (yieldsIf_load_mid (by rfl) _ _ rfl _ _ rfl (tabl tab) _ (fun w h => h.2.1) hu rfl hTl) hHeld ?_
        try simp only [List.getElem_toArray, List.getElem_cons_zero, List.getElem_cons_succ, Act.put, List.setIfInBounds_toArray, List.set_cons_zero, List.set_cons_succ]
        refine wpAnyH_take (i := 1) (v := ?vr1) rfl (by kernel_rfl) (by kernel_rfl) (by kernel_rfl) (fun _ _ _ h => h) (Or.inl ⟨by rfl, ?yr1⟩) hHeld ?kr1
        case yr1 => (intro w hSw; (try dsimp only at hSw); go_simp; (try with_reducible rfl))
        try simp only [List.getElem_toArray, List.getElem_cons_zero, List.getElem_cons_succ, Act.put, List.setIfInBounds_toArray, List.set_cons_zero, List.set_cons_succ]
        refine wpAnyH_take (i := 2) (v := ?vr2) rfl (by kernel_rfl) (by kernel_rfl) (by kernel_rfl) (fun _ _ _ h => h) (Or.inl ⟨by rfl, ?yr2⟩) hHeld ?kr2
        case yr2 => (intro w hSw; (try dsimp only at hSw); go_simp; (try with_reducible rfl))
        try simp only [List.getElem_toArray, List.getElem_cons_zero, List.getElem_cons_succ, Act.put, List.setIfInBounds_toArray, List.set_cons_zero, List.set_cons_succ]
        refine wpAnyH_take (i := 5) (v := ?vr5) rfl (by kernel_rfl) (by kernel_rfl) (by kernel_rfl) (fun _ _ _ h => h) (Or.inl ⟨by rfl, ?yr5⟩) hHeld ?kr5
        case yr5 => (intro w hSw; (try dsimp only at hSw); go_simp; (try with_reducible rfl))
        try simp only [List.getElem_toArray, List.getElem_cons_zero, List.getElem_cons_succ, Act.put, List.setIfInBounds_toArray, List.set_cons_zero, List.set_cons_succ]
        refine wpAnyH_take (i := 6) (v := ?vr6) rfl (by kernel_rfl) (by kernel_rfl) (by kernel_rfl) (fun _ _ _ h => h) (Or.inl ⟨by rfl, ?yr6⟩) hHeld ?kr6
        case yr6 => (intro w hSw; (try dsimp only at hSw); go_simp; (try with_reducible rfl))
        try simp only [List.getElem_toArray, List.getElem_cons_zero, List.getElem_cons_succ, Act.put, List.setIfInBounds_toArray, List.set_cons_zero, List.set_cons_succ]
        refine wpAnyH_take (i := 9) (v := ?vr9) rfl (by kernel_rfl) (by kernel_rfl) (by kernel_rfl) (fun _ _ _ h => h) (Or.inl ⟨by rfl, ?yr9⟩) hHeld ?kr9
        case yr9 => (intro w hSw; (try dsimp only at hSw); go_simp; (try with_reducible rfl))
        try simp only [List.getElem_toArray, List.getElem_cons_zero, List.getElem_cons_succ, Act.put, List.setIfInBounds_toArray, List.set_cons_zero, List.set_cons_succ]
        refine wpAnyH_take (i := 10) (v := ?vr10) rfl (by kernel_rfl) (by kernel_rfl) (by kernel_rfl) (fun _ _ _ h => h) (Or.inl ⟨by rfl, ?yr10⟩) hHeld ?kr10
        case yr10 => (intro w hSw; (try dsimp only at hSw); go_simp; (try with_reducible rfl))
        try simp only [List.getElem_toArray, List.getElem_cons_zero, List.getElem_cons_succ, Act.put, List.setIfInBounds_toArray, List.set_cons_zero, List.set_cons_succ]
        refine wpAnyH_take (i := 11) (v := ?vr11) rfl (by kernel_rfl) (by kernel_rfl) (by kernel_rfl) (fun _ _ _ h => h) (Or.inl ⟨by rfl, ?yr11⟩) hHeld ?kr11
        case yr11 => (intro w hSw; (try dsimp only at hSw); go_simp; (try with_reducible rfl))
        try simp only [List.getElem_toArray, List.getElem_cons_zero, List.getElem_cons_succ, Act.put, List.setIfInBounds_toArray, List.set_cons_zero, List.set_cons_succ]
        refine wpAnyH_ready (rs := [3]) (by kernel_rfl) (by simp) (AllReadyH.cons rfl (fun K hK => ?_) AllReadyH.nil)
        simp only [List.getElem_toArray, List.getElem_cons_zero, List.getElem_cons_succ]
        rw [if_pos (by rfl)]
        go_wp2_with fail
        refine (CX.out _ _ _ (hx.below hHeld.1 rfl)).mono ?_; rintro e w9 ⟨rfl, hb⟩
        dsimp only
        refine hK.out _ _ ?_ (fun hHeld2 => ?_)
        · exact keep6 hHeld hb hlt5 hlt06
        clear hHeld hK K
        have hHeld := hHeld2
        clear hHeld2
        try simp only [List.getElem_toArray, List.getElem_cons_zero, List.getElem_cons_succ, Act.put, List.setIfInBounds_toArray, List.set_cons_zero, List.set_cons_succ]
        refine wpAnyH_ready (rs := [7]) (by kernel_rfl) (by simp) (AllReadyH.cons rfl (fun K hK => ?_) AllReadyH.nil)
        simp only [List.getElem_toArray, List.getElem_cons_zero, List.getElem_cons_succ]
        rw [if_pos (by rfl)]
        go_wp2_with fail
        refine (CB.out _ _ _ (hbb.below hHeld.1 rfl)).mono ?_; rintro e w9 ⟨rfl, hb⟩
        dsimp only
        refine hK.out _ _ ?_ (fun hHeld2 => ?_)
        · exact keep6 hHeld hb hlt5 hlt06
        clear hHeld hK K
        have hHeld := hHeld2
        clear hHeld2
        try simp only [List.getElem_toArray, List.getElem_cons_zero, List.getElem_cons_succ, Act.put, List.setIfInBounds_toArray, List.set_cons_zero, List.set_cons_succ]
        refine wpAnyH_take (i := 8) (v := ?vr8) rfl (by kernel_rfl) (by kernel_rfl) (by kernel_rfl) (fun _ _ _ h => h) (Or.inl ⟨by rfl, ?yr8⟩) hHeld ?kr8
        case yr8 => (intro w hSw; (try dsimp only at hSw); go_simp; (try with_reducible rfl))
        try simp only [List.getElem_toArray, List.getElem_cons_zero, List.getElem_cons_succ, Act.put, List.setIfInBounds_toArray, List.set_cons_zero, List.set_cons_succ]
        refine wpAnyH_take (i := 12) (v := ?vr12) rfl (by kernel_rfl) (by kernel_rfl) (by kernel_rfl) (fun _ _ _ h => h) (Or.inl ⟨by rfl, ?yr12⟩) hHeld ?kr12
        case yr12 => (intro w hSw; (try dsimp only at hSw); go_simp; (try with_reducible rfl))
        try simp only [List.getElem_toArray, List.getElem_cons_zero, List.getElem_cons_succ, Act.put, List.setIfInBounds_toArray, List.set_cons_zero, List.set_cons_succ]
        refine wpAnyH_take (i := 13) (v := ?vr13) rfl (by kernel_rfl) (by kernel_rfl) (by kernel_rfl) (fun _ _ _ h => h) (Or.inl ⟨by rfl, ?yr13⟩) hHeld ?kr13
        case yr13 => (intro w hSw; (try dsimp only at hSw); go_simp; (try with_reducible rfl))
        try simp only [List.getElem_toArray, List.getElem_cons_zero, List.getElem_cons_succ, Act.put, List.setIfInBounds_toArray, List.set_cons_zero, List.set_cons_succ]
        refine wpAnyH_done (by kernel_rfl) ?_ _
        go_wp2_with fail
        rw [← hgy']
        refine (DX.out _ _ _ (hyr.below hHeld.1 rfl)).mono ?_; rintro e w10 ⟨rfl, hb10⟩
        go_wp2_with fail
        refine (DB.out _ _ _ (hbb.below (bthen hHeld.1 hb10) rfl)).mono ?_; rintro e w11 ⟨rfl, hb11⟩
        go_wp2
        go_ret
        exact ⟨rfl, bthen hb01 (bthen (bthen (bthen hb16 hHeld.1) hb10) hb11)⟩
end SumsE
end Go.Proofs.Ytcgdfdedjbjilaa

/- QueueG: QueueParts, the main case. -/
import Derived.Test.YtekbfimlmdofbaaQueueF
import Derived.Test.YtekbfimlmdofbaaRegion
import Derived.Deep.DeepCutAuto
namespace Go.Proofs.Ytekbfimlmdofbaa
open Go.RowKit Go.Bw QueueA QueueB QueueC QueueD QueueF
namespace QueueG

/-- What Take answers, with the lengths as numbers. -/
def GivesTa (w : World) (m : Int) (xs : List UInt8) (r : Nat) (ys : List UInt8) (k : Nat) (e : Ending) (w' : World) : Prop :=
  ∃ a cap b kb, e = .returned (.tuple #[.agg #[.int .i64 m, .slice a r cap], .slice b k kb, .int .i64 0]) ∧ BRow w' a cap xs ∧ BRow w' b kb ys ∧ Below w.heap.size w w'

theorem take_at (M : Nat) (a : Option Addr) (x cap : Nat) (bs : List UInt8) (N : Int) (n k r : Nat) (xs ys : List UInt8) (w : World) (hr : BRow w a cap bs) (hx : bs.length = x) (h1 : M ≤ 65536) (h2 : x ≤ M) (hN : N = (n : Int)) (hn : (n : Int) ≤ 9223372036854775807)
    (hk : (x < n ∧ k = x) ∨ (n ≤ x ∧ k = n)) (hrr : r = x - k) (hxs : bs.drop k = xs) (hys : bs.take k = ys) :
    Calls Try.prog 8 #[.agg #[.int .i64 M, .slice a x cap], .int .i64 N] w (GivesTa w M xs r ys k) := by
  subst hN hx hrr hxs hys
  refine (take_yes M a cap bs n k w hr h1 h2 hn hk).mono ?_
  rintro e w' ⟨a', c', b', k', B, rfl, _, ho, ho', _, hb⟩
  refine ⟨a', c', b', k', ?_, ho.row, ho'.row, hb⟩
  rw [List.length_drop, List.length_take_of_le (by omega)]

/-- What Put answers, with the lengths as numbers. -/
def GivesPa (w : World) (m : Int) (xs : List UInt8) (r t : Nat) (e : Ending) (w' : World) : Prop :=
  ∃ a cap, e = .returned (.tuple #[.agg #[.int .i64 m, .slice a r cap], .int .i64 t, .int .i64 0]) ∧ w'.ownsRow w.heap.size 5 1 (.slice a r cap) r (xs.map bv) ∧ Below w.heap.size w w'

theorem put_at (M : Nat) (a : Option Addr) (x cap : Nat) (bs : List UInt8) (b : Option Addr) (y kb : Nat) (ys : List UInt8) (r t : Nat) (xs : List UInt8) (w : World) (hr : BRow w a cap bs) (hx : bs.length = x) (hy : BRow w b kb ys) (hyl : ys.length = y) (h1 : M ≤ 65536) (h2 : x ≤ M)
    (ht : (M - x < y ∧ t = M - x) ∨ (y ≤ M - x ∧ t = y)) (hrr : r = x + t) (hxs : bs ++ ys.take t = xs) :
    Calls Try.prog 10 #[.agg #[.int .i64 M, .slice a x cap], .slice b y kb] w (GivesPa w M xs r t) := by
  subst hx hyl hrr hxs
  refine (put_yes M a cap bs b kb ys t w hr hy h1 h2 ht).mono ?_
  rintro e w' ⟨a', c', rfl, ho, hb⟩
  have hl : (bs ++ ys.take t).length = bs.length + t := by rw [List.length_append, List.length_take_of_le (by omega)]
  unfold OwnB at ho
  rw [hl] at ho ⊢
  exact ⟨a', c', rfl, ho, hb⟩

theorem row_string {w : World} {a : Option Addr} {cap n : Nat} {bs : List UInt8} (h : BRow w a cap bs) (hn : bs.length = n) :
    (convert 22 9 (.slice a n cap)).run Try.prog w = .ok (.string ⟨bs.toArray⟩) w := by
  subst hn; exact run_toString h Try.underlying22 Try.underlying5 Try.underlying9

theorem owns_below {w w' : World} {base : Nat} {e : TypeId} {size n : Nat} {v : Value} {xs : List Value} (h : w.ownsRow base e size v n xs) (hb : Below w.heap.size w w') : w'.ownsRow base e size v n xs := by
  obtain ⟨h1, h | ⟨g, c, cur, e, hg, hh, r⟩⟩ := h
  · exact ⟨h1, .inl h⟩
  · have hlt : g < w.heap.size := Block.lt (w := w) hh
    exact ⟨h1, .inr ⟨g, c, cur, e, hg, (hb.block g hlt).trans hh, r⟩⟩

theorem owns_grown {w w' : World} {base g : Nat} {e : TypeId} {size n : Nat} {v : Value} {xs : List Value} (h : w.ownsRow base e size v n xs) (hb : w.grownBy w' (some g)) (hne : v.ownBlock ≠ some g) : w'.ownsRow base e size v n xs := by
  obtain ⟨h1, h | ⟨k, c, cur, rfl, hg, hh, r⟩⟩ := h
  · exact ⟨h1, .inl h⟩
  · have hlt : k < w.heap.size := Block.lt (w := w) hh
    exact ⟨h1, .inr ⟨k, c, cur, rfl, hg, (hb.block k hlt (fun e => hne (by cases e; rfl))).trans hh, r⟩⟩
theorem owns_lt {w : World} {base : Nat} {e : TypeId} {size n : Nat} {v : Value} {xs : List Value} (h : w.ownsRow base e size v n xs) : v.ownBlock ≠ some w.heap.size := by
  obtain ⟨h1, h | ⟨k, c, cur, rfl, hg, hh, r⟩⟩ := h
  · rw [h.1]; nofun
  · intro he
    have hlt : k < w.heap.size := Block.lt (w := w) hh
    simp [Value.ownBlock] at he
    omega
theorem owns_ge {w : World} {base g : Nat} {e : TypeId} {size n : Nat} {v : Value} {xs : List Value} (h : w.ownsRow base e size v n xs) (hg : g < base) : v.ownBlock ≠ some g := by
  intro he
  have := owns_base h he
  omega
theorem owns_row {w : World} {base : Nat} {a : Option Addr} {cap n : Nat} {bs : List UInt8} (h : w.ownsRow base 5 1 (.slice a n cap) n (bs.map bv)) (hn : bs.length = n) : BRow w a cap bs := by
  subst hn; exact OwnB.row h

/-- append of one slice of bytes to another that lies in new memory. -/
theorem wp_append_b {w : World} {o : Oper} {a : Act} {K : Act → World → Prop} {Q : Exit → Act → World → Prop} (s x : Operand)
    (ho : o.op = .call { callee := .builtin .append, args := #[s, x], argTypes := #[22, 22] })
    (base : Nat) (v : Value) (k : Nat) (xs : List UInt8) (hs : a.eval s = v) (hown : w.ownsRow base 5 1 v k (xs.map bv))
    (ad : Option Addr) (m c : Nat) (ys : List UInt8) (hx : a.eval x = .slice ad m c) (hm : ys.length = m) (hrow : BRow w ad c ys) (r : Nat) (hr : k + m = r) (hrl : (xs ++ ys).length = r)
    (hbytes : r ≤ 100000000) (hbase : base ≤ w.heap.size)
    (h : ∀ a' c' w', w'.ownsRow base 5 1 (.slice a' r c') r ((xs ++ ys).map bv) → Below base w w' → w.heap.size ≤ w'.heap.size → (∀ g cs t, Block w g cs t → v.ownBlock ≠ some g → Block w' g cs t) → K (a.put o.dst (.slice a' r c')) w') : o.wp Try.prog a w K Q := by
  obtain ⟨i0, hi, hz0, hz1, hz2⟩ := info_parts infoB
  subst hm
  refine wp_append_row s x 22 ho base 5 i0 (.int .u8 0) 1 1 Try.underlying22 hi hz0 hz1 hz2 rfl (by decide) v k (xs.map bv) hs hown ad ys.length c (ys.map bv) hx hrow (one_bv ys) (by omega) (by decide) hbase ?_
  intro v' w' hown' hg' _
  rw [hr, ← List.map_append] at hown'
  obtain ⟨a', c', rfl, ho'⟩ := owns_form (bs := xs ++ ys) (by rw [hrl]; exact hown')
  rw [hrl] at hown' ⊢
  exact h a' c' w' hown' ((Below.refl _ _).grown hg' hbase (fun k hk => owns_base hown hk)) hg'.size (fun g cs t hB hne => hB.grown hg' (fun e => hne e.symm))

theorem wp_store_block {P : Program} {op : Oper} {a : Act} {w : World} {K : Act → World → Prop} {Q : Exit → Act → World → Prop} (ty : TypeId) (x y : Operand) (ho : op.op = .store ty x y)
    (g : Nat) (cells cs : Array Value) (t : TypeId) (hx : a.eval x = .pointer (some ⟨g, 0, none⟩)) (hy : a.eval y = .agg cells) (hb : Block w g cs t) (hs : cs.size = cells.size)
    (hi : (P.info? ty).map (·.size) = some cells.size) (h1 : cells.all (·.oneCell') = true)
    (h : ∀ w', Block w' g cells t → w.grownBy w' (some g) → w'.heap.size = w.heap.size → K (a.put op.dst undef) w') : op.wp P a w K Q :=
  wp_store_mid ty x y ho g 0 cells hx hy (fun j hj => ⟨by rw [hb.cell, Array.getElem?_eq_getElem (by omega)]; rfl, hb.frozen _⟩) hi h1
    (h _ (store_block hb cells hs).1 (store_block hb cells hs).2.1 (store_block hb cells hs).2.2)

set_option maxRecDepth 100000 in
set_option maxHeartbeats 8000000 in
theorem parts_main (M : Nat) (a : Option Addr) (x cap n m : Nat) (b : Option Addr) (y kb : Nat) (c : Option Addr) (z kc : Nat) (bs ys zs : List UInt8) (w : World) (hx : x ≤ 5000) (hy : y ≤ 5000) (hz : z ≤ 5000) (hn : n ≤ 10000) (hm : m ≤ 10000)
    (hr : BRow w a cap bs) (hr1 : BRow w b kb ys) (hr2 : BRow w c kc zs) (hxl : bs.length = x) (hyl : ys.length = y) (hzl : zs.length = z) (hM : M ≤ 65536) (hMx : x ≤ M)
    (k1 k2 K R r1 r2 : Nat) (hR : x - K = R) (hk1 : (x < n ∧ k1 = x) ∨ (n ≤ x ∧ k1 = n)) (hk2 : (r1 < m ∧ k2 = r1) ∨ (m ≤ r1 ∧ k2 = m)) (hr1' : x - k1 = r1) (hr2' : r1 - k2 = r2) (hK : (x < n + m ∧ K = x) ∨ (n + m ≤ x ∧ K = n + m))
    (t1 t2 u1 u2 : List UInt8) (ht1 : bs.take k1 = t1) (hu1 : bs.drop k1 = u1) (ht2 : u1.take k2 = t2) (hu2 : u1.drop k2 = u2) (hT : bs.take K = t1 ++ t2) (hU : bs.drop K = u2)
    (L P T : Nat) (pp : List UInt8) (hL : y + z = L) (hLl : (ys ++ zs).length = L) (hT1 : (M - x < L ∧ T = M - x) ∨ (L ≤ M - x ∧ T = L)) (hP : x + T = P) (hpp : bs ++ (ys ++ zs).take T = pp) (hPl : pp.length = P)
    (T1 P1 T2 : Nat) (p1 : List UInt8) (hTa : (M - x < y ∧ T1 = M - x) ∨ (y ≤ M - x ∧ T1 = y)) (hP1 : x + T1 = P1) (hp1 : bs ++ ys.take T1 = p1) (hp1l : p1.length = P1)
    (hless : T1 < y → T1 = T ∧ p1 = pp) (hmore : ¬ T1 < y → T1 + T2 = T ∧ p1 ++ zs.take T2 = pp) (hTb : (M - P1 < z ∧ T2 = M - P1) ∨ (z ≤ M - P1 ∧ T2 = z))
    :
    Calls Try.prog 3 #[.agg #[.int .i64 M, .slice a x cap], .int .i64 n, .int .i64 m, .slice b y kb, .slice c z kc] w (Gives w (.bool true)) := by
  have d1 : decide ((5000 : Int) < (x : Int)) = false := by rw [decide_eq_false_iff_not]; omega
  have d2 : decide ((5000 : Int) < (y : Int)) = false := by rw [decide_eq_false_iff_not]; omega
  have d3 : decide ((5000 : Int) < (z : Int)) = false := by rw [decide_eq_false_iff_not]; omega
  have d4 : decide ((n : Int) < 0) = false := by rw [decide_eq_false_iff_not]; omega
  have d5 : decide (10000 < (n : Int)) = false := by rw [decide_eq_false_iff_not]; omega
  have d6 : decide ((m : Int) < 0) = false := by rw [decide_eq_false_iff_not]; omega
  have d7 : decide (10000 < (m : Int)) = false := by rw [decide_eq_false_iff_not]; omega
  have hwr : IntKind.i64.wrap ((n : Int) + (m : Int)) = (n : Int) + (m : Int) := IntWalk.i64_in _ (by omega)
  have hb0 := bthenAlloc (Below.refl w.heap.size w) (.cells #[.int .i64 M, .slice a x cap] 24)
  have hB0 := Block.new w #[.int .i64 M, .slice a x cap] 24
  go_enter Try.func3, Try.ntmps3
  go_wp2_with fail
  refine (alive_code _).mono ?_; rintro e w1 ⟨rfl, hb1⟩
  have hw1 := bthen hb0 hb1
  have hB1 := hB0.below hb1 (by simp)
  have hl1 := hB1.lt
  have q0 := hB1.cell 0
  have q1 := hB1.cell 1
  go_wp2_with fail
  refine (take_at M a x cap bs _ (n + m) K R u2 (t1 ++ t2) _ (hr.below hw1 rfl) hxl hM hMx (by push_cast; rfl) (by omega) hK hR.symm hU hT).mono ?_; rintro e w2 ⟨a2, c2, b2, e2, rfl, hx2, hs2, hb2⟩
  have hw2 := bthen hw1 hb2
  clear q0 q1
  have hB2 := hB1.below hb2 hl1
  have hl2 := hB2.lt
  have q0 := hB2.cell 0
  have q1 := hB2.cell 1
  go_wp2_with fail
  refine (take_at M a x cap bs _ n k1 r1 u1 t1 _ (hr.below (bthenAlloc hw2 _) rfl) hxl hM hMx rfl (by omega) hk1 hr1'.symm hu1 ht1).mono ?_; rintro e w3 ⟨a3, c3, b3, e3, rfl, hx3, hs3, hb3⟩
  have hw3 := bthen (bthenAlloc hw2 _) hb3
  have hb23 := bthen (bthenAlloc (Below.refl w2.heap.size w2) _) hb3
  have hs2 := hs2.below hb23 rfl
  have hx2 := hx2.below hb23 rfl
  clear q0 q1
  have hB3 := (hB2.alloc (.cells #[.int .i64 M, .slice a2 R c2] 24)).below hb3 (by simp; omega)
  have hX3 := (Block.new w2 #[.int .i64 M, .slice a2 R c2] 24).below hb3 (by simp)
  have hl3 := hB3.lt
  have hxl3 := hX3.lt
  have q0 := hB3.cell 0
  have q1 := hB3.cell 1
  have p0 := hX3.cell 0
  have p1 := hX3.cell 1
  have hb3n := bthenAlloc (Below.refl w3.heap.size w3) (.cells #[.int .i64 M, .slice a3 r1 c3] 24)
  have hlu : u1.length = r1 := by rw [← hu1, List.length_drop]; omega
  go_wp2_with fail
  refine (take_at M a3 r1 c3 u1 _ m k2 r2 u2 t2 _ (hx3.below hb3n rfl) hlu hM (by omega) rfl (by omega) hk2 hr2'.symm hu2 ht2).mono ?_; rintro e w4 ⟨a4, c4, b4, e4, rfl, hx4, hs4, hb4⟩
  have hw4 := bthen (bthenAlloc hw3 _) hb4
  have hb34 := bthen hb3n hb4
  have hs2 := hs2.below hb34 rfl
  have hx2 := hx2.below hb34 rfl
  have hs3 := hs3.below hb34 rfl
  clear q0 q1 p0 p1
  have hB4 := (hB3.alloc (.cells #[.int .i64 M, .slice a3 r1 c3] 24)).below hb4 (by simp; omega)
  have hX4 := (hX3.alloc (.cells #[.int .i64 M, .slice a3 r1 c3] 24)).below hb4 (by simp; omega)
  have hl4 := hB4.lt
  have hxl4 := hX4.lt
  have hb4n := bthenAlloc (Below.refl w4.heap.size w4) (.cells #[.int .i64 M, .slice a4 r2 c4] 24)
  have hB5 := hB4.alloc (.cells #[.int .i64 M, .slice a4 r2 c4] 24)
  have hX5 := hX4.alloc (.cells #[.int .i64 M, .slice a4 r2 c4] 24)
  have q0 := hB5.cell 0
  have q1 := hB5.cell 1
  have p0 := hX5.cell 0
  have p1 := hX5.cell 1
  have hls : (t1 ++ t2).length = K := by rw [← hT, List.length_take_of_le (by omega)]
  have hlt1 : t1.length = k1 := by rw [← ht1, List.length_take_of_le (by omega)]
  have hlt2 : t2.length = k2 := by rw [← ht2, List.length_take_of_le (by omega)]
  have hlu2 : u2.length = r2 := by rw [← hu2, List.length_drop]; omega
  have hlR : u2.length = R := by rw [← hU, List.length_drop]; omega
  have es1 := row_string (hs2.below hb4n rfl) hls
  have es2 := row_string (hs3.below hb4n rfl) hlt1
  have es3 := row_string (hs4.below hb4n rfl) hlt2
  have es4 := row_string (hx2.below hb4n rfl) hlR
  have es5 := row_string (hx4.below hb4n rfl) hlu2
  have esum : (ByteArray.mk t1.toArray ++ ByteArray.mk t2.toArray) = ByteArray.mk (t1 ++ t2).toArray := ByteArray.ext (by simp)
  go_wp2_with fail
  go_cut [21, 22, 23] (fun v21 v22 v23 wx => ∃ g ap cp, v21 = .pointer (some ⟨g, 0, none⟩) ∧ v22 = .int .i64 T ∧ v23 = .int .i64 0 ∧ Block wx g #[.int .i64 M, .slice ap P cp] 24 ∧ BRow wx ap cp pp ∧ Below w4.heap.size w4 wx)
  case first =>
    go_wp2_with fail
    refine wp_region_hd 13 (S := fun v => Below w4.heap.size w4 v) (by kernel_rfl) (by kernel_rfl) ?_ (fun hOk hInv hHeld => ?_)
    · exact bthenDrew hb4n
    refine hd_take (i := 0) (v := ?vt1_0) hOk hInv rfl (by kernel_rfl) (fun _ _ _ h => h) (Or.inl ⟨by rfl, ?yt1_0⟩) hHeld ?kt1_0
    case yt1_0 => (intro w hSw; have hBs := hB4.below hSw hl4; have s0 := hBs.cell 0; have s1 := hBs.cell 1; go_simp; (try with_reducible rfl))
    clear hInv; intro hInv
    try simp only [List.getElem_toArray, List.getElem_cons_zero, List.getElem_cons_succ, Act.put, List.setIfInBounds_toArray, List.set_cons_zero, List.set_cons_succ]
    refine hd_take (i := 1) (v := ?vt2_1) hOk hInv rfl (by kernel_rfl) (fun _ _ _ h => h) (Or.inl ⟨by rfl, ?yt2_1⟩) hHeld ?kt2_1
    case yt2_1 => (intro w hSw; go_simp; (try with_reducible rfl))
    clear hInv; intro hInv
    try simp only [List.getElem_toArray, List.getElem_cons_zero, List.getElem_cons_succ, Act.put, List.setIfInBounds_toArray, List.set_cons_zero, List.set_cons_succ]
    refine hd_take (i := 3) (v := ?vt3_3) hOk hInv rfl (by kernel_rfl) (fun _ _ _ h => h) (Or.inl ⟨by rfl, ?yt3_3⟩) hHeld ?kt3_3
    case yt3_3 => (intro w hSw; go_simp; (try with_reducible rfl))
    clear hInv; intro hInv
    try simp only [List.getElem_toArray, List.getElem_cons_zero, List.getElem_cons_succ, Act.put, List.setIfInBounds_toArray, List.set_cons_zero, List.set_cons_succ]
    refine hd_two (i := 2) (j := 10) hInv rfl rfl (by kernel_rfl) ?_ ?_
    · clear hInv; intro hInv K hK
      simp only [List.getElem_toArray, List.getElem_cons_zero, List.getElem_cons_succ]
      rw [if_pos (by rfl)]
      have hsz5 := hHeld.size
      refine wp_append_b _ _ rfl _ (.slice none 0 0) 0 [] rfl (World.ownsRow_nil _ _ _ _) b y kb ys rfl hyl (hr1.below (hw4.trans (hHeld.mono hw4.size)) rfl) y (Nat.zero_add y) hyl (by omega) (Nat.le_refl _) ?_
      intro a5 c5 w5 hO5 hb5 hs5 hf5; rw [List.nil_append] at hO5
      refine hK.out _ _ ?_ (fun hHeld2 => ?_)
      · exact bthen hHeld hb5
      clear hHeld hK K
      have hHeld := hHeld2
      clear hHeld2
      try simp only [List.getElem_toArray, List.getElem_cons_zero, List.getElem_cons_succ, Act.put, List.setIfInBounds_toArray, List.set_cons_zero, List.set_cons_succ]
      refine hd_two (i := 4) (j := 10) hInv rfl rfl (by kernel_rfl) ?_ ?_
      · clear hInv; intro hInv K hK
        simp only [List.getElem_toArray, List.getElem_cons_zero, List.getElem_cons_succ]
        rw [if_pos (by rfl)]
        refine wp_append_b _ _ rfl _ _ y ys rfl hO5 c z kc zs rfl hzl (hr2.below (hw4.trans (hHeld.mono hw4.size)) rfl) L hL hLl (by omega) hs5 ?_
        intro a6 c6 w6 hO6 hb6 hs6 hf6
        refine hK.out _ _ ?_ (fun hHeld2 => ?_)
        · exact hHeld.trans (hb6.mono hsz5)
        clear hHeld hK K
        have hHeld := hHeld2
        clear hHeld2
        try simp only [List.getElem_toArray, List.getElem_cons_zero, List.getElem_cons_succ, Act.put, List.setIfInBounds_toArray, List.set_cons_zero, List.set_cons_succ]
        refine hd_two (i := 5) (j := 10) hInv rfl rfl (by kernel_rfl) ?_ ?_
        · clear hInv; intro hInv K hK
          simp only [List.getElem_toArray, List.getElem_cons_zero, List.getElem_cons_succ]
          rw [if_pos (by rfl)]
          go_wp2_with fail
          refine (put_at M a x cap bs _ L _ (ys ++ zs) P T pp _ (hr.below (hw4.trans (hHeld.mono hw4.size)) rfl) hxl (owns_row hO6 hLl) hLl hM hMx hT1 hP.symm hpp).mono ?_; rintro e w7 ⟨a7, c7, rfl, hO7, hb7⟩
          dsimp only
          refine hK.out _ _ ?_ (fun hHeld2 => ?_)
          · exact bthen hHeld hb7
          clear hHeld hK K
          have hHeld := hHeld2
          clear hHeld2
          try simp only [List.getElem_toArray, List.getElem_cons_zero, List.getElem_cons_succ, Act.put, List.setIfInBounds_toArray, List.set_cons_zero, List.set_cons_succ]
          refine hd_take (i := 6) (v := ?vt4_6) hOk hInv rfl (by kernel_rfl) (fun _ _ _ h => h) (Or.inl ⟨by rfl, ?yt4_6⟩) hHeld ?kt4_6
          case yt4_6 => (intro w hSw; go_simp; (try with_reducible rfl))
          clear hInv; intro hInv
          try simp only [List.getElem_toArray, List.getElem_cons_zero, List.getElem_cons_succ, Act.put, List.setIfInBounds_toArray, List.set_cons_zero, List.set_cons_succ]
          refine hd_take (i := 7) (v := ?vt5_7) hOk hInv rfl (by kernel_rfl) (fun _ _ _ h => h) (Or.inl ⟨by rfl, ?yt5_7⟩) hHeld ?kt5_7
          case yt5_7 => (intro w hSw; go_simp; (try with_reducible rfl))
          clear hInv; intro hInv
          try simp only [List.getElem_toArray, List.getElem_cons_zero, List.getElem_cons_succ, Act.put, List.setIfInBounds_toArray, List.set_cons_zero, List.set_cons_succ]
          refine hd_take (i := 8) (v := ?vt6_8) hOk hInv rfl (by kernel_rfl) (fun _ _ _ h => h) (Or.inl ⟨by rfl, ?yt6_8⟩) hHeld ?kt6_8
          case yt6_8 => (intro w hSw; go_simp; (try with_reducible rfl))
          clear hInv; intro hInv
          try simp only [List.getElem_toArray, List.getElem_cons_zero, List.getElem_cons_succ, Act.put, List.setIfInBounds_toArray, List.set_cons_zero, List.set_cons_succ]
          refine hd_take (i := 9) (v := ?vt7_9) hOk hInv rfl (by kernel_rfl) (fun _ _ _ h => h) (Or.inl ⟨by rfl, ?yt7_9⟩) hHeld ?kt7_9
          case yt7_9 => (intro w hSw; go_simp; (try with_reducible rfl))
          clear hInv; intro hInv
          try simp only [List.getElem_toArray, List.getElem_cons_zero, List.getElem_cons_succ, Act.put, List.setIfInBounds_toArray, List.set_cons_zero, List.set_cons_succ]
          refine hd_step (i := 10) hInv rfl (by kernel_rfl) ?_
          have hgz := hHeld.size
          clear hInv; intro hInv K hK
          simp only [List.getElem_toArray, List.getElem_cons_zero, List.getElem_cons_succ]
          rw [if_pos (by rfl)]
          go_wp2_with fail
          refine hK.out _ _ ?_ (fun hHeld2 => ?_)
          · exact bthenAlloc hHeld _
          clear hHeld hK K
          have hHeld := hHeld2
          clear hHeld2
          try simp only [List.getElem_toArray, List.getElem_cons_zero, List.getElem_cons_succ, Act.put, List.setIfInBounds_toArray, List.set_cons_zero, List.set_cons_succ]
          have hZ := Block.new w7 #[.int .i64 0, .slice none 0 0] 24
          have hne7 := owns_lt hO7
          have hO7 := owns_below hO7 (bthenAlloc (Below.refl _ _) (.cells #[.int .i64 0, .slice none 0 0] 24))
          refine hd_step (i := 11) hInv rfl (by kernel_rfl) ?_
          clear hInv; intro hInv K hK
          simp only [List.getElem_toArray, List.getElem_cons_zero, List.getElem_cons_succ]
          rw [if_pos (by rfl)]
          refine wp_store_block 24 _ _ rfl _ #[.int .i64 M, .slice a7 P c7] _ _ rfl rfl hZ (by rfl) (by kernel_rfl) (by simp [Value.oneCell']) ?_
          intro w8 hZ8 hg8 hs8
          have hO8 := owns_grown hO7 hg8 hne7
          refine hK.out _ _ ?_ (fun hHeld2 => ?_)
          · exact hHeld.grown hg8 hHeld.size (fun k hk => by cases hk; exact hgz)
          clear hHeld hK K
          have hHeld := hHeld2
          clear hHeld2
          try simp only [List.getElem_toArray, List.getElem_cons_zero, List.getElem_cons_succ, Act.put, List.setIfInBounds_toArray, List.set_cons_zero, List.set_cons_succ]
          refine hd_take (i := 12) (v := ?vt8_12) hOk hInv rfl (by kernel_rfl) (fun _ _ _ h => h) (Or.inl ⟨by rfl, ?yt8_12⟩) hHeld ?kt8_12
          case yt8_12 => (intro w hSw; go_simp; (try with_reducible rfl))
          clear hInv; intro hInv
          try simp only [List.getElem_toArray, List.getElem_cons_zero, List.getElem_cons_succ, Act.put, List.setIfInBounds_toArray, List.set_cons_zero, List.set_cons_succ]
          refine hd_done (by kernel_rfl) ?_
          simp only [List.drop_succ_cons, List.drop_zero]
          go_wp2_with fail
          go_meet
          exact ⟨_, a7, c7, rfl, rfl, rfl, hZ8, owns_row hO8 hPl, hHeld⟩
        · have hgz := hHeld.size
          clear hInv; intro hInv K hK
          simp only [List.getElem_toArray, List.getElem_cons_zero, List.getElem_cons_succ]
          rw [if_pos (by rfl)]
          go_wp2_with fail
          refine hK.out _ _ ?_ (fun hHeld2 => ?_)
          · exact bthenAlloc hHeld _
          clear hHeld hK K
          have hHeld := hHeld2
          clear hHeld2
          try simp only [List.getElem_toArray, List.getElem_cons_zero, List.getElem_cons_succ, Act.put, List.setIfInBounds_toArray, List.set_cons_zero, List.set_cons_succ]
          have hZ := Block.new w6 #[.int .i64 0, .slice none 0 0] 24
          have hO6 := owns_below hO6 (bthenAlloc (Below.refl _ _) (.cells #[.int .i64 0, .slice none 0 0] 24))
          refine hd_step (i := 5) hInv rfl (by kernel_rfl) ?_
          clear hInv; intro hInv K hK
          simp only [List.getElem_toArray, List.getElem_cons_zero, List.getElem_cons_succ]
          rw [if_pos (by rfl)]
          go_wp2_with fail
          refine (put_at M a x cap bs _ L _ (ys ++ zs) P T pp _ (hr.below (hw4.trans (hHeld.mono hw4.size)) rfl) hxl (owns_row hO6 hLl) hLl hM hMx hT1 hP.symm hpp).mono ?_; rintro e w7 ⟨a7, c7, rfl, hO7, hb7⟩
          dsimp only
          have hne7 := owns_ge hO7 hZ.lt
          have hZ := hZ.below hb7 hZ.lt
          refine hK.out _ _ ?_ (fun hHeld2 => ?_)
          · exact bthen hHeld hb7
          clear hHeld hK K
          have hHeld := hHeld2
          clear hHeld2
          try simp only [List.getElem_toArray, List.getElem_cons_zero, List.getElem_cons_succ, Act.put, List.setIfInBounds_toArray, List.set_cons_zero, List.set_cons_succ]
          refine hd_take (i := 6) (v := ?vt9_6) hOk hInv rfl (by kernel_rfl) (fun _ _ _ h => h) (Or.inl ⟨by rfl, ?yt9_6⟩) hHeld ?kt9_6
          case yt9_6 => (intro w hSw; go_simp; (try with_reducible rfl))
          clear hInv; intro hInv
          try simp only [List.getElem_toArray, List.getElem_cons_zero, List.getElem_cons_succ, Act.put, List.setIfInBounds_toArray, List.set_cons_zero, List.set_cons_succ]
          refine hd_take (i := 7) (v := ?vt10_7) hOk hInv rfl (by kernel_rfl) (fun _ _ _ h => h) (Or.inl ⟨by rfl, ?yt10_7⟩) hHeld ?kt10_7
          case yt10_7 => (intro w hSw; go_simp; (try with_reducible rfl))
          clear hInv; intro hInv
          try simp only [List.getElem_toArray, List.getElem_cons_zero, List.getElem_cons_succ, Act.put, List.setIfInBounds_toArray, List.set_cons_zero, List.set_cons_succ]
          refine hd_take (i := 8) (v := ?vt11_8) hOk hInv rfl (by kernel_rfl) (fun _ _ _ h => h) (Or.inl ⟨by rfl, ?yt11_8⟩) hHeld ?kt11_8
          case yt11_8 => (intro w hSw; go_simp; (try with_reducible rfl))
          clear hInv; intro hInv
          try simp only [List.getElem_toArray, List.getElem_cons_zero, List.getElem_cons_succ, Act.put, List.setIfInBounds_toArray, List.set_cons_zero, List.set_cons_succ]
          refine hd_take (i := 9) (v := ?vt12_9) hOk hInv rfl (by kernel_rfl) (fun _ _ _ h => h) (Or.inl ⟨by rfl, ?yt12_9⟩) hHeld ?kt12_9
          case yt12_9 => (intro w hSw; go_simp; (try with_reducible rfl))
          clear hInv; intro hInv
          try simp only [List.getElem_toArray, List.getElem_cons_zero, List.getElem_cons_succ, Act.put, List.setIfInBounds_toArray, List.set_cons_zero, List.set_cons_succ]
          refine hd_step (i := 11) hInv rfl (by kernel_rfl) ?_
          clear hInv; intro hInv K hK
          simp only [List.getElem_toArray, List.getElem_cons_zero, List.getElem_cons_succ]
          rw [if_pos (by rfl)]
          refine wp_store_block 24 _ _ rfl _ #[.int .i64 M, .slice a7 P c7] _ _ rfl rfl hZ (by rfl) (by kernel_rfl) (by simp [Value.oneCell']) ?_
          intro w8 hZ8 hg8 hs8
          have hO8 := owns_grown hO7 hg8 hne7
          refine hK.out _ _ ?_ (fun hHeld2 => ?_)
          · exact hHeld.grown hg8 hHeld.size (fun k hk => by cases hk; exact hgz)
          clear hHeld hK K
          have hHeld := hHeld2
          clear hHeld2
          try simp only [List.getElem_toArray, List.getElem_cons_zero, List.getElem_cons_succ, Act.put, List.setIfInBounds_toArray, List.set_cons_zero, List.set_cons_succ]
          refine hd_take (i := 12) (v := ?vt13_12) hOk hInv rfl (by kernel_rfl) (fun _ _ _ h => h) (Or.inl ⟨by rfl, ?yt13_12⟩) hHeld ?kt13_12
          case yt13_12 => (intro w hSw; go_simp; (try with_reducible rfl))
          clear hInv; intro hInv
          try simp only [List.getElem_toArray, List.getElem_cons_zero, List.getElem_cons_succ, Act.put, List.setIfInBounds_toArray, List.set_cons_zero, List.set_cons_succ]
          refine hd_done (by kernel_rfl) ?_
          simp only [List.drop_succ_cons, List.drop_zero]
          go_wp2_with fail
          go_meet
          exact ⟨_, a7, c7, rfl, rfl, rfl, hZ8, owns_row hO8 hPl, hHeld⟩
      · have hgz := hHeld.size
        clear hInv; intro hInv K hK
        simp only [List.getElem_toArray, List.getElem_cons_zero, List.getElem_cons_succ]
        rw [if_pos (by rfl)]
        go_wp2_with fail
        refine hK.out _ _ ?_ (fun hHeld2 => ?_)
        · exact bthenAlloc hHeld _
        clear hHeld hK K
        have hHeld := hHeld2
        clear hHeld2
        try simp only [List.getElem_toArray, List.getElem_cons_zero, List.getElem_cons_succ, Act.put, List.setIfInBounds_toArray, List.set_cons_zero, List.set_cons_succ]
        have hZ := Block.new w5 #[.int .i64 0, .slice none 0 0] 24
        have hne5 := owns_lt hO5
        have hO5 := owns_below hO5 (bthenAlloc (Below.refl _ _) (.cells #[.int .i64 0, .slice none 0 0] 24))
        refine hd_step (i := 4) hInv rfl (by kernel_rfl) ?_
        clear hInv; intro hInv K hK
        simp only [List.getElem_toArray, List.getElem_cons_zero, List.getElem_cons_succ]
        rw [if_pos (by rfl)]
        refine wp_append_b _ _ rfl _ _ y ys rfl hO5 c z kc zs rfl hzl (hr2.below (hw4.trans (hHeld.mono hw4.size)) rfl) L hL hLl (by omega) (by have := hs5; simp; omega) ?_
        intro a6 c6 w6 hO6 hb6 hs6 hf6
        have hZ := hf6 _ _ _ hZ hne5
        refine hK.out _ _ ?_ (fun hHeld2 => ?_)
        · exact hHeld.trans (hb6.mono hsz5)
        clear hHeld hK K
        have hHeld := hHeld2
        clear hHeld2
        try simp only [List.getElem_toArray, List.getElem_cons_zero, List.getElem_cons_succ, Act.put, List.setIfInBounds_toArray, List.set_cons_zero, List.set_cons_succ]
        refine hd_step (i := 5) hInv rfl (by kernel_rfl) ?_
        clear hInv; intro hInv K hK
        simp only [List.getElem_toArray, List.getElem_cons_zero, List.getElem_cons_succ]
        rw [if_pos (by rfl)]
        go_wp2_with fail
        refine (put_at M a x cap bs _ L _ (ys ++ zs) P T pp _ (hr.below (hw4.trans (hHeld.mono hw4.size)) rfl) hxl (owns_row hO6 hLl) hLl hM hMx hT1 hP.symm hpp).mono ?_; rintro e w7 ⟨a7, c7, rfl, hO7, hb7⟩
        dsimp only
        have hne7 := owns_ge hO7 hZ.lt
        have hZ := hZ.below hb7 hZ.lt
        refine hK.out _ _ ?_ (fun hHeld2 => ?_)
        · exact bthen hHeld hb7
        clear hHeld hK K
        have hHeld := hHeld2
        clear hHeld2
        try simp only [List.getElem_toArray, List.getElem_cons_zero, List.getElem_cons_succ, Act.put, List.setIfInBounds_toArray, List.set_cons_zero, List.set_cons_succ]
        refine hd_take (i := 6) (v := ?vt14_6) hOk hInv rfl (by kernel_rfl) (fun _ _ _ h => h) (Or.inl ⟨by rfl, ?yt14_6⟩) hHeld ?kt14_6
        case yt14_6 => (intro w hSw; go_simp; (try with_reducible rfl))
        clear hInv; intro hInv
        try simp only [List.getElem_toArray, List.getElem_cons_zero, List.getElem_cons_succ, Act.put, List.setIfInBounds_toArray, List.set_cons_zero, List.set_cons_succ]
        refine hd_take (i := 7) (v := ?vt15_7) hOk hInv rfl (by kernel_rfl) (fun _ _ _ h => h) (Or.inl ⟨by rfl, ?yt15_7⟩) hHeld ?kt15_7
        case yt15_7 => (intro w hSw; go_simp; (try with_reducible rfl))
        clear hInv; intro hInv
        try simp only [List.getElem_toArray, List.getElem_cons_zero, List.getElem_cons_succ, Act.put, List.setIfInBounds_toArray, List.set_cons_zero, List.set_cons_succ]
        refine hd_take (i := 8) (v := ?vt16_8) hOk hInv rfl (by kernel_rfl) (fun _ _ _ h => h) (Or.inl ⟨by rfl, ?yt16_8⟩) hHeld ?kt16_8
        case yt16_8 => (intro w hSw; go_simp; (try with_reducible rfl))
        clear hInv; intro hInv
        try simp only [List.getElem_toArray, List.getElem_cons_zero, List.getElem_cons_succ, Act.put, List.setIfInBounds_toArray, List.set_cons_zero, List.set_cons_succ]
        refine hd_take (i := 9) (v := ?vt17_9) hOk hInv rfl (by kernel_rfl) (fun _ _ _ h => h) (Or.inl ⟨by rfl, ?yt17_9⟩) hHeld ?kt17_9
        case yt17_9 => (intro w hSw; go_simp; (try with_reducible rfl))
        clear hInv; intro hInv
        try simp only [List.getElem_toArray, List.getElem_cons_zero, List.getElem_cons_succ, Act.put, List.setIfInBounds_toArray, List.set_cons_zero, List.set_cons_succ]
        refine hd_step (i := 11) hInv rfl (by kernel_rfl) ?_
        clear hInv; intro hInv K hK
        simp only [List.getElem_toArray, List.getElem_cons_zero, List.getElem_cons_succ]
        rw [if_pos (by rfl)]
        refine wp_store_block 24 _ _ rfl _ #[.int .i64 M, .slice a7 P c7] _ _ rfl rfl hZ (by rfl) (by kernel_rfl) (by simp [Value.oneCell']) ?_
        intro w8 hZ8 hg8 hs8
        have hO8 := owns_grown hO7 hg8 hne7
        refine hK.out _ _ ?_ (fun hHeld2 => ?_)
        · exact hHeld.grown hg8 hHeld.size (fun k hk => by cases hk; exact hgz)
        clear hHeld hK K
        have hHeld := hHeld2
        clear hHeld2
        try simp only [List.getElem_toArray, List.getElem_cons_zero, List.getElem_cons_succ, Act.put, List.setIfInBounds_toArray, List.set_cons_zero, List.set_cons_succ]
        refine hd_take (i := 12) (v := ?vt18_12) hOk hInv rfl (by kernel_rfl) (fun _ _ _ h => h) (Or.inl ⟨by rfl, ?yt18_12⟩) hHeld ?kt18_12
        case yt18_12 => (intro w hSw; go_simp; (try with_reducible rfl))
        clear hInv; intro hInv
        try simp only [List.getElem_toArray, List.getElem_cons_zero, List.getElem_cons_succ, Act.put, List.setIfInBounds_toArray, List.set_cons_zero, List.set_cons_succ]
        refine hd_done (by kernel_rfl) ?_
        simp only [List.drop_succ_cons, List.drop_zero]
        go_wp2_with fail
        go_meet
        exact ⟨_, a7, c7, rfl, rfl, rfl, hZ8, owns_row hO8 hPl, hHeld⟩
    · have hgz := hHeld.size
      clear hInv; intro hInv K hK
      simp only [List.getElem_toArray, List.getElem_cons_zero, List.getElem_cons_succ]
      rw [if_pos (by rfl)]
      go_wp2_with fail
      refine hK.out _ _ ?_ (fun hHeld2 => ?_)
      · exact bthenAlloc hHeld _
      clear hHeld hK K
      have hHeld := hHeld2
      clear hHeld2
      try simp only [List.getElem_toArray, List.getElem_cons_zero, List.getElem_cons_succ, Act.put, List.setIfInBounds_toArray, List.set_cons_zero, List.set_cons_succ]
      have hZ := Block.new (w4.alloc (.cells #[.int .i64 M, .slice a4 r2 c4] 24)).drew #[.int .i64 0, .slice none 0 0] 24
      rw [show (w4.alloc (.cells #[.int .i64 M, .slice a4 r2 c4] 24)).drew.heap.size = w4.heap.size + 1 by simp] at hZ
      clear hgz
      have hgz : w4.heap.size ≤ w4.heap.size + 1 := Nat.le_succ _
      refine hd_step (i := 2) hInv rfl (by kernel_rfl) ?_
      clear hInv; intro hInv K hK
      simp only [List.getElem_toArray, List.getElem_cons_zero, List.getElem_cons_succ]
      rw [if_pos (by rfl)]
      have hsz5 := hHeld.size
      refine wp_append_b _ _ rfl _ (.slice none 0 0) 0 [] rfl (World.ownsRow_nil _ _ _ _) b y kb ys rfl hyl (hr1.below (hw4.trans (hHeld.mono hw4.size)) rfl) y (Nat.zero_add y) hyl (by omega) (Nat.le_refl _) ?_
      intro a5 c5 w5 hO5 hb5 hs5 hf5; rw [List.nil_append] at hO5
      have hne5 := owns_ge hO5 hZ.lt
      have hZ := hf5 _ _ _ hZ (by simp [Value.ownBlock])
      refine hK.out _ _ ?_ (fun hHeld2 => ?_)
      · exact bthen hHeld hb5
      clear hHeld hK K
      have hHeld := hHeld2
      clear hHeld2
      try simp only [List.getElem_toArray, List.getElem_cons_zero, List.getElem_cons_succ, Act.put, List.setIfInBounds_toArray, List.set_cons_zero, List.set_cons_succ]
      refine hd_step (i := 4) hInv rfl (by kernel_rfl) ?_
      clear hInv; intro hInv K hK
      simp only [List.getElem_toArray, List.getElem_cons_zero, List.getElem_cons_succ]
      rw [if_pos (by rfl)]
      refine wp_append_b _ _ rfl _ _ y ys rfl hO5 c z kc zs rfl hzl (hr2.below (hw4.trans (hHeld.mono hw4.size)) rfl) L hL hLl (by omega) hs5 ?_
      intro a6 c6 w6 hO6 hb6 hs6 hf6
      have hZ := hf6 _ _ _ hZ hne5
      refine hK.out _ _ ?_ (fun hHeld2 => ?_)
      · exact hHeld.trans (hb6.mono hsz5)
      clear hHeld hK K
      have hHeld := hHeld2
      clear hHeld2
      try simp only [List.getElem_toArray, List.getElem_cons_zero, List.getElem_cons_succ, Act.put, List.setIfInBounds_toArray, List.set_cons_zero, List.set_cons_succ]
      refine hd_step (i := 5) hInv rfl (by kernel_rfl) ?_
      clear hInv; intro hInv K hK
      simp only [List.getElem_toArray, List.getElem_cons_zero, List.getElem_cons_succ]
      rw [if_pos (by rfl)]
      go_wp2_with fail
      refine (put_at M a x cap bs _ L _ (ys ++ zs) P T pp _ (hr.below (hw4.trans (hHeld.mono hw4.size)) rfl) hxl (owns_row hO6 hLl) hLl hM hMx hT1 hP.symm hpp).mono ?_; rintro e w7 ⟨a7, c7, rfl, hO7, hb7⟩
      dsimp only
      have hne7 := owns_ge hO7 hZ.lt
      have hZ := hZ.below hb7 hZ.lt
      refine hK.out _ _ ?_ (fun hHeld2 => ?_)
      · exact bthen hHeld hb7
      clear hHeld hK K
      have hHeld := hHeld2
      clear hHeld2
      try simp only [List.getElem_toArray, List.getElem_cons_zero, List.getElem_cons_succ, Act.put, List.setIfInBounds_toArray, List.set_cons_zero, List.set_cons_succ]
      refine hd_take (i := 6) (v := ?vt19_6) hOk hInv rfl (by kernel_rfl) (fun _ _ _ h => h) (Or.inl ⟨by rfl, ?yt19_6⟩) hHeld ?kt19_6
      case yt19_6 => (intro w hSw; go_simp; (try with_reducible rfl))
      clear hInv; intro hInv
      try simp only [List.getElem_toArray, List.getElem_cons_zero, List.getElem_cons_succ, Act.put, List.setIfInBounds_toArray, List.set_cons_zero, List.set_cons_succ]
      refine hd_take (i := 7) (v := ?vt20_7) hOk hInv rfl (by kernel_rfl) (fun _ _ _ h => h) (Or.inl ⟨by rfl, ?yt20_7⟩) hHeld ?kt20_7
      case yt20_7 => (intro w hSw; go_simp; (try with_reducible rfl))
      clear hInv; intro hInv
      try simp only [List.getElem_toArray, List.getElem_cons_zero, List.getElem_cons_succ, Act.put, List.setIfInBounds_toArray, List.set_cons_zero, List.set_cons_succ]
      refine hd_take (i := 8) (v := ?vt21_8) hOk hInv rfl (by kernel_rfl) (fun _ _ _ h => h) (Or.inl ⟨by rfl, ?yt21_8⟩) hHeld ?kt21_8
      case yt21_8 => (intro w hSw; go_simp; (try with_reducible rfl))
      clear hInv; intro hInv
      try simp only [List.getElem_toArray, List.getElem_cons_zero, List.getElem_cons_succ, Act.put, List.setIfInBounds_toArray, List.set_cons_zero, List.set_cons_succ]
      refine hd_take (i := 9) (v := ?vt22_9) hOk hInv rfl (by kernel_rfl) (fun _ _ _ h => h) (Or.inl ⟨by rfl, ?yt22_9⟩) hHeld ?kt22_9
      case yt22_9 => (intro w hSw; go_simp; (try with_reducible rfl))
      clear hInv; intro hInv
      try simp only [List.getElem_toArray, List.getElem_cons_zero, List.getElem_cons_succ, Act.put, List.setIfInBounds_toArray, List.set_cons_zero, List.set_cons_succ]
      refine hd_step (i := 11) hInv rfl (by kernel_rfl) ?_
      clear hInv; intro hInv K hK
      simp only [List.getElem_toArray, List.getElem_cons_zero, List.getElem_cons_succ]
      rw [if_pos (by rfl)]
      refine wp_store_block 24 _ _ rfl _ #[.int .i64 M, .slice a7 P c7] _ _ rfl rfl hZ (by rfl) (by kernel_rfl) (by simp [Value.oneCell']) ?_
      intro w8 hZ8 hg8 hs8
      have hO8 := owns_grown hO7 hg8 hne7
      refine hK.out _ _ ?_ (fun hHeld2 => ?_)
      · exact hHeld.grown hg8 hHeld.size (fun k hk => by cases hk; exact hgz)
      clear hHeld hK K
      have hHeld := hHeld2
      clear hHeld2
      try simp only [List.getElem_toArray, List.getElem_cons_zero, List.getElem_cons_succ, Act.put, List.setIfInBounds_toArray, List.set_cons_zero, List.set_cons_succ]
      refine hd_take (i := 12) (v := ?vt23_12) hOk hInv rfl (by kernel_rfl) (fun _ _ _ h => h) (Or.inl ⟨by rfl, ?yt23_12⟩) hHeld ?kt23_12
      case yt23_12 => (intro w hSw; go_simp; (try with_reducible rfl))
      clear hInv; intro hInv
      try simp only [List.getElem_toArray, List.getElem_cons_zero, List.getElem_cons_succ, Act.put, List.setIfInBounds_toArray, List.set_cons_zero, List.set_cons_succ]
      refine hd_done (by kernel_rfl) ?_
      simp only [List.drop_succ_cons, List.drop_zero]
      go_wp2_with fail
      go_meet
      exact ⟨_, a7, c7, rfl, rfl, rfl, hZ8, owns_row hO8 hPl, hHeld⟩
  case rest =>
    obtain ⟨g5, a5, c5, rfl, rfl, rfl, hP5, hr5, hb5⟩ := hcut
    have hB6 := hB4.below hb5 hl4
    have hl6 := hB6.lt
    have hw5 := bthen hw4 hb5
    clear q0 q1 p0 p1
    have q0 := hB6.cell 0
    have q1 := hB6.cell 1
    go_wp2_with fail
    refine (put_at M a x cap bs b y kb ys P1 T1 p1 _ (hr.below hw5 rfl) hxl (hr1.below hw5 rfl) hyl hM hMx hTa hP1.symm hp1).mono ?_; rintro e w6 ⟨a6, c6, rfl, hO6, hb6⟩
    have hw6 := bthen hw5 hb6
    have hP6 := hP5.below hb6 hP5.lt
    have hr6 := owns_row hO6 hp1l
    have hr5 := hr5.below hb6 rfl
    have hb6n := bthenAlloc (Below.refl w6.heap.size w6) (.cells #[.int .i64 M, .slice a6 P1 c6] 24)
    have hP7 := hP6.alloc (.cells #[.int .i64 M, .slice a6 P1 c6] 24)
    have hl7 := hP7.lt
    clear q0 q1
    have q0 := hP7.cell 0
    have q1 := hP7.cell 1
    have es6 := row_string (hr5.below hb6n rfl) hPl
    have es7 := row_string (hr6.below hb6n rfl) hp1l
    by_cases hlt : T1 < y
    · obtain ⟨rfl, rfl⟩ := hless hlt
      have e1 : decide ((T1 : Int) < (y : Int)) = true := by rw [decide_eq_true_eq]; omega
      go_wp2
      go_ret
      exact ⟨rfl, bthenAlloc hw6 _⟩
    · obtain ⟨hTT, hpq⟩ := hmore hlt
      have e1 : decide ((T1 : Int) < (y : Int)) = false := by rw [decide_eq_false_iff_not]; omega
      have e2 : IntKind.i64.wrap ((T1 : Int) + (T2 : Int)) = (T : Int) := by rw [IntWalk.i64_in _ (by omega)]; omega
      go_wp2_with fail
      refine (put_at M a6 P1 c6 p1 c z kc zs P T2 pp _ (hr6.below hb6n rfl) hp1l (hr2.below (bthenAlloc hw6 _) rfl) hzl hM (by omega) hTb (by omega) hpq).mono ?_; rintro e w7 ⟨a7, c7, rfl, hO7, hb7⟩
      have hw7 := bthen (bthenAlloc hw6 _) hb7
      have hP8 := (hP7.below hb7 hl7).alloc (.cells #[.int .i64 M, .slice a7 P c7] 24)
      have hl8 := hP8.lt
      clear q0 q1 es6 es7
      have q0 := hP8.cell 0
      have q1 := hP8.cell 1
      have hb7n := bthenAlloc (Below.refl w7.heap.size w7) (.cells #[.int .i64 M, .slice a7 P c7] 24)
      have es6 := row_string ((hr5.below (bthen hb6n hb7) rfl).below hb7n rfl) hPl
      have es7 := row_string ((owns_row hO7 hPl).below hb7n rfl) hPl
      go_wp2
      go_ret
      exact ⟨rfl, bthenAlloc hw7 _⟩

end QueueG
end Go.Proofs.Ytekbfimlmdofbaa

/- SumsD: SumsOn and SumsTurned, walked. -/
import Derived.Test.YtcgdfdedjbjilaaSumsC
namespace Go.Proofs.Ytcgdfdedjbjilaa
open Go.RowKit Go.Bw Go.Bw.Sums SumsA SumsB SumsC
namespace SumsD

theorem owns_base {w : World} {base : Nat} {e : TypeId} {size n : Nat} {v : Value} {xs : List Value} (h : w.ownsRow base e size v n xs) {k : Nat} (hk : v.ownBlock = some k) : base ≤ k := by
  obtain ⟨_, h | ⟨g, cap, cur, rfl, hg, _⟩⟩ := h
  · rw [h.1] at hk; cases hk
  · simp [Value.ownBlock] at hk; omega

set_option maxRecDepth 100000 in
set_option maxHeartbeats 8000000 in
theorem on_walk {H : Type} (enc : TypeId × Value → H) {base : Nat} (w : World) (v0 v1 v2 v3 : Value) (o0 : Value.okWide Try.prog w .any base 25 v0) (o1 : Value.okWide Try.prog w .any base 23 v1) (o2 : Value.okWide Try.prog w .any base 22 v2) (o3 : Value.okWide Try.prog w .any base 22 v3)
    (h0 : Tr enc Try.prog w 25 v0) (h1 : Tr enc Try.prog w 23 v1) (h2 : Tr enc Try.prog w 22 v2) (h3 : Tr enc Try.prog w 22 v3) :
    Calls Try.prog 6 #[v0, v1, v2, v3] w (Gives w (.bool true)) := by
  obtain ⟨ts, rfl, htl, htb⟩ := open_table enc w v0 o0 h0
  obtain ⟨s, rfl, ws⟩ := open_nat Try.underlying23 o1 h1
  obtain ⟨pa, ka, xs, rfl, ha⟩ := open_bytes Try.underlying22 Try.underlying5 (by kernel_rfl) o2 h2
  obtain ⟨pb, kb, bs, rfl, hb⟩ := open_bytes Try.underlying22 Try.underlying5 (by kernel_rfl) o3 h3
  clear o0 h0 o1 h1 o2 h2 o3 h3
  obtain ⟨s0, s1⟩ := bounds_u32 ws
  obtain ⟨s, rfl⟩ := Int.eq_ofNat_of_zero_le s0
  have hs : s < 4294967296 := by omega
  clear ws s0 s1
  have hla := ha.le
  have hlb := hb.le
  have hb0 := bthenAlloc (Below.refl w.heap.size w) (.cells (tabv ts) 25)
  by_cases hA : 10000 < xs.length
  · have hd : decide ((10000 : Int) < (xs.length : Int)) = true := by rw [decide_eq_true_eq]; omega
    clear htb
    go_enter Try.func6, Try.ntmps6
    go_wp2_with fail
    refine (alive_code _).mono ?_; rintro e w1 ⟨rfl, hb1⟩
    go_wp2
    go_ret
    exact ⟨rfl, bthen hb0 hb1⟩
  · have hd : decide ((10000 : Int) < (xs.length : Int)) = false := by rw [decide_eq_false_iff_not]; omega
    by_cases hB : 10000 < bs.length
    · have hd2 : decide ((10000 : Int) < (bs.length : Int)) = true := by rw [decide_eq_true_eq]; omega
      clear htb hA
      go_enter Try.func6, Try.ntmps6
      go_wp2_with fail
      refine (alive_code _).mono ?_; rintro e w1 ⟨rfl, hb1⟩
      go_wp2
      go_ret
      exact ⟨rfl, bthen hb0 hb1⟩
    · have hd2 : decide ((10000 : Int) < (bs.length : Int)) = false := by rw [decide_eq_false_iff_not]; omega
      have hba : xs.length ≤ 10000 := by omega
      have hbb : bs.length ≤ 10000 := by omega
      clear hA hB
      have hTl := info_tabl ts htl
      have hu := Try.underlying25
      have hB0 := Block.new w (tabv ts) 25
      obtain ⟨i0, hi, hz0, hz1, hz2⟩ := info_parts infoB
      have eC : crc ts s (xs ++ bs) = crc ts (crc ts s xs) bs := crc_append ts htb s xs bs
      have eA : adler s (xs ++ bs) = adler (adler s xs) bs := adler_append s hs xs bs
      have hDb := crc_lt ts s xs
      have hEb := adler_lt s hs xs
      have cc := fun a cap w => crc_code ts htl htb s hs a cap (xs ++ bs) w
      have cd := fun a cap w => crc_code ts htl htb s hs a cap xs w
      have ce := fun a cap w => crc_code ts htl htb (crc ts s xs) hDb a cap bs w
      have ca := fun a cap w => adler_code s hs a cap (xs ++ bs) w
      have cb := fun a cap w => adler_code s hs a cap xs w
      have cf := fun a cap w => adler_code (adler s xs) hEb a cap bs w
      simp only [List.length_append] at cc ca
      rw [← eC] at ce
      rw [← eA] at cf
      clear htb eC eA hDb hEb
      generalize crc ts s (xs ++ bs) = C at *
      generalize crc ts s xs = D at *
      generalize adler s (xs ++ bs) = A at *
      generalize adler s xs = E at *
      have CC := Lib.hid cc
      have CD := Lib.hid cd
      have CE := Lib.hid ce
      have CA := Lib.hid ca
      have CB := Lib.hid cb
      have CF := Lib.hid cf
      clear cc cd ce ca cb cf
      rw [tabv_l] at *
      generalize tabl ts = L at *
      have HW := Lib.hid (And.intro hla hlb); clear hla hlb
      go_enter Try.func6, Try.ntmps6
      go_wp2_with fail
      refine (alive_code _).mono ?_; rintro e w1 ⟨rfl, hb1⟩
      have ha1 : BRow w1 pa ka xs := ha.below (bthen hb0 hb1) rfl
      have hb1' : BRow w1 pb kb bs := hb.below (bthen hb0 hb1) rfl
      have hB1 := hB0.below hb1 hB0.lt
      have hz := hb1.size
      have hbase : w.heap.size + 1 ≤ w1.heap.size := by simpa using hz
      clear hz
      go_wp2_with (first | (refine wpList_append_row rfl _ _ 22 rfl (w.heap.size + 1) 5 i0 (.int .u8 0) 1 1 Try.underlying22 hi hz0 hz1 hz2 rfl (by decide) (.slice none 0 0) 0 [] rfl (World.ownsRow_nil _ _ _ _) _ _ _ (xs.map bv) rfl ha1 (one_bv xs) (by omega) (by decide) hbase ?_; intro v2 w2 hown2 hg2 _; simp only [Nat.zero_add, List.nil_append] at hown2; have hb2 := hb1'.below ((Below.refl w1.heap.size w1).grown hg2 (Nat.le_refl _) (fun k hk => by cases hk)) rfl) | (refine wpList_append_row rfl _ _ 22 rfl (w.heap.size + 1) 5 i0 (.int .u8 0) 1 1 Try.underlying22 hi hz0 hz1 hz2 rfl (by decide) v2 xs.length (xs.map bv) rfl hown2 _ _ _ (bs.map bv) rfl hb2 (one_bv bs) (by omega) (by decide) (Nat.le_trans hbase hg2.size) ?_; intro v3 w3 hown3 hg3 _))
      have hbel2 : Below w.heap.size w w2 := (bthen hb0 hb1).grown hg2 (by have := hbase; omega) (fun k hk => by cases hk)
      have hbel3 : Below w.heap.size w w3 := hbel2.grown hg3 (by have := hg2.size; omega) (fun k hk => by have := owns_base hown2 hk; omega)
      have hB3 : Block w3 w.heap.size L.toArray 25 := (hB1.grown hg2 (by simp [Value.ownBlock])).grown hg3 (fun h => by have := owns_base hown2 h.symm; omega)
      rw [show xs.map bv ++ bs.map bv = (xs ++ bs).map bv from by simp, show xs.length + bs.length = (xs ++ bs).length from by simp] at hown3
      obtain ⟨p3, k3, rfl, hall⟩ := BRow.of_owns hown3
      have hra : BRow w3 pa ka xs := ha.below hbel3 rfl
      have hrb : BRow w3 pb kb bs := hb.below hbel3 rfl
      have hlt3 := hB3.lt
      clear hown2 hown3 hg2 hg3 hB0 hB1 ha1 hb1' hb2 hb ha
      refine wp_region_held_drew (S := fun w' => Below w3.heap.size w3 w' ∧ w'.rangeAt w.heap.size 0 L) (by kernel_rfl) ?_ (fun hHeld => ?_)
      · exact ⟨bthenDrew (Below.refl _ _), rangeAt_block hB3⟩
      refine wpAnyH_take (i := 0) (v := ?vr0) rfl (by kernel_rfl) (by kernel_rfl) (by kernel_rfl) (fun _ _ _ h => h) (Or.inl ⟨by rfl, ?yr0⟩) hHeld ?kr0
      case yr0 => (intro w hSw; (try dsimp only at hSw); go_simp; (try with_reducible rfl))
      try simp only [List.getElem_toArray, List.getElem_cons_zero, List.getElem_cons_succ, Act.put, List.setIfInBounds_toArray, List.set_cons_zero, List.set_cons_succ]
      refine wpAnyH_take (i := 1) (v := ?vr1) rfl (by kernel_rfl) (by kernel_rfl) (by kernel_rfl) (fun _ _ _ h => h) (Or.inl ⟨by rfl, ?yr1⟩) hHeld ?kr1
      case yr1 => (intro w hSw; (try dsimp only at hSw); go_simp; (try with_reducible rfl))
      try simp only [List.getElem_toArray, List.getElem_cons_zero, List.getElem_cons_succ, Act.put, List.setIfInBounds_toArray, List.set_cons_zero, List.set_cons_succ]
      refine wpAnyH_take (i := 2) (v := .agg (L).toArray) rfl (by kernel_rfl) (by kernel_rfl) (by kernel_rfl) (fun _ _ _ h => h) (yieldsIf_load_mid (by rfl) _ _ rfl _ _ rfl (L) _ (fun w h => h.2) hu rfl hTl) hHeld ?_
      try simp only [List.getElem_toArray, List.getElem_cons_zero, List.getElem_cons_succ, Act.put, List.setIfInBounds_toArray, List.set_cons_zero, List.set_cons_succ]
      refine wpAnyH_take (i := 6) (v := .agg (L).toArray) rfl (by kernel_rfl) (by kernel_rfl) (by kernel_rfl) (fun _ _ _ h => h) (yieldsIf_load_mid (by rfl) _ _ rfl _ _ rfl (L) _ (fun w h => h.2) hu rfl hTl) hHeld ?_
      try simp only [List.getElem_toArray, List.getElem_cons_zero, List.getElem_cons_succ, Act.put, List.setIfInBounds_toArray, List.set_cons_zero, List.set_cons_succ]
      refine wpAnyH_take (i := 7) (v := .agg (L).toArray) rfl (by kernel_rfl) (by kernel_rfl) (by kernel_rfl) (fun _ _ _ h => h) (yieldsIf_load_mid (by rfl) _ _ rfl _ _ rfl (L) _ (fun w h => h.2) hu rfl hTl) hHeld ?_
      try simp only [List.getElem_toArray, List.getElem_cons_zero, List.getElem_cons_succ, Act.put, List.setIfInBounds_toArray, List.set_cons_zero, List.set_cons_succ]
      refine wpAnyH_take (i := 3) (v := ?vr3) rfl (by kernel_rfl) (by kernel_rfl) (by kernel_rfl) (fun _ _ _ h => h) (Or.inl ⟨by rfl, ?yr3⟩) hHeld ?kr3
      case yr3 => (intro w hSw; (try dsimp only at hSw); go_simp; (try with_reducible rfl))
      try simp only [List.getElem_toArray, List.getElem_cons_zero, List.getElem_cons_succ, Act.put, List.setIfInBounds_toArray, List.set_cons_zero, List.set_cons_succ]
      refine wpAnyH_take (i := 4) (v := ?vr4) rfl (by kernel_rfl) (by kernel_rfl) (by kernel_rfl) (fun _ _ _ h => h) (Or.inl ⟨by rfl, ?yr4⟩) hHeld ?kr4
      case yr4 => (intro w hSw; (try dsimp only at hSw); go_simp; (try with_reducible rfl))
      try simp only [List.getElem_toArray, List.getElem_cons_zero, List.getElem_cons_succ, Act.put, List.setIfInBounds_toArray, List.set_cons_zero, List.set_cons_succ]
      refine wpAnyH_take (i := 8) (v := ?vr8) rfl (by kernel_rfl) (by kernel_rfl) (by kernel_rfl) (fun _ _ _ h => h) (Or.inl ⟨by rfl, ?yr8⟩) hHeld ?kr8
      case yr8 => (intro w hSw; (try dsimp only at hSw); go_simp; (try with_reducible rfl))
      try simp only [List.getElem_toArray, List.getElem_cons_zero, List.getElem_cons_succ, Act.put, List.setIfInBounds_toArray, List.set_cons_zero, List.set_cons_succ]
      refine wpAnyH_take (i := 9) (v := ?vr9) rfl (by kernel_rfl) (by kernel_rfl) (by kernel_rfl) (fun _ _ _ h => h) (Or.inl ⟨by rfl, ?yr9⟩) hHeld ?kr9
      case yr9 => (intro w hSw; (try dsimp only at hSw); go_simp; (try with_reducible rfl))
      try simp only [List.getElem_toArray, List.getElem_cons_zero, List.getElem_cons_succ, Act.put, List.setIfInBounds_toArray, List.set_cons_zero, List.set_cons_succ]
      refine wpAnyH_take (i := 11) (v := ?vr11) rfl (by kernel_rfl) (by kernel_rfl) (by kernel_rfl) (fun _ _ _ h => h) (Or.inl ⟨by rfl, ?yr11⟩) hHeld ?kr11
      case yr11 => (intro w hSw; (try dsimp only at hSw); go_simp; (try with_reducible rfl))
      try simp only [List.getElem_toArray, List.getElem_cons_zero, List.getElem_cons_succ, Act.put, List.setIfInBounds_toArray, List.set_cons_zero, List.set_cons_succ]
      refine wpAnyH_ready (rs := [5]) (by kernel_rfl) (by simp) (AllReadyH.cons rfl (fun K hK => ?_) AllReadyH.nil)
      simp only [List.getElem_toArray, List.getElem_cons_zero, List.getElem_cons_succ]
      rw [if_pos (by rfl)]
      go_wp2_with fail
      refine (CC.out _ _ _ (hall.below hHeld.1 rfl)).mono ?_; rintro e w4 ⟨rfl, hb⟩
      dsimp only
      refine hK.out _ _ ?_ (fun hHeld2 => ?_)
      · exact Held.next hHeld hb hlt3
      clear hHeld hK K
      have hHeld := hHeld2
      clear hHeld2
      try simp only [List.getElem_toArray, List.getElem_cons_zero, List.getElem_cons_succ, Act.put, List.setIfInBounds_toArray, List.set_cons_zero, List.set_cons_succ]
      refine wpAnyH_ready (rs := [10]) (by kernel_rfl) (by simp) (AllReadyH.cons rfl (fun K hK => ?_) AllReadyH.nil)
      simp only [List.getElem_toArray, List.getElem_cons_zero, List.getElem_cons_succ]
      rw [if_pos (by rfl)]
      go_wp2_with fail
      refine (CD.out _ _ _ (hra.below hHeld.1 rfl)).mono ?_; rintro e w4 ⟨rfl, hb⟩
      dsimp only
      refine hK.out _ _ ?_ (fun hHeld2 => ?_)
      · exact Held.next hHeld hb hlt3
      clear hHeld hK K
      have hHeld := hHeld2
      clear hHeld2
      try simp only [List.getElem_toArray, List.getElem_cons_zero, List.getElem_cons_succ, Act.put, List.setIfInBounds_toArray, List.set_cons_zero, List.set_cons_succ]
      refine wpAnyH_ready (rs := [12]) (by kernel_rfl) (by simp) (AllReadyH.cons rfl (fun K hK => ?_) AllReadyH.nil)
      simp only [List.getElem_toArray, List.getElem_cons_zero, List.getElem_cons_succ]
      rw [if_pos (by rfl)]
      go_wp2_with fail
      refine (CE.out _ _ _ (hrb.below hHeld.1 rfl)).mono ?_; rintro e w4 ⟨rfl, hb⟩
      dsimp only
      refine hK.out _ _ ?_ (fun hHeld2 => ?_)
      · exact Held.next hHeld hb hlt3
      clear hHeld hK K
      have hHeld := hHeld2
      clear hHeld2
      try simp only [List.getElem_toArray, List.getElem_cons_zero, List.getElem_cons_succ, Act.put, List.setIfInBounds_toArray, List.set_cons_zero, List.set_cons_succ]
      refine wpAnyH_take (i := 13) (v := ?vr13) rfl (by kernel_rfl) (by kernel_rfl) (by kernel_rfl) (fun _ _ _ h => h) (Or.inl ⟨by rfl, ?yr13⟩) hHeld ?kr13
      case yr13 => (intro w hSw; (try dsimp only at hSw); go_simp; (try with_reducible rfl))
      try simp only [List.getElem_toArray, List.getElem_cons_zero, List.getElem_cons_succ, Act.put, List.setIfInBounds_toArray, List.set_cons_zero, List.set_cons_succ]
      refine wpAnyH_take (i := 14) (v := ?vr14) rfl (by kernel_rfl) (by kernel_rfl) (by kernel_rfl) (fun _ _ _ h => h) (Or.inl ⟨by rfl, ?yr14⟩) hHeld ?kr14
      case yr14 => (intro w hSw; (try dsimp only at hSw); go_simp; (try with_reducible rfl))
      try simp only [List.getElem_toArray, List.getElem_cons_zero, List.getElem_cons_succ, Act.put, List.setIfInBounds_toArray, List.set_cons_zero, List.set_cons_succ]
      refine wpAnyH_take (i := 15) (v := ?vr15) rfl (by kernel_rfl) (by kernel_rfl) (by kernel_rfl) (fun _ _ _ h => h) (Or.inl ⟨by rfl, ?yr15⟩) hHeld ?kr15
      case yr15 => (intro w hSw; (try dsimp only at hSw); go_simp; (try with_reducible rfl))
      try simp only [List.getElem_toArray, List.getElem_cons_zero, List.getElem_cons_succ, Act.put, List.setIfInBounds_toArray, List.set_cons_zero, List.set_cons_succ]
      refine wpAnyH_take (i := 16) (v := ?vr16) rfl (by kernel_rfl) (by kernel_rfl) (by kernel_rfl) (fun _ _ _ h => h) (Or.inl ⟨by rfl, ?yr16⟩) hHeld ?kr16
      case yr16 => (intro w hSw; (try dsimp only at hSw); go_simp; (try with_reducible rfl))
      try simp only [List.getElem_toArray, List.getElem_cons_zero, List.getElem_cons_succ, Act.put, List.setIfInBounds_toArray, List.set_cons_zero, List.set_cons_succ]
      refine wpAnyH_take (i := 17) (v := ?vr17) rfl (by kernel_rfl) (by kernel_rfl) (by kernel_rfl) (fun _ _ _ h => h) (Or.inl ⟨by rfl, ?yr17⟩) hHeld ?kr17
      case yr17 => (intro w hSw; (try dsimp only at hSw); go_simp; (try with_reducible rfl))
      try simp only [List.getElem_toArray, List.getElem_cons_zero, List.getElem_cons_succ, Act.put, List.setIfInBounds_toArray, List.set_cons_zero, List.set_cons_succ]
      refine wpAnyH_take (i := 19) (v := ?vr19) rfl (by kernel_rfl) (by kernel_rfl) (by kernel_rfl) (fun _ _ _ h => h) (Or.inl ⟨by rfl, ?yr19⟩) hHeld ?kr19
      case yr19 => (intro w hSw; (try dsimp only at hSw); go_simp; (try with_reducible rfl))
      try simp only [List.getElem_toArray, List.getElem_cons_zero, List.getElem_cons_succ, Act.put, List.setIfInBounds_toArray, List.set_cons_zero, List.set_cons_succ]
      refine wpAnyH_take (i := 20) (v := ?vr20) rfl (by kernel_rfl) (by kernel_rfl) (by kernel_rfl) (fun _ _ _ h => h) (Or.inl ⟨by rfl, ?yr20⟩) hHeld ?kr20
      case yr20 => (intro w hSw; (try dsimp only at hSw); go_simp; (try with_reducible rfl))
      try simp only [List.getElem_toArray, List.getElem_cons_zero, List.getElem_cons_succ, Act.put, List.setIfInBounds_toArray, List.set_cons_zero, List.set_cons_succ]
      refine wpAnyH_take (i := 22) (v := ?vr22) rfl (by kernel_rfl) (by kernel_rfl) (by kernel_rfl) (fun _ _ _ h => h) (Or.inl ⟨by rfl, ?yr22⟩) hHeld ?kr22
      case yr22 => (intro w hSw; (try dsimp only at hSw); go_simp; (try with_reducible rfl))
      try simp only [List.getElem_toArray, List.getElem_cons_zero, List.getElem_cons_succ, Act.put, List.setIfInBounds_toArray, List.set_cons_zero, List.set_cons_succ]
      refine wpAnyH_ready (rs := [18]) (by kernel_rfl) (by simp) (AllReadyH.cons rfl (fun K hK => ?_) AllReadyH.nil)
      simp only [List.getElem_toArray, List.getElem_cons_zero, List.getElem_cons_succ]
      rw [if_pos (by rfl)]
      go_wp2_with fail
      refine (CA.out _ _ _ (hall.below hHeld.1 rfl)).mono ?_; rintro e w4 ⟨rfl, hb⟩
      dsimp only
      refine hK.out _ _ ?_ (fun hHeld2 => ?_)
      · exact Held.next hHeld hb hlt3
      clear hHeld hK K
      have hHeld := hHeld2
      clear hHeld2
      try simp only [List.getElem_toArray, List.getElem_cons_zero, List.getElem_cons_succ, Act.put, List.setIfInBounds_toArray, List.set_cons_zero, List.set_cons_succ]
      refine wpAnyH_ready (rs := [21]) (by kernel_rfl) (by simp) (AllReadyH.cons rfl (fun K hK => ?_) AllReadyH.nil)
      simp only [List.getElem_toArray, List.getElem_cons_zero, List.getElem_cons_succ]
      rw [if_pos (by rfl)]
      go_wp2_with fail
      refine (CB.out _ _ _ (hra.below hHeld.1 rfl)).mono ?_; rintro e w4 ⟨rfl, hb⟩
      dsimp only
      refine hK.out _ _ ?_ (fun hHeld2 => ?_)
      · exact Held.next hHeld hb hlt3
      clear hHeld hK K
      have hHeld := hHeld2
      clear hHeld2
      try simp only [List.getElem_toArray, List.getElem_cons_zero, List.getElem_cons_succ, Act.put, List.setIfInBounds_toArray, List.set_cons_zero, List.set_cons_succ]
      refine wpAnyH_ready (rs := [23]) (by kernel_rfl) (by simp) (AllReadyH.cons rfl (fun K hK => ?_) AllReadyH.nil)
      simp only [List.getElem_toArray, List.getElem_cons_zero, List.getElem_cons_succ]
      rw [if_pos (by rfl)]
      go_wp2_with fail
      refine (CF.out _ _ _ (hrb.below hHeld.1 rfl)).mono ?_; rintro e w4 ⟨rfl, hb⟩
      dsimp only
      refine hK.out _ _ ?_ (fun hHeld2 => ?_)
      · exact Held.next hHeld hb hlt3
      clear hHeld hK K
      have hHeld := hHeld2
      clear hHeld2
      try simp only [List.getElem_toArray, List.getElem_cons_zero, List.getElem_cons_succ, Act.put, List.setIfInBounds_toArray, List.set_cons_zero, List.set_cons_succ]
      refine wpAnyH_take (i := 24) (v := ?vr24) rfl (by kernel_rfl) (by kernel_rfl) (by kernel_rfl) (fun _ _ _ h => h) (Or.inl ⟨by rfl, ?yr24⟩) hHeld ?kr24
      case yr24 => (intro w hSw; (try dsimp only at hSw); go_simp; (try with_reducible rfl))
      try simp only [List.getElem_toArray, List.getElem_cons_zero, List.getElem_cons_succ, Act.put, List.setIfInBounds_toArray, List.set_cons_zero, List.set_cons_succ]
      refine wpAnyH_take (i := 25) (v := ?vr25) rfl (by kernel_rfl) (by kernel_rfl) (by kernel_rfl) (fun _ _ _ h => h) (Or.inl ⟨by rfl, ?yr25⟩) hHeld ?kr25
      case yr25 => (intro w hSw; (try dsimp only at hSw); go_simp; (try with_reducible rfl))
      try simp only [List.getElem_toArray, List.getElem_cons_zero, List.getElem_cons_succ, Act.put, List.setIfInBounds_toArray, List.set_cons_zero, List.set_cons_succ]
      refine wpAnyH_take (i := 26) (v := ?vr26) rfl (by kernel_rfl) (by kernel_rfl) (by kernel_rfl) (fun _ _ _ h => h) (Or.inl ⟨by rfl, ?yr26⟩) hHeld ?kr26
      case yr26 => (intro w hSw; (try dsimp only at hSw); go_simp; (try with_reducible rfl))
      try simp only [List.getElem_toArray, List.getElem_cons_zero, List.getElem_cons_succ, Act.put, List.setIfInBounds_toArray, List.set_cons_zero, List.set_cons_succ]
      refine wpAnyH_done (by kernel_rfl) ?_ _

      go_wp2
      go_ret
      exact ⟨rfl, bthen hbel3 hHeld.1⟩
end SumsD
end Go.Proofs.Ytcgdfdedjbjilaa

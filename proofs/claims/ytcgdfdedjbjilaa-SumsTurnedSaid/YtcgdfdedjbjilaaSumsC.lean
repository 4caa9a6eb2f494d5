/- SumsC: the laws over the sums, walked: regions that draw their order. -/
import Derived.Test.YtcgdfdedjbjilaaSumsB
namespace Go.Proofs.Ytcgdfdedjbjilaa
open Go.RowKit Go.Bw Go.Bw.Sums SumsA SumsB
namespace SumsC

/-- A table that was handed in. -/
theorem open_table {H : Type} (enc : TypeId × Value → H) {base : Nat} (w : World) (v : Value) (o : Value.okWide Try.prog w .any base 25 v) (h : Tr enc Try.prog w 25 v) :
    ∃ ts : List Nat, v = .agg (tabv ts) ∧ ts.length = 256 ∧ ∀ i, ts.getD i 0 < 4294967296 := by
  obtain ⟨zs, rfl, hl, hw⟩ := open_array Try.underlying25 Try.underlying23 (by kernel_rfl) (by kernel_rfl) o h
  obtain ⟨ns, hn, hnl, hb⟩ := nats_of (k := .u32) (B := 4294967296) zs hw (fun z hz => by have := bounds_u32 hz; omega)
  refine ⟨ns, by rw [hn]; rfl, by omega, fun i => ?_⟩
  by_cases hi : i < ns.length
  · have : ns.getD i 0 = ns[i] := by simp [hi]
    rw [this]; exact hb _ (List.getElem_mem hi)
  · simp [hi]

/-- A table's cells. -/
def tabl (ts : List Nat) : List Value := ts.map fun n : Nat => Value.int .u32 (n : Int)
theorem tabv_l (ts : List Nat) : tabv ts = (tabl ts).toArray := rfl
theorem info_tabl (ts : List Nat) (h : ts.length = 256) : (Try.prog.info? 25).map (·.size) = some (tabl ts).length := by
  rw [show (tabl ts).length = 256 from by simp [tabl, h]]; kernel_rfl
theorem info_tab (ts : List Nat) (h : ts.length = 256) : (Try.prog.info? 25).map (·.size) = some (tabv ts).size := by
  rw [show (tabv ts).size = 256 from by simp [tabv, h]]; kernel_rfl
theorem eql_tab (w : World) : (Op.equalIn 10000 25 (.agg (tabv tab)) (.agg (tabv tab))).run Try.prog w = .ok true w := by kernel_rfl
theorem infoB : (Try.prog.info? 5).map (fun i => (i.zero, i.size, i.bytes)) = some (some (.int .u8 0), 1, 1) := by kernel_rfl
theorem one_bv (bs : List UInt8) : ∀ u ∈ bs.map bv, u.oneCell' = true := by
  intro u hu; simp only [List.mem_map] at hu; obtain ⟨x, _, rfl⟩ := hu; rfl

set_option maxRecDepth 100000 in
set_option maxHeartbeats 4000000 in
theorem tell_walk {H : Type} (enc : TypeId × Value → H) {base : Nat} (w : World) (v0 v1 v2 : Value) (o0 : Value.okWide Try.prog w .any base 25 v0) (o1 : Value.okWide Try.prog w .any base 23 v1) (o2 : Value.okWide Try.prog w .any base 22 v2)
    (h0 : Tr enc Try.prog w 25 v0) (h1 : Tr enc Try.prog w 23 v1) (h2 : Tr enc Try.prog w 22 v2) :
    Calls Try.prog 5 #[v0, v1, v2] w (Gives w (.bool true)) := by
  obtain ⟨ts, rfl, htl, htb⟩ := open_table enc w v0 o0 h0
  obtain ⟨s, rfl, ws⟩ := open_nat Try.underlying23 o1 h1
  obtain ⟨a, cap, bs, rfl, hr⟩ := open_bytes Try.underlying22 Try.underlying5 (by kernel_rfl) o2 h2
  clear o0 h0 o1 h1 o2 h2
  obtain ⟨s0, s1⟩ := bounds_u32 ws
  obtain ⟨s, rfl⟩ := Int.eq_ofNat_of_zero_le s0
  have hs : s < 4294967296 := by omega
  clear ws s0 s1
  have hlen := hr.le
  have hT := info_tab ts htl
  by_cases hb : 20000 < bs.length
  · have hd : decide ((20000 : Int) < (bs.length : Int)) = true := by rw [decide_eq_true_eq]; omega
    clear htb
    go_enter Try.func5, Try.ntmps5
    go_wp2
    go_ret
    exact ⟨rfl, bthenAlloc (Below.refl _ _) _⟩
  · have hd : decide ((20000 : Int) < (bs.length : Int)) = false := by rw [decide_eq_false_iff_not]; omega
    have hbd : bs.length ≤ 20000 := by omega
    clear hb
    have hTl := info_tabl ts htl
    have hu := Try.underlying25
    have hB0 := Block.new w (tabv ts) 25
    have hr0 := hr.below (bthenAlloc (Below.refl w.heap.size w) (.cells (tabv ts) 25)) rfl
    obtain ⟨i0, hi, hz0, hz1, hz2⟩ := info_parts infoB
    have HC := Lib.hid htb; clear htb
    have cc := fun a cap w => crc_code ts htl HC.out s hs a cap bs w
    have cr := fun a cap w => refcrc_code ts htl HC.out s hs a cap bs w
    have ca := fun a cap w => adler_code s hs a cap bs w
    have cb := fun a cap w => refadler_code s hs a cap bs w
    generalize crc ts s bs = C at *
    generalize adler s bs = A at *
    have CC := Lib.hid cc
    have CR := Lib.hid cr
    have CA := Lib.hid ca
    have CB := Lib.hid cb
    clear cc cr ca cb
    have HW := Lib.hid hlen; clear hlen hT
    rw [tabv_l] at *
    generalize tabl ts = L at *
    go_enter Try.func5, Try.ntmps5
    go_wp2_with (refine wpList_append_row rfl _ _ 22 rfl (w.heap.size + 1) 5 i0 (.int .u8 0) 1 1 Try.underlying22 hi hz0 hz1 hz2 rfl (by decide) (.slice none 0 0) 0 [] rfl (World.ownsRow_nil _ _ _ _) _ _ _ (bs.map bv) rfl hr0 (one_bv bs) (by omega) (by decide) (by simp) ?_; intro v1 w1 hown hg _)
    have hb1 : Below w.heap.size w w1 := (bthenAlloc (Below.refl _ _) _).grown hg (by simp) (fun k hk => by cases hk)
    have hB1 : Block w1 w.heap.size L.toArray 25 := hB0.grown hg (by simp [Value.ownBlock])
    have hr1 : BRow w1 a cap bs := hr.below hb1 rfl
    rw [Nat.zero_add] at hown
    obtain ⟨a1, cap1, rfl, hr1'⟩ := BRow.of_owns hown
    have hlt1 := hB1.lt
    clear hg hown hB0 hr0
    refine wp_region_held_drew (S := fun w' => Below w1.heap.size w1 w' ∧ w'.rangeAt w.heap.size 0 L) (by kernel_rfl) ?_ (fun hHeld => ?_)
    · exact ⟨bthenDrew (Below.refl _ _), rangeAt_block hB1⟩
    refine wpAnyH_take (i := 0) (v := .agg (L).toArray) rfl (by kernel_rfl) (by kernel_rfl) (by kernel_rfl) (fun _ _ _ h => h) (yieldsIf_load_mid (by rfl) _ _ rfl _ _ rfl (L) _ (fun w h => h.2) hu rfl hTl) hHeld ?_
    try simp only [List.getElem_toArray, List.getElem_cons_zero, List.getElem_cons_succ, Act.put, List.setIfInBounds_toArray, List.set_cons_zero, List.set_cons_succ]
    refine wpAnyH_take (i := 4) (v := .agg (L).toArray) rfl (by kernel_rfl) (by kernel_rfl) (by kernel_rfl) (fun _ _ _ h => h) (yieldsIf_load_mid (by rfl) _ _ rfl _ _ rfl (L) _ (fun w h => h.2) hu rfl hTl) hHeld ?_
    try simp only [List.getElem_toArray, List.getElem_cons_zero, List.getElem_cons_succ, Act.put, List.setIfInBounds_toArray, List.set_cons_zero, List.set_cons_succ]
    refine wpAnyH_take (i := 1) (v := ?vr1) rfl (by kernel_rfl) (by kernel_rfl) (by kernel_rfl) (fun _ _ _ h => h) (Or.inl ⟨by rfl, ?yr1⟩) hHeld ?kr1
    case yr1 => (intro w hSw; (try dsimp only at hSw); go_simp; (try with_reducible rfl))
    try simp only [List.getElem_toArray, List.getElem_cons_zero, List.getElem_cons_succ, Act.put, List.setIfInBounds_toArray, List.set_cons_zero, List.set_cons_succ]
    refine wpAnyH_take (i := 2) (v := ?vr2) rfl (by kernel_rfl) (by kernel_rfl) (by kernel_rfl) (fun _ _ _ h => h) (Or.inl ⟨by rfl, ?yr2⟩) hHeld ?kr2
    case yr2 => (intro w hSw; (try dsimp only at hSw); go_simp; (try with_reducible rfl))
    try simp only [List.getElem_toArray, List.getElem_cons_zero, List.getElem_cons_succ, Act.put, List.setIfInBounds_toArray, List.set_cons_zero, List.set_cons_succ]
    refine wpAnyH_take (i := 5) (v := ?vr5) rfl (by kernel_rfl) (by kernel_rfl) (by kernel_rfl) (fun _ _ _ h => h) (Or.inl ⟨by rfl, ?yr5⟩) hHeld ?kr5
    case yr5 => (intro w hSw; (try dsimp only at hSw); go_simp; (try with_reducible rfl))
    try simp only [List.getElem_toArray, List.getElem_cons_zero, List.getElem_cons_succ, Act.put, List.setIfInBounds_toArray, List.set_cons_zero, List.set_cons_succ]
    refine wpAnyH_take (i := 6) (v := ?vr6) rfl (by kernel_rfl) (by kernel_rfl) (by kernel_rfl) (fun _ _ _ h => h) (Or.inl ⟨by rfl, ?yr6⟩) hHeld ?kr6
    case yr6 => (intro w hSw; (try dsimp only at hSw); go_simp; (try with_reducible rfl))
    try simp only [List.getElem_toArray, List.getElem_cons_zero, List.getElem_cons_succ, Act.put, List.setIfInBounds_toArray, List.set_cons_zero, List.set_cons_succ]
    refine wpAnyH_ready (rs := [3]) (by kernel_rfl) (by simp) (AllReadyH.cons rfl (fun K hK => ?_) AllReadyH.nil)
    simp only [List.getElem_toArray, List.getElem_cons_zero, List.getElem_cons_succ]
    rw [if_pos (by rfl)]
    go_wp2_with fail
    refine (CC.out _ _ _ (hr1'.below hHeld.1 rfl)).mono ?_; rintro e w2 ⟨rfl, hb⟩
    dsimp only
    refine hK.out _ _ ?_ (fun hHeld2 => ?_)
    · exact Held.next hHeld hb hlt1
    clear hHeld hK K
    have hHeld := hHeld2
    clear hHeld2
    try simp only [List.getElem_toArray, List.getElem_cons_zero, List.getElem_cons_succ, Act.put, List.setIfInBounds_toArray, List.set_cons_zero, List.set_cons_succ]
    refine wpAnyH_ready (rs := [7]) (by kernel_rfl) (by simp) (AllReadyH.cons rfl (fun K hK => ?_) AllReadyH.nil)
    simp only [List.getElem_toArray, List.getElem_cons_zero, List.getElem_cons_succ]
    rw [if_pos (by rfl)]
    go_wp2_with fail
    refine (CR.out _ _ _ (hr1.below hHeld.1 rfl)).mono ?_; rintro e w2 ⟨rfl, hb⟩
    dsimp only
    refine hK.out _ _ ?_ (fun hHeld2 => ?_)
    · exact Held.next hHeld hb hlt1
    clear hHeld hK K
    have hHeld := hHeld2
    clear hHeld2
    try simp only [List.getElem_toArray, List.getElem_cons_zero, List.getElem_cons_succ, Act.put, List.setIfInBounds_toArray, List.set_cons_zero, List.set_cons_succ]
    refine wpAnyH_take (i := 8) (v := ?vr8) rfl (by kernel_rfl) (by kernel_rfl) (by kernel_rfl) (fun _ _ _ h => h) (Or.inl ⟨by rfl, ?yr8⟩) hHeld ?kr8
    case yr8 => (intro w hSw; (try dsimp only at hSw); go_simp; (try with_reducible rfl))
    try simp only [List.getElem_toArray, List.getElem_cons_zero, List.getElem_cons_succ, Act.put, List.setIfInBounds_toArray, List.set_cons_zero, List.set_cons_succ]
    refine wpAnyH_take (i := 9) (v := ?vr9) rfl (by kernel_rfl) (by kernel_rfl) (by kernel_rfl) (fun _ _ _ h => h) (Or.inl ⟨by rfl, ?yr9⟩) hHeld ?kr9
    case yr9 => (intro w hSw; (try dsimp only at hSw); go_simp; (try with_reducible rfl))
    try simp only [List.getElem_toArray, List.getElem_cons_zero, List.getElem_cons_succ, Act.put, List.setIfInBounds_toArray, List.set_cons_zero, List.set_cons_succ]
    refine wpAnyH_take (i := 10) (v := ?vr10) rfl (by kernel_rfl) (by kernel_rfl) (by kernel_rfl) (fun _ _ _ h => h) (Or.inl ⟨by rfl, ?yr10⟩) hHeld ?kr10
    case yr10 => (intro w hSw; (try dsimp only at hSw); go_simp; (try with_reducible rfl))
    try simp only [List.getElem_toArray, List.getElem_cons_zero, List.getElem_cons_succ, Act.put, List.setIfInBounds_toArray, List.set_cons_zero, List.set_cons_succ]
    refine wpAnyH_take (i := 11) (v := ?vr11) rfl (by kernel_rfl) (by kernel_rfl) (by kernel_rfl) (fun _ _ _ h => h) (Or.inl ⟨by rfl, ?yr11⟩) hHeld ?kr11
    case yr11 => (intro w hSw; (try dsimp only at hSw); go_simp; (try with_reducible rfl))
    try simp only [List.getElem_toArray, List.getElem_cons_zero, List.getElem_cons_succ, Act.put, List.setIfInBounds_toArray, List.set_cons_zero, List.set_cons_succ]
    refine wpAnyH_take (i := 13) (v := ?vr13) rfl (by kernel_rfl) (by kernel_rfl) (by kernel_rfl) (fun _ _ _ h => h) (Or.inl ⟨by rfl, ?yr13⟩) hHeld ?kr13
    case yr13 => (intro w hSw; (try dsimp only at hSw); go_simp; (try with_reducible rfl))
    try simp only [List.getElem_toArray, List.getElem_cons_zero, List.getElem_cons_succ, Act.put, List.setIfInBounds_toArray, List.set_cons_zero, List.set_cons_succ]
    refine wpAnyH_take (i := 14) (v := ?vr14) rfl (by kernel_rfl) (by kernel_rfl) (by kernel_rfl) (fun _ _ _ h => h) (Or.inl ⟨by rfl, ?yr14⟩) hHeld ?kr14
    case yr14 => (intro w hSw; (try dsimp only at hSw); go_simp; (try with_reducible rfl))
    try simp only [List.getElem_toArray, List.getElem_cons_zero, List.getElem_cons_succ, Act.put, List.setIfInBounds_toArray, List.set_cons_zero, List.set_cons_succ]
    refine wpAnyH_ready (rs := [12]) (by kernel_rfl) (by simp) (AllReadyH.cons rfl (fun K hK => ?_) AllReadyH.nil)
    simp only [List.getElem_toArray, List.getElem_cons_zero, List.getElem_cons_succ]
    rw [if_pos (by rfl)]
    go_wp2_with fail
    refine (CA.out _ _ _ (hr1'.below hHeld.1 rfl)).mono ?_; rintro e w2 ⟨rfl, hb⟩
    dsimp only
    refine hK.out _ _ ?_ (fun hHeld2 => ?_)
    · exact Held.next hHeld hb hlt1
    clear hHeld hK K
    have hHeld := hHeld2
    clear hHeld2
    try simp only [List.getElem_toArray, List.getElem_cons_zero, List.getElem_cons_succ, Act.put, List.setIfInBounds_toArray, List.set_cons_zero, List.set_cons_succ]
    refine wpAnyH_ready (rs := [15]) (by kernel_rfl) (by simp) (AllReadyH.cons rfl (fun K hK => ?_) AllReadyH.nil)
    simp only [List.getElem_toArray, List.getElem_cons_zero, List.getElem_cons_succ]
    rw [if_pos (by rfl)]
    go_wp2_with fail
    refine (CB.out _ _ _ (hr1.below hHeld.1 rfl)).mono ?_; rintro e w2 ⟨rfl, hb⟩
    dsimp only
    refine hK.out _ _ ?_ (fun hHeld2 => ?_)
    · exact Held.next hHeld hb hlt1
    clear hHeld hK K
    have hHeld := hHeld2
    clear hHeld2
    try simp only [List.getElem_toArray, List.getElem_cons_zero, List.getElem_cons_succ, Act.put, List.setIfInBounds_toArray, List.set_cons_zero, List.set_cons_succ]
    refine wpAnyH_take (i := 16) (v := ?vr16) rfl (by kernel_rfl) (by kernel_rfl) (by kernel_rfl) (fun _ _ _ h => h) (Or.inl ⟨by rfl, ?yr16⟩) hHeld ?kr16
    case yr16 => (intro w hSw; (try dsimp only at hSw); go_simp; (try with_reducible rfl))
    try simp only [List.getElem_toArray, List.getElem_cons_zero, List.getElem_cons_succ, Act.put, List.setIfInBounds_toArray, List.set_cons_zero, List.set_cons_succ]
    refine wpAnyH_take (i := 17) (v := ?vr17) rfl (by kernel_rfl) (by kernel_rfl) (by kernel_rfl) (fun _ _ _ h => h) (Or.inl ⟨by rfl, ?yr17⟩) hHeld ?kr17
    case yr17 => (intro w hSw; (try dsimp only at hSw); go_simp; (try with_reducible rfl))
    try simp only [List.getElem_toArray, List.getElem_cons_zero, List.getElem_cons_succ, Act.put, List.setIfInBounds_toArray, List.set_cons_zero, List.set_cons_succ]
    refine wpAnyH_take (i := 18) (v := ?vr18) rfl (by kernel_rfl) (by kernel_rfl) (by kernel_rfl) (fun _ _ _ h => h) (Or.inl ⟨by rfl, ?yr18⟩) hHeld ?kr18
    case yr18 => (intro w hSw; (try dsimp only at hSw); go_simp; (try with_reducible rfl))
    try simp only [List.getElem_toArray, List.getElem_cons_zero, List.getElem_cons_succ, Act.put, List.setIfInBounds_toArray, List.set_cons_zero, List.set_cons_succ]
    refine wpAnyH_done (by kernel_rfl) ?_ _
    go_wp2_with fail
    refine (tablev_code _).mono ?_; rintro e w6 ⟨rfl, hb6⟩
    go_wp2_with fail
    refine (reftablev_code _).mono ?_; rintro e w7 ⟨rfl, hb7⟩
    have hb27 := bthen (bthen hHeld.1 hb6) hb7
    have heq := eql_tab w7
    have hs1 := run_toString (P := Try.prog) (dst := 9) (hr1'.below hb27 rfl) Try.underlying22 Try.underlying5 Try.underlying9
    have hs2 := run_toString (P := Try.prog) (dst := 9) (hr1.below hb27 rfl) Try.underlying22 Try.underlying5 Try.underlying9
    generalize (⟨bs.toArray⟩ : ByteArray) = S at *
    go_wp2
    go_ret
    exact ⟨rfl, bthen hb1 hb27⟩

end SumsC
end Go.Proofs.Ytcgdfdedjbjilaa

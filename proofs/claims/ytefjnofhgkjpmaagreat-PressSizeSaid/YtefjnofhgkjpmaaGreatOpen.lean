/- Open: what a law is handed, opened. No program. -/
import Derived.Test.YtefjnofhgkjpmaaGreatBase
import Derived.Lib.SmallJoins
namespace Go.Bw
open Go.RowKit Go.ChangeShapes Go.WideShapes Go.ChangeAt
section
variable {H : Type} {enc : TypeId × Value → H} {P : Program} {w : World} {base : Nat} {r : Reach} {t e : TypeId} {v : Value} {d : DataW H} {p : List MemPlace}

/-- A value that was handed in and reads as a datum. -/
def Tr (enc : TypeId × Value → H) (P : Program) (w : World) (t : TypeId) (v : Value) : Prop := ∃ d p, DataW.Trod enc P w 0 (fun _ => true) true t v d p

theorem open_nat {k : IntKind} (ht : P.underlying t = some (.int k)) (ho : Value.okWide P w r base t v) (h : Tr enc P w t v) : ∃ n : Int, v = .int k n ∧ (Lit.int k n).wf = true := by
  obtain ⟨n, rfl⟩ := okWide_int ht ho
  obtain ⟨d, p, fuel, hf⟩ := h
  obtain ⟨n', hn, _, hw⟩ := DataW.trod_int ht hf
  simp [Value.cells] at hn; subst hn
  exact ⟨n, rfl, hw⟩

theorem byte_of (n : Int) (h : (Lit.int .u8 n).wf = true) : ((UInt8.ofNat n.toNat).toNat : Int) = n := by
  obtain ⟨h1, h2⟩ := bounds_u8 h
  rw [UInt8_ofNat_toNat_lt _ (by omega)]; omega

/-- One cell that reads as a slice of bytes. -/
theorem bytes_cell {fuel : Nat} {x : DataW H × List MemPlace} (ht : P.underlying t = some (.slice e)) (he : P.underlying e = some (.int .u8)) (hc : P.cellsOf e = 1) (h : DataW.trod enc P w 0 (fun _ => true) true fuel t [v] = some x) :
    ∃ a cap bs, v = .slice a bs.length cap ∧ BRow w a cap bs := by
  rcases open_ints ht he hc h with ⟨hcs, _⟩ | ⟨x, len, cap, zs, hcs, _, hl, hm, hz, _, hcell, hwz⟩
  · simp at hcs
    subst hcs
    exact ⟨none, 0, [], rfl, BRow.nil w⟩
  · simp at hcs
    subst hcs
    simp at hz
    have hlen : ((zs.take len).map fun n => UInt8.ofNat n.toNat).length = len := by simp; omega
    refine ⟨some x, cap, (zs.take len).map fun n => UInt8.ofNat n.toNat, by rw [hlen], ?_⟩
    unfold maxLen at hm
    refine ⟨by simp, by rw [hlen]; exact hl, by omega, (fun h => by cases h), ?_⟩
    rw [hlen]
    rcases Nat.eq_zero_or_pos len with h0 | h0
    · exact .inl h0
    · have hc0 := hcell 0 (by omega)
      obtain ⟨b, off, spot⟩ := x
      have hspot : spot = none := by simpa [Addr.add] using World.cell?_spot hc0
      subst hspot
      refine .inr ⟨b, off, rfl, block_lt_of_cell (by simpa [Addr.add] using hc0), fun i u hu => ?_⟩
      rw [List.map_map, List.getElem?_map, Option.map_eq_some_iff] at hu
      obtain ⟨n, hn, rfl⟩ := hu
      rw [List.getElem?_take] at hn
      split at hn
      · rename_i hi
        have hci := hcell i (by omega)
        rw [Addr.add_mid] at hci
        rw [hci]
        have hg : zs.getD i 0 = n := by simp [hn]
        rw [hg]
        simp only [Function.comp, bv]
        rw [byte_of n (hwz n (List.mem_of_getElem? hn))]
      · cases hn

/-- One cell that reads as a number. -/
theorem int_cell {k : IntKind} {fuel : Nat} {x : DataW H × List MemPlace} (ht : P.underlying t = some (.int k)) (h : DataW.trod enc P w 0 (fun _ => true) true fuel t [v] = some x) : ∃ n : Int, v = .int k n ∧ (Lit.int k n).wf = true := by
  obtain ⟨n, hn, _, hw⟩ := DataW.trod_int ht h
  simp at hn
  exact ⟨n, hn, hw⟩
theorem open_bytes (ht : P.underlying t = some (.slice e)) (he : P.underlying e = some (.int .u8)) (hc : P.cellsOf e = 1) (ho : Value.okWide P w r base t v) (h : Tr enc P w t v) :
    ∃ a cap bs, v = .slice a bs.length cap ∧ BRow w a cap bs := by
  obtain ⟨a, len, cap, rfl⟩ := okWide_slice ht ho
  obtain ⟨d, p, fuel, hf⟩ := h
  exact bytes_cell ht he hc hf

theorem open_array {n : Nat} {k : IntKind} (ht : P.underlying t = some (.array n e)) (he : P.underlying e = some (.int k)) (hc : P.cellsOf e = 1) (hn : P.cellsOf t = n) (ho : Value.okWide P w r base t v) (h : Tr enc P w t v) :
    ∃ zs : List Int, v = .agg (zs.map fun z => Value.int k z).toArray ∧ zs.length = n ∧ ∀ z ∈ zs, (Lit.int k z).wf = true := by
  simp only [Value.okWide, ht] at ho
  obtain ⟨cs, rfl, hs, _⟩ := ho
  obtain ⟨d, p, fuel, hf⟩ := h
  obtain ⟨xs, m, _, _, hl, hx, hel⟩ := DataW.trod_array ht hf
  have each : ∀ i, i < n → ∃ z, cs[i]? = some (.int k z) ∧ (Lit.int k z).wf = true := by
    intro i hi
    have := hel i hi
    rw [hc, Nat.mul_one, List.getElem?_eq_getElem (by omega)] at this
    obtain ⟨z, hz, _, hw⟩ := DataW.trod_int he this
    refine ⟨z, ?_, hw⟩
    have h1 : (List.drop i (Value.agg cs).cells.toList)[0]? = some (.int k z) := by
      have : (List.take 1 (List.drop i (Value.agg cs).cells.toList))[0]? = some (.int k z) := by rw [hz]; rfl
      rw [List.getElem?_take] at this
      simpa using this
    simpa [Value.cells] using h1
  let num : Value → Int := fun v => match v with | .int _ z => z | _ => 0
  refine ⟨cs.toList.map num, ?_, by simp; omega, ?_⟩
  · congr 1
    apply Array.ext_getElem?
    intro i
    by_cases hi : i < n
    · obtain ⟨z, hz, _⟩ := each i hi
      simp [hz, num]
    · rw [Array.getElem?_eq_none (by omega), Array.getElem?_eq_none (by simp; omega)]
  · intro z hz
    simp only [List.mem_map] at hz
    obtain ⟨v, hv, rfl⟩ := hz
    obtain ⟨i, hi⟩ := List.getElem?_of_mem hv
    have hin : i < n := by
      have := (List.getElem?_eq_some_iff.1 hi).1
      simp at this; omega
    obtain ⟨z, hz, hw⟩ := each i hin
    have : v = .int k z := by
      have : cs[i]? = some v := by simpa using hi
      rw [hz] at this; exact (Option.some.inj this).symm
    subst this
    exact hw

/-- Numbers that are not signed, as natural numbers. -/
theorem nats_of {k : IntKind} {B : Nat} (zs : List Int) (h : ∀ z ∈ zs, (Lit.int k z).wf = true) (hk : ∀ z, (Lit.int k z).wf = true → 0 ≤ z ∧ z < B) :
    ∃ ns : List Nat, (zs.map fun z => Value.int k z) = (ns.map fun n : Nat => Value.int k (n : Int)) ∧ ns.length = zs.length ∧ ∀ n ∈ ns, n < B := by
  refine ⟨zs.map Int.toNat, ?_, by simp, ?_⟩
  · rw [List.map_map]
    apply List.map_congr_left
    intro z hz
    obtain ⟨h1, _⟩ := hk z (h z hz)
    simp only [Function.comp]
    congr 1; omega
  · intro n hn
    simp only [List.mem_map] at hn
    obtain ⟨z, hz, rfl⟩ := hn
    obtain ⟨h1, h2⟩ := hk z (h z hz)
    omega
end
end Go.Bw

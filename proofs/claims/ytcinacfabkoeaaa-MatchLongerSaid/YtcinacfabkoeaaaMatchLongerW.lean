/- MatchLonger, joined. -/
import Derived.Test.YtcinacfabkoeaaaVm5
import Derived.Test.YtcinacfabkoeaaaVxOpen
namespace Go.Proofs.Ytcinacfabkoeaaa
open Go.RowKit Go.Bw Go.Vx
namespace MatchLongerW
theorem rI {x : Int} (h : (Lit.int .i64 x).wf = true) : -9223372036854775808 ≤ x ∧ x ≤ 9223372036854775807 := by
  have h2 : (decide ((-9223372036854775808 : Int) ≤ x) && decide (x ≤ (9223372036854775807 : Int))) = true := h
  rw [Bool.and_eq_true, decide_eq_true_eq, decide_eq_true_eq] at h2
  exact h2
theorem rU8 {x : Int} (h : (Lit.int .u8 x).wf = true) : 0 ≤ x ∧ x ≤ 255 := by
  have h2 : (decide ((0 : Int) ≤ x) && decide (x ≤ (255 : Int))) = true := h
  rw [Bool.and_eq_true, decide_eq_true_eq, decide_eq_true_eq] at h2
  exact h2
theorem rU32 {x : Int} (h : (Lit.int .u32 x).wf = true) : 0 ≤ x ∧ x ≤ 4294967295 := by
  have h2 : (decide ((0 : Int) ≤ x) && decide (x ≤ (4294967295 : Int))) = true := h
  rw [Bool.and_eq_true, decide_eq_true_eq, decide_eq_true_eq] at h2
  exact h2
set_option maxRecDepth 100000 in
theorem walk {H : Type} (enc : TypeId × Value → H) {base : Nat} (w : World) (v0 : Value) (v1 : Value) (v2 : Value) (v3 : Value) (v4 : Value) (v5 : Value) (o0 : Value.okWide Try.prog w .any base 22 v0) (o1 : Value.okWide Try.prog w .any base 3 v1) (o2 : Value.okWide Try.prog w .any base 3 v2) (o3 : Value.okWide Try.prog w .any base 3 v3) (o4 : Value.okWide Try.prog w .any base 3 v4) (o5 : Value.okWide Try.prog w .any base 3 v5) (h0 : Bw.Tr enc Try.prog w 22 v0) (h1 : Bw.Tr enc Try.prog w 3 v1) (h2 : Bw.Tr enc Try.prog w 3 v2) (h3 : Bw.Tr enc Try.prog w 3 v3) (h4 : Bw.Tr enc Try.prog w 3 v4) (h5 : Bw.Tr enc Try.prog w 3 v5) :
    Calls Try.prog 6 #[v0, v1, v2, v3, v4, v5] w (Gives w (.bool true)) := by
  obtain ⟨d0, a0, r0⟩ := Sh.openV (sh := .bytes) (Exists.intro 5 (And.intro Try.underlying22 (And.intro (by kernel_rfl) Try.underlying5))) o0 h0 E0_own
  obtain ⟨d1, a1, r1⟩ := Sh.openV (sh := (.int .i64)) Try.underlying3 o1 h1 E0_own
  obtain ⟨d2, a2, r2⟩ := Sh.openV (sh := (.int .i64)) Try.underlying3 o2 h2 E0_own
  obtain ⟨d3, a3, r3⟩ := Sh.openV (sh := (.int .i64)) Try.underlying3 o3 h3 E0_own
  obtain ⟨d4, a4, r4⟩ := Sh.openV (sh := (.int .i64)) Try.underlying3 o4 h4 E0_own
  obtain ⟨d5, a5, r5⟩ := Sh.openV (sh := (.int .i64)) Try.underlying3 o5 h5 E0_own
  obtain ⟨b, rfl, h_b⟩ := a0
  obtain ⟨q, rfl, h_q⟩ := a1
  obtain ⟨size, rfl, h_size⟩ := a2
  obtain ⟨chain, rfl, h_chain⟩ := a3
  obtain ⟨more, rfl, h_more⟩ := a4
  obtain ⟨y, rfl, h_y⟩ := a5
  refine SpecH.gives (f := 6) ?_ rfl (rd_cons r0 (rd_cons r1 (rd_cons r2 (rd_cons r3 (rd_cons r4 (rd_cons r5 (rd_nil w)))))))
  by_cases h4 : 200 < b.length
  · exact Vm.longer_great _ _ _ _ _ _ _ rfl (rI h_q) (rI h_size) (rI h_chain) (rI h_more) (rI h_y) h4
  by_cases hE : Vm.goodF b.length q size chain
  · by_cases hm : more < 0 ∨ 100000 < more
    · exact Vm.longer_more _ _ _ _ _ _ _ rfl (rI h_q) (rI h_size) (rI h_chain) (rI h_more) (rI h_y) hE hm
    · exact Vm.longer_ok _ _ _ _ _ _ _ rfl (rI h_q) (rI h_size) (rI h_chain) (rI h_more) (rI h_y) hE (by omega) (by omega)
  · exact Vm.longer_bad _ _ _ _ _ _ _ rfl (rI h_q) (rI h_size) (rI h_chain) (rI h_more) (rI h_y) hE
end MatchLongerW
end Go.Proofs.Ytcinacfabkoeaaa

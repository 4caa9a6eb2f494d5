/- PlainTells, joined. -/
import Derived.Test.YtegjeagfcfhbeaaTm11
namespace Go.Proofs.Ytegjeagfcfhbeaa
open Go.RowKit Go.Bw Go.Vx
namespace PlainTellsW
theorem rI {x : Int} (h : (Lit.int .i64 x).wf = true) : -9223372036854775808 ≤ x ∧ x ≤ 9223372036854775807 := by
  have h2 : (decide ((-9223372036854775808 : Int) ≤ x) && decide (x ≤ (9223372036854775807 : Int))) = true := h
  rw [Bool.and_eq_true, decide_eq_true_eq, decide_eq_true_eq] at h2
  exact h2
theorem rU8 {x : Int} (h : (Lit.int .u8 x).wf = true) : 0 ≤ x ∧ x ≤ 255 := by
  have h2 : (decide ((0 : Int) ≤ x) && decide (x ≤ (255 : Int))) = true := h
  rw [Bool.and_eq_true, decide_eq_true_eq, decide_eq_true_eq] at h2
  exact h2
theorem rU32 {x : Int} (h : (Lit.int .u32 x).wf = true) : 0 ≤ x ∧ x ≤ 4294967295 := by
  have h2 : (decide ((0 : Int) ≤ x) && decide (x ≤ (4294967295 : Int))) = true := h
  rw [Bool.and_eq_true, decide_eq_true_eq, decide_eq_true_eq] at h2
  exact h2
set_option maxRecDepth 100000 in
theorem walk {H : Type} (enc : TypeId × Value → H) {base : Nat} (w : World) (v0 : Value) (v1 : Value) (v2 : Value) (o0 : Value.okWide Try.prog w .any base 22 v0) (o1 : Value.okWide Try.prog w .any base 3 v1) (o2 : Value.okWide Try.prog w .any base 3 v2) (h0 : Bw.Tr enc Try.prog w 22 v0) (h1 : Bw.Tr enc Try.prog w 3 v1) (h2 : Bw.Tr enc Try.prog w 3 v2) :
    Calls Try.prog 5 #[v0, v1, v2] w (Gives w (.bool true)) := by
  obtain ⟨d0, a0, r0⟩ := Sh.openV (sh := .bytes) (Exists.intro 5 (And.intro Try.underlying22 (And.intro (by kernel_rfl) Try.underlying5))) o0 h0 E0_own
  obtain ⟨d1, a1, r1⟩ := Sh.openV (sh := (.int .i64)) Try.underlying3 o1 h1 E0_own
  obtain ⟨d2, a2, r2⟩ := Sh.openV (sh := (.int .i64)) Try.underlying3 o2 h2 E0_own
  obtain ⟨b, rfl, h_b⟩ := a0
  obtain ⟨x, rfl, h_x⟩ := a1
  obtain ⟨most, rfl, h_most⟩ := a2
  refine SpecH.gives (f := 5) ?_ rfl (rd_cons r0 (rd_cons r1 (rd_cons r2 (rd_nil w))))
  exact Vp.tel_ _ _ rfl _ _
end PlainTellsW
end Go.Proofs.Ytegjeagfcfhbeaa

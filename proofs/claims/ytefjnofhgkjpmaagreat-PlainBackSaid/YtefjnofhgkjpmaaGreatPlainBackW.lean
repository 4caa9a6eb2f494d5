/- PlainBack, joined. -/
import Derived.Test.YtefjnofhgkjpmaaGreatTm6
namespace Go.Proofs.YtefjnofhgkjpmaaGreat
open Go.RowKit Go.Bw Go.Vx
namespace PlainBackW
theorem rI {x : Int} (h : (Lit.int .i64 x).wf = true) : -9223372036854775808 ≤ x ∧ x ≤ 9223372036854775807 := by
  have h2 : (decide ((-9223372036854775808 : Int) ≤ x) && decide (x ≤ (9223372036854775807 : Int))) = true := h
  rw [Bool.and_eq_true, decide_eq_true_eq, decide_eq_true_eq] at h2
  exact h2
theorem rU8 {x : Int} (h : (Lit.int .u8 x).wf = true) : 0 ≤ x ∧ x ≤ 255 := by
  have h2 : (decide ((0 : Int) ≤ x) && decide (x ≤ (255 : Int))) = true := h
  rw [Bool.and_eq_true, decide_eq_true_eq, decide_eq_true_eq] at h2
  exact h2
theorem rU32 {x : Int} (h : (Lit.int .u32 x).wf = true) : 0 ≤ x ∧ x ≤ 4294967295 := by
  have h2 : (decide ((0 : Int) ≤ x) && decide (x ≤ (4294967295 : Int))) = true := h
  rw [Bool.and_eq_true, decide_eq_true_eq, decide_eq_true_eq] at h2
  exact h2
set_option maxRecDepth 100000 in
theorem walk {H : Type} (enc : TypeId × Value → H) {base : Nat} (w : World) (v0 : Value) (v1 : Value) (v2 : Value) (v3 : Value) (o0 : Value.okWide Tryz.prog w .any base 23 v0) (o1 : Value.okWide Tryz.prog w .any base 24 v1) (o2 : Value.okWide Tryz.prog w .any base 24 v2) (o3 : Value.okWide Tryz.prog w .any base 3 v3) (h0 : Bw.Tr enc Tryz.prog w 23 v0) (h1 : Bw.Tr enc Tryz.prog w 24 v1) (h2 : Bw.Tr enc Tryz.prog w 24 v2) (h3 : Bw.Tr enc Tryz.prog w 3 v3) :
    Calls Tryz.prog 8 #[v0, v1, v2, v3] w (Gives w (.bool true)) := by
  obtain ⟨d0, a0, r0⟩ := Sh.openV (sh := (.st (.cons (.int .i64) (.cons (.int .i64) (.cons (.int .i64) (.cons .bool .nil)))))) (Exists.intro _ (And.intro Tryz.underlying23 (And.intro (by kernel_rfl) (And.intro rfl (And.intro (by kernel_rfl) (And.intro Tryz.underlying3 (And.intro rfl (And.intro (by kernel_rfl) (And.intro Tryz.underlying3 (And.intro rfl (And.intro (by kernel_rfl) (And.intro Tryz.underlying3 (And.intro rfl (And.intro (by kernel_rfl) (And.intro Tryz.underlying4 trivial))))))))))))))) o0 h0 E0_own
  obtain ⟨d1, a1, r1⟩ := Sh.openV (sh := .bytes) (Exists.intro 5 (And.intro Tryz.underlying24 (And.intro (by kernel_rfl) Tryz.underlying5))) o1 h1 E0_own
  obtain ⟨d2, a2, r2⟩ := Sh.openV (sh := .bytes) (Exists.intro 5 (And.intro Tryz.underlying24 (And.intro (by kernel_rfl) Tryz.underlying5))) o2 h2 E0_own
  obtain ⟨d3, a3, r3⟩ := Sh.openV (sh := (.int .i64)) Tryz.underlying3 o3 h3 E0_own
  obtain ⟨_, rfl, ⟨_, _, rfl, ⟨s_Size, rfl, h_s_Size⟩, ⟨_, _, rfl, ⟨s_Chain, rfl, h_s_Chain⟩, ⟨_, _, rfl, ⟨s_Most, rfl, h_s_Most⟩, ⟨_, _, rfl, ⟨s_Lazy, rfl⟩, rfl⟩⟩⟩⟩⟩ := a0
  obtain ⟨b, rfl, h_b⟩ := a1
  obtain ⟨more, rfl, h_more⟩ := a2
  obtain ⟨most, rfl, h_most⟩ := a3
  refine SpecH.gives (f := 8) ?_ rfl (rd_cons r0 (rd_cons r1 (rd_cons r2 (rd_cons r3 (rd_nil w)))))
  exact Vp.back_ s_Size s_Chain s_Most s_Lazy b more most
end PlainBackW
end Go.Proofs.YtefjnofhgkjpmaaGreat

/- PressWrites, joined. -/
import Derived.Test.YtefjnofhgkjpmaaGreatTm6
namespace Go.Proofs.YtefjnofhgkjpmaaGreat
open Go.RowKit Go.Bw Go.Vx
namespace PressWritesW
theorem rI {x : Int} (h : (Lit.int .i64 x).wf = true) : -9223372036854775808 ≤ x ∧ x ≤ 9223372036854775807 := by
  have h2 : (decide ((-9223372036854775808 : Int) ≤ x) && decide (x ≤ (9223372036854775807 : Int))) = true := h
  rw [Bool.and_eq_true, decide_eq_true_eq, decide_eq_true_eq] at h2
  exact h2
theorem rU8 {x : Int} (h : (Lit.int .u8 x).wf = true) : 0 ≤ x ∧ x ≤ 255 := by
  have h2 : (decide ((0 : Int) ≤ x) && decide (x ≤ (255 : Int))) = true := h
  rw [Bool.and_eq_true, decide_eq_true_eq, decide_eq_true_eq] at h2
  exact h2
theorem rU32 {x : Int} (h : (Lit.int .u32 x).wf = true) : 0 ≤ x ∧ x ≤ 4294967295 := by
  have h2 : (decide ((0 : Int) ≤ x) && decide (x ≤ (4294967295 : Int))) = true := h
  rw [Bool.and_eq_true, decide_eq_true_eq, decide_eq_true_eq] at h2
  exact h2
set_option maxRecDepth 100000 in
theorem walk {H : Type} (enc : TypeId × Value → H) {base : Nat} (w : World) (v0 : Value) (v1 : Value) (v2 : Value) (o0 : Value.okWide Tryz.prog w .any base 28 v0) (o1 : Value.okWide Tryz.prog w .any base 23 v1) (o2 : Value.okWide Tryz.prog w .any base 24 v2) (h0 : Bw.Tr enc Tryz.prog w 28 v0) (h1 : Bw.Tr enc Tryz.prog w 23 v1) (h2 : Bw.Tr enc Tryz.prog w 24 v2) (hn0 : ∀ a len cap, v0.cells.toList[6]? = some (.slice a len cap) → len * Tryz.prog.bytesOf 5 ≤ reachBytes) :
    Calls Tryz.prog 3 #[v0, v1, v2] w (Gives w (.bool true)) := by
  obtain ⟨d0, a0, r0⟩ := Sh.openV (sh := (.st (.cons (.st (.cons (.int .i64) (.cons (.int .i64) (.cons (.int .i64) (.cons .bool .nil))))) (.cons .bytes (.cons .bytes (.cons (.st (.cons .bytes (.cons (.int .i64) .nil))) (.cons .bool .nil))))))) (Exists.intro _ (And.intro Tryz.underlying28 (And.intro (by kernel_rfl) (And.intro rfl (And.intro (by kernel_rfl) (And.intro (Exists.intro _ (And.intro Tryz.underlying23 (And.intro (by kernel_rfl) (And.intro rfl (And.intro (by kernel_rfl) (And.intro Tryz.underlying3 (And.intro rfl (And.intro (by kernel_rfl) (And.intro Tryz.underlying3 (And.intro rfl (And.intro (by kernel_rfl) (And.intro Tryz.underlying3 (And.intro rfl (And.intro (by kernel_rfl) (And.intro Tryz.underlying4 trivial))))))))))))))) (And.intro rfl (And.intro (by kernel_rfl) (And.intro (Exists.intro 5 (And.intro Tryz.underlying24 (And.intro (by kernel_rfl) Tryz.underlying5))) (And.intro rfl (And.intro (by kernel_rfl) (And.intro (Exists.intro 5 (And.intro Tryz.underlying24 (And.intro (by kernel_rfl) Tryz.underlying5))) (And.intro rfl (And.intro (by kernel_rfl) (And.intro (Exists.intro _ (And.intro Tryz.underlying26 (And.intro (by kernel_rfl) (And.intro rfl (And.intro (by kernel_rfl) (And.intro (Exists.intro 5 (And.intro Tryz.underlying24 (And.intro (by kernel_rfl) Tryz.underlying5))) (And.intro rfl (And.intro (by kernel_rfl) (And.intro Tryz.underlying3 trivial))))))))) (And.intro rfl (And.intro (by kernel_rfl) (And.intro Tryz.underlying4 trivial)))))))))))))))))) o0 h0 E0_own
  obtain ⟨d1, a1, r1⟩ := Sh.openV (sh := (.st (.cons (.int .i64) (.cons (.int .i64) (.cons (.int .i64) (.cons .bool .nil)))))) (Exists.intro _ (And.intro Tryz.underlying23 (And.intro (by kernel_rfl) (And.intro rfl (And.intro (by kernel_rfl) (And.intro Tryz.underlying3 (And.intro rfl (And.intro (by kernel_rfl) (And.intro Tryz.underlying3 (And.intro rfl (And.intro (by kernel_rfl) (And.intro Tryz.underlying3 (And.intro rfl (And.intro (by kernel_rfl) (And.intro Tryz.underlying4 trivial))))))))))))))) o1 h1 E0_own
  obtain ⟨d2, a2, r2⟩ := Sh.openV (sh := .bytes) (Exists.intro 5 (And.intro Tryz.underlying24 (And.intro (by kernel_rfl) Tryz.underlying5))) o2 h2 E0_own
  obtain ⟨_, rfl, ⟨_, _, rfl, ⟨_, _, rfl, ⟨p_Style_Size, rfl, h_p_Style_Size⟩, ⟨_, _, rfl, ⟨p_Style_Chain, rfl, h_p_Style_Chain⟩, ⟨_, _, rfl, ⟨p_Style_Most, rfl, h_p_Style_Most⟩, ⟨_, _, rfl, ⟨p_Style_Lazy, rfl⟩, rfl⟩⟩⟩⟩, ⟨_, _, rfl, ⟨p_Hist, rfl, h_p_Hist⟩, ⟨_, _, rfl, ⟨p_Wait, rfl, h_p_Wait⟩, ⟨_, _, rfl, ⟨_, _, rfl, ⟨p_Pen_Bytes, rfl, h_p_Pen_Bytes⟩, ⟨_, _, rfl, ⟨p_Pen_Bits, rfl, h_p_Pen_Bits⟩, rfl⟩⟩, ⟨_, _, rfl, ⟨p_Over, rfl⟩, rfl⟩⟩⟩⟩⟩⟩ := a0
  obtain ⟨_, rfl, ⟨_, _, rfl, ⟨s_Size, rfl, h_s_Size⟩, ⟨_, _, rfl, ⟨s_Chain, rfl, h_s_Chain⟩, ⟨_, _, rfl, ⟨s_Most, rfl, h_s_Most⟩, ⟨_, _, rfl, ⟨s_Lazy, rfl⟩, rfl⟩⟩⟩⟩⟩ := a1
  obtain ⟨b, rfl, h_b⟩ := a2
  refine SpecH.gives (f := 3) ?_ rfl (rd_cons r0 (rd_cons r1 (rd_cons r2 (rd_nil w))))
  obtain ⟨a9, c9, e9⟩ := Vp.rd_cell r0 (i := 6) (n := p_Pen_Bytes.length) (nn := false) (sz := 1) (cells := p_Pen_Bytes.map dB) rfl
  have z9 := hn0 _ _ _ e9
  have b9 : Tryz.prog.bytesOf 5 = 1 := by kernel_rfl
  have y9 := Go.reachBytes_lt
  rw [b9] at z9
  exact Vp.writes_ p_Style_Size p_Style_Chain p_Style_Most p_Style_Lazy p_Hist _ rfl p_Wait _ rfl p_Pen_Bytes _ rfl p_Pen_Bits p_Over (by omega) s_Size s_Chain s_Most s_Lazy b _ rfl
end PressWritesW
end Go.Proofs.YtefjnofhgkjpmaaGreat

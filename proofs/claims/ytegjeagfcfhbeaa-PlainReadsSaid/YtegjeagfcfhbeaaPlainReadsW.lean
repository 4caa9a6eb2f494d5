/- PlainReads, joined. -/
import Derived.Test.YtegjeagfcfhbeaaTm11
namespace Go.Proofs.Ytegjeagfcfhbeaa
open Go.RowKit Go.Bw Go.Vx
namespace PlainReadsW
theorem rI {x : Int} (h : (Lit.int .i64 x).wf = true) : -9223372036854775808 ≤ x ∧ x ≤ 9223372036854775807 := by
  have h2 : (decide ((-9223372036854775808 : Int) ≤ x) && decide (x ≤ (9223372036854775807 : Int))) = true := h
  rw [Bool.and_eq_true, decide_eq_true_eq, decide_eq_true_eq] at h2
  exact h2
theorem rU8 {x : Int} (h : (Lit.int .u8 x).wf = true) : 0 ≤ x ∧ x ≤ 255 := by
  have h2 : (decide ((0 : Int) ≤ x) && decide (x ≤ (255 : Int))) = true := h
  rw [Bool.and_eq_true, decide_eq_true_eq, decide_eq_true_eq] at h2
  exact h2
theorem rU32 {x : Int} (h : (Lit.int .u32 x).wf = true) : 0 ≤ x ∧ x ≤ 4294967295 := by
  have h2 : (decide ((0 : Int) ≤ x) && decide (x ≤ (4294967295 : Int))) = true := h
  rw [Bool.and_eq_true, decide_eq_true_eq, decide_eq_true_eq] at h2
  exact h2
set_option maxRecDepth 100000 in
theorem walk {H : Type} (enc : TypeId × Value → H) {base : Nat} (w : World) (v0 : Value) (v1 : Value) (v2 : Value) (o0 : Value.okWide Try.prog w .any base 22 v0) (o1 : Value.okWide Try.prog w .any base 3 v1) (o2 : Value.okWide Try.prog w .any base 28 v2) (h0 : Bw.Tr enc Try.prog w 22 v0) (h1 : Bw.Tr enc Try.prog w 3 v1) (h2 : Bw.Tr enc Try.prog w 28 v2) :
    Calls Try.prog 3 #[v0, v1, v2] w (Gives w (.bool true)) := by
  obtain ⟨d0, a0, r0⟩ := Sh.openV (sh := .bytes) (Exists.intro 5 (And.intro Try.underlying22 (And.intro (by kernel_rfl) Try.underlying5))) o0 h0 E0_own
  obtain ⟨d1, a1, r1⟩ := Sh.openV (sh := (.int .i64)) Try.underlying3 o1 h1 E0_own
  obtain ⟨d2, a2, r2⟩ := Sh.openV (sh := (.st (.cons (.int .u8) (.cons .bool (.cons (.int .i64) (.cons (.st (.cons (.arr .i64 16) (.cons (.sl (.int .i64) 1) .nil))) (.cons (.st (.cons (.arr .i64 16) (.cons (.sl (.int .i64) 1) .nil))) .nil))))))) (Exists.intro _ (And.intro Try.underlying28 (And.intro (by kernel_rfl) (And.intro rfl (And.intro (by kernel_rfl) (And.intro Try.underlying5 (And.intro rfl (And.intro (by kernel_rfl) (And.intro Try.underlying4 (And.intro rfl (And.intro (by kernel_rfl) (And.intro Try.underlying3 (And.intro rfl (And.intro (by kernel_rfl) (And.intro (Exists.intro _ (And.intro Try.underlying26 (And.intro (by kernel_rfl) (And.intro rfl (And.intro (by kernel_rfl) (And.intro (Exists.intro 3 (And.intro Try.underlying23 (And.intro (by kernel_rfl) (And.intro (by kernel_rfl) Try.underlying3)))) (And.intro rfl (And.intro (by kernel_rfl) (And.intro (Exists.intro 3 (And.intro Try.underlying24 (And.intro (by kernel_rfl) (And.intro (by decide) (And.intro rfl Try.underlying3))))) trivial))))))))) (And.intro rfl (And.intro (by kernel_rfl) (And.intro (Exists.intro _ (And.intro Try.underlying26 (And.intro (by kernel_rfl) (And.intro rfl (And.intro (by kernel_rfl) (And.intro (Exists.intro 3 (And.intro Try.underlying23 (And.intro (by kernel_rfl) (And.intro (by kernel_rfl) Try.underlying3)))) (And.intro rfl (And.intro (by kernel_rfl) (And.intro (Exists.intro 3 (And.intro Try.underlying24 (And.intro (by kernel_rfl) (And.intro (by decide) (And.intro rfl Try.underlying3))))) trivial))))))))) trivial)))))))))))))))))) o2 h2 E0_own
  obtain ⟨b, rfl, h_b⟩ := a0
  obtain ⟨x, rfl, h_x⟩ := a1
  obtain ⟨_, rfl, ⟨_, _, rfl, ⟨k_Kind, rfl, h_k_Kind⟩, ⟨_, _, rfl, ⟨k_Last, rfl⟩, ⟨_, _, rfl, ⟨k_Left, rfl, h_k_Left⟩, ⟨_, _, rfl, ⟨_, _, rfl, ⟨k_Longs_Count, rfl, e_k_Longs_Count, h_k_Longs_Count⟩, ⟨_, _, rfl, ⟨k_Longs_Syms, rfl, e_k_Longs_Syms, h_k_Longs_Syms⟩, rfl⟩⟩, ⟨_, _, rfl, ⟨_, _, rfl, ⟨k_Fars_Count, rfl, e_k_Fars_Count, h_k_Fars_Count⟩, ⟨_, _, rfl, ⟨k_Fars_Syms, rfl, e_k_Fars_Syms, h_k_Fars_Syms⟩, rfl⟩⟩, rfl⟩⟩⟩⟩⟩⟩ := a2
  refine SpecH.gives (f := 3) ?_ rfl (rd_cons r0 (rd_cons r1 (rd_cons r2 (rd_nil w))))
  obtain ⟨ys1, hy1, hf1⟩ := Vp.ints_of_els _ e_k_Longs_Syms
  obtain ⟨ys2, hy2, hf2⟩ := Vp.ints_of_els _ e_k_Fars_Syms
  have hk := Vp.kd_of h_k_Kind
  obtain ⟨kd, rfl⟩ := Int.eq_ofNat_of_zero_le hk.1
  rw [Vp.zs16 e_k_Longs_Count, Vp.zs16 e_k_Fars_Count, hf1, hf2]
  exact Vp.rds_ b _ rfl x kd (by omega) k_Last k_Left (fun i => k_Longs_Count.getD i 0) (fun i => k_Fars_Count.getD i 0) ys1 ys2 _ _ hy1.symm hy2.symm
end PlainReadsW
end Go.Proofs.Ytegjeagfcfhbeaa

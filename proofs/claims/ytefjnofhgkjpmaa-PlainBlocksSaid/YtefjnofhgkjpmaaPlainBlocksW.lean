/- PlainBlocks, joined. -/
import Derived.Test.YtefjnofhgkjpmaaTm13
import Derived.Test.YtefjnofhgkjpmaaTm14
namespace Go.Proofs.Ytefjnofhgkjpmaa
open Go.RowKit Go.Bw Go.Vx
namespace PlainBlocksW
theorem rI {x : Int} (h : (Lit.int .i64 x).wf = true) : -9223372036854775808 ≤ x ∧ x ≤ 9223372036854775807 := by
  have h2 : (decide ((-9223372036854775808 : Int) ≤ x) && decide (x ≤ (9223372036854775807 : Int))) = true := h
  rw [Bool.and_eq_true, decide_eq_true_eq, decide_eq_true_eq] at h2
  exact h2
theorem rU8 {x : Int} (h : (Lit.int .u8 x).wf = true) : 0 ≤ x ∧ x ≤ 255 := by
  have h2 : (decide ((0 : Int) ≤ x) && decide (x ≤ (255 : Int))) = true := h
  rw [Bool.and_eq_true, decide_eq_true_eq, decide_eq_true_eq] at h2
  exact h2
theorem rU32 {x : Int} (h : (Lit.int .u32 x).wf = true) : 0 ≤ x ∧ x ≤ 4294967295 := by
  have h2 : (decide ((0 : Int) ≤ x) && decide (x ≤ (4294967295 : Int))) = true := h
  rw [Bool.and_eq_true, decide_eq_true_eq, decide_eq_true_eq] at h2
  exact h2
set_option maxRecDepth 100000 in
theorem walk {H : Type} (enc : TypeId × Value → H) {base : Nat} (w : World) (v0 : Value) (v1 : Value) (v2 : Value) (v3 : Value) (o0 : Value.okWide Try.prog w .any base 5 v0) (o1 : Value.okWide Try.prog w .any base 24 v1) (o2 : Value.okWide Try.prog w .any base 37 v2) (o3 : Value.okWide Try.prog w .any base 4 v3) (h0 : Bw.Tr enc Try.prog w 5 v0) (h1 : Bw.Tr enc Try.prog w 24 v1) (h2 : Bw.Tr enc Try.prog w 37 v2) (h3 : Bw.Tr enc Try.prog w 4 v3) :
    Calls Try.prog 4 #[v0, v1, v2, v3] w (Gives w (.bool true)) := by
  obtain ⟨d0, a0, r0⟩ := Sh.openV (sh := (.int .u8)) Try.underlying5 o0 h0 E0_own
  obtain ⟨d1, a1, r1⟩ := Sh.openV (sh := .bytes) (Exists.intro 5 (And.intro Try.underlying24 (And.intro (by kernel_rfl) Try.underlying5))) o1 h1 E0_own
  obtain ⟨d2, a2, r2⟩ := Sh.openV (sh := (.sl (.st (.cons (.int .u8) (.cons (.int .i64) (.cons (.int .i64) .nil)))) 3)) (Exists.intro 50 (And.intro Try.underlying37 (And.intro (by kernel_rfl) (And.intro (by decide) (And.intro rfl (Exists.intro _ (And.intro Try.underlying50 (And.intro (by kernel_rfl) (And.intro rfl (And.intro (by kernel_rfl) (And.intro Try.underlying5 (And.intro rfl (And.intro (by kernel_rfl) (And.intro Try.underlying3 (And.intro rfl (And.intro (by kernel_rfl) (And.intro Try.underlying3 trivial))))))))))))))))) o2 h2 E0_own
  obtain ⟨d3, a3, r3⟩ := Sh.openV (sh := .bool) Try.underlying4 o3 h3 E0_own
  obtain ⟨kind, rfl, h_kind⟩ := a0
  obtain ⟨raw, rfl, h_raw⟩ := a1
  obtain ⟨els, rfl, e_els, h_els⟩ := a2
  obtain ⟨last, rfl⟩ := a3
  have u_k := rU8 h_kind
  obtain ⟨kind, rfl⟩ := Int.eq_ofNat_of_zero_le u_k.1
  obtain ⟨l, rfl, _⟩ := els_map (f := Vt.tokD) (p := fun _ => True) els fun el hel => by
    obtain ⟨_, _, rfl, ⟨lit, rfl, hlit⟩, _, _, rfl, ⟨dist, rfl, _⟩, _, _, rfl, ⟨long, rfl, _⟩, rfl⟩ := e_els el hel
    refine ⟨⟨UInt8.ofNat lit.toNat, dist, long⟩, ?_, trivial⟩
    show [D.v (.int .u8 lit), _, _] = [dB (UInt8.ofNat lit.toNat), _, _]
    unfold dB
    rw [byte_of lit hlit]
  rw [← List.flatMap_def, List.length_map] at r2
  refine SpecH.gives (f := 4) ?_ rfl (rd_cons r0 (rd_cons r1 (rd_cons r2 (rd_cons r3 (rd_nil w)))))
  exact Vp.blocks_ kind (by omega) raw _ rfl l _ rfl last
end PlainBlocksW
end Go.Proofs.Ytefjnofhgkjpmaa

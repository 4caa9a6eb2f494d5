/- PressSize, joined. -/
import Derived.Test.YtefjnofhgkjpmaaGreatTm13
namespace Go.Proofs.YtefjnofhgkjpmaaGreat
open Go.RowKit Go.Bw Go.Vx
namespace PressSizeW
theorem rI {x : Int} (h : (Lit.int .i64 x).wf = true) : -9223372036854775808 ≤ x ∧ x ≤ 9223372036854775807 := by
  have h2 : (decide ((-9223372036854775808 : Int) ≤ x) && decide (x ≤ (9223372036854775807 : Int))) = true := h
  rw [Bool.and_eq_true, decide_eq_true_eq, decide_eq_true_eq] at h2
  exact h2
theorem rU8 {x : Int} (h : (Lit.int .u8 x).wf = true) : 0 ≤ x ∧ x ≤ 255 := by
  have h2 : (decide ((0 : Int) ≤ x) && decide (x ≤ (255 : Int))) = true := h
  rw [Bool.and_eq_true, decide_eq_true_eq, decide_eq_true_eq] at h2
  exact h2
theorem rU32 {x : Int} (h : (Lit.int .u32 x).wf = true) : 0 ≤ x ∧ x ≤ 4294967295 := by
  have h2 : (decide ((0 : Int) ≤ x) && decide (x ≤ (4294967295 : Int))) = true := h
  rw [Bool.and_eq_true, decide_eq_true_eq, decide_eq_true_eq] at h2
  exact h2
set_option maxRecDepth 100000 in
theorem walk {H : Type} (enc : TypeId × Value → H) {base : Nat} (w : World) (v0 : Value) (v1 : Value) (o0 : Value.okWide Tryz.prog w .any base 23 v0) (o1 : Value.okWide Tryz.prog w .any base 53 v1) (h0 : Bw.Tr enc Tryz.prog w 23 v0) (h1 : Bw.Tr enc Tryz.prog w 53 v1) :
    Calls Tryz.prog 6 #[v0, v1] w (Gives w (.bool true)) := by
  obtain ⟨d0, a0, r0⟩ := Sh.openV (sh := (.st (.cons (.int .i64) (.cons (.int .i64) (.cons (.int .i64) (.cons .bool .nil)))))) (Exists.intro _ (And.intro Tryz.underlying23 (And.intro (by kernel_rfl) (And.intro rfl (And.intro (by kernel_rfl) (And.intro Tryz.underlying3 (And.intro rfl (And.intro (by kernel_rfl) (And.intro Tryz.underlying3 (And.intro rfl (And.intro (by kernel_rfl) (And.intro Tryz.underlying3 (And.intro rfl (And.intro (by kernel_rfl) (And.intro Tryz.underlying4 trivial))))))))))))))) o0 h0 E0_own
  obtain ⟨d1, a1, r1⟩ := Sh.openV (sh := (.sl (.st (.cons .bool (.cons .bytes .nil))) 2)) (Exists.intro 56 (And.intro Tryz.underlying53 (And.intro (by kernel_rfl) (And.intro (by decide) (And.intro rfl (Exists.intro _ (And.intro Tryz.underlying56 (And.intro (by kernel_rfl) (And.intro rfl (And.intro (by kernel_rfl) (And.intro Tryz.underlying4 (And.intro rfl (And.intro (by kernel_rfl) (And.intro (Exists.intro 5 (And.intro Tryz.underlying24 (And.intro (by kernel_rfl) Tryz.underlying5))) trivial)))))))))))))) o1 h1 E0_own
  obtain ⟨_, rfl, ⟨_, _, rfl, ⟨s_Size, rfl, h_s_Size⟩, ⟨_, _, rfl, ⟨s_Chain, rfl, h_s_Chain⟩, ⟨_, _, rfl, ⟨s_Most, rfl, h_s_Most⟩, ⟨_, _, rfl, ⟨s_Lazy, rfl⟩, rfl⟩⟩⟩⟩⟩ := a0
  obtain ⟨els, rfl, e_els, h_els⟩ := a1
  obtain ⟨l, rfl, _⟩ := els_map (f := Vp.opP) (p := fun _ => True) els fun el hel => by
    obtain ⟨_, _, rfl, ⟨f, rfl⟩, _, _, rfl, ⟨t, rfl, _⟩, rfl⟩ := e_els el hel
    exact ⟨(f, t), rfl, trivial⟩
  rw [← List.flatMap_def, List.length_map] at r1
  refine SpecH.gives (f := 6) ?_ rfl (rd_cons r0 (rd_cons r1 (rd_nil w)))
  by_cases hg : 400 < Vp.lgS l (min l.length 100)
  · exact Vp.size_g _ _ _ _ l _ rfl _ rfl hg
  have hq := Vp.lgS_mono l 0 (min l.length 100)
  rw [Nat.zero_add] at hq
  have hn : l.length ≤ 40 := by omega
  rw [show min l.length 100 = l.length from by omega] at hg
  have hx := Vp.txS_of (L := l) (k := l.length) (by omega)
  obtain ⟨e, hS, s1, s2⟩ := Vp.sty_ex s_Size s_Chain s_Most s_Lazy
  rcases s2 with rfl | rfl
  · have c1 := s1.1 rfl
    obtain ⟨a, rfl⟩ := Int.eq_ofNat_of_zero_le (show 0 ≤ s_Size by omega)
    obtain ⟨b, rfl⟩ := Int.eq_ofNat_of_zero_le (show 0 ≤ s_Chain by omega)
    obtain ⟨c, rfl⟩ := Int.eq_ofNat_of_zero_le (show 0 ≤ s_Most by omega)
    exact Vp.size_v a b c s_Lazy (by omega) (by omega) (by omega) l _ rfl hn (by omega) (by omega)
  · exact Vp.size_b _ _ _ _ hS l _ rfl hn (by omega)
end PressSizeW
end Go.Proofs.YtefjnofhgkjpmaaGreat

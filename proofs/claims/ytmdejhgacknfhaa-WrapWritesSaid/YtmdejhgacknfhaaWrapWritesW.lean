/- WrapWrites, joined. -/
import Derived.Test.YtmdejhgacknfhaaVw8
import Derived.Test.YtmdejhgacknfhaaVxOpen
namespace Go.Proofs.Ytmdejhgacknfhaa
open Go.RowKit Go.Bw Go.Vx
namespace WrapWritesW
theorem rI {x : Int} (h : (Lit.int .i64 x).wf = true) : -9223372036854775808 ≤ x ∧ x ≤ 9223372036854775807 := by
  have h2 : (decide ((-9223372036854775808 : Int) ≤ x) && decide (x ≤ (9223372036854775807 : Int))) = true := h
  rw [Bool.and_eq_true, decide_eq_true_eq, decide_eq_true_eq] at h2
  exact h2
theorem rU8 {x : Int} (h : (Lit.int .u8 x).wf = true) : 0 ≤ x ∧ x ≤ 255 := by
  have h2 : (decide ((0 : Int) ≤ x) && decide (x ≤ (255 : Int))) = true := h
  rw [Bool.and_eq_true, decide_eq_true_eq, decide_eq_true_eq] at h2
  exact h2
theorem rU32 {x : Int} (h : (Lit.int .u32 x).wf = true) : 0 ≤ x ∧ x ≤ 4294967295 := by
  have h2 : (decide ((0 : Int) ≤ x) && decide (x ≤ (4294967295 : Int))) = true := h
  rw [Bool.and_eq_true, decide_eq_true_eq, decide_eq_true_eq] at h2
  exact h2
set_option maxRecDepth 100000 in
theorem walk {H : Type} (enc : TypeId × Value → H) {base : Nat} (w : World) (v0 : Value) (v1 : Value) (v2 : Value) (v3 : Value) (o0 : Value.okWide Try.prog w .any base 5 v0) (o1 : Value.okWide Try.prog w .any base 25 v1) (o2 : Value.okWide Try.prog w .any base 22 v2) (o3 : Value.okWide Try.prog w .any base 23 v3) (h0 : Bw.Tr enc Try.prog w 5 v0) (h1 : Bw.Tr enc Try.prog w 25 v1) (h2 : Bw.Tr enc Try.prog w 22 v2) (h3 : Bw.Tr enc Try.prog w 23 v3) :
    Calls Try.prog 3 #[v0, v1, v2, v3] w (Gives w (.bool true)) := by
  obtain ⟨d0, a0, r0⟩ := Sh.openV (sh := (.int .u8)) Try.underlying5 o0 h0 E0_own
  obtain ⟨d1, a1, r1⟩ := Sh.openV (sh := (.st (.cons .bool (.cons (.int .u32) (.cons .bool (.cons .bytes (.cons .str (.cons .str (.cons .bool .nil))))))))) (Exists.intro _ (And.intro Try.underlying25 (And.intro (by kernel_rfl) (And.intro rfl (And.intro (by kernel_rfl) (And.intro Try.underlying4 (And.intro rfl (And.intro (by kernel_rfl) (And.intro Try.underlying22 (And.intro rfl (And.intro (by kernel_rfl) (And.intro Try.underlying4 (And.intro rfl (And.intro (by kernel_rfl) (And.intro (Exists.intro 5 (And.intro Try.underlying23 (And.intro (by kernel_rfl) Try.underlying5))) (And.intro rfl (And.intro (by kernel_rfl) (And.intro Try.underlying9 (And.intro rfl (And.intro (by kernel_rfl) (And.intro Try.underlying9 (And.intro rfl (And.intro (by kernel_rfl) (And.intro Try.underlying4 trivial)))))))))))))))))))))))) o1 h1 E0_own
  obtain ⟨d2, a2, r2⟩ := Sh.openV (sh := (.int .u32)) Try.underlying22 o2 h2 E0_own
  obtain ⟨d3, a3, r3⟩ := Sh.openV (sh := .bytes) (Exists.intro 5 (And.intro Try.underlying23 (And.intro (by kernel_rfl) Try.underlying5))) o3 h3 E0_own
  obtain ⟨c, rfl, h_c⟩ := a0
  obtain ⟨_, rfl, ⟨_, _, rfl, ⟨l_Text, rfl⟩, ⟨_, _, rfl, ⟨l_Time, rfl, h_l_Time⟩, ⟨_, _, rfl, ⟨l_Has, rfl⟩, ⟨_, _, rfl, ⟨l_Extra, rfl, h_l_Extra⟩, ⟨_, _, rfl, ⟨l_Name, rfl, h_l_Name⟩, ⟨_, _, rfl, ⟨l_Comment, rfl, h_l_Comment⟩, ⟨_, _, rfl, ⟨l_Sum, rfl⟩, rfl⟩⟩⟩⟩⟩⟩⟩⟩ := a1
  obtain ⟨s, rfl, h_s⟩ := a2
  obtain ⟨b, rfl, h_b⟩ := a3
  have u_c := rU8 h_c
  have u_s := rU32 h_s
  have u_t := rU32 h_l_Time
  obtain ⟨c, rfl⟩ := Int.eq_ofNat_of_zero_le u_c.1
  obtain ⟨s, rfl⟩ := Int.eq_ofNat_of_zero_le u_s.1
  obtain ⟨l_Time, rfl⟩ := Int.eq_ofNat_of_zero_le u_t.1
  refine SpecH.gives (f := 3) ?_ rfl (rd_cons r0 (rd_cons r1 (rd_cons r2 (rd_cons r3 (rd_nil w)))))
  by_cases hg : 600 < l_Extra.length ∨ 600 < l_Name.data.toList.length ∨ 600 < l_Comment.data.toList.length ∨ 2000 < b.length
  · exact Vw.ww_great c ⟨l_Text, l_Time, l_Has, l_Extra, l_Name.data.toList, l_Comment.data.toList, l_Sum⟩ _ rfl s b _ rfl hg
  have e1 : l_Extra.length ≤ 600 := by omega
  have e2 : l_Name.data.toList.length ≤ 600 := by omega
  have e3 : l_Comment.data.toList.length ≤ 600 := by omega
  have e4 : b.length ≤ 2000 := by omega
  have et : l_Time ≤ 4294967295 := by omega
  have es : s ≤ 4294967295 := by omega
  by_cases h1 : c = 1
  · subst h1
    cases hM : Vw.mayL ⟨l_Text, l_Time, l_Has, l_Extra, l_Name.data.toList, l_Comment.data.toList, l_Sum⟩
    · exact Vw.ww_3 Sums.tab rfl ⟨l_Text, l_Time, l_Has, l_Extra, l_Name.data.toList, l_Comment.data.toList, l_Sum⟩ _ rfl e1 e2 e3 et s es b _ rfl e4 hM
    · exact Vw.ww_1 Sums.tab rfl ⟨l_Text, l_Time, l_Has, l_Extra, l_Name.data.toList, l_Comment.data.toList, l_Sum⟩ _ rfl e1 e2 e3 et s es b _ rfl e4 hM
  by_cases h2 : c = 2
  · subst h2
    exact Vw.ww_2 Sums.tab rfl ⟨l_Text, l_Time, l_Has, l_Extra, l_Name.data.toList, l_Comment.data.toList, l_Sum⟩ _ rfl e1 e2 e3 et s es b _ rfl e4
  exact Vw.ww_c c (by omega) (by omega) Sums.tab rfl ⟨l_Text, l_Time, l_Has, l_Extra, l_Name.data.toList, l_Comment.data.toList, l_Sum⟩ _ rfl e1 e2 e3 et s es b _ rfl e4
end WrapWritesW
end Go.Proofs.Ytmdejhgacknfhaa

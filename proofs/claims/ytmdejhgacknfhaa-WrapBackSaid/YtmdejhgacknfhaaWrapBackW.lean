/- WrapBack, joined. -/
import Derived.Test.YtmdejhgacknfhaaQVw16
import Derived.Test.YtmdejhgacknfhaaVxOpen
namespace Go.Proofs.Ytmdejhgacknfhaa
open Go.RowKit Go.Bw Go.Vx
namespace WrapBackW
theorem rI {x : Int} (h : (Lit.int .i64 x).wf = true) : -9223372036854775808 ≤ x ∧ x ≤ 9223372036854775807 := by
  have h2 : (decide ((-9223372036854775808 : Int) ≤ x) && decide (x ≤ (9223372036854775807 : Int))) = true := h
  rw [Bool.and_eq_true, decide_eq_true_eq, decide_eq_true_eq] at h2
  exact h2
theorem rU8 {x : Int} (h : (Lit.int .u8 x).wf = true) : 0 ≤ x ∧ x ≤ 255 := by
  have h2 : (decide ((0 : Int) ≤ x) && decide (x ≤ (255 : Int))) = true := h
  rw [Bool.and_eq_true, decide_eq_true_eq, decide_eq_true_eq] at h2
  exact h2
theorem rU32 {x : Int} (h : (Lit.int .u32 x).wf = true) : 0 ≤ x ∧ x ≤ 4294967295 := by
  have h2 : (decide ((0 : Int) ≤ x) && decide (x ≤ (4294967295 : Int))) = true := h
  rw [Bool.and_eq_true, decide_eq_true_eq, decide_eq_true_eq] at h2
  exact h2
set_option maxRecDepth 100000 in
theorem walk {H : Type} (enc : TypeId × Value → H) {base : Nat} (w : World) (v0 : Value) (v1 : Value) (v2 : Value) (v3 : Value) (o0 : Value.okWide Try.prog w .any base 5 v0) (o1 : Value.okWide Try.prog w .any base 25 v1) (o2 : Value.okWide Try.prog w .any base 23 v2) (o3 : Value.okWide Try.prog w .any base 3 v3) (h0 : Bw.Tr enc Try.prog w 5 v0) (h1 : Bw.Tr enc Try.prog w 25 v1) (h2 : Bw.Tr enc Try.prog w 23 v2) (h3 : Bw.Tr enc Try.prog w 3 v3) :
    Calls Try.prog 4 #[v0, v1, v2, v3] w (Gives w (.bool true)) := by
  obtain ⟨d0, a0, r0⟩ := Sh.openV (sh := (.int .u8)) Try.underlying5 o0 h0 E0_own
  obtain ⟨d1, a1, r1⟩ := Sh.openV (sh := (.st (.cons .bool (.cons (.int .u32) (.cons .bool (.cons .bytes (.cons .str (.cons .str (.cons .bool .nil))))))))) (Exists.intro _ (And.intro Try.underlying25 (And.intro (by kernel_rfl) (And.intro rfl (And.intro (by kernel_rfl) (And.intro Try.underlying4 (And.intro rfl (And.intro (by kernel_rfl) (And.intro Try.underlying22 (And.intro rfl (And.intro (by kernel_rfl) (And.intro Try.underlying4 (And.intro rfl (And.intro (by kernel_rfl) (And.intro (Exists.intro 5 (And.intro Try.underlying23 (And.intro (by kernel_rfl) Try.underlying5))) (And.intro rfl (And.intro (by kernel_rfl) (And.intro Try.underlying9 (And.intro rfl (And.intro (by kernel_rfl) (And.intro Try.underlying9 (And.intro rfl (And.intro (by kernel_rfl) (And.intro Try.underlying4 trivial)))))))))))))))))))))))) o1 h1 E0_own
  obtain ⟨d2, a2, r2⟩ := Sh.openV (sh := .bytes) (Exists.intro 5 (And.intro Try.underlying23 (And.intro (by kernel_rfl) Try.underlying5))) o2 h2 E0_own
  obtain ⟨d3, a3, r3⟩ := Sh.openV (sh := (.int .i64)) Try.underlying3 o3 h3 E0_own
  obtain ⟨c, rfl, h_c⟩ := a0
  obtain ⟨_, rfl, ⟨_, _, rfl, ⟨l_Text, rfl⟩, ⟨_, _, rfl, ⟨l_Time, rfl, h_l_Time⟩, ⟨_, _, rfl, ⟨l_Has, rfl⟩, ⟨_, _, rfl, ⟨l_Extra, rfl, h_l_Extra⟩, ⟨_, _, rfl, ⟨l_Name, rfl, h_l_Name⟩, ⟨_, _, rfl, ⟨l_Comment, rfl, h_l_Comment⟩, ⟨_, _, rfl, ⟨l_Sum, rfl⟩, rfl⟩⟩⟩⟩⟩⟩⟩⟩ := a1
  obtain ⟨more, rfl, h_more⟩ := a2
  obtain ⟨n, rfl, h_n⟩ := a3
  have u_c := rU8 h_c
  have u_t := rU32 h_l_Time
  obtain ⟨c, rfl⟩ := Int.eq_ofNat_of_zero_le u_c.1
  obtain ⟨l_Time, rfl⟩ := Int.eq_ofNat_of_zero_le u_t.1
  refine SpecH.gives (f := 4) ?_ rfl (rd_cons r0 (rd_cons r1 (rd_cons r2 (rd_cons r3 (rd_nil w)))))
  by_cases hg : 600 < l_Extra.length ∨ 600 < l_Name.data.toList.length ∨ 600 < l_Comment.data.toList.length ∨ 2000 < more.length
  · exact Vw.wb_great c ⟨l_Text, l_Time, l_Has, l_Extra, l_Name.data.toList, l_Comment.data.toList, l_Sum⟩ _ rfl more _ rfl n hg
  have e1 : l_Extra.length ≤ 600 := by omega
  have e2 : l_Name.data.toList.length ≤ 600 := by omega
  have e3 : l_Comment.data.toList.length ≤ 600 := by omega
  have e4 : more.length ≤ 2000 := by omega
  have et : l_Time ≤ 4294967295 := by omega
  by_cases h1 : c = 1
  · subst h1
    exact Vw.wb_1 Sums.tab rfl ⟨l_Text, l_Time, l_Has, l_Extra, l_Name.data.toList, l_Comment.data.toList, l_Sum⟩ _ rfl e1 e2 e3 et more _ rfl e4 n (rI h_n)
  by_cases h2 : c = 2
  · subst h2
    by_cases ho : n < 0 ∨ 2 ≤ n
    · exact Vw.wb_2o ⟨l_Text, l_Time, l_Has, l_Extra, l_Name.data.toList, l_Comment.data.toList, l_Sum⟩ _ rfl e1 e2 e3 et more _ rfl e4 n ho
    have hn : n = 0 ∨ n = 1 := by omega
    rcases hn with rfl | rfl
    · exact Vw.wb_20 ⟨l_Text, l_Time, l_Has, l_Extra, l_Name.data.toList, l_Comment.data.toList, l_Sum⟩ _ rfl e1 e2 e3 et more _ rfl e4
    · exact Vw.wb_21 ⟨l_Text, l_Time, l_Has, l_Extra, l_Name.data.toList, l_Comment.data.toList, l_Sum⟩ _ rfl e1 e2 e3 et more _ rfl e4
  exact Vw.wb_c c (by omega) (by omega) ⟨l_Text, l_Time, l_Has, l_Extra, l_Name.data.toList, l_Comment.data.toList, l_Sum⟩ _ rfl e1 e2 e3 et more _ rfl e4 n
end WrapBackW
end Go.Proofs.Ytmdejhgacknfhaa

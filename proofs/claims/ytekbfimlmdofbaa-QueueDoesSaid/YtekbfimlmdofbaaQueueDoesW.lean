/- QueueDoes, joined. -/
import Derived.Test.YtekbfimlmdofbaaVq3
import Derived.Test.YtekbfimlmdofbaaVxOpen
namespace Go.Proofs.Ytekbfimlmdofbaa
open Go.RowKit Go.Bw Go.Vx
namespace QueueDoesW
set_option maxRecDepth 100000 in
theorem walk {H : Type} (enc : TypeId × Value → H) {base : Nat} (w : World) (v0 : Value) (v1 : Value) (v2 : Value) (o0 : Value.okWide Try.prog w .any base 24 v0) (o1 : Value.okWide Try.prog w .any base 22 v1) (o2 : Value.okWide Try.prog w .any base 3 v2) (h0 : Bw.Tr enc Try.prog w 24 v0) (h1 : Bw.Tr enc Try.prog w 22 v1) (h2 : Bw.Tr enc Try.prog w 3 v2) :
    Calls Try.prog 5 #[v0, v1, v2] w (Gives w (.bool true)) := by
  obtain ⟨d0, a0, r0⟩ := Sh.openV (sh := (.st (.cons (.int .i64) (.cons .bytes .nil)))) (Exists.intro _ (And.intro Try.underlying24 (And.intro (by kernel_rfl) (And.intro rfl (And.intro (by kernel_rfl) (And.intro Try.underlying3 (And.intro rfl (And.intro (by kernel_rfl) (And.intro (Exists.intro 5 (And.intro Try.underlying22 (And.intro (by kernel_rfl) Try.underlying5))) trivial))))))))) o0 h0 E0_own
  obtain ⟨d1, a1, r1⟩ := Sh.openV (sh := .bytes) (Exists.intro 5 (And.intro Try.underlying22 (And.intro (by kernel_rfl) Try.underlying5))) o1 h1 E0_own
  obtain ⟨d2, a2, r2⟩ := Sh.openV (sh := (.int .i64)) Try.underlying3 o2 h2 E0_own
  obtain ⟨_, rfl, ⟨_, _, rfl, ⟨q_Most, rfl, h_q_Most⟩, ⟨_, _, rfl, ⟨q_Bytes, rfl, h_q_Bytes⟩, rfl⟩⟩⟩ := a0
  obtain ⟨b, rfl, h_b⟩ := a1
  obtain ⟨n, rfl, h_n⟩ := a2
  refine SpecH.gives (f := 5) ?_ rfl (rd_cons r0 (rd_cons r1 (rd_cons r2 (rd_nil w))))
  by_cases hlong : 5000 < q_Bytes.length ∨ 5000 < b.length
  · exact Vq.does_long _ _ _ _ hlong
  have hq : q_Bytes.length ≤ 5000 := by omega
  have hb : b.length ≤ 5000 := by omega
  by_cases hm : 0 ≤ q_Most ∧ q_Most ≤ 65536 ∧ (q_Bytes.length : Int) ≤ q_Most
  · by_cases hn : n < 0
    · exact Vq.does_ok_neg _ _ _ _ hm hq hb hn
    · by_cases hn2 : n ≤ 65536
      · exact Vq.does_ok_in _ _ _ _ hm hq hb ⟨by omega, hn2⟩
      · exact Vq.does_ok_hi _ _ _ _ hm hq hb (by omega)
  · by_cases hn : 0 ≤ n ∧ n ≤ 65536
    · exact Vq.does_bad_in _ _ _ _ hm hq hb hn
    · exact Vq.does_bad_hi _ _ _ _ hm hq hb (by omega)
end QueueDoesW
end Go.Proofs.Ytekbfimlmdofbaa

/- QueueKeeps, joined. -/
import Derived.Test.YtekbfimlmdofbaaVq6
import Derived.Test.YtekbfimlmdofbaaVxOpen
namespace Go.Proofs.Ytekbfimlmdofbaa
open Go.RowKit Go.Bw Go.Vx
namespace QueueKeepsW
set_option maxRecDepth 100000 in
theorem walk {H : Type} (enc : TypeId × Value → H) {base : Nat} (w : World) (v0 : Value) (v1 : Value) (o0 : Value.okWide Try.prog w .any base 24 v0) (o1 : Value.okWide Try.prog w .any base 51 v1) (h0 : Bw.Tr enc Try.prog w 24 v0) (h1 : Bw.Tr enc Try.prog w 51 v1) (hz1 : ∀ a len cap, v1 = .slice a len cap → len * Try.prog.bytesOf 54 ≤ reachBytes) :
    Calls Try.prog 6 #[v0, v1] w (Gives w (.bool true)) := by
  obtain ⟨d0, a0, r0⟩ := Sh.openV (sh := (.st (.cons (.int .i64) (.cons .bytes .nil)))) (Exists.intro _ (And.intro Try.underlying24 (And.intro (by kernel_rfl) (And.intro rfl (And.intro (by kernel_rfl) (And.intro Try.underlying3 (And.intro rfl (And.intro (by kernel_rfl) (And.intro (Exists.intro 5 (And.intro Try.underlying22 (And.intro (by kernel_rfl) Try.underlying5))) trivial))))))))) o0 h0 E0_own
  obtain ⟨d1, a1, r1⟩ := Sh.openV (sh := (.sl (.st (.cons .bytes (.cons (.int .i64) .nil))) 2)) (Exists.intro 54 (And.intro Try.underlying51 (And.intro (by kernel_rfl) (And.intro (by decide) (And.intro rfl (Exists.intro _ (And.intro Try.underlying54 (And.intro (by kernel_rfl) (And.intro rfl (And.intro (by kernel_rfl) (And.intro (Exists.intro 5 (And.intro Try.underlying22 (And.intro (by kernel_rfl) Try.underlying5))) (And.intro rfl (And.intro (by kernel_rfl) (And.intro Try.underlying3 trivial)))))))))))))) o1 h1 E0_own
  obtain ⟨_, rfl, ⟨_, _, rfl, ⟨q_Most, rfl, h_q_Most⟩, ⟨_, _, rfl, ⟨q_Bytes, rfl, h_q_Bytes⟩, rfl⟩⟩⟩ := a0
  obtain ⟨els, rfl, e_els, h_els⟩ := a1
  have hlen : els.length ≤ 8796093022208 := by
    have hb : Try.prog.bytesOf 54 = 32 := by kernel_rfl
    cases r1 with
    | sl _ _ _ _ a c us =>
      have := hz1 a els.length c rfl
      rw [hb] at this
      have := reachBytes_lt
      omega
  obtain ⟨l, rfl, _⟩ := els_map (f := Vq.opD) (p := fun _ => True) els fun el hel => by
    obtain ⟨_, _, rfl, ⟨bs, rfl, _⟩, _, _, rfl, ⟨n, rfl, _⟩, rfl⟩ := e_els el hel
    exact ⟨(bs, n), rfl, trivial⟩
  rw [← List.flatMap_def, List.length_map] at r1
  rw [List.length_map] at hlen
  refine SpecH.gives (f := 6) ?_ rfl (rd_cons r0 (rd_cons r1 (rd_nil w)))
  by_cases hm : 0 ≤ q_Most ∧ q_Most ≤ 65536 ∧ (q_Bytes.length : Int) ≤ q_Most
  · exact Vq.keeps_ok _ _ _ hm (by omega)
  · exact Vq.keeps_bad _ _ _ hm
end QueueKeepsW
end Go.Proofs.Ytekbfimlmdofbaa

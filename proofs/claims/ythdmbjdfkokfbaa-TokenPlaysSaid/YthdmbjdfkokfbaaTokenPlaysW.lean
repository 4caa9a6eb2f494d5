/- TokenPlays, joined. -/
import Derived.Test.YthdmbjdfkokfbaaVt2
import Derived.Test.YthdmbjdfkokfbaaVxOpen
namespace Go.Proofs.Ythdmbjdfkokfbaa
open Go.RowKit Go.Bw Go.Vx
namespace TokenPlaysW
set_option maxRecDepth 100000 in
theorem walk {H : Type} (enc : TypeId × Value → H) {base : Nat} (w : World) (v0 : Value) (v1 : Value) (o0 : Value.okWide Try.prog w .any base 22 v0) (o1 : Value.okWide Try.prog w .any base 23 v1) (h0 : Bw.Tr enc Try.prog w 22 v0) (h1 : Bw.Tr enc Try.prog w 23 v1) :
    Calls Try.prog 3 #[v0, v1] w (Gives w (.bool true)) := by
  obtain ⟨d0, a0, r0⟩ := Sh.openV (sh := .bytes) (Exists.intro 5 (And.intro Try.underlying22 (And.intro (by kernel_rfl) Try.underlying5))) o0 h0 E0_own
  obtain ⟨d1, a1, r1⟩ := Sh.openV (sh := (.sl (.st (.cons (.int .u8) (.cons (.int .i64) (.cons (.int .i64) .nil)))) 3)) (Exists.intro 32 (And.intro Try.underlying23 (And.intro (by kernel_rfl) (And.intro (by decide) (And.intro rfl (Exists.intro _ (And.intro Try.underlying32 (And.intro (by kernel_rfl) (And.intro rfl (And.intro (by kernel_rfl) (And.intro Try.underlying5 (And.intro rfl (And.intro (by kernel_rfl) (And.intro Try.underlying3 (And.intro rfl (And.intro (by kernel_rfl) (And.intro Try.underlying3 trivial))))))))))))))))) o1 h1 E0_own
  obtain ⟨a, rfl, h_a⟩ := a0
  obtain ⟨els, rfl, e_els, h_els⟩ := a1
  obtain ⟨l, rfl, _⟩ := els_map (f := Vt.tokD) (p := fun _ => True) els fun el hel => by
    obtain ⟨_, _, rfl, ⟨lit, rfl, hlit⟩, _, _, rfl, ⟨dist, rfl, _⟩, _, _, rfl, ⟨long, rfl, _⟩, rfl⟩ := e_els el hel
    refine ⟨⟨UInt8.ofNat lit.toNat, dist, long⟩, ?_, trivial⟩
    show [D.v (.int .u8 lit), _, _] = [dB (UInt8.ofNat lit.toNat), _, _]
    unfold dB
    rw [byte_of lit hlit]
  rw [← List.flatMap_def, List.length_map] at r1
  refine SpecH.gives (f := 3) ?_ rfl (rd_cons r0 (rd_cons r1 (rd_nil w)))
  by_cases hlong : 5000 < a.length ∨ 300 < l.length
  · exact Vt.plays_long _ _ hlong
  cases hR : Vt.playE a.length a l with
  | ok res => exact Vt.plays_ok _ _ (by omega) (by omega) res hR
  | error e => exact Vt.plays_err _ _ (by omega) (by omega) e hR
end TokenPlaysW
end Go.Proofs.Ythdmbjdfkokfbaa

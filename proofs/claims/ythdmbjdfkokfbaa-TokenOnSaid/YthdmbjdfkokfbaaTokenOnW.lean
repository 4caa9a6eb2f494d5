/- TokenOn, joined. -/
import Derived.Test.YthdmbjdfkokfbaaVt5
import Derived.Test.YthdmbjdfkokfbaaVxOpen
namespace Go.Proofs.Ythdmbjdfkokfbaa
open Go.RowKit Go.Bw Go.Vx
namespace TokenOnW
theorem rI {x : Int} (h : (Lit.int .i64 x).wf = true) : -9223372036854775808 ≤ x ∧ x ≤ 9223372036854775807 := by
  have h2 : (decide ((-9223372036854775808 : Int) ≤ x) && decide (x ≤ (9223372036854775807 : Int))) = true := h
  rw [Bool.and_eq_true, decide_eq_true_eq, decide_eq_true_eq] at h2
  exact h2
theorem rU8 {x : Int} (h : (Lit.int .u8 x).wf = true) : 0 ≤ x ∧ x ≤ 255 := by
  have h2 : (decide ((0 : Int) ≤ x) && decide (x ≤ (255 : Int))) = true := h
  rw [Bool.and_eq_true, decide_eq_true_eq, decide_eq_true_eq] at h2
  exact h2
theorem rU32 {x : Int} (h : (Lit.int .u32 x).wf = true) : 0 ≤ x ∧ x ≤ 4294967295 := by
  have h2 : (decide ((0 : Int) ≤ x) && decide (x ≤ (4294967295 : Int))) = true := h
  rw [Bool.and_eq_true, decide_eq_true_eq, decide_eq_true_eq] at h2
  exact h2
set_option maxRecDepth 100000 in
theorem walk {H : Type} (enc : TypeId × Value → H) {base : Nat} (w : World) (v0 : Value) (v1 : Value) (v2 : Value) (o0 : Value.okWide Try.prog w .any base 22 v0) (o1 : Value.okWide Try.prog w .any base 23 v1) (o2 : Value.okWide Try.prog w .any base 3 v2) (h0 : Bw.Tr enc Try.prog w 22 v0) (h1 : Bw.Tr enc Try.prog w 23 v1) (h2 : Bw.Tr enc Try.prog w 3 v2) :
    Calls Try.prog 8 #[v0, v1, v2] w (Gives w (.bool true)) := by
  obtain ⟨d0, a0, r0⟩ := Sh.openV (sh := .bytes) (Exists.intro 5 (And.intro Try.underlying22 (And.intro (by kernel_rfl) Try.underlying5))) o0 h0 E0_own
  obtain ⟨d1, a1, r1⟩ := Sh.openV (sh := (.sl (.st (.cons (.int .u8) (.cons (.int .i64) (.cons (.int .i64) .nil)))) 3)) (Exists.intro 32 (And.intro Try.underlying23 (And.intro (by kernel_rfl) (And.intro (by decide) (And.intro rfl (Exists.intro _ (And.intro Try.underlying32 (And.intro (by kernel_rfl) (And.intro rfl (And.intro (by kernel_rfl) (And.intro Try.underlying5 (And.intro rfl (And.intro (by kernel_rfl) (And.intro Try.underlying3 (And.intro rfl (And.intro (by kernel_rfl) (And.intro Try.underlying3 trivial))))))))))))))))) o1 h1 E0_own
  obtain ⟨d2, a2, r2⟩ := Sh.openV (sh := (.int .i64)) Try.underlying3 o2 h2 E0_own
  obtain ⟨a, rfl, h_a⟩ := a0
  obtain ⟨els, rfl, e_els, h_els⟩ := a1
  obtain ⟨p, rfl, h_p⟩ := a2
  obtain ⟨l, rfl, _⟩ := els_map (f := Vt.tokD) (p := fun _ => True) els fun el hel => by
    obtain ⟨_, _, rfl, ⟨lit, rfl, hlit⟩, _, _, rfl, ⟨dist, rfl, _⟩, _, _, rfl, ⟨long, rfl, _⟩, rfl⟩ := e_els el hel
    refine ⟨⟨UInt8.ofNat lit.toNat, dist, long⟩, ?_, trivial⟩
    show [D.v (.int .u8 lit), _, _] = [dB (UInt8.ofNat lit.toNat), _, _]
    unfold dB
    rw [byte_of lit hlit]
  rw [← List.flatMap_def, List.length_map] at r1
  refine SpecH.gives (f := 8) ?_ rfl (rd_cons r0 (rd_cons r1 (rd_cons r2 (rd_nil w))))
  by_cases hg : 5000 < a.length ∨ 300 < l.length ∨ p < 0 ∨ (l.length : Int) < p
  · exact Vt.on_great _ _ _ _ _ rfl rfl (rI h_p) hg
  cases hR2 : Vt.playE a.length a (l.take p.toNat) with
  | error e => exact Vt.on_e1 _ _ _ _ _ rfl rfl (rI h_p) (by omega) e hR2 (Vt.on_err hR2) (Vt.playE_ne hR2)
  | ok c =>
    have hs := Vt.on_split (n := a.length) rfl (by omega) (by omega) hR2
    cases hR1 : Vt.playE a.length a l with
    | error e => exact Vt.on_e2 _ _ _ _ _ rfl rfl (rI h_p) (by omega) c e hR2 hR1 (hs ▸ hR1) (Vt.playE_ne hR1)
    | ok r => exact Vt.on_ok _ _ _ _ _ rfl rfl (rI h_p) (by omega) c r hR2 hR1 (hs ▸ hR1)
end TokenOnW
end Go.Proofs.Ythdmbjdfkokfbaa

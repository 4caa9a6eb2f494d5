/- PressParts, joined. -/
import Derived.Test.YtefjnofhgkjpmaaTm12
namespace Go.Proofs.Ytefjnofhgkjpmaa
open Go.RowKit Go.Bw Go.Vx
namespace PressPartsW
theorem rI {x : Int} (h : (Lit.int .i64 x).wf = true) : -9223372036854775808 ≤ x ∧ x ≤ 9223372036854775807 := by
  have h2 : (decide ((-9223372036854775808 : Int) ≤ x) && decide (x ≤ (9223372036854775807 : Int))) = true := h
  rw [Bool.and_eq_true, decide_eq_true_eq, decide_eq_true_eq] at h2
  exact h2
theorem rU8 {x : Int} (h : (Lit.int .u8 x).wf = true) : 0 ≤ x ∧ x ≤ 255 := by
  have h2 : (decide ((0 : Int) ≤ x) && decide (x ≤ (255 : Int))) = true := h
  rw [Bool.and_eq_true, decide_eq_true_eq, decide_eq_true_eq] at h2
  exact h2
theorem rU32 {x : Int} (h : (Lit.int .u32 x).wf = true) : 0 ≤ x ∧ x ≤ 4294967295 := by
  have h2 : (decide ((0 : Int) ≤ x) && decide (x ≤ (4294967295 : Int))) = true := h
  rw [Bool.and_eq_true, decide_eq_true_eq, decide_eq_true_eq] at h2
  exact h2
set_option maxRecDepth 100000 in
theorem walk {H : Type} (enc : TypeId × Value → H) {base : Nat} (w : World) (v0 : Value) (v1 : Value) (v2 : Value) (o0 : Value.okWide Try.prog w .any base 28 v0) (o1 : Value.okWide Try.prog w .any base 24 v1) (o2 : Value.okWide Try.prog w .any base 24 v2) (h0 : Bw.Tr enc Try.prog w 28 v0) (h1 : Bw.Tr enc Try.prog w 24 v1) (h2 : Bw.Tr enc Try.prog w 24 v2) (hz2 : ∀ a len cap, v2 = .slice a len cap → len * Try.prog.bytesOf 5 ≤ reachBytes) :
    Calls Try.prog 3 #[v0, v1, v2] w (Gives w (.bool true)) := by
  obtain ⟨d0, a0, r0⟩ := Sh.openV (sh := (.st (.cons (.st (.cons (.int .i64) (.cons (.int .i64) (.cons (.int .i64) (.cons .bool .nil))))) (.cons .bytes (.cons .bytes (.cons (.st (.cons .bytes (.cons (.int .i64) .nil))) (.cons .bool .nil))))))) (Exists.intro _ (And.intro Try.underlying28 (And.intro (by kernel_rfl) (And.intro rfl (And.intro (by kernel_rfl) (And.intro (Exists.intro _ (And.intro Try.underlying23 (And.intro (by kernel_rfl) (And.intro rfl (And.intro (by kernel_rfl) (And.intro Try.underlying3 (And.intro rfl (And.intro (by kernel_rfl) (And.intro Try.underlying3 (And.intro rfl (And.intro (by kernel_rfl) (And.intro Try.underlying3 (And.intro rfl (And.intro (by kernel_rfl) (And.intro Try.underlying4 trivial))))))))))))))) (And.intro rfl (And.intro (by kernel_rfl) (And.intro (Exists.intro 5 (And.intro Try.underlying24 (And.intro (by kernel_rfl) Try.underlying5))) (And.intro rfl (And.intro (by kernel_rfl) (And.intro (Exists.intro 5 (And.intro Try.underlying24 (And.intro (by kernel_rfl) Try.underlying5))) (And.intro rfl (And.intro (by kernel_rfl) (And.intro (Exists.intro _ (And.intro Try.underlying26 (And.intro (by kernel_rfl) (And.intro rfl (And.intro (by kernel_rfl) (And.intro (Exists.intro 5 (And.intro Try.underlying24 (And.intro (by kernel_rfl) Try.underlying5))) (And.intro rfl (And.intro (by kernel_rfl) (And.intro Try.underlying3 trivial))))))))) (And.intro rfl (And.intro (by kernel_rfl) (And.intro Try.underlying4 trivial)))))))))))))))))) o0 h0 E0_own
  obtain ⟨d1, a1, r1⟩ := Sh.openV (sh := .bytes) (Exists.intro 5 (And.intro Try.underlying24 (And.intro (by kernel_rfl) Try.underlying5))) o1 h1 E0_own
  obtain ⟨d2, a2, r2⟩ := Sh.openV (sh := .bytes) (Exists.intro 5 (And.intro Try.underlying24 (And.intro (by kernel_rfl) Try.underlying5))) o2 h2 E0_own
  obtain ⟨_, rfl, ⟨_, _, rfl, ⟨_, _, rfl, ⟨p_Style_Size, rfl, h_p_Style_Size⟩, ⟨_, _, rfl, ⟨p_Style_Chain, rfl, h_p_Style_Chain⟩, ⟨_, _, rfl, ⟨p_Style_Most, rfl, h_p_Style_Most⟩, ⟨_, _, rfl, ⟨p_Style_Lazy, rfl⟩, rfl⟩⟩⟩⟩, ⟨_, _, rfl, ⟨p_Hist, rfl, h_p_Hist⟩, ⟨_, _, rfl, ⟨p_Wait, rfl, h_p_Wait⟩, ⟨_, _, rfl, ⟨_, _, rfl, ⟨p_Pen_Bytes, rfl, h_p_Pen_Bytes⟩, ⟨_, _, rfl, ⟨p_Pen_Bits, rfl, h_p_Pen_Bits⟩, rfl⟩⟩, ⟨_, _, rfl, ⟨p_Over, rfl⟩, rfl⟩⟩⟩⟩⟩⟩ := a0
  obtain ⟨a, rfl, h_a⟩ := a1
  obtain ⟨b, rfl, h_b⟩ := a2
  have hlen : b.length ≤ 1000000000000000 := by
    cases r2 with
    | sl _ _ _ _ a c us =>
      have := hz2 a b.length c rfl
      have hb : Try.prog.bytesOf 5 = 1 := by kernel_rfl
      rw [hb] at this
      have := reachBytes_lt
      omega
  refine SpecH.gives (f := 3) ?_ rfl (rd_cons r0 (rd_cons r1 (rd_cons r2 (rd_nil w))))
  by_cases hG : 600 < p_Hist.length ∨ 300 < p_Wait.length ∨ 300 < a.length ∨ 300 < a.length + b.length
  · exact Vp.parts_g p_Style_Size p_Style_Chain p_Style_Most p_Style_Lazy p_Hist _ rfl p_Wait _ rfl p_Pen_Bytes _ rfl p_Pen_Bits p_Over a _ rfl b _ rfl hG (by omega)
  rcases Vp.press_cases p_Style_Size p_Style_Chain p_Style_Most p_Style_Lazy p_Hist _ rfl p_Wait _ rfl p_Pen_Bytes _ rfl p_Pen_Bits p_Over (by omega) (by omega) with hC | ⟨x, y, z, l, rfl, rfl, rfl, rfl, rfl, h1, h2, h3, h4, h5, h6, h7⟩
  · exact Vp.parts_b _ _ _ _ p_Hist _ rfl p_Wait _ rfl p_Pen_Bytes _ rfl _ _ hC a _ rfl b _ rfl (by omega)
  cases p_Over with
  | true => exact Vp.parts_o (x : Int) (y : Int) (z : Int) p_Style_Lazy p_Hist _ rfl p_Wait _ rfl _ _ rfl _ ⟨Vp.Chk_o x y z p_Style_Lazy h1 h2 h3 p_Hist _ rfl h4 p_Wait _ rfl h5 l _ rfl h6 true h7⟩ a _ rfl b _ rfl (by omega)
  | false =>
    have k1 := Vp.wrT_ok (sz := x) (ch := y) (lz := p_Style_Lazy) (W := p_Wait) (b := a) h3.1 h4 h6
    have k2 := Vp.wrT_ok (sz := x) (ch := y) (lz := p_Style_Lazy) (W := (Vp.wrT x y z p_Style_Lazy p_Hist l p_Wait a).w) (b := b) h3.1 k1.h k1.p
    have o1 := Vp.wrT_olen (sz := x) (ch := y) (lz := p_Style_Lazy) (H := p_Hist) (W := p_Wait) (b := a) h3.2 h6
    have o2 := Vp.wrT_olen (sz := x) (ch := y) (lz := p_Style_Lazy) (H := (Vp.wrT x y z p_Style_Lazy p_Hist l p_Wait a).H) (W := (Vp.wrT x y z p_Style_Lazy p_Hist l p_Wait a).w) (b := b) h3.2 k1.p
    have w1 := Vp.lp_wlen (sz := x) (ch := y) (lz := p_Style_Lazy) h3.1 (p_Wait.length + a.length) ⟨p_Hist, l, p_Wait ++ a, []⟩
    rw [← Vp.wrT_eq] at w1
    have w2 : (p_Wait ++ a).length = p_Wait.length + a.length := List.length_append
    have w1 : (Vp.wrT x y z p_Style_Lazy p_Hist l p_Wait a).w.length ≤ p_Wait.length + a.length := w2 ▸ w1
    have q := Vp.uWrite_t x y z p_Style_Lazy h1 h2 h3 p_Hist _ rfl h4 p_Wait _ rfl h5 l _ rfl h6 (a ++ b) (a.length + b.length) List.length_append.symm (by omega)
    rw [Vp.wrT_app h3.1] at q
    exact Vp.parts_v x y z p_Style_Lazy h1 h2 h3 p_Hist _ rfl h4 p_Wait _ rfl h5 l _ rfl h6 (by omega) (by omega) a _ rfl b _ rfl (by omega) _ _ _ _ _ _ _ _ ⟨Vp.uWrite_t x y z p_Style_Lazy h1 h2 h3 p_Hist _ rfl h4 p_Wait _ rfl h5 l _ rfl h6 a _ rfl (by omega)⟩ ⟨Vp.uWrite_t x y z p_Style_Lazy h1 h2 h3 _ _ rfl k1.h _ _ rfl k1.w _ _ rfl k1.p b _ rfl (by omega)⟩ ⟨q⟩ (by omega) (by omega) k2.h k2.w k2.p
end PressPartsW
end Go.Proofs.Ytefjnofhgkjpmaa

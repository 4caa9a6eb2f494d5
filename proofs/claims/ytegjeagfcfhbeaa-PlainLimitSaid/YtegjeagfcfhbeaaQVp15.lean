/- Vp15: made by vx.py. -/
import Derived.Test.YtegjeagfcfhbeaaQVp14
namespace Go.Proofs.Ytegjeagfcfhbeaa
open Go.RowKit Go.Bw Go.Vx
namespace Vp
set_option linter.unusedVariables false
set_option linter.unusedSimpArgs false
/-! ### limits -/
theorem tl_len (b : List UInt8) (most : Int) : ∀ (k : Nat) (m : Option Kb) (s : Rs) (o : List UInt8), o.length ≤ (tlF b most k m s o).2.length
  | 0, _, _, _ => Nat.le_refl _
  | k + 1, none, s, o => by rw [tlF]; exact tl_len b most k _ _ _
  | k + 1, some K, s, o => by
    rw [tlF]
    split
    · split
      · exact Nat.le_refl _
      · exact tl_len b most k _ _ _
    · split
      · exact Nat.le_refl _
      · refine Nat.le_trans ?_ (tl_len b most k _ _ _)
        rw [plT_len]; omega
theorem tl_most (b : List UInt8) (most : Int) : ∀ (k : Nat) (m : Option Kb) (s : Rs) (o : List UInt8), (o.length : Int) ≤ most → ((tlF b most k m s o).2.length : Int) ≤ most
  | 0, _, _, _, h => h
  | k + 1, none, s, o, h => by rw [tlF]; exact tl_most b most k _ _ _ h
  | k + 1, some K, s, o, h => by
    rw [tlF]
    split
    · split
      · exact h
      · exact tl_most b most k _ _ _ h
    · split
      · exact h
      · next q =>
        have h2 := tkC_e (most := most) (d := (stK b K s).2.2.1) (long := (stK b K s).2.2.2.1) (s := (stK b K s).1) (o := o) (by omega)
        refine tl_most b most k _ _ _ ?_
        rw [plT_len]; have := h2.2.2.1; omega
theorem tkC_lim {most : Int} {d long : Nat} {s : Rs} {o : List UInt8} (hs : s.e = 0) (h : (tkC most d long s o).e ≠ 0) : (o.length < d ∧ (tkC most d long s o).e = 60) ∨ (d ≤ o.length ∧ most < ((o.length : Nat) : Int) + max 1 ((long : Nat) : Int) ∧ (tkC most d long s o).e = 140) := by
  by_cases h1 : (d : Int) ≤ ((o.length : Nat) : Int)
  · right
    have e1 : tkC most d long s o = fl s (decide (((o.length : Nat) : Int) + max 1 ((long : Nat) : Int) ≤ most)) 140 := by
      unfold tkC; rw [show decide ((d : Int) ≤ ((o.length : Nat) : Int)) = true from decide_eq_true h1, fl_t]
    by_cases h2 : ((o.length : Nat) : Int) + max 1 ((long : Nat) : Int) ≤ most
    · rw [e1, show decide (((o.length : Nat) : Int) + max 1 ((long : Nat) : Int) ≤ most) = true from decide_eq_true h2, fl_t] at h
      exact absurd hs h
    · refine ⟨by omega, by omega, ?_⟩
      rw [e1, show decide (((o.length : Nat) : Int) + max 1 ((long : Nat) : Int) ≤ most) = false from decide_eq_false h2, fl_f hs]
  · left
    refine ⟨by omega, ?_⟩
    unfold tkC
    rw [show decide ((d : Int) ≤ ((o.length : Nat) : Int)) = false from decide_eq_false h1, fl_f hs, fl_x (show (60 : Nat) ≠ 0 by decide)]
theorem tl_lim (b : List UInt8) (most more : Int) : ∀ (k : Nat) (m : Option Kb) (s : Rs) (o : List UInt8),
    ((tlF b most k m s o).1.e = 0 → ((tlF b most k m s o).2.length : Int) ≤ more → tlF b more k m s o = tlF b most k m s o) ∧
    ((tlF b most k m s o).1.e = 140 → more ≤ most → (tlF b more k m s o).1.e = 140)
  | 0, _, _, _ => ⟨fun _ _ => rfl, fun h _ => h⟩
  | k + 1, none, s, o => by rw [tlF, tlF]; exact tl_lim b most more k _ _ _
  | k + 1, some K, s, o => by
    rw [tlF, tlF]
    by_cases q : (stK b K s).1.e ≠ 0 ∨ (stK b K s).2.2.2.2 = true
    · rw [if_pos q, if_pos q]
      split
      · exact ⟨fun _ _ => rfl, fun h _ => h⟩
      · exact tl_lim b most more k _ _ _
    · rw [if_neg q, if_neg q]
      have q1 : (stK b K s).1.e = 0 := by
        rcases Classical.em ((stK b K s).1.e = 0) with y | y
        · exact y
        · exact absurd (.inl y) q
      by_cases a1 : (tkC most (stK b K s).2.2.1 (stK b K s).2.2.2.1 (stK b K s).1 o).e ≠ 0
      · rw [if_pos a1]
        refine ⟨fun h => absurd h a1, fun h hm => ?_⟩
        have h : (tkC most (stK b K s).2.2.1 (stK b K s).2.2.2.1 (stK b K s).1 o).e = 140 := h
        rcases tkC_lim q1 a1 with ⟨c1, c2⟩ | ⟨c1, c2, _⟩
        · omega
        · have a2 : (tkC more (stK b K s).2.2.1 (stK b K s).2.2.2.1 (stK b K s).1 o).e ≠ 0 := fun y => by
            have := (tkC_e y).2.2.1
            omega
          rw [if_pos a2]
          rcases tkC_lim q1 a2 with ⟨c3, _⟩ | ⟨_, _, c3⟩
          · omega
          · exact c3
      · rw [if_neg a1]
        have t1 := tkC_e (most := most) (d := (stK b K s).2.2.1) (long := (stK b K s).2.2.2.1) (s := (stK b K s).1) (o := o) (by omega)
        by_cases a2 : (tkC more (stK b K s).2.2.1 (stK b K s).2.2.2.1 (stK b K s).1 o).e ≠ 0
        · rw [if_pos a2]
          rcases tkC_lim q1 a2 with ⟨c3, _⟩ | ⟨_, c4, c3⟩
          · omega
          · refine ⟨fun _ h => ?_, fun _ _ => c3⟩
            exfalso
            have := tl_len b most k (some { K with le := K.le - 1 }) (tkC most (stK b K s).2.2.1 (stK b K s).2.2.2.1 (stK b K s).1 o) (plT (stK b K s).2.1 (stK b K s).2.2.1 (stK b K s).2.2.2.1 o)
            rw [plT_len] at this
            omega
        · rw [if_neg a2]
          have t2 := tkC_e (most := more) (d := (stK b K s).2.2.1) (long := (stK b K s).2.2.2.1) (s := (stK b K s).1) (o := o) (by omega)
          rw [t1.2.2.2, t2.2.2.2]
          exact tl_lim b most more k _ _ _

set_option maxRecDepth 100000 in
theorem al_1 : infR [75, 4, 0] 0 9 = ([97], 18, 0) := by decide +kernel
set_option maxRecDepth 100000 in
theorem al_2 : infR [1, 3, 0, 252, 255, 97, 98, 99] 0 3 = ([97, 98, 99], 64, 0) := by decide +kernel

theorem inf_c1 : SpecH false Try.prog 18 [.sl false 3 1 (([75, 4, 0] : List UInt8).map dB), iD 0, iD 9] [] (.tup [.ref 0 0 0 1 1, nD 18, nD 0]) [⟨([97] : List UInt8).map dB, 5, true⟩] := Inf_t [75, 4, 0] 3 rfl (by decide) 0 9 ([97], 18, 0) al_1
theorem inf_c2 : SpecH false Try.prog 18 [.sl false 8 1 (([1, 3, 0, 252, 255, 97, 98, 99] : List UInt8).map dB), iD 0, iD 3] [] (.tup [.ref 0 0 0 3 1, nD 64, nD 0]) [⟨([97, 98, 99] : List UInt8).map dB, 5, true⟩] := Inf_t [1, 3, 0, 252, 255, 97, 98, 99] 8 rfl (by decide) 0 3 ([97, 98, 99], 64, 0) al_2
set_option maxRecDepth 100000 in
set_option maxHeartbeats 4000000 in
theorem alive  : SpecH false Try.prog 17 [] [] (.v (.bool true)) [] := by
  refine SpecH.run T_ok mixed Try.func17 rfl rfl rfl trivial rfl 1000 64 (fun R ok => (.s 9 (.call 18 false [] (true) (by with_reducible rfl) ([D.sl true 3 1 [D.v (Value.int IntKind.u8 75), D.v (Value.int IntKind.u8 4), D.v (Value.int IntKind.u8 0)], D.v (Value.int IntKind.i64 0), D.v (Value.int IntKind.i64 9)]) _ (by exact (And.intro (D.sim.slw rfl rfl) (And.intro (D.sim.refl _) (And.intro (D.sim.refl _) trivial)))) (true) (by with_reducible rfl) _ _ _ (CallOk.fn (FnOk.of Try.func18 rfl rfl) (@Go.Proofs.Ytegjeagfcfhbeaa.Vp.inf_c1)) (.s 45 (.call 18 false [] (true) (by with_reducible rfl) ([D.sl true 8 1 [D.v (Value.int IntKind.u8 1), D.v (Value.int IntKind.u8 3), D.v (Value.int IntKind.u8 0), D.v (Value.int IntKind.u8 252), D.v (Value.int IntKind.u8 255), D.v (Value.int IntKind.u8 97), D.v (Value.int IntKind.u8 98), D.v (Value.int IntKind.u8 99)], D.v (Value.int IntKind.i64 0), D.v (Value.int IntKind.i64 3)]) _ (by exact (And.intro (D.sim.slw rfl rfl) (And.intro (D.sim.refl _) (And.intro (D.sim.refl _) trivial)))) (true) (by with_reducible rfl) _ _ _ (CallOk.fn (FnOk.of Try.func18 rfl rfl) (@Go.Proofs.Ytegjeagfcfhbeaa.Vp.inf_c2)) (.s 37 (.out [] [] (D.v (Value.bool true)) [] R (ok _ _ (by with_reducible rfl) (by with_reducible rfl))))))))) (by kernel_rfl)
end Vp
end Go.Proofs.Ytegjeagfcfhbeaa

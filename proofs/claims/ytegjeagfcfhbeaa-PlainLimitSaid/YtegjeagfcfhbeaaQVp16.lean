/- Vp16: made by vx.py. -/
import Derived.Test.YtegjeagfcfhbeaaQVp15
namespace Go.Proofs.Ytegjeagfcfhbeaa
open Go.RowKit Go.Bw Go.Vx
namespace Vp
set_option linter.unusedVariables false
set_option linter.unusedSimpArgs false
/-- What PlainLimit says of two answers. -/
theorem inf_x {b : List UInt8} {x most : Int} (h : (infR b x most).2.2 ≠ 0) : (infR b x most).1.length = 0 ∧ (infR b x most).2.1 = 0 := by
  by_cases h1 : x < 0 ∨ 8 * (b.length : Int) < x
  · rw [inf_1 h1]; exact ⟨rfl, rfl⟩
  · by_cases h2 : most < 0 ∨ 131072 < most
    · rw [inf_2 h1 h2]; exact ⟨rfl, rfl⟩
    · by_cases h3 : (allR b most x.toNat).1.e ≠ 0
      · rw [inf_3 h1 h2 h3]; exact ⟨rfl, rfl⟩
      · rw [inf_4 h1 h2 h3] at h; exact absurd rfl h
theorem inf_140 {b : List UInt8} {x most more : Int} (h : (infR b x most).2.2 = 140) (hm : more ≤ most) (h0 : 0 ≤ more) : (infR b x more).2.2 = 140 := by
  by_cases h1 : x < 0 ∨ 8 * (b.length : Int) < x
  · rw [inf_1 h1] at h; cases h
  · by_cases h2 : most < 0 ∨ 131072 < most
    · rw [inf_2 h1 h2] at h; cases h
    · by_cases h3 : (allR b most x.toNat).1.e ≠ 0
      · rw [inf_3 h1 h2 h3] at h
        have h : (allR b most x.toNat).1.e = 140 := h
        have q : (allR b more x.toNat).1.e = 140 := by
          unfold allR at h ⊢; rw [tlR_eq] at h ⊢
          exact (tl_lim b most more _ _ _ _).2 h hm
        rw [inf_3 h1 (by omega) (by omega)]; exact q
      · rw [inf_4 h1 h2 h3] at h; cases h
theorem inf_len {b : List UInt8} {x most : Int} (h : (infR b x most).2.2 = 0) : ((infR b x most).1.length : Int) ≤ most := by
  by_cases h1 : x < 0 ∨ 8 * (b.length : Int) < x
  · rw [inf_1 h1] at h; cases h
  · by_cases h2 : most < 0 ∨ 131072 < most
    · rw [inf_2 h1 h2] at h; cases h
    · by_cases h3 : (allR b most x.toNat).1.e ≠ 0
      · rw [inf_3 h1 h2 h3] at h; exact absurd h h3
      · rw [inf_4 h1 h2 h3]
        show ((allR b most x.toNat).2.length : Int) ≤ most
        unfold allR; rw [tlR_eq]
        exact tl_most b most _ _ _ _ (by show ((0 : Nat) : Int) ≤ most; omega)
theorem inf_same {b : List UInt8} {x most more : Int} (h : (infR b x most).2.2 = 0) (hl : ((infR b x most).1.length : Int) ≤ more) (hm : more ≤ 131072) : infR b x more = infR b x most := by
  by_cases h1 : x < 0 ∨ 8 * (b.length : Int) < x
  · rw [inf_1 h1] at h; cases h
  · by_cases h2 : most < 0 ∨ 131072 < most
    · rw [inf_2 h1 h2] at h; cases h
    · by_cases h3 : (allR b most x.toNat).1.e ≠ 0
      · rw [inf_3 h1 h2 h3] at h; exact absurd h h3
      · rw [inf_4 h1 h2 h3] at hl ⊢
        have hl : ((allR b most x.toNat).2.length : Int) ≤ more := hl
        have q : allR b more x.toNat = allR b most x.toNat := by
          unfold allR at hl h3 ⊢; rw [tlR_eq] at hl h3 ⊢; rw [tlR_eq]
          exact (tl_lim b most more _ _ _ _).1 (by omega) hl
        rw [inf_4 h1 (by omega) (by rw [q]; exact h3), q]
structure LimK (most more : Int) (r1 r2 : List UInt8 × Nat × Nat) : Prop where
  a : r1.2.2 ≠ 0 → r1.1.length = 0 ∧ r1.2.1 = 0
  b : r1.2.2 = 140 → more ≤ most → 0 ≤ more → r2.2.2 = 140
  c : r1.2.2 = 0 → (r1.1.length : Int) ≤ most
  d : r1.2.2 = 0 → (r1.1.length : Int) ≤ more → r2.2.2 = 0 ∧ r1.1 = r2.1 ∧ r1.2.1 = r2.2.1
theorem limK (b : List UInt8) (x most more : Int) (hm : more ≤ 3000) : LimK most more (infR b x most) (infR b x more) :=
  ⟨fun h => inf_x h, fun h h1 h2 => inf_140 h h1 h2, fun h => inf_len h, fun h h1 => by
    have q := inf_same h h1 (show more ≤ 131072 by omega)
    rw [q]; exact ⟨h, rfl, rfl⟩⟩
set_option maxRecDepth 100000 in
set_option maxHeartbeats 4000000 in
theorem lim_0 (b : List UInt8) (n : Nat) (hn : n = b.length) (x most more : Int) (h : 400 < n ∨ 3000 < most ∨ 3000 < more) : SpecH false Try.prog 4 [.sl false n 1 (b.map dB), iD x, iD most, iD more] [] (.v (.bool true)) [] := by
  refine SpecH.run T_ok mixed Try.func4 rfl rfl rfl trivial rfl 1000 64 (fun R ok => (.s 2 (.call 17 false [] (true) (by with_reducible rfl) ([]) _ (simL.refl _) (true) (by with_reducible rfl) _ _ _ (CallOk.fn (FnOk.of Try.func17 rfl rfl) (@Go.Proofs.Ytegjeagfcfhbeaa.Vp.alive)) (.s 12 (.br (decide (400 < (↑n : Int)))
  (fun p0 => have p0f := of_decide_eq_true p0; (.s 18 (.out [] [] (D.v (Value.bool true)) [] R (ok _ _ (by with_reducible rfl) (by with_reducible rfl)))))
  (fun p0 => have p0f := of_decide_eq_false p0; (.s 6 (.br (decide (3000 < most))
    (fun p1 => have p1f := of_decide_eq_true p1; (.s 12 (.out [] [] (D.v (Value.bool true)) [] R (ok _ _ (by with_reducible rfl) (by with_reducible rfl)))))
    (fun p1 => have p1f := of_decide_eq_false p1; (.s 6 (.t (decide (3000 < more)) (by (refine decide_eq_true ?_; (omega))) (.s 6 (.out [] [] (D.v (Value.bool true)) [] R (ok _ _ (by with_reducible rfl) (by with_reducible rfl))))))))))))))) (by kernel_rfl)
set_option maxRecDepth 100000 in
set_option maxHeartbeats 4000000 in
theorem lim_1 (b : List UInt8) (n : Nat) (hn : n = b.length) (x most more : Int) (hN : n ≤ 400) (hm : most ≤ 3000) (hm2 : more ≤ 3000) (r1 r2 : List UInt8 × Nat × Nat) (hr1 : infR b x most = r1) (hr2 : infR b x more = r2) (hK : LimK most more r1 r2) : SpecH false Try.prog 4 [.sl false n 1 (b.map dB), iD x, iD most, iD more] [] (.v (.bool true)) [] := by
  refine SpecH.run T_ok mixed Try.func4 rfl rfl rfl trivial rfl 1000 64 (fun R ok => (.s 2 (.call 17 false [] (true) (by with_reducible rfl) ([]) _ (simL.refl _) (true) (by with_reducible rfl) _ _ _ (CallOk.fn (FnOk.of Try.func17 rfl rfl) (@Go.Proofs.Ytegjeagfcfhbeaa.Vp.alive)) (.s 12 (.f (decide (400 < (↑n : Int))) (by (refine decide_eq_false ?_; (omega))) (.s 6 (.f (decide (3000 < most)) (by (refine decide_eq_false ?_; (omega))) (.s 6 (.f (decide (3000 < more)) (by (refine decide_eq_false ?_; (omega))) (.s 8 (.call 18 false [] (true) (by with_reducible rfl) ([D.sl false n 1 (List.map dB b), D.v (Value.int IntKind.i64 x), D.v (Value.int IntKind.i64 most)]) _ (simL.refl _) (true) (by with_reducible rfl) _ _ _ (CallOk.fn (FnOk.of Try.func18 rfl rfl) (@Go.Proofs.Ytegjeagfcfhbeaa.Vp.Inf_t (b) (n) (by omega) (by omega) (x) (most) (r1) (by assumption))) (.s 14 (.call 18 false [] (true) (by with_reducible rfl) ([D.sl false n 1 (List.map dB b), D.v (Value.int IntKind.i64 x), D.v (Value.int IntKind.i64 more)]) _ (simL.refl _) (true) (by with_reducible rfl) _ _ _ (CallOk.fn (FnOk.of Try.func18 rfl rfl) (@Go.Proofs.Ytegjeagfcfhbeaa.Vp.Inf_t (b) (n) (by omega) (by omega) (x) (more) (r2) (by assumption))) (.s 13 (.br ((↑(Prod.snd (Prod.snd r1)) : Int) != 0)
  (fun p0 => have p0f := of_bne_t p0; (.s 12 (.br ((↑(List.length (Prod.fst r1)) : Int) == 0)
    (fun p1 => have p1f := eq_of_beq p1; (.s 6 (.br ((↑(Prod.fst (Prod.snd r1)) : Int) == 0)
      (fun p2 => have p2f := eq_of_beq p2; (.s 6 (.br ((↑(Prod.snd (Prod.snd r1)) : Int) != 140)
        (fun p3 => have p3f := of_bne_t p3; (.s 24 (.out [] [] (D.v (Value.bool true)) [] R (ok _ _ (by with_reducible rfl) (by with_reducible rfl)))))
        (fun p3 => have p3f := of_bne_f p3; (.s 10 (.br (decide (most < more))
          (fun p4 => have p4f := of_decide_eq_true p4; (.s 14 (.out [] [] (D.v (Value.bool true)) [] R (ok _ _ (by with_reducible rfl) (by with_reducible rfl)))))
          (fun p4 => have p4f := of_decide_eq_false p4; (.s 8 (.br (decide (more < 0))
            (fun p5 => have p5f := of_decide_eq_true p5; (.s 6 (.out [] [] (D.v (Value.bool true)) [] R (ok _ _ (by with_reducible rfl) (by with_reducible rfl)))))
            (fun p5 => have p5f := of_decide_eq_false p5; (.s 7 (.out [] [] (D.v (Value.bool ((↑(Prod.snd (Prod.snd r2)) : Int) == 140))) [] R (ok _ _ (by ( have q := hK.b (by omega) (by omega) (by omega); rw [q]; rfl)) (by with_reducible rfl))))))))))))))
      (fun p2 => have p2f := of_beq_f p2; (.abs (by ( have q := hK.a (by omega); omega)))))))
    (fun p1 => have p1f := of_beq_f p1; (.abs (by ( have q := hK.a (by omega); omega)))))))
  (fun p0 => have p0f := of_bne_f p0; (.s 14 (.br (decide ((↑(List.length (Prod.fst r1)) : Int) ≤ most))
    (fun p6 => have p6f := of_decide_eq_true p6; (.s 10 (.br (decide (more < (↑(List.length (Prod.fst r1)) : Int)))
      (fun p7 => have p7f := of_decide_eq_true p7; (.s 22 (.out [] [] (D.v (Value.bool true)) [] R (ok _ _ (by with_reducible rfl) (by with_reducible rfl)))))
      (fun p7 => have p7f := of_decide_eq_false p7; (.s 6 (.t ((↑(Prod.snd (Prod.snd r2)) : Int) == 0) (by ( have q := hK.d (by omega) (by omega); simp_all)) (.s 2 (.chk (true && Nat.ble (0 + List.length (Prod.fst r1) * 1) (List.length (List.map dB (Prod.fst r1))) && true && true) (by ( have q := hK.d (by omega) (by omega); simp_all)) (.byt (bif true && Nat.beq (List.length (Prod.fst r1) * 1) (List.length (List.map dB (Prod.fst r1))) then List.map dB (Prod.fst r1) else List.take (List.length (Prod.fst r1) * 1) (List.drop 0 (List.map dB (Prod.fst r1)))) (Prod.fst r1) (cond_t (by ( have q := hK.d (by omega) (by omega); simp_all)) |>.trans rfl) (.s 4 (.chk (true && Nat.ble (0 + List.length (Prod.fst r2) * 1) (List.length (List.map dB (Prod.fst r2))) && true && true) (by ( have q := hK.d (by omega) (by omega); simp_all)) (.byt (bif true && Nat.beq (List.length (Prod.fst r2) * 1) (List.length (List.map dB (Prod.fst r2))) then List.map dB (Prod.fst r2) else List.take (List.length (Prod.fst r2) * 1) (List.drop 0 (List.map dB (Prod.fst r2)))) (Prod.fst r2) (cond_t (by ( have q := hK.d (by omega) (by omega); simp_all)) |>.trans rfl) (.s 7 (.t (ByteArray.toList (ByteArray.mk (List.toArray (Prod.fst r1))) == ByteArray.toList (ByteArray.mk (List.toArray (Prod.fst r2)))) (by ( have q := hK.d (by omega) (by omega); simp_all)) (.s 11 (.out [] [] (D.v (Value.bool ((↑(Prod.fst (Prod.snd r1)) : Int) == (↑(Prod.fst (Prod.snd r2)) : Int)))) [] R (ok _ _ (by ( have q := hK.d (by omega) (by omega); simp_all)) (by with_reducible rfl))))))))))))))))))
    (fun p6 => have p6f := of_decide_eq_false p6; (.abs (by ( have q := hK.c (by omega); omega)))))))))))))))))))))) (by kernel_rfl)
theorem lim_ (b : List UInt8) (n : Nat) (hn : n = b.length) (x most more : Int) : SpecH false Try.prog 4 [.sl false n 1 (b.map dB), iD x, iD most, iD more] [] (.v (.bool true)) [] := by
  by_cases h : 400 < n ∨ 3000 < most ∨ 3000 < more
  · exact lim_0 b n hn x most more h
  · exact lim_1 b n hn x most more (by omega) (by omega) (by omega) _ _ rfl rfl (limK b x most more (by omega))
end Vp
end Go.Proofs.Ytegjeagfcfhbeaa

/- Vp5: made by vx.py. -/
import Derived.Test.YtegjeagfcfhbeaaQVp2
namespace Go.Proofs.Ytegjeagfcfhbeaa
open Go.RowKit Go.Bw Go.Vx
namespace Vp
set_option linter.unusedVariables false
set_option linter.unusedSimpArgs false
/-! ### reading -/
structure Rs where
  p : Nat
  e : Nat
def fl (s : Rs) (c : Bool) (x : Nat) : Rs := if s.e = 0 ∧ c = false then ⟨s.p, x⟩ else s
def tkS (b : List UInt8) (m : Nat) (s : Rs) : Rs := lk b (if s.e = 0 then ⟨s.p + m, tkE b s.p m⟩ else s)
def tkN (b : List UInt8) (m : Nat) (s : Rs) : Nat := lk b (if s.e = 0 then tkV b s.p m else 0)
def syS (b l : List UInt8) (s : Rs) : Rs := lk b (if s.e = 0 then ⟨(nxR b l s.p).2.1, (nxR b l s.p).2.2⟩ else s)
def syN (b l : List UInt8) (s : Rs) : Nat := lk b (if s.e = 0 then (nxR b l s.p).1 else 0)
theorem fl_x {s : Rs} {c : Bool} {x : Nat} (h : s.e ≠ 0) : fl s c x = s := if_neg fun q => h q.1
theorem fl_t {s : Rs} {x : Nat} : fl s true x = s := if_neg fun q => by cases q.2
theorem fl_f {s : Rs} {x : Nat} (h : s.e = 0) : fl s false x = ⟨s.p, x⟩ := if_pos ⟨h, rfl⟩
theorem fl_p (s : Rs) (c : Bool) (x : Nat) : (fl s c x).p = s.p := by unfold fl; split <;> rfl
theorem fl_0 {s : Rs} {c : Bool} {x : Nat} (hx : x ≠ 0) (h : (fl s c x).e = 0) : s.e = 0 ∧ c = true ∧ fl s c x = s := by
  unfold fl at *
  split at h
  · exact absurd h hx
  · next q =>
    refine ⟨h, ?_, if_neg q⟩
    cases c
    · exact absurd ⟨h, rfl⟩ q
    · rfl
theorem tkS_x {b : List UInt8} {m : Nat} {s : Rs} (h : s.e ≠ 0) : tkS b m s = s := (lk_eq _ _).trans (if_neg h)
theorem tkS_0 {b : List UInt8} {m : Nat} {s : Rs} (h : s.e = 0) : tkS b m s = ⟨s.p + m, tkE b s.p m⟩ := (lk_eq _ _).trans (if_pos h)
theorem tkN_x {b : List UInt8} {m : Nat} {s : Rs} (h : s.e ≠ 0) : tkN b m s = 0 := (lk_eq _ _).trans (if_neg h)
theorem tkN_0 {b : List UInt8} {m : Nat} {s : Rs} (h : s.e = 0) : tkN b m s = tkV b s.p m := (lk_eq _ _).trans (if_pos h)
theorem syS_x {b l : List UInt8} {s : Rs} (h : s.e ≠ 0) : syS b l s = s := (lk_eq _ _).trans (if_neg h)
theorem syS_0 {b l : List UInt8} {s : Rs} (h : s.e = 0) : syS b l s = ⟨(nxR b l s.p).2.1, (nxR b l s.p).2.2⟩ := (lk_eq _ _).trans (if_pos h)
theorem syN_x {b l : List UInt8} {s : Rs} (h : s.e ≠ 0) : syN b l s = 0 := (lk_eq _ _).trans (if_neg h)
theorem syN_0 {b l : List UInt8} {s : Rs} (h : s.e = 0) : syN b l s = (nxR b l s.p).1 := (lk_eq _ _).trans (if_pos h)
theorem tkN_lt (b : List UInt8) (m : Nat) (s : Rs) : tkN b m s < 2 ^ m := by
  by_cases h : s.e = 0
  · rw [tkN_0 h]; exact tkV_lt _ _ _
  · rw [tkN_x h]; exact Nat.two_pow_pos m
/-- A place that is within the bytes, unless there is an error. -/
def Rok (n : Nat) (s : Rs) : Prop := s.e = 0 → s.p ≤ 8 * n
theorem Rok.fl {n : Nat} {s : Rs} (h : Rok n s) (c : Bool) (x : Nat) : Rok n (fl s c x) := fun q => by
  rw [fl_p]; refine h ?_
  unfold Vp.fl at q; split at q
  · next y => exact y.1
  · exact q
theorem tkE_le {b : List UInt8} {p m : Nat} (h : tkE b p m = 0) : p + m ≤ 8 * b.length := by
  rcases Nat.lt_or_ge (8 * b.length) (p + m) with q | q
  · rw [tkE_0 q] at h; cases h
  · exact q
theorem Rok.tk {b : List UInt8} {s : Rs} (h : Rok b.length s) (m : Nat) : Rok b.length (tkS b m s) := fun q => by
  by_cases h0 : s.e = 0
  · rw [tkS_0 h0] at q ⊢; exact tkE_le q
  · rw [tkS_x h0] at q; exact absurd q h0
theorem nxF_ok {b l : List UInt8} : ∀ (k a d p : Nat), (nxF b l k a d p).2.2 = 0 → p < (nxF b l k a d p).2.1 ∧ (nxF b l k a d p).2.1 ≤ 8 * b.length
  | 0, _, _, _, h => by cases h
  | k + 1, a, d, p, h => by
    rw [nxF] at h ⊢
    split
    · next q => rw [if_pos q] at h; cases h
    · next q =>
      rw [if_neg q] at h
      split
      · next q2 => rw [if_pos q2] at h; cases h
      · next q2 =>
        rw [if_neg q2] at h
        have hp := tkE_le (b := b) (p := p) (m := 1) (by omega)
        split
        · exact ⟨by show p < p + 1; omega, by show p + 1 ≤ _; omega⟩
        · next q3 =>
          rw [if_neg q3] at h
          have := nxF_ok k _ _ _ h
          omega
theorem nxR_ok {b l : List UInt8} {p : Nat} (h : (nxR b l p).2.2 = 0) : p < (nxR b l p).2.1 ∧ (nxR b l p).2.1 ≤ 8 * b.length := by
  rw [nxR_eq] at *; exact nxF_ok _ _ _ _ h
theorem Rok.sy {b : List UInt8} {s : Rs} (h : Rok b.length s) (l : List UInt8) : Rok b.length (syS b l s) := fun q => by
  by_cases h0 : s.e = 0
  · rw [syS_0 h0] at q ⊢; exact (nxR_ok q).2
  · rw [syS_x h0] at q; exact absurd q h0
theorem nxF_lt {b l : List UInt8} : ∀ (k a d p : Nat), (nxF b l k a d p).1 < l.length ∨ (nxF b l k a d p).1 = 0
  | 0, _, _, _ => .inr rfl
  | k + 1, a, d, p => by
    rw [nxF]
    split
    · exact .inr rfl
    · split
      · exact .inr rfl
      · split
        · show List.getD _ _ _ < _ ∨ List.getD _ _ _ = 0
          rw [List.getD_eq_getElem?_getD]
          cases h : (symsL l)[(symsT l a).length + cnt l a + (2 * (d - cnt l a) + tkV b p 1)]? with
          | none => exact .inr rfl
          | some x => exact .inl (symsL_lt x (List.mem_of_getElem? h))
        · exact nxF_lt k _ _ _
theorem syN_lt (b l : List UInt8) (s : Rs) : syN b l s < l.length ∨ syN b l s = 0 := by
  by_cases h : s.e = 0
  · rw [syN_0 h, nxR_eq]; exact nxF_lt _ _ _ _
  · rw [syN_x h]; exact .inr rfl
theorem tk_w {b : List UInt8} {p m : Nat} (h : m ≤ 32) : D.v (.int .i64 (IntKind.i64.wrap ((tkV b p m : Nat) : Int))) = nD (tkV b p m) := by
  have h1 := tkV_lt b p m
  have h2 : 2 ^ m ≤ 2 ^ 32 := Nat.pow_le_pow_right (by decide) h
  rw [w64 (by omega)]
theorem fl_z {s : Rs} {e : Nat} (h : s.e = 0) : (fl s (((e : Nat) : Int) == 0) e).e = e ∧ (fl s (((e : Nat) : Int) == 0) e).p = s.p := by
  refine ⟨?_, fl_p _ _ _⟩
  by_cases h0 : e = 0
  · subst h0; show (fl s true 0).e = 0; rw [fl_t]; exact h
  · rw [show ((((e : Nat) : Int) == 0)) = false from by simp; omega, fl_f h]
theorem tk_b {b : List UInt8} {n : Nat} {s : Rs} {k : Nat} {t : TypeId} (hN : n ≤ 1000000) (ho : s.e = 0 → s.p ≤ 8 * n) (h : s.e = 0) (hk : k ≤ 32) : [(⟨[D.sl false n 1 (b.map dB), D.v (.int .i64 (IntKind.i64.wrap (((fl s (((tkE b s.p k : Nat) : Int) == 0) (tkE b s.p k)).p : Nat) + (k : Int)))), D.v (.int .i64 (((fl s (((tkE b s.p k : Nat) : Int) == 0) (tkE b s.p k)).e : Nat) : Int))], t, false⟩ : Blk)] = [⟨[D.sl false n 1 (b.map dB), nD (Rs.mk (s.p + k) (tkE b s.p k)).p, nD (Rs.mk (s.p + k) (tkE b s.p k)).e], t, false⟩] := by
  have := ho h
  rw [(fl_z h).1, (fl_z h).2, w64 (by omega)]; rfl
set_option maxRecDepth 100000 in
set_option maxHeartbeats 4000000 in
theorem fail_t (b : List UInt8) (n : Nat) (hn : n = b.length) (hN : n ≤ 1000000) (s : Rs) (c : Bool) (x : Int) (hx : 0 ≤ x) : SpecH true Try.prog 47 [.ptr 0 0 0, bD c, iD x] [⟨[.sl false n 1 (b.map dB), nD (s).p, nD (s).e], 70, false⟩] (.tup []) [⟨[.sl false n 1 (b.map dB), nD (fl s c x.toNat).p, nD (fl s c x.toNat).e], 70, false⟩] := by
  obtain ⟨k, rfl⟩ := Int.eq_ofNat_of_zero_le hx
  simp only [Int.toNat_natCast]
  refine SpecH.run T_ok mixed Try.func47 rfl rfl rfl ⟨rfl, trivial⟩ rfl 1000 64 (fun R ok => (.s 12 (.br ((↑(Rs.e s) : Int) == 0)
  (fun p0 => have p0f := eq_of_beq p0; (.s 3 (.br (!c)
    (fun p1 => have p1f := (not_t p1); (.s 9 (.out [0] [0] (D.tup []) [Blk.mk [D.sl false n 1 (List.map dB b), D.v (Value.int IntKind.i64 (↑(Rs.p s) : Int)), D.v (Value.int IntKind.i64 (↑k : Int))] 70 false] R (ok _ _ (by with_reducible rfl) (by ( unfold fl; simp_all <;> omega))))))
    (fun p1 => have p1f := (not_f p1); (.out [0] [0] (D.tup []) [Blk.mk [D.sl false n 1 (List.map dB b), D.v (Value.int IntKind.i64 (↑(Rs.p s) : Int)), D.v (Value.int IntKind.i64 (↑(Rs.e s) : Int))] 70 false] R (ok _ _ (by with_reducible rfl) (by ( unfold fl; simp_all <;> omega))))))))
  (fun p0 => have p0f := of_beq_f p0; (.s 4 (.out [0] [0] (D.tup []) [Blk.mk [D.sl false n 1 (List.map dB b), D.v (Value.int IntKind.i64 (↑(Rs.p s) : Int)), D.v (Value.int IntKind.i64 (↑(Rs.e s) : Int))] 70 false] R (ok _ _ (by with_reducible rfl) (by ( cases c <;> first | rw [fl_t] | rw [fl_x (by omega)] | rw [fl_f (by omega)]))))))))) (by kernel_rfl)
set_option maxRecDepth 100000 in
set_option maxHeartbeats 4000000 in
theorem take_t (b : List UInt8) (n : Nat) (hn : n = b.length) (hN : n ≤ 1000000) (s : Rs) (hs : Rok n s) (m : Int) (hm : 0 ≤ m ∧ m ≤ 32) : SpecH true Try.prog 46 [.ptr 0 0 0, iD m] [⟨[.sl false n 1 (b.map dB), nD (s).p, nD (s).e], 70, false⟩] (nD (tkN b m.toNat s)) [⟨[.sl false n 1 (b.map dB), nD (tkS b m.toNat s).p, nD (tkS b m.toNat s).e], 70, false⟩] := by
  obtain ⟨k, rfl⟩ := Int.eq_ofNat_of_zero_le hm.1
  simp only [Int.toNat_natCast]
  have ho : s.e = 0 → s.p ≤ 8 * n := hs
  refine SpecH.run T_ok mixed Try.func46 rfl rfl rfl ⟨rfl, trivial⟩ rfl 1000 64 (fun R ok => (.s 11 (.br ((↑(Rs.e s) : Int) != 0)
  (fun p0 => have p0f := of_bne_t p0; (.s 1 (.out [0] [0] (D.v (Value.int IntKind.i64 0)) [Blk.mk [D.sl false n 1 (List.map dB b), D.v (Value.int IntKind.i64 (↑(Rs.p s) : Int)), D.v (Value.int IntKind.i64 (↑(Rs.e s) : Int))] 70 false] R (ok _ _ (by ( rw [tkN_x (by omega)]; rfl)) (by ( rw [tkS_x (by omega)]))))))
  (fun p0 => have p0f := of_bne_f p0; (.s 19 (.call 78 false [] (true) (by with_reducible rfl) ([D.sl false n 1 (List.map dB b), D.v (Value.int IntKind.i64 (↑(Rs.p s) : Int)), D.v (Value.int IntKind.i64 (↑k : Int))]) _ (simL.refl _) (true) (by with_reducible rfl) _ _ _ (CallOk.fn (FnOk.of Try.func78 rfl rfl) (@Go.Proofs.Ytegjeagfcfhbeaa.Vp.Take_i (b) (n) (by omega) (by omega) ((↑(Rs.p s) : Int)) ((↑k : Int)) (by omega) (by omega))) (.s 13 (.call 47 true [0] (true) (by with_reducible rfl) ([D.ptr 0 0 0, D.v (Value.bool ((↑(tkE b (Rs.p s) k) : Int) == 0)), D.v (Value.int IntKind.i64 (↑(tkE b (Rs.p s) k) : Int))]) _ (simL.refl _) (true) (by with_reducible rfl) _ _ _ (CallOk.fn (FnOk.of Try.func47 rfl rfl) (@Go.Proofs.Ytegjeagfcfhbeaa.Vp.fail_t (b) (n) (by omega) (by omega) (s) ((↑(tkE b (Rs.p s) k) : Int) == 0) ((↑(tkE b (Rs.p s) k) : Int)) (by omega))) (.s 11 (.opt (wrapO IntKind.i64 ((↑(Rs.p (fl s ((↑(tkE b (Rs.p s) k) : Int) == 0) (tkE b (Rs.p s) k))) : Int) + (↑k : Int))) (D.v (Value.int IntKind.i64 (IntKind.wrap IntKind.i64 ((↑(Rs.p (fl s ((↑(tkE b (Rs.p s) k) : Int) == 0) (tkE b (Rs.p s) k))) : Int) + (↑k : Int))))) (wrapO_eq _ _) (.s 9 (.opt (wrapO IntKind.i64 (↑(tkV b (Rs.p s) k) : Int)) (D.v (Value.int IntKind.i64 (IntKind.wrap IntKind.i64 (↑(tkV b (Rs.p s) k) : Int)))) (wrapO_eq _ _) (.s 1 (.out [0] [0] (D.v (Value.int IntKind.i64 (IntKind.wrap IntKind.i64 (↑(tkV b (Rs.p s) k) : Int)))) [Blk.mk [D.sl false n 1 (List.map dB b), D.v (Value.int IntKind.i64 (IntKind.wrap IntKind.i64 ((↑(Rs.p (fl s ((↑(tkE b (Rs.p s) k) : Int) == 0) (tkE b (Rs.p s) k))) : Int) + (↑k : Int)))), D.v (Value.int IntKind.i64 (↑(Rs.e (fl s ((↑(tkE b (Rs.p s) k) : Int) == 0) (tkE b (Rs.p s) k))) : Int))] 70 false] R (ok _ _ (by ( rw [tkN_0 (by omega)]; exact tk_w (by omega))) (by ( rw [tkS_0 (by omega)]; exact tk_b hN ho (by omega) (by omega)))))))))))))))))) (by kernel_rfl)
/-! ### nil, as a slice of one's own, in an answer -/
def simN (j : Nat) (d d' : D) : Prop := ∀ (E : Env) (w : World) (u : Value), E.nm j → E.φ j = none → RD E w d u → RD E w d' u
def simNL (j : Nat) : List D → List D → Prop
  | [], [] => True
  | a :: r, b :: q => simN j a b ∧ simNL j r q
  | _, _ => False
theorem simN.refl (j : Nat) (d : D) : simN j d d := fun _ _ _ _ _ h => h
theorem simN.nil (j sz : Nat) : simN j nilD (.ref j j 0 0 sz) := fun E w u h1 h2 h => by cases h; exact .refn j j sz h1 h2
theorem simNL.refl (j : Nat) : ∀ l : List D, simNL j l l
  | [] => trivial
  | d :: r => ⟨simN.refl j d, simNL.refl j r⟩
theorem simNL.app {j : Nat} {c d : List D} : ∀ {a b : List D}, simNL j a b → simNL j c d → simNL j (a ++ c) (b ++ d)
  | [], [], _, h => h
  | _ :: _, _ :: _, h1, h2 => ⟨h1.1, simNL.app h1.2 h2⟩
  | [], _ :: _, h1, _ => h1.elim
  | _ :: _, [], h1, _ => h1.elim
theorem simNL.get {j : Nat} : ∀ {l l' : List D}, simNL j l l' → l.length = l'.length ∧ ∀ (i : Nat) d', l'[i]? = some d' → ∃ d, l[i]? = some d ∧ simN j d d'
  | [], [], _ => ⟨rfl, fun i d' h => by simp at h⟩
  | a :: r, b :: q, h => by
    obtain ⟨h1, h2⟩ := simNL.get h.2
    refine ⟨by simp [h1], fun i d' hi => ?_⟩
    cases i with
    | zero => cases hi; exact ⟨a, rfl, h.1⟩
    | succ i => exact h2 i d' (by simpa using hi)
  | [], _ :: _, h => h.elim
  | _ :: _, [], h => h.elim
theorem simN.agg {j : Nat} {l l' : List D} (h : simNL j l l') : simN j (.agg l) (.agg l') := fun E w u a b hr => by
  obtain ⟨e, g⟩ := h.get
  cases hr with
  | agg _ us hl hd h1 => exact .agg _ us (by rw [hl, e]) (fun i d' v hd' hv => by
      obtain ⟨d, q1, q2⟩ := g i d' hd'
      exact q2 E w v a b (hd i d v q1 hv)) h1
theorem simN.tup {j : Nat} {l l' : List D} (h : simNL j l l') : simN j (.tup l) (.tup l') := fun E w u a b hr => by
  obtain ⟨e, g⟩ := h.get
  cases hr with
  | tup _ us hl hd => exact .tup _ us (by rw [hl, e]) (fun i d' v hd' hv => by
      obtain ⟨d, q1, q2⟩ := g i d' hd'
      exact q2 E w v a b (hd i d v q1 hv))
theorem SpecH.nilA {al : Bool} {P : Program} {f : FuncId} {ds : List D} {hin : List Blk} {r r' : D} {bs : List Blk} (h : SpecH al P f ds hin r bs) (t : TypeId) (hr : simN bs.length r r') : SpecH al P f ds hin r' (bs ++ [⟨[], t, true⟩]) := by
  refine ⟨by rw [List.length_append]; exact Nat.le_trans h.1 (Nat.le_add_right _ _), fun O φ w args hO hh hi hl ha => (h.2 O φ w args hO hh hi hl ha).mono ?_⟩
  rintro e w' ⟨u, rfl, hf, ψ, g1, g2, g3, g4, g5⟩
  refine ⟨u, rfl, hf, fun k => if k = bs.length then none else ψ k, fun k hk => ?_, ?_, fun k b hb => ?_, fun i k x h1 h2 hne e1 => ?_, fun k x h1 h2 e1 => ?_⟩
  · have := h.1
    show (if k = bs.length then none else ψ k) = _
    rw [if_neg (by omega)]; exact g1 k hk
  all_goals try (rw [List.length_append, List.length_singleton] at *)
  · have hst : Stp (envR (outO al O w) ψ bs.length) (envR (outO al O w) (fun k => if k = bs.length then none else ψ k) (bs.length + 1)) w' w' := by
      refine ⟨fun g hg => Nat.lt_succ_of_lt hg, fun g hg => ?_, Nat.le_refl _, fun b _ hb => ⟨fun hq => hb ?_, rfl⟩, fun _ _ => rfl⟩
      · have hg : g < bs.length := hg
        show (if g = bs.length then none else ψ g) = ψ g
        rw [if_neg (by omega)]
      · rcases hq with hq | ⟨k, hk, hq⟩
        · exact .inl hq
        · have hq : (if k = bs.length then none else ψ k) = some b := hq
          split at hq
          · cases hq
          · next z => exact .inr ⟨k, by omega, hq⟩
    exact hr _ _ _ (Nat.lt_succ_self _) (if_pos rfl) (g2.step hst)
  · have hst : Stp (envR (outO al O w) ψ bs.length) (envR (outO al O w) (fun k => if k = bs.length then none else ψ k) (bs.length + 1)) w' w' := by
      refine ⟨fun g hg => Nat.lt_succ_of_lt hg, fun g hg => ?_, Nat.le_refl _, fun b _ hb => ⟨fun hq => hb ?_, rfl⟩, fun _ _ => rfl⟩
      · have hg : g < bs.length := hg
        show (if g = bs.length then none else ψ g) = ψ g
        rw [if_neg (by omega)]
      · rcases hq with hq | ⟨k, hk, hq⟩
        · exact .inl hq
        · have hq : (if k = bs.length then none else ψ k) = some b := hq
          split at hq
          · cases hq
          · next z => exact .inr ⟨k, by omega, hq⟩
    rcases Nat.lt_trichotomy k bs.length with q | q | q
    · rw [List.getElem?_append_left q] at hb
      obtain ⟨y1, y2⟩ := g3 k b hb
      refine ⟨?_, y2⟩
      exact OB.step (o := .b b) y1 hst fun x hx => ⟨.inr ⟨k, by omega, by show (if k = bs.length then none else ψ k) = some x; rw [if_neg (by omega)]; exact hx⟩, rfl⟩
    · rw [q, List.getElem?_append_right (Nat.le_refl _), Nat.sub_self] at hb
      cases hb
      refine ⟨⟨by show k < bs.length + 1; omega, ?_⟩, fun _ => rfl⟩
      show (match (if k = bs.length then none else ψ k) with | none => _ | some b => _)
      rw [if_pos q]
      exact ⟨rfl, rfl⟩
    · rw [List.getElem?_eq_none (by rw [List.length_append, List.length_singleton]; omega)] at hb; cases hb
  · have e1 : (if i = bs.length then none else ψ i) = some x := e1
    show (if k = bs.length then none else ψ k) ≠ some x
    split at e1
    · cases e1
    · next z =>
      split
      · exact fun q => by cases q
      · next z2 => exact g4 i k x (by omega) (by omega) hne e1
  · have e1 : (if k = bs.length then none else ψ k) = some x := e1
    split at e1
    · cases e1
    · next z => exact g5 k x h1 (by omega) e1
end Vp
end Go.Proofs.Ytegjeagfcfhbeaa

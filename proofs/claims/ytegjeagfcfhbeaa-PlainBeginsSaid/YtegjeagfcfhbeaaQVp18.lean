/- Vp18: made by vx.py. -/
import Derived.Test.YtegjeagfcfhbeaaQVp15
namespace Go.Proofs.Ytegjeagfcfhbeaa
open Go.RowKit Go.Bw Go.Vx
namespace Vp
set_option linter.unusedVariables false
set_option linter.unusedSimpArgs false
/-! ### beginnings: what is read of a beginning is read of the whole, up to its end -/
structure Pre (c b : List UInt8) : Prop where
  l : c.length ≤ b.length
  g : ∀ i, i < c.length → c.getD i default = b.getD i default
theorem Pre.take (b : List UInt8) (n : Nat) : Pre (b.take n) b := by
  refine ⟨by rw [List.length_take]; omega, fun i h => ?_⟩
  rw [List.length_take] at h
  rw [List.getD_eq_getElem?_getD, List.getD_eq_getElem?_getD, List.getElem?_take_of_lt (by omega)]
section
variable {c b : List UInt8} (P : Pre c b)
include P
theorem Pre.num (p : Nat) : ∀ m, p + m ≤ 8 * c.length → numB c p m = numB b p m
  | 0, _ => rfl
  | m + 1, h => by
    rw [numB, numB, Pre.num p m (by omega)]
    unfold bitB
    rw [P.g ((p + m) / 8) (by omega)]
theorem Pre.tk (p m : Nat) : tkE c p m = 10 ∨ (tkE c p m = tkE b p m ∧ tkV c p m = tkV b p m) := by
  by_cases h : 8 * c.length < p + m
  · exact .inl (tkE_0 h)
  · have := P.l
    right
    rw [tkE_1 h, tkE_1 (by omega), tkV_1 h, tkV_1 (by omega)]
    exact ⟨rfl, P.num p m (by omega)⟩
theorem Pre.take_ (m : Nat) (s : Rs) : (tkS c m s).e = 10 ∨ (tkS c m s = tkS b m s ∧ tkN c m s = tkN b m s) := by
  by_cases h : s.e = 0
  · rw [tkS_0 h, tkS_0 h, tkN_0 h, tkN_0 h]
    rcases P.tk s.p m with q | ⟨q1, q2⟩
    · exact .inl q
    · exact .inr ⟨by rw [q1], q2⟩
  · rw [tkS_x h, tkS_x h, tkN_x h, tkN_x h]; exact .inr ⟨rfl, rfl⟩
theorem Pre.nxF (l : List UInt8) : ∀ (k a d p : Nat), (nxF c l k a d p).2.2 = 10 ∨ nxF c l k a d p = nxF b l k a d p
  | 0, _, _, _ => .inr rfl
  | k + 1, a, d, p => by
    rw [Vp.nxF, Vp.nxF]
    split
    · exact .inr rfl
    · rcases P.tk p 1 with q | ⟨q1, q2⟩
      · rw [if_pos (by omega)]; exact .inl rfl
      · rw [q1, q2]
        split
        · exact .inl rfl
        · split
          · exact .inr rfl
          · exact Pre.nxF l k _ _ _
theorem Pre.sy (l : List UInt8) (s : Rs) : (syS c l s).e = 10 ∨ (syS c l s = syS b l s ∧ syN c l s = syN b l s) := by
  by_cases h : s.e = 0
  · rw [syS_0 h, syS_0 h, syN_0 h, syN_0 h, nxR_eq, nxR_eq]
    rcases P.nxF l 16 0 0 s.p with q | q
    · exact .inl q
    · rw [q]; exact .inr ⟨rfl, rfl⟩
  · rw [syS_x h, syS_x h, syN_x h, syN_x h]; exact .inr ⟨rfl, rfl⟩
theorem Pre.nb (far : Bool) (y : Nat) (s : Rs) : (nbS c far y s).e = 10 ∨ (nbS c far y s = nbS b far y s ∧ nbN c far y s = nbN b far y s) := by
  by_cases h : s.e = 0
  · have hT : (nbT c far y s).e = 10 ∨ (nbT c far y s = nbT b far y s ∧ nbX c far y s = nbX b far y s) := P.take_ _ _
    rcases hT with q | ⟨q1, q2⟩
    · rw [(nbS_1 h (by omega)).1]; exact .inl q
    · right
      by_cases h1 : (nbT c far y s).e = 0
      · rw [(nbS_2 h h1).1, (nbS_2 h h1).2, (nbS_2 h (by rw [← q1]; exact h1)).1, (nbS_2 h (by rw [← q1]; exact h1)).2, q1, q2]; exact ⟨rfl, rfl⟩
      · rw [(nbS_1 h h1).1, (nbS_1 h h1).2, (nbS_1 h (by rw [← q1]; exact h1)).1, (nbS_1 h (by rw [← q1]; exact h1)).2, q1]; exact ⟨rfl, rfl⟩
  · rw [(nbS_x h).1, (nbS_x h).1, (nbS_x h).2, (nbS_x h).2]; exact .inr ⟨rfl, rfl⟩
theorem Pre.st (kd le : Nat) (l1 l2 : List UInt8) (s : Rs) : (stR c kd le l1 l2 s).1.e = 10 ∨ stR c kd le l1 l2 s = stR b kd le l1 l2 s := by
  by_cases h0 : kd = 0
  · by_cases h1 : 0 < le
    · rw [st_a h0 h1, st_a h0 h1]
      rcases P.take_ 8 s with q | ⟨q1, q2⟩
      · exact .inl q
      · rw [q1, q2]; exact .inr rfl
    · rw [st_b h0 h1, st_b h0 h1]; exact .inr rfl
  · rcases P.sy l1 s with q | ⟨q1, q2⟩
    · rw [st_c h0 (by omega)]; exact .inl q
    · by_cases h1 : (syS c l1 s).e = 0
      · have h2 : (syS b l1 s).e = 0 := by rw [← q1]; exact h1
        rcases Nat.lt_trichotomy (syN c l1 s) 256 with h3 | h3 | h3
        · rw [st_d h0 h1 h3, st_d h0 h2 (by rw [← q2]; exact h3), q1, q2]; exact .inr rfl
        · rw [st_e h0 h1 h3, st_e h0 h2 (by rw [← q2]; exact h3), q1]; exact .inr rfl
        · rw [st_f h0 h1 h3, st_f h0 h2 (by rw [← q2]; exact h3)]
          have e1 : (st2 c l1 s).e = 10 ∨ (st2 c l1 s = st2 b l1 s ∧ nbN c false (syN c l1 s) (syS c l1 s) = nbN b false (syN b l1 s) (syS b l1 s)) := by
            show (nbS c false (syN c l1 s) (syS c l1 s)).e = 10 ∨ (nbS c false (syN c l1 s) (syS c l1 s) = nbS b false (syN b l1 s) (syS b l1 s) ∧ _)
            rw [← q1, ← q2]; exact P.nb _ _ _
          rcases e1 with e1 | ⟨e1, e2⟩
          · left
            show (nbS c true _ (syS c l2 (st2 c l1 s))).e = 10
            rw [syS_x (by omega), (nbS_x (by omega)).1]; exact e1
          · rcases P.sy l2 (st2 c l1 s) with e3 | ⟨e3, e4⟩
            · left
              show (nbS c true _ (syS c l2 (st2 c l1 s))).e = 10
              rw [(nbS_x (by omega)).1]; exact e3
            · rcases P.nb true (syN c l2 (st2 c l1 s)) (syS c l2 (st2 c l1 s)) with e5 | ⟨e5, e6⟩
              · exact .inl e5
              · right
                rw [e5, e6, e3, e4, e1, e2]
      · rw [st_c h0 h1, st_c h0 (by rw [← q1]; exact h1), q1]; exact .inr rfl
theorem Pre.rw (s : Rs) : ∀ i, (rwS c s i).e = 10 ∨ (rwS c s i = rwS b s i ∧ rwL c s i = rwL b s i)
  | 0 => .inr ⟨rfl, rfl⟩
  | i + 1 => by
    rw [rwS, rwS, rwL, rwL]
    rcases Pre.rw s i with q | ⟨q1, q2⟩
    · left; rw [tkS_x (by omega)]; exact q
    · rcases P.take_ 3 (rwS c s i) with e | ⟨e1, e2⟩
      · exact .inl e
      · right; rw [e1, e2, q1, q2]; exact ⟨rfl, rfl⟩
theorem Pre.lnC (l : List UInt8) (N : Nat) (s : Rs) (many k : Nat) : (lnC c l N s many k).e = 10 ∨ (lnC c l N s many k = lnC b l N s many k ∧ lnX c l s = lnX b l s) := by
  unfold Vp.lnC lnX
  rcases P.sy l s with q | ⟨q1, q2⟩
  · left; rw [tkS_x (by omega), fl_x (by omega)]; exact q
  · rcases P.take_ (rb (syN c l s)) (syS c l s) with e | ⟨e1, e2⟩
    · left; rw [fl_x (by omega)]; exact e
    · right; rw [e2, e1, q1, q2]; exact ⟨rfl, rfl⟩
theorem Pre.lnF (l : List UInt8) (N : Nat) : ∀ (k : Nat) (s : Rs) (many : Nat) (r : List Rn), (lnF c l N k s many r).1.e = 10 ∨ lnF c l N k s many r = lnF b l N k s many r
  | 0, _, _, _ => .inr rfl
  | k + 1, s, many, r => by
    rw [Vp.lnF, Vp.lnF]
    split
    · exact .inr rfl
    · rcases P.lnC l N s many r.length with q | ⟨q1, q2⟩
      · left; rw [lnF_end (.inr (by omega))]; exact q
      · rw [q1, q2]; exact Pre.lnF l N k _ _ _
theorem Pre.ln (l : List UInt8) (N : Nat) (s : Rs) : (lnS c l N s).e = 10 ∨ (lnS c l N s = lnS b l N s ∧ lnO c l N s = lnO b l N s) := by
  unfold lnS lnO
  rw [lnR_eq, lnR_eq]
  rcases P.lnF l N N s 0 [] with q | q
  · left; rw [fl_x (by omega)]; exact q
  · rw [q]; exact .inr ⟨rfl, rfl⟩
end
/-- The trees behind the lengths of the code for lengths. -/
def dyG (b : List UInt8) (g f : Nat) (s5 : Rs) (W : List UInt8) : Rs × List UInt8 × List UInt8 :=
  let t := okL W 7
  let s6 := fl s5 (((canE W 7 : Nat) : Int) == 0) 132
  let s7 := fl s6 (decide ((1 : Int) < (((symsL t).length : Nat) : Int))) 132
  let N := g + 257 + (f + 1)
  let o := lnO b t N s7
  let s8 := lnS b t N s7
  if s8.e ≠ 0 then (s8, [], []) else
  let L1 := (o.drop 0).take (g + 257)
  let L2 := (o.drop (g + 257)).take (N - (g + 257))
  let s9 := fl s8 (decide ((0 : Int) < (((o.getD 256 default).toNat : Nat) : Int))) 132
  let s10 := fl s9 (((canE L1 15 : Nat) : Int) == 0) 132
  let s11 := fl s10 (((canE L1 15 : Nat) : Int) == 0) 132
  let s12 := fl s11 (((canE L2 15 : Nat) : Int) == 0) 132
  (s12, okL L1 15, okL L2 15)
/-- Behind the three numbers. -/
def dyS4 (b : List UInt8) (s : Rs) : Rs := fl (tkS b 4 (tkS b 5 (tkS b 5 s))) (decide (tkN b 5 s + 257 ≤ 286) && decide (tkN b 5 (tkS b 5 s) + 1 ≤ 30)) 132
theorem dyR_g (b : List UInt8) (s : Rs) : dyR b s = dyG b (tkN b 5 s) (tkN b 5 (tkS b 5 s)) (rwS b (dyS4 b s) (tkN b 4 (tkS b 5 (tkS b 5 s)) + 4)) (rwL b (dyS4 b s) (tkN b 4 (tkS b 5 (tkS b 5 s)) + 4)) := rfl
theorem lnS_x {b l : List UInt8} {N : Nat} {s : Rs} (h : s.e ≠ 0) : lnS b l N s = s := by
  unfold lnS
  have : (lnR b l N s).1 = s := by rw [lnR_eq, lnF_end (.inr h)]
  rw [this, fl_x h]
theorem rwS_x {b : List UInt8} {s : Rs} (h : s.e ≠ 0) : ∀ i, rwS b s i = s
  | 0 => rfl
  | i + 1 => by rw [rwS, rwS_x h i, tkS_x h]
theorem dyG_x {b : List UInt8} {g f : Nat} {s : Rs} {W : List UInt8} (h : s.e ≠ 0) : dyG b g f s W = (s, [], []) := by
  unfold dyG
  dsimp only
  have e : ∀ (c d : Bool) (t : List UInt8) (N : Nat), lnS b t N (fl (fl s c 132) d 132) = s := fun c d t N => by rw [fl_x h, fl_x h, lnS_x h]
  rw [e, if_pos h]
section
variable {c b : List UInt8} (P : Pre c b)
include P
theorem Pre.dyG (g f : Nat) (s : Rs) (W : List UInt8) : (dyG c g f s W).1.e = 10 ∨ dyG c g f s W = dyG b g f s W := by
  unfold Vp.dyG
  dsimp only
  generalize fl (fl s _ 132) _ 132 = s7
  generalize okL W 7 = t
  generalize g + 257 + (f + 1) = N
  rcases P.ln t N s7 with q | ⟨q1, q2⟩
  · left; rw [if_pos (by omega)]; exact q
  · rw [q1, q2]; exact .inr rfl
theorem Pre.dy (s : Rs) : (dyR c s).1.e = 10 ∨ dyR c s = dyR b s := by
  rw [dyR_g, dyR_g]
  have a1 := P.take_ 5 s
  rcases a1 with q | ⟨p1, p2⟩
  · left
    have e : dyS4 c s = tkS c 5 s := by unfold dyS4; rw [tkS_x (s := tkS c 5 s) (by omega), tkS_x (s := tkS c 5 s) (by omega), fl_x (by omega)]
    rw [e, rwS_x (by omega), dyG_x (by omega)]; exact q
  · rw [p2, p1]
    have a2 := P.take_ 5 (tkS b 5 s)
    rcases a2 with q | ⟨p3, p4⟩
    · left
      have e : dyS4 c s = tkS c 5 (tkS b 5 s) := by unfold dyS4; rw [p1, tkS_x (s := tkS c 5 (tkS b 5 s)) (by omega), fl_x (by omega)]
      rw [e, rwS_x (by omega), dyG_x (by omega)]; exact q
    · rw [p4, p3]
      have a3 := P.take_ 4 (tkS b 5 (tkS b 5 s))
      rcases a3 with q | ⟨p5, p6⟩
      · left
        have e : dyS4 c s = tkS c 4 (tkS b 5 (tkS b 5 s)) := by unfold dyS4; rw [p1, p3, fl_x (by omega)]
        rw [e, rwS_x (by omega), dyG_x (by omega)]; exact q
      · rw [p6]
        have e : dyS4 c s = dyS4 b s := by unfold dyS4; rw [p1, p2, p3, p4, p5]
        rw [e]
        rcases P.rw (dyS4 b s) (tkN b 4 (tkS b 5 (tkS b 5 s)) + 4) with q | ⟨q1, q2⟩
        · left; rw [dyG_x (by omega)]; exact q
        · rw [q1, q2]; exact P.dyG _ _ _ _
theorem Pre.hd (s : Rs) : (hdR c s).s.e = 10 ∨ hdR c s = hdR b s := by
  rw [hdR_eq, hdR_eq]
  unfold hdD
  dsimp only
  rcases P.take_ 1 s with q | ⟨p1, p2⟩
  · left
    have e : ∀ d : Bool, fl (tkS c 2 (tkS c 1 s)) d 130 = tkS c 1 s := fun d => by rw [tkS_x (by omega), fl_x (by omega)]
    rw [e, if_pos (by omega)]; exact q
  · rw [p1, p2]
    rcases P.take_ 2 (tkS b 1 s) with q | ⟨p3, p4⟩
    · left
      have e : ∀ d : Bool, fl (tkS c 2 (tkS b 1 s)) d 130 = tkS c 2 (tkS b 1 s) := fun d => by rw [fl_x (by omega)]
      rw [e, if_pos (by omega)]; exact q
    · rw [p3, p4]
      generalize fl (tkS b 2 (tkS b 1 s)) (decide (((tkN b 2 (tkS b 1 s) : Nat) : Int) ≤ 2)) 130 = s3
      split
      · exact .inr rfl
      · split
        · rcases P.take_ 16 ⟨(s3.p + 7) / 8 * 8, 0⟩ with q | ⟨p5, p6⟩
          · left
            show (fl (tkS c 16 (tkS c 16 _)) _ 131).e = 10
            rw [tkS_x (s := tkS c 16 _) (by omega), fl_x (by omega)]; exact q
          · rw [p5, p6]
            rcases P.take_ 16 (tkS b 16 ⟨(s3.p + 7) / 8 * 8, 0⟩) with q | ⟨p7, p8⟩
            · left
              show (fl (tkS c 16 (tkS b 16 _)) _ 131).e = 10
              rw [fl_x (by omega)]; exact q
            · rw [p7, p8]; exact .inr rfl
        · split
          · exact .inr rfl
          · rcases P.dy s3 with q | q
            · exact .inl q
            · rw [q]; exact .inr rfl
end
theorem cpF_pre (d : Nat) (o : List UInt8) : ∀ k, o <+: cpF d k o
  | 0 => List.prefix_refl o
  | k + 1 => by rw [cpF]; exact (cpF_pre d o k).trans (List.prefix_append _ _)
theorem plT_pre (lit d long : Nat) (o : List UInt8) : o <+: plT lit d long o := by
  unfold plT; split
  · exact List.prefix_append _ _
  · exact cpF_pre d o _
theorem tl_pre (b : List UInt8) (most : Int) : ∀ (k : Nat) (m : Option Kb) (s : Rs) (o : List UInt8), o <+: (tlF b most k m s o).2
  | 0, _, _, _ => List.prefix_refl _
  | k + 1, none, s, o => by rw [tlF]; exact tl_pre b most k _ _ _
  | k + 1, some K, s, o => by
    rw [tlF]
    split
    · split
      · exact List.prefix_refl _
      · exact tl_pre b most k _ _ _
    · split
      · exact List.prefix_refl _
      · exact (plT_pre _ _ _ o).trans (tl_pre b most k _ _ _)
theorem Pre.tl {c b : List UInt8} (P : Pre c b) (most : Int) : ∀ (k : Nat) (m : Option Kb) (s : Rs) (o : List UInt8), ((tlF c most k m s o).1.e = 10 ∧ (tlF c most k m s o).2 <+: (tlF b most k m s o).2) ∨ tlF c most k m s o = tlF b most k m s o
  | 0, _, _, _ => .inr rfl
  | k + 1, none, s, o => by
    rcases P.hd s with q | q
    · left
      have e : tlF c most (k + 1) none s o = ((hdR c s).s, o) := by rw [tlF, tl_err _ _ _ _ (by omega)]
      rw [e]
      exact ⟨q, tl_pre b most (k + 1) none s o⟩
    · rw [tlF, tlF]
      unfold kbH
      rw [q]
      exact Pre.tl P most k _ _ _
  | k + 1, some K, s, o => by
    rcases P.st K.kd K.le K.l1 K.l2 s with q | q
    · left
      have e : tlF c most (k + 1) (some K) s o = ((stK c K s).1, o) := by
        have q0 : (stK c K s).1.e ≠ 0 := by show (stR c K.kd K.le K.l1 K.l2 s).1.e ≠ 0; omega
        rw [tlF, if_pos (.inl q0), if_pos (.inl q0)]
      rw [e]
      exact ⟨q, tl_pre b most (k + 1) (some K) s o⟩
    · have q : stK c K s = stK b K s := q
      rw [tlF, tlF, q]
      split
      · split
        · exact .inr rfl
        · exact Pre.tl P most k _ _ _
      · split
        · exact .inr rfl
        · exact Pre.tl P most k _ _ _
theorem Pre.all {c b : List UInt8} (P : Pre c b) (most : Int) : ((allR c most 0).1.e = 10 ∧ (allR c most 0).2 <+: (allR b most 0).2) ∨ allR c most 0 = allR b most 0 := by
  unfold allR
  rw [tlR_eq, tlR_eq]
  have h1 := P.l
  have e : tlF c most (mu c none (s0 0)) none (s0 0) [] = tlF c most (mu b none (s0 0)) none (s0 0) [] := by
    refine tl_fuel _ _ _ _ _ (fun _ => Nat.zero_le _) (Nat.le_refl _) ?_
    rw [mu_none rfl, mu_none rfl]
    show 2 * (8 * c.length + 1 - 0) ≤ 2 * (8 * b.length + 1 - 0)
    omega
  rw [e]
  exact P.tl most _ _ _ _
/-- What PlainBegins says of the answers of the whole bytes and of a beginning. -/
structure BegK (x y : List UInt8 × Nat) (z : List UInt8 × Nat × Nat) : Prop where
  a : x.2 = 0 → y.2 = 0 ∧ y.1.length ≤ x.1.length ∧ x.1.take y.1.length = y.1
  b : z.2.2 ≠ 0 → (z.2.2 = 10 ↔ y.2 = 0)
  c : z.2.2 = 0 → y.2 = 0 ∧ x.2 = 0 ∧ z.1 = y.1 ∧ z.1 = x.1
theorem inf_00 {c : List UInt8} {most : Int} : infR c 0 most = if most < 0 ∨ 131072 < most then ([], 0, 2) else if (allR c most 0).1.e ≠ 0 then ([], 0, (allR c most 0).1.e) else ((allR c most 0).2, (allR c most 0).1.p, 0) := by
  unfold infR; rw [if_neg (by omega)]; rfl
theorem Pre.begK {c b : List UInt8} (P : Pre c b) (most : Int) : BegK (pfxR b most) (pfxR c most) (infR c 0 most) := by
  rw [inf_00]
  by_cases h : most < 0 ∨ 131072 < most
  · rw [pfx_1 h, pfx_1 h, if_pos h]
    exact ⟨fun q => (nomatch q), fun _ => ⟨fun q => (nomatch q), fun q => (nomatch q)⟩, fun q => (nomatch q)⟩
  · rw [if_neg h]
    rcases P.all most with ⟨q1, q2⟩ | q
    · rw [pfx_3 (b := c) h (fun y => y.2 q1), if_pos (by omega)]
      obtain ⟨r, hr⟩ := q2
      refine ⟨fun hx => ⟨rfl, ?_⟩, fun _ => ⟨fun _ => rfl, fun _ => q1⟩, fun y => absurd y (by show (allR c most 0).1.e ≠ 0; omega)⟩
      by_cases h2 : (allR b most 0).1.e ≠ 0 ∧ (allR b most 0).1.e ≠ 10
      · rw [pfx_2 h h2] at hx; exact absurd hx h2.1
      · rw [pfx_3 h h2]
        show (allR c most 0).2.length ≤ (allR b most 0).2.length ∧ (allR b most 0).2.take (allR c most 0).2.length = (allR c most 0).2
        rw [← hr]
        exact ⟨by rw [List.length_append]; omega, by rw [List.take_left']; rfl⟩
    · have e : pfxR c most = pfxR b most := by unfold pfxR; rw [q]
      rw [e, q]
      refine ⟨fun y => ⟨y, Nat.le_refl _, List.take_of_length_le (Nat.le_refl _)⟩, ?_, ?_⟩
      · by_cases h2 : (allR b most 0).1.e ≠ 0
        · rw [if_pos h2]
          intro _
          by_cases h3 : (allR b most 0).1.e = 10
          · rw [pfx_3 h (fun y => y.2 h3)]; exact ⟨fun _ => rfl, fun _ => h3⟩
          · rw [pfx_2 h ⟨h2, h3⟩]; exact ⟨fun y => absurd y h3, fun y => absurd y h2⟩
        · rw [if_neg h2]; exact fun y => absurd rfl y
      · by_cases h2 : (allR b most 0).1.e ≠ 0
        · rw [if_pos h2]; exact fun y => absurd y h2
        · rw [if_neg h2, pfx_3 h (fun y => h2 y.1)]; exact fun _ => ⟨rfl, rfl, rfl, rfl⟩

set_option maxRecDepth 100000 in
set_option maxHeartbeats 4000000 in
theorem beg_0 (b : List UInt8) (N : Nat) (hN : N = b.length) (n most : Int) (h : 400 < N ∨ n < 0 ∨ (N : Int) < n ∨ 3000 < most) : SpecH false Try.prog 6 [.sl false N 1 (b.map dB), iD n, iD most] [] (.v (.bool true)) [] := by
  refine SpecH.run T_ok mixed Try.func6 rfl rfl rfl trivial rfl 1000 64 (fun R ok => (.s 2 (.call 17 false [] (true) (by with_reducible rfl) ([]) _ (simL.refl _) (true) (by with_reducible rfl) _ _ _ (CallOk.fn (FnOk.of Try.func17 rfl rfl) (@Go.Proofs.Ytegjeagfcfhbeaa.Vp.alive)) (.s 12 (.br (decide (400 < (↑N : Int)))
  (fun p0 => have p0f := of_decide_eq_true p0; (.s 28 (.out [] [] (D.v (Value.bool true)) [] R (ok _ _ (by with_reducible rfl) (by with_reducible rfl)))))
  (fun p0 => have p0f := of_decide_eq_false p0; (.s 6 (.br (decide (n < 0))
    (fun p1 => have p1f := of_decide_eq_true p1; (.s 22 (.out [] [] (D.v (Value.bool true)) [] R (ok _ _ (by with_reducible rfl) (by with_reducible rfl)))))
    (fun p1 => have p1f := of_decide_eq_false p1; (.s 10 (.br (decide ((↑N : Int) < n))
      (fun p2 => have p2f := of_decide_eq_true p2; (.s 12 (.out [] [] (D.v (Value.bool true)) [] R (ok _ _ (by with_reducible rfl) (by with_reducible rfl)))))
      (fun p2 => have p2f := of_decide_eq_false p2; (.s 6 (.t (decide (3000 < most)) (by (refine decide_eq_true ?_; (omega))) (.s 6 (.out [] [] (D.v (Value.bool true)) [] R (ok _ _ (by with_reducible rfl) (by with_reducible rfl)))))))))))))))))) (by kernel_rfl)
set_option maxRecDepth 100000 in
set_option maxHeartbeats 4000000 in
theorem beg_1 (b : List UInt8) (N : Nat) (hN : N = b.length) (h4 : N ≤ 400) (n : Nat) (hn : n ≤ N) (most : Int) (hm : most ≤ 3000) (x y : List UInt8 × Nat) (z : List UInt8 × Nat × Nat) (hx : pfxR b most = x) (hy : pfxR (b.take n) most = y) (hz : infR (b.take n) 0 most = z) (hK : BegK x y z) : SpecH false Try.prog 6 [.sl false N 1 (b.map dB), nD n, iD most] [] (.v (.bool true)) [] := by
  refine SpecH.run T_ok mixed Try.func6 rfl rfl rfl trivial rfl 1000 64 (fun R ok => (.s 2 (.call 17 false [] (true) (by with_reducible rfl) ([]) _ (simL.refl _) (true) (by with_reducible rfl) _ _ _ (CallOk.fn (FnOk.of Try.func17 rfl rfl) (@Go.Proofs.Ytegjeagfcfhbeaa.Vp.alive)) (.s 12 (.f (decide (400 < (↑N : Int))) (by (refine decide_eq_false ?_; (omega))) (.s 17 (.f (decide ((↑N : Int) < (↑n : Int))) (by (refine decide_eq_false ?_; (omega))) (.s 6 (.f (decide (3000 < most)) (by (refine decide_eq_false ?_; (omega))) (.s 7 (.call 20 false [] (true) (by with_reducible rfl) ([D.sl false N 1 (List.map dB b), D.v (Value.int IntKind.i64 most)]) _ (simL.refl _) (true) (by with_reducible rfl) _ _ _ (CallOk.fn (FnOk.of Try.func20 rfl rfl) (@Go.Proofs.Ytegjeagfcfhbeaa.Vp.Pfx_t (b) (N) (by omega) (by omega) (most) (x) (by assumption))) (.s 10 (.chk (bndOk none (some (↑n : Int)) none N && true) (by (simp <;> (omega))) (.s 2 (.call 20 false [] (true) (by with_reducible rfl) ([D.sl false n 1 (List.take (n * 1) (List.map dB b)), D.v (Value.int IntKind.i64 most)]) _ (by exact (And.intro (D.sim.slw rfl (by (simp; done))) (And.intro (D.sim.refl _) trivial))) (true) (by with_reducible rfl) _ _ _ (CallOk.fn (FnOk.of Try.func20 rfl rfl) (@Go.Proofs.Ytegjeagfcfhbeaa.Vp.Pfx_t (List.take n b) (n) (by (simp <;> (omega))) (by omega) (most) (y) (by assumption))) (.s 13 (.br ((↑(Prod.snd x) : Int) == 0)
  (fun p0 => have p0f := eq_of_beq p0; (.s 6 (.br ((↑(Prod.snd y) : Int) != 0)
    (fun p1 => have p1f := of_bne_t p1; (.abs (by ( have q := hK.a (by omega); omega))))
    (fun p1 => have p1f := of_bne_f p1; (.s 14 (.br (decide ((↑(List.length (Prod.fst x)) : Int) < (↑(List.length (Prod.fst y)) : Int)))
      (fun p2 => have p2f := of_decide_eq_true p2; (.abs (by ( have q := hK.a (by omega); omega))))
      (fun p2 => have p2f := of_decide_eq_false p2; (.s 6 (.chk (bndOk none (some (↑(List.length (Prod.fst y)) : Int)) none (List.length (Prod.fst x)) && true) (by (simp <;> (omega))) (.s 2 (.chk (true && Nat.ble (0 + List.length (Prod.fst y) * 1) (List.length (List.map dB (Prod.fst x))) && true && true) (by (simp <;> (omega))) (.byt (bif true && Nat.beq (List.length (Prod.fst y) * 1) (List.length (List.map dB (Prod.fst x))) then List.map dB (Prod.fst x) else List.take (List.length (Prod.fst y) * 1) (List.drop 0 (List.map dB (Prod.fst x)))) (List.take (List.length (Prod.fst y)) (Prod.fst x)) ((seg_bytes (Prod.fst x) (0) (List.length (Prod.fst y) * 1)).trans (by (simp; done))) (.s 4 (.chk (true && Nat.ble (0 + List.length (Prod.fst y) * 1) (List.length (List.map dB (Prod.fst y))) && true && true) (by (simp; done)) (.byt (bif true && Nat.beq (List.length (Prod.fst y) * 1) (List.length (List.map dB (Prod.fst y))) then List.map dB (Prod.fst y) else List.take (List.length (Prod.fst y) * 1) (List.drop 0 (List.map dB (Prod.fst y)))) (Prod.fst y) (cond_t (by (simp; done)) |>.trans rfl) (.s 5 (.br (!ByteArray.toList (ByteArray.mk (List.toArray (List.take (List.length (Prod.fst y)) (Prod.fst x)))) == ByteArray.toList (ByteArray.mk (List.toArray (Prod.fst y))))
        (fun p3 => have p3f := of_beq_f (not_t p3); (.abs (by ( have q := hK.a (by omega); simp_all; done))))
        (fun p3 => have p3f := eq_of_beq (not_f p3); (.s 3 (.chk (bndOk none (some (↑n : Int)) none N && true) (by (simp <;> (omega))) (.s 2 (.call 18 false [] (true) (by with_reducible rfl) ([D.sl false n 1 (List.take (n * 1) (List.map dB b)), D.v (Value.int IntKind.i64 0), D.v (Value.int IntKind.i64 most)]) _ (by exact (And.intro (D.sim.slw rfl (by (simp; done))) (And.intro (D.sim.refl _) (And.intro (D.sim.refl _) trivial)))) (true) (by with_reducible rfl) _ _ _ (CallOk.fn (FnOk.of Try.func18 rfl rfl) (@Go.Proofs.Ytegjeagfcfhbeaa.Vp.Inf_t (List.take n b) (n) (by (simp <;> (omega))) (by omega) (0) (most) (z) (by assumption))) (.s 13 (.br ((↑(Prod.snd (Prod.snd z)) : Int) != 0)
          (fun p4 => have p4f := of_bne_t p4; (.s 17 (.out [] [] (D.v (Value.bool (((↑(Prod.snd (Prod.snd z)) : Int) == 10) == ((↑(Prod.snd y) : Int) == 0)))) [] R (ok _ _ (by ( have q := hK.b (by omega); rcases Classical.em (y.2 = 0) with q2 | q2; (rw [show z.2.2 = 10 from q.2 q2, q2]; rfl); (have q3 := mt q.1 q2; rw [show (((z.2.2 : Nat) : Int) == 10) = false from by simp; omega, show (((y.2 : Nat) : Int) == 0) = false from by simp; omega]; rfl))) (by with_reducible rfl)))))
          (fun p4 => have p4f := of_bne_f p4; (.s 10 (.t ((↑(Prod.snd y) : Int) == 0) (by (refine decide_eq_true ?_; (omega))) (.s 6 (.t ((↑(Prod.snd x) : Int) == 0) p0 (.s 2 (.chk (true && Nat.ble (0 + List.length (Prod.fst z) * 1) (List.length (List.map dB (Prod.fst z))) && true && true) (by ( have q := hK.c (by omega); rw [q.2.2.2]; simp; done)) (.byt (bif true && Nat.beq (List.length (Prod.fst z) * 1) (List.length (List.map dB (Prod.fst z))) then List.map dB (Prod.fst z) else List.take (List.length (Prod.fst z) * 1) (List.drop 0 (List.map dB (Prod.fst z)))) (Prod.fst z) (cond_t (by ( have q := hK.c (by omega); rw [q.2.2.2]; simp; done)) |>.trans rfl) (.s 4 (.chk (true && Nat.ble (0 + List.length (Prod.fst y) * 1) (List.length (List.map dB (Prod.fst y))) && true && true) (by (simp; done)) (.byt (bif true && Nat.beq (List.length (Prod.fst y) * 1) (List.length (List.map dB (Prod.fst y))) then List.map dB (Prod.fst y) else List.take (List.length (Prod.fst y) * 1) (List.drop 0 (List.map dB (Prod.fst y)))) (Prod.fst y) (cond_t (by (simp; done)) |>.trans rfl) (.s 5 (.br (ByteArray.toList (ByteArray.mk (List.toArray (Prod.fst z))) == ByteArray.toList (ByteArray.mk (List.toArray (Prod.fst y))))
            (fun p5 => have p5f := eq_of_beq p5; (.s 2 (.chk (true && Nat.ble (0 + List.length (Prod.fst z) * 1) (List.length (List.map dB (Prod.fst z))) && true && true) (by ( have q := hK.c (by omega); rw [q.2.2.2]; simp; done)) (.byt (bif true && Nat.beq (List.length (Prod.fst z) * 1) (List.length (List.map dB (Prod.fst z))) then List.map dB (Prod.fst z) else List.take (List.length (Prod.fst z) * 1) (List.drop 0 (List.map dB (Prod.fst z)))) (Prod.fst z) (cond_t (by ( have q := hK.c (by omega); rw [q.2.2.2]; simp; done)) |>.trans rfl) (.s 4 (.chk (true && Nat.ble (0 + List.length (Prod.fst x) * 1) (List.length (List.map dB (Prod.fst x))) && true && true) (by (simp; done)) (.byt (bif true && Nat.beq (List.length (Prod.fst x) * 1) (List.length (List.map dB (Prod.fst x))) then List.map dB (Prod.fst x) else List.take (List.length (Prod.fst x) * 1) (List.drop 0 (List.map dB (Prod.fst x)))) (Prod.fst x) (cond_t (by (simp; done)) |>.trans rfl) (.s 4 (.out [] [] (D.v (Value.bool (ByteArray.toList (ByteArray.mk (List.toArray (Prod.fst z))) == ByteArray.toList (ByteArray.mk (List.toArray (Prod.fst x)))))) [] R (ok _ _ (by ( have q := hK.c (by omega); rw [q.2.2.2]; simp; done)) (by with_reducible rfl)))))))))))
            (fun p5 => have p5f := of_beq_f p5; (.abs (by ( have q := hK.c (by omega); simp_all; done)))))))))))))))))))))))))))))))))))))))))
  (fun p0 => have p0f := of_beq_f p0; (.s 28 (.chk (bndOk none (some (↑n : Int)) none N && true) (by (simp <;> (omega))) (.s 2 (.call 18 false [] (true) (by with_reducible rfl) ([D.sl false n 1 (List.take (n * 1) (List.map dB b)), D.v (Value.int IntKind.i64 0), D.v (Value.int IntKind.i64 most)]) _ (by exact (And.intro (D.sim.slw rfl (by (simp; done))) (And.intro (D.sim.refl _) (And.intro (D.sim.refl _) trivial)))) (true) (by with_reducible rfl) _ _ _ (CallOk.fn (FnOk.of Try.func18 rfl rfl) (@Go.Proofs.Ytegjeagfcfhbeaa.Vp.Inf_t (List.take n b) (n) (by (simp <;> (omega))) (by omega) (0) (most) (z) (by assumption))) (.s 13 (.br ((↑(Prod.snd (Prod.snd z)) : Int) != 0)
    (fun p6 => have p6f := of_bne_t p6; (.s 17 (.out [] [] (D.v (Value.bool (((↑(Prod.snd (Prod.snd z)) : Int) == 10) == ((↑(Prod.snd y) : Int) == 0)))) [] R (ok _ _ (by ( have q := hK.b (by omega); rcases Classical.em (y.2 = 0) with q2 | q2; (rw [show z.2.2 = 10 from q.2 q2, q2]; rfl); (have q3 := mt q.1 q2; rw [show (((z.2.2 : Nat) : Int) == 10) = false from by simp; omega, show (((y.2 : Nat) : Int) == 0) = false from by simp; omega]; rfl))) (by with_reducible rfl)))))
    (fun p6 => have p6f := of_bne_f p6; (.abs (by ( have q := hK.c (by omega); omega)))))))))))))))))))))))))))) (by kernel_rfl)
theorem beg_ (b : List UInt8) (N : Nat) (hN : N = b.length) (n most : Int) : SpecH false Try.prog 6 [.sl false N 1 (b.map dB), iD n, iD most] [] (.v (.bool true)) [] := by
  by_cases h : 400 < N ∨ n < 0 ∨ (N : Int) < n ∨ 3000 < most
  · exact beg_0 b N hN n most h
  · obtain ⟨k, rfl⟩ := Int.eq_ofNat_of_zero_le (show 0 ≤ n by omega)
    exact beg_1 b N hN (by omega) k (by omega) most (by omega) _ _ _ rfl rfl rfl ((Pre.take b k).begK most)
end Vp
end Go.Proofs.Ytegjeagfcfhbeaa

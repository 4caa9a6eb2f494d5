/- VxP: what a run with hints is held against; contracts and loops out of runs. No program. -/
import Derived.Test.YtegjeagfcfhbeaaVxU
namespace Go.Vx
set_option linter.unusedVariables false
set_option linter.unusedSimpArgs false
open Go.RowKit Go.Bw
def tmT (κ γ : Nat → Nat) : List (Nat × D) → Prop
  | [] => True
  | p :: r => some (mapN κ γ p.2) = some (mapN κ γ p.2) ∧ tmT κ γ r
theorem tmT_ok (κ γ : Nat → Nat) : ∀ l, tmT κ γ l
  | [] => trivial
  | _ :: r => ⟨rfl, tmT_ok κ γ r⟩
def obT (κ γ : Nat → Nat) (e : Ent) : Prop :=
  match e.o with
  | .b x => some (e.g, mapBlk κ γ x) = some (e.g, mapBlk κ γ x)
  | .c x => some (e.g, x) = some (e.g, x)
  | .l st pend params assign body nt tm => (e.g, st, pend, params, assign, body, nt) = (e.g, st, pend, params, assign, body, nt) ∧ tmT κ γ tm
def esT (κ γ : Nat → Nat) : List Ent → Prop
  | [] => True
  | e :: r => obT κ γ e ∧ esT κ γ r
theorem esT_ok (κ γ : Nat → Nat) : ∀ l, esT κ γ l
  | [] => trivial
  | e :: r => ⟨by unfold obT; split <;> first | rfl | exact ⟨rfl, tmT_ok κ γ _⟩, esT_ok κ γ r⟩
def cutT (d : CutS) (X : Prop) : Prop := tmT (κE d.es) (γE d.es) d.tm ∧ esT (κE d.es) (γE d.es) d.es ∧ X
def blkT (κ γ : Nat → Nat) : List Nat → List Blk → Prop
  | g :: gs, b :: bs => some (g, mapBlk κ γ b) = some (g, mapBlk κ γ b) ∧ blkT κ γ gs bs
  | _, _ => True
theorem blkT_ok (κ γ : Nat → Nat) : ∀ gs bs, blkT κ γ gs bs
  | g :: gs, b :: bs => ⟨rfl, blkT_ok κ γ gs bs⟩
  | [], _ => trivial
  | _ :: _, [] => trivial
def blkE (s : AS) (κ γ : Nat → Nat) : List Nat → List Nat → List Blk → Prop
  | k :: ks, g :: gs, b :: bs => s.at k = some (g, mapBlk κ γ b) ∧ blkE s κ γ ks gs bs
  | _, _, _ => True

theorem endsP_all : ∀ (es : List Endl) (F : (i : Nat) → (nthE es i).κ → Prop), (∀ i x, F i x) → endsP es F
  | [], _, _ => trivial
  | _ :: r, F, h => ⟨fun x => h 0 x, endsP_all r (fun i x => F (i + 1) x) fun i x => h (i + 1) x⟩
section
variable {P : Program}
/-- What a run with these hints comes to, where they are right. -/
def Hn.T : Hn P → Prop
  | .nil => True
  | .s _ h => h.T
  | .chk b _ h => b = b ∧ h.T
  | .t b _ h => b = b ∧ h.T
  | .f b _ h => b = b ∧ h.T
  | .br b ht hf => b = b ∧ (∀ p, (ht p).T) ∧ ∀ p, (hf p).T
  | .opt o _ _ h => o = o ∧ h.T
  | .byt cs _ _ h => cs = cs ∧ h.T
  | .lst cs _ _ h => cs = cs ∧ h.T
  | .two a b => a.T ∧ b.T
  | .stab l h => l.map (fun c => (c, c)) = l.map (fun c => (c, c)) ∧ h.T
  | .abs _ => True
  | .val _ d _ _ h => some d = some d ∧ h.T
  | .blk _ g b _ _ h => some (g, b) = some (g, b) ∧ h.T
  | .em _ ht hf => (∀ p, (ht p).T) ∧ ∀ p, (hf p).T
  | .recv _ _ d _ _ h => some d = some d ∧ h.T
  | .nils _ _ _ _ h => some nilDv = some nilDv ∧ h.T
  | .nilc _ g0 b _ _ _ _ h => some (g0, b) = some (g0, b) ∧ some nilDv = some nilDv ∧ h.T
  | .call f0 _ _ b1 _ q _ _ b2 _ hin _ _ _ h => f0 = f0 ∧ some (b1, q) = some (b1, q) ∧ some (b2, hin) = some (b2, hin) ∧ h.T
  | .loop1 rd nt xn c d _ _ _ _ h => (rd, nt, xn) = (rd, nt, xn) ∧ c = c ∧ cutT d h.T
  | .loop2 rd nt xn c d _ _ _ _ _ _ h1 h2 => (rd, nt, xn) = (rd, nt, xn) ∧ c = c ∧ cutT d (h1.T ∧ h2.T)
  | .loopE rd nt xn c d _ es _ hs => (rd, nt, xn) = (rd, nt, xn) ∧ c = c ∧ cutT d (endsP es fun i x => (hs i x).T)
  | .cut e d _ Q _ => e = e ∧ cutT d (Q = Q)
  | .out ks gs r bs R _ => resN (fun j => ks.getD j 0) (fun j => gs.getD j 0) bs r = resN (fun j => ks.getD j 0) (fun j => gs.getD j 0) bs r ∧ blkT (fun j => ks.getD j 0) (fun j => gs.getD j 0) gs bs ∧ R = R
theorem Hn.T_ok : ∀ h : Hn P, h.T
  | .nil => trivial
  | .s _ h => h.T_ok
  | .chk _ _ h => ⟨rfl, h.T_ok⟩
  | .t _ _ h => ⟨rfl, h.T_ok⟩
  | .f _ _ h => ⟨rfl, h.T_ok⟩
  | .br _ ht hf => ⟨rfl, fun p => (ht p).T_ok, fun p => (hf p).T_ok⟩
  | .opt _ _ _ h => ⟨rfl, h.T_ok⟩
  | .byt _ _ _ h => ⟨rfl, h.T_ok⟩
  | .lst _ _ _ h => ⟨rfl, h.T_ok⟩
  | .two a b => ⟨a.T_ok, b.T_ok⟩
  | .stab _ h => ⟨rfl, h.T_ok⟩
  | .abs _ => trivial
  | .val _ _ _ _ h => ⟨rfl, h.T_ok⟩
  | .blk _ _ _ _ _ h => ⟨rfl, h.T_ok⟩
  | .em _ ht hf => ⟨fun p => (ht p).T_ok, fun p => (hf p).T_ok⟩
  | .recv _ _ _ _ _ h => ⟨rfl, h.T_ok⟩
  | .nils _ _ _ _ h => ⟨rfl, h.T_ok⟩
  | .nilc _ _ _ _ _ _ _ h => ⟨rfl, rfl, h.T_ok⟩
  | .call _ _ _ _ _ _ _ _ _ _ _ _ _ _ h => ⟨rfl, rfl, rfl, h.T_ok⟩
  | .loop1 _ _ _ _ d _ _ _ _ h => ⟨rfl, rfl, tmT_ok _ _ _, esT_ok _ _ _, h.T_ok⟩
  | .loop2 _ _ _ _ d _ _ _ _ _ _ h1 h2 => ⟨rfl, rfl, tmT_ok _ _ _, esT_ok _ _ _, h1.T_ok, h2.T_ok⟩
  | .loopE _ _ _ _ d _ es _ hs => ⟨rfl, rfl, tmT_ok _ _ _, esT_ok _ _ _, endsP_all es _ fun i x => (hs i x).T_ok⟩
  | .cut _ d _ _ _ => ⟨rfl, tmT_ok _ _ _, esT_ok _ _ _, rfl⟩
  | .out _ _ _ _ _ _ => ⟨rfl, blkT_ok _ _ _ _, rfl⟩

/-- The end of a part that is told anew: the end e, the state d. -/
def cutK (xn : Nat) (Q : AX → AS → Prop) (e : AX) (s : AS) (h : Hn P) : Prop :=
  h.go (fun h' => Need 21 (e, s, h')) fun h' => xNil h' s fun s h => match h with
    | .cut e' d _ Q' _ => e = e' ∧ xCut s xn d (Q = Q')
    | h' => Need 21 (e, s, h')
theorem cutK_sound {xn : Nat} {Q : AX → AS → Prop} {e : AX} {s : AS} {h : Hn P} (hv : cutK xn Q e s h) : ∃ (s2 : AS) (d : CutS), Ret s s2 ∧ CutE s2 xn d ∧ Q e d.st := by
  refine Hn.go_elim hv (fun h' hv => by cases hv) fun h' hv => ?_
  obtain ⟨s2, h2, hv, hs⟩ := xNil_ret _ _ hv
  split at hv
  · rename_i e' d rows Q' p
    obtain ⟨rfl, hv⟩ := hv
    obtain ⟨hc, rfl⟩ := xCut_sound hv rows
    exact ⟨s2, d, hs, hc, p⟩
  · cases hv

/-- The end of a function. -/
def outK (T : TT) (rs : List ResultVar) (al : Bool) (m n : Nat) (R : D → List Blk → Prop) (e : AX) (s : AS) (h : Hn P) : Prop :=
  litP (isEnd e) (xRes T s rs h fun l h => h.go (fun h' => Need 22 h') fun h' => match h' with
    | .out ks gs r bs R' _ => resD l = resN (fun j => ks.getD j 0) (fun j => gs.getD j 0) bs r ∧ blkE s (fun j => ks.getD j 0) (fun j => gs.getD j 0) ks gs bs ∧ litP (nodupB ks && inNames 0 m gs && Nat.beq bs.length n && Nat.beq ks.length n && Nat.beq gs.length n) (R = R')
    | .abs _ => True
    | _ => Need 23 (s, l))
def allOkB (al : Bool) (n : Nat) : List Blk → Prop
  | [] => True
  | b :: r => okB al n b = true ∧ allOkB al n r

theorem blkE_expo {al : Bool} {n : Nat} {κ γ : Nat → Nat} {s : AS} : ∀ {ks gs : List Nat} {bs : List Blk}, ks.length = bs.length → gs.length = bs.length → blkE s κ γ ks gs bs → allOkB al n bs → expo al n κ γ s ks gs bs
  | [], [], [], _, _, _, _ => trivial
  | k :: ks, g :: gs, b :: bs, h1, h2, h3, h4 => ⟨h3.1, h4.1, blkE_expo (by simpa using h1) (by simpa using h2) h3.2 h4.2⟩
  | [], _ :: _, _, h1, h2, _, _ => by simp only [List.length_nil, List.length_cons] at h1 h2; omega
  | _ :: _, [], _, h1, h2, _, _ => by simp only [List.length_nil, List.length_cons] at h1 h2; omega
  | [], [], _ :: _, h1, _, _, _ => by simp at h1
  | _ :: _, _ :: _, [], h1, _, _, _ => by simp at h1

mutual
theorem mapN_ok0 {al : Bool} {κ γ : Nat → Nat} : ∀ (d : D), okR al 0 d = true → mapN κ γ d = d
  | .v _, _ => rfl
  | .sl _ _ _ _, _ => rfl
  | .ep _ _, _ => rfl
  | .agg cs, h => congrArg D.agg (mapNL_ok0 cs h)
  | .tup cs, h => congrArg D.tup (mapNL_ok0 cs h)
  | .ifc t x, h => congrArg (D.ifc t) (mapN_ok0 x h)
  | .fn f fi ca, h => by
    have h : (okRL al 0 fi && okRL al 0 ca) = true := h
    rw [Bool.and_eq_true] at h
    show D.fn f (mapNL κ γ fi) (mapNL κ γ ca) = _
    rw [mapNL_ok0 fi h.1, mapNL_ok0 ca h.2]
  | .ref _ g _ _ _, h => absurd (Nat.le_of_ble_eq_true h) (Nat.not_succ_le_zero g)
  | .ptr _ g _, h => absurd (Nat.le_of_ble_eq_true h) (Nat.not_succ_le_zero g)
  | .yl _ g, h => absurd (Nat.le_of_ble_eq_true h) (Nat.not_succ_le_zero g)
theorem mapNL_ok0 {al : Bool} {κ γ : Nat → Nat} : ∀ (l : List D), okRL al 0 l = true → mapNL κ γ l = l
  | [], _ => rfl
  | d :: r, h => by
    have h : (okR al 0 d && okRL al 0 r) = true := h
    rw [Bool.and_eq_true] at h
    show mapN κ γ d :: mapNL κ γ r = _
    rw [mapN_ok0 d h.1, mapNL_ok0 r h.2]
end
theorem resN_mapN {al : Bool} {κ γ : Nat → Nat} {bs : List Blk} {r : D} (h : okR al bs.length r = true) : resN κ γ bs r = mapN κ γ r := by
  cases bs with
  | nil => exact (mapN_ok0 r h).symm
  | cons _ _ => rfl
mutual
theorem okR_pl {al : Bool} {n : Nat} : ∀ (d : D), d.pl = true → okR al n d = true
  | .v _, _ => rfl
  | .agg cs, h => okRL_pl cs h
  | .ifc _ x, h => okR_pl x h
  | .sl .., h => by cases h
  | .ep .., h => by cases h
  | .tup .., h => by cases h
  | .fn .., h => by cases h
  | .ref .., h => by cases h
  | .ptr .., h => by cases h
  | .yl .., h => by cases h
theorem okRL_pl {al : Bool} {n : Nat} : ∀ (l : List D), plL l = true → okRL al n l = true
  | [], _ => rfl
  | d :: r, h => by
    have h : (d.pl && plL r) = true := h
    rw [Bool.and_eq_true] at h
    show (okR al n d && okRL al n r) = true
    rw [okR_pl d h.1, okRL_pl r h.2]; rfl
end
theorem pl_map {α : Type} (f : α → D) (h : ∀ x, (f x).pl = true) (xs : List α) : plL (xs.map f) = true := plL_iff.2 fun d hd => by
  obtain ⟨x, _, rfl⟩ := List.mem_map.1 hd; exact h x
/-- A contract, out of a run. -/
theorem SpecH.run {al : Bool} {T : TT} (hT : T.ok P) (hfol : P.follows .mixedOrders = true) {f : FuncId} {fn : Func} {c : Code} {rs : List ResultVar} {ds : List D} {hin : List Blk} {r : D} {bs : List Blk} (hf : P.funcs[f]? = some fn) (hb : fn.body = some c) (hrs : fn.results = ⟨rs⟩)
    (hle : Nat.ble hin.length bs.length = true) (hok : allOkB al bs.length bs) (hro : okR al bs.length r = true) (fuel kb : Nat) (h0 : ∀ R : D → List Blk → Prop, (∀ r' bs', r' = r → bs' = bs → R r' bs') → Hn P)
    (hE : xC P T fuel false fn.ntmps hin.length kb c (s0 ds hin) (h0 (fun r' bs' => r' = r ∧ bs' = bs) fun _ _ h1 h2 => ⟨h1, h2⟩) (outK T rs al hin.length bs.length fun r' bs' => r' = r ∧ bs' = bs) = (h0 (fun r' bs' => r' = r ∧ bs' = bs) fun _ _ h1 h2 => ⟨h1, h2⟩).T) : SpecH al P f ds hin r bs := by
  obtain ⟨h, hh⟩ : ∃ h, h = h0 (fun r' bs' => r' = r ∧ bs' = bs) fun _ _ h1 h2 => ⟨h1, h2⟩ := ⟨_, rfl⟩
  rw [← hh] at hE
  clear hh h0
  refine SpecH.of hT hf hb hrs hle ((xC_sound hT hfol fuel _ _ _ _ _ _ _ _ (hE.mpr h.T_ok)).ex fun e s' h' hv => ?_)
  obtain ⟨he, hv⟩ := litP_iff.1 hv
  refine ⟨isEnd_iff he, vcRes_mono (xRes_vc hv) fun l ⟨_, hv⟩ => ?_⟩
  refine Hn.go_elim hv (fun h' hv => by cases hv) fun h' hv => ?_
  split at hv
  · rename_i ks gs r' bs' R' p
    obtain ⟨h1, h2, h3⟩ := hv
    obtain ⟨q3, q4⟩ := litP_iff.1 h3
    clear h3
    subst q4
    obtain ⟨rfl, rfl⟩ := p
    simp only [Bool.and_eq_true] at q3
    obtain ⟨⟨⟨⟨a1, a2⟩, a4⟩, a5⟩, a6⟩ := q3
    have a5 := Nat.eq_of_beq_eq_true a5
    have a6 := Nat.eq_of_beq_eq_true a6
    exact ⟨ks, gs, blkE_expo a5 a6 h2 hok, a1, a2, (resN_mapN hro).symm.trans h1.symm, hro⟩
  · rename_i p; exact p.elim
  · cases hv

def lastK (K : AX → AS → Prop) : AX → AS → Prop
  | .normal, _ => False
  | e, s => K e s
/-- A loop, out of a run for each of its heads. -/
theorem AWPl.runLoop {T : TT} (hT : T.ok P) (hfol : P.follows .mixedOrders = true) {rd : Bool} {nt xn : Nat} {c : Code} {K : AX → AS → Prop} {ι : Type} (S : ι → CutS) (μ : ι → Nat) (fuel kb : Nat) (h0 : ∀ (i : ι) (Q : AX → AS → Prop), (∀ i', μ i' < μ i → Q .normal (S i').st) → (∀ e s, lastK K e s → Q e s) → Hn P)
    (hE : ∀ i, xC P T fuel rd nt xn kb c (S i).st (h0 i (fun e s' => (e = .normal ∧ ∃ i', s' = (S i').st ∧ μ i' < μ i) ∨ lastK K e s') (fun i' hm => .inl ⟨rfl, i', rfl, hm⟩) fun _ _ hk => .inr hk) (cutK xn fun e s' => (e = .normal ∧ ∃ i', s' = (S i').st ∧ μ i' < μ i) ∨ lastK K e s') =
      (h0 i (fun e s' => (e = .normal ∧ ∃ i', s' = (S i').st ∧ μ i' < μ i) ∨ lastK K e s') (fun i' hm => .inl ⟨rfl, i', rfl, hm⟩) fun _ _ hk => .inr hk).T) (i0 : ι) : AWPl P rd nt xn c (S i0).st K :=
  AWPl.loopI (fun i => (S i).st) (fun _ => rfl) μ (fun i => (AWP.cutEndR (Q := fun e s' => (e = .normal ∧ ∃ i', s' = (S i').st ∧ μ i' < μ i) ∨ lastK K e s') ((xC_sound hT hfol fuel _ _ _ _ _ _ _ _ ((hE i).mpr (Hn.T_ok _))).ex fun e s' h' hv => cutK_sound hv)).mono fun e s' hq => by
    cases e with
    | normal =>
      rcases hq with ⟨_, hq⟩ | hq
      · exact hq
      · exact hq.elim
    | exit id =>
      rcases hq with ⟨hq, _⟩ | hq
      · cases hq
      · exact hq
    | ret =>
      rcases hq with ⟨hq, _⟩ | hq
      · cases hq
      · exact hq) i0
end
/-- The n-th loop's body in some code. -/
def loopsOf : Code → List Code
  | .seq x y => loopsOf x ++ loopsOf y
  | .cond _ x y => loopsOf x ++ loopsOf y
  | .block _ c => loopsOf c
  | .scope c => loopsOf c
  | .loop c => c :: loopsOf c
  | .rangeFunc _ _ a b => loopsOf a ++ loopsOf b
  | _ => []
end Go.Vx

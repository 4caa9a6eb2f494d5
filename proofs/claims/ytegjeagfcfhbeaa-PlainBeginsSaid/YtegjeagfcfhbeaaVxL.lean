/- VxL: calls in place, rounds of loops over functions, in the abstract. No program. -/
import Derived.Test.YtegjeagfcfhbeaaVxC
import Derived.Test.YtegjeagfcfhbeaaVxIb
namespace Go.Vx
set_option linter.unusedVariables false
set_option linter.unusedSimpArgs false
open Go.RowKit Go.Bw

def enumT : Nat → List D → Tr D
  | _, [] => .e
  | i, d :: r => (enumT (i + 1) r).set i (some d)
theorem enumT_get : ∀ (ds : List D) (i t : Nat) (d : D), (enumT i ds).get t = some d → i ≤ t ∧ ds[t - i]? = some d
  | [], i, t, d, h => by cases h
  | x :: r, i, t, d, h => by
    rcases Tr.of_set h with ⟨rfl, hv⟩ | ⟨e, h⟩
    · cases hv; exact ⟨Nat.le_refl _, by simp⟩
    · obtain ⟨h1, h2⟩ := enumT_get r (i + 1) t d h
      exact ⟨by omega, by rw [show t - i = (t - (i + 1)) + 1 by omega, List.getElem?_cons_succ]; exact h2⟩

/-- What a part of a run that is carried out in another frame may change. -/
def Cx.sub (cx : Cx) (E : Env) (s : AS) (w : World) (nt xn : Nat) : Cx := ⟨w.heap.size, w, nt, cx.O, fun x => w.heap.size ≤ x ∨ ownOf s E.φ x, fun _ h => .inl h, xn⟩

section
variable {P : Program} {cx : Cx} {E E' : Env} {s : AS} {a : Act} {w : World} {i : Nat} {o : Oper} {T : TT} {F : Fence} {n : Nat} {rd : Bool} {nt kb : Nat}

/-- Another frame is entered. -/
theorem SR.enter (h : SR cx E s a w) {tm : Tr D} {nx nt xn : Nat} {a' : Act} (hnx : ∀ g, E.nm g → g < nx) (hfr : ∀ t d, tm.get t = some d → ∃ u, a'.tmps[t]? = some u ∧ RD E w d u) (hsz : nt ≤ a'.tmps.size) (hdf : a'.defers = []) :
    SR (cx.sub E s w nt xn) E { tm := tm, hp := s.hp, nx := nx, us := [] } a' w :=
  { fr := hfr, sz := hsz, df := hdf ▸ Marks.nil _ _ _, hp := h.hp, lp := h.lp, inj := h.inj, lt := h.lt, low := fun x hx => .inr hx, base := h.base, bel := Fr.refl _ _, nm := fun g hg => .inl (hnx g hg), szB := Nat.le_refl _ }
theorem SR.below (h : SR cx E s a w) {i : Nat} (hus : ∀ k ∈ s.us, k < i) : ∀ g, E.nm g → g < s.nx + 8 * (i + 1) := fun g hg => by
  rcases h.nm g hg with h1 | ⟨j, hj, h1, h2⟩
  · omega
  · have := hus j hj; omega
/-- Back in the frame. -/
theorem SR.back (h : SR cx E s a w) {s' : AS} {a' : Act} {w' : World} {nt xn : Nat} (h' : SR (cx.sub E s w nt xn) E' s' a' w') (hst : Stp E E' w w') (hown : ∀ b, E.own b → E'.own b) (hold : ∀ x, x < w.heap.size → ownOf s' E'.φ x → ownOf s E.φ x) (hu : s'.us = []) :
    SR cx E' { tm := s.tm, hp := s'.hp, nx := s'.nx, us := [] } a w' ∧ Mut s { tm := s.tm, hp := s'.hp, nx := s'.nx, us := [] } E E' w w' := by
  have hheap : ∀ b, b < w.heap.size → ¬ ownOf s E.φ b → w'.heap[b]? = w.heap[b]? := fun b hb hn => h'.bel.block b hb fun hm => by
    rcases hm with hm | hm
    · exact absurd hb (Nat.not_lt_of_le hm)
    · exact hn hm
  have hmc : ∀ x, (cx.sub E s w nt xn).M x → cx.M x := fun x hx => by
    rcases hx with hx | hx
    · exact cx.hM x (Nat.le_trans h.szB hx)
    · exact h.low x hx
  refine ⟨{ fr := fun t d hd => by obtain ⟨u, hu, hr⟩ := h.fr t d hd; exact ⟨u, hu, hr.step hst⟩
            sz := h.sz
            df := h.df.step hown fun b hb hd => hheap b (h.lt b hb) (h.unmarked hd)
            hp := h'.hp, lp := h'.lp, inj := h'.inj, lt := h'.lt
            low := fun x hx => hmc x (h'.low x hx)
            base := fun x hx => hown x (h.base x hx)
            bel := h.bel.trans (h'.bel.mono hmc)
            nm := fun g hg => .inl (by
              rcases h'.nm g hg with h1 | ⟨j, hj, _⟩
              · exact h1
              · rw [hu] at hj; cases hj)
            szB := Nat.le_trans h.szB hst.size }, hown, hheap, hold⟩

/-! ### a call in place -/
/-- A call whose callee is carried out in the middle of the run. -/
structure inlP (P : Program) (T : TT) (s : AS) (i : Nat) (ds : List D) (f : FuncId) (K : D → AS → Prop) : Prop where
  h : ∃ fn c rs, P.funcs[f]? = some fn ∧ fn.body = some c ∧ fn.results = ⟨rs⟩ ∧ (fn.name == "runtime.NumGoroutine") = false ∧
    AWP P false fn.ntmps (s.nx + 8 * (i + 1)) c { tm := enumT 0 ds, hp := s.hp, nx := s.nx + 8 * (i + 1), us := [] } fun e s' => (e = .normal ∨ e = .ret) ∧ vcRes T s' rs fun l => K (resD l) { tm := s.tm, hp := s'.hp, nx := s'.nx, us := [] }

theorem args_fr {ds : List D} {args : List Value} {ntm : Nat} (hl : args.length = ds.length) (ha : ∀ (j : Nat) d u, ds[j]? = some d → args[j]? = some u → RD E w d u) :
    ∀ t d, (enumT 0 ds).get t = some d → ∃ u, (args.toArray ++ Array.replicate ntm undef)[t]? = some u ∧ RD E w d u := fun t d hd => by
  obtain ⟨_, h2⟩ := enumT_get ds 0 t d hd
  have hlt : t < args.length := by rw [hl]; have := (List.getElem?_eq_some_iff.1 h2).1; simpa using this
  refine ⟨args[t], ?_, ha t d _ (by simpa using h2) (List.getElem?_eq_getElem hlt)⟩
  rw [Array.getElem?_append_left (by simpa using hlt)]
  simp [hlt]

theorem inl_sound (hT : T.ok P) (h : SR cx E s a w) (hus : ∀ k ∈ s.us, k < i) {ds : List D} {f : FuncId} {K : D → AS → Prop} (hv : inlP P T s i ds f K) {args : List Value} (hl : args.length = ds.length) (ha : ∀ (j : Nat) d u, ds[j]? = some d → args[j]? = some u → RD E w d u) :
    FnOk P f ∧ Calls P f args.toArray w fun e w' => ∃ r s' E' v, e = .returned v ∧ K r s' ∧ s'.us = [] ∧ s'.tm = s.tm ∧ SR cx E' s' a w' ∧ Stp E E' w w' ∧ Mut s s' E E' w w' ∧ RD E' w' r v := by
  obtain ⟨fn, c, rs, h1, h2, h3, h4, h5⟩ := hv.h
  refine ⟨⟨fn, h1, by rw [h2]; rfl, h4⟩, ?_⟩
  refine (fn_core (Φ := fun l s' => K (resD l) { tm := s.tm, hp := s'.hp, nx := s'.nx, us := [] }) hT h1 h2 h3 h5 (cx := cx.sub E s w fn.ntmps (s.nx + 8 * (i + 1))) (E := E) rfl (Nat.le_refl _) rfl (h.enter (h.below hus) (args_fr hl ha) (by simp; omega) rfl)).mono ?_
  rintro e w' ⟨l, s', E', a', v, rfl, hK, hu, hs', _, hst, hown, hold, hr⟩
  have hst := hst.full (h.below hus)
  obtain ⟨b1, b2⟩ := h.back hs' hst hown hold hu
  exact ⟨_, _, E', v, rfl, hK, rfl, rfl, b1, hst, b2, hr⟩

/-! ### a round of a loop over a function -/
def isReady : LoopState → Bool
  | .ready => true
  | _ => false
def isBusy : LoopState → Bool
  | .busy => true
  | _ => false
def jumpOf : AX → Option Code
  | .normal => none
  | .ret => some .ret
  | .exit id => some (.exit id)
def isNormal : AX → Bool
  | .normal => true
  | _ => false
/-- The record kept at k turns. -/
def recP (s : AS) (k g : Nat) (ok : LRec → Bool) (to : LRec → LRec) (K : LRec → AS → Prop) : Prop :=
  optP (s.lat k) fun p => chkP (Nat.beq p.1 g && ok p.2) (K p.2 { s with hp := s.hp.set k (some (g, .l (to p.2))) })
def setPs : List Tmp → List D → Tr D → Tr D
  | t :: ts, d :: ds, tm => setPs ts ds (tm.set t (some d))
  | _, _, tm => tm
/-- What must be shown of a round. -/
def yldP (P : Program) (s : AS) (i k g : Nat) (ds : List D) (K : D → AS → Prop) : Prop :=
  optP (s.lat k) fun p => chkP (Nat.beq p.1 g && isReady p.2.st && Nat.beq ds.length p.2.params.size && p.2.params.toList.all fun t => Nat.blt t p.2.nt) (AWP P true p.2.nt (s.nx + 8 * (i + 1)) p.2.assign { tm := setPs p.2.params.toList ds p.2.tm, hp := s.hp, nx := s.nx + 8 * (i + 1), us := [] } fun e s1 => e = .normal ∧
    recP s1 k g (fun r => isReady r.st) (fun r => { r with st := .busy }) fun _ s2 => AWP P true p.2.nt (s.nx + 8 * (i + 1)) p.2.body s2 fun e s3 =>
      recP s3 k g (fun _ => true) (fun r => { r with st := bif isNormal e then .ready else .done, pend := jumpOf e }) fun _ s4 => K (.v (.bool (isNormal e))) { tm := s.tm, hp := s4.hp, nx := s4.nx, us := [] })

theorem recP_sound (h : SR cx E s a w) {k g : Nat} {ok : LRec → Bool} {to : LRec → LRec} {K : LRec → AS → Prop} (hv : recP s k g ok to K) : ∃ r b L, ok r = true ∧ E.nm g ∧ E.φ g = some b ∧ w.heap[b]? = some (.loop L) ∧ L.state = r.st ∧ L.pending = r.pend ∧
    ((∀ r, (to r).params = r.params ∧ (to r).assign = r.assign ∧ (to r).body = r.body ∧ (to r).nt = r.nt ∧ (to r).tm = r.tm) → ∀ (L' : Loop), L'.state = (to r).st → L'.pending = (to r).pend → L'.params = L.params → L'.assign = L.assign → L'.body = L.body → L'.tmps = L.tmps →
      ∃ s' E', s' = { s with hp := s.hp.set k (some (g, .l (to r))) } ∧ K r s' ∧ SR cx E' s' a (w.putObj b (.loop L')) ∧ Stp E E' w (w.putObj b (.loop L')) ∧ Mut s s' E E' w (w.putObj b (.loop L'))) := by
  obtain ⟨p, hp, hv⟩ := optP_iff.1 hv
  obtain ⟨hc, hK⟩ := chkP_iff.1 hv
  obtain ⟨g', r⟩ := p
  rw [Bool.and_eq_true] at hc
  obtain ⟨hg, hok⟩ := hc
  obtain rfl : g' = g := Nat.eq_of_beq_eq_true hg
  obtain ⟨h1, b, L, h2, h3, h4, h5, h6, h7, h8, h9, h10, h11, h12⟩ := h.lp k g' r hp
  refine ⟨r, b, L, hok, h1, h2, h5, h6, h7, fun hto L' e1 e2 e3 e4 e5 e6 => ?_⟩
  obtain ⟨t1, t2, t3, t4, t5⟩ := hto r
  have hsh : (w.putObj b (.loop L')).shape? b = w.shape? b := by
    unfold World.shape?; rw [World.putObj_heap_same h4, h5]
  obtain ⟨q1, q2, q3⟩ := h.storeG (i := 0) (o' := .l (to r)) (AS.lat_iff.1 hp) h2 s.us (fun x hx => hx) (grownBy_putObj' w b (.loop L')) (by simp) hsh fun E' hst hnm hφ hown => ⟨hnm _ h1, b, L', by rw [hφ]; exact h2, hown, by simpa using h4, World.putObj_heap_same h4, e1, e2, by rw [e3, h8, t1], by rw [e4, h9, t2], by rw [e5, h10, t3], by rw [e6, t4]; exact h11, fun t d hd => by
    rw [t5] at hd
    obtain ⟨u, hu, hr⟩ := h12 t d hd
    exact ⟨u, by rw [e6]; exact hu, hr.step hst⟩⟩
  exact ⟨_, _, rfl, hK, q1, q2, q3⟩

theorem setPs_fr : ∀ (ts : List Tmp) (ds : List D) (us : List Value) (tm : Tr D) (tmps : Array Value), us.length = ds.length → ds.length = ts.length → (∀ t ∈ ts, t < tmps.size) → (∀ (j : Nat) d u, ds[j]? = some d → us[j]? = some u → RD E w d u) → (∀ t d, tm.get t = some d → ∃ u, tmps[t]? = some u ∧ RD E w d u) →
    ((ts.zip us).foldl (fun (tmps : Array Value) (p : Tmp × Value) => tmps.setIfInBounds p.1 p.2) tmps).size = tmps.size ∧ ∀ t d, (setPs ts ds tm).get t = some d → ∃ u, ((ts.zip us).foldl (fun (tmps : Array Value) (p : Tmp × Value) => tmps.setIfInBounds p.1 p.2) tmps)[t]? = some u ∧ RD E w d u
  | [], ds, us, tm, tmps, h1, h2, h3, h4, h5 => by
    have : ds = [] := List.eq_nil_of_length_eq_zero h2
    subst this
    exact ⟨rfl, h5⟩
  | t :: ts, [], us, tm, tmps, h1, h2, h3, h4, h5 => by simp at h2
  | t :: ts, d :: ds, [], tm, tmps, h1, h2, h3, h4, h5 => by simp at h1
  | t :: ts, d :: ds, u :: us, tm, tmps, h1, h2, h3, h4, h5 => by
    have ht := h3 t List.mem_cons_self
    obtain ⟨q1, q2⟩ := setPs_fr ts ds us (tm.set t (some d)) (tmps.setIfInBounds t u) (by simpa using h1) (by simpa using h2) (fun x hx => by simpa using h3 x (List.mem_cons_of_mem _ hx)) (fun j d' u' a1 a2 => h4 (j + 1) d' u' (by simpa using a1) (by simpa using a2)) (fun t' d' hd => by
      rcases Tr.of_set hd with ⟨rfl, hv⟩ | ⟨e, hd⟩
      · cases hv
        exact ⟨u, by simp [ht], h4 0 d u rfl rfl⟩
      · obtain ⟨u', hu', hr⟩ := h5 t' d' hd
        exact ⟨u', by rw [Array.getElem?_setIfInBounds_ne (Ne.symm e)]; exact hu', hr⟩)
    exact ⟨by rw [List.zip_cons_cons, List.foldl_cons]; simpa using q1, by rw [List.zip_cons_cons, List.foldl_cons]; exact q2⟩

theorem zip_foldl (ts : Array Tmp) (us : Array Value) (tmps : Array Value) : (ts.zip us).foldl (fun tmps (t, a) => tmps.setIfInBounds t a) tmps = (ts.toList.zip us.toList).foldl (fun (tmps : Array Value) (p : Tmp × Value) => tmps.setIfInBounds p.1 p.2) tmps := by
  rw [← Array.foldl_toList, Array.toList_zip]

theorem putObj_putObj (w : World) (b : Nat) (o o' : Obj) : (w.putObj b o).putObj b o' = w.putObj b o' := by
  simp [World.putObj]

/-- A round is carried out. -/
theorem yld_sound (hF : FOK F) (h : SR cx E s a w) (hus : ∀ k ∈ s.us, k < i) {k g : Nat} {ds : List D} {K : D → AS → Prop} (hv : yldP P s i k g ds K) {us : List Value} (hl : us.length = ds.length) (ha : ∀ (j : Nat) d u, ds[j]? = some d → us[j]? = some u → RD E w d u) {b : Nat} (hb : E.φ g = some b) :
    ∃ f tmps assign body, (Instr.yield b us.toArray).run P w = .ok (.round b f tmps assign body) w ∧ RoundIn F n P b f tmps assign body w fun e w' => ∃ r s' E' v, e = .returned v ∧ K r s' ∧ s'.us = [] ∧ s'.tm = s.tm ∧ SR cx E' s' a w' ∧ Stp E E' w w' ∧ Mut s s' E E' w w' ∧ RD E' w' r v := by
  obtain ⟨p, hp, hv⟩ := optP_iff.1 hv
  obtain ⟨hc, hv⟩ := chkP_iff.1 hv
  obtain ⟨g', r⟩ := p
  simp only [Bool.and_eq_true] at hc
  obtain ⟨⟨⟨hg, hrdy⟩, hlen⟩, hps⟩ := hc
  obtain rfl : g' = g := Nat.eq_of_beq_eq_true hg
  have hlen := Nat.eq_of_beq_eq_true hlen
  obtain ⟨h1, b', L, h2, h3, h4, h5, h6, h7, h8, h9, h10, h11, h12⟩ := h.lp k g' r hp
  rw [hb] at h2; cases h2
  dsimp only at hv hlen hps
  have hsz : us.toArray.size = L.params.size := by rw [h8]; simpa [hl] using hlen
  refine ⟨L.fn, _, L.assign, L.body, run_yield h5 hsz, roundIn_of_wpIn (hF.fn _) ?_⟩
  rw [zip_foldl]
  rw [h8, h9, h10]
  obtain ⟨q1, q2⟩ := setPs_fr r.params.toList ds us r.tm L.tmps hl (by simpa using hlen) (fun t ht => by
    have := List.all_eq_true.1 hps t ht
    exact Nat.lt_of_lt_of_le (Nat.le_of_ble_eq_true this) h11) ha h12
  have e0 := h.enter (nt := r.nt) (xn := s.nx + 8 * (i + 1)) (nx := s.nx + 8 * (i + 1)) (a' := { tmps := (r.params.toList.zip us).foldl (fun (tmps : Array Value) (p : Tmp × Value) => tmps.setIfInBounds p.1 p.2) L.tmps, defers := [] }) (h.below hus) q2 (by rw [q1]; exact h11) rfl
  refine hv.run (F.inRound b) n (cx.sub E s w r.nt (s.nx + 8 * (i + 1))) E _ w _ (hF.inRound b) ⟨fun hh => (by cases hh), Nat.le_refl _⟩ rfl rfl e0 ?_
  rintro e s1 E1 a1 w1 ⟨rfl, hK⟩ hu1 hs1 hst1 hmut1
  show ∃ w₂, _
  obtain ⟨r1, b1, L1, hok1, hn1, hφ1, hb1, hL1, hL1', hgo⟩ := recP_sound hs1 hK
  have hg' : g' < s.nx + 8 * (i + 1) := h.below hus g' h1
  have hφ1' : E1.φ g' = some b := (hst1.φ g' hg' h1).trans hb
  rw [hφ1'] at hφ1; cases hφ1
  have hr1 : L1.state = .ready := by
    rw [hL1]
    revert hok1
    cases r1.st <;> simp [isReady]
  obtain ⟨s2, E2, hs2e, hK2, hs2, hst2, hmut2⟩ := hgo (fun _ => ⟨rfl, rfl, rfl, rfl, rfl⟩) { L1 with state := .busy } rfl hL1' rfl rfl rfl rfl
  refine ⟨_, run_beginRound hb1 hr1, ?_⟩
  have hu2 : s2.us = [] := by rw [hs2e]; exact hu1
  refine hK2.run (F.inRound b) n (cx.sub E s w r.nt (s.nx + 8 * (i + 1))) E2 a1 _ _ (hF.inRound b) ⟨fun hh => (by cases hh), Nat.le_refl _⟩ rfl hu2 hs2 ?_
  intro e s3 E3 a3 w3 hK3 hu3 hs3 hst3 hmut3
  obtain ⟨r3, b3, L3, _, hn3, hφ3, hb3, hL3, hL3', hgo3⟩ := recP_sound hs3 hK3
  have hst13 : StpX (s.nx + 8 * (i + 1)) E E3 w w3 := (hst1.trans (hst2.x _)).trans hst3
  have hφ3' : E3.φ g' = some b := (hst13.φ g' hg' h1).trans hb
  rw [hφ3'] at hφ3; cases hφ3
  obtain ⟨s4, E4, hs4e, hK4, hs4, hst4, hmut4⟩ := hgo3 (fun _ => ⟨rfl, rfl, rfl, rfl, rfl⟩) { L3 with state := if (jumpOf e).isNone then .ready else .done, pending := jumpOf e } (by cases e <;> rfl) rfl rfl rfl rfl rfl
  have hu4 : s4.us = [] := by rw [hs4e]; exact hu3
  have hM := (((hmut1.trans hmut2 hst1.size).trans hmut3 (hst1.trans (hst2.x _)).size)).trans hmut4 hst13.size
  have hstf : Stp E E4 w _ := (hst13.trans (hst4.x _)).full (h.below hus)
  obtain ⟨c1, c2⟩ := h.back hs4 hstf hM.own (fun x hx ho => hM.old x hx ho) hu4
  have fin : ∃ v w', (Instr.endRound b (jumpOf e)).run P w3 = .ok v w' ∧ ∃ r s' E' v', Ending.returned v = .returned v' ∧ K r s' ∧ s'.us = [] ∧ s'.tm = s.tm ∧ SR cx E' s' a w' ∧ Stp E E' w w' ∧ Mut s s' E E' w w' ∧ RD E' w' r v' :=
    ⟨_, _, run_endRound (jumpOf e) hb3, _, _, E4, _, rfl, hK4, rfl, rfl, c1, hstf, c2, by
      cases e <;> exact .v _ rfl⟩
  cases e <;> exact fin
end
end Go.Vx

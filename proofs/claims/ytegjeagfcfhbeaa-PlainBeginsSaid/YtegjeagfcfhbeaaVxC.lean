/- VxC: code, in the abstract; how a function is left. No program. -/
import Derived.Test.YtegjeagfcfhbeaaVxV
namespace Go.Vx
set_option linter.unusedVariables false
set_option linter.unusedSimpArgs false
open Go.RowKit Go.Bw

inductive AX
  | normal
  | exit (id : Nat)
  | ret
def AX.ex : AX → Exit
  | .normal => .normal
  | .exit id => .exit id
  | .ret => .ret

/-- The code, from the state s on, ends as K says. rd: it may be carried out in a round of a loop over a function. -/
structure AWP (P : Program) (rd : Bool) (nt xn : Nat) (c : Code) (s : AS) (K : AX → AS → Prop) : Prop where
  run : ∀ (F : Fence) (n : Nat) (cx : Cx) (E : Env) (a : Act) (w : World) (Q : Exit → Act → World → Prop), FOK F → ((rd = false → F.round = none) ∧ cx.xn ≤ xn) → cx.nt = nt → s.us = [] → SR cx E s a w →
    (∀ e s' E' a' w', K e s' → s'.us = [] → SR cx E' s' a' w' → StpX cx.xn E E' w w' → Mut s s' E E' w w' → Q e.ex a' w') → c.wpIn F n P Q a w

/-- What a function's results come to. -/
def vcRes (T : TT) (s : AS) : List ResultVar → (List D → Prop) → Prop
  | [], K => K []
  | .tmp t :: r, K => optP (s.tm.get t) fun d => vcRes T s r fun l => K (d :: l)
  | .cell t ty :: r, K => (evLoad T s ty (.tmp t)).vc fun v _ => optP v fun d => vcRes T s r fun l => K (d :: l)
def resD : List D → D
  | [d] => d
  | l => .tup l


section
variable {P : Program} {T : TT} {rd : Bool} {nt kb xn : Nat}

theorem AWP.mono {c : Code} {s : AS} {K K' : AX → AS → Prop} (h : AWP P rd nt xn c s K) (hk : ∀ e s', K e s' → K' e s') : AWP P rd nt xn c s K' :=
  ⟨fun F n cx E a w Q hF hr hn hu hs hQ => h.run F n cx E a w Q hF hr hn hu hs fun e s' E' a' w' hK => hQ e s' E' a' w' (hk e s' hK)⟩

theorem res_run (hT : T.ok P) {cx : Cx} {E : Env} {s : AS} {a : Act} {w : World} (h : SR cx E s a w) : ∀ (rs : List ResultVar) (K : List D → Prop), vcRes T s rs K →
    ∃ l vs, K l ∧ vs.length = l.length ∧ (∀ (j : Nat) d u, l[j]? = some d → vs[j]? = some u → RD E w d u) ∧
      (rs.mapM (fun x : ResultVar => match x with | .tmp t => (pure (a.tmps.getD t undef) : Sem Value) | .cell p t => do loadVar t (← asAddr (a.tmps.getD p undef)))).run P w = .ok vs w
  | [], K, hv => ⟨[], [], hv, rfl, fun j d u hj => by simp at hj, rfl⟩
  | .tmp t :: r, K, hv => by
    obtain ⟨d, hd, hv⟩ := optP_iff.1 hv
    obtain ⟨l, vs, h1, h2, h3, h4⟩ := res_run hT h r _ hv
    obtain ⟨u, hu, hr⟩ := h.fr t d hd
    refine ⟨d :: l, u :: vs, h1, by simp [h2], fun j d' u' a1 a2 => ?_, ?_⟩
    · cases j with
      | zero => simp at a1 a2; subst a1 a2; exact hr
      | succ j => exact h3 j d' u' (by simpa using a1) (by simpa using a2)
    · have e : a.tmps.getD t undef = u := by simp [hu]
      rw [List.mapM_cons]
      simp only [Sem.run_bind, Sem.run_pure, Result.andThen_ok, e, h4]
  | .cell t ty :: r, K, hv => by
    obtain ⟨v, up, he, hv⟩ := Ev.vc_run hv
    obtain ⟨d, rfl, hv⟩ := optP_iff.1 hv
    obtain ⟨l, vs, h1, h2, h3, h4⟩ := res_run hT h r _ hv
    obtain ⟨E', w', _, _, _, u, hu, hr⟩ := load_sound (i := 0) (o := ⟨none, .load ty (.tmp t), 0, "", #[], none⟩) hT h rfl he
    -- a load leaves the world as it is
    unfold evLoad at he
    split at he
    case h_2 => exact he.elim
    case h_1 ti dx hti hx =>
    split at he
    case h_2 => exact he.elim
    case h_1 p hp =>
    obtain ⟨c, cells, off⟩ := p
    obtain ⟨hc, he⟩ := he
    obtain ⟨b, ob, hu', hv'⟩ := view_sound h (h.eval hx) hp hc
    have hex : a.tmps.getD t undef = .pointer (some ⟨b, ob + off, none⟩) := hu'
    have hld : ∃ u, (loadVar ty ⟨b, ob + off, none⟩).run P w = .ok u w ∧ RD E w d u := by
      unfold evLoadC at he
      cases hrow : ti.desc.isRow with
      | true =>
        simp only [hrow, cond_true] at he
        obtain ⟨hle, h5, rfl⟩ := he
        cases h5
        have hle := Nat.le_of_ble_eq_true hle
        obtain ⟨us, hl, hrg, h6, hd⟩ := hv'.seg hle
        exact ⟨_, run_loadVar_mid w b _ ty us ti.desc hrg (TT.info hT hti).1 hrow (by rw [(TT.info hT hti).2, hl]), .agg _ _ (by simp [hl]; omega) hd h6⟩
      | false =>
        simp only [hrow, cond_false] at he
        obtain ⟨d', hd', h5, rfl⟩ := he
        cases h5
        obtain ⟨u, hu, _, hr⟩ := hv' off _ hd'
        refine ⟨u, ?_, hr⟩
        simp only [loadVar, Sem.run_bind, isAgg_run hT hti w, Result.andThen_ok, hrow, Bool.false_eq_true, if_false]
        simp [Go.load, Sem.run, hu]
    obtain ⟨u, hu, hr⟩ := hld
    refine ⟨d :: l, u :: vs, h1, by simp [h2], fun j d' u' a1 a2 => ?_, ?_⟩
    · cases j with
      | zero => simp at a1 a2; subst a1 a2; exact hr
      | succ j => exact h3 j d' u' (by simpa using a1) (by simpa using a2)
    · have has : (asAddr (a.tmps.getD t undef)).run P w = .ok ⟨b, ob + off, none⟩ w := by rw [hex]; rfl
      rw [List.mapM_cons]
      simp only [Sem.run_bind, Sem.run_pure, Result.andThen_ok, has, hu, h4]


/-- A mark is come to: its block is shut. -/
theorem SR.unmark {cx : Cx} {E : Env} {s : AS} {a : Act} {w : World} (h : SR cx E s a w) {b : Nat} {bs : List Nat} (hn : (b :: bs).Nodup)
    (hb : ∀ x ∈ b :: bs, cx.B ≤ x ∧ E.own x ∧ w.heap[x]? = some (.deferred (some []))) :
    SR cx E s { a with defers := bs.map (fun b => { target := .collected b, args := #[] }) } (w.putObj b (.deferred none)) ∧ Stp E E w (w.putObj b (.deferred none)) ∧ ∀ x ∈ bs, cx.B ≤ x ∧ E.own x ∧ (w.putObj b (.deferred none)).heap[x]? = some (.deferred (some [])) := by
  obtain ⟨h1, h2, h3⟩ := hb b List.mem_cons_self
  have hnk : ¬ ownOf s E.φ b := h.unmarked h3
  have hsh : ∀ x, (w.putObj b (.deferred none)).shape? x = w.shape? x := fun x => by
    by_cases e : x = b
    · subst e
      have hlt := (Array.getElem?_eq_some_iff.1 h3).1
      unfold World.shape?; rw [World.putObj_heap_same hlt, h3]
    · exact shape_of_block (World.putObj_heap_other e)
  have hst : Stp E E w (w.putObj b (.deferred none)) := ⟨fun _ h => h, fun _ _ => rfl, by simp, fun x _ hx => ⟨hx, World.putObj_heap_other (fun e => by subst e; exact hx h2)⟩, fun x _ => hsh x⟩
  have hrest : ∀ x ∈ bs, cx.B ≤ x ∧ E.own x ∧ (w.putObj b (.deferred none)).heap[x]? = some (.deferred (some [])) := fun x hx => by
    obtain ⟨c1, c2, c3⟩ := hb x (List.mem_cons_of_mem _ hx)
    refine ⟨c1, c2, ?_⟩
    rw [World.putObj_heap_other (fun e => by subst e; exact (List.nodup_cons.1 hn).1 hx)]; exact c3
  have hob : ∀ {k g o}, s.gat k = some (g, o) → OB E (w.putObj b (.deferred none)) g o := fun {k g o} hk => (h.ob hk).step hst fun x hx => ⟨h.own_of ⟨k, g, o, hk, hx⟩, World.putObj_heap_other (fun e => by subst e; exact hnk ⟨k, g, o, hk, hx⟩)⟩
  refine ⟨?_, hst, hrest⟩
  exact {
    fr := fun t d hd => by obtain ⟨u, hu, hr⟩ := h.fr t d hd; exact ⟨u, hu, hr.step hst⟩
    sz := h.sz
    df := ⟨bs, rfl, (List.nodup_cons.1 hn).2, hrest⟩
    hp := fun k g b' hk => hob (AS.at_iff.1 hk)
    lp := fun k g r hk => hob (AS.lat_iff.1 hk)
    inj := h.inj
    lt := fun x hx => by simpa using h.lt x hx
    low := h.low
    base := h.base
    bel := h.bel.trans ⟨rfl, rfl, rfl, by simp, fun k hk hm => World.putObj_heap_other (fun e => by subst e; exact hm (cx.hM _ h1)), fun k _ => hsh k⟩
    nm := h.nm
    szB := by simpa using h.szB }

/-- A function is left, marks and all. -/
theorem leave {cx : Cx} {E : Env} {s : AS} {fn : Func} {F : Fence} {n : Nat} {R : Ending → World → Prop} : ∀ (bs : List Nat) (a : Act) (w : World), SR cx E s a w → a.defers = bs.map (fun b => { target := .collected b, args := #[] }) → bs.Nodup → (∀ x ∈ bs, cx.B ≤ x ∧ E.own x ∧ w.heap[x]? = some (.deferred (some []))) →
    (∀ w', SR cx E s { a with defers := [] } w' → Stp E E w w' → ∃ v, (results fn a.tmps).run P w' = .ok v w' ∧ R (.returned v) w') → LeavesInM F n P fn a.tmps R a.defers .returning w
  | [], a, w, h, hd, hn, hb, hR => by
    rw [hd]
    have : a = { a with defers := [] } := by cases a; simp at hd; subst hd; rfl
    exact hR w (this ▸ h) (Stp.refl E w)
  | b :: bs, a, w, h, hd, hn, hb, hR => by
    rw [hd]
    obtain ⟨h1, h2, h3⟩ := h.unmark hn hb
    refine ⟨by simp, .inl ⟨b, _, rfl, run_takeDeferred (hb b List.mem_cons_self).2.2, ?_⟩⟩
    exact leave bs { a with defers := bs.map (fun b => { target := .collected b, args := #[] }) } _ h1 rfl (List.nodup_cons.1 hn).2 h3 fun w' hs hst => hR w' hs (h2.trans hst)

/-- A function, out of its body, in the middle of a run: what it is handed lies in the state's heap. -/
theorem fn_core (hT : T.ok P) {f : FuncId} {fn : Func} {c : Code} (hf : P.funcs[f]? = some fn) (hb : fn.body = some c) {rs : List ResultVar} (hrs : fn.results = ⟨rs⟩) {s0 : AS} {Φ : List D → AS → Prop}
    (h : AWP P false fn.ntmps xn c s0 fun e s' => (e = .normal ∨ e = .ret) ∧ vcRes T s' rs fun l => Φ l s') {cx : Cx} {E : Env} {w : World} {args : List Value} (hn : cx.nt = fn.ntmps) (hx : cx.xn ≤ xn) (hu : s0.us = [])
    (hs : SR cx E s0 { tmps := args.toArray ++ Array.replicate (fn.ntmps - args.toArray.size) undef, defers := [] } w) :
    Calls P f args.toArray w fun e w' => ∃ l s' E' a' v, e = .returned v ∧ Φ l s' ∧ s'.us = [] ∧ SR cx E' s' a' w' ∧ a'.defers = [] ∧ StpX cx.xn E E' w w' ∧ (∀ b, E.own b → E'.own b) ∧ (∀ x, x < w.heap.size → ownOf s' E'.φ x → ownOf s0 E.φ x) ∧ RD E' w' (resD l) v := by
  refine callsIn_wide.1 (callsIn_of_wp_marks (n := 0) hf hb trivial (h.run Fence.wide 0 cx E _ w _ FOK.wide ⟨fun _ => rfl, hx⟩ hn hu hs ?_))
  rintro e s' E' a' w' ⟨he, hv⟩ hu' hs' hst hmut
  obtain ⟨bs, d1, d2, d3⟩ := hs'.df
  have goal : LeavesInM Fence.wide 0 P fn a'.tmps (fun e w' => ∃ l s' E' a' v, e = .returned v ∧ Φ l s' ∧ s'.us = [] ∧ SR cx E' s' a' w' ∧ a'.defers = [] ∧ StpX cx.xn E E' w w' ∧ (∀ b, E.own b → E'.own b) ∧ (∀ x, x < w.heap.size → ownOf s' E'.φ x → ownOf s0 E.φ x) ∧ RD E' w' (resD l) v) a'.defers .returning w' := by
    refine leave bs a' w' hs' d1 d2 d3 fun w2 hs2 hst2 => ?_
    obtain ⟨l, vs, hK, hl, hrd, hrun⟩ := res_run hT hs2 _ _ hv
    refine ⟨if h : vs.toArray.size = 1 then vs.toArray[0] else .tuple vs.toArray, ?_, l, s', E', _, _, rfl, hK, hu', hs2, rfl, hst.trans (hst2.x _), hmut.own, hmut.old, ?_⟩
    · unfold results
      rw [Array.mapM_eq_mapM_toList, hrs]
      simp only [Sem.run_bind, Sem.run_map]
      change ((Sem.run P (List.mapM (fun x : ResultVar => match x with | .tmp t => (pure (a'.tmps.getD t undef) : Sem Value) | .cell p t => do loadVar t (← asAddr (a'.tmps.getD p undef))) rs) w2).andThen _).andThen _ = _
      rw [hrun]
      rfl
    · cases vs with
      | nil =>
        have : l = [] := List.eq_nil_of_length_eq_zero hl.symm
        subst this; exact .tup [] [] rfl (by simp)
      | cons v vs =>
        cases vs with
        | nil =>
          cases l with
          | nil => simp at hl
          | cons d l =>
            have : l = [] := List.eq_nil_of_length_eq_zero (by simpa using hl.symm)
            subst this
            exact hrd 0 d v rfl rfl
        | cons v2 vs =>
          cases l with
          | nil => simp at hl
          | cons d l => cases l with
            | nil => simp at hl
            | cons d2 l =>
              rw [dif_neg (by simp)]
              exact .tup _ _ hl hrd
  rcases he with rfl | rfl <;> exact goal
end
end Go.Vx

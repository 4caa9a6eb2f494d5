/- VxM: regions in the text's order, loops over functions, in the abstract. No program. -/
import Derived.Test.YtegjeagfcfhbeaaVxL
namespace Go.Vx
set_option linter.unusedVariables false
set_option linter.unusedSimpArgs false
open Go.RowKit Go.Bw

/-- The loop whose yield an operation calls, and its arguments. -/
def yldOf (s : AS) (o : Oper) : Option (Nat × Nat × List D) :=
  match o.op with
  | .call c => match c.callee with
    | .value x => match evO s x, evList s c.args.toList with
      | some (.yl k g), some ds => some (k, g, ds)
      | _, _ => none
    | _ => none
  | _ => none
/-- A call: by a contract, or in place. -/
structure callX (P : Program) (T : TT) (nt kb i : Nat) (o : Oper) (s : AS) (ds : List D) (f : FuncId) (K : AS → Prop) : Prop where
  h : callP P s ds f (s.nx + 8 * i) (s.nx + 8 * i) (fun v up => K { s with tm := putT s.tm o.dst v, hp := upH up s.hp, us := i :: s.us }) ∨ inlP P T s i ds f fun d s' => K { s' with tm := putT s'.tm o.dst (some d) }
/-- An append whose old slice stays of use: two outcomes. -/
structure ap2P (T : TT) (i : Nat) (o : Oper) (s : AS) (K : AS → Prop) : Prop where
  h : ∃ c v1 u1 v2 u2, o.op = .call c ∧ c.callee = .builtin .append ∧ app2 T s (s.nx + 8 * i) (s.nx + 8 * i) c.argTypes c.args = some (true, (v1, u1), (v2, u2)) ∧ K { s with tm := putT s.tm o.dst (some v1), hp := upH u1 s.hp, us := i :: s.us } ∧ K { s with tm := putT s.tm o.dst (some v2), hp := upH u2 s.hp, us := i :: s.us }
/-- What must be shown of an operation in the text's order. -/
def vcO (P : Program) (T : TT) (nt kb i : Nat) (o : Oper) (s : AS) (K : AS → Prop) : Prop :=
  match yldOf s o with
  | some p => yldP P s i p.1 p.2.1 p.2.2 fun d s' => K { s' with tm := putT s'.tm o.dst (some d) }
  | none => match callOf s o with
    | some p => callX P T nt kb i o s p.2 p.1 K
    | none => ap2P T i o s K ∨ (ev T s (s.nx + 8 * i) (s.nx + 8 * i) o).vc fun v up => K { s with tm := putT s.tm o.dst v, hp := upH up s.hp, us := i :: s.us }

def vcL (P : Program) (T : TT) (nt kb : Nat) (all : List Oper) : Nat → List Oper → AS → (AS → Prop) → Prop
  | _, [], s, K => K s
  | i, o :: r, s, K => chkP (dstOk nt o) (match o.guard with
    | none => vcO P T nt kb i o s fun s' => vcL P T nt kb all (i + 1) r s' K
    | some jw => match (all[jw.1]?).bind (·.dst) with
      | some t => match s.tm.get t with
        | some (.v (.bool b)) => brP b
          (bif jw.2 then vcO P T nt kb i o { s with tm := s.tm.set t (some (.v (.bool true))) } fun s' => vcL P T nt kb all (i + 1) r s' K
            else vcL P T nt kb all (i + 1) r { s with tm := putT (s.tm.set t (some (.v (.bool true)))) o.dst none, us := i :: s.us } K)
          (bif jw.2 then vcL P T nt kb all (i + 1) r { s with tm := putT (s.tm.set t (some (.v (.bool false)))) o.dst none, us := i :: s.us } K
            else vcO P T nt kb i o { s with tm := s.tm.set t (some (.v (.bool false))) } fun s' => vcL P T nt kb all (i + 1) r s' K)
        | _ => False
      | none => False)

/-- Behind a region. -/
def AS.fin (s : AS) (n : Nat) : AS := { s with nx := s.nx + 8 * n, us := [] }

section
variable {P : Program} {cx : Cx} {E E' : Env} {s : AS} {a : Act} {w : World} {i : Nat} {o : Oper} {T : TT} {F : Fence} {n : Nat} {rd : Bool} {nt kb xn : Nat}

theorem SR.know (h : SR cx E s a w) {t : Nat} {b c : Bool} (ht : s.tm.get t = some (.v (.bool b))) (hb : b = c) : SR cx E { s with tm := s.tm.set t (some (.v (.bool c))) } a w := by
  subst hb
  refine { h with fr := fun t' d hd => ?_ }
  rcases Tr.of_set hd with ⟨rfl, hv⟩ | ⟨_, hd⟩
  · cases hv; exact h.fr t' _ ht
  · exact h.fr t' d hd

theorem yielded_of (h : SR cx E s a w) {all : List Oper} {j t : Nat} {b : Bool} (hj : (all[j]?).bind (·.dst) = some t) (ht : s.tm.get t = some (.v (.bool b))) : yielded all.toArray a.tmps j = some b := by
  obtain ⟨u, hu, hr⟩ := h.fr t _ ht
  cases hr
  unfold yielded
  have e1 : ((all.toArray[j]?).bind (·.dst)) = some t := by simpa using hj
  rw [e1]
  simp only [Option.bind_some, hu]

theorem Mut.tm {s s' : AS} {E E' : Env} {w w' : World} (h : Mut s s' E E' w w') (tm tm' : Tr D) (us us' : List Nat) (nx nx' : Nat) : Mut { tm := tm, hp := s.hp, nx := nx, us := us } { tm := tm', hp := s'.hp, nx := nx', us := us' } E E' w w' := ⟨h.own, h.heap, h.old⟩

/-- An operation is carried out, in the text's order. -/
theorem vcO_sound (hF : FOK F) (hT : T.ok P) (h : SR cx E s a w) (hus : ∀ k ∈ s.us, k < i) (hdst : dstOk cx.nt o = true) {K : AS → Prop} (hv : vcO P T cx.nt kb i o s K) {next : Act → World → Prop} {Q : Exit → Act → World → Prop}
    (hn : ∀ s' E' a' w', K s' → SR cx E' s' a' w' → Stp E E' w w' → Mut s s' E E' w w' → (∀ k ∈ s'.us, k < i + 1) → next a' w') : o.wpIn F n P a w next Q := by
  have hi : i ∉ s.us := fun hh => Nat.lt_irrefl _ (hus i hh)
  have hus' : ∀ k ∈ i :: s.us, k < i + 1 := fun k hk => by
    rcases List.mem_cons.1 hk with rfl | hk
    · omega
    · have := hus k hk; omega
  unfold vcO at hv
  split at hv
  case h_1 p hp =>
    obtain ⟨k, g, ds⟩ := p
    unfold yldOf at hp
    split at hp
    case h_2 => cases hp
    case h_1 c ho =>
    split at hp
    case h_2 => cases hp
    case h_1 x hc =>
    split at hp
    case h_2 => cases hp
    case h_1 k g ds hx hds =>
    cases hp
    have hrx := h.eval hx
    obtain ⟨hl1, hl2⟩ := list_sound h _ _ hds
    generalize hux : a.eval x = ux at hrx
    cases hrx with
    | yl _ _ b hg hb =>
    obtain ⟨f, tmps, assign, body, hy, hrnd⟩ := yld_sound (n := n) hF h hus hv (us := c.args.toList.map a.eval) (by rw [hl1]) hl2 hb
    refine ⟨fun f _ => hF.fn f, ?_⟩
    have hrun : (o.semAt F.round a.eval).run P w = .ok (.round b f tmps assign body) w := by
      rw [Oper.semAt_eq _ _ _ (fun c' hc' => by rw [ho] at hc'; cases hc')]
      unfold execOp
      have e1 : #[] ++ c.args.map a.eval = (c.args.toList.map a.eval).toArray := by apply Array.ext'; simp
      simp only [ho, resolve, hc, Sem.run_bind, Deferred.ofValue, hux, Sem.run_pure, Result.andThen_ok, invoke, e1, hy]
    rw [hrun]
    have hnd : ∀ {n}, (F.depth.isSome = true → 1 ≤ n) := fun {n} hd => by rw [hF.dep] at hd; cases hd
    refine ⟨hnd, (yld_sound (n := n - 1) hF h hus hv (us := c.args.toList.map a.eval) (by rw [hl1]) hl2 hb |> fun ⟨f', tmps', assign', body', hy', hrnd'⟩ => ?_)⟩
    have he := hy.symm.trans hy'
    injection he with he _
    injection he with e1 e2 e3 e4 e5
    subst e2 e3 e4 e5
    refine hrnd'.mono ?_
    rintro e w' ⟨r, s', E', v, rfl, hK, hu, htm, hs', hst, hmut, hr⟩
    refine hn _ E' _ w' hK (putT_sound hs' hdst (v := some r) hr) hst ⟨hmut.own, hmut.heap, hmut.old⟩ (fun k hk => ?_)
    have hk : k ∈ s'.us := hk
    rw [hu] at hk; cases hk
  case h_2 hnone =>
  split at hv
  case h_1 p hp =>
    rcases hv.h with hv | hv
    · have hv' : vcOp P T s (s.nx + 8 * i) (s.nx + 8 * i) o fun v up => K { s with tm := putT s.tm o.dst v, hp := upH up s.hp, us := i :: s.us } := by unfold vcOp; rw [hp]; exact hv
      exact op_core hF hT h hi hv' fun v up E' w' u hK s1 s2 s3 hr => hn _ E' _ w' hK (putT_sound (s := { s with hp := upH up s.hp, us := i :: s.us }) s2 hdst hr) s1 ⟨s3.own, s3.heap, s3.old⟩ hus'
    · obtain ⟨f, dsall⟩ := p
      unfold callOf at hp
      split at hp
      case h_2 => cases hp
      case h_1 c ho =>
      split at hp
      case h_2 => cases hp
      case h_1 x hc =>
      split at hp
      case h_2 => cases hp
      case h_1 f fi ca ds hx hds =>
      cases hp
      have hrx := h.eval hx
      obtain ⟨hl1, hl2⟩ := list_sound h _ _ hds
      generalize hux : a.eval x = ux at hrx
      cases hrx with
      | fn _ _ _ us vs hu1 hu2 hu3 hu4 =>
      have hargs : (us ++ c.args.toList.map a.eval ++ vs).length = (fi ++ ds ++ ca).length ∧ ∀ (j : Nat) d u, (fi ++ ds ++ ca)[j]? = some d → (us ++ c.args.toList.map a.eval ++ vs)[j]? = some u → RD E w d u := by
        have app : ∀ {l1 l2 : List D} {m1 m2 : List Value}, m1.length = l1.length → m2.length = l2.length → (∀ (j : Nat) d u, l1[j]? = some d → m1[j]? = some u → RD E w d u) → (∀ (j : Nat) d u, l2[j]? = some d → m2[j]? = some u → RD E w d u) →
            (m1 ++ m2).length = (l1 ++ l2).length ∧ ∀ (j : Nat) d u, (l1 ++ l2)[j]? = some d → (m1 ++ m2)[j]? = some u → RD E w d u := by
          intro l1 l2 m1 m2 e1 e2 r1 r2
          refine ⟨by simp [e1, e2], fun j d u hd hu => ?_⟩
          by_cases hj : j < l1.length
          · rw [List.getElem?_append_left hj] at hd
            rw [List.getElem?_append_left (by omega)] at hu
            exact r1 j d u hd hu
          · rw [List.getElem?_append_right (by omega)] at hd
            rw [List.getElem?_append_right (by omega), e1] at hu
            exact r2 _ d u hd hu
        obtain ⟨q1, q2⟩ := app hu1 hl1 hu3 hl2
        exact app q1 hu2 q2 hu4
      obtain ⟨hfok, hcalls⟩ := inl_sound hT h hus hv hargs.1 hargs.2
      refine ⟨fun f _ => hF.fn f, ?_⟩
      have hrun : (o.semAt F.round a.eval).run P w = .ok (.enter f (us ++ c.args.toList.map a.eval ++ vs).toArray) w := by
        rw [Oper.semAt_eq _ _ _ (fun c' hc' => by rw [ho] at hc'; cases hc')]
        unfold execOp
        have e1 : (us.toArray ++ c.args.map a.eval) ++ vs.toArray = (us ++ c.args.toList.map a.eval ++ vs).toArray := by apply Array.ext'; simp
        simp only [ho, resolve, hc, Sem.run_bind, Deferred.ofValue, hux, Sem.run_pure, Result.andThen_ok, invoke, e1, callFunc_run hfok]
      rw [hrun]
      refine ⟨fun hd => (by rw [hF.dep] at hd; cases hd), (hF.call hcalls).mono ?_⟩
      rintro e w' ⟨r, s', E', v, rfl, hK, hu, htm, hs', hst, hmut, hr⟩
      refine hn _ E' _ w' hK (putT_sound hs' hdst (v := some r) hr) hst ⟨hmut.own, hmut.heap, hmut.old⟩ (fun k hk => ?_)
      have hk : k ∈ s'.us := hk
      rw [hu] at hk; cases hk
  case h_2 hp =>
    rcases hv with hv | hv
    · obtain ⟨c, v1, u1, v2, u2, ho, hc, he, k1, k2⟩ := hv.h
      have fin : ∀ {v : D} {up : Up}, Post P cx E s a w i o (some v) up → K { s with tm := putT s.tm o.dst (some v), hp := upH up s.hp, us := i :: s.us } → o.wpIn F n P a w next Q := fun {v up} hp hK => by
        obtain ⟨E', w', s1, s2, s4, u, hu, hr⟩ := hp
        refine ⟨fun f _ => hF.fn f, ?_⟩
        rw [Oper.semAt_eq _ _ _ (fun c' hc' => by rw [ho] at hc'; cases hc'), hu]
        exact hn _ E' _ w' hK (putT_sound (s := { s with hp := upH up s.hp, us := i :: s.us }) s2 hdst (v := some v) hr) s1 ⟨s4.own, s4.heap, s4.old⟩ hus'
      rcases append2_sound hT h hi ⟨Nat.le_refl _, by omega⟩ ho hc he with hp | hp
      · exact fin hp k1
      · exact fin hp k2
    have hv' : vcOp P T s (s.nx + 8 * i) (s.nx + 8 * i) o fun v up => K { s with tm := putT s.tm o.dst v, hp := upH up s.hp, us := i :: s.us } := by unfold vcOp; rw [hp]; exact hv
    exact op_core hF hT h hi hv' fun v up E' w' u hK s1 s2 s3 hr => hn _ E' _ w' hK (putT_sound (s := { s with hp := upH up s.hp, us := i :: s.us }) s2 hdst hr) s1 ⟨s3.own, s3.heap, s3.old⟩ hus'

theorem vcL_sound (hF : FOK F) (hT : T.ok P) {all : List Oper} {Q : Exit → Act → World → Prop} {K : AS → Prop} : ∀ (l : List Oper) (i : Nat) (s : AS) (E : Env) (a : Act) (w : World), SR cx E s a w → (∀ k ∈ s.us, k < i) → vcL P T cx.nt kb all i l s K →
    (∀ s' E' a' w', K s' → SR cx E' s' a' w' → Stp E E' w w' → Mut s s' E E' w w' → (∀ k ∈ s'.us, k < i + l.length) → Q .normal a' w') → wpListIn F n P all.toArray Q l a w
  | [], i, s, E, a, w, h, hus, hv, hQ => hQ s E a w hv h (Stp.refl E w) (Mut.refl s E w) (by simpa using hus)
  | o :: r, i, s, E, a, w, h, hus, hv, hQ => by
    obtain ⟨hd, hv⟩ := chkP_iff.1 hv
    have hlen : i + (o :: r).length = i + 1 + r.length := by simp only [List.length_cons]; omega
    rw [hlen] at hQ
    have hi : i ∉ s.us := fun hh => Nat.lt_irrefl _ (hus i hh)
    have hus' : ∀ k ∈ i :: s.us, k < i + 1 := fun k hk => by
      rcases List.mem_cons.1 hk with rfl | hk
      · omega
      · have := hus k hk; omega
    -- on behind the operation
    have next : ∀ (s1 : AS) (E1 : Env) (a1 : Act) (w1 : World), SR cx E1 s1 a1 w1 → Stp E E1 w w1 → Mut s s1 E E1 w w1 → (∀ k ∈ s1.us, k < i + 1) → vcL P T cx.nt kb all (i + 1) r s1 K → wpListIn F n P all.toArray Q r a1 w1 := fun s1 E1 a1 w1 h1 hst hmut hu1 hv1 =>
      vcL_sound hF hT r (i + 1) s1 E1 a1 w1 h1 hu1 hv1 fun s' E' a' w' hK hs' hst' hmut' hu' => hQ s' E' a' w' hK hs' (hst.trans hst') (hmut.trans hmut' hst.size) hu'
    unfold wpListIn
    cases hg : o.guard with
    | none =>
      rw [hg] at hv
      simp only [Region.wanted, hg, if_true]
      exact vcO_sound hF hT h hus hd hv fun s' E' a' w' hK hs' hst hmut hu' => next s' E' a' w' hs' hst hmut hu' hK
    | some jw =>
      obtain ⟨j, want⟩ := jw
      rw [hg] at hv
      dsimp only at hv
      split at hv
      case h_2 => exact hv.elim
      case h_1 t ht =>
      split at hv
      case h_2 => exact hv.elim
      case h_1 b hb =>
      obtain ⟨hv1, hv2⟩ := brP_iff.1 hv
      have hy := yielded_of h ht hb
      simp only [Region.wanted, hg, hy]
      have run : ∀ c, b = c → c = want → vcO P T cx.nt kb i o { s with tm := s.tm.set t (some (.v (.bool c))) } (fun s' => vcL P T cx.nt kb all (i + 1) r s' K) → (if (some b == some want) = true then o.wpIn F n P a w (wpListIn F n P all.toArray Q r) Q else (∀ f, o.about P w a.eval = some f → F.fn f) ∧ wpListIn F n P all.toArray Q r (a.put o.dst undef) w) := fun c hbc hcw hv => by
        rw [if_pos (by rw [hbc, hcw]; simp)]
        exact vcO_sound hF hT (h.know hb hbc) hus hd hv fun s' E' a' w' hK hs' hst hmut hu' => next s' E' a' w' hs' hst ⟨hmut.own, hmut.heap, hmut.old⟩ hu' hK
      have skip : ∀ c, b = c → c ≠ want → vcL P T cx.nt kb all (i + 1) r { s with tm := putT (s.tm.set t (some (.v (.bool c)))) o.dst none, us := i :: s.us } K → (if (some b == some want) = true then o.wpIn F n P a w (wpListIn F n P all.toArray Q r) Q else (∀ f, o.about P w a.eval = some f → F.fn f) ∧ wpListIn F n P all.toArray Q r (a.put o.dst undef) w) := fun c hbc hcw hv => by
        rw [if_neg (by rw [hbc]; simpa using hcw)]
        exact ⟨fun f _ => hF.fn f, next _ E _ w (putT_sound (s := { s with tm := s.tm.set t (some (.v (.bool c))), us := i :: s.us }) ((h.know hb hbc).us i) hd (v := none) rfl) (Stp.refl E w) ⟨fun _ h => h, fun _ _ _ => rfl, fun _ _ h => h⟩ hus' hv⟩
      cases b with
      | true =>
        have hv := hv1 rfl
        cases want with
        | true => exact run true rfl rfl hv
        | false => exact skip true rfl (by simp) hv
      | false =>
        have hv := hv2 rfl
        cases want with
        | true => exact skip false rfl (by simp) hv
        | false => exact run false rfl rfl hv

theorem SR.fin (h : SR cx E s a w) {n : Nat} (hus : ∀ k ∈ s.us, k < n) : SR cx E (s.fin n) a w :=
  { h with nm := fun g hg => .inl (by
      show g < s.nx + 8 * n
      rcases h.nm g hg with h1 | ⟨j, hj, h1, h2⟩
      · omega
      · have := hus j hj; omega) }

/-! ### a loop over a function -/
/-- A block for deferred calls is laid, and its mark. -/
theorem SR.mark (h : SR cx E s a w) : SR cx ⟨E.φ, fun b => E.own b ∨ b = w.heap.size, E.nm⟩ s { a with defers := { target := .collected w.heap.size, args := #[] } :: a.defers } (w.alloc (.deferred (some []))) ∧
    Stp E ⟨E.φ, fun b => E.own b ∨ b = w.heap.size, E.nm⟩ w (w.alloc (.deferred (some []))) ∧ Mut s s E ⟨E.φ, fun b => E.own b ∨ b = w.heap.size, E.nm⟩ w (w.alloc (.deferred (some []))) := by
  have hb : ∀ b, b < w.heap.size → (w.alloc (.deferred (some []))).heap[b]? = w.heap[b]? := fun b hb => Below.heap_alloc w _ b hb
  have hst : Stp E ⟨E.φ, fun b => E.own b ∨ b = w.heap.size, E.nm⟩ w (w.alloc (.deferred (some []))) := ⟨fun _ h => h, fun _ _ => rfl, by simp, fun b hlt ho => ⟨fun hh => hh.elim ho (fun e => by omega), hb b hlt⟩, fun b hlt => shape_of_block (hb b hlt)⟩
  have hob : ∀ {k g o}, s.gat k = some (g, o) → OB ⟨E.φ, fun b => E.own b ∨ b = w.heap.size, E.nm⟩ (w.alloc (.deferred (some []))) g o := fun {k g o} hk => (h.ob hk).step hst fun x hx => ⟨.inl (h.own_of ⟨k, g, o, hk, hx⟩), hb x ((h.ob hk).lt hx)⟩
  refine ⟨?_, hst, ⟨fun b hb => .inl hb, fun b hlt _ => hb b hlt, fun x _ h => h⟩⟩
  obtain ⟨bs, d1, d2, d3⟩ := h.df
  exact {
    fr := fun t d hd => by obtain ⟨u, hu, hr⟩ := h.fr t d hd; exact ⟨u, hu, hr.step hst⟩
    sz := h.sz
    df := by
      refine ⟨w.heap.size :: bs, by simp [d1], List.nodup_cons.2 ⟨fun hm => ?_, d2⟩, fun x hx => ?_⟩
      · have := h.lt _ (d3 _ hm).2.1; omega
      · rcases List.mem_cons.1 hx with rfl | hx
        · exact ⟨h.szB, .inr rfl, World.alloc_heap_new w _⟩
        · obtain ⟨c1, c2, c3⟩ := d3 x hx
          exact ⟨c1, .inl c2, (hb x (h.lt x c2)).trans c3⟩
    hp := fun k g b hk => hob (AS.at_iff.1 hk)
    lp := fun k g r hk => hob (AS.lat_iff.1 hk)
    inj := h.inj
    lt := fun x hx => by
      rcases hx with hx | rfl
      · have := h.lt x hx; simp; omega
      · simp
    low := h.low
    base := fun x hx => .inl (h.base x hx)
    bel := h.bel.trans ⟨rfl, rfl, rfl, by simp, fun k hk _ => hb k hk, hst.shape⟩
    nm := h.nm
    szB := Nat.le_trans h.szB (by simp) }

/-- What follows a loop over a function. -/
def contP (K : AX → AS → Prop) (s : AS) : Option Code → Prop
  | none => K .normal s
  | some .ret => K .ret s
  | some (.exit id) => K (.exit id) s
  | _ => False
/-- What must be shown of a loop over a function. -/
structure rngP (P : Program) (T : TT) (nt : Nat) (s : AS) (f : FuncId) (fi ca : List D) (ps : Array Tmp) (assign body : Code) (K : AX → AS → Prop) : Prop where
  h : ∃ kl fn c rs, P.funcs[f]? = some fn ∧ fn.body = some c ∧ fn.results = ⟨rs⟩ ∧ (fn.name == "runtime.NumGoroutine") = false ∧
    AWP P false fn.ntmps (s.nx + 8) c { tm := enumT 0 (fi ++ [.yl kl s.nx] ++ ca), hp := s.hp.set kl (some (s.nx, .l { st := .ready, pend := none, params := ps, assign := assign, body := body, nt := nt, tm := s.tm })), nx := s.nx + 8, us := [] } fun e s' => (e = .normal ∨ e = .ret) ∧ vcRes T s' rs fun _ =>
      recP s' kl s.nx (fun r => !isBusy r.st) (fun r => { r with st := .exhausted }) fun r s2 => contP K { tm := s.tm, hp := s2.hp, nx := s2.nx, us := [] } r.pend

theorem AWP.range (hT : T.ok P) {g : Operand} {ps : Array Tmp} {assign body : Code} {K : AX → AS → Prop} {f : FuncId} {fi ca : List D} (hg : evO s g = some (.fn (.func f) fi ca)) (hv : rngP P T nt s f fi ca ps assign body K) : AWP P false nt xn (.rangeFunc g ps assign body) s K := by
  refine ⟨fun F n cx E a w Q hF hro hn hu hs hQ => ?_⟩
  subst hn
  obtain ⟨kl, fn, c, rs, f1, f2, f3, f4, f5⟩ := hv.h
  have hfok : FnOk P f := ⟨fn, f1, by rw [f2]; rfl, f4⟩
  refine wpIn_rangeFunc fun fnid hfn => ?_
  rw [hro.1 rfl]
  -- the mark, the record
  obtain ⟨m1, m2, m3⟩ := hs.mark
  let L : Loop := { state := .ready, pending := none, fn := fnid, tmps := a.tmps, params := ps, assign := assign, body := body, defers := w.heap.size }
  obtain ⟨r1, r2, r3, r4, r5⟩ := m1.newG (g := s.nx) (ky := kl) (i := 0) (by rw [hu]; simp) ⟨by omega, by omega⟩ (.l { st := .ready, pend := none, params := ps, assign := assign, body := body, nt := cx.nt, tm := s.tm }) (.loop L) fun E' hst hnm hφ hown =>
    ⟨hnm, _, L, hφ, hown, by simp, cell_of_alloc _ _, rfl, rfl, rfl, rfl, rfl, hs.sz, fun t d hd => by
      obtain ⟨u, hu, hr⟩ := m1.fr t d hd
      exact ⟨u, hu, hr.step hst⟩⟩
  have hev := hs.eval hg
  generalize hux : a.eval g = ux at hev
  cases hev with
  | fn _ _ _ us vs hl1 hl2 hd1 hd2 =>
  have hst1 := m2.trans r2
  have hmut1 := m3.trans r5 m2.size
  have hsz1 : (w.alloc (.deferred (some []))).heap.size = w.heap.size + 1 := by simp
  refine ⟨w.heap.size + 1, [{ target := .collected w.heap.size, args := #[] }], (w.alloc (.deferred (some []))).alloc (.loop L), { target := .fn (.func f) vs.toArray, args := us.toArray ++ #[Value.func (.yield (w.heap.size + 1)) #[] #[]] }, (w.alloc (.deferred (some []))).alloc (.loop L), f,
    (us ++ [Value.func (.yield (w.heap.size + 1)) #[] #[]] ++ vs).toArray, (w.alloc (.deferred (some []))).alloc (.loop L), run_enterLoop_outer _ _ _ _ _, ?_, ?_, ?_, ?_, ?_⟩
  · simp only [resolve, Sem.run_bind, Deferred.ofValue, hux, Sem.run_pure, Result.andThen_ok]
    simp [Act.eval]
  · intro f' _; exact hF.fn f'
  · have e1 : (us.toArray ++ #[Value.func (.yield (w.heap.size + 1)) #[] #[]]) ++ vs.toArray = (us ++ [Value.func (.yield (w.heap.size + 1)) #[] #[]] ++ vs).toArray := by apply Array.ext'; simp
    simp only [invoke, e1, callFunc_run hfok]
  · intro hd; rw [hF.dep] at hd; cases hd
  have hnx8 : ∀ g, _ → g < s.nx + 8 := fun g hg => by
    rcases r1.nm g hg with h1 | ⟨j, hj, h1, h2⟩
    · have h1 : g < s.nx := h1
      omega
    · have hj : j ∈ 0 :: s.us := hj
      rw [hu] at hj
      simp at hj; subst hj
      have h2 : g < s.nx + 8 * 0 + 8 := h2
      omega
  refine (hF.call (fn_core (Φ := fun _ s' => recP s' kl s.nx (fun r => !isBusy r.st) (fun r => { r with st := .exhausted }) fun r s2 => contP K { tm := s.tm, hp := s2.hp, nx := s2.nx, us := [] } r.pend) hT f1 f2 f3 f5 (cx := cx.sub _ _ _ fn.ntmps (s.nx + 8)) rfl (Nat.le_refl _) rfl (r1.enter (nt := fn.ntmps) (xn := s.nx + 8) (nx := s.nx + 8) hnx8 (args_fr ?_ ?_) (by simp; omega) rfl))).mono ?_
  · simp [hl1, hl2]
  · intro j d u hd hu
    rcases Nat.lt_or_ge j fi.length with h1 | h1
    · rw [List.append_assoc, List.getElem?_append_left h1] at hd
      rw [List.append_assoc, List.getElem?_append_left (by omega)] at hu
      exact (hd1 j d u hd hu).step hst1
    · rw [List.append_assoc, List.getElem?_append_right h1] at hd
      rw [List.append_assoc, List.getElem?_append_right (by omega), hl1] at hu
      rcases Nat.eq_zero_or_pos (j - fi.length) with h2 | h2
      · rw [h2] at hd hu
        simp at hd hu
        subst hd hu
        refine .yl kl s.nx _ r3 ?_
        rw [r4, hsz1]
      · rw [show j - fi.length = (j - fi.length - 1) + 1 by omega] at hd hu
        simp only [List.cons_append, List.nil_append, List.getElem?_cons_succ] at hd hu
        exact (hd2 _ d u hd hu).step hst1
  · rintro e w' ⟨l, s', E', a', v, rfl, hK, hu', hs', hdf, hst, hown, hold, hr⟩
    have hst := hst.full hnx8
    obtain ⟨r, b, L3, hok, hn3, hφ3, hb3, hL3, hL3', hgo⟩ := recP_sound hs' hK
    have hφ : E'.φ s.nx = some (w.heap.size + 1) := by
      rw [hst.φ _ r3, r4, hsz1]
    rw [hφ] at hφ3; cases hφ3
    obtain ⟨s4, E4, hs4e, hK4, hs4, hst4, hmut4⟩ := hgo (fun _ => ⟨rfl, rfl, rfl, rfl, rfl⟩) { L3 with state := .exhausted } rfl hL3' rfl rfl rfl rfl
    have hnb : L3.state ≠ .busy := fun hh => by
      rw [hL3] at hh
      rw [hh] at hok; cases hok
    refine ⟨r.pend, w'.putObj (w.heap.size + 1) (.loop { L3 with state := .exhausted }), ?_, ?_⟩
    · rw [← hL3']; exact run_endLoop hb3 hnb
    have hu4 : s4.us = [] := by rw [hs4e]; exact hu'
    obtain ⟨c1, c2⟩ := r1.back hs4 (hst.trans hst4) (fun x hx => hmut4.own x (hown x hx)) (fun x hx ho => hold x hx (hmut4.old x (Nat.lt_of_lt_of_le hx hst.size) ho)) hu4
    have hfin := (hst1.trans hst).trans hst4
    have hfm := hmut1.trans c2 hst1.size
    cases hp : r.pend with
    | none => rw [hp] at hK4; exact hQ .normal _ _ _ _ hK4 rfl c1 (hfin.x _) hfm
    | some c =>
      rw [hp] at hK4
      cases c with
      | ret => exact wpIn_ret (hQ .ret _ _ _ _ hK4 rfl c1 (hfin.x _) hfm)
      | exit id => exact wpIn_exit (hQ (.exit id) _ _ _ _ hK4 rfl c1 (hfin.x _) hfm)
      | _ => exact hK4.elim
end
end Go.Vx

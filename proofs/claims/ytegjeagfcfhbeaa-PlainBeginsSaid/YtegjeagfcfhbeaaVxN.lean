/- VxN: a state is told anew, in names of its own. No program. -/
import Derived.Test.YtegjeagfcfhbeaaVxT
namespace Go.Vx
set_option linter.unusedVariables false
set_option linter.unusedSimpArgs false
open Go.RowKit Go.Bw

/-- What is kept in a state that is told anew. -/
inductive CO where
  | b (x : Blk)
  | c (x : Blk)
  | l (st : LoopState) (pend : Option Code) (params : Array Tmp) (assign body : Code) (nt : Nat) (tm : List (Nat × D))
def CO.ob : CO → Ob
  | .b x => .b x
  | .c x => .b x
  | .l st pend params assign body nt tm => .l ⟨st, pend, params, assign, body, nt, Tr.ofL tm⟩
/-- A thing: where it is kept and what it is called now; where it was kept and what it was called. -/
structure Ent where
  k' : Nat
  g' : Nat
  k : Nat
  g : Nat
  o : CO
structure CutS where
  tm : List (Nat × D)
  es : List Ent
  nx : Nat
def CutS.st (c : CutS) : AS := ⟨Tr.ofL c.tm, Tr.ofL (c.es.map fun e => (e.k', (e.g', e.o.ob))), c.nx, []⟩
def γE : List Ent → Nat → Nat
  | [], g => g
  | e :: r, g => bif Nat.beq e.g' g then e.g else γE r g
def κE : List Ent → Nat → Nat
  | [], k => k
  | e :: r, k => bif Nat.beq e.k' k then e.k else κE r k

def tmE (s : AS) (κ γ : Nat → Nat) : List (Nat × D) → Prop
  | [] => True
  | p :: r => s.tm.get p.1 = some (mapN κ γ p.2) ∧ tmE s κ γ r
def recE (tm0 : Tr D) (κ γ : Nat → Nat) : List (Nat × D) → Prop
  | [] => True
  | p :: r => tm0.get p.1 = some (mapN κ γ p.2) ∧ recE tm0 κ γ r
def obE (s : AS) (κ γ : Nat → Nat) (e : Ent) : Prop :=
  match e.o with
  | .b x => s.at e.k = some (e.g, mapBlk κ γ x)
  | .c x => s.at e.k = some (e.g, x)
  | .l st pend params assign body nt tm => optP (s.lat e.k) fun p => (p.1, p.2.st, p.2.pend, p.2.params, p.2.assign, p.2.body, p.2.nt) = (e.g, st, pend, params, assign, body, nt) ∧ recE p.2.tm κ γ tm
def esE (s : AS) (κ γ : Nat → Nat) : List Ent → Prop
  | [] => True
  | e :: r => obE s κ γ e ∧ esE s κ γ r
/-- The numbers of a state that is told anew are right. -/
def CutS.ok (c : CutS) (xn : Nat) : Bool :=
  nodupB (c.es.map (·.g')) && nodupB (c.es.map (·.k)) && c.es.all (fun e => Nat.blt e.g' c.nx && (Nat.beq e.g' e.g || (Nat.ble xn e.g' && Nat.ble xn e.g))) && Nat.ble xn c.nx
/-- Rows hold no names; what else is kept holds names below n. -/
def rowsL (n : Nat) : List Ent → Prop
  | [] => True
  | e :: r => (match e.o with
    | .b x => (x.row = true → closedL x.cells = true) ∧ (x.row = false → okRL true n x.cells = true)
    | .c x => closedL x.cells = true
    | .l _ _ _ _ _ _ tm => (tm.all fun p => okR true n p.2) = true) ∧ rowsL n r
def rowsOk (c : CutS) : Prop := rowsL c.nx c.es ∧ (c.tm.all fun p => okR true c.nx p.2) = true
mutual
theorem okR_cl : ∀ (d : D) {n : Nat}, d.closed = true → okR true n d = true
  | .v _, _, _ => rfl
  | .sl _ _ _ _, _, _ => rfl
  | .agg cs, _, h => okRL_cl cs h
  | .tup cs, _, h => okRL_cl cs h
  | .ifc _ x, _, h => okR_cl x h
  | .fn _ fi ca, n, h => by
    have h : (closedL fi && closedL ca) = true := h
    rw [Bool.and_eq_true] at h
    show (okRL true n fi && okRL true n ca) = true
    rw [okRL_cl fi h.1, okRL_cl ca h.2]; rfl
  | .ref .., _, h => by cases h
  | .ptr .., _, h => by cases h
  | .ep .., _, h => rfl
  | .yl .., _, h => by cases h
theorem okRL_cl : ∀ (l : List D) {n : Nat}, closedL l = true → okRL true n l = true
  | [], _, _ => rfl
  | d :: r, n, h => by
    have h : (d.closed && closedL r) = true := h
    rw [Bool.and_eq_true] at h
    show (okR true n d && okRL true n r) = true
    rw [okR_cl d h.1, okRL_cl r h.2]; rfl
end
theorem okRL_app {n : Nat} : ∀ {a b : List D}, okRL true n a = true → okRL true n b = true → okRL true n (a ++ b) = true
  | [], _, _, h => h
  | d :: r, b, h1, h2 => by
    have h1 : (okR true n d && okRL true n r) = true := h1
    rw [Bool.and_eq_true] at h1
    show (okR true n d && okRL true n (r ++ b)) = true
    rw [h1.1, okRL_app h1.2 h2]; rfl
theorem okRL_cons {n : Nat} {d : D} {r : List D} (h1 : okR true n d = true) (h2 : okRL true n r = true) : okRL true n (d :: r) = true := by
  show (okR true n d && okRL true n r) = true
  rw [h1, h2]; rfl
theorem tmall_cons {n : Nat} {p : Nat × D} {r : List (Nat × D)} (h1 : okR true n p.2 = true) (h2 : (r.all fun p => okR true n p.2) = true) : ((p :: r).all fun p => okR true n p.2) = true := by
  rw [List.all_cons, h1, h2]; rfl

/-- The state s, told anew. -/
structure CutE (s : AS) (xn : Nat) (c : CutS) : Prop where
  tm : tmE s (κE c.es) (γE c.es) c.tm
  es : esE s (κE c.es) (γE c.es) c.es
  ok : c.ok xn = true
  rows : rowsOk c
  us : s.us = []

theorem tmE_mem {s : AS} {κ γ : Nat → Nat} : ∀ {l : List (Nat × D)}, tmE s κ γ l → ∀ p ∈ l, s.tm.get p.1 = some (mapN κ γ p.2)
  | [], _, p, h => by cases h
  | q :: r, ⟨h1, h2⟩, p, h => by
    rcases List.mem_cons.1 h with rfl | h
    · exact h1
    · exact tmE_mem h2 p h
theorem recE_mem {s : Tr D} {κ γ : Nat → Nat} : ∀ {l : List (Nat × D)}, recE s κ γ l → ∀ p ∈ l, s.get p.1 = some (mapN κ γ p.2)
  | [], _, p, h => by cases h
  | q :: r, ⟨h1, h2⟩, p, h => by
    rcases List.mem_cons.1 h with rfl | h
    · exact h1
    · exact recE_mem h2 p h
theorem esE_mem {s : AS} {κ γ : Nat → Nat} : ∀ {l : List Ent}, esE s κ γ l → ∀ e ∈ l, obE s κ γ e
  | [], _, p, h => by cases h
  | q :: r, ⟨h1, h2⟩, p, h => by
    rcases List.mem_cons.1 h with rfl | h
    · exact h1
    · exact esE_mem h2 p h
theorem rowsL_mem {n : Nat} : ∀ {l : List Ent}, rowsL n l → ∀ e ∈ l, match e.o with
    | .b x => (x.row = true → closedL x.cells = true) ∧ (x.row = false → okRL true n x.cells = true)
    | .c x => closedL x.cells = true
    | .l _ _ _ _ _ _ tm => (tm.all fun p => okR true n p.2) = true
  | [], _, p, h => by cases h
  | q :: r, ⟨h1, h2⟩, e, h => by
    rcases List.mem_cons.1 h with rfl | h
    · exact h1
    · exact rowsL_mem h2 e h
theorem γE_of : ∀ {l : List Ent}, (l.map (·.g')).Nodup → ∀ e ∈ l, γE l e.g' = e.g
  | [], _, e, h => by cases h
  | q :: r, hn, e, h => by
    simp only [List.map_cons, List.nodup_cons] at hn
    simp only [γE]
    rcases List.mem_cons.1 h with rfl | h
    · simp
    · have : Nat.beq q.g' e.g' = false := by
        cases hb : Nat.beq q.g' e.g' with
        | false => rfl
        | true => exact absurd (by rw [Nat.eq_of_beq_eq_true hb]; exact List.mem_map.2 ⟨e, h, rfl⟩) hn.1
      rw [this]; exact γE_of hn.2 e h
theorem γE_fix : ∀ {l : List Ent} {xn : Nat}, (∀ e ∈ l, e.g' = e.g ∨ (xn ≤ e.g' ∧ xn ≤ e.g)) → ∀ g, g < xn → γE l g = g
  | [], _, _, g, _ => rfl
  | e :: r, xn, h, g, hg => by
    simp only [γE]
    cases hb : Nat.beq e.g' g with
    | true =>
      have := Nat.eq_of_beq_eq_true hb
      rcases h e List.mem_cons_self with h1 | ⟨h1, _⟩
      · rw [cond_true, ← h1, this]
      · omega
    | false => exact γE_fix (fun e' he => h e' (List.mem_cons_of_mem _ he)) g hg

section
variable {P : Program} {rd : Bool} {nt : Nat}
theorem SR.cut {cx : Cx} {E : Env} {s : AS} {a : Act} {w : World} (h : SR cx E s a w) {c : CutS} (hc : CutE s cx.xn c) : ∃ E', SR cx E' c.st a w ∧ StpX cx.xn E E' w w ∧ Mut s c.st E E' w w := by
  obtain ⟨htm, hes, hok, hrows, hus⟩ := hc
  obtain ⟨hrows, htmok⟩ := hrows
  have htmok := List.all_eq_true.1 htmok
  simp only [CutS.ok, Bool.and_eq_true, List.all_eq_true, Bool.or_eq_true] at hok
  obtain ⟨⟨⟨hg', hk⟩, hall⟩, hxn⟩ := hok
  have hg' := nodupB_iff hg'
  have hk := nodupB_iff hk
  have hxn := Nat.le_of_ble_eq_true hxn
  have hfix : ∀ e ∈ c.es, e.g' = e.g ∨ (cx.xn ≤ e.g' ∧ cx.xn ≤ e.g) := fun e he => by
    rcases (hall e he).2 with h1 | h1
    · exact .inl (Nat.eq_of_beq_eq_true h1)
    · exact .inr ⟨Nat.le_of_ble_eq_true h1.1, Nat.le_of_ble_eq_true h1.2⟩
  let E' : Env := ⟨fun g => E.φ (γE c.es g), E.own, fun g => E.nm (γE c.es g) ∧ g < c.nx⟩
  have hmap : ∀ {d : D} {u : Value}, RD E w (mapN (κE c.es) (γE c.es) d) u → okR true c.nx d = true → RD E' w d u := fun hr ho => unmap (Er := E') (fun j hj hn => ⟨⟨hn, hj⟩, rfl⟩) (fun _ b hb => hb) hr _ rfl ho
  have hcl : ∀ {d : D} {u : Value}, RD E.cl w d u → RD E' w d u := fun hr => RD.ofCl (RD.step (E := E.cl) (E' := E'.cl) (w := w) (w' := w) ⟨fun _ h => h.elim, fun _ h => h.elim, Nat.le_refl _, fun b _ hb => ⟨hb, rfl⟩, fun _ _ => rfl⟩ hr)
  have hold : ∀ {k g o}, c.st.gat k = some (g, o) → ∃ e ∈ c.es, e.k' = k ∧ e.g' = g ∧ e.o.ob = o := fun {k g o} hkk => by
    obtain ⟨e, he, h1⟩ := List.mem_map.1 (Tr.of_ofL hkk)
    cases h1; exact ⟨e, he, rfl, rfl, rfl⟩
  have hgat : ∀ e ∈ c.es, ∃ o, s.gat e.k = some (e.g, o) := fun e he => by
    have h1 := esE_mem hes e he
    unfold obE at h1
    split at h1
    · exact ⟨_, AS.at_iff.1 h1⟩
    · exact ⟨_, AS.at_iff.1 h1⟩
    · obtain ⟨p, hp, h2, _⟩ := optP_iff.1 h1
      obtain ⟨g, r⟩ := p
      have : g = e.g := congrArg Prod.fst h2
      subst this
      exact ⟨_, AS.lat_iff.1 hp⟩
  have hob : ∀ {k g o}, c.st.gat k = some (g, o) → OB E' w g o := fun {k g o} hkk => by
    obtain ⟨e, he, rfl, rfl, rfl⟩ := hold hkk
    have h1 := esE_mem hes e he
    have hγ := γE_of hg' e he
    have hlt : e.g' < c.nx := Nat.le_of_ble_eq_true (hall e he).1
    have hco := rowsL_mem hrows e he
    unfold obE at h1
    cases hoo : e.o with
    | b x =>
      rw [hoo] at h1 hco
      dsimp only at h1
      obtain ⟨c1, c2⟩ := h.hp _ _ _ h1
      obtain ⟨m1, m2, m3⟩ := mapBlk_flags (κE c.es) (γE c.es) x
      refine ⟨⟨by rw [hγ]; exact c1, hlt⟩, ?_⟩
      show match E.φ (γE c.es e.g') with | none => _ | some b => _
      rw [hγ]
      cases hp : E.φ e.g with
      | none =>
        rw [hp] at c2
        exact ⟨List.eq_nil_of_length_eq_zero (by rw [← m3, c2.1]; rfl), by rw [← m2]; exact c2.2⟩
      | some b =>
        rw [hp] at c2
        obtain ⟨d1, d2, cur, fr, d3, d4, d5, d6, d7⟩ := c2
        refine ⟨d1, d2, cur, fr, by rw [← m1]; exact d3, d4, by rw [← m3]; exact d5, fun hr => by rw [← m3]; exact d6 (by rw [m2]; exact hr), fun i d hd => ?_⟩
        cases hrow : x.row with
        | true =>
          have e1 : (mapBlk (κE c.es) (γE c.es) x).cells = x.cells := by unfold mapBlk; rw [hrow]; rfl
          obtain ⟨v, v1, v2, v3⟩ := d7 i d (by rw [e1]; exact hd)
          exact ⟨v, v1, v2, hcl (v3.weak (closedL_get (hco.1 hrow) hd))⟩
        | false =>
          have e1 : (mapBlk (κE c.es) (γE c.es) x).cells = mapNL (κE c.es) (γE c.es) x.cells := by unfold mapBlk; rw [hrow]; rfl
          obtain ⟨v, v1, v2, v3⟩ := d7 i (mapN (κE c.es) (γE c.es) d) (by rw [e1, mapNL_eq, List.getElem?_map, hd]; rfl)
          exact ⟨v, v1, v2, hmap v3 (okRL_get (hco.2 hrow) i d hd)⟩
    | c x =>
      rw [hoo] at h1 hco
      dsimp only at h1 hco
      obtain ⟨c1, c2⟩ := h.hp _ _ _ h1
      refine ⟨⟨by rw [hγ]; exact c1, hlt⟩, ?_⟩
      show match E.φ (γE c.es e.g') with | none => _ | some b => _
      rw [hγ]
      cases hp : E.φ e.g with
      | none => rw [hp] at c2; exact c2
      | some b =>
        rw [hp] at c2
        obtain ⟨d1, d2, cur, fr, d3, d4, d5, d6, d7⟩ := c2
        refine ⟨d1, d2, cur, fr, d3, d4, d5, d6, fun i d hd => ?_⟩
        obtain ⟨v, v1, v2, v3⟩ := d7 i d hd
        exact ⟨v, v1, v2, hcl (v3.weak (closedL_get hco hd))⟩
    | l st pend params assign body nt tm =>
      rw [hoo] at h1 hco
      dsimp only at h1
      obtain ⟨p, hp, h2, h3⟩ := optP_iff.1 h1
      obtain ⟨g, r⟩ := p
      simp only [Prod.mk.injEq] at h2
      obtain ⟨rfl, e1, e2, e3, e4, e5, e6⟩ := h2
      obtain ⟨c1, b, L, c2, c3, c4, c5, c6, c7, c8, c9, c10, c11, c12⟩ := h.lp _ _ _ hp
      refine ⟨⟨by rw [hγ]; exact c1, hlt⟩, b, L, by show E.φ (γE c.es e.g') = _; rw [hγ]; exact c2, c3, c4, c5, c6.trans e1, c7.trans e2, c8.trans e3, c9.trans e4, c10.trans e5, by show nt ≤ _; rw [← e6]; exact c11, fun t d hd => ?_⟩
      have hm := Tr.of_ofL hd
      obtain ⟨u, u1, u2⟩ := c12 t _ (recE_mem h3 _ hm)
      exact ⟨u, u1, hmap u2 (List.all_eq_true.1 hco _ hm)⟩
  have hown : ∀ {x}, ownOf c.st E'.φ x → ownOf s E.φ x := fun ⟨k, g, o, hkk, hx⟩ => by
    obtain ⟨e, he, rfl, rfl, rfl⟩ := hold hkk
    obtain ⟨o, ho⟩ := hgat e he
    have hx : E.φ (γE c.es e.g') = some _ := hx
    rw [γE_of hg' e he] at hx
    exact ⟨e.k, e.g, o, ho, hx⟩
  refine ⟨E', { h with
    fr := fun t d hd => ?_
    df := h.df.step (fun b hb => hb) fun b _ _ => rfl
    hp := fun k g b hk => hob (AS.at_iff.1 hk)
    lp := fun k g b hk => hob (AS.lat_iff.1 hk)
    inj := fun k1 k2 g1 g2 o1 o2 hkk h1 h2 x hx1 hx2 => ?_
    low := fun x hx => h.low x (hown hx)
    nm := fun g hg => .inl hg.2 }, ⟨fun g hg hn => ⟨by rw [γE_fix hfix g hg]; exact hn, Nat.lt_of_lt_of_le hg hxn⟩, fun g hg _ => by show E.φ (γE c.es g) = _; rw [γE_fix hfix g hg], Nat.le_refl _, fun b _ hb => ⟨hb, rfl⟩, fun _ _ => rfl⟩, ⟨fun _ hb => hb, fun _ _ _ => rfl, fun _ _ hx => hown hx⟩⟩
  · have hm := Tr.of_ofL hd
    obtain ⟨u, u1, u2⟩ := h.fr t _ (tmE_mem htm _ hm)
    exact ⟨u, u1, hmap u2 (htmok _ hm)⟩
  · obtain ⟨e1, he1, rfl, rfl, rfl⟩ := hold h1
    obtain ⟨e2, he2, rfl, rfl, rfl⟩ := hold h2
    obtain ⟨o1', ho1⟩ := hgat e1 he1
    obtain ⟨o2', ho2⟩ := hgat e2 he2
    have hx1 : E.φ (γE c.es e1.g') = some x := hx1
    have hx2 : E.φ (γE c.es e2.g') = some x := hx2
    rw [γE_of hg' e1 he1] at hx1
    rw [γE_of hg' e2 he2] at hx2
    refine h.inj e1.k e2.k e1.g e2.g o1' o2' (fun e => hkk ?_) ho1 ho2 x hx1 hx2
    have : e1 = e2 := by
      obtain ⟨i, hi⟩ := List.getElem?_of_mem he1
      obtain ⟨j, hj⟩ := List.getElem?_of_mem he2
      have q1 : (c.es.map (·.k))[i]? = some e1.k := by rw [List.getElem?_map, hi]; rfl
      have q2 : (c.es.map (·.k))[j]? = some e1.k := by rw [List.getElem?_map, hj, e]; rfl
      have := nodup_inj hk q1 q2
      subst this
      rw [hi] at hj; cases hj; rfl
    rw [this]

theorem CutE.le {s : AS} {xn xn' : Nat} {c : CutS} (h : CutE s xn c) (hx : xn' ≤ xn) : CutE s xn' c := by
  refine ⟨h.tm, h.es, ?_, h.rows, h.us⟩
  have hok := h.ok
  simp only [CutS.ok, Bool.and_eq_true, List.all_eq_true, Bool.or_eq_true] at hok ⊢
  obtain ⟨⟨h1, h2⟩, h3⟩ := hok
  refine ⟨⟨h1, fun e he => ?_⟩, Nat.ble_eq_true_of_le (Nat.le_trans hx (Nat.le_of_ble_eq_true h3))⟩
  obtain ⟨a1, a2⟩ := h2 e he
  exact ⟨a1, a2.imp id fun ⟨b1, b2⟩ => ⟨Nat.ble_eq_true_of_le (Nat.le_trans hx (Nat.le_of_ble_eq_true b1)), Nat.ble_eq_true_of_le (Nat.le_trans hx (Nat.le_of_ble_eq_true b2))⟩⟩
/-- Code whose end is told anew. -/
theorem AWP.cutEnd {xn : Nat} {c : Code} {s : AS} {Q : AX → AS → Prop} (h : AWP P rd nt xn c s fun e s' => ∃ d : CutS, CutE s' xn d ∧ Q e d.st) : AWP P rd nt xn c s Q :=
  ⟨fun F n cx E a w Q' hF hro hn hu hs hQ => h.run F n cx E a w Q' hF hro hn hu hs fun e s' E' a' w' ⟨d, hd, hK⟩ hu' hs' hst hmut => by
    obtain ⟨E2, q1, q2, q3⟩ := hs'.cut (hd.le hro.2)
    exact hQ e d.st E2 a' w' hK rfl q1 (hst.trans q2) (hmut.trans q3 hst.size)⟩
/-- Code whose beginning is told anew. -/
theorem AWP.cutStart {xn : Nat} {c : Code} {s : AS} {Q : AX → AS → Prop} {d : CutS} (hd : CutE s xn d) (h : AWP P rd nt xn c d.st Q) : AWP P rd nt xn c s Q :=
  ⟨fun F n cx E a w Q' hF hro hn hu hs hQ => by
    obtain ⟨E2, q1, q2, q3⟩ := hs.cut (hd.le hro.2)
    exact h.run F n cx E2 a w Q' hF hro hn rfl q1 fun e s' E' a' w' hK hu' hs' hst hmut => hQ e s' E' a' w' hK hu' hs' (q2.trans hst) (q3.trans hmut q2.size)⟩
/-- What stands at the head of a round of a loop. -/
def loopIn (F : Fence) (n : Nat) (P : Program) (c : Code) (Q : Exit → Act → World → Prop) (a : Act) (w : World) : Prop :=
  ∀ (b : Frame) (k : List Item) (cs : List Frame), b.roundOf = F.round → F.fn b.fn → F.room (cs.length + 1 + n) →
    ∃ e a' w', Q e a' w' ∧ ArrivesIn (Machine.fenced P F) P (lone (b.atR a (.code c :: .inLoop c :: k)) cs w) b k cs e a' w'
theorem loopIn_peel {F : Fence} {n : Nat} {c : Code} {Q : Exit → Act → World → Prop} {a : Act} {w : World} (h : c.wpIn F n P (Exit.then (loopIn F n P c Q) Q) a w) : loopIn F n P c Q a w := by
  intro b k cs hro hb hr
  obtain ⟨e, a₁, w₁, hq, harr⟩ := h b (.inLoop c :: k) cs hro hb hr
  cases e with
  | normal =>
    obtain ⟨e₂, a₂, w₂, hq₂, harr₂⟩ := hq b k cs hro hb hr
    exact ⟨e₂, a₂, w₂, hq₂, .of_steps (StepsIn.trans harr (.one (fenced_calm hb hr rfl) stepR_inLoop)) harr₂⟩
  | exit id => exact ⟨_, a₁, w₁, hq, .pass (x := .inLoop c) rfl (fun _ _ => .inl (by simp)) harr⟩
  | goto l => exact ⟨_, a₁, w₁, hq, .pass (x := .inLoop c) rfl (fun _ _ => .inl (by simp)) harr⟩
  | ret => exact ⟨_, a₁, w₁, hq, .pass (x := .inLoop c) rfl (fun _ _ => .inl (by simp)) harr⟩
  | panic ch => exact ⟨_, a₁, w₁, hq, .pass (x := .inLoop c) rfl (fun _ _ => .inl (by simp)) harr⟩
  | outgrown => exact ⟨_, a₁, w₁, hq, .pass (x := .inLoop c) rfl (fun _ _ => .inl (by simp)) harr⟩
theorem loopIn_rounds {F : Fence} {n : Nat} {c : Code} {Q : Exit → Act → World → Prop} : ∀ (m : Nat) {a : Act} {w : World}, Code.roundsIn F n P c Q m a w → loopIn F n P c Q a w
  | 0, _, _, h => h.elim
  | m + 1, _, _, h => loopIn_peel (wpIn_mono h fun e a' w' hq => by
    cases e with
    | normal => exact loopIn_rounds m hq
    | _ => exact hq)
theorem loopIn_wp {F : Fence} {n : Nat} {c : Code} {Q : Exit → Act → World → Prop} {a : Act} {w : World} (h : loopIn F n P c Q a w) : (Code.loop c).wpIn F n P Q a w := by
  intro b k cs hro hb hr
  obtain ⟨e, a', w', hq, harr⟩ := h b k cs hro hb hr
  exact ⟨e, a', w', hq, .of_steps (.one (fenced_calm hb hr rfl) stepR_loop) harr⟩
/-- A loop, from the head of a round on. -/
structure AWPl (P : Program) (rd : Bool) (nt xn : Nat) (c : Code) (s : AS) (K : AX → AS → Prop) : Prop where
  run : ∀ (F : Fence) (n : Nat) (cx : Cx) (E : Env) (a : Act) (w : World) (Q : Exit → Act → World → Prop), FOK F → ((rd = false → F.round = none) ∧ cx.xn ≤ xn) → cx.nt = nt → s.us = [] → SR cx E s a w →
    (∀ e s' E' a' w', K e s' → s'.us = [] → SR cx E' s' a' w' → StpX cx.xn E E' w w' → Mut s s' E E' w w' → Q e.ex a' w') → loopIn F n P c Q a w
theorem AWPl.awp {xn : Nat} {c : Code} {s : AS} {K : AX → AS → Prop} (h : AWPl P rd nt xn c s K) : AWP P rd nt xn (.loop c) s K :=
  ⟨fun F n cx E a w Q hF hro hn hu hs hQ => loopIn_wp (h.run F n cx E a w Q hF hro hn hu hs hQ)⟩
theorem AWPl.mono {xn : Nat} {c : Code} {s : AS} {K K' : AX → AS → Prop} (h : AWPl P rd nt xn c s K) (hk : ∀ e s', K e s' → K' e s') : AWPl P rd nt xn c s K' :=
  ⟨fun F n cx E a w Q hF hr hn hu hs hQ => h.run F n cx E a w Q hF hr hn hu hs fun e s' E' a' w' hK => hQ e s' E' a' w' (hk e s' hK)⟩
theorem AWPl.cutStart {xn : Nat} {c : Code} {s : AS} {Q : AX → AS → Prop} {d : CutS} (hd : CutE s xn d) (h : AWPl P rd nt xn c d.st Q) : AWPl P rd nt xn c s Q :=
  ⟨fun F n cx E a w Q' hF hro hn hu hs hQ => by
    obtain ⟨E2, q1, q2, q3⟩ := hs.cut (hd.le hro.2)
    exact h.run F n cx E2 a w Q' hF hro hn rfl q1 fun e s' E' a' w' hK hu' hs' hst hmut => hQ e s' E' a' w' hK hu' hs' (q2.trans hst) (q3.trans hmut q2.size)⟩
/-- The first round is carried out by itself. -/
theorem AWPl.peel {xn : Nat} {c : Code} {s : AS} {K : AX → AS → Prop} (h : AWP P rd nt xn c s fun e s' => match e with
    | .normal => AWPl P rd nt xn c s' K
    | e => K e s') : AWPl P rd nt xn c s K := by
  refine ⟨fun F n cx E a w Q hF hro hn hu hs hQ => loopIn_peel ?_⟩
  refine h.run F n cx E a w _ hF hro hn hu hs fun e s' E' a' w' hK hu' hs' hst' hmut' => ?_
  cases e with
  | normal => exact hK.run F n cx E' a' w' Q hF hro hn hu' hs' fun e s2 E2 a2 w2 hK2 hu2 hs2 hst2 hmut2 => hQ e s2 E2 a2 w2 hK2 hu2 hs2 (hst'.trans hst2) (hmut'.trans hmut2 hst'.size)
  | exit id => exact hQ (.exit id) s' E' a' w' hK hu' hs' hst' hmut'
  | ret => exact hQ .ret s' E' a' w' hK hu' hs' hst' hmut'
/-- A loop: the states at its heads, by an index. -/
theorem AWPl.loopI {xn : Nat} {c : Code} {K : AX → AS → Prop} {ι : Type} (S : ι → AS) (hS : ∀ i, (S i).us = []) (μ : ι → Nat) (body : ∀ i, AWP P rd nt xn c (S i) fun e s' => match e with
      | .normal => ∃ i', s' = S i' ∧ μ i' < μ i
      | e => K e s') (i0 : ι) : AWPl P rd nt xn c (S i0) K := by
  refine ⟨fun F n cx E0 a w0 Q hF hro hn hu hs hQ => ?_⟩
  have key : ∀ m i E a w, μ i < m → SR cx E (S i) a w → StpX cx.xn E0 E w0 w → Mut (S i0) (S i) E0 E w0 w → Code.roundsIn F n P c Q m a w := by
    intro m
    induction m with
    | zero => intro i E a w h; omega
    | succ m ih =>
      intro i E a w hm hs hst hmut
      rw [roundsIn_succ]
      refine (body i).run F n cx E a w _ hF hro hn (hS i) hs fun e s' E' a' w' hK hu' hs' hst' hmut' => ?_
      have hst2 := hst.trans hst'
      have hmut2 := hmut.trans hmut' hst.size
      cases e with
      | normal =>
        obtain ⟨i', rfl, hlt⟩ := hK
        exact ih i' E' a' w' (by omega) hs' hst2 hmut2
      | exit id => exact hQ (.exit id) s' E' a' w' hK hu' hs' hst2 hmut2
      | ret => exact hQ .ret s' E' a' w' hK hu' hs' hst2 hmut2
  exact loopIn_rounds (μ i0 + 1) (key _ i0 E0 a w0 (by omega) hs ((Stp.refl E0 w0).x _) (Mut.refl _ _ _))
/-- Rounds, as many as are counted. -/
structure AWPr (P : Program) (rd : Bool) (nt xn : Nat) (c : Code) (m : Nat) (s : AS) (K : AX → AS → Prop) : Prop where
  run : ∀ (F : Fence) (n : Nat) (cx : Cx) (E : Env) (a : Act) (w : World) (Q : Exit → Act → World → Prop), FOK F → ((rd = false → F.round = none) ∧ cx.xn ≤ xn) → cx.nt = nt → s.us = [] → SR cx E s a w →
    (∀ e s' E' a' w', K e s' → s'.us = [] → SR cx E' s' a' w' → StpX cx.xn E E' w w' → Mut s s' E E' w w' → Q e.ex a' w') → Code.roundsIn F n P c Q m a w
theorem AWPr.step {xn m : Nat} {c : Code} {s : AS} {K : AX → AS → Prop} (h : AWP P rd nt xn c s fun e s' => match e with
    | .normal => AWPr P rd nt xn c m s' K
    | e => K e s') : AWPr P rd nt xn c (m + 1) s K := by
  refine ⟨fun F n cx E a w Q hF hro hn hu hs hQ => ?_⟩
  rw [roundsIn_succ]
  refine h.run F n cx E a w _ hF hro hn hu hs fun e s' E' a' w' hK hu' hs' hst' hmut' => ?_
  cases e with
  | normal => exact hK.run F n cx E' a' w' Q hF hro hn hu' hs' fun e s2 E2 a2 w2 hK2 hu2 hs2 hst2 hmut2 => hQ e s2 E2 a2 w2 hK2 hu2 hs2 (hst'.trans hst2) (hmut'.trans hmut2 hst'.size)
  | exit id => exact hQ (.exit id) s' E' a' w' hK hu' hs' hst' hmut'
  | ret => exact hQ .ret s' E' a' w' hK hu' hs' hst' hmut'
theorem AWPl.rounds {xn m : Nat} {c : Code} {s : AS} {K : AX → AS → Prop} (h : AWPr P rd nt xn c m s K) : AWPl P rd nt xn c s K :=
  ⟨fun F n cx E a w Q hF hro hn hu hs hQ => loopIn_rounds m (h.run F n cx E a w Q hF hro hn hu hs hQ)⟩
end
end Go.Vx

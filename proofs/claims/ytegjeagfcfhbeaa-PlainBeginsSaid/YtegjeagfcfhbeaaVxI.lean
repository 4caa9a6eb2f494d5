/- VxI: what an operation comes to, in the abstract: append. No program. -/
import Derived.Test.YtegjeagfcfhbeaaVxH
import Derived.Deep.AppendSrc
import Derived.Deep.Upon
namespace Go.Vx
set_option linter.unusedVariables false
set_option linter.unusedSimpArgs false
open Go.RowKit Go.Bw
section
variable {P : Program} {cx : Cx} {E : Env} {s : AS} {a : Act} {w : World} {i : Nat} {o : Oper} {T : TT}

theorem Stp.drew (E : Env) (w : World) : Stp E E w w.drew := ⟨fun _ h => h, fun _ _ => rfl, Nat.le_refl _, fun _ _ h => ⟨h, rfl⟩, fun _ _ => rfl⟩
theorem OB.drew {g : Nat} {k : Ob} (h : OB E w g k) (hown : ∀ b, E.φ g = some b → E.own b) : OB E w.drew g k := h.step (Stp.drew E w) fun b hb => ⟨hown b hb, rfl⟩
theorem SR.drew (h : SR cx E s a w) : SR cx E s a w.drew :=
  { h with
    fr := fun t d hd => by obtain ⟨u, hu, hr⟩ := h.fr t d hd; exact ⟨u, hu, hr.step (Stp.drew E w)⟩
    hp := fun k g b hk => OB.drew (k := .b b) (h.hp k g b hk) fun x hx => h.own_of ⟨k, g, _, AS.at_iff.1 hk, hx⟩
    lp := fun k g b hk => OB.drew (k := .l b) (h.lp k g b hk) fun x hx => h.own_of ⟨k, g, _, AS.lat_iff.1 hk, hx⟩
    df := h.df
    bel := h.bel.trans (Fr.drew _ w)
    szB := h.szB }

/-- The block at k is let go. -/
theorem SR.kill (h : SR cx E s a w) (k : Nat) : SR cx ⟨E.φ, ownU E { s with hp := s.hp.set k none } E.φ, E.nm⟩ { s with hp := s.hp.set k none } a w ∧ Stp E ⟨E.φ, ownU E { s with hp := s.hp.set k none } E.φ, E.nm⟩ w w := by
  have sub : ∀ {k' g' o'}, AS.gat { s with hp := s.hp.set k none } k' = some (g', o') → s.gat k' = some (g', o') := fun {k' g' o'} hk => by
    rcases Tr.of_set hk with ⟨_, hv⟩ | ⟨_, hk⟩
    · cases hv
    · exact hk
  have hs : Stp E ⟨E.φ, ownU E { s with hp := s.hp.set k none } E.φ, E.nm⟩ w w := ⟨fun _ h => h, fun _ _ => rfl, Nat.le_refl _, fun b _ ho => ⟨fun hh => hh.elim ho fun ⟨k', g', b', hk, hx⟩ => ho (h.own_of ⟨k', g', b', sub hk, hx⟩), rfl⟩, fun _ _ => rfl⟩
  have hold : ∀ {k' g' o'}, AS.gat { s with hp := s.hp.set k none } k' = some (g', o') → OB ⟨E.φ, ownU E { s with hp := s.hp.set k none } E.φ, E.nm⟩ w g' o' := fun {k' g' o'} hk => (h.ob (sub hk)).step hs fun x hx => ⟨.inr ⟨k', g', o', hk, hx⟩, rfl⟩
  refine ⟨h.turn _ _ rfl hs (fun k' g' b' hk => hold (AS.at_iff.1 hk)) (fun k' g' b' hk => hold (AS.lat_iff.1 hk)) (fun k1 k2 g1 g2 b1 b2 hkk h1 h2 x hx1 => h.inj k1 k2 g1 g2 b1 b2 hkk (sub h1) (sub h2) x hx1)
    (fun x ⟨k', g', b', hk, hx⟩ => h.low x ⟨k', g', b', sub hk, hx⟩) (Fr.refl _ _) h.nm (fun _ _ _ => rfl), hs⟩

/-- A name more, for a block that is there under another one, or for nothing. -/
theorem SR.rename {w' : World} (h : SR cx E s a w) {g ky k i : Nat} (hi : i ∉ s.us) (hg : s.nx + 8 * i ≤ g ∧ g < s.nx + 8 * i + 8) (bo : Option Nat) (hbo : ∀ b, bo = some b → ∃ g0 blk0, s.at k = some (g0, blk0) ∧ E.φ g0 = some b)
    (nb : Blk) (hgr : w.grownBy w' bo) (hz : w'.heap.size = w.heap.size) (hshape : ∀ b, b < w.heap.size → w'.shape? b = w.shape? b)
    (hnb : match bo with | none => nb.cells = [] ∧ nb.row = true | some b => ∃ (cur : Array Value) (fr : Nat × Nat), w'.heap[b]? = some (.cells cur nb.elem fr) ∧ NoFr fr cur.size ∧ nb.cells.length ≤ cur.size ∧ (nb.row = false → cur.size = nb.cells.length) ∧
      (∀ (j : Nat) d, nb.cells[j]? = some d → ∃ u, cur[j]? = some u ∧ u.oneCell' = true ∧ RD E w d u)) :
    let s' : AS := { s with hp := (s.hp.set k none).set ky (some (g, .b nb)), us := i :: s.us }
    SR cx (E.add s' g bo) s' a w' ∧ Stp E (E.add s' g bo) w w' ∧ (E.add s' g bo).nm g ∧ (E.add s' g bo).φ g = bo ∧ Mut s s' E (E.add s' g bo) w w' := by
  intro s'
  have hfr : ¬ E.nm g := fun hn => by
    rcases h.nm g hn with h1 | ⟨j, hj, h1, h2⟩
    · omega
    · have : j = i := by omega
      subst this; exact hi hj
  have hne : ∀ {k g' o}, s.gat k = some (g', o) → g' ≠ g := fun hk e => by subst e; exact hfr (h.ob hk).nm
  have hlt : ∀ {k g' o x}, s.gat k = some (g', o) → E.φ g' = some x → x < w.heap.size := fun hk hx => (h.ob hk).lt hx
  have hsub : ∀ {k' g' o'}, s'.gat k' = some (g', o') → (k' = ky ∧ g' = g ∧ o' = .b nb) ∨ (k' ≠ k ∧ k' ≠ ky ∧ s.gat k' = some (g', o')) := fun {k' g' o'} hk => by
    rcases Tr.of_set hk with ⟨e, hv⟩ | ⟨e1, hk⟩
    · cases hv; exact .inl ⟨e, rfl, rfl⟩
    · rcases Tr.of_set hk with ⟨_, hv⟩ | ⟨e2, hk⟩
      · cases hv
      · exact .inr ⟨e2, e1, hk⟩
  have hbo' : ∀ b, bo = some b → ownOf s E.φ b := fun b hb => by
    obtain ⟨g0, blk0, h1, h2⟩ := hbo b hb
    exact ⟨k, g0, .b blk0, AS.at_iff.1 h1, h2⟩
  have hbown : ∀ b, bo = some b → E.own b := fun b hb => h.own_of (hbo' b hb)
  have hs : Stp E (E.add s' g bo) w w' := by
    refine ⟨fun x hx => .inl hx, fun x hx => upd_other (fun e => by subst e; exact hfr hx), by omega, fun b hb ho => ⟨?_, hgr.block b hb (fun e => ho (hbown b e.symm))⟩, hshape⟩
    rintro (ho' | ⟨k', g', blk, hk, hx⟩)
    · exact ho ho'
    rcases hsub hk with ⟨_, e, _⟩ | ⟨h1, h2, h3⟩
    · subst e; rw [upd_same] at hx; exact ho (hbown b hx)
    · rw [upd_other (hne h3)] at hx
      exact ho (h.own_of ⟨k', g', blk, h3, hx⟩)
  have hφg : (E.add s' g bo).φ g = bo := upd_same _ _ _
  have hmut : Mut s s' E (E.add s' g bo) w w' := ⟨fun b hb => .inl hb, fun b hb ho => hgr.block b hb (fun e => ho (hbo' b e.symm)), fun x hlt' ⟨k', g', blk, hk, hx⟩ => by
    have hx : upd E.φ g bo g' = some x := hx
    rcases hsub hk with ⟨_, e, _⟩ | ⟨h1, h2, h3⟩
    · subst e; rw [upd_same] at hx; exact hbo' x hx
    · rw [upd_other (hne h3)] at hx; exact ⟨k', g', blk, h3, hx⟩⟩
  have hold : ∀ {k' g' o'}, s'.gat k' = some (g', o') → OB (E.add s' g bo) w' g' o' := fun {k' g' o'} hk => by
    rcases hsub hk with ⟨rfl, rfl, rfl⟩ | ⟨h1, h2, h3⟩
    · refine ⟨.inr rfl, ?_⟩
      show match (E.add s' g' bo).φ g' with | none => _ | some b => _
      rw [hφg]
      cases bo with
      | none => exact hnb
      | some b =>
        obtain ⟨cur, fr, c1, c2, c3, c4, c5⟩ := hnb
        obtain ⟨g0, blk0, hk0, hb0⟩ := hbo b rfl
        refine ⟨.inr ⟨k', g', _, hk, hφg⟩, by rw [hz]; exact hlt (AS.at_iff.1 hk0) hb0, cur, fr, c1, c2, c3, c4, fun j d hj => ?_⟩
        obtain ⟨u, hu, h1, hr⟩ := c5 j d hj
        exact ⟨u, hu, h1, hr.step hs⟩
    · refine (h.ob h3).step hs fun b hb => ⟨.inr ⟨k', g', o', hk, (upd_other (hne h3)).trans hb⟩, hgr.block b (hlt h3 hb) (fun e => ?_)⟩
      obtain ⟨g0, blk0, hk0, hb0⟩ := hbo b e.symm
      exact h.inj k' k g' g0 o' (.b blk0) h1 h3 (AS.at_iff.1 hk0) b hb hb0
  refine ⟨h.turn _ _ rfl hs (fun k g' b hk => hold (AS.at_iff.1 hk)) (fun k g' r hk => hold (AS.lat_iff.1 hk)) ?_ ?_ ?_ ?_ hmut.heap, hs, .inr rfl, hφg, hmut⟩
  · intro k1 k2 g1 g2 b1 b2 hkk h1 h2 x hx1 hx2
    have other : ∀ {k' g' o'}, k' ≠ k → s.gat k' = some (g', o') → upd E.φ g bo g' = some x → bo ≠ some x := fun hk' h3 hx e => by
      rw [upd_other (hne h3)] at hx
      obtain ⟨g0, blk0, hk0, hb0⟩ := hbo x e
      exact h.inj _ k _ g0 _ (.b blk0) hk' h3 (AS.at_iff.1 hk0) x hx hb0
    rcases hsub h1 with ⟨e1, f1, f2⟩ | ⟨a1, a2, a3⟩ <;> rcases hsub h2 with ⟨e2, e3, e4⟩ | ⟨c1, c2, c3⟩
    · exact hkk (e1.trans e2.symm)
    · subst f1
      rw [upd_same] at hx1
      exact other c1 c3 hx2 hx1
    · subst e3
      rw [upd_same] at hx2
      exact other a1 a3 hx1 hx2
    · rw [upd_other (hne a3)] at hx1
      rw [upd_other (hne c3)] at hx2
      exact h.inj k1 k2 g1 g2 b1 b2 hkk a3 c3 x hx1 hx2
  · rintro x ⟨k', g', blk, hk, hx⟩
    have hx : upd E.φ g bo g' = some x := hx
    rcases hsub hk with ⟨_, e, _⟩ | ⟨h1, h2, h3⟩
    · subst e; rw [upd_same] at hx; exact h.low x (hbo' x hx)
    · rw [upd_other (hne h3)] at hx
      exact h.low x ⟨k', g', blk, h3, hx⟩
  · exact Fr.of_grown hgr (fun x e => h.low x (hbo' x e)) hs.shape
  · rintro n (hn | rfl)
    · rcases h.nm n hn with h1 | ⟨j, hj, h1⟩
      · exact .inl h1
      · exact .inr ⟨j, List.mem_cons_of_mem _ hj, h1⟩
    · exact .inr ⟨i, List.mem_cons_self, hg⟩

/-! ### what is appended -/
def isStrT : TypeDesc → Bool
  | .string => true
  | _ => false
def srcD (s : AS) (es : Nat) (dd : TypeDesc) : D → Option (Bool × Nat × List D)
  | .sl _ n sz cells => some (isSliceT dd && Nat.beq sz es, n, cells)
  | .ref k g off n sz => match s.at k with
    | some p => some (isSliceT dd && Nat.beq g p.1 && Nat.beq sz es && Nat.ble (off + n * sz) p.2.cells.length, n, bif Nat.beq off 0 && Nat.beq (n * sz) p.2.cells.length then p.2.cells else (p.2.cells.drop off).take (n * sz))
    | none => none
  | .v (.slice none 0 0) => some (isSliceT dd, 0, [])
  | .v (.string b) => some (isStrT dd && Nat.beq es 1, b.size, b.data.toList.map dB)
  | _ => none

theorem src_sound (hT : T.ok P) (h : SR cx E s a w) {d : D} {u : Value} (hr : RD E w d u) {es : Nat} {c : Bool} {n : Nat} {cells : List D} {tx : TypeId} {ti : TI} (hs : srcD s es ti.desc d = some (c, n, cells)) (hc : c = true) (htx : T.get tx = some ti) :
    ∃ news : List Value, Src P es tx u n news w ∧ news.length = cells.length ∧ ∀ (j : Nat) e v, cells[j]? = some e → news[j]? = some v → RD E w e v := by
  have hu := (hT tx ti htx).1
  have hsl : isSliceT ti.desc = true → ∃ e', P.underlying tx = some (.slice e') := fun hk => by
    cases hd : ti.desc <;> simp [hd, isSliceT] at hk
    rw [hd] at hu; exact ⟨_, hu⟩
  cases hr with
  | v cst h1 =>
    unfold srcD at hs
    split at hs
    case h_3 e => cases e; cases hs; obtain ⟨e', he⟩ := hsl hc; exact ⟨[], Src.ofNil w he 0, rfl, by simp⟩
    case h_4 b e =>
      cases e; cases hs
      rw [Bool.and_eq_true] at hc
      obtain rfl : es = 1 := Nat.eq_of_beq_eq_true hc.2
      refine ⟨byteCells b, Src.ofString w (by rw [hu]; have := hc.1; cases hd : ti.desc <;> simp [hd, isStrT] at this; rfl) b, by simp [byteCells], fun j e v he hv => ?_⟩
      simp only [List.getElem?_map, Option.map_eq_some_iff, byteCells] at he hv
      obtain ⟨x, hx, rfl⟩ := he
      obtain ⟨y, hy, rfl⟩ := hv
      rw [hx] at hy; cases hy
      exact .v _ rfl
    all_goals first | (rename_i e; cases e; done) | cases hs
  | sl nn n' sz cs ad c' us hlen hd hone hn hs' hc2 hnil hr =>
    cases hs
    rw [Bool.and_eq_true] at hc
    obtain rfl : sz = es := Nat.eq_of_beq_eq_true hc.2
    obtain ⟨e', he⟩ := hsl hc.1
    cases ad with
    | none =>
      obtain ⟨rfl, _⟩ := hnil rfl
      obtain rfl : n = 0 := by omega
      have : cells = [] := List.eq_nil_of_length_eq_zero (by rw [hn]; omega)
      subst this
      exact ⟨[], Src.ofNil w he 0, rfl, by simp⟩
    | some ad =>
      refine ⟨us, Src.ofSlice w he ad n c' us (by rw [hlen, hn]) (fun j v hv => ?_) hone, hlen, fun j e v a1 a2 => (hd j e v a1 a2).ofCl⟩
      rcases hr with hr | ⟨b, off, ha, _, _, hcell⟩
      · subst hr
        have : us = [] := List.eq_nil_of_length_eq_zero (by rw [hlen, hn]; omega)
        subst this; cases hv
      · cases ha; rw [Addr.add_mid]; exact hcell j v hv
  | ref k g off n' sz c' b off' t m hg hb hc2 hoff hsh hm =>
    simp only [srcD] at hs
    cases hk : s.at k with
    | none => rw [hk] at hs; cases hs
    | some p =>
    obtain ⟨g', blk⟩ := p
    rw [hk] at hs
    have hs := Option.some.inj hs
    injection hs with hs1 hs2
    injection hs2 with hs2 hs3
    subst hs1 hs2 hs3
    simp only [Bool.and_eq_true] at hc
    obtain ⟨⟨⟨hst, hgg⟩, hsz⟩, hle⟩ := hc
    have e : g = g' := Nat.eq_of_beq_eq_true hgg
    subst e
    obtain rfl : sz = es := Nat.eq_of_beq_eq_true hsz
    have hle := Nat.le_of_ble_eq_true hle
    obtain ⟨e', he⟩ := hsl hst
    obtain ⟨hlt, _, cur, fr, hcur, _, hcl, _, hcell⟩ := h.block hk hb
    have hv : Vw E w b 0 blk.cells := fun j d hj => by
      obtain ⟨v, hv1, hv2, hv3⟩ := hcell j d hj
      exact ⟨v, by rw [Nat.zero_add, cell_of_row w b j cur blk.elem fr hcur]; exact hv1, hv2, hv3⟩
    obtain ⟨us, hl, hrg, h1, hd⟩ := hv.seg hle
    rw [Nat.zero_add] at hrg
    have hcells : (bif Nat.beq off 0 && Nat.beq (n' * sz) blk.cells.length then blk.cells else (blk.cells.drop off).take (n' * sz)) = (blk.cells.drop off).take (n' * sz) := by
      cases hq : (Nat.beq off 0 && Nat.beq (n' * sz) blk.cells.length) with
      | false => rfl
      | true =>
        rw [Bool.and_eq_true] at hq
        have e1 := Nat.eq_of_beq_eq_true hq.1
        have e2 := Nat.eq_of_beq_eq_true hq.2
        subst e1
        rw [cond_true, List.drop_zero, e2, List.take_length]
    rw [hcells]
    refine ⟨us, Src.ofSlice w he _ n' c' us hl (fun j v hj => ?_) h1, by rw [hl, List.length_take, List.length_drop]; omega, hd⟩
    rw [Addr.add_mid]
    rcases hoff with rfl | ⟨rfl, rfl⟩
    · exact hrg j v hj
    · rw [Nat.zero_mul] at hl
      have := (List.getElem?_eq_some_iff.1 hj).1
      omega
  | refn k g sz hg hb =>
    simp only [srcD] at hs
    cases hk : s.at k with
    | none => rw [hk] at hs; cases hs
    | some p =>
    obtain ⟨g', blk⟩ := p
    rw [hk] at hs
    have hs := Option.some.inj hs
    injection hs with hs1 hs2
    injection hs2 with hs2 hs3
    subst hs1 hs2 hs3
    simp only [Bool.and_eq_true] at hc
    obtain ⟨⟨⟨hst, hgg⟩, hsz⟩, hle⟩ := hc
    have e : g = g' := Nat.eq_of_beq_eq_true hgg
    subst e
    obtain ⟨e', he⟩ := hsl hst
    have := (h.hp k g blk hk).2
    rw [hb] at this
    have hnil : (bif Nat.beq 0 0 && Nat.beq (0 * sz) blk.cells.length then blk.cells else (blk.cells.drop 0).take (0 * sz)) = [] := by
      rw [this.1]; simp
    rw [hnil]
    exact ⟨[], Src.ofNil w he 0, rfl, by simp⟩
  | _ => cases hs

/-! ### append -/
/-- What a slice holds that the run itself made: where it is kept, and its cells. -/
def dstD (s : AS) (e : TypeId) (es : Nat) : D → Option (Bool × Option Nat × Nat × List D)
  | .ref k g off n sz => match s.at k with
    | some p => some (Nat.beq g p.1 && Nat.beq sz es && Nat.beq off 0 && Nat.beq (n * es) p.2.cells.length && Nat.beq p.2.elem e, some k, n, p.2.cells)
    | none => none
  | .v (.slice none 0 0) => some (true, none, 0, [])
  | _ => none

def tot (k? : Option Nat) (m n : Nat) : Nat := match k? with | none => n | some _ => m + n
def cat (k? : Option Nat) (olds news : List D) : List D := match k? with | none => news | some _ => olds ++ news
def evAppend (T : TT) (s : AS) (nm ky : Nat) (ts : Array TypeId) (xs : Array Operand) : Ev :=
  match ts.toList, xs.toList with
  | [t, tx], [x, y] => match T.get t, T.get tx, evO s x, evO s y with
    | some ⟨.slice e, _, _, _, _⟩, some ti, some dx, some dy => match T.get e with
      | some ei => match dstD s e ei.size dx, srcD s ei.size ti.desc dy with
        | some (c1, k?, m, olds), some (c2, n, news) =>
          .cond (c1 && c2 && decide (0 < ei.size) && decide (0 < ei.bytes) && Nat.ble ((m + n) * ei.bytes) 140737488355328)
            (.ok (some (.ref ky nm 0 (tot k? m n) ei.size)) ((ky, some (nm, .b ⟨cat k? olds news, e, true⟩)) :: (match k? with | some k => [(k, none)] | none => [(ky, none)])))
        | _, _ => .stuck
      | none => .stuck
    | _, _, _, _ => .stuck
  | _, _ => .stuck

theorem zip_get {olds news : List D} {us vs : List Value} (h1 : us.length = olds.length) (h2 : vs.length = news.length) {E : Env} {w : World} (a1 : ∀ (j : Nat) e v, olds[j]? = some e → us[j]? = some v → RD E w e v) (a2 : ∀ (j : Nat) e v, news[j]? = some e → vs[j]? = some v → RD E w e v)
    (o1 : ∀ u ∈ us, u.oneCell' = true) (o2 : ∀ u ∈ vs, u.oneCell' = true) (rest : List Value) : ∀ (j : Nat) d, (olds ++ news)[j]? = some d → ∃ u, (us ++ vs ++ rest)[j]? = some u ∧ u.oneCell' = true ∧ RD E w d u := by
  intro j d hj
  by_cases hlt : j < olds.length
  · rw [List.getElem?_append_left hlt] at hj
    have hu : j < us.length := by omega
    exact ⟨us[j], by rw [List.append_assoc, List.getElem?_append_left hu]; simp [hu], o1 _ (List.getElem_mem hu), a1 j d _ hj (by simp [hu])⟩
  · rw [List.getElem?_append_right (by omega)] at hj
    have hlt2 := (List.getElem?_eq_some_iff.1 hj).1
    have hu : j - us.length < vs.length := by omega
    refine ⟨vs[j - us.length], ?_, o2 _ (List.getElem_mem hu), a2 _ d _ hj (by rw [← h1]; simp [hu])⟩
    rw [List.append_assoc, List.getElem?_append_right (by omega), List.getElem?_append_left hu]; simp [hu]

theorem append_sound (hT : T.ok P) (h : SR cx E s a w) (hi : i ∉ s.us) {nm ky : Nat} (hg : s.nx + 8 * i ≤ nm ∧ nm < s.nx + 8 * i + 8) {c : Call} (ho : o.op = .call c) (hc : c.callee = .builtin .append) {v : Option D} {up : Up} (he : (evAppend T s nm ky c.argTypes c.args).run v up) :
    Post P cx E s a w i o v up := by
  unfold evAppend at he
  split at he
  case h_2 => exact he.elim
  case h_1 t tx x y hts hxs =>
  split at he
  case h_2 => exact he.elim
  case h_1 e z1 z2 z3 z4 ti dx dy hti htx hx hy =>
  split at he
  case h_2 => exact he.elim
  case h_1 ei hei =>
  split at he
  case h_2 => exact he.elim
  case h_1 c1 k? m olds c2 n news hdst hsrc =>
  obtain ⟨hcond, rfl, rfl⟩ := he
  simp only [Bool.and_eq_true, decide_eq_true_eq] at hcond
  obtain ⟨⟨⟨⟨hc1, hc2⟩, hsz0⟩, hby0⟩, hfit⟩ := hcond
  have hfit := Nat.le_of_ble_eq_true hfit
  have e1 : c.argTypes = #[t, tx] := by apply Array.ext'; simpa using hts
  have e2 : c.args.map a.eval = #[a.eval x, a.eval y] := by apply Array.ext'; rw [Array.toList_map, hxs]; rfl
  have run0 : ∀ {u : Value} {w' : World}, (Builtin.append_ #[t, tx] o.type #[a.eval x, a.eval y]).run P w = .ok u w' → (execOp a.eval o).run P w = .ok (.value u) w' := fun hu => by
    unfold execOp
    simp only [ho, resolve, hc, Sem.run_bind, Sem.run_pure, Result.andThen_ok, invoke, builtin, e1, e2, hu]
  have hrx := h.eval hx
  have hry := h.eval hy
  generalize hux : a.eval x = ux at hrx run0
  generalize huy : a.eval y = uy at hry run0
  obtain ⟨hu1, hzl, ⟨j0, hj1, hj2, hj3, hj4⟩, _⟩ := hT e ei hei
  have hu0 := (hT t _ hti).1
  obtain ⟨vs, hS, hvl, hvd⟩ := src_sound hT h hry hsrc hc2 htx
  have hS' : Src P j0.size tx uy n vs w := by rw [hj3]; exact hS
  have hmax : m + n ≤ maxI := by
    have : m + n ≤ (m + n) * ei.bytes := Nat.le_mul_of_pos_right _ hby0
    unfold maxI; omega
  have hgrow : ∀ cap, cap < m + n → Builtin.nextslicecap (m + n) cap * j0.bytes ≤ 281474976710656 := fun cap hcap => by
    rw [hj4]
    have h1 := nextslicecap_le (need := m + n) (old := cap) hcap
    have h2 : Builtin.nextslicecap (m + n) cap * ei.bytes ≤ 2 * (m + n) * ei.bytes := Nat.mul_le_mul_right _ h1
    rw [Nat.mul_assoc] at h2
    omega
  have hcap := grownCap_ge w (m + n)
  have hcapm := fun cap => grownCap_le_maxLen w (m + n) cap e (by unfold maxLen; unfold maxI at hmax; omega)
  -- a new row, whatever stood there
  have grows : ∀ (base : Option Addr) (cap : Nat) (k : Nat) (us : List Value), ux = .slice base m cap → cap < m + n → us.length = olds.length → us.length = m * ei.size → (∀ (j : Nat) e v, olds[j]? = some e → us[j]? = some v → RD E w e v) → (∀ u ∈ us, u.oneCell' = true) →
      (Builtin.firstCells j0.size m (.slice base m cap)).run P w.drew = .ok us.toArray w.drew →
      Post P cx E s a w i o (some (.ref ky nm 0 (m + n) ei.size)) [(ky, some (nm, .b ⟨olds ++ news, e, true⟩)), (k, none)] := by
    intro base cap k us hbase hlt hul hum hud huo hfc
    subst hbase
    have hr := run_append_grow_src (P := P) w t tx o.type e j0 ei.zero (by rw [hu0]) hj1 hj2 base m cap us hfc uy n vs hS' hlt (by unfold maxI at hmax; omega) (hgrow cap hlt)
    obtain ⟨k1, k2⟩ := h.kill k
    have k1' := k1.drew
    obtain ⟨q1, q2, q3, q4, q5⟩ := k1'.new (ky := ky) hi hg e (olds ++ news) (us ++ vs ++ (Builtin.zeroCells ei.zero.cells (grownCap w (m + n) cap e - (m + n))).toList) true (0, 0) (NoFr.zero _) (by simp [hul, hvl]) (fun hh => by cases hh)
      (fun j d hj => by
        obtain ⟨u, a1, a2, a3⟩ := zip_get (E := E) (w := w) hul hvl hud hvd huo hS.one _ j d hj
        exact ⟨u, a1, a2, (a3.step k2).step (Stp.drew _ w)⟩)
    refine ⟨_, _, (k2.trans (Stp.drew _ w)).trans q2, q1, ⟨fun b hb => q5.own b (.inl hb), fun b hb _ => Below.heap_alloc w.drew _ b hb, fun x hx hw => ?_⟩, .slice (some ⟨w.heap.size, 0, none⟩) (m + n) (grownCap w (m + n) cap e), ?_, ?_⟩
    · obtain ⟨k', g', blk', hk', hx'⟩ := q5.old x hx hw
      rcases Tr.of_set hk' with ⟨_, hv⟩ | ⟨_, hk'⟩
      · cases hv
      · exact ⟨k', g', blk', hk', hx'⟩
    · rw [run0 hr]
      congr 2
      simp
    · have hc2 := hcap cap e
      have hc3 := hcapm cap
      refine .ref ky nm 0 (m + n) ei.size _ w.heap.size 0 e _ q3 q4 ⟨hc2, by unfold maxLen at hc3; unfold maxI; omega⟩ (.inl rfl) (shape_cells (cell_of_alloc w.drew _)) ?_
      simp [Builtin.zeroCells, hum, hS.newsLen, hzl]
      rw [← Nat.add_mul, ← Nat.add_mul]
      exact Nat.mul_le_mul_right _ (by omega)
  -- nothing stood there
  have nils : ∀ k, ux = .slice none 0 0 → m = 0 → olds = [] → Post P cx E s a w i o (some (.ref ky nm 0 (m + n) ei.size)) [(ky, some (nm, .b ⟨olds ++ news, e, true⟩)), (k, none)] := by
    intro k hux0 hm0 ho0
    subst hm0 ho0
    rcases Nat.eq_zero_or_pos n with hn0 | hn0
    · subst hn0
      have hvs : vs = [] := List.eq_nil_of_length_eq_zero (by rw [hS.newsLen]; omega)
      have hnews : news = [] := List.eq_nil_of_length_eq_zero (by rw [← hvl, hvs]; rfl)
      subst hnews hvs hux0
      have hr := run_append_nothing (P := P) w t tx o.type e j0 (by rw [hu0]) hj1 none 0 0 (Nat.le_refl _) uy hS'
      obtain ⟨q1, q2, q3, q4, q5⟩ := h.rename (ky := ky) (k := k) hi hg none (fun b hb => by cases hb) ⟨[], e, true⟩ (grown_refl _ _) rfl (fun _ _ => rfl) ⟨rfl, rfl⟩
      exact ⟨_, _, q2, q1, q5, _, run0 hr, .refn ky nm ei.size q3 q4⟩
    · exact grows none 0 k [] hux0 (by omega) rfl (by simp) (by simp) (by simp) (run_firstCells_none w.drew _ _ _ _)
  cases hrx with
  | v cst h1 =>
    unfold dstD at hdst
    split at hdst
    case h_2 e1 =>
      cases e1; cases hdst
      have hh := nils ky rfl rfl rfl
      rw [Nat.zero_add] at hh
      exact hh
    all_goals first | (rename_i e1; cases e1; done) | cases hdst
  | ref k g off n' sz c' b off' tt mm hg' hb hc3 hoff hsh hmm =>
    simp only [dstD] at hdst
    cases hk : s.at k with
    | none => rw [hk] at hdst; cases hdst
    | some p =>
    obtain ⟨g', blk⟩ := p
    rw [hk] at hdst
    have hs := Option.some.inj hdst
    injection hs with hs1 hs2
    injection hs2 with hs2 hs3
    injection hs3 with hs3 hs4
    subst hs1 hs2 hs3 hs4
    simp only [Bool.and_eq_true] at hc1
    obtain ⟨⟨⟨⟨hgg, hsz⟩, hof⟩, hlen⟩, hel⟩ := hc1
    obtain rfl : g = g' := Nat.eq_of_beq_eq_true hgg
    obtain rfl : sz = ei.size := Nat.eq_of_beq_eq_true hsz
    obtain rfl : off = 0 := Nat.eq_of_beq_eq_true hof
    have hlen := Nat.eq_of_beq_eq_true hlen
    have hel : blk.elem = e := Nat.eq_of_beq_eq_true hel
    obtain ⟨hlt, hown, cur, fr, hcur, hfz, hcl, _, hcell⟩ := h.block hk hb
    have hshm : mm = cur.size := by rw [shape_cells hcur] at hsh; cases hsh; rfl
    by_cases hroom : n' + n ≤ c'
    · -- there is room
      have hcells : ∀ j, j < vs.length → (off' + n' * j0.size + j) < cur.size := fun j hj => by
        rw [hS'.newsLen] at hj
        have h1 : n' * j0.size + n * j0.size ≤ c' * ei.size := by rw [hj3, ← Nat.add_mul]; exact Nat.mul_le_mul_right _ hroom
        omega
      have hr := run_append_room_src (P := P) w t tx o.type e j0 (by rw [hu0]) hj1 b off' n' c' uy n vs hS' hroom
        (fun j hj => by rw [cell_of_row w b _ cur blk.elem fr hcur, Array.getElem?_eq_getElem (hcells j hj)]; rfl) (fun j hj => frozen_fr w b _ cur blk.elem fr hcur hfz (hcells j hj))
      have hoff0 : off' = 0 ∨ (n' = 0 ∧ n = 0) := by
        rcases hoff with h1 | ⟨h1, h2⟩
        · exact .inl h1
        · exact .inr ⟨h1, by omega⟩
      have hvlen : vs.length = n * ei.size := by rw [hS.newsLen]
      have hfitc : off' + n' * j0.size + vs.length ≤ cur.size := by
        rw [hvlen, hj3]
        have h1 : n' * ei.size + n * ei.size ≤ c' * ei.size := by rw [← Nat.add_mul]; exact Nat.mul_le_mul_right _ hroom
        omega
      obtain ⟨cur', hcur', hsz', hget'⟩ := setCells_get w b (off' + n' * j0.size) cur blk.elem fr vs hcur hfitc
      obtain ⟨hgr, hz⟩ := setCells_grown b vs (off' + n' * j0.size) w
      obtain ⟨q1, q2, q3, q4, q5⟩ := h.rename (ky := ky) (k := k) hi hg (some b) (fun b' hb' => by cases hb'; exact ⟨g, blk, hk, hb⟩) ⟨blk.cells ++ news, e, true⟩ hgr hz
        (fun x hx => by
          by_cases e1 : x = b
          · subst e1; rw [shape_cells hcur, shape_cells hcur', hsz']
          · exact shape_of_block (hgr.block x hx (fun e2 => by cases e2; exact e1 rfl)))
        ⟨cur', fr, by rw [← hel]; exact hcur', by rw [hsz']; exact hfz, by
          rw [List.length_append, ← hvl, ← hlen, hvlen, hsz', ← hshm, ← Nat.add_mul]
          exact Nat.le_trans (Nat.mul_le_mul_right _ hroom) (by omega), (fun hh => by cases hh), fun j d hj => by
          rcases Nat.lt_or_ge j blk.cells.length with hjl | hjl
          · rw [List.getElem?_append_left hjl] at hj
            obtain ⟨u, h1, h2, h3⟩ := hcell j d hj
            refine ⟨u, ?_, h2, h3⟩
            rw [hget', if_neg (fun hh => ?_)]
            · exact h1
            · rcases hoff0 with h0 | ⟨h0, h0'⟩
              · rw [hj3] at hh; omega
              · rw [hvlen, h0', Nat.zero_mul] at hh; omega
          · rw [List.getElem?_append_right hjl] at hj
            have hjn := (List.getElem?_eq_some_iff.1 hj).1
            have hjv : j - blk.cells.length < vs.length := by omega
            have h0 : off' = 0 := by
              rcases hoff0 with h0 | ⟨h0, h0'⟩
              · exact h0
              · rw [hvlen, h0', Nat.zero_mul] at hjv; omega
            refine ⟨vs[j - blk.cells.length], ?_, hS.one _ (List.getElem_mem hjv), hvd _ d _ hj (by simp [hjv])⟩
            rw [hget', if_pos (by rw [hj3]; omega)]
            have : j - (off' + n' * j0.size) = j - blk.cells.length := by rw [hj3]; omega
            rw [this]; simp [hjv]⟩
      refine ⟨_, _, q2, q1, q5, _, run0 hr, .ref ky nm 0 (n' + n) ei.size c' b off' blk.elem cur.size q3 q4 ⟨hroom, hc3.2⟩ ?_ ?_ (by omega)⟩
      · rcases hoff with h1 | ⟨h1, h2⟩
        · exact .inl h1
        · exact .inr ⟨by omega, h2⟩
      · rw [shape_cells hcur', hsz']
    · -- there is none
      have hv : Vw E w b 0 blk.cells := fun j d hj => by
        obtain ⟨v, hv1, hv2, hv3⟩ := hcell j d hj
        exact ⟨v, by rw [Nat.zero_add, cell_of_row w b j cur blk.elem fr hcur]; exact hv1, hv2, hv3⟩
      obtain ⟨us, hl, hrg, h1, hd⟩ := hv.seg (off := 0) (m := blk.cells.length) (by omega)
      refine grows (some ⟨b, off', none⟩) c' k us rfl (by omega) hl (by rw [hl, hlen]) (fun j d v hj hv' => hd j d v (by rw [List.drop_zero, List.take_length]; exact hj) hv') h1 ?_
      refine run_firstCells_some w.drew _ _ _ _ _ us (by rw [hl, hj3, hlen]) (fun j v hj => ?_)
      rw [Addr.add_mid]
      rcases hoff with rfl | ⟨h0, h0'⟩
      · exact hrg j v hj
      · have := (List.getElem?_eq_some_iff.1 hj).1
        rw [hl, ← hlen, h0, Nat.zero_mul] at this; omega
  | refn k g sz hg' hb =>
    simp only [dstD] at hdst
    cases hk : s.at k with
    | none => rw [hk] at hdst; cases hdst
    | some p =>
    obtain ⟨g', blk⟩ := p
    rw [hk] at hdst
    have hs := Option.some.inj hdst
    injection hs with hs1 hs2
    injection hs2 with hs2 hs3
    injection hs3 with hs3 hs4
    subst hs1 hs2 hs3 hs4
    simp only [Bool.and_eq_true] at hc1
    obtain ⟨⟨⟨⟨hgg, hsz⟩, hof⟩, hlen⟩, hel⟩ := hc1
    obtain rfl : g = g' := Nat.eq_of_beq_eq_true hgg
    have := (h.hp k g blk hk).2
    rw [hb] at this
    exact nils k rfl rfl this.1
  | _ => cases hdst
end
end Go.Vx

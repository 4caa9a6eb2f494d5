/- VxIb: append where the old slice stays of use: it has two outcomes. No program. -/
import Derived.Test.YtegjeagfcfhbeaaVxI
namespace Go.Vx
set_option linter.unusedVariables false
set_option linter.unusedSimpArgs false
open Go.RowKit Go.Bw
section
variable {P : Program} {cx : Cx} {E : Env} {s : AS} {a : Act} {w : World} {i : Nat} {o : Oper} {T : TT}

/-- What is appended in place, or copied: the test, what comes of it in place, and what comes of it in a new row. -/
def app2 (T : TT) (s : AS) (nm ky : Nat) (ts : Array TypeId) (xs : Array Operand) : Option (Bool × (D × Up) × (D × Up)) :=
  match ts.toList, xs.toList with
  | [t, tx], [x, y] => match T.get t, T.get tx, evO s x, evO s y with
    | some ⟨.slice e, _, _, _, _⟩, some ti, some (.ref k g off n' sz), some dy => match T.get e, s.at k with
      | some ei, some p => match srcD s ei.size ti.desc dy with
        | some (c2, n, news) =>
          some (Nat.beq g p.1 && Nat.beq sz ei.size && Nat.beq off 0 && Nat.beq (n' * ei.size) p.2.cells.length && Nat.beq p.2.elem e && c2 && decide (0 < ei.size) && decide (0 < ei.bytes) && Nat.ble ((n' + n) * ei.bytes) 140737488355328 && Nat.blt 0 n' && Tr.okK k && Tr.okK ky,
            (.ref k g 0 (n' + n) ei.size, [(k, some (g, .b ⟨p.2.cells ++ news, e, true⟩)), (ky, none)]),
            (.ref ky nm 0 (n' + n) ei.size, [(ky, some (nm, .b ⟨p.2.cells ++ news, e, true⟩))]))
        | none => none
      | _, _ => none
    | _, _, _, _ => none
  | _, _ => none

/-- The same block under its elder name. -/
theorem SR.swap {s2 s3 : AS} (q : SR cx E s2 a w) {k ky g nm : Nat} {nb : Blk} (hk : s2.gat ky = some (nm, .b nb)) (hg : E.nm g) (hφ : E.φ g = E.φ nm) (htm : s3.tm = s2.tm) (hnx : s3.nx = s2.nx) (hus : s3.us = s2.us)
    (hat : ∀ {k' g' o'}, s3.gat k' = some (g', o') → (k' = k ∧ g' = g ∧ o' = .b nb) ∨ (k' ≠ k ∧ k' ≠ ky ∧ s2.gat k' = some (g', o'))) : SR cx E s3 a w ∧ ∀ x, ownOf s3 E.φ x → ownOf s2 E.φ x := by
  have own : ∀ x, ownOf s3 E.φ x → ownOf s2 E.φ x := fun x ⟨k', g', o', h1, h2⟩ => by
    rcases hat h1 with ⟨_, rfl, _⟩ | ⟨_, _, h3⟩
    · exact ⟨ky, nm, _, hk, hφ ▸ h2⟩
    · exact ⟨k', g', o', h3, h2⟩
  refine ⟨{ q with
    fr := fun t d hd => q.fr t d (htm ▸ hd)
    hp := fun k' g' b' h1 => ?_
    lp := fun k' g' r h1 => ?_
    inj := fun k1 k2 g1 g2 o1 o2 hne h1 h2 x hx => ?_
    low := fun x hx => q.low x (own x hx)
    nm := fun g' hg' => by rw [hnx, hus]; exact q.nm g' hg' }, own⟩
  · rcases hat (AS.at_iff.1 h1) with ⟨_, rfl, h3⟩ | ⟨_, _, h3⟩
    · cases h3
      have := q.hp ky nm nb (AS.at_iff.2 hk)
      exact ⟨hg, hφ ▸ this.2⟩
    · exact q.hp _ _ _ (AS.at_iff.2 h3)
  · rcases hat (AS.lat_iff.1 h1) with ⟨_, rfl, h3⟩ | ⟨_, _, h3⟩
    · cases h3
    · exact q.lp _ _ _ (AS.lat_iff.2 h3)
  · rcases hat h1 with ⟨rfl, rfl, _⟩ | ⟨n1, n2, h3⟩ <;> rcases hat h2 with ⟨rfl, rfl, _⟩ | ⟨n3, n4, h4⟩
    · exact absurd rfl hne
    · exact q.inj ky k2 nm g2 _ _ (Ne.symm n4) hk h4 x (hφ ▸ hx)
    · rw [hφ]; exact q.inj k1 ky g1 nm _ _ n2 h3 hk x hx
    · exact q.inj k1 k2 g1 g2 _ _ hne h3 h4 x hx

theorem append2_sound (hT : T.ok P) (h : SR cx E s a w) (hi : i ∉ s.us) {nm ky : Nat} (hg : s.nx + 8 * i ≤ nm ∧ nm < s.nx + 8 * i + 8) {c : Call} (ho : o.op = .call c) (hc : c.callee = .builtin .append) {v1 v2 : D} {up1 up2 : Up} (he : app2 T s nm ky c.argTypes c.args = some (true, (v1, up1), (v2, up2))) :
    Post P cx E s a w i o (some v1) up1 ∨ Post P cx E s a w i o (some v2) up2 := by
  unfold app2 at he
  split at he
  case h_2 => cases he
  case h_1 t tx x y hts hxs =>
  split at he
  case h_2 => cases he
  case h_1 e z1 z2 z3 z4 ti k g off n' sz dy hti htx hx hy =>
  split at he
  case h_2 => cases he
  case h_1 ei p hei hk =>
  split at he
  case h_2 => cases he
  case h_1 c2 n news hsrc =>
  obtain ⟨g', blk⟩ := p
  have he := Option.some.inj he
  injection he with hcond he
  injection he with he1 he2
  injection he1 with hv1 hu1
  injection he2 with hv2 hu2
  subst hv1 hu1 hv2 hu2
  simp only [Bool.and_eq_true, decide_eq_true_eq] at hcond
  obtain ⟨⟨⟨⟨⟨⟨⟨⟨⟨⟨⟨hgg, hsz⟩, hof⟩, hlen⟩, hel⟩, hc2⟩, hsz0⟩, hby0⟩, hfit⟩, hm0⟩, hok⟩, hoky⟩ := hcond
  have hfit := Nat.le_of_ble_eq_true hfit
  have hm0 : 0 < n' := Nat.le_of_ble_eq_true hm0
  have e1 : c.argTypes = #[t, tx] := by apply Array.ext'; simpa using hts
  have e2 : c.args.map a.eval = #[a.eval x, a.eval y] := by apply Array.ext'; rw [Array.toList_map, hxs]; rfl
  have run0 : ∀ {u : Value} {w' : World}, (Builtin.append_ #[t, tx] o.type #[a.eval x, a.eval y]).run P w = .ok u w' → (execOp a.eval o).run P w = .ok (.value u) w' := fun hu => by
    unfold execOp
    simp only [ho, resolve, hc, Sem.run_bind, Sem.run_pure, Result.andThen_ok, invoke, builtin, e1, e2, hu]
  have hrx := h.eval hx
  have hry := h.eval hy
  generalize hux : a.eval x = ux at hrx run0
  generalize huy : a.eval y = uy at hry run0
  obtain ⟨hu1, hzl, ⟨j0, hj1, hj2, hj3, hj4⟩, _⟩ := hT e ei hei
  have hu0 := (hT t _ hti).1
  obtain ⟨vs, hS, hvl, hvd⟩ := src_sound hT h hry hsrc hc2 htx
  have hS' : Src P j0.size tx uy n vs w := by rw [hj3]; exact hS
  have hmax : n' + n ≤ maxI := by
    have : n' + n ≤ (n' + n) * ei.bytes := Nat.le_mul_of_pos_right _ hby0
    unfold maxI; omega
  have hgrow : ∀ cap, cap < n' + n → Builtin.nextslicecap (n' + n) cap * j0.bytes ≤ 281474976710656 := fun cap hcap => by
    rw [hj4]
    have h1 := nextslicecap_le (need := n' + n) (old := cap) hcap
    have h2 : Builtin.nextslicecap (n' + n) cap * ei.bytes ≤ 2 * (n' + n) * ei.bytes := Nat.mul_le_mul_right _ h1
    rw [Nat.mul_assoc] at h2
    omega
  have hcap := grownCap_ge w (n' + n)
  have hcapm := fun cap => grownCap_le_maxLen w (n' + n) cap e (by unfold maxLen; unfold maxI at hmax; omega)
  cases hrx with
  | refn => exact absurd hm0 (by omega)
  | ref _ _ _ _ _ c' b off' tt mm hg' hb hc3 hoff hsh hmm =>
    obtain rfl : g = g' := Nat.eq_of_beq_eq_true hgg
    obtain rfl : sz = ei.size := Nat.eq_of_beq_eq_true hsz
    obtain rfl : off = 0 := Nat.eq_of_beq_eq_true hof
    have hlen := Nat.eq_of_beq_eq_true hlen
    have hel : blk.elem = e := Nat.eq_of_beq_eq_true hel
    obtain ⟨hlt, hown, cur, fr, hcur, hfz, hcl, _, hcell⟩ := h.block hk hb
    have hshm : mm = cur.size := by rw [shape_cells hcur] at hsh; cases hsh; rfl
    by_cases hroom : n' + n ≤ c'
    · -- there is room
      have hcells : ∀ j, j < vs.length → (off' + n' * j0.size + j) < cur.size := fun j hj => by
        rw [hS'.newsLen] at hj
        have h1 : n' * j0.size + n * j0.size ≤ c' * ei.size := by rw [hj3, ← Nat.add_mul]; exact Nat.mul_le_mul_right _ hroom
        omega
      have hr := run_append_room_src (P := P) w t tx o.type e j0 (by rw [hu0]) hj1 b off' n' c' uy n vs hS' hroom
        (fun j hj => by rw [cell_of_row w b _ cur blk.elem fr hcur, Array.getElem?_eq_getElem (hcells j hj)]; rfl) (fun j hj => frozen_fr w b _ cur blk.elem fr hcur hfz (hcells j hj))
      have hoff0 : off' = 0 ∨ (n' = 0 ∧ n = 0) := by
        rcases hoff with h1 | ⟨h1, h2⟩
        · exact .inl h1
        · exact .inr ⟨h1, by omega⟩
      have hvlen : vs.length = n * ei.size := by rw [hS.newsLen]
      have hfitc : off' + n' * j0.size + vs.length ≤ cur.size := by
        rw [hvlen, hj3]
        have h1 : n' * ei.size + n * ei.size ≤ c' * ei.size := by rw [← Nat.add_mul]; exact Nat.mul_le_mul_right _ hroom
        omega
      obtain ⟨cur', hcur', hsz', hget'⟩ := setCells_get w b (off' + n' * j0.size) cur blk.elem fr vs hcur hfitc
      obtain ⟨hgr, hz⟩ := setCells_grown b vs (off' + n' * j0.size) w
      obtain ⟨q1, q2, q3, q4, q5⟩ := h.rename (ky := ky) (k := k) hi hg (some b) (fun b' hb' => by cases hb'; exact ⟨g, blk, hk, hb⟩) ⟨blk.cells ++ news, e, true⟩ hgr hz
        (fun x hx => by
          by_cases e1 : x = b
          · subst e1; rw [shape_cells hcur, shape_cells hcur', hsz']
          · exact shape_of_block (hgr.block x hx (fun e2 => by cases e2; exact e1 rfl)))
        ⟨cur', fr, by rw [← hel]; exact hcur', by rw [hsz']; exact hfz, by
          rw [List.length_append, ← hvl, ← hlen, hvlen, hsz', ← hshm, ← Nat.add_mul]
          exact Nat.le_trans (Nat.mul_le_mul_right _ hroom) (by omega), (fun hh => by cases hh), fun j d hj => by
          rcases Nat.lt_or_ge j blk.cells.length with hjl | hjl
          · rw [List.getElem?_append_left hjl] at hj
            obtain ⟨u, h1, h2, h3⟩ := hcell j d hj
            refine ⟨u, ?_, h2, h3⟩
            rw [hget', if_neg (fun hh => ?_)]
            · exact h1
            · rcases hoff0 with h0 | ⟨h0, h0'⟩
              · rw [hj3] at hh; omega
              · rw [hvlen, h0', Nat.zero_mul] at hh; omega
          · rw [List.getElem?_append_right hjl] at hj
            have hjn := (List.getElem?_eq_some_iff.1 hj).1
            have hjv : j - blk.cells.length < vs.length := by omega
            have h0 : off' = 0 := by
              rcases hoff0 with h0 | ⟨h0, h0'⟩
              · exact h0
              · rw [hvlen, h0', Nat.zero_mul] at hjv; omega
            refine ⟨vs[j - blk.cells.length], ?_, hS.one _ (List.getElem_mem hjv), hvd _ d _ hj (by simp [hjv])⟩
            rw [hget', if_pos (by rw [hj3]; omega)]
            have : j - (off' + n' * j0.size) = j - blk.cells.length := by rw [hj3]; omega
            rw [this]; simp [hjv]⟩
      have hat : ∀ {k' g' : Nat} {o' : Ob}, AS.gat { s with hp := upH [(k, some (g, .b ⟨blk.cells ++ news, e, true⟩)), (ky, none)] s.hp, us := i :: s.us } k' = some (g', o') → (k' = k ∧ g' = g ∧ o' = .b ⟨blk.cells ++ news, e, true⟩) ∨ (k' ≠ k ∧ k' ≠ ky ∧ AS.gat { s with hp := (s.hp.set k none).set ky (some (nm, .b ⟨blk.cells ++ news, e, true⟩)), us := i :: s.us } k' = some (g', o')) := fun {k' g' o'} hh => by
        rcases Tr.of_set hh with ⟨e1, hv⟩ | ⟨e1, hh⟩
        · cases hv; exact .inl ⟨e1, rfl, rfl⟩
        · rcases Tr.of_set hh with ⟨_, hv⟩ | ⟨e2, hh⟩
          · cases hv
          · exact .inr ⟨e1, e2, (by show ((s.hp.set k none).set ky (some (nm, .b ⟨blk.cells ++ news, e, true⟩))).get k' = _; rw [Tr.get_set _ _ _ hoky, if_neg e2, Tr.get_set _ _ _ hok, if_neg e1]; exact hh)⟩
      obtain ⟨r1, r2⟩ := q1.swap (k := k) (ky := ky) (g := g) (nm := nm) (nb := ⟨blk.cells ++ news, e, true⟩) (s3 := { s with hp := upH [(k, some (g, .b ⟨blk.cells ++ news, e, true⟩)), (ky, none)] s.hp, us := i :: s.us })
        (by show ((s.hp.set k none).set ky (some (nm, .b ⟨blk.cells ++ news, e, true⟩))).get ky = _; rw [Tr.get_set _ _ _ hoky, if_pos rfl]) (q2.nm g hg') ((q2.φ g hg').trans (hb.trans q4.symm)) rfl rfl rfl hat
      refine .inl ⟨_, _, q2, r1, ⟨q5.own, q5.heap, fun x hx hw => q5.old x hx (r2 x hw)⟩, _, run0 hr, .ref k g 0 (n' + n) ei.size c' b off' blk.elem cur.size (q2.nm g hg') ((q2.φ g hg').trans hb) ⟨hroom, hc3.2⟩ ?_ ?_ (by omega)⟩
      · rcases hoff with h1 | ⟨h1, h2⟩
        · exact .inl h1
        · exact .inr ⟨by omega, h2⟩
      · rw [shape_cells hcur', hsz']
    · -- there is none
      have hv : Vw E w b 0 blk.cells := fun j d hj => by
        obtain ⟨v, hv1, hv2, hv3⟩ := hcell j d hj
        exact ⟨v, by rw [Nat.zero_add, cell_of_row w b j cur blk.elem fr hcur]; exact hv1, hv2, hv3⟩
      obtain ⟨us, hl, hrg, h1, hd⟩ := hv.seg (off := 0) (m := blk.cells.length) (by omega)
      have hfc : (Builtin.firstCells j0.size n' (.slice (some ⟨b, off', none⟩) n' c')).run P w.drew = .ok us.toArray w.drew := by
        refine run_firstCells_some w.drew _ _ _ _ _ us (by rw [hl, hj3, hlen]) (fun j v hj => ?_)
        rw [Addr.add_mid]
        rcases hoff with rfl | ⟨h0, h0'⟩
        · exact hrg j v hj
        · omega
      have hlt2 : c' < n' + n := by omega
      have hr := run_append_grow_src (P := P) w t tx o.type e j0 ei.zero (by rw [hu0]) hj1 hj2 (some ⟨b, off', none⟩) n' c' us hfc uy n vs hS' hlt2 (by unfold maxI at hmax; omega) (hgrow c' hlt2)
      obtain ⟨q1, q2, q3, q4, q5⟩ := h.drew.new (ky := ky) hi hg e (blk.cells ++ news) (us ++ vs ++ (Builtin.zeroCells ei.zero.cells (grownCap w (n' + n) c' e - (n' + n))).toList) true (0, 0) (NoFr.zero _) (by simp [hl, hvl]) (fun hh => by cases hh)
        (fun j d hj => by
          obtain ⟨u, a1, a2, a3⟩ := zip_get (E := E) (w := w) hl hvl (fun j d v hj hv' => hd j d v (by rw [List.drop_zero, List.take_length]; exact hj) hv') hvd h1 hS.one _ j d hj
          exact ⟨u, a1, a2, a3.step (Stp.drew _ w)⟩)
      refine .inr ⟨_, _, (Stp.drew _ w).trans q2, q1, ⟨fun b hb => q5.own b hb, fun b hb _ => Below.heap_alloc w.drew _ b hb, fun x hx hw => q5.old x hx hw⟩, .slice (some ⟨w.heap.size, 0, none⟩) (n' + n) (grownCap w (n' + n) c' e), ?_, ?_⟩
      · rw [run0 hr]
        congr 2
        simp
      · have hc2 := hcap c' e
        have hc3 := hcapm c'
        refine .ref ky nm 0 (n' + n) ei.size _ w.heap.size 0 e _ q3 q4 ⟨hc2, by unfold maxLen at hc3; unfold maxI; omega⟩ (.inl rfl) (shape_cells (cell_of_alloc w.drew _)) ?_
        simp [Builtin.zeroCells, hl, hlen, hS.newsLen, hzl]
        rw [← hlen, ← Nat.add_mul, ← Nat.add_mul]
        exact Nat.mul_le_mul_right _ (by omega)
end
end Go.Vx

/- VxNl: nil, told as a slice of one's own with nothing in it. No program. -/
import Derived.Test.YtegjeagfcfhbeaaVxN
namespace Go.Vx
set_option linter.unusedVariables false
set_option linter.unusedSimpArgs false
open Go.RowKit Go.Bw

def nilDv : D := .v (.slice none 0 0)
theorem RD.nil_eq {E : Env} {w : World} {u : Value} (h : RD E w nilDv u) : u = .slice none 0 0 := by
  cases h; rfl
section
variable {P : Program} {rd : Bool} {nt : Nat}

/-- A name for nothing. -/
theorem SR.nilN {cx : Cx} {E : Env} {s : AS} {a : Act} {w : World} (h : SR cx E s a w) (hu : s.us = []) (ky : Nat) (elem : TypeId) :
    let s' : AS := { s with hp := s.hp.set ky (some (s.nx, .b ⟨[], elem, true⟩)), nx := s.nx + 8 }
    SR cx (E.add s' s.nx none) s' a w ∧ Stp E (E.add s' s.nx none) w w ∧ (E.add s' s.nx none).nm s.nx ∧ (E.add s' s.nx none).φ s.nx = none ∧ Mut s s' E (E.add s' s.nx none) w w := by
  intro s'
  have hfr : ¬ E.nm s.nx := fun hn => by
    rcases h.nm _ hn with h1 | ⟨j, hj, h1, h2⟩
    · omega
    · rw [hu] at hj; cases hj
  have hat : ∀ {k' g' o'}, s'.gat k' = some (g', o') → (k' = ky ∧ g' = s.nx ∧ o' = .b ⟨[], elem, true⟩) ∨ (k' ≠ ky ∧ s.gat k' = some (g', o')) := fun hk => by
    rcases Tr.of_set hk with ⟨e, hv⟩ | ⟨e, hk⟩
    · cases hv; exact .inl ⟨e, rfl, rfl⟩
    · exact .inr ⟨e, hk⟩
  have hne : ∀ {k g' o'}, s.gat k = some (g', o') → g' ≠ s.nx := fun hk e => by subst e; exact hfr (h.ob hk).nm
  have hφg : (E.add s' s.nx none).φ s.nx = none := upd_same _ _ _
  have hown : ∀ {x}, ownOf s' (upd E.φ s.nx none) x → ownOf s E.φ x := fun {x} ⟨k, g', o', hk, hx⟩ => by
    rcases hat hk with ⟨_, rfl, _⟩ | ⟨_, hk⟩
    · rw [upd_same] at hx; cases hx
    · rw [upd_other (hne hk)] at hx; exact ⟨k, g', o', hk, hx⟩
  have hs : Stp E (E.add s' s.nx none) w w := by
    refine ⟨fun x hx => .inl hx, fun x hx => ?_, Nat.le_refl _, fun b hb ho => ⟨?_, rfl⟩, fun b hb => rfl⟩
    · exact upd_other (fun e => by subst e; exact hfr hx)
    · rintro (ho' | ho')
      · exact ho ho'
      · exact ho (h.own_of (hown ho'))
  have hold : ∀ {k g' o'}, s'.gat k = some (g', o') → OB (E.add s' s.nx none) w g' o' := fun {k g' o'} hk => by
    rcases hat hk with ⟨rfl, rfl, rfl⟩ | ⟨_, hk0⟩
    · refine ⟨.inr rfl, ?_⟩
      rw [hφg]; exact ⟨rfl, rfl⟩
    · exact (h.ob hk0).step hs fun b hb => ⟨.inr ⟨k, g', o', hk, (upd_other (hne hk0)).trans hb⟩, rfl⟩
  have hmut : Mut s s' E (E.add s' s.nx none) w w := ⟨fun b hb => .inl hb, fun b hb _ => rfl, fun x hlt' hx => hown hx⟩
  refine ⟨h.turn _ _ rfl hs (fun k g' b hk => hold (AS.at_iff.1 hk)) (fun k g' r hk => hold (AS.lat_iff.1 hk)) ?_ (fun x hx => h.low x (hown hx)) (Fr.refl _ _) ?_ hmut.heap, hs, .inr rfl, hφg, hmut⟩
  · intro k k' g1 g2 o1 o2 hkk h1 h2 x hx1 hx2
    rcases hat h1 with ⟨_, rfl, _⟩ | ⟨_, a1⟩
    · rw [upd_same] at hx1; cases hx1
    · rcases hat h2 with ⟨_, rfl, _⟩ | ⟨_, a2⟩
      · rw [upd_same] at hx2; cases hx2
      · rw [upd_other (hne a1)] at hx1
        rw [upd_other (hne a2)] at hx2
        exact h.inj k k' g1 g2 o1 o2 hkk a1 a2 x hx1 hx2
  · rintro n (hn | rfl)
    · rcases h.nm n hn with h1 | ⟨j, hj, h1⟩
      · exact .inl (Nat.lt_of_lt_of_le h1 (Nat.le_add_right _ _))
      · rw [hu] at hj; cases hj
    · exact .inl (Nat.lt_add_of_pos_right (by omega))

/-- A slot is told in other words. -/
theorem SR.slotSim {cx : Cx} {E : Env} {s : AS} {a : Act} {w : World} (h : SR cx E s a w) {t : Nat} {d d' : D} (ht : s.tm.get t = some d) (hd : ∀ u, RD E w d u → RD E w d' u) : SR cx E { s with tm := s.tm.set t (some d') } a w := by
  refine { h with fr := fun t' x hx => ?_ }
  rcases Tr.of_set hx with ⟨rfl, hv⟩ | ⟨_, hx⟩
  · cases hv
    obtain ⟨u, hu, hr⟩ := h.fr _ _ ht
    exact ⟨u, hu, hd u hr⟩
  · exact h.fr t' x hx
/-- A cell is told in other words. -/
theorem SR.cellSim {cx : Cx} {E : Env} {s : AS} {a : Act} {w : World} (h : SR cx E s a w) {k g j : Nat} {b : Blk} {d d' : D} (hk : s.at k = some (g, b)) (hrow : b.row = false) (hj : b.cells[j]? = some d) (hd : ∀ u, RD E w d u → RD E w d' u) :
    SR cx E { s with hp := s.hp.set k (some (g, .b ⟨b.cells.set j d', b.elem, b.row⟩)) } a w ∧ Mut s { s with hp := s.hp.set k (some (g, .b ⟨b.cells.set j d', b.elem, b.row⟩)) } E E w w := by
  have hat : ∀ {k' g' o'}, AS.gat { s with hp := s.hp.set k (some (g, .b ⟨b.cells.set j d', b.elem, b.row⟩)) } k' = some (g', o') → (k' = k ∧ g' = g ∧ o' = .b ⟨b.cells.set j d', b.elem, b.row⟩) ∨ (k' ≠ k ∧ s.gat k' = some (g', o')) := fun hk => by
    rcases Tr.of_set hk with ⟨e, hv⟩ | ⟨e, hk⟩
    · cases hv; exact .inl ⟨e, rfl, rfl⟩
    · exact .inr ⟨e, hk⟩
  have hold : ∀ {k' g' o'}, AS.gat { s with hp := s.hp.set k (some (g, .b ⟨b.cells.set j d', b.elem, b.row⟩)) } k' = some (g', o') → ∃ o'', s.gat k' = some (g', o'') := fun hh => by
    rcases hat hh with ⟨rfl, rfl, rfl⟩ | ⟨_, hh⟩
    · exact ⟨_, AS.at_iff.1 hk⟩
    · exact ⟨_, hh⟩
  refine ⟨{ h with
    hp := fun k' g' b' hk' => ?_
    lp := fun k' g' r hk' => ?_
    inj := fun k1 k2 g1 g2 o1 o2 hkk h1 h2 => ?_
    low := fun x ⟨k', g', o', hk', hx⟩ => ?_ }, ⟨fun _ h => h, fun _ _ _ => rfl, fun x _ ⟨k', g', o', hk', hx⟩ => ?_⟩⟩
  · rcases hat (AS.at_iff.1 hk') with ⟨rfl, rfl, e⟩ | ⟨_, hk0⟩
    · cases e
      obtain ⟨h1, h2⟩ := h.hp _ _ _ hk
      refine ⟨h1, ?_⟩
      cases hp : E.φ g' with
      | none => rw [hp] at h2; rw [hrow] at h2; cases h2.2
      | some x =>
        rw [hp] at h2
        obtain ⟨a1, a2, cur, fr, a3, a4, a5, a6, a7⟩ := h2
        refine ⟨a1, a2, cur, fr, a3, a4, by simpa using a5, fun hr => by simpa using a6 hr, fun i e he => ?_⟩
        by_cases hij : i = j
        · subst hij
          have hlt : i < b.cells.length := (List.getElem?_eq_some_iff.1 hj).1
          have : (b.cells.set i d')[i]? = some d' := by simp [hlt]
          rw [this] at he; cases he
          obtain ⟨u, u1, u2, u3⟩ := a7 i d hj
          exact ⟨u, u1, u2, hd u u3⟩
        · exact a7 i e (by rw [← he]; simp [List.getElem?_set, Ne.symm hij])
    · exact h.hp _ _ _ (AS.at_iff.2 hk0)
  · rcases hat (AS.lat_iff.1 hk') with ⟨rfl, rfl, e⟩ | ⟨_, hk0⟩
    · cases e
    · exact h.lp _ _ _ (AS.lat_iff.2 hk0)
  · obtain ⟨o3, h3⟩ := hold h1
    obtain ⟨o4, h4⟩ := hold h2
    exact h.inj k1 k2 g1 g2 o3 o4 hkk h3 h4
  · obtain ⟨o3, h3⟩ := hold hk'
    exact h.low x ⟨_, _, _, h3, hx⟩
  · obtain ⟨o3, h3⟩ := hold hk'
    exact ⟨_, _, _, h3, hx⟩

/-- A thing that is kept is told in other words. -/
theorem SR.obSim {cx : Cx} {E : Env} {s : AS} {a : Act} {w : World} (h : SR cx E s a w) {k g : Nat} {o o' : Ob} (hk : s.gat k = some (g, o)) (ho : OB E w g o') :
    SR cx E { s with hp := s.hp.set k (some (g, o')) } a w ∧ Mut s { s with hp := s.hp.set k (some (g, o')) } E E w w := by
  have hat : ∀ {k' g' o''}, AS.gat { s with hp := s.hp.set k (some (g, o')) } k' = some (g', o'') → (k' = k ∧ g' = g ∧ o'' = o') ∨ (k' ≠ k ∧ s.gat k' = some (g', o'')) := fun hk => by
    rcases Tr.of_set hk with ⟨e, hv⟩ | ⟨e, hk⟩
    · cases hv; exact .inl ⟨e, rfl, rfl⟩
    · exact .inr ⟨e, hk⟩
  have hold : ∀ {k' g' o''}, AS.gat { s with hp := s.hp.set k (some (g, o')) } k' = some (g', o'') → ∃ o3, s.gat k' = some (g', o3) := fun hh => by
    rcases hat hh with ⟨rfl, rfl, rfl⟩ | ⟨_, hh⟩
    · exact ⟨_, hk⟩
    · exact ⟨_, hh⟩
  have hob : ∀ {k' g' o''}, AS.gat { s with hp := s.hp.set k (some (g, o')) } k' = some (g', o'') → OB E w g' o'' := fun hh => by
    rcases hat hh with ⟨rfl, rfl, rfl⟩ | ⟨_, hh⟩
    · exact ho
    · exact h.ob hh
  refine ⟨{ h with
    hp := fun k' g' b' hk' => hob (AS.at_iff.1 hk')
    lp := fun k' g' r hk' => hob (AS.lat_iff.1 hk')
    inj := fun k1 k2 g1 g2 o1 o2 hkk h1 h2 => ?_
    low := fun x ⟨k', g', o', hk', hx⟩ => ?_ }, ⟨fun _ h => h, fun _ _ _ => rfl, fun x _ ⟨k', g', o', hk', hx⟩ => ?_⟩⟩
  · obtain ⟨o3, h3⟩ := hold h1
    obtain ⟨o4, h4⟩ := hold h2
    exact h.inj k1 k2 g1 g2 o3 o4 hkk h3 h4
  · obtain ⟨o3, h3⟩ := hold hk'
    exact h.low x ⟨_, _, _, h3, hx⟩
  · obtain ⟨o3, h3⟩ := hold hk'
    exact ⟨_, _, _, h3, hx⟩
/-- A state told in other words. -/
def Ret (s s' : AS) : Prop := ∀ (cx : Cx) (E : Env) (a : Act) (w : World), SR cx E s a w → s.us = [] → ∃ E', SR cx E' s' a w ∧ Stp E E' w w ∧ Mut s s' E E' w w ∧ s'.us = []
theorem Ret.refl (s : AS) : Ret s s := fun _ E _ w h hu => ⟨E, h, Stp.refl E w, Mut.refl s E w, hu⟩
theorem Ret.trans {a b c : AS} (h : Ret a b) (k : Ret b c) : Ret a c := fun cx E x w hs hu => by
  obtain ⟨E1, q1, q2, q3, q4⟩ := h cx E x w hs hu
  obtain ⟨E2, r1, r2, r3, r4⟩ := k cx E1 x w q1 q4
  exact ⟨E2, r1, q2.trans r2, q3.trans r3 (Nat.le_refl _), r4⟩
theorem AWP.ret {xn : Nat} {c : Code} {s s' : AS} {K : AX → AS → Prop} (hr : Ret s s') (h : AWP P rd nt xn c s' K) : AWP P rd nt xn c s K :=
  ⟨fun F n cx E a w Q hF hro hn hu hs hQ => by
    obtain ⟨E', q1, q2, q3, q4⟩ := hr cx E a w hs hu
    exact h.run F n cx E' a w Q hF hro hn q4 q1 fun e s3 E3 a3 w3 hK hu3 hs3 hst3 hmut3 => hQ e s3 E3 a3 w3 hK hu3 hs3 ((q2.x _).trans hst3) (q3.trans hmut3 (Nat.le_refl _))⟩
theorem AWPl.ret {xn : Nat} {c : Code} {s s' : AS} {K : AX → AS → Prop} (hr : Ret s s') (h : AWPl P rd nt xn c s' K) : AWPl P rd nt xn c s K :=
  ⟨fun F n cx E a w Q hF hro hn hu hs hQ => by
    obtain ⟨E', q1, q2, q3, q4⟩ := hr cx E a w hs hu
    exact h.run F n cx E' a w Q hF hro hn q4 q1 fun e s3 E3 a3 w3 hK hu3 hs3 hst3 hmut3 => hQ e s3 E3 a3 w3 hK hu3 hs3 ((q2.x _).trans hst3) (q3.trans hmut3 (Nat.le_refl _))⟩
/-- Code whose end is told in other words, and anew. -/
theorem AWP.cutEndR {xn : Nat} {c : Code} {s : AS} {Q : AX → AS → Prop} (h : AWP P rd nt xn c s fun e s' => ∃ (s2 : AS) (d : CutS), Ret s' s2 ∧ CutE s2 xn d ∧ Q e d.st) : AWP P rd nt xn c s Q :=
  ⟨fun F n cx E a w Q' hF hro hn hu hs hQ => h.run F n cx E a w Q' hF hro hn hu hs fun e s' E' a' w' ⟨s2, d, hr, hd, hK⟩ hu' hs' hst hmut => by
    obtain ⟨E1, r1, r2, r3, r4⟩ := hr cx E' a' w' hs' hu'
    obtain ⟨E2, q1, q2, q3⟩ := r1.cut (hd.le hro.2)
    exact hQ e d.st E2 a' w' hK rfl q1 ((hst.trans (r2.x _)).trans q2) ((hmut.trans r3 hst.size).trans q3 hst.size)⟩
def nilS (s : AS) (t k sz : Nat) (elem : TypeId) : AS := { tm := s.tm.set t (some (.ref k s.nx 0 0 sz)), hp := s.hp.set k (some (s.nx, .b ⟨[], elem, true⟩)), nx := s.nx + 8, us := s.us }
theorem Ret.nilS {s : AS} {t k sz : Nat} {elem : TypeId} (ht : s.tm.get t = some nilDv) : Ret s (nilS s t k sz elem) := fun cx E a w h hu => by
  obtain ⟨q1, q2, q3, q4, q5⟩ := h.nilN hu k elem
  refine ⟨_, q1.slotSim (t := t) (d := nilDv) (d' := .ref k s.nx 0 0 sz) ht fun u hr => ?_, q2, ⟨q5.own, q5.heap, q5.old⟩, hu⟩
  rw [hr.nil_eq]; exact .refn k s.nx sz q3 q4
def recS (s : AS) (k g : Nat) (r : LRec) (t : Nat) (d : D) : AS := { s with hp := s.hp.set k (some (g, .l { r with tm := r.tm.set t (some d) })) }
theorem Ret.recS {s : AS} {k g t : Nat} {r : LRec} {d : D} (hk : s.lat k = some (g, r)) (ht : r.tm.get t = some d) : Ret s (recS s k g r t d) := fun cx E a w h hu => by
  obtain ⟨c1, b, L, c2, c3, c4, c5, c6, c7, c8, c9, c10, c11, c12⟩ := h.lp _ _ _ hk
  obtain ⟨r1, r2⟩ := h.obSim (o' := .l { r with tm := r.tm.set t (some d) }) (AS.lat_iff.1 hk) ⟨c1, b, L, c2, c3, c4, c5, c6, c7, c8, c9, c10, c11, fun t' x hx => by
    rcases Tr.of_set hx with ⟨rfl, hv⟩ | ⟨_, hx⟩
    · cases hv; exact c12 _ _ ht
    · exact c12 t' x hx⟩
  exact ⟨E, r1, Stp.refl E w, r2, hu⟩
def nilC (s : AS) (k0 g0 : Nat) (b : Blk) (j k sz : Nat) (elem : TypeId) : AS := { tm := s.tm, hp := (s.hp.set k (some (s.nx, .b ⟨[], elem, true⟩))).set k0 (some (g0, .b ⟨b.cells.set j (.ref k s.nx 0 0 sz), b.elem, b.row⟩)), nx := s.nx + 8, us := s.us }
theorem Ret.nilC {s : AS} {k0 g0 j k sz : Nat} {b : Blk} {elem : TypeId} (hk : s.at k0 = some (g0, b)) (hne : k0 ≠ k) (hok : Tr.okK k = true) (hrow : b.row = false) (hj : b.cells[j]? = some nilDv) : Ret s (nilC s k0 g0 b j k sz elem) := fun cx E a w h hu => by
  obtain ⟨q1, q2, q3, q4, q5⟩ := h.nilN hu k elem
  have hk' : AS.at { s with hp := s.hp.set k (some (s.nx, .b ⟨[], elem, true⟩)), nx := s.nx + 8 } k0 = some (g0, b) := by
    refine AS.at_iff.2 ?_
    show (s.hp.set k _).get k0 = _
    rw [Tr.get_set _ _ _ hok, if_neg hne]
    exact AS.at_iff.1 hk
  obtain ⟨r1, r2⟩ := q1.cellSim (d' := .ref k s.nx 0 0 sz) hk' hrow hj fun u hr => by rw [hr.nil_eq]; exact .refn k s.nx sz q3 q4
  exact ⟨_, r1, q2, q5.trans r2 (Nat.le_refl _), hu⟩
end
end Go.Vx

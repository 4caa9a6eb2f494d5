/- VxY: what must be shown of code, in the abstract; loops. No program. -/
import Derived.Test.YtegjeagfcfhbeaaVxX
namespace Go.Vx
set_option linter.unusedVariables false
set_option linter.unusedSimpArgs false
open Go.RowKit Go.Bw

def insN (x : Nat) (l : List Nat) : List Nat := bif l.any (fun y => Nat.beq x y) then l else x :: l
def unionN : List Nat → List Nat → List Nat
  | [], m => m
  | x :: l, m => unionN l (insN x m)
/-- What stands ahead of each operation. -/
def prOf : List Oper → List (List Nat) → List (List Nat)
  | [], acc => acc
  | o :: r, acc => prOf r (acc ++ [(edgesOf o).foldl (fun m e => unionN (e :: acc.getD e []) m) []])

/-- A test's outcome is known. -/
def knowS (s : AS) (c : Operand) (b : Bool) : AS :=
  match c with
  | .tmp t => { s with tm := s.tm.set t (some (.v (.bool b))) }
  | _ => s
/-- What stands ahead of what is right. -/
structure okP (pr : List (List Nat)) (l : List Oper) : Prop where
  h : okPr pr 0 l = true

/-- What must be shown of code. -/
def vcC (P : Program) (T : TT) (rd : Bool) (nt xn kb : Nat) : Code → AS → (AX → AS → Prop) → Prop
  | .skip, s, K => K .normal s
  | .region _ ops d, s, K => bif d then (okP (prOf ops.toList []) ops.toList ∧ vcD P T nt kb ops.toList (prOf ops.toList []) 0 ops.toList s [] fun s' => K .normal (s'.fin ops.size))
    else vcL P T nt kb ops.toList 0 ops.toList s fun s' => K .normal (s'.fin ops.size)
  | .seq x y, s, K => vcC P T rd nt xn kb x s fun e s' => match e with
    | .normal => vcC P T rd nt xn kb y s' K
    | e => K e s'
  | .cond c x y, s, K => match evO s c with
    | some (.v (.bool b)) => brP b (vcC P T rd nt xn kb x (knowS s c true) K) (vcC P T rd nt xn kb y (knowS s c false) K)
    | _ => False
  | .block id c, s, K => vcC P T rd nt xn kb c s fun e s' => match e with
    | .exit id' => bif Nat.beq id' id then K .normal s' else K (.exit id') s'
    | e => K e s'
  | .exit id, s, K => K (.exit id) s
  | .ret, s, K => K .ret s
  | .rangeFunc g ps assign body, s, K => chkP (!rd) (match evO s g with
    | some (.fn (.func f) fi ca) => rngP P T nt s f fi ca ps assign body K
    | _ => False)
  | c, s, K => AWP P rd nt xn c s K

section
variable {P : Program} {T : TT} {rd : Bool} {nt xn kb : Nat}

theorem SR.know' {cx : Cx} {E : Env} {s : AS} {a : Act} {w : World} (h : SR cx E s a w) {c : Operand} {b : Bool} (hc : evO s c = some (.v (.bool b))) : SR cx E (knowS s c b) a w := by
  cases c with
  | tmp t => exact h.know hc rfl
  | _ => exact h
theorem know_us (s : AS) (c : Operand) (b : Bool) : (knowS s c b).us = s.us ∧ (knowS s c b).hp = s.hp := by cases c <;> exact ⟨rfl, rfl⟩
theorem Mut.know {s s' : AS} {E E' : Env} {w w' : World} {c : Operand} {b : Bool} (h : Mut (knowS s c b) s' E E' w w') : Mut s s' E E' w w' := by
  have e : ∀ φ x, ownOf (knowS s c b) φ x ↔ ownOf s φ x := fun φ x => by
    unfold ownOf AS.gat; rw [(know_us s c b).2]
  exact ⟨h.own, fun x hx hn => h.heap x hx fun ho => hn ((e _ _).1 ho), fun x hx ho => (e _ _).1 (h.old x hx ho)⟩

theorem vcC_sound (hT : T.ok P) (hfol : P.follows .mixedOrders = true) : ∀ (c : Code) (s : AS) (K : AX → AS → Prop), vcC P T rd nt xn kb c s K → AWP P rd nt xn c s K := by
  intro c
  induction c with
  | skip => exact fun s K h => ⟨fun F n cx E a w Q hF hro hn hu hs hQ => wpIn_skip (hQ .normal s E a w h hu hs ((Stp.refl E w).x _) (Mut.refl s E w))⟩
  | region id ops d =>
    intro s K h
    cases d with
    | true => exact AWP.draw hT hfol _ h.1.h h.2
    | false =>
      refine ⟨fun F n cx E a w Q hF hro hn hu hs hQ => ?_⟩
      subst hn
      refine wpIn_region_list (vcL_sound hF hT (K := fun s' => K .normal (s'.fin ops.size)) ops.toList 0 s E a w hs (by rw [hu]; intro k hk; cases hk) h fun s' E' a' w' hK hs' hst hmut hus => ?_)
      exact hQ .normal _ E' a' w' hK rfl (hs'.fin (by simpa using hus)) (hst.x _) ⟨hmut.own, hmut.heap, hmut.old⟩
  | seq x y ihx ihy =>
    intro s K h
    refine ⟨fun F n cx E a w Q hF hro hn hu hs hQ => ?_⟩
    refine wpIn_seq ((ihx s _ h).run F n cx E a w _ hF hro hn hu hs fun e s' E' a' w' hK hu' hs' hst hmut => ?_)
    cases e with
    | normal => exact (ihy s' K hK).run F n cx E' a' w' Q hF hro hn hu' hs' fun e s2 E2 a2 w2 hK2 hu2 hs2 hst2 hmut2 => hQ e s2 E2 a2 w2 hK2 hu2 hs2 (hst.trans hst2) (hmut.trans hmut2 hst.size)
    | exit id => exact hQ (.exit id) s' E' a' w' hK hu' hs' hst hmut
    | ret => exact hQ .ret s' E' a' w' hK hu' hs' hst hmut
  | cond c x y ihx ihy =>
    intro s K h
    refine ⟨fun F n cx E a w Q hF hro hn hu hs hQ => ?_⟩
    simp only [vcC] at h
    split at h
    case h_2 => exact h.elim
    case h_1 b hc =>
    obtain ⟨h1, h2⟩ := brP_iff.1 h
    have hr := hs.eval hc
    generalize huc : a.eval c = uc at hr
    cases hr
    refine wpIn_cond huc ?_
    cases b with
    | true => exact (ihx _ K (h1 rfl)).run F n cx E a w Q hF hro hn (by rw [(know_us _ _ _).1]; exact hu) (hs.know' hc) fun e s2 E2 a2 w2 hK2 hu2 hs2 hst2 hmut2 => hQ e s2 E2 a2 w2 hK2 hu2 hs2 hst2 hmut2.know
    | false => exact (ihy _ K (h2 rfl)).run F n cx E a w Q hF hro hn (by rw [(know_us _ _ _).1]; exact hu) (hs.know' hc) fun e s2 E2 a2 w2 hK2 hu2 hs2 hst2 hmut2 => hQ e s2 E2 a2 w2 hK2 hu2 hs2 hst2 hmut2.know
  | block id c ih =>
    intro s K h
    refine ⟨fun F n cx E a w Q hF hro hn hu hs hQ => ?_⟩
    refine wpIn_block ((ih s _ h).run F n cx E a w _ hF hro hn hu hs fun e s' E' a' w' hK hu' hs' hst hmut => ?_)
    cases e with
    | normal => exact hQ .normal s' E' a' w' hK hu' hs' hst hmut
    | ret => exact hQ .ret s' E' a' w' hK hu' hs' hst hmut
    | exit id' =>
      simp only [AX.ex, Exit.inBlock]
      dsimp only at hK
      split
      · rename_i e; subst e; simp only [Nat.beq_refl, cond_true] at hK; exact hQ .normal s' E' a' w' hK hu' hs' hst hmut
      · rename_i e
        have : Nat.beq id' id = false := by
          cases hb : Nat.beq id' id with
          | false => rfl
          | true => exact absurd (Nat.eq_of_beq_eq_true hb) e
        rw [this] at hK; exact hQ (.exit id') s' E' a' w' hK hu' hs' hst hmut
  | exit id => exact fun s K h => ⟨fun F n cx E a w Q hF hro hn hu hs hQ => wpIn_exit (hQ (.exit id) s E a w h hu hs ((Stp.refl E w).x _) (Mut.refl s E w))⟩
  | ret => exact fun s K h => ⟨fun F n cx E a w Q hF hro hn hu hs hQ => wpIn_ret (hQ .ret s E a w h hu hs ((Stp.refl E w).x _) (Mut.refl s E w))⟩
  | rangeFunc g ps assign body _ _ =>
    intro s K h
    obtain ⟨h0, h1⟩ := chkP_iff.1 h
    cases rd with
    | true => cases h0
    | false =>
      split at h1
      case h_2 => exact h1.elim
      case h_1 f fi ca hg => exact AWP.range hT hg h1
  | _ => exact fun s K h => h

/-! ### weakening -/
def D.sim (d d' : D) : Prop := ∀ E w u, RD E w d u → RD E w d' u
theorem D.sim.refl (d : D) : d.sim d := fun _ _ _ h => h
theorem D.sim.ref (k k' g off n sz : Nat) : (D.ref k g off n sz).sim (.ref k' g off n sz) := fun E w u h => by
  cases h with
  | ref _ _ _ _ _ c b off' t m hg hb hc ho hsh hm => exact .ref k' g off n sz c b off' t m hg hb hc ho hsh hm
  | refn _ _ _ hg hb => exact .refn k' g sz hg hb
theorem D.sim.ptr (k k' g off : Nat) : (D.ptr k g off).sim (.ptr k' g off) := fun E w u h => by
  cases h with
  | ptr _ _ _ b hg hb => exact .ptr k' g off b hg hb
def simL : List D → List D → Prop
  | [], [] => True
  | d :: r, d' :: r' => d.sim d' ∧ simL r r'
  | _, _ => False
theorem simL.refl : ∀ l : List D, simL l l
  | [] => trivial
  | d :: r => ⟨.refl d, simL.refl r⟩
theorem simL.get : ∀ {l l' : List D}, simL l l' → l.length = l'.length ∧ ∀ (j : Nat) d', l'[j]? = some d' → ∃ d, l[j]? = some d ∧ d.sim d'
  | [], [], _ => ⟨rfl, fun j d h => by simp at h⟩
  | d :: r, d' :: r', ⟨h1, h2⟩ => by
    obtain ⟨e, g⟩ := simL.get h2
    refine ⟨by simp [e], fun j x hx => ?_⟩
    cases j with
    | zero => simp at hx; subst hx; exact ⟨d, rfl, h1⟩
    | succ j => simpa using g j x (by simpa using hx)
  | [], _ :: _, h => h.elim
  | _ :: _, [], h => h.elim
theorem D.sim.agg {l l' : List D} (h : simL l l') : (D.agg l).sim (.agg l') := fun E w u hr => by
  obtain ⟨e, g⟩ := h.get
  cases hr with
  | agg _ us hlen hd h1 =>
    refine .agg _ us (by rw [hlen, e]) (fun i d' u hd' hu => ?_) h1
    obtain ⟨d, hd1, hs⟩ := g i d' hd'
    exact hs _ _ _ (hd i d u hd1 hu)

def allTm (s : AS) : List (Nat × D) → Prop
  | [] => True
  | p :: r => (∃ d, s.tm.get p.1 = some d ∧ d.sim p.2) ∧ allTm s r
/-- Each block of the new state, under the place where it was kept. -/
def allHp (s : AS) : List (Nat × (Nat × Blk)) → List Nat → Prop
  | [], [] => True
  | (_, (g, b)) :: r, k :: ks => (∃ b0, s.at k = some (g, b0) ∧ b0.elem = b.elem ∧ (b.row = false → b0.row = false) ∧ (b0.row = true → b.row = true) ∧ simL b0.cells b.cells) ∧ allHp s r ks
  | _, _ => False
theorem allTm_mem {s : AS} : ∀ {l : List (Nat × D)}, allTm s l → ∀ p ∈ l, ∃ d, s.tm.get p.1 = some d ∧ d.sim p.2
  | [], _, p, h => by cases h
  | q :: r, ⟨h1, h2⟩, p, h => by
    rcases List.mem_cons.1 h with rfl | h
    · exact h1
    · exact allTm_mem h2 p h

/-- A state, written out: slots, blocks, records of loops. -/
def mkS (tm : List (Nat × D)) (hp : List (Nat × (Nat × Blk))) (lp : List (Nat × (Nat × LRec))) (nx : Nat) : AS := ⟨Tr.ofL tm, Tr.ofL (hp.map (fun p => (p.1, (p.2.1, Ob.b p.2.2))) ++ lp.map (fun p => (p.1, (p.2.1, Ob.l p.2.2)))), nx, []⟩
/-- Each record of the new state, as it was. -/
def allLp (s : AS) : List (Nat × (Nat × LRec)) → List Nat → Prop
  | [], [] => True
  | (_, (g, r)) :: l, k :: ks => (∃ r0, s.lat k = some (g, r0) ∧ r0.st = r.st ∧ r0.pend = r.pend ∧ r0.params = r.params ∧ r0.assign = r.assign ∧ r0.body = r.body ∧ r0.nt = r.nt ∧ ∃ tm, r.tm = Tr.ofL tm ∧ ∀ p ∈ tm, ∃ d, r0.tm.get p.1 = some d ∧ d.sim p.2) ∧ allLp s l ks
  | _, _ => False

/-- s' says less than s. -/
structure Le (s s' : AS) : Prop where
  h : ∃ tm hp lp nx, s' = mkS tm hp lp nx ∧ allTm s tm ∧ (∃ ks ls, allHp s hp ks ∧ allLp s lp ls ∧ nodupB (ks ++ ls) = true) ∧ s.nx ≤ nx ∧ s.us = []

theorem ofL_get {tm : List (Nat × D)} {t : Nat} {d : D} (h : (Tr.ofL tm).get t = some d) : (t, d) ∈ tm := Tr.of_ofL h
theorem allHp_mem {s : AS} : ∀ {l : List (Nat × (Nat × Blk))} {ks : List Nat}, allHp s l ks → ∀ {k g b}, (k, (g, b)) ∈ l → ∃ (i k0 : Nat) (b0 : Blk), ks[i]? = some k0 ∧ l[i]? = some (k, (g, b)) ∧ s.at k0 = some (g, b0) ∧ b0.elem = b.elem ∧ (b.row = false → b0.row = false) ∧ (b0.row = true → b.row = true) ∧ simL b0.cells b.cells
  | [], [], _, k, g, b, h => by cases h
  | (k1, (g1, b1)) :: r, k2 :: ks, ⟨h1, h2⟩, k, g, b, h => by
    rcases List.mem_cons.1 h with h | h
    · cases h
      obtain ⟨b0, e⟩ := h1
      exact ⟨0, k2, b0, rfl, rfl, e⟩
    · obtain ⟨i, k0, b0, e1, e2, e3⟩ := allHp_mem h2 h
      exact ⟨i + 1, k0, b0, by simpa using e1, by simpa using e2, e3⟩
  | (_, _) :: _, [], h, _, _, _, _ => h.elim
  | [], _ :: _, h, _, _, _, _ => h.elim
theorem allLp_mem {s : AS} : ∀ {l : List (Nat × (Nat × LRec))} {ks : List Nat}, allLp s l ks → ∀ {k g r}, (k, (g, r)) ∈ l → ∃ (i k0 : Nat) (r0 : LRec), ks[i]? = some k0 ∧ l[i]? = some (k, (g, r)) ∧ s.lat k0 = some (g, r0) ∧ r0.st = r.st ∧ r0.pend = r.pend ∧ r0.params = r.params ∧ r0.assign = r.assign ∧ r0.body = r.body ∧ r0.nt = r.nt ∧ ∃ tm, r.tm = Tr.ofL tm ∧ ∀ p ∈ tm, ∃ d, r0.tm.get p.1 = some d ∧ d.sim p.2
  | [], [], _, k, g, b, h => by cases h
  | (k1, (g1, b1)) :: r, k2 :: ks, ⟨h1, h2⟩, k, g, b, h => by
    rcases List.mem_cons.1 h with h | h
    · cases h
      obtain ⟨b0, e⟩ := h1
      exact ⟨0, k2, b0, rfl, rfl, e⟩
    · obtain ⟨i, k0, b0, e1, e2, e3⟩ := allLp_mem h2 h
      exact ⟨i + 1, k0, b0, by simpa using e1, by simpa using e2, e3⟩
  | (_, _) :: _, [], h, _, _, _, _ => h.elim
  | [], _ :: _, h, _, _, _, _ => h.elim

/-- Where a thing of the new state was kept. -/
theorem mkS_old {s : AS} {tm : List (Nat × D)} {hp : List (Nat × (Nat × Blk))} {lp : List (Nat × (Nat × LRec))} {nx : Nat} {ks ls : List Nat} (h1 : allHp s hp ks) (h2 : allLp s lp ls) {k g : Nat} {o : Ob} (hk : (mkS tm hp lp nx).gat k = some (g, o)) :
    ∃ (i k0 : Nat) (o0 : Ob), (ks ++ ls)[i]? = some k0 ∧ ((hp.map (fun p => p.1)) ++ lp.map (fun p => p.1))[i]? = some k ∧ s.gat k0 = some (g, o0) ∧
      ((∃ b b0, o = .b b ∧ o0 = .b b0 ∧ b0.elem = b.elem ∧ (b.row = false → b0.row = false) ∧ (b0.row = true → b.row = true) ∧ simL b0.cells b.cells) ∨
       (∃ r r0, o = .l r ∧ o0 = .l r0 ∧ r0.st = r.st ∧ r0.pend = r.pend ∧ r0.params = r.params ∧ r0.assign = r.assign ∧ r0.body = r.body ∧ r0.nt = r.nt ∧ ∃ tm, r.tm = Tr.ofL tm ∧ ∀ p ∈ tm, ∃ d, r0.tm.get p.1 = some d ∧ d.sim p.2)) := by
  have len1 : ∀ {l : List (Nat × (Nat × Blk))} {ks : List Nat}, allHp s l ks → l.length = ks.length := by
    intro l
    induction l with
    | nil => intro ks h; cases ks <;> first | rfl | exact h.elim
    | cons p r ih => intro ks h; cases ks with
      | nil => exact h.elim
      | cons k ks => simp [ih h.2]
  have hm := Tr.of_ofL hk
  rcases List.mem_append.1 hm with hm | hm
  · obtain ⟨p, hp', e⟩ := List.mem_map.1 hm
    obtain ⟨k', g', b⟩ := p
    cases e
    obtain ⟨i, k0, b0, e1, e2, e3, e4⟩ := allHp_mem h1 hp'
    have hi : i < ks.length := (List.getElem?_eq_some_iff.1 e1).1
    have hi' : i < hp.length := (List.getElem?_eq_some_iff.1 e2).1
    exact ⟨i, k0, .b b0, by rw [List.getElem?_append_left hi]; exact e1, by rw [List.getElem?_append_left (by simpa using hi'), List.getElem?_map, e2]; rfl, AS.at_iff.1 e3, .inl ⟨_, _, rfl, rfl, e4⟩⟩
  · obtain ⟨p, hp', e⟩ := List.mem_map.1 hm
    obtain ⟨k', g', b⟩ := p
    cases e
    obtain ⟨i, k0, b0, e1, e2, e3, e4⟩ := allLp_mem h2 hp'
    have hl := len1 h1
    refine ⟨ks.length + i, k0, .l b0, ?_, ?_, AS.lat_iff.1 e3, .inr ⟨_, _, rfl, rfl, e4⟩⟩
    · rw [List.getElem?_append_right (by omega), Nat.add_sub_cancel_left]; exact e1
    · rw [List.getElem?_append_right (by simp; omega)]
      simp only [List.length_map]
      rw [show ks.length + i - hp.length = i by omega, List.getElem?_map, e2]; rfl

theorem Le.us {s s' : AS} (h : Le s s') : s'.us = [] := by obtain ⟨tm, hp, lp, nx, rfl, _⟩ := h.h; rfl

theorem SR.le {cx : Cx} {E : Env} {s s' : AS} {a : Act} {w : World} (h : SR cx E s a w) (hl : Le s s') : SR cx E s' a w ∧ Mut s s' E E w w := by
  obtain ⟨tm, hp, lp, nx, rfl, htm, ⟨ks, ls, hks, hls, hnd⟩, hnx, hus⟩ := hl.h
  have hnd := nodupB_iff hnd
  have hob : ∀ {k g o}, (mkS tm hp lp nx).gat k = some (g, o) → OB E w g o := fun {k g o} hk => by
    obtain ⟨i, k0, o0, _, _, h3, h4⟩ := mkS_old hks hls hk
    have ho := h.ob h3
    rcases h4 with ⟨b, b0, rfl, rfl, e1, e2, e2', e3⟩ | ⟨r, r0, rfl, rfl, e1, e2, e3, e4, e5, e6, tm', e7, e8⟩
    · obtain ⟨c1, c2⟩ := ho
      refine ⟨c1, ?_⟩
      obtain ⟨l1, l2⟩ := e3.get
      cases hp : E.φ g with
      | none =>
        rw [hp] at c2
        dsimp only at c2 ⊢
        refine ⟨List.eq_nil_of_length_eq_zero (by rw [← l1, c2.1]; rfl), e2' c2.2⟩
      | some x =>
        rw [hp] at c2
        obtain ⟨d1, d2, cur, fr, d3, d4, d5, d6, d7⟩ := c2
        refine ⟨d1, d2, cur, fr, by rw [← e1]; exact d3, d4, by rw [← l1]; exact d5, fun hr => by rw [← l1]; exact d6 (e2 hr), fun j d hj => ?_⟩
        obtain ⟨d0, f1, f2⟩ := l2 j d hj
        obtain ⟨u, g1, g2, g3⟩ := d7 j d0 f1
        exact ⟨u, g1, g2, f2 _ _ _ g3⟩
    · obtain ⟨c1, b, L, c2, c3, c4, c5, c6, c7, c8, c9, c10, c11, c12⟩ := ho
      refine ⟨c1, b, L, c2, c3, c4, c5, c6.trans e1, c7.trans e2, c8.trans e3, c9.trans e4, c10.trans e5, by rw [← e6]; exact c11, fun t d hd => ?_⟩
      rw [e7] at hd
      obtain ⟨d0, f1, f2⟩ := e8 _ (Tr.of_ofL hd)
      obtain ⟨u, g1, g2⟩ := c12 t d0 f1
      exact ⟨u, g1, f2 _ _ _ g2⟩
  have hown : ∀ {x}, ownOf (mkS tm hp lp nx) E.φ x → ownOf s E.φ x := fun ⟨k, g, o, hk, hx⟩ => by
    obtain ⟨i, k0, o0, _, _, h3, _⟩ := mkS_old hks hls hk
    exact ⟨k0, g, o0, h3, hx⟩
  refine ⟨{ h with
    fr := fun t d hd => ?_
    hp := fun k g b hk => hob (AS.at_iff.1 hk)
    lp := fun k g b hk => hob (AS.lat_iff.1 hk)
    inj := fun k k' g g' b b' hkk h1 h2 => ?_
    low := fun x hx => h.low x (hown hx)
    nm := fun g hg => ?_ }, ⟨fun _ h => h, fun _ _ _ => rfl, fun _ _ h => hown h⟩⟩
  · obtain ⟨d0, h1, h2⟩ := allTm_mem htm _ (Tr.of_ofL hd)
    obtain ⟨u, hu, hr⟩ := h.fr t d0 h1
    exact ⟨u, hu, h2 _ _ _ hr⟩
  · obtain ⟨i1, k1, o1, a1, a2, a3, _⟩ := mkS_old hks hls h1
    obtain ⟨i2, k2, o2, c1, c2, c3, _⟩ := mkS_old hks hls h2
    refine h.inj k1 k2 g g' o1 o2 (fun e => hkk ?_) a3 c3
    subst e
    have := nodup_inj hnd a1 c1
    subst this
    rw [a2] at c2; cases c2; rfl
  · rcases h.nm g hg with h1 | ⟨j, hj, _⟩
    · exact .inl (Nat.lt_of_lt_of_le h1 hnx)
    · rw [hus] at hj; cases hj

/-- A loop: what holds at each head, and what goes down. -/
theorem AWP.loop {c : Code} {s : AS} {K : AX → AS → Prop} (I : AS → Prop) (μ : AS → Nat) (h0 : ∃ s', Le s s' ∧ I s')
    (round : ∀ s, I s → s.us = [] → AWP P rd nt xn c s fun e s' => match e with
      | .normal => ∃ s'', Le s' s'' ∧ I s'' ∧ μ s'' < μ s
      | e => K e s') : AWP P rd nt xn (.loop c) s K := by
  refine ⟨fun F n cx E0 a w0 Q hF hro hn hu hs hQ => ?_⟩
  have key : ∀ m s2 E a w, μ s2 < m → I s2 → s2.us = [] → SR cx E s2 a w → StpX cx.xn E0 E w0 w → Mut s s2 E0 E w0 w → Code.roundsIn F n P c Q m a w := by
    intro m
    induction m with
    | zero => intro s E a w h; omega
    | succ m ih =>
      intro s2 E a w hm hI hu hs hst hmut
      rw [roundsIn_succ]
      refine (round s2 hI hu).run F n cx E a w _ hF hro hn hu hs fun e s' E' a' w' hK hu' hs' hst' hmut' => ?_
      have hst2 := hst.trans hst'
      have hmut2 := hmut.trans hmut' hst.size
      cases e with
      | normal =>
        obtain ⟨s'', hle, hI', hlt⟩ := hK
        obtain ⟨q1, q2⟩ := hs'.le hle
        exact ih s'' E' a' w' (by omega) hI' hle.us q1 hst2 (hmut2.trans q2 hst2.size)
      | exit id => exact hQ (.exit id) s' E' a' w' hK hu' hs' hst2 hmut2
      | ret => exact hQ .ret s' E' a' w' hK hu' hs' hst2 hmut2
  obtain ⟨s', hle, hI⟩ := h0
  obtain ⟨q1, q2⟩ := hs.le hle
  exact wpIn_loop_rounds (μ s' + 1) (key _ s' E0 a w0 (by omega) hI hle.us q1 ((Stp.refl E0 w0).x _) q2)
end
end Go.Vx

/- VxW: a region that draws its order, in the abstract. No program. -/
import Derived.Test.YtegjeagfcfhbeaaVxM
namespace Go.Vx
set_option linter.unusedVariables false
set_option linter.unusedSimpArgs false
open Go.RowKit Go.Bw
section
variable {P : Program} {cx : Cx} {E : Env} {s : AS} {a : Act} {w : World} {i : Nat} {o : Oper} {T : TT} {F : Fence} {n : Nat}

/-- s is a part of S. -/
structure Sub (s S : AS) : Prop where
  tm : ∀ t d, s.tm.get t = some d → S.tm.get t = some d
  hp : ∀ k g o, s.gat k = some (g, o) → S.gat k = some (g, o)
  nx : s.nx = S.nx

theorem SR.part {S : AS} (h : SR cx E S a w) (hs : Sub s S) : SR cx E { s with us := S.us } a w :=
  { fr := fun t d hd => h.fr t d (hs.tm t d hd), sz := h.sz, df := h.df, hp := fun k g b hk => h.hp k g b (AS.at_iff.2 (hs.hp k g _ (AS.at_iff.1 hk))), lp := fun k g b hk => h.lp k g b (AS.lat_iff.2 (hs.hp k g _ (AS.lat_iff.1 hk)))
    inj := fun k k' g g' b b' hkk h1 h2 => h.inj k k' g g' b b' hkk (hs.hp _ _ _ h1) (hs.hp _ _ _ h2)
    lt := h.lt, low := fun x ⟨k, g, b, hk, hx⟩ => h.low x ⟨k, g, b, hs.hp k g b hk, hx⟩, base := h.base, bel := h.bel, szB := h.szB, nm := fun g hg => by
      have := h.nm g hg
      rw [← hs.nx] at this; exact this }

/-- The first change that speaks of k. -/
def lk : Up → Nat → Option (Option (Nat × Ob))
  | [], _ => none
  | p :: r, k => if p.1 = k then some p.2 else lk r k
def keysOk (up : Up) : Bool := up.all fun p => Tr.okK p.1
theorem get_upH : ∀ {up : Up} (hp : Tr (Nat × Ob)) (k : Nat), keysOk up = true → (upH up hp).get k = (lk up k).getD (hp.get k)
  | [], hp, k, _ => rfl
  | p :: r, hp, k, h => by
    simp only [keysOk, List.all_cons, Bool.and_eq_true] at h
    show ((upH r hp).set p.1 p.2).get k = _
    rw [Tr.get_set _ _ _ h.1]
    simp only [lk]
    by_cases e : p.1 = k
    · rw [if_pos e.symm, if_pos e]; rfl
    · rw [if_neg (fun h => e h.symm), if_neg e]; exact get_upH hp k h.2

/-- What was done over a part holds of the whole. -/
theorem SR.extend {S : AS} (h : SR cx E S a w) (hs : Sub s S) {E' : Env} {w' : World} {up : Up} (hok : keysOk up = true) {i : Nat} (st : Stp E E' w w') (h' : SR cx E' { s with hp := upH up s.hp, us := i :: S.us } a w')
    (mu : Mut { s with us := S.us } { s with hp := upH up s.hp, us := i :: S.us } E E' w w') : SR cx E' { S with hp := upH up S.hp, us := i :: S.us } a w' := by
  have cases2 : ∀ {k g b}, AS.gat { S with hp := upH up S.hp, us := i :: S.us } k = some (g, b) → AS.gat { s with hp := upH up s.hp, us := i :: S.us } k = some (g, b) ∨ (S.gat k = some (g, b) ∧ s.gat k = none) := fun {k g b} hk => by
    have hk : (upH up S.hp).get k = some (g, b) := hk
    show (upH up s.hp).get k = some (g, b) ∨ _
    rw [get_upH _ _ hok] at hk ⊢
    cases hu : lk up k with
    | some v => rw [hu] at hk; exact .inl hk
    | none =>
      rw [hu] at hk
      simp only [Option.getD_none] at hk ⊢
      cases hsk : s.hp.get k with
      | none => exact .inr ⟨hk, hsk⟩
      | some p =>
        obtain ⟨g', b'⟩ := p
        have hSk : S.gat k = some (g', b') := hs.hp k g' b' hsk
        have hSk' : S.hp.get k = some (g', b') := hSk
        rw [hSk'] at hk; exact .inl hk
  have own_s : ∀ {x}, ownOf { s with us := S.us } E.φ x → ∃ k g b, s.gat k = some (g, b) ∧ E.φ g = some x := fun h => h
  have notown : ∀ {k g b x}, S.gat k = some (g, b) → s.gat k = none → E.φ g = some x → ¬ ownOf { s with us := S.us } E.φ x := fun {k g b x} hk hsk hx ho => by
    obtain ⟨k', g', b', h1, h2⟩ := own_s ho
    refine h.inj k k' g g' b b' (fun e => ?_) hk (hs.hp _ _ _ h1) x hx h2
    subst e; rw [hsk] at h1; cases h1
  have ltS : ∀ {k g b x}, S.gat k = some (g, b) → E.φ g = some x → x < w.heap.size := fun hk hx => (h.ob hk).lt hx
  have hob : ∀ {k g b}, AS.gat { S with hp := upH up S.hp, us := i :: S.us } k = some (g, b) → OB E' w' g b := fun {k g b} hk => by
    rcases cases2 hk with h1 | ⟨h1, h2⟩
    · exact h'.ob h1
    · exact (h.ob h1).step st fun x hx => ⟨mu.own x (h.own_of ⟨k, g, b, h1, hx⟩), mu.heap x (ltS h1 hx) (notown h1 h2 hx)⟩
  refine { h' with
    fr := fun t d hd => by obtain ⟨u, hu, hr⟩ := h.fr t d hd; exact ⟨u, hu, hr.step st⟩
    df := h.df.step mu.own fun b hb hd => mu.heap b (h.lt b hb) fun ⟨k, g, o, hk, hx⟩ => h.unmarked hd ⟨k, g, o, hs.hp _ _ _ hk, hx⟩
    hp := fun k g b hk => hob (AS.at_iff.1 hk)
    lp := fun k g b hk => hob (AS.lat_iff.1 hk)
    inj := fun k1 k2 g1 g2 b1 b2 hkk h1 h2 x hx1 hx2 => ?_
    nm := fun g hg => ?_
    low := fun x ⟨k, g, b, hk, hx⟩ => ?_ }
  · have mix : ∀ {k1 k2 g1 g2 b1 b2 x}, AS.gat { s with hp := upH up s.hp, us := i :: S.us } k1 = some (g1, b1) → S.gat k2 = some (g2, b2) → s.gat k2 = none → E'.φ g1 = some x → E'.φ g2 = some x → False := fun {k1 k2 g1 g2 b1 b2 x} h1 h2 h3 hx1 hx2 => by
      have e2 := st.φ g2 (h.ob h2).nm
      rw [e2] at hx2
      exact notown h2 h3 hx2 (mu.old x (ltS h2 hx2) ⟨k1, g1, b1, h1, hx1⟩)
    rcases cases2 h1 with a1 | ⟨a1, a2⟩ <;> rcases cases2 h2 with c1 | ⟨c1, c2⟩
    · exact h'.inj k1 k2 g1 g2 b1 b2 hkk a1 c1 x hx1 hx2
    · exact mix a1 c1 c2 hx1 hx2
    · exact mix c1 a1 a2 hx2 hx1
    · have e1 := st.φ g1 (h.ob a1).nm
      have e2 := st.φ g2 (h.ob c1).nm
      rw [e1] at hx1
      rw [e2] at hx2
      exact h.inj k1 k2 g1 g2 b1 b2 hkk a1 c1 x hx1 hx2
  · rcases cases2 hk with h1 | ⟨h1, h2⟩
    · exact h'.low x ⟨k, g, b, h1, hx⟩
    · have e2 := st.φ g (h.ob h1).nm
      rw [e2] at hx; exact h.low x ⟨k, g, b, h1, hx⟩
  · have := h'.nm g hg
    dsimp only at this ⊢
    rw [hs.nx] at this; exact this

/-- An operation is carried out over a part. -/
theorem op_framed {S : AS} (hF : FOK F) (hT : T.ok P) (h : SR cx E S a w) (hs : Sub s S) (hi : i ∉ S.us) {ky : Nat} (hdst : dstOk cx.nt o = true) {K : Option D → Up → Prop} (hv : vcOp P T { s with us := S.us } (s.nx + 8 * i) ky o K) (hok : ∀ v up, K v up → keysOk up = true) {next : Act → World → Prop} {Q : Exit → Act → World → Prop}
    (hn : ∀ v up E' a' w', K v up → SR cx E' { S with tm := putT S.tm o.dst v, hp := upH up S.hp, us := i :: S.us } a' w' → Stp E E' w w' → Mut S { S with tm := putT S.tm o.dst v, hp := upH up S.hp, us := i :: S.us } E E' w w' → next a' w') : o.wpIn F n P a w next Q :=
  op_core hF hT (h.part hs) hi hv fun v up E' w' u hK s1 s2 s3 hr => hn v up E' _ w' hK (putT_sound (s := { S with hp := upH up S.hp, us := i :: S.us }) (h.extend hs (hok v up hK) s1 s2 s3) hdst hr) s1
    ⟨s3.own, fun b hb hno => s3.heap b hb fun ⟨k, g, ob, hk, hx⟩ => hno ⟨k, g, ob, hs.hp _ _ _ hk, hx⟩, fun x hx ⟨k, g, ob, hk, hx'⟩ => by
      have hk : (upH up S.hp).get k = some (g, ob) := hk
      rw [get_upH _ _ (hok v up hK)] at hk
      cases hu : lk up k with
      | some vv =>
        have hk2 : AS.gat { s with hp := upH up s.hp, us := i :: S.us } k = some (g, ob) := by
          show (upH up s.hp).get k = _
          rw [get_upH _ _ (hok v up hK)]
          rw [hu] at hk ⊢
          exact hk
        obtain ⟨k', g', o', h1, h2⟩ := s3.old x hx ⟨k, g, ob, hk2, hx'⟩
        exact ⟨k', g', o', hs.hp _ _ _ h1, h2⟩
      | none =>
        rw [hu] at hk
        have hk : S.gat k = some (g, ob) := hk
        refine ⟨k, g, ob, hk, ?_⟩
        rw [← s1.φ g (h.ob hk).nm]; exact hx'⟩

/-! ### what an operation looks at -/
def tmpsOf : List Operand → List Nat
  | [] => []
  | .tmp t :: r => t :: tmpsOf r
  | _ :: r => tmpsOf r
def restT (tm : Tr D) : List Nat → Tr D
  | [] => .e
  | t :: r => match tm.get t with
    | some d => (restT tm r).set t (some d)
    | none => restT tm r
def keysT (tm : Tr D) : List Nat → List Nat
  | [] => []
  | t :: r => match tm.get t with
    | some d => keysD d ++ keysT tm r
    | none => keysT tm r
def restH (hp : Tr (Nat × Ob)) : List Nat → Tr (Nat × Ob)
  | [] => .e
  | k :: r => match hp.get k with
    | some v => (restH hp r).set k (some v)
    | none => restH hp r
theorem restT_get (tm : Tr D) : ∀ (ts : List Nat) (t : Nat) (d : D), (restT tm ts).get t = some d → t ∈ ts ∧ tm.get t = some d
  | [], t, d, h => by cases h
  | x :: r, t, d, h => by
    simp only [restT] at h
    cases hx : tm.get x with
    | none => rw [hx] at h; obtain ⟨h1, h2⟩ := restT_get tm r t d h; exact ⟨List.mem_cons_of_mem _ h1, h2⟩
    | some v =>
      rw [hx] at h
      rcases Tr.of_set h with ⟨rfl, hv⟩ | ⟨_, h⟩
      · cases hv; exact ⟨List.mem_cons_self, hx⟩
      · obtain ⟨h1, h2⟩ := restT_get tm r t d h; exact ⟨List.mem_cons_of_mem _ h1, h2⟩
theorem restH_get (hp : Tr (Nat × Ob)) : ∀ (ks : List Nat) (k : Nat) v, (restH hp ks).get k = some v → k ∈ ks ∧ hp.get k = some v
  | [], t, d, h => by cases h
  | x :: r, t, d, h => by
    simp only [restH] at h
    cases hx : hp.get x with
    | none => rw [hx] at h; obtain ⟨h1, h2⟩ := restH_get hp r t d h; exact ⟨List.mem_cons_of_mem _ h1, h2⟩
    | some v =>
      rw [hx] at h
      rcases Tr.of_set h with ⟨rfl, hv⟩ | ⟨_, h⟩
      · cases hv; exact ⟨List.mem_cons_self, hx⟩
      · obtain ⟨h1, h2⟩ := restH_get hp r t d h; exact ⟨List.mem_cons_of_mem _ h1, h2⟩
/-- The places that can be come to from some. -/
def keysClo (s : AS) : Nat → List Nat → List Nat
  | 0, ks => ks
  | f + 1, ks => ks ++ keysClo s f (ks.flatMap fun k => match s.at k with
    | some p => bif p.2.row then [] else keysL p.2.cells
    | none => [])
def isCall (o : Oper) : Bool := match o.op with
  | .call c => match c.callee with
    | .builtin _ => false
    | _ => true
  | _ => false
/-- The places that an operation looks at. -/
def isMove (o : Oper) : Bool := match o.op with
  | .move _ => true
  | .assign _ => true
  | .nilCheck _ => true
  | .fieldAddr _ _ _ => true
  | _ => false
/-- The places that an operation looks at: what is only handed on is not looked into. -/
def isSlD : Option D → Bool
  | some (.ref _ _ _ _ _) => true
  | some (.sl _ _ _ _) => true
  | _ => false
/-- A slice that is cut: what it holds is not looked at. -/
def isCut (s : AS) (o : Oper) : Bool := match o.op with
  | .slice _ (.tmp t) _ _ _ => isSlD (s.tm.get t)
  | _ => false
def rkOf (s : AS) (o : Oper) : List Nat := bif isMove o || isCut s o then [] else bif isCall o then keysClo s 5 (keysT s.tm (tmpsOf o.op.operands.toList)) else keysT s.tm (tmpsOf o.op.operands.toList)

/-- What was done: the slots and the places that were looked at, the slot that was written, what went there, what became of the heap. -/
structure Rec where
  rt : List Nat
  rk : List Nat
  dst : Option Nat
  v : Option D
  up : Up
  ld : Option (Nat × Nat × Nat × Option D)
/-- A load of one cell, of a block of the run's own: the block's key, the cell, the block's name, what the cell holds. -/
def ldOf (T : TT) (s : AS) (o : Oper) : Option (Nat × Nat × Nat × Option D) :=
  match o.op with
  | .load ty (.tmp t) => match T.get ty, s.tm.get t with
    | some ti, some (.ptr k _ off) => match s.at k with
      | some p => bif ti.desc.isRow || !((rkOf s o).any fun x => Nat.beq x k) || !((tmpsOf o.op.operands.toList).any fun x => Nat.beq x t) then none else some (k, off, p.1, p.2.cells[off]?)
      | none => none
    | _, _ => none
  | _ => none
def AS.eff (s : AS) (i : Nat) (r : Rec) : AS := { s with tm := putT s.tm r.dst r.v, hp := upH r.up s.hp, us := i :: s.us }
def small (s : AS) (ts ks : List Nat) : AS := { tm := restT s.tm ts, hp := restH s.hp ks, nx := s.nx, us := [] }


/-! ### which operations are ahead of which -/
def edgesOf (o : Oper) : List Nat := (o.after.toList.filter (Region.binds .any)).map (·.on)
def okPr (pr : List (List Nat)) : Nat → List Oper → Bool
  | _, [] => true
  | i, o :: r => (edgesOf o).all (fun e => Nat.blt e i) && (pr.getD i []).all (fun j => (edgesOf o).any fun e => Nat.beq e j || (pr.getD e []).any fun x => Nat.beq x j) && okPr pr (i + 1) r
theorem okPr_spec {pr : List (List Nat)} : ∀ (l : List Oper) (i : Nat), okPr pr i l = true → ∀ (j : Nat) o, l[j]? = some o → (∀ e ∈ edgesOf o, e < i + j) ∧ ∀ x ∈ pr.getD (i + j) [], ∃ e ∈ edgesOf o, e = x ∨ x ∈ pr.getD e []
  | [], i, _, j, o, h => by simp at h
  | o' :: r, i, h, j, o, hj => by
    simp only [okPr, Bool.and_eq_true, List.all_eq_true, List.any_eq_true, Bool.or_eq_true] at h
    obtain ⟨⟨h1, h2⟩, h3⟩ := h
    cases j with
    | zero =>
      simp at hj; subst hj
      refine ⟨fun e he => Nat.le_of_ble_eq_true (h1 e he), fun x hx => ?_⟩
      obtain ⟨e, he, h4⟩ := h2 x hx
      refine ⟨e, he, ?_⟩
      rcases h4 with h4 | ⟨y, hy, h4⟩
      · exact .inl (Nat.eq_of_beq_eq_true h4)
      · have := Nat.eq_of_beq_eq_true h4; subst this; exact .inr hy
    | succ j =>
      have := okPr_spec r (i + 1) h3 j o (by simpa using hj)
      rw [show i + 1 + j = i + (j + 1) by omega] at this
      exact this

def recOk (r : Rec) : Bool := (match r.dst with | some t => Tr.okK t | none => true) && keysOk r.up
def keysU : Up → List Nat
  | [] => []
  | p :: r => p.1 :: keysU r
def disj (a b : List Nat) : Bool := a.all fun x => b.all fun y => !Nat.beq x y
theorem disj_spec {a b : List Nat} (h : disj a b = true) {x : Nat} (h1 : x ∈ a) (h2 : x ∈ b) : False := by
  simp only [disj, List.all_eq_true] at h
  have := h x h1 x h2
  simp at this
/-- Two operations that may come in either order. -/
def nocW (a b : Rec) : Bool :=
  disj a.dst.toList b.rt && disj b.dst.toList a.rt && disj a.dst.toList b.dst.toList && disj (keysU a.up) b.rk && disj (keysU a.up) (keysU b.up)
def noconf (a b : Rec) : Bool := nocW a b && disj (keysU b.up) a.rk
theorem noconf_W {a b : Rec} (h : noconf a b = true) : nocW a b = true := by rw [noconf, Bool.and_eq_true] at h; exact h.1
/-- The one loads a cell that the other, behind it in the text, leaves as it is. -/
def stRel (a b : Rec) : Prop := ∃ k off g c b2, a.ld = some (k, off, g, c) ∧ lk b.up k = some (some (g, .b b2)) ∧ b2.cells[off]? = c
def stOk (a b : Rec) : Bool := match a.ld with
  | some p => match lk b.up p.1 with
    | some (some (g, .b _)) => Nat.beq g p.2.2.1
    | _ => false
  | none => false
def stCell (a b : Rec) : Option D := match a.ld with
  | some p => match lk b.up p.1 with
    | some (some (_, .b b2)) => b2.cells[p.2.1]?
    | _ => none
  | none => none
def ldCell (a : Rec) : Option D := match a.ld with
  | some p => p.2.2.2
  | none => none
theorem stRel_of {a b : Rec} (h : stOk a b = true) (e : stCell a b = ldCell a) : stRel a b := by
  unfold stOk at h
  unfold stCell ldCell at e
  split at h
  case h_2 => cases h
  case h_1 p hp =>
  rw [hp] at e
  dsimp only at e
  split at h
  case h_2 => cases h
  case h_1 g b2 hb =>
  rw [hb] at e
  have := Nat.eq_of_beq_eq_true h
  subst this
  exact ⟨p.1, p.2.1, p.2.2.1, p.2.2.2, b2, hp, hb, e⟩
def okCfA (pr : List (List Nat)) (i : Nat) (a : Rec) : Nat → List Rec → Bool
  | _, [] => true
  | j, b :: r => ((pr.getD j []).any (fun x => Nat.beq x i) || noconf a b) && okCfA pr i a (j + 1) r
def okCf (pr : List (List Nat)) : Nat → List Rec → Bool
  | _, [] => true
  | i, a :: r => okCfA pr i a (i + 1) r && okCf pr (i + 1) r
theorem okCfA_spec {pr : List (List Nat)} {i : Nat} {a : Rec} : ∀ (l : List Rec) (j : Nat), okCfA pr i a j l = true → ∀ (k : Nat) b, l[k]? = some b → i ∈ pr.getD (j + k) [] ∨ noconf a b = true
  | [], j, _, k, b, h => by simp at h
  | b' :: r, j, h, k, b, hk => by
    simp only [okCfA, Bool.and_eq_true, Bool.or_eq_true, List.any_eq_true] at h
    cases k with
    | zero =>
      simp at hk; subst hk
      rcases h.1 with ⟨x, hx, h4⟩ | h4
      · have := Nat.eq_of_beq_eq_true h4; subst this; exact .inl hx
      · exact .inr h4
    | succ k =>
      have := okCfA_spec r (j + 1) h.2 k b (by simpa using hk)
      rw [show j + 1 + k = j + (k + 1) by omega] at this
      exact this
theorem okCf_spec {pr : List (List Nat)} : ∀ (l : List Rec) (i : Nat), okCf pr i l = true → ∀ (j k : Nat) a b, j < k → l[j]? = some a → l[k]? = some b → (i + j) ∈ pr.getD (i + k) [] ∨ noconf a b = true
  | [], i, _, j, k, a, b, _, h, _ => by simp at h
  | a' :: r, i, h, j, k, a, b, hjk, hj, hk => by
    simp only [okCf, Bool.and_eq_true] at h
    cases k with
    | zero => omega
    | succ k =>
      cases j with
      | zero =>
        simp at hj; subst hj
        have := okCfA_spec r (i + 1) h.1 k b (by simpa using hk)
        rw [show i + 1 + k = i + (k + 1) by omega] at this
        exact this
      | succ j =>
        have := okCf_spec r (i + 1) h.2 j k a b (by omega) (by simpa using hj) (by simpa using hk)
        rw [show i + 1 + k = i + (k + 1) by omega, show i + 1 + j = i + (j + 1) by omega] at this
        exact this

/-- Which operations stand in no order, and are not at odds. -/
def CF (pr : List (List Nat)) (l : List Rec) : Prop := ∀ (i j : Nat) a b, i < j → l[i]? = some a → l[j]? = some b → i ∈ pr.getD j [] ∨ noconf a b = true ∨ (nocW a b = true ∧ stRel a b)
theorem CF.of_ok {pr : List (List Nat)} {l : List Rec} (h : okCf pr 0 l = true) : CF pr l := fun i j a b hij ha hb => by
  have := okCf_spec l 0 h i j a b hij ha hb
  rw [Nat.zero_add, Nat.zero_add] at this
  exact this.imp id .inl
def okRxA (pr : List (List Nat)) (i : Nat) (a : Rec) : Nat → List Rec → Bool
  | _, [] => true
  | j, b :: r => ((pr.getD j []).any (fun x => Nat.beq x i) || noconf a b || (nocW a b && stOk a b)) && okRxA pr i a (j + 1) r
def okRx (pr : List (List Nat)) : Nat → List Rec → Bool
  | _, [] => true
  | i, a :: r => okRxA pr i a (i + 1) r && okRx pr (i + 1) r
def stLA (pr : List (List Nat)) (i : Nat) (a : Rec) : Nat → List Rec → List (Option D × Option D)
  | _, [] => []
  | j, b :: r => bif (pr.getD j []).any (fun x => Nat.beq x i) || noconf a b then stLA pr i a (j + 1) r else (stCell a b, ldCell a) :: stLA pr i a (j + 1) r
def stL (pr : List (List Nat)) : Nat → List Rec → List (Option D × Option D)
  | _, [] => []
  | i, a :: r => stLA pr i a (i + 1) r ++ stL pr (i + 1) r
theorem okRxA_spec {pr : List (List Nat)} {i : Nat} {a : Rec} : ∀ (l : List Rec) (j : Nat), okRxA pr i a j l = true → (∀ p ∈ stLA pr i a j l, p.1 = p.2) → ∀ (k : Nat) b, l[k]? = some b → i ∈ pr.getD (j + k) [] ∨ noconf a b = true ∨ (nocW a b = true ∧ stRel a b)
  | [], j, _, _, k, b, h => by simp at h
  | b' :: r, j, h, hs, k, b, hk => by
    rw [okRxA, Bool.and_eq_true] at h
    rw [stLA] at hs
    cases k with
    | zero =>
      simp at hk; subst hk
      cases hc : ((pr.getD j []).any (fun x => Nat.beq x i) || noconf a b') with
      | true =>
        rw [Bool.or_eq_true] at hc
        rcases hc with hc | hc
        · obtain ⟨x, hx, h4⟩ := List.any_eq_true.1 hc
          have := Nat.eq_of_beq_eq_true h4; subst this; exact .inl hx
        · exact .inr (.inl hc)
      | false =>
        rw [hc, Bool.false_or, Bool.and_eq_true] at h
        rw [hc, cond_false] at hs
        exact .inr (.inr ⟨h.1.1, stRel_of h.1.2 (hs _ List.mem_cons_self)⟩)
    | succ k =>
      have hs' : ∀ p ∈ stLA pr i a (j + 1) r, p.1 = p.2 := fun p hp => hs p (by cases ((pr.getD j []).any (fun x => Nat.beq x i) || noconf a b') <;> simp [hp])
      have := okRxA_spec r (j + 1) h.2 hs' k b (by simpa using hk)
      rw [show j + 1 + k = j + (k + 1) by omega] at this
      exact this
theorem okRx_spec {pr : List (List Nat)} : ∀ (l : List Rec) (i : Nat), okRx pr i l = true → (∀ p ∈ stL pr i l, p.1 = p.2) → ∀ (j k : Nat) a b, j < k → l[j]? = some a → l[k]? = some b → (i + j) ∈ pr.getD (i + k) [] ∨ noconf a b = true ∨ (nocW a b = true ∧ stRel a b)
  | [], i, _, _, j, k, a, b, _, h, _ => by simp at h
  | a' :: r, i, h, hs, j, k, a, b, hjk, hj, hk => by
    rw [okRx, Bool.and_eq_true] at h
    rw [stL] at hs
    cases k with
    | zero => omega
    | succ k =>
      cases j with
      | zero =>
        simp at hj; subst hj
        have := okRxA_spec r (i + 1) h.1 (fun p hp => hs p (List.mem_append_left _ hp)) k b (by simpa using hk)
        rw [show i + 1 + k = i + (k + 1) by omega] at this
        exact this
      | succ j =>
        have := okRx_spec r (i + 1) h.2 (fun p hp => hs p (List.mem_append_right _ hp)) j k a b (by omega) (by simpa using hj) (by simpa using hk)
        rw [show i + 1 + k = i + (k + 1) by omega, show i + 1 + j = i + (j + 1) by omega] at this
        exact this
theorem CF.of_rx {pr : List (List Nat)} {l : List Rec} (h : okRx pr 0 l = true) (hs : ∀ p ∈ stL pr 0 l, p.1 = p.2) : CF pr l := fun i j a b hij ha hb => by
  have := okRx_spec l 0 h hs i j a b hij ha hb
  rwa [Nat.zero_add, Nat.zero_add] at this

/-! ### states behind some operations -/
def rec0 : Rec := ⟨[], [], none, none, [], none⟩
def aft (recs : List Rec) (s : AS) (π : List Nat) : AS := π.foldl (fun S i => S.eff i (recs.getD i rec0)) s
theorem aft_snoc (recs : List Rec) (s : AS) (π : List Nat) (i : Nat) : aft recs s (π ++ [i]) = (aft recs s π).eff i (recs.getD i rec0) := by simp [aft]

theorem foldl_look {β : Type} (f : AS → β) (wr : Nat → Option β) (recs : List Rec) (hf : ∀ S i, f (S.eff i (recs.getD i rec0)) = (wr i).getD (f S)) : ∀ (π : List Nat) (S : AS), f (aft recs S π) = ((π.filterMap wr).getLast?).getD (f S)
  | [], S => rfl
  | i :: π, S => by
    have ih := foldl_look f wr recs hf π (S.eff i (recs.getD i rec0))
    show f (aft recs (S.eff i (recs.getD i rec0)) π) = _
    rw [ih, hf]
    cases hw : wr i with
    | none => simp [hw]
    | some v =>
      simp only [List.filterMap_cons, hw]
      rw [List.getLast?_cons]
      cases (π.filterMap wr).getLast? <;> rfl

def wrT (recs : List Rec) (t i : Nat) : Option (Option D) := if (recs.getD i rec0).dst = some t then some (recs.getD i rec0).v else none
def wrH (recs : List Rec) (k i : Nat) : Option (Option (Nat × Ob)) := lk (recs.getD i rec0).up k
theorem rec_ok {recs : List Rec} (h : recs.all recOk = true) (i : Nat) : recOk (recs.getD i rec0) = true := by
  rcases Nat.lt_or_ge i recs.length with hi | hi
  · have e : recs.getD i rec0 = recs[i] := by simp [hi]
    rw [e]; exact List.all_eq_true.1 h _ (List.getElem_mem hi)
  · have e : recs.getD i rec0 = rec0 := by simp [hi]
    rw [e]; rfl
theorem look_T (recs : List Rec) (hok : recs.all recOk = true) (t : Nat) (S : AS) (i : Nat) : (S.eff i (recs.getD i rec0)).tm.get t = (wrT recs t i).getD (S.tm.get t) := by
  have h := rec_ok hok i
  show (putT S.tm (recs.getD i rec0).dst (recs.getD i rec0).v).get t = _
  unfold wrT
  cases hd : (recs.getD i rec0).dst with
  | none => rfl
  | some x =>
    rw [recOk, hd, Bool.and_eq_true] at h
    simp only [putT, Option.some.injEq]
    rw [Tr.get_set _ _ _ h.1]
    by_cases e : x = t
    · rw [if_pos e.symm, if_pos e]; rfl
    · rw [if_neg (fun h => e h.symm), if_neg e]; rfl
theorem look_H (recs : List Rec) (hok : recs.all recOk = true) (k : Nat) (S : AS) (i : Nat) : (S.eff i (recs.getD i rec0)).hp.get k = (wrH recs k i).getD (S.hp.get k) := by
  have h := rec_ok hok i
  rw [recOk, Bool.and_eq_true] at h
  exact get_upH _ _ h.2

theorem sorted_ext : ∀ (l m : List Nat), l.Pairwise (· < ·) → m.Pairwise (· < ·) → (∀ x, x ∈ l ↔ x ∈ m) → l = m
  | [], [], _, _, _ => rfl
  | [], y :: m, _, _, h => by have := (h y).2 List.mem_cons_self; cases this
  | x :: l, [], _, _, h => by have := (h x).1 List.mem_cons_self; cases this
  | x :: l, y :: m, h1, h2, h => by
    rw [List.pairwise_cons] at h1 h2
    have e : x = y := by
      rcases List.mem_cons.1 ((h x).1 List.mem_cons_self) with e | hx
      · exact e
      · rcases List.mem_cons.1 ((h y).2 List.mem_cons_self) with e | hy
        · exact e.symm
        · have := h1.1 y hy; have := h2.1 x hx; omega
    subst e
    rw [sorted_ext l m h1.2 h2.2 fun z => ?_]
    have := h z
    constructor
    · intro hz
      rcases List.mem_cons.1 (this.1 (List.mem_cons_of_mem _ hz)) with e | hz'
      · have := h1.1 z hz; omega
      · exact hz'
    · intro hz
      rcases List.mem_cons.1 (this.2 (List.mem_cons_of_mem _ hz)) with e | hz'
      · have := h2.1 z hz; omega
      · exact hz'

theorem filterMap_of_filter {β : Type} (wr : Nat → Option β) (l : List Nat) : l.filterMap wr = (l.filter fun i => (wr i).isSome).filterMap wr := by
  induction l with
  | nil => rfl
  | cons x l ih =>
    cases h : wr x with
    | none => simp [h, ih]
    | some v => simp [h, ih]

/-- What was done, and what stands ahead of what: the orders in which it may be done. -/
structure Ord (pr : List (List Nat)) (recs : List Rec) (π : List Nat) : Prop where
  lin : π.Pairwise fun x y => y ∉ pr.getD x [] ∧ x ≠ y
  cl : ∀ x ∈ π, ∀ y ∈ pr.getD x [], y ∈ π
  lt : ∀ x ∈ π, x < recs.length

section
variable {pr : List (List Nat)} {recs : List Rec} {π : List Nat}

/-- Those that write a place come in one order. -/
theorem writers_eq (hcf : CF pr recs) (ho : Ord pr recs π) {m : Nat} (W : Nat → Bool) (hW : ∀ x y, x < recs.length → y < recs.length → x < y → W x = true → W y = true → nocW (recs.getD x rec0) (recs.getD y rec0) = false)
    (hmem : ∀ x, W x = true → (x ∈ π ↔ x < m)) : π.filter W = (List.range m).filter W := by
  refine sorted_ext _ _ ?_ (List.Pairwise.filter _ (List.pairwise_lt_range)) fun x => ?_
  · have h1 := ho.lin.filter W
    refine h1.imp_of_mem fun {x y} hx hy ⟨h2, h3⟩ => ?_
    rw [List.mem_filter] at hx hy
    rcases Nat.lt_trichotomy x y with h | h | h
    · exact h
    · exact absurd h h3
    · have hxl := ho.lt x hx.1
      have hyl := ho.lt y hy.1
      have := hcf y x (recs.getD y rec0) (recs.getD x rec0) h (by simp [hyl]) (by simp [hxl])
      rcases this with h4 | h4 | h4
      · exact absurd h4 h2
      · have h4 := noconf_W h4; rw [hW y x hyl hxl h hy.2 hx.2] at h4; cases h4
      · have h4 := h4.1; rw [hW y x hyl hxl h hy.2 hx.2] at h4; cases h4
  · rw [List.mem_filter, List.mem_filter, List.mem_range]
    constructor
    · rintro ⟨h1, h2⟩; exact ⟨(hmem x h2).1 h1, h2⟩
    · rintro ⟨h1, h2⟩; exact ⟨(hmem x h2).2 h1, h2⟩

theorem conf_T {a b : Rec} {t : Nat} (ha : a.dst = some t) (hb : b.dst = some t) : nocW a b = false := by
  cases h : nocW a b with
  | false => rfl
  | true =>
    simp only [nocW, Bool.and_eq_true] at h
    exact (disj_spec h.1.1.2 (x := t) (by simp [ha]) (by simp [hb])).elim
theorem keysU_of_get {up : Up} {k : Nat} (h : (lk up k).isSome = true) : k ∈ keysU up := by
  induction up with
  | nil => simp [lk] at h
  | cons p r ih =>
    simp only [lk] at h
    by_cases e : p.1 = k
    · subst e; exact List.mem_cons_self
    · rw [if_neg e] at h; exact List.mem_cons_of_mem _ (ih h)
theorem conf_H {a b : Rec} {k : Nat} (ha : (lk a.up k).isSome = true) (hb : (lk b.up k).isSome = true) : nocW a b = false := by
  cases h : nocW a b with
  | false => rfl
  | true =>
    simp only [nocW, Bool.and_eq_true] at h
    exact (disj_spec h.2 (keysU_of_get ha) (keysU_of_get hb)).elim

/-- Two lists of what was done agree at a place that the m-th one, not done yet, looks at; or where all is done. -/
theorem look_eq (hcf : CF pr recs) (ho : Ord pr recs π) {m : Nat} (hm : m ≤ recs.length) {β : Type} (f : AS → β) (wr : Nat → Option β) (hf : ∀ S i, f (S.eff i (recs.getD i rec0)) = (wr i).getD (f S))
    (hww : ∀ x y, x < recs.length → y < recs.length → (wr x).isSome = true → (wr y).isSome = true → nocW (recs.getD x rec0) (recs.getD y rec0) = false)
    (hout : ∀ x, recs.length ≤ x → wr x = none)
    (hread : m = recs.length ∧ (∀ x, x < m → x ∈ π) ∨ (m ∉ π ∧ (∀ y ∈ pr.getD m [], y ∈ π) ∧ m < recs.length ∧ ∀ x, x < recs.length → (wr x).isSome = true → nocW (recs.getD x rec0) (recs.getD m rec0) = false ∧ noconf (recs.getD m rec0) (recs.getD x rec0) = false ∧ (nocW (recs.getD m rec0) (recs.getD x rec0) = true → ¬ stRel (recs.getD m rec0) (recs.getD x rec0)))) (s : AS) :
    f (aft recs s π) = f (aft recs s (List.range m)) := by
  rw [foldl_look f wr recs hf, foldl_look f wr recs hf, filterMap_of_filter wr π, filterMap_of_filter wr (List.range m),
    writers_eq hcf ho (m := m) (fun i => (wr i).isSome) (fun x y hx hy _ h1 h2 => hww x y hx hy h1 h2) fun x hx => ?_]
  have hxl : x < recs.length := by
    rcases Nat.lt_or_ge x recs.length with h | h
    · exact h
    · rw [hout x h] at hx; cases hx
  rcases hread with ⟨rfl, hall⟩ | ⟨hmn, hpr, hml, hr⟩
  · exact ⟨fun _ => hxl, fun _ => hall x hxl⟩
  · obtain ⟨r1, r2, r3⟩ := hr x hxl hx
    constructor
    · intro hxp
      rcases Nat.lt_trichotomy x m with h | h | h
      · exact h
      · subst h; exact absurd hxp hmn
      · have := hcf m x (recs.getD m rec0) (recs.getD x rec0) h (by simp [hml]) (by simp [hxl])
        rcases this with h4 | h4 | h4
        · exact absurd (ho.cl x hxp m h4) hmn
        · rw [r2] at h4; cases h4
        · exact absurd h4.2 (r3 h4.1)
    · intro h
      have := hcf x m (recs.getD x rec0) (recs.getD m rec0) h (by simp [hxl]) (by simp [hml])
      rcases this with h4 | h4 | h4
      · exact hpr x h4
      · have h4 := noconf_W h4; rw [r1] at h4; cases h4
      · have h4 := h4.1; rw [r1] at h4; cases h4

theorem look_T_eq (hok : recs.all recOk = true) (hcf : CF pr recs) (ho : Ord pr recs π) {m t : Nat} (hm : m ≤ recs.length)
    (hread : m = recs.length ∧ (∀ x, x < m → x ∈ π) ∨ (m ∉ π ∧ (∀ y ∈ pr.getD m [], y ∈ π) ∧ m < recs.length ∧ t ∈ (recs.getD m rec0).rt)) (s : AS) : (aft recs s π).tm.get t = (aft recs s (List.range m)).tm.get t := by
  have dst : ∀ {x}, (wrT recs t x).isSome = true → (recs.getD x rec0).dst = some t := fun {x} h => by
    unfold wrT at h; split at h
    · assumption
    · cases h
  refine look_eq hcf ho hm (fun S => S.tm.get t) (wrT recs t) (fun S i => look_T recs hok t S i) (fun x y _ _ h1 h2 => conf_T (dst h1) (dst h2)) (fun x hx => by simp [wrT, rec0, hx]) (hread.imp id fun ⟨h1, h2, h3, h4⟩ => ⟨h1, h2, h3, fun x _ hx => ⟨?_, ?_, fun q => absurd q ?_⟩⟩) s
  · cases h : nocW (recs.getD x rec0) (recs.getD m rec0) with
    | false => rfl
    | true =>
      simp only [nocW, Bool.and_eq_true] at h
      exact (disj_spec h.1.1.1.1 (x := t) (by rw [dst hx]; exact List.mem_cons_self) h4).elim
  · cases h : noconf (recs.getD m rec0) (recs.getD x rec0) with
    | false => rfl
    | true =>
      have h := noconf_W h
      simp only [nocW, Bool.and_eq_true] at h
      exact (disj_spec h.1.1.1.2 (x := t) (by rw [dst hx]; exact List.mem_cons_self) h4).elim
  · intro h
    simp only [nocW, Bool.and_eq_true] at h
    exact (disj_spec h.1.1.1.2 (x := t) (by rw [dst hx]; exact List.mem_cons_self) h4).elim
theorem look_H_eq (hok : recs.all recOk = true) (hcf : CF pr recs) (ho : Ord pr recs π) {m k : Nat} (hm : m ≤ recs.length)
    (hread : m = recs.length ∧ (∀ x, x < m → x ∈ π) ∨ (m ∉ π ∧ (∀ y ∈ pr.getD m [], y ∈ π) ∧ m < recs.length ∧ k ∈ (recs.getD m rec0).rk ∧ (recs.getD m rec0).ld = none)) (s : AS) : (aft recs s π).hp.get k = (aft recs s (List.range m)).hp.get k := by
  refine look_eq hcf ho hm (fun S => S.hp.get k) (wrH recs k) (fun S i => look_H recs hok k S i) (fun x y _ _ h1 h2 => conf_H h1 h2) (fun x hx => by simp [wrH, rec0, hx, lk]) (hread.imp id fun ⟨h1, h2, h3, h4, h5⟩ => ⟨h1, h2, h3, fun x _ hx => ⟨?_, ?_, fun _ ⟨k', off, g, c, b2, h6, _⟩ => by rw [h5] at h6; cases h6⟩⟩) s
  · cases h : nocW (recs.getD x rec0) (recs.getD m rec0) with
    | false => rfl
    | true =>
      simp only [nocW, Bool.and_eq_true] at h
      exact (disj_spec h.1.2 (keysU_of_get hx) h4).elim
  · cases h : noconf (recs.getD m rec0) (recs.getD x rec0) with
    | false => rfl
    | true =>
      rw [noconf, Bool.and_eq_true] at h
      exact (disj_spec h.2 (keysU_of_get hx) h4).elim
theorem last_such {α : Type} (Q : α → Prop) [DecidablePred Q] : ∀ l : List α, (∃ x ∈ l, Q x) → ∃ l1 z l2, l = l1 ++ z :: l2 ∧ Q z ∧ ∀ x ∈ l2, ¬ Q x
  | [], ⟨x, h, _⟩ => by cases h
  | y :: l, ⟨x, h, hq⟩ => by
    by_cases hl : ∃ x ∈ l, Q x
    · obtain ⟨l1, z, l2, rfl, h1, h2⟩ := last_such Q l hl
      exact ⟨y :: l1, z, l2, rfl, h1, h2⟩
    · rcases List.mem_cons.1 h with rfl | h
      · exact ⟨[], x, l, rfl, hq, fun z hz q => hl ⟨z, hz, q⟩⟩
      · exact absurd ⟨x, h, hq⟩ hl
/-- A cell that is loaded holds the same, in whatever order. -/
theorem look_st (hok : recs.all recOk = true) (hcf : CF pr recs) (ho : Ord pr recs π) {m k off g : Nat} {c : Option D} (hml : m < recs.length) (hmn : m ∉ π) (hpr : ∀ y ∈ pr.getD m [], y ∈ π) (hld : (recs.getD m rec0).ld = some (k, off, g, c)) (hrk : k ∈ (recs.getD m rec0).rk) (s : AS) {b : Blk}
    (hb : (aft recs s (List.range m)).hp.get k = some (g, .b b)) (hc : b.cells[off]? = c) : ∃ b2, (aft recs s π).hp.get k = some (g, .b b2) ∧ b2.cells[off]? = c := by
  have hww : ∀ x y, (wrH recs k x).isSome = true → (wrH recs k y).isSome = true → nocW (recs.getD x rec0) (recs.getD y rec0) = false := fun x y h1 h2 => conf_H h1 h2
  have early : ∀ x, x < m → (wrH recs k x).isSome = true → x ∈ π := fun x hx hw => by
    have hno : nocW (recs.getD x rec0) (recs.getD m rec0) ≠ true := fun h => by
      simp only [nocW, Bool.and_eq_true] at h
      exact (disj_spec h.1.2 (keysU_of_get hw) hrk).elim
    rcases hcf x m (recs.getD x rec0) (recs.getD m rec0) hx (by simp [show x < recs.length by omega]) (by simp [hml]) with h4 | h4 | h4
    · exact hpr x h4
    · exact absurd (noconf_W h4) hno
    · exact absurd h4.1 hno
  have out : ∀ x, (wrH recs k x).isSome = true → x < recs.length := fun x hw => by
    rcases Nat.lt_or_ge x recs.length with h | h
    · exact h
    · simp [wrH, rec0, h, lk] at hw
  by_cases hE : ∃ y ∈ π, m < y ∧ (wrH recs k y).isSome = true
  · obtain ⟨y, hy, hmy, hwy⟩ := hE
    obtain ⟨l1, z, l2, hπ, hz, hl2⟩ := last_such (fun x => (wrH recs k x).isSome = true) π ⟨y, hy, hwy⟩
    have hzl := out z hz
    have hzπ : z ∈ π := by rw [hπ]; simp
    have hmz : m < z := by
      rcases Nat.lt_trichotomy m z with h | h | h
      · exact h
      · exact absurd (h ▸ hzπ) hmn
      · have hyz : z < y := by omega
        have hord : z ∈ pr.getD y [] := by
          rcases hcf z y (recs.getD z rec0) (recs.getD y rec0) hyz (by simp [hzl]) (by simp [out y hwy]) with h4 | h4 | h4
          · exact h4
          · have h4 := noconf_W h4; rw [hww z y hz hwy] at h4; cases h4
          · have h4 := h4.1; rw [hww z y hz hwy] at h4; cases h4
        have hy1 : y ∈ l1 := by
          rw [hπ] at hy
          rcases List.mem_append.1 hy with h5 | h5
          · exact h5
          · rcases List.mem_cons.1 h5 with h5 | h5
            · omega
            · exact absurd hwy (hl2 y h5)
        have hlin := ho.lin
        rw [hπ, List.pairwise_append] at hlin
        exact absurd hord (hlin.2.2 y hy1 z List.mem_cons_self).1
    have hst : stRel (recs.getD m rec0) (recs.getD z rec0) := by
      rcases hcf m z (recs.getD m rec0) (recs.getD z rec0) hmz (by simp [hml]) (by simp [hzl]) with h4 | h4 | h4
      · exact absurd (ho.cl z hzπ m h4) hmn
      · rw [noconf, Bool.and_eq_true] at h4
        exact (disj_spec h4.2 (keysU_of_get hz) hrk).elim
      · exact h4.2
    obtain ⟨k', off', g', c', b2, e1, e2, e3⟩ := hst
    rw [hld] at e1
    simp only [Option.some.injEq, Prod.mk.injEq] at e1
    obtain ⟨rfl, rfl, rfl, rfl⟩ := e1
    refine ⟨b2, ?_, e3⟩
    rw [foldl_look (fun S => S.hp.get k) (wrH recs k) recs (fun S i => look_H recs hok k S i), hπ, List.filterMap_append, List.filterMap_cons]
    have hn : l2.filterMap (wrH recs k) = [] := List.filterMap_eq_nil_iff.2 fun x hx => by
      cases hq : wrH recs k x with
      | none => rfl
      | some v => exact absurd (by rw [hq]; rfl) (hl2 x hx)
    have hwz : wrH recs k z = some (some (g, .b b2)) := e2
    rw [hwz]
    dsimp only
    rw [hn, List.getLast?_append]
    rfl
  · refine ⟨b, ?_, hc⟩
    rw [← hb, foldl_look (fun S => S.hp.get k) (wrH recs k) recs (fun S i => look_H recs hok k S i), foldl_look (fun S => S.hp.get k) (wrH recs k) recs (fun S i => look_H recs hok k S i), filterMap_of_filter (wrH recs k) π, filterMap_of_filter (wrH recs k) (List.range m),
      writers_eq hcf ho (m := m) (fun i => (wrH recs k i).isSome) (fun x y _ _ _ h1 h2 => hww x y h1 h2) fun x hx => ⟨fun hxp => ?_, fun h => early x h hx⟩]
    rcases Nat.lt_trichotomy x m with h | h | h
    · exact h
    · exact absurd (h ▸ hxp) hmn
    · exact absurd ⟨x, hxp, h, hx⟩ hE
end

/-! ### what must be shown of such a region -/
def recOf (T : TT) (s : AS) (o : Oper) (v : Option D) (up : Up) : Rec := ⟨tmpsOf o.op.operands.toList, rkOf s o, o.dst, v, up, ldOf T s o⟩
def recOfG (T : TT) (s : AS) (t : Nat) (o : Oper) (v : Option D) (up : Up) : Rec := ⟨t :: tmpsOf o.op.operands.toList, rkOf s o, o.dst, v, up, ldOf T s o⟩
/-- The state that an operation is shown. -/
def smallOf (s : AS) (o : Oper) : AS := small s (tmpsOf o.op.operands.toList) (rkOf s o)
/-- No two operations of a region are at odds. -/
structure okcP (pr : List (List Nat)) (log : List Rec) : Prop where
  cf : CF pr log.reverse
  ok : log.all recOk = true
theorem okcP.of {pr : List (List Nat)} {log : List Rec} (h : (okCf pr 0 log.reverse && log.all recOk) = true) : okcP pr log := by
  rw [Bool.and_eq_true] at h; exact ⟨CF.of_ok h.1, h.2⟩
theorem okcP.rx {pr : List (List Nat)} {log : List Rec} (h : (okRx pr 0 log.reverse && log.all recOk) = true) (hs : ∀ p ∈ stL pr 0 log.reverse, p.1 = p.2) : okcP pr log := by
  rw [Bool.and_eq_true] at h; exact ⟨CF.of_rx h.1 hs, h.2⟩
def vcD (P : Program) (T : TT) (nt kb : Nat) (all : List Oper) (pr : List (List Nat)) : Nat → List Oper → AS → List Rec → (AS → Prop) → Prop
  | _, [], s, log, K => okcP pr log ∧ K s
  | i, o :: r, s, log, K => chkP (dstOk nt o) (match o.guard with
    | none => vcOp P T (smallOf s o) (s.nx + 8 * i) (s.nx + 8 * i) o fun v up => vcD P T nt kb all pr (i + 1) r (s.eff i (recOf T s o v up)) (recOf T s o v up :: log) K
    | some jw => match (all[jw.1]?).bind (·.dst) with
      | some t => match s.tm.get t with
        | some (.v (.bool b)) => brP b
          (bif jw.2 then vcOp P T (smallOf s o) (s.nx + 8 * i) (s.nx + 8 * i) o fun v up => vcD P T nt kb all pr (i + 1) r (AS.eff { s with tm := s.tm.set t (some (.v (.bool true))) } i (recOfG T s t o v up)) (recOfG T s t o v up :: log) K
            else vcD P T nt kb all pr (i + 1) r (AS.eff { s with tm := s.tm.set t (some (.v (.bool true))) } i ⟨[t], [], o.dst, some (.tup []), [], none⟩) (⟨[t], [], o.dst, some (.tup []), [], none⟩ :: log) K)
          (bif jw.2 then vcD P T nt kb all pr (i + 1) r (AS.eff { s with tm := s.tm.set t (some (.v (.bool false))) } i ⟨[t], [], o.dst, some (.tup []), [], none⟩) (⟨[t], [], o.dst, some (.tup []), [], none⟩ :: log) K
            else vcOp P T (smallOf s o) (s.nx + 8 * i) (s.nx + 8 * i) o fun v up => vcD P T nt kb all pr (i + 1) r (AS.eff { s with tm := s.tm.set t (some (.v (.bool false))) } i (recOfG T s t o v up)) (recOfG T s t o v up :: log) K)
        | some (.tup []) => vcD P T nt kb all pr (i + 1) r (s.eff i ⟨[t], [], o.dst, some (.tup []), [], none⟩) (⟨[t], [], o.dst, some (.tup []), [], none⟩ :: log) K
        | _ => False
      | none => False)

theorem vcOp_ex {nm ky : Nat} {K : Option D → Up → Prop} (h : vcOp P T s nm ky o K) : ∃ v up, vcOp P T s nm ky o (fun v' up' => v' = v ∧ up' = up) ∧ K v up := by
  unfold vcOp at h ⊢
  split at h
  case h_1 p hp =>
    obtain ⟨al, fp, q, hin, r, bs, h1, h2, h4, h5, h6⟩ := h.h
    exact ⟨_, _, ⟨al, fp, q, hin, r, bs, h1, h2, h4, h5, rfl, rfl⟩, h6⟩
  case h_2 hp =>
    have key : ∀ (e : Ev) (K : Option D → Up → Prop), e.vc K → ∃ v up, e.vc (fun v' up' => v' = v ∧ up' = up) ∧ K v up := by
      intro e
      induction e with
      | ok v up => intro K h; exact ⟨v, up, ⟨rfl, rfl⟩, h⟩
      | cond b k ih => intro K h; obtain ⟨h0, h⟩ := chkP_iff.1 h; obtain ⟨v, up, h1, h2⟩ := ih K h; exact ⟨v, up, chkP_iff.2 ⟨h0, h1⟩, h2⟩
      | opt o k ih => intro K h; obtain ⟨d, hd, h⟩ := optP_iff.1 h; obtain ⟨v, up, h1, h2⟩ := ih d K h; exact ⟨v, up, optP_iff.2 ⟨d, hd, h1⟩, h2⟩
      | bytes cs k ih => intro K h; obtain ⟨bs, hb, h⟩ := h.h; obtain ⟨v, up, h1, h2⟩ := ih bs K h; exact ⟨v, up, ⟨bs, hb, h1⟩, h2⟩
      | list cs k ih => intro K h; exact ih cs K h
      | stuck => intro K h; exact h.elim
    exact key _ K h

/-- Two states that read alike. -/
structure AEq (s s' : AS) : Prop where
  tm : ∀ t, s.tm.get t = s'.tm.get t
  hp : ∀ k, s.hp.get k = s'.hp.get k
  nx : s.nx = s'.nx
theorem AEq.refl (s : AS) : AEq s s := ⟨fun _ => rfl, fun _ => rfl, rfl⟩
theorem AEq.eff {s s' : AS} (h : AEq s s') (i j : Nat) (r : Rec) (hr : recOk r = true) : AEq (s.eff i r) (s'.eff j r) := by
  rw [recOk, Bool.and_eq_true] at hr
  refine ⟨fun t => ?_, fun k => ?_, h.nx⟩
  · show (putT s.tm r.dst r.v).get t = (putT s'.tm r.dst r.v).get t
    cases hd : r.dst with
    | none => exact h.tm t
    | some x =>
      rw [hd] at hr
      simp only [putT]
      rw [Tr.get_set _ _ _ hr.1, Tr.get_set _ _ _ hr.1, h.tm]
  · show (upH r.up s.hp).get k = (upH r.up s'.hp).get k
    rw [get_upH _ _ hr.2, get_upH _ _ hr.2, h.hp]
theorem AEq.know {s s' : AS} (h : AEq s s') {t : Nat} {d : D} (ht : s.tm.get t = some d) (hok : Tr.okK t = true) : AEq { s with tm := s.tm.set t (some d) } s' :=
  ⟨fun x => by
    rw [Tr.get_set _ _ _ hok]
    by_cases e : x = t
    · subst e; rw [if_pos rfl, ← h.tm, ht]
    · rw [if_neg e]; exact h.tm x, h.hp, h.nx⟩

/-- What a load's record tells. -/
def ldG (T : TT) (S : AS) (ts : List Nat) (o : Oper) (r : Rec) : Prop := ∀ k off g c, r.ld = some (k, off, g, c) → ∃ ty t ti gp b, o.op = .load ty (.tmp t) ∧ T.get ty = some ti ∧ ti.desc.isRow = false ∧ t ∈ ts ∧ S.tm.get t = some (.ptr k gp off) ∧ S.hp.get k = some (g, .b b) ∧ b.cells[off]? = c ∧ k ∈ r.rk
theorem ldG_none {T : TT} {S : AS} {ts : List Nat} {o : Oper} {r : Rec} (h : r.ld = none) : ldG T S ts o r := fun k off g c q => by rw [h] at q; cases q
theorem ldG_of {T : TT} {s S : AS} {o : Oper} {r : Rec} (he : AEq s S) (h : r.ld = ldOf T s o) (hk : r.rk = rkOf s o) : ldG T S (tmpsOf o.op.operands.toList) o r := fun k off g c q => by
  rw [h] at q
  unfold ldOf at q
  split at q
  case h_2 => cases q
  case h_1 ty t ho =>
  split at q
  case h_2 => cases q
  case h_1 ti k' gp off' h1 h2 =>
  split at q
  case h_2 => cases q
  case h_1 p hp =>
  cases hb : (ti.desc.isRow || !((rkOf s o).any fun x => Nat.beq x k') || !((tmpsOf o.op.operands.toList).any fun x => Nat.beq x t)) with
  | true => rw [hb] at q; cases q
  | false =>
    rw [hb] at q
    simp only [cond_false, Option.some.injEq, Prod.mk.injEq] at q
    obtain ⟨rfl, rfl, rfl, rfl⟩ := q
    rw [Bool.or_eq_false_iff, Bool.or_eq_false_iff, Bool.not_eq_false', Bool.not_eq_false'] at hb
    obtain ⟨⟨b1, b2⟩, b3⟩ := hb
    obtain ⟨x, hx, e⟩ := List.any_eq_true.1 b2
    have e := Nat.eq_of_beq_eq_true e; subst e
    obtain ⟨y, hy, e⟩ := List.any_eq_true.1 b3
    have e := Nat.eq_of_beq_eq_true e; subst e
    have hp2 : s.at x = some (p.1, p.2) := hp
    rw [AS.at_iff] at hp2
    exact ⟨ty, y, ti, gp, p.2, ho, h1, b1, hy, by rw [← he.tm]; exact h2, by rw [← he.hp]; exact hp2, rfl, by rw [hk]; exact hx⟩
/-- What is known of the i-th operation. -/
def Fact (P : Program) (T : TT) (nt kb : Nat) (all : List Oper) (S : AS) (i : Nat) (o : Oper) (r : Rec) : Prop :=
  dstOk nt o = true ∧ r.dst = o.dst ∧
  (((o.guard = none ∨ ∃ j want t, o.guard = some (j, want) ∧ (all[j]?).bind (·.dst) = some t ∧ S.tm.get t = some (.v (.bool want)) ∧ t ∈ r.rt) ∧
      ∃ s1 ts, AEq s1 S ∧ (∀ t ∈ ts, t ∈ r.rt) ∧ (vcOp P T (small s1 ts r.rk) (S.nx + 8 * i) (S.nx + 8 * i) o fun v up => v = r.v ∧ up = r.up) ∧ ldG T S ts o r) ∨
    (∃ j want t, o.guard = some (j, want) ∧ (all[j]?).bind (·.dst) = some t ∧ (S.tm.get t = some (.v (.bool (!want))) ∨ S.tm.get t = some (.tup [])) ∧ t ∈ r.rt ∧ r.v = some (.tup []) ∧ r.up = []))

theorem Fact.congr {nt kb : Nat} {all : List Oper} {S S' : AS} (h : AEq S S') {r : Rec} (hf : Fact P T nt kb all S i o r) : Fact P T nt kb all S' i o r := by
  obtain ⟨h1, h2, h3⟩ := hf
  refine ⟨h1, h2, ?_⟩
  rcases h3 with ⟨h3, s1, ts, h4, h5, h6, h7⟩ | ⟨j, want, t, h3, h4, h5, h6⟩
  · refine .inl ⟨h3.imp id fun ⟨j, want, t, a1, a2, a3, a4⟩ => ⟨j, want, t, a1, a2, by rw [← h.tm]; exact a3, a4⟩, s1, ts, ⟨fun t => (h4.tm t).trans (h.tm t), fun k => (h4.hp k).trans (h.hp k), h4.nx.trans h.nx⟩, h5, by rw [← h.nx]; exact h6, fun k off g c q => ?_⟩
    obtain ⟨ty, t, ti, gp, b, a1, a2, a3, a4, a5, a6, a7⟩ := h7 k off g c q
    exact ⟨ty, t, ti, gp, b, a1, a2, a3, a4, by rw [← h.tm]; exact a5, by rw [← h.hp]; exact a6, a7⟩
  · exact .inr ⟨j, want, t, h3, h4, by rw [← h.tm]; exact h5, h6⟩

theorem vcD_end {nt kb : Nat} {all : List Oper} {pr : List (List Nat)} {K : AS → Prop} : ∀ (l : List Oper) (i : Nat) (s : AS) (log : List Rec), vcD P T nt kb all pr i l s log K → log.all recOk = true
  | [], i, s, log, h => by
    exact h.1.ok
  | o :: l, i, s, log, h => by
    have step : ∀ (s1 : AS) (r : Rec), vcD P T nt kb all pr (i + 1) l s1 (r :: log) K → log.all recOk = true := fun s1 r h => by
      have := vcD_end l (i + 1) s1 (r :: log) h
      rw [List.all_cons, Bool.and_eq_true] at this; exact this.2
    obtain ⟨_, h⟩ := chkP_iff.1 h
    cases hg : o.guard with
    | none =>
      rw [hg] at h
      obtain ⟨v, up, h1, h2⟩ := vcOp_ex h
      exact step _ _ h2
    | some jw =>
      rw [hg] at h
      dsimp only at h
      split at h
      case h_2 => exact h.elim
      case h_1 t ht =>
      split at h
      case h_3 => exact h.elim
      case h_2 hb => exact step _ _ h
      case h_1 b hb =>
      obtain ⟨h1, h2⟩ := brP_iff.1 h
      obtain ⟨j, want⟩ := jw
      cases b <;> cases want
      · obtain ⟨v, up, _, h4⟩ := vcOp_ex (h2 rfl); exact step _ _ h4
      · exact step _ _ (h2 rfl)
      · exact step _ _ (h1 rfl)
      · obtain ⟨v, up, _, h4⟩ := vcOp_ex (h1 rfl); exact step _ _ h4

def RecsOf (P : Program) (T : TT) (nt kb : Nat) (all : List Oper) (pr : List (List Nat)) (K : AS → Prop) (l : List Oper) (i : Nat) (S : AS) (log : List Rec) : Prop :=
  ∃ recs : List Rec, recs.length = l.length ∧ CF pr (log.reverse ++ recs) ∧ recs.all recOk = true ∧ (∃ s', K s' ∧ AEq s' (recs.foldl (fun S r => S.eff 0 r) S)) ∧ ∀ (j : Nat) o r, l[j]? = some o → recs[j]? = some r → Fact P T nt kb all ((recs.take j).foldl (fun S r => S.eff 0 r) S) (i + j) o r
/-- What was shown in the text's order: a record for each operation. -/
theorem vcD_ex {nt kb : Nat} {all : List Oper} (hall : ∀ o ∈ all, dstOk nt o = true) {pr : List (List Nat)} {K : AS → Prop} : ∀ (l : List Oper) (i : Nat) (s S : AS) (log : List Rec), AEq s S → vcD P T nt kb all pr i l s log K →
    RecsOf P T nt kb all pr K l i S log
  | [], i, s, S, log, he, h => ⟨[], rfl, by have := h.1.cf; simpa using this, rfl, ⟨s, h.2, he⟩, fun j o r hj => by simp at hj⟩
  | o :: l, i, s, S, log, he, h => by
    obtain ⟨hd, h⟩ := chkP_iff.1 h
    have cont : ∀ (s1 : AS) (r : Rec), AEq s1 S → Fact P T nt kb all S i o r → vcD P T nt kb all pr (i + 1) l (s1.eff i r) (r :: log) K →
        RecsOf P T nt kb all pr K (o :: l) i S log := by
      intro s1 r he1 hf hv
      have hrok : recOk r = true := by
        have := vcD_end l (i + 1) _ (r :: log) hv
        rw [List.all_cons, Bool.and_eq_true] at this; exact this.1
      obtain ⟨recs, h1, h2, h2', h3, h4⟩ := vcD_ex hall l (i + 1) _ (S.eff 0 r) (r :: log) (he1.eff i 0 r hrok) hv
      refine ⟨r :: recs, by simp [h1], by simpa using h2, by rw [List.all_cons, hrok, h2']; rfl, h3, fun j o' r' ho hr => ?_⟩
      cases j with
      | zero => simp at ho hr; subst ho hr; exact hf
      | succ j =>
        have := h4 j o' r' (by simpa using ho) (by simpa using hr)
        rw [show i + 1 + j = i + (j + 1) by omega] at this
        exact this
    cases hg : o.guard with
    | none =>
      rw [hg] at h
      obtain ⟨v, up, h1, h2⟩ := vcOp_ex h
      exact cont s _ he ⟨hd, rfl, .inl ⟨.inl hg, s, _, he, fun t ht => ht, by rw [← he.nx]; exact h1, ldG_of he rfl rfl⟩⟩ h2
    | some jw =>
      obtain ⟨j, want⟩ := jw
      rw [hg] at h
      dsimp only at h
      split at h
      case h_2 => exact h.elim
      case h_1 t ht =>
      split at h
      case h_3 => exact h.elim
      case h_2 hb => exact cont s _ he ⟨hd, rfl, .inr ⟨j, want, t, hg, ht, .inr (by rw [← he.tm]; exact hb), List.mem_cons_self, rfl, rfl⟩⟩ h
      case h_1 b hb =>
      have hokt : Tr.okK t = true := by
        obtain ⟨o', h1, h2⟩ := Option.bind_eq_some_iff.1 ht
        have := hall o' (List.mem_of_getElem? h1)
        unfold dstOk at this
        rw [h2, Bool.and_eq_true] at this
        exact this.2
      obtain ⟨h1, h2⟩ := brP_iff.1 h
      have run : ∀ c, b = c → c = want → vcOp P T (smallOf s o) (s.nx + 8 * i) (s.nx + 8 * i) o (fun v up => vcD P T nt kb all pr (i + 1) l (AS.eff { s with tm := s.tm.set t (some (.v (.bool c))) } i (recOfG T s t o v up)) (recOfG T s t o v up :: log) K) → RecsOf P T nt kb all pr K (o :: l) i S log := fun c hbc hcw hv => by
        obtain ⟨v, up, h1, h2⟩ := vcOp_ex hv
        have he1 := he.know (t := t) (d := .v (.bool c)) (by rw [hb, hbc]) hokt
        exact cont _ _ he1 ⟨hd, rfl, .inl ⟨.inr ⟨j, want, t, hg, ht, by rw [← he.tm, hb, hbc, hcw], List.mem_cons_self⟩, s, _, he, fun t ht => List.mem_cons_of_mem _ ht, by rw [← he.nx]; exact h1, ldG_of he rfl rfl⟩⟩ h2
      have skip : ∀ c, b = c → c = !want → vcD P T nt kb all pr (i + 1) l (AS.eff { s with tm := s.tm.set t (some (.v (.bool c))) } i ⟨[t], [], o.dst, some (.tup []), [], none⟩) (⟨[t], [], o.dst, some (.tup []), [], none⟩ :: log) K → RecsOf P T nt kb all pr K (o :: l) i S log := fun c hbc hcw hv => by
        have he1 := he.know (t := t) (d := .v (.bool c)) (by rw [hb, hbc]) hokt
        exact cont _ _ he1 ⟨hd, rfl, .inr ⟨j, want, t, hg, ht, .inl (by rw [← he.tm, hb, hbc, hcw]), List.mem_cons_self, rfl, rfl⟩⟩ hv
      cases b <;> cases want
      · exact run false rfl rfl (h2 rfl)
      · exact skip false rfl rfl (h2 rfl)
      · exact skip true rfl rfl (h1 rfl)
      · exact run true rfl rfl (h1 rfl)
end
end Go.Vx

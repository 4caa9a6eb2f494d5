/- VxS: a function's contract, out of its code, in the abstract. No program. -/
import Derived.Test.YtegjeagfcfhbeaaVxY
namespace Go.Vx
set_option linter.unusedVariables false
set_option linter.unusedSimpArgs false
open Go.RowKit Go.Bw

def enumH : Nat → List Blk → Tr (Nat × Ob)
  | _, [] => .e
  | i, b :: r => (enumH (i + 1) r).set i (some (i, .b b))
theorem enumH_get : ∀ (bs : List Blk) (i k : Nat) {g : Nat} {o : Ob}, (enumH i bs).get k = some (g, o) → i ≤ k ∧ g = k ∧ ∃ b, o = .b b ∧ bs[k - i]? = some b
  | [], i, k, g, o, h => by cases h
  | x :: r, i, k, g, o, h => by
    rcases Tr.of_set h with ⟨rfl, hv⟩ | ⟨e, h⟩
    · cases hv; exact ⟨Nat.le_refl _, rfl, x, rfl, by simp⟩
    · obtain ⟨h1, h2, b, h3, h4⟩ := enumH_get r (i + 1) k h
      exact ⟨by omega, h2, b, h3, by rw [show k - i = (k - (i + 1)) + 1 by omega, List.getElem?_cons_succ]; exact h4⟩
/-- The state in which a function begins. -/
def s0 (ds : List D) (hin : List Blk) : AS := { tm := enumT 0 ds, hp := enumH 0 hin, nx := hin.length }

mutual
def D.pl : D → Bool
  | .v _ => true
  | .agg cs => plL cs
  | .ifc _ x => x.pl
  | _ => false
def plL : List D → Bool
  | [] => true
  | d :: r => d.pl && plL r
end
theorem plL_iff {l : List D} : plL l = true ↔ ∀ d ∈ l, d.pl = true := by
  induction l with
  | nil => simp [plL]
  | cons x l ih => simp [plL, ih]
theorem pl_bytes (bs : List UInt8) : plL (bs.map dB) = true := plL_iff.2 fun d hd => by simp only [List.mem_map] at hd; obtain ⟨b, _, rfl⟩ := hd; rfl
theorem RD.plain {E : Env} {w : World} {d : D} {u : Value} (h : RD E w d u) : d.pl = true → ∀ (E' : Env) (w' : World), RD E' w' d u := by
  induction h with
  | v c h => exact fun _ _ _ => .v c h
  | agg cs us hlen _ h1 ih => exact fun hc E' w' => .agg cs us hlen (fun i d u a1 a2 => ih i d u a1 a2 (plL_iff.1 hc d (List.mem_of_getElem? a1)) E' w') h1
  | ifc t x u _ ih => exact fun hc E' w' => .ifc t x u (ih hc E' w')
  | _ => intro hc; cases hc
mutual
theorem D.pl_closed : ∀ (d : D), d.pl = true → d.closed = true
  | .v _, _ => rfl
  | .agg cs, h => plL_closed cs h
  | .ifc _ x, h => D.pl_closed x h
  | .sl .., h => nomatch h
  | .ref .., h => nomatch h
  | .ptr .., h => nomatch h
  | .ep .., h => nomatch h
  | .tup _, h => nomatch h
  | .fn .., h => nomatch h
  | .yl .., h => nomatch h
theorem plL_closed : ∀ (l : List D), plL l = true → closedL l = true
  | [], _ => rfl
  | d :: r, h => by
    have h' : (d.pl && plL r) = true := h
    rw [Bool.and_eq_true] at h'
    show (d.closed && closedL r) = true
    rw [D.pl_closed d h'.1, plL_closed r h'.2]; rfl
end


mutual
def okR (al : Bool) (n : Nat) : D → Bool
  | .v _ => true
  | .sl _ _ _ _ => al
  | .ref _ g _ _ _ => Nat.blt g n
  | .ptr _ g _ => Nat.blt g n
  | .ep _ _ => al
  | .agg cs => okRL al n cs
  | .tup cs => okRL al n cs
  | .ifc _ x => okR al n x
  | .fn _ fi ca => okRL al n fi && okRL al n ca
  | .yl _ g => Nat.blt g n
def okRL (al : Bool) (n : Nat) : List D → Bool
  | [] => true
  | d :: r => okR al n d && okRL al n r
end
theorem okRL_get {al : Bool} {n : Nat} : ∀ {l : List D}, okRL al n l = true → ∀ (j : Nat) d, l[j]? = some d → okR al n d = true
  | [], _, j, d, h => by simp at h
  | x :: r, h, j, d, hj => by
    simp only [okRL, Bool.and_eq_true] at h
    cases j with
    | zero => simp at hj; subst hj; exact h.1
    | succ j => exact okRL_get h.2 j d (by simpa using hj)

/-- The cells of a block that is handed on. -/
def okB (al : Bool) (n : Nat) (b : Blk) : Bool := bif b.row then (bif al then closedL b.cells else plL b.cells) else okRL al n b.cells
def expo (al : Bool) (n : Nat) (κ γ : Nat → Nat) (s : AS) : List Nat → List Nat → List Blk → Prop
  | [], [], [] => True
  | k :: ks, g :: gs, b :: bs => s.at k = some (g, mapBlk κ γ b) ∧ okB al n b = true ∧ expo al n κ γ s ks gs bs
  | _, _, _ => False
theorem expo_get {al : Bool} {n : Nat} {κ γ : Nat → Nat} {s : AS} : ∀ {ks gs : List Nat} {bs : List Blk}, expo al n κ γ s ks gs bs → ks.length = bs.length ∧ gs.length = bs.length ∧ ∀ (j : Nat) b, bs[j]? = some b → s.at (ks.getD j 0) = some (gs.getD j 0, mapBlk κ γ b) ∧ okB al n b = true
  | [], [], [], _ => ⟨rfl, rfl, fun j b h => by simp at h⟩
  | k :: ks, g :: gs, b :: bs, ⟨h1, h2, h3⟩ => by
    obtain ⟨e1, e2, e3⟩ := expo_get h3
    refine ⟨by simp [e1], by simp [e2], fun j b' hb => ?_⟩
    cases j with
    | zero => simp at hb; subst hb; exact ⟨h1, h2⟩
    | succ j => simpa using e3 j b' (by simpa using hb)
  | [], [], _ :: _, h => h.elim
  | [], _ :: _, _, h => h.elim
  | _ :: _, [], _, h => h.elim
  | _ :: _, _ :: _, [], h => h.elim
def inNames : Nat → Nat → List Nat → Bool
  | _, 0, _ => true
  | i, m + 1, g :: r => Nat.beq g i && inNames (i + 1) m r
  | _, _ + 1, [] => false
theorem inNames_get : ∀ {m i : Nat} {gs : List Nat}, inNames i m gs = true → ∀ j, j < m → gs.getD j 0 = i + j
  | 0, _, _, _, j, hj => by omega
  | m + 1, i, [], h, j, hj => by simp [inNames] at h
  | m + 1, i, g :: r, h, j, hj => by
    simp only [inNames, Bool.and_eq_true] at h
    cases j with
    | zero => simpa using Nat.eq_of_beq_eq_true h.1
    | succ j =>
      have := inNames_get h.2 j (by omega)
      simp only [List.getD_cons_succ]
      omega

/-- What comes out at a function's end: the results l are r with the blocks bs. -/
structure Out (al : Bool) (m : Nat) (s : AS) (l : List D) (r : D) (bs : List Blk) : Prop where
  h : ∃ ks gs : List Nat, expo al bs.length (fun j => ks.getD j 0) (fun j => gs.getD j 0) s ks gs bs ∧ nodupB ks = true ∧ inNames 0 m gs = true ∧ mapN (fun j => ks.getD j 0) (fun j => gs.getD j 0) r = resD l ∧ okR al bs.length r = true

section
variable {P : Program} {T : TT} {nt kb : Nat}

theorem unmap {E Er : Env} {w : World} {κ γ : Nat → Nat} {n : Nat} {al : Bool} (hg : ∀ j, j < n → E.nm (γ j) → Er.nm j ∧ E.φ (γ j) = Er.φ j) (ho : al = true → ∀ b, Er.own b → E.own b) : ∀ {d : D} {u : Value}, RD E w d u → ∀ r, mapN κ γ r = d → okR al n r = true → RD Er w r u := by
  have lst : ∀ {rs cs : List D}, mapNL κ γ rs = cs → cs.length = rs.length ∧ ∀ j : Nat, cs[j]? = (rs[j]?).map (mapN κ γ) := fun {rs cs} h => by
    subst h; rw [mapNL_eq]; exact ⟨by simp, fun j => by simp⟩
  intro d u h
  induction h with
  | v c h =>
    intro r hr hok
    cases r <;> simp only [mapN, reduceCtorEq, D.v.injEq] at hr
    subst hr; exact .v _ h
  | @sl E1 w1 nn m sz cells ad c us hlen hd h1 hn hs hc h0 hr' ih =>
    intro r hr hok
    cases r <;> simp only [mapN, reduceCtorEq, D.sl.injEq] at hr
    obtain ⟨rfl, rfl, rfl, rfl⟩ := hr
    exact RD.ofCl (RD.step (E := E1.cl) (E' := Er.cl) (w := w1) (w' := w1) ⟨fun _ h => h.elim, fun _ h => h.elim, Nat.le_refl _, fun b _ hb => ⟨fun h => hb (ho hok b h), rfl⟩, fun _ _ => rfl⟩ ((RD.sl _ _ _ _ ad c us hlen hd h1 hn hs hc h0 hr').weak rfl))
  | ref k g off m sz c b off' t mm hg' hb hc ho' hsh hm =>
    intro r hr hok
    cases r <;> simp only [mapN, reduceCtorEq, D.ref.injEq] at hr
    obtain ⟨rfl, rfl, rfl, rfl, rfl⟩ := hr
    rename_i k0 g0 _ _ _
    have hlt : g0 < n := Nat.le_of_ble_eq_true hok
    exact .ref k0 g0 _ _ _ c b off' t mm (hg g0 hlt hg').1 ((hg g0 hlt hg').2.symm.trans hb) hc ho' hsh hm
  | refn k g sz hg' hb =>
    intro r hr hok
    cases r <;> simp only [mapN, reduceCtorEq, D.ref.injEq] at hr
    obtain ⟨rfl, rfl, rfl, rfl, rfl⟩ := hr
    rename_i k0 g0 sz0
    have hlt : g0 < n := Nat.le_of_ble_eq_true hok
    exact .refn k0 g0 _ (hg g0 hlt hg').1 ((hg g0 hlt hg').2.symm.trans hb)
  | ptr k g off b hg' hb =>
    intro r hr hok
    cases r <;> simp only [mapN, reduceCtorEq, D.ptr.injEq] at hr
    obtain ⟨rfl, rfl, rfl⟩ := hr
    rename_i k0 g0 _
    have hlt : g0 < n := Nat.le_of_ble_eq_true hok
    exact .ptr k0 g0 _ b (hg g0 hlt hg').1 ((hg g0 hlt hg').2.symm.trans hb)
  | @ep E1 w1 cells off b o us hlen hd h1 hb ho' hr' ih =>
    intro r hr hok
    cases r <;> simp only [mapN, reduceCtorEq, D.ep.injEq] at hr
    obtain ⟨rfl, rfl⟩ := hr
    exact .ep _ _ b o us hlen (fun i d u a1 a2 => (hd i d u a1 a2).step (E := E1.cl) (E' := Er.cl) (w := w1) (w' := w1) ⟨fun _ h => h.elim, fun _ h => h.elim, Nat.le_refl _, fun b _ hb => ⟨fun h => hb (ho hok b h), rfl⟩, fun _ _ => rfl⟩) h1 hb (fun hh => ho' (ho hok b hh)) hr'
  | agg cs us hlen _ h1 ih =>
    intro r hr hok
    cases r <;> simp only [mapN, reduceCtorEq, D.agg.injEq] at hr
    rename_i rs
    obtain ⟨e1, e2⟩ := lst hr
    refine .agg rs us (by rw [hlen, e1]) (fun i d u a1 a2 => ?_) h1
    exact ih i _ u (by rw [e2, a1]; rfl) a2 hg ho d rfl (okRL_get hok i d a1)
  | tup cs us hlen _ ih =>
    intro r hr hok
    cases r <;> simp only [mapN, reduceCtorEq, D.tup.injEq] at hr
    rename_i rs
    obtain ⟨e1, e2⟩ := lst hr
    refine .tup rs us (by rw [hlen, e1]) (fun i d u a1 a2 => ?_)
    exact ih i _ u (by rw [e2, a1]; rfl) a2 hg ho d rfl (okRL_get hok i d a1)
  | ifc t x u _ ih =>
    intro r hr hok
    cases r <;> simp only [mapN, reduceCtorEq, D.ifc.injEq] at hr
    obtain ⟨rfl, rfl⟩ := hr
    exact .ifc _ _ u (ih hg ho _ rfl hok)
  | fn f fi ca us vs hl1 hl2 _ _ ih1 ih2 =>
    intro r hr hok
    cases r <;> simp only [mapN, reduceCtorEq, D.fn.injEq] at hr
    rename_i f' fi' ca'
    obtain ⟨rfl, hr1, hr2⟩ := hr
    rw [okR, Bool.and_eq_true] at hok
    obtain ⟨e1, e2⟩ := lst hr1
    obtain ⟨e3, e4⟩ := lst hr2
    exact .fn _ fi' ca' us vs (by rw [hl1, e1]) (by rw [hl2, e3]) (fun i d u a1 a2 => ih1 i _ u (by rw [e2, a1]; rfl) a2 hg ho d rfl (okRL_get hok.1 i d a1)) (fun i d u a1 a2 => ih2 i _ u (by rw [e4, a1]; rfl) a2 hg ho d rfl (okRL_get hok.2 i d a1))
  | yl k g b hg' hb =>
    intro r hr hok
    cases r <;> simp only [mapN, reduceCtorEq, D.yl.injEq] at hr
    obtain ⟨rfl, rfl⟩ := hr
    rename_i k0 g0
    have hlt : g0 < n := Nat.le_of_ble_eq_true hok
    exact .yl k0 g0 b (hg g0 hlt hg').1 ((hg g0 hlt hg').2.symm.trans hb)

/-- A contract, out of the code. -/
theorem SpecH.of {al : Bool} (hT : T.ok P) {f : FuncId} {fn : Func} {c : Code} (hf : P.funcs[f]? = some fn) (hb : fn.body = some c) {rs : List ResultVar} (hrs : fn.results = ⟨rs⟩) {ds : List D} {hin : List Blk} {r : D} {bs : List Blk} (hle : Nat.ble hin.length bs.length = true)
    (h : AWP P false fn.ntmps hin.length c (s0 ds hin) fun e s' => (e = .normal ∨ e = .ret) ∧ vcRes T s' rs fun l => Out al hin.length s' l r bs) : SpecH al P f ds hin r bs := by
  refine ⟨Nat.le_of_ble_eq_true hle, fun O φ w args hOlt hhin hinj hal hargs => ?_⟩
  have hm := Nat.le_of_ble_eq_true hle
  have hnamed : ∀ {j x}, j < hin.length → φ j = some x → x < w.heap.size := fun {j x} hj hx => by
    have := (hhin j _ (List.getElem?_eq_getElem hj)).2
    have hx' : (envR O φ hin.length).φ j = some x := hx
    rw [hx'] at this; exact this.2.1
  let cx : Cx := ⟨w.heap.size, w, fn.ntmps, O, fun k => w.heap.size ≤ k ∨ ∃ j, j < hin.length ∧ φ j = some k, fun _ h => .inl h, hin.length⟩
  have hin_ : ∀ {k g o}, (s0 ds hin).gat k = some (g, o) → k < hin.length ∧ g = k ∧ ∃ b, o = .b b ∧ hin[k]? = some b := fun {k g o} hk => by
    obtain ⟨_, h2, b, h3, h4⟩ := enumH_get hin 0 k hk
    rw [Nat.sub_zero] at h4
    exact ⟨(List.getElem?_eq_some_iff.1 h4).1, h2, b, h3, h4⟩
  have hsr : SR cx (envR O φ hin.length) (s0 ds hin) { tmps := args.toArray ++ Array.replicate (fn.ntmps - args.toArray.size) undef, defers := [] } w := {
    fr := args_fr hal hargs
    sz := by show fn.ntmps ≤ _; simp; omega
    df := Marks.nil _ _ _
    hp := fun k g b hk => by
      obtain ⟨_, rfl, b', e, h4⟩ := hin_ (AS.at_iff.1 hk)
      cases e; exact hhin _ _ h4
    lp := fun k g b hk => by
      obtain ⟨_, _, b', e, _⟩ := hin_ (AS.lat_iff.1 hk)
      cases e
    inj := fun k k' g g' o o' hkk h1 h2 => by
      obtain ⟨a1, rfl, _⟩ := hin_ h1
      obtain ⟨a2, rfl, _⟩ := hin_ h2
      exact fun x => hinj _ _ x a1 a2 hkk
    lt := fun x hx => by
      rcases hx with hx | ⟨j, hj, hx⟩
      · exact hOlt x hx
      · exact hnamed hj hx
    low := fun x ⟨k, g, o, hk, hx⟩ => by
      obtain ⟨a1, rfl, _⟩ := hin_ hk
      exact .inr ⟨_, a1, hx⟩
    base := fun x hx => .inl hx
    bel := Fr.refl _ _
    nm := fun g hg => .inl hg
    szB := Nat.le_refl _ }
  refine (fn_core (Φ := fun l s' => Out al hin.length s' l r bs) hT hf hb hrs h (cx := cx) rfl (Nat.le_refl _) rfl hsr).mono ?_
  rintro e w' ⟨l, s', E', a', v, rfl, ⟨ks, gs, hexp, hnd, hgs, hmap, hok⟩, hu, hs', _, hst, hown, hold, hr⟩
  obtain ⟨x1, x2, x3⟩ := expo_get hexp
  refine ⟨v, rfl, hs'.bel, fun j => if j < bs.length then E'.φ (gs.getD j 0) else none, fun j hj => ?_, ?_, fun j b hb => ?_, fun i j x hi hj hij h1 h2 => ?_, fun j x hmj hj hx => ?_⟩
  · have hj' : j < bs.length := by omega
    show (if j < bs.length then E'.φ (gs.getD j 0) else none) = φ j
    rw [if_pos hj', inNames_get hgs j hj, Nat.zero_add]
    exact hst.φ j hj hj
  · have hφ : ∀ j, j < bs.length → (fun j => if j < bs.length then E'.φ (gs.getD j 0) else none) j = E'.φ (gs.getD j 0) := fun j hj => if_pos hj
    refine unmap (fun j hj _ => ⟨hj, (hφ j hj).symm⟩) (fun hal' b hb => ?_) hr r hmap hok
    rcases hb with hb | ⟨j, hj, hx⟩
    · unfold outO at hb; rw [if_pos hal'] at hb; exact hs'.base b hb
    · rw [hφ j hj] at hx
      obtain ⟨y1, _⟩ := x3 j _ (List.getElem?_eq_getElem hj)
      exact hs'.own_of ⟨_, _, _, AS.at_iff.1 y1, hx⟩
  · have hj : j < bs.length := (List.getElem?_eq_some_iff.1 hb).1
    have hφ : ∀ j, j < bs.length → (fun j => if j < bs.length then E'.φ (gs.getD j 0) else none) j = E'.φ (gs.getD j 0) := fun j hj => if_pos hj
    have hownr : al = true → ∀ b, (envR (outO al O w) (fun j => if j < bs.length then E'.φ (gs.getD j 0) else none) bs.length).own b → E'.own b := fun hal' b hb => by
      rcases hb with hb | ⟨j, hj, hx⟩
      · unfold outO at hb; rw [if_pos hal'] at hb; exact hs'.base b hb
      · rw [hφ j hj] at hx
        obtain ⟨y1, _⟩ := x3 j _ (List.getElem?_eq_getElem hj)
        exact hs'.own_of ⟨_, _, _, AS.at_iff.1 y1, hx⟩
    obtain ⟨y1, y2⟩ := x3 j b hb
    obtain ⟨z1, z2⟩ := hs'.hp _ _ _ y1
    obtain ⟨m1, m2, m3⟩ := mapBlk_flags (fun j => ks.getD j 0) (fun j => gs.getD j 0) b
    refine ⟨⟨hj, ?_⟩, fun hrow => ?_⟩
    rotate_left
    · unfold okB at y2
      rw [hrow, cond_true] at y2
      cases al with
      | true => exact y2
      | false => exact plL_closed _ y2
    show match (fun j => if j < bs.length then E'.φ (gs.getD j 0) else none) j with | none => _ | some b => _
    rw [hφ j hj]
    cases hp : E'.φ (gs.getD j 0) with
    | none =>
      rw [hp] at z2
      exact ⟨List.eq_nil_of_length_eq_zero (by rw [← m3, z2.1]; rfl), by rw [← m2]; exact z2.2⟩
    | some x =>
      rw [hp] at z2
      obtain ⟨_, c0, cur, fr, c1, c2, c3, c4, c5⟩ := z2
      refine ⟨.inr ⟨j, hj, (hφ j hj).trans hp⟩, c0, cur, fr, by rw [← m1]; exact c1, c2, by rw [← m3]; exact c3, fun hr => by rw [← m3]; exact c4 (by rw [m2]; exact hr), fun i d hd => ?_⟩
      unfold okB at y2
      cases hrow : b.row with
      | true =>
        rw [hrow, cond_true] at y2
        have e : (mapBlk (fun j => ks.getD j 0) (fun j => gs.getD j 0) b).cells = b.cells := by unfold mapBlk; rw [hrow]; rfl
        obtain ⟨v, v1, v2, v3⟩ := c5 i d (by rw [e]; exact hd)
        refine ⟨v, v1, v2, ?_⟩
        cases al with
        | true => exact RD.ofCl ((v3.weak (closedL_get y2 hd)).step (E := E'.cl) (E' := Env.cl (envR (outO true O w) _ bs.length)) (w := w') (w' := w') ⟨fun _ h => h.elim, fun _ h => h.elim, Nat.le_refl _, fun b _ hb => ⟨fun h => hb (hownr rfl b h), rfl⟩, fun _ _ => rfl⟩)
        | false => exact v3.plain (plL_iff.1 y2 d (List.mem_of_getElem? hd)) _ _
      | false =>
        rw [hrow, cond_false] at y2
        have e : (mapBlk (fun j => ks.getD j 0) (fun j => gs.getD j 0) b).cells = mapNL (fun j => ks.getD j 0) (fun j => gs.getD j 0) b.cells := by unfold mapBlk; rw [hrow]; rfl
        obtain ⟨v, v1, v2, v3⟩ := c5 i (mapN (fun j => ks.getD j 0) (fun j => gs.getD j 0) d) (by rw [e, mapNL_eq, List.getElem?_map, hd]; rfl)
        exact ⟨v, v1, v2, unmap (fun j hj _ => ⟨hj, (hφ j hj).symm⟩) hownr v3 d rfl (okRL_get y2 i d hd)⟩
  · simp only [hi, hj, if_true] at h1 h2
    obtain ⟨y1, _⟩ := x3 i _ (List.getElem?_eq_getElem hi)
    obtain ⟨y2, _⟩ := x3 j _ (List.getElem?_eq_getElem hj)
    refine hs'.inj _ _ _ _ _ _ (fun e => hij ?_) (AS.at_iff.1 y1) (AS.at_iff.1 y2) x h1 h2
    have e1 : ks[i]? = some (ks.getD i 0) := by simp [show i < ks.length by omega]
    have e2 : ks[j]? = some (ks.getD j 0) := by simp [show j < ks.length by omega]
    exact nodup_inj (nodupB_iff hnd) e1 (by rw [e]; exact e2)
  · simp only [hj, if_true] at hx
    obtain ⟨y1, _⟩ := x3 j _ (List.getElem?_eq_getElem hj)
    rcases hs'.low x ⟨_, _, _, AS.at_iff.1 y1, hx⟩ with h1 | ⟨j0, hj0, hx0⟩
    · exact h1
    · exfalso
      have hj0' : j0 < bs.length := by omega
      obtain ⟨y2, _⟩ := x3 j0 _ (List.getElem?_eq_getElem hj0')
      have e0 : E'.φ (gs.getD j0 0) = some x := by
        rw [inNames_get hgs j0 hj0, Nat.zero_add]
        exact (hst.φ j0 hj0 hj0).trans hx0
      refine hs'.inj _ _ _ _ _ _ (fun e => ?_) (AS.at_iff.1 y1) (AS.at_iff.1 y2) x hx e0
      have e1 : ks[j]? = some (ks.getD j 0) := by simp [show j < ks.length by omega]
      have e2 : ks[j0]? = some (ks.getD j0 0) := by simp [show j0 < ks.length by omega]
      have := nodup_inj (nodupB_iff hnd) e1 (by rw [e]; exact e2)
      omega
end
end Go.Vx

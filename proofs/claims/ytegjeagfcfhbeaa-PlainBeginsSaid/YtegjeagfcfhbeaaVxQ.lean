/- VxQ: what a contract says; what it gives is taken in. No program. -/
import Derived.Test.YtegjeagfcfhbeaaVxR
namespace Go.Vx
set_option linter.unusedVariables false
set_option linter.unusedSimpArgs false
open Go.RowKit Go.Bw

/-- What an answer may not share: all that was there; or, where it may share what is only read, what the caller says. -/
def outO (al : Bool) (O : Nat → Prop) (w : World) (b : Nat) : Prop := if al = true then O b else b < w.heap.size
/-- What a call gives: r; the blocks that it was handed as the first ones of bs; the others are new. -/
def Gv (O : Nat → Prop) (w : World) (m : Nat) (φ0 : Nat → Option Nat) (r : D) (bs : List Blk) (u : Value) (w' : World) : Prop :=
  Fr (fun k => w.heap.size ≤ k ∨ ∃ j, j < m ∧ φ0 j = some k) w w' ∧ ∃ φ, (∀ j, j < m → φ j = φ0 j) ∧ RD (envR O φ bs.length) w' r u ∧ (∀ (j : Nat) b, bs[j]? = some b → HB (envR O φ bs.length) w' j b ∧ (b.row = true → closedL b.cells = true)) ∧
    (∀ i j x, i < bs.length → j < bs.length → i ≠ j → φ i = some x → φ j ≠ some x) ∧ ∀ j x, m ≤ j → j < bs.length → φ j = some x → w.heap.size ≤ x
/-- A function's contract: with the arguments ds, that speak of the blocks hin, it gives r and leaves the blocks bs. -/
def SpecH (al : Bool) (P : Program) (f : FuncId) (ds : List D) (hin : List Blk) (r : D) (bs : List Blk) : Prop :=
  hin.length ≤ bs.length ∧ ∀ (O : Nat → Prop) (φ : Nat → Option Nat) (w : World) (args : List Value), (∀ x, O x → x < w.heap.size) → (∀ (j : Nat) b, hin[j]? = some b → HB (envR O φ hin.length) w j b) →
    (∀ i j x, i < hin.length → j < hin.length → i ≠ j → φ i = some x → φ j ≠ some x) → args.length = ds.length → (∀ (j : Nat) d u, ds[j]? = some d → args[j]? = some u → RD (envR O φ hin.length) w d u) →
    Calls P f args.toArray w fun e w' => ∃ u, e = .returned u ∧ Gv (outO al O w) w hin.length φ r bs u w'
/-- What a function that is no text of the program's does: with the arguments ds, that speak of the blocks hin, it gives r and leaves the blocks bs. -/
def ExtH (al : Bool) (P : Program) (f : FuncId) (ds : List D) (hin : List Blk) (r : D) (bs : List Blk) : Prop :=
  hin.length ≤ bs.length ∧ ∀ (O : Nat → Prop) (φ : Nat → Option Nat) (w : World) (args : List Value), (∀ x, O x → x < w.heap.size) → (∀ (j : Nat) b, hin[j]? = some b → HB (envR O φ hin.length) w j b) →
    (∀ i j x, i < hin.length → j < hin.length → i ≠ j → φ i = some x → φ j ≠ some x) → args.length = ds.length → (∀ (j : Nat) d u, ds[j]? = some d → args[j]? = some u → RD (envR O φ hin.length) w d u) →
    ∃ u w', (callFunc f args.toArray).run P w = .ok (.value u) w' ∧ Gv (outO al O w) w hin.length φ r bs u w'
/-- A function that can be entered. -/
def FnOk (P : Program) (f : FuncId) : Prop := ∃ fn, P.funcs[f]? = some fn ∧ fn.body.isNone = false ∧ (fn.name == "runtime.NumGoroutine") = false
/-- A function that can be called, and what it does. -/
inductive CallOk (al : Bool) (P : Program) (f : FuncId) (ds : List D) (hin : List Blk) (r : D) (bs : List Blk) : Prop
  | fn (h : FnOk P f) (s : SpecH al P f ds hin r bs)
  | ext (s : ExtH al P f ds hin r bs)
theorem CallOk.len {al : Bool} {P : Program} {f : FuncId} {ds : List D} {hin : List Blk} {r : D} {bs : List Blk} (h : CallOk al P f ds hin r bs) : hin.length ≤ bs.length := by
  cases h with
  | fn _ s => exact s.1
  | ext s => exact s.1
abbrev SpecA (al : Bool) (P : Program) (f : FuncId) (ds : List D) (r : D) (bs : List Blk) : Prop := SpecH al P f ds [] r bs
abbrev Spec (P : Program) (f : FuncId) (ds : List D) (r : D) (bs : List Blk) : Prop := SpecH false P f ds [] r bs

mutual
/-- Names, as another list has them. -/
def mapN (κ γ : Nat → Nat) : D → D
  | .ref k g off n sz => .ref (κ k) (γ g) off n sz
  | .ptr k g off => .ptr (κ k) (γ g) off
  | .agg cs => .agg (mapNL κ γ cs)
  | .tup cs => .tup (mapNL κ γ cs)
  | .ifc t x => .ifc t (mapN κ γ x)
  | .v c => .v c
  | .sl nn n sz cells => .sl nn n sz cells
  | .ep cells off => .ep cells off
  | .fn f fi ca => .fn f (mapNL κ γ fi) (mapNL κ γ ca)
  | .yl k g => .yl (κ k) (γ g)
def mapNL (κ γ : Nat → Nat) : List D → List D
  | [] => []
  | d :: r => mapN κ γ d :: mapNL κ γ r
end
theorem mapNL_eq (κ γ : Nat → Nat) (l : List D) : mapNL κ γ l = l.map (mapN κ γ) := by
  induction l with
  | nil => rfl
  | cons d r ih => simp [mapNL, ih]
/-- A block with its names as another list has them. A row has none. -/
def mapBlk (κ γ : Nat → Nat) (b : Blk) : Blk := bif b.row then b else ⟨mapNL κ γ b.cells, b.elem, b.row⟩
theorem mapBlk_flags (κ γ : Nat → Nat) (b : Blk) : (mapBlk κ γ b).elem = b.elem ∧ (mapBlk κ γ b).row = b.row ∧ (mapBlk κ γ b).cells.length = b.cells.length := by
  unfold mapBlk
  cases hr : b.row <;> simp [hr, mapNL_eq]

/-- Names are turned. -/
theorem RD.map {E E' : Env} {w' : World} (κ γ : Nat → Nat) {d : D} {u : Value} (h : RD E w' d u) : (∀ g, E.nm g → E'.nm (γ g) ∧ E'.φ (γ g) = E.φ g) → (∀ b, E'.own b → E.own b) → RD E' w' (mapN κ γ d) u := by
  have cl : ∀ {E E' : Env} {w' : World}, (∀ b, E'.own b → E.own b) → Stp E.cl E'.cl w' w' := fun ho => ⟨fun _ h => h.elim, fun _ h => h.elim, Nat.le_refl _, fun b _ hb => ⟨fun h => hb (ho b h), rfl⟩, fun _ _ => rfl⟩
  induction h with
  | v c h => intro _ _; exact .v c h
  | @sl E1 w1 nn n size cells a c us hlen hd h1 hn hp hc h0 hr ih =>
    intro hn' ho
    exact ((RD.sl nn n size cells a c us hlen hd h1 hn hp hc h0 hr).weak rfl).step (cl ho) |>.ofCl
  | ref k g off n sz c b off' t m hg hb hc ho hsh hm => intro hn' _; exact .ref _ _ off n sz c b off' t m (hn' g hg).1 ((hn' g hg).2.trans hb) hc ho hsh hm
  | refn k g sz hg hb => intro hn' _; exact .refn _ _ sz (hn' g hg).1 ((hn' g hg).2.trans hb)
  | ptr k g off b hg hb => intro hn' _; exact .ptr _ _ off b (hn' g hg).1 ((hn' g hg).2.trans hb)
  | ep cells off b o us hlen hd h1 hb ho hr ih =>
    intro hn' ho'
    exact .ep cells off b o us hlen (fun i d u a1 a2 => (hd i d u a1 a2).step (cl ho')) h1 hb (fun h => ho (ho' b h)) hr
  | agg cs us hlen _ h1 ih =>
    intro hn' ho
    simp only [mapN, mapNL_eq]
    exact .agg _ us (by simp [hlen]) (fun i d u a1 a2 => by rw [List.getElem?_map, Option.map_eq_some_iff] at a1; obtain ⟨x, hx, rfl⟩ := a1; exact ih i x u hx a2 hn' ho) h1
  | tup cs us hlen _ ih =>
    intro hn' ho
    simp only [mapN, mapNL_eq]
    exact .tup _ us (by simp [hlen]) (fun i d u a1 a2 => by rw [List.getElem?_map, Option.map_eq_some_iff] at a1; obtain ⟨x, hx, rfl⟩ := a1; exact ih i x u hx a2 hn' ho)
  | ifc t x u _ ih => intro hn' ho; exact .ifc t _ u (ih hn' ho)
  | fn f fi ca us vs hl1 hl2 _ _ ih1 ih2 =>
    intro hn' ho
    simp only [mapN, mapNL_eq]
    exact .fn f _ _ us vs (by simp [hl1]) (by simp [hl2]) (fun i d u a1 a2 => by rw [List.getElem?_map, Option.map_eq_some_iff] at a1; obtain ⟨x, hx, rfl⟩ := a1; exact ih1 i x u hx a2 hn' ho)
      (fun i d u a1 a2 => by rw [List.getElem?_map, Option.map_eq_some_iff] at a1; obtain ⟨x, hx, rfl⟩ := a1; exact ih2 i x u hx a2 hn' ho)
  | yl k g b hg hb => intro hn' _; exact .yl _ _ b (hn' g hg).1 ((hn' g hg).2.trans hb)

/-- Where the blocks of a contract are kept, and what they are called. -/
def κOf (fp : List Nat) (ky : Nat) (j : Nat) : Nat := bif Nat.blt j fp.length then fp.getD j 0 else ky + (j - fp.length)
def γOf (s : AS) (fp : List Nat) (nm : Nat) (j : Nat) : Nat := bif Nat.blt j fp.length then (match s.gat (fp.getD j 0) with | some p => p.1 | none => 0) else nm + (j - fp.length)
def adoptUp (κ γ : Nat → Nat) : Nat → List Blk → Up
  | _, [] => []
  | j, b :: r => (κ j, some (γ j, .b (mapBlk κ γ b))) :: adoptUp κ γ (j + 1) r

theorem of_upH : ∀ {up : Up} {hp : Tr (Nat × Ob)} {k : Nat} {x : Nat × Ob}, (upH up hp).get k = some x → (k, some x) ∈ up ∨ ((∀ p ∈ up, p.1 ≠ k) ∧ hp.get k = some x)
  | [], hp, k, x, h => .inr ⟨fun p hp => (by cases hp), h⟩
  | p :: r, hp, k, x, h => by
    rcases Tr.of_set h with ⟨e, hv⟩ | ⟨e, h⟩
    · obtain ⟨a, b⟩ := p
      dsimp only at e hv
      subst e hv; exact .inl List.mem_cons_self
    · rcases of_upH h with h | ⟨h1, h2⟩
      · exact .inl (List.mem_cons_of_mem _ h)
      · refine .inr ⟨fun q hq => ?_, h2⟩
        rcases List.mem_cons.1 hq with rfl | hq
        · exact fun h => e h.symm
        · exact h1 q hq
theorem mem_adoptUp {κ γ : Nat → Nat} : ∀ {bs : List Blk} {j k : Nat} {x : Option (Nat × Ob)}, (k, x) ∈ adoptUp κ γ j bs → ∃ i b, bs[i]? = some b ∧ k = κ (j + i) ∧ x = some (γ (j + i), .b (mapBlk κ γ b))
  | [], _, _, _, h => by cases h
  | b :: r, j, k, x, h => by
    rcases List.mem_cons.1 h with h | h
    · cases h; exact ⟨0, b, rfl, rfl, rfl⟩
    · obtain ⟨i, b', h1, h2, h3⟩ := mem_adoptUp h
      exact ⟨i + 1, b', by simpa using h1, by rw [h2, show j + 1 + i = j + (i + 1) by omega], by rw [h3, show j + 1 + i = j + (i + 1) by omega]⟩
theorem keys_adoptUp {κ γ : Nat → Nat} : ∀ {bs : List Blk} {j i : Nat}, i < bs.length → ∃ x, (κ (j + i), x) ∈ adoptUp κ γ j bs
  | [], _, _, h => by simp at h
  | b :: r, j, i, h => by
    cases i with
    | zero => exact ⟨_, List.mem_cons_self⟩
    | succ i =>
      obtain ⟨x, hx⟩ := keys_adoptUp (κ := κ) (γ := γ) (bs := r) (j := j + 1) (i := i) (by simpa using h)
      exact ⟨x, by rw [show j + (i + 1) = j + 1 + i by omega]; exact List.mem_cons_of_mem _ hx⟩

section
variable {P : Program} {cx : Cx} {E : Env} {s : AS} {a : Act} {w : World}

/-- A result: where nothing is handed on, it has no names. -/
def resN (κ γ : Nat → Nat) (bs : List Blk) (r : D) : D := match bs with
  | [] => r
  | _ :: _ => mapN κ γ r
/-- What a call gives is taken in. -/
theorem SR.adopt {w' : World} (h : SR cx E s a w) {nm ky i : Nat} (hi : i ∉ s.us) (hg : s.nx + 8 * i = nm) {fp : List Nat} (hnd : fp.Nodup) (hfp : ∀ k ∈ fp, ∃ g b, s.at k = some (g, b)) {bs : List Blk} (hm : fp.length ≤ bs.length) (hlen : bs.length ≤ fp.length + 8)
    {r : D} {u : Value} {O : Nat → Prop} (hO : ∀ b, b < w.heap.size → E.own b → O b) (hgv : Gv O w fp.length (locφ s E fp) r bs u w') :
    let s' : AS := { s with hp := upH (adoptUp (κOf fp ky) (γOf s fp nm) 0 bs) s.hp, us := i :: s.us }
    ∃ E', SR cx E' s' a w' ∧ Stp E E' w w' ∧ RD E' w' (resN (κOf fp ky) (γOf s fp nm) bs r) u ∧ Mut s s' E E' w w' := by
  intro s'
  obtain ⟨hfr, φ, hφ0, hr, hb, hinj, hlow⟩ := hgv
  let m := fp.length
  let φ' : Nat → Option Nat := fun n => if nm ≤ n ∧ n < nm + (bs.length - m) then φ (m + (n - nm)) else E.φ n
  let nm' : Nat → Prop := fun n => E.nm n ∨ (nm ≤ n ∧ n < nm + (bs.length - m))
  have hfresh : ∀ {n}, nm ≤ n → n < nm + (bs.length - m) → ¬ E.nm n := fun {n} h1 h2 hn => by
    have hmm : m = fp.length := rfl
    rcases h.nm n hn with h3 | ⟨j, hj, h3, h4⟩
    · omega
    · have : j = i := by omega
      subst this; exact hi hj
  have hold : ∀ {k g o}, s.gat k = some (g, o) → φ' g = E.φ g := fun hk => if_neg fun ⟨h1, h2⟩ => hfresh h1 h2 (h.ob hk).nm
  have hlt : ∀ {k g o x}, s.gat k = some (g, o) → E.φ g = some x → x < w.heap.size := fun hk hx => (h.ob hk).lt hx
  -- the names of the contract
  have hfp' : ∀ {j}, j < m → ∃ k g b, fp[j]? = some k ∧ s.gat k = some (g, .b b) ∧ κOf fp ky j = k ∧ γOf s fp nm j = g := fun {j} hj => by
    have hk : fp[j]? = some fp[j] := List.getElem?_eq_getElem hj
    obtain ⟨g, b, hgb⟩ := hfp _ (List.mem_of_getElem? hk)
    have hgb := AS.at_iff.1 hgb
    have e0 : Nat.blt j fp.length = true := Nat.ble_eq_true_of_le hj
    have e1 : fp.getD j 0 = fp[j] := by rw [List.getD_eq_getElem?_getD, hk]; rfl
    exact ⟨_, g, b, hk, hgb, by unfold κOf; rw [e0, cond_true, e1], by unfold γOf; rw [e0, cond_true, e1, hgb]⟩
  have hnew : ∀ {j}, m ≤ j → κOf fp ky j = ky + (j - m) ∧ γOf s fp nm j = nm + (j - m) := fun {j} hj => by
    have e0 : Nat.blt j fp.length = false := by
      cases hb : Nat.blt j fp.length with
      | false => rfl
      | true => have := Nat.le_of_ble_eq_true hb; have hmm : m = fp.length := rfl; omega
    unfold κOf γOf; rw [e0]; exact ⟨rfl, rfl⟩
  have hγφ : ∀ {j}, j < bs.length → φ' (γOf s fp nm j) = φ j := fun {j} hj => by
    by_cases hjm : j < m
    · obtain ⟨k, g, b, h1, h2, _, h4⟩ := hfp' hjm
      rw [h4, hold h2, hφ0 j hjm, locφ_of h1 h2]
    · rw [(hnew (by omega)).2]
      show (if nm ≤ nm + (j - m) ∧ nm + (j - m) < nm + (bs.length - m) then φ (m + (nm + (j - m) - nm)) else _) = _
      rw [if_pos ⟨by omega, by omega⟩, show m + (nm + (j - m) - nm) = j by omega]
  have hγnm : ∀ {j}, j < bs.length → nm' (γOf s fp nm j) := fun {j} hj => by
    by_cases hjm : j < m
    · obtain ⟨k, g, b, h1, h2, _, h4⟩ := hfp' hjm
      rw [h4]; exact .inl (h.ob h2).nm
    · rw [(hnew (by omega)).2]; exact .inr ⟨by omega, by omega⟩
  -- what is kept behind the call
  have hsub : ∀ {k g o}, s'.gat k = some (g, o) → (∃ j b, j < bs.length ∧ bs[j]? = some b ∧ k = κOf fp ky j ∧ g = γOf s fp nm j ∧ o = .b (mapBlk (κOf fp ky) (γOf s fp nm) b)) ∨ ((∀ j, j < bs.length → k ≠ κOf fp ky j) ∧ s.gat k = some (g, o)) := fun {k g o} hk => by
    rcases of_upH hk with hk | ⟨h1, h2⟩
    · obtain ⟨i, b, e1, e2, e3⟩ := mem_adoptUp hk
      rw [Nat.zero_add] at e2 e3
      cases e3
      exact .inl ⟨i, b, (List.getElem?_eq_some_iff.1 e1).1, e1, e2, rfl, rfl⟩
    · refine .inr ⟨fun j hj e => ?_, h2⟩
      obtain ⟨x, hx⟩ := keys_adoptUp (κ := κOf fp ky) (γ := γOf s fp nm) (bs := bs) (j := 0) hj
      rw [Nat.zero_add] at hx
      exact h1 _ hx e.symm
  have hkept : ∀ {j x}, j < bs.length → φ j = some x → (j < m ∧ ownOf s E.φ x) ∨ (m ≤ j ∧ w.heap.size ≤ x) := fun {j x} hj hx => by
    by_cases hjm : j < m
    · obtain ⟨k, g, b, h1, h2, _, _⟩ := hfp' hjm
      rw [hφ0 j hjm, locφ_of h1 h2] at hx
      exact .inl ⟨hjm, k, g, _, h2, hx⟩
    · exact .inr ⟨by omega, hlow j x (by show m ≤ j; omega) hj hx⟩
  have howns : ∀ x, ownU E s' φ' x → (E.own x ∧ x < w.heap.size) ∨ (∃ j, j < bs.length ∧ φ j = some x) := fun x hx0 => by
    rcases hx0 with hx0 | ⟨k, g, o, hk, hx⟩
    · exact .inl ⟨hx0, h.lt x hx0⟩
    rcases hsub hk with ⟨j, b, hj, _, _, rfl, _⟩ | ⟨_, h3⟩
    · rw [hγφ hj] at hx; exact .inr ⟨j, hj, hx⟩
    · rw [hold h3] at hx; exact .inl ⟨h.own_of ⟨k, g, o, h3, hx⟩, hlt h3 hx⟩
  have hblk : ∀ b, b < w.heap.size → ¬ ownOf s E.φ b → w'.heap[b]? = w.heap[b]? := fun b hb hn => hfr.block b hb fun hm => by
    rcases hm with hm | ⟨j, _, hx⟩
    · omega
    · obtain ⟨k, g, o, _, h2, h3⟩ := locφ_kept hx
      exact hn ⟨k, g, o, h2, h3⟩
  have hs : Stp E ⟨φ', ownU E s' φ', nm'⟩ w w' := by
    refine ⟨fun x hx => .inl hx, fun x hx => if_neg fun ⟨h1, h2⟩ => hfresh h1 h2 hx, hfr.size, fun b hlt ho => ⟨fun hw => ?_, hblk b hlt fun hh => ho (h.own_of hh)⟩, hfr.shape⟩
    rcases howns b hw with ⟨h1, _⟩ | ⟨j, hj, hx⟩
    · exact ho h1
    · rcases hkept hj hx with ⟨_, h1⟩ | ⟨_, h1⟩
      · exact ho (h.own_of h1)
      · omega
  have hownR : ∀ b, ownU E s' φ' b → (envR O φ bs.length).own b := fun b hb => by
    rcases howns b hb with ⟨h0, h1⟩ | h1
    · exact .inl (hO b h1 h0)
    · exact .inr h1
  have hsR : ∀ {d : D} {v : Value}, RD (envR O φ bs.length).cl w' d v → RD ⟨φ', ownU E s' φ', nm'⟩ w' d v := fun hd =>
    RD.ofCl (RD.step (E := (envR O φ bs.length).cl) (E' := Env.cl ⟨φ', ownU E s' φ', nm'⟩) (w := w') ⟨fun _ h => h.elim, fun _ h => h.elim, Nat.le_refl _, fun b hlt ho => ⟨fun hw => ho (hownR b hw), rfl⟩, fun _ _ => rfl⟩ hd)
  have hmap : ∀ {d : D} {v : Value}, RD (envR O φ bs.length) w' d v → RD ⟨φ', ownU E s' φ', nm'⟩ w' (mapN (κOf fp ky) (γOf s fp nm) d) v := fun hd => hd.map _ _ (fun g hg => ⟨hγnm hg, hγφ hg⟩) hownR
  have hres : RD ⟨φ', ownU E s' φ', nm'⟩ w' (resN (κOf fp ky) (γOf s fp nm) bs r) u := by
    cases hbs : bs with
    | cons _ _ => exact hmap hr
    | nil =>
      have hr0 := hr
      exact RD.step (E := envR O φ bs.length) ⟨fun g hg => absurd hg (by rw [hbs]; exact Nat.not_lt_zero g), fun g hg => absurd hg (by rw [hbs]; exact Nat.not_lt_zero g), Nat.le_refl _, fun b hlt ho => ⟨fun hw => ho (hownR b hw), rfl⟩, fun _ _ => rfl⟩ hr0
  have hob : ∀ {k g o}, s'.gat k = some (g, o) → OB ⟨φ', ownU E s' φ', nm'⟩ w' g o := fun {k g o} hk => by
    rcases hsub hk with ⟨j, b, hj, hbj, rfl, rfl, rfl⟩ | ⟨h2, h3⟩
    · obtain ⟨⟨_, hb1⟩, hcl⟩ := hb j b hbj
      obtain ⟨f1, f2, f3⟩ := mapBlk_flags (κOf fp ky) (γOf s fp nm) b
      refine ⟨hγnm hj, ?_⟩
      show match φ' (γOf s fp nm j) with | none => _ | some x => _
      have e1 := hγφ hj
      rw [e1]
      have hb1' : match φ j with | none => b.cells = [] ∧ b.row = true | some x => (envR O φ bs.length).own x ∧ x < w'.heap.size ∧ _ := hb1
      cases hp : φ j with
      | none =>
        rw [hp] at hb1'
        refine ⟨?_, by rw [f2]; exact hb1'.2⟩
        exact List.eq_nil_of_length_eq_zero (by rw [f3, hb1'.1]; rfl)
      | some x =>
        rw [hp] at hb1'
        obtain ⟨_, hlt, cur, fr, c1, c2, c3, c4, c5⟩ := hb1'
        refine ⟨.inr ⟨_, _, _, hk, e1.trans hp⟩, hlt, cur, fr, by rw [f1]; exact c1, c2, by rw [f3]; exact c3, fun hr => by rw [f3]; exact c4 (by rw [← f2]; exact hr), fun i d hd => ?_⟩
        unfold mapBlk at hd
        cases hrow : b.row with
        | true =>
          rw [hrow, cond_true] at hd
          obtain ⟨v, v1, v2, v3⟩ := c5 i d hd
          exact ⟨v, v1, v2, hsR (v3.weak (closedL_get (hcl hrow) hd))⟩
        | false =>
          rw [hrow, cond_false] at hd
          dsimp only at hd
          rw [mapNL_eq, List.getElem?_map, Option.map_eq_some_iff] at hd
          obtain ⟨d0, hd0, rfl⟩ := hd
          obtain ⟨v, v1, v2, v3⟩ := c5 i d0 hd0
          exact ⟨v, v1, v2, hmap v3⟩
    · refine (h.ob h3).step hs fun x hx => ⟨.inr ⟨k, g, o, hk, (hold h3).trans hx⟩, ?_⟩
      refine hfr.block x (hlt h3 hx) fun hm => ?_
      rcases hm with hm | ⟨j, hj, hx'⟩
      · have := hlt h3 hx; omega
      · obtain ⟨k', g', b', e1, e2, e3, _⟩ := hfp' hj
        rw [locφ_of e1 e2] at hx'
        have hne : k ≠ k' := fun e => h2 j (by have hmm : m = fp.length := rfl; omega) (by rw [e3]; exact e)
        exact h.inj k k' g g' o _ hne h3 e2 x hx hx'
  have hmut : Mut s s' E ⟨φ', ownU E s' φ', nm'⟩ w w' := ⟨fun b hb => .inl hb, hblk, fun x hlt' ⟨k, g, o, hk, hx⟩ => by
    have hx : φ' g = some x := hx
    rcases hsub hk with ⟨j, b, hj, _, _, rfl, _⟩ | ⟨_, h3⟩
    · rw [hγφ hj] at hx
      rcases hkept hj hx with ⟨_, h1⟩ | ⟨_, h1⟩
      · exact h1
      · omega
    · rw [hold h3] at hx; exact ⟨k, g, o, h3, hx⟩⟩
  refine ⟨⟨φ', ownU E s' φ', nm'⟩, h.turn φ' nm' rfl hs (fun k g b hk => hob (AS.at_iff.1 hk)) (fun k g r hk => hob (AS.lat_iff.1 hk)) ?_ ?_ ?_ ?_ hmut.heap, hs, hres, hmut⟩
  · intro k1 k2 g1 g2 o1 o2 hkk h1 h2 x hx1 hx2
    have cross : ∀ {j k g o}, j < bs.length → φ j = some x → (∀ j, j < bs.length → k ≠ κOf fp ky j) → s.gat k = some (g, o) → E.φ g = some x → False := fun {j k g o} hj hx hne h3 hx3 => by
      by_cases hjm : j < m
      · obtain ⟨k', g', b', e1, e2, e3, _⟩ := hfp' hjm
        rw [hφ0 j hjm, locφ_of e1 e2] at hx
        exact h.inj k k' g g' o _ (fun e => hne j hj (by rw [e3]; exact e)) h3 e2 x hx3 hx
      · have := hlow j x (by show m ≤ j; omega) hj hx; have := hlt h3 hx3; omega
    rcases hsub h1 with ⟨j1, b1, hj1, _, e1, e2, _⟩ | ⟨n1, h3⟩ <;> rcases hsub h2 with ⟨j2, b2, hj2, _, e3, e4, _⟩ | ⟨n2, h4⟩
    · subst e2 e4
      rw [hγφ hj1] at hx1
      rw [hγφ hj2] at hx2
      exact hinj j1 j2 x hj1 hj2 (fun e => hkk (by rw [e1, e3, e])) hx1 hx2
    · subst e2
      rw [hγφ hj1] at hx1
      rw [hold h4] at hx2
      exact cross hj1 hx1 n2 h4 hx2
    · subst e4
      rw [hold h3] at hx1
      rw [hγφ hj2] at hx2
      exact cross hj2 hx2 n1 h3 hx1
    · rw [hold h3] at hx1
      rw [hold h4] at hx2
      exact h.inj k1 k2 g1 g2 o1 o2 hkk h3 h4 x hx1 hx2
  · rintro x ⟨k, g, o, hk, hx⟩
    rcases hsub hk with ⟨j, b, hj, _, _, rfl, _⟩ | ⟨_, h3⟩
    · rw [hγφ hj] at hx
      rcases hkept hj hx with ⟨_, h1⟩ | ⟨_, h1⟩
      · exact h.low x h1
      · exact cx.hM x (Nat.le_trans h.szB h1)
    · rw [hold h3] at hx; exact h.low x ⟨k, g, o, h3, hx⟩
  · refine hfr.mono fun k hm => ?_
    rcases hm with hm | ⟨j, _, hx⟩
    · exact cx.hM k (Nat.le_trans h.szB hm)
    · obtain ⟨k', g, o, _, h2, h3⟩ := locφ_kept hx
      exact h.low k ⟨k', g, o, h2, h3⟩
  · rintro n (hn | ⟨h1, h2⟩)
    · rcases h.nm n hn with h1 | ⟨j, hj, h1⟩
      · exact .inl h1
      · exact .inr ⟨j, List.mem_cons_of_mem _ hj, h1⟩
    · exact .inr ⟨i, List.mem_cons_self, by show s.nx + 8 * i ≤ n; omega, by show n < s.nx + 8 * i + 8; have hmm : m = fp.length := rfl; omega⟩
end
end Go.Vx

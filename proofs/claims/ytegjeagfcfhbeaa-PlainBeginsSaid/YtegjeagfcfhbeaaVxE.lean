/- VxE: what an operation comes to, in the abstract: loads, stores, boxes, places. No program. -/
import Derived.Test.YtegjeagfcfhbeaaVxB
namespace Go.Vx
set_option linter.unusedVariables false
set_option linter.unusedSimpArgs false
open Go.RowKit Go.Bw

/-- What is known of a type. -/
structure TI where
  desc : TypeDesc
  zero : Value
  size : Nat
  bytes : Nat
  plain : Bool
abbrev TT := Tr TI
def TT.ok (P : Program) (T : TT) : Prop := ∀ t i, T.get t = some i → P.underlying t = some i.desc ∧ i.zero.cells.size = i.size ∧ (∃ j, P.info? t = some j ∧ j.zero = some i.zero ∧ j.size = i.size ∧ j.bytes = i.bytes) ∧ (i.plain = true → P.stoodInHeld t = false ∧ P.eqGuardType P.depth t = false ∧ ∀ fs, i.desc = .struct fs → fs.toList.all (fun f => f.name != "_") = true)

abbrev Up := List (Nat × Option (Nat × Ob))
/-- Changes laid, the first one last. -/
def upH : Up → Tr (Nat × Ob) → Tr (Nat × Ob)
  | [], h => h
  | p :: r, h => (upH r h).set p.1 p.2

/-- A byte. -/
def dB (b : UInt8) : D := .v (.int .u8 (b.toNat : Int))
/-- What an operation comes to. -/
inductive Ev
  | ok (v : Option D) (up : Up)
  | cond (b : Bool) (k : Ev)
  | opt (o : Option D) (k : D → Ev)
  | bytes (cells : List D) (k : List UInt8 → Ev)
  | list (cells : List D) (k : List D → Ev)
  | stuck

def Ev.run : Ev → Option D → Up → Prop
  | .ok v u, v', u' => v' = v ∧ u' = u
  | .cond b k, v', u' => b = true ∧ k.run v' u'
  | .opt o k, v', u' => ∃ d, o = some d ∧ (k d).run v' u'
  | .bytes cs k, v', u' => ∃ bs, cs = bs.map dB ∧ (k bs).run v' u'
  | .list cs k, v', u' => (k cs).run v' u'
  | .stuck, _, _ => False

/-- What is so behind an operation. -/
def Post (P : Program) (cx : Cx) (E : Env) (s : AS) (a : Act) (w : World) (i : Nat) (o : Oper) (v : Option D) (up : Up) : Prop :=
  ∃ E' w', Stp E E' w w' ∧ SR cx E' { s with hp := upH up s.hp, us := i :: s.us } a w' ∧ Mut s { s with hp := upH up s.hp, us := i :: s.us } E E' w w' ∧
    match v with
    | some d => ∃ u, (execOp a.eval o).run P w = .ok (.value u) w' ∧ RD E' w' d u
    | none => (execOp a.eval o).run P w = .ok .skip w'

theorem SR.us {cx : Cx} {E : Env} {s : AS} {a : Act} {w : World} (h : SR cx E s a w) (i : Nat) : SR cx E { s with us := i :: s.us } a w :=
  { h with nm := fun g hg => (h.nm g hg).imp id fun ⟨j, hj, h1⟩ => ⟨j, List.mem_cons_of_mem _ hj, h1⟩ }

section
variable {P : Program} {cx : Cx} {E : Env} {s : AS} {a : Act} {w : World} {i : Nat} {o : Oper} {T : TT}

theorem Post.pure (h : SR cx E s a w) {d : D} {u : Value} (hr : (execOp a.eval o).run P w = .ok (.value u) w) (hd : RD E w d u) : Post P cx E s a w i o (some d) [] :=
  ⟨E, w, Stp.refl E w, h.us i, ⟨fun _ h => h, fun _ _ _ => rfl, fun _ _ h => h⟩, u, hr, hd⟩

/-- Memory at an address, as it is seen: cells from o on. -/
def Vw (E : Env) (w : World) (b o : Nat) (cells : List D) : Prop := ∀ (j : Nat) d, cells[j]? = some d → ∃ u, w.cell? ⟨b, o + j, none⟩ = some u ∧ u.oneCell' = true ∧ RD E w d u

def evView (s : AS) : D → Option (Bool × List D × Nat)
  | .ptr k g off => match s.at k with
    | some p => some (Nat.beq g p.1, p.2.cells, off)
    | none => none
  | .ep cells off => some (true, cells, off)
  | _ => none

theorem SR.block (h : SR cx E s a w) {k g : Nat} {blk : Blk} (hk : s.at k = some (g, blk)) {b : Nat} (hb : E.φ g = some b) :
    b < w.heap.size ∧ E.own b ∧ ∃ (cur : Array Value) (fr : Nat × Nat), w.heap[b]? = some (.cells cur blk.elem fr) ∧ NoFr fr cur.size ∧ blk.cells.length ≤ cur.size ∧ (blk.row = false → cur.size = blk.cells.length) ∧
      (∀ (j : Nat) d, blk.cells[j]? = some d → ∃ u, cur[j]? = some u ∧ u.oneCell' = true ∧ RD E w d u) := by
  have := (h.hp k g blk hk).2
  rw [hb] at this
  exact ⟨this.2.1, this.1, this.2.2⟩

theorem view_sound (h : SR cx E s a w) {d : D} {u : Value} (hd : RD E w d u) {c : Bool} {cells : List D} {off : Nat} (hv : evView s d = some (c, cells, off)) (hc : c = true) :
    ∃ b o, u = .pointer (some ⟨b, o + off, none⟩) ∧ Vw E w b o cells := by
  cases d <;> simp only [evView] at hv <;> try cases hv
  case ptr k g off' =>
    cases hk : s.at k with
    | none => rw [hk] at hv; cases hv
    | some p =>
      rw [hk] at hv
      obtain ⟨g', blk⟩ := p
      cases hv
      have e : g = g' := Nat.eq_of_beq_eq_true hc
      subst e
      cases hd with
      | ptr _ _ _ b hg hb =>
        obtain ⟨hlt, _, cur, fr, hcur, _, hl, _, hcell⟩ := h.block hk hb
        refine ⟨b, 0, by rw [Nat.zero_add], fun j d hj => ?_⟩
        obtain ⟨u, hu, h1, hr⟩ := hcell j d hj
        exact ⟨u, by rw [Nat.zero_add, cell_of_row w b j cur blk.elem fr hcur]; exact hu, h1, hr⟩
  case ep =>
    cases hd with
    | ep _ _ b o us hlen hd h1 hb ho hr =>
      refine ⟨b, o, rfl, fun j d hj => ?_⟩
      have hlt : j < us.length := by
        rw [hlen]; exact (List.getElem?_eq_some_iff.1 hj).1
      exact ⟨us[j], hr j _ (List.getElem?_eq_getElem hlt), h1 _ (List.getElem_mem hlt), (hd j d _ hj (List.getElem?_eq_getElem hlt)).ofCl⟩

theorem Vw.seg {b o : Nat} {cells : List D} (h : Vw E w b o cells) {off m : Nat} (hm : off + m ≤ cells.length) :
    ∃ us : List Value, us.length = m ∧ w.rangeAt b (o + off) us ∧ (∀ u ∈ us, u.oneCell' = true) ∧ ∀ (j : Nat) d u, ((cells.drop off).take m)[j]? = some d → us[j]? = some u → RD E w d u := by
  have key : ∀ j, j < m → ∃ u, w.cell? ⟨b, o + off + j, none⟩ = some u ∧ u.oneCell' = true ∧ RD E w (cells.getD (off + j) default) u := fun j hj => by
    have hlt : off + j < cells.length := by omega
    obtain ⟨u, hu, h1, hr⟩ := h (off + j) cells[off + j] (List.getElem?_eq_getElem hlt)
    exact ⟨u, by rw [Nat.add_assoc]; exact hu, h1, by rw [List.getD_eq_getElem?_getD, List.getElem?_eq_getElem hlt]; exact hr⟩
  have hget : ∀ j, j < m → ((List.range m).map fun j => (w.cell? ⟨b, o + off + j, none⟩).getD undef)[j]? = some ((w.cell? ⟨b, o + off + j, none⟩).getD undef) := fun j hj => by
    rw [List.getElem?_map, List.getElem?_range hj]; rfl
  refine ⟨(List.range m).map fun j => (w.cell? ⟨b, o + off + j, none⟩).getD undef, by simp, fun j v hv => ?_, fun u hu => ?_, fun j d u hd hu => ?_⟩
  · have hj : j < m := by have := (List.getElem?_eq_some_iff.1 hv).1; simpa using this
    rw [hget j hj] at hv
    obtain ⟨u, hu, _⟩ := key j hj
    rw [hu] at hv; cases hv; exact hu
  · simp only [List.mem_map, List.mem_range] at hu
    obtain ⟨j, hj, rfl⟩ := hu
    obtain ⟨u, hu, h1, _⟩ := key j hj
    rw [hu]; exact h1
  · have hj : j < m := by
      have := (List.getElem?_eq_some_iff.1 hu).1; simpa using this
    rw [hget j hj] at hu
    obtain ⟨u', hu', _, hr⟩ := key j hj
    rw [hu'] at hu; cases hu
    rw [List.getElem?_take, if_pos hj, List.getElem?_drop] at hd
    rw [List.getD_eq_getElem?_getD, hd] at hr
    exact hr

theorem TT.info (hT : T.ok P) {t : TypeId} {ti : TI} (ht : T.get t = some ti) : P.underlying t = some ti.desc ∧ (P.info? t).map (·.size) = some ti.size := by
  obtain ⟨h1, _, ⟨j, h2, h3, h4, h5⟩, _⟩ := hT t ti ht
  exact ⟨h1, by rw [h2]; simp [h4]⟩
theorem TT.sizeOf (hT : T.ok P) {t : TypeId} {ti : TI} (ht : T.get t = some ti) (w : World) : (sizeOf t).run P w = .ok ti.size w := by
  obtain ⟨h1, _, ⟨j, h2, h3, h4, h5⟩, _⟩ := hT t ti ht
  simp [Go.sizeOf, typeInfo, h2, h4]
theorem TT.zeroValue (hT : T.ok P) {t : TypeId} {ti : TI} (ht : T.get t = some ti) (w : World) : (zeroValue t).run P w = .ok ti.zero w := by
  obtain ⟨h1, _, ⟨j, h2, h3, h4, h5⟩, _⟩ := hT t ti ht
  simp [Go.zeroValue, typeInfo, h2, h3]
theorem TT.underlying (hT : T.ok P) {t : TypeId} {ti : TI} (ht : T.get t = some ti) (w : World) : (Go.underlying t).run P w = .ok ti.desc w := run_underlying (hT t ti ht).1 w
theorem isAgg_run (hT : T.ok P) {t : TypeId} {ti : TI} (ht : T.get t = some ti) (w : World) : (isAgg t).run P w = .ok ti.desc.isRow w := by
  unfold isAgg
  rw [Sem.run_bind, TT.underlying hT ht w]
  cases ti.desc <;> rfl

/-! ### load -/
def evLoadC (ti : TI) (cells : List D) (off : Nat) : Ev :=
  bif ti.desc.isRow then .cond (Nat.ble (off + ti.size) cells.length) (.list ((cells.drop off).take ti.size) fun cs => .ok (some (.agg cs)) [])
  else .opt cells[off]? fun d => .ok (some d) []
def evLoad (T : TT) (s : AS) (t : TypeId) (x : Operand) : Ev :=
  match T.get t, evO s x with
  | some ti, some d => match evView s d with
    | some p => .cond p.1 (evLoadC ti p.2.1 p.2.2)
    | none => .stuck
  | _, _ => .stuck

theorem load_sound (hT : T.ok P) (h : SR cx E s a w) {t : TypeId} {x : Operand} (ho : o.op = .load t x) {v : Option D} {up : Up} (he : (evLoad T s t x).run v up) : Post P cx E s a w i o v up := by
  unfold evLoad at he
  split at he
  case h_2 => exact he.elim
  case h_1 ti d hti hx =>
  split at he
  case h_2 => exact he.elim
  case h_1 p hp =>
  obtain ⟨c, cells, off⟩ := p
  obtain ⟨hc, he⟩ := he
  obtain ⟨b, ob, hu, hv⟩ := view_sound h (h.eval hx) hp hc
  have hrun : (execOp a.eval o).run P w = ((loadVar t ⟨b, ob + off, none⟩).run P w).andThen fun u w' => .ok (.value u) w' := by
    unfold execOp
    simp only [ho, hu, Instr.loadAt, Instr.sureAddr, Sem.run_bind, Sem.run_pure, Result.andThen_ok]
  unfold evLoadC at he
  cases hrow : ti.desc.isRow with
  | true =>
    simp only [hrow, cond_true] at he
    obtain ⟨hle, rfl, rfl⟩ := he
    obtain ⟨us, hl, hrg, h1, hd⟩ := hv.seg (Nat.le_of_ble_eq_true hle)
    refine .pure h (u := .agg us.toArray) ?_ (.agg _ _ (by have := Nat.le_of_ble_eq_true hle; simp [hl]; omega) hd h1)
    rw [hrun, run_loadVar_mid w b _ t us ti.desc hrg (TT.info hT hti).1 hrow (by rw [(TT.info hT hti).2, hl])]
    rfl
  | false =>
    simp only [hrow, cond_false] at he
    obtain ⟨d', hd', rfl, rfl⟩ := he
    obtain ⟨u, hu, h1, hr⟩ := hv off d' hd'
    refine .pure h (u := u) ?_ hr
    rw [hrun]
    have : (loadVar t ⟨b, ob + off, none⟩).run P w = .ok u w := by
      simp only [loadVar, Sem.run_bind, isAgg_run hT hti w, Result.andThen_ok, hrow, Bool.false_eq_true, if_false]
      simp [Go.load, Sem.run, hu]
    rw [this]; rfl

/-! ### cells of a value -/
def D.cells : D → List D
  | .agg cs => cs
  | d => [d]
def D.isTup : D → Bool
  | .tup _ => true
  | _ => false

theorem RD.cellsOf {d : D} {u : Value} (h : RD E w d u) (ht : d.isTup = false) :
    u.cells.toList.length = d.cells.length ∧ (∀ v ∈ u.cells.toList, v.oneCell' = true) ∧ ∀ (j : Nat) e, d.cells[j]? = some e → ∃ v, u.cells.toList[j]? = some v ∧ v.oneCell' = true ∧ RD E w e v := by
  have one : ∀ {d : D} {u : Value}, RD E w d u → u.oneCell' = true → d.cells = [d] → u.cells = #[u] →
      u.cells.toList.length = d.cells.length ∧ (∀ v ∈ u.cells.toList, v.oneCell' = true) ∧ ∀ (j : Nat) e, d.cells[j]? = some e → ∃ v, u.cells.toList[j]? = some v ∧ v.oneCell' = true ∧ RD E w e v := by
    intro d u h h1 hd hu
    rw [hd, hu]
    refine ⟨rfl, fun v hv => by simp at hv; subst hv; exact h1, fun j e he => ?_⟩
    cases j with
    | zero => simp at he; subst he; exact ⟨u, rfl, h1, h⟩
    | succ j => simp at he
  have h0 := h
  cases h with
  | v c hc => exact one h0 hc rfl (by cases u <;> first | rfl | cases hc)
  | agg cs us hlen hd h1 =>
    refine ⟨by simp [Value.cells, D.cells, hlen], by simpa [Value.cells] using h1, fun j e he => ?_⟩
    have hlt : j < us.length := by rw [hlen]; exact (List.getElem?_eq_some_iff.1 he).1
    exact ⟨us[j], by simp [Value.cells, hlt], h1 _ (List.getElem_mem hlt), hd j e _ he (List.getElem?_eq_getElem hlt)⟩
  | tup => cases ht
  | _ => exact one h0 rfl rfl rfl

/-! ### new blocks: alloc, box -/
def evBox (s : AS) (nm ky : Nat) (t : TypeId) (x : Operand) : Ev :=
  match evO s x with
  | some d => .cond (!d.isTup) (.ok (some (.ptr ky nm 0)) [(ky, some (nm, .b ⟨d.cells, t, false⟩))])
  | none => .stuck

theorem Post.block (h : SR cx E s a w) {g ky : Nat} (hi : i ∉ s.us) (hg : s.nx + 8 * i ≤ g ∧ g < s.nx + 8 * i + 8) (elem : TypeId) (cs : List D) (us : List Value) (row : Bool) (fr : Nat × Nat) (hfz : NoFr fr us.length)
    (hlen : cs.length ≤ us.length) (hrow : row = false → us.length = cs.length) (hd : ∀ (j : Nat) d, cs[j]? = some d → ∃ u, us[j]? = some u ∧ u.oneCell' = true ∧ RD E w d u) (d : D) (u : Value)
    (hr : (execOp a.eval o).run P w = .ok (.value u) (w.alloc (.cells us.toArray elem fr))) (hu : ∀ E', E'.nm g → E'.φ g = some w.heap.size → RD E' (w.alloc (.cells us.toArray elem fr)) d u) :
    Post P cx E s a w i o (some d) [(ky, some (g, .b ⟨cs, elem, row⟩))] := by
  obtain ⟨h1, h2, h3, h4, h5⟩ := h.new (ky := ky) hi hg elem cs us row fr hfz hlen hrow hd
  exact ⟨_, _, h2, h1, h5, u, hr, hu _ h3 h4⟩

theorem box_sound (h : SR cx E s a w) (hi : i ∉ s.us) {nm ky : Nat} (hg : s.nx + 8 * i ≤ nm ∧ nm < s.nx + 8 * i + 8) {t : TypeId} {x : Operand} (ho : o.op = .box t x) {v : Option D} {up : Up} (he : (evBox s nm ky t x).run v up) :
    Post P cx E s a w i o v up := by
  unfold evBox at he
  split at he
  case h_2 => exact he.elim
  case h_1 d hx =>
  obtain ⟨hc, rfl, rfl⟩ := he
  have hr := h.eval hx
  obtain ⟨hl, h1, hd⟩ := hr.cellsOf (by simpa using hc)
  refine Post.block h hi hg t d.cells (a.eval x).cells.toList false (0, 0) (NoFr.zero _) (by omega) (fun _ => hl) hd _ (.pointer (some ⟨w.heap.size, 0, none⟩)) ?_ (fun E' hn hp => .ptr _ _ _ _ hn hp)
  unfold execOp
  simp only [ho, Instr.box, newVar, newRow, newObj, Sem.run_bind, Sem.run_pure, Result.andThen_ok, Sem.run, Array.toArray_toList]
  rfl

def evAlloc (T : TT) (nm ky : Nat) (t : TypeId) : Ev :=
  match T.get t with
  | some ti => .cond (constOk ti.zero && !(ofConst ti.zero).isTup) (.ok (some (.ptr ky nm 0)) [(ky, some (nm, .b ⟨(ofConst ti.zero).cells, t, false⟩))])
  | none => .stuck
theorem alloc_sound (hT : T.ok P) (h : SR cx E s a w) (hi : i ∉ s.us) {nm ky : Nat} (hg : s.nx + 8 * i ≤ nm ∧ nm < s.nx + 8 * i + 8) {t : TypeId} (ho : o.op = .alloc t) {v : Option D} {up : Up} (he : (evAlloc T nm ky t).run v up) :
    Post P cx E s a w i o v up := by
  unfold evAlloc at he
  split at he
  case h_2 => exact he.elim
  case h_1 ti hti =>
  obtain ⟨hc, rfl, rfl⟩ := he
  rw [Bool.and_eq_true] at hc
  have hr := RD.const E w ti.zero hc.1
  obtain ⟨hl, h1, hd⟩ := hr.cellsOf (by simpa using hc.2)
  refine Post.block h hi hg t _ ti.zero.cells.toList false (0, 0) (NoFr.zero _) (by omega) (fun _ => hl) hd _ (.pointer (some ⟨w.heap.size, 0, none⟩)) ?_ (fun E' hn hp => .ptr _ _ _ _ hn hp)
  unfold execOp
  simp only [ho, Instr.alloc, newVar, newRow, newObj, Sem.run_bind, Sem.run_pure, Result.andThen_ok, Sem.run, TT.zeroValue hT hti w, Array.toArray_toList]
  rfl

/-! ### store -/
def evStore (T : TT) (s : AS) (t : TypeId) (x y : Operand) : Ev :=
  match T.get t, evO s x, evO s y with
  | some ti, some (.ptr k g off), some d => match s.at k with
    | some p => .cond (Nat.beq g p.1 && !d.isTup && Nat.beq d.cells.length ti.size && Nat.ble (off + ti.size) p.2.cells.length)
        (.list (setSeg p.2.cells off d.cells) fun cs => .ok none [(k, some (g, .b ⟨cs, p.2.elem, p.2.row⟩))])
    | none => .stuck
  | _, _, _ => .stuck

theorem heap_setCell_fr (w : World) (b o : Nat) (cur : Array Value) (t : TypeId) (fr : Nat × Nat) (v : Value) (hb : w.heap[b]? = some (.cells cur t fr)) : (w.setCell ⟨b, o, none⟩ v).heap[b]? = some (.cells (cur.setIfInBounds o v) t fr) := by
  have hlt := (Array.getElem?_eq_some_iff.1 hb).1
  simp only [World.setCell, Array.getElem?_modify, if_true, hb, Option.map_some]
  rfl
theorem setCells_fr (b : Nat) (t : TypeId) (fr : Nat × Nat) : ∀ (vs : List Value) (o : Nat) (w : World) (cur : Array Value), w.heap[b]? = some (.cells cur t fr) → (w.setCells b o vs).heap[b]? = some (.cells (setFrom cur o vs) t fr)
  | [], _, _, _, h => h
  | v :: r, o, w, cur, h => setCells_fr b t fr r (o + 1) _ _ (heap_setCell_fr w b o cur t fr v h)
theorem frozen_fr (w : World) (b j : Nat) (cur : Array Value) (t : TypeId) (fr : Nat × Nat) (hb : w.heap[b]? = some (.cells cur t fr)) (hf : NoFr fr cur.size) (hj : j < cur.size) : w.frozen? ⟨b, j, none⟩ = false := by
  have := hf.no hj
  obtain ⟨lo, hi⟩ := fr
  simp only [World.frozen?, hb]; exact this
theorem setCells_get (w : World) (b o : Nat) (cur : Array Value) (t : TypeId) (fr : Nat × Nat) (vs : List Value) (hb : w.heap[b]? = some (.cells cur t fr)) (hl : o + vs.length ≤ cur.size) :
    ∃ cur', (w.setCells b o vs).heap[b]? = some (.cells cur' t fr) ∧ cur'.size = cur.size ∧ ∀ j : Nat, cur'[j]? = if o ≤ j ∧ j < o + vs.length then vs[j - o]? else cur[j]? := by
  refine ⟨setFrom cur o vs, setCells_fr b t fr vs o w cur hb, setFrom_size vs o cur, ?_⟩
  clear hb
  induction vs generalizing o cur with
  | nil => intro j; rw [if_neg (by simp only [List.length_nil]; omega)]; rfl
  | cons v r ih =>
    intro j
    simp only [setFrom, List.length_cons] at hl ⊢
    rw [ih (o + 1) _ (by simp; omega) j]
    by_cases h1 : j = o
    · subst h1
      rw [if_neg (by omega), if_pos ⟨by omega, by omega⟩]
      simp only [Nat.sub_self, List.getElem?_cons_zero]
      rw [Array.getElem?_setIfInBounds_self_of_lt (by omega)]
    · by_cases h2 : o + 1 ≤ j ∧ j < o + 1 + r.length
      · rw [if_pos h2, if_pos ⟨by omega, by omega⟩]
        have : j - o = (j - (o + 1)) + 1 := by omega
        rw [this, List.getElem?_cons_succ]
      · rw [if_neg h2, if_neg (by omega), Array.getElem?_setIfInBounds_ne (fun e => h1 e.symm)]

theorem store_sound (hT : T.ok P) (h : SR cx E s a w) {t : TypeId} {x y : Operand} (ho : o.op = .store t x y) {v : Option D} {up : Up} (he : (evStore T s t x y).run v up) : Post P cx E s a w i o v up := by
  unfold evStore at he
  split at he
  case h_2 => exact he.elim
  case h_1 ti k g off d hti hx hy =>
  split at he
  case h_2 => exact he.elim
  case h_1 p hp =>
  obtain ⟨g', blk⟩ := p
  obtain ⟨hc, rfl, rfl⟩ := he
  simp only [Bool.and_eq_true, Bool.not_eq_true'] at hc
  obtain ⟨⟨⟨hgg, htup⟩, hlen⟩, hle⟩ := hc
  have e : g = g' := Nat.eq_of_beq_eq_true hgg
  subst e
  have hlen := Nat.eq_of_beq_eq_true hlen
  have hle := Nat.le_of_ble_eq_true hle
  have hrx := h.eval hx
  have hry := h.eval hy
  obtain ⟨hcl, hone, hcd⟩ := hry.cellsOf htup
  generalize hux : a.eval x = ux at hrx
  generalize huy : a.eval y = uy at hry hcl hone hcd
  cases hrx with
  | ptr _ _ _ b hg hb =>
  obtain ⟨hlt, hown, cur, fr, hcur, hfz, hcl2, hrow, hcell⟩ := h.block hp hb
  have hszv : uy.cells.size = ti.size := by rw [← hlen, ← hcl]; simp
  obtain ⟨cur', hcur', hsz', hget'⟩ := setCells_get w b off cur blk.elem fr uy.cells.toList hcur (by simp; omega)
  obtain ⟨hgr, hz⟩ := setCells_grown b uy.cells.toList off w
  have hst := h.store (i := i) hp hb (setSeg blk.cells off d.cells) (setSeg_length (by omega)) hgr hz cur cur' fr hcur hcur' hsz' (fun j e hj => by
    rw [setSeg_get (by omega)] at hj
    split at hj
    · rename_i hr
      obtain ⟨u, hu, h1, hru⟩ := hcd _ _ hj
      exact ⟨u, by rw [hget', if_pos ⟨hr.1, by simpa [hcl] using hr.2⟩]; exact hu, h1, hru⟩
    · rename_i hr
      obtain ⟨u, hu, h1, hru⟩ := hcell _ _ hj
      exact ⟨u, by rw [hget', if_neg (fun hh => hr ⟨hh.1, by simpa [hcl] using hh.2⟩)]; exact hu, h1, hru⟩)
  refine ⟨_, _, hst.2.1, hst.1, hst.2.2, ?_⟩
  have hrun := run_storeCells_cells (P := P) b off uy.cells.toList 0 w (fun j hj => by
      simp only [Nat.add_zero]
      rw [cell_of_row w b _ cur blk.elem fr hcur, Array.getElem?_eq_getElem (by simp at hj; omega)]; rfl) (fun j hj => by
      simp only [Nat.add_zero]; exact frozen_fr w b _ cur blk.elem fr hcur hfz (by simp at hj; omega)) hone
  simp only [Nat.add_zero] at hrun
  show (execOp a.eval o).run P w = .ok .skip (w.setCells b off uy.cells.toList)
  unfold execOp
  simp only [ho, hux, huy, Instr.storeAt, Instr.sureAddr, storeVar, Sem.run_bind, Sem.run_pure, Result.andThen_ok, TT.sizeOf hT hti w, hszv, ne_eq, not_true_eq_false, if_false, Sem.run_ite, hrun]

end
end Go.Vx

/- VxJ: what an operation comes to, in the abstract: texts and bytes, literals, make. No program. -/
import Derived.Test.YtegjeagfcfhbeaaVxI
namespace Go.Vx
set_option linter.unusedVariables false
set_option linter.unusedSimpArgs false
open Go.RowKit Go.Bw
section
variable {P : Program} {cx : Cx} {E : Env} {s : AS} {a : Act} {w : World} {i : Nat} {o : Oper} {T : TT}

def isU8 : TypeDesc → Bool
  | .int .u8 => true
  | _ => false
theorem isU8_eq {d : TypeDesc} (h : isU8 d = true) : d = .int .u8 := by
  unfold isU8 at h; split at h
  · rfl
  · cases h
theorem isStrT_eq {d : TypeDesc} (h : isStrT d = true) : d = .string := by cases d <;> simp [isStrT] at h; rfl

/-! ### bytes as a text -/
def evB2S (T : TT) (s : AS) (src dst : TypeId) (x : Operand) : Ev :=
  match T.get src, T.get dst, evO s x with
  | some ⟨.slice e, z1, z2, z3, z4⟩, some td, some d => match T.get e, srcD s 1 (.slice e) d with
    | some ei, some (c, _, cells) => .cond (c && isU8 ei.desc && isStrT td.desc) (.bytes cells fun bs => .ok (some (.v (.string ⟨bs.toArray⟩))) [])
    | _, _ => .stuck
  | _, _, _ => .stuck

theorem b2s_sound (hT : T.ok P) (h : SR cx E s a w) {src dst : TypeId} {x : Operand} (ho : o.op = .convert src dst x) {v : Option D} {up : Up} (he : (evB2S T s src dst x).run v up) : Post P cx E s a w i o v up := by
  unfold evB2S at he
  split at he
  case h_2 => exact he.elim
  case h_1 e z1 z2 z3 z4 td d hsrc hdst hx =>
  split at he
  case h_2 => exact he.elim
  case h_1 ei c n cells hei hs =>
  obtain ⟨hc, bs, rfl, rfl, rfl⟩ := he
  simp only [Bool.and_eq_true] at hc
  obtain ⟨⟨hc1, hc2⟩, hc3⟩ := hc
  have hr := h.eval hx
  generalize hux : a.eval x = u at hr
  obtain ⟨news, hS, hl, hd⟩ := src_sound hT h hr (ti := ⟨.slice e, z1, z2, z3, z4⟩) hs hc1 hsrc
  have hnews : news = (bs.map fun b => ((b.toNat : Nat) : Int)).map (Value.int .u8) := by
    apply List.ext_getElem?
    intro j
    rcases Nat.lt_or_ge j bs.length with hj | hj
    · have hj2 : j < news.length := by rw [hl]; simpa using hj
      have := hd j (dB bs[j]) news[j] (by simp [hj]) (by simp [hj2])
      generalize hq : news[j] = q at this
      cases this
      simp [hj, hj2, hq]
    · rw [List.getElem?_eq_none (by rw [hl]; simpa using hj), List.getElem?_eq_none (by simpa using hj)]
  have hu1 := (hT src _ hsrc).1
  have hu2 := (hT dst _ hdst).1
  have hu3 := (hT e _ hei).1
  rw [isU8_eq hc2] at hu3
  rw [isStrT_eq hc3] at hu2
  have hlen : news.length = bs.length := by rw [hl]; simp
  have hn : n = bs.length := by rw [← hlen, hS.newsLen, Nat.mul_one]
  have hsl : ∃ ad c', u = .slice ad n c' := by
    cases hr with
    | v cst h1 =>
      unfold srcD at hs
      split at hs
      case h_3 e1 => cases e1; simp only [Option.some.injEq, Prod.mk.injEq] at hs; obtain ⟨_, rfl, _⟩ := hs; exact ⟨none, 0, rfl⟩
      case h_4 e1 => cases e1; simp only [Option.some.injEq, Prod.mk.injEq] at hs; obtain ⟨h0, _⟩ := hs; rw [← h0] at hc1; simp [isStrT] at hc1
      all_goals first | (rename_i e1; cases e1; done) | cases hs
    | sl => simp only [srcD, Option.some.injEq, Prod.mk.injEq] at hs; obtain ⟨_, rfl, _⟩ := hs; exact ⟨_, _, rfl⟩
    | ref k g off n' sz c' b off' t m hg hb hc2 hoff hsh hm =>
      simp only [srcD] at hs
      cases hk : s.at k <;> rw [hk] at hs <;> simp only [Option.some.injEq, Prod.mk.injEq, reduceCtorEq] at hs
      obtain ⟨_, rfl, _⟩ := hs; exact ⟨_, _, rfl⟩
    | refn k g sz hg hb =>
      simp only [srcD] at hs
      cases hk : s.at k <;> rw [hk] at hs <;> simp only [Option.some.injEq, Prod.mk.injEq, reduceCtorEq] at hs
      obtain ⟨_, rfl, _⟩ := hs; exact ⟨_, _, rfl⟩
    | _ => cases hs
  obtain ⟨ad, c', rfl⟩ := hsl
  refine .pure h ?_ (.v _ rfl)
  have hconv : (convert src dst (.slice ad n c')).run P w = .ok (.string ⟨bs.toArray⟩) w := by
    rw [run_convert_bytes_string w src dst e ad _ _ hu1 hu3 hu2]
    have hfc := hS.cells
    cases ad with
    | none =>
      have h0 : news.toArray = #[] := by
        have := hfc
        rw [run_firstCells_none] at this
        cases this; rfl
      have : bs = [] := List.eq_nil_of_length_eq_zero (by rw [← hlen]; simpa using congrArg Array.size h0)
      subst this; rfl
    | some ad =>
      have hl : (loadCells ad n).run P w = .ok ((bs.map fun b => ((b.toNat : Nat) : Int)).map (Value.int .u8)).toArray w := by
        rw [← hnews, ← hfc]; simp [Builtin.firstCells]
      rw [run_bytesToString w ad _ _ _ hl, foldl_push]
      simp
  unfold execOp
  simp only [ho, hux, Sem.run_bind, hconv, Result.andThen_ok, Sem.run_pure]

/-! ### a text as bytes -/
def evS2B (T : TT) (s : AS) (nm ky : Nat) (src dst : TypeId) (x : Operand) : Ev :=
  match T.get src, T.get dst, evO s x with
  | some ts, some ⟨.slice e, _, _, _, _⟩, some (.v (.string b)) => match T.get e with
    | some ei => .cond (isStrT ts.desc && isU8 ei.desc && Nat.ble b.size maxI) (.ok (some (.ref ky nm 0 b.size 1)) [(ky, some (nm, .b ⟨b.data.toList.map dB, e, true⟩))])
    | none => .stuck
  | _, _, _ => .stuck
theorem s2b_sound (hT : T.ok P) (h : SR cx E s a w) (hi : i ∉ s.us) {nm ky : Nat} (hg : s.nx + 8 * i ≤ nm ∧ nm < s.nx + 8 * i + 8) {src dst : TypeId} {x : Operand} (ho : o.op = .convert src dst x) {v : Option D} {up : Up} (he : (evS2B T s nm ky src dst x).run v up) :
    Post P cx E s a w i o v up := by
  unfold evS2B at he
  split at he
  case h_2 => exact he.elim
  case h_1 ts e z1 z2 z3 z4 b hsrc hdst hx =>
  split at he
  case h_2 => exact he.elim
  case h_1 ei hei =>
  obtain ⟨hc, rfl, rfl⟩ := he
  simp only [Bool.and_eq_true] at hc
  obtain ⟨⟨hc1, hc2⟩, hc3⟩ := hc
  have hc3 := Nat.le_of_ble_eq_true hc3
  have hu1 := (hT src _ hsrc).1
  have hu2 := (hT dst _ hdst).1
  have hu3 := (hT e _ hei).1
  rw [isU8_eq hc2] at hu3
  rw [isStrT_eq hc1] at hu1
  have hr := h.eval hx
  generalize hux : a.eval x = u at hr
  cases hr
  have hrun := run_bytes_of_string (P := P) w src dst e b hu1 hu2 hu3
  have hcg := grownCap_ge w b.size 0 e
  have hcm := grownCap_le_maxLen w b.size 0 e (by unfold maxLen; unfold maxI at hc3; omega)
  have hrow : (bytesRow b (grownCap w b.size 0 e)).toList = byteCells b ++ List.replicate (grownCap w b.size 0 e - b.size) (.int .u8 0) := by
    simp [bytesRow, byteCells]
  have hsz : (bytesRow b (grownCap w b.size 0 e)).size = grownCap w b.size 0 e := by
    have := congrArg List.length hrow
    simp [byteCells_length] at this
    omega
  obtain ⟨q1, q2, q3, q4, q5⟩ := h.drew.new (ky := ky) hi hg e (b.data.toList.map dB) (bytesRow b (grownCap w b.size 0 e)).toList true ((bytesRow b (grownCap w b.size 0 e)).size, (bytesRow b (grownCap w b.size 0 e)).size + 1)
    (.inr (by simp)) (by rw [hrow]; simp [byteCells]) (fun hh => by cases hh) (fun j d hj => by
      rw [List.getElem?_map, Option.map_eq_some_iff] at hj
      obtain ⟨y, hy, rfl⟩ := hj
      have hlt := (List.getElem?_eq_some_iff.1 hy).1
      exact ⟨.int .u8 y.toNat, by rw [hrow, List.getElem?_append_left (by rw [byteCells_length]; simpa using hlt)]; simp [byteCells, hy], rfl, .v _ rfl⟩)
  refine ⟨_, _, (Stp.drew _ w).trans q2, q1, ⟨q5.own, q5.heap, q5.old⟩, .slice (some ⟨w.heap.size, 0, none⟩) b.size (grownCap w b.size 0 e), ?_, ?_⟩
  · unfold execOp
    simp only [ho, hux, Sem.run_bind, hrun, Result.andThen_ok, Sem.run_pure, Array.toArray_toList]
  · refine .ref ky nm 0 b.size 1 _ w.heap.size 0 e _ q3 q4 ⟨hcg, by unfold maxLen at hcm; unfold maxI; omega⟩ (.inl rfl) (shape_cells (cell_of_alloc w.drew _)) ?_
    simp [hsz]

/-! ### literals -/
/-- Bytes to bytes: nothing but a mark at the block's end. -/
def evS2S (T : TT) (s : AS) (src dst : TypeId) (x : Operand) : Ev :=
  match T.get src, evO s x with
  | some ⟨.slice e, _, _, _, _⟩, some (.ref k g off n sz) => match T.get e, s.at k with
    | some ei, some p => .cond (Nat.beq src dst && isU8 ei.desc && Nat.beq g p.1 && Nat.ble 1 n) (.ok (some (.ref k g off n sz)) [(k, some (g, .b p.2))])
    | _, _ => .stuck
  | _, _ => .stuck
theorem heap_freeze (w : World) (b o : Nat) (cur : Array Value) (t : TypeId) (fr : Nat × Nat) (hb : w.heap[b]? = some (.cells cur t fr)) : (w.freeze ⟨b, o, none⟩ 1).heap[b]? = some (.cells cur t (if fr.1 == fr.2 then (o, o + 1) else (min fr.1 o, max fr.2 (o + 1)))) := by
  obtain ⟨lo, hi⟩ := fr
  unfold World.freeze
  rw [if_neg (by decide)]
  simp only [Array.getElem?_modify, if_true, hb, Option.map_some]
theorem freeze_grown (w : World) (b o : Nat) : w.grownBy (w.freeze ⟨b, o, none⟩ 1) (some b) ∧ (w.freeze ⟨b, o, none⟩ 1).heap.size = w.heap.size := by
  unfold World.freeze
  rw [if_neg (by decide)]
  refine ⟨⟨rfl, rfl, rfl, by simp, fun k hk hn => ?_⟩, by simp⟩
  simp only [Array.getElem?_modify]
  rw [if_neg (fun e => hn (by rw [e]))]
theorem s2s_sound (hT : T.ok P) (h : SR cx E s a w) {src dst : TypeId} {x : Operand} (ho : o.op = .convert src dst x) {v : Option D} {up : Up} (he : (evS2S T s src dst x).run v up) : Post P cx E s a w i o v up := by
  unfold evS2S at he
  split at he
  case h_2 => exact he.elim
  case h_1 e z1 z2 z3 z4 k g off n sz hti hx =>
  split at he
  case h_2 => exact he.elim
  case h_1 ei p hei hk =>
  obtain ⟨g', blk⟩ := p
  obtain ⟨hc, rfl, rfl⟩ := he
  simp only [Bool.and_eq_true] at hc
  obtain ⟨⟨⟨c1, c2⟩, c3⟩, c4⟩ := hc
  have c1 := Nat.eq_of_beq_eq_true c1
  have c3 := Nat.eq_of_beq_eq_true c3
  have c4 := Nat.le_of_ble_eq_true c4
  subst c1 c3
  have hu1 := TT.underlying hT hti w
  have hu3 := TT.underlying hT hei w
  rw [isU8_eq c2] at hu3
  have hr0 := h.eval hx
  generalize hux : a.eval x = ux at hr0
  have hr := hr0
  cases hr with
  | refn => omega
  | ref _ _ _ _ _ c b off' t m hg hb hc ho' hs hm =>
  obtain ⟨hlt, hown, cur, fr, hcur, hfz, hcl, hrow, hcell⟩ := h.block hk hb
  have hsh : w.shape? b = some (blk.elem, cur.size) := shape_cells hcur
  have hcur' := heap_freeze w b cur.size cur blk.elem fr hcur
  obtain ⟨hgr, hz⟩ := freeze_grown w b cur.size
  have hst := h.storeG (i := i) (o' := .b blk) (AS.at_iff.1 hk) hb (i :: s.us) (fun x hx => List.mem_cons_of_mem _ hx) hgr hz (by rw [shape_cells hcur, shape_cells hcur']) fun E' hs' hn hp ho2 => by
    refine ⟨hn _ hg, ?_⟩
    rw [hp, hb]
    refine ⟨ho2, by omega, cur, _, hcur', hfz.more, hcl, hrow, fun j d hj => ?_⟩
    obtain ⟨u, hu, h1, hru⟩ := hcell j d hj
    exact ⟨u, hu, h1, hru.step hs'⟩
  refine ⟨_, _, hst.2.1, hst.1, hst.2.2, .slice (some ⟨b, off', none⟩) n c, ?_, hr0.step hst.2.1⟩
  unfold execOp
  simp [ho, hux, convert, hu1, hu3, markStringish, hsh, Sem.run, shape, freeze]
/-- Cells that read. -/
def LR (E : Env) (w : World) (ds : List D) (us : List Value) : Prop := us.length = ds.length ∧ (∀ (j : Nat) d u, ds[j]? = some d → us[j]? = some u → RD E w d u) ∧ ∀ u ∈ us, u.oneCell' = true

def fillD (place : Nat → Option (Nat × Nat)) (cells : List D) : List (Nat × D) → Option (List D)
  | [] => some cells
  | (i, d) :: rest => match place i with
    | none => none
    | some (off, size) => bif !d.isTup && Nat.beq d.cells.length size && Nat.ble (off + d.cells.length) cells.length then fillD place (setSeg cells off d.cells) rest else none

theorem zipIdx_foldl (off : Nat) : ∀ (l : List Value) (n : Nat) (cs : Array Value), (l.zipIdx n).foldl (fun cs (p : Value × Nat) => cs.setIfInBounds (off + p.2) p.1) cs = setFrom cs (off + n) l
  | [], _, _ => rfl
  | v :: r, n, cs => by
    rw [List.zipIdx_cons, List.foldl_cons, zipIdx_foldl off r (n + 1)]; rfl
theorem setFrom_get : ∀ (vs : List Value) (o : Nat) (cur : Array Value), o + vs.length ≤ cur.size → ∀ j : Nat, (setFrom cur o vs)[j]? = if o ≤ j ∧ j < o + vs.length then vs[j - o]? else cur[j]? := by
  intro vs
  induction vs with
  | nil => intro o cur _ j; rw [if_neg (by simp only [List.length_nil]; omega)]; rfl
  | cons v r ih =>
    intro o cur hl j
    simp only [setFrom, List.length_cons] at hl ⊢
    rw [ih (o + 1) _ (by simp; omega) j]
    by_cases h1 : j = o
    · subst h1
      rw [if_neg (by omega), if_pos ⟨by omega, by omega⟩]
      simp only [Nat.sub_self, List.getElem?_cons_zero]
      rw [Array.getElem?_setIfInBounds_self_of_lt (by omega)]
    · by_cases h2 : o + 1 ≤ j ∧ j < o + 1 + r.length
      · rw [if_pos h2, if_pos ⟨by omega, by omega⟩]
        have : j - o = (j - (o + 1)) + 1 := by omega
        rw [this, List.getElem?_cons_succ]
      · rw [if_neg h2, if_neg (by omega), Array.getElem?_setIfInBounds_ne (fun e => h1 e.symm)]

theorem LR.set {ds : List D} {us : List Value} (h : LR E w ds us) {d : D} {u : Value} (hr : RD E w d u) (ht : d.isTup = false) {off : Nat} (hl : off + d.cells.length ≤ ds.length) :
    LR E w (setSeg ds off d.cells) (setFrom us.toArray off u.cells.toList).toList := by
  obtain ⟨h1, h2, h3⟩ := h
  obtain ⟨c1, c2, c3⟩ := hr.cellsOf ht
  have hl2 : off + u.cells.toList.length ≤ us.toArray.size := by rw [c1]; simpa [h1] using hl
  have hget := setFrom_get u.cells.toList off us.toArray hl2
  refine ⟨by rw [Array.length_toList, setFrom_size, setSeg_length hl]; simpa using h1, fun j e v he hv => ?_, fun v hv => ?_⟩
  · rw [Array.getElem?_toList, hget] at hv
    rw [setSeg_get hl] at he
    rw [c1] at hv
    split at he
    · rename_i hc
      rw [if_pos hc] at hv
      obtain ⟨v', hv', _, hr'⟩ := c3 _ e he
      rw [hv'] at hv; cases hv; exact hr'
    · rename_i hc
      rw [if_neg hc] at hv
      exact h2 j e v he (by simpa using hv)
  · obtain ⟨j, hj⟩ := List.getElem?_of_mem hv
    rw [Array.getElem?_toList, hget] at hj
    split at hj
    · exact c2 v (List.mem_of_getElem? hj)
    · exact h3 v (List.mem_of_getElem? (by simpa using hj))

theorem fill_sound (place : Nat → Option (Nat × Nat)) : ∀ (ps : List (Nat × D)) (qs : List (Nat × Value)) (ds ds' : List D) (us : List Value), LR E w ds us → fillD place ds ps = some ds' →
    qs.length = ps.length → (∀ (j : Nat) p q, ps[j]? = some p → qs[j]? = some q → p.1 = q.1 ∧ RD E w p.2 q.2) → ∃ us', Instr.fill place us.toArray qs = some us'.toArray ∧ LR E w ds' us'
  | [], qs, ds, ds', us, h, hf, hl, _ => by
    cases hf
    cases qs with
    | nil => exact ⟨us, rfl, h⟩
    | cons => simp at hl
  | (n, d) :: ps, qs, ds, ds', us, h, hf, hl, hp => by
    cases qs with
    | nil => simp at hl
    | cons q qs =>
    obtain ⟨n', u⟩ := q
    obtain ⟨rfl, hr⟩ := hp 0 (n, d) (n', u) rfl rfl
    simp only [fillD] at hf
    cases hpl : place n with
    | none => rw [hpl] at hf; cases hf
    | some os =>
    obtain ⟨off, size⟩ := os
    rw [hpl] at hf
    dsimp only at hf
    cases hc : (!d.isTup && Nat.beq d.cells.length size && Nat.ble (off + d.cells.length) ds.length) with
    | false => rw [hc] at hf; cases hf
    | true =>
    rw [hc, cond_true] at hf
    simp only [Bool.and_eq_true, Bool.not_eq_true'] at hc
    obtain ⟨⟨ht, hsz⟩, hle⟩ := hc
    have hsz := Nat.eq_of_beq_eq_true hsz
    have hle := Nat.le_of_ble_eq_true hle
    have hcl := (hr.cellsOf ht).1
    obtain ⟨us', hu', hl'⟩ := fill_sound place ps qs _ ds' _ (h.set hr ht hle) hf (by simpa using hl) (fun j p q a1 a2 => hp (j + 1) p q (by simpa using a1) (by simpa using a2))
    refine ⟨us', ?_, hl'⟩
    rw [Instr.fill]
    rw [hpl]
    have e1 : u.cells.size = size := by rw [← hsz, ← hcl]; simp
    have e2 : ¬ (u.cells.size ≠ size ∨ us.toArray.size < off + u.cells.size) := by
      intro hh
      rcases hh with hh | hh
      · exact hh e1
      · have := h.1; rw [e1, ← hsz] at hh; simp at hh; omega
    have e3 : u.cells.zipIdx.foldl (fun cs (p : Value × Nat) => cs.setIfInBounds (off + p.2) p.1) us.toArray = setFrom us.toArray off u.cells.toList := by
      have := zipIdx_foldl off u.cells.toList 0 us.toArray
      rw [Nat.add_zero] at this
      rw [← this, ← Array.foldl_toList, Array.toList_zipIdx]
    simp only [ne_eq, Bool.or_eq_true, decide_eq_true_eq] at e2 ⊢
    rw [Array.toArray_toList] at hu'
    rw [← hu', ← e3]
    simp only [gt_iff_lt]
    rw [if_neg (by simpa using e2)]

def evParts (s : AS) : List (Nat × Operand) → Option (List (Nat × D))
  | [] => some []
  | (n, x) :: r => match evO s x, evParts s r with
    | some d, some l => some ((n, d) :: l)
    | _, _ => none
theorem parts_sound (h : SR cx E s a w) : ∀ (ps : List (Nat × Operand)) (ds : List (Nat × D)), evParts s ps = some ds → (ps.map fun (n, x) => (n, a.eval x)).length = ds.length ∧ ∀ (j : Nat) p q, ds[j]? = some p → (ps.map fun (n, x) => (n, a.eval x))[j]? = some q → p.1 = q.1 ∧ RD E w p.2 q.2
  | [], ds, hd => by cases hd; exact ⟨rfl, fun j p q hp => by simp at hp⟩
  | (n, x) :: r, ds, hd => by
    simp only [evParts] at hd
    split at hd
    case h_2 => cases hd
    case h_1 d l hx hl =>
    cases hd
    obtain ⟨h1, h2⟩ := parts_sound h r l hl
    refine ⟨by simp only [List.map_cons, List.length_cons, h1], fun j p q hp hq => ?_⟩
    cases j with
    | zero => simp at hp hq; subst hp hq; exact ⟨rfl, h.eval hx⟩
    | succ j => exact h2 j p q (by simpa using hp) (by simpa using hq)

def evPlaces (T : TT) : List Field → Option (List (Nat × Nat))
  | [] => some []
  | f :: r => match T.get f.type, evPlaces T r with
    | some fi, some l => some ((f.offset, fi.size) :: l)
    | _, _ => none
theorem places_sound (hT : T.ok P) : ∀ (fs : List Field) (l : List (Nat × Nat)), evPlaces T fs = some l → fs.mapM (fun f => (P.info? f.type).map fun i => (f.offset, i.size)) = some l
  | [], l, h => by cases h; rfl
  | f :: r, l, h => by
    simp only [evPlaces] at h
    split at h
    case h_2 => cases h
    case h_1 fi l' hf hl =>
    cases h
    obtain ⟨_, _, ⟨j, h2, _, h4, _⟩, _⟩ := hT _ _ hf
    simp [List.mapM_cons, h2, h4, places_sound hT r l' hl]

def evBuild (T : TT) (s : AS) (t : TypeId) (parts : Array (Nat × Operand)) : Ev :=
  match T.get t, evParts s parts.toList with
  | some ti, some ps => match ti.desc with
    | .struct fs => match evPlaces T fs.toList with
      | some pl => match fillD (fun n : Nat => pl[n]?) (ofConst ti.zero).cells ps with
        | some cells => .cond (constOk ti.zero && !(ofConst ti.zero).isTup) (.ok (some (.agg cells)) [])
        | none => .stuck
      | none => .stuck
    | .array _ e => match T.get e with
      | some ei => match fillD (fun i => some (i * ei.size, ei.size)) (ofConst ti.zero).cells ps with
        | some cells => .cond (constOk ti.zero && !(ofConst ti.zero).isTup) (.ok (some (.agg cells)) [])
        | none => .stuck
      | none => .stuck
    | _ => .stuck
  | _, _ => .stuck

theorem zero_LR (E : Env) (w : World) {z : Value} (h1 : constOk z = true) (h2 : (ofConst z).isTup = false) : LR E w (ofConst z).cells z.cells.toList := by
  obtain ⟨c1, c2, c3⟩ := (RD.const E w z h1).cellsOf h2
  exact ⟨c1, fun j d u hd hu => by obtain ⟨v, hv, _, hr⟩ := c3 j d hd; rw [hv] at hu; cases hu; exact hr, c2⟩

theorem build_sound (hT : T.ok P) (h : SR cx E s a w) {t : TypeId} {parts : Array (Nat × Operand)} (ho : o.op = .build t parts) {v : Option D} {up : Up} (he : (evBuild T s t parts).run v up) : Post P cx E s a w i o v up := by
  unfold evBuild at he
  split at he
  case h_2 => exact he.elim
  case h_1 ti ps hti hps =>
  obtain ⟨p1, p2⟩ := parts_sound h _ _ hps
  obtain ⟨hu, _, ⟨j, hj1, hj2, hj3, hj4⟩, _⟩ := hT t ti hti
  have fin : ∀ (place : Nat → Option (Nat × Nat)) (cells : List D), (∀ us : List Value, Instr.fill place ti.zero.cells (parts.toList.map fun (n, x) => (n, a.eval x)) = some us.toArray → P.built t (parts.toList.map fun (n, x) => (n, a.eval x)) = some us.toArray) →
      fillD place (ofConst ti.zero).cells ps = some cells → (constOk ti.zero && !(ofConst ti.zero).isTup) = true → Post P cx E s a w i o (some (.agg cells)) [] := by
    intro place cells hb hf hc
    rw [Bool.and_eq_true] at hc
    obtain ⟨us, hu', hl1, hl2, hl3⟩ := fill_sound place ps _ _ cells _ (zero_LR E w hc.1 (by simpa using hc.2)) hf p1 p2
    rw [Array.toArray_toList] at hu'
    have hrun := run_build (P := P) w t (parts.map fun (n, x) => (n, a.eval x)) us.toArray (by rw [Array.toList_map]; exact hb us hu')
    refine .pure h (u := .agg us.toArray) ?_ (.agg _ _ hl1 hl2 hl3)
    unfold execOp
    simp only [ho, Sem.run_bind, hrun, Result.andThen_ok, Sem.run_pure]
  split at he
  case h_1 fs hd =>
    split at he
    case h_2 => exact he.elim
    case h_1 pl hpl =>
    split at he
    case h_2 => exact he.elim
    case h_1 cells hf =>
    obtain ⟨hc, rfl, rfl⟩ := he
    refine fin (fun n : Nat => pl[n]?) cells (fun us hus => ?_) hf hc
    have hm := places_sound hT fs.toList pl hpl
    rw [hd] at hu
    unfold Program.built
    rw [hj1, hu]
    simp only [hj2, hm]
    have : (fun n : Nat => pl.toArray[n]?) = fun n : Nat => pl[n]? := by funext n; simp
    rw [this]; exact hus
  case h_2 len e hd =>
    split at he
    case h_2 => exact he.elim
    case h_1 ei hei =>
    split at he
    case h_2 => exact he.elim
    case h_1 cells hf =>
    obtain ⟨hc, rfl, rfl⟩ := he
    refine fin _ cells (fun us hus => ?_) hf hc
    obtain ⟨_, _, ⟨j', hj1', _, hj3', _⟩, _⟩ := hT e ei hei
    rw [hd] at hu
    unfold Program.built
    rw [hj1, hu]
    simp only [hj2, hj1', hj3']
    exact hus
  case h_3 => exact he.elim
end
end Go.Vx

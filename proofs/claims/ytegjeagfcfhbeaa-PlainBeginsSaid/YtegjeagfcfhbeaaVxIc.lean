/- VxIc: copy, cap, append of zeros upon nil. No program. -/
import Derived.Test.YtegjeagfcfhbeaaVxI
import Derived.Laws.IdiomCopy
namespace Go.Vx
set_option linter.unusedVariables false
set_option linter.unusedSimpArgs false
open Go.RowKit Go.Bw
section
variable {P : Program} {cx : Cx} {E : Env} {s : AS} {a : Act} {w : World} {i : Nat} {o : Oper} {T : TT}

/-! ### cap of what is constant -/
def evCap (T : TT) (s : AS) (ts : Array TypeId) (xs : Array Operand) : Ev :=
  match ts.toList, xs.toList with
  | [t], [x] => match T.get t, evO s x with
    | some ⟨.slice _, _, _, _, _⟩, some (.v (.slice none 0 0)) => .ok (some (.v (.int .i64 0))) []
    | _, _ => .stuck
  | _, _ => .stuck
theorem cap_sound (hT : T.ok P) (h : SR cx E s a w) {c : Call} (ho : o.op = .call c) (hc : c.callee = .builtin .cap) {v : Option D} {up : Up} (he : (evCap T s c.argTypes c.args).run v up) : Post P cx E s a w i o v up := by
  unfold evCap at he
  split at he
  case h_2 => exact he.elim
  case h_1 t x hts hxs =>
  split at he
  case h_2 => exact he.elim
  case h_1 e z1 z2 z3 z4 hti hx =>
  obtain ⟨rfl, rfl⟩ := he
  have e1 : c.argTypes = #[t] := by apply Array.ext'; simpa using hts
  have e2 : c.args.map a.eval = #[a.eval x] := by apply Array.ext'; rw [Array.toList_map, hxs]; rfl
  have hrx := h.eval hx
  generalize hux : a.eval x = ux at hrx
  cases hrx
  refine .pure h ?_ (.v _ rfl)
  unfold execOp
  have hu := (hT t _ hti).1
  simp [ho, resolve, hc, Sem.run_bind, Sem.run_pure, Result.andThen_ok, invoke, builtin, e1, e2, hux, Builtin.cap_, run_underlying hu, goInt]

/-! ### append of zeros upon nil -/
theorem run_append_zeros (t tx ty e : TypeId) (j : TypeInfo) (z : Value) (kk : IntKind) (ht : P.underlying t = some (.slice e)) (hk : P.underlying tx = some (.int kk)) (hi : P.info? e = some j) (hz : j.zero = some z) (k : IntKind) (n : Nat) (h0 : 0 < n) (hs : 0 < j.size)
    (hn : n ≤ 140737488355328) (hb : n * j.bytes ≤ 140737488355328) :
    ∃ us : List Value, grownCap w n 0 e * z.cells.size = us.length ∧ (Builtin.append_ #[t, tx] ty #[.slice none 0 0, .int k n]).run P w = .ok (.slice (some ⟨w.heap.size, 0, none⟩) n (grownCap w n 0 e)) (w.drew.alloc (.cells us.toArray e)) := by
  have hw : IntKind.i64.wrap (n : Int) = n := IntWalk.i64_in _ (by omega)
  have hne : ¬ n = 0 := by omega
  have hsz : ¬ j.size = 0 := by omega
  have hnx : Builtin.nextslicecap n 0 = n := by unfold Builtin.nextslicecap; rw [if_pos (by omega)]
  have hc := grownCap_ge w n 0 e
  refine ⟨(Builtin.zeroCells z.cells n).toList ++ (Builtin.zeroCells z.cells (grownCap w n 0 e - n)).toList, ?_, ?_⟩
  · simp only [List.length_append, Array.length_toList, Builtin.zeroCells, Array.size_map, Array.size_range]
    rw [← Nat.add_mul]; congr 1; omega
  · have h1 : ¬ ((n : Int) < 0) := by omega
    have h2 : ¬ (281474976710656 < (n : Int) * (j.bytes : Int)) := by
      have : ((n * j.bytes : Nat) : Int) ≤ 140737488355328 := by omega
      rw [Int.natCast_mul] at this; omega
    have h3 : ¬ (281474976710656 < n * j.bytes) := by omega
    have h4 : ¬ (9223372036854775807 < (n : Int)) := by omega
    have h5 : ¬ (n * j.size = 0) := by have := Nat.mul_pos h0 hs; omega
    simp [h5, Builtin.append_, run_underlying ht, run_underlying hk, sizeOf, typeInfo, zeroValue, hi, hz, asInt, asIntOf, hw, h1, h2, h3, h4, hne, hsz, hnx, Question.forced, Builtin.firstCells, newRow, grownCap]
    congr 2
    apply Array.ext'
    simp
def evAppZ (T : TT) (s : AS) (nm ky : Nat) (ts : Array TypeId) (xs : Array Operand) : Ev :=
  match ts.toList, xs.toList with
  | [t, tx], [x, y] => match T.get t, T.get tx, evO s x, evO s y with
    | some ⟨.slice e, _, _, _, _⟩, some ⟨.int _, _, _, _, _⟩, some (.v (.slice none 0 0)), some (.v (.int _ n)) => match T.get e with
      | some ei => .cond (decide (0 < n) && decide (0 < ei.size) && Nat.ble n.toNat 140737488355328 && Nat.ble (n.toNat * ei.bytes) 140737488355328)
          (.ok (some (.ref ky nm 0 n.toNat ei.size)) [(ky, some (nm, .b ⟨[], e, true⟩)), (ky, none)])
      | none => .stuck
    | _, _, _, _ => .stuck
  | _, _ => .stuck
theorem appz_sound (hT : T.ok P) (h : SR cx E s a w) (hi : i ∉ s.us) {nm ky : Nat} (hg : s.nx + 8 * i ≤ nm ∧ nm < s.nx + 8 * i + 8) {c : Call} (ho : o.op = .call c) (hc : c.callee = .builtin .append) {v : Option D} {up : Up} (he : (evAppZ T s nm ky c.argTypes c.args).run v up) :
    Post P cx E s a w i o v up := by
  unfold evAppZ at he
  split at he
  case h_2 => exact he.elim
  case h_1 t tx x y hts hxs =>
  split at he
  case h_2 => exact he.elim
  case h_1 e z1 z2 z3 z4 kk z5 z6 z7 z8 k n hti htx hx hy =>
  split at he
  case h_2 => exact he.elim
  case h_1 ei hei =>
  obtain ⟨hcond, rfl, rfl⟩ := he
  simp only [Bool.and_eq_true, decide_eq_true_eq] at hcond
  obtain ⟨⟨⟨h0, hs0⟩, hn1⟩, hn2⟩ := hcond
  have hn1 := Nat.le_of_ble_eq_true hn1
  have hn2 := Nat.le_of_ble_eq_true hn2
  obtain ⟨m, rfl⟩ := Int.eq_ofNat_of_zero_le (Int.le_of_lt h0)
  simp only [Int.toNat_natCast] at hn1 hn2 ⊢
  have e1 : c.argTypes = #[t, tx] := by apply Array.ext'; simpa using hts
  have e2 : c.args.map a.eval = #[a.eval x, a.eval y] := by apply Array.ext'; rw [Array.toList_map, hxs]; rfl
  have run0 : ∀ {u : Value} {w' : World}, (Builtin.append_ #[t, tx] o.type #[a.eval x, a.eval y]).run P w = .ok u w' → (execOp a.eval o).run P w = .ok (.value u) w' := fun hu => by
    unfold execOp
    simp only [ho, resolve, hc, Sem.run_bind, Sem.run_pure, Result.andThen_ok, invoke, builtin, e1, e2, hu]
  have hrx := h.eval hx
  have hry := h.eval hy
  generalize hux : a.eval x = ux at hrx run0
  generalize huy : a.eval y = uy at hry run0
  cases hrx; cases hry
  obtain ⟨hu1, hzl, ⟨j0, hj1, hj2, hj3, hj4⟩, _⟩ := hT e ei hei
  obtain ⟨us, hul, hr⟩ := run_append_zeros (P := P) (w := w) t tx o.type e j0 ei.zero kk (hT t _ hti).1 (hT tx _ htx).1 hj1 hj2 k m (by omega) (by rw [hj3]; exact hs0) hn1 (by rw [hj4]; exact hn2)
  obtain ⟨k1, k2⟩ := h.kill ky
  have k1' := k1.drew
  obtain ⟨q1, q2, q3, q4, q5⟩ := k1'.new (ky := ky) hi hg e [] us true (0, 0) (NoFr.zero _) (by simp) (fun hh => by cases hh) (fun j d hj => by simp at hj)
  refine ⟨_, _, (k2.trans (Stp.drew _ w)).trans q2, q1, ⟨fun b hb => q5.own b (.inl hb), fun b hb _ => Below.heap_alloc w.drew _ b hb, fun x hx hw => ?_⟩, .slice (some ⟨w.heap.size, 0, none⟩) m (grownCap w m 0 e), ?_, ?_⟩
  · obtain ⟨k', g', blk', hk', hx'⟩ := q5.old x hx hw
    rcases Tr.of_set hk' with ⟨_, hv⟩ | ⟨_, hk'⟩
    · cases hv
    · exact ⟨k', g', blk', hk', hx'⟩
  · exact run0 hr
  · have hc2 := grownCap_ge w m 0 e
    have hc3 := grownCap_le_maxLen w m 0 e (by unfold maxLen; omega)
    refine .ref ky nm 0 m ei.size _ w.heap.size 0 e _ q3 q4 ⟨hc2, by unfold maxLen at hc3; unfold maxI; omega⟩ (.inl rfl) (shape_cells (cell_of_alloc w.drew _)) ?_
    simp only [List.size_toArray]
    rw [← hul, hzl]; omega

/-! ### copy -/
theorem src_at (h : SR cx E s a w) {d : D} {u : Value} (hr : RD E w d u) {dd : TypeDesc} {c : Bool} {n : Nat} {cells : List D} (hs : srcD s 1 dd d = some (c, n, cells)) (hc : c = true) (hsl : isSliceT dd = true) (hn : 0 < n) :
    ∃ (ad : Addr) (cap : Nat) (us : List Value), u = .slice (some ad) n cap ∧ us.length = n ∧ cells.length = n ∧ (∀ (j : Nat) v, us[j]? = some v → w.cell? (ad.add j) = some v) ∧ (∀ v ∈ us, v.oneCell' = true) ∧ ∀ (j : Nat) e v, cells[j]? = some e → us[j]? = some v → RD E w e v := by
  cases hr with
  | v cst h1 =>
    unfold srcD at hs
    split at hs
    case h_3 e => cases e; cases hs; omega
    case h_4 b e =>
      cases e; cases hs
      rw [Bool.and_eq_true] at hc
      have := hc.1
      cases dd <;> simp [isStrT, isSliceT] at this hsl
    all_goals first | (rename_i e; cases e; done) | cases hs
  | sl nn n' sz cs ad c' us hlen hd hone hn' hs' hc2 hnil hr =>
    cases hs
    rw [Bool.and_eq_true] at hc
    obtain rfl : sz = 1 := Nat.eq_of_beq_eq_true hc.2
    rcases hr with hr | ⟨b, off, rfl, hb, ho', hcell⟩
    · omega
    · exact ⟨_, _, us, rfl, by omega, by omega, fun j v hv => by rw [Addr.add_mid]; exact hcell j v hv, hone, fun j e v a1 a2 => (hd j e v a1 a2).ofCl⟩
  | ref k g off n' sz c' b off' t m hg hb hc2 hoff hsh hm =>
    simp only [srcD] at hs
    cases hk : s.at k with
    | none => rw [hk] at hs; cases hs
    | some p =>
    obtain ⟨g', blk⟩ := p
    rw [hk] at hs
    have hs := Option.some.inj hs
    injection hs with hs1 hs2
    injection hs2 with hs2 hs3
    subst hs1 hs2 hs3
    simp only [Bool.and_eq_true] at hc
    obtain ⟨⟨⟨hst, hgg⟩, hsz⟩, hle⟩ := hc
    have e : g = g' := Nat.eq_of_beq_eq_true hgg
    subst e
    obtain rfl : sz = 1 := Nat.eq_of_beq_eq_true hsz
    have hle := Nat.le_of_ble_eq_true hle
    obtain ⟨hlt, _, cur, fr, hcur, _, hcl, _, hcell⟩ := h.block hk hb
    have hv : Vw E w b 0 blk.cells := fun j d hj => by
      obtain ⟨v, hv1, hv2, hv3⟩ := hcell j d hj
      exact ⟨v, by rw [Nat.zero_add, cell_of_row w b j cur blk.elem fr hcur]; exact hv1, hv2, hv3⟩
    obtain ⟨us, hl, hrg, h1, hd⟩ := hv.seg hle
    rw [Nat.zero_add] at hrg
    have hcells : (bif Nat.beq off 0 && Nat.beq (n' * 1) blk.cells.length then blk.cells else (blk.cells.drop off).take (n' * 1)) = (blk.cells.drop off).take (n' * 1) := by
      cases hq : (Nat.beq off 0 && Nat.beq (n' * 1) blk.cells.length) with
      | false => rfl
      | true =>
        rw [Bool.and_eq_true] at hq
        have e1 := Nat.eq_of_beq_eq_true hq.1
        have e2 := Nat.eq_of_beq_eq_true hq.2
        subst e1
        rw [cond_true, List.drop_zero, e2, List.take_length]
    rw [hcells]
    have hof : off' = off := by
      rcases hoff with q | ⟨q, _⟩
      · exact q
      · omega
    subst hof
    exact ⟨_, _, us, rfl, by omega, by rw [List.length_take, List.length_drop]; omega, fun j v hv => by rw [Addr.add_mid]; exact hrg j v hv, h1, hd⟩
  | refn k g sz hg hb =>
    simp only [srcD] at hs
    cases hk : s.at k with
    | none => rw [hk] at hs; cases hs
    | some p => rw [hk] at hs; cases hs; omega
  | _ => cases hs
def evCopy (T : TT) (s : AS) (ts : Array TypeId) (xs : Array Operand) : Ev :=
  match ts.toList, xs.toList with
  | [t, tx], [x, y] => match T.get t, T.get tx, evO s x, evO s y with
    | some ⟨.slice e, _, _, _, _⟩, some ti, some (.ref k g off n 1), some dy => match T.get e, s.at k, srcD s 1 ti.desc dy with
      | some ei, some p, some (c2, n2, news) =>
        .cond (c2 && isSliceT ti.desc && Nat.beq ei.size 1 && Nat.beq g p.1 && Nat.blt 0 (Nat.min n2 n) && Nat.ble (off + n) p.2.cells.length)
          (.list (setSeg p.2.cells off (news.take (Nat.min n2 n))) fun cs => .ok (some (.v (.int .i64 ((Nat.min n2 n : Nat) : Int)))) [(k, some (g, .b ⟨cs, p.2.elem, p.2.row⟩))])
      | _, _, _ => .stuck
    | _, _, _, _ => .stuck
  | _, _ => .stuck
theorem copy_sound (hT : T.ok P) (h : SR cx E s a w) {c : Call} (ho : o.op = .call c) (hc : c.callee = .builtin .copy) {v : Option D} {up : Up} (he : (evCopy T s c.argTypes c.args).run v up) : Post P cx E s a w i o v up := by
  unfold evCopy at he
  split at he
  case h_2 => exact he.elim
  case h_1 t tx x y hts hxs =>
  split at he
  case h_2 => exact he.elim
  case h_1 e z1 z2 z3 z4 ti k g off n dy hti htx hx hy =>
  split at he
  case h_2 => exact he.elim
  case h_1 ei p c2 n2 news hei hp hsrc =>
  obtain ⟨g', blk⟩ := p
  obtain ⟨hcond, rfl, rfl⟩ := he
  simp only [Bool.and_eq_true] at hcond
  obtain ⟨⟨⟨⟨⟨hc2, hsl⟩, hsz⟩, hgg⟩, h0⟩, hle⟩ := hcond
  obtain rfl : g = g' := Nat.eq_of_beq_eq_true hgg
  have hsz := Nat.eq_of_beq_eq_true hsz
  have h0 : 0 < Nat.min n2 n := Nat.le_of_ble_eq_true h0
  have hle := Nat.le_of_ble_eq_true hle
  have hm1 : Nat.min n2 n ≤ n2 := Nat.min_le_left _ _
  have hm2 : Nat.min n2 n ≤ n := Nat.min_le_right _ _
  have e1 : c.argTypes = #[t, tx] := by apply Array.ext'; simpa using hts
  have e2 : c.args.map a.eval = #[a.eval x, a.eval y] := by apply Array.ext'; rw [Array.toList_map, hxs]; rfl
  have run0 : ∀ {u : Value} {w' : World}, (Builtin.copy_ #[t, tx] o.type #[a.eval x, a.eval y]).run P w = .ok u w' → (execOp a.eval o).run P w = .ok (.value u) w' := fun hu => by
    unfold execOp
    simp only [ho, resolve, hc, Sem.run_bind, Sem.run_pure, Result.andThen_ok, invoke, builtin, e1, e2, hu]
  have hrx := h.eval hx
  have hry := h.eval hy
  generalize hux : a.eval x = ux at hrx run0
  generalize huy : a.eval y = uy at hry run0
  obtain ⟨ad, cap, us, rfl, hul, hnl, hsr, hone, hrd⟩ := src_at h hry hsrc hc2 hsl (by omega)
  obtain ⟨hu1, hzl, ⟨j0, hj1, hj2, hj3, hj4⟩, _⟩ := hT e ei hei
  cases hrx with
  | refn k g sz hg hb =>
    omega
  | ref _ _ _ _ _ cc b off' tt mm hg hb hc3 hoff hsh hmm =>
  have hof : off' = off := by
    rcases hoff with q | ⟨q, _⟩
    · exact q
    · omega
  subst hof
  obtain ⟨hlt, hown, cur, fr, hcur, hfz, hcl, hrow, hcell⟩ := h.block hp hb
  have hcs : (us.take (Nat.min n2 n)).length = Nat.min n2 n := by rw [List.length_take]; omega
  have hns : (news.take (Nat.min n2 n)).length = Nat.min n2 n := by rw [List.length_take]; omega
  have hfit : ∀ j, j < (us.take (Nat.min n2 n)).length → off' + j < cur.size := fun j hj => by rw [hcs] at hj; omega
  have hr := run_copy_cells (P := P) w t tx o.type e b off' n cc ad n2 cap (us.take (Nat.min n2 n)) (hT t _ hti).1 (by rw [hj1]; simp only [Option.map_some, hj3, hsz]) hcs
    (fun j v hv => by
      rw [List.getElem?_take] at hv
      split at hv
      · exact hsr j v hv
      · cases hv)
    (fun j hj => by rw [cell_of_row w b _ cur blk.elem fr hcur, Array.getElem?_eq_getElem (hfit j hj)]; rfl)
    (fun j hj => frozen_fr w b _ cur blk.elem fr hcur hfz (hfit j hj))
    (fun v hv => hone v (List.mem_of_mem_take hv))
  obtain ⟨cur', hcur', hsz', hget'⟩ := setCells_get w b off' cur blk.elem fr (us.take (Nat.min n2 n)) hcur (by rw [hcs]; omega)
  obtain ⟨hgr, hz⟩ := setCells_grown b (us.take (Nat.min n2 n)) off' w
  have hst := h.store (i := i) hp hb (setSeg blk.cells off' (news.take (Nat.min n2 n))) (setSeg_length (by rw [hns]; omega)) hgr hz cur cur' fr hcur hcur' hsz' (fun j e hj => by
    rw [setSeg_get (by rw [hns]; omega), hns] at hj
    rw [hget', hcs]
    split at hj
    · rename_i hr
      rw [if_pos hr]
      have hj1 := (List.getElem?_eq_some_iff.1 hj).1
      rw [hns] at hj1
      have hu : (us.take (Nat.min n2 n))[j - off']? = some (us.take (Nat.min n2 n))[j - off'] := List.getElem?_eq_getElem (by rw [hcs]; omega)
      refine ⟨_, hu, hone _ (List.mem_of_mem_take (List.getElem_mem _)), ?_⟩
      rw [List.getElem?_take] at hu hj
      rw [if_pos (by omega)] at hu hj
      exact hrd _ _ _ hj hu
    · rename_i hr
      rw [if_neg hr]
      exact hcell _ _ hj)
  refine ⟨_, _, hst.2.1, hst.1, hst.2.2, _, run0 hr, ?_⟩
  rw [hcs]
  exact .v _ rfl
end
end Go.Vx

/- VxK: what an operation comes to, in the abstract: slice literals, make, function values. No program. -/
import Derived.Test.YtegjeagfcfhbeaaVxJ
namespace Go.Vx
set_option linter.unusedVariables false
set_option linter.unusedSimpArgs false
open Go.RowKit Go.Bw
section
variable {P : Program} {cx : Cx} {E : Env} {s : AS} {a : Act} {w : World} {i : Nat} {o : Oper} {T : TT}

/-- The zero value's cells, over and over. -/
def repD (zc : List D) (n : Nat) : List D := (List.range n).map fun j => zc.getD (j % zc.length) default
theorem repD_one (d : D) (n : Nat) : repD [d] n = List.replicate n d := by
  unfold repD
  apply List.ext_getElem?
  intro j
  rcases Nat.lt_or_ge j n with h | h
  · simp [h, Nat.mod_one]
  · simp [h]
theorem range0 {α : Type} (f : Nat → α) : (Array.range 0).map f = #[] := by simp
theorem rep_LR {zc : List D} {z : Array Value} (h : LR E w zc z.toList) (n : Nat) (hn : n = 0 ∨ 0 < zc.length) : LR E w (repD zc n) ((Array.range n).map (z[· % z.size]!)).toList := by
  obtain ⟨h1, h2, h3⟩ := h
  have hz : z.size = zc.length := by simpa using h1
  have key : ∀ j, j < n → ∃ u, z[j % z.size]! = u ∧ u.oneCell' = true ∧ RD E w (zc.getD (j % zc.length) default) u := fun j hj => by
    have hp : 0 < zc.length := by omega
    have hlt : j % zc.length < z.size := by rw [hz]; exact Nat.mod_lt _ hp
    refine ⟨z[j % zc.length], by rw [hz]; simp [hlt], h3 _ (by simp), h2 (j % zc.length) _ _ ?_ (by simp [hlt])⟩
    rw [List.getD_eq_getElem?_getD, List.getElem?_eq_getElem (by omega), Option.getD_some]
  refine ⟨by simp [repD], fun j d u hd hu => ?_, fun u hu => ?_⟩
  · rcases Nat.lt_or_ge j n with hj | hj
    · obtain ⟨u', e, _, hr⟩ := key j hj
      simp [repD, hj] at hd
      simp [hj] at hu
      subst hd
      have : z[j % z.size]! = u := hu
      rw [← this, e]
      simpa using hr
    · simp [repD, hj] at hd
  · simp only [Array.toList_map, List.mem_map] at hu
    obtain ⟨j, hj, rfl⟩ := hu
    have hj : j < n := by simpa using hj
    obtain ⟨u', e, h1', _⟩ := key j hj
    rw [e]; exact h1'

def evBuildSlice (T : TT) (s : AS) (nm ky : Nat) (t : TypeId) (len : Nat) (parts : Array (Nat × Operand)) : Ev :=
  match T.get t, evParts s parts.toList with
  | some ⟨.slice e, _, _, _, _⟩, some ps => match T.get e with
    | some ei => match fillD (fun i => some (i * ei.size, ei.size)) (repD (ofConst ei.zero).cells (len * ei.size)) ps with
      | some cells => .cond (constOk ei.zero && !(ofConst ei.zero).isTup && Nat.ble (len * ei.size) 16777216 && decide (0 < ei.size)) (.ok (some (.ref ky nm 0 len ei.size)) [(ky, some (nm, .b ⟨cells, e, false⟩))])
      | none => .stuck
    | none => .stuck
  | _, _ => .stuck

theorem buildSlice_sound (hT : T.ok P) (h : SR cx E s a w) (hi : i ∉ s.us) {nm ky : Nat} (hg : s.nx + 8 * i ≤ nm ∧ nm < s.nx + 8 * i + 8) {t : TypeId} {len : Nat} {parts : Array (Nat × Operand)} (ho : o.op = .buildSlice t len parts) {v : Option D} {up : Up}
    (he : (evBuildSlice T s nm ky t len parts).run v up) : Post P cx E s a w i o v up := by
  unfold evBuildSlice at he
  split at he
  case h_2 => exact he.elim
  case h_1 e z1 z2 z3 z4 ps hti hps =>
  split at he
  case h_2 => exact he.elim
  case h_1 ei hei =>
  split at he
  case h_2 => exact he.elim
  case h_1 cells hf =>
  obtain ⟨hc, rfl, rfl⟩ := he
  simp only [Bool.and_eq_true, decide_eq_true_eq] at hc
  obtain ⟨⟨⟨hc1, hc2⟩, hc3⟩, hc4⟩ := hc
  have hc3 := Nat.le_of_ble_eq_true hc3
  obtain ⟨p1, p2⟩ := parts_sound h _ _ hps
  obtain ⟨hu, hzl, ⟨j0, hj1, hj2, hj3, hj4⟩, _⟩ := hT e ei hei
  have hz := zero_LR E w hc1 (by simpa using hc2)
  have hzl2 : 0 < (ofConst ei.zero).cells.length := by rw [← hz.1]; simp [hzl, hc4]
  have hrep := rep_LR hz (len * ei.size) (.inr hzl2)
  obtain ⟨us, hus, hl1, hl2, hl3⟩ := fill_sound _ ps _ _ cells _ hrep hf p1 p2
  rw [Array.toArray_toList] at hus
  have hcl : cells.length = len * ei.size := by
    have : ∀ (ps : List (Nat × D)) (ds : List D), fillD (fun i => some (i * ei.size, ei.size)) ds ps = some cells → cells.length = ds.length := by
      intro ps
      induction ps with
      | nil => intro ds hd; cases hd; rfl
      | cons p ps ih =>
        obtain ⟨n, d⟩ := p
        intro ds hd
        simp only [fillD] at hd
        cases hq : (!d.isTup && Nat.beq d.cells.length ei.size && Nat.ble (n * ei.size + d.cells.length) ds.length) with
        | false => rw [hq] at hd; cases hd
        | true =>
          rw [hq] at hd
          simp only [Bool.and_eq_true] at hq
          rw [ih _ hd, setSeg_length (Nat.le_of_ble_eq_true hq.2)]
    rw [this ps _ hf]; simp [repD]
  have hrun : (Instr.buildSlice t len (parts.map fun (n, x) => (n, a.eval x))).run P w = .ok (.slice (some ⟨w.heap.size, 0, none⟩) len len) (w.alloc (.cells us.toArray e)) := by
    have hne : ¬ (2 ^ 24 < len * ei.size) := by
      have : (2 : Nat) ^ 24 = 16777216 := by decide
      omega
    have e3 : (parts.map fun (n, x) => (n, a.eval x)).toList = parts.toList.map fun (n, x) => (n, a.eval x) := by simp
    by_cases h0 : len * ei.size = 0
    · have hus' : Instr.fill (fun i => some (i * ei.size, ei.size)) #[] (parts.toList.map fun (n, x) => (n, a.eval x)) = some us.toArray := by rw [← hus, h0, range0]
      simp only [Instr.buildSlice, Sem.run_bind, TT.underlying hT hti w, Result.andThen_ok, TT.sizeOf hT hei w, gt_iff_lt, hne, if_false, Sem.run_pure, Sem.run_ite, h0, if_true, e3, newRow, newObj, Sem.run]
      rw [range0, hus']
      rfl
    · simp only [Instr.buildSlice, Sem.run_bind, TT.underlying hT hti w, Result.andThen_ok, TT.sizeOf hT hei w, gt_iff_lt, hne, if_false, Sem.run_pure, Sem.run_ite, h0, TT.zeroValue hT hei w, e3, hus, newRow, newObj, Sem.run]
      rfl
  refine Post.block h hi hg e cells us false (0, 0) (NoFr.zero _) (by omega) (fun _ => hl1) (fun j d hj => ?_) _ (.slice (some ⟨w.heap.size, 0, none⟩) len len) ?_ (fun E' hn hp => ?_)
  · have hlt : j < us.length := by rw [hl1]; exact (List.getElem?_eq_some_iff.1 hj).1
    exact ⟨us[j], by simp [hlt], hl3 _ (List.getElem_mem hlt), hl2 j d _ hj (by simp [hlt])⟩
  · unfold execOp
    simp only [ho, Sem.run_bind, hrun, Result.andThen_ok, Sem.run_pure]
  · have hle : len ≤ len * ei.size := Nat.le_mul_of_pos_right _ hc4
    refine .ref ky nm 0 len ei.size len w.heap.size 0 e _ hn hp ⟨Nat.le_refl _, by unfold maxI; omega⟩ (.inl rfl) (shape_cells (cell_of_alloc w _)) ?_
    simp [hl1, hcl]

/-- make: what stands behind the length is not known. -/
def evMake (T : TT) (s : AS) (nm ky : Nat) (t : TypeId) (l c : Operand) : Ev :=
  match T.get t, evO s l, evO s c with
  | some ⟨.slice e, _, _, _, _⟩, some (.v (.int _ l)), some (.v (.int _ c)) => match T.get e with
    | some ei => .cond (decide (0 ≤ l) && decide (l ≤ c) && constOk ei.zero && !(ofConst ei.zero).isTup && decide (0 < ei.size) && decide (0 < ei.bytes) && decide (ei.bytes * c ≤ 140737488355328))
        (.ok (some (.ref ky nm 0 l.toNat ei.size)) [(ky, some (nm, .b ⟨repD (ofConst ei.zero).cells (l.toNat * ei.size), e, true⟩))])
    | none => .stuck
  | _, _, _ => .stuck
theorem make_sound (hT : T.ok P) (h : SR cx E s a w) (hi : i ∉ s.us) {nm ky : Nat} (hg : s.nx + 8 * i ≤ nm ∧ nm < s.nx + 8 * i + 8) {t : TypeId} {l c : Operand} (ho : o.op = .makeSlice t l c) {v : Option D} {up : Up} (he : (evMake T s nm ky t l c).run v up) :
    Post P cx E s a w i o v up := by
  unfold evMake at he
  split at he
  case h_2 => exact he.elim
  case h_1 e z1 z2 z3 z4 kl zl kc zc hti hl hc0 =>
  split at he
  case h_2 => exact he.elim
  case h_1 ei hei =>
  obtain ⟨hc, rfl, rfl⟩ := he
  simp only [Bool.and_eq_true, decide_eq_true_eq] at hc
  obtain ⟨⟨⟨⟨⟨⟨h0, h1⟩, hz1⟩, hz2⟩, hsz⟩, hby⟩, hfit⟩ := hc
  have hrl := h.eval hl
  have hrc := h.eval hc0
  generalize hul : a.eval l = ul at hrl
  generalize huc : a.eval c = uc at hrc
  cases hrl; cases hrc
  obtain ⟨hu, hzl, ⟨j0, hj1, hj2, hj3, hj4⟩, _⟩ := hT e ei hei
  obtain ⟨n, rfl⟩ := Int.eq_ofNat_of_zero_le h0
  obtain ⟨m, rfl⟩ := Int.eq_ofNat_of_zero_le (Int.le_trans h0 h1)
  have hnm : n ≤ m := by omega
  have hm : m ≤ 140737488355328 := by
    have : m ≤ ei.bytes * m := Nat.le_mul_of_pos_left _ hby
    have hf : ei.bytes * m ≤ 140737488355328 := by
      have h9 : ((ei.bytes * m : Nat) : Int) ≤ 140737488355328 := by rw [Int.natCast_mul]; exact hfit
      omega
    omega
  have hz := zero_LR E w hz1 (by simpa using hz2)
  have hzl2 : 0 < (ofConst ei.zero).cells.length := by rw [← hz.1]; simp [hzl, hsz]
  obtain ⟨q1, q2, q3⟩ := rep_LR hz (m * ei.size) (.inr hzl2)
  have hrun : (Instr.makeSlice t (.int kl (n : Int)) (.int kc (m : Int))).run P w = .ok (.slice (some ⟨w.heap.size, 0, none⟩) n m) (w.alloc (.cells ((Array.range (m * ei.size)).map (ei.zero.cells[· % ei.zero.cells.size]!)) e)) := by
    have w1 : IntKind.i64.wrap (n : Int) = (n : Int) := by rw [IntKind.wrap_i64]; omega
    have w2 : IntKind.i64.wrap (m : Int) = (m : Int) := by rw [IntKind.wrap_i64]; omega
    have hti' : (typeInfo e).run P w = .ok j0 w := by
      unfold typeInfo
      show (match P.info? e with | some i => (Pure.pure i : Sem TypeInfo) | none => stuck _).run P w = _
      rw [hj1]; rfl
    have hask : ∀ k, (askRoom k).run P w = .ok () w := fun k => by unfold askRoom; split <;> rfl
    have hb1 : (decide ((m : Int) < 0) || decide ((j0.bytes : Int) * (m : Int) > 2 ^ 48)) = false := by
      rw [hj4]
      have : (2 : Int) ^ 48 = 281474976710656 := by decide
      simp only [Bool.or_eq_false_iff, decide_eq_false_iff_not]
      omega
    have hb2 : (decide ((n : Int) < 0) || decide ((n : Int) > (m : Int))) = false := by
      simp only [Bool.or_eq_false_iff, decide_eq_false_iff_not]; omega
    by_cases h0 : m * ei.size = 0
    · simp only [Instr.makeSlice, asInt, asIntOf, Sem.run_bind, TT.underlying hT hti w, Result.andThen_ok, TT.sizeOf hT hei w, Sem.run_pure, hti', w1, w2, hb1, Bool.false_or, hb2, Bool.false_eq_true, if_false, hask, Int.toNat_natCast, Sem.run_ite, h0, if_true, newRow, newObj, Sem.run, range0]
      rfl
    · simp only [Instr.makeSlice, asInt, asIntOf, Sem.run_bind, TT.underlying hT hti w, Result.andThen_ok, TT.sizeOf hT hei w, Sem.run_pure, hti', w1, w2, hb1, Bool.false_or, hb2, Bool.false_eq_true, if_false, hask, Int.toNat_natCast, Sem.run_ite, h0, TT.zeroValue hT hei w, newRow, newObj, Sem.run]
      rfl
  refine Post.block h hi hg e _ ((Array.range (m * ei.size)).map (ei.zero.cells[· % ei.zero.cells.size]!)).toList true (0, 0) (NoFr.zero _) ?_ (fun hh => by cases hh) (fun j d hj => ?_) _ (.slice (some ⟨w.heap.size, 0, none⟩) n m) ?_ (fun E' hn hp => ?_)
  · simp [repD]; exact Nat.mul_le_mul_right _ hnm
  · have hlt : j < n * ei.size := by
      have := (List.getElem?_eq_some_iff.1 hj).1
      simpa [repD] using this
    have hlt2 : j < m * ei.size := Nat.lt_of_lt_of_le hlt (Nat.mul_le_mul_right _ hnm)
    have hj' : (repD (ofConst ei.zero).cells (m * ei.size))[j]? = some d := by
      simp [repD, hlt] at hj
      simp [repD, hlt2, hj]
    have hlt3 : j < ((Array.range (m * ei.size)).map (ei.zero.cells[· % ei.zero.cells.size]!)).toList.length := by simpa using hlt2
    exact ⟨_, List.getElem?_eq_getElem hlt3, q3 _ (List.getElem_mem hlt3), q2 j d _ hj' (List.getElem?_eq_getElem hlt3)⟩
  · unfold execOp
    simp only [ho, hul, huc, Sem.run_bind, hrun, Result.andThen_ok, Sem.run_pure, Array.toArray_toList]
  · refine .ref ky nm 0 n ei.size m w.heap.size 0 e _ hn hp ⟨hnm, by unfold maxI; omega⟩ (.inl rfl) (shape_cells (cell_of_alloc w _)) ?_
    simp

/-! ### function values -/
def evList (s : AS) : List Operand → Option (List D)
  | [] => some []
  | x :: r => match evO s x, evList s r with
    | some d, some l => some (d :: l)
    | _, _ => none
theorem list_sound (h : SR cx E s a w) : ∀ (xs : List Operand) (ds : List D), evList s xs = some ds → (xs.map a.eval).length = ds.length ∧ ∀ (j : Nat) d u, ds[j]? = some d → (xs.map a.eval)[j]? = some u → RD E w d u
  | [], ds, hd => by cases hd; exact ⟨rfl, fun j p q hp => by simp at hp⟩
  | x :: r, ds, hd => by
    simp only [evList] at hd
    split at hd
    case h_2 => cases hd
    case h_1 d l hx hl =>
    cases hd
    obtain ⟨h1, h2⟩ := list_sound h r l hl
    refine ⟨by simp only [List.map_cons, List.length_cons, h1], fun j p q hp hq => ?_⟩
    cases j with
    | zero => simp at hp hq; subst hp hq; exact h.eval hx
    | succ j => exact h2 j p q (by simpa using hp) (by simpa using hq)

def evFunc (s : AS) (f : Fn) (fi ca : Array Operand) : Ev :=
  match evList s fi.toList, evList s ca.toList with
  | some l, some m => .ok (some (.fn f l m)) []
  | _, _ => .stuck
theorem func_sound (h : SR cx E s a w) {f : Fn} {fi ca : Array Operand} (ho : o.op = .makeFunc f fi ca) {v : Option D} {up : Up} (he : (evFunc s f fi ca).run v up) : Post P cx E s a w i o v up := by
  unfold evFunc at he
  split at he
  case h_2 => exact he.elim
  case h_1 l m hl hm =>
  obtain ⟨rfl, rfl⟩ := he
  obtain ⟨a1, a2⟩ := list_sound h _ _ hl
  obtain ⟨b1, b2⟩ := list_sound h _ _ hm
  refine .pure h (u := .func f (fi.toList.map a.eval).toArray (ca.toList.map a.eval).toArray) ?_ (.fn f l m _ _ a1 b1 a2 b2)
  unfold execOp
  simp only [ho, Instr.makeFunc, Sem.run_bind, Sem.run_pure, Result.andThen_ok]
  have e1 : (fi.toList.map a.eval).toArray = fi.map a.eval := by apply Array.ext'; simp
  have e2 : (ca.toList.map a.eval).toArray = ca.map a.eval := by apply Array.ext'; simp
  rw [e1, e2]

/-! ### what an interface holds -/
def evTA (T : TT) (s : AS) (x : Operand) (asserted : TypeId) (ok : Bool) : Ev :=
  match T.get asserted, evO s x with
  | some ti, some (.ifc t d) => .cond (!isIface ti.desc) (bif Nat.beq t asserted then (bif ok then .ok (some (.tup [d, .v (.bool true)])) [] else .ok (some d) [])
      else .cond (ok && constOk ti.zero) (.ok (some (.tup [ofConst ti.zero, .v (.bool false)])) []))
  | _, _ => .stuck
theorem ta_sound (hT : T.ok P) (h : SR cx E s a w) {x : Operand} {xt asserted : TypeId} {ok : Bool} (ho : o.op = .typeAssert x xt asserted ok) {v : Option D} {up : Up} (he : (evTA T s x asserted ok).run v up) : Post P cx E s a w i o v up := by
  unfold evTA at he
  split at he
  case h_2 => exact he.elim
  case h_1 ti t d hti hx =>
  obtain ⟨hc, he⟩ := he
  have hr := h.eval hx
  generalize hux : a.eval x = ux at hr
  cases hr with
  | ifc _ _ u hr =>
  have hund := TT.underlying hT hti w
  have hni : ∀ ms, ti.desc ≠ .interface ms := fun ms e => by rw [e] at hc; simp [isIface] at hc
  have run1 : t = asserted → (execOp a.eval o).run P w = .ok (.value (if ok then .tuple #[u, .bool true] else u)) w := fun e => by
    subst e
    unfold execOp
    simp only [ho, hux, Instr.typeAssert, Sem.run_bind, hund, Result.andThen_ok]
    cases hd : ti.desc <;> first | exact absurd hd (hni _) | (simp only [if_true, Sem.run_pure, Result.andThen_ok])
  cases hb : Nat.beq t asserted with
  | true =>
    have e := Nat.eq_of_beq_eq_true hb
    simp only [hb, cond_true] at he
    cases ok with
    | true =>
      simp only [cond_true] at he
      obtain ⟨rfl, rfl⟩ := he
      refine .pure h (run1 e) (.tup _ [u, .bool true] rfl fun j d' u' a1 a2 => ?_)
      match j with
      | 0 => simp at a1 a2; subst a1 a2; exact hr
      | 1 => simp at a1 a2; subst a1 a2; exact .v _ rfl
      | j + 2 => simp at a1
    | false =>
      simp only [cond_false] at he
      obtain ⟨rfl, rfl⟩ := he
      exact .pure h (run1 e) hr
  | false =>
    simp only [hb, cond_false] at he
    obtain ⟨hk, rfl, rfl⟩ := he
    rw [Bool.and_eq_true] at hk
    obtain ⟨rfl, hco⟩ := hk
    have hne : t ≠ asserted := fun e => by subst e; rw [Nat.beq_refl] at hb; cases hb
    refine .pure h (u := .tuple #[ti.zero, .bool false]) ?_ (.tup _ [ti.zero, .bool false] rfl fun j d' u' a1 a2 => ?_)
    · unfold execOp
      simp only [ho, hux, Instr.typeAssert, Sem.run_bind, hund, Result.andThen_ok]
      cases hd : ti.desc <;> first | exact absurd hd (hni _) | (simp only [hne, if_false, if_true, Sem.run_bind, TT.zeroValue hT hti w, Sem.run_pure, Result.andThen_ok])
    · match j with
      | 0 => simp at a1 a2; subst a1 a2; exact RD.const E w _ hco
      | 1 => simp at a1 a2; subst a1 a2; exact .v _ rfl
      | j + 2 => simp at a1
end
end Go.Vx

/- VxF: what an operation comes to, in the abstract: places, parts, numbers, texts. No program. -/
import Derived.Test.YtegjeagfcfhbeaaVxE
namespace Go.Vx
set_option linter.unusedVariables false
set_option linter.unusedSimpArgs false
open Go.RowKit Go.Bw
section
variable {P : Program} {cx : Cx} {E : Env} {s : AS} {a : Act} {w : World} {i : Nat} {o : Oper} {T : TT}

/-! ### move, assign, pick, extract, makeInterface -/
def evMove (s : AS) (x : Operand) : Ev :=
  match evO s x with
  | some d => .ok (some d) []
  | none => .stuck
theorem move_sound (h : SR cx E s a w) {x : Operand} (ho : o.op = .move x ∨ o.op = .assign x) {v : Option D} {up : Up} (he : (evMove s x).run v up) : Post P cx E s a w i o v up := by
  unfold evMove at he
  split at he
  case h_2 => exact he.elim
  case h_1 d hx =>
  obtain ⟨rfl, rfl⟩ := he
  refine .pure h ?_ (h.eval hx)
  unfold execOp
  rcases ho with ho | ho <;> simp only [ho, Sem.run_pure]

/-- A pointer that is asked whether it is nil: those that are told are none. -/
def evNilC (s : AS) (x : Operand) : Ev :=
  match evO s x with
  | some (.ptr k g off) => .ok (some (.ptr k g off)) []
  | _ => .stuck
theorem nilC_sound (h : SR cx E s a w) {x : Operand} (ho : o.op = .nilCheck x) {v : Option D} {up : Up} (he : (evNilC s x).run v up) : Post P cx E s a w i o v up := by
  unfold evNilC at he
  split at he
  case h_2 => exact he.elim
  case h_1 k g off hx =>
  obtain ⟨rfl, rfl⟩ := he
  have hr := h.eval hx
  refine .pure h ?_ (h.eval hx)
  generalize huc : a.eval x = uc at hr
  cases hr
  unfold execOp
  simp only [ho, huc, Sem.run_pure]

def evPick (s : AS) (c x y : Operand) : Ev :=
  match evO s c with
  | some (.v (.bool true)) => evMove s x
  | some (.v (.bool false)) => evMove s y
  | _ => .stuck
theorem pick_sound (h : SR cx E s a w) {c x y : Operand} (ho : o.op = .pick c x y) {v : Option D} {up : Up} (he : (evPick s c x y).run v up) : Post P cx E s a w i o v up := by
  have key : ∀ (b : Bool) (z : Operand), evO s c = some (.v (.bool b)) → (if b then x else y) = z → (evMove s z).run v up → Post P cx E s a w i o v up := by
    intro b z hc hz he
    unfold evMove at he
    split at he
    case h_2 => exact he.elim
    case h_1 d hx =>
    obtain ⟨rfl, rfl⟩ := he
    have hr := h.eval hc
    generalize huc : a.eval c = uc at hr
    cases hr
    refine .pure h ?_ (h.eval hx)
    unfold execOp
    simp only [ho, huc, asBool, Sem.run_bind, Sem.run_pure, Result.andThen_ok]
    rw [← hz]; cases b <;> rfl
  unfold evPick at he
  split at he
  case h_3 => exact he.elim
  case h_1 hc => exact key true x hc rfl he
  case h_2 hc => exact key false y hc rfl he

def evExtract (s : AS) (x : Operand) (n : Nat) : Ev :=
  match evO s x with
  | some (.tup ds) => .opt ds[n]? fun d => .ok (some d) []
  | _ => .stuck
theorem extract_sound (h : SR cx E s a w) {x : Operand} {n : Nat} (ho : o.op = .extract x n) {v : Option D} {up : Up} (he : (evExtract s x n).run v up) : Post P cx E s a w i o v up := by
  unfold evExtract at he
  split at he
  case h_2 => exact he.elim
  case h_1 ds hx =>
  obtain ⟨d, hd, rfl, rfl⟩ := he
  have hr := h.eval hx
  generalize huc : a.eval x = uc at hr
  cases hr with
  | tup _ us hlen hds =>
  have hlt : n < us.length := by rw [hlen]; exact (List.getElem?_eq_some_iff.1 hd).1
  refine .pure h (u := us[n]) ?_ (hds n d _ hd (List.getElem?_eq_getElem hlt))
  unfold execOp
  simp only [ho, huc, Instr.extract, List.getElem?_toArray, List.getElem?_eq_getElem hlt, Sem.run_bind, Sem.run_pure, Result.andThen_ok]

def isIface : TypeDesc → Bool
  | .interface _ => true
  | _ => false
def evIface (T : TT) (s : AS) (t : TypeId) (x : Operand) : Ev :=
  match T.get t, evO s x with
  | some ti, some d => .cond (!isIface ti.desc) (.ok (some (.ifc t d)) [])
  | _, _ => .stuck
theorem iface_sound (hT : T.ok P) (h : SR cx E s a w) {t : TypeId} {x : Operand} (ho : o.op = .makeInterface t x) {v : Option D} {up : Up} (he : (evIface T s t x).run v up) : Post P cx E s a w i o v up := by
  unfold evIface at he
  split at he
  case h_2 => exact he.elim
  case h_1 ti d hti hx =>
  obtain ⟨hc, rfl, rfl⟩ := he
  refine .pure h (u := .iface t (a.eval x)) ?_ (.ifc _ _ _ (h.eval hx))
  unfold execOp
  simp only [ho, Instr.makeInterface, Sem.run_bind, TT.underlying hT hti w, Result.andThen_ok]
  cases hd : ti.desc <;> simp [hd, isIface] at hc ⊢

/-! ### places -/
def shiftD : D → Nat → Option D
  | .ptr k g off, n => some (.ptr k g (off + n))
  | .ep cells off, n => some (.ep cells (off + n))
  | _, _ => none
theorem shift_sound {d d' : D} {n : Nat} {u : Value} (h : RD E w d u) (hd : shiftD d n = some d') : ∃ b off, u = .pointer (some ⟨b, off, none⟩) ∧ RD E w d' (.pointer (some ⟨b, off + n, none⟩)) := by
  cases h with
  | ptr k g off b hg hb => cases hd; exact ⟨b, off, rfl, .ptr _ _ _ _ hg hb⟩
  | ep cells off b o us hlen hd' h1 hb ho hr => cases hd; exact ⟨b, o + off, rfl, by rw [Nat.add_assoc]; exact .ep cells (off + n) b o us hlen hd' h1 hb ho hr⟩
  | _ => cases hd

def evFieldAddr (T : TT) (s : AS) (t : TypeId) (x : Operand) (f : Nat) : Ev :=
  match T.get t with
  | some ⟨.struct fs, _, _, _, _⟩ => match fs.toList[f]?, evO s x with
    | some fd, some d => match T.get fd.type with
      | some fi => .cond (!Nat.beq fi.size 0) (.opt (shiftD d fd.offset) fun d' => .ok (some d') [])
      | none => .stuck
    | _, _ => .stuck
  | _ => .stuck
theorem fieldAddr_sound (hT : T.ok P) (h : SR cx E s a w) {t : TypeId} {x : Operand} {f : Nat} (ho : o.op = .fieldAddr t x f) {v : Option D} {up : Up} (he : (evFieldAddr T s t x f).run v up) : Post P cx E s a w i o v up := by
  unfold evFieldAddr at he
  split at he
  case h_2 => exact he.elim
  case h_1 fs z1 z2 z3 z4 hti =>
  split at he
  case h_2 => exact he.elim
  case h_1 fd d hf hx =>
  split at he
  case h_2 => exact he.elim
  case h_1 fi hfi =>
  obtain ⟨hz, d', hd', rfl, rfl⟩ := he
  obtain ⟨b, off, hu, hr⟩ := shift_sound (h.eval hx) hd'
  refine .pure h ?_ hr
  have hf' : fs[f]? = some fd := by simpa using hf
  have hz' : fi.size ≠ 0 := fun e => by rw [e] at hz; cases hz
  unfold execOp
  simp only [ho, hu, Instr.fieldAt, Sem.run_bind, TT.underlying hT hti w, Result.andThen_ok, hf', Instr.sureAddr, Sem.run_pure, fieldPlace, TT.sizeOf hT hfi w, hz', if_false, Addr.add_mid, Sem.run_ite]

def segD (ti : TI) (cs : List D) (off : Nat) : Ev :=
  bif ti.desc.isRow then .cond (Nat.ble (off + ti.size) cs.length) (.list ((cs.drop off).take ti.size) fun cs => .ok (some (.agg cs)) []) else .opt cs[off]? fun d => .ok (some d) []
theorem seg_sound (hT : T.ok P) (h : SR cx E s a w) {t : TypeId} {ti : TI} (hti : T.get t = some ti) {cs : List D} {us : List Value} (hr : RD E w (.agg cs) (.agg us.toArray)) {off : Nat}
    (hrun : (execOp a.eval o).run P w = ((part t us.toArray off).run P w).andThen fun u w' => .ok (.value u) w') {v : Option D} {up : Up} (he : (segD ti cs off).run v up) : Post P cx E s a w i o v up := by
  generalize hu : (Value.agg us.toArray) = u at hr
  cases hr with
  | agg _ us' hlen hd h1 =>
  have hus : us = us' := by have := Value.agg.inj hu; simpa using this
  subst hus
  unfold segD at he
  cases hrow : ti.desc.isRow with
  | true =>
    simp only [hrow, cond_true] at he
    obtain ⟨hle, rfl, rfl⟩ := he
    have hle := Nat.le_of_ble_eq_true hle
    refine .pure h (u := .agg ((us.drop off).take ti.size).toArray) ?_ (.agg _ _ (by simp; omega) (fun j d u hj hk => ?_) (fun u hu => h1 u (List.mem_of_mem_drop (List.mem_of_mem_take hu))))
    · rw [hrun]
      simp only [part, Sem.run_bind, isAgg_run hT hti w, Result.andThen_ok, hrow, if_true, TT.sizeOf hT hti w, Sem.run_pure]
      simp [List.extract_eq_take_drop]
    · rw [List.getElem?_take] at hj hk
      split at hj
      · rename_i hlt
        rw [if_pos hlt, List.getElem?_drop] at hk
        rw [List.getElem?_drop] at hj
        exact hd _ _ _ hj hk
      · cases hj
  | false =>
    simp only [hrow, cond_false] at he
    obtain ⟨d', hd', rfl, rfl⟩ := he
    have hlt : off < us.length := by rw [hlen]; exact (List.getElem?_eq_some_iff.1 hd').1
    refine .pure h (u := us[off]) ?_ (hd _ _ _ hd' (List.getElem?_eq_getElem hlt))
    rw [hrun]
    simp only [part, Sem.run_bind, isAgg_run hT hti w, Result.andThen_ok, hrow, Bool.false_eq_true, if_false, List.getElem?_toArray, List.getElem?_eq_getElem hlt, Sem.run_pure]

def evField (T : TT) (s : AS) (t : TypeId) (x : Operand) (f : Nat) : Ev :=
  match T.get t with
  | some ⟨.struct fs, _, _, _, _⟩ => match fs.toList[f]?, evO s x with
    | some fd, some (.agg cs) => match T.get fd.type with
      | some fi => segD fi cs fd.offset
      | none => .stuck
    | _, _ => .stuck
  | _ => .stuck
theorem field_sound (hT : T.ok P) (h : SR cx E s a w) {t : TypeId} {x : Operand} {f : Nat} (ho : o.op = .field t x f) {v : Option D} {up : Up} (he : (evField T s t x f).run v up) : Post P cx E s a w i o v up := by
  unfold evField at he
  split at he
  case h_2 => exact he.elim
  case h_1 fs z1 z2 z3 z4 hti =>
  split at he
  case h_2 => exact he.elim
  case h_1 fd cs hf hx =>
  split at he
  case h_2 => exact he.elim
  case h_1 fi hfi =>
  have hr := h.eval hx
  have hr0 := hr
  generalize hux : a.eval x = ux at hr hr0
  cases hr with
  | agg _ us hlen hd h1 =>
  refine seg_sound hT h hfi hr0 ?_ he
  have hf' : fs[f]? = some fd := by simpa using hf
  unfold execOp
  simp only [ho, hux, Instr.field, Sem.run_bind, TT.underlying hT hti w, Result.andThen_ok, hf', asAgg, Sem.run_pure]

/-- n elements are seen. -/
def evIndexAddr (T : TT) (s : AS) (t : TypeId) (x ix : Operand) : Ev :=
  match T.get t, evO s ix, evO s x with
  | some ti, some (.v (.int _ z)), some d => match ti.desc, d with
    | .slice e, .ref k g off n _ => match T.get e with
      | some ei => .cond (decide (0 ≤ z) && decide (z < (n : Int))) (.ok (some (.ptr k g (off + z.toNat * ei.size))) [])
      | none => .stuck
    | .slice e, .sl _ n size cells => match T.get e with
      | some ei => .cond (decide (0 ≤ z) && decide (z < (n : Int)) && Nat.beq size ei.size) (.ok (some (.ep cells (z.toNat * size))) [])
      | none => .stuck
    | .array len e, d => match T.get e with
      | some ei => .cond (decide (0 ≤ z) && decide (z < (len : Int))) (.opt (shiftD d (z.toNat * ei.size)) fun d' => .ok (some d') [])
      | none => .stuck
    | _, _ => .stuck
  | _, _, _ => .stuck

theorem and_dec {p q : Prop} [Decidable p] [Decidable q] (h : (decide p && decide q) = true) : p ∧ q := by simpa using h

theorem indexAddr_sound (hT : T.ok P) (h : SR cx E s a w) {t : TypeId} {x ix : Operand} (ho : o.op = .indexAddr t x ix) {v : Option D} {up : Up} (he : (evIndexAddr T s t x ix).run v up) : Post P cx E s a w i o v up := by
  unfold evIndexAddr at he
  split at he
  case h_2 => exact he.elim
  case h_1 ti kz z d hti hix hx =>
  have hrx := h.eval hx
  have hri := h.eval hix
  generalize hux : a.eval x = ux at hrx
  generalize hui : a.eval ix = ui at hri
  cases hri with
  | v _ _ =>
  have hund := TT.underlying hT hti w
  split at he
  case h_1 e k g off n sz hd0 =>
    split at he
    case h_2 => exact he.elim
    case h_1 ei hei =>
    obtain ⟨hc, rfl, rfl⟩ := he
    obtain ⟨h0, h1⟩ := and_dec hc
    cases hrx with
    | ref _ _ _ _ _ c b off' tt m hg hb hc2 hoff hsh hm =>
      obtain rfl : off' = off := by omega
      refine .pure h ?_ (.ptr k g _ b hg hb)
      unfold execOp
      rw [hd0] at hund
      simp only [ho, hux, hui, Instr.indexAt, asIntOf, Sem.run_bind, Sem.run_pure, Result.andThen_ok, hund, Sem.run_ite, h0, h1, and_self, if_true, TT.sizeOf hT hei w, Addr.add_mid]
    | refn _ _ _ hg hb => omega
  case h_2 e nn n size cells hd0 =>
    split at he
    case h_2 => exact he.elim
    case h_1 ei hei =>
    obtain ⟨hc, rfl, rfl⟩ := he
    rw [Bool.and_eq_true] at hc
    obtain ⟨h0, h1⟩ := and_dec hc.1
    have hsz : size = ei.size := Nat.eq_of_beq_eq_true hc.2
    cases hrx with
    | sl _ _ _ _ ad c us hlen hd hone hn hs hc2 hnil hr =>
      rcases hr with hr | ⟨b, off, ha, hb, hown, hcell⟩
      · omega
      · subst ha
        refine .pure h ?_ (.ep cells _ b off us hlen hd hone hb hown hcell)
        unfold execOp
        rw [hd0] at hund
        simp only [ho, hux, hui, Instr.indexAt, asIntOf, Sem.run_bind, Sem.run_pure, Result.andThen_ok, hund, Sem.run_ite, h0, h1, and_self, if_true, TT.sizeOf hT hei w, Addr.add_mid, hsz]
  case h_3 len e d hd0 =>
    split at he
    case h_2 => exact he.elim
    case h_1 ei hei =>
    obtain ⟨hc, d', hd', rfl, rfl⟩ := he
    obtain ⟨h0, h1⟩ := and_dec hc
    obtain ⟨b, off, hu, hr⟩ := shift_sound hrx hd'
    subst hu
    refine .pure h ?_ hr
    unfold execOp
    rw [hd0] at hund
    simp only [ho, hux, hui, Instr.indexAt, asIntOf, Instr.sureAddr, Sem.run_bind, Sem.run_pure, Result.andThen_ok, hund, Sem.run_ite, h0, h1, and_self, if_true, TT.sizeOf hT hei w, Addr.add_mid]
  case h_4 => exact he.elim

def evIndex (T : TT) (s : AS) (t : TypeId) (x ix : Operand) : Ev :=
  match T.get t, evO s ix, evO s x with
  | some ti, some (.v (.int _ z)), some d => match ti.desc, d with
    | .array len e, .agg cs => match T.get e with
      | some ei => .cond (decide (0 ≤ z) && decide (z < (len : Int))) (segD ei cs (z.toNat * ei.size))
      | none => .stuck
    | .string, .v (.string b) => .cond (decide (0 ≤ z)) (.opt ((b.data.toList[z.toNat]?).map fun c => D.v (.int .u8 c.toNat)) fun d => .ok (some d) [])
    | _, _ => .stuck
  | _, _, _ => .stuck
theorem index_sound (hT : T.ok P) (h : SR cx E s a w) {t : TypeId} {x ix : Operand} (ho : o.op = .index t x ix) {v : Option D} {up : Up} (he : (evIndex T s t x ix).run v up) : Post P cx E s a w i o v up := by
  unfold evIndex at he
  split at he
  case h_2 => exact he.elim
  case h_1 ti kz z d hti hix hx =>
  have hrx := h.eval hx
  have hri := h.eval hix
  generalize hux : a.eval x = ux at hrx
  generalize hui : a.eval ix = ui at hri
  cases hri with
  | v _ _ =>
  have hund := TT.underlying hT hti w
  split at he
  case h_1 len e cs hd0 =>
    split at he
    case h_2 => exact he.elim
    case h_1 ei hei =>
    obtain ⟨hc, he⟩ := he
    obtain ⟨h0, h1⟩ := and_dec hc
    have hrx0 := hrx
    cases hrx with
    | agg _ us hlen hd hone =>
    refine seg_sound hT h hei hrx0 ?_ he
    unfold execOp
    rw [hd0] at hund
    simp only [ho, hux, hui, Instr.index, asIntOf, Sem.run_bind, Sem.run_pure, Result.andThen_ok, hund, Sem.run_ite, h0, h1, and_self, if_true, TT.sizeOf hT hei w]
  case h_2 b hd0 =>
    obtain ⟨hc, d', hd', rfl, rfl⟩ := he
    have h0 := of_decide_eq_true hc
    rw [Option.map_eq_some_iff] at hd'
    obtain ⟨c, hcb, rfl⟩ := hd'
    cases hrx with
    | v _ _ =>
    refine .pure h ?_ (.v (.int .u8 c.toNat) rfl)
    unfold execOp
    rw [hd0] at hund
    have hb : b[z.toNat]? = some c := by
      have : b.data[z.toNat]? = some c := by simpa using hcb
      obtain ⟨hlt, he⟩ := Array.getElem?_eq_some_iff.1 this
      rw [getElem?_pos b z.toNat (by exact hlt)]
      exact congrArg some he
    simp only [ho, hux, hui, Instr.index, asIntOf, Sem.run_bind, Sem.run_pure, Result.andThen_ok, hund, h0, if_true, hb]
  case h_3 => exact he.elim
end
end Go.Vx

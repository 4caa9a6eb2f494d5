/- VxH: what an operation comes to, in the abstract: slices of slices, of texts and of arrays. No program. -/
import Derived.Test.YtegjeagfcfhbeaaVxG
namespace Go.Vx
set_option linter.unusedVariables false
set_option linter.unusedSimpArgs false
open Go.RowKit Go.Bw
section
variable {P : Program} {cx : Cx} {E : Env} {s : AS} {a : Act} {w : World} {i : Nat} {o : Oper} {T : TT}

/-- A bound, where there is one. -/
def bnd (s : AS) : Option Operand → Option (Option Int)
  | none => some none
  | some x => match evO s x with
    | some (.v (.int _ z)) => some (some z)
    | _ => none

theorem bnd_sound (h : SR cx E s a w) {x : Option Operand} {r : Option Int} (hx : bnd s x = some r) : (r = none ∧ x.map a.eval = none) ∨ ∃ k z, r = some z ∧ x.map a.eval = some (.int k z) := by
  cases x with
  | none => cases hx; exact .inl ⟨rfl, rfl⟩
  | some x =>
    simp only [bnd] at hx
    split at hx
    case h_2 => cases hx
    case h_1 k z hz =>
    cases hx
    have hr := h.eval hz
    generalize hu : a.eval x = u at hr
    cases hr
    exact .inr ⟨k, z, rfl, by simp [hu]⟩

theorem bounds_ok (b : Bool) (len cap : Nat) (lo hi mx : Option Value) (l h m : Nat)
    (hl : (lo = none ∧ l = 0) ∨ ∃ k, lo = some (.int k (l : Int))) (hh : (hi = none ∧ mx = none ∧ h = len) ∨ ∃ k, hi = some (.int k (h : Int)))
    (hm : (mx = none ∧ m = cap) ∨ ∃ k, mx = some (.int k (m : Int))) (h1 : l ≤ h) (h2 : h ≤ m) (h3 : m ≤ cap) : (Instr.sliceBounds b len cap lo hi mx).run P w = .ok (l, h, m) w := by
  have sb : ∀ (k : IntKind) (x y : Nat) (code : BoundsCode), x ≤ y → (Instr.sliceBound (.int k (x : Int)) y code).run P w = .ok x w := fun k x y code hxy => by
    rw [run_sliceBound w k x y code (by omega) (by omega)]; simp
  rcases hl with ⟨rfl, rfl⟩ | ⟨kl, rfl⟩ <;> rcases hh with ⟨rfl, rfl, rfl⟩ | ⟨kh, rfl⟩ <;> rcases hm with ⟨hm, rfl⟩ | ⟨km, hm⟩ <;>
    first
      | (cases hm; done)
      | (cases hm; simp [Instr.sliceBounds, sb _ _ _ _ h1, sb _ _ _ _ h2, sb _ _ _ _ h3]; done)
      | (subst hm; simp [Instr.sliceBounds, sb _ _ _ _ h1, sb _ _ _ _ h2, sb _ _ _ _ h3]; done)

def lowN (r : Option Int) : Nat := match r with | none => 0 | some z => z.toNat
def highN (r : Option Int) (n : Nat) : Nat := match r with | none => n | some z => z.toNat
/-- Are the bounds in order? -/
def bndOk (l h m : Option Int) (n : Nat) : Bool :=
  (match l with | none => true | some z => decide (0 ≤ z)) && (match h with | none => true | some z => decide (0 ≤ z)) && (match m with | none => true | some z => decide (0 ≤ z)) &&
  Nat.ble (lowN l) (highN h n) && Nat.ble (highN h n) (highN m n) && Nat.ble (highN m n) n && (m.isNone || h.isSome)
/-- Elements from .. to. -/
def segL (cells : List D) (l h : Option Int) (es : Nat) : List D :=
  match l, h with
  | none, none => cells
  | none, some h => cells.take (h.toNat * es)
  | some l, none => cells.drop (l.toNat * es)
  | some l, some h => (cells.drop (l.toNat * es)).take ((h.toNat - l.toNat) * es)
def lenL (n : Nat) (l h : Option Int) : Nat :=
  match l, h with
  | none, none => n
  | none, some h => h.toNat
  | some l, none => n - l.toNat
  | some l, some h => h.toNat - l.toNat
theorem lenL_eq (n : Nat) (l h : Option Int) : lenL n l h = highN h n - lowN l := by cases l <;> cases h <;> simp [lenL, highN, lowN]
theorem segL_eq {cells : List D} {n es : Nat} (hn : cells.length = n * es) (l h : Option Int) (h1 : highN h n ≤ n) : segL cells l h es = (cells.drop (lowN l * es)).take (lenL n l h * es) := by
  cases l <;> cases h <;> simp [segL, lenL, lowN, hn.symm]
  rename_i z
  rw [List.take_of_length_le]
  rw [List.length_drop, hn, Nat.sub_mul]; omega

theorem bndOk_spec {l h m : Option Int} {n : Nat} (hb : bndOk l h m n = true) : (∀ z, l = some z → 0 ≤ z) ∧ (∀ z, h = some z → 0 ≤ z) ∧ (∀ z, m = some z → 0 ≤ z) ∧ lowN l ≤ highN h n ∧ highN h n ≤ highN m n ∧ highN m n ≤ n ∧ (m = none ∨ h.isSome = true) := by
  simp only [bndOk, Bool.and_eq_true, Bool.or_eq_true, Option.isNone_iff_eq_none] at hb
  obtain ⟨⟨⟨⟨⟨⟨h1, h2⟩, h3⟩, h4⟩, h5⟩, h6⟩, h7⟩ := hb
  refine ⟨fun z e => by subst e; simpa using h1, fun z e => by subst e; simpa using h2, fun z e => by subst e; simpa using h3, Nat.le_of_ble_eq_true h4, Nat.le_of_ble_eq_true h5, Nat.le_of_ble_eq_true h6, h7⟩

/-- The bounds of a slice expression are computed: cap is at least n. -/
theorem bounds_run (h : SR cx E s a w) {lo hi mx : Option Operand} {l r m : Option Int} (hl : bnd s lo = some l) (hh : bnd s hi = some r) (hm : bnd s mx = some m) {n : Nat} (hb : bndOk l r m n = true) (b : Bool) (cap : Nat) (hc : n ≤ cap) :
    (Instr.sliceBounds b n cap (lo.map a.eval) (hi.map a.eval) (mx.map a.eval)).run P w = .ok (lowN l, highN r n, highN m cap) w := by
  obtain ⟨z1, z2, z3, h1, h2, h3, h4⟩ := bndOk_spec hb
  refine bounds_ok b n cap _ _ _ _ _ _ ?_ ?_ ?_ h1 ?_ ?_
  · rcases bnd_sound h hl with ⟨rfl, e⟩ | ⟨k, z, rfl, e⟩
    · exact .inl ⟨e, rfl⟩
    · exact .inr ⟨k, by rw [e]; simp [lowN, Int.toNat_of_nonneg (z1 z rfl)]⟩
  · rcases bnd_sound h hh with ⟨rfl, e⟩ | ⟨k, z, rfl, e⟩
    · refine .inl ⟨e, ?_, rfl⟩
      rcases h4 with rfl | h4
      · rcases bnd_sound h hm with ⟨_, e⟩ | ⟨k, z, e, _⟩
        · exact e
        · cases e
      · cases h4
    · exact .inr ⟨k, by rw [e]; simp [highN, Int.toNat_of_nonneg (z2 z rfl)]⟩
  · rcases bnd_sound h hm with ⟨rfl, e⟩ | ⟨k, z, rfl, e⟩
    · exact .inl ⟨e, rfl⟩
    · exact .inr ⟨k, by rw [e]; simp [highN, Int.toNat_of_nonneg (z3 z rfl)]⟩
  · cases m with
    | none => simp only [highN] at h2 ⊢; omega
    | some z => exact h2
  · cases m with
    | none => exact Nat.le_refl _
    | some z => simp only [highN] at h3 ⊢; omega

def evSlice (T : TT) (s : AS) (t : TypeId) (x : Operand) (lo hi mx : Option Operand) : Ev :=
  match bnd s lo, bnd s hi, bnd s mx with
  | some l, some h, some m => match T.get t, evO s x with
    | some ⟨.slice e, _, _, _, _⟩, some (.ref k g off n sz) => match T.get e with
      | some ei => .cond (bndOk l h m n && Nat.beq sz ei.size) (.ok (some (.ref k g (off + lowN l * sz) (lenL n l h) sz)) [])
      | none => .stuck
    | some ⟨.slice e, _, _, _, _⟩, some (.sl nn n sz cells) => match T.get e with
      | some ei => .cond (bndOk l h m n && Nat.beq sz ei.size) (.ok (some (.sl nn (lenL n l h) sz (segL cells l h sz))) [])
      | none => .stuck
    | some ⟨.slice e, _, _, _, _⟩, some (.v (.slice none 0 0)) => match T.get e with
      | some _ => .cond (bndOk l h m 0) (.ok (some (.v (.slice none 0 0))) [])
      | none => .stuck
    | some ⟨.string, _, _, _, _⟩, some (.v (.string b)) => .cond (bndOk l h none b.size && m.isNone && mx.isNone) (.ok (some (.v (.string (b.extract (lowN l) (highN h b.size))))) [])
    | some ⟨.array len e, _, _, _, _⟩, some (.ptr k g off) => match T.get e, s.at k with
      | some ei, some p => .cond (bndOk l h m len && Nat.beq g p.1 && Nat.ble (off + len * ei.size) p.2.cells.length && Nat.ble len maxI) (.ok (some (.ref k g (off + lowN l * ei.size) (lenL len l h) ei.size)) [])
      | _, _ => .stuck
    | _, _ => .stuck
  | _, _, _ => .stuck

theorem slice_run {t e : TypeId} {x : Operand} {lo hi mx : Option Operand} {z : Value} {sz by_ : Nat} {pl_ : Bool} (hT : T.ok P) (ho : o.op = .slice t x lo hi mx) (hti : T.get t = some ⟨.slice e, z, sz, by_, pl_⟩) {ei : TI} (hei : T.get e = some ei) {ad : Option Addr} {n c : Nat} (hx : a.eval x = .slice ad n c)
    {l h m : Nat} (hb : (Instr.sliceBounds true n c (lo.map a.eval) (hi.map a.eval) (mx.map a.eval)).run P w = .ok (l, h, m) w) :
    (execOp a.eval o).run P w = .ok (.value (.slice (if m = l then ad else ad.map (·.add (l * ei.size))) (h - l) (m - l))) w := by
  unfold execOp
  simp only [ho, hx, Instr.sliceAt, Instr.slice, Sem.run_bind, TT.underlying hT hti w, Result.andThen_ok, hb, TT.sizeOf hT hei w, Sem.run_pure]

theorem slice_sound (hT : T.ok P) (h : SR cx E s a w) {t : TypeId} {x : Operand} {lo hi mx : Option Operand} (ho : o.op = .slice t x lo hi mx) {v : Option D} {up : Up} (he : (evSlice T s t x lo hi mx).run v up) : Post P cx E s a w i o v up := by
  unfold evSlice at he
  split at he
  case h_2 => exact he.elim
  case h_1 l r m hl hh hm =>
  split at he
  case h_1 e z1 z2 z3 z4 k g off n sz hti hx =>
    split at he
    case h_2 => exact he.elim
    case h_1 ei hei =>
    obtain ⟨hc, rfl, rfl⟩ := he
    rw [Bool.and_eq_true] at hc
    obtain ⟨hb, hsz⟩ := hc
    obtain rfl : sz = ei.size := Nat.eq_of_beq_eq_true hsz
    obtain ⟨_, _, _, h1, h2, h3, _⟩ := bndOk_spec hb
    have hrx := h.eval hx
    generalize hux : a.eval x = ux at hrx
    cases hrx with
    | ref _ _ _ _ _ c b off' tt mm hg hb2 hc2 hoff hsh hmm =>
      have hbr := bounds_run (P := P) h hl hh hm hb true c hc2.1
      have hM : highN r n ≤ highN m c ∧ highN m c ≤ c := by cases m <;> simp only [highN] at h2 h3 ⊢ <;> omega
      refine .pure h (slice_run hT ho hti hei hux hbr) ?_
      rw [lenL_eq]
      by_cases hml : highN m c = lowN l
      · rw [if_pos hml]
        refine .ref k g _ _ _ _ b off' tt mm hg hb2 ⟨by omega, by omega⟩ (.inr ⟨by omega, by omega⟩) hsh ?_
        have : highN m c - lowN l = 0 := by omega
        rw [this, Nat.zero_mul]
        exact Nat.le_trans (by omega) hmm
      · rw [if_neg hml]
        simp only [Option.map_some, Addr.add_mid]
        refine .ref k g _ _ _ _ b _ tt mm hg hb2 ⟨by omega, by omega⟩ ?_ hsh ?_
        · rcases hoff with rfl | ⟨rfl, rfl⟩
          · exact .inl rfl
          · exact .inr ⟨by omega, by omega⟩
        · rw [Nat.add_assoc, ← Nat.add_mul]
          have : lowN l + (highN m c - lowN l) ≤ c := by omega
          exact Nat.le_trans (Nat.add_le_add_left (Nat.mul_le_mul_right _ this) _) hmm
    | refn _ _ _ hg hb2 =>
      have hbr := bounds_run (P := P) h hl hh hm hb true 0 (Nat.le_refl _)
      have e0 : lowN l = 0 := by omega
      have e1 : highN m 0 = 0 := by cases m <;> simp only [highN] at h3 ⊢ <;> omega
      have e2 : highN r 0 = 0 := by omega
      rw [e0, e1, e2] at hbr
      refine .pure h (slice_run hT ho hti hei hux hbr) ?_
      rw [lenL_eq, e0, e2, if_pos rfl, Nat.zero_mul]
      exact .refn k g _ hg hb2
  case h_2 e z1 z2 z3 z4 nn n sz cells hti hx =>
    split at he
    case h_2 => exact he.elim
    case h_1 ei hei =>
    obtain ⟨hc, rfl, rfl⟩ := he
    rw [Bool.and_eq_true] at hc
    obtain ⟨hb, hsz⟩ := hc
    obtain rfl : sz = ei.size := Nat.eq_of_beq_eq_true hsz
    obtain ⟨_, _, _, h1, h2, h3, _⟩ := bndOk_spec hb
    have hrx := h.eval hx
    generalize hux : a.eval x = ux at hrx
    cases hrx with
    | sl _ _ _ _ ad c us hlen hd hone hn hs hc2 hnil hr =>
      have hbr := bounds_run (P := P) h hl hh hm hb true c hc2.1
      have hM : highN r n ≤ highN m c ∧ highN m c ≤ c := by cases m <;> simp only [highN] at h2 h3 ⊢ <;> omega
      have hseg := segL_eq hn l r (by omega)
      have hle : lowN l * ei.size + lenL n l r * ei.size ≤ n * ei.size := by
        rw [← Nat.add_mul]; exact Nat.mul_le_mul_right _ (by rw [lenL_eq]; omega)
      refine .pure h (slice_run hT ho hti hei hux hbr) ?_
      rw [hseg, show highN r n - lowN l = lenL n l r from (lenL_eq n l r).symm]
      refine .sl nn _ _ _ _ _ ((us.drop (lowN l * ei.size)).take (lenL n l r * ei.size)) (by simp only [List.length_take, List.length_drop, hlen]) (fun j d u hj hk => ?_) (fun u hu => hone u (List.mem_of_mem_drop (List.mem_of_mem_take hu))) ?_ hs ⟨?_, ?_⟩ ?_ ?_
      · rw [List.getElem?_take] at hj hk
        split at hj
        · rename_i hlt
          rw [if_pos hlt, List.getElem?_drop] at hk
          rw [List.getElem?_drop] at hj
          exact hd _ _ _ hj hk
        · cases hj
      · rw [List.length_take, List.length_drop, hn]; omega
      · rw [lenL_eq]; omega
      · omega
      · intro hnone
        have : ad = none := by
          split at hnone
          · exact hnone
          · cases ad with | none => rfl | some _ => cases hnone
        obtain ⟨rfl, hnn⟩ := hnil this
        exact ⟨by omega, hnn⟩
      · by_cases hml : highN m c = lowN l
        · exact .inl (by rw [lenL_eq]; omega)
        · rw [if_neg hml]
          rcases hr with hr | ⟨b, off, rfl, hb', ho', hcell⟩
          · exact .inl (by rw [lenL_eq]; omega)
          · refine .inr ⟨b, off + lowN l * ei.size, by simp only [Option.map_some, Addr.add_mid], hb', ho', fun j u hj => ?_⟩
            rw [List.getElem?_take] at hj
            split at hj
            · rw [List.getElem?_drop] at hj
              rw [Nat.add_assoc]; exact hcell _ u hj
            · cases hj
  case h_3 e z1 z2 z3 z4 hti hx =>
    split at he
    case h_2 => exact he.elim
    case h_1 ei hei =>
    obtain ⟨hb, rfl, rfl⟩ := he
    obtain ⟨_, _, _, h1, h2, h3, _⟩ := bndOk_spec hb
    have hrx := h.eval hx
    generalize hux : a.eval x = ux at hrx
    cases hrx
    have hbr := bounds_run (P := P) h hl hh hm hb true 0 (Nat.le_refl _)
    have e0 : lowN l = 0 := by omega
    have e1 : highN m 0 = 0 := by omega
    have e2 : highN r 0 = 0 := by omega
    rw [e0, e1, e2] at hbr
    refine .pure h (slice_run hT ho hti hei hux hbr) ?_
    rw [if_pos rfl]
    exact .v _ rfl
  case h_4 z1 z2 z3 z4 b hti hx =>
    obtain ⟨hc, rfl, rfl⟩ := he
    simp only [Bool.and_eq_true, Option.isNone_iff_eq_none] at hc
    obtain ⟨⟨hb, rfl⟩, hmx⟩ := hc
    subst hmx
    have hrx := h.eval hx
    generalize hux : a.eval x = ux at hrx
    cases hrx
    have hbr := bounds_run (P := P) h hl hh hm hb false b.size (Nat.le_refl _)
    refine .pure h ?_ (.v _ rfl)
    unfold execOp
    simp only [Option.map_none] at hbr
    simp only [ho, hux, Instr.sliceAt, Instr.slice, Sem.run_bind, TT.underlying hT hti w, Result.andThen_ok, Option.map_none, Option.isSome_none, Bool.false_eq_true, if_false, Sem.run_pure, hbr]
  case h_5 len e z1 z2 z3 z4 k g off hti hx =>
    split at he
    case h_2 => exact he.elim
    case h_1 ei p hei hp =>
    obtain ⟨hc, rfl, rfl⟩ := he
    obtain ⟨g', blk⟩ := p
    simp only [Bool.and_eq_true] at hc
    obtain ⟨⟨⟨hb, hgg⟩, hle⟩, hmax⟩ := hc
    have e : g = g' := Nat.eq_of_beq_eq_true hgg
    subst e
    have hle := Nat.le_of_ble_eq_true hle
    have hmax := Nat.le_of_ble_eq_true hmax
    obtain ⟨_, _, _, h1, h2, h3, _⟩ := bndOk_spec hb
    have hrx := h.eval hx
    generalize hux : a.eval x = ux at hrx
    cases hrx with
    | ptr _ _ _ b hg hb2 =>
    obtain ⟨hlt, _, cur, fr, hcur, _, hcl, _, _⟩ := h.block hp hb2
    have hbr := bounds_run (P := P) h hl hh hm hb false len (Nat.le_refl _)
    have hrun : (execOp a.eval o).run P w = .ok (.value (.slice (some (if highN m len = lowN l then ⟨b, off, none⟩ else (⟨b, off, none⟩ : Addr).add (lowN l * ei.size))) (highN r len - lowN l) (highN m len - lowN l))) w := by
      unfold execOp
      simp only [ho, hux, Instr.sliceAt, Instr.sureAddr, Sem.run_bind, TT.underlying hT hti w, Result.andThen_ok, hbr, TT.sizeOf hT hei w, Sem.run_pure]
    refine .pure h hrun ?_
    rw [lenL_eq]
    by_cases hml : highN m len = lowN l
    · rw [if_pos hml]
      refine .ref k g _ _ _ _ b off _ _ hg hb2 ⟨by omega, by omega⟩ (.inr ⟨by omega, by omega⟩) (shape_cells hcur) ?_
      have : highN m len - lowN l = 0 := by omega
      rw [this, Nat.zero_mul]; omega
    · rw [if_neg hml]
      simp only [Addr.add_mid]
      refine .ref k g _ _ _ _ b _ _ _ hg hb2 ⟨by omega, by omega⟩ (.inl rfl) (shape_cells hcur) ?_
      rw [Nat.add_assoc, ← Nat.add_mul]
      have : lowN l + (highN m len - lowN l) ≤ len := by omega
      exact Nat.le_trans (Nat.add_le_add_left (Nat.mul_le_mul_right _ this) _) (by omega)
  case h_6 => exact he.elim
end
end Go.Vx

/- VxR: calls, in the abstract: what a contract says; what it gives is taken in. No program. -/
import Derived.Test.YtegjeagfcfhbeaaVxK
namespace Go.Vx
set_option linter.unusedVariables false
set_option linter.unusedSimpArgs false
open Go.RowKit Go.Bw

mutual
def D.closed : D → Bool
  | .v _ => true
  | .sl _ _ _ _ => true
  | .agg cs => closedL cs
  | .tup cs => closedL cs
  | .ifc _ x => x.closed
  | .fn _ fi ca => closedL fi && closedL ca
  | _ => false
def closedL : List D → Bool
  | [] => true
  | d :: r => d.closed && closedL r
end
theorem closedL_iff {l : List D} : closedL l = true ↔ ∀ d ∈ l, d.closed = true := by
  induction l with
  | nil => simp [closedL]
  | cons x l ih => simp [closedL, ih]
theorem closedL_get {l : List D} (h : closedL l = true) {j : Nat} {d : D} (hj : l[j]? = some d) : d.closed = true := closedL_iff.1 h d (List.mem_of_getElem? hj)
theorem closed_bytes (bs : List UInt8) : closedL (bs.map dB) = true := closedL_iff.2 fun d hd => by simp only [List.mem_map] at hd; obtain ⟨b, _, rfl⟩ := hd; rfl
theorem closedL_take {l : List D} (h : closedL l = true) (n : Nat) : closedL (l.take n) = true := closedL_iff.2 fun d hd => closedL_iff.1 h d (List.mem_of_mem_take hd)
theorem closedL_drop {l : List D} (h : closedL l = true) (n : Nat) : closedL (l.drop n) = true := closedL_iff.2 fun d hd => closedL_iff.1 h d (List.mem_of_mem_drop hd)

theorem RD.weak {E : Env} {w : World} {d : D} {u : Value} (h : RD E w d u) : d.closed = true → RD E.cl w d u := by
  induction h with
  | v c h => exact fun _ => .v c h
  | @sl E w nn n size cells a c us hlen hd h1 hn hp hc h0 hr ih => exact fun _ => .sl nn n size cells a c us hlen hd h1 hn hp hc h0 hr
  | agg cs us hlen _ h1 ih => exact fun hc => .agg cs us hlen (fun i d u a1 a2 => ih i d u a1 a2 (closedL_get hc a1)) h1
  | tup cs us hlen _ ih => exact fun hc => .tup cs us hlen (fun i d u a1 a2 => ih i d u a1 a2 (closedL_get hc a1))
  | ifc t x u _ ih => exact fun hc => .ifc t x u (ih hc)
  | fn f fi ca us vs hl1 hl2 _ _ ih1 ih2 =>
    intro hc
    simp only [D.closed, Bool.and_eq_true] at hc
    exact .fn f fi ca us vs hl1 hl2 (fun i d u a1 a2 => ih1 i d u a1 a2 (closedL_get hc.1 a1)) (fun i d u a1 a2 => ih2 i d u a1 a2 (closedL_get hc.2 a1))
  | _ => intro hc; cases hc

/-! ### an argument, as data -/
def segOf (cells : List D) (off m : Nat) : List D := bif Nat.beq off 0 && Nat.beq m cells.length then cells else (cells.drop off).take m
theorem segOf_eq (cells : List D) (off m : Nat) : segOf cells off m = (cells.drop off).take m := by
  unfold segOf
  cases hq : (Nat.beq off 0 && Nat.beq m cells.length) with
  | false => rfl
  | true =>
    rw [Bool.and_eq_true] at hq
    have e1 := Nat.eq_of_beq_eq_true hq.1
    have e2 := Nat.eq_of_beq_eq_true hq.2
    subst e1
    rw [cond_true, List.drop_zero, e2, List.take_length]

mutual
def keysD : D → List Nat
  | .ref k _ _ _ _ => [k]
  | .ptr k _ _ => [k]
  | .agg cs => keysL cs
  | .tup cs => keysL cs
  | .ifc _ x => keysD x
  | .fn _ fi ca => keysL fi ++ keysL ca
  | .yl k _ => [k]
  | _ => []
def keysL : List D → List Nat
  | [] => []
  | d :: r => keysD d ++ keysL r
end

/-- The place of a number in a list. -/
def idxOf : List Nat → Nat → Option Nat
  | [], _ => none
  | x :: r, k => bif Nat.beq x k then some 0 else match idxOf r k with
    | some j => some (j + 1)
    | none => none
theorem idxOf_get : ∀ {fp : List Nat} {k j : Nat}, idxOf fp k = some j → fp[j]? = some k
  | [], k, j, h => by cases h
  | x :: r, k, j, h => by
    simp only [idxOf] at h
    cases hb : Nat.beq x k with
    | true => rw [hb] at h; cases h; rw [Nat.eq_of_beq_eq_true hb]; rfl
    | false =>
      rw [hb] at h
      dsimp only [cond_false] at h
      split at h
      · rename_i j' hj'; cases h; rw [List.getElem?_cons_succ]; exact idxOf_get hj'
      · cases h
theorem idxOf_none : ∀ {fp : List Nat} {k : Nat}, idxOf fp k = none → k ∉ fp
  | [], k, _ => by simp
  | x :: r, k, h => by
    simp only [idxOf] at h
    cases hb : Nat.beq x k with
    | true => rw [hb] at h; cases h
    | false =>
      rw [hb] at h
      dsimp only [cond_false] at h
      split at h
      · cases h
      · rename_i hn
        intro hm
        rcases List.mem_cons.1 hm with rfl | hm
        · simp at hb
        · exact idxOf_none hn hm

/-- A cell of a block that is handed to a callee as something that is only read. -/
def toD0 (s : AS) (fp : List Nat) : D → Option (Bool × D)
  | .ref k g off n sz => match s.at k with
    | some p => match idxOf fp k with
      | some _ => none
      | none => some (Nat.beq g p.1 && Nat.ble (off + n * sz) p.2.cells.length && Nat.ble 1 sz && closedL (segOf p.2.cells off (n * sz)), .sl (Nat.ble 1 n) n sz (segOf p.2.cells off (n * sz)))
    | none => none
  | d => some (d.closed, d)
def toDL0 (s : AS) (fp : List Nat) : List D → Option (Bool × List D)
  | [] => some (true, [])
  | d :: r => match toD0 s fp d, toDL0 s fp r with
    | some p, some q => some (p.1 && q.1, p.2 :: q.2)
    | _, _ => none
/-- Cells that are handed to a callee. -/
def segN (s : AS) (fp : List Nat) (b : Blk) (off m : Nat) : Option (Bool × List D) := bif b.row then some (closedL (segOf b.cells off m), segOf b.cells off m) else toDL0 s fp (segOf b.cells off m)
mutual
/-- A value, as it is handed to a callee: the blocks fp by their places in that list; al = false: other memory of the run's own as something that is only read. -/
def toD (s : AS) (al : Bool) (fp : List Nat) : D → Option (Bool × D)
  | .v c => some (true, .v c)
  | .sl nn n sz cells => some (true, .sl nn n sz cells)
  | .ref k g off n sz => match s.at k with
    | some p => match idxOf fp k with
      | some j => some (Nat.beq g p.1, .ref j j off n sz)
      | none => match segN s fp p.2 off (n * sz) with
        | some c => some (!al && (Nat.beq g p.1 && Nat.ble (off + n * sz) p.2.cells.length && Nat.ble 1 sz && c.1), .sl (Nat.ble 1 n) n sz c.2)
        | none => none
    | none => none
  | .ptr k g off => match s.at k with
    | some p => match idxOf fp k with
      | some j => some (Nat.beq g p.1, .ptr j j off)
      | none => none
    | none => none
  | .ep cells off => some (true, .ep cells off)
  | .agg cs => match toDL s al fp cs with
    | some p => some (p.1, .agg p.2)
    | none => none
  | .tup cs => match toDL s al fp cs with
    | some p => some (p.1, .tup p.2)
    | none => none
  | .ifc t x => match toD s al fp x with
    | some p => some (p.1, .ifc t p.2)
    | none => none
  | .fn f fi ca => match toDL s al fp fi, toDL s al fp ca with
    | some p, some q => some (p.1 && q.1, .fn f p.2 q.2)
    | _, _ => none
  | .yl _ _ => none
def toDL (s : AS) (al : Bool) (fp : List Nat) : List D → Option (Bool × List D)
  | [] => some (true, [])
  | d :: r => match toD s al fp d, toDL s al fp r with
    | some p, some q => some (p.1 && q.1, p.2 :: q.2)
    | _, _ => none
end
/-- The blocks fp, as they are handed to a callee. -/
def hinOf (s : AS) (fp : List Nat) : List Nat → Option (Bool × List Blk)
  | [] => some (true, [])
  | k :: r => match s.at k, hinOf s fp r with
    | some p, some q => bif p.2.row then some (closedL p.2.cells && q.1, p.2 :: q.2) else match toDL s true fp p.2.cells with
      | some c => some (c.1 && q.1, ⟨c.2, p.2.elem, p.2.row⟩ :: q.2)
      | none => none
    | _, _ => none

/-- The names of a contract: those below n; what O says, and what is named, is not to be only read. -/
def envR (O : Nat → Prop) (φ : Nat → Option Nat) (n : Nat) : Env := ⟨φ, fun b => O b ∨ ∃ j, j < n ∧ φ j = some b, fun j => j < n⟩
def locφ (s : AS) (E : Env) (fp : List Nat) (j : Nat) : Option Nat :=
  match fp[j]? with
  | some k => match s.gat k with
    | some p => E.φ p.1
    | none => none
  | none => none
/-- What a callee is told of names. -/
def locE (s : AS) (E : Env) (al : Bool) (fp : List Nat) : Env := envR (fun b => al = true ∧ E.own b) (locφ s E fp) fp.length
theorem locφ_of {s : AS} {E : Env} {fp : List Nat} {j k g : Nat} {o : Ob} (hj : fp[j]? = some k) (hk : s.gat k = some (g, o)) : locφ s E fp j = E.φ g := by
  unfold locφ; rw [hj]; dsimp only; rw [hk]
theorem locφ_kept {s : AS} {E : Env} {fp : List Nat} {j x : Nat} (h : locφ s E fp j = some x) : ∃ k g o, fp[j]? = some k ∧ s.gat k = some (g, o) ∧ E.φ g = some x := by
  unfold locφ at h
  split at h
  case h_2 => cases h
  case h_1 k hk =>
  split at h
  case h_2 => cases h
  case h_1 p hp => exact ⟨k, p.1, p.2, hk, hp, h⟩

section
variable {P : Program} {cx : Cx} {E : Env} {s : AS} {a : Act} {w : World}

theorem locE_own (h : SR cx E s a w) (al : Bool) (fp : List Nat) {b : Nat} (hb : (locE s E al fp).own b) : E.own b := by
  rcases hb with ⟨_, hb⟩ | ⟨j, _, hx⟩
  · exact hb
  · obtain ⟨k, g, o, _, h2, h3⟩ := locφ_kept hx
    exact h.own_of ⟨k, g, o, h2, h3⟩
theorem Stp.toLoc (h : SR cx E s a w) (al : Bool) (fp : List Nat) : Stp E.cl (locE s E al fp) w w := ⟨fun _ h => h.elim, fun _ h => h.elim, Nat.le_refl _, fun _ _ ho => ⟨fun hh => ho (locE_own h al fp hh), rfl⟩, fun _ _ => rfl⟩

theorem toDL_get {al : Bool} {fp : List Nat} : ∀ (cs : List D) {q : Bool × List D}, toDL s al fp cs = some q → q.1 = true → q.2.length = cs.length ∧ ∀ (j : Nat) d, cs[j]? = some d → ∃ p, toD s al fp d = some p ∧ p.1 = true ∧ q.2[j]? = some p.2
  | [], q, h, hq => by simp only [toDL, Option.some.injEq] at h; subst h; exact ⟨rfl, fun j d hj => by simp at hj⟩
  | d :: r, q, h, hq => by
    simp only [toDL] at h
    split at h
    case h_2 => cases h
    case h_1 p q' hp hq' =>
    cases h
    rw [Bool.and_eq_true] at hq
    obtain ⟨h1, h2⟩ := toDL_get r hq' hq.2
    refine ⟨by simp [h1], fun j d' hj => ?_⟩
    cases j with
    | zero => simp at hj; subst hj; exact ⟨p, hp, hq.1, rfl⟩
    | succ j => obtain ⟨p', a1, a2, a3⟩ := h2 j d' (by simpa using hj); exact ⟨p', a1, a2, by simpa using a3⟩

theorem ref_sl (h : SR cx E s a w) {fp : List Nat} {k g off n sz : Nat} {u : Value} {blk : Blk} (hr : RD E w (.ref k g off n sz) u) (hk : s.at k = some (g, blk)) (hj : idxOf fp k = none) (hle : off + n * sz ≤ blk.cells.length) (hsz : 1 ≤ sz) {cs : List D}
    (hlc : cs.length = (segOf blk.cells off (n * sz)).length) (hcs : ∀ us : List Value, us.length = cs.length → (∀ (i : Nat) d u, (segOf blk.cells off (n * sz))[i]? = some d → us[i]? = some u → RD E w d u) → ∀ (i : Nat) d u, cs[i]? = some d → us[i]? = some u → RD (locE s E false fp).cl w d u) :
    RD (locE s E false fp) w (.sl (Nat.ble 1 n) n sz cs) u := by
  cases hr with
  | @ref _ _ k g off n sz c b off' t m hg hb hc ho hsh hm =>
    obtain ⟨hlt, hown, cur, fr, hcur, _, hcl2, _, hcell⟩ := h.block hk hb
    have hv : Vw _ _ b 0 blk.cells := fun j d hj => by
      obtain ⟨v, hv1, hv2, hv3⟩ := hcell j d hj
      exact ⟨v, by rw [Nat.zero_add, cell_of_row _ b j cur blk.elem fr hcur]; exact hv1, hv2, hv3⟩
    obtain ⟨us, hl, hrg, h1, hd⟩ := hv.seg hle
    rw [Nat.zero_add] at hrg
    rw [segOf_eq] at hlc hcs
    have hl2 : us.length = cs.length := by rw [hl, hlc, List.length_take, List.length_drop]; omega
    refine .sl _ n sz _ _ c us hl2 (hcs us hl2 fun i d u a1 a2 => hd i d u a1 a2) h1 (by rw [hlc, List.length_take, List.length_drop]; omega) hsz hc (fun hh => by cases hh) ?_
    rcases Nat.eq_zero_or_pos n with h0 | h0
    · exact .inl h0
    · refine .inr ⟨b, off', rfl, hlt, fun hh => ?_, fun i u hu => ?_⟩
      · rcases hh with ⟨ha, _⟩ | ⟨j, _, hx⟩
        · cases ha
        · obtain ⟨k', g', o', e1, e2, e3⟩ := locφ_kept hx
          have hne : k ≠ k' := fun e => by subst e; exact idxOf_none hj (List.mem_of_getElem? e1)
          exact h.inj k k' g g' _ o' hne (AS.at_iff.1 hk) e2 b hb e3
      · obtain rfl : off' = off := by omega
        exact hrg i u hu
  | @refn _ _ k g sz hg hb =>
    have e : segOf blk.cells 0 (0 * sz) = [] := by rw [segOf_eq]; simp
    rw [e] at hlc
    have : cs = [] := List.eq_nil_of_length_eq_zero hlc
    subst this
    exact .sl _ 0 sz [] none 0 [] rfl (by simp) (by simp) (by simp) hsz ⟨Nat.le_refl _, Nat.zero_le _⟩ (fun _ => ⟨rfl, rfl⟩) (.inl rfl)
theorem cl_loc (h : SR cx E s a w) {al : Bool} {fp : List Nat} {d : D} {u : Value} (hr : RD E w d u) (hc : d.closed = true) : RD (locE s E al fp).cl w d u := ((hr.weak hc).step (Stp.toLoc h al fp)).weak hc
theorem toD0_sound (h : SR cx E s a w) {fp : List Nat} {d : D} {u : Value} (hr : RD E w d u) {q : Bool × D} (hq : toD0 s fp d = some q) (hq1 : q.1 = true) : RD (locE s E false fp).cl w q.2 u := by
  unfold toD0 at hq
  split at hq
  case h_2 => cases hq; exact cl_loc h hr hq1
  case h_1 k g off n sz =>
  split at hq
  case h_2 => cases hq
  case h_1 p hk =>
  obtain ⟨g', blk⟩ := p
  dsimp only at hq
  split at hq
  case h_1 => cases hq
  case h_2 hj =>
  cases hq
  simp only [Bool.and_eq_true] at hq1
  obtain ⟨⟨⟨hgg, hle⟩, hsz⟩, hcl⟩ := hq1
  obtain rfl : g = g' := Nat.eq_of_beq_eq_true hgg
  exact (ref_sl h hr hk hj (Nat.le_of_ble_eq_true hle) (Nat.le_of_ble_eq_true hsz) rfl fun us _ hd i d u a1 a2 => cl_loc h (hd i d u a1 a2) (closedL_get hcl a1)).weak rfl
theorem toDL0_sound (h : SR cx E s a w) {fp : List Nat} : ∀ {cs : List D} {q : Bool × List D}, toDL0 s fp cs = some q → q.1 = true → q.2.length = cs.length ∧ ∀ us : List Value, us.length = q.2.length → (∀ (i : Nat) d u, cs[i]? = some d → us[i]? = some u → RD E w d u) → ∀ (i : Nat) d u, q.2[i]? = some d → us[i]? = some u → RD (locE s E false fp).cl w d u
  | [], q, hq, _ => by simp only [toDL0, Option.some.injEq] at hq; subst hq; exact ⟨rfl, fun us _ _ i d u hd => by simp at hd⟩
  | c :: r, q, hq, hq1 => by
    simp only [toDL0] at hq
    split at hq
    case h_2 => cases hq
    case h_1 p q' hp hq' =>
    cases hq
    rw [Bool.and_eq_true] at hq1
    obtain ⟨l1, l2⟩ := toDL0_sound h hq' hq1.2
    refine ⟨by simp [l1], fun us hl hd i d u h1 h2 => ?_⟩
    cases us with
    | nil => simp at hl
    | cons v us =>
    cases i with
    | zero =>
      simp only [List.getElem?_cons_zero, Option.some.injEq] at h1 h2
      subst h1 h2
      exact toD0_sound h (hd 0 c v rfl rfl) hp hq1.1
    | succ i =>
      exact l2 us (by simpa using hl) (fun j d u a1 a2 => hd (j + 1) d u (by simpa using a1) (by simpa using a2)) i d u (by simpa using h1) (by simpa using h2)
theorem segN_sound (h : SR cx E s a w) {fp : List Nat} {b : Blk} {off m : Nat} {q : Bool × List D} (hq : segN s fp b off m = some q) (hq1 : q.1 = true) : q.2.length = (segOf b.cells off m).length ∧ ∀ us : List Value, us.length = q.2.length → (∀ (i : Nat) d u, (segOf b.cells off m)[i]? = some d → us[i]? = some u → RD E w d u) → ∀ (i : Nat) d u, q.2[i]? = some d → us[i]? = some u → RD (locE s E false fp).cl w d u := by
  unfold segN at hq
  cases hrow : b.row with
  | true =>
    rw [hrow, cond_true] at hq
    cases hq
    exact ⟨rfl, fun us _ hd i d u h1 h2 => cl_loc h (hd i d u h1 h2) (closedL_get hq1 h1)⟩
  | false =>
    rw [hrow, cond_false] at hq
    exact toDL0_sound h hq hq1

theorem toD_sound (h : SR cx E s a w) {al : Bool} {fp : List Nat} : ∀ {E' : Env} {w' : World} {d : D} {u : Value}, RD E' w' d u → E' = E → w' = w → ∀ {q : Bool × D}, toD s al fp d = some q → q.1 = true → RD (locE s E al fp) w q.2 u := by
  intro E' w' d u hr
  have hst := Stp.toLoc h al fp
  have L : ∀ {cs : List D} {us : List Value}, us.length = cs.length → (∀ (i : Nat) d u, cs[i]? = some d → us[i]? = some u → ∀ {q : Bool × D}, toD s al fp d = some q → q.1 = true → RD (locE s E al fp) w q.2 u) → ∀ {q : Bool × List D}, toDL s al fp cs = some q → q.1 = true →
      us.length = q.2.length ∧ ∀ (i : Nat) d u, q.2[i]? = some d → us[i]? = some u → RD (locE s E al fp) w d u := by
    intro cs us hlen ih q hq hq1
    obtain ⟨h1, h2⟩ := toDL_get cs hq hq1
    refine ⟨by rw [hlen, h1], fun i d u hd hu => ?_⟩
    have hlt : i < cs.length := by rw [← h1]; exact (List.getElem?_eq_some_iff.1 hd).1
    obtain ⟨p, a1, a2, a3⟩ := h2 i cs[i] (List.getElem?_eq_getElem hlt)
    rw [hd] at a3; cases a3
    exact ih i _ u (List.getElem?_eq_getElem hlt) hu a1 a2
  induction hr with
  | v c hc => intro _ _ q hq _; simp only [toD, Option.some.injEq] at hq; subst hq; exact .v c hc
  | @sl E1 w1 nn n size cells ad c us hlen hd h1 hn hp hc h0 hr ih =>
    rintro rfl rfl q hq _
    simp only [toD, Option.some.injEq] at hq; subst hq
    exact ((RD.sl nn n size cells ad c us hlen hd h1 hn hp hc h0 hr).weak rfl).step hst
  | @ref E1 w1 k g off n sz c b off' t m hg hb hc ho hsh hm =>
    rintro rfl rfl q hq hq1
    simp only [toD] at hq
    cases hk : s.at k with
    | none => rw [hk] at hq; cases hq
    | some p =>
    obtain ⟨g', blk⟩ := p
    rw [hk] at hq
    dsimp only at hq
    split at hq
    case h_1 j hj =>
      cases hq
      obtain rfl : g = g' := Nat.eq_of_beq_eq_true hq1
      have hj' := idxOf_get hj
      exact .ref j j off n sz c b off' t m (List.getElem?_eq_some_iff.1 hj').1 ((locφ_of hj' (AS.at_iff.1 hk)).trans hb) hc ho hsh hm
    case h_2 hj =>
    split at hq
    case h_2 => cases hq
    case h_1 cc hcc =>
    cases hq
    simp only [Bool.and_eq_true, Bool.not_eq_true'] at hq1
    obtain ⟨hal, ⟨⟨hgg, hle⟩, hsz⟩, hc1⟩ := hq1
    subst hal
    obtain rfl : g = g' := Nat.eq_of_beq_eq_true hgg
    obtain ⟨l1, l2⟩ := segN_sound h hcc hc1
    exact ref_sl h (.ref k g off n sz c b off' t m hg hb hc ho hsh hm) hk hj (Nat.le_of_ble_eq_true hle) (Nat.le_of_ble_eq_true hsz) l1 l2
  | @refn E1 w1 k g sz hg hb =>
    rintro rfl rfl q hq hq1
    simp only [toD] at hq
    cases hk : s.at k with
    | none => rw [hk] at hq; cases hq
    | some p =>
    obtain ⟨g', blk⟩ := p
    rw [hk] at hq
    dsimp only at hq
    split at hq
    case h_1 j hj =>
      cases hq
      obtain rfl : g = g' := Nat.eq_of_beq_eq_true hq1
      have hj' := idxOf_get hj
      exact .refn j j sz (List.getElem?_eq_some_iff.1 hj').1 ((locφ_of hj' (AS.at_iff.1 hk)).trans hb)
    case h_2 hj =>
    split at hq
    case h_2 => cases hq
    case h_1 cc hcc =>
    cases hq
    simp only [Bool.and_eq_true, Bool.not_eq_true'] at hq1
    obtain ⟨hal, ⟨⟨hgg, hle⟩, hsz⟩, hc1⟩ := hq1
    subst hal
    obtain rfl : g = g' := Nat.eq_of_beq_eq_true hgg
    obtain ⟨l1, l2⟩ := segN_sound h hcc hc1
    exact ref_sl h (.refn k g sz hg hb) hk hj (Nat.le_of_ble_eq_true hle) (Nat.le_of_ble_eq_true hsz) l1 l2
  | @ptr E1 w1 k g off b hg hb =>
    rintro rfl rfl q hq hq1
    simp only [toD] at hq
    cases hk : s.at k with
    | none => rw [hk] at hq; cases hq
    | some p =>
    obtain ⟨g', blk⟩ := p
    rw [hk] at hq
    dsimp only at hq
    split at hq
    case h_2 => cases hq
    case h_1 j hj =>
    cases hq
    obtain rfl : g = g' := Nat.eq_of_beq_eq_true hq1
    have hj' := idxOf_get hj
    exact .ptr j j off b (List.getElem?_eq_some_iff.1 hj').1 ((locφ_of hj' (AS.at_iff.1 hk)).trans hb)
  | @ep E1 w1 cells off b o us hlen hd h1 hb ho hr ih =>
    rintro rfl rfl q hq _
    simp only [toD, Option.some.injEq] at hq; subst hq
    exact .ep cells off b o us hlen (fun i d u a1 a2 => (hd i d u a1 a2).step (E := E1.cl) (E' := (locE s E1 al fp).cl) (w := w1) (w' := w1) ⟨fun _ hx => hx.elim, fun _ hx => hx.elim, Nat.le_refl _, fun _ _ ho => ⟨fun hh => ho (locE_own h al fp hh), rfl⟩, fun _ _ => rfl⟩) h1 hb (fun hh => ho (locE_own h al fp hh)) hr
  | agg cs us hlen _ h1 ih =>
    rintro rfl rfl q hq hq1
    simp only [toD] at hq
    split at hq
    case h_2 => cases hq
    case h_1 p hp =>
    cases hq
    obtain ⟨l1, l2⟩ := L hlen (fun i d u a1 a2 => ih i d u a1 a2 rfl rfl) hp hq1
    exact .agg _ us l1 l2 h1
  | tup cs us hlen _ ih =>
    rintro rfl rfl q hq hq1
    simp only [toD] at hq
    split at hq
    case h_2 => cases hq
    case h_1 p hp =>
    cases hq
    obtain ⟨l1, l2⟩ := L hlen (fun i d u a1 a2 => ih i d u a1 a2 rfl rfl) hp hq1
    exact .tup _ us l1 l2
  | ifc t x u _ ih =>
    rintro rfl rfl q hq hq1
    simp only [toD] at hq
    split at hq
    case h_2 => cases hq
    case h_1 p hp =>
    cases hq
    exact .ifc t _ u (ih rfl rfl hp hq1)
  | @fn E1 w1 f fi ca us vs hl1 hl2 hd1 hd2 ih1 ih2 =>
    rintro rfl rfl q hq hq1
    simp only [toD] at hq
    split at hq
    case h_2 => cases hq
    case h_1 p p' hp hp' =>
    cases hq
    rw [Bool.and_eq_true] at hq1
    obtain ⟨l1, l2⟩ := L hl1 (fun i d u a1 a2 => ih1 i d u a1 a2 rfl rfl) hp hq1.1
    obtain ⟨l3, l4⟩ := L hl2 (fun i d u a1 a2 => ih2 i d u a1 a2 rfl rfl) hp' hq1.2
    exact .fn f _ _ us vs l1 l3 l2 l4
  | yl => rintro rfl rfl q hq; cases hq

theorem hin_sound (h : SR cx E s a w) {al : Bool} {fp : List Nat} : ∀ (l : List Nat) (i : Nat), (∀ (j : Nat) k, l[j]? = some k → fp[i + j]? = some k) → ∀ {q : Bool × List Blk}, hinOf s fp l = some q → q.1 = true →
    q.2.length = l.length ∧ (∀ k ∈ l, ∃ g b, s.at k = some (g, b)) ∧ ∀ (j : Nat) b, q.2[j]? = some b → HB (locE s E al fp) w (i + j) b
  | [], i, _, q, hq, _ => by simp only [hinOf, Option.some.injEq] at hq; subst hq; exact ⟨rfl, fun k hk => (by cases hk), fun j b hj => by simp at hj⟩
  | k :: r, i, hsub, q, hq, hq1 => by
    simp only [hinOf] at hq
    split at hq
    case h_2 => cases hq
    case h_1 p q' hk hq' =>
    obtain ⟨g, blk⟩ := p
    have hki : fp[i]? = some k := hsub 0 k rfl
    have hφ : locφ s E fp i = E.φ g := locφ_of hki (AS.at_iff.1 hk)
    have hi : i < fp.length := (List.getElem?_eq_some_iff.1 hki).1
    have rec_ : q'.1 = true → q'.2.length = r.length ∧ (∀ k ∈ r, ∃ g b, s.at k = some (g, b)) ∧ ∀ (j : Nat) b, q'.2[j]? = some b → HB (locE s E al fp) w (i + 1 + j) b := fun h1 => hin_sound h r (i + 1) (fun j k' hj => by
      have := hsub (j + 1) k' (by simpa using hj)
      rwa [show i + (j + 1) = i + 1 + j by omega] at this) hq' h1
    have build : ∀ b' : Blk, b'.elem = blk.elem → b'.row = blk.row → b'.cells.length = blk.cells.length → (blk.cells = [] → b'.cells = []) → (∀ (j : Nat) d' u, b'.cells[j]? = some d' → (∀ d, blk.cells[j]? = some d → RD E w d u) → RD (locE s E al fp) w d' u) → HB (locE s E al fp) w i b' := by
      intro b' e1 e2 e3 e4 e5
      obtain ⟨c1, c2⟩ := h.hp k g blk hk
      refine ⟨hi, ?_⟩
      show match locφ s E fp i with | none => _ | some b => _
      rw [hφ]
      cases hp : E.φ g with
      | none => rw [hp] at c2; exact ⟨e4 c2.1, by rw [e2]; exact c2.2⟩
      | some x =>
        rw [hp] at c2
        obtain ⟨d1, d2, cur, fr, d3, d4, d5, d6, d7⟩ := c2
        refine ⟨.inr ⟨i, hi, hφ.trans hp⟩, d2, cur, fr, by rw [e1]; exact d3, d4, by rw [e3]; exact d5, fun hr => by rw [e3]; exact d6 (by rw [← e2]; exact hr), fun j d' hj => ?_⟩
        have hlt : j < blk.cells.length := by rw [← e3]; exact (List.getElem?_eq_some_iff.1 hj).1
        obtain ⟨u, f1, f2, f3⟩ := d7 j blk.cells[j] (List.getElem?_eq_getElem hlt)
        exact ⟨u, f1, f2, e5 j d' u hj fun d hd => by rw [List.getElem?_eq_getElem hlt] at hd; cases hd; exact f3⟩
    have fin : ∀ (b' : Blk), HB (locE s E al fp) w i b' → q'.1 = true → (b' :: q'.2).length = (k :: r).length ∧ (∀ k' ∈ k :: r, ∃ g b, s.at k' = some (g, b)) ∧ ∀ (j : Nat) b, (b' :: q'.2)[j]? = some b → HB (locE s E al fp) w (i + j) b := by
      intro b' hb' h1
      obtain ⟨r1, r2, r3⟩ := rec_ h1
      refine ⟨by simp [r1], fun k' hk' => ?_, fun j b hj => ?_⟩
      · rcases List.mem_cons.1 hk' with rfl | hk'
        · exact ⟨g, blk, hk⟩
        · exact r2 k' hk'
      · cases j with
        | zero => simp at hj; subst hj; exact hb'
        | succ j => rw [show i + (j + 1) = i + 1 + j by omega]; exact r3 j b (by simpa using hj)
    have hst := Stp.toLoc h al fp
    cases hrow : blk.row with
    | true =>
      simp only [hrow, cond_true, Option.some.injEq] at hq
      subst hq
      rw [Bool.and_eq_true] at hq1
      exact fin blk (build blk rfl rfl rfl (fun e => e) fun j d' u hj hd => ((hd d' hj).weak (closedL_get hq1.1 hj)).step hst) hq1.2
    | false =>
      simp only [hrow, cond_false] at hq
      split at hq
      case h_2 => cases hq
      case h_1 c hc =>
      cases hq
      rw [Bool.and_eq_true] at hq1
      obtain ⟨l1, l2⟩ := toDL_get _ hc hq1.1
      refine fin ⟨c.2, blk.elem, false⟩ (build _ rfl hrow.symm l1 (fun e => List.eq_nil_of_length_eq_zero (by rw [l1, e]; rfl)) fun j d' u hj hd => ?_) hq1.2
      have hlt : j < blk.cells.length := by rw [← l1]; exact (List.getElem?_eq_some_iff.1 hj).1
      obtain ⟨p', a1, a2, a3⟩ := l2 j _ (List.getElem?_eq_getElem hlt)
      rw [hj] at a3; cases a3
      have hx := toD_sound h (hd _ (List.getElem?_eq_getElem hlt)) rfl rfl a1 a2
      exact hx.step (E := locE s E true fp) (E' := locE s E al fp) (w := w) (w' := w) ⟨fun _ hx => hx, fun _ _ => rfl, Nat.le_refl _, fun b _ hn => ⟨fun hh => hn (Or.imp (fun hh => ⟨rfl, hh.2⟩) id hh), rfl⟩, fun _ _ => rfl⟩

end
end Go.Vx

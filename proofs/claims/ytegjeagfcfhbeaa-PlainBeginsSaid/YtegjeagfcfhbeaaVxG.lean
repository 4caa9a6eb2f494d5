/- VxG: what an operation comes to, in the abstract: numbers, texts, conversions, lengths, slices. No program. -/
import Derived.Test.YtegjeagfcfhbeaaVxF
namespace Go.Vx
set_option linter.unusedVariables false
set_option linter.unusedSimpArgs false
open Go.RowKit Go.Bw
section
variable {P : Program} {cx : Cx} {E : Env} {s : AS} {a : Act} {w : World} {i : Nat} {o : Oper} {T : TT}

/-- A number in its kind: as it is, where that can be seen. -/
def wrapO (k : IntKind) (x : Int) : Option D := match decide (k.wrap x = x) with
  | true => some (.v (.int k x))
  | false => some (.v (.int k (k.wrap x)))
theorem wrapO_eq (k : IntKind) (x : Int) : wrapO k x = some (.v (.int k (k.wrap x))) := by
  unfold wrapO
  cases h : decide (k.wrap x = x) with
  | true => rw [of_decide_eq_true h]
  | false => rfl
def wrE (k : IntKind) (x : Int) : Ev := .opt (wrapO k x) fun d => .ok (some d) []
theorem wrE_run {k : IntKind} {x : Int} {v : Option D} {up : Up} (h : (wrE k x).run v up) : v = some (.v (.int k (k.wrap x))) ∧ up = [] := by
  obtain ⟨d, hd, rfl, rfl⟩ := h
  rw [wrapO_eq] at hd; cases hd; exact ⟨rfl, rfl⟩
/-- A number that is told in other words, if it is not written out. -/
def bitO (k : IntKind) (v : Int) : Option D := match decide (v = 0) with
  | true => some (.v (.int k v))
  | false => some (.v (.int k v))
theorem bitO_eq (k : IntKind) (v : Int) : bitO k v = some (.v (.int k v)) := by
  unfold bitO
  cases decide (v = 0) <;> rfl
def btE (k : IntKind) (x : Int) : Ev := .opt (bitO k x) fun d => .ok (some d) []
theorem btE_run {k : IntKind} {x : Int} {v : Option D} {up : Up} (h : (btE k x).run v up) : v = some (.v (.int k x)) ∧ up = [] := by
  obtain ⟨d, hd, rfl, rfl⟩ := h
  rw [bitO_eq] at hd; cases hd; exact ⟨rfl, rfl⟩
/-! ### binOp -/
def evInt (op : BinOp) (k k' : IntKind) (x y : Int) : Ev :=
  match op with
  | .shl => .cond (decide (0 ≤ y)) (wrE k (2 ^ (min y.toNat k.bits) * x))
  | .shr => .cond (decide (0 ≤ y)) (btE k (x.fdiv (2 ^ (min y.toNat k.bits))))
  | .add => .cond (decide (k = k')) (wrE k (x + y))
  | .sub => .cond (decide (k = k')) (wrE k (x - y))
  | .mul => .cond (decide (k = k')) (wrE k (x * y))
  | .quo => .cond (decide (k = k') && !decide (y = 0)) (btE k (k.wrap (x.tdiv y)))
  | .rem => .cond (decide (k = k') && !decide (y = 0)) (btE k (x.tmod y))
  | .and => .cond (decide (k = k')) (btE k (k.wrap ((BitVec.ofInt k.bits x &&& BitVec.ofInt k.bits y).toNat : Int)))
  | .or => .cond (decide (k = k')) (btE k (k.wrap ((BitVec.ofInt k.bits x ||| BitVec.ofInt k.bits y).toNat : Int)))
  | .xor => .cond (decide (k = k')) (btE k (k.wrap ((BitVec.ofInt k.bits x ^^^ BitVec.ofInt k.bits y).toNat : Int)))
  | .andNot => .cond (decide (k = k')) (btE k (k.wrap ((BitVec.ofInt k.bits x &&& ~~~ BitVec.ofInt k.bits y).toNat : Int)))
  | .eql => .cond (decide (k = k')) (.ok (some (.v (.bool (x == y)))) [])
  | .neq => .cond (decide (k = k')) (.ok (some (.v (.bool (x != y)))) [])
  | .lss => .cond (decide (k = k')) (.ok (some (.v (.bool (decide (x < y))))) [])
  | .leq => .cond (decide (k = k')) (.ok (some (.v (.bool (decide (x ≤ y))))) [])
  | .gtr => .cond (decide (k = k')) (.ok (some (.v (.bool (decide (y < x))))) [])
  | .geq => .cond (decide (k = k')) (.ok (some (.v (.bool (decide (y ≤ x))))) [])

def evStr (op : BinOp) (x y : ByteArray) : Ev :=
  match op with
  | .add => .cond (Nat.ble (x.size + y.size) maxI) (.ok (some (.v (.string (x ++ y)))) [])
  | .eql => .ok (some (.v (.bool (x.toList == y.toList)))) []
  | .neq => .ok (some (.v (.bool (!(x.toList == y.toList))))) []
  | .lss => .ok (some (.v (.bool (Op.bytesLess x.toList y.toList)))) []
  | .leq => .ok (some (.v (.bool (Op.bytesLess x.toList y.toList || x.toList == y.toList)))) []
  | .gtr => .ok (some (.v (.bool (!(Op.bytesLess x.toList y.toList || x.toList == y.toList))))) []
  | .geq => .ok (some (.v (.bool (!Op.bytesLess x.toList y.toList)))) []
  | _ => .stuck

def isBoolT : TypeDesc → Bool
  | .bool => true
  | _ => false
def isSliceT : TypeDesc → Bool
  | .slice _ => true
  | _ => false
/-- Is a slice nil? -/
def nilD : D → Option Bool
  | .v (.slice none 0 0) => some true
  | .sl true _ _ _ => some false
  | .ref _ _ _ (_ + 1) _ => some false
  | _ => none
/-- Are two cells of one kind alike? -/
def eqD : TypeDesc → D → D → Option Bool
  | .int _, .v (.int k m), .v (.int k' n) => match decide (k = k') with
    | true => some (m == n)
    | false => none
  | .bool, .v (.bool m), .v (.bool n) => some (m == n)
  | .string, .v (.string m), .v (.string n) => some (m.toList == n.toList)
  | _, _, _ => none
def eqFs (T : TT) (cs ds : List D) : List Field → Option Bool
  | [] => some true
  | f :: r => match T.get f.type, cs[f.offset]?, ds[f.offset]?, eqFs T cs ds r with
    | some fi, some x, some y, some c => match eqD fi.desc x y with
      | some b => some (b && c)
      | none => none
    | _, _, _, _ => none
/-- Are arrays of plain cells alike? -/
def eqAs (d : TypeDesc) : List D → List D → Option Bool
  | [], [] => some true
  | x :: r, y :: q => match eqD d x y, eqAs d r q with
    | some b, some c => some (b && c)
    | _, _ => none
  | _, _ => none
def evEqA (T : TT) (n : Nat) (el : TypeId) (cs ds : List D) : Option Bool :=
  match T.get el with
  | some ei => match Nat.beq ei.size 1 && Nat.beq cs.length n with
    | true => eqAs ei.desc cs ds
    | false => none
  | none => none
def evBin (T : TT) (s : AS) (op : BinOp) (t : TypeId) (x y : Operand) : Ev :=
  match evO s x, evO s y with
  | some (.v (.int k m)), some (.v (.int k' n)) => evInt op k k' m n
  | some (.v (.string m)), some (.v (.string n)) => evStr op m n
  | some (.v (.bool m)), some (.v (.bool n)) => match T.get t, op with
    | some ti, .eql => .cond (isBoolT ti.desc) (.ok (some (.v (.bool (m == n)))) [])
    | some ti, .neq => .cond (isBoolT ti.desc) (.ok (some (.v (.bool (!(m == n))))) [])
    | _, _ => .stuck
  | some d, some (.v (.slice none 0 0)) => match T.get t, op, nilD d with
    | some ti, .eql, some b => .cond (isSliceT ti.desc) (.ok (some (.v (.bool b))) [])
    | some ti, .neq, some b => .cond (isSliceT ti.desc) (.ok (some (.v (.bool (!b)))) [])
    | _, _, _ => .stuck
  | some (.agg cs), some (.agg ds) => match T.get t, op with
    | some ⟨.struct fs, _, _, _, pl⟩, .eql => match eqFs T cs ds fs.toList with
      | some b => .cond pl (.ok (some (.v (.bool b))) [])
      | none => .stuck
    | some ⟨.struct fs, _, _, _, pl⟩, .neq => match eqFs T cs ds fs.toList with
      | some b => .cond pl (.ok (some (.v (.bool (!b)))) [])
      | none => .stuck
    | some ⟨.array n el, _, _, _, pl⟩, .eql => match evEqA T n el cs ds with
      | some b => .cond pl (.ok (some (.v (.bool b))) [])
      | none => .stuck
    | some ⟨.array n el, _, _, _, pl⟩, .neq => match evEqA T n el cs ds with
      | some b => .cond pl (.ok (some (.v (.bool (!b)))) [])
      | none => .stuck
    | _, _ => .stuck
  | _, _ => .stuck

inductive EqAll (P : Program) (w : World) (d : Nat) (xs ys : Array Value) : List Field → Bool → Prop
  | nil : EqAll P w d xs ys [] true
  | cons {f : Field} {r : List Field} {x y : Value} {b c : Bool} (hn : f.name ≠ "_") (h1 : (part f.type xs f.offset).run P w = .ok x w) (h2 : (part f.type ys f.offset).run P w = .ok y w) (h3 : (Op.equalIn d f.type x y).run P w = .ok b w) (h4 : EqAll P w d xs ys r c) : EqAll P w d xs ys (f :: r) (b && c)
theorem equalIn_struct (d : Nat) {t : TypeId} {fs : Array Field} (hu : (Go.underlying t).run P w = .ok (.struct fs) w) (hst : P.stoodInHeld t = false) {xs ys : Array Value} {b : Bool} (h : EqAll P w d xs ys fs.toList b) : (Op.equalIn (d + 1) t (.agg xs) (.agg ys)).run P w = .ok b w := by
  rw [Op.equalIn]
  simp only [Sem.run_bind, hu, Result.andThen_ok]
  have hp : (program : Sem Program).run P w = .ok P w := rfl
  simp only [hp, Result.andThen_ok, hst, Bool.false_eq_true, if_false, Sem.run_bind]
  rw [← Array.forIn_toList]
  generalize fs.toList = l at h
  induction h with
  | nil => simp
  | cons hn h1 h2 h3 h4 ih =>
    rename_i f r x y b1 c1
    rw [List.forIn_cons]
    simp only [Sem.run_bind, h1, h2, h3, Result.andThen_ok, hn, ne_eq, not_false_eq_true, if_true]
    cases b1 with
    | false => simp
    | true => simpa using ih
theorem part_run (hT : T.ok P) {t : TypeId} {ti : TI} (ht : T.get t = some ti) (hr : ti.desc.isRow = false) {cs : Array Value} {off : Nat} {v : Value} (hv : cs[off]? = some v) : (part t cs off).run P w = .ok v w := by
  unfold part
  rw [Sem.run_bind, isAgg_run hT ht w, Result.andThen_ok, hr]
  simp only [Bool.false_eq_true, if_false, hv, Sem.run_pure]
theorem eqD_run (hT : T.ok P) {t : TypeId} {ti : TI} (ht : T.get t = some ti) {E : Env} {x y : D} {u v : Value} (hx : RD E w x u) (hy : RD E w y v) {b : Bool} (h : eqD ti.desc x y = some b) (n : Nat) : (Op.equalIn (n + 1) t u v).run P w = .ok b w ∧ ti.desc.isRow = false := by
  have hu := TT.underlying hT ht w
  unfold eqD at h
  split at h
  case h_1 kk k m k' m' hd =>
    split at h
    case h_2 => cases h
    case h_1 hk =>
    cases h
    cases hx; cases hy
    have hk := of_decide_eq_true hk
    rw [hd] at hu
    refine ⟨?_, by rw [hd]⟩
    rw [Op.equalIn]; simp only [Sem.run_bind, hu, Result.andThen_ok, hk, if_true, Sem.run_pure]
  case h_2 m m' hd =>
    cases h; cases hx; cases hy
    rw [hd] at hu
    refine ⟨?_, by rw [hd]⟩
    rw [Op.equalIn]; simp only [Sem.run_bind, hu, Result.andThen_ok, Sem.run_pure]
  case h_3 m m' hd =>
    cases h; cases hx; cases hy
    rw [hd] at hu
    refine ⟨?_, by rw [hd]⟩
    rw [Op.equalIn]; simp only [Sem.run_bind, hu, Result.andThen_ok, Sem.run_pure]
    rw [beq_toListBytes]
  case h_4 => cases h
theorem eqFs_run (hT : T.ok P) {E : Env} {cs ds : List D} {us vs : List Value} (hu : ∀ (i : Nat) d, cs[i]? = some d → ∃ u, us[i]? = some u ∧ RD E w d u) (hv : ∀ (i : Nat) d, ds[i]? = some d → ∃ u, vs[i]? = some u ∧ RD E w d u) (n : Nat) : ∀ (l : List Field) (b : Bool), (∀ f ∈ l, f.name ≠ "_") → eqFs T cs ds l = some b → EqAll P w (n + 1) us.toArray vs.toArray l b
  | [], b, _, h => by cases h; exact .nil
  | f :: r, b, hn, h => by
    unfold eqFs at h
    split at h
    case h_2 => cases h
    case h_1 fi x y c h1 h2 h3 h4 =>
    split at h
    case h_2 => cases h
    case h_1 b1 hb =>
    cases h
    obtain ⟨u, a1, a2⟩ := hu _ _ h2
    obtain ⟨v, b1', b2⟩ := hv _ _ h3
    obtain ⟨e1, e2⟩ := eqD_run hT h1 a2 b2 hb n
    exact .cons (hn f List.mem_cons_self) (part_run hT h1 e2 (by simpa using a1)) (part_run hT h1 e2 (by simpa using b1')) e1 (eqFs_run hT hu hv n r c (fun g hg => hn g (List.mem_cons_of_mem _ hg)) h4)
theorem eqAs_run (hT : T.ok P) {el : TypeId} {ei : TI} (he : T.get el = some ei) {E : Env} (us vs : List Value) (n : Nat) : ∀ (cs ds : List D) (i : Nat) (b : Bool),
    (∀ (j : Nat) d, cs[j]? = some d → ∃ u, us[i + j]? = some u ∧ RD E w d u) → (∀ (j : Nat) d, ds[j]? = some d → ∃ u, vs[i + j]? = some u ∧ RD E w d u) → eqAs ei.desc cs ds = some b →
    Sem.run P (forIn (List.range' i cs.length) ((none : Option Bool), ()) fun j __s => do
            let __do_lift ← part el us.toArray (j * 1)
            let __do_lift_1 ← part el vs.toArray (j * 1)
            let __do_lift ← Op.equalIn (n + 1) el __do_lift __do_lift_1
            if (!__do_lift) = true then pure (ForInStep.done (some false, ())) else pure (ForInStep.yield (none, ()))) w = .ok ((bif b then none else some false), ()) w
  | [], [], i, b, _, _, h => by cases h; simp
  | [], _ :: _, i, b, _, _, h => by cases h
  | _ :: _, [], i, b, _, _, h => by cases h
  | x :: r, y :: q, i, b, hu, hv, h => by
    unfold eqAs at h
    split at h
    case h_2 => cases h
    case h_1 b1 c1 h1 h2 =>
    cases h
    obtain ⟨u, a1, a2⟩ := hu 0 x rfl
    obtain ⟨v, b1', b2⟩ := hv 0 y rfl
    obtain ⟨e1, e2⟩ := eqD_run hT he a2 b2 h1 n
    have ih := eqAs_run hT he us vs n r q (i + 1) c1 (fun j d hd => by have := hu (j + 1) d (by simpa using hd); rw [show i + 1 + j = i + (j + 1) from by omega]; exact this) (fun j d hd => by have := hv (j + 1) d (by simpa using hd); rw [show i + 1 + j = i + (j + 1) from by omega]; exact this) h2
    rw [List.length_cons, List.range'_succ, List.forIn_cons]
    have p1 := part_run (P := P) (w := w) hT he e2 (cs := us.toArray) (off := i * 1) (v := u) (by simpa using a1)
    have p2 := part_run (P := P) (w := w) hT he e2 (cs := vs.toArray) (off := i * 1) (v := v) (by simpa using b1')
    simp only [Sem.run_bind, p1, p2, e1, Result.andThen_ok]
    cases b1 with
    | false => simp
    | true => simpa using ih
theorem eqGuard_agg (op : BinOp) (t : TypeId) (x y : Operand) (us vs : Array Value) (hg : P.eqGuardType P.depth t = false) : (eqGuard op t x y (.agg us) (.agg vs)).run P w = .ok () w := run_eqGuard_agg w op t x y us vs hg
theorem binOp_eql_agg (t : TypeId) (us vs : Array Value) : binOp .eql t (.agg us) (.agg vs) = (do pure (.bool (← Op.equal t (.agg us) (.agg vs)))) := rfl
theorem binOp_neq_agg (t : TypeId) (us vs : Array Value) : binOp .neq t (.agg us) (.agg vs) = (do pure (.bool (!(← Op.equal t (.agg us) (.agg vs))))) := rfl
theorem eqGuard_int (op : BinOp) (t : TypeId) (x y : Operand) (k k' : IntKind) (m n : Int) : (eqGuard op t x y (.int k m) (.int k' n)).run P w = .ok () w := by cases op <;> rfl
theorem eqGuard_str (op : BinOp) (t : TypeId) (x y : Operand) (m n : ByteArray) : (eqGuard op t x y (.string m) (.string n)).run P w = .ok () w := by cases op <;> rfl
theorem eqGuard_bool (op : BinOp) (t : TypeId) (x y : Operand) (m n : Bool) : (eqGuard op t x y (.bool m) (.bool n)).run P w = .ok () w := by cases op <;> rfl
theorem eqGuard_slice (op : BinOp) (t : TypeId) (x y : Operand) (ad : Option Addr) (n c : Nat) (u : Value) : (eqGuard op t x y (.slice ad n c) u).run P w = .ok () w := by cases op <;> cases u <;> rfl

theorem equalIn_bool (n : Nat) {t : TypeId} {x y : Bool} (hu : (Go.underlying t).run P w = .ok .bool w) : (Op.equalIn (n + 1) t (.bool x) (.bool y)).run P w = .ok (x == y) w := by
  rw [Op.equalIn]; simp only [Sem.run_bind, hu, Result.andThen_ok, Sem.run_pure]
theorem equal_bool {t : TypeId} {x y : Bool} (hu : (Go.underlying t).run P w = .ok .bool w) : (Op.equal t (.bool x) (.bool y)).run P w = .ok (x == y) w := equalIn_bool 9999 hu
theorem equalIn_nil (m : Nat) {t e : TypeId} {ad : Option Addr} {n c : Nat} (hu : (Go.underlying t).run P w = .ok (.slice e) w) : (Op.equalIn (m + 1) t (.slice ad n c) (.slice none 0 0)).run P w = .ok ad.isNone w := by
  rw [Op.equalIn]; simp only [Sem.run_bind, hu, Result.andThen_ok]; cases ad <;> rfl
theorem equal_nil {t e : TypeId} {ad : Option Addr} {n c : Nat} (hu : (Go.underlying t).run P w = .ok (.slice e) w) : (Op.equal t (.slice ad n c) (.slice none 0 0)).run P w = .ok ad.isNone w := equalIn_nil 9999 hu
theorem binOp_eql (t : TypeId) {x y : Value} (h1 : (∃ b c, x = .bool b ∧ y = .bool c) ∨ ∃ ad n c, x = .slice ad n c ∧ y = .slice none 0 0) : binOp .eql t x y = (do pure (.bool (← Op.equal t x y))) := by
  rcases h1 with ⟨b, c, rfl, rfl⟩ | ⟨ad, n, c, rfl, rfl⟩ <;> rfl
theorem binOp_neq (t : TypeId) {x y : Value} (h1 : (∃ b c, x = .bool b ∧ y = .bool c) ∨ ∃ ad n c, x = .slice ad n c ∧ y = .slice none 0 0) : binOp .neq t x y = (do pure (.bool (!(← Op.equal t x y)))) := by
  rcases h1 with ⟨b, c, rfl, rfl⟩ | ⟨ad, n, c, rfl, rfl⟩ <;> rfl

theorem int_run (op : BinOp) (t : TypeId) (k k' : IntKind) (m n : Int) {v : Option D} {up : Up} (he : (evInt op k k' m n).run v up) : ∃ c : Value, v = some (.v c) ∧ up = [] ∧ c.oneCell' = true ∧ (binOp op t (.int k m) (.int k' n)).run P w = .ok c w := by
  cases op <;> simp only [evInt, Ev.run, Bool.and_eq_true, decide_eq_true_eq, Bool.not_eq_true', decide_eq_false_iff_not] at he
  case add => obtain ⟨rfl, he⟩ := he; obtain ⟨rfl, rfl⟩ := wrE_run he; exact ⟨_, rfl, rfl, rfl, by simp [binOp, Op.intArith, Op.intBits, Op.intCmp]⟩
  case sub => obtain ⟨rfl, he⟩ := he; obtain ⟨rfl, rfl⟩ := wrE_run he; exact ⟨_, rfl, rfl, rfl, by simp [binOp, Op.intArith, Op.intBits, Op.intCmp]⟩
  case mul => obtain ⟨rfl, he⟩ := he; obtain ⟨rfl, rfl⟩ := wrE_run he; exact ⟨_, rfl, rfl, rfl, by simp [binOp, Op.intArith, Op.intBits, Op.intCmp]⟩
  case shl => obtain ⟨h0, he⟩ := he; obtain ⟨rfl, rfl⟩ := wrE_run he; exact ⟨_, rfl, rfl, rfl, by rw [Int.mul_comm (2 ^ _)]; simp only [binOp, Op.shift, if_neg (show ¬ n < 0 by omega), Sem.run_pure]⟩
  case shr => obtain ⟨h0, he⟩ := he; obtain ⟨rfl, rfl⟩ := btE_run he; exact ⟨_, rfl, rfl, rfl, by simp only [binOp, Op.shift, if_neg (show ¬ n < 0 by omega), Sem.run_pure]⟩
  case quo => obtain ⟨⟨rfl, h0⟩, he⟩ := he; obtain ⟨rfl, rfl⟩ := btE_run he; exact ⟨_, rfl, rfl, rfl, by simp [binOp, Op.intDiv, h0]⟩
  case rem => obtain ⟨⟨rfl, h0⟩, he⟩ := he; obtain ⟨rfl, rfl⟩ := btE_run he; exact ⟨_, rfl, rfl, rfl, by simp [binOp, Op.intDiv, h0]⟩
  case and => obtain ⟨rfl, he⟩ := he; obtain ⟨rfl, rfl⟩ := btE_run he; exact ⟨_, rfl, rfl, rfl, by simp [binOp, Op.intArith, Op.intBits, Op.intCmp]⟩
  case or => obtain ⟨rfl, he⟩ := he; obtain ⟨rfl, rfl⟩ := btE_run he; exact ⟨_, rfl, rfl, rfl, by simp [binOp, Op.intArith, Op.intBits, Op.intCmp]⟩
  case xor => obtain ⟨rfl, he⟩ := he; obtain ⟨rfl, rfl⟩ := btE_run he; exact ⟨_, rfl, rfl, rfl, by simp [binOp, Op.intArith, Op.intBits, Op.intCmp]⟩
  case andNot => obtain ⟨rfl, he⟩ := he; obtain ⟨rfl, rfl⟩ := btE_run he; exact ⟨_, rfl, rfl, rfl, by simp [binOp, Op.intArith, Op.intBits, Op.intCmp]⟩
  all_goals (obtain ⟨rfl, rfl, rfl⟩ := he; exact ⟨_, rfl, rfl, rfl, by simp [binOp, Op.intArith, Op.intBits, Op.intCmp]⟩)

theorem str_run (op : BinOp) (t : TypeId) (m n : ByteArray) {v : Option D} {up : Up} (he : (evStr op m n).run v up) : ∃ c : Value, v = some (.v c) ∧ up = [] ∧ c.oneCell' = true ∧ (binOp op t (.string m) (.string n)).run P w = .ok c w := by
  cases op <;> simp only [evStr, Ev.run] at he
  case add =>
    obtain ⟨h0, rfl, rfl⟩ := he
    have h0 := Nat.le_of_ble_eq_true h0
    refine ⟨_, rfl, rfl, rfl, ?_⟩
    have : ¬ ((m.size + n.size : Nat) : Int) > IntKind.i64.max := by
      have : IntKind.i64.max = 9223372036854775807 := by decide
      rw [this]; unfold maxI at h0; omega
    simp only [binOp, Op.stringOp, if_neg this, Sem.run_pure]
  all_goals first | exact he.elim | (obtain ⟨rfl, rfl⟩ := he; exact ⟨_, rfl, rfl, rfl, by simp [binOp, Op.stringOp]⟩)

theorem binOp_sound (hT : T.ok P) (h : SR cx E s a w) {op : BinOp} {t yt : TypeId} {x y : Operand} (ho : o.op = .binOp op t x y yt) {v : Option D} {up : Up} (he : (evBin T s op t x y).run v up) : Post P cx E s a w i o v up := by
  unfold evBin at he
  split at he
  case h_1 k m k' n hx hy =>
    have hrx := h.eval hx
    have hry := h.eval hy
    generalize hux : a.eval x = ux at hrx
    generalize huy : a.eval y = uy at hry
    cases hrx; cases hry
    obtain ⟨c, rfl, rfl, h1, hr⟩ := int_run (P := P) (w := w) op t k k' m n he
    refine .pure h ?_ (.v c h1)
    unfold execOp
    simp only [ho, hux, huy, Sem.run_bind, eqGuard_int, Result.andThen_ok, hr, Sem.run_pure]
  case h_2 m n hx hy =>
    have hrx := h.eval hx
    have hry := h.eval hy
    generalize hux : a.eval x = ux at hrx
    generalize huy : a.eval y = uy at hry
    cases hrx; cases hry
    obtain ⟨c, rfl, rfl, h1, hr⟩ := str_run (P := P) (w := w) op t m n he
    refine .pure h ?_ (.v c h1)
    unfold execOp
    simp only [ho, hux, huy, Sem.run_bind, eqGuard_str, Result.andThen_ok, hr, Sem.run_pure]
  case h_3 m n hx hy =>
    have hrx := h.eval hx
    have hry := h.eval hy
    generalize hux : a.eval x = ux at hrx
    generalize huy : a.eval y = uy at hry
    cases hrx; cases hry
    split at he
    case h_3 => exact he.elim
    all_goals
      rename_i ti hti
      obtain ⟨hc, rfl, rfl⟩ := he
      have hund := TT.underlying hT hti w
      have hd : ti.desc = .bool := by cases hq : ti.desc <;> simp [hq, isBoolT] at hc ⊢
      rw [hd] at hund
      refine .pure h ?_ (.v _ rfl)
      unfold execOp
      first
        | (rw [ho]; simp only [hux, huy, Sem.run_bind, eqGuard_bool, Result.andThen_ok, binOp_eql t (.inl ⟨_, _, rfl, rfl⟩), equal_bool hund, Sem.run_pure]; done)
        | (rw [ho]; simp only [hux, huy, Sem.run_bind, eqGuard_bool, Result.andThen_ok, binOp_neq t (.inl ⟨_, _, rfl, rfl⟩), equal_bool hund, Sem.run_pure]; done)
  case h_4 d hx hy =>
    have hrx := h.eval hx
    have hry := h.eval hy
    generalize hux : a.eval x = ux at hrx
    generalize huy : a.eval y = uy at hry
    cases hry
    have key : ∀ b, nilD d = some b → ∃ (ad : Option Addr) (n c : Nat), ux = .slice ad n c ∧ ad.isNone = b := by
      intro b hb
      cases hrx with
      | v c hc =>
        unfold nilD at hb
        split at hb
        case h_1 e => cases hb; cases e; exact ⟨none, 0, 0, rfl, rfl⟩
        all_goals first | (rename_i e; cases e) | cases hb
      | sl nn n size cells ad c us hlen hd hone hn hs hc2 hnil hr =>
        cases nn with
        | true => cases hb; exact ⟨ad, n, c, rfl, by cases ad with | none => exact absurd (hnil rfl).2 (by decide) | some _ => rfl⟩
        | false => cases hb
      | ref k g off n sz c b off' tt m hg hb2 hc =>
        cases n with
        | zero => cases hb
        | succ n => cases hb; exact ⟨_, _, _, rfl, rfl⟩
      | refn => cases hb
      | _ => cases hb
    split at he
    case h_3 => exact he.elim
    all_goals
      rename_i ti b hti hb
      obtain ⟨hc, rfl, rfl⟩ := he
      obtain ⟨ad, n, c, rfl, hn⟩ := key b hb
      have hund := TT.underlying hT hti w
      obtain ⟨e, hd⟩ : ∃ e, ti.desc = .slice e := by cases hq : ti.desc <;> simp [hq, isSliceT] at hc ⊢
      rw [hd] at hund
      refine .pure h ?_ (.v _ rfl)
      unfold execOp
      subst hn
      first
        | (rw [ho]; simp only [hux, huy, Sem.run_bind, eqGuard_slice, Result.andThen_ok, binOp_eql t (.inr ⟨_, _, _, rfl, rfl⟩), equal_nil hund, Sem.run_pure]; done)
        | (rw [ho]; simp only [hux, huy, Sem.run_bind, eqGuard_slice, Result.andThen_ok, binOp_neq t (.inr ⟨_, _, _, rfl, rfl⟩), equal_nil hund, Sem.run_pure]; done)
  case h_5 cs ds hx hy =>
    have hrx := h.eval hx
    have hry := h.eval hy
    generalize hux : a.eval x = ux at hrx
    generalize huy : a.eval y = uy at hry
    cases hrx with
    | agg _ us hlen1 hd1 hone1 =>
    cases hry with
    | agg _ vs hlen2 hd2 hone2 =>
    have hcell : ∀ {l : List D} {us : List Value}, us.length = l.length → (∀ (i : Nat) d u, l[i]? = some d → us[i]? = some u → RD E w d u) → ∀ (i : Nat) d, l[i]? = some d → ∃ u, us[i]? = some u ∧ RD E w d u := fun {l us} hl hd i d hi => by
      have hlt : i < us.length := by rw [hl]; exact (List.getElem?_eq_some_iff.1 hi).1
      exact ⟨us[i], List.getElem?_eq_getElem hlt, hd i d _ hi (List.getElem?_eq_getElem hlt)⟩
    split at he
    case h_5 => exact he.elim
    case h_3 | h_4 =>
      rename_i n el z1 z2 z3 pl hti
      split at he
      case h_2 => exact he.elim
      rename_i b hb
      obtain ⟨hc, rfl, rfl⟩ := he
      subst hc
      obtain ⟨p1, p2, p3⟩ := (hT t _ hti).2.2.2 rfl
      have hund := TT.underlying hT hti w
      have heq : (Op.equal t (.agg us.toArray) (.agg vs.toArray)).run P w = .ok b w := by
        unfold evEqA at hb
        split at hb
        case h_2 => cases hb
        rename_i ei hei
        split at hb
        case h_2 => cases hb
        rename_i hsz
        rw [Bool.and_eq_true] at hsz
        have s1 := Nat.eq_of_beq_eq_true hsz.1
        have s2 := Nat.eq_of_beq_eq_true hsz.2
        have hl := eqAs_run (P := P) (w := w) hT hei (E := E) us vs 9998 _ _ 0 b (fun j d hd => by rw [Nat.zero_add]; exact hcell hlen1 hd1 j d hd) (fun j d hd => by rw [Nat.zero_add]; exact hcell hlen2 hd2 j d hd) hb
        unfold Op.equal Op.maxDepth
        rw [show (10000 : Nat) = 9998 + 1 + 1 from rfl, Op.equalIn]
        simp only [Sem.run_bind, hund, Result.andThen_ok, TT.sizeOf hT hei w, s1]
        rw [s2] at hl
        simp only [Std.Legacy.Range.forIn_eq_forIn_range', Std.Legacy.Range.size]
        rw [show (n - 0 + 1 - 1) / 1 = n from by rw [Nat.div_one]; omega, hl]
        cases b <;> rfl
      refine .pure h ?_ (.v _ rfl)
      unfold execOp
      rw [ho]
      simp only [hux, huy, Sem.run_bind, eqGuard_agg _ _ _ _ _ _ p2, Result.andThen_ok, binOp_eql_agg, binOp_neq_agg, heq, Sem.run_pure]
    all_goals
      rename_i fs z1 z2 z3 pl hti
      split at he
      case h_2 => exact he.elim
      rename_i b hb
      obtain ⟨hc, rfl, rfl⟩ := he
      subst hc
      obtain ⟨p1, p2, p3⟩ := (hT t _ hti).2.2.2 rfl
      have hund := TT.underlying hT hti w
      have heq : (Op.equal t (.agg us.toArray) (.agg vs.toArray)).run P w = .ok b w := equalIn_struct 9999 hund p1 (eqFs_run hT (hcell hlen1 hd1) (hcell hlen2 hd2) 9998 fs.toList b (fun f hf => by
        have := List.all_eq_true.1 (p3 fs rfl) f hf
        simpa using this) hb)
      refine .pure h ?_ (.v _ rfl)
      unfold execOp
      rw [ho]
      simp only [hux, huy, Sem.run_bind, eqGuard_agg _ _ _ _ _ _ p2, Result.andThen_ok, binOp_eql_agg, binOp_neq_agg, heq, Sem.run_pure]
  case h_6 => exact he.elim

/-! ### unOp -/
def evUn (s : AS) (op : UnOp) (x : Operand) : Ev :=
  match op, evO s x with
  | .not, some (.v (.bool b)) => .ok (some (.v (.bool (!b)))) []
  | .neg, some (.v (.int k n)) => wrE k (0 - n)
  | .xor, some (.v (.int k n)) => btE k (k.wrap ((BitVec.ofInt k.bits (if k.signed then -1 else k.max) ^^^ BitVec.ofInt k.bits n).toNat : Int))
  | _, _ => .stuck
theorem unOp_sound (h : SR cx E s a w) {op : UnOp} {t : TypeId} {x : Operand} (ho : o.op = .unOp op t x) {v : Option D} {up : Up} (he : (evUn s op x).run v up) : Post P cx E s a w i o v up := by
  unfold evUn at he
  split at he
  case h_4 => exact he.elim
  all_goals
    rename_i hx
    have hrx := h.eval hx
    generalize hux : a.eval x = ux at hrx
    cases hrx
    first | obtain ⟨rfl, rfl⟩ := btE_run he | obtain ⟨rfl, rfl⟩ := wrE_run he | obtain ⟨rfl, rfl⟩ := he
    refine .pure h ?_ (.v _ rfl)
    unfold execOp
    simp only [ho, hux, Sem.run_bind, Op.unary, Op.intArith, Op.intBits, Sem.run_pure, Result.andThen_ok]

/-! ### convert: numbers; texts that stay -/
def evConvN (T : TT) (s : AS) (src dst : TypeId) (x : Operand) : Ev :=
  match T.get src, T.get dst, evO s x with
  | some _, some ⟨.int k, _, _, _, _⟩, some (.v (.int _ n)) => wrE k n
  | some _, some ⟨.string, _, _, _, _⟩, some (.v (.string b)) => .ok (some (.v (.string b))) []
  | _, _, _ => .stuck
theorem convN_sound (hT : T.ok P) (h : SR cx E s a w) {src dst : TypeId} {x : Operand} (ho : o.op = .convert src dst x) {v : Option D} {up : Up} (he : (evConvN T s src dst x).run v up) : Post P cx E s a w i o v up := by
  unfold evConvN at he
  split at he
  case h_3 => exact he.elim
  all_goals
    rename_i h1 h2 hx
    have hrx := h.eval hx
    generalize hux : a.eval x = ux at hrx
    cases hrx
    first | obtain ⟨rfl, rfl⟩ := btE_run he | obtain ⟨rfl, rfl⟩ := wrE_run he | obtain ⟨rfl, rfl⟩ := he
    have u1 := TT.underlying hT h1 w
    have u2 := TT.underlying hT h2 w
    refine .pure h ?_ (.v _ rfl)
    unfold execOp
    simp only [ho, hux, Sem.run_bind, convert, u1, u2, Result.andThen_ok]
    rfl

/-! ### len, min, max -/
def lenD : D → Option Nat
  | .sl _ n _ _ => some n
  | .ref _ _ _ n _ => some n
  | .v (.slice _ n _) => some n
  | _ => none
def evLen (T : TT) (s : AS) (ts : Array TypeId) (xs : Array Operand) : Ev :=
  match ts.toList, xs.toList with
  | t :: _, x :: _ => match T.get t, evO s x with
    | some ⟨.slice _, _, _, _, _⟩, some d => match lenD d with
      | some n => .ok (some (.v (.int .i64 (n : Int)))) []
      | none => .stuck
    | some ⟨.string, _, _, _, _⟩, some (.v (.string b)) => .ok (some (.v (.int .i64 (b.size : Int)))) []
    | some ⟨.array n _, _, _, _, _⟩, some _ => .ok (some (.v (.int .i64 (n : Int)))) []
    | _, _ => .stuck
  | _, _ => .stuck
theorem lenD_sound {d : D} {u : Value} {n : Nat} (h : RD E w d u) (hn : lenD d = some n) : ∃ ad c, u = .slice ad n c := by
  cases h with
  | v c hc =>
    unfold lenD at hn
    split at hn
    case h_3 e => cases hn; cases e; exact ⟨_, _, rfl⟩
    all_goals first | (rename_i e; cases e) | cases hn
  | sl => cases hn; exact ⟨_, _, rfl⟩
  | ref => cases hn; exact ⟨_, _, rfl⟩
  | refn => cases hn; exact ⟨_, _, rfl⟩
  | _ => cases hn

theorem len_sound (hT : T.ok P) (h : SR cx E s a w) {c : Call} (ho : o.op = .call c) (hc : c.callee = .builtin .len) {v : Option D} {up : Up} (he : (evLen T s c.argTypes c.args).run v up) : Post P cx E s a w i o v up := by
  unfold evLen at he
  split at he
  case h_2 => exact he.elim
  case h_1 t tr x xr hts hxs =>
  have e1 : c.argTypes[0]? = some t := by rw [← Array.getElem?_toList, hts]; rfl
  have e2 : (c.args.map a.eval)[0]? = some (a.eval x) := by
    rw [Array.getElem?_map, ← Array.getElem?_toList, hxs]; rfl
  have run0 : ∀ {u : Value}, (Builtin.len_ c.argTypes o.type (c.args.map a.eval)).run P w = .ok u w → (execOp a.eval o).run P w = .ok (.value u) w := fun hu => by
    unfold execOp
    simp only [ho, resolve, hc, Sem.run_bind, Sem.run_pure, Result.andThen_ok, invoke, builtin, hu]
  split at he
  case h_1 hti hx =>
    split at he
    case h_2 => exact he.elim
    case h_1 n hn =>
    obtain ⟨rfl, rfl⟩ := he
    obtain ⟨ad, cp, hu⟩ := lenD_sound (h.eval hx) hn
    refine .pure h (run0 ?_) (.v _ rfl)
    simp only [Builtin.len_, e1, e2, hu, Sem.run_bind, TT.underlying hT hti w, Result.andThen_ok, goInt, Sem.run_pure]
  case h_2 hti hx =>
    have hrx := h.eval hx
    generalize hux : a.eval x = ux at hrx e2
    cases hrx
    obtain ⟨rfl, rfl⟩ := he
    refine .pure h (run0 ?_) (.v _ rfl)
    simp only [Builtin.len_, e1, e2, Sem.run_bind, TT.underlying hT hti w, Result.andThen_ok, goInt, Sem.run_pure]
  case h_3 hti hx =>
    obtain ⟨rfl, rfl⟩ := he
    refine .pure h (run0 ?_) (.v _ rfl)
    simp only [Builtin.len_, e1, e2, Sem.run_bind, TT.underlying hT hti w, Result.andThen_ok, goInt, Sem.run_pure]
  case h_4 => exact he.elim

/-- The smaller, or the greater, of two numbers, where that can be seen. -/
def minO (k : IntKind) (mx : Bool) (m n : Int) : Option D := match (bif mx then decide (n > m) else decide (n < m)) with
  | true => some (.v (.int k n))
  | false => some (.v (.int k m))
theorem minO_eq (k : IntKind) (mx : Bool) (m n : Int) : minO k mx m n = some (.v (.int k (bif mx then (if n > m then n else m) else (if n < m then n else m)))) := by
  unfold minO
  cases mx with
  | true => simp only [cond_true]; by_cases h : n > m <;> simp [h]
  | false => simp only [cond_false]; by_cases h : n < m <;> simp [h]
def evMin (s : AS) (mx : Bool) (xs : Array Operand) : Ev :=
  match xs.toList with
  | [x, y] => match evO s x, evO s y with
    | some (.v (.int k m)), some (.v (.int _ n)) => .opt (minO k mx m n) fun d => .ok (some d) []
    | _, _ => .stuck
  | _ => .stuck
theorem min_sound (h : SR cx E s a w) {c : Call} (ho : o.op = .call c) {mx : Bool} (hc : c.callee = .builtin (bif mx then .max else .min)) {v : Option D} {up : Up} (he : (evMin s mx c.args).run v up) : Post P cx E s a w i o v up := by
  unfold evMin at he
  split at he
  case h_2 => exact he.elim
  case h_1 x y hxs =>
  split at he
  case h_2 => exact he.elim
  case h_1 k m k' n hx hy =>
  have hrx := h.eval hx
  have hry := h.eval hy
  generalize hux : a.eval x = ux at hrx
  generalize huy : a.eval y = uy at hry
  cases hrx; cases hry
  obtain ⟨d, hd, rfl, rfl⟩ := he
  rw [minO_eq] at hd; cases hd
  have e2 : (c.args.map a.eval).toList = [.int k m, .int k' n] := by rw [Array.toList_map, hxs]; simp [hux, huy]
  refine .pure h ?_ (.v _ rfl)
  cases mx
  · simp only [cond_false] at hc
    unfold execOp
    simp only [ho, resolve, hc, Sem.run_bind, Sem.run_pure, Result.andThen_ok, invoke, builtin, Builtin.min_, e2, List.foldlM_cons, List.foldlM_nil, Builtin.min2, cond_false]
  · simp only [cond_true] at hc
    unfold execOp
    simp only [ho, resolve, hc, Sem.run_bind, Sem.run_pure, Result.andThen_ok, invoke, builtin, Builtin.max_, e2, List.foldlM_cons, List.foldlM_nil, Builtin.max2, cond_true]
end
end Go.Vx

/- VxByt: small laws about cells that are bytes. No program. -/
import Derived.Test.YtegjeagfcfhbeaaVxBit
namespace Go.Vx
set_option linter.unusedVariables false
set_option linter.unusedSimpArgs false
open Go.RowKit Go.Bw
theorem blk_eq {A B : List D} {e : TypeId} {r : Bool} (h : A = B) : Blk.mk A e r = Blk.mk B e r := by rw [h]
theorem D.sim.slN {nn : Bool} {n n' sz : Nat} {cells cells' : List D} (h1 : n = n') (h2 : cells = cells') : (D.sl nn n sz cells).sim (.sl nn n' sz cells') := by rw [h1, h2]; exact D.sim.refl _
theorem D.sim.tup {l l' : List D} (h : simL l l') : (D.tup l).sim (.tup l') := fun E w u hr => by
  obtain ⟨h1, h2⟩ := h.get
  cases hr with
  | tup _ us hlen hd =>
    refine .tup _ us (by rw [hlen, h1]) fun i d u a b => ?_
    obtain ⟨d0, c1, c2⟩ := h2 i d a
    exact c2 _ _ _ (hd i d0 u c1 b)
theorem D.sim.ifc {t : TypeId} {x x' : D} (h : x.sim x') : (D.ifc t x).sim (.ifc t x') := fun E w u hr => by
  cases hr with
  | ifc _ _ u hx => exact .ifc _ _ u (h _ _ _ hx)
theorem cond_t {α : Type} {c : Bool} {a b : α} (h : c = true) : cond c a b = a := by rw [h]; rfl
theorem cond_f {α : Type} {c : Bool} {a b : α} (h : c = false) : cond c a b = b := by rw [h]; rfl
theorem minO_min (k : IntKind) (m n : Int) : minO k false m n = some (.v (.int k (min m n))) := minO_is rfl
theorem maxO_max (k : IntKind) (m n : Int) : minO k true m n = some (.v (.int k (max m n))) := maxO_is rfl
theorem not_t {b : Bool} (h : (!b) = true) : b = false := by cases b <;> simp_all
theorem not_f {b : Bool} (h : (!b) = false) : b = true := by cases b <;> simp_all
theorem and_t1 {a b : Bool} (h : (a && b) = true) : a = true := by cases a <;> simp_all
theorem and_t2 {a b : Bool} (h : (a && b) = true) : b = true := by cases a <;> simp_all
theorem or_f1 {a b : Bool} (h : (a || b) = false) : a = false := by cases a <;> simp_all
theorem or_f2 {a b : Bool} (h : (a || b) = false) : b = false := by cases a <;> simp_all
theorem bv_eq {a b : Bool} (h : a = b) : D.v (.bool a) = D.v (.bool b) := by rw [h]
theorem and_tI {a b : Bool} (h1 : a = true) (h2 : b = true) : (a && b) = true := by rw [h1, h2]; rfl
theorem nbeq {a b : Nat} (h : a = b) : Nat.beq a b = true := by rw [h]; exact Nat.beq_refl b
theorem u8_rng (b : UInt8) {m n : Int} (hm : m ≤ 0) (hn : 255 ≤ n) : m ≤ (b.toNat : Int) ∧ (b.toNat : Int) ≤ n := by
  have := b.toNat_lt
  constructor <;> omega
theorem iv_eq {k : IntKind} {a b : Int} (h : a = b) : D.v (.int k a) = D.v (.int k b) := by rw [h]
theorem dB_fold (b : UInt8) : D.v (.int .u8 (b.toNat : Int)) = dB b := rfl
theorem take_succ_getD {α : Type} [Inhabited α] {l : List α} {i : Nat} (h : i < l.length) : l.take (i + 1) = l.take i ++ [l.getD i default] := by
  rw [List.take_add_one, List.getElem?_eq_getElem h]; simp [h]
/-- A byte and one more. -/
theorem dB_wrap (x : Int) : D.v (.int .u8 (IntKind.u8.wrap x)) = dB (UInt8.ofNat (x % 256).toNat) := by
  unfold dB
  have h0 := Int.emod_nonneg x (show (256 : Int) ≠ 0 by decide)
  have h1 := Int.emod_lt_of_pos x (show (0 : Int) < 256 by decide)
  have e : IntKind.u8.wrap x = x % 256 := rfl
  have h : ((UInt8.ofNat (x % 256).toNat).toNat : Int) = x % 256 := by
    rw [UInt8.toNat_ofNat']
    omega
  rw [e, h]
theorem dB_add (b c : UInt8) : D.v (.int .u8 (IntKind.wrap .u8 ((b.toNat : Int) + (c.toNat : Int)))) = dB (b + c) := by
  rw [dB_wrap]
  congr 1
  apply UInt8.toNat_inj.1
  rw [UInt8.toNat_ofNat', UInt8.toNat_add]
  omega
theorem dB_inc (b : UInt8) : D.v (.int .u8 (IntKind.wrap .u8 ((b.toNat : Int) + 1))) = dB (b + 1) := dB_add b 1
theorem cl_take {l : List D} (h : closedL l = true) (n : Nat) : closedL (l.take n) = true := closedL_iff.2 fun d hd => closedL_iff.1 h d (List.mem_of_mem_take hd)
theorem cl_drop {l : List D} (h : closedL l = true) (n : Nat) : closedL (l.drop n) = true := closedL_iff.2 fun d hd => closedL_iff.1 h d (List.mem_of_mem_drop hd)
theorem cl_seg (c : Bool) (bs : List UInt8) (a n : Nat) : closedL (bif c then bs.map dB else ((bs.map dB).drop a).take n) = true := by
  cases c
  · exact cl_take (cl_drop (cl_bytes bs) a) n
  · exact cl_bytes bs
/-- The first n bytes are turned. -/
def turnB (f : UInt8 → UInt8) (bs : List UInt8) (n : Nat) : List UInt8 := (bs.take n).map f ++ bs.drop n
theorem turnB_length (f : UInt8 → UInt8) (bs : List UInt8) (n : Nat) : (turnB f bs n).length = bs.length := by simp [turnB]; omega
theorem turnB_zero (f : UInt8 → UInt8) (bs : List UInt8) : turnB f bs 0 = bs := by simp [turnB]
theorem turnB_getD (f : UInt8 → UInt8) (bs : List UInt8) (n : Nat) : (turnB f bs n).getD n default = bs.getD n default := by
  unfold turnB
  simp only [List.getD_eq_getElem?_getD]
  by_cases h : n < bs.length
  · rw [List.getElem?_append_right (by simp; omega)]
    simp only [List.length_map, List.length_take, Nat.min_eq_left (Nat.le_of_lt h), Nat.sub_self, List.getElem?_drop, Nat.add_zero]
  · rw [List.getElem?_eq_none (by simp; omega), List.getElem?_eq_none (by omega)]
theorem turnB_set (f : UInt8 → UInt8) {bs : List UInt8} {n : Nat} (h : n < bs.length) (d : D) (hd : d = dB (f (bs.getD n default))) : setSeg ((turnB f bs n).map dB) n [d] = (turnB f bs (n + 1)).map dB := by
  subst hd
  unfold setSeg turnB
  have hl : ((bs.take n).map f).length = n := by simp; omega
  rw [take_succ_getD h]
  simp only [List.map_append, List.take_append, List.drop_append, List.length_map, hl, List.length_take, List.length_singleton]
  have e1 : (List.map dB (List.map f (List.take n bs))).take n = List.map dB (List.map f (List.take n bs)) := List.take_of_length_le (by simp; omega)
  have e2 : (List.map dB (List.map f (List.take n bs))).drop (n + 1) = [] := List.drop_eq_nil_of_le (by simp; omega)
  have hm : min n bs.length = n := by omega
  simp only [e1, e2, hm, Nat.sub_self, List.take_zero, List.append_nil, List.nil_append, List.append_assoc]
  simp [List.drop_drop, Nat.add_comm]
theorem cl_tk (bs : List UInt8) (n : Nat) : closedL ((bs.map dB).take n) = true := cl_take (cl_bytes bs) n
theorem cl_dr (bs : List UInt8) (n : Nat) : closedL ((bs.map dB).drop n) = true := cl_drop (cl_bytes bs) n
theorem cl_cond (c : Bool) (a b : List D) : closedL (cond c a b) = cond c (closedL a) (closedL b) := by cases c <;> rfl
theorem cl_app (a b : List D) : closedL (a ++ b) = (closedL a && closedL b) := by
  induction a with
  | nil => rfl
  | cons x a ih => show (x.closed && closedL (a ++ b)) = _; rw [ih, ← Bool.and_assoc]; rfl
theorem of_bne_t {α : Type} [BEq α] [LawfulBEq α] {a b : α} (h : (a != b) = true) : a ≠ b := by simpa using h
theorem of_bne_f {α : Type} [BEq α] [LawfulBEq α] {a b : α} (h : (a != b) = false) : a = b := by simpa using h
theorem of_beq_f {α : Type} [BEq α] [LawfulBEq α] {a b : α} (h : (a == b) = false) : a ≠ b := by simpa using h
theorem ba_toList (l : List UInt8) : (ByteArray.mk l.toArray).toList = l := by rw [ByteArray.toList_eq]
theorem ba_append (a b : List UInt8) : ByteArray.mk a.toArray ++ ByteArray.mk b.toArray = ByteArray.mk (a ++ b).toArray := by
  apply ByteArray.ext
  simp
theorem ba_size (a : List UInt8) : (ByteArray.mk a.toArray).size = a.length := rfl
/-- Elements of some cells each. -/
theorem fm_get {α : Type} [Inhabited α] {f : α → List D} {k : Nat} (hk : ∀ x, (f x).length = k) : ∀ {xs : List α} {i j : Nat}, i < xs.length → j < k → (xs.flatMap f)[i * k + j]? = (f (xs.getD i default))[j]?
  | [], i, j, h, _ => by simp at h
  | x :: xs, 0, j, h, hj => by
    rw [List.flatMap_cons, Nat.zero_mul, Nat.zero_add, List.getElem?_append_left (by rw [hk]; exact hj)]; rfl
  | x :: xs, i + 1, j, h, hj => by
    rw [List.flatMap_cons, List.getElem?_append_right (by rw [hk, Nat.add_mul]; omega), hk]
    have e : (i + 1) * k + j - k = i * k + j := by rw [Nat.add_mul]; omega
    rw [e, fm_get hk (by simpa using h) hj]; rfl
theorem fm_at {α : Type} [Inhabited α] {f : α → List D} {k : Nat} (hk : ∀ x, (f x).length = k) {xs : List α} {i n j : Nat} {d : D} (h : i < xs.length) (e : n = i * k + j) (hj : (f (xs.getD i default))[j]? = some d) : (xs.flatMap f)[n]? = some d := by
  have hlt : j < k := by rw [← hk (xs.getD i default)]; exact (List.getElem?_eq_some_iff.1 hj).1
  rw [e, fm_get hk h hlt]; exact hj
theorem fm_length {α : Type} {f : α → List D} {k : Nat} (hk : ∀ x, (f x).length = k) : ∀ (xs : List α), (xs.flatMap f).length = xs.length * k
  | [] => by simp
  | x :: xs => by rw [List.flatMap_cons, List.length_append, hk, fm_length hk xs, List.length_cons, Nat.add_mul]; omega
theorem fm_elem {α : Type} [Inhabited α] {f : α → List D} {k : Nat} (hk : ∀ x, (f x).length = k) {xs : List α} {i n : Nat} (h : i < xs.length) (e : n = i * k) : ((xs.flatMap f).drop n).take k = f (xs.getD i default) := by
  apply List.ext_getElem?
  intro j
  rw [List.getElem?_take]
  by_cases hj : j < k
  · rw [if_pos hj, List.getElem?_drop, e, fm_get hk h hj]
  · rw [if_neg hj, List.getElem?_eq_none (by rw [hk]; omega)]
theorem td_at {l : List D} {m n j : Nat} {d : D} (h : j < n) (hj : l[m + j]? = some d) : ((l.drop m).take n)[j]? = some d := by
  rw [List.getElem?_take, if_pos h, List.getElem?_drop]; exact hj
/-- Bytes behind a place are turned. -/
def turnO (f : UInt8 → UInt8) (bs : List UInt8) (o n : Nat) : List UInt8 := bs.take o ++ turnB f (bs.drop o) n
theorem turnO_length (f : UInt8 → UInt8) (bs : List UInt8) (o n : Nat) : (turnO f bs o n).length = bs.length := by
  unfold turnO; rw [List.length_append, turnB_length, ← List.length_append, List.take_append_drop]
theorem turnO_zero (f : UInt8 → UInt8) (bs : List UInt8) (o : Nat) : turnO f bs o 0 = bs := by simp [turnO, turnB_zero]
theorem turnO_getD (f : UInt8 → UInt8) (bs : List UInt8) (o n : Nat) (h : o ≤ bs.length) : (turnO f bs o n).getD (o + n) default = bs.getD (o + n) default := by
  unfold turnO
  have e : (bs.take o).length = o := by simp; omega
  have h1 := turnB_getD f (bs.drop o) n
  simp only [List.getD_eq_getElem?_getD] at h1 ⊢
  rw [List.getElem?_append_right (by omega), e, Nat.add_sub_cancel_left, h1, List.getElem?_drop]
theorem setSeg_app {a b : List D} {n : Nat} {ds : List D} : setSeg (a ++ b) (a.length + n) ds = a ++ setSeg b n ds := by
  unfold setSeg
  rw [List.take_append, List.drop_append, List.take_of_length_le (by omega), Nat.add_sub_cancel_left, List.drop_eq_nil_of_le (by omega), show a.length + n + ds.length - a.length = n + ds.length by omega]
  simp [List.append_assoc]
theorem turnO_set (f : UInt8 → UInt8) {bs : List UInt8} {o n k : Nat} (h : o + n < bs.length) (hk : k = o + n) (d : D) (hd : d = dB (f (bs.getD k default))) : setSeg ((turnO f bs o n).map dB) k [d] = (turnO f bs o (n + 1)).map dB := by
  subst hk
  unfold turnO
  rw [List.map_append, List.map_append]
  have e : ((bs.take o).map dB).length = o := by simp; omega
  have h2 := turnB_set f (bs := bs.drop o) (n := n) (by simp; omega) d (by rw [hd]; congr 2; simp [List.getD_eq_getElem?_getD])
  have h3 := setSeg_app (a := (bs.take o).map dB) (b := (turnB f (bs.drop o) n).map dB) (n := n) (ds := [d])
  rw [e, h2] at h3
  exact h3
theorem seg_bytes (bs : List UInt8) (off m : Nat) : (bif Nat.beq off 0 && Nat.beq m (bs.map dB).length then bs.map dB else ((bs.map dB).drop off).take m) = ((bs.drop off).take m).map dB := by
  cases h : Nat.beq off 0 && Nat.beq m (bs.map dB).length with
  | true =>
    have h1 := Nat.eq_of_beq_eq_true (and_t1 h)
    have h2 := Nat.eq_of_beq_eq_true (and_t2 h)
    subst h1 h2
    simp
  | false => rw [cond_false, List.map_take, List.map_drop]
theorem optmap_get {α β : Type} [Inhabited α] {l : List α} {i : Nat} (f : α → β) (h : i < l.length) : (l[i]?).map f = some (f (l.getD i default)) := by
  rw [List.getD_eq_getElem?_getD, List.getElem?_eq_getElem h]; rfl
/-- A slice of bytes, or nil. -/
abbrev partD (p : List UInt8) : D := .sl false p.length 1 (p.map dB)
theorem D.sim.nil {sz : Nat} (h : 0 < sz) : (D.v (.slice none 0 0)).sim (.sl false 0 sz []) := fun E w u hr => by
  cases hr with
  | v => exact .sl false 0 sz [] none 0 [] rfl (by simp) (by simp) (by simp) h ⟨Nat.le_refl _, Nat.zero_le _⟩ (fun _ => ⟨rfl, rfl⟩) (.inl rfl)
theorem D.sim.slc {nn : Bool} {n n' sz : Nat} {cells cells' : List D} (h1 : n = n') (h2 : simL cells cells') : (D.sl nn n sz cells).sim (.sl false n' sz cells') := by
  subst h1
  intro E w u h
  obtain ⟨e, g⟩ := h2.get
  cases h with
  | sl _ _ _ _ a c us hlen hd h1 hn hs hc h0 hr =>
    refine .sl false n sz cells' a c us (by rw [hlen, e]) (fun i d' u a1 a2 => ?_) h1 (by rw [← e, hn]) hs hc (fun h => ⟨(h0 h).1, rfl⟩) hr
    obtain ⟨d, b1, b2⟩ := g i d' a1
    exact b2 _ _ _ (hd i d u b1 a2)
theorem setSeg_full {X Y : List D} (h : X.length ≤ Y.length) : setSeg X 0 Y = Y := by
  unfold setSeg
  rw [List.take_zero, List.nil_append, List.drop_eq_nil_of_le (by omega), List.append_nil]
theorem cl_fm {α : Type} {f : α → List D} (h : ∀ x, closedL (f x) = true) : ∀ l : List α, closedL (l.flatMap f) = true
  | [] => rfl
  | x :: l => by rw [List.flatMap_cons, cl_app, h x, cl_fm h l]; rfl
theorem pl_fm {α : Type} {f : α → List D} (h : ∀ x, plL (f x) = true) (l : List α) : plL (l.flatMap f) = true := plL_iff.2 fun d hd => by
  obtain ⟨t, _, hd⟩ := List.mem_flatMap.1 hd
  exact plL_iff.1 (h t) d hd
theorem fm_take {α : Type} {f : α → List D} {k : Nat} (hk : ∀ x, (f x).length = k) : ∀ (xs : List α) (i : Nat), (xs.flatMap f).take (i * k) = (xs.take i).flatMap f
  | [], i => by simp
  | x :: xs, 0 => by simp
  | x :: xs, i + 1 => by
    rw [List.flatMap_cons, List.take_succ_cons, List.flatMap_cons, List.take_append, hk, List.take_of_length_le (by rw [hk, Nat.add_mul]; omega), show (i + 1) * k - k = i * k from by rw [Nat.add_mul]; omega, fm_take hk xs i]
theorem fm_drop {α : Type} {f : α → List D} {k : Nat} (hk : ∀ x, (f x).length = k) : ∀ (xs : List α) (i : Nat), (xs.flatMap f).drop (i * k) = (xs.drop i).flatMap f
  | [], i => by simp
  | x :: xs, 0 => by simp
  | x :: xs, i + 1 => by
    rw [List.flatMap_cons, List.drop_succ_cons, List.drop_append, hk, List.drop_eq_nil_of_le (by rw [hk, Nat.add_mul]; omega), show (i + 1) * k - k = i * k from by rw [Nat.add_mul]; omega, fm_drop hk xs i]; rfl
theorem fm_td {α : Type} {f : α → List D} {k : Nat} (hk : ∀ x, (f x).length = k) (xs : List α) (o m : Nat) : ((xs.flatMap f).drop (o * k)).take (m * k) = ((xs.drop o).take m).flatMap f := by rw [fm_drop hk, fm_take hk]
theorem seg_fm {α : Type} {f : α → List D} {k : Nat} (hk : ∀ x, (f x).length = k) (xs : List α) (off m o n : Nat) (h1 : off = o * k) (h2 : n = m * k) : (bif Nat.beq off 0 && Nat.beq n (xs.flatMap f).length then xs.flatMap f else ((xs.flatMap f).drop off).take n) = ((xs.drop o).take m).flatMap f := by
  have e := segOf_eq (xs.flatMap f) off n
  unfold segOf at e
  rw [e, h1, h2, fm_td hk]
/-- One more element behind. -/
theorem fm_snoc {α : Type} {f : α → List D} {c : List α} {l : List D} {t : α} {y : TypeId} {r : Bool} (h : l = f t) : (⟨c.flatMap f ++ l, y, r⟩ : Blk) = ⟨(c ++ [t]).flatMap f, y, r⟩ := by rw [h, List.flatMap_append]; simp
theorem cl_dB (b : UInt8) : (dB b).closed = true := rfl
attribute [simp] ba_toList ba_append ba_size
attribute [simp] isSliceT isStrT isU8 isBoolT bndOk lowN highN lenL tot cat segA closedL D.closed cl_bytes cl_tk cl_dr cl_cond cl_app cl_take cl_drop cl_fm cl_dB repD ofConst take_all_map
end Go.Vx

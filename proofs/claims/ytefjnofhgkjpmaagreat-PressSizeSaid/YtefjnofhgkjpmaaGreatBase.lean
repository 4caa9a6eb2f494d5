/- Base: slices that are read, as lists; small laws. No program. -/
import Derived.WalkKit
import Derived.WalkSpells
import Derived.WalkLawsBesides
import Derived.Outline
import Derived.Lib.Hide
import Derived.Lib.SlBytesConst
import Derived.ProofKit
import Derived.OpenShut
import Derived.ShutString
import Derived.Below
import Derived.Deep.MidRow
import Derived.Deep.AppendLies
import Derived.Maps.AppendAt
import Derived.Laws.AppendOwnNone
import Derived.Deep.RegionHeld3
import Derived.Deep.QuietTactic
import Derived.BigQuiet
import Derived.Deep.DrawnRows
namespace Go.Bw
open Go.RowKit

/-- A slice of n elements of `size` cells that can be read: its cells are cs. -/
def Row (w : World) (a : Option Addr) (cap n size : Nat) (cs : List Value) : Prop :=
  cs.length = n * size ∧ n ≤ cap ∧ cap ≤ 9223372036854775807 ∧ (a = none → cap = 0) ∧
  (n = 0 ∨ ∃ b off, a = some ⟨b, off, none⟩ ∧ b < w.heap.size ∧ ∀ i v, cs[i]? = some v → w.cell? ⟨b, off + i, none⟩ = some v)

/-- A byte as a value. -/
def bv (x : UInt8) : Value := .int .u8 (x.toNat : Int)

/-- A slice of bytes. -/
def BRow (w : World) (a : Option Addr) (cap : Nat) (bs : List UInt8) : Prop := Row w a cap bs.length 1 (bs.map bv)

theorem Row.below {w w' : World} {a : Option Addr} {cap n size : Nat} {cs : List Value} {B : Nat} (h : Row w a cap n size cs) (hb : Below B w w') (hB : B = w.heap.size) : Row w' a cap n size cs := by
  subst hB
  obtain ⟨h1, h2, h3, h0, h4⟩ := h
  refine ⟨h1, h2, h3, h0, ?_⟩
  rcases h4 with h4 | ⟨b, off, ha, hlt, hc⟩
  · exact .inl h4
  · exact .inr ⟨b, off, ha, Nat.lt_of_lt_of_le hlt hb.size, fun i v hv => (hb.cell (p := ⟨b, off + i, none⟩) hlt).trans (hc i v hv)⟩

theorem BRow.below {w w' : World} {a : Option Addr} {cap : Nat} {bs : List UInt8} {B : Nat} (h : BRow w a cap bs) (hb : Below B w w') (hB : B = w.heap.size) : BRow w' a cap bs := Row.below h hb hB

theorem BRow.nil (w : World) : BRow w none 0 [] := ⟨rfl, Nat.le_refl _, by omega, fun _ => rfl, .inl rfl⟩

theorem BRow.le {w : World} {a : Option Addr} {cap : Nat} {bs : List UInt8} (h : BRow w a cap bs) : bs.length ≤ cap ∧ cap ≤ 9223372036854775807 := ⟨h.2.1, h.2.2.1⟩

/-- An index that is in range: the address, and the cell. -/
theorem BRow.get {w : World} {a : Option Addr} {cap : Nat} {bs : List UInt8} (h : BRow w a cap bs) (k : Nat) (hk : k < bs.length) :
    ∃ b off, a = some ⟨b, off, none⟩ ∧ b < w.heap.size ∧ w.cell? ⟨b, off + k, none⟩ = some (.int .u8 ((bs[k]).toNat : Int)) := by
  obtain ⟨h1, h2, h3, h0, h4⟩ := h
  rcases h4 with h4 | ⟨b, off, ha, hlt, hc⟩
  · omega
  · exact ⟨b, off, ha, hlt, hc k _ (by simp [List.getElem?_eq_getElem hk, bv])⟩

theorem BRow.of_cells_at {w : World} {g : Nat} {bs : List UInt8} {cs : Array Value} {t : TypeId} {fr : Nat × Nat} (hg : g = w.heap.size) (h : cs = (bs.map bv).toArray) (hl : bs.length ≤ 9223372036854775807) :
    BRow (w.alloc (.cells cs t fr)) (some ⟨g, 0, none⟩) bs.length bs := by
  subst hg h
  refine ⟨by simp, Nat.le_refl _, hl, (fun h => by cases h), .inr ⟨_, _, rfl, by simp, fun i v hv => ?_⟩⟩
  rw [cell_of_row _ _ _ _ t fr (heap_alloc_new w _)]
  simpa using hv

/-- b[:t] and b[t:]. -/
theorem BRow.take {w : World} {a : Option Addr} {cap : Nat} {bs : List UInt8} (h : BRow w a cap bs) (t : Nat) : BRow w a cap (bs.take t) := by
  obtain ⟨h1, h2, h3, h0, h4⟩ := h
  refine ⟨by simp, by rw [List.length_take]; omega, h3, h0, ?_⟩
  rcases h4 with h4 | ⟨b, off, ha, hlt, hc⟩
  · exact .inl (by rw [List.length_take]; omega)
  · refine .inr ⟨b, off, ha, hlt, fun i v hv => hc i v ?_⟩
    rw [List.map_take, List.getElem?_take] at hv
    split at hv
    · exact hv
    · cases hv
/-- The address behind t elements of one cell, as b[t:] has it. -/
def cutAddr (a : Option Addr) (cap t : Nat) : Option Addr := if cap = t then a else a.map (·.add (t * 1))
theorem BRow.drop {w : World} {a : Option Addr} {cap : Nat} {bs : List UInt8} (h : BRow w a cap bs) (t : Nat) (ht : t ≤ bs.length) : BRow w (cutAddr a cap t) (cap - t) (bs.drop t) := by
  obtain ⟨h1, h2, h3, h0, h4⟩ := h
  refine ⟨by simp, by rw [List.length_drop]; omega, by omega, ?_, ?_⟩
  · intro hn
    by_cases e : cap = t
    · omega
    · unfold cutAddr at hn
      rw [if_neg e] at hn
      cases a with
      | none => have := h0 rfl; omega
      | some ad => simp at hn
  · by_cases hl : (bs.drop t).length = 0
    · exact .inl hl
    · rcases h4 with h4 | ⟨b, off, ha, hlt, hc⟩
      · simp at hl; omega
      · refine .inr ⟨b, off + t, ?_, hlt, fun i v hv => ?_⟩
        · unfold cutAddr
          rw [if_neg (by simp at hl; omega), ha]
          simp [Addr.add_mid]
        · rw [Nat.add_assoc]
          refine hc (t + i) v ?_
          rw [List.map_drop, List.getElem?_drop] at hv
          exact hv
theorem BRow.nil_of_none {w : World} {cap : Nat} {bs : List UInt8} (h : BRow w none cap bs) : bs = [] ∧ cap = 0 := by
  have h1 := h.2.2.2.1 rfl
  have h2 := h.2.1
  refine ⟨?_, h1⟩
  cases bs with
  | nil => rfl
  | cons x l => simp at h2; omega
section
variable {P : Program}
theorem run_cut_to {t e : TypeId} (ht : P.underlying t = some (.slice e)) (he : ∀ w : World, (sizeOf e).run P w = .ok 1 w) (a : Option Addr) (n cap : Nat) (k : IntKind) (h : Nat) (hh : h ≤ cap) (w : World) :
    (Instr.slice t (.slice a n cap) none (some (.int k (h : Int))) none).run P w = .ok (.slice a h cap) w := by
  have hE : P.elem t = e := by simp [Program.elem, ht]
  rw [run_slice_h w t a n cap (by rw [hE]; exact ht) k h (by omega) (by omega), hE, he]
  by_cases hc : cap = 0 <;> simp [sliced, Result.andThen, hc, Addr.add]
theorem run_cut_from {t e : TypeId} (ht : P.underlying t = some (.slice e)) (he : ∀ w : World, (sizeOf e).run P w = .ok 1 w) (a : Option Addr) (n cap : Nat) (k : IntKind) (l : Nat) (hl : l ≤ n) (w : World) :
    (Instr.slice t (.slice a n cap) (some (.int k (l : Int))) none none).run P w = .ok (.slice (cutAddr a cap l) (n - l) (cap - l)) w := by
  have hE : P.elem t = e := by simp [Program.elem, ht]
  rw [run_slice_l w t a n cap (by rw [hE]; exact ht) k l (by omega) (by omega), hE, he]
  simp [sliced, Result.andThen, cutAddr]
end

/-- A row that the call owns can be read. -/
theorem Row.of_owns {w : World} {base : Nat} {e : TypeId} {size : Nat} {v : Value} {n : Nat} {xs : List Value} (h : w.ownsRow base e size v n xs) :
    ∃ a cap, v = .slice a n cap ∧ Row w a cap n size xs := by
  obtain ⟨hl, h⟩ := h
  rcases h with ⟨rfl, rfl⟩ | ⟨g, cap, cur, rfl, hg, hh, hn, hm, hs, hx⟩
  · exact ⟨none, 0, rfl, by simpa using hl, Nat.le_refl _, by omega, fun _ => rfl, .inl rfl⟩
  · refine ⟨_, cap, rfl, hl, hn, by unfold maxLen at hm; omega, (fun h => by cases h), .inr ⟨g, 0, rfl, ?_, ?_⟩⟩
    · rcases Nat.lt_or_ge g w.heap.size with h | h
      · exact h
      · rw [Array.getElem?_eq_none h] at hh; cases hh
    · intro i u hu
      subst hx
      rw [cell_of_row w g _ cur e (0, 0) hh]
      rw [List.getElem?_take] at hu
      split at hu
      · simpa using hu
      · cases hu

theorem BRow.of_owns {w : World} {base : Nat} {e : TypeId} {v : Value} {bs : List UInt8} (h : w.ownsRow base e 1 v bs.length (bs.map bv)) :
    ∃ a cap, v = .slice a bs.length cap ∧ BRow w a cap bs := Row.of_owns h

/-- Bytes in a new block. -/
theorem BRow.of_cells {w : World} {bs : List UInt8} {cs : Array Value} {t : TypeId} {fr : Nat × Nat} (h : cs = (bs.map bv).toArray) (hl : bs.length ≤ 9223372036854775807) :
    BRow (w.alloc (.cells cs t fr)) (some ⟨w.heap.size, 0, none⟩) bs.length bs := by
  subst h
  refine ⟨by simp, Nat.le_refl _, hl, (fun h => by cases h), .inr ⟨_, _, rfl, by simp, fun i v hv => ?_⟩⟩
  rw [cell_of_row _ _ _ _ t fr (heap_alloc_new w _)]
  simpa using hv

theorem take_succ {α : Type} (l : List α) (k : Nat) (h : k < l.length) : l.take (k + 1) = l.take k ++ [l[k]] := by
  rw [List.take_succ_eq_append_getElem h]

theorem ret_int {k : IntKind} {a b : Int} (h : a = b) : Ending.returned (.int k a) = .returned (.int k b) := by rw [h]

theorem bcell {W w1 : World} (hb : Below W.heap.size W w1) : (∀ b o, b < W.heap.size → w1.cell? ⟨b, o, none⟩ = W.cell? ⟨b, o, none⟩) ∧ (∀ b o, b < W.heap.size → w1.frozen? ⟨b, o, none⟩ = W.frozen? ⟨b, o, none⟩) :=
  ⟨fun b o h => hb.cell (p := ⟨b, o, none⟩) h, fun b o h => hb.frozen (p := ⟨b, o, none⟩) h⟩

theorem UInt8_ofNat_toNat_lt (n : Nat) (h : n < 256) : (UInt8.ofNat n).toNat = n := by simp; omega

/-- One step more: old memory is as it was. -/
theorem bthen {a w w' : World} (h : Below a.heap.size a w) (k : Below w.heap.size w w') : Below a.heap.size a w' := h.trans (k.mono h.size)
theorem bthenDrew {a w : World} (h : Below a.heap.size a w) : Below a.heap.size a w.drew := h.drew
theorem bthenAlloc {a w : World} (h : Below a.heap.size a w) (o : Obj) : Below a.heap.size a (w.alloc o) := h.alloc h.size o
theorem bthenGrown {a w w' : World} {g : Nat} (h : Below a.heap.size a w) (hg : w.grownBy w' (some g)) (hB : a.heap.size ≤ g) : Below a.heap.size a w' := h.grown hg h.size (fun k hk => by cases hk; exact hB)
theorem bthenSet {a w : World} (h : Below a.heap.size a w) {p : Addr} (hp : a.heap.size ≤ p.block) (u : Value) : Below a.heap.size a (w.setCell p u) := h.setCell hp u

/-- The call answers a slice that reads as these bytes, in memory of its own or old; nothing old has changed. -/
def GivesB (w : World) (bs : List UInt8) (e : Ending) (w' : World) : Prop := ∃ a cap, e = .returned (.slice a bs.length cap) ∧ BRow w' a cap bs ∧ Below w.heap.size w w'

/-- The call answers v; nothing old has changed. -/
def Gives (w : World) (v : Value) (e : Ending) (w' : World) : Prop := e = .returned v ∧ Below w.heap.size w w'

/-! ### Bits of small numbers of kind int -/
theorem wraps_i64 (n : Int) (h₀ : 0 ≤ n) (h₁ : n < 2 ^ 62) : IntKind.i64.wrap n = n := by rw [IntKind.wrap_i64]; omega
theorem i64_and_nat (a b : Nat) (ha : a < 4611686018427387904) (hb : b < 4611686018427387904) : bits .and .i64 a b = ((a &&& b : Nat) : Int) :=
  (bits_nat .i64 62 (by decide) wraps_i64 a b (by omega) (by omega)).1
theorem i64_or_nat (a b : Nat) (ha : a < 4611686018427387904) (hb : b < 4611686018427387904) : bits .or .i64 a b = ((a ||| b : Nat) : Int) :=
  (bits_nat .i64 62 (by decide) wraps_i64 a b (by omega) (by omega)).2
theorem i64_xor_nat (a b : Nat) (ha : a < 4611686018427387904) (hb : b < 4611686018427387904) : bits .xor .i64 a b = ((a ^^^ b : Nat) : Int) := by
  have ha' : a % 2 ^ 64 = a := Nat.mod_eq_of_lt (by omega)
  have hb' : b % 2 ^ 64 = b := Nat.mod_eq_of_lt (by omega)
  have hx : a ^^^ b < 2 ^ 62 := Nat.xor_lt_two_pow (by omega) (by omega)
  have e : bits .xor .i64 (a : Int) (b : Int) = IntKind.i64.wrap ((BitVec.ofInt 64 (a : Int) ^^^ BitVec.ofInt 64 (b : Int)).toNat : Int) := rfl
  rw [e, BitVec.toNat_xor, BitVec.ofInt_natCast, BitVec.ofInt_natCast, BitVec.toNat_ofNat, BitVec.toNat_ofNat, ha', hb']
  exact wraps_i64 _ (Int.natCast_nonneg _) (by exact_mod_cast hx)

/-! ### Blocks that are known whole -/
def Block (w : World) (g : Nat) (cs : Array Value) (t : TypeId) : Prop := w.heap[g]? = some (.cells cs t (0, 0))

theorem Block.lt {w : World} {g : Nat} {cs : Array Value} {t : TypeId} (h : Block w g cs t) : g < w.heap.size := by
  rcases Nat.lt_or_ge g w.heap.size with h1 | h1
  · exact h1
  · unfold Block at h; rw [Array.getElem?_eq_none h1] at h; cases h
theorem Block.cell {w : World} {g : Nat} {cs : Array Value} {t : TypeId} (h : Block w g cs t) (j : Nat) : w.cell? ⟨g, j, none⟩ = cs[j]? := cell_of_row w g j cs t (0, 0) h
theorem Block.frozen {w : World} {g : Nat} {cs : Array Value} {t : TypeId} (h : Block w g cs t) (j : Nat) : w.frozen? ⟨g, j, none⟩ = false := frozen_of_row w g j cs t h
theorem Block.set {w : World} {g : Nat} {cs : Array Value} {t : TypeId} (h : Block w g cs t) (i : Nat) (v : Value) : Block (w.setCell ⟨g, i, none⟩ v) g (cs.setIfInBounds i v) t := heap_setCell_same w g i cs t v h
theorem Block.set_other {w : World} {g : Nat} {cs : Array Value} {t : TypeId} (h : Block w g cs t) (a : Addr) (v : Value) (hn : g ≠ a.block) : Block (w.setCell a v) g cs t := (heap_setCell_other w a g v hn).trans h
theorem Block.alloc {w : World} {g : Nat} {cs : Array Value} {t : TypeId} (h : Block w g cs t) (o : Obj) : Block (w.alloc o) g cs t := (Below.heap_alloc w o g h.lt).trans h
theorem Block.new (w : World) (cs : Array Value) (t : TypeId) : Block (w.alloc (.cells cs t)) w.heap.size cs t := heap_alloc_new w _
theorem Block.new_at (w : World) (cs : Array Value) (t : TypeId) (n : Nat) (hn : w.heap.size = n) : Block (w.alloc (.cells cs t)) n cs t := by subst hn; exact Block.new w cs t
theorem Block.below {w w' : World} {B g : Nat} {cs : Array Value} {t : TypeId} (h : Block w g cs t) (hb : Below B w w') (hg : g < B) : Block w' g cs t := (hb.block g hg).trans h
theorem Block.grown {w w' : World} {g : Nat} {r : Option Nat} {cs : Array Value} {t : TypeId} (h : Block w g cs t) (hb : w.grownBy w' r) (hg : some g ≠ r) : Block w' g cs t := (hb.block g h.lt hg).trans h
theorem Block.drew {w : World} {g : Nat} {cs : Array Value} {t : TypeId} (h : Block w g cs t) : Block w.drew g cs t := h

def setFrom (cs : Array Value) : Nat → List Value → Array Value
  | _, [] => cs
  | o, v :: r => setFrom (cs.setIfInBounds o v) (o + 1) r
theorem setFrom_size : ∀ (vs : List Value) (o : Nat) (cs : Array Value), (setFrom cs o vs).size = cs.size
  | [], _, _ => rfl
  | v :: r, o, cs => by rw [setFrom, setFrom_size r]; simp
theorem setCells_block (g : Nat) (t : TypeId) : ∀ (vs : List Value) (o : Nat) (_w : World) (_cs : Array Value), Block _w g _cs t → Block (_w.setCells g o vs) g (setFrom _cs o vs) t
  | [], _, _, _, h => h
  | v :: r, o, _, _, h => setCells_block g t r (o + 1) _ _ (h.set o v)
theorem setCells_grown (g : Nat) : ∀ (vs : List Value) (o : Nat) (w : World), w.grownBy (w.setCells g o vs) (some g) ∧ (w.setCells g o vs).heap.size = w.heap.size
  | [], _, _ => ⟨⟨rfl, rfl, rfl, Nat.le_refl _, fun _ _ _ => rfl⟩, rfl⟩
  | v :: r, o, w => by
    obtain ⟨h, hs⟩ := setCells_grown g r (o + 1) (w.setCell ⟨g, o, none⟩ v)
    have hz : (w.setCell ⟨g, o, none⟩ v).heap.size = w.heap.size := by simp [World.setCell]
    refine ⟨⟨h.os, h.tape, h.output, by rw [World.setCells, hs, hz]; exact Nat.le_refl _, fun k hk hkr => ?_⟩, by rw [World.setCells, hs, hz]⟩
    have e := h.block k (by omega) hkr
    rw [World.setCells, e]
    exact heap_setCell_other w _ k v (fun e => hkr (by rw [e]))
theorem store_block {w : World} {g : Nat} {cs : Array Value} {t : TypeId} (h : Block w g cs t) (cells : Array Value) (hs : cs.size = cells.size) :
    Block (w.setCells g 0 cells.toList) g cells t ∧ w.grownBy (w.setCells g 0 cells.toList) (some g) ∧ (w.setCells g 0 cells.toList).heap.size = w.heap.size := by
  obtain ⟨h1, h2⟩ := setCells_grown g cells.toList 0 w
  refine ⟨?_, h1, h2⟩
  have hb := setCells_block g t cells.toList 0 w cs h
  have hr := World.rangeAt_setCells_same w g 0 cells.toList (fun j hj => ⟨by rw [h.cell, Array.getElem?_eq_getElem (by simpa [hs] using hj)]; rfl, h.frozen _⟩)
  have : setFrom cs 0 cells.toList = cells := by
    apply Array.ext
    · rw [setFrom_size, hs]
    · intro i h1 h2
      have := hr i cells[i] (by simp [h2])
      rw [hb.cell] at this
      simpa [Array.getElem?_eq_getElem h1] using this
  rwa [this] at hb

section
variable {P : Program}
/-- A whole array (or struct) goes into a block that is known whole. -/
theorem wpList_store_block {ops : Array Oper} {rest : List Oper} {op : Oper} {a : Act} {w : World} {Q : Exit → Act → World → Prop} (hgd : op.guard = none) (ty : TypeId) (x y : Operand) (ho : op.op = .store ty x y)
    (g : Nat) (cells cs : Array Value) (t : TypeId) (hx : a.eval x = .pointer (some ⟨g, 0, none⟩)) (hy : a.eval y = .agg cells) (hb : Block w g cs t) (hs : cs.size = cells.size)
    (hi : (P.info? ty).map (·.size) = some cells.size) (h1 : cells.all (·.oneCell') = true)
    (h : ∀ w', Block w' g cells t → w.grownBy w' (some g) → w'.heap.size = w.heap.size → wpList P ops Q rest (a.put op.dst undef) w') : wpList P ops Q (op :: rest) a w :=
  wpList_store_mid hgd ty x y ho g 0 cells hx hy (fun j hj => ⟨by rw [hb.cell, Array.getElem?_eq_getElem (by omega)]; rfl, hb.frozen _⟩) hi h1
    (h _ (store_block hb cells hs).1 (store_block hb cells hs).2.1 (store_block hb cells hs).2.2)
/-- A whole array (or struct) out of a block that is known whole. -/
theorem wpList_load_block {ops : Array Oper} {rest : List Oper} {o : Oper} {a : Act} {w : World} {Q : Exit → Act → World → Prop} (hgd : o.guard = none) (ty : TypeId) (x : Operand) (ho : o.op = .load ty x)
    (g : Nat) (cs : Array Value) (t : TypeId) (hx : a.eval x = .pointer (some ⟨g, 0, none⟩)) (d : TypeDesc) (hb : Block w g cs t)
    (hu : P.underlying ty = some d) (hd : (match d with | .struct _ | .array _ _ => true | _ => false) = true) (hi : (P.info? ty).map (·.size) = some cs.size)
    (h : wpList P ops Q rest (a.put o.dst (.agg cs)) w) : wpList P ops Q (o :: rest) a w :=
  wpList_load_row hgd ty x ho g hx t cs (0, 0) d hb hu hd hi h
/-- The same where the operation is guarded. -/
theorem wp_load_block {o : Oper} {a : Act} {w : World} {K : Act → World → Prop} {Q : Exit → Act → World → Prop} (ty : TypeId) (x : Operand) (ho : o.op = .load ty x)
    (g : Nat) (cs : Array Value) (t : TypeId) (hx : a.eval x = .pointer (some ⟨g, 0, none⟩)) (d : TypeDesc) (hb : Block w g cs t)
    (hu : P.underlying ty = some d) (hd : (match d with | .struct _ | .array _ _ => true | _ => false) = true) (hi : (P.info? ty).map (·.size) = some cs.size)
    (h : K (a.put o.dst (.agg cs)) w) : o.wp P a w K Q :=
  wp_load_row ty x ho g hx t cs (0, 0) d hb hu hd hi h
/-- The end: the result lies in a block that is known whole. -/
theorem results_block {fn : Func} {p : Tmp} {ty : TypeId} (h : fn.results = #[.cell p ty]) (tmps : Array Value) (w : World) (g : Nat) (t : TypeId) (cs : Array Value) (d : TypeDesc)
    (hp : tmps.getD p undef = .pointer (some ⟨g, 0, none⟩)) (hg : Block w g cs t)
    (hu : P.underlying ty = some d) (hd : (match d with | .struct _ | .array _ _ => true | _ => false) = true) (hi : (P.info? ty).map (·.size) = some cs.size) :
    (results fn tmps).run P w = .ok (.agg cs) w := results_cell_row h tmps w g t cs (0, 0) d hp hg hu hd hi
end

theorem grown_refl (w : World) (r : Option Nat) : w.grownBy w r := ⟨rfl, rfl, rfl, Nat.le_refl _, fun _ _ _ => rfl⟩
section
variable {P : Program}
/-- append, the source being any slice that can be read. -/
theorem wpList_append_row {w : World} {ops : Array Oper} {rest : List Oper} {o : Oper} {a : Act} {Q : Exit → Act → World → Prop} (hgd : o.guard = none) (s x : Operand) (t : TypeId)
    (ho : o.op = .call { callee := .builtin .append, args := #[s, x], argTypes := #[t, t] })
    (base : Nat) (e : TypeId) (i : TypeInfo) (z : Value) (size bytes : Nat) (ht : P.underlying t = some (.slice e)) (hi : P.info? e = some i) (hz : i.zero = some z)
    (hsize : i.size = size) (hby : i.bytes = bytes) (hzs : z.cells.size = size) (hsz : 0 < size)
    (v : Value) (n : Nat) (xs : List Value) (hs : a.eval s = v) (hown : w.ownsRow base e size v n xs)
    (ad : Option Addr) (m c : Nat) (news : List Value) (hx : a.eval x = .slice ad m c) (hrow : Row w ad c m size news) (h1 : ∀ u ∈ news, u.oneCell' = true)
    (hbytes : (n + m) * bytes ≤ 140737488355328) (hpos : 0 < bytes) (hbase : base ≤ w.heap.size)
    (h : ∀ v' w', w'.ownsRow base e size v' (n + m) (xs ++ news) → w.grownBy w' v.ownBlock → (v'.ownBlock = v.ownBlock ∨ v'.ownBlock = some w.heap.size) → wpList P ops Q rest (a.put o.dst v') w') : wpList P ops Q (o :: rest) a w := by
  obtain ⟨hl, hmc, hc, hn0, hcells⟩ := hrow
  have h63 : n + m ≤ maxLen := by
    have : n + m ≤ (n + m) * bytes := Nat.le_mul_of_pos_right _ hpos
    unfold maxLen; omega
  cases ad with
  | none =>
    have : c = 0 := hn0 rfl
    subst this
    have hm : m = 0 := by omega
    subst hm
    have : news = [] := by cases news; rfl; simp at hl
    subst this
    refine wpList_append_own_none hgd s x t ho base e i size ht hi v n xs hs hown hx ?_
    exact h v w (by simpa using hown) (grown_refl _ _) (.inl rfl)
  | some ad =>
    refine wpList_append_own_at w hgd s x t ho base e i z size bytes ht hi hz hsize hby hzs hsz v n xs hs hown ad m c news hx hl ?_ h1 h63 hbytes hbase ?_
    · intro j u hu
      rcases hcells with hm | ⟨b, off, ha, hlt, hcell⟩
      · subst hm
        have : news = [] := by cases news; rfl; simp at hl
        subst this; simp at hu
      · cases ha
        rw [Addr.add_mid]; exact hcell j u hu
    · intro v' w' h2 h3 _ h5
      exact h v' w' h2 h3 h5
end

theorem rangeAt_below {w w' : World} {B b o : Nat} {cs : List Value} (h : w.rangeAt b o cs) (hb : Below B w w') (hlt : b < B) : w'.rangeAt b o cs :=
  fun j v hv => (hb.cell (p := ⟨b, o + j, none⟩) hlt).trans (h j v hv)
theorem rangeAt_block {w : World} {g : Nat} {cs : List Value} {t : TypeId} (h : Block w g cs.toArray t) : w.rangeAt g 0 cs := fun j v hv => by
  rw [h.cell, Nat.zero_add]; simpa using hv
/-- What a region that draws its order keeps: a row, and all that was there. -/
def Held (w0 : World) (g : Nat) (cs : List Value) (w : World) : Prop := Below w0.heap.size w0 w ∧ w.rangeAt g 0 cs
theorem Held.next {w0 w w' : World} {g : Nat} {cs : List Value} (h : Below w0.heap.size w0 w ∧ w.rangeAt g 0 cs) (hb : Below w.heap.size w w') (hg : g < w0.heap.size) : Below w0.heap.size w0 w' ∧ w'.rangeAt g 0 cs :=
  ⟨bthen h.1 hb, rangeAt_below h.2 hb (Nat.lt_of_lt_of_le hg h.1.size)⟩

/-- string(b). -/
theorem foldl_push (bs : List UInt8) : ∀ s : ByteArray, (bs.map fun x => ((x.toNat : Nat) : Int)).foldl (fun r n => r.push (UInt8.ofNat n.toNat)) s = ⟨s.data ++ bs.toArray⟩ := by
  induction bs with
  | nil => intro s; simp
  | cons x bs ih =>
    intro s
    simp only [List.map_cons, List.foldl_cons]
    rw [ih]
    simp [ByteArray.push]
theorem run_toString {P : Program} {w : World} {a : Option Addr} {cap : Nat} {bs : List UInt8} {src dst e : TypeId} (h : BRow w a cap bs)
    (hs : P.underlying src = some (.slice e)) (he : P.underlying e = some (.int .u8)) (hd : P.underlying dst = some .string) :
    (convert src dst (.slice a bs.length cap)).run P w = .ok (.string ⟨bs.toArray⟩) w := by
  rw [run_convert_bytes_string w src dst e a _ _ hs he hd]
  obtain ⟨h1, h2, h3, h0, h4⟩ := h
  cases a with
  | none =>
    have : bs = [] := by
      have := h0 rfl
      cases bs with
      | nil => rfl
      | cons x l => simp at h2; omega
    subst this; rfl
  | some ad =>
    have hm : (bs.map bv) = (bs.map fun x => ((x.toNat : Nat) : Int)).map (Value.int .u8) := by simp [bv]
    have hl : (loadCells ad bs.length).run P w = .ok ((bs.map fun x => ((x.toNat : Nat) : Int)).map (Value.int .u8)).toArray w := by
      rw [← hm]
      have hlen : (bs.map bv).length = bs.length := by simp
      rw [← hlen]
      refine run_loadCells_list (P := P) w ad (bs.map bv) (fun j v hv => ?_)
      rcases h4 with h4 | ⟨b, off, ha, hlt, hc⟩
      · have : bs = [] := by cases bs; rfl; simp at h4
        subst this; simp at hv
      · cases ha
        rw [Addr.add_mid]; exact hc j v hv
    rw [run_bytesToString w ad _ _ _ hl, foldl_push]
    simp

theorem below_grown {B : Nat} {a w w' : World} {g : Nat} (h : Below B a w) (hg : w.grownBy w' (some g)) (hB : B ≤ g) (hz : g < w.heap.size) : Below B a w' :=
  h.grown hg (by omega) (fun k hk => by cases hk; exact hB)

end Go.Bw

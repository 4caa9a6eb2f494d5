/- VxD: abstract values, abstract states, and what they say of a world. No program. -/
import Derived.Test.YtegjeagfcfhbeaaVxA
import Derived.CallsIn
import Derived.OrdersIn
import Derived.TacticsIn
import Derived.RangeFuncLeaves
namespace Go.Vx
set_option linter.unusedVariables false
set_option linter.unusedSimpArgs false
open Go.RowKit Go.Bw

/-- Abstract values. ref and ptr: into a block that the run itself made: k is where the abstract heap keeps it, g its name. ep: the address of a cell of memory that is only read. yl: the yield of a loop over a function, whose record is kept at k. -/
inductive D
  | v (c : Value)
  | sl (nn : Bool) (n size : Nat) (cells : List D)
  | ref (k g off n sz : Nat)
  | ptr (k g off : Nat)
  | ep (cells : List D) (off : Nat)
  | agg (cs : List D)
  | tup (vs : List D)
  | ifc (t : TypeId) (x : D)
  | fn (f : Fn) (first cap : List D)
  | yl (k g : Nat)
  deriving Inhabited

structure Blk where
  cells : List D
  elem : TypeId
  row : Bool
  deriving Inhabited
/-- The record of a loop over a function. -/
structure LRec where
  st : LoopState
  pend : Option Code
  params : Array Tmp
  assign : Code
  body : Code
  nt : Nat
  tm : Tr D
  deriving Inhabited
inductive Ob where
  | b (x : Blk)
  | l (r : LRec)
  deriving Inhabited

structure AS where
  tm : Tr D
  hp : Tr (Nat × Ob)
  nx : Nat
  us : List Nat := []
  deriving Inhabited

/-- What is kept at k. -/
def AS.gat (s : AS) (k : Nat) : Option (Nat × Ob) := s.hp.get k
/-- The block that is kept at k. -/
def AS.at (s : AS) (k : Nat) : Option (Nat × Blk) :=
  match s.hp.get k with
  | some (g, .b x) => some (g, x)
  | _ => none
def AS.lat (s : AS) (k : Nat) : Option (Nat × LRec) :=
  match s.hp.get k with
  | some (g, .l r) => some (g, r)
  | _ => none
theorem AS.at_iff {s : AS} {k g : Nat} {b : Blk} : s.at k = some (g, b) ↔ s.gat k = some (g, .b b) := by
  unfold AS.at AS.gat; split
  · rename_i h; rw [h]; simp
  · rename_i h
    constructor
    · intro h'; cases h'
    · intro h'; exact absurd h' (h _ _)
theorem AS.lat_iff {s : AS} {k g : Nat} {r : LRec} : s.lat k = some (g, r) ↔ s.gat k = some (g, .l r) := by
  unfold AS.lat AS.gat; split
  · rename_i h; rw [h]; simp
  · rename_i h
    constructor
    · intro h'; cases h'
    · intro h'; exact absurd h' (h _ _)

/-- What names stand for. -/
structure Env where
  φ : Nat → Option Nat
  own : Nat → Prop
  nm : Nat → Prop

def maxI : Nat := 9223372036854775807

/-- Without names. -/
def Env.cl (E : Env) : Env := ⟨E.φ, E.own, fun _ => False⟩

inductive RD : Env → World → D → Value → Prop
  | v {E : Env} {w : World} (c : Value) (h : c.oneCell' = true) : RD E w (.v c) c
  | sl {E : Env} {w : World} (nn : Bool) (n size : Nat) (cells : List D) (a : Option Addr) (c : Nat) (us : List Value) (hlen : us.length = cells.length)
      (hd : ∀ (i : Nat) d u, cells[i]? = some d → us[i]? = some u → RD E.cl w d u) (h1 : ∀ u ∈ us, u.oneCell' = true)
      (hn : cells.length = n * size) (hs : 0 < size) (hc : n ≤ c ∧ c ≤ maxI) (h0 : a = none → c = 0 ∧ nn = false)
      (hr : n = 0 ∨ ∃ b off, a = some ⟨b, off, none⟩ ∧ b < w.heap.size ∧ ¬ E.own b ∧ ∀ (i : Nat) u, us[i]? = some u → w.cell? ⟨b, off + i, none⟩ = some u) :
      RD E w (.sl nn n size cells) (.slice a n c)
  | ref {E : Env} {w : World} (k g off n sz c b off' : Nat) (t : TypeId) (m : Nat) (hg : E.nm g) (hb : E.φ g = some b) (hc : n ≤ c ∧ c ≤ maxI) (ho : off' = off ∨ (n = 0 ∧ c = 0)) (hs : w.shape? b = some (t, m)) (hm : off' + c * sz ≤ m) :
      RD E w (.ref k g off n sz) (.slice (some ⟨b, off', none⟩) n c)
  | refn {E : Env} {w : World} (k g sz : Nat) (hg : E.nm g) (hb : E.φ g = none) : RD E w (.ref k g 0 0 sz) (.slice none 0 0)
  | ptr {E : Env} {w : World} (k g off b : Nat) (hg : E.nm g) (hb : E.φ g = some b) : RD E w (.ptr k g off) (.pointer (some ⟨b, off, none⟩))
  | ep {E : Env} {w : World} (cells : List D) (off b o : Nat) (us : List Value) (hlen : us.length = cells.length)
      (hd : ∀ (i : Nat) d u, cells[i]? = some d → us[i]? = some u → RD E.cl w d u) (h1 : ∀ u ∈ us, u.oneCell' = true)
      (hb : b < w.heap.size) (ho : ¬ E.own b) (hr : ∀ (i : Nat) u, us[i]? = some u → w.cell? ⟨b, o + i, none⟩ = some u) :
      RD E w (.ep cells off) (.pointer (some ⟨b, o + off, none⟩))
  | agg {E : Env} {w : World} (cs : List D) (us : List Value) (hlen : us.length = cs.length) (hd : ∀ (i : Nat) d u, cs[i]? = some d → us[i]? = some u → RD E w d u) (h1 : ∀ u ∈ us, u.oneCell' = true) :
      RD E w (.agg cs) (.agg us.toArray)
  | tup {E : Env} {w : World} (cs : List D) (us : List Value) (hlen : us.length = cs.length) (hd : ∀ (i : Nat) d u, cs[i]? = some d → us[i]? = some u → RD E w d u) :
      RD E w (.tup cs) (.tuple us.toArray)
  | ifc {E : Env} {w : World} (t : TypeId) (x : D) (u : Value) (h : RD E w x u) : RD E w (.ifc t x) (.iface t u)
  | fn {E : Env} {w : World} (f : Fn) (fi ca : List D) (us vs : List Value) (hl1 : us.length = fi.length) (hl2 : vs.length = ca.length)
      (hd1 : ∀ (i : Nat) d u, fi[i]? = some d → us[i]? = some u → RD E w d u) (hd2 : ∀ (i : Nat) d u, ca[i]? = some d → vs[i]? = some u → RD E w d u) :
      RD E w (.fn f fi ca) (.func f us.toArray vs.toArray)
  | yl {E : Env} {w : World} (k g b : Nat) (hg : E.nm g) (hb : E.φ g = some b) : RD E w (.yl k g) (.func (.yield b) #[] #[])

/-- One step of the run: names stay, memory that is not the run's own stays. -/
structure Stp (E E' : Env) (w w' : World) : Prop where
  nm : ∀ g, E.nm g → E'.nm g
  φ : ∀ g, E.nm g → E'.φ g = E.φ g
  size : w.heap.size ≤ w'.heap.size
  keep : ∀ b, b < w.heap.size → ¬ E.own b → ¬ E'.own b ∧ w'.heap[b]? = w.heap[b]?
  shape : ∀ b, b < w.heap.size → w'.shape? b = w.shape? b

theorem Stp.refl (E : Env) (w : World) : Stp E E w w := ⟨fun _ h => h, fun _ _ => rfl, Nat.le_refl _, fun _ _ h => ⟨h, rfl⟩, fun _ _ => rfl⟩
theorem Stp.trans {E E' E'' : Env} {w w' w'' : World} (h : Stp E E' w w') (k : Stp E' E'' w' w'') : Stp E E'' w w'' :=
  ⟨fun g hg => k.nm g (h.nm g hg), fun g hg => (k.φ g (h.nm g hg)).trans (h.φ g hg), Nat.le_trans h.size k.size, fun b hb ho => by
    obtain ⟨h1, h2⟩ := h.keep b hb ho
    obtain ⟨h3, h4⟩ := k.keep b (Nat.lt_of_lt_of_le hb h.size) h1
    exact ⟨h3, h4.trans h2⟩, fun b hb => (k.shape b (Nat.lt_of_lt_of_le hb h.size)).trans (h.shape b hb)⟩

/-- A step at whose end the names below n are what they were. -/
structure StpX (n : Nat) (E E' : Env) (w w' : World) : Prop where
  nm : ∀ g, g < n → E.nm g → E'.nm g
  φ : ∀ g, g < n → E.nm g → E'.φ g = E.φ g
  size : w.heap.size ≤ w'.heap.size
  keep : ∀ b, b < w.heap.size → ¬ E.own b → ¬ E'.own b ∧ w'.heap[b]? = w.heap[b]?
  shape : ∀ b, b < w.heap.size → w'.shape? b = w.shape? b
theorem Stp.x {E E' : Env} {w w' : World} (h : Stp E E' w w') (n : Nat) : StpX n E E' w w' := ⟨fun g _ hg => h.nm g hg, fun g _ hg => h.φ g hg, h.size, h.keep, h.shape⟩
theorem StpX.full {n : Nat} {E E' : Env} {w w' : World} (h : StpX n E E' w w') (hn : ∀ g, E.nm g → g < n) : Stp E E' w w' := ⟨fun g hg => h.nm g (hn g hg) hg, fun g hg => h.φ g (hn g hg) hg, h.size, h.keep, h.shape⟩
theorem StpX.trans {n : Nat} {E E' E'' : Env} {w w' w'' : World} (h : StpX n E E' w w') (k : StpX n E' E'' w' w'') : StpX n E E'' w w'' :=
  ⟨fun g hn hg => k.nm g hn (h.nm g hn hg), fun g hn hg => (k.φ g hn (h.nm g hn hg)).trans (h.φ g hn hg), Nat.le_trans h.size k.size, fun b hb ho => by
    obtain ⟨h1, h2⟩ := h.keep b hb ho
    obtain ⟨h3, h4⟩ := k.keep b (Nat.lt_of_lt_of_le hb h.size) h1
    exact ⟨h3, h4.trans h2⟩, fun b hb => (k.shape b (Nat.lt_of_lt_of_le hb h.size)).trans (h.shape b hb)⟩

theorem Stp.cl {E E' : Env} {w w' : World} (h : Stp E E' w w') : Stp E.cl E'.cl w w' := ⟨fun _ hg => hg.elim, fun _ hg => hg.elim, h.size, h.keep, h.shape⟩
theorem Stp.ofCl (E : Env) (w : World) : Stp E.cl E w w := ⟨fun _ hg => hg.elim, fun _ hg => hg.elim, Nat.le_refl _, fun _ _ h => ⟨h, rfl⟩, fun _ _ => rfl⟩

theorem RD.step {E E' : Env} {w w' : World} (hs : Stp E E' w w') {d : D} {u : Value} (h : RD E w d u) : RD E' w' d u := by
  induction h generalizing E' w' with
  | v c h => exact .v c h
  | sl nn n size cells a c us hlen _ h1 hn hp hc h0 hr ih =>
    refine .sl nn n size cells a c us hlen (fun i d u a1 a2 => ih i d u a1 a2 hs.cl) h1 hn hp hc h0 ?_
    rcases hr with h | ⟨b, off, ha, hb, ho, hcell⟩
    · exact .inl h
    · obtain ⟨ho', hk⟩ := hs.keep b hb ho
      exact .inr ⟨b, off, ha, Nat.lt_of_lt_of_le hb hs.size, ho', fun i u hu => (World.cell?_of_block (a := ⟨b, off + i, none⟩) hk).trans (hcell i u hu)⟩
  | @ref E w k g off n sz c b off' t m hg hb hc ho hsh hm =>
    have hlt : b < w.heap.size := by
      rcases Nat.lt_or_ge b w.heap.size with h | h
      · exact h
      · rw [World.shape?, Array.getElem?_eq_none h] at hsh; cases hsh
    exact .ref k g off n sz c b off' t m (hs.nm _ hg) ((hs.φ g hg).trans hb) hc ho ((hs.shape b hlt).trans hsh) hm
  | refn k g sz hg hb => exact .refn k g sz (hs.nm _ hg) ((hs.φ g hg).trans hb)
  | ptr k g off b hg hb => exact .ptr k g off b (hs.nm _ hg) ((hs.φ g hg).trans hb)
  | ep cells off b o us hlen _ h1 hb ho hr ih =>
    obtain ⟨ho', hk⟩ := hs.keep b hb ho
    exact .ep cells off b o us hlen (fun i d u a1 a2 => ih i d u a1 a2 hs.cl) h1 (Nat.lt_of_lt_of_le hb hs.size) ho' fun i u hu => (World.cell?_of_block (a := ⟨b, o + i, none⟩) hk).trans (hr i u hu)
  | agg cs us hlen _ h1 ih => exact .agg cs us hlen (fun i d u a1 a2 => ih i d u a1 a2 hs) h1
  | tup cs us hlen _ ih => exact .tup cs us hlen (fun i d u a1 a2 => ih i d u a1 a2 hs)
  | ifc t x u _ ih => exact .ifc t x u (ih hs)
  | fn f fi ca us vs hl1 hl2 _ _ ih1 ih2 => exact .fn f fi ca us vs hl1 hl2 (fun i d u a1 a2 => ih1 i d u a1 a2 hs) (fun i d u a1 a2 => ih2 i d u a1 a2 hs)
  | yl k g b hg hb => exact .yl k g b (hs.nm _ hg) ((hs.φ g hg).trans hb)
theorem RD.ofCl {E : Env} {w : World} {d : D} {u : Value} (h : RD E.cl w d u) : RD E w d u := h.step (Stp.ofCl E w)

/-- No cell that is there is shared with a string. -/
def NoFr (fr : Nat × Nat) (n : Nat) : Prop := fr.1 = fr.2 ∨ n ≤ fr.1
theorem NoFr.zero (n : Nat) : NoFr (0, 0) n := .inl rfl
theorem NoFr.no {fr : Nat × Nat} {n j : Nat} (h : NoFr fr n) (hj : j < n) : (decide (fr.1 ≤ j) && decide (j < fr.2)) = false := by
  rcases h with h | h
  · by_cases h1 : fr.1 ≤ j
    · simp; omega
    · simp [h1]
  · simp; omega
theorem NoFr.more {fr : Nat × Nat} {n : Nat} (h : NoFr fr n) : NoFr (if fr.1 == fr.2 then (n, n + 1) else (min fr.1 n, max fr.2 (n + 1))) n := by
  by_cases e : fr.1 = fr.2
  · rw [if_pos (by simpa using e)]; exact .inr (Nat.le_refl _)
  · rw [if_neg (by simpa using e)]
    rcases h with h | h
    · exact absurd h e
    · refine .inr ?_
      show n ≤ min fr.1 n
      omega

/-- A block of the run's own: what the abstract heap says of it. -/
def HB (E : Env) (w : World) (g : Nat) (k : Blk) : Prop :=
  E.nm g ∧ match E.φ g with
    | none => k.cells = [] ∧ k.row = true
    | some b => E.own b ∧ b < w.heap.size ∧ ∃ (cur : Array Value) (fr : Nat × Nat), w.heap[b]? = some (.cells cur k.elem fr) ∧ NoFr fr cur.size ∧ k.cells.length ≤ cur.size ∧ (k.row = false → cur.size = k.cells.length) ∧
      (∀ (i : Nat) d, k.cells[i]? = some d → ∃ u, cur[i]? = some u ∧ u.oneCell' = true ∧ RD E w d u)

/-- The record of a loop: what the abstract heap says of it. -/
def LB (E : Env) (w : World) (g : Nat) (r : LRec) : Prop :=
  E.nm g ∧ ∃ (b : Nat) (L : Loop), E.φ g = some b ∧ E.own b ∧ b < w.heap.size ∧ w.heap[b]? = some (.loop L) ∧ L.state = r.st ∧ L.pending = r.pend ∧ L.params = r.params ∧ L.assign = r.assign ∧ L.body = r.body ∧ r.nt ≤ L.tmps.size ∧
    (∀ t d, r.tm.get t = some d → ∃ u, L.tmps[t]? = some u ∧ RD E w d u)

/-- But for the blocks of which M speaks the world w' is as w was, and all have the shape that they had. -/
structure Fr (M : Nat → Prop) (w w' : World) : Prop where
  os : w'.os = w.os
  tape : w'.tape = w.tape
  output : w'.output = w.output
  size : w.heap.size ≤ w'.heap.size
  block : ∀ k, k < w.heap.size → ¬ M k → w'.heap[k]? = w.heap[k]?
  shape : ∀ k, k < w.heap.size → w'.shape? k = w.shape? k
theorem Fr.refl (M : Nat → Prop) (w : World) : Fr M w w := ⟨rfl, rfl, rfl, Nat.le_refl _, fun _ _ _ => rfl, fun _ _ => rfl⟩
theorem Fr.trans {M : Nat → Prop} {a b c : World} (h : Fr M a b) (k : Fr M b c) : Fr M a c :=
  ⟨k.os.trans h.os, k.tape.trans h.tape, k.output.trans h.output, Nat.le_trans h.size k.size, fun i hi hn => (k.block i (Nat.lt_of_lt_of_le hi h.size) hn).trans (h.block i hi hn), fun i hi => (k.shape i (Nat.lt_of_lt_of_le hi h.size)).trans (h.shape i hi)⟩
theorem Fr.mono {M M' : Nat → Prop} {w w' : World} (h : Fr M w w') (hM : ∀ x, M x → M' x) : Fr M' w w' := ⟨h.os, h.tape, h.output, h.size, fun k hk hn => h.block k hk (fun hm => hn (hM k hm)), h.shape⟩
theorem Fr.below {w w' : World} (h : Fr (fun k => w.heap.size ≤ k) w w') : Below w.heap.size w w' := ⟨h.os, h.tape, h.output, h.size, fun k hk => h.block k hk (by omega)⟩
theorem Fr.of_grown {M : Nat → Prop} {w w' : World} {row : Option Nat} (hg : w.grownBy w' row) (hr : ∀ k, row = some k → M k) (hs : ∀ k, k < w.heap.size → w'.shape? k = w.shape? k) : Fr M w w' :=
  ⟨hg.os, hg.tape, hg.output, hg.size, fun k hk hn => hg.block k hk (fun e => hn (hr k e.symm)), hs⟩
theorem Fr.drew (M : Nat → Prop) (w : World) : Fr M w w.drew := ⟨rfl, rfl, rfl, Nat.le_refl _, fun _ _ _ => rfl, fun _ _ => rfl⟩

structure Cx where
  B : Nat
  w0 : World
  nt : Nat
  O : Nat → Prop
  M : Nat → Prop
  hM : ∀ x, B ≤ x → M x
  xn : Nat

/-- The marks of loops over functions among the deferred calls. -/
def Marks (B : Nat) (E : Env) (w : World) (ds : List Deferred) : Prop :=
  ∃ bs : List Nat, ds = bs.map (fun b => { target := .collected b, args := #[] }) ∧ bs.Nodup ∧ ∀ b ∈ bs, B ≤ b ∧ E.own b ∧ w.heap[b]? = some (.deferred (some []))
theorem Marks.nil (B : Nat) (E : Env) (w : World) : Marks B E w [] := ⟨[], rfl, List.nodup_nil, fun b h => by cases h⟩

/-- The blocks that a state keeps, where its names stand for φ. -/
def ownOf (s : AS) (φ : Nat → Option Nat) (x : Nat) : Prop := ∃ k g o, s.gat k = some (g, o) ∧ φ g = some x

structure SR (cx : Cx) (E : Env) (s : AS) (a : Act) (w : World) : Prop where
  fr : ∀ t d, s.tm.get t = some d → ∃ u, a.tmps[t]? = some u ∧ RD E w d u
  sz : cx.nt ≤ a.tmps.size
  df : Marks cx.B E w a.defers
  hp : ∀ k g b, s.at k = some (g, b) → HB E w g b
  lp : ∀ k g r, s.lat k = some (g, r) → LB E w g r
  inj : ∀ k k' g g' o o', k ≠ k' → s.gat k = some (g, o) → s.gat k' = some (g', o') → ∀ x, E.φ g = some x → E.φ g' ≠ some x
  lt : ∀ x, E.own x → x < w.heap.size
  low : ∀ x, ownOf s E.φ x → cx.M x
  base : ∀ x, cx.O x → E.own x
  bel : Fr cx.M cx.w0 w
  nm : ∀ g, E.nm g → g < s.nx ∨ ∃ i ∈ s.us, s.nx + 8 * i ≤ g ∧ g < s.nx + 8 * i + 8
  szB : cx.B ≤ w.heap.size

/-- What stands in the heap where a kept thing lies. -/
theorem SR.kept {cx : Cx} {E : Env} {s : AS} {a : Act} {w : World} (h : SR cx E s a w) {x : Nat} (hx : ownOf s E.φ x) : E.own x ∧ x < w.heap.size ∧ ((∃ c t fr, w.heap[x]? = some (.cells c t fr)) ∨ ∃ L, w.heap[x]? = some (.loop L)) := by
  obtain ⟨k, g, o, hk, hx⟩ := hx
  cases o with
  | b b =>
    have := (h.hp k g b (AS.at_iff.2 hk)).2
    rw [hx] at this
    obtain ⟨h1, h2, cur, fr, h3, _⟩ := this
    exact ⟨h1, h2, .inl ⟨_, _, _, h3⟩⟩
  | l r =>
    obtain ⟨_, b, L, h1, h2, h3, h4, _⟩ := h.lp k g r (AS.lat_iff.2 hk)
    rw [hx] at h1; cases h1
    exact ⟨h2, h3, .inr ⟨L, h4⟩⟩
theorem SR.own_of {cx : Cx} {E : Env} {s : AS} {a : Act} {w : World} (h : SR cx E s a w) {x : Nat} (hx : ownOf s E.φ x) : E.own x := (h.kept hx).1
/-- A mark's block is not kept. -/
theorem SR.unmarked {cx : Cx} {E : Env} {s : AS} {a : Act} {w : World} (h : SR cx E s a w) {x : Nat} (hx : w.heap[x]? = some (.deferred (some []))) : ¬ ownOf s E.φ x := by
  intro ho
  obtain ⟨_, _, ⟨c, t, fr, h1⟩ | ⟨L, h1⟩⟩ := h.kept ho <;> rw [hx] at h1 <;> cases h1

/-- A constant as an abstract value. -/
def ofConst : Value → D
  | .agg cs => .agg (cs.toList.map .v)
  | .tuple cs => .tup (cs.toList.map .v)
  | v => .v v

def constOk : Value → Bool
  | .agg cs => cs.toList.all (·.oneCell')
  | .tuple cs => cs.toList.all (·.oneCell')
  | _ => true

theorem RD.const (E : Env) (w : World) (v : Value) (h : constOk v = true) : RD E w (ofConst v) v := by
  have key : ∀ (l : List Value), l.all (·.oneCell') = true → (l.length = (l.map D.v).length) ∧ (∀ (i : Nat) d u, (l.map D.v)[i]? = some d → l[i]? = some u → RD E w d u) ∧ (∀ u ∈ l, u.oneCell' = true) := by
    intro l hl
    refine ⟨by simp, fun i d u hd hu => ?_, fun u hu => List.all_eq_true.1 hl u hu⟩
    rw [List.getElem?_map, hu] at hd
    simp at hd; subst hd
    exact .v u (List.all_eq_true.1 hl u (List.mem_of_getElem? hu))
  cases v
  case agg cs => obtain ⟨h1, h2, h3⟩ := key cs.toList h; exact .agg _ _ h1 h2 h3
  case tuple cs => obtain ⟨h1, h2, h3⟩ := key cs.toList h; exact .tup _ _ h1 h2
  all_goals exact .v _ rfl

/-- An operand's abstract value. -/
def evO (s : AS) : Operand → Option D
  | .tmp t => s.tm.get t
  | .const v => if constOk v then some (ofConst v) else none
  | .global g => some (.v (.pointer (some ⟨g, 0, none⟩)))
  | .func f => some (.fn (.func f) [] [])

theorem SR.eval {cx : Cx} {E : Env} {s : AS} {a : Act} {w : World} (h : SR cx E s a w) {x : Operand} {d : D} (hx : evO s x = some d) : RD E w d (a.eval x) := by
  cases x with
  | tmp t =>
    obtain ⟨u, hu, hr⟩ := h.fr t d hx
    have : a.eval (.tmp t) = u := by simp [Act.eval, hu]
    rw [this]; exact hr
  | const v =>
    simp only [evO] at hx
    split at hx
    · cases hx; exact RD.const E w v ‹_›
    · cases hx
  | global g => cases hx; exact .v _ rfl
  | func f => cases hx; exact RD.fn (.func f) [] [] [] [] rfl rfl (by simp) (by simp)

theorem SR.put {cx : Cx} {E : Env} {s : AS} {a : Act} {w : World} (h : SR cx E s a w) {t : Nat} (ht : t < cx.nt) {d : D} {u : Value} (hd : RD E w d u) :
    SR cx E { s with tm := s.tm.set t (some d) } (a.put (some t) u) w := by
  refine { h with fr := fun t' d' hg => ?_, sz := ?_, df := h.df }
  · rcases Tr.of_set hg with ⟨rfl, he⟩ | ⟨e, hg⟩
    · cases he
      refine ⟨u, ?_, hd⟩
      have := h.sz
      simp [Act.put, show t' < a.tmps.size by omega]
    · obtain ⟨u', hu', hr⟩ := h.fr t' d' hg
      exact ⟨u', by simpa [Act.put, Array.getElem?_setIfInBounds_ne (Ne.symm e)] using hu', hr⟩
  · simpa [Act.put] using h.sz
/-- A slot is forgotten. -/
theorem SR.unput {cx : Cx} {E : Env} {s : AS} {a : Act} {w : World} (h : SR cx E s a w) {t : Nat} (u : Value) :
    SR cx E { s with tm := s.tm.set t none } (a.put (some t) u) w := by
  refine { h with fr := fun t' d' hg => ?_, sz := ?_, df := h.df }
  · rcases Tr.of_set hg with ⟨rfl, he⟩ | ⟨e, hg⟩
    · cases he
    · obtain ⟨u', hu', hr⟩ := h.fr t' d' hg
      exact ⟨u', by simpa [Act.put, Array.getElem?_setIfInBounds_ne (Ne.symm e)] using hu', hr⟩
  · simpa [Act.put] using h.sz

theorem HB.step {E E' : Env} {w w' : World} {g : Nat} {k : Blk} (h : HB E w g k) (hs : Stp E E' w w') (hb : ∀ b, E.φ g = some b → E'.own b ∧ w'.heap[b]? = w.heap[b]?) : HB E' w' g k := by
  obtain ⟨h1, h2⟩ := h
  refine ⟨hs.nm g h1, ?_⟩
  rw [hs.φ g h1]
  cases hp : E.φ g with
  | none => rw [hp] at h2; exact h2
  | some b =>
    rw [hp] at h2
    obtain ⟨_, hlt, cur, fr, hc, hfr, hl, hr, hcell⟩ := h2
    obtain ⟨ho, hk⟩ := hb b hp
    refine ⟨ho, Nat.lt_of_lt_of_le hlt hs.size, cur, fr, hk.trans hc, hfr, hl, hr, fun i d hd => ?_⟩
    obtain ⟨u, hu, h1, hrd⟩ := hcell i d hd
    exact ⟨u, hu, h1, hrd.step hs⟩

theorem shape_of_block {w w' : World} {b : Nat} (h : w'.heap[b]? = w.heap[b]?) : w'.shape? b = w.shape? b := by unfold World.shape?; rw [h]
theorem shape_cells {w : World} {b : Nat} {cur : Array Value} {t : TypeId} {fr : Nat × Nat} (h : w.heap[b]? = some (.cells cur t fr)) : w.shape? b = some (t, cur.size) := by unfold World.shape?; rw [h]

theorem LB.step {E E' : Env} {w w' : World} {g : Nat} {r : LRec} (h : LB E w g r) (hs : Stp E E' w w') (hb : ∀ b, E.φ g = some b → E'.own b ∧ w'.heap[b]? = w.heap[b]?) : LB E' w' g r := by
  obtain ⟨h1, b, L, h2, h3, h4, h5, h6, h7, h8, h9, h10, h11, h12⟩ := h
  obtain ⟨ho, hk⟩ := hb b h2
  refine ⟨hs.nm g h1, b, L, (hs.φ g h1).trans h2, ho, Nat.lt_of_lt_of_le h4 hs.size, hk.trans h5, h6, h7, h8, h9, h10, h11, fun t d hd => ?_⟩
  obtain ⟨u, hu, hr⟩ := h12 t d hd
  exact ⟨u, hu, hr.step hs⟩

/-- What may not be only read: what was so, and what the state keeps. -/
def ownU (E : Env) (s : AS) (φ : Nat → Option Nat) (x : Nat) : Prop := E.own x ∨ ownOf s φ x
/-- Memory that the state does not keep is as it was; what it keeps now it kept, or it is new. -/
structure Mut (s s' : AS) (E E' : Env) (w w' : World) : Prop where
  own : ∀ b, E.own b → E'.own b
  heap : ∀ b, b < w.heap.size → ¬ ownOf s E.φ b → w'.heap[b]? = w.heap[b]?
  old : ∀ x, x < w.heap.size → ownOf s' E'.φ x → ownOf s E.φ x
theorem Mut.refl (s : AS) (E : Env) (w : World) : Mut s s E E w w := ⟨fun _ h => h, fun _ _ _ => rfl, fun _ _ h => h⟩
theorem Mut.trans {s s' s'' : AS} {E E' E'' : Env} {w w' w'' : World} (h : Mut s s' E E' w w') (k : Mut s' s'' E' E'' w' w'') (hz : w.heap.size ≤ w'.heap.size) : Mut s s'' E E'' w w'' :=
  ⟨fun b hb => k.own b (h.own b hb), fun b hb hn => (k.heap b (Nat.lt_of_lt_of_le hb hz) fun ho => hn (h.old b hb ho)).trans (h.heap b hb hn), fun x hx ho => h.old x hx (k.old x (Nat.lt_of_lt_of_le hx hz) ho)⟩

theorem Marks.step {B : Nat} {E E' : Env} {w w' : World} {ds : List Deferred} (h : Marks B E w ds) (hown : ∀ b, E.own b → E'.own b) (hk : ∀ b, E.own b → w.heap[b]? = some (.deferred (some [])) → w'.heap[b]? = w.heap[b]?) : Marks B E' w' ds := by
  obtain ⟨bs, h1, h2, h3⟩ := h
  refine ⟨bs, h1, h2, fun b hb => ?_⟩
  obtain ⟨c1, c2, c3⟩ := h3 b hb
  exact ⟨c1, hown b c2, (hk b c2 c3).trans c3⟩

/-- The heap has changed, the frame has not. -/
theorem SR.turn {cx : Cx} {E : Env} {s s' : AS} {a : Act} {w w' : World} (h : SR cx E s a w) (φ' : Nat → Option Nat) (nm' : Nat → Prop) (htm : s'.tm = s.tm)
    (hs : Stp E ⟨φ', ownU E s' φ', nm'⟩ w w') (hhp : ∀ k g b, s'.at k = some (g, b) → HB ⟨φ', ownU E s' φ', nm'⟩ w' g b)
    (hlp : ∀ k g r, s'.lat k = some (g, r) → LB ⟨φ', ownU E s' φ', nm'⟩ w' g r)
    (hinj : ∀ k k' g g' o o', k ≠ k' → s'.gat k = some (g, o) → s'.gat k' = some (g', o') → ∀ x, φ' g = some x → φ' g' ≠ some x)
    (hlow : ∀ x, ownOf s' φ' x → cx.M x) (hbel : Fr cx.M w w') (hnm : ∀ g, nm' g → g < s'.nx ∨ ∃ i ∈ s'.us, s'.nx + 8 * i ≤ g ∧ g < s'.nx + 8 * i + 8)
    (hkeep : ∀ b, b < w.heap.size → ¬ ownOf s E.φ b → w'.heap[b]? = w.heap[b]?) :
    SR cx ⟨φ', ownU E s' φ', nm'⟩ s' a w' :=
  { fr := fun t d hd => by rw [htm] at hd; obtain ⟨u, hu, hr⟩ := h.fr t d hd; exact ⟨u, hu, hr.step hs⟩
    sz := h.sz
    df := h.df.step (fun b hb => .inl hb) fun b hb hd => hkeep b (h.lt b hb) (h.unmarked hd)
    hp := hhp, lp := hlp, inj := hinj
    lt := fun x hx => by
      rcases hx with hx | ⟨k, g, o, hk, hx⟩
      · exact Nat.lt_of_lt_of_le (h.lt x hx) hs.size
      · cases o with
        | b b =>
          have := (hhp k g b (AS.at_iff.2 hk)).2
          have hx' : (⟨φ', ownU E s' φ', nm'⟩ : Env).φ g = some x := hx
          rw [hx'] at this; exact this.2.1
        | l r =>
          obtain ⟨_, b, L, h1, _, h3, _⟩ := hlp k g r (AS.lat_iff.2 hk)
          have hx' : (⟨φ', ownU E s' φ', nm'⟩ : Env).φ g = some x := hx
          rw [hx'] at h1; cases h1; exact h3
    low := fun x hx => hlow x hx, base := fun x hx => .inl (h.base x hx), bel := h.bel.trans hbel, nm := hnm, szB := Nat.le_trans h.szB hs.size }

theorem SR.put_none {cx : Cx} {E : Env} {s : AS} {a : Act} {w : World} (h : SR cx E s a w) (u : Value) : SR cx E s (a.put none u) w := h

end Go.Vx

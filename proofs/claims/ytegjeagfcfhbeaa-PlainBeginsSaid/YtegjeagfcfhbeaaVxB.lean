/- VxB: new blocks and stores, in the abstract and in a world. No program. -/
import Derived.Test.YtegjeagfcfhbeaaVxD
namespace Go.Vx
set_option linter.unusedVariables false
set_option linter.unusedSimpArgs false
open Go.RowKit Go.Bw

theorem cell_of_alloc (w : World) (o : Obj) : (w.alloc o).heap[w.heap.size]? = some o := heap_alloc_new w _

def upd (φ : Nat → Option Nat) (g : Nat) (x : Option Nat) : Nat → Option Nat := fun n => if n = g then x else φ n
theorem upd_same (φ : Nat → Option Nat) (g : Nat) (x : Option Nat) : upd φ g x g = x := if_pos rfl
theorem upd_other {φ : Nat → Option Nat} {g n : Nat} {x : Option Nat} (h : n ≠ g) : upd φ g x n = φ n := if_neg h
/-- The environment with a name more. -/
def Env.add (E : Env) (s' : AS) (g : Nat) (x : Option Nat) : Env := ⟨upd E.φ g x, ownU E s' (upd E.φ g x), fun n => E.nm n ∨ n = g⟩

def OB (E : Env) (w : World) (g : Nat) : Ob → Prop
  | .b b => HB E w g b
  | .l r => LB E w g r
theorem OB.nm {E : Env} {w : World} {g : Nat} {o : Ob} (h : OB E w g o) : E.nm g := by cases o <;> exact h.1
theorem SR.ob {cx : Cx} {E : Env} {s : AS} {a : Act} {w : World} (h : SR cx E s a w) {k g : Nat} {o : Ob} (hk : s.gat k = some (g, o)) : OB E w g o := by
  cases o with
  | b b => exact h.hp _ _ _ (AS.at_iff.2 hk)
  | l r => exact h.lp _ _ _ (AS.lat_iff.2 hk)
theorem OB.step {E E' : Env} {w w' : World} {g : Nat} {o : Ob} (h : OB E w g o) (hs : Stp E E' w w') (hb : ∀ b, E.φ g = some b → E'.own b ∧ w'.heap[b]? = w.heap[b]?) : OB E' w' g o := by
  cases o with
  | b b => exact HB.step h hs hb
  | l r => exact LB.step h hs hb
theorem OB.lt {E : Env} {w : World} {g : Nat} {o : Ob} (h : OB E w g o) {x : Nat} (hx : E.φ g = some x) : x < w.heap.size := by
  cases o with
  | b b => have := h.2; rw [hx] at this; exact this.2.1
  | l r => obtain ⟨_, b, L, h1, _, h3, _⟩ := h; rw [hx] at h1; cases h1; exact h3

/-- A new block. -/
theorem SR.newG {cx : Cx} {E : Env} {s : AS} {a : Act} {w : World} (h : SR cx E s a w) {g ky i : Nat} (hi : i ∉ s.us) (hg : s.nx + 8 * i ≤ g ∧ g < s.nx + 8 * i + 8) (o : Ob) (obj : Obj)
    (ho : ∀ E', Stp E E' w (w.alloc obj) → E'.nm g → E'.φ g = some w.heap.size → E'.own w.heap.size → OB E' (w.alloc obj) g o) :
    let s' : AS := { s with hp := s.hp.set ky (some (g, o)), us := i :: s.us }
    let w' := w.alloc obj
    SR cx (E.add s' g (some w.heap.size)) s' a w' ∧ Stp E (E.add s' g (some w.heap.size)) w w' ∧ (E.add s' g (some w.heap.size)).nm g ∧ (E.add s' g (some w.heap.size)).φ g = some w.heap.size ∧ Mut s s' E (E.add s' g (some w.heap.size)) w w' := by
  intro s' w'
  have hfr : ¬ E.nm g := fun hn => by
    rcases h.nm g hn with h1 | ⟨j, hj, h1, h2⟩
    · omega
    · have : j = i := by omega
      subst this; exact hi hj
  have hat : ∀ {k' g' o'}, s'.gat k' = some (g', o') → (k' = ky ∧ g' = g ∧ o' = o) ∨ (k' ≠ ky ∧ s.gat k' = some (g', o')) := fun hk => by
    rcases Tr.of_set hk with ⟨e, hv⟩ | ⟨e, hk⟩
    · cases hv; exact .inl ⟨e, rfl, rfl⟩
    · exact .inr ⟨e, hk⟩
  have hne : ∀ {k g' o'}, s.gat k = some (g', o') → g' ≠ g := fun hk e => by subst e; exact hfr (h.ob hk).nm
  have hlt : ∀ {k g' o' x}, s.gat k = some (g', o') → E.φ g' = some x → x < w.heap.size := fun hk hx => (h.ob hk).lt hx
  have hsz : w'.heap.size = w.heap.size + 1 := by simp [w']
  have hs : Stp E (E.add s' g (some w.heap.size)) w w' := by
    refine ⟨fun x hx => .inl hx, fun x hx => ?_, by omega, fun b hb ho => ⟨?_, Below.heap_alloc w _ b hb⟩, fun b hb => shape_of_block (Below.heap_alloc w _ b hb)⟩
    · exact upd_other (fun e => by subst e; exact hfr hx)
    · rintro (ho' | ⟨k, g', o', hk, hx⟩)
      · exact ho ho'
      · rcases hat hk with ⟨_, rfl, rfl⟩ | ⟨_, hk⟩
        · rw [upd_same] at hx; cases hx; omega
        · rw [upd_other (hne hk)] at hx
          exact ho (h.own_of ⟨k, g', o', hk, hx⟩)
  have hφg : (E.add s' g (some w.heap.size)).φ g = some w.heap.size := upd_same _ _ _
  have hold : ∀ {k g' o'}, s'.gat k = some (g', o') → OB (E.add s' g (some w.heap.size)) w' g' o' := fun {k g' o'} hk => by
    rcases hat hk with ⟨rfl, rfl, rfl⟩ | ⟨_, hk0⟩
    · exact ho _ hs (.inr rfl) hφg (.inr ⟨_, _, _, hk, hφg⟩)
    · refine (h.ob hk0).step hs fun b hb => ⟨.inr ⟨k, g', o', hk, (upd_other (hne hk0)).trans hb⟩, Below.heap_alloc w _ b (hlt hk0 hb)⟩
  have hmut : Mut s s' E (E.add s' g (some w.heap.size)) w w' := ⟨fun b hb => .inl hb, fun b hb _ => Below.heap_alloc w _ b hb, fun x hlt' ⟨k, g', o', hk, hx⟩ => by
    have hx : upd E.φ g (some w.heap.size) g' = some x := hx
    rcases hat hk with ⟨_, e5, _⟩ | ⟨_, hk⟩
    · subst e5; rw [upd_same] at hx; cases hx; omega
    · rw [upd_other (hne hk)] at hx
      exact ⟨k, g', o', hk, hx⟩⟩
  refine ⟨h.turn _ _ rfl hs (fun k g' b hk => hold (AS.at_iff.1 hk)) (fun k g' r hk => hold (AS.lat_iff.1 hk)) ?_ ?_ ?_ ?_ hmut.heap, hs, .inr rfl, hφg, hmut⟩
  · intro k k' g1 g2 o1 o2 hkk h1 h2 x hx1 hx2
    have key : ∀ {k g' o'}, s.gat k = some (g', o') → upd E.φ g (some w.heap.size) g' = some x → E.φ g' = some x ∧ x < w.heap.size := fun hk hx => by
      rw [upd_other (hne hk)] at hx
      exact ⟨hx, hlt hk hx⟩
    rcases hat h1 with ⟨e1, e3, e4⟩ | ⟨_, a1⟩ <;> rcases hat h2 with ⟨e2, e5, e6⟩ | ⟨_, a2⟩
    · omega
    · subst e3; rw [upd_same] at hx1; cases hx1
      have := (key a2 hx2).2; omega
    · subst e5; rw [upd_same] at hx2; cases hx2
      have := (key a1 hx1).2; omega
    · exact h.inj k k' g1 g2 o1 o2 hkk a1 a2 x (key a1 hx1).1 (key a2 hx2).1
  · rintro x ⟨k, g', o', hk, hx⟩
    have hx : upd E.φ g (some w.heap.size) g' = some x := hx
    rcases hat hk with ⟨_, e5, _⟩ | ⟨_, hk⟩
    · subst e5; rw [upd_same] at hx; cases hx
      exact cx.hM _ h.szB
    · rw [upd_other (hne hk)] at hx
      exact h.low x ⟨k, g', o', hk, hx⟩
  · exact ⟨rfl, rfl, rfl, by omega, fun k hk _ => Below.heap_alloc w _ k hk, hs.shape⟩
  · rintro n (hn | rfl)
    · rcases h.nm n hn with h1 | ⟨j, hj, h1⟩
      · exact .inl h1
      · exact .inr ⟨j, List.mem_cons_of_mem _ hj, h1⟩
    · exact .inr ⟨i, List.mem_cons_self, hg⟩

/-- A new block of cells, row or not: its cells are cs; more cells may stand behind. -/
theorem SR.new {cx : Cx} {E : Env} {s : AS} {a : Act} {w : World} (h : SR cx E s a w) {g ky i : Nat} (hi : i ∉ s.us) (hg : s.nx + 8 * i ≤ g ∧ g < s.nx + 8 * i + 8) (elem : TypeId) (cs : List D) (us : List Value) (row : Bool) (fr : Nat × Nat) (hfz : NoFr fr us.length)
    (hlen : cs.length ≤ us.length) (hrow : row = false → us.length = cs.length) (hd : ∀ (j : Nat) d, cs[j]? = some d → ∃ u, us[j]? = some u ∧ u.oneCell' = true ∧ RD E w d u) :
    let s' : AS := { s with hp := s.hp.set ky (some (g, .b ⟨cs, elem, row⟩)), us := i :: s.us }
    let w' := w.alloc (.cells us.toArray elem fr)
    SR cx (E.add s' g (some w.heap.size)) s' a w' ∧ Stp E (E.add s' g (some w.heap.size)) w w' ∧ (E.add s' g (some w.heap.size)).nm g ∧ (E.add s' g (some w.heap.size)).φ g = some w.heap.size ∧ Mut s s' E (E.add s' g (some w.heap.size)) w w' := by
  refine h.newG hi hg (.b ⟨cs, elem, row⟩) (.cells us.toArray elem fr) fun E' hs hn hp ho => ?_
  refine ⟨hn, ?_⟩
  rw [hp]
  refine ⟨ho, by simp, us.toArray, fr, cell_of_alloc w _, by simpa using hfz, by simpa using hlen, fun hr => by simpa using hrow hr, fun j d hj => ?_⟩
  obtain ⟨u, hu, h1, hr⟩ := hd j d hj
  exact ⟨u, by simpa using hu, h1, hr.step hs⟩

/-- Cells written into a list of cells. -/
def setSeg (cells : List D) (off : Nat) (ds : List D) : List D := cells.take off ++ ds ++ cells.drop (off + ds.length)

theorem setSeg_length {cells : List D} {off : Nat} {ds : List D} (h : off + ds.length ≤ cells.length) : (setSeg cells off ds).length = cells.length := by
  simp [setSeg]; omega
theorem setSeg_get {cells : List D} {off : Nat} {ds : List D} (h : off + ds.length ≤ cells.length) (i : Nat) :
    (setSeg cells off ds)[i]? = if off ≤ i ∧ i < off + ds.length then ds[i - off]? else cells[i]? := by
  unfold setSeg
  by_cases h1 : i < off
  · rw [if_neg (by omega), List.append_assoc, List.getElem?_append_left (by simp; omega), List.getElem?_take, if_pos h1]
  · by_cases h2 : i < off + ds.length
    · rw [if_pos ⟨by omega, h2⟩, List.append_assoc, List.getElem?_append_right (by simp; omega), List.getElem?_append_left (by simp; omega)]
      congr 1; simp; omega
    · rw [if_neg (by omega), List.append_assoc, List.getElem?_append_right (by simp; omega), List.getElem?_append_right (by simp; omega), List.getElem?_drop]
      congr 1; simp; omega

/-- A block that is kept turns. -/
theorem SR.storeG {cx : Cx} {E : Env} {s : AS} {a : Act} {w w' : World} (h : SR cx E s a w) {k g i b : Nat} {o o' : Ob} (hk : s.gat k = some (g, o)) (hb : E.φ g = some b) (us : List Nat) (hus : s.us ⊆ us)
    (hg : w.grownBy w' (some b)) (hz : w'.heap.size = w.heap.size) (hsh : w'.shape? b = w.shape? b)
    (ho : ∀ E' : Env, Stp E E' w w' → (∀ x, E.nm x → E'.nm x) → E'.φ = E.φ → E'.own b → OB E' w' g o') :
    let s' : AS := { s with hp := s.hp.set k (some (g, o')), us := us }
    SR cx ⟨E.φ, ownU E s' E.φ, E.nm⟩ s' a w' ∧ Stp E ⟨E.φ, ownU E s' E.φ, E.nm⟩ w w' ∧ Mut s s' E ⟨E.φ, ownU E s' E.φ, E.nm⟩ w w' := by
  intro s'
  have hat : ∀ {k' g' o''}, s'.gat k' = some (g', o'') → (k' = k ∧ g' = g ∧ o'' = o') ∨ (k' ≠ k ∧ s.gat k' = some (g', o'')) := fun hk => by
    rcases Tr.of_set hk with ⟨e, hv⟩ | ⟨e, hk⟩
    · cases hv; exact .inl ⟨e, rfl, rfl⟩
    · exact .inr ⟨e, hk⟩
  have hown : E.own b := h.own_of ⟨k, g, o, hk, hb⟩
  have hs : Stp E ⟨E.φ, ownU E s' E.φ, E.nm⟩ w w' := by
    refine ⟨fun x hx => hx, fun x hx => rfl, by omega, fun x hx hno => ⟨?_, hg.block x hx (fun e => by cases e; exact hno hown)⟩, fun x hx => ?_⟩
    rotate_left
    · by_cases e : x = b
      · subst e; exact hsh
      · exact shape_of_block (hg.block x hx (fun e2 => by cases e2; exact e rfl))
    rintro (ho' | ⟨k', g', o'', hk', hx'⟩)
    · exact hno ho'
    · rcases hat hk' with ⟨_, rfl, rfl⟩ | ⟨_, hk'⟩
      · exact hno (h.own_of ⟨k, _, o, hk, hx'⟩)
      · exact hno (h.own_of ⟨k', g', o'', hk', hx'⟩)
  have hmut : Mut s s' E ⟨E.φ, ownU E s' E.φ, E.nm⟩ w w' := ⟨fun b hb => .inl hb, fun x hx hno => hg.block x hx (fun e => by cases e; exact hno ⟨k, g, o, hk, hb⟩), fun x hlt' ⟨k', g', o'', hk', hx⟩ => by
    rcases hat hk' with ⟨_, rfl, rfl⟩ | ⟨_, hk'⟩
    · exact ⟨k, _, o, hk, hx⟩
    · exact ⟨k', g', o'', hk', hx⟩⟩
  have hold : ∀ {k' g' o''}, s'.gat k' = some (g', o'') → OB ⟨E.φ, ownU E s' E.φ, E.nm⟩ w' g' o'' := fun {k' g' o''} hk' => by
    rcases hat hk' with ⟨rfl, rfl, rfl⟩ | ⟨e, hk0⟩
    · exact ho _ hs (fun x hx => hx) rfl (.inl hown)
    · refine (h.ob hk0).step hs fun x hx => ⟨.inr ⟨k', g', o'', hk', hx⟩, ?_⟩
      exact hg.block x ((h.ob hk0).lt hx) (fun e2 => by cases e2; exact h.inj k k' g g' o o'' (Ne.symm e) hk hk0 _ hb hx)
  refine ⟨h.turn _ _ rfl hs (fun k g' b hk => hold (AS.at_iff.1 hk)) (fun k g' r hk => hold (AS.lat_iff.1 hk)) ?_ ?_ ?_ ?_ hmut.heap, hs, hmut⟩
  · intro k1 k2 g1 g2 o1 o2 hkk h1 h2 x hx1 hx2
    have key : ∀ {k0 g0 o0}, s'.gat k0 = some (g0, o0) → ∃ o3, s.gat k0 = some (g0, o3) := fun {k0 g0 o0} hh => by
      rcases hat hh with ⟨rfl, rfl, rfl⟩ | ⟨_, hh⟩
      · exact ⟨o, hk⟩
      · exact ⟨_, hh⟩
    obtain ⟨o3, h3⟩ := key h1
    obtain ⟨o4, h4⟩ := key h2
    exact h.inj k1 k2 g1 g2 o3 o4 hkk h3 h4 x hx1 hx2
  · rintro x ⟨k', g', o'', hk', hx⟩
    rcases hat hk' with ⟨rfl, rfl, rfl⟩ | ⟨_, hk'⟩
    · exact h.low x ⟨_, _, o, hk, hx⟩
    · exact h.low x ⟨k', g', o'', hk', hx⟩
  · exact Fr.of_grown hg (fun x e => by cases e; exact h.low b ⟨k, g, o, hk, hb⟩) hs.shape
  · intro n hn
    rcases h.nm n hn with h1 | ⟨j, hj, h1⟩
    · exact .inl h1
    · exact .inr ⟨j, hus hj, h1⟩

/-- Cells of a block of one's own are written. -/
theorem SR.store {cx : Cx} {E : Env} {s : AS} {a : Act} {w w' : World} (h : SR cx E s a w) {k g i b : Nat} {blk : Blk} (hk : s.at k = some (g, blk)) (hb : E.φ g = some b) (cells' : List D) (hl : cells'.length = blk.cells.length)
    (hg : w.grownBy w' (some b)) (hz : w'.heap.size = w.heap.size) (cur cur' : Array Value) (fr : Nat × Nat) (hcur : w.heap[b]? = some (.cells cur blk.elem fr)) (hcur' : w'.heap[b]? = some (.cells cur' blk.elem fr)) (hsz : cur'.size = cur.size)
    (hd : ∀ (j : Nat) d, cells'[j]? = some d → ∃ u, cur'[j]? = some u ∧ u.oneCell' = true ∧ RD E w d u) :
    let s' : AS := { s with hp := s.hp.set k (some (g, .b ⟨cells', blk.elem, blk.row⟩)), us := i :: s.us }
    SR cx ⟨E.φ, ownU E s' E.φ, E.nm⟩ s' a w' ∧ Stp E ⟨E.φ, ownU E s' E.φ, E.nm⟩ w w' ∧ Mut s s' E ⟨E.φ, ownU E s' E.φ, E.nm⟩ w w' := by
  have hbk := h.hp k g blk hk
  have hbm := hbk.2
  rw [hb] at hbm
  obtain ⟨hown, hlt, cur0, fr0, hcur0, hfz, hle, hrow, _⟩ := hbm
  rw [hcur] at hcur0; cases hcur0
  refine h.storeG (i := i) (o' := .b ⟨cells', blk.elem, blk.row⟩) (AS.at_iff.1 hk) hb (i :: s.us) (fun x hx => List.mem_cons_of_mem _ hx) hg hz (by rw [shape_cells hcur, shape_cells hcur', hsz]) fun E' hs hn hp ho => ?_
  refine ⟨hn _ hbk.1, ?_⟩
  rw [hp, hb]
  refine ⟨ho, by omega, cur', fr, hcur', by rw [hsz]; exact hfz, by simp only; omega, fun hr => by simp only; rw [hsz, hrow hr, hl], fun j d hj => ?_⟩
  obtain ⟨u, hu, h1, hr⟩ := hd j d hj
  exact ⟨u, hu, h1, hr.step hs⟩

end Go.Vx

/- Region: a region that draws its order, walked once in the text's order: its head under a condition S on the world (S need not hold behind the tail), its tail in a row. No program. -/
import Derived.Test.YtekbfimlmdofbaaBase
import Derived.StillTailTactics
namespace Go.Bw
section
variable {P : Program} {ops : Array Oper} {Q : Exit → Act → World → Prop} {md : Region.Mode} {S : World → Prop} {n : Nat} {L : Array Bool → Act → World → Prop}

/-- The head of a region, whatever order is picked: f operations of it are left; behind each S holds; then L. -/
def Hd (P : Program) (md : Region.Mode) (ops : Array Oper) (Q : Exit → Act → World → Prop) (S : World → Prop) (n : Nat) (L : Array Bool → Act → World → Prop) : Nat → Array Bool → Act → World → Prop
  | 0, listed, a, w => L listed a w
  | f + 1, listed, a, w => Region.ready md ops listed ≠ [] ∧ ∀ i ∈ Region.ready md ops listed, i < n ∧ wpOp P ops Q i (fun a' w' => S w' ∧ Hd P md ops Q S n L f (listed.setIfInBounds i true) a' w') a w

theorem Hd.any {g : Nat} (hL : ∀ listed a w, L listed a w → wpAny P md ops Q g listed a w) :
    ∀ (f : Nat) (listed : Array Bool) (a : Act) (w : World), Hd P md ops Q S n L f listed a w → wpAny P md ops Q (f + g) listed a w
  | 0, listed, a, w, h => by rw [Nat.zero_add]; exact hL _ _ _ h
  | f + 1, listed, a, w, h => by
    rw [show f + 1 + g = (f + g) + 1 by omega]
    exact ⟨fun h0 => absurd h0 h.1, fun i hi => wpOp_mono (fun a' w' h' => Hd.any hL f _ a' w' h'.2) (h.2 i hi).2⟩

/-- What the kernel looks at once: the tail waits for all of the head, and stands in a row. -/
structure HeadOk (md : Region.Mode) (ops : Array Oper) (n : Nat) : Prop where
  sel : Region.noSelect ops = true
  sink : Region.sinkB md ops n = true
  chain : Region.chainB md ops n = true
  lt : n < ops.size

theorem HeadOk.of {md : Region.Mode} {ops : Array Oper} {n : Nat} (h : (Region.noSelect ops && Region.sinkB md ops n && Region.chainB md ops n && decide (n < ops.size)) = true) : HeadOk md ops n := by
  simp only [Bool.and_eq_true, decide_eq_true_eq] at h
  exact ⟨h.1.1.1, h.1.1.2, h.1.2, h.2⟩

/-- What yields its value in every world that meets S may be taken first. -/
theorem Hd.first {i : Nat} {oi : Oper} {v : Value} (ok : HeadOk md ops n) (hi : ops[i]? = some oi) (hin : i < n)
    (hQ : ∀ c a w, Q (.panic c) (a.put oi.dst v) w → Q (.panic c) a w) (hdone : ∀ listed a w, L listed a w → ∀ j ∈ Region.ready md ops listed, n ≤ j) :
    ∀ (f : Nat) (listed : Array Bool) (a : Act) (w : World), HeadInv md ops n listed →
      (∀ j oj, ops[j]? = some oj → j ≠ i → listed.getD j true = false → (∀ e ∈ oj.after, Region.binds md e = true → e.on ≠ i) → oi.apart ops oj = true) →
      i ∈ Region.ready md ops listed → YieldsIf P ops S oi v a → S w →
      Hd P md ops Q S n L f (listed.setIfInBounds i true) (a.put oi.dst v) w → Hd P md ops Q S n L (f + 1) listed a w := by
  intro f
  induction f with
  | zero =>
    intro listed a w inv _ hr hy hS H
    have hun := (mem_ready.1 hr).1
    refine ⟨fun h => (by rw [h] at hr; cases hr), fun j hj => ?_⟩
    have hjn : j < n := (Nat.lt_or_ge j n).elim id fun h => absurd hj (tail_waits ok.sink ok.chain ok.lt inv _ i rfl hin hun j h)
    refine ⟨hjn, ?_⟩
    by_cases hji : j = i
    · subst hji; exact hy.wpOp hi hS ⟨hS, H⟩
    · have := hdone _ _ _ H j (ready_mono hj hji)
      omega
  | succ f ih =>
    intro listed a w inv hfree hr hy hS H
    have hun := (mem_ready.1 hr).1
    refine ⟨fun h => (by rw [h] at hr; cases hr), fun j hj => ?_⟩
    have hjn : j < n := (Nat.lt_or_ge j n).elim id fun h => absurd hj (tail_waits ok.sink ok.chain ok.lt inv _ i rfl hin hun j h)
    refine ⟨hjn, ?_⟩
    by_cases hji : j = i
    · subst hji; exact hy.wpOp hi hS ⟨hS, H⟩
    · have h1 := (H.2 j (ready_mono hj hji)).2
      obtain ⟨hjun, oj, hoj, hall⟩ := mem_ready.1 hj
      have hnot : ∀ e ∈ oj.after, Region.binds md e = true → e.on ≠ i := fun e he hb heq => by
        have h2 := hall e he hb
        rw [heq, getD_both hun] at h2
        cases h2
      have sel := Region.noSelect_spec ok.sel
      have h2 := wpOp_putIf hoj (hfree j oj hoj hji hjun hnot) (fun cs b => sel i oi cs b hi) (fun cs b => sel j oj cs b hoj) hQ hy h1
      refine wpOp_mono (fun a' w' h3 => ⟨h3.2.1, ih (listed.setIfInBounds j true) a' w' (inv.set hj hjn) (fun k ok' hk hki hku hno => hfree k ok' hk hki ?_ hno) (ready_mono hr (Ne.symm hji)) h3.1 h3.2.1 ?_⟩) h2
      · by_cases hjk : j = k
        · subst hjk; exact hjun
        · rw [getD_set_ne true hjk] at hku; exact hku
      · rw [Array.setIfInBounds_comm _ _ hji]
        exact h3.2.2

/-- The tail: the rest of the operations, in a row. -/
def Tail (P : Program) (md : Region.Mode) (ops : Array Oper) (Q : Exit → Act → World → Prop) (n : Nat) (listed : Array Bool) (a : Act) (w : World) : Prop :=
  Region.seqB md ops (ops.size - n) n listed = true ∧ wpList P ops Q (ops.toList.drop n) a w

/-- A step of the walk: operation i, taken first. -/
theorem hd_take {i : Nat} {oi : Oper} {v : Value} {f : Nat} {listed : Array Bool} {a : Act} {w : World} (ok : HeadOk md ops n) (inv : HeadInv md ops n listed) (hi : ops[i]? = some oi)
    (hk : (decide (i < n) && Region.free md ops listed i && (Region.ready md ops listed).contains i) = true)
    (hQ : ∀ c a w, Q (.panic c) (a.put oi.dst v) w → Q (.panic c) a w) (hy : YieldsIf P ops S oi v a) (hS : S w)
    (h : HeadInv md ops n (listed.setIfInBounds i true) → Hd P md ops Q S n (Tail P md ops Q n) f (listed.setIfInBounds i true) (a.put oi.dst v) w) :
    Hd P md ops Q S n (Tail P md ops Q n) (f + 1) listed a w := by
  simp only [Bool.and_eq_true, decide_eq_true_eq] at hk
  have hr : i ∈ Region.ready md ops listed := by simpa using hk.2
  exact Hd.first ok hi hk.1.1 hQ (fun _ _ _ hL => seqB_ready hL.1) f listed a w inv (Region.free_spec hi hk.1.2) hr hy hS (h (inv.set hr hk.1.1))

/-- A step of the walk: operation i is the only one that may come up. -/
theorem hd_step {i : Nat} {o : Oper} {f : Nat} {listed : Array Bool} {a : Act} {w : World} (inv : HeadInv md ops n listed) (ho : ops[i]? = some o)
    (hk : (decide (i < n) && decide (Region.ready md ops listed = [i])) = true)
    (h : HeadInv md ops n (listed.setIfInBounds i true) → ∀ K' : Act → World → Prop, Shut (∀ a w, S w → (S w → Hd P md ops Q S n (Tail P md ops Q n) f (listed.setIfInBounds i true) a w) → K' a w) →
      if Region.wanted o (yielded ops a.tmps) = true then Oper.wp P o a w K' Q else K' (a.put o.dst undef) w) :
    Hd P md ops Q S n (Tail P md ops Q n) (f + 1) listed a w := by
  simp only [Bool.and_eq_true, decide_eq_true_eq] at hk
  refine ⟨by rw [hk.2]; simp, fun j hj => ?_⟩
  have hji : j = i := by rw [hk.2] at hj; simpa using hj
  subst hji
  exact ⟨hk.1, wpOp_step ho fun K' hK => h (inv.set hj hk.1) K' (fun a w hS hW => hK a w ⟨hS, hW hS⟩)⟩

/-- A step of the walk: one of two operations comes up. -/
theorem hd_two {i j : Nat} {oi oj : Oper} {f : Nat} {listed : Array Bool} {a : Act} {w : World} (inv : HeadInv md ops n listed) (hi : ops[i]? = some oi) (hj : ops[j]? = some oj)
    (hk : (decide (i < n) && decide (j < n) && decide (Region.ready md ops listed = [i, j])) = true)
    (h1 : HeadInv md ops n (listed.setIfInBounds i true) → ∀ K' : Act → World → Prop, Shut (∀ a w, S w → (S w → Hd P md ops Q S n (Tail P md ops Q n) f (listed.setIfInBounds i true) a w) → K' a w) →
      if Region.wanted oi (yielded ops a.tmps) = true then Oper.wp P oi a w K' Q else K' (a.put oi.dst undef) w)
    (h2 : HeadInv md ops n (listed.setIfInBounds j true) → ∀ K' : Act → World → Prop, Shut (∀ a w, S w → (S w → Hd P md ops Q S n (Tail P md ops Q n) f (listed.setIfInBounds j true) a w) → K' a w) →
      if Region.wanted oj (yielded ops a.tmps) = true then Oper.wp P oj a w K' Q else K' (a.put oj.dst undef) w) :
    Hd P md ops Q S n (Tail P md ops Q n) (f + 1) listed a w := by
  simp only [Bool.and_eq_true, decide_eq_true_eq] at hk
  refine ⟨by rw [hk.2]; simp, fun t ht => ?_⟩
  have hti : t = i ∨ t = j := by rw [hk.2] at ht; simpa using ht
  rcases hti with rfl | rfl
  · exact ⟨hk.1.1, wpOp_step hi fun K' hK => h1 (inv.set ht hk.1.1) K' (fun a w hS hW => hK a w ⟨hS, hW hS⟩)⟩
  · exact ⟨hk.1.2, wpOp_step hj fun K' hK => h2 (inv.set ht hk.1.2) K' (fun a w hS hW => hK a w ⟨hS, hW hS⟩)⟩

/-- The head is through. -/
theorem hd_done {listed : Array Bool} {a : Act} {w : World} (hk : Region.seqB md ops (ops.size - n) n listed = true) (h : wpList P ops Q (ops.toList.drop n) a w) : Hd P md ops Q S n (Tail P md ops Q n) 0 listed a w := ⟨hk, h⟩

/-- The beginning. -/
theorem wp_region_hd {id : Nat} {a : Act} {w : World} (n : Nat) (hm : P.follows .mixedOrders = true)
    (hk : (Region.noSelect ops && Region.sinkB .any ops n && Region.chainB .any ops n && decide (n < ops.size)) = true) (hS : S w.drew)
    (h : HeadOk .any ops n → HeadInv .any ops n (Array.replicate ops.size false) → S w.drew → Hd P .any ops Q S n (Tail P .any ops Q n) n (Array.replicate ops.size false) a w.drew) :
    (Code.region id ops true).wp P Q a w := by
  have ok := HeadOk.of hk
  have inv0 : HeadInv .any ops n (Array.replicate ops.size false) :=
    ⟨by simp, fun j oj _ hl => (by rw [getD_replicate_false] at hl; cases hl), fun t _ ht => getD_in (by simpa using ht) (getD_replicate_false _ _)⟩
  refine wp_region_any hm ?_
  have H := Hd.any (g := ops.size - n) (fun listed a w hL => by
    have hd : (ops.toList.drop n).length = ops.size - n := by simp
    have := wpAny_of_seq (P := P) (md := .any) (Q' := Q) (ops := ops) (ops.toList.drop n) n listed a w (fun j => by simp [List.getElem?_drop]) (by rw [hd]; exact hL.1) hL.2
    rwa [hd] at this) n _ _ _ (h ok inv0 hS)
  rwa [show n + (ops.size - n) = ops.size from by have := ok.lt; omega] at H

/-- '[]byte("abc")', wherever the new block lies. -/
theorem run_bytes_const_at (t e : TypeId) (ht : P.underlying t = some (.slice e)) (he : P.underlying e = some (.int .u8)) (w : World) (g : Nat) (C : Array Value) (n c : Nat) (hg : g = w.heap.size) :
    (convert t t (.slice (some ⟨g, 0, none⟩) n c)).run P (w.alloc (.cells C e)) = .ok (.slice (some ⟨g, 0, none⟩) n c) (w.alloc (.cells C e (C.size, C.size + 1))) := by
  subst hg; exact Lib.run_convert_bytes_const w t e C n c ht he

/-- append at one operation, the source being any slice that can be read. -/
theorem wp_append_row {w : World} {o : Oper} {a : Act} {K : Act → World → Prop} (s x : Operand) (t : TypeId)
    (ho : o.op = .call { callee := .builtin .append, args := #[s, x], argTypes := #[t, t] })
    (base : Nat) (e : TypeId) (i : TypeInfo) (z : Value) (size bytes : Nat) (ht : P.underlying t = some (.slice e)) (hi : P.info? e = some i) (hz : i.zero = some z)
    (hsize : i.size = size) (hby : i.bytes = bytes) (hzs : z.cells.size = size) (hsz : 0 < size)
    (v : Value) (k : Nat) (xs : List Value) (hs : a.eval s = v) (hown : w.ownsRow base e size v k xs)
    (ad : Option Addr) (m c : Nat) (news : List Value) (hx : a.eval x = .slice ad m c) (hrow : Row w ad c m size news) (h1 : ∀ u ∈ news, u.oneCell' = true)
    (hbytes : (k + m) * bytes ≤ 140737488355328) (hpos : 0 < bytes) (hbase : base ≤ w.heap.size)
    (h : ∀ v' w', w'.ownsRow base e size v' (k + m) (xs ++ news) → w.grownBy w' v.ownBlock → (v'.ownBlock = v.ownBlock ∨ v'.ownBlock = some w.heap.size) → K (a.put o.dst v') w') : o.wp P a w K Q := by
  obtain ⟨hl, hmc, hc, hn0, hcells⟩ := hrow
  have h63 : k + m ≤ maxLen := by
    have : k + m ≤ (k + m) * bytes := Nat.le_mul_of_pos_right _ hpos
    unfold maxLen; omega
  unfold Oper.wp execOp
  cases ad with
  | none =>
    have : c = 0 := hn0 rfl
    subst this
    have hm : m = 0 := by omega
    subst hm
    have : news = [] := by cases news; rfl; simp at hl
    subst this
    have hr := run_append_owned_none (P := P) (w := w) base t o.type e i size ht hi v k xs hown
    simp only [ho, resolve, invoke, builtin, Sem.run_bind, Sem.run_pure, Result.andThen_ok, List.map_toArray, List.map_cons, List.map_nil, hs, hx, hr]
    exact h v w (by simpa using hown) (grown_refl _ _) (.inl rfl)
  | some ad =>
    obtain ⟨v', w', hr, h2, h3, _, h5⟩ := run_append_own_at (P := P) w base t o.type e i z size bytes ht hi hz hsize hby hzs hsz v k xs hown ad m c news hl (by
      intro j u hu
      rcases hcells with hm | ⟨b, off, ha, hlt, hcell⟩
      · subst hm
        have : news = [] := by cases news; rfl; simp at hl
        subst this; simp at hu
      · cases ha
        rw [Addr.add_mid]; exact hcell j u hu) h1 h63 hbytes hbase
    simp only [ho, resolve, invoke, builtin, Sem.run_bind, Sem.run_pure, Result.andThen_ok, List.map_toArray, List.map_cons, List.map_nil, hs, hx, hr]
    exact h v' w' h2 h3 h5
end
end Go.Bw

/- VxA: a tree of things kept under numbers. No program. -/
import Derived.Test.YtegjeagfcfhbeaaBase
namespace Go.Vx
set_option linter.unusedVariables false
set_option linter.unusedSimpArgs false
inductive Tr (α : Type) where
  | e
  | n (l : Tr α) (v : Option α) (r : Tr α)
  deriving Inhabited
namespace Tr
variable {α : Type}
/-- What is kept under a number. -/
def get (t : Tr α) : Nat → Option α :=
  match t with
  | .e => fun _ => none
  | .n l v r => fun k => bif Nat.beq k 0 then v else bif Nat.beq (Nat.land k 1) 1 then l.get (Nat.div k 2) else r.get (Nat.div k 2 - 1)
/-- Something is laid under a number. -/
def put (v : Option α) : Nat → Nat → Tr α → Tr α
  | 0, _, _ => .e
  | f + 1, k, .e => bif Nat.beq k 0 then .n .e v .e else bif Nat.beq (Nat.land k 1) 1 then .n (put v f (Nat.div k 2) .e) none .e else .n .e none (put v f (Nat.div k 2 - 1) .e)
  | f + 1, k, .n l x r => bif Nat.beq k 0 then .n l v r else bif Nat.beq (Nat.land k 1) 1 then .n (put v f (Nat.div k 2) l) x r else .n l x (put v f (Nat.div k 2 - 1) r)
theorem land_one (k : Nat) : Nat.beq (Nat.land k 1) 1 = decide (k % 2 = 1) := by
  have : Nat.land k 1 = k % 2 := Nat.and_one_is_mod k
  rw [this]
  rcases Nat.mod_two_eq_zero_or_one k with h | h <;> rw [h] <;> rfl
theorem beq_dec (a b : Nat) : Nat.beq a b = decide (a = b) := by
  by_cases h : a = b
  · subst h; simp
  · cases hb : Nat.beq a b with
    | false => simp [h]
    | true => exact absurd (Nat.eq_of_beq_eq_true hb) h
theorem get_e (k : Nat) : (Tr.e : Tr α).get k = none := rfl
theorem get_n (l : Tr α) (v : Option α) (r : Tr α) (k : Nat) : (Tr.n l v r).get k = if k = 0 then v else if k % 2 = 1 then l.get (k / 2) else r.get (k / 2 - 1) := by
  show (bif Nat.beq k 0 then v else bif Nat.beq (Nat.land k 1) 1 then l.get (Nat.div k 2) else r.get (Nat.div k 2 - 1)) = _
  rw [land_one, beq_dec]
  by_cases h0 : k = 0
  · simp [h0]
  · by_cases h1 : k % 2 = 1 <;> simp [h0, h1] <;> rfl
theorem put_e (v : Option α) (f k : Nat) : put v (f + 1) k .e = if k = 0 then .n .e v .e else if k % 2 = 1 then .n (put v f (k / 2) .e) none .e else .n .e none (put v f (k / 2 - 1) .e) := by
  show (bif Nat.beq k 0 then _ else bif Nat.beq (Nat.land k 1) 1 then _ else _) = _
  rw [land_one, beq_dec]
  by_cases h0 : k = 0
  · simp [h0]
  · by_cases h1 : k % 2 = 1 <;> simp [h0, h1] <;> rfl
theorem put_n (v : Option α) (f k : Nat) (l : Tr α) (x : Option α) (r : Tr α) : put v (f + 1) k (.n l x r) = if k = 0 then .n l v r else if k % 2 = 1 then .n (put v f (k / 2) l) x r else .n l x (put v f (k / 2 - 1) r) := by
  show (bif Nat.beq k 0 then _ else bif Nat.beq (Nat.land k 1) 1 then _ else _) = _
  rw [land_one, beq_dec]
  by_cases h0 : k = 0
  · simp [h0]
  · by_cases h1 : k % 2 = 1 <;> simp [h0, h1] <;> rfl
theorem get_put (v : Option α) : ∀ (f k : Nat) (t : Tr α) (c : Nat), k + 1 < 2 ^ f → (put v f k t).get c = if c = k then v else t.get c
  | 0, k, t, c, h => by simp at h
  | f + 1, k, .e, c, h => by
    have h2 : 2 ^ (f + 1) = 2 * 2 ^ f := by rw [Nat.pow_succ]; omega
    rw [put_e, get_e]
    by_cases h0 : k = 0
    · rw [if_pos h0, get_n]; subst h0
      by_cases hc : c = 0
      · simp [hc]
      · by_cases h1 : c % 2 = 1 <;> simp [hc, h1, get_e]
    · rw [if_neg h0]
      by_cases hk : k % 2 = 1
      · rw [if_pos hk, get_n]
        by_cases hc : c = 0
        · have : c ≠ k := by omega
          simp [hc, Ne.symm h0]
        · by_cases h1 : c % 2 = 1
          · rw [if_neg hc, if_pos h1, get_put v f (k / 2) .e (c / 2) (by omega), get_e]
            by_cases e : c = k
            · simp [e]
            · rw [if_neg e, if_neg (by omega)]
          · rw [if_neg hc, if_neg h1, get_e, if_neg (by omega)]
      · rw [if_neg hk, get_n]
        by_cases hc : c = 0
        · simp [hc, Ne.symm h0]
        · by_cases h1 : c % 2 = 1
          · rw [if_neg hc, if_pos h1, get_e, if_neg (by omega)]
          · rw [if_neg hc, if_neg h1, get_put v f (k / 2 - 1) .e (c / 2 - 1) (by omega), get_e]
            by_cases e : c = k
            · simp [e]
            · rw [if_neg e, if_neg (by omega)]
  | f + 1, k, .n l x r, c, h => by
    have h2 : 2 ^ (f + 1) = 2 * 2 ^ f := by rw [Nat.pow_succ]; omega
    rw [put_n, get_n]
    by_cases h0 : k = 0
    · rw [if_pos h0, get_n]; subst h0
      by_cases hc : c = 0
      · simp [hc]
      · simp [hc]
    · rw [if_neg h0]
      by_cases hk : k % 2 = 1
      · rw [if_pos hk, get_n]
        by_cases hc : c = 0
        · simp [hc, Ne.symm h0]
        · by_cases h1 : c % 2 = 1
          · rw [if_neg hc, if_pos h1, get_put v f (k / 2) l (c / 2) (by omega), if_neg hc, if_pos h1]
            by_cases e : c = k
            · simp [e]
            · rw [if_neg e, if_neg (by omega)]
          · rw [if_neg hc, if_neg h1, if_neg hc, if_neg h1, if_neg (by omega)]
      · rw [if_neg hk, get_n]
        by_cases hc : c = 0
        · simp [hc, Ne.symm h0]
        · by_cases h1 : c % 2 = 1
          · rw [if_neg hc, if_pos h1, if_neg hc, if_pos h1, if_neg (by omega)]
          · rw [if_neg hc, if_neg h1, get_put v f (k / 2 - 1) r (c / 2 - 1) (by omega), if_neg hc, if_neg h1]
            by_cases e : c = k
            · simp [e]
            · rw [if_neg e, if_neg (by omega)]
def big : Nat := 1152921504606846976
/-- Numbers that are kept. -/
def okK (k : Nat) : Bool := Nat.blt k 1152921504606846976
theorem okK_iff {k : Nat} : okK k = true ↔ k < 1152921504606846976 := by
  unfold okK; constructor
  · intro h; have := Nat.le_of_ble_eq_true h; omega
  · intro h; exact Nat.ble_eq_true_of_le (by omega)
def set (t : Tr α) (k : Nat) (v : Option α) : Tr α := bif okK k then put v 61 k t else .e
theorem get_set (t : Tr α) (k : Nat) (v : Option α) (h : okK k = true) (c : Nat) : (t.set k v).get c = if c = k then v else t.get c := by
  unfold set; rw [h]
  refine get_put v 61 k t c ?_
  have := okK_iff.1 h
  have : (2 : Nat) ^ 61 = 2305843009213693952 := by decide
  omega
/-- What is kept behind a change was laid by it, or was kept. -/
theorem of_set {t : Tr α} {k c : Nat} {v : Option α} {d : α} (h : (t.set k v).get c = some d) : (c = k ∧ v = some d) ∨ (c ≠ k ∧ t.get c = some d) := by
  cases hk : okK k with
  | true =>
    rw [get_set t k v hk] at h
    by_cases e : c = k
    · rw [if_pos e] at h; exact .inl ⟨e, h⟩
    · rw [if_neg e] at h; exact .inr ⟨e, h⟩
  | false => unfold set at h; rw [hk] at h; cases h
/-- Things laid, the first one last. -/
def ofL : List (Nat × α) → Tr α
  | [] => .e
  | p :: r => (ofL r).set p.1 (some p.2)
theorem of_ofL {l : List (Nat × α)} {c : Nat} {d : α} (h : (ofL l).get c = some d) : (c, d) ∈ l := by
  induction l with
  | nil => cases h
  | cons p r ih =>
    obtain ⟨k, v⟩ := p
    rcases of_set h with ⟨rfl, hv⟩ | ⟨_, h⟩
    · cases hv; exact List.mem_cons_self
    · exact List.mem_cons_of_mem _ (ih h)
end Tr
end Go.Vx

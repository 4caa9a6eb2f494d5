/- VxO: small words for runs. No program. -/
import Derived.Test.YtegjeagfcfhbeaaVxP
import Derived.IntWalk
namespace Go.Vx
set_option linter.unusedVariables false
set_option linter.unusedSimpArgs false
open Go.RowKit Go.Bw
theorem map_get {α : Type} {f : α → D} (xs : List α) {e : Nat} (d : α) (h : e < xs.length) : (xs.map f)[e]? = some (f (xs.getD e d)) := by
  rw [List.getElem?_map, List.getElem?_eq_getElem h, List.getD_eq_getElem?_getD, List.getElem?_eq_getElem h]; rfl
theorem segA (cells : List D) (a b : Nat) : segOf cells a b = (cells.drop a).take b := segOf_eq ..
theorem wrapO_i64 {x : Int} (h : -9223372036854775808 ≤ x ∧ x ≤ 9223372036854775807) : wrapO .i64 x = some (.v (.int .i64 x)) := by rw [wrapO_eq, IntWalk.i64_in x h]
theorem wrapO_i32 {x : Int} (h : -2147483648 ≤ x ∧ x ≤ 2147483647) : wrapO .i32 x = some (.v (.int .i32 x)) := by rw [wrapO_eq, IntWalk.i32_in x h]
theorem wrapO_u8 {x : Int} (h : 0 ≤ x ∧ x ≤ 255) : wrapO .u8 x = some (.v (.int .u8 x)) := by rw [wrapO_eq, IntWalk.u8_in x h]
theorem wrapO_u16 {x : Int} (h : 0 ≤ x ∧ x ≤ 65535) : wrapO .u16 x = some (.v (.int .u16 x)) := by rw [wrapO_eq, IntWalk.u16_in x h]
theorem wrapO_u32 {x : Int} (h : 0 ≤ x ∧ x ≤ 4294967295) : wrapO .u32 x = some (.v (.int .u32 x)) := by rw [wrapO_eq, IntWalk.u32_in x h]
theorem wrapO_u64 {x : Int} (h : 0 ≤ x ∧ x ≤ 18446744073709551615) : wrapO .u64 x = some (.v (.int .u64 x)) := by rw [wrapO_eq, IntWalk.u64_in x h]
theorem take_all_map {α β : Type} (f : α → β) (xs : List α) : (xs.map f).take xs.length = xs.map f := by rw [← List.length_map (f := f) (as := xs), List.take_length]
theorem length_map_r {α β : Type} (f : α → β) (xs : List α) : (xs.map f).length = xs.length := List.length_map ..
theorem minO_l {k : IntKind} {m n : Int} (h : m ≤ n) : minO k false m n = some (.v (.int k m)) := by rw [minO_eq]; simp only [cond_false]; rw [if_neg (by omega)]
theorem minO_r {k : IntKind} {m n : Int} (h : n ≤ m) : minO k false m n = some (.v (.int k n)) := by rw [minO_eq]; simp only [cond_false]; by_cases h' : n < m <;> simp [h'] <;> omega
theorem maxO_l {k : IntKind} {m n : Int} (h : n ≤ m) : minO k true m n = some (.v (.int k m)) := by rw [minO_eq]; simp only [cond_true]; rw [if_neg (by omega)]
theorem maxO_r {k : IntKind} {m n : Int} (h : m ≤ n) : minO k true m n = some (.v (.int k n)) := by rw [minO_eq]; simp only [cond_true]; by_cases h' : n > m <;> simp [h'] <;> omega
theorem minO_is {k : IntKind} {m n x : Int} (h : x = min m n) : minO k false m n = some (.v (.int k x)) := by
  rw [minO_eq, cond_false, show (if n < m then n else m) = x by split <;> omega]
theorem maxO_is {k : IntKind} {m n x : Int} (h : x = max m n) : minO k true m n = some (.v (.int k x)) := by
  rw [minO_eq, cond_true, show (if n > m then n else m) = x by split <;> omega]
theorem Spec.nilSplit {P : Program} {f : FuncId} {n size sz : Nat} {cells cells' : List D} {t : TypeId} (h0 : Spec P f [.v (.slice none 0 0)] (.v (.slice none 0 0)) []) (h1 : Spec P f [.sl true n size cells] (.ref 0 0 0 n sz) [⟨cells', t, true⟩])
    (hc : cells = [] → cells' = []) : Spec P f [.sl false n size cells] (.ref 0 0 0 n sz) [⟨cells', t, true⟩] := by
  refine ⟨h1.1, fun O φ0 w args hO hhb hinj hl ha => ?_⟩
  cases args with
  | nil => cases hl
  | cons u r =>
    have hr : r = [] := List.eq_nil_of_length_eq_zero (by simpa using hl)
    subst hr
    have hr := ha 0 _ u rfl rfl
    cases hr with
    | sl _ _ _ _ a c us hlen hd h1' hn hs hcc hnil hr =>
    cases a with
    | none =>
      obtain ⟨rfl, _⟩ := hnil rfl
      have hn0 : n = 0 := Nat.le_zero.1 hcc.1
      subst hn0
      have hcl : cells = [] := List.eq_nil_of_length_eq_zero (by rw [hn, Nat.zero_mul])
      refine (h0.2 O φ0 w [_] hO hhb hinj rfl fun j d u hj hu => ?_).mono ?_
      · cases j with
        | zero => simp at hj hu; subst hj hu; exact .v _ rfl
        | succ j => simp at hj
      · rintro e w' ⟨u, rfl, hb, φ, _, hrd, _⟩
        refine ⟨u, rfl, hb, fun _ => none, fun j hj => (by cases hj), ?_, fun j b hj => ?_, fun i j x _ _ _ h => (by cases h), fun j x _ _ h => (by cases h)⟩
        · cases hrd with
          | v c h => exact .refn 0 0 sz Nat.zero_lt_one rfl
        · cases j with
          | zero => simp at hj; subst hj; rw [hc hcl]; exact ⟨⟨Nat.zero_lt_one, rfl, rfl⟩, fun _ => rfl⟩
          | succ j => simp at hj
    | some a =>
      refine h1.2 O φ0 w [_] hO hhb hinj rfl fun j d u hj hu => ?_
      cases j with
      | zero => simp at hj hu; subst hj hu; exact .sl _ _ _ _ _ c us hlen hd h1' hn hs hcc (fun h => by cases h) hr
      | succ j => simp at hj
theorem cl_map {α : Type} (f : α → D) (h : ∀ x, (f x).closed = true) (xs : List α) : closedL (xs.map f) = true := closedL_iff.2 fun d hd => by
  obtain ⟨x, _, rfl⟩ := List.mem_map.1 hd; exact h x
/-- Entries, kept and called elsewhere. -/
def reE : List Ent → List (Nat × Nat) → List Ent
  | e :: r, p :: l => ⟨e.k', e.g', p.1, p.2, e.o⟩ :: reE r l
  | r, _ => r
def CutS.re (c : CutS) (l : List (Nat × Nat)) : CutS := ⟨c.tm, reE c.es l, c.nx⟩
/-- All that a tree holds. -/
def Tr.toLF {α : Type} : Tr α → Nat → Nat → List (Nat × α)
  | .e, _, _ => []
  | .n l v r, a, b => (match v with | some x => [(b, x)] | none => []) ++ (toLF l (2 * a) (a + b) ++ toLF r (2 * a) (2 * a + b))
def Tr.toL {α : Type} (t : Tr α) : List (Nat × α) := t.toLF 1 0
/-- A function's n-th loop. -/
def loopAt (P : Program) (f n : Nat) : Code := (loopsOf ((P.funcs[f]?.bind (·.body)).getD .skip)).getD n .skip
/-- What the ranges over functions in some code hold. -/
def rangesOf : Code → List (Array Tmp × Code × Code)
  | .seq x y => rangesOf x ++ rangesOf y
  | .cond _ x y => rangesOf x ++ rangesOf y
  | .block _ c => rangesOf c
  | .scope c => rangesOf c
  | .loop c => rangesOf c
  | .rangeFunc _ ps a b => (ps, a, b) :: (rangesOf a ++ rangesOf b)
  | _ => []
def rangeAt (P : Program) (f n : Nat) : Array Tmp × Code × Code := (rangesOf ((P.funcs[f]?.bind (·.body)).getD .skip)).getD n (#[], .skip, .skip)
theorem reE_ob : ∀ (es : List Ent) (l : List (Nat × Nat)), (reE es l).map (fun e => (e.k', (e.g', e.o.ob))) = es.map fun e => (e.k', (e.g', e.o.ob))
  | [], [] => rfl
  | [], _ :: _ => rfl
  | _ :: _, [] => rfl
  | e :: r, p :: l => by simp only [reE, List.map_cons, reE_ob r l]
theorem re_st (d : CutS) (l : List (Nat × Nat)) : (d.re l).st = d.st := by unfold CutS.st CutS.re; simp only [reE_ob]
section
variable {P : Program}
/-- A head may follow. -/
def Nx {ι : Type} (S : ι → CutS) (μ : ι → Nat) (Q : AX → AS → Prop) (i : ι) : Prop := ∀ i', μ i' < μ i → Q .normal (S i').st
/-- An end may follow. -/
def Lst (es : List Endl) (Q : AX → AS → Prop) : Prop := ∀ e s, lastK (endK es) e s → Q e s
/-- Behind a round: the next head. -/
def Hn.next {ι : Type} {S : ι → CutS} {Q : AX → AS → Prop} {μ : ι → Nat} {i : ι} (next : Nx S μ Q i) (i' : ι) (h : μ i' < μ i) (l : List (Nat × Nat)) (rows : rowsOk ((S i').re l)) : Hn P := .cut .normal ((S i').re l) rows Q (by rw [re_st]; exact next i' h)
/-- A loop is left. -/
def Hn.last {es : List Endl} {Q : AX → AS → Prop} (last : Lst es Q) (n : Nat) (x : (nthE es n).κ) (h : isNormal (nthE es n).e = false) (l : List (Nat × Nat)) (rows : rowsOk (((nthE es n).S x).re l)) : Hn P :=
  .cut (nthE es n).e (((nthE es n).S x).re l) rows Q (by
    rw [re_st]
    refine last _ _ ?_
    have hk := endK_nth es n x
    cases he : (nthE es n).e with
    | normal => rw [he] at h; cases h
    | exit id => rw [he] at hk; exact hk
    | ret => rw [he] at hk; exact hk)
/-- A loop in the midst of a run. -/
def Hn.inl {T : TT} (hT : T.ok P) (hfol : P.follows .mixedOrders = true) (rd : Bool) (nt xn : Nat) (c : Code) {ι : Type} (S : ι → CutS) (μ : ι → Nat) (es : List Endl) (fuel kb : Nat) (h0 : ∀ (i : ι) (Q : AX → AS → Prop), Nx S μ Q i → Lst es Q → Hn P)
    (hE : ∀ i, xC P T fuel rd nt xn kb c (S i).st (h0 i (fun e s' => (e = .normal ∧ ∃ i', s' = (S i').st ∧ μ i' < μ i) ∨ lastK (endK es) e s') (fun i' hm => .inl ⟨rfl, i', rfl, hm⟩) fun _ _ hk => .inr hk) (cutK xn fun e s' => (e = .normal ∧ ∃ i', s' = (S i').st ∧ μ i' < μ i) ∨ lastK (endK es) e s') =
      (h0 i (fun e s' => (e = .normal ∧ ∃ i', s' = (S i').st ∧ μ i' < μ i) ∨ lastK (endK es) e s') (fun i' hm => .inl ⟨rfl, i', rfl, hm⟩) fun _ _ hk => .inr hk).T) (i0 : ι) (l : List (Nat × Nat)) (rows : rowsOk ((S i0).re l)) (hs : (i : Nat) → (nthE es i).κ → Hn P) : Hn P :=
  .loopE rd nt xn c ((S i0).re l) rows es (by rw [re_st]; exact AWPl.runLoop hT hfol S μ fuel kb h0 hE i0) hs
def hs1 {e : Endl} (h : e.κ → Hn P) : (i : Nat) → (nthE [e] i).κ → Hn P
  | 0, x => h x
  | _ + 1, x => nomatch x
def hs2 {e1 e2 : Endl} (h1 : e1.κ → Hn P) (h2 : e2.κ → Hn P) : (i : Nat) → (nthE [e1, e2] i).κ → Hn P
  | 0, x => h1 x
  | 1, x => h2 x
  | _ + 2, x => nomatch x
def hs3 {e1 e2 e3 : Endl} (h1 : e1.κ → Hn P) (h2 : e2.κ → Hn P) (h3 : e3.κ → Hn P) : (i : Nat) → (nthE [e1, e2, e3] i).κ → Hn P
  | 0, x => h1 x
  | 1, x => h2 x
  | 2, x => h3 x
  | _ + 3, x => nomatch x
def hs4 {e1 e2 e3 e4 : Endl} (h1 : e1.κ → Hn P) (h2 : e2.κ → Hn P) (h3 : e3.κ → Hn P) (h4 : e4.κ → Hn P) : (i : Nat) → (nthE [e1, e2, e3, e4] i).κ → Hn P
  | 0, x => h1 x
  | 1, x => h2 x
  | 2, x => h3 x
  | 3, x => h4 x
  | _ + 4, x => nomatch x
end
/-- For the bench: a program whose functions l do nothing that can be run. -/
def stub (P : Program) (l : List Nat) : Program := { P with funcs := (l.foldr (fun f acc => acc.modify f fun fn => { fn with body := some (.goto 0) }) P.funcs.toList).toArray }
end Go.Vx

/- Vw9: made by vx.py. -/
import Derived.Test.YtmdejhgacknfhaaQVw4
namespace Go.Proofs.Ytmdejhgacknfhaa
open Go.RowKit Go.Bw Go.Vx Go.Bw.Sums Vs
namespace Vw
set_option linter.unusedVariables false
set_option linter.unusedSimpArgs false
/-- Where a head's reader stands, and its first error. -/
structure St where
  u : Nat
  e : Nat
def tvD (b : List UInt8) (s : St) : UInt8 := if s.e = 0 ∧ s.u < b.length then b.getD s.u default else 0
def tkD (b : List UInt8) (s : St) : St := if s.e = 0 then (if s.u < b.length then ⟨s.u + 1, 0⟩ else ⟨s.u, 10⟩) else s
/-- The same, as something that isn't reckoned while the bytes are not known. -/
def tv (b : List UInt8) (s : St) : UInt8 := match b with
  | [] => tvD [] s
  | x :: r => tvD (x :: r) s
def tk (b : List UInt8) (s : St) : St := match b with
  | [] => tkD [] s
  | x :: r => tkD (x :: r) s
theorem tv_eq {b : List UInt8} {s : St} : tv b s = tvD b s := by cases b <;> rfl
theorem tk_eq {b : List UInt8} {s : St} : tk b s = tkD b s := by cases b <;> rfl
def nd (s : St) (c : Bool) : St := if s.e = 0 ∧ c = false then ⟨s.u, 150⟩ else s
def tkN (b : List UInt8) : Nat → St → St
  | 0, s => s
  | k + 1, s => tkN b k (tk b s)
def nv (b : List UInt8) : Nat → St → Nat
  | 0, _ => 0
  | k + 1, s => (tv b s).toNat + 256 * nv b k (tk b s)
def nmF (b : List UInt8) : Nat → St → List UInt8 → St × List UInt8
  | 0, s, acc => (s, acc)
  | k + 1, s, acc => if (tk b s).e ≠ 0 ∨ tv b s = 0 then (tk b s, acc) else nmF b k (nd (tk b s) (decide (acc.length + 1 ≤ 255))) (acc ++ [tv b s])
def nmR (b : List UInt8) (s : St) (acc : List UInt8) : St × List UInt8 := nmF b (b.length + 1 - s.u) s acc
def nameS (b : List UInt8) (s : St) : St := nd (nmR b s []).1 (decide (0 < (nmR b s []).2.length))
def nameV (b : List UInt8) (s : St) : List UInt8 := (nmR b s []).2
def exF (b : List UInt8) : Nat → St → List UInt8 → St × List UInt8
  | 0, s, ex => (s, ex)
  | k + 1, s, ex => if s.e ≠ 0 then (s, ex) else exF b k (tk b s) (ex ++ [tv b s])
theorem tk_x {b : List UInt8} {s : St} (h : s.e ≠ 0) : tk b s = s := tk_eq.trans (if_neg h)
theorem tk_t {b : List UInt8} {s : St} (h : s.e = 0) (h2 : s.u < b.length) : tk b s = ⟨s.u + 1, 0⟩ := by rw [tk_eq, tkD, if_pos h, if_pos h2]
theorem tk_e {b : List UInt8} {s : St} (h : s.e = 0) (h2 : ¬ s.u < b.length) : tk b s = ⟨s.u, 10⟩ := by rw [tk_eq, tkD, if_pos h, if_neg h2]
theorem tv_t {b : List UInt8} {s : St} (h : s.e = 0) (h2 : s.u < b.length) : tv b s = b.getD s.u default := tv_eq.trans (if_pos ⟨h, h2⟩)
theorem tv_n {b : List UInt8} {s : St} (h : ¬ (s.e = 0 ∧ s.u < b.length)) : tv b s = 0 := tv_eq.trans (if_neg h)
theorem nd_x {s : St} {c : Bool} (h : s.e ≠ 0) : nd s c = s := if_neg fun q => h q.1
theorem nd_t {s : St} : nd s true = s := if_neg fun q => by cases q.2
theorem tk_le {b : List UInt8} {s : St} (h : s.u ≤ b.length) : (tk b s).u ≤ b.length := by
  rw [tk_eq]; unfold tkD; split
  · split
    · next q => exact q
    · exact h
  · exact h
theorem nd_u (s : St) (c : Bool) : (nd s c).u = s.u := by unfold nd; split <;> rfl
theorem tk_mono (b : List UInt8) (s : St) : s.u ≤ (tk b s).u := by
  rw [tk_eq]; unfold tkD; split
  · split
    · exact Nat.le_succ _
    · exact Nat.le_refl _
  · exact Nat.le_refl _
theorem tkN_le {b : List UInt8} : ∀ (k : Nat) {s : St}, s.u ≤ b.length → (tkN b k s).u ≤ b.length
  | 0, _, h => h
  | k + 1, _, h => tkN_le k (tk_le h)
theorem nv_lt {b : List UInt8} : ∀ (k : Nat) (s : St), nv b k s < 256 ^ k
  | 0, _ => Nat.zero_lt_one
  | k + 1, s => by
    have h1 := nv_lt (b := b) k (tk b s)
    have h2 := (tv b s).toNat_lt
    rw [nv, Nat.pow_succ]
    omega
/-- What reads bytes: where it stands behind, and what it tells. -/
abbrev Rd (α : Type) := List UInt8 → St → St × α
def bad (N : Nat) (s : St) : Prop := s.e ≠ 0 ∨ N < s.u
/-- It stands still behind an error, goes on else, and doesn't ask what stands behind. -/
structure Good {α : Type} (F : Rd α) : Prop where
  abs : ∀ b s, s.e ≠ 0 → (F b s).1 = s
  mono : ∀ b s, s.u ≤ (F b s).1.u
  le : ∀ b s, s.u ≤ b.length → (F b s).1.u ≤ b.length
  sync : ∀ b more s, s.u ≤ b.length → (F b s = F (b ++ more) s ∧ (F b s).1.u ≤ b.length) ∨ ((F b s).1.e = 10 ∧ bad b.length (F (b ++ more) s).1)
theorem Good.bad {α : Type} {F : Rd α} (h : Good F) {N : Nat} {b : List UInt8} {s : St} (q : bad N s) : Vw.bad N (F b s).1 := by
  rcases q with q | q
  · rw [h.abs b s q]; exact .inl q
  · exact .inr (Nat.lt_of_lt_of_le q (h.mono b s))
def bindR {α β : Type} (F : Rd α) (G : α → Rd β) : Rd β := fun b s => G (F b s).2 b (F b s).1
def mapR {α β : Type} (F : Rd α) (g : α → β) : Rd β := fun b s => ((F b s).1, g (F b s).2)
def pureR {α : Type} (a : α) : Rd α := fun _ s => (s, a)
theorem Good.pure {α : Type} (a : α) : Good (pureR a) := ⟨fun _ _ _ => rfl, fun _ _ => Nat.le_refl _, fun _ _ h => h, fun _ _ _ h => .inl ⟨rfl, h⟩⟩
theorem Good.bind {α β : Type} {F : Rd α} {G : α → Rd β} (hF : Good F) (hG : ∀ a, Good (G a)) : Good (bindR F G) := by
  refine ⟨fun b s h => ?_, fun b s => Nat.le_trans (hF.mono b s) ((hG _).mono b _), fun b s h => (hG _).le b _ (hF.le b s h), fun b more s h => ?_⟩
  · show (G (F b s).2 b (F b s).1).1 = s
    rw [hF.abs b s h]; exact (hG _).abs b s h
  · rcases hF.sync b more s h with ⟨e, hu⟩ | ⟨e, hb⟩
    · show (G (F b s).2 b (F b s).1 = G (F (b ++ more) s).2 (b ++ more) (F (b ++ more) s).1 ∧ (G (F b s).2 b (F b s).1).1.u ≤ b.length) ∨ ((G (F b s).2 b (F b s).1).1.e = 10 ∧ Vw.bad b.length (G (F (b ++ more) s).2 (b ++ more) (F (b ++ more) s).1).1)
      rw [← e]; exact (hG _).sync b more _ hu
    · refine .inr ⟨?_, (hG _).bad hb⟩
      show (G (F b s).2 b (F b s).1).1.e = 10
      rw [(hG _).abs b _ (by rw [e]; decide)]; exact e
theorem Good.map {α β : Type} {F : Rd α} (hF : Good F) (g : α → β) : Good (mapR F g) := by
  refine ⟨fun b s h => hF.abs b s h, fun b s => hF.mono b s, fun b s h => hF.le b s h, fun b more s h => ?_⟩
  rcases hF.sync b more s h with ⟨e, hu⟩ | q
  · left; refine ⟨?_, hu⟩
    show ((F b s).1, g (F b s).2) = ((F (b ++ more) s).1, g (F (b ++ more) s).2)
    rw [e]
  · exact .inr q
theorem tk_app {b more : List UInt8} {s : St} (h : s.u < b.length) : tk b s = tk (b ++ more) s ∧ tv b s = tv (b ++ more) s := by
  have h2 : s.u < (b ++ more).length := by rw [List.length_append]; omega
  by_cases he : s.e = 0
  · rw [tk_t he h, tk_t he h2, tv_t he h, tv_t he h2]
    refine ⟨rfl, ?_⟩
    rw [List.getD_eq_getElem?_getD, List.getD_eq_getElem?_getD, List.getElem?_append_left h]
  · rw [tk_x he, tk_x he, tv_n (fun q => he q.1), tv_n (fun q => he q.1)]; exact ⟨rfl, rfl⟩
theorem Good.tk : Good fun b s => (tk b s, tv b s) := by
  refine ⟨fun b s h => tk_x h, fun b s => tk_mono b s, fun b s h => tk_le h, fun b more s h => ?_⟩
  by_cases he : s.e = 0
  · by_cases hu : s.u < b.length
    · have := tk_app (more := more) hu
      exact .inl ⟨by rw [this.1, this.2], tk_le h⟩
    · refine .inr ⟨by show (Vw.tk b s).e = 10; rw [tk_e he hu], ?_⟩
      show Vw.bad b.length (Vw.tk (b ++ more) s)
      rw [tk_eq]; unfold tkD
      rw [if_pos he]
      split
      · exact .inr (by show b.length < s.u + 1; omega)
      · exact .inl (by show (10 : Nat) ≠ 0; decide)
  · left
    refine ⟨?_, by show (Vw.tk b s).u ≤ _; rw [tk_x he]; exact h⟩
    show (Vw.tk b s, tv b s) = (Vw.tk (b ++ more) s, tv (b ++ more) s)
    rw [tk_x he, tk_x he, tv_n (fun q => he q.1), tv_n (fun q => he q.1)]
theorem Good.nd (c : Bool) : Good fun _ s => (nd s c, ()) := ⟨fun _ s h => nd_x h, fun _ s => Nat.le_of_eq (nd_u s c).symm, fun b s h => by show (Vw.nd s c).u ≤ _; rw [nd_u]; exact h, fun b _ s h => .inl ⟨rfl, by show (Vw.nd s c).u ≤ _; rw [nd_u]; exact h⟩⟩
theorem Good.num : ∀ k, Good fun b s => (tkN b k s, nv b k s)
  | 0 => Good.pure 0
  | k + 1 => by
    have h := Good.bind (G := fun (x : UInt8) => mapR (fun b s => (tkN b k s, nv b k s)) fun v => x.toNat + 256 * v) Good.tk fun x => (Good.num k).map fun v => x.toNat + 256 * v
    exact h
theorem Good.nmF : ∀ k acc, Good fun b s => nmF b k s acc
  | 0, acc => Good.pure acc
  | k + 1, acc => by
    have ih := Good.nmF k
    refine ⟨fun b s h => ?_, fun b s => ?_, fun b s h => ?_, fun b more s h => ?_⟩
    · show (Vw.nmF b (k + 1) s acc).1 = s
      rw [Vw.nmF, if_pos (.inl (by rw [tk_x h]; exact h)), tk_x h]
    · show s.u ≤ (Vw.nmF b (k + 1) s acc).1.u
      rw [Vw.nmF]
      split
      · exact tk_mono b s
      · exact Nat.le_trans (tk_mono b s) (Nat.le_trans (Nat.le_of_eq (nd_u _ _).symm) ((ih _).mono b _))
    · show (Vw.nmF b (k + 1) s acc).1.u ≤ b.length
      rw [Vw.nmF]
      split
      · exact tk_le h
      · exact (ih _).le b _ (by rw [nd_u]; exact tk_le h)
    · show (Vw.nmF b (k + 1) s acc = Vw.nmF (b ++ more) (k + 1) s acc ∧ (Vw.nmF b (k + 1) s acc).1.u ≤ b.length) ∨ ((Vw.nmF b (k + 1) s acc).1.e = 10 ∧ Vw.bad b.length (Vw.nmF (b ++ more) (k + 1) s acc).1)
      rcases Good.tk.sync b more s h with ⟨e, hu⟩ | ⟨e, hb⟩
      · have e1 : Vw.tk b s = Vw.tk (b ++ more) s := congrArg Prod.fst e
        have e2 : tv b s = tv (b ++ more) s := congrArg Prod.snd e
        rw [Vw.nmF, Vw.nmF, ← e1, ← e2]
        split
        · exact .inl ⟨rfl, hu⟩
        · exact (ih _).sync b more _ (by rw [nd_u]; exact hu)
      · have e : (Vw.tk b s).e = 10 := e
        rw [Vw.nmF, if_pos (.inl (by rw [e]; decide))]
        refine .inr ⟨e, ?_⟩
        rw [Vw.nmF]
        split
        · exact hb
        · refine (ih _).bad ?_
          rcases hb with hb | hb
          · rw [nd_x hb]; exact .inl hb
          · exact .inr (by rw [nd_u]; exact hb)
theorem nmF_fuel {b : List UInt8} : ∀ k k' s acc, b.length + 1 ≤ k + s.u → b.length + 1 ≤ k' + s.u → s.u ≤ b.length → nmF b k s acc = nmF b k' s acc
  | 0, _, s, acc, h, _, h3 => by omega
  | _, 0, s, acc, _, h, h3 => by omega
  | k + 1, k' + 1, s, acc, h, h', h3 => by
    rw [nmF, nmF]
    split
    · rfl
    · next q =>
      have he : (tk b s).e = 0 := by
        rcases Nat.eq_zero_or_pos (tk b s).e with z | z
        · exact z
        · exact absurd (.inl (by omega)) q
      have h0 : s.e = 0 ∧ s.u < b.length := by
        by_cases z : s.e = 0
        · refine ⟨z, ?_⟩
          rcases Nat.lt_or_ge s.u b.length with y | y
          · exact y
          · rw [tk_e z (by omega)] at he; cases he
        · rw [tk_x z] at he; exact absurd he z
      have hu : (nd (tk b s) (decide (acc.length + 1 ≤ 255))).u = s.u + 1 := by rw [nd_u, tk_t h0.1 h0.2]
      exact nmF_fuel k k' _ _ (by rw [hu]; omega) (by rw [hu]; omega) (by rw [hu]; omega)
theorem nmR_stop {b : List UInt8} {s : St} {acc : List UInt8} (h : s.u ≤ b.length) (q : (tk b s).e ≠ 0 ∨ tv b s = 0) : nmR b s acc = (tk b s, acc) := by
  unfold nmR; rw [show b.length + 1 - s.u = (b.length - s.u) + 1 from by omega, nmF, if_pos q]
theorem nmR_go {b : List UInt8} {s : St} {acc : List UInt8} (h : s.u < b.length) (he : s.e = 0) (q : tv b s ≠ 0) : nmR b s acc = nmR b (nd (tk b s) (decide (acc.length + 1 ≤ 255))) (acc ++ [tv b s]) := by
  have hu : (nd (tk b s) (decide (acc.length + 1 ≤ 255))).u = s.u + 1 := by rw [nd_u, tk_t he h]
  have hn : ¬ ((tk b s).e ≠ 0 ∨ tv b s = 0) := by
    rintro (z | z)
    · rw [tk_t he h] at z; exact z rfl
    · exact q z
  unfold nmR
  rw [hu, show b.length + 1 - s.u = (b.length - s.u) + 1 from by omega, nmF, if_neg hn, show b.length + 1 - (s.u + 1) = b.length - s.u from by omega]
theorem Good.name : Good fun b s => (nameS b s, nameV b s) := by
  have ih := fun k => Good.nmF k []
  refine ⟨fun b s h => ?_, fun b s => ?_, fun b s h => ?_, fun b more s h => ?_⟩
  · show nameS b s = s
    unfold nameS nmR
    rw [(ih _).abs b s h, nd_x h]
  · show s.u ≤ (nameS b s).u
    unfold nameS nmR
    rw [nd_u]; exact (ih _).mono b s
  · show (nameS b s).u ≤ b.length
    unfold nameS nmR
    rw [nd_u]; exact (ih _).le b s h
  · have hR : nmR b s [] = Vw.nmF b ((b ++ more).length + 1 - s.u) s [] := nmF_fuel _ _ _ _ (by omega) (by rw [List.length_append]; omega) h
    have hR2 : nmR (b ++ more) s [] = Vw.nmF (b ++ more) ((b ++ more).length + 1 - s.u) s [] := rfl
    show (((nameS b s, nameV b s) : St × List UInt8) = (nameS (b ++ more) s, nameV (b ++ more) s) ∧ (nameS b s).u ≤ b.length) ∨ ((nameS b s).e = 10 ∧ Vw.bad b.length (nameS (b ++ more) s))
    unfold nameS nameV
    rw [hR, hR2]
    rcases (ih ((b ++ more).length + 1 - s.u)).sync b more s h with ⟨e, hu⟩ | ⟨e, hb⟩
    · left
      rw [← e]
      exact ⟨rfl, by rw [nd_u]; exact hu⟩
    · right
      have e : (Vw.nmF b ((b ++ more).length + 1 - s.u) s []).1.e = 10 := e
      refine ⟨by rw [nd_x (by rw [e]; decide)]; exact e, ?_⟩
      rcases hb with hb | hb
      · rw [nd_x hb]; exact .inl hb
      · exact .inr (by rw [nd_u]; exact hb)
theorem Good.ex : ∀ k acc, Good fun b s => exF b k s acc
  | 0, acc => Good.pure acc
  | k + 1, acc => by
    have ih := Good.ex k
    refine ⟨fun b s h => ?_, fun b s => ?_, fun b s h => ?_, fun b more s h => ?_⟩
    · show (exF b (k + 1) s acc).1 = s
      rw [exF, if_pos h]
    · show s.u ≤ (exF b (k + 1) s acc).1.u
      rw [exF]
      split
      · exact Nat.le_refl _
      · exact Nat.le_trans (tk_mono b s) ((ih _).mono b _)
    · show (exF b (k + 1) s acc).1.u ≤ b.length
      rw [exF]
      split
      · exact h
      · exact (ih _).le b _ (tk_le h)
    · show (exF b (k + 1) s acc = exF (b ++ more) (k + 1) s acc ∧ (exF b (k + 1) s acc).1.u ≤ b.length) ∨ ((exF b (k + 1) s acc).1.e = 10 ∧ Vw.bad b.length (exF (b ++ more) (k + 1) s acc).1)
      by_cases he : s.e = 0
      · rw [exF, exF, if_neg (fun q => q he), if_neg (fun q => q he)]
        rcases Good.tk.sync b more s h with ⟨e, hu⟩ | ⟨e, hb⟩
        · have e1 : Vw.tk b s = Vw.tk (b ++ more) s := congrArg Prod.fst e
          have e2 : tv b s = tv (b ++ more) s := congrArg Prod.snd e
          rw [← e1, ← e2]
          exact (ih _).sync b more _ hu
        · have e : (Vw.tk b s).e = 10 := e
          refine .inr ⟨?_, (ih _).bad hb⟩
          rw [(ih _).abs b _ (by rw [e]; decide)]; exact e
      · rw [exF, exF, if_pos he, if_pos he]; exact .inl ⟨rfl, h⟩
theorem Good.crc (t : List Nat) : Good fun b s => (s, crcV t 0 (b.take s.u)) := ⟨fun _ _ _ => rfl, fun _ _ => Nat.le_refl _, fun _ _ h => h, fun b more s h => .inl ⟨by rw [List.take_append_of_le_length h], h⟩⟩
def z0 : St := ⟨0, 0⟩
abbrev tkM : Rd UInt8 := fun b s => (tk b s, tv b s)
abbrev ndM (c : Bool) : Rd Unit := fun _ s => (nd s c, ())
abbrev numM (k : Nat) : Rd Nat := fun b s => (tkN b k s, nv b k s)
def stepM (x : UInt8) : Rd Unit := bindR tkM fun v => ndM (decide (v = x))
def magM : Rd Nat := bindR (stepM 31) fun _ => bindR (stepM 139) fun _ => bindR (stepM 8) fun _ => bindR tkM fun v => mapR (ndM (decide (v.toNat < 32))) fun _ => v.toNat
def extM (c : Bool) : Rd (List UInt8) := match c with
  | true => bindR (numM 2) fun n => bindR (ndM (decide (n ≤ 255))) fun _ => fun b s => exF b n s []
  | false => pureR []
def namM (c : Bool) : Rd (List UInt8) := match c with
  | true => fun b s => (nameS b s, nameV b s)
  | false => pureR []
def sumM (t : List Nat) (c : Bool) : Rd Unit := match c with
  | true => bindR (fun b s => (s, crcV t 0 (b.take s.u))) fun v => bindR (numM 2) fun n => ndM (decide (n = v % 65536))
  | false => pureR ()
def g5 (f tm : Nat) (ex nm : List UInt8) : Rd Lab := mapR (namM (decide (f / 16 % 2 = 1))) fun cm => ⟨decide (f % 2 = 1), tm, decide (f / 4 % 2 = 1), ex, nm, cm, decide (f / 2 % 2 = 1)⟩
def g4 (f tm : Nat) (ex : List UInt8) : Rd Lab := bindR (namM (decide (f / 8 % 2 = 1))) fun nm => g5 f tm ex nm
def g3 (f tm : Nat) : Rd Lab := bindR (extM (decide (f / 4 % 2 = 1))) fun ex => g4 f tm ex
def g2 (f tm : Nat) : Rd Lab := bindR (numM 2) fun _ => g3 f tm
def g1 (f : Nat) : Rd Lab := bindR (numM 4) fun tm => g2 f tm
def gz0M : Rd Lab := bindR magM g1
/-- The other head, read. -/
def gzM (t : List Nat) : Rd Lab := bindR gz0M fun l => mapR (sumM t l.sum) fun _ => l
/-- The head of Deflate, read. -/
def zlM : Rd Unit := bindR tkM fun x => bindR (ndM (decide (x.toNat % 16 = 8 ∧ x.toNat / 16 ≤ 7))) fun _ => bindR tkM fun y => ndM (decide ((x.toNat * 256 + y.toNat) % 31 = 0 ∧ y.toNat / 32 % 2 = 0))
theorem Good.step (x : UInt8) : Good (stepM x) := Good.bind Good.tk fun _ => Good.nd _
theorem Good.mag : Good magM := Good.bind (Good.step _) fun _ => Good.bind (Good.step _) fun _ => Good.bind (Good.step _) fun _ => Good.bind Good.tk fun _ => (Good.nd _).map _
theorem Good.ext (c : Bool) : Good (extM c) := match c with
  | true => Good.bind (G := fun n => bindR (ndM (decide (n ≤ 255))) fun _ => fun b s => exF b n s []) (Good.num 2) fun n => Good.bind (G := fun _ => fun b s => exF b n s []) (Good.nd (decide (n ≤ 255))) fun _ => Good.ex n []
  | false => Good.pure _
theorem Good.nam (c : Bool) : Good (namM c) := match c with
  | true => Good.name
  | false => Good.pure _
theorem Good.sum (t : List Nat) (c : Bool) : Good (sumM t c) := match c with
  | true => Good.bind (G := fun v => bindR (numM 2) fun n => ndM (decide (n = v % 65536))) (Good.crc t) fun v => Good.bind (G := fun n => ndM (decide (n = v % 65536))) (Good.num 2) fun n => Good.nd (decide (n = v % 65536))
  | false => Good.pure _
theorem Good.g5 (f tm : Nat) (ex nm : List UInt8) : Good (g5 f tm ex nm) := (Good.nam _).map _
theorem Good.g4 (f tm : Nat) (ex : List UInt8) : Good (g4 f tm ex) := Good.bind (Good.nam _) fun nm => Good.g5 f tm ex nm
theorem Good.g3 (f tm : Nat) : Good (g3 f tm) := Good.bind (Good.ext _) fun ex => Good.g4 f tm ex
theorem Good.g2 (f tm : Nat) : Good (g2 f tm) := Good.bind (G := fun _ => Vw.g3 f tm) (Good.num 2) fun _ => Good.g3 f tm
theorem Good.g1 (f : Nat) : Good (g1 f) := Good.bind (G := fun tm => Vw.g2 f tm) (Good.num 4) fun tm => Good.g2 f tm
theorem Good.gz0 : Good gz0M := Good.bind Good.mag fun f => Good.g1 f
theorem Good.gz (t : List Nat) : Good (gzM t) := Good.bind Good.gz0 fun _ => (Good.sum t _).map _
theorem Good.zl : Good zlM := Good.bind Good.tk fun _ => Good.bind (Good.nd _) fun _ => Good.bind Good.tk fun _ => Good.nd _
theorem Good.same {α : Type} {F : Rd α} (h : Good F) (b more : List UInt8) (he : (F b z0).1.e ≠ 10) : F b z0 = F (b ++ more) z0 ∧ (F b z0).1.u ≤ b.length := by
  rcases h.sync b more z0 (Nat.zero_le _) with q | q
  · exact q
  · exact absurd q.1 he
theorem Good.less {α : Type} {F : Rd α} (h : Good F) {w : List UInt8} {a : α} (hw : F w z0 = (⟨w.length, 0⟩, a)) {n : Nat} (hn : n < w.length) : (F (w.take n) z0).1.e = 10 := by
  refine Decidable.byContradiction fun q => ?_
  have h2 := h.same (w.take n) (w.drop n) q
  rw [List.take_append_drop, hw] at h2
  have h3 := h2.2
  rw [h2.1] at h3
  have h4 : w.length ≤ (w.take n).length := h3
  rw [List.length_take] at h4
  omega
/-- These bytes, wherever they stand, are read as that. -/
def Rds {α : Type} (F : Rd α) (w : List UInt8) (a : α) : Prop := ∀ pre more, F (pre ++ w ++ more) ⟨pre.length, 0⟩ = (⟨pre.length + w.length, 0⟩, a)
theorem Rds.of {α : Type} {F : Rd α} {w w' : List UInt8} {a : α} (h : Rds F w a) (e : w = w') : Rds F w' a := e ▸ h
theorem Rds.bind {α β : Type} {F : Rd α} {G : α → Rd β} {w v : List UInt8} {a : α} {c : β} (h : Rds F w a) (g : Rds (G a) v c) : Rds (bindR F G) (w ++ v) c := by
  intro pre more
  have h1 := h pre (v ++ more)
  have g1 := g (pre ++ w) more
  rw [List.length_append] at g1
  have e1 : pre ++ (w ++ v) ++ more = pre ++ w ++ (v ++ more) := by simp
  have e2 : pre ++ w ++ v ++ more = pre ++ w ++ (v ++ more) := by simp
  rw [e1]
  rw [e2] at g1
  show G (F (pre ++ w ++ (v ++ more)) ⟨pre.length, 0⟩).2 _ (F (pre ++ w ++ (v ++ more)) ⟨pre.length, 0⟩).1 = _
  rw [h1, List.length_append, ← Nat.add_assoc]
  exact g1
theorem Rds.map {α β : Type} {F : Rd α} {g : α → β} {w : List UInt8} {a : α} (h : Rds F w a) : Rds (mapR F g) w (g a) := by
  intro pre more
  show ((F _ _).1, g (F _ _).2) = _
  rw [h pre more]
theorem Rds.pure {α : Type} (a : α) : Rds (pureR a) [] a := fun _ _ => rfl
theorem Rds.tk (x : UInt8) : Rds tkM [x] x := by
  intro pre more
  have hl : pre.length < (pre ++ [x] ++ more).length := by simp only [List.length_append, List.length_singleton]; omega
  show (Vw.tk _ _, tv _ _) = _
  rw [tk_t rfl hl, tv_t rfl hl]
  congr 1
  rw [List.getD_eq_getElem?_getD, List.append_assoc, List.getElem?_append_right (Nat.le_refl _), Nat.sub_self]; rfl
theorem Rds.nd {c : Bool} (h : c = true) : Rds (ndM c) [] () := by subst h; intro pre more; show (Vw.nd _ true, ()) = _; rw [nd_t]; rfl
theorem Rds.num : ∀ (k v : Nat), Rds (numM k) (lowB v k) (v % 256 ^ k)
  | 0, v => by rw [Nat.pow_zero, Nat.mod_one]; exact Rds.pure 0
  | k + 1, v => by
    have h := Rds.bind (G := fun x => mapR (numM k) fun v => x.toNat + 256 * v) (Rds.tk (UInt8.ofNat v)) ((Rds.num k (v / 256)).map)
    have e : v % 256 ^ (k + 1) = (UInt8.ofNat v).toNat + 256 * (v / 256 % 256 ^ k) := by rw [Nat.pow_succ, Nat.mul_comm, Nat.mod_mul, UInt8.toNat_ofNat']
    rw [e]; exact h
theorem Rds.ex : ∀ (w : List UInt8) (acc : List UInt8), Rds (fun b s => exF b w.length s acc) w (acc ++ w)
  | [], acc => by rw [List.append_nil]; exact Rds.pure acc
  | x :: w, acc => by
    have h := Rds.bind (G := fun y => fun b s => exF b w.length s (acc ++ [y])) (Rds.tk x) (Rds.ex w (acc ++ [x]))
    intro pre more
    have h2 := h pre more
    have e1 : exF (pre ++ x :: w ++ more) (x :: w).length ⟨pre.length, 0⟩ acc = exF (pre ++ x :: w ++ more) w.length (Vw.tk (pre ++ x :: w ++ more) ⟨pre.length, 0⟩) (acc ++ [tv (pre ++ x :: w ++ more) ⟨pre.length, 0⟩]) := by
      rw [List.length_cons, exF, if_neg (fun q => q rfl)]
    refine e1.trans (Eq.trans h2 ?_)
    simp
theorem nmR_read : ∀ (w acc pre more : List UInt8), 0 ∉ w → acc.length + w.length ≤ 255 → nmR (pre ++ (w ++ [0]) ++ more) ⟨pre.length, 0⟩ acc = (⟨pre.length + w.length + 1, 0⟩, acc ++ w)
  | [], acc, pre, more, _, _ => by
    have h := Rds.tk 0 pre more
    have h1 := congrArg Prod.fst h
    have h2 := congrArg Prod.snd h
    dsimp only at h1 h2
    rw [List.nil_append]
    rw [nmR_stop (by simp only [List.length_append]; omega) (.inr h2), h1, List.append_nil]; rfl
  | x :: w, acc, pre, more, h0, hl => by
    have h := Rds.tk x pre (w ++ [0] ++ more)
    have e : pre ++ [x] ++ (w ++ [0] ++ more) = pre ++ (x :: w ++ [0]) ++ more := by simp
    rw [e] at h
    have h1 := congrArg Prod.fst h
    have h2 := congrArg Prod.snd h
    dsimp only at h1 h2
    have hx : x ≠ 0 := fun q => h0 (q ▸ List.mem_cons_self)
    rw [List.length_cons] at hl
    rw [nmR_go (by simp only [List.length_append, List.length_cons]; omega) rfl (by rw [h2]; exact hx), h1, h2, decide_eq_true (by omega : acc.length + 1 ≤ 255), nd_t]
    have ih := nmR_read w (acc ++ [x]) (pre ++ [x]) more (fun q => h0 (List.mem_cons_of_mem _ q)) (by rw [List.length_append, List.length_singleton]; omega)
    have e2 : pre ++ [x] ++ (w ++ [0]) ++ more = pre ++ (x :: w ++ [0]) ++ more := by simp
    rw [e2] at ih
    simp only [List.length_append, List.length_singleton, List.append_assoc, List.singleton_append] at ih ⊢
    rw [ih, List.length_cons]
    congr 2
    omega
theorem Rds.name {w : List UInt8} (h0 : w ≠ []) (h1 : 0 ∉ w) (h2 : w.length ≤ 255) : Rds (fun b s => (nameS b s, nameV b s)) (w ++ [0]) w := by
  intro pre more
  have h := nmR_read w [] pre more h1 (by rw [List.length_nil]; omega)
  show (nameS _ _, nameV _ _) = _
  unfold nameS nameV
  rw [h, List.nil_append, decide_eq_true (List.length_pos_iff.2 h0), nd_t]
  simp [Nat.add_assoc]
theorem Rds.zl : Rds zlM [120, 156] () :=
  (Rds.bind (F := tkM) (Rds.tk 120) (Rds.bind (F := ndM _) (Rds.nd (by decide)) (Rds.bind (F := tkM) (Rds.tk 156) (Rds.nd (by decide))))).of rfl
theorem Rds.step (x : UInt8) : Rds (stepM x) [x] () := Rds.bind (F := tkM) (v := []) (Rds.tk x) (Rds.nd (decide_eq_true rfl))
theorem Rds.mag (f : Nat) (h : f < 32) : Rds magM [31, 139, 8, UInt8.ofNat f] f := by
  have e : (UInt8.ofNat f).toNat = f := by rw [UInt8.toNat_ofNat']; omega
  have h4 : Rds (bindR tkM fun v => mapR (ndM (decide (v.toNat < 32))) fun _ => v.toNat) [UInt8.ofNat f] (UInt8.ofNat f).toNat :=
    Rds.bind (F := tkM) (v := []) (Rds.tk (UInt8.ofNat f)) (Rds.map (F := ndM _) (Rds.nd (decide_eq_true (by rw [e]; exact h))))
  rw [e] at h4
  exact (Rds.bind (Rds.step 31) (Rds.bind (Rds.step 139) (Rds.bind (Rds.step 8) h4))).of rfl
theorem Rds.ext {c : Bool} {w : List UInt8} (hl : w.length ≤ 255) (hc : c = true ∨ w = []) : Rds (extM c) (if c then lowB w.length 2 ++ w else []) w := by
  cases c with
  | false =>
    obtain rfl : w = [] := hc.resolve_left (by decide)
    exact Rds.pure _
  | true =>
    have hn := Rds.num 2 w.length
    rw [Nat.mod_eq_of_lt (by omega : w.length < 256 ^ 2)] at hn
    have h2 : Rds (bindR (ndM (decide (w.length ≤ 255))) fun _ => fun b s => exF b w.length s []) ([] ++ w) ([] ++ w) := Rds.bind (G := fun _ => fun b s => exF b w.length s []) (Rds.nd (decide_eq_true hl)) (Rds.ex w [])
    exact Rds.bind (G := fun n => bindR (ndM (decide (n ≤ 255))) fun _ => fun b s => exF b n s []) hn h2
theorem Rds.nam {w : List UInt8} (h1 : 0 ∉ w) (h2 : w.length ≤ 255) : Rds (namM (decide (w ≠ []))) (if w = [] then [] else w ++ [0]) w := by
  by_cases h : w = []
  · subst h; exact Rds.pure _
  · rw [if_neg h, decide_eq_true (by exact h)]; exact Rds.name h h1 h2
theorem flags_bits (l : Lab) : decide (flagsN l % 2 = 1) = l.text ∧ decide (flagsN l / 2 % 2 = 1) = l.sum ∧ decide (flagsN l / 4 % 2 = 1) = l.has ∧ decide (flagsN l / 8 % 2 = 1) = decide (l.name ≠ []) ∧ decide (flagsN l / 16 % 2 = 1) = decide (l.comment ≠ []) := by
  unfold flagsN
  by_cases h1 : l.name = [] <;> by_cases h2 : l.comment = [] <;> cases l.text <;> cases l.sum <;> cases l.has <;> simp [h1, h2]
theorem gz0_read (l : Lab) (hm : mayL l = true) (ht : l.time ≤ 4294967295) : Rds gz0M (gz0 l) l := by
  obtain ⟨m1, m2, m3, m4⟩ := mayL_iff.1 hm
  rw [textB_iff] at m3 m4
  obtain ⟨f1, f2, f3, f4, f5⟩ := flags_bits l
  have h4 := Rds.num 4 l.time
  rw [Nat.mod_eq_of_lt (by omega : l.time < 256 ^ 4)] at h4
  have h2 : Rds (numM 2) [0, 255] 65280 := Rds.num 2 65280
  have hx := Rds.ext (c := l.has) m1 (m2.imp id List.eq_nil_of_length_eq_zero)
  have hn := Rds.nam m3.2 m3.1
  have hc := Rds.nam m4.2 m4.1
  rw [← f3] at hx
  rw [← f4] at hn
  rw [← f5] at hc
  have e : (⟨decide (flagsN l % 2 = 1), l.time, decide (flagsN l / 4 % 2 = 1), l.extra, l.name, l.comment, decide (flagsN l / 2 % 2 = 1)⟩ : Lab) = l := by rw [f1, f2, f3]
  have h5 : Rds (g5 (flagsN l) l.time l.extra l.name) _ _ := Rds.map hc
  have h4' : Rds (g4 (flagsN l) l.time l.extra) _ _ := Rds.bind hn h5
  have h3 : Rds (g3 (flagsN l) l.time) _ _ := Rds.bind hx h4'
  have h2' : Rds (g2 (flagsN l) l.time) _ _ := Rds.bind (G := fun _ => g3 (flagsN l) l.time) h2 h3
  have h1 : Rds (g1 (flagsN l)) _ _ := Rds.bind (G := fun tm => g2 (flagsN l) tm) h4 h2'
  have h := Rds.bind (G := g1) (Rds.mag (flagsN l) (flags_lt l)) h1
  rw [e] at h
  refine Rds.of h ?_
  unfold gz0; rw [f3]; simp only [List.append_assoc]
theorem sum_t (t : List Nat) (b : List UInt8) (s : St) : (sumM t true b s).1 = nd (tkN b 2 s) (decide (nv b 2 s = crcV t 0 (b.take s.u) % 65536)) := rfl
theorem num_pair (k v : Nat) (pre more : List UInt8) : tkN (pre ++ lowB v k ++ more) k ⟨pre.length, 0⟩ = ⟨pre.length + (lowB v k).length, 0⟩ ∧ nv (pre ++ lowB v k ++ more) k ⟨pre.length, 0⟩ = v % 256 ^ k := by
  have h := Rds.num k v pre more
  exact ⟨congrArg Prod.fst h, congrArg Prod.snd h⟩
theorem gz_step {t b : List _} {s : St} {l : Lab} (h : gz0M b z0 = (s, l)) : gzM t b z0 = ((sumM t l.sum b s).1, l) := by
  show mapR (sumM t (gz0M b z0).2.sum) (fun _ => (gz0M b z0).2) b (gz0M b z0).1 = _
  rw [h]; rfl
theorem gz_read (t : List Nat) (l : Lab) (hm : mayL l = true) (ht : l.time ≤ 4294967295) (more : List UInt8) : gzM t (gzL t l ++ more) z0 = (⟨(gzL t l).length, 0⟩, l) := by
  have h := gz0_read l hm ht
  unfold gzL
  cases hs : l.sum with
  | false =>
    have h1 : gz0M (gz0 l ++ more) z0 = (⟨(gz0 l).length, 0⟩, l) := by
      have h1 := h [] more
      rw [List.nil_append, List.length_nil, Nat.zero_add] at h1
      exact h1
    rw [if_neg (by decide), List.append_nil, gz_step h1, hs]; rfl
  | true =>
    have h1 : gz0M (gz0 l ++ lowB (crcV t 0 (gz0 l)) 2 ++ more) z0 = (⟨(gz0 l).length, 0⟩, l) := by
      have h1 := h [] (lowB (crcV t 0 (gz0 l)) 2 ++ more)
      rw [List.nil_append, List.length_nil, Nat.zero_add, ← List.append_assoc] at h1
      exact h1
    rw [if_pos rfl, gz_step h1, hs]
    have h2 := num_pair 2 (crcV t 0 (gz0 l)) (gz0 l) more
    have h3 := h2.1
    have h4 := h2.2
    have e : List.take (gz0 l).length (gz0 l ++ lowB (crcV t 0 (gz0 l)) 2 ++ more) = gz0 l := by rw [List.append_assoc, List.take_left' rfl]
    rw [sum_t, h3, h4, e, show 256 ^ 2 = 65536 from rfl, decide_eq_true rfl, nd_t, List.length_append]

end Vw
end Go.Proofs.Ytmdejhgacknfhaa

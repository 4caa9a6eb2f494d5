/- VxZ: a run by the kernel, with hints. No program. -/
import Derived.Test.YtegjeagfcfhbeaaVxNl
namespace Go.Vx
set_option linter.unusedVariables false
set_option linter.unusedSimpArgs false
open Go.RowKit Go.Bw

/-- An end of a loop: how it is left, and the state behind it. -/
structure Endl where
  κ : Type
  e : AX
  S : κ → CutS
def nthE : List Endl → Nat → Endl
  | [], _ => ⟨Empty, .normal, fun x => nomatch x⟩
  | e :: _, 0 => e
  | _ :: r, n + 1 => nthE r n
def endsP : (es : List Endl) → ((i : Nat) → (nthE es i).κ → Prop) → Prop
  | [], _ => True
  | e :: r, F => (∀ x : e.κ, F 0 x) ∧ endsP r (fun i x => F (i + 1) x)
/-- One of these ends. -/
def endK : List Endl → AX → AS → Prop
  | [], _, _ => False
  | e :: r, a, s => (∃ x : e.κ, a = e.e ∧ s = (e.S x).st) ∨ endK r a s
theorem endsP_of : ∀ {es : List Endl} {F : (i : Nat) → (nthE es i).κ → Prop} {G : AX → AS → Prop}, endsP es F → (∀ i x, F i x → G (nthE es i).e ((nthE es i).S x).st) → ∀ {a s}, endK es a s → G a s
  | [], _, _, _, _, _, _, h => h.elim
  | e :: r, F, G, hv, hG, a, s, h => by
    rcases h with ⟨x, rfl, rfl⟩ | h
    · exact hG 0 x (hv.1 x)
    · exact endsP_of (es := r) (F := fun i x => F (i + 1) x) hv.2 (fun i x hF => hG (i + 1) x hF) h
theorem endK_nth : ∀ (es : List Endl) (n : Nat) (x : (nthE es n).κ), endK es (nthE es n).e ((nthE es n).S x).st
  | [], _, x => nomatch x
  | _ :: _, 0, x => .inl ⟨x, rfl, rfl⟩
  | _ :: r, n + 1, x => .inr (endK_nth r n x)
/-- Hints: what a run cannot see by itself. s n h: n decisions that can be seen, then h. -/
inductive Hn (P : Program) : Type 1 where
  | nil
  | s (n : Nat) (h : Hn P)
  | chk (b : Bool) (p : b = true) (h : Hn P)
  | t (b : Bool) (p : b = true) (h : Hn P)
  | f (b : Bool) (p : b = false) (h : Hn P)
  | br (b : Bool) (ht : b = true → Hn P) (hf : b = false → Hn P)
  | opt (o : Option D) (d : D) (p : o = some d) (h : Hn P)
  | byt (cs : List D) (bs : List UInt8) (p : cs = bs.map dB) (h : Hn P)
  | lst (cs cs' : List D) (p : cs = cs') (h : Hn P)
  | abs (p : False)
  | val (t : Nat) (d d' : D) (p : d = d') (h : Hn P)
  | blk (k g : Nat) (b b' : Blk) (p : b = b') (h : Hn P)
  | em (b : Bool) (ht : b = true → Hn P) (hf : b = false → Hn P)
  | nils (t k sz : Nat) (elem : TypeId) (h : Hn P)
  | nilc (k0 g0 : Nat) (b : Blk) (j k sz : Nat) (elem : TypeId) (h : Hn P)
  | recv (k t : Nat) (d d' : D) (p : d = d') (h : Hn P)
  | call (f : FuncId) (al : Bool) (fp : List Nat) (b1 : Bool) (p1 : b1 = true) (q q0 : List D) (hq : simL q q0) (b2 : Bool) (p2 : b2 = true) (hin : List Blk) (r : D) (bs : List Blk) (hs : CallOk al P f q0 hin r bs) (h : Hn P)
  | loop1 (rd : Bool) (nt xn : Nat) (c : Code) (d : CutS) (rows : rowsOk d) (e1 : AX) (s1 : AS) (hl : AWPl P rd nt xn c d.st fun e s => e = e1 ∧ s = s1) (h : Hn P)
  | loop2 (rd : Bool) (nt xn : Nat) (c : Code) (d : CutS) (rows : rowsOk d) (e1 : AX) (s1 : AS) (e2 : AX) (s2 : AS) (hl : AWPl P rd nt xn c d.st fun e s => (e = e1 ∧ s = s1) ∨ (e = e2 ∧ s = s2)) (h1 h2 : Hn P)
  | loopE (rd : Bool) (nt xn : Nat) (c : Code) (d : CutS) (rows : rowsOk d) (es : List Endl) (hl : AWPl P rd nt xn c d.st (endK es)) (hs : (i : Nat) → (nthE es i).κ → Hn P)
  | cut (e : AX) (d : CutS) (rows : rowsOk d) (Q : AX → AS → Prop) (p : Q e d.st)
  | out (ks gs : List Nat) (r : D) (bs : List Blk) (R : D → List Blk → Prop) (p : R r bs)
  | two (h1 h2 : Hn P)
  | stab (l : List (Option D)) (h : Hn P)

/-- Something that the run wants to be told. -/
inductive Need {α : Type _} (what : Nat) (x : α) : Prop
def litP (b : Bool) (X : Prop) : Prop := match b with
  | true => X
  | false => False
def litBr (b : Bool) (X Y : Prop) : Prop := match b with
  | true => X
  | false => Y
theorem litP_iff {b : Bool} {X : Prop} : litP b X ↔ b = true ∧ X := by cases b <;> simp [litP]
theorem litBr_iff {b : Bool} {X Y : Prop} : litBr b X Y ↔ (b = true → X) ∧ (b = false → Y) := by cases b <;> simp [litBr]
def forceN (n : Nat) (K : Nat → Prop) : Prop := match n with
  | 0 => K 0
  | m + 1 => K (m + 1)
theorem forceN_iff {n : Nat} {K : Nat → Prop} : forceN n K ↔ K n := by cases n <;> exact Iff.rfl

section
variable {P : Program}
def Hn.isAbs (h : Hn P) : Bool := match h with
  | .abs _ => true
  | _ => false
theorem Hn.isAbs_no {h : Hn P} : h.isAbs = false := by
  cases h <;> first | rfl | (rename_i p; exact p.elim)
def Hn.go (h : Hn P) (lit use : Hn P → Prop) : Prop := match h with
  | .s 0 h' => use h'
  | .s (n + 1) h' => lit (.s n h')
  | h' => use h'
/-- What stands on no ground needs nothing. -/
def Hn.absOr (h : Hn P) (X : Prop) : Prop := match h with
  | .abs _ => True
  | _ => X
theorem Hn.absOr_elim {h : Hn P} {X : Prop} (hv : h.absOr X) : X := by
  unfold Hn.absOr at hv
  split at hv
  · rename_i p; exact p.elim
  · exact hv
/-- Is there a fork here? -/
def Hn.fork (h : Hn P) (no : Prop) (yes : Hn P → Hn P → Prop) : Prop := match h with
  | .two a b => yes a b
  | .s 0 (.two a b) => yes a b
  | _ => no
theorem Hn.fork_elim {h : Hn P} {no X : Prop} {yes : Hn P → Hn P → Prop} (hv : h.fork no yes) (h1 : no → X) (h2 : ∀ a b, yes a b → X) : X := by
  unfold Hn.fork at hv
  split at hv
  · exact h2 _ _ hv
  · exact h2 _ _ hv
  · exact h1 hv
theorem Hn.go_elim {h : Hn P} {lit use : Hn P → Prop} {X : Prop} (hv : h.go lit use) (h1 : ∀ h', lit h' → X) (h2 : ∀ h', use h' → X) : X := by
  unfold Hn.go at hv
  split at hv
  · exact h2 _ hv
  · exact h1 _ hv
  · exact h2 _ hv

/-- At a loop: as go; but a very great count stands for help that is sought. -/
def Hn.goL (h : Hn P) (lit use : Hn P → Prop) : Prop := match h with
  | .s 0 h' => use h'
  | .s (n + 1) h' => bif Nat.blt 1000000000 n then use (.s (n + 1) h') else lit (.s n h')
  | h' => use h'
theorem Hn.goL_elim {h : Hn P} {lit use : Hn P → Prop} {X : Prop} (hv : h.goL lit use) (h1 : ∀ h', lit h' → X) (h2 : ∀ h', use h' → X) : X := by
  unfold Hn.goL at hv
  split at hv
  · exact h2 _ hv
  · rename_i n h'
    cases hb : Nat.blt 1000000000 n with
    | true => rw [hb] at hv; exact h2 _ hv
    | false => rw [hb] at hv; exact h1 _ hv
  · exact h2 _ hv

def unB : List D → Option (List UInt8)
  | [] => some []
  | .v (.int .u8 (.ofNat m)) :: r => bif Nat.blt m 256 then (match unB r with
    | some l => some (UInt8.ofNat m :: l)
    | none => none) else none
  | _ => none
theorem unB_eq : ∀ {cs : List D} {bs : List UInt8}, unB cs = some bs → cs = bs.map dB
  | [], bs, h => by cases h; rfl
  | d :: r, bs, h => by
    unfold unB at h
    split at h
    · rename_i heq; cases heq
    · rename_i m r' heq
      cases heq
      cases hb : Nat.blt m 256 with
      | false => rw [hb] at h; cases h
      | true =>
        rw [hb, cond_true] at h
        split at h
        · rename_i l hl
          cases h
          have hm : m < 256 := Nat.le_of_ble_eq_true hb
          rw [List.map_cons, ← unB_eq hl]
          congr 1
          unfold dB
          have : (UInt8.ofNat m).toNat = m := by simp [UInt8.toNat_ofNat', Nat.mod_eq_of_lt hm]
          rw [this]; rfl
        · cases h
    · cases h

theorem Ev.vc_mono : ∀ {e : Ev} {K K' : Option D → Up → Prop}, e.vc K → (∀ v up, K v up → K' v up) → e.vc K'
  | .ok v up, _, _, h, hk => hk v up h
  | .cond b k, _, _, h, hk => chkP_iff.2 ⟨(chkP_iff.1 h).1, Ev.vc_mono (chkP_iff.1 h).2 hk⟩
  | .opt o k, _, _, h, hk => by
    obtain ⟨d, hd, h⟩ := optP_iff.1 h
    exact optP_iff.2 ⟨d, hd, Ev.vc_mono h hk⟩
  | .list cs k, _, _, h, hk => Ev.vc_mono (e := k cs) h hk
  | .bytes cs k, _, _, h, hk => by
    obtain ⟨bs, hb, h⟩ := h.h
    exact ⟨bs, hb, Ev.vc_mono h hk⟩
  | .stuck, _, _, h, _ => h
theorem vcOp_mono {T : TT} {s : AS} {nm ky : Nat} {o : Oper} {K K' : Option D → Up → Prop} (h : vcOp P T s nm ky o K) (hk : ∀ v up, K v up → K' v up) : vcOp P T s nm ky o K' := by
  unfold vcOp at h ⊢
  cases hc : callOf s o with
  | some p =>
    rw [hc] at h
    obtain ⟨al, fp, q, hin, r, bs, h1, h2, h4, h5, h6⟩ := h.h
    exact ⟨al, fp, q, hin, r, bs, h1, h2, h4, h5, hk _ _ h6⟩
  | none => rw [hc] at h; exact Ev.vc_mono h hk

/-- A list that is written out. -/
def litL {α : Type} (l : List α) (X : Prop) : Prop := match l with
  | [] => X
  | _ :: _ => X
theorem litL_iff {α : Type} {l : List α} {X : Prop} : litL l X ↔ X := by cases l <;> exact Iff.rfl
/-- What an operation comes to, run with hints. -/
def xEv : Ev → Hn P → (Option D → Up → Hn P → Prop) → Prop
  | .ok v up, h, K => K v up h
  | .cond b k, h, K => h.go (fun h' => litP b (xEv k h' K)) fun h' => match h' with
    | .chk b' _ h2 => b = b' ∧ xEv k h2 K
    | _ => Need 1 b
  | .opt o k, h, K => h.go (fun h' => optP o fun d => xEv (k d) h' K) fun h' => match h' with
    | .opt o' d _ h2 => o = o' ∧ xEv (k d) h2 K
    | _ => Need 2 o
  | .list cs k, h, K => h.go (fun h' => litL cs (xEv (k cs) h' K)) fun h' => match h' with
    | .lst cs0 cs' _ h2 => cs = cs0 ∧ xEv (k cs') h2 K
    | _ => Need 14 cs
  | .bytes cs k, h, K => h.go (fun h' => optP (unB cs) fun bs => xEv (k bs) h' K) fun h' => match h' with
    | .byt cs' bs _ h2 => cs = cs' ∧ xEv (k bs) h2 K
    | _ => Need 3 cs
  | .stuck, _, _ => Need 0 ()
theorem xEv_vc : ∀ {e : Ev} {h : Hn P} {K : Option D → Up → Hn P → Prop}, xEv e h K → e.vc fun v up => ∃ h', K v up h'
  | .ok v up, h, K, hv => ⟨h, hv⟩
  | .cond b k, h, K, hv => by
    unfold xEv at hv
    refine Hn.go_elim hv (fun h' hv => ?_) fun h' hv => ?_
    · obtain ⟨hb, hv⟩ := litP_iff.1 hv; exact chkP_iff.2 ⟨hb, xEv_vc hv⟩
    · split at hv
      · rename_i b' p h2; exact chkP_iff.2 ⟨hv.1.trans p, xEv_vc hv.2⟩
      · cases hv
  | .opt o k, h, K, hv => by
    unfold xEv at hv
    refine Hn.go_elim hv (fun h' hv => ?_) fun h' hv => ?_
    · obtain ⟨d, hd, hv⟩ := optP_iff.1 hv; exact optP_iff.2 ⟨d, hd, xEv_vc hv⟩
    · split at hv
      · rename_i o' d p h2; exact optP_iff.2 ⟨d, hv.1.trans p, xEv_vc hv.2⟩
      · cases hv
  | .list cs k, h, K, hv => by
    unfold xEv at hv
    show (k cs).vc _
    refine Hn.go_elim hv (fun h' hv => xEv_vc (litL_iff.1 hv)) fun h' hv => ?_
    split at hv
    · rename_i cs0 cs' p h2
      obtain ⟨e, hv⟩ := hv
      have e2 : cs = cs' := e.trans p
      rw [e2]; exact xEv_vc hv
    · cases hv
  | .bytes cs k, h, K, hv => by
    unfold xEv at hv
    refine Hn.go_elim hv (fun h' hv => ?_) fun h' hv => ?_
    · obtain ⟨bs, hb, hv⟩ := optP_iff.1 hv; exact ⟨bs, unB_eq hb, xEv_vc hv⟩
    · split at hv
      · rename_i cs' bs p h2; exact ⟨bs, hv.1.trans p, xEv_vc hv.2⟩
      · cases hv
  | .stuck, _, _, hv => by cases hv

/-- Values that are told in other words, ahead of an operation. -/
def xPre : Hn P → AS → (AS → Hn P → Prop) → Prop
  | .val t d d' _ h, s, K => s.tm.get t = some d ∧ xPre h { s with tm := s.tm.set t (some d') } K
  | .blk k g b b' _ h, s, K => s.at k = some (g, b) ∧ xPre h { s with hp := s.hp.set k (some (g, .b b')) } K
  | .abs _, _, _ => True
  | h, s, K => K s h
/-- The beginning of an operation. -/
def xBeg (h : Hn P) (s : AS) (K : AS → Hn P → Prop) : Prop := h.go (fun h' => K s h') fun h' => xPre h' s K

/-- Ahead of a loop, and behind a round: nil, as a slice of one's own. -/
def xNil : Hn P → AS → (AS → Hn P → Prop) → Prop
  | .nils t k sz elem h, s, K => s.tm.get t = some nilDv ∧ xNil h (nilS s t k sz elem) K
  | .nilc k0 g0 b j k sz elem h, s, K => s.at k0 = some (g0, b) ∧ b.cells[j]? = some nilDv ∧ litP (!Nat.beq k0 k && Tr.okK k && !b.row) (xNil h (nilC s k0 g0 b j k sz elem) K)
  | .recv k t d d' _ h, s, K => optP (s.lat k) fun q => q.2.tm.get t = some d ∧ xNil h (recS s k q.1 q.2 t d') K
  | h, s, K => xPre h s K
/-- All that is said of s2 is said of s. -/
structure SubAS (s2 s : AS) : Prop where
  tm : ∀ t d, s2.tm.get t = some d → s.tm.get t = some d
  hp : ∀ k x, s2.gat k = some x → s.gat k = some x
  us : s2.us = s.us
theorem SubAS.refl (s : AS) : SubAS s s := ⟨fun _ _ h => h, fun _ _ h => h, rfl⟩
theorem SubAS.trans {a b c : AS} (h : SubAS a b) (h' : SubAS b c) : SubAS a c := ⟨fun t d hd => h'.tm t d (h.tm t d hd), fun k x hk => h'.hp k x (h.hp k x hk), h.us.trans h'.us⟩
theorem xPre_sub {K : AS → Hn P → Prop} : ∀ (h : Hn P) (s : AS), xPre h s K → ∃ s2 h2, K s2 h2 ∧ SubAS s2 s
  | .val t d d' p h, s, hv => by
    subst p
    obtain ⟨h1, hv⟩ := hv
    obtain ⟨s2, h2, q1, q2⟩ := xPre_sub h _ hv
    refine ⟨s2, h2, q1, q2.trans ⟨fun t' x hk => ?_, fun _ _ h => h, rfl⟩⟩
    rcases Tr.of_set hk with ⟨rfl, e⟩ | ⟨_, hk⟩
    · cases e; exact h1
    · exact hk
  | .blk k g b b' p h, s, hv => by
    subst p
    obtain ⟨h1, hv⟩ := hv
    obtain ⟨s2, h2, q1, q2⟩ := xPre_sub h _ hv
    refine ⟨s2, h2, q1, q2.trans ⟨fun _ _ h => h, fun k' x hk => ?_, rfl⟩⟩
    rcases Tr.of_set hk with ⟨rfl, e⟩ | ⟨_, hk⟩
    · cases e; exact AS.at_iff.1 h1
    · exact hk
  | .nil, s, hv => ⟨s, _, hv, .refl s⟩
  | .s .., s, hv => ⟨s, _, hv, .refl s⟩
  | .chk .., s, hv => ⟨s, _, hv, .refl s⟩
  | .t .., s, hv => ⟨s, _, hv, .refl s⟩
  | .f .., s, hv => ⟨s, _, hv, .refl s⟩
  | .br .., s, hv => ⟨s, _, hv, .refl s⟩
  | .opt .., s, hv => ⟨s, _, hv, .refl s⟩
  | .byt .., s, hv => ⟨s, _, hv, .refl s⟩
  | .call .., s, hv => ⟨s, _, hv, .refl s⟩
  | .loop1 .., s, hv => ⟨s, _, hv, .refl s⟩
  | .loop2 .., s, hv => ⟨s, _, hv, .refl s⟩
  | .loopE .., s, hv => ⟨s, _, hv, .refl s⟩
  | .nils .., s, hv => ⟨s, _, hv, .refl s⟩
  | .nilc .., s, hv => ⟨s, _, hv, .refl s⟩
  | .recv .., s, hv => ⟨s, _, hv, .refl s⟩
  | .em .., s, hv => ⟨s, _, hv, .refl s⟩
  | .lst .., s, hv => ⟨s, _, hv, .refl s⟩
  | .two .., s, hv => ⟨s, _, hv, .refl s⟩
  | .stab .., s, hv => ⟨s, _, hv, .refl s⟩
  | .abs p, _, _ => p.elim
  | .cut .., s, hv => ⟨s, _, hv, .refl s⟩
  | .out .., s, hv => ⟨s, _, hv, .refl s⟩
theorem xBeg_sub {K : AS → Hn P → Prop} {h : Hn P} {s : AS} (hv : xBeg h s K) : ∃ s2 h2, K s2 h2 ∧ SubAS s2 s :=
  Hn.go_elim hv (fun h' hv => ⟨s, h', hv, .refl s⟩) fun h' hv => xPre_sub h' s hv
theorem tmE_sub {s2 s : AS} (h : SubAS s2 s) {κ γ : Nat → Nat} : ∀ {l : List (Nat × D)}, tmE s2 κ γ l → tmE s κ γ l
  | [], _ => trivial
  | _ :: _, ⟨h1, h2⟩ => ⟨h.tm _ _ h1, tmE_sub h h2⟩
theorem obE_sub {s2 s : AS} (h : SubAS s2 s) {κ γ : Nat → Nat} {e : Ent} (he : obE s2 κ γ e) : obE s κ γ e := by
  unfold obE at he ⊢
  split at he
  · exact AS.at_iff.2 (h.hp _ _ (AS.at_iff.1 he))
  · exact AS.at_iff.2 (h.hp _ _ (AS.at_iff.1 he))
  · obtain ⟨p, hp, he⟩ := optP_iff.1 he
    exact optP_iff.2 ⟨p, AS.lat_iff.2 (h.hp _ _ (AS.lat_iff.1 hp)), he⟩
theorem esE_sub {s2 s : AS} (h : SubAS s2 s) {κ γ : Nat → Nat} : ∀ {l : List Ent}, esE s2 κ γ l → esE s κ γ l
  | [], _ => trivial
  | _ :: _, ⟨h1, h2⟩ => ⟨obE_sub h h1, esE_sub h h2⟩
theorem CutE.sub {s2 s : AS} (h : SubAS s2 s) {xn : Nat} {c : CutS} (hc : CutE s2 xn c) : CutE s xn c :=
  ⟨tmE_sub h hc.tm, esE_sub h hc.es, hc.ok, hc.rows, h.us.symm.trans hc.us⟩
/-- A call by a contract, run with hints. -/
def xCon (s : AS) (ds : List D) (f : FuncId) (nm ky : Nat) : Hn P → (Option D → Up → Hn P → Prop) → Prop
  | .em _ ht hf, K => (∀ p, xCon s ds f nm ky (ht p) K) ∧ ∀ p, xCon s ds f nm ky (hf p) K
  | .call f' al fp b1 _ q _ _ b2 _ hin r bs _ h2, K => f = f' ∧ toDL s al fp ds = some (b1, q) ∧ hinOf s fp fp = some (b2, hin) ∧ litP (nodupB fp && Nat.ble bs.length (fp.length + 8)) (K (some (resN (κOf fp ky) (γOf s fp nm) bs r)) (adoptUp (κOf fp ky) (γOf s fp nm) 0 bs) h2)
  | .abs _, _ => True
  | _, _ => Need 4 (s, f, ds)
theorem xCon_sound {s : AS} {ds : List D} {f : FuncId} {nm ky : Nat} {K : Option D → Up → Hn P → Prop} : ∀ {h : Hn P}, xCon s ds f nm ky h K → callP P s ds f nm ky fun v up => ∃ h', K v up h'
  | .em b ht hf, hv => by
    obtain ⟨h1, h2⟩ := hv
    cases hb : b with
    | true => exact xCon_sound (h1 hb)
    | false => exact xCon_sound (h2 hb)
  | .call f' al fp b1 p1 q q0 hq b2 p2 hin r bs hs h2, hv => by
    subst p1 p2
    obtain ⟨rfl, h3, h4, h5⟩ := hv
    obtain ⟨h5, h6⟩ := litP_iff.1 h5
    exact conP fp hs h3 h4 hq h5 ⟨h2, h6⟩
  | .nil, hv => by cases hv
  | .s .., hv => by cases hv
  | .chk .., hv => by cases hv
  | .t .., hv => by cases hv
  | .f .., hv => by cases hv
  | .br .., hv => by cases hv
  | .opt .., hv => by cases hv
  | .byt .., hv => by cases hv
  | .val .., hv => by cases hv
  | .blk .., hv => by cases hv
  | .nils .., hv => by cases hv
  | .nilc .., hv => by cases hv
  | .recv .., hv => by cases hv
  | .loop1 .., hv => by cases hv
  | .loop2 .., hv => by cases hv
  | .loopE .., hv => by cases hv
  | .cut .., hv => by cases hv
  | .out .., hv => by cases hv
  | .lst .., hv => by cases hv
  | .two .., hv => by cases hv
  | .stab .., hv => by cases hv
  | .abs p, _ => p.elim

/-- An operation in a region that draws its order, run with hints. -/
def xOpD (T : TT) (s : AS) (nm ky : Nat) (o : Oper) (h : Hn P) (K : Option D → Up → Hn P → Prop) : Prop :=
  match callOf s o with
  | some p => h.go (fun h' => Need 5 h') fun h' => xCon s p.2 p.1 nm ky h' K
  | none => xEv (ev T s nm ky o) h K
theorem xOpD_sound {T : TT} {s : AS} {nm ky : Nat} {o : Oper} {h : Hn P} {K : Option D → Up → Hn P → Prop} (hv : xOpD T s nm ky o h K) : vcOp P T s nm ky o fun v up => ∃ h', K v up h' := by
  unfold xOpD at hv
  unfold vcOp
  cases hc : callOf s o with
  | some p => rw [hc] at hv; exact Hn.go_elim hv (fun h' hv => by cases hv) fun h' hv => xCon_sound hv
  | none => rw [hc] at hv; exact xEv_vc hv

def xD (T : TT) (nt kb : Nat) (all : List Oper) (pr : List (List Nat)) : Nat → List Oper → AS → List Rec → Hn P → (AS → Hn P → Prop) → Prop
  | _, [], s, log, h, K => litBr (okCf pr 0 log.reverse && log.all recOk) (K s h) (h.go (fun h' => Need 40 (stL pr 0 log.reverse, h')) fun h' => match h' with
    | .stab l h2 => litP (okRx pr 0 log.reverse && log.all recOk) (stL pr 0 log.reverse = l.map (fun c => (c, c)) ∧ K s h2)
    | _ => Need 41 (stL pr 0 log.reverse, okRx pr 0 log.reverse))
  | i, o :: r, s, log, h, K => litP (dstOk nt o) (h.go (fun h' => xDo T nt kb all pr i o r s log h' K (xD T nt kb all pr (i + 1) r)) fun h' => h'.absOr (xDo T nt kb all pr i o r s log h' K (xD T nt kb all pr (i + 1) r)))
where xDo (T : TT) (nt kb : Nat) (all : List Oper) (pr : List (List Nat)) (i : Nat) (o : Oper) (r : List Oper) (s : AS) (log : List Rec) (h : Hn P) (K : AS → Hn P → Prop) (next : AS → List Rec → Hn P → (AS → Hn P → Prop) → Prop) : Prop :=
  match o.guard with
  | none => xOpD T (smallOf s o) (s.nx + 8 * i) (s.nx + 8 * i) o h fun v up h' => next (s.eff i (recOf T s o v up)) (recOf T s o v up :: log) h' K
  | some jw => match (all[jw.1]?).bind (·.dst) with
    | some t => match s.tm.get t with
      | some (.v (.bool b)) =>
        let run (c : Bool) (h : Hn P) : Prop := xOpD T (smallOf s o) (s.nx + 8 * i) (s.nx + 8 * i) o h fun v up h' => next (AS.eff { s with tm := s.tm.set t (some (.v (.bool c))) } i (recOfG T s t o v up)) (recOfG T s t o v up :: log) h' K
        let skip (c : Bool) (h : Hn P) : Prop := next (AS.eff { s with tm := s.tm.set t (some (.v (.bool c))) } i ⟨[t], [], o.dst, some (.tup []), [], none⟩) (⟨[t], [], o.dst, some (.tup []), [], none⟩ :: log) h K
        h.go (fun h' => litBr b (bif jw.2 then run true h' else skip true h') (bif jw.2 then skip false h' else run false h')) fun h' => match h' with
          | .t b' _ h2 => b = b' ∧ bif jw.2 then run true h2 else skip true h2
          | .f b' _ h2 => b = b' ∧ bif jw.2 then skip false h2 else run false h2
          | .br b' ht hf => b = b' ∧ (∀ p, bif jw.2 then run true (ht p) else skip true (ht p)) ∧ ∀ p, bif jw.2 then skip false (hf p) else run false (hf p)
          | _ => Need 6 b
      | some (.tup []) => next (AS.eff s i ⟨[t], [], o.dst, some (.tup []), [], none⟩) (⟨[t], [], o.dst, some (.tup []), [], none⟩ :: log) h K
      | _ => Need 7 t
    | none => False

theorem xD_sound {T : TT} {nt kb : Nat} {all : List Oper} {pr : List (List Nat)} {K : AS → Hn P → Prop} : ∀ (l : List Oper) (i : Nat) (s : AS) (log : List Rec) (h : Hn P), xD T nt kb all pr i l s log h K → vcD P T nt kb all pr i l s log fun s' => ∃ h', K s' h'
  | [], i, s, log, h, hv => by
    obtain ⟨h1, h2⟩ := litBr_iff.1 hv
    cases hc : (okCf pr 0 log.reverse && log.all recOk) with
    | true => exact ⟨.of hc, h, h1 hc⟩
    | false =>
      refine Hn.go_elim (h2 hc) (fun h' hv => by cases hv) fun h' hv => ?_
      split at hv
      · obtain ⟨h3, h4, h5⟩ := litP_iff.1 hv
        refine ⟨.rx h3 fun p hp => ?_, _, h5⟩
        rw [h4] at hp
        obtain ⟨c, _, rfl⟩ := List.mem_map.1 hp
        rfl
      · cases hv
  | o :: r, i, s, log, h, hv => by
    obtain ⟨hd, hv⟩ := litP_iff.1 hv
    refine chkP_iff.2 ⟨hd, ?_⟩
    have key : ∀ h', xD.xDo T nt kb all pr i o r s log h' K (xD T nt kb all pr (i + 1) r) → (match o.guard with
      | none => vcOp P T (smallOf s o) (s.nx + 8 * i) (s.nx + 8 * i) o fun v up => vcD P T nt kb all pr (i + 1) r (s.eff i (recOf T s o v up)) (recOf T s o v up :: log) fun s' => ∃ h', K s' h'
      | some jw => match (all[jw.1]?).bind (·.dst) with
        | some t => match s.tm.get t with
          | some (.v (.bool b)) => brP b
            (bif jw.2 then vcOp P T (smallOf s o) (s.nx + 8 * i) (s.nx + 8 * i) o fun v up => vcD P T nt kb all pr (i + 1) r (AS.eff { s with tm := s.tm.set t (some (.v (.bool true))) } i (recOfG T s t o v up)) (recOfG T s t o v up :: log) fun s' => ∃ h', K s' h'
              else vcD P T nt kb all pr (i + 1) r (AS.eff { s with tm := s.tm.set t (some (.v (.bool true))) } i ⟨[t], [], o.dst, some (.tup []), [], none⟩) (⟨[t], [], o.dst, some (.tup []), [], none⟩ :: log) fun s' => ∃ h', K s' h')
            (bif jw.2 then vcD P T nt kb all pr (i + 1) r (AS.eff { s with tm := s.tm.set t (some (.v (.bool false))) } i ⟨[t], [], o.dst, some (.tup []), [], none⟩) (⟨[t], [], o.dst, some (.tup []), [], none⟩ :: log) (fun s' => ∃ h', K s' h')
              else vcOp P T (smallOf s o) (s.nx + 8 * i) (s.nx + 8 * i) o fun v up => vcD P T nt kb all pr (i + 1) r (AS.eff { s with tm := s.tm.set t (some (.v (.bool false))) } i (recOfG T s t o v up)) (recOfG T s t o v up :: log) fun s' => ∃ h', K s' h')
          | some (.tup []) => vcD P T nt kb all pr (i + 1) r (s.eff i ⟨[t], [], o.dst, some (.tup []), [], none⟩) (⟨[t], [], o.dst, some (.tup []), [], none⟩ :: log) fun s' => ∃ h', K s' h'
          | _ => False
        | none => False) := by
      intro h' hv
      have opm : ∀ {S : AS} {nm ky : Nat} {h1 : Hn P} {F : Option D → Up → Hn P → Prop} {G : Option D → Up → Prop}, xOpD T S nm ky o h1 F → (∀ v up h2, F v up h2 → G v up) → vcOp P T S nm ky o G := fun hx hm => vcOp_mono (xOpD_sound hx) fun v up ⟨h2, hF⟩ => hm v up h2 hF
      unfold xD.xDo at hv
      cases hg : o.guard with
      | none =>
        rw [hg] at hv
        exact opm hv fun v up h2 hF => xD_sound r (i + 1) _ _ h2 hF
      | some jw =>
        rw [hg] at hv
        dsimp only at hv ⊢
        cases ht : (all[jw.1]?).bind (·.dst) with
        | none => rw [ht] at hv; exact hv.elim
        | some t =>
          rw [ht] at hv
          dsimp only at hv ⊢
          split at hv
          case h_3 => cases hv
          case h_2 hb => exact xD_sound r (i + 1) _ _ h' hv
          case h_1 b hb =>
          have run : ∀ (c : Bool) (h : Hn P), xOpD T (smallOf s o) (s.nx + 8 * i) (s.nx + 8 * i) o h (fun v up h' => xD T nt kb all pr (i + 1) r (AS.eff { s with tm := s.tm.set t (some (.v (.bool c))) } i (recOfG T s t o v up)) (recOfG T s t o v up :: log) h' K) → vcOp P T (smallOf s o) (s.nx + 8 * i) (s.nx + 8 * i) o fun v up => vcD P T nt kb all pr (i + 1) r (AS.eff { s with tm := s.tm.set t (some (.v (.bool c))) } i (recOfG T s t o v up)) (recOfG T s t o v up :: log) fun s' => ∃ h', K s' h' := fun c h hx => opm hx fun v up h2 hF => xD_sound r (i + 1) _ _ h2 hF
          have skip : ∀ (c : Bool) (h : Hn P), xD T nt kb all pr (i + 1) r (AS.eff { s with tm := s.tm.set t (some (.v (.bool c))) } i ⟨[t], [], o.dst, some (.tup []), [], none⟩) (⟨[t], [], o.dst, some (.tup []), [], none⟩ :: log) h K → vcD P T nt kb all pr (i + 1) r (AS.eff { s with tm := s.tm.set t (some (.v (.bool c))) } i ⟨[t], [], o.dst, some (.tup []), [], none⟩) (⟨[t], [], o.dst, some (.tup []), [], none⟩ :: log) fun s' => ∃ h', K s' h' := fun c h hx => xD_sound r (i + 1) _ _ h hx
          obtain ⟨j, want⟩ := jw
          refine brP_iff.2 ⟨fun hbt => ?_, fun hbf => ?_⟩
          · subst hbt
            refine Hn.go_elim hv (fun h1 hv => ?_) fun h1 hv => ?_
            · have hv := (litBr_iff.1 hv).1 rfl
              cases want with
              | true => exact run true h1 hv
              | false => exact skip true h1 hv
            · split at hv
              · obtain ⟨_, hv⟩ := hv
                cases want with
                | true => exact run true _ hv
                | false => exact skip true _ hv
              · rename_i b' p h2
                obtain ⟨e, _⟩ := hv; rw [p] at e; cases e
              · rename_i b' ht hf
                obtain ⟨e, hv, _⟩ := hv
                have hv := hv e.symm
                cases want with
                | true => exact run true _ hv
                | false => exact skip true _ hv
              · cases hv
          · subst hbf
            refine Hn.go_elim hv (fun h1 hv => ?_) fun h1 hv => ?_
            · have hv := (litBr_iff.1 hv).2 rfl
              cases want with
              | true => exact skip false h1 hv
              | false => exact run false h1 hv
            · split at hv
              · rename_i b' p h2
                obtain ⟨e, _⟩ := hv; rw [p] at e; cases e
              · obtain ⟨_, hv⟩ := hv
                cases want with
                | true => exact skip false _ hv
                | false => exact run false _ hv
              · rename_i b' ht hf
                obtain ⟨e, _, hv⟩ := hv
                have hv := hv e.symm
                cases want with
                | true => exact skip false _ hv
                | false => exact run false _ hv
              · cases hv
    exact Hn.go_elim hv (fun h' hv => key h' hv) fun h' hv => key h' (Hn.absOr_elim hv)

theorem vcD_mono {T : TT} {nt kb : Nat} {all : List Oper} {pr : List (List Nat)} {K K' : AS → Prop} : ∀ (l : List Oper) (i : Nat) (s : AS) (log : List Rec), vcD P T nt kb all pr i l s log K → (∀ s, K s → K' s) → vcD P T nt kb all pr i l s log K'
  | [], i, s, log, hv, hk => ⟨hv.1, hk _ hv.2⟩
  | o :: r, i, s, log, hv, hk => by
    obtain ⟨hd, hv⟩ := chkP_iff.1 hv
    refine chkP_iff.2 ⟨hd, ?_⟩
    cases hg : o.guard with
    | none => rw [hg] at hv; exact vcOp_mono hv fun v up h => vcD_mono r (i + 1) _ _ h hk
    | some jw =>
      rw [hg] at hv
      dsimp only at hv ⊢
      cases ht : (all[jw.1]?).bind (·.dst) with
      | none => rw [ht] at hv; exact hv.elim
      | some t =>
        rw [ht] at hv
        dsimp only at hv ⊢
        split at hv
        case h_3 => exact hv.elim
        case h_2 hb => exact vcD_mono r (i + 1) _ _ hv hk
        case h_1 b hb =>
        obtain ⟨h1, h2⟩ := brP_iff.1 hv
        obtain ⟨j, want⟩ := jw
        refine brP_iff.2 ⟨fun e => ?_, fun e => ?_⟩
        · have h1 := h1 e
          cases want with
          | true => exact vcOp_mono h1 fun v up h => vcD_mono r (i + 1) _ _ h hk
          | false => exact vcD_mono r (i + 1) _ _ h1 hk
        · have h2 := h2 e
          cases want with
          | true => exact vcD_mono r (i + 1) _ _ h2 hk
          | false => exact vcOp_mono h2 fun v up h => vcD_mono r (i + 1) _ _ h hk
end
end Go.Vx

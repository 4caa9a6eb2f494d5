/- VxU: code, run by the kernel with hints. No program. -/
import Derived.Test.YtegjeagfcfhbeaaVxZ
namespace Go.Vx
set_option linter.unusedVariables false
set_option linter.unusedSimpArgs false
open Go.RowKit Go.Bw

section
variable {P : Program}

/-- A run of code. -/
abbrev XC (P : Program) := Bool → Nat → Nat → Nat → Code → AS → Hn P → (AX → AS → Hn P → Prop) → Prop
def XCok (R : XC P) : Prop := ∀ rd nt xn kb c s h K, R rd nt xn kb c s h K → AWP P rd nt xn c s fun e s' => ∃ h', K e s' h'
def isEnd : AX → Bool
  | .exit _ => false
  | _ => true
theorem isEnd_iff {e : AX} (h : isEnd e = true) : e = .normal ∨ e = .ret := by cases e <;> first | exact .inl rfl | exact .inr rfl | cases h
/-- What a function's results come to, run with hints. -/
def xRes (T : TT) (s : AS) : List ResultVar → Hn P → (List D → Hn P → Prop) → Prop
  | [], h, K => K [] h
  | .tmp t :: r, h, K => optP (s.tm.get t) fun d => xRes T s r h fun l => K (d :: l)
  | .cell t ty :: r, h, K => xEv (evLoad T s ty (.tmp t)) h fun v _ h' => optP v fun d => xRes T s r h' fun l => K (d :: l)
theorem xRes_vc {T : TT} {s : AS} : ∀ {rs : List ResultVar} {h : Hn P} {K : List D → Hn P → Prop}, xRes T s rs h K → vcRes T s rs fun l => ∃ h', K l h'
  | [], h, _, hv => ⟨h, hv⟩
  | .tmp t :: r, _, _, hv => by
    obtain ⟨d, hd, hv⟩ := optP_iff.1 hv
    exact optP_iff.2 ⟨d, hd, xRes_vc hv⟩
  | .cell t ty :: r, _, _, hv => Ev.vc_mono (xEv_vc hv) fun v _ ⟨h', hv⟩ => by
    obtain ⟨d, hd, hv⟩ := optP_iff.1 hv
    exact optP_iff.2 ⟨d, hd, xRes_vc hv⟩
/-- A function that is carried out in place. -/
def xFn (T : TT) (R : XC P) (f : FuncId) (ds : List D) (xn nx kb : Nat) (hp : Tr (Nat × Ob)) (h : Hn P) (K : List D → AS → Hn P → Prop) : Prop :=
  optP P.funcs[f]? fun fn => optP fn.body fun c => litP (!(fn.name == "runtime.NumGoroutine")) (R false fn.ntmps xn kb c { tm := enumT 0 ds, hp := hp, nx := nx, us := [] } h fun e s' h2 => litP (isEnd e) (xRes T s' fn.results.toList h2 fun l h3 => K l s' h3))

/-- Is it an append? -/
def apOf (o : Oper) : Option Call := match o.op with
  | .call c => match c.callee with
    | .builtin .append => some c
    | _ => none
  | _ => none
theorem apOf_some {o : Oper} {c : Call} (h : apOf o = some c) : o.op = .call c ∧ c.callee = .builtin .append := by
  unfold apOf at h
  split at h
  · split at h
    · cases h; exact ⟨by assumption, by assumption⟩
    · cases h
  · cases h
/-- An operation in the text's order, run with hints. -/
def xO (T : TT) (R : XC P) (nt kb i : Nat) (o : Oper) (s : AS) (h : Hn P) (K : AS → Hn P → Prop) : Prop :=
  match yldOf s o with
  | some p => optP (s.lat p.1) fun q => litP (Nat.beq q.1 p.2.1 && isReady q.2.st && Nat.beq p.2.2.length q.2.params.size && q.2.params.toList.all fun t => Nat.blt t q.2.nt) (R true q.2.nt (s.nx + 8 * (i + 1)) (kb + 8 * (nt + 1)) q.2.assign { tm := setPs q.2.params.toList p.2.2 q.2.tm, hp := s.hp, nx := s.nx + 8 * (i + 1), us := [] } h fun e s1 h1 => litP (isNormal e)
      (recP s1 p.1 p.2.1 (fun r => isReady r.st) (fun r => { r with st := .busy }) fun _ s2 => R true q.2.nt (s.nx + 8 * (i + 1)) (kb + 8 * (nt + 1)) q.2.body s2 h1 fun e s3 h3 =>
        recP s3 p.1 p.2.1 (fun _ => true) (fun r => { r with st := bif isNormal e then .ready else .done, pend := jumpOf e }) fun _ s4 => K { tm := putT s.tm o.dst (some (.v (.bool (isNormal e)))), hp := s4.hp, nx := s4.nx, us := [] } h3))
  | none => match callOf s o with
    | some p => h.go (fun h' => xFn T R p.1 p.2 (s.nx + 8 * (i + 1)) (s.nx + 8 * (i + 1)) (kb + 8 * (nt + 1)) s.hp h' fun l s' h2 => K { tm := putT s.tm o.dst (some (resD l)), hp := s'.hp, nx := s'.nx, us := [] } h2)
        fun h' => xCon s p.2 p.1 (s.nx + 8 * i) (s.nx + 8 * i) h' fun v up h2 => K { s with tm := putT s.tm o.dst v, hp := upH up s.hp, us := i :: s.us } h2
    | none => match apOf o with
      | some c => h.fork (xEv (ev T s (s.nx + 8 * i) (s.nx + 8 * i) o) h fun v up h2 => K { s with tm := putT s.tm o.dst v, hp := upH up s.hp, us := i :: s.us } h2) fun h1 h2 => match app2 T s (s.nx + 8 * i) (s.nx + 8 * i) c.argTypes c.args with
        | some (b, (v1, u1), (v2, u2)) => litP b (K { s with tm := putT s.tm o.dst (some v1), hp := upH u1 s.hp, us := i :: s.us } h1 ∧ K { s with tm := putT s.tm o.dst (some v2), hp := upH u2 s.hp, us := i :: s.us } h2)
        | none => Need 24 ()
      | none => xEv (ev T s (s.nx + 8 * i) (s.nx + 8 * i) o) h fun v up h2 => K { s with tm := putT s.tm o.dst v, hp := upH up s.hp, us := i :: s.us } h2

theorem AWP.ex {rd : Bool} {nt xn : Nat} {c : Code} {s : AS} {K : AX → AS → Hn P → Prop} {G : AX → AS → Prop} (h : AWP P rd nt xn c s fun e s' => ∃ h', K e s' h') (hk : ∀ e s' h', K e s' h' → G e s') : AWP P rd nt xn c s G := h.mono fun e s' ⟨h', hK⟩ => hk e s' h' hK
theorem vcRes_mono {T : TT} {s : AS} : ∀ {rs : List ResultVar} {K K' : List D → Prop}, vcRes T s rs K → (∀ l, K l → K' l) → vcRes T s rs K'
  | [], _, _, h, hk => hk _ h
  | .tmp t :: r, _, _, h, hk => by
    obtain ⟨d, hd, h⟩ := optP_iff.1 h
    exact optP_iff.2 ⟨d, hd, vcRes_mono h fun l => hk _⟩
  | .cell t ty :: r, _, _, h, hk => Ev.vc_mono h fun v _ h => by
    obtain ⟨d, hd, h⟩ := optP_iff.1 h
    exact optP_iff.2 ⟨d, hd, vcRes_mono h fun l => hk _⟩
theorem recP_mono {s : AS} {k g : Nat} {ok : LRec → Bool} {to : LRec → LRec} {K K' : LRec → AS → Prop} (h : recP s k g ok to K) (hk : ∀ r s', K r s' → K' r s') : recP s k g ok to K' := by
  obtain ⟨p, hp, h⟩ := optP_iff.1 h
  obtain ⟨hc, h⟩ := chkP_iff.1 h
  exact optP_iff.2 ⟨p, hp, chkP_iff.2 ⟨hc, hk _ _ h⟩⟩

theorem xO_sound {T : TT} {R : XC P} (hR : XCok R) {nt kb i : Nat} {o : Oper} {s : AS} {h : Hn P} {K : AS → Hn P → Prop} {G : AS → Prop} (hv : xO T R nt kb i o s h K) (hk : ∀ s' h', K s' h' → G s') : vcO P T nt kb i o s G := by
  unfold xO at hv
  unfold vcO
  cases hy : yldOf s o with
  | some p =>
    rw [hy] at hv
    dsimp only at hv ⊢
    obtain ⟨q, hq, hv⟩ := optP_iff.1 hv
    obtain ⟨hc, hv⟩ := litP_iff.1 hv
    refine optP_iff.2 ⟨q, hq, chkP_iff.2 ⟨hc, ?_⟩⟩
    refine (hR _ _ _ _ _ _ _ _ hv).ex fun e s1 h1 hv => ?_
    obtain ⟨hn, hv⟩ := litP_iff.1 hv
    refine ⟨(by cases e <;> first | rfl | (cases hn)), recP_mono hv fun _ s2 hv => ?_⟩
    refine (hR _ _ _ _ _ _ _ _ hv).ex fun e s3 h3 hv => ?_
    exact recP_mono hv fun _ s4 hv => hk _ _ hv
  | none =>
    rw [hy] at hv
    dsimp only at hv ⊢
    cases hc : callOf s o with
    | some p =>
      rw [hc] at hv
      dsimp only at hv ⊢
      refine Hn.go_elim hv (fun h' hv => ?_) fun h' hv => ?_
      · obtain ⟨fn, hf, hv⟩ := optP_iff.1 hv
        obtain ⟨c, hb, hv⟩ := optP_iff.1 hv
        obtain ⟨hn, hv⟩ := litP_iff.1 hv
        refine inlX hf hb (rs := fn.results.toList) rfl (by simpa using hn) ?_
        refine (hR _ _ _ _ _ _ _ _ hv).ex fun e s' h2 hv => ?_
        obtain ⟨he, hv⟩ := litP_iff.1 hv
        exact ⟨isEnd_iff he, vcRes_mono (xRes_vc hv) fun l ⟨_, hl⟩ => hk _ _ hl⟩
      · have hx := xCon_sound hv
        obtain ⟨al, fp, q, hin, r, bs, h1, h2, h4, h5, h6, h7⟩ := hx.h
        exact ⟨.inl ⟨al, fp, q, hin, r, bs, h1, h2, h4, h5, hk _ _ h7⟩⟩
    | none =>
      rw [hc] at hv
      dsimp only at hv
      cases ha : apOf o with
      | none =>
        rw [ha] at hv
        exact .inr (Ev.vc_mono (xEv_vc hv) fun v up ⟨h2, hK⟩ => hk _ _ hK)
      | some c =>
        rw [ha] at hv
        dsimp only at hv
        refine Hn.fork_elim hv (fun hv => .inr (Ev.vc_mono (xEv_vc hv) fun v up ⟨h2, hK⟩ => hk _ _ hK)) fun h1 h2 hv => ?_
        obtain ⟨q1, q2⟩ := apOf_some ha
        split at hv
        · rename_i b v1 u1 v2 u2 he
          obtain ⟨rfl, hv1, hv2⟩ := litP_iff.1 hv
          exact .inl ⟨c, v1, u1, v2, u2, q1, q2, he, hk _ _ hv1, hk _ _ hv2⟩
        · cases hv

def xL (T : TT) (R : XC P) (nt kb : Nat) (all : List Oper) : Nat → List Oper → AS → Hn P → (AS → Hn P → Prop) → Prop
  | _, [], s, h, K => K s h
  | i, o :: r, s, h, K => litP (dstOk nt o) (xBeg h s fun s h => xLo T R nt kb all i o s h K (xL T R nt kb all (i + 1) r))
where xLo (T : TT) (R : XC P) (nt kb : Nat) (all : List Oper) (i : Nat) (o : Oper) (s : AS) (h : Hn P) (K : AS → Hn P → Prop) (next : AS → Hn P → (AS → Hn P → Prop) → Prop) : Prop :=
  match o.guard with
  | none => xO T R nt kb i o s h fun s' h' => next s' h' K
  | some jw => match (all[jw.1]?).bind (·.dst) with
    | some t => match s.tm.get t with
      | some (.v (.bool b)) =>
        let run (c : Bool) (h : Hn P) : Prop := xO T R nt kb i o { s with tm := s.tm.set t (some (.v (.bool c))) } h fun s' h' => next s' h' K
        let skip (c : Bool) (h : Hn P) : Prop := next { s with tm := putT (s.tm.set t (some (.v (.bool c)))) o.dst (some (.tup [])), us := i :: s.us } h K
        h.go (fun h' => litBr b (bif jw.2 then run true h' else skip true h') (bif jw.2 then skip false h' else run false h')) fun h' => match h' with
          | .t b' _ h2 => b = b' ∧ bif jw.2 then run true h2 else skip true h2
          | .f b' _ h2 => b = b' ∧ bif jw.2 then skip false h2 else run false h2
          | .br b' ht hf => b = b' ∧ (∀ p, bif jw.2 then run true (ht p) else skip true (ht p)) ∧ ∀ p, bif jw.2 then skip false (hf p) else run false (hf p)
          | _ => Need 6 b
      | some (.tup []) => next { s with tm := putT s.tm o.dst (some (.tup [])), us := i :: s.us } h K
      | _ => Need 7 t
    | none => False

/-- What is told in other words holds. -/
theorem SR.val {cx : Cx} {E : Env} {s : AS} {a : Act} {w : World} (h : SR cx E s a w) {t : Nat} {d : D} (ht : s.tm.get t = some d) : SR cx E { s with tm := s.tm.set t (some d) } a w := by
  refine { h with fr := fun t' d' hd => ?_ }
  rcases Tr.of_set hd with ⟨rfl, hv⟩ | ⟨_, hd⟩
  · cases hv; exact h.fr t' _ ht
  · exact h.fr t' d' hd
theorem SR.sub {cx : Cx} {E : Env} {s s2 : AS} {a : Act} {w : World} (h : SR cx E s a w) (htm : s2.tm = s.tm) (hg : ∀ k x, s2.gat k = some x → s.gat k = some x) (hnx : s2.nx = s.nx) (hus : s2.us = s.us) : SR cx E s2 a w ∧ Mut s s2 E E w w := by
  refine ⟨{ h with
    fr := fun t d hd => h.fr t d (by rw [← htm]; exact hd)
    hp := fun k g b hk => h.hp k g b (AS.at_iff.2 (hg _ _ (AS.at_iff.1 hk)))
    lp := fun k g b hk => h.lp k g b (AS.lat_iff.2 (hg _ _ (AS.lat_iff.1 hk)))
    inj := fun k k' g g' o o' hkk h1 h2 => h.inj k k' g g' o o' hkk (hg _ _ h1) (hg _ _ h2)
    low := fun x ⟨k, g, o, hk, hx⟩ => h.low x ⟨k, g, o, hg _ _ hk, hx⟩
    nm := fun g hg => by rw [hnx, hus]; exact h.nm g hg }, ⟨fun _ h => h, fun _ _ _ => rfl, fun x _ ⟨k, g, o, hk, hx⟩ => ⟨k, g, o, hg _ _ hk, hx⟩⟩⟩
theorem xPre_sound {cx : Cx} {E : Env} {a : Act} {w : World} {K : AS → Hn P → Prop} : ∀ (h : Hn P) (s : AS), SR cx E s a w → xPre h s K → ∃ s2 h2, K s2 h2 ∧ SR cx E s2 a w ∧ Mut s s2 E E w w ∧ s2.us = s.us
  | .val t d d' p h, s, hs, hv => by
    subst p
    obtain ⟨h1, hv⟩ := hv
    obtain ⟨s2, h2, q1, q2, q3, q4⟩ := xPre_sound h _ (hs.val h1) hv
    exact ⟨s2, h2, q1, q2, ⟨q3.own, q3.heap, q3.old⟩, q4⟩
  | .blk k g b b' p h, s, hs, hv => by
    subst p
    obtain ⟨h1, hv⟩ := hv
    obtain ⟨r1, r2⟩ := hs.sub (s2 := { s with hp := s.hp.set k (some (g, .b b)) }) rfl (fun k' x hk => by
      rcases Tr.of_set hk with ⟨rfl, e⟩ | ⟨_, hk⟩
      · cases e; exact AS.at_iff.1 h1
      · exact hk) rfl rfl
    obtain ⟨s2, h2, q1, q2, q3, q4⟩ := xPre_sound h _ r1 hv
    exact ⟨s2, h2, q1, q2, r2.trans q3 (Nat.le_refl _), q4⟩
  | .nil, s, hs, hv => ⟨s, _, hv, hs, Mut.refl s E w, rfl⟩
  | .s .., s, hs, hv => ⟨s, _, hv, hs, Mut.refl s E w, rfl⟩
  | .chk .., s, hs, hv => ⟨s, _, hv, hs, Mut.refl s E w, rfl⟩
  | .t .., s, hs, hv => ⟨s, _, hv, hs, Mut.refl s E w, rfl⟩
  | .f .., s, hs, hv => ⟨s, _, hv, hs, Mut.refl s E w, rfl⟩
  | .br .., s, hs, hv => ⟨s, _, hv, hs, Mut.refl s E w, rfl⟩
  | .opt .., s, hs, hv => ⟨s, _, hv, hs, Mut.refl s E w, rfl⟩
  | .byt .., s, hs, hv => ⟨s, _, hv, hs, Mut.refl s E w, rfl⟩
  | .call .., s, hs, hv => ⟨s, _, hv, hs, Mut.refl s E w, rfl⟩
  | .loop1 .., s, hs, hv => ⟨s, _, hv, hs, Mut.refl s E w, rfl⟩
  | .loop2 .., s, hs, hv => ⟨s, _, hv, hs, Mut.refl s E w, rfl⟩
  | .loopE .., s, hs, hv => ⟨s, _, hv, hs, Mut.refl s E w, rfl⟩
  | .nils .., s, hs, hv => ⟨s, _, hv, hs, Mut.refl s E w, rfl⟩
  | .nilc .., s, hs, hv => ⟨s, _, hv, hs, Mut.refl s E w, rfl⟩
  | .recv .., s, hs, hv => ⟨s, _, hv, hs, Mut.refl s E w, rfl⟩
  | .em .., s, hs, hv => ⟨s, _, hv, hs, Mut.refl s E w, rfl⟩
  | .lst .., s, hs, hv => ⟨s, _, hv, hs, Mut.refl s E w, rfl⟩
  | .two .., s, hs, hv => ⟨s, _, hv, hs, Mut.refl s E w, rfl⟩
  | .stab .., s, hs, hv => ⟨s, _, hv, hs, Mut.refl s E w, rfl⟩
  | .abs p, _, _, _ => p.elim
  | .cut .., s, hs, hv => ⟨s, _, hv, hs, Mut.refl s E w, rfl⟩
  | .out .., s, hs, hv => ⟨s, _, hv, hs, Mut.refl s E w, rfl⟩
theorem xPre_ret {K : AS → Hn P → Prop} : ∀ (h : Hn P) (s : AS), xPre h s K → ∃ s2 h2, K s2 h2 ∧ Ret s s2
  | .val t d d' p h, s, hv => by
    subst p
    obtain ⟨h1, hv⟩ := hv
    obtain ⟨s2, h2, q1, q2⟩ := xPre_ret h _ hv
    exact ⟨s2, h2, q1, Ret.trans (fun cx E a w hs hu => ⟨E, hs.val h1, Stp.refl E w, ⟨fun _ h => h, fun _ _ _ => rfl, fun _ _ h => h⟩, hu⟩) q2⟩
  | .blk k g b b' p h, s, hv => by
    subst p
    obtain ⟨h1, hv⟩ := hv
    obtain ⟨s2, h2, q1, q2⟩ := xPre_ret h _ hv
    refine ⟨s2, h2, q1, Ret.trans (fun cx E a w hs hu => ?_) q2⟩
    obtain ⟨r1, r2⟩ := hs.sub (s2 := { s with hp := s.hp.set k (some (g, .b b)) }) rfl (fun k' x hk => by
      rcases Tr.of_set hk with ⟨rfl, e⟩ | ⟨_, hk⟩
      · cases e; exact AS.at_iff.1 h1
      · exact hk) rfl rfl
    exact ⟨E, r1, Stp.refl E w, r2, hu⟩
  | .nil, s, hv => ⟨s, _, hv, .refl s⟩
  | .s .., s, hv => ⟨s, _, hv, .refl s⟩
  | .chk .., s, hv => ⟨s, _, hv, .refl s⟩
  | .t .., s, hv => ⟨s, _, hv, .refl s⟩
  | .f .., s, hv => ⟨s, _, hv, .refl s⟩
  | .br .., s, hv => ⟨s, _, hv, .refl s⟩
  | .opt .., s, hv => ⟨s, _, hv, .refl s⟩
  | .byt .., s, hv => ⟨s, _, hv, .refl s⟩
  | .call .., s, hv => ⟨s, _, hv, .refl s⟩
  | .loop1 .., s, hv => ⟨s, _, hv, .refl s⟩
  | .loop2 .., s, hv => ⟨s, _, hv, .refl s⟩
  | .loopE .., s, hv => ⟨s, _, hv, .refl s⟩
  | .nils .., s, hv => ⟨s, _, hv, .refl s⟩
  | .nilc .., s, hv => ⟨s, _, hv, .refl s⟩
  | .em .., s, hv => ⟨s, _, hv, .refl s⟩
  | .lst .., s, hv => ⟨s, _, hv, .refl s⟩
  | .two .., s, hv => ⟨s, _, hv, .refl s⟩
  | .stab .., s, hv => ⟨s, _, hv, .refl s⟩
  | .abs p, _, _ => p.elim
  | .recv .., s, hv => ⟨s, _, hv, .refl s⟩
  | .cut .., s, hv => ⟨s, _, hv, .refl s⟩
  | .out .., s, hv => ⟨s, _, hv, .refl s⟩
theorem xNil_ret {K : AS → Hn P → Prop} : ∀ (h : Hn P) (s : AS), xNil h s K → ∃ s2 h2, K s2 h2 ∧ Ret s s2
  | .nils t k sz elem h, s, hv => by
    obtain ⟨h1, hv⟩ := hv
    obtain ⟨s2, h2, q1, q2⟩ := xNil_ret h _ hv
    exact ⟨s2, h2, q1, (Ret.nilS h1).trans q2⟩
  | .nilc k0 g0 b j k sz elem h, s, hv => by
    obtain ⟨h1, h2, hv⟩ := hv
    obtain ⟨hc, hv⟩ := litP_iff.1 hv
    simp only [Bool.and_eq_true, Bool.not_eq_true'] at hc
    obtain ⟨⟨c1, c2⟩, c3⟩ := hc
    obtain ⟨s2, h3, q1, q2⟩ := xNil_ret h _ hv
    exact ⟨s2, h3, q1, (Ret.nilC h1 (fun e => by subst e; simp at c1) c2 c3 h2).trans q2⟩
  | .recv k t d d' p h, s, hv => by
    subst p
    obtain ⟨q, hq, h1, hv⟩ := optP_iff.1 hv
    obtain ⟨s2, h2, q1, q2⟩ := xNil_ret h _ hv
    exact ⟨s2, h2, q1, (Ret.recS hq h1).trans q2⟩
  | .val .., s, hv => xPre_ret _ s hv
  | .blk .., s, hv => xPre_ret _ s hv
  | .nil, s, hv => xPre_ret _ s hv
  | .em .., s, hv => xPre_ret _ s hv
  | .lst .., s, hv => xPre_ret _ s hv
  | .two .., s, hv => xPre_ret _ s hv
  | .stab .., s, hv => xPre_ret _ s hv
  | .abs p, _, _ => p.elim
  | .s .., s, hv => xPre_ret _ s hv
  | .chk .., s, hv => xPre_ret _ s hv
  | .t .., s, hv => xPre_ret _ s hv
  | .f .., s, hv => xPre_ret _ s hv
  | .br .., s, hv => xPre_ret _ s hv
  | .opt .., s, hv => xPre_ret _ s hv
  | .byt .., s, hv => xPre_ret _ s hv
  | .call .., s, hv => xPre_ret _ s hv
  | .loop1 .., s, hv => xPre_ret _ s hv
  | .loop2 .., s, hv => xPre_ret _ s hv
  | .loopE .., s, hv => xPre_ret _ s hv
  | .cut .., s, hv => xPre_ret _ s hv
  | .out .., s, hv => xPre_ret _ s hv
theorem xBeg_sound {cx : Cx} {E : Env} {a : Act} {w : World} {K : AS → Hn P → Prop} {h : Hn P} {s : AS} (hs : SR cx E s a w) (hv : xBeg h s K) : ∃ s2 h2, K s2 h2 ∧ SR cx E s2 a w ∧ Mut s s2 E E w w ∧ s2.us = s.us :=
  Hn.go_elim hv (fun h' hv => ⟨s, h', hv, hs, Mut.refl s E w, rfl⟩) fun h' hv => xPre_sound h' s hs hv

theorem xL_sound {cx : Cx} {T : TT} {R : XC P} {F : Fence} {n kb : Nat} (hF : FOK F) (hT : T.ok P) (hR : XCok R) {all : List Oper} {Q : Exit → Act → World → Prop} {K : AS → Hn P → Prop} : ∀ (l : List Oper) (i : Nat) (s : AS) (h : Hn P) (E : Env) (a : Act) (w : World), SR cx E s a w → (∀ k ∈ s.us, k < i) → xL T R cx.nt kb all i l s h K →
    (∀ s' h' E' a' w', K s' h' → SR cx E' s' a' w' → Stp E E' w w' → Mut s s' E E' w w' → (∀ k ∈ s'.us, k < i + l.length) → Q .normal a' w') → wpListIn F n P all.toArray Q l a w
  | [], i, s, h, E, a, w, hs, hus, hv, hQ => hQ s h E a w hv hs (Stp.refl E w) (Mut.refl s E w) (by simpa using hus)
  | o :: r, i, s0, h0, E, a, w, hs0, hus0, hv, hQ => by
    obtain ⟨hd, hv⟩ := litP_iff.1 hv
    obtain ⟨s, h, hv, hs, hmut0, hus1⟩ := xBeg_sound hs0 hv
    have hus : ∀ k ∈ s.us, k < i := by rw [hus1]; exact hus0
    have hlen : i + (o :: r).length = i + 1 + r.length := by simp only [List.length_cons]; omega
    rw [hlen] at hQ
    have hi : i ∉ s.us := fun hh => Nat.lt_irrefl _ (hus i hh)
    have hus' : ∀ k ∈ i :: s.us, k < i + 1 := fun k hk => by
      rcases List.mem_cons.1 hk with rfl | hk
      · omega
      · have := hus k hk; omega
    have next : ∀ (s1 : AS) (h1 : Hn P) (E1 : Env) (a1 : Act) (w1 : World), SR cx E1 s1 a1 w1 → Stp E E1 w w1 → Mut s s1 E E1 w w1 → (∀ k ∈ s1.us, k < i + 1) → xL T R cx.nt kb all (i + 1) r s1 h1 K → wpListIn F n P all.toArray Q r a1 w1 := fun s1 h1 E1 a1 w1 hs1 hst hmut hu1 hv1 =>
      xL_sound hF hT hR r (i + 1) s1 h1 E1 a1 w1 hs1 hu1 hv1 fun s' h' E' a' w' hK hs' hst' hmut' hu' => hQ s' h' E' a' w' hK hs' (hst.trans hst') ((hmut0.trans hmut (Nat.le_refl _)).trans hmut' hst.size) hu'
    unfold xL.xLo at hv
    unfold wpListIn
    cases hg : o.guard with
    | none =>
      rw [hg] at hv
      simp only [Region.wanted, hg, if_true]
      exact vcO_sound hF hT hs hus hd (xO_sound (G := fun s' => ∃ h', xL T R cx.nt kb all (i + 1) r s' h' K) hR hv fun s' h' hx => ⟨h', hx⟩) fun s' E' a' w' ⟨h', hK⟩ hs' hst hmut hu' => next s' h' E' a' w' hs' hst hmut hu' hK
    | some jw =>
      obtain ⟨j, want⟩ := jw
      rw [hg] at hv
      dsimp only at hv
      split at hv
      case h_2 => exact hv.elim
      case h_1 t ht =>
      split at hv
      case h_3 => cases hv
      case h_2 hb =>
        have hy := yielded_un hs ht hb
        simp only [Region.wanted, hg, hy]
        rw [if_neg (by simp)]
        exact ⟨fun f _ => hF.fn f, next _ h E _ w (putT_sound (s := { s with us := i :: s.us }) (hs.us i) hd (v := some (.tup [])) rd_undef) (Stp.refl E w) ⟨fun _ h => h, fun _ _ _ => rfl, fun _ _ h => h⟩ hus' hv⟩
      case h_1 b hb =>
      have hy := yielded_of hs ht hb
      simp only [Region.wanted, hg, hy]
      have run : ∀ c h, b = c → c = want → xO T R cx.nt kb i o { s with tm := s.tm.set t (some (.v (.bool c))) } h (fun s' h' => xL T R cx.nt kb all (i + 1) r s' h' K) → (if (some b == some want) = true then o.wpIn F n P a w (wpListIn F n P all.toArray Q r) Q else (∀ f, o.about P w a.eval = some f → F.fn f) ∧ wpListIn F n P all.toArray Q r (a.put o.dst undef) w) := fun c h hbc hcw hv => by
        rw [if_pos (by rw [hbc, hcw]; simp)]
        exact vcO_sound hF hT (hs.know hb hbc) hus hd (xO_sound (G := fun s' => ∃ h', xL T R cx.nt kb all (i + 1) r s' h' K) hR hv fun s' h' hx => ⟨h', hx⟩) fun s' E' a' w' ⟨h', hK⟩ hs' hst hmut hu' => next s' h' E' a' w' hs' hst ⟨hmut.own, hmut.heap, hmut.old⟩ hu' hK
      have skip : ∀ c h, b = c → c ≠ want → xL T R cx.nt kb all (i + 1) r { s with tm := putT (s.tm.set t (some (.v (.bool c)))) o.dst (some (.tup [])), us := i :: s.us } h K → (if (some b == some want) = true then o.wpIn F n P a w (wpListIn F n P all.toArray Q r) Q else (∀ f, o.about P w a.eval = some f → F.fn f) ∧ wpListIn F n P all.toArray Q r (a.put o.dst undef) w) := fun c h hbc hcw hv => by
        rw [if_neg (by rw [hbc]; simpa using hcw)]
        exact ⟨fun f _ => hF.fn f, next _ h E _ w (putT_sound (s := { s with tm := s.tm.set t (some (.v (.bool c))), us := i :: s.us }) ((hs.know hb hbc).us i) hd (v := some (.tup [])) rd_undef) (Stp.refl E w) ⟨fun _ h => h, fun _ _ _ => rfl, fun _ _ h => h⟩ hus' hv⟩
      cases b with
      | true =>
        refine Hn.go_elim hv (fun h1 hv => ?_) fun h1 hv => ?_
        · have hv := (litBr_iff.1 hv).1 rfl
          cases want with
          | true => exact run true h1 rfl rfl hv
          | false => exact skip true h1 rfl (by simp) hv
        · split at hv
          · obtain ⟨_, hv⟩ := hv
            cases want with
            | true => exact run true _ rfl rfl hv
            | false => exact skip true _ rfl (by simp) hv
          · rename_i b' p h2
            obtain ⟨e, _⟩ := hv; rw [p] at e; cases e
          · rename_i b' ht hf
            obtain ⟨e, hv, _⟩ := hv
            have hv := hv e.symm
            cases want with
            | true => exact run true _ rfl rfl hv
            | false => exact skip true _ rfl (by simp) hv
          · cases hv
      | false =>
        refine Hn.go_elim hv (fun h1 hv => ?_) fun h1 hv => ?_
        · have hv := (litBr_iff.1 hv).2 rfl
          cases want with
          | true => exact skip false h1 rfl (by simp) hv
          | false => exact run false h1 rfl rfl hv
        · split at hv
          · rename_i b' p h2
            obtain ⟨e, _⟩ := hv; rw [p] at e; cases e
          · obtain ⟨_, hv⟩ := hv
            cases want with
            | true => exact skip false _ rfl (by simp) hv
            | false => exact run false _ rfl rfl hv
          · rename_i b' ht hf
            obtain ⟨e, _, hv⟩ := hv
            have hv := hv e.symm
            cases want with
            | true => exact skip false _ rfl (by simp) hv
            | false => exact run false _ rfl rfl hv
          · cases hv

/-- What follows a loop over a function. -/
def contX (K : AX → AS → Hn P → Prop) (s : AS) (h : Hn P) : Option Code → Prop
  | none => K .normal s h
  | some .ret => K .ret s h
  | some (.exit id) => K (.exit id) s h
  | _ => False
/-- A loop whose rounds are carried out one by one. -/
def xUnr (R : XC P) (rd : Bool) (nt xn kb : Nat) (c : Code) : Nat → AS → Hn P → (AX → AS → Hn P → Prop) → Prop
  | 0, _, _, _ => Need 8 ()
  | m + 1, s, h, K => R rd nt xn kb c s h fun e s' h' => match e with
    | .normal => xUnr R rd nt xn kb c m s' h' K
    | e => K e s' h'
theorem xUnr_sound {R : XC P} (hR : XCok R) {rd : Bool} {nt xn kb : Nat} {c : Code} {K : AX → AS → Hn P → Prop} : ∀ (m : Nat) (s : AS) (h : Hn P), xUnr R rd nt xn kb c m s h K → AWPr P rd nt xn c m s fun e s' => ∃ h', K e s' h'
  | 0, s, h, hv => by cases hv
  | m + 1, s, h, hv => AWPr.step ((hR _ _ _ _ _ _ _ _ hv).ex fun e s' h' hv => by
    cases e with
    | normal => exact xUnr_sound hR m s' h' hv
    | exit id => exact ⟨h', hv⟩
    | ret => exact ⟨h', hv⟩)
def isNilL {α : Type} : List α → Bool
  | [] => true
  | _ => false
/-- A state is told anew, run with hints. -/
def xCut (s : AS) (xn : Nat) (d : CutS) (X : Prop) : Prop := tmE s (κE d.es) (γE d.es) d.tm ∧ esE s (κE d.es) (γE d.es) d.es ∧ litP (d.ok xn && isNilL s.us) X
theorem xCut_sound {s : AS} {xn : Nat} {d : CutS} {X : Prop} (h : xCut s xn d X) (hr : rowsOk d) : CutE s xn d ∧ X := by
  obtain ⟨h1, h2, h3⟩ := h
  obtain ⟨h3, h4⟩ := litP_iff.1 h3
  rw [Bool.and_eq_true] at h3
  refine ⟨⟨h1, h2, h3.1, hr, ?_⟩, h4⟩
  cases hu : s.us with
  | nil => rfl
  | cons x r => rw [hu] at h3; cases h3.2

/-- A loop from the head of a round on; E: its first round by itself. -/
def xLp (R : XC P) (m : Nat) (rd : Bool) (nt xn kb : Nat) (c : Code) (s : AS) (h : Hn P) (K : AX → AS → Hn P → Prop) (E : AS → Hn P → Prop) : Prop :=
  h.goL (fun h' => xUnr R rd nt xn kb c m s h' K) fun h' => xNil h' s fun s h' => match h' with
    | .loop1 rd' nt' xn' c' d _ e1 s1 _ h2 => (rd, nt, xn) = (rd', nt', xn') ∧ c = c' ∧ xCut s xn d (K e1 s1 h2)
    | .loop2 rd' nt' xn' c' d _ e1 s1 e2 s2 _ h1 h2 => (rd, nt, xn) = (rd', nt', xn') ∧ c = c' ∧ xCut s xn d (K e1 s1 h1 ∧ K e2 s2 h2)
    | .loopE rd' nt' xn' c' d _ es _ hs => (rd, nt, xn) = (rd', nt', xn') ∧ c = c' ∧ xCut s xn d (endsP es fun i x => K (nthE es i).e ((nthE es i).S x).st (hs i x))
    | .two h1 _ => E s h1 ∧ True
    | h' => Need 12 (((rd, nt, xn), (c, s)), h')
theorem xLp_sound {R : XC P} (hR : XCok R) {m : Nat} {rd : Bool} {nt xn kb : Nat} {c : Code} {s : AS} {h : Hn P} {K : AX → AS → Hn P → Prop} {E : AS → Hn P → Prop} (hE : ∀ s h, E s h → AWPl P rd nt xn c s fun e s' => ∃ h', K e s' h') (hv : xLp R m rd nt xn kb c s h K E) : AWPl P rd nt xn c s fun e s' => ∃ h', K e s' h' := by
  refine Hn.goL_elim hv (fun h1 hv => ?_) fun h1 hv => ?_
  · exact AWPl.rounds (xUnr_sound hR m s h1 hv)
  · obtain ⟨s2, h2', hv, hret⟩ := xNil_ret _ _ hv
    refine AWPl.ret hret ?_
    split at hv
    · rename_i rd' nt' xn' c' d rows e1 s1 hl h2
      obtain ⟨he, rfl, hv⟩ := hv
      cases he
      obtain ⟨hc, hv⟩ := xCut_sound hv rows
      refine AWPl.cutStart hc (hl.mono fun e s' ⟨q1, q2⟩ => ?_)
      subst q1 q2; exact ⟨_, hv⟩
    · rename_i rd' nt' xn' c' d rows e1 s1 e2 s2 hl h1' h2
      obtain ⟨he, rfl, hv⟩ := hv
      cases he
      obtain ⟨hc, hv1, hv2⟩ := xCut_sound hv rows
      refine AWPl.cutStart hc (hl.mono fun e s' hq => ?_)
      rcases hq with ⟨q1, q2⟩ | ⟨q1, q2⟩
      · subst q1 q2; exact ⟨_, hv1⟩
      · subst q1 q2; exact ⟨_, hv2⟩
    · rename_i rd' nt' xn' c' d rows es hl hs'
      obtain ⟨he, rfl, hv⟩ := hv
      cases he
      obtain ⟨hc, hv⟩ := xCut_sound hv rows
      exact AWPl.cutStart hc (hl.mono fun e s' hq => endsP_of (G := fun e s' => ∃ h', K e s' h') hv (fun i x hx => ⟨_, hx⟩) hq)
    · exact hE _ _ hv.1
    · cases hv
/-- Code, run with hints. -/
def xC (P : Program) (T : TT) : Nat → XC P
  | 0, _, _, _, _, _, _, _, _ => Need 8 ()
  | f + 1, rd, nt, xn, kb, code, s, h, K => bif h.isAbs then True else match code with
    | .skip => K .normal s h
    | .region _ ops d => bif d then litP (okPr (prOf ops.toList []) 0 ops.toList) (xBeg h s fun s h => xD T nt kb ops.toList (prOf ops.toList []) 0 ops.toList s [] h fun s' h' => forceN (s'.nx + 8 * ops.size) fun nx => K .normal { tm := s'.tm, hp := s'.hp, nx := nx, us := [] } h')
      else xL T (xC P T f) nt kb ops.toList 0 ops.toList s h fun s' h' => forceN (s'.nx + 8 * ops.size) fun nx => K .normal { tm := s'.tm, hp := s'.hp, nx := nx, us := [] } h'
    | .seq x y => xC P T f rd nt xn kb x s h fun e s' h' => match e with
      | .normal => xC P T f rd nt xn kb y s' h' K
      | e => K e s' h'
    | .cond c x y => match evO s c with
      | some (.v (.bool b)) => h.go (fun h' => litBr b (xC P T f rd nt xn kb x (knowS s c true) h' K) (xC P T f rd nt xn kb y (knowS s c false) h' K)) fun h' => match h' with
        | .t b' _ h2 => b = b' ∧ xC P T f rd nt xn kb x (knowS s c true) h2 K
        | .f b' _ h2 => b = b' ∧ xC P T f rd nt xn kb y (knowS s c false) h2 K
        | .br b' ht hf => b = b' ∧ (∀ p, xC P T f rd nt xn kb x (knowS s c true) (ht p) K) ∧ ∀ p, xC P T f rd nt xn kb y (knowS s c false) (hf p) K
        | _ => Need 9 b
      | _ => Need 10 c
    | .block id c => xC P T f rd nt xn kb c s h fun e s' h' => match e with
      | .exit id' => bif Nat.beq id' id then K .normal s' h' else K (.exit id') s' h'
      | e => K e s' h'
    | .exit id => K (.exit id) s h
    | .ret => K .ret s h
    | .rangeFunc g ps assign body => litP (!rd) (match evO s g with
      | some (.fn (.func f') fi ca) => xFn T (xC P T f) f' (fi ++ [.yl s.nx s.nx] ++ ca) (s.nx + 8) (s.nx + 8) (kb + 8 * (nt + 2)) (s.hp.set s.nx (some (s.nx, .l { st := .ready, pend := none, params := ps, assign := assign, body := body, nt := nt, tm := s.tm }))) h fun _ s' h' =>
        recP s' s.nx s.nx (fun r => !isBusy r.st) (fun r => { r with st := .exhausted }) fun r s2 => contX K { tm := s.tm, hp := s2.hp, nx := s2.nx, us := [] } h' r.pend
      | _ => Need 11 g)
    | .loop c => xLp (xC P T f) f rd nt xn kb c s h K fun s h1 => xC P T f rd nt xn kb c s h1 fun e s' h' => match e with
      | .normal => xLp (xC P T f) f rd nt xn kb c s' h' K fun s h' => Need 8 (s, h')
      | e => K e s' h'
    | _ => Need 13 h

theorem xC_sound {T : TT} (hT : T.ok P) (hfol : P.follows .mixedOrders = true) : ∀ f, XCok (xC P T f)
  | 0 => fun rd nt xn kb c s h K hv => by cases hv
  | f + 1 => fun rd nt xn kb code s h K hv => by
    have ih := xC_sound hT hfol f
    unfold xC at hv
    rw [Hn.isAbs_no, cond_false] at hv
    cases code with
    | skip => exact ⟨fun F n cx E a w Q hF hro hn hu hs hQ => wpIn_skip (hQ .normal s E a w ⟨h, hv⟩ hu hs ((Stp.refl E w).x _) (Mut.refl s E w))⟩
    | exit id => exact ⟨fun F n cx E a w Q hF hro hn hu hs hQ => wpIn_exit (hQ (.exit id) s E a w ⟨h, hv⟩ hu hs ((Stp.refl E w).x _) (Mut.refl s E w))⟩
    | ret => exact ⟨fun F n cx E a w Q hF hro hn hu hs hQ => wpIn_ret (hQ .ret s E a w ⟨h, hv⟩ hu hs ((Stp.refl E w).x _) (Mut.refl s E w))⟩
    | region id ops d =>
      cases d with
      | true =>
        obtain ⟨hpr, hv⟩ := litP_iff.1 hv
        refine ⟨fun F n cx E a w Q hF hro hn hu hs hQ => ?_⟩
        obtain ⟨s2, h2, hv, hs2, hmut, hus⟩ := xBeg_sound hs hv
        have hd := xD_sound _ _ _ _ _ hv
        have hu2 : s2.us = [] := by rw [hus]; exact hu
        refine (AWP.draw (rd := rd) (nt := nt) (kb := kb) (xn := xn) (id := id) (ops := ops) (K := fun e s' => ∃ h', K e s' h') hT hfol _ hpr ?_).run F n cx E a w Q hF hro hn hu2 hs2 fun e s' E' a' w' hK hu' hs' hst hmut' => hQ e s' E' a' w' hK hu' hs' hst (hmut.trans hmut' (Nat.le_refl _))
        exact vcD_mono _ _ _ _ hd fun s' ⟨h', hK⟩ => ⟨h', forceN_iff.1 hK⟩
      | false =>
        refine ⟨fun F n cx E a w Q hF hro hn hu hs hQ => ?_⟩
        subst hn
        refine wpIn_region_list (xL_sound (n := n) hF hT ih ops.toList 0 s h E a w hs (by rw [hu]; intro k hk; cases hk) hv fun s' h' E' a' w' hK hs' hst hmut hus => ?_)
        have hK := forceN_iff.1 hK
        exact hQ .normal _ E' a' w' ⟨h', hK⟩ rfl (hs'.fin (by simpa using hus)) (hst.x _) ⟨hmut.own, hmut.heap, hmut.old⟩
    | seq x y =>
      refine ⟨fun F n cx E a w Q hF hro hn hu hs hQ => ?_⟩
      refine wpIn_seq ((ih _ _ _ _ _ _ _ _ hv).run F n cx E a w _ hF hro hn hu hs fun e s' E' a' w' ⟨h', hK⟩ hu' hs' hst hmut => ?_)
      cases e with
      | normal => exact (ih _ _ _ _ _ _ _ _ hK).run F n cx E' a' w' Q hF hro hn hu' hs' fun e s2 E2 a2 w2 hK2 hu2 hs2 hst2 hmut2 => hQ e s2 E2 a2 w2 hK2 hu2 hs2 (hst.trans hst2) (hmut.trans hmut2 hst.size)
      | exit id => exact hQ (.exit id) s' E' a' w' ⟨h', hK⟩ hu' hs' hst hmut
      | ret => exact hQ .ret s' E' a' w' ⟨h', hK⟩ hu' hs' hst hmut
    | cond c x y =>
      dsimp only at hv
      split at hv
      case h_2 => cases hv
      case h_1 b hc =>
      have key : (b = true → ∃ h2, xC P T f rd nt xn kb x (knowS s c true) h2 K) ∧ (b = false → ∃ h2, xC P T f rd nt xn kb y (knowS s c false) h2 K) := by
        refine Hn.go_elim hv (fun h1 hv => ?_) fun h1 hv => ?_
        · exact ⟨fun hb => ⟨h1, (litBr_iff.1 hv).1 hb⟩, fun hb => ⟨h1, (litBr_iff.1 hv).2 hb⟩⟩
        · split at hv
          · rename_i b' p h2
            obtain ⟨e, hv⟩ := hv
            exact ⟨fun _ => ⟨_, hv⟩, fun hb => by rw [hb, p] at e; cases e⟩
          · rename_i b' p h2
            obtain ⟨e, hv⟩ := hv
            exact ⟨fun hb => (by rw [hb, p] at e; cases e), fun _ => ⟨_, hv⟩⟩
          · rename_i b' ht hf
            obtain ⟨e, hv1, hv2⟩ := hv
            exact ⟨fun hb => ⟨_, hv1 (e.symm.trans hb)⟩, fun hb => ⟨_, hv2 (e.symm.trans hb)⟩⟩
          · cases hv
      refine ⟨fun F n cx E a w Q hF hro hn hu hs hQ => ?_⟩
      have hr := hs.eval hc
      generalize huc : a.eval c = uc at hr
      cases hr
      refine wpIn_cond huc ?_
      cases b with
      | true =>
        obtain ⟨h2, hx⟩ := key.1 rfl
        exact (ih _ _ _ _ _ _ _ _ hx).run F n cx E a w Q hF hro hn (by rw [(know_us _ _ _).1]; exact hu) (hs.know' hc) fun e s2 E2 a2 w2 hK2 hu2 hs2 hst2 hmut2 => hQ e s2 E2 a2 w2 hK2 hu2 hs2 hst2 hmut2.know
      | false =>
        obtain ⟨h2, hx⟩ := key.2 rfl
        exact (ih _ _ _ _ _ _ _ _ hx).run F n cx E a w Q hF hro hn (by rw [(know_us _ _ _).1]; exact hu) (hs.know' hc) fun e s2 E2 a2 w2 hK2 hu2 hs2 hst2 hmut2 => hQ e s2 E2 a2 w2 hK2 hu2 hs2 hst2 hmut2.know
    | block id c =>
      refine ⟨fun F n cx E a w Q hF hro hn hu hs hQ => ?_⟩
      refine wpIn_block ((ih _ _ _ _ _ _ _ _ hv).run F n cx E a w _ hF hro hn hu hs fun e s' E' a' w' ⟨h', hK⟩ hu' hs' hst hmut => ?_)
      cases e with
      | normal => exact hQ .normal s' E' a' w' ⟨h', hK⟩ hu' hs' hst hmut
      | ret => exact hQ .ret s' E' a' w' ⟨h', hK⟩ hu' hs' hst hmut
      | exit id' =>
        simp only [AX.ex, Exit.inBlock]
        dsimp only at hK
        split
        · rename_i e; subst e; simp only [Nat.beq_refl, cond_true] at hK; exact hQ .normal s' E' a' w' ⟨h', hK⟩ hu' hs' hst hmut
        · rename_i e
          have : Nat.beq id' id = false := by
            cases hb : Nat.beq id' id with
            | false => rfl
            | true => exact absurd (Nat.eq_of_beq_eq_true hb) e
          rw [this] at hK; exact hQ (.exit id') s' E' a' w' ⟨h', hK⟩ hu' hs' hst hmut
    | rangeFunc g ps assign body =>
      obtain ⟨h0, h1⟩ := litP_iff.1 hv
      cases rd with
      | true => cases h0
      | false =>
        split at h1
        case h_2 => cases h1
        case h_1 f' fi ca hg =>
        obtain ⟨fn, hf, h1⟩ := optP_iff.1 h1
        obtain ⟨c, hb, h1⟩ := optP_iff.1 h1
        obtain ⟨hn, h1⟩ := litP_iff.1 h1
        refine AWP.range hT hg ⟨s.nx, fn, c, fn.results.toList, hf, hb, rfl, by simpa using hn, ?_⟩
        refine (ih _ _ _ _ _ _ _ _ h1).ex fun e s' h2 hv => ?_
        obtain ⟨he, hv⟩ := litP_iff.1 hv
        refine ⟨isEnd_iff he, vcRes_mono (xRes_vc hv) fun l ⟨_, hl⟩ => recP_mono hl fun r s2 hx => ?_⟩
        cases hp : r.pend with
        | none => rw [hp] at hx; exact ⟨_, hx⟩
        | some c =>
          rw [hp] at hx
          cases c with
          | ret => exact ⟨_, hx⟩
          | exit id => exact ⟨_, hx⟩
          | _ => exact hx.elim
    | loop c =>
      refine (xLp_sound ih (fun s h hv => AWPl.peel ((ih _ _ _ _ _ _ _ _ hv).mono fun e s' ⟨h', hv⟩ => ?_)) hv).awp
      cases e with
      | normal => exact xLp_sound ih (fun s h hv => by cases hv) hv
      | exit id => exact ⟨h', hv⟩
      | ret => exact ⟨h', hv⟩
    | _ => cases hv
end
end Go.Vx

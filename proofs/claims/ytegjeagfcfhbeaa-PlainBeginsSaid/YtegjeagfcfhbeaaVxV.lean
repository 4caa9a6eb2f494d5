/- VxV: what must be shown of an operation, of a region, of code. No program. -/
import Derived.Test.YtegjeagfcfhbeaaVxQ
import Derived.Test.YtegjeagfcfhbeaaVxIc
import Derived.LoopNIn
import Derived.RangeFuncCalls
namespace Go.Vx
set_option linter.unusedVariables false
set_option linter.unusedSimpArgs false
open Go.RowKit Go.Bw

/-- What an operation comes to. nm, ky: the names, and the places, of what it makes. -/
def evConv (T : TT) (s : AS) (nm ky : Nat) (src dst : TypeId) (x : Operand) : Ev :=
  match T.get src, T.get dst with
  | some ⟨.slice _, _, _, _, _⟩, some ⟨.slice _, _, _, _, _⟩ => evS2S T s src dst x
  | some ⟨.slice _, _, _, _, _⟩, _ => evB2S T s src dst x
  | _, some ⟨.slice _, _, _, _, _⟩ => evS2B T s nm ky src dst x
  | _, _ => evConvN T s src dst x
def isZ (T : TT) (ts : Array TypeId) : Bool := match ts.toList with
  | [_, tx] => match T.get tx with
    | some ⟨.int _, _, _, _, _⟩ => true
    | _ => false
  | _ => false
def evApp (T : TT) (s : AS) (nm ky : Nat) (c : Call) : Ev := bif isZ T c.argTypes then evAppZ T s nm ky c.argTypes c.args else evAppend T s nm ky c.argTypes c.args
def evCall (T : TT) (s : AS) (nm ky : Nat) (c : Call) : Ev :=
  match c.callee with
  | .builtin .len => evLen T s c.argTypes c.args
  | .builtin .append => evApp T s nm ky c
  | .builtin .cap => evCap T s c.argTypes c.args
  | .builtin .copy => evCopy T s c.argTypes c.args
  | .builtin .min => evMin s false c.args
  | .builtin .max => evMin s true c.args
  | _ => .stuck
def ev (T : TT) (s : AS) (nm ky : Nat) (o : Oper) : Ev :=
  match o.op with
  | .move x => evMove s x
  | .assign x => evMove s x
  | .pick c x y => evPick s c x y
  | .alloc t => evAlloc T nm ky t
  | .box t x => evBox s nm ky t x
  | .build t ps => evBuild T s t ps
  | .buildSlice t n ps => evBuildSlice T s nm ky t n ps
  | .load t x => evLoad T s t x
  | .store t x y => evStore T s t x y
  | .binOp op t x y _ => evBin T s op t x y
  | .unOp op _ x => evUn s op x
  | .convert src dst x => evConv T s nm ky src dst x
  | .makeInterface t x => evIface T s t x
  | .makeFunc f fi ca => evFunc s f fi ca
  | .makeSlice t l c => evMake T s nm ky t l c
  | .slice t x lo hi mx => evSlice T s t x lo hi mx
  | .fieldAddr t x f => evFieldAddr T s t x f
  | .field t x f => evField T s t x f
  | .indexAddr t x ix => evIndexAddr T s t x ix
  | .index t x ix => evIndex T s t x ix
  | .extract x n => evExtract s x n
  | .typeAssert x _ t ok => evTA T s x t ok
  | .call c => evCall T s nm ky c
  | .nilCheck x => evNilC s x
  | _ => .stuck


/-- A test that must hold. -/
def chkP (b : Bool) (X : Prop) : Prop := match b with
  | true => X
  | false => False
/-- Something that must be there. -/
def optP {α : Type} (o : Option α) (K : α → Prop) : Prop := match o with
  | some x => K x
  | none => False
/-- A test that is made. -/
def brP (b : Bool) (X Y : Prop) : Prop := match b with
  | true => X
  | false => Y
/-- Cells that are bytes. -/
structure bytP (cs : List D) (K : List UInt8 → Prop) : Prop where
  h : ∃ bs, cs = bs.map dB ∧ K bs
theorem chkP_iff {b : Bool} {X : Prop} : chkP b X ↔ b = true ∧ X := by cases b <;> simp [chkP]
theorem optP_iff {α : Type} {o : Option α} {K : α → Prop} : optP o K ↔ ∃ x, o = some x ∧ K x := by cases o <;> simp [optP]
theorem brP_iff {b : Bool} {X Y : Prop} : brP b X Y ↔ (b = true → X) ∧ (b = false → Y) := by cases b <;> simp [brP]

/-- What must be shown of what an operation comes to. -/
def Ev.vc : Ev → (Option D → Up → Prop) → Prop
  | .ok v up, K => K v up
  | .cond b k, K => chkP b (k.vc K)
  | .opt o k, K => optP o fun d => (k d).vc K
  | .bytes cs k, K => bytP cs fun bs => (k bs).vc K
  | .list cs k, K => (k cs).vc K
  | .stuck, _ => False

theorem Ev.vc_run : ∀ {e : Ev} {K : Option D → Up → Prop}, e.vc K → ∃ v up, e.run v up ∧ K v up
  | .ok v up, _, h => ⟨v, up, ⟨rfl, rfl⟩, h⟩
  | .cond b k, _, h => let ⟨hb, h⟩ := chkP_iff.1 h; let ⟨v, up, h1, h2⟩ := Ev.vc_run h; ⟨v, up, ⟨hb, h1⟩, h2⟩
  | .opt o k, _, h => let ⟨d, hd, h⟩ := optP_iff.1 h; let ⟨v, up, h1, h2⟩ := Ev.vc_run h; ⟨v, up, ⟨d, hd, h1⟩, h2⟩
  | .list cs k, _, h => let ⟨v, up, h1, h2⟩ := Ev.vc_run (e := k cs) h; ⟨v, up, h1, h2⟩
  | .bytes cs k, _, ⟨bs, hb, h⟩ => let ⟨v, up, h1, h2⟩ := Ev.vc_run h; ⟨v, up, ⟨bs, hb, h1⟩, h2⟩
  | .stuck, _, h => h.elim

/-- The function that an operation calls, and its arguments. -/
def callOf (s : AS) (o : Oper) : Option (FuncId × List D) :=
  match o.op with
  | .call c => match c.callee with
    | .value x => match evO s x, evList s c.args.toList with
      | some (.fn (.func f) fi ca), some ds => some (f, fi ++ ds ++ ca)
      | _, _ => none
    | _ => none
  | _ => none

def nodupB : List Nat → Bool
  | [] => true
  | k :: r => !(r.any fun x => Nat.beq x k) && nodupB r
theorem nodupB_iff : ∀ {l : List Nat}, nodupB l = true → l.Nodup
  | [], _ => List.nodup_nil
  | k :: r, h => by
    simp only [nodupB, Bool.and_eq_true, Bool.not_eq_true'] at h
    refine List.nodup_cons.2 ⟨fun hm => ?_, nodupB_iff h.2⟩
    have := List.any_eq_false.1 h.1 k hm
    simp at this
/-- A call by a contract. -/
structure callP (P : Program) (s : AS) (ds : List D) (f : FuncId) (nm ky : Nat) (K : Option D → Up → Prop) : Prop where
  h : ∃ al fp q hin r bs, toDL s al fp ds = some (true, q) ∧ hinOf s fp fp = some (true, hin) ∧ CallOk al P f q hin r bs ∧ (nodupB fp && Nat.ble bs.length (fp.length + 8)) = true ∧ K (some (resN (κOf fp ky) (γOf s fp nm) bs r)) (adoptUp (κOf fp ky) (γOf s fp nm) 0 bs)

/-- What must be shown of an operation. -/
def vcOp (P : Program) (T : TT) (s : AS) (nm ky : Nat) (o : Oper) (K : Option D → Up → Prop) : Prop :=
  match callOf s o with
  | some p => callP P s p.2 p.1 nm ky K
  | none => (ev T s nm ky o).vc K

/-- A fence that lets all pass. -/
structure FOK (F : Fence) : Prop where
  fn : ∀ f, F.fn f
  dep : F.depth = none
  call : ∀ {n : Nat} {P : Program} {f : FuncId} {args : Array Value} {w : World} {R : Ending → World → Prop}, Calls P f args w R → CallsIn F n P f args w R
theorem FOK.wide : FOK Fence.wide := ⟨fun _ => trivial, rfl, fun h => callsIn_wide.2 h⟩
theorem FOK.inRound {F : Fence} (h : FOK F) (l : Nat) : FOK (F.inRound l) := ⟨h.fn, h.dep, fun hc => CallsIn.inRound l (h.call hc)⟩

theorem nodup_inj {l : List Nat} (h : l.Nodup) {i j x : Nat} (h1 : l[i]? = some x) (h2 : l[j]? = some x) : i = j := by
  obtain ⟨a1, b1⟩ := List.getElem?_eq_some_iff.1 h1
  obtain ⟨a2, b2⟩ := List.getElem?_eq_some_iff.1 h2
  have hp := List.pairwise_iff_getElem.1 h
  rcases Nat.lt_trichotomy i j with hlt | e | hlt
  · exact absurd (b1.trans b2.symm) (hp i j a1 a2 hlt)
  · exact e
  · exact absurd (b2.trans b1.symm) (hp j i a2 a1 hlt)
section
variable {P : Program} {cx : Cx} {E : Env} {s : AS} {a : Act} {w : World} {i : Nat} {o : Oper} {T : TT} {F : Fence} {n : Nat}

theorem ev_sound (hT : T.ok P) (h : SR cx E s a w) (hi : i ∉ s.us) {nm ky : Nat} (hg : s.nx + 8 * i ≤ nm ∧ nm < s.nx + 8 * i + 8) {v : Option D} {up : Up} (he : (ev T s nm ky o).run v up) : Post P cx E s a w i o v up := by
  unfold ev at he
  split at he
  case h_1 ho => exact move_sound h (.inl ho) he
  case h_2 ho => exact move_sound h (.inr ho) he
  case h_3 ho => exact pick_sound h ho he
  case h_4 ho => exact alloc_sound hT h hi hg ho he
  case h_5 ho => exact box_sound h hi hg ho he
  case h_6 ho => exact build_sound hT h ho he
  case h_7 ho => exact buildSlice_sound hT h hi hg ho he
  case h_8 ho => exact load_sound hT h ho he
  case h_9 ho => exact store_sound hT h ho he
  case h_10 ho => exact binOp_sound hT h ho he
  case h_11 ho => exact unOp_sound h ho he
  case h_12 ho =>
    unfold evConv at he
    split at he
    · exact s2s_sound hT h ho he
    · exact b2s_sound hT h ho he
    · exact s2b_sound hT h hi hg ho he
    · exact convN_sound hT h ho he
  case h_13 ho => exact iface_sound hT h ho he
  case h_14 ho => exact func_sound h ho he
  case h_15 ho => exact make_sound hT h hi hg ho he
  case h_16 ho => exact slice_sound hT h ho he
  case h_17 ho => exact fieldAddr_sound hT h ho he
  case h_18 ho => exact field_sound hT h ho he
  case h_19 ho => exact indexAddr_sound hT h ho he
  case h_20 ho => exact index_sound hT h ho he
  case h_21 ho => exact extract_sound h ho he
  case h_22 ho => exact ta_sound hT h ho he
  case h_23 c ho =>
    unfold evCall at he
    split at he
    case h_1 hc => exact len_sound hT h ho hc he
    case h_2 hc =>
      unfold evApp at he
      cases hz : isZ T c.argTypes with
      | true => rw [hz] at he; exact appz_sound hT h hi hg ho hc he
      | false => rw [hz] at he; exact append_sound hT h hi hg ho hc he
    case h_3 hc => exact cap_sound hT h ho hc he
    case h_4 hc => exact copy_sound hT h ho hc he
    case h_5 hc => exact min_sound h ho (mx := false) hc he
    case h_6 hc => exact min_sound h ho (mx := true) hc he
    case h_7 => exact he.elim
  case h_24 ho => exact nilC_sound h ho he
  case h_25 => exact he.elim

theorem callFunc_run {f : FuncId} (hf : FnOk P f) (args : Array Value) : (callFunc f args).run P w = .ok (.enter f args) w := by
  obtain ⟨fn, h1, h2, h3⟩ := hf
  unfold callFunc
  show (match P.funcs[f]? with | none => stuck _ | some fn => _).run P w = _
  rw [h1]
  simp only [h2, h3, Bool.false_eq_true, if_false, Sem.run_ite, Sem.run_pure]

/-- The frame behind an operation. -/
def putT (tm : Tr D) (dst : Option Nat) (v : Option D) : Tr D :=
  match dst with
  | some t => tm.set t v
  | none => tm
def dstOk (nt : Nat) (o : Oper) : Bool := match o.dst with | some t => Nat.blt t nt && Tr.okK t | none => true

/-- What an operation leaves in its slot. -/
def RelV (E : Env) (w : World) (v : Option D) (u : Value) : Prop := match v with | some d => RD E w d u | none => u = undef

theorem putT_sound (h : SR cx E s a w) (ho : dstOk cx.nt o = true) {v : Option D} {u : Value} (hr : RelV E w v u) : SR cx E { s with tm := putT s.tm o.dst v } (a.put o.dst u) w := by
  cases hdst : o.dst with
  | none => exact h
  | some t =>
    unfold dstOk at ho
    rw [hdst] at ho
    rw [Bool.and_eq_true] at ho
    have : t < cx.nt := Nat.le_of_ble_eq_true ho.1
    cases v with
    | some d => exact h.put this hr
    | none => exact h.unput u

/-- An operation that is carried out. -/
theorem op_core (hF : FOK F) (hT : T.ok P) (h : SR cx E s a w) (hi : i ∉ s.us) {ky : Nat} {K : Option D → Up → Prop} (hv : vcOp P T s (s.nx + 8 * i) ky o K) {next : Act → World → Prop} {Q : Exit → Act → World → Prop}
    (hn : ∀ v up E' w' u, K v up → Stp E E' w w' → SR cx E' { s with hp := upH up s.hp, us := i :: s.us } a w' → Mut s { s with hp := upH up s.hp, us := i :: s.us } E E' w w' → RelV E' w' v u → next (a.put o.dst u) w') :
    o.wpIn F n P a w next Q := by
  refine ⟨fun f _ => hF.fn f, ?_⟩
  unfold vcOp at hv
  split at hv
  case h_1 p hp =>
    obtain ⟨al, fp, q, hin, r, bs, hq, hin', hcall, hlen, hK⟩ := hv
    rw [Bool.and_eq_true] at hlen
    obtain ⟨hnd, hlen⟩ := hlen
    unfold callOf at hp
    split at hp
    case h_2 => cases hp
    case h_1 c ho =>
    split at hp
    case h_2 => cases hp
    case h_1 x hc =>
    split at hp
    case h_2 => cases hp
    case h_1 f fi ca ds hx hds =>
    cases hp
    dsimp only at hq hcall
    have hrx := h.eval hx
    obtain ⟨hl1, hl2⟩ := list_sound h _ _ hds
    generalize hux : a.eval x = ux at hrx
    cases hrx with
    | fn _ _ _ us vs hu1 hu2 hu3 hu4 =>
    have hargs : (us ++ c.args.toList.map a.eval ++ vs).length = (fi ++ ds ++ ca).length ∧ ∀ (j : Nat) d u, (fi ++ ds ++ ca)[j]? = some d → (us ++ c.args.toList.map a.eval ++ vs)[j]? = some u → RD E w d u := by
      have app : ∀ {l1 l2 : List D} {m1 m2 : List Value}, m1.length = l1.length → m2.length = l2.length → (∀ (j : Nat) d u, l1[j]? = some d → m1[j]? = some u → RD E w d u) → (∀ (j : Nat) d u, l2[j]? = some d → m2[j]? = some u → RD E w d u) →
          (m1 ++ m2).length = (l1 ++ l2).length ∧ ∀ (j : Nat) d u, (l1 ++ l2)[j]? = some d → (m1 ++ m2)[j]? = some u → RD E w d u := by
        intro l1 l2 m1 m2 e1 e2 r1 r2
        refine ⟨by simp [e1, e2], fun j d u hd hu => ?_⟩
        by_cases hj : j < l1.length
        · rw [List.getElem?_append_left hj] at hd
          rw [List.getElem?_append_left (by omega)] at hu
          exact r1 j d u hd hu
        · rw [List.getElem?_append_right (by omega)] at hd
          rw [List.getElem?_append_right (by omega), e1] at hu
          exact r2 _ d u hd hu
      obtain ⟨q1, q2⟩ := app hu1 hl1 hu3 hl2
      exact app q1 hu2 q2 hu4
    obtain ⟨t1, t2⟩ := toDL_get _ hq rfl
    obtain ⟨i1, i2, i3⟩ := hin_sound h (al := al) fp 0 (fun j k hj => by rw [Nat.zero_add]; exact hj) hin' rfl
    dsimp only at i1
    have hm := hcall.len
    have p1 : ∀ x, (al = true ∧ E.own x) → x < w.heap.size := fun x hx => h.lt x hx.2
    have p2 : ∀ (j : Nat) b, hin[j]? = some b → HB (envR (fun b => al = true ∧ E.own b) (locφ s E fp) hin.length) w j b := fun j b hj => by
      have := i3 j b hj
      rw [Nat.zero_add] at this
      rw [i1]; exact this
    have p3 : ∀ i j x, i < hin.length → j < hin.length → i ≠ j → locφ s E fp i = some x → locφ s E fp j ≠ some x := fun j1 j2 x h1 h2 hne hx1 hx2 => by
      obtain ⟨k1, g1, o1, e1, e2, e3⟩ := locφ_kept hx1
      obtain ⟨k2, g2, o2, e4, e5, e6⟩ := locφ_kept hx2
      have hkk : k1 ≠ k2 := fun e => hne (by
        subst e
        exact nodup_inj (nodupB_iff hnd) e1 e4)
      exact h.inj k1 k2 g1 g2 o1 o2 hkk e2 e5 x e3 e6
    have p4 : (us ++ c.args.toList.map a.eval ++ vs).length = q.length := by rw [hargs.1, t1]
    have p5 : ∀ (j : Nat) d u, q[j]? = some d → (us ++ c.args.toList.map a.eval ++ vs)[j]? = some u → RD (envR (fun b => al = true ∧ E.own b) (locφ s E fp) hin.length) w d u := fun j d u hd hu => by
      have hlt : j < (fi ++ ds ++ ca).length := by rw [← t1]; exact (List.getElem?_eq_some_iff.1 hd).1
      obtain ⟨p, a1, a2, a3⟩ := t2 j _ (List.getElem?_eq_getElem hlt)
      rw [hd] at a3; cases a3
      have hrd := hargs.2 j _ u (List.getElem?_eq_getElem hlt) hu
      rw [i1]
      exact toD_sound h hrd rfl rfl a1 a2
    have fin : ∀ u w', Gv (outO al (fun b => al = true ∧ E.own b) w) w hin.length (locφ s E fp) r bs u w' → next (a.put o.dst u) w' := fun u w' hgv => by
      rw [i1] at hgv
      have hm := hm
      rw [i1] at hm
      obtain ⟨E', s1, s2, s3, s4⟩ := h.adopt (ky := ky) hi rfl (nodupB_iff hnd) i2 hm (Nat.le_of_ble_eq_true hlen) (fun b hb ho => by
        unfold outO
        cases al with
        | false => rw [if_neg (by simp)]; exact hb
        | true => rw [if_pos rfl]; exact ⟨rfl, ho⟩) hgv
      exact hn _ _ E' w' u hK s2 s1 s4 s3
    have e1 : (us.toArray ++ c.args.map a.eval) ++ vs.toArray = (us ++ c.args.toList.map a.eval ++ vs).toArray := by apply Array.ext'; simp
    cases hcall with
    | fn hfok hspec =>
      have hsp := hspec.2 _ _ w _ p1 p2 p3 p4 p5
      have hrun : (o.semAt F.round a.eval).run P w = .ok (.enter f (us ++ c.args.toList.map a.eval ++ vs).toArray) w := by
        rw [Oper.semAt_eq _ _ _ (fun c' hc' => by rw [ho] at hc'; cases hc')]
        unfold execOp
        simp only [ho, resolve, hc, Sem.run_bind, Deferred.ofValue, hux, Sem.run_pure, Result.andThen_ok, invoke, e1, callFunc_run hfok]
      rw [hrun]
      refine ⟨fun hd => (by rw [hF.dep] at hd; cases hd), (hF.call hsp).mono ?_⟩
      rintro e w' ⟨u, rfl, hgv⟩
      exact fin u w' hgv
    | ext hspec =>
      obtain ⟨u, w', hr, hgv⟩ := hspec.2 _ _ w _ p1 p2 p3 p4 p5
      have hrun : (o.semAt F.round a.eval).run P w = .ok (.value u) w' := by
        rw [Oper.semAt_eq _ _ _ (fun c' hc' => by rw [ho] at hc'; cases hc')]
        unfold execOp
        simp only [ho, resolve, hc, Sem.run_bind, Deferred.ofValue, hux, Sem.run_pure, Result.andThen_ok, invoke, e1, hr]
      rw [hrun]
      exact fin u w' hgv
  case h_2 hp =>
    obtain ⟨v, up, hrun, hK⟩ := Ev.vc_run hv
    obtain ⟨E', w', s1, s2, s4, s3⟩ := ev_sound hT h hi ⟨Nat.le_refl _, by omega⟩ hrun
    have hnd : ∀ c, o.op ≠ .defer c := fun c hc => by
      unfold ev at hrun; rw [hc] at hrun; exact hrun.elim
    rw [Oper.semAt_eq _ _ _ hnd]
    cases v with
    | some d =>
      obtain ⟨u, hu, hr⟩ := s3
      rw [hu]
      exact hn _ _ E' w' u hK s1 s2 s4 hr
    | none =>
      rw [s3]
      exact hn _ _ E' w' undef hK s1 s2 s4 rfl

theorem op_sound (hF : FOK F) (hT : T.ok P) (h : SR cx E s a w) (hi : i ∉ s.us) {ky : Nat} (hdst : dstOk cx.nt o = true) {K : Option D → Up → Prop} (hv : vcOp P T s (s.nx + 8 * i) ky o K) {next : Act → World → Prop} {Q : Exit → Act → World → Prop}
    (hn : ∀ v up E' a' w', K v up → SR cx E' { s with tm := putT s.tm o.dst v, hp := upH up s.hp, us := i :: s.us } a' w' → next a' w') : o.wpIn F n P a w next Q :=
  op_core hF hT h hi hv fun v up E' w' u hK _ s2 _ hr => hn v up E' _ w' hK (putT_sound (s := { s with hp := upH up s.hp, us := i :: s.us }) s2 hdst hr)

end
end Go.Vx

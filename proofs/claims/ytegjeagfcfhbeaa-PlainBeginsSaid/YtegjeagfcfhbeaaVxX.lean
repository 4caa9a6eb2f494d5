/- VxX: a region that draws its order is sound, in the abstract. No program. -/
import Derived.Test.YtegjeagfcfhbeaaVxW
namespace Go.Vx
set_option linter.unusedVariables false
set_option linter.unusedSimpArgs false
open Go.RowKit Go.Bw
section
variable {P : Program} {cx : Cx} {E : Env} {s : AS} {a : Act} {w : World} {i : Nat} {o : Oper} {T : TT} {F : Fence} {n : Nat}

theorem evO_us (tm : Tr D) (hp : Tr (Nat × Ob)) (nx : Nat) (u u' : List Nat) (x : Operand) : evO ⟨tm, hp, nx, u⟩ x = evO ⟨tm, hp, nx, u'⟩ x := by cases x <;> rfl
theorem evList_us (tm : Tr D) (hp : Tr (Nat × Ob)) (nx : Nat) (u u' : List Nat) : ∀ l, evList ⟨tm, hp, nx, u⟩ l = evList ⟨tm, hp, nx, u'⟩ l
  | [] => rfl
  | x :: r => by simp only [evList, evO_us tm hp nx u u', evList_us tm hp nx u u' r]
theorem evParts_us (tm : Tr D) (hp : Tr (Nat × Ob)) (nx : Nat) (u u' : List Nat) : ∀ l, evParts ⟨tm, hp, nx, u⟩ l = evParts ⟨tm, hp, nx, u'⟩ l
  | [] => rfl
  | (m, x) :: r => by simp only [evParts, evO_us tm hp nx u u', evParts_us tm hp nx u u' r]
theorem at_us (tm : Tr D) (hp : Tr (Nat × Ob)) (nx : Nat) (u u' : List Nat) (k : Nat) : AS.at ⟨tm, hp, nx, u⟩ k = AS.at ⟨tm, hp, nx, u'⟩ k := rfl
theorem evView_us (tm : Tr D) (hp : Tr (Nat × Ob)) (nx : Nat) (u u' : List Nat) (d : D) : evView ⟨tm, hp, nx, u⟩ d = evView ⟨tm, hp, nx, u'⟩ d := by cases d <;> rfl
theorem srcD_us (tm : Tr D) (hp : Tr (Nat × Ob)) (nx : Nat) (u u' : List Nat) (es : Nat) (dd : TypeDesc) (d : D) : srcD ⟨tm, hp, nx, u⟩ es dd d = srcD ⟨tm, hp, nx, u'⟩ es dd d := by
  unfold srcD; split <;> first | rfl | (simp only [at_us tm hp nx u u'])
theorem dstD_us (tm : Tr D) (hp : Tr (Nat × Ob)) (nx : Nat) (u u' : List Nat) (e : TypeId) (es : Nat) (d : D) : dstD ⟨tm, hp, nx, u⟩ e es d = dstD ⟨tm, hp, nx, u'⟩ e es d := by
  unfold dstD; split <;> first | rfl | (simp only [at_us tm hp nx u u'])
theorem bnd_us (tm : Tr D) (hp : Tr (Nat × Ob)) (nx : Nat) (u u' : List Nat) (x : Option Operand) : bnd ⟨tm, hp, nx, u⟩ x = bnd ⟨tm, hp, nx, u'⟩ x := by
  cases x with
  | none => rfl
  | some x => simp only [bnd, evO_us tm hp nx u u']
theorem toD0_us (tm : Tr D) (hp : Tr (Nat × Ob)) (nx : Nat) (u u' : List Nat) (fp : List Nat) (d : D) : toD0 ⟨tm, hp, nx, u⟩ fp d = toD0 ⟨tm, hp, nx, u'⟩ fp d := by cases d <;> rfl
theorem toDL0_us (tm : Tr D) (hp : Tr (Nat × Ob)) (nx : Nat) (u u' : List Nat) (fp : List Nat) : ∀ l, toDL0 ⟨tm, hp, nx, u⟩ fp l = toDL0 ⟨tm, hp, nx, u'⟩ fp l
  | [] => rfl
  | d :: r => by simp only [toDL0, toD0_us tm hp nx u u' fp d, toDL0_us tm hp nx u u' fp r]
theorem segN_us (tm : Tr D) (hp : Tr (Nat × Ob)) (nx : Nat) (u u' : List Nat) (fp : List Nat) (b : Blk) (off m : Nat) : segN ⟨tm, hp, nx, u⟩ fp b off m = segN ⟨tm, hp, nx, u'⟩ fp b off m := by
  unfold segN; rw [toDL0_us tm hp nx u u']
mutual
theorem toD_us (tm : Tr D) (hp : Tr (Nat × Ob)) (nx : Nat) (u u' : List Nat) (al : Bool) (fp : List Nat) : ∀ d, toD ⟨tm, hp, nx, u⟩ al fp d = toD ⟨tm, hp, nx, u'⟩ al fp d
  | .v _ => rfl
  | .sl .. => rfl
  | .ref .. => by simp only [toD, at_us tm hp nx u u', segN_us tm hp nx u u']
  | .ptr .. => rfl
  | .ep .. => rfl
  | .yl .. => rfl
  | .fn _ fi ca => by simp only [toD, toDL_us tm hp nx u u' al fp fi, toDL_us tm hp nx u u' al fp ca]
  | .agg cs => by simp only [toD, toDL_us tm hp nx u u' al fp cs]
  | .tup cs => by simp only [toD, toDL_us tm hp nx u u' al fp cs]
  | .ifc t x => by simp only [toD, toD_us tm hp nx u u' al fp x]
theorem toDL_us (tm : Tr D) (hp : Tr (Nat × Ob)) (nx : Nat) (u u' : List Nat) (al : Bool) (fp : List Nat) : ∀ l, toDL ⟨tm, hp, nx, u⟩ al fp l = toDL ⟨tm, hp, nx, u'⟩ al fp l
  | [] => rfl
  | d :: r => by simp only [toDL, toD_us tm hp nx u u' al fp d, toDL_us tm hp nx u u' al fp r]
end
theorem hinOf_us (tm : Tr D) (hp : Tr (Nat × Ob)) (nx : Nat) (u u' : List Nat) (fp : List Nat) : ∀ l, hinOf ⟨tm, hp, nx, u⟩ fp l = hinOf ⟨tm, hp, nx, u'⟩ fp l
  | [] => rfl
  | k :: r => by simp only [hinOf, at_us tm hp nx u u', hinOf_us tm hp nx u u' fp r, toDL_us tm hp nx u u']
theorem ev_us (tm : Tr D) (hp : Tr (Nat × Ob)) (nx : Nat) (u u' : List Nat) (nm ky : Nat) : ev T ⟨tm, hp, nx, u⟩ nm ky o = ev T ⟨tm, hp, nx, u'⟩ nm ky o := by
  unfold ev
  split <;> (try unfold evConv) <;> (try unfold evCall) <;> (try split) <;>
    simp only [evMove, evPick, evAlloc, evBox, evBuild, evBuildSlice, evLoad, evStore, evBin, evUn, evB2S, evS2B, evS2S, evConvN, evIface, evFunc, evMake, evSlice, evFieldAddr, evField, evIndexAddr, evIndex, evExtract, evLen, evApp, evAppZ, evCap, evCopy, evAppend, evMin, evTA, evNilC,
      evO_us tm hp nx u u', evList_us tm hp nx u u', evParts_us tm hp nx u u', at_us tm hp nx u u', evView_us tm hp nx u u', srcD_us tm hp nx u u', dstD_us tm hp nx u u', bnd_us tm hp nx u u']
theorem vcOp_us (u' : List Nat) {nm ky : Nat} {K : Option D → Up → Prop} (h : vcOp P T s nm ky o K) : vcOp P T { s with us := u' } nm ky o K := by
  obtain ⟨tm, hp, nx, u⟩ := s
  have e1 : callOf ⟨tm, hp, nx, u'⟩ o = callOf ⟨tm, hp, nx, u⟩ o := by
    unfold callOf
    split <;> (try rfl)
    split <;> (try rfl)
    simp only [evO_us tm hp nx u' u, evList_us tm hp nx u' u]
  unfold vcOp at h ⊢
  dsimp only
  rw [e1, ev_us tm hp nx u' u]
  split at h
  case h_1 p hp' =>
    obtain ⟨al, fp, q, hin, r, bs, h1, h2, h3⟩ := h.h
    exact ⟨al, fp, q, hin, r, bs, by rw [toDL_us tm hp nx u' u]; exact h1, by rw [hinOf_us tm hp nx u' u]; exact h2, h3⟩
  case h_2 hp' => exact h

/-- A load of one cell looks at no more than that cell. -/
theorem vcOp_ld {s s2 : AS} {nm ky : Nat} {o : Oper} {K : Option D → Up → Prop} {ty : TypeId} {t : Nat} {ti : TI} {k gp off g : Nat} {c : Option D} {b2 : Blk} (ho : o.op = .load ty (.tmp t)) (hti : T.get ty = some ti) (hrow : ti.desc.isRow = false)
    (h1 : ∀ d, s.tm.get t = some d → d = .ptr k gp off) (h2 : ∀ p : Nat × Blk, s.at k = some (p.1, p.2) → p.1 = g ∧ p.2.cells[off]? = c) (ht2 : s2.tm.get t = some (.ptr k gp off)) (hk2 : s2.at k = some (g, b2)) (hc2 : b2.cells[off]? = c) (h : vcOp P T s nm ky o K) : vcOp P T s2 nm ky o K := by
  have hn : ∀ S : AS, callOf S o = none := fun S => by unfold callOf; rw [ho]
  have he : ∀ S : AS, ev T S nm ky o = evLoad T S ty (.tmp t) := fun S => by unfold ev; rw [ho]
  unfold vcOp at h ⊢
  rw [hn] at h ⊢
  dsimp only at h ⊢
  rw [he] at h ⊢
  unfold evLoad at h ⊢
  rw [hti] at h ⊢
  have e2 : evO s2 (.tmp t) = some (.ptr k gp off) := ht2
  rw [e2]
  cases hd : evO s (.tmp t) with
  | none => rw [hd] at h; exact h.elim
  | some d =>
    rw [hd] at h
    have := h1 d hd
    subst this
    dsimp only [evView] at h ⊢
    rw [hk2]
    cases hp : s.at k with
    | none => rw [hp] at h; exact h.elim
    | some p =>
      rw [hp] at h
      obtain ⟨e3, e4⟩ := h2 p hp
      dsimp only at h ⊢
      rw [e3] at h
      unfold evLoadC at h ⊢
      rw [hrow] at h ⊢
      rw [cond_false, e4] at h
      rw [cond_false, hc2]
      exact h

theorem rd_undef {E : Env} {w : World} : RD E w (.tup []) undef := RD.tup [] [] rfl (by simp)
theorem yielded_un {cx : Cx} {E : Env} {s : AS} {a : Act} {w : World} (h : SR cx E s a w) {all : List Oper} {j t : Nat} (hj : (all[j]?).bind (·.dst) = some t) (ht : s.tm.get t = some (.tup [])) : yielded all.toArray a.tmps j = none := by
  obtain ⟨u, hu, hr⟩ := h.fr t _ ht
  cases hr
  unfold yielded
  have e1 : ((all.toArray[j]?).bind (·.dst)) = some t := by simpa using hj
  rw [e1]
  simp only [Option.bind_some, hu]
theorem vcD_dst {nt kb : Nat} {all : List Oper} {pr : List (List Nat)} {K : AS → Prop} : ∀ (l : List Oper) (i : Nat) (s : AS) (log : List Rec), vcD P T nt kb all pr i l s log K → ∀ o ∈ l, dstOk nt o = true
  | [], i, s, log, h, o, ho => by cases ho
  | o :: l, i, s, log, h, o', ho => by
    obtain ⟨hd, h⟩ := chkP_iff.1 h
    rcases List.mem_cons.1 ho with rfl | ho
    · exact hd
    cases hg : o.guard with
    | none =>
      rw [hg] at h
      obtain ⟨v, up, h1, h2⟩ := vcOp_ex h
      exact vcD_dst l _ _ _ h2 o' ho
    | some jw =>
      rw [hg] at h
      dsimp only at h
      split at h
      case h_2 => exact h.elim
      case h_1 t ht =>
      split at h
      case h_3 => exact h.elim
      case h_2 hb => exact vcD_dst l _ _ _ h o' ho
      case h_1 b hb =>
      obtain ⟨h1, h2⟩ := brP_iff.1 h
      obtain ⟨j, want⟩ := jw
      cases b <;> cases want
      · obtain ⟨v, up, _, h4⟩ := vcOp_ex (h2 rfl); exact vcD_dst l _ _ _ h4 o' ho
      · exact vcD_dst l _ _ _ (h2 rfl) o' ho
      · exact vcD_dst l _ _ _ (h1 rfl) o' ho
      · obtain ⟨v, up, _, h4⟩ := vcOp_ex (h1 rfl); exact vcD_dst l _ _ _ h4 o' ho

theorem aft_us (recs : List Rec) (s : AS) : ∀ π : List Nat, (aft recs s π).us = π.reverse ++ s.us ∧ (aft recs s π).nx = s.nx := by
  intro π
  induction π generalizing s with
  | nil => exact ⟨rfl, rfl⟩
  | cons i π ih =>
    obtain ⟨h1, h2⟩ := ih (s.eff i (recs.getD i rec0))
    refine ⟨?_, h2⟩
    show (aft recs (s.eff i (recs.getD i rec0)) π).us = _
    rw [h1]
    simp [AS.eff]

theorem fold_aft (recs : List Rec) (hok : recs.all recOk = true) (s : AS) : ∀ k, k ≤ recs.length → AEq ((recs.take k).foldl (fun S r => S.eff 0 r) s) (aft recs s (List.range k))
  | 0, _ => .refl s
  | k + 1, hk => by
    have ih := fold_aft recs hok s k (by omega)
    have hlt : k < recs.length := by omega
    rw [List.range_succ, aft_snoc, List.take_succ_eq_append_getElem hlt, List.foldl_append]
    have e : recs.getD k rec0 = recs[k] := by simp [hlt]
    rw [e]
    exact ih.eff 0 k _ (List.all_eq_true.1 hok _ (List.getElem_mem hlt))

theorem nodup_len : ∀ (N : Nat) (l : List Nat), l.Nodup → (∀ x ∈ l, x < N) → l.length ≤ N
  | 0, l, _, h => by
    cases l with
    | nil => exact Nat.le_refl _
    | cons x l => have := h x List.mem_cons_self; omega
  | N + 1, l, hn, h => by
    have ih := nodup_len N (l.erase N) (hn.erase N) fun x hx => by
      rw [hn.mem_erase_iff] at hx
      have := h x hx.2; omega
    by_cases hm : N ∈ l
    · rw [List.length_erase_of_mem hm] at ih; omega
    · rw [List.erase_of_not_mem hm] at ih; omega

/-- Two states that read alike: the one holds, so the other does. -/
theorem SR.alike {S S' : AS} (h : SR cx E S a w) (he : AEq S' S) {N : Nat} (hus : ∀ k ∈ S.us, k < N) : SR cx E (S'.fin N) a w := by
  have hat : ∀ k, (S'.fin N).gat k = S.gat k := he.hp
  have hob : ∀ {k g o}, (S'.fin N).gat k = some (g, o) → OB E w g o := fun {k g o} hk => h.ob (by rw [← hat]; exact hk)
  exact { fr := fun t d hd => h.fr t d (by rw [← he.tm]; exact hd), sz := h.sz, df := h.df, hp := fun k g b hk => hob (AS.at_iff.1 hk), lp := fun k g b hk => hob (AS.lat_iff.1 hk)
          inj := fun k k' g g' b b' hkk h1 h2 => h.inj k k' g g' b b' hkk (by rw [← hat]; exact h1) (by rw [← hat]; exact h2), lt := h.lt, low := fun x ⟨k, g, b, hk, hx⟩ => h.low x ⟨k, g, b, by rw [← hat]; exact hk, hx⟩, base := h.base, bel := h.bel, szB := h.szB
          nm := fun g hg => .inl (by
            show g < S'.nx + 8 * N
            rw [he.nx]
            rcases h.nm g hg with h1 | ⟨j, hj, h1⟩
            · omega
            · have := hus j hj; omega) }
theorem AEq.own {S S' : AS} (he : AEq S' S) {φ : Nat → Option Nat} {x N : Nat} (h : ownOf (S'.fin N) φ x) : ownOf S φ x := by
  obtain ⟨k, g, o, hk, hx⟩ := h
  refine ⟨k, g, o, ?_, hx⟩
  show S.hp.get k = _
  rw [← he.hp]; exact hk

/-- A region that draws its order: what was shown in the text's order holds in each. -/
theorem AWP.draw {rd : Bool} {nt kb xn : Nat} {id : Nat} {ops : Array Oper} {K : AX → AS → Prop} (hT : T.ok P) (hfol : P.follows .mixedOrders = true) (pr : List (List Nat)) (hpr : okPr pr 0 ops.toList = true)
    (h : vcD P T nt kb ops.toList pr 0 ops.toList s [] fun s' => K .normal (s'.fin ops.size)) : AWP P rd nt xn (.region id ops true) s K := by
  refine ⟨fun F n cx E0 a0 w0 Q hF hro hn hu hs hQ => ?_⟩
  subst hn
  obtain ⟨recs, hlen, hcf, hrok, ⟨s', hK, hAE⟩, hfacts⟩ := vcD_ex (vcD_dst ops.toList 0 s [] h) ops.toList 0 s s [] (.refl s) h
  rw [List.reverse_nil, List.nil_append] at hcf
  have hlen : recs.length = ops.size := by simpa using hlen
  have hspec := okPr_spec ops.toList 0 hpr
  have main : ∀ fuel listed (π : List Nat) a w E, fuel + π.length = ops.size → listed.size = ops.size → (∀ x, x < ops.size → (listed.getD x true = true ↔ x ∈ π)) → Ord pr recs π → (∀ x ∈ π, ∀ o, ops.toList[x]? = some o → ∀ e ∈ edgesOf o, e ∈ π) →
      SR cx E (aft recs s π) a w → Stp E0 E w0 w → Mut s (aft recs s π) E0 E w0 w → wpAnyIn F n P .any ops Q fuel listed a w := by
    intro fuel
    have fin : ∀ (π : List Nat) a w E, Ord pr recs π → (∀ x, x < ops.size → x ∈ π) → SR cx E (aft recs s π) a w → Stp E0 E w0 w → Mut s (aft recs s π) E0 E w0 w → Q .normal a w := by
      intro π a w E ho hall hsr hst hmut
      have e1 : AEq s' (aft recs s π) := by
        have e2 := fold_aft recs hrok s recs.length (Nat.le_refl _)
        rw [List.take_length] at e2
        refine ⟨fun t => ?_, fun k => ?_, ?_⟩
        · rw [hAE.tm, e2.tm, look_T_eq hrok hcf ho (m := recs.length) (Nat.le_refl _) (.inl ⟨rfl, fun x hx => hall x (by omega)⟩)]
        · rw [hAE.hp, e2.hp, look_H_eq hrok hcf ho (m := recs.length) (Nat.le_refl _) (.inl ⟨rfl, fun x hx => hall x (by omega)⟩)]
        · rw [hAE.nx, e2.nx, (aft_us recs s _).2, (aft_us recs s π).2]
      refine hQ .normal _ E a w hK rfl (hsr.alike e1 fun k hk => ?_) (hst.x _) ⟨hmut.own, hmut.heap, fun x hx ho' => hmut.old x hx (e1.own ho')⟩
      rw [(aft_us recs s π).1, hu, List.append_nil, List.mem_reverse] at hk
      have := ho.lt k hk; omega
    induction fuel with
    | zero =>
      intro listed π a w E hf hsz hli ho hed hsr hst hmut
      have hnd : π.Nodup := ho.lin.imp fun h => h.2
      have hall : ∀ x, x < ops.size → x ∈ π := fun x hx => by
        apply Classical.byContradiction
        intro hn
        have := nodup_len ops.size (x :: π) (List.nodup_cons.2 ⟨hn, hnd⟩) fun y hy => by
          rcases List.mem_cons.1 hy with rfl | hy
          · exact hx
          · have := ho.lt y hy; omega
        simp only [List.length_cons] at this; omega
      refine ⟨?_, fin π a w E ho hall hsr hst hmut⟩
      apply List.eq_nil_iff_forall_not_mem.2
      intro x hx
      rw [mem_ready] at hx
      obtain ⟨h1, o, h2, _⟩ := hx
      have hlt : x < ops.size := (Array.getElem?_eq_some_iff.1 h2).1
      rw [(hli x hlt).2 (hall x hlt)] at h1; cases h1
    | succ fuel ih =>
      intro listed π a w E hf hsz hli ho hed hsr hst hmut
      have hready : ∀ x o, ops[x]? = some o → x ∉ π → (∀ e ∈ edgesOf o, e ∈ π) → x ∈ Region.ready .any ops listed := fun x o hxo hxp he => by
        have hlt : x < ops.size := (Array.getElem?_eq_some_iff.1 hxo).1
        rw [mem_ready]
        refine ⟨?_, o, hxo, fun e hea hb => ?_⟩
        · cases hl : listed.getD x true with
          | false => rfl
          | true => exact absurd ((hli x hlt).1 hl) hxp
        · have hm : e.on ∈ edgesOf o := by
            unfold edgesOf
            exact List.mem_map.2 ⟨e, List.mem_filter.2 ⟨by simpa using hea, hb⟩, rfl⟩
          have hep := he _ hm
          have hlt2 : e.on < ops.size := by have := ho.lt _ hep; omega
          have := (hli _ hlt2).2 hep
          simp only [Array.getD_eq_getD_getElem?] at this ⊢
          rw [Array.getElem?_eq_getElem (by omega)] at this ⊢
          exact this
      refine ⟨fun hr => ?_, fun i hi => ?_⟩
      · refine fin π a w E ho (fun x => ?_) hsr hst hmut
        induction x using Nat.strongRecOn with
        | _ x ihx =>
          intro hx
          apply Classical.byContradiction
          intro hxp
          have hxo : ops[x]? = some ops[x] := Array.getElem?_eq_getElem hx
          have := hready x ops[x] hxo hxp fun e he => by
            have h1 := (hspec x ops[x] (by simp [hx])).1 e he
            rw [Nat.zero_add] at h1
            exact ihx e h1 (by omega)
          rw [hr] at this; cases this
      · rw [mem_ready] at hi
        obtain ⟨hl, o, hio, hedges⟩ := hi
        have hlt : i < ops.size := (Array.getElem?_eq_some_iff.1 hio).1
        have hip : i ∉ π := fun h => by rw [(hli i hlt).2 h] at hl; cases hl
        have hedg : ∀ e ∈ edgesOf o, e ∈ π := fun e he => by
          unfold edgesOf at he
          obtain ⟨e', he', rfl⟩ := List.mem_map.1 he
          obtain ⟨h1, h2⟩ := List.mem_filter.1 he'
          have h3 := hedges e' (by simpa using h1) h2
          have hlt2 : e'.on < ops.size := by
            rcases Nat.lt_or_ge e'.on ops.size with h | h
            · exact h
            · simp only [Array.getD_eq_getD_getElem?] at h3
              rw [Array.getElem?_eq_none (by omega)] at h3; cases h3
          refine (hli _ hlt2).1 ?_
          simp only [Array.getD_eq_getD_getElem?] at h3 ⊢
          rw [Array.getElem?_eq_getElem (by omega)] at h3 ⊢
          exact h3
        have hol : ops.toList[i]? = some o := by simpa using hio
        have hprs : ∀ y ∈ pr.getD i [], y ∈ π := fun y hy => by
          have := (hspec i o hol).2 y (by rw [Nat.zero_add]; exact hy)
          obtain ⟨e, he, h1⟩ := this
          rcases h1 with rfl | h1
          · exact hedg _ he
          · exact ho.cl e (hedg e he) y h1
        have hilen : i < recs.length := by omega
        have hri : recs[i]? = some (recs.getD i rec0) := by simp [hilen]
        have hfact := hfacts i o (recs.getD i rec0) hol hri
        rw [Nat.zero_add] at hfact
        have hfa := (fold_aft recs hrok s i (by omega))
        have hfact := hfact.congr hfa
        obtain ⟨hdst, hrd, hcase⟩ := hfact
        have lookT : ∀ t, t ∈ (recs.getD i rec0).rt → (aft recs s π).tm.get t = (aft recs s (List.range i)).tm.get t := fun t ht => look_T_eq hrok hcf ho (by omega) (.inr ⟨hip, hprs, hilen, ht⟩) s
        have lookH : (recs.getD i rec0).ld = none → ∀ k, k ∈ (recs.getD i rec0).rk → (aft recs s π).hp.get k = (aft recs s (List.range i)).hp.get k := fun hn k hk => look_H_eq hrok hcf ho (by omega) (.inr ⟨hip, hprs, hilen, hk, hn⟩) s
        have hius : i ∉ (aft recs s π).us := by rw [(aft_us recs s π).1, hu, List.append_nil, List.mem_reverse]; exact hip
        have next : ∀ E' a' w', SR cx E' ((aft recs s π).eff i (recs.getD i rec0)) a' w' → Stp E E' w w' → Mut (aft recs s π) ((aft recs s π).eff i (recs.getD i rec0)) E E' w w' → wpAnyIn F n P .any ops Q fuel (listed.setIfInBounds i true) a' w' := by
          intro E' a' w' hs' hst' hmut'
          refine ih (listed.setIfInBounds i true) (π ++ [i]) a' w' E' (by simp; omega) (by simpa using hsz) (fun x hx => ?_) ⟨?_, ?_, ?_⟩ ?_ (by rw [aft_snoc]; exact hs') (hst.trans hst') (by rw [aft_snoc]; exact hmut.trans hmut' hst.size)
          · by_cases e : i = x
            · subst e
              simp [hsz, hlt]
            · have h1 := hli x hx
              simp only [Array.getD_eq_getD_getElem?, Array.getElem?_setIfInBounds_ne e] at h1 ⊢
              rw [h1]
              simp [Ne.symm e]
          · rw [List.pairwise_append]
            refine ⟨ho.lin, List.pairwise_singleton _ _, fun x hx y hy => ?_⟩
            rw [List.mem_singleton] at hy; subst hy
            exact ⟨fun h => hip (ho.cl x hx _ h), fun h => by subst h; exact hip hx⟩
          · intro x hx y hy
            rcases List.mem_append.1 hx with hx | hx
            · exact List.mem_append_left _ (ho.cl x hx y hy)
            · rw [List.mem_singleton] at hx; subst hx
              exact List.mem_append_left _ (hprs y hy)
          · intro x hx
            rcases List.mem_append.1 hx with hx | hx
            · exact ho.lt x hx
            · rw [List.mem_singleton] at hx; subst hx; exact hilen
          · intro x hx o' ho' e he
            rcases List.mem_append.1 hx with hx | hx
            · exact List.mem_append_left _ (hed x hx o' ho' e he)
            · rw [List.mem_singleton] at hx; subst hx
              rw [hol] at ho'; cases ho'
              exact List.mem_append_left _ (hedg e he)
        unfold wpOpIn
        rw [hio]
        dsimp only
        rcases hcase with ⟨hg, s1, ts, hs1, hts, hv, hldG⟩ | ⟨j, want, t, hg, hjt, hgt, htr, hv0, hup0⟩
        · have hwant : Region.wanted o (yielded ops a.tmps) = true := by
            rcases hg with hg | ⟨j, want, t, hg, hjt, hgt, htr⟩
            · simp [Region.wanted, hg]
            · have hy := yielded_of (all := ops.toList) hsr hjt (b := want) (by rw [lookT t htr]; exact hgt)
              simp only [Array.toArray_toList] at hy
              simp [Region.wanted, hg, hy]
          rw [if_pos hwant]
          have hgo : ∃ s2, Sub s2 (aft recs s π) ∧ s2.nx = (aft recs s (List.range i)).nx ∧ vcOp P T s2 ((aft recs s (List.range i)).nx + 8 * i) ((aft recs s (List.range i)).nx + 8 * i) o fun v up => v = (recs.getD i rec0).v ∧ up = (recs.getD i rec0).up := by
            cases hld : (recs.getD i rec0).ld with
            | none =>
              refine ⟨small s1 ts (recs.getD i rec0).rk, ⟨fun t d hd => ?_, fun k g b hk => ?_, ?_⟩, hs1.nx, hv⟩
              · obtain ⟨h1, h2⟩ := restT_get _ _ _ _ hd
                rw [lookT t (hts t h1), ← hs1.tm]; exact h2
              · obtain ⟨h1, h2⟩ := restH_get _ _ _ _ hk
                show (aft recs s π).hp.get k = _
                rw [lookH hld k h1, ← hs1.hp]; exact h2
              · show s1.nx = _
                rw [hs1.nx, (aft_us recs s _).2, (aft_us recs s π).2]
            | some q =>
              obtain ⟨k, off, g, c⟩ := q
              obtain ⟨ty, t, ti, gp, b, a1, a2, a3, a4, a5, a6, a7, a8⟩ := hldG k off g c hld
              obtain ⟨b2, e1, e2⟩ := look_st hrok hcf ho hilen hip hprs hld a8 s a6 a7
              refine ⟨{ aft recs s π with us := [] }, ⟨fun t d hd => hd, fun k g b hk => hk, rfl⟩, ?_, ?_⟩
              · exact (aft_us recs s π).2.trans (aft_us recs s _).2.symm
              · have ht2 : (aft recs s π).tm.get t = some (.ptr k gp off) := by rw [lookT t (hts t a4)]; exact a5
                exact vcOp_ld a1 a2 a3 (fun d hd => by
                  obtain ⟨_, h2⟩ := restT_get _ _ _ _ hd
                  rw [hs1.tm, a5] at h2; exact (Option.some.inj h2).symm) (fun p hp => by
                  obtain ⟨h1, h2⟩ := restH_get _ _ _ _ (AS.at_iff.1 hp)
                  rw [hs1.hp, a6] at h2
                  have h3 := Option.some.inj h2
                  simp only [Prod.mk.injEq, Ob.b.injEq] at h3
                  exact ⟨h3.1.symm, by rw [← h3.2, a7]⟩) ht2 (AS.at_iff.2 e1) e2 hv
          obtain ⟨s2, hsub, hnx, hv⟩ := hgo
          have hrk := rec_ok hrok i
          rw [recOk, Bool.and_eq_true] at hrk
          refine op_framed (s := s2) (K := fun v up => v = (recs.getD i rec0).v ∧ up = (recs.getD i rec0).up) hF hT hsr hsub hius hdst (vcOp_us _ (by rw [hnx]; exact hv)) (fun v up hvu => by rw [hvu.2]; exact hrk.2) fun v up E' a' w' hvu hs' hst' hmut' => ?_
          obtain ⟨rfl, rfl⟩ := hvu
          refine next E' a' w' ?_ hst' ?_
          · unfold AS.eff
            rw [hrd]; exact hs'
          · unfold AS.eff
            rw [hrd]; exact hmut'
        · have hwant : Region.wanted o (yielded ops a.tmps) = false := by
            rcases hgt with hgt | hgt
            · have hy := yielded_of (all := ops.toList) hsr hjt (b := !want) (by rw [lookT t htr]; exact hgt)
              simp only [Array.toArray_toList] at hy
              simp only [Region.wanted, hg, hy]; cases want <;> rfl
            · have hy := yielded_un (all := ops.toList) hsr hjt (by rw [lookT t htr]; exact hgt)
              simp only [Array.toArray_toList] at hy
              simp only [Region.wanted, hg, hy]; rfl
          rw [if_neg (by rw [hwant]; simp)]
          refine ⟨fun f _ => hF.fn f, next E _ w ?_ (Stp.refl E w) ?_⟩
          · unfold AS.eff
            rw [hrd, hv0, hup0]
            exact putT_sound (s := { aft recs s π with us := i :: (aft recs s π).us }) (hsr.us i) hdst (v := some (.tup [])) rd_undef
          · unfold AS.eff
            rw [hup0]
            exact ⟨fun _ h => h, fun _ _ _ => rfl, fun _ _ h => h⟩
  refine wpIn_region_any hfol (main ops.size _ [] a0 _ E0 (by simp) (by simp) (fun x hx => ?_) ⟨List.Pairwise.nil, (fun x hx => by cases hx), (fun x hx => by cases hx)⟩ (fun x hx => by cases hx) (hs.drew) (Stp.drew E0 w0) ⟨fun _ h => h, fun _ _ _ => rfl, fun _ _ h => h⟩)
  simp [hx]
end
end Go.Vx

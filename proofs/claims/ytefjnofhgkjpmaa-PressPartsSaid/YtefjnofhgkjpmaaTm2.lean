/- Part 2. -/
import Derived.Test.YtefjnofhgkjpmaaTm1
import Derived.Deep.AppendSrc
import Derived.Deep.Upon
import Derived.Laws.IdiomCopy
import Derived.LoopNIn
import Derived.RangeFuncCalls
set_option linter.unusedVariables false
set_option linter.unusedSimpArgs false
set_option maxRecDepth 100000
set_option maxHeartbeats 4000000
open Array renaming ext' → LV, foldl_toList → Oa, length_toList → Np, range → NA, toArray_toList → Lx, toList_map → Mc
open Bool renaming and_eq_true → Ky, false_eq_true → LN, false_or → N7, not_eq_true' → L9, or_eq_false_iff → MQ, or_eq_true → Mx
open Go.Addr renaming add_mid → LM
open Go.Builtin renaming append_ → MX, firstCells → MZ, nextslicecap → Mi, zeroCells → Mj
open Go.Deferred renaming ofValue → MR
open Go.Fence renaming wide → OL
open Go.Instr renaming buildSlice → NF, fill → N9, makeSlice → NN, typeAssert → Ol
open Go.IntKind renaming wrap_i64 → Ok
open Go.IntWalk renaming i64_in → NV
open Go.Oper renaming semAt_eq → MV
open Go.Result renaming andThen_ok → KD
open Go.RowKit.Below renaming heap_alloc → L5
open Go.Sem renaming run → Nd, run_bind → KL, run_ite → Mn, run_pure → KN
open Go.Src renaming ofNil → OM
open Go.Value renaming int → Ll
open Inhabited renaming default → i4
open Int renaming eq_ofNat_of_zero_le → Lo, natCast_mul → OA, toNat_natCast → LX
open List renaming append_assoc → KS, drop_zero → Ma, eq_nil_of_length_eq_zero → KT, foldl_cons → NM, getElem_mem → Ld, length_append → Kw, length_cons → KU, length_drop → KQ, length_nil → Ml, length_take → KC, mapM_cons → NU, map_cons → MC, mem_cons_of_mem → KM, mem_cons_self → KO, mem_map → Nr, mem_of_mem_drop → MA, mem_of_mem_take → Lt, range → Lf, replicate → KJ, take_length → LF
open Nat renaming add_mul → Lr, add_zero → MG, beq → Kv, beq_refl → Ly, ble → Kx, ble_eq_true_of_le → KA, blt → Mf, eq_of_beq_eq_true → Kz, eq_zero_or_pos → MI, le_mul_of_pos_right → M3, le_of_ble_eq_true → KB, le_refl → KG, le_trans → KK, lt_of_lt_of_le → K5, lt_or_ge → K3, lt_trichotomy → MN, min → Lv, min_le_left → OC, mod_lt → N8, mul_assoc → LH, mul_le_mul_right → Lc, mul_one → KW, not_lt_zero → LJ, sub_self → LL, succ_le_succ → Mq, zero_add → KV, zero_le → Li, zero_mul → LQ
open Option renaming map_eq_some_iff → Lq, map_some → MW
namespace Go.Vx
open Go.RowKit Go.Bw
section
variable {P:Program} {cx:Cx} {E:Env} {s:AS} {a:Act} {w:World} {i:Nat} {o:Oper} {T:TT}

theorem Stp.drew (E:Env) (w:World):Stp E E w w.drew:=⟨fun _ h=>h,fun _ _=>rfl,KG _,fun _ _ h=>⟨h,rfl⟩,fun _ _=>rfl⟩
theorem OB.drew {g:Nat} {k:Ob} (h:OB E w g k) (hown:∀ b,E.φ g = some b → E.own b):OB E w.drew g k:=h.step (Stp.drew E w) fun b hb=>⟨hown b hb,rfl⟩
theorem SR.drew (h:SR cx E s a w):SR cx E s a w.drew :=
 {h with
  fr:=fun t d hd=>by obtain ⟨u,hu,hr⟩:=h.fr t d hd; exact ⟨u,hu,hr.step (Stp.drew E w)⟩
  hp:=fun k g b hk=>OB.drew (k:=.b b) (h.hp k g b hk) fun x hx=>h.own_of ⟨k,g,_,AS.at_iff.1 hk,hx⟩
  lp:=fun k g b hk=>OB.drew (k:=.l b) (h.lp k g b hk) fun x hx=>h.own_of ⟨k,g,_,AS.lat_iff.1 hk,hx⟩
  df:=h.df
  bel:=h.bel.trans (Fr.drew _ w)
  szB:=h.szB }

theorem SR.kill (h:SR cx E s a w) (k:Nat):SR cx ⟨E.φ,cV E { s with hp:=s.hp.set k none } E.φ,E.nm⟩ { s with hp:=s.hp.set k none } a w ∧ Stp E ⟨E.φ,cV E { s with hp:=s.hp.set k none } E.φ,E.nm⟩ w w:=by
 have sub:∀ {k' g' o'},AS.gat { s with hp:=s.hp.set k none } k' = some (g', o') → s.gat k' = some (g', o'):=fun {k' g' o'} hk=>by
  rcases Tr.of_set hk with ⟨_,hv⟩ | ⟨_,hk⟩
  ·cases hv
  ·exact hk
 have hs:Stp E ⟨E.φ,cV E { s with hp:=s.hp.set k none } E.φ,E.nm⟩ w w:=⟨fun _ h=>h,fun _ _=>rfl,KG _,fun b _ ho=>⟨fun hh=>hh.elim ho fun ⟨k', g', b', hk,hx⟩=>ho (h.own_of ⟨k', g', b', sub hk,hx⟩),rfl⟩,fun _ _=>rfl⟩
 have hold:∀ {k' g' o'},AS.gat { s with hp:=s.hp.set k none } k' = some (g', o') → OB ⟨E.φ,cV E { s with hp:=s.hp.set k none } E.φ,E.nm⟩ w g' o' := fun {k' g' o'} hk=>(h.ob (sub hk)).step hs fun x hx=>⟨.inr ⟨k', g', o', hk,hx⟩,rfl⟩
 refine ⟨h.turn _ _ rfl hs (fun k' g' b' hk=>hold (AS.at_iff.1 hk)) (fun k' g' b' hk=>hold (AS.lat_iff.1 hk)) (fun k1 k2 g1 g2 b1 b2 hkk h1 h2 x hx1=>h.inj k1 k2 g1 g2 b1 b2 hkk (sub h1) (sub h2) x hx1)
  (fun x ⟨k', g', b', hk,hx⟩=>h.low x ⟨k', g', b', sub hk,hx⟩) (Fr.refl _ _) h.nm (fun _ _ _=>rfl),hs⟩

theorem SR.rename {w' : World} (h:SR cx E s a w) {g ky k i:Nat} (hi:i ∉ s.us) (hg:s.nx + 8 * i ≤ g ∧ g < s.nx + 8 * i + 8) (bo:Option Nat) (hbo:∀ b,bo = some b → ∃ g0 blk0,s.at k = some (g0,blk0) ∧ E.φ g0 = some b)
  (nb:Blk) (hgr:w.grownBy w' bo) (hz:w'.heap.size = w.heap.size) (hshape:∀ b,b < w.heap.size → w'.shape? b = w.shape? b)
  (hnb:match bo with | none=>nb.cells = [] ∧ nb.row = true | some b=>∃ (cur:Array Value) (fr:Nat × Nat),w'.heap[b]? = some (.cells cur nb.elem fr) ∧ e9 fr cur.size ∧ nb.cells.length ≤ cur.size ∧ (nb.row = false → cur.size = nb.cells.length) ∧
   (∀ (j:Nat) d,nb.cells[j]? = some d → ∃ u,cur[j]? = some u ∧ u.oneCell' = true ∧ RD E w d u)) :
  let s' : AS:={ s with hp:=(s.hp.set k none).set ky (some (g,.b nb)),us:=i :: s.us }
  SR cx (E.add s' g bo) s' a w' ∧ Stp E (E.add s' g bo) w w' ∧ (E.add s' g bo).nm g ∧ (E.add s' g bo).φ g = bo ∧ Mut s s' E (E.add s' g bo) w w' := by
 intro s'
 have hfr:¬ E.nm g:=fun hn=>by
  rcases h.nm g hn with h1 | ⟨j,hj,h1,h2⟩
  ·omega
  ·have:j = i:=by omega
   subst this; exact hi hj
 have hne:∀ {k g' o},s.gat k = some (g', o) → g' ≠ g:=fun hk e=>by subst e; exact hfr (h.ob hk).nm
 have hlt:∀ {k g' o x},s.gat k = some (g', o) → E.φ g' = some x → x < w.heap.size:=fun hk hx=>(h.ob hk).lt hx
 have hsub:∀ {k' g' o'},s'.gat k' = some (g', o') → (k' = ky ∧ g' = g ∧ o' = .b nb) ∨ (k' ≠ k ∧ k' ≠ ky ∧ s.gat k' = some (g', o')):=fun {k' g' o'} hk=>by
  rcases Tr.of_set hk with ⟨e,hv⟩ | ⟨e1,hk⟩
  ·cases hv; exact .inl ⟨e,rfl,rfl⟩
  ·rcases Tr.of_set hk with ⟨_,hv⟩ | ⟨e2,hk⟩
   ·cases hv
   ·exact .inr ⟨e2,e1,hk⟩
 have hbo' : ∀ b,bo = some b → bd s E.φ b:=fun b hb=>by
  obtain ⟨g0,blk0,h1,h2⟩:=hbo b hb
  exact ⟨k,g0,.b blk0,AS.at_iff.1 h1,h2⟩
 have hbown:∀ b,bo = some b → E.own b:=fun b hb=>h.own_of (hbo' b hb)
 have hs:Stp E (E.add s' g bo) w w' := by
  refine ⟨fun x hx=>.inl hx,fun x hx=>aQ (fun e=>by subst e; exact hfr hx),by omega,fun b hb ho=>⟨?_,hgr.block b hb (fun e=>ho (hbown b e.symm))⟩,hshape⟩
  rintro (ho' | ⟨k', g', blk,hk,hx⟩)
  ·exact ho ho'
  rcases hsub hk with ⟨_,e,_⟩ | ⟨h1,h2,h3⟩
  ·subst e; rw [bw] at hx; exact ho (hbown b hx)
  ·rw [aQ (hne h3)] at hx
   exact ho (h.own_of ⟨k', g', blk,h3,hx⟩)
 have hφg:(E.add s' g bo).φ g = bo:=bw _ _ _
 have hmut:Mut s s' E (E.add s' g bo) w w' := ⟨fun b hb=>.inl hb,fun b hb ho=>hgr.block b hb (fun e=>ho (hbo' b e.symm)),fun x hlt' ⟨k', g', blk,hk,hx⟩=>by
  have hx:uU E.φ g bo g' = some x:=hx
  rcases hsub hk with ⟨_,e,_⟩ | ⟨h1,h2,h3⟩
  ·subst e; rw [bw] at hx; exact hbo' x hx
  ·rw [aQ (hne h3)] at hx; exact ⟨k', g', blk,h3,hx⟩⟩
 have hold:∀ {k' g' o'},s'.gat k' = some (g', o') → OB (E.add s' g bo) w' g' o' := fun {k' g' o'} hk=>by
  rcases hsub hk with ⟨rfl,rfl,rfl⟩ | ⟨h1,h2,h3⟩
  ·refine ⟨.inr rfl,?_⟩
   show match (E.add s' g' bo).φ g' with | none=>_ | some b=>_
   rw [hφg]
   cases bo with
   | none=>exact hnb
   | some b =>
    obtain ⟨cur,fr,c1,c2,c3,c4,c5⟩:=hnb
    obtain ⟨g0,blk0,hk0,hb0⟩:=hbo b rfl
    refine ⟨.inr ⟨k', g', _,hk,hφg⟩,by rw [hz]; exact hlt (AS.at_iff.1 hk0) hb0,cur,fr,c1,c2,c3,c4,fun j d hj=>?_⟩
    obtain ⟨u,hu,h1,hr⟩:=c5 j d hj
    exact ⟨u,hu,h1,hr.step hs⟩
  ·refine (h.ob h3).step hs fun b hb=>⟨.inr ⟨k', g', o', hk,(aQ (hne h3)).trans hb⟩,hgr.block b (hlt h3 hb) (fun e=>?_)⟩
   obtain ⟨g0,blk0,hk0,hb0⟩:=hbo b e.symm
   exact h.inj k' k g' g0 o' (.b blk0) h1 h3 (AS.at_iff.1 hk0) b hb hb0
 refine ⟨h.turn _ _ rfl hs (fun k g' b hk=>hold (AS.at_iff.1 hk)) (fun k g' r hk=>hold (AS.lat_iff.1 hk)) ?_ ?_ ?_ ?_ hmut.heap,hs,.inr rfl,hφg,hmut⟩
 ·intro k1 k2 g1 g2 b1 b2 hkk h1 h2 x hx1 hx2
  have other:∀ {k' g' o'},k' ≠ k → s.gat k' = some (g', o') → uU E.φ g bo g' = some x → bo ≠ some x:=fun hk' h3 hx e=>by
   rw [aQ (hne h3)] at hx
   obtain ⟨g0,blk0,hk0,hb0⟩:=hbo x e
   exact h.inj _ k _ g0 _ (.b blk0) hk' h3 (AS.at_iff.1 hk0) x hx hb0
  rcases hsub h1 with ⟨e1,f1,f2⟩ | ⟨a1,a2,a3⟩ <;> rcases hsub h2 with ⟨e2,e3,e4⟩ | ⟨c1,c2,c3⟩
  ·exact hkk (e1.trans e2.symm)
  ·subst f1
   rw [bw] at hx1
   exact other c1 c3 hx2 hx1
  ·subst e3
   rw [bw] at hx2
   exact other a1 a3 hx1 hx2
  ·rw [aQ (hne a3)] at hx1
   rw [aQ (hne c3)] at hx2
   exact h.inj k1 k2 g1 g2 b1 b2 hkk a3 c3 x hx1 hx2
 ·rintro x ⟨k', g', blk,hk,hx⟩
  have hx:uU E.φ g bo g' = some x:=hx
  rcases hsub hk with ⟨_,e,_⟩ | ⟨h1,h2,h3⟩
  ·subst e; rw [bw] at hx; exact h.low x (hbo' x hx)
  ·rw [aQ (hne h3)] at hx
   exact h.low x ⟨k', g', blk,h3,hx⟩
 ·exact Fr.of_grown hgr (fun x e=>h.low x (hbo' x e)) hs.shape
 ·rintro n (hn | rfl)
  ·rcases h.nm n hn with h1 | ⟨j,hj,h1⟩
   ·exact .inl h1
   ·exact .inr ⟨j,KM _ hj,h1⟩
  ·exact .inr ⟨i,KO,hg⟩

def fx:TypeDesc → Bool
 | .string=>true
 | _=>false
def fy (s:AS) (es:Nat) (dd:TypeDesc):D → Option (Bool × Nat × List D)
 | .sl _ n sz cells=>some (bU dd && Kv sz es,n,cells)
 | .ref k g off n sz=>match s.at k with
  | some p=>some (bU dd && Kv g p.1 && Kv sz es && Kx (off + n * sz) p.2.cells.length,n,bif Kv off 0 && Kv (n * sz) p.2.cells.length then p.2.cells else (p.2.cells.drop off).take (n * sz))
  | none=>none
 | .v (.slice none 0 0)=>some (bU dd,0,[])
 | .v (.string b)=>some (fx dd && Kv es 1,b.size,b.data.toList.map dB)
 | _=>none

theorem iU (hT:T.ok P) (h:SR cx E s a w) {d:D} {u:Value} (hr:RD E w d u) {es:Nat} {c:Bool} {n:Nat} {cells:List D} {tx:TypeId} {ti:TI} (hs:fy s es ti.desc d = some (c,n,cells)) (hc:c = true) (htx:T.get tx = some ti) :
  ∃ news:List Value,Src P es tx u n news w ∧ news.length = cells.length ∧ ∀ (j:Nat) e v,cells[j]? = some e → news[j]? = some v → RD E w e v:=by
 have hu:=(hT tx ti htx).1
 have hsl:bU ti.desc = true → ∃ e', P.underlying tx = some (.slice e'):=fun hk=>by
  cases hd:ti.desc <;> simp [hd,bU] at hk
  rw [hd] at hu; exact ⟨_,hu⟩
 cases hr with
 | v cst h1 =>
  unfold fy at hs
  split at hs
  case h_3 e=>cases e; cases hs; obtain ⟨e', he⟩:=hsl hc; exact ⟨[],OM w he 0,rfl,by simp⟩
  case h_4 b e =>
   cases e; cases hs
   rw [Ky] at hc
   obtain rfl:es = 1:=Kz hc.2
   refine ⟨byteCells b,Src.ofString w (by rw [hu]; have:=hc.1; cases hd:ti.desc <;> simp [hd,fx] at this; rfl) b,by simp [byteCells],fun j e v he hv=>?_⟩
   simp only [List.getElem?_map,Lq,byteCells] at he hv
   obtain ⟨x,hx,rfl⟩:=he
   obtain ⟨y,hy,rfl⟩:=hv
   rw [hx] at hy; cases hy
   exact .v _ rfl
  all_goals first | (rename_i e; cases e; done) | cases hs
 | sl nn n' sz cs ad c' us hlen hd hone hn hs' hc2 hnil hr =>
  cases hs
  rw [Ky] at hc
  obtain rfl:sz = es:=Kz hc.2
  obtain ⟨e', he⟩:=hsl hc.1
  cases ad with
  | none =>
   obtain ⟨rfl,_⟩:=hnil rfl
   obtain rfl:n = 0:=by omega
   have:cells = []:=KT (by rw [hn]; omega)
   subst this
   exact ⟨[],OM w he 0,rfl,by simp⟩
  | some ad =>
   refine ⟨us,Src.ofSlice w he ad n c' us (by rw [hlen,hn]) (fun j v hv=>?_) hone,hlen,fun j e v a1 a2=>(hd j e v a1 a2).ofCl⟩
   rcases hr with hr | ⟨b,off,ha,_,_,hcell⟩
   ·subst hr
    have:us = []:=KT (by rw [hlen,hn]; omega)
    subst this; cases hv
   ·cases ha; rw [LM]; exact hcell j v hv
 | ref k g off n' sz c' b off' t m hg hb hc2 hoff hsh hm =>
  simp only [fy] at hs
  cases hk:s.at k with
  | none=>rw [hk] at hs; cases hs
  | some p =>
  obtain ⟨g', blk⟩:=p
  rw [hk] at hs
  have hs:=Option.some.inj hs
  injection hs with bX eZ
  injection eZ with eZ mT
  subst bX eZ mT
  simp only [Ky] at hc
  obtain ⟨⟨⟨hst,hgg⟩,hsz⟩,hle⟩:=hc
  have e:g = g' := Kz hgg
  subst e
  obtain rfl:sz = es:=Kz hsz
  have hle:=KB hle
  obtain ⟨e', he⟩:=hsl hst
  obtain ⟨hlt,_,cur,fr,hcur,_,hcl,_,hcell⟩:=h.block hk hb
  have hv:Vw E w b 0 blk.cells:=fun j d hj=>by
   obtain ⟨v,hv1,hv2,hv3⟩:=hcell j d hj
   exact ⟨v,by rw [KV,cell_of_row w b j cur blk.elem fr hcur]; exact hv1,hv2,hv3⟩
  obtain ⟨us,hl,hrg,h1,hd⟩:=hv.seg hle
  rw [KV] at hrg
  have hcells:(bif Kv off 0 && Kv (n' * sz) blk.cells.length then blk.cells else (blk.cells.drop off).take (n' * sz)) = (blk.cells.drop off).take (n' * sz):=by
   cases hq:(Kv off 0 && Kv (n' * sz) blk.cells.length) with
   | false=>rfl
   | true =>
    rw [Ky] at hq
    have e1:=Kz hq.1
    have e2:=Kz hq.2
    subst e1
    rw [cond_true,Ma,e2,LF]
  rw [hcells]
  refine ⟨us,Src.ofSlice w he _ n' c' us hl (fun j v hj=>?_) h1,by rw [hl,KC,KQ]; omega,hd⟩
  rw [LM]
  rcases hoff with rfl | ⟨rfl,rfl⟩
  ·exact hrg j v hj
  ·rw [LQ] at hl
   have:=(List.getElem?_eq_some_iff.1 hj).1
   omega
 | refn k g sz hg hb =>
  simp only [fy] at hs
  cases hk:s.at k with
  | none=>rw [hk] at hs; cases hs
  | some p =>
  obtain ⟨g', blk⟩:=p
  rw [hk] at hs
  have hs:=Option.some.inj hs
  injection hs with bX eZ
  injection eZ with eZ mT
  subst bX eZ mT
  simp only [Ky] at hc
  obtain ⟨⟨⟨hst,hgg⟩,hsz⟩,hle⟩:=hc
  have e:g = g' := Kz hgg
  subst e
  obtain ⟨e', he⟩:=hsl hst
  have:=(h.hp k g blk hk).2
  rw [hb] at this
  have hnil:(bif Kv 0 0 && Kv (0 * sz) blk.cells.length then blk.cells else (blk.cells.drop 0).take (0 * sz)) = []:=by
   rw [this.1]; simp
  rw [hnil]
  exact ⟨[],OM w he 0,rfl,by simp⟩
 | _=>cases hs

def qY (s:AS) (e:TypeId) (es:Nat):D → Option (Bool × Option Nat × Nat × List D)
 | .ref k g off n sz=>match s.at k with
  | some p=>some (Kv g p.1 && Kv sz es && Kv off 0 && Kv (n * es) p.2.cells.length && Kv p.2.elem e,some k,n,p.2.cells)
  | none=>none
 | .v (.slice none 0 0)=>some (true,none,0,[])
 | _=>none

def JP (k?:Option Nat) (m n:Nat):Nat:=match k? with | none=>n | some _=>m + n
def JQ (k?:Option Nat) (olds news:List D):List D:=match k? with | none=>news | some _=>olds ++ news
def im (T:TT) (s:AS) (nm ky:Nat) (ts:Array TypeId) (xs:Array Operand):Ev :=
 match ts.toList,xs.toList with
 | [t,tx],[x,y]=>match T.get t,T.get tx,dz s x,dz s y with
  | some ⟨.slice e,_,_,_,_⟩,some ti,some dx,some dy=>match T.get e with
   | some ei=>match qY s e ei.size dx,fy s ei.size ti.desc dy with
    | some (c1,k?,m,olds),some (c2,n,news) =>
     .cond (c1 && c2 && decide (0 < ei.size) && decide (0 < ei.bytes) && Kx ((m + n) * ei.bytes) 140737488355328)
      (.ok (some (.ref ky nm 0 (JP k? m n) ei.size)) ((ky,some (nm,.b ⟨JQ k? olds news,e,true⟩)) :: (match k? with | some k=>[(k,none)] | none=>[(ky,none)])))
    | _,_=>.stuck
   | none=>.stuck
  | _,_,_,_=>.stuck
 | _,_=>.stuck

theorem sv {olds news:List D} {us vs:List Value} (h1:us.length = olds.length) (h2:vs.length = news.length) {E:Env} {w:World} (a1:∀ (j:Nat) e v,olds[j]? = some e → us[j]? = some v → RD E w e v) (a2:∀ (j:Nat) e v,news[j]? = some e → vs[j]? = some v → RD E w e v)
  (o1:∀ u ∈ us,u.oneCell' = true) (o2:∀ u ∈ vs,u.oneCell' = true) (rest:List Value):∀ (j:Nat) d,(olds ++ news)[j]? = some d → ∃ u,(us ++ vs ++ rest)[j]? = some u ∧ u.oneCell' = true ∧ RD E w d u:=by
 intro j d hj
 by_cases hlt:j < olds.length
 ·rw [List.getElem?_append_left hlt] at hj
  have hu:j < us.length:=by omega
  exact ⟨us[j],by rw [KS,List.getElem?_append_left hu]; simp [hu],o1 _ (Ld hu),a1 j d _ hj (by simp [hu])⟩
 ·rw [List.getElem?_append_right (by omega)] at hj
  have hlt2:=(List.getElem?_eq_some_iff.1 hj).1
  have hu:j - us.length < vs.length:=by omega
  refine ⟨vs[j - us.length],?_,o2 _ (Ld hu),a2 _ d _ hj (by rw [← h1]; simp [hu])⟩
  rw [KS,List.getElem?_append_right (by omega),List.getElem?_append_left hu]; simp [hu]

theorem nz (hT:T.ok P) (h:SR cx E s a w) (hi:i ∉ s.us) {nm ky:Nat} (hg:s.nx + 8 * i ≤ nm ∧ nm < s.nx + 8 * i + 8) {c:Call} (ho:o.op = .call c) (hc:c.callee = .builtin .append) {v:Option D} {up:Up} (he:(im T s nm ky c.argTypes c.args).run v up) :
  bA P cx E s a w i o v up:=by
 unfold im at he
 split at he
 case h_2=>exact he.elim
 case h_1 t tx x y hts hxs =>
 split at he
 case h_2=>exact he.elim
 case h_1 e z1 z2 z3 z4 ti dx dy hti htx hx hy =>
 split at he
 case h_2=>exact he.elim
 case h_1 ei hei =>
 split at he
 case h_2=>exact he.elim
 case h_1 c1 k? m olds c2 n news hdst hsrc =>
 obtain ⟨hcond,rfl,rfl⟩:=he
 simp only [Ky,decide_eq_true_eq] at hcond
 obtain ⟨⟨⟨⟨hc1,hc2⟩,hsz0⟩,hby0⟩,hfit⟩:=hcond
 have hfit:=KB hfit
 have e1:c.argTypes = #[t,tx]:=by apply LV; simpa using hts
 have e2:c.args.map a.eval = #[a.eval x,a.eval y]:=by apply LV; rw [Mc,hxs]; rfl
 have run0:∀ {u:Value} {w' : World},(MX #[t,tx] o.type #[a.eval x,a.eval y]).run P w = .ok u w' → (execOp a.eval o).run P w = .ok (.value u) w' := fun hu=>by
  unfold execOp
  simp only [ho,resolve,hc,KL,KN,KD,invoke,builtin,e1,e2,hu]
 have hrx:=h.eval hx
 have hry:=h.eval hy
 generalize hux:a.eval x = ux at hrx run0
 generalize huy:a.eval y = uy at hry run0
 obtain ⟨hu1,hzl,⟨j0,hj1,hj2,hj3,hj4⟩,_⟩:=hT e ei hei
 have hu0:=(hT t _ hti).1
 obtain ⟨vs,hS,hvl,hvd⟩:=iU hT h hry hsrc hc2 htx
 have hS' : Src P j0.size tx uy n vs w:=by rw [hj3]; exact hS
 have hmax:m + n ≤ dX:=by
  have:m + n ≤ (m + n) * ei.bytes:=M3 _ hby0
  unfold dX; omega
 have hgrow:∀ cap,cap < m + n → Mi (m + n) cap * j0.bytes ≤ 281474976710656:=fun cap hcap=>by
  rw [hj4]
  have h1:=nextslicecap_le (need:=m + n) (old:=cap) hcap
  have h2:Mi (m + n) cap * ei.bytes ≤ 2 * (m + n) * ei.bytes:=Lc _ h1
  rw [LH] at h2
  omega
 have hcap:=grownCap_ge w (m + n)
 have hcapm:=fun cap=>grownCap_le_maxLen w (m + n) cap e (by unfold maxLen; unfold dX at hmax; omega)
 -- a new row,whatever stood there
 have grows:∀ (base:Option Addr) (cap:Nat) (k:Nat) (us:List Value),ux = .slice base m cap → cap < m + n → us.length = olds.length → us.length = m * ei.size → (∀ (j:Nat) e v,olds[j]? = some e → us[j]? = some v → RD E w e v) → (∀ u ∈ us,u.oneCell' = true) →
   (MZ j0.size m (.slice base m cap)).run P w.drew = .ok us.toArray w.drew →
   bA P cx E s a w i o (some (.ref ky nm 0 (m + n) ei.size)) [(ky,some (nm,.b ⟨olds ++ news,e,true⟩)),(k,none)]:=by
  intro base cap k us hbase hlt hul hum hud huo hfc
  subst hbase
  have hr:=run_append_grow_src (P:=P) w t tx o.type e j0 ei.zero (by rw [hu0]) hj1 hj2 base m cap us hfc uy n vs hS' hlt (by unfold dX at hmax; omega) (hgrow cap hlt)
  obtain ⟨k1,k2⟩:=h.kill k
  have k1' := k1.drew
  obtain ⟨q1,q2,q3,q4,q5⟩:=k1'.new (ky:=ky) hi hg e (olds ++ news) (us ++ vs ++ (Mj ei.zero.cells (grownCap w (m + n) cap e - (m + n))).toList) true (0,0) (e9.zero _) (by simp [hul,hvl]) (fun hh=>by cases hh)
   (fun j d hj=>by
    obtain ⟨u,a1,a2,a3⟩:=sv (E:=E) (w:=w) hul hvl hud hvd huo hS.one _ j d hj
    exact ⟨u,a1,a2,(a3.step k2).step (Stp.drew _ w)⟩)
  refine ⟨_,_,(k2.trans (Stp.drew _ w)).trans q2,q1,⟨fun b hb=>q5.own b (.inl hb),fun b hb _=>L5 w.drew _ b hb,fun x hx hw=>?_⟩,.slice (some ⟨w.heap.size,0,none⟩) (m + n) (grownCap w (m + n) cap e),?_,?_⟩
  ·obtain ⟨k', g', blk', hk', hx'⟩:=q5.old x hx hw
   rcases Tr.of_set hk' with ⟨_,hv⟩ | ⟨_,hk'⟩
   ·cases hv
   ·exact ⟨k', g', blk', hk', hx'⟩
  ·rw [run0 hr]
   congr 2
   simp
  ·have hc2:=hcap cap e
   have hc3:=hcapm cap
   refine .ref ky nm 0 (m + n) ei.size _ w.heap.size 0 e _ q3 q4 ⟨hc2,by unfold maxLen at hc3; unfold dX; omega⟩ (.inl rfl) (az (bz w.drew _)) ?_
   simp [Mj,hum,hS.newsLen,hzl]
   rw [← Lr,← Lr]
   exact Lc _ (by omega)
 -- nothing stood there
 have nils:∀ k,ux = .slice none 0 0 → m = 0 → olds = [] → bA P cx E s a w i o (some (.ref ky nm 0 (m + n) ei.size)) [(ky,some (nm,.b ⟨olds ++ news,e,true⟩)),(k,none)]:=by
  intro k hux0 hm0 ho0
  subst hm0 ho0
  rcases MI n with hn0 | hn0
  ·subst hn0
   have hvs:vs = []:=KT (by rw [hS.newsLen]; omega)
   have hnews:news = []:=KT (by rw [← hvl,hvs]; rfl)
   subst hnews hvs hux0
   have hr:=run_append_nothing (P:=P) w t tx o.type e j0 (by rw [hu0]) hj1 none 0 0 (KG _) uy hS'
   obtain ⟨q1,q2,q3,q4,q5⟩:=h.rename (ky:=ky) (k:=k) hi hg none (fun b hb=>by cases hb) ⟨[],e,true⟩ (grown_refl _ _) rfl (fun _ _=>rfl) ⟨rfl,rfl⟩
   exact ⟨_,_,q2,q1,q5,_,run0 hr,.refn ky nm ei.size q3 q4⟩
  ·exact grows none 0 k [] hux0 (by omega) rfl (by simp) (by simp) (by simp) (run_firstCells_none w.drew _ _ _ _)
 cases hrx with
 | v cst h1 =>
  unfold qY at hdst
  split at hdst
  case h_2 e1 =>
   cases e1; cases hdst
   have hh:=nils ky rfl rfl rfl
   rw [KV] at hh
   exact hh
  all_goals first | (rename_i e1; cases e1; done) | cases hdst
 | ref k g off n' sz c' b off' tt mm hg' hb hc3 hoff hsh hmm =>
  simp only [qY] at hdst
  cases hk:s.at k with
  | none=>rw [hk] at hdst; cases hdst
  | some p =>
  obtain ⟨g', blk⟩:=p
  rw [hk] at hdst
  have hs:=Option.some.inj hdst
  injection hs with bX eZ
  injection eZ with eZ mT
  injection mT with mT Am
  subst bX eZ mT Am
  simp only [Ky] at hc1
  obtain ⟨⟨⟨⟨hgg,hsz⟩,hof⟩,hlen⟩,hel⟩:=hc1
  obtain rfl:g = g' := Kz hgg
  obtain rfl:sz = ei.size:=Kz hsz
  obtain rfl:off = 0:=Kz hof
  have hlen:=Kz hlen
  have hel:blk.elem = e:=Kz hel
  obtain ⟨hlt,hown,cur,fr,hcur,hfz,hcl,_,hcell⟩:=h.block hk hb
  have hshm:mm = cur.size:=by rw [az hcur] at hsh; cases hsh; rfl
  by_cases hroom:n' + n ≤ c'
  ·-- there is room
   have hcells:∀ j,j < vs.length → (off' + n' * j0.size + j) < cur.size:=fun j hj=>by
    rw [hS'.newsLen] at hj
    have h1:n' * j0.size + n * j0.size ≤ c' * ei.size:=by rw [hj3,← Lr]; exact Lc _ hroom
    omega
   have hr:=run_append_room_src (P:=P) w t tx o.type e j0 (by rw [hu0]) hj1 b off' n' c' uy n vs hS' hroom
    (fun j hj=>by rw [cell_of_row w b _ cur blk.elem fr hcur,Array.getElem?_eq_getElem (hcells j hj)]; rfl) (fun j hj=>gy w b _ cur blk.elem fr hcur hfz (hcells j hj))
   have hoff0:off' = 0 ∨ (n' = 0 ∧ n = 0):=by
    rcases hoff with h1 | ⟨h1,h2⟩
    ·exact .inl h1
    ·exact .inr ⟨h1,by omega⟩
   have hvlen:vs.length = n * ei.size:=by rw [hS.newsLen]
   have hfitc:off' + n' * j0.size + vs.length ≤ cur.size:=by
    rw [hvlen,hj3]
    have h1:n' * ei.size + n * ei.size ≤ c' * ei.size:=by rw [← Lr]; exact Lc _ hroom
    omega
   obtain ⟨cur', hcur', hsz', hget'⟩:=dP w b (off' + n' * j0.size) cur blk.elem fr vs hcur hfitc
   obtain ⟨hgr,hz⟩:=setCells_grown b vs (off' + n' * j0.size) w
   obtain ⟨q1,q2,q3,q4,q5⟩:=h.rename (ky:=ky) (k:=k) hi hg (some b) (fun b' hb' => by cases hb'; exact ⟨g,blk,hk,hb⟩) ⟨blk.cells ++ news,e,true⟩ hgr hz
    (fun x hx=>by
     by_cases e1:x = b
     ·subst e1; rw [az hcur,az hcur', hsz']
     ·exact bL (hgr.block x hx (fun e2=>by cases e2; exact e1 rfl)))
    ⟨cur', fr,by rw [← hel]; exact hcur', by rw [hsz']; exact hfz,by
     rw [Kw,← hvl,← hlen,hvlen,hsz', ← hshm,← Lr]
     exact KK (Lc _ hroom) (by omega),(fun hh=>by cases hh),fun j d hj=>by
     rcases K3 j blk.cells.length with hjl | hjl
     ·rw [List.getElem?_append_left hjl] at hj
      obtain ⟨u,h1,h2,h3⟩:=hcell j d hj
      refine ⟨u,?_,h2,h3⟩
      rw [hget', if_neg (fun hh=>?_)]
      ·exact h1
      ·rcases hoff0 with h0 | ⟨h0,h0'⟩
       ·rw [hj3] at hh; omega
       ·rw [hvlen,h0', LQ] at hh; omega
     ·rw [List.getElem?_append_right hjl] at hj
      have hjn:=(List.getElem?_eq_some_iff.1 hj).1
      have hjv:j - blk.cells.length < vs.length:=by omega
      have h0:off' = 0:=by
       rcases hoff0 with h0 | ⟨h0,h0'⟩
       ·exact h0
       ·rw [hvlen,h0', LQ] at hjv; omega
      refine ⟨vs[j - blk.cells.length],?_,hS.one _ (Ld hjv),hvd _ d _ hj (by simp [hjv])⟩
      rw [hget', if_pos (by rw [hj3]; omega)]
      have:j - (off' + n' * j0.size) = j - blk.cells.length:=by rw [hj3]; omega
      rw [this]; simp [hjv]⟩
   refine ⟨_,_,q2,q1,q5,_,run0 hr,.ref ky nm 0 (n' + n) ei.size c' b off' blk.elem cur.size q3 q4 ⟨hroom,hc3.2⟩ ?_ ?_ (by omega)⟩
   ·rcases hoff with h1 | ⟨h1,h2⟩
    ·exact .inl h1
    ·exact .inr ⟨by omega,h2⟩
   ·rw [az hcur', hsz']
  ·-- there is none
   have hv:Vw E w b 0 blk.cells:=fun j d hj=>by
    obtain ⟨v,hv1,hv2,hv3⟩:=hcell j d hj
    exact ⟨v,by rw [KV,cell_of_row w b j cur blk.elem fr hcur]; exact hv1,hv2,hv3⟩
   obtain ⟨us,hl,hrg,h1,hd⟩:=hv.seg (off:=0) (m:=blk.cells.length) (by omega)
   refine grows (some ⟨b,off', none⟩) c' k us rfl (by omega) hl (by rw [hl,hlen]) (fun j d v hj hv' => hd j d v (by rw [Ma,LF]; exact hj) hv') h1 ?_
   refine run_firstCells_some w.drew _ _ _ _ _ us (by rw [hl,hj3,hlen]) (fun j v hj=>?_)
   rw [LM]
   rcases hoff with rfl | ⟨h0,h0'⟩
   ·exact hrg j v hj
   ·have:=(List.getElem?_eq_some_iff.1 hj).1
    rw [hl,← hlen,h0,LQ] at this; omega
 | refn k g sz hg' hb =>
  simp only [qY] at hdst
  cases hk:s.at k with
  | none=>rw [hk] at hdst; cases hdst
  | some p =>
  obtain ⟨g', blk⟩:=p
  rw [hk] at hdst
  have hs:=Option.some.inj hdst
  injection hs with bX eZ
  injection eZ with eZ mT
  injection mT with mT Am
  subst bX eZ mT Am
  simp only [Ky] at hc1
  obtain ⟨⟨⟨⟨hgg,hsz⟩,hof⟩,hlen⟩,hel⟩:=hc1
  obtain rfl:g = g' := Kz hgg
  have:=(h.hp k g blk hk).2
  rw [hb] at this
  exact nils k rfl rfl this.1
 | _=>cases hdst
end
end Go.Vx
namespace Go.Vx
open Go.RowKit Go.Bw
section
variable {P:Program} {cx:Cx} {E:Env} {s:AS} {a:Act} {w:World} {i:Nat} {o:Oper} {T:TT}

def t0:TypeDesc → Bool
 | .int .u8=>true
 | _=>false
theorem nA {d:TypeDesc} (h:t0 d = true):d = .int .u8:=by
 unfold t0 at h; split at h
 ·rfl
 ·cases h
theorem mg {d:TypeDesc} (h:fx d = true):d = .string:=by cases d <;> simp [fx] at h; rfl

def sw (T:TT) (s:AS) (src dst:TypeId) (x:Operand):Ev :=
 match T.get src,T.get dst,dz s x with
 | some ⟨.slice e,z1,z2,z3,z4⟩,some td,some d=>match T.get e,fy s 1 (.slice e) d with
  | some ei,some (c,_,cells)=>.cond (c && t0 ei.desc && fx td.desc) (.bytes cells fun bs=>.ok (some (.v (.string ⟨bs.toArray⟩))) [])
  | _,_=>.stuck
 | _,_,_=>.stuck

theorem t6 (hT:T.ok P) (h:SR cx E s a w) {src dst:TypeId} {x:Operand} (ho:o.op = .convert src dst x) {v:Option D} {up:Up} (he:(sw T s src dst x).run v up):bA P cx E s a w i o v up:=by
 unfold sw at he
 split at he
 case h_2=>exact he.elim
 case h_1 e z1 z2 z3 z4 td d hsrc hdst hx =>
 split at he
 case h_2=>exact he.elim
 case h_1 ei c n cells hei hs =>
 obtain ⟨hc,bs,rfl,rfl,rfl⟩:=he
 simp only [Ky] at hc
 obtain ⟨⟨hc1,hc2⟩,hc3⟩:=hc
 have hr:=h.eval hx
 generalize hux:a.eval x = u at hr
 obtain ⟨news,hS,hl,hd⟩:=iU hT h hr (ti:=⟨.slice e,z1,z2,z3,z4⟩) hs hc1 hsrc
 have hnews:news = (bs.map fun b=>((b.toNat:Nat):Int)).map (Ll .u8):=by
  apply List.ext_getElem?
  intro j
  rcases K3 j bs.length with hj | hj
  ·have hj2:j < news.length:=by rw [hl]; simpa using hj
   have:=hd j (dB bs[j]) news[j] (by simp [hj]) (by simp [hj2])
   generalize hq:news[j] = q at this
   cases this
   simp [hj,hj2,hq]
  ·rw [List.getElem?_eq_none (by rw [hl]; simpa using hj),List.getElem?_eq_none (by simpa using hj)]
 have hu1:=(hT src _ hsrc).1
 have hu2:=(hT dst _ hdst).1
 have hu3:=(hT e _ hei).1
 rw [nA hc2] at hu3
 rw [mg hc3] at hu2
 have hlen:news.length = bs.length:=by rw [hl]; simp
 have hn:n = bs.length:=by rw [← hlen,hS.newsLen,KW]
 have hsl:∃ ad c', u = .slice ad n c' := by
  cases hr with
  | v cst h1 =>
   unfold fy at hs
   split at hs
   case h_3 e1=>cases e1; simp only [Option.some.injEq,Prod.mk.injEq] at hs; obtain ⟨_,rfl,_⟩:=hs; exact ⟨none,0,rfl⟩
   case h_4 e1=>cases e1; simp only [Option.some.injEq,Prod.mk.injEq] at hs; obtain ⟨h0,_⟩:=hs; rw [← h0] at hc1; simp [fx] at hc1
   all_goals first | (rename_i e1; cases e1; done) | cases hs
  | sl=>simp only [fy,Option.some.injEq,Prod.mk.injEq] at hs; obtain ⟨_,rfl,_⟩:=hs; exact ⟨_,_,rfl⟩
  | ref k g off n' sz c' b off' t m hg hb hc2 hoff hsh hm =>
   simp only [fy] at hs
   cases hk:s.at k <;> rw [hk] at hs <;> simp only [Option.some.injEq,Prod.mk.injEq,reduceCtorEq] at hs
   obtain ⟨_,rfl,_⟩:=hs; exact ⟨_,_,rfl⟩
  | refn k g sz hg hb =>
   simp only [fy] at hs
   cases hk:s.at k <;> rw [hk] at hs <;> simp only [Option.some.injEq,Prod.mk.injEq,reduceCtorEq] at hs
   obtain ⟨_,rfl,_⟩:=hs; exact ⟨_,_,rfl⟩
  | _=>cases hs
 obtain ⟨ad,c', rfl⟩:=hsl
 refine .pure h ?_ (.v _ rfl)
 have hconv:(convert src dst (.slice ad n c')).run P w = .ok (.string ⟨bs.toArray⟩) w:=by
  rw [run_convert_bytes_string w src dst e ad _ _ hu1 hu3 hu2]
  have hfc:=hS.cells
  cases ad with
  | none =>
   have h0:news.toArray = #[]:=by
    have:=hfc
    rw [run_firstCells_none] at this
    cases this; rfl
   have:bs = []:=KT (by rw [← hlen]; simpa using congrArg Array.size h0)
   subst this; rfl
  | some ad =>
   have hl:(loadCells ad n).run P w = .ok ((bs.map fun b=>((b.toNat:Nat):Int)).map (Ll .u8)).toArray w:=by
    rw [← hnews,← hfc]; simp [MZ]
   rw [run_bytesToString w ad _ _ _ hl,foldl_push]
   simp
 unfold execOp
 simp only [ho,hux,KL,hconv,KD,KN]

def sx (T:TT) (s:AS) (nm ky:Nat) (src dst:TypeId) (x:Operand):Ev :=
 match T.get src,T.get dst,dz s x with
 | some ts,some ⟨.slice e,_,_,_,_⟩,some (.v (.string b))=>match T.get e with
  | some ei=>.cond (fx ts.desc && t0 ei.desc && Kx b.size dX) (.ok (some (.ref ky nm 0 b.size 1)) [(ky,some (nm,.b ⟨b.data.toList.map dB,e,true⟩))])
  | none=>.stuck
 | _,_,_=>.stuck
theorem t7 (hT:T.ok P) (h:SR cx E s a w) (hi:i ∉ s.us) {nm ky:Nat} (hg:s.nx + 8 * i ≤ nm ∧ nm < s.nx + 8 * i + 8) {src dst:TypeId} {x:Operand} (ho:o.op = .convert src dst x) {v:Option D} {up:Up} (he:(sx T s nm ky src dst x).run v up) :
  bA P cx E s a w i o v up:=by
 unfold sx at he
 split at he
 case h_2=>exact he.elim
 case h_1 ts e z1 z2 z3 z4 b hsrc hdst hx =>
 split at he
 case h_2=>exact he.elim
 case h_1 ei hei =>
 obtain ⟨hc,rfl,rfl⟩:=he
 simp only [Ky] at hc
 obtain ⟨⟨hc1,hc2⟩,hc3⟩:=hc
 have hc3:=KB hc3
 have hu1:=(hT src _ hsrc).1
 have hu2:=(hT dst _ hdst).1
 have hu3:=(hT e _ hei).1
 rw [nA hc2] at hu3
 rw [mg hc1] at hu1
 have hr:=h.eval hx
 generalize hux:a.eval x = u at hr
 cases hr
 have hrun:=run_bytes_of_string (P:=P) w src dst e b hu1 hu2 hu3
 have hcg:=grownCap_ge w b.size 0 e
 have hcm:=grownCap_le_maxLen w b.size 0 e (by unfold maxLen; unfold dX at hc3; omega)
 have hrow:(bytesRow b (grownCap w b.size 0 e)).toList = byteCells b ++ KJ (grownCap w b.size 0 e - b.size) (.int .u8 0):=by
  simp [bytesRow,byteCells]
 have hsz:(bytesRow b (grownCap w b.size 0 e)).size = grownCap w b.size 0 e:=by
  have:=congrArg List.length hrow
  simp [byteCells_length] at this
  omega
 obtain ⟨q1,q2,q3,q4,q5⟩:=h.drew.new (ky:=ky) hi hg e (b.data.toList.map dB) (bytesRow b (grownCap w b.size 0 e)).toList true ((bytesRow b (grownCap w b.size 0 e)).size,(bytesRow b (grownCap w b.size 0 e)).size + 1)
  (.inr (by simp)) (by rw [hrow]; simp [byteCells]) (fun hh=>by cases hh) (fun j d hj=>by
   rw [List.getElem?_map,Lq] at hj
   obtain ⟨y,hy,rfl⟩:=hj
   have hlt:=(List.getElem?_eq_some_iff.1 hy).1
   exact ⟨.int .u8 y.toNat,by rw [hrow,List.getElem?_append_left (by rw [byteCells_length]; simpa using hlt)]; simp [byteCells,hy],rfl,.v _ rfl⟩)
 refine ⟨_,_,(Stp.drew _ w).trans q2,q1,⟨q5.own,q5.heap,q5.old⟩,.slice (some ⟨w.heap.size,0,none⟩) b.size (grownCap w b.size 0 e),?_,?_⟩
 ·unfold execOp
  simp only [ho,hux,KL,hrun,KD,KN,Lx]
 ·refine .ref ky nm 0 b.size 1 _ w.heap.size 0 e _ q3 q4 ⟨hcg,by unfold maxLen at hcm; unfold dX; omega⟩ (.inl rfl) (az (bz w.drew _)) ?_
  simp [hsz]

def sy (T:TT) (s:AS) (src dst:TypeId) (x:Operand):Ev :=
 match T.get src,dz s x with
 | some ⟨.slice e,_,_,_,_⟩,some (.ref k g off n sz)=>match T.get e,s.at k with
  | some ei,some p=>.cond (Kv src dst && t0 ei.desc && Kv g p.1 && Kx 1 n) (.ok (some (.ref k g off n sz)) [(k,some (g,.b p.2))])
  | _,_=>.stuck
 | _,_=>.stuck
theorem pg (w:World) (b o:Nat) (cur:Array Value) (t:TypeId) (fr:Nat × Nat) (hb:w.heap[b]? = some (.cells cur t fr)):(w.freeze ⟨b,o,none⟩ 1).heap[b]? = some (.cells cur t (if fr.1 == fr.2 then (o,o + 1) else (min fr.1 o,max fr.2 (o + 1)))):=by
 obtain ⟨lo,hi⟩:=fr
 unfold World.freeze
 rw [if_neg (by decide)]
 simp only [Array.getElem?_modify,if_true,hb,MW]
theorem nB (w:World) (b o:Nat):w.grownBy (w.freeze ⟨b,o,none⟩ 1) (some b) ∧ (w.freeze ⟨b,o,none⟩ 1).heap.size = w.heap.size:=by
 unfold World.freeze
 rw [if_neg (by decide)]
 refine ⟨⟨rfl,rfl,rfl,by simp,fun k hk hn=>?_⟩,by simp⟩
 simp only [Array.getElem?_modify]
 rw [if_neg (fun e=>hn (by rw [e]))]
theorem t8 (hT:T.ok P) (h:SR cx E s a w) {src dst:TypeId} {x:Operand} (ho:o.op = .convert src dst x) {v:Option D} {up:Up} (he:(sy T s src dst x).run v up):bA P cx E s a w i o v up:=by
 unfold sy at he
 split at he
 case h_2=>exact he.elim
 case h_1 e z1 z2 z3 z4 k g off n sz hti hx =>
 split at he
 case h_2=>exact he.elim
 case h_1 ei p hei hk =>
 obtain ⟨g', blk⟩:=p
 obtain ⟨hc,rfl,rfl⟩:=he
 simp only [Ky] at hc
 obtain ⟨⟨⟨c1,c2⟩,c3⟩,c4⟩:=hc
 have c1:=Kz c1
 have c3:=Kz c3
 have c4:=KB c4
 subst c1 c3
 have hu1:=TT.underlying hT hti w
 have hu3:=TT.underlying hT hei w
 rw [nA c2] at hu3
 have hr0:=h.eval hx
 generalize hux:a.eval x = ux at hr0
 have hr:=hr0
 cases hr with
 | refn=>omega
 | ref _ _ _ _ _ c b off' t m hg hb hc ho' hs hm =>
 obtain ⟨hlt,hown,cur,fr,hcur,hfz,hcl,hrow,hcell⟩:=h.block hk hb
 have hsh:w.shape? b = some (blk.elem,cur.size):=az hcur
 have hcur' := pg w b cur.size cur blk.elem fr hcur
 obtain ⟨hgr,hz⟩:=nB w b cur.size
 have hst:=h.storeG (i:=i) (o' := .b blk) (AS.at_iff.1 hk) hb (i :: s.us) (fun x hx=>KM _ hx) hgr hz (by rw [az hcur,az hcur']) fun E' hs' hn hp ho2=>by
  refine ⟨hn _ hg,?_⟩
  rw [hp,hb]
  refine ⟨ho2,by omega,cur,_,hcur', hfz.more,hcl,hrow,fun j d hj=>?_⟩
  obtain ⟨u,hu,h1,hru⟩:=hcell j d hj
  exact ⟨u,hu,h1,hru.step hs'⟩
 refine ⟨_,_,hst.2.1,hst.1,hst.2.2,.slice (some ⟨b,off', none⟩) n c,?_,hr0.step hst.2.1⟩
 unfold execOp
 simp [ho,hux,convert,hu1,hu3,markStringish,hsh,Nd,shape,freeze]
def LR (E:Env) (w:World) (ds:List D) (us:List Value):Prop:=us.length = ds.length ∧ (∀ (j:Nat) d u,ds[j]? = some d → us[j]? = some u → RD E w d u) ∧ ∀ u ∈ us,u.oneCell' = true

def io (place:Nat → Option (Nat × Nat)) (cells:List D):List (Nat × D) → Option (List D)
 | []=>some cells
 | (i,d) :: rest=>match place i with
  | none=>none
  | some (off,size)=>bif !d.isTup && Kv d.cells.length size && Kx (off + d.cells.length) cells.length then io place (af cells off d.cells) rest else none

theorem ip (off:Nat):∀ (l:List Value) (n:Nat) (cs:Array Value),(l.zipIdx n).foldl (fun cs (p:Value × Nat)=>cs.setIfInBounds (off + p.2) p.1) cs = setFrom cs (off + n) l
 | [],_,_=>rfl
 | v :: r,n,cs=>by
  rw [List.zipIdx_cons,NM,ip off r (n + 1)]; rfl
theorem pi:∀ (vs:List Value) (o:Nat) (cur:Array Value),o + vs.length ≤ cur.size → ∀ j:Nat,(setFrom cur o vs)[j]? = if o ≤ j ∧ j < o + vs.length then vs[j - o]? else cur[j]?:=by
 intro vs
 induction vs with
 | nil=>intro o cur _ j; rw [if_neg (by simp only [Ml]; omega)]; rfl
 | cons v r ih =>
  intro o cur hl j
  simp only [setFrom,KU] at hl ⊢
  rw [ih (o + 1) _ (by simp; omega) j]
  by_cases h1:j = o
  ·subst h1
   rw [if_neg (by omega),if_pos ⟨by omega,by omega⟩]
   simp only [LL,List.getElem?_cons_zero]
   rw [Array.getElem?_setIfInBounds_self_of_lt (by omega)]
  ·by_cases h2:o + 1 ≤ j ∧ j < o + 1 + r.length
   ·rw [if_pos h2,if_pos ⟨by omega,by omega⟩]
    have:j - o = (j - (o + 1)) + 1:=by omega
    rw [this,List.getElem?_cons_succ]
   ·rw [if_neg h2,if_neg (by omega),Array.getElem?_setIfInBounds_ne (fun e=>h1 e.symm)]

theorem LR.set {ds:List D} {us:List Value} (h:LR E w ds us) {d:D} {u:Value} (hr:RD E w d u) (ht:d.isTup = false) {off:Nat} (hl:off + d.cells.length ≤ ds.length) :
  LR E w (af ds off d.cells) (setFrom us.toArray off u.cells.toList).toList:=by
 obtain ⟨h1,h2,h3⟩:=h
 obtain ⟨c1,c2,c3⟩:=hr.cellsOf ht
 have hl2:off + u.cells.toList.length ≤ us.toArray.size:=by rw [c1]; simpa [h1] using hl
 have hget:=pi u.cells.toList off us.toArray hl2
 refine ⟨by rw [Np,setFrom_size,cF hl]; simpa using h1,fun j e v he hv=>?_,fun v hv=>?_⟩
 ·rw [Array.getElem?_toList,hget] at hv
  rw [cd hl] at he
  rw [c1] at hv
  split at he
  ·rename_i hc
   rw [if_pos hc] at hv
   obtain ⟨v', hv', _,hr'⟩:=c3 _ e he
   rw [hv'] at hv; cases hv; exact hr'
  ·rename_i hc
   rw [if_neg hc] at hv
   exact h2 j e v he (by simpa using hv)
 ·obtain ⟨j,hj⟩:=List.getElem?_of_mem hv
  rw [Array.getElem?_toList,hget] at hj
  split at hj
  ·exact c2 v (List.mem_of_getElem? hj)
  ·exact h3 v (List.mem_of_getElem? (by simpa using hj))

theorem g6 (place:Nat → Option (Nat × Nat)):∀ (ps:List (Nat × D)) (qs:List (Nat × Value)) (ds ds' : List D) (us:List Value),LR E w ds us → io place ds ps = some ds' →
  qs.length = ps.length → (∀ (j:Nat) p q,ps[j]? = some p → qs[j]? = some q → p.1 = q.1 ∧ RD E w p.2 q.2) → ∃ us', N9 place us.toArray qs = some us'.toArray ∧ LR E w ds' us'
 | [],qs,ds,ds', us,h,hf,hl,_=>by
  cases hf
  cases qs with
  | nil=>exact ⟨us,rfl,h⟩
  | cons=>simp at hl
 | (n,d) :: ps,qs,ds,ds', us,h,hf,hl,hp=>by
  cases qs with
  | nil=>simp at hl
  | cons q qs =>
  obtain ⟨n', u⟩:=q
  obtain ⟨rfl,hr⟩:=hp 0 (n,d) (n', u) rfl rfl
  simp only [io] at hf
  cases hpl:place n with
  | none=>rw [hpl] at hf; cases hf
  | some os =>
  obtain ⟨off,size⟩:=os
  rw [hpl] at hf
  dsimp only at hf
  cases hc:(!d.isTup && Kv d.cells.length size && Kx (off + d.cells.length) ds.length) with
  | false=>rw [hc] at hf; cases hf
  | true =>
  rw [hc,cond_true] at hf
  simp only [Ky,L9] at hc
  obtain ⟨⟨ht,hsz⟩,hle⟩:=hc
  have hsz:=Kz hsz
  have hle:=KB hle
  have hcl:=(hr.cellsOf ht).1
  obtain ⟨us', hu', hl'⟩:=g6 place ps qs _ ds' _ (h.set hr ht hle) hf (by simpa using hl) (fun j p q a1 a2=>hp (j + 1) p q (by simpa using a1) (by simpa using a2))
  refine ⟨us', ?_,hl'⟩
  rw [N9]
  rw [hpl]
  have e1:u.cells.size = size:=by rw [← hsz,← hcl]; simp
  have e2:¬ (u.cells.size ≠ size ∨ us.toArray.size < off + u.cells.size):=by
   intro hh
   rcases hh with hh | hh
   ·exact hh e1
   ·have:=h.1; rw [e1,← hsz] at hh; simp at hh; omega
  have e3:u.cells.zipIdx.foldl (fun cs (p:Value × Nat)=>cs.setIfInBounds (off + p.2) p.1) us.toArray = setFrom us.toArray off u.cells.toList:=by
   have:=ip off u.cells.toList 0 us.toArray
   rw [MG] at this
   rw [← this,← Oa,Array.toList_zipIdx]
  simp only [ne_eq,Mx,decide_eq_true_eq] at e2 ⊢
  rw [Lx] at hu'
  rw [← hu', ← e3]
  simp only [gt_iff_lt]
  rw [if_neg (by simpa using e2)]

def eH (s:AS):List (Nat × Operand) → Option (List (Nat × D))
 | []=>some []
 | (n,x) :: r=>match dz s x,eH s r with
  | some d,some l=>some ((n,d) :: l)
  | _,_=>none
theorem f8 (h:SR cx E s a w):∀ (ps:List (Nat × Operand)) (ds:List (Nat × D)),eH s ps = some ds → (ps.map fun (n,x)=>(n,a.eval x)).length = ds.length ∧ ∀ (j:Nat) p q,ds[j]? = some p → (ps.map fun (n,x)=>(n,a.eval x))[j]? = some q → p.1 = q.1 ∧ RD E w p.2 q.2
 | [],ds,hd=>by cases hd; exact ⟨rfl,fun j p q hp=>by simp at hp⟩
 | (n,x) :: r,ds,hd=>by
  simp only [eH] at hd
  split at hd
  case h_2=>cases hd
  case h_1 d l hx hl =>
  cases hd
  obtain ⟨h1,h2⟩:=f8 h r l hl
  refine ⟨by simp only [MC,KU,h1],fun j p q hp hq=>?_⟩
  cases j with
  | zero=>simp at hp hq; subst hp hq; exact ⟨rfl,h.eval hx⟩
  | succ j=>exact h2 j p q (by simpa using hp) (by simpa using hq)

def iq (T:TT):List Field → Option (List (Nat × Nat))
 | []=>some []
 | f :: r=>match T.get f.type,iq T r with
  | some fi,some l=>some ((f.offset,fi.size) :: l)
  | _,_=>none
theorem ir (hT:T.ok P):∀ (fs:List Field) (l:List (Nat × Nat)),iq T fs = some l → fs.mapM (fun f=>(P.info? f.type).map fun i=>(f.offset,i.size)) = some l
 | [],l,h=>by cases h; rfl
 | f :: r,l,h=>by
  simp only [iq] at h
  split at h
  case h_2=>cases h
  case h_1 fi l' hf hl =>
  cases h
  obtain ⟨_,_,⟨j,h2,_,h4,_⟩,_⟩:=hT _ _ hf
  simp [NU,h2,h4,ir hT r l' hl]

def jX (T:TT) (s:AS) (t:TypeId) (parts:Array (Nat × Operand)):Ev :=
 match T.get t,eH s parts.toList with
 | some ti,some ps=>match ti.desc with
  | .struct fs=>match iq T fs.toList with
   | some pl=>match io (fun n:Nat=>pl[n]?) (bm ti.zero).cells ps with
    | some cells=>.cond (dw ti.zero && !(bm ti.zero).isTup) (.ok (some (.agg cells)) [])
    | none=>.stuck
   | none=>.stuck
  | .array _ e=>match T.get e with
   | some ei=>match io (fun i=>some (i * ei.size,ei.size)) (bm ti.zero).cells ps with
    | some cells=>.cond (dw ti.zero && !(bm ti.zero).isTup) (.ok (some (.agg cells)) [])
    | none=>.stuck
   | none=>.stuck
  | _=>.stuck
 | _,_=>.stuck

theorem nC (E:Env) (w:World) {z:Value} (h1:dw z = true) (h2:(bm z).isTup = false):LR E w (bm z).cells z.cells.toList:=by
 obtain ⟨c1,c2,c3⟩:=(RD.const E w z h1).cellsOf h2
 exact ⟨c1,fun j d u hd hu=>by obtain ⟨v,hv,_,hr⟩:=c3 j d hd; rw [hv] at hu; cases hu; exact hr,c2⟩

theorem pj (hT:T.ok P) (h:SR cx E s a w) {t:TypeId} {parts:Array (Nat × Operand)} (ho:o.op = .build t parts) {v:Option D} {up:Up} (he:(jX T s t parts).run v up):bA P cx E s a w i o v up:=by
 unfold jX at he
 split at he
 case h_2=>exact he.elim
 case h_1 ti ps hti hps =>
 obtain ⟨p1,p2⟩:=f8 h _ _ hps
 obtain ⟨hu,_,⟨j,hj1,hj2,hj3,hj4⟩,_⟩:=hT t ti hti
 have fin:∀ (place:Nat → Option (Nat × Nat)) (cells:List D),(∀ us:List Value,N9 place ti.zero.cells (parts.toList.map fun (n,x)=>(n,a.eval x)) = some us.toArray → P.built t (parts.toList.map fun (n,x)=>(n,a.eval x)) = some us.toArray) →
   io place (bm ti.zero).cells ps = some cells → (dw ti.zero && !(bm ti.zero).isTup) = true → bA P cx E s a w i o (some (.agg cells)) []:=by
  intro place cells hb hf hc
  rw [Ky] at hc
  obtain ⟨us,hu', hl1,hl2,hl3⟩:=g6 place ps _ _ cells _ (nC E w hc.1 (by simpa using hc.2)) hf p1 p2
  rw [Lx] at hu'
  have hrun:=run_build (P:=P) w t (parts.map fun (n,x)=>(n,a.eval x)) us.toArray (by rw [Mc]; exact hb us hu')
  refine .pure h (u:=.agg us.toArray) ?_ (.agg _ _ hl1 hl2 hl3)
  unfold execOp
  simp only [ho,KL,hrun,KD,KN]
 split at he
 case h_1 fs hd =>
  split at he
  case h_2=>exact he.elim
  case h_1 pl hpl =>
  split at he
  case h_2=>exact he.elim
  case h_1 cells hf =>
  obtain ⟨hc,rfl,rfl⟩:=he
  refine fin (fun n:Nat=>pl[n]?) cells (fun us hus=>?_) hf hc
  have hm:=ir hT fs.toList pl hpl
  rw [hd] at hu
  unfold Program.built
  rw [hj1,hu]
  simp only [hj2,hm]
  have:(fun n:Nat=>pl.toArray[n]?) = fun n:Nat=>pl[n]?:=by funext n; simp
  rw [this]; exact hus
 case h_2 len e hd =>
  split at he
  case h_2=>exact he.elim
  case h_1 ei hei =>
  split at he
  case h_2=>exact he.elim
  case h_1 cells hf =>
  obtain ⟨hc,rfl,rfl⟩:=he
  refine fin _ cells (fun us hus=>?_) hf hc
  obtain ⟨_,_,⟨j', hj1', _,hj3', _⟩,_⟩:=hT e ei hei
  rw [hd] at hu
  unfold Program.built
  rw [hj1,hu]
  simp only [hj2,hj1', hj3']
  exact hus
 case h_3=>exact he.elim
end
end Go.Vx
namespace Go.Vx
open Go.RowKit Go.Bw
section
variable {P:Program} {cx:Cx} {E:Env} {s:AS} {a:Act} {w:World} {i:Nat} {o:Oper} {T:TT}

def co (zc:List D) (n:Nat):List D:=(Lf n).map fun j=>zc.getD (j % zc.length) i4
theorem qZ {α:Type} (f:Nat → α):(NA 0).map f = #[]:=by simp
theorem vB {zc:List D} {z:Array Value} (h:LR E w zc z.toList) (n:Nat) (hn:n = 0 ∨ 0 < zc.length):LR E w (co zc n) ((NA n).map (z[· % z.size]!)).toList:=by
 obtain ⟨h1,h2,h3⟩:=h
 have hz:z.size = zc.length:=by simpa using h1
 have key:∀ j,j < n → ∃ u,z[j % z.size]! = u ∧ u.oneCell' = true ∧ RD E w (zc.getD (j % zc.length) i4) u:=fun j hj=>by
  have hp:0 < zc.length:=by omega
  have hlt:j % zc.length < z.size:=by rw [hz]; exact N8 _ hp
  refine ⟨z[j % zc.length],by rw [hz]; simp [hlt],h3 _ (by simp),h2 (j % zc.length) _ _ ?_ (by simp [hlt])⟩
  rw [List.getD_eq_getElem?_getD,List.getElem?_eq_getElem (by omega),Option.getD_some]
 refine ⟨by simp [co],fun j d u hd hu=>?_,fun u hu=>?_⟩
 ·rcases K3 j n with hj | hj
  ·obtain ⟨u', e,_,hr⟩:=key j hj
   simp [co,hj] at hd
   simp [hj] at hu
   subst hd
   have:z[j % z.size]! = u:=hu
   rw [← this,e]
   simpa using hr
  ·simp [co,hj] at hd
 ·simp only [Mc,Nr] at hu
  obtain ⟨j,hj,rfl⟩:=hu
  have hj:j < n:=by simpa using hj
  obtain ⟨u', e,h1', _⟩:=key j hj
  rw [e]; exact h1'

def dR (T:TT) (s:AS) (nm ky:Nat) (t:TypeId) (len:Nat) (parts:Array (Nat × Operand)):Ev :=
 match T.get t,eH s parts.toList with
 | some ⟨.slice e,_,_,_,_⟩,some ps=>match T.get e with
  | some ei=>match io (fun i=>some (i * ei.size,ei.size)) (co (bm ei.zero).cells (len * ei.size)) ps with
   | some cells=>.cond (dw ei.zero && !(bm ei.zero).isTup && Kx (len * ei.size) 16777216 && decide (0 < ei.size)) (.ok (some (.ref ky nm 0 len ei.size)) [(ky,some (nm,.b ⟨cells,e,false⟩))])
   | none=>.stuck
  | none=>.stuck
 | _,_=>.stuck

theorem iV (hT:T.ok P) (h:SR cx E s a w) (hi:i ∉ s.us) {nm ky:Nat} (hg:s.nx + 8 * i ≤ nm ∧ nm < s.nx + 8 * i + 8) {t:TypeId} {len:Nat} {parts:Array (Nat × Operand)} (ho:o.op = .buildSlice t len parts) {v:Option D} {up:Up}
  (he:(dR T s nm ky t len parts).run v up):bA P cx E s a w i o v up:=by
 unfold dR at he
 split at he
 case h_2=>exact he.elim
 case h_1 e z1 z2 z3 z4 ps hti hps =>
 split at he
 case h_2=>exact he.elim
 case h_1 ei hei =>
 split at he
 case h_2=>exact he.elim
 case h_1 cells hf =>
 obtain ⟨hc,rfl,rfl⟩:=he
 simp only [Ky,decide_eq_true_eq] at hc
 obtain ⟨⟨⟨hc1,hc2⟩,hc3⟩,hc4⟩:=hc
 have hc3:=KB hc3
 obtain ⟨p1,p2⟩:=f8 h _ _ hps
 obtain ⟨hu,hzl,⟨j0,hj1,hj2,hj3,hj4⟩,_⟩:=hT e ei hei
 have hz:=nC E w hc1 (by simpa using hc2)
 have hzl2:0 < (bm ei.zero).cells.length:=by rw [← hz.1]; simp [hzl,hc4]
 have hrep:=vB hz (len * ei.size) (.inr hzl2)
 obtain ⟨us,hus,hl1,hl2,hl3⟩:=g6 _ ps _ _ cells _ hrep hf p1 p2
 rw [Lx] at hus
 have hcl:cells.length = len * ei.size:=by
  have:∀ (ps:List (Nat × D)) (ds:List D),io (fun i=>some (i * ei.size,ei.size)) ds ps = some cells → cells.length = ds.length:=by
   intro ps
   induction ps with
   | nil=>intro ds hd; cases hd; rfl
   | cons p ps ih =>
    obtain ⟨n,d⟩:=p
    intro ds hd
    simp only [io] at hd
    cases hq:(!d.isTup && Kv d.cells.length ei.size && Kx (n * ei.size + d.cells.length) ds.length) with
    | false=>rw [hq] at hd; cases hd
    | true =>
     rw [hq] at hd
     simp only [Ky] at hq
     rw [ih _ hd,cF (KB hq.2)]
  rw [this ps _ hf]; simp [co]
 have hrun:(NF t len (parts.map fun (n,x)=>(n,a.eval x))).run P w = .ok (.slice (some ⟨w.heap.size,0,none⟩) len len) (w.alloc (.cells us.toArray e)):=by
  have hne:¬ (2 ^ 24 < len * ei.size):=by
   have:(2:Nat) ^ 24 = 16777216:=by decide
   omega
  have e3:(parts.map fun (n,x)=>(n,a.eval x)).toList = parts.toList.map fun (n,x)=>(n,a.eval x):=by simp
  by_cases h0:len * ei.size = 0
  ·have hus' : N9 (fun i=>some (i * ei.size,ei.size)) #[] (parts.toList.map fun (n,x)=>(n,a.eval x)) = some us.toArray:=by rw [← hus,h0,qZ]
   simp only [NF,KL,TT.underlying hT hti w,KD,TT.sizeOf hT hei w,gt_iff_lt,hne,if_false,KN,Mn,h0,if_true,e3,newRow,newObj,Nd]
   rw [qZ,hus']
   rfl
  ·simp only [NF,KL,TT.underlying hT hti w,KD,TT.sizeOf hT hei w,gt_iff_lt,hne,if_false,KN,Mn,h0,TT.zeroValue hT hei w,e3,hus,newRow,newObj,Nd]
   rfl
 refine bA.block h hi hg e cells us false (0,0) (e9.zero _) (by omega) (fun _=>hl1) (fun j d hj=>?_) _ (.slice (some ⟨w.heap.size,0,none⟩) len len) ?_ (fun E' hn hp=>?_)
 ·have hlt:j < us.length:=by rw [hl1]; exact (List.getElem?_eq_some_iff.1 hj).1
  exact ⟨us[j],by simp [hlt],hl3 _ (Ld hlt),hl2 j d _ hj (by simp [hlt])⟩
 ·unfold execOp
  simp only [ho,KL,hrun,KD,KN]
 ·have hle:len ≤ len * ei.size:=M3 _ hc4
  refine .ref ky nm 0 len ei.size len w.heap.size 0 e _ hn hp ⟨KG _,by unfold dX; omega⟩ (.inl rfl) (az (bz w _)) ?_
  simp [hl1,hcl]

def nE (T:TT) (s:AS) (nm ky:Nat) (t:TypeId) (l c:Operand):Ev :=
 match T.get t,dz s l,dz s c with
 | some ⟨.slice e,_,_,_,_⟩,some (.v (.int _ l)),some (.v (.int _ c))=>match T.get e with
  | some ei=>.cond (decide (0 ≤ l) && decide (l ≤ c) && dw ei.zero && !(bm ei.zero).isTup && decide (0 < ei.size) && decide (0 < ei.bytes) && decide (ei.bytes * c ≤ 140737488355328))
    (.ok (some (.ref ky nm 0 l.toNat ei.size)) [(ky,some (nm,.b ⟨co (bm ei.zero).cells (l.toNat * ei.size),e,true⟩))])
  | none=>.stuck
 | _,_,_=>.stuck
theorem q6 (hT:T.ok P) (h:SR cx E s a w) (hi:i ∉ s.us) {nm ky:Nat} (hg:s.nx + 8 * i ≤ nm ∧ nm < s.nx + 8 * i + 8) {t:TypeId} {l c:Operand} (ho:o.op = .makeSlice t l c) {v:Option D} {up:Up} (he:(nE T s nm ky t l c).run v up) :
  bA P cx E s a w i o v up:=by
 unfold nE at he
 split at he
 case h_2=>exact he.elim
 case h_1 e z1 z2 z3 z4 kl zl kc zc hti hl hc0 =>
 split at he
 case h_2=>exact he.elim
 case h_1 ei hei =>
 obtain ⟨hc,rfl,rfl⟩:=he
 simp only [Ky,decide_eq_true_eq] at hc
 obtain ⟨⟨⟨⟨⟨⟨h0,h1⟩,hz1⟩,hz2⟩,hsz⟩,hby⟩,hfit⟩:=hc
 have hrl:=h.eval hl
 have hrc:=h.eval hc0
 generalize hul:a.eval l = ul at hrl
 generalize huc:a.eval c = uc at hrc
 cases hrl; cases hrc
 obtain ⟨hu,hzl,⟨j0,hj1,hj2,hj3,hj4⟩,_⟩:=hT e ei hei
 obtain ⟨n,rfl⟩:=Lo h0
 obtain ⟨m,rfl⟩:=Lo (Int.le_trans h0 h1)
 have hnm:n ≤ m:=by omega
 have hm:m ≤ 140737488355328:=by
  have:m ≤ ei.bytes * m:=Nat.le_mul_of_pos_left _ hby
  have hf:ei.bytes * m ≤ 140737488355328:=by
   have h9:((ei.bytes * m:Nat):Int) ≤ 140737488355328:=by rw [OA]; exact hfit
   omega
  omega
 have hz:=nC E w hz1 (by simpa using hz2)
 have hzl2:0 < (bm ei.zero).cells.length:=by rw [← hz.1]; simp [hzl,hsz]
 obtain ⟨q1,q2,q3⟩:=vB hz (m * ei.size) (.inr hzl2)
 have hrun:(NN t (.int kl (n:Int)) (.int kc (m:Int))).run P w = .ok (.slice (some ⟨w.heap.size,0,none⟩) n m) (w.alloc (.cells ((NA (m * ei.size)).map (ei.zero.cells[· % ei.zero.cells.size]!)) e)):=by
  have w1:IntKind.i64.wrap (n:Int) = (n:Int):=by rw [Ok]; omega
  have w2:IntKind.i64.wrap (m:Int) = (m:Int):=by rw [Ok]; omega
  have hti' : (typeInfo e).run P w = .ok j0 w:=by
   unfold typeInfo
   show (match P.info? e with | some i=>(Pure.pure i:Sem TypeInfo) | none=>stuck _).run P w = _
   rw [hj1]; rfl
  have hask:∀ k,(askRoom k).run P w = .ok () w:=fun k=>by unfold askRoom; split <;> rfl
  have hb1:(decide ((m:Int) < 0) || decide ((j0.bytes:Int) * (m:Int) > 2 ^ 48)) = false:=by
   rw [hj4]
   have:(2:Int) ^ 48 = 281474976710656:=by decide
   simp only [MQ,decide_eq_false_iff_not]
   omega
  have hb2:(decide ((n:Int) < 0) || decide ((n:Int) > (m:Int))) = false:=by
   simp only [MQ,decide_eq_false_iff_not]; omega
  by_cases h0:m * ei.size = 0
  ·simp only [NN,asInt,asIntOf,KL,TT.underlying hT hti w,KD,TT.sizeOf hT hei w,KN,hti', w1,w2,hb1,N7,hb2,LN,if_false,hask,LX,Mn,h0,if_true,newRow,newObj,Nd,qZ]
   rfl
  ·simp only [NN,asInt,asIntOf,KL,TT.underlying hT hti w,KD,TT.sizeOf hT hei w,KN,hti', w1,w2,hb1,N7,hb2,LN,if_false,hask,LX,Mn,h0,TT.zeroValue hT hei w,newRow,newObj,Nd]
   rfl
 refine bA.block h hi hg e _ ((NA (m * ei.size)).map (ei.zero.cells[· % ei.zero.cells.size]!)).toList true (0,0) (e9.zero _) ?_ (fun hh=>by cases hh) (fun j d hj=>?_) _ (.slice (some ⟨w.heap.size,0,none⟩) n m) ?_ (fun E' hn hp=>?_)
 ·simp [co]; exact Lc _ hnm
 ·have hlt:j < n * ei.size:=by
   have:=(List.getElem?_eq_some_iff.1 hj).1
   simpa [co] using this
  have hlt2:j < m * ei.size:=K5 hlt (Lc _ hnm)
  have hj' : (co (bm ei.zero).cells (m * ei.size))[j]? = some d:=by
   simp [co,hlt] at hj
   simp [co,hlt2,hj]
  have hlt3:j < ((NA (m * ei.size)).map (ei.zero.cells[· % ei.zero.cells.size]!)).toList.length:=by simpa using hlt2
  exact ⟨_,List.getElem?_eq_getElem hlt3,q3 _ (Ld hlt3),q2 j d _ hj' (List.getElem?_eq_getElem hlt3)⟩
 ·unfold execOp
  simp only [ho,hul,huc,KL,hrun,KD,KN,Lx]
 ·refine .ref ky nm 0 n ei.size m w.heap.size 0 e _ hn hp ⟨hnm,by unfold dX; omega⟩ (.inl rfl) (az (bz w _)) ?_
  simp

def eP (s:AS):List Operand → Option (List D)
 | []=>some []
 | x :: r=>match dz s x,eP s r with
  | some d,some l=>some (d :: l)
  | _,_=>none
theorem dq (h:SR cx E s a w):∀ (xs:List Operand) (ds:List D),eP s xs = some ds → (xs.map a.eval).length = ds.length ∧ ∀ (j:Nat) d u,ds[j]? = some d → (xs.map a.eval)[j]? = some u → RD E w d u
 | [],ds,hd=>by cases hd; exact ⟨rfl,fun j p q hp=>by simp at hp⟩
 | x :: r,ds,hd=>by
  simp only [eP] at hd
  split at hd
  case h_2=>cases hd
  case h_1 d l hx hl =>
  cases hd
  obtain ⟨h1,h2⟩:=dq h r l hl
  refine ⟨by simp only [MC,KU,h1],fun j p q hp hq=>?_⟩
  cases j with
  | zero=>simp at hp hq; subst hp hq; exact h.eval hx
  | succ j=>exact h2 j p q (by simpa using hp) (by simpa using hq)

def nF (s:AS) (f:Fn) (fi ca:Array Operand):Ev :=
 match eP s fi.toList,eP s ca.toList with
 | some l,some m=>.ok (some (.fn f l m)) []
 | _,_=>.stuck
theorem q8 (h:SR cx E s a w) {f:Fn} {fi ca:Array Operand} (ho:o.op = .makeFunc f fi ca) {v:Option D} {up:Up} (he:(nF s f fi ca).run v up):bA P cx E s a w i o v up:=by
 unfold nF at he
 split at he
 case h_2=>exact he.elim
 case h_1 l m hl hm =>
 obtain ⟨rfl,rfl⟩:=he
 obtain ⟨a1,a2⟩:=dq h _ _ hl
 obtain ⟨b1,b2⟩:=dq h _ _ hm
 refine .pure h (u:=.func f (fi.toList.map a.eval).toArray (ca.toList.map a.eval).toArray) ?_ (.fn f l m _ _ a1 b1 a2 b2)
 unfold execOp
 simp only [ho,Instr.makeFunc,KL,KN,KD]
 have e1:(fi.toList.map a.eval).toArray = fi.map a.eval:=by apply LV; simp
 have e2:(ca.toList.map a.eval).toArray = ca.map a.eval:=by apply LV; simp
 rw [e1,e2]

def yg (T:TT) (s:AS) (x:Operand) (asserted:TypeId) (ok:Bool):Ev :=
 match T.get asserted,dz s x with
 | some ti,some (.ifc t d)=>.cond (!jM ti.desc) (bif Kv t asserted then (bif ok then .ok (some (.tup [d,.v (.bool true)])) [] else .ok (some d) [])
   else .cond (ok && dw ti.zero) (.ok (some (.tup [bm ti.zero,.v (.bool false)])) []))
 | _,_=>.stuck
theorem vC (hT:T.ok P) (h:SR cx E s a w) {x:Operand} {xt asserted:TypeId} {ok:Bool} (ho:o.op = .typeAssert x xt asserted ok) {v:Option D} {up:Up} (he:(yg T s x asserted ok).run v up):bA P cx E s a w i o v up:=by
 unfold yg at he
 split at he
 case h_2=>exact he.elim
 case h_1 ti t d hti hx =>
 obtain ⟨hc,he⟩:=he
 have hr:=h.eval hx
 generalize hux:a.eval x = ux at hr
 cases hr with
 | ifc _ _ u hr =>
 have hund:=TT.underlying hT hti w
 have hni:∀ ms,ti.desc ≠ .interface ms:=fun ms e=>by rw [e] at hc; simp [jM] at hc
 have run1:t = asserted → (execOp a.eval o).run P w = .ok (.value (if ok then .tuple #[u,.bool true] else u)) w:=fun e=>by
  subst e
  unfold execOp
  simp only [ho,hux,Ol,KL,hund,KD]
  cases hd:ti.desc <;> first | exact absurd hd (hni _) | (simp only [if_true,KN,KD])
 cases hb:Kv t asserted with
 | true =>
  have e:=Kz hb
  simp only [hb,cond_true] at he
  cases ok with
  | true =>
   simp only [cond_true] at he
   obtain ⟨rfl,rfl⟩:=he
   refine .pure h (run1 e) (.tup _ [u,.bool true] rfl fun j d' u' a1 a2=>?_)
   match j with
   | 0=>simp at a1 a2; subst a1 a2; exact hr
   | 1=>simp at a1 a2; subst a1 a2; exact .v _ rfl
   | j + 2=>simp at a1
  | false =>
   simp only [cond_false] at he
   obtain ⟨rfl,rfl⟩:=he
   exact .pure h (run1 e) hr
 | false =>
  simp only [hb,cond_false] at he
  obtain ⟨hk,rfl,rfl⟩:=he
  rw [Ky] at hk
  obtain ⟨rfl,hco⟩:=hk
  have hne:t ≠ asserted:=fun e=>by subst e; rw [Ly] at hb; cases hb
  refine .pure h (u:=.tuple #[ti.zero,.bool false]) ?_ (.tup _ [ti.zero,.bool false] rfl fun j d' u' a1 a2=>?_)
  ·unfold execOp
   simp only [ho,hux,Ol,KL,hund,KD]
   cases hd:ti.desc <;> first | exact absurd hd (hni _) | (simp only [hne,if_false,if_true,KL,TT.zeroValue hT hti w,KN,KD])
  ·match j with
   | 0=>simp at a1 a2; subst a1 a2; exact RD.const E w _ hco
   | 1=>simp at a1 a2; subst a1 a2; exact .v _ rfl
   | j + 2=>simp at a1
end
end Go.Vx
namespace Go.Vx
open Go.RowKit Go.Bw

mutual
def D.closed:D → Bool
 | .v _=>true
 | .sl _ _ _ _=>true
 | .agg cs=>aa cs
 | .tup cs=>aa cs
 | .ifc _ x=>x.closed
 | .fn _ fi ca=>aa fi && aa ca
 | _=>false
def aa:List D → Bool
 | []=>true
 | d :: r=>d.closed && aa r
end
theorem aV {l:List D}:aa l = true ↔ ∀ d ∈ l,d.closed = true:=by
 induction l with
 | nil=>simp [aa]
 | cons x l ih=>simp [aa,ih]
theorem aW {l:List D} (h:aa l = true) {j:Nat} {d:D} (hj:l[j]? = some d):d.closed = true:=aV.1 h d (List.mem_of_getElem? hj)
theorem yh (bs:List UInt8):aa (bs.map dB) = true:=aV.2 fun d hd=>by simp only [Nr] at hd; obtain ⟨b,_,rfl⟩:=hd; rfl
theorem yi {l:List D} (h:aa l = true) (n:Nat):aa (l.take n) = true:=aV.2 fun d hd=>aV.1 h d (Lt hd)
theorem yj {l:List D} (h:aa l = true) (n:Nat):aa (l.drop n) = true:=aV.2 fun d hd=>aV.1 h d (MA hd)

theorem RD.weak {E:Env} {w:World} {d:D} {u:Value} (h:RD E w d u):d.closed = true → RD E.cl w d u:=by
 induction h with
 | v c h=>exact fun _=>.v c h
 | @sl E w nn n size cells a c us hlen hd h1 hn hp hc h0 hr ih=>exact fun _=>.sl nn n size cells a c us hlen hd h1 hn hp hc h0 hr
 | agg cs us hlen _ h1 ih=>exact fun hc=>.agg cs us hlen (fun i d u a1 a2=>ih i d u a1 a2 (aW hc a1)) h1
 | tup cs us hlen _ ih=>exact fun hc=>.tup cs us hlen (fun i d u a1 a2=>ih i d u a1 a2 (aW hc a1))
 | ifc t x u _ ih=>exact fun hc=>.ifc t x u (ih hc)
 | fn f fi ca us vs hl1 hl2 _ _ ih1 ih2 =>
  intro hc
  simp only [D.closed,Ky] at hc
  exact .fn f fi ca us vs hl1 hl2 (fun i d u a1 a2=>ih1 i d u a1 a2 (aW hc.1 a1)) (fun i d u a1 a2=>ih2 i d u a1 a2 (aW hc.2 a1))
 | _=>intro hc; cases hc

def cG (cells:List D) (off m:Nat):List D:=bif Kv off 0 && Kv m cells.length then cells else (cells.drop off).take m
theorem f9 (cells:List D) (off m:Nat):cG cells off m = (cells.drop off).take m:=by
 unfold cG
 cases hq:(Kv off 0 && Kv m cells.length) with
 | false=>rfl
 | true =>
  rw [Ky] at hq
  have e1:=Kz hq.1
  have e2:=Kz hq.2
  subst e1
  rw [cond_true,Ma,e2,LF]

mutual
def vD:D → List Nat
 | .ref k _ _ _ _=>[k]
 | .ptr k _ _=>[k]
 | .agg cs=>mh cs
 | .tup cs=>mh cs
 | .ifc _ x=>vD x
 | .fn _ fi ca=>mh fi ++ mh ca
 | .yl k _=>[k]
 | _=>[]
def mh:List D → List Nat
 | []=>[]
 | d :: r=>vD d ++ mh r
end

def gS:List Nat → Nat → Option Nat
 | [],_=>none
 | x :: r,k=>bif Kv x k then some 0 else match gS r k with
  | some j=>some (j + 1)
  | none=>none
theorem gD:∀ {fp:List Nat} {k j:Nat},gS fp k = some j → fp[j]? = some k
 | [],k,j,h=>by cases h
 | x :: r,k,j,h=>by
  simp only [gS] at h
  cases hb:Kv x k with
  | true=>rw [hb] at h; cases h; rw [Kz hb]; rfl
  | false =>
   rw [hb] at h
   dsimp only [cond_false] at h
   split at h
   ·rename_i j' hj'; cases h; rw [List.getElem?_cons_succ]; exact gD hj'
   ·cases h
theorem g7:∀ {fp:List Nat} {k:Nat},gS fp k = none → k ∉ fp
 | [],k,_=>by simp
 | x :: r,k,h=>by
  simp only [gS] at h
  cases hb:Kv x k with
  | true=>rw [hb] at h; cases h
  | false =>
   rw [hb] at h
   dsimp only [cond_false] at h
   split at h
   ·cases h
   ·rename_i hn
    intro hm
    rcases List.mem_cons.1 hm with rfl | hm
    ·simp at hb
    ·exact g7 hn hm

def t9 (s:AS) (fp:List Nat):D → Option (Bool × D)
 | .ref k g off n sz=>match s.at k with
  | some p=>match gS fp k with
   | some _=>none
   | none=>some (Kv g p.1 && Kx (off + n * sz) p.2.cells.length && Kx 1 sz && aa (cG p.2.cells off (n * sz)),.sl (Kx 1 n) n sz (cG p.2.cells off (n * sz)))
  | none=>none
 | d=>some (d.closed,d)
def jp (s:AS) (fp:List Nat):List D → Option (Bool × List D)
 | []=>some (true,[])
 | d :: r=>match t9 s fp d,jp s fp r with
  | some p,some q=>some (p.1 && q.1,p.2 :: q.2)
  | _,_=>none
def ua (s:AS) (fp:List Nat) (b:Blk) (off m:Nat):Option (Bool × List D):=bif b.row then some (aa (cG b.cells off m),cG b.cells off m) else jp s fp (cG b.cells off m)
def fU (s:AS) (fp:List Nat):List D → Bool × List D
 | []=>(true,[])
 | d :: r=>match t9 s fp d with
  | some p=>(p.1 && (fU s fp r).1,p.2 :: (fU s fp r).2)
  | none=>(true,[])
def lV (s:AS) (fp:List Nat) (b:Blk):Bool × List D:=bif b.row then (aa (cG b.cells 0 b.cells.length),cG b.cells 0 b.cells.length) else fU s fp (cG b.cells 0 b.cells.length)
mutual
def kC (s:AS) (al:Bool) (fp:List Nat):D → Option (Bool × D)
 | .v c=>some (true,.v c)
 | .sl nn n sz cells=>some (true,.sl nn n sz cells)
 | .ref k g off n sz=>match s.at k with
  | some p=>match gS fp k with
   | some j=>some (Kv g p.1,.ref j j off n sz)
   | none=>match ua s fp p.2 off (n * sz) with
    | some c=>some (!al && (Kv g p.1 && Kx (off + n * sz) p.2.cells.length && Kx 1 sz && c.1),.sl (Kx 1 n) n sz c.2)
    | none=>none
  | none=>none
 | .ptr k g off=>match s.at k with
  | some p=>match gS fp k with
   | some j=>some (Kv g p.1,.ptr j j off)
   | none=>some (!al && (Kv g p.1 && (lV s fp p.2).1),.ep (lV s fp p.2).2 off)
  | none=>none
 | .ep cells off=>some (true,.ep cells off)
 | .agg cs=>match gM s al fp cs with
  | some p=>some (p.1,.agg p.2)
  | none=>none
 | .tup cs=>match gM s al fp cs with
  | some p=>some (p.1,.tup p.2)
  | none=>none
 | .ifc t x=>match kC s al fp x with
  | some p=>some (p.1,.ifc t p.2)
  | none=>none
 | .fn f fi ca=>match gM s al fp fi,gM s al fp ca with
  | some p,some q=>some (p.1 && q.1,.fn f p.2 q.2)
  | _,_=>none
 | .yl _ _=>none
def gM (s:AS) (al:Bool) (fp:List Nat):List D → Option (Bool × List D)
 | []=>some (true,[])
 | d :: r=>match kC s al fp d,gM s al fp r with
  | some p,some q=>some (p.1 && q.1,p.2 :: q.2)
  | _,_=>none
end
def gT (s:AS) (fp:List Nat):List Nat → Option (Bool × List Blk)
 | []=>some (true,[])
 | k :: r=>match s.at k,gT s fp r with
  | some p,some q=>bif p.2.row then some (aa p.2.cells && q.1,p.2 :: q.2) else match gM s true fp p.2.cells with
   | some c=>some (c.1 && q.1,⟨c.2,p.2.elem,p.2.row⟩ :: q.2)
   | none=>none
  | _,_=>none

def dS (O:Nat → Prop) (φ:Nat → Option Nat) (n:Nat):Env:=⟨φ,fun b=>O b ∨ ∃ j,j < n ∧ φ j = some b,fun j=>j < n⟩
def fb (s:AS) (E:Env) (fp:List Nat) (j:Nat):Option Nat :=
 match fp[j]? with
 | some k=>match s.gat k with
  | some p=>E.φ p.1
  | none=>none
 | none=>none
def dI (s:AS) (E:Env) (al:Bool) (fp:List Nat):Env:=dS (fun b=>al = true ∧ E.own b) (fb s E fp) fp.length
theorem dC {s:AS} {E:Env} {fp:List Nat} {j k g:Nat} {o:Ob} (hj:fp[j]? = some k) (hk:s.gat k = some (g,o)):fb s E fp j = E.φ g:=by
 unfold fb; rw [hj]; dsimp only; rw [hk]
theorem cN {s:AS} {E:Env} {fp:List Nat} {j x:Nat} (h:fb s E fp j = some x):∃ k g o,fp[j]? = some k ∧ s.gat k = some (g,o) ∧ E.φ g = some x:=by
 unfold fb at h
 split at h
 case h_2=>cases h
 case h_1 k hk =>
 split at h
 case h_2=>cases h
 case h_1 p hp=>exact ⟨k,p.1,p.2,hk,hp,h⟩

section
variable {P:Program} {cx:Cx} {E:Env} {s:AS} {a:Act} {w:World}

theorem kD (h:SR cx E s a w) (al:Bool) (fp:List Nat) {b:Nat} (hb:(dI s E al fp).own b):E.own b:=by
 rcases hb with ⟨_,hb⟩ | ⟨j,_,hx⟩
 ·exact hb
 ·obtain ⟨k,g,o,_,h2,h3⟩:=cN hx
  exact h.own_of ⟨k,g,o,h2,h3⟩
theorem Stp.toLoc (h:SR cx E s a w) (al:Bool) (fp:List Nat):Stp E.cl (dI s E al fp) w w:=⟨fun _ h=>h.elim,fun _ h=>h.elim,KG _,fun _ _ ho=>⟨fun hh=>ho (kD h al fp hh),rfl⟩,fun _ _=>rfl⟩

theorem iu {al:Bool} {fp:List Nat}:∀ (cs:List D) {q:Bool × List D},gM s al fp cs = some q → q.1 = true → q.2.length = cs.length ∧ ∀ (j:Nat) d,cs[j]? = some d → ∃ p,kC s al fp d = some p ∧ p.1 = true ∧ q.2[j]? = some p.2
 | [],q,h,hq=>by simp only [gM,Option.some.injEq] at h; subst h; exact ⟨rfl,fun j d hj=>by simp at hj⟩
 | d :: r,q,h,hq=>by
  simp only [gM] at h
  split at h
  case h_2=>cases h
  case h_1 p q' hp hq' =>
  cases h
  rw [Ky] at hq
  obtain ⟨h1,h2⟩:=iu r hq' hq.2
  refine ⟨by simp [h1],fun j d' hj=>?_⟩
  cases j with
  | zero=>simp at hj; subst hj; exact ⟨p,hp,hq.1,rfl⟩
  | succ j=>obtain ⟨p', a1,a2,a3⟩:=h2 j d' (by simpa using hj); exact ⟨p', a1,a2,by simpa using a3⟩

theorem ra (h:SR cx E s a w) {fp:List Nat} {k g off n sz:Nat} {u:Value} {blk:Blk} (hr:RD E w (.ref k g off n sz) u) (hk:s.at k = some (g,blk)) (hj:gS fp k = none) (hle:off + n * sz ≤ blk.cells.length) (hsz:1 ≤ sz) {cs:List D}
  (hlc:cs.length = (cG blk.cells off (n * sz)).length) (hcs:∀ us:List Value,us.length = cs.length → (∀ (i:Nat) d u,(cG blk.cells off (n * sz))[i]? = some d → us[i]? = some u → RD E w d u) → ∀ (i:Nat) d u,cs[i]? = some d → us[i]? = some u → RD (dI s E false fp).cl w d u) :
  RD (dI s E false fp) w (.sl (Kx 1 n) n sz cs) u:=by
 cases hr with
 | @ref _ _ k g off n sz c b off' t m hg hb hc ho hsh hm =>
  obtain ⟨hlt,hown,cur,fr,hcur,_,hcl2,_,hcell⟩:=h.block hk hb
  have hv:Vw _ _ b 0 blk.cells:=fun j d hj=>by
   obtain ⟨v,hv1,hv2,hv3⟩:=hcell j d hj
   exact ⟨v,by rw [KV,cell_of_row _ b j cur blk.elem fr hcur]; exact hv1,hv2,hv3⟩
  obtain ⟨us,hl,hrg,h1,hd⟩:=hv.seg hle
  rw [KV] at hrg
  rw [f9] at hlc hcs
  have hl2:us.length = cs.length:=by rw [hl,hlc,KC,KQ]; omega
  refine .sl _ n sz _ _ c us hl2 (hcs us hl2 fun i d u a1 a2=>hd i d u a1 a2) h1 (by rw [hlc,KC,KQ]; omega) hsz hc (fun hh=>by cases hh) ?_
  rcases MI n with h0 | h0
  ·exact .inl h0
  ·refine .inr ⟨b,off', rfl,hlt,fun hh=>?_,fun i u hu=>?_⟩
   ·rcases hh with ⟨ha,_⟩ | ⟨j,_,hx⟩
    ·cases ha
    ·obtain ⟨k', g', o', e1,e2,e3⟩:=cN hx
     have hne:k ≠ k' := fun e=>by subst e; exact g7 hj (List.mem_of_getElem? e1)
     exact h.inj k k' g g' _ o' hne (AS.at_iff.1 hk) e2 b hb e3
   ·obtain rfl:off' = off:=by omega
    exact hrg i u hu
 | @refn _ _ k g sz hg hb =>
  have e:cG blk.cells 0 (0 * sz) = []:=by rw [f9]; simp
  rw [e] at hlc
  have:cs = []:=KT hlc
  subst this
  exact .sl _ 0 sz [] none 0 [] rfl (by simp) (by simp) (by simp) hsz ⟨KG _,Li _⟩ (fun _=>⟨rfl,rfl⟩) (.inl rfl)
theorem Cn (h:SR cx E s a w) {fp:List Nat} {k g off:Nat} {u:Value} {blk:Blk} (hr:RD E w (.ptr k g off) u) (hk:s.at k = some (g,blk)) (hj:gS fp k = none) {cs:List D}
  (hlc:cs.length ≤ (cG blk.cells 0 blk.cells.length).length) (hcs:∀ us:List Value,us.length = cs.length → (∀ (i:Nat) d u,(cG blk.cells 0 blk.cells.length)[i]? = some d → us[i]? = some u → RD E w d u) → ∀ (i:Nat) d u,cs[i]? = some d → us[i]? = some u → RD (dI s E false fp).cl w d u) :
  RD (dI s E false fp) w (.ep cs off) u:=by
 cases hr with
 | ptr _ _ _ b hg hb =>
  obtain ⟨hlt,hown,cur,fr,hcur,_,hcl2,_,hcell⟩:=h.block hk hb
  have hv:Vw _ _ b 0 blk.cells:=fun j d hj=>by
   obtain ⟨v,hv1,hv2,hv3⟩:=hcell j d hj
   exact ⟨v,by rw [KV,cell_of_row _ b j cur blk.elem fr hcur]; exact hv1,hv2,hv3⟩
  obtain ⟨us,hl,hrg,h1,hd⟩:=hv.seg (off:=0) (m:=blk.cells.length) (by omega)
  rw [f9] at hlc hcs
  have hl2:(us.take cs.length).length = cs.length:=by rw [KC,hl]; rw [KC,KQ] at hlc; omega
  have tk:∀ {i:Nat} {u:Value},(us.take cs.length)[i]? = some u → us[i]? = some u:=fun {i u} q=>by
   rw [List.getElem?_take] at q; split at q
   ·exact q
   ·cases q
  have:=RD.ep (E:=dI s E false fp) (w:=w) cs off b 0 (us.take cs.length) hl2 (hcs _ hl2 fun i d u a1 a2=>hd i d u a1 (tk a2)) (fun u hu=>h1 u (Lt hu)) hlt (fun hh=>by
   rcases hh with ⟨ha,_⟩ | ⟨j,_,hx⟩
   ·cases ha
   ·obtain ⟨k', g', o', e1,e2,e3⟩:=cN hx
    have hne:k ≠ k' := fun e=>by subst e; exact g7 hj (List.mem_of_getElem? e1)
    exact h.inj k k' g g' _ o' hne (AS.at_iff.1 hk) e2 b hb e3) (fun i u hu=>by have:=hrg i u (tk hu); simpa using this)
  rwa [KV] at this
theorem nG (h:SR cx E s a w) {al:Bool} {fp:List Nat} {d:D} {u:Value} (hr:RD E w d u) (hc:d.closed = true):RD (dI s E al fp).cl w d u:=((hr.weak hc).step (Stp.toLoc h al fp)).weak hc
theorem kE (h:SR cx E s a w) {fp:List Nat} {d:D} {u:Value} (hr:RD E w d u) {q:Bool × D} (hq:t9 s fp d = some q) (hq1:q.1 = true):RD (dI s E false fp).cl w q.2 u:=by
 unfold t9 at hq
 split at hq
 case h_2=>cases hq; exact nG h hr hq1
 case h_1 k g off n sz =>
 split at hq
 case h_2=>cases hq
 case h_1 p hk =>
 obtain ⟨g', blk⟩:=p
 dsimp only at hq
 split at hq
 case h_1=>cases hq
 case h_2 hj =>
 cases hq
 simp only [Ky] at hq1
 obtain ⟨⟨⟨hgg,hle⟩,hsz⟩,hcl⟩:=hq1
 obtain rfl:g = g' := Kz hgg
 exact (ra h hr hk hj (KB hle) (KB hsz) rfl fun us _ hd i d u a1 a2=>nG h (hd i d u a1 a2) (aW hcl a1)).weak rfl
theorem jq (h:SR cx E s a w) {fp:List Nat}:∀ {cs:List D} {q:Bool × List D},jp s fp cs = some q → q.1 = true → q.2.length = cs.length ∧ ∀ us:List Value,us.length = q.2.length → (∀ (i:Nat) d u,cs[i]? = some d → us[i]? = some u → RD E w d u) → ∀ (i:Nat) d u,q.2[i]? = some d → us[i]? = some u → RD (dI s E false fp).cl w d u
 | [],q,hq,_=>by simp only [jp,Option.some.injEq] at hq; subst hq; exact ⟨rfl,fun us _ _ i d u hd=>by simp at hd⟩
 | c :: r,q,hq,hq1=>by
  simp only [jp] at hq
  split at hq
  case h_2=>cases hq
  case h_1 p q' hp hq' =>
  cases hq
  rw [Ky] at hq1
  obtain ⟨l1,l2⟩:=jq h hq' hq1.2
  refine ⟨by simp [l1],fun us hl hd i d u h1 h2=>?_⟩
  cases us with
  | nil=>simp at hl
  | cons v us =>
  cases i with
  | zero =>
   simp only [List.getElem?_cons_zero,Option.some.injEq] at h1 h2
   subst h1 h2
   exact kE h (hd 0 c v rfl rfl) hp hq1.1
  | succ i =>
   exact l2 us (by simpa using hl) (fun j d u a1 a2=>hd (j + 1) d u (by simpa using a1) (by simpa using a2)) i d u (by simpa using h1) (by simpa using h2)
theorem jr (h:SR cx E s a w) {fp:List Nat}:∀ {cs:List D},(fU s fp cs).1 = true → (fU s fp cs).2.length ≤ cs.length ∧ ∀ us:List Value,us.length = (fU s fp cs).2.length → (∀ (i:Nat) d u,cs[i]? = some d → us[i]? = some u → RD E w d u) → ∀ (i:Nat) d u,(fU s fp cs).2[i]? = some d → us[i]? = some u → RD (dI s E false fp).cl w d u
 | [],_=>⟨KG _,fun us _ _ i d u hd=>by simp [fU] at hd⟩
 | c :: r,hq1=>by
  simp only [fU] at hq1 ⊢
  split at hq1
  case h_2 hp=>exact ⟨Li _,fun us _ _ i d u hd=>by simp at hd⟩
  case h_1 p hp =>
  rw [Ky] at hq1
  obtain ⟨l1,l2⟩:=jr h hq1.2
  refine ⟨Mq l1,fun us hl hd i d u h1 h2=>?_⟩
  cases us with
  | nil=>simp at hl
  | cons v us =>
  cases i with
  | zero =>
   simp only [List.getElem?_cons_zero,Option.some.injEq] at h1 h2
   subst h1 h2
   exact kE h (hd 0 c v rfl rfl) hp hq1.1
  | succ i =>
   exact l2 us (by simpa using hl) (fun j d u a1 a2=>hd (j + 1) d u (by simpa using a1) (by simpa using a2)) i d u (by simpa using h1) (by simpa using h2)
theorem rc (h:SR cx E s a w) {fp:List Nat} {b:Blk} (hq1:(lV s fp b).1 = true):(lV s fp b).2.length ≤ (cG b.cells 0 b.cells.length).length ∧ ∀ us:List Value,us.length = (lV s fp b).2.length → (∀ (i:Nat) d u,(cG b.cells 0 b.cells.length)[i]? = some d → us[i]? = some u → RD E w d u) → ∀ (i:Nat) d u,(lV s fp b).2[i]? = some d → us[i]? = some u → RD (dI s E false fp).cl w d u:=by
 unfold lV at hq1 ⊢
 cases hrow:b.row with
 | true =>
  rw [hrow,cond_true] at hq1
  exact ⟨KG _,fun us _ hd i d u h1 h2=>nG h (hd i d u h1 h2) (aW hq1 h1)⟩
 | false =>
  rw [hrow,cond_false] at hq1
  exact jr h hq1
theorem kF (h:SR cx E s a w) {fp:List Nat} {b:Blk} {off m:Nat} {q:Bool × List D} (hq:ua s fp b off m = some q) (hq1:q.1 = true):q.2.length = (cG b.cells off m).length ∧ ∀ us:List Value,us.length = q.2.length → (∀ (i:Nat) d u,(cG b.cells off m)[i]? = some d → us[i]? = some u → RD E w d u) → ∀ (i:Nat) d u,q.2[i]? = some d → us[i]? = some u → RD (dI s E false fp).cl w d u:=by
 unfold ua at hq
 cases hrow:b.row with
 | true =>
  rw [hrow,cond_true] at hq
  cases hq
  exact ⟨rfl,fun us _ hd i d u h1 h2=>nG h (hd i d u h1 h2) (aW hq1 h1)⟩
 | false =>
  rw [hrow,cond_false] at hq
  exact jq h hq hq1

theorem mi (h:SR cx E s a w) {al:Bool} {fp:List Nat}:∀ {E' : Env} {w' : World} {d:D} {u:Value},RD E' w' d u → E' = E → w' = w → ∀ {q:Bool × D},kC s al fp d = some q → q.1 = true → RD (dI s E al fp) w q.2 u:=by
 intro E' w' d u hr
 have hst:=Stp.toLoc h al fp
 have L:∀ {cs:List D} {us:List Value},us.length = cs.length → (∀ (i:Nat) d u,cs[i]? = some d → us[i]? = some u → ∀ {q:Bool × D},kC s al fp d = some q → q.1 = true → RD (dI s E al fp) w q.2 u) → ∀ {q:Bool × List D},gM s al fp cs = some q → q.1 = true →
   us.length = q.2.length ∧ ∀ (i:Nat) d u,q.2[i]? = some d → us[i]? = some u → RD (dI s E al fp) w d u:=by
  intro cs us hlen ih q hq hq1
  obtain ⟨h1,h2⟩:=iu cs hq hq1
  refine ⟨by rw [hlen,h1],fun i d u hd hu=>?_⟩
  have hlt:i < cs.length:=by rw [← h1]; exact (List.getElem?_eq_some_iff.1 hd).1
  obtain ⟨p,a1,a2,a3⟩:=h2 i cs[i] (List.getElem?_eq_getElem hlt)
  rw [hd] at a3; cases a3
  exact ih i _ u (List.getElem?_eq_getElem hlt) hu a1 a2
 induction hr with
 | v c hc=>intro _ _ q hq _; simp only [kC,Option.some.injEq] at hq; subst hq; exact .v c hc
 | @sl E1 w1 nn n size cells ad c us hlen hd h1 hn hp hc h0 hr ih =>
  rintro rfl rfl q hq _
  simp only [kC,Option.some.injEq] at hq; subst hq
  exact ((RD.sl nn n size cells ad c us hlen hd h1 hn hp hc h0 hr).weak rfl).step hst
 | @ref E1 w1 k g off n sz c b off' t m hg hb hc ho hsh hm =>
  rintro rfl rfl q hq hq1
  simp only [kC] at hq
  cases hk:s.at k with
  | none=>rw [hk] at hq; cases hq
  | some p =>
  obtain ⟨g', blk⟩:=p
  rw [hk] at hq
  dsimp only at hq
  split at hq
  case h_1 j hj =>
   cases hq
   obtain rfl:g = g' := Kz hq1
   have hj' := gD hj
   exact .ref j j off n sz c b off' t m (List.getElem?_eq_some_iff.1 hj').1 ((dC hj' (AS.at_iff.1 hk)).trans hb) hc ho hsh hm
  case h_2 hj =>
  split at hq
  case h_2=>cases hq
  case h_1 cc hcc =>
  cases hq
  simp only [Ky,L9] at hq1
  obtain ⟨hal,⟨⟨hgg,hle⟩,hsz⟩,hc1⟩:=hq1
  subst hal
  obtain rfl:g = g' := Kz hgg
  obtain ⟨l1,l2⟩:=kF h hcc hc1
  exact ra h (.ref k g off n sz c b off' t m hg hb hc ho hsh hm) hk hj (KB hle) (KB hsz) l1 l2
 | @refn E1 w1 k g sz hg hb =>
  rintro rfl rfl q hq hq1
  simp only [kC] at hq
  cases hk:s.at k with
  | none=>rw [hk] at hq; cases hq
  | some p =>
  obtain ⟨g', blk⟩:=p
  rw [hk] at hq
  dsimp only at hq
  split at hq
  case h_1 j hj =>
   cases hq
   obtain rfl:g = g' := Kz hq1
   have hj' := gD hj
   exact .refn j j sz (List.getElem?_eq_some_iff.1 hj').1 ((dC hj' (AS.at_iff.1 hk)).trans hb)
  case h_2 hj =>
  split at hq
  case h_2=>cases hq
  case h_1 cc hcc =>
  cases hq
  simp only [Ky,L9] at hq1
  obtain ⟨hal,⟨⟨hgg,hle⟩,hsz⟩,hc1⟩:=hq1
  subst hal
  obtain rfl:g = g' := Kz hgg
  obtain ⟨l1,l2⟩:=kF h hcc hc1
  exact ra h (.refn k g sz hg hb) hk hj (KB hle) (KB hsz) l1 l2
 | @ptr E1 w1 k g off b hg hb =>
  rintro rfl rfl q hq hq1
  simp only [kC] at hq
  cases hk:s.at k with
  | none=>rw [hk] at hq; cases hq
  | some p =>
  obtain ⟨g', blk⟩:=p
  rw [hk] at hq
  dsimp only at hq
  split at hq
  case h_1 j hj =>
   cases hq
   obtain rfl:g = g' := Kz hq1
   have hj' := gD hj
   exact .ptr j j off b (List.getElem?_eq_some_iff.1 hj').1 ((dC hj' (AS.at_iff.1 hk)).trans hb)
  case h_2 hj =>
  cases hq
  simp only [Ky,L9] at hq1
  obtain ⟨hal,hgg,hc1⟩:=hq1
  subst hal
  obtain rfl:g = g' := Kz hgg
  obtain ⟨l1,l2⟩:=rc h hc1
  exact Cn h (.ptr k g off b hg hb) hk hj l1 l2
 | @ep E1 w1 cells off b o us hlen hd h1 hb ho hr ih =>
  rintro rfl rfl q hq _
  simp only [kC,Option.some.injEq] at hq; subst hq
  exact .ep cells off b o us hlen (fun i d u a1 a2=>(hd i d u a1 a2).step (E:=E1.cl) (E' := (dI s E1 al fp).cl) (w:=w1) (w' := w1) ⟨fun _ hx=>hx.elim,fun _ hx=>hx.elim,KG _,fun _ _ ho=>⟨fun hh=>ho (kD h al fp hh),rfl⟩,fun _ _=>rfl⟩) h1 hb (fun hh=>ho (kD h al fp hh)) hr
 | agg cs us hlen _ h1 ih =>
  rintro rfl rfl q hq hq1
  simp only [kC] at hq
  split at hq
  case h_2=>cases hq
  case h_1 p hp =>
  cases hq
  obtain ⟨l1,l2⟩:=L hlen (fun i d u a1 a2=>ih i d u a1 a2 rfl rfl) hp hq1
  exact .agg _ us l1 l2 h1
 | tup cs us hlen _ ih =>
  rintro rfl rfl q hq hq1
  simp only [kC] at hq
  split at hq
  case h_2=>cases hq
  case h_1 p hp =>
  cases hq
  obtain ⟨l1,l2⟩:=L hlen (fun i d u a1 a2=>ih i d u a1 a2 rfl rfl) hp hq1
  exact .tup _ us l1 l2
 | ifc t x u _ ih =>
  rintro rfl rfl q hq hq1
  simp only [kC] at hq
  split at hq
  case h_2=>cases hq
  case h_1 p hp =>
  cases hq
  exact .ifc t _ u (ih rfl rfl hp hq1)
 | @fn E1 w1 f fi ca us vs hl1 hl2 hd1 hd2 ih1 ih2 =>
  rintro rfl rfl q hq hq1
  simp only [kC] at hq
  split at hq
  case h_2=>cases hq
  case h_1 p p' hp hp' =>
  cases hq
  rw [Ky] at hq1
  obtain ⟨l1,l2⟩:=L hl1 (fun i d u a1 a2=>ih1 i d u a1 a2 rfl rfl) hp hq1.1
  obtain ⟨l3,l4⟩:=L hl2 (fun i d u a1 a2=>ih2 i d u a1 a2 rfl rfl) hp' hq1.2
  exact .fn f _ _ us vs l1 l3 l2 l4
 | yl=>rintro rfl rfl q hq; cases hq

theorem mj (h:SR cx E s a w) {al:Bool} {fp:List Nat}:∀ (l:List Nat) (i:Nat),(∀ (j:Nat) k,l[j]? = some k → fp[i + j]? = some k) → ∀ {q:Bool × List Blk},gT s fp l = some q → q.1 = true →
  q.2.length = l.length ∧ (∀ k ∈ l,∃ g b,s.at k = some (g,b)) ∧ ∀ (j:Nat) b,q.2[j]? = some b → HB (dI s E al fp) w (i + j) b
 | [],i,_,q,hq,_=>by simp only [gT,Option.some.injEq] at hq; subst hq; exact ⟨rfl,fun k hk=>(by cases hk),fun j b hj=>by simp at hj⟩
 | k :: r,i,hsub,q,hq,hq1=>by
  simp only [gT] at hq
  split at hq
  case h_2=>cases hq
  case h_1 p q' hk hq' =>
  obtain ⟨g,blk⟩:=p
  have hki:fp[i]? = some k:=hsub 0 k rfl
  have hφ:fb s E fp i = E.φ g:=dC hki (AS.at_iff.1 hk)
  have hi:i < fp.length:=(List.getElem?_eq_some_iff.1 hki).1
  have rec_:q'.1 = true → q'.2.length = r.length ∧ (∀ k ∈ r,∃ g b,s.at k = some (g,b)) ∧ ∀ (j:Nat) b,q'.2[j]? = some b → HB (dI s E al fp) w (i + 1 + j) b:=fun h1=>mj h r (i + 1) (fun j k' hj=>by
   have:=hsub (j + 1) k' (by simpa using hj)
   rwa [show i + (j + 1) = i + 1 + j by omega] at this) hq' h1
  have build:∀ b' : Blk,b'.elem = blk.elem → b'.row = blk.row → b'.cells.length = blk.cells.length → (blk.cells = [] → b'.cells = []) → (∀ (j:Nat) d' u,b'.cells[j]? = some d' → (∀ d,blk.cells[j]? = some d → RD E w d u) → RD (dI s E al fp) w d' u) → HB (dI s E al fp) w i b' := by
   intro b' e1 e2 e3 e4 e5
   obtain ⟨c1,c2⟩:=h.hp k g blk hk
   refine ⟨hi,?_⟩
   show match fb s E fp i with | none=>_ | some b=>_
   rw [hφ]
   cases hp:E.φ g with
   | none=>rw [hp] at c2; exact ⟨e4 c2.1,by rw [e2]; exact c2.2⟩
   | some x =>
    rw [hp] at c2
    obtain ⟨d1,d2,cur,fr,d3,d4,d5,d6,d7⟩:=c2
    refine ⟨.inr ⟨i,hi,hφ.trans hp⟩,d2,cur,fr,by rw [e1]; exact d3,d4,by rw [e3]; exact d5,fun hr=>by rw [e3]; exact d6 (by rw [← e2]; exact hr),fun j d' hj=>?_⟩
    have hlt:j < blk.cells.length:=by rw [← e3]; exact (List.getElem?_eq_some_iff.1 hj).1
    obtain ⟨u,f1,f2,f3⟩:=d7 j blk.cells[j] (List.getElem?_eq_getElem hlt)
    exact ⟨u,f1,f2,e5 j d' u hj fun d hd=>by rw [List.getElem?_eq_getElem hlt] at hd; cases hd; exact f3⟩
  have fin:∀ (b' : Blk),HB (dI s E al fp) w i b' → q'.1 = true → (b' :: q'.2).length = (k :: r).length ∧ (∀ k' ∈ k :: r,∃ g b,s.at k' = some (g,b)) ∧ ∀ (j:Nat) b,(b' :: q'.2)[j]? = some b → HB (dI s E al fp) w (i + j) b:=by
   intro b' hb' h1
   obtain ⟨r1,r2,r3⟩:=rec_ h1
   refine ⟨by simp [r1],fun k' hk' => ?_,fun j b hj=>?_⟩
   ·rcases List.mem_cons.1 hk' with rfl | hk'
    ·exact ⟨g,blk,hk⟩
    ·exact r2 k' hk'
   ·cases j with
    | zero=>simp at hj; subst hj; exact hb'
    | succ j=>rw [show i + (j + 1) = i + 1 + j by omega]; exact r3 j b (by simpa using hj)
  have hst:=Stp.toLoc h al fp
  cases hrow:blk.row with
  | true =>
   simp only [hrow,cond_true,Option.some.injEq] at hq
   subst hq
   rw [Ky] at hq1
   exact fin blk (build blk rfl rfl rfl (fun e=>e) fun j d' u hj hd=>((hd d' hj).weak (aW hq1.1 hj)).step hst) hq1.2
  | false =>
   simp only [hrow,cond_false] at hq
   split at hq
   case h_2=>cases hq
   case h_1 c hc =>
   cases hq
   rw [Ky] at hq1
   obtain ⟨l1,l2⟩:=iu _ hc hq1.1
   refine fin ⟨c.2,blk.elem,false⟩ (build _ rfl hrow.symm l1 (fun e=>KT (by rw [l1,e]; rfl)) fun j d' u hj hd=>?_) hq1.2
   have hlt:j < blk.cells.length:=by rw [← l1]; exact (List.getElem?_eq_some_iff.1 hj).1
   obtain ⟨p', a1,a2,a3⟩:=l2 j _ (List.getElem?_eq_getElem hlt)
   rw [hj] at a3; cases a3
   have hx:=mi h (hd _ (List.getElem?_eq_getElem hlt)) rfl rfl a1 a2
   exact hx.step (E:=dI s E true fp) (E' := dI s E al fp) (w:=w) (w' := w) ⟨fun _ hx=>hx,fun _ _=>rfl,KG _,fun b _ hn=>⟨fun hh=>hn (Or.imp (fun hh=>⟨rfl,hh.2⟩) id hh),rfl⟩,fun _ _=>rfl⟩

end
end Go.Vx
namespace Go.Vx
open Go.RowKit Go.Bw

def iW (al:Bool) (O:Nat → Prop) (w:World) (b:Nat):Prop:=if al = true then O b else b < w.heap.size
def Gv (O:Nat → Prop) (w:World) (m:Nat) (φ0:Nat → Option Nat) (r:D) (bs:List Blk) (u:Value) (w' : World):Prop :=
 Fr (fun k=>w.heap.size ≤ k ∨ ∃ j,j < m ∧ φ0 j = some k) w w' ∧ ∃ φ,(∀ j,j < m → φ j = φ0 j) ∧ RD (dS O φ bs.length) w' r u ∧ (∀ (j:Nat) b,bs[j]? = some b → HB (dS O φ bs.length) w' j b ∧ (b.row = true → aa b.cells = true)) ∧
  (∀ i j x,i < bs.length → j < bs.length → i ≠ j → φ i = some x → φ j ≠ some x) ∧ ∀ j x,m ≤ j → j < bs.length → φ j = some x → w.heap.size ≤ x
def SpecH (al:Bool) (P:Program) (f:FuncId) (ds:List D) (hin:List Blk) (r:D) (bs:List Blk):Prop :=
 hin.length ≤ bs.length ∧ ∀ (O:Nat → Prop) (φ:Nat → Option Nat) (w:World) (args:List Value),(∀ x,O x → x < w.heap.size) → (∀ (j:Nat) b,hin[j]? = some b → HB (dS O φ hin.length) w j b) →
  (∀ i j x,i < hin.length → j < hin.length → i ≠ j → φ i = some x → φ j ≠ some x) → args.length = ds.length → (∀ (j:Nat) d u,ds[j]? = some d → args[j]? = some u → RD (dS O φ hin.length) w d u) →
  Calls P f args.toArray w fun e w' => ∃ u,e = .returned u ∧ Gv (iW al O w) w hin.length φ r bs u w'
def Ii (al:Bool) (P:Program) (f:FuncId) (ds:List D) (hin:List Blk) (r:D) (bs:List Blk):Prop :=
 hin.length ≤ bs.length ∧ ∀ (O:Nat → Prop) (φ:Nat → Option Nat) (w:World) (args:List Value),(∀ x,O x → x < w.heap.size) → (∀ (j:Nat) b,hin[j]? = some b → HB (dS O φ hin.length) w j b) →
  (∀ i j x,i < hin.length → j < hin.length → i ≠ j → φ i = some x → φ j ≠ some x) → args.length = ds.length → (∀ (j:Nat) d u,ds[j]? = some d → args[j]? = some u → RD (dS O φ hin.length) w d u) →
  ∃ u w', (callFunc f args.toArray).run P w = .ok (.value u) w' ∧ Gv (iW al O w) w hin.length φ r bs u w'
def ax (P : Program) (f : FuncId) : Prop := ∃ fn, P.funcs[f]? = some fn ∧ fn.body.isNone = false ∧ (fn.name == "runtime.NumGoroutine") = false
inductive CallOk (al:Bool) (P:Program) (f:FuncId) (ds:List D) (hin:List Blk) (r:D) (bs:List Blk):Prop
 | fn (h:ax P f) (s:SpecH al P f ds hin r bs)
 | ext (s:Ii al P f ds hin r bs)
theorem CallOk.len {al:Bool} {P:Program} {f:FuncId} {ds:List D} {hin:List Blk} {r:D} {bs:List Blk} (h:CallOk al P f ds hin r bs):hin.length ≤ bs.length:=by
 cases h with
 | fn _ s=>exact s.1
 | ext s=>exact s.1
abbrev JR (al:Bool) (P:Program) (f:FuncId) (ds:List D) (r:D) (bs:List Blk):Prop:=SpecH al P f ds [] r bs
abbrev ub (P:Program) (f:FuncId) (ds:List D) (r:D) (bs:List Blk):Prop:=SpecH false P f ds [] r bs

mutual
def cg (κ γ:Nat → Nat):D → D
 | .ref k g off n sz=>.ref (κ k) (γ g) off n sz
 | .ptr k g off=>.ptr (κ k) (γ g) off
 | .agg cs=>.agg (d8 κ γ cs)
 | .tup cs=>.tup (d8 κ γ cs)
 | .ifc t x=>.ifc t (cg κ γ x)
 | .v c=>.v c
 | .sl nn n sz cells=>.sl nn n sz cells
 | .ep cells off=>.ep cells off
 | .fn f fi ca=>.fn f (d8 κ γ fi) (d8 κ γ ca)
 | .yl k g=>.yl (κ k) (γ g)
def d8 (κ γ:Nat → Nat):List D → List D
 | []=>[]
 | d :: r=>cg κ γ d :: d8 κ γ r
end
theorem dD (κ γ:Nat → Nat) (l:List D):d8 κ γ l = l.map (cg κ γ):=by
 induction l with
 | nil=>rfl
 | cons d r ih=>simp [d8,ih]
def bx (κ γ:Nat → Nat) (b:Blk):Blk:=bif b.row then b else ⟨d8 κ γ b.cells,b.elem,b.row⟩
theorem fz (κ γ:Nat → Nat) (b:Blk):(bx κ γ b).elem = b.elem ∧ (bx κ γ b).row = b.row ∧ (bx κ γ b).cells.length = b.cells.length:=by
 unfold bx
 cases hr:b.row <;> simp [hr,dD]

theorem RD.map {E E' : Env} {w' : World} (κ γ:Nat → Nat) {d:D} {u:Value} (h:RD E w' d u):(∀ g,E.nm g → E'.nm (γ g) ∧ E'.φ (γ g) = E.φ g) → (∀ b,E'.own b → E.own b) → RD E' w' (cg κ γ d) u:=by
 have cl:∀ {E E' : Env} {w' : World},(∀ b,E'.own b → E.own b) → Stp E.cl E'.cl w' w' := fun ho=>⟨fun _ h=>h.elim,fun _ h=>h.elim,KG _,fun b _ hb=>⟨fun h=>hb (ho b h),rfl⟩,fun _ _=>rfl⟩
 induction h with
 | v c h=>intro _ _; exact .v c h
 | @sl E1 w1 nn n size cells a c us hlen hd h1 hn hp hc h0 hr ih =>
  intro hn' ho
  exact ((RD.sl nn n size cells a c us hlen hd h1 hn hp hc h0 hr).weak rfl).step (cl ho) |>.ofCl
 | ref k g off n sz c b off' t m hg hb hc ho hsh hm=>intro hn' _; exact .ref _ _ off n sz c b off' t m (hn' g hg).1 ((hn' g hg).2.trans hb) hc ho hsh hm
 | refn k g sz hg hb=>intro hn' _; exact .refn _ _ sz (hn' g hg).1 ((hn' g hg).2.trans hb)
 | ptr k g off b hg hb=>intro hn' _; exact .ptr _ _ off b (hn' g hg).1 ((hn' g hg).2.trans hb)
 | ep cells off b o us hlen hd h1 hb ho hr ih =>
  intro hn' ho'
  exact .ep cells off b o us hlen (fun i d u a1 a2=>(hd i d u a1 a2).step (cl ho')) h1 hb (fun h=>ho (ho' b h)) hr
 | agg cs us hlen _ h1 ih =>
  intro hn' ho
  simp only [cg,dD]
  exact .agg _ us (by simp [hlen]) (fun i d u a1 a2=>by rw [List.getElem?_map,Lq] at a1; obtain ⟨x,hx,rfl⟩:=a1; exact ih i x u hx a2 hn' ho) h1
 | tup cs us hlen _ ih =>
  intro hn' ho
  simp only [cg,dD]
  exact .tup _ us (by simp [hlen]) (fun i d u a1 a2=>by rw [List.getElem?_map,Lq] at a1; obtain ⟨x,hx,rfl⟩:=a1; exact ih i x u hx a2 hn' ho)
 | ifc t x u _ ih=>intro hn' ho; exact .ifc t _ u (ih hn' ho)
 | fn f fi ca us vs hl1 hl2 _ _ ih1 ih2 =>
  intro hn' ho
  simp only [cg,dD]
  exact .fn f _ _ us vs (by simp [hl1]) (by simp [hl2]) (fun i d u a1 a2=>by rw [List.getElem?_map,Lq] at a1; obtain ⟨x,hx,rfl⟩:=a1; exact ih1 i x u hx a2 hn' ho)
   (fun i d u a1 a2=>by rw [List.getElem?_map,Lq] at a1; obtain ⟨x,hx,rfl⟩:=a1; exact ih2 i x u hx a2 hn' ho)
 | yl k g b hg hb=>intro hn' _; exact .yl _ _ b (hn' g hg).1 ((hn' g hg).2.trans hb)

def fc (fp:List Nat) (ky:Nat) (j:Nat):Nat:=bif Mf j fp.length then fp.getD j 0 else ky + (j - fp.length)
def eQ (s:AS) (fp:List Nat) (nm:Nat) (j:Nat):Nat:=bif Mf j fp.length then (match s.gat (fp.getD j 0) with | some p=>p.1 | none=>0) else nm + (j - fp.length)
def fA (κ γ:Nat → Nat):Nat → List Blk → Up
 | _,[]=>[]
 | j,b :: r=>(κ j,some (γ j,.b (bx κ γ b))) :: fA κ γ (j + 1) r

theorem vE:∀ {up:Up} {hp:Tr (Nat × Ob)} {k:Nat} {x:Nat × Ob},(ey up hp).get k = some x → (k,some x) ∈ up ∨ ((∀ p ∈ up,p.1 ≠ k) ∧ hp.get k = some x)
 | [],hp,k,x,h=>.inr ⟨fun p hp=>(by cases hp),h⟩
 | p :: r,hp,k,x,h=>by
  rcases Tr.of_set h with ⟨e,hv⟩ | ⟨e,h⟩
  ·obtain ⟨a,b⟩:=p
   dsimp only at e hv
   subst e hv; exact .inl KO
  ·rcases vE h with h | ⟨h1,h2⟩
   ·exact .inl (KM _ h)
   ·refine .inr ⟨fun q hq=>?_,h2⟩
    rcases List.mem_cons.1 hq with rfl | hq
    ·exact fun h=>e h.symm
    ·exact h1 q hq
theorem js {κ γ:Nat → Nat}:∀ {bs:List Blk} {j k:Nat} {x:Option (Nat × Ob)},(k,x) ∈ fA κ γ j bs → ∃ i b,bs[i]? = some b ∧ k = κ (j + i) ∧ x = some (γ (j + i),.b (bx κ γ b))
 | [],_,_,_,h=>by cases h
 | b :: r,j,k,x,h=>by
  rcases List.mem_cons.1 h with h | h
  ·cases h; exact ⟨0,b,rfl,rfl,rfl⟩
  ·obtain ⟨i,b', h1,h2,h3⟩:=js h
   exact ⟨i + 1,b', by simpa using h1,by rw [h2,show j + 1 + i = j + (i + 1) by omega],by rw [h3,show j + 1 + i = j + (i + 1) by omega]⟩
theorem iv {κ γ:Nat → Nat}:∀ {bs:List Blk} {j i:Nat},i < bs.length → ∃ x,(κ (j + i),x) ∈ fA κ γ j bs
 | [],_,_,h=>by simp at h
 | b :: r,j,i,h=>by
  cases i with
  | zero=>exact ⟨_,KO⟩
  | succ i =>
   obtain ⟨x,hx⟩:=iv (κ:=κ) (γ:=γ) (bs:=r) (j:=j + 1) (i:=i) (by simpa using h)
   exact ⟨x,by rw [show j + (i + 1) = j + 1 + i by omega]; exact KM _ hx⟩

section
variable {P:Program} {cx:Cx} {E:Env} {s:AS} {a:Act} {w:World}

def nH (κ γ:Nat → Nat) (bs:List Blk) (r:D):D:=match bs with
 | []=>r
 | _ :: _=>cg κ γ r
theorem SR.adopt {w' : World} (h:SR cx E s a w) {nm ky i:Nat} (hi:i ∉ s.us) (hg:s.nx + 8 * i = nm) {fp:List Nat} (hnd:fp.Nodup) (hfp:∀ k ∈ fp,∃ g b,s.at k = some (g,b)) {bs:List Blk} (hm:fp.length ≤ bs.length) (hlen:bs.length ≤ fp.length + 8)
  {r:D} {u:Value} {O:Nat → Prop} (hO:∀ b,b < w.heap.size → E.own b → O b) (hgv:Gv O w fp.length (fb s E fp) r bs u w') :
  let s' : AS:={ s with hp:=ey (fA (fc fp ky) (eQ s fp nm) 0 bs) s.hp,us:=i :: s.us }
  ∃ E', SR cx E' s' a w' ∧ Stp E E' w w' ∧ RD E' w' (nH (fc fp ky) (eQ s fp nm) bs r) u ∧ Mut s s' E E' w w' := by
 intro s'
 obtain ⟨hfr,φ,hφ0,hr,hb,hinj,hlow⟩:=hgv
 let m:=fp.length
 let φ' : Nat → Option Nat:=fun n=>if nm ≤ n ∧ n < nm + (bs.length - m) then φ (m + (n - nm)) else E.φ n
 let nm' : Nat → Prop:=fun n=>E.nm n ∨ (nm ≤ n ∧ n < nm + (bs.length - m))
 have hfresh:∀ {n},nm ≤ n → n < nm + (bs.length - m) → ¬ E.nm n:=fun {n} h1 h2 hn=>by
  have hmm:m = fp.length:=rfl
  rcases h.nm n hn with h3 | ⟨j,hj,h3,h4⟩
  ·omega
  ·have:j = i:=by omega
   subst this; exact hi hj
 have hold:∀ {k g o},s.gat k = some (g,o) → φ' g = E.φ g:=fun hk=>if_neg fun ⟨h1,h2⟩=>hfresh h1 h2 (h.ob hk).nm
 have hlt:∀ {k g o x},s.gat k = some (g,o) → E.φ g = some x → x < w.heap.size:=fun hk hx=>(h.ob hk).lt hx
 -- the names of the contract
 have hfp' : ∀ {j},j < m → ∃ k g b,fp[j]? = some k ∧ s.gat k = some (g,.b b) ∧ fc fp ky j = k ∧ eQ s fp nm j = g:=fun {j} hj=>by
  have hk:fp[j]? = some fp[j]:=List.getElem?_eq_getElem hj
  obtain ⟨g,b,hgb⟩:=hfp _ (List.mem_of_getElem? hk)
  have hgb:=AS.at_iff.1 hgb
  have e0:Mf j fp.length = true:=KA hj
  have e1:fp.getD j 0 = fp[j]:=by rw [List.getD_eq_getElem?_getD,hk]; rfl
  exact ⟨_,g,b,hk,hgb,by unfold fc; rw [e0,cond_true,e1],by unfold eQ; rw [e0,cond_true,e1,hgb]⟩
 have hnew:∀ {j},m ≤ j → fc fp ky j = ky + (j - m) ∧ eQ s fp nm j = nm + (j - m):=fun {j} hj=>by
  have e0:Mf j fp.length = false:=by
   cases hb:Mf j fp.length with
   | false=>rfl
   | true=>have:=KB hb; have hmm:m = fp.length:=rfl; omega
  unfold fc eQ; rw [e0]; exact ⟨rfl,rfl⟩
 have hγφ:∀ {j},j < bs.length → φ' (eQ s fp nm j) = φ j:=fun {j} hj=>by
  by_cases hjm:j < m
  ·obtain ⟨k,g,b,h1,h2,_,h4⟩:=hfp' hjm
   rw [h4,hold h2,hφ0 j hjm,dC h1 h2]
  ·rw [(hnew (by omega)).2]
   show (if nm ≤ nm + (j - m) ∧ nm + (j - m) < nm + (bs.length - m) then φ (m + (nm + (j - m) - nm)) else _) = _
   rw [if_pos ⟨by omega,by omega⟩,show m + (nm + (j - m) - nm) = j by omega]
 have hγnm:∀ {j},j < bs.length → nm' (eQ s fp nm j):=fun {j} hj=>by
  by_cases hjm:j < m
  ·obtain ⟨k,g,b,h1,h2,_,h4⟩:=hfp' hjm
   rw [h4]; exact .inl (h.ob h2).nm
  ·rw [(hnew (by omega)).2]; exact .inr ⟨by omega,by omega⟩
 -- what is kept behind the call
 have hsub:∀ {k g o},s'.gat k = some (g,o) → (∃ j b,j < bs.length ∧ bs[j]? = some b ∧ k = fc fp ky j ∧ g = eQ s fp nm j ∧ o = .b (bx (fc fp ky) (eQ s fp nm) b)) ∨ ((∀ j,j < bs.length → k ≠ fc fp ky j) ∧ s.gat k = some (g,o)):=fun {k g o} hk=>by
  rcases vE hk with hk | ⟨h1,h2⟩
  ·obtain ⟨i,b,e1,e2,e3⟩:=js hk
   rw [KV] at e2 e3
   cases e3
   exact .inl ⟨i,b,(List.getElem?_eq_some_iff.1 e1).1,e1,e2,rfl,rfl⟩
  ·refine .inr ⟨fun j hj e=>?_,h2⟩
   obtain ⟨x,hx⟩:=iv (κ:=fc fp ky) (γ:=eQ s fp nm) (bs:=bs) (j:=0) hj
   rw [KV] at hx
   exact h1 _ hx e.symm
 have hkept:∀ {j x},j < bs.length → φ j = some x → (j < m ∧ bd s E.φ x) ∨ (m ≤ j ∧ w.heap.size ≤ x):=fun {j x} hj hx=>by
  by_cases hjm:j < m
  ·obtain ⟨k,g,b,h1,h2,_,_⟩:=hfp' hjm
   rw [hφ0 j hjm,dC h1 h2] at hx
   exact .inl ⟨hjm,k,g,_,h2,hx⟩
  ·exact .inr ⟨by omega,hlow j x (by show m ≤ j; omega) hj hx⟩
 have howns:∀ x,cV E s' φ' x → (E.own x ∧ x < w.heap.size) ∨ (∃ j,j < bs.length ∧ φ j = some x):=fun x hx0=>by
  rcases hx0 with hx0 | ⟨k,g,o,hk,hx⟩
  ·exact .inl ⟨hx0,h.lt x hx0⟩
  rcases hsub hk with ⟨j,b,hj,_,_,rfl,_⟩ | ⟨_,h3⟩
  ·rw [hγφ hj] at hx; exact .inr ⟨j,hj,hx⟩
  ·rw [hold h3] at hx; exact .inl ⟨h.own_of ⟨k,g,o,h3,hx⟩,hlt h3 hx⟩
 have hblk:∀ b,b < w.heap.size → ¬ bd s E.φ b → w'.heap[b]? = w.heap[b]?:=fun b hb hn=>hfr.block b hb fun hm=>by
  rcases hm with hm | ⟨j,_,hx⟩
  ·omega
  ·obtain ⟨k,g,o,_,h2,h3⟩:=cN hx
   exact hn ⟨k,g,o,h2,h3⟩
 have hs:Stp E ⟨φ', cV E s' φ', nm'⟩ w w' := by
  refine ⟨fun x hx=>.inl hx,fun x hx=>if_neg fun ⟨h1,h2⟩=>hfresh h1 h2 hx,hfr.size,fun b hlt ho=>⟨fun hw=>?_,hblk b hlt fun hh=>ho (h.own_of hh)⟩,hfr.shape⟩
  rcases howns b hw with ⟨h1,_⟩ | ⟨j,hj,hx⟩
  ·exact ho h1
  ·rcases hkept hj hx with ⟨_,h1⟩ | ⟨_,h1⟩
   ·exact ho (h.own_of h1)
   ·omega
 have hownR:∀ b,cV E s' φ' b → (dS O φ bs.length).own b:=fun b hb=>by
  rcases howns b hb with ⟨h0,h1⟩ | h1
  ·exact .inl (hO b h1 h0)
  ·exact .inr h1
 have hsR:∀ {d:D} {v:Value},RD (dS O φ bs.length).cl w' d v → RD ⟨φ', cV E s' φ', nm'⟩ w' d v:=fun hd =>
  RD.ofCl (RD.step (E:=(dS O φ bs.length).cl) (E' := Env.cl ⟨φ', cV E s' φ', nm'⟩) (w:=w') ⟨fun _ h=>h.elim,fun _ h=>h.elim,KG _,fun b hlt ho=>⟨fun hw=>ho (hownR b hw),rfl⟩,fun _ _=>rfl⟩ hd)
 have hmap:∀ {d:D} {v:Value},RD (dS O φ bs.length) w' d v → RD ⟨φ', cV E s' φ', nm'⟩ w' (cg (fc fp ky) (eQ s fp nm) d) v:=fun hd=>hd.map _ _ (fun g hg=>⟨hγnm hg,hγφ hg⟩) hownR
 have hres:RD ⟨φ', cV E s' φ', nm'⟩ w' (nH (fc fp ky) (eQ s fp nm) bs r) u:=by
  cases hbs:bs with
  | cons _ _=>exact hmap hr
  | nil =>
   have hr0:=hr
   exact RD.step (E:=dS O φ bs.length) ⟨fun g hg=>absurd hg (by rw [hbs]; exact LJ g),fun g hg=>absurd hg (by rw [hbs]; exact LJ g),KG _,fun b hlt ho=>⟨fun hw=>ho (hownR b hw),rfl⟩,fun _ _=>rfl⟩ hr0
 have hob:∀ {k g o},s'.gat k = some (g,o) → OB ⟨φ', cV E s' φ', nm'⟩ w' g o:=fun {k g o} hk=>by
  rcases hsub hk with ⟨j,b,hj,hbj,rfl,rfl,rfl⟩ | ⟨h2,h3⟩
  ·obtain ⟨⟨_,hb1⟩,hcl⟩:=hb j b hbj
   obtain ⟨f1,f2,f3⟩:=fz (fc fp ky) (eQ s fp nm) b
   refine ⟨hγnm hj,?_⟩
   show match φ' (eQ s fp nm j) with | none=>_ | some x=>_
   have e1:=hγφ hj
   rw [e1]
   have hb1' : match φ j with | none=>b.cells = [] ∧ b.row = true | some x=>(dS O φ bs.length).own x ∧ x < w'.heap.size ∧ _:=hb1
   cases hp:φ j with
   | none =>
    rw [hp] at hb1'
    refine ⟨?_,by rw [f2]; exact hb1'.2⟩
    exact KT (by rw [f3,hb1'.1]; rfl)
   | some x =>
    rw [hp] at hb1'
    obtain ⟨_,hlt,cur,fr,c1,c2,c3,c4,c5⟩:=hb1'
    refine ⟨.inr ⟨_,_,_,hk,e1.trans hp⟩,hlt,cur,fr,by rw [f1]; exact c1,c2,by rw [f3]; exact c3,fun hr=>by rw [f3]; exact c4 (by rw [← f2]; exact hr),fun i d hd=>?_⟩
    unfold bx at hd
    cases hrow:b.row with
    | true =>
     rw [hrow,cond_true] at hd
     obtain ⟨v,v1,v2,v3⟩:=c5 i d hd
     exact ⟨v,v1,v2,hsR (v3.weak (aW (hcl hrow) hd))⟩
    | false =>
     rw [hrow,cond_false] at hd
     dsimp only at hd
     rw [dD,List.getElem?_map,Lq] at hd
     obtain ⟨d0,hd0,rfl⟩:=hd
     obtain ⟨v,v1,v2,v3⟩:=c5 i d0 hd0
     exact ⟨v,v1,v2,hmap v3⟩
  ·refine (h.ob h3).step hs fun x hx=>⟨.inr ⟨k,g,o,hk,(hold h3).trans hx⟩,?_⟩
   refine hfr.block x (hlt h3 hx) fun hm=>?_
   rcases hm with hm | ⟨j,hj,hx'⟩
   ·have:=hlt h3 hx; omega
   ·obtain ⟨k', g', b', e1,e2,e3,_⟩:=hfp' hj
    rw [dC e1 e2] at hx'
    have hne:k ≠ k' := fun e=>h2 j (by have hmm:m = fp.length:=rfl; omega) (by rw [e3]; exact e)
    exact h.inj k k' g g' o _ hne h3 e2 x hx hx'
 have hmut:Mut s s' E ⟨φ', cV E s' φ', nm'⟩ w w' := ⟨fun b hb=>.inl hb,hblk,fun x hlt' ⟨k,g,o,hk,hx⟩=>by
  have hx:φ' g = some x:=hx
  rcases hsub hk with ⟨j,b,hj,_,_,rfl,_⟩ | ⟨_,h3⟩
  ·rw [hγφ hj] at hx
   rcases hkept hj hx with ⟨_,h1⟩ | ⟨_,h1⟩
   ·exact h1
   ·omega
  ·rw [hold h3] at hx; exact ⟨k,g,o,h3,hx⟩⟩
 refine ⟨⟨φ', cV E s' φ', nm'⟩,h.turn φ' nm' rfl hs (fun k g b hk=>hob (AS.at_iff.1 hk)) (fun k g r hk=>hob (AS.lat_iff.1 hk)) ?_ ?_ ?_ ?_ hmut.heap,hs,hres,hmut⟩
 ·intro k1 k2 g1 g2 o1 o2 hkk h1 h2 x hx1 hx2
  have cross:∀ {j k g o},j < bs.length → φ j = some x → (∀ j,j < bs.length → k ≠ fc fp ky j) → s.gat k = some (g,o) → E.φ g = some x → False:=fun {j k g o} hj hx hne h3 hx3=>by
   by_cases hjm:j < m
   ·obtain ⟨k', g', b', e1,e2,e3,_⟩:=hfp' hjm
    rw [hφ0 j hjm,dC e1 e2] at hx
    exact h.inj k k' g g' o _ (fun e=>hne j hj (by rw [e3]; exact e)) h3 e2 x hx3 hx
   ·have:=hlow j x (by show m ≤ j; omega) hj hx; have:=hlt h3 hx3; omega
  rcases hsub h1 with ⟨j1,b1,hj1,_,e1,e2,_⟩ | ⟨n1,h3⟩ <;> rcases hsub h2 with ⟨j2,b2,hj2,_,e3,e4,_⟩ | ⟨n2,h4⟩
  ·subst e2 e4
   rw [hγφ hj1] at hx1
   rw [hγφ hj2] at hx2
   exact hinj j1 j2 x hj1 hj2 (fun e=>hkk (by rw [e1,e3,e])) hx1 hx2
  ·subst e2
   rw [hγφ hj1] at hx1
   rw [hold h4] at hx2
   exact cross hj1 hx1 n2 h4 hx2
  ·subst e4
   rw [hold h3] at hx1
   rw [hγφ hj2] at hx2
   exact cross hj2 hx2 n1 h3 hx1
  ·rw [hold h3] at hx1
   rw [hold h4] at hx2
   exact h.inj k1 k2 g1 g2 o1 o2 hkk h3 h4 x hx1 hx2
 ·rintro x ⟨k,g,o,hk,hx⟩
  rcases hsub hk with ⟨j,b,hj,_,_,rfl,_⟩ | ⟨_,h3⟩
  ·rw [hγφ hj] at hx
   rcases hkept hj hx with ⟨_,h1⟩ | ⟨_,h1⟩
   ·exact h.low x h1
   ·exact cx.hM x (KK h.szB h1)
  ·rw [hold h3] at hx; exact h.low x ⟨k,g,o,h3,hx⟩
 ·refine hfr.mono fun k hm=>?_
  rcases hm with hm | ⟨j,_,hx⟩
  ·exact cx.hM k (KK h.szB hm)
  ·obtain ⟨k', g,o,_,h2,h3⟩:=cN hx
   exact h.low k ⟨k', g,o,h2,h3⟩
 ·rintro n (hn | ⟨h1,h2⟩)
  ·rcases h.nm n hn with h1 | ⟨j,hj,h1⟩
   ·exact .inl h1
   ·exact .inr ⟨j,KM _ hj,h1⟩
  ·exact .inr ⟨i,KO,by show s.nx + 8 * i ≤ n; omega,by show n < s.nx + 8 * i + 8; have hmm:m = fp.length:=rfl; omega⟩
end
end Go.Vx
namespace Go.Vx
open Go.RowKit Go.Bw
section
variable {P:Program} {cx:Cx} {E:Env} {s:AS} {a:Act} {w:World} {i:Nat} {o:Oper} {T:TT}

def sA (T:TT) (s:AS) (ts:Array TypeId) (xs:Array Operand):Ev :=
 match ts.toList,xs.toList with
 | [t],[x]=>match T.get t,dz s x with
  | some ⟨.slice _,_,_,_,_⟩,some (.v (.slice none 0 0))=>.ok (some (.v (.int .i64 0))) []
  | _,_=>.stuck
 | _,_=>.stuck
theorem ud (hT:T.ok P) (h:SR cx E s a w) {c:Call} (ho:o.op = .call c) (hc:c.callee = .builtin .cap) {v:Option D} {up:Up} (he:(sA T s c.argTypes c.args).run v up):bA P cx E s a w i o v up:=by
 unfold sA at he
 split at he
 case h_2=>exact he.elim
 case h_1 t x hts hxs =>
 split at he
 case h_2=>exact he.elim
 case h_1 e z1 z2 z3 z4 hti hx =>
 obtain ⟨rfl,rfl⟩:=he
 have e1:c.argTypes = #[t]:=by apply LV; simpa using hts
 have e2:c.args.map a.eval = #[a.eval x]:=by apply LV; rw [Mc,hxs]; rfl
 have hrx:=h.eval hx
 generalize hux:a.eval x = ux at hrx
 cases hrx
 refine .pure h ?_ (.v _ rfl)
 unfold execOp
 have hu:=(hT t _ hti).1
 simp [ho,resolve,hc,KL,KN,KD,invoke,builtin,e1,e2,hux,Builtin.cap_,run_underlying hu,goInt]

theorem iX (t tx ty e:TypeId) (j:TypeInfo) (z:Value) (kk:IntKind) (ht:P.underlying t = some (.slice e)) (hk:P.underlying tx = some (.int kk)) (hi:P.info? e = some j) (hz:j.zero = some z) (k:IntKind) (n:Nat) (h0:0 < n) (hs:0 < j.size)
  (hn:n ≤ 140737488355328) (hb:n * j.bytes ≤ 140737488355328) :
  ∃ us:List Value,grownCap w n 0 e * z.cells.size = us.length ∧ (MX #[t,tx] ty #[.slice none 0 0,.int k n]).run P w = .ok (.slice (some ⟨w.heap.size,0,none⟩) n (grownCap w n 0 e)) (w.drew.alloc (.cells us.toArray e)):=by
 have hw:IntKind.i64.wrap (n:Int) = n:=NV _ (by omega)
 have hne:¬ n = 0:=by omega
 have hsz:¬ j.size = 0:=by omega
 have hnx:Mi n 0 = n:=by unfold Mi; rw [if_pos (by omega)]
 have hc:=grownCap_ge w n 0 e
 refine ⟨(Mj z.cells n).toList ++ (Mj z.cells (grownCap w n 0 e - n)).toList,?_,?_⟩
 ·simp only [Kw,Np,Mj,Array.size_map,Array.size_range]
  rw [← Lr]; congr 1; omega
 ·have h1:¬ ((n:Int) < 0):=by omega
  have h2:¬ (281474976710656 < (n:Int) * (j.bytes:Int)):=by
   have:((n * j.bytes:Nat):Int) ≤ 140737488355328:=by omega
   rw [OA] at this; omega
  have h3:¬ (281474976710656 < n * j.bytes):=by omega
  have h4:¬ (9223372036854775807 < (n:Int)):=by omega
  have h5:¬ (n * j.size = 0):=by have:=Nat.mul_pos h0 hs; omega
  simp [h5,MX,run_underlying ht,run_underlying hk,sizeOf,typeInfo,zeroValue,hi,hz,asInt,asIntOf,hw,h1,h2,h3,h4,hne,hsz,hnx,Question.forced,MZ,newRow,grownCap]
  congr 2
  apply LV
  simp
def nI (T:TT) (s:AS) (nm ky:Nat) (ts:Array TypeId) (xs:Array Operand):Ev :=
 match ts.toList,xs.toList with
 | [t,tx],[x,y]=>match T.get t,T.get tx,dz s x,dz s y with
  | some ⟨.slice e,_,_,_,_⟩,some ⟨.int _,_,_,_,_⟩,some (.v (.slice none 0 0)),some (.v (.int _ n))=>match T.get e with
   | some ei=>.cond (decide (0 < n) && decide (0 < ei.size) && Kx n.toNat 140737488355328 && Kx (n.toNat * ei.bytes) 140737488355328)
     (.ok (some (.ref ky nm 0 n.toNat ei.size)) [(ky,some (nm,.b ⟨[],e,true⟩)),(ky,none)])
   | none=>.stuck
  | _,_,_,_=>.stuck
 | _,_=>.stuck
theorem rf (hT:T.ok P) (h:SR cx E s a w) (hi:i ∉ s.us) {nm ky:Nat} (hg:s.nx + 8 * i ≤ nm ∧ nm < s.nx + 8 * i + 8) {c:Call} (ho:o.op = .call c) (hc:c.callee = .builtin .append) {v:Option D} {up:Up} (he:(nI T s nm ky c.argTypes c.args).run v up) :
  bA P cx E s a w i o v up:=by
 unfold nI at he
 split at he
 case h_2=>exact he.elim
 case h_1 t tx x y hts hxs =>
 split at he
 case h_2=>exact he.elim
 case h_1 e z1 z2 z3 z4 kk z5 z6 z7 z8 k n hti htx hx hy =>
 split at he
 case h_2=>exact he.elim
 case h_1 ei hei =>
 obtain ⟨hcond,rfl,rfl⟩:=he
 simp only [Ky,decide_eq_true_eq] at hcond
 obtain ⟨⟨⟨h0,hs0⟩,hn1⟩,hn2⟩:=hcond
 have hn1:=KB hn1
 have hn2:=KB hn2
 obtain ⟨m,rfl⟩:=Lo (Int.le_of_lt h0)
 simp only [LX] at hn1 hn2 ⊢
 have e1:c.argTypes = #[t,tx]:=by apply LV; simpa using hts
 have e2:c.args.map a.eval = #[a.eval x,a.eval y]:=by apply LV; rw [Mc,hxs]; rfl
 have run0:∀ {u:Value} {w' : World},(MX #[t,tx] o.type #[a.eval x,a.eval y]).run P w = .ok u w' → (execOp a.eval o).run P w = .ok (.value u) w' := fun hu=>by
  unfold execOp
  simp only [ho,resolve,hc,KL,KN,KD,invoke,builtin,e1,e2,hu]
 have hrx:=h.eval hx
 have hry:=h.eval hy
 generalize hux:a.eval x = ux at hrx run0
 generalize huy:a.eval y = uy at hry run0
 cases hrx; cases hry
 obtain ⟨hu1,hzl,⟨j0,hj1,hj2,hj3,hj4⟩,_⟩:=hT e ei hei
 obtain ⟨us,hul,hr⟩:=iX (P:=P) (w:=w) t tx o.type e j0 ei.zero kk (hT t _ hti).1 (hT tx _ htx).1 hj1 hj2 k m (by omega) (by rw [hj3]; exact hs0) hn1 (by rw [hj4]; exact hn2)
 obtain ⟨k1,k2⟩:=h.kill ky
 have k1' := k1.drew
 obtain ⟨q1,q2,q3,q4,q5⟩:=k1'.new (ky:=ky) hi hg e [] us true (0,0) (e9.zero _) (by simp) (fun hh=>by cases hh) (fun j d hj=>by simp at hj)
 refine ⟨_,_,(k2.trans (Stp.drew _ w)).trans q2,q1,⟨fun b hb=>q5.own b (.inl hb),fun b hb _=>L5 w.drew _ b hb,fun x hx hw=>?_⟩,.slice (some ⟨w.heap.size,0,none⟩) m (grownCap w m 0 e),?_,?_⟩
 ·obtain ⟨k', g', blk', hk', hx'⟩:=q5.old x hx hw
  rcases Tr.of_set hk' with ⟨_,hv⟩ | ⟨_,hk'⟩
  ·cases hv
  ·exact ⟨k', g', blk', hk', hx'⟩
 ·exact run0 hr
 ·have hc2:=grownCap_ge w m 0 e
  have hc3:=grownCap_le_maxLen w m 0 e (by unfold maxLen; omega)
  refine .ref ky nm 0 m ei.size _ w.heap.size 0 e _ q3 q4 ⟨hc2,by unfold maxLen at hc3; unfold dX; omega⟩ (.inl rfl) (az (bz w.drew _)) ?_
  simp only [List.size_toArray]
  rw [← hul,hzl]; omega

theorem Co (h:SR cx E s a w) {d:D} {u:Value} (hr:RD E w d u) {dd:TypeDesc} {c:Bool} {n:Nat} {cells:List D} (hs:fy s 1 dd d = some (c,n,cells)) (hc:c = true) (hsl:bU dd = true) (hn:0 < n) :
  ∃ (ad:Addr) (cap:Nat) (us:List Value),u = .slice (some ad) n cap ∧ us.length = n ∧ cells.length = n ∧ (∀ (j:Nat) v,us[j]? = some v → w.cell? (ad.add j) = some v) ∧ (∀ v ∈ us,v.oneCell' = true) ∧ ∀ (j:Nat) e v,cells[j]? = some e → us[j]? = some v → RD E w e v:=by
 cases hr with
 | v cst h1 =>
  unfold fy at hs
  split at hs
  case h_3 e=>cases e; cases hs; omega
  case h_4 b e =>
   cases e; cases hs
   rw [Ky] at hc
   have:=hc.1
   cases dd <;> simp [fx,bU] at this hsl
  all_goals first | (rename_i e; cases e; done) | cases hs
 | sl nn n' sz cs ad c' us hlen hd hone hn' hs' hc2 hnil hr =>
  cases hs
  rw [Ky] at hc
  obtain rfl:sz = 1:=Kz hc.2
  rcases hr with hr | ⟨b,off,rfl,hb,ho', hcell⟩
  ·omega
  ·exact ⟨_,_,us,rfl,by omega,by omega,fun j v hv=>by rw [LM]; exact hcell j v hv,hone,fun j e v a1 a2=>(hd j e v a1 a2).ofCl⟩
 | ref k g off n' sz c' b off' t m hg hb hc2 hoff hsh hm =>
  simp only [fy] at hs
  cases hk:s.at k with
  | none=>rw [hk] at hs; cases hs
  | some p =>
  obtain ⟨g', blk⟩:=p
  rw [hk] at hs
  have hs:=Option.some.inj hs
  injection hs with bX eZ
  injection eZ with eZ mT
  subst bX eZ mT
  simp only [Ky] at hc
  obtain ⟨⟨⟨hst,hgg⟩,hsz⟩,hle⟩:=hc
  have e:g = g' := Kz hgg
  subst e
  obtain rfl:sz = 1:=Kz hsz
  have hle:=KB hle
  obtain ⟨hlt,_,cur,fr,hcur,_,hcl,_,hcell⟩:=h.block hk hb
  have hv:Vw E w b 0 blk.cells:=fun j d hj=>by
   obtain ⟨v,hv1,hv2,hv3⟩:=hcell j d hj
   exact ⟨v,by rw [KV,cell_of_row w b j cur blk.elem fr hcur]; exact hv1,hv2,hv3⟩
  obtain ⟨us,hl,hrg,h1,hd⟩:=hv.seg hle
  rw [KV] at hrg
  have hcells:(bif Kv off 0 && Kv (n' * 1) blk.cells.length then blk.cells else (blk.cells.drop off).take (n' * 1)) = (blk.cells.drop off).take (n' * 1):=by
   cases hq:(Kv off 0 && Kv (n' * 1) blk.cells.length) with
   | false=>rfl
   | true =>
    rw [Ky] at hq
    have e1:=Kz hq.1
    have e2:=Kz hq.2
    subst e1
    rw [cond_true,Ma,e2,LF]
  rw [hcells]
  have hof:off' = off:=by
   rcases hoff with q | ⟨q,_⟩
   ·exact q
   ·omega
  subst hof
  exact ⟨_,_,us,rfl,by omega,by rw [KC,KQ]; omega,fun j v hv=>by rw [LM]; exact hrg j v hv,h1,hd⟩
 | refn k g sz hg hb =>
  simp only [fy] at hs
  cases hk:s.at k with
  | none=>rw [hk] at hs; cases hs
  | some p=>rw [hk] at hs; cases hs; omega
 | _=>cases hs
def nJ (T:TT) (s:AS) (ts:Array TypeId) (xs:Array Operand):Ev :=
 match ts.toList,xs.toList with
 | [t,tx],[x,y]=>match T.get t,T.get tx,dz s x,dz s y with
  | some ⟨.slice e,_,_,_,_⟩,some ti,some (.ref k g off n 1),some dy=>match T.get e,s.at k,fy s 1 ti.desc dy with
   | some ei,some p,some (c2,n2,news) =>
    .cond (c2 && bU ti.desc && Kv ei.size 1 && Kv g p.1 && Mf 0 (Lv n2 n) && Kx (off + n) p.2.cells.length)
     (.list (af p.2.cells off (news.take (Lv n2 n))) fun cs=>.ok (some (.v (.int .i64 ((Lv n2 n:Nat):Int)))) [(k,some (g,.b ⟨cs,p.2.elem,p.2.row⟩))])
   | _,_,_=>.stuck
  | _,_,_,_=>.stuck
 | _,_=>.stuck
theorem rg (hT:T.ok P) (h:SR cx E s a w) {c:Call} (ho:o.op = .call c) (hc:c.callee = .builtin .copy) {v:Option D} {up:Up} (he:(nJ T s c.argTypes c.args).run v up):bA P cx E s a w i o v up:=by
 unfold nJ at he
 split at he
 case h_2=>exact he.elim
 case h_1 t tx x y hts hxs =>
 split at he
 case h_2=>exact he.elim
 case h_1 e z1 z2 z3 z4 ti k g off n dy hti htx hx hy =>
 split at he
 case h_2=>exact he.elim
 case h_1 ei p c2 n2 news hei hp hsrc =>
 obtain ⟨g', blk⟩:=p
 obtain ⟨hcond,rfl,rfl⟩:=he
 simp only [Ky] at hcond
 obtain ⟨⟨⟨⟨⟨hc2,hsl⟩,hsz⟩,hgg⟩,h0⟩,hle⟩:=hcond
 obtain rfl:g = g' := Kz hgg
 have hsz:=Kz hsz
 have h0:0 < Lv n2 n:=KB h0
 have hle:=KB hle
 have hm1:Lv n2 n ≤ n2:=OC _ _
 have hm2:Lv n2 n ≤ n:=Nat.min_le_right _ _
 have e1:c.argTypes = #[t,tx]:=by apply LV; simpa using hts
 have e2:c.args.map a.eval = #[a.eval x,a.eval y]:=by apply LV; rw [Mc,hxs]; rfl
 have run0:∀ {u:Value} {w' : World},(Builtin.copy_ #[t,tx] o.type #[a.eval x,a.eval y]).run P w = .ok u w' → (execOp a.eval o).run P w = .ok (.value u) w' := fun hu=>by
  unfold execOp
  simp only [ho,resolve,hc,KL,KN,KD,invoke,builtin,e1,e2,hu]
 have hrx:=h.eval hx
 have hry:=h.eval hy
 generalize hux:a.eval x = ux at hrx run0
 generalize huy:a.eval y = uy at hry run0
 obtain ⟨ad,cap,us,rfl,hul,hnl,hsr,hone,hrd⟩:=Co h hry hsrc hc2 hsl (by omega)
 obtain ⟨hu1,hzl,⟨j0,hj1,hj2,hj3,hj4⟩,_⟩:=hT e ei hei
 cases hrx with
 | refn k g sz hg hb =>
  omega
 | ref _ _ _ _ _ cc b off' tt mm hg hb hc3 hoff hsh hmm =>
 have hof:off' = off:=by
  rcases hoff with q | ⟨q,_⟩
  ·exact q
  ·omega
 subst hof
 obtain ⟨hlt,hown,cur,fr,hcur,hfz,hcl,hrow,hcell⟩:=h.block hp hb
 have hcs:(us.take (Lv n2 n)).length = Lv n2 n:=by rw [KC]; omega
 have hns:(news.take (Lv n2 n)).length = Lv n2 n:=by rw [KC]; omega
 have hfit:∀ j,j < (us.take (Lv n2 n)).length → off' + j < cur.size:=fun j hj=>by rw [hcs] at hj; omega
 have hr:=run_copy_cells (P:=P) w t tx o.type e b off' n cc ad n2 cap (us.take (Lv n2 n)) (hT t _ hti).1 (by rw [hj1]; simp only [MW,hj3,hsz]) hcs
  (fun j v hv=>by
   rw [List.getElem?_take] at hv
   split at hv
   ·exact hsr j v hv
   ·cases hv)
  (fun j hj=>by rw [cell_of_row w b _ cur blk.elem fr hcur,Array.getElem?_eq_getElem (hfit j hj)]; rfl)
  (fun j hj=>gy w b _ cur blk.elem fr hcur hfz (hfit j hj))
  (fun v hv=>hone v (Lt hv))
 obtain ⟨cur', hcur', hsz', hget'⟩:=dP w b off' cur blk.elem fr (us.take (Lv n2 n)) hcur (by rw [hcs]; omega)
 obtain ⟨hgr,hz⟩:=setCells_grown b (us.take (Lv n2 n)) off' w
 have hst:=h.store (i:=i) hp hb (af blk.cells off' (news.take (Lv n2 n))) (cF (by rw [hns]; omega)) hgr hz cur cur' fr hcur hcur' hsz' (fun j e hj=>by
  rw [cd (by rw [hns]; omega),hns] at hj
  rw [hget', hcs]
  split at hj
  ·rename_i hr
   rw [if_pos hr]
   have hj1:=(List.getElem?_eq_some_iff.1 hj).1
   rw [hns] at hj1
   have hu:(us.take (Lv n2 n))[j - off']? = some (us.take (Lv n2 n))[j - off']:=List.getElem?_eq_getElem (by rw [hcs]; omega)
   refine ⟨_,hu,hone _ (Lt (Ld _)),?_⟩
   rw [List.getElem?_take] at hu hj
   rw [if_pos (by omega)] at hu hj
   exact hrd _ _ _ hj hu
  ·rename_i hr
   rw [if_neg hr]
   exact hcell _ _ hj)
 refine ⟨_,_,hst.2.1,hst.1,hst.2.2,_,run0 hr,?_⟩
 rw [hcs]
 exact .v _ rfl
end
end Go.Vx
namespace Go.Vx
open Go.RowKit Go.Bw

def rh (T:TT) (s:AS) (nm ky:Nat) (src dst:TypeId) (x:Operand):Ev :=
 match T.get src,T.get dst with
 | some ⟨.slice _,_,_,_,_⟩,some ⟨.slice _,_,_,_,_⟩=>sy T s src dst x
 | some ⟨.slice _,_,_,_,_⟩,_=>sw T s src dst x
 | _,some ⟨.slice _,_,_,_,_⟩=>sx T s nm ky src dst x
 | _,_=>jS T s src dst x
def JS (T:TT) (ts:Array TypeId):Bool:=match ts.toList with
 | [_,tx]=>match T.get tx with
  | some ⟨.int _,_,_,_,_⟩=>true
  | _=>false
 | _=>false
def vF (T:TT) (s:AS) (nm ky:Nat) (c:Call):Ev:=bif JS T c.argTypes then nI T s nm ky c.argTypes c.args else im T s nm ky c.argTypes c.args
def ri (T:TT) (s:AS) (nm ky:Nat) (c:Call):Ev :=
 match c.callee with
 | .builtin .len=>r7 T s c.argTypes c.args
 | .builtin .append=>vF T s nm ky c
 | .builtin .cap=>sA T s c.argTypes c.args
 | .builtin .copy=>nJ T s c.argTypes c.args
 | .builtin .min=>o6 s false c.args
 | .builtin .max=>o6 s true c.args
 | _=>.stuck
def ev (T:TT) (s:AS) (nm ky:Nat) (o:Oper):Ev :=
 match o.op with
 | .move x=>fv s x
 | .assign x=>fv s x
 | .pick c x y=>ng s c x y
 | .alloc t=>jK T nm ky t
 | .box t x=>rY s nm ky t x
 | .build t ps=>jX T s t ps
 | .buildSlice t n ps=>dR T s nm ky t n ps
 | .load t x=>fu T s t x
 | .store t x y=>jL T s t x y
 | .binOp op t x y _=>rZ T s op t x y
 | .unOp op _ x=>xN s op x
 | .convert src dst x=>rh T s nm ky src dst x
 | .makeInterface t x=>jN T s t x
 | .makeFunc f fi ca=>nF s f fi ca
 | .makeSlice t l c=>nE T s nm ky t l c
 | .slice t x lo hi mx=>jT T s t x lo hi mx
 | .fieldAddr t x f=>ez T s t x f
 | .field t x f=>jO T s t x f
 | .indexAddr t x ix=>eD T s t x ix
 | .index t x ix=>jQ T s t x ix
 | .extract x n=>gz s x n
 | .typeAssert x _ t ok=>yg T s x t ok
 | .call c=>ri T s nm ky c
 | .nilCheck x=>nf s x
 | _=>.stuck


def rj (b:Bool) (X:Prop):Prop:=match b with
 | true=>X
 | false=>False
def gN {α:Type} (o:Option α) (K:α → Prop):Prop:=match o with
 | some x=>K x
 | none=>False
def EG (b:Bool) (X Y:Prop):Prop:=match b with
 | true=>X
 | false=>Y
structure bytP (cs:List D) (K:List UInt8 → Prop):Prop where
 h:∃ bs,cs = bs.map dB ∧ K bs
theorem aZ {b:Bool} {X:Prop}:rj b X ↔ b = true ∧ X:=by cases b <;> simp [rj]
theorem aw {α:Type} {o:Option α} {K:α → Prop}:gN o K ↔ ∃ x,o = some x ∧ K x:=by cases o <;> simp [gN]
theorem fB {b:Bool} {X Y:Prop}:EG b X Y ↔ (b = true → X) ∧ (b = false → Y):=by cases b <;> simp [EG]

def Ev.vc:Ev → (Option D → Up → Prop) → Prop
 | .ok v up,K=>K v up
 | .cond b k,K=>rj b (k.vc K)
 | .opt o k,K=>gN o fun d=>(k d).vc K
 | .bytes cs k,K=>bytP cs fun bs=>(k bs).vc K
 | .list cs k,K=>(k cs).vc K
 | .stuck,_=>False

theorem Ev.vc_run:∀ {e:Ev} {K:Option D → Up → Prop},e.vc K → ∃ v up,e.run v up ∧ K v up
 | .ok v up,_,h=>⟨v,up,⟨rfl,rfl⟩,h⟩
 | .cond b k,_,h=>let ⟨hb,h⟩:=aZ.1 h; let ⟨v,up,h1,h2⟩:=Ev.vc_run h; ⟨v,up,⟨hb,h1⟩,h2⟩
 | .opt o k,_,h=>let ⟨d,hd,h⟩:=aw.1 h; let ⟨v,up,h1,h2⟩:=Ev.vc_run h; ⟨v,up,⟨d,hd,h1⟩,h2⟩
 | .list cs k,_,h=>let ⟨v,up,h1,h2⟩:=Ev.vc_run (e:=k cs) h; ⟨v,up,h1,h2⟩
 | .bytes cs k,_,⟨bs,hb,h⟩=>let ⟨v,up,h1,h2⟩:=Ev.vc_run h; ⟨v,up,⟨bs,hb,h1⟩,h2⟩
 | .stuck,_,h=>h.elim

def cZ (s:AS) (o:Oper):Option (FuncId × List D) :=
 match o.op with
 | .call c=>match c.callee with
  | .value x=>match dz s x,eP s c.args.toList with
   | some (.fn (.func f) fi ca),some ds=>some (f,fi ++ ds ++ ca)
   | _,_=>none
  | _=>none
 | _=>none

def d9:List Nat → Bool
 | []=>true
 | k :: r=>!(r.any fun x=>Kv x k) && d9 r
theorem ci:∀ {l:List Nat},d9 l = true → l.Nodup
 | [],_=>List.nodup_nil
 | k :: r,h=>by
  simp only [d9,Ky,L9] at h
  refine List.nodup_cons.2 ⟨fun hm=>?_,ci h.2⟩
  have:=List.any_eq_false.1 h.1 k hm
  simp at this
structure callP (P:Program) (s:AS) (ds:List D) (f:FuncId) (nm ky:Nat) (K:Option D → Up → Prop):Prop where
 h:∃ al fp q hin r bs,gM s al fp ds = some (true,q) ∧ gT s fp fp = some (true,hin) ∧ CallOk al P f q hin r bs ∧ (d9 fp && Kx bs.length (fp.length + 8)) = true ∧ K (some (nH (fc fp ky) (eQ s fp nm) bs r)) (fA (fc fp ky) (eQ s fp nm) 0 bs)

def cH (P:Program) (T:TT) (s:AS) (nm ky:Nat) (o:Oper) (K:Option D → Up → Prop):Prop :=
 match cZ s o with
 | some p=>callP P s p.2 p.1 nm ky K
 | none=>(ev T s nm ky o).vc K

structure FOK (F:Fence):Prop where
 fn:∀ f,F.fn f
 dep:F.depth = none
 call:∀ {n:Nat} {P:Program} {f:FuncId} {args:Array Value} {w:World} {R:Ending → World → Prop},Calls P f args w R → CallsIn F n P f args w R
theorem FOK.wide:FOK OL:=⟨fun _=>trivial,rfl,fun h=>callsIn_wide.2 h⟩
theorem FOK.inRound {F:Fence} (h:FOK F) (l:Nat):FOK (F.inRound l):=⟨h.fn,h.dep,fun hc=>CallsIn.inRound l (h.call hc)⟩

theorem fe {l:List Nat} (h:l.Nodup) {i j x:Nat} (h1:l[i]? = some x) (h2:l[j]? = some x):i = j:=by
 obtain ⟨a1,b1⟩:=List.getElem?_eq_some_iff.1 h1
 obtain ⟨a2,b2⟩:=List.getElem?_eq_some_iff.1 h2
 have hp:=List.pairwise_iff_getElem.1 h
 rcases MN i j with hlt | e | hlt
 ·exact absurd (b1.trans b2.symm) (hp i j a1 a2 hlt)
 ·exact e
 ·exact absurd (b2.trans b1.symm) (hp j i a2 a1 hlt)
section
variable {P:Program} {cx:Cx} {E:Env} {s:AS} {a:Act} {w:World} {i:Nat} {o:Oper} {T:TT} {F:Fence} {n:Nat}

theorem vG (hT:T.ok P) (h:SR cx E s a w) (hi:i ∉ s.us) {nm ky:Nat} (hg:s.nx + 8 * i ≤ nm ∧ nm < s.nx + 8 * i + 8) {v:Option D} {up:Up} (he:(ev T s nm ky o).run v up):bA P cx E s a w i o v up:=by
 unfold ev at he
 split at he
 case h_1 ho=>exact kt h (.inl ho) he
 case h_2 ho=>exact kt h (.inr ho) he
 case h_3 ho=>exact qJ h ho he
 case h_4 ho=>exact oO hT h hi hg ho he
 case h_5 ho=>exact tS h hi hg ho he
 case h_6 ho=>exact pj hT h ho he
 case h_7 ho=>exact iV hT h hi hg ho he
 case h_8 ho=>exact kr hT h ho he
 case h_9 ho=>exact oP hT h ho he
 case h_10 ho=>exact oZ hT h ho he
 case h_11 ho=>exact qL h ho he
 case h_12 ho =>
  unfold rh at he
  split at he
  ·exact t8 hT h ho he
  ·exact t6 hT h ho he
  ·exact t7 hT h hi hg ho he
  ·exact o5 hT h ho he
 case h_13 ho=>exact oQ hT h ho he
 case h_14 ho=>exact q8 h ho he
 case h_15 ho=>exact q6 hT h hi hg ho he
 case h_16 ho=>exact o7 hT h ho he
 case h_17 ho=>exact jB hT h ho he
 case h_18 ho=>exact oS hT h ho he
 case h_19 ho=>exact jC hT h ho he
 case h_20 ho=>exact oT hT h ho he
 case h_21 ho=>exact lP h ho he
 case h_22 ho=>exact vC hT h ho he
 case h_23 c ho =>
  unfold ri at he
  split at he
  case h_1 hc=>exact tT hT h ho hc he
  case h_2 hc =>
   unfold vF at he
   cases hz:JS T c.argTypes with
   | true=>rw [hz] at he; exact rf hT h hi hg ho hc he
   | false=>rw [hz] at he; exact nz hT h hi hg ho hc he
  case h_3 hc=>exact ud hT h ho hc he
  case h_4 hc=>exact rg hT h ho hc he
  case h_5 hc=>exact me h ho (mx:=false) hc he
  case h_6 hc=>exact me h ho (mx:=true) hc he
  case h_7=>exact he.elim
 case h_24 ho=>exact qI h ho he
 case h_25=>exact he.elim

theorem fC {f:FuncId} (hf:ax P f) (args:Array Value):(callFunc f args).run P w = .ok (.enter f args) w:=by
 obtain ⟨fn,h1,h2,h3⟩:=hf
 unfold callFunc
 show (match P.funcs[f]? with | none=>stuck _ | some fn=>_).run P w = _
 rw [h1]
 simp only [h2,h3,LN,if_false,Mn,KN]

def da (tm:Tr D) (dst:Option Nat) (v:Option D):Tr D :=
 match dst with
 | some t=>tm.set t v
 | none=>tm
def ga (nt:Nat) (o:Oper):Bool:=match o.dst with | some t=>Mf t nt && Tr.okK t | none=>true

def EH (E:Env) (w:World) (v:Option D) (u:Value):Prop:=match v with | some d=>RD E w d u | none=>u = undef

theorem bR (h:SR cx E s a w) (ho:ga cx.nt o = true) {v:Option D} {u:Value} (hr:EH E w v u):SR cx E { s with tm:=da s.tm o.dst v } (a.put o.dst u) w:=by
 cases hdst:o.dst with
 | none=>exact h
 | some t =>
  unfold ga at ho
  rw [hdst] at ho
  rw [Ky] at ho
  have:t < cx.nt:=KB ho.1
  cases v with
  | some d=>exact h.put this hr
  | none=>exact h.unput u

theorem nK (hF:FOK F) (hT:T.ok P) (h:SR cx E s a w) (hi:i ∉ s.us) {ky:Nat} {K:Option D → Up → Prop} (hv:cH P T s (s.nx + 8 * i) ky o K) {next:Act → World → Prop} {Q:Exit → Act → World → Prop}
  (hn:∀ v up E' w' u,K v up → Stp E E' w w' → SR cx E' { s with hp:=ey up s.hp,us:=i :: s.us } a w' → Mut s { s with hp:=ey up s.hp,us:=i :: s.us } E E' w w' → EH E' w' v u → next (a.put o.dst u) w') :
  o.wpIn F n P a w next Q:=by
 refine ⟨fun f _=>hF.fn f,?_⟩
 unfold cH at hv
 split at hv
 case h_1 p hp =>
  obtain ⟨al,fp,q,hin,r,bs,hq,hin', hcall,hlen,hK⟩:=hv
  rw [Ky] at hlen
  obtain ⟨hnd,hlen⟩:=hlen
  unfold cZ at hp
  split at hp
  case h_2=>cases hp
  case h_1 c ho =>
  split at hp
  case h_2=>cases hp
  case h_1 x hc =>
  split at hp
  case h_2=>cases hp
  case h_1 f fi ca ds hx hds =>
  cases hp
  dsimp only at hq hcall
  have hrx:=h.eval hx
  obtain ⟨hl1,hl2⟩:=dq h _ _ hds
  generalize hux:a.eval x = ux at hrx
  cases hrx with
  | fn _ _ _ us vs hu1 hu2 hu3 hu4 =>
  have hargs:(us ++ c.args.toList.map a.eval ++ vs).length = (fi ++ ds ++ ca).length ∧ ∀ (j:Nat) d u,(fi ++ ds ++ ca)[j]? = some d → (us ++ c.args.toList.map a.eval ++ vs)[j]? = some u → RD E w d u:=by
   have app:∀ {l1 l2:List D} {m1 m2:List Value},m1.length = l1.length → m2.length = l2.length → (∀ (j:Nat) d u,l1[j]? = some d → m1[j]? = some u → RD E w d u) → (∀ (j:Nat) d u,l2[j]? = some d → m2[j]? = some u → RD E w d u) →
     (m1 ++ m2).length = (l1 ++ l2).length ∧ ∀ (j:Nat) d u,(l1 ++ l2)[j]? = some d → (m1 ++ m2)[j]? = some u → RD E w d u:=by
    intro l1 l2 m1 m2 e1 e2 r1 r2
    refine ⟨by simp [e1,e2],fun j d u hd hu=>?_⟩
    by_cases hj:j < l1.length
    ·rw [List.getElem?_append_left hj] at hd
     rw [List.getElem?_append_left (by omega)] at hu
     exact r1 j d u hd hu
    ·rw [List.getElem?_append_right (by omega)] at hd
     rw [List.getElem?_append_right (by omega),e1] at hu
     exact r2 _ d u hd hu
   obtain ⟨q1,q2⟩:=app hu1 hl1 hu3 hl2
   exact app q1 hu2 q2 hu4
  obtain ⟨t1,t2⟩:=iu _ hq rfl
  obtain ⟨i1,i2,i3⟩:=mj h (al:=al) fp 0 (fun j k hj=>by rw [KV]; exact hj) hin' rfl
  dsimp only at i1
  have hm:=hcall.len
  have p1:∀ x,(al = true ∧ E.own x) → x < w.heap.size:=fun x hx=>h.lt x hx.2
  have p2:∀ (j:Nat) b,hin[j]? = some b → HB (dS (fun b=>al = true ∧ E.own b) (fb s E fp) hin.length) w j b:=fun j b hj=>by
   have:=i3 j b hj
   rw [KV] at this
   rw [i1]; exact this
  have p3:∀ i j x,i < hin.length → j < hin.length → i ≠ j → fb s E fp i = some x → fb s E fp j ≠ some x:=fun j1 j2 x h1 h2 hne hx1 hx2=>by
   obtain ⟨k1,g1,o1,e1,e2,e3⟩:=cN hx1
   obtain ⟨k2,g2,o2,e4,e5,e6⟩:=cN hx2
   have hkk:k1 ≠ k2:=fun e=>hne (by
    subst e
    exact fe (ci hnd) e1 e4)
   exact h.inj k1 k2 g1 g2 o1 o2 hkk e2 e5 x e3 e6
  have p4:(us ++ c.args.toList.map a.eval ++ vs).length = q.length:=by rw [hargs.1,t1]
  have p5:∀ (j:Nat) d u,q[j]? = some d → (us ++ c.args.toList.map a.eval ++ vs)[j]? = some u → RD (dS (fun b=>al = true ∧ E.own b) (fb s E fp) hin.length) w d u:=fun j d u hd hu=>by
   have hlt:j < (fi ++ ds ++ ca).length:=by rw [← t1]; exact (List.getElem?_eq_some_iff.1 hd).1
   obtain ⟨p,a1,a2,a3⟩:=t2 j _ (List.getElem?_eq_getElem hlt)
   rw [hd] at a3; cases a3
   have hrd:=hargs.2 j _ u (List.getElem?_eq_getElem hlt) hu
   rw [i1]
   exact mi h hrd rfl rfl a1 a2
  have fin:∀ u w', Gv (iW al (fun b=>al = true ∧ E.own b) w) w hin.length (fb s E fp) r bs u w' → next (a.put o.dst u) w' := fun u w' hgv=>by
   rw [i1] at hgv
   have hm:=hm
   rw [i1] at hm
   obtain ⟨E', s1,s2,s3,s4⟩:=h.adopt (ky:=ky) hi rfl (ci hnd) i2 hm (KB hlen) (fun b hb ho=>by
    unfold iW
    cases al with
    | false=>rw [if_neg (by simp)]; exact hb
    | true=>rw [if_pos rfl]; exact ⟨rfl,ho⟩) hgv
   exact hn _ _ E' w' u hK s2 s1 s4 s3
  have e1:(us.toArray ++ c.args.map a.eval) ++ vs.toArray = (us ++ c.args.toList.map a.eval ++ vs).toArray:=by apply LV; simp
  cases hcall with
  | fn hfok hspec =>
   have hsp:=hspec.2 _ _ w _ p1 p2 p3 p4 p5
   have hrun:(o.semAt F.round a.eval).run P w = .ok (.enter f (us ++ c.args.toList.map a.eval ++ vs).toArray) w:=by
    rw [MV _ _ _ (fun c' hc' => by rw [ho] at hc'; cases hc')]
    unfold execOp
    simp only [ho,resolve,hc,KL,MR,hux,KN,KD,invoke,e1,fC hfok]
   rw [hrun]
   refine ⟨fun hd=>(by rw [hF.dep] at hd; cases hd),(hF.call hsp).mono ?_⟩
   rintro e w' ⟨u,rfl,hgv⟩
   exact fin u w' hgv
  | ext hspec =>
   obtain ⟨u,w', hr,hgv⟩:=hspec.2 _ _ w _ p1 p2 p3 p4 p5
   have hrun:(o.semAt F.round a.eval).run P w = .ok (.value u) w' := by
    rw [MV _ _ _ (fun c' hc' => by rw [ho] at hc'; cases hc')]
    unfold execOp
    simp only [ho,resolve,hc,KL,MR,hux,KN,KD,invoke,e1,hr]
   rw [hrun]
   exact fin u w' hgv
 case h_2 hp =>
  obtain ⟨v,up,hrun,hK⟩:=Ev.vc_run hv
  obtain ⟨E', w', s1,s2,s4,s3⟩:=vG hT h hi ⟨KG _,by omega⟩ hrun
  have hnd:∀ c,o.op ≠ .defer c:=fun c hc=>by
   unfold ev at hrun; rw [hc] at hrun; exact hrun.elim
  rw [MV _ _ _ hnd]
  cases v with
  | some d =>
   obtain ⟨u,hu,hr⟩:=s3
   rw [hu]
   exact hn _ _ E' w' u hK s1 s2 s4 hr
  | none =>
   rw [s3]
   exact hn _ _ E' w' undef hK s1 s2 s4 rfl

end
end Go.Vx

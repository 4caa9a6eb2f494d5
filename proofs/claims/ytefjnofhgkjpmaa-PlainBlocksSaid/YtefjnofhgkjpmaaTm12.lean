/- Part 12. -/
import Derived.Test.YtefjnofhgkjpmaaTm11
import Derived.Test.YtefjnofhgkjpmaaTm10
set_option linter.unusedVariables false
set_option linter.unusedSimpArgs false
set_option maxRecDepth 100000
set_option maxHeartbeats 4000000
open And renaming intro → Ut
open Bool renaming and_eq_true → Tw, and_true → Uh, or_eq_true → VF, true_and → Ub
open Classical renaming em → Xe
open Go.Fn renaming func → Ui
open Go.IntKind renaming i64 → Uf
open Go.LoopState renaming busy → Wr, ready → Vr
open Go.Vx.Blk renaming mk → Tq
open Go.Vx.CallOk renaming fn → TW
open Go.Vx.CutS renaming mk → TJ
open Go.Vx.D renaming agg → UA, fn → U9, ptr → TF, ref → Tu, sl → TL, tup → Uw
open Inhabited renaming default → mb
open Int renaming toNat → zK
open List renaming append_assoc → TG, append_nil → Ue, drop_eq_getElem_cons → UK, drop_left → Ws, drop_zero → U4, ext_getElem? → Uu, flatMap_cons → UC, getD_eq_getElem?_getD → To, getElem?_append_left → TQ, getElem?_append_right → TO, getElem?_eq_getElem → Ts, getElem?_eq_none → TY, getElem?_map → TN, getElem?_replicate → UT, getElem?_set → U3, getElem?_take → Un, getElem_mem → Uo, length_append → Tt, length_cons → T3, length_drop → Ul, length_map → TH, length_nil → Vj, length_replicate → T4, length_set → VG, length_singleton → Ud, map → VO, map_append → Uq, map_map → Xg, mem_append_left → U2, mem_append_right → Wj, mem_cons_of_mem → TU, mem_cons_self → TP, mem_map_of_mem → W8, nil_append → VV, range → Uv, replicate → TK, singleton_append → WO, take_length → Uy, take_of_length_le → T9
open Nat renaming add_assoc → UF, add_comm → Xf, add_sub_cancel_left → Vz, add_zero → VD, beq → Tx, beq_refl → Uz, ble → Tz, ble_eq_true_of_le → Tv, le_add_right → V4, le_refl → TD, le_trans → T6, lt_irrefl → V1, lt_of_lt_of_le → Ug, lt_or_ge → T5, mod_eq_of_lt → UZ, mul_one → TZ, not_lt_zero → UR, pow_add → Xq, pow_le_pow_right → TX, sub_le → YZ, sub_self → UJ, succ_le_succ → Vy, succ_mul → XE, two_pow_pos → UY, zero_le → T7, zero_mul → Vd
open Prod renaming fst → Ty, snd → Tm
open UInt8 renaming ofNat → Um, toNat → Tp, toNat_ofNat' → U6
namespace Go.Proofs.Ytefjnofhgkjpmaa
open Go.RowKit Go.Bw Go.Vx
open List (length getD map take drop flatMap replicate)
namespace Vp
theorem zu {p:Prop}(h:p:=by(rw[hE (by first|exact .inl om|exact .inr aD)])):p:=h
theorem I6 {p:Prop}(h:p:=by(have h9:=bH b 8 s;have h8:=@rj b l1 s hT1;have h7:=@rj b l2 (gQ b false (aH b l1 s) (aR b l1 s)) hT2;omega)):p:=h
theorem I7 {p:Prop}(h:p:=by(have h9:=@ja b kd le l1 l2 c;omega)):p:=h
theorem I8 {p:Prop}(h:p:=by(rw[El hR om aD (show(fl (fl (ax b kd le l1 l2 c).1 (decide (((ax b kd le l1 l2 c).2.2.1:Int)≤((o.length:Nat):Int))) 60) (decide (((o.length:Nat):Int)+max 1 (((ax b kd le l1 l2 c).2.2.2.1:Nat):Int)≤most)) 140).e≠0 by omega)])):p:=h
theorem L4 {p:Prop}(h:p:=by(have q:=@LW b kd le l1 l2 s om om;rw[q];first|done|rfl|(unfold kp;refine fG ?_;omega))):p:=h
theorem L5 {p:Prop}(h:p:=by(have q:=@IV b kd le l1 l2 s om om om;rw[q];first|done|rfl|(unfold kp;refine fG ?_;omega))):p:=h
theorem L6 {p:Prop}(h:p:=by(have q:=@IW b kd le l1 l2 s om om om;rw[q];first|done|rfl|(unfold kp;refine fG ?_;omega))):p:=h
theorem L7 {p:Prop}(h:p:=by(have q:=@IX b kd le l1 l2 s om om om;rw[q];first|done|rfl|(unfold kp;refine fG ?_;omega))):p:=h
theorem L8 {p:Prop}(h:p:=by(exact Ej hn hc hR (by first|exact .inl om|exact .inr aD))):p:=h
theorem L9 {p:Prop}(h:p:=by(simp only[TH,TZ,Uz,Ub,Uh];refine Tv ?_;omega)):p:=h
theorem Gk {p:Prop}(h:p:=by(have h9:=@ja b kd le l1 l2 c;have q:=ke (most:=most) (d:=(ax b kd le l1 l2 c).2.2.1) (long:=(ax b kd le l1 l2 c).2.2.2.1) (s:=(ax b kd le l1 l2 c).1) (o:=o) (show(fl (fl (ax b kd le l1 l2 c).1 (decide (((ax b kd le l1 l2 c).2.2.1:Int)≤((o.length:Nat):Int))) 60) (decide (((o.length:Nat):Int)+max 1 (((ax b kd le l1 l2 c).2.2.2.1:Nat):Int)≤most)) 140).e=0 by omega);rw[Em];omega)):p:=h
theorem Gl {p:Prop}(h:p:=by(exact Jd hn hc hR om aD (show(fl (fl (ax b kd le l1 l2 c).1 (decide (((ax b kd le l1 l2 c).2.2.1:Int)≤((o.length:Nat):Int))) 60) (decide (((o.length:Nat):Int)+max 1 (((ax b kd le l1 l2 c).2.2.2.1:Nat):Int)≤most)) 140).e=0 by omega))):p:=h
theorem Gm {p:Prop}(h:p:=by show mu b (some (Kb.mk kd la (le-1) l1 l2)) (nC most (Ty (Tm (Tm (ax b kd le l1 l2 c)))) (Ty (Tm (Tm (Tm (ax b kd le l1 l2 c))))) (Ty (ax b kd le l1 l2 c)) o)<mu b (some (Kb.mk kd la le l1 l2)) c;clear next2 last2 next1 last1;(exact Je hn hc om aD (show(fl (fl (ax b kd le l1 l2 c).1 (decide (((ax b kd le l1 l2 c).2.2.1:Int)≤((o.length:Nat):Int))) 60) (decide (((o.length:Nat):Int)+max 1 (((ax b kd le l1 l2 c).2.2.2.1:Nat):Int)≤most)) 140).e=0 by omega))):p:=h
theorem Gn {p:Prop}(h:p:=by(have h9:=@ja b kd le l1 l2 c;have q:=ke (most:=most) (d:=(ax b kd le l1 l2 c).2.2.1) (long:=(ax b kd le l1 l2 c).2.2.2.1) (s:=(ax b kd le l1 l2 c).1) (o:=o) (show(fl (fl (ax b kd le l1 l2 c).1 (decide (((ax b kd le l1 l2 c).2.2.1:Int)≤((o.length:Nat):Int))) 60) (decide (((o.length:Nat):Int)+max 1 (((ax b kd le l1 l2 c).2.2.2.1:Nat):Int)≤most)) 140).e=0 by omega);have h7:=@pV b kd le l1 l2 c om om;exact Mi om)):p:=h
theorem Gp {p:Prop}(h:p:=by(have h9:=@ja b kd le l1 l2 c;have q:=ke (most:=most) (d:=(ax b kd le l1 l2 c).2.2.1) (long:=(ax b kd le l1 l2 c).2.2.2.1) (s:=(ax b kd le l1 l2 c).1) (o:=o) (show(fl (fl (ax b kd le l1 l2 c).1 (decide (((ax b kd le l1 l2 c).2.2.1:Int)≤((o.length:Nat):Int))) 60) (decide (((o.length:Nat):Int)+max 1 (((ax b kd le l1 l2 c).2.2.2.1:Nat):Int)≤most)) 140).e=0 by omega);have h8:=gw (ax b kd le l1 l2 c).2.2.1 o j;have h7:=@pV b kd le l1 l2 c om om;omega)):p:=h
structure Kb where
 kd:Nat
 la:Bool
 le:Nat
 l1:List UInt8
 l2:List UInt8
def gX (d:Nat):Nat→List UInt8→List UInt8
 |0,o=>o
 |k+1,o=>gX d k o++[(gX d k o).getD ((gX d k o).length-d) mb]
def vu (lit d long:Nat)(o:List UInt8):List UInt8:=if long=0 then o++[Um lit]else gX d long o
abbrev nC (most:Int)(d long:Nat)(s:Rs)(o:List UInt8):Rs:=fl (fl s (decide ((d:Int)≤((o.length:Nat):Int))) 60) (decide (((o.length:Nat):Int)+max 1 ((long:Nat):Int)≤most)) 140
def QF (b:List UInt8)(s:Rs):Kb:=⟨(gv b s).kd,(gv b s).la,(gv b s).le,(gv b s).l1,(gv b s).l2⟩
abbrev dI (b:List UInt8)(K:Kb)(s:Rs):=ax b K.kd K.le K.l1 K.l2 s
def pU (b:List UInt8)(most:Int):Nat→Option Kb→Rs→List UInt8→Rs×List UInt8
 |0,_,s,o=>(s,o)
 |k+1,none,s,o=>pU b most k (some (QF b s)) (gv b s).s o
 |k+1,some K,s,o=>
  if(dI b K s).1.e≠0∨(dI b K s).2.2.2.2=true then(if(dI b K s).1.e≠0∨K.la=true then((dI b K s).1,o)else pU b most k none (dI b K s).1 o)
  else if(nC most (dI b K s).2.2.1 (dI b K s).2.2.2.1 (dI b K s).1 o).e≠0 then(nC most (dI b K s).2.2.1 (dI b K s).2.2.2.1 (dI b K s).1 o,o)
  else pU b most k (some {K with le:=K.le-1}) (nC most (dI b K s).2.2.1 (dI b K s).2.2.2.1 (dI b K s).1 o) (vu (dI b K s).2.1 (dI b K s).2.2.1 (dI b K s).2.2.2.1 o)
def cD (s z:Rs):Prop:=z.e=0→s.e=0∧s.p≤z.p
theorem cD.refl (s:Rs):cD s s:=fun h=>⟨h,TD _⟩
theorem cD.trans {s z y:Rs}(h:cD s z)(k:cD z y):cD s y:=fun q=>by
 have h1:=k q
 have h2:=h h1.1
 exact⟨h2.1,T6 h2.2 h1.2⟩
theorem cD.tk (b:List UInt8)(m:Nat)(s:Rs):cD s (bp b m s):=fun q=>by
 by_cases h:s.e=0
 ·rw[n6 h];exact⟨h,V4 _ _⟩
 ·rw[pQ h]at q;exact absurd q h
theorem cD.fl (s:Rs)(c:Bool){x:Nat}(hx:x≠0):cD s (fl s c x):=fun q=>by
 rw[vI];exact⟨(vJ hx q).1,TD _⟩
theorem cD.sy (b l:List UInt8)(s:Rs):cD s (aR b l s):=fun q=>by
 by_cases h:s.e=0
 ·rw[mO h]at q ⊢;exact⟨h,Nat.le_of_lt (vK q).1⟩
 ·rw[mN h]at q;exact absurd q h
theorem Ma {b l:List UInt8}{s:Rs}(q:(aR b l s).e=0):s.e=0∧s.p<(aR b l s).p:=by
 by_cases h:s.e=0
 ·rw[mO h]at q ⊢;exact⟨h,(vK q).1⟩
 ·rw[mN h]at q;exact absurd q h
theorem cD.fe (s:Rs)(x:Nat):cD s (Vp.fl s (((x:Nat):Int)==0) x):=fun q=>by
 rw[vI]
 refine⟨?_,TD _⟩
 by_cases h:s.e=0
 ·exact h
 ·rw[IP h]at q;exact absurd q h
theorem cD.nb (b:List UInt8)(far:Bool)(y:Nat)(s:Rs):cD s (gQ b far y s):=by
 by_cases h0:s.e=0
 ·by_cases h1:(vM b far y s).e=0
  ·rw[(kQ h0 h1).1];exact((cD.fe s _).trans (cD.tk b _ _)).trans (cD.fe _ _)
  ·rw[(n8 h0 h1).1];exact(cD.fe s _).trans (cD.tk b _ _)
 ·rw[(n7 h0).1];exact cD.refl s
theorem cD.st (b:List UInt8)(kd le:Nat)(l1 l2:List UInt8)(s:Rs):cD s (ax b kd le l1 l2 s).1:=by
 unfold ax;rw[aw]
 split
 ·split
  ·exact cD.tk b _ _
  ·exact cD.refl _
 ·split
  ·exact cD.sy b _ _
  ·split
   ·exact cD.sy b _ _
   ·split
    ·exact cD.sy b _ _
    ·exact((cD.sy b _ _).trans (cD.nb b _ _ _)).trans ((cD.sy b _ _).trans (cD.nb b _ _ _))
theorem Mb {b:List UInt8}{kd le:Nat}{l1 l2:List UInt8}{s:Rs}(h:(ax b kd le l1 l2 s).1.e=0)(h2:(ax b kd le l1 l2 s).2.2.2.2=false):s.e=0∧s.p<(ax b kd le l1 l2 s).1.p:=by
 unfold ax at *;rw[aw]at *
 split at h
 ·next q=>
  rw[if_pos q]at h2 ⊢
  split at h
  ·next q2=>
   rw[if_pos q2]at h2 ⊢
   have:=cD.tk b 8 s h
   refine⟨this.1,?_⟩
   show s.p<(bp b 8 s).p
   rw[n6 this.1];show s.p<s.p+8;omega
  ·next q2=>rw[if_neg q2]at h2;cases h2
 ·next q=>
  rw[if_neg q]at h2 ⊢
  split at h
  ·next q2=>exact absurd h q2
  ·next q2=>
   rw[if_neg q2]at h2 ⊢
   have q3:(aR b l1 s).e=0:=by omega
   have q4:=Ma q3
   split at h
   ·next q5=>rw[if_pos q5]at h2 ⊢;exact q4
   ·next q5=>
    rw[if_neg q5]at h2 ⊢
    split at h
    ·next q6=>rw[if_pos q6]at h2;cases h2
    ·next q6=>
     rw[if_neg q6]at h2 ⊢
     have:=((cD.nb b false (aH b l1 s) (aR b l1 s)).trans ((cD.sy b l2 _).trans (cD.nb b true _ _))) h
     exact⟨q4.1,Ug q4.2 this.2⟩
theorem cD.rw (b:List UInt8)(s:Rs):∀i,cD s (cK b s i)
 |0=>cD.refl s
 |i+1=>(cD.rw b s i).trans (cD.tk b 3 _)
theorem cD.lnF (b l:List UInt8)(N:Nat):∀(k:Nat) (c:Rs) (many:Nat) (r:List Rn),cD c (lnZF b l N k c many r).1
 |0,_,_,_=>cD.refl _
 |k+1,c,many,r=>by
  rw[Vp.lnZF];split
  ·exact cD.refl _
  ·exact(((cD.sy b l c).trans (cD.tk b _ _)).trans (cD.fl _ _ (by decide))).trans (cD.lnF b l N k _ _ _)
theorem cD.ln (b l:List UInt8)(N:Nat)(s:Rs):cD s (vQ b l N s):=by
 unfold vQ;rw[n9];exact(cD.lnF b l N N s 0 []).trans (cD.fl _ _ (by decide))
theorem cD.dy (b:List UInt8)(s:Rs):cD s (zt b s).1:=by
 unfold zt;dsimp only
 have h8:∀(W:List UInt8) (N:Nat) (c d e:Bool) (h:Nat),cD s (vQ b (fF W 7) N (Vp.fl (Vp.fl (cK b (Vp.fl (bp b 4 (bp b 5 (bp b 5 s))) c 132) h) d 132) e 132)):=fun W N c d e h=>
  ((((((cD.tk b 5 s).trans (cD.tk b 5 _)).trans (cD.tk b 4 _)).trans (cD.fl _ c (by decide))).trans (cD.rw b _ h)).trans (cD.fl _ d (by decide))).trans (cD.fl _ e (by decide))|>.trans (cD.ln b _ N _)
 split
 ·exact h8 _ _ _ _ _ _
 ·exact(((h8 _ _ _ _ _ _).trans (cD.fl _ _ (by decide))).trans (cD.fl _ _ (by decide))).trans ((cD.fl _ _ (by decide)).trans (cD.fl _ _ (by decide)))
theorem ba.dy {b:List UInt8}{s:Rs}(h:ba b.length s):ba b.length (zt b s).1:=by
 unfold zt;dsimp only
 have h8:∀(W:List UInt8) (N:Nat) (c d e:Bool) (i:Nat),ba b.length (vQ b (fF W 7) N (Vp.fl (Vp.fl (cK b (Vp.fl (bp b 4 (bp b 5 (bp b 5 s))) c 132) i) d 132) e 132)):=fun W N c d e i=>
  A3 rfl (((((((h.tk 5).tk 5).tk 4).fl c 132).rw i).fl d 132).fl e 132)
 split
 ·exact h8 _ _ _ _ _ _
 ·exact((((h8 _ _ _ _ _ _).fl _ _).fl _ _).fl _ _).fl _ _
theorem A8 (b:List UInt8)(s:Rs)(h:(gv b s).s.e=0):s.e=0∧s.p+3≤(gv b s).s.p:=by
 rw[jb]at *
 unfold DD at *
 dsimp only at *
 have h3:∀c:Bool,(fl (bp b 2 (bp b 1 s)) c 130).e=0→s.e=0∧(fl (bp b 2 (bp b 1 s)) c 130).p=s.p+3:=fun c q=>by
  have q1:=(vJ (by decide) q).1
  have q2:=(cD.tk b 2 _ q1).1
  have q3:=(cD.tk b 1 _ q2).1
  refine⟨q3,?_⟩
  rw[vI,n6 q2]
  show(bp b 1 s).p+2=_
  rw[n6 q3]
 have h4:=h3 (decide (((aV b 2 (bp b 1 s):Nat):Int)≤2))
 generalize fl (bp b 2 (bp b 1 s)) (decide (((aV b 2 (bp b 1 s):Nat):Int)≤2)) 130=s3 at *
 split at h
 ·next q=>exact absurd h q
 ·next q=>
  have q0:s3.e=0:=by omega
  have h5:=h4 q0
  rw[if_neg q]
  split at h
  ·next q2=>
   rw[if_pos q2]
   have h6:=((cD.tk b 16 ⟨(s3.p+7)/8*8,0⟩).trans ((cD.tk b 16 _).trans (cD.fl _ _ (by decide)))) h
   exact⟨h5.1,T6 (show s.p+3≤(s3.p+7)/8*8 by omega) h6.2⟩
  ·next q2=>
   rw[if_neg q2]
   split at h
   ·next q3=>rw[if_pos q3];exact⟨h5.1,by show s.p+3≤s3.p;omega⟩
   ·next q3=>
    rw[if_neg q3]
    have h6:=cD.dy b s3 h
    exact⟨h5.1,by show s.p+3≤(zt b s3).1.p;omega⟩
theorem xg {b:List UInt8}{s:Rs}(h:ba b.length s):ba b.length (gv b s).s:=by
 rw[jb]
 unfold DD
 dsimp only
 have h4:ba b.length (fl (bp b 2 (bp b 1 s)) (decide (((aV b 2 (bp b 1 s):Nat):Int)≤2)) 130):=((h.tk 1).tk 2).fl _ _
 generalize fl (bp b 2 (bp b 1 s)) (decide (((aV b 2 (bp b 1 s):Nat):Int)≤2)) 130=s3 at *
 split
 ·exact h4
 ·next q=>
  split
  ·have h5:ba b.length ⟨(s3.p+7)/8*8,0⟩:=fun _=>by
    have:=h4 (by omega)
    show(s3.p+7)/8*8≤_
    omega
   exact((h5.tk 16).tk 16).fl _ _
  ·split
   ·exact h4
   ·exact h4.dy
set_option maxRecDepth 100000 in
theorem A9 (b:List UInt8)(s:Rs):aC (gv b s).l1 15=0∧aC (gv b s).l2 15=0∧(gv b s).kd<4∧(gv b s).le<65536∧((gv b s).s.e=0→(gv b s).kd≤2):=by
 rw[jb]
 unfold DD
 dsimp only
 have hk:aV b 2 (bp b 1 s)<4:=bH b 2 _
 have h4:(fl (bp b 2 (bp b 1 s)) (decide (((aV b 2 (bp b 1 s):Nat):Int)≤2)) 130).e=0→aV b 2 (bp b 1 s)≤2:=fun q=>by
  have:=(vJ (by decide) q).2.1
  simp at this;omega
 generalize fl (bp b 2 (bp b 1 s)) (decide (((aV b 2 (bp b 1 s):Nat):Int)≤2)) 130=s3 at *
 split
 ·next q=>exact⟨rfl,rfl,hk,by show 0<65536;decide,fun z=>absurd z q⟩
 ·next q=>
  have q0:s3.e=0:=by omega
  split
  ·exact⟨rfl,rfl,hk,bH b 16 _,fun _=>h4 q0⟩
  ·split
   ·exact⟨oc,pS,hk,by show 0<65536;decide,fun _=>h4 q0⟩
   ·refine⟨?_,?_,hk,by show 0<65536;decide,fun _=>h4 q0⟩
    ·unfold zt;dsimp only;split
     ·rfl
     ·exact ri (m:=15) _ (TD 15)
    ·unfold zt;dsimp only;split
     ·rfl
     ·exact ri (m:=15) _ (TD 15)
set_option maxRecDepth 20000 in
theorem Ei {s x:Nat}(h:vw aA 0 s x=0):1≤An aA 0 s x:=by
 rw[Ki h]
 have this:∀y∈aA,1≤y.least:=fun y hy=>of_decide_eq_true (List.all_eq_true.1 (show aA.all (fun y=>decide (1≤y.least))=true by decide) y hy)
 have h2:(0:Int)≤s∧(s:Int)<0+aA.length:=by
  rcases Xe ((0:Int)≤s∧(s:Int)<0+aA.length)with q|q
  ·exact q
  ·rw[Kj q]at h;cases h
 have h3:((s:Int)-0).toNat<aA.length:=by omega
 have:=this (aA.getD ((s:Int)-0).toNat mb) (by rw[To,Ts h3];exact Uo h3)
 omega
theorem pV {b:List UInt8}{kd le:Nat}{l1 l2:List UInt8}{s:Rs}(h:(ax b kd le l1 l2 s).1.e=0)(h2:(ax b kd le l1 l2 s).2.2.2.1≠0):1≤(ax b kd le l1 l2 s).2.2.1:=by
 unfold ax at *;rw[aw]at *
 split at h
 ·next q=>
  rw[if_pos q]at h2
  split at h2<;>exact absurd rfl h2
 ·next q=>
  rw[if_neg q]at h2 ⊢
  split at h
  ·next q2=>exact absurd h q2
  ·next q2=>
   rw[if_neg q2]at h2 ⊢
   split at h
   ·next q5=>rw[if_pos q5]at h2;exact absurd rfl h2
   ·next q5=>
    rw[if_neg q5]at h2 ⊢
    split at h
    ·next q6=>rw[if_pos q6]at h2;exact absurd rfl h2
    ·next q6=>
     rw[if_neg q6]at h2 ⊢
     generalize aH b l2 (Al b l1 s)=y at *
     generalize aR b l2 (Al b l1 s)=z at *
     show 1≤tN b true y z
     have h:(gQ b true y z).e=0:=h
     by_cases h0:z.e=0
     ·by_cases h1:(vM b true y z).e=0
      ·rw[(kQ h0 h1).1]at h
       rw[(kQ h0 h1).2]
       refine Ei ?_
       by_cases hz:pB true y (xa b true y z)=0
       ·exact hz
       ·rw[show(((pB true y (xa b true y z):Nat):Int)==0)=false from by simp;exact hz,IQ h1]at h
        exact absurd h hz
      ·rw[(n8 h0 h1).1]at h;exact absurd h h1
     ·rw[(n7 h0).1]at h;exact absurd h h0
theorem QG {b:List UInt8}{s:Rs}(h:s.e≠0):(gv b s).s=s:=by
 rw[jb]
 unfold DD
 dsimp only
 have e:∀c:Bool,fl (bp b 2 (bp b 1 s)) c 130=s:=fun c=>by rw[pQ h,pQ h,IP h]
 rw[e,if_pos h]
theorem QH {b:List UInt8}{kd le:Nat}{l1 l2:List UInt8}{s:Rs}(h:s.e≠0):(ax b kd le l1 l2 s).1=s:=by
 unfold ax;rw[aw,mN h]
 split
 ·split
  ·exact pQ h
  ·rfl
 ·first|rfl|rw[if_pos h]
theorem ij {b:List UInt8}{most:Int}:∀(k:Nat) (m:Option Kb) (s:Rs) (o:List UInt8),s.e≠0→pU b most k m s o=(s,o)
 |0,_,_,_,_=>rfl
 |k+1,none,s,o,h=>by rw[pU,QG h];exact ij k _ s o h
 |k+1,some K,s,o,h=>by
  have e:(dI b K s).1=s:=QH h
  rw[pU,e,if_pos (.inl h),if_pos (.inl h)]
def mu (b:List UInt8)(m:Option Kb)(s:Rs):Nat:=if s.e≠0 then 0 else 2*(8*b.length+1-s.p)+(match m with|none=>0|some _=>1)
theorem jK {b:List UInt8}{s:Rs}(h:s.e=0):mu b none s=2*(8*b.length+1-s.p):=if_neg (by omega)
theorem ik {b:List UInt8}{s:Rs}{K:Kb}(h:s.e=0):mu b (some K) s=2*(8*b.length+1-s.p)+1:=if_neg (by omega)
theorem QI {b:List UInt8}{s:Rs}{m:Option Kb}(h:s.e≠0):mu b m s=0:=if_pos h
theorem xh (most:Int)(d long:Nat)(s:Rs)(o:List UInt8):(nC most d long s o).p=s.p:=by unfold nC;rw[vI,vI]
theorem ke {most:Int}{d long:Nat}{s:Rs}{o:List UInt8}(h:(nC most d long s o).e=0):s.e=0∧d≤o.length∧((o.length:Nat):Int)+max 1 ((long:Nat):Int)≤most∧nC most d long s o=s:=by
 unfold nC at *
 have h1:=vJ (by decide) h
 have h2:=vJ (by decide) h1.1
 have h3:=of_decide_eq_true h1.2.1
 have h4:=of_decide_eq_true h2.2.1
 exact⟨h2.1,by omega,h3,h1.2.2.trans h2.2.2⟩
theorem ba.tc {n:Nat}{most:Int}{d long:Nat}{s:Rs}{o:List UInt8}(h:ba n s):ba n (nC most d long s o):=(h.fl _ _).fl _ _
theorem Gq {b:List UInt8}{s:Rs}(hs:ba b.length s)(h:s.e=0):mu b (some (QF b s)) (gv b s).s<mu b none s:=by
 have:=hs h
 rw[jK h]
 by_cases q:(gv b s).s.e=0
 ·have:=A8 b s q
  have:=xg hs q
  rw[ik q];omega
 ·rw[QI q];omega
theorem Ba {b:List UInt8}{K:Kb}{s:Rs}(hs:ba b.length s)(h:(dI b K s).1.e=0):mu b none (dI b K s).1<mu b (some K) s:=by
 have h1:s.e=0∧s.p≤(dI b K s).1.p:=cD.st b K.kd K.le K.l1 K.l2 s h
 have:=hs h1.1
 rw[jK h,ik h1.1];omega
theorem Bb {b:List UInt8}{K K2:Kb}{s z:Rs}(hs:ba b.length s)(hz:ba b.length z)(h:(dI b K s).1.e=0)(h2:(dI b K s).2.2.2.2=false)(hp:z.p=(dI b K s).1.p)(he:z.e=0):mu b (some K2) z<mu b (some K) s:=by
 have h1:s.e=0∧s.p<(dI b K s).1.p:=Mb h h2
 have:=hs h1.1
 have:=hz he
 rw[ik he,ik h1.1];omega
theorem jL {b:List UInt8}{most:Int}:∀(k m:Nat) (md:Option Kb) (s:Rs) (o:List UInt8),ba b.length s→mu b md s≤k→mu b md s≤m→pU b most k md s o=pU b most m md s o
 |0,m,md,s,o,_,h,_=>by
  by_cases he:s.e=0
  ·have:0<mu b md s:=by
    cases md with
    |none=>rw[jK he];have:=‹ba b.length s› he;omega
    |some K=>rw[ik he];omega
   omega
  ·rw[ij _ _ _ _ he,ij _ _ _ _ he]
 |k+1,0,md,s,o,_,_,h=>by
  by_cases he:s.e=0
  ·have:0<mu b md s:=by
    cases md with
    |none=>rw[jK he];have:=‹ba b.length s› he;omega
    |some K=>rw[ik he];omega
   omega
  ·rw[ij _ _ _ _ he,ij _ _ _ _ he]
 |k+1,m+1,none,s,o,hs,h1,h2=>by
  by_cases he:s.e=0
  ·have:=Gq hs he
   rw[pU,pU]
   exact jL k m _ _ _ (xg hs) (by omega) (by omega)
  ·rw[ij _ _ _ _ he,ij _ _ _ _ he]
 |k+1,m+1,some K,s,o,hs,h1,h2=>by
  have hr:ba b.length (dI b K s).1:=ba.st hs
  rw[pU,pU]
  split
  ·split
   ·rfl
   ·next q=>
    have q1:(dI b K s).1.e=0:=by
     rcases Xe ((dI b K s).1.e=0)with y|y
     ·exact y
     ·exact absurd (.inl y) q
    have:=Ba hs q1
    exact jL k m _ _ _ hr (by omega) (by omega)
  ·next q=>
   split
   ·rfl
   ·next q2=>
    have q1:(dI b K s).1.e=0:=by
     rcases Xe ((dI b K s).1.e=0)with y|y
     ·exact y
     ·exact absurd (.inl y) q
    have q3:(dI b K s).2.2.2.2=false:=by
     cases y:(dI b K s).2.2.2.2
     ·rfl
     ·exact absurd (.inr y) q
    have:=Bb (K2:={K with le:=K.le-1}) hs hr.tc q1 q3 (xh most (dI b K s).2.2.1 (dI b K s).2.2.2.1 (dI b K s).1 o) (by omega)
    exact jL k m _ _ _ hr.tc (by omega) (by omega)
def dF (b:List UInt8)(most:Int)(m:Option Kb)(s:Rs)(o:List UInt8):Rs×List UInt8:=lk b (pU b most (mu b m s) m s o)
theorem rq {b:List UInt8}{most:Int}{m:Option Kb}{s:Rs}{o:List UInt8}:dF b most m s o=pU b most (mu b m s) m s o:=aw _ _
section
variable {b:List UInt8} {most:Int} {K:Kb} {s:Rs} {o:List UInt8} {R:Rs×List UInt8}
theorem Mc (hs:ba b.length s)(h:s.e=0)(hR:dF b most none s o=R):dF b most (some (QF b s)) (gv b s).s o=R:=by
 rw[rq]at *
 have:=Gq hs h
 rw[←hR,show mu b none s=(mu b none s-1)+1 from by omega,pU]
 exact jL _ _ _ _ _ (xg hs) (TD _) (by omega)
theorem I9 (K:Kb)(h:s.e=0):0<mu b (some K) s:=by rw[ik h];omega
theorem xi (hR:dF b most (some K) s o=R)(h:s.e=0∨(dI b K s).1.e≠0):R=pU b most (mu b (some K) s-1+1) (some K) s o:=by
 rw[rq]at hR
 rw[←hR]
 by_cases q:s.e=0
 ·have:=I9 (b:=b) K q
  rw[show mu b (some K) s-1+1=mu b (some K) s from by omega]
 ·rw[ij _ _ _ _ q,ij _ _ _ _ q]
theorem Ja (hs:ba b.length s)(hR:dF b most (some K) s o=R)(h:(dI b K s).1.e≠0∨K.la=true)(h2:(dI b K s).1.e≠0∨(dI b K s).2.2.2.2=true):R=((dI b K s).1,o):=by
 rcases Xe (s.e=0∨(dI b K s).1.e≠0)with q|q
 ·rw[xi hR q,pU,if_pos h2,if_pos h]
 ·exfalso
  have q1:(dI b K s).1.e=0:=by
   rcases Xe ((dI b K s).1.e=0)with y|y
   ·exact y
   ·exact absurd (.inr y) q
  exact q (.inl (cD.st b K.kd K.le K.l1 K.l2 s q1).1)
theorem Jb (hs:ba b.length s)(hR:dF b most (some K) s o=R)(h:(dI b K s).1.e=0)(h1:K.la=false)(h2:(dI b K s).2.2.2.2=true):dF b most none (dI b K s).1 o=R:=by
 have h3:=(cD.st b K.kd K.le K.l1 K.l2 s h).1
 have h4:=Ba hs h
 rw[xi hR (.inl h3),pU,if_pos (.inr h2),if_neg (fun q=>q.elim (fun y=>y h) (fun y=>by rw[h1]at y;cases y)),rq]
 exact jL _ _ _ _ _ (ba.st hs) (TD _) (Nat.le_sub_one_of_lt h4)
theorem Jc (hR:dF b most (some K) s o=R)(h:(dI b K s).1.e=0)(h2:(dI b K s).2.2.2.2=false)(h3:(nC most (dI b K s).2.2.1 (dI b K s).2.2.2.1 (dI b K s).1 o).e≠0):R=(nC most (dI b K s).2.2.1 (dI b K s).2.2.2.1 (dI b K s).1 o,o):=by
 have h4:=(cD.st b K.kd K.le K.l1 K.l2 s h).1
 rw[xi hR (.inl h4),pU,if_neg (fun q=>q.elim (fun y=>y h) (fun y=>by rw[h2]at y;cases y)),if_pos h3]
theorem Md (hs:ba b.length s)(hR:dF b most (some K) s o=R)(h:(dI b K s).1.e=0)(h2:(dI b K s).2.2.2.2=false)(h3:(nC most (dI b K s).2.2.1 (dI b K s).2.2.2.1 (dI b K s).1 o).e=0):dF b most (some {K with le:=K.le-1}) (nC most (dI b K s).2.2.1 (dI b K s).2.2.2.1 (dI b K s).1 o) (vu (dI b K s).2.1 (dI b K s).2.2.1 (dI b K s).2.2.2.1 o)=R:=by
 have h4:=(cD.st b K.kd K.le K.l1 K.l2 s h).1
 have hr:ba b.length (dI b K s).1:=ba.st hs
 have h5:=Bb (K2:={K with le:=K.le-1}) hs hr.tc h h2 (xh most (dI b K s).2.2.1 (dI b K s).2.2.2.1 (dI b K s).1 o) h3
 rw[xi hR (.inl h4),pU,if_neg (fun q=>q.elim (fun y=>y h) (fun y=>by rw[h2]at y;cases y)),if_neg (by omega),rq]
 exact jL _ _ _ _ _ hr.tc (TD _) (by omega)
end
section
variable {b:List UInt8} {n:Nat} {most:Int} {kd le:Nat} {la:Bool} {l1 l2:List UInt8} {s:Rs} {o:List UInt8} {R:Rs×List UInt8}
theorem Ej (hn:n=b.length)(hs:ba n s)(hR:dF b most (some ⟨kd,la,le,l1,l2⟩) s o=R)(h2:(ax b kd le l1 l2 s).1.e≠0∨(ax b kd le l1 l2 s).2.2.2.2=true)(h:(ax b kd le l1 l2 s).1.e≠0∨la=true):R=((ax b kd le l1 l2 s).1,o):=by
 subst hn;exact Ja (K:=⟨kd,la,le,l1,l2⟩) hs hR h h2
theorem Ek (hn:n=b.length)(hs:ba n s)(hR:dF b most (some ⟨kd,la,le,l1,l2⟩) s o=R)(h:(ax b kd le l1 l2 s).1.e=0)(h1:la=false)(h2:(ax b kd le l1 l2 s).2.2.2.2=true):dF b most none (ax b kd le l1 l2 s).1 o=R:=by
 subst hn;exact Jb (K:=⟨kd,la,le,l1,l2⟩) hs hR h h1 h2
theorem El (hR:dF b most (some ⟨kd,la,le,l1,l2⟩) s o=R)(h:(ax b kd le l1 l2 s).1.e=0)(h2:(ax b kd le l1 l2 s).2.2.2.2=false)(h3:(nC most (ax b kd le l1 l2 s).2.2.1 (ax b kd le l1 l2 s).2.2.2.1 (ax b kd le l1 l2 s).1 o).e≠0):R=(nC most (ax b kd le l1 l2 s).2.2.1 (ax b kd le l1 l2 s).2.2.2.1 (ax b kd le l1 l2 s).1 o,o):=Jc (K:=⟨kd,la,le,l1,l2⟩) hR h h2 h3
theorem Jd (hn:n=b.length)(hs:ba n s)(hR:dF b most (some ⟨kd,la,le,l1,l2⟩) s o=R)(h:(ax b kd le l1 l2 s).1.e=0)(h2:(ax b kd le l1 l2 s).2.2.2.2=false)(h3:(nC most (ax b kd le l1 l2 s).2.2.1 (ax b kd le l1 l2 s).2.2.2.1 (ax b kd le l1 l2 s).1 o).e=0):dF b most (some ⟨kd,la,le-1,l1,l2⟩) (nC most (ax b kd le l1 l2 s).2.2.1 (ax b kd le l1 l2 s).2.2.2.1 (ax b kd le l1 l2 s).1 o) (vu (ax b kd le l1 l2 s).2.1 (ax b kd le l1 l2 s).2.2.1 (ax b kd le l1 l2 s).2.2.2.1 o)=R:=by
 subst hn;exact Md (K:=⟨kd,la,le,l1,l2⟩) hs hR h h2 h3
theorem Je (hn:n=b.length)(hs:ba n s)(h:(ax b kd le l1 l2 s).1.e=0)(h2:(ax b kd le l1 l2 s).2.2.2.2=false)(h3:(nC most (ax b kd le l1 l2 s).2.2.1 (ax b kd le l1 l2 s).2.2.2.1 (ax b kd le l1 l2 s).1 o).e=0):mu b (some ⟨kd,la,le-1,l1,l2⟩) (nC most (ax b kd le l1 l2 s).2.2.1 (ax b kd le l1 l2 s).2.2.2.1 (ax b kd le l1 l2 s).1 o)<mu b (some ⟨kd,la,le,l1,l2⟩) s:=by
 subst hn;exact Bb (K:=⟨kd,la,le,l1,l2⟩) hs (ba.tc (ba.st hs)) h h2 (xh _ _ _ _ _) h3
theorem Me {a c:Rs}(hn:n=b.length)(hc:ba n c)(h0:a.e=0)(h1:c.e=0)(hp:a.p+3≤c.p):mu b none c<mu b none a:=by
 have:=hc h1
 rw[jK h0,jK h1];omega
theorem Mf {a:Rs}(hp:s.e=0→a.p+3≤s.p)(q:(nC most (ax b kd le l1 l2 s).2.2.1 (ax b kd le l1 l2 s).2.2.2.1 (ax b kd le l1 l2 s).1 o).e=0):a.p+3≤(nC most (ax b kd le l1 l2 s).2.2.1 (ax b kd le l1 l2 s).2.2.2.1 (ax b kd le l1 l2 s).1 o).p:=by
 have h:=ke q
 have h7:=cD.st b kd le l1 l2 s h.1
 rw[xh];exact T6 (hp h7.1) h7.2
end
theorem gw (d:Nat)(o:List UInt8):∀k,(gX d k o).length=o.length+k
 |0=>rfl
 |k+1=>by rw[gX,Tt,gw d o k];rfl
theorem Gr {lit d long:Nat}{o:List UInt8}(h:long≠0):vu lit d long o=gX d long o:=if_neg h
theorem Mg {lit d long:Nat}{o:List UInt8}{t:TypeId}{r:Bool}(h:long=0)(hl:lit<256):(⟨VO dB o++[D.v (.int .u8 ((lit:Nat):Int))],t,r⟩:Blk)=⟨VO dB (vu lit d long o),t,r⟩:=by
 unfold vu
 rw[if_pos h,Uq]
 congr 2
 show _=[dB _]
 unfold dB;rw[U6,UZ (by omega)]
theorem Mh {lit d long k g:Nat}{o:List UInt8}{t:TypeId}{r:Bool}(h:long=0):(⟨[Tu k g 0 (o.length+1) 1],t,r⟩:Blk)=⟨[Tu k g 0 (vu lit d long o).length 1],t,r⟩:=by
 unfold vu;rw[if_pos h,Tt];rfl
theorem Mi {d x:Nat}{o:List UInt8}{t:TypeId}{r:Bool}(h:x=o.length-d):(⟨VO dB o++[dB (o.getD x mb)],t,r⟩:Blk)=⟨VO dB (gX d 1 o),t,r⟩:=by
 rw[gX,Uq,h];rfl
theorem Mj {d k g:Nat}{o:List UInt8}{t:TypeId}{r:Bool}:(⟨[Tu k g 0 (o.length+1) 1],t,r⟩:Blk)=⟨[Tu k g 0 (gX d 1 o).length 1],t,r⟩:=by rw[gw]
theorem QJ {d j k g:Nat}{o:List UInt8}{t:TypeId}{r:Bool}:(⟨[Tu k g 0 ((gX d j o).length+1) 1],t,r⟩:Blk)=⟨[Tu k g 0 (gX d (j+1) o).length 1],t,r⟩:=by rw[gw,gw];rfl
theorem Em (lit d long:Nat)(o:List UInt8):(vu lit d long o).length=o.length+max 1 long:=by
 unfold vu;split
 ·rw[Tt];simp;omega
 ·rw[gw];omega
theorem Jf (b:List UInt8)(n:Nat)(hn:n=b.length)(hN:n≤1000000)(s:Rs)(hs:ba n s)(kd le:Nat)(la:Bool)(hkd:kd≤3)(hle:le≤1000000)(l1 l2:List UInt8)(hT1:aC l1 15=0)(hT2:aC l2 15=0):S1 37 [.ptr 0 0 0,.agg ([dG kd,bD la,nD le]++(cZ (aa l1)++[.ref 1 1 0 (ab l1).length 1])++(cZ (aa l2)++[.ref 2 2 0 (ab l2).length 1]))] [⟨[.sl false n 1 (b.map dB),nD (s).p,nD (s).e], 88,false⟩,⟨(ab l1).map nD, 3,true⟩,⟨(ab l2).map nD, 3,true⟩] (kp (ax b kd le l1 l2 s)) [⟨[.sl false n 1 (b.map dB),nD ((ax b kd le l1 l2 s).1).p,nD ((ax b kd le l1 l2 s).1).e], 88,false⟩,⟨(ab l1).map nD, 3,true⟩,⟨(ab l2).map nD, 3,true⟩]:=by
 have ho:s.e=0→s.p≤8*n:=hs
 have hr1:ba n (aR b l1 s):=by subst hn;exact hs.sy _
 have hr2:ba n (gQ b false (aH b l1 s) (aR b l1 s)):=by subst hn;exact(hs.sy _).nb _ _
 have hr3:ba n (aR b l2 (gQ b false (aH b l1 s) (aR b l1 s))):=by subst hn;exact((hs.sy _).nb _ _).sy _
 refine SpecH.run T_ok ai Try.func37 rfl rfl rfl ⟨rfl,fa _,fa _,trivial⟩ rfl 1000 64 (fun R ok=>(.s 13 (.br ((kd:Int)==0) (fun p0=>have p0f:=eq_of_beq p0;(.s 8 (.bd (0<(le:Int)) (fun p1 p1f=>(.s 2 (.cl 53 true [0] (.fn mh (@eD (b) (n) om om (s) om (8) om)) (.s 1 (.opt (ar .u8 (↑(aV b 8 s):Int)) (aQ (aV b 8 s)) (bB I6) (.s 26 (.out [0,1,2] [0,1,2] (Uw [UA [aQ (aV b 8 s),zI 0,zI 0],D.v (.bool ((le:Int)==0))]) [Tq [TL false n 1 (map dB b),zN (Rs.p (bp b 8 s)),zN (Rs.e (bp b 8 s))] 88 false,Tq (map nD (ab l1)) 3 true,Tq (map nD (ab l2)) 3 true] R (ok _ _ (by(rw[AT om om,show(((le:Nat):Int)==0)=false from by simp;omega];rfl)) (by(have q:=@AT b kd le l1 l2 s om om;rw[q];first|done|rfl|(unfold kp;refine fG ?_;omega))))))))))) (fun p1 p1f=>(.s 20 (.out [0,1,2] [0,1,2] (Uw [UA [bI 0,zI 0,zI 0],D.v (.bool ((le:Int)==0))]) [Tq [TL false n 1 (map dB b),zN (Rs.p s),zN (Rs.e s)] 88 false,Tq (map nD (ab l1)) 3 true,Tq (map nD (ab l2)) 3 true] R (ok _ _ (by(rw[AU om om,show(((le:Nat):Int)==0)=true from by simp;omega];rfl)) (by(have q:=@AU b kd le l1 l2 s om om;rw[q];first|done|rfl|(unfold kp;refine fG ?_;omega)))))))))) (fun p0=>have p0f:=am p0;(.s 9 (.call 59 true [0,1] (true) wr ([TF 0 0 0,UA [zN (aa l1 0),zN (aa l1 1),zN (aa l1 2),zN (aa l1 3),zN (aa l1 4),zN (aa l1 5),zN (aa l1 6),zN (aa l1 7),zN (aa l1 8),zN (aa l1 9),zN (aa l1 10),zN (aa l1 11),zN (aa l1 12),zN (aa l1 13),zN (aa l1 14),zN (aa l1 15),Tu 1 1 0 (length (ab l1)) 1]]) _ (by exact(qr (qr trivial))) (true&&(af (map nD (ab l1))&&true)) (by(simp;done)) _ _ _ (TW (az.of Try.func59 rfl rfl) (@AY (b) (n) om om (s) om (l1) om)) (.s 12 (.br ((↑(Rs.e (aR b l1 s)):Int) !=0) (fun p2=>have p2f:=bE p2;(.s 12 (.out [0,1,2] [0,1,2] (Uw [UA [bI 0,zI 0,zI 0],D.v (.bool false)]) [Tq [TL false n 1 (map dB b),zN (Rs.p (aR b l1 s)),zN (Rs.e (aR b l1 s))] 88 false,Tq (map nD (ab l1)) 3 true,Tq (map nD (ab l2)) 3 true] R (ok _ _ L4 L4)))) (fun p2=>have p2f:=bF p2;(.s 4 (.bd ((↑(aH b l1 s):Int)<256) (fun p3 p3f=>(.s 2 (.opt (ar .u8 (↑(aH b l1 s):Int)) (aQ (aH b l1 s)) (bB om) (.s 18 (.out [0,1,2] [0,1,2] (Uw [UA [aQ (aH b l1 s),zI 0,zI 0],D.v (.bool false)]) [Tq [TL false n 1 (map dB b),zN (Rs.p (aR b l1 s)),zN (Rs.e (aR b l1 s))] 88 false,Tq (map nD (ab l1)) 3 true,Tq (map nD (ab l2)) 3 true] R (ok _ _ L5 L5)))))) (fun p3 p3f=>(.s 4 (.br ((↑(aH b l1 s):Int)==256) (fun p4=>have p4f:=eq_of_beq p4;(.s 13 (.out [0,1,2] [0,1,2] (Uw [UA [bI 0,zI 0,zI 0],D.v (.bool true)]) [Tq [TL false n 1 (map dB b),zN (Rs.p (aR b l1 s)),zN (Rs.e (aR b l1 s))] 88 false,Tq (map nD (ab l1)) 3 true,Tq (map nD (ab l2)) 3 true] R (ok _ _ L6 L6)))) (fun p4=>have p4f:=am p4;(.s 3 (.cl 60 true [0] (.fn Qf (@tO (b) (n) om om (aR b l1 s) om (aH b l1 s) I6)) (.s 16 (.call 59 true [0,2] (true) wr ([TF 0 0 0,UA [zN (aa l2 0),zN (aa l2 1),zN (aa l2 2),zN (aa l2 3),zN (aa l2 4),zN (aa l2 5),zN (aa l2 6),zN (aa l2 7),zN (aa l2 8),zN (aa l2 9),zN (aa l2 10),zN (aa l2 11),zN (aa l2 12),zN (aa l2 13),zN (aa l2 14),zN (aa l2 15),Tu 1 1 0 (length (ab l2)) 1]]) _ (by exact(qr (qr trivial))) (true&&(af (map nD (ab l2))&&true)) (by(simp;done)) _ _ _ (TW (az.of Try.func59 rfl rfl) (@AY (b) (n) om om (gQ b false (aH b l1 s) (aR b l1 s)) om (l2) om)) (.s 1 (.cl 60 true [0] (.fn Qf (@xb (b) (n) om om (aR b l2 (gQ b false (aH b l1 s) (aR b l1 s))) om (aH b l2 (gQ b false (aH b l1 s) (aR b l1 s))) I6)) (.s 18 (.out [0,1,2] [0,1,2] (Uw [UA [bI 0,zN (tN b true (aH b l2 (gQ b false (aH b l1 s) (aR b l1 s))) (aR b l2 (gQ b false (aH b l1 s) (aR b l1 s)))),zN (tN b false (aH b l1 s) (aR b l1 s))],D.v (.bool false)]) [Tq [TL false n 1 (map dB b),zN (Rs.p (gQ b true (aH b l2 (gQ b false (aH b l1 s) (aR b l1 s))) (aR b l2 (gQ b false (aH b l1 s) (aR b l1 s))))),zN (Rs.e (gQ b true (aH b l2 (gQ b false (aH b l1 s) (aR b l1 s))) (aR b l2 (gQ b false (aH b l1 s) (aR b l1 s)))))] 88 false,Tq (map nD (ab l1)) 3 true,Tq (map nD (ab l2)) 3 true] R (ok _ _ L7 L7)))))))))))))))))))))))) kr
theorem Jg (b:List UInt8)(n:Nat)(hn:n=b.length)(hN:n≤1000000)(s:Rs)(hs:ba n s)(he:s.e=0)(most:Int)(hm:0≤most∧most≤1000000):S1 70 [.ptr 0 0 0,iD most] [⟨[.sl false n 1 (b.map dB),nD (s).p,nD (s).e], 88,false⟩] (.ref 1 1 0 ((dF b most none s [])).2.length 1) [⟨[.sl false n 1 (b.map dB),nD ((dF b most none s []).1).p,nD ((dF b most none s []).1).e], 88,false⟩,⟨((dF b most none s []).2).map dB, 5,true⟩]:=by
 refine SpecH.run T_ok ai Try.func70 rfl rfl rfl ⟨rfl,du _,trivial⟩ rfl 1000 64 (fun R ok=>(.s 16 (.nilc 17 17 (Tq [zS] 24 false) 0 97 1 5 (Hn.inl T_ok ai false 40 97 (ap Try.prog 116 0) (fun(x:(a:Rs)×'(ha:ba n a)×'(h0:a.e=0)×'(o:List UInt8)×'(ho:(o.length:Int)≤most)×'(hR:dF b most none a o=(dF b most none s []))×'Unit)=>match x with|⟨a,ha,h0,o,ho,hR,_⟩=>TJ [(0,D.yl 89 89),(1,TF 41 41 0)] [⟨0,0,0,0,.b ⟨[.sl false n 1 (b.map dB),nD (a).p,nD (a).e],88,false⟩⟩,⟨1,1,1,1,.b ⟨[TF 0 0 0],83,false⟩⟩,⟨9,9,9,9,.b ⟨[zI most],3,false⟩⟩,⟨17,17,17,17,.b ⟨[(Tu 152 152 0 ((o).length) 1)],24,false⟩⟩,⟨41,41,41,41,.b ⟨[TF 0 0 0],83,false⟩⟩,⟨89,89,89,89,.l Vr none (rangeAt Try.prog 70 0).1 (rangeAt Try.prog 70 0).2.1 (rangeAt Try.prog 70 0).2.2 58 [(0,TF 0 0 0),(1,zI most),(3,TF 9 9 0),(7,TF 0 0 0),(2,TF 1 1 0),(4,TF 17 17 0),(8,U9 (Ui 116) [] [TF 41 41 0])]⟩,⟨152,152,97,97,.b ⟨(o).map dB,5,true⟩⟩] 160) (fun(x:(a:Rs)×'(ha:ba n a)×'(h0:a.e=0)×'(o:List UInt8)×'(ho:(o.length:Int)≤most)×'(hR:dF b most none a o=(dF b most none s []))×'Unit)=>match x with|⟨a,ha,h0,o,ho,hR,_⟩=>mu b none a) [⟨Unit,.ret,fun x=>match x with|()=>TJ [] [⟨0,0,0,0,.b ⟨[.sl false n 1 (b.map dB),nD ((dF b most none s []).1).p,nD ((dF b most none s []).1).e],88,false⟩⟩,⟨1,1,1,1,.b ⟨[TF 0 0 0],83,false⟩⟩,⟨9,9,9,9,.b ⟨[zI most],3,false⟩⟩,⟨17,17,17,17,.b ⟨[(Tu 152 152 0 (((dF b most none s []).2).length) 1)],24,false⟩⟩,⟨41,41,41,41,.b ⟨[TF 0 0 0],83,false⟩⟩,⟨89,89,89,89,.l Vr none (rangeAt Try.prog 70 0).1 (rangeAt Try.prog 70 0).2.1 (rangeAt Try.prog 70 0).2.2 58 [(0,TF 0 0 0),(1,zI most),(3,TF 9 9 0),(7,TF 0 0 0),(2,TF 1 1 0),(4,TF 17 17 0),(8,U9 (Ui 116) [] [TF 41 41 0])]⟩,⟨152,152,97,97,.b ⟨((dF b most none s []).2).map dB,5,true⟩⟩] 160⟩,⟨Unit,.ret,fun x=>match x with|()=>TJ [] [⟨0,0,0,0,.b ⟨[.sl false n 1 (b.map dB),nD ((dF b most none s []).1).p,nD ((dF b most none s []).1).e],88,false⟩⟩,⟨1,1,1,1,.b ⟨[TF 0 0 0],83,false⟩⟩,⟨9,9,9,9,.b ⟨[zI most],3,false⟩⟩,⟨17,17,17,17,.b ⟨[(Tu 152 152 0 (((dF b most none s []).2).length) 1)],24,false⟩⟩,⟨41,41,41,41,.b ⟨[TF 0 0 0],83,false⟩⟩,⟨89,89,89,89,.l LoopState.done (some Code.ret) (rangeAt Try.prog 70 0).1 (rangeAt Try.prog 70 0).2.1 (rangeAt Try.prog 70 0).2.2 58 [(0,TF 0 0 0),(1,zI most),(3,TF 9 9 0),(7,TF 0 0 0),(2,TF 1 1 0),(4,TF 17 17 0),(8,U9 (Ui 116) [] [TF 41 41 0])]⟩,⟨152,152,97,97,.b ⟨((dF b most none s []).2).map dB,5,true⟩⟩] 160⟩] 1000 64 (fun|⟨a,ha,h0,o,ho,hR,_⟩,Q,next1,last1=>(.s 4 (.cl 34 true [0] (.fn SO (@A7 (b) (n) om om (a) om)) (.s 5 (Hn.inl T_ok ai false 40 97 (ap Try.prog 116 1) (fun(x:(kd:Nat)×'(la:Bool)×'(le:Nat)×'(l1:List UInt8)×'(l2:List UInt8)×'(c:Rs)×'(o:List UInt8)×'(hkd:kd<4)×'(hk2:c.e=0→kd≤2)×'(hle:le<65536)×'(hT1:aC l1 15=0)×'(hT2:aC l2 15=0)×'(hc:ba n c)×'(hp:c.e=0→a.p+3≤c.p)×'(ho2:(o.length:Int)≤most)×'(hR:dF b most (some ⟨kd,la,le,l1,l2⟩) c o=(dF b most none s []))×'Unit)=>match x with|⟨kd,la,le,l1,l2,c,o,hkd,hk2,hle,hT1,hT2,hc,hp,ho2,hR,_⟩=>TJ [(0,D.yl 89 89),(1,TF 41 41 0),(3,TF 176 176 0)] [⟨0,0,0,0,.b ⟨[.sl false n 1 (b.map dB),nD (c).p,nD (c).e],88,false⟩⟩,⟨1,1,1,1,.b ⟨[TF 0 0 0],83,false⟩⟩,⟨9,9,9,9,.b ⟨[zI most],3,false⟩⟩,⟨17,17,17,17,.b ⟨[(Tu 152 152 0 ((o).length) 1)],24,false⟩⟩,⟨41,41,41,41,.b ⟨[TF 0 0 0],83,false⟩⟩,⟨89,89,89,89,.l Vr none (rangeAt Try.prog 70 0).1 (rangeAt Try.prog 70 0).2.1 (rangeAt Try.prog 70 0).2.2 58 [(0,TF 0 0 0),(1,zI most),(3,TF 9 9 0),(7,TF 0 0 0),(2,TF 1 1 0),(4,TF 17 17 0),(8,U9 (Ui 116) [] [TF 41 41 0])]⟩,⟨152,152,152,152,.b ⟨(o).map dB,5,true⟩⟩,⟨160,160,168,168,.b ⟨(ab l1).map nD,3,true⟩⟩,⟨168,168,169,169,.b ⟨(ab l2).map nD,3,true⟩⟩,⟨176,176,176,176,.b ⟨[dG kd,bD la,nD le]++(cZ (aa l1)++[(Tu 160 160 0 ((ab l1).length) 1)])++(cZ (aa l2)++[(Tu 168 168 0 ((ab l2).length) 1)]),45,false⟩⟩] 184) (fun(x:(kd:Nat)×'(la:Bool)×'(le:Nat)×'(l1:List UInt8)×'(l2:List UInt8)×'(c:Rs)×'(o:List UInt8)×'(hkd:kd<4)×'(hk2:c.e=0→kd≤2)×'(hle:le<65536)×'(hT1:aC l1 15=0)×'(hT2:aC l2 15=0)×'(hc:ba n c)×'(hp:c.e=0→a.p+3≤c.p)×'(ho2:(o.length:Int)≤most)×'(hR:dF b most (some ⟨kd,la,le,l1,l2⟩) c o=(dF b most none s []))×'Unit)=>match x with|⟨kd,la,le,l1,l2,c,o,hkd,hk2,hle,hT1,hT2,hc,hp,ho2,hR,_⟩=>mu b (some ⟨kd,la,le,l1,l2⟩) c) [⟨(la2:Bool)×'(le2:Nat)×'(l1:List UInt8)×'(l2:List UInt8)×'(kd:Nat)×'(c2:Rs)×'(o2:List UInt8)×'(hc2:ba n c2)×'(hp2:c2.e=0→a.p+3≤c2.p)×'(ho3:(o2.length:Int)≤most)×'(hE:(c2.e≠0∨la2=true)→(dF b most none s [])=(c2,o2))×'(hO:c2.e=0→la2=false→dF b most none c2 o2=(dF b most none s []))×'Unit,.exit 2,fun x=>match x with|⟨la2,le2,l1,l2,kd,c2,o2,hc2,hp2,ho3,hE,hO,_⟩=>TJ [(0,D.yl 89 89),(1,TF 41 41 0),(3,TF 176 176 0)] [⟨0,0,0,0,.b ⟨[.sl false n 1 (b.map dB),nD (c2).p,nD (c2).e],88,false⟩⟩,⟨1,1,1,1,.b ⟨[TF 0 0 0],83,false⟩⟩,⟨9,9,9,9,.b ⟨[zI most],3,false⟩⟩,⟨17,17,17,17,.b ⟨[(Tu 152 152 0 ((o2).length) 1)],24,false⟩⟩,⟨41,41,41,41,.b ⟨[TF 0 0 0],83,false⟩⟩,⟨89,89,89,89,.l Vr none (rangeAt Try.prog 70 0).1 (rangeAt Try.prog 70 0).2.1 (rangeAt Try.prog 70 0).2.2 58 [(0,TF 0 0 0),(1,zI most),(3,TF 9 9 0),(7,TF 0 0 0),(2,TF 1 1 0),(4,TF 17 17 0),(8,U9 (Ui 116) [] [TF 41 41 0])]⟩,⟨152,152,152,152,.b ⟨(o2).map dB,5,true⟩⟩,⟨160,160,168,168,.b ⟨(ab l1).map nD,3,true⟩⟩,⟨168,168,169,169,.b ⟨(ab l2).map nD,3,true⟩⟩,⟨176,176,176,176,.b ⟨[dG kd,bD la2,nD le2]++(cZ (aa l1)++[(Tu 160 160 0 ((ab l1).length) 1)])++(cZ (aa l2)++[(Tu 168 168 0 ((ab l2).length) 1)]),45,false⟩⟩] 184⟩,⟨Unit,.ret,fun x=>match x with|()=>TJ [] [⟨0,0,0,0,.b ⟨[.sl false n 1 (b.map dB),nD ((dF b most none s []).1).p,nD ((dF b most none s []).1).e],88,false⟩⟩,⟨1,1,1,1,.b ⟨[TF 0 0 0],83,false⟩⟩,⟨9,9,9,9,.b ⟨[zI most],3,false⟩⟩,⟨17,17,17,17,.b ⟨[(Tu 152 152 0 (((dF b most none s []).2).length) 1)],24,false⟩⟩,⟨41,41,41,41,.b ⟨[TF 0 0 0],83,false⟩⟩,⟨89,89,89,89,.l LoopState.done (some Code.ret) (rangeAt Try.prog 70 0).1 (rangeAt Try.prog 70 0).2.1 (rangeAt Try.prog 70 0).2.2 58 [(0,TF 0 0 0),(1,zI most),(3,TF 9 9 0),(7,TF 0 0 0),(2,TF 1 1 0),(4,TF 17 17 0),(8,U9 (Ui 116) [] [TF 41 41 0])]⟩,⟨152,152,152,152,.b ⟨((dF b most none s []).2).map dB,5,true⟩⟩] 184⟩] 1000 64 (fun|⟨kd,la,le,l1,l2,c,o,hkd,hk2,hle,hT1,hT2,hc,hp,ho2,hR,_⟩,Q,next2,last2=>(.s 8 (.call 37 true [0,160,168] (true) wr ([TF 0 0 0,UA [aQ kd,D.v (.bool la),zN le,zN (aa l1 0),zN (aa l1 1),zN (aa l1 2),zN (aa l1 3),zN (aa l1 4),zN (aa l1 5),zN (aa l1 6),zN (aa l1 7),zN (aa l1 8),zN (aa l1 9),zN (aa l1 10),zN (aa l1 11),zN (aa l1 12),zN (aa l1 13),zN (aa l1 14),zN (aa l1 15),Tu 1 1 0 (length (ab l1)) 1,zN (aa l2 0),zN (aa l2 1),zN (aa l2 2),zN (aa l2 3),zN (aa l2 4),zN (aa l2 5),zN (aa l2 6),zN (aa l2 7),zN (aa l2 8),zN (aa l2 9),zN (aa l2 10),zN (aa l2 11),zN (aa l2 12),zN (aa l2 13),zN (aa l2 14),zN (aa l2 15),Tu 2 2 0 (length (ab l2)) 1]]) _ (by exact(qr (qr trivial))) (true&&(af (map nD (ab l1))&&(af (map nD (ab l2))&&true))) (by(simp;done)) _ _ _ (TW (az.of Try.func37 rfl rfl) (@Jf (b) (n) om om (c) om (kd) (le) (la) om om (l1) (l2) om om)) (.s 25 (.br ((↑(Rs.e (Ty (ax b kd le l1 l2 c))):Int) !=0) (fun p0=>have p0f:=bE p0;(.s 2 (Hn.last last2 0 (⟨(la),(le),(l1),(l2),(kd),((ax b kd le l1 l2 c).1),(o),(by(subst hn;exact ba.st hc)),om,om,L8,om,⟨⟩⟩:(la2:Bool)×'(le2:Nat)×'(l1:List UInt8)×'(l2:List UInt8)×'(kd:Nat)×'(c2:Rs)×'(o2:List UInt8)×'(hc2:ba n c2)×'(hp2:c2.e=0→a.p+3≤c2.p)×'(ho3:(o2.length:Int)≤most)×'(hE:(c2.e≠0∨la2=true)→(dF b most none s [])=(c2,o2))×'(hO:c2.e=0→la2=false→dF b most none c2 o2=(dF b most none s []))×'Unit) rfl [(0,0),(1,1),(9,9),(17,17),(41,41),(89,89),(152,152),(160,160),(168,168),(176,176)] ro))) (fun p0=>have p0f:=bF p0;(.s 1 (.br (Tm (Tm (Tm (Tm (ax b kd le l1 l2 c))))) (fun p1=>(Hn.last last2 0 (⟨(la),(le),(l1),(l2),(kd),((ax b kd le l1 l2 c).1),(o),(by(subst hn;exact ba.st hc)),(by(exact fun q=>T6 (hp (cD.st b kd le l1 l2 c q).1) (cD.st b kd le l1 l2 c q).2)),om,L8,(by(exact fun q q2=>Ek hn hc hR q q2 aD)),⟨⟩⟩:(la2:Bool)×'(le2:Nat)×'(l1:List UInt8)×'(l2:List UInt8)×'(kd:Nat)×'(c2:Rs)×'(o2:List UInt8)×'(hc2:ba n c2)×'(hp2:c2.e=0→a.p+3≤c2.p)×'(ho3:(o2.length:Int)≤most)×'(hE:(c2.e≠0∨la2=true)→(dF b most none s [])=(c2,o2))×'(hO:c2.e=0→la2=false→dF b most none c2 o2=(dF b most none s []))×'Unit) rfl [(0,0),(1,1),(9,9),(17,17),(41,41),(89,89),(152,152),(160,160),(168,168),(176,176)] ro)) (fun p1=>(.s 8 (.ow ((le:Int)-1) (.s 1 (.opt (lU Uf true 0 ((le:Int)-1)) (zI (max 0 ((le:Int)-1))) (lb _ _ _) (.s 24 (.opt (lU Uf true 1 (↑(Ty (Tm (Tm (Tm (ax b kd le l1 l2 c))))):Int)) (zI (max 1 (↑(Ty (Tm (Tm (Tm (ax b kd le l1 l2 c))))):Int))) (lb _ _ _) (.s 17 (.cl 54 true [0] (.fn i5 (@bV (b) (n) om om (Ty (ax b kd le l1 l2 c)) (decide ((↑(Ty (Tm (Tm (ax b kd le l1 l2 c)))):Int)≤(↑(length o):Int))) (60) om)) (.s 10 (.op ((↑(length o):Int)+max 1 (↑(Ty (Tm (Tm (Tm (ax b kd le l1 l2 c))))):Int)) I7 (.s 6 (.cl 54 true [0] (.fn i5 (@bV (b) (n) om om (fl (Ty (ax b kd le l1 l2 c)) (decide ((↑(Ty (Tm (Tm (ax b kd le l1 l2 c)))):Int)≤(↑(length o):Int))) 60) (decide ((↑(length o):Int)+max 1 (↑(Ty (Tm (Tm (Tm (ax b kd le l1 l2 c))))):Int)≤most)) (140) om)) (.s 12 (.br ((↑(Rs.e (fl (fl (Ty (ax b kd le l1 l2 c)) (decide ((↑(Ty (Tm (Tm (ax b kd le l1 l2 c)))):Int)≤(↑(length o):Int))) 60) (decide ((↑(length o):Int)+max 1 (↑(Ty (Tm (Tm (Tm (ax b kd le l1 l2 c))))):Int)≤most)) 140)):Int) !=0) (fun p2=>have p2f:=bE p2;(.s 8 (.blk 0 0 (Tq [TL false n 1 (map dB b),zN (Rs.p (fl (fl (Ty (ax b kd le l1 l2 c)) (decide ((↑(Ty (Tm (Tm (ax b kd le l1 l2 c)))):Int)≤(↑(length o):Int))) 60) (decide ((↑(length o):Int)+max 1 (↑(Ty (Tm (Tm (Tm (ax b kd le l1 l2 c))))):Int)≤most)) 140)),zN (Rs.e (fl (fl (Ty (ax b kd le l1 l2 c)) (decide ((↑(Ty (Tm (Tm (ax b kd le l1 l2 c)))):Int)≤(↑(length o):Int))) 60) (decide ((↑(length o):Int)+max 1 (↑(Ty (Tm (Tm (Tm (ax b kd le l1 l2 c))))):Int)≤most)) 140))] 88 false) (Tq [TL false n 1 (map dB b),zN (Rs.p (Ty (dF b most none s []))),zN (Rs.e (Ty (dF b most none s [])))] 88 false) I8 (.blk 17 17 (Tq [Tu 152 152 0 (length o) 1] 24 false) (Tq [Tu 152 152 0 (length (Tm (dF b most none s []))) 1] 24 false) I8 (.blk 152 152 (Tq (map dB o) 5 true) (Tq (map dB (Tm (dF b most none s []))) 5 true) I8 (Hn.last last2 1 (():Unit) rfl [(0,0),(1,1),(9,9),(17,17),(41,41),(89,89),(152,152)] ro)))))) (fun p2=>have p2f:=bF p2;(.s 8 (.br ((↑(Ty (Tm (Tm (Tm (ax b kd le l1 l2 c))))):Int)==0) (fun p3=>have p3f:=eq_of_beq p3;(.s 12 (.chk (true&&Tx (length o*1) (length (map dB o))&&true&&true&&true&&true&&Tz ((length o+1)*1) 140737488355328) L9 (.s 5 (.blk 176 176 (Tq [aQ kd,D.v (.bool la),zI (max 0 ((le:Int)-1)),zN (aa l1 0),zN (aa l1 1),zN (aa l1 2),zN (aa l1 3),zN (aa l1 4),zN (aa l1 5),zN (aa l1 6),zN (aa l1 7),zN (aa l1 8),zN (aa l1 9),zN (aa l1 10),zN (aa l1 11),zN (aa l1 12),zN (aa l1 13),zN (aa l1 14),zN (aa l1 15),Tu 160 160 0 (length (ab l1)) 1,zN (aa l2 0),zN (aa l2 1),zN (aa l2 2),zN (aa l2 3),zN (aa l2 4),zN (aa l2 5),zN (aa l2 6),zN (aa l2 7),zN (aa l2 8),zN (aa l2 9),zN (aa l2 10),zN (aa l2 11),zN (aa l2 12),zN (aa l2 13),zN (aa l2 14),zN (aa l2 15),Tu 168 168 0 (length (ab l2)) 1] 45 false) (Tq [aQ kd,D.v (.bool la),zN (le-1),zN (aa l1 0),zN (aa l1 1),zN (aa l1 2),zN (aa l1 3),zN (aa l1 4),zN (aa l1 5),zN (aa l1 6),zN (aa l1 7),zN (aa l1 8),zN (aa l1 9),zN (aa l1 10),zN (aa l1 11),zN (aa l1 12),zN (aa l1 13),zN (aa l1 14),zN (aa l1 15),Tu 160 160 0 (length (ab l1)) 1,zN (aa l2 0),zN (aa l2 1),zN (aa l2 2),zN (aa l2 3),zN (aa l2 4),zN (aa l2 5),zN (aa l2 6),zN (aa l2 7),zN (aa l2 8),zN (aa l2 9),zN (aa l2 10),zN (aa l2 11),zN (aa l2 12),zN (aa l2 13),zN (aa l2 14),zN (aa l2 15),Tu 168 168 0 (length (ab l2)) 1] 45 false) (by(simp;have h9:=@ja b kd le l1 l2 c;omega)) (.blk 17 17 (Tq [Tu 656 656 0 (length o+1) 1] 24 false) (Tq [Tu 656 656 0 (length (vu (Ty (Tm (ax b kd le l1 l2 c))) (Ty (Tm (Tm (ax b kd le l1 l2 c)))) (Ty (Tm (Tm (Tm (ax b kd le l1 l2 c))))) o)) 1] 24 false) (by(exact Mh om)) (.blk 656 656 (Tq (map dB o++[aQ (Ty (Tm (ax b kd le l1 l2 c)))]) 5 true) (Tq (map dB (vu (Ty (Tm (ax b kd le l1 l2 c))) (Ty (Tm (Tm (ax b kd le l1 l2 c)))) (Ty (Tm (Tm (Tm (ax b kd le l1 l2 c))))) o)) 5 true) (by(have h9:=@ja b kd le l1 l2 c;exact Mg om om)) (Hn.next next2 ⟨(kd),(la),(le-1),(l1),(l2),((nC most (ax b kd le l1 l2 c).2.2.1 (ax b kd le l1 l2 c).2.2.2.1 (ax b kd le l1 l2 c).1 o)),(vu (ax b kd le l1 l2 c).2.1 (ax b kd le l1 l2 c).2.2.1 (ax b kd le l1 l2 c).2.2.2.1 o),om,(by(exact fun q=>hk2 (cD.st b kd le l1 l2 c (ke q).1).1)),om,om,om,(by(subst hn;exact ba.tc (ba.st hc))),(by(exact fun q=>Mf hp q)),Gk,Gl,⟨⟩⟩ Gm [(0,0),(1,1),(9,9),(17,17),(41,41),(89,89),(656,656),(160,160),(168,168),(176,176)] ro)))))))) (fun p3=>have p3f:=am p3;(.s 2 (.two (.s 2 (.t (decide (0<max 1 (↑(Ty (Tm (Tm (Tm (ax b kd le l1 l2 c))))):Int))) (by(refine decide_eq_true ?_;(omega))) (.s 19 (.op ((↑(length o):Int)-(↑(Ty (Tm (Tm (ax b kd le l1 l2 c)))):Int)) I7 (.s 1 (.chk (decide (0≤(↑(length o):Int)-(↑(Ty (Tm (Tm (ax b kd le l1 l2 c)))):Int))&&decide ((↑(length o):Int)-(↑(Ty (Tm (Tm (ax b kd le l1 l2 c)))):Int)<(↑(length o):Int))) (by((refine aJ ?_ ?_)<;>(repeat' (first|(refine aJ ?_ ?_)|(with_reducible rfl)|(refine decide_eq_true ?_)|(refine Tv ?_)|(refine fx ?_)))<;>(have h9:=@ja b kd le l1 l2 c;have q:=ke (most:=most) (d:=(ax b kd le l1 l2 c).2.2.1) (long:=(ax b kd le l1 l2 c).2.2.2.1) (s:=(ax b kd le l1 l2 c).1) (o:=o) (show(fl (fl (ax b kd le l1 l2 c).1 (decide (((ax b kd le l1 l2 c).2.2.1:Int)≤((o.length:Nat):Int))) 60) (decide (((o.length:Nat):Int)+max 1 (((ax b kd le l1 l2 c).2.2.2.1:Nat):Int)≤most)) 140).e=0 by omega);have h7:=@pV b kd le l1 l2 c om om;omega))) (.s 2 (.opt ((map dB o)[0+zK ((↑(length o):Int)-(↑(Ty (Tm (Tm (ax b kd le l1 l2 c)))):Int))*1]?) (dB (getD o (0+zK ((↑(length o):Int)-(↑(Ty (Tm (Tm (ax b kd le l1 l2 c)))):Int))*1) mb)) (aq _ _ (by(have h9:=@ja b kd le l1 l2 c;have q:=ke (most:=most) (d:=(ax b kd le l1 l2 c).2.2.1) (long:=(ax b kd le l1 l2 c).2.2.2.1) (s:=(ax b kd le l1 l2 c).1) (o:=o) (show(fl (fl (ax b kd le l1 l2 c).1 (decide (((ax b kd le l1 l2 c).2.2.1:Int)≤((o.length:Nat):Int))) 60) (decide (((o.length:Nat):Int)+max 1 (((ax b kd le l1 l2 c).2.2.2.1:Nat):Int)≤most)) 140).e=0 by omega);have h7:=@pV b kd le l1 l2 c om om;omega))) (.s 3 (.chk (true&&Tx (length o*1) (length (map dB o))&&true&&true&&true&&true&&Tz ((length o+1)*1) 140737488355328) L9 (.s 7 (.blk 17 17 (Tq [Tu 728 728 0 (length o+1) 1] 24 false) (Tq [Tu 728 728 0 (length (gX (Ty (Tm (Tm (ax b kd le l1 l2 c)))) 1 o)) 1] 24 false) (by(exact Mj)) (.blk 728 728 (Tq (map dB o++[aQ (Tp (getD o (0+zK ((↑(length o):Int)-(↑(Ty (Tm (Tm (ax b kd le l1 l2 c)))):Int))*1) mb))]) 5 true) (Tq (map dB (gX (Ty (Tm (Tm (ax b kd le l1 l2 c)))) 1 o)) 5 true) Gn (Hn.inl T_ok ai true 58 392 (ap Try.prog 70 0) (fun(x:(j:Nat)×'(hj:1≤j∧j≤(ax b kd le l1 l2 c).2.2.2.1)×'Unit)=>match x with|⟨j,hj,_⟩=>TJ [(2,TF 1 1 0),(3,TF 9 9 0),(4,TF 17 17 0),(5,TF 472 472 0),(6,zI (max 1 (↑(Ty (Tm (Tm (Tm (ax b kd le l1 l2 c))))):Int))),(8,U9 (Ui 116) [] [TF 41 41 0]),(9,UA [aQ (Ty (Tm (ax b kd le l1 l2 c))),zN (Ty (Tm (Tm (ax b kd le l1 l2 c)))),zN (Ty (Tm (Tm (Tm (ax b kd le l1 l2 c)))))]),(42,zI (max 1 (↑(Ty (Tm (Tm (Tm (ax b kd le l1 l2 c))))):Int))),(43,nD j)] [⟨0,0,0,0,.b ⟨[TL false n 1 (map dB b),zN (Rs.p (fl (fl (Ty (ax b kd le l1 l2 c)) (decide ((↑(Ty (Tm (Tm (ax b kd le l1 l2 c)))):Int)≤(↑(length o):Int))) 60) (decide ((↑(length o):Int)+max 1 (↑(Ty (Tm (Tm (Tm (ax b kd le l1 l2 c))))):Int)≤most)) 140)),zN (Rs.e (fl (fl (Ty (ax b kd le l1 l2 c)) (decide ((↑(Ty (Tm (Tm (ax b kd le l1 l2 c)))):Int)≤(↑(length o):Int))) 60) (decide ((↑(length o):Int)+max 1 (↑(Ty (Tm (Tm (Tm (ax b kd le l1 l2 c))))):Int)≤most)) 140))],88,false⟩⟩,⟨1,1,1,1,.b ⟨[TF 0 0 0],83,false⟩⟩,⟨9,9,9,9,.b ⟨[zI most],3,false⟩⟩,⟨17,17,17,17,.b ⟨[(Tu 488 488 0 ((gX (ax b kd le l1 l2 c).2.2.1 j o).length) 1)],24,false⟩⟩,⟨41,41,41,41,.b ⟨[TF 0 0 0],83,false⟩⟩,⟨89,89,89,89,.l Wr none (rangeAt Try.prog 70 0).1 (rangeAt Try.prog 70 0).2.1 (rangeAt Try.prog 70 0).2.2 58 [(0,TF 0 0 0),(1,zI most),(3,TF 9 9 0),(7,TF 0 0 0),(2,TF 1 1 0),(4,TF 17 17 0),(8,U9 (Ui 116) [] [TF 41 41 0])]⟩,⟨160,160,160,160,.b ⟨map nD (ab l1),3,true⟩⟩,⟨168,168,168,168,.b ⟨map nD (ab l2),3,true⟩⟩,⟨176,176,176,176,.b ⟨[aQ kd,D.v (.bool la),zI (max 0 ((le:Int)-1)),zN (aa l1 0),zN (aa l1 1),zN (aa l1 2),zN (aa l1 3),zN (aa l1 4),zN (aa l1 5),zN (aa l1 6),zN (aa l1 7),zN (aa l1 8),zN (aa l1 9),zN (aa l1 10),zN (aa l1 11),zN (aa l1 12),zN (aa l1 13),zN (aa l1 14),zN (aa l1 15),Tu 160 160 0 (length (ab l1)) 1,zN (aa l2 0),zN (aa l2 1),zN (aa l2 2),zN (aa l2 3),zN (aa l2 4),zN (aa l2 5),zN (aa l2 6),zN (aa l2 7),zN (aa l2 8),zN (aa l2 9),zN (aa l2 10),zN (aa l2 11),zN (aa l2 12),zN (aa l2 13),zN (aa l2 14),zN (aa l2 15),Tu 168 168 0 (length (ab l2)) 1],45,false⟩⟩,⟨232,232,232,232,.b ⟨[aQ (Ty (Tm (ax b kd le l1 l2 c))),zN (Ty (Tm (Tm (ax b kd le l1 l2 c)))),zN (Ty (Tm (Tm (Tm (ax b kd le l1 l2 c)))))],50,false⟩⟩,⟨472,472,392,392,.b ⟨[aQ (Ty (Tm (ax b kd le l1 l2 c))),zN (Ty (Tm (Tm (ax b kd le l1 l2 c)))),zN (Ty (Tm (Tm (Tm (ax b kd le l1 l2 c)))))],50,false⟩⟩,⟨480,480,720,720,.b ⟨[aQ (Tp (getD o (0+zK ((↑(length o):Int)-(↑(Ty (Tm (Tm (ax b kd le l1 l2 c)))):Int))*1) mb))],5,false⟩⟩,⟨488,488,728,728,.b ⟨(gX (ax b kd le l1 l2 c).2.2.1 j o).map dB,5,true⟩⟩] 496) (fun(x:(j:Nat)×'(hj:1≤j∧j≤(ax b kd le l1 l2 c).2.2.2.1)×'Unit)=>match x with|⟨j,hj,_⟩=>(ax b kd le l1 l2 c).2.2.2.1-j) [⟨Unit,.exit 2,fun x=>match x with|()=>TJ [(2,TF 1 1 0),(3,TF 9 9 0),(4,TF 17 17 0),(5,TF 472 472 0),(6,zI (max 1 (↑(Ty (Tm (Tm (Tm (ax b kd le l1 l2 c))))):Int))),(8,U9 (Ui 116) [] [TF 41 41 0]),(9,UA [aQ (Ty (Tm (ax b kd le l1 l2 c))),zN (Ty (Tm (Tm (ax b kd le l1 l2 c)))),zN (Ty (Tm (Tm (Tm (ax b kd le l1 l2 c)))))])] [⟨0,0,0,0,.b ⟨[TL false n 1 (map dB b),zN (Rs.p (fl (fl (Ty (ax b kd le l1 l2 c)) (decide ((↑(Ty (Tm (Tm (ax b kd le l1 l2 c)))):Int)≤(↑(length o):Int))) 60) (decide ((↑(length o):Int)+max 1 (↑(Ty (Tm (Tm (Tm (ax b kd le l1 l2 c))))):Int)≤most)) 140)),zN (Rs.e (fl (fl (Ty (ax b kd le l1 l2 c)) (decide ((↑(Ty (Tm (Tm (ax b kd le l1 l2 c)))):Int)≤(↑(length o):Int))) 60) (decide ((↑(length o):Int)+max 1 (↑(Ty (Tm (Tm (Tm (ax b kd le l1 l2 c))))):Int)≤most)) 140))],88,false⟩⟩,⟨1,1,1,1,.b ⟨[TF 0 0 0],83,false⟩⟩,⟨9,9,9,9,.b ⟨[zI most],3,false⟩⟩,⟨17,17,17,17,.b ⟨[(Tu 488 488 0 ((gX (ax b kd le l1 l2 c).2.2.1 (ax b kd le l1 l2 c).2.2.2.1 o).length) 1)],24,false⟩⟩,⟨41,41,41,41,.b ⟨[TF 0 0 0],83,false⟩⟩,⟨89,89,89,89,.l Wr none (rangeAt Try.prog 70 0).1 (rangeAt Try.prog 70 0).2.1 (rangeAt Try.prog 70 0).2.2 58 [(0,TF 0 0 0),(1,zI most),(3,TF 9 9 0),(7,TF 0 0 0),(2,TF 1 1 0),(4,TF 17 17 0),(8,U9 (Ui 116) [] [TF 41 41 0])]⟩,⟨160,160,160,160,.b ⟨map nD (ab l1),3,true⟩⟩,⟨168,168,168,168,.b ⟨map nD (ab l2),3,true⟩⟩,⟨176,176,176,176,.b ⟨[aQ kd,D.v (.bool la),zI (max 0 ((le:Int)-1)),zN (aa l1 0),zN (aa l1 1),zN (aa l1 2),zN (aa l1 3),zN (aa l1 4),zN (aa l1 5),zN (aa l1 6),zN (aa l1 7),zN (aa l1 8),zN (aa l1 9),zN (aa l1 10),zN (aa l1 11),zN (aa l1 12),zN (aa l1 13),zN (aa l1 14),zN (aa l1 15),Tu 160 160 0 (length (ab l1)) 1,zN (aa l2 0),zN (aa l2 1),zN (aa l2 2),zN (aa l2 3),zN (aa l2 4),zN (aa l2 5),zN (aa l2 6),zN (aa l2 7),zN (aa l2 8),zN (aa l2 9),zN (aa l2 10),zN (aa l2 11),zN (aa l2 12),zN (aa l2 13),zN (aa l2 14),zN (aa l2 15),Tu 168 168 0 (length (ab l2)) 1],45,false⟩⟩,⟨232,232,232,232,.b ⟨[aQ (Ty (Tm (ax b kd le l1 l2 c))),zN (Ty (Tm (Tm (ax b kd le l1 l2 c)))),zN (Ty (Tm (Tm (Tm (ax b kd le l1 l2 c)))))],50,false⟩⟩,⟨472,472,392,392,.b ⟨[aQ (Ty (Tm (ax b kd le l1 l2 c))),zN (Ty (Tm (Tm (ax b kd le l1 l2 c)))),zN (Ty (Tm (Tm (Tm (ax b kd le l1 l2 c)))))],50,false⟩⟩,⟨480,480,720,720,.b ⟨[aQ (Tp (getD o (0+zK ((↑(length o):Int)-(↑(Ty (Tm (Tm (ax b kd le l1 l2 c)))):Int))*1) mb))],5,false⟩⟩,⟨488,488,728,728,.b ⟨(gX (ax b kd le l1 l2 c).2.2.1 (ax b kd le l1 l2 c).2.2.2.1 o).map dB,5,true⟩⟩] 496⟩] 1000 64 (fun|⟨j,hj,_⟩,Q,next3,last3=>(.s 2 (.bd ((j:Int)<max 1 (↑(Ty (Tm (Tm (Tm (ax b kd le l1 l2 c))))):Int)) (fun p4 p4f=>(.s 19 (.op ((↑(length (gX (Ty (Tm (Tm (ax b kd le l1 l2 c)))) j o)):Int)-(↑(Ty (Tm (Tm (ax b kd le l1 l2 c)))):Int)) Gp (.s 1 (.chk (decide (0≤(↑(length (gX (Ty (Tm (Tm (ax b kd le l1 l2 c)))) j o)):Int)-(↑(Ty (Tm (Tm (ax b kd le l1 l2 c)))):Int))&&decide ((↑(length (gX (Ty (Tm (Tm (ax b kd le l1 l2 c)))) j o)):Int)-(↑(Ty (Tm (Tm (ax b kd le l1 l2 c)))):Int)<(↑(length (gX (Ty (Tm (Tm (ax b kd le l1 l2 c)))) j o)):Int))) (by((refine aJ ?_ ?_)<;>(repeat' (first|(refine aJ ?_ ?_)|(with_reducible rfl)|(refine decide_eq_true ?_)|(refine Tv ?_)|(refine fx ?_)))<;>(have h9:=@ja b kd le l1 l2 c;have q:=ke (most:=most) (d:=(ax b kd le l1 l2 c).2.2.1) (long:=(ax b kd le l1 l2 c).2.2.2.1) (s:=(ax b kd le l1 l2 c).1) (o:=o) (show(fl (fl (ax b kd le l1 l2 c).1 (decide (((ax b kd le l1 l2 c).2.2.1:Int)≤((o.length:Nat):Int))) 60) (decide (((o.length:Nat):Int)+max 1 (((ax b kd le l1 l2 c).2.2.2.1:Nat):Int)≤most)) 140).e=0 by omega);have h8:=gw (ax b kd le l1 l2 c).2.2.1 o j;have h7:=@pV b kd le l1 l2 c om om;omega))) (.s 2 (.opt ((map dB (gX (Ty (Tm (Tm (ax b kd le l1 l2 c)))) j o))[0+zK ((↑(length (gX (Ty (Tm (Tm (ax b kd le l1 l2 c)))) j o)):Int)-(↑(Ty (Tm (Tm (ax b kd le l1 l2 c)))):Int))*1]?) (dB (getD (gX (Ty (Tm (Tm (ax b kd le l1 l2 c)))) j o) (0+zK ((↑(length (gX (Ty (Tm (Tm (ax b kd le l1 l2 c)))) j o)):Int)-(↑(Ty (Tm (Tm (ax b kd le l1 l2 c)))):Int))*1) mb)) (aq _ _ Gp) (.s 3 (.chk (true&&Tx (length (gX (Ty (Tm (Tm (ax b kd le l1 l2 c)))) j o)*1) (length (map dB (gX (Ty (Tm (Tm (ax b kd le l1 l2 c)))) j o)))&&true&&true&&true&&true&&Tz ((length (gX (Ty (Tm (Tm (ax b kd le l1 l2 c)))) j o)+1)*1) 140737488355328) (by(simp only[TH,TZ,Uz,Ub,Uh];have h9:=@ja b kd le l1 l2 c;have q:=ke (most:=most) (d:=(ax b kd le l1 l2 c).2.2.1) (long:=(ax b kd le l1 l2 c).2.2.2.1) (s:=(ax b kd le l1 l2 c).1) (o:=o) (show(fl (fl (ax b kd le l1 l2 c).1 (decide (((ax b kd le l1 l2 c).2.2.1:Int)≤((o.length:Nat):Int))) 60) (decide (((o.length:Nat):Int)+max 1 (((ax b kd le l1 l2 c).2.2.2.1:Nat):Int)≤most)) 140).e=0 by omega);have h8:=gw (ax b kd le l1 l2 c).2.2.1 o j;have h7:=@pV b kd le l1 l2 c om om;refine Tv ?_;omega)) (.s 5 (.op ((j:Int)+1) I7 (.s 1 (.val 43 (zI ((j:Int)+1)) (zN (j+1)) (by(refine aT ?_;(omega))) (.blk 17 17 (Tq [Tu 584 584 0 (length (gX (Ty (Tm (Tm (ax b kd le l1 l2 c)))) j o)+1) 1] 24 false) (Tq [Tu 584 584 0 (length (gX (Ty (Tm (Tm (ax b kd le l1 l2 c)))) (j+1) o)) 1] 24 false) (by(exact QJ)) (.blk 584 584 (Tq (map dB (gX (Ty (Tm (Tm (ax b kd le l1 l2 c)))) j o)++[aQ (Tp (getD (gX (Ty (Tm (Tm (ax b kd le l1 l2 c)))) j o) (0+zK ((↑(length (gX (Ty (Tm (Tm (ax b kd le l1 l2 c)))) j o)):Int)-(↑(Ty (Tm (Tm (ax b kd le l1 l2 c)))):Int))*1) mb))]) 5 true) (Tq (map dB (gX (Ty (Tm (Tm (ax b kd le l1 l2 c)))) (j+1) o)) 5 true) Gn (Hn.next next3 ⟨(j+1),om,⟨⟩⟩ (by show Ty (Tm (Tm (Tm (ax b kd le l1 l2 c))))-(j+1)<Ty (Tm (Tm (Tm (ax b kd le l1 l2 c))))-j;clear next3 last3 next2 last2 next1 last1;omega) [(0,0),(1,1),(9,9),(17,17),(41,41),(89,89),(160,160),(168,168),(176,176),(232,232),(472,472),(480,480),(584,584)] ro)))))))))))))))) (fun p4 p4f=>(.blk 17 17 (Tq [Tu 488 488 0 (length (gX (Ty (Tm (Tm (ax b kd le l1 l2 c)))) j o)) 1] 24 false) (Tq [Tu 488 488 0 (length (gX (Ty (Tm (Tm (ax b kd le l1 l2 c)))) (Ty (Tm (Tm (Tm (ax b kd le l1 l2 c))))) o)) 1] 24 false) (by(rw[show j=(ax b kd le l1 l2 c).2.2.2.1 from by omega])) (.blk 488 488 (Tq (map dB (gX (Ty (Tm (Tm (ax b kd le l1 l2 c)))) j o)) 5 true) (Tq (map dB (gX (Ty (Tm (Tm (ax b kd le l1 l2 c)))) (Ty (Tm (Tm (Tm (ax b kd le l1 l2 c))))) o)) 5 true) (by(rw[show j=(ax b kd le l1 l2 c).2.2.2.1 from by omega])) (Hn.last last3 0 (():Unit) rfl [(0,0),(1,1),(9,9),(17,17),(41,41),(89,89),(160,160),(168,168),(176,176),(232,232),(472,472),(480,480),(488,488)] ro))))))) (fun|⟨j,hj,_⟩=>by kernel_rfl) ⟨(1),om,⟨⟩⟩ [(0,0),(1,1),(9,9),(17,17),(41,41),(89,89),(160,160),(168,168),(176,176),(232,232),(392,392),(720,720),(728,728)] ro (bY (fun|()=>(.s 2 (.blk 176 176 (Tq [aQ kd,D.v (.bool la),zI (max 0 ((le:Int)-1)),zN (aa l1 0),zN (aa l1 1),zN (aa l1 2),zN (aa l1 3),zN (aa l1 4),zN (aa l1 5),zN (aa l1 6),zN (aa l1 7),zN (aa l1 8),zN (aa l1 9),zN (aa l1 10),zN (aa l1 11),zN (aa l1 12),zN (aa l1 13),zN (aa l1 14),zN (aa l1 15),Tu 160 160 0 (length (ab l1)) 1,zN (aa l2 0),zN (aa l2 1),zN (aa l2 2),zN (aa l2 3),zN (aa l2 4),zN (aa l2 5),zN (aa l2 6),zN (aa l2 7),zN (aa l2 8),zN (aa l2 9),zN (aa l2 10),zN (aa l2 11),zN (aa l2 12),zN (aa l2 13),zN (aa l2 14),zN (aa l2 15),Tu 168 168 0 (length (ab l2)) 1] 45 false) (Tq [aQ kd,D.v (.bool la),zN (le-1),zN (aa l1 0),zN (aa l1 1),zN (aa l1 2),zN (aa l1 3),zN (aa l1 4),zN (aa l1 5),zN (aa l1 6),zN (aa l1 7),zN (aa l1 8),zN (aa l1 9),zN (aa l1 10),zN (aa l1 11),zN (aa l1 12),zN (aa l1 13),zN (aa l1 14),zN (aa l1 15),Tu 160 160 0 (length (ab l1)) 1,zN (aa l2 0),zN (aa l2 1),zN (aa l2 2),zN (aa l2 3),zN (aa l2 4),zN (aa l2 5),zN (aa l2 6),zN (aa l2 7),zN (aa l2 8),zN (aa l2 9),zN (aa l2 10),zN (aa l2 11),zN (aa l2 12),zN (aa l2 13),zN (aa l2 14),zN (aa l2 15),Tu 168 168 0 (length (ab l2)) 1] 45 false) (by(simp;have h9:=@ja b kd le l1 l2 c;omega)) (.blk 17 17 (Tq [Tu 488 488 0 (length (gX (Ty (Tm (Tm (ax b kd le l1 l2 c)))) (Ty (Tm (Tm (Tm (ax b kd le l1 l2 c))))) o)) 1] 24 false) (Tq [Tu 488 488 0 (length (vu (Ty (Tm (ax b kd le l1 l2 c))) (Ty (Tm (Tm (ax b kd le l1 l2 c)))) (Ty (Tm (Tm (Tm (ax b kd le l1 l2 c))))) o)) 1] 24 false) (by(rw[Gr om])) (.blk 488 488 (Tq (map dB (gX (Ty (Tm (Tm (ax b kd le l1 l2 c)))) (Ty (Tm (Tm (Tm (ax b kd le l1 l2 c))))) o)) 5 true) (Tq (map dB (vu (Ty (Tm (ax b kd le l1 l2 c))) (Ty (Tm (Tm (ax b kd le l1 l2 c)))) (Ty (Tm (Tm (Tm (ax b kd le l1 l2 c))))) o)) 5 true) (by(rw[Gr om])) (Hn.next next2 ⟨(kd),(la),(le-1),(l1),(l2),((nC most (ax b kd le l1 l2 c).2.2.1 (ax b kd le l1 l2 c).2.2.2.1 (ax b kd le l1 l2 c).1 o)),(vu (ax b kd le l1 l2 c).2.1 (ax b kd le l1 l2 c).2.2.1 (ax b kd le l1 l2 c).2.2.2.1 o),om,(by(exact fun q=>hk2 (cD.st b kd le l1 l2 c (ke q).1).1)),om,om,om,(by(subst hn;exact ba.tc (ba.st hc))),(by(exact fun q=>Mf hp q)),Gk,Gl,⟨⟩⟩ Gm [(0,0),(1,1),(9,9),(17,17),(41,41),(89,89),(488,488),(160,160),(168,168),(176,176)] ro))))))))))))))))))))) .nil))))))))))))))))))))))))))))) (fun|⟨kd,la,le,l1,l2,c,o,hkd,hk2,hle,hT1,hT2,hc,hp,ho2,hR,_⟩=>by kernel_rfl) ⟨((gv b a).kd),((gv b a).la),((gv b a).le),((gv b a).l1),((gv b a).l2),((gv b a).s),(o),(by(exact(A9 b a).2.2.1)),(by(exact(A9 b a).2.2.2.2)),(by(exact(A9 b a).2.2.2.1)),(by(exact(A9 b a).1)),(by(exact(A9 b a).2.1)),(by(subst hn;exact xg ha)),(by(exact fun q=>(A8 b a q).2)),om,(by(subst hn;exact Mc ha h0 hR)),⟨⟩⟩ [(0,0),(1,1),(9,9),(17,17),(41,41),(89,89),(152,152),(168,168),(169,169),(176,176)] ro (gd (fun|⟨la2,le2,l1,l2,kd,c2,o2,hc2,hp2,ho3,hE,hO,_⟩=>(.s 14 (.br ((↑(Rs.e c2):Int) !=0) (fun p5=>have p5f:=bE p5;(.s 4 (.blk 0 0 (Tq [TL false n 1 (map dB b),zN (Rs.p c2),zN (Rs.e c2)] 88 false) (Tq [TL false n 1 (map dB b),zN (Rs.p (Ty (dF b most none s []))),zN (Rs.e (Ty (dF b most none s [])))] 88 false) zu (.blk 17 17 (Tq [Tu 152 152 0 (length o2) 1] 24 false) (Tq [Tu 152 152 0 (length (Tm (dF b most none s []))) 1] 24 false) zu (.blk 152 152 (Tq (map dB o2) 5 true) (Tq (map dB (Tm (dF b most none s []))) 5 true) zu (Hn.last last1 0 (():Unit) rfl [(0,0),(1,1),(9,9),(17,17),(41,41),(89,89),(152,152)] ro)))))) (fun p5=>have p5f:=bF p5;(.s 7 (.br (la2) (fun p6=>(.blk 0 0 (Tq [TL false n 1 (map dB b),zN (Rs.p c2),zN (Rs.e c2)] 88 false) (Tq [TL false n 1 (map dB b),zN (Rs.p (Ty (dF b most none s []))),zN (Rs.e (Ty (dF b most none s [])))] 88 false) zu (.blk 17 17 (Tq [Tu 152 152 0 (length o2) 1] 24 false) (Tq [Tu 152 152 0 (length (Tm (dF b most none s []))) 1] 24 false) zu (.blk 152 152 (Tq (map dB o2) 5 true) (Tq (map dB (Tm (dF b most none s []))) 5 true) zu (Hn.last last1 0 (():Unit) rfl [(0,0),(1,1),(9,9),(17,17),(41,41),(89,89),(152,152)] ro))))) (fun p6=>(Hn.next next1 ⟨(c2),om,om,(o2),om,(by(exact hO om aD)),⟨⟩⟩ (by show mu b none c2<mu b none a;clear next1 last1;(exact Me hn hc2 h0 om (hp2 om))) [(0,0),(1,1),(9,9),(17,17),(41,41),(89,89),(152,152)] ro)))))))) (fun|()=>(Hn.last last1 1 (():Unit) rfl [(0,0),(1,1),(9,9),(17,17),(41,41),(89,89),(152,152)] ro)))))))) (fun|⟨a,ha,h0,o,ho,hR,_⟩=>by kernel_rfl) ⟨(s),om,om,([]),(by(simp <;>(omega))),wr,⟨⟩⟩ [(0,0),(1,1),(9,9),(17,17),(41,41),(89,89),(97,97)] ro (gd (fun|()=>(.s 8 (.out [0,152] [0,152] (Tu 1 1 0 (length (Tm (dF b most none s []))) 1) [Tq [TL false n 1 (map dB b),zN (Rs.p (Ty (dF b most none s []))),zN (Rs.e (Ty (dF b most none s [])))] 88 false,Tq (map dB (Tm (dF b most none s []))) 5 true] R (ok _ _ wr wr)))) (fun|()=>(.s 2 (.out [0,152] [0,152] (Tu 1 1 0 (length (Tm (dF b most none s []))) 1) [Tq [TL false n 1 (map dB b),zN (Rs.p (Ty (dF b most none s []))),zN (Rs.e (Ty (dF b most none s [])))] 88 false,Tq (map dB (Tm (dF b most none s []))) 5 true] R (ok _ _ wr wr))))))))) kr
end Vp
end Go.Proofs.Ytefjnofhgkjpmaa
namespace Go.Proofs.Ytefjnofhgkjpmaa
open Go.RowKit Go.Bw Go.Vx
open List (length getD map take drop flatMap replicate)
namespace Vp
theorem od {p:Prop}(h:p:=by(refine decide_eq_false ?_;(omega))):p:=h
abbrev s0 (p:Nat):Rs:=⟨p,0⟩
def l0 (b:List UInt8)(most:Int)(p:Nat):Rs×List UInt8:=dF b most none (s0 p) []
def tU (b:List UInt8)(at' most:Int):List UInt8×Nat×Nat:=
 if at'<0∨8*(b.length:Int)<at' then([],0,2)else if most<0∨131072<most then([],0,2)
 else if(l0 b most at'.toNat).1.e≠0 then([],0,(l0 b most at'.toNat).1.e)else((l0 b most at'.toNat).2,(l0 b most at'.toNat).1.p,0)
section
variable {b:List UInt8} {x most:Int}
theorem Gs (h:x<0∨8*(b.length:Int)<x):tU b x most=([],0,2):=if_pos h
theorem Mk (h:¬(x<0∨8*(b.length:Int)<x))(h2:most<0∨131072<most):tU b x most=([],0,2):=(if_neg h).trans (if_pos h2)
theorem Ml (h:¬(x<0∨8*(b.length:Int)<x))(h2:¬(most<0∨131072<most))(h3:(l0 b most x.toNat).1.e≠0):tU b x most=([],0,(l0 b most x.toNat).1.e):=(if_neg h).trans ((if_neg h2).trans (if_pos h3))
theorem Mm (h:¬(x<0∨8*(b.length:Int)<x))(h2:¬(most<0∨131072<most))(h3:¬(l0 b most x.toNat).1.e≠0):tU b x most=((l0 b most x.toNat).2,(l0 b most x.toNat).1.p,0):=(if_neg h).trans ((if_neg h2).trans (if_neg h3))
end
theorem Bc (b:List UInt8)(n:Nat)(hn:n=b.length)(hN:n≤131072)(p:Nat)(hp:p≤8*n)(pi:Int)(hpi:pi=p)(most:Int)(hm:0≤most∧most≤1000000)(R:Rs×List UInt8)(hR:l0 b most p=R):S1 70 [.ptr 0 0 0,iD most] [⟨[.sl false n 1 (b.map dB),iD pi,iD 0], 88,false⟩] (.ref 1 1 0 R.2.length 1) [⟨[.sl false n 1 (b.map dB),nD R.1.p,nD R.1.e], 88,false⟩,⟨R.2.map dB, 5,true⟩]:=by
 subst hpi hR
 exact Jg b n hn (by omega) (s0 p) (fun _=>hp) rfl most hm
theorem Mn (b:List UInt8)(n:Nat)(hn:n=b.length)(hN:n≤131072)(x most:Int)(h:(x<0∨8*(n:Int)<x)∨most<0∨131072<most):S0 42 [.sl false n 1 (b.map dB),iD x,iD most] [] (.tup [dT,iD 0,iD 2]) []:=by
 refine SpecH.run T_ok ai Try.func42 rfl rfl rfl trivial rfl 1000 64 (fun R ok=>(.s 13 (.f (decide (131072<(n:Int))) od (.s 5 (.bd (x<0) (fun p0 p0f=>(.s 43 (.out [] [] (Uw [zS,zI 0,zI 2]) [] R (ok _ _ wr wr)))) (fun p0 p0f=>(.s 7 (.ow (8*(n:Int)) (.s 4 (.bd (8*(n:Int)<x) (fun p1 p1f=>(.s 33 (.out [] [] (Uw [zS,zI 0,zI 2]) [] R (ok _ _ wr wr)))) (fun p1 p1f=>(.s 27 (.bd (most<0) (fun p2 p2f=>(.s 15 (.out [] [] (Uw [zS,zI 0,zI 2]) [] R (ok _ _ wr wr)))) (fun p2 p2f=>(.s 6 (.t (decide (131072<most)) (by(refine decide_eq_true ?_;(omega))) (.s 9 (.out [] [] (Uw [zS,zI 0,zI 2]) [] R (ok _ _ wr wr))))))))))))))))))) kr
theorem Mo (b:List UInt8)(n:Nat)(hn:n=b.length)(hN:n≤131072)(x most:Int)(h1:0≤x∧x≤8*(n:Int))(h2:0≤most∧most≤131072)(tr:Rs×List UInt8)(hR:l0 b most x.toNat=tr)(h:tr.1.e≠0):S0 42 [.sl false n 1 (b.map dB),iD x,iD most] [] (.tup [dT,iD 0,nD tr.1.e]) []:=by
 refine SpecH.run T_ok ai Try.func42 rfl rfl rfl trivial rfl 1000 64 (fun R ok=>(.s 13 (.f (decide (131072<(n:Int))) od (.s 5 (.f (decide (x<0)) od (.s 7 (.ow (8*(n:Int)) (.s 4 (.f (decide (8*(n:Int)<x)) od (.s 27 (.f (decide (most<0)) od (.s 6 (.f (decide (131072<most)) od (.s 7 (.cl 70 true [184] (.fn SQ (@Bc (b) (n) om om (zK x) om (x) om (most) om (tr) aD)) (.s 11 (.t ((↑(Rs.e (Ty tr)):Int) !=0) (by(simp <;>(omega))) (.s 12 (.out [] [] (Uw [zS,zI 0,zN (Rs.e (Ty tr))]) [] R (ok _ _ wr wr)))))))))))))))))))) kr
theorem Mp (b:List UInt8)(n:Nat)(hn:n=b.length)(hN:n≤131072)(x most:Int)(h1:0≤x∧x≤8*(n:Int))(h2:0≤most∧most≤131072)(tr:Rs×List UInt8)(hR:l0 b most x.toNat=tr)(h:tr.1.e=0):S0 42 [.sl false n 1 (b.map dB),iD x,iD most] [] (.tup [.ref 0 0 0 tr.2.length 1,nD tr.1.p,iD 0]) [⟨(tr.2).map dB, 5,true⟩]:=by
 refine SpecH.run T_ok ai Try.func42 rfl rfl rfl ⟨cM _,trivial⟩ rfl 1000 64 (fun R ok=>(.s 13 (.f (decide (131072<(n:Int))) od (.s 5 (.f (decide (x<0)) od (.s 7 (.ow (8*(n:Int)) (.s 4 (.f (decide (8*(n:Int)<x)) od (.s 27 (.f (decide (most<0)) od (.s 6 (.f (decide (131072<most)) od (.s 7 (.cl 70 true [184] (.fn SQ (@Bc (b) (n) om om (zK x) om (x) om (most) om (tr) aD)) (.s 11 (.f ((↑(Rs.e (Ty tr)):Int) !=0) (by(simp <;>(omega))) (.s 13 (.out [384] [384] (Uw [Tu 0 0 0 (length (Tm tr)) 1,zN (Rs.p (Ty tr)),zI 0]) [Tq (map dB (Tm tr)) 5 true] R (ok _ _ wr wr)))))))))))))))))))) kr
theorem Gt (b:List UInt8)(n:Nat)(hn:n=b.length)(hN:n≤131072)(x most:Int)(r:List UInt8×Nat×Nat)(hr:tU b x most=r):S0 42 [.sl false n 1 (b.map dB),iD x,iD most] [] (.tup [.ref 0 0 0 r.1.length 1,nD r.2.1,nD r.2.2]) [⟨(r.1).map dB, 5,true⟩]:=by
 subst hr
 by_cases h:(x<0∨8*(n:Int)<x)∨most<0∨131072<most
 ·have h1:=Mn b n hn hN x most h
  have e:tU b x most=([],0,2):=by
   rcases h with h|h
   ·exact Gs (by omega)
   ·by_cases q:x<0∨8*(b.length:Int)<x
    ·exact Gs q
    ·exact Mk q h
  rw[e]
  exact SpecH.nilA h1 _ (eu.tup ⟨eu.nil 0 1,eu.refl 0 _,eu.refl 0 _,trivial⟩)
 ·by_cases q:(l0 b most x.toNat).1.e=0
  ·have h1:=Mp b n hn hN x most (by omega) (by omega) _ rfl q
   rw[Mm (by omega) (by omega) (by omega)]
   exact h1
  ·have h1:=Mo b n hn hN x most (by omega) (by omega) _ rfl q
   rw[Ml (by omega) (by omega) q]
   exact SpecH.nilA h1 _ (eu.tup ⟨eu.nil 0 1,eu.refl 0 _,eu.refl 0 _,trivial⟩)
end Vp
end Go.Proofs.Ytefjnofhgkjpmaa
namespace Go.Proofs.Ytefjnofhgkjpmaa
open Go.RowKit Go.Bw Go.Vx
namespace Vp
section
variable {b:List UInt8} {p:Nat}
theorem jc {v m:Nat}(hv:v<2^m)(h:St b p (nb v m)):aV b m ⟨p,0⟩=v∧bp b m ⟨p,0⟩=⟨p+m,0⟩:=by
 have q:=LM hv h
 rw[AK rfl,n6 rfl]
 exact⟨q.1,congrArg (Rs.mk _) q.2⟩
structure CdO (l:List UInt8)(s:Nat):Prop where
 o:dh l 15=false
 i:s<l.length
 p:0<(l.getD s mb).toNat
 c:kC l s<2^(l.getD s mb).toNat
 g:(ae l).getD s mb=(kC l s,(l.getD s mb).toNat)
theorem tV {l:List UInt8}{s:Nat}(hc:aC l 15=0)(hC:pc (ae l))(hs:s<l.length)(hp:0<(l.getD s mb).toNat):CdO l s:=by
 have ho:=(dw hc).2.1
 have g:=Dp l s ho
 rw[if_pos ⟨hs,by omega⟩]at g
 have c:=(hC s).2
 rw[g]at c
 exact⟨ho,hs,hp,c,g⟩
theorem oe {l:List UInt8}{s n x:Nat}(hC:CdO l s):(bs (fW (ae l) s n x)).length=(l.getD s mb).toNat+n:=by
 rw[fW,hC.g,bw,bw,gE,Ue,Tt,bb,bb]
theorem tW {l:List UInt8}{s n x:Nat}{Y:List Bool}(hC:CdO l s)(h:St b p (bs (fW (ae l) s n x)++Y)):aH b l ⟨p,0⟩=s∧aR b l ⟨p,0⟩=⟨p+(l.getD s mb).toNat,0⟩∧St b (p+(l.getD s mb).toNat) (nb x n++Y):=by
 rw[fW,hC.g,bw,bw,gE,Ue,TG]at h
 obtain⟨h1,h2⟩:=h.app
 rw[bb]at h2
 have q:=LN hC.o hC.i rfl hC.p hC.c h1
 rw[pR rfl,mO rfl,q]
 exact⟨rfl,rfl,h2⟩
theorem Bd {T:List Sy}{f:Int}{i s:Nat}(hi:i<T.length)(hs:(s:Int)=f+i):Am T f s=(T.getD i mb).bits∧ta T f s=0:=by
 have e:((s:Int)-f).toNat=i:=by omega
 unfold Am ta
 rw[if_pos (by omega),if_pos (by omega),e]
 exact⟨rfl,rfl⟩
theorem Be {T:List Sy}{f:Int}{s n:Nat}(hp:T.all (fun y=>decide (y.many≤2^y.bits))=true)(hi:ao T n<T.length)(hs:(s:Int)=f+(ao T n:Nat)):vw T f s (n-(T.getD (ao T n) mb).least)=0∧An T f s (n-(T.getD (ao T n) mb).least)=n:=by
 have q:=Cm (T:=T) (n:=n) T.length 0 (by rw[←kA];omega)
 rw[←kA]at q
 have z:=tI hp hi
 have e:((s:Int)-f).toNat=ao T n:=by omega
 have h0:vw T f s (n-(T.getD (ao T n) mb).least)=0:=by
  unfold vw ym
  rw[e,if_neg (by omega),if_neg (by omega),if_neg (by omega)]
 refine⟨h0,?_⟩
 unfold An
 rw[if_pos h0,e];omega
theorem Bf {far:Bool}{sy x n bits:Nat}(hB:gP far sy=bits)(hE:cS far sy=0)(hF:pB far sy x=0)(hV:Ge far sy x=n)(hx:x<2^bits)(h:St b p (nb x bits)):gQ b far sy ⟨p,0⟩=⟨p+bits,0⟩∧tN b far sy ⟨p,0⟩=n:=by
 have a:IS far sy ⟨p,0⟩=⟨p,0⟩:=by unfold IS;rw[hE];exact gF
 have q:=jc hx h
 have X:xa b far sy ⟨p,0⟩=x:=by unfold xa;rw[a,hB];exact q.1
 have t:vM b far sy ⟨p,0⟩=⟨p+bits,0⟩:=by unfold vM;rw[a,hB];exact q.2
 have z:=kQ (b:=b) (far:=far) (sy:=sy) (s:=⟨p,0⟩) rfl (by rw[t])
 rw[X,t,hF,hV]at z
 exact⟨z.1.trans gF,z.2⟩
def Jh (A B:List UInt8)(t:Tn):Prop:=if t.long=0 then CdO A t.lit.toNat else CdO A (257+ao au t.long)∧CdO B (ao aA t.dist)
theorem Mq {A B:List UInt8}{kd le:Nat}(hk:kd≠0){t:Tn}(ht:ef t)(hO:Jh A B t){Y:List Bool}(h:St b p (bs (my au aA (ae A) (ae B) t)++Y)):ax b kd le A B ⟨p,0⟩=(⟨p+(bs (my au aA (ae A) (ae B) t)).length,0⟩,if t.long=0 then(t.lit.toNat,0,0,false)else(0,t.dist,t.long,false)):=by
 unfold my at h ⊢
 unfold Jh at hO
 by_cases h0:t.long=0
 ·rw[if_pos h0]at h hO ⊢
  rw[if_pos h0]
  obtain⟨q1,q2,q3⟩:=tW hO h
  rw[IV hk (by rw[q2]) (by rw[q1];exact t.lit.toNat_lt),q1,q2]
  refine congrArg (fun z=>(Rs.mk z 0,_)) ?_
  rw[oe hO,VD]
 ·rw[if_neg h0]at h hO ⊢
  rw[if_neg h0]
  have te:=bK rfl rfl ht h0
  rw[b6,TG]at h
  obtain⟨q1,q2,q3⟩:=tW hO.1 h
  obtain⟨r1,r2⟩:=q3.app
  rw[bb]at r2
  have b1:=Bd (T:=au) (f:=257) (i:=ao au t.long) (s:=257+ao au t.long) te.1 (by omega)
  have o1:=Be (f:=257) (s:=257+ao au t.long) lX te.1 (by omega)
  obtain⟨n1,n2⟩:=Bf (far:=false) (sy:=257+ao au t.long) b1.1 b1.2 o1.1 o1.2 (tI lX te.1) r1
  obtain⟨y1,y2,y3⟩:=tW hO.2 r2
  have b2:=Bd (T:=aA) (f:=0) (i:=ao aA t.dist) (s:=ao aA t.dist) te.2 (by omega)
  have o2:=Be (f:=0) (s:=ao aA t.dist) n5 te.2 (by omega)
  obtain⟨m1,m2⟩:=Bf (far:=true) (sy:=ao aA t.dist) b2.1 b2.2 o2.1 o2.2 (tI n5 te.2) y3.app.1
  rw[IX hk (by rw[q2]) (by rw[q1];omega),Al,q1,q2,n1,y1,y2,m1,m2,n2]
  refine congrArg (fun z=>(Rs.mk z 0,_)) ?_
  rw[b6,Tt,oe hO.1,oe hO.2]
  omega
theorem Ji {A B:List UInt8}{kd le:Nat}(hk:kd≠0)(hO:CdO A 256){Y:List Bool}(h:St b p (bs (fW (ae A) 256 0 0)++Y)):ax b kd le A B ⟨p,0⟩=(⟨p+(bs (fW (ae A) 256 0 0)).length,0⟩,0,0,0,true):=by
 obtain⟨q1,q2,q3⟩:=tW hO h
 rw[IW hk (by rw[q2]) q1,q2]
 refine congrArg (fun z=>(Rs.mk z 0,_)) ?_
 rw[oe hO,VD]
theorem Mr {A B:List UInt8}{le:Nat}(hl:0<le){x:UInt8}{Y:List Bool}(h:St b p (nb x.toNat 8++Y)):ax b 0 le A B ⟨p,0⟩=(⟨p+8,0⟩,x.toNat,0,0,false):=by
 obtain⟨q1,q2⟩:=jc (show x.toNat<2^8 from x.toNat_lt) h.app.1
 rw[AT rfl hl,q1,q2]
end
end Vp
end Go.Proofs.Ytefjnofhgkjpmaa
namespace Go.Proofs.Ytefjnofhgkjpmaa
open Go.RowKit Go.Bw Go.Vx
namespace Vp
theorem jd {l:List UInt8}{i:Nat}(h:(l.getD i mb).toNat≠0):i<l.length:=by
 rcases T5 i l.length with q|q
 ·exact q
 ·rw[jX q]at h;exact absurd rfl h
theorem og {k:Nat}{S:List Nat}{i:Nat}(hi:i<k)(h:i∈S):0<(bx k S).getD i mb:=by
 rw[sV,if_pos hi];exact List.count_pos_iff.2 h
theorem vR {l:List Tn}(hk:l.length≤65535){s:Nat}(hs:s<286)(h:s∈dH au l l.length++[256]):CdO (dc l) s:=by
 have G:=Ak l hk
 have F:=G.f
 have p:=jE (bx 286 (dH au l l.length++[256])) (by rw[F.lW1];decide) 15 (by decide) (by rw[F.lW1];exact F.iW1) (og hs h)
 have e:(dc l).getD s mb=(b5 (bx 286 (dH au l l.length++[256])) 15).getD s mb:=by rw[ra];exact pt _ _ _
 rw[←e]at p
 exact tV G.cL G.oL (jd p) (by omega)
theorem Jj {l:List Tn}(hk:l.length≤65535){s:Nat}(hs:s<30)(h:s∈fX aA l l.length):CdO (eV l) s:=by
 have G:=Ak l hk
 have F:=G.f
 have p:=jE (bx 30 (fX aA l l.length)) (by rw[F.lW2];decide) 15 (by decide) (by rw[F.lW2];exact F.iW2) (og hs h)
 have e:(eV l).getD s mb=(b5 (bx 30 (fX aA l l.length)) 15).getD s mb:=by rw[rc];exact pt _ _ _
 rw[←e]at p
 exact tV G.cB G.oB (jd p) (by omega)
theorem Jk {l:List Tn}(hk:l.length≤65535){t:Tn}(ht:t∈l)(hm:ef t):Jh (dc l) (eV l) t:=by
 have m1:DF au t∈dH au l l.length++[256]:=U2 _ (by rw[qS,Uy];exact W8 ht)
 unfold Jh
 unfold DF at m1
 by_cases h0:t.long=0
 ·rw[if_pos h0]at m1 ⊢;exact vR hk (by have:=t.lit.toNat_lt;omega) m1
 ·rw[if_neg h0]at m1 ⊢
  have te:=bK rfl rfl hm h0
  refine⟨vR hk (by omega) m1,Jj hk te.2 ?_⟩
  rw[vm,Uy]
  exact List.mem_flatMap.2 ⟨t,ht,by unfold It;rw[if_neg h0];exact List.mem_singleton.2 rfl⟩
theorem vS {l:List Tn}(hk:l.length≤65535):CdO (dc l) 256:=vR hk (by decide) (Wj _ (List.mem_singleton.2 rfl))
theorem Jl:∀i,i<286→0<(bz.getD i mb).toNat:=by decide+kernel
theorem Jm:∀i,i<30→0<(cU.getD i mb).toNat:=by decide+kernel
theorem Bg {s:Nat}(hs:s<286):CdO bz s:=tV cr (dW cr) (by rw[lZ];omega) (Jl s hs)
theorem Ms {s:Nat}(hs:s<30):CdO cU s:=tV ez (dW ez) (by rw[oa];omega) (Jm s hs)
theorem Jn {t:Tn}(hm:ef t):Jh bz cU t:=by
 unfold Jh
 by_cases h0:t.long=0
 ·rw[if_pos h0];exact Bg (by have:=t.lit.toNat_lt;omega)
 ·rw[if_neg h0]
  have te:=bK rfl rfl hm h0
  exact⟨Bg (by omega),Ms te.2⟩
section
variable {b:List UInt8} {p:Nat}
theorem Mt:∀{V:List UInt8} {p:Nat} {Y:List Bool},(∀i,(V.getD i mb).toNat≤7)→St b p (bs (V.flatMap jD)++Y)→∀i,i≤V.length→cK b ⟨p,0⟩ i=⟨p+3*i,0⟩∧(i<V.length→aV b 3 (cK b ⟨p,0⟩ i)=(V.getD i mb).toNat)∧St b (p+3*i) (bs ((V.drop i).flatMap jD)++Y):=fun{V p Y} hV h i=>by
 have val:∀j,j<V.length→St b (p+3*j) (bs ((V.drop j).flatMap jD)++Y)→aV b 3 ⟨p+3*j,0⟩=(V.getD j mb).toNat∧bp b 3 ⟨p+3*j,0⟩=⟨p+3*(j+1),0⟩∧St b (p+3*(j+1)) (bs ((V.drop (j+1)).flatMap jD)++Y):=fun j hj hS=>by
  have e:V.drop j=V.getD j mb::V.drop (j+1):=by
   rw[UK hj,To,Ts hj];rfl
  have e2:bs ((V.drop j).flatMap jD)=nb (V.getD j mb).toNat 3++bs ((V.drop (j+1)).flatMap jD):=by
   rw[e,UC,jD,WO,bw]
  rw[e2,TG]at hS
  obtain⟨s1,s2⟩:=hS.app
  rw[bb]at s2
  have q:=jc (show(V.getD j mb).toNat<2^3 from Nat.lt_succ_of_le (hV j)) s1
  exact⟨q.1,q.2,s2⟩
 induction i with
 |zero=>
  intro _
  refine⟨rfl,fun h0=>?_,by rw[U4];exact h⟩
  exact(val 0 h0 (by rw[U4];exact h)).1
 |succ i ih=>
  intro hi
  obtain⟨h1,h2,h3⟩:=ih (by omega)
  obtain⟨v1,v2,v3⟩:=val i (by omega) h3
  have e:cK b ⟨p,0⟩ (i+1)=⟨p+3*(i+1),0⟩:=by rw[cK,h1];exact v2
  exact⟨e,fun q=>by rw[e];exact(val (i+1) q v3).1,v3⟩
theorem En:∀i,i<19→∀j,j<19→cz i=cz j→i=j:=by decide
theorem Eo:∀i,i<19→cz i<19:=by decide
theorem Jo:∀j,j<19→∃i,i<19∧cz i=j:=by decide
theorem Jp:∀i,i<19→pu.getD i mb=cz i:=by decide
theorem Bi {s:Rs}:∀k,k≤19→∀i,i<19→(gW b s k).getD (cz i) mb=if i<k then Um (aV b 3 (cK b s i))else 0
 |0,_,i,hi=>by
  rw[gW,if_neg (UR _),To,UT];split<;>rfl
 |k+1,hk,i,hi=>by
  have ih:=Bi (s:=s) k (by omega) i hi
  rw[gW,To,U3,eE]
  by_cases e:i=k
  ·subst e;rw[if_pos rfl,if_pos (Eo i hi),if_pos (by omega)];rfl
  ·rw[if_neg (fun q=>e (En k (by omega) i hi q).symm),←To,ih]
   by_cases q:i<k
   ·rw[if_pos q,if_pos (by omega)]
   ·rw[if_neg q,if_neg (by omega)]
theorem Jq (C:List UInt8){i:Nat}(h:i<19):(kL C 19).getD i mb=C.getD (cz i) mb:=by
 rw[←Jp i h,mG,To,TN,Un,if_pos h,Ts (show i<pu.length from h),To (l:=pu),Ts (show i<pu.length from h)];rfl
theorem QK {C V:List UInt8}{Y:List Bool}(hC:C.length=19)(hV:V=vn (kL C 19) 4)(h7:∀i,(V.getD i mb).toNat≤7)(hn:V.length≤19)(h:St b p (bs (V.flatMap jD)++Y)):gW b ⟨p,0⟩ V.length=C∧cK b ⟨p,0⟩ V.length=⟨p+3*V.length,0⟩:=by
 have R:=Mt h7 h
 refine⟨?_,(R V.length (TD _)).1⟩
 apply Uu
 intro j
 rcases T5 j 19 with hj|hj
 ·obtain⟨i,hi,rfl⟩:=Jo j hj
  have a:=Bi (b:=b) (s:=⟨p,0⟩) V.length hn i hi
  have e:V.getD i mb=C.getD (cz i) mb:=by rw[hV,pt,Jq C hi]
  have z:(gW b ⟨p,0⟩ V.length).getD (cz i) mb=C.getD (cz i) mb:=by
   rw[a]
   by_cases q:i<V.length
   ·rw[if_pos q,(R i (by omega)).2.1 q,tL,e]
   ·rw[if_neg q,←e,jX (by omega)]
  rw[To,To,Ts (by rw[eE];exact hj),Ts (by omega)]at z
  rw[Ts (by rw[eE];exact hj),Ts (by omega)]
  exact congrArg some z
 ·rw[TY (by rw[eE];exact hj),TY (by omega)]
theorem Gu {t X:List UInt8}{N:Nat}{Y:List Bool}:∀{R:List Rn} {o:List UInt8} {k p:Nat} {r:List Rn},ck N R o=(X,0)→(∀x∈R,AI x∧CdO t x.s)→(0<o.length→0<r.length)→N-o.length≤k→St b p (bs (R.flatMap (lJ (ae t)))++Y)→lnZF b t N k ⟨p,0⟩ o.length r=(⟨p+(bs (R.flatMap (lJ (ae t)))).length,0⟩,r++R)
 |[],o,k,p,r,hs,_,_,_,_=>by
  have e:o.length=N:=by
   rw[ck]at hs
   split at hs
   ·assumption
   ·cases hs
  rw[nz (.inl (by omega)),Ue];rfl
 |x::R,o,k,p,r,hs,hR,hr,hk,h=>by
  obtain⟨⟨x1,x2⟩,xc⟩:=hR x TP
  have cZ:¬(x.s=16∧o.length=0):=fun q=>by
   rw[ck,if_neg (by omega),if_pos q]at hs;cases hs
  have cN:¬N<o.length+bf x:=fun q=>by
   rw[ck,if_neg (by omega),if_neg cZ,if_pos q]at hs;cases hs
  rw[ck,if_neg (by omega),if_neg cZ,if_neg cN]at hs
  have hp:=rl x
  obtain⟨j,rfl⟩:∃j,k=j+1:=⟨k-1,by omega⟩
  rw[UC,b6,TG]at h
  obtain⟨q1,q2,q3⟩:=tW xc h
  obtain⟨n1,n2⟩:=q3.app
  rw[bb]at n2
  have v:=jc x2 n1
  have eX:gj b t ⟨p,0⟩=x:=by
   unfold gj;rw[q1,q2]
   have:=v.1
   rw[this]
  have eC:m6 b t N ⟨p,0⟩ o.length r.length=⟨p+(t.getD x.s mb).toNat+rb x.s,0⟩:=by
   unfold m6
   rw[eX,q1,q2]
   have e:AV N o.length r.length x=true:=by
    unfold AV
    rw[Tw]
    refine⟨decide_eq_true (by omega),?_⟩
    by_cases z:x.s=16
    ·have:=hr (by have:o.length≠0:=fun e=>cZ ⟨z,e⟩;omega)
     rw[VF];exact .inr (decide_eq_true (by omega))
    ·rw[VF];exact .inl (decide_eq_true z)
   rw[e,gF]
   exact v.2
  have ol:(o++TK (bf x) (aO x o)).length=o.length+bf x:=by rw[Tt,T4]
  have ih:=Gu (p:=p+(t.getD x.s mb).toNat+rb x.s) (k:=j) (r:=r++[x]) hs (fun y hy=>hR y (TU _ hy)) (fun _=>by rw[Tt];simp) (by rw[ol];omega) n2
  rw[ol]at ih
  rw[lnZF,if_neg (by show¬(N≤o.length∨(0:Nat)≠0);omega),eX,eC,ih,UC,b6,Tt]
  have cl:(bs (lJ (ae t) x)).length=(t.getD x.s mb).toNat+rb x.s:=oe xc
  rw[cl,TG]
  refine congrArg (fun z=>(Rs.mk z 0,_)) ?_
  omega
end
theorem pW {N:Nat}{X:List UInt8}{s0:Nat}{v:UInt8}(h16:s0≠16)(hv:v=if s0<16 then Um s0 else 0):∀{R:List Rn} {o:List UInt8},ck N R o=(X,0)→(∀x∈R,x.s=s0)→(∀y∈o,y=v)→∀y∈X,y=v
 |[],o,h,_,ho=>by
  rw[ck]at h
  split at h
  ·cases h;exact ho
  ·cases h
 |x::R,o,h,hR,ho=>by
  rw[ck]at h
  split at h
  ·cases h
  ·split at h
   ·cases h
   ·split at h
    ·cases h
    ·refine pW h16 hv h (fun y hy=>hR y (TU _ hy)) fun y hy=>?_
     rcases List.mem_append.1 hy with q|q
     ·exact ho y q
     ·have e:=List.eq_of_mem_replicate q
      have xs:=hR x TP
      rw[e,hv];unfold aO;rw[xs,if_neg h16]
theorem tX {v:UInt8}(hv:v.toNat≠0):∀{l:List UInt8},(∀y∈l,y=v)→aU l=l.length*2^(15-v.toNat)∧bc l=l.length
 |[],_=>⟨by rw[Vj,Vd];rfl,rfl⟩
 |x::l,h=>by
  have ih:=tX hv (l:=l) fun y hy=>h y (TU _ hy)
  have e:=h x TP
  subst e
  rw[aU,bc,if_neg hv,if_neg hv,ih.1,ih.2,T3,XE]
  exact⟨Xf _ _,Xf _ _⟩
theorem Ep {l:List UInt8}{i j:Nat}(hij:i≠j)(ho:dh l 15=false)(hi:(l.getD i mb).toNat≠0)(hj:(l.getD j mb).toNat≠0):2≤(ab l).length:=by
 have li:=jd hi
 have lj:=jd hj
 rw[dz,kD]
 have m:∀k,k<l.length→(l.getD k mb).toNat≠0→k∈(Uv l.length).filter fun i=>decide (0<(l.getD i mb).toNat∧(l.getD i mb).toNat<16):=fun k hk h0=>
  List.mem_filter.2 ⟨List.mem_range.2 hk,decide_eq_true ⟨by omega,by have:=dN ho hk;omega⟩⟩
 have m1:=m i li hi
 have m2:=m j lj hj
 generalize(Uv l.length).filter (fun i=>decide (0<(l.getD i mb).toNat∧(l.getD i mb).toNat<16))=L at m1 m2
 match L,m1,m2 with
 |[a],m1,m2=>exact absurd ((List.mem_singleton.1 m1).trans (List.mem_singleton.1 m2).symm) hij
 |_::_::_,_,_=>exact Vy (Vy (T7 _))
end Vp
end Go.Proofs.Ytefjnofhgkjpmaa
namespace Go.Proofs.Ytefjnofhgkjpmaa
open Go.RowKit Go.Bw Go.Vx
namespace Vp
theorem Jr {l:List UInt8}(h:aC l 15=0):aU l=32768∨bc l=0∨bc l=1∧aU l=16384:=by
 rw[iI]at h;unfold sa at h
 split at h
 ·cases h
 ·split at h
  ·cases h
  ·split at h
   ·cases h
   ·split at h
    ·assumption
    ·cases h
structure DyX (l:List Tn):Prop where
 n1:257≤(dc l).length∧(dc l).length≤286
 n2:1≤(eV l).length∧(eV l).length≤30
 n3:4≤(mM l).length∧(mM l).length≤19
 x:∀i,i<(dc l++eV l).length→((dc l++eV l).getD i mb).toNat≤15
 st:ck (dc l++eV l).length (lV l) []=(dc l++eV l,0)
 rn:∀r∈lV l,AI r
 cC:aC (iW l) 7=0
 lC:(iW l).length=19
 cd:∀r∈lV l,CdO (iW l) r.s
 o7:∀i,((mM l).getD i mb).toNat≤7
theorem QL {l:List Tn}(hk:l.length≤65535):DyX l:=by
 have G:=Ak l hk
 have F:=G.f
 have hx:∀i,i<(dc l++eV l).length→((dc l++eV l).getD i mb).toNat≤15:=fun i _=>by
  rw[To]
  rcases T5 i (dc l).length with q|q
  ·rw[TQ q,←To];exact pP G.cL i
  ·rw[TO q,←To];exact pP G.cB _
 have so:=IN rfl hx
 rw[←AE,iJ]at so
 have c15:aC (iW l) 15=0:=(iL (by decide) F.cC).1
 refine⟨by rw[G.lL];exact F.k1,by rw[G.lB];exact F.k2,by rw[G.lO];exact F.k3,hx,so.1,so.2,F.cC,F.lC,fun r hr=>?_,fun i=>?_⟩
 ·have m:r.s∈(lV l).map Rn.s:=W8 hr
  have p:=jE (bx 19 ((lV l).map Rn.s)) (by rw[F.lW3];decide) 7 (by decide) (by rw[F.lW3];exact F.iW3) (og (by have:=(so.2 r hr).1;omega) m)
  rw[←AF]at p
  exact tV c15 F.oC (jd p) (by omega)
 ·rw[n0,pt];exact F.bO i
theorem Js {n v:Nat}(h:n*2^(15-v)=32768)(hv:v≤15):n=2^v:=by
 have e:(32768:Nat)=2^v*2^(15-v):=by rw[←Xq,show v+(15-v)=15 from by omega]
 rw[e]at h
 exact Nat.eq_of_mul_eq_mul_right (UY _) h
theorem Jt {l:List Tn}(hk:l.length≤65535):2≤(ab (iW l)).length:=by
 have D:=QL hk
 have G:=Ak l hk
 have E:=vS hk
 rcases T5 (ab (iW l)).length 2 with hlt|hge
 ·exfalso
  have cR:∀x∈lV l,∀y∈lV l,x.s=y.s:=fun x hx y hy=>by
   by_cases q:x.s=y.s
   ·exact q
   ·exfalso
    have cx:=D.cd x hx
    have cy:=D.cd y hy
    have:=Ep q cx.o (by have:=cx.p;omega) (by have:=cy.p;omega)
    omega
  have st:=D.st
  have rn:=D.rn
  have n1:=D.n1
  have xl:(dc l++eV l).length=(dc l).length+(eV l).length:=Tt
  cases hR:lV l with
  |nil=>
   rw[hR,ck]at st
   split at st
   ·next q=>simp only[Vj]at q;omega
   ·exact absurd (congrArg Tm st) (by decide:¬(100:Nat)=0)
  |cons x0 R=>
   rw[hR]at st cR rn
   have h16:x0.s≠16:=fun q=>by
    have r0:=rn x0 TP
    obtain⟨r1,r2⟩:=r0
    rw[ck,if_neg (by omega),if_pos ⟨q,rfl⟩]at st
    exact absurd (congrArg Tm st) (by decide:¬(100:Nat)=0)
   have hc:=pW (s0:=x0.s) h16 rfl st (fun x hx=>cR x hx x0 TP) (fun y hy=>by cases hy)
   generalize(if x0.s<16 then Um x0.s else 0)=v at hc
   have e256:(dc l).getD 256 mb=v:=by
    refine hc _ (U2 _ ?_)
    rw[To,Ts E.i]
    exact Uo E.i
   have hv:v.toNat≠0:=by have:=E.p;rw[e256]at this;omega
   have kc:=tX hv (l:=dc l) fun y hy=>hc y (U2 _ hy)
   have v15:v.toNat≤15:=by rw[←e256];exact pP G.cL 256
   rcases Jr G.cL with h|h|h
   ·rw[kc.1]at h
    have:=Js h v15
    rcases T5 v.toNat 9 with z|z
    ·have:2^v.toNat≤2^8:=TX (by decide) (by omega)
     omega
    ·have:2^9≤2^v.toNat:=TX (by decide) z
     omega
   ·rw[kc.2]at h;omega
   ·rw[kc.2]at h;omega
 ·exact hge
section
variable {b:List UInt8} {p:Nat}
theorem Mu:(((0:Nat):Int)==0)=true:=rfl
def Ju (l:List Tn):List Nm:=[⟨(dc l).length-257,5⟩,⟨(eV l).length-1,5⟩,⟨(mM l).length-4,4⟩]++(mM l).flatMap jD++(lV l).flatMap (lJ (ae (iW l)))
theorem xj (e:Nat)(l:List Tn):tG e l=jW e 2++Ju l:=by
 rw[rf,kH,kH,T9 (TD _),T9 (TD _),Ju,TG,TG,TG]
theorem xk (V:List UInt8):(bs (V.flatMap jD)).length=3*V.length:=by
 induction V with
 |nil=>rfl
 |cons x V ih=>rw[UC,jD,WO,bw,Tt,bb,ih,T3];show 3+3*V.length=_;omega
theorem Jv {l:List Tn}(hk:l.length≤65535){Y:List Bool}(h:St b p (bs (Ju l)++Y)):zt b ⟨p,0⟩=(⟨p+(bs (Ju l)).length,0⟩,dc l,eV l):=by
 have D:=QL hk
 have G:=Ak l hk
 have E:=vS hk
 have T:=Jt hk
 have n1:=D.n1
 have n2:=D.n2
 have n3:=D.n3
 have eP:bs (Ju l)=nb ((dc l).length-257) 5++(nb ((eV l).length-1) 5++(nb ((mM l).length-4) 4++(bs ((mM l).flatMap jD)++bs ((lV l).flatMap (lJ (ae (iW l))))))):=by
  rw[Ju,b6,b6,bw,bw,bw,gE,Ue,TG,TG,TG]
 have lP:(bs (Ju l)).length=14+3*(mM l).length+(bs ((lV l).flatMap (lJ (ae (iW l))))).length:=by
  rw[eP,Tt,Tt,Tt,Tt,bb,bb,bb,xk];omega
 rw[lP]
 rw[eP,TG,TG,TG,TG]at h
 obtain⟨a1,a2⟩:=h.app
 rw[bb]at a2
 obtain⟨b1,b2⟩:=a2.app
 rw[bb]at b2
 obtain⟨c1,c2⟩:=b2.app
 rw[bb]at c2
 have g1:=jc (show(dc l).length-257<2^5 by omega) a1
 have g2:=jc (show(eV l).length-1<2^5 by omega) b1
 have g3:=jc (show(mM l).length-4<2^4 by omega) c1
 have w:=QK D.lC (n0 l) D.o7 n3.2 c2
 have c3:=c2.app.2
 rw[xk]at c3
 have xl:(dc l++eV l).length=(dc l).length+(eV l).length:=Tt
 have ln:=Gu (t:=iW l) (X:=dc l++eV l) (N:=(dc l++eV l).length) (o:=[]) (k:=(dc l++eV l).length) (r:=[]) D.st (fun x hx=>⟨D.rn x hx,D.cd x hx⟩) (fun q=>absurd q (V1 0)) (YZ _ _) c3
 have so:cq (dc l++eV l).length (lV l)=(dc l++eV l,0):=by rw[iJ];exact D.st
 have eN:(dc l).length-257+257+((eV l).length-1+1)=(dc l++eV l).length:=by omega
 have eO:DW b (iW l) (dc l++eV l).length ⟨p+5+5+4+3*(mM l).length,0⟩=dc l++eV l:=by
  unfold DW;rw[n9,show lnZF b (iW l) (dc l++eV l).length (dc l++eV l).length ⟨p+5+5+4+3*(mM l).length,0⟩ 0 []=_ from ln,VV,so]
 have eS:vQ b (iW l) (dc l++eV l).length ⟨p+5+5+4+3*(mM l).length,0⟩=⟨p+5+5+4+3*(mM l).length+(bs ((lV l).flatMap (lJ (ae (iW l))))).length,0⟩:=by
  unfold vQ;rw[n9,show lnZF b (iW l) (dc l++eV l).length (dc l++eV l).length ⟨p+5+5+4+3*(mM l).length,0⟩ 0 []=_ from ln,VV,so]
  exact gF
 have t1:(decide ((dc l).length-257+257≤286)&&decide ((eV l).length-1+1≤30))=true:=by
  rw[Tw];exact⟨decide_eq_true (by omega),decide_eq_true (by omega)⟩
 have t2:decide ((1:Int)<(((ab (iW l)).length:Nat):Int))=true:=decide_eq_true (by omega)
 have t3:decide ((0:Int)<((((dc l++eV l).getD 256 mb).toNat:Nat):Int))=true:=by
  have e:(dc l++eV l).getD 256 mb=(dc l).getD 256 mb:=by
   rw[To,TQ E.i,←To]
  rw[e];have:=E.p;exact decide_eq_true (by omega)
 have l1:((dc l++eV l).drop 0).take ((dc l).length-257+257)=dc l:=by
  rw[U4,show(dc l).length-257+257=(dc l).length from by omega,List.take_left]
 have l2:((dc l++eV l).drop ((dc l).length-257+257)).take ((dc l++eV l).length-((dc l).length-257+257))=eV l:=by
  rw[show(dc l).length-257+257=(dc l).length from by omega,Ws,xl,Vz,Uy]
 have e4:(mM l).length-4+4=(mM l).length:=by omega
 unfold zt
 dsimp only
 rw[g1.1,g1.2,g2.1,g2.2,g3.1,g3.2,t1,gF,e4,w.1,w.2,D.cC,Mu,gF,kR D.cC,t2,gF,eN,eO,eS,t3,gF,l1,l2,G.cL,G.cB,Mu,gF,gF,gF,kR G.cL,kR G.cB,if_neg (by exact fun q=>q rfl)]
 refine congrArg (fun z=>(Rs.mk z 0,_)) ?_
 omega
theorem Bj {e k:Nat}(he:e≤1)(hk:k≤2){Y:List Bool}(h:St b p (bs (jW e k)++Y)):aV b 1 ⟨p,0⟩=e∧bp b 1 ⟨p,0⟩=⟨p+1,0⟩∧aV b 2 ⟨p+1,0⟩=k∧bp b 2 ⟨p+1,0⟩=⟨p+3,0⟩∧St b (p+3) Y:=by
 rw[jW,bw,bw,gE,Ue,TG]at h
 obtain⟨a1,a2⟩:=h.app
 rw[bb]at a2
 obtain⟨b1,b2⟩:=a2.app
 rw[bb]at b2
 have g1:=jc (show e<2^1 by omega) a1
 have g2:=jc (show k<2^2 by omega) b1
 exact⟨g1.1,g1.2,g2.1,g2.2,b2⟩
theorem Mv {e:Nat}(he:e≤1){l:List Tn}(hk:l.length≤65535){Y:List Bool}(h:St b p (bs (tG e l)++Y)):gv b ⟨p,0⟩=⟨⟨p+(bs (tG e l)).length,0⟩,2,((e:Nat):Int)==1,0,dc l,eV l⟩:=by
 rw[xj,b6,TG]at h
 obtain⟨h1,h2,h3,h4,h5⟩:=Bj he (by decide) h
 have d:=Jv hk h5
 have t:decide (((2:Nat):Int)≤2)=true:=rfl
 rw[jb]
 unfold DD
 dsimp only
 rw[h1,h2,h3,h4,t,gF,d,if_neg (by exact fun q=>q rfl),if_neg (by decide),if_neg (by decide),xj,b6,Tt]
 have hl:(bs (jW e 2)).length=3:=by rw[jW,bw,bw,gE,Ue,Tt,bb,bb];rfl
 rw[hl,UF]
theorem Mw {e:Nat}(he:e≤1){Y:List Bool}(h:St b p (bs (jW e 1)++Y)):gv b ⟨p,0⟩=⟨⟨p+3,0⟩,1,((e:Nat):Int)==1,0,bz,cU⟩:=by
 obtain⟨h1,h2,h3,h4,h5⟩:=Bj he (by decide) h
 have t:decide (((1:Nat):Int)≤2)=true:=rfl
 rw[jb]
 unfold DD
 dsimp only
 rw[h1,h2,h3,h4,t,gF,if_neg (by exact fun q=>q rfl),if_neg (by decide),if_pos rfl]
theorem Mx {e:Nat}(he:e≤1){raw:List UInt8}(hr:raw.length≤65535){Y:List Bool}(h:St b p (bs (nL e (p%8) raw)++Y)):gv b ⟨p,0⟩=⟨⟨p+35+hU (p%8),0⟩,0,((e:Nat):Int)==1,raw.length,[],[]⟩∧St b (p+35+hU (p%8)) (bs (raw.map u7)++Y):=by
 have eS:nL e (p%8) raw=jW e 0++([⟨0,hU (p%8)⟩,⟨raw.length,16⟩,⟨65535-raw.length,16⟩]++raw.map u7):=by
  unfold nL;rw[iM,T9 (TD _)];rfl
 rw[eS,b6,TG]at h
 obtain⟨h1,h2,h3,h4,h5⟩:=Bj he (by decide) h
 rw[b6,bw,bw,bw,gE,Ue,TG,TG,TG]at h5
 have h6:St b (p+3+hU (p%8)) (nb raw.length 16++(nb (65535-raw.length) 16++(bs (raw.map u7)++Y))):=by have q:=h5.app.2;rw[bb]at q;exact q
 obtain⟨a1,a2⟩:=h6.app
 rw[bb]at a2
 obtain⟨b1,b2⟩:=a2.app
 rw[bb]at b2
 have g1:=jc (show raw.length<2^16 by omega) a1
 have g2:=jc (show 65535-raw.length<2^16 by omega) b1
 have pe:=nK (p%8)
 have e8:(p+3+7)/8*8=p+3+hU (p%8):=by omega
 have t:decide (((0:Nat):Int)≤2)=true:=rfl
 have t2:((raw.length:Int)+((65535-raw.length:Nat):Int)==65535)=true:=by
  rw[beq_iff_eq];omega
 constructor
 ·rw[jb]
  unfold DD
  dsimp only
  rw[h1,h2,h3,h4,t,gF,if_neg (by exact fun q=>q rfl),if_pos rfl]
  show Hd.mk _ _ _ _ _ _=_
  dsimp only
  rw[e8,g1.1,g1.2,g2.1,g2.2,t2,gF]
  refine congrArg (fun z=>Hd.mk (Rs.mk z 0) _ _ _ _ _) ?_
  omega
 ·rw[show p+35+hU (p%8)=p+3+hU (p%8)+16+16 from by omega];exact b2
end
end Vp
end Go.Proofs.Ytefjnofhgkjpmaa
namespace Go.Proofs.Ytefjnofhgkjpmaa
open Go.RowKit Go.Bw Go.Vx
open List (length getD map take drop flatMap replicate)
namespace Vp
theorem Bk {p:Prop}(h:p:=by((refine aJ ?_ ?_)<;>(repeat' (first|(refine aJ ?_ ?_)|(with_reducible rfl)|(refine decide_eq_true ?_)|(refine Tv ?_)|(refine fx ?_)))<;>(omega))):p:=h
theorem Es {p:Prop}(h:p:=by(refine aT ?_;(omega))):p:=h
theorem My {p:Prop}(h:p:=by exact(Ut (D.sim.slw rfl (cn (by(simp <;>(omega)))|>.trans rfl)) (qr trivial))):p:=h
def vT (f:Nat→Int):List D:=[iD (f 0),iD (f 1),iD (f 2),iD (f 3),iD (f 4),iD (f 5),iD (f 6),iD (f 7),iD (f 8),iD (f 9),iD (f 10),iD (f 11),iD (f 12),iD (f 13),iD (f 14),iD (f 15)]
theorem Jw (f:Nat→Int)(r:List D)(n:Nat)(h:n<16):(vT f++r)[n]? =some (iD (f n)):=by
 match n,h with
 |0,_=>rfl|1,_=>rfl|2,_=>rfl|3,_=>rfl|4,_=>rfl|5,_=>rfl|6,_=>rfl|7,_=>rfl
 |8,_=>rfl|9,_=>rfl|10,_=>rfl|11,_=>rfl|12,_=>rfl|13,_=>rfl|14,_=>rfl|15,_=>rfl
 |n+16,h=>exact absurd h (by omega)
theorem Et (f:Nat→Int)(n:Nat)(h:n<16):(vT f)[n*1]? =some (iD (f n)):=by
 have:=Jw f [] n h
 rw[TZ];rwa [Ue]at this
def Ll (f:Nat→Int)(m:Nat)(ys:List Int):List D:=vT f++[.sl false m 1 (ys.map iD)]
abbrev Gw (f:Nat→Int)(m:Nat)(ys:List Int):D:=.agg (Ll f m ys)
theorem Mz {f g:Nat→Int}(h:((f 0==g 0)&&((f 1==g 1)&&((f 2==g 2)&&((f 3==g 3)&&((f 4==g 4)&&((f 5==g 5)&&((f 6==g 6)&&((f 7==g 7)&&((f 8==g 8)&&((f 9==g 9)&&((f 10==g 10)&&((f 11==g 11)&&((f 12==g 12)&&((f 13==g 13)&&((f 14==g 14)&&((f 15==g 15)&&true))))))))))))))))=true):∀i,i<16→f i=g i:=by
 simp only[Tw,beq_iff_eq,and_true]at h
 obtain⟨h0,h1,h2,h3,h4,h5,h6,h7,h8,h9,h10,h11,h12,h13,h14,h15⟩:=h
 intro i hi
 match i,hi with
 |0,_=>exact h0|1,_=>exact h1|2,_=>exact h2|3,_=>exact h3|4,_=>exact h4|5,_=>exact h5|6,_=>exact h6|7,_=>exact h7
 |8,_=>exact h8|9,_=>exact h9|10,_=>exact h10|11,_=>exact h11|12,_=>exact h12|13,_=>exact h13|14,_=>exact h14|15,_=>exact h15
 |n+16,h=>exact absurd h (by omega)
theorem MA {ys zs:List Int}{i q:Nat}(hq:q=ys.length)(hp:q=zs.length)(hi:¬i<q)(h:∀j,j<i→ys.getD j mb=zs.getD j mb):ys=zs:=by
 apply Uu
 intro j
 rcases T5 j q with z|z
 ·have:=h j (by omega)
  rw[To,To,Ts (by omega),Ts (by omega)]at this
  rw[Ts (by omega),Ts (by omega)]
  exact congrArg some this
 ·rw[TY (by omega),TY (by omega)]
theorem MB {ys zs:List Int}{i:Nat}(h:∀j,j<i→ys.getD j mb=zs.getD j mb)(h2:ys.getD i mb=zs.getD i mb):∀j,j<i+1→ys.getD j mb=zs.getD j mb:=fun j hj=>by
 rcases T5 j i with z|z
 ·exact h j z
 ·rw[show j=i from by omega];exact h2
theorem Jx (f g:Nat→Int)(ys zs:List Int)(q p:Nat)(hq:q=ys.length)(hp:p=zs.length)(hQ:q≤1000000)(hP:p≤1000000)(hne:¬((∀i,i<16→f i=g i)∧ys=zs)):S0 35 [Gw f q ys,Gw g p zs] [] (bD false) []:=by
 refine SpecH.run T_ok ai Try.func35 rfl rfl rfl trivial rfl 1000 64 (fun R ok=>(.s 23 (.br (f 0==g 0&&(f 1==g 1&&(f 2==g 2&&(f 3==g 3&&(f 4==g 4&&(f 5==g 5&&(f 6==g 6&&(f 7==g 7&&(f 8==g 8&&(f 9==g 9&&(f 10==g 10&&(f 11==g 11&&(f 12==g 12&&(f 13==g 13&&(f 14==g 14&&(f 15==g 15&&true)))))))))))))))) (fun p0=>have p0f:=eq_of_beq (bl p0);have p0f1:=eq_of_beq (bl (ac p0));have p0f2:=eq_of_beq (bl (ac (ac p0)));have p0f3:=eq_of_beq (bl (ac (ac (ac p0))));have p0f4:=eq_of_beq (bl (ac (ac (ac (ac p0)))));have p0f5:=eq_of_beq (bl (ac (ac (ac (ac (ac p0))))));have p0f6:=eq_of_beq (bl (ac (ac (ac (ac (ac (ac p0)))))));have p0f7:=eq_of_beq (bl (ac (ac (ac (ac (ac (ac (ac p0))))))));have p0f8:=eq_of_beq (bl (ac (ac (ac (ac (ac (ac (ac (ac p0)))))))));have p0f9:=eq_of_beq (bl (ac (ac (ac (ac (ac (ac (ac (ac (ac p0))))))))));have p0f10:=eq_of_beq (bl (ac (ac (ac (ac (ac (ac (ac (ac (ac (ac p0)))))))))));have p0f11:=eq_of_beq (bl (ac (ac (ac (ac (ac (ac (ac (ac (ac (ac (ac p0))))))))))));have p0f12:=eq_of_beq (bl (ac (ac (ac (ac (ac (ac (ac (ac (ac (ac (ac (ac p0)))))))))))));have p0f13:=eq_of_beq (bl (ac (ac (ac (ac (ac (ac (ac (ac (ac (ac (ac (ac (ac p0))))))))))))));have p0f14:=eq_of_beq (bl (ac (ac (ac (ac (ac (ac (ac (ac (ac (ac (ac (ac (ac (ac p0)))))))))))))));have p0f15:=eq_of_beq (bl (ac (ac (ac (ac (ac (ac (ac (ac (ac (ac (ac (ac (ac (ac (ac p0))))))))))))))));(.s 24 (.br ((q:Int) !=(p:Int)) (fun p1=>have p1f:=bE p1;(.s 3 (.out [] [] (D.v (.bool false)) [] R (ok _ _ wr wr)))) (fun p1=>have p1f:=bF p1;(.s 3 (Hn.inl T_ok ai false 26 112 (ap Try.prog 57 0) (fun(x:(i:Nat)×'(hi:i≤q)×'(he:∀j,j<i→ys.getD j mb=zs.getD j mb)×'Unit)=>match x with|⟨i,hi,he,_⟩=>TJ [(0,TL false q 1 (map iD ys)),(1,TL false p 1 (map iD zs)),(12,zN q),(13,nD i)] [⟨0,0,0,0,.b ⟨[zI (f 0),zI (f 1),zI (f 2),zI (f 3),zI (f 4),zI (f 5),zI (f 6),zI (f 7),zI (f 8),zI (f 9),zI (f 10),zI (f 11),zI (f 12),zI (f 13),zI (f 14),zI (f 15),TL false q 1 (map iD ys)],43,false⟩⟩,⟨8,8,8,8,.b ⟨[zI (g 0),zI (g 1),zI (g 2),zI (g 3),zI (g 4),zI (g 5),zI (g 6),zI (g 7),zI (g 8),zI (g 9),zI (g 10),zI (g 11),zI (g 12),zI (g 13),zI (g 14),zI (g 15),TL false p 1 (map iD zs)],43,false⟩⟩] 128) (fun(x:(i:Nat)×'(hi:i≤q)×'(he:∀j,j<i→ys.getD j mb=zs.getD j mb)×'Unit)=>match x with|⟨i,hi,he,_⟩=>q-i) [⟨Unit,.ret,fun x=>match x with|()=>TJ [(4,bD false)] [⟨0,0,0,0,.b ⟨[zI (f 0),zI (f 1),zI (f 2),zI (f 3),zI (f 4),zI (f 5),zI (f 6),zI (f 7),zI (f 8),zI (f 9),zI (f 10),zI (f 11),zI (f 12),zI (f 13),zI (f 14),zI (f 15),TL false q 1 (map iD ys)],43,false⟩⟩,⟨8,8,8,8,.b ⟨[zI (g 0),zI (g 1),zI (g 2),zI (g 3),zI (g 4),zI (g 5),zI (g 6),zI (g 7),zI (g 8),zI (g 9),zI (g 10),zI (g 11),zI (g 12),zI (g 13),zI (g 14),zI (g 15),TL false p 1 (map iD zs)],43,false⟩⟩] 128⟩] 1000 64 (fun|⟨i,hi,he,_⟩,Q,next1,last1=>(.s 2 (.bd ((i:Int)<q) (fun p2 p2f=>(.s 6 (.chk (true&&decide ((i:Int)<q)&&true) Bk (.s 2 (.opt ((map iD ys)[i*1]?) (iD (getD ys (i*1) mb)) (aq _ _ om) (.s 3 (.chk (true&&decide ((i:Int)<p)&&true) Bk (.s 2 (.opt ((map iD zs)[i*1]?) (iD (getD zs (i*1) mb)) (aq _ _ om) (.s 2 (.br (getD ys (i*1) mb !=getD zs (i*1) mb) (fun p3=>have p3f:=bE p3;(.s 1 (Hn.last last1 0 (():Unit) rfl [(0,0),(8,8)] ro))) (fun p3=>have p3f:=bF p3;(.s 2 (.ow ((i:Int)+1) (.s 1 (.val 13 (zI ((i:Int)+1)) (zN (i+1)) Es (Hn.next next1 ⟨(i+1),om,(by(refine MB aD ?_;rw[TZ]at *;(omega))),⟨⟩⟩ (by show q-(i+1)<q-i;clear next1 last1;omega) [(0,0),(8,8)] ro))))))))))))))))) (fun p2 p2f=>(.abs (by(exact hne ⟨Mz aD,MA (i:=i) hq om om aD⟩))))))) (fun|⟨i,hi,he,_⟩=>by kernel_rfl) ⟨(0),om,om,⟨⟩⟩ [(0,0),(8,8)] ro (bY (fun|()=>(.s 2 (.out [] [] (D.v (.bool false)) [] R (ok _ _ wr wr))))))))))) (fun p0=>(.s 10 (.out [] [] (D.v (.bool false)) [] R (ok _ _ wr wr))))))) kr
theorem Eu (L:List UInt8)(q:Nat)(hq:q=(ab L).length)(f:Nat→Int)(ys:List Int)(p:Nat)(hp:p=ys.length)(hQ:L.length≤1000000)(hP:p≤1000000)(hne:¬((∀i,i<16→f i=(aa L i:Int))∧ys=(ab L).map (fun(n:Nat)=>(n:Int)))):S0 35 [oY q L,Gw f p ys] [] (bD false) []:=by
 have hQ2:=bq L
 have h:=Jx (fun i=>(aa L i:Int)) f ((ab L).map (fun(n:Nat)=>(n:Int))) ys q p (by rw[TH];exact hq) hp (by omega) hP (fun h=>hne ⟨fun i hi=>(h.1 i hi).symm,h.2.symm⟩)
 unfold Gw Ll at h
 rw[Xg]at h
 exact h
theorem MC {M:List UInt8}{o a:Nat}{d:D}(ha:a<256)(ho:o<M.length)(hd:d=dG a):aj (M.map dB) o [d]=(M.set o (Um a)).map dB:=by
 apply Uu
 intro i
 rw[ci (by simp only[TH,Ud];omega),TN,TN,U3]
 simp only[Ud]
 by_cases hi:o=i
 ·subst hi
  rw[if_pos (by omega),if_pos rfl,if_pos ho,UJ,hd]
  show some (D.v (.int .u8 (a:Int)))=some (dB (Um a))
  unfold dB;rw[U6];congr 3;omega
 ·rw[if_neg (by omega),if_neg hi]
theorem MD (f:Nat→Int)(ys:List Int)(q:Nat)(hq:q=ys.length)(hQ:q≤100000)(hN:∀l:List UInt8,l.length=320→aC l 15=0→¬((∀i,i<16→f i=(aa l i:Int))∧ys=(ab l).map (fun(n:Nat)=>(n:Int)))):S0 36 [Gw f q ys] [] (iD 8) []:=by
 refine SpecH.run T_ok ai Try.func36 rfl rfl rfl trivial rfl 1000 64 (fun R ok=>(.s 12 (.bd (320<(q:Int)) (fun p0 p0f=>(.s 1 (.out [] [] (zI 8) [] R (ok _ _ wr wr)))) (fun p0 p0f=>(.s 18 (Hn.inl T_ok ai false 91 0 (ap Try.prog 36 0) (fun(x:(a:Nat)×'(ha:a≤16)×'(L:List UInt8)×'(hL:L.length=320)×'(R:List Int)×'(r:Nat)×'(hr:r=R.length)×'(hr2:r≤q)×'Unit)=>match x with|⟨a,ha,L,hL,R,r,hr,hr2,_⟩=>TJ [(1,TF 0 0 0),(3,Tu 8 8 0 320 1),(4,.sl false r 1 (R.map iD)),(19,UA [zI (f 0),zI (f 1),zI (f 2),zI (f 3),zI (f 4),zI (f 5),zI (f 6),zI (f 7),zI (f 8),zI (f 9),zI (f 10),zI (f 11),zI (f 12),zI (f 13),zI (f 14),zI (f 15)]),(20,nD a)] [⟨0,0,0,0,.b ⟨[zI (f 0),zI (f 1),zI (f 2),zI (f 3),zI (f 4),zI (f 5),zI (f 6),zI (f 7),zI (f 8),zI (f 9),zI (f 10),zI (f 11),zI (f 12),zI (f 13),zI (f 14),zI (f 15),TL false q 1 (map iD ys)],43,false⟩⟩,⟨8,8,48,48,.b ⟨L.map dB,5,true⟩⟩] 16) (fun(x:(a:Nat)×'(ha:a≤16)×'(L:List UInt8)×'(hL:L.length=320)×'(R:List Int)×'(r:Nat)×'(hr:r=R.length)×'(hr2:r≤q)×'Unit)=>match x with|⟨a,ha,L,hL,R,r,hr,hr2,_⟩=>16-a) [⟨(L3:List UInt8)×'(hL3:L3.length=320)×'(R2:List Int)×'(r2:Nat)×'(hr3:r2≤q)×'Unit,.exit 0,fun x=>match x with|⟨L3,hL3,R2,r2,hr3,_⟩=>TJ [(1,TF 0 0 0),(3,Tu 8 8 0 320 1),(4,.sl false r2 1 (R2.map iD)),(19,UA [zI (f 0),zI (f 1),zI (f 2),zI (f 3),zI (f 4),zI (f 5),zI (f 6),zI (f 7),zI (f 8),zI (f 9),zI (f 10),zI (f 11),zI (f 12),zI (f 13),zI (f 14),zI (f 15)])] [⟨0,0,0,0,.b ⟨[zI (f 0),zI (f 1),zI (f 2),zI (f 3),zI (f 4),zI (f 5),zI (f 6),zI (f 7),zI (f 8),zI (f 9),zI (f 10),zI (f 11),zI (f 12),zI (f 13),zI (f 14),zI (f 15),TL false q 1 (map iD ys)],43,false⟩⟩,⟨8,8,48,48,.b ⟨L3.map dB,5,true⟩⟩] 16⟩,⟨Unit,.ret,fun x=>match x with|()=>TJ [(2,iD 8)] [⟨0,0,0,0,.b ⟨[zI (f 0),zI (f 1),zI (f 2),zI (f 3),zI (f 4),zI (f 5),zI (f 6),zI (f 7),zI (f 8),zI (f 9),zI (f 10),zI (f 11),zI (f 12),zI (f 13),zI (f 14),zI (f 15),TL false q 1 (map iD ys)],43,false⟩⟩] 16⟩] 1000 64 (fun|⟨a,ha,L,hL,R,r,hr,hr2,_⟩,Q,next1,last1=>(.s 2 (.bd ((a:Int)<16) (fun p1 p1f=>(.s 2 (.chk (true&&decide ((a:Int)<(↑16:Int))) aD (.opt ((vT f)[a*1]?) (iD (f a)) (@Et f (a) om) (.s 7 (.bd (f a<0) (fun p2 p2f=>(.s 21 (Hn.last last1 1 (():Unit) rfl [(0,0)] ro))) (fun p2 p2f=>(.s 10 (.bd ((r:Int)<f a) (fun p3 p3f=>(.s 11 (Hn.last last1 1 (():Unit) rfl [(0,0)] ro))) (fun p3 p3f=>(.s 6 (.br ((a:Int)==0) (fun p4=>have p4f:=eq_of_beq p4;(.s 6 (.bd (0<f a) (fun p5 p5f=>(.s 1 (Hn.last last1 1 (():Unit) rfl [(0,0)] ro))) (fun p5 p5f=>(.s 3 (.chk (aZ none (some (f a)) none r&&true) (by(simp <;>(omega))) (.s 2 (.val 42 (TL false (zK (f a)) 1 (take (zK (f a)*1) (map iD R))) (TL false (zK (f a)) 1 (map iD (take (zK (f a)) R))) (by(simp;done)) (Hn.inl T_ok ai false 91 0 (ap Try.prog 36 1) (fun(x:(k:Nat)×'(hk:k≤(f a).toNat)×'(M:List UInt8)×'(hM:M.length=320)×'Unit)=>match x with|⟨k,hk,M,hM,_⟩=>TJ [(1,TF 0 0 0),(3,Tu 8 8 0 320 1),(4,TL false r 1 (map iD R)),(5,zN a),(6,zI (f a)),(19,UA [zI (f 0),zI (f 1),zI (f 2),zI (f 3),zI (f 4),zI (f 5),zI (f 6),zI (f 7),zI (f 8),zI (f 9),zI (f 10),zI (f 11),zI (f 12),zI (f 13),zI (f 14),zI (f 15)]),(20,zN a),(27,zI (f a)),(28,TL false r 1 (map iD R)),(29,zN r),(30,D.v (.bool (decide ((r:Int)<f a)))),(33,zN a),(34,D.v (.bool ((a:Int)==0))),(35,D.v (.bool true)),(36,zI (f a)),(37,D.v (.bool (decide (0<f a)))),(38,D.v (.bool (decide (0<f a)))),(42,.sl false (f a).toNat 1 ((R.take (f a).toNat).map iD)),(43,zN (zK (f a))),(44,nD k)] [⟨0,0,0,0,.b ⟨[zI (f 0),zI (f 1),zI (f 2),zI (f 3),zI (f 4),zI (f 5),zI (f 6),zI (f 7),zI (f 8),zI (f 9),zI (f 10),zI (f 11),zI (f 12),zI (f 13),zI (f 14),zI (f 15),TL false q 1 (map iD ys)],43,false⟩⟩,⟨8,8,8,8,.b ⟨M.map dB,5,true⟩⟩] 16) (fun(x:(k:Nat)×'(hk:k≤(f a).toNat)×'(M:List UInt8)×'(hM:M.length=320)×'Unit)=>match x with|⟨k,hk,M,hM,_⟩=>(f a).toNat-k) [⟨(L2:List UInt8)×'(hL2:L2.length=320)×'Unit,.exit 2,fun x=>match x with|⟨L2,hL2,_⟩=>TJ [(1,TF 0 0 0),(3,Tu 8 8 0 320 1),(4,TL false r 1 (map iD R)),(5,zN a),(6,zI (f a)),(19,UA [zI (f 0),zI (f 1),zI (f 2),zI (f 3),zI (f 4),zI (f 5),zI (f 6),zI (f 7),zI (f 8),zI (f 9),zI (f 10),zI (f 11),zI (f 12),zI (f 13),zI (f 14),zI (f 15)]),(20,zN a),(27,zI (f a)),(28,TL false r 1 (map iD R)),(29,zN r),(30,D.v (.bool (decide ((r:Int)<f a)))),(33,zN a),(34,D.v (.bool ((a:Int)==0))),(35,D.v (.bool true)),(36,zI (f a)),(37,D.v (.bool (decide (0<f a)))),(38,D.v (.bool (decide (0<f a)))),(43,zN (zK (f a)))] [⟨0,0,0,0,.b ⟨[zI (f 0),zI (f 1),zI (f 2),zI (f 3),zI (f 4),zI (f 5),zI (f 6),zI (f 7),zI (f 8),zI (f 9),zI (f 10),zI (f 11),zI (f 12),zI (f 13),zI (f 14),zI (f 15),TL false q 1 (map iD ys)],43,false⟩⟩,⟨8,8,8,8,.b ⟨L2.map dB,5,true⟩⟩] 16⟩,⟨Unit,.ret,fun x=>match x with|()=>TJ [(2,iD 8)] [⟨0,0,0,0,.b ⟨[zI (f 0),zI (f 1),zI (f 2),zI (f 3),zI (f 4),zI (f 5),zI (f 6),zI (f 7),zI (f 8),zI (f 9),zI (f 10),zI (f 11),zI (f 12),zI (f 13),zI (f 14),zI (f 15),TL false q 1 (map iD ys)],43,false⟩⟩] 16⟩] 1000 64 (fun|⟨k,hk,M,hM,_⟩,Q,next2,last2=>(.s 2 (.f (decide ((k:Int)<(↑(zK (f a)):Int))) (by(refine decide_eq_false ?_;(omega))) (Hn.last last2 0 (⟨(M),om,⟨⟩⟩:(L2:List UInt8)×'(hL2:L2.length=320)×'Unit) rfl [(0,0),(8,8)] ro)))) (fun|⟨k,hk,M,hM,_⟩=>by kernel_rfl) ⟨(0),om,(L),om,⟨⟩⟩ [(0,0),(8,8)] ro (gd (fun|⟨L2,hL2,_⟩=>(.s 3 (.chk (aZ (some (f a)) none none r&&true) (by(simp <;>(omega))) (.s 3 (.ow ((a:Int)+1) (.s 1 (.val 4 (TL false (r-zK (f a)) 1 (drop (zK (f a)*1) (map iD R))) (TL false (r-zK (f a)) 1 (map iD (drop (zK (f a)) R))) (by(simp;done)) (.val 20 (zI ((a:Int)+1)) (zN (a+1)) Es (Hn.next next1 ⟨(a+1),om,(L2),om,(R.drop (f a).toNat),(r-(f a).toNat),(by(rw[Ul];(omega))),om,⟨⟩⟩ (by show 16-(a+1)<16-a;clear next1 last1;omega) [(0,0),(8,8)] ro))))))))) (fun|()=>(Hn.last last1 1 (():Unit) rfl [(0,0)] ro)))))))))))) (fun p4=>have p4f:=am p4;(.s 9 (.chk (aZ none (some (f a)) none r&&true) (by(simp <;>(omega))) (.s 2 (.val 42 (TL false (zK (f a)) 1 (take (zK (f a)*1) (map iD R))) (TL false (zK (f a)) 1 (map iD (take (zK (f a)) R))) (by(simp;done)) (Hn.inl T_ok ai false 91 0 (ap Try.prog 36 1) (fun(x:(k:Nat)×'(hk:k≤(f a).toNat)×'(M:List UInt8)×'(hM:M.length=320)×'Unit)=>match x with|⟨k,hk,M,hM,_⟩=>TJ [(1,TF 0 0 0),(3,Tu 8 8 0 320 1),(4,TL false r 1 (map iD R)),(5,zN a),(6,zI (f a)),(19,UA [zI (f 0),zI (f 1),zI (f 2),zI (f 3),zI (f 4),zI (f 5),zI (f 6),zI (f 7),zI (f 8),zI (f 9),zI (f 10),zI (f 11),zI (f 12),zI (f 13),zI (f 14),zI (f 15)]),(20,zN a),(27,zI (f a)),(28,TL false r 1 (map iD R)),(29,zN r),(30,D.v (.bool (decide ((r:Int)<f a)))),(33,zN a),(34,D.v (.bool ((a:Int)==0))),(35,D.v (.bool false)),(36,Uw []),(37,Uw []),(38,D.v (.bool false)),(42,.sl false (f a).toNat 1 ((R.take (f a).toNat).map iD)),(43,zN (zK (f a))),(44,nD k)] [⟨0,0,0,0,.b ⟨[zI (f 0),zI (f 1),zI (f 2),zI (f 3),zI (f 4),zI (f 5),zI (f 6),zI (f 7),zI (f 8),zI (f 9),zI (f 10),zI (f 11),zI (f 12),zI (f 13),zI (f 14),zI (f 15),TL false q 1 (map iD ys)],43,false⟩⟩,⟨8,8,8,8,.b ⟨M.map dB,5,true⟩⟩] 16) (fun(x:(k:Nat)×'(hk:k≤(f a).toNat)×'(M:List UInt8)×'(hM:M.length=320)×'Unit)=>match x with|⟨k,hk,M,hM,_⟩=>(f a).toNat-k) [⟨(L2:List UInt8)×'(hL2:L2.length=320)×'Unit,.exit 2,fun x=>match x with|⟨L2,hL2,_⟩=>TJ [(1,TF 0 0 0),(3,Tu 8 8 0 320 1),(4,TL false r 1 (map iD R)),(5,zN a),(6,zI (f a)),(19,UA [zI (f 0),zI (f 1),zI (f 2),zI (f 3),zI (f 4),zI (f 5),zI (f 6),zI (f 7),zI (f 8),zI (f 9),zI (f 10),zI (f 11),zI (f 12),zI (f 13),zI (f 14),zI (f 15)]),(20,zN a),(27,zI (f a)),(28,TL false r 1 (map iD R)),(29,zN r),(30,D.v (.bool (decide ((r:Int)<f a)))),(33,zN a),(34,D.v (.bool ((a:Int)==0))),(35,D.v (.bool false)),(36,Uw []),(37,Uw []),(38,D.v (.bool false)),(43,zN (zK (f a)))] [⟨0,0,0,0,.b ⟨[zI (f 0),zI (f 1),zI (f 2),zI (f 3),zI (f 4),zI (f 5),zI (f 6),zI (f 7),zI (f 8),zI (f 9),zI (f 10),zI (f 11),zI (f 12),zI (f 13),zI (f 14),zI (f 15),TL false q 1 (map iD ys)],43,false⟩⟩,⟨8,8,8,8,.b ⟨L2.map dB,5,true⟩⟩] 16⟩,⟨Unit,.ret,fun x=>match x with|()=>TJ [(2,iD 8)] [⟨0,0,0,0,.b ⟨[zI (f 0),zI (f 1),zI (f 2),zI (f 3),zI (f 4),zI (f 5),zI (f 6),zI (f 7),zI (f 8),zI (f 9),zI (f 10),zI (f 11),zI (f 12),zI (f 13),zI (f 14),zI (f 15),TL false q 1 (map iD ys)],43,false⟩⟩] 16⟩] 1000 64 (fun|⟨k,hk,M,hM,_⟩,Q,next2,last2=>(.s 2 (.bd ((k:Int)<(↑(zK (f a)):Int)) (fun p6 p6f=>(.s 1 (.chk (true&&decide ((k:Int)<(↑(zK (f a)):Int))&&true) Bk (.s 2 (.opt ((map iD (take (zK (f a)) R))[k*1]?) (iD (getD (take (zK (f a)) R) (k*1) mb)) (aq _ _ (by(simp <;>(omega)))) (.s 6 (.bd (getD (take (zK (f a)) R) (k*1) mb<0) (fun p7 p7f=>(.s 21 (Hn.last last2 1 (():Unit) rfl [(0,0)] ro))) (fun p7 p7f=>(.s 10 (.bd ((↑320:Int)≤getD (take (zK (f a)) R) (k*1) mb) (fun p8 p8f=>(.s 11 (Hn.last last2 1 (():Unit) rfl [(0,0)] ro))) (fun p8 p8f=>(.s 4 (.chk (decide (0≤getD (take (zK (f a)) R) (k*1) mb)&&decide (getD (take (zK (f a)) R) (k*1) mb<(↑320:Int))) Bk (.s 3 (.opt ((map dB M)[0+zK (getD (take (zK (f a)) R) (k*1) mb)*1]?) (dB (getD M (0+zK (getD (take (zK (f a)) R) (k*1) mb)*1) mb)) (aq _ _ om) (.s 4 (.bd (0<(↑(Tp (getD M (0+zK (getD (take (zK (f a)) R) (k*1) mb)*1) mb)):Int)) (fun p9 p9f=>(.s 1 (Hn.last last2 1 (():Unit) rfl [(0,0)] ro))) (fun p9 p9f=>(.s 4 (.opt (ar .u8 (a:Int)) (aQ a) (bB om) (.s 1 (.chk (decide (0≤getD (take (zK (f a)) R) (k*1) mb)&&decide (getD (take (zK (f a)) R) (k*1) mb<(↑320:Int))) Bk (.s 1 (.chk (true&&Tz (0+zK (getD (take (zK (f a)) R) (k*1) mb)*1+1) (length (map dB M))) (by clear next2 last2 next1 last1;(simp_all<;>omega)) (.lst (aj (map dB M) (0+zK (getD (take (zK (f a)) R) (k*1) mb)*1) [aQ a]) (aj (map dB M) (zK (getD (take (zK (f a)) R) k mb)) [aQ a]) (by(simp;done)) (.s 2 (.ow ((k:Int)+1) (.s 1 (.val 44 (zI ((k:Int)+1)) (zN (k+1)) Es (.blk 8 8 (Tq (aj (map dB M) (zK (getD (take (zK (f a)) R) k mb)) [aQ a]) 5 true) (Tq (map dB (List.set M (zK (getD (take (zK (f a)) R) k mb)) (Um a))) 5 true) (by(simp only[TZ]at *;exact ay (MC om om rfl))) (Hn.next next2 ⟨(k+1),om,(M.set ((R.take (f a).toNat).getD k mb).toNat (Um a)),(by(rw[VG];(omega))),⟨⟩⟩ (by show zK (f a)-(k+1)<zK (f a)-k;clear next2 last2 next1 last1;omega) [(0,0),(8,8)] ro))))))))))))))))))))))))))))))) (fun p6 p6f=>(Hn.last last2 0 (⟨(M),om,⟨⟩⟩:(L2:List UInt8)×'(hL2:L2.length=320)×'Unit) rfl [(0,0),(8,8)] ro))))) (fun|⟨k,hk,M,hM,_⟩=>by kernel_rfl) ⟨(0),om,(L),om,⟨⟩⟩ [(0,0),(8,8)] ro (gd (fun|⟨L2,hL2,_⟩=>(.s 3 (.chk (aZ (some (f a)) none none r&&true) (by(simp <;>(omega))) (.s 3 (.ow ((a:Int)+1) (.s 1 (.val 4 (TL false (r-zK (f a)) 1 (drop (zK (f a)*1) (map iD R))) (TL false (r-zK (f a)) 1 (map iD (drop (zK (f a)) R))) (by(simp;done)) (.val 20 (zI ((a:Int)+1)) (zN (a+1)) Es (Hn.next next1 ⟨(a+1),om,(L2),om,(R.drop (f a).toNat),(r-(f a).toNat),(by(rw[Ul];(omega))),om,⟨⟩⟩ (by show 16-(a+1)<16-a;clear next1 last1;omega) [(0,0),(8,8)] ro))))))))) (fun|()=>(Hn.last last1 1 (():Unit) rfl [(0,0)] ro))))))))))))))))))))) (fun p1 p1f=>(Hn.last last1 0 (⟨(L),om,(R),(r),om,⟨⟩⟩:(L3:List UInt8)×'(hL3:L3.length=320)×'(R2:List Int)×'(r2:Nat)×'(hr3:r2≤q)×'Unit) rfl [(0,0),(8,8)] ro))))) (fun|⟨a,ha,L,hL,R,r,hr,hr2,_⟩=>by kernel_rfl) ⟨(0),om,(replicate 320 0),(by(simp;done)),(ys),(q),om,om,⟨⟩⟩ [(0,0),(48,48)] ro (gd (fun|⟨L3,hL3,R2,r2,hr3,_⟩=>(.s 2 (.em (decide (aC L3 15≠0)) (fun p10=>have p10f:=wx p10;(.call 58 false [] (true&&(true&&Tz 320 (length (map dB L3))&&true&&af (bif true&&Tx 320 (length (map dB L3))then map dB L3 else take 320 (drop 0 (map dB L3))))&&true) (by(simp <;>(omega))) ([TL true 320 1 (bif true&&Tx 320 (length (map dB L3))then map dB L3 else take 320 (drop 0 (map dB L3))),zI 15]) _ My (true) wr _ _ _ (TW (az.of Try.func58 rfl rfl) (@uQ (L3) (320) om om (15) (by(simp;done)) om)) (.s 16 (.t ((↑(aC L3 15):Int) !=0) (by(simp <;>(omega))) (.s 17 (.out [] [] (zI 8) [] R (ok _ _ wr wr))))))) (fun p10=>have p10f:=wy p10;(.call 58 false [] (true&&(true&&Tz 320 (length (map dB L3))&&true&&af (bif true&&Tx 320 (length (map dB L3))then map dB L3 else take 320 (drop 0 (map dB L3))))&&true) (by(simp <;>(omega))) ([TL true 320 1 (bif true&&Tx 320 (length (map dB L3))then map dB L3 else take 320 (drop 0 (map dB L3))),zI 15]) _ My (true) wr _ _ _ (TW (az.of Try.func58 rfl rfl) (@sk (L3) (320) om om (15) (by(simp;done)) om)) (.s 25 (.bd (0<(r2:Int)) (fun p11 p11f=>(.s 9 (.out [] [] (zI 8) [] R (ok _ _ wr wr)))) (fun p11 p11f=>(.s 10 (.call 35 false [] (true&&(true&&(true&&(true&&(true&&(true&&(true&&(true&&(true&&(true&&(true&&(true&&(true&&(true&&(true&&(true&&(true&&(true&&Tz (0+length (ab L3)*1) (length (map nD (ab L3)))&&true&&af (bif true&&Tx (length (ab L3)*1) (length (map nD (ab L3)))then map nD (ab L3)else take (length (ab L3)*1) (drop 0 (map nD (ab L3)))))&&true))))))))))))))))&&true) (by(simp;done)) ([UA [zN (aa L3 0),zN (aa L3 1),zN (aa L3 2),zN (aa L3 3),zN (aa L3 4),zN (aa L3 5),zN (aa L3 6),zN (aa L3 7),zN (aa L3 8),zN (aa L3 9),zN (aa L3 10),zN (aa L3 11),zN (aa L3 12),zN (aa L3 13),zN (aa L3 14),zN (aa L3 15),TL (Tz 1 (length (ab L3))) (length (ab L3)) 1 (bif true&&Tx (length (ab L3)*1) (length (map nD (ab L3)))then map nD (ab L3)else take (length (ab L3)*1) (drop 0 (map nD (ab L3))))],UA [zI (f 0),zI (f 1),zI (f 2),zI (f 3),zI (f 4),zI (f 5),zI (f 6),zI (f 7),zI (f 8),zI (f 9),zI (f 10),zI (f 11),zI (f 12),zI (f 13),zI (f 14),zI (f 15),TL false q 1 (map iD ys)]]) _ (by exact(Ut (D.sim.agg (qr (qr (qr (qr (qr (qr (qr (qr (qr (qr (qr (qr (qr (qr (qr (qr (Ut (D.sim.slw rfl (cn (by(simp;done))|>.trans rfl)) trivial)))))))))))))))))) (qr trivial))) (true) wr _ _ _ (TW (az.of Try.func35 rfl rfl) (@Eu (L3) (length (ab L3)) om (f) (ys) (q) om om om (by(simp_all;done)))) (.s 5 (.out [] [] (zI 8) [] R (ok _ _ wr wr))))))))))))) (fun|()=>(.out [] [] (zI 8) [] R (ok _ _ wr wr)))))))))) kr
end Vp
end Go.Proofs.Ytefjnofhgkjpmaa

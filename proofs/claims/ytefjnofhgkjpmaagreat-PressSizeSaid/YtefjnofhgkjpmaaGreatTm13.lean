/- Part 13. -/
import Derived.Test.YtefjnofhgkjpmaaGreatTm12
import Derived.Test.YtefjnofhgkjpmaaGreatTm5
import Derived.Test.YtefjnofhgkjpmaaGreatOpen
import Derived.SizedLaws
set_option linter.unusedVariables false
set_option linter.unusedSimpArgs false
set_option maxRecDepth 100000
set_option maxHeartbeats 4000000
open And renaming intro → Mi
open Go.Addr renaming add_mid → Ng
open Go.DataW renaming trod_slice → O9
open Go.IntKind renaming i64 → Mk, wrap → Mj
open Go.Lit renaming int → Qd
open Go.Value renaming bool → Qf, cells → Pr, int → MS
open Inhabited renaming default → ji
open Int renaming natCast_ediv → Oo, tdiv → N4
open List renaming drop → MI, drop_drop → Ps, drop_eq_nil_of_le → Nb, flatten_cons → Oj, length_append → L6, length_cons → Mx, length_drop → Ms, length_map → Mg, length_nil → NG, length_range → Nh, length_take → Mc, map_cons → NL, mem_cons_of_mem → Mn, mem_cons_self → Mp, mem_map → O0, range → MQ, take → ME, take_append_drop → NY, take_of_length_le → Mz
open Nat renaming add_assoc → Nd, add_mul → MY, beq → L2, ble → L5, ble_eq_true_of_le → L9, div_add_mod → P4, div_eq_of_lt → O8, div_le_self → Pk, eq_zero_or_pos → Oa, le_add_right → OL, le_mul_of_pos_left → Pi, le_refl → Mh, le_trans → L8, mod_eq_of_lt → M9, mod_lt → Qe, mul_comm → Nk, mul_le_mul_right → MJ, mul_one → My, zero_le → MP, zero_lt_one → N0
open Option renaming bind_eq_some_iff → OD, map_eq_some_iff → MW
open Prod renaming fst → Mq, snd → Mb
open UInt8 renaming ofNat → M1
namespace Go.Proofs.YtefjnofhgkjpmaaGreat
open Go.RowKit Go.Bw Go.Vx
open List (length getD map take drop flatMap replicate)
namespace Vp
theorem nU {p:Prop} (h:p:=by (refine aO ?_; (omega))):p:=h
theorem wg {p:Prop} (h:p:=by ((refine aI ?_ ?_) <;> (repeat' (first | (refine aI ?_ ?_) | (with_reducible rfl) | (refine decide_eq_true ?_) | (refine L9 ?_) | (refine er ?_))) <;> (omega))):p:=h
theorem zb {p:Prop} (h:p:=by ( have z1:=wl L i; omega)):p:=h
theorem zd {p:Prop} (h:p:=by ( rw [show i = c from by omega])):p:=h
theorem DF {p:Prop} (h:p:=by show n - (i + 1) < n - i; clear next1 last1; omega):p:=h
theorem DG {p:Prop} (h:p:=by ( have z1:=ta om hz; have z2:=rD (L:=L) (i:=i) (n:=n) om; have z3:=ap sz H W; have z4:=ac (jb sz ch lz H W P); have z5:=kq (sz:=sz) (ch:=ch) (lz:=lz) (H:=H) (W:=W) (P:=P) om; omega)):p:=h
theorem F6 {p:Prop} (h:p:=by exact (Mi (D.sim.agg (Mi (D.sim.refl _) (Mi (D.sim.refl _) (Mi (D.sim.refl _) (Mi (D.sim.refl _) (Mi (D.sim.slw rfl (aV (by (simp; done)) |>.trans rfl)) (Mi (D.sim.slw rfl (aV (by (simp; done)) |>.trans rfl)) (Mi (D.sim.slw rfl (aV (by (simp; done)) |>.trans rfl)) (Mi (D.sim.refl _) (Mi (D.sim.refl _) trivial)))))))))) trivial)):p:=h
theorem DH (a:Nat) (raw:List UInt8) (l:List Tn):mj a 0 raw l = 35 + mr a + 8 * raw.length:=by
 rw [kS,fD,if_pos rfl]
 unfold nu
 rw [eX,bM,Mz (Mh _)]
 have h2:∀ r:List UInt8,sm (r.map Fq) = 8 * r.length:=fun r=>by
  induction r with
  | nil=>rfl
  | cons x r ih=>rw [NL,iw,ih,Mx]; show 8 + _ = _; omega
 rw [h2]
 have h4:sm (Hx 0 a raw.length) = 1 + (2 + (mr a + (16 + (16 + 0)))):=rfl
 omega
theorem wh (a:Nat) (raw:List UInt8) (l:List Tn):mj a (aH a raw l) raw l ≤ mj a 0 raw l:=by
 rw [rz]
 unfold FS
 rw [ru,rv,ry]
 split <;> split <;> omega
theorem kp {P:List Bool} {raw:List UInt8} {l:List Tn} (hP:P.length < 8):(P.length + mj P.length 0 raw l) % 8 = 0 ∧ P.length + mj P.length 0 raw l ≤ P.length + 42 + 8 * raw.length:=by
 have h1:=pF P.length raw l (by omega)
 have h2:=DH P.length raw l
 have h3:=nK P.length
 omega
theorem wi {sz ch:Nat} {lz:Bool} {H raw:List UInt8} {P:List Bool} {e:Nat} (hP:P.length < 8):(jE sz ch lz H raw P e).length ≤ P.length + mj P.length 0 raw (aa sz ch lz H raw):=by
 unfold jE
 rw [iy,M9 hP]
 have:=wh P.length raw (aa sz ch lz H raw)
 omega
theorem DI {sz ch:Nat} {lz:Bool} {H W:List UInt8} {P:List Bool} (hP:P.length < 8):(yF sz ch lz H W P).length ≤ P.length + mj P.length 0 W (aa sz ch lz H W):=by
 have e:(ak (ae P 0 W (aa sz ch lz H W) 0)).length = P.length + mj P.length 0 W (aa sz ch lz H W):=by
  rw [A4 (by rw [dZ]; decide),iy,M9 hP]
 unfold yF
 split <;> omega
def uP (mo w p out all fl:Nat):Prop:=∃ q A,A + w = all ∧ mo * q ≤ A ∧ 8 * out + p ≤ 8 * A + 40 * (fl + q)
theorem F7 (mo:Nat):uP mo 0 0 0 0 0:=⟨0,0,rfl,by omega,by omega⟩
theorem wj {sz ch mo:Nat} {lz:Bool} (hm:1 ≤ mo):∀ (f:Nat) (s:Ls) (out all fl:Nat),s.P.length < 8 → uP mo s.w.length s.P.length (out + s.O.length) all fl → uP mo (nR sz ch mo lz f s).w.length (nR sz ch mo lz f s).P.length (out + (nR sz ch mo lz f s).O.length) all fl
 | 0,_,_,_,_,_,h=>h
 | f + 1,s,out,all,fl,hP,h=>by
  rw [nR]
  split
  ·rename_i c
   obtain ⟨q,A,h1,h2,h3⟩:=h
   have tl:(s.w.take mo).length = mo:=by rw [Mc]; omega
   have b:=wi (sz:=sz) (ch:=ch) (lz:=lz) (H:=s.H) (raw:=s.w.take mo) (e:=0) hP
   have g:=kp (raw:=s.w.take mo) (l:=aa sz ch lz s.H (s.w.take mo)) hP
   have e1:(Fk sz ch mo lz s).w.length = s.w.length - mo:=Ms
   have e2:(Fk sz ch mo lz s).P.length = (jE sz ch lz s.H (s.w.take mo) s.P 0).length % 8:=dH _
   have e3:(Fk sz ch mo lz s).O.length = s.O.length + (jE sz ch lz s.H (s.w.take mo) s.P 0).length / 8:=by
    show (s.O ++ pk (pA _)).length = _
    rw [L6,ac,dY]; omega
   refine wj hm f _ out all fl (by omega) ?_
   rw [e1,e2,e3]
   rw [tl] at g
   refine ⟨q + 1,A + mo,by omega,by rw [Nat.mul_succ]; omega,?_⟩
   generalize (jE sz ch lz s.H (s.w.take mo) s.P 0).length = B at *
   generalize s.P.length + mj s.P.length 0 (s.w.take mo) (aa sz ch lz s.H (s.w.take mo)) = S at *
   omega
  ·exact h
theorem Bc {sz ch mo:Nat} {lz:Bool} {H:List UInt8} {P:List Bool} {W b:List UInt8} {out all fl:Nat} (hm:1 ≤ mo) (hP:P.length < 8) (h:uP mo W.length P.length out all fl):uP mo (i6 sz ch mo lz H P W b).w.length (i6 sz ch mo lz H P W b).P.length (out + (i6 sz ch mo lz H P W b).O.length) (all + b.length) fl:=by
 rw [rB]
 refine wj hm _ ⟨H,P,W ++ b,[]⟩ out (all + b.length) fl hP ?_
 obtain ⟨q,A,h1,h2,h3⟩:=h
 exact ⟨q,A,by show A + (W ++ b).length = _; rw [L6]; omega,h2,h3⟩
def jb (sz ch:Nat) (lz:Bool) (H W:List UInt8) (P:List Bool):List Bool:=lk P (if 0 < W.length then yF sz ch lz H W P else if 0 < P.length then ae P 0 [] (aa sz ch lz H []) 0 else [])
theorem nV (sz ch:Nat) (lz:Bool) (H W:List UInt8) (P:List Bool):jb sz ch lz H W P = (if 0 < W.length then yF sz ch lz H W P else if 0 < P.length then ae P 0 [] (aa sz ch lz H []) 0 else []):=aG _ _
theorem DJ (sz ch:Nat) (lz:Bool) (H W:List UInt8) (P:List Bool):(jb sz ch lz H W P).length % 8 = 0:=by
 rw [nV]
 split
 ·exact FX _ _ _ _ _ _
 ·split
  ·exact dZ _ _ _ _
  ·rfl
theorem kq {sz ch:Nat} {lz:Bool} {H W:List UInt8} {P:List Bool} (hP:P.length < 8):(jb sz ch lz H W P).length ≤ P.length + 42 + 8 * W.length:=by
 rw [nV]
 split
 ·have:=DI (sz:=sz) (ch:=ch) (lz:=lz) (H:=H) (W:=W) hP
  have:=(kp (raw:=W) (l:=aa sz ch lz H W) hP).2
  omega
 ·split
  ·rw [iy,M9 hP]
   have:=(kp (raw:=[]) (l:=aa sz ch lz H []) hP).2
   rw [NG] at this
   omega
  ·exact MP _
theorem F8 {sz ch mo:Nat} {lz:Bool} {H:List UInt8} {P:List Bool} {W:List UInt8} {out all fl:Nat} (hP:P.length < 8) (h:uP mo W.length P.length out all fl):uP mo 0 0 (out + (pk (jb sz ch lz H W P)).length) all (fl + 1):=by
 obtain ⟨q,A,h1,h2,h3⟩:=h
 have e:=DJ sz ch lz H W P
 have l:=kq (sz:=sz) (ch:=ch) (lz:=lz) (H:=H) (W:=W) hP
 refine ⟨q,A + W.length,by omega,by omega,?_⟩
 rw [ac]
 omega
theorem Bd {sz ch mo:Nat} {lz:Bool} {H:List UInt8} {P:List Bool} {W:List UInt8} {out all fl:Nat} (hm:1 ≤ mo) (hP:P.length < 8) (h:uP mo W.length P.length out all fl):out + (pk (jE sz ch lz H W P 1)).length ≤ all + 5 * (fl + all / mo + 1):=by
 obtain ⟨q,A,h1,h2,h3⟩:=h
 have b:=wi (sz:=sz) (ch:=ch) (lz:=lz) (H:=H) (raw:=W) (e:=1) hP
 have g:=kp (raw:=W) (l:=aa sz ch lz H W) hP
 have l:q ≤ all / mo:=by
  rw [Nat.le_div_iff_mul_le (by omega),Nk]; omega
 rw [ac]
 generalize P.length + mj P.length 0 W (aa sz ch lz H W) = S at *
 generalize all / mo = Q at *
 omega
theorem wk (sz ch mo:Nat) (lz:Bool) (hs:1 ≤ sz ∧ sz ≤ 32768) (hc:ch ≤ 256) (hmo:1 ≤ mo ∧ mo ≤ 65535) (H:List UInt8) (h:Nat) (hh:h = H.length) (hh2:h ≤ sz) (W:List UInt8) (w:Nat) (hw:w = W.length) (hw2:w < mo) (P:List Bool) (m:Nat) (hm:m = (pk P).length) (hP:P.length < 8):SpecH false Tryz.prog 21 [.agg [nD sz,nD ch,nD mo,bD lz,.sl false h 1 (H.map dB),.sl false w 1 (W.map dB),.sl false m 1 ((pk P).map dB),nD P.length,bD false]] [] (.tup [.agg [nD sz,nD ch,nD mo,bD lz,.ref 0 0 0 (ko sz H W).length 1,bB,.ref 1 1 0 0 1,nD 0,bD false],.ref 2 2 0 (pk (jb sz ch lz H W P)).length 1,iD 0]) [⟨(ko sz H W).map dB, 5, true⟩,⟨[], 5, true⟩,⟨(pk (jb sz ch lz H W P)).map dB, 5, true⟩]:=by
 rw [nV]
 by_cases h0:0 < w
 ·rw [if_pos (by omega)]; exact wa sz ch mo lz hs hc hmo H h hh hh2 W w hw hw2 P m hm hP h0
 ·rw [if_neg (by omega)]
  by_cases h1:0 < P.length
  ·rw [if_pos h1]; exact wc sz ch mo lz hs hc hmo H h hh hh2 W w hw hw2 P m hm hP (by omega) h1
  ·rw [if_neg h1]; exact wd sz ch mo lz hs hc hmo H h hh hh2 W w hw hw2 P m hm hP (by omega) (by omega)
def opP (x:Bool × List UInt8):List D:=[bD x.1,.sl false x.2.length 1 (x.2.map dB)]
def lgS (L:List (Bool × List UInt8)):Nat → Nat
 | 0=>0
 | i + 1=>lgS L i + (10 + min (L.getD i ji).2.length 10000)
def vx (L:List (Bool × List UInt8)):Nat → Nat
 | 0=>0
 | i + 1=>vx L i + (L.getD i ji).2.length
theorem lgS_mono (L:List (Bool × List UInt8)) (i:Nat):∀ k,lgS L i + 10 * k ≤ lgS L (i + k)
 | 0=>Mh _
 | k + 1=>by have:=lgS_mono L i k; show _ ≤ lgS L (i + k) + _; omega
theorem wl (L:List (Bool × List UInt8)):∀ k,lgS L k ≤ 10010 * k
 | 0=>Mh _
 | k + 1=>by have:=wl L k; show lgS L k + _ ≤ _; omega
theorem txS_of {L:List (Bool × List UInt8)}:∀ {k:Nat},lgS L k ≤ 400 → vx L k + 10 * k ≤ lgS L k
 | 0,_=>Mh _
 | k + 1,h=>by
  have e:lgS L (k + 1) = lgS L k + (10 + min (L.getD k ji).2.length 10000):=rfl
  have:=txS_of (L:=L) (k:=k) (by omega)
  show vx L k + _ + _ ≤ lgS L k + _
  omega
theorem ta {mo w p out all fl:Nat} (hm:1 ≤ mo) (h:uP mo w p out all fl):out ≤ all + 5 * (fl + all):=by
 obtain ⟨q,A,h1,h2,h3⟩:=h
 have:q ≤ mo * q:=Pi q (by omega)
 omega
theorem DK {o b a f q:Nat} {x:Int} (hx:x = (q:Int)) (h:o + b ≤ a + 5 * (f + q + 1)) (ha:a ≤ 1000) (hf:f ≤ 1000) (hq:q ≤ 1000):D.v (Qf (decide (IntKind.i64.wrap ((o:Int) + (b:Int)) ≤ IntKind.i64.wrap ((a:Int) + IntKind.i64.wrap (5 * IntKind.i64.wrap (IntKind.i64.wrap ((f:Int) + x) + 1)))))) = D.v (Qf true):=by
 subst hx
 have e1:IntKind.i64.wrap ((f:Int) + (q:Int)) = (f:Int) + q:=si (by omega)
 have e2:IntKind.i64.wrap ((f:Int) + q + 1) = (f:Int) + q + 1:=si (by omega)
 have e3:IntKind.i64.wrap (5 * ((f:Int) + q + 1)) = 5 * ((f:Int) + q + 1):=si (by omega)
 have e4:IntKind.i64.wrap ((a:Int) + 5 * ((f:Int) + q + 1)) = (a:Int) + 5 * ((f:Int) + q + 1):=si (by omega)
 have e5:IntKind.i64.wrap ((o:Int) + b) = (o:Int) + b:=si (by omega)
 rw [e1,e2,e3,e4,e5]
 exact congrArg (fun z=>D.v (Qf z)) (decide_eq_true (by omega))
theorem rD {L:List (Bool × List UInt8)} {i n:Nat} (h:i < n):vx L i + (L.getD i ji).2.length ≤ vx L n:=by
 have m:∀ k,vx L (i + 1) ≤ vx L (i + 1 + k):=fun k=>by
  induction k with
  | zero=>exact Mh _
  | succ k ih=>exact L8 ih (OL _ _)
 have:=m (n - (i + 1))
 rw [show i + 1 + (n - (i + 1)) = n from by omega] at this
 exact this
theorem F9 (L:List (Bool × List UInt8)) (n:Nat) (hn:n = L.length) (hn2:n ≤ 40) (hlg:lgS L n ≤ 400):SpecH false Tryz.prog 27 [.sl false n 2 (L.flatMap opP)] [] (.v (.bool false)) []:=by
 refine SpecH.run T_ok ai Tryz.func27 rfl rfl rfl trivial rfl 1000 64 (fun R ok=>(.s 3 (Hn.inl T_ok ai false 27 0 (ay Tryz.prog 27 0) (fun (x:(i:Nat) ×' (hi:i ≤ n) ×' Unit)=>match x with | ⟨i,hi,_⟩=>CutS.mk [(0,D.sl false n 2 (flatMap opP L)),(3,nD (lgS L i)),(4,nD i)] [] 0) (fun (x:(i:Nat) ×' (hi:i ≤ n) ×' Unit)=>match x with | ⟨i,hi,_⟩=>n - i) [⟨Unit,.exit 0,fun x=>match x with | ()=>CutS.mk [(0,D.sl false n 2 (flatMap opP L)),(3,nD (lgS L n)),(4,nD n)] [] 0⟩] 1000 64 (fun | ⟨i,hi,_⟩,Q,next1,last1=>(.s 7 (.br (decide ((i:Int) < (n:Int))) (fun p0=>have p0f:=ba p0; (.s 4 (.t (decide ((i:Int) < 100)) (by (refine decide_eq_true ?_; (omega))) (.s 3 (.op ((↑(lgS L i):Int) + 10) zb (.s 3 (.chk (true && decide ((i:Int) < (n:Int)) && true) wg (.s 5 (.opt ((flatMap opP L)[i * 2 + 1]?) (D.sl false (length (Mb (getD L i ji))) 1 (map dB (Mb (getD L i ji)))) (lw (k:=2) (i:=i) (j:=1) (fun _=>rfl) om om rfl) (.s 2 (.opt (eo Mk false (↑(length (Mb (getD L i ji))):Int) 10000) (zI (min (↑(length (Mb (getD L i ji))):Int) 10000)) (qh _ _ _) (.s 2 (.op ((↑(lgS L i):Int) + 10 + min (↑(length (Mb (getD L i ji))):Int) 10000) zb (.s 4 (.ow ((i:Int) + 1) (.s 1 (.val 3 (zI ((↑(lgS L i):Int) + 10 + min (↑(length (Mb (getD L i ji))):Int) 10000)) (zN (lgS L (i + 1))) (by ( refine aO ?_; rw [lgS]; omega)) (.val 4 (zI ((i:Int) + 1)) (zN (i + 1)) nU (Hn.next next1 ⟨(i + 1),om,⟨⟩⟩ DF [] ro))))))))))))))))))) (fun p0=>have p0f:=bb p0; (.s 4 (.val 3 (zN (lgS L i)) (zN (lgS L n)) (by ( rw [show i = n from by omega])) (.val 4 (zN i) (zN n) (by ( rw [show i = n from by omega])) (Hn.last last1 0 (():Unit) rfl [] ro)))))))) (fun | ⟨i,hi,_⟩=>by kernel_rfl) ⟨(0),om,⟨⟩⟩ [] ro (bZ (fun | ()=>(.s 4 (.out [] [] (D.v (.bool (decide (400 < (↑(lgS L n):Int))))) [] R (ok _ _ (by (simp <;> (omega))) wr)))))))) (by kernel_rfl)
theorem Jy (L:List (Bool × List UInt8)) (n:Nat) (hn:n = L.length) (c:Nat) (hc:c = min n 100) (hlg:400 < lgS L c):SpecH false Tryz.prog 27 [.sl false n 2 (L.flatMap opP)] [] (.v (.bool true)) []:=by
 refine SpecH.run T_ok ai Tryz.func27 rfl rfl rfl trivial rfl 1000 64 (fun R ok=>(.s 3 (Hn.inl T_ok ai false 27 0 (ay Tryz.prog 27 0) (fun (x:(i:Nat) ×' (hi:i ≤ c) ×' Unit)=>match x with | ⟨i,hi,_⟩=>CutS.mk [(0,D.sl false n 2 (flatMap opP L)),(3,nD (lgS L i)),(4,nD i)] [] 0) (fun (x:(i:Nat) ×' (hi:i ≤ c) ×' Unit)=>match x with | ⟨i,hi,_⟩=>c - i) [⟨Unit,.exit 0,fun x=>match x with | ()=>CutS.mk [(0,D.sl false n 2 (flatMap opP L)),(3,nD (lgS L c)),(4,nD c)] [] 0⟩] 1000 64 (fun | ⟨i,hi,_⟩,Q,next1,last1=>(.s 7 (.br (decide ((i:Int) < (n:Int))) (fun p0=>have p0f:=ba p0; (.s 4 (.br (decide ((i:Int) < 100)) (fun p1=>have p1f:=ba p1; (.s 3 (.op ((↑(lgS L i):Int) + 10) zb (.s 3 (.chk (true && decide ((i:Int) < (n:Int)) && true) wg (.s 5 (.opt ((flatMap opP L)[i * 2 + 1]?) (D.sl false (length (Mb (getD L i ji))) 1 (map dB (Mb (getD L i ji)))) (lw (k:=2) (i:=i) (j:=1) (fun _=>rfl) om om rfl) (.s 2 (.opt (eo Mk false (↑(length (Mb (getD L i ji))):Int) 10000) (zI (min (↑(length (Mb (getD L i ji))):Int) 10000)) (qh _ _ _) (.s 2 (.op ((↑(lgS L i):Int) + 10 + min (↑(length (Mb (getD L i ji))):Int) 10000) zb (.s 4 (.ow ((i:Int) + 1) (.s 1 (.val 3 (zI ((↑(lgS L i):Int) + 10 + min (↑(length (Mb (getD L i ji))):Int) 10000)) (zN (lgS L (i + 1))) (by ( refine aO ?_; rw [lgS]; omega)) (.val 4 (zI ((i:Int) + 1)) (zN (i + 1)) nU (Hn.next next1 ⟨(i + 1),om,⟨⟩⟩ (by show c - (i + 1) < c - i; clear next1 last1; omega) [] ro))))))))))))))))) (fun p1=>have p1f:=bb p1; (.val 3 (zN (lgS L i)) (zN (lgS L c)) zd (.val 4 (zN i) (zN c) zd (Hn.last last1 0 (():Unit) rfl [] ro))))))) (fun p0=>have p0f:=bb p0; (.s 4 (.val 3 (zN (lgS L i)) (zN (lgS L c)) zd (.val 4 (zN i) (zN c) zd (Hn.last last1 0 (():Unit) rfl [] ro)))))))) (fun | ⟨i,hi,_⟩=>by kernel_rfl) ⟨(0),om,⟨⟩⟩ [] ro (bZ (fun | ()=>(.s 4 (.out [] [] (D.v (.bool (decide (400 < (↑(lgS L c):Int))))) [] R (ok _ _ (by (simp <;> (omega))) wr)))))))) (by kernel_rfl)
theorem Ga (sz ch mo:Nat) (lz:Bool) (hs:1 ≤ sz ∧ sz ≤ 32768) (hc:ch ≤ 256) (hmo:1 ≤ mo ∧ mo ≤ 65535):SpecH false Tryz.prog 11 [.agg [nD sz,nD ch,nD mo,bD lz]] [] (.tup [.agg [nD sz,nD ch,nD mo,bD lz,bB,bB,bB,iD 0,bD false],iD 0]) []:=by
 refine SpecH.run T_ok ai Tryz.func11 rfl rfl rfl trivial rfl 1000 64 (fun R ok=>(.s 10 (.cl 29 false [] (.fn I1 (@A3 (sz) (ch) (mo) (lz) om om om)) (.s 18 (.out [] [] (D.tup [D.agg [zN sz,zN ch,zN mo,D.v (.bool lz),zS,zS,zS,zI 0,D.v (.bool false)],zI 0]) [] R (ok _ _ wr wr)))))) (by kernel_rfl)
theorem Gb (sz ch mo:Int) (lz:Bool) (hS:StyV sz ch mo lz 8):SpecH false Tryz.prog 11 [.agg [iD sz,iD ch,iD mo,bD lz]] [] (.tup [.agg [iD 0,iD 0,iD 0,bD false,bB,bB,bB,iD 0,bD false],iD 8]) []:=by
 refine SpecH.run T_ok ai Tryz.func11 rfl rfl rfl trivial rfl 1000 64 (fun R ok=>(.s 10 (.cl 29 false [] (.fn I1 (@F5 (sz) (ch) (mo) (lz) (8) bz)) (.s 15 (.out [] [] (D.tup [D.agg [zI 0,zI 0,zI 0,D.v (.bool false),zS,zS,zS,zI 0,D.v (.bool false)],zI 8]) [] R (ok _ _ wr wr)))))) (by kernel_rfl)
theorem size_v (sz ch mo:Nat) (lz:Bool) (hs:1 ≤ sz ∧ sz ≤ 32768) (hc:ch ≤ 256) (hmo:1 ≤ mo ∧ mo ≤ 65535) (L:List (Bool × List UInt8)) (n:Nat) (hn:n = L.length) (hn2:n ≤ 40) (hlg:lgS L n ≤ 400) (htx:vx L n ≤ 400):SpecH false Tryz.prog 6 [.agg [nD sz,nD ch,nD mo,bD lz],.sl false n 2 (L.flatMap opP)] [] (.v (.bool true)) []:=by
 refine SpecH.run T_ok ai Tryz.func6 rfl rfl rfl trivial rfl 1000 64 (fun R ok=>(.s 4 (.cl 26 false [] (.fn JJ (@nT)) (.s 3 (.cl 27 false [] (.fn JK (@F9 (L) (n) om om om)) (.s 12 (.cl 11 false [] (.fn Lx (@Ga (sz) (ch) (mo) (lz) om om om)) (.s 19 (.nilc 120 120 (Blk.mk [zN sz,zN ch,zN mo,D.v (.bool lz),zS,zS,zS,zI 0,D.v (.bool false)] 28 false) 4 192 1 5 (.nilc 120 120 (Blk.mk [zN sz,zN ch,zN mo,D.v (.bool lz),D.ref 192 192 0 0 1,zS,zS,zI 0,D.v (.bool false)] 28 false) 5 200 1 5 (.nilc 120 120 (Blk.mk [zN sz,zN ch,zN mo,D.v (.bool lz),D.ref 192 192 0 0 1,D.ref 200 200 0 0 1,zS,zI 0,D.v (.bool false)] 28 false) 6 208 1 5 (Hn.inl T_ok ai false 133 0 (ay Tryz.prog 6 0) (fun (x:(i:Nat) ×' (H:List UInt8) ×' (W:List UInt8) ×' (P:List Bool) ×' (out:Nat) ×' (all:Nat) ×' (fl:Nat) ×' (hi:i ≤ n) ×' (hall:all ≤ vx L i) ×' (hfl:fl ≤ i) ×' (hH:H.length ≤ sz) ×' (hW:W.length < mo) ×' (hP:P.length < 8) ×' (hz:uP mo W.length P.length out all fl) ×' Unit)=>match x with | ⟨i,H,W,P,out,all,fl,hi,hall,hfl,hH,hW,hP,hz,_⟩=>CutS.mk [(1,D.sl false n 2 (flatMap opP L)),(2,D.ptr 0 0 0),(5,D.v (.bool true)),(6,D.ptr 8 8 0),(8,nD out),(9,nD all),(10,nD fl),(11,nD i)] [⟨0,0,0,0,.b ⟨[zN sz,zN ch,zN mo,D.v (.bool lz)],23,false⟩⟩,⟨8,8,120,120,.b ⟨[nD sz,nD ch,nD mo,bD lz,(D.ref 16 16 (0) (H.length) 1),(D.ref 24 24 (0) (W.length) 1),(D.ref 32 32 (0) ((pk P).length) 1),nD P.length,bD false],28,false⟩⟩,⟨16,16,192,192,.b ⟨H.map dB,5,true⟩⟩,⟨24,24,200,200,.b ⟨W.map dB,5,true⟩⟩,⟨32,32,208,208,.b ⟨(pk P).map dB,5,true⟩⟩] 40) (fun (x:(i:Nat) ×' (H:List UInt8) ×' (W:List UInt8) ×' (P:List Bool) ×' (out:Nat) ×' (all:Nat) ×' (fl:Nat) ×' (hi:i ≤ n) ×' (hall:all ≤ vx L i) ×' (hfl:fl ≤ i) ×' (hH:H.length ≤ sz) ×' (hW:W.length < mo) ×' (hP:P.length < 8) ×' (hz:uP mo W.length P.length out all fl) ×' Unit)=>match x with | ⟨i,H,W,P,out,all,fl,hi,hall,hfl,hH,hW,hP,hz,_⟩=>n - i) [⟨(H2:List UInt8) ×' (W2:List UInt8) ×' (P2:List Bool) ×' (out2:Nat) ×' (all2:Nat) ×' (fl2:Nat) ×' (hall2:all2 ≤ 400) ×' (hfl2:fl2 ≤ 40) ×' (hH2:H2.length ≤ sz) ×' (hW2:W2.length < mo) ×' (hP2:P2.length < 8) ×' (hz2:uP mo W2.length P2.length out2 all2 fl2) ×' Unit,.exit 0,fun x=>match x with | ⟨H2,W2,P2,out2,all2,fl2,hall2,hfl2,hH2,hW2,hP2,hz2,_⟩=>CutS.mk [(1,D.sl false n 2 (flatMap opP L)),(2,D.ptr 0 0 0),(5,D.v (.bool true)),(6,D.ptr 8 8 0),(8,nD out2),(9,nD all2),(10,nD fl2),(11,nD n)] [⟨0,0,0,0,.b ⟨[zN sz,zN ch,zN mo,D.v (.bool lz)],23,false⟩⟩,⟨8,8,120,120,.b ⟨[nD sz,nD ch,nD mo,bD lz,(D.ref 16 16 (0) (H2.length) 1),(D.ref 24 24 (0) (W2.length) 1),(D.ref 32 32 (0) ((pk P2).length) 1),nD P2.length,bD false],28,false⟩⟩,⟨16,16,192,192,.b ⟨H2.map dB,5,true⟩⟩,⟨24,24,200,200,.b ⟨W2.map dB,5,true⟩⟩,⟨32,32,208,208,.b ⟨(pk P2).map dB,5,true⟩⟩] 40⟩] 1000 64 (fun | ⟨i,H,W,P,out,all,fl,hi,hall,hfl,hH,hW,hP,hz,_⟩,Q,next1,last1=>(.s 5 (.br (decide ((i:Int) < (n:Int))) (fun p0=>have p0f:=ba p0; (.s 3 (.chk (true && decide ((i:Int) < (n:Int)) && true) wg (.s 5 (.opt ((flatMap opP L)[i * 2 + 0]?) (D.v (.bool (Mq (getD L i ji)))) (lw (k:=2) (i:=i) (j:=0) (fun _=>rfl) om om rfl) (.br (Mq (getD L i ji)) (fun p1=>(.s 5 (.call 21 false [] (true && (true && (true && (true && (true && (true && L5 (0 + length H * 1) (length (map dB H)) && true && ab (bif true && L2 (length H * 1) (length (map dB H)) then map dB H else take (length H * 1) (drop 0 (map dB H)))) && (true && (true && L5 (0 + length W * 1) (length (map dB W)) && true && ab (bif true && L2 (length W * 1) (length (map dB W)) then map dB W else take (length W * 1) (drop 0 (map dB W)))) && (true && (true && L5 (0 + length (pk P) * 1) (length (map dB (pk P))) && true && ab (bif true && L2 (length (pk P) * 1) (length (map dB (pk P))) then map dB (pk P) else take (length (pk P) * 1) (drop 0 (map dB (pk P))))) && true)))))) && true) (by (simp; done)) ([D.agg [zN sz,zN ch,zN mo,D.v (.bool lz),D.sl (L5 1 (length H)) (length H) 1 (bif true && L2 (length H * 1) (length (map dB H)) then map dB H else take (length H * 1) (drop 0 (map dB H))),D.sl (L5 1 (length W)) (length W) 1 (bif true && L2 (length W * 1) (length (map dB W)) then map dB W else take (length W * 1) (drop 0 (map dB W))),D.sl (L5 1 (length (pk P))) (length (pk P)) 1 (bif true && L2 (length (pk P) * 1) (length (map dB (pk P))) then map dB (pk P) else take (length (pk P) * 1) (drop 0 (map dB (pk P)))),zN (length P),D.v (.bool false)]]) _ F6 (true) wr _ _ _ (CallOk.fn (ax.of Tryz.func21 rfl rfl) (@wk (sz) (ch) (mo) (lz) om om om (H) (length H) om om (W) (length W) om om (P) (length (pk P)) om om)) (.s 62 (.op ((out:Int) + (↑(length (pk (jb sz ch lz H W P))):Int)) DG (.s 4 (.ow ((fl:Int) + 1) (.s 4 (.ow ((i:Int) + 1) (.s 1 (.nilc 8 8 (Blk.mk [zN sz,zN ch,zN mo,D.v (.bool lz),D.ref 120 120 0 (length (ko sz H W)) 1,zS,D.ref 121 121 0 0 1,zI 0,D.v (.bool false)] 28 false) 5 408 1 5 (.val 8 (zI ((out:Int) + (↑(length (pk (jb sz ch lz H W P))):Int))) (zN (out + length (pk (jb sz ch lz H W P)))) nU (.val 10 (zI ((fl:Int) + 1)) (zN (fl + 1)) nU (.val 11 (zI ((i:Int) + 1)) (zN (i + 1)) nU (Hn.next next1 ⟨(i + 1),(ko sz H W),([]),([]),(out + (pk (jb sz ch lz H W P)).length),(all),(fl + 1),om,(by (show _ ≤ vx L i + _; omega)),om,(by ( have z3:=ap sz H W; have z4:=ac (jb sz ch lz H W P); have z5:=kq (sz:=sz) (ch:=ch) (lz:=lz) (H:=H) (W:=W) (P:=P) om; omega)),(by (simp;  have z1:=ta om hz; have z2:=rD (L:=L) (i:=i) (n:=n) om; have z3:=ap sz H W; have z4:=ac (jb sz ch lz H W P); have z5:=kq (sz:=sz) (ch:=ch) (lz:=lz) (H:=H) (W:=W) (P:=P) om; omega)),(by (simp; done)),(by (exact F8 hP hz)),⟨⟩⟩ DF [(0,0),(8,8),(120,120),(408,408),(121,121)] ro))))))))))))))) (fun p1=>(.s 8 (.chk (true && decide ((i:Int) < (n:Int)) && true) wg (.s 5 (.opt ((flatMap opP L)[i * 2 + 1]?) (D.sl false (length (Mb (getD L i ji))) 1 (map dB (Mb (getD L i ji)))) (lw (k:=2) (i:=i) (j:=1) (fun _=>rfl) om om rfl) (.s 1 (.call 13 false [] (true && (true && (true && (true && (true && (true && L5 (0 + length H * 1) (length (map dB H)) && true && ab (bif true && L2 (length H * 1) (length (map dB H)) then map dB H else take (length H * 1) (drop 0 (map dB H)))) && (true && (true && L5 (0 + length W * 1) (length (map dB W)) && true && ab (bif true && L2 (length W * 1) (length (map dB W)) then map dB W else take (length W * 1) (drop 0 (map dB W)))) && (true && (true && L5 (0 + length (pk P) * 1) (length (map dB (pk P))) && true && ab (bif true && L2 (length (pk P) * 1) (length (map dB (pk P))) then map dB (pk P) else take (length (pk P) * 1) (drop 0 (map dB (pk P))))) && true)))))) && true) (by (simp; done)) ([D.agg [zN sz,zN ch,zN mo,D.v (.bool lz),D.sl (L5 1 (length H)) (length H) 1 (bif true && L2 (length H * 1) (length (map dB H)) then map dB H else take (length H * 1) (drop 0 (map dB H))),D.sl (L5 1 (length W)) (length W) 1 (bif true && L2 (length W * 1) (length (map dB W)) then map dB W else take (length W * 1) (drop 0 (map dB W))),D.sl (L5 1 (length (pk P))) (length (pk P)) 1 (bif true && L2 (length (pk P) * 1) (length (map dB (pk P))) then map dB (pk P) else take (length (pk P) * 1) (drop 0 (map dB (pk P)))),zN (length P),D.v (.bool false)],D.sl false (length (Mb (getD L i ji))) 1 (map dB (Mb (getD L i ji)))]) _ (by exact (Mi (D.sim.agg (Mi (D.sim.refl _) (Mi (D.sim.refl _) (Mi (D.sim.refl _) (Mi (D.sim.refl _) (Mi (D.sim.slw rfl (aV (by (simp; done)) |>.trans rfl)) (Mi (D.sim.slw rfl (aV (by (simp; done)) |>.trans rfl)) (Mi (D.sim.slw rfl (aV (by (simp; done)) |>.trans rfl)) (Mi (D.sim.refl _) (Mi (D.sim.refl _) trivial)))))))))) (Mi (D.sim.refl _) trivial))) (true) wr _ _ _ (CallOk.fn (ax.of Tryz.func13 rfl rfl) (@we (sz) (ch) (mo) (lz) om om om (H) (length H) om om (W) (length W) om om (P) (length (pk P)) om om (Mb (getD L i ji)) (length (Mb (getD L i ji))) om DG)) (.s 30 (.op ((out:Int) + (↑(length (Ls.O (i6 sz ch mo lz H P W (Mb (getD L i ji))))):Int)) (by ( have z7:=ta om (Bc (sz:=sz) (ch:=ch) (lz:=lz) (H:=H) (b:=(L.getD i ji).2) om hP hz); have z2:=rD (L:=L) (i:=i) (n:=n) om; omega)) (.s 5 (.chk (true && decide ((i:Int) < (n:Int)) && true) wg (.s 5 (.opt ((flatMap opP L)[i * 2 + 1]?) (D.sl false (length (Mb (getD L i ji))) 1 (map dB (Mb (getD L i ji)))) (lw (k:=2) (i:=i) (j:=1) (fun _=>rfl) om om rfl) (.s 3 (.op ((all:Int) + (↑(length (Mb (getD L i ji))):Int)) DG (.s 4 (.ow ((i:Int) + 1) (.s 1 (.val 8 (zI ((out:Int) + (↑(length (Ls.O (i6 sz ch mo lz H P W (Mb (getD L i ji))))):Int))) (zN (out + length (Ls.O (i6 sz ch mo lz H P W (Mb (getD L i ji)))))) nU (.val 9 (zI ((all:Int) + (↑(length (Mb (getD L i ji))):Int))) (zN (all + length (Mb (getD L i ji)))) nU (.val 11 (zI ((i:Int) + 1)) (zN (i + 1)) nU (Hn.next next1 ⟨(i + 1),((i6 sz ch mo lz H P W (L.getD i ji).2).H),((i6 sz ch mo lz H P W (L.getD i ji).2).w),((i6 sz ch mo lz H P W (L.getD i ji).2).P),(out + (i6 sz ch mo lz H P W (L.getD i ji).2).O.length),(all + (L.getD i ji).2.length),(fl),om,(by (show _ ≤ vx L i + _; omega)),om,(by (exact (rC om hH hP).h)),(by (exact (rC om hH hP).w)),(by (exact (rC om hH hP).p)),(by (exact Bc om hP hz)),⟨⟩⟩ DF [(0,0),(8,8),(160,160),(161,161),(162,162)] ro)))))))))))))))))))))))))))) (fun p0=>have p0f:=bb p0; (.val 11 (zN i) (zN n) nU (Hn.last last1 0 (⟨(H),(W),(P),(out),(all),(fl),(by ( have z9:=hall; rw [show i = n from by omega] at z9; omega)),om,om,om,om,om,⟨⟩⟩:(H2:List UInt8) ×' (W2:List UInt8) ×' (P2:List Bool) ×' (out2:Nat) ×' (all2:Nat) ×' (fl2:Nat) ×' (hall2:all2 ≤ 400) ×' (hfl2:fl2 ≤ 40) ×' (hH2:H2.length ≤ sz) ×' (hW2:W2.length < mo) ×' (hP2:P2.length < 8) ×' (hz2:uP mo W2.length P2.length out2 all2 fl2) ×' Unit) rfl [(0,0),(8,8),(16,16),(24,24),(32,32)] ro)))))) (fun | ⟨i,H,W,P,out,all,fl,hi,hall,hfl,hH,hW,hP,hz,_⟩=>by kernel_rfl) ⟨(0),([]),([]),([]),(0),(0),(0),om,om,om,(by (simp; done)),(by (simp <;> (omega))),(by (simp; done)),(by (exact F7 mo)),⟨⟩⟩ [(0,0),(120,120),(192,192),(200,200),(208,208)] ro (bZ (fun | ⟨H2,W2,P2,out2,all2,fl2,hall2,hfl2,hH2,hW2,hP2,hz2,_⟩=>(.s 5 (.call 23 false [] (true && (true && (true && (true && (true && (true && L5 (0 + length H2 * 1) (length (map dB H2)) && true && ab (bif true && L2 (length H2 * 1) (length (map dB H2)) then map dB H2 else take (length H2 * 1) (drop 0 (map dB H2)))) && (true && (true && L5 (0 + length W2 * 1) (length (map dB W2)) && true && ab (bif true && L2 (length W2 * 1) (length (map dB W2)) then map dB W2 else take (length W2 * 1) (drop 0 (map dB W2)))) && (true && (true && L5 (0 + length (pk P2) * 1) (length (map dB (pk P2))) && true && ab (bif true && L2 (length (pk P2) * 1) (length (map dB (pk P2))) then map dB (pk P2) else take (length (pk P2) * 1) (drop 0 (map dB (pk P2))))) && true)))))) && true) (by (simp; done)) ([D.agg [zN sz,zN ch,zN mo,D.v (.bool lz),D.sl (L5 1 (length H2)) (length H2) 1 (bif true && L2 (length H2 * 1) (length (map dB H2)) then map dB H2 else take (length H2 * 1) (drop 0 (map dB H2))),D.sl (L5 1 (length W2)) (length W2) 1 (bif true && L2 (length W2 * 1) (length (map dB W2)) then map dB W2 else take (length W2 * 1) (drop 0 (map dB W2))),D.sl (L5 1 (length (pk P2))) (length (pk P2)) 1 (bif true && L2 (length (pk P2) * 1) (length (map dB (pk P2))) then map dB (pk P2) else take (length (pk P2) * 1) (drop 0 (map dB (pk P2)))),zN (length P2),D.v (.bool false)]]) _ F6 (true) wr _ _ _ (CallOk.fn (ax.of Tryz.func23 rfl rfl) (@s5 (sz) (ch) (mo) (lz) om om om (H2) (length H2) om om (W2) (length W2) om om (P2) (length (pk P2)) om om)) (.s 42 (.opt (aw .i64 ((out2:Int) + (↑(length (pk (jE sz ch lz H2 W2 P2 1))):Int))) (zI (Mj Mk ((out2:Int) + (↑(length (pk (jE sz ch lz H2 W2 P2 1))):Int)))) (aD _ _) (.s 16 (.chk (true && !decide ((mo:Int) = 0)) (by (simp;  have z1:=ta om hz2; have z6:=Bd (sz:=sz) (ch:=ch) (lz:=lz) (H:=H2) (W:=W2) (P:=P2) om om hz2; omega)) (.opt (bi Mk (Mj Mk (N4 (all2:Int) (mo:Int)))) (zI ((all2:Int) / (mo:Int))) (aA (@bh  ((all2:Int)) ((mo:Int)) om om)) (.s 3 (.opt (aw .i64 ((fl2:Int) + (all2:Int) / (mo:Int))) (zI (Mj Mk ((fl2:Int) + (all2:Int) / (mo:Int)))) (aD _ _) (.s 3 (.opt (aw .i64 (Mj Mk ((fl2:Int) + (all2:Int) / (mo:Int)) + 1)) (zI (Mj Mk (Mj Mk ((fl2:Int) + (all2:Int) / (mo:Int)) + 1))) (aD _ _) (.s 3 (.opt (aw .i64 (5 * Mj Mk (Mj Mk ((fl2:Int) + (all2:Int) / (mo:Int)) + 1))) (zI (Mj Mk (5 * Mj Mk (Mj Mk ((fl2:Int) + (all2:Int) / (mo:Int)) + 1)))) (aD _ _) (.s 3 (.opt (aw .i64 ((all2:Int) + Mj Mk (5 * Mj Mk (Mj Mk ((fl2:Int) + (all2:Int) / (mo:Int)) + 1)))) (zI (Mj Mk ((all2:Int) + Mj Mk (5 * Mj Mk (Mj Mk ((fl2:Int) + (all2:Int) / (mo:Int)) + 1))))) (aD _ _) (.s 5 (.out [] [] (D.v (.bool (decide (Mj Mk ((out2:Int) + (↑(length (pk (jE sz ch lz H2 W2 P2 1))):Int)) ≤ Mj Mk ((all2:Int) + Mj Mk (5 * Mj Mk (Mj Mk ((fl2:Int) + (all2:Int) / (mo:Int)) + 1))))))) [] R (ok _ _ (by (exact DK (q:=all2 / mo) (Oo _ _).symm (Bd om hP2 hz2) om om (L8 (Pk _ _) om))) wr)))))))))))))))))))))))))))))))) (by kernel_rfl)
theorem size_b (sz ch mo:Int) (lz:Bool) (hS:StyV sz ch mo lz 8) (L:List (Bool × List UInt8)) (n:Nat) (hn:n = L.length) (hn2:n ≤ 40) (hlg:lgS L n ≤ 400):SpecH false Tryz.prog 6 [.agg [iD sz,iD ch,iD mo,bD lz],.sl false n 2 (L.flatMap opP)] [] (.v (.bool true)) []:=by
 refine SpecH.run T_ok ai Tryz.func6 rfl rfl rfl trivial rfl 1000 64 (fun R ok=>(.s 4 (.cl 26 false [] (.fn JJ (@nT)) (.s 3 (.cl 27 false [] (.fn JK (@F9 (L) (n) om om om)) (.s 12 (.cl 11 false [] (.fn Lx (@Gb (sz) (ch) (mo) (lz) om)) (.s 17 (.out [] [] (D.v (.bool true)) [] R (ok _ _ wr wr)))))))))) (by kernel_rfl)
theorem size_g (sz ch mo:Int) (lz:Bool) (L:List (Bool × List UInt8)) (n:Nat) (hn:n = L.length) (c:Nat) (hc:c = min n 100) (hlg:400 < lgS L c):SpecH false Tryz.prog 6 [.agg [iD sz,iD ch,iD mo,bD lz],.sl false n 2 (L.flatMap opP)] [] (.v (.bool true)) []:=by
 refine SpecH.run T_ok ai Tryz.func6 rfl rfl rfl trivial rfl 1000 64 (fun R ok=>(.s 4 (.cl 26 false [] (.fn JJ (@nT)) (.s 3 (.cl 27 false [] (.fn JK (@Jy (L) (n) om (c) bz om)) (.s 9 (.out [] [] (D.v (.bool true)) [] R (ok _ _ wr wr)))))))) (by kernel_rfl)
end Vp
end Go.Proofs.YtefjnofhgkjpmaaGreat
namespace Go.Vx
open Go.RowKit Go.Bw Go.ChangeShapes Go.WideShapes Go.ChangeAt

inductive Sh
 | int (k:IntKind)
 | bool
 | str
 | bytes
 | sl (e:Sh) (sz:Nat)
 | arr (k:IntKind) (n:Nat)
 | st (l:Sh)
 | nil
 | cons (a b:Sh)
def Sh.size:Sh → Nat
 | .int _=>1
 | .bool=>1
 | .str=>1
 | .bytes=>1
 | .sl _ _=>1
 | .arr _ n=>n
 | .st l=>l.size
 | .nil=>0
 | .cons a b=>a.size + b.size
def Sh.has:Sh → List D → Prop
 | .int k,ds=>∃ n,ds = [.v (.int k n)] ∧ (Qd k n).wf = true
 | .bool,ds=>∃ b,ds = [.v (.bool b)]
 | .str,ds=>∃ s:ByteArray,ds = [.v (.string s)] ∧ s.size ≤ maxLen
 | .bytes,ds=>∃ bs:List UInt8,ds = [.sl false bs.length 1 (bs.map dB)] ∧ bs.length ≤ maxLen
 | .sl e sz,ds=>∃ els:List (List D),ds = [.sl false els.length sz els.flatten] ∧ (∀ el ∈ els,e.has el) ∧ els.length ≤ maxLen
 | .arr k n,ds=>∃ zs:List Int,ds = zs.map (fun z=>D.v (.int k z)) ∧ zs.length = n ∧ ∀ z ∈ zs,(Qd k z).wf = true
 | .st l,ds=>l.has ds
 | .nil,ds=>ds = []
 | .cons a b,ds=>∃ d1 d2,ds = d1 ++ d2 ∧ a.has d1 ∧ b.has d2
mutual
def Sh.ty (P:Program):Sh → TypeId → Prop
 | .int k,t=>P.underlying t = some (.int k)
 | .bool,t=>P.underlying t = some .bool
 | .str,t=>P.underlying t = some .string
 | .bytes,t=>∃ te,P.underlying t = some (.slice te) ∧ P.cellsOf te = 1 ∧ P.underlying te = some (.int .u8)
 | .sl e sz,t=>∃ te,P.underlying t = some (.slice te) ∧ P.cellsOf te = sz ∧ 0 < sz ∧ e.size = sz ∧ e.ty P te
 | .arr k n,t=>∃ te,P.underlying t = some (.array n te) ∧ P.cellsOf te = 1 ∧ P.cellsOf t = n ∧ P.underlying te = some (.int k)
 | .st l,t=>∃ fs,P.underlying t = some (.struct fs) ∧ P.cellsOf t = l.size ∧ l.fty P 0 fs.toList
 | .nil,_=>False
 | .cons _ _,_=>False
def Sh.fty (P:Program):Sh → Nat → List Field → Prop
 | .nil,_,[]=>True
 | .cons a b,off,f :: r=>f.offset = off ∧ P.cellsOf f.type = a.size ∧ a.ty P f.type ∧ b.fty P (off + a.size) r
 | _,_,_=>False
end
def CR (E:Env) (w:World) (ds:List D) (us:List Value):Prop:=us.length = ds.length ∧ ∀ (i:Nat) d u,ds[i]? = some d → us[i]? = some u → RD E w d u ∧ u.oneCell' = true
theorem CR.append {E:Env} {w:World} {d1 d2:List D} {u1 u2:List Value} (h1:CR E w d1 u1) (h2:CR E w d2 u2):CR E w (d1 ++ d2) (u1 ++ u2):=by
 refine ⟨by simp [h1.1,h2.1],fun i d u hd hu=>?_⟩
 by_cases hi:i < d1.length
 ·rw [List.getElem?_append_left hi] at hd
  rw [List.getElem?_append_left (by have:=h1.1; omega)] at hu
  exact h1.2 i d u hd hu
 ·rw [List.getElem?_append_right (by omega)] at hd
  rw [List.getElem?_append_right (by have:=h1.1; omega),h1.1] at hu
  exact h2.2 _ d u hd hu
theorem CR.one {E:Env} {w:World} {d:D} {u:Value} (h:RD E w d u) (h1:u.oneCell' = true):CR E w [d] [u]:=⟨rfl,fun i d' u' hd hu=>by
 cases i with
 | zero=>simp at hd hu; subst hd hu; exact ⟨h,h1⟩
 | succ i=>simp at hd⟩
theorem CR.nil (E:Env) (w:World):CR E w [] []:=⟨rfl,fun i d u hd=>by simp at hd⟩
theorem CR.flatten {E:Env} {w:World}:∀ {els:List (List D)} {vs:List (List Value)},els.length = vs.length → (∀ (i:Nat) el v,els[i]? = some el → vs[i]? = some v → CR E w el v) → CR E w els.flatten vs.flatten
 | [],[],_,_=>CR.nil E w
 | e :: els,v :: vs,hl,h=>by
  rw [Oj,Oj]
  exact (h 0 e v rfl rfl).append (CR.flatten (by simpa using hl) fun i el v' h1 h2=>h (i + 1) el v' (by simpa using h1) (by simpa using h2))
 | [],_ :: _,hl,_=>by simp at hl
 | _ :: _,[],hl,_=>by simp at hl

section
variable {H:Type} {enc:TypeId × Value → H} {P:Program} {w:World}
theorem cZ {α:Type} {sz:Nat} (hs:0 < sz):∀ {l:List (List α)},(∀ x ∈ l,x.length = sz) → ∀ i:Nat,l.flatten[i]? = (l[i / sz]?).bind (·[i % sz]?)
 | [],_,i=>by simp
 | x :: l,h,i=>by
  rw [Oj]
  have hx:=h x Mp
  by_cases hi:i < sz
  ·rw [List.getElem?_append_left (by omega),O8 hi,M9 hi]; rfl
  ·rw [List.getElem?_append_right (by omega),cZ hs (fun y hy=>h y (Mn _ hy)) (i - x.length),hx]
   have e1:i / sz = (i - sz) / sz + 1:=by
    rw [← Nat.add_div_right _ hs]; congr 1; omega
   have e2:i % sz = (i - sz) % sz:=by
    conv=>lhs; rw [show i = (i - sz) + sz by omega,Nat.add_mod_right]
   rw [e1,e2,List.getElem?_cons_succ]
theorem cm {α:Type} {sz:Nat}:∀ {l:List (List α)},(∀ x ∈ l,x.length = sz) → l.flatten.length = l.length * sz
 | [],_=>by simp
 | x :: l,h=>by
  rw [Oj,L6,h x Mp,cm (fun y hy=>h y (Mn _ hy)),Mx,MY]; omega
theorem rE {E:Env} (hE:∀ b,¬ E.own b) {a:Option Addr} {cap:Nat} {bs:List UInt8} (h:BRow w a cap bs):RD E w (.sl false bs.length 1 (bs.map dB)) (.slice a bs.length cap):=by
 obtain ⟨h1,h2,h3,h4,h5⟩:=h
 refine .sl false bs.length 1 _ a cap (bs.map bv) (by simp) (fun i d u hd hu=>?_) (fun u hu=>?_) (by simp) (N0) ⟨h2,h3⟩ (fun h=>⟨h4 h,rfl⟩) ?_
 ·rw [List.getElem?_map,MW] at hd hu
  obtain ⟨x,hx,rfl⟩:=hd
  obtain ⟨y,hy,rfl⟩:=hu
  rw [hx] at hy; cases hy
  exact .v _ rfl
 ·simp only [O0] at hu
  obtain ⟨x,_,rfl⟩:=hu; rfl
 ·rcases h5 with h | ⟨b,off,e,hb,hc⟩
  ·exact .inl h
  ·exact .inr ⟨b,off,e,hb,hE b,hc⟩
theorem eH {α β:Type} {R:α → β → Prop}:∀ (l:List α),(∀ x ∈ l,∃ y,R x y) → ∃ m:List β,m.length = l.length ∧ ∀ (i:Nat) x y,l[i]? = some x → m[i]? = some y → R x y
 | [],_=>⟨[],rfl,fun i x y h=>by simp at h⟩
 | x :: l,h=>by
  obtain ⟨y,hy⟩:=h x Mp
  obtain ⟨m,hl,hm⟩:=eH l fun x hx=>h x (Mn _ hx)
  refine ⟨y :: m,by simp [hl],fun i a b h1 h2=>?_⟩
  cases i with
  | zero=>simp at h1 h2; subst h1 h2; exact hy
  | succ i=>exact hm i a b (by simpa using h1) (by simpa using h2)
theorem nW:∀ (els:List (List D)),(∀ el ∈ els,(Sh.int .u8).has el) → ∃ bs:List UInt8,bs.length = els.length ∧ els.flatten = bs.map dB
 | [],_=>⟨[],rfl,rfl⟩
 | e :: r,h=>by
  obtain ⟨bs,h1,h2⟩:=nW r fun el hel=>h el (Mn _ hel)
  obtain ⟨n,rfl,hw⟩:=h e Mp
  refine ⟨M1 n.toNat :: bs,by simp [h1],?_⟩
  rw [Oj,h2,NL]
  show D.v (.int .u8 n) :: bs.map dB = _
  unfold dB
  rw [byte_of n hw]
theorem els_map {α:Type} {f:α → List D} {p:α → Prop}:∀ (els:List (List D)),(∀ el ∈ els,∃ x,el = f x ∧ p x) → ∃ xs:List α,els = xs.map f ∧ ∀ x ∈ xs,p x
 | [],_=>⟨[],rfl,fun x h=>by cases h⟩
 | e :: r,h=>by
  obtain ⟨xs,h1,h2⟩:=els_map r fun el hel=>h el (Mn _ hel)
  obtain ⟨x,rfl,hx⟩:=h e Mp
  exact ⟨x :: xs,by simp [h1],fun y hy=>by
   rcases List.mem_cons.1 hy with rfl | hy
   ·exact hx
   ·exact h2 y hy⟩
mutual
theorem Sh.openT:∀ (sh:Sh) (t:TypeId) (fuel:Nat) (cs:List Value) (x:DataW H × List MemPlace) (E:Env),(∀ b,¬ E.own b) → sh.ty P t → DataW.trod enc P w 0 (fun _=>true) true fuel t cs = some x → ∃ ds,sh.has ds ∧ ds.length = sh.size ∧ CR E w ds cs
 | .int k,t,fuel,cs,x,E,hE,ht,h=>by
  obtain ⟨n,rfl,_,hw⟩:=DataW.trod_int ht h
  exact ⟨_,⟨n,rfl,hw⟩,rfl,CR.one (.v _ rfl) rfl⟩
 | .bool,t,fuel,cs,x,E,hE,ht,h=>by
  obtain ⟨b,rfl,_⟩:=DataW.trod_bool ht h
  exact ⟨_,⟨b,rfl⟩,rfl,CR.one (.v _ rfl) rfl⟩
 | .str,t,fuel,cs,x,E,hE,ht,h=>by
  obtain ⟨s,rfl,_,hm⟩:=DataW.trod_string ht h
  exact ⟨_,⟨s,rfl,hm⟩,rfl,CR.one (.v _ rfl) rfl⟩
 | .bytes,t,fuel,cs,x,E,hE,ht,h=>by
  obtain ⟨te,ht,hc,he⟩:=ht
  rcases O9 ht h with ⟨rfl,_⟩ | ⟨a,len,cap,elems,rest,n,_,rfl,_⟩
  ·obtain ⟨a,cap,bs,hv,hr⟩:=bytes_cell (v:=.slice none 0 0) ht he hc h
   exact ⟨[.sl false 0 1 []],⟨[],rfl,MP _⟩,rfl,CR.one (.sl false 0 1 [] none 0 [] rfl (fun i d u h=>by simp at h) (fun u h=>by cases h) (by simp) N0 ⟨Mh _,by decide⟩ (fun _=>⟨rfl,rfl⟩) (.inl rfl)) rfl⟩
  ·obtain ⟨a,cap,bs,hv,hr⟩:=bytes_cell (v:=.slice (some a) len cap) ht he hc h
   cases hv
   have hmx:bs.length ≤ maxLen:=by
    obtain ⟨_,h2,h3,_⟩:=hr
    exact L8 h2 h3
   exact ⟨[.sl false bs.length 1 (bs.map dB)],⟨bs,rfl,hmx⟩,rfl,CR.one (rE hE hr) rfl⟩
 | .sl e sz,t,fuel,cs,x,E,hE,ht,h=>by
  obtain ⟨te,ht,hsz,hpos,hes,hte⟩:=ht
  rcases O9 ht h with ⟨rfl,_⟩ | ⟨a,len,cap,elems,rest,n,_,rfl,_,_,hlc,hm,hlen,hel,_,_⟩
  ·refine ⟨[.sl false 0 sz []],⟨[],rfl,(fun el h=>by cases h),MP _⟩,rfl,CR.one ?_ rfl⟩
   exact .sl false 0 sz [] none 0 [] rfl (fun i d u h=>by simp at h) (fun u h=>by cases h) (by simp) hpos ⟨Mh _,by decide⟩ (fun _=>⟨rfl,rfl⟩) (.inl rfl)
  ·have hspot0:len = 0 ∨ a.spot = none:=by
    rcases Oa len with h0 | h0
    ·exact .inl h0
    ·right
     have h1:=hel 0 h0
     rw [hsz,List.getElem?_eq_getElem (by omega),OD] at h1
     obtain ⟨us,hus,_⟩:=h1
     obtain ⟨_,q1,q2⟩:=World.cells?_some hus
     have:=q2 0 hpos
     rw [List.getElem?_eq_getElem (by omega)] at this
     simpa [Addr.add] using World.cell?_spot this
   rcases hspot0 with rfl | hspot
   ·have hcap:cap ≤ dW:=hm
    refine ⟨[.sl false 0 sz []],⟨[],rfl,(fun el h=>by cases h),MP _⟩,rfl,CR.one ?_ rfl⟩
    exact .sl false 0 sz [] (some a) cap [] rfl (fun i d u h=>by simp at h) (fun u h=>by cases h) (by simp) hpos ⟨MP _,hcap⟩ (fun h=>by cases h) (.inl rfl)
   obtain ⟨b,off,spot⟩:=a
   have hspot:spot = none:=hspot
   subst hspot
   have each:∀ i,i < len → ∃ us:List Value,us.length = sz ∧ (∀ j,j < sz → w.cell? ⟨b,off + (i * sz + j),none⟩ = us[j]?) ∧ ∃ ds,e.has ds ∧ ds.length = sz ∧ CR E.cl w ds us:=fun i hi=>by
    have h1:=hel i hi
    have hi' : i < elems.length:=by omega
    rw [hsz,List.getElem?_eq_getElem hi', OD] at h1
    obtain ⟨us,hus,hr⟩:=h1
    obtain ⟨_,q1,q2⟩:=World.cells?_some hus
    obtain ⟨ds,q3,q4,q5⟩:=Sh.openT e te n us _ E.cl hE hte hr
    refine ⟨us,q1,fun j hj=>?_,ds,q3,q4.trans hes,q5⟩
    rw [← q2 j hj,Ng,Ng,Nd]
   obtain ⟨usl,hl1,hu⟩:=eH (MQ len) (R:=fun i us=>us.length = sz ∧ (∀ j,j < sz → w.cell? ⟨b,off + (i * sz + j),none⟩ = us[j]?) ∧ ∃ ds,e.has ds ∧ ds.length = sz ∧ CR E.cl w ds us) fun i hi=>each i (List.mem_range.1 hi)
   obtain ⟨els,hl2,hd⟩:=eH usl (R:=fun us ds=>e.has ds ∧ ds.length = sz ∧ CR E.cl w ds us) fun us hus=>by
    obtain ⟨i,hi⟩:=List.getElem?_of_mem hus
    have hlt:i < len:=by have:=(List.getElem?_eq_some_iff.1 hi).1; simp at hl1; omega
    exact (hu i i us (by simp [hlt]) hi).2.2
   rw [Nh] at hl1
   have hul:∀ x ∈ usl,x.length = sz:=fun us hus=>by
    obtain ⟨i,hi⟩:=List.getElem?_of_mem hus
    have hlt:i < len:=by have:=(List.getElem?_eq_some_iff.1 hi).1; omega
    exact (hu i i us (by simp [hlt]) hi).1
   have hfind:∀ {i el},els[i]? = some el → ∃ us,usl[i]? = some us ∧ e.has el ∧ el.length = sz ∧ CR E.cl w el us:=fun {i el} hi=>by
    have hlt:i < usl.length:=by have:=(List.getElem?_eq_some_iff.1 hi).1; omega
    exact ⟨usl[i],List.getElem?_eq_getElem hlt,hd i _ el (List.getElem?_eq_getElem hlt) hi⟩
   have hel2:∀ x ∈ els,e.has x ∧ x.length = sz:=fun el hel=>by
    obtain ⟨i,hi⟩:=List.getElem?_of_mem hel
    obtain ⟨us,_,q1,q2,_⟩:=hfind hi
    exact ⟨q1,q2⟩
   have hcr:CR E.cl w els.flatten usl.flatten:=CR.flatten hl2 fun i el us h1 h2=>(hd i us el h2 h1).2.2
   refine ⟨_,⟨els,rfl,fun el hel=>(hel2 el hel).1,by omega⟩,rfl,CR.one ?_ rfl⟩
   have hlen' : els.length = len:=by omega
   rw [show els.length = len from hlen']
   have hcap:cap ≤ dW:=hm
   refine .sl false len sz els.flatten (some ⟨b,off,none⟩) cap usl.flatten hcr.1 (fun i d u h1 h2=>(hcr.2 i d u h1 h2).1) (fun u hu=>?_) (by rw [cm fun x hx=>(hel2 x hx).2,hlen']) hpos ⟨hlc,hcap⟩ (fun h=>by cases h) ?_
   ·obtain ⟨i,hi⟩:=List.getElem?_of_mem hu
    have hlt:i < els.flatten.length:=by have:=(List.getElem?_eq_some_iff.1 hi).1; rw [hcr.1] at this; exact this
    exact (hcr.2 i _ u (List.getElem?_eq_getElem hlt) hi).2
   ·rcases Oa len with h0 | h0
    ·exact .inl h0
    ·right
     have cellat:∀ (i:Nat) u,usl.flatten[i]? = some u → w.cell? ⟨b,off + i,none⟩ = some u:=fun i u hi=>by
      rw [cZ hpos hul,OD] at hi
      obtain ⟨us,h1,h2⟩:=hi
      have hlt:i / sz < len:=by have:=(List.getElem?_eq_some_iff.1 h1).1; omega
      have:=(hu (i / sz) (i / sz) us (by simp [hlt]) h1).2.1 (i % sz) (Qe _ hpos)
      rw [h2] at this
      rw [← this]; congr 2
      have:=P4 i sz
      rw [Nk] at this; omega
     have hlt0:0 < usl.flatten.length:=by rw [cm hul,hl1]; exact Nat.mul_pos h0 hpos
     have hc0:=cellat 0 _ (List.getElem?_eq_getElem hlt0)
     exact ⟨b,off,rfl,block_lt_of_cell hc0,hE b,cellat⟩
 | .arr k n,t,fuel,cs,x,E,hE,ht,h=>by
  obtain ⟨te,ht,hc,hn,he⟩:=ht
  obtain ⟨xs,m,_,_,hl,hx,hel⟩:=DataW.trod_array ht h
  obtain ⟨zs,h1,h2⟩:=eH (MQ n) (R:=fun i z=>cs[i]? = some (.int k z) ∧ (Qd k z).wf = true) fun i hi=>by
   have hi:=List.mem_range.1 hi
   have:=hel i hi
   rw [hc,My,List.getElem?_eq_getElem (by omega)] at this
   obtain ⟨z,hz,_,hw⟩:=DataW.trod_int he this
   refine ⟨z,?_,hw⟩
   have h3:(ME 1 (MI i cs))[0]? = some (.int k z):=by rw [hz]; rfl
   rw [List.getElem?_take] at h3
   simpa using h3
  rw [Nh] at h1
  refine ⟨zs.map fun z=>.v (.int k z),⟨zs,rfl,h1,fun z hz=>?_⟩,by rw [Mg,h1]; rfl,by rw [Mg]; omega,fun i d u hd hu=>?_⟩
  ·obtain ⟨i,hi⟩:=List.getElem?_of_mem hz
   have hlt:i < n:=by have:=(List.getElem?_eq_some_iff.1 hi).1; omega
   exact (h2 i i z (by simp [hlt]) hi).2
  ·rw [List.getElem?_map,MW] at hd
   obtain ⟨z,hz,rfl⟩:=hd
   have hlt:i < n:=by have:=(List.getElem?_eq_some_iff.1 hz).1; omega
   have:=(h2 i i z (by simp [hlt]) hz).1
   rw [hu] at this
   cases this
   exact ⟨.v _ rfl,rfl⟩
 | .st l,t,fuel,cs,x,E,hE,ht,h=>by
  obtain ⟨fs,ht,hc,hf⟩:=ht
  obtain ⟨xs,n,_,_,hl,hxl,hfs⟩:=DataW.trod_struct ht h
  obtain ⟨ds,q1,q2,q3⟩:=Sh.openF l 0 fs.toList n cs E hE hf (by omega) fun f hf=>by
   obtain ⟨i,hi⟩:=List.getElem?_of_mem hf
   have hi' : fs[i]? = some f:=by simpa using hi
   have hlt:i < xs.length:=by have:=(List.getElem?_eq_some_iff.1 hi).1; simp at this; omega
   exact ⟨_,(hfs i f hi').trans (List.getElem?_eq_getElem hlt)⟩
  exact ⟨ds,q1,q2,by simpa using q3⟩
 | .nil,_,_,_,_,_,_,ht,_=>ht.elim
 | .cons _ _,_,_,_,_,_,_,ht,_=>ht.elim
theorem Sh.openF:∀ (l:Sh) (off:Nat) (fs:List Field) (n:Nat) (cs:List Value) (E:Env),(∀ b,¬ E.own b) → l.fty P off fs → cs.length = off + l.size → (∀ f ∈ fs,∃ x,DataW.trod enc P w 0 (fun _=>true) true n f.type ((cs.drop f.offset).take (P.cellsOf f.type)) = some x) → ∃ ds,l.has ds ∧ ds.length = l.size ∧ CR E w ds (cs.drop off)
 | .nil,off,[],n,cs,E,hE,hf,hl,h=>⟨[],rfl,rfl,by rw [Nb (by simp only [Sh.size] at hl; omega)]; exact CR.nil E w⟩
 | .cons a b,off,f :: r,n,cs,E,hE,hf,hl,h=>by
  obtain ⟨ho,hc,ha,hb⟩:=hf
  simp only [Sh.size] at hl
  obtain ⟨x,hx⟩:=h f Mp
  rw [ho,hc] at hx
  obtain ⟨d1,p1,p2,p3⟩:=Sh.openT a f.type n _ x E hE ha hx
  obtain ⟨d2,q1,q2,q3⟩:=Sh.openF b (off + a.size) r n cs E hE hb (by omega) fun g hg=>h g (Mn _ hg)
  refine ⟨d1 ++ d2,⟨d1,d2,rfl,p1,q1⟩,by simp only [L6,p2,q2,Sh.size],?_⟩
  have e:cs.drop off = (cs.drop off).take a.size ++ cs.drop (off + a.size):=by rw [← Ps]; exact (NY _ _).symm
  rw [e]
  exact p3.append q3
 | .nil,_,_ :: _,_,_,_,_,hf,_,_=>hf.elim
 | .cons _ _,_,[],_,_,_,_,hf,_,_=>hf.elim
 | .int _,_,_,_,_,_,_,hf,_,_=>by cases hf
 | .bool,_,_,_,_,_,_,hf,_,_=>by cases hf
 | .str,_,_,_,_,_,_,hf,_,_=>by cases hf
 | .bytes,_,_,_,_,_,_,hf,_,_=>by cases hf
 | .sl _ _,_,_,_,_,_,_,hf,_,_=>by cases hf
 | .arr _ _,_,_,_,_,_,_,hf,_,_=>by cases hf
 | .st _,_,_,_,_,_,_,hf,_,_=>by cases hf
end
def Sh.simple:Sh → Bool
 | .arr _ _=>false
 | .st _=>false
 | .nil=>false
 | .cons _ _=>false
 | _=>true
def Sh.hasV:Sh → D → Prop
 | .st l,d=>∃ ds,d = .agg ds ∧ l.has ds
 | .arr k n,d=>∃ zs:List Int,d = .agg (zs.map (fun z=>D.v (.int k z))) ∧ zs.length = n ∧ ∀ z ∈ zs,(Qd k z).wf = true
 | .int k,d=>∃ n,d = .v (.int k n) ∧ (Qd k n).wf = true
 | .bool,d=>∃ b,d = .v (.bool b)
 | .str,d=>∃ s:ByteArray,d = .v (.string s) ∧ s.size ≤ maxLen
 | .bytes,d=>∃ bs:List UInt8,d = .sl false bs.length 1 (bs.map dB) ∧ bs.length ≤ maxLen
 | .sl e sz,d=>∃ els:List (List D),d = .sl false els.length sz els.flatten ∧ (∀ el ∈ els,e.has el) ∧ els.length ≤ maxLen
 | _,_=>False
theorem Sh.hasV_of {sh:Sh} {d:D} (h:sh.has [d]) (hs:sh.size = 1) (hn:sh.simple = true):sh.hasV d:=by
 cases sh with
 | int k=>obtain ⟨n,e,h⟩:=h; exact ⟨n,(List.cons.inj e).1,h⟩
 | bool=>obtain ⟨n,e⟩:=h; exact ⟨n,(List.cons.inj e).1⟩
 | str=>obtain ⟨n,e,h⟩:=h; exact ⟨n,(List.cons.inj e).1,h⟩
 | bytes=>obtain ⟨n,e,h⟩:=h; exact ⟨n,(List.cons.inj e).1,h⟩
 | sl e sz=>obtain ⟨n,e,h⟩:=h; exact ⟨n,(List.cons.inj e).1,h⟩
 | _=>cases hn
theorem Sh.openV {sh:Sh} {t:TypeId} {v:Value} {r:Reach} {base:Nat} (ht:sh.ty P t) (o:Value.okWide P w r base t v) (h:Bw.Tr enc P w t v) {E:Env} (hE:∀ b,¬ E.own b):∃ d,sh.hasV d ∧ RD E w d v:=by
 obtain ⟨dd,p,fuel,hf⟩:=h
 have one:∀ {sh:Sh},v.cells = #[v] → sh.size = 1 → sh.simple = true → sh.ty P t → ∃ d,sh.hasV d ∧ RD E w d v:=fun {sh} hv hs hn ht=>by
  obtain ⟨ds,h1,h2,h3⟩:=Sh.openT sh t fuel _ _ E hE ht hf
  rw [hv] at h3
  rw [hs] at h2
  match ds,h2 with
  | [d],_=>exact ⟨d,Sh.hasV_of h1 hs hn,(h3.2 0 d v rfl rfl).1⟩
 cases sh with
 | int k=>obtain ⟨n,rfl⟩:=okWide_int ht o; exact one (sh:=.int k) rfl rfl rfl ht
 | bool=>obtain ⟨b,rfl⟩:=okWide_bool ht o; exact one (sh:=.bool) rfl rfl rfl ht
 | str=>obtain ⟨b,rfl⟩:=okWide_string ht o; exact one (sh:=.str) rfl rfl rfl ht
 | bytes =>
  obtain ⟨te,h1,h2⟩:=ht
  obtain ⟨a,len,cap,rfl⟩:=okWide_slice h1 o
  exact one (sh:=.bytes) rfl rfl rfl ⟨te,h1,h2⟩
 | sl e sz =>
  obtain ⟨te,h1,h2⟩:=ht
  obtain ⟨a,len,cap,rfl⟩:=okWide_slice h1 o
  exact one (sh:=.sl e sz) rfl rfl rfl ⟨te,h1,h2⟩
 | arr k n =>
  obtain ⟨te,g1,g2,g3,g4⟩:=ht
  obtain ⟨zs,rfl,q1,q2⟩:=open_array g1 g4 g2 g3 o ⟨dd,p,fuel,hf⟩
  refine ⟨.agg (zs.map fun z=>.v (.int k z)),⟨zs,rfl,q1,q2⟩,?_⟩
  exact RD.agg (E:=E) (w:=w) _ (zs.map fun z=>MS k z) (by simp) (fun i d u a b=>by
   rw [List.getElem?_map,MW] at a b
   obtain ⟨z,hz,rfl⟩:=a
   obtain ⟨y,hy,rfl⟩:=b
   rw [hz] at hy; cases hy
   exact .v _ rfl) fun u hu=>by
   obtain ⟨z,_,rfl⟩:=List.mem_map.1 hu; rfl
 | st l =>
  obtain ⟨fs,h1,h2⟩:=ht
  obtain ⟨cs,rfl,_⟩:=okWide_struct h1 o
  obtain ⟨ds,q1,q2,q3⟩:=Sh.openT (.st l) t fuel _ _ E hE ⟨fs,h1,h2⟩ hf
  refine ⟨.agg ds,⟨ds,rfl,q1⟩,?_⟩
  have:=RD.agg (E:=E) (w:=w) ds cs.toList q3.1 (fun i d u a b=>(q3.2 i d u a b).1) fun u hu=>by
   obtain ⟨i,hi⟩:=List.getElem?_of_mem hu
   have hlt:i < ds.length:=by have:=(List.getElem?_eq_some_iff.1 hi).1; have:=q3.1; simp [Pr] at this; simp at *; omega
   exact (q3.2 i _ u (List.getElem?_eq_getElem hlt) hi).2
  simpa using this
 | nil=>exact ht.elim
 | cons a b=>exact ht.elim
def E0:Env:=dR (fun _=>False) (fun _=>none) 0
theorem E0_own:∀ b,¬ E0.own b:=fun b h=>by
 rcases h with h | ⟨j,hj,_⟩
 ·exact h
 ·cases hj
theorem rd_nil (w:World):∀ (j:Nat) d u,([]:List D)[j]? = some d → ([]:List Value)[j]? = some u → RD E0 w d u:=fun j d u h=>by simp at h
theorem rd_cons {d:D} {v:Value} {ds:List D} {vs:List Value} (h:RD E0 w d v) (k:∀ (j:Nat) d u,ds[j]? = some d → vs[j]? = some u → RD E0 w d u):∀ (j:Nat) d' u,(d :: ds)[j]? = some d' → (v :: vs)[j]? = some u → RD E0 w d' u:=fun j d' u h1 h2=>by
 cases j with
 | zero=>simp at h1 h2; subst h1 h2; exact h
 | succ j=>exact k j d' u (by simpa using h1) (by simpa using h2)
theorem SpecH.gives {f:FuncId} {ds:List D} {c:Value} (h:SpecH false P f ds [] (.v c) []) {args:List Value} (hl:args.length = ds.length) (ha:∀ (j:Nat) d u,ds[j]? = some d → args[j]? = some u → RD E0 w d u):Calls P f args.toArray w (Gives w c):=by
 refine (h.2 (fun _=>False) (fun _=>none) w args (fun x hx=>hx.elim) (fun j b hb=>by simp at hb) (fun i j x hi=>by cases hi) hl ha).mono ?_
 rintro e w' ⟨u,rfl,hfr,φ,_,hr,_⟩
 cases hr with
 | v c h=>exact ⟨rfl,(hfr.mono (M' := fun k=>w.heap.size ≤ k) fun x hx=>by
   rcases hx with hx | ⟨j,hj,_⟩
   ·exact hx
   ·cases hj).below⟩
theorem Fm {ts:List TypeId} {ds:List (DataW H)} (h:(DataW.weightsEach P ts ds).all (· ≤ reachBytes) = true) {j:Nat} {t e:TypeId} {d:DataW H} {v:Value} {p:List MemPlace} (ht:ts[j]? = some t) (hd:ds[j]? = some d) (hu:P.underlying t = some (.slice e))
  (hr:DataW.Trod enc P w 0 (fun _=>true) true t v d p) {a:Option Addr} {len cap:Nat} (hv:v = .slice a len cap):len * P.bytesOf e ≤ reachBytes:=by
 subst hv
 obtain ⟨fuel,hf⟩:=hr
 rcases O9 hu hf with ⟨h0,_⟩ | ⟨a', len', cap', elems,rest,n,_,hcs,hx,_,_,_,hlen,_⟩
 ·have h0:Value.slice a len cap = .slice none 0 0:=(List.cons.inj h0).1
  cases h0
  omega
 ·have hcs:Value.slice a len cap = .slice (some a') len' cap' := (List.cons.inj hcs).1
  cases hcs
  have hd' : d = .slice (elems.map (·.1)) (rest.map (·.1)):=congrArg Mq hx
  subst hd'
  have:=sized_slice h ht hd hu
  simp only [Mg,hlen] at this
  have h2:len * P.bytesOf e ≤ (len + rest.length) * P.bytesOf e:=MJ _ (OL _ _)
  omega
end
end Go.Vx

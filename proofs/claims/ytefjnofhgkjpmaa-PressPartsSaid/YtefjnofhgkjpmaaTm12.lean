/- Part 12. -/
import Derived.Test.YtefjnofhgkjpmaaTm11
import Derived.Test.YtefjnofhgkjpmaaTm5
import Derived.Test.YtefjnofhgkjpmaaOpen
import Derived.SizedLaws
set_option linter.unusedVariables false
set_option linter.unusedSimpArgs false
set_option maxRecDepth 100000
set_option maxHeartbeats 4000000
open And renaming intro → KI
open ByteArray renaming mk → Lp, toList → K0
open Go.Addr renaming add_mid → LM
open Go.DataW renaming trod_slice → ND
open Go.Lit renaming int → OK
open Go.Value renaming cells → NS, int → Ll
open Int renaming eq_ofNat_of_zero_le → Lo
open List renaming append_assoc → KS, append_nil → Lk, drop → K8, drop_append_of_le_length → Mh, drop_drop → NT, drop_eq_nil_of_le → LI, flatten_cons → MM, length_append → Kw, length_cons → KU, length_drop → KQ, length_map → KH, length_range → LG, length_take → KC, map_cons → MC, mem_cons_of_mem → KM, mem_cons_self → KO, mem_map → Nr, range → Lf, take → K7, take_append_drop → Mw, take_append_of_le_length → LW, toArray → LC
open Nat renaming add_assoc → LK, add_mul → Lr, beq → Kv, ble → Kx, ble_eq_true_of_le → KA, div_add_mod → Oz, div_eq_of_lt → NC, eq_zero_or_pos → MI, le_add_right → NE, le_refl → KG, le_trans → KK, mod_eq_of_lt → Lw, mod_lt → N8, mul_comm → L0, mul_le_mul_right → Lc, mul_one → KW, zero_le → Li, zero_lt_one → My
open Option renaming bind_eq_some_iff → M2, map_eq_some_iff → Lq
open Prod renaming fst → KR
open UInt8 renaming ofNat → Lu
namespace Go.Proofs.Ytefjnofhgkjpmaa
open Go.RowKit Go.Bw Go.Vx
open List (length getD map take drop flatMap replicate)
namespace Vp
theorem pe (sz ch mo:Int) (lz:Bool) (H:List UInt8) (h:Nat) (hh:h = H.length) (hh2:h ≤ 100000000) (W:List UInt8) (w:Nat) (hw:w = W.length) (hw2:w ≤ 100000000) (B:List UInt8) (m:Nat) (hm:m = B.length) (k:Int) (ov:Bool) (b:List UInt8) (n:Nat) (hn:n = b.length) (hC:ChkV (.agg [iD sz,iD ch,iD mo,bD lz,.sl false h 1 (H.map dB),.sl false w 1 (W.map dB),.sl false m 1 (B.map dB),iD k,bD ov]) 8):SpecH false Try.prog 7 [.agg [iD sz,iD ch,iD mo,bD lz,.sl false h 1 (H.map dB),.sl false w 1 (W.map dB),.sl false m 1 (B.map dB),iD k,bD ov],.sl false n 1 (b.map dB)] [] (.tup [.agg [iD 0,iD 0,iD 0,bD false,cM,cM,cM,iD 0,bD false],cM,iD 8]) []:=by
 refine SpecH.run T_ok ag Try.func7 rfl rfl rfl trivial rfl 1000 64 (fun R ok=>(.s 21 (.cl 9 false [] (.fn q9 (@Ag (D.agg [zI sz,zI ch,zI mo,D.v (.bool lz),D.sl false h 1 (map dB H),D.sl false w 1 (map dB W),D.sl false m 1 (map dB B),zI k,D.v (.bool ov)]) (8) bk)) (.s 30 (.out [] [] (D.tup [D.agg [zI 0,zI 0,zI 0,D.v (.bool false),zS,zS,zS,zI 0,D.v (.bool false)],zS,zI 8]) [] R (ok _ _ wr wr)))))) (by kernel_rfl)
theorem pf (sz ch mo:Int) (lz:Bool) (H:List UInt8) (h:Nat) (hh:h = H.length) (hh2:h ≤ 100000000) (W:List UInt8) (w:Nat) (hw:w = W.length) (hw2:w ≤ 100000000) (B:List UInt8) (m:Nat) (hm:m = B.length) (k:Int) (b:List UInt8) (n:Nat) (hn:n = b.length) (hC:ChkV (.agg [iD sz,iD ch,iD mo,bD lz,.sl false h 1 (H.map dB),.sl false w 1 (W.map dB),.sl false m 1 (B.map dB),iD k,bD true]) 0):SpecH false Try.prog 7 [.agg [iD sz,iD ch,iD mo,bD lz,.sl false h 1 (H.map dB),.sl false w 1 (W.map dB),.sl false m 1 (B.map dB),iD k,bD true],.sl false n 1 (b.map dB)] [] (.tup [.agg [iD 0,iD 0,iD 0,bD false,cM,cM,cM,iD 0,bD false],cM,iD 6]) []:=by
 refine SpecH.run T_ok ag Try.func7 rfl rfl rfl trivial rfl 1000 64 (fun R ok=>(.s 21 (.cl 9 false [] (.fn q9 (@Ag (D.agg [zI sz,zI ch,zI mo,D.v (.bool lz),D.sl false h 1 (map dB H),D.sl false w 1 (map dB W),D.sl false m 1 (map dB B),zI k,D.v (.bool true)]) (0) bk)) (.s 36 (.out [] [] (D.tup [D.agg [zI 0,zI 0,zI 0,D.v (.bool false),zS,zS,zS,zI 0,D.v (.bool false)],zS,zI 6]) [] R (ok _ _ wr wr)))))) (by kernel_rfl)
section
variable {sz ch mo:Nat} {lz:Bool}
theorem nw (hm:1 ≤ mo):∀ {f g:Nat} {s:Ls},s.w.length ≤ f → s.w.length ≤ g → eo sz ch mo lz f s = eo sz ch mo lz g s
 | 0,g,s,h,_=>by
  cases g with
  | zero=>rfl
  | succ g=>exact (if_neg (by omega)).symm
 | f + 1,0,s,_,h=>if_neg (by omega)
 | f + 1,g + 1,s,h1,h2=>by
  rw [eo,eo]
  split
  ·exact nw hm (by show (s.w.drop mo).length ≤ f; rw [KQ]; omega) (by show (s.w.drop mo).length ≤ g; rw [KQ]; omega)
  ·rfl
theorem lp_wlen (hm:1 ≤ mo):∀ (f:Nat) (s:Ls),(eo sz ch mo lz f s).w.length ≤ s.w.length
 | 0,_=>KG _
 | f + 1,s=>by
  rw [eo]
  split
  ·refine KK (lp_wlen hm f _) ?_
   show (s.w.drop mo).length ≤ _
   rw [KQ]; omega
  ·exact KG _
theorem vy (hm:1 ≤ mo) (b:List UInt8):∀ {f g:Nat} {s:Ls},s.w.length ≤ f → s.w.length + b.length ≤ g → eo sz ch mo lz g ⟨s.H,s.P,s.w ++ b,s.O⟩ = eo sz ch mo lz g ⟨(eo sz ch mo lz f s).H,(eo sz ch mo lz f s).P,(eo sz ch mo lz f s).w ++ b,(eo sz ch mo lz f s).O⟩
 | 0,_,_,_,_=>rfl
 | f + 1,g,s,h1,h2=>by
  by_cases c:mo ≤ s.w.length
  ·obtain ⟨g,rfl⟩:∃ k,g = k + 1:=⟨g - 1,by omega⟩
   have e1:eo sz ch mo lz (f + 1) s = eo sz ch mo lz f (nv sz ch mo lz s):=if_pos c
   have e2:nv sz ch mo lz ⟨s.H,s.P,s.w ++ b,s.O⟩ = ⟨(nv sz ch mo lz s).H,(nv sz ch mo lz s).P,(nv sz ch mo lz s).w ++ b,(nv sz ch mo lz s).O⟩:=by
    show Ls.mk _ _ _ _ = Ls.mk _ _ _ _
    have t:(s.w ++ b).take mo = s.w.take mo:=by rw [LW c]
    have d:(s.w ++ b).drop mo = s.w.drop mo ++ b:=by rw [Mh c]
    show Ls.mk (tY sz s.H ((s.w ++ b).take mo)) (pT (lU sz ch lz s.H ((s.w ++ b).take mo) s.P 0)) ((s.w ++ b).drop mo) (s.O ++ pk (pA (lU sz ch lz s.H ((s.w ++ b).take mo) s.P 0))) = _
    rw [t,d]; rfl
   have dl:(nv sz ch mo lz s).w.length = s.w.length - mo:=KQ
   have e3:eo sz ch mo lz (g + 1) ⟨s.H,s.P,s.w ++ b,s.O⟩ = eo sz ch mo lz g (nv sz ch mo lz ⟨s.H,s.P,s.w ++ b,s.O⟩):=if_pos (by show mo ≤ (s.w ++ b).length; rw [Kw]; omega)
   rw [e1,e3,e2,vy hm b (f:=f) (g:=g) (s:=nv sz ch mo lz s) (by omega) (by omega)]
   have q:=lp_wlen (sz:=sz) (ch:=ch) (lz:=lz) hm f (nv sz ch mo lz s)
   exact nw hm (by show (_ ++ b).length ≤ _; rw [Kw]; omega) (by show (_ ++ b).length ≤ _; rw [Kw]; omega)
  ·rw [show eo sz ch mo lz (f + 1) s = s from if_neg c]
theorem vz (A:List UInt8):∀ (f:Nat) (s:Ls),eo sz ch mo lz f ⟨s.H,s.P,s.w,A ++ s.O⟩ = ⟨(eo sz ch mo lz f s).H,(eo sz ch mo lz f s).P,(eo sz ch mo lz f s).w,A ++ (eo sz ch mo lz f s).O⟩
 | 0,_=>rfl
 | f + 1,s=>by
  by_cases c:mo ≤ s.w.length
  ·rw [show eo sz ch mo lz (f + 1) s = eo sz ch mo lz f (nv sz ch mo lz s) from if_pos c,show eo sz ch mo lz (f + 1) ⟨s.H,s.P,s.w,A ++ s.O⟩ = eo sz ch mo lz f (nv sz ch mo lz ⟨s.H,s.P,s.w,A ++ s.O⟩) from if_pos c,← vz A f (nv sz ch mo lz s)]
   refine congrArg _ ?_
   show Ls.mk _ _ _ _ = Ls.mk _ _ _ _
   exact congrArg (Ls.mk _ _ _) (KS _ _ _)
  ·rw [show eo sz ch mo lz (f + 1) s = s from if_neg c,show eo sz ch mo lz (f + 1) ⟨s.H,s.P,s.w,A ++ s.O⟩ = ⟨s.H,s.P,s.w,A ++ s.O⟩ from if_neg c]
structure LsOk (sz mo:Nat) (s:Ls):Prop where
 h:s.H.length ≤ sz
 w:s.w.length < mo
 p:s.P.length < 8
theorem Ah (hm:1 ≤ mo):∀ {f:Nat} {s:Ls},s.w.length ≤ f → s.H.length ≤ sz → s.P.length < 8 → LsOk sz mo (eo sz ch mo lz f s)
 | 0,s,h1,h2,h3=>⟨h2,by show s.w.length < mo; omega,h3⟩
 | f + 1,s,h1,h2,h3=>by
  rw [eo]
  split
  ·refine Ah hm (by show (s.w.drop mo).length ≤ f; rw [KQ]; omega) ?_ ?_
   ·show (tY _ _ _).length ≤ _; rw [aY]; omega
   ·show (pT _).length < 8; rw [dH]; omega
  ·exact ⟨h2,by omega,h3⟩
end
def wrT (sz ch mo:Nat) (lz:Bool) (H:List UInt8) (P:List Bool) (W b:List UInt8):Ls:=lk W (eo sz ch mo lz (W.length + b.length) ⟨H,P,W ++ b,[]⟩)
theorem wrT_eq (sz ch mo:Nat) (lz:Bool) (H:List UInt8) (P:List Bool) (W b:List UInt8):wrT sz ch mo lz H P W b = eo sz ch mo lz (W.length + b.length) ⟨H,P,W ++ b,[]⟩:=aA _ _
theorem wrT_ok {sz ch mo:Nat} {lz:Bool} {H:List UInt8} {P:List Bool} {W b:List UInt8} (hm:1 ≤ mo) (hH:H.length ≤ sz) (hP:P.length < 8):LsOk sz mo (wrT sz ch mo lz H P W b):=by
 rw [wrT_eq]; exact Ah hm (by show (W ++ b).length ≤ _; rw [Kw]; exact KG _) hH hP
theorem wrT_app {sz ch mo:Nat} {lz:Bool} {H:List UInt8} {P:List Bool} {W a b:List UInt8} (hm:1 ≤ mo):wrT sz ch mo lz H P W (a ++ b) = ⟨(wrT sz ch mo lz (wrT sz ch mo lz H P W a).H (wrT sz ch mo lz H P W a).P (wrT sz ch mo lz H P W a).w b).H,(wrT sz ch mo lz (wrT sz ch mo lz H P W a).H (wrT sz ch mo lz H P W a).P (wrT sz ch mo lz H P W a).w b).P,(wrT sz ch mo lz (wrT sz ch mo lz H P W a).H (wrT sz ch mo lz H P W a).P (wrT sz ch mo lz H P W a).w b).w,(wrT sz ch mo lz H P W a).O ++ (wrT sz ch mo lz (wrT sz ch mo lz H P W a).H (wrT sz ch mo lz H P W a).P (wrT sz ch mo lz H P W a).w b).O⟩:=by
 have q:=vy (sz:=sz) (ch:=ch) (lz:=lz) hm b (f:=W.length + a.length) (g:=W.length + (a ++ b).length) (s:=⟨H,P,W ++ a,[]⟩) (by show (W ++ a).length ≤ _; rw [Kw]; exact KG _) (by show (W ++ a).length + _ ≤ _; rw [Kw,Kw]; omega)
 have k:=lp_wlen (sz:=sz) (ch:=ch) (lz:=lz) hm (W.length + a.length) ⟨H,P,W ++ a,[]⟩
 rw [wrT_eq sz ch mo lz H P W (a ++ b),show W ++ (a ++ b) = W ++ a ++ b from (KS _ _ _).symm]
 refine q.trans ?_
 rw [← wrT_eq] at k ⊢
 generalize wrT sz ch mo lz H P W a = T at k ⊢
 have z:T.w.length ≤ W.length + a.length:=by refine KK k ?_; show (W ++ a).length ≤ _; rw [Kw]; exact KG _
 rw [wrT_eq sz ch mo lz T.H T.P T.w b,← vz T.O,Lk]
 exact nw hm (by show (T.w ++ b).length ≤ _; rw [Kw,Kw]; omega) (by show (T.w ++ b).length ≤ _; rw [Kw]; exact KG _)
theorem uWrite_t (sz ch mo:Nat) (lz:Bool) (hs:1 ≤ sz ∧ sz ≤ 32768) (hc:ch ≤ 256) (hmo:1 ≤ mo ∧ mo ≤ 65535) (H:List UInt8) (h:Nat) (hh:h = H.length) (hh2:h ≤ sz) (W:List UInt8) (w:Nat) (hw:w = W.length) (hw2:w < mo) (P:List Bool) (m:Nat) (hm:m = (pk P).length) (hP:P.length < 8) (b:List UInt8) (n:Nat) (hn:n = b.length) (hn2:n ≤ 131072):SpecH false Try.prog 7 [.agg [nD sz,nD ch,nD mo,bD lz,.sl false h 1 (H.map dB),.sl false w 1 (W.map dB),.sl false m 1 ((pk P).map dB),nD P.length,bD false],.sl false n 1 (b.map dB)] [] (.tup [.agg [nD sz,nD ch,nD mo,bD lz,.ref 0 0 0 (wrT sz ch mo lz H P W b).H.length 1,.ref 1 1 0 (wrT sz ch mo lz H P W b).w.length 1,.ref 2 2 0 (pk (wrT sz ch mo lz H P W b).P).length 1,nD (wrT sz ch mo lz H P W b).P.length,bD false],.ref 3 3 0 (wrT sz ch mo lz H P W b).O.length 1,iD 0]) [⟨(wrT sz ch mo lz H P W b).H.map dB, 5, true⟩,⟨(wrT sz ch mo lz H P W b).w.map dB, 5, true⟩,⟨(pk (wrT sz ch mo lz H P W b).P).map dB, 5, true⟩,⟨(wrT sz ch mo lz H P W b).O.map dB, 5, true⟩] :=
 vw sz ch mo lz hs hc hmo H h hh hh2 W w hw hw2 P m hm hP b n hn hn2 (W ++ b) rfl (by rw [Kw,hw,hn]) _ (by rw [wrT_eq,hw,hn]; rfl)
end Vp
end Go.Proofs.Ytefjnofhgkjpmaa
namespace Go.Proofs.Ytefjnofhgkjpmaa
open Go.RowKit Go.Bw Go.Vx
namespace Vp
theorem press_cases (sz ch mo:Int) (lz:Bool) (H:List UInt8) (h:Nat) (hh:h = H.length) (W:List UInt8) (w:Nat) (hw:w = W.length) (B:List UInt8) (m:Nat) (hm:m = B.length) (k:Int) (ov:Bool) (hh2:h ≤ 100000000) (hw2:w ≤ 100000000):ChkV (.agg [iD sz,iD ch,iD mo,bD lz,.sl false h 1 (H.map dB),.sl false w 1 (W.map dB),.sl false m 1 (B.map dB),iD k,bD ov]) 8 ∨ ∃ (a b c:Nat) (l:List Bool),sz = a ∧ ch = b ∧ mo = c ∧ k = l.length ∧ B = pk l ∧ (1 ≤ a ∧ a ≤ 32768) ∧ b ≤ 256 ∧ (1 ≤ c ∧ c ≤ 65535) ∧ h ≤ a ∧ w < c ∧ l.length < 8 ∧ (ov = true → w = 0 ∧ l.length = 0):=by
 obtain ⟨s,hS,s1,s2⟩:=Cj sz ch mo lz
 obtain ⟨e,hE,e1,e2⟩:=EE B m hm k
 by_cases hb:s = 0 ∧ (h:Int) ≤ sz ∧ (w:Int) < mo ∧ e = 0 ∧ k < 8 ∧ (ov = true → w = 0 ∧ k = 0)
 ·obtain ⟨b1,b2,b3,b4,b5,b6⟩:=hb
  have c1:=s1.1 b1
  obtain ⟨l,l1,l2,l3⟩:=e1 b4
  obtain ⟨a,rfl⟩:=Lo (show 0 ≤ sz by omega)
  obtain ⟨b,rfl⟩:=Lo (show 0 ≤ ch by omega)
  obtain ⟨c,rfl⟩:=Lo (show 0 ≤ mo by omega)
  exact .inr ⟨a,b,c,l,rfl,rfl,rfl,l2,l3,by omega,by omega,by omega,by omega,by omega,by omega,fun q=>by have:=b6 q; omega⟩
 ·exact .inl ⟨EF sz ch mo lz H h hh hh2 W w hw hw2 B m hm k ov s e hS hE s2 e2 hb⟩
end Vp
end Go.Proofs.Ytefjnofhgkjpmaa
namespace Go.Proofs.Ytefjnofhgkjpmaa
open Go.RowKit Go.Bw Go.Vx
open List (length getD map take drop flatMap replicate)
namespace Vp
theorem tZ {p:Prop} (h:p:=by (refine decide_eq_false ?_; (omega))):p:=h
theorem Cl {p:Prop} (h:p:=by (refine KA ?_; (omega))):p:=h
theorem Cm {p:Prop} (h:p:=by exact (KI (D.sim.refl _) (KI (D.sim.slw rfl (aR (by (simp <;> (omega))) |>.trans (by (simp; done)))) trivial))):p:=h
theorem su {sz ch mo:Nat} {lz:Bool} (hm:mo ≤ 65535):∀ (f:Nat) (s:Ls),s.P.length < 8 → (eo sz ch mo lz f s).O.length ≤ s.O.length + 500000 * f
 | 0,_,_=>KG _
 | f + 1,s,h=>by
  rw [eo]
  split
  ·have b:(lU sz ch lz s.H (s.w.take mo) s.P 0).length ≤ s.P.length + 3800000:=bC (by rw [KC]; omega) (by refine KK (aU _ _ _ _ _) ?_; rw [KC]; omega)
   have e3:(nv sz ch mo lz s).O.length = s.O.length + (lU sz ch lz s.H (s.w.take mo) s.P 0).length / 8:=by
    show (s.O ++ pk (pA _)).length = _
    rw [Kw,ah,dZ]; omega
   have e2:(nv sz ch mo lz s).P.length < 8:=by show (pT _).length < 8; rw [dH]; omega
   have:=su (sz:=sz) (ch:=ch) (lz:=lz) hm f (nv sz ch mo lz s) e2
   omega
  ·omega
theorem wrT_olen {sz ch mo:Nat} {lz:Bool} {H:List UInt8} {P:List Bool} {W b:List UInt8} (hm:mo ≤ 65535) (hP:P.length < 8):(wrT sz ch mo lz H P W b).O.length ≤ 500000 * (W.length + b.length):=by
 rw [wrT_eq]; exact KK (su hm _ _ hP) (by show 0 + _ ≤ _; omega)
structure WriV (sz ch mo:Nat) (lz:Bool) (H W:List UInt8) (h w m:Nat) (P:List Bool) (b:List UInt8) (n:Nat) (X Y:List UInt8) (Q:List Bool) (O:List UInt8):Prop where
 s:SpecH false Try.prog 7 [.agg [nD sz,nD ch,nD mo,bD lz,.sl false h 1 (H.map dB),.sl false w 1 (W.map dB),.sl false m 1 ((pk P).map dB),nD P.length,bD false],.sl false n 1 (b.map dB)] [] (.tup [.agg [nD sz,nD ch,nD mo,bD lz,.ref 0 0 0 X.length 1,.ref 1 1 0 Y.length 1,.ref 2 2 0 (pk Q).length 1,nD Q.length,bD false],.ref 3 3 0 O.length 1,iD 0]) [⟨X.map dB, 5, true⟩,⟨Y.map dB, 5, true⟩,⟨(pk Q).map dB, 5, true⟩,⟨O.map dB, 5, true⟩]
theorem vA (sz ch mo:Nat) (lz:Bool) (H W:List UInt8) (h w m:Nat) (P:List Bool) (b:List UInt8) (n:Nat) (X Y:List UInt8) (Q:List Bool) (O:List UInt8) (hV:WriV sz ch mo lz H W h w m P b n X Y Q O):SpecH false Try.prog 7 [.agg [nD sz,nD ch,nD mo,bD lz,.sl false h 1 (H.map dB),.sl false w 1 (W.map dB),.sl false m 1 ((pk P).map dB),nD P.length,bD false],.sl false n 1 (b.map dB)] [] (.tup [.agg [nD sz,nD ch,nD mo,bD lz,.ref 0 0 0 X.length 1,.ref 1 1 0 Y.length 1,.ref 2 2 0 (pk Q).length 1,nD Q.length,bD false],.ref 3 3 0 O.length 1,iD 0]) [⟨X.map dB, 5, true⟩,⟨Y.map dB, 5, true⟩,⟨(pk Q).map dB, 5, true⟩,⟨O.map dB, 5, true⟩]:=hV.s
theorem ye (sz ch mo:Nat) (lz:Bool) (X Y:List UInt8) (Q:List Bool):SpecH false Try.prog 8 [.agg [nD sz,nD ch,nD mo,bD lz,.sl false X.length 1 (X.map dB),.sl false Y.length 1 (Y.map dB),.sl false (pk Q).length 1 ((pk Q).map dB),nD Q.length,bD false],.agg [nD sz,nD ch,nD mo,bD lz,.sl false X.length 1 (X.map dB),.sl false Y.length 1 (Y.map dB),.sl false (pk Q).length 1 ((pk Q).map dB),nD Q.length,bD false]] [] (.v (.bool true)) []:=by
 refine SpecH.run T_ok ag Try.func8 rfl rfl rfl trivial rfl 1000 64 (fun R ok=>(.s 23 (.t ((sz:Int) == (sz:Int) && ((ch:Int) == (ch:Int) && ((mo:Int) == (mo:Int) && (lz == lz && true)))) (by ((refine aF ?_ ?_) <;> (repeat' (first | (refine aF ?_ ?_) | (with_reducible rfl) | (refine decide_eq_true ?_) | (refine KA ?_) | (refine er ?_))) <;> (omega))) (.s 49 (.t ((↑(length Q):Int) == (↑(length Q):Int)) (by (refine decide_eq_true ?_; (omega))) (.s 29 (.byt (map dB (pk Q)) (pk Q) rfl (.s 3 (.byt (map dB (pk Q)) (pk Q) rfl (.s 5 (.t (K0 (Lp (LC (pk Q))) == K0 (Lp (LC (pk Q)))) (by (simp; done)) (.s 21 (.byt (map dB X) (X) rfl (.s 3 (.byt (map dB X) (X) rfl (.s 5 (.t (K0 (Lp (LC X)) == K0 (Lp (LC X))) (by (simp; done)) (.s 21 (.byt (map dB Y) (Y) rfl (.s 3 (.byt (map dB Y) (Y) rfl (.s 4 (.out [] [] (D.v (.bool (K0 (Lp (LC Y)) == K0 (Lp (LC Y))))) [] R (ok _ _ (by (simp; done)) wr)))))))))))))))))))))))) (by kernel_rfl)
theorem parts_v (sz ch mo:Nat) (lz:Bool) (hs:1 ≤ sz ∧ sz ≤ 32768) (hc:ch ≤ 256) (hmo:1 ≤ mo ∧ mo ≤ 65535) (H:List UInt8) (h:Nat) (hh:h = H.length) (hh2:h ≤ sz) (W:List UInt8) (w:Nat) (hw:w = W.length) (hw2:w < mo) (P:List Bool) (m:Nat) (hm:m = (pk P).length) (hP:P.length < 8) (hH:h ≤ 600) (hW:w ≤ 300) (a:List UInt8) (na:Nat) (hna:na = a.length) (b:List UInt8) (nb:Nat) (hnb:nb = b.length) (hab:na + nb ≤ 300) (X Y:List UInt8) (Q:List Bool) (O:List UInt8) (X2 Y2:List UInt8) (Q2:List Bool) (O2:List UInt8) (h1:WriV sz ch mo lz H W h w m P a na X Y Q O) (h2:WriV sz ch mo lz X Y X.length Y.length (pk Q).length Q b nb X2 Y2 Q2 O2) (h3:WriV sz ch mo lz H W h w m P (a ++ b) (na + nb) X2 Y2 Q2 (O ++ O2)) (hO:O.length ≤ 1000000000) (hO2:O2.length ≤ 1000000000) (hX:X2.length ≤ sz) (hY:Y2.length < mo) (hQ:Q2.length < 8):SpecH false Try.prog 3 [.agg [nD sz,nD ch,nD mo,bD lz,.sl false h 1 (H.map dB),.sl false w 1 (W.map dB),.sl false m 1 ((pk P).map dB),nD P.length,bD false],.sl false na 1 (a.map dB),.sl false nb 1 (b.map dB)] [] (.v (.bool true)) []:=by
 refine SpecH.run T_ok ag Try.func3 rfl rfl rfl trivial rfl 1000 64 (fun R ok=>(.s 4 (.cl 5 false [] (.fn q5 (@jW)) (.s 22 (.f (decide (600 < (h:Int))) tZ (.s 14 (.f (decide (300 < (w:Int))) tZ (.s 9 (.f (decide (300 < (na:Int))) tZ (.s 9 (.ow ((na:Int) + (nb:Int)) (.s 6 (.f (decide (300 < (na:Int) + (nb:Int))) tZ (.s 11 (.chk (true && Kx ((0 + na) * 1) 140737488355328) Cl (.s 2 (.chk (true && Kv (na * 1) (length (map dB a)) && true && true && true && true && Kx ((na + nb) * 1) 140737488355328) (by (simp <;> (omega))) (.s 1 (.call 7 false [] (true && (true && (true && Kx (0 + (na + nb) * 1) (length (map dB a ++ map dB b)) && true && aa (bif true && Kv ((na + nb) * 1) (length (map dB a ++ map dB b)) then map dB a ++ map dB b else take ((na + nb) * 1) (drop 0 (map dB a ++ map dB b)))) && true)) (by (simp <;> (omega))) ([D.agg [zN sz,zN ch,zN mo,D.v (.bool lz),D.sl false h 1 (map dB H),D.sl false w 1 (map dB W),D.sl false m 1 (map dB (pk P)),zN (length P),D.v (.bool false)],D.sl (Kx 1 (na + nb)) (na + nb) 1 (bif true && Kv ((na + nb) * 1) (length (map dB a ++ map dB b)) then map dB a ++ map dB b else take ((na + nb) * 1) (drop 0 (map dB a ++ map dB b)))]) _ Cm (true) wr _ _ _ (CallOk.fn (ax.of Try.func7 rfl rfl) (@vA (sz) (ch) (mo) (lz) (H) (W) (h) (w) (m) (P) (a ++ b) (na + nb) (X2) (Y2) (Q2) (O ++ O2) bk)) (.s 20 (.cl 7 false [] (.fn q7 (@vA (sz) (ch) (mo) (lz) (H) (W) (h) (w) (m) (P) (a) (na) (X) (Y) (Q) (O) bk)) (.s 31 (.call 7 false [] (true && (true && (true && (true && (true && (true && Kx (0 + length X * 1) (length (map dB X)) && true && aa (bif true && Kv (length X * 1) (length (map dB X)) then map dB X else take (length X * 1) (drop 0 (map dB X)))) && (true && (true && Kx (0 + length Y * 1) (length (map dB Y)) && true && aa (bif true && Kv (length Y * 1) (length (map dB Y)) then map dB Y else take (length Y * 1) (drop 0 (map dB Y)))) && (true && (true && Kx (0 + length (pk Q) * 1) (length (map dB (pk Q))) && true && aa (bif true && Kv (length (pk Q) * 1) (length (map dB (pk Q))) then map dB (pk Q) else take (length (pk Q) * 1) (drop 0 (map dB (pk Q))))) && true)))))) && true) (by (simp; done)) ([D.agg [zN sz,zN ch,zN mo,D.v (.bool lz),D.sl (Kx 1 (length X)) (length X) 1 (bif true && Kv (length X * 1) (length (map dB X)) then map dB X else take (length X * 1) (drop 0 (map dB X))),D.sl (Kx 1 (length Y)) (length Y) 1 (bif true && Kv (length Y * 1) (length (map dB Y)) then map dB Y else take (length Y * 1) (drop 0 (map dB Y))),D.sl (Kx 1 (length (pk Q))) (length (pk Q)) 1 (bif true && Kv (length (pk Q) * 1) (length (map dB (pk Q))) then map dB (pk Q) else take (length (pk Q) * 1) (drop 0 (map dB (pk Q)))),zN (length Q),D.v (.bool false)],D.sl false nb 1 (map dB b)]) _ (by exact (KI (D.sim.agg (KI (D.sim.refl _) (KI (D.sim.refl _) (KI (D.sim.refl _) (KI (D.sim.refl _) (KI (D.sim.slw rfl (aR (by (simp; done)) |>.trans rfl)) (KI (D.sim.slw rfl (aR (by (simp; done)) |>.trans rfl)) (KI (D.sim.slw rfl (aR (by (simp; done)) |>.trans rfl)) (KI (D.sim.refl _) (KI (D.sim.refl _) trivial)))))))))) (KI (D.sim.refl _) trivial))) (true) wr _ _ _ (CallOk.fn (ax.of Try.func7 rfl rfl) (@vA (sz) (ch) (mo) (lz) (X) (Y) (length X) (length Y) (length (pk Q)) (Q) (b) (nb) (X2) (Y2) (Q2) (O2) bk)) (.s 27 (.chk (true && Kx (0 + length O * 1) (length (map dB O)) && true && true) (by (simp; done)) (.byt (bif true && Kv (length O * 1) (length (map dB O)) then map dB O else take (length O * 1) (drop 0 (map dB O))) (O) (aR (by (simp; done)) |>.trans rfl) (.s 4 (.chk (true && Kx (0 + length O2 * 1) (length (map dB O2)) && true && true) (by (simp; done)) (.byt (bif true && Kv (length O2 * 1) (length (map dB O2)) then map dB O2 else take (length O2 * 1) (drop 0 (map dB O2))) (O2) (aR (by (simp; done)) |>.trans rfl) (.s 2 (.chk (Kx (ByteArray.size (Lp (LC O)) + ByteArray.size (Lp (LC O2))) 9223372036854775807) (by (simp <;> (omega))) (.s 4 (.chk (true && Kx (0 + length (O ++ O2) * 1) (length (map dB (O ++ O2))) && true && true) (by (simp; done)) (.byt (bif true && Kv (length (O ++ O2) * 1) (length (map dB (O ++ O2))) then map dB (O ++ O2) else take (length (O ++ O2) * 1) (drop 0 (map dB (O ++ O2)))) (O ++ O2) (aR (by (simp; done)) |>.trans rfl) (.s 5 (.t (K0 (Lp (LC (O ++ O2))) == K0 (Lp (LC (O ++ O2)))) (by (simp; done)) (.s 10 (.call 8 false [] (true && (true && (true && (true && (true && (true && Kx (0 + length X2 * 1) (length (map dB X2)) && true && aa (bif true && Kv (length X2 * 1) (length (map dB X2)) then map dB X2 else take (length X2 * 1) (drop 0 (map dB X2)))) && (true && (true && Kx (0 + length Y2 * 1) (length (map dB Y2)) && true && aa (bif true && Kv (length Y2 * 1) (length (map dB Y2)) then map dB Y2 else take (length Y2 * 1) (drop 0 (map dB Y2)))) && (true && (true && Kx (0 + length (pk Q2) * 1) (length (map dB (pk Q2))) && true && aa (bif true && Kv (length (pk Q2) * 1) (length (map dB (pk Q2))) then map dB (pk Q2) else take (length (pk Q2) * 1) (drop 0 (map dB (pk Q2))))) && true)))))) && (true && (true && (true && (true && (true && (true && Kx (0 + length X2 * 1) (length (map dB X2)) && true && aa (bif true && Kv (length X2 * 1) (length (map dB X2)) then map dB X2 else take (length X2 * 1) (drop 0 (map dB X2)))) && (true && (true && Kx (0 + length Y2 * 1) (length (map dB Y2)) && true && aa (bif true && Kv (length Y2 * 1) (length (map dB Y2)) then map dB Y2 else take (length Y2 * 1) (drop 0 (map dB Y2)))) && (true && (true && Kx (0 + length (pk Q2) * 1) (length (map dB (pk Q2))) && true && aa (bif true && Kv (length (pk Q2) * 1) (length (map dB (pk Q2))) then map dB (pk Q2) else take (length (pk Q2) * 1) (drop 0 (map dB (pk Q2))))) && true)))))) && true)) (by (simp; done)) ([D.agg [zN sz,zN ch,zN mo,D.v (.bool lz),D.sl (Kx 1 (length X2)) (length X2) 1 (bif true && Kv (length X2 * 1) (length (map dB X2)) then map dB X2 else take (length X2 * 1) (drop 0 (map dB X2))),D.sl (Kx 1 (length Y2)) (length Y2) 1 (bif true && Kv (length Y2 * 1) (length (map dB Y2)) then map dB Y2 else take (length Y2 * 1) (drop 0 (map dB Y2))),D.sl (Kx 1 (length (pk Q2))) (length (pk Q2)) 1 (bif true && Kv (length (pk Q2) * 1) (length (map dB (pk Q2))) then map dB (pk Q2) else take (length (pk Q2) * 1) (drop 0 (map dB (pk Q2)))),zN (length Q2),D.v (.bool false)],D.agg [zN sz,zN ch,zN mo,D.v (.bool lz),D.sl (Kx 1 (length X2)) (length X2) 1 (bif true && Kv (length X2 * 1) (length (map dB X2)) then map dB X2 else take (length X2 * 1) (drop 0 (map dB X2))),D.sl (Kx 1 (length Y2)) (length Y2) 1 (bif true && Kv (length Y2 * 1) (length (map dB Y2)) then map dB Y2 else take (length Y2 * 1) (drop 0 (map dB Y2))),D.sl (Kx 1 (length (pk Q2))) (length (pk Q2)) 1 (bif true && Kv (length (pk Q2) * 1) (length (map dB (pk Q2))) then map dB (pk Q2) else take (length (pk Q2) * 1) (drop 0 (map dB (pk Q2)))),zN (length Q2),D.v (.bool false)]]) _ (by exact (KI (D.sim.agg (KI (D.sim.refl _) (KI (D.sim.refl _) (KI (D.sim.refl _) (KI (D.sim.refl _) (KI (D.sim.slw rfl (aR (by (simp; done)) |>.trans rfl)) (KI (D.sim.slw rfl (aR (by (simp; done)) |>.trans rfl)) (KI (D.sim.slw rfl (aR (by (simp; done)) |>.trans rfl)) (KI (D.sim.refl _) (KI (D.sim.refl _) trivial)))))))))) (KI (D.sim.agg (KI (D.sim.refl _) (KI (D.sim.refl _) (KI (D.sim.refl _) (KI (D.sim.refl _) (KI (D.sim.slw rfl (aR (by (simp; done)) |>.trans rfl)) (KI (D.sim.slw rfl (aR (by (simp; done)) |>.trans rfl)) (KI (D.sim.slw rfl (aR (by (simp; done)) |>.trans rfl)) (KI (D.sim.refl _) (KI (D.sim.refl _) trivial)))))))))) trivial))) (true) wr _ _ _ (CallOk.fn (ax.of Try.func8 rfl rfl) (@ye (sz) (ch) (mo) (lz) (X2) (Y2) (Q2))) (.s 9 (.call 9 false [] (true && (true && (true && (true && (true && (true && Kx (0 + length X2 * 1) (length (map dB X2)) && true && aa (bif true && Kv (length X2 * 1) (length (map dB X2)) then map dB X2 else take (length X2 * 1) (drop 0 (map dB X2)))) && (true && (true && Kx (0 + length Y2 * 1) (length (map dB Y2)) && true && aa (bif true && Kv (length Y2 * 1) (length (map dB Y2)) then map dB Y2 else take (length Y2 * 1) (drop 0 (map dB Y2)))) && (true && (true && Kx (0 + length (pk Q2) * 1) (length (map dB (pk Q2))) && true && aa (bif true && Kv (length (pk Q2) * 1) (length (map dB (pk Q2))) then map dB (pk Q2) else take (length (pk Q2) * 1) (drop 0 (map dB (pk Q2))))) && true)))))) && true) (by (simp; done)) ([D.agg [zN sz,zN ch,zN mo,D.v (.bool lz),D.sl (Kx 1 (length X2)) (length X2) 1 (bif true && Kv (length X2 * 1) (length (map dB X2)) then map dB X2 else take (length X2 * 1) (drop 0 (map dB X2))),D.sl (Kx 1 (length Y2)) (length Y2) 1 (bif true && Kv (length Y2 * 1) (length (map dB Y2)) then map dB Y2 else take (length Y2 * 1) (drop 0 (map dB Y2))),D.sl (Kx 1 (length (pk Q2))) (length (pk Q2)) 1 (bif true && Kv (length (pk Q2) * 1) (length (map dB (pk Q2))) then map dB (pk Q2) else take (length (pk Q2) * 1) (drop 0 (map dB (pk Q2)))),zN (length Q2),D.v (.bool false)]]) _ (by exact (KI (D.sim.agg (KI (D.sim.refl _) (KI (D.sim.refl _) (KI (D.sim.refl _) (KI (D.sim.refl _) (KI (D.sim.slw rfl (aR (by (simp; done)) |>.trans rfl)) (KI (D.sim.slw rfl (aR (by (simp; done)) |>.trans rfl)) (KI (D.sim.slw rfl (aR (by (simp; done)) |>.trans rfl)) (KI (D.sim.refl _) (KI (D.sim.refl _) trivial)))))))))) trivial)) (true) wr _ _ _ (CallOk.fn (ax.of Try.func9 rfl rfl) (@Chk_o (sz) (ch) (mo) (lz) om om om (X2) (length X2) om om (Y2) (length Y2) om om (Q2) (length (pk Q2)) om om (false) (by (simp; done)))) (.s 5 (.out [] [] (D.v (.bool true)) [] R (ok _ _ wr wr))))))))))))))))))))))))))))))))))))))))))) (by kernel_rfl)
theorem parts_b (sz ch mo:Int) (lz:Bool) (H:List UInt8) (h:Nat) (hh:h = H.length) (W:List UInt8) (w:Nat) (hw:w = W.length) (B:List UInt8) (m:Nat) (hm:m = B.length) (k:Int) (ov:Bool) (hC:ChkV (.agg [iD sz,iD ch,iD mo,bD lz,.sl false h 1 (H.map dB),.sl false w 1 (W.map dB),.sl false m 1 (B.map dB),iD k,bD ov]) 8) (a:List UInt8) (na:Nat) (hna:na = a.length) (b:List UInt8) (nb:Nat) (hnb:nb = b.length) (hab:na ≤ 300 ∧ nb ≤ 300):SpecH false Try.prog 3 [.agg [iD sz,iD ch,iD mo,bD lz,.sl false h 1 (H.map dB),.sl false w 1 (W.map dB),.sl false m 1 (B.map dB),iD k,bD ov],.sl false na 1 (a.map dB),.sl false nb 1 (b.map dB)] [] (.v (.bool true)) []:=by
 refine SpecH.run T_ok ag Try.func3 rfl rfl rfl trivial rfl 1000 64 (fun R ok=>(.s 4 (.cl 5 false [] (.fn q5 (@jW)) (.s 22 (.br (decide (600 < (h:Int))) (fun p0=>have p0f:=aN p0; (.s 39 (.out [] [] (D.v (.bool true)) [] R (ok _ _ wr wr)))) (fun p0=>have p0f:=aO p0; (.s 14 (.br (decide (300 < (w:Int))) (fun p1=>have p1f:=aN p1; (.s 29 (.out [] [] (D.v (.bool true)) [] R (ok _ _ wr wr)))) (fun p1=>have p1f:=aO p1; (.s 9 (.f (decide (300 < (na:Int))) tZ (.s 9 (.ow ((na:Int) + (nb:Int)) (.s 6 (.br (decide (300 < (na:Int) + (nb:Int))) (fun p2=>have p2f:=aN p2; (.s 6 (.out [] [] (D.v (.bool true)) [] R (ok _ _ wr wr)))) (fun p2=>have p2f:=aO p2; (.s 11 (.chk (true && Kx ((0 + na) * 1) 140737488355328) Cl (.s 2 (.chk (true && Kv (na * 1) (length (map dB a)) && true && true && true && true && Kx ((na + nb) * 1) 140737488355328) (by (simp <;> (omega))) (.s 1 (.call 7 false [] (true && (true && (true && Kx (0 + (na + nb) * 1) (length (map dB a ++ map dB b)) && true && aa (bif true && Kv ((na + nb) * 1) (length (map dB a ++ map dB b)) then map dB a ++ map dB b else take ((na + nb) * 1) (drop 0 (map dB a ++ map dB b)))) && true)) (by (simp <;> (omega))) ([D.agg [zI sz,zI ch,zI mo,D.v (.bool lz),D.sl false h 1 (map dB H),D.sl false w 1 (map dB W),D.sl false m 1 (map dB B),zI k,D.v (.bool ov)],D.sl (Kx 1 (na + nb)) (na + nb) 1 (bif true && Kv ((na + nb) * 1) (length (map dB a ++ map dB b)) then map dB a ++ map dB b else take ((na + nb) * 1) (drop 0 (map dB a ++ map dB b)))]) _ Cm (true) wr _ _ _ (CallOk.fn (ax.of Try.func7 rfl rfl) (@pe (sz) (ch) (mo) (lz) (H) (h) om om (W) (w) om om (B) (m) om (k) (ov) (a ++ b) (na + nb) (by (simp <;> (omega))) om)) (.s 20 (.cl 7 false [] (.fn q7 (@pe (sz) (ch) (mo) (lz) (H) (h) om om (W) (w) om om (B) (m) om (k) (ov) (a) (na) om om)) (.s 53 (.out [] [] (D.v (.bool true)) [] R (ok _ _ wr wr))))))))))))))))))))))))))) (by kernel_rfl)
theorem parts_o (sz ch mo:Int) (lz:Bool) (H:List UInt8) (h:Nat) (hh:h = H.length) (W:List UInt8) (w:Nat) (hw:w = W.length) (B:List UInt8) (m:Nat) (hm:m = B.length) (k:Int) (hC:ChkV (.agg [iD sz,iD ch,iD mo,bD lz,.sl false h 1 (H.map dB),.sl false w 1 (W.map dB),.sl false m 1 (B.map dB),iD k,bD true]) 0) (a:List UInt8) (na:Nat) (hna:na = a.length) (b:List UInt8) (nb:Nat) (hnb:nb = b.length) (hab:na ≤ 300 ∧ nb ≤ 300):SpecH false Try.prog 3 [.agg [iD sz,iD ch,iD mo,bD lz,.sl false h 1 (H.map dB),.sl false w 1 (W.map dB),.sl false m 1 (B.map dB),iD k,bD true],.sl false na 1 (a.map dB),.sl false nb 1 (b.map dB)] [] (.v (.bool true)) []:=by
 refine SpecH.run T_ok ag Try.func3 rfl rfl rfl trivial rfl 1000 64 (fun R ok=>(.s 4 (.cl 5 false [] (.fn q5 (@jW)) (.s 22 (.br (decide (600 < (h:Int))) (fun p0=>have p0f:=aN p0; (.s 39 (.out [] [] (D.v (.bool true)) [] R (ok _ _ wr wr)))) (fun p0=>have p0f:=aO p0; (.s 14 (.br (decide (300 < (w:Int))) (fun p1=>have p1f:=aN p1; (.s 29 (.out [] [] (D.v (.bool true)) [] R (ok _ _ wr wr)))) (fun p1=>have p1f:=aO p1; (.s 9 (.f (decide (300 < (na:Int))) tZ (.s 9 (.ow ((na:Int) + (nb:Int)) (.s 6 (.br (decide (300 < (na:Int) + (nb:Int))) (fun p2=>have p2f:=aN p2; (.s 6 (.out [] [] (D.v (.bool true)) [] R (ok _ _ wr wr)))) (fun p2=>have p2f:=aO p2; (.s 11 (.chk (true && Kx ((0 + na) * 1) 140737488355328) Cl (.s 2 (.chk (true && Kv (na * 1) (length (map dB a)) && true && true && true && true && Kx ((na + nb) * 1) 140737488355328) (by (simp <;> (omega))) (.s 1 (.call 7 false [] (true && (true && (true && Kx (0 + (na + nb) * 1) (length (map dB a ++ map dB b)) && true && aa (bif true && Kv ((na + nb) * 1) (length (map dB a ++ map dB b)) then map dB a ++ map dB b else take ((na + nb) * 1) (drop 0 (map dB a ++ map dB b)))) && true)) (by (simp <;> (omega))) ([D.agg [zI sz,zI ch,zI mo,D.v (.bool lz),D.sl false h 1 (map dB H),D.sl false w 1 (map dB W),D.sl false m 1 (map dB B),zI k,D.v (.bool true)],D.sl (Kx 1 (na + nb)) (na + nb) 1 (bif true && Kv ((na + nb) * 1) (length (map dB a ++ map dB b)) then map dB a ++ map dB b else take ((na + nb) * 1) (drop 0 (map dB a ++ map dB b)))]) _ Cm (true) wr _ _ _ (CallOk.fn (ax.of Try.func7 rfl rfl) (@pf (sz) (ch) (mo) (lz) (H) (h) om om (W) (w) om om (B) (m) om (k) (a ++ b) (na + nb) (by (simp <;> (omega))) om)) (.s 20 (.cl 7 false [] (.fn q7 (@pf (sz) (ch) (mo) (lz) (H) (h) om om (W) (w) om om (B) (m) om (k) (a) (na) om om)) (.s 53 (.out [] [] (D.v (.bool true)) [] R (ok _ _ wr wr))))))))))))))))))))))))))) (by kernel_rfl)
theorem parts_g (sz ch mo:Int) (lz:Bool) (H:List UInt8) (h:Nat) (hh:h = H.length) (W:List UInt8) (w:Nat) (hw:w = W.length) (B:List UInt8) (m:Nat) (hm:m = B.length) (k:Int) (ov:Bool) (a:List UInt8) (na:Nat) (hna:na = a.length) (b:List UInt8) (nb:Nat) (hnb:nb = b.length) (hG:600 < h ∨ 300 < w ∨ 300 < na ∨ 300 < na + nb) (hnb2:nb ≤ 1000000000000000):SpecH false Try.prog 3 [.agg [iD sz,iD ch,iD mo,bD lz,.sl false h 1 (H.map dB),.sl false w 1 (W.map dB),.sl false m 1 (B.map dB),iD k,bD ov],.sl false na 1 (a.map dB),.sl false nb 1 (b.map dB)] [] (.v (.bool true)) []:=by
 refine SpecH.run T_ok ag Try.func3 rfl rfl rfl trivial rfl 1000 64 (fun R ok=>(.s 4 (.cl 5 false [] (.fn q5 (@jW)) (.s 22 (.br (decide (600 < (h:Int))) (fun p0=>have p0f:=aN p0; (.s 39 (.out [] [] (D.v (.bool true)) [] R (ok _ _ wr wr)))) (fun p0=>have p0f:=aO p0; (.s 14 (.br (decide (300 < (w:Int))) (fun p1=>have p1f:=aN p1; (.s 29 (.out [] [] (D.v (.bool true)) [] R (ok _ _ wr wr)))) (fun p1=>have p1f:=aO p1; (.s 9 (.br (decide (300 < (na:Int))) (fun p2=>have p2f:=aN p2; (.s 20 (.out [] [] (D.v (.bool true)) [] R (ok _ _ wr wr)))) (fun p2=>have p2f:=aO p2; (.s 9 (.ow ((na:Int) + (nb:Int)) (.s 6 (.t (decide (300 < (na:Int) + (nb:Int))) (by (refine decide_eq_true ?_; (omega))) (.s 6 (.out [] [] (D.v (.bool true)) [] R (ok _ _ wr wr))))))))))))))))))) (by kernel_rfl)
end Vp
end Go.Proofs.Ytefjnofhgkjpmaa
namespace Go.Vx
open Go.RowKit Go.Bw Go.ChangeShapes Go.WideShapes Go.ChangeAt

inductive Sh
 | int (k:IntKind)
 | bool
 | str
 | bytes
 | sl (e:Sh) (sz:Nat)
 | arr (k:IntKind) (n:Nat)
 | st (l:Sh)
 | nil
 | cons (a b:Sh)
def Sh.size:Sh → Nat
 | .int _=>1
 | .bool=>1
 | .str=>1
 | .bytes=>1
 | .sl _ _=>1
 | .arr _ n=>n
 | .st l=>l.size
 | .nil=>0
 | .cons a b=>a.size + b.size
def Sh.has:Sh → List D → Prop
 | .int k,ds=>∃ n,ds = [.v (.int k n)] ∧ (OK k n).wf = true
 | .bool,ds=>∃ b,ds = [.v (.bool b)]
 | .str,ds=>∃ s:ByteArray,ds = [.v (.string s)] ∧ s.size ≤ maxLen
 | .bytes,ds=>∃ bs:List UInt8,ds = [.sl false bs.length 1 (bs.map dB)] ∧ bs.length ≤ maxLen
 | .sl e sz,ds=>∃ els:List (List D),ds = [.sl false els.length sz els.flatten] ∧ (∀ el ∈ els,e.has el) ∧ els.length ≤ maxLen
 | .arr k n,ds=>∃ zs:List Int,ds = zs.map (fun z=>D.v (.int k z)) ∧ zs.length = n ∧ ∀ z ∈ zs,(OK k z).wf = true
 | .st l,ds=>l.has ds
 | .nil,ds=>ds = []
 | .cons a b,ds=>∃ d1 d2,ds = d1 ++ d2 ∧ a.has d1 ∧ b.has d2
mutual
def Sh.ty (P:Program):Sh → TypeId → Prop
 | .int k,t=>P.underlying t = some (.int k)
 | .bool,t=>P.underlying t = some .bool
 | .str,t=>P.underlying t = some .string
 | .bytes,t=>∃ te,P.underlying t = some (.slice te) ∧ P.cellsOf te = 1 ∧ P.underlying te = some (.int .u8)
 | .sl e sz,t=>∃ te,P.underlying t = some (.slice te) ∧ P.cellsOf te = sz ∧ 0 < sz ∧ e.size = sz ∧ e.ty P te
 | .arr k n,t=>∃ te,P.underlying t = some (.array n te) ∧ P.cellsOf te = 1 ∧ P.cellsOf t = n ∧ P.underlying te = some (.int k)
 | .st l,t=>∃ fs,P.underlying t = some (.struct fs) ∧ P.cellsOf t = l.size ∧ l.fty P 0 fs.toList
 | .nil,_=>False
 | .cons _ _,_=>False
def Sh.fty (P:Program):Sh → Nat → List Field → Prop
 | .nil,_,[]=>True
 | .cons a b,off,f :: r=>f.offset = off ∧ P.cellsOf f.type = a.size ∧ a.ty P f.type ∧ b.fty P (off + a.size) r
 | _,_,_=>False
end
def CR (E:Env) (w:World) (ds:List D) (us:List Value):Prop:=us.length = ds.length ∧ ∀ (i:Nat) d u,ds[i]? = some d → us[i]? = some u → RD E w d u ∧ u.oneCell' = true
theorem CR.append {E:Env} {w:World} {d1 d2:List D} {u1 u2:List Value} (h1:CR E w d1 u1) (h2:CR E w d2 u2):CR E w (d1 ++ d2) (u1 ++ u2):=by
 refine ⟨by simp [h1.1,h2.1],fun i d u hd hu=>?_⟩
 by_cases hi:i < d1.length
 ·rw [List.getElem?_append_left hi] at hd
  rw [List.getElem?_append_left (by have:=h1.1; omega)] at hu
  exact h1.2 i d u hd hu
 ·rw [List.getElem?_append_right (by omega)] at hd
  rw [List.getElem?_append_right (by have:=h1.1; omega),h1.1] at hu
  exact h2.2 _ d u hd hu
theorem CR.one {E:Env} {w:World} {d:D} {u:Value} (h:RD E w d u) (h1:u.oneCell' = true):CR E w [d] [u]:=⟨rfl,fun i d' u' hd hu=>by
 cases i with
 | zero=>simp at hd hu; subst hd hu; exact ⟨h,h1⟩
 | succ i=>simp at hd⟩
theorem CR.nil (E:Env) (w:World):CR E w [] []:=⟨rfl,fun i d u hd=>by simp at hd⟩
theorem CR.flatten {E:Env} {w:World}:∀ {els:List (List D)} {vs:List (List Value)},els.length = vs.length → (∀ (i:Nat) el v,els[i]? = some el → vs[i]? = some v → CR E w el v) → CR E w els.flatten vs.flatten
 | [],[],_,_=>CR.nil E w
 | e :: els,v :: vs,hl,h=>by
  rw [MM,MM]
  exact (h 0 e v rfl rfl).append (CR.flatten (by simpa using hl) fun i el v' h1 h2=>h (i + 1) el v' (by simpa using h1) (by simpa using h2))
 | [],_ :: _,hl,_=>by simp at hl
 | _ :: _,[],hl,_=>by simp at hl

section
variable {H:Type} {enc:TypeId × Value → H} {P:Program} {w:World}
theorem cY {α:Type} {sz:Nat} (hs:0 < sz):∀ {l:List (List α)},(∀ x ∈ l,x.length = sz) → ∀ i:Nat,l.flatten[i]? = (l[i / sz]?).bind (·[i % sz]?)
 | [],_,i=>by simp
 | x :: l,h,i=>by
  rw [MM]
  have hx:=h x KO
  by_cases hi:i < sz
  ·rw [List.getElem?_append_left (by omega),NC hi,Lw hi]; rfl
  ·rw [List.getElem?_append_right (by omega),cY hs (fun y hy=>h y (KM _ hy)) (i - x.length),hx]
   have e1:i / sz = (i - sz) / sz + 1:=by
    rw [← Nat.add_div_right _ hs]; congr 1; omega
   have e2:i % sz = (i - sz) % sz:=by
    conv=>lhs; rw [show i = (i - sz) + sz by omega,Nat.add_mod_right]
   rw [e1,e2,List.getElem?_cons_succ]
theorem ce {α:Type} {sz:Nat}:∀ {l:List (List α)},(∀ x ∈ l,x.length = sz) → l.flatten.length = l.length * sz
 | [],_=>by simp
 | x :: l,h=>by
  rw [MM,Kw,h x KO,ce (fun y hy=>h y (KM _ hy)),KU,Lr]; omega
theorem qX {E:Env} (hE:∀ b,¬ E.own b) {a:Option Addr} {cap:Nat} {bs:List UInt8} (h:BRow w a cap bs):RD E w (.sl false bs.length 1 (bs.map dB)) (.slice a bs.length cap):=by
 obtain ⟨h1,h2,h3,h4,h5⟩:=h
 refine .sl false bs.length 1 _ a cap (bs.map bv) (by simp) (fun i d u hd hu=>?_) (fun u hu=>?_) (by simp) (My) ⟨h2,h3⟩ (fun h=>⟨h4 h,rfl⟩) ?_
 ·rw [List.getElem?_map,Lq] at hd hu
  obtain ⟨x,hx,rfl⟩:=hd
  obtain ⟨y,hy,rfl⟩:=hu
  rw [hx] at hy; cases hy
  exact .v _ rfl
 ·simp only [Nr] at hu
  obtain ⟨x,_,rfl⟩:=hu; rfl
 ·rcases h5 with h | ⟨b,off,e,hb,hc⟩
  ·exact .inl h
  ·exact .inr ⟨b,off,e,hb,hE b,hc⟩
theorem eG {α β:Type} {R:α → β → Prop}:∀ (l:List α),(∀ x ∈ l,∃ y,R x y) → ∃ m:List β,m.length = l.length ∧ ∀ (i:Nat) x y,l[i]? = some x → m[i]? = some y → R x y
 | [],_=>⟨[],rfl,fun i x y h=>by simp at h⟩
 | x :: l,h=>by
  obtain ⟨y,hy⟩:=h x KO
  obtain ⟨m,hl,hm⟩:=eG l fun x hx=>h x (KM _ hx)
  refine ⟨y :: m,by simp [hl],fun i a b h1 h2=>?_⟩
  cases i with
  | zero=>simp at h1 h2; subst h1 h2; exact hy
  | succ i=>exact hm i a b (by simpa using h1) (by simpa using h2)
theorem ny:∀ (els:List (List D)),(∀ el ∈ els,(Sh.int .u8).has el) → ∃ bs:List UInt8,bs.length = els.length ∧ els.flatten = bs.map dB
 | [],_=>⟨[],rfl,rfl⟩
 | e :: r,h=>by
  obtain ⟨bs,h1,h2⟩:=ny r fun el hel=>h el (KM _ hel)
  obtain ⟨n,rfl,hw⟩:=h e KO
  refine ⟨Lu n.toNat :: bs,by simp [h1],?_⟩
  rw [MM,h2,MC]
  show D.v (.int .u8 n) :: bs.map dB = _
  unfold dB
  rw [byte_of n hw]
theorem yf {α:Type} {f:α → List D} {p:α → Prop}:∀ (els:List (List D)),(∀ el ∈ els,∃ x,el = f x ∧ p x) → ∃ xs:List α,els = xs.map f ∧ ∀ x ∈ xs,p x
 | [],_=>⟨[],rfl,fun x h=>by cases h⟩
 | e :: r,h=>by
  obtain ⟨xs,h1,h2⟩:=yf r fun el hel=>h el (KM _ hel)
  obtain ⟨x,rfl,hx⟩:=h e KO
  exact ⟨x :: xs,by simp [h1],fun y hy=>by
   rcases List.mem_cons.1 hy with rfl | hy
   ·exact hx
   ·exact h2 y hy⟩
mutual
theorem Sh.openT:∀ (sh:Sh) (t:TypeId) (fuel:Nat) (cs:List Value) (x:DataW H × List MemPlace) (E:Env),(∀ b,¬ E.own b) → sh.ty P t → DataW.trod enc P w 0 (fun _=>true) true fuel t cs = some x → ∃ ds,sh.has ds ∧ ds.length = sh.size ∧ CR E w ds cs
 | .int k,t,fuel,cs,x,E,hE,ht,h=>by
  obtain ⟨n,rfl,_,hw⟩:=DataW.trod_int ht h
  exact ⟨_,⟨n,rfl,hw⟩,rfl,CR.one (.v _ rfl) rfl⟩
 | .bool,t,fuel,cs,x,E,hE,ht,h=>by
  obtain ⟨b,rfl,_⟩:=DataW.trod_bool ht h
  exact ⟨_,⟨b,rfl⟩,rfl,CR.one (.v _ rfl) rfl⟩
 | .str,t,fuel,cs,x,E,hE,ht,h=>by
  obtain ⟨s,rfl,_,hm⟩:=DataW.trod_string ht h
  exact ⟨_,⟨s,rfl,hm⟩,rfl,CR.one (.v _ rfl) rfl⟩
 | .bytes,t,fuel,cs,x,E,hE,ht,h=>by
  obtain ⟨te,ht,hc,he⟩:=ht
  rcases ND ht h with ⟨rfl,_⟩ | ⟨a,len,cap,elems,rest,n,_,rfl,_⟩
  ·obtain ⟨a,cap,bs,hv,hr⟩:=bytes_cell (v:=.slice none 0 0) ht he hc h
   exact ⟨[.sl false 0 1 []],⟨[],rfl,Li _⟩,rfl,CR.one (.sl false 0 1 [] none 0 [] rfl (fun i d u h=>by simp at h) (fun u h=>by cases h) (by simp) My ⟨KG _,by decide⟩ (fun _=>⟨rfl,rfl⟩) (.inl rfl)) rfl⟩
  ·obtain ⟨a,cap,bs,hv,hr⟩:=bytes_cell (v:=.slice (some a) len cap) ht he hc h
   cases hv
   have hmx:bs.length ≤ maxLen:=by
    obtain ⟨_,h2,h3,_⟩:=hr
    exact KK h2 h3
   exact ⟨[.sl false bs.length 1 (bs.map dB)],⟨bs,rfl,hmx⟩,rfl,CR.one (qX hE hr) rfl⟩
 | .sl e sz,t,fuel,cs,x,E,hE,ht,h=>by
  obtain ⟨te,ht,hsz,hpos,hes,hte⟩:=ht
  rcases ND ht h with ⟨rfl,_⟩ | ⟨a,len,cap,elems,rest,n,_,rfl,_,_,hlc,hm,hlen,hel,_,_⟩
  ·refine ⟨[.sl false 0 sz []],⟨[],rfl,(fun el h=>by cases h),Li _⟩,rfl,CR.one ?_ rfl⟩
   exact .sl false 0 sz [] none 0 [] rfl (fun i d u h=>by simp at h) (fun u h=>by cases h) (by simp) hpos ⟨KG _,by decide⟩ (fun _=>⟨rfl,rfl⟩) (.inl rfl)
  ·have hspot0:len = 0 ∨ a.spot = none:=by
    rcases MI len with h0 | h0
    ·exact .inl h0
    ·right
     have h1:=hel 0 h0
     rw [hsz,List.getElem?_eq_getElem (by omega),M2] at h1
     obtain ⟨us,hus,_⟩:=h1
     obtain ⟨_,q1,q2⟩:=World.cells?_some hus
     have:=q2 0 hpos
     rw [List.getElem?_eq_getElem (by omega)] at this
     simpa [Addr.add] using World.cell?_spot this
   rcases hspot0 with rfl | hspot
   ·have hcap:cap ≤ dX:=hm
    refine ⟨[.sl false 0 sz []],⟨[],rfl,(fun el h=>by cases h),Li _⟩,rfl,CR.one ?_ rfl⟩
    exact .sl false 0 sz [] (some a) cap [] rfl (fun i d u h=>by simp at h) (fun u h=>by cases h) (by simp) hpos ⟨Li _,hcap⟩ (fun h=>by cases h) (.inl rfl)
   obtain ⟨b,off,spot⟩:=a
   have hspot:spot = none:=hspot
   subst hspot
   have each:∀ i,i < len → ∃ us:List Value,us.length = sz ∧ (∀ j,j < sz → w.cell? ⟨b,off + (i * sz + j),none⟩ = us[j]?) ∧ ∃ ds,e.has ds ∧ ds.length = sz ∧ CR E.cl w ds us:=fun i hi=>by
    have h1:=hel i hi
    have hi' : i < elems.length:=by omega
    rw [hsz,List.getElem?_eq_getElem hi', M2] at h1
    obtain ⟨us,hus,hr⟩:=h1
    obtain ⟨_,q1,q2⟩:=World.cells?_some hus
    obtain ⟨ds,q3,q4,q5⟩:=Sh.openT e te n us _ E.cl hE hte hr
    refine ⟨us,q1,fun j hj=>?_,ds,q3,q4.trans hes,q5⟩
    rw [← q2 j hj,LM,LM,LK]
   obtain ⟨usl,hl1,hu⟩:=eG (Lf len) (R:=fun i us=>us.length = sz ∧ (∀ j,j < sz → w.cell? ⟨b,off + (i * sz + j),none⟩ = us[j]?) ∧ ∃ ds,e.has ds ∧ ds.length = sz ∧ CR E.cl w ds us) fun i hi=>each i (List.mem_range.1 hi)
   obtain ⟨els,hl2,hd⟩:=eG usl (R:=fun us ds=>e.has ds ∧ ds.length = sz ∧ CR E.cl w ds us) fun us hus=>by
    obtain ⟨i,hi⟩:=List.getElem?_of_mem hus
    have hlt:i < len:=by have:=(List.getElem?_eq_some_iff.1 hi).1; simp at hl1; omega
    exact (hu i i us (by simp [hlt]) hi).2.2
   rw [LG] at hl1
   have hul:∀ x ∈ usl,x.length = sz:=fun us hus=>by
    obtain ⟨i,hi⟩:=List.getElem?_of_mem hus
    have hlt:i < len:=by have:=(List.getElem?_eq_some_iff.1 hi).1; omega
    exact (hu i i us (by simp [hlt]) hi).1
   have hfind:∀ {i el},els[i]? = some el → ∃ us,usl[i]? = some us ∧ e.has el ∧ el.length = sz ∧ CR E.cl w el us:=fun {i el} hi=>by
    have hlt:i < usl.length:=by have:=(List.getElem?_eq_some_iff.1 hi).1; omega
    exact ⟨usl[i],List.getElem?_eq_getElem hlt,hd i _ el (List.getElem?_eq_getElem hlt) hi⟩
   have hel2:∀ x ∈ els,e.has x ∧ x.length = sz:=fun el hel=>by
    obtain ⟨i,hi⟩:=List.getElem?_of_mem hel
    obtain ⟨us,_,q1,q2,_⟩:=hfind hi
    exact ⟨q1,q2⟩
   have hcr:CR E.cl w els.flatten usl.flatten:=CR.flatten hl2 fun i el us h1 h2=>(hd i us el h2 h1).2.2
   refine ⟨_,⟨els,rfl,fun el hel=>(hel2 el hel).1,by omega⟩,rfl,CR.one ?_ rfl⟩
   have hlen' : els.length = len:=by omega
   rw [show els.length = len from hlen']
   have hcap:cap ≤ dX:=hm
   refine .sl false len sz els.flatten (some ⟨b,off,none⟩) cap usl.flatten hcr.1 (fun i d u h1 h2=>(hcr.2 i d u h1 h2).1) (fun u hu=>?_) (by rw [ce fun x hx=>(hel2 x hx).2,hlen']) hpos ⟨hlc,hcap⟩ (fun h=>by cases h) ?_
   ·obtain ⟨i,hi⟩:=List.getElem?_of_mem hu
    have hlt:i < els.flatten.length:=by have:=(List.getElem?_eq_some_iff.1 hi).1; rw [hcr.1] at this; exact this
    exact (hcr.2 i _ u (List.getElem?_eq_getElem hlt) hi).2
   ·rcases MI len with h0 | h0
    ·exact .inl h0
    ·right
     have cellat:∀ (i:Nat) u,usl.flatten[i]? = some u → w.cell? ⟨b,off + i,none⟩ = some u:=fun i u hi=>by
      rw [cY hpos hul,M2] at hi
      obtain ⟨us,h1,h2⟩:=hi
      have hlt:i / sz < len:=by have:=(List.getElem?_eq_some_iff.1 h1).1; omega
      have:=(hu (i / sz) (i / sz) us (by simp [hlt]) h1).2.1 (i % sz) (N8 _ hpos)
      rw [h2] at this
      rw [← this]; congr 2
      have:=Oz i sz
      rw [L0] at this; omega
     have hlt0:0 < usl.flatten.length:=by rw [ce hul,hl1]; exact Nat.mul_pos h0 hpos
     have hc0:=cellat 0 _ (List.getElem?_eq_getElem hlt0)
     exact ⟨b,off,rfl,block_lt_of_cell hc0,hE b,cellat⟩
 | .arr k n,t,fuel,cs,x,E,hE,ht,h=>by
  obtain ⟨te,ht,hc,hn,he⟩:=ht
  obtain ⟨xs,m,_,_,hl,hx,hel⟩:=DataW.trod_array ht h
  obtain ⟨zs,h1,h2⟩:=eG (Lf n) (R:=fun i z=>cs[i]? = some (.int k z) ∧ (OK k z).wf = true) fun i hi=>by
   have hi:=List.mem_range.1 hi
   have:=hel i hi
   rw [hc,KW,List.getElem?_eq_getElem (by omega)] at this
   obtain ⟨z,hz,_,hw⟩:=DataW.trod_int he this
   refine ⟨z,?_,hw⟩
   have h3:(K7 1 (K8 i cs))[0]? = some (.int k z):=by rw [hz]; rfl
   rw [List.getElem?_take] at h3
   simpa using h3
  rw [LG] at h1
  refine ⟨zs.map fun z=>.v (.int k z),⟨zs,rfl,h1,fun z hz=>?_⟩,by rw [KH,h1]; rfl,by rw [KH]; omega,fun i d u hd hu=>?_⟩
  ·obtain ⟨i,hi⟩:=List.getElem?_of_mem hz
   have hlt:i < n:=by have:=(List.getElem?_eq_some_iff.1 hi).1; omega
   exact (h2 i i z (by simp [hlt]) hi).2
  ·rw [List.getElem?_map,Lq] at hd
   obtain ⟨z,hz,rfl⟩:=hd
   have hlt:i < n:=by have:=(List.getElem?_eq_some_iff.1 hz).1; omega
   have:=(h2 i i z (by simp [hlt]) hz).1
   rw [hu] at this
   cases this
   exact ⟨.v _ rfl,rfl⟩
 | .st l,t,fuel,cs,x,E,hE,ht,h=>by
  obtain ⟨fs,ht,hc,hf⟩:=ht
  obtain ⟨xs,n,_,_,hl,hxl,hfs⟩:=DataW.trod_struct ht h
  obtain ⟨ds,q1,q2,q3⟩:=Sh.openF l 0 fs.toList n cs E hE hf (by omega) fun f hf=>by
   obtain ⟨i,hi⟩:=List.getElem?_of_mem hf
   have hi' : fs[i]? = some f:=by simpa using hi
   have hlt:i < xs.length:=by have:=(List.getElem?_eq_some_iff.1 hi).1; simp at this; omega
   exact ⟨_,(hfs i f hi').trans (List.getElem?_eq_getElem hlt)⟩
  exact ⟨ds,q1,q2,by simpa using q3⟩
 | .nil,_,_,_,_,_,_,ht,_=>ht.elim
 | .cons _ _,_,_,_,_,_,_,ht,_=>ht.elim
theorem Sh.openF:∀ (l:Sh) (off:Nat) (fs:List Field) (n:Nat) (cs:List Value) (E:Env),(∀ b,¬ E.own b) → l.fty P off fs → cs.length = off + l.size → (∀ f ∈ fs,∃ x,DataW.trod enc P w 0 (fun _=>true) true n f.type ((cs.drop f.offset).take (P.cellsOf f.type)) = some x) → ∃ ds,l.has ds ∧ ds.length = l.size ∧ CR E w ds (cs.drop off)
 | .nil,off,[],n,cs,E,hE,hf,hl,h=>⟨[],rfl,rfl,by rw [LI (by simp only [Sh.size] at hl; omega)]; exact CR.nil E w⟩
 | .cons a b,off,f :: r,n,cs,E,hE,hf,hl,h=>by
  obtain ⟨ho,hc,ha,hb⟩:=hf
  simp only [Sh.size] at hl
  obtain ⟨x,hx⟩:=h f KO
  rw [ho,hc] at hx
  obtain ⟨d1,p1,p2,p3⟩:=Sh.openT a f.type n _ x E hE ha hx
  obtain ⟨d2,q1,q2,q3⟩:=Sh.openF b (off + a.size) r n cs E hE hb (by omega) fun g hg=>h g (KM _ hg)
  refine ⟨d1 ++ d2,⟨d1,d2,rfl,p1,q1⟩,by simp only [Kw,p2,q2,Sh.size],?_⟩
  have e:cs.drop off = (cs.drop off).take a.size ++ cs.drop (off + a.size):=by rw [← NT]; exact (Mw _ _).symm
  rw [e]
  exact p3.append q3
 | .nil,_,_ :: _,_,_,_,_,hf,_,_=>hf.elim
 | .cons _ _,_,[],_,_,_,_,hf,_,_=>hf.elim
 | .int _,_,_,_,_,_,_,hf,_,_=>by cases hf
 | .bool,_,_,_,_,_,_,hf,_,_=>by cases hf
 | .str,_,_,_,_,_,_,hf,_,_=>by cases hf
 | .bytes,_,_,_,_,_,_,hf,_,_=>by cases hf
 | .sl _ _,_,_,_,_,_,_,hf,_,_=>by cases hf
 | .arr _ _,_,_,_,_,_,_,hf,_,_=>by cases hf
 | .st _,_,_,_,_,_,_,hf,_,_=>by cases hf
end
def Sh.simple:Sh → Bool
 | .arr _ _=>false
 | .st _=>false
 | .nil=>false
 | .cons _ _=>false
 | _=>true
def Sh.hasV:Sh → D → Prop
 | .st l,d=>∃ ds,d = .agg ds ∧ l.has ds
 | .arr k n,d=>∃ zs:List Int,d = .agg (zs.map (fun z=>D.v (.int k z))) ∧ zs.length = n ∧ ∀ z ∈ zs,(OK k z).wf = true
 | .int k,d=>∃ n,d = .v (.int k n) ∧ (OK k n).wf = true
 | .bool,d=>∃ b,d = .v (.bool b)
 | .str,d=>∃ s:ByteArray,d = .v (.string s) ∧ s.size ≤ maxLen
 | .bytes,d=>∃ bs:List UInt8,d = .sl false bs.length 1 (bs.map dB) ∧ bs.length ≤ maxLen
 | .sl e sz,d=>∃ els:List (List D),d = .sl false els.length sz els.flatten ∧ (∀ el ∈ els,e.has el) ∧ els.length ≤ maxLen
 | _,_=>False
theorem Sh.hasV_of {sh:Sh} {d:D} (h:sh.has [d]) (hs:sh.size = 1) (hn:sh.simple = true):sh.hasV d:=by
 cases sh with
 | int k=>obtain ⟨n,e,h⟩:=h; exact ⟨n,(List.cons.inj e).1,h⟩
 | bool=>obtain ⟨n,e⟩:=h; exact ⟨n,(List.cons.inj e).1⟩
 | str=>obtain ⟨n,e,h⟩:=h; exact ⟨n,(List.cons.inj e).1,h⟩
 | bytes=>obtain ⟨n,e,h⟩:=h; exact ⟨n,(List.cons.inj e).1,h⟩
 | sl e sz=>obtain ⟨n,e,h⟩:=h; exact ⟨n,(List.cons.inj e).1,h⟩
 | _=>cases hn
theorem Sh.openV {sh:Sh} {t:TypeId} {v:Value} {r:Reach} {base:Nat} (ht:sh.ty P t) (o:Value.okWide P w r base t v) (h:Bw.Tr enc P w t v) {E:Env} (hE:∀ b,¬ E.own b):∃ d,sh.hasV d ∧ RD E w d v:=by
 obtain ⟨dd,p,fuel,hf⟩:=h
 have one:∀ {sh:Sh},v.cells = #[v] → sh.size = 1 → sh.simple = true → sh.ty P t → ∃ d,sh.hasV d ∧ RD E w d v:=fun {sh} hv hs hn ht=>by
  obtain ⟨ds,h1,h2,h3⟩:=Sh.openT sh t fuel _ _ E hE ht hf
  rw [hv] at h3
  rw [hs] at h2
  match ds,h2 with
  | [d],_=>exact ⟨d,Sh.hasV_of h1 hs hn,(h3.2 0 d v rfl rfl).1⟩
 cases sh with
 | int k=>obtain ⟨n,rfl⟩:=okWide_int ht o; exact one (sh:=.int k) rfl rfl rfl ht
 | bool=>obtain ⟨b,rfl⟩:=okWide_bool ht o; exact one (sh:=.bool) rfl rfl rfl ht
 | str=>obtain ⟨b,rfl⟩:=okWide_string ht o; exact one (sh:=.str) rfl rfl rfl ht
 | bytes =>
  obtain ⟨te,h1,h2⟩:=ht
  obtain ⟨a,len,cap,rfl⟩:=okWide_slice h1 o
  exact one (sh:=.bytes) rfl rfl rfl ⟨te,h1,h2⟩
 | sl e sz =>
  obtain ⟨te,h1,h2⟩:=ht
  obtain ⟨a,len,cap,rfl⟩:=okWide_slice h1 o
  exact one (sh:=.sl e sz) rfl rfl rfl ⟨te,h1,h2⟩
 | arr k n =>
  obtain ⟨te,g1,g2,g3,g4⟩:=ht
  obtain ⟨zs,rfl,q1,q2⟩:=open_array g1 g4 g2 g3 o ⟨dd,p,fuel,hf⟩
  refine ⟨.agg (zs.map fun z=>.v (.int k z)),⟨zs,rfl,q1,q2⟩,?_⟩
  exact RD.agg (E:=E) (w:=w) _ (zs.map fun z=>Ll k z) (by simp) (fun i d u a b=>by
   rw [List.getElem?_map,Lq] at a b
   obtain ⟨z,hz,rfl⟩:=a
   obtain ⟨y,hy,rfl⟩:=b
   rw [hz] at hy; cases hy
   exact .v _ rfl) fun u hu=>by
   obtain ⟨z,_,rfl⟩:=List.mem_map.1 hu; rfl
 | st l =>
  obtain ⟨fs,h1,h2⟩:=ht
  obtain ⟨cs,rfl,_⟩:=okWide_struct h1 o
  obtain ⟨ds,q1,q2,q3⟩:=Sh.openT (.st l) t fuel _ _ E hE ⟨fs,h1,h2⟩ hf
  refine ⟨.agg ds,⟨ds,rfl,q1⟩,?_⟩
  have:=RD.agg (E:=E) (w:=w) ds cs.toList q3.1 (fun i d u a b=>(q3.2 i d u a b).1) fun u hu=>by
   obtain ⟨i,hi⟩:=List.getElem?_of_mem hu
   have hlt:i < ds.length:=by have:=(List.getElem?_eq_some_iff.1 hi).1; have:=q3.1; simp [NS] at this; simp at *; omega
   exact (q3.2 i _ u (List.getElem?_eq_getElem hlt) hi).2
  simpa using this
 | nil=>exact ht.elim
 | cons a b=>exact ht.elim
def E0:Env:=dS (fun _=>False) (fun _=>none) 0
theorem E0_own:∀ b,¬ E0.own b:=fun b h=>by
 rcases h with h | ⟨j,hj,_⟩
 ·exact h
 ·cases hj
theorem rd_nil (w:World):∀ (j:Nat) d u,([]:List D)[j]? = some d → ([]:List Value)[j]? = some u → RD E0 w d u:=fun j d u h=>by simp at h
theorem rd_cons {d:D} {v:Value} {ds:List D} {vs:List Value} (h:RD E0 w d v) (k:∀ (j:Nat) d u,ds[j]? = some d → vs[j]? = some u → RD E0 w d u):∀ (j:Nat) d' u,(d :: ds)[j]? = some d' → (v :: vs)[j]? = some u → RD E0 w d' u:=fun j d' u h1 h2=>by
 cases j with
 | zero=>simp at h1 h2; subst h1 h2; exact h
 | succ j=>exact k j d' u (by simpa using h1) (by simpa using h2)
theorem SpecH.gives {f:FuncId} {ds:List D} {c:Value} (h:SpecH false P f ds [] (.v c) []) {args:List Value} (hl:args.length = ds.length) (ha:∀ (j:Nat) d u,ds[j]? = some d → args[j]? = some u → RD E0 w d u):Calls P f args.toArray w (Gives w c):=by
 refine (h.2 (fun _=>False) (fun _=>none) w args (fun x hx=>hx.elim) (fun j b hb=>by simp at hb) (fun i j x hi=>by cases hi) hl ha).mono ?_
 rintro e w' ⟨u,rfl,hfr,φ,_,hr,_⟩
 cases hr with
 | v c h=>exact ⟨rfl,(hfr.mono (M' := fun k=>w.heap.size ≤ k) fun x hx=>by
   rcases hx with hx | ⟨j,hj,_⟩
   ·exact hx
   ·cases hj).below⟩
theorem sized_len {ts:List TypeId} {ds:List (DataW H)} (h:(DataW.weightsEach P ts ds).all (· ≤ reachBytes) = true) {j:Nat} {t e:TypeId} {d:DataW H} {v:Value} {p:List MemPlace} (ht:ts[j]? = some t) (hd:ds[j]? = some d) (hu:P.underlying t = some (.slice e))
  (hr:DataW.Trod enc P w 0 (fun _=>true) true t v d p) {a:Option Addr} {len cap:Nat} (hv:v = .slice a len cap):len * P.bytesOf e ≤ reachBytes:=by
 subst hv
 obtain ⟨fuel,hf⟩:=hr
 rcases ND hu hf with ⟨h0,_⟩ | ⟨a', len', cap', elems,rest,n,_,hcs,hx,_,_,_,hlen,_⟩
 ·have h0:Value.slice a len cap = .slice none 0 0:=(List.cons.inj h0).1
  cases h0
  omega
 ·have hcs:Value.slice a len cap = .slice (some a') len' cap' := (List.cons.inj hcs).1
  cases hcs
  have hd' : d = .slice (elems.map (·.1)) (rest.map (·.1)):=congrArg KR hx
  subst hd'
  have:=sized_slice h ht hd hu
  simp only [KH,hlen] at this
  have h2:len * P.bytesOf e ≤ (len + rest.length) * P.bytesOf e:=Lc _ (NE _ _)
  omega
end
end Go.Vx

/- Part 5. -/
import Derived.Test.YtefjnofhgkjpmaaGreatTm4
import Derived.Test.YtefjnofhgkjpmaaGreatRows
set_option linter.unusedVariables false
set_option linter.unusedSimpArgs false
set_option maxRecDepth 100000
set_option maxHeartbeats 4000000
open And renaming intro → Mi
open Array renaming replicate → OW
open BitVec renaming ofInt → Mf, toNat → MD
open Bool renaming and_eq_true → L7, and_true → Mv, toNat_le → OT
open ByteArray renaming mk → Nu
open Eq renaming trans → Px
open Go.Fn renaming func → MG
open Go.IntKind renaming i64 → Mk, u32 → MH, u64 → Nr, u8 → Pj, wrap → Mj
open Go.Value renaming int → MS
open Inhabited renaming default → ji
open Int renaming fdiv → MK, fdiv_eq_ediv_of_nonneg → NE, natCast_ediv → Oo, natCast_nonneg → Od, tdiv → N4, tmod → Nz, toNat → u7, toNat_natCast → Nq
open List renaming any_eq_true → Pb, append_assoc → Mu, append_nil → MU, cons_append → NV, drop → MI, drop_append → PW, drop_append_of_le_length → N8, drop_eq_getElem_cons → Nl, drop_eq_nil_of_le → Nb, drop_zero → Ns, filter_append → M7, filter_nil → P8, flatMap_append → NF, flatMap_cons → M6, getD → Qi, getElem_mem → ML, length_append → L6, length_cons → Mx, length_drop → Ms, length_filter_le → OI, length_map → Mg, length_nil → NG, length_range → Nh, length_singleton → MN, length_take → Mc, map → ND, map_append → MO, map_take → OS, mem_of_mem_drop → N3, mem_of_mem_take → M0, nil_append → OX, range → MQ, range_succ → Og, replicate → Ml, set_append_right → Pp, take → ME, take_append → PV, take_append_drop → NY, take_append_of_le_length → NN, take_length → M8, take_of_length_le → Mz, take_succ_cons → PC
open Nat renaming add_assoc → Nd, add_mul → MY, add_sub_cancel_left → N6, add_zero → N2, beq → L2, beq_refl → M5, ble → L5, ble_eq_true_of_le → L9, div_eq_of_lt → O8, div_le_self → Pk, eq_of_beq_eq_true → Ma, le_add_right → OL, le_refl → Mh, le_trans → L8, lt_of_lt_of_le → MC, lt_or_ge → MF, mod_eq_of_lt → M9, mul_add → NS, mul_assoc → Na, mul_comm → Nk, mul_le_mul_left → Ot, mul_one → My, not_lt_zero → Nc, pow_add → Py, pow_le_pow_right → MV, pow_succ → Nt, sub_self → Nf, succ_le_succ → NU, succ_ne_zero → NW, toNat_testBit → PN, two_pow_add_eq_or_of_lt → Ol, two_pow_pos → NH, zero_add → Mw, zero_le → MP, zero_lt_one → N0, zero_mul → Nj
open UInt8 renaming ofNat → M1, toNat → L4, toNat_ofNat' → Oc
namespace Go.Vx
open Go.RowKit Go.Bw
theorem aC {A B:List D} {e:TypeId} {r:Bool} (h:A = B):Blk.mk A e r = Blk.mk B e r:=by rw [h]
theorem D.sim.slN {nn:Bool} {n n' sz:Nat} {cells cells' : List D} (h1:n = n') (h2:cells = cells'):(D.sl nn n sz cells).sim (.sl nn n' sz cells'):=by rw [h1,h2]; exact D.sim.refl _
theorem D.sim.tup {l l' : List D} (h:bX l l'):(D.tup l).sim (.tup l'):=fun E w u hr=>by
 obtain ⟨h1,h2⟩:=h.get
 cases hr with
 | tup _ us hlen hd =>
  refine .tup _ us (by rw [hlen,h1]) fun i d u a b=>?_
  obtain ⟨d0,c1,c2⟩:=h2 i d a
  exact c2 _ _ _ (hd i d0 u c1 b)
theorem D.sim.ifc {t:TypeId} {x x' : D} (h:x.sim x'):(D.ifc t x).sim (.ifc t x'):=fun E w u hr=>by
 cases hr with
 | ifc _ _ u hx=>exact .ifc _ _ u (h _ _ _ hx)
theorem aV {α:Type} {c:Bool} {a b:α} (h:c = true):cond c a b = a:=by rw [h]; rfl
theorem qh (k:IntKind) (m n:Int):eo k false m n = some (.v (.int k (min m n))):=tJ rfl
theorem ee (k:IntKind) (m n:Int):eo k true m n = some (.v (.int k (max m n))):=zy rfl
theorem fq {b:Bool} (h:(!b) = true):b = false:=by cases b <;> simp_all
theorem ft {b:Bool} (h:(!b) = false):b = true:=by cases b <;> simp_all
theorem D4 {a b:Bool} (h:(a && b) = true):a = true:=by cases a <;> simp_all
theorem D5 {a b:Bool} (h:(a && b) = true):b = true:=by cases a <;> simp_all
theorem aI {a b:Bool} (h1:a = true) (h2:b = true):(a && b) = true:=by rw [h1,h2]; rfl
theorem er {a b:Nat} (h:a = b):L2 a b = true:=by rw [h]; exact M5 b
theorem fU (b:UInt8) {m n:Int} (hm:m ≤ 0) (hn:255 ≤ n):m ≤ (b.toNat:Int) ∧ (b.toNat:Int) ≤ n:=by
 have:=b.toNat_lt
 constructor <;> omega
theorem aO {k:IntKind} {a b:Int} (h:a = b):D.v (.int k a) = D.v (.int k b):=by rw [h]
theorem lv {α:Type} [Inhabited α] {l:List α} {i:Nat} (h:i < l.length):l.take (i + 1) = l.take i ++ [l.getD i ji]:=by
 rw [List.take_add_one,List.getElem?_eq_getElem h]; simp [h]
theorem tL {l:List D} (h:ab l = true) (n:Nat):ab (l.take n) = true:=bd.2 fun d hd=>bd.1 h d (M0 hd)
theorem tM {l:List D} (h:ab l = true) (n:Nat):ab (l.drop n) = true:=bd.2 fun d hd=>bd.1 h d (N3 hd)
theorem Gl (bs:List UInt8) (n:Nat):ab ((bs.map dB).take n) = true:=tL (aR bs) n
theorem Gm (bs:List UInt8) (n:Nat):ab ((bs.map dB).drop n) = true:=tM (aR bs) n
theorem zz (c:Bool) (a b:List D):ab (cond c a b) = cond c (ab a) (ab b):=by cases c <;> rfl
theorem wT (a b:List D):ab (a ++ b) = (ab a && ab b):=by
 induction a with
 | nil=>rfl
 | cons x a ih=>show (x.closed && ab (a ++ b)) = _; rw [ih,← Bool.and_assoc]; rfl
theorem wU {α:Type} [BEq α] [LawfulBEq α] {a b:α} (h:(a != b) = true):a ≠ b:=by simpa using h
theorem wV {α:Type} [BEq α] [LawfulBEq α] {a b:α} (h:(a != b) = false):a = b:=by simpa using h
theorem av {α:Type} [BEq α] [LawfulBEq α] {a b:α} (h:(a == b) = false):a ≠ b:=by simpa using h
theorem fu (l:List UInt8):(Nu l.toArray).toList = l:=by rw [ByteArray.toList_eq]
theorem vh (a b:List UInt8):Nu a.toArray ++ Nu b.toArray = Nu (a ++ b).toArray:=by
 apply ByteArray.ext
 simp
theorem zA (a:List UInt8):(Nu a.toArray).size = a.length:=rfl
theorem sa {α:Type} [Inhabited α] {f:α → List D} {k:Nat} (hk:∀ x,(f x).length = k):∀ {xs:List α} {i j:Nat},i < xs.length → j < k → (xs.flatMap f)[i * k + j]? = (f (xs.getD i ji))[j]?
 | [],i,j,h,_=>by simp at h
 | x :: xs,0,j,h,hj=>by
  rw [M6,Nj,Mw,List.getElem?_append_left (by rw [hk]; exact hj)]; rfl
 | x :: xs,i + 1,j,h,hj=>by
  rw [M6,List.getElem?_append_right (by rw [hk,MY]; omega),hk]
  have e:(i + 1) * k + j - k = i * k + j:=by rw [MY]; omega
  rw [e,sa hk (by simpa using h) hj]; rfl
theorem lw {α:Type} [Inhabited α] {f:α → List D} {k:Nat} (hk:∀ x,(f x).length = k) {xs:List α} {i n j:Nat} {d:D} (h:i < xs.length) (e:n = i * k + j) (hj:(f (xs.getD i ji))[j]? = some d):(xs.flatMap f)[n]? = some d:=by
 have hlt:j < k:=by rw [← hk (xs.getD i ji)]; exact (List.getElem?_eq_some_iff.1 hj).1
 rw [e,sa hk h hlt]; exact hj
theorem bl {α:Type} {f:α → List D} {k:Nat} (hk:∀ x,(f x).length = k):∀ (xs:List α),(xs.flatMap f).length = xs.length * k
 | []=>by simp
 | x :: xs=>by rw [M6,L6,hk,bl hk xs,Mx,MY]; omega
theorem aE {α:Type} [Inhabited α] {f:α → List D} {k:Nat} (hk:∀ x,(f x).length = k) {xs:List α} {i n:Nat} (h:i < xs.length) (e:n = i * k):((xs.flatMap f).drop n).take k = f (xs.getD i ji):=by
 apply List.ext_getElem?
 intro j
 rw [List.getElem?_take]
 by_cases hj:j < k
 ·rw [if_pos hj,List.getElem?_drop,e,sa hk h hj]
 ·rw [if_neg hj,List.getElem?_eq_none (by rw [hk]; omega)]
theorem aX (bs:List UInt8) (off m:Nat):(bif L2 off 0 && L2 m (bs.map dB).length then bs.map dB else ((bs.map dB).drop off).take m) = ((bs.drop off).take m).map dB:=by
 cases h:L2 off 0 && L2 m (bs.map dB).length with
 | true =>
  have h1:=Ma (D4 h)
  have h2:=Ma (D5 h)
  subst h1 h2
  simp
 | false=>rw [cond_false,OS,List.map_drop]
theorem D.sim.nil {sz:Nat} (h:0 < sz):(D.v (.slice none 0 0)).sim (.sl false 0 sz []):=fun E w u hr=>by
 cases hr with
 | v=>exact .sl false 0 sz [] none 0 [] rfl (by simp) (by simp) (by simp) h ⟨Mh _,MP _⟩ (fun _=>⟨rfl,rfl⟩) (.inl rfl)
theorem D.sim.slc {nn:Bool} {n n' sz:Nat} {cells cells' : List D} (h1:n = n') (h2:bX cells cells'):(D.sl nn n sz cells).sim (.sl false n' sz cells'):=by
 subst h1
 intro E w u h
 obtain ⟨e,g⟩:=h2.get
 cases h with
 | sl _ _ _ _ a c us hlen hd h1 hn hs hc h0 hr =>
  refine .sl false n sz cells' a c us (by rw [hlen,e]) (fun i d' u a1 a2=>?_) h1 (by rw [← e,hn]) hs hc (fun h=>⟨(h0 h).1,rfl⟩) hr
  obtain ⟨d,b1,b2⟩:=g i d' a1
  exact b2 _ _ _ (hd i d u b1 a2)
theorem cS {α:Type} {f:α → List D} (h:∀ x,ab (f x) = true):∀ l:List α,ab (l.flatMap f) = true
 | []=>rfl
 | x :: l=>by rw [M6,wT,h x,cS h l]; rfl
theorem ef {α:Type} {f:α → List D} (h:∀ x,tD (f x) = true) (l:List α):tD (l.flatMap f) = true:=gP.2 fun d hd=>by
 obtain ⟨t,_,hd⟩:=List.mem_flatMap.1 hd
 exact gP.1 (h t) d hd
theorem tN {α:Type} {f:α → List D} {k:Nat} (hk:∀ x,(f x).length = k):∀ (xs:List α) (i:Nat),(xs.flatMap f).take (i * k) = (xs.take i).flatMap f
 | [],i=>by simp
 | x :: xs,0=>by simp
 | x :: xs,i + 1=>by
  rw [M6,PC,M6,PV,hk,Mz (by rw [hk,MY]; omega),show (i + 1) * k - k = i * k from by rw [MY]; omega,tN hk xs i]
theorem ku {α:Type} {f:α → List D} {c:List α} {l:List D} {t:α} {y:TypeId} {r:Bool} (h:l = f t):(⟨c.flatMap f ++ l,y,r⟩:Blk) = ⟨(c ++ [t]).flatMap f,y,r⟩:=by rw [h,NF]; simp
theorem Gn (b:UInt8):(dB b).closed = true:=rfl
attribute [simp] fu vh zA
attribute [simp] b7 fE uQ ka aM ci aW kP Lk Ll JI ab D.closed aR Gl Gm zz wT tL tM cS Gn cv bx ou
end Go.Vx
namespace Go.Proofs.YtefjnofhgkjpmaaGreat
open Go.Vx

def Lt:TI:=⟨.int .i64,.int .i64 0,1,8,false⟩
def Lu:TI:=⟨.int .i64,.int .i64 0,1,8,false⟩
def Lv:TI:=⟨.bool,.bool false,1,1,false⟩
def zB:TI:=⟨.int .u8,.int .u8 0,1,1,false⟩
def Lw:TI:=⟨.string,.string ⟨#[]⟩,1,16,false⟩
def Gp:TI:=⟨.int .u64,.int .u64 0,1,8,false⟩
def Gq:TI:=⟨.pointer 302,.pointer none,1,8,false⟩
def Gr:TI:=⟨.pointer 305,.pointer none,1,8,false⟩
def Gs:TI:=⟨.pointer 313,.pointer none,1,8,false⟩
def Gt:TI:=⟨.interface #[],.nilIface,1,16,false⟩
def Gu:TI:=⟨.int .i32,.int .i32 0,1,4,false⟩
def Gw : TI := ⟨.struct #[⟨"Size", 3, 0, false, "", "", 0⟩, ⟨"Chain", 3, 1, false, "", "", 8⟩, ⟨"Most", 3, 2, false, "", "", 16⟩, ⟨"Lazy", 4, 3, false, "", "", 24⟩], .agg #[.int .i64 0, .int .i64 0, .int .i64 0, .bool false], 4, 32, true⟩
def Gx : TI := ⟨.struct #[⟨"Size", 3, 0, false, "", "", 0⟩, ⟨"Chain", 3, 1, false, "", "", 8⟩, ⟨"Most", 3, 2, false, "", "", 16⟩, ⟨"Lazy", 4, 3, false, "", "", 24⟩], .agg #[.int .i64 0, .int .i64 0, .int .i64 0, .bool false], 4, 32, true⟩
def Gy:TI:=⟨.slice 5,.slice none 0 0,1,24,false⟩
def Gz : TI := ⟨.struct #[⟨"Bytes", 24, 0, false, "", "", 0⟩, ⟨"Bits", 3, 1, false, "", "", 24⟩], .agg #[.slice none 0 0, .int .i64 0], 2, 32, false⟩
def GA : TI := ⟨.struct #[⟨"Bytes", 24, 0, false, "", "", 0⟩, ⟨"Bits", 3, 1, false, "", "", 24⟩], .agg #[.slice none 0 0, .int .i64 0], 2, 32, false⟩
def GB : TI := ⟨.struct #[⟨"Style", 23, 0, false, "", "", 0⟩, ⟨"Hist", 24, 4, false, "", "", 32⟩, ⟨"Wait", 24, 5, false, "", "", 56⟩, ⟨"Pen", 26, 6, false, "", "", 80⟩, ⟨"Over", 4, 8, false, "", "", 112⟩], .agg #[.int .i64 0, .int .i64 0, .int .i64 0, .bool false, .slice none 0 0, .slice none 0 0, .slice none 0 0, .int .i64 0, .bool false], 9, 120, false⟩
def GC : TI := ⟨.struct #[⟨"Style", 23, 0, false, "", "", 0⟩, ⟨"Hist", 24, 4, false, "", "", 32⟩, ⟨"Wait", 24, 5, false, "", "", 56⟩, ⟨"Pen", 26, 6, false, "", "", 80⟩, ⟨"Over", 4, 8, false, "", "", 112⟩], .agg #[.int .i64 0, .int .i64 0, .int .i64 0, .bool false, .slice none 0 0, .slice none 0 0, .slice none 0 0, .int .i64 0, .bool false], 9, 120, false⟩
def GD:TI:=⟨.int .i64,.int .i64 0,1,8,false⟩
def GF:TI:=⟨.slice 56,.slice none 0 0,1,24,false⟩
def GG : TI := ⟨.struct #[⟨"Flush", 4, 0, false, "", "", 0⟩, ⟨"Text", 24, 1, false, "", "", 8⟩], .agg #[.bool false, .slice none 0 0], 2, 32, false⟩
def GH : TI := ⟨.struct #[⟨"Flush", 4, 0, false, "", "", 0⟩, ⟨"Text", 24, 1, false, "", "", 8⟩], .agg #[.bool false, .slice none 0 0], 2, 32, false⟩
def GI:TI:=⟨.pointer 68,.pointer none,1,8,false⟩
def GJ : TI := ⟨.struct #[⟨"Press", 28, 0, true, "", "", 0⟩, ⟨"out", 24, 9, false, "", "bellows/press", 120⟩], .agg #[.int .i64 0, .int .i64 0, .int .i64 0, .bool false, .slice none 0 0, .slice none 0 0, .slice none 0 0, .int .i64 0, .bool false, .slice none 0 0], 10, 144, false⟩
def GK : TI := ⟨.struct #[⟨"Press", 28, 0, true, "", "", 0⟩, ⟨"out", 24, 9, false, "", "bellows/press", 120⟩], .agg #[.int .i64 0, .int .i64 0, .int .i64 0, .bool false, .slice none 0 0, .slice none 0 0, .slice none 0 0, .int .i64 0, .bool false, .slice none 0 0], 10, 144, false⟩
def GL:TI:=⟨.slice 119,.slice none 0 0,1,24,false⟩
def GM:TI:=⟨.pointer 95,.pointer none,1,8,false⟩
def GN : TI := ⟨.struct #[⟨"b", 24, 0, false, "", "bellows/plain", 0⟩, ⟨"at", 3, 1, false, "", "bellows/plain", 24⟩, ⟨"e", 31, 2, false, "", "bellows/plain", 32⟩], .agg #[.slice none 0 0, .int .i64 0, .int .i64 0], 3, 40, false⟩
def GO : TI := ⟨.struct #[⟨"b", 24, 0, false, "", "bellows/plain", 0⟩, ⟨"at", 3, 1, false, "", "bellows/plain", 24⟩, ⟨"e", 31, 2, false, "", "bellows/plain", 32⟩], .agg #[.slice none 0 0, .int .i64 0, .int .i64 0], 3, 40, false⟩
def Bj:TI:=⟨.pointer 123,.pointer none,1,8,false⟩
def Bk:TI:=⟨.slice 64,.slice none 0 0,1,24,false⟩
def Bl : TI := ⟨.struct #[⟨"Lit", 5, 0, false, "", "", 0⟩, ⟨"Dist", 3, 1, false, "", "", 8⟩, ⟨"Long", 3, 2, false, "", "", 16⟩], .agg #[.int .u8 0, .int .i64 0, .int .i64 0], 3, 24, true⟩
def Bm : TI := ⟨.struct #[⟨"Lit", 5, 0, false, "", "", 0⟩, ⟨"Dist", 3, 1, false, "", "", 8⟩, ⟨"Long", 3, 2, false, "", "", 16⟩], .agg #[.int .u8 0, .int .i64 0, .int .i64 0], 3, 24, true⟩
def Bn:TI:=⟨.slice 126,.slice none 0 0,1,24,false⟩
def Bo : TI := ⟨.struct #[⟨"l", 121, 0, false, "", "bellows/block", 0⟩], .agg #[.slice none 0 0], 1, 24, false⟩
def Bp : TI := ⟨.struct #[⟨"l", 121, 0, false, "", "bellows/block", 0⟩], .agg #[.slice none 0 0], 1, 24, false⟩
def Bq:TI:=⟨.int .u32,.int .u32 0,1,4,false⟩
def Br : TI := ⟨.struct #[⟨"v", 124, 0, false, "", "bellows/block", 0⟩, ⟨"n", 3, 1, false, "", "bellows/block", 8⟩], .agg #[.int .u32 0, .int .i64 0], 2, 16, true⟩
def Bs : TI := ⟨.struct #[⟨"v", 124, 0, false, "", "bellows/block", 0⟩, ⟨"n", 3, 1, false, "", "bellows/block", 8⟩], .agg #[.int .u32 0, .int .i64 0], 2, 16, true⟩
def Bt:TI:=⟨.array 3 5,.agg #[.int .u8 0,.int .u8 0,.int .u8 0],3,3,true⟩
def Bu : TI := ⟨.struct #[⟨"Size", 3, 0, false, "", "", 0⟩, ⟨"Bytes", 24, 1, false, "", "", 8⟩], .agg #[.int .i64 0, .slice none 0 0], 2, 32, false⟩
def Bv : TI := ⟨.struct #[⟨"Size", 3, 0, false, "", "", 0⟩, ⟨"Bytes", 24, 1, false, "", "", 8⟩], .agg #[.int .i64 0, .slice none 0 0], 2, 32, false⟩
def Bx:TI:=⟨.slice 169,.slice none 0 0,1,24,false⟩
def By:TI:=⟨.slice 24,.slice none 0 0,1,24,false⟩
def Bz:TI:=⟨.array 16 3,.agg #[.int .i64 0,.int .i64 0,.int .i64 0,.int .i64 0,.int .i64 0,.int .i64 0,.int .i64 0,.int .i64 0,.int .i64 0,.int .i64 0,.int .i64 0,.int .i64 0,.int .i64 0,.int .i64 0,.int .i64 0,.int .i64 0],16,128,true⟩
def BA:TI:=⟨.slice 3,.slice none 0 0,1,24,false⟩
def BB : TI := ⟨.struct #[⟨"Count", 151, 0, false, "", "", 0⟩, ⟨"Syms", 152, 16, false, "", "", 128⟩], .agg #[.int .i64 0, .int .i64 0, .int .i64 0, .int .i64 0, .int .i64 0, .int .i64 0, .int .i64 0, .int .i64 0, .int .i64 0, .int .i64 0, .int .i64 0, .int .i64 0, .int .i64 0, .int .i64 0, .int .i64 0, .int .i64 0, .slice none 0 0], 17, 152, false⟩
def BC : TI := ⟨.struct #[⟨"Count", 151, 0, false, "", "", 0⟩, ⟨"Syms", 152, 16, false, "", "", 128⟩], .agg #[.int .i64 0, .int .i64 0, .int .i64 0, .int .i64 0, .int .i64 0, .int .i64 0, .int .i64 0, .int .i64 0, .int .i64 0, .int .i64 0, .int .i64 0, .int .i64 0, .int .i64 0, .int .i64 0, .int .i64 0, .int .i64 0, .slice none 0 0], 17, 152, false⟩
def BD : TI := ⟨.struct #[⟨"Kind", 5, 0, false, "", "", 0⟩, ⟨"Last", 4, 1, false, "", "", 1⟩, ⟨"Left", 3, 2, false, "", "", 8⟩, ⟨"Longs", 154, 3, false, "", "", 16⟩, ⟨"Fars", 154, 20, false, "", "", 168⟩], .agg #[.int .u8 0, .bool false, .int .i64 0, .int .i64 0, .int .i64 0, .int .i64 0, .int .i64 0, .int .i64 0, .int .i64 0, .int .i64 0, .int .i64 0, .int .i64 0, .int .i64 0, .int .i64 0, .int .i64 0, .int .i64 0, .int .i64 0, .int .i64 0, .int .i64 0, .slice none 0 0, .int .i64 0, .int .i64 0, .int .i64 0, .int .i64 0, .int .i64 0, .int .i64 0, .int .i64 0, .int .i64 0, .int .i64 0, .int .i64 0, .int .i64 0, .int .i64 0, .int .i64 0, .int .i64 0, .int .i64 0, .int .i64 0, .slice none 0 0], 37, 320, false⟩
def BE : TI := ⟨.struct #[⟨"Kind", 5, 0, false, "", "", 0⟩, ⟨"Last", 4, 1, false, "", "", 1⟩, ⟨"Left", 3, 2, false, "", "", 8⟩, ⟨"Longs", 154, 3, false, "", "", 16⟩, ⟨"Fars", 154, 20, false, "", "", 168⟩], .agg #[.int .u8 0, .bool false, .int .i64 0, .int .i64 0, .int .i64 0, .int .i64 0, .int .i64 0, .int .i64 0, .int .i64 0, .int .i64 0, .int .i64 0, .int .i64 0, .int .i64 0, .int .i64 0, .int .i64 0, .int .i64 0, .int .i64 0, .int .i64 0, .int .i64 0, .slice none 0 0, .int .i64 0, .int .i64 0, .int .i64 0, .int .i64 0, .int .i64 0, .int .i64 0, .int .i64 0, .int .i64 0, .int .i64 0, .int .i64 0, .int .i64 0, .int .i64 0, .int .i64 0, .int .i64 0, .int .i64 0, .int .i64 0, .slice none 0 0], 37, 320, false⟩
def BF:TI:=⟨.pointer 163,.pointer none,1,8,false⟩
def BG : TI := ⟨.struct #[⟨"Pen", 26, 0, true, "", "", 0⟩], .agg #[.slice none 0 0, .int .i64 0], 2, 32, false⟩
def BH : TI := ⟨.struct #[⟨"Pen", 26, 0, true, "", "", 0⟩], .agg #[.slice none 0 0, .int .i64 0], 2, 32, false⟩
def BI : TI := ⟨.struct #[⟨"V", 124, 0, false, "", "", 0⟩, ⟨"N", 3, 1, false, "", "", 8⟩], .agg #[.int .u32 0, .int .i64 0], 2, 16, true⟩
def BJ : TI := ⟨.struct #[⟨"V", 124, 0, false, "", "", 0⟩, ⟨"N", 3, 1, false, "", "", 8⟩], .agg #[.int .u32 0, .int .i64 0], 2, 16, true⟩
def BK : TI := ⟨.struct #[⟨"Lit", 5, 0, false, "", "", 0⟩, ⟨"Dist", 3, 1, false, "", "", 8⟩, ⟨"Long", 3, 2, false, "", "", 16⟩], .agg #[.int .u8 0, .int .i64 0, .int .i64 0], 3, 24, true⟩
def BL:TI:=⟨.array 286 3,.agg (OW 286 (.int .i64 0)),286,2288,true⟩
def BM:TI:=⟨.array 30 3,.agg #[.int .i64 0,.int .i64 0,.int .i64 0,.int .i64 0,.int .i64 0,.int .i64 0,.int .i64 0,.int .i64 0,.int .i64 0,.int .i64 0,.int .i64 0,.int .i64 0,.int .i64 0,.int .i64 0,.int .i64 0,.int .i64 0,.int .i64 0,.int .i64 0,.int .i64 0,.int .i64 0,.int .i64 0,.int .i64 0,.int .i64 0,.int .i64 0,.int .i64 0,.int .i64 0,.int .i64 0,.int .i64 0,.int .i64 0,.int .i64 0],30,240,true⟩
def BN:TI:=⟨.slice 187,.slice none 0 0,1,24,false⟩
def BO:TI:=⟨.array 19 3,.agg #[.int .i64 0,.int .i64 0,.int .i64 0,.int .i64 0,.int .i64 0,.int .i64 0,.int .i64 0,.int .i64 0,.int .i64 0,.int .i64 0,.int .i64 0,.int .i64 0,.int .i64 0,.int .i64 0,.int .i64 0,.int .i64 0,.int .i64 0,.int .i64 0,.int .i64 0],19,152,true⟩
def BP : TI := ⟨.struct #[⟨"Sym", 3, 0, false, "", "", 0⟩, ⟨"Extra", 3, 1, false, "", "", 8⟩], .agg #[.int .i64 0, .int .i64 0], 2, 16, true⟩
def BQ : TI := ⟨.struct #[⟨"Sym", 3, 0, false, "", "", 0⟩, ⟨"Extra", 3, 1, false, "", "", 8⟩], .agg #[.int .i64 0, .int .i64 0], 2, 16, true⟩
def BR:TI:=⟨.slice 210,.slice none 0 0,1,24,false⟩
def BS:TI:=⟨.func #[3] #[3,3] false,.nilFunc,1,8,false⟩
def BT:TI:=⟨.pointer 156,.pointer none,1,8,false⟩
def BU:TI:=⟨.int .u64,.int .u64 0,1,8,false⟩
def BV : TI := ⟨.struct #[⟨"Bits", 124, 0, false, "", "", 0⟩, ⟨"Long", 5, 1, false, "", "", 4⟩], .agg #[.int .u32 0, .int .u8 0], 2, 8, true⟩
def tO : TI := ⟨.struct #[⟨"Bits", 124, 0, false, "", "", 0⟩, ⟨"Long", 5, 1, false, "", "", 4⟩], .agg #[.int .u32 0, .int .u8 0], 2, 8, true⟩
def BW:TI:=⟨.int .u64,.int .u64 0,1,8,false⟩
def BX:TI:=⟨.slice 225,.slice none 0 0,1,24,false⟩
def tP:TI:=⟨.slice 231,.slice none 0 0,1,24,false⟩
def BY : TI := ⟨.struct #[⟨"weight", 3, 0, false, "", "bellows/build", 0⟩, ⟨"pair", 4, 1, false, "", "bellows/build", 8⟩], .agg #[.int .i64 0, .bool false], 2, 16, true⟩
def BZ : TI := ⟨.struct #[⟨"weight", 3, 0, false, "", "bellows/build", 0⟩, ⟨"pair", 4, 1, false, "", "bellows/build", 8⟩], .agg #[.int .i64 0, .bool false], 2, 16, true⟩
def B0:TI:=⟨.array 17 124,.agg #[.int .u32 0,.int .u32 0,.int .u32 0,.int .u32 0,.int .u32 0,.int .u32 0,.int .u32 0,.int .u32 0,.int .u32 0,.int .u32 0,.int .u32 0,.int .u32 0,.int .u32 0,.int .u32 0,.int .u32 0,.int .u32 0,.int .u32 0],17,68,true⟩
def B1:TI:=⟨.array 17 124,.agg #[.int .u32 0,.int .u32 0,.int .u32 0,.int .u32 0,.int .u32 0,.int .u32 0,.int .u32 0,.int .u32 0,.int .u32 0,.int .u32 0,.int .u32 0,.int .u32 0,.int .u32 0,.int .u32 0,.int .u32 0,.int .u32 0,.int .u32 0],17,68,true⟩
def B2 : TI := ⟨.struct #[⟨"bits", 3, 0, false, "", "bellows/reach", 0⟩, ⟨"least", 3, 1, false, "", "bellows/reach", 8⟩, ⟨"many", 3, 2, false, "", "bellows/reach", 16⟩], .agg #[.int .i64 0, .int .i64 0, .int .i64 0], 3, 24, true⟩
def B3 : TI := ⟨.struct #[⟨"bits", 3, 0, false, "", "bellows/reach", 0⟩, ⟨"least", 3, 1, false, "", "bellows/reach", 8⟩, ⟨"many", 3, 2, false, "", "bellows/reach", 16⟩], .agg #[.int .i64 0, .int .i64 0, .int .i64 0], 3, 24, true⟩
def B4:TI:=⟨.slice 248,.slice none 0 0,1,24,false⟩
def B5 : TI := ⟨.struct #[⟨"first", 3, 0, false, "", "bellows/reach", 0⟩, ⟨"symbols", 250, 1, false, "", "bellows/reach", 8⟩], .agg #[.int .i64 0, .slice none 0 0], 2, 32, false⟩
def B6 : TI := ⟨.struct #[⟨"first", 3, 0, false, "", "bellows/reach", 0⟩, ⟨"symbols", 250, 1, false, "", "bellows/reach", 8⟩], .agg #[.int .i64 0, .slice none 0 0], 2, 32, false⟩
def B7:TI:=⟨.array 29 3,.agg #[.int .i64 0,.int .i64 0,.int .i64 0,.int .i64 0,.int .i64 0,.int .i64 0,.int .i64 0,.int .i64 0,.int .i64 0,.int .i64 0,.int .i64 0,.int .i64 0,.int .i64 0,.int .i64 0,.int .i64 0,.int .i64 0,.int .i64 0,.int .i64 0,.int .i64 0,.int .i64 0,.int .i64 0,.int .i64 0,.int .i64 0,.int .i64 0,.int .i64 0,.int .i64 0,.int .i64 0,.int .i64 0,.int .i64 0],29,232,true⟩
def B8:TI:=⟨.pointer 234,.pointer none,1,8,false⟩
def B9:TI:=⟨.pointer 282,.pointer none,1,8,false⟩
def Ca : TI := ⟨.struct #[⟨"t", 154, 0, false, "", "bellows/tree", 0⟩, ⟨"n", 3, 17, false, "", "bellows/tree", 152⟩, ⟨"code", 3, 18, false, "", "bellows/tree", 160⟩, ⟨"first", 3, 19, false, "", "bellows/tree", 168⟩, ⟨"place", 3, 20, false, "", "bellows/tree", 176⟩], .agg #[.int .i64 0, .int .i64 0, .int .i64 0, .int .i64 0, .int .i64 0, .int .i64 0, .int .i64 0, .int .i64 0, .int .i64 0, .int .i64 0, .int .i64 0, .int .i64 0, .int .i64 0, .int .i64 0, .int .i64 0, .int .i64 0, .slice none 0 0, .int .i64 0, .int .i64 0, .int .i64 0, .int .i64 0], 21, 184, false⟩
def Cb : TI := ⟨.struct #[⟨"t", 154, 0, false, "", "bellows/tree", 0⟩, ⟨"n", 3, 17, false, "", "bellows/tree", 152⟩, ⟨"code", 3, 18, false, "", "bellows/tree", 160⟩, ⟨"first", 3, 19, false, "", "bellows/tree", 168⟩, ⟨"place", 3, 20, false, "", "bellows/tree", 176⟩], .agg #[.int .i64 0, .int .i64 0, .int .i64 0, .int .i64 0, .int .i64 0, .int .i64 0, .int .i64 0, .int .i64 0, .int .i64 0, .int .i64 0, .int .i64 0, .int .i64 0, .int .i64 0, .int .i64 0, .int .i64 0, .int .i64 0, .slice none 0 0, .int .i64 0, .int .i64 0, .int .i64 0, .int .i64 0], 21, 184, false⟩
def Cc:TI:=⟨.pointer 248,.pointer none,1,8,false⟩
def Cd:TI:=⟨.slice 291,.slice none 0 0,1,24,false⟩
def Ce : TI := ⟨.struct #[⟨"Weight", 3, 0, false, "", "", 0⟩, ⟨"Of", 152, 1, false, "", "", 8⟩], .agg #[.int .i64 0, .slice none 0 0], 2, 32, false⟩
def Cf : TI := ⟨.struct #[⟨"Weight", 3, 0, false, "", "", 0⟩, ⟨"Of", 152, 1, false, "", "", 8⟩], .agg #[.int .i64 0, .slice none 0 0], 2, 32, false⟩
def Cg:TI:=⟨.array 0 16,.agg #[],0,0,false⟩
def Ch:TI:=⟨.pointer 5,.pointer none,1,8,false⟩
def Ci : TI := ⟨.struct #[⟨"Size_", 12, 0, false, "", "", 0⟩, ⟨"PtrBytes", 12, 1, false, "", "", 8⟩, ⟨"Hash", 124, 2, false, "", "", 16⟩, ⟨"TFlag", 306, 3, false, "", "", 20⟩, ⟨"Align_", 5, 4, false, "", "", 21⟩, ⟨"FieldAlign_", 5, 5, false, "", "", 22⟩, ⟨"Kind_", 307, 6, false, "", "", 23⟩, ⟨"Equal", 308, 7, false, "", "", 24⟩, ⟨"GCData", 309, 8, false, "", "", 32⟩, ⟨"Str", 310, 9, false, "", "", 40⟩, ⟨"PtrToThis", 311, 10, false, "", "", 44⟩], .agg #[.int .u64 0, .int .u64 0, .int .u32 0, .int .u8 0, .int .u8 0, .int .u8 0, .int .u8 0, .nilFunc, .pointer none, .int .i32 0, .int .i32 0], 11, 48, false⟩
def Tl:List (Nat × TI):=[(2,Lt),(3,Lu),(4,Lv),(5,zB),(9,Lw),(12,Gp),(15,Gq),(16,Gr),(17,Gs),(20,Gt),(21,Gu),(22,Gw),(23,Gx),(24,Gy),(25,Gz),(26,GA),(27,GB),(28,GC),(31,GD),(53,GF),(55,GG),(56,GH),(64,GI),(67,GJ),(68,GK),(82,GL),(90,GM),(94,GN),(95,GO),(105,Bj),(111,Bk),(118,Bl),(119,Bm),(121,Bn),(122,Bo),(123,Bp),(124,Bq),(125,Br),(126,Bs),(129,Bt),(131,Bu),(132,Bv),(135,Bx),(149,By),(151,Bz),(152,BA),(153,BB),(154,BC),(155,BD),(156,BE),(161,BF),(162,BG),(163,BH),(168,BI),(169,BJ),(175,BK),(176,BL),(177,BM),(182,BN),(185,BO),(186,BP),(187,BQ),(189,BR),(196,BS),(200,BT),(204,BU),(209,BV),(210,tO),(217,BW),(224,BX),(225,tP),(230,BY),(231,BZ),(233,B0),(234,B1),(247,B2),(248,B3),(250,B4),(251,B5),(252,B6),(256,B7),(272,B8),(280,B9),(281,Ca),(282,Cb),(285,Cc),(286,Cd),(290,Ce),(291,Cf),(303,Cg),(309,Ch),(312,Ci)]
def T:TT:=(.n (.n (.n (.n (.n (.n .e (some GD) (.n .e (some GO) .e)) (some Gq) (.n .e none (.n (.n (.n .e (some Cg) .e) (some BK) .e) (some Bk) .e))) none (.n (.n (.n (.n .e (some Bx) .e) none .e) none (.n .e none (.n .e (some BZ) .e))) (some Gx) (.n (.n (.n .e (some Bz) .e) none .e) (some GG) (.n .e (some Bm) (.n .e (some B2) .e))))) (some Lu) (.n (.n (.n (.n (.n .e (some Bu) .e) (some GJ) .e) none (.n (.n (.n .e (some Cf) .e) (some BH) .e) none .e)) none .e) none (.n .e (some GB) (.n (.n (.n .e (some BD) .e) none .e) none (.n (.n .e (some BQ) .e) (some Bp) (.n .e (some B5) .e)))))) none (.n (.n (.n (.n (.n (.n .e (some Bt) .e) none .e) none (.n (.n .e (some BF) .e) none (.n .e (some tP) .e))) (some Gs) (.n (.n .e none (.n .e (some BV) .e)) none (.n (.n .e (some BM) .e) none .e))) (some Lw) (.n (.n .e none (.n (.n .e (some BJ) .e) (some Bj) (.n .e (some B0) .e))) (some Gz) (.n (.n (.n (.n .e (some Ca) .e) (some BB) .e) none (.n .e (some BW) .e)) none (.n (.n .e (some BO) .e) (some Bn) .e)))) (some zB) (.n (.n .e (some Gu) (.n (.n (.n .e (some By) .e) none .e) (some GF) (.n (.n (.n .e (some Ch) .e) none .e) none .e))) none (.n .e none (.n (.n (.n (.n .e (some Cc) .e) none .e) none .e) none (.n (.n .e (some BR) .e) (some Br) .e)))))) none (.n (.n (.n (.n (.n (.n (.n (.n .e (some B7) .e) none .e) (some GI) .e) none (.n .e none (.n .e (some BX) .e))) (some Gr) (.n (.n (.n (.n .e (some B8) .e) none .e) none .e) none (.n (.n .e (some BL) .e) none .e))) none (.n (.n (.n .e none (.n .e (some BT) .e)) none (.n (.n .e (some BI) .e) none .e)) (some Gy) (.n (.n (.n (.n .e (some B9) .e) (some BA) .e) none .e) (some GH) (.n (.n (.n .e (some Ci) .e) none .e) none (.n .e (some B3) .e))))) (some Lv) (.n (.n (.n (.n (.n .e (some Bv) .e) (some GK) (.n .e (some BS) .e)) none .e) (some Gt) .e) (some Gp) (.n (.n (.n .e none (.n .e (some BU) .e)) none .e) (some GC) (.n (.n (.n .e (some BE) .e) none .e) none (.n .e (some Bq) (.n .e (some B6) .e)))))) (some Lt) (.n (.n (.n (.n .e none (.n (.n (.n .e (some Ce) .e) (some BG) .e) none .e)) none (.n (.n .e (some GL) (.n .e (some tO) .e)) none .e)) none (.n (.n .e none (.n .e none (.n .e (some B1) .e))) (some GA) (.n (.n (.n (.n .e (some Cb) .e) (some BC) .e) (some GM) .e) none (.n (.n .e (some BP) .e) (some Bo) (.n .e (some B4) .e))))) none (.n (.n (.n .e none (.n .e none (.n .e (some BY) .e))) (some Gw) (.n .e none (.n (.n .e (some BN) .e) (some Bl) .e))) none (.n .e none (.n (.n (.n (.n .e (some Cd) .e) none .e) (some GN) .e) none (.n .e (some Bs) .e)))))))
set_option maxRecDepth 100000 in
theorem T_ok:TT.ok Tryz.prog T:=by
 refine TT.ok_ofL (l:=Tl) ?_ (by kernel_rfl)
 repeat (first | refine ⟨JB (by kernel_rfl) (by kernel_rfl) rfl,?_⟩ | refine ⟨Gi (by kernel_rfl) (by kernel_rfl) rfl (by kernel_rfl) (by kernel_rfl) (by kernel_rfl),?_⟩)
 trivial
theorem ai:Tryz.prog.follows .mixedOrders = true:=by kernel_rfl
open Go.RowKit Go.Bw
abbrev zN (n:Nat):D:=.v (.int .i64 (n:Int))
abbrev zI (x:Int):D:=.v (.int .i64 x)
abbrev zS:D:=.v (.slice none 0 0)
abbrev ah (n:Nat):D:=.v (.int .u32 (n:Int))
abbrev dL (n:Nat):D:=.v (.int .u8 (n:Int))
abbrev uI (x:Int):D:=.v (.int .u32 x)
abbrev bI (x:Int):D:=.v (.int .u8 x)
theorem ba {p:Prop} [Decidable p] (h:decide p = true):p:=of_decide_eq_true h
theorem bb {p:Prop} [Decidable p] (h:decide p = false):¬ p:=of_decide_eq_false h
def _root_.Go.Vx.Hn.cl {P:Program} (f:FuncId) (al:Bool) (fp:List Nat) {q hin:_} {r:D} {bs:List Blk} (h:CallOk al P f q hin r bs) (nx:Hn P):Hn P:=.call f al fp true rfl q q (bX.refl q) true rfl hin r bs h nx
def _root_.Go.Vx.Hn.op {P:Program} (x:Int) (h:-9223372036854775808 ≤ x ∧ x ≤ 9223372036854775807) (nx:Hn P):Hn P:=.opt (aw .i64 x) (.v (.int .i64 x)) (fo h) nx
def _root_.Go.Vx.Hn.ow {P:Program} (x:Int) (nx:Hn P) (h:-9223372036854775808 ≤ x ∧ x ≤ 9223372036854775807:=by omega):Hn P:=.opt (aw .i64 x) (.v (.int .i64 x)) (fo h) nx
theorem wr {p:Prop} (h:p:=by with_reducible rfl):p:=h
theorem om {p:Prop} (h:p:=by omega):p:=h
theorem bz {p:Prop} (h:p:=by assumption):p:=h
theorem ro {p:Prop} (h:p:=by repeat' first | exact trivial | exact rfl | exact (fun _=>aR _) | exact (fun _=>by assumption) | exact (fun _=>bP _ (fun _=>rfl) _) | exact (fun _=>cS (fun _=>rfl) _) | (intro h; cases h; done) | (intro _; rfl) | (intro _; exact cz _ (bP _ (fun _=>rfl) _)) | exact jj _ (bP _ (fun _=>rfl) _) | refine And.intro ?_ ?_ | refine fQ ?_ ?_ | (intro _; refine cQ ?_ ?_) | refine cQ ?_ ?_ | (intro _; refine gq ?_ ?_) | exact cz _ (bP _ (fun _=>rfl) _) | exact bP _ (fun _=>rfl) _):p:=h
theorem Lx:ax Tryz.prog 11:=.of Tryz.func11 rfl rfl
theorem LV:ax Tryz.prog 13:=.of Tryz.func13 rfl rfl
theorem GP:ax Tryz.prog 18:=.of Tryz.func18 rfl rfl
theorem LW:ax Tryz.prog 23:=.of Tryz.func23 rfl rfl
theorem JJ:ax Tryz.prog 26:=.of Tryz.func26 rfl rfl
theorem JK:ax Tryz.prog 27:=.of Tryz.func27 rfl rfl
theorem I1:ax Tryz.prog 29:=.of Tryz.func29 rfl rfl
theorem I2:ax Tryz.prog 43:=.of Tryz.func43 rfl rfl
theorem qi:ax Tryz.prog 56:=.of Tryz.func56 rfl rfl
theorem Ly:ax Tryz.prog 64:=.of Tryz.func64 rfl rfl
theorem Lz:ax Tryz.prog 65:=.of Tryz.func65 rfl rfl
theorem I3:ax Tryz.prog 86:=.of Tryz.func86 rfl rfl
theorem wW:ax Tryz.prog 105:=.of Tryz.func105 rfl rfl
theorem JL:ax Tryz.prog 111:=.of Tryz.func111 rfl rfl
theorem JM:ax Tryz.prog 113:=.of Tryz.func113 rfl rfl
theorem GQ:ax Tryz.prog 117:=.of Tryz.func117 rfl rfl
theorem JN:ax Tryz.prog 128:=.of Tryz.func128 rfl rfl
theorem JO:ax Tryz.prog 141:=.of Tryz.func141 rfl rfl
theorem sc:ax Tryz.prog 142:=.of Tryz.func142 rfl rfl
theorem sd:ax Tryz.prog 143:=.of Tryz.func143 rfl rfl
theorem D6:ax Tryz.prog 144:=.of Tryz.func144 rfl rfl
theorem JP:ax Tryz.prog 147:=.of Tryz.func147 rfl rfl
theorem JQ:ax Tryz.prog 148:=.of Tryz.func148 rfl rfl
theorem dM:ax Tryz.prog 152:=.of Tryz.func152 rfl rfl
theorem JR:ax Tryz.prog 155:=.of Tryz.func155 rfl rfl
theorem JS:ax Tryz.prog 160:=.of Tryz.func160 rfl rfl
theorem JT:ax Tryz.prog 163:=.of Tryz.func163 rfl rfl
theorem wX:ax Tryz.prog 175:=.of Tryz.func175 rfl rfl
theorem JU:ax Tryz.prog 176:=.of Tryz.func176 rfl rfl
theorem JV:ax Tryz.prog 193:=.of Tryz.func193 rfl rfl
theorem JW:ax Tryz.prog 198:=.of Tryz.func198 rfl rfl
end Go.Proofs.YtefjnofhgkjpmaaGreat
namespace Go.Proofs.YtefjnofhgkjpmaaGreat
open Go.RowKit Go.Bw Go.Vx
namespace Vp
abbrev iD (i:Int):D:=.v (.int .i64 i)
abbrev bB:D:=.v (.slice none 0 0)
abbrev nD (n:Nat):D:=.v (.int .i64 (n:Int))
abbrev bD (b:Bool):D:=.v (.bool b)
abbrev f8 (n:Nat):D:=.v (.int .u8 (n:Int))
def lk {α β:Type} (b:List β) (x:α):α:=match b with
 | []=>x
 | _ :: _=>x
theorem aG {α β:Type} (b:List β) (x:α):lk b x = x:=by cases b <;> rfl
def JX (b:List UInt8) (p:Nat):Nat:=(b.getD (p / 8) ji).toNat / 2 ^ (p % 8) % 2
def GR (b:List UInt8) (p:Nat):Nat → Nat
 | 0=>0
 | n + 1=>GR b p n + 2 ^ n * JX b (p + n)
def JY (b:List UInt8) (p m:Nat):Nat:=lk b (if 8 * b.length < p + m then 0 else GR b p m)
def LX (b:List UInt8) (p m:Nat):Nat:=lk b (if 8 * b.length < p + m then 10 else 0)
def aU:List UInt8 → Nat
 | []=>0
 | x :: r=>(if x.toNat = 0 then 0 else 2 ^ (15 - x.toNat)) + aU r
def bm:List UInt8 → Nat
 | []=>0
 | x :: r=>(if x.toNat = 0 then 0 else 1) + bm r
def dk (l:List UInt8) (most:Nat):Bool:=l.any fun x=>decide (most < x.toNat)
theorem vi (a c:List UInt8):aU (a ++ c) = aU a + aU c:=by
 induction a with
 | nil=>simp [aU]
 | cons x r ih=>rw [NV,aU,aU,ih]; omega
theorem vj (a c:List UInt8):bm (a ++ c) = bm a + bm c:=by
 induction a with
 | nil=>simp [bm]
 | cons x r ih=>rw [NV,bm,bm,ih]; omega
theorem wY (l:List UInt8):bm l ≤ l.length:=by
 induction l with
 | nil=>exact Mh _
 | cons x r ih=>rw [bm,Mx]; split <;> omega
theorem wZ (l:List UInt8):aU l ≤ l.length * 32768:=by
 induction l with
 | nil=>exact Mh _
 | cons x r ih =>
  rw [aU,Mx]
  have:2 ^ (15 - x.toNat) ≤ 2 ^ 15:=MV (by decide) (by omega)
  split <;> omega
theorem nl {l:List UInt8} {i:Nat} (h:i < l.length):l.take (i + 1) = l.take i ++ [l.getD i ji]:=lv h
theorem fV {l:List UInt8} {i:Nat} (h:i < l.length):aU (l.take (i + 1)) = aU (l.take i) + (if (l.getD i ji).toNat = 0 then 0 else 2 ^ (15 - (l.getD i ji).toNat)):=by
 rw [nl h,vi]; rfl
theorem ij {l:List UInt8} {i:Nat} (h:i < l.length):bm (l.take (i + 1)) = bm (l.take i) + (if (l.getD i ji).toNat = 0 then 0 else 1):=by
 rw [nl h,vj]; rfl
def se (l:List UInt8) (most:Nat):Nat :=
 if 320 < l.length then 4 else if dk l most = true then 2 else if 32768 < aU l then 30
 else if aU l = 32768 ∨ bm l = 0 ∨ bm l = 1 ∧ aU l = 16384 then 0 else 31
def cG (l:List UInt8) (most:Nat):Nat:=lk l (se l most)
theorem iL (l:List UInt8) (most:Nat):cG l most = se l most:=aG _ _
theorem tQ {l:List UInt8} {most i:Nat} (h:i < l.length) (h2:most < (l.getD i ji).toNat):dk l most = true:=by
 unfold dk
 rw [Pb]
 refine ⟨l.getD i ji,?_,decide_eq_true h2⟩
 rw [List.getD_eq_getElem?_getD,List.getElem?_eq_getElem h]; exact ML h
theorem kv {l:List UInt8} {most:Nat} (h:∀ i,i < l.length → (l.getD i ji).toNat ≤ most):dk l most = false:=by
 unfold dk
 rw [List.any_eq_false]
 intro x hx
 obtain ⟨i,hi⟩:=List.getElem?_of_mem hx
 have hlt:=(List.getElem?_eq_some_iff.1 hi).1
 have:=h i hlt
 rw [List.getD_eq_getElem?_getD,hi] at this
 simpa using this
theorem eK {l:List UInt8} {most:Nat} (h:dk l most = false) {i:Nat} (hi:i < l.length):(l.getD i ji).toNat ≤ most:=by
 rcases MF most (l.getD i ji).toNat with q | q
 ·rw [tQ hi q] at h; cases h
 ·exact q
theorem eV {l:List UInt8} {most:Nat} (h:cG l most = 0):l.length ≤ 320 ∧ dk l most = false ∧ aU l ≤ 32768:=by
 rw [iL] at h; unfold se at h
 split at h
 ·cases h
 ·split at h
  ·cases h
  ·split at h
   ·cases h
   ·refine ⟨by omega,by simp_all,by omega⟩
def eg (l:List UInt8) (n k:Nat):List Nat:=(MQ k).filter fun i=>decide ((l.getD i ji).toNat = n)
def qj (l:List UInt8):Nat → List Nat
 | 0=>[]
 | n + 1=>qj l n ++ (if n = 0 then [] else eg l n l.length)
def w4 (l:List UInt8) (n:Nat):Nat:=if n = 0 then 0 else (eg l n l.length).length
def aL (l:List UInt8) (n:Nat):Nat:=lk l (w4 l n)
def cT (l:List UInt8):List Nat:=lk l (qj l 16)
def LC (f:Nat → Nat):List D:=[nD (f 0),nD (f 1),nD (f 2),nD (f 3),nD (f 4),nD (f 5),nD (f 6),nD (f 7),nD (f 8),nD (f 9),nD (f 10),nD (f 11),nD (f 12),nD (f 13),nD (f 14),nD (f 15)]
def GS (m:Nat) (l:List UInt8):List D:=LC (aL l) ++ [.sl false m 1 ((cT l).map nD)]
abbrev Cj (m:Nat) (l:List UInt8):D:=.agg (GS m l)
theorem gT (l:List UInt8) (n k:Nat):eg l n (k + 1) = eg l n k ++ (if (l.getD k ji).toNat = n then [k] else []):=by
 unfold eg
 rw [Og,M7]
 congr 1
 rw [List.filter_cons,P8]
 by_cases h:(l.getD k ji).toNat = n
 ·rw [if_pos h,if_pos (decide_eq_true h)]
 ·rw [if_neg h,if_neg (by simpa using h)]
theorem zC (l:List UInt8) (n k:Nat):(eg l n k).length ≤ k:=by
 unfold eg
 exact L8 (OI _ _) (by simp)
theorem w5 {l:List UInt8} {n k i:Nat}:i ∈ eg l n k ↔ i < k ∧ (l.getD i ji).toNat = n:=by
 unfold eg; simp
theorem lx (l:List UInt8) (n:Nat):aL l n = w4 l n:=aG _ _
@[simp] theorem ly (xs:List Nat):ab (xs.map nD) = true:=bP _ (fun _=>rfl) xs
end Vp
end Go.Proofs.YtefjnofhgkjpmaaGreat
namespace Go.Proofs.YtefjnofhgkjpmaaGreat
open Go.RowKit Go.Bw Go.Vx
open List (length getD map take drop flatMap replicate)
namespace Vp
def rb (s:Nat):Nat:=if s = 16 then 2 else if s = 17 then 3 else if s = 18 then 7 else 0
def p2 (s:Nat):Nat:=2 ^ rb s
structure Rn where
 s:Nat
 x:Nat
 deriving Inhabited
abbrev ek (r:Rn):List D:=[nD r.s,nD r.x]
theorem w6 (s:Nat):p2 s ≤ 128 ∧ rb s ≤ 7:=by unfold p2 rb; split; decide; split; decide; split <;> decide
theorem GU (s:Nat) (h:s ≤ 18):SpecH false Tryz.prog 113 [nD s] [] (.tup [nD (rb s),iD 0]) []:=by
 refine SpecH.run T_ok ai Tryz.func113 rfl rfl rfl trivial rfl 1000 64 (fun R ok=>(.s 13 (.f (decide (18 < (s:Int))) (by (refine decide_eq_false ?_; (omega))) (.s 4 (.br ((s:Int) == 16) (fun p0=>have p0f:=eq_of_beq p0; (.s 2 (.out [] [] (D.tup [zI 2,zI 0]) [] R (ok _ _ (by ( (have hs:s = 16:=by omega); subst hs; rfl)) wr)))) (fun p0=>have p0f:=av p0; (.s 4 (.br ((s:Int) == 17) (fun p1=>have p1f:=eq_of_beq p1; (.s 2 (.out [] [] (D.tup [zI 3,zI 0]) [] R (ok _ _ (by ( (have hs:s = 17:=by omega); subst hs; rfl)) wr)))) (fun p1=>have p1f:=av p1; (.s 4 (.br ((s:Int) == 18) (fun p2=>have p2f:=eq_of_beq p2; (.s 2 (.out [] [] (D.tup [zI 7,zI 0]) [] R (ok _ _ (by ( (have hs:s = 18:=by omega); subst hs; rfl)) wr)))) (fun p2=>have p2f:=av p2; (.s 2 (.out [] [] (D.tup [zI 0,zI 0]) [] R (ok _ _ (by ( rw [show rb s = 0 from by unfold rb; rw [if_neg om,if_neg om,if_neg om]]; rfl)) wr))))))))))))))) (by kernel_rfl)
structure Sy where
 bits:Nat
 least:Nat
 many:Nat
 deriving Inhabited
abbrev gU (s:Sy):List D:=[nD s.bits,nD s.least,nD s.many]
def aK:List Sy:=[⟨0,3,1⟩,⟨0,4,1⟩,⟨0,5,1⟩,⟨0,6,1⟩,⟨0,7,1⟩,⟨0,8,1⟩,⟨0,9,1⟩,⟨0,10,1⟩,⟨1,11,2⟩,⟨1,13,2⟩,⟨1,15,2⟩,⟨1,17,2⟩,⟨2,19,4⟩,⟨2,23,4⟩,⟨2,27,4⟩,⟨2,31,4⟩,⟨3,35,8⟩,⟨3,43,8⟩,⟨3,51,8⟩,⟨3,59,8⟩,⟨4,67,16⟩,⟨4,83,16⟩,⟨4,99,16⟩,⟨4,115,16⟩,⟨5,131,32⟩,⟨5,163,32⟩,⟨5,195,32⟩,⟨5,227,31⟩,⟨0,258,1⟩]
def aY:List Sy:=[⟨0,1,1⟩,⟨0,2,1⟩,⟨0,3,1⟩,⟨0,4,1⟩,⟨1,5,2⟩,⟨1,7,2⟩,⟨2,9,4⟩,⟨2,13,4⟩,⟨3,17,8⟩,⟨3,25,8⟩,⟨4,33,16⟩,⟨4,49,16⟩,⟨5,65,32⟩,⟨5,97,32⟩,⟨6,129,64⟩,⟨6,193,64⟩,⟨7,257,128⟩,⟨7,385,128⟩,⟨8,513,256⟩,⟨8,769,256⟩,⟨9,1025,512⟩,⟨9,1537,512⟩,⟨10,2049,1024⟩,⟨10,3073,1024⟩,⟨11,4097,2048⟩,⟨11,6145,2048⟩,⟨12,8193,4096⟩,⟨12,12289,4096⟩,⟨13,16385,8192⟩,⟨13,24577,8192⟩]
theorem zD (T:List Sy) (hT:T = aK):SpecH false Tryz.prog 160 [] [] (.agg [iD 257,.ref 0 0 0 29 3]) [⟨T.flatMap gU, 248, true⟩]:=by
 refine SpecH.run T_ok ai Tryz.func160 rfl rfl rfl ⟨ef (fun _=>rfl) _,trivial⟩ rfl 4000 64 (fun R ok=>(.s 1376 (.out [5080] [5080] (D.agg [zI 257,D.ref 0 0 0 29 3]) [Blk.mk [zI 0,zI 3,zI 1,zI 0,zI 4,zI 1,zI 0,zI 5,zI 1,zI 0,zI 6,zI 1,zI 0,zI 7,zI 1,zI 0,zI 8,zI 1,zI 0,zI 9,zI 1,zI 0,zI 10,zI 1,zI 1,zI 11,zI 2,zI 1,zI 13,zI 2,zI 1,zI 15,zI 2,zI 1,zI 17,zI 2,zI 2,zI 19,zI 4,zI 2,zI 23,zI 4,zI 2,zI 27,zI 4,zI 2,zI 31,zI 4,zI 3,zI 35,zI 8,zI 3,zI 43,zI 8,zI 3,zI 51,zI 8,zI 3,zI 59,zI 8,zI 4,zI 67,zI 16,zI 4,zI 83,zI 16,zI 4,zI 99,zI 16,zI 4,zI 115,zI 16,zI 5,zI 131,zI 32,zI 5,zI 163,zI 32,zI 5,zI 195,zI 32,zI 5,zI 227,zI 31,zI 0,zI 258,zI 1] 248 true] R (ok _ _ wr (by (subst hT; rfl)))))) (by kernel_rfl)
theorem D7 (T:List Sy) (hT:T = aY):SpecH false Tryz.prog 163 [] [] (.agg [iD 0,.ref 0 0 0 30 3]) [⟨T.flatMap gU, 248, true⟩]:=by
 refine SpecH.run T_ok ai Tryz.func163 rfl rfl rfl ⟨ef (fun _=>rfl) _,trivial⟩ rfl 4000 64 (fun R ok=>(.s 1562 (.out [5768] [5768] (D.agg [zI 0,D.ref 0 0 0 30 3]) [Blk.mk [zI 0,zI 1,zI 1,zI 0,zI 2,zI 1,zI 0,zI 3,zI 1,zI 0,zI 4,zI 1,zI 1,zI 5,zI 2,zI 1,zI 7,zI 2,zI 2,zI 9,zI 4,zI 2,zI 13,zI 4,zI 3,zI 17,zI 8,zI 3,zI 25,zI 8,zI 4,zI 33,zI 16,zI 4,zI 49,zI 16,zI 5,zI 65,zI 32,zI 5,zI 97,zI 32,zI 6,zI 129,zI 64,zI 6,zI 193,zI 64,zI 7,zI 257,zI 128,zI 7,zI 385,zI 128,zI 8,zI 513,zI 256,zI 8,zI 769,zI 256,zI 9,zI 1025,zI 512,zI 9,zI 1537,zI 512,zI 10,zI 2049,zI 1024,zI 10,zI 3073,zI 1024,zI 11,zI 4097,zI 2048,zI 11,zI 6145,zI 2048,zI 12,zI 8193,zI 4096,zI 12,zI 12289,zI 4096,zI 13,zI 16385,zI 8192,zI 13,zI 24577,zI 8192] 248 true] R (ok _ _ wr (by (subst hT; rfl)))))) (by kernel_rfl)
end Vp
end Go.Proofs.YtefjnofhgkjpmaaGreat
namespace Go.Proofs.YtefjnofhgkjpmaaGreat
open Go.RowKit Go.Bw Go.Vx
open List (length getD map take drop flatMap replicate)
namespace Vp
theorem yG {p:Prop} (h:p:=by (refine aO ?_; (omega))):p:=h
theorem D8 {p:Prop} (h:p:=by (simp only [bl (k:=2) (fun (x:Rn)=>(rfl:(ek x).length = 2)),Nat.beq_refl,Bool.true_and,Bool.and_true]; refine Nat.ble_eq_true_of_le ?_; (omega))):p:=h
theorem D9 {p:Prop} (h:p:=by (rw [List.length_append]; rfl)):p:=h
theorem Ea {p:Prop} (h:p:=by (rw [List.length_append]; simp only [List.length_singleton]; (omega))):p:=h
theorem GV {p:Prop} (h:p:=by ((refine aI ?_ ?_) <;> (repeat' (first | (refine aI ?_ ?_) | (with_reducible rfl) | (refine decide_eq_true ?_) | (refine Nat.ble_eq_true_of_le ?_) | (refine er ?_))) <;> (omega))):p:=h
theorem I4 {p:Prop} (h:p:=by show n - (a + 1) < n - a; clear next1 last1; omega):p:=h
theorem JZ {p:Prop} (h:p:=by (simp;  have h9:=lD (l:=l) (a:=a) om; omega)):p:=h
theorem J0 {p:Prop} (h:p:=by ( have h9:=lD (l:=l) (a:=a) om; omega)):p:=h
theorem J1 {p:Prop} (h:p:=by (simp only [Nat.mul_one] at *;  have h9:=lD (l:=l) (a:=a) om; exact G0 hR om om om om)):p:=h
def sf (l:List UInt8) (a:Nat):Nat → Nat → Nat
 | 0,n=>n
 | f + 1,n=>if a + n < l.length ∧ l.getD (a + n) ji = l.getD a ji then sf l a f (n + 1) else n
def cj (l:List UInt8) (a:Nat):Nat:=lk l (sf l a l.length 0)
theorem w7 (l:List UInt8) (a:Nat):cj l a = sf l a l.length 0:=aG _ _
theorem J2 {l:List UInt8} {a f n T:Nat} (hR:sf l a f n = T) (hf:l.length ≤ a + n + f) (h:a + n < l.length) (h2:l.getD (a + n) ji = l.getD a ji):sf l a (f - 1) (n + 1) = T:=by
 obtain ⟨g,rfl⟩:∃ g,f = g + 1:=⟨f - 1,by omega⟩
 rw [← hR]; exact (if_pos ⟨h,h2⟩).symm
theorem GW {l:List UInt8} {a f n T:Nat} (hR:sf l a f n = T) (h:¬ (a + n < l.length ∧ l.getD (a + n) ji = l.getD a ji)):n = T:=by
 rw [← hR]; cases f with
 | zero=>rfl
 | succ f=>exact (if_neg h).symm
theorem Ck {x y:UInt8} (h:((x.toNat:Nat):Int) = ((y.toNat:Nat):Int)):x = y:=UInt8.toNat_inj.1 (by omega)
theorem GX {l:List UInt8} {a f n T u v:Nat} (hR:sf l a f n = T) (hf:l.length ≤ a + n + f) (h:a + n < l.length) (hu:u = a + n) (hv:v = a) (h2:(((l.getD u ji).toNat:Nat):Int) = (((l.getD v ji).toNat:Nat):Int)):sf l a (f - 1) (n + 1) = T:=by
 subst hu hv; exact J2 hR hf h (Ck h2)
theorem GY {l:List UInt8} {a f n T u v:Nat} (hR:sf l a f n = T) (hu:u = a + n) (hv:v = a) (h2:(((l.getD u ji).toNat:Nat):Int) ≠ (((l.getD v ji).toNat:Nat):Int)):n = T:=by
 subst hu hv; exact GW hR (fun q=>h2 (by rw [q.2]))
theorem Cl {l:List UInt8} {a:Nat}:∀ (f n:Nat),a + n ≤ l.length → n ≤ sf l a f n ∧ a + sf l a f n ≤ l.length
 | 0,n,h=>⟨Mh _,h⟩
 | f + 1,n,h=>by
  rw [sf]; split
  ·next q=>have:=Cl (l:=l) (a:=a) f (n + 1) (by omega); omega
  ·exact ⟨Mh _,h⟩
theorem lD {l:List UInt8} {a:Nat} (h:a < l.length):1 ≤ cj l a ∧ a + cj l a ≤ l.length:=by
 rw [w7]
 obtain ⟨f,hf⟩:∃ f,l.length = f + 1:=⟨l.length - 1,by omega⟩
 rw [hf,sf,if_pos ⟨by omega,by rw [N2]⟩]
 have:=Cl (l:=l) (a:=a) f (0 + 1) (by omega)
 omega
def jn (l:List UInt8):Nat → Nat → List Rn
 | 0,_=>[]
 | f + 1,a=>if l.length ≤ a then []
  else if (l.getD a ji).toNat = 0 ∧ 11 ≤ cj l a then ⟨18,min (cj l a) 138 - 11⟩ :: jn l f (a + min (cj l a) 138)
  else if (l.getD a ji).toNat = 0 ∧ 3 ≤ cj l a then ⟨17,cj l a - 3⟩ :: jn l f (a + cj l a)
  else if 0 < (l.getD a ji).toNat ∧ 0 < a ∧ (l.getD (a - 1) ji).toNat = (l.getD a ji).toNat ∧ 3 ≤ cj l a then ⟨16,min (cj l a) 6 - 3⟩ :: jn l f (a + min (cj l a) 6)
  else ⟨(l.getD a ji).toNat,0⟩ :: jn l f (a + 1)
def vy (l:List UInt8):List Rn:=lk l (jn l l.length 0)
theorem sg (l:List UInt8):vy l = jn l l.length 0:=aG _ _
section
variable {l:List UInt8} {f a:Nat} {o T:List Rn}
theorem GZ (hR:o ++ jn l f a = T) (h:l.length ≤ a):o = T:=by
 rw [← hR]; cases f with
 | zero=>exact (MU _).symm
 | succ f=>rw [jn,if_pos h]; exact (MU _).symm
theorem J3 (hR:o ++ jn l f a = T) (hf:l.length ≤ a + f) (h:a < l.length) (h0:(l.getD a ji).toNat = 0) (h1:11 ≤ cj l a):(o ++ [⟨18,min (cj l a) 138 - 11⟩]) ++ jn l (f - 1) (a + min (cj l a) 138) = T:=by
 obtain ⟨g,rfl⟩:∃ g,f = g + 1:=⟨f - 1,by omega⟩
 rw [← hR,jn,if_neg (by omega),if_pos ⟨h0,h1⟩,Mu]; rfl
theorem J4 (hR:o ++ jn l f a = T) (hf:l.length ≤ a + f) (h:a < l.length) (h0:(l.getD a ji).toNat = 0) (h1:¬ 11 ≤ cj l a) (h2:3 ≤ cj l a):(o ++ [⟨17,cj l a - 3⟩]) ++ jn l (f - 1) (a + cj l a) = T:=by
 obtain ⟨g,rfl⟩:∃ g,f = g + 1:=⟨f - 1,by omega⟩
 rw [← hR,jn,if_neg (by omega),if_neg (fun q=>h1 q.2),if_pos ⟨h0,h2⟩,Mu]; rfl
theorem J5 (hR:o ++ jn l f a = T) (hf:l.length ≤ a + f) (h:a < l.length) (h0:0 < (l.getD a ji).toNat) (ha:0 < a) (h1:(l.getD (a - 1) ji).toNat = (l.getD a ji).toNat) (h2:3 ≤ cj l a):(o ++ [⟨16,min (cj l a) 6 - 3⟩]) ++ jn l (f - 1) (a + min (cj l a) 6) = T:=by
 obtain ⟨g,rfl⟩:∃ g,f = g + 1:=⟨f - 1,by omega⟩
 rw [← hR,jn,if_neg (by omega),if_neg (fun q=>by omega),if_neg (fun q=>by omega),if_pos ⟨h0,ha,h1,h2⟩,Mu]; rfl
theorem G0 (hR:o ++ jn l f a = T) (hf:l.length ≤ a + f) (h:a < l.length) (h0:¬ ((l.getD a ji).toNat = 0 ∧ 3 ≤ cj l a)) (h1:¬ (0 < (l.getD a ji).toNat ∧ 0 < a ∧ (l.getD (a - 1) ji).toNat = (l.getD a ji).toNat ∧ 3 ≤ cj l a)):(o ++ [⟨(l.getD a ji).toNat,0⟩]) ++ jn l (f - 1) (a + 1) = T:=by
 obtain ⟨g,rfl⟩:∃ g,f = g + 1:=⟨f - 1,by omega⟩
 rw [← hR,jn,if_neg (by omega),if_neg (fun q=>h0 ⟨q.1,by omega⟩),if_neg h0,if_neg h1,Mu]; rfl
end
theorem zE (l:List UInt8) (n:Nat) (hn:n = l.length) (hn2:n ≤ 320) (a:Nat) (ha:a < n):SpecH false Tryz.prog 147 [nD a,.ep [.sl false n 1 (l.map dB)] 0] [] (nD (cj l a)) []:=by
 refine SpecH.run T_ok ai Tryz.func147 rfl rfl rfl trivial rfl 1000 64 (fun R ok=>(.s 1 (Hn.inl T_ok ai false 26 0 (ay Tryz.prog 147 0) (fun (x:(i:Nat) ×' (f:Nat) ×' (hi:a + i ≤ n) ×' (hf:n ≤ a + i + f) ×' (hR:sf l a f i = cj l a) ×' Unit)=>match x with | ⟨i,f,hi,hf,hR,_⟩=>CutS.mk [(0,zN a),(1,D.ep [D.sl false n 1 (map dB l)] 0),(3,nD i)] [] 0) (fun (x:(i:Nat) ×' (f:Nat) ×' (hi:a + i ≤ n) ×' (hf:n ≤ a + i + f) ×' (hR:sf l a f i = cj l a) ×' Unit)=>match x with | ⟨i,f,hi,hf,hR,_⟩=>n - i) [⟨Unit,.exit 0,fun x=>match x with | ()=>CutS.mk [(0,zN a),(1,D.ep [D.sl false n 1 (map dB l)] 0),(3,nD (cj l a))] [] 0⟩] 1000 64 (fun | ⟨i,f,hi,hf,hR,_⟩,Q,next1,last1=>(.s 5 (.ow ((a:Int) + (i:Int)) (.s 8 (.br (decide ((a:Int) + (i:Int) < (n:Int))) (fun p0=>have p0f:=ba p0; (.s 9 (.ow ((a:Int) + (i:Int)) (.s 2 (.chk (true && decide ((a:Int) + (i:Int) < (n:Int)) && true) GV (.s 3 (.opt ((map dB l)[u7 ((a:Int) + (i:Int)) * 1]?) (dB (getD l (u7 ((a:Int) + (i:Int)) * 1) ji)) (au _ _ om) (.s 8 (.chk (true && decide ((a:Int) < (n:Int)) && true) GV (.s 3 (.opt ((map dB l)[a * 1]?) (dB (getD l (a * 1) ji)) (au _ _ om) (.s 4 (.br ((↑(L4 (getD l (u7 ((a:Int) + (i:Int)) * 1) ji)):Int) == (↑(L4 (getD l (a * 1) ji)):Int)) (fun p1=>have p1f:=eq_of_beq p1; (.s 3 (.ow ((i:Int) + 1) (.s 1 (.val 3 (zI ((i:Int) + 1)) (zN (i + 1)) yG (Hn.next next1 ⟨(i + 1),(f - 1),om,om,(by ( exact GX (u:=((a:Int) + (i:Int)).toNat * 1) (v:=a * 1) hR om om om om om)),⟨⟩⟩ (by show n - (i + 1) < n - i; clear next1 last1; omega) [] ro)))))) (fun p1=>have p1f:=av p1; (.val 3 (zN i) (zN (cj l a)) (by ( rw [GY (u:=((a:Int) + (i:Int)).toNat * 1) (v:=a * 1) hR om om om])) (Hn.last last1 0 (():Unit) rfl [] ro)))))))))))))))) (fun p0=>have p0f:=bb p0; (.s 22 (.val 3 (zN i) (zN (cj l a)) (by ( rw [GW hR om])) (Hn.last last1 0 (():Unit) rfl [] ro))))))))) (fun | ⟨i,f,hi,hf,hR,_⟩=>by kernel_rfl) ⟨(0),(n),om,om,(by (rw [hn]; exact (w7 l a).symm)),⟨⟩⟩ [] ro (bZ (fun | ()=>(.s 2 (.out [] [] (zN (cj l a)) [] R (ok _ _ wr wr)))))))) (by kernel_rfl)
theorem G1 (n k:Nat):eo .i64 false (n:Int) (k:Int) = some (nD (min n k)):=tJ (by omega)
theorem iM (l:List UInt8):∀ (f a:Nat),(jn l f a).length ≤ f
 | 0,_=>Mh _
 | f + 1,a=>by
  rw [jn]
  split
  ·exact MP _
  ·split
   ·exact NU (iM l f _)
   ·split
    ·exact NU (iM l f _)
    ·split
     ·exact NU (iM l f _)
     ·exact NU (iM l f _)
theorem J6 (l:List UInt8) (n:Nat) (hn:n = l.length) (hn2:n ≤ 320) (ho:∀ i,i < n → (l.getD i ji).toNat ≤ 15) (T:List Rn) (hT:vy l = T):SpecH false Tryz.prog 110 [.sl false n 1 (l.map dB)] [] (.tup [.ref 0 0 0 T.length 2,iD 0]) [⟨T.flatMap ek, 187, true⟩]:=by
 refine SpecH.run T_ok ai Tryz.func110 rfl rfl rfl ⟨ef (fun _=>rfl) _,trivial⟩ rfl 1000 64 (fun R ok=>(.s 10 (.f (decide (320 < (n:Int))) (by (refine decide_eq_false ?_; (omega))) (.s 5 (Hn.inl T_ok ai false 101 0 (ay Tryz.prog 110 0) (fun (x:(i:Nat) ×' (hi:i ≤ n) ×' Unit)=>match x with | ⟨i,hi,_⟩=>CutS.mk [(1,D.ptr 0 0 0),(2,bB),(13,D.sl false n 1 (map dB l)),(14,zN n),(15,nD i)] [⟨0,0,0,0,.b ⟨[D.sl false n 1 (map dB l)],24,false⟩⟩] 8) (fun (x:(i:Nat) ×' (hi:i ≤ n) ×' Unit)=>match x with | ⟨i,hi,_⟩=>n - i) [⟨Unit,.exit 0,fun x=>match x with | ()=>CutS.mk [(1,D.ptr 0 0 0),(2,bB),(13,D.sl false n 1 (map dB l)),(14,zN n),(15,nD n)] [⟨0,0,0,0,.b ⟨[D.sl false n 1 (map dB l)],24,false⟩⟩] 8⟩] 1000 64 (fun | ⟨i,hi,_⟩,Q,next1,last1=>(.s 2 (.br (decide ((i:Int) < (n:Int))) (fun p0=>have p0f:=ba p0; (.s 1 (.chk (true && decide ((i:Int) < (n:Int)) && true) GV (.s 2 (.opt ((map dB l)[i * 1]?) (dB (getD l (i * 1) ji)) (au _ _ om) (.s 4 (.f (decide (15 < (↑(L4 (getD l (i * 1) ji)):Int))) (by (refine decide_eq_false ?_;  have h9:=ho (i * 1) om; omega)) (.s 2 (.ow ((i:Int) + 1) (.s 1 (.val 15 (zI ((i:Int) + 1)) (zN (i + 1)) yG (Hn.next next1 ⟨(i + 1),om,⟨⟩⟩ (by show n - (i + 1) < n - i; clear next1 last1; omega) [(0,0)] ro)))))))))))) (fun p0=>have p0f:=bb p0; (.val 15 (zN i) (zN n) yG (Hn.last last1 0 (():Unit) rfl [(0,0)] ro)))))) (fun | ⟨i,hi,_⟩=>by kernel_rfl) ⟨(0),om,⟨⟩⟩ [(0,0)] ro (bZ (fun | ()=>(.s 3 (.nils 2 32 2 187 (Hn.inl T_ok ai false 101 0 (ay Tryz.prog 110 1) (fun (x:(a:Nat) ×' (f:Nat) ×' (o:List Rn) ×' (ha:a ≤ n) ×' (hf:n ≤ a + f) ×' (hq:o.length ≤ a) ×' (hR:o ++ jn l f a = T) ×' Unit)=>match x with | ⟨a,f,o,ha,hf,hq,hR,_⟩=>CutS.mk [(1,D.ptr 0 0 0),(2,(D.ref 8 8 (0) (o.length) 2)),(6,D.fn (MG 147) [] [D.ptr 0 0 0]),(7,nD a)] [⟨0,0,0,0,.b ⟨[D.sl false n 1 (map dB l)],24,false⟩⟩,⟨8,8,32,32,.b ⟨o.flatMap ek,187,true⟩⟩] 16) (fun (x:(a:Nat) ×' (f:Nat) ×' (o:List Rn) ×' (ha:a ≤ n) ×' (hf:n ≤ a + f) ×' (hq:o.length ≤ a) ×' (hR:o ++ jn l f a = T) ×' Unit)=>match x with | ⟨a,f,o,ha,hf,hq,hR,_⟩=>n - a) [⟨Unit,.exit 2,fun x=>match x with | ()=>CutS.mk [(1,D.ptr 0 0 0),(2,(D.ref 8 8 (0) (T.length) 2)),(6,D.fn (MG 147) [] [D.ptr 0 0 0])] [⟨0,0,0,0,.b ⟨[D.sl false n 1 (map dB l)],24,false⟩⟩,⟨8,8,32,32,.b ⟨T.flatMap ek,187,true⟩⟩] 16⟩] 1000 64 (fun | ⟨a,f,o,ha,hf,hq,hR,_⟩,Q,next1,last1=>(.s 7 (.br (decide ((a:Int) < (n:Int))) (fun p1=>have p1f:=ba p1; (.s 4 (.cl 147 false [] (.fn JP (@zE (l) (n) om om (a) om)) (.s 5 (.chk (true && decide ((a:Int) < (n:Int)) && true) GV (.s 2 (.opt ((map dB l)[a * 1]?) (dB (getD l (a * 1) ji)) (au _ _ om) (.s 1 (.op (↑(L4 (getD l (a * 1) ji)):Int) (by (exact fU _ (by decide) (by decide))) (.s 7 (.br ((↑(L4 (getD l (a * 1) ji)):Int) == 0) (fun p2=>have p2f:=eq_of_beq p2; (.s 5 (.br (decide (11 ≤ (↑(cj l a):Int))) (fun p3=>have p3f:=ba p3; (.s 2 (.opt (eo Mk false (↑(cj l a):Int) (↑138:Int)) (nD (min (cj l a) 138)) (@G1 (cj l a) 138 ) (.s 5 (.ow ((↑(min (cj l a) 138):Int) - 11) (.s 5 (.chk (true && L2 (length o * 2) (length (flatMap ek o)) && true && true && true && true && L5 ((length o + 1) * 16) 140737488355328) D8 (.s 5 (.ow ((a:Int) + (↑(min (cj l a) 138):Int)) (.s 1 (.val 2 (D.ref 248 248 0 (length o + 1) 2) (D.ref 248 248 0 (length (o ++ [Rn.mk 18 (min (cj l a) 138 - 11)])) 2) D9 (.val 7 (zI ((a:Int) + (↑(min (cj l a) 138):Int))) (zN (a + min (cj l a) 138)) yG (.blk 248 248 (Blk.mk (flatMap ek o ++ [zI 18,zI ((↑(min (cj l a) 138):Int) - 11)]) 187 true) (Blk.mk (flatMap ek (o ++ [Rn.mk 18 (min (cj l a) 138 - 11)])) 187 true) JZ (Hn.next next1 ⟨(a + min (cj l a) 138),(f - 1),(o ++ [⟨18,min (cj l a) 138 - 11⟩]),J0,om,Ea,(by (simp only [My] at *;  have h9:=lD (l:=l) (a:=a) om; exact J3 hR om om om om)),⟨⟩⟩ (by show n - (a + min (cj l a) 138) < n - a; clear next1 last1; omega) [(0,0),(248,248)] ro)))))))))))))) (fun p3=>have p3f:=bb p3; (.s 5 (.t ((↑(L4 (getD l (a * 1) ji)):Int) == 0) p2 (.s 5 (.br (decide (3 ≤ (↑(cj l a):Int))) (fun p4=>have p4f:=ba p4; (.s 4 (.ow ((↑(cj l a):Int) - 3) (.s 5 (.chk (true && L2 (length o * 2) (length (flatMap ek o)) && true && true && true && true && L5 ((length o + 1) * 16) 140737488355328) D8 (.s 5 (.ow ((a:Int) + (↑(cj l a):Int)) (.s 1 (.val 2 (D.ref 280 280 0 (length o + 1) 2) (D.ref 280 280 0 (length (o ++ [Rn.mk 17 (cj l a - 3)])) 2) D9 (.val 7 (zI ((a:Int) + (↑(cj l a):Int))) (zN (a + cj l a)) yG (.blk 280 280 (Blk.mk (flatMap ek o ++ [zI 17,zI ((↑(cj l a):Int) - 3)]) 187 true) (Blk.mk (flatMap ek (o ++ [Rn.mk 17 (cj l a - 3)])) 187 true) JZ (Hn.next next1 ⟨(a + cj l a),(f - 1),(o ++ [⟨17,cj l a - 3⟩]),J0,om,Ea,(by (simp only [My] at *;  have h9:=lD (l:=l) (a:=a) om; exact J4 hR om om om om om)),⟨⟩⟩ (by show n - (a + cj l a) < n - a; clear next1 last1; omega) [(0,0),(280,280)] ro)))))))))))) (fun p4=>have p4f:=bb p4; (.s 5 (.f (decide (0 < (↑(L4 (getD l (a * 1) ji)):Int))) (by (refine decide_eq_false ?_; (omega))) (.s 37 (.chk (true && L2 (length o * 2) (length (flatMap ek o)) && true && true && true && true && L5 ((length o + 1) * 16) 140737488355328) D8 (.s 5 (.ow ((a:Int) + 1) (.s 1 (.val 2 (D.ref 448 448 0 (length o + 1) 2) (D.ref 448 448 0 (length (o ++ [Rn.mk (L4 (getD l a ji)) 0])) 2) D9 (.val 7 (zI ((a:Int) + 1)) (zN (a + 1)) yG (.blk 448 448 (Blk.mk (flatMap ek o ++ [zN (L4 (getD l (a * 1) ji)),zI 0]) 187 true) (Blk.mk (flatMap ek (o ++ [Rn.mk (L4 (getD l a ji)) 0])) 187 true) (by (simp; done)) (Hn.next next1 ⟨(a + 1),(f - 1),(o ++ [⟨(l.getD a ji).toNat,0⟩]),om,om,Ea,J1,⟨⟩⟩ I4 [(0,0),(448,448)] ro)))))))))))))))))))) (fun p2=>have p2f:=av p2; (.s 10 (.f ((↑(L4 (getD l (a * 1) ji)):Int) == 0) p2 (.s 10 (.t (decide (0 < (↑(L4 (getD l (a * 1) ji)):Int))) (by (refine decide_eq_true ?_; (omega))) (.s 6 (.br (decide (0 < (a:Int))) (fun p5=>have p5f:=ba p5; (.s 7 (.ow ((a:Int) - 1) (.s 2 (.chk (decide (0 ≤ (a:Int) - 1) && decide ((a:Int) - 1 < (n:Int)) && true) GV (.s 3 (.opt ((map dB l)[u7 ((a:Int) - 1) * 1]?) (dB (getD l (u7 ((a:Int) - 1) * 1) ji)) (au _ _ om) (.s 2 (.op (↑(L4 (getD l (u7 ((a:Int) - 1) * 1) ji)):Int) (by (exact fU _ (by decide) (by decide))) (.s 8 (.br ((↑(L4 (getD l (u7 ((a:Int) - 1) * 1) ji)):Int) == (↑(L4 (getD l (a * 1) ji)):Int)) (fun p6=>have p6f:=eq_of_beq p6; (.s 5 (.br (decide (3 ≤ (↑(cj l a):Int))) (fun p7=>have p7f:=ba p7; (.s 2 (.opt (eo Mk false (↑(cj l a):Int) (↑6:Int)) (nD (min (cj l a) 6)) (@G1 (cj l a) 6 ) (.s 5 (.ow ((↑(min (cj l a) 6):Int) - 3) (.s 5 (.chk (true && L2 (length o * 2) (length (flatMap ek o)) && true && true && true && true && L5 ((length o + 1) * 16) 140737488355328) D8 (.s 5 (.ow ((a:Int) + (↑(min (cj l a) 6):Int)) (.s 1 (.val 2 (D.ref 472 472 0 (length o + 1) 2) (D.ref 472 472 0 (length (o ++ [Rn.mk 16 (min (cj l a) 6 - 3)])) 2) D9 (.val 7 (zI ((a:Int) + (↑(min (cj l a) 6):Int))) (zN (a + min (cj l a) 6)) yG (.blk 472 472 (Blk.mk (flatMap ek o ++ [zI 16,zI ((↑(min (cj l a) 6):Int) - 3)]) 187 true) (Blk.mk (flatMap ek (o ++ [Rn.mk 16 (min (cj l a) 6 - 3)])) 187 true) JZ (Hn.next next1 ⟨(a + min (cj l a) 6),(f - 1),(o ++ [⟨16,min (cj l a) 6 - 3⟩]),J0,om,Ea,(by (simp only [My] at *;  have h9:=lD (l:=l) (a:=a) om; exact J5 hR om om om om (by rw [show ((a:Int) - 1).toNat = a - 1 from by omega] at *; omega) om)),⟨⟩⟩ (by show n - (a + min (cj l a) 6) < n - a; clear next1 last1; omega) [(0,0),(472,472)] ro)))))))))))))) (fun p7=>have p7f:=bb p7; (.s 8 (.chk (true && L2 (length o * 2) (length (flatMap ek o)) && true && true && true && true && L5 ((length o + 1) * 16) 140737488355328) D8 (.s 5 (.ow ((a:Int) + 1) (.s 1 (.val 2 (D.ref 448 448 0 (length o + 1) 2) (D.ref 448 448 0 (length (o ++ [Rn.mk (L4 (getD l a ji)) 0])) 2) D9 (.val 7 (zI ((a:Int) + 1)) (zN (a + 1)) yG (.blk 448 448 (Blk.mk (flatMap ek o ++ [zN (L4 (getD l (a * 1) ji)),zI 0]) 187 true) (Blk.mk (flatMap ek (o ++ [Rn.mk (L4 (getD l a ji)) 0])) 187 true) (by (simp; done)) (Hn.next next1 ⟨(a + 1),(f - 1),(o ++ [⟨(l.getD a ji).toNat,0⟩]),om,om,Ea,J1,⟨⟩⟩ I4 [(0,0),(448,448)] ro))))))))))))) (fun p6=>have p6f:=av p6; (.s 13 (.chk (true && L2 (length o * 2) (length (flatMap ek o)) && true && true && true && true && L5 ((length o + 1) * 16) 140737488355328) D8 (.s 5 (.ow ((a:Int) + 1) (.s 1 (.val 2 (D.ref 448 448 0 (length o + 1) 2) (D.ref 448 448 0 (length (o ++ [Rn.mk (L4 (getD l a ji)) 0])) 2) D9 (.val 7 (zI ((a:Int) + 1)) (zN (a + 1)) yG (.blk 448 448 (Blk.mk (flatMap ek o ++ [zN (L4 (getD l (a * 1) ji)),zI 0]) 187 true) (Blk.mk (flatMap ek (o ++ [Rn.mk (L4 (getD l a ji)) 0])) 187 true) (by (simp; done)) (Hn.next next1 ⟨(a + 1),(f - 1),(o ++ [⟨(l.getD a ji).toNat,0⟩]),om,om,Ea,(by (simp only [My] at *;  have h9:=lD (l:=l) (a:=a) om; rw [show ((a:Int) - 1).toNat = a - 1 from by omega] at *; exact G0 hR om om om om)),⟨⟩⟩ I4 [(0,0),(448,448)] ro))))))))))))))))))))) (fun p5=>have p5f:=bb p5; (.s 31 (.chk (true && L2 (length o * 2) (length (flatMap ek o)) && true && true && true && true && L5 ((length o + 1) * 16) 140737488355328) D8 (.s 5 (.ow ((a:Int) + 1) (.s 1 (.val 2 (D.ref 448 448 0 (length o + 1) 2) (D.ref 448 448 0 (length (o ++ [Rn.mk (L4 (getD l a ji)) 0])) 2) D9 (.val 7 (zI ((a:Int) + 1)) (zN (a + 1)) yG (.blk 448 448 (Blk.mk (flatMap ek o ++ [zN (L4 (getD l (a * 1) ji)),zI 0]) 187 true) (Blk.mk (flatMap ek (o ++ [Rn.mk (L4 (getD l a ji)) 0])) 187 true) (by (simp; done)) (Hn.next next1 ⟨(a + 1),(f - 1),(o ++ [⟨(l.getD a ji).toNat,0⟩]),om,om,Ea,J1,⟨⟩⟩ I4 [(0,0),(448,448)] ro)))))))))))))))))))))))))))) (fun p1=>have p1f:=bb p1; (.val 2 (D.ref 8 8 0 (length o) 2) (D.ref 8 8 0 (length T) 2) (by ( rw [GZ hR om])) (.blk 8 8 (Blk.mk (flatMap ek o) 187 true) (Blk.mk (flatMap ek T) 187 true) (by ( rw [GZ hR om])) (Hn.last last1 0 (():Unit) rfl [(0,0),(8,8)] ro))))))) (fun | ⟨a,f,o,ha,hf,hq,hR,_⟩=>by kernel_rfl) ⟨(0),(n),([]),om,om,(by (simp; done)),(by (rw [hn]; exact (sg l).symm.trans hT)),⟨⟩⟩ [(0,0),(32,32)] ro (bZ (fun | ()=>(.s 3 (.out [8] [8] (D.tup [D.ref 0 0 0 (length T) 2,zI 0]) [Blk.mk (flatMap ek T) 187 true] R (ok _ _ wr wr))))))))))))))) (by kernel_rfl)
end Vp
end Go.Proofs.YtefjnofhgkjpmaaGreat
namespace Go.Proofs.YtefjnofhgkjpmaaGreat
open Go.RowKit Go.Bw Go.Vx
namespace Vp
def yz (T:List Sy) (f:Int) (s:Nat):Nat:=if f ≤ s ∧ s < f + T.length then 0 else 90
def bY (T:List Sy):Prop:=∀ i,(T.getD i ji).bits ≤ 13 ∧ (T.getD i ji).least ≤ 100000 ∧ (T.getD i ji).many ≤ 100000
theorem qk {T:List Sy} (h:T.all (fun y=>decide (y.bits ≤ 13) && decide (y.least ≤ 100000) && decide (y.many ≤ 100000)) = true):bY T:=fun i=>by
 rw [List.getD_eq_getElem?_getD]
 cases hq:T[i]? with
 | none=>exact ⟨MP _,MP _,MP _⟩
 | some y =>
  have:=List.all_eq_true.1 h y (List.mem_of_getElem? hq)
  simp only [L7,decide_eq_true_eq] at this
  exact ⟨this.1.1,this.1.2,this.2⟩
theorem si {x:Int} (h:-9223372036854775808 ≤ x ∧ x ≤ 9223372036854775807):IntKind.i64.wrap x = x:=by
 have h2:=fo (x:=x) h
 rw [aD] at h2
 injection h2 with h3; injection h3 with h4; injection h4
theorem cU:bY aK:=qk (by decide)
theorem du:bY aY:=qk (by decide)
end Vp
end Go.Proofs.YtefjnofhgkjpmaaGreat
namespace Go.Proofs.YtefjnofhgkjpmaaGreat
open Go.RowKit Go.Bw Go.Vx
open List (length getD map take drop flatMap replicate)
namespace Vp
theorem J7 {p:Prop} (h:p:=by ( have q:=J8 hR om om rfl om om; have h9:=hz i; subst q; refine aO ?_; omega)):p:=h
def G2 (s:Sy) (n:Nat):Bool:=decide (s.least ≤ n ∧ n < s.least + s.many)
def np (T:List Sy) (n:Nat):Nat → Nat → Nat
 | 0,i=>i
 | f + 1,i=>if G2 (T.getD i ji) n = true then i else np T n f (i + 1)
def ao (T:List Sy) (n:Nat):Nat:=lk T (np T n T.length 0)
theorem lE (T:List Sy) (n:Nat):ao T n = np T n T.length 0:=aG _ _
theorem Cm {T:List Sy} {n:Nat}:∀ (f i:Nat),i ≤ np T n f i
 | 0,_=>Mh _
 | f + 1,i=>by
  rw [np]; split
  ·exact Mh _
  ·exact Nat.le_of_succ_le (Cm f (i + 1))
theorem J8 {T:List Sy} {n f i I u:Nat} (hR:np T n f i = I) (hf:T.length ≤ i + f) (hi:i < T.length) (hu:u = i) (h1:(T.getD u ji).least ≤ n) (h2:n < (T.getD u ji).least + (T.getD u ji).many):i = I:=by
 subst hu
 obtain ⟨g,rfl⟩:∃ g,f = g + 1:=⟨f - 1,by omega⟩
 rw [← hR,np,if_pos (show G2 (T.getD u ji) n = true from decide_eq_true ⟨h1,h2⟩)]
theorem zF {T:List Sy} {n f i I u:Nat} (hR:np T n f i = I) (hf:T.length ≤ i + f) (hi:i < T.length) (hu:u = i) (h:¬ ((T.getD u ji).least ≤ n ∧ n < (T.getD u ji).least + (T.getD u ji).many)):np T n (f - 1) (i + 1) = I ∧ i + 1 ≤ I:=by
 subst hu
 obtain ⟨g,rfl⟩:∃ g,f = g + 1:=⟨f - 1,by omega⟩
 rw [np,if_neg (fun q:G2 (T.getD u ji) n = true=>h (of_decide_eq_true q))] at hR
 exact ⟨hR,by rw [← hR]; exact Cm g (u + 1)⟩
theorem Cn {T:List Sy} {n:Nat}:∀ (f i:Nat),np T n f i < i + f → (T.getD (np T n f i) ji).least ≤ n ∧ n < (T.getD (np T n f i) ji).least + (T.getD (np T n f i) ji).many
 | 0,i,h=>absurd h (by rw [np]; omega)
 | f + 1,i,h=>by
  rw [np] at h ⊢
  by_cases q:G2 (T.getD i ji) n = true
  ·rw [if_pos q]; exact of_decide_eq_true q
  ·rw [if_neg q] at h ⊢; exact Cn f (i + 1) (by omega)
def J9:List Sy → Nat → Nat → Bool
 | [],a,b=>L2 a b
 | s :: l,a,b=>L2 s.least a && J9 l (a + s.many) b
theorem w8 {n b:Nat} (T:List Sy):∀ (f i a:Nat),i + f = T.length → J9 (T.drop i) a b = true → a ≤ n → n < b → np T n f i < i + f
 | 0,i,a,h,hc,h1,h2=>by
  rw [Nb (by omega)] at hc
  have:=Ma hc
  omega
 | f + 1,i,a,h,hc,h1,h2=>by
  rw [Nl (by omega:i < T.length),J9,L7] at hc
  have e:T.getD i ji = T[i]'(by omega):=by rw [List.getD_eq_getElem?_getD,List.getElem?_eq_getElem (by omega)]; rfl
  have hl:=Ma hc.1
  rw [np,e]
  by_cases q:G2 (T[i]'(by omega)) n = true
  ·rw [if_pos q]; omega
  ·rw [if_neg q]
   have q2:=of_decide_eq_false (Bool.eq_false_iff.2 q)
   have:=w8 (n:=n) (b:=b) T f (i + 1) (a + (T[i]'(by omega)).many) (by omega) hc.2 (by omega) h2
   omega
theorem w9 (T:List Sy) (k:Nat) (hk:k = T.length) (hk2:k ≤ 64) (hz:bY T) (b:Nat) (hb:b ≤ 257) (n:Nat) (hn:n ≤ 40000) (I:Nat) (hI:ao T n = I) (hIk:I < k):SpecH false Tryz.prog 173 [.agg [nD b,.sl false k 3 (T.flatMap gU)],nD n] [] (.tup [nD (b + I),nD (T.getD I ji).bits,nD (n - (T.getD I ji).least),iD 0]) []:=by
 refine SpecH.run T_ok ai Tryz.func173 rfl rfl rfl trivial rfl 1000 64 (fun R ok=>(.s 14 (Hn.inl T_ok ai false 42 0 (ay Tryz.prog 173 0) (fun (x:(i:Nat) ×' (f:Nat) ×' (hi:i ≤ k) ×' (hf:k ≤ i + f) ×' (hR:np T n f i = I) ×' (hi2:i ≤ I) ×' Unit)=>match x with | ⟨i,f,hi,hf,hR,hi2,_⟩=>CutS.mk [(1,zN n),(2,D.ptr 0 0 0),(11,D.sl false k 3 (flatMap gU T)),(12,zN k),(13,nD i)] [⟨0,0,0,0,.b ⟨[zN b,D.sl false k 3 (flatMap gU T)],252,false⟩⟩] 8) (fun (x:(i:Nat) ×' (f:Nat) ×' (hi:i ≤ k) ×' (hf:k ≤ i + f) ×' (hR:np T n f i = I) ×' (hi2:i ≤ I) ×' Unit)=>match x with | ⟨i,f,hi,hf,hR,hi2,_⟩=>k - i) [⟨Unit,.ret,fun x=>match x with | ()=>CutS.mk [(4,nD (b + I)),(5,nD (T.getD I ji).bits),(6,nD (n - (T.getD I ji).least)),(7,iD 0)] [⟨0,0,0,0,.b ⟨[zN b,D.sl false k 3 (flatMap gU T)],252,false⟩⟩] 8⟩] 1000 64 (fun | ⟨i,f,hi,hf,hR,hi2,_⟩,Q,next1,last1=>(.s 2 (.t (decide ((i:Int) < (k:Int))) (by (refine decide_eq_true ?_; (omega))) (.s 2 (.chk (true && decide ((i:Int) < (k:Int)) && true) (by ((refine aI ?_ ?_) <;> (repeat' (first | (refine aI ?_ ?_) | (with_reducible rfl) | (refine decide_eq_true ?_) | (refine L9 ?_) | (refine er ?_))) <;> (omega))) (.s 2 (.chk (L5 (i * 3 + 3) (length (flatMap gU T))) (by (rw [bl (k:=3) (fun _=>rfl)]; refine L9 ?_; (omega))) (.lst (take 3 (drop (i * 3) (flatMap gU T))) ([zN (Sy.bits (getD T i ji)),zN (Sy.least (getD T i ji)),zN (Sy.many (getD T i ji))]) (aE (k:=3) (i:=i) (fun _=>rfl) om om) (.s 17 (.br (decide ((↑(Sy.least (getD T i ji)):Int) ≤ (n:Int))) (fun p0=>have p0f:=ba p0; (.s 19 (.op ((↑(Sy.least (getD T i ji)):Int) + (↑(Sy.many (getD T i ji)):Int)) (by ( have h9:=hz i; omega)) (.s 4 (.br (decide ((n:Int) < (↑(Sy.least (getD T i ji)):Int) + (↑(Sy.many (getD T i ji)):Int))) (fun p1=>have p1f:=ba p1; (.s 10 (.ow ((b:Int) + (i:Int)) (.s 15 (.ow ((n:Int) - (↑(Sy.least (getD T i ji)):Int)) (.s 4 (.val 4 (zI ((b:Int) + (i:Int))) (zN (b + I)) J7 (.val 5 (zN (Sy.bits (getD T i ji))) (zN (Sy.bits (getD T I ji))) J7 (.val 6 (zI ((n:Int) - (↑(Sy.least (getD T i ji)):Int))) (zN (n - Sy.least (getD T I ji))) J7 (Hn.last last1 0 (():Unit) rfl [(0,0)] ro)))))))))) (fun p1=>have p1f:=bb p1; (.s 2 (.ow ((i:Int) + 1) (.s 1 (.val 13 (zI ((i:Int) + 1)) (zN (i + 1)) (by (refine aO ?_; (omega))) (Hn.next next1 ⟨(i + 1),(f - 1),om,om,(by ( exact (zF hR om om rfl om).1)),(by ( exact (zF hR om om rfl om).2)),⟨⟩⟩ (by show k - (i + 1) < k - i; clear next1 last1; omega) [(0,0)] ro))))))))))) (fun p0=>have p0f:=bb p0; (.s 16 (.ow ((i:Int) + 1) (.s 1 (.val 13 (zI ((i:Int) + 1)) (zN (i + 1)) (by (refine aO ?_; (omega))) (Hn.next next1 ⟨(i + 1),(f - 1),om,om,(by ( exact (zF hR om om rfl om).1)),(by ( exact (zF hR om om rfl om).2)),⟨⟩⟩ (by show k - (i + 1) < k - i; clear next1 last1; omega) [(0,0)] ro)))))))))))))))) (fun | ⟨i,f,hi,hf,hR,hi2,_⟩=>by kernel_rfl) ⟨(0),(k),om,om,(by (rw [hk]; exact (lE T n).symm.trans hI)),om,⟨⟩⟩ [(0,0)] ro (bZ (fun | ()=>(.out [] [] (D.tup [zN (b + I),zN (Sy.bits (getD T I ji)),zN (n - Sy.least (getD T I ji)),zI 0]) [] R (ok _ _ wr wr))))))) (by kernel_rfl)
theorem Eb (T:List Sy) (hT:T = aK) (hl:T.length = 29) (hz:bY T) (n:Nat) (hn:n ≤ 40000) (I:Nat) (hI:ao T n = I) (hIk:I < 29):SpecH false Tryz.prog 142 [nD n] [] (.tup [nD (257 + I),nD (T.getD I ji).bits,nD (n - (T.getD I ji).least),iD 0]) []:=by
 refine SpecH.run T_ok ai Tryz.func142 rfl rfl rfl trivial rfl 1000 64 (fun R ok=>(.s 5 (.cl 160 false [] (.fn JS (@zD (T) bz)) (.s 2 (.call 173 false [] (true && (true && (true && L5 87 (length (flatMap gU T)) && true && ab (bif true && L2 87 (length (flatMap gU T)) then flatMap gU T else take 87 (drop 0 (flatMap gU T)))) && true) && true) (by (have q:ab (T.flatMap gU) = true:=cS (f:=gU) (fun _=>rfl) T; rw [bl (f:=gU) (k:=3) (fun _=>rfl),hl]; simp only [show L5 87 (29 * 3) = true from rfl,show L2 87 (29 * 3) = true from rfl,Mv,cond_true,q])) ([D.agg [zI 257,D.sl true 29 3 (bif true && L2 87 (length (flatMap gU T)) then flatMap gU T else take 87 (drop 0 (flatMap gU T)))],zN n]) _ (by exact (Mi (D.sim.agg (Mi (D.sim.refl _) (Mi (D.sim.slw rfl (aV (by (have q:ab (T.flatMap gU) = true:=cS (f:=gU) (fun _=>rfl) T; rw [bl (f:=gU) (k:=3) (fun _=>rfl),hl]; simp only [show L5 87 (29 * 3) = true from rfl,show L2 87 (29 * 3) = true from rfl,Mv,cond_true,q])) |>.trans rfl)) trivial))) (Mi (D.sim.refl _) trivial))) (true) wr _ _ _ (CallOk.fn (ax.of Tryz.func173 rfl rfl) (@w9 (T) (29) om om om (257) (by (simp; done)) (n) om (I) bz om)) (.s 12 (.out [] [] (D.tup [zN (257 + I),zN (Sy.bits (getD T I ji)),zN (n - Sy.least (getD T I ji)),zI 0]) [] R (ok _ _ wr wr)))))))) (by kernel_rfl)
theorem G3 (T:List Sy) (hT:T = aY) (hl:T.length = 30) (hz:bY T) (n:Nat) (hn:n ≤ 40000) (I:Nat) (hI:ao T n = I) (hIk:I < 30):SpecH false Tryz.prog 143 [nD n] [] (.tup [nD (0 + I),nD (T.getD I ji).bits,nD (n - (T.getD I ji).least),iD 0]) []:=by
 refine SpecH.run T_ok ai Tryz.func143 rfl rfl rfl trivial rfl 1000 64 (fun R ok=>(.s 5 (.cl 163 false [] (.fn JT (@D7 (T) bz)) (.s 2 (.call 173 false [] (true && (true && (true && L5 90 (length (flatMap gU T)) && true && ab (bif true && L2 90 (length (flatMap gU T)) then flatMap gU T else take 90 (drop 0 (flatMap gU T)))) && true) && true) (by (have q:ab (T.flatMap gU) = true:=cS (f:=gU) (fun _=>rfl) T; rw [bl (f:=gU) (k:=3) (fun _=>rfl),hl]; simp only [show L5 90 (30 * 3) = true from rfl,show L2 90 (30 * 3) = true from rfl,Mv,cond_true,q])) ([D.agg [zI 0,D.sl true 30 3 (bif true && L2 90 (length (flatMap gU T)) then flatMap gU T else take 90 (drop 0 (flatMap gU T)))],zN n]) _ (by exact (Mi (D.sim.agg (Mi (D.sim.refl _) (Mi (D.sim.slw rfl (aV (by (have q:ab (T.flatMap gU) = true:=cS (f:=gU) (fun _=>rfl) T; rw [bl (f:=gU) (k:=3) (fun _=>rfl),hl]; simp only [show L5 90 (30 * 3) = true from rfl,show L2 90 (30 * 3) = true from rfl,Mv,cond_true,q])) |>.trans rfl)) trivial))) (Mi (D.sim.refl _) trivial))) (true) wr _ _ _ (CallOk.fn (ax.of Tryz.func173 rfl rfl) (@w9 (T) (30) om om om (0) (by (simp; done)) (n) om (I) bz om)) (.s 12 (.out [] [] (D.tup [zN (0 + I),zN (Sy.bits (getD T I ji)),zN (n - Sy.least (getD T I ji)),zI 0]) [] R (ok _ _ wr wr)))))))) (by kernel_rfl)
end Vp
end Go.Proofs.YtefjnofhgkjpmaaGreat
namespace Go.Proofs.YtefjnofhgkjpmaaGreat
open Go.RowKit Go.Bw Go.Vx
open List (length getD map take drop flatMap replicate)
namespace Vp
theorem ql {p:Prop} (h:p:=by (refine aO ?_; rw [iL]; unfold se;  (repeat' split) <;> first | omega | (simp_all; done))):p:=h
theorem Ka {x:Int} (h:-9223372036854775808 ≤ x ∧ x ≤ 9223372036854775807):IntKind.i64.wrap x = x:=by
 have h2:=fo (x:=x) h
 rw [aD] at h2
 injection h2 with h3; injection h3 with h4; injection h4
theorem tR {l:List UInt8} {i m:Nat} (ho:∀ j,j < i → (l.getD j ji).toNat ≤ m) (h:¬ ((m:Nat):Int) < (((l.getD (i * 1) ji).toNat:Nat):Int)):∀ j,j < i + 1 → (l.getD j ji).toNat ≤ m:=fun j hj=>by
 rcases MF j i with q | q
 ·exact ho j q
 ·have q2:j = i:=by omega
  subst q2; rw [My] at h; omega
theorem Kb {l:List UInt8} {i:Nat} (h:i < l.length) (hN:l.length ≤ 1000000) (h1:0 < (l.getD (i * 1) ji).toNat) (h2:(l.getD (i * 1) ji).toNat ≤ 15):D.v (.int .i64 (IntKind.i64.wrap (((aU (l.take i):Nat):Int) + IntKind.i64.wrap (2 ^ min (15 - (((l.getD (i * 1) ji).toNat:Nat):Int)).toNat 64 * 1)))) = D.v (.int .i64 ((aU (l.take (i + 1)):Nat):Int)):=by
 refine aO ?_
 rw [My] at *
 rw [fV h]
 generalize (l.getD i ji).toNat = x at *
 have hk:=wZ (l.take i)
 rw [Mc] at hk
 rw [if_neg (by omega),show min (15 - (x:Int)).toNat 64 = 15 - x from by omega]
 have hp:2 ^ (15 - x) ≤ 2 ^ 15:=MV (by decide) (by omega)
 have e:(2:Int) ^ (15 - x) * 1 = ((2 ^ (15 - x):Nat):Int):=by push_cast; omega
 rw [e]
 generalize 2 ^ (15 - x) = Z at *
 rw [Ka (x:=((Z:Nat):Int)) (by omega),Ka (by omega)]
 omega
theorem G4 {l:List UInt8} {i:Nat} (h:i < l.length) (h1:¬ (0:Int) < (((l.getD (i * 1) ji).toNat:Nat):Int)):aU (l.take (i + 1)) = aU (l.take i) ∧ bm (l.take (i + 1)) = bm (l.take i):=by
 rw [My] at h1
 rw [fV h,ij h,if_pos (by omega),if_pos (by omega)]; exact ⟨rfl,rfl⟩
theorem Kc {l:List UInt8} {i:Nat} (h:i < l.length) (hN:l.length ≤ 1000000) (h1:0 < (l.getD (i * 1) ji).toNat):D.v (.int .i64 (IntKind.i64.wrap (((bm (l.take i):Nat):Int) + 1))) = D.v (.int .i64 ((bm (l.take (i + 1)):Nat):Int)):=by
 refine aO ?_
 rw [My] at *
 rw [ij h,if_neg (by omega)]
 have hk:=wY (l.take i)
 rw [Mc] at hk
 rw [Ka (by omega)]; omega
theorem Ec (l:List UInt8) (n:Nat) (hn:n = l.length) (hN:n ≤ 1000000) (m:Nat) (hm:1 ≤ m ∧ m ≤ 15):SpecH false Tryz.prog 148 [.sl false n 1 (l.map dB),nD m] [] (nD (cG l m)) []:=by
 refine SpecH.run T_ok ai Tryz.func148 rfl rfl rfl trivial rfl 1000 64 (fun R ok=>(.s 6 (.f (decide ((m:Int) < 1)) (by (refine decide_eq_false ?_; (omega))) (.s 4 (.f (decide (15 < (m:Int))) (by (refine decide_eq_false ?_; (omega))) (.s 4 (.br (decide (320 < (n:Int))) (fun p0=>have p0f:=ba p0; (.s 1 (.out [] [] (zI 4) [] R (ok _ _ ql wr)))) (fun p0=>have p0f:=bb p0; (.s 5 (Hn.inl T_ok ai false 52 0 (ay Tryz.prog 148 0) (fun (x:(i:Nat) ×' (hi:i ≤ n) ×' (ho:∀ j,j < i → (l.getD j ji).toNat ≤ m) ×' Unit)=>match x with | ⟨i,hi,ho,_⟩=>CutS.mk [(1,zN m),(5,nD (aU (l.take i))),(6,nD (bm (l.take i))),(18,D.sl false n 1 (map dB l)),(19,zN n),(20,nD i)] [] 0) (fun (x:(i:Nat) ×' (hi:i ≤ n) ×' (ho:∀ j,j < i → (l.getD j ji).toNat ≤ m) ×' Unit)=>match x with | ⟨i,hi,ho,_⟩=>n - i) [⟨(ho2:dk l m = false) ×' Unit,.exit 0,fun x=>match x with | ⟨ho2,_⟩=>CutS.mk [(1,zN m),(5,nD (aU l)),(6,nD (bm l)),(18,D.sl false n 1 (map dB l)),(19,zN n)] [] 0⟩,⟨(ho3:dk l m = true) ×' Unit,.ret,fun x=>match x with | ⟨ho3,_⟩=>CutS.mk [(4,iD 2)] [] 0⟩] 1000 64 (fun | ⟨i,hi,ho,_⟩,Q,next1,last1=>(.s 2 (.br (decide ((i:Int) < (n:Int))) (fun p1=>have p1f:=ba p1; (.s 1 (.chk (true && decide ((i:Int) < (n:Int)) && true) (by ((refine aI ?_ ?_) <;> (repeat' (first | (refine aI ?_ ?_) | (with_reducible rfl) | (refine decide_eq_true ?_) | (refine L9 ?_) | (refine er ?_))) <;> (omega))) (.s 2 (.opt ((map dB l)[i * 1]?) (dB (getD l (i * 1) ji)) (au _ _ om) (.s 3 (.op (↑(L4 (getD l (i * 1) ji)):Int) (by (exact fU _ (by decide) (by decide))) (.s 3 (.br (decide ((m:Int) < (↑(L4 (getD l (i * 1) ji)):Int))) (fun p2=>have p2f:=ba p2; (.s 1 (Hn.last last1 1 (⟨(by (exact tQ (i:=i * 1) (by (omega)) (by (omega)))),⟨⟩⟩:(ho3:dk l m = true) ×' Unit) rfl [] ro))) (fun p2=>have p2f:=bb p2; (.s 3 (.br (decide (0 < (↑(L4 (getD l (i * 1) ji)):Int))) (fun p3=>have p3f:=ba p3; (.s 4 (.opt (aw .u8 (15 - (↑(L4 (getD l (i * 1) ji)):Int))) (bI (15 - (↑(L4 (getD l (i * 1) ji)):Int))) (qd om) (.s 1 (.chk (decide (0 ≤ 15 - (↑(L4 (getD l (i * 1) ji)):Int))) (by (refine decide_eq_true ?_; (omega))) (.opt (aw .i64 (2 ^ min (u7 (15 - (↑(L4 (getD l (i * 1) ji)):Int))) 64 * 1)) (zI (Mj Mk (2 ^ min (u7 (15 - (↑(L4 (getD l (i * 1) ji)):Int))) 64 * 1))) (aD _ _) (.s 2 (.opt (aw .i64 ((↑(aU (take i l)):Int) + Mj Mk (2 ^ min (u7 (15 - (↑(L4 (getD l (i * 1) ji)):Int))) 64 * 1))) (zI (Mj Mk ((↑(aU (take i l)):Int) + Mj Mk (2 ^ min (u7 (15 - (↑(L4 (getD l (i * 1) ji)):Int))) 64 * 1)))) (aD _ _) (.s 4 (.opt (aw .i64 ((↑(bm (take i l)):Int) + 1)) (zI (Mj Mk ((↑(bm (take i l)):Int) + 1))) (aD _ _) (.s 3 (.ow ((i:Int) + 1) (.s 1 (.val 5 (zI (Mj Mk ((↑(aU (take i l)):Int) + Mj Mk (2 ^ min (u7 (15 - (↑(L4 (getD l (i * 1) ji)):Int))) 64 * 1)))) (zN (aU (take (i + 1) l))) (by (exact Kb (by (omega)) (by (omega)) (by (omega)) (by (omega)))) (.val 6 (zI (Mj Mk ((↑(bm (take i l)):Int) + 1))) (zN (bm (take (i + 1) l))) (by (exact Kc (by (omega)) (by (omega)) (by (omega)))) (.val 20 (zI ((i:Int) + 1)) (zN (i + 1)) (by (refine aO ?_; (omega))) (Hn.next next1 ⟨(i + 1),om,(by (exact tR ho (by (omega)))),⟨⟩⟩ (by show n - (i + 1) < n - i; clear next1 last1; omega) [] ro))))))))))))))))) (fun p3=>have p3f:=bb p3; (.s 2 (.ow ((i:Int) + 1) (.s 1 (.val 5 (zN (aU (take i l))) (zN (aU (take (i + 1) l))) (by (rw [(G4 (l:=l) (i:=i) (by (omega)) (by (omega))).1])) (.val 6 (zN (bm (take i l))) (zN (bm (take (i + 1) l))) (by (rw [(G4 (l:=l) (i:=i) (by (omega)) (by (omega))).2])) (.val 20 (zI ((i:Int) + 1)) (zN (i + 1)) (by (refine aO ?_; (omega))) (Hn.next next1 ⟨(i + 1),om,(by (exact tR ho (by (omega)))),⟨⟩⟩ (by show n - (i + 1) < n - i; clear next1 last1; omega) [] ro)))))))))))))))))))) (fun p1=>have p1f:=bb p1; (.val 5 (zN (aU (take i l))) (zN (aU l)) (by (rw [Mz (by (omega))])) (.val 6 (zN (bm (take i l))) (zN (bm l)) (by (rw [Mz (by (omega))])) (Hn.last last1 0 (⟨(by (exact kv (fun j hj=>ho j (by (omega))))),⟨⟩⟩:(ho2:dk l m = false) ×' Unit) rfl [] ro))))))) (fun | ⟨i,hi,ho,_⟩=>by kernel_rfl) ⟨(0),om,om,⟨⟩⟩ [] ro (fa (fun | ⟨ho2,_⟩=>(.s 4 (.br (decide (32768 < (↑(aU l):Int))) (fun p4=>have p4f:=ba p4; (.s 1 (.out [] [] (zI 30) [] R (ok _ _ ql wr)))) (fun p4=>have p4f:=bb p4; (.s 4 (.br ((↑(aU l):Int) == 32768) (fun p5=>have p5f:=eq_of_beq p5; (.s 2 (.out [] [] (zI 0) [] R (ok _ _ ql wr)))) (fun p5=>have p5f:=av p5; (.s 4 (.br ((↑(bm l):Int) == 0) (fun p6=>have p6f:=eq_of_beq p6; (.s 2 (.out [] [] (zI 0) [] R (ok _ _ ql wr)))) (fun p6=>have p6f:=av p6; (.s 5 (.br ((↑(bm l):Int) == 1) (fun p7=>have p7f:=eq_of_beq p7; (.s 5 (.br ((↑(aU l):Int) == 16384) (fun p8=>have p8f:=eq_of_beq p8; (.s 1 (.out [] [] (zI 0) [] R (ok _ _ ql wr)))) (fun p8=>have p8f:=av p8; (.s 1 (.out [] [] (zI 31) [] R (ok _ _ ql wr))))))) (fun p7=>have p7f:=av p7; (.s 6 (.out [] [] (zI 31) [] R (ok _ _ ql wr)))))))))))))))) (fun | ⟨ho3,_⟩=>(.out [] [] (zI 2) [] R (ok _ _ ql wr)))))))))))))) (by kernel_rfl)
end Vp
end Go.Proofs.YtefjnofhgkjpmaaGreat
namespace Go.Proofs.YtefjnofhgkjpmaaGreat
open Go.RowKit Go.Bw Go.Vx
open List (length getD map take drop flatMap replicate)
namespace Vp
theorem I5 {p:Prop} (h:p:=by (refine decide_eq_true ?_;  have h7:=vz l v i; have h6:=vz l v (i + 1); omega)):p:=h
theorem Kd {p:Prop} (h:p:=by clear next1 last1; (simp_all <;> omega)):p:=h
theorem LD {p:Prop} (h:p:=by (simp only [List.length_map,Nat.mul_one,Nat.beq_refl,Bool.true_and,Bool.and_true];  have h7:=vz l v i; have h6:=vz l v (i + 1); refine Nat.ble_eq_true_of_le ?_; omega)):p:=h
theorem LF {p:Prop} (h:p:=by ( have h7:=vz l v i; have h6:=vz l v (i + 1); refine Eg ?_ ?_ <;> omega)):p:=h
def dg:List Bool → Nat
 | []=>0
 | b :: r=>b.toNat + 2 * dg r
theorem gv:∀ l:List Bool,dg l < 2 ^ l.length
 | []=>N0
 | b :: r=>by
  have h:=gv r
  have h2:b.toNat ≤ 1:=OT b
  rw [Mx,Nt,dg]; omega
theorem nq:∀ a b:List Bool,dg (a ++ b) = dg a + 2 ^ a.length * dg b
 | [],b=>by simp [dg]
 | x :: r,b=>by
  have h:=nq r b
  rw [NV,dg,dg,h,Mx,Nt,NS,← Na,Nk 2 (2 ^ r.length),Nd]
def xa (l:List Bool) (i:Nat):UInt8:=M1 (dg ((l.drop (8 * i)).take 8))
def pk (l:List Bool):List UInt8:=lk l ((MQ ((l.length + 7) / 8)).map (xa l))
theorem xb (l:List Bool):pk l = (MQ ((l.length + 7) / 8)).map (xa l):=aG _ _
theorem ac (l:List Bool):(pk l).length = (l.length + 7) / 8:=by rw [xb,Mg,Nh]
theorem jo {l:List Bool} {i:Nat} (h:i < (l.length + 7) / 8):(pk l)[i]? = some (xa l i):=by
 rw [xb,List.getElem?_map,List.getElem?_range h]; rfl
theorem xc (l:List Bool) (i:Nat):dg ((l.drop (8 * i)).take 8) < 256:=by
 have h:=gv ((l.drop (8 * i)).take 8)
 have h2:2 ^ ((l.drop (8 * i)).take 8).length ≤ 2 ^ 8:=MV (by decide) (by rw [Mc]; omega)
 omega
theorem jp {a b:List Bool} (h:a.length % 8 = 0):pk (a ++ b) = pk a ++ pk b:=by
 apply List.ext_getElem?
 intro i
 rcases MF i ((a.length + 7) / 8) with q | q
 ·rw [List.getElem?_append_left (by rw [ac]; exact q),jo q,jo (by rw [L6]; omega)]
  unfold xa
  rw [N8 (by omega),NN (by rw [Ms]; omega)]
 ·rw [List.getElem?_append_right (by rw [ac]; exact q),ac]
  rcases MF (i - (a.length + 7) / 8) ((b.length + 7) / 8) with r | r
  ·rw [jo r,jo (by rw [L6]; omega)]
   unfold xa
   rw [show 8 * i = a.length + 8 * (i - (a.length + 7) / 8) from by omega,PW]
   have e:MI (a.length + 8 * (i - (a.length + 7) / 8)) a = []:=Nb (by omega)
   rw [e,OX,N6]
  ·rw [List.getElem?_eq_none (by rw [ac,L6]; omega),List.getElem?_eq_none (by rw [ac]; exact r)]
theorem iN {l:List Bool} {n:Nat} (h:8 * n ≤ l.length):pk (l.drop (8 * n)) = (pk l).drop n ∧ pk (l.take (8 * n)) = (pk l).take n:=by
 have e:=jp (a:=l.take (8 * n)) (b:=l.drop (8 * n)) (by rw [Mc]; omega)
 rw [NY] at e
 have hl:(pk (l.take (8 * n))).length = n:=by rw [ac,Mc]; omega
 constructor
 ·have q:=congrArg (MI n) e
  rw [N8 (by omega),show MI n (pk (ME (8 * n) l)) = [] from Nb (by omega),OX] at q
  exact q.symm
 ·have q:=congrArg (ME n) e
  rw [NN (by omega),show ME n (pk (ME (8 * n) l)) = pk (ME (8 * n) l) from Mz (by omega)] at q
  exact q.symm
theorem Ed {l:List Bool} (h0:0 < l.length) (h:l.length ≤ 8):pk l = [M1 (dg l)]:=by
 rw [xb,show (l.length + 7) / 8 = 1 from by omega]
 show [xa l 0] = _
 unfold xa
 rw [Nat.mul_zero,Ns,Mz h]
theorem G5 {l:List Bool} {b:Bool} (h:l.length % 8 ≠ 0):(pk l).length = l.length / 8 + 1 ∧ pk (l ++ [b]) = (pk l).set (l.length / 8) (M1 (((pk l).getD (l.length / 8) ji).toNat + 2 ^ (l.length % 8) * b.toNat)):=by
 refine ⟨by rw [ac]; omega,?_⟩
 have hd:=iN (l:=l) (n:=l.length / 8) (by omega)
 have e:l = l.take (8 * (l.length / 8)) ++ l.drop (8 * (l.length / 8)):=(NY _ _).symm
 generalize hA:l.take (8 * (l.length / 8)) = A at *
 generalize hB:l.drop (8 * (l.length / 8)) = B at *
 have lA:A.length = 8 * (l.length / 8):=by rw [← hA,Mc]; omega
 have lB:B.length = l.length % 8:=by rw [← hB,Ms]; omega
 have p1:pk l = pk A ++ pk B:=by
  conv=>lhs; rw [e]
  exact jp (by omega)
 have p2:pk (l ++ [b]) = pk A ++ pk (B ++ [b]):=by
  conv=>lhs; rw [e,Mu]
  exact jp (by omega)
 have l1:(pk A).length = l.length / 8:=by rw [ac]; omega
 have b1:=Ed (l:=B) (by omega) (by omega)
 have b2:=Ed (l:=B ++ [b]) (by rw [L6]; omega) (by rw [L6,MN]; omega)
 have hb:dg B < 256:=by
  have h3:=gv B
  have h4:2 ^ B.length ≤ 2 ^ 8:=MV (by decide) (by omega)
  omega
 rw [p1,p2,b1,b2,Pp _ _ (by omega),l1,Nf,List.getD_eq_getElem?_getD,List.getElem?_append_right (by omega),l1,Nf]
 show _ ++ _ = _ ++ [_]
 have hz:dg [b] = b.toNat:=by simp [dg]
 rw [nq,hz,lB]
 show _ = _ ++ [M1 ((M1 (dg B)).toNat + _)]
 rw [Oc, show dg B % 2 ^ 8 = dg B from M9 hb]
theorem Ee {l:List Bool} {b:Bool} (h:l.length % 8 = 0):(pk l).length = l.length / 8 ∧ pk (l ++ [b]) = pk l ++ [M1 b.toNat]:=by
 refine ⟨by rw [ac]; omega,?_⟩
 rw [jp h,Ed (l:=[b]) (by simp) (by simp)]
 simp [dg]
def nb (v n:Nat):List Bool:=lk [()] ((MQ n).map fun i=>v.testBit i)
theorem tS (v n:Nat):nb v n = (MQ n).map fun i=>v.testBit i:=aG _ _
theorem sj (v n:Nat):(nb v n).length = n:=by rw [tS,Mg,Nh]
theorem zG (v n:Nat):nb v (n + 1) = nb v n ++ [v.testBit n]:=by rw [tS,tS,Og,MO]; rfl
theorem Ke (v:Nat):nb v 0 = []:=tS v 0
theorem Ef {l:List Bool} {m:Nat} (hm:m = (pk l).length) (h:0 < ((l.length:Nat):Int) % 8):¬ 0 < ((((pk l).getD (((m:Int) - 1).toNat * 1) ji).toNat:Nat):Int).fdiv (2 ^ min (((l.length:Nat):Int) % 8).toNat 8):=by
 rw [ac] at hm
 rw [show (((m:Int) - 1).toNat * 1) = l.length / 8 from by omega,show min (((l.length:Nat):Int) % 8).toNat 8 = l.length % 8 from by omega,List.getD_eq_getElem?_getD,jo (by omega)]
 show ¬ 0 < (((xa l (l.length / 8)).toNat:Nat):Int).fdiv _
 have hb:=gv ((l.drop (8 * (l.length / 8))).take 8)
 rw [Mc,Ms,show min 8 (l.length - 8 * (l.length / 8)) = l.length % 8 from by omega] at hb
 have hc:=xc l (l.length / 8)
 unfold xa
 rw [Oc, M9 hc,show (2:Int) ^ (l.length % 8) = ((2 ^ (l.length % 8):Nat):Int) from by push_cast; rfl,NE _ (Od _),← Oo,O8 hb]
 decide
abbrev yH (m:Nat) (l:List Bool):D:=.agg [.sl false m 1 ((pk l).map dB),nD l.length]
theorem zH  : SpecH false Tryz.prog 56 [bB] [] bB []:=by
 refine SpecH.run T_ok ai Tryz.func56 rfl rfl rfl trivial rfl 1000 64 (fun R ok=>(.s 6 (.out [] [] (zS) [] R (ok _ _ wr wr)))) (by kernel_rfl)
theorem xd (bs:List UInt8) (hn:bs.length ≤ 10000000):SpecH false Tryz.prog 56 [.sl true bs.length 1 (bs.map dB)] [] (.ref 0 0 0 bs.length 1) [⟨bs.map dB, 5, true⟩]:=by
 refine SpecH.run T_ok ai Tryz.func56 rfl rfl rfl ⟨aT _,trivial⟩ rfl 1000 64 (fun R ok=>(.s 9 (.chk (true && L5 ((0 + length bs) * 1) 140737488355328) (by (refine L9 ?_; (omega))) (.s 1 (.out [40] [40] (D.ref 0 0 0 (0 + length bs) 1) [Blk.mk (map dB bs) 5 true] R (ok _ _ (by (simp; done)) wr)))))) (by kernel_rfl)
theorem bN (bs:List UInt8) (n:Nat) (h1:n = bs.length) (hn:n ≤ 10000000):SpecH false Tryz.prog 56 [.sl false n 1 (bs.map dB)] [] (.ref 0 0 0 n 1) [⟨bs.map dB, 5, true⟩]:=by
 subst h1; exact uW.nilSplit zH (xd bs hn) id
theorem ox (l:List Bool) (m:Nat) (hm:m = (pk l).length) (hl:l.length ≤ 8388608):SpecH false Tryz.prog 43 [yH m l] [] (iD 0) []:=by
 have h9:=ac l
 refine SpecH.run T_ok ai Tryz.func43 rfl rfl rfl trivial rfl 1000 64 (fun R ok=>(.s 26 (.f (decide (8388608 < (↑(length l):Int))) (by (refine decide_eq_false ?_; (omega))) (.s 19 (.ow ((↑(length l):Int) + 7) (.s 3 (.opt (bi Mk (Mj Mk (N4 ((↑(length l):Int) + 7) 8))) (zI (((↑(length l):Int) + 7) / 8)) (aA (@bh  ((↑(length l):Int) + 7) (8) om om)) (.s 4 (.f ((m:Int) != ((↑(length l):Int) + 7) / 8) (by (simp <;> (omega))) (.s 8 (.opt (bi Mk (Nz (↑(length l):Int) 8)) (zI ((↑(length l):Int) % 8)) (aA (@bR  ((↑(length l):Int)) (8) om)) (.s 6 (.br (decide (0 < (↑(length l):Int) % 8)) (fun p0=>have p0f:=ba p0; (.s 19 (.ow ((m:Int) - 1) (.s 2 (.chk (decide (0 ≤ (m:Int) - 1) && decide ((m:Int) - 1 < (m:Int)) && true) (by ((refine aI ?_ ?_) <;> (repeat' (first | (refine aI ?_ ?_) | (with_reducible rfl) | (refine decide_eq_true ?_) | (refine L9 ?_) | (refine er ?_))) <;> (omega))) (.s 3 (.opt ((map dB (pk l))[u7 ((m:Int) - 1) * 1]?) (dB (getD (pk l) (u7 ((m:Int) - 1) * 1) ji)) (au _ _ om) (.s 5 (.opt (bi Pj (MK (↑(L4 (getD (pk l) (u7 ((m:Int) - 1) * 1) ji)):Int) (2 ^ min (u7 ((↑(length l):Int) % 8)) 8))) (bI (MK (↑(L4 (getD (pk l) (u7 ((m:Int) - 1) * 1) ji)):Int) (2 ^ min (u7 ((↑(length l):Int) % 8)) 8))) (cW _ _) (.s 4 (.br (decide (0 < MK (↑(L4 (getD (pk l) (u7 ((m:Int) - 1) * 1) ji)):Int) (2 ^ min (u7 ((↑(length l):Int) % 8)) 8))) (fun p1=>have p1f:=ba p1; (.abs (by ( exact absurd bz (Ef hm om))))) (fun p1=>have p1f:=bb p1; (.s 1 (.out [] [] (zI 0) [] R (ok _ _ wr wr))))))))))))))) (fun p0=>have p0f:=bb p0; (.s 23 (.out [] [] (zI 0) [] R (ok _ _ wr wr))))))))))))))))) (by kernel_rfl)
theorem xe {v n:Nat} (hv:v < 2 ^ n) (hn:n ≤ 32):((v:Int) % 18446744073709551616).fdiv (2 ^ min n 64) = 0:=by
 have h2:2 ^ n ≤ 2 ^ 32:=MV (by decide) hn
 rw [show min n 64 = n from by omega,show (v:Int) % 18446744073709551616 = v from by omega,show (2:Int) ^ n = ((2 ^ n:Nat):Int) from by push_cast; rfl,NE _ (Od _),← Oo,O8 hv]; rfl
theorem xf {v n:Nat} (hv:v < 2 ^ n) (hn:n ≤ 32):((v:Int)).fdiv (2 ^ min n 64) = 0:=by
 have h:=xe hv hn
 have h2:2 ^ n ≤ 2 ^ 32:=MV (by decide) hn
 rwa [show (v:Int) % 18446744073709551616 = v from by omega] at h
theorem zJ (X:List UInt8) {d:D} {j:Nat} (h:j = X.length):(ND dB X ++ [d])[0 + j * 1]? = some d:=by
 rw [Mw,My,h,List.getElem?_append_right (by rw [Mg]; exact Mh _),Mg,Nf]; rfl
def bw (l:List Bool) (v i:Nat):List Bool:=lk l (l ++ nb v i)
theorem lF (l:List Bool) (v i:Nat):bw l v i = l ++ nb v i:=aG _ _
theorem Co (l:List Bool) (v:Nat):bw l v 0 = l:=by rw [lF,Ke,MU]
theorem bA (l:List Bool) (v i:Nat):(bw l v i).length = l.length + i:=by rw [lF,L6,sj]
theorem Cp (l:List Bool) (v i:Nat):bw l v i ++ [v.testBit i] = bw l v (i + 1):=by rw [lF,lF,zG,Mu]
theorem vz (l:List Bool) (v i:Nat):(pk (bw l v i)).length = (l.length + i + 7) / 8:=by rw [ac,bA]
theorem Cq {v i:Nat} (hi:i ≤ 32) (hv:v < 4294967296):IntKind.u32.wrap ((Mf 32 ((v:Int).fdiv (2 ^ min i 32)) &&& Mf 32 1).toNat:Int) % 256 = (((v.testBit i).toNat:Nat):Int):=by
 have hd:v / 2 ^ i ≤ v:=Pk _ _
 rw [show min i 32 = i from by omega,show (2:Int) ^ i = ((2 ^ i:Nat):Int) from by push_cast; rfl,NE _ (Od _),← Oo,PN]
 generalize v / 2 ^ i = Y at *
 rw [jL 1 2 (by omega) (by decide) (by decide) (by decide)]
 omega
theorem xg {M:List UInt8} {o a:Nat} (ha:a < 256) (ho:o < M.length):aj (M.map dB) o [D.v (.int .u8 (a:Int))] = (M.set o (M1 a)).map dB:=by
 apply List.ext_getElem?
 intro i
 rw [ck (by simp only [Mg,MN]; omega),List.getElem?_map,List.getElem?_map,List.getElem?_set]
 simp only [MN]
 by_cases hi:o = i
 ·subst hi
  rw [if_pos (by omega),if_pos rfl,if_pos ho,Nf]
  show some (D.v (.int .u8 (a:Int))) = some (dB (M1 a))
  unfold dB; rw [Oc]; congr 3; omega
 ·rw [if_neg (by omega),if_neg hi]
theorem G6 {x:List Bool} (h:x.length % 8 ≠ 0):((pk x).getD (x.length / 8) ji).toNat < 2 ^ (x.length % 8):=by
 rw [List.getD_eq_getElem?_getD,jo (by omega)]
 show (xa x (x.length / 8)).toNat < _
 have hb:=gv ((x.drop (8 * (x.length / 8))).take 8)
 rw [Mc,Ms,show min 8 (x.length - 8 * (x.length / 8)) = x.length % 8 from by omega] at hb
 unfold xa
 rw [Oc, M9 (xc x _)]
 exact hb
theorem G7 {x:List Bool} {b:Bool} {L z:Int} (hL:L = x.length) (h:¬ L % 8 = 0) (hz:z = ((b.toNat:Nat):Int)):aj ((pk x).map dB) (L / 8).toNat [D.v (.int .u8 (((((pk x).getD (L / 8).toNat ji).toNat ||| (2 ^ min (L % 8).toNat 8 * z % 256).toNat:Nat)):Int))] = (pk (x ++ [b])).map dB:=by
 subst hL hz
 have h0:x.length % 8 ≠ 0:=by omega
 have hu:=G5 (b:=b) h0
 have hl:=G6 h0
 have hb:b.toNat ≤ 1:=OT b
 rw [show (((x.length:Nat):Int) / 8).toNat = x.length / 8 from by omega,show min (((x.length:Nat):Int) % 8).toNat 8 = x.length % 8 from by omega]
 have hp:2 ^ (x.length % 8) ≤ 2 ^ 7:=MV (by decide) (by omega)
 have e:(2 ^ (x.length % 8) * ((b.toNat:Nat):Int) % 256).toNat = 2 ^ (x.length % 8) * b.toNat:=by
  rw [show (2:Int) ^ (x.length % 8) = ((2 ^ (x.length % 8):Nat):Int) from by push_cast; rfl]
  generalize 2 ^ (x.length % 8) = P at *
  cases b
  ·simp
  ·simp; omega
 rw [e,Nat.or_comm,← Ol hl,Nat.add_comm,hu.2]
 refine xg ?_ (by omega)
 have hm:2 ^ (x.length % 8) * b.toNat ≤ 2 ^ (x.length % 8) * 1:=Ot _ hb
 generalize 2 ^ (x.length % 8) * b.toNat = Q at *
 generalize 2 ^ (x.length % 8) = P at *
 omega
theorem G8 {x:List Bool} {b:Bool} {L z:Int} (hL:L = x.length) (h:L % 8 = 0) (hz:z = ((b.toNat:Nat):Int)):aj ((pk x).map dB ++ [D.v (.int .u8 0)]) (L / 8).toNat [D.v (.int .u8 (0 + 2 ^ min (L % 8).toNat 8 * z))] = (pk (x ++ [b])).map dB:=by
 subst hL hz
 have h0:x.length % 8 = 0:=by omega
 have hu:=Ee (b:=b) h0
 have hb:b.toNat ≤ 1:=OT b
 rw [show (((x.length:Nat):Int) / 8).toNat = x.length / 8 from by omega,show min (((x.length:Nat):Int) % 8).toNat 8 = 0 from by omega,hu.2,MO]
 have e:(pk x).map dB ++ [D.v (.int .u8 0)] = ((pk x) ++ [0]).map dB:=by rw [MO]; rfl
 rw [e,show (0:Int) + 2 ^ 0 * ((b.toNat:Nat):Int) = ((b.toNat:Nat):Int) from by simp,xg (by omega) (by rw [L6,MN]; omega),Pp _ _ (by omega),hu.1,Nf,MO]
 rfl
theorem Eg {k g:Nat} {t:TypeId} {X Y:Nat} {a b:Int} (h1:X = Y) (h2:a = b):(⟨[D.ref k g 0 X 1,D.v (.int .i64 a)],t,false⟩:Blk) = ⟨[D.ref k g 0 Y 1,D.v (.int .i64 b)],t,false⟩:=by rw [h1,h2]
theorem G9 (l:List Bool) (m:Nat) (hm:m = (pk l).length) (v n:Nat) (hn:n ≤ 32) (hv:v < 2 ^ n) (hl:l.length + n ≤ 8388608):SpecH false Tryz.prog 74 [yH m l,.v (.int .u32 (v:Int)),nD n] [] (.tup [.agg [.ref 0 0 0 (pk (bw l v n)).length 1,nD (l.length + n)],iD 0]) [⟨(pk (bw l v n)).map dB, 5, true⟩]:=by
 have h9:=ac l
 have h8:=xe hv hn
 have h4:=xf hv hn
 have h5:v < 4294967296:=MC hv (MV (n:=2) (by decide) hn)
 refine SpecH.run T_ok ai Tryz.func74 rfl rfl rfl ⟨aT _,trivial⟩ rfl 1000 64 (fun R ok=>(.s 10 (.cl 43 false [] (.fn I2 (@ox (l) (m) om om)) (.s 22 (.t (decide ((n:Int) ≤ 32)) (by (refine decide_eq_true ?_; (omega))) (.s 2 (.opt (aw .u64 (v:Int)) (D.v (MS .u64 (v:Int))) (bk om) (.s 5 (.opt (bi Nr (MK (v:Int) (2 ^ min n 64))) (D.v (MS .u64 (MK (v:Int) (2 ^ min n 64)))) (cW _ _) (.s 6 (.f (!MK (v:Int) (2 ^ min n 64) == 0) (by (simp <;> (omega))) (.s 9 (.ow ((↑(length l):Int) + (n:Int)) (.s 2 (.f (decide (8388608 < (↑(length l):Int) + (n:Int))) (by (refine decide_eq_false ?_; (omega))) (.s 17 (.cl 56 false [] (.fn qi (@bN (pk l) (m) om om)) (.s 12 (.blk 296 296 (Blk.mk [D.ref 336 336 0 m 1,zN (length l)] 163 false) (Blk.mk [D.ref 336 336 0 (length (pk (bw l v 0))) 1,zN (length l + 0)] 163 false) (by ( rw [Co,← hm]; rfl)) (.blk 336 336 (Blk.mk (map dB (pk l)) 5 true) (Blk.mk (map dB (pk (bw l v 0))) 5 true) (by ( rw [Co]; done)) (Hn.inl T_ok ai false 52 0 (ay Tryz.prog 74 0) (fun (x:(i:Nat) ×' (hi:i ≤ n) ×' Unit)=>match x with | ⟨i,hi,_⟩=>CutS.mk [(1,ah v),(6,D.ptr 0 0 0),(9,D.ptr 8 8 0),(38,zN n),(39,nD i)] [⟨0,0,8,8,.b ⟨[zS,zI 0],26,false⟩⟩,⟨8,8,296,296,.b ⟨[(D.ref 16 16 (0) ((pk (bw l v i)).length) 1),nD (l.length + i)],163,false⟩⟩,⟨16,16,336,336,.b ⟨(pk (bw l v i)).map dB,5,true⟩⟩] 24) (fun (x:(i:Nat) ×' (hi:i ≤ n) ×' Unit)=>match x with | ⟨i,hi,_⟩=>n - i) [⟨Unit,.exit 0,fun x=>match x with | ()=>CutS.mk [(1,ah v),(6,D.ptr 0 0 0),(9,D.ptr 8 8 0),(38,zN n)] [⟨0,0,8,8,.b ⟨[zS,zI 0],26,false⟩⟩,⟨8,8,296,296,.b ⟨[(D.ref 16 16 (0) ((pk (bw l v n)).length) 1),nD (l.length + n)],163,false⟩⟩,⟨16,16,336,336,.b ⟨(pk (bw l v n)).map dB,5,true⟩⟩] 24⟩] 1000 64 (fun | ⟨i,hi,_⟩,Q,next1,last1=>(.s 2 (.br (decide ((i:Int) < (n:Int))) (fun p0=>have p0f:=ba p0; (.s 7 (.opt (bi MH (MK (v:Int) (2 ^ min i 32))) (uI (MK (v:Int) (2 ^ min i 32))) (cW _ _) (.s 15 (.opt (bi Mk (Nz (↑(length l + i):Int) 8)) (zI ((↑(length l + i):Int) % 8)) (aA (@bR  ((↑(length l + i):Int)) (8) om)) (.s 2 (.br ((↑(length l + i):Int) % 8 == 0) (fun p1=>have p1f:=eq_of_beq p1; (.s 15 (.chk (true && L2 (length (pk (bw l v i)) * 1) (length (map dB (pk (bw l v i)))) && true && true && true && true && L5 ((length (pk (bw l v i)) + 1) * 1) 140737488355328) LD (.s 35 (.opt (bi Mk (Mj Mk (N4 (↑(length l + i):Int) 8))) (zI ((↑(length l + i):Int) / 8)) (aA (@bh  ((↑(length l + i):Int)) (8) om om)) (.s 1 (.chk (true && decide ((↑(length l + i):Int) / 8 < (↑(length (pk (bw l v i)) + 1):Int))) I5 (.s 2 (.opt ((map dB (pk (bw l v i)) ++ [bI 0])[0 + u7 ((↑(length l + i):Int) / 8) * 1]?) (bI 0) (@zJ (pk (bw l v i)) (bI 0) (u7 ((↑(length l + i):Int) / 8)) (by ( have h7:=vz l v i; have h6:=vz l v (i + 1); omega))) (.s 3 (.opt (bi MH (Mj MH (↑(MD (Mf 32 (MK (v:Int) (2 ^ min i 32)) &&& Mf 32 1)):Int))) (uI (Mj MH (↑(MD (Mf 32 (MK (v:Int) (2 ^ min i 32)) &&& Mf 32 1)):Int))) (cW _ _) (.s 1 (.opt (aw .u8 (Mj MH (↑(MD (Mf 32 (MK (v:Int) (2 ^ min i 32)) &&& Mf 32 1)):Int))) (bI (Mj MH (↑(MD (Mf 32 (MK (v:Int) (2 ^ min i 32)) &&& Mf 32 1)):Int) % 256)) (aD _ _) (.s 13 (.opt (bi Mk (Nz (↑(length l + i):Int) 8)) (zI ((↑(length l + i):Int) % 8)) (aA (@bR  ((↑(length l + i):Int)) (8) om)) (.s 2 (.opt (aw .u8 (2 ^ min (u7 ((↑(length l + i):Int) % 8)) 8 * (Mj MH (↑(MD (Mf 32 (MK (v:Int) (2 ^ min i 32)) &&& Mf 32 1)):Int) % 256))) (bI (2 ^ min (u7 ((↑(length l + i):Int) % 8)) 8 * (Mj MH (↑(MD (Mf 32 (MK (v:Int) (2 ^ min i 32)) &&& Mf 32 1)):Int) % 256))) (qd Kd) (.s 2 (.opt (bi Pj (Mj Pj (↑(MD (Mf 8 0 ||| Mf 8 (2 ^ min (u7 ((↑(length l + i):Int) % 8)) 8 * (Mj MH (↑(MD (Mf 32 (MK (v:Int) (2 ^ min i 32)) &&& Mf 32 1)):Int) % 256)))):Int))) (bI (0 + 2 ^ min (u7 ((↑(length l + i):Int) % 8)) 8 * (Mj MH (↑(MD (Mf 32 (MK (v:Int) (2 ^ min i 32)) &&& Mf 32 1)):Int) % 256))) (aA (@qg 8 (256:Int) (0) (2 ^ min (u7 ((↑(length l + i):Int) % 8)) 8 * (Mj MH (↑(MD (Mf 32 (MK (v:Int) (2 ^ min i 32)) &&& Mf 32 1)):Int) % 256)) om Kd om om Kd)) (.s 1 (.chk (true && decide ((↑(length l + i):Int) / 8 < (↑(length (pk (bw l v i)) + 1):Int))) I5 (.s 1 (.chk (true && L5 (0 + u7 ((↑(length l + i):Int) / 8) * 1 + 1) (length (map dB (pk (bw l v i)) ++ [bI 0]))) (by (simp;  have h7:=vz l v i; have h6:=vz l v (i + 1); omega)) (.lst (aj (map dB (pk (bw l v i)) ++ [bI 0]) (0 + u7 ((↑(length l + i):Int) / 8) * 1) [bI (0 + 2 ^ min (u7 ((↑(length l + i):Int) % 8)) 8 * (Mj MH (↑(MD (Mf 32 (MK (v:Int) (2 ^ min i 32)) &&& Mf 32 1)):Int) % 256))]) (aj (map dB (pk (bw l v i)) ++ [bI 0]) (u7 ((↑(length l + i):Int) / 8)) [bI (0 + 2 ^ min (u7 ((↑(length l + i):Int) % 8)) 8 * (Mj MH (↑(MD (Mf 32 (MK (v:Int) (2 ^ min i 32)) &&& Mf 32 1)):Int) % 256))]) (by (simp; done)) (.s 13 (.ow ((↑(length l + i):Int) + 1) (.s 12 (.ow ((i:Int) + 1) (.s 1 (.val 39 (zI ((i:Int) + 1)) (zN (i + 1)) (by (refine aO ?_; (omega))) (.blk 8 8 (Blk.mk [D.ref 200 200 0 (length (pk (bw l v i)) + 1) 1,zI ((↑(length l + i):Int) + 1)] 163 false) (Blk.mk [D.ref 200 200 0 (length (pk (bw l v (i + 1)))) 1,zN (length l + (i + 1))] 163 false) LF (.blk 200 200 (Blk.mk (aj (map dB (pk (bw l v i)) ++ [bI 0]) (u7 ((↑(length l + i):Int) / 8)) [bI (0 + 2 ^ min (u7 ((↑(length l + i):Int) % 8)) 8 * (Mj MH (↑(MD (Mf 32 (MK (v:Int) (2 ^ min i 32)) &&& Mf 32 1)):Int) % 256))]) 5 true) (Blk.mk (map dB (pk (bw l v (i + 1)))) 5 true) (by ( refine aC (Px (G8 (by rw [bA]) om (Cq om om)) ?_); rw [Cp])) (Hn.next next1 ⟨(i + 1),om,⟨⟩⟩ (by show n - (i + 1) < n - i; clear next1 last1; omega) [(0,0),(8,8),(200,200)] ro))))))))))))))))))))))))))))))))) (fun p1=>have p1f:=av p1; (.s 25 (.opt (bi Mk (Mj Mk (N4 (↑(length l + i):Int) 8))) (zI ((↑(length l + i):Int) / 8)) (aA (@bh  ((↑(length l + i):Int)) (8) om om)) (.s 1 (.chk (true && decide ((↑(length l + i):Int) / 8 < (↑(length (pk (bw l v i))):Int))) I5 (.s 2 (.opt ((map dB (pk (bw l v i)))[0 + u7 ((↑(length l + i):Int) / 8) * 1]?) (dB (getD (pk (bw l v i)) (0 + u7 ((↑(length l + i):Int) / 8) * 1) ji)) (au _ _ (by ( have h7:=vz l v i; have h6:=vz l v (i + 1); omega))) (.s 3 (.opt (bi MH (Mj MH (↑(MD (Mf 32 (MK (v:Int) (2 ^ min i 32)) &&& Mf 32 1)):Int))) (uI (Mj MH (↑(MD (Mf 32 (MK (v:Int) (2 ^ min i 32)) &&& Mf 32 1)):Int))) (cW _ _) (.s 1 (.opt (aw .u8 (Mj MH (↑(MD (Mf 32 (MK (v:Int) (2 ^ min i 32)) &&& Mf 32 1)):Int))) (bI (Mj MH (↑(MD (Mf 32 (MK (v:Int) (2 ^ min i 32)) &&& Mf 32 1)):Int) % 256)) (aD _ _) (.s 13 (.opt (bi Mk (Nz (↑(length l + i):Int) 8)) (zI ((↑(length l + i):Int) % 8)) (aA (@bR  ((↑(length l + i):Int)) (8) om)) (.s 2 (.opt (aw .u8 (2 ^ min (u7 ((↑(length l + i):Int) % 8)) 8 * (Mj MH (↑(MD (Mf 32 (MK (v:Int) (2 ^ min i 32)) &&& Mf 32 1)):Int) % 256))) (bI (2 ^ min (u7 ((↑(length l + i):Int) % 8)) 8 * (Mj MH (↑(MD (Mf 32 (MK (v:Int) (2 ^ min i 32)) &&& Mf 32 1)):Int) % 256) % 256)) (aD _ _) (.s 2 (.opt (bi Pj (Mj Pj (↑(MD (Mf 8 (↑(L4 (getD (pk (bw l v i)) (0 + u7 ((↑(length l + i):Int) / 8) * 1) ji)):Int) ||| Mf 8 (2 ^ min (u7 ((↑(length l + i):Int) % 8)) 8 * (Mj MH (↑(MD (Mf 32 (MK (v:Int) (2 ^ min i 32)) &&& Mf 32 1)):Int) % 256) % 256))):Int))) (dL (L4 (getD (pk (bw l v i)) (0 + u7 ((↑(length l + i):Int) / 8) * 1) ji) ||| u7 (2 ^ min (u7 ((↑(length l + i):Int) % 8)) 8 * (Mj MH (↑(MD (Mf 32 (MK (v:Int) (2 ^ min i 32)) &&& Mf 32 1)):Int) % 256) % 256))) (aA (@qf  ((↑(L4 (getD (pk (bw l v i)) (0 + u7 ((↑(length l + i):Int) / 8) * 1) ji)):Int)) (2 ^ min (u7 ((↑(length l + i):Int) % 8)) 8 * (Mj MH (↑(MD (Mf 32 (MK (v:Int) (2 ^ min i 32)) &&& Mf 32 1)):Int) % 256) % 256) (by (exact fU _ (by decide) (by decide))) om)) (.s 1 (.chk (true && decide ((↑(length l + i):Int) / 8 < (↑(length (pk (bw l v i))):Int))) I5 (.s 1 (.chk (true && L5 (0 + u7 ((↑(length l + i):Int) / 8) * 1 + 1) (length (map dB (pk (bw l v i))))) LD (.lst (aj (map dB (pk (bw l v i))) (0 + u7 ((↑(length l + i):Int) / 8) * 1) [dL (L4 (getD (pk (bw l v i)) (0 + u7 ((↑(length l + i):Int) / 8) * 1) ji) ||| u7 (2 ^ min (u7 ((↑(length l + i):Int) % 8)) 8 * (Mj MH (↑(MD (Mf 32 (MK (v:Int) (2 ^ min i 32)) &&& Mf 32 1)):Int) % 256) % 256))]) (aj (map dB (pk (bw l v i))) (u7 ((↑(length l + i):Int) / 8)) [dL (L4 (getD (pk (bw l v i)) (u7 ((↑(length l + i):Int) / 8)) ji) ||| u7 (2 ^ min (u7 ((↑(length l + i):Int) % 8)) 8 * (Mj MH (↑(MD (Mf 32 (MK (v:Int) (2 ^ min i 32)) &&& Mf 32 1)):Int) % 256) % 256))]) (by (simp; done)) (.s 13 (.ow ((↑(length l + i):Int) + 1) (.s 12 (.ow ((i:Int) + 1) (.s 1 (.val 39 (zI ((i:Int) + 1)) (zN (i + 1)) (by (refine aO ?_; (omega))) (.blk 8 8 (Blk.mk [D.ref 16 16 0 (length (pk (bw l v i))) 1,zI ((↑(length l + i):Int) + 1)] 163 false) (Blk.mk [D.ref 16 16 0 (length (pk (bw l v (i + 1)))) 1,zN (length l + (i + 1))] 163 false) LF (.blk 16 16 (Blk.mk (aj (map dB (pk (bw l v i))) (u7 ((↑(length l + i):Int) / 8)) [dL (L4 (getD (pk (bw l v i)) (u7 ((↑(length l + i):Int) / 8)) ji) ||| u7 (2 ^ min (u7 ((↑(length l + i):Int) % 8)) 8 * (Mj MH (↑(MD (Mf 32 (MK (v:Int) (2 ^ min i 32)) &&& Mf 32 1)):Int) % 256) % 256))]) 5 true) (Blk.mk (map dB (pk (bw l v (i + 1)))) 5 true) (by ( refine aC (Px (G7 (by rw [bA]) om (Cq om om)) ?_); rw [Cp])) (Hn.next next1 ⟨(i + 1),om,⟨⟩⟩ (by show n - (i + 1) < n - i; clear next1 last1; omega) [(0,0),(8,8),(16,16)] ro)))))))))))))))))))))))))))))))))))))) (fun p0=>have p0f:=bb p0; (.blk 8 8 (Blk.mk [D.ref 16 16 0 (length (pk (bw l v i))) 1,zN (length l + i)] 163 false) (Blk.mk [D.ref 16 16 0 (length (pk (bw l v n))) 1,zN (length l + n)] 163 false) (by (rw [show i = n from by (omega)])) (.blk 16 16 (Blk.mk (map dB (pk (bw l v i))) 5 true) (Blk.mk (map dB (pk (bw l v n))) 5 true) (by (rw [show i = n from by (omega)])) (Hn.last last1 0 (():Unit) rfl [(0,0),(8,8),(16,16)] ro))))))) (fun | ⟨i,hi,_⟩=>by kernel_rfl) ⟨(0),om,⟨⟩⟩ [(8,8),(296,296),(336,336)] ro (bZ (fun | ()=>(.s 16 (.out [16] [16] (D.tup [D.agg [D.ref 0 0 0 (length (pk (bw l v n))) 1,zN (length l + n)],zI 0]) [Blk.mk (map dB (pk (bw l v n))) 5 true] R (ok _ _ wr wr)))))))))))))))))))))))))) (by kernel_rfl)
end Vp
end Go.Proofs.YtefjnofhgkjpmaaGreat
namespace Go.Proofs.YtefjnofhgkjpmaaGreat
open Go.RowKit Go.Bw Go.Vx
open List (length getD map take drop flatMap replicate)
namespace Vp
def eM (v:Nat):Nat → Nat
 | 0=>0
 | i + 1=>2 * eM v i + (v.testBit i).toNat
def vA (v n i:Nat):Nat:=lk [()] (2 ^ (n - i) * eM v i)
theorem oy (v n i:Nat):vA v n i = 2 ^ (n - i) * eM v i:=aG _ _
theorem sk (v:Nat):∀ n,eM v n < 2 ^ n
 | 0=>N0
 | n + 1=>by
  have h:=sk v n
  have h2:=OT (v.testBit n)
  rw [eM,Nt]; omega
theorem xh {v n i:Nat} (h:i ≤ n):vA v n i < 2 ^ n:=by
 rw [oy]
 have h2:=sk v i
 have e:2 ^ n = 2 ^ (n - i) * 2 ^ i:=by rw [← Py]; congr 1; omega
 rw [e]
 exact Nat.mul_lt_mul_of_pos_left h2 (NH _)
theorem Ha (v n:Nat):vA v n n = eM v n:=by rw [oy,Nf,Nat.pow_zero,Nat.one_mul]
theorem Kf {v n i:Nat} {X z:Int} (hi:i < n) (hn:n ≤ 32) (hX:X = ((vA v n i:Nat):Int)) (hz:z = (((v.testBit i).toNat:Nat):Int)):IntKind.u32.wrap ((Mf 32 X ||| Mf 32 (2 ^ min ((n:Int) - 1 - (i:Int)).toNat 32 * z % 4294967296)).toNat:Int) = ((vA v n (i + 1):Nat):Int):=by
 subst hX hz
 have h1:=xh (v:=v) (n:=n) (i:=i) (by omega)
 have h2:=xh (v:=v) (n:=n) (i:=i + 1) (by omega)
 have h3:2 ^ n ≤ 2 ^ 32:=MV (by decide) hn
 have hb:=OT (v.testBit i)
 have e1:2 ^ (n - i) = 2 * 2 ^ (n - (i + 1)):=by rw [show n - i = (n - (i + 1)) + 1 from by omega,Nt,Nk]
 have e2:vA v n (i + 1) = 2 ^ (n - i) * eM v i + 2 ^ (n - (i + 1)) * (v.testBit i).toNat:=by
  rw [oy,eM,NS,e1,← Na,Nk (2 ^ (n - (i + 1))) 2]
 have e3:2 ^ (n - (i + 1)) * (v.testBit i).toNat < 2 ^ (n - i):=by
  have:2 ^ (n - (i + 1)) * (v.testBit i).toNat ≤ 2 ^ (n - (i + 1)) * 1:=Ot _ hb
  have h5:=NH (n - (i + 1))
  omega
 have h6:2 ^ (n - (i + 1)) * (v.testBit i).toNat ≤ 4294967295:=by rw [e2] at h2; omega
 rw [show min ((n:Int) - 1 - (i:Int)).toNat 32 = n - (i + 1) from by omega,show (2:Int) ^ (n - (i + 1)) * (((v.testBit i).toNat:Nat):Int) = ((2 ^ (n - (i + 1)) * (v.testBit i).toNat:Nat):Int) from by push_cast; rfl,show ((2 ^ (n - (i + 1)) * (v.testBit i).toNat:Nat):Int) % 4294967296 = ((2 ^ (n - (i + 1)) * (v.testBit i).toNat:Nat):Int) from by omega]
 rw [oy] at h1 ⊢
 rw [e2] at h2 ⊢
 have h4:2 ^ (n - i) * eM v i ≤ 4294967295 ∧ 2 ^ (n - (i + 1)) * (v.testBit i).toNat ≤ 4294967295:=by omega
 rw [vg (by omega) (by omega),Nq,Nq,← Ol e3]
theorem Eh {v i:Nat} (hi:i ≤ 32) (hv:v < 4294967296):IntKind.u32.wrap ((Mf 32 ((v:Int).fdiv (2 ^ min i 32)) &&& Mf 32 1).toNat:Int) = (((v.testBit i).toNat:Nat):Int):=by
 have hd:v / 2 ^ i ≤ v:=Pk _ _
 rw [show min i 32 = i from by omega,show (2:Int) ^ i = ((2 ^ i:Nat):Int) from by push_cast; rfl,NE _ (Od _),← Oo,PN]
 generalize v / 2 ^ i = Y at *
 rw [jL 1 2 (by omega) (by decide) (by decide) (by decide)]
 omega
theorem bE (v n:Nat) (hn:n ≤ 32) (hv:v < 2 ^ n):SpecH false Tryz.prog 152 [.v (.int .u32 (v:Int)),nD n] [] (.tup [.v (.int .u32 ((eM v n:Nat):Int)),iD 0]) []:=by
 have h8:=xe hv hn
 have h4:=xf hv hn
 have h5:v < 4294967296:=MC hv (MV (n:=2) (by decide) hn)
 refine SpecH.run T_ok ai Tryz.func152 rfl rfl rfl trivial rfl 1000 64 (fun R ok=>(.s 19 (.t (decide ((n:Int) ≤ 32)) (by (refine decide_eq_true ?_; (omega))) (.s 2 (.opt (aw .u64 (v:Int)) (D.v (MS .u64 (v:Int))) (bk om) (.s 5 (.opt (bi Nr (MK (v:Int) (2 ^ min n 64))) (D.v (MS .u64 (MK (v:Int) (2 ^ min n 64)))) (cW _ _) (.s 6 (.f (!MK (v:Int) (2 ^ min n 64) == 0) (by (simp <;> (omega))) (.s 2 (Hn.inl T_ok ai false 28 0 (ay Tryz.prog 152 0) (fun (x:(i:Nat) ×' (hi:i ≤ n) ×' Unit)=>match x with | ⟨i,hi,_⟩=>CutS.mk [(0,ah v),(1,zN n),(4,.v (.int .u32 ((vA v n i:Nat):Int))),(11,zN n),(12,nD i)] [] 0) (fun (x:(i:Nat) ×' (hi:i ≤ n) ×' Unit)=>match x with | ⟨i,hi,_⟩=>n - i) [⟨Unit,.exit 0,fun x=>match x with | ()=>CutS.mk [(0,ah v),(1,zN n),(4,.v (.int .u32 ((eM v n:Nat):Int))),(11,zN n)] [] 0⟩] 1000 64 (fun | ⟨i,hi,_⟩,Q,next1,last1=>(.s 2 (.br (decide ((i:Int) < (n:Int))) (fun p0=>have p0f:=ba p0; (.s 7 (.opt (bi MH (MK (v:Int) (2 ^ min i 32))) (uI (MK (v:Int) (2 ^ min i 32))) (cW _ _) (.s 2 (.opt (bi MH (Mj MH (↑(MD (Mf 32 (MK (v:Int) (2 ^ min i 32)) &&& Mf 32 1)):Int))) (uI (Mj MH (↑(MD (Mf 32 (MK (v:Int) (2 ^ min i 32)) &&& Mf 32 1)):Int))) (cW _ _) (.s 3 (.ow ((n:Int) - 1) (.s 3 (.ow ((n:Int) - 1 - (i:Int)) (.s 1 (.chk (decide (0 ≤ (n:Int) - 1 - (i:Int))) (by (refine decide_eq_true ?_; (omega))) (.opt (aw .u32 (2 ^ min (u7 ((n:Int) - 1 - (i:Int))) 32 * Mj MH (↑(MD (Mf 32 (MK (v:Int) (2 ^ min i 32)) &&& Mf 32 1)):Int))) (uI (2 ^ min (u7 ((n:Int) - 1 - (i:Int))) 32 * Mj MH (↑(MD (Mf 32 (MK (v:Int) (2 ^ min i 32)) &&& Mf 32 1)):Int) % 4294967296)) (aD _ _) (.s 2 (.opt (bi MH (Mj MH (↑(MD (Mf 32 (↑(vA v n i):Int) ||| Mf 32 (2 ^ min (u7 ((n:Int) - 1 - (i:Int))) 32 * Mj MH (↑(MD (Mf 32 (MK (v:Int) (2 ^ min i 32)) &&& Mf 32 1)):Int) % 4294967296))):Int))) (uI (Mj MH (↑(MD (Mf 32 (↑(vA v n i):Int) ||| Mf 32 (2 ^ min (u7 ((n:Int) - 1 - (i:Int))) 32 * Mj MH (↑(MD (Mf 32 (MK (v:Int) (2 ^ min i 32)) &&& Mf 32 1)):Int) % 4294967296))):Int))) (cW _ _) (.s 3 (.ow ((i:Int) + 1) (.s 1 (.val 4 (uI (Mj MH (↑(MD (Mf 32 (↑(vA v n i):Int) ||| Mf 32 (2 ^ min (u7 ((n:Int) - 1 - (i:Int))) 32 * Mj MH (↑(MD (Mf 32 (MK (v:Int) (2 ^ min i 32)) &&& Mf 32 1)):Int) % 4294967296))):Int))) (ah (vA v n (i + 1))) (by ( exact aO (Kf om hn rfl (Eh om om)))) (.val 12 (zI ((i:Int) + 1)) (zN (i + 1)) (by (refine aO ?_; (omega))) (Hn.next next1 ⟨(i + 1),om,⟨⟩⟩ (by show n - (i + 1) < n - i; clear next1 last1; omega) [] ro)))))))))))))))))))) (fun p0=>have p0f:=bb p0; (.val 4 (ah (vA v n i)) (ah (eM v n)) (by (rw [show i = n from by (omega),Ha])) (Hn.last last1 0 (():Unit) rfl [] ro)))))) (fun | ⟨i,hi,_⟩=>by kernel_rfl) ⟨(0),om,⟨⟩⟩ [] ro (bZ (fun | ()=>(.s 3 (.out [] [] (D.tup [ah (eM v n),zI 0]) [] R (ok _ _ wr wr)))))))))))))))) (by kernel_rfl)
end Vp
end Go.Proofs.YtefjnofhgkjpmaaGreat
namespace Go.Proofs.YtefjnofhgkjpmaaGreat
open Go.RowKit Go.Bw Go.Vx
namespace Vp
def cO (x:Nat):D:=.v (.int .u32 ((x:Nat):Int))
def dl (x:Nat):Nat → Nat
 | 0=>x
 | i + 1=>dl x i / 2
theorem qm (x:Nat):∀ i,dl x i = x / 2 ^ i
 | 0=>(Nat.div_one x).symm
 | i + 1=>by rw [dl,qm x i,Nat.div_div_eq_div_mul,Nt]
end Vp
end Go.Proofs.YtefjnofhgkjpmaaGreat
namespace Go.Proofs.YtefjnofhgkjpmaaGreat
open Go.RowKit Go.Bw Go.Vx
namespace Vp
theorem dU {v:Nat} (h:v ≤ 15):dl 32768 v = 2 ^ (15 - v):=by
 rw [qm,show (32768:Nat) = 2 ^ 15 from rfl,Nat.pow_div h (by decide)]
end Vp
end Go.Proofs.YtefjnofhgkjpmaaGreat
namespace Go.Proofs.YtefjnofhgkjpmaaGreat
open Go.RowKit Go.Bw Go.Vx
namespace Vp
def vk (l:List UInt8):Nat → Nat
 | 0=>0
 | n + 1=>vk l n + (if n = 0 then 0 else (eg l n l.length).length * dl 32768 n)
def LG (l:List UInt8) (n k:Nat):Nat:=lk l (vk l n + (if n = 0 then 0 else (eg l n k).length * dl 32768 n))
theorem Ei (l:List UInt8) (n k:Nat):LG l n k = vk l n + (if n = 0 then 0 else (eg l n k).length * dl 32768 n):=aG _ _
def qn (l:List UInt8) (j:Nat):Nat:=LG l (l.getD j ji).toNat j / dl 32768 (l.getD j ji).toNat
def Kg (l:List UInt8) (n k j:Nat):Nat × Nat :=
 if (l.getD j ji).toNat ≠ 0 ∧ ((l.getD j ji).toNat < n ∨ (l.getD j ji).toNat = n ∧ j < k) then (qn l j,(l.getD j ji).toNat) else (0,0)
def md (l:List UInt8) (n k:Nat):List (Nat × Nat):=lk l ((MQ l.length).map (Kg l n k))
theorem Cr (l:List UInt8) (n k:Nat):md l n k = (MQ l.length).map (Kg l n k):=aG _ _
def af (l:List UInt8):List (Nat × Nat):=lk l (md l 16 0)
theorem xi (l:List UInt8):af l = md l 16 0:=aG _ _
def jN (c:Nat × Nat):List D:=[cO c.1,f8 c.2]
theorem Ej (l:List UInt8) (n k:Nat):(md l n k).length = l.length:=by rw [Cr,Mg,Nh]
theorem kw (f:Nat × Nat → List D) (hf:∀ c,(f c).length = 2):∀ (xs:List (Nat × Nat)) (k:Nat),(xs.flatMap f)[2 * k]? = (xs[k]?).bind (fun c=>(f c)[0]?) ∧ (xs.flatMap f)[2 * k + 1]? = (xs[k]?).bind (fun c=>(f c)[1]?)
 | [],k=>by simp
 | c :: r,0=>by
  rw [M6]
  exact ⟨by rw [List.getElem?_append_left (by rw [hf]; omega)]; rfl,by rw [List.getElem?_append_left (by rw [hf]; omega)]; rfl⟩
 | c :: r,k + 1=>by
  have ih:=kw f hf r k
  rw [M6]
  refine ⟨?_,?_⟩
  ·rw [List.getElem?_append_right (by rw [hf]; omega),hf,show 2 * (k + 1) - 2 = 2 * k from by omega,ih.1]; rfl
  ·rw [List.getElem?_append_right (by rw [hf]; omega),hf,show 2 * (k + 1) + 1 - 2 = 2 * k + 1 from by omega,ih.2]; rfl
theorem zK {xs:List (Nat × Nat)} {k o:Nat} {c:Nat × Nat} (hk:k < xs.length) (ho:o = 2 * k):aj (xs.flatMap jN) o (jN c) = (xs.set k c).flatMap jN:=by
 have hl:∀ ys:List (Nat × Nat),(ys.flatMap jN).length = 2 * ys.length:=fun ys=>by rw [bl (k:=2) (fun _=>rfl)]; omega
 subst ho
 apply List.ext_getElem?
 intro i
 rw [ck (by rw [hl]; show 2 * k + 2 ≤ _; omega)]
 have hd:∃ j,i = 2 * j ∨ i = 2 * j + 1:=⟨i / 2,by omega⟩
 obtain ⟨j,hj⟩:=hd
 have g1:=kw jN (fun _=>rfl) xs j
 have g2:=kw jN (fun _=>rfl) (xs.set k c) j
 show (if 2 * k ≤ i ∧ i < 2 * k + 2 then (jN c)[i - 2 * k]? else (xs.flatMap jN)[i]?) = _
 by_cases e:k = j
 ·subst e
  rw [List.getElem?_set,if_pos rfl,if_pos hk] at g2
  rcases hj with rfl | rfl
  ·rw [if_pos (by omega),g2.1,Nf]; rfl
  ·rw [if_pos (by omega),g2.2,N6]; rfl
 ·rw [List.getElem?_set,if_neg e] at g2
  rw [if_neg (by omega)]
  rcases hj with rfl | rfl
  ·rw [g1.1,g2.1]
  ·rw [g1.2,g2.2]
theorem Ek (n:Nat):cv [D.v (.int .u32 0),D.v (.int .u8 0)] (n * 2) = (Ml n ((0,0):Nat × Nat)).flatMap jN:=by
 apply List.ext_getElem?
 intro i
 unfold cv
 rw [List.getElem?_map]
 obtain ⟨j,hj⟩:∃ j,i = 2 * j ∨ i = 2 * j + 1:=⟨i / 2,by omega⟩
 have g:=kw jN (fun _=>rfl) (Ml n ((0,0):Nat × Nat)) j
 rw [List.getElem?_replicate] at g
 by_cases h:j < n
 ·rw [if_pos h] at g
  rcases hj with rfl | rfl
  ·rw [List.getElem?_range (by omega),g.1]
   show some (Qi _ (2 * j % 2) ji) = _
   rw [show 2 * j % 2 = 0 from by omega]; rfl
  ·rw [List.getElem?_range (by omega),g.2]
   show some (Qi _ ((2 * j + 1) % 2) ji) = _
   rw [show (2 * j + 1) % 2 = 1 from by omega]; rfl
 ·rw [if_neg h] at g
  rcases hj with rfl | rfl
  ·rw [List.getElem?_eq_none (by rw [Nh]; omega),g.1]; rfl
  ·rw [List.getElem?_eq_none (by rw [Nh]; omega),g.2]; rfl
theorem qo {a:Nat} (h:a ≤ 15):1 ≤ dl 32768 a:=by rw [dU h]; exact NH _
end Vp
end Go.Proofs.YtefjnofhgkjpmaaGreat
namespace Go.Proofs.YtefjnofhgkjpmaaGreat
open Go.RowKit Go.Bw Go.Vx
open List (length getD map take drop flatMap replicate)
namespace Vp
theorem El {p:Prop} (h:p:=by ((refine aI ?_ ?_) <;> (repeat' (first | (refine aI ?_ ?_) | (with_reducible rfl) | (refine decide_eq_true ?_) | (refine Nat.ble_eq_true_of_le ?_) | (refine er ?_))) <;> (omega))):p:=h
theorem Hb (l:List UInt8):aL l 0 = 0:=by rw [lx]; rfl
theorem oz {l:List UInt8} {m:Nat} (hm:m ≤ 15) (h:cG l m = 0):cG l 15 = 0 ∧ dk l 15 = false:=by
 have h0:=eV h
 have e3:dk l 15 = false:=kv fun i z=>by have:=eK h0.2.1 z; omega
 refine ⟨?_,e3⟩
 rw [iL] at *
 unfold se at *
 rw [e3,if_neg (by omega),if_neg (by decide)]
 rw [if_neg (by omega),if_neg (by rw [h0.2.1]; decide)] at h
 exact h
theorem sn (l:List UInt8) (q p:Nat) (hq:q = (cT l).length) (hp:p = (cT l).length) (hQ:q ≤ 320):SpecH false Tryz.prog 195 [Cj q l,Cj p l] [] (bD true) []:=by
 refine SpecH.run T_ok ai Tryz.func195 rfl rfl rfl trivial rfl 1000 64 (fun R ok=>(.s 23 (.t ((↑(aL l 0):Int) == (↑(aL l 0):Int) && ((↑(aL l 1):Int) == (↑(aL l 1):Int) && ((↑(aL l 2):Int) == (↑(aL l 2):Int) && ((↑(aL l 3):Int) == (↑(aL l 3):Int) && ((↑(aL l 4):Int) == (↑(aL l 4):Int) && ((↑(aL l 5):Int) == (↑(aL l 5):Int) && ((↑(aL l 6):Int) == (↑(aL l 6):Int) && ((↑(aL l 7):Int) == (↑(aL l 7):Int) && ((↑(aL l 8):Int) == (↑(aL l 8):Int) && ((↑(aL l 9):Int) == (↑(aL l 9):Int) && ((↑(aL l 10):Int) == (↑(aL l 10):Int) && ((↑(aL l 11):Int) == (↑(aL l 11):Int) && ((↑(aL l 12):Int) == (↑(aL l 12):Int) && ((↑(aL l 13):Int) == (↑(aL l 13):Int) && ((↑(aL l 14):Int) == (↑(aL l 14):Int) && ((↑(aL l 15):Int) == (↑(aL l 15):Int) && true)))))))))))))))) El (.s 24 (.f ((q:Int) != (p:Int)) (by (simp <;> (omega))) (.s 3 (Hn.inl T_ok ai false 26 112 (ay Tryz.prog 199 0) (fun (x:(i:Nat) ×' (hi:i ≤ q) ×' Unit)=>match x with | ⟨i,hi,_⟩=>CutS.mk [(0,D.sl false q 1 (map nD (cT l))),(1,D.sl false p 1 (map nD (cT l))),(12,zN q),(13,nD i)] [⟨0,0,0,0,.b ⟨[zN (aL l 0),zN (aL l 1),zN (aL l 2),zN (aL l 3),zN (aL l 4),zN (aL l 5),zN (aL l 6),zN (aL l 7),zN (aL l 8),zN (aL l 9),zN (aL l 10),zN (aL l 11),zN (aL l 12),zN (aL l 13),zN (aL l 14),zN (aL l 15),D.sl false q 1 (map nD (cT l))],154,false⟩⟩,⟨8,8,8,8,.b ⟨[zN (aL l 0),zN (aL l 1),zN (aL l 2),zN (aL l 3),zN (aL l 4),zN (aL l 5),zN (aL l 6),zN (aL l 7),zN (aL l 8),zN (aL l 9),zN (aL l 10),zN (aL l 11),zN (aL l 12),zN (aL l 13),zN (aL l 14),zN (aL l 15),D.sl false p 1 (map nD (cT l))],154,false⟩⟩] 128) (fun (x:(i:Nat) ×' (hi:i ≤ q) ×' Unit)=>match x with | ⟨i,hi,_⟩=>q - i) [⟨Unit,.exit 0,fun x=>match x with | ()=>CutS.mk [(0,D.sl false q 1 (map nD (cT l))),(1,D.sl false p 1 (map nD (cT l))),(12,zN q)] [⟨0,0,0,0,.b ⟨[zN (aL l 0),zN (aL l 1),zN (aL l 2),zN (aL l 3),zN (aL l 4),zN (aL l 5),zN (aL l 6),zN (aL l 7),zN (aL l 8),zN (aL l 9),zN (aL l 10),zN (aL l 11),zN (aL l 12),zN (aL l 13),zN (aL l 14),zN (aL l 15),D.sl false q 1 (map nD (cT l))],154,false⟩⟩,⟨8,8,8,8,.b ⟨[zN (aL l 0),zN (aL l 1),zN (aL l 2),zN (aL l 3),zN (aL l 4),zN (aL l 5),zN (aL l 6),zN (aL l 7),zN (aL l 8),zN (aL l 9),zN (aL l 10),zN (aL l 11),zN (aL l 12),zN (aL l 13),zN (aL l 14),zN (aL l 15),D.sl false p 1 (map nD (cT l))],154,false⟩⟩] 128⟩] 1000 64 (fun | ⟨i,hi,_⟩,Q,next1,last1=>(.s 2 (.br (decide ((i:Int) < (q:Int))) (fun p0=>have p0f:=ba p0; (.s 6 (.chk (true && decide ((i:Int) < (q:Int)) && true) El (.s 2 (.opt ((map nD (cT l))[i * 1]?) (nD (getD (cT l) (i * 1) ji)) (au _ _ om) (.s 3 (.chk (true && decide ((i:Int) < (p:Int)) && true) El (.s 2 (.opt ((map nD (cT l))[i * 1]?) (nD (getD (cT l) (i * 1) ji)) (au _ _ om) (.s 2 (.f ((↑(getD (cT l) (i * 1) ji):Int) != (↑(getD (cT l) (i * 1) ji):Int)) (by (simp; done)) (.s 2 (.ow ((i:Int) + 1) (.s 1 (.val 13 (zI ((i:Int) + 1)) (zN (i + 1)) (by (refine aO ?_; (omega))) (Hn.next next1 ⟨(i + 1),om,⟨⟩⟩ (by show q - (i + 1) < q - i; clear next1 last1; omega) [(0,0),(8,8)] ro)))))))))))))))) (fun p0=>have p0f:=bb p0; (Hn.last last1 0 (():Unit) rfl [(0,0),(8,8)] ro))))) (fun | ⟨i,hi,_⟩=>by kernel_rfl) ⟨(0),om,⟨⟩⟩ [(0,0),(8,8)] ro (bZ (fun | ()=>(.s 3 (.out [] [] (D.v (.bool true)) [] R (ok _ _ wr wr)))))))))))) (by kernel_rfl)
def LH (b l:List UInt8):Nat → Nat → Nat → Nat → Nat × Nat × Nat
 | 0,_,_,_=>(0,0,50)
 | k + 1,a,d,p=>if (qj l a).length + aL l a = (cT l).length then (0,0,50) else if LX b p 1 ≠ 0 then (0,0,10) else
  if 2 * (d - aL l a) + JY b p 1 < aL l (a + 1) then ((cT l).getD ((qj l a).length + aL l a + (2 * (d - aL l a) + JY b p 1)) ji,p + 1,0)
  else LH b l k (a + 1) (2 * (d - aL l a) + JY b p 1) (p + 1)
end Vp
end Go.Proofs.YtefjnofhgkjpmaaGreat
namespace Go.Proofs.YtefjnofhgkjpmaaGreat
open Go.RowKit Go.Bw Go.Vx
namespace Vp
theorem lG (l:List UInt8) (n:Nat):∀ (k j:Nat),∃ r,eg l n (k + j) = eg l n k ++ r
 | k,0=>⟨[],by simp⟩
 | k,j + 1=>by
  obtain ⟨r,hr⟩:=lG l n k j
  exact ⟨r ++ (if (l.getD (k + j) ji).toNat = n then [k + j] else []),by rw [← Nd,gT,hr,Mu]⟩
def jU (l:List UInt8):Nat → Nat
 | 0=>0
 | a + 1=>2 * (jU l a + aL l a)
theorem zL {l:List UInt8} {a:Nat} (h:a ≠ 0):(eg l a l.length).length = aL l a:=by rw [lx]; unfold w4; rw [if_neg h]
theorem qp {a:Nat} (h:a < 15):dl 32768 a = 2 * dl 32768 (a + 1):=by
 rw [dU (by omega),dU (by omega),show 15 - a = (15 - (a + 1)) + 1 from by omega,Nt,Nk]
theorem so (l:List UInt8):∀ a,a ≤ 15 → vk l (a + 1) = (jU l a + aL l a) * dl 32768 a
 | 0,_=>by rw [vk,if_pos rfl,Hb]; show 0 + 0 = (0 + 0) * _; omega
 | a + 1,h=>by
  have ih:=so l a (by omega)
  rw [vk,if_neg (NW a),ih,zL (NW a),jU,qp (by omega)]
  generalize dl 32768 (a + 1) = P
  generalize jU l a + aL l a = X
  rw [MY (2 * X),Na 2 X P,Nat.mul_left_comm X 2 P]
theorem Em {l:List UInt8} {a:Nat} (h0:a ≠ 0) (h:a ≤ 15):vk l a = jU l a * dl 32768 a:=by
 obtain ⟨b,rfl⟩:∃ b,a = b + 1:=⟨a - 1,by omega⟩
 rw [so l b (by omega),jU,qp (by omega)]
 rw [Nk 2 (jU l b + aL l b),Na]
theorem qq (l:List UInt8) (a:Nat):∀ k,vk l a ≤ vk l (a + k)
 | 0=>Mh _
 | k + 1=>L8 (qq l a k) (by rw [← Nd,vk]; exact OL _ _)
theorem Cs {l:List UInt8} {i a:Nat} (h:(l.getD i ji).toNat = a) (h0:a ≠ 0) (h1:a ≤ 15):qn l i = jU l a + (eg l a i).length:=by
 unfold qn
 rw [h,Ei,if_neg h0,Em h0 h1,← MY,Nat.mul_div_cancel _ (qo h1)]
def vB (l:List UInt8) (k:Nat):Nat → Nat
 | 0=>0
 | a + 1=>vB l k a + (if a = 0 then 0 else (eg l a k).length * dl 32768 a)
theorem xj (l:List UInt8):∀ a,vB l l.length a = vk l a
 | 0=>rfl
 | a + 1=>by rw [vB,vk,xj l a]
theorem qr (l:List UInt8):∀ a,vB l 0 a = 0
 | 0=>rfl
 | a + 1=>by
  have:eg l a 0 = []:=rfl
  rw [vB,qr l a,this,NG,Nj]; split <;> rfl
theorem qt (l:List UInt8) (k:Nat):∀ a,vB l (k + 1) a = vB l k a + (if (l.getD k ji).toNat ≠ 0 ∧ (l.getD k ji).toNat < a then dl 32768 (l.getD k ji).toNat else 0)
 | 0=>by rw [vB,vB,if_neg (fun q=>Nc _ q.2)]
 | a + 1=>by
  rw [vB,vB,qt l k a,gT]
  generalize (l.getD k ji).toNat = x
  by_cases h0:a = 0
  ·rw [if_pos h0,if_pos h0,if_neg (fun q=>by omega),if_neg (fun q=>by omega)]
  ·rw [if_neg h0,if_neg h0]
   by_cases h:x = a
   ·subst h
    rw [if_pos rfl,if_neg (fun q=>by omega),if_pos ⟨h0,by omega⟩,L6,MN,Nat.succ_mul]; omega
   ·rw [if_neg h,MU]
    by_cases h2:x ≠ 0 ∧ x < a
    ·rw [if_pos h2,if_pos (by omega)]; omega
    ·rw [if_neg h2,if_neg (by omega)]; omega
theorem Hc (l:List UInt8) (ho:dk l 15 = false):vk l 16 = aU l:=by
 have key:∀ k,k ≤ l.length → vB l k 16 = aU (l.take k):=by
  intro k
  induction k with
  | zero=>intro _; exact qr l 16
  | succ k ih =>
   intro hk
   have hx:=eK ho (i:=k) (by omega)
   rw [qt,ih (by omega),fV (by omega)]
   by_cases q:(l.getD k ji).toNat = 0
   ·rw [if_neg (fun z=>z.1 q),if_pos q]
   ·rw [if_pos ⟨q,by omega⟩,if_neg q,dU hx]
 have h:=key l.length (Mh _)
 rw [M8,xj] at h; exact h
def LY (b l:List UInt8) (n d c:Nat):Nat × Nat × Nat:=lk b (if d < aL l n then ((cT l).getD ((qj l n).length + d) ji,c,0) else LH b l (16 - n) n d c)
section
variable {b l:List UInt8} {n d c v:Nat} {R:Nat × Nat × Nat}
end

section
variable {b l:List UInt8} {n a d c v:Nat} {R:Nat × Nat × Nat} (hT:cG l 15 = 0) (hn:n = l.length) (ha:a ≤ 15) (hv:v = jU l a + d) (hb:v < 2 ^ a) (hno:∀ j,j < n → ¬ ((l.getD j ji).toNat = a ∧ qn l j = v ∧ 0 < a)) (hR:LY b l a d c = R)
include hT hn ha hv hb hno hR
end
end Vp
end Go.Proofs.YtefjnofhgkjpmaaGreat

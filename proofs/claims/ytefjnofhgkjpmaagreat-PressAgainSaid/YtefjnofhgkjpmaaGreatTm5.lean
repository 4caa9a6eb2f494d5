/- Part 5. -/
import Derived.Test.YtefjnofhgkjpmaaGreatTm4
import Derived.Test.YtefjnofhgkjpmaaGreatRows
set_option linter.unusedVariables false
set_option linter.unusedSimpArgs false
set_option maxRecDepth 100000
set_option maxHeartbeats 4000000
open And renaming intro → Mb
open Array renaming replicate → OP
open BitVec renaming ofInt → L9, toNat → My
open Bool renaming and_eq_true → LY, and_true → Mp, toNat_le → OM
open ByteArray renaming mk → Nb
open Eq renaming trans → Pq
open Go.Fn renaming func → MB
open Go.IntKind renaming i64 → Mi, u32 → MC, u64 → Nn, u8 → OV, wrap → Mf
open Go.Value renaming int → MO
open Inhabited renaming default → jk
open Int renaming eq_ofNat_of_zero_le → ML, fdiv → ME, fdiv_eq_ediv_of_nonneg → Nf, natCast_ediv → Oj, natCast_nonneg → NU, tdiv → NS, tmod → Np, toNat → uV, toNat_natCast → Nl
open List renaming any_eq_true → O6, append_assoc → Mo, append_nil → MN, cons_append → NQ, drop → MA, drop_append → PQ, drop_append_of_le_length → N5, drop_eq_getElem_cons → Ni, drop_eq_nil_of_le → M6, drop_zero → Nd, filter_append → M2, filter_nil → P2, flatMap_append → NA, flatMap_cons → M1, getD → Qb, getElem_mem → MG, length_append → LZ, length_cons → Mr, length_drop → Mn, length_filter_le → OC, length_map → Ma, length_nil → NI, length_range → M4, length_singleton → MI, length_take → L5, map → Nz, map_append → MJ, map_take → OL, mem_of_mem_drop → N1, mem_of_mem_take → MV, nil_append → OQ, range → MH, range_succ → N8, replicate → Md, set_append_right → Pi, take → Mz, take_append → PP, take_append_drop → NW, take_append_of_le_length → NF, take_length → M3, take_of_length_le → Mt, take_succ_cons → Pv
open Nat renaming add_assoc → M8, add_mul → MT, add_sub_cancel_left → N3, add_zero → N0, beq → LV, beq_refl → M0, ble → LX, ble_eq_true_of_le → L2, div_eq_of_lt → O2, div_le_self → P3, eq_of_beq_eq_true → L4, le_add_right → O4, le_refl → Mc, le_trans → L0, lt_of_lt_of_le → Mx, lt_or_ge → Mv, mod_eq_of_lt → MY, mod_lt → PA, mod_one → PS, mul_add → NN, mul_assoc → M5, mul_comm → Nr, mul_le_mul_left → Ok, mul_one → Ms, not_lt_zero → M7, pow_add → Pr, pow_le_pow_right → MQ, pow_succ → Ng, sub_self → M9, succ_le_succ → NP, succ_ne_zero → NR, toNat_testBit → PH, two_pow_add_eq_or_of_lt → Oe, two_pow_pos → Nq, zero_add → Mq, zero_le → MK, zero_lt_one → NY, zero_mul → Nh
open UInt8 renaming ofNat → MW, toNat → LW, toNat_ofNat' → NT
namespace Go.Vx
open Go.RowKit Go.Bw
theorem aC {A B:List D} {e:TypeId} {r:Bool} (h:A = B):Blk.mk A e r = Blk.mk B e r:=by rw [h]
theorem D.sim.slN {nn:Bool} {n n' sz:Nat} {cells cells' : List D} (h1:n = n') (h2:cells = cells'):(D.sl nn n sz cells).sim (.sl nn n' sz cells'):=by rw [h1,h2]; exact D.sim.refl _
theorem D.sim.tup {l l' : List D} (h:bY l l'):(D.tup l).sim (.tup l'):=fun E w u hr=>by
 obtain ⟨h1,h2⟩:=h.get
 cases hr with
 | tup _ us hlen hd =>
  refine .tup _ us (by rw [hlen,h1]) fun i d u a b=>?_
  obtain ⟨d0,c1,c2⟩:=h2 i d a
  exact c2 _ _ _ (hd i d0 u c1 b)
theorem D.sim.ifc {t:TypeId} {x x' : D} (h:x.sim x'):(D.ifc t x).sim (.ifc t x'):=fun E w u hr=>by
 cases hr with
 | ifc _ _ u hx=>exact .ifc _ _ u (h _ _ _ hx)
theorem bg {α:Type} {c:Bool} {a b:α} (h:c = true):cond c a b = a:=by rw [h]; rfl
theorem eh (k:IntKind) (m n:Int):fC k true m n = some (.v (.int k (max m n))):=zt rfl
theorem cY {b:Bool} (h:(!b) = true):b = false:=by cases b <;> simp_all
theorem cZ {b:Bool} (h:(!b) = false):b = true:=by cases b <;> simp_all
theorem DX {a b:Bool} (h:(a && b) = true):a = true:=by cases a <;> simp_all
theorem DY {a b:Bool} (h:(a && b) = true):b = true:=by cases a <;> simp_all
theorem aH {a b:Bool} (h1:a = true) (h2:b = true):(a && b) = true:=by rw [h1,h2]; rfl
theorem eu {a b:Nat} (h:a = b):LV a b = true:=by rw [h]; exact M0 b
theorem fV (b:UInt8) {m n:Int} (hm:m ≤ 0) (hn:255 ≤ n):m ≤ (b.toNat:Int) ∧ (b.toNat:Int) ≤ n:=by
 have:=b.toNat_lt
 constructor <;> omega
theorem aO {k:IntKind} {a b:Int} (h:a = b):D.v (.int k a) = D.v (.int k b):=by rw [h]
theorem lv {α:Type} [Inhabited α] {l:List α} {i:Nat} (h:i < l.length):l.take (i + 1) = l.take i ++ [l.getD i jk]:=by
 rw [List.take_add_one,List.getElem?_eq_getElem h]; simp [h]
theorem tA {l:List D} (h:ab l = true) (n:Nat):ab (l.take n) = true:=bh.2 fun d hd=>bh.1 h d (MV hd)
theorem tB {l:List D} (h:ab l = true) (n:Nat):ab (l.drop n) = true:=bh.2 fun d hd=>bh.1 h d (N1 hd)
theorem Gf (bs:List UInt8) (n:Nat):ab ((bs.map dB).take n) = true:=tA (aS bs) n
theorem Gg (bs:List UInt8) (n:Nat):ab ((bs.map dB).drop n) = true:=tB (aS bs) n
theorem zu (c:Bool) (a b:List D):ab (cond c a b) = cond c (ab a) (ab b):=by cases c <;> rfl
theorem wM (a b:List D):ab (a ++ b) = (ab a && ab b):=by
 induction a with
 | nil=>rfl
 | cons x a ih=>show (x.closed && ab (a ++ b)) = _; rw [ih,← Bool.and_assoc]; rfl
theorem qb {α:Type} [BEq α] [LawfulBEq α] {a b:α} (h:(a != b) = true):a ≠ b:=by simpa using h
theorem qc {α:Type} [BEq α] [LawfulBEq α] {a b:α} (h:(a != b) = false):a = b:=by simpa using h
theorem au {α:Type} [BEq α] [LawfulBEq α] {a b:α} (h:(a == b) = false):a ≠ b:=by simpa using h
theorem fu (l:List UInt8):(Nb l.toArray).toList = l:=by rw [ByteArray.toList_eq]
theorem u6 (a b:List UInt8):Nb a.toArray ++ Nb b.toArray = Nb (a ++ b).toArray:=by
 apply ByteArray.ext
 simp
theorem zv (a:List UInt8):(Nb a.toArray).size = a.length:=rfl
theorem rV {α:Type} [Inhabited α] {f:α → List D} {k:Nat} (hk:∀ x,(f x).length = k):∀ {xs:List α} {i j:Nat},i < xs.length → j < k → (xs.flatMap f)[i * k + j]? = (f (xs.getD i jk))[j]?
 | [],i,j,h,_=>by simp at h
 | x :: xs,0,j,h,hj=>by
  rw [M1,Nh,Mq,List.getElem?_append_left (by rw [hk]; exact hj)]; rfl
 | x :: xs,i + 1,j,h,hj=>by
  rw [M1,List.getElem?_append_right (by rw [hk,MT]; omega),hk]
  have e:(i + 1) * k + j - k = i * k + j:=by rw [MT]; omega
  rw [e,rV hk (by simpa using h) hj]; rfl
theorem A9 {α:Type} [Inhabited α] {f:α → List D} {k:Nat} (hk:∀ x,(f x).length = k) {xs:List α} {i n j:Nat} {d:D} (h:i < xs.length) (e:n = i * k + j) (hj:(f (xs.getD i jk))[j]? = some d):(xs.flatMap f)[n]? = some d:=by
 have hlt:j < k:=by rw [← hk (xs.getD i jk)]; exact (List.getElem?_eq_some_iff.1 hj).1
 rw [e,rV hk h hlt]; exact hj
theorem bn {α:Type} {f:α → List D} {k:Nat} (hk:∀ x,(f x).length = k):∀ (xs:List α),(xs.flatMap f).length = xs.length * k
 | []=>by simp
 | x :: xs=>by rw [M1,LZ,hk,bn hk xs,Mr,MT]; omega
theorem aD {α:Type} [Inhabited α] {f:α → List D} {k:Nat} (hk:∀ x,(f x).length = k) {xs:List α} {i n:Nat} (h:i < xs.length) (e:n = i * k):((xs.flatMap f).drop n).take k = f (xs.getD i jk):=by
 apply List.ext_getElem?
 intro j
 rw [List.getElem?_take]
 by_cases hj:j < k
 ·rw [if_pos hj,List.getElem?_drop,e,rV hk h hj]
 ·rw [if_neg hj,List.getElem?_eq_none (by rw [hk]; omega)]
theorem aZ (bs:List UInt8) (off m:Nat):(bif LV off 0 && LV m (bs.map dB).length then bs.map dB else ((bs.map dB).drop off).take m) = ((bs.drop off).take m).map dB:=by
 cases h:LV off 0 && LV m (bs.map dB).length with
 | true =>
  have h1:=L4 (DX h)
  have h2:=L4 (DY h)
  subst h1 h2
  simp
 | false=>rw [cond_false,OL,List.map_drop]
theorem D.sim.nil {sz:Nat} (h:0 < sz):(D.v (.slice none 0 0)).sim (.sl false 0 sz []):=fun E w u hr=>by
 cases hr with
 | v=>exact .sl false 0 sz [] none 0 [] rfl (by simp) (by simp) (by simp) h ⟨Mc _,MK _⟩ (fun _=>⟨rfl,rfl⟩) (.inl rfl)
theorem D.sim.slc {nn:Bool} {n n' sz:Nat} {cells cells' : List D} (h1:n = n') (h2:bY cells cells'):(D.sl nn n sz cells).sim (.sl false n' sz cells'):=by
 subst h1
 intro E w u h
 obtain ⟨e,g⟩:=h2.get
 cases h with
 | sl _ _ _ _ a c us hlen hd h1 hn hs hc h0 hr =>
  refine .sl false n sz cells' a c us (by rw [hlen,e]) (fun i d' u a1 a2=>?_) h1 (by rw [← e,hn]) hs hc (fun h=>⟨(h0 h).1,rfl⟩) hr
  obtain ⟨d,b1,b2⟩:=g i d' a1
  exact b2 _ _ _ (hd i d u b1 a2)
theorem da {α:Type} {f:α → List D} (h:∀ x,ab (f x) = true):∀ l:List α,ab (l.flatMap f) = true
 | []=>rfl
 | x :: l=>by rw [M1,wM,h x,da h l]; rfl
theorem ej {α:Type} {f:α → List D} (h:∀ x,tl (f x) = true) (l:List α):tl (l.flatMap f) = true:=gS.2 fun d hd=>by
 obtain ⟨t,_,hd⟩:=List.mem_flatMap.1 hd
 exact gS.1 (h t) d hd
theorem tC {α:Type} {f:α → List D} {k:Nat} (hk:∀ x,(f x).length = k):∀ (xs:List α) (i:Nat),(xs.flatMap f).take (i * k) = (xs.take i).flatMap f
 | [],i=>by simp
 | x :: xs,0=>by simp
 | x :: xs,i + 1=>by
  rw [M1,Pv,M1,PP,hk,Mt (by rw [hk,MT]; omega),show (i + 1) * k - k = i * k from by rw [MT]; omega,tC hk xs i]
theorem ku {α:Type} {f:α → List D} {c:List α} {l:List D} {t:α} {y:TypeId} {r:Bool} (h:l = f t):(⟨c.flatMap f ++ l,y,r⟩:Blk) = ⟨(c ++ [t]).flatMap f,y,r⟩:=by rw [h,NA]; simp
theorem Gh (b:UInt8):(dB b).closed = true:=rfl
attribute [simp] fu u6 zv
attribute [simp] cd fF uG ke aL cn aY kQ Ld Lf JD ab D.closed aS Gf Gg zu wM tA tB da Gh cD bB oh
end Go.Vx
namespace Go.Proofs.YtefjnofhgkjpmaaGreat
open Go.Vx

def Lm:TI:=⟨.int .i64,.int .i64 0,1,8,false⟩
def Ln:TI:=⟨.int .i64,.int .i64 0,1,8,false⟩
def Lo:TI:=⟨.bool,.bool false,1,1,false⟩
def zw:TI:=⟨.int .u8,.int .u8 0,1,1,false⟩
def Lp:TI:=⟨.string,.string ⟨#[]⟩,1,16,false⟩
def Gi:TI:=⟨.int .u64,.int .u64 0,1,8,false⟩
def Gj:TI:=⟨.pointer 302,.pointer none,1,8,false⟩
def Gk:TI:=⟨.pointer 305,.pointer none,1,8,false⟩
def Gl:TI:=⟨.pointer 313,.pointer none,1,8,false⟩
def Gm:TI:=⟨.interface #[],.nilIface,1,16,false⟩
def Gn:TI:=⟨.int .i32,.int .i32 0,1,4,false⟩
def Gp : TI := ⟨.struct #[⟨"Size", 3, 0, false, "", "", 0⟩, ⟨"Chain", 3, 1, false, "", "", 8⟩, ⟨"Most", 3, 2, false, "", "", 16⟩, ⟨"Lazy", 4, 3, false, "", "", 24⟩], .agg #[.int .i64 0, .int .i64 0, .int .i64 0, .bool false], 4, 32, true⟩
def Gq : TI := ⟨.struct #[⟨"Size", 3, 0, false, "", "", 0⟩, ⟨"Chain", 3, 1, false, "", "", 8⟩, ⟨"Most", 3, 2, false, "", "", 16⟩, ⟨"Lazy", 4, 3, false, "", "", 24⟩], .agg #[.int .i64 0, .int .i64 0, .int .i64 0, .bool false], 4, 32, true⟩
def Gr:TI:=⟨.slice 5,.slice none 0 0,1,24,false⟩
def Gs : TI := ⟨.struct #[⟨"Bytes", 24, 0, false, "", "", 0⟩, ⟨"Bits", 3, 1, false, "", "", 24⟩], .agg #[.slice none 0 0, .int .i64 0], 2, 32, false⟩
def Gt : TI := ⟨.struct #[⟨"Bytes", 24, 0, false, "", "", 0⟩, ⟨"Bits", 3, 1, false, "", "", 24⟩], .agg #[.slice none 0 0, .int .i64 0], 2, 32, false⟩
def Gu : TI := ⟨.struct #[⟨"Style", 23, 0, false, "", "", 0⟩, ⟨"Hist", 24, 4, false, "", "", 32⟩, ⟨"Wait", 24, 5, false, "", "", 56⟩, ⟨"Pen", 26, 6, false, "", "", 80⟩, ⟨"Over", 4, 8, false, "", "", 112⟩], .agg #[.int .i64 0, .int .i64 0, .int .i64 0, .bool false, .slice none 0 0, .slice none 0 0, .slice none 0 0, .int .i64 0, .bool false], 9, 120, false⟩
def Gw : TI := ⟨.struct #[⟨"Style", 23, 0, false, "", "", 0⟩, ⟨"Hist", 24, 4, false, "", "", 32⟩, ⟨"Wait", 24, 5, false, "", "", 56⟩, ⟨"Pen", 26, 6, false, "", "", 80⟩, ⟨"Over", 4, 8, false, "", "", 112⟩], .agg #[.int .i64 0, .int .i64 0, .int .i64 0, .bool false, .slice none 0 0, .slice none 0 0, .slice none 0 0, .int .i64 0, .bool false], 9, 120, false⟩
def Gx:TI:=⟨.int .i64,.int .i64 0,1,8,false⟩
def Gy:TI:=⟨.slice 56,.slice none 0 0,1,24,false⟩
def Gz : TI := ⟨.struct #[⟨"Flush", 4, 0, false, "", "", 0⟩, ⟨"Text", 24, 1, false, "", "", 8⟩], .agg #[.bool false, .slice none 0 0], 2, 32, false⟩
def GA : TI := ⟨.struct #[⟨"Flush", 4, 0, false, "", "", 0⟩, ⟨"Text", 24, 1, false, "", "", 8⟩], .agg #[.bool false, .slice none 0 0], 2, 32, false⟩
def GB:TI:=⟨.pointer 68,.pointer none,1,8,false⟩
def GC : TI := ⟨.struct #[⟨"Press", 28, 0, true, "", "", 0⟩, ⟨"out", 24, 9, false, "", "bellows/press", 120⟩], .agg #[.int .i64 0, .int .i64 0, .int .i64 0, .bool false, .slice none 0 0, .slice none 0 0, .slice none 0 0, .int .i64 0, .bool false, .slice none 0 0], 10, 144, false⟩
def GD : TI := ⟨.struct #[⟨"Press", 28, 0, true, "", "", 0⟩, ⟨"out", 24, 9, false, "", "bellows/press", 120⟩], .agg #[.int .i64 0, .int .i64 0, .int .i64 0, .bool false, .slice none 0 0, .slice none 0 0, .slice none 0 0, .int .i64 0, .bool false, .slice none 0 0], 10, 144, false⟩
def GF:TI:=⟨.slice 119,.slice none 0 0,1,24,false⟩
def GG:TI:=⟨.pointer 95,.pointer none,1,8,false⟩
def GH : TI := ⟨.struct #[⟨"b", 24, 0, false, "", "bellows/plain", 0⟩, ⟨"at", 3, 1, false, "", "bellows/plain", 24⟩, ⟨"e", 31, 2, false, "", "bellows/plain", 32⟩], .agg #[.slice none 0 0, .int .i64 0, .int .i64 0], 3, 40, false⟩
def GI : TI := ⟨.struct #[⟨"b", 24, 0, false, "", "bellows/plain", 0⟩, ⟨"at", 3, 1, false, "", "bellows/plain", 24⟩, ⟨"e", 31, 2, false, "", "bellows/plain", 32⟩], .agg #[.slice none 0 0, .int .i64 0, .int .i64 0], 3, 40, false⟩
def Ba:TI:=⟨.pointer 123,.pointer none,1,8,false⟩
def Bb:TI:=⟨.slice 64,.slice none 0 0,1,24,false⟩
def Bc : TI := ⟨.struct #[⟨"Lit", 5, 0, false, "", "", 0⟩, ⟨"Dist", 3, 1, false, "", "", 8⟩, ⟨"Long", 3, 2, false, "", "", 16⟩], .agg #[.int .u8 0, .int .i64 0, .int .i64 0], 3, 24, true⟩
def Bd : TI := ⟨.struct #[⟨"Lit", 5, 0, false, "", "", 0⟩, ⟨"Dist", 3, 1, false, "", "", 8⟩, ⟨"Long", 3, 2, false, "", "", 16⟩], .agg #[.int .u8 0, .int .i64 0, .int .i64 0], 3, 24, true⟩
def Be:TI:=⟨.slice 126,.slice none 0 0,1,24,false⟩
def Bf : TI := ⟨.struct #[⟨"l", 121, 0, false, "", "bellows/block", 0⟩], .agg #[.slice none 0 0], 1, 24, false⟩
def Bg : TI := ⟨.struct #[⟨"l", 121, 0, false, "", "bellows/block", 0⟩], .agg #[.slice none 0 0], 1, 24, false⟩
def Bh:TI:=⟨.int .u32,.int .u32 0,1,4,false⟩
def Bi : TI := ⟨.struct #[⟨"v", 124, 0, false, "", "bellows/block", 0⟩, ⟨"n", 3, 1, false, "", "bellows/block", 8⟩], .agg #[.int .u32 0, .int .i64 0], 2, 16, true⟩
def Bj : TI := ⟨.struct #[⟨"v", 124, 0, false, "", "bellows/block", 0⟩, ⟨"n", 3, 1, false, "", "bellows/block", 8⟩], .agg #[.int .u32 0, .int .i64 0], 2, 16, true⟩
def Bk:TI:=⟨.array 3 5,.agg #[.int .u8 0,.int .u8 0,.int .u8 0],3,3,true⟩
def Bl : TI := ⟨.struct #[⟨"Size", 3, 0, false, "", "", 0⟩, ⟨"Bytes", 24, 1, false, "", "", 8⟩], .agg #[.int .i64 0, .slice none 0 0], 2, 32, false⟩
def Bm : TI := ⟨.struct #[⟨"Size", 3, 0, false, "", "", 0⟩, ⟨"Bytes", 24, 1, false, "", "", 8⟩], .agg #[.int .i64 0, .slice none 0 0], 2, 32, false⟩
def Bn:TI:=⟨.slice 169,.slice none 0 0,1,24,false⟩
def Bo:TI:=⟨.slice 24,.slice none 0 0,1,24,false⟩
def Bp:TI:=⟨.array 16 3,.agg #[.int .i64 0,.int .i64 0,.int .i64 0,.int .i64 0,.int .i64 0,.int .i64 0,.int .i64 0,.int .i64 0,.int .i64 0,.int .i64 0,.int .i64 0,.int .i64 0,.int .i64 0,.int .i64 0,.int .i64 0,.int .i64 0],16,128,true⟩
def Bq:TI:=⟨.slice 3,.slice none 0 0,1,24,false⟩
def Br : TI := ⟨.struct #[⟨"Count", 151, 0, false, "", "", 0⟩, ⟨"Syms", 152, 16, false, "", "", 128⟩], .agg #[.int .i64 0, .int .i64 0, .int .i64 0, .int .i64 0, .int .i64 0, .int .i64 0, .int .i64 0, .int .i64 0, .int .i64 0, .int .i64 0, .int .i64 0, .int .i64 0, .int .i64 0, .int .i64 0, .int .i64 0, .int .i64 0, .slice none 0 0], 17, 152, false⟩
def Bs : TI := ⟨.struct #[⟨"Count", 151, 0, false, "", "", 0⟩, ⟨"Syms", 152, 16, false, "", "", 128⟩], .agg #[.int .i64 0, .int .i64 0, .int .i64 0, .int .i64 0, .int .i64 0, .int .i64 0, .int .i64 0, .int .i64 0, .int .i64 0, .int .i64 0, .int .i64 0, .int .i64 0, .int .i64 0, .int .i64 0, .int .i64 0, .int .i64 0, .slice none 0 0], 17, 152, false⟩
def Bt : TI := ⟨.struct #[⟨"Kind", 5, 0, false, "", "", 0⟩, ⟨"Last", 4, 1, false, "", "", 1⟩, ⟨"Left", 3, 2, false, "", "", 8⟩, ⟨"Longs", 154, 3, false, "", "", 16⟩, ⟨"Fars", 154, 20, false, "", "", 168⟩], .agg #[.int .u8 0, .bool false, .int .i64 0, .int .i64 0, .int .i64 0, .int .i64 0, .int .i64 0, .int .i64 0, .int .i64 0, .int .i64 0, .int .i64 0, .int .i64 0, .int .i64 0, .int .i64 0, .int .i64 0, .int .i64 0, .int .i64 0, .int .i64 0, .int .i64 0, .slice none 0 0, .int .i64 0, .int .i64 0, .int .i64 0, .int .i64 0, .int .i64 0, .int .i64 0, .int .i64 0, .int .i64 0, .int .i64 0, .int .i64 0, .int .i64 0, .int .i64 0, .int .i64 0, .int .i64 0, .int .i64 0, .int .i64 0, .slice none 0 0], 37, 320, false⟩
def Bu : TI := ⟨.struct #[⟨"Kind", 5, 0, false, "", "", 0⟩, ⟨"Last", 4, 1, false, "", "", 1⟩, ⟨"Left", 3, 2, false, "", "", 8⟩, ⟨"Longs", 154, 3, false, "", "", 16⟩, ⟨"Fars", 154, 20, false, "", "", 168⟩], .agg #[.int .u8 0, .bool false, .int .i64 0, .int .i64 0, .int .i64 0, .int .i64 0, .int .i64 0, .int .i64 0, .int .i64 0, .int .i64 0, .int .i64 0, .int .i64 0, .int .i64 0, .int .i64 0, .int .i64 0, .int .i64 0, .int .i64 0, .int .i64 0, .int .i64 0, .slice none 0 0, .int .i64 0, .int .i64 0, .int .i64 0, .int .i64 0, .int .i64 0, .int .i64 0, .int .i64 0, .int .i64 0, .int .i64 0, .int .i64 0, .int .i64 0, .int .i64 0, .int .i64 0, .int .i64 0, .int .i64 0, .int .i64 0, .slice none 0 0], 37, 320, false⟩
def Bv:TI:=⟨.pointer 163,.pointer none,1,8,false⟩
def Bx : TI := ⟨.struct #[⟨"Pen", 26, 0, true, "", "", 0⟩], .agg #[.slice none 0 0, .int .i64 0], 2, 32, false⟩
def By : TI := ⟨.struct #[⟨"Pen", 26, 0, true, "", "", 0⟩], .agg #[.slice none 0 0, .int .i64 0], 2, 32, false⟩
def Bz : TI := ⟨.struct #[⟨"V", 124, 0, false, "", "", 0⟩, ⟨"N", 3, 1, false, "", "", 8⟩], .agg #[.int .u32 0, .int .i64 0], 2, 16, true⟩
def BA : TI := ⟨.struct #[⟨"V", 124, 0, false, "", "", 0⟩, ⟨"N", 3, 1, false, "", "", 8⟩], .agg #[.int .u32 0, .int .i64 0], 2, 16, true⟩
def BB : TI := ⟨.struct #[⟨"Lit", 5, 0, false, "", "", 0⟩, ⟨"Dist", 3, 1, false, "", "", 8⟩, ⟨"Long", 3, 2, false, "", "", 16⟩], .agg #[.int .u8 0, .int .i64 0, .int .i64 0], 3, 24, true⟩
def BC:TI:=⟨.array 286 3,.agg (OP 286 (.int .i64 0)),286,2288,true⟩
def BD:TI:=⟨.array 30 3,.agg #[.int .i64 0,.int .i64 0,.int .i64 0,.int .i64 0,.int .i64 0,.int .i64 0,.int .i64 0,.int .i64 0,.int .i64 0,.int .i64 0,.int .i64 0,.int .i64 0,.int .i64 0,.int .i64 0,.int .i64 0,.int .i64 0,.int .i64 0,.int .i64 0,.int .i64 0,.int .i64 0,.int .i64 0,.int .i64 0,.int .i64 0,.int .i64 0,.int .i64 0,.int .i64 0,.int .i64 0,.int .i64 0,.int .i64 0,.int .i64 0],30,240,true⟩
def BE:TI:=⟨.slice 187,.slice none 0 0,1,24,false⟩
def BF:TI:=⟨.array 19 3,.agg #[.int .i64 0,.int .i64 0,.int .i64 0,.int .i64 0,.int .i64 0,.int .i64 0,.int .i64 0,.int .i64 0,.int .i64 0,.int .i64 0,.int .i64 0,.int .i64 0,.int .i64 0,.int .i64 0,.int .i64 0,.int .i64 0,.int .i64 0,.int .i64 0,.int .i64 0],19,152,true⟩
def BG : TI := ⟨.struct #[⟨"Sym", 3, 0, false, "", "", 0⟩, ⟨"Extra", 3, 1, false, "", "", 8⟩], .agg #[.int .i64 0, .int .i64 0], 2, 16, true⟩
def BH : TI := ⟨.struct #[⟨"Sym", 3, 0, false, "", "", 0⟩, ⟨"Extra", 3, 1, false, "", "", 8⟩], .agg #[.int .i64 0, .int .i64 0], 2, 16, true⟩
def BI:TI:=⟨.slice 210,.slice none 0 0,1,24,false⟩
def BJ:TI:=⟨.func #[3] #[3,3] false,.nilFunc,1,8,false⟩
def BK:TI:=⟨.pointer 156,.pointer none,1,8,false⟩
def BL:TI:=⟨.int .u64,.int .u64 0,1,8,false⟩
def BM : TI := ⟨.struct #[⟨"Bits", 124, 0, false, "", "", 0⟩, ⟨"Long", 5, 1, false, "", "", 4⟩], .agg #[.int .u32 0, .int .u8 0], 2, 8, true⟩
def tD : TI := ⟨.struct #[⟨"Bits", 124, 0, false, "", "", 0⟩, ⟨"Long", 5, 1, false, "", "", 4⟩], .agg #[.int .u32 0, .int .u8 0], 2, 8, true⟩
def BN:TI:=⟨.int .u64,.int .u64 0,1,8,false⟩
def BO:TI:=⟨.slice 225,.slice none 0 0,1,24,false⟩
def tE:TI:=⟨.slice 231,.slice none 0 0,1,24,false⟩
def BP : TI := ⟨.struct #[⟨"weight", 3, 0, false, "", "bellows/build", 0⟩, ⟨"pair", 4, 1, false, "", "bellows/build", 8⟩], .agg #[.int .i64 0, .bool false], 2, 16, true⟩
def BQ : TI := ⟨.struct #[⟨"weight", 3, 0, false, "", "bellows/build", 0⟩, ⟨"pair", 4, 1, false, "", "bellows/build", 8⟩], .agg #[.int .i64 0, .bool false], 2, 16, true⟩
def BR:TI:=⟨.array 17 124,.agg #[.int .u32 0,.int .u32 0,.int .u32 0,.int .u32 0,.int .u32 0,.int .u32 0,.int .u32 0,.int .u32 0,.int .u32 0,.int .u32 0,.int .u32 0,.int .u32 0,.int .u32 0,.int .u32 0,.int .u32 0,.int .u32 0,.int .u32 0],17,68,true⟩
def BS:TI:=⟨.array 17 124,.agg #[.int .u32 0,.int .u32 0,.int .u32 0,.int .u32 0,.int .u32 0,.int .u32 0,.int .u32 0,.int .u32 0,.int .u32 0,.int .u32 0,.int .u32 0,.int .u32 0,.int .u32 0,.int .u32 0,.int .u32 0,.int .u32 0,.int .u32 0],17,68,true⟩
def BT : TI := ⟨.struct #[⟨"bits", 3, 0, false, "", "bellows/reach", 0⟩, ⟨"least", 3, 1, false, "", "bellows/reach", 8⟩, ⟨"many", 3, 2, false, "", "bellows/reach", 16⟩], .agg #[.int .i64 0, .int .i64 0, .int .i64 0], 3, 24, true⟩
def BU : TI := ⟨.struct #[⟨"bits", 3, 0, false, "", "bellows/reach", 0⟩, ⟨"least", 3, 1, false, "", "bellows/reach", 8⟩, ⟨"many", 3, 2, false, "", "bellows/reach", 16⟩], .agg #[.int .i64 0, .int .i64 0, .int .i64 0], 3, 24, true⟩
def BV:TI:=⟨.slice 248,.slice none 0 0,1,24,false⟩
def BW : TI := ⟨.struct #[⟨"first", 3, 0, false, "", "bellows/reach", 0⟩, ⟨"symbols", 250, 1, false, "", "bellows/reach", 8⟩], .agg #[.int .i64 0, .slice none 0 0], 2, 32, false⟩
def BX : TI := ⟨.struct #[⟨"first", 3, 0, false, "", "bellows/reach", 0⟩, ⟨"symbols", 250, 1, false, "", "bellows/reach", 8⟩], .agg #[.int .i64 0, .slice none 0 0], 2, 32, false⟩
def BY:TI:=⟨.array 29 3,.agg #[.int .i64 0,.int .i64 0,.int .i64 0,.int .i64 0,.int .i64 0,.int .i64 0,.int .i64 0,.int .i64 0,.int .i64 0,.int .i64 0,.int .i64 0,.int .i64 0,.int .i64 0,.int .i64 0,.int .i64 0,.int .i64 0,.int .i64 0,.int .i64 0,.int .i64 0,.int .i64 0,.int .i64 0,.int .i64 0,.int .i64 0,.int .i64 0,.int .i64 0,.int .i64 0,.int .i64 0,.int .i64 0,.int .i64 0],29,232,true⟩
def BZ:TI:=⟨.pointer 234,.pointer none,1,8,false⟩
def B0:TI:=⟨.pointer 282,.pointer none,1,8,false⟩
def B1 : TI := ⟨.struct #[⟨"t", 154, 0, false, "", "bellows/tree", 0⟩, ⟨"n", 3, 17, false, "", "bellows/tree", 152⟩, ⟨"code", 3, 18, false, "", "bellows/tree", 160⟩, ⟨"first", 3, 19, false, "", "bellows/tree", 168⟩, ⟨"place", 3, 20, false, "", "bellows/tree", 176⟩], .agg #[.int .i64 0, .int .i64 0, .int .i64 0, .int .i64 0, .int .i64 0, .int .i64 0, .int .i64 0, .int .i64 0, .int .i64 0, .int .i64 0, .int .i64 0, .int .i64 0, .int .i64 0, .int .i64 0, .int .i64 0, .int .i64 0, .slice none 0 0, .int .i64 0, .int .i64 0, .int .i64 0, .int .i64 0], 21, 184, false⟩
def B2 : TI := ⟨.struct #[⟨"t", 154, 0, false, "", "bellows/tree", 0⟩, ⟨"n", 3, 17, false, "", "bellows/tree", 152⟩, ⟨"code", 3, 18, false, "", "bellows/tree", 160⟩, ⟨"first", 3, 19, false, "", "bellows/tree", 168⟩, ⟨"place", 3, 20, false, "", "bellows/tree", 176⟩], .agg #[.int .i64 0, .int .i64 0, .int .i64 0, .int .i64 0, .int .i64 0, .int .i64 0, .int .i64 0, .int .i64 0, .int .i64 0, .int .i64 0, .int .i64 0, .int .i64 0, .int .i64 0, .int .i64 0, .int .i64 0, .int .i64 0, .slice none 0 0, .int .i64 0, .int .i64 0, .int .i64 0, .int .i64 0], 21, 184, false⟩
def B3:TI:=⟨.pointer 248,.pointer none,1,8,false⟩
def B4:TI:=⟨.slice 291,.slice none 0 0,1,24,false⟩
def B5 : TI := ⟨.struct #[⟨"Weight", 3, 0, false, "", "", 0⟩, ⟨"Of", 152, 1, false, "", "", 8⟩], .agg #[.int .i64 0, .slice none 0 0], 2, 32, false⟩
def B6 : TI := ⟨.struct #[⟨"Weight", 3, 0, false, "", "", 0⟩, ⟨"Of", 152, 1, false, "", "", 8⟩], .agg #[.int .i64 0, .slice none 0 0], 2, 32, false⟩
def B7:TI:=⟨.array 0 16,.agg #[],0,0,false⟩
def B8:TI:=⟨.pointer 5,.pointer none,1,8,false⟩
def B9 : TI := ⟨.struct #[⟨"Size_", 12, 0, false, "", "", 0⟩, ⟨"PtrBytes", 12, 1, false, "", "", 8⟩, ⟨"Hash", 124, 2, false, "", "", 16⟩, ⟨"TFlag", 306, 3, false, "", "", 20⟩, ⟨"Align_", 5, 4, false, "", "", 21⟩, ⟨"FieldAlign_", 5, 5, false, "", "", 22⟩, ⟨"Kind_", 307, 6, false, "", "", 23⟩, ⟨"Equal", 308, 7, false, "", "", 24⟩, ⟨"GCData", 309, 8, false, "", "", 32⟩, ⟨"Str", 310, 9, false, "", "", 40⟩, ⟨"PtrToThis", 311, 10, false, "", "", 44⟩], .agg #[.int .u64 0, .int .u64 0, .int .u32 0, .int .u8 0, .int .u8 0, .int .u8 0, .int .u8 0, .nilFunc, .pointer none, .int .i32 0, .int .i32 0], 11, 48, false⟩
def Tl:List (Nat × TI):=[(2,Lm),(3,Ln),(4,Lo),(5,zw),(9,Lp),(12,Gi),(15,Gj),(16,Gk),(17,Gl),(20,Gm),(21,Gn),(22,Gp),(23,Gq),(24,Gr),(25,Gs),(26,Gt),(27,Gu),(28,Gw),(31,Gx),(53,Gy),(55,Gz),(56,GA),(64,GB),(67,GC),(68,GD),(82,GF),(90,GG),(94,GH),(95,GI),(105,Ba),(111,Bb),(118,Bc),(119,Bd),(121,Be),(122,Bf),(123,Bg),(124,Bh),(125,Bi),(126,Bj),(129,Bk),(131,Bl),(132,Bm),(135,Bn),(149,Bo),(151,Bp),(152,Bq),(153,Br),(154,Bs),(155,Bt),(156,Bu),(161,Bv),(162,Bx),(163,By),(168,Bz),(169,BA),(175,BB),(176,BC),(177,BD),(182,BE),(185,BF),(186,BG),(187,BH),(189,BI),(196,BJ),(200,BK),(204,BL),(209,BM),(210,tD),(217,BN),(224,BO),(225,tE),(230,BP),(231,BQ),(233,BR),(234,BS),(247,BT),(248,BU),(250,BV),(251,BW),(252,BX),(256,BY),(272,BZ),(280,B0),(281,B1),(282,B2),(285,B3),(286,B4),(290,B5),(291,B6),(303,B7),(309,B8),(312,B9)]
def T:TT:=(.n (.n (.n (.n (.n (.n .e (some Gx) (.n .e (some GI) .e)) (some Gj) (.n .e none (.n (.n (.n .e (some B7) .e) (some BB) .e) (some Bb) .e))) none (.n (.n (.n (.n .e (some Bn) .e) none .e) none (.n .e none (.n .e (some BQ) .e))) (some Gq) (.n (.n (.n .e (some Bp) .e) none .e) (some Gz) (.n .e (some Bd) (.n .e (some BT) .e))))) (some Ln) (.n (.n (.n (.n (.n .e (some Bl) .e) (some GC) .e) none (.n (.n (.n .e (some B6) .e) (some By) .e) none .e)) none .e) none (.n .e (some Gu) (.n (.n (.n .e (some Bt) .e) none .e) none (.n (.n .e (some BH) .e) (some Bg) (.n .e (some BW) .e)))))) none (.n (.n (.n (.n (.n (.n .e (some Bk) .e) none .e) none (.n (.n .e (some Bv) .e) none (.n .e (some tE) .e))) (some Gl) (.n (.n .e none (.n .e (some BM) .e)) none (.n (.n .e (some BD) .e) none .e))) (some Lp) (.n (.n .e none (.n (.n .e (some BA) .e) (some Ba) (.n .e (some BR) .e))) (some Gs) (.n (.n (.n (.n .e (some B1) .e) (some Br) .e) none (.n .e (some BN) .e)) none (.n (.n .e (some BF) .e) (some Be) .e)))) (some zw) (.n (.n .e (some Gn) (.n (.n (.n .e (some Bo) .e) none .e) (some Gy) (.n (.n (.n .e (some B8) .e) none .e) none .e))) none (.n .e none (.n (.n (.n (.n .e (some B3) .e) none .e) none .e) none (.n (.n .e (some BI) .e) (some Bi) .e)))))) none (.n (.n (.n (.n (.n (.n (.n (.n .e (some BY) .e) none .e) (some GB) .e) none (.n .e none (.n .e (some BO) .e))) (some Gk) (.n (.n (.n (.n .e (some BZ) .e) none .e) none .e) none (.n (.n .e (some BC) .e) none .e))) none (.n (.n (.n .e none (.n .e (some BK) .e)) none (.n (.n .e (some Bz) .e) none .e)) (some Gr) (.n (.n (.n (.n .e (some B0) .e) (some Bq) .e) none .e) (some GA) (.n (.n (.n .e (some B9) .e) none .e) none (.n .e (some BU) .e))))) (some Lo) (.n (.n (.n (.n (.n .e (some Bm) .e) (some GD) (.n .e (some BJ) .e)) none .e) (some Gm) .e) (some Gi) (.n (.n (.n .e none (.n .e (some BL) .e)) none .e) (some Gw) (.n (.n (.n .e (some Bu) .e) none .e) none (.n .e (some Bh) (.n .e (some BX) .e)))))) (some Lm) (.n (.n (.n (.n .e none (.n (.n (.n .e (some B5) .e) (some Bx) .e) none .e)) none (.n (.n .e (some GF) (.n .e (some tD) .e)) none .e)) none (.n (.n .e none (.n .e none (.n .e (some BS) .e))) (some Gt) (.n (.n (.n (.n .e (some B2) .e) (some Bs) .e) (some GG) .e) none (.n (.n .e (some BG) .e) (some Bf) (.n .e (some BV) .e))))) none (.n (.n (.n .e none (.n .e none (.n .e (some BP) .e))) (some Gp) (.n .e none (.n (.n .e (some BE) .e) (some Bc) .e))) none (.n .e none (.n (.n (.n (.n .e (some B4) .e) none .e) (some GH) .e) none (.n .e (some Bj) .e)))))))
set_option maxRecDepth 100000 in
theorem T_ok:TT.ok Tryz.prog T:=by
 refine TT.ok_ofL (l:=Tl) ?_ (by kernel_rfl)
 repeat (first | refine ⟨Jw (by kernel_rfl) (by kernel_rfl) rfl,?_⟩ | refine ⟨Gc (by kernel_rfl) (by kernel_rfl) rfl (by kernel_rfl) (by kernel_rfl) (by kernel_rfl),?_⟩)
 trivial
theorem ai:Tryz.prog.follows .mixedOrders = true:=by kernel_rfl
open Go.RowKit Go.Bw
abbrev zN (n:Nat):D:=.v (.int .i64 (n:Int))
abbrev zI (x:Int):D:=.v (.int .i64 x)
abbrev zS:D:=.v (.slice none 0 0)
abbrev ah (n:Nat):D:=.v (.int .u32 (n:Int))
abbrev dQ (n:Nat):D:=.v (.int .u8 (n:Int))
abbrev uI (x:Int):D:=.v (.int .u32 x)
abbrev bI (x:Int):D:=.v (.int .u8 x)
theorem aT {p:Prop} [Decidable p] (h:decide p = true):p:=of_decide_eq_true h
theorem aU {p:Prop} [Decidable p] (h:decide p = false):¬ p:=of_decide_eq_false h
def _root_.Go.Vx.Hn.cl {P:Program} (f:FuncId) (al:Bool) (fp:List Nat) {q hin:_} {r:D} {bs:List Blk} (h:CallOk al P f q hin r bs) (nx:Hn P):Hn P:=.call f al fp true rfl q q (bY.refl q) true rfl hin r bs h nx
def _root_.Go.Vx.Hn.op {P:Program} (x:Int) (h:-9223372036854775808 ≤ x ∧ x ≤ 9223372036854775807) (nx:Hn P):Hn P:=.opt (az .i64 x) (.v (.int .i64 x)) (ft h) nx
def _root_.Go.Vx.Hn.ow {P:Program} (x:Int) (nx:Hn P) (h:-9223372036854775808 ≤ x ∧ x ≤ 9223372036854775807:=by omega):Hn P:=.opt (az .i64 x) (.v (.int .i64 x)) (ft h) nx
theorem wr {p:Prop} (h:p:=by with_reducible rfl):p:=h
theorem om {p:Prop} (h:p:=by omega):p:=h
theorem bu {p:Prop} (h:p:=by assumption):p:=h
theorem ro {p:Prop} (h:p:=by repeat' first | exact trivial | exact rfl | exact (fun _=>aS _) | exact (fun _=>by assumption) | exact (fun _=>bS _ (fun _=>rfl) _) | exact (fun _=>da (fun _=>rfl) _) | (intro h; cases h; done) | (intro _; rfl) | (intro _; exact cG _ (bS _ (fun _=>rfl) _)) | exact jl _ (bS _ (fun _=>rfl) _) | refine And.intro ?_ ?_ | refine fR ?_ ?_ | (intro _; refine cW ?_ ?_) | refine cW ?_ ?_ | (intro _; refine gv ?_ ?_) | exact cG _ (bS _ (fun _=>rfl) _) | exact bS _ (fun _=>rfl) _):p:=h
theorem LN:aw Tryz.prog 13:=.of Tryz.func13 rfl rfl
theorem zx:aw Tryz.prog 18:=.of Tryz.func18 rfl rfl
theorem JE:aw Tryz.prog 21:=.of Tryz.func21 rfl rfl
theorem LO:aw Tryz.prog 23:=.of Tryz.func23 rfl rfl
theorem IW:aw Tryz.prog 26:=.of Tryz.func26 rfl rfl
theorem JF:aw Tryz.prog 29:=.of Tryz.func29 rfl rfl
theorem DZ:aw Tryz.prog 43:=.of Tryz.func43 rfl rfl
theorem qd:aw Tryz.prog 56:=.of Tryz.func56 rfl rfl
theorem Lq:aw Tryz.prog 64:=.of Tryz.func64 rfl rfl
theorem Lr:aw Tryz.prog 65:=.of Tryz.func65 rfl rfl
theorem IX:aw Tryz.prog 86:=.of Tryz.func86 rfl rfl
theorem wN:aw Tryz.prog 105:=.of Tryz.func105 rfl rfl
theorem JG:aw Tryz.prog 111:=.of Tryz.func111 rfl rfl
theorem JH:aw Tryz.prog 113:=.of Tryz.func113 rfl rfl
theorem GJ:aw Tryz.prog 117:=.of Tryz.func117 rfl rfl
theorem JI:aw Tryz.prog 128:=.of Tryz.func128 rfl rfl
theorem JJ:aw Tryz.prog 141:=.of Tryz.func141 rfl rfl
theorem rW:aw Tryz.prog 142:=.of Tryz.func142 rfl rfl
theorem rX:aw Tryz.prog 143:=.of Tryz.func143 rfl rfl
theorem D0:aw Tryz.prog 144:=.of Tryz.func144 rfl rfl
theorem JK:aw Tryz.prog 147:=.of Tryz.func147 rfl rfl
theorem JL:aw Tryz.prog 148:=.of Tryz.func148 rfl rfl
theorem dR:aw Tryz.prog 152:=.of Tryz.func152 rfl rfl
theorem JM:aw Tryz.prog 155:=.of Tryz.func155 rfl rfl
theorem JN:aw Tryz.prog 160:=.of Tryz.func160 rfl rfl
theorem JO:aw Tryz.prog 163:=.of Tryz.func163 rfl rfl
theorem wO:aw Tryz.prog 175:=.of Tryz.func175 rfl rfl
theorem JP:aw Tryz.prog 176:=.of Tryz.func176 rfl rfl
theorem JQ:aw Tryz.prog 193:=.of Tryz.func193 rfl rfl
theorem JR:aw Tryz.prog 198:=.of Tryz.func198 rfl rfl
end Go.Proofs.YtefjnofhgkjpmaaGreat
namespace Go.Proofs.YtefjnofhgkjpmaaGreat
open Go.RowKit Go.Bw Go.Vx
namespace Vp
abbrev iD (i:Int):D:=.v (.int .i64 i)
abbrev aR:D:=.v (.slice none 0 0)
abbrev nD (n:Nat):D:=.v (.int .i64 (n:Int))
abbrev bD (b:Bool):D:=.v (.bool b)
abbrev ga (n:Nat):D:=.v (.int .u8 (n:Int))
def lk {α β:Type} (b:List β) (x:α):α:=match b with
 | []=>x
 | _ :: _=>x
theorem aF {α β:Type} (b:List β) (x:α):lk b x = x:=by cases b <;> rfl
def JS (b:List UInt8) (p:Nat):Nat:=(b.getD (p / 8) jk).toNat / 2 ^ (p % 8) % 2
def GK (b:List UInt8) (p:Nat):Nat → Nat
 | 0=>0
 | n + 1=>GK b p n + 2 ^ n * JS b (p + n)
def JT (b:List UInt8) (p m:Nat):Nat:=lk b (if 8 * b.length < p + m then 0 else GK b p m)
def LP (b:List UInt8) (p m:Nat):Nat:=lk b (if 8 * b.length < p + m then 10 else 0)
def aX:List UInt8 → Nat
 | []=>0
 | x :: r=>(if x.toNat = 0 then 0 else 2 ^ (15 - x.toNat)) + aX r
def bp:List UInt8 → Nat
 | []=>0
 | x :: r=>(if x.toNat = 0 then 0 else 1) + bp r
def dr (l:List UInt8) (most:Nat):Bool:=l.any fun x=>decide (most < x.toNat)
theorem u7 (a c:List UInt8):aX (a ++ c) = aX a + aX c:=by
 induction a with
 | nil=>simp [aX]
 | cons x r ih=>rw [NQ,aX,aX,ih]; omega
theorem u9 (a c:List UInt8):bp (a ++ c) = bp a + bp c:=by
 induction a with
 | nil=>simp [bp]
 | cons x r ih=>rw [NQ,bp,bp,ih]; omega
theorem wP (l:List UInt8):bp l ≤ l.length:=by
 induction l with
 | nil=>exact Mc _
 | cons x r ih=>rw [bp,Mr]; split <;> omega
theorem wQ (l:List UInt8):aX l ≤ l.length * 32768:=by
 induction l with
 | nil=>exact Mc _
 | cons x r ih =>
  rw [aX,Mr]
  have:2 ^ (15 - x.toNat) ≤ 2 ^ 15:=MQ (by decide) (by omega)
  split <;> omega
theorem nj {l:List UInt8} {i:Nat} (h:i < l.length):l.take (i + 1) = l.take i ++ [l.getD i jk]:=lv h
theorem fW {l:List UInt8} {i:Nat} (h:i < l.length):aX (l.take (i + 1)) = aX (l.take i) + (if (l.getD i jk).toNat = 0 then 0 else 2 ^ (15 - (l.getD i jk).toNat)):=by
 rw [nj h,u7]; rfl
theorem io {l:List UInt8} {i:Nat} (h:i < l.length):bp (l.take (i + 1)) = bp (l.take i) + (if (l.getD i jk).toNat = 0 then 0 else 1):=by
 rw [nj h,u9]; rfl
def rY (l:List UInt8) (most:Nat):Nat :=
 if 320 < l.length then 4 else if dr l most = true then 2 else if 32768 < aX l then 30
 else if aX l = 32768 ∨ bp l = 0 ∨ bp l = 1 ∧ aX l = 16384 then 0 else 31
def cM (l:List UInt8) (most:Nat):Nat:=lk l (rY l most)
theorem iP (l:List UInt8) (most:Nat):cM l most = rY l most:=aF _ _
theorem tF {l:List UInt8} {most i:Nat} (h:i < l.length) (h2:most < (l.getD i jk).toNat):dr l most = true:=by
 unfold dr
 rw [O6]
 refine ⟨l.getD i jk,?_,decide_eq_true h2⟩
 rw [List.getD_eq_getElem?_getD,List.getElem?_eq_getElem h]; exact MG h
theorem kv {l:List UInt8} {most:Nat} (h:∀ i,i < l.length → (l.getD i jk).toNat ≤ most):dr l most = false:=by
 unfold dr
 rw [List.any_eq_false]
 intro x hx
 obtain ⟨i,hi⟩:=List.getElem?_of_mem hx
 have hlt:=(List.getElem?_eq_some_iff.1 hi).1
 have:=h i hlt
 rw [List.getD_eq_getElem?_getD,hi] at this
 simpa using this
theorem eN {l:List UInt8} {most:Nat} (h:dr l most = false) {i:Nat} (hi:i < l.length):(l.getD i jk).toNat ≤ most:=by
 rcases Mv most (l.getD i jk).toNat with q | q
 ·rw [tF hi q] at h; cases h
 ·exact q
theorem eZ {l:List UInt8} {most:Nat} (h:cM l most = 0):l.length ≤ 320 ∧ dr l most = false ∧ aX l ≤ 32768:=by
 rw [iP] at h; unfold rY at h
 split at h
 ·cases h
 ·split at h
  ·cases h
  ·split at h
   ·cases h
   ·refine ⟨by omega,by simp_all,by omega⟩
def ek (l:List UInt8) (n k:Nat):List Nat:=(MH k).filter fun i=>decide ((l.getD i jk).toNat = n)
def qe (l:List UInt8):Nat → List Nat
 | 0=>[]
 | n + 1=>qe l n ++ (if n = 0 then [] else ek l n l.length)
def wR (l:List UInt8) (n:Nat):Nat:=if n = 0 then 0 else (ek l n l.length).length
def aK (l:List UInt8) (n:Nat):Nat:=lk l (wR l n)
def db (l:List UInt8):List Nat:=lk l (qe l 16)
def Lt (f:Nat → Nat):List D:=[nD (f 0),nD (f 1),nD (f 2),nD (f 3),nD (f 4),nD (f 5),nD (f 6),nD (f 7),nD (f 8),nD (f 9),nD (f 10),nD (f 11),nD (f 12),nD (f 13),nD (f 14),nD (f 15)]
def GL (m:Nat) (l:List UInt8):List D:=Lt (aK l) ++ [.sl false m 1 ((db l).map nD)]
abbrev Ca (m:Nat) (l:List UInt8):D:=.agg (GL m l)
theorem gW (l:List UInt8) (n k:Nat):ek l n (k + 1) = ek l n k ++ (if (l.getD k jk).toNat = n then [k] else []):=by
 unfold ek
 rw [N8,M2]
 congr 1
 rw [List.filter_cons,P2]
 by_cases h:(l.getD k jk).toNat = n
 ·rw [if_pos h,if_pos (decide_eq_true h)]
 ·rw [if_neg h,if_neg (by simpa using h)]
theorem zy (l:List UInt8) (n k:Nat):(ek l n k).length ≤ k:=by
 unfold ek
 exact L0 (OC _ _) (by simp)
theorem wS {l:List UInt8} {n k i:Nat}:i ∈ ek l n k ↔ i < k ∧ (l.getD i jk).toNat = n:=by
 unfold ek; simp
theorem lw (l:List UInt8) (n:Nat):aK l n = wR l n:=aF _ _
@[simp] theorem lx (xs:List Nat):ab (xs.map nD) = true:=bS _ (fun _=>rfl) xs
end Vp
end Go.Proofs.YtefjnofhgkjpmaaGreat
namespace Go.Proofs.YtefjnofhgkjpmaaGreat
open Go.RowKit Go.Bw Go.Vx
open List (length getD map take drop flatMap replicate)
namespace Vp
def rb (s:Nat):Nat:=if s = 16 then 2 else if s = 17 then 3 else if s = 18 then 7 else 0
def p2 (s:Nat):Nat:=2 ^ rb s
structure Rn where
 s:Nat
 x:Nat
 deriving Inhabited
abbrev et (r:Rn):List D:=[nD r.s,nD r.x]
theorem wT (s:Nat):p2 s ≤ 128 ∧ rb s ≤ 7:=by unfold p2 rb; split; decide; split; decide; split <;> decide
theorem GM (s:Nat) (h:s ≤ 18):SpecH false Tryz.prog 113 [nD s] [] (.tup [nD (rb s),iD 0]) []:=by
 refine SpecH.run T_ok ai Tryz.func113 rfl rfl rfl trivial rfl 1000 64 (fun R ok=>(.s 13 (.f (decide (18 < (s:Int))) (by (refine decide_eq_false ?_; (omega))) (.s 4 (.br ((s:Int) == 16) (fun p0=>have p0f:=eq_of_beq p0; (.s 2 (.out [] [] (D.tup [zI 2,zI 0]) [] R (ok _ _ (by ( (have hs:s = 16:=by omega); subst hs; rfl)) wr)))) (fun p0=>have p0f:=au p0; (.s 4 (.br ((s:Int) == 17) (fun p1=>have p1f:=eq_of_beq p1; (.s 2 (.out [] [] (D.tup [zI 3,zI 0]) [] R (ok _ _ (by ( (have hs:s = 17:=by omega); subst hs; rfl)) wr)))) (fun p1=>have p1f:=au p1; (.s 4 (.br ((s:Int) == 18) (fun p2=>have p2f:=eq_of_beq p2; (.s 2 (.out [] [] (D.tup [zI 7,zI 0]) [] R (ok _ _ (by ( (have hs:s = 18:=by omega); subst hs; rfl)) wr)))) (fun p2=>have p2f:=au p2; (.s 2 (.out [] [] (D.tup [zI 0,zI 0]) [] R (ok _ _ (by ( rw [show rb s = 0 from by unfold rb; rw [if_neg om,if_neg om,if_neg om]]; rfl)) wr))))))))))))))) (by kernel_rfl)
structure Sy where
 bits:Nat
 least:Nat
 many:Nat
 deriving Inhabited
abbrev gX (s:Sy):List D:=[nD s.bits,nD s.least,nD s.many]
def aJ:List Sy:=[⟨0,3,1⟩,⟨0,4,1⟩,⟨0,5,1⟩,⟨0,6,1⟩,⟨0,7,1⟩,⟨0,8,1⟩,⟨0,9,1⟩,⟨0,10,1⟩,⟨1,11,2⟩,⟨1,13,2⟩,⟨1,15,2⟩,⟨1,17,2⟩,⟨2,19,4⟩,⟨2,23,4⟩,⟨2,27,4⟩,⟨2,31,4⟩,⟨3,35,8⟩,⟨3,43,8⟩,⟨3,51,8⟩,⟨3,59,8⟩,⟨4,67,16⟩,⟨4,83,16⟩,⟨4,99,16⟩,⟨4,115,16⟩,⟨5,131,32⟩,⟨5,163,32⟩,⟨5,195,32⟩,⟨5,227,31⟩,⟨0,258,1⟩]
def a9:List Sy:=[⟨0,1,1⟩,⟨0,2,1⟩,⟨0,3,1⟩,⟨0,4,1⟩,⟨1,5,2⟩,⟨1,7,2⟩,⟨2,9,4⟩,⟨2,13,4⟩,⟨3,17,8⟩,⟨3,25,8⟩,⟨4,33,16⟩,⟨4,49,16⟩,⟨5,65,32⟩,⟨5,97,32⟩,⟨6,129,64⟩,⟨6,193,64⟩,⟨7,257,128⟩,⟨7,385,128⟩,⟨8,513,256⟩,⟨8,769,256⟩,⟨9,1025,512⟩,⟨9,1537,512⟩,⟨10,2049,1024⟩,⟨10,3073,1024⟩,⟨11,4097,2048⟩,⟨11,6145,2048⟩,⟨12,8193,4096⟩,⟨12,12289,4096⟩,⟨13,16385,8192⟩,⟨13,24577,8192⟩]
theorem zz (T:List Sy) (hT:T = aJ):SpecH false Tryz.prog 160 [] [] (.agg [iD 257,.ref 0 0 0 29 3]) [⟨T.flatMap gX, 248, true⟩]:=by
 refine SpecH.run T_ok ai Tryz.func160 rfl rfl rfl ⟨ej (fun _=>rfl) _,trivial⟩ rfl 4000 64 (fun R ok=>(.s 1376 (.out [5080] [5080] (D.agg [zI 257,D.ref 0 0 0 29 3]) [Blk.mk [zI 0,zI 3,zI 1,zI 0,zI 4,zI 1,zI 0,zI 5,zI 1,zI 0,zI 6,zI 1,zI 0,zI 7,zI 1,zI 0,zI 8,zI 1,zI 0,zI 9,zI 1,zI 0,zI 10,zI 1,zI 1,zI 11,zI 2,zI 1,zI 13,zI 2,zI 1,zI 15,zI 2,zI 1,zI 17,zI 2,zI 2,zI 19,zI 4,zI 2,zI 23,zI 4,zI 2,zI 27,zI 4,zI 2,zI 31,zI 4,zI 3,zI 35,zI 8,zI 3,zI 43,zI 8,zI 3,zI 51,zI 8,zI 3,zI 59,zI 8,zI 4,zI 67,zI 16,zI 4,zI 83,zI 16,zI 4,zI 99,zI 16,zI 4,zI 115,zI 16,zI 5,zI 131,zI 32,zI 5,zI 163,zI 32,zI 5,zI 195,zI 32,zI 5,zI 227,zI 31,zI 0,zI 258,zI 1] 248 true] R (ok _ _ wr (by (subst hT; rfl)))))) (by kernel_rfl)
theorem D1 (T:List Sy) (hT:T = a9):SpecH false Tryz.prog 163 [] [] (.agg [iD 0,.ref 0 0 0 30 3]) [⟨T.flatMap gX, 248, true⟩]:=by
 refine SpecH.run T_ok ai Tryz.func163 rfl rfl rfl ⟨ej (fun _=>rfl) _,trivial⟩ rfl 4000 64 (fun R ok=>(.s 1562 (.out [5768] [5768] (D.agg [zI 0,D.ref 0 0 0 30 3]) [Blk.mk [zI 0,zI 1,zI 1,zI 0,zI 2,zI 1,zI 0,zI 3,zI 1,zI 0,zI 4,zI 1,zI 1,zI 5,zI 2,zI 1,zI 7,zI 2,zI 2,zI 9,zI 4,zI 2,zI 13,zI 4,zI 3,zI 17,zI 8,zI 3,zI 25,zI 8,zI 4,zI 33,zI 16,zI 4,zI 49,zI 16,zI 5,zI 65,zI 32,zI 5,zI 97,zI 32,zI 6,zI 129,zI 64,zI 6,zI 193,zI 64,zI 7,zI 257,zI 128,zI 7,zI 385,zI 128,zI 8,zI 513,zI 256,zI 8,zI 769,zI 256,zI 9,zI 1025,zI 512,zI 9,zI 1537,zI 512,zI 10,zI 2049,zI 1024,zI 10,zI 3073,zI 1024,zI 11,zI 4097,zI 2048,zI 11,zI 6145,zI 2048,zI 12,zI 8193,zI 4096,zI 12,zI 12289,zI 4096,zI 13,zI 16385,zI 8192,zI 13,zI 24577,zI 8192] 248 true] R (ok _ _ wr (by (subst hT; rfl)))))) (by kernel_rfl)
end Vp
end Go.Proofs.YtefjnofhgkjpmaaGreat
namespace Go.Proofs.YtefjnofhgkjpmaaGreat
open Go.RowKit Go.Bw Go.Vx
open List (length getD map take drop flatMap replicate)
namespace Vp
theorem yw {p:Prop} (h:p:=by (refine aO ?_; (omega))):p:=h
theorem D2 {p:Prop} (h:p:=by (simp only [bn (k:=2) (fun (x:Rn)=>(rfl:(et x).length = 2)),Nat.beq_refl,Bool.true_and,Bool.and_true]; refine Nat.ble_eq_true_of_le ?_; (omega))):p:=h
theorem D3 {p:Prop} (h:p:=by (rw [List.length_append]; rfl)):p:=h
theorem D4 {p:Prop} (h:p:=by (rw [List.length_append]; simp only [List.length_singleton]; (omega))):p:=h
theorem GN {p:Prop} (h:p:=by ((refine aH ?_ ?_) <;> (repeat' (first | (refine aH ?_ ?_) | (with_reducible rfl) | (refine decide_eq_true ?_) | (refine Nat.ble_eq_true_of_le ?_) | (refine eu ?_))) <;> (omega))):p:=h
theorem IY {p:Prop} (h:p:=by show n - (a + 1) < n - a; clear next1 last1; omega):p:=h
theorem JU {p:Prop} (h:p:=by (simp;  have h9:=ly (l:=l) (a:=a) om; omega)):p:=h
theorem JV {p:Prop} (h:p:=by ( have h9:=ly (l:=l) (a:=a) om; omega)):p:=h
theorem JW {p:Prop} (h:p:=by (simp only [Nat.mul_one] at *;  have h9:=ly (l:=l) (a:=a) om; exact GS hR om om om om)):p:=h
def rZ (l:List UInt8) (a:Nat):Nat → Nat → Nat
 | 0,n=>n
 | f + 1,n=>if a + n < l.length ∧ l.getD (a + n) jk = l.getD a jk then rZ l a f (n + 1) else n
def co (l:List UInt8) (a:Nat):Nat:=lk l (rZ l a l.length 0)
theorem wU (l:List UInt8) (a:Nat):co l a = rZ l a l.length 0:=aF _ _
theorem JX {l:List UInt8} {a f n T:Nat} (hR:rZ l a f n = T) (hf:l.length ≤ a + n + f) (h:a + n < l.length) (h2:l.getD (a + n) jk = l.getD a jk):rZ l a (f - 1) (n + 1) = T:=by
 obtain ⟨g,rfl⟩:∃ g,f = g + 1:=⟨f - 1,by omega⟩
 rw [← hR]; exact (if_pos ⟨h,h2⟩).symm
theorem GO {l:List UInt8} {a f n T:Nat} (hR:rZ l a f n = T) (h:¬ (a + n < l.length ∧ l.getD (a + n) jk = l.getD a jk)):n = T:=by
 rw [← hR]; cases f with
 | zero=>rfl
 | succ f=>exact (if_neg h).symm
theorem Cb {x y:UInt8} (h:((x.toNat:Nat):Int) = ((y.toNat:Nat):Int)):x = y:=UInt8.toNat_inj.1 (by omega)
theorem GP {l:List UInt8} {a f n T u v:Nat} (hR:rZ l a f n = T) (hf:l.length ≤ a + n + f) (h:a + n < l.length) (hu:u = a + n) (hv:v = a) (h2:(((l.getD u jk).toNat:Nat):Int) = (((l.getD v jk).toNat:Nat):Int)):rZ l a (f - 1) (n + 1) = T:=by
 subst hu hv; exact JX hR hf h (Cb h2)
theorem GQ {l:List UInt8} {a f n T u v:Nat} (hR:rZ l a f n = T) (hu:u = a + n) (hv:v = a) (h2:(((l.getD u jk).toNat:Nat):Int) ≠ (((l.getD v jk).toNat:Nat):Int)):n = T:=by
 subst hu hv; exact GO hR (fun q=>h2 (by rw [q.2]))
theorem Cc {l:List UInt8} {a:Nat}:∀ (f n:Nat),a + n ≤ l.length → n ≤ rZ l a f n ∧ a + rZ l a f n ≤ l.length
 | 0,n,h=>⟨Mc _,h⟩
 | f + 1,n,h=>by
  rw [rZ]; split
  ·next q=>have:=Cc (l:=l) (a:=a) f (n + 1) (by omega); omega
  ·exact ⟨Mc _,h⟩
theorem ly {l:List UInt8} {a:Nat} (h:a < l.length):1 ≤ co l a ∧ a + co l a ≤ l.length:=by
 rw [wU]
 obtain ⟨f,hf⟩:∃ f,l.length = f + 1:=⟨l.length - 1,by omega⟩
 rw [hf,rZ,if_pos ⟨by omega,by rw [N0]⟩]
 have:=Cc (l:=l) (a:=a) f (0 + 1) (by omega)
 omega
def jp (l:List UInt8):Nat → Nat → List Rn
 | 0,_=>[]
 | f + 1,a=>if l.length ≤ a then []
  else if (l.getD a jk).toNat = 0 ∧ 11 ≤ co l a then ⟨18,min (co l a) 138 - 11⟩ :: jp l f (a + min (co l a) 138)
  else if (l.getD a jk).toNat = 0 ∧ 3 ≤ co l a then ⟨17,co l a - 3⟩ :: jp l f (a + co l a)
  else if 0 < (l.getD a jk).toNat ∧ 0 < a ∧ (l.getD (a - 1) jk).toNat = (l.getD a jk).toNat ∧ 3 ≤ co l a then ⟨16,min (co l a) 6 - 3⟩ :: jp l f (a + min (co l a) 6)
  else ⟨(l.getD a jk).toNat,0⟩ :: jp l f (a + 1)
def vm (l:List UInt8):List Rn:=lk l (jp l l.length 0)
theorem r6 (l:List UInt8):vm l = jp l l.length 0:=aF _ _
section
variable {l:List UInt8} {f a:Nat} {o T:List Rn}
theorem GR (hR:o ++ jp l f a = T) (h:l.length ≤ a):o = T:=by
 rw [← hR]; cases f with
 | zero=>exact (MN _).symm
 | succ f=>rw [jp,if_pos h]; exact (MN _).symm
theorem JY (hR:o ++ jp l f a = T) (hf:l.length ≤ a + f) (h:a < l.length) (h0:(l.getD a jk).toNat = 0) (h1:11 ≤ co l a):(o ++ [⟨18,min (co l a) 138 - 11⟩]) ++ jp l (f - 1) (a + min (co l a) 138) = T:=by
 obtain ⟨g,rfl⟩:∃ g,f = g + 1:=⟨f - 1,by omega⟩
 rw [← hR,jp,if_neg (by omega),if_pos ⟨h0,h1⟩,Mo]; rfl
theorem JZ (hR:o ++ jp l f a = T) (hf:l.length ≤ a + f) (h:a < l.length) (h0:(l.getD a jk).toNat = 0) (h1:¬ 11 ≤ co l a) (h2:3 ≤ co l a):(o ++ [⟨17,co l a - 3⟩]) ++ jp l (f - 1) (a + co l a) = T:=by
 obtain ⟨g,rfl⟩:∃ g,f = g + 1:=⟨f - 1,by omega⟩
 rw [← hR,jp,if_neg (by omega),if_neg (fun q=>h1 q.2),if_pos ⟨h0,h2⟩,Mo]; rfl
theorem J0 (hR:o ++ jp l f a = T) (hf:l.length ≤ a + f) (h:a < l.length) (h0:0 < (l.getD a jk).toNat) (ha:0 < a) (h1:(l.getD (a - 1) jk).toNat = (l.getD a jk).toNat) (h2:3 ≤ co l a):(o ++ [⟨16,min (co l a) 6 - 3⟩]) ++ jp l (f - 1) (a + min (co l a) 6) = T:=by
 obtain ⟨g,rfl⟩:∃ g,f = g + 1:=⟨f - 1,by omega⟩
 rw [← hR,jp,if_neg (by omega),if_neg (fun q=>by omega),if_neg (fun q=>by omega),if_pos ⟨h0,ha,h1,h2⟩,Mo]; rfl
theorem GS (hR:o ++ jp l f a = T) (hf:l.length ≤ a + f) (h:a < l.length) (h0:¬ ((l.getD a jk).toNat = 0 ∧ 3 ≤ co l a)) (h1:¬ (0 < (l.getD a jk).toNat ∧ 0 < a ∧ (l.getD (a - 1) jk).toNat = (l.getD a jk).toNat ∧ 3 ≤ co l a)):(o ++ [⟨(l.getD a jk).toNat,0⟩]) ++ jp l (f - 1) (a + 1) = T:=by
 obtain ⟨g,rfl⟩:∃ g,f = g + 1:=⟨f - 1,by omega⟩
 rw [← hR,jp,if_neg (by omega),if_neg (fun q=>h0 ⟨q.1,by omega⟩),if_neg h0,if_neg h1,Mo]; rfl
end
theorem zA (l:List UInt8) (n:Nat) (hn:n = l.length) (hn2:n ≤ 320) (a:Nat) (ha:a < n):SpecH false Tryz.prog 147 [nD a,.ep [.sl false n 1 (l.map dB)] 0] [] (nD (co l a)) []:=by
 refine SpecH.run T_ok ai Tryz.func147 rfl rfl rfl trivial rfl 1000 64 (fun R ok=>(.s 1 (Hn.inl T_ok ai false 26 0 (aA Tryz.prog 147 0) (fun (x:(i:Nat) ×' (f:Nat) ×' (hi:a + i ≤ n) ×' (hf:n ≤ a + i + f) ×' (hR:rZ l a f i = co l a) ×' Unit)=>match x with | ⟨i,f,hi,hf,hR,_⟩=>CutS.mk [(0,zN a),(1,D.ep [D.sl false n 1 (map dB l)] 0),(3,nD i)] [] 0) (fun (x:(i:Nat) ×' (f:Nat) ×' (hi:a + i ≤ n) ×' (hf:n ≤ a + i + f) ×' (hR:rZ l a f i = co l a) ×' Unit)=>match x with | ⟨i,f,hi,hf,hR,_⟩=>n - i) [⟨Unit,.exit 0,fun x=>match x with | ()=>CutS.mk [(0,zN a),(1,D.ep [D.sl false n 1 (map dB l)] 0),(3,nD (co l a))] [] 0⟩] 1000 64 (fun | ⟨i,f,hi,hf,hR,_⟩,Q,next1,last1=>(.s 5 (.ow ((a:Int) + (i:Int)) (.s 8 (.br (decide ((a:Int) + (i:Int) < (n:Int))) (fun p0=>have p0f:=aT p0; (.s 9 (.ow ((a:Int) + (i:Int)) (.s 2 (.chk (true && decide ((a:Int) + (i:Int) < (n:Int)) && true) GN (.s 3 (.opt ((map dB l)[uV ((a:Int) + (i:Int)) * 1]?) (dB (getD l (uV ((a:Int) + (i:Int)) * 1) jk)) (av _ _ om) (.s 8 (.chk (true && decide ((a:Int) < (n:Int)) && true) GN (.s 3 (.opt ((map dB l)[a * 1]?) (dB (getD l (a * 1) jk)) (av _ _ om) (.s 4 (.br ((↑(LW (getD l (uV ((a:Int) + (i:Int)) * 1) jk)):Int) == (↑(LW (getD l (a * 1) jk)):Int)) (fun p1=>have p1f:=eq_of_beq p1; (.s 3 (.ow ((i:Int) + 1) (.s 1 (.val 3 (zI ((i:Int) + 1)) (zN (i + 1)) yw (Hn.next next1 ⟨(i + 1),(f - 1),om,om,(by ( exact GP (u:=((a:Int) + (i:Int)).toNat * 1) (v:=a * 1) hR om om om om om)),⟨⟩⟩ (by show n - (i + 1) < n - i; clear next1 last1; omega) [] ro)))))) (fun p1=>have p1f:=au p1; (.val 3 (zN i) (zN (co l a)) (by ( rw [GQ (u:=((a:Int) + (i:Int)).toNat * 1) (v:=a * 1) hR om om om])) (Hn.last last1 0 (():Unit) rfl [] ro)))))))))))))))) (fun p0=>have p0f:=aU p0; (.s 22 (.val 3 (zN i) (zN (co l a)) (by ( rw [GO hR om])) (Hn.last last1 0 (():Unit) rfl [] ro))))))))) (fun | ⟨i,f,hi,hf,hR,_⟩=>by kernel_rfl) ⟨(0),(n),om,om,(by (rw [hn]; exact (wU l a).symm)),⟨⟩⟩ [] ro (cb (fun | ()=>(.s 2 (.out [] [] (zN (co l a)) [] R (ok _ _ wr wr)))))))) (by kernel_rfl)
theorem GU (n k:Nat):fC .i64 false (n:Int) (k:Int) = some (nD (min n k)):=zr (by omega)
theorem iQ (l:List UInt8):∀ (f a:Nat),(jp l f a).length ≤ f
 | 0,_=>Mc _
 | f + 1,a=>by
  rw [jp]
  split
  ·exact MK _
  ·split
   ·exact NP (iQ l f _)
   ·split
    ·exact NP (iQ l f _)
    ·split
     ·exact NP (iQ l f _)
     ·exact NP (iQ l f _)
theorem J1 (l:List UInt8) (n:Nat) (hn:n = l.length) (hn2:n ≤ 320) (ho:∀ i,i < n → (l.getD i jk).toNat ≤ 15) (T:List Rn) (hT:vm l = T):SpecH false Tryz.prog 110 [.sl false n 1 (l.map dB)] [] (.tup [.ref 0 0 0 T.length 2,iD 0]) [⟨T.flatMap et, 187, true⟩]:=by
 refine SpecH.run T_ok ai Tryz.func110 rfl rfl rfl ⟨ej (fun _=>rfl) _,trivial⟩ rfl 1000 64 (fun R ok=>(.s 10 (.f (decide (320 < (n:Int))) (by (refine decide_eq_false ?_; (omega))) (.s 5 (Hn.inl T_ok ai false 101 0 (aA Tryz.prog 110 0) (fun (x:(i:Nat) ×' (hi:i ≤ n) ×' Unit)=>match x with | ⟨i,hi,_⟩=>CutS.mk [(1,D.ptr 0 0 0),(2,aR),(13,D.sl false n 1 (map dB l)),(14,zN n),(15,nD i)] [⟨0,0,0,0,.b ⟨[D.sl false n 1 (map dB l)],24,false⟩⟩] 8) (fun (x:(i:Nat) ×' (hi:i ≤ n) ×' Unit)=>match x with | ⟨i,hi,_⟩=>n - i) [⟨Unit,.exit 0,fun x=>match x with | ()=>CutS.mk [(1,D.ptr 0 0 0),(2,aR),(13,D.sl false n 1 (map dB l)),(14,zN n),(15,nD n)] [⟨0,0,0,0,.b ⟨[D.sl false n 1 (map dB l)],24,false⟩⟩] 8⟩] 1000 64 (fun | ⟨i,hi,_⟩,Q,next1,last1=>(.s 2 (.br (decide ((i:Int) < (n:Int))) (fun p0=>have p0f:=aT p0; (.s 1 (.chk (true && decide ((i:Int) < (n:Int)) && true) GN (.s 2 (.opt ((map dB l)[i * 1]?) (dB (getD l (i * 1) jk)) (av _ _ om) (.s 4 (.f (decide (15 < (↑(LW (getD l (i * 1) jk)):Int))) (by (refine decide_eq_false ?_;  have h9:=ho (i * 1) om; omega)) (.s 2 (.ow ((i:Int) + 1) (.s 1 (.val 15 (zI ((i:Int) + 1)) (zN (i + 1)) yw (Hn.next next1 ⟨(i + 1),om,⟨⟩⟩ (by show n - (i + 1) < n - i; clear next1 last1; omega) [(0,0)] ro)))))))))))) (fun p0=>have p0f:=aU p0; (.val 15 (zN i) (zN n) yw (Hn.last last1 0 (():Unit) rfl [(0,0)] ro)))))) (fun | ⟨i,hi,_⟩=>by kernel_rfl) ⟨(0),om,⟨⟩⟩ [(0,0)] ro (cb (fun | ()=>(.s 3 (.nils 2 32 2 187 (Hn.inl T_ok ai false 101 0 (aA Tryz.prog 110 1) (fun (x:(a:Nat) ×' (f:Nat) ×' (o:List Rn) ×' (ha:a ≤ n) ×' (hf:n ≤ a + f) ×' (hq:o.length ≤ a) ×' (hR:o ++ jp l f a = T) ×' Unit)=>match x with | ⟨a,f,o,ha,hf,hq,hR,_⟩=>CutS.mk [(1,D.ptr 0 0 0),(2,(D.ref 8 8 (0) (o.length) 2)),(6,D.fn (MB 147) [] [D.ptr 0 0 0]),(7,nD a)] [⟨0,0,0,0,.b ⟨[D.sl false n 1 (map dB l)],24,false⟩⟩,⟨8,8,32,32,.b ⟨o.flatMap et,187,true⟩⟩] 16) (fun (x:(a:Nat) ×' (f:Nat) ×' (o:List Rn) ×' (ha:a ≤ n) ×' (hf:n ≤ a + f) ×' (hq:o.length ≤ a) ×' (hR:o ++ jp l f a = T) ×' Unit)=>match x with | ⟨a,f,o,ha,hf,hq,hR,_⟩=>n - a) [⟨Unit,.exit 2,fun x=>match x with | ()=>CutS.mk [(1,D.ptr 0 0 0),(2,(D.ref 8 8 (0) (T.length) 2)),(6,D.fn (MB 147) [] [D.ptr 0 0 0])] [⟨0,0,0,0,.b ⟨[D.sl false n 1 (map dB l)],24,false⟩⟩,⟨8,8,32,32,.b ⟨T.flatMap et,187,true⟩⟩] 16⟩] 1000 64 (fun | ⟨a,f,o,ha,hf,hq,hR,_⟩,Q,next1,last1=>(.s 7 (.br (decide ((a:Int) < (n:Int))) (fun p1=>have p1f:=aT p1; (.s 4 (.cl 147 false [] (.fn JK (@zA (l) (n) om om (a) om)) (.s 5 (.chk (true && decide ((a:Int) < (n:Int)) && true) GN (.s 2 (.opt ((map dB l)[a * 1]?) (dB (getD l (a * 1) jk)) (av _ _ om) (.s 1 (.op (↑(LW (getD l (a * 1) jk)):Int) (by (exact fV _ (by decide) (by decide))) (.s 7 (.br ((↑(LW (getD l (a * 1) jk)):Int) == 0) (fun p2=>have p2f:=eq_of_beq p2; (.s 5 (.br (decide (11 ≤ (↑(co l a):Int))) (fun p3=>have p3f:=aT p3; (.s 2 (.opt (fC Mi false (↑(co l a):Int) (↑138:Int)) (nD (min (co l a) 138)) (@GU (co l a) 138 ) (.s 5 (.ow ((↑(min (co l a) 138):Int) - 11) (.s 5 (.chk (true && LV (length o * 2) (length (flatMap et o)) && true && true && true && true && LX ((length o + 1) * 16) 140737488355328) D2 (.s 5 (.ow ((a:Int) + (↑(min (co l a) 138):Int)) (.s 1 (.val 2 (D.ref 248 248 0 (length o + 1) 2) (D.ref 248 248 0 (length (o ++ [Rn.mk 18 (min (co l a) 138 - 11)])) 2) D3 (.val 7 (zI ((a:Int) + (↑(min (co l a) 138):Int))) (zN (a + min (co l a) 138)) yw (.blk 248 248 (Blk.mk (flatMap et o ++ [zI 18,zI ((↑(min (co l a) 138):Int) - 11)]) 187 true) (Blk.mk (flatMap et (o ++ [Rn.mk 18 (min (co l a) 138 - 11)])) 187 true) JU (Hn.next next1 ⟨(a + min (co l a) 138),(f - 1),(o ++ [⟨18,min (co l a) 138 - 11⟩]),JV,om,D4,(by (simp only [Ms] at *;  have h9:=ly (l:=l) (a:=a) om; exact JY hR om om om om)),⟨⟩⟩ (by show n - (a + min (co l a) 138) < n - a; clear next1 last1; omega) [(0,0),(248,248)] ro)))))))))))))) (fun p3=>have p3f:=aU p3; (.s 5 (.t ((↑(LW (getD l (a * 1) jk)):Int) == 0) p2 (.s 5 (.br (decide (3 ≤ (↑(co l a):Int))) (fun p4=>have p4f:=aT p4; (.s 4 (.ow ((↑(co l a):Int) - 3) (.s 5 (.chk (true && LV (length o * 2) (length (flatMap et o)) && true && true && true && true && LX ((length o + 1) * 16) 140737488355328) D2 (.s 5 (.ow ((a:Int) + (↑(co l a):Int)) (.s 1 (.val 2 (D.ref 280 280 0 (length o + 1) 2) (D.ref 280 280 0 (length (o ++ [Rn.mk 17 (co l a - 3)])) 2) D3 (.val 7 (zI ((a:Int) + (↑(co l a):Int))) (zN (a + co l a)) yw (.blk 280 280 (Blk.mk (flatMap et o ++ [zI 17,zI ((↑(co l a):Int) - 3)]) 187 true) (Blk.mk (flatMap et (o ++ [Rn.mk 17 (co l a - 3)])) 187 true) JU (Hn.next next1 ⟨(a + co l a),(f - 1),(o ++ [⟨17,co l a - 3⟩]),JV,om,D4,(by (simp only [Ms] at *;  have h9:=ly (l:=l) (a:=a) om; exact JZ hR om om om om om)),⟨⟩⟩ (by show n - (a + co l a) < n - a; clear next1 last1; omega) [(0,0),(280,280)] ro)))))))))))) (fun p4=>have p4f:=aU p4; (.s 5 (.f (decide (0 < (↑(LW (getD l (a * 1) jk)):Int))) (by (refine decide_eq_false ?_; (omega))) (.s 37 (.chk (true && LV (length o * 2) (length (flatMap et o)) && true && true && true && true && LX ((length o + 1) * 16) 140737488355328) D2 (.s 5 (.ow ((a:Int) + 1) (.s 1 (.val 2 (D.ref 448 448 0 (length o + 1) 2) (D.ref 448 448 0 (length (o ++ [Rn.mk (LW (getD l a jk)) 0])) 2) D3 (.val 7 (zI ((a:Int) + 1)) (zN (a + 1)) yw (.blk 448 448 (Blk.mk (flatMap et o ++ [zN (LW (getD l (a * 1) jk)),zI 0]) 187 true) (Blk.mk (flatMap et (o ++ [Rn.mk (LW (getD l a jk)) 0])) 187 true) (by (simp; done)) (Hn.next next1 ⟨(a + 1),(f - 1),(o ++ [⟨(l.getD a jk).toNat,0⟩]),om,om,D4,JW,⟨⟩⟩ IY [(0,0),(448,448)] ro)))))))))))))))))))) (fun p2=>have p2f:=au p2; (.s 10 (.f ((↑(LW (getD l (a * 1) jk)):Int) == 0) p2 (.s 10 (.t (decide (0 < (↑(LW (getD l (a * 1) jk)):Int))) (by (refine decide_eq_true ?_; (omega))) (.s 6 (.br (decide (0 < (a:Int))) (fun p5=>have p5f:=aT p5; (.s 7 (.ow ((a:Int) - 1) (.s 2 (.chk (decide (0 ≤ (a:Int) - 1) && decide ((a:Int) - 1 < (n:Int)) && true) GN (.s 3 (.opt ((map dB l)[uV ((a:Int) - 1) * 1]?) (dB (getD l (uV ((a:Int) - 1) * 1) jk)) (av _ _ om) (.s 2 (.op (↑(LW (getD l (uV ((a:Int) - 1) * 1) jk)):Int) (by (exact fV _ (by decide) (by decide))) (.s 8 (.br ((↑(LW (getD l (uV ((a:Int) - 1) * 1) jk)):Int) == (↑(LW (getD l (a * 1) jk)):Int)) (fun p6=>have p6f:=eq_of_beq p6; (.s 5 (.br (decide (3 ≤ (↑(co l a):Int))) (fun p7=>have p7f:=aT p7; (.s 2 (.opt (fC Mi false (↑(co l a):Int) (↑6:Int)) (nD (min (co l a) 6)) (@GU (co l a) 6 ) (.s 5 (.ow ((↑(min (co l a) 6):Int) - 3) (.s 5 (.chk (true && LV (length o * 2) (length (flatMap et o)) && true && true && true && true && LX ((length o + 1) * 16) 140737488355328) D2 (.s 5 (.ow ((a:Int) + (↑(min (co l a) 6):Int)) (.s 1 (.val 2 (D.ref 472 472 0 (length o + 1) 2) (D.ref 472 472 0 (length (o ++ [Rn.mk 16 (min (co l a) 6 - 3)])) 2) D3 (.val 7 (zI ((a:Int) + (↑(min (co l a) 6):Int))) (zN (a + min (co l a) 6)) yw (.blk 472 472 (Blk.mk (flatMap et o ++ [zI 16,zI ((↑(min (co l a) 6):Int) - 3)]) 187 true) (Blk.mk (flatMap et (o ++ [Rn.mk 16 (min (co l a) 6 - 3)])) 187 true) JU (Hn.next next1 ⟨(a + min (co l a) 6),(f - 1),(o ++ [⟨16,min (co l a) 6 - 3⟩]),JV,om,D4,(by (simp only [Ms] at *;  have h9:=ly (l:=l) (a:=a) om; exact J0 hR om om om om (by rw [show ((a:Int) - 1).toNat = a - 1 from by omega] at *; omega) om)),⟨⟩⟩ (by show n - (a + min (co l a) 6) < n - a; clear next1 last1; omega) [(0,0),(472,472)] ro)))))))))))))) (fun p7=>have p7f:=aU p7; (.s 8 (.chk (true && LV (length o * 2) (length (flatMap et o)) && true && true && true && true && LX ((length o + 1) * 16) 140737488355328) D2 (.s 5 (.ow ((a:Int) + 1) (.s 1 (.val 2 (D.ref 448 448 0 (length o + 1) 2) (D.ref 448 448 0 (length (o ++ [Rn.mk (LW (getD l a jk)) 0])) 2) D3 (.val 7 (zI ((a:Int) + 1)) (zN (a + 1)) yw (.blk 448 448 (Blk.mk (flatMap et o ++ [zN (LW (getD l (a * 1) jk)),zI 0]) 187 true) (Blk.mk (flatMap et (o ++ [Rn.mk (LW (getD l a jk)) 0])) 187 true) (by (simp; done)) (Hn.next next1 ⟨(a + 1),(f - 1),(o ++ [⟨(l.getD a jk).toNat,0⟩]),om,om,D4,JW,⟨⟩⟩ IY [(0,0),(448,448)] ro))))))))))))) (fun p6=>have p6f:=au p6; (.s 13 (.chk (true && LV (length o * 2) (length (flatMap et o)) && true && true && true && true && LX ((length o + 1) * 16) 140737488355328) D2 (.s 5 (.ow ((a:Int) + 1) (.s 1 (.val 2 (D.ref 448 448 0 (length o + 1) 2) (D.ref 448 448 0 (length (o ++ [Rn.mk (LW (getD l a jk)) 0])) 2) D3 (.val 7 (zI ((a:Int) + 1)) (zN (a + 1)) yw (.blk 448 448 (Blk.mk (flatMap et o ++ [zN (LW (getD l (a * 1) jk)),zI 0]) 187 true) (Blk.mk (flatMap et (o ++ [Rn.mk (LW (getD l a jk)) 0])) 187 true) (by (simp; done)) (Hn.next next1 ⟨(a + 1),(f - 1),(o ++ [⟨(l.getD a jk).toNat,0⟩]),om,om,D4,(by (simp only [Ms] at *;  have h9:=ly (l:=l) (a:=a) om; rw [show ((a:Int) - 1).toNat = a - 1 from by omega] at *; exact GS hR om om om om)),⟨⟩⟩ IY [(0,0),(448,448)] ro))))))))))))))))))))) (fun p5=>have p5f:=aU p5; (.s 31 (.chk (true && LV (length o * 2) (length (flatMap et o)) && true && true && true && true && LX ((length o + 1) * 16) 140737488355328) D2 (.s 5 (.ow ((a:Int) + 1) (.s 1 (.val 2 (D.ref 448 448 0 (length o + 1) 2) (D.ref 448 448 0 (length (o ++ [Rn.mk (LW (getD l a jk)) 0])) 2) D3 (.val 7 (zI ((a:Int) + 1)) (zN (a + 1)) yw (.blk 448 448 (Blk.mk (flatMap et o ++ [zN (LW (getD l (a * 1) jk)),zI 0]) 187 true) (Blk.mk (flatMap et (o ++ [Rn.mk (LW (getD l a jk)) 0])) 187 true) (by (simp; done)) (Hn.next next1 ⟨(a + 1),(f - 1),(o ++ [⟨(l.getD a jk).toNat,0⟩]),om,om,D4,JW,⟨⟩⟩ IY [(0,0),(448,448)] ro)))))))))))))))))))))))))))) (fun p1=>have p1f:=aU p1; (.val 2 (D.ref 8 8 0 (length o) 2) (D.ref 8 8 0 (length T) 2) (by ( rw [GR hR om])) (.blk 8 8 (Blk.mk (flatMap et o) 187 true) (Blk.mk (flatMap et T) 187 true) (by ( rw [GR hR om])) (Hn.last last1 0 (():Unit) rfl [(0,0),(8,8)] ro))))))) (fun | ⟨a,f,o,ha,hf,hq,hR,_⟩=>by kernel_rfl) ⟨(0),(n),([]),om,om,(by (simp; done)),(by (rw [hn]; exact (r6 l).symm.trans hT)),⟨⟩⟩ [(0,0),(32,32)] ro (cb (fun | ()=>(.s 3 (.out [8] [8] (D.tup [D.ref 0 0 0 (length T) 2,zI 0]) [Blk.mk (flatMap et T) 187 true] R (ok _ _ wr wr))))))))))))))) (by kernel_rfl)
end Vp
end Go.Proofs.YtefjnofhgkjpmaaGreat
namespace Go.Proofs.YtefjnofhgkjpmaaGreat
open Go.RowKit Go.Bw Go.Vx
namespace Vp
def yo (T:List Sy) (f:Int) (s:Nat):Nat:=if f ≤ s ∧ s < f + T.length then 0 else 90
def bZ (T:List Sy):Prop:=∀ i,(T.getD i jk).bits ≤ 13 ∧ (T.getD i jk).least ≤ 100000 ∧ (T.getD i jk).many ≤ 100000
theorem qf {T:List Sy} (h:T.all (fun y=>decide (y.bits ≤ 13) && decide (y.least ≤ 100000) && decide (y.many ≤ 100000)) = true):bZ T:=fun i=>by
 rw [List.getD_eq_getElem?_getD]
 cases hq:T[i]? with
 | none=>exact ⟨MK _,MK _,MK _⟩
 | some y =>
  have:=List.all_eq_true.1 h y (List.mem_of_getElem? hq)
  simp only [LY,decide_eq_true_eq] at this
  exact ⟨this.1.1,this.1.2,this.2⟩
theorem GV {x:Int} (h:-9223372036854775808 ≤ x ∧ x ≤ 9223372036854775807):IntKind.i64.wrap x = x:=by
 have h2:=ft (x:=x) h
 rw [aM] at h2
 injection h2 with h3; injection h3 with h4; injection h4
theorem dc:bZ aJ:=qf (by decide)
theorem dD:bZ a9:=qf (by decide)
end Vp
end Go.Proofs.YtefjnofhgkjpmaaGreat
namespace Go.Proofs.YtefjnofhgkjpmaaGreat
open Go.RowKit Go.Bw Go.Vx
open List (length getD map take drop flatMap replicate)
namespace Vp
theorem J2 {p:Prop} (h:p:=by ( have q:=J3 hR om om rfl om om; have h9:=hz i; subst q; refine aO ?_; omega)):p:=h
def GW (s:Sy) (n:Nat):Bool:=decide (s.least ≤ n ∧ n < s.least + s.many)
def nk (T:List Sy) (n:Nat):Nat → Nat → Nat
 | 0,i=>i
 | f + 1,i=>if GW (T.getD i jk) n = true then i else nk T n f (i + 1)
def ao (T:List Sy) (n:Nat):Nat:=lk T (nk T n T.length 0)
theorem lD (T:List Sy) (n:Nat):ao T n = nk T n T.length 0:=aF _ _
theorem Cd {T:List Sy} {n:Nat}:∀ (f i:Nat),i ≤ nk T n f i
 | 0,_=>Mc _
 | f + 1,i=>by
  rw [nk]; split
  ·exact Mc _
  ·exact Nat.le_of_succ_le (Cd f (i + 1))
theorem J3 {T:List Sy} {n f i I u:Nat} (hR:nk T n f i = I) (hf:T.length ≤ i + f) (hi:i < T.length) (hu:u = i) (h1:(T.getD u jk).least ≤ n) (h2:n < (T.getD u jk).least + (T.getD u jk).many):i = I:=by
 subst hu
 obtain ⟨g,rfl⟩:∃ g,f = g + 1:=⟨f - 1,by omega⟩
 rw [← hR,nk,if_pos (show GW (T.getD u jk) n = true from decide_eq_true ⟨h1,h2⟩)]
theorem zB {T:List Sy} {n f i I u:Nat} (hR:nk T n f i = I) (hf:T.length ≤ i + f) (hi:i < T.length) (hu:u = i) (h:¬ ((T.getD u jk).least ≤ n ∧ n < (T.getD u jk).least + (T.getD u jk).many)):nk T n (f - 1) (i + 1) = I ∧ i + 1 ≤ I:=by
 subst hu
 obtain ⟨g,rfl⟩:∃ g,f = g + 1:=⟨f - 1,by omega⟩
 rw [nk,if_neg (fun q:GW (T.getD u jk) n = true=>h (of_decide_eq_true q))] at hR
 exact ⟨hR,by rw [← hR]; exact Cd g (u + 1)⟩
theorem Ce {T:List Sy} {n:Nat}:∀ (f i:Nat),nk T n f i < i + f → (T.getD (nk T n f i) jk).least ≤ n ∧ n < (T.getD (nk T n f i) jk).least + (T.getD (nk T n f i) jk).many
 | 0,i,h=>absurd h (by rw [nk]; omega)
 | f + 1,i,h=>by
  rw [nk] at h ⊢
  by_cases q:GW (T.getD i jk) n = true
  ·rw [if_pos q]; exact of_decide_eq_true q
  ·rw [if_neg q] at h ⊢; exact Ce f (i + 1) (by omega)
def J4:List Sy → Nat → Nat → Bool
 | [],a,b=>LV a b
 | s :: l,a,b=>LV s.least a && J4 l (a + s.many) b
theorem wV {n b:Nat} (T:List Sy):∀ (f i a:Nat),i + f = T.length → J4 (T.drop i) a b = true → a ≤ n → n < b → nk T n f i < i + f
 | 0,i,a,h,hc,h1,h2=>by
  rw [M6 (by omega)] at hc
  have:=L4 hc
  omega
 | f + 1,i,a,h,hc,h1,h2=>by
  rw [Ni (by omega:i < T.length),J4,LY] at hc
  have e:T.getD i jk = T[i]'(by omega):=by rw [List.getD_eq_getElem?_getD,List.getElem?_eq_getElem (by omega)]; rfl
  have hl:=L4 hc.1
  rw [nk,e]
  by_cases q:GW (T[i]'(by omega)) n = true
  ·rw [if_pos q]; omega
  ·rw [if_neg q]
   have q2:=of_decide_eq_false (Bool.eq_false_iff.2 q)
   have:=wV (n:=n) (b:=b) T f (i + 1) (a + (T[i]'(by omega)).many) (by omega) hc.2 (by omega) h2
   omega
theorem wW (T:List Sy) (k:Nat) (hk:k = T.length) (hk2:k ≤ 64) (hz:bZ T) (b:Nat) (hb:b ≤ 257) (n:Nat) (hn:n ≤ 40000) (I:Nat) (hI:ao T n = I) (hIk:I < k):SpecH false Tryz.prog 173 [.agg [nD b,.sl false k 3 (T.flatMap gX)],nD n] [] (.tup [nD (b + I),nD (T.getD I jk).bits,nD (n - (T.getD I jk).least),iD 0]) []:=by
 refine SpecH.run T_ok ai Tryz.func173 rfl rfl rfl trivial rfl 1000 64 (fun R ok=>(.s 14 (Hn.inl T_ok ai false 42 0 (aA Tryz.prog 173 0) (fun (x:(i:Nat) ×' (f:Nat) ×' (hi:i ≤ k) ×' (hf:k ≤ i + f) ×' (hR:nk T n f i = I) ×' (hi2:i ≤ I) ×' Unit)=>match x with | ⟨i,f,hi,hf,hR,hi2,_⟩=>CutS.mk [(1,zN n),(2,D.ptr 0 0 0),(11,D.sl false k 3 (flatMap gX T)),(12,zN k),(13,nD i)] [⟨0,0,0,0,.b ⟨[zN b,D.sl false k 3 (flatMap gX T)],252,false⟩⟩] 8) (fun (x:(i:Nat) ×' (f:Nat) ×' (hi:i ≤ k) ×' (hf:k ≤ i + f) ×' (hR:nk T n f i = I) ×' (hi2:i ≤ I) ×' Unit)=>match x with | ⟨i,f,hi,hf,hR,hi2,_⟩=>k - i) [⟨Unit,.ret,fun x=>match x with | ()=>CutS.mk [(4,nD (b + I)),(5,nD (T.getD I jk).bits),(6,nD (n - (T.getD I jk).least)),(7,iD 0)] [⟨0,0,0,0,.b ⟨[zN b,D.sl false k 3 (flatMap gX T)],252,false⟩⟩] 8⟩] 1000 64 (fun | ⟨i,f,hi,hf,hR,hi2,_⟩,Q,next1,last1=>(.s 2 (.t (decide ((i:Int) < (k:Int))) (by (refine decide_eq_true ?_; (omega))) (.s 2 (.chk (true && decide ((i:Int) < (k:Int)) && true) (by ((refine aH ?_ ?_) <;> (repeat' (first | (refine aH ?_ ?_) | (with_reducible rfl) | (refine decide_eq_true ?_) | (refine L2 ?_) | (refine eu ?_))) <;> (omega))) (.s 2 (.chk (LX (i * 3 + 3) (length (flatMap gX T))) (by (rw [bn (k:=3) (fun _=>rfl)]; refine L2 ?_; (omega))) (.lst (take 3 (drop (i * 3) (flatMap gX T))) ([zN (Sy.bits (getD T i jk)),zN (Sy.least (getD T i jk)),zN (Sy.many (getD T i jk))]) (aD (k:=3) (i:=i) (fun _=>rfl) om om) (.s 17 (.br (decide ((↑(Sy.least (getD T i jk)):Int) ≤ (n:Int))) (fun p0=>have p0f:=aT p0; (.s 19 (.op ((↑(Sy.least (getD T i jk)):Int) + (↑(Sy.many (getD T i jk)):Int)) (by ( have h9:=hz i; omega)) (.s 4 (.br (decide ((n:Int) < (↑(Sy.least (getD T i jk)):Int) + (↑(Sy.many (getD T i jk)):Int))) (fun p1=>have p1f:=aT p1; (.s 10 (.ow ((b:Int) + (i:Int)) (.s 15 (.ow ((n:Int) - (↑(Sy.least (getD T i jk)):Int)) (.s 4 (.val 4 (zI ((b:Int) + (i:Int))) (zN (b + I)) J2 (.val 5 (zN (Sy.bits (getD T i jk))) (zN (Sy.bits (getD T I jk))) J2 (.val 6 (zI ((n:Int) - (↑(Sy.least (getD T i jk)):Int))) (zN (n - Sy.least (getD T I jk))) J2 (Hn.last last1 0 (():Unit) rfl [(0,0)] ro)))))))))) (fun p1=>have p1f:=aU p1; (.s 2 (.ow ((i:Int) + 1) (.s 1 (.val 13 (zI ((i:Int) + 1)) (zN (i + 1)) (by (refine aO ?_; (omega))) (Hn.next next1 ⟨(i + 1),(f - 1),om,om,(by ( exact (zB hR om om rfl om).1)),(by ( exact (zB hR om om rfl om).2)),⟨⟩⟩ (by show k - (i + 1) < k - i; clear next1 last1; omega) [(0,0)] ro))))))))))) (fun p0=>have p0f:=aU p0; (.s 16 (.ow ((i:Int) + 1) (.s 1 (.val 13 (zI ((i:Int) + 1)) (zN (i + 1)) (by (refine aO ?_; (omega))) (Hn.next next1 ⟨(i + 1),(f - 1),om,om,(by ( exact (zB hR om om rfl om).1)),(by ( exact (zB hR om om rfl om).2)),⟨⟩⟩ (by show k - (i + 1) < k - i; clear next1 last1; omega) [(0,0)] ro)))))))))))))))) (fun | ⟨i,f,hi,hf,hR,hi2,_⟩=>by kernel_rfl) ⟨(0),(k),om,om,(by (rw [hk]; exact (lD T n).symm.trans hI)),om,⟨⟩⟩ [(0,0)] ro (cb (fun | ()=>(.out [] [] (D.tup [zN (b + I),zN (Sy.bits (getD T I jk)),zN (n - Sy.least (getD T I jk)),zI 0]) [] R (ok _ _ wr wr))))))) (by kernel_rfl)
theorem D5 (T:List Sy) (hT:T = aJ) (hl:T.length = 29) (hz:bZ T) (n:Nat) (hn:n ≤ 40000) (I:Nat) (hI:ao T n = I) (hIk:I < 29):SpecH false Tryz.prog 142 [nD n] [] (.tup [nD (257 + I),nD (T.getD I jk).bits,nD (n - (T.getD I jk).least),iD 0]) []:=by
 refine SpecH.run T_ok ai Tryz.func142 rfl rfl rfl trivial rfl 1000 64 (fun R ok=>(.s 5 (.cl 160 false [] (.fn JN (@zz (T) bu)) (.s 2 (.call 173 false [] (true && (true && (true && LX 87 (length (flatMap gX T)) && true && ab (bif true && LV 87 (length (flatMap gX T)) then flatMap gX T else take 87 (drop 0 (flatMap gX T)))) && true) && true) (by (have q:ab (T.flatMap gX) = true:=da (f:=gX) (fun _=>rfl) T; rw [bn (f:=gX) (k:=3) (fun _=>rfl),hl]; simp only [show LX 87 (29 * 3) = true from rfl,show LV 87 (29 * 3) = true from rfl,Mp,cond_true,q])) ([D.agg [zI 257,D.sl true 29 3 (bif true && LV 87 (length (flatMap gX T)) then flatMap gX T else take 87 (drop 0 (flatMap gX T)))],zN n]) _ (by exact (Mb (D.sim.agg (Mb (D.sim.refl _) (Mb (D.sim.slw rfl (bg (by (have q:ab (T.flatMap gX) = true:=da (f:=gX) (fun _=>rfl) T; rw [bn (f:=gX) (k:=3) (fun _=>rfl),hl]; simp only [show LX 87 (29 * 3) = true from rfl,show LV 87 (29 * 3) = true from rfl,Mp,cond_true,q])) |>.trans rfl)) trivial))) (Mb (D.sim.refl _) trivial))) (true) wr _ _ _ (CallOk.fn (aw.of Tryz.func173 rfl rfl) (@wW (T) (29) om om om (257) (by (simp; done)) (n) om (I) bu om)) (.s 12 (.out [] [] (D.tup [zN (257 + I),zN (Sy.bits (getD T I jk)),zN (n - Sy.least (getD T I jk)),zI 0]) [] R (ok _ _ wr wr)))))))) (by kernel_rfl)
theorem GX (T:List Sy) (hT:T = a9) (hl:T.length = 30) (hz:bZ T) (n:Nat) (hn:n ≤ 40000) (I:Nat) (hI:ao T n = I) (hIk:I < 30):SpecH false Tryz.prog 143 [nD n] [] (.tup [nD (0 + I),nD (T.getD I jk).bits,nD (n - (T.getD I jk).least),iD 0]) []:=by
 refine SpecH.run T_ok ai Tryz.func143 rfl rfl rfl trivial rfl 1000 64 (fun R ok=>(.s 5 (.cl 163 false [] (.fn JO (@D1 (T) bu)) (.s 2 (.call 173 false [] (true && (true && (true && LX 90 (length (flatMap gX T)) && true && ab (bif true && LV 90 (length (flatMap gX T)) then flatMap gX T else take 90 (drop 0 (flatMap gX T)))) && true) && true) (by (have q:ab (T.flatMap gX) = true:=da (f:=gX) (fun _=>rfl) T; rw [bn (f:=gX) (k:=3) (fun _=>rfl),hl]; simp only [show LX 90 (30 * 3) = true from rfl,show LV 90 (30 * 3) = true from rfl,Mp,cond_true,q])) ([D.agg [zI 0,D.sl true 30 3 (bif true && LV 90 (length (flatMap gX T)) then flatMap gX T else take 90 (drop 0 (flatMap gX T)))],zN n]) _ (by exact (Mb (D.sim.agg (Mb (D.sim.refl _) (Mb (D.sim.slw rfl (bg (by (have q:ab (T.flatMap gX) = true:=da (f:=gX) (fun _=>rfl) T; rw [bn (f:=gX) (k:=3) (fun _=>rfl),hl]; simp only [show LX 90 (30 * 3) = true from rfl,show LV 90 (30 * 3) = true from rfl,Mp,cond_true,q])) |>.trans rfl)) trivial))) (Mb (D.sim.refl _) trivial))) (true) wr _ _ _ (CallOk.fn (aw.of Tryz.func173 rfl rfl) (@wW (T) (30) om om om (0) (by (simp; done)) (n) om (I) bu om)) (.s 12 (.out [] [] (D.tup [zN (0 + I),zN (Sy.bits (getD T I jk)),zN (n - Sy.least (getD T I jk)),zI 0]) [] R (ok _ _ wr wr)))))))) (by kernel_rfl)
end Vp
end Go.Proofs.YtefjnofhgkjpmaaGreat
namespace Go.Proofs.YtefjnofhgkjpmaaGreat
open Go.RowKit Go.Bw Go.Vx
open List (length getD map take drop flatMap replicate)
namespace Vp
theorem qg {p:Prop} (h:p:=by (refine aO ?_; rw [iP]; unfold rY;  (repeat' split) <;> first | omega | (simp_all; done))):p:=h
theorem J5 {x:Int} (h:-9223372036854775808 ≤ x ∧ x ≤ 9223372036854775807):IntKind.i64.wrap x = x:=by
 have h2:=ft (x:=x) h
 rw [aM] at h2
 injection h2 with h3; injection h3 with h4; injection h4
theorem tG {l:List UInt8} {i m:Nat} (ho:∀ j,j < i → (l.getD j jk).toNat ≤ m) (h:¬ ((m:Nat):Int) < (((l.getD (i * 1) jk).toNat:Nat):Int)):∀ j,j < i + 1 → (l.getD j jk).toNat ≤ m:=fun j hj=>by
 rcases Mv j i with q | q
 ·exact ho j q
 ·have q2:j = i:=by omega
  subst q2; rw [Ms] at h; omega
theorem J6 {l:List UInt8} {i:Nat} (h:i < l.length) (hN:l.length ≤ 1000000) (h1:0 < (l.getD (i * 1) jk).toNat) (h2:(l.getD (i * 1) jk).toNat ≤ 15):D.v (.int .i64 (IntKind.i64.wrap (((aX (l.take i):Nat):Int) + IntKind.i64.wrap (2 ^ min (15 - (((l.getD (i * 1) jk).toNat:Nat):Int)).toNat 64 * 1)))) = D.v (.int .i64 ((aX (l.take (i + 1)):Nat):Int)):=by
 refine aO ?_
 rw [Ms] at *
 rw [fW h]
 generalize (l.getD i jk).toNat = x at *
 have hk:=wQ (l.take i)
 rw [L5] at hk
 rw [if_neg (by omega),show min (15 - (x:Int)).toNat 64 = 15 - x from by omega]
 have hp:2 ^ (15 - x) ≤ 2 ^ 15:=MQ (by decide) (by omega)
 have e:(2:Int) ^ (15 - x) * 1 = ((2 ^ (15 - x):Nat):Int):=by push_cast; omega
 rw [e]
 generalize 2 ^ (15 - x) = Z at *
 rw [J5 (x:=((Z:Nat):Int)) (by omega),J5 (by omega)]
 omega
theorem GY {l:List UInt8} {i:Nat} (h:i < l.length) (h1:¬ (0:Int) < (((l.getD (i * 1) jk).toNat:Nat):Int)):aX (l.take (i + 1)) = aX (l.take i) ∧ bp (l.take (i + 1)) = bp (l.take i):=by
 rw [Ms] at h1
 rw [fW h,io h,if_pos (by omega),if_pos (by omega)]; exact ⟨rfl,rfl⟩
theorem J7 {l:List UInt8} {i:Nat} (h:i < l.length) (hN:l.length ≤ 1000000) (h1:0 < (l.getD (i * 1) jk).toNat):D.v (.int .i64 (IntKind.i64.wrap (((bp (l.take i):Nat):Int) + 1))) = D.v (.int .i64 ((bp (l.take (i + 1)):Nat):Int)):=by
 refine aO ?_
 rw [Ms] at *
 rw [io h,if_neg (by omega)]
 have hk:=wP (l.take i)
 rw [L5] at hk
 rw [J5 (by omega)]; omega
theorem D6 (l:List UInt8) (n:Nat) (hn:n = l.length) (hN:n ≤ 1000000) (m:Nat) (hm:1 ≤ m ∧ m ≤ 15):SpecH false Tryz.prog 148 [.sl false n 1 (l.map dB),nD m] [] (nD (cM l m)) []:=by
 refine SpecH.run T_ok ai Tryz.func148 rfl rfl rfl trivial rfl 1000 64 (fun R ok=>(.s 6 (.f (decide ((m:Int) < 1)) (by (refine decide_eq_false ?_; (omega))) (.s 4 (.f (decide (15 < (m:Int))) (by (refine decide_eq_false ?_; (omega))) (.s 4 (.br (decide (320 < (n:Int))) (fun p0=>have p0f:=aT p0; (.s 1 (.out [] [] (zI 4) [] R (ok _ _ qg wr)))) (fun p0=>have p0f:=aU p0; (.s 5 (Hn.inl T_ok ai false 52 0 (aA Tryz.prog 148 0) (fun (x:(i:Nat) ×' (hi:i ≤ n) ×' (ho:∀ j,j < i → (l.getD j jk).toNat ≤ m) ×' Unit)=>match x with | ⟨i,hi,ho,_⟩=>CutS.mk [(1,zN m),(5,nD (aX (l.take i))),(6,nD (bp (l.take i))),(18,D.sl false n 1 (map dB l)),(19,zN n),(20,nD i)] [] 0) (fun (x:(i:Nat) ×' (hi:i ≤ n) ×' (ho:∀ j,j < i → (l.getD j jk).toNat ≤ m) ×' Unit)=>match x with | ⟨i,hi,ho,_⟩=>n - i) [⟨(ho2:dr l m = false) ×' Unit,.exit 0,fun x=>match x with | ⟨ho2,_⟩=>CutS.mk [(1,zN m),(5,nD (aX l)),(6,nD (bp l)),(18,D.sl false n 1 (map dB l)),(19,zN n)] [] 0⟩,⟨(ho3:dr l m = true) ×' Unit,.ret,fun x=>match x with | ⟨ho3,_⟩=>CutS.mk [(4,iD 2)] [] 0⟩] 1000 64 (fun | ⟨i,hi,ho,_⟩,Q,next1,last1=>(.s 2 (.br (decide ((i:Int) < (n:Int))) (fun p1=>have p1f:=aT p1; (.s 1 (.chk (true && decide ((i:Int) < (n:Int)) && true) (by ((refine aH ?_ ?_) <;> (repeat' (first | (refine aH ?_ ?_) | (with_reducible rfl) | (refine decide_eq_true ?_) | (refine L2 ?_) | (refine eu ?_))) <;> (omega))) (.s 2 (.opt ((map dB l)[i * 1]?) (dB (getD l (i * 1) jk)) (av _ _ om) (.s 3 (.op (↑(LW (getD l (i * 1) jk)):Int) (by (exact fV _ (by decide) (by decide))) (.s 3 (.br (decide ((m:Int) < (↑(LW (getD l (i * 1) jk)):Int))) (fun p2=>have p2f:=aT p2; (.s 1 (Hn.last last1 1 (⟨(by (exact tF (i:=i * 1) (by (omega)) (by (omega)))),⟨⟩⟩:(ho3:dr l m = true) ×' Unit) rfl [] ro))) (fun p2=>have p2f:=aU p2; (.s 3 (.br (decide (0 < (↑(LW (getD l (i * 1) jk)):Int))) (fun p3=>have p3f:=aT p3; (.s 4 (.opt (az .u8 (15 - (↑(LW (getD l (i * 1) jk)):Int))) (bI (15 - (↑(LW (getD l (i * 1) jk)):Int))) (pX om) (.s 1 (.chk (decide (0 ≤ 15 - (↑(LW (getD l (i * 1) jk)):Int))) (by (refine decide_eq_true ?_; (omega))) (.opt (az .i64 (2 ^ min (uV (15 - (↑(LW (getD l (i * 1) jk)):Int))) 64 * 1)) (zI (Mf Mi (2 ^ min (uV (15 - (↑(LW (getD l (i * 1) jk)):Int))) 64 * 1))) (aM _ _) (.s 2 (.opt (az .i64 ((↑(aX (take i l)):Int) + Mf Mi (2 ^ min (uV (15 - (↑(LW (getD l (i * 1) jk)):Int))) 64 * 1))) (zI (Mf Mi ((↑(aX (take i l)):Int) + Mf Mi (2 ^ min (uV (15 - (↑(LW (getD l (i * 1) jk)):Int))) 64 * 1)))) (aM _ _) (.s 4 (.opt (az .i64 ((↑(bp (take i l)):Int) + 1)) (zI (Mf Mi ((↑(bp (take i l)):Int) + 1))) (aM _ _) (.s 3 (.ow ((i:Int) + 1) (.s 1 (.val 5 (zI (Mf Mi ((↑(aX (take i l)):Int) + Mf Mi (2 ^ min (uV (15 - (↑(LW (getD l (i * 1) jk)):Int))) 64 * 1)))) (zN (aX (take (i + 1) l))) (by (exact J6 (by (omega)) (by (omega)) (by (omega)) (by (omega)))) (.val 6 (zI (Mf Mi ((↑(bp (take i l)):Int) + 1))) (zN (bp (take (i + 1) l))) (by (exact J7 (by (omega)) (by (omega)) (by (omega)))) (.val 20 (zI ((i:Int) + 1)) (zN (i + 1)) (by (refine aO ?_; (omega))) (Hn.next next1 ⟨(i + 1),om,(by (exact tG ho (by (omega)))),⟨⟩⟩ (by show n - (i + 1) < n - i; clear next1 last1; omega) [] ro))))))))))))))))) (fun p3=>have p3f:=aU p3; (.s 2 (.ow ((i:Int) + 1) (.s 1 (.val 5 (zN (aX (take i l))) (zN (aX (take (i + 1) l))) (by (rw [(GY (l:=l) (i:=i) (by (omega)) (by (omega))).1])) (.val 6 (zN (bp (take i l))) (zN (bp (take (i + 1) l))) (by (rw [(GY (l:=l) (i:=i) (by (omega)) (by (omega))).2])) (.val 20 (zI ((i:Int) + 1)) (zN (i + 1)) (by (refine aO ?_; (omega))) (Hn.next next1 ⟨(i + 1),om,(by (exact tG ho (by (omega)))),⟨⟩⟩ (by show n - (i + 1) < n - i; clear next1 last1; omega) [] ro)))))))))))))))))))) (fun p1=>have p1f:=aU p1; (.val 5 (zN (aX (take i l))) (zN (aX l)) (by (rw [Mt (by (omega))])) (.val 6 (zN (bp (take i l))) (zN (bp l)) (by (rw [Mt (by (omega))])) (Hn.last last1 0 (⟨(by (exact kv (fun j hj=>ho j (by (omega))))),⟨⟩⟩:(ho2:dr l m = false) ×' Unit) rfl [] ro))))))) (fun | ⟨i,hi,ho,_⟩=>by kernel_rfl) ⟨(0),om,om,⟨⟩⟩ [] ro (fe (fun | ⟨ho2,_⟩=>(.s 4 (.br (decide (32768 < (↑(aX l):Int))) (fun p4=>have p4f:=aT p4; (.s 1 (.out [] [] (zI 30) [] R (ok _ _ qg wr)))) (fun p4=>have p4f:=aU p4; (.s 4 (.br ((↑(aX l):Int) == 32768) (fun p5=>have p5f:=eq_of_beq p5; (.s 2 (.out [] [] (zI 0) [] R (ok _ _ qg wr)))) (fun p5=>have p5f:=au p5; (.s 4 (.br ((↑(bp l):Int) == 0) (fun p6=>have p6f:=eq_of_beq p6; (.s 2 (.out [] [] (zI 0) [] R (ok _ _ qg wr)))) (fun p6=>have p6f:=au p6; (.s 5 (.br ((↑(bp l):Int) == 1) (fun p7=>have p7f:=eq_of_beq p7; (.s 5 (.br ((↑(aX l):Int) == 16384) (fun p8=>have p8f:=eq_of_beq p8; (.s 1 (.out [] [] (zI 0) [] R (ok _ _ qg wr)))) (fun p8=>have p8f:=au p8; (.s 1 (.out [] [] (zI 31) [] R (ok _ _ qg wr))))))) (fun p7=>have p7f:=au p7; (.s 6 (.out [] [] (zI 31) [] R (ok _ _ qg wr)))))))))))))))) (fun | ⟨ho3,_⟩=>(.out [] [] (zI 2) [] R (ok _ _ qg wr)))))))))))))) (by kernel_rfl)
end Vp
end Go.Proofs.YtefjnofhgkjpmaaGreat
namespace Go.Proofs.YtefjnofhgkjpmaaGreat
open Go.RowKit Go.Bw Go.Vx
open List (length getD map take drop flatMap replicate)
namespace Vp
theorem IZ {p:Prop} (h:p:=by (refine decide_eq_true ?_;  have h7:=vo l v i; have h6:=vo l v (i + 1); omega)):p:=h
theorem J8 {p:Prop} (h:p:=by clear next1 last1; (simp_all <;> omega)):p:=h
theorem Lu {p:Prop} (h:p:=by ((refine aH ?_ ?_) <;> (repeat' (first | (refine aH ?_ ?_) | (with_reducible rfl) | (refine decide_eq_true ?_) | (refine Nat.ble_eq_true_of_le ?_) | (refine eu ?_))) <;> (omega))):p:=h
theorem Lv {p:Prop} (h:p:=by (simp only [List.length_map,Nat.mul_one,Nat.beq_refl,Bool.true_and,Bool.and_true];  have h7:=vo l v i; have h6:=vo l v (i + 1); refine Nat.ble_eq_true_of_le ?_; omega)):p:=h
theorem Lw {p:Prop} (h:p:=by ( have h7:=vo l v i; have h6:=vo l v (i + 1); refine Ed ?_ ?_ <;> omega)):p:=h
def cI:List Bool → Nat
 | []=>0
 | b :: r=>b.toNat + 2 * cI r
theorem gy:∀ l:List Bool,cI l < 2 ^ l.length
 | []=>NY
 | b :: r=>by
  have h:=gy r
  have h2:b.toNat ≤ 1:=OM b
  rw [Mr,Ng,cI]; omega
theorem jq:∀ a b:List Bool,cI (a ++ b) = cI a + 2 ^ a.length * cI b
 | [],b=>by simp [cI]
 | x :: r,b=>by
  have h:=jq r b
  rw [NQ,cI,cI,h,Mr,Ng,NN,← M5,Nr 2 (2 ^ r.length),M8]
def vn (l:List Bool) (i:Nat):UInt8:=MW (cI ((l.drop (8 * i)).take 8))
def pk (l:List Bool):List UInt8:=lk l ((MH ((l.length + 7) / 8)).map (vn l))
theorem wX (l:List Bool):pk l = (MH ((l.length + 7) / 8)).map (vn l):=aF _ _
theorem ac (l:List Bool):(pk l).length = (l.length + 7) / 8:=by rw [wX,Ma,M4]
theorem ip {l:List Bool} {i:Nat} (h:i < (l.length + 7) / 8):(pk l)[i]? = some (vn l i):=by
 rw [wX,List.getElem?_map,List.getElem?_range h]; rfl
theorem wY (l:List Bool) (i:Nat):cI ((l.drop (8 * i)).take 8) < 256:=by
 have h:=gy ((l.drop (8 * i)).take 8)
 have h2:2 ^ ((l.drop (8 * i)).take 8).length ≤ 2 ^ 8:=MQ (by decide) (by rw [L5]; omega)
 omega
theorem jr {a b:List Bool} (h:a.length % 8 = 0):pk (a ++ b) = pk a ++ pk b:=by
 apply List.ext_getElem?
 intro i
 rcases Mv i ((a.length + 7) / 8) with q | q
 ·rw [List.getElem?_append_left (by rw [ac]; exact q),ip q,ip (by rw [LZ]; omega)]
  unfold vn
  rw [N5 (by omega),NF (by rw [Mn]; omega)]
 ·rw [List.getElem?_append_right (by rw [ac]; exact q),ac]
  rcases Mv (i - (a.length + 7) / 8) ((b.length + 7) / 8) with r | r
  ·rw [ip r,ip (by rw [LZ]; omega)]
   unfold vn
   rw [show 8 * i = a.length + 8 * (i - (a.length + 7) / 8) from by omega,PQ]
   have e:MA (a.length + 8 * (i - (a.length + 7) / 8)) a = []:=M6 (by omega)
   rw [e,OQ,N3]
  ·rw [List.getElem?_eq_none (by rw [ac,LZ]; omega),List.getElem?_eq_none (by rw [ac]; exact r)]
theorem iR {l:List Bool} {n:Nat} (h:8 * n ≤ l.length):pk (l.drop (8 * n)) = (pk l).drop n ∧ pk (l.take (8 * n)) = (pk l).take n:=by
 have e:=jr (a:=l.take (8 * n)) (b:=l.drop (8 * n)) (by rw [L5]; omega)
 rw [NW] at e
 have hl:(pk (l.take (8 * n))).length = n:=by rw [ac,L5]; omega
 constructor
 ·have q:=congrArg (MA n) e
  rw [N5 (by omega),show MA n (pk (Mz (8 * n) l)) = [] from M6 (by omega),OQ] at q
  exact q.symm
 ·have q:=congrArg (Mz n) e
  rw [NF (by omega),show Mz n (pk (Mz (8 * n) l)) = pk (Mz (8 * n) l) from Mt (by omega)] at q
  exact q.symm
theorem D7 {l:List Bool} (h0:0 < l.length) (h:l.length ≤ 8):pk l = [MW (cI l)]:=by
 rw [wX,show (l.length + 7) / 8 = 1 from by omega]
 show [vn l 0] = _
 unfold vn
 rw [Nat.mul_zero,Nd,Mt h]
theorem GZ {l:List Bool} {b:Bool} (h:l.length % 8 ≠ 0):(pk l).length = l.length / 8 + 1 ∧ pk (l ++ [b]) = (pk l).set (l.length / 8) (MW (((pk l).getD (l.length / 8) jk).toNat + 2 ^ (l.length % 8) * b.toNat)):=by
 refine ⟨by rw [ac]; omega,?_⟩
 have hd:=iR (l:=l) (n:=l.length / 8) (by omega)
 have e:l = l.take (8 * (l.length / 8)) ++ l.drop (8 * (l.length / 8)):=(NW _ _).symm
 generalize hA:l.take (8 * (l.length / 8)) = A at *
 generalize hB:l.drop (8 * (l.length / 8)) = B at *
 have lA:A.length = 8 * (l.length / 8):=by rw [← hA,L5]; omega
 have lB:B.length = l.length % 8:=by rw [← hB,Mn]; omega
 have p1:pk l = pk A ++ pk B:=by
  conv=>lhs; rw [e]
  exact jr (by omega)
 have p2:pk (l ++ [b]) = pk A ++ pk (B ++ [b]):=by
  conv=>lhs; rw [e,Mo]
  exact jr (by omega)
 have l1:(pk A).length = l.length / 8:=by rw [ac]; omega
 have b1:=D7 (l:=B) (by omega) (by omega)
 have b2:=D7 (l:=B ++ [b]) (by rw [LZ]; omega) (by rw [LZ,MI]; omega)
 have hb:cI B < 256:=by
  have h3:=gy B
  have h4:2 ^ B.length ≤ 2 ^ 8:=MQ (by decide) (by omega)
  omega
 rw [p1,p2,b1,b2,Pi _ _ (by omega),l1,M9,List.getD_eq_getElem?_getD,List.getElem?_append_right (by omega),l1,M9]
 show _ ++ _ = _ ++ [_]
 have hz:cI [b] = b.toNat:=by simp [cI]
 rw [jq,hz,lB]
 show _ = _ ++ [MW ((MW (cI B)).toNat + _)]
 rw [NT, show cI B % 2 ^ 8 = cI B from MY hb]
theorem D8 {l:List Bool} {b:Bool} (h:l.length % 8 = 0):(pk l).length = l.length / 8 ∧ pk (l ++ [b]) = pk l ++ [MW b.toNat]:=by
 refine ⟨by rw [ac]; omega,?_⟩
 rw [jr h,D7 (l:=[b]) (by simp) (by simp)]
 simp [cI]
def nb (v n:Nat):List Bool:=lk [()] ((MH n).map fun i=>v.testBit i)
theorem qh (v n:Nat):nb v n = (MH n).map fun i=>v.testBit i:=aF _ _
theorem oi (v n:Nat):(nb v n).length = n:=by rw [qh,Ma,M4]
theorem tH (v n:Nat):nb v (n + 1) = nb v n ++ [v.testBit n]:=by rw [qh,qh,N8,MJ]; rfl
theorem G0 (v:Nat):nb v 0 = []:=qh v 0
theorem qi (v:Nat):∀ n,cI (nb v n) = v % 2 ^ n
 | 0=>by rw [G0]; simp [cI,PS]
 | n + 1=>by
  rw [tH,jq,oi,qi v n]
  have e:cI [v.testBit n] = v / 2 ^ n % 2:=by
   rw [Nat.testBit_eq_decide_div_mod_eq]
   have:=PA (v / 2 ^ n) (show 0 < 2 by decide)
   by_cases h:v / 2 ^ n % 2 = 1
   ·rw [h]; rfl
   ·rw [show v / 2 ^ n % 2 = 0 from by omega]; rfl
  rw [e,Ng,Nat.mod_mul]
def Fl (B:List UInt8) (k:Nat):List Bool:=lk B ((MH k).map fun i=>(B.getD (i / 8) jk).toNat.testBit (i % 8))
theorem wZ (B:List UInt8) (k:Nat):Fl B k = (MH k).map fun i=>(B.getD (i / 8) jk).toNat.testBit (i % 8):=aF _ _
theorem kw (B:List UInt8) (k:Nat):(Fl B k).length = k:=by rw [wZ,Ma,M4]
theorem D9 {B:List UInt8} {k:Nat} (hl:B.length = (k + 7) / 8) (ht:k % 8 ≠ 0 → (B.getD (k / 8) jk).toNat < 2 ^ (k % 8)):pk (Fl B k) = B:=by
 apply List.ext_getElem?
 intro i
 rcases Mv i ((k + 7) / 8) with q | q
 ·rw [ip (by rw [kw]; exact q),List.getElem?_eq_getElem (by omega)]
  congr 1
  unfold vn
  have e:(MA (8 * i) (Fl B k)).take 8 = nb (B.getD i jk).toNat (min 8 (k - 8 * i)):=by
   apply List.ext_getElem?
   intro j
   rw [List.getElem?_take,List.getElem?_drop,wZ,qh,List.getElem?_map,List.getElem?_map]
   by_cases hj:j < min 8 (k - 8 * i)
   ·rw [if_pos (by omega),List.getElem?_range (by omega),List.getElem?_range hj]
    show some ((B.getD ((8 * i + j) / 8) jk).toNat.testBit ((8 * i + j) % 8)) = some ((B.getD i jk).toNat.testBit j)
    rw [show (8 * i + j) / 8 = i from by omega,show (8 * i + j) % 8 = j from by omega]
   ·rw [List.getElem?_eq_none (l:=MH (min 8 (k - 8 * i))) (by simpa using hj)]
    split
    ·rw [List.getElem?_eq_none (by simp; omega)]; rfl
    ·rfl
  rw [e,qi]
  have hx:B[i] = B.getD i jk:=by rw [List.getD_eq_getElem?_getD,List.getElem?_eq_getElem (by omega)]; rfl
  rw [hx]
  have hb:=(B.getD i jk).toNat_lt
  apply UInt8.toNat_inj.1
  rw [NT]
  rcases Mv (k - 8 * i) 8 with r | r
  ·have hk:i = k / 8:=by omega
   have h1:=ht (by omega)
   rw [← hk] at h1
   rw [show min 8 (k - 8 * i) = k % 8 from by omega,MY h1,MY hb]
  ·rw [show min 8 (k - 8 * i) = 8 from by omega,MY (show (B.getD i jk).toNat < 2 ^ 8 from hb),MY hb]
 ·rw [List.getElem?_eq_none (by rw [ac,kw]; exact q),List.getElem?_eq_none (by omega)]
theorem Ea {l:List Bool} {m:Nat} (hm:m = (pk l).length) (h:0 < ((l.length:Nat):Int) % 8):¬ 0 < ((((pk l).getD (((m:Int) - 1).toNat * 1) jk).toNat:Nat):Int).fdiv (2 ^ min (((l.length:Nat):Int) % 8).toNat 8):=by
 rw [ac] at hm
 rw [show (((m:Int) - 1).toNat * 1) = l.length / 8 from by omega,show min (((l.length:Nat):Int) % 8).toNat 8 = l.length % 8 from by omega,List.getD_eq_getElem?_getD,ip (by omega)]
 show ¬ 0 < (((vn l (l.length / 8)).toNat:Nat):Int).fdiv _
 have hb:=gy ((l.drop (8 * (l.length / 8))).take 8)
 rw [L5,Mn,show min 8 (l.length - 8 * (l.length / 8)) = l.length % 8 from by omega] at hb
 have hc:=wY l (l.length / 8)
 unfold vn
 rw [NT, MY hc,show (2:Int) ^ (l.length % 8) = ((2 ^ (l.length % 8):Nat):Int) from by push_cast; rfl,Nf _ (NU _),← Oj,O2 hb]
 decide
theorem Eb {B:List UInt8} {k:Nat} (hl:B.length = (k + 7) / 8) (h:k % 8 ≠ 0 → ¬ 0 < (((B.getD (((B.length:Nat):Int) - 1).toNat jk).toNat:Nat):Int).fdiv (2 ^ min ((k:Int) % 8).toNat 8)):pk (Fl B k) = B:=by
 refine D9 hl fun q=>?_
 have h:=h q
 rw [show (((B.length:Nat):Int) - 1).toNat = k / 8 from by omega,show min ((k:Int) % 8).toNat 8 = k % 8 from by omega,show (2:Int) ^ (k % 8) = ((2 ^ (k % 8):Nat):Int) from by push_cast; rfl,Nf _ (NU _),← Oj] at h
 have h0:(B.getD (k / 8) jk).toNat / 2 ^ (k % 8) = 0:=by
  generalize (B.getD (k / 8) jk).toNat / 2 ^ (k % 8) = Z at h ⊢; omega
 rcases Mv (B.getD (k / 8) jk).toNat (2 ^ (k % 8)) with r | r
 ·exact r
 ·have:=Nat.div_pos r (Nq _); omega
theorem Cf {B:List UInt8} {m:Nat} {k:Int} (hm:m = B.length) (hN:∀ l:List Bool,l.length ≤ 8388608 → ¬ (k = l.length ∧ B = pk l)) (h0:¬ k < 0) (h1:¬ 8388608 < k) (h2:(m:Int) = (k + 7) / 8) (h3:¬ 0 < k % 8 ∨ ¬ 0 < (((B.getD (((m:Int) - 1).toNat * 1) jk).toNat:Nat):Int).fdiv (2 ^ min (k % 8).toNat 8)):False:=by
 obtain ⟨j,rfl⟩:=ML (show 0 ≤ k by omega)
 subst hm
 rw [Ms] at h3
 refine hN (Fl B j) (by rw [kw]; omega) ⟨by rw [kw],(Eb (by omega) (fun q=>?_)).symm⟩
 rcases h3 with h3 | h3
 ·omega
 ·exact h3
abbrev yx (m:Nat) (l:List Bool):D:=.agg [.sl false m 1 ((pk l).map dB),nD l.length]
theorem zC  : SpecH false Tryz.prog 56 [aR] [] aR []:=by
 refine SpecH.run T_ok ai Tryz.func56 rfl rfl rfl trivial rfl 1000 64 (fun R ok=>(.s 6 (.out [] [] (zS) [] R (ok _ _ wr wr)))) (by kernel_rfl)
theorem w4 (bs:List UInt8) (hn:bs.length ≤ 10000000):SpecH false Tryz.prog 56 [.sl true bs.length 1 (bs.map dB)] [] (.ref 0 0 0 bs.length 1) [⟨bs.map dB, 5, true⟩]:=by
 refine SpecH.run T_ok ai Tryz.func56 rfl rfl rfl ⟨aW _,trivial⟩ rfl 1000 64 (fun R ok=>(.s 9 (.chk (true && LX ((0 + length bs) * 1) 140737488355328) (by (refine L2 ?_; (omega))) (.s 1 (.out [40] [40] (D.ref 0 0 0 (0 + length bs) 1) [Blk.mk (map dB bs) 5 true] R (ok _ _ (by (simp; done)) wr)))))) (by kernel_rfl)
theorem bP (bs:List UInt8) (n:Nat) (h1:n = bs.length) (hn:n ≤ 10000000):SpecH false Tryz.prog 56 [.sl false n 1 (bs.map dB)] [] (.ref 0 0 0 n 1) [⟨bs.map dB, 5, true⟩]:=by
 subst h1; exact uN.nilSplit zC (w4 bs hn) id
theorem lE (l:List Bool) (m:Nat) (hm:m = (pk l).length) (hl:l.length ≤ 8388608):SpecH false Tryz.prog 43 [yx m l] [] (iD 0) []:=by
 have h9:=ac l
 refine SpecH.run T_ok ai Tryz.func43 rfl rfl rfl trivial rfl 1000 64 (fun R ok=>(.s 26 (.f (decide (8388608 < (↑(length l):Int))) (by (refine decide_eq_false ?_; (omega))) (.s 19 (.ow ((↑(length l):Int) + 7) (.s 3 (.opt (bj Mi (Mf Mi (NS ((↑(length l):Int) + 7) 8))) (zI (((↑(length l):Int) + 7) / 8)) (ay (@bf  ((↑(length l):Int) + 7) (8) om om)) (.s 4 (.f ((m:Int) != ((↑(length l):Int) + 7) / 8) (by (simp <;> (omega))) (.s 8 (.opt (bj Mi (Np (↑(length l):Int) 8)) (zI ((↑(length l):Int) % 8)) (ay (@bN  ((↑(length l):Int)) (8) om)) (.s 6 (.br (decide (0 < (↑(length l):Int) % 8)) (fun p0=>have p0f:=aT p0; (.s 19 (.ow ((m:Int) - 1) (.s 2 (.chk (decide (0 ≤ (m:Int) - 1) && decide ((m:Int) - 1 < (m:Int)) && true) Lu (.s 3 (.opt ((map dB (pk l))[uV ((m:Int) - 1) * 1]?) (dB (getD (pk l) (uV ((m:Int) - 1) * 1) jk)) (av _ _ om) (.s 5 (.opt (bj OV (ME (↑(LW (getD (pk l) (uV ((m:Int) - 1) * 1) jk)):Int) (2 ^ min (uV ((↑(length l):Int) % 8)) 8))) (bI (ME (↑(LW (getD (pk l) (uV ((m:Int) - 1) * 1) jk)):Int) (2 ^ min (uV ((↑(length l):Int) % 8)) 8))) (cU _ _) (.s 4 (.br (decide (0 < ME (↑(LW (getD (pk l) (uV ((m:Int) - 1) * 1) jk)):Int) (2 ^ min (uV ((↑(length l):Int) % 8)) 8))) (fun p1=>have p1f:=aT p1; (.abs (by ( exact absurd bu (Ea hm om))))) (fun p1=>have p1f:=aU p1; (.s 1 (.out [] [] (zI 0) [] R (ok _ _ wr wr))))))))))))))) (fun p0=>have p0f:=aU p0; (.s 23 (.out [] [] (zI 0) [] R (ok _ _ wr wr))))))))))))))))) (by kernel_rfl)
theorem Ec (B:List UInt8) (m:Nat) (hm:m = B.length) (hM:m ≤ 100000000) (k:Int) (hN:∀ l:List Bool,l.length ≤ 8388608 → ¬ (k = l.length ∧ B = pk l)):SpecH false Tryz.prog 43 [.agg [.sl false m 1 (B.map dB),iD k]] [] (iD 8) []:=by
 refine SpecH.run T_ok ai Tryz.func43 rfl rfl rfl trivial rfl 1000 64 (fun R ok=>(.s 13 (.br (decide (k < 0)) (fun p0=>have p0f:=aT p0; (.s 25 (.out [] [] (zI 8) [] R (ok _ _ wr wr)))) (fun p0=>have p0f:=aU p0; (.s 12 (.br (decide (8388608 < k)) (fun p1=>have p1f:=aT p1; (.s 17 (.out [] [] (zI 8) [] R (ok _ _ wr wr)))) (fun p1=>have p1f:=aU p1; (.s 19 (.ow (k + 7) (.s 3 (.opt (bj Mi (Mf Mi (NS (k + 7) 8))) (zI ((k + 7) / 8)) (ay (@bf  (k + 7) (8) om om)) (.s 4 (.br ((m:Int) != (k + 7) / 8) (fun p2=>have p2f:=qb p2; (.s 1 (.out [] [] (zI 8) [] R (ok _ _ wr wr)))) (fun p2=>have p2f:=qc p2; (.s 8 (.opt (bj Mi (Np k 8)) (zI (k % 8)) (ay (@bN  (k) (8) om)) (.s 6 (.br (decide (0 < k % 8)) (fun p3=>have p3f:=aT p3; (.s 19 (.ow ((m:Int) - 1) (.s 2 (.chk (decide (0 ≤ (m:Int) - 1) && decide ((m:Int) - 1 < (m:Int)) && true) Lu (.s 3 (.opt ((map dB B)[uV ((m:Int) - 1) * 1]?) (dB (getD B (uV ((m:Int) - 1) * 1) jk)) (av _ _ om) (.s 4 (.chk (decide (0 ≤ k % 8)) (by (refine decide_eq_true ?_; (omega))) (.opt (bj OV (ME (↑(LW (getD B (uV ((m:Int) - 1) * 1) jk)):Int) (2 ^ min (uV (k % 8)) 8))) (bI (ME (↑(LW (getD B (uV ((m:Int) - 1) * 1) jk)):Int) (2 ^ min (uV (k % 8)) 8))) (cU _ _) (.s 4 (.br (decide (0 < ME (↑(LW (getD B (uV ((m:Int) - 1) * 1) jk)):Int) (2 ^ min (uV (k % 8)) 8))) (fun p4=>have p4f:=aT p4; (.s 1 (.out [] [] (zI 8) [] R (ok _ _ wr wr)))) (fun p4=>have p4f:=aU p4; (.abs (by ( exact Cf hm hN om om om (.inr bu))))))))))))))))) (fun p3=>have p3f:=aU p3; (.abs (by ( exact Cf hm hN om om om (.inl om))))))))))))))))))))))) (by kernel_rfl)
theorem w5 {v n:Nat} (hv:v < 2 ^ n) (hn:n ≤ 32):((v:Int) % 18446744073709551616).fdiv (2 ^ min n 64) = 0:=by
 have h2:2 ^ n ≤ 2 ^ 32:=MQ (by decide) hn
 rw [show min n 64 = n from by omega,show (v:Int) % 18446744073709551616 = v from by omega,show (2:Int) ^ n = ((2 ^ n:Nat):Int) from by push_cast; rfl,Nf _ (NU _),← Oj,O2 hv]; rfl
theorem w6 {v n:Nat} (hv:v < 2 ^ n) (hn:n ≤ 32):((v:Int)).fdiv (2 ^ min n 64) = 0:=by
 have h:=w5 hv hn
 have h2:2 ^ n ≤ 2 ^ 32:=MQ (by decide) hn
 rwa [show (v:Int) % 18446744073709551616 = v from by omega] at h
theorem zD (X:List UInt8) {d:D} {j:Nat} (h:j = X.length):(Nz dB X ++ [d])[0 + j * 1]? = some d:=by
 rw [Mq,Ms,h,List.getElem?_append_right (by rw [Ma]; exact Mc _),Ma,M9]; rfl
def bA (l:List Bool) (v i:Nat):List Bool:=lk l (l ++ nb v i)
theorem lF (l:List Bool) (v i:Nat):bA l v i = l ++ nb v i:=aF _ _
theorem Cg (l:List Bool) (v:Nat):bA l v 0 = l:=by rw [lF,G0,MN]
theorem bC (l:List Bool) (v i:Nat):(bA l v i).length = l.length + i:=by rw [lF,LZ,oi]
theorem Ch (l:List Bool) (v i:Nat):bA l v i ++ [v.testBit i] = bA l v (i + 1):=by rw [lF,lF,tH,Mo]
theorem vo (l:List Bool) (v i:Nat):(pk (bA l v i)).length = (l.length + i + 7) / 8:=by rw [ac,bC]
theorem Ci {v i:Nat} (hi:i ≤ 32) (hv:v < 4294967296):IntKind.u32.wrap ((L9 32 ((v:Int).fdiv (2 ^ min i 32)) &&& L9 32 1).toNat:Int) % 256 = (((v.testBit i).toNat:Nat):Int):=by
 have hd:v / 2 ^ i ≤ v:=P3 _ _
 rw [show min i 32 = i from by omega,show (2:Int) ^ i = ((2 ^ i:Nat):Int) from by push_cast; rfl,Nf _ (NU _),← Oj,PH]
 generalize v / 2 ^ i = Y at *
 rw [jM 1 2 (by omega) (by decide) (by decide) (by decide)]
 omega
theorem w7 {M:List UInt8} {o a:Nat} (ha:a < 256) (ho:o < M.length):aj (M.map dB) o [D.v (.int .u8 (a:Int))] = (M.set o (MW a)).map dB:=by
 apply List.ext_getElem?
 intro i
 rw [cq (by simp only [Ma,MI]; omega),List.getElem?_map,List.getElem?_map,List.getElem?_set]
 simp only [MI]
 by_cases hi:o = i
 ·subst hi
  rw [if_pos (by omega),if_pos rfl,if_pos ho,M9]
  show some (D.v (.int .u8 (a:Int))) = some (dB (MW a))
  unfold dB; rw [NT]; congr 3; omega
 ·rw [if_neg (by omega),if_neg hi]
theorem G1 {x:List Bool} (h:x.length % 8 ≠ 0):((pk x).getD (x.length / 8) jk).toNat < 2 ^ (x.length % 8):=by
 rw [List.getD_eq_getElem?_getD,ip (by omega)]
 show (vn x (x.length / 8)).toNat < _
 have hb:=gy ((x.drop (8 * (x.length / 8))).take 8)
 rw [L5,Mn,show min 8 (x.length - 8 * (x.length / 8)) = x.length % 8 from by omega] at hb
 unfold vn
 rw [NT, MY (wY x _)]
 exact hb
theorem G2 {x:List Bool} {b:Bool} {L z:Int} (hL:L = x.length) (h:¬ L % 8 = 0) (hz:z = ((b.toNat:Nat):Int)):aj ((pk x).map dB) (L / 8).toNat [D.v (.int .u8 (((((pk x).getD (L / 8).toNat jk).toNat ||| (2 ^ min (L % 8).toNat 8 * z % 256).toNat:Nat)):Int))] = (pk (x ++ [b])).map dB:=by
 subst hL hz
 have h0:x.length % 8 ≠ 0:=by omega
 have hu:=GZ (b:=b) h0
 have hl:=G1 h0
 have hb:b.toNat ≤ 1:=OM b
 rw [show (((x.length:Nat):Int) / 8).toNat = x.length / 8 from by omega,show min (((x.length:Nat):Int) % 8).toNat 8 = x.length % 8 from by omega]
 have hp:2 ^ (x.length % 8) ≤ 2 ^ 7:=MQ (by decide) (by omega)
 have e:(2 ^ (x.length % 8) * ((b.toNat:Nat):Int) % 256).toNat = 2 ^ (x.length % 8) * b.toNat:=by
  rw [show (2:Int) ^ (x.length % 8) = ((2 ^ (x.length % 8):Nat):Int) from by push_cast; rfl]
  generalize 2 ^ (x.length % 8) = P at *
  cases b
  ·simp
  ·simp; omega
 rw [e,Nat.or_comm,← Oe hl,Nat.add_comm,hu.2]
 refine w7 ?_ (by omega)
 have hm:2 ^ (x.length % 8) * b.toNat ≤ 2 ^ (x.length % 8) * 1:=Ok _ hb
 generalize 2 ^ (x.length % 8) * b.toNat = Q at *
 generalize 2 ^ (x.length % 8) = P at *
 omega
theorem G3 {x:List Bool} {b:Bool} {L z:Int} (hL:L = x.length) (h:L % 8 = 0) (hz:z = ((b.toNat:Nat):Int)):aj ((pk x).map dB ++ [D.v (.int .u8 0)]) (L / 8).toNat [D.v (.int .u8 (0 + 2 ^ min (L % 8).toNat 8 * z))] = (pk (x ++ [b])).map dB:=by
 subst hL hz
 have h0:x.length % 8 = 0:=by omega
 have hu:=D8 (b:=b) h0
 have hb:b.toNat ≤ 1:=OM b
 rw [show (((x.length:Nat):Int) / 8).toNat = x.length / 8 from by omega,show min (((x.length:Nat):Int) % 8).toNat 8 = 0 from by omega,hu.2,MJ]
 have e:(pk x).map dB ++ [D.v (.int .u8 0)] = ((pk x) ++ [0]).map dB:=by rw [MJ]; rfl
 rw [e,show (0:Int) + 2 ^ 0 * ((b.toNat:Nat):Int) = ((b.toNat:Nat):Int) from by simp,w7 (by omega) (by rw [LZ,MI]; omega),Pi _ _ (by omega),hu.1,M9,MJ]
 rfl
theorem Ed {k g:Nat} {t:TypeId} {X Y:Nat} {a b:Int} (h1:X = Y) (h2:a = b):(⟨[D.ref k g 0 X 1,D.v (.int .i64 a)],t,false⟩:Blk) = ⟨[D.ref k g 0 Y 1,D.v (.int .i64 b)],t,false⟩:=by rw [h1,h2]
theorem G4 (l:List Bool) (m:Nat) (hm:m = (pk l).length) (v n:Nat) (hn:n ≤ 32) (hv:v < 2 ^ n) (hl:l.length + n ≤ 8388608):SpecH false Tryz.prog 74 [yx m l,.v (.int .u32 (v:Int)),nD n] [] (.tup [.agg [.ref 0 0 0 (pk (bA l v n)).length 1,nD (l.length + n)],iD 0]) [⟨(pk (bA l v n)).map dB, 5, true⟩]:=by
 have h9:=ac l
 have h8:=w5 hv hn
 have h4:=w6 hv hn
 have h5:v < 4294967296:=Mx hv (MQ (n:=2) (by decide) hn)
 refine SpecH.run T_ok ai Tryz.func74 rfl rfl rfl ⟨aW _,trivial⟩ rfl 1000 64 (fun R ok=>(.s 10 (.cl 43 false [] (.fn DZ (@lE (l) (m) om om)) (.s 22 (.t (decide ((n:Int) ≤ 32)) (by (refine decide_eq_true ?_; (omega))) (.s 2 (.opt (az .u64 (v:Int)) (D.v (MO .u64 (v:Int))) (bm om) (.s 5 (.opt (bj Nn (ME (v:Int) (2 ^ min n 64))) (D.v (MO .u64 (ME (v:Int) (2 ^ min n 64)))) (cU _ _) (.s 6 (.f (!ME (v:Int) (2 ^ min n 64) == 0) (by (simp <;> (omega))) (.s 9 (.ow ((↑(length l):Int) + (n:Int)) (.s 2 (.f (decide (8388608 < (↑(length l):Int) + (n:Int))) (by (refine decide_eq_false ?_; (omega))) (.s 17 (.cl 56 false [] (.fn qd (@bP (pk l) (m) om om)) (.s 12 (.blk 296 296 (Blk.mk [D.ref 336 336 0 m 1,zN (length l)] 163 false) (Blk.mk [D.ref 336 336 0 (length (pk (bA l v 0))) 1,zN (length l + 0)] 163 false) (by ( rw [Cg,← hm]; rfl)) (.blk 336 336 (Blk.mk (map dB (pk l)) 5 true) (Blk.mk (map dB (pk (bA l v 0))) 5 true) (by ( rw [Cg]; done)) (Hn.inl T_ok ai false 52 0 (aA Tryz.prog 74 0) (fun (x:(i:Nat) ×' (hi:i ≤ n) ×' Unit)=>match x with | ⟨i,hi,_⟩=>CutS.mk [(1,ah v),(6,D.ptr 0 0 0),(9,D.ptr 8 8 0),(38,zN n),(39,nD i)] [⟨0,0,8,8,.b ⟨[zS,zI 0],26,false⟩⟩,⟨8,8,296,296,.b ⟨[(D.ref 16 16 (0) ((pk (bA l v i)).length) 1),nD (l.length + i)],163,false⟩⟩,⟨16,16,336,336,.b ⟨(pk (bA l v i)).map dB,5,true⟩⟩] 24) (fun (x:(i:Nat) ×' (hi:i ≤ n) ×' Unit)=>match x with | ⟨i,hi,_⟩=>n - i) [⟨Unit,.exit 0,fun x=>match x with | ()=>CutS.mk [(1,ah v),(6,D.ptr 0 0 0),(9,D.ptr 8 8 0),(38,zN n)] [⟨0,0,8,8,.b ⟨[zS,zI 0],26,false⟩⟩,⟨8,8,296,296,.b ⟨[(D.ref 16 16 (0) ((pk (bA l v n)).length) 1),nD (l.length + n)],163,false⟩⟩,⟨16,16,336,336,.b ⟨(pk (bA l v n)).map dB,5,true⟩⟩] 24⟩] 1000 64 (fun | ⟨i,hi,_⟩,Q,next1,last1=>(.s 2 (.br (decide ((i:Int) < (n:Int))) (fun p0=>have p0f:=aT p0; (.s 7 (.opt (bj MC (ME (v:Int) (2 ^ min i 32))) (uI (ME (v:Int) (2 ^ min i 32))) (cU _ _) (.s 15 (.opt (bj Mi (Np (↑(length l + i):Int) 8)) (zI ((↑(length l + i):Int) % 8)) (ay (@bN  ((↑(length l + i):Int)) (8) om)) (.s 2 (.br ((↑(length l + i):Int) % 8 == 0) (fun p1=>have p1f:=eq_of_beq p1; (.s 15 (.chk (true && LV (length (pk (bA l v i)) * 1) (length (map dB (pk (bA l v i)))) && true && true && true && true && LX ((length (pk (bA l v i)) + 1) * 1) 140737488355328) Lv (.s 35 (.opt (bj Mi (Mf Mi (NS (↑(length l + i):Int) 8))) (zI ((↑(length l + i):Int) / 8)) (ay (@bf  ((↑(length l + i):Int)) (8) om om)) (.s 1 (.chk (true && decide ((↑(length l + i):Int) / 8 < (↑(length (pk (bA l v i)) + 1):Int))) IZ (.s 2 (.opt ((map dB (pk (bA l v i)) ++ [bI 0])[0 + uV ((↑(length l + i):Int) / 8) * 1]?) (bI 0) (@zD (pk (bA l v i)) (bI 0) (uV ((↑(length l + i):Int) / 8)) (by ( have h7:=vo l v i; have h6:=vo l v (i + 1); omega))) (.s 3 (.opt (bj MC (Mf MC (↑(My (L9 32 (ME (v:Int) (2 ^ min i 32)) &&& L9 32 1)):Int))) (uI (Mf MC (↑(My (L9 32 (ME (v:Int) (2 ^ min i 32)) &&& L9 32 1)):Int))) (cU _ _) (.s 1 (.opt (az .u8 (Mf MC (↑(My (L9 32 (ME (v:Int) (2 ^ min i 32)) &&& L9 32 1)):Int))) (bI (Mf MC (↑(My (L9 32 (ME (v:Int) (2 ^ min i 32)) &&& L9 32 1)):Int) % 256)) (aM _ _) (.s 13 (.opt (bj Mi (Np (↑(length l + i):Int) 8)) (zI ((↑(length l + i):Int) % 8)) (ay (@bN  ((↑(length l + i):Int)) (8) om)) (.s 2 (.opt (az .u8 (2 ^ min (uV ((↑(length l + i):Int) % 8)) 8 * (Mf MC (↑(My (L9 32 (ME (v:Int) (2 ^ min i 32)) &&& L9 32 1)):Int) % 256))) (bI (2 ^ min (uV ((↑(length l + i):Int) % 8)) 8 * (Mf MC (↑(My (L9 32 (ME (v:Int) (2 ^ min i 32)) &&& L9 32 1)):Int) % 256))) (pX J8) (.s 2 (.opt (bj OV (Mf OV (↑(My (L9 8 0 ||| L9 8 (2 ^ min (uV ((↑(length l + i):Int) % 8)) 8 * (Mf MC (↑(My (L9 32 (ME (v:Int) (2 ^ min i 32)) &&& L9 32 1)):Int) % 256)))):Int))) (bI (0 + 2 ^ min (uV ((↑(length l + i):Int) % 8)) 8 * (Mf MC (↑(My (L9 32 (ME (v:Int) (2 ^ min i 32)) &&& L9 32 1)):Int) % 256))) (ay (@qa 8 (256:Int) (0) (2 ^ min (uV ((↑(length l + i):Int) % 8)) 8 * (Mf MC (↑(My (L9 32 (ME (v:Int) (2 ^ min i 32)) &&& L9 32 1)):Int) % 256)) om J8 om om J8)) (.s 1 (.chk (true && decide ((↑(length l + i):Int) / 8 < (↑(length (pk (bA l v i)) + 1):Int))) IZ (.s 1 (.chk (true && LX (0 + uV ((↑(length l + i):Int) / 8) * 1 + 1) (length (map dB (pk (bA l v i)) ++ [bI 0]))) (by (simp;  have h7:=vo l v i; have h6:=vo l v (i + 1); omega)) (.lst (aj (map dB (pk (bA l v i)) ++ [bI 0]) (0 + uV ((↑(length l + i):Int) / 8) * 1) [bI (0 + 2 ^ min (uV ((↑(length l + i):Int) % 8)) 8 * (Mf MC (↑(My (L9 32 (ME (v:Int) (2 ^ min i 32)) &&& L9 32 1)):Int) % 256))]) (aj (map dB (pk (bA l v i)) ++ [bI 0]) (uV ((↑(length l + i):Int) / 8)) [bI (0 + 2 ^ min (uV ((↑(length l + i):Int) % 8)) 8 * (Mf MC (↑(My (L9 32 (ME (v:Int) (2 ^ min i 32)) &&& L9 32 1)):Int) % 256))]) (by (simp; done)) (.s 13 (.ow ((↑(length l + i):Int) + 1) (.s 12 (.ow ((i:Int) + 1) (.s 1 (.val 39 (zI ((i:Int) + 1)) (zN (i + 1)) (by (refine aO ?_; (omega))) (.blk 8 8 (Blk.mk [D.ref 200 200 0 (length (pk (bA l v i)) + 1) 1,zI ((↑(length l + i):Int) + 1)] 163 false) (Blk.mk [D.ref 200 200 0 (length (pk (bA l v (i + 1)))) 1,zN (length l + (i + 1))] 163 false) Lw (.blk 200 200 (Blk.mk (aj (map dB (pk (bA l v i)) ++ [bI 0]) (uV ((↑(length l + i):Int) / 8)) [bI (0 + 2 ^ min (uV ((↑(length l + i):Int) % 8)) 8 * (Mf MC (↑(My (L9 32 (ME (v:Int) (2 ^ min i 32)) &&& L9 32 1)):Int) % 256))]) 5 true) (Blk.mk (map dB (pk (bA l v (i + 1)))) 5 true) (by ( refine aC (Pq (G3 (by rw [bC]) om (Ci om om)) ?_); rw [Ch])) (Hn.next next1 ⟨(i + 1),om,⟨⟩⟩ (by show n - (i + 1) < n - i; clear next1 last1; omega) [(0,0),(8,8),(200,200)] ro))))))))))))))))))))))))))))))))) (fun p1=>have p1f:=au p1; (.s 25 (.opt (bj Mi (Mf Mi (NS (↑(length l + i):Int) 8))) (zI ((↑(length l + i):Int) / 8)) (ay (@bf  ((↑(length l + i):Int)) (8) om om)) (.s 1 (.chk (true && decide ((↑(length l + i):Int) / 8 < (↑(length (pk (bA l v i))):Int))) IZ (.s 2 (.opt ((map dB (pk (bA l v i)))[0 + uV ((↑(length l + i):Int) / 8) * 1]?) (dB (getD (pk (bA l v i)) (0 + uV ((↑(length l + i):Int) / 8) * 1) jk)) (av _ _ (by ( have h7:=vo l v i; have h6:=vo l v (i + 1); omega))) (.s 3 (.opt (bj MC (Mf MC (↑(My (L9 32 (ME (v:Int) (2 ^ min i 32)) &&& L9 32 1)):Int))) (uI (Mf MC (↑(My (L9 32 (ME (v:Int) (2 ^ min i 32)) &&& L9 32 1)):Int))) (cU _ _) (.s 1 (.opt (az .u8 (Mf MC (↑(My (L9 32 (ME (v:Int) (2 ^ min i 32)) &&& L9 32 1)):Int))) (bI (Mf MC (↑(My (L9 32 (ME (v:Int) (2 ^ min i 32)) &&& L9 32 1)):Int) % 256)) (aM _ _) (.s 13 (.opt (bj Mi (Np (↑(length l + i):Int) 8)) (zI ((↑(length l + i):Int) % 8)) (ay (@bN  ((↑(length l + i):Int)) (8) om)) (.s 2 (.opt (az .u8 (2 ^ min (uV ((↑(length l + i):Int) % 8)) 8 * (Mf MC (↑(My (L9 32 (ME (v:Int) (2 ^ min i 32)) &&& L9 32 1)):Int) % 256))) (bI (2 ^ min (uV ((↑(length l + i):Int) % 8)) 8 * (Mf MC (↑(My (L9 32 (ME (v:Int) (2 ^ min i 32)) &&& L9 32 1)):Int) % 256) % 256)) (aM _ _) (.s 2 (.opt (bj OV (Mf OV (↑(My (L9 8 (↑(LW (getD (pk (bA l v i)) (0 + uV ((↑(length l + i):Int) / 8) * 1) jk)):Int) ||| L9 8 (2 ^ min (uV ((↑(length l + i):Int) % 8)) 8 * (Mf MC (↑(My (L9 32 (ME (v:Int) (2 ^ min i 32)) &&& L9 32 1)):Int) % 256) % 256))):Int))) (dQ (LW (getD (pk (bA l v i)) (0 + uV ((↑(length l + i):Int) / 8) * 1) jk) ||| uV (2 ^ min (uV ((↑(length l + i):Int) % 8)) 8 * (Mf MC (↑(My (L9 32 (ME (v:Int) (2 ^ min i 32)) &&& L9 32 1)):Int) % 256) % 256))) (ay (@pZ  ((↑(LW (getD (pk (bA l v i)) (0 + uV ((↑(length l + i):Int) / 8) * 1) jk)):Int)) (2 ^ min (uV ((↑(length l + i):Int) % 8)) 8 * (Mf MC (↑(My (L9 32 (ME (v:Int) (2 ^ min i 32)) &&& L9 32 1)):Int) % 256) % 256) (by (exact fV _ (by decide) (by decide))) om)) (.s 1 (.chk (true && decide ((↑(length l + i):Int) / 8 < (↑(length (pk (bA l v i))):Int))) IZ (.s 1 (.chk (true && LX (0 + uV ((↑(length l + i):Int) / 8) * 1 + 1) (length (map dB (pk (bA l v i))))) Lv (.lst (aj (map dB (pk (bA l v i))) (0 + uV ((↑(length l + i):Int) / 8) * 1) [dQ (LW (getD (pk (bA l v i)) (0 + uV ((↑(length l + i):Int) / 8) * 1) jk) ||| uV (2 ^ min (uV ((↑(length l + i):Int) % 8)) 8 * (Mf MC (↑(My (L9 32 (ME (v:Int) (2 ^ min i 32)) &&& L9 32 1)):Int) % 256) % 256))]) (aj (map dB (pk (bA l v i))) (uV ((↑(length l + i):Int) / 8)) [dQ (LW (getD (pk (bA l v i)) (uV ((↑(length l + i):Int) / 8)) jk) ||| uV (2 ^ min (uV ((↑(length l + i):Int) % 8)) 8 * (Mf MC (↑(My (L9 32 (ME (v:Int) (2 ^ min i 32)) &&& L9 32 1)):Int) % 256) % 256))]) (by (simp; done)) (.s 13 (.ow ((↑(length l + i):Int) + 1) (.s 12 (.ow ((i:Int) + 1) (.s 1 (.val 39 (zI ((i:Int) + 1)) (zN (i + 1)) (by (refine aO ?_; (omega))) (.blk 8 8 (Blk.mk [D.ref 16 16 0 (length (pk (bA l v i))) 1,zI ((↑(length l + i):Int) + 1)] 163 false) (Blk.mk [D.ref 16 16 0 (length (pk (bA l v (i + 1)))) 1,zN (length l + (i + 1))] 163 false) Lw (.blk 16 16 (Blk.mk (aj (map dB (pk (bA l v i))) (uV ((↑(length l + i):Int) / 8)) [dQ (LW (getD (pk (bA l v i)) (uV ((↑(length l + i):Int) / 8)) jk) ||| uV (2 ^ min (uV ((↑(length l + i):Int) % 8)) 8 * (Mf MC (↑(My (L9 32 (ME (v:Int) (2 ^ min i 32)) &&& L9 32 1)):Int) % 256) % 256))]) 5 true) (Blk.mk (map dB (pk (bA l v (i + 1)))) 5 true) (by ( refine aC (Pq (G2 (by rw [bC]) om (Ci om om)) ?_); rw [Ch])) (Hn.next next1 ⟨(i + 1),om,⟨⟩⟩ (by show n - (i + 1) < n - i; clear next1 last1; omega) [(0,0),(8,8),(16,16)] ro)))))))))))))))))))))))))))))))))))))) (fun p0=>have p0f:=aU p0; (.blk 8 8 (Blk.mk [D.ref 16 16 0 (length (pk (bA l v i))) 1,zN (length l + i)] 163 false) (Blk.mk [D.ref 16 16 0 (length (pk (bA l v n))) 1,zN (length l + n)] 163 false) (by (rw [show i = n from by (omega)])) (.blk 16 16 (Blk.mk (map dB (pk (bA l v i))) 5 true) (Blk.mk (map dB (pk (bA l v n))) 5 true) (by (rw [show i = n from by (omega)])) (Hn.last last1 0 (():Unit) rfl [(0,0),(8,8),(16,16)] ro))))))) (fun | ⟨i,hi,_⟩=>by kernel_rfl) ⟨(0),om,⟨⟩⟩ [(8,8),(296,296),(336,336)] ro (cb (fun | ()=>(.s 16 (.out [16] [16] (D.tup [D.agg [D.ref 0 0 0 (length (pk (bA l v n))) 1,zN (length l + n)],zI 0]) [Blk.mk (map dB (pk (bA l v n))) 5 true] R (ok _ _ wr wr)))))))))))))))))))))))))) (by kernel_rfl)
end Vp
end Go.Proofs.YtefjnofhgkjpmaaGreat
namespace Go.Proofs.YtefjnofhgkjpmaaGreat
open Go.RowKit Go.Bw Go.Vx
open List (length getD map take drop flatMap replicate)
namespace Vp
def eP (v:Nat):Nat → Nat
 | 0=>0
 | i + 1=>2 * eP v i + (v.testBit i).toNat
def vp (v n i:Nat):Nat:=lk [()] (2 ^ (n - i) * eP v i)
theorem oj (v n i:Nat):vp v n i = 2 ^ (n - i) * eP v i:=aF _ _
theorem r7 (v:Nat):∀ n,eP v n < 2 ^ n
 | 0=>NY
 | n + 1=>by
  have h:=r7 v n
  have h2:=OM (v.testBit n)
  rw [eP,Ng]; omega
theorem w8 {v n i:Nat} (h:i ≤ n):vp v n i < 2 ^ n:=by
 rw [oj]
 have h2:=r7 v i
 have e:2 ^ n = 2 ^ (n - i) * 2 ^ i:=by rw [← Pr]; congr 1; omega
 rw [e]
 exact Nat.mul_lt_mul_of_pos_left h2 (Nq _)
theorem G5 (v n:Nat):vp v n n = eP v n:=by rw [oj,M9,Nat.pow_zero,Nat.one_mul]
theorem J9 {v n i:Nat} {X z:Int} (hi:i < n) (hn:n ≤ 32) (hX:X = ((vp v n i:Nat):Int)) (hz:z = (((v.testBit i).toNat:Nat):Int)):IntKind.u32.wrap ((L9 32 X ||| L9 32 (2 ^ min ((n:Int) - 1 - (i:Int)).toNat 32 * z % 4294967296)).toNat:Int) = ((vp v n (i + 1):Nat):Int):=by
 subst hX hz
 have h1:=w8 (v:=v) (n:=n) (i:=i) (by omega)
 have h2:=w8 (v:=v) (n:=n) (i:=i + 1) (by omega)
 have h3:2 ^ n ≤ 2 ^ 32:=MQ (by decide) hn
 have hb:=OM (v.testBit i)
 have e1:2 ^ (n - i) = 2 * 2 ^ (n - (i + 1)):=by rw [show n - i = (n - (i + 1)) + 1 from by omega,Ng,Nr]
 have e2:vp v n (i + 1) = 2 ^ (n - i) * eP v i + 2 ^ (n - (i + 1)) * (v.testBit i).toNat:=by
  rw [oj,eP,NN,e1,← M5,Nr (2 ^ (n - (i + 1))) 2]
 have e3:2 ^ (n - (i + 1)) * (v.testBit i).toNat < 2 ^ (n - i):=by
  have:2 ^ (n - (i + 1)) * (v.testBit i).toNat ≤ 2 ^ (n - (i + 1)) * 1:=Ok _ hb
  have h5:=Nq (n - (i + 1))
  omega
 have h6:2 ^ (n - (i + 1)) * (v.testBit i).toNat ≤ 4294967295:=by rw [e2] at h2; omega
 rw [show min ((n:Int) - 1 - (i:Int)).toNat 32 = n - (i + 1) from by omega,show (2:Int) ^ (n - (i + 1)) * (((v.testBit i).toNat:Nat):Int) = ((2 ^ (n - (i + 1)) * (v.testBit i).toNat:Nat):Int) from by push_cast; rfl,show ((2 ^ (n - (i + 1)) * (v.testBit i).toNat:Nat):Int) % 4294967296 = ((2 ^ (n - (i + 1)) * (v.testBit i).toNat:Nat):Int) from by omega]
 rw [oj] at h1 ⊢
 rw [e2] at h2 ⊢
 have h4:2 ^ (n - i) * eP v i ≤ 4294967295 ∧ 2 ^ (n - (i + 1)) * (v.testBit i).toNat ≤ 4294967295:=by omega
 rw [u5 (by omega) (by omega),Nl,Nl,← Oe e3]
theorem Ee {v i:Nat} (hi:i ≤ 32) (hv:v < 4294967296):IntKind.u32.wrap ((L9 32 ((v:Int).fdiv (2 ^ min i 32)) &&& L9 32 1).toNat:Int) = (((v.testBit i).toNat:Nat):Int):=by
 have hd:v / 2 ^ i ≤ v:=P3 _ _
 rw [show min i 32 = i from by omega,show (2:Int) ^ i = ((2 ^ i:Nat):Int) from by push_cast; rfl,Nf _ (NU _),← Oj,PH]
 generalize v / 2 ^ i = Y at *
 rw [jM 1 2 (by omega) (by decide) (by decide) (by decide)]
 omega
theorem bF (v n:Nat) (hn:n ≤ 32) (hv:v < 2 ^ n):SpecH false Tryz.prog 152 [.v (.int .u32 (v:Int)),nD n] [] (.tup [.v (.int .u32 ((eP v n:Nat):Int)),iD 0]) []:=by
 have h8:=w5 hv hn
 have h4:=w6 hv hn
 have h5:v < 4294967296:=Mx hv (MQ (n:=2) (by decide) hn)
 refine SpecH.run T_ok ai Tryz.func152 rfl rfl rfl trivial rfl 1000 64 (fun R ok=>(.s 19 (.t (decide ((n:Int) ≤ 32)) (by (refine decide_eq_true ?_; (omega))) (.s 2 (.opt (az .u64 (v:Int)) (D.v (MO .u64 (v:Int))) (bm om) (.s 5 (.opt (bj Nn (ME (v:Int) (2 ^ min n 64))) (D.v (MO .u64 (ME (v:Int) (2 ^ min n 64)))) (cU _ _) (.s 6 (.f (!ME (v:Int) (2 ^ min n 64) == 0) (by (simp <;> (omega))) (.s 2 (Hn.inl T_ok ai false 28 0 (aA Tryz.prog 152 0) (fun (x:(i:Nat) ×' (hi:i ≤ n) ×' Unit)=>match x with | ⟨i,hi,_⟩=>CutS.mk [(0,ah v),(1,zN n),(4,.v (.int .u32 ((vp v n i:Nat):Int))),(11,zN n),(12,nD i)] [] 0) (fun (x:(i:Nat) ×' (hi:i ≤ n) ×' Unit)=>match x with | ⟨i,hi,_⟩=>n - i) [⟨Unit,.exit 0,fun x=>match x with | ()=>CutS.mk [(0,ah v),(1,zN n),(4,.v (.int .u32 ((eP v n:Nat):Int))),(11,zN n)] [] 0⟩] 1000 64 (fun | ⟨i,hi,_⟩,Q,next1,last1=>(.s 2 (.br (decide ((i:Int) < (n:Int))) (fun p0=>have p0f:=aT p0; (.s 7 (.opt (bj MC (ME (v:Int) (2 ^ min i 32))) (uI (ME (v:Int) (2 ^ min i 32))) (cU _ _) (.s 2 (.opt (bj MC (Mf MC (↑(My (L9 32 (ME (v:Int) (2 ^ min i 32)) &&& L9 32 1)):Int))) (uI (Mf MC (↑(My (L9 32 (ME (v:Int) (2 ^ min i 32)) &&& L9 32 1)):Int))) (cU _ _) (.s 3 (.ow ((n:Int) - 1) (.s 3 (.ow ((n:Int) - 1 - (i:Int)) (.s 1 (.chk (decide (0 ≤ (n:Int) - 1 - (i:Int))) (by (refine decide_eq_true ?_; (omega))) (.opt (az .u32 (2 ^ min (uV ((n:Int) - 1 - (i:Int))) 32 * Mf MC (↑(My (L9 32 (ME (v:Int) (2 ^ min i 32)) &&& L9 32 1)):Int))) (uI (2 ^ min (uV ((n:Int) - 1 - (i:Int))) 32 * Mf MC (↑(My (L9 32 (ME (v:Int) (2 ^ min i 32)) &&& L9 32 1)):Int) % 4294967296)) (aM _ _) (.s 2 (.opt (bj MC (Mf MC (↑(My (L9 32 (↑(vp v n i):Int) ||| L9 32 (2 ^ min (uV ((n:Int) - 1 - (i:Int))) 32 * Mf MC (↑(My (L9 32 (ME (v:Int) (2 ^ min i 32)) &&& L9 32 1)):Int) % 4294967296))):Int))) (uI (Mf MC (↑(My (L9 32 (↑(vp v n i):Int) ||| L9 32 (2 ^ min (uV ((n:Int) - 1 - (i:Int))) 32 * Mf MC (↑(My (L9 32 (ME (v:Int) (2 ^ min i 32)) &&& L9 32 1)):Int) % 4294967296))):Int))) (cU _ _) (.s 3 (.ow ((i:Int) + 1) (.s 1 (.val 4 (uI (Mf MC (↑(My (L9 32 (↑(vp v n i):Int) ||| L9 32 (2 ^ min (uV ((n:Int) - 1 - (i:Int))) 32 * Mf MC (↑(My (L9 32 (ME (v:Int) (2 ^ min i 32)) &&& L9 32 1)):Int) % 4294967296))):Int))) (ah (vp v n (i + 1))) (by ( exact aO (J9 om hn rfl (Ee om om)))) (.val 12 (zI ((i:Int) + 1)) (zN (i + 1)) (by (refine aO ?_; (omega))) (Hn.next next1 ⟨(i + 1),om,⟨⟩⟩ (by show n - (i + 1) < n - i; clear next1 last1; omega) [] ro)))))))))))))))))))) (fun p0=>have p0f:=aU p0; (.val 4 (ah (vp v n i)) (ah (eP v n)) (by (rw [show i = n from by (omega),G5])) (Hn.last last1 0 (():Unit) rfl [] ro)))))) (fun | ⟨i,hi,_⟩=>by kernel_rfl) ⟨(0),om,⟨⟩⟩ [] ro (cb (fun | ()=>(.s 3 (.out [] [] (D.tup [ah (eP v n),zI 0]) [] R (ok _ _ wr wr)))))))))))))))) (by kernel_rfl)
end Vp
end Go.Proofs.YtefjnofhgkjpmaaGreat
namespace Go.Proofs.YtefjnofhgkjpmaaGreat
open Go.RowKit Go.Bw Go.Vx
namespace Vp
def cT (x:Nat):D:=.v (.int .u32 ((x:Nat):Int))
def dt (x:Nat):Nat → Nat
 | 0=>x
 | i + 1=>dt x i / 2
theorem qj (x:Nat):∀ i,dt x i = x / 2 ^ i
 | 0=>(Nat.div_one x).symm
 | i + 1=>by rw [dt,qj x i,Nat.div_div_eq_div_mul,Ng]
end Vp
end Go.Proofs.YtefjnofhgkjpmaaGreat
namespace Go.Proofs.YtefjnofhgkjpmaaGreat
open Go.RowKit Go.Bw Go.Vx
namespace Vp
theorem dZ {v:Nat} (h:v ≤ 15):dt 32768 v = 2 ^ (15 - v):=by
 rw [qj,show (32768:Nat) = 2 ^ 15 from rfl,Nat.pow_div h (by decide)]
end Vp
end Go.Proofs.YtefjnofhgkjpmaaGreat
namespace Go.Proofs.YtefjnofhgkjpmaaGreat
open Go.RowKit Go.Bw Go.Vx
namespace Vp
def va (l:List UInt8):Nat → Nat
 | 0=>0
 | n + 1=>va l n + (if n = 0 then 0 else (ek l n l.length).length * dt 32768 n)
def Lx (l:List UInt8) (n k:Nat):Nat:=lk l (va l n + (if n = 0 then 0 else (ek l n k).length * dt 32768 n))
theorem Ef (l:List UInt8) (n k:Nat):Lx l n k = va l n + (if n = 0 then 0 else (ek l n k).length * dt 32768 n):=aF _ _
def qk (l:List UInt8) (j:Nat):Nat:=Lx l (l.getD j jk).toNat j / dt 32768 (l.getD j jk).toNat
def Ka (l:List UInt8) (n k j:Nat):Nat × Nat :=
 if (l.getD j jk).toNat ≠ 0 ∧ ((l.getD j jk).toNat < n ∨ (l.getD j jk).toNat = n ∧ j < k) then (qk l j,(l.getD j jk).toNat) else (0,0)
def md (l:List UInt8) (n k:Nat):List (Nat × Nat):=lk l ((MH l.length).map (Ka l n k))
theorem Cj (l:List UInt8) (n k:Nat):md l n k = (MH l.length).map (Ka l n k):=aF _ _
def af (l:List UInt8):List (Nat × Nat):=lk l (md l 16 0)
theorem w9 (l:List UInt8):af l = md l 16 0:=aF _ _
def jO (c:Nat × Nat):List D:=[cT c.1,ga c.2]
theorem Eg (l:List UInt8) (n k:Nat):(md l n k).length = l.length:=by rw [Cj,Ma,M4]
theorem kx (f:Nat × Nat → List D) (hf:∀ c,(f c).length = 2):∀ (xs:List (Nat × Nat)) (k:Nat),(xs.flatMap f)[2 * k]? = (xs[k]?).bind (fun c=>(f c)[0]?) ∧ (xs.flatMap f)[2 * k + 1]? = (xs[k]?).bind (fun c=>(f c)[1]?)
 | [],k=>by simp
 | c :: r,0=>by
  rw [M1]
  exact ⟨by rw [List.getElem?_append_left (by rw [hf]; omega)]; rfl,by rw [List.getElem?_append_left (by rw [hf]; omega)]; rfl⟩
 | c :: r,k + 1=>by
  have ih:=kx f hf r k
  rw [M1]
  refine ⟨?_,?_⟩
  ·rw [List.getElem?_append_right (by rw [hf]; omega),hf,show 2 * (k + 1) - 2 = 2 * k from by omega,ih.1]; rfl
  ·rw [List.getElem?_append_right (by rw [hf]; omega),hf,show 2 * (k + 1) + 1 - 2 = 2 * k + 1 from by omega,ih.2]; rfl
theorem zE {xs:List (Nat × Nat)} {k o:Nat} {c:Nat × Nat} (hk:k < xs.length) (ho:o = 2 * k):aj (xs.flatMap jO) o (jO c) = (xs.set k c).flatMap jO:=by
 have hl:∀ ys:List (Nat × Nat),(ys.flatMap jO).length = 2 * ys.length:=fun ys=>by rw [bn (k:=2) (fun _=>rfl)]; omega
 subst ho
 apply List.ext_getElem?
 intro i
 rw [cq (by rw [hl]; show 2 * k + 2 ≤ _; omega)]
 have hd:∃ j,i = 2 * j ∨ i = 2 * j + 1:=⟨i / 2,by omega⟩
 obtain ⟨j,hj⟩:=hd
 have g1:=kx jO (fun _=>rfl) xs j
 have g2:=kx jO (fun _=>rfl) (xs.set k c) j
 show (if 2 * k ≤ i ∧ i < 2 * k + 2 then (jO c)[i - 2 * k]? else (xs.flatMap jO)[i]?) = _
 by_cases e:k = j
 ·subst e
  rw [List.getElem?_set,if_pos rfl,if_pos hk] at g2
  rcases hj with rfl | rfl
  ·rw [if_pos (by omega),g2.1,M9]; rfl
  ·rw [if_pos (by omega),g2.2,N3]; rfl
 ·rw [List.getElem?_set,if_neg e] at g2
  rw [if_neg (by omega)]
  rcases hj with rfl | rfl
  ·rw [g1.1,g2.1]
  ·rw [g1.2,g2.2]
theorem Eh (n:Nat):cD [D.v (.int .u32 0),D.v (.int .u8 0)] (n * 2) = (Md n ((0,0):Nat × Nat)).flatMap jO:=by
 apply List.ext_getElem?
 intro i
 unfold cD
 rw [List.getElem?_map]
 obtain ⟨j,hj⟩:∃ j,i = 2 * j ∨ i = 2 * j + 1:=⟨i / 2,by omega⟩
 have g:=kx jO (fun _=>rfl) (Md n ((0,0):Nat × Nat)) j
 rw [List.getElem?_replicate] at g
 by_cases h:j < n
 ·rw [if_pos h] at g
  rcases hj with rfl | rfl
  ·rw [List.getElem?_range (by omega),g.1]
   show some (Qb _ (2 * j % 2) jk) = _
   rw [show 2 * j % 2 = 0 from by omega]; rfl
  ·rw [List.getElem?_range (by omega),g.2]
   show some (Qb _ ((2 * j + 1) % 2) jk) = _
   rw [show (2 * j + 1) % 2 = 1 from by omega]; rfl
 ·rw [if_neg h] at g
  rcases hj with rfl | rfl
  ·rw [List.getElem?_eq_none (by rw [M4]; omega),g.1]; rfl
  ·rw [List.getElem?_eq_none (by rw [M4]; omega),g.2]; rfl
theorem ql {a:Nat} (h:a ≤ 15):1 ≤ dt 32768 a:=by rw [dZ h]; exact Nq _
end Vp
end Go.Proofs.YtefjnofhgkjpmaaGreat
namespace Go.Proofs.YtefjnofhgkjpmaaGreat
open Go.RowKit Go.Bw Go.Vx
open List (length getD map take drop flatMap replicate)
namespace Vp
theorem Ei {p:Prop} (h:p:=by ((refine aH ?_ ?_) <;> (repeat' (first | (refine aH ?_ ?_) | (with_reducible rfl) | (refine decide_eq_true ?_) | (refine Nat.ble_eq_true_of_le ?_) | (refine eu ?_))) <;> (omega))):p:=h
theorem G6 (l:List UInt8):aK l 0 = 0:=by rw [lw]; rfl
theorem ol {l:List UInt8} {m:Nat} (hm:m ≤ 15) (h:cM l m = 0):cM l 15 = 0 ∧ dr l 15 = false:=by
 have h0:=eZ h
 have e3:dr l 15 = false:=kv fun i z=>by have:=eN h0.2.1 z; omega
 refine ⟨?_,e3⟩
 rw [iP] at *
 unfold rY at *
 rw [e3,if_neg (by omega),if_neg (by decide)]
 rw [if_neg (by omega),if_neg (by rw [h0.2.1]; decide)] at h
 exact h
theorem r8 (l:List UInt8) (q p:Nat) (hq:q = (db l).length) (hp:p = (db l).length) (hQ:q ≤ 320):SpecH false Tryz.prog 195 [Ca q l,Ca p l] [] (bD true) []:=by
 refine SpecH.run T_ok ai Tryz.func195 rfl rfl rfl trivial rfl 1000 64 (fun R ok=>(.s 23 (.t ((↑(aK l 0):Int) == (↑(aK l 0):Int) && ((↑(aK l 1):Int) == (↑(aK l 1):Int) && ((↑(aK l 2):Int) == (↑(aK l 2):Int) && ((↑(aK l 3):Int) == (↑(aK l 3):Int) && ((↑(aK l 4):Int) == (↑(aK l 4):Int) && ((↑(aK l 5):Int) == (↑(aK l 5):Int) && ((↑(aK l 6):Int) == (↑(aK l 6):Int) && ((↑(aK l 7):Int) == (↑(aK l 7):Int) && ((↑(aK l 8):Int) == (↑(aK l 8):Int) && ((↑(aK l 9):Int) == (↑(aK l 9):Int) && ((↑(aK l 10):Int) == (↑(aK l 10):Int) && ((↑(aK l 11):Int) == (↑(aK l 11):Int) && ((↑(aK l 12):Int) == (↑(aK l 12):Int) && ((↑(aK l 13):Int) == (↑(aK l 13):Int) && ((↑(aK l 14):Int) == (↑(aK l 14):Int) && ((↑(aK l 15):Int) == (↑(aK l 15):Int) && true)))))))))))))))) Ei (.s 24 (.f ((q:Int) != (p:Int)) (by (simp <;> (omega))) (.s 3 (Hn.inl T_ok ai false 26 112 (aA Tryz.prog 199 0) (fun (x:(i:Nat) ×' (hi:i ≤ q) ×' Unit)=>match x with | ⟨i,hi,_⟩=>CutS.mk [(0,D.sl false q 1 (map nD (db l))),(1,D.sl false p 1 (map nD (db l))),(12,zN q),(13,nD i)] [⟨0,0,0,0,.b ⟨[zN (aK l 0),zN (aK l 1),zN (aK l 2),zN (aK l 3),zN (aK l 4),zN (aK l 5),zN (aK l 6),zN (aK l 7),zN (aK l 8),zN (aK l 9),zN (aK l 10),zN (aK l 11),zN (aK l 12),zN (aK l 13),zN (aK l 14),zN (aK l 15),D.sl false q 1 (map nD (db l))],154,false⟩⟩,⟨8,8,8,8,.b ⟨[zN (aK l 0),zN (aK l 1),zN (aK l 2),zN (aK l 3),zN (aK l 4),zN (aK l 5),zN (aK l 6),zN (aK l 7),zN (aK l 8),zN (aK l 9),zN (aK l 10),zN (aK l 11),zN (aK l 12),zN (aK l 13),zN (aK l 14),zN (aK l 15),D.sl false p 1 (map nD (db l))],154,false⟩⟩] 128) (fun (x:(i:Nat) ×' (hi:i ≤ q) ×' Unit)=>match x with | ⟨i,hi,_⟩=>q - i) [⟨Unit,.exit 0,fun x=>match x with | ()=>CutS.mk [(0,D.sl false q 1 (map nD (db l))),(1,D.sl false p 1 (map nD (db l))),(12,zN q)] [⟨0,0,0,0,.b ⟨[zN (aK l 0),zN (aK l 1),zN (aK l 2),zN (aK l 3),zN (aK l 4),zN (aK l 5),zN (aK l 6),zN (aK l 7),zN (aK l 8),zN (aK l 9),zN (aK l 10),zN (aK l 11),zN (aK l 12),zN (aK l 13),zN (aK l 14),zN (aK l 15),D.sl false q 1 (map nD (db l))],154,false⟩⟩,⟨8,8,8,8,.b ⟨[zN (aK l 0),zN (aK l 1),zN (aK l 2),zN (aK l 3),zN (aK l 4),zN (aK l 5),zN (aK l 6),zN (aK l 7),zN (aK l 8),zN (aK l 9),zN (aK l 10),zN (aK l 11),zN (aK l 12),zN (aK l 13),zN (aK l 14),zN (aK l 15),D.sl false p 1 (map nD (db l))],154,false⟩⟩] 128⟩] 1000 64 (fun | ⟨i,hi,_⟩,Q,next1,last1=>(.s 2 (.br (decide ((i:Int) < (q:Int))) (fun p0=>have p0f:=aT p0; (.s 6 (.chk (true && decide ((i:Int) < (q:Int)) && true) Ei (.s 2 (.opt ((map nD (db l))[i * 1]?) (nD (getD (db l) (i * 1) jk)) (av _ _ om) (.s 3 (.chk (true && decide ((i:Int) < (p:Int)) && true) Ei (.s 2 (.opt ((map nD (db l))[i * 1]?) (nD (getD (db l) (i * 1) jk)) (av _ _ om) (.s 2 (.f ((↑(getD (db l) (i * 1) jk):Int) != (↑(getD (db l) (i * 1) jk):Int)) (by (simp; done)) (.s 2 (.ow ((i:Int) + 1) (.s 1 (.val 13 (zI ((i:Int) + 1)) (zN (i + 1)) (by (refine aO ?_; (omega))) (Hn.next next1 ⟨(i + 1),om,⟨⟩⟩ (by show q - (i + 1) < q - i; clear next1 last1; omega) [(0,0),(8,8)] ro)))))))))))))))) (fun p0=>have p0f:=aU p0; (Hn.last last1 0 (():Unit) rfl [(0,0),(8,8)] ro))))) (fun | ⟨i,hi,_⟩=>by kernel_rfl) ⟨(0),om,⟨⟩⟩ [(0,0),(8,8)] ro (cb (fun | ()=>(.s 3 (.out [] [] (D.v (.bool true)) [] R (ok _ _ wr wr)))))))))))) (by kernel_rfl)
def Ly (b l:List UInt8):Nat → Nat → Nat → Nat → Nat × Nat × Nat
 | 0,_,_,_=>(0,0,50)
 | k + 1,a,d,p=>if (qe l a).length + aK l a = (db l).length then (0,0,50) else if LP b p 1 ≠ 0 then (0,0,10) else
  if 2 * (d - aK l a) + JT b p 1 < aK l (a + 1) then ((db l).getD ((qe l a).length + aK l a + (2 * (d - aK l a) + JT b p 1)) jk,p + 1,0)
  else Ly b l k (a + 1) (2 * (d - aK l a) + JT b p 1) (p + 1)
end Vp
end Go.Proofs.YtefjnofhgkjpmaaGreat
namespace Go.Proofs.YtefjnofhgkjpmaaGreat
open Go.RowKit Go.Bw Go.Vx
namespace Vp
theorem lG (l:List UInt8) (n:Nat):∀ (k j:Nat),∃ r,ek l n (k + j) = ek l n k ++ r
 | k,0=>⟨[],by simp⟩
 | k,j + 1=>by
  obtain ⟨r,hr⟩:=lG l n k j
  exact ⟨r ++ (if (l.getD (k + j) jk).toNat = n then [k + j] else []),by rw [← M8,gW,hr,Mo]⟩
def jV (l:List UInt8):Nat → Nat
 | 0=>0
 | a + 1=>2 * (jV l a + aK l a)
theorem zF {l:List UInt8} {a:Nat} (h:a ≠ 0):(ek l a l.length).length = aK l a:=by rw [lw]; unfold wR; rw [if_neg h]
theorem qm {a:Nat} (h:a < 15):dt 32768 a = 2 * dt 32768 (a + 1):=by
 rw [dZ (by omega),dZ (by omega),show 15 - a = (15 - (a + 1)) + 1 from by omega,Ng,Nr]
theorem r9 (l:List UInt8):∀ a,a ≤ 15 → va l (a + 1) = (jV l a + aK l a) * dt 32768 a
 | 0,_=>by rw [va,if_pos rfl,G6]; show 0 + 0 = (0 + 0) * _; omega
 | a + 1,h=>by
  have ih:=r9 l a (by omega)
  rw [va,if_neg (NR a),ih,zF (NR a),jV,qm (by omega)]
  generalize dt 32768 (a + 1) = P
  generalize jV l a + aK l a = X
  rw [MT (2 * X),M5 2 X P,Nat.mul_left_comm X 2 P]
theorem Ej {l:List UInt8} {a:Nat} (h0:a ≠ 0) (h:a ≤ 15):va l a = jV l a * dt 32768 a:=by
 obtain ⟨b,rfl⟩:∃ b,a = b + 1:=⟨a - 1,by omega⟩
 rw [r9 l b (by omega),jV,qm (by omega)]
 rw [Nr 2 (jV l b + aK l b),M5]
theorem qn (l:List UInt8) (a:Nat):∀ k,va l a ≤ va l (a + k)
 | 0=>Mc _
 | k + 1=>L0 (qn l a k) (by rw [← M8,va]; exact O4 _ _)
theorem Ck {l:List UInt8} {i a:Nat} (h:(l.getD i jk).toNat = a) (h0:a ≠ 0) (h1:a ≤ 15):qk l i = jV l a + (ek l a i).length:=by
 unfold qk
 rw [h,Ef,if_neg h0,Ej h0 h1,← MT,Nat.mul_div_cancel _ (ql h1)]
def vq (l:List UInt8) (k:Nat):Nat → Nat
 | 0=>0
 | a + 1=>vq l k a + (if a = 0 then 0 else (ek l a k).length * dt 32768 a)
theorem xa (l:List UInt8):∀ a,vq l l.length a = va l a
 | 0=>rfl
 | a + 1=>by rw [vq,va,xa l a]
theorem qo (l:List UInt8):∀ a,vq l 0 a = 0
 | 0=>rfl
 | a + 1=>by
  have:ek l a 0 = []:=rfl
  rw [vq,qo l a,this,NI,Nh]; split <;> rfl
theorem qp (l:List UInt8) (k:Nat):∀ a,vq l (k + 1) a = vq l k a + (if (l.getD k jk).toNat ≠ 0 ∧ (l.getD k jk).toNat < a then dt 32768 (l.getD k jk).toNat else 0)
 | 0=>by rw [vq,vq,if_neg (fun q=>M7 _ q.2)]
 | a + 1=>by
  rw [vq,vq,qp l k a,gW]
  generalize (l.getD k jk).toNat = x
  by_cases h0:a = 0
  ·rw [if_pos h0,if_pos h0,if_neg (fun q=>by omega),if_neg (fun q=>by omega)]
  ·rw [if_neg h0,if_neg h0]
   by_cases h:x = a
   ·subst h
    rw [if_pos rfl,if_neg (fun q=>by omega),if_pos ⟨h0,by omega⟩,LZ,MI,Nat.succ_mul]; omega
   ·rw [if_neg h,MN]
    by_cases h2:x ≠ 0 ∧ x < a
    ·rw [if_pos h2,if_pos (by omega)]; omega
    ·rw [if_neg h2,if_neg (by omega)]; omega
theorem G7 (l:List UInt8) (ho:dr l 15 = false):va l 16 = aX l:=by
 have key:∀ k,k ≤ l.length → vq l k 16 = aX (l.take k):=by
  intro k
  induction k with
  | zero=>intro _; exact qo l 16
  | succ k ih =>
   intro hk
   have hx:=eN ho (i:=k) (by omega)
   rw [qp,ih (by omega),fW (by omega)]
   by_cases q:(l.getD k jk).toNat = 0
   ·rw [if_neg (fun z=>z.1 q),if_pos q]
   ·rw [if_pos ⟨q,by omega⟩,if_neg q,dZ hx]
 have h:=key l.length (Mc _)
 rw [M3,xa] at h; exact h
def LQ (b l:List UInt8) (n d c:Nat):Nat × Nat × Nat:=lk b (if d < aK l n then ((db l).getD ((qe l n).length + d) jk,c,0) else Ly b l (16 - n) n d c)
section
variable {b l:List UInt8} {n d c v:Nat} {R:Nat × Nat × Nat}
end

section
variable {b l:List UInt8} {n a d c v:Nat} {R:Nat × Nat × Nat} (hT:cM l 15 = 0) (hn:n = l.length) (ha:a ≤ 15) (hv:v = jV l a + d) (hb:v < 2 ^ a) (hno:∀ j,j < n → ¬ ((l.getD j jk).toNat = a ∧ qk l j = v ∧ 0 < a)) (hR:LQ b l a d c = R)
include hT hn ha hv hb hno hR
end
end Vp
end Go.Proofs.YtefjnofhgkjpmaaGreat

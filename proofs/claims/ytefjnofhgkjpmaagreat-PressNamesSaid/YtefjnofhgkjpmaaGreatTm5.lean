/- Part 5. -/
import Derived.Test.YtefjnofhgkjpmaaGreatTm4
import Derived.Test.YtefjnofhgkjpmaaGreatRows
set_option linter.unusedVariables false
set_option linter.unusedSimpArgs false
set_option maxRecDepth 100000
set_option maxHeartbeats 4000000
open And renaming intro → LW
open Array renaming replicate → OA
open BitVec renaming ofInt → LS, toNat → Mk
open Bool renaming and_eq_true → LI, and_true → Mc, toNat_le → Ox
open ByteArray renaming mk → M9
open Eq renaming trans → Pa
open Go.Fn renaming func → Mn
open Go.IntKind renaming i64 → L5, u32 → Mo, u64 → M5, u8 → OH, wrap → LZ
open Go.Value renaming int → My
open Inhabited renaming default → jd
open Int renaming eq_ofNat_of_zero_le → MD, fdiv → Mp, fdiv_eq_ediv_of_nonneg → MY, natCast_ediv → N3, natCast_nonneg → NE, tdiv → NM, tmod → Nd, toNat → uM, toNat_natCast → M4
open List renaming any_eq_true → OS, append_assoc → Ma, append_nil → MA, cons_append → NB, drop → Mm, drop_append → PB, drop_append_of_le_length → NQ, drop_eq_getElem_cons → M1, drop_eq_nil_of_le → MS, drop_zero → M6, filter_append → MO, filter_nil → PM, flatMap_append → Nj, flatMap_cons → MN, getD → PV, getElem_mem → Mr, length_append → LJ, length_cons → Md, length_drop → L9, length_filter_le → Ok, length_map → LU, length_nil → Nt, length_range → MQ, length_singleton → Mu, length_take → LO, map → Ni, map_append → Mv, map_take → Ow, mem_of_mem_drop → NL, mem_of_mem_take → MG, nil_append → OC, range → Mt, range_succ → NU, replicate → LX, set_append_right → O2, take → Ml, take_append → PA, take_append_drop → NG, take_append_of_le_length → Nq, take_length → MP, take_of_length_le → Mf, take_succ_cons → Pg
open Nat renaming add_assoc → MU, add_mul → ME, add_sub_cancel_left → NO, add_zero → NK, beq → LF, beq_refl → MM, ble → LH, ble_eq_true_of_le → LK, div_eq_of_lt → OO, div_le_self → PN, eq_of_beq_eq_true → LL, le_add_right → OQ, le_refl → LV, le_trans → LM, lt_of_lt_of_le → Mj, lt_or_ge → Mh, mod_eq_of_lt → MK, mod_lt → Pl, mod_one → PD, mul_add → Ny, mul_assoc → MR, mul_comm → M8, mul_le_mul_left → N4, mul_one → Me, not_lt_zero → MT, pow_add → Pb, pow_le_pow_right → MB, pow_succ → MZ, sub_self → MV, succ_le_succ → NA, succ_ne_zero → NC, toNat_testBit → Ps, two_pow_add_eq_or_of_lt → NZ, two_pow_pos → M7, zero_add → Mb, zero_le → Mw, zero_lt_one → NI, zero_mul → M0
open UInt8 renaming ofNat → MH, toNat → LG, toNat_ofNat' → ND
namespace Go.Vx
open Go.RowKit Go.Bw
theorem aC {A B:List D} {e:TypeId} {r:Bool} (h:A = B):Blk.mk A e r = Blk.mk B e r:=by rw [h]
theorem D.sim.slN {nn:Bool} {n n' sz:Nat} {cells cells' : List D} (h1:n = n') (h2:cells = cells'):(D.sl nn n sz cells).sim (.sl nn n' sz cells'):=by rw [h1,h2]; exact D.sim.refl _
theorem D.sim.tup {l l' : List D} (h:bW l l'):(D.tup l).sim (.tup l'):=fun E w u hr=>by
 obtain ⟨h1,h2⟩:=h.get
 cases hr with
 | tup _ us hlen hd =>
  refine .tup _ us (by rw [hlen,h1]) fun i d u a b=>?_
  obtain ⟨d0,c1,c2⟩:=h2 i d a
  exact c2 _ _ _ (hd i d0 u c1 b)
theorem D.sim.ifc {t:TypeId} {x x' : D} (h:x.sim x'):(D.ifc t x).sim (.ifc t x'):=fun E w u hr=>by
 cases hr with
 | ifc _ _ u hx=>exact .ifc _ _ u (h _ _ _ hx)
theorem bt {α:Type} {c:Bool} {a b:α} (h:c = true):cond c a b = a:=by rw [h]; rfl
theorem ed (k:IntKind) (m n:Int):fZ k true m n = some (.v (.int k (max m n))):=za rfl
theorem cU {b:Bool} (h:(!b) = true):b = false:=by cases b <;> simp_all
theorem cV {b:Bool} (h:(!b) = false):b = true:=by cases b <;> simp_all
theorem DA {a b:Bool} (h:(a && b) = true):a = true:=by cases a <;> simp_all
theorem DB {a b:Bool} (h:(a && b) = true):b = true:=by cases a <;> simp_all
theorem aK {a b:Bool} (h1:a = true) (h2:b = true):(a && b) = true:=by rw [h1,h2]; rfl
theorem eT {a b:Nat} (h:a = b):LF a b = true:=by rw [h]; exact MM b
theorem fO (b:UInt8) {m n:Int} (hm:m ≤ 0) (hn:255 ≤ n):m ≤ (b.toNat:Int) ∧ (b.toNat:Int) ≤ n:=by
 have:=b.toNat_lt
 constructor <;> omega
theorem aO {k:IntKind} {a b:Int} (h:a = b):D.v (.int k a) = D.v (.int k b):=by rw [h]
theorem lj {α:Type} [Inhabited α] {l:List α} {i:Nat} (h:i < l.length):l.take (i + 1) = l.take i ++ [l.getD i jd]:=by
 rw [List.take_add_one,List.getElem?_eq_getElem h]; simp [h]
theorem tl {l:List D} (h:ab l = true) (n:Nat):ab (l.take n) = true:=bc.2 fun d hd=>bc.1 h d (MG hd)
theorem tn {l:List D} (h:ab l = true) (n:Nat):ab (l.drop n) = true:=bc.2 fun d hd=>bc.1 h d (NL hd)
theorem FW (bs:List UInt8) (n:Nat):ab ((bs.map dB).take n) = true:=tl (aS bs) n
theorem FX (bs:List UInt8) (n:Nat):ab ((bs.map dB).drop n) = true:=tn (aS bs) n
theorem zb (c:Bool) (a b:List D):ab (cond c a b) = cond c (ab a) (ab b):=by cases c <;> rfl
theorem wA (a b:List D):ab (a ++ b) = (ab a && ab b):=by
 induction a with
 | nil=>rfl
 | cons x a ih=>show (x.closed && ab (a ++ b)) = _; rw [ih,← Bool.and_assoc]; rfl
theorem pY {α:Type} [BEq α] [LawfulBEq α] {a b:α} (h:(a != b) = true):a ≠ b:=by simpa using h
theorem pZ {α:Type} [BEq α] [LawfulBEq α] {a b:α} (h:(a != b) = false):a = b:=by simpa using h
theorem ar {α:Type} [BEq α] [LawfulBEq α] {a b:α} (h:(a == b) = false):a ≠ b:=by simpa using h
theorem fk (l:List UInt8):(M9 l.toArray).toList = l:=by rw [ByteArray.toList_eq]
theorem uU (a b:List UInt8):M9 a.toArray ++ M9 b.toArray = M9 (a ++ b).toArray:=by
 apply ByteArray.ext
 simp
theorem zd (a:List UInt8):(M9 a.toArray).size = a.length:=rfl
theorem rR {α:Type} [Inhabited α] {f:α → List D} {k:Nat} (hk:∀ x,(f x).length = k):∀ {xs:List α} {i j:Nat},i < xs.length → j < k → (xs.flatMap f)[i * k + j]? = (f (xs.getD i jd))[j]?
 | [],i,j,h,_=>by simp at h
 | x :: xs,0,j,h,hj=>by
  rw [MN,M0,Mb,List.getElem?_append_left (by rw [hk]; exact hj)]; rfl
 | x :: xs,i + 1,j,h,hj=>by
  rw [MN,List.getElem?_append_right (by rw [hk,ME]; omega),hk]
  have e:(i + 1) * k + j - k = i * k + j:=by rw [ME]; omega
  rw [e,rR hk (by simpa using h) hj]; rfl
theorem AL {α:Type} [Inhabited α] {f:α → List D} {k:Nat} (hk:∀ x,(f x).length = k) {xs:List α} {i n j:Nat} {d:D} (h:i < xs.length) (e:n = i * k + j) (hj:(f (xs.getD i jd))[j]? = some d):(xs.flatMap f)[n]? = some d:=by
 have hlt:j < k:=by rw [← hk (xs.getD i jd)]; exact (List.getElem?_eq_some_iff.1 hj).1
 rw [e,rR hk h hlt]; exact hj
theorem bl {α:Type} {f:α → List D} {k:Nat} (hk:∀ x,(f x).length = k):∀ (xs:List α),(xs.flatMap f).length = xs.length * k
 | []=>by simp
 | x :: xs=>by rw [MN,LJ,hk,bl hk xs,Md,ME]; omega
theorem aD {α:Type} [Inhabited α] {f:α → List D} {k:Nat} (hk:∀ x,(f x).length = k) {xs:List α} {i n:Nat} (h:i < xs.length) (e:n = i * k):((xs.flatMap f).drop n).take k = f (xs.getD i jd):=by
 apply List.ext_getElem?
 intro j
 rw [List.getElem?_take]
 by_cases hj:j < k
 ·rw [if_pos hj,List.getElem?_drop,e,rR hk h hj]
 ·rw [if_neg hj,List.getElem?_eq_none (by rw [hk]; omega)]
theorem a9 (bs:List UInt8) (off m:Nat):(bif LF off 0 && LF m (bs.map dB).length then bs.map dB else ((bs.map dB).drop off).take m) = ((bs.drop off).take m).map dB:=by
 cases h:LF off 0 && LF m (bs.map dB).length with
 | true =>
  have h1:=LL (DA h)
  have h2:=LL (DB h)
  subst h1 h2
  simp
 | false=>rw [cond_false,Ow,List.map_drop]
theorem D.sim.nil {sz:Nat} (h:0 < sz):(D.v (.slice none 0 0)).sim (.sl false 0 sz []):=fun E w u hr=>by
 cases hr with
 | v=>exact .sl false 0 sz [] none 0 [] rfl (by simp) (by simp) (by simp) h ⟨LV _,Mw _⟩ (fun _=>⟨rfl,rfl⟩) (.inl rfl)
theorem D.sim.slc {nn:Bool} {n n' sz:Nat} {cells cells' : List D} (h1:n = n') (h2:bW cells cells'):(D.sl nn n sz cells).sim (.sl false n' sz cells'):=by
 subst h1
 intro E w u h
 obtain ⟨e,g⟩:=h2.get
 cases h with
 | sl _ _ _ _ a c us hlen hd h1 hn hs hc h0 hr =>
  refine .sl false n sz cells' a c us (by rw [hlen,e]) (fun i d' u a1 a2=>?_) h1 (by rw [← e,hn]) hs hc (fun h=>⟨(h0 h).1,rfl⟩) hr
  obtain ⟨d,b1,b2⟩:=g i d' a1
  exact b2 _ _ _ (hd i d u b1 a2)
theorem di {α:Type} {f:α → List D} (h:∀ x,ab (f x) = true):∀ l:List α,ab (l.flatMap f) = true
 | []=>rfl
 | x :: l=>by rw [MN,wA,h x,di h l]; rfl
theorem ee {α:Type} {f:α → List D} (h:∀ x,ta (f x) = true) (l:List α):ta (l.flatMap f) = true:=gM.2 fun d hd=>by
 obtain ⟨t,_,hd⟩:=List.mem_flatMap.1 hd
 exact gM.1 (h t) d hd
theorem tq {α:Type} {f:α → List D} {k:Nat} (hk:∀ x,(f x).length = k):∀ (xs:List α) (i:Nat),(xs.flatMap f).take (i * k) = (xs.take i).flatMap f
 | [],i=>by simp
 | x :: xs,0=>by simp
 | x :: xs,i + 1=>by
  rw [MN,Pg,MN,PA,hk,Mf (by rw [hk,ME]; omega),show (i + 1) * k - k = i * k from by rw [ME]; omega,tq hk xs i]
theorem kj {α:Type} {f:α → List D} {c:List α} {l:List D} {t:α} {y:TypeId} {r:Bool} (h:l = f t):(⟨c.flatMap f ++ l,y,r⟩:Blk) = ⟨(c ++ [t]).flatMap f,y,r⟩:=by rw [h,Nj]; simp
theorem FY (b:UInt8):(dB b).closed = true:=rfl
attribute [simp] fk uU zd
attribute [simp] b6 fy uv j5 aM cg aX kJ K0 K1 Jp ab D.closed aS FW FX zb wA tl tn di FY cu bA oc
end Go.Vx
namespace Go.Proofs.YtefjnofhgkjpmaaGreat
open Go.Vx

def K8:TI:=⟨.int .i64,.int .i64 0,1,8,false⟩
def K9:TI:=⟨.int .i64,.int .i64 0,1,8,false⟩
def La:TI:=⟨.bool,.bool false,1,1,false⟩
def ze:TI:=⟨.int .u8,.int .u8 0,1,1,false⟩
def Lb:TI:=⟨.string,.string ⟨#[]⟩,1,16,false⟩
def FZ:TI:=⟨.int .u64,.int .u64 0,1,8,false⟩
def F0:TI:=⟨.pointer 302,.pointer none,1,8,false⟩
def F1:TI:=⟨.pointer 305,.pointer none,1,8,false⟩
def F2:TI:=⟨.pointer 313,.pointer none,1,8,false⟩
def F3:TI:=⟨.interface #[],.nilIface,1,16,false⟩
def F4:TI:=⟨.int .i32,.int .i32 0,1,4,false⟩
def F5 : TI := ⟨.struct #[⟨"Size", 3, 0, false, "", "", 0⟩, ⟨"Chain", 3, 1, false, "", "", 8⟩, ⟨"Most", 3, 2, false, "", "", 16⟩, ⟨"Lazy", 4, 3, false, "", "", 24⟩], .agg #[.int .i64 0, .int .i64 0, .int .i64 0, .bool false], 4, 32, true⟩
def F6 : TI := ⟨.struct #[⟨"Size", 3, 0, false, "", "", 0⟩, ⟨"Chain", 3, 1, false, "", "", 8⟩, ⟨"Most", 3, 2, false, "", "", 16⟩, ⟨"Lazy", 4, 3, false, "", "", 24⟩], .agg #[.int .i64 0, .int .i64 0, .int .i64 0, .bool false], 4, 32, true⟩
def F7:TI:=⟨.slice 5,.slice none 0 0,1,24,false⟩
def F8 : TI := ⟨.struct #[⟨"Bytes", 24, 0, false, "", "", 0⟩, ⟨"Bits", 3, 1, false, "", "", 24⟩], .agg #[.slice none 0 0, .int .i64 0], 2, 32, false⟩
def F9 : TI := ⟨.struct #[⟨"Bytes", 24, 0, false, "", "", 0⟩, ⟨"Bits", 3, 1, false, "", "", 24⟩], .agg #[.slice none 0 0, .int .i64 0], 2, 32, false⟩
def Ga : TI := ⟨.struct #[⟨"Style", 23, 0, false, "", "", 0⟩, ⟨"Hist", 24, 4, false, "", "", 32⟩, ⟨"Wait", 24, 5, false, "", "", 56⟩, ⟨"Pen", 26, 6, false, "", "", 80⟩, ⟨"Over", 4, 8, false, "", "", 112⟩], .agg #[.int .i64 0, .int .i64 0, .int .i64 0, .bool false, .slice none 0 0, .slice none 0 0, .slice none 0 0, .int .i64 0, .bool false], 9, 120, false⟩
def Gb : TI := ⟨.struct #[⟨"Style", 23, 0, false, "", "", 0⟩, ⟨"Hist", 24, 4, false, "", "", 32⟩, ⟨"Wait", 24, 5, false, "", "", 56⟩, ⟨"Pen", 26, 6, false, "", "", 80⟩, ⟨"Over", 4, 8, false, "", "", 112⟩], .agg #[.int .i64 0, .int .i64 0, .int .i64 0, .bool false, .slice none 0 0, .slice none 0 0, .slice none 0 0, .int .i64 0, .bool false], 9, 120, false⟩
def Gc:TI:=⟨.int .i64,.int .i64 0,1,8,false⟩
def Gd:TI:=⟨.slice 56,.slice none 0 0,1,24,false⟩
def Ge : TI := ⟨.struct #[⟨"Flush", 4, 0, false, "", "", 0⟩, ⟨"Text", 24, 1, false, "", "", 8⟩], .agg #[.bool false, .slice none 0 0], 2, 32, false⟩
def Gf : TI := ⟨.struct #[⟨"Flush", 4, 0, false, "", "", 0⟩, ⟨"Text", 24, 1, false, "", "", 8⟩], .agg #[.bool false, .slice none 0 0], 2, 32, false⟩
def Gg:TI:=⟨.pointer 68,.pointer none,1,8,false⟩
def Gh : TI := ⟨.struct #[⟨"Press", 28, 0, true, "", "", 0⟩, ⟨"out", 24, 9, false, "", "bellows/press", 120⟩], .agg #[.int .i64 0, .int .i64 0, .int .i64 0, .bool false, .slice none 0 0, .slice none 0 0, .slice none 0 0, .int .i64 0, .bool false, .slice none 0 0], 10, 144, false⟩
def Gi : TI := ⟨.struct #[⟨"Press", 28, 0, true, "", "", 0⟩, ⟨"out", 24, 9, false, "", "bellows/press", 120⟩], .agg #[.int .i64 0, .int .i64 0, .int .i64 0, .bool false, .slice none 0 0, .slice none 0 0, .slice none 0 0, .int .i64 0, .bool false, .slice none 0 0], 10, 144, false⟩
def Gj:TI:=⟨.slice 119,.slice none 0 0,1,24,false⟩
def Gk:TI:=⟨.pointer 95,.pointer none,1,8,false⟩
def Gl : TI := ⟨.struct #[⟨"b", 24, 0, false, "", "bellows/plain", 0⟩, ⟨"at", 3, 1, false, "", "bellows/plain", 24⟩, ⟨"e", 31, 2, false, "", "bellows/plain", 32⟩], .agg #[.slice none 0 0, .int .i64 0, .int .i64 0], 3, 40, false⟩
def Gm : TI := ⟨.struct #[⟨"b", 24, 0, false, "", "bellows/plain", 0⟩, ⟨"at", 3, 1, false, "", "bellows/plain", 24⟩, ⟨"e", 31, 2, false, "", "bellows/plain", 32⟩], .agg #[.slice none 0 0, .int .i64 0, .int .i64 0], 3, 40, false⟩
def AM:TI:=⟨.pointer 123,.pointer none,1,8,false⟩
def AN:TI:=⟨.slice 64,.slice none 0 0,1,24,false⟩
def AO : TI := ⟨.struct #[⟨"Lit", 5, 0, false, "", "", 0⟩, ⟨"Dist", 3, 1, false, "", "", 8⟩, ⟨"Long", 3, 2, false, "", "", 16⟩], .agg #[.int .u8 0, .int .i64 0, .int .i64 0], 3, 24, true⟩
def AP : TI := ⟨.struct #[⟨"Lit", 5, 0, false, "", "", 0⟩, ⟨"Dist", 3, 1, false, "", "", 8⟩, ⟨"Long", 3, 2, false, "", "", 16⟩], .agg #[.int .u8 0, .int .i64 0, .int .i64 0], 3, 24, true⟩
def AQ:TI:=⟨.slice 126,.slice none 0 0,1,24,false⟩
def AR : TI := ⟨.struct #[⟨"l", 121, 0, false, "", "bellows/block", 0⟩], .agg #[.slice none 0 0], 1, 24, false⟩
def AT : TI := ⟨.struct #[⟨"l", 121, 0, false, "", "bellows/block", 0⟩], .agg #[.slice none 0 0], 1, 24, false⟩
def AU:TI:=⟨.int .u32,.int .u32 0,1,4,false⟩
def AV : TI := ⟨.struct #[⟨"v", 124, 0, false, "", "bellows/block", 0⟩, ⟨"n", 3, 1, false, "", "bellows/block", 8⟩], .agg #[.int .u32 0, .int .i64 0], 2, 16, true⟩
def AW : TI := ⟨.struct #[⟨"v", 124, 0, false, "", "bellows/block", 0⟩, ⟨"n", 3, 1, false, "", "bellows/block", 8⟩], .agg #[.int .u32 0, .int .i64 0], 2, 16, true⟩
def AY:TI:=⟨.array 3 5,.agg #[.int .u8 0,.int .u8 0,.int .u8 0],3,3,true⟩
def AZ : TI := ⟨.struct #[⟨"Size", 3, 0, false, "", "", 0⟩, ⟨"Bytes", 24, 1, false, "", "", 8⟩], .agg #[.int .i64 0, .slice none 0 0], 2, 32, false⟩
def A0 : TI := ⟨.struct #[⟨"Size", 3, 0, false, "", "", 0⟩, ⟨"Bytes", 24, 1, false, "", "", 8⟩], .agg #[.int .i64 0, .slice none 0 0], 2, 32, false⟩
def A1:TI:=⟨.slice 169,.slice none 0 0,1,24,false⟩
def A3:TI:=⟨.slice 24,.slice none 0 0,1,24,false⟩
def A4:TI:=⟨.array 16 3,.agg #[.int .i64 0,.int .i64 0,.int .i64 0,.int .i64 0,.int .i64 0,.int .i64 0,.int .i64 0,.int .i64 0,.int .i64 0,.int .i64 0,.int .i64 0,.int .i64 0,.int .i64 0,.int .i64 0,.int .i64 0,.int .i64 0],16,128,true⟩
def A5:TI:=⟨.slice 3,.slice none 0 0,1,24,false⟩
def A6 : TI := ⟨.struct #[⟨"Count", 151, 0, false, "", "", 0⟩, ⟨"Syms", 152, 16, false, "", "", 128⟩], .agg #[.int .i64 0, .int .i64 0, .int .i64 0, .int .i64 0, .int .i64 0, .int .i64 0, .int .i64 0, .int .i64 0, .int .i64 0, .int .i64 0, .int .i64 0, .int .i64 0, .int .i64 0, .int .i64 0, .int .i64 0, .int .i64 0, .slice none 0 0], 17, 152, false⟩
def A7 : TI := ⟨.struct #[⟨"Count", 151, 0, false, "", "", 0⟩, ⟨"Syms", 152, 16, false, "", "", 128⟩], .agg #[.int .i64 0, .int .i64 0, .int .i64 0, .int .i64 0, .int .i64 0, .int .i64 0, .int .i64 0, .int .i64 0, .int .i64 0, .int .i64 0, .int .i64 0, .int .i64 0, .int .i64 0, .int .i64 0, .int .i64 0, .int .i64 0, .slice none 0 0], 17, 152, false⟩
def A8 : TI := ⟨.struct #[⟨"Kind", 5, 0, false, "", "", 0⟩, ⟨"Last", 4, 1, false, "", "", 1⟩, ⟨"Left", 3, 2, false, "", "", 8⟩, ⟨"Longs", 154, 3, false, "", "", 16⟩, ⟨"Fars", 154, 20, false, "", "", 168⟩], .agg #[.int .u8 0, .bool false, .int .i64 0, .int .i64 0, .int .i64 0, .int .i64 0, .int .i64 0, .int .i64 0, .int .i64 0, .int .i64 0, .int .i64 0, .int .i64 0, .int .i64 0, .int .i64 0, .int .i64 0, .int .i64 0, .int .i64 0, .int .i64 0, .int .i64 0, .slice none 0 0, .int .i64 0, .int .i64 0, .int .i64 0, .int .i64 0, .int .i64 0, .int .i64 0, .int .i64 0, .int .i64 0, .int .i64 0, .int .i64 0, .int .i64 0, .int .i64 0, .int .i64 0, .int .i64 0, .int .i64 0, .int .i64 0, .slice none 0 0], 37, 320, false⟩
def A9 : TI := ⟨.struct #[⟨"Kind", 5, 0, false, "", "", 0⟩, ⟨"Last", 4, 1, false, "", "", 1⟩, ⟨"Left", 3, 2, false, "", "", 8⟩, ⟨"Longs", 154, 3, false, "", "", 16⟩, ⟨"Fars", 154, 20, false, "", "", 168⟩], .agg #[.int .u8 0, .bool false, .int .i64 0, .int .i64 0, .int .i64 0, .int .i64 0, .int .i64 0, .int .i64 0, .int .i64 0, .int .i64 0, .int .i64 0, .int .i64 0, .int .i64 0, .int .i64 0, .int .i64 0, .int .i64 0, .int .i64 0, .int .i64 0, .int .i64 0, .slice none 0 0, .int .i64 0, .int .i64 0, .int .i64 0, .int .i64 0, .int .i64 0, .int .i64 0, .int .i64 0, .int .i64 0, .int .i64 0, .int .i64 0, .int .i64 0, .int .i64 0, .int .i64 0, .int .i64 0, .int .i64 0, .int .i64 0, .slice none 0 0], 37, 320, false⟩
def Ba:TI:=⟨.pointer 163,.pointer none,1,8,false⟩
def Bb : TI := ⟨.struct #[⟨"Pen", 26, 0, true, "", "", 0⟩], .agg #[.slice none 0 0, .int .i64 0], 2, 32, false⟩
def Bc : TI := ⟨.struct #[⟨"Pen", 26, 0, true, "", "", 0⟩], .agg #[.slice none 0 0, .int .i64 0], 2, 32, false⟩
def Bd : TI := ⟨.struct #[⟨"V", 124, 0, false, "", "", 0⟩, ⟨"N", 3, 1, false, "", "", 8⟩], .agg #[.int .u32 0, .int .i64 0], 2, 16, true⟩
def Be : TI := ⟨.struct #[⟨"V", 124, 0, false, "", "", 0⟩, ⟨"N", 3, 1, false, "", "", 8⟩], .agg #[.int .u32 0, .int .i64 0], 2, 16, true⟩
def Bf : TI := ⟨.struct #[⟨"Lit", 5, 0, false, "", "", 0⟩, ⟨"Dist", 3, 1, false, "", "", 8⟩, ⟨"Long", 3, 2, false, "", "", 16⟩], .agg #[.int .u8 0, .int .i64 0, .int .i64 0], 3, 24, true⟩
def Bg:TI:=⟨.array 286 3,.agg (OA 286 (.int .i64 0)),286,2288,true⟩
def Bh:TI:=⟨.array 30 3,.agg #[.int .i64 0,.int .i64 0,.int .i64 0,.int .i64 0,.int .i64 0,.int .i64 0,.int .i64 0,.int .i64 0,.int .i64 0,.int .i64 0,.int .i64 0,.int .i64 0,.int .i64 0,.int .i64 0,.int .i64 0,.int .i64 0,.int .i64 0,.int .i64 0,.int .i64 0,.int .i64 0,.int .i64 0,.int .i64 0,.int .i64 0,.int .i64 0,.int .i64 0,.int .i64 0,.int .i64 0,.int .i64 0,.int .i64 0,.int .i64 0],30,240,true⟩
def Bi:TI:=⟨.slice 187,.slice none 0 0,1,24,false⟩
def Bj:TI:=⟨.array 19 3,.agg #[.int .i64 0,.int .i64 0,.int .i64 0,.int .i64 0,.int .i64 0,.int .i64 0,.int .i64 0,.int .i64 0,.int .i64 0,.int .i64 0,.int .i64 0,.int .i64 0,.int .i64 0,.int .i64 0,.int .i64 0,.int .i64 0,.int .i64 0,.int .i64 0,.int .i64 0],19,152,true⟩
def Bk : TI := ⟨.struct #[⟨"Sym", 3, 0, false, "", "", 0⟩, ⟨"Extra", 3, 1, false, "", "", 8⟩], .agg #[.int .i64 0, .int .i64 0], 2, 16, true⟩
def Bl : TI := ⟨.struct #[⟨"Sym", 3, 0, false, "", "", 0⟩, ⟨"Extra", 3, 1, false, "", "", 8⟩], .agg #[.int .i64 0, .int .i64 0], 2, 16, true⟩
def Bm:TI:=⟨.slice 210,.slice none 0 0,1,24,false⟩
def Bn:TI:=⟨.func #[3] #[3,3] false,.nilFunc,1,8,false⟩
def Bo:TI:=⟨.pointer 156,.pointer none,1,8,false⟩
def Bp:TI:=⟨.int .u64,.int .u64 0,1,8,false⟩
def Bq : TI := ⟨.struct #[⟨"Bits", 124, 0, false, "", "", 0⟩, ⟨"Long", 5, 1, false, "", "", 4⟩], .agg #[.int .u32 0, .int .u8 0], 2, 8, true⟩
def tu : TI := ⟨.struct #[⟨"Bits", 124, 0, false, "", "", 0⟩, ⟨"Long", 5, 1, false, "", "", 4⟩], .agg #[.int .u32 0, .int .u8 0], 2, 8, true⟩
def Br:TI:=⟨.int .u64,.int .u64 0,1,8,false⟩
def Bs:TI:=⟨.slice 225,.slice none 0 0,1,24,false⟩
def tv:TI:=⟨.slice 231,.slice none 0 0,1,24,false⟩
def Bt : TI := ⟨.struct #[⟨"weight", 3, 0, false, "", "bellows/build", 0⟩, ⟨"pair", 4, 1, false, "", "bellows/build", 8⟩], .agg #[.int .i64 0, .bool false], 2, 16, true⟩
def Bu : TI := ⟨.struct #[⟨"weight", 3, 0, false, "", "bellows/build", 0⟩, ⟨"pair", 4, 1, false, "", "bellows/build", 8⟩], .agg #[.int .i64 0, .bool false], 2, 16, true⟩
def Bv:TI:=⟨.array 17 124,.agg #[.int .u32 0,.int .u32 0,.int .u32 0,.int .u32 0,.int .u32 0,.int .u32 0,.int .u32 0,.int .u32 0,.int .u32 0,.int .u32 0,.int .u32 0,.int .u32 0,.int .u32 0,.int .u32 0,.int .u32 0,.int .u32 0,.int .u32 0],17,68,true⟩
def Bx:TI:=⟨.array 17 124,.agg #[.int .u32 0,.int .u32 0,.int .u32 0,.int .u32 0,.int .u32 0,.int .u32 0,.int .u32 0,.int .u32 0,.int .u32 0,.int .u32 0,.int .u32 0,.int .u32 0,.int .u32 0,.int .u32 0,.int .u32 0,.int .u32 0,.int .u32 0],17,68,true⟩
def By : TI := ⟨.struct #[⟨"bits", 3, 0, false, "", "bellows/reach", 0⟩, ⟨"least", 3, 1, false, "", "bellows/reach", 8⟩, ⟨"many", 3, 2, false, "", "bellows/reach", 16⟩], .agg #[.int .i64 0, .int .i64 0, .int .i64 0], 3, 24, true⟩
def Bz : TI := ⟨.struct #[⟨"bits", 3, 0, false, "", "bellows/reach", 0⟩, ⟨"least", 3, 1, false, "", "bellows/reach", 8⟩, ⟨"many", 3, 2, false, "", "bellows/reach", 16⟩], .agg #[.int .i64 0, .int .i64 0, .int .i64 0], 3, 24, true⟩
def BA:TI:=⟨.slice 248,.slice none 0 0,1,24,false⟩
def BB : TI := ⟨.struct #[⟨"first", 3, 0, false, "", "bellows/reach", 0⟩, ⟨"symbols", 250, 1, false, "", "bellows/reach", 8⟩], .agg #[.int .i64 0, .slice none 0 0], 2, 32, false⟩
def BC : TI := ⟨.struct #[⟨"first", 3, 0, false, "", "bellows/reach", 0⟩, ⟨"symbols", 250, 1, false, "", "bellows/reach", 8⟩], .agg #[.int .i64 0, .slice none 0 0], 2, 32, false⟩
def BD:TI:=⟨.array 29 3,.agg #[.int .i64 0,.int .i64 0,.int .i64 0,.int .i64 0,.int .i64 0,.int .i64 0,.int .i64 0,.int .i64 0,.int .i64 0,.int .i64 0,.int .i64 0,.int .i64 0,.int .i64 0,.int .i64 0,.int .i64 0,.int .i64 0,.int .i64 0,.int .i64 0,.int .i64 0,.int .i64 0,.int .i64 0,.int .i64 0,.int .i64 0,.int .i64 0,.int .i64 0,.int .i64 0,.int .i64 0,.int .i64 0,.int .i64 0],29,232,true⟩
def BE:TI:=⟨.pointer 234,.pointer none,1,8,false⟩
def BF:TI:=⟨.pointer 282,.pointer none,1,8,false⟩
def BG : TI := ⟨.struct #[⟨"t", 154, 0, false, "", "bellows/tree", 0⟩, ⟨"n", 3, 17, false, "", "bellows/tree", 152⟩, ⟨"code", 3, 18, false, "", "bellows/tree", 160⟩, ⟨"first", 3, 19, false, "", "bellows/tree", 168⟩, ⟨"place", 3, 20, false, "", "bellows/tree", 176⟩], .agg #[.int .i64 0, .int .i64 0, .int .i64 0, .int .i64 0, .int .i64 0, .int .i64 0, .int .i64 0, .int .i64 0, .int .i64 0, .int .i64 0, .int .i64 0, .int .i64 0, .int .i64 0, .int .i64 0, .int .i64 0, .int .i64 0, .slice none 0 0, .int .i64 0, .int .i64 0, .int .i64 0, .int .i64 0], 21, 184, false⟩
def BH : TI := ⟨.struct #[⟨"t", 154, 0, false, "", "bellows/tree", 0⟩, ⟨"n", 3, 17, false, "", "bellows/tree", 152⟩, ⟨"code", 3, 18, false, "", "bellows/tree", 160⟩, ⟨"first", 3, 19, false, "", "bellows/tree", 168⟩, ⟨"place", 3, 20, false, "", "bellows/tree", 176⟩], .agg #[.int .i64 0, .int .i64 0, .int .i64 0, .int .i64 0, .int .i64 0, .int .i64 0, .int .i64 0, .int .i64 0, .int .i64 0, .int .i64 0, .int .i64 0, .int .i64 0, .int .i64 0, .int .i64 0, .int .i64 0, .int .i64 0, .slice none 0 0, .int .i64 0, .int .i64 0, .int .i64 0, .int .i64 0], 21, 184, false⟩
def BI:TI:=⟨.pointer 248,.pointer none,1,8,false⟩
def BJ:TI:=⟨.slice 291,.slice none 0 0,1,24,false⟩
def BK : TI := ⟨.struct #[⟨"Weight", 3, 0, false, "", "", 0⟩, ⟨"Of", 152, 1, false, "", "", 8⟩], .agg #[.int .i64 0, .slice none 0 0], 2, 32, false⟩
def BL : TI := ⟨.struct #[⟨"Weight", 3, 0, false, "", "", 0⟩, ⟨"Of", 152, 1, false, "", "", 8⟩], .agg #[.int .i64 0, .slice none 0 0], 2, 32, false⟩
def BM:TI:=⟨.array 0 16,.agg #[],0,0,false⟩
def BN:TI:=⟨.pointer 5,.pointer none,1,8,false⟩
def BO : TI := ⟨.struct #[⟨"Size_", 12, 0, false, "", "", 0⟩, ⟨"PtrBytes", 12, 1, false, "", "", 8⟩, ⟨"Hash", 124, 2, false, "", "", 16⟩, ⟨"TFlag", 306, 3, false, "", "", 20⟩, ⟨"Align_", 5, 4, false, "", "", 21⟩, ⟨"FieldAlign_", 5, 5, false, "", "", 22⟩, ⟨"Kind_", 307, 6, false, "", "", 23⟩, ⟨"Equal", 308, 7, false, "", "", 24⟩, ⟨"GCData", 309, 8, false, "", "", 32⟩, ⟨"Str", 310, 9, false, "", "", 40⟩, ⟨"PtrToThis", 311, 10, false, "", "", 44⟩], .agg #[.int .u64 0, .int .u64 0, .int .u32 0, .int .u8 0, .int .u8 0, .int .u8 0, .int .u8 0, .nilFunc, .pointer none, .int .i32 0, .int .i32 0], 11, 48, false⟩
def Tl:List (Nat × TI):=[(2,K8),(3,K9),(4,La),(5,ze),(9,Lb),(12,FZ),(15,F0),(16,F1),(17,F2),(20,F3),(21,F4),(22,F5),(23,F6),(24,F7),(25,F8),(26,F9),(27,Ga),(28,Gb),(31,Gc),(53,Gd),(55,Ge),(56,Gf),(64,Gg),(67,Gh),(68,Gi),(82,Gj),(90,Gk),(94,Gl),(95,Gm),(105,AM),(111,AN),(118,AO),(119,AP),(121,AQ),(122,AR),(123,AT),(124,AU),(125,AV),(126,AW),(129,AY),(131,AZ),(132,A0),(135,A1),(149,A3),(151,A4),(152,A5),(153,A6),(154,A7),(155,A8),(156,A9),(161,Ba),(162,Bb),(163,Bc),(168,Bd),(169,Be),(175,Bf),(176,Bg),(177,Bh),(182,Bi),(185,Bj),(186,Bk),(187,Bl),(189,Bm),(196,Bn),(200,Bo),(204,Bp),(209,Bq),(210,tu),(217,Br),(224,Bs),(225,tv),(230,Bt),(231,Bu),(233,Bv),(234,Bx),(247,By),(248,Bz),(250,BA),(251,BB),(252,BC),(256,BD),(272,BE),(280,BF),(281,BG),(282,BH),(285,BI),(286,BJ),(290,BK),(291,BL),(303,BM),(309,BN),(312,BO)]
def T:TT:=(.n (.n (.n (.n (.n (.n .e (some Gc) (.n .e (some Gm) .e)) (some F0) (.n .e none (.n (.n (.n .e (some BM) .e) (some Bf) .e) (some AN) .e))) none (.n (.n (.n (.n .e (some A1) .e) none .e) none (.n .e none (.n .e (some Bu) .e))) (some F6) (.n (.n (.n .e (some A4) .e) none .e) (some Ge) (.n .e (some AP) (.n .e (some By) .e))))) (some K9) (.n (.n (.n (.n (.n .e (some AZ) .e) (some Gh) .e) none (.n (.n (.n .e (some BL) .e) (some Bc) .e) none .e)) none .e) none (.n .e (some Ga) (.n (.n (.n .e (some A8) .e) none .e) none (.n (.n .e (some Bl) .e) (some AT) (.n .e (some BB) .e)))))) none (.n (.n (.n (.n (.n (.n .e (some AY) .e) none .e) none (.n (.n .e (some Ba) .e) none (.n .e (some tv) .e))) (some F2) (.n (.n .e none (.n .e (some Bq) .e)) none (.n (.n .e (some Bh) .e) none .e))) (some Lb) (.n (.n .e none (.n (.n .e (some Be) .e) (some AM) (.n .e (some Bv) .e))) (some F8) (.n (.n (.n (.n .e (some BG) .e) (some A6) .e) none (.n .e (some Br) .e)) none (.n (.n .e (some Bj) .e) (some AQ) .e)))) (some ze) (.n (.n .e (some F4) (.n (.n (.n .e (some A3) .e) none .e) (some Gd) (.n (.n (.n .e (some BN) .e) none .e) none .e))) none (.n .e none (.n (.n (.n (.n .e (some BI) .e) none .e) none .e) none (.n (.n .e (some Bm) .e) (some AV) .e)))))) none (.n (.n (.n (.n (.n (.n (.n (.n .e (some BD) .e) none .e) (some Gg) .e) none (.n .e none (.n .e (some Bs) .e))) (some F1) (.n (.n (.n (.n .e (some BE) .e) none .e) none .e) none (.n (.n .e (some Bg) .e) none .e))) none (.n (.n (.n .e none (.n .e (some Bo) .e)) none (.n (.n .e (some Bd) .e) none .e)) (some F7) (.n (.n (.n (.n .e (some BF) .e) (some A5) .e) none .e) (some Gf) (.n (.n (.n .e (some BO) .e) none .e) none (.n .e (some Bz) .e))))) (some La) (.n (.n (.n (.n (.n .e (some A0) .e) (some Gi) (.n .e (some Bn) .e)) none .e) (some F3) .e) (some FZ) (.n (.n (.n .e none (.n .e (some Bp) .e)) none .e) (some Gb) (.n (.n (.n .e (some A9) .e) none .e) none (.n .e (some AU) (.n .e (some BC) .e)))))) (some K8) (.n (.n (.n (.n .e none (.n (.n (.n .e (some BK) .e) (some Bb) .e) none .e)) none (.n (.n .e (some Gj) (.n .e (some tu) .e)) none .e)) none (.n (.n .e none (.n .e none (.n .e (some Bx) .e))) (some F9) (.n (.n (.n (.n .e (some BH) .e) (some A7) .e) (some Gk) .e) none (.n (.n .e (some Bk) .e) (some AR) (.n .e (some BA) .e))))) none (.n (.n (.n .e none (.n .e none (.n .e (some Bt) .e))) (some F5) (.n .e none (.n (.n .e (some Bi) .e) (some AO) .e))) none (.n .e none (.n (.n (.n (.n .e (some BJ) .e) none .e) (some Gl) .e) none (.n .e (some AW) .e)))))))
set_option maxRecDepth 100000 in
theorem T_ok:TT.ok Tryz.prog T:=by
 refine TT.ok_ofL (l:=Tl) ?_ (by kernel_rfl)
 repeat (first | refine ⟨Ji (by kernel_rfl) (by kernel_rfl) rfl,?_⟩ | refine ⟨FT (by kernel_rfl) (by kernel_rfl) rfl (by kernel_rfl) (by kernel_rfl) (by kernel_rfl),?_⟩)
 trivial
theorem ai:Tryz.prog.follows .mixedOrders = true:=by kernel_rfl
open Go.RowKit Go.Bw
abbrev zN (n:Nat):D:=.v (.int .i64 (n:Int))
abbrev zI (x:Int):D:=.v (.int .i64 x)
abbrev zS:D:=.v (.slice none 0 0)
abbrev ag (n:Nat):D:=.v (.int .u32 (n:Int))
abbrev dM (n:Nat):D:=.v (.int .u8 (n:Int))
abbrev uI (x:Int):D:=.v (.int .u32 x)
abbrev bI (x:Int):D:=.v (.int .u8 x)
theorem aU {p:Prop} [Decidable p] (h:decide p = true):p:=of_decide_eq_true h
theorem aV {p:Prop} [Decidable p] (h:decide p = false):¬ p:=of_decide_eq_false h
def _root_.Go.Vx.Hn.cl {P:Program} (f:FuncId) (al:Bool) (fp:List Nat) {q hin:_} {r:D} {bs:List Blk} (h:CallOk al P f q hin r bs) (nx:Hn P):Hn P:=.call f al fp true rfl q q (bW.refl q) true rfl hin r bs h nx
def _root_.Go.Vx.Hn.op {P:Program} (x:Int) (h:-9223372036854775808 ≤ x ∧ x ≤ 9223372036854775807) (nx:Hn P):Hn P:=.opt (aw .i64 x) (.v (.int .i64 x)) (fj h) nx
def _root_.Go.Vx.Hn.ow {P:Program} (x:Int) (nx:Hn P) (h:-9223372036854775808 ≤ x ∧ x ≤ 9223372036854775807:=by omega):Hn P:=.opt (aw .i64 x) (.v (.int .i64 x)) (fj h) nx
theorem wr {p:Prop} (h:p:=by with_reducible rfl):p:=h
theorem om {p:Prop} (h:p:=by omega):p:=h
theorem bx {p:Prop} (h:p:=by assumption):p:=h
theorem ro {p:Prop} (h:p:=by repeat' first | exact trivial | exact rfl | exact (fun _=>aS _) | exact (fun _=>by assumption) | exact (fun _=>bN _ (fun _=>rfl) _) | exact (fun _=>di (fun _=>rfl) _) | (intro h; cases h; done) | (intro _; rfl) | (intro _; exact cy _ (bN _ (fun _=>rfl) _)) | exact je _ (bN _ (fun _=>rfl) _) | refine And.intro ?_ ?_ | refine fK ?_ ?_ | (intro _; refine cS ?_ ?_) | refine cS ?_ ?_ | (intro _; refine gn ?_ ?_) | exact cy _ (bN _ (fun _=>rfl) _) | exact bN _ (fun _=>rfl) _):p:=h
theorem Gn:aA Tryz.prog 13:=.of Tryz.func13 rfl rfl
theorem ES:aA Tryz.prog 18:=.of Tryz.func18 rfl rfl
theorem Jq:aA Tryz.prog 21:=.of Tryz.func21 rfl rfl
theorem Jr:aA Tryz.prog 23:=.of Tryz.func23 rfl rfl
theorem Lx:aA Tryz.prog 26:=.of Tryz.func26 rfl rfl
theorem Js:aA Tryz.prog 29:=.of Tryz.func29 rfl rfl
theorem DC:aA Tryz.prog 43:=.of Tryz.func43 rfl rfl
theorem tw:aA Tryz.prog 56:=.of Tryz.func56 rfl rfl
theorem Lc:aA Tryz.prog 64:=.of Tryz.func64 rfl rfl
theorem Ld:aA Tryz.prog 65:=.of Tryz.func65 rfl rfl
theorem IE:aA Tryz.prog 86:=.of Tryz.func86 rfl rfl
theorem wB:aA Tryz.prog 105:=.of Tryz.func105 rfl rfl
theorem Jt:aA Tryz.prog 111:=.of Tryz.func111 rfl rfl
theorem Ju:aA Tryz.prog 113:=.of Tryz.func113 rfl rfl
theorem Gp:aA Tryz.prog 117:=.of Tryz.func117 rfl rfl
theorem Jv:aA Tryz.prog 128:=.of Tryz.func128 rfl rfl
theorem Jw:aA Tryz.prog 141:=.of Tryz.func141 rfl rfl
theorem rS:aA Tryz.prog 142:=.of Tryz.func142 rfl rfl
theorem rT:aA Tryz.prog 143:=.of Tryz.func143 rfl rfl
theorem DD:aA Tryz.prog 144:=.of Tryz.func144 rfl rfl
theorem Jx:aA Tryz.prog 147:=.of Tryz.func147 rfl rfl
theorem Jy:aA Tryz.prog 148:=.of Tryz.func148 rfl rfl
theorem dN:aA Tryz.prog 152:=.of Tryz.func152 rfl rfl
theorem Jz:aA Tryz.prog 155:=.of Tryz.func155 rfl rfl
theorem JA:aA Tryz.prog 160:=.of Tryz.func160 rfl rfl
theorem JB:aA Tryz.prog 163:=.of Tryz.func163 rfl rfl
theorem wC:aA Tryz.prog 175:=.of Tryz.func175 rfl rfl
theorem JC:aA Tryz.prog 176:=.of Tryz.func176 rfl rfl
theorem JD:aA Tryz.prog 193:=.of Tryz.func193 rfl rfl
theorem JE:aA Tryz.prog 198:=.of Tryz.func198 rfl rfl
end Go.Proofs.YtefjnofhgkjpmaaGreat
namespace Go.Proofs.YtefjnofhgkjpmaaGreat
open Go.RowKit Go.Bw Go.Vx
namespace Vp
abbrev iD (i:Int):D:=.v (.int .i64 i)
abbrev aW:D:=.v (.slice none 0 0)
abbrev nD (n:Nat):D:=.v (.int .i64 (n:Int))
abbrev bD (b:Bool):D:=.v (.bool b)
abbrev ga (n:Nat):D:=.v (.int .u8 (n:Int))
def lk {α β:Type} (b:List β) (x:α):α:=match b with
 | []=>x
 | _ :: _=>x
theorem aF {α β:Type} (b:List β) (x:α):lk b x = x:=by cases b <;> rfl
def JF (b:List UInt8) (p:Nat):Nat:=(b.getD (p / 8) jd).toNat / 2 ^ (p % 8) % 2
def Gq (b:List UInt8) (p:Nat):Nat → Nat
 | 0=>0
 | n + 1=>Gq b p n + 2 ^ n * JF b (p + n)
def JG (b:List UInt8) (p m:Nat):Nat:=lk b (if 8 * b.length < p + m then 0 else Gq b p m)
def Ly (b:List UInt8) (p m:Nat):Nat:=lk b (if 8 * b.length < p + m then 10 else 0)
def aT:List UInt8 → Nat
 | []=>0
 | x :: r=>(if x.toNat = 0 then 0 else 2 ^ (15 - x.toNat)) + aT r
def bm:List UInt8 → Nat
 | []=>0
 | x :: r=>(if x.toNat = 0 then 0 else 1) + bm r
def dm (l:List UInt8) (most:Nat):Bool:=l.any fun x=>decide (most < x.toNat)
theorem uV (a c:List UInt8):aT (a ++ c) = aT a + aT c:=by
 induction a with
 | nil=>simp [aT]
 | cons x r ih=>rw [NB,aT,aT,ih]; omega
theorem uW (a c:List UInt8):bm (a ++ c) = bm a + bm c:=by
 induction a with
 | nil=>simp [bm]
 | cons x r ih=>rw [NB,bm,bm,ih]; omega
theorem wD (l:List UInt8):bm l ≤ l.length:=by
 induction l with
 | nil=>exact LV _
 | cons x r ih=>rw [bm,Md]; split <;> omega
theorem wE (l:List UInt8):aT l ≤ l.length * 32768:=by
 induction l with
 | nil=>exact LV _
 | cons x r ih =>
  rw [aT,Md]
  have:2 ^ (15 - x.toNat) ≤ 2 ^ 15:=MB (by decide) (by omega)
  split <;> omega
theorem nd {l:List UInt8} {i:Nat} (h:i < l.length):l.take (i + 1) = l.take i ++ [l.getD i jd]:=lj h
theorem fP {l:List UInt8} {i:Nat} (h:i < l.length):aT (l.take (i + 1)) = aT (l.take i) + (if (l.getD i jd).toNat = 0 then 0 else 2 ^ (15 - (l.getD i jd).toNat)):=by
 rw [nd h,uV]; rfl
theorem ig {l:List UInt8} {i:Nat} (h:i < l.length):bm (l.take (i + 1)) = bm (l.take i) + (if (l.getD i jd).toNat = 0 then 0 else 1):=by
 rw [nd h,uW]; rfl
def rU (l:List UInt8) (most:Nat):Nat :=
 if 320 < l.length then 4 else if dm l most = true then 2 else if 32768 < aT l then 30
 else if aT l = 32768 ∨ bm l = 0 ∨ bm l = 1 ∧ aT l = 16384 then 0 else 31
def cG (l:List UInt8) (most:Nat):Nat:=lk l (rU l most)
theorem iI (l:List UInt8) (most:Nat):cG l most = rU l most:=aF _ _
theorem tz {l:List UInt8} {most i:Nat} (h:i < l.length) (h2:most < (l.getD i jd).toNat):dm l most = true:=by
 unfold dm
 rw [OS]
 refine ⟨l.getD i jd,?_,decide_eq_true h2⟩
 rw [List.getD_eq_getElem?_getD,List.getElem?_eq_getElem h]; exact Mr h
theorem kn {l:List UInt8} {most:Nat} (h:∀ i,i < l.length → (l.getD i jd).toNat ≤ most):dm l most = false:=by
 unfold dm
 rw [List.any_eq_false]
 intro x hx
 obtain ⟨i,hi⟩:=List.getElem?_of_mem hx
 have hlt:=(List.getElem?_eq_some_iff.1 hi).1
 have:=h i hlt
 rw [List.getD_eq_getElem?_getD,hi] at this
 simpa using this
theorem eG {l:List UInt8} {most:Nat} (h:dm l most = false) {i:Nat} (hi:i < l.length):(l.getD i jd).toNat ≤ most:=by
 rcases Mh most (l.getD i jd).toNat with q | q
 ·rw [tz hi q] at h; cases h
 ·exact q
theorem eU {l:List UInt8} {most:Nat} (h:cG l most = 0):l.length ≤ 320 ∧ dm l most = false ∧ aT l ≤ 32768:=by
 rw [iI] at h; unfold rU at h
 split at h
 ·cases h
 ·split at h
  ·cases h
  ·split at h
   ·cases h
   ·refine ⟨by omega,by simp_all,by omega⟩
def ef (l:List UInt8) (n k:Nat):List Nat:=(Mt k).filter fun i=>decide ((l.getD i jd).toNat = n)
def qa (l:List UInt8):Nat → List Nat
 | 0=>[]
 | n + 1=>qa l n ++ (if n = 0 then [] else ef l n l.length)
def wF (l:List UInt8) (n:Nat):Nat:=if n = 0 then 0 else (ef l n l.length).length
def aJ (l:List UInt8) (n:Nat):Nat:=lk l (wF l n)
def cW (l:List UInt8):List Nat:=lk l (qa l 16)
def Lf (f:Nat → Nat):List D:=[nD (f 0),nD (f 1),nD (f 2),nD (f 3),nD (f 4),nD (f 5),nD (f 6),nD (f 7),nD (f 8),nD (f 9),nD (f 10),nD (f 11),nD (f 12),nD (f 13),nD (f 14),nD (f 15)]
def Gr (m:Nat) (l:List UInt8):List D:=Lf (aJ l) ++ [.sl false m 1 ((cW l).map nD)]
abbrev BP (m:Nat) (l:List UInt8):D:=.agg (Gr m l)
theorem gQ (l:List UInt8) (n k:Nat):ef l n (k + 1) = ef l n k ++ (if (l.getD k jd).toNat = n then [k] else []):=by
 unfold ef
 rw [NU,MO]
 congr 1
 rw [List.filter_cons,PM]
 by_cases h:(l.getD k jd).toNat = n
 ·rw [if_pos h,if_pos (decide_eq_true h)]
 ·rw [if_neg h,if_neg (by simpa using h)]
theorem zf (l:List UInt8) (n k:Nat):(ef l n k).length ≤ k:=by
 unfold ef
 exact LM (Ok _ _) (by simp)
theorem wG {l:List UInt8} {n k i:Nat}:i ∈ ef l n k ↔ i < k ∧ (l.getD i jd).toNat = n:=by
 unfold ef; simp
theorem ll (l:List UInt8) (n:Nat):aJ l n = wF l n:=aF _ _
@[simp] theorem lm (xs:List Nat):ab (xs.map nD) = true:=bN _ (fun _=>rfl) xs
end Vp
end Go.Proofs.YtefjnofhgkjpmaaGreat
namespace Go.Proofs.YtefjnofhgkjpmaaGreat
open Go.RowKit Go.Bw Go.Vx
open List (length getD map take drop flatMap replicate)
namespace Vp
def rb (s:Nat):Nat:=if s = 16 then 2 else if s = 17 then 3 else if s = 18 then 7 else 0
def p2 (s:Nat):Nat:=2 ^ rb s
structure Rn where
 s:Nat
 x:Nat
 deriving Inhabited
abbrev ej (r:Rn):List D:=[nD r.s,nD r.x]
theorem wH (s:Nat):p2 s ≤ 128 ∧ rb s ≤ 7:=by unfold p2 rb; split; decide; split; decide; split <;> decide
theorem Gs (s:Nat) (h:s ≤ 18):SpecH false Tryz.prog 113 [nD s] [] (.tup [nD (rb s),iD 0]) []:=by
 refine SpecH.run T_ok ai Tryz.func113 rfl rfl rfl trivial rfl 1000 64 (fun R ok=>(.s 13 (.f (decide (18 < (s:Int))) (by (refine decide_eq_false ?_; (omega))) (.s 4 (.br ((s:Int) == 16) (fun p0=>have p0f:=eq_of_beq p0; (.s 2 (.out [] [] (D.tup [zI 2,zI 0]) [] R (ok _ _ (by ( (have hs:s = 16:=by omega); subst hs; rfl)) wr)))) (fun p0=>have p0f:=ar p0; (.s 4 (.br ((s:Int) == 17) (fun p1=>have p1f:=eq_of_beq p1; (.s 2 (.out [] [] (D.tup [zI 3,zI 0]) [] R (ok _ _ (by ( (have hs:s = 17:=by omega); subst hs; rfl)) wr)))) (fun p1=>have p1f:=ar p1; (.s 4 (.br ((s:Int) == 18) (fun p2=>have p2f:=eq_of_beq p2; (.s 2 (.out [] [] (D.tup [zI 7,zI 0]) [] R (ok _ _ (by ( (have hs:s = 18:=by omega); subst hs; rfl)) wr)))) (fun p2=>have p2f:=ar p2; (.s 2 (.out [] [] (D.tup [zI 0,zI 0]) [] R (ok _ _ (by ( rw [show rb s = 0 from by unfold rb; rw [if_neg om,if_neg om,if_neg om]]; rfl)) wr))))))))))))))) (by kernel_rfl)
structure Sy where
 bits:Nat
 least:Nat
 many:Nat
 deriving Inhabited
abbrev gR (s:Sy):List D:=[nD s.bits,nD s.least,nD s.many]
def aI:List Sy:=[⟨0,3,1⟩,⟨0,4,1⟩,⟨0,5,1⟩,⟨0,6,1⟩,⟨0,7,1⟩,⟨0,8,1⟩,⟨0,9,1⟩,⟨0,10,1⟩,⟨1,11,2⟩,⟨1,13,2⟩,⟨1,15,2⟩,⟨1,17,2⟩,⟨2,19,4⟩,⟨2,23,4⟩,⟨2,27,4⟩,⟨2,31,4⟩,⟨3,35,8⟩,⟨3,43,8⟩,⟨3,51,8⟩,⟨3,59,8⟩,⟨4,67,16⟩,⟨4,83,16⟩,⟨4,99,16⟩,⟨4,115,16⟩,⟨5,131,32⟩,⟨5,163,32⟩,⟨5,195,32⟩,⟨5,227,31⟩,⟨0,258,1⟩]
def aY:List Sy:=[⟨0,1,1⟩,⟨0,2,1⟩,⟨0,3,1⟩,⟨0,4,1⟩,⟨1,5,2⟩,⟨1,7,2⟩,⟨2,9,4⟩,⟨2,13,4⟩,⟨3,17,8⟩,⟨3,25,8⟩,⟨4,33,16⟩,⟨4,49,16⟩,⟨5,65,32⟩,⟨5,97,32⟩,⟨6,129,64⟩,⟨6,193,64⟩,⟨7,257,128⟩,⟨7,385,128⟩,⟨8,513,256⟩,⟨8,769,256⟩,⟨9,1025,512⟩,⟨9,1537,512⟩,⟨10,2049,1024⟩,⟨10,3073,1024⟩,⟨11,4097,2048⟩,⟨11,6145,2048⟩,⟨12,8193,4096⟩,⟨12,12289,4096⟩,⟨13,16385,8192⟩,⟨13,24577,8192⟩]
theorem zg (T:List Sy) (hT:T = aI):SpecH false Tryz.prog 160 [] [] (.agg [iD 257,.ref 0 0 0 29 3]) [⟨T.flatMap gR, 248, true⟩]:=by
 refine SpecH.run T_ok ai Tryz.func160 rfl rfl rfl ⟨ee (fun _=>rfl) _,trivial⟩ rfl 4000 64 (fun R ok=>(.s 1376 (.out [5080] [5080] (D.agg [zI 257,D.ref 0 0 0 29 3]) [Blk.mk [zI 0,zI 3,zI 1,zI 0,zI 4,zI 1,zI 0,zI 5,zI 1,zI 0,zI 6,zI 1,zI 0,zI 7,zI 1,zI 0,zI 8,zI 1,zI 0,zI 9,zI 1,zI 0,zI 10,zI 1,zI 1,zI 11,zI 2,zI 1,zI 13,zI 2,zI 1,zI 15,zI 2,zI 1,zI 17,zI 2,zI 2,zI 19,zI 4,zI 2,zI 23,zI 4,zI 2,zI 27,zI 4,zI 2,zI 31,zI 4,zI 3,zI 35,zI 8,zI 3,zI 43,zI 8,zI 3,zI 51,zI 8,zI 3,zI 59,zI 8,zI 4,zI 67,zI 16,zI 4,zI 83,zI 16,zI 4,zI 99,zI 16,zI 4,zI 115,zI 16,zI 5,zI 131,zI 32,zI 5,zI 163,zI 32,zI 5,zI 195,zI 32,zI 5,zI 227,zI 31,zI 0,zI 258,zI 1] 248 true] R (ok _ _ wr (by (subst hT; rfl)))))) (by kernel_rfl)
theorem DE (T:List Sy) (hT:T = aY):SpecH false Tryz.prog 163 [] [] (.agg [iD 0,.ref 0 0 0 30 3]) [⟨T.flatMap gR, 248, true⟩]:=by
 refine SpecH.run T_ok ai Tryz.func163 rfl rfl rfl ⟨ee (fun _=>rfl) _,trivial⟩ rfl 4000 64 (fun R ok=>(.s 1562 (.out [5768] [5768] (D.agg [zI 0,D.ref 0 0 0 30 3]) [Blk.mk [zI 0,zI 1,zI 1,zI 0,zI 2,zI 1,zI 0,zI 3,zI 1,zI 0,zI 4,zI 1,zI 1,zI 5,zI 2,zI 1,zI 7,zI 2,zI 2,zI 9,zI 4,zI 2,zI 13,zI 4,zI 3,zI 17,zI 8,zI 3,zI 25,zI 8,zI 4,zI 33,zI 16,zI 4,zI 49,zI 16,zI 5,zI 65,zI 32,zI 5,zI 97,zI 32,zI 6,zI 129,zI 64,zI 6,zI 193,zI 64,zI 7,zI 257,zI 128,zI 7,zI 385,zI 128,zI 8,zI 513,zI 256,zI 8,zI 769,zI 256,zI 9,zI 1025,zI 512,zI 9,zI 1537,zI 512,zI 10,zI 2049,zI 1024,zI 10,zI 3073,zI 1024,zI 11,zI 4097,zI 2048,zI 11,zI 6145,zI 2048,zI 12,zI 8193,zI 4096,zI 12,zI 12289,zI 4096,zI 13,zI 16385,zI 8192,zI 13,zI 24577,zI 8192] 248 true] R (ok _ _ wr (by (subst hT; rfl)))))) (by kernel_rfl)
end Vp
end Go.Proofs.YtefjnofhgkjpmaaGreat
namespace Go.Proofs.YtefjnofhgkjpmaaGreat
open Go.RowKit Go.Bw Go.Vx
open List (length getD map take drop flatMap replicate)
namespace Vp
theorem yi {p:Prop} (h:p:=by (refine aO ?_; (omega))):p:=h
theorem DF {p:Prop} (h:p:=by (simp only [bl (k:=2) (fun (x:Rn)=>(rfl:(ej x).length = 2)),Nat.beq_refl,Bool.true_and,Bool.and_true]; refine Nat.ble_eq_true_of_le ?_; (omega))):p:=h
theorem DG {p:Prop} (h:p:=by (rw [List.length_append]; rfl)):p:=h
theorem DH {p:Prop} (h:p:=by (rw [List.length_append]; simp only [List.length_singleton]; (omega))):p:=h
theorem Gt {p:Prop} (h:p:=by ((refine aK ?_ ?_) <;> (repeat' (first | (refine aK ?_ ?_) | (with_reducible rfl) | (refine decide_eq_true ?_) | (refine Nat.ble_eq_true_of_le ?_) | (refine eT ?_))) <;> (omega))):p:=h
theorem IF {p:Prop} (h:p:=by show n - (a + 1) < n - a; clear next1 last1; omega):p:=h
theorem JH {p:Prop} (h:p:=by (simp;  have h9:=ln (l:=l) (a:=a) om; omega)):p:=h
theorem JI {p:Prop} (h:p:=by ( have h9:=ln (l:=l) (a:=a) om; omega)):p:=h
theorem JJ {p:Prop} (h:p:=by (simp only [Nat.mul_one] at *;  have h9:=ln (l:=l) (a:=a) om; exact Gz hR om om om om)):p:=h
def rV (l:List UInt8) (a:Nat):Nat → Nat → Nat
 | 0,n=>n
 | f + 1,n=>if a + n < l.length ∧ l.getD (a + n) jd = l.getD a jd then rV l a f (n + 1) else n
def ci (l:List UInt8) (a:Nat):Nat:=lk l (rV l a l.length 0)
theorem wI (l:List UInt8) (a:Nat):ci l a = rV l a l.length 0:=aF _ _
theorem JK {l:List UInt8} {a f n T:Nat} (hR:rV l a f n = T) (hf:l.length ≤ a + n + f) (h:a + n < l.length) (h2:l.getD (a + n) jd = l.getD a jd):rV l a (f - 1) (n + 1) = T:=by
 obtain ⟨g,rfl⟩:∃ g,f = g + 1:=⟨f - 1,by omega⟩
 rw [← hR]; exact (if_pos ⟨h,h2⟩).symm
theorem Gu {l:List UInt8} {a f n T:Nat} (hR:rV l a f n = T) (h:¬ (a + n < l.length ∧ l.getD (a + n) jd = l.getD a jd)):n = T:=by
 rw [← hR]; cases f with
 | zero=>rfl
 | succ f=>exact (if_neg h).symm
theorem BQ {x y:UInt8} (h:((x.toNat:Nat):Int) = ((y.toNat:Nat):Int)):x = y:=UInt8.toNat_inj.1 (by omega)
theorem Gw {l:List UInt8} {a f n T u v:Nat} (hR:rV l a f n = T) (hf:l.length ≤ a + n + f) (h:a + n < l.length) (hu:u = a + n) (hv:v = a) (h2:(((l.getD u jd).toNat:Nat):Int) = (((l.getD v jd).toNat:Nat):Int)):rV l a (f - 1) (n + 1) = T:=by
 subst hu hv; exact JK hR hf h (BQ h2)
theorem Gx {l:List UInt8} {a f n T u v:Nat} (hR:rV l a f n = T) (hu:u = a + n) (hv:v = a) (h2:(((l.getD u jd).toNat:Nat):Int) ≠ (((l.getD v jd).toNat:Nat):Int)):n = T:=by
 subst hu hv; exact Gu hR (fun q=>h2 (by rw [q.2]))
theorem BR {l:List UInt8} {a:Nat}:∀ (f n:Nat),a + n ≤ l.length → n ≤ rV l a f n ∧ a + rV l a f n ≤ l.length
 | 0,n,h=>⟨LV _,h⟩
 | f + 1,n,h=>by
  rw [rV]; split
  ·next q=>have:=BR (l:=l) (a:=a) f (n + 1) (by omega); omega
  ·exact ⟨LV _,h⟩
theorem ln {l:List UInt8} {a:Nat} (h:a < l.length):1 ≤ ci l a ∧ a + ci l a ≤ l.length:=by
 rw [wI]
 obtain ⟨f,hf⟩:∃ f,l.length = f + 1:=⟨l.length - 1,by omega⟩
 rw [hf,rV,if_pos ⟨by omega,by rw [NK]⟩]
 have:=BR (l:=l) (a:=a) f (0 + 1) (by omega)
 omega
def ji (l:List UInt8):Nat → Nat → List Rn
 | 0,_=>[]
 | f + 1,a=>if l.length ≤ a then []
  else if (l.getD a jd).toNat = 0 ∧ 11 ≤ ci l a then ⟨18,min (ci l a) 138 - 11⟩ :: ji l f (a + min (ci l a) 138)
  else if (l.getD a jd).toNat = 0 ∧ 3 ≤ ci l a then ⟨17,ci l a - 3⟩ :: ji l f (a + ci l a)
  else if 0 < (l.getD a jd).toNat ∧ 0 < a ∧ (l.getD (a - 1) jd).toNat = (l.getD a jd).toNat ∧ 3 ≤ ci l a then ⟨16,min (ci l a) 6 - 3⟩ :: ji l f (a + min (ci l a) 6)
  else ⟨(l.getD a jd).toNat,0⟩ :: ji l f (a + 1)
def vd (l:List UInt8):List Rn:=lk l (ji l l.length 0)
theorem rW (l:List UInt8):vd l = ji l l.length 0:=aF _ _
section
variable {l:List UInt8} {f a:Nat} {o T:List Rn}
theorem Gy (hR:o ++ ji l f a = T) (h:l.length ≤ a):o = T:=by
 rw [← hR]; cases f with
 | zero=>exact (MA _).symm
 | succ f=>rw [ji,if_pos h]; exact (MA _).symm
theorem JL (hR:o ++ ji l f a = T) (hf:l.length ≤ a + f) (h:a < l.length) (h0:(l.getD a jd).toNat = 0) (h1:11 ≤ ci l a):(o ++ [⟨18,min (ci l a) 138 - 11⟩]) ++ ji l (f - 1) (a + min (ci l a) 138) = T:=by
 obtain ⟨g,rfl⟩:∃ g,f = g + 1:=⟨f - 1,by omega⟩
 rw [← hR,ji,if_neg (by omega),if_pos ⟨h0,h1⟩,Ma]; rfl
theorem JM (hR:o ++ ji l f a = T) (hf:l.length ≤ a + f) (h:a < l.length) (h0:(l.getD a jd).toNat = 0) (h1:¬ 11 ≤ ci l a) (h2:3 ≤ ci l a):(o ++ [⟨17,ci l a - 3⟩]) ++ ji l (f - 1) (a + ci l a) = T:=by
 obtain ⟨g,rfl⟩:∃ g,f = g + 1:=⟨f - 1,by omega⟩
 rw [← hR,ji,if_neg (by omega),if_neg (fun q=>h1 q.2),if_pos ⟨h0,h2⟩,Ma]; rfl
theorem JN (hR:o ++ ji l f a = T) (hf:l.length ≤ a + f) (h:a < l.length) (h0:0 < (l.getD a jd).toNat) (ha:0 < a) (h1:(l.getD (a - 1) jd).toNat = (l.getD a jd).toNat) (h2:3 ≤ ci l a):(o ++ [⟨16,min (ci l a) 6 - 3⟩]) ++ ji l (f - 1) (a + min (ci l a) 6) = T:=by
 obtain ⟨g,rfl⟩:∃ g,f = g + 1:=⟨f - 1,by omega⟩
 rw [← hR,ji,if_neg (by omega),if_neg (fun q=>by omega),if_neg (fun q=>by omega),if_pos ⟨h0,ha,h1,h2⟩,Ma]; rfl
theorem Gz (hR:o ++ ji l f a = T) (hf:l.length ≤ a + f) (h:a < l.length) (h0:¬ ((l.getD a jd).toNat = 0 ∧ 3 ≤ ci l a)) (h1:¬ (0 < (l.getD a jd).toNat ∧ 0 < a ∧ (l.getD (a - 1) jd).toNat = (l.getD a jd).toNat ∧ 3 ≤ ci l a)):(o ++ [⟨(l.getD a jd).toNat,0⟩]) ++ ji l (f - 1) (a + 1) = T:=by
 obtain ⟨g,rfl⟩:∃ g,f = g + 1:=⟨f - 1,by omega⟩
 rw [← hR,ji,if_neg (by omega),if_neg (fun q=>h0 ⟨q.1,by omega⟩),if_neg h0,if_neg h1,Ma]; rfl
end
theorem zh (l:List UInt8) (n:Nat) (hn:n = l.length) (hn2:n ≤ 320) (a:Nat) (ha:a < n):SpecH false Tryz.prog 147 [nD a,.ep [.sl false n 1 (l.map dB)] 0] [] (nD (ci l a)) []:=by
 refine SpecH.run T_ok ai Tryz.func147 rfl rfl rfl trivial rfl 1000 64 (fun R ok=>(.s 1 (Hn.inl T_ok ai false 26 0 (ay Tryz.prog 147 0) (fun (x:(i:Nat) ×' (f:Nat) ×' (hi:a + i ≤ n) ×' (hf:n ≤ a + i + f) ×' (hR:rV l a f i = ci l a) ×' Unit)=>match x with | ⟨i,f,hi,hf,hR,_⟩=>CutS.mk [(0,zN a),(1,D.ep [D.sl false n 1 (map dB l)] 0),(3,nD i)] [] 0) (fun (x:(i:Nat) ×' (f:Nat) ×' (hi:a + i ≤ n) ×' (hf:n ≤ a + i + f) ×' (hR:rV l a f i = ci l a) ×' Unit)=>match x with | ⟨i,f,hi,hf,hR,_⟩=>n - i) [⟨Unit,.exit 0,fun x=>match x with | ()=>CutS.mk [(0,zN a),(1,D.ep [D.sl false n 1 (map dB l)] 0),(3,nD (ci l a))] [] 0⟩] 1000 64 (fun | ⟨i,f,hi,hf,hR,_⟩,Q,next1,last1=>(.s 5 (.ow ((a:Int) + (i:Int)) (.s 8 (.br (decide ((a:Int) + (i:Int) < (n:Int))) (fun p0=>have p0f:=aU p0; (.s 9 (.ow ((a:Int) + (i:Int)) (.s 2 (.chk (true && decide ((a:Int) + (i:Int) < (n:Int)) && true) Gt (.s 3 (.opt ((map dB l)[uM ((a:Int) + (i:Int)) * 1]?) (dB (getD l (uM ((a:Int) + (i:Int)) * 1) jd)) (au _ _ om) (.s 8 (.chk (true && decide ((a:Int) < (n:Int)) && true) Gt (.s 3 (.opt ((map dB l)[a * 1]?) (dB (getD l (a * 1) jd)) (au _ _ om) (.s 4 (.br ((↑(LG (getD l (uM ((a:Int) + (i:Int)) * 1) jd)):Int) == (↑(LG (getD l (a * 1) jd)):Int)) (fun p1=>have p1f:=eq_of_beq p1; (.s 3 (.ow ((i:Int) + 1) (.s 1 (.val 3 (zI ((i:Int) + 1)) (zN (i + 1)) yi (Hn.next next1 ⟨(i + 1),(f - 1),om,om,(by ( exact Gw (u:=((a:Int) + (i:Int)).toNat * 1) (v:=a * 1) hR om om om om om)),⟨⟩⟩ (by show n - (i + 1) < n - i; clear next1 last1; omega) [] ro)))))) (fun p1=>have p1f:=ar p1; (.val 3 (zN i) (zN (ci l a)) (by ( rw [Gx (u:=((a:Int) + (i:Int)).toNat * 1) (v:=a * 1) hR om om om])) (Hn.last last1 0 (():Unit) rfl [] ro)))))))))))))))) (fun p0=>have p0f:=aV p0; (.s 22 (.val 3 (zN i) (zN (ci l a)) (by ( rw [Gu hR om])) (Hn.last last1 0 (():Unit) rfl [] ro))))))))) (fun | ⟨i,f,hi,hf,hR,_⟩=>by kernel_rfl) ⟨(0),(n),om,om,(by (rw [hn]; exact (wI l a).symm)),⟨⟩⟩ [] ro (b5 (fun | ()=>(.s 2 (.out [] [] (zN (ci l a)) [] R (ok _ _ wr wr)))))))) (by kernel_rfl)
theorem GA (n k:Nat):fZ .i64 false (n:Int) (k:Int) = some (nD (min n k)):=y0 (by omega)
theorem iJ (l:List UInt8):∀ (f a:Nat),(ji l f a).length ≤ f
 | 0,_=>LV _
 | f + 1,a=>by
  rw [ji]
  split
  ·exact Mw _
  ·split
   ·exact NA (iJ l f _)
   ·split
    ·exact NA (iJ l f _)
    ·split
     ·exact NA (iJ l f _)
     ·exact NA (iJ l f _)
theorem JO (l:List UInt8) (n:Nat) (hn:n = l.length) (hn2:n ≤ 320) (ho:∀ i,i < n → (l.getD i jd).toNat ≤ 15) (T:List Rn) (hT:vd l = T):SpecH false Tryz.prog 110 [.sl false n 1 (l.map dB)] [] (.tup [.ref 0 0 0 T.length 2,iD 0]) [⟨T.flatMap ej, 187, true⟩]:=by
 refine SpecH.run T_ok ai Tryz.func110 rfl rfl rfl ⟨ee (fun _=>rfl) _,trivial⟩ rfl 1000 64 (fun R ok=>(.s 10 (.f (decide (320 < (n:Int))) (by (refine decide_eq_false ?_; (omega))) (.s 5 (Hn.inl T_ok ai false 101 0 (ay Tryz.prog 110 0) (fun (x:(i:Nat) ×' (hi:i ≤ n) ×' Unit)=>match x with | ⟨i,hi,_⟩=>CutS.mk [(1,D.ptr 0 0 0),(2,aW),(13,D.sl false n 1 (map dB l)),(14,zN n),(15,nD i)] [⟨0,0,0,0,.b ⟨[D.sl false n 1 (map dB l)],24,false⟩⟩] 8) (fun (x:(i:Nat) ×' (hi:i ≤ n) ×' Unit)=>match x with | ⟨i,hi,_⟩=>n - i) [⟨Unit,.exit 0,fun x=>match x with | ()=>CutS.mk [(1,D.ptr 0 0 0),(2,aW),(13,D.sl false n 1 (map dB l)),(14,zN n),(15,nD n)] [⟨0,0,0,0,.b ⟨[D.sl false n 1 (map dB l)],24,false⟩⟩] 8⟩] 1000 64 (fun | ⟨i,hi,_⟩,Q,next1,last1=>(.s 2 (.br (decide ((i:Int) < (n:Int))) (fun p0=>have p0f:=aU p0; (.s 1 (.chk (true && decide ((i:Int) < (n:Int)) && true) Gt (.s 2 (.opt ((map dB l)[i * 1]?) (dB (getD l (i * 1) jd)) (au _ _ om) (.s 4 (.f (decide (15 < (↑(LG (getD l (i * 1) jd)):Int))) (by (refine decide_eq_false ?_;  have h9:=ho (i * 1) om; omega)) (.s 2 (.ow ((i:Int) + 1) (.s 1 (.val 15 (zI ((i:Int) + 1)) (zN (i + 1)) yi (Hn.next next1 ⟨(i + 1),om,⟨⟩⟩ (by show n - (i + 1) < n - i; clear next1 last1; omega) [(0,0)] ro)))))))))))) (fun p0=>have p0f:=aV p0; (.val 15 (zN i) (zN n) yi (Hn.last last1 0 (():Unit) rfl [(0,0)] ro)))))) (fun | ⟨i,hi,_⟩=>by kernel_rfl) ⟨(0),om,⟨⟩⟩ [(0,0)] ro (b5 (fun | ()=>(.s 3 (.nils 2 32 2 187 (Hn.inl T_ok ai false 101 0 (ay Tryz.prog 110 1) (fun (x:(a:Nat) ×' (f:Nat) ×' (o:List Rn) ×' (ha:a ≤ n) ×' (hf:n ≤ a + f) ×' (hq:o.length ≤ a) ×' (hR:o ++ ji l f a = T) ×' Unit)=>match x with | ⟨a,f,o,ha,hf,hq,hR,_⟩=>CutS.mk [(1,D.ptr 0 0 0),(2,(D.ref 8 8 (0) (o.length) 2)),(6,D.fn (Mn 147) [] [D.ptr 0 0 0]),(7,nD a)] [⟨0,0,0,0,.b ⟨[D.sl false n 1 (map dB l)],24,false⟩⟩,⟨8,8,32,32,.b ⟨o.flatMap ej,187,true⟩⟩] 16) (fun (x:(a:Nat) ×' (f:Nat) ×' (o:List Rn) ×' (ha:a ≤ n) ×' (hf:n ≤ a + f) ×' (hq:o.length ≤ a) ×' (hR:o ++ ji l f a = T) ×' Unit)=>match x with | ⟨a,f,o,ha,hf,hq,hR,_⟩=>n - a) [⟨Unit,.exit 2,fun x=>match x with | ()=>CutS.mk [(1,D.ptr 0 0 0),(2,(D.ref 8 8 (0) (T.length) 2)),(6,D.fn (Mn 147) [] [D.ptr 0 0 0])] [⟨0,0,0,0,.b ⟨[D.sl false n 1 (map dB l)],24,false⟩⟩,⟨8,8,32,32,.b ⟨T.flatMap ej,187,true⟩⟩] 16⟩] 1000 64 (fun | ⟨a,f,o,ha,hf,hq,hR,_⟩,Q,next1,last1=>(.s 7 (.br (decide ((a:Int) < (n:Int))) (fun p1=>have p1f:=aU p1; (.s 4 (.cl 147 false [] (.fn Jx (@zh (l) (n) om om (a) om)) (.s 5 (.chk (true && decide ((a:Int) < (n:Int)) && true) Gt (.s 2 (.opt ((map dB l)[a * 1]?) (dB (getD l (a * 1) jd)) (au _ _ om) (.s 1 (.op (↑(LG (getD l (a * 1) jd)):Int) (by (exact fO _ (by decide) (by decide))) (.s 7 (.br ((↑(LG (getD l (a * 1) jd)):Int) == 0) (fun p2=>have p2f:=eq_of_beq p2; (.s 5 (.br (decide (11 ≤ (↑(ci l a):Int))) (fun p3=>have p3f:=aU p3; (.s 2 (.opt (fZ L5 false (↑(ci l a):Int) (↑138:Int)) (nD (min (ci l a) 138)) (@GA (ci l a) 138 ) (.s 5 (.ow ((↑(min (ci l a) 138):Int) - 11) (.s 5 (.chk (true && LF (length o * 2) (length (flatMap ej o)) && true && true && true && true && LH ((length o + 1) * 16) 140737488355328) DF (.s 5 (.ow ((a:Int) + (↑(min (ci l a) 138):Int)) (.s 1 (.val 2 (D.ref 248 248 0 (length o + 1) 2) (D.ref 248 248 0 (length (o ++ [Rn.mk 18 (min (ci l a) 138 - 11)])) 2) DG (.val 7 (zI ((a:Int) + (↑(min (ci l a) 138):Int))) (zN (a + min (ci l a) 138)) yi (.blk 248 248 (Blk.mk (flatMap ej o ++ [zI 18,zI ((↑(min (ci l a) 138):Int) - 11)]) 187 true) (Blk.mk (flatMap ej (o ++ [Rn.mk 18 (min (ci l a) 138 - 11)])) 187 true) JH (Hn.next next1 ⟨(a + min (ci l a) 138),(f - 1),(o ++ [⟨18,min (ci l a) 138 - 11⟩]),JI,om,DH,(by (simp only [Me] at *;  have h9:=ln (l:=l) (a:=a) om; exact JL hR om om om om)),⟨⟩⟩ (by show n - (a + min (ci l a) 138) < n - a; clear next1 last1; omega) [(0,0),(248,248)] ro)))))))))))))) (fun p3=>have p3f:=aV p3; (.s 5 (.t ((↑(LG (getD l (a * 1) jd)):Int) == 0) p2 (.s 5 (.br (decide (3 ≤ (↑(ci l a):Int))) (fun p4=>have p4f:=aU p4; (.s 4 (.ow ((↑(ci l a):Int) - 3) (.s 5 (.chk (true && LF (length o * 2) (length (flatMap ej o)) && true && true && true && true && LH ((length o + 1) * 16) 140737488355328) DF (.s 5 (.ow ((a:Int) + (↑(ci l a):Int)) (.s 1 (.val 2 (D.ref 280 280 0 (length o + 1) 2) (D.ref 280 280 0 (length (o ++ [Rn.mk 17 (ci l a - 3)])) 2) DG (.val 7 (zI ((a:Int) + (↑(ci l a):Int))) (zN (a + ci l a)) yi (.blk 280 280 (Blk.mk (flatMap ej o ++ [zI 17,zI ((↑(ci l a):Int) - 3)]) 187 true) (Blk.mk (flatMap ej (o ++ [Rn.mk 17 (ci l a - 3)])) 187 true) JH (Hn.next next1 ⟨(a + ci l a),(f - 1),(o ++ [⟨17,ci l a - 3⟩]),JI,om,DH,(by (simp only [Me] at *;  have h9:=ln (l:=l) (a:=a) om; exact JM hR om om om om om)),⟨⟩⟩ (by show n - (a + ci l a) < n - a; clear next1 last1; omega) [(0,0),(280,280)] ro)))))))))))) (fun p4=>have p4f:=aV p4; (.s 5 (.f (decide (0 < (↑(LG (getD l (a * 1) jd)):Int))) (by (refine decide_eq_false ?_; (omega))) (.s 37 (.chk (true && LF (length o * 2) (length (flatMap ej o)) && true && true && true && true && LH ((length o + 1) * 16) 140737488355328) DF (.s 5 (.ow ((a:Int) + 1) (.s 1 (.val 2 (D.ref 448 448 0 (length o + 1) 2) (D.ref 448 448 0 (length (o ++ [Rn.mk (LG (getD l a jd)) 0])) 2) DG (.val 7 (zI ((a:Int) + 1)) (zN (a + 1)) yi (.blk 448 448 (Blk.mk (flatMap ej o ++ [zN (LG (getD l (a * 1) jd)),zI 0]) 187 true) (Blk.mk (flatMap ej (o ++ [Rn.mk (LG (getD l a jd)) 0])) 187 true) (by (simp; done)) (Hn.next next1 ⟨(a + 1),(f - 1),(o ++ [⟨(l.getD a jd).toNat,0⟩]),om,om,DH,JJ,⟨⟩⟩ IF [(0,0),(448,448)] ro)))))))))))))))))))) (fun p2=>have p2f:=ar p2; (.s 10 (.f ((↑(LG (getD l (a * 1) jd)):Int) == 0) p2 (.s 10 (.t (decide (0 < (↑(LG (getD l (a * 1) jd)):Int))) (by (refine decide_eq_true ?_; (omega))) (.s 6 (.br (decide (0 < (a:Int))) (fun p5=>have p5f:=aU p5; (.s 7 (.ow ((a:Int) - 1) (.s 2 (.chk (decide (0 ≤ (a:Int) - 1) && decide ((a:Int) - 1 < (n:Int)) && true) Gt (.s 3 (.opt ((map dB l)[uM ((a:Int) - 1) * 1]?) (dB (getD l (uM ((a:Int) - 1) * 1) jd)) (au _ _ om) (.s 2 (.op (↑(LG (getD l (uM ((a:Int) - 1) * 1) jd)):Int) (by (exact fO _ (by decide) (by decide))) (.s 8 (.br ((↑(LG (getD l (uM ((a:Int) - 1) * 1) jd)):Int) == (↑(LG (getD l (a * 1) jd)):Int)) (fun p6=>have p6f:=eq_of_beq p6; (.s 5 (.br (decide (3 ≤ (↑(ci l a):Int))) (fun p7=>have p7f:=aU p7; (.s 2 (.opt (fZ L5 false (↑(ci l a):Int) (↑6:Int)) (nD (min (ci l a) 6)) (@GA (ci l a) 6 ) (.s 5 (.ow ((↑(min (ci l a) 6):Int) - 3) (.s 5 (.chk (true && LF (length o * 2) (length (flatMap ej o)) && true && true && true && true && LH ((length o + 1) * 16) 140737488355328) DF (.s 5 (.ow ((a:Int) + (↑(min (ci l a) 6):Int)) (.s 1 (.val 2 (D.ref 472 472 0 (length o + 1) 2) (D.ref 472 472 0 (length (o ++ [Rn.mk 16 (min (ci l a) 6 - 3)])) 2) DG (.val 7 (zI ((a:Int) + (↑(min (ci l a) 6):Int))) (zN (a + min (ci l a) 6)) yi (.blk 472 472 (Blk.mk (flatMap ej o ++ [zI 16,zI ((↑(min (ci l a) 6):Int) - 3)]) 187 true) (Blk.mk (flatMap ej (o ++ [Rn.mk 16 (min (ci l a) 6 - 3)])) 187 true) JH (Hn.next next1 ⟨(a + min (ci l a) 6),(f - 1),(o ++ [⟨16,min (ci l a) 6 - 3⟩]),JI,om,DH,(by (simp only [Me] at *;  have h9:=ln (l:=l) (a:=a) om; exact JN hR om om om om (by rw [show ((a:Int) - 1).toNat = a - 1 from by omega] at *; omega) om)),⟨⟩⟩ (by show n - (a + min (ci l a) 6) < n - a; clear next1 last1; omega) [(0,0),(472,472)] ro)))))))))))))) (fun p7=>have p7f:=aV p7; (.s 8 (.chk (true && LF (length o * 2) (length (flatMap ej o)) && true && true && true && true && LH ((length o + 1) * 16) 140737488355328) DF (.s 5 (.ow ((a:Int) + 1) (.s 1 (.val 2 (D.ref 448 448 0 (length o + 1) 2) (D.ref 448 448 0 (length (o ++ [Rn.mk (LG (getD l a jd)) 0])) 2) DG (.val 7 (zI ((a:Int) + 1)) (zN (a + 1)) yi (.blk 448 448 (Blk.mk (flatMap ej o ++ [zN (LG (getD l (a * 1) jd)),zI 0]) 187 true) (Blk.mk (flatMap ej (o ++ [Rn.mk (LG (getD l a jd)) 0])) 187 true) (by (simp; done)) (Hn.next next1 ⟨(a + 1),(f - 1),(o ++ [⟨(l.getD a jd).toNat,0⟩]),om,om,DH,JJ,⟨⟩⟩ IF [(0,0),(448,448)] ro))))))))))))) (fun p6=>have p6f:=ar p6; (.s 13 (.chk (true && LF (length o * 2) (length (flatMap ej o)) && true && true && true && true && LH ((length o + 1) * 16) 140737488355328) DF (.s 5 (.ow ((a:Int) + 1) (.s 1 (.val 2 (D.ref 448 448 0 (length o + 1) 2) (D.ref 448 448 0 (length (o ++ [Rn.mk (LG (getD l a jd)) 0])) 2) DG (.val 7 (zI ((a:Int) + 1)) (zN (a + 1)) yi (.blk 448 448 (Blk.mk (flatMap ej o ++ [zN (LG (getD l (a * 1) jd)),zI 0]) 187 true) (Blk.mk (flatMap ej (o ++ [Rn.mk (LG (getD l a jd)) 0])) 187 true) (by (simp; done)) (Hn.next next1 ⟨(a + 1),(f - 1),(o ++ [⟨(l.getD a jd).toNat,0⟩]),om,om,DH,(by (simp only [Me] at *;  have h9:=ln (l:=l) (a:=a) om; rw [show ((a:Int) - 1).toNat = a - 1 from by omega] at *; exact Gz hR om om om om)),⟨⟩⟩ IF [(0,0),(448,448)] ro))))))))))))))))))))) (fun p5=>have p5f:=aV p5; (.s 31 (.chk (true && LF (length o * 2) (length (flatMap ej o)) && true && true && true && true && LH ((length o + 1) * 16) 140737488355328) DF (.s 5 (.ow ((a:Int) + 1) (.s 1 (.val 2 (D.ref 448 448 0 (length o + 1) 2) (D.ref 448 448 0 (length (o ++ [Rn.mk (LG (getD l a jd)) 0])) 2) DG (.val 7 (zI ((a:Int) + 1)) (zN (a + 1)) yi (.blk 448 448 (Blk.mk (flatMap ej o ++ [zN (LG (getD l (a * 1) jd)),zI 0]) 187 true) (Blk.mk (flatMap ej (o ++ [Rn.mk (LG (getD l a jd)) 0])) 187 true) (by (simp; done)) (Hn.next next1 ⟨(a + 1),(f - 1),(o ++ [⟨(l.getD a jd).toNat,0⟩]),om,om,DH,JJ,⟨⟩⟩ IF [(0,0),(448,448)] ro)))))))))))))))))))))))))))) (fun p1=>have p1f:=aV p1; (.val 2 (D.ref 8 8 0 (length o) 2) (D.ref 8 8 0 (length T) 2) (by ( rw [Gy hR om])) (.blk 8 8 (Blk.mk (flatMap ej o) 187 true) (Blk.mk (flatMap ej T) 187 true) (by ( rw [Gy hR om])) (Hn.last last1 0 (():Unit) rfl [(0,0),(8,8)] ro))))))) (fun | ⟨a,f,o,ha,hf,hq,hR,_⟩=>by kernel_rfl) ⟨(0),(n),([]),om,om,(by (simp; done)),(by (rw [hn]; exact (rW l).symm.trans hT)),⟨⟩⟩ [(0,0),(32,32)] ro (b5 (fun | ()=>(.s 3 (.out [8] [8] (D.tup [D.ref 0 0 0 (length T) 2,zI 0]) [Blk.mk (flatMap ej T) 187 true] R (ok _ _ wr wr))))))))))))))) (by kernel_rfl)
end Vp
end Go.Proofs.YtefjnofhgkjpmaaGreat
namespace Go.Proofs.YtefjnofhgkjpmaaGreat
open Go.RowKit Go.Bw Go.Vx
namespace Vp
def yc (T:List Sy) (f:Int) (s:Nat):Nat:=if f ≤ s ∧ s < f + T.length then 0 else 90
def bX (T:List Sy):Prop:=∀ i,(T.getD i jd).bits ≤ 13 ∧ (T.getD i jd).least ≤ 100000 ∧ (T.getD i jd).many ≤ 100000
theorem qb {T:List Sy} (h:T.all (fun y=>decide (y.bits ≤ 13) && decide (y.least ≤ 100000) && decide (y.many ≤ 100000)) = true):bX T:=fun i=>by
 rw [List.getD_eq_getElem?_getD]
 cases hq:T[i]? with
 | none=>exact ⟨Mw _,Mw _,Mw _⟩
 | some y =>
  have:=List.all_eq_true.1 h y (List.mem_of_getElem? hq)
  simp only [LI,decide_eq_true_eq] at this
  exact ⟨this.1.1,this.1.2,this.2⟩
theorem GB {x:Int} (h:-9223372036854775808 ≤ x ∧ x ≤ 9223372036854775807):IntKind.i64.wrap x = x:=by
 have h2:=fj (x:=x) h
 rw [aL] at h2
 injection h2 with h3; injection h3 with h4; injection h4
theorem cX:bX aI:=qb (by decide)
theorem dw:bX aY:=qb (by decide)
end Vp
end Go.Proofs.YtefjnofhgkjpmaaGreat
namespace Go.Proofs.YtefjnofhgkjpmaaGreat
open Go.RowKit Go.Bw Go.Vx
open List (length getD map take drop flatMap replicate)
namespace Vp
theorem JP {p:Prop} (h:p:=by ( have q:=JQ hR om om rfl om om; have h9:=hz i; subst q; refine aO ?_; omega)):p:=h
def GC (s:Sy) (n:Nat):Bool:=decide (s.least ≤ n ∧ n < s.least + s.many)
def nf (T:List Sy) (n:Nat):Nat → Nat → Nat
 | 0,i=>i
 | f + 1,i=>if GC (T.getD i jd) n = true then i else nf T n f (i + 1)
def am (T:List Sy) (n:Nat):Nat:=lk T (nf T n T.length 0)
theorem lq (T:List Sy) (n:Nat):am T n = nf T n T.length 0:=aF _ _
theorem BS {T:List Sy} {n:Nat}:∀ (f i:Nat),i ≤ nf T n f i
 | 0,_=>LV _
 | f + 1,i=>by
  rw [nf]; split
  ·exact LV _
  ·exact Nat.le_of_succ_le (BS f (i + 1))
theorem JQ {T:List Sy} {n f i I u:Nat} (hR:nf T n f i = I) (hf:T.length ≤ i + f) (hi:i < T.length) (hu:u = i) (h1:(T.getD u jd).least ≤ n) (h2:n < (T.getD u jd).least + (T.getD u jd).many):i = I:=by
 subst hu
 obtain ⟨g,rfl⟩:∃ g,f = g + 1:=⟨f - 1,by omega⟩
 rw [← hR,nf,if_pos (show GC (T.getD u jd) n = true from decide_eq_true ⟨h1,h2⟩)]
theorem zi {T:List Sy} {n f i I u:Nat} (hR:nf T n f i = I) (hf:T.length ≤ i + f) (hi:i < T.length) (hu:u = i) (h:¬ ((T.getD u jd).least ≤ n ∧ n < (T.getD u jd).least + (T.getD u jd).many)):nf T n (f - 1) (i + 1) = I ∧ i + 1 ≤ I:=by
 subst hu
 obtain ⟨g,rfl⟩:∃ g,f = g + 1:=⟨f - 1,by omega⟩
 rw [nf,if_neg (fun q:GC (T.getD u jd) n = true=>h (of_decide_eq_true q))] at hR
 exact ⟨hR,by rw [← hR]; exact BS g (u + 1)⟩
theorem BT {T:List Sy} {n:Nat}:∀ (f i:Nat),nf T n f i < i + f → (T.getD (nf T n f i) jd).least ≤ n ∧ n < (T.getD (nf T n f i) jd).least + (T.getD (nf T n f i) jd).many
 | 0,i,h=>absurd h (by rw [nf]; omega)
 | f + 1,i,h=>by
  rw [nf] at h ⊢
  by_cases q:GC (T.getD i jd) n = true
  ·rw [if_pos q]; exact of_decide_eq_true q
  ·rw [if_neg q] at h ⊢; exact BT f (i + 1) (by omega)
def JR:List Sy → Nat → Nat → Bool
 | [],a,b=>LF a b
 | s :: l,a,b=>LF s.least a && JR l (a + s.many) b
theorem wJ {n b:Nat} (T:List Sy):∀ (f i a:Nat),i + f = T.length → JR (T.drop i) a b = true → a ≤ n → n < b → nf T n f i < i + f
 | 0,i,a,h,hc,h1,h2=>by
  rw [MS (by omega)] at hc
  have:=LL hc
  omega
 | f + 1,i,a,h,hc,h1,h2=>by
  rw [M1 (by omega:i < T.length),JR,LI] at hc
  have e:T.getD i jd = T[i]'(by omega):=by rw [List.getD_eq_getElem?_getD,List.getElem?_eq_getElem (by omega)]; rfl
  have hl:=LL hc.1
  rw [nf,e]
  by_cases q:GC (T[i]'(by omega)) n = true
  ·rw [if_pos q]; omega
  ·rw [if_neg q]
   have q2:=of_decide_eq_false (Bool.eq_false_iff.2 q)
   have:=wJ (n:=n) (b:=b) T f (i + 1) (a + (T[i]'(by omega)).many) (by omega) hc.2 (by omega) h2
   omega
theorem wK (T:List Sy) (k:Nat) (hk:k = T.length) (hk2:k ≤ 64) (hz:bX T) (b:Nat) (hb:b ≤ 257) (n:Nat) (hn:n ≤ 40000) (I:Nat) (hI:am T n = I) (hIk:I < k):SpecH false Tryz.prog 173 [.agg [nD b,.sl false k 3 (T.flatMap gR)],nD n] [] (.tup [nD (b + I),nD (T.getD I jd).bits,nD (n - (T.getD I jd).least),iD 0]) []:=by
 refine SpecH.run T_ok ai Tryz.func173 rfl rfl rfl trivial rfl 1000 64 (fun R ok=>(.s 14 (Hn.inl T_ok ai false 42 0 (ay Tryz.prog 173 0) (fun (x:(i:Nat) ×' (f:Nat) ×' (hi:i ≤ k) ×' (hf:k ≤ i + f) ×' (hR:nf T n f i = I) ×' (hi2:i ≤ I) ×' Unit)=>match x with | ⟨i,f,hi,hf,hR,hi2,_⟩=>CutS.mk [(1,zN n),(2,D.ptr 0 0 0),(11,D.sl false k 3 (flatMap gR T)),(12,zN k),(13,nD i)] [⟨0,0,0,0,.b ⟨[zN b,D.sl false k 3 (flatMap gR T)],252,false⟩⟩] 8) (fun (x:(i:Nat) ×' (f:Nat) ×' (hi:i ≤ k) ×' (hf:k ≤ i + f) ×' (hR:nf T n f i = I) ×' (hi2:i ≤ I) ×' Unit)=>match x with | ⟨i,f,hi,hf,hR,hi2,_⟩=>k - i) [⟨Unit,.ret,fun x=>match x with | ()=>CutS.mk [(4,nD (b + I)),(5,nD (T.getD I jd).bits),(6,nD (n - (T.getD I jd).least)),(7,iD 0)] [⟨0,0,0,0,.b ⟨[zN b,D.sl false k 3 (flatMap gR T)],252,false⟩⟩] 8⟩] 1000 64 (fun | ⟨i,f,hi,hf,hR,hi2,_⟩,Q,next1,last1=>(.s 2 (.t (decide ((i:Int) < (k:Int))) (by (refine decide_eq_true ?_; (omega))) (.s 2 (.chk (true && decide ((i:Int) < (k:Int)) && true) (by ((refine aK ?_ ?_) <;> (repeat' (first | (refine aK ?_ ?_) | (with_reducible rfl) | (refine decide_eq_true ?_) | (refine LK ?_) | (refine eT ?_))) <;> (omega))) (.s 2 (.chk (LH (i * 3 + 3) (length (flatMap gR T))) (by (rw [bl (k:=3) (fun _=>rfl)]; refine LK ?_; (omega))) (.lst (take 3 (drop (i * 3) (flatMap gR T))) ([zN (Sy.bits (getD T i jd)),zN (Sy.least (getD T i jd)),zN (Sy.many (getD T i jd))]) (aD (k:=3) (i:=i) (fun _=>rfl) om om) (.s 17 (.br (decide ((↑(Sy.least (getD T i jd)):Int) ≤ (n:Int))) (fun p0=>have p0f:=aU p0; (.s 19 (.op ((↑(Sy.least (getD T i jd)):Int) + (↑(Sy.many (getD T i jd)):Int)) (by ( have h9:=hz i; omega)) (.s 4 (.br (decide ((n:Int) < (↑(Sy.least (getD T i jd)):Int) + (↑(Sy.many (getD T i jd)):Int))) (fun p1=>have p1f:=aU p1; (.s 10 (.ow ((b:Int) + (i:Int)) (.s 15 (.ow ((n:Int) - (↑(Sy.least (getD T i jd)):Int)) (.s 4 (.val 4 (zI ((b:Int) + (i:Int))) (zN (b + I)) JP (.val 5 (zN (Sy.bits (getD T i jd))) (zN (Sy.bits (getD T I jd))) JP (.val 6 (zI ((n:Int) - (↑(Sy.least (getD T i jd)):Int))) (zN (n - Sy.least (getD T I jd))) JP (Hn.last last1 0 (():Unit) rfl [(0,0)] ro)))))))))) (fun p1=>have p1f:=aV p1; (.s 2 (.ow ((i:Int) + 1) (.s 1 (.val 13 (zI ((i:Int) + 1)) (zN (i + 1)) (by (refine aO ?_; (omega))) (Hn.next next1 ⟨(i + 1),(f - 1),om,om,(by ( exact (zi hR om om rfl om).1)),(by ( exact (zi hR om om rfl om).2)),⟨⟩⟩ (by show k - (i + 1) < k - i; clear next1 last1; omega) [(0,0)] ro))))))))))) (fun p0=>have p0f:=aV p0; (.s 16 (.ow ((i:Int) + 1) (.s 1 (.val 13 (zI ((i:Int) + 1)) (zN (i + 1)) (by (refine aO ?_; (omega))) (Hn.next next1 ⟨(i + 1),(f - 1),om,om,(by ( exact (zi hR om om rfl om).1)),(by ( exact (zi hR om om rfl om).2)),⟨⟩⟩ (by show k - (i + 1) < k - i; clear next1 last1; omega) [(0,0)] ro)))))))))))))))) (fun | ⟨i,f,hi,hf,hR,hi2,_⟩=>by kernel_rfl) ⟨(0),(k),om,om,(by (rw [hk]; exact (lq T n).symm.trans hI)),om,⟨⟩⟩ [(0,0)] ro (b5 (fun | ()=>(.out [] [] (D.tup [zN (b + I),zN (Sy.bits (getD T I jd)),zN (n - Sy.least (getD T I jd)),zI 0]) [] R (ok _ _ wr wr))))))) (by kernel_rfl)
theorem DI (T:List Sy) (hT:T = aI) (hl:T.length = 29) (hz:bX T) (n:Nat) (hn:n ≤ 40000) (I:Nat) (hI:am T n = I) (hIk:I < 29):SpecH false Tryz.prog 142 [nD n] [] (.tup [nD (257 + I),nD (T.getD I jd).bits,nD (n - (T.getD I jd).least),iD 0]) []:=by
 refine SpecH.run T_ok ai Tryz.func142 rfl rfl rfl trivial rfl 1000 64 (fun R ok=>(.s 5 (.cl 160 false [] (.fn JA (@zg (T) bx)) (.s 2 (.call 173 false [] (true && (true && (true && LH 87 (length (flatMap gR T)) && true && ab (bif true && LF 87 (length (flatMap gR T)) then flatMap gR T else take 87 (drop 0 (flatMap gR T)))) && true) && true) (by (have q:ab (T.flatMap gR) = true:=di (f:=gR) (fun _=>rfl) T; rw [bl (f:=gR) (k:=3) (fun _=>rfl),hl]; simp only [show LH 87 (29 * 3) = true from rfl,show LF 87 (29 * 3) = true from rfl,Mc,cond_true,q])) ([D.agg [zI 257,D.sl true 29 3 (bif true && LF 87 (length (flatMap gR T)) then flatMap gR T else take 87 (drop 0 (flatMap gR T)))],zN n]) _ (by exact (LW (D.sim.agg (LW (D.sim.refl _) (LW (D.sim.slw rfl (bt (by (have q:ab (T.flatMap gR) = true:=di (f:=gR) (fun _=>rfl) T; rw [bl (f:=gR) (k:=3) (fun _=>rfl),hl]; simp only [show LH 87 (29 * 3) = true from rfl,show LF 87 (29 * 3) = true from rfl,Mc,cond_true,q])) |>.trans rfl)) trivial))) (LW (D.sim.refl _) trivial))) (true) wr _ _ _ (CallOk.fn (aA.of Tryz.func173 rfl rfl) (@wK (T) (29) om om om (257) (by (simp; done)) (n) om (I) bx om)) (.s 12 (.out [] [] (D.tup [zN (257 + I),zN (Sy.bits (getD T I jd)),zN (n - Sy.least (getD T I jd)),zI 0]) [] R (ok _ _ wr wr)))))))) (by kernel_rfl)
theorem GD (T:List Sy) (hT:T = aY) (hl:T.length = 30) (hz:bX T) (n:Nat) (hn:n ≤ 40000) (I:Nat) (hI:am T n = I) (hIk:I < 30):SpecH false Tryz.prog 143 [nD n] [] (.tup [nD (0 + I),nD (T.getD I jd).bits,nD (n - (T.getD I jd).least),iD 0]) []:=by
 refine SpecH.run T_ok ai Tryz.func143 rfl rfl rfl trivial rfl 1000 64 (fun R ok=>(.s 5 (.cl 163 false [] (.fn JB (@DE (T) bx)) (.s 2 (.call 173 false [] (true && (true && (true && LH 90 (length (flatMap gR T)) && true && ab (bif true && LF 90 (length (flatMap gR T)) then flatMap gR T else take 90 (drop 0 (flatMap gR T)))) && true) && true) (by (have q:ab (T.flatMap gR) = true:=di (f:=gR) (fun _=>rfl) T; rw [bl (f:=gR) (k:=3) (fun _=>rfl),hl]; simp only [show LH 90 (30 * 3) = true from rfl,show LF 90 (30 * 3) = true from rfl,Mc,cond_true,q])) ([D.agg [zI 0,D.sl true 30 3 (bif true && LF 90 (length (flatMap gR T)) then flatMap gR T else take 90 (drop 0 (flatMap gR T)))],zN n]) _ (by exact (LW (D.sim.agg (LW (D.sim.refl _) (LW (D.sim.slw rfl (bt (by (have q:ab (T.flatMap gR) = true:=di (f:=gR) (fun _=>rfl) T; rw [bl (f:=gR) (k:=3) (fun _=>rfl),hl]; simp only [show LH 90 (30 * 3) = true from rfl,show LF 90 (30 * 3) = true from rfl,Mc,cond_true,q])) |>.trans rfl)) trivial))) (LW (D.sim.refl _) trivial))) (true) wr _ _ _ (CallOk.fn (aA.of Tryz.func173 rfl rfl) (@wK (T) (30) om om om (0) (by (simp; done)) (n) om (I) bx om)) (.s 12 (.out [] [] (D.tup [zN (0 + I),zN (Sy.bits (getD T I jd)),zN (n - Sy.least (getD T I jd)),zI 0]) [] R (ok _ _ wr wr)))))))) (by kernel_rfl)
end Vp
end Go.Proofs.YtefjnofhgkjpmaaGreat
namespace Go.Proofs.YtefjnofhgkjpmaaGreat
open Go.RowKit Go.Bw Go.Vx
open List (length getD map take drop flatMap replicate)
namespace Vp
theorem qc {p:Prop} (h:p:=by (refine aO ?_; rw [iI]; unfold rU;  (repeat' split) <;> first | omega | (simp_all; done))):p:=h
theorem JS {x:Int} (h:-9223372036854775808 ≤ x ∧ x ≤ 9223372036854775807):IntKind.i64.wrap x = x:=by
 have h2:=fj (x:=x) h
 rw [aL] at h2
 injection h2 with h3; injection h3 with h4; injection h4
theorem tA {l:List UInt8} {i m:Nat} (ho:∀ j,j < i → (l.getD j jd).toNat ≤ m) (h:¬ ((m:Nat):Int) < (((l.getD (i * 1) jd).toNat:Nat):Int)):∀ j,j < i + 1 → (l.getD j jd).toNat ≤ m:=fun j hj=>by
 rcases Mh j i with q | q
 ·exact ho j q
 ·have q2:j = i:=by omega
  subst q2; rw [Me] at h; omega
theorem JT {l:List UInt8} {i:Nat} (h:i < l.length) (hN:l.length ≤ 1000000) (h1:0 < (l.getD (i * 1) jd).toNat) (h2:(l.getD (i * 1) jd).toNat ≤ 15):D.v (.int .i64 (IntKind.i64.wrap (((aT (l.take i):Nat):Int) + IntKind.i64.wrap (2 ^ min (15 - (((l.getD (i * 1) jd).toNat:Nat):Int)).toNat 64 * 1)))) = D.v (.int .i64 ((aT (l.take (i + 1)):Nat):Int)):=by
 refine aO ?_
 rw [Me] at *
 rw [fP h]
 generalize (l.getD i jd).toNat = x at *
 have hk:=wE (l.take i)
 rw [LO] at hk
 rw [if_neg (by omega),show min (15 - (x:Int)).toNat 64 = 15 - x from by omega]
 have hp:2 ^ (15 - x) ≤ 2 ^ 15:=MB (by decide) (by omega)
 have e:(2:Int) ^ (15 - x) * 1 = ((2 ^ (15 - x):Nat):Int):=by push_cast; omega
 rw [e]
 generalize 2 ^ (15 - x) = Z at *
 rw [JS (x:=((Z:Nat):Int)) (by omega),JS (by omega)]
 omega
theorem GF {l:List UInt8} {i:Nat} (h:i < l.length) (h1:¬ (0:Int) < (((l.getD (i * 1) jd).toNat:Nat):Int)):aT (l.take (i + 1)) = aT (l.take i) ∧ bm (l.take (i + 1)) = bm (l.take i):=by
 rw [Me] at h1
 rw [fP h,ig h,if_pos (by omega),if_pos (by omega)]; exact ⟨rfl,rfl⟩
theorem JU {l:List UInt8} {i:Nat} (h:i < l.length) (hN:l.length ≤ 1000000) (h1:0 < (l.getD (i * 1) jd).toNat):D.v (.int .i64 (IntKind.i64.wrap (((bm (l.take i):Nat):Int) + 1))) = D.v (.int .i64 ((bm (l.take (i + 1)):Nat):Int)):=by
 refine aO ?_
 rw [Me] at *
 rw [ig h,if_neg (by omega)]
 have hk:=wD (l.take i)
 rw [LO] at hk
 rw [JS (by omega)]; omega
theorem DJ (l:List UInt8) (n:Nat) (hn:n = l.length) (hN:n ≤ 1000000) (m:Nat) (hm:1 ≤ m ∧ m ≤ 15):SpecH false Tryz.prog 148 [.sl false n 1 (l.map dB),nD m] [] (nD (cG l m)) []:=by
 refine SpecH.run T_ok ai Tryz.func148 rfl rfl rfl trivial rfl 1000 64 (fun R ok=>(.s 6 (.f (decide ((m:Int) < 1)) (by (refine decide_eq_false ?_; (omega))) (.s 4 (.f (decide (15 < (m:Int))) (by (refine decide_eq_false ?_; (omega))) (.s 4 (.br (decide (320 < (n:Int))) (fun p0=>have p0f:=aU p0; (.s 1 (.out [] [] (zI 4) [] R (ok _ _ qc wr)))) (fun p0=>have p0f:=aV p0; (.s 5 (Hn.inl T_ok ai false 52 0 (ay Tryz.prog 148 0) (fun (x:(i:Nat) ×' (hi:i ≤ n) ×' (ho:∀ j,j < i → (l.getD j jd).toNat ≤ m) ×' Unit)=>match x with | ⟨i,hi,ho,_⟩=>CutS.mk [(1,zN m),(5,nD (aT (l.take i))),(6,nD (bm (l.take i))),(18,D.sl false n 1 (map dB l)),(19,zN n),(20,nD i)] [] 0) (fun (x:(i:Nat) ×' (hi:i ≤ n) ×' (ho:∀ j,j < i → (l.getD j jd).toNat ≤ m) ×' Unit)=>match x with | ⟨i,hi,ho,_⟩=>n - i) [⟨(ho2:dm l m = false) ×' Unit,.exit 0,fun x=>match x with | ⟨ho2,_⟩=>CutS.mk [(1,zN m),(5,nD (aT l)),(6,nD (bm l)),(18,D.sl false n 1 (map dB l)),(19,zN n)] [] 0⟩,⟨(ho3:dm l m = true) ×' Unit,.ret,fun x=>match x with | ⟨ho3,_⟩=>CutS.mk [(4,iD 2)] [] 0⟩] 1000 64 (fun | ⟨i,hi,ho,_⟩,Q,next1,last1=>(.s 2 (.br (decide ((i:Int) < (n:Int))) (fun p1=>have p1f:=aU p1; (.s 1 (.chk (true && decide ((i:Int) < (n:Int)) && true) (by ((refine aK ?_ ?_) <;> (repeat' (first | (refine aK ?_ ?_) | (with_reducible rfl) | (refine decide_eq_true ?_) | (refine LK ?_) | (refine eT ?_))) <;> (omega))) (.s 2 (.opt ((map dB l)[i * 1]?) (dB (getD l (i * 1) jd)) (au _ _ om) (.s 3 (.op (↑(LG (getD l (i * 1) jd)):Int) (by (exact fO _ (by decide) (by decide))) (.s 3 (.br (decide ((m:Int) < (↑(LG (getD l (i * 1) jd)):Int))) (fun p2=>have p2f:=aU p2; (.s 1 (Hn.last last1 1 (⟨(by (exact tz (i:=i * 1) (by (omega)) (by (omega)))),⟨⟩⟩:(ho3:dm l m = true) ×' Unit) rfl [] ro))) (fun p2=>have p2f:=aV p2; (.s 3 (.br (decide (0 < (↑(LG (getD l (i * 1) jd)):Int))) (fun p3=>have p3f:=aU p3; (.s 4 (.opt (aw .u8 (15 - (↑(LG (getD l (i * 1) jd)):Int))) (bI (15 - (↑(LG (getD l (i * 1) jd)):Int))) (pU om) (.s 1 (.chk (decide (0 ≤ 15 - (↑(LG (getD l (i * 1) jd)):Int))) (by (refine decide_eq_true ?_; (omega))) (.opt (aw .i64 (2 ^ min (uM (15 - (↑(LG (getD l (i * 1) jd)):Int))) 64 * 1)) (zI (LZ L5 (2 ^ min (uM (15 - (↑(LG (getD l (i * 1) jd)):Int))) 64 * 1))) (aL _ _) (.s 2 (.opt (aw .i64 ((↑(aT (take i l)):Int) + LZ L5 (2 ^ min (uM (15 - (↑(LG (getD l (i * 1) jd)):Int))) 64 * 1))) (zI (LZ L5 ((↑(aT (take i l)):Int) + LZ L5 (2 ^ min (uM (15 - (↑(LG (getD l (i * 1) jd)):Int))) 64 * 1)))) (aL _ _) (.s 4 (.opt (aw .i64 ((↑(bm (take i l)):Int) + 1)) (zI (LZ L5 ((↑(bm (take i l)):Int) + 1))) (aL _ _) (.s 3 (.ow ((i:Int) + 1) (.s 1 (.val 5 (zI (LZ L5 ((↑(aT (take i l)):Int) + LZ L5 (2 ^ min (uM (15 - (↑(LG (getD l (i * 1) jd)):Int))) 64 * 1)))) (zN (aT (take (i + 1) l))) (by (exact JT (by (omega)) (by (omega)) (by (omega)) (by (omega)))) (.val 6 (zI (LZ L5 ((↑(bm (take i l)):Int) + 1))) (zN (bm (take (i + 1) l))) (by (exact JU (by (omega)) (by (omega)) (by (omega)))) (.val 20 (zI ((i:Int) + 1)) (zN (i + 1)) (by (refine aO ?_; (omega))) (Hn.next next1 ⟨(i + 1),om,(by (exact tA ho (by (omega)))),⟨⟩⟩ (by show n - (i + 1) < n - i; clear next1 last1; omega) [] ro))))))))))))))))) (fun p3=>have p3f:=aV p3; (.s 2 (.ow ((i:Int) + 1) (.s 1 (.val 5 (zN (aT (take i l))) (zN (aT (take (i + 1) l))) (by (rw [(GF (l:=l) (i:=i) (by (omega)) (by (omega))).1])) (.val 6 (zN (bm (take i l))) (zN (bm (take (i + 1) l))) (by (rw [(GF (l:=l) (i:=i) (by (omega)) (by (omega))).2])) (.val 20 (zI ((i:Int) + 1)) (zN (i + 1)) (by (refine aO ?_; (omega))) (Hn.next next1 ⟨(i + 1),om,(by (exact tA ho (by (omega)))),⟨⟩⟩ (by show n - (i + 1) < n - i; clear next1 last1; omega) [] ro)))))))))))))))))))) (fun p1=>have p1f:=aV p1; (.val 5 (zN (aT (take i l))) (zN (aT l)) (by (rw [Mf (by (omega))])) (.val 6 (zN (bm (take i l))) (zN (bm l)) (by (rw [Mf (by (omega))])) (Hn.last last1 0 (⟨(by (exact kn (fun j hj=>ho j (by (omega))))),⟨⟩⟩:(ho2:dm l m = false) ×' Unit) rfl [] ro))))))) (fun | ⟨i,hi,ho,_⟩=>by kernel_rfl) ⟨(0),om,om,⟨⟩⟩ [] ro (eZ (fun | ⟨ho2,_⟩=>(.s 4 (.br (decide (32768 < (↑(aT l):Int))) (fun p4=>have p4f:=aU p4; (.s 1 (.out [] [] (zI 30) [] R (ok _ _ qc wr)))) (fun p4=>have p4f:=aV p4; (.s 4 (.br ((↑(aT l):Int) == 32768) (fun p5=>have p5f:=eq_of_beq p5; (.s 2 (.out [] [] (zI 0) [] R (ok _ _ qc wr)))) (fun p5=>have p5f:=ar p5; (.s 4 (.br ((↑(bm l):Int) == 0) (fun p6=>have p6f:=eq_of_beq p6; (.s 2 (.out [] [] (zI 0) [] R (ok _ _ qc wr)))) (fun p6=>have p6f:=ar p6; (.s 5 (.br ((↑(bm l):Int) == 1) (fun p7=>have p7f:=eq_of_beq p7; (.s 5 (.br ((↑(aT l):Int) == 16384) (fun p8=>have p8f:=eq_of_beq p8; (.s 1 (.out [] [] (zI 0) [] R (ok _ _ qc wr)))) (fun p8=>have p8f:=ar p8; (.s 1 (.out [] [] (zI 31) [] R (ok _ _ qc wr))))))) (fun p7=>have p7f:=ar p7; (.s 6 (.out [] [] (zI 31) [] R (ok _ _ qc wr)))))))))))))))) (fun | ⟨ho3,_⟩=>(.out [] [] (zI 2) [] R (ok _ _ qc wr)))))))))))))) (by kernel_rfl)
end Vp
end Go.Proofs.YtefjnofhgkjpmaaGreat
namespace Go.Proofs.YtefjnofhgkjpmaaGreat
open Go.RowKit Go.Bw Go.Vx
open List (length getD map take drop flatMap replicate)
namespace Vp
theorem IG {p:Prop} (h:p:=by (refine decide_eq_true ?_;  have h7:=vf l v i; have h6:=vf l v (i + 1); omega)):p:=h
theorem JV {p:Prop} (h:p:=by clear next1 last1; (simp_all <;> omega)):p:=h
theorem Lg {p:Prop} (h:p:=by ((refine aK ?_ ?_) <;> (repeat' (first | (refine aK ?_ ?_) | (with_reducible rfl) | (refine decide_eq_true ?_) | (refine Nat.ble_eq_true_of_le ?_) | (refine eT ?_))) <;> (omega))):p:=h
theorem Lh {p:Prop} (h:p:=by (simp only [List.length_map,Nat.mul_one,Nat.beq_refl,Bool.true_and,Bool.and_true];  have h7:=vf l v i; have h6:=vf l v (i + 1); refine Nat.ble_eq_true_of_le ?_; omega)):p:=h
theorem Li {p:Prop} (h:p:=by ( have h7:=vf l v i; have h6:=vf l v (i + 1); refine DQ ?_ ?_ <;> omega)):p:=h
def cD:List Bool → Nat
 | []=>0
 | b :: r=>b.toNat + 2 * cD r
theorem gu:∀ l:List Bool,cD l < 2 ^ l.length
 | []=>NI
 | b :: r=>by
  have h:=gu r
  have h2:b.toNat ≤ 1:=Ox b
  rw [Md,MZ,cD]; omega
theorem jj:∀ a b:List Bool,cD (a ++ b) = cD a + 2 ^ a.length * cD b
 | [],b=>by simp [cD]
 | x :: r,b=>by
  have h:=jj r b
  rw [NB,cD,cD,h,Md,MZ,Ny,← MR,M8 2 (2 ^ r.length),MU]
def ve (l:List Bool) (i:Nat):UInt8:=MH (cD ((l.drop (8 * i)).take 8))
def pk (l:List Bool):List UInt8:=lk l ((Mt ((l.length + 7) / 8)).map (ve l))
theorem wL (l:List Bool):pk l = (Mt ((l.length + 7) / 8)).map (ve l):=aF _ _
theorem ac (l:List Bool):(pk l).length = (l.length + 7) / 8:=by rw [wL,LU,MQ]
theorem ii {l:List Bool} {i:Nat} (h:i < (l.length + 7) / 8):(pk l)[i]? = some (ve l i):=by
 rw [wL,List.getElem?_map,List.getElem?_range h]; rfl
theorem wM (l:List Bool) (i:Nat):cD ((l.drop (8 * i)).take 8) < 256:=by
 have h:=gu ((l.drop (8 * i)).take 8)
 have h2:2 ^ ((l.drop (8 * i)).take 8).length ≤ 2 ^ 8:=MB (by decide) (by rw [LO]; omega)
 omega
theorem jk {a b:List Bool} (h:a.length % 8 = 0):pk (a ++ b) = pk a ++ pk b:=by
 apply List.ext_getElem?
 intro i
 rcases Mh i ((a.length + 7) / 8) with q | q
 ·rw [List.getElem?_append_left (by rw [ac]; exact q),ii q,ii (by rw [LJ]; omega)]
  unfold ve
  rw [NQ (by omega),Nq (by rw [L9]; omega)]
 ·rw [List.getElem?_append_right (by rw [ac]; exact q),ac]
  rcases Mh (i - (a.length + 7) / 8) ((b.length + 7) / 8) with r | r
  ·rw [ii r,ii (by rw [LJ]; omega)]
   unfold ve
   rw [show 8 * i = a.length + 8 * (i - (a.length + 7) / 8) from by omega,PB]
   have e:Mm (a.length + 8 * (i - (a.length + 7) / 8)) a = []:=MS (by omega)
   rw [e,OC,NO]
  ·rw [List.getElem?_eq_none (by rw [ac,LJ]; omega),List.getElem?_eq_none (by rw [ac]; exact r)]
theorem iK {l:List Bool} {n:Nat} (h:8 * n ≤ l.length):pk (l.drop (8 * n)) = (pk l).drop n ∧ pk (l.take (8 * n)) = (pk l).take n:=by
 have e:=jk (a:=l.take (8 * n)) (b:=l.drop (8 * n)) (by rw [LO]; omega)
 rw [NG] at e
 have hl:(pk (l.take (8 * n))).length = n:=by rw [ac,LO]; omega
 constructor
 ·have q:=congrArg (Mm n) e
  rw [NQ (by omega),show Mm n (pk (Ml (8 * n) l)) = [] from MS (by omega),OC] at q
  exact q.symm
 ·have q:=congrArg (Ml n) e
  rw [Nq (by omega),show Ml n (pk (Ml (8 * n) l)) = pk (Ml (8 * n) l) from Mf (by omega)] at q
  exact q.symm
theorem DK {l:List Bool} (h0:0 < l.length) (h:l.length ≤ 8):pk l = [MH (cD l)]:=by
 rw [wL,show (l.length + 7) / 8 = 1 from by omega]
 show [ve l 0] = _
 unfold ve
 rw [Nat.mul_zero,M6,Mf h]
theorem GG {l:List Bool} {b:Bool} (h:l.length % 8 ≠ 0):(pk l).length = l.length / 8 + 1 ∧ pk (l ++ [b]) = (pk l).set (l.length / 8) (MH (((pk l).getD (l.length / 8) jd).toNat + 2 ^ (l.length % 8) * b.toNat)):=by
 refine ⟨by rw [ac]; omega,?_⟩
 have hd:=iK (l:=l) (n:=l.length / 8) (by omega)
 have e:l = l.take (8 * (l.length / 8)) ++ l.drop (8 * (l.length / 8)):=(NG _ _).symm
 generalize hA:l.take (8 * (l.length / 8)) = A at *
 generalize hB:l.drop (8 * (l.length / 8)) = B at *
 have lA:A.length = 8 * (l.length / 8):=by rw [← hA,LO]; omega
 have lB:B.length = l.length % 8:=by rw [← hB,L9]; omega
 have p1:pk l = pk A ++ pk B:=by
  conv=>lhs; rw [e]
  exact jk (by omega)
 have p2:pk (l ++ [b]) = pk A ++ pk (B ++ [b]):=by
  conv=>lhs; rw [e,Ma]
  exact jk (by omega)
 have l1:(pk A).length = l.length / 8:=by rw [ac]; omega
 have b1:=DK (l:=B) (by omega) (by omega)
 have b2:=DK (l:=B ++ [b]) (by rw [LJ]; omega) (by rw [LJ,Mu]; omega)
 have hb:cD B < 256:=by
  have h3:=gu B
  have h4:2 ^ B.length ≤ 2 ^ 8:=MB (by decide) (by omega)
  omega
 rw [p1,p2,b1,b2,O2 _ _ (by omega),l1,MV,List.getD_eq_getElem?_getD,List.getElem?_append_right (by omega),l1,MV]
 show _ ++ _ = _ ++ [_]
 have hz:cD [b] = b.toNat:=by simp [cD]
 rw [jj,hz,lB]
 show _ = _ ++ [MH ((MH (cD B)).toNat + _)]
 rw [ND, show cD B % 2 ^ 8 = cD B from MK hb]
theorem DL {l:List Bool} {b:Bool} (h:l.length % 8 = 0):(pk l).length = l.length / 8 ∧ pk (l ++ [b]) = pk l ++ [MH b.toNat]:=by
 refine ⟨by rw [ac]; omega,?_⟩
 rw [jk h,DK (l:=[b]) (by simp) (by simp)]
 simp [cD]
def nb (v n:Nat):List Bool:=lk [()] ((Mt n).map fun i=>v.testBit i)
theorem qd (v n:Nat):nb v n = (Mt n).map fun i=>v.testBit i:=aF _ _
theorem od (v n:Nat):(nb v n).length = n:=by rw [qd,LU,MQ]
theorem tB (v n:Nat):nb v (n + 1) = nb v n ++ [v.testBit n]:=by rw [qd,qd,NU,Mv]; rfl
theorem GH (v:Nat):nb v 0 = []:=qd v 0
theorem qe (v:Nat):∀ n,cD (nb v n) = v % 2 ^ n
 | 0=>by rw [GH]; simp [cD,PD]
 | n + 1=>by
  rw [tB,jj,od,qe v n]
  have e:cD [v.testBit n] = v / 2 ^ n % 2:=by
   rw [Nat.testBit_eq_decide_div_mod_eq]
   have:=Pl (v / 2 ^ n) (show 0 < 2 by decide)
   by_cases h:v / 2 ^ n % 2 = 1
   ·rw [h]; rfl
   ·rw [show v / 2 ^ n % 2 = 0 from by omega]; rfl
  rw [e,MZ,Nat.mod_mul]
def ET (B:List UInt8) (k:Nat):List Bool:=lk B ((Mt k).map fun i=>(B.getD (i / 8) jd).toNat.testBit (i % 8))
theorem wN (B:List UInt8) (k:Nat):ET B k = (Mt k).map fun i=>(B.getD (i / 8) jd).toNat.testBit (i % 8):=aF _ _
theorem ko (B:List UInt8) (k:Nat):(ET B k).length = k:=by rw [wN,LU,MQ]
theorem DM {B:List UInt8} {k:Nat} (hl:B.length = (k + 7) / 8) (ht:k % 8 ≠ 0 → (B.getD (k / 8) jd).toNat < 2 ^ (k % 8)):pk (ET B k) = B:=by
 apply List.ext_getElem?
 intro i
 rcases Mh i ((k + 7) / 8) with q | q
 ·rw [ii (by rw [ko]; exact q),List.getElem?_eq_getElem (by omega)]
  congr 1
  unfold ve
  have e:(Mm (8 * i) (ET B k)).take 8 = nb (B.getD i jd).toNat (min 8 (k - 8 * i)):=by
   apply List.ext_getElem?
   intro j
   rw [List.getElem?_take,List.getElem?_drop,wN,qd,List.getElem?_map,List.getElem?_map]
   by_cases hj:j < min 8 (k - 8 * i)
   ·rw [if_pos (by omega),List.getElem?_range (by omega),List.getElem?_range hj]
    show some ((B.getD ((8 * i + j) / 8) jd).toNat.testBit ((8 * i + j) % 8)) = some ((B.getD i jd).toNat.testBit j)
    rw [show (8 * i + j) / 8 = i from by omega,show (8 * i + j) % 8 = j from by omega]
   ·rw [List.getElem?_eq_none (l:=Mt (min 8 (k - 8 * i))) (by simpa using hj)]
    split
    ·rw [List.getElem?_eq_none (by simp; omega)]; rfl
    ·rfl
  rw [e,qe]
  have hx:B[i] = B.getD i jd:=by rw [List.getD_eq_getElem?_getD,List.getElem?_eq_getElem (by omega)]; rfl
  rw [hx]
  have hb:=(B.getD i jd).toNat_lt
  apply UInt8.toNat_inj.1
  rw [ND]
  rcases Mh (k - 8 * i) 8 with r | r
  ·have hk:i = k / 8:=by omega
   have h1:=ht (by omega)
   rw [← hk] at h1
   rw [show min 8 (k - 8 * i) = k % 8 from by omega,MK h1,MK hb]
  ·rw [show min 8 (k - 8 * i) = 8 from by omega,MK (show (B.getD i jd).toNat < 2 ^ 8 from hb),MK hb]
 ·rw [List.getElem?_eq_none (by rw [ac,ko]; exact q),List.getElem?_eq_none (by omega)]
theorem DN {l:List Bool} {m:Nat} (hm:m = (pk l).length) (h:0 < ((l.length:Nat):Int) % 8):¬ 0 < ((((pk l).getD (((m:Int) - 1).toNat * 1) jd).toNat:Nat):Int).fdiv (2 ^ min (((l.length:Nat):Int) % 8).toNat 8):=by
 rw [ac] at hm
 rw [show (((m:Int) - 1).toNat * 1) = l.length / 8 from by omega,show min (((l.length:Nat):Int) % 8).toNat 8 = l.length % 8 from by omega,List.getD_eq_getElem?_getD,ii (by omega)]
 show ¬ 0 < (((ve l (l.length / 8)).toNat:Nat):Int).fdiv _
 have hb:=gu ((l.drop (8 * (l.length / 8))).take 8)
 rw [LO,L9,show min 8 (l.length - 8 * (l.length / 8)) = l.length % 8 from by omega] at hb
 have hc:=wM l (l.length / 8)
 unfold ve
 rw [ND, MK hc,show (2:Int) ^ (l.length % 8) = ((2 ^ (l.length % 8):Nat):Int) from by push_cast; rfl,MY _ (NE _),← N3,OO hb]
 decide
theorem DO {B:List UInt8} {k:Nat} (hl:B.length = (k + 7) / 8) (h:k % 8 ≠ 0 → ¬ 0 < (((B.getD (((B.length:Nat):Int) - 1).toNat jd).toNat:Nat):Int).fdiv (2 ^ min ((k:Int) % 8).toNat 8)):pk (ET B k) = B:=by
 refine DM hl fun q=>?_
 have h:=h q
 rw [show (((B.length:Nat):Int) - 1).toNat = k / 8 from by omega,show min ((k:Int) % 8).toNat 8 = k % 8 from by omega,show (2:Int) ^ (k % 8) = ((2 ^ (k % 8):Nat):Int) from by push_cast; rfl,MY _ (NE _),← N3] at h
 have h0:(B.getD (k / 8) jd).toNat / 2 ^ (k % 8) = 0:=by
  generalize (B.getD (k / 8) jd).toNat / 2 ^ (k % 8) = Z at h ⊢; omega
 rcases Mh (B.getD (k / 8) jd).toNat (2 ^ (k % 8)) with r | r
 ·exact r
 ·have:=Nat.div_pos r (M7 _); omega
theorem BU {B:List UInt8} {m:Nat} {k:Int} (hm:m = B.length) (hN:∀ l:List Bool,l.length ≤ 8388608 → ¬ (k = l.length ∧ B = pk l)) (h0:¬ k < 0) (h1:¬ 8388608 < k) (h2:(m:Int) = (k + 7) / 8) (h3:¬ 0 < k % 8 ∨ ¬ 0 < (((B.getD (((m:Int) - 1).toNat * 1) jd).toNat:Nat):Int).fdiv (2 ^ min (k % 8).toNat 8)):False:=by
 obtain ⟨j,rfl⟩:=MD (show 0 ≤ k by omega)
 subst hm
 rw [Me] at h3
 refine hN (ET B j) (by rw [ko]; omega) ⟨by rw [ko],(DO (by omega) (fun q=>?_)).symm⟩
 rcases h3 with h3 | h3
 ·omega
 ·exact h3
abbrev BV (m:Nat) (l:List Bool):D:=.agg [.sl false m 1 ((pk l).map dB),nD l.length]
theorem zj  : SpecH false Tryz.prog 56 [aW] [] aW []:=by
 refine SpecH.run T_ok ai Tryz.func56 rfl rfl rfl trivial rfl 1000 64 (fun R ok=>(.s 6 (.out [] [] (zS) [] R (ok _ _ wr wr)))) (by kernel_rfl)
theorem wO (bs:List UInt8) (hn:bs.length ≤ 10000000):SpecH false Tryz.prog 56 [.sl true bs.length 1 (bs.map dB)] [] (.ref 0 0 0 bs.length 1) [⟨bs.map dB, 5, true⟩]:=by
 refine SpecH.run T_ok ai Tryz.func56 rfl rfl rfl ⟨ba _,trivial⟩ rfl 1000 64 (fun R ok=>(.s 9 (.chk (true && LH ((0 + length bs) * 1) 140737488355328) (by (refine LK ?_; (omega))) (.s 1 (.out [40] [40] (D.ref 0 0 0 (0 + length bs) 1) [Blk.mk (map dB bs) 5 true] R (ok _ _ (by (simp; done)) wr)))))) (by kernel_rfl)
theorem cb (bs:List UInt8) (n:Nat) (h1:n = bs.length) (hn:n ≤ 10000000):SpecH false Tryz.prog 56 [.sl false n 1 (bs.map dB)] [] (.ref 0 0 0 n 1) [⟨bs.map dB, 5, true⟩]:=by
 subst h1; exact uD.nilSplit zj (wO bs hn) id
theorem lr (l:List Bool) (m:Nat) (hm:m = (pk l).length) (hl:l.length ≤ 8388608):SpecH false Tryz.prog 43 [BV m l] [] (iD 0) []:=by
 have h9:=ac l
 refine SpecH.run T_ok ai Tryz.func43 rfl rfl rfl trivial rfl 1000 64 (fun R ok=>(.s 26 (.f (decide (8388608 < (↑(length l):Int))) (by (refine decide_eq_false ?_; (omega))) (.s 19 (.ow ((↑(length l):Int) + 7) (.s 3 (.opt (bh L5 (LZ L5 (NM ((↑(length l):Int) + 7) 8))) (zI (((↑(length l):Int) + 7) / 8)) (az (@bi  ((↑(length l):Int) + 7) (8) om om)) (.s 4 (.f ((m:Int) != ((↑(length l):Int) + 7) / 8) (by (simp <;> (omega))) (.s 8 (.opt (bh L5 (Nd (↑(length l):Int) 8)) (zI ((↑(length l):Int) % 8)) (az (@bP  ((↑(length l):Int)) (8) om)) (.s 6 (.br (decide (0 < (↑(length l):Int) % 8)) (fun p0=>have p0f:=aU p0; (.s 19 (.ow ((m:Int) - 1) (.s 2 (.chk (decide (0 ≤ (m:Int) - 1) && decide ((m:Int) - 1 < (m:Int)) && true) Lg (.s 3 (.opt ((map dB (pk l))[uM ((m:Int) - 1) * 1]?) (dB (getD (pk l) (uM ((m:Int) - 1) * 1) jd)) (au _ _ om) (.s 5 (.opt (bh OH (Mp (↑(LG (getD (pk l) (uM ((m:Int) - 1) * 1) jd)):Int) (2 ^ min (uM ((↑(length l):Int) % 8)) 8))) (bI (Mp (↑(LG (getD (pk l) (uM ((m:Int) - 1) * 1) jd)):Int) (2 ^ min (uM ((↑(length l):Int) % 8)) 8))) (cQ _ _) (.s 4 (.br (decide (0 < Mp (↑(LG (getD (pk l) (uM ((m:Int) - 1) * 1) jd)):Int) (2 ^ min (uM ((↑(length l):Int) % 8)) 8))) (fun p1=>have p1f:=aU p1; (.abs (by ( exact absurd bx (DN hm om))))) (fun p1=>have p1f:=aV p1; (.s 1 (.out [] [] (zI 0) [] R (ok _ _ wr wr))))))))))))))) (fun p0=>have p0f:=aV p0; (.s 23 (.out [] [] (zI 0) [] R (ok _ _ wr wr))))))))))))))))) (by kernel_rfl)
theorem DP (B:List UInt8) (m:Nat) (hm:m = B.length) (hM:m ≤ 100000000) (k:Int) (hN:∀ l:List Bool,l.length ≤ 8388608 → ¬ (k = l.length ∧ B = pk l)):SpecH false Tryz.prog 43 [.agg [.sl false m 1 (B.map dB),iD k]] [] (iD 8) []:=by
 refine SpecH.run T_ok ai Tryz.func43 rfl rfl rfl trivial rfl 1000 64 (fun R ok=>(.s 13 (.br (decide (k < 0)) (fun p0=>have p0f:=aU p0; (.s 25 (.out [] [] (zI 8) [] R (ok _ _ wr wr)))) (fun p0=>have p0f:=aV p0; (.s 12 (.br (decide (8388608 < k)) (fun p1=>have p1f:=aU p1; (.s 17 (.out [] [] (zI 8) [] R (ok _ _ wr wr)))) (fun p1=>have p1f:=aV p1; (.s 19 (.ow (k + 7) (.s 3 (.opt (bh L5 (LZ L5 (NM (k + 7) 8))) (zI ((k + 7) / 8)) (az (@bi  (k + 7) (8) om om)) (.s 4 (.br ((m:Int) != (k + 7) / 8) (fun p2=>have p2f:=pY p2; (.s 1 (.out [] [] (zI 8) [] R (ok _ _ wr wr)))) (fun p2=>have p2f:=pZ p2; (.s 8 (.opt (bh L5 (Nd k 8)) (zI (k % 8)) (az (@bP  (k) (8) om)) (.s 6 (.br (decide (0 < k % 8)) (fun p3=>have p3f:=aU p3; (.s 19 (.ow ((m:Int) - 1) (.s 2 (.chk (decide (0 ≤ (m:Int) - 1) && decide ((m:Int) - 1 < (m:Int)) && true) Lg (.s 3 (.opt ((map dB B)[uM ((m:Int) - 1) * 1]?) (dB (getD B (uM ((m:Int) - 1) * 1) jd)) (au _ _ om) (.s 4 (.chk (decide (0 ≤ k % 8)) (by (refine decide_eq_true ?_; (omega))) (.opt (bh OH (Mp (↑(LG (getD B (uM ((m:Int) - 1) * 1) jd)):Int) (2 ^ min (uM (k % 8)) 8))) (bI (Mp (↑(LG (getD B (uM ((m:Int) - 1) * 1) jd)):Int) (2 ^ min (uM (k % 8)) 8))) (cQ _ _) (.s 4 (.br (decide (0 < Mp (↑(LG (getD B (uM ((m:Int) - 1) * 1) jd)):Int) (2 ^ min (uM (k % 8)) 8))) (fun p4=>have p4f:=aU p4; (.s 1 (.out [] [] (zI 8) [] R (ok _ _ wr wr)))) (fun p4=>have p4f:=aV p4; (.abs (by ( exact BU hm hN om om om (.inr bx))))))))))))))))) (fun p3=>have p3f:=aV p3; (.abs (by ( exact BU hm hN om om om (.inl om))))))))))))))))))))))) (by kernel_rfl)
theorem wP {v n:Nat} (hv:v < 2 ^ n) (hn:n ≤ 32):((v:Int) % 18446744073709551616).fdiv (2 ^ min n 64) = 0:=by
 have h2:2 ^ n ≤ 2 ^ 32:=MB (by decide) hn
 rw [show min n 64 = n from by omega,show (v:Int) % 18446744073709551616 = v from by omega,show (2:Int) ^ n = ((2 ^ n:Nat):Int) from by push_cast; rfl,MY _ (NE _),← N3,OO hv]; rfl
theorem wQ {v n:Nat} (hv:v < 2 ^ n) (hn:n ≤ 32):((v:Int)).fdiv (2 ^ min n 64) = 0:=by
 have h:=wP hv hn
 have h2:2 ^ n ≤ 2 ^ 32:=MB (by decide) hn
 rwa [show (v:Int) % 18446744073709551616 = v from by omega] at h
theorem zk (X:List UInt8) {d:D} {j:Nat} (h:j = X.length):(Ni dB X ++ [d])[0 + j * 1]? = some d:=by
 rw [Mb,Me,h,List.getElem?_append_right (by rw [LU]; exact LV _),LU,MV]; rfl
def bz (l:List Bool) (v i:Nat):List Bool:=lk l (l ++ nb v i)
theorem lu (l:List Bool) (v i:Nat):bz l v i = l ++ nb v i:=aF _ _
theorem BW (l:List Bool) (v:Nat):bz l v 0 = l:=by rw [lu,GH,MA]
theorem bB (l:List Bool) (v i:Nat):(bz l v i).length = l.length + i:=by rw [lu,LJ,od]
theorem BX (l:List Bool) (v i:Nat):bz l v i ++ [v.testBit i] = bz l v (i + 1):=by rw [lu,lu,tB,Ma]
theorem vf (l:List Bool) (v i:Nat):(pk (bz l v i)).length = (l.length + i + 7) / 8:=by rw [ac,bB]
theorem BY {v i:Nat} (hi:i ≤ 32) (hv:v < 4294967296):IntKind.u32.wrap ((LS 32 ((v:Int).fdiv (2 ^ min i 32)) &&& LS 32 1).toNat:Int) % 256 = (((v.testBit i).toNat:Nat):Int):=by
 have hd:v / 2 ^ i ≤ v:=PN _ _
 rw [show min i 32 = i from by omega,show (2:Int) ^ i = ((2 ^ i:Nat):Int) from by push_cast; rfl,MY _ (NE _),← N3,Ps]
 generalize v / 2 ^ i = Y at *
 rw [jG 1 2 (by omega) (by decide) (by decide) (by decide)]
 omega
theorem wR {M:List UInt8} {o a:Nat} (ha:a < 256) (ho:o < M.length):aj (M.map dB) o [D.v (.int .u8 (a:Int))] = (M.set o (MH a)).map dB:=by
 apply List.ext_getElem?
 intro i
 rw [cj (by simp only [LU,Mu]; omega),List.getElem?_map,List.getElem?_map,List.getElem?_set]
 simp only [Mu]
 by_cases hi:o = i
 ·subst hi
  rw [if_pos (by omega),if_pos rfl,if_pos ho,MV]
  show some (D.v (.int .u8 (a:Int))) = some (dB (MH a))
  unfold dB; rw [ND]; congr 3; omega
 ·rw [if_neg (by omega),if_neg hi]
theorem GI {x:List Bool} (h:x.length % 8 ≠ 0):((pk x).getD (x.length / 8) jd).toNat < 2 ^ (x.length % 8):=by
 rw [List.getD_eq_getElem?_getD,ii (by omega)]
 show (ve x (x.length / 8)).toNat < _
 have hb:=gu ((x.drop (8 * (x.length / 8))).take 8)
 rw [LO,L9,show min 8 (x.length - 8 * (x.length / 8)) = x.length % 8 from by omega] at hb
 unfold ve
 rw [ND, MK (wM x _)]
 exact hb
theorem GJ {x:List Bool} {b:Bool} {L z:Int} (hL:L = x.length) (h:¬ L % 8 = 0) (hz:z = ((b.toNat:Nat):Int)):aj ((pk x).map dB) (L / 8).toNat [D.v (.int .u8 (((((pk x).getD (L / 8).toNat jd).toNat ||| (2 ^ min (L % 8).toNat 8 * z % 256).toNat:Nat)):Int))] = (pk (x ++ [b])).map dB:=by
 subst hL hz
 have h0:x.length % 8 ≠ 0:=by omega
 have hu:=GG (b:=b) h0
 have hl:=GI h0
 have hb:b.toNat ≤ 1:=Ox b
 rw [show (((x.length:Nat):Int) / 8).toNat = x.length / 8 from by omega,show min (((x.length:Nat):Int) % 8).toNat 8 = x.length % 8 from by omega]
 have hp:2 ^ (x.length % 8) ≤ 2 ^ 7:=MB (by decide) (by omega)
 have e:(2 ^ (x.length % 8) * ((b.toNat:Nat):Int) % 256).toNat = 2 ^ (x.length % 8) * b.toNat:=by
  rw [show (2:Int) ^ (x.length % 8) = ((2 ^ (x.length % 8):Nat):Int) from by push_cast; rfl]
  generalize 2 ^ (x.length % 8) = P at *
  cases b
  ·simp
  ·simp; omega
 rw [e,Nat.or_comm,← NZ hl,Nat.add_comm,hu.2]
 refine wR ?_ (by omega)
 have hm:2 ^ (x.length % 8) * b.toNat ≤ 2 ^ (x.length % 8) * 1:=N4 _ hb
 generalize 2 ^ (x.length % 8) * b.toNat = Q at *
 generalize 2 ^ (x.length % 8) = P at *
 omega
theorem GK {x:List Bool} {b:Bool} {L z:Int} (hL:L = x.length) (h:L % 8 = 0) (hz:z = ((b.toNat:Nat):Int)):aj ((pk x).map dB ++ [D.v (.int .u8 0)]) (L / 8).toNat [D.v (.int .u8 (0 + 2 ^ min (L % 8).toNat 8 * z))] = (pk (x ++ [b])).map dB:=by
 subst hL hz
 have h0:x.length % 8 = 0:=by omega
 have hu:=DL (b:=b) h0
 have hb:b.toNat ≤ 1:=Ox b
 rw [show (((x.length:Nat):Int) / 8).toNat = x.length / 8 from by omega,show min (((x.length:Nat):Int) % 8).toNat 8 = 0 from by omega,hu.2,Mv]
 have e:(pk x).map dB ++ [D.v (.int .u8 0)] = ((pk x) ++ [0]).map dB:=by rw [Mv]; rfl
 rw [e,show (0:Int) + 2 ^ 0 * ((b.toNat:Nat):Int) = ((b.toNat:Nat):Int) from by simp,wR (by omega) (by rw [LJ,Mu]; omega),O2 _ _ (by omega),hu.1,MV,Mv]
 rfl
theorem DQ {k g:Nat} {t:TypeId} {X Y:Nat} {a b:Int} (h1:X = Y) (h2:a = b):(⟨[D.ref k g 0 X 1,D.v (.int .i64 a)],t,false⟩:Blk) = ⟨[D.ref k g 0 Y 1,D.v (.int .i64 b)],t,false⟩:=by rw [h1,h2]
theorem GL (l:List Bool) (m:Nat) (hm:m = (pk l).length) (v n:Nat) (hn:n ≤ 32) (hv:v < 2 ^ n) (hl:l.length + n ≤ 8388608):SpecH false Tryz.prog 74 [BV m l,.v (.int .u32 (v:Int)),nD n] [] (.tup [.agg [.ref 0 0 0 (pk (bz l v n)).length 1,nD (l.length + n)],iD 0]) [⟨(pk (bz l v n)).map dB, 5, true⟩]:=by
 have h9:=ac l
 have h8:=wP hv hn
 have h4:=wQ hv hn
 have h5:v < 4294967296:=Mj hv (MB (n:=2) (by decide) hn)
 refine SpecH.run T_ok ai Tryz.func74 rfl rfl rfl ⟨ba _,trivial⟩ rfl 1000 64 (fun R ok=>(.s 10 (.cl 43 false [] (.fn DC (@lr (l) (m) om om)) (.s 22 (.t (decide ((n:Int) ≤ 32)) (by (refine decide_eq_true ?_; (omega))) (.s 2 (.opt (aw .u64 (v:Int)) (D.v (My .u64 (v:Int))) (bk om) (.s 5 (.opt (bh M5 (Mp (v:Int) (2 ^ min n 64))) (D.v (My .u64 (Mp (v:Int) (2 ^ min n 64)))) (cQ _ _) (.s 6 (.f (!Mp (v:Int) (2 ^ min n 64) == 0) (by (simp <;> (omega))) (.s 9 (.ow ((↑(length l):Int) + (n:Int)) (.s 2 (.f (decide (8388608 < (↑(length l):Int) + (n:Int))) (by (refine decide_eq_false ?_; (omega))) (.s 17 (.cl 56 false [] (.fn tw (@cb (pk l) (m) om om)) (.s 12 (.blk 296 296 (Blk.mk [D.ref 336 336 0 m 1,zN (length l)] 163 false) (Blk.mk [D.ref 336 336 0 (length (pk (bz l v 0))) 1,zN (length l + 0)] 163 false) (by ( rw [BW,← hm]; rfl)) (.blk 336 336 (Blk.mk (map dB (pk l)) 5 true) (Blk.mk (map dB (pk (bz l v 0))) 5 true) (by ( rw [BW]; done)) (Hn.inl T_ok ai false 52 0 (ay Tryz.prog 74 0) (fun (x:(i:Nat) ×' (hi:i ≤ n) ×' Unit)=>match x with | ⟨i,hi,_⟩=>CutS.mk [(1,ag v),(6,D.ptr 0 0 0),(9,D.ptr 8 8 0),(38,zN n),(39,nD i)] [⟨0,0,8,8,.b ⟨[zS,zI 0],26,false⟩⟩,⟨8,8,296,296,.b ⟨[(D.ref 16 16 (0) ((pk (bz l v i)).length) 1),nD (l.length + i)],163,false⟩⟩,⟨16,16,336,336,.b ⟨(pk (bz l v i)).map dB,5,true⟩⟩] 24) (fun (x:(i:Nat) ×' (hi:i ≤ n) ×' Unit)=>match x with | ⟨i,hi,_⟩=>n - i) [⟨Unit,.exit 0,fun x=>match x with | ()=>CutS.mk [(1,ag v),(6,D.ptr 0 0 0),(9,D.ptr 8 8 0),(38,zN n)] [⟨0,0,8,8,.b ⟨[zS,zI 0],26,false⟩⟩,⟨8,8,296,296,.b ⟨[(D.ref 16 16 (0) ((pk (bz l v n)).length) 1),nD (l.length + n)],163,false⟩⟩,⟨16,16,336,336,.b ⟨(pk (bz l v n)).map dB,5,true⟩⟩] 24⟩] 1000 64 (fun | ⟨i,hi,_⟩,Q,next1,last1=>(.s 2 (.br (decide ((i:Int) < (n:Int))) (fun p0=>have p0f:=aU p0; (.s 7 (.opt (bh Mo (Mp (v:Int) (2 ^ min i 32))) (uI (Mp (v:Int) (2 ^ min i 32))) (cQ _ _) (.s 15 (.opt (bh L5 (Nd (↑(length l + i):Int) 8)) (zI ((↑(length l + i):Int) % 8)) (az (@bP  ((↑(length l + i):Int)) (8) om)) (.s 2 (.br ((↑(length l + i):Int) % 8 == 0) (fun p1=>have p1f:=eq_of_beq p1; (.s 15 (.chk (true && LF (length (pk (bz l v i)) * 1) (length (map dB (pk (bz l v i)))) && true && true && true && true && LH ((length (pk (bz l v i)) + 1) * 1) 140737488355328) Lh (.s 35 (.opt (bh L5 (LZ L5 (NM (↑(length l + i):Int) 8))) (zI ((↑(length l + i):Int) / 8)) (az (@bi  ((↑(length l + i):Int)) (8) om om)) (.s 1 (.chk (true && decide ((↑(length l + i):Int) / 8 < (↑(length (pk (bz l v i)) + 1):Int))) IG (.s 2 (.opt ((map dB (pk (bz l v i)) ++ [bI 0])[0 + uM ((↑(length l + i):Int) / 8) * 1]?) (bI 0) (@zk (pk (bz l v i)) (bI 0) (uM ((↑(length l + i):Int) / 8)) (by ( have h7:=vf l v i; have h6:=vf l v (i + 1); omega))) (.s 3 (.opt (bh Mo (LZ Mo (↑(Mk (LS 32 (Mp (v:Int) (2 ^ min i 32)) &&& LS 32 1)):Int))) (uI (LZ Mo (↑(Mk (LS 32 (Mp (v:Int) (2 ^ min i 32)) &&& LS 32 1)):Int))) (cQ _ _) (.s 1 (.opt (aw .u8 (LZ Mo (↑(Mk (LS 32 (Mp (v:Int) (2 ^ min i 32)) &&& LS 32 1)):Int))) (bI (LZ Mo (↑(Mk (LS 32 (Mp (v:Int) (2 ^ min i 32)) &&& LS 32 1)):Int) % 256)) (aL _ _) (.s 13 (.opt (bh L5 (Nd (↑(length l + i):Int) 8)) (zI ((↑(length l + i):Int) % 8)) (az (@bP  ((↑(length l + i):Int)) (8) om)) (.s 2 (.opt (aw .u8 (2 ^ min (uM ((↑(length l + i):Int) % 8)) 8 * (LZ Mo (↑(Mk (LS 32 (Mp (v:Int) (2 ^ min i 32)) &&& LS 32 1)):Int) % 256))) (bI (2 ^ min (uM ((↑(length l + i):Int) % 8)) 8 * (LZ Mo (↑(Mk (LS 32 (Mp (v:Int) (2 ^ min i 32)) &&& LS 32 1)):Int) % 256))) (pU JV) (.s 2 (.opt (bh OH (LZ OH (↑(Mk (LS 8 0 ||| LS 8 (2 ^ min (uM ((↑(length l + i):Int) % 8)) 8 * (LZ Mo (↑(Mk (LS 32 (Mp (v:Int) (2 ^ min i 32)) &&& LS 32 1)):Int) % 256)))):Int))) (bI (0 + 2 ^ min (uM ((↑(length l + i):Int) % 8)) 8 * (LZ Mo (↑(Mk (LS 32 (Mp (v:Int) (2 ^ min i 32)) &&& LS 32 1)):Int) % 256))) (az (@pX 8 (256:Int) (0) (2 ^ min (uM ((↑(length l + i):Int) % 8)) 8 * (LZ Mo (↑(Mk (LS 32 (Mp (v:Int) (2 ^ min i 32)) &&& LS 32 1)):Int) % 256)) om JV om om JV)) (.s 1 (.chk (true && decide ((↑(length l + i):Int) / 8 < (↑(length (pk (bz l v i)) + 1):Int))) IG (.s 1 (.chk (true && LH (0 + uM ((↑(length l + i):Int) / 8) * 1 + 1) (length (map dB (pk (bz l v i)) ++ [bI 0]))) (by (simp;  have h7:=vf l v i; have h6:=vf l v (i + 1); omega)) (.lst (aj (map dB (pk (bz l v i)) ++ [bI 0]) (0 + uM ((↑(length l + i):Int) / 8) * 1) [bI (0 + 2 ^ min (uM ((↑(length l + i):Int) % 8)) 8 * (LZ Mo (↑(Mk (LS 32 (Mp (v:Int) (2 ^ min i 32)) &&& LS 32 1)):Int) % 256))]) (aj (map dB (pk (bz l v i)) ++ [bI 0]) (uM ((↑(length l + i):Int) / 8)) [bI (0 + 2 ^ min (uM ((↑(length l + i):Int) % 8)) 8 * (LZ Mo (↑(Mk (LS 32 (Mp (v:Int) (2 ^ min i 32)) &&& LS 32 1)):Int) % 256))]) (by (simp; done)) (.s 13 (.ow ((↑(length l + i):Int) + 1) (.s 12 (.ow ((i:Int) + 1) (.s 1 (.val 39 (zI ((i:Int) + 1)) (zN (i + 1)) (by (refine aO ?_; (omega))) (.blk 8 8 (Blk.mk [D.ref 200 200 0 (length (pk (bz l v i)) + 1) 1,zI ((↑(length l + i):Int) + 1)] 163 false) (Blk.mk [D.ref 200 200 0 (length (pk (bz l v (i + 1)))) 1,zN (length l + (i + 1))] 163 false) Li (.blk 200 200 (Blk.mk (aj (map dB (pk (bz l v i)) ++ [bI 0]) (uM ((↑(length l + i):Int) / 8)) [bI (0 + 2 ^ min (uM ((↑(length l + i):Int) % 8)) 8 * (LZ Mo (↑(Mk (LS 32 (Mp (v:Int) (2 ^ min i 32)) &&& LS 32 1)):Int) % 256))]) 5 true) (Blk.mk (map dB (pk (bz l v (i + 1)))) 5 true) (by ( refine aC (Pa (GK (by rw [bB]) om (BY om om)) ?_); rw [BX])) (Hn.next next1 ⟨(i + 1),om,⟨⟩⟩ (by show n - (i + 1) < n - i; clear next1 last1; omega) [(0,0),(8,8),(200,200)] ro))))))))))))))))))))))))))))))))) (fun p1=>have p1f:=ar p1; (.s 25 (.opt (bh L5 (LZ L5 (NM (↑(length l + i):Int) 8))) (zI ((↑(length l + i):Int) / 8)) (az (@bi  ((↑(length l + i):Int)) (8) om om)) (.s 1 (.chk (true && decide ((↑(length l + i):Int) / 8 < (↑(length (pk (bz l v i))):Int))) IG (.s 2 (.opt ((map dB (pk (bz l v i)))[0 + uM ((↑(length l + i):Int) / 8) * 1]?) (dB (getD (pk (bz l v i)) (0 + uM ((↑(length l + i):Int) / 8) * 1) jd)) (au _ _ (by ( have h7:=vf l v i; have h6:=vf l v (i + 1); omega))) (.s 3 (.opt (bh Mo (LZ Mo (↑(Mk (LS 32 (Mp (v:Int) (2 ^ min i 32)) &&& LS 32 1)):Int))) (uI (LZ Mo (↑(Mk (LS 32 (Mp (v:Int) (2 ^ min i 32)) &&& LS 32 1)):Int))) (cQ _ _) (.s 1 (.opt (aw .u8 (LZ Mo (↑(Mk (LS 32 (Mp (v:Int) (2 ^ min i 32)) &&& LS 32 1)):Int))) (bI (LZ Mo (↑(Mk (LS 32 (Mp (v:Int) (2 ^ min i 32)) &&& LS 32 1)):Int) % 256)) (aL _ _) (.s 13 (.opt (bh L5 (Nd (↑(length l + i):Int) 8)) (zI ((↑(length l + i):Int) % 8)) (az (@bP  ((↑(length l + i):Int)) (8) om)) (.s 2 (.opt (aw .u8 (2 ^ min (uM ((↑(length l + i):Int) % 8)) 8 * (LZ Mo (↑(Mk (LS 32 (Mp (v:Int) (2 ^ min i 32)) &&& LS 32 1)):Int) % 256))) (bI (2 ^ min (uM ((↑(length l + i):Int) % 8)) 8 * (LZ Mo (↑(Mk (LS 32 (Mp (v:Int) (2 ^ min i 32)) &&& LS 32 1)):Int) % 256) % 256)) (aL _ _) (.s 2 (.opt (bh OH (LZ OH (↑(Mk (LS 8 (↑(LG (getD (pk (bz l v i)) (0 + uM ((↑(length l + i):Int) / 8) * 1) jd)):Int) ||| LS 8 (2 ^ min (uM ((↑(length l + i):Int) % 8)) 8 * (LZ Mo (↑(Mk (LS 32 (Mp (v:Int) (2 ^ min i 32)) &&& LS 32 1)):Int) % 256) % 256))):Int))) (dM (LG (getD (pk (bz l v i)) (0 + uM ((↑(length l + i):Int) / 8) * 1) jd) ||| uM (2 ^ min (uM ((↑(length l + i):Int) % 8)) 8 * (LZ Mo (↑(Mk (LS 32 (Mp (v:Int) (2 ^ min i 32)) &&& LS 32 1)):Int) % 256) % 256))) (az (@pW  ((↑(LG (getD (pk (bz l v i)) (0 + uM ((↑(length l + i):Int) / 8) * 1) jd)):Int)) (2 ^ min (uM ((↑(length l + i):Int) % 8)) 8 * (LZ Mo (↑(Mk (LS 32 (Mp (v:Int) (2 ^ min i 32)) &&& LS 32 1)):Int) % 256) % 256) (by (exact fO _ (by decide) (by decide))) om)) (.s 1 (.chk (true && decide ((↑(length l + i):Int) / 8 < (↑(length (pk (bz l v i))):Int))) IG (.s 1 (.chk (true && LH (0 + uM ((↑(length l + i):Int) / 8) * 1 + 1) (length (map dB (pk (bz l v i))))) Lh (.lst (aj (map dB (pk (bz l v i))) (0 + uM ((↑(length l + i):Int) / 8) * 1) [dM (LG (getD (pk (bz l v i)) (0 + uM ((↑(length l + i):Int) / 8) * 1) jd) ||| uM (2 ^ min (uM ((↑(length l + i):Int) % 8)) 8 * (LZ Mo (↑(Mk (LS 32 (Mp (v:Int) (2 ^ min i 32)) &&& LS 32 1)):Int) % 256) % 256))]) (aj (map dB (pk (bz l v i))) (uM ((↑(length l + i):Int) / 8)) [dM (LG (getD (pk (bz l v i)) (uM ((↑(length l + i):Int) / 8)) jd) ||| uM (2 ^ min (uM ((↑(length l + i):Int) % 8)) 8 * (LZ Mo (↑(Mk (LS 32 (Mp (v:Int) (2 ^ min i 32)) &&& LS 32 1)):Int) % 256) % 256))]) (by (simp; done)) (.s 13 (.ow ((↑(length l + i):Int) + 1) (.s 12 (.ow ((i:Int) + 1) (.s 1 (.val 39 (zI ((i:Int) + 1)) (zN (i + 1)) (by (refine aO ?_; (omega))) (.blk 8 8 (Blk.mk [D.ref 16 16 0 (length (pk (bz l v i))) 1,zI ((↑(length l + i):Int) + 1)] 163 false) (Blk.mk [D.ref 16 16 0 (length (pk (bz l v (i + 1)))) 1,zN (length l + (i + 1))] 163 false) Li (.blk 16 16 (Blk.mk (aj (map dB (pk (bz l v i))) (uM ((↑(length l + i):Int) / 8)) [dM (LG (getD (pk (bz l v i)) (uM ((↑(length l + i):Int) / 8)) jd) ||| uM (2 ^ min (uM ((↑(length l + i):Int) % 8)) 8 * (LZ Mo (↑(Mk (LS 32 (Mp (v:Int) (2 ^ min i 32)) &&& LS 32 1)):Int) % 256) % 256))]) 5 true) (Blk.mk (map dB (pk (bz l v (i + 1)))) 5 true) (by ( refine aC (Pa (GJ (by rw [bB]) om (BY om om)) ?_); rw [BX])) (Hn.next next1 ⟨(i + 1),om,⟨⟩⟩ (by show n - (i + 1) < n - i; clear next1 last1; omega) [(0,0),(8,8),(16,16)] ro)))))))))))))))))))))))))))))))))))))) (fun p0=>have p0f:=aV p0; (.blk 8 8 (Blk.mk [D.ref 16 16 0 (length (pk (bz l v i))) 1,zN (length l + i)] 163 false) (Blk.mk [D.ref 16 16 0 (length (pk (bz l v n))) 1,zN (length l + n)] 163 false) (by (rw [show i = n from by (omega)])) (.blk 16 16 (Blk.mk (map dB (pk (bz l v i))) 5 true) (Blk.mk (map dB (pk (bz l v n))) 5 true) (by (rw [show i = n from by (omega)])) (Hn.last last1 0 (():Unit) rfl [(0,0),(8,8),(16,16)] ro))))))) (fun | ⟨i,hi,_⟩=>by kernel_rfl) ⟨(0),om,⟨⟩⟩ [(8,8),(296,296),(336,336)] ro (b5 (fun | ()=>(.s 16 (.out [16] [16] (D.tup [D.agg [D.ref 0 0 0 (length (pk (bz l v n))) 1,zN (length l + n)],zI 0]) [Blk.mk (map dB (pk (bz l v n))) 5 true] R (ok _ _ wr wr)))))))))))))))))))))))))) (by kernel_rfl)
end Vp
end Go.Proofs.YtefjnofhgkjpmaaGreat
namespace Go.Proofs.YtefjnofhgkjpmaaGreat
open Go.RowKit Go.Bw Go.Vx
open List (length getD map take drop flatMap replicate)
namespace Vp
def eH (v:Nat):Nat → Nat
 | 0=>0
 | i + 1=>2 * eH v i + (v.testBit i).toNat
def vg (v n i:Nat):Nat:=lk [()] (2 ^ (n - i) * eH v i)
theorem oe (v n i:Nat):vg v n i = 2 ^ (n - i) * eH v i:=aF _ _
theorem rX (v:Nat):∀ n,eH v n < 2 ^ n
 | 0=>NI
 | n + 1=>by
  have h:=rX v n
  have h2:=Ox (v.testBit n)
  rw [eH,MZ]; omega
theorem wS {v n i:Nat} (h:i ≤ n):vg v n i < 2 ^ n:=by
 rw [oe]
 have h2:=rX v i
 have e:2 ^ n = 2 ^ (n - i) * 2 ^ i:=by rw [← Pb]; congr 1; omega
 rw [e]
 exact Nat.mul_lt_mul_of_pos_left h2 (M7 _)
theorem GM (v n:Nat):vg v n n = eH v n:=by rw [oe,MV,Nat.pow_zero,Nat.one_mul]
theorem JW {v n i:Nat} {X z:Int} (hi:i < n) (hn:n ≤ 32) (hX:X = ((vg v n i:Nat):Int)) (hz:z = (((v.testBit i).toNat:Nat):Int)):IntKind.u32.wrap ((LS 32 X ||| LS 32 (2 ^ min ((n:Int) - 1 - (i:Int)).toNat 32 * z % 4294967296)).toNat:Int) = ((vg v n (i + 1):Nat):Int):=by
 subst hX hz
 have h1:=wS (v:=v) (n:=n) (i:=i) (by omega)
 have h2:=wS (v:=v) (n:=n) (i:=i + 1) (by omega)
 have h3:2 ^ n ≤ 2 ^ 32:=MB (by decide) hn
 have hb:=Ox (v.testBit i)
 have e1:2 ^ (n - i) = 2 * 2 ^ (n - (i + 1)):=by rw [show n - i = (n - (i + 1)) + 1 from by omega,MZ,M8]
 have e2:vg v n (i + 1) = 2 ^ (n - i) * eH v i + 2 ^ (n - (i + 1)) * (v.testBit i).toNat:=by
  rw [oe,eH,Ny,e1,← MR,M8 (2 ^ (n - (i + 1))) 2]
 have e3:2 ^ (n - (i + 1)) * (v.testBit i).toNat < 2 ^ (n - i):=by
  have:2 ^ (n - (i + 1)) * (v.testBit i).toNat ≤ 2 ^ (n - (i + 1)) * 1:=N4 _ hb
  have h5:=M7 (n - (i + 1))
  omega
 have h6:2 ^ (n - (i + 1)) * (v.testBit i).toNat ≤ 4294967295:=by rw [e2] at h2; omega
 rw [show min ((n:Int) - 1 - (i:Int)).toNat 32 = n - (i + 1) from by omega,show (2:Int) ^ (n - (i + 1)) * (((v.testBit i).toNat:Nat):Int) = ((2 ^ (n - (i + 1)) * (v.testBit i).toNat:Nat):Int) from by push_cast; rfl,show ((2 ^ (n - (i + 1)) * (v.testBit i).toNat:Nat):Int) % 4294967296 = ((2 ^ (n - (i + 1)) * (v.testBit i).toNat:Nat):Int) from by omega]
 rw [oe] at h1 ⊢
 rw [e2] at h2 ⊢
 have h4:2 ^ (n - i) * eH v i ≤ 4294967295 ∧ 2 ^ (n - (i + 1)) * (v.testBit i).toNat ≤ 4294967295:=by omega
 rw [uT (by omega) (by omega),M4,M4,← NZ e3]
theorem DR {v i:Nat} (hi:i ≤ 32) (hv:v < 4294967296):IntKind.u32.wrap ((LS 32 ((v:Int).fdiv (2 ^ min i 32)) &&& LS 32 1).toNat:Int) = (((v.testBit i).toNat:Nat):Int):=by
 have hd:v / 2 ^ i ≤ v:=PN _ _
 rw [show min i 32 = i from by omega,show (2:Int) ^ i = ((2 ^ i:Nat):Int) from by push_cast; rfl,MY _ (NE _),← N3,Ps]
 generalize v / 2 ^ i = Y at *
 rw [jG 1 2 (by omega) (by decide) (by decide) (by decide)]
 omega
theorem bE (v n:Nat) (hn:n ≤ 32) (hv:v < 2 ^ n):SpecH false Tryz.prog 152 [.v (.int .u32 (v:Int)),nD n] [] (.tup [.v (.int .u32 ((eH v n:Nat):Int)),iD 0]) []:=by
 have h8:=wP hv hn
 have h4:=wQ hv hn
 have h5:v < 4294967296:=Mj hv (MB (n:=2) (by decide) hn)
 refine SpecH.run T_ok ai Tryz.func152 rfl rfl rfl trivial rfl 1000 64 (fun R ok=>(.s 19 (.t (decide ((n:Int) ≤ 32)) (by (refine decide_eq_true ?_; (omega))) (.s 2 (.opt (aw .u64 (v:Int)) (D.v (My .u64 (v:Int))) (bk om) (.s 5 (.opt (bh M5 (Mp (v:Int) (2 ^ min n 64))) (D.v (My .u64 (Mp (v:Int) (2 ^ min n 64)))) (cQ _ _) (.s 6 (.f (!Mp (v:Int) (2 ^ min n 64) == 0) (by (simp <;> (omega))) (.s 2 (Hn.inl T_ok ai false 28 0 (ay Tryz.prog 152 0) (fun (x:(i:Nat) ×' (hi:i ≤ n) ×' Unit)=>match x with | ⟨i,hi,_⟩=>CutS.mk [(0,ag v),(1,zN n),(4,.v (.int .u32 ((vg v n i:Nat):Int))),(11,zN n),(12,nD i)] [] 0) (fun (x:(i:Nat) ×' (hi:i ≤ n) ×' Unit)=>match x with | ⟨i,hi,_⟩=>n - i) [⟨Unit,.exit 0,fun x=>match x with | ()=>CutS.mk [(0,ag v),(1,zN n),(4,.v (.int .u32 ((eH v n:Nat):Int))),(11,zN n)] [] 0⟩] 1000 64 (fun | ⟨i,hi,_⟩,Q,next1,last1=>(.s 2 (.br (decide ((i:Int) < (n:Int))) (fun p0=>have p0f:=aU p0; (.s 7 (.opt (bh Mo (Mp (v:Int) (2 ^ min i 32))) (uI (Mp (v:Int) (2 ^ min i 32))) (cQ _ _) (.s 2 (.opt (bh Mo (LZ Mo (↑(Mk (LS 32 (Mp (v:Int) (2 ^ min i 32)) &&& LS 32 1)):Int))) (uI (LZ Mo (↑(Mk (LS 32 (Mp (v:Int) (2 ^ min i 32)) &&& LS 32 1)):Int))) (cQ _ _) (.s 3 (.ow ((n:Int) - 1) (.s 3 (.ow ((n:Int) - 1 - (i:Int)) (.s 1 (.chk (decide (0 ≤ (n:Int) - 1 - (i:Int))) (by (refine decide_eq_true ?_; (omega))) (.opt (aw .u32 (2 ^ min (uM ((n:Int) - 1 - (i:Int))) 32 * LZ Mo (↑(Mk (LS 32 (Mp (v:Int) (2 ^ min i 32)) &&& LS 32 1)):Int))) (uI (2 ^ min (uM ((n:Int) - 1 - (i:Int))) 32 * LZ Mo (↑(Mk (LS 32 (Mp (v:Int) (2 ^ min i 32)) &&& LS 32 1)):Int) % 4294967296)) (aL _ _) (.s 2 (.opt (bh Mo (LZ Mo (↑(Mk (LS 32 (↑(vg v n i):Int) ||| LS 32 (2 ^ min (uM ((n:Int) - 1 - (i:Int))) 32 * LZ Mo (↑(Mk (LS 32 (Mp (v:Int) (2 ^ min i 32)) &&& LS 32 1)):Int) % 4294967296))):Int))) (uI (LZ Mo (↑(Mk (LS 32 (↑(vg v n i):Int) ||| LS 32 (2 ^ min (uM ((n:Int) - 1 - (i:Int))) 32 * LZ Mo (↑(Mk (LS 32 (Mp (v:Int) (2 ^ min i 32)) &&& LS 32 1)):Int) % 4294967296))):Int))) (cQ _ _) (.s 3 (.ow ((i:Int) + 1) (.s 1 (.val 4 (uI (LZ Mo (↑(Mk (LS 32 (↑(vg v n i):Int) ||| LS 32 (2 ^ min (uM ((n:Int) - 1 - (i:Int))) 32 * LZ Mo (↑(Mk (LS 32 (Mp (v:Int) (2 ^ min i 32)) &&& LS 32 1)):Int) % 4294967296))):Int))) (ag (vg v n (i + 1))) (by ( exact aO (JW om hn rfl (DR om om)))) (.val 12 (zI ((i:Int) + 1)) (zN (i + 1)) (by (refine aO ?_; (omega))) (Hn.next next1 ⟨(i + 1),om,⟨⟩⟩ (by show n - (i + 1) < n - i; clear next1 last1; omega) [] ro)))))))))))))))))))) (fun p0=>have p0f:=aV p0; (.val 4 (ag (vg v n i)) (ag (eH v n)) (by (rw [show i = n from by (omega),GM])) (Hn.last last1 0 (():Unit) rfl [] ro)))))) (fun | ⟨i,hi,_⟩=>by kernel_rfl) ⟨(0),om,⟨⟩⟩ [] ro (b5 (fun | ()=>(.s 3 (.out [] [] (D.tup [ag (eH v n),zI 0]) [] R (ok _ _ wr wr)))))))))))))))) (by kernel_rfl)
end Vp
end Go.Proofs.YtefjnofhgkjpmaaGreat
namespace Go.Proofs.YtefjnofhgkjpmaaGreat
open Go.RowKit Go.Bw Go.Vx
namespace Vp
def cP (x:Nat):D:=.v (.int .u32 ((x:Nat):Int))
def dn (x:Nat):Nat → Nat
 | 0=>x
 | i + 1=>dn x i / 2
theorem qf (x:Nat):∀ i,dn x i = x / 2 ^ i
 | 0=>(Nat.div_one x).symm
 | i + 1=>by rw [dn,qf x i,Nat.div_div_eq_div_mul,MZ]
end Vp
end Go.Proofs.YtefjnofhgkjpmaaGreat
namespace Go.Proofs.YtefjnofhgkjpmaaGreat
open Go.RowKit Go.Bw Go.Vx
namespace Vp
theorem dV {v:Nat} (h:v ≤ 15):dn 32768 v = 2 ^ (15 - v):=by
 rw [qf,show (32768:Nat) = 2 ^ 15 from rfl,Nat.pow_div h (by decide)]
end Vp
end Go.Proofs.YtefjnofhgkjpmaaGreat
namespace Go.Proofs.YtefjnofhgkjpmaaGreat
open Go.RowKit Go.Bw Go.Vx
namespace Vp
def uX (l:List UInt8):Nat → Nat
 | 0=>0
 | n + 1=>uX l n + (if n = 0 then 0 else (ef l n l.length).length * dn 32768 n)
def Lj (l:List UInt8) (n k:Nat):Nat:=lk l (uX l n + (if n = 0 then 0 else (ef l n k).length * dn 32768 n))
theorem DS (l:List UInt8) (n k:Nat):Lj l n k = uX l n + (if n = 0 then 0 else (ef l n k).length * dn 32768 n):=aF _ _
def qg (l:List UInt8) (j:Nat):Nat:=Lj l (l.getD j jd).toNat j / dn 32768 (l.getD j jd).toNat
def JX (l:List UInt8) (n k j:Nat):Nat × Nat :=
 if (l.getD j jd).toNat ≠ 0 ∧ ((l.getD j jd).toNat < n ∨ (l.getD j jd).toNat = n ∧ j < k) then (qg l j,(l.getD j jd).toNat) else (0,0)
def md (l:List UInt8) (n k:Nat):List (Nat × Nat):=lk l ((Mt l.length).map (JX l n k))
theorem BZ (l:List UInt8) (n k:Nat):md l n k = (Mt l.length).map (JX l n k):=aF _ _
def ae (l:List UInt8):List (Nat × Nat):=lk l (md l 16 0)
theorem wT (l:List UInt8):ae l = md l 16 0:=aF _ _
def jI (c:Nat × Nat):List D:=[cP c.1,ga c.2]
theorem DT (l:List UInt8) (n k:Nat):(md l n k).length = l.length:=by rw [BZ,LU,MQ]
theorem kp (f:Nat × Nat → List D) (hf:∀ c,(f c).length = 2):∀ (xs:List (Nat × Nat)) (k:Nat),(xs.flatMap f)[2 * k]? = (xs[k]?).bind (fun c=>(f c)[0]?) ∧ (xs.flatMap f)[2 * k + 1]? = (xs[k]?).bind (fun c=>(f c)[1]?)
 | [],k=>by simp
 | c :: r,0=>by
  rw [MN]
  exact ⟨by rw [List.getElem?_append_left (by rw [hf]; omega)]; rfl,by rw [List.getElem?_append_left (by rw [hf]; omega)]; rfl⟩
 | c :: r,k + 1=>by
  have ih:=kp f hf r k
  rw [MN]
  refine ⟨?_,?_⟩
  ·rw [List.getElem?_append_right (by rw [hf]; omega),hf,show 2 * (k + 1) - 2 = 2 * k from by omega,ih.1]; rfl
  ·rw [List.getElem?_append_right (by rw [hf]; omega),hf,show 2 * (k + 1) + 1 - 2 = 2 * k + 1 from by omega,ih.2]; rfl
theorem zm {xs:List (Nat × Nat)} {k o:Nat} {c:Nat × Nat} (hk:k < xs.length) (ho:o = 2 * k):aj (xs.flatMap jI) o (jI c) = (xs.set k c).flatMap jI:=by
 have hl:∀ ys:List (Nat × Nat),(ys.flatMap jI).length = 2 * ys.length:=fun ys=>by rw [bl (k:=2) (fun _=>rfl)]; omega
 subst ho
 apply List.ext_getElem?
 intro i
 rw [cj (by rw [hl]; show 2 * k + 2 ≤ _; omega)]
 have hd:∃ j,i = 2 * j ∨ i = 2 * j + 1:=⟨i / 2,by omega⟩
 obtain ⟨j,hj⟩:=hd
 have g1:=kp jI (fun _=>rfl) xs j
 have g2:=kp jI (fun _=>rfl) (xs.set k c) j
 show (if 2 * k ≤ i ∧ i < 2 * k + 2 then (jI c)[i - 2 * k]? else (xs.flatMap jI)[i]?) = _
 by_cases e:k = j
 ·subst e
  rw [List.getElem?_set,if_pos rfl,if_pos hk] at g2
  rcases hj with rfl | rfl
  ·rw [if_pos (by omega),g2.1,MV]; rfl
  ·rw [if_pos (by omega),g2.2,NO]; rfl
 ·rw [List.getElem?_set,if_neg e] at g2
  rw [if_neg (by omega)]
  rcases hj with rfl | rfl
  ·rw [g1.1,g2.1]
  ·rw [g1.2,g2.2]
theorem DU (n:Nat):cu [D.v (.int .u32 0),D.v (.int .u8 0)] (n * 2) = (LX n ((0,0):Nat × Nat)).flatMap jI:=by
 apply List.ext_getElem?
 intro i
 unfold cu
 rw [List.getElem?_map]
 obtain ⟨j,hj⟩:∃ j,i = 2 * j ∨ i = 2 * j + 1:=⟨i / 2,by omega⟩
 have g:=kp jI (fun _=>rfl) (LX n ((0,0):Nat × Nat)) j
 rw [List.getElem?_replicate] at g
 by_cases h:j < n
 ·rw [if_pos h] at g
  rcases hj with rfl | rfl
  ·rw [List.getElem?_range (by omega),g.1]
   show some (PV _ (2 * j % 2) jd) = _
   rw [show 2 * j % 2 = 0 from by omega]; rfl
  ·rw [List.getElem?_range (by omega),g.2]
   show some (PV _ ((2 * j + 1) % 2) jd) = _
   rw [show (2 * j + 1) % 2 = 1 from by omega]; rfl
 ·rw [if_neg h] at g
  rcases hj with rfl | rfl
  ·rw [List.getElem?_eq_none (by rw [MQ]; omega),g.1]; rfl
  ·rw [List.getElem?_eq_none (by rw [MQ]; omega),g.2]; rfl
theorem qh {a:Nat} (h:a ≤ 15):1 ≤ dn 32768 a:=by rw [dV h]; exact M7 _
end Vp
end Go.Proofs.YtefjnofhgkjpmaaGreat
namespace Go.Proofs.YtefjnofhgkjpmaaGreat
open Go.RowKit Go.Bw Go.Vx
open List (length getD map take drop flatMap replicate)
namespace Vp
theorem DV {p:Prop} (h:p:=by ((refine aK ?_ ?_) <;> (repeat' (first | (refine aK ?_ ?_) | (with_reducible rfl) | (refine decide_eq_true ?_) | (refine Nat.ble_eq_true_of_le ?_) | (refine eT ?_))) <;> (omega))):p:=h
theorem GN (l:List UInt8):aJ l 0 = 0:=by rw [ll]; rfl
theorem og {l:List UInt8} {m:Nat} (hm:m ≤ 15) (h:cG l m = 0):cG l 15 = 0 ∧ dm l 15 = false:=by
 have h0:=eU h
 have e3:dm l 15 = false:=kn fun i z=>by have:=eG h0.2.1 z; omega
 refine ⟨?_,e3⟩
 rw [iI] at *
 unfold rU at *
 rw [e3,if_neg (by omega),if_neg (by decide)]
 rw [if_neg (by omega),if_neg (by rw [h0.2.1]; decide)] at h
 exact h
theorem rY (l:List UInt8) (q p:Nat) (hq:q = (cW l).length) (hp:p = (cW l).length) (hQ:q ≤ 320):SpecH false Tryz.prog 195 [BP q l,BP p l] [] (bD true) []:=by
 refine SpecH.run T_ok ai Tryz.func195 rfl rfl rfl trivial rfl 1000 64 (fun R ok=>(.s 23 (.t ((↑(aJ l 0):Int) == (↑(aJ l 0):Int) && ((↑(aJ l 1):Int) == (↑(aJ l 1):Int) && ((↑(aJ l 2):Int) == (↑(aJ l 2):Int) && ((↑(aJ l 3):Int) == (↑(aJ l 3):Int) && ((↑(aJ l 4):Int) == (↑(aJ l 4):Int) && ((↑(aJ l 5):Int) == (↑(aJ l 5):Int) && ((↑(aJ l 6):Int) == (↑(aJ l 6):Int) && ((↑(aJ l 7):Int) == (↑(aJ l 7):Int) && ((↑(aJ l 8):Int) == (↑(aJ l 8):Int) && ((↑(aJ l 9):Int) == (↑(aJ l 9):Int) && ((↑(aJ l 10):Int) == (↑(aJ l 10):Int) && ((↑(aJ l 11):Int) == (↑(aJ l 11):Int) && ((↑(aJ l 12):Int) == (↑(aJ l 12):Int) && ((↑(aJ l 13):Int) == (↑(aJ l 13):Int) && ((↑(aJ l 14):Int) == (↑(aJ l 14):Int) && ((↑(aJ l 15):Int) == (↑(aJ l 15):Int) && true)))))))))))))))) DV (.s 24 (.f ((q:Int) != (p:Int)) (by (simp <;> (omega))) (.s 3 (Hn.inl T_ok ai false 26 112 (ay Tryz.prog 199 0) (fun (x:(i:Nat) ×' (hi:i ≤ q) ×' Unit)=>match x with | ⟨i,hi,_⟩=>CutS.mk [(0,D.sl false q 1 (map nD (cW l))),(1,D.sl false p 1 (map nD (cW l))),(12,zN q),(13,nD i)] [⟨0,0,0,0,.b ⟨[zN (aJ l 0),zN (aJ l 1),zN (aJ l 2),zN (aJ l 3),zN (aJ l 4),zN (aJ l 5),zN (aJ l 6),zN (aJ l 7),zN (aJ l 8),zN (aJ l 9),zN (aJ l 10),zN (aJ l 11),zN (aJ l 12),zN (aJ l 13),zN (aJ l 14),zN (aJ l 15),D.sl false q 1 (map nD (cW l))],154,false⟩⟩,⟨8,8,8,8,.b ⟨[zN (aJ l 0),zN (aJ l 1),zN (aJ l 2),zN (aJ l 3),zN (aJ l 4),zN (aJ l 5),zN (aJ l 6),zN (aJ l 7),zN (aJ l 8),zN (aJ l 9),zN (aJ l 10),zN (aJ l 11),zN (aJ l 12),zN (aJ l 13),zN (aJ l 14),zN (aJ l 15),D.sl false p 1 (map nD (cW l))],154,false⟩⟩] 128) (fun (x:(i:Nat) ×' (hi:i ≤ q) ×' Unit)=>match x with | ⟨i,hi,_⟩=>q - i) [⟨Unit,.exit 0,fun x=>match x with | ()=>CutS.mk [(0,D.sl false q 1 (map nD (cW l))),(1,D.sl false p 1 (map nD (cW l))),(12,zN q)] [⟨0,0,0,0,.b ⟨[zN (aJ l 0),zN (aJ l 1),zN (aJ l 2),zN (aJ l 3),zN (aJ l 4),zN (aJ l 5),zN (aJ l 6),zN (aJ l 7),zN (aJ l 8),zN (aJ l 9),zN (aJ l 10),zN (aJ l 11),zN (aJ l 12),zN (aJ l 13),zN (aJ l 14),zN (aJ l 15),D.sl false q 1 (map nD (cW l))],154,false⟩⟩,⟨8,8,8,8,.b ⟨[zN (aJ l 0),zN (aJ l 1),zN (aJ l 2),zN (aJ l 3),zN (aJ l 4),zN (aJ l 5),zN (aJ l 6),zN (aJ l 7),zN (aJ l 8),zN (aJ l 9),zN (aJ l 10),zN (aJ l 11),zN (aJ l 12),zN (aJ l 13),zN (aJ l 14),zN (aJ l 15),D.sl false p 1 (map nD (cW l))],154,false⟩⟩] 128⟩] 1000 64 (fun | ⟨i,hi,_⟩,Q,next1,last1=>(.s 2 (.br (decide ((i:Int) < (q:Int))) (fun p0=>have p0f:=aU p0; (.s 6 (.chk (true && decide ((i:Int) < (q:Int)) && true) DV (.s 2 (.opt ((map nD (cW l))[i * 1]?) (nD (getD (cW l) (i * 1) jd)) (au _ _ om) (.s 3 (.chk (true && decide ((i:Int) < (p:Int)) && true) DV (.s 2 (.opt ((map nD (cW l))[i * 1]?) (nD (getD (cW l) (i * 1) jd)) (au _ _ om) (.s 2 (.f ((↑(getD (cW l) (i * 1) jd):Int) != (↑(getD (cW l) (i * 1) jd):Int)) (by (simp; done)) (.s 2 (.ow ((i:Int) + 1) (.s 1 (.val 13 (zI ((i:Int) + 1)) (zN (i + 1)) (by (refine aO ?_; (omega))) (Hn.next next1 ⟨(i + 1),om,⟨⟩⟩ (by show q - (i + 1) < q - i; clear next1 last1; omega) [(0,0),(8,8)] ro)))))))))))))))) (fun p0=>have p0f:=aV p0; (Hn.last last1 0 (():Unit) rfl [(0,0),(8,8)] ro))))) (fun | ⟨i,hi,_⟩=>by kernel_rfl) ⟨(0),om,⟨⟩⟩ [(0,0),(8,8)] ro (b5 (fun | ()=>(.s 3 (.out [] [] (D.v (.bool true)) [] R (ok _ _ wr wr)))))))))))) (by kernel_rfl)
def Lk (b l:List UInt8):Nat → Nat → Nat → Nat → Nat × Nat × Nat
 | 0,_,_,_=>(0,0,50)
 | k + 1,a,d,p=>if (qa l a).length + aJ l a = (cW l).length then (0,0,50) else if Ly b p 1 ≠ 0 then (0,0,10) else
  if 2 * (d - aJ l a) + JG b p 1 < aJ l (a + 1) then ((cW l).getD ((qa l a).length + aJ l a + (2 * (d - aJ l a) + JG b p 1)) jd,p + 1,0)
  else Lk b l k (a + 1) (2 * (d - aJ l a) + JG b p 1) (p + 1)
end Vp
end Go.Proofs.YtefjnofhgkjpmaaGreat
namespace Go.Proofs.YtefjnofhgkjpmaaGreat
open Go.RowKit Go.Bw Go.Vx
namespace Vp
theorem lv (l:List UInt8) (n:Nat):∀ (k j:Nat),∃ r,ef l n (k + j) = ef l n k ++ r
 | k,0=>⟨[],by simp⟩
 | k,j + 1=>by
  obtain ⟨r,hr⟩:=lv l n k j
  exact ⟨r ++ (if (l.getD (k + j) jd).toNat = n then [k + j] else []),by rw [← MU,gQ,hr,Ma]⟩
def jP (l:List UInt8):Nat → Nat
 | 0=>0
 | a + 1=>2 * (jP l a + aJ l a)
theorem zn {l:List UInt8} {a:Nat} (h:a ≠ 0):(ef l a l.length).length = aJ l a:=by rw [ll]; unfold wF; rw [if_neg h]
theorem qi {a:Nat} (h:a < 15):dn 32768 a = 2 * dn 32768 (a + 1):=by
 rw [dV (by omega),dV (by omega),show 15 - a = (15 - (a + 1)) + 1 from by omega,MZ,M8]
theorem rZ (l:List UInt8):∀ a,a ≤ 15 → uX l (a + 1) = (jP l a + aJ l a) * dn 32768 a
 | 0,_=>by rw [uX,if_pos rfl,GN]; show 0 + 0 = (0 + 0) * _; omega
 | a + 1,h=>by
  have ih:=rZ l a (by omega)
  rw [uX,if_neg (NC a),ih,zn (NC a),jP,qi (by omega)]
  generalize dn 32768 (a + 1) = P
  generalize jP l a + aJ l a = X
  rw [ME (2 * X),MR 2 X P,Nat.mul_left_comm X 2 P]
theorem DW {l:List UInt8} {a:Nat} (h0:a ≠ 0) (h:a ≤ 15):uX l a = jP l a * dn 32768 a:=by
 obtain ⟨b,rfl⟩:∃ b,a = b + 1:=⟨a - 1,by omega⟩
 rw [rZ l b (by omega),jP,qi (by omega)]
 rw [M8 2 (jP l b + aJ l b),MR]
theorem qj (l:List UInt8) (a:Nat):∀ k,uX l a ≤ uX l (a + k)
 | 0=>LV _
 | k + 1=>LM (qj l a k) (by rw [← MU,uX]; exact OQ _ _)
theorem B0 {l:List UInt8} {i a:Nat} (h:(l.getD i jd).toNat = a) (h0:a ≠ 0) (h1:a ≤ 15):qg l i = jP l a + (ef l a i).length:=by
 unfold qg
 rw [h,DS,if_neg h0,DW h0 h1,← ME,Nat.mul_div_cancel _ (qh h1)]
def vh (l:List UInt8) (k:Nat):Nat → Nat
 | 0=>0
 | a + 1=>vh l k a + (if a = 0 then 0 else (ef l a k).length * dn 32768 a)
theorem wU (l:List UInt8):∀ a,vh l l.length a = uX l a
 | 0=>rfl
 | a + 1=>by rw [vh,uX,wU l a]
theorem qk (l:List UInt8):∀ a,vh l 0 a = 0
 | 0=>rfl
 | a + 1=>by
  have:ef l a 0 = []:=rfl
  rw [vh,qk l a,this,Nt,M0]; split <;> rfl
theorem ql (l:List UInt8) (k:Nat):∀ a,vh l (k + 1) a = vh l k a + (if (l.getD k jd).toNat ≠ 0 ∧ (l.getD k jd).toNat < a then dn 32768 (l.getD k jd).toNat else 0)
 | 0=>by rw [vh,vh,if_neg (fun q=>MT _ q.2)]
 | a + 1=>by
  rw [vh,vh,ql l k a,gQ]
  generalize (l.getD k jd).toNat = x
  by_cases h0:a = 0
  ·rw [if_pos h0,if_pos h0,if_neg (fun q=>by omega),if_neg (fun q=>by omega)]
  ·rw [if_neg h0,if_neg h0]
   by_cases h:x = a
   ·subst h
    rw [if_pos rfl,if_neg (fun q=>by omega),if_pos ⟨h0,by omega⟩,LJ,Mu,Nat.succ_mul]; omega
   ·rw [if_neg h,MA]
    by_cases h2:x ≠ 0 ∧ x < a
    ·rw [if_pos h2,if_pos (by omega)]; omega
    ·rw [if_neg h2,if_neg (by omega)]; omega
theorem GO (l:List UInt8) (ho:dm l 15 = false):uX l 16 = aT l:=by
 have key:∀ k,k ≤ l.length → vh l k 16 = aT (l.take k):=by
  intro k
  induction k with
  | zero=>intro _; exact qk l 16
  | succ k ih =>
   intro hk
   have hx:=eG ho (i:=k) (by omega)
   rw [ql,ih (by omega),fP (by omega)]
   by_cases q:(l.getD k jd).toNat = 0
   ·rw [if_neg (fun z=>z.1 q),if_pos q]
   ·rw [if_pos ⟨q,by omega⟩,if_neg q,dV hx]
 have h:=key l.length (LV _)
 rw [MP,wU] at h; exact h
def Lz (b l:List UInt8) (n d c:Nat):Nat × Nat × Nat:=lk b (if d < aJ l n then ((cW l).getD ((qa l n).length + d) jd,c,0) else Lk b l (16 - n) n d c)
section
variable {b l:List UInt8} {n d c v:Nat} {R:Nat × Nat × Nat}
end

section
variable {b l:List UInt8} {n a d c v:Nat} {R:Nat × Nat × Nat} (hT:cG l 15 = 0) (hn:n = l.length) (ha:a ≤ 15) (hv:v = jP l a + d) (hb:v < 2 ^ a) (hno:∀ j,j < n → ¬ ((l.getD j jd).toNat = a ∧ qg l j = v ∧ 0 < a)) (hR:Lz b l a d c = R)
include hT hn ha hv hb hno hR
end
end Vp
end Go.Proofs.YtefjnofhgkjpmaaGreat

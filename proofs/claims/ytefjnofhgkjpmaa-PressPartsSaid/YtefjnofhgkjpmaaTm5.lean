/- Part 5. -/
import Derived.Test.YtefjnofhgkjpmaaTm4
import Derived.Test.YtefjnofhgkjpmaaRows
set_option linter.unusedVariables false
set_option linter.unusedSimpArgs false
set_option maxRecDepth 100000
set_option maxHeartbeats 4000000
open And renaming intro → KI
open Array renaming replicate → Nl
open BitVec renaming ofInt → KE, toNat → K6
open Bool renaming and_eq_true → Ky, and_true → K2, toNat_le → Ni
open ByteArray renaming mk → Lp
open Eq renaming trans → NY
open Go.Fn renaming func → K9
open Go.IntKind renaming i64 → KY, u32 → La, u64 → LY, u8 → Nu, wrap → KP
open Go.Value renaming int → Ll
open Inhabited renaming default → i4
open Int renaming eq_ofNat_of_zero_le → Lo, fdiv → Lb, fdiv_eq_ediv_of_nonneg → LO, natCast_ediv → MS, natCast_nonneg → Mu, tdiv → M5, tmod → MB, toNat → un, toNat_natCast → LX
open List renaming any_eq_true → NG, append_assoc → KS, append_nil → Lk, cons_append → Mr, drop → K8, drop_append → Oq, drop_append_of_le_length → Mh, drop_eq_getElem_cons → LS, drop_eq_nil_of_le → LI, drop_zero → Ma, filter_append → LD, filter_nil → OE, flatMap_append → Mb, flatMap_cons → Lz, getD → ON, getElem_mem → Ld, length_append → Kw, length_cons → KU, length_drop → KQ, length_filter_le → M7, length_map → KH, length_nil → Ml, length_range → LG, length_singleton → Lg, length_take → KC, map → Mg, map_append → Lh, map_take → Nh, mem_of_mem_drop → MA, mem_of_mem_take → Lt, nil_append → Nn, range → Lf, range_succ → MJ, replicate → KJ, set_append_right → NQ, take → K7, take_append → Oo, take_append_drop → Mw, take_append_of_le_length → LW, take_length → LF, take_of_length_le → KZ, take_succ_cons → N3
open Nat renaming add_assoc → LK, add_mul → Lr, add_sub_cancel_left → ME, add_zero → MG, beq → Kv, beq_refl → Ly, ble → Kx, ble_eq_true_of_le → KA, div_eq_of_lt → NC, div_le_self → OF, eq_of_beq_eq_true → Kz, le_add_right → NE, le_refl → KG, le_trans → KK, lt_of_lt_of_le → K5, lt_or_ge → K3, mod_eq_of_lt → Lw, mod_lt → N8, mod_one → Ou, mul_add → Mo, mul_assoc → LH, mul_comm → L0, mul_le_mul_left → MT, mul_one → KW, not_lt_zero → LJ, pow_add → NZ, pow_le_pow_right → Ln, pow_succ → LP, sub_self → LL, succ_le_succ → Mq, succ_ne_zero → Ms, toNat_testBit → Og, two_pow_add_eq_or_of_lt → MO, two_pow_pos → LZ, zero_add → KV, zero_le → Li, zero_lt_one → My, zero_mul → LQ
open UInt8 renaming ofNat → Lu, toNat → Ku, toNat_ofNat' → Mt
namespace Go.Vx
open Go.RowKit Go.Bw
theorem au {A B:List D} {e:TypeId} {r:Bool} (h:A = B):Blk.mk A e r = Blk.mk B e r:=by rw [h]
theorem D.sim.slN {nn:Bool} {n n' sz:Nat} {cells cells' : List D} (h1:n = n') (h2:cells = cells'):(D.sl nn n sz cells).sim (.sl nn n' sz cells'):=by rw [h1,h2]; exact D.sim.refl _
theorem D.sim.tup {l l' : List D} (h:bY l l'):(D.tup l).sim (.tup l'):=fun E w u hr=>by
 obtain ⟨h1,h2⟩:=h.get
 cases hr with
 | tup _ us hlen hd =>
  refine .tup _ us (by rw [hlen,h1]) fun i d u a b=>?_
  obtain ⟨d0,c1,c2⟩:=h2 i d a
  exact c2 _ _ _ (hd i d0 u c1 b)
theorem D.sim.ifc {t:TypeId} {x x' : D} (h:x.sim x'):(D.ifc t x).sim (.ifc t x'):=fun E w u hr=>by
 cases hr with
 | ifc _ _ u hx=>exact .ifc _ _ u (h _ _ _ hx)
theorem aR {α:Type} {c:Bool} {a b:α} (h:c = true):cond c a b = a:=by rw [h]; rfl
theorem k5 (k:IntKind) (m n:Int):jD k true m n = some (.v (.int k (max m n))):=yC rfl
theorem cR {b:Bool} (h:(!b) = true):b = false:=by cases b <;> simp_all
theorem cS {b:Bool} (h:(!b) = false):b = true:=by cases b <;> simp_all
theorem CI {a b:Bool} (h:(a && b) = true):a = true:=by cases a <;> simp_all
theorem CJ {a b:Bool} (h:(a && b) = true):b = true:=by cases a <;> simp_all
theorem aF {a b:Bool} (h1:a = true) (h2:b = true):(a && b) = true:=by rw [h1,h2]; rfl
theorem er {a b:Nat} (h:a = b):Kv a b = true:=by rw [h]; exact Ly b
theorem fN (b:UInt8) {m n:Int} (hm:m ≤ 0) (hn:255 ≤ n):m ≤ (b.toNat:Int) ∧ (b.toNat:Int) ≤ n:=by
 have:=b.toNat_lt
 constructor <;> omega
theorem aJ {k:IntKind} {a b:Int} (h:a = b):D.v (.int k a) = D.v (.int k b):=by rw [h]
theorem k6 {α:Type} [Inhabited α] {l:List α} {i:Nat} (h:i < l.length):l.take (i + 1) = l.take i ++ [l.getD i i4]:=by
 rw [List.take_add_one,List.getElem?_eq_getElem h]; simp [h]
theorem sT {l:List D} (h:aa l = true) (n:Nat):aa (l.take n) = true:=aV.2 fun d hd=>aV.1 h d (Lt hd)
theorem sU {l:List D} (h:aa l = true) (n:Nat):aa (l.drop n) = true:=aV.2 fun d hd=>aV.1 h d (MA hd)
theorem EP (bs:List UInt8) (n:Nat):aa ((bs.map dB).take n) = true:=sT (de bs) n
theorem EQ (bs:List UInt8) (n:Nat):aa ((bs.map dB).drop n) = true:=sU (de bs) n
theorem yD (c:Bool) (a b:List D):aa (cond c a b) = cond c (aa a) (aa b):=by cases c <;> rfl
theorem v8 (a b:List D):aa (a ++ b) = (aa a && aa b):=by
 induction a with
 | nil=>rfl
 | cons x a ih=>show (x.closed && aa (a ++ b)) = _; rw [ih,← Bool.and_assoc]; rfl
theorem pL {α:Type} [BEq α] [LawfulBEq α] {a b:α} (h:(a != b) = true):a ≠ b:=by simpa using h
theorem pM {α:Type} [BEq α] [LawfulBEq α] {a b:α} (h:(a != b) = false):a = b:=by simpa using h
theorem am {α:Type} [BEq α] [LawfulBEq α] {a b:α} (h:(a == b) = false):a ≠ b:=by simpa using h
theorem fk (l:List UInt8):(Lp l.toArray).toList = l:=by rw [ByteArray.toList_eq]
theorem uz (a b:List UInt8):Lp a.toArray ++ Lp b.toArray = Lp (a ++ b).toArray:=by
 apply ByteArray.ext
 simp
theorem yE (a:List UInt8):(Lp a.toArray).size = a.length:=rfl
theorem rE {α:Type} [Inhabited α] {f:α → List D} {k:Nat} (hk:∀ x,(f x).length = k):∀ {xs:List α} {i j:Nat},i < xs.length → j < k → (xs.flatMap f)[i * k + j]? = (f (xs.getD i i4))[j]?
 | [],i,j,h,_=>by simp at h
 | x :: xs,0,j,h,hj=>by
  rw [Lz,LQ,KV,List.getElem?_append_left (by rw [hk]; exact hj)]; rfl
 | x :: xs,i + 1,j,h,hj=>by
  rw [Lz,List.getElem?_append_right (by rw [hk,Lr]; omega),hk]
  have e:(i + 1) * k + j - k = i * k + j:=by rw [Lr]; omega
  rw [e,rE hk (by simpa using h) hj]; rfl
theorem Ao {α:Type} [Inhabited α] {f:α → List D} {k:Nat} (hk:∀ x,(f x).length = k) {xs:List α} {i n j:Nat} {d:D} (h:i < xs.length) (e:n = i * k + j) (hj:(f (xs.getD i i4))[j]? = some d):(xs.flatMap f)[n]? = some d:=by
 have hlt:j < k:=by rw [← hk (xs.getD i i4)]; exact (List.getElem?_eq_some_iff.1 hj).1
 rw [e,rE hk h hlt]; exact hj
theorem ba {α:Type} {f:α → List D} {k:Nat} (hk:∀ x,(f x).length = k):∀ (xs:List α),(xs.flatMap f).length = xs.length * k
 | []=>by simp
 | x :: xs=>by rw [Lz,Kw,hk,ba hk xs,KU,Lr]; omega
theorem av {α:Type} [Inhabited α] {f:α → List D} {k:Nat} (hk:∀ x,(f x).length = k) {xs:List α} {i n:Nat} (h:i < xs.length) (e:n = i * k):((xs.flatMap f).drop n).take k = f (xs.getD i i4):=by
 apply List.ext_getElem?
 intro j
 rw [List.getElem?_take]
 by_cases hj:j < k
 ·rw [if_pos hj,List.getElem?_drop,e,rE hk h hj]
 ·rw [if_neg hj,List.getElem?_eq_none (by rw [hk]; omega)]
theorem bg (bs:List UInt8) (off m:Nat):(bif Kv off 0 && Kv m (bs.map dB).length then bs.map dB else ((bs.map dB).drop off).take m) = ((bs.drop off).take m).map dB:=by
 cases h:Kv off 0 && Kv m (bs.map dB).length with
 | true =>
  have h1:=Kz (CI h)
  have h2:=Kz (CJ h)
  subst h1 h2
  simp
 | false=>rw [cond_false,Nh,List.map_drop]
theorem D.sim.nil {sz:Nat} (h:0 < sz):(D.v (.slice none 0 0)).sim (.sl false 0 sz []):=fun E w u hr=>by
 cases hr with
 | v=>exact .sl false 0 sz [] none 0 [] rfl (by simp) (by simp) (by simp) h ⟨KG _,Li _⟩ (fun _=>⟨rfl,rfl⟩) (.inl rfl)
theorem D.sim.slc {nn:Bool} {n n' sz:Nat} {cells cells' : List D} (h1:n = n') (h2:bY cells cells'):(D.sl nn n sz cells).sim (.sl false n' sz cells'):=by
 subst h1
 intro E w u h
 obtain ⟨e,g⟩:=h2.get
 cases h with
 | sl _ _ _ _ a c us hlen hd h1 hn hs hc h0 hr =>
  refine .sl false n sz cells' a c us (by rw [hlen,e]) (fun i d' u a1 a2=>?_) h1 (by rw [← e,hn]) hs hc (fun h=>⟨(h0 h).1,rfl⟩) hr
  obtain ⟨d,b1,b2⟩:=g i d' a1
  exact b2 _ _ _ (hd i d u b1 a2)
theorem dN {α:Type} {f:α → List D} (h:∀ x,aa (f x) = true):∀ l:List α,aa (l.flatMap f) = true
 | []=>rfl
 | x :: l=>by rw [Lz,v8,h x,dN h l]; rfl
theorem ee {α:Type} {f:α → List D} (h:∀ x,sL (f x) = true) (l:List α):sL (l.flatMap f) = true:=gG.2 fun d hd=>by
 obtain ⟨t,_,hd⟩:=List.mem_flatMap.1 hd
 exact gG.1 (h t) d hd
theorem sV {α:Type} {f:α → List D} {k:Nat} (hk:∀ x,(f x).length = k):∀ (xs:List α) (i:Nat),(xs.flatMap f).take (i * k) = (xs.take i).flatMap f
 | [],i=>by simp
 | x :: xs,0=>by simp
 | x :: xs,i + 1=>by
  rw [Lz,N3,Lz,Oo,hk,KZ (by rw [hk,Lr]; omega),show (i + 1) * k - k = i * k from by rw [Lr]; omega,sV hk xs i]
theorem jZ {α:Type} {f:α → List D} {c:List α} {l:List D} {t:α} {y:TypeId} {r:Bool} (h:l = f t):(⟨c.flatMap f ++ l,y,r⟩:Blk) = ⟨(c ++ [t]).flatMap f,y,r⟩:=by rw [h,Mb]; simp
theorem ER (b:UInt8):(dB b).closed = true:=rfl
attribute [simp] fk uz yE
attribute [simp] bU fx t0 jR aS b9 aM kw JP JQ Ir aa D.closed de EP EQ yD v8 sT sU dN ER co bm nU
end Go.Vx
namespace Go.Proofs.Ytefjnofhgkjpmaa
open Go.Vx

def JX:TI:=⟨.int .i64,.int .i64 0,1,8,false⟩
def JY:TI:=⟨.int .i64,.int .i64 0,1,8,false⟩
def JZ:TI:=⟨.bool,.bool false,1,1,false⟩
def yF:TI:=⟨.int .u8,.int .u8 0,1,1,false⟩
def J0:TI:=⟨.string,.string ⟨#[]⟩,1,16,false⟩
def ES:TI:=⟨.int .u64,.int .u64 0,1,8,false⟩
def ET:TI:=⟨.pointer 233,.pointer none,1,8,false⟩
def EU:TI:=⟨.pointer 236,.pointer none,1,8,false⟩
def EV:TI:=⟨.pointer 244,.pointer none,1,8,false⟩
def EW:TI:=⟨.interface #[],.nilIface,1,16,false⟩
def EX:TI:=⟨.int .i32,.int .i32 0,1,4,false⟩
def EY : TI := ⟨.struct #[⟨"Size", 3, 0, false, "", "", 0⟩, ⟨"Chain", 3, 1, false, "", "", 8⟩, ⟨"Most", 3, 2, false, "", "", 16⟩, ⟨"Lazy", 4, 3, false, "", "", 24⟩], .agg #[.int .i64 0, .int .i64 0, .int .i64 0, .bool false], 4, 32, true⟩
def EZ : TI := ⟨.struct #[⟨"Size", 3, 0, false, "", "", 0⟩, ⟨"Chain", 3, 1, false, "", "", 8⟩, ⟨"Most", 3, 2, false, "", "", 16⟩, ⟨"Lazy", 4, 3, false, "", "", 24⟩], .agg #[.int .i64 0, .int .i64 0, .int .i64 0, .bool false], 4, 32, true⟩
def E5:TI:=⟨.slice 5,.slice none 0 0,1,24,false⟩
def E6 : TI := ⟨.struct #[⟨"Bytes", 24, 0, false, "", "", 0⟩, ⟨"Bits", 3, 1, false, "", "", 24⟩], .agg #[.slice none 0 0, .int .i64 0], 2, 32, false⟩
def E7 : TI := ⟨.struct #[⟨"Bytes", 24, 0, false, "", "", 0⟩, ⟨"Bits", 3, 1, false, "", "", 24⟩], .agg #[.slice none 0 0, .int .i64 0], 2, 32, false⟩
def E8 : TI := ⟨.struct #[⟨"Style", 23, 0, false, "", "", 0⟩, ⟨"Hist", 24, 4, false, "", "", 32⟩, ⟨"Wait", 24, 5, false, "", "", 56⟩, ⟨"Pen", 26, 6, false, "", "", 80⟩, ⟨"Over", 4, 8, false, "", "", 112⟩], .agg #[.int .i64 0, .int .i64 0, .int .i64 0, .bool false, .slice none 0 0, .slice none 0 0, .slice none 0 0, .int .i64 0, .bool false], 9, 120, false⟩
def E9 : TI := ⟨.struct #[⟨"Style", 23, 0, false, "", "", 0⟩, ⟨"Hist", 24, 4, false, "", "", 32⟩, ⟨"Wait", 24, 5, false, "", "", 56⟩, ⟨"Pen", 26, 6, false, "", "", 80⟩, ⟨"Over", 4, 8, false, "", "", 112⟩], .agg #[.int .i64 0, .int .i64 0, .int .i64 0, .bool false, .slice none 0 0, .slice none 0 0, .slice none 0 0, .int .i64 0, .bool false], 9, 120, false⟩
def Fa:TI:=⟨.int .i64,.int .i64 0,1,8,false⟩
def Fb:TI:=⟨.slice 50,.slice none 0 0,1,24,false⟩
def Fc:TI:=⟨.array 16 3,.agg #[.int .i64 0,.int .i64 0,.int .i64 0,.int .i64 0,.int .i64 0,.int .i64 0,.int .i64 0,.int .i64 0,.int .i64 0,.int .i64 0,.int .i64 0,.int .i64 0,.int .i64 0,.int .i64 0,.int .i64 0,.int .i64 0],16,128,true⟩
def Fe:TI:=⟨.slice 3,.slice none 0 0,1,24,false⟩
def Ff : TI := ⟨.struct #[⟨"Count", 40, 0, false, "", "", 0⟩, ⟨"Syms", 41, 16, false, "", "", 128⟩], .agg #[.int .i64 0, .int .i64 0, .int .i64 0, .int .i64 0, .int .i64 0, .int .i64 0, .int .i64 0, .int .i64 0, .int .i64 0, .int .i64 0, .int .i64 0, .int .i64 0, .int .i64 0, .int .i64 0, .int .i64 0, .int .i64 0, .slice none 0 0], 17, 152, false⟩
def Fg : TI := ⟨.struct #[⟨"Count", 40, 0, false, "", "", 0⟩, ⟨"Syms", 41, 16, false, "", "", 128⟩], .agg #[.int .i64 0, .int .i64 0, .int .i64 0, .int .i64 0, .int .i64 0, .int .i64 0, .int .i64 0, .int .i64 0, .int .i64 0, .int .i64 0, .int .i64 0, .int .i64 0, .int .i64 0, .int .i64 0, .int .i64 0, .int .i64 0, .slice none 0 0], 17, 152, false⟩
def Fh : TI := ⟨.struct #[⟨"Kind", 5, 0, false, "", "", 0⟩, ⟨"Last", 4, 1, false, "", "", 1⟩, ⟨"Left", 3, 2, false, "", "", 8⟩, ⟨"Longs", 43, 3, false, "", "", 16⟩, ⟨"Fars", 43, 20, false, "", "", 168⟩], .agg #[.int .u8 0, .bool false, .int .i64 0, .int .i64 0, .int .i64 0, .int .i64 0, .int .i64 0, .int .i64 0, .int .i64 0, .int .i64 0, .int .i64 0, .int .i64 0, .int .i64 0, .int .i64 0, .int .i64 0, .int .i64 0, .int .i64 0, .int .i64 0, .int .i64 0, .slice none 0 0, .int .i64 0, .int .i64 0, .int .i64 0, .int .i64 0, .int .i64 0, .int .i64 0, .int .i64 0, .int .i64 0, .int .i64 0, .int .i64 0, .int .i64 0, .int .i64 0, .int .i64 0, .int .i64 0, .int .i64 0, .int .i64 0, .slice none 0 0], 37, 320, false⟩
def Fi : TI := ⟨.struct #[⟨"Kind", 5, 0, false, "", "", 0⟩, ⟨"Last", 4, 1, false, "", "", 1⟩, ⟨"Left", 3, 2, false, "", "", 8⟩, ⟨"Longs", 43, 3, false, "", "", 16⟩, ⟨"Fars", 43, 20, false, "", "", 168⟩], .agg #[.int .u8 0, .bool false, .int .i64 0, .int .i64 0, .int .i64 0, .int .i64 0, .int .i64 0, .int .i64 0, .int .i64 0, .int .i64 0, .int .i64 0, .int .i64 0, .int .i64 0, .int .i64 0, .int .i64 0, .int .i64 0, .int .i64 0, .int .i64 0, .int .i64 0, .slice none 0 0, .int .i64 0, .int .i64 0, .int .i64 0, .int .i64 0, .int .i64 0, .int .i64 0, .int .i64 0, .int .i64 0, .int .i64 0, .int .i64 0, .int .i64 0, .int .i64 0, .int .i64 0, .int .i64 0, .int .i64 0, .int .i64 0, .slice none 0 0], 37, 320, false⟩
def Fj : TI := ⟨.struct #[⟨"Lit", 5, 0, false, "", "", 0⟩, ⟨"Dist", 3, 1, false, "", "", 8⟩, ⟨"Long", 3, 2, false, "", "", 16⟩], .agg #[.int .u8 0, .int .i64 0, .int .i64 0], 3, 24, true⟩
def Fk : TI := ⟨.struct #[⟨"Lit", 5, 0, false, "", "", 0⟩, ⟨"Dist", 3, 1, false, "", "", 8⟩, ⟨"Long", 3, 2, false, "", "", 16⟩], .agg #[.int .u8 0, .int .i64 0, .int .i64 0], 3, 24, true⟩
def Fl:TI:=⟨.pointer 62,.pointer none,1,8,false⟩
def Fm : TI := ⟨.struct #[⟨"Press", 28, 0, true, "", "", 0⟩, ⟨"out", 24, 9, false, "", "bellows/press", 120⟩], .agg #[.int .i64 0, .int .i64 0, .int .i64 0, .bool false, .slice none 0 0, .slice none 0 0, .slice none 0 0, .int .i64 0, .bool false, .slice none 0 0], 10, 144, false⟩
def Fo : TI := ⟨.struct #[⟨"Press", 28, 0, true, "", "", 0⟩, ⟨"out", 24, 9, false, "", "bellows/press", 120⟩], .agg #[.int .i64 0, .int .i64 0, .int .i64 0, .bool false, .slice none 0 0, .slice none 0 0, .slice none 0 0, .int .i64 0, .bool false, .slice none 0 0], 10, 144, false⟩
def Fp:TI:=⟨.pointer 78,.pointer none,1,8,false⟩
def Fq:TI:=⟨.slice 81,.slice none 0 0,1,24,false⟩
def Fs : TI := ⟨.struct #[⟨"l", 76, 0, false, "", "bellows/block", 0⟩], .agg #[.slice none 0 0], 1, 24, false⟩
def Ft : TI := ⟨.struct #[⟨"l", 76, 0, false, "", "bellows/block", 0⟩], .agg #[.slice none 0 0], 1, 24, false⟩
def Fu:TI:=⟨.int .u32,.int .u32 0,1,4,false⟩
def Fv : TI := ⟨.struct #[⟨"v", 79, 0, false, "", "bellows/block", 0⟩, ⟨"n", 3, 1, false, "", "bellows/block", 8⟩], .agg #[.int .u32 0, .int .i64 0], 2, 16, true⟩
def Fw : TI := ⟨.struct #[⟨"v", 79, 0, false, "", "bellows/block", 0⟩, ⟨"n", 3, 1, false, "", "bellows/block", 8⟩], .agg #[.int .u32 0, .int .i64 0], 2, 16, true⟩
def Fx:TI:=⟨.pointer 88,.pointer none,1,8,false⟩
def Fy : TI := ⟨.struct #[⟨"b", 24, 0, false, "", "bellows/plain", 0⟩, ⟨"at", 3, 1, false, "", "bellows/plain", 24⟩, ⟨"e", 31, 2, false, "", "bellows/plain", 32⟩], .agg #[.slice none 0 0, .int .i64 0, .int .i64 0], 3, 40, false⟩
def Fz : TI := ⟨.struct #[⟨"b", 24, 0, false, "", "bellows/plain", 0⟩, ⟨"at", 3, 1, false, "", "bellows/plain", 24⟩, ⟨"e", 31, 2, false, "", "bellows/plain", 32⟩], .agg #[.slice none 0 0, .int .i64 0, .int .i64 0], 3, 40, false⟩
def Ap:TI:=⟨.pointer 113,.pointer none,1,8,false⟩
def Aq : TI := ⟨.struct #[⟨"Pen", 26, 0, true, "", "", 0⟩], .agg #[.slice none 0 0, .int .i64 0], 2, 32, false⟩
def Ar : TI := ⟨.struct #[⟨"Pen", 26, 0, true, "", "", 0⟩], .agg #[.slice none 0 0, .int .i64 0], 2, 32, false⟩
def As:TI:=⟨.pointer 45,.pointer none,1,8,false⟩
def At:TI:=⟨.array 3 5,.agg #[.int .u8 0,.int .u8 0,.int .u8 0],3,3,true⟩
def Au : TI := ⟨.struct #[⟨"Lit", 5, 0, false, "", "", 0⟩, ⟨"Dist", 3, 1, false, "", "", 8⟩, ⟨"Long", 3, 2, false, "", "", 16⟩], .agg #[.int .u8 0, .int .i64 0, .int .i64 0], 3, 24, true⟩
def Av:TI:=⟨.array 286 3,.agg (Nl 286 (.int .i64 0)),286,2288,true⟩
def Aw:TI:=⟨.array 30 3,.agg #[.int .i64 0,.int .i64 0,.int .i64 0,.int .i64 0,.int .i64 0,.int .i64 0,.int .i64 0,.int .i64 0,.int .i64 0,.int .i64 0,.int .i64 0,.int .i64 0,.int .i64 0,.int .i64 0,.int .i64 0,.int .i64 0,.int .i64 0,.int .i64 0,.int .i64 0,.int .i64 0,.int .i64 0,.int .i64 0,.int .i64 0,.int .i64 0,.int .i64 0,.int .i64 0,.int .i64 0,.int .i64 0,.int .i64 0,.int .i64 0],30,240,true⟩
def Ax:TI:=⟨.slice 150,.slice none 0 0,1,24,false⟩
def Ay:TI:=⟨.array 19 3,.agg #[.int .i64 0,.int .i64 0,.int .i64 0,.int .i64 0,.int .i64 0,.int .i64 0,.int .i64 0,.int .i64 0,.int .i64 0,.int .i64 0,.int .i64 0,.int .i64 0,.int .i64 0,.int .i64 0,.int .i64 0,.int .i64 0,.int .i64 0,.int .i64 0,.int .i64 0],19,152,true⟩
def Az : TI := ⟨.struct #[⟨"Sym", 3, 0, false, "", "", 0⟩, ⟨"Extra", 3, 1, false, "", "", 8⟩], .agg #[.int .i64 0, .int .i64 0], 2, 16, true⟩
def AA : TI := ⟨.struct #[⟨"Sym", 3, 0, false, "", "", 0⟩, ⟨"Extra", 3, 1, false, "", "", 8⟩], .agg #[.int .i64 0, .int .i64 0], 2, 16, true⟩
def AB:TI:=⟨.slice 198,.slice none 0 0,1,24,false⟩
def AC:TI:=⟨.int .u64,.int .u64 0,1,8,false⟩
def AD : TI := ⟨.struct #[⟨"bits", 3, 0, false, "", "bellows/reach", 0⟩, ⟨"least", 3, 1, false, "", "bellows/reach", 8⟩, ⟨"many", 3, 2, false, "", "bellows/reach", 16⟩], .agg #[.int .i64 0, .int .i64 0, .int .i64 0], 3, 24, true⟩
def AE : TI := ⟨.struct #[⟨"bits", 3, 0, false, "", "bellows/reach", 0⟩, ⟨"least", 3, 1, false, "", "bellows/reach", 8⟩, ⟨"many", 3, 2, false, "", "bellows/reach", 16⟩], .agg #[.int .i64 0, .int .i64 0, .int .i64 0], 3, 24, true⟩
def AF:TI:=⟨.slice 167,.slice none 0 0,1,24,false⟩
def AG : TI := ⟨.struct #[⟨"first", 3, 0, false, "", "bellows/reach", 0⟩, ⟨"symbols", 169, 1, false, "", "bellows/reach", 8⟩], .agg #[.int .i64 0, .slice none 0 0], 2, 32, false⟩
def AH : TI := ⟨.struct #[⟨"first", 3, 0, false, "", "bellows/reach", 0⟩, ⟨"symbols", 169, 1, false, "", "bellows/reach", 8⟩], .agg #[.int .i64 0, .slice none 0 0], 2, 32, false⟩
def AI:TI:=⟨.slice 24,.slice none 0 0,1,24,false⟩
def AJ:TI:=⟨.int .u64,.int .u64 0,1,8,false⟩
def AK:TI:=⟨.slice 187,.slice none 0 0,1,24,false⟩
def sX:TI:=⟨.slice 193,.slice none 0 0,1,24,false⟩
def AL : TI := ⟨.struct #[⟨"weight", 3, 0, false, "", "bellows/build", 0⟩, ⟨"pair", 4, 1, false, "", "bellows/build", 8⟩], .agg #[.int .i64 0, .bool false], 2, 16, true⟩
def AM : TI := ⟨.struct #[⟨"weight", 3, 0, false, "", "bellows/build", 0⟩, ⟨"pair", 4, 1, false, "", "bellows/build", 8⟩], .agg #[.int .i64 0, .bool false], 2, 16, true⟩
def AN:TI:=⟨.array 17 79,.agg #[.int .u32 0,.int .u32 0,.int .u32 0,.int .u32 0,.int .u32 0,.int .u32 0,.int .u32 0,.int .u32 0,.int .u32 0,.int .u32 0,.int .u32 0,.int .u32 0,.int .u32 0,.int .u32 0,.int .u32 0,.int .u32 0,.int .u32 0],17,68,true⟩
def AO:TI:=⟨.array 17 79,.agg #[.int .u32 0,.int .u32 0,.int .u32 0,.int .u32 0,.int .u32 0,.int .u32 0,.int .u32 0,.int .u32 0,.int .u32 0,.int .u32 0,.int .u32 0,.int .u32 0,.int .u32 0,.int .u32 0,.int .u32 0,.int .u32 0,.int .u32 0],17,68,true⟩
def AP : TI := ⟨.struct #[⟨"Bits", 79, 0, false, "", "", 0⟩, ⟨"Long", 5, 1, false, "", "", 4⟩], .agg #[.int .u32 0, .int .u8 0], 2, 8, true⟩
def sY : TI := ⟨.struct #[⟨"Bits", 79, 0, false, "", "", 0⟩, ⟨"Long", 5, 1, false, "", "", 4⟩], .agg #[.int .u32 0, .int .u8 0], 2, 8, true⟩
def AQ:TI:=⟨.pointer 205,.pointer none,1,8,false⟩
def AR : TI := ⟨.struct #[⟨"t", 43, 0, false, "", "bellows/tree", 0⟩, ⟨"n", 3, 17, false, "", "bellows/tree", 152⟩, ⟨"code", 3, 18, false, "", "bellows/tree", 160⟩, ⟨"first", 3, 19, false, "", "bellows/tree", 168⟩, ⟨"place", 3, 20, false, "", "bellows/tree", 176⟩], .agg #[.int .i64 0, .int .i64 0, .int .i64 0, .int .i64 0, .int .i64 0, .int .i64 0, .int .i64 0, .int .i64 0, .int .i64 0, .int .i64 0, .int .i64 0, .int .i64 0, .int .i64 0, .int .i64 0, .int .i64 0, .int .i64 0, .slice none 0 0, .int .i64 0, .int .i64 0, .int .i64 0, .int .i64 0], 21, 184, false⟩
def AT : TI := ⟨.struct #[⟨"t", 43, 0, false, "", "bellows/tree", 0⟩, ⟨"n", 3, 17, false, "", "bellows/tree", 152⟩, ⟨"code", 3, 18, false, "", "bellows/tree", 160⟩, ⟨"first", 3, 19, false, "", "bellows/tree", 168⟩, ⟨"place", 3, 20, false, "", "bellows/tree", 176⟩], .agg #[.int .i64 0, .int .i64 0, .int .i64 0, .int .i64 0, .int .i64 0, .int .i64 0, .int .i64 0, .int .i64 0, .int .i64 0, .int .i64 0, .int .i64 0, .int .i64 0, .int .i64 0, .int .i64 0, .int .i64 0, .int .i64 0, .slice none 0 0, .int .i64 0, .int .i64 0, .int .i64 0, .int .i64 0], 21, 184, false⟩
def AU:TI:=⟨.pointer 167,.pointer none,1,8,false⟩
def AV:TI:=⟨.func #[3] #[3,3] false,.nilFunc,1,8,false⟩
def AW:TI:=⟨.pointer 195,.pointer none,1,8,false⟩
def AY:TI:=⟨.array 0 16,.agg #[],0,0,false⟩
def AZ:TI:=⟨.pointer 5,.pointer none,1,8,false⟩
def A0 : TI := ⟨.struct #[⟨"Size_", 12, 0, false, "", "", 0⟩, ⟨"PtrBytes", 12, 1, false, "", "", 8⟩, ⟨"Hash", 79, 2, false, "", "", 16⟩, ⟨"TFlag", 237, 3, false, "", "", 20⟩, ⟨"Align_", 5, 4, false, "", "", 21⟩, ⟨"FieldAlign_", 5, 5, false, "", "", 22⟩, ⟨"Kind_", 238, 6, false, "", "", 23⟩, ⟨"Equal", 239, 7, false, "", "", 24⟩, ⟨"GCData", 240, 8, false, "", "", 32⟩, ⟨"Str", 241, 9, false, "", "", 40⟩, ⟨"PtrToThis", 242, 10, false, "", "", 44⟩], .agg #[.int .u64 0, .int .u64 0, .int .u32 0, .int .u8 0, .int .u8 0, .int .u8 0, .int .u8 0, .nilFunc, .pointer none, .int .i32 0, .int .i32 0], 11, 48, false⟩
def Tl:List (Nat × TI):=[(2,JX),(3,JY),(4,JZ),(5,yF),(9,J0),(12,ES),(15,ET),(16,EU),(17,EV),(20,EW),(21,EX),(22,EY),(23,EZ),(24,E5),(25,E6),(26,E7),(27,E8),(28,E9),(31,Fa),(37,Fb),(40,Fc),(41,Fe),(42,Ff),(43,Fg),(44,Fh),(45,Fi),(49,Fj),(50,Fk),(58,Fl),(61,Fm),(62,Fo),(73,Fp),(76,Fq),(77,Fs),(78,Ft),(79,Fu),(80,Fv),(81,Fw),(83,Fx),(87,Fy),(88,Fz),(111,Ap),(112,Aq),(113,Ar),(119,As),(134,At),(137,Au),(139,Av),(140,Aw),(145,Ax),(148,Ay),(149,Az),(150,AA),(152,AB),(156,AC),(166,AD),(167,AE),(169,AF),(170,AG),(171,AH),(177,AI),(179,AJ),(186,AK),(187,sX),(192,AL),(193,AM),(194,AN),(195,AO),(197,AP),(198,sY),(203,AQ),(204,AR),(205,AT),(208,AU),(210,AV),(219,AW),(234,AY),(240,AZ),(243,A0)]
def T:TT:=(.n (.n (.n (.n (.n (.n .e (some Fa) .e) (some ET) (.n (.n .e (some Fu) .e) none (.n .e (some Ap) .e))) none (.n (.n .e none (.n (.n .e (some AE) .e) none .e)) (some EZ) (.n (.n .e (some Fy) .e) none (.n .e (some As) .e)))) (some JY) (.n (.n (.n (.n .e none (.n .e (some AO) .e)) none .e) none (.n (.n .e (some Fx) .e) none (.n (.n .e (some AJ) .e) none (.n .e (some A0) .e)))) none (.n (.n (.n (.n .e (some Av) .e) none (.n .e (some AQ) .e)) (some Fg) (.n (.n .e (some AH) .e) none .e)) (some E8) (.n (.n .e none (.n .e (some AW) .e)) none (.n (.n .e (some sX) .e) none .e))))) none (.n (.n (.n (.n (.n .e none (.n .e (some AM) .e)) none .e) (some EV) (.n (.n (.n .e (some Ax) .e) (some Fw) .e) (some Fj) (.n (.n .e (some AI) .e) (some Ar) .e))) (some J0) (.n (.n (.n (.n .e (some Au) .e) (some Fp) .e) (some Fe) (.n (.n .e (some AF) .e) none .e)) (some E6) .e)) (some yF) (.n (.n (.n (.n .e none (.n .e (some AP) .e)) (some Fb) .e) (some EX) (.n (.n (.n .e (some Az) .e) none .e) none .e)) none (.n (.n (.n .e (some Fs) (.n .e (some AT) .e)) (some Fi) .e) none (.n .e (some Fm) .e))))) none (.n (.n (.n (.n (.n (.n .e none (.n .e (some AL) .e)) none .e) (some EU) (.n (.n .e (some Fv) (.n .e (some AU) .e)) none (.n .e (some Aq) (.n .e (some AZ) .e)))) none (.n (.n .e (some Fc) .e) (some E5) (.n (.n (.n .e (some AB) .e) (some Fz) .e) none .e))) (some JZ) (.n (.n .e (some EW) (.n (.n (.n .e (some Ay) .e) none .e) none .e)) (some ES) (.n (.n (.n (.n .e (some Aw) .e) (some Fq) (.n .e (some AR) .e)) (some Fh) .e) (some E9) (.n (.n (.n .e (some AC) .e) none .e) none .e)))) (some JX) (.n (.n (.n (.n (.n .e none (.n .e (some AN) .e)) none .e) none (.n (.n .e none (.n .e (some AV) .e)) (some Fk) .e)) none (.n (.n .e (some Ff) (.n (.n .e (some AG) .e) none (.n .e (some AY) .e))) (some E7) (.n .e (some Fl) (.n (.n .e (some AK) .e) none .e)))) none (.n (.n (.n (.n (.n .e (some At) .e) none (.n .e (some sY) .e)) none (.n (.n .e (some AD) .e) none .e)) (some EY) (.n (.n (.n .e (some AA) .e) none .e) none .e)) none (.n (.n (.n .e (some Ft) .e) none .e) none (.n .e (some Fo) .e))))))
set_option maxRecDepth 100000 in
theorem T_ok:TT.ok Try.prog T:=by
 refine TT.ok_ofL (l:=Tl) ?_ (by kernel_rfl)
 repeat (first | refine ⟨Ik (by kernel_rfl) (by kernel_rfl) rfl,?_⟩ | refine ⟨EM (by kernel_rfl) (by kernel_rfl) rfl (by kernel_rfl) (by kernel_rfl) (by kernel_rfl),?_⟩)
 trivial
theorem ag:Try.prog.follows .mixedOrders = true:=by kernel_rfl
open Go.RowKit Go.Bw
abbrev zN (n:Nat):D:=.v (.int .i64 (n:Int))
abbrev zI (x:Int):D:=.v (.int .i64 x)
abbrev zS:D:=.v (.slice none 0 0)
abbrev ac (n:Nat):D:=.v (.int .u32 (n:Int))
abbrev dO (n:Nat):D:=.v (.int .u8 (n:Int))
abbrev uI (x:Int):D:=.v (.int .u32 x)
abbrev bI (x:Int):D:=.v (.int .u8 x)
theorem aN {p:Prop} [Decidable p] (h:decide p = true):p:=of_decide_eq_true h
theorem aO {p:Prop} [Decidable p] (h:decide p = false):¬ p:=of_decide_eq_false h
def _root_.Go.Vx.Hn.cl {P:Program} (f:FuncId) (al:Bool) (fp:List Nat) {q hin:_} {r:D} {bs:List Blk} (h:CallOk al P f q hin r bs) (nx:Hn P):Hn P:=.call f al fp true rfl q q (bY.refl q) true rfl hin r bs h nx
def _root_.Go.Vx.Hn.op {P:Program} (x:Int) (h:-9223372036854775808 ≤ x ∧ x ≤ 9223372036854775807) (nx:Hn P):Hn P:=.opt (ap .i64 x) (.v (.int .i64 x)) (fj h) nx
def _root_.Go.Vx.Hn.ow {P:Program} (x:Int) (nx:Hn P) (h:-9223372036854775808 ≤ x ∧ x ≤ 9223372036854775807:=by omega):Hn P:=.opt (ap .i64 x) (.v (.int .i64 x)) (fj h) nx
theorem wr {p:Prop} (h:p:=by with_reducible rfl):p:=h
theorem om {p:Prop} (h:p:=by omega):p:=h
theorem bk {p:Prop} (h:p:=by assumption):p:=h
theorem ro {p:Prop} (h:p:=by repeat' first | exact trivial | exact rfl | exact (fun _=>de _) | exact (fun _=>by assumption) | exact (fun _=>bF _ (fun _=>rfl) _) | exact (fun _=>dN (fun _=>rfl) _) | (intro h; cases h; done) | (intro _; rfl) | (intro _; exact ct _ (bF _ (fun _=>rfl) _)) | exact i5 _ (bF _ (fun _=>rfl) _) | refine And.intro ?_ ?_ | refine fJ ?_ ?_ | (intro _; refine cP ?_ ?_) | refine cP ?_ ?_ | (intro _; refine gg ?_ ?_) | exact ct _ (bF _ (fun _=>rfl) _) | exact bF _ (fun _=>rfl) _):p:=h
theorem q5:ax Try.prog 5:=.of Try.func5 rfl rfl
theorem q7:ax Try.prog 7:=.of Try.func7 rfl rfl
theorem q9:ax Try.prog 9:=.of Try.func9 rfl rfl
theorem Is:ax Try.prog 25:=.of Try.func25 rfl rfl
theorem CK:ax Try.prog 26:=.of Try.func26 rfl rfl
theorem J1:ax Try.prog 28:=.of Try.func28 rfl rfl
theorem J2:ax Try.prog 29:=.of Try.func29 rfl rfl
theorem A1:ax Try.prog 31:=.of Try.func31 rfl rfl
theorem Kk:ax Try.prog 39:=.of Try.func39 rfl rfl
theorem HI:ax Try.prog 47:=.of Try.func47 rfl rfl
theorem FA:ax Try.prog 73:=.of Try.func73 rfl rfl
theorem Kl:ax Try.prog 79:=.of Try.func79 rfl rfl
theorem Km:ax Try.prog 81:=.of Try.func81 rfl rfl
theorem Kn:ax Try.prog 86:=.of Try.func86 rfl rfl
theorem Ko:ax Try.prog 89:=.of Try.func89 rfl rfl
theorem Kp:ax Try.prog 92:=.of Try.func92 rfl rfl
theorem Kq:ax Try.prog 97:=.of Try.func97 rfl rfl
theorem CL:ax Try.prog 98:=.of Try.func98 rfl rfl
theorem CM:ax Try.prog 99:=.of Try.func99 rfl rfl
theorem CN:ax Try.prog 100:=.of Try.func100 rfl rfl
theorem It:ax Try.prog 103:=.of Try.func103 rfl rfl
theorem dL:ax Try.prog 107:=.of Try.func107 rfl rfl
theorem FB:ax Try.prog 114:=.of Try.func114 rfl rfl
theorem v9:ax Try.prog 121:=.of Try.func121 rfl rfl
theorem Iu:ax Try.prog 122:=.of Try.func122 rfl rfl
theorem Iv:ax Try.prog 126:=.of Try.func126 rfl rfl
theorem Iw:ax Try.prog 134:=.of Try.func134 rfl rfl
theorem Ix:ax Try.prog 136:=.of Try.func136 rfl rfl
end Go.Proofs.Ytefjnofhgkjpmaa
namespace Go.Proofs.Ytefjnofhgkjpmaa
open Go.RowKit Go.Bw Go.Vx
namespace Vp
abbrev iD (i:Int):D:=.v (.int .i64 i)
abbrev cM:D:=.v (.slice none 0 0)
abbrev nD (n:Nat):D:=.v (.int .i64 (n:Int))
abbrev bD (b:Bool):D:=.v (.bool b)
abbrev ie (n:Nat):D:=.v (.int .u8 (n:Int))
def lk {α β:Type} (b:List β) (x:α):α:=match b with
 | []=>x
 | _ :: _=>x
theorem aA {α β:Type} (b:List β) (x:α):lk b x = x:=by cases b <;> rfl
def Iy (b:List UInt8) (p:Nat):Nat:=(b.getD (p / 8) i4).toNat / 2 ^ (p % 8) % 2
def FC (b:List UInt8) (p:Nat):Nat → Nat
 | 0=>0
 | n + 1=>FC b p n + 2 ^ n * Iy b (p + n)
def Iz (b:List UInt8) (p m:Nat):Nat:=lk b (if 8 * b.length < p + m then 0 else FC b p m)
def Kr (b:List UInt8) (p m:Nat):Nat:=lk b (if 8 * b.length < p + m then 10 else 0)
def aL:List UInt8 → Nat
 | []=>0
 | x :: r=>(if x.toNat = 0 then 0 else 2 ^ (15 - x.toNat)) + aL r
def bb:List UInt8 → Nat
 | []=>0
 | x :: r=>(if x.toNat = 0 then 0 else 1) + bb r
def dj (l:List UInt8) (most:Nat):Bool:=l.any fun x=>decide (most < x.toNat)
theorem uA (a c:List UInt8):aL (a ++ c) = aL a + aL c:=by
 induction a with
 | nil=>simp [aL]
 | cons x r ih=>rw [Mr,aL,aL,ih]; omega
theorem uB (a c:List UInt8):bb (a ++ c) = bb a + bb c:=by
 induction a with
 | nil=>simp [bb]
 | cons x r ih=>rw [Mr,bb,bb,ih]; omega
theorem wa (l:List UInt8):bb l ≤ l.length:=by
 induction l with
 | nil=>exact KG _
 | cons x r ih=>rw [bb,KU]; split <;> omega
theorem wb (l:List UInt8):aL l ≤ l.length * 32768:=by
 induction l with
 | nil=>exact KG _
 | cons x r ih =>
  rw [aL,KU]
  have:2 ^ (15 - x.toNat) ≤ 2 ^ 15:=Ln (by decide) (by omega)
  split <;> omega
theorem mU {l:List UInt8} {i:Nat} (h:i < l.length):l.take (i + 1) = l.take i ++ [l.getD i i4]:=k6 h
theorem fO {l:List UInt8} {i:Nat} (h:i < l.length):aL (l.take (i + 1)) = aL (l.take i) + (if (l.getD i i4).toNat = 0 then 0 else 2 ^ (15 - (l.getD i i4).toNat)):=by
 rw [mU h,uA]; rfl
theorem hJ {l:List UInt8} {i:Nat} (h:i < l.length):bb (l.take (i + 1)) = bb (l.take i) + (if (l.getD i i4).toNat = 0 then 0 else 1):=by
 rw [mU h,uB]; rfl
def rF (l:List UInt8) (most:Nat):Nat :=
 if 320 < l.length then 4 else if dj l most = true then 2 else if 32768 < aL l then 30
 else if aL l = 32768 ∨ bb l = 0 ∨ bb l = 1 ∧ aL l = 16384 then 0 else 31
def cz (l:List UInt8) (most:Nat):Nat:=lk l (rF l most)
theorem iA (l:List UInt8) (most:Nat):cz l most = rF l most:=aA _ _
theorem sZ {l:List UInt8} {most i:Nat} (h:i < l.length) (h2:most < (l.getD i i4).toNat):dj l most = true:=by
 unfold dj
 rw [NG]
 refine ⟨l.getD i i4,?_,decide_eq_true h2⟩
 rw [List.getD_eq_getElem?_getD,List.getElem?_eq_getElem h]; exact Ld h
theorem j5 {l:List UInt8} {most:Nat} (h:∀ i,i < l.length → (l.getD i i4).toNat ≤ most):dj l most = false:=by
 unfold dj
 rw [List.any_eq_false]
 intro x hx
 obtain ⟨i,hi⟩:=List.getElem?_of_mem hx
 have hlt:=(List.getElem?_eq_some_iff.1 hi).1
 have:=h i hlt
 rw [List.getD_eq_getElem?_getD,hi] at this
 simpa using this
theorem eJ {l:List UInt8} {most:Nat} (h:dj l most = false) {i:Nat} (hi:i < l.length):(l.getD i i4).toNat ≤ most:=by
 rcases K3 most (l.getD i i4).toNat with q | q
 ·rw [sZ hi q] at h; cases h
 ·exact q
theorem eU {l:List UInt8} {most:Nat} (h:cz l most = 0):l.length ≤ 320 ∧ dj l most = false ∧ aL l ≤ 32768:=by
 rw [iA] at h; unfold rF at h
 split at h
 ·cases h
 ·split at h
  ·cases h
  ·split at h
   ·cases h
   ·refine ⟨by omega,by simp_all,by omega⟩
def ef (l:List UInt8) (n k:Nat):List Nat:=(Lf k).filter fun i=>decide ((l.getD i i4).toNat = n)
def pN (l:List UInt8):Nat → List Nat
 | 0=>[]
 | n + 1=>pN l n ++ (if n = 0 then [] else ef l n l.length)
def wc (l:List UInt8) (n:Nat):Nat:=if n = 0 then 0 else (ef l n l.length).length
def aD (l:List UInt8) (n:Nat):Nat:=lk l (wc l n)
def cT (l:List UInt8):List Nat:=lk l (pN l 16)
def J3 (f:Nat → Nat):List D:=[nD (f 0),nD (f 1),nD (f 2),nD (f 3),nD (f 4),nD (f 5),nD (f 6),nD (f 7),nD (f 8),nD (f 9),nD (f 10),nD (f 11),nD (f 12),nD (f 13),nD (f 14),nD (f 15)]
def FD (m:Nat) (l:List UInt8):List D:=J3 (aD l) ++ [.sl false m 1 ((cT l).map nD)]
abbrev A3 (m:Nat) (l:List UInt8):D:=.agg (FD m l)
theorem gK (l:List UInt8) (n k:Nat):ef l n (k + 1) = ef l n k ++ (if (l.getD k i4).toNat = n then [k] else []):=by
 unfold ef
 rw [MJ,LD]
 congr 1
 rw [List.filter_cons,OE]
 by_cases h:(l.getD k i4).toNat = n
 ·rw [if_pos h,if_pos (decide_eq_true h)]
 ·rw [if_neg h,if_neg (by simpa using h)]
theorem yG (l:List UInt8) (n k:Nat):(ef l n k).length ≤ k:=by
 unfold ef
 exact KK (M7 _ _) (by simp)
theorem wd {l:List UInt8} {n k i:Nat}:i ∈ ef l n k ↔ i < k ∧ (l.getD i i4).toNat = n:=by
 unfold ef; simp
theorem k7 (l:List UInt8) (n:Nat):aD l n = wc l n:=aA _ _
@[simp] theorem k8 (xs:List Nat):aa (xs.map nD) = true:=bF _ (fun _=>rfl) xs
end Vp
end Go.Proofs.Ytefjnofhgkjpmaa
namespace Go.Proofs.Ytefjnofhgkjpmaa
open Go.RowKit Go.Bw Go.Vx
open List (length getD map take drop flatMap replicate)
namespace Vp
def rb (s:Nat):Nat:=if s = 16 then 2 else if s = 17 then 3 else if s = 18 then 7 else 0
def p2 (s:Nat):Nat:=2 ^ rb s
structure Rn where
 s:Nat
 x:Nat
 deriving Inhabited
abbrev ek (r:Rn):List D:=[nD r.s,nD r.x]
theorem we (s:Nat):p2 s ≤ 128 ∧ rb s ≤ 7:=by unfold p2 rb; split; decide; split; decide; split <;> decide
theorem FE (s:Nat) (h:s ≤ 18):SpecH false Try.prog 81 [nD s] [] (.tup [nD (rb s),iD 0]) []:=by
 refine SpecH.run T_ok ag Try.func81 rfl rfl rfl trivial rfl 1000 64 (fun R ok=>(.s 13 (.f (decide (18 < (s:Int))) (by (refine decide_eq_false ?_; (omega))) (.s 4 (.br ((s:Int) == 16) (fun p0=>have p0f:=eq_of_beq p0; (.s 2 (.out [] [] (D.tup [zI 2,zI 0]) [] R (ok _ _ (by ( (have hs:s = 16:=by omega); subst hs; rfl)) wr)))) (fun p0=>have p0f:=am p0; (.s 4 (.br ((s:Int) == 17) (fun p1=>have p1f:=eq_of_beq p1; (.s 2 (.out [] [] (D.tup [zI 3,zI 0]) [] R (ok _ _ (by ( (have hs:s = 17:=by omega); subst hs; rfl)) wr)))) (fun p1=>have p1f:=am p1; (.s 4 (.br ((s:Int) == 18) (fun p2=>have p2f:=eq_of_beq p2; (.s 2 (.out [] [] (D.tup [zI 7,zI 0]) [] R (ok _ _ (by ( (have hs:s = 18:=by omega); subst hs; rfl)) wr)))) (fun p2=>have p2f:=am p2; (.s 2 (.out [] [] (D.tup [zI 0,zI 0]) [] R (ok _ _ (by ( rw [show rb s = 0 from by unfold rb; rw [if_neg om,if_neg om,if_neg om]]; rfl)) wr))))))))))))))) (by kernel_rfl)
structure Sy where
 bits:Nat
 least:Nat
 many:Nat
 deriving Inhabited
abbrev gL (s:Sy):List D:=[nD s.bits,nD s.least,nD s.many]
def aB:List Sy:=[⟨0,3,1⟩,⟨0,4,1⟩,⟨0,5,1⟩,⟨0,6,1⟩,⟨0,7,1⟩,⟨0,8,1⟩,⟨0,9,1⟩,⟨0,10,1⟩,⟨1,11,2⟩,⟨1,13,2⟩,⟨1,15,2⟩,⟨1,17,2⟩,⟨2,19,4⟩,⟨2,23,4⟩,⟨2,27,4⟩,⟨2,31,4⟩,⟨3,35,8⟩,⟨3,43,8⟩,⟨3,51,8⟩,⟨3,59,8⟩,⟨4,67,16⟩,⟨4,83,16⟩,⟨4,99,16⟩,⟨4,115,16⟩,⟨5,131,32⟩,⟨5,163,32⟩,⟨5,195,32⟩,⟨5,227,31⟩,⟨0,258,1⟩]
def aP:List Sy:=[⟨0,1,1⟩,⟨0,2,1⟩,⟨0,3,1⟩,⟨0,4,1⟩,⟨1,5,2⟩,⟨1,7,2⟩,⟨2,9,4⟩,⟨2,13,4⟩,⟨3,17,8⟩,⟨3,25,8⟩,⟨4,33,16⟩,⟨4,49,16⟩,⟨5,65,32⟩,⟨5,97,32⟩,⟨6,129,64⟩,⟨6,193,64⟩,⟨7,257,128⟩,⟨7,385,128⟩,⟨8,513,256⟩,⟨8,769,256⟩,⟨9,1025,512⟩,⟨9,1537,512⟩,⟨10,2049,1024⟩,⟨10,3073,1024⟩,⟨11,4097,2048⟩,⟨11,6145,2048⟩,⟨12,8193,4096⟩,⟨12,12289,4096⟩,⟨13,16385,8192⟩,⟨13,24577,8192⟩]
theorem yH (T:List Sy) (hT:T = aB):SpecH false Try.prog 89 [] [] (.agg [iD 257,.ref 0 0 0 29 3]) [⟨T.flatMap gL, 167, true⟩]:=by
 refine SpecH.run T_ok ag Try.func89 rfl rfl rfl ⟨ee (fun _=>rfl) _,trivial⟩ rfl 4000 64 (fun R ok=>(.s 1376 (.out [5080] [5080] (D.agg [zI 257,D.ref 0 0 0 29 3]) [Blk.mk [zI 0,zI 3,zI 1,zI 0,zI 4,zI 1,zI 0,zI 5,zI 1,zI 0,zI 6,zI 1,zI 0,zI 7,zI 1,zI 0,zI 8,zI 1,zI 0,zI 9,zI 1,zI 0,zI 10,zI 1,zI 1,zI 11,zI 2,zI 1,zI 13,zI 2,zI 1,zI 15,zI 2,zI 1,zI 17,zI 2,zI 2,zI 19,zI 4,zI 2,zI 23,zI 4,zI 2,zI 27,zI 4,zI 2,zI 31,zI 4,zI 3,zI 35,zI 8,zI 3,zI 43,zI 8,zI 3,zI 51,zI 8,zI 3,zI 59,zI 8,zI 4,zI 67,zI 16,zI 4,zI 83,zI 16,zI 4,zI 99,zI 16,zI 4,zI 115,zI 16,zI 5,zI 131,zI 32,zI 5,zI 163,zI 32,zI 5,zI 195,zI 32,zI 5,zI 227,zI 31,zI 0,zI 258,zI 1] 167 true] R (ok _ _ wr (by (subst hT; rfl)))))) (by kernel_rfl)
theorem CP (T:List Sy) (hT:T = aP):SpecH false Try.prog 92 [] [] (.agg [iD 0,.ref 0 0 0 30 3]) [⟨T.flatMap gL, 167, true⟩]:=by
 refine SpecH.run T_ok ag Try.func92 rfl rfl rfl ⟨ee (fun _=>rfl) _,trivial⟩ rfl 4000 64 (fun R ok=>(.s 1562 (.out [5768] [5768] (D.agg [zI 0,D.ref 0 0 0 30 3]) [Blk.mk [zI 0,zI 1,zI 1,zI 0,zI 2,zI 1,zI 0,zI 3,zI 1,zI 0,zI 4,zI 1,zI 1,zI 5,zI 2,zI 1,zI 7,zI 2,zI 2,zI 9,zI 4,zI 2,zI 13,zI 4,zI 3,zI 17,zI 8,zI 3,zI 25,zI 8,zI 4,zI 33,zI 16,zI 4,zI 49,zI 16,zI 5,zI 65,zI 32,zI 5,zI 97,zI 32,zI 6,zI 129,zI 64,zI 6,zI 193,zI 64,zI 7,zI 257,zI 128,zI 7,zI 385,zI 128,zI 8,zI 513,zI 256,zI 8,zI 769,zI 256,zI 9,zI 1025,zI 512,zI 9,zI 1537,zI 512,zI 10,zI 2049,zI 1024,zI 10,zI 3073,zI 1024,zI 11,zI 4097,zI 2048,zI 11,zI 6145,zI 2048,zI 12,zI 8193,zI 4096,zI 12,zI 12289,zI 4096,zI 13,zI 16385,zI 8192,zI 13,zI 24577,zI 8192] 167 true] R (ok _ _ wr (by (subst hT; rfl)))))) (by kernel_rfl)
end Vp
end Go.Proofs.Ytefjnofhgkjpmaa
namespace Go.Proofs.Ytefjnofhgkjpmaa
open Go.RowKit Go.Bw Go.Vx
open List (length getD map take drop flatMap replicate)
namespace Vp
theorem xG {p:Prop} (h:p:=by (refine aJ ?_; (omega))):p:=h
theorem CQ {p:Prop} (h:p:=by (simp only [ba (k:=2) (fun (x:Rn)=>(rfl:(ek x).length = 2)),Nat.beq_refl,Bool.true_and,Bool.and_true]; refine Nat.ble_eq_true_of_le ?_; (omega))):p:=h
theorem CS {p:Prop} (h:p:=by (rw [List.length_append]; rfl)):p:=h
theorem CT {p:Prop} (h:p:=by (rw [List.length_append]; simp only [List.length_singleton]; (omega))):p:=h
theorem FF {p:Prop} (h:p:=by ((refine aF ?_ ?_) <;> (repeat' (first | (refine aF ?_ ?_) | (with_reducible rfl) | (refine decide_eq_true ?_) | (refine Nat.ble_eq_true_of_le ?_) | (refine er ?_))) <;> (omega))):p:=h
theorem HJ {p:Prop} (h:p:=by show n - (a + 1) < n - a; clear next1 last1; omega):p:=h
theorem IA {p:Prop} (h:p:=by (simp;  have h9:=k9 (l:=l) (a:=a) om; omega)):p:=h
theorem IB {p:Prop} (h:p:=by ( have h9:=k9 (l:=l) (a:=a) om; omega)):p:=h
theorem IC {p:Prop} (h:p:=by (simp only [Nat.mul_one] at *;  have h9:=k9 (l:=l) (a:=a) om; exact FK hR om om om om)):p:=h
def rG (l:List UInt8) (a:Nat):Nat → Nat → Nat
 | 0,n=>n
 | f + 1,n=>if a + n < l.length ∧ l.getD (a + n) i4 = l.getD a i4 then rG l a f (n + 1) else n
def cb (l:List UInt8) (a:Nat):Nat:=lk l (rG l a l.length 0)
theorem wg (l:List UInt8) (a:Nat):cb l a = rG l a l.length 0:=aA _ _
theorem ID {l:List UInt8} {a f n T:Nat} (hR:rG l a f n = T) (hf:l.length ≤ a + n + f) (h:a + n < l.length) (h2:l.getD (a + n) i4 = l.getD a i4):rG l a (f - 1) (n + 1) = T:=by
 obtain ⟨g,rfl⟩:∃ g,f = g + 1:=⟨f - 1,by omega⟩
 rw [← hR]; exact (if_pos ⟨h,h2⟩).symm
theorem FG {l:List UInt8} {a f n T:Nat} (hR:rG l a f n = T) (h:¬ (a + n < l.length ∧ l.getD (a + n) i4 = l.getD a i4)):n = T:=by
 rw [← hR]; cases f with
 | zero=>rfl
 | succ f=>exact (if_neg h).symm
theorem A4 {x y:UInt8} (h:((x.toNat:Nat):Int) = ((y.toNat:Nat):Int)):x = y:=UInt8.toNat_inj.1 (by omega)
theorem FH {l:List UInt8} {a f n T u v:Nat} (hR:rG l a f n = T) (hf:l.length ≤ a + n + f) (h:a + n < l.length) (hu:u = a + n) (hv:v = a) (h2:(((l.getD u i4).toNat:Nat):Int) = (((l.getD v i4).toNat:Nat):Int)):rG l a (f - 1) (n + 1) = T:=by
 subst hu hv; exact ID hR hf h (A4 h2)
theorem FI {l:List UInt8} {a f n T u v:Nat} (hR:rG l a f n = T) (hu:u = a + n) (hv:v = a) (h2:(((l.getD u i4).toNat:Nat):Int) ≠ (((l.getD v i4).toNat:Nat):Int)):n = T:=by
 subst hu hv; exact FG hR (fun q=>h2 (by rw [q.2]))
theorem A5 {l:List UInt8} {a:Nat}:∀ (f n:Nat),a + n ≤ l.length → n ≤ rG l a f n ∧ a + rG l a f n ≤ l.length
 | 0,n,h=>⟨KG _,h⟩
 | f + 1,n,h=>by
  rw [rG]; split
  ·next q=>have:=A5 (l:=l) (a:=a) f (n + 1) (by omega); omega
  ·exact ⟨KG _,h⟩
theorem k9 {l:List UInt8} {a:Nat} (h:a < l.length):1 ≤ cb l a ∧ a + cb l a ≤ l.length:=by
 rw [wg]
 obtain ⟨f,hf⟩:∃ f,l.length = f + 1:=⟨l.length - 1,by omega⟩
 rw [hf,rG,if_pos ⟨by omega,by rw [MG]⟩]
 have:=A5 (l:=l) (a:=a) f (0 + 1) (by omega)
 omega
def i9 (l:List UInt8):Nat → Nat → List Rn
 | 0,_=>[]
 | f + 1,a=>if l.length ≤ a then []
  else if (l.getD a i4).toNat = 0 ∧ 11 ≤ cb l a then ⟨18,min (cb l a) 138 - 11⟩ :: i9 l f (a + min (cb l a) 138)
  else if (l.getD a i4).toNat = 0 ∧ 3 ≤ cb l a then ⟨17,cb l a - 3⟩ :: i9 l f (a + cb l a)
  else if 0 < (l.getD a i4).toNat ∧ 0 < a ∧ (l.getD (a - 1) i4).toNat = (l.getD a i4).toNat ∧ 3 ≤ cb l a then ⟨16,min (cb l a) 6 - 3⟩ :: i9 l f (a + min (cb l a) 6)
  else ⟨(l.getD a i4).toNat,0⟩ :: i9 l f (a + 1)
def uM (l:List UInt8):List Rn:=lk l (i9 l l.length 0)
theorem rH (l:List UInt8):uM l = i9 l l.length 0:=aA _ _
section
variable {l:List UInt8} {f a:Nat} {o T:List Rn}
theorem FJ (hR:o ++ i9 l f a = T) (h:l.length ≤ a):o = T:=by
 rw [← hR]; cases f with
 | zero=>exact (Lk _).symm
 | succ f=>rw [i9,if_pos h]; exact (Lk _).symm
theorem IE (hR:o ++ i9 l f a = T) (hf:l.length ≤ a + f) (h:a < l.length) (h0:(l.getD a i4).toNat = 0) (h1:11 ≤ cb l a):(o ++ [⟨18,min (cb l a) 138 - 11⟩]) ++ i9 l (f - 1) (a + min (cb l a) 138) = T:=by
 obtain ⟨g,rfl⟩:∃ g,f = g + 1:=⟨f - 1,by omega⟩
 rw [← hR,i9,if_neg (by omega),if_pos ⟨h0,h1⟩,KS]; rfl
theorem IF (hR:o ++ i9 l f a = T) (hf:l.length ≤ a + f) (h:a < l.length) (h0:(l.getD a i4).toNat = 0) (h1:¬ 11 ≤ cb l a) (h2:3 ≤ cb l a):(o ++ [⟨17,cb l a - 3⟩]) ++ i9 l (f - 1) (a + cb l a) = T:=by
 obtain ⟨g,rfl⟩:∃ g,f = g + 1:=⟨f - 1,by omega⟩
 rw [← hR,i9,if_neg (by omega),if_neg (fun q=>h1 q.2),if_pos ⟨h0,h2⟩,KS]; rfl
theorem IG (hR:o ++ i9 l f a = T) (hf:l.length ≤ a + f) (h:a < l.length) (h0:0 < (l.getD a i4).toNat) (ha:0 < a) (h1:(l.getD (a - 1) i4).toNat = (l.getD a i4).toNat) (h2:3 ≤ cb l a):(o ++ [⟨16,min (cb l a) 6 - 3⟩]) ++ i9 l (f - 1) (a + min (cb l a) 6) = T:=by
 obtain ⟨g,rfl⟩:∃ g,f = g + 1:=⟨f - 1,by omega⟩
 rw [← hR,i9,if_neg (by omega),if_neg (fun q=>by omega),if_neg (fun q=>by omega),if_pos ⟨h0,ha,h1,h2⟩,KS]; rfl
theorem FK (hR:o ++ i9 l f a = T) (hf:l.length ≤ a + f) (h:a < l.length) (h0:¬ ((l.getD a i4).toNat = 0 ∧ 3 ≤ cb l a)) (h1:¬ (0 < (l.getD a i4).toNat ∧ 0 < a ∧ (l.getD (a - 1) i4).toNat = (l.getD a i4).toNat ∧ 3 ≤ cb l a)):(o ++ [⟨(l.getD a i4).toNat,0⟩]) ++ i9 l (f - 1) (a + 1) = T:=by
 obtain ⟨g,rfl⟩:∃ g,f = g + 1:=⟨f - 1,by omega⟩
 rw [← hR,i9,if_neg (by omega),if_neg (fun q=>h0 ⟨q.1,by omega⟩),if_neg h0,if_neg h1,KS]; rfl
end
theorem yI (l:List UInt8) (n:Nat) (hn:n = l.length) (hn2:n ≤ 320) (a:Nat) (ha:a < n):SpecH false Try.prog 103 [nD a,.ep [.sl false n 1 (l.map dB)] 0] [] (nD (cb l a)) []:=by
 refine SpecH.run T_ok ag Try.func103 rfl rfl rfl trivial rfl 1000 64 (fun R ok=>(.s 1 (Hn.inl T_ok ag false 26 0 (aq Try.prog 103 0) (fun (x:(i:Nat) ×' (f:Nat) ×' (hi:a + i ≤ n) ×' (hf:n ≤ a + i + f) ×' (hR:rG l a f i = cb l a) ×' Unit)=>match x with | ⟨i,f,hi,hf,hR,_⟩=>CutS.mk [(0,zN a),(1,D.ep [D.sl false n 1 (map dB l)] 0),(3,nD i)] [] 0) (fun (x:(i:Nat) ×' (f:Nat) ×' (hi:a + i ≤ n) ×' (hf:n ≤ a + i + f) ×' (hR:rG l a f i = cb l a) ×' Unit)=>match x with | ⟨i,f,hi,hf,hR,_⟩=>n - i) [⟨Unit,.exit 0,fun x=>match x with | ()=>CutS.mk [(0,zN a),(1,D.ep [D.sl false n 1 (map dB l)] 0),(3,nD (cb l a))] [] 0⟩] 1000 64 (fun | ⟨i,f,hi,hf,hR,_⟩,Q,next1,last1=>(.s 5 (.ow ((a:Int) + (i:Int)) (.s 8 (.br (decide ((a:Int) + (i:Int) < (n:Int))) (fun p0=>have p0f:=aN p0; (.s 9 (.ow ((a:Int) + (i:Int)) (.s 2 (.chk (true && decide ((a:Int) + (i:Int) < (n:Int)) && true) FF (.s 3 (.opt ((map dB l)[un ((a:Int) + (i:Int)) * 1]?) (dB (getD l (un ((a:Int) + (i:Int)) * 1) i4)) (ao _ _ om) (.s 8 (.chk (true && decide ((a:Int) < (n:Int)) && true) FF (.s 3 (.opt ((map dB l)[a * 1]?) (dB (getD l (a * 1) i4)) (ao _ _ om) (.s 4 (.br ((↑(Ku (getD l (un ((a:Int) + (i:Int)) * 1) i4)):Int) == (↑(Ku (getD l (a * 1) i4)):Int)) (fun p1=>have p1f:=eq_of_beq p1; (.s 3 (.ow ((i:Int) + 1) (.s 1 (.val 3 (zI ((i:Int) + 1)) (zN (i + 1)) xG (Hn.next next1 ⟨(i + 1),(f - 1),om,om,(by ( exact FH (u:=((a:Int) + (i:Int)).toNat * 1) (v:=a * 1) hR om om om om om)),⟨⟩⟩ (by show n - (i + 1) < n - i; clear next1 last1; omega) [] ro)))))) (fun p1=>have p1f:=am p1; (.val 3 (zN i) (zN (cb l a)) (by ( rw [FI (u:=((a:Int) + (i:Int)).toNat * 1) (v:=a * 1) hR om om om])) (Hn.last last1 0 (():Unit) rfl [] ro)))))))))))))))) (fun p0=>have p0f:=aO p0; (.s 22 (.val 3 (zN i) (zN (cb l a)) (by ( rw [FG hR om])) (Hn.last last1 0 (():Unit) rfl [] ro))))))))) (fun | ⟨i,f,hi,hf,hR,_⟩=>by kernel_rfl) ⟨(0),(n),om,om,(by (rw [hn]; exact (wg l a).symm)),⟨⟩⟩ [] ro (bX (fun | ()=>(.s 2 (.out [] [] (zN (cb l a)) [] R (ok _ _ wr wr)))))))) (by kernel_rfl)
theorem FL (n k:Nat):jD .i64 false (n:Int) (k:Int) = some (nD (min n k)):=yB (by omega)
theorem iB (l:List UInt8):∀ (f a:Nat),(i9 l f a).length ≤ f
 | 0,_=>KG _
 | f + 1,a=>by
  rw [i9]
  split
  ·exact Li _
  ·split
   ·exact Mq (iB l f _)
   ·split
    ·exact Mq (iB l f _)
    ·split
     ·exact Mq (iB l f _)
     ·exact Mq (iB l f _)
theorem IH (l:List UInt8) (n:Nat) (hn:n = l.length) (hn2:n ≤ 320) (ho:∀ i,i < n → (l.getD i i4).toNat ≤ 15) (T:List Rn) (hT:uM l = T):SpecH false Try.prog 78 [.sl false n 1 (l.map dB)] [] (.tup [.ref 0 0 0 T.length 2,iD 0]) [⟨T.flatMap ek, 150, true⟩]:=by
 refine SpecH.run T_ok ag Try.func78 rfl rfl rfl ⟨ee (fun _=>rfl) _,trivial⟩ rfl 1000 64 (fun R ok=>(.s 10 (.f (decide (320 < (n:Int))) (by (refine decide_eq_false ?_; (omega))) (.s 5 (Hn.inl T_ok ag false 101 0 (aq Try.prog 78 0) (fun (x:(i:Nat) ×' (hi:i ≤ n) ×' Unit)=>match x with | ⟨i,hi,_⟩=>CutS.mk [(1,D.ptr 0 0 0),(2,cM),(13,D.sl false n 1 (map dB l)),(14,zN n),(15,nD i)] [⟨0,0,0,0,.b ⟨[D.sl false n 1 (map dB l)],24,false⟩⟩] 8) (fun (x:(i:Nat) ×' (hi:i ≤ n) ×' Unit)=>match x with | ⟨i,hi,_⟩=>n - i) [⟨Unit,.exit 0,fun x=>match x with | ()=>CutS.mk [(1,D.ptr 0 0 0),(2,cM),(13,D.sl false n 1 (map dB l)),(14,zN n),(15,nD n)] [⟨0,0,0,0,.b ⟨[D.sl false n 1 (map dB l)],24,false⟩⟩] 8⟩] 1000 64 (fun | ⟨i,hi,_⟩,Q,next1,last1=>(.s 2 (.br (decide ((i:Int) < (n:Int))) (fun p0=>have p0f:=aN p0; (.s 1 (.chk (true && decide ((i:Int) < (n:Int)) && true) FF (.s 2 (.opt ((map dB l)[i * 1]?) (dB (getD l (i * 1) i4)) (ao _ _ om) (.s 4 (.f (decide (15 < (↑(Ku (getD l (i * 1) i4)):Int))) (by (refine decide_eq_false ?_;  have h9:=ho (i * 1) om; omega)) (.s 2 (.ow ((i:Int) + 1) (.s 1 (.val 15 (zI ((i:Int) + 1)) (zN (i + 1)) xG (Hn.next next1 ⟨(i + 1),om,⟨⟩⟩ (by show n - (i + 1) < n - i; clear next1 last1; omega) [(0,0)] ro)))))))))))) (fun p0=>have p0f:=aO p0; (.val 15 (zN i) (zN n) xG (Hn.last last1 0 (():Unit) rfl [(0,0)] ro)))))) (fun | ⟨i,hi,_⟩=>by kernel_rfl) ⟨(0),om,⟨⟩⟩ [(0,0)] ro (bX (fun | ()=>(.s 3 (.nils 2 32 2 150 (Hn.inl T_ok ag false 101 0 (aq Try.prog 78 1) (fun (x:(a:Nat) ×' (f:Nat) ×' (o:List Rn) ×' (ha:a ≤ n) ×' (hf:n ≤ a + f) ×' (hq:o.length ≤ a) ×' (hR:o ++ i9 l f a = T) ×' Unit)=>match x with | ⟨a,f,o,ha,hf,hq,hR,_⟩=>CutS.mk [(1,D.ptr 0 0 0),(2,(D.ref 8 8 (0) (o.length) 2)),(6,D.fn (K9 103) [] [D.ptr 0 0 0]),(7,nD a)] [⟨0,0,0,0,.b ⟨[D.sl false n 1 (map dB l)],24,false⟩⟩,⟨8,8,32,32,.b ⟨o.flatMap ek,150,true⟩⟩] 16) (fun (x:(a:Nat) ×' (f:Nat) ×' (o:List Rn) ×' (ha:a ≤ n) ×' (hf:n ≤ a + f) ×' (hq:o.length ≤ a) ×' (hR:o ++ i9 l f a = T) ×' Unit)=>match x with | ⟨a,f,o,ha,hf,hq,hR,_⟩=>n - a) [⟨Unit,.exit 2,fun x=>match x with | ()=>CutS.mk [(1,D.ptr 0 0 0),(2,(D.ref 8 8 (0) (T.length) 2)),(6,D.fn (K9 103) [] [D.ptr 0 0 0])] [⟨0,0,0,0,.b ⟨[D.sl false n 1 (map dB l)],24,false⟩⟩,⟨8,8,32,32,.b ⟨T.flatMap ek,150,true⟩⟩] 16⟩] 1000 64 (fun | ⟨a,f,o,ha,hf,hq,hR,_⟩,Q,next1,last1=>(.s 7 (.br (decide ((a:Int) < (n:Int))) (fun p1=>have p1f:=aN p1; (.s 4 (.cl 103 false [] (.fn It (@yI (l) (n) om om (a) om)) (.s 5 (.chk (true && decide ((a:Int) < (n:Int)) && true) FF (.s 2 (.opt ((map dB l)[a * 1]?) (dB (getD l (a * 1) i4)) (ao _ _ om) (.s 1 (.op (↑(Ku (getD l (a * 1) i4)):Int) (by (exact fN _ (by decide) (by decide))) (.s 7 (.br ((↑(Ku (getD l (a * 1) i4)):Int) == 0) (fun p2=>have p2f:=eq_of_beq p2; (.s 5 (.br (decide (11 ≤ (↑(cb l a):Int))) (fun p3=>have p3f:=aN p3; (.s 2 (.opt (jD KY false (↑(cb l a):Int) (↑138:Int)) (nD (min (cb l a) 138)) (@FL (cb l a) 138 ) (.s 5 (.ow ((↑(min (cb l a) 138):Int) - 11) (.s 5 (.chk (true && Kv (length o * 2) (length (flatMap ek o)) && true && true && true && true && Kx ((length o + 1) * 16) 140737488355328) CQ (.s 5 (.ow ((a:Int) + (↑(min (cb l a) 138):Int)) (.s 1 (.val 2 (D.ref 248 248 0 (length o + 1) 2) (D.ref 248 248 0 (length (o ++ [Rn.mk 18 (min (cb l a) 138 - 11)])) 2) CS (.val 7 (zI ((a:Int) + (↑(min (cb l a) 138):Int))) (zN (a + min (cb l a) 138)) xG (.blk 248 248 (Blk.mk (flatMap ek o ++ [zI 18,zI ((↑(min (cb l a) 138):Int) - 11)]) 150 true) (Blk.mk (flatMap ek (o ++ [Rn.mk 18 (min (cb l a) 138 - 11)])) 150 true) IA (Hn.next next1 ⟨(a + min (cb l a) 138),(f - 1),(o ++ [⟨18,min (cb l a) 138 - 11⟩]),IB,om,CT,(by (simp only [KW] at *;  have h9:=k9 (l:=l) (a:=a) om; exact IE hR om om om om)),⟨⟩⟩ (by show n - (a + min (cb l a) 138) < n - a; clear next1 last1; omega) [(0,0),(248,248)] ro)))))))))))))) (fun p3=>have p3f:=aO p3; (.s 5 (.t ((↑(Ku (getD l (a * 1) i4)):Int) == 0) p2 (.s 5 (.br (decide (3 ≤ (↑(cb l a):Int))) (fun p4=>have p4f:=aN p4; (.s 4 (.ow ((↑(cb l a):Int) - 3) (.s 5 (.chk (true && Kv (length o * 2) (length (flatMap ek o)) && true && true && true && true && Kx ((length o + 1) * 16) 140737488355328) CQ (.s 5 (.ow ((a:Int) + (↑(cb l a):Int)) (.s 1 (.val 2 (D.ref 280 280 0 (length o + 1) 2) (D.ref 280 280 0 (length (o ++ [Rn.mk 17 (cb l a - 3)])) 2) CS (.val 7 (zI ((a:Int) + (↑(cb l a):Int))) (zN (a + cb l a)) xG (.blk 280 280 (Blk.mk (flatMap ek o ++ [zI 17,zI ((↑(cb l a):Int) - 3)]) 150 true) (Blk.mk (flatMap ek (o ++ [Rn.mk 17 (cb l a - 3)])) 150 true) IA (Hn.next next1 ⟨(a + cb l a),(f - 1),(o ++ [⟨17,cb l a - 3⟩]),IB,om,CT,(by (simp only [KW] at *;  have h9:=k9 (l:=l) (a:=a) om; exact IF hR om om om om om)),⟨⟩⟩ (by show n - (a + cb l a) < n - a; clear next1 last1; omega) [(0,0),(280,280)] ro)))))))))))) (fun p4=>have p4f:=aO p4; (.s 5 (.f (decide (0 < (↑(Ku (getD l (a * 1) i4)):Int))) (by (refine decide_eq_false ?_; (omega))) (.s 37 (.chk (true && Kv (length o * 2) (length (flatMap ek o)) && true && true && true && true && Kx ((length o + 1) * 16) 140737488355328) CQ (.s 5 (.ow ((a:Int) + 1) (.s 1 (.val 2 (D.ref 448 448 0 (length o + 1) 2) (D.ref 448 448 0 (length (o ++ [Rn.mk (Ku (getD l a i4)) 0])) 2) CS (.val 7 (zI ((a:Int) + 1)) (zN (a + 1)) xG (.blk 448 448 (Blk.mk (flatMap ek o ++ [zN (Ku (getD l (a * 1) i4)),zI 0]) 150 true) (Blk.mk (flatMap ek (o ++ [Rn.mk (Ku (getD l a i4)) 0])) 150 true) (by (simp; done)) (Hn.next next1 ⟨(a + 1),(f - 1),(o ++ [⟨(l.getD a i4).toNat,0⟩]),om,om,CT,IC,⟨⟩⟩ HJ [(0,0),(448,448)] ro)))))))))))))))))))) (fun p2=>have p2f:=am p2; (.s 10 (.f ((↑(Ku (getD l (a * 1) i4)):Int) == 0) p2 (.s 10 (.t (decide (0 < (↑(Ku (getD l (a * 1) i4)):Int))) (by (refine decide_eq_true ?_; (omega))) (.s 6 (.br (decide (0 < (a:Int))) (fun p5=>have p5f:=aN p5; (.s 7 (.ow ((a:Int) - 1) (.s 2 (.chk (decide (0 ≤ (a:Int) - 1) && decide ((a:Int) - 1 < (n:Int)) && true) FF (.s 3 (.opt ((map dB l)[un ((a:Int) - 1) * 1]?) (dB (getD l (un ((a:Int) - 1) * 1) i4)) (ao _ _ om) (.s 2 (.op (↑(Ku (getD l (un ((a:Int) - 1) * 1) i4)):Int) (by (exact fN _ (by decide) (by decide))) (.s 8 (.br ((↑(Ku (getD l (un ((a:Int) - 1) * 1) i4)):Int) == (↑(Ku (getD l (a * 1) i4)):Int)) (fun p6=>have p6f:=eq_of_beq p6; (.s 5 (.br (decide (3 ≤ (↑(cb l a):Int))) (fun p7=>have p7f:=aN p7; (.s 2 (.opt (jD KY false (↑(cb l a):Int) (↑6:Int)) (nD (min (cb l a) 6)) (@FL (cb l a) 6 ) (.s 5 (.ow ((↑(min (cb l a) 6):Int) - 3) (.s 5 (.chk (true && Kv (length o * 2) (length (flatMap ek o)) && true && true && true && true && Kx ((length o + 1) * 16) 140737488355328) CQ (.s 5 (.ow ((a:Int) + (↑(min (cb l a) 6):Int)) (.s 1 (.val 2 (D.ref 472 472 0 (length o + 1) 2) (D.ref 472 472 0 (length (o ++ [Rn.mk 16 (min (cb l a) 6 - 3)])) 2) CS (.val 7 (zI ((a:Int) + (↑(min (cb l a) 6):Int))) (zN (a + min (cb l a) 6)) xG (.blk 472 472 (Blk.mk (flatMap ek o ++ [zI 16,zI ((↑(min (cb l a) 6):Int) - 3)]) 150 true) (Blk.mk (flatMap ek (o ++ [Rn.mk 16 (min (cb l a) 6 - 3)])) 150 true) IA (Hn.next next1 ⟨(a + min (cb l a) 6),(f - 1),(o ++ [⟨16,min (cb l a) 6 - 3⟩]),IB,om,CT,(by (simp only [KW] at *;  have h9:=k9 (l:=l) (a:=a) om; exact IG hR om om om om (by rw [show ((a:Int) - 1).toNat = a - 1 from by omega] at *; omega) om)),⟨⟩⟩ (by show n - (a + min (cb l a) 6) < n - a; clear next1 last1; omega) [(0,0),(472,472)] ro)))))))))))))) (fun p7=>have p7f:=aO p7; (.s 8 (.chk (true && Kv (length o * 2) (length (flatMap ek o)) && true && true && true && true && Kx ((length o + 1) * 16) 140737488355328) CQ (.s 5 (.ow ((a:Int) + 1) (.s 1 (.val 2 (D.ref 448 448 0 (length o + 1) 2) (D.ref 448 448 0 (length (o ++ [Rn.mk (Ku (getD l a i4)) 0])) 2) CS (.val 7 (zI ((a:Int) + 1)) (zN (a + 1)) xG (.blk 448 448 (Blk.mk (flatMap ek o ++ [zN (Ku (getD l (a * 1) i4)),zI 0]) 150 true) (Blk.mk (flatMap ek (o ++ [Rn.mk (Ku (getD l a i4)) 0])) 150 true) (by (simp; done)) (Hn.next next1 ⟨(a + 1),(f - 1),(o ++ [⟨(l.getD a i4).toNat,0⟩]),om,om,CT,IC,⟨⟩⟩ HJ [(0,0),(448,448)] ro))))))))))))) (fun p6=>have p6f:=am p6; (.s 13 (.chk (true && Kv (length o * 2) (length (flatMap ek o)) && true && true && true && true && Kx ((length o + 1) * 16) 140737488355328) CQ (.s 5 (.ow ((a:Int) + 1) (.s 1 (.val 2 (D.ref 448 448 0 (length o + 1) 2) (D.ref 448 448 0 (length (o ++ [Rn.mk (Ku (getD l a i4)) 0])) 2) CS (.val 7 (zI ((a:Int) + 1)) (zN (a + 1)) xG (.blk 448 448 (Blk.mk (flatMap ek o ++ [zN (Ku (getD l (a * 1) i4)),zI 0]) 150 true) (Blk.mk (flatMap ek (o ++ [Rn.mk (Ku (getD l a i4)) 0])) 150 true) (by (simp; done)) (Hn.next next1 ⟨(a + 1),(f - 1),(o ++ [⟨(l.getD a i4).toNat,0⟩]),om,om,CT,(by (simp only [KW] at *;  have h9:=k9 (l:=l) (a:=a) om; rw [show ((a:Int) - 1).toNat = a - 1 from by omega] at *; exact FK hR om om om om)),⟨⟩⟩ HJ [(0,0),(448,448)] ro))))))))))))))))))))) (fun p5=>have p5f:=aO p5; (.s 31 (.chk (true && Kv (length o * 2) (length (flatMap ek o)) && true && true && true && true && Kx ((length o + 1) * 16) 140737488355328) CQ (.s 5 (.ow ((a:Int) + 1) (.s 1 (.val 2 (D.ref 448 448 0 (length o + 1) 2) (D.ref 448 448 0 (length (o ++ [Rn.mk (Ku (getD l a i4)) 0])) 2) CS (.val 7 (zI ((a:Int) + 1)) (zN (a + 1)) xG (.blk 448 448 (Blk.mk (flatMap ek o ++ [zN (Ku (getD l (a * 1) i4)),zI 0]) 150 true) (Blk.mk (flatMap ek (o ++ [Rn.mk (Ku (getD l a i4)) 0])) 150 true) (by (simp; done)) (Hn.next next1 ⟨(a + 1),(f - 1),(o ++ [⟨(l.getD a i4).toNat,0⟩]),om,om,CT,IC,⟨⟩⟩ HJ [(0,0),(448,448)] ro)))))))))))))))))))))))))))) (fun p1=>have p1f:=aO p1; (.val 2 (D.ref 8 8 0 (length o) 2) (D.ref 8 8 0 (length T) 2) (by ( rw [FJ hR om])) (.blk 8 8 (Blk.mk (flatMap ek o) 150 true) (Blk.mk (flatMap ek T) 150 true) (by ( rw [FJ hR om])) (Hn.last last1 0 (():Unit) rfl [(0,0),(8,8)] ro))))))) (fun | ⟨a,f,o,ha,hf,hq,hR,_⟩=>by kernel_rfl) ⟨(0),(n),([]),om,om,(by (simp; done)),(by (rw [hn]; exact (rH l).symm.trans hT)),⟨⟩⟩ [(0,0),(32,32)] ro (bX (fun | ()=>(.s 3 (.out [8] [8] (D.tup [D.ref 0 0 0 (length T) 2,zI 0]) [Blk.mk (flatMap ek T) 150 true] R (ok _ _ wr wr))))))))))))))) (by kernel_rfl)
end Vp
end Go.Proofs.Ytefjnofhgkjpmaa
namespace Go.Proofs.Ytefjnofhgkjpmaa
open Go.RowKit Go.Bw Go.Vx
namespace Vp
def xz (T:List Sy) (f:Int) (s:Nat):Nat:=if f ≤ s ∧ s < f + T.length then 0 else 90
def bP (T:List Sy):Prop:=∀ i,(T.getD i i4).bits ≤ 13 ∧ (T.getD i i4).least ≤ 100000 ∧ (T.getD i i4).many ≤ 100000
theorem pO {T:List Sy} (h:T.all (fun y=>decide (y.bits ≤ 13) && decide (y.least ≤ 100000) && decide (y.many ≤ 100000)) = true):bP T:=fun i=>by
 rw [List.getD_eq_getElem?_getD]
 cases hq:T[i]? with
 | none=>exact ⟨Li _,Li _,Li _⟩
 | some y =>
  have:=List.all_eq_true.1 h y (List.mem_of_getElem? hq)
  simp only [Ky,decide_eq_true_eq] at this
  exact ⟨this.1.1,this.1.2,this.2⟩
theorem FM {x:Int} (h:-9223372036854775808 ≤ x ∧ x ≤ 9223372036854775807):IntKind.i64.wrap x = x:=by
 have h2:=fj (x:=x) h
 rw [aE] at h2
 injection h2 with h3; injection h3 with h4; injection h4
theorem cU:bP aB:=pO (by decide)
theorem du:bP aP:=pO (by decide)
end Vp
end Go.Proofs.Ytefjnofhgkjpmaa
namespace Go.Proofs.Ytefjnofhgkjpmaa
open Go.RowKit Go.Bw Go.Vx
open List (length getD map take drop flatMap replicate)
namespace Vp
theorem II {p:Prop} (h:p:=by ( have q:=IJ hR om om rfl om om; have h9:=hz i; subst q; refine aJ ?_; omega)):p:=h
def FN (s:Sy) (n:Nat):Bool:=decide (s.least ≤ n ∧ n < s.least + s.many)
def mV (T:List Sy) (n:Nat):Nat → Nat → Nat
 | 0,i=>i
 | f + 1,i=>if FN (T.getD i i4) n = true then i else mV T n f (i + 1)
def ai (T:List Sy) (n:Nat):Nat:=lk T (mV T n T.length 0)
theorem la (T:List Sy) (n:Nat):ai T n = mV T n T.length 0:=aA _ _
theorem A6 {T:List Sy} {n:Nat}:∀ (f i:Nat),i ≤ mV T n f i
 | 0,_=>KG _
 | f + 1,i=>by
  rw [mV]; split
  ·exact KG _
  ·exact Nat.le_of_succ_le (A6 f (i + 1))
theorem IJ {T:List Sy} {n f i I u:Nat} (hR:mV T n f i = I) (hf:T.length ≤ i + f) (hi:i < T.length) (hu:u = i) (h1:(T.getD u i4).least ≤ n) (h2:n < (T.getD u i4).least + (T.getD u i4).many):i = I:=by
 subst hu
 obtain ⟨g,rfl⟩:∃ g,f = g + 1:=⟨f - 1,by omega⟩
 rw [← hR,mV,if_pos (show FN (T.getD u i4) n = true from decide_eq_true ⟨h1,h2⟩)]
theorem yJ {T:List Sy} {n f i I u:Nat} (hR:mV T n f i = I) (hf:T.length ≤ i + f) (hi:i < T.length) (hu:u = i) (h:¬ ((T.getD u i4).least ≤ n ∧ n < (T.getD u i4).least + (T.getD u i4).many)):mV T n (f - 1) (i + 1) = I ∧ i + 1 ≤ I:=by
 subst hu
 obtain ⟨g,rfl⟩:∃ g,f = g + 1:=⟨f - 1,by omega⟩
 rw [mV,if_neg (fun q:FN (T.getD u i4) n = true=>h (of_decide_eq_true q))] at hR
 exact ⟨hR,by rw [← hR]; exact A6 g (u + 1)⟩
theorem A7 {T:List Sy} {n:Nat}:∀ (f i:Nat),mV T n f i < i + f → (T.getD (mV T n f i) i4).least ≤ n ∧ n < (T.getD (mV T n f i) i4).least + (T.getD (mV T n f i) i4).many
 | 0,i,h=>absurd h (by rw [mV]; omega)
 | f + 1,i,h=>by
  rw [mV] at h ⊢
  by_cases q:FN (T.getD i i4) n = true
  ·rw [if_pos q]; exact of_decide_eq_true q
  ·rw [if_neg q] at h ⊢; exact A7 f (i + 1) (by omega)
def IK:List Sy → Nat → Nat → Bool
 | [],a,b=>Kv a b
 | s :: l,a,b=>Kv s.least a && IK l (a + s.many) b
theorem wh {n b:Nat} (T:List Sy):∀ (f i a:Nat),i + f = T.length → IK (T.drop i) a b = true → a ≤ n → n < b → mV T n f i < i + f
 | 0,i,a,h,hc,h1,h2=>by
  rw [LI (by omega)] at hc
  have:=Kz hc
  omega
 | f + 1,i,a,h,hc,h1,h2=>by
  rw [LS (by omega:i < T.length),IK,Ky] at hc
  have e:T.getD i i4 = T[i]'(by omega):=by rw [List.getD_eq_getElem?_getD,List.getElem?_eq_getElem (by omega)]; rfl
  have hl:=Kz hc.1
  rw [mV,e]
  by_cases q:FN (T[i]'(by omega)) n = true
  ·rw [if_pos q]; omega
  ·rw [if_neg q]
   have q2:=of_decide_eq_false (Bool.eq_false_iff.2 q)
   have:=wh (n:=n) (b:=b) T f (i + 1) (a + (T[i]'(by omega)).many) (by omega) hc.2 (by omega) h2
   omega
theorem wi (T:List Sy) (k:Nat) (hk:k = T.length) (hk2:k ≤ 64) (hz:bP T) (b:Nat) (hb:b ≤ 257) (n:Nat) (hn:n ≤ 40000) (I:Nat) (hI:ai T n = I) (hIk:I < k):SpecH false Try.prog 119 [.agg [nD b,.sl false k 3 (T.flatMap gL)],nD n] [] (.tup [nD (b + I),nD (T.getD I i4).bits,nD (n - (T.getD I i4).least),iD 0]) []:=by
 refine SpecH.run T_ok ag Try.func119 rfl rfl rfl trivial rfl 1000 64 (fun R ok=>(.s 14 (Hn.inl T_ok ag false 42 0 (aq Try.prog 119 0) (fun (x:(i:Nat) ×' (f:Nat) ×' (hi:i ≤ k) ×' (hf:k ≤ i + f) ×' (hR:mV T n f i = I) ×' (hi2:i ≤ I) ×' Unit)=>match x with | ⟨i,f,hi,hf,hR,hi2,_⟩=>CutS.mk [(1,zN n),(2,D.ptr 0 0 0),(11,D.sl false k 3 (flatMap gL T)),(12,zN k),(13,nD i)] [⟨0,0,0,0,.b ⟨[zN b,D.sl false k 3 (flatMap gL T)],171,false⟩⟩] 8) (fun (x:(i:Nat) ×' (f:Nat) ×' (hi:i ≤ k) ×' (hf:k ≤ i + f) ×' (hR:mV T n f i = I) ×' (hi2:i ≤ I) ×' Unit)=>match x with | ⟨i,f,hi,hf,hR,hi2,_⟩=>k - i) [⟨Unit,.ret,fun x=>match x with | ()=>CutS.mk [(4,nD (b + I)),(5,nD (T.getD I i4).bits),(6,nD (n - (T.getD I i4).least)),(7,iD 0)] [⟨0,0,0,0,.b ⟨[zN b,D.sl false k 3 (flatMap gL T)],171,false⟩⟩] 8⟩] 1000 64 (fun | ⟨i,f,hi,hf,hR,hi2,_⟩,Q,next1,last1=>(.s 2 (.t (decide ((i:Int) < (k:Int))) (by (refine decide_eq_true ?_; (omega))) (.s 2 (.chk (true && decide ((i:Int) < (k:Int)) && true) (by ((refine aF ?_ ?_) <;> (repeat' (first | (refine aF ?_ ?_) | (with_reducible rfl) | (refine decide_eq_true ?_) | (refine KA ?_) | (refine er ?_))) <;> (omega))) (.s 2 (.chk (Kx (i * 3 + 3) (length (flatMap gL T))) (by (rw [ba (k:=3) (fun _=>rfl)]; refine KA ?_; (omega))) (.lst (take 3 (drop (i * 3) (flatMap gL T))) ([zN (Sy.bits (getD T i i4)),zN (Sy.least (getD T i i4)),zN (Sy.many (getD T i i4))]) (av (k:=3) (i:=i) (fun _=>rfl) om om) (.s 17 (.br (decide ((↑(Sy.least (getD T i i4)):Int) ≤ (n:Int))) (fun p0=>have p0f:=aN p0; (.s 19 (.op ((↑(Sy.least (getD T i i4)):Int) + (↑(Sy.many (getD T i i4)):Int)) (by ( have h9:=hz i; omega)) (.s 4 (.br (decide ((n:Int) < (↑(Sy.least (getD T i i4)):Int) + (↑(Sy.many (getD T i i4)):Int))) (fun p1=>have p1f:=aN p1; (.s 10 (.ow ((b:Int) + (i:Int)) (.s 15 (.ow ((n:Int) - (↑(Sy.least (getD T i i4)):Int)) (.s 4 (.val 4 (zI ((b:Int) + (i:Int))) (zN (b + I)) II (.val 5 (zN (Sy.bits (getD T i i4))) (zN (Sy.bits (getD T I i4))) II (.val 6 (zI ((n:Int) - (↑(Sy.least (getD T i i4)):Int))) (zN (n - Sy.least (getD T I i4))) II (Hn.last last1 0 (():Unit) rfl [(0,0)] ro)))))))))) (fun p1=>have p1f:=aO p1; (.s 2 (.ow ((i:Int) + 1) (.s 1 (.val 13 (zI ((i:Int) + 1)) (zN (i + 1)) (by (refine aJ ?_; (omega))) (Hn.next next1 ⟨(i + 1),(f - 1),om,om,(by ( exact (yJ hR om om rfl om).1)),(by ( exact (yJ hR om om rfl om).2)),⟨⟩⟩ (by show k - (i + 1) < k - i; clear next1 last1; omega) [(0,0)] ro))))))))))) (fun p0=>have p0f:=aO p0; (.s 16 (.ow ((i:Int) + 1) (.s 1 (.val 13 (zI ((i:Int) + 1)) (zN (i + 1)) (by (refine aJ ?_; (omega))) (Hn.next next1 ⟨(i + 1),(f - 1),om,om,(by ( exact (yJ hR om om rfl om).1)),(by ( exact (yJ hR om om rfl om).2)),⟨⟩⟩ (by show k - (i + 1) < k - i; clear next1 last1; omega) [(0,0)] ro)))))))))))))))) (fun | ⟨i,f,hi,hf,hR,hi2,_⟩=>by kernel_rfl) ⟨(0),(k),om,om,(by (rw [hk]; exact (la T n).symm.trans hI)),om,⟨⟩⟩ [(0,0)] ro (bX (fun | ()=>(.out [] [] (D.tup [zN (b + I),zN (Sy.bits (getD T I i4)),zN (n - Sy.least (getD T I i4)),zI 0]) [] R (ok _ _ wr wr))))))) (by kernel_rfl)
theorem CU (T:List Sy) (hT:T = aB) (hl:T.length = 29) (hz:bP T) (n:Nat) (hn:n ≤ 40000) (I:Nat) (hI:ai T n = I) (hIk:I < 29):SpecH false Try.prog 98 [nD n] [] (.tup [nD (257 + I),nD (T.getD I i4).bits,nD (n - (T.getD I i4).least),iD 0]) []:=by
 refine SpecH.run T_ok ag Try.func98 rfl rfl rfl trivial rfl 1000 64 (fun R ok=>(.s 5 (.cl 89 false [] (.fn Ko (@yH (T) bk)) (.s 2 (.call 119 false [] (true && (true && (true && Kx 87 (length (flatMap gL T)) && true && aa (bif true && Kv 87 (length (flatMap gL T)) then flatMap gL T else take 87 (drop 0 (flatMap gL T)))) && true) && true) (by (have q:aa (T.flatMap gL) = true:=dN (f:=gL) (fun _=>rfl) T; rw [ba (f:=gL) (k:=3) (fun _=>rfl),hl]; simp only [show Kx 87 (29 * 3) = true from rfl,show Kv 87 (29 * 3) = true from rfl,K2,cond_true,q])) ([D.agg [zI 257,D.sl true 29 3 (bif true && Kv 87 (length (flatMap gL T)) then flatMap gL T else take 87 (drop 0 (flatMap gL T)))],zN n]) _ (by exact (KI (D.sim.agg (KI (D.sim.refl _) (KI (D.sim.slw rfl (aR (by (have q:aa (T.flatMap gL) = true:=dN (f:=gL) (fun _=>rfl) T; rw [ba (f:=gL) (k:=3) (fun _=>rfl),hl]; simp only [show Kx 87 (29 * 3) = true from rfl,show Kv 87 (29 * 3) = true from rfl,K2,cond_true,q])) |>.trans rfl)) trivial))) (KI (D.sim.refl _) trivial))) (true) wr _ _ _ (CallOk.fn (ax.of Try.func119 rfl rfl) (@wi (T) (29) om om om (257) (by (simp; done)) (n) om (I) bk om)) (.s 12 (.out [] [] (D.tup [zN (257 + I),zN (Sy.bits (getD T I i4)),zN (n - Sy.least (getD T I i4)),zI 0]) [] R (ok _ _ wr wr)))))))) (by kernel_rfl)
theorem FO (T:List Sy) (hT:T = aP) (hl:T.length = 30) (hz:bP T) (n:Nat) (hn:n ≤ 40000) (I:Nat) (hI:ai T n = I) (hIk:I < 30):SpecH false Try.prog 99 [nD n] [] (.tup [nD (0 + I),nD (T.getD I i4).bits,nD (n - (T.getD I i4).least),iD 0]) []:=by
 refine SpecH.run T_ok ag Try.func99 rfl rfl rfl trivial rfl 1000 64 (fun R ok=>(.s 5 (.cl 92 false [] (.fn Kp (@CP (T) bk)) (.s 2 (.call 119 false [] (true && (true && (true && Kx 90 (length (flatMap gL T)) && true && aa (bif true && Kv 90 (length (flatMap gL T)) then flatMap gL T else take 90 (drop 0 (flatMap gL T)))) && true) && true) (by (have q:aa (T.flatMap gL) = true:=dN (f:=gL) (fun _=>rfl) T; rw [ba (f:=gL) (k:=3) (fun _=>rfl),hl]; simp only [show Kx 90 (30 * 3) = true from rfl,show Kv 90 (30 * 3) = true from rfl,K2,cond_true,q])) ([D.agg [zI 0,D.sl true 30 3 (bif true && Kv 90 (length (flatMap gL T)) then flatMap gL T else take 90 (drop 0 (flatMap gL T)))],zN n]) _ (by exact (KI (D.sim.agg (KI (D.sim.refl _) (KI (D.sim.slw rfl (aR (by (have q:aa (T.flatMap gL) = true:=dN (f:=gL) (fun _=>rfl) T; rw [ba (f:=gL) (k:=3) (fun _=>rfl),hl]; simp only [show Kx 90 (30 * 3) = true from rfl,show Kv 90 (30 * 3) = true from rfl,K2,cond_true,q])) |>.trans rfl)) trivial))) (KI (D.sim.refl _) trivial))) (true) wr _ _ _ (CallOk.fn (ax.of Try.func119 rfl rfl) (@wi (T) (30) om om om (0) (by (simp; done)) (n) om (I) bk om)) (.s 12 (.out [] [] (D.tup [zN (0 + I),zN (Sy.bits (getD T I i4)),zN (n - Sy.least (getD T I i4)),zI 0]) [] R (ok _ _ wr wr)))))))) (by kernel_rfl)
end Vp
end Go.Proofs.Ytefjnofhgkjpmaa
namespace Go.Proofs.Ytefjnofhgkjpmaa
open Go.RowKit Go.Bw Go.Vx
open List (length getD map take drop flatMap replicate)
namespace Vp
theorem pP {p:Prop} (h:p:=by (refine aJ ?_; rw [iA]; unfold rF;  (repeat' split) <;> first | omega | (simp_all; done))):p:=h
theorem IL {x:Int} (h:-9223372036854775808 ≤ x ∧ x ≤ 9223372036854775807):IntKind.i64.wrap x = x:=by
 have h2:=fj (x:=x) h
 rw [aE] at h2
 injection h2 with h3; injection h3 with h4; injection h4
theorem s5 {l:List UInt8} {i m:Nat} (ho:∀ j,j < i → (l.getD j i4).toNat ≤ m) (h:¬ ((m:Nat):Int) < (((l.getD (i * 1) i4).toNat:Nat):Int)):∀ j,j < i + 1 → (l.getD j i4).toNat ≤ m:=fun j hj=>by
 rcases K3 j i with q | q
 ·exact ho j q
 ·have q2:j = i:=by omega
  subst q2; rw [KW] at h; omega
theorem IM {l:List UInt8} {i:Nat} (h:i < l.length) (hN:l.length ≤ 1000000) (h1:0 < (l.getD (i * 1) i4).toNat) (h2:(l.getD (i * 1) i4).toNat ≤ 15):D.v (.int .i64 (IntKind.i64.wrap (((aL (l.take i):Nat):Int) + IntKind.i64.wrap (2 ^ min (15 - (((l.getD (i * 1) i4).toNat:Nat):Int)).toNat 64 * 1)))) = D.v (.int .i64 ((aL (l.take (i + 1)):Nat):Int)):=by
 refine aJ ?_
 rw [KW] at *
 rw [fO h]
 generalize (l.getD i i4).toNat = x at *
 have hk:=wb (l.take i)
 rw [KC] at hk
 rw [if_neg (by omega),show min (15 - (x:Int)).toNat 64 = 15 - x from by omega]
 have hp:2 ^ (15 - x) ≤ 2 ^ 15:=Ln (by decide) (by omega)
 have e:(2:Int) ^ (15 - x) * 1 = ((2 ^ (15 - x):Nat):Int):=by push_cast; omega
 rw [e]
 generalize 2 ^ (15 - x) = Z at *
 rw [IL (x:=((Z:Nat):Int)) (by omega),IL (by omega)]
 omega
theorem FP {l:List UInt8} {i:Nat} (h:i < l.length) (h1:¬ (0:Int) < (((l.getD (i * 1) i4).toNat:Nat):Int)):aL (l.take (i + 1)) = aL (l.take i) ∧ bb (l.take (i + 1)) = bb (l.take i):=by
 rw [KW] at h1
 rw [fO h,hJ h,if_pos (by omega),if_pos (by omega)]; exact ⟨rfl,rfl⟩
theorem IN {l:List UInt8} {i:Nat} (h:i < l.length) (hN:l.length ≤ 1000000) (h1:0 < (l.getD (i * 1) i4).toNat):D.v (.int .i64 (IntKind.i64.wrap (((bb (l.take i):Nat):Int) + 1))) = D.v (.int .i64 ((bb (l.take (i + 1)):Nat):Int)):=by
 refine aJ ?_
 rw [KW] at *
 rw [hJ h,if_neg (by omega)]
 have hk:=wa (l.take i)
 rw [KC] at hk
 rw [IL (by omega)]; omega
theorem CV (l:List UInt8) (n:Nat) (hn:n = l.length) (hN:n ≤ 1000000) (m:Nat) (hm:1 ≤ m ∧ m ≤ 15):SpecH false Try.prog 86 [.sl false n 1 (l.map dB),nD m] [] (nD (cz l m)) []:=by
 refine SpecH.run T_ok ag Try.func86 rfl rfl rfl trivial rfl 1000 64 (fun R ok=>(.s 6 (.f (decide ((m:Int) < 1)) (by (refine decide_eq_false ?_; (omega))) (.s 4 (.f (decide (15 < (m:Int))) (by (refine decide_eq_false ?_; (omega))) (.s 4 (.br (decide (320 < (n:Int))) (fun p0=>have p0f:=aN p0; (.s 1 (.out [] [] (zI 4) [] R (ok _ _ pP wr)))) (fun p0=>have p0f:=aO p0; (.s 5 (Hn.inl T_ok ag false 52 0 (aq Try.prog 86 0) (fun (x:(i:Nat) ×' (hi:i ≤ n) ×' (ho:∀ j,j < i → (l.getD j i4).toNat ≤ m) ×' Unit)=>match x with | ⟨i,hi,ho,_⟩=>CutS.mk [(1,zN m),(5,nD (aL (l.take i))),(6,nD (bb (l.take i))),(18,D.sl false n 1 (map dB l)),(19,zN n),(20,nD i)] [] 0) (fun (x:(i:Nat) ×' (hi:i ≤ n) ×' (ho:∀ j,j < i → (l.getD j i4).toNat ≤ m) ×' Unit)=>match x with | ⟨i,hi,ho,_⟩=>n - i) [⟨(ho2:dj l m = false) ×' Unit,.exit 0,fun x=>match x with | ⟨ho2,_⟩=>CutS.mk [(1,zN m),(5,nD (aL l)),(6,nD (bb l)),(18,D.sl false n 1 (map dB l)),(19,zN n)] [] 0⟩,⟨(ho3:dj l m = true) ×' Unit,.ret,fun x=>match x with | ⟨ho3,_⟩=>CutS.mk [(4,iD 2)] [] 0⟩] 1000 64 (fun | ⟨i,hi,ho,_⟩,Q,next1,last1=>(.s 2 (.br (decide ((i:Int) < (n:Int))) (fun p1=>have p1f:=aN p1; (.s 1 (.chk (true && decide ((i:Int) < (n:Int)) && true) (by ((refine aF ?_ ?_) <;> (repeat' (first | (refine aF ?_ ?_) | (with_reducible rfl) | (refine decide_eq_true ?_) | (refine KA ?_) | (refine er ?_))) <;> (omega))) (.s 2 (.opt ((map dB l)[i * 1]?) (dB (getD l (i * 1) i4)) (ao _ _ om) (.s 3 (.op (↑(Ku (getD l (i * 1) i4)):Int) (by (exact fN _ (by decide) (by decide))) (.s 3 (.br (decide ((m:Int) < (↑(Ku (getD l (i * 1) i4)):Int))) (fun p2=>have p2f:=aN p2; (.s 1 (Hn.last last1 1 (⟨(by (exact sZ (i:=i * 1) (by (omega)) (by (omega)))),⟨⟩⟩:(ho3:dj l m = true) ×' Unit) rfl [] ro))) (fun p2=>have p2f:=aO p2; (.s 3 (.br (decide (0 < (↑(Ku (getD l (i * 1) i4)):Int))) (fun p3=>have p3f:=aN p3; (.s 4 (.opt (ap .u8 (15 - (↑(Ku (getD l (i * 1) i4)):Int))) (bI (15 - (↑(Ku (getD l (i * 1) i4)):Int))) (pH om) (.s 1 (.chk (decide (0 ≤ 15 - (↑(Ku (getD l (i * 1) i4)):Int))) (by (refine decide_eq_true ?_; (omega))) (.opt (ap .i64 (2 ^ min (un (15 - (↑(Ku (getD l (i * 1) i4)):Int))) 64 * 1)) (zI (KP KY (2 ^ min (un (15 - (↑(Ku (getD l (i * 1) i4)):Int))) 64 * 1))) (aE _ _) (.s 2 (.opt (ap .i64 ((↑(aL (take i l)):Int) + KP KY (2 ^ min (un (15 - (↑(Ku (getD l (i * 1) i4)):Int))) 64 * 1))) (zI (KP KY ((↑(aL (take i l)):Int) + KP KY (2 ^ min (un (15 - (↑(Ku (getD l (i * 1) i4)):Int))) 64 * 1)))) (aE _ _) (.s 4 (.opt (ap .i64 ((↑(bb (take i l)):Int) + 1)) (zI (KP KY ((↑(bb (take i l)):Int) + 1))) (aE _ _) (.s 3 (.ow ((i:Int) + 1) (.s 1 (.val 5 (zI (KP KY ((↑(aL (take i l)):Int) + KP KY (2 ^ min (un (15 - (↑(Ku (getD l (i * 1) i4)):Int))) 64 * 1)))) (zN (aL (take (i + 1) l))) (by (exact IM (by (omega)) (by (omega)) (by (omega)) (by (omega)))) (.val 6 (zI (KP KY ((↑(bb (take i l)):Int) + 1))) (zN (bb (take (i + 1) l))) (by (exact IN (by (omega)) (by (omega)) (by (omega)))) (.val 20 (zI ((i:Int) + 1)) (zN (i + 1)) (by (refine aJ ?_; (omega))) (Hn.next next1 ⟨(i + 1),om,(by (exact s5 ho (by (omega)))),⟨⟩⟩ (by show n - (i + 1) < n - i; clear next1 last1; omega) [] ro))))))))))))))))) (fun p3=>have p3f:=aO p3; (.s 2 (.ow ((i:Int) + 1) (.s 1 (.val 5 (zN (aL (take i l))) (zN (aL (take (i + 1) l))) (by (rw [(FP (l:=l) (i:=i) (by (omega)) (by (omega))).1])) (.val 6 (zN (bb (take i l))) (zN (bb (take (i + 1) l))) (by (rw [(FP (l:=l) (i:=i) (by (omega)) (by (omega))).2])) (.val 20 (zI ((i:Int) + 1)) (zN (i + 1)) (by (refine aJ ?_; (omega))) (Hn.next next1 ⟨(i + 1),om,(by (exact s5 ho (by (omega)))),⟨⟩⟩ (by show n - (i + 1) < n - i; clear next1 last1; omega) [] ro)))))))))))))))))))) (fun p1=>have p1f:=aO p1; (.val 5 (zN (aL (take i l))) (zN (aL l)) (by (rw [KZ (by (omega))])) (.val 6 (zN (bb (take i l))) (zN (bb l)) (by (rw [KZ (by (omega))])) (Hn.last last1 0 (⟨(by (exact j5 (fun j hj=>ho j (by (omega))))),⟨⟩⟩:(ho2:dj l m = false) ×' Unit) rfl [] ro))))))) (fun | ⟨i,hi,ho,_⟩=>by kernel_rfl) ⟨(0),om,om,⟨⟩⟩ [] ro (eZ (fun | ⟨ho2,_⟩=>(.s 4 (.br (decide (32768 < (↑(aL l):Int))) (fun p4=>have p4f:=aN p4; (.s 1 (.out [] [] (zI 30) [] R (ok _ _ pP wr)))) (fun p4=>have p4f:=aO p4; (.s 4 (.br ((↑(aL l):Int) == 32768) (fun p5=>have p5f:=eq_of_beq p5; (.s 2 (.out [] [] (zI 0) [] R (ok _ _ pP wr)))) (fun p5=>have p5f:=am p5; (.s 4 (.br ((↑(bb l):Int) == 0) (fun p6=>have p6f:=eq_of_beq p6; (.s 2 (.out [] [] (zI 0) [] R (ok _ _ pP wr)))) (fun p6=>have p6f:=am p6; (.s 5 (.br ((↑(bb l):Int) == 1) (fun p7=>have p7f:=eq_of_beq p7; (.s 5 (.br ((↑(aL l):Int) == 16384) (fun p8=>have p8f:=eq_of_beq p8; (.s 1 (.out [] [] (zI 0) [] R (ok _ _ pP wr)))) (fun p8=>have p8f:=am p8; (.s 1 (.out [] [] (zI 31) [] R (ok _ _ pP wr))))))) (fun p7=>have p7f:=am p7; (.s 6 (.out [] [] (zI 31) [] R (ok _ _ pP wr)))))))))))))))) (fun | ⟨ho3,_⟩=>(.out [] [] (zI 2) [] R (ok _ _ pP wr)))))))))))))) (by kernel_rfl)
end Vp
end Go.Proofs.Ytefjnofhgkjpmaa
namespace Go.Proofs.Ytefjnofhgkjpmaa
open Go.RowKit Go.Bw Go.Vx
open List (length getD map take drop flatMap replicate)
namespace Vp
theorem HK {p:Prop} (h:p:=by (refine decide_eq_true ?_;  have h7:=uO l v i; have h6:=uO l v (i + 1); omega)):p:=h
theorem IP {p:Prop} (h:p:=by clear next1 last1; (simp_all <;> omega)):p:=h
theorem J4 {p:Prop} (h:p:=by ((refine aF ?_ ?_) <;> (repeat' (first | (refine aF ?_ ?_) | (with_reducible rfl) | (refine decide_eq_true ?_) | (refine Nat.ble_eq_true_of_le ?_) | (refine er ?_))) <;> (omega))):p:=h
theorem J5 {p:Prop} (h:p:=by (simp only [List.length_map,Nat.mul_one,Nat.beq_refl,Bool.true_and,Bool.and_true];  have h7:=uO l v i; have h6:=uO l v (i + 1); refine Nat.ble_eq_true_of_le ?_; omega)):p:=h
theorem J6 {p:Prop} (h:p:=by ( have h7:=uO l v i; have h6:=uO l v (i + 1); refine C4 ?_ ?_ <;> omega)):p:=h
def cv:List Bool → Nat
 | []=>0
 | b :: r=>b.toNat + 2 * cv r
theorem gj:∀ l:List Bool,cv l < 2 ^ l.length
 | []=>My
 | b :: r=>by
  have h:=gj r
  have h2:b.toNat ≤ 1:=Ni b
  rw [KU,LP,cv]; omega
theorem ja:∀ a b:List Bool,cv (a ++ b) = cv a + 2 ^ a.length * cv b
 | [],b=>by simp [cv]
 | x :: r,b=>by
  have h:=ja r b
  rw [Mr,cv,cv,h,KU,LP,Mo,← LH,L0 2 (2 ^ r.length),LK]
def uN (l:List Bool) (i:Nat):UInt8:=Lu (cv ((l.drop (8 * i)).take 8))
def pk (l:List Bool):List UInt8:=lk l ((Lf ((l.length + 7) / 8)).map (uN l))
theorem wj (l:List Bool):pk l = (Lf ((l.length + 7) / 8)).map (uN l):=aA _ _
theorem ah (l:List Bool):(pk l).length = (l.length + 7) / 8:=by rw [wj,KH,LG]
theorem hU {l:List Bool} {i:Nat} (h:i < (l.length + 7) / 8):(pk l)[i]? = some (uN l i):=by
 rw [wj,List.getElem?_map,List.getElem?_range h]; rfl
theorem wk (l:List Bool) (i:Nat):cv ((l.drop (8 * i)).take 8) < 256:=by
 have h:=gj ((l.drop (8 * i)).take 8)
 have h2:2 ^ ((l.drop (8 * i)).take 8).length ≤ 2 ^ 8:=Ln (by decide) (by rw [KC]; omega)
 omega
theorem jb {a b:List Bool} (h:a.length % 8 = 0):pk (a ++ b) = pk a ++ pk b:=by
 apply List.ext_getElem?
 intro i
 rcases K3 i ((a.length + 7) / 8) with q | q
 ·rw [List.getElem?_append_left (by rw [ah]; exact q),hU q,hU (by rw [Kw]; omega)]
  unfold uN
  rw [Mh (by omega),LW (by rw [KQ]; omega)]
 ·rw [List.getElem?_append_right (by rw [ah]; exact q),ah]
  rcases K3 (i - (a.length + 7) / 8) ((b.length + 7) / 8) with r | r
  ·rw [hU r,hU (by rw [Kw]; omega)]
   unfold uN
   rw [show 8 * i = a.length + 8 * (i - (a.length + 7) / 8) from by omega,Oq]
   have e:K8 (a.length + 8 * (i - (a.length + 7) / 8)) a = []:=LI (by omega)
   rw [e,Nn,ME]
  ·rw [List.getElem?_eq_none (by rw [ah,Kw]; omega),List.getElem?_eq_none (by rw [ah]; exact r)]
theorem iC {l:List Bool} {n:Nat} (h:8 * n ≤ l.length):pk (l.drop (8 * n)) = (pk l).drop n ∧ pk (l.take (8 * n)) = (pk l).take n:=by
 have e:=jb (a:=l.take (8 * n)) (b:=l.drop (8 * n)) (by rw [KC]; omega)
 rw [Mw] at e
 have hl:(pk (l.take (8 * n))).length = n:=by rw [ah,KC]; omega
 constructor
 ·have q:=congrArg (K8 n) e
  rw [Mh (by omega),show K8 n (pk (K7 (8 * n) l)) = [] from LI (by omega),Nn] at q
  exact q.symm
 ·have q:=congrArg (K7 n) e
  rw [LW (by omega),show K7 n (pk (K7 (8 * n) l)) = pk (K7 (8 * n) l) from KZ (by omega)] at q
  exact q.symm
theorem CW {l:List Bool} (h0:0 < l.length) (h:l.length ≤ 8):pk l = [Lu (cv l)]:=by
 rw [wj,show (l.length + 7) / 8 = 1 from by omega]
 show [uN l 0] = _
 unfold uN
 rw [Nat.mul_zero,Ma,KZ h]
theorem FQ {l:List Bool} {b:Bool} (h:l.length % 8 ≠ 0):(pk l).length = l.length / 8 + 1 ∧ pk (l ++ [b]) = (pk l).set (l.length / 8) (Lu (((pk l).getD (l.length / 8) i4).toNat + 2 ^ (l.length % 8) * b.toNat)):=by
 refine ⟨by rw [ah]; omega,?_⟩
 have hd:=iC (l:=l) (n:=l.length / 8) (by omega)
 have e:l = l.take (8 * (l.length / 8)) ++ l.drop (8 * (l.length / 8)):=(Mw _ _).symm
 generalize hA:l.take (8 * (l.length / 8)) = A at *
 generalize hB:l.drop (8 * (l.length / 8)) = B at *
 have lA:A.length = 8 * (l.length / 8):=by rw [← hA,KC]; omega
 have lB:B.length = l.length % 8:=by rw [← hB,KQ]; omega
 have p1:pk l = pk A ++ pk B:=by
  conv=>lhs; rw [e]
  exact jb (by omega)
 have p2:pk (l ++ [b]) = pk A ++ pk (B ++ [b]):=by
  conv=>lhs; rw [e,KS]
  exact jb (by omega)
 have l1:(pk A).length = l.length / 8:=by rw [ah]; omega
 have b1:=CW (l:=B) (by omega) (by omega)
 have b2:=CW (l:=B ++ [b]) (by rw [Kw]; omega) (by rw [Kw,Lg]; omega)
 have hb:cv B < 256:=by
  have h3:=gj B
  have h4:2 ^ B.length ≤ 2 ^ 8:=Ln (by decide) (by omega)
  omega
 rw [p1,p2,b1,b2,NQ _ _ (by omega),l1,LL,List.getD_eq_getElem?_getD,List.getElem?_append_right (by omega),l1,LL]
 show _ ++ _ = _ ++ [_]
 have hz:cv [b] = b.toNat:=by simp [cv]
 rw [ja,hz,lB]
 show _ = _ ++ [Lu ((Lu (cv B)).toNat + _)]
 rw [Mt, show cv B % 2 ^ 8 = cv B from Lw hb]
theorem CX {l:List Bool} {b:Bool} (h:l.length % 8 = 0):(pk l).length = l.length / 8 ∧ pk (l ++ [b]) = pk l ++ [Lu b.toNat]:=by
 refine ⟨by rw [ah]; omega,?_⟩
 rw [jb h,CW (l:=[b]) (by simp) (by simp)]
 simp [cv]
def nb (v n:Nat):List Bool:=lk [()] ((Lf n).map fun i=>v.testBit i)
theorem pQ (v n:Nat):nb v n = (Lf n).map fun i=>v.testBit i:=aA _ _
theorem nV (v n:Nat):(nb v n).length = n:=by rw [pQ,KH,LG]
theorem s6 (v n:Nat):nb v (n + 1) = nb v n ++ [v.testBit n]:=by rw [pQ,pQ,MJ,Lh]; rfl
theorem FR (v:Nat):nb v 0 = []:=pQ v 0
theorem pR (v:Nat):∀ n,cv (nb v n) = v % 2 ^ n
 | 0=>by rw [FR]; simp [cv,Ou]
 | n + 1=>by
  rw [s6,ja,nV,pR v n]
  have e:cv [v.testBit n] = v / 2 ^ n % 2:=by
   rw [Nat.testBit_eq_decide_div_mod_eq]
   have:=N8 (v / 2 ^ n) (show 0 < 2 by decide)
   by_cases h:v / 2 ^ n % 2 = 1
   ·rw [h]; rfl
   ·rw [show v / 2 ^ n % 2 = 0 from by omega]; rfl
  rw [e,LP,Nat.mod_mul]
def D1 (B:List UInt8) (k:Nat):List Bool:=lk B ((Lf k).map fun i=>(B.getD (i / 8) i4).toNat.testBit (i % 8))
theorem wl (B:List UInt8) (k:Nat):D1 B k = (Lf k).map fun i=>(B.getD (i / 8) i4).toNat.testBit (i % 8):=aA _ _
theorem j6 (B:List UInt8) (k:Nat):(D1 B k).length = k:=by rw [wl,KH,LG]
theorem CY {B:List UInt8} {k:Nat} (hl:B.length = (k + 7) / 8) (ht:k % 8 ≠ 0 → (B.getD (k / 8) i4).toNat < 2 ^ (k % 8)):pk (D1 B k) = B:=by
 apply List.ext_getElem?
 intro i
 rcases K3 i ((k + 7) / 8) with q | q
 ·rw [hU (by rw [j6]; exact q),List.getElem?_eq_getElem (by omega)]
  congr 1
  unfold uN
  have e:(K8 (8 * i) (D1 B k)).take 8 = nb (B.getD i i4).toNat (min 8 (k - 8 * i)):=by
   apply List.ext_getElem?
   intro j
   rw [List.getElem?_take,List.getElem?_drop,wl,pQ,List.getElem?_map,List.getElem?_map]
   by_cases hj:j < min 8 (k - 8 * i)
   ·rw [if_pos (by omega),List.getElem?_range (by omega),List.getElem?_range hj]
    show some ((B.getD ((8 * i + j) / 8) i4).toNat.testBit ((8 * i + j) % 8)) = some ((B.getD i i4).toNat.testBit j)
    rw [show (8 * i + j) / 8 = i from by omega,show (8 * i + j) % 8 = j from by omega]
   ·rw [List.getElem?_eq_none (l:=Lf (min 8 (k - 8 * i))) (by simpa using hj)]
    split
    ·rw [List.getElem?_eq_none (by simp; omega)]; rfl
    ·rfl
  rw [e,pR]
  have hx:B[i] = B.getD i i4:=by rw [List.getD_eq_getElem?_getD,List.getElem?_eq_getElem (by omega)]; rfl
  rw [hx]
  have hb:=(B.getD i i4).toNat_lt
  apply UInt8.toNat_inj.1
  rw [Mt]
  rcases K3 (k - 8 * i) 8 with r | r
  ·have hk:i = k / 8:=by omega
   have h1:=ht (by omega)
   rw [← hk] at h1
   rw [show min 8 (k - 8 * i) = k % 8 from by omega,Lw h1,Lw hb]
  ·rw [show min 8 (k - 8 * i) = 8 from by omega,Lw (show (B.getD i i4).toNat < 2 ^ 8 from hb),Lw hb]
 ·rw [List.getElem?_eq_none (by rw [ah,j6]; exact q),List.getElem?_eq_none (by omega)]
theorem CZ {l:List Bool} {m:Nat} (hm:m = (pk l).length) (h:0 < ((l.length:Nat):Int) % 8):¬ 0 < ((((pk l).getD (((m:Int) - 1).toNat * 1) i4).toNat:Nat):Int).fdiv (2 ^ min (((l.length:Nat):Int) % 8).toNat 8):=by
 rw [ah] at hm
 rw [show (((m:Int) - 1).toNat * 1) = l.length / 8 from by omega,show min (((l.length:Nat):Int) % 8).toNat 8 = l.length % 8 from by omega,List.getD_eq_getElem?_getD,hU (by omega)]
 show ¬ 0 < (((uN l (l.length / 8)).toNat:Nat):Int).fdiv _
 have hb:=gj ((l.drop (8 * (l.length / 8))).take 8)
 rw [KC,KQ,show min 8 (l.length - 8 * (l.length / 8)) = l.length % 8 from by omega] at hb
 have hc:=wk l (l.length / 8)
 unfold uN
 rw [Mt, Lw hc,show (2:Int) ^ (l.length % 8) = ((2 ^ (l.length % 8):Nat):Int) from by push_cast; rfl,LO _ (Mu _),← MS,NC hb]
 decide
theorem C2 {B:List UInt8} {k:Nat} (hl:B.length = (k + 7) / 8) (h:k % 8 ≠ 0 → ¬ 0 < (((B.getD (((B.length:Nat):Int) - 1).toNat i4).toNat:Nat):Int).fdiv (2 ^ min ((k:Int) % 8).toNat 8)):pk (D1 B k) = B:=by
 refine CY hl fun q=>?_
 have h:=h q
 rw [show (((B.length:Nat):Int) - 1).toNat = k / 8 from by omega,show min ((k:Int) % 8).toNat 8 = k % 8 from by omega,show (2:Int) ^ (k % 8) = ((2 ^ (k % 8):Nat):Int) from by push_cast; rfl,LO _ (Mu _),← MS] at h
 have h0:(B.getD (k / 8) i4).toNat / 2 ^ (k % 8) = 0:=by
  generalize (B.getD (k / 8) i4).toNat / 2 ^ (k % 8) = Z at h ⊢; omega
 rcases K3 (B.getD (k / 8) i4).toNat (2 ^ (k % 8)) with r | r
 ·exact r
 ·have:=Nat.div_pos r (LZ _); omega
theorem A8 {B:List UInt8} {m:Nat} {k:Int} (hm:m = B.length) (hN:∀ l:List Bool,l.length ≤ 8388608 → ¬ (k = l.length ∧ B = pk l)) (h0:¬ k < 0) (h1:¬ 8388608 < k) (h2:(m:Int) = (k + 7) / 8) (h3:¬ 0 < k % 8 ∨ ¬ 0 < (((B.getD (((m:Int) - 1).toNat * 1) i4).toNat:Nat):Int).fdiv (2 ^ min (k % 8).toNat 8)):False:=by
 obtain ⟨j,rfl⟩:=Lo (show 0 ≤ k by omega)
 subst hm
 rw [KW] at h3
 refine hN (D1 B j) (by rw [j6]; omega) ⟨by rw [j6],(C2 (by omega) (fun q=>?_)).symm⟩
 rcases h3 with h3 | h3
 ·omega
 ·exact h3
abbrev D2 (m:Nat) (l:List Bool):D:=.agg [.sl false m 1 ((pk l).map dB),nD l.length]
theorem yK  : SpecH false Try.prog 31 [cM] [] cM []:=by
 refine SpecH.run T_ok ag Try.func31 rfl rfl rfl trivial rfl 1000 64 (fun R ok=>(.s 6 (.out [] [] (zS) [] R (ok _ _ wr wr)))) (by kernel_rfl)
theorem wm (bs:List UInt8) (hn:bs.length ≤ 10000000):SpecH false Try.prog 31 [.sl true bs.length 1 (bs.map dB)] [] (.ref 0 0 0 bs.length 1) [⟨bs.map dB, 5, true⟩]:=by
 refine SpecH.run T_ok ag Try.func31 rfl rfl rfl ⟨bf _,trivial⟩ rfl 1000 64 (fun R ok=>(.s 9 (.chk (true && Kx ((0 + length bs) * 1) 140737488355328) (by (refine KA ?_; (omega))) (.s 1 (.out [40] [40] (D.ref 0 0 0 (0 + length bs) 1) [Blk.mk (map dB bs) 5 true] R (ok _ _ (by (simp; done)) wr)))))) (by kernel_rfl)
theorem fV (bs:List UInt8) (n:Nat) (h1:n = bs.length) (hn:n ≤ 10000000):SpecH false Try.prog 31 [.sl false n 1 (bs.map dB)] [] (.ref 0 0 0 n 1) [⟨bs.map dB, 5, true⟩]:=by
 subst h1; exact ub.nilSplit yK (wm bs hn) id
theorem lb (l:List Bool) (m:Nat) (hm:m = (pk l).length) (hl:l.length ≤ 8388608):SpecH false Try.prog 26 [D2 m l] [] (iD 0) []:=by
 have h9:=ah l
 refine SpecH.run T_ok ag Try.func26 rfl rfl rfl trivial rfl 1000 64 (fun R ok=>(.s 26 (.f (decide (8388608 < (↑(length l):Int))) (by (refine decide_eq_false ?_; (omega))) (.s 19 (.ow ((↑(length l):Int) + 7) (.s 3 (.opt (bq KY (KP KY (M5 ((↑(length l):Int) + 7) 8))) (zI (((↑(length l):Int) + 7) / 8)) (aC (@bG  ((↑(length l):Int) + 7) (8) om om)) (.s 4 (.f ((m:Int) != ((↑(length l):Int) + 7) / 8) (by (simp <;> (omega))) (.s 8 (.opt (bq KY (MB (↑(length l):Int) 8)) (zI ((↑(length l):Int) % 8)) (aC (@cO  ((↑(length l):Int)) (8) om)) (.s 6 (.br (decide (0 < (↑(length l):Int) % 8)) (fun p0=>have p0f:=aN p0; (.s 19 (.ow ((m:Int) - 1) (.s 2 (.chk (decide (0 ≤ (m:Int) - 1) && decide ((m:Int) - 1 < (m:Int)) && true) J4 (.s 3 (.opt ((map dB (pk l))[un ((m:Int) - 1) * 1]?) (dB (getD (pk l) (un ((m:Int) - 1) * 1) i4)) (ao _ _ om) (.s 5 (.opt (bq Nu (Lb (↑(Ku (getD (pk l) (un ((m:Int) - 1) * 1) i4)):Int) (2 ^ min (un ((↑(length l):Int) % 8)) 8))) (bI (Lb (↑(Ku (getD (pk l) (un ((m:Int) - 1) * 1) i4)):Int) (2 ^ min (un ((↑(length l):Int) % 8)) 8))) (cK _ _) (.s 4 (.br (decide (0 < Lb (↑(Ku (getD (pk l) (un ((m:Int) - 1) * 1) i4)):Int) (2 ^ min (un ((↑(length l):Int) % 8)) 8))) (fun p1=>have p1f:=aN p1; (.abs (by ( exact absurd bk (CZ hm om))))) (fun p1=>have p1f:=aO p1; (.s 1 (.out [] [] (zI 0) [] R (ok _ _ wr wr))))))))))))))) (fun p0=>have p0f:=aO p0; (.s 23 (.out [] [] (zI 0) [] R (ok _ _ wr wr))))))))))))))))) (by kernel_rfl)
theorem C3 (B:List UInt8) (m:Nat) (hm:m = B.length) (hM:m ≤ 100000000) (k:Int) (hN:∀ l:List Bool,l.length ≤ 8388608 → ¬ (k = l.length ∧ B = pk l)):SpecH false Try.prog 26 [.agg [.sl false m 1 (B.map dB),iD k]] [] (iD 8) []:=by
 refine SpecH.run T_ok ag Try.func26 rfl rfl rfl trivial rfl 1000 64 (fun R ok=>(.s 13 (.br (decide (k < 0)) (fun p0=>have p0f:=aN p0; (.s 25 (.out [] [] (zI 8) [] R (ok _ _ wr wr)))) (fun p0=>have p0f:=aO p0; (.s 12 (.br (decide (8388608 < k)) (fun p1=>have p1f:=aN p1; (.s 17 (.out [] [] (zI 8) [] R (ok _ _ wr wr)))) (fun p1=>have p1f:=aO p1; (.s 19 (.ow (k + 7) (.s 3 (.opt (bq KY (KP KY (M5 (k + 7) 8))) (zI ((k + 7) / 8)) (aC (@bG  (k + 7) (8) om om)) (.s 4 (.br ((m:Int) != (k + 7) / 8) (fun p2=>have p2f:=pL p2; (.s 1 (.out [] [] (zI 8) [] R (ok _ _ wr wr)))) (fun p2=>have p2f:=pM p2; (.s 8 (.opt (bq KY (MB k 8)) (zI (k % 8)) (aC (@cO  (k) (8) om)) (.s 6 (.br (decide (0 < k % 8)) (fun p3=>have p3f:=aN p3; (.s 19 (.ow ((m:Int) - 1) (.s 2 (.chk (decide (0 ≤ (m:Int) - 1) && decide ((m:Int) - 1 < (m:Int)) && true) J4 (.s 3 (.opt ((map dB B)[un ((m:Int) - 1) * 1]?) (dB (getD B (un ((m:Int) - 1) * 1) i4)) (ao _ _ om) (.s 4 (.chk (decide (0 ≤ k % 8)) (by (refine decide_eq_true ?_; (omega))) (.opt (bq Nu (Lb (↑(Ku (getD B (un ((m:Int) - 1) * 1) i4)):Int) (2 ^ min (un (k % 8)) 8))) (bI (Lb (↑(Ku (getD B (un ((m:Int) - 1) * 1) i4)):Int) (2 ^ min (un (k % 8)) 8))) (cK _ _) (.s 4 (.br (decide (0 < Lb (↑(Ku (getD B (un ((m:Int) - 1) * 1) i4)):Int) (2 ^ min (un (k % 8)) 8))) (fun p4=>have p4f:=aN p4; (.s 1 (.out [] [] (zI 8) [] R (ok _ _ wr wr)))) (fun p4=>have p4f:=aO p4; (.abs (by ( exact A8 hm hN om om om (.inr bk))))))))))))))))) (fun p3=>have p3f:=aO p3; (.abs (by ( exact A8 hm hN om om om (.inl om))))))))))))))))))))))) (by kernel_rfl)
theorem wn {v n:Nat} (hv:v < 2 ^ n) (hn:n ≤ 32):((v:Int) % 18446744073709551616).fdiv (2 ^ min n 64) = 0:=by
 have h2:2 ^ n ≤ 2 ^ 32:=Ln (by decide) hn
 rw [show min n 64 = n from by omega,show (v:Int) % 18446744073709551616 = v from by omega,show (2:Int) ^ n = ((2 ^ n:Nat):Int) from by push_cast; rfl,LO _ (Mu _),← MS,NC hv]; rfl
theorem wo {v n:Nat} (hv:v < 2 ^ n) (hn:n ≤ 32):((v:Int)).fdiv (2 ^ min n 64) = 0:=by
 have h:=wn hv hn
 have h2:2 ^ n ≤ 2 ^ 32:=Ln (by decide) hn
 rwa [show (v:Int) % 18446744073709551616 = v from by omega] at h
theorem yL (X:List UInt8) {d:D} {j:Nat} (h:j = X.length):(Mg dB X ++ [d])[0 + j * 1]? = some d:=by
 rw [KV,KW,h,List.getElem?_append_right (by rw [KH]; exact KG _),KH,LL]; rfl
def bl (l:List Bool) (v i:Nat):List Bool:=lk l (l ++ nb v i)
theorem lc (l:List Bool) (v i:Nat):bl l v i = l ++ nb v i:=aA _ _
theorem A9 (l:List Bool) (v:Nat):bl l v 0 = l:=by rw [lc,FR,Lk]
theorem bn (l:List Bool) (v i:Nat):(bl l v i).length = l.length + i:=by rw [lc,Kw,nV]
theorem Ba (l:List Bool) (v i:Nat):bl l v i ++ [v.testBit i] = bl l v (i + 1):=by rw [lc,lc,s6,KS]
theorem uO (l:List Bool) (v i:Nat):(pk (bl l v i)).length = (l.length + i + 7) / 8:=by rw [ah,bn]
theorem Bb {v i:Nat} (hi:i ≤ 32) (hv:v < 4294967296):IntKind.u32.wrap ((KE 32 ((v:Int).fdiv (2 ^ min i 32)) &&& KE 32 1).toNat:Int) % 256 = (((v.testBit i).toNat:Nat):Int):=by
 have hd:v / 2 ^ i ≤ v:=OF _ _
 rw [show min i 32 = i from by omega,show (2:Int) ^ i = ((2 ^ i:Nat):Int) from by push_cast; rfl,LO _ (Mu _),← MS,Og]
 generalize v / 2 ^ i = Y at *
 rw [jv 1 2 (by omega) (by decide) (by decide) (by decide)]
 omega
theorem wq {M:List UInt8} {o a:Nat} (ha:a < 256) (ho:o < M.length):af (M.map dB) o [D.v (.int .u8 (a:Int))] = (M.set o (Lu a)).map dB:=by
 apply List.ext_getElem?
 intro i
 rw [cd (by simp only [KH,Lg]; omega),List.getElem?_map,List.getElem?_map,List.getElem?_set]
 simp only [Lg]
 by_cases hi:o = i
 ·subst hi
  rw [if_pos (by omega),if_pos rfl,if_pos ho,LL]
  show some (D.v (.int .u8 (a:Int))) = some (dB (Lu a))
  unfold dB; rw [Mt]; congr 3; omega
 ·rw [if_neg (by omega),if_neg hi]
theorem FS {x:List Bool} (h:x.length % 8 ≠ 0):((pk x).getD (x.length / 8) i4).toNat < 2 ^ (x.length % 8):=by
 rw [List.getD_eq_getElem?_getD,hU (by omega)]
 show (uN x (x.length / 8)).toNat < _
 have hb:=gj ((x.drop (8 * (x.length / 8))).take 8)
 rw [KC,KQ,show min 8 (x.length - 8 * (x.length / 8)) = x.length % 8 from by omega] at hb
 unfold uN
 rw [Mt, Lw (wk x _)]
 exact hb
theorem FT {x:List Bool} {b:Bool} {L z:Int} (hL:L = x.length) (h:¬ L % 8 = 0) (hz:z = ((b.toNat:Nat):Int)):af ((pk x).map dB) (L / 8).toNat [D.v (.int .u8 (((((pk x).getD (L / 8).toNat i4).toNat ||| (2 ^ min (L % 8).toNat 8 * z % 256).toNat:Nat)):Int))] = (pk (x ++ [b])).map dB:=by
 subst hL hz
 have h0:x.length % 8 ≠ 0:=by omega
 have hu:=FQ (b:=b) h0
 have hl:=FS h0
 have hb:b.toNat ≤ 1:=Ni b
 rw [show (((x.length:Nat):Int) / 8).toNat = x.length / 8 from by omega,show min (((x.length:Nat):Int) % 8).toNat 8 = x.length % 8 from by omega]
 have hp:2 ^ (x.length % 8) ≤ 2 ^ 7:=Ln (by decide) (by omega)
 have e:(2 ^ (x.length % 8) * ((b.toNat:Nat):Int) % 256).toNat = 2 ^ (x.length % 8) * b.toNat:=by
  rw [show (2:Int) ^ (x.length % 8) = ((2 ^ (x.length % 8):Nat):Int) from by push_cast; rfl]
  generalize 2 ^ (x.length % 8) = P at *
  cases b
  ·simp
  ·simp; omega
 rw [e,Nat.or_comm,← MO hl,Nat.add_comm,hu.2]
 refine wq ?_ (by omega)
 have hm:2 ^ (x.length % 8) * b.toNat ≤ 2 ^ (x.length % 8) * 1:=MT _ hb
 generalize 2 ^ (x.length % 8) * b.toNat = Q at *
 generalize 2 ^ (x.length % 8) = P at *
 omega
theorem FU {x:List Bool} {b:Bool} {L z:Int} (hL:L = x.length) (h:L % 8 = 0) (hz:z = ((b.toNat:Nat):Int)):af ((pk x).map dB ++ [D.v (.int .u8 0)]) (L / 8).toNat [D.v (.int .u8 (0 + 2 ^ min (L % 8).toNat 8 * z))] = (pk (x ++ [b])).map dB:=by
 subst hL hz
 have h0:x.length % 8 = 0:=by omega
 have hu:=CX (b:=b) h0
 have hb:b.toNat ≤ 1:=Ni b
 rw [show (((x.length:Nat):Int) / 8).toNat = x.length / 8 from by omega,show min (((x.length:Nat):Int) % 8).toNat 8 = 0 from by omega,hu.2,Lh]
 have e:(pk x).map dB ++ [D.v (.int .u8 0)] = ((pk x) ++ [0]).map dB:=by rw [Lh]; rfl
 rw [e,show (0:Int) + 2 ^ 0 * ((b.toNat:Nat):Int) = ((b.toNat:Nat):Int) from by simp,wq (by omega) (by rw [Kw,Lg]; omega),NQ _ _ (by omega),hu.1,LL,Lh]
 rfl
theorem C4 {k g:Nat} {t:TypeId} {X Y:Nat} {a b:Int} (h1:X = Y) (h2:a = b):(⟨[D.ref k g 0 X 1,D.v (.int .i64 a)],t,false⟩:Blk) = ⟨[D.ref k g 0 Y 1,D.v (.int .i64 b)],t,false⟩:=by rw [h1,h2]
theorem FV (l:List Bool) (m:Nat) (hm:m = (pk l).length) (v n:Nat) (hn:n ≤ 32) (hv:v < 2 ^ n) (hl:l.length + n ≤ 8388608):SpecH false Try.prog 32 [D2 m l,.v (.int .u32 (v:Int)),nD n] [] (.tup [.agg [.ref 0 0 0 (pk (bl l v n)).length 1,nD (l.length + n)],iD 0]) [⟨(pk (bl l v n)).map dB, 5, true⟩]:=by
 have h9:=ah l
 have h8:=wn hv hn
 have h4:=wo hv hn
 have h5:v < 4294967296:=K5 hv (Ln (n:=2) (by decide) hn)
 refine SpecH.run T_ok ag Try.func32 rfl rfl rfl ⟨bf _,trivial⟩ rfl 1000 64 (fun R ok=>(.s 10 (.cl 26 false [] (.fn CK (@lb (l) (m) om om)) (.s 22 (.t (decide ((n:Int) ≤ 32)) (by (refine decide_eq_true ?_; (omega))) (.s 2 (.opt (ap .u64 (v:Int)) (D.v (Ll .u64 (v:Int))) (a9 om) (.s 5 (.opt (bq LY (Lb (v:Int) (2 ^ min n 64))) (D.v (Ll .u64 (Lb (v:Int) (2 ^ min n 64)))) (cK _ _) (.s 6 (.f (!Lb (v:Int) (2 ^ min n 64) == 0) (by (simp <;> (omega))) (.s 9 (.ow ((↑(length l):Int) + (n:Int)) (.s 2 (.f (decide (8388608 < (↑(length l):Int) + (n:Int))) (by (refine decide_eq_false ?_; (omega))) (.s 17 (.cl 31 false [] (.fn A1 (@fV (pk l) (m) om om)) (.s 12 (.blk 296 296 (Blk.mk [D.ref 336 336 0 m 1,zN (length l)] 113 false) (Blk.mk [D.ref 336 336 0 (length (pk (bl l v 0))) 1,zN (length l + 0)] 113 false) (by ( rw [A9,← hm]; rfl)) (.blk 336 336 (Blk.mk (map dB (pk l)) 5 true) (Blk.mk (map dB (pk (bl l v 0))) 5 true) (by ( rw [A9]; done)) (Hn.inl T_ok ag false 52 0 (aq Try.prog 32 0) (fun (x:(i:Nat) ×' (hi:i ≤ n) ×' Unit)=>match x with | ⟨i,hi,_⟩=>CutS.mk [(1,ac v),(6,D.ptr 0 0 0),(9,D.ptr 8 8 0),(38,zN n),(39,nD i)] [⟨0,0,8,8,.b ⟨[zS,zI 0],26,false⟩⟩,⟨8,8,296,296,.b ⟨[(D.ref 16 16 (0) ((pk (bl l v i)).length) 1),nD (l.length + i)],113,false⟩⟩,⟨16,16,336,336,.b ⟨(pk (bl l v i)).map dB,5,true⟩⟩] 24) (fun (x:(i:Nat) ×' (hi:i ≤ n) ×' Unit)=>match x with | ⟨i,hi,_⟩=>n - i) [⟨Unit,.exit 0,fun x=>match x with | ()=>CutS.mk [(1,ac v),(6,D.ptr 0 0 0),(9,D.ptr 8 8 0),(38,zN n)] [⟨0,0,8,8,.b ⟨[zS,zI 0],26,false⟩⟩,⟨8,8,296,296,.b ⟨[(D.ref 16 16 (0) ((pk (bl l v n)).length) 1),nD (l.length + n)],113,false⟩⟩,⟨16,16,336,336,.b ⟨(pk (bl l v n)).map dB,5,true⟩⟩] 24⟩] 1000 64 (fun | ⟨i,hi,_⟩,Q,next1,last1=>(.s 2 (.br (decide ((i:Int) < (n:Int))) (fun p0=>have p0f:=aN p0; (.s 7 (.opt (bq La (Lb (v:Int) (2 ^ min i 32))) (uI (Lb (v:Int) (2 ^ min i 32))) (cK _ _) (.s 15 (.opt (bq KY (MB (↑(length l + i):Int) 8)) (zI ((↑(length l + i):Int) % 8)) (aC (@cO  ((↑(length l + i):Int)) (8) om)) (.s 2 (.br ((↑(length l + i):Int) % 8 == 0) (fun p1=>have p1f:=eq_of_beq p1; (.s 15 (.chk (true && Kv (length (pk (bl l v i)) * 1) (length (map dB (pk (bl l v i)))) && true && true && true && true && Kx ((length (pk (bl l v i)) + 1) * 1) 140737488355328) J5 (.s 35 (.opt (bq KY (KP KY (M5 (↑(length l + i):Int) 8))) (zI ((↑(length l + i):Int) / 8)) (aC (@bG  ((↑(length l + i):Int)) (8) om om)) (.s 1 (.chk (true && decide ((↑(length l + i):Int) / 8 < (↑(length (pk (bl l v i)) + 1):Int))) HK (.s 2 (.opt ((map dB (pk (bl l v i)) ++ [bI 0])[0 + un ((↑(length l + i):Int) / 8) * 1]?) (bI 0) (@yL (pk (bl l v i)) (bI 0) (un ((↑(length l + i):Int) / 8)) (by ( have h7:=uO l v i; have h6:=uO l v (i + 1); omega))) (.s 3 (.opt (bq La (KP La (↑(K6 (KE 32 (Lb (v:Int) (2 ^ min i 32)) &&& KE 32 1)):Int))) (uI (KP La (↑(K6 (KE 32 (Lb (v:Int) (2 ^ min i 32)) &&& KE 32 1)):Int))) (cK _ _) (.s 1 (.opt (ap .u8 (KP La (↑(K6 (KE 32 (Lb (v:Int) (2 ^ min i 32)) &&& KE 32 1)):Int))) (bI (KP La (↑(K6 (KE 32 (Lb (v:Int) (2 ^ min i 32)) &&& KE 32 1)):Int) % 256)) (aE _ _) (.s 13 (.opt (bq KY (MB (↑(length l + i):Int) 8)) (zI ((↑(length l + i):Int) % 8)) (aC (@cO  ((↑(length l + i):Int)) (8) om)) (.s 2 (.opt (ap .u8 (2 ^ min (un ((↑(length l + i):Int) % 8)) 8 * (KP La (↑(K6 (KE 32 (Lb (v:Int) (2 ^ min i 32)) &&& KE 32 1)):Int) % 256))) (bI (2 ^ min (un ((↑(length l + i):Int) % 8)) 8 * (KP La (↑(K6 (KE 32 (Lb (v:Int) (2 ^ min i 32)) &&& KE 32 1)):Int) % 256))) (pH IP) (.s 2 (.opt (bq Nu (KP Nu (↑(K6 (KE 8 0 ||| KE 8 (2 ^ min (un ((↑(length l + i):Int) % 8)) 8 * (KP La (↑(K6 (KE 32 (Lb (v:Int) (2 ^ min i 32)) &&& KE 32 1)):Int) % 256)))):Int))) (bI (0 + 2 ^ min (un ((↑(length l + i):Int) % 8)) 8 * (KP La (↑(K6 (KE 32 (Lb (v:Int) (2 ^ min i 32)) &&& KE 32 1)):Int) % 256))) (aC (@pK 8 (256:Int) (0) (2 ^ min (un ((↑(length l + i):Int) % 8)) 8 * (KP La (↑(K6 (KE 32 (Lb (v:Int) (2 ^ min i 32)) &&& KE 32 1)):Int) % 256)) om IP om om IP)) (.s 1 (.chk (true && decide ((↑(length l + i):Int) / 8 < (↑(length (pk (bl l v i)) + 1):Int))) HK (.s 1 (.chk (true && Kx (0 + un ((↑(length l + i):Int) / 8) * 1 + 1) (length (map dB (pk (bl l v i)) ++ [bI 0]))) (by (simp;  have h7:=uO l v i; have h6:=uO l v (i + 1); omega)) (.lst (af (map dB (pk (bl l v i)) ++ [bI 0]) (0 + un ((↑(length l + i):Int) / 8) * 1) [bI (0 + 2 ^ min (un ((↑(length l + i):Int) % 8)) 8 * (KP La (↑(K6 (KE 32 (Lb (v:Int) (2 ^ min i 32)) &&& KE 32 1)):Int) % 256))]) (af (map dB (pk (bl l v i)) ++ [bI 0]) (un ((↑(length l + i):Int) / 8)) [bI (0 + 2 ^ min (un ((↑(length l + i):Int) % 8)) 8 * (KP La (↑(K6 (KE 32 (Lb (v:Int) (2 ^ min i 32)) &&& KE 32 1)):Int) % 256))]) (by (simp; done)) (.s 13 (.ow ((↑(length l + i):Int) + 1) (.s 12 (.ow ((i:Int) + 1) (.s 1 (.val 39 (zI ((i:Int) + 1)) (zN (i + 1)) (by (refine aJ ?_; (omega))) (.blk 8 8 (Blk.mk [D.ref 200 200 0 (length (pk (bl l v i)) + 1) 1,zI ((↑(length l + i):Int) + 1)] 113 false) (Blk.mk [D.ref 200 200 0 (length (pk (bl l v (i + 1)))) 1,zN (length l + (i + 1))] 113 false) J6 (.blk 200 200 (Blk.mk (af (map dB (pk (bl l v i)) ++ [bI 0]) (un ((↑(length l + i):Int) / 8)) [bI (0 + 2 ^ min (un ((↑(length l + i):Int) % 8)) 8 * (KP La (↑(K6 (KE 32 (Lb (v:Int) (2 ^ min i 32)) &&& KE 32 1)):Int) % 256))]) 5 true) (Blk.mk (map dB (pk (bl l v (i + 1)))) 5 true) (by ( refine au (NY (FU (by rw [bn]) om (Bb om om)) ?_); rw [Ba])) (Hn.next next1 ⟨(i + 1),om,⟨⟩⟩ (by show n - (i + 1) < n - i; clear next1 last1; omega) [(0,0),(8,8),(200,200)] ro))))))))))))))))))))))))))))))))) (fun p1=>have p1f:=am p1; (.s 25 (.opt (bq KY (KP KY (M5 (↑(length l + i):Int) 8))) (zI ((↑(length l + i):Int) / 8)) (aC (@bG  ((↑(length l + i):Int)) (8) om om)) (.s 1 (.chk (true && decide ((↑(length l + i):Int) / 8 < (↑(length (pk (bl l v i))):Int))) HK (.s 2 (.opt ((map dB (pk (bl l v i)))[0 + un ((↑(length l + i):Int) / 8) * 1]?) (dB (getD (pk (bl l v i)) (0 + un ((↑(length l + i):Int) / 8) * 1) i4)) (ao _ _ (by ( have h7:=uO l v i; have h6:=uO l v (i + 1); omega))) (.s 3 (.opt (bq La (KP La (↑(K6 (KE 32 (Lb (v:Int) (2 ^ min i 32)) &&& KE 32 1)):Int))) (uI (KP La (↑(K6 (KE 32 (Lb (v:Int) (2 ^ min i 32)) &&& KE 32 1)):Int))) (cK _ _) (.s 1 (.opt (ap .u8 (KP La (↑(K6 (KE 32 (Lb (v:Int) (2 ^ min i 32)) &&& KE 32 1)):Int))) (bI (KP La (↑(K6 (KE 32 (Lb (v:Int) (2 ^ min i 32)) &&& KE 32 1)):Int) % 256)) (aE _ _) (.s 13 (.opt (bq KY (MB (↑(length l + i):Int) 8)) (zI ((↑(length l + i):Int) % 8)) (aC (@cO  ((↑(length l + i):Int)) (8) om)) (.s 2 (.opt (ap .u8 (2 ^ min (un ((↑(length l + i):Int) % 8)) 8 * (KP La (↑(K6 (KE 32 (Lb (v:Int) (2 ^ min i 32)) &&& KE 32 1)):Int) % 256))) (bI (2 ^ min (un ((↑(length l + i):Int) % 8)) 8 * (KP La (↑(K6 (KE 32 (Lb (v:Int) (2 ^ min i 32)) &&& KE 32 1)):Int) % 256) % 256)) (aE _ _) (.s 2 (.opt (bq Nu (KP Nu (↑(K6 (KE 8 (↑(Ku (getD (pk (bl l v i)) (0 + un ((↑(length l + i):Int) / 8) * 1) i4)):Int) ||| KE 8 (2 ^ min (un ((↑(length l + i):Int) % 8)) 8 * (KP La (↑(K6 (KE 32 (Lb (v:Int) (2 ^ min i 32)) &&& KE 32 1)):Int) % 256) % 256))):Int))) (dO (Ku (getD (pk (bl l v i)) (0 + un ((↑(length l + i):Int) / 8) * 1) i4) ||| un (2 ^ min (un ((↑(length l + i):Int) % 8)) 8 * (KP La (↑(K6 (KE 32 (Lb (v:Int) (2 ^ min i 32)) &&& KE 32 1)):Int) % 256) % 256))) (aC (@pJ  ((↑(Ku (getD (pk (bl l v i)) (0 + un ((↑(length l + i):Int) / 8) * 1) i4)):Int)) (2 ^ min (un ((↑(length l + i):Int) % 8)) 8 * (KP La (↑(K6 (KE 32 (Lb (v:Int) (2 ^ min i 32)) &&& KE 32 1)):Int) % 256) % 256) (by (exact fN _ (by decide) (by decide))) om)) (.s 1 (.chk (true && decide ((↑(length l + i):Int) / 8 < (↑(length (pk (bl l v i))):Int))) HK (.s 1 (.chk (true && Kx (0 + un ((↑(length l + i):Int) / 8) * 1 + 1) (length (map dB (pk (bl l v i))))) J5 (.lst (af (map dB (pk (bl l v i))) (0 + un ((↑(length l + i):Int) / 8) * 1) [dO (Ku (getD (pk (bl l v i)) (0 + un ((↑(length l + i):Int) / 8) * 1) i4) ||| un (2 ^ min (un ((↑(length l + i):Int) % 8)) 8 * (KP La (↑(K6 (KE 32 (Lb (v:Int) (2 ^ min i 32)) &&& KE 32 1)):Int) % 256) % 256))]) (af (map dB (pk (bl l v i))) (un ((↑(length l + i):Int) / 8)) [dO (Ku (getD (pk (bl l v i)) (un ((↑(length l + i):Int) / 8)) i4) ||| un (2 ^ min (un ((↑(length l + i):Int) % 8)) 8 * (KP La (↑(K6 (KE 32 (Lb (v:Int) (2 ^ min i 32)) &&& KE 32 1)):Int) % 256) % 256))]) (by (simp; done)) (.s 13 (.ow ((↑(length l + i):Int) + 1) (.s 12 (.ow ((i:Int) + 1) (.s 1 (.val 39 (zI ((i:Int) + 1)) (zN (i + 1)) (by (refine aJ ?_; (omega))) (.blk 8 8 (Blk.mk [D.ref 16 16 0 (length (pk (bl l v i))) 1,zI ((↑(length l + i):Int) + 1)] 113 false) (Blk.mk [D.ref 16 16 0 (length (pk (bl l v (i + 1)))) 1,zN (length l + (i + 1))] 113 false) J6 (.blk 16 16 (Blk.mk (af (map dB (pk (bl l v i))) (un ((↑(length l + i):Int) / 8)) [dO (Ku (getD (pk (bl l v i)) (un ((↑(length l + i):Int) / 8)) i4) ||| un (2 ^ min (un ((↑(length l + i):Int) % 8)) 8 * (KP La (↑(K6 (KE 32 (Lb (v:Int) (2 ^ min i 32)) &&& KE 32 1)):Int) % 256) % 256))]) 5 true) (Blk.mk (map dB (pk (bl l v (i + 1)))) 5 true) (by ( refine au (NY (FT (by rw [bn]) om (Bb om om)) ?_); rw [Ba])) (Hn.next next1 ⟨(i + 1),om,⟨⟩⟩ (by show n - (i + 1) < n - i; clear next1 last1; omega) [(0,0),(8,8),(16,16)] ro)))))))))))))))))))))))))))))))))))))) (fun p0=>have p0f:=aO p0; (.blk 8 8 (Blk.mk [D.ref 16 16 0 (length (pk (bl l v i))) 1,zN (length l + i)] 113 false) (Blk.mk [D.ref 16 16 0 (length (pk (bl l v n))) 1,zN (length l + n)] 113 false) (by (rw [show i = n from by (omega)])) (.blk 16 16 (Blk.mk (map dB (pk (bl l v i))) 5 true) (Blk.mk (map dB (pk (bl l v n))) 5 true) (by (rw [show i = n from by (omega)])) (Hn.last last1 0 (():Unit) rfl [(0,0),(8,8),(16,16)] ro))))))) (fun | ⟨i,hi,_⟩=>by kernel_rfl) ⟨(0),om,⟨⟩⟩ [(8,8),(296,296),(336,336)] ro (bX (fun | ()=>(.s 16 (.out [16] [16] (D.tup [D.agg [D.ref 0 0 0 (length (pk (bl l v n))) 1,zN (length l + n)],zI 0]) [Blk.mk (map dB (pk (bl l v n))) 5 true] R (ok _ _ wr wr)))))))))))))))))))))))))) (by kernel_rfl)
end Vp
end Go.Proofs.Ytefjnofhgkjpmaa
namespace Go.Proofs.Ytefjnofhgkjpmaa
open Go.RowKit Go.Bw Go.Vx
open List (length getD map take drop flatMap replicate)
namespace Vp
def eK (v:Nat):Nat → Nat
 | 0=>0
 | i + 1=>2 * eK v i + (v.testBit i).toNat
def uP (v n i:Nat):Nat:=lk [()] (2 ^ (n - i) * eK v i)
theorem nW (v n i:Nat):uP v n i = 2 ^ (n - i) * eK v i:=aA _ _
theorem rJ (v:Nat):∀ n,eK v n < 2 ^ n
 | 0=>My
 | n + 1=>by
  have h:=rJ v n
  have h2:=Ni (v.testBit n)
  rw [eK,LP]; omega
theorem wt {v n i:Nat} (h:i ≤ n):uP v n i < 2 ^ n:=by
 rw [nW]
 have h2:=rJ v i
 have e:2 ^ n = 2 ^ (n - i) * 2 ^ i:=by rw [← NZ]; congr 1; omega
 rw [e]
 exact Nat.mul_lt_mul_of_pos_left h2 (LZ _)
theorem FW (v n:Nat):uP v n n = eK v n:=by rw [nW,LL,Nat.pow_zero,Nat.one_mul]
theorem IQ {v n i:Nat} {X z:Int} (hi:i < n) (hn:n ≤ 32) (hX:X = ((uP v n i:Nat):Int)) (hz:z = (((v.testBit i).toNat:Nat):Int)):IntKind.u32.wrap ((KE 32 X ||| KE 32 (2 ^ min ((n:Int) - 1 - (i:Int)).toNat 32 * z % 4294967296)).toNat:Int) = ((uP v n (i + 1):Nat):Int):=by
 subst hX hz
 have h1:=wt (v:=v) (n:=n) (i:=i) (by omega)
 have h2:=wt (v:=v) (n:=n) (i:=i + 1) (by omega)
 have h3:2 ^ n ≤ 2 ^ 32:=Ln (by decide) hn
 have hb:=Ni (v.testBit i)
 have e1:2 ^ (n - i) = 2 * 2 ^ (n - (i + 1)):=by rw [show n - i = (n - (i + 1)) + 1 from by omega,LP,L0]
 have e2:uP v n (i + 1) = 2 ^ (n - i) * eK v i + 2 ^ (n - (i + 1)) * (v.testBit i).toNat:=by
  rw [nW,eK,Mo,e1,← LH,L0 (2 ^ (n - (i + 1))) 2]
 have e3:2 ^ (n - (i + 1)) * (v.testBit i).toNat < 2 ^ (n - i):=by
  have:2 ^ (n - (i + 1)) * (v.testBit i).toNat ≤ 2 ^ (n - (i + 1)) * 1:=MT _ hb
  have h5:=LZ (n - (i + 1))
  omega
 have h6:2 ^ (n - (i + 1)) * (v.testBit i).toNat ≤ 4294967295:=by rw [e2] at h2; omega
 rw [show min ((n:Int) - 1 - (i:Int)).toNat 32 = n - (i + 1) from by omega,show (2:Int) ^ (n - (i + 1)) * (((v.testBit i).toNat:Nat):Int) = ((2 ^ (n - (i + 1)) * (v.testBit i).toNat:Nat):Int) from by push_cast; rfl,show ((2 ^ (n - (i + 1)) * (v.testBit i).toNat:Nat):Int) % 4294967296 = ((2 ^ (n - (i + 1)) * (v.testBit i).toNat:Nat):Int) from by omega]
 rw [nW] at h1 ⊢
 rw [e2] at h2 ⊢
 have h4:2 ^ (n - i) * eK v i ≤ 4294967295 ∧ 2 ^ (n - (i + 1)) * (v.testBit i).toNat ≤ 4294967295:=by omega
 rw [uw (by omega) (by omega),LX,LX,← MO e3]
theorem C5 {v i:Nat} (hi:i ≤ 32) (hv:v < 4294967296):IntKind.u32.wrap ((KE 32 ((v:Int).fdiv (2 ^ min i 32)) &&& KE 32 1).toNat:Int) = (((v.testBit i).toNat:Nat):Int):=by
 have hd:v / 2 ^ i ≤ v:=OF _ _
 rw [show min i 32 = i from by omega,show (2:Int) ^ i = ((2 ^ i:Nat):Int) from by push_cast; rfl,LO _ (Mu _),← MS,Og]
 generalize v / 2 ^ i = Y at *
 rw [jv 1 2 (by omega) (by decide) (by decide) (by decide)]
 omega
theorem bu (v n:Nat) (hn:n ≤ 32) (hv:v < 2 ^ n):SpecH false Try.prog 107 [.v (.int .u32 (v:Int)),nD n] [] (.tup [.v (.int .u32 ((eK v n:Nat):Int)),iD 0]) []:=by
 have h8:=wn hv hn
 have h4:=wo hv hn
 have h5:v < 4294967296:=K5 hv (Ln (n:=2) (by decide) hn)
 refine SpecH.run T_ok ag Try.func107 rfl rfl rfl trivial rfl 1000 64 (fun R ok=>(.s 19 (.t (decide ((n:Int) ≤ 32)) (by (refine decide_eq_true ?_; (omega))) (.s 2 (.opt (ap .u64 (v:Int)) (D.v (Ll .u64 (v:Int))) (a9 om) (.s 5 (.opt (bq LY (Lb (v:Int) (2 ^ min n 64))) (D.v (Ll .u64 (Lb (v:Int) (2 ^ min n 64)))) (cK _ _) (.s 6 (.f (!Lb (v:Int) (2 ^ min n 64) == 0) (by (simp <;> (omega))) (.s 2 (Hn.inl T_ok ag false 28 0 (aq Try.prog 107 0) (fun (x:(i:Nat) ×' (hi:i ≤ n) ×' Unit)=>match x with | ⟨i,hi,_⟩=>CutS.mk [(0,ac v),(1,zN n),(4,.v (.int .u32 ((uP v n i:Nat):Int))),(11,zN n),(12,nD i)] [] 0) (fun (x:(i:Nat) ×' (hi:i ≤ n) ×' Unit)=>match x with | ⟨i,hi,_⟩=>n - i) [⟨Unit,.exit 0,fun x=>match x with | ()=>CutS.mk [(0,ac v),(1,zN n),(4,.v (.int .u32 ((eK v n:Nat):Int))),(11,zN n)] [] 0⟩] 1000 64 (fun | ⟨i,hi,_⟩,Q,next1,last1=>(.s 2 (.br (decide ((i:Int) < (n:Int))) (fun p0=>have p0f:=aN p0; (.s 7 (.opt (bq La (Lb (v:Int) (2 ^ min i 32))) (uI (Lb (v:Int) (2 ^ min i 32))) (cK _ _) (.s 2 (.opt (bq La (KP La (↑(K6 (KE 32 (Lb (v:Int) (2 ^ min i 32)) &&& KE 32 1)):Int))) (uI (KP La (↑(K6 (KE 32 (Lb (v:Int) (2 ^ min i 32)) &&& KE 32 1)):Int))) (cK _ _) (.s 3 (.ow ((n:Int) - 1) (.s 3 (.ow ((n:Int) - 1 - (i:Int)) (.s 1 (.chk (decide (0 ≤ (n:Int) - 1 - (i:Int))) (by (refine decide_eq_true ?_; (omega))) (.opt (ap .u32 (2 ^ min (un ((n:Int) - 1 - (i:Int))) 32 * KP La (↑(K6 (KE 32 (Lb (v:Int) (2 ^ min i 32)) &&& KE 32 1)):Int))) (uI (2 ^ min (un ((n:Int) - 1 - (i:Int))) 32 * KP La (↑(K6 (KE 32 (Lb (v:Int) (2 ^ min i 32)) &&& KE 32 1)):Int) % 4294967296)) (aE _ _) (.s 2 (.opt (bq La (KP La (↑(K6 (KE 32 (↑(uP v n i):Int) ||| KE 32 (2 ^ min (un ((n:Int) - 1 - (i:Int))) 32 * KP La (↑(K6 (KE 32 (Lb (v:Int) (2 ^ min i 32)) &&& KE 32 1)):Int) % 4294967296))):Int))) (uI (KP La (↑(K6 (KE 32 (↑(uP v n i):Int) ||| KE 32 (2 ^ min (un ((n:Int) - 1 - (i:Int))) 32 * KP La (↑(K6 (KE 32 (Lb (v:Int) (2 ^ min i 32)) &&& KE 32 1)):Int) % 4294967296))):Int))) (cK _ _) (.s 3 (.ow ((i:Int) + 1) (.s 1 (.val 4 (uI (KP La (↑(K6 (KE 32 (↑(uP v n i):Int) ||| KE 32 (2 ^ min (un ((n:Int) - 1 - (i:Int))) 32 * KP La (↑(K6 (KE 32 (Lb (v:Int) (2 ^ min i 32)) &&& KE 32 1)):Int) % 4294967296))):Int))) (ac (uP v n (i + 1))) (by ( exact aJ (IQ om hn rfl (C5 om om)))) (.val 12 (zI ((i:Int) + 1)) (zN (i + 1)) (by (refine aJ ?_; (omega))) (Hn.next next1 ⟨(i + 1),om,⟨⟩⟩ (by show n - (i + 1) < n - i; clear next1 last1; omega) [] ro)))))))))))))))))))) (fun p0=>have p0f:=aO p0; (.val 4 (ac (uP v n i)) (ac (eK v n)) (by (rw [show i = n from by (omega),FW])) (Hn.last last1 0 (():Unit) rfl [] ro)))))) (fun | ⟨i,hi,_⟩=>by kernel_rfl) ⟨(0),om,⟨⟩⟩ [] ro (bX (fun | ()=>(.s 3 (.out [] [] (D.tup [ac (eK v n),zI 0]) [] R (ok _ _ wr wr)))))))))))))))) (by kernel_rfl)
end Vp
end Go.Proofs.Ytefjnofhgkjpmaa
namespace Go.Proofs.Ytefjnofhgkjpmaa
open Go.RowKit Go.Bw Go.Vx
namespace Vp
def cJ (x:Nat):D:=.v (.int .u32 ((x:Nat):Int))
def dk (x:Nat):Nat → Nat
 | 0=>x
 | i + 1=>dk x i / 2
theorem pS (x:Nat):∀ i,dk x i = x / 2 ^ i
 | 0=>(Nat.div_one x).symm
 | i + 1=>by rw [dk,pS x i,Nat.div_div_eq_div_mul,LP]
end Vp
end Go.Proofs.Ytefjnofhgkjpmaa
namespace Go.Proofs.Ytefjnofhgkjpmaa
open Go.RowKit Go.Bw Go.Vx
namespace Vp
theorem dV {v:Nat} (h:v ≤ 15):dk 32768 v = 2 ^ (15 - v):=by
 rw [pS,show (32768:Nat) = 2 ^ 15 from rfl,Nat.pow_div h (by decide)]
end Vp
end Go.Proofs.Ytefjnofhgkjpmaa
namespace Go.Proofs.Ytefjnofhgkjpmaa
open Go.RowKit Go.Bw Go.Vx
namespace Vp
def uC (l:List UInt8):Nat → Nat
 | 0=>0
 | n + 1=>uC l n + (if n = 0 then 0 else (ef l n l.length).length * dk 32768 n)
def J7 (l:List UInt8) (n k:Nat):Nat:=lk l (uC l n + (if n = 0 then 0 else (ef l n k).length * dk 32768 n))
theorem C6 (l:List UInt8) (n k:Nat):J7 l n k = uC l n + (if n = 0 then 0 else (ef l n k).length * dk 32768 n):=aA _ _
def pU (l:List UInt8) (j:Nat):Nat:=J7 l (l.getD j i4).toNat j / dk 32768 (l.getD j i4).toNat
def IR (l:List UInt8) (n k j:Nat):Nat × Nat :=
 if (l.getD j i4).toNat ≠ 0 ∧ ((l.getD j i4).toNat < n ∨ (l.getD j i4).toNat = n ∧ j < k) then (pU l j,(l.getD j i4).toNat) else (0,0)
def md (l:List UInt8) (n k:Nat):List (Nat × Nat):=lk l ((Lf l.length).map (IR l n k))
theorem Bc (l:List UInt8) (n k:Nat):md l n k = (Lf l.length).map (IR l n k):=aA _ _
def ab (l:List UInt8):List (Nat × Nat):=lk l (md l 16 0)
theorem wu (l:List UInt8):ab l = md l 16 0:=aA _ _
def jy (c:Nat × Nat):List D:=[cJ c.1,ie c.2]
theorem C7 (l:List UInt8) (n k:Nat):(md l n k).length = l.length:=by rw [Bc,KH,LG]
theorem j7 (f:Nat × Nat → List D) (hf:∀ c,(f c).length = 2):∀ (xs:List (Nat × Nat)) (k:Nat),(xs.flatMap f)[2 * k]? = (xs[k]?).bind (fun c=>(f c)[0]?) ∧ (xs.flatMap f)[2 * k + 1]? = (xs[k]?).bind (fun c=>(f c)[1]?)
 | [],k=>by simp
 | c :: r,0=>by
  rw [Lz]
  exact ⟨by rw [List.getElem?_append_left (by rw [hf]; omega)]; rfl,by rw [List.getElem?_append_left (by rw [hf]; omega)]; rfl⟩
 | c :: r,k + 1=>by
  have ih:=j7 f hf r k
  rw [Lz]
  refine ⟨?_,?_⟩
  ·rw [List.getElem?_append_right (by rw [hf]; omega),hf,show 2 * (k + 1) - 2 = 2 * k from by omega,ih.1]; rfl
  ·rw [List.getElem?_append_right (by rw [hf]; omega),hf,show 2 * (k + 1) + 1 - 2 = 2 * k + 1 from by omega,ih.2]; rfl
theorem yM {xs:List (Nat × Nat)} {k o:Nat} {c:Nat × Nat} (hk:k < xs.length) (ho:o = 2 * k):af (xs.flatMap jy) o (jy c) = (xs.set k c).flatMap jy:=by
 have hl:∀ ys:List (Nat × Nat),(ys.flatMap jy).length = 2 * ys.length:=fun ys=>by rw [ba (k:=2) (fun _=>rfl)]; omega
 subst ho
 apply List.ext_getElem?
 intro i
 rw [cd (by rw [hl]; show 2 * k + 2 ≤ _; omega)]
 have hd:∃ j,i = 2 * j ∨ i = 2 * j + 1:=⟨i / 2,by omega⟩
 obtain ⟨j,hj⟩:=hd
 have g1:=j7 jy (fun _=>rfl) xs j
 have g2:=j7 jy (fun _=>rfl) (xs.set k c) j
 show (if 2 * k ≤ i ∧ i < 2 * k + 2 then (jy c)[i - 2 * k]? else (xs.flatMap jy)[i]?) = _
 by_cases e:k = j
 ·subst e
  rw [List.getElem?_set,if_pos rfl,if_pos hk] at g2
  rcases hj with rfl | rfl
  ·rw [if_pos (by omega),g2.1,LL]; rfl
  ·rw [if_pos (by omega),g2.2,ME]; rfl
 ·rw [List.getElem?_set,if_neg e] at g2
  rw [if_neg (by omega)]
  rcases hj with rfl | rfl
  ·rw [g1.1,g2.1]
  ·rw [g1.2,g2.2]
theorem C8 (n:Nat):co [D.v (.int .u32 0),D.v (.int .u8 0)] (n * 2) = (KJ n ((0,0):Nat × Nat)).flatMap jy:=by
 apply List.ext_getElem?
 intro i
 unfold co
 rw [List.getElem?_map]
 obtain ⟨j,hj⟩:∃ j,i = 2 * j ∨ i = 2 * j + 1:=⟨i / 2,by omega⟩
 have g:=j7 jy (fun _=>rfl) (KJ n ((0,0):Nat × Nat)) j
 rw [List.getElem?_replicate] at g
 by_cases h:j < n
 ·rw [if_pos h] at g
  rcases hj with rfl | rfl
  ·rw [List.getElem?_range (by omega),g.1]
   show some (ON _ (2 * j % 2) i4) = _
   rw [show 2 * j % 2 = 0 from by omega]; rfl
  ·rw [List.getElem?_range (by omega),g.2]
   show some (ON _ ((2 * j + 1) % 2) i4) = _
   rw [show (2 * j + 1) % 2 = 1 from by omega]; rfl
 ·rw [if_neg h] at g
  rcases hj with rfl | rfl
  ·rw [List.getElem?_eq_none (by rw [LG]; omega),g.1]; rfl
  ·rw [List.getElem?_eq_none (by rw [LG]; omega),g.2]; rfl
theorem pV {a:Nat} (h:a ≤ 15):1 ≤ dk 32768 a:=by rw [dV h]; exact LZ _
end Vp
end Go.Proofs.Ytefjnofhgkjpmaa
namespace Go.Proofs.Ytefjnofhgkjpmaa
open Go.RowKit Go.Bw Go.Vx
open List (length getD map take drop flatMap replicate)
namespace Vp
theorem C9 {p:Prop} (h:p:=by ((refine aF ?_ ?_) <;> (repeat' (first | (refine aF ?_ ?_) | (with_reducible rfl) | (refine decide_eq_true ?_) | (refine Nat.ble_eq_true_of_le ?_) | (refine er ?_))) <;> (omega))):p:=h
theorem FX (l:List UInt8):aD l 0 = 0:=by rw [k7]; rfl
theorem nX {l:List UInt8} {m:Nat} (hm:m ≤ 15) (h:cz l m = 0):cz l 15 = 0 ∧ dj l 15 = false:=by
 have h0:=eU h
 have e3:dj l 15 = false:=j5 fun i z=>by have:=eJ h0.2.1 z; omega
 refine ⟨?_,e3⟩
 rw [iA] at *
 unfold rF at *
 rw [e3,if_neg (by omega),if_neg (by decide)]
 rw [if_neg (by omega),if_neg (by rw [h0.2.1]; decide)] at h
 exact h
theorem wv (l:List UInt8) (q p:Nat) (hq:q = (cT l).length) (hp:p = (cT l).length) (hQ:q ≤ 320):SpecH false Try.prog 35 [A3 q l,A3 p l] [] (bD true) []:=by
 refine SpecH.run T_ok ag Try.func35 rfl rfl rfl trivial rfl 1000 64 (fun R ok=>(.s 23 (.t ((↑(aD l 0):Int) == (↑(aD l 0):Int) && ((↑(aD l 1):Int) == (↑(aD l 1):Int) && ((↑(aD l 2):Int) == (↑(aD l 2):Int) && ((↑(aD l 3):Int) == (↑(aD l 3):Int) && ((↑(aD l 4):Int) == (↑(aD l 4):Int) && ((↑(aD l 5):Int) == (↑(aD l 5):Int) && ((↑(aD l 6):Int) == (↑(aD l 6):Int) && ((↑(aD l 7):Int) == (↑(aD l 7):Int) && ((↑(aD l 8):Int) == (↑(aD l 8):Int) && ((↑(aD l 9):Int) == (↑(aD l 9):Int) && ((↑(aD l 10):Int) == (↑(aD l 10):Int) && ((↑(aD l 11):Int) == (↑(aD l 11):Int) && ((↑(aD l 12):Int) == (↑(aD l 12):Int) && ((↑(aD l 13):Int) == (↑(aD l 13):Int) && ((↑(aD l 14):Int) == (↑(aD l 14):Int) && ((↑(aD l 15):Int) == (↑(aD l 15):Int) && true)))))))))))))))) C9 (.s 24 (.f ((q:Int) != (p:Int)) (by (simp <;> (omega))) (.s 3 (Hn.inl T_ok ag false 26 112 (aq Try.prog 57 0) (fun (x:(i:Nat) ×' (hi:i ≤ q) ×' Unit)=>match x with | ⟨i,hi,_⟩=>CutS.mk [(0,D.sl false q 1 (map nD (cT l))),(1,D.sl false p 1 (map nD (cT l))),(12,zN q),(13,nD i)] [⟨0,0,0,0,.b ⟨[zN (aD l 0),zN (aD l 1),zN (aD l 2),zN (aD l 3),zN (aD l 4),zN (aD l 5),zN (aD l 6),zN (aD l 7),zN (aD l 8),zN (aD l 9),zN (aD l 10),zN (aD l 11),zN (aD l 12),zN (aD l 13),zN (aD l 14),zN (aD l 15),D.sl false q 1 (map nD (cT l))],43,false⟩⟩,⟨8,8,8,8,.b ⟨[zN (aD l 0),zN (aD l 1),zN (aD l 2),zN (aD l 3),zN (aD l 4),zN (aD l 5),zN (aD l 6),zN (aD l 7),zN (aD l 8),zN (aD l 9),zN (aD l 10),zN (aD l 11),zN (aD l 12),zN (aD l 13),zN (aD l 14),zN (aD l 15),D.sl false p 1 (map nD (cT l))],43,false⟩⟩] 128) (fun (x:(i:Nat) ×' (hi:i ≤ q) ×' Unit)=>match x with | ⟨i,hi,_⟩=>q - i) [⟨Unit,.exit 0,fun x=>match x with | ()=>CutS.mk [(0,D.sl false q 1 (map nD (cT l))),(1,D.sl false p 1 (map nD (cT l))),(12,zN q)] [⟨0,0,0,0,.b ⟨[zN (aD l 0),zN (aD l 1),zN (aD l 2),zN (aD l 3),zN (aD l 4),zN (aD l 5),zN (aD l 6),zN (aD l 7),zN (aD l 8),zN (aD l 9),zN (aD l 10),zN (aD l 11),zN (aD l 12),zN (aD l 13),zN (aD l 14),zN (aD l 15),D.sl false q 1 (map nD (cT l))],43,false⟩⟩,⟨8,8,8,8,.b ⟨[zN (aD l 0),zN (aD l 1),zN (aD l 2),zN (aD l 3),zN (aD l 4),zN (aD l 5),zN (aD l 6),zN (aD l 7),zN (aD l 8),zN (aD l 9),zN (aD l 10),zN (aD l 11),zN (aD l 12),zN (aD l 13),zN (aD l 14),zN (aD l 15),D.sl false p 1 (map nD (cT l))],43,false⟩⟩] 128⟩] 1000 64 (fun | ⟨i,hi,_⟩,Q,next1,last1=>(.s 2 (.br (decide ((i:Int) < (q:Int))) (fun p0=>have p0f:=aN p0; (.s 6 (.chk (true && decide ((i:Int) < (q:Int)) && true) C9 (.s 2 (.opt ((map nD (cT l))[i * 1]?) (nD (getD (cT l) (i * 1) i4)) (ao _ _ om) (.s 3 (.chk (true && decide ((i:Int) < (p:Int)) && true) C9 (.s 2 (.opt ((map nD (cT l))[i * 1]?) (nD (getD (cT l) (i * 1) i4)) (ao _ _ om) (.s 2 (.f ((↑(getD (cT l) (i * 1) i4):Int) != (↑(getD (cT l) (i * 1) i4):Int)) (by (simp; done)) (.s 2 (.ow ((i:Int) + 1) (.s 1 (.val 13 (zI ((i:Int) + 1)) (zN (i + 1)) (by (refine aJ ?_; (omega))) (Hn.next next1 ⟨(i + 1),om,⟨⟩⟩ (by show q - (i + 1) < q - i; clear next1 last1; omega) [(0,0),(8,8)] ro)))))))))))))))) (fun p0=>have p0f:=aO p0; (Hn.last last1 0 (():Unit) rfl [(0,0),(8,8)] ro))))) (fun | ⟨i,hi,_⟩=>by kernel_rfl) ⟨(0),om,⟨⟩⟩ [(0,0),(8,8)] ro (bX (fun | ()=>(.s 3 (.out [] [] (D.v (.bool true)) [] R (ok _ _ wr wr)))))))))))) (by kernel_rfl)
def J8 (b l:List UInt8):Nat → Nat → Nat → Nat → Nat × Nat × Nat
 | 0,_,_,_=>(0,0,50)
 | k + 1,a,d,p=>if (pN l a).length + aD l a = (cT l).length then (0,0,50) else if Kr b p 1 ≠ 0 then (0,0,10) else
  if 2 * (d - aD l a) + Iz b p 1 < aD l (a + 1) then ((cT l).getD ((pN l a).length + aD l a + (2 * (d - aD l a) + Iz b p 1)) i4,p + 1,0)
  else J8 b l k (a + 1) (2 * (d - aD l a) + Iz b p 1) (p + 1)
end Vp
end Go.Proofs.Ytefjnofhgkjpmaa
namespace Go.Proofs.Ytefjnofhgkjpmaa
open Go.RowKit Go.Bw Go.Vx
namespace Vp
theorem lf (l:List UInt8) (n:Nat):∀ (k j:Nat),∃ r,ef l n (k + j) = ef l n k ++ r
 | k,0=>⟨[],by simp⟩
 | k,j + 1=>by
  obtain ⟨r,hr⟩:=lf l n k j
  exact ⟨r ++ (if (l.getD (k + j) i4).toNat = n then [k + j] else []),by rw [← LK,gK,hr,KS]⟩
def jG (l:List UInt8):Nat → Nat
 | 0=>0
 | a + 1=>2 * (jG l a + aD l a)
theorem yN {l:List UInt8} {a:Nat} (h:a ≠ 0):(ef l a l.length).length = aD l a:=by rw [k7]; unfold wc; rw [if_neg h]
theorem pW {a:Nat} (h:a < 15):dk 32768 a = 2 * dk 32768 (a + 1):=by
 rw [dV (by omega),dV (by omega),show 15 - a = (15 - (a + 1)) + 1 from by omega,LP,L0]
theorem rK (l:List UInt8):∀ a,a ≤ 15 → uC l (a + 1) = (jG l a + aD l a) * dk 32768 a
 | 0,_=>by rw [uC,if_pos rfl,FX]; show 0 + 0 = (0 + 0) * _; omega
 | a + 1,h=>by
  have ih:=rK l a (by omega)
  rw [uC,if_neg (Ms a),ih,yN (Ms a),jG,pW (by omega)]
  generalize dk 32768 (a + 1) = P
  generalize jG l a + aD l a = X
  rw [Lr (2 * X),LH 2 X P,Nat.mul_left_comm X 2 P]
theorem Da {l:List UInt8} {a:Nat} (h0:a ≠ 0) (h:a ≤ 15):uC l a = jG l a * dk 32768 a:=by
 obtain ⟨b,rfl⟩:∃ b,a = b + 1:=⟨a - 1,by omega⟩
 rw [rK l b (by omega),jG,pW (by omega)]
 rw [L0 2 (jG l b + aD l b),LH]
theorem pX (l:List UInt8) (a:Nat):∀ k,uC l a ≤ uC l (a + k)
 | 0=>KG _
 | k + 1=>KK (pX l a k) (by rw [← LK,uC]; exact NE _ _)
theorem Bd {l:List UInt8} {i a:Nat} (h:(l.getD i i4).toNat = a) (h0:a ≠ 0) (h1:a ≤ 15):pU l i = jG l a + (ef l a i).length:=by
 unfold pU
 rw [h,C6,if_neg h0,Da h0 h1,← Lr,Nat.mul_div_cancel _ (pV h1)]
def uQ (l:List UInt8) (k:Nat):Nat → Nat
 | 0=>0
 | a + 1=>uQ l k a + (if a = 0 then 0 else (ef l a k).length * dk 32768 a)
theorem ww (l:List UInt8):∀ a,uQ l l.length a = uC l a
 | 0=>rfl
 | a + 1=>by rw [uQ,uC,ww l a]
theorem pY (l:List UInt8):∀ a,uQ l 0 a = 0
 | 0=>rfl
 | a + 1=>by
  have:ef l a 0 = []:=rfl
  rw [uQ,pY l a,this,Ml,LQ]; split <;> rfl
theorem pZ (l:List UInt8) (k:Nat):∀ a,uQ l (k + 1) a = uQ l k a + (if (l.getD k i4).toNat ≠ 0 ∧ (l.getD k i4).toNat < a then dk 32768 (l.getD k i4).toNat else 0)
 | 0=>by rw [uQ,uQ,if_neg (fun q=>LJ _ q.2)]
 | a + 1=>by
  rw [uQ,uQ,pZ l k a,gK]
  generalize (l.getD k i4).toNat = x
  by_cases h0:a = 0
  ·rw [if_pos h0,if_pos h0,if_neg (fun q=>by omega),if_neg (fun q=>by omega)]
  ·rw [if_neg h0,if_neg h0]
   by_cases h:x = a
   ·subst h
    rw [if_pos rfl,if_neg (fun q=>by omega),if_pos ⟨h0,by omega⟩,Kw,Lg,Nat.succ_mul]; omega
   ·rw [if_neg h,Lk]
    by_cases h2:x ≠ 0 ∧ x < a
    ·rw [if_pos h2,if_pos (by omega)]; omega
    ·rw [if_neg h2,if_neg (by omega)]; omega
theorem FY (l:List UInt8) (ho:dj l 15 = false):uC l 16 = aL l:=by
 have key:∀ k,k ≤ l.length → uQ l k 16 = aL (l.take k):=by
  intro k
  induction k with
  | zero=>intro _; exact pY l 16
  | succ k ih =>
   intro hk
   have hx:=eJ ho (i:=k) (by omega)
   rw [pZ,ih (by omega),fO (by omega)]
   by_cases q:(l.getD k i4).toNat = 0
   ·rw [if_neg (fun z=>z.1 q),if_pos q]
   ·rw [if_pos ⟨q,by omega⟩,if_neg q,dV hx]
 have h:=key l.length (KG _)
 rw [LF,ww] at h; exact h
def Ks (b l:List UInt8) (n d c:Nat):Nat × Nat × Nat:=lk b (if d < aD l n then ((cT l).getD ((pN l n).length + d) i4,c,0) else J8 b l (16 - n) n d c)
section
variable {b l:List UInt8} {n d c v:Nat} {R:Nat × Nat × Nat}
end

section
variable {b l:List UInt8} {n a d c v:Nat} {R:Nat × Nat × Nat} (hT:cz l 15 = 0) (hn:n = l.length) (ha:a ≤ 15) (hv:v = jG l a + d) (hb:v < 2 ^ a) (hno:∀ j,j < n → ¬ ((l.getD j i4).toNat = a ∧ pU l j = v ∧ 0 < a)) (hR:Ks b l a d c = R)
include hT hn ha hv hb hno hR
end
end Vp
end Go.Proofs.Ytefjnofhgkjpmaa

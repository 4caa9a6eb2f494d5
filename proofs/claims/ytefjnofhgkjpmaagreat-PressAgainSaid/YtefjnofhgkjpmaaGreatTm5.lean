/- Part 5. -/
import Derived.Test.YtefjnofhgkjpmaaGreatTm4
import Derived.Test.YtefjnofhgkjpmaaGreatRows
set_option linter.unusedVariables false
set_option linter.unusedSimpArgs false
set_option maxRecDepth 100000
set_option maxHeartbeats 4000000
namespace Go.Vx
open Go.RowKit Go.Bw
theorem aC {A B:List D} {e:TypeId} {r:Bool} (h:A = B):Blk.mk A e r = Blk.mk B e r:=by rw [h]
theorem D.sim.slN {nn:Bool} {n n' sz:Nat} {cells cells' : List D} (h1:n = n') (h2:cells = cells'):(D.sl nn n sz cells).sim (.sl nn n' sz cells'):=by rw [h1,h2]; exact D.sim.refl _
theorem D.sim.tup {l l' : List D} (h:bY l l'):(D.tup l).sim (.tup l'):=fun E w u hr=>by
 obtain ⟨h1,h2⟩:=h.get
 cases hr with
 | tup _ us hlen hd =>
  refine .tup _ us (by rw [hlen,h1]) fun i d u a b=>?_
  obtain ⟨d0,c1,c2⟩:=h2 i d a
  exact c2 _ _ _ (hd i d0 u c1 b)
theorem D.sim.ifc {t:TypeId} {x x' : D} (h:x.sim x'):(D.ifc t x).sim (.ifc t x'):=fun E w u hr=>by
 cases hr with
 | ifc _ _ u hx=>exact .ifc _ _ u (h _ _ _ hx)
theorem bf {α:Type} {c:Bool} {a b:α} (h:c = true):cond c a b = a:=by rw [h]; rfl
theorem eg (k:IntKind) (m n:Int):fB k true m n = some (.v (.int k (max m n))):=zr rfl
theorem cY {b:Bool} (h:(!b) = true):b = false:=by cases b <;> simp_all
theorem cZ {b:Bool} (h:(!b) = false):b = true:=by cases b <;> simp_all
theorem DS {a b:Bool} (h:(a && b) = true):a = true:=by cases a <;> simp_all
theorem DT {a b:Bool} (h:(a && b) = true):b = true:=by cases a <;> simp_all
theorem aH {a b:Bool} (h1:a = true) (h2:b = true):(a && b) = true:=by rw [h1,h2]; rfl
theorem et {a b:Nat} (h:a = b):Nat.beq a b = true:=by rw [h]; exact Nat.beq_refl b
theorem fU (b:UInt8) {m n:Int} (hm:m ≤ 0) (hn:255 ≤ n):m ≤ (b.toNat:Int) ∧ (b.toNat:Int) ≤ n:=by
 have:=b.toNat_lt
 constructor <;> omega
theorem aO {k:IntKind} {a b:Int} (h:a = b):D.v (.int k a) = D.v (.int k b):=by rw [h]
theorem lr {α:Type} [Inhabited α] {l:List α} {i:Nat} (h:i < l.length):l.take (i + 1) = l.take i ++ [l.getD i default]:=by
 rw [List.take_add_one,List.getElem?_eq_getElem h]; simp [h]
theorem tw {l:List D} (h:ab l = true) (n:Nat):ab (l.take n) = true:=bg.2 fun d hd=>bg.1 h d (List.mem_of_mem_take hd)
theorem tz {l:List D} (h:ab l = true) (n:Nat):ab (l.drop n) = true:=bg.2 fun d hd=>bg.1 h d (List.mem_of_mem_drop hd)
theorem F9 (bs:List UInt8) (n:Nat):ab ((bs.map dB).take n) = true:=tw (aR bs) n
theorem Ga (bs:List UInt8) (n:Nat):ab ((bs.map dB).drop n) = true:=tz (aR bs) n
theorem zt (c:Bool) (a b:List D):ab (cond c a b) = cond c (ab a) (ab b):=by cases c <;> rfl
theorem wL (a b:List D):ab (a ++ b) = (ab a && ab b):=by
 induction a with
 | nil=>rfl
 | cons x a ih=>show (x.closed && ab (a ++ b)) = _; rw [ih,← Bool.and_assoc]; rfl
theorem pZ {α:Type} [BEq α] [LawfulBEq α] {a b:α} (h:(a != b) = true):a ≠ b:=by simpa using h
theorem qa {α:Type} [BEq α] [LawfulBEq α] {a b:α} (h:(a != b) = false):a = b:=by simpa using h
theorem au {α:Type} [BEq α] [LawfulBEq α] {a b:α} (h:(a == b) = false):a ≠ b:=by simpa using h
theorem ft (l:List UInt8):(ByteArray.mk l.toArray).toList = l:=by rw [ByteArray.toList_eq]
theorem u5 (a b:List UInt8):ByteArray.mk a.toArray ++ ByteArray.mk b.toArray = ByteArray.mk (a ++ b).toArray:=by
 apply ByteArray.ext
 simp
theorem zu (a:List UInt8):(ByteArray.mk a.toArray).size = a.length:=rfl
theorem rT {α:Type} [Inhabited α] {f:α → List D} {k:Nat} (hk:∀ x,(f x).length = k):∀ {xs:List α} {i j:Nat},i < xs.length → j < k → (xs.flatMap f)[i * k + j]? = (f (xs.getD i default))[j]?
 | [],i,j,h,_=>by simp at h
 | x :: xs,0,j,h,hj=>by
  rw [List.flatMap_cons,Nat.zero_mul,Nat.zero_add,List.getElem?_append_left (by rw [hk]; exact hj)]; rfl
 | x :: xs,i + 1,j,h,hj=>by
  rw [List.flatMap_cons,List.getElem?_append_right (by rw [hk,Nat.add_mul]; omega),hk]
  have e:(i + 1) * k + j - k = i * k + j:=by rw [Nat.add_mul]; omega
  rw [e,rT hk (by simpa using h) hj]; rfl
theorem A5 {α:Type} [Inhabited α] {f:α → List D} {k:Nat} (hk:∀ x,(f x).length = k) {xs:List α} {i n j:Nat} {d:D} (h:i < xs.length) (e:n = i * k + j) (hj:(f (xs.getD i default))[j]? = some d):(xs.flatMap f)[n]? = some d:=by
 have hlt:j < k:=by rw [← hk (xs.getD i default)]; exact (List.getElem?_eq_some_iff.1 hj).1
 rw [e,rT hk h hlt]; exact hj
theorem bm {α:Type} {f:α → List D} {k:Nat} (hk:∀ x,(f x).length = k):∀ (xs:List α),(xs.flatMap f).length = xs.length * k
 | []=>by simp
 | x :: xs=>by rw [List.flatMap_cons,List.length_append,hk,bm hk xs,List.length_cons,Nat.add_mul]; omega
theorem aD {α:Type} [Inhabited α] {f:α → List D} {k:Nat} (hk:∀ x,(f x).length = k) {xs:List α} {i n:Nat} (h:i < xs.length) (e:n = i * k):((xs.flatMap f).drop n).take k = f (xs.getD i default):=by
 apply List.ext_getElem?
 intro j
 rw [List.getElem?_take]
 by_cases hj:j < k
 ·rw [if_pos hj,List.getElem?_drop,e,rT hk h hj]
 ·rw [if_neg hj,List.getElem?_eq_none (by rw [hk]; omega)]
theorem aY (bs:List UInt8) (off m:Nat):(bif Nat.beq off 0 && Nat.beq m (bs.map dB).length then bs.map dB else ((bs.map dB).drop off).take m) = ((bs.drop off).take m).map dB:=by
 cases h:Nat.beq off 0 && Nat.beq m (bs.map dB).length with
 | true =>
  have h1:=Nat.eq_of_beq_eq_true (DS h)
  have h2:=Nat.eq_of_beq_eq_true (DT h)
  subst h1 h2
  simp
 | false=>rw [cond_false,List.map_take,List.map_drop]
theorem D.sim.nil {sz:Nat} (h:0 < sz):(D.v (.slice none 0 0)).sim (.sl false 0 sz []):=fun E w u hr=>by
 cases hr with
 | v=>exact .sl false 0 sz [] none 0 [] rfl (by simp) (by simp) (by simp) h ⟨Nat.le_refl _,Nat.zero_le _⟩ (fun _=>⟨rfl,rfl⟩) (.inl rfl)
theorem D.sim.slc {nn:Bool} {n n' sz:Nat} {cells cells' : List D} (h1:n = n') (h2:bY cells cells'):(D.sl nn n sz cells).sim (.sl false n' sz cells'):=by
 subst h1
 intro E w u h
 obtain ⟨e,g⟩:=h2.get
 cases h with
 | sl _ _ _ _ a c us hlen hd h1 hn hs hc h0 hr =>
  refine .sl false n sz cells' a c us (by rw [hlen,e]) (fun i d' u a1 a2=>?_) h1 (by rw [← e,hn]) hs hc (fun h=>⟨(h0 h).1,rfl⟩) hr
  obtain ⟨d,b1,b2⟩:=g i d' a1
  exact b2 _ _ _ (hd i d u b1 a2)
theorem da {α:Type} {f:α → List D} (h:∀ x,ab (f x) = true):∀ l:List α,ab (l.flatMap f) = true
 | []=>rfl
 | x :: l=>by rw [List.flatMap_cons,wL,h x,da h l]; rfl
theorem eh {α:Type} {f:α → List D} (h:∀ x,th (f x) = true) (l:List α):th (l.flatMap f) = true:=gQ.2 fun d hd=>by
 obtain ⟨t,_,hd⟩:=List.mem_flatMap.1 hd
 exact gQ.1 (h t) d hd
theorem tA {α:Type} {f:α → List D} {k:Nat} (hk:∀ x,(f x).length = k):∀ (xs:List α) (i:Nat),(xs.flatMap f).take (i * k) = (xs.take i).flatMap f
 | [],i=>by simp
 | x :: xs,0=>by simp
 | x :: xs,i + 1=>by
  rw [List.flatMap_cons,List.take_succ_cons,List.flatMap_cons,List.take_append,hk,List.take_of_length_le (by rw [hk,Nat.add_mul]; omega),show (i + 1) * k - k = i * k from by rw [Nat.add_mul]; omega,tA hk xs i]
theorem kr {α:Type} {f:α → List D} {c:List α} {l:List D} {t:α} {y:TypeId} {r:Bool} (h:l = f t):(⟨c.flatMap f ++ l,y,r⟩:Blk) = ⟨(c ++ [t]).flatMap f,y,r⟩:=by rw [h,List.flatMap_append]; simp
theorem Gb (b:UInt8):(dB b).closed = true:=rfl
attribute [simp] ft u5 zu
attribute [simp] cd fE uF j9 aL cn aX kO K3 K4 Jt ab D.closed aR F9 Ga zt wL tw tz da Gb cD bA oe
end Go.Vx
namespace Go.Proofs.YtefjnofhgkjpmaaGreat
open Go.Vx

def Lb:TI:=⟨.int .i64,.int .i64 0,1,8,false⟩
def Lc:TI:=⟨.int .i64,.int .i64 0,1,8,false⟩
def Ld:TI:=⟨.bool,.bool false,1,1,false⟩
def zv:TI:=⟨.int .u8,.int .u8 0,1,1,false⟩
def Lf:TI:=⟨.string,.string ⟨#[]⟩,1,16,false⟩
def Gc:TI:=⟨.int .u64,.int .u64 0,1,8,false⟩
def Gd:TI:=⟨.pointer 302,.pointer none,1,8,false⟩
def Ge:TI:=⟨.pointer 305,.pointer none,1,8,false⟩
def Gf:TI:=⟨.pointer 313,.pointer none,1,8,false⟩
def Gg:TI:=⟨.interface #[],.nilIface,1,16,false⟩
def Gh:TI:=⟨.int .i32,.int .i32 0,1,4,false⟩
def Gi : TI := ⟨.struct #[⟨"Size", 3, 0, false, "", "", 0⟩, ⟨"Chain", 3, 1, false, "", "", 8⟩, ⟨"Most", 3, 2, false, "", "", 16⟩, ⟨"Lazy", 4, 3, false, "", "", 24⟩], .agg #[.int .i64 0, .int .i64 0, .int .i64 0, .bool false], 4, 32, true⟩
def Gj : TI := ⟨.struct #[⟨"Size", 3, 0, false, "", "", 0⟩, ⟨"Chain", 3, 1, false, "", "", 8⟩, ⟨"Most", 3, 2, false, "", "", 16⟩, ⟨"Lazy", 4, 3, false, "", "", 24⟩], .agg #[.int .i64 0, .int .i64 0, .int .i64 0, .bool false], 4, 32, true⟩
def Gk:TI:=⟨.slice 5,.slice none 0 0,1,24,false⟩
def Gl : TI := ⟨.struct #[⟨"Bytes", 24, 0, false, "", "", 0⟩, ⟨"Bits", 3, 1, false, "", "", 24⟩], .agg #[.slice none 0 0, .int .i64 0], 2, 32, false⟩
def Gm : TI := ⟨.struct #[⟨"Bytes", 24, 0, false, "", "", 0⟩, ⟨"Bits", 3, 1, false, "", "", 24⟩], .agg #[.slice none 0 0, .int .i64 0], 2, 32, false⟩
def Gn : TI := ⟨.struct #[⟨"Style", 23, 0, false, "", "", 0⟩, ⟨"Hist", 24, 4, false, "", "", 32⟩, ⟨"Wait", 24, 5, false, "", "", 56⟩, ⟨"Pen", 26, 6, false, "", "", 80⟩, ⟨"Over", 4, 8, false, "", "", 112⟩], .agg #[.int .i64 0, .int .i64 0, .int .i64 0, .bool false, .slice none 0 0, .slice none 0 0, .slice none 0 0, .int .i64 0, .bool false], 9, 120, false⟩
def Gp : TI := ⟨.struct #[⟨"Style", 23, 0, false, "", "", 0⟩, ⟨"Hist", 24, 4, false, "", "", 32⟩, ⟨"Wait", 24, 5, false, "", "", 56⟩, ⟨"Pen", 26, 6, false, "", "", 80⟩, ⟨"Over", 4, 8, false, "", "", 112⟩], .agg #[.int .i64 0, .int .i64 0, .int .i64 0, .bool false, .slice none 0 0, .slice none 0 0, .slice none 0 0, .int .i64 0, .bool false], 9, 120, false⟩
def Gq:TI:=⟨.int .i64,.int .i64 0,1,8,false⟩
def Gr:TI:=⟨.slice 56,.slice none 0 0,1,24,false⟩
def Gs : TI := ⟨.struct #[⟨"Flush", 4, 0, false, "", "", 0⟩, ⟨"Text", 24, 1, false, "", "", 8⟩], .agg #[.bool false, .slice none 0 0], 2, 32, false⟩
def Gt : TI := ⟨.struct #[⟨"Flush", 4, 0, false, "", "", 0⟩, ⟨"Text", 24, 1, false, "", "", 8⟩], .agg #[.bool false, .slice none 0 0], 2, 32, false⟩
def Gu:TI:=⟨.pointer 68,.pointer none,1,8,false⟩
def Gw : TI := ⟨.struct #[⟨"Press", 28, 0, true, "", "", 0⟩, ⟨"out", 24, 9, false, "", "bellows/press", 120⟩], .agg #[.int .i64 0, .int .i64 0, .int .i64 0, .bool false, .slice none 0 0, .slice none 0 0, .slice none 0 0, .int .i64 0, .bool false, .slice none 0 0], 10, 144, false⟩
def Gx : TI := ⟨.struct #[⟨"Press", 28, 0, true, "", "", 0⟩, ⟨"out", 24, 9, false, "", "bellows/press", 120⟩], .agg #[.int .i64 0, .int .i64 0, .int .i64 0, .bool false, .slice none 0 0, .slice none 0 0, .slice none 0 0, .int .i64 0, .bool false, .slice none 0 0], 10, 144, false⟩
def Gy:TI:=⟨.slice 119,.slice none 0 0,1,24,false⟩
def Gz:TI:=⟨.pointer 95,.pointer none,1,8,false⟩
def GA : TI := ⟨.struct #[⟨"b", 24, 0, false, "", "bellows/plain", 0⟩, ⟨"at", 3, 1, false, "", "bellows/plain", 24⟩, ⟨"e", 31, 2, false, "", "bellows/plain", 32⟩], .agg #[.slice none 0 0, .int .i64 0, .int .i64 0], 3, 40, false⟩
def GB : TI := ⟨.struct #[⟨"b", 24, 0, false, "", "bellows/plain", 0⟩, ⟨"at", 3, 1, false, "", "bellows/plain", 24⟩, ⟨"e", 31, 2, false, "", "bellows/plain", 32⟩], .agg #[.slice none 0 0, .int .i64 0, .int .i64 0], 3, 40, false⟩
def A6:TI:=⟨.pointer 123,.pointer none,1,8,false⟩
def A7:TI:=⟨.slice 64,.slice none 0 0,1,24,false⟩
def A8 : TI := ⟨.struct #[⟨"Lit", 5, 0, false, "", "", 0⟩, ⟨"Dist", 3, 1, false, "", "", 8⟩, ⟨"Long", 3, 2, false, "", "", 16⟩], .agg #[.int .u8 0, .int .i64 0, .int .i64 0], 3, 24, true⟩
def A9 : TI := ⟨.struct #[⟨"Lit", 5, 0, false, "", "", 0⟩, ⟨"Dist", 3, 1, false, "", "", 8⟩, ⟨"Long", 3, 2, false, "", "", 16⟩], .agg #[.int .u8 0, .int .i64 0, .int .i64 0], 3, 24, true⟩
def Ba:TI:=⟨.slice 126,.slice none 0 0,1,24,false⟩
def Bb : TI := ⟨.struct #[⟨"l", 121, 0, false, "", "bellows/block", 0⟩], .agg #[.slice none 0 0], 1, 24, false⟩
def Bc : TI := ⟨.struct #[⟨"l", 121, 0, false, "", "bellows/block", 0⟩], .agg #[.slice none 0 0], 1, 24, false⟩
def Bd:TI:=⟨.int .u32,.int .u32 0,1,4,false⟩
def Be : TI := ⟨.struct #[⟨"v", 124, 0, false, "", "bellows/block", 0⟩, ⟨"n", 3, 1, false, "", "bellows/block", 8⟩], .agg #[.int .u32 0, .int .i64 0], 2, 16, true⟩
def Bf : TI := ⟨.struct #[⟨"v", 124, 0, false, "", "bellows/block", 0⟩, ⟨"n", 3, 1, false, "", "bellows/block", 8⟩], .agg #[.int .u32 0, .int .i64 0], 2, 16, true⟩
def Bg:TI:=⟨.array 3 5,.agg #[.int .u8 0,.int .u8 0,.int .u8 0],3,3,true⟩
def Bh : TI := ⟨.struct #[⟨"Size", 3, 0, false, "", "", 0⟩, ⟨"Bytes", 24, 1, false, "", "", 8⟩], .agg #[.int .i64 0, .slice none 0 0], 2, 32, false⟩
def Bi : TI := ⟨.struct #[⟨"Size", 3, 0, false, "", "", 0⟩, ⟨"Bytes", 24, 1, false, "", "", 8⟩], .agg #[.int .i64 0, .slice none 0 0], 2, 32, false⟩
def Bj:TI:=⟨.slice 169,.slice none 0 0,1,24,false⟩
def Bk:TI:=⟨.slice 24,.slice none 0 0,1,24,false⟩
def Bl:TI:=⟨.array 16 3,.agg #[.int .i64 0,.int .i64 0,.int .i64 0,.int .i64 0,.int .i64 0,.int .i64 0,.int .i64 0,.int .i64 0,.int .i64 0,.int .i64 0,.int .i64 0,.int .i64 0,.int .i64 0,.int .i64 0,.int .i64 0,.int .i64 0],16,128,true⟩
def Bm:TI:=⟨.slice 3,.slice none 0 0,1,24,false⟩
def Bn : TI := ⟨.struct #[⟨"Count", 151, 0, false, "", "", 0⟩, ⟨"Syms", 152, 16, false, "", "", 128⟩], .agg #[.int .i64 0, .int .i64 0, .int .i64 0, .int .i64 0, .int .i64 0, .int .i64 0, .int .i64 0, .int .i64 0, .int .i64 0, .int .i64 0, .int .i64 0, .int .i64 0, .int .i64 0, .int .i64 0, .int .i64 0, .int .i64 0, .slice none 0 0], 17, 152, false⟩
def Bo : TI := ⟨.struct #[⟨"Count", 151, 0, false, "", "", 0⟩, ⟨"Syms", 152, 16, false, "", "", 128⟩], .agg #[.int .i64 0, .int .i64 0, .int .i64 0, .int .i64 0, .int .i64 0, .int .i64 0, .int .i64 0, .int .i64 0, .int .i64 0, .int .i64 0, .int .i64 0, .int .i64 0, .int .i64 0, .int .i64 0, .int .i64 0, .int .i64 0, .slice none 0 0], 17, 152, false⟩
def Bp : TI := ⟨.struct #[⟨"Kind", 5, 0, false, "", "", 0⟩, ⟨"Last", 4, 1, false, "", "", 1⟩, ⟨"Left", 3, 2, false, "", "", 8⟩, ⟨"Longs", 154, 3, false, "", "", 16⟩, ⟨"Fars", 154, 20, false, "", "", 168⟩], .agg #[.int .u8 0, .bool false, .int .i64 0, .int .i64 0, .int .i64 0, .int .i64 0, .int .i64 0, .int .i64 0, .int .i64 0, .int .i64 0, .int .i64 0, .int .i64 0, .int .i64 0, .int .i64 0, .int .i64 0, .int .i64 0, .int .i64 0, .int .i64 0, .int .i64 0, .slice none 0 0, .int .i64 0, .int .i64 0, .int .i64 0, .int .i64 0, .int .i64 0, .int .i64 0, .int .i64 0, .int .i64 0, .int .i64 0, .int .i64 0, .int .i64 0, .int .i64 0, .int .i64 0, .int .i64 0, .int .i64 0, .int .i64 0, .slice none 0 0], 37, 320, false⟩
def Bq : TI := ⟨.struct #[⟨"Kind", 5, 0, false, "", "", 0⟩, ⟨"Last", 4, 1, false, "", "", 1⟩, ⟨"Left", 3, 2, false, "", "", 8⟩, ⟨"Longs", 154, 3, false, "", "", 16⟩, ⟨"Fars", 154, 20, false, "", "", 168⟩], .agg #[.int .u8 0, .bool false, .int .i64 0, .int .i64 0, .int .i64 0, .int .i64 0, .int .i64 0, .int .i64 0, .int .i64 0, .int .i64 0, .int .i64 0, .int .i64 0, .int .i64 0, .int .i64 0, .int .i64 0, .int .i64 0, .int .i64 0, .int .i64 0, .int .i64 0, .slice none 0 0, .int .i64 0, .int .i64 0, .int .i64 0, .int .i64 0, .int .i64 0, .int .i64 0, .int .i64 0, .int .i64 0, .int .i64 0, .int .i64 0, .int .i64 0, .int .i64 0, .int .i64 0, .int .i64 0, .int .i64 0, .int .i64 0, .slice none 0 0], 37, 320, false⟩
def Br:TI:=⟨.pointer 163,.pointer none,1,8,false⟩
def Bs : TI := ⟨.struct #[⟨"Pen", 26, 0, true, "", "", 0⟩], .agg #[.slice none 0 0, .int .i64 0], 2, 32, false⟩
def Bt : TI := ⟨.struct #[⟨"Pen", 26, 0, true, "", "", 0⟩], .agg #[.slice none 0 0, .int .i64 0], 2, 32, false⟩
def Bu : TI := ⟨.struct #[⟨"V", 124, 0, false, "", "", 0⟩, ⟨"N", 3, 1, false, "", "", 8⟩], .agg #[.int .u32 0, .int .i64 0], 2, 16, true⟩
def Bv : TI := ⟨.struct #[⟨"V", 124, 0, false, "", "", 0⟩, ⟨"N", 3, 1, false, "", "", 8⟩], .agg #[.int .u32 0, .int .i64 0], 2, 16, true⟩
def Bx : TI := ⟨.struct #[⟨"Lit", 5, 0, false, "", "", 0⟩, ⟨"Dist", 3, 1, false, "", "", 8⟩, ⟨"Long", 3, 2, false, "", "", 16⟩], .agg #[.int .u8 0, .int .i64 0, .int .i64 0], 3, 24, true⟩
def By:TI:=⟨.array 286 3,.agg (Array.replicate 286 (.int .i64 0)),286,2288,true⟩
def Bz:TI:=⟨.array 30 3,.agg #[.int .i64 0,.int .i64 0,.int .i64 0,.int .i64 0,.int .i64 0,.int .i64 0,.int .i64 0,.int .i64 0,.int .i64 0,.int .i64 0,.int .i64 0,.int .i64 0,.int .i64 0,.int .i64 0,.int .i64 0,.int .i64 0,.int .i64 0,.int .i64 0,.int .i64 0,.int .i64 0,.int .i64 0,.int .i64 0,.int .i64 0,.int .i64 0,.int .i64 0,.int .i64 0,.int .i64 0,.int .i64 0,.int .i64 0,.int .i64 0],30,240,true⟩
def BA:TI:=⟨.slice 187,.slice none 0 0,1,24,false⟩
def BB:TI:=⟨.array 19 3,.agg #[.int .i64 0,.int .i64 0,.int .i64 0,.int .i64 0,.int .i64 0,.int .i64 0,.int .i64 0,.int .i64 0,.int .i64 0,.int .i64 0,.int .i64 0,.int .i64 0,.int .i64 0,.int .i64 0,.int .i64 0,.int .i64 0,.int .i64 0,.int .i64 0,.int .i64 0],19,152,true⟩
def BC : TI := ⟨.struct #[⟨"Sym", 3, 0, false, "", "", 0⟩, ⟨"Extra", 3, 1, false, "", "", 8⟩], .agg #[.int .i64 0, .int .i64 0], 2, 16, true⟩
def BD : TI := ⟨.struct #[⟨"Sym", 3, 0, false, "", "", 0⟩, ⟨"Extra", 3, 1, false, "", "", 8⟩], .agg #[.int .i64 0, .int .i64 0], 2, 16, true⟩
def BE:TI:=⟨.slice 210,.slice none 0 0,1,24,false⟩
def BF:TI:=⟨.pointer 156,.pointer none,1,8,false⟩
def BG:TI:=⟨.int .u64,.int .u64 0,1,8,false⟩
def BH : TI := ⟨.struct #[⟨"Bits", 124, 0, false, "", "", 0⟩, ⟨"Long", 5, 1, false, "", "", 4⟩], .agg #[.int .u32 0, .int .u8 0], 2, 8, true⟩
def tB : TI := ⟨.struct #[⟨"Bits", 124, 0, false, "", "", 0⟩, ⟨"Long", 5, 1, false, "", "", 4⟩], .agg #[.int .u32 0, .int .u8 0], 2, 8, true⟩
def BI:TI:=⟨.int .u64,.int .u64 0,1,8,false⟩
def BJ:TI:=⟨.slice 225,.slice none 0 0,1,24,false⟩
def tC:TI:=⟨.slice 231,.slice none 0 0,1,24,false⟩
def BK : TI := ⟨.struct #[⟨"weight", 3, 0, false, "", "bellows/build", 0⟩, ⟨"pair", 4, 1, false, "", "bellows/build", 8⟩], .agg #[.int .i64 0, .bool false], 2, 16, true⟩
def BL : TI := ⟨.struct #[⟨"weight", 3, 0, false, "", "bellows/build", 0⟩, ⟨"pair", 4, 1, false, "", "bellows/build", 8⟩], .agg #[.int .i64 0, .bool false], 2, 16, true⟩
def BM:TI:=⟨.array 17 124,.agg #[.int .u32 0,.int .u32 0,.int .u32 0,.int .u32 0,.int .u32 0,.int .u32 0,.int .u32 0,.int .u32 0,.int .u32 0,.int .u32 0,.int .u32 0,.int .u32 0,.int .u32 0,.int .u32 0,.int .u32 0,.int .u32 0,.int .u32 0],17,68,true⟩
def BN:TI:=⟨.array 17 124,.agg #[.int .u32 0,.int .u32 0,.int .u32 0,.int .u32 0,.int .u32 0,.int .u32 0,.int .u32 0,.int .u32 0,.int .u32 0,.int .u32 0,.int .u32 0,.int .u32 0,.int .u32 0,.int .u32 0,.int .u32 0,.int .u32 0,.int .u32 0],17,68,true⟩
def BO : TI := ⟨.struct #[⟨"bits", 3, 0, false, "", "bellows/reach", 0⟩, ⟨"least", 3, 1, false, "", "bellows/reach", 8⟩, ⟨"many", 3, 2, false, "", "bellows/reach", 16⟩], .agg #[.int .i64 0, .int .i64 0, .int .i64 0], 3, 24, true⟩
def BP : TI := ⟨.struct #[⟨"bits", 3, 0, false, "", "bellows/reach", 0⟩, ⟨"least", 3, 1, false, "", "bellows/reach", 8⟩, ⟨"many", 3, 2, false, "", "bellows/reach", 16⟩], .agg #[.int .i64 0, .int .i64 0, .int .i64 0], 3, 24, true⟩
def BQ:TI:=⟨.slice 248,.slice none 0 0,1,24,false⟩
def BR : TI := ⟨.struct #[⟨"first", 3, 0, false, "", "bellows/reach", 0⟩, ⟨"symbols", 250, 1, false, "", "bellows/reach", 8⟩], .agg #[.int .i64 0, .slice none 0 0], 2, 32, false⟩
def BS : TI := ⟨.struct #[⟨"first", 3, 0, false, "", "bellows/reach", 0⟩, ⟨"symbols", 250, 1, false, "", "bellows/reach", 8⟩], .agg #[.int .i64 0, .slice none 0 0], 2, 32, false⟩
def BT:TI:=⟨.array 29 3,.agg #[.int .i64 0,.int .i64 0,.int .i64 0,.int .i64 0,.int .i64 0,.int .i64 0,.int .i64 0,.int .i64 0,.int .i64 0,.int .i64 0,.int .i64 0,.int .i64 0,.int .i64 0,.int .i64 0,.int .i64 0,.int .i64 0,.int .i64 0,.int .i64 0,.int .i64 0,.int .i64 0,.int .i64 0,.int .i64 0,.int .i64 0,.int .i64 0,.int .i64 0,.int .i64 0,.int .i64 0,.int .i64 0,.int .i64 0],29,232,true⟩
def BU:TI:=⟨.pointer 234,.pointer none,1,8,false⟩
def BV:TI:=⟨.pointer 282,.pointer none,1,8,false⟩
def BW : TI := ⟨.struct #[⟨"t", 154, 0, false, "", "bellows/tree", 0⟩, ⟨"n", 3, 17, false, "", "bellows/tree", 152⟩, ⟨"code", 3, 18, false, "", "bellows/tree", 160⟩, ⟨"first", 3, 19, false, "", "bellows/tree", 168⟩, ⟨"place", 3, 20, false, "", "bellows/tree", 176⟩], .agg #[.int .i64 0, .int .i64 0, .int .i64 0, .int .i64 0, .int .i64 0, .int .i64 0, .int .i64 0, .int .i64 0, .int .i64 0, .int .i64 0, .int .i64 0, .int .i64 0, .int .i64 0, .int .i64 0, .int .i64 0, .int .i64 0, .slice none 0 0, .int .i64 0, .int .i64 0, .int .i64 0, .int .i64 0], 21, 184, false⟩
def BX : TI := ⟨.struct #[⟨"t", 154, 0, false, "", "bellows/tree", 0⟩, ⟨"n", 3, 17, false, "", "bellows/tree", 152⟩, ⟨"code", 3, 18, false, "", "bellows/tree", 160⟩, ⟨"first", 3, 19, false, "", "bellows/tree", 168⟩, ⟨"place", 3, 20, false, "", "bellows/tree", 176⟩], .agg #[.int .i64 0, .int .i64 0, .int .i64 0, .int .i64 0, .int .i64 0, .int .i64 0, .int .i64 0, .int .i64 0, .int .i64 0, .int .i64 0, .int .i64 0, .int .i64 0, .int .i64 0, .int .i64 0, .int .i64 0, .int .i64 0, .slice none 0 0, .int .i64 0, .int .i64 0, .int .i64 0, .int .i64 0], 21, 184, false⟩
def BY:TI:=⟨.pointer 248,.pointer none,1,8,false⟩
def BZ:TI:=⟨.slice 291,.slice none 0 0,1,24,false⟩
def B0 : TI := ⟨.struct #[⟨"Weight", 3, 0, false, "", "", 0⟩, ⟨"Of", 152, 1, false, "", "", 8⟩], .agg #[.int .i64 0, .slice none 0 0], 2, 32, false⟩
def B1 : TI := ⟨.struct #[⟨"Weight", 3, 0, false, "", "", 0⟩, ⟨"Of", 152, 1, false, "", "", 8⟩], .agg #[.int .i64 0, .slice none 0 0], 2, 32, false⟩
def B2:TI:=⟨.array 0 16,.agg #[],0,0,false⟩
def B3:TI:=⟨.pointer 5,.pointer none,1,8,false⟩
def B4 : TI := ⟨.struct #[⟨"Size_", 12, 0, false, "", "", 0⟩, ⟨"PtrBytes", 12, 1, false, "", "", 8⟩, ⟨"Hash", 124, 2, false, "", "", 16⟩, ⟨"TFlag", 306, 3, false, "", "", 20⟩, ⟨"Align_", 5, 4, false, "", "", 21⟩, ⟨"FieldAlign_", 5, 5, false, "", "", 22⟩, ⟨"Kind_", 307, 6, false, "", "", 23⟩, ⟨"Equal", 308, 7, false, "", "", 24⟩, ⟨"GCData", 309, 8, false, "", "", 32⟩, ⟨"Str", 310, 9, false, "", "", 40⟩, ⟨"PtrToThis", 311, 10, false, "", "", 44⟩], .agg #[.int .u64 0, .int .u64 0, .int .u32 0, .int .u8 0, .int .u8 0, .int .u8 0, .int .u8 0, .nilFunc, .pointer none, .int .i32 0, .int .i32 0], 11, 48, false⟩
def Tl:List (Nat × TI):=[(2,Lb),(3,Lc),(4,Ld),(5,zv),(9,Lf),(12,Gc),(15,Gd),(16,Ge),(17,Gf),(20,Gg),(21,Gh),(22,Gi),(23,Gj),(24,Gk),(25,Gl),(26,Gm),(27,Gn),(28,Gp),(31,Gq),(53,Gr),(55,Gs),(56,Gt),(64,Gu),(67,Gw),(68,Gx),(82,Gy),(90,Gz),(94,GA),(95,GB),(105,A6),(111,A7),(118,A8),(119,A9),(121,Ba),(122,Bb),(123,Bc),(124,Bd),(125,Be),(126,Bf),(129,Bg),(131,Bh),(132,Bi),(135,Bj),(149,Bk),(151,Bl),(152,Bm),(153,Bn),(154,Bo),(155,Bp),(156,Bq),(161,Br),(162,Bs),(163,Bt),(168,Bu),(169,Bv),(175,Bx),(176,By),(177,Bz),(182,BA),(185,BB),(186,BC),(187,BD),(189,BE),(200,BF),(204,BG),(209,BH),(210,tB),(217,BI),(224,BJ),(225,tC),(230,BK),(231,BL),(233,BM),(234,BN),(247,BO),(248,BP),(250,BQ),(251,BR),(252,BS),(256,BT),(272,BU),(280,BV),(281,BW),(282,BX),(285,BY),(286,BZ),(290,B0),(291,B1),(303,B2),(309,B3),(312,B4)]
def T:TT:=(.n (.n (.n (.n (.n (.n .e (some Gq) (.n .e (some GB) .e)) (some Gd) (.n .e none (.n (.n (.n .e (some B2) .e) (some Bx) .e) (some A7) .e))) none (.n (.n (.n (.n .e (some Bj) .e) none .e) none (.n .e none (.n .e (some BL) .e))) (some Gj) (.n (.n (.n .e (some Bl) .e) none .e) (some Gs) (.n .e (some A9) (.n .e (some BO) .e))))) (some Lc) (.n (.n (.n (.n (.n .e (some Bh) .e) (some Gw) .e) none (.n (.n (.n .e (some B1) .e) (some Bt) .e) none .e)) none .e) none (.n .e (some Gn) (.n (.n (.n .e (some Bp) .e) none .e) none (.n (.n .e (some BD) .e) (some Bc) (.n .e (some BR) .e)))))) none (.n (.n (.n (.n (.n (.n .e (some Bg) .e) none .e) none (.n (.n .e (some Br) .e) none (.n .e (some tC) .e))) (some Gf) (.n (.n .e none (.n .e (some BH) .e)) none (.n (.n .e (some Bz) .e) none .e))) (some Lf) (.n (.n .e none (.n (.n .e (some Bv) .e) (some A6) (.n .e (some BM) .e))) (some Gl) (.n (.n (.n (.n .e (some BW) .e) (some Bn) .e) none (.n .e (some BI) .e)) none (.n (.n .e (some BB) .e) (some Ba) .e)))) (some zv) (.n (.n .e (some Gh) (.n (.n (.n .e (some Bk) .e) none .e) (some Gr) (.n (.n (.n .e (some B3) .e) none .e) none .e))) none (.n .e none (.n (.n (.n (.n .e (some BY) .e) none .e) none .e) none (.n (.n .e (some BE) .e) (some Be) .e)))))) none (.n (.n (.n (.n (.n (.n (.n (.n .e (some BT) .e) none .e) (some Gu) .e) none (.n .e none (.n .e (some BJ) .e))) (some Ge) (.n (.n (.n (.n .e (some BU) .e) none .e) none .e) none (.n (.n .e (some By) .e) none .e))) none (.n (.n (.n .e none (.n .e (some BF) .e)) none (.n (.n .e (some Bu) .e) none .e)) (some Gk) (.n (.n (.n (.n .e (some BV) .e) (some Bm) .e) none .e) (some Gt) (.n (.n (.n .e (some B4) .e) none .e) none (.n .e (some BP) .e))))) (some Ld) (.n (.n (.n (.n (.n .e (some Bi) .e) (some Gx) .e) none .e) (some Gg) .e) (some Gc) (.n (.n (.n .e none (.n .e (some BG) .e)) none .e) (some Gp) (.n (.n (.n .e (some Bq) .e) none .e) none (.n .e (some Bd) (.n .e (some BS) .e)))))) (some Lb) (.n (.n (.n (.n .e none (.n (.n (.n .e (some B0) .e) (some Bs) .e) none .e)) none (.n (.n .e (some Gy) (.n .e (some tB) .e)) none .e)) none (.n (.n .e none (.n .e none (.n .e (some BN) .e))) (some Gm) (.n (.n (.n (.n .e (some BX) .e) (some Bo) .e) (some Gz) .e) none (.n (.n .e (some BC) .e) (some Bb) (.n .e (some BQ) .e))))) none (.n (.n (.n .e none (.n .e none (.n .e (some BK) .e))) (some Gi) (.n .e none (.n (.n .e (some BA) .e) (some A8) .e))) none (.n .e none (.n (.n (.n (.n .e (some BZ) .e) none .e) (some GA) .e) none (.n .e (some Bf) .e)))))))
set_option maxRecDepth 100000 in
theorem T_ok:TT.ok Tryz.prog T:=by
 refine TT.ok_ofL (l:=Tl) ?_ (by kernel_rfl)
 repeat (first | refine ⟨Jm (by kernel_rfl) (by kernel_rfl) rfl,?_⟩ | refine ⟨F6 (by kernel_rfl) (by kernel_rfl) rfl (by kernel_rfl) (by kernel_rfl) (by kernel_rfl),?_⟩)
 trivial
theorem ah:Tryz.prog.follows .mixedOrders = true:=by kernel_rfl
end Go.Proofs.YtefjnofhgkjpmaaGreat
namespace Go.Proofs.YtefjnofhgkjpmaaGreat
open Go.RowKit Go.Bw Go.Vx
namespace Vp
abbrev uI (x:Int):D:=.v (.int .u32 x)
abbrev bI (x:Int):D:=.v (.int .u8 x)
theorem aS {p:Prop} [Decidable p] (h:decide p = true):p:=of_decide_eq_true h
theorem aT {p:Prop} [Decidable p] (h:decide p = false):¬ p:=of_decide_eq_false h
def _root_.Go.Vx.Hn.cl {P:Program} (f:FuncId) (al:Bool) (fp:List Nat) {q hin:_} {r:D} {bs:List Blk} (h:CallOk al P f q hin r bs) (nx:Hn P):Hn P:=.call f al fp true rfl q q (bY.refl q) true rfl hin r bs h nx
def _root_.Go.Vx.Hn.op {P:Program} (x:Int) (h:-9223372036854775808 ≤ x ∧ x ≤ 9223372036854775807) (nx:Hn P):Hn P:=.opt (az .i64 x) (.v (.int .i64 x)) (fq h) nx
def _root_.Go.Vx.Hn.ow {P:Program} (x:Int) (nx:Hn P) (h:-9223372036854775808 ≤ x ∧ x ≤ 9223372036854775807:=by omega):Hn P:=.opt (az .i64 x) (.v (.int .i64 x)) (fq h) nx
theorem wr {p:Prop} (h:p:=by with_reducible rfl):p:=h
theorem om {p:Prop} (h:p:=by omega):p:=h
theorem bt {p:Prop} (h:p:=by assumption):p:=h
theorem ro {p:Prop} (h:p:=by repeat' first | exact trivial | exact rfl | exact (fun _=>aR _) | exact (fun _=>by assumption) | exact (fun _=>bS _ (fun _=>rfl) _) | exact (fun _=>da (fun _=>rfl) _) | (intro h; cases h; done) | (intro _; rfl) | (intro _; exact cG _ (bS _ (fun _=>rfl) _)) | exact jj _ (bS _ (fun _=>rfl) _) | refine And.intro ?_ ?_ | refine fQ ?_ ?_ | (intro _; refine cW ?_ ?_) | refine cW ?_ ?_ | (intro _; refine gr ?_ ?_) | exact cG _ (bS _ (fun _=>rfl) _) | exact bS _ (fun _=>rfl) _):p:=h
theorem LC:aw Tryz.prog 13:=.of Tryz.func13 rfl rfl
theorem zw:aw Tryz.prog 18:=.of Tryz.func18 rfl rfl
theorem Ju:aw Tryz.prog 21:=.of Tryz.func21 rfl rfl
theorem LD:aw Tryz.prog 23:=.of Tryz.func23 rfl rfl
theorem IM:aw Tryz.prog 26:=.of Tryz.func26 rfl rfl
theorem Jv:aw Tryz.prog 29:=.of Tryz.func29 rfl rfl
theorem DU:aw Tryz.prog 43:=.of Tryz.func43 rfl rfl
theorem qb:aw Tryz.prog 56:=.of Tryz.func56 rfl rfl
theorem Lg:aw Tryz.prog 64:=.of Tryz.func64 rfl rfl
theorem Lh:aw Tryz.prog 65:=.of Tryz.func65 rfl rfl
theorem IN:aw Tryz.prog 86:=.of Tryz.func86 rfl rfl
theorem wM:aw Tryz.prog 105:=.of Tryz.func105 rfl rfl
theorem Jw:aw Tryz.prog 111:=.of Tryz.func111 rfl rfl
theorem Jx:aw Tryz.prog 113:=.of Tryz.func113 rfl rfl
theorem GC:aw Tryz.prog 117:=.of Tryz.func117 rfl rfl
theorem Jy:aw Tryz.prog 128:=.of Tryz.func128 rfl rfl
theorem Jz:aw Tryz.prog 141:=.of Tryz.func141 rfl rfl
theorem rU:aw Tryz.prog 142:=.of Tryz.func142 rfl rfl
theorem rV:aw Tryz.prog 143:=.of Tryz.func143 rfl rfl
theorem DV:aw Tryz.prog 144:=.of Tryz.func144 rfl rfl
theorem JA:aw Tryz.prog 147:=.of Tryz.func147 rfl rfl
theorem JB:aw Tryz.prog 148:=.of Tryz.func148 rfl rfl
theorem dQ:aw Tryz.prog 152:=.of Tryz.func152 rfl rfl
theorem JC:aw Tryz.prog 155:=.of Tryz.func155 rfl rfl
theorem JD:aw Tryz.prog 160:=.of Tryz.func160 rfl rfl
theorem JE:aw Tryz.prog 163:=.of Tryz.func163 rfl rfl
theorem wN:aw Tryz.prog 175:=.of Tryz.func175 rfl rfl
theorem JF:aw Tryz.prog 176:=.of Tryz.func176 rfl rfl
theorem JG:aw Tryz.prog 193:=.of Tryz.func193 rfl rfl
theorem JH:aw Tryz.prog 198:=.of Tryz.func198 rfl rfl
abbrev iD (i:Int):D:=.v (.int .i64 i)
abbrev ar:D:=.v (.slice none 0 0)
abbrev nD (n:Nat):D:=.v (.int .i64 (n:Int))
abbrev bD (b:Bool):D:=.v (.bool b)
abbrev bN (n:Nat):D:=.v (.int .u8 (n:Int))
def lk {α β:Type} (b:List β) (x:α):α:=match b with
 | []=>x
 | _ :: _=>x
theorem aF {α β:Type} (b:List β) (x:α):lk b x = x:=by cases b <;> rfl
def JI (b:List UInt8) (p:Nat):Nat:=(b.getD (p / 8) default).toNat / 2 ^ (p % 8) % 2
def GD (b:List UInt8) (p:Nat):Nat → Nat
 | 0=>0
 | n + 1=>GD b p n + 2 ^ n * JI b (p + n)
def JJ (b:List UInt8) (p m:Nat):Nat:=lk b (if 8 * b.length < p + m then 0 else GD b p m)
def LE (b:List UInt8) (p m:Nat):Nat:=lk b (if 8 * b.length < p + m then 10 else 0)
def aW:List UInt8 → Nat
 | []=>0
 | x :: r=>(if x.toNat = 0 then 0 else 2 ^ (15 - x.toNat)) + aW r
def bn:List UInt8 → Nat
 | []=>0
 | x :: r=>(if x.toNat = 0 then 0 else 1) + bn r
def dr (l:List UInt8) (most:Nat):Bool:=l.any fun x=>decide (most < x.toNat)
theorem u6 (a c:List UInt8):aW (a ++ c) = aW a + aW c:=by
 induction a with
 | nil=>simp [aW]
 | cons x r ih=>rw [List.cons_append,aW,aW,ih]; omega
theorem u7 (a c:List UInt8):bn (a ++ c) = bn a + bn c:=by
 induction a with
 | nil=>simp [bn]
 | cons x r ih=>rw [List.cons_append,bn,bn,ih]; omega
theorem wO (l:List UInt8):bn l ≤ l.length:=by
 induction l with
 | nil=>exact Nat.le_refl _
 | cons x r ih=>rw [bn,List.length_cons]; split <;> omega
theorem wP (l:List UInt8):aW l ≤ l.length * 32768:=by
 induction l with
 | nil=>exact Nat.le_refl _
 | cons x r ih =>
  rw [aW,List.length_cons]
  have:2 ^ (15 - x.toNat) ≤ 2 ^ 15:=Nat.pow_le_pow_right (by decide) (by omega)
  split <;> omega
theorem nh {l:List UInt8} {i:Nat} (h:i < l.length):l.take (i + 1) = l.take i ++ [l.getD i default]:=lr h
theorem fV {l:List UInt8} {i:Nat} (h:i < l.length):aW (l.take (i + 1)) = aW (l.take i) + (if (l.getD i default).toNat = 0 then 0 else 2 ^ (15 - (l.getD i default).toNat)):=by
 rw [nh h,u6]; rfl
theorem il {l:List UInt8} {i:Nat} (h:i < l.length):bn (l.take (i + 1)) = bn (l.take i) + (if (l.getD i default).toNat = 0 then 0 else 1):=by
 rw [nh h,u7]; rfl
def rW (l:List UInt8) (most:Nat):Nat :=
 if 320 < l.length then 4 else if dr l most = true then 2 else if 32768 < aW l then 30
 else if aW l = 32768 ∨ bn l = 0 ∨ bn l = 1 ∧ aW l = 16384 then 0 else 31
def cM (l:List UInt8) (most:Nat):Nat:=lk l (rW l most)
theorem iN (l:List UInt8) (most:Nat):cM l most = rW l most:=aF _ _
theorem tD {l:List UInt8} {most i:Nat} (h:i < l.length) (h2:most < (l.getD i default).toNat):dr l most = true:=by
 unfold dr
 rw [List.any_eq_true]
 refine ⟨l.getD i default,?_,decide_eq_true h2⟩
 rw [List.getD_eq_getElem?_getD,List.getElem?_eq_getElem h]; exact List.getElem_mem h
theorem kt {l:List UInt8} {most:Nat} (h:∀ i,i < l.length → (l.getD i default).toNat ≤ most):dr l most = false:=by
 unfold dr
 rw [List.any_eq_false]
 intro x hx
 obtain ⟨i,hi⟩:=List.getElem?_of_mem hx
 have hlt:=(List.getElem?_eq_some_iff.1 hi).1
 have:=h i hlt
 rw [List.getD_eq_getElem?_getD,hi] at this
 simpa using this
theorem eM {l:List UInt8} {most:Nat} (h:dr l most = false) {i:Nat} (hi:i < l.length):(l.getD i default).toNat ≤ most:=by
 rcases Nat.lt_or_ge most (l.getD i default).toNat with q | q
 ·rw [tD hi q] at h; cases h
 ·exact q
theorem eY {l:List UInt8} {most:Nat} (h:cM l most = 0):l.length ≤ 320 ∧ dr l most = false ∧ aW l ≤ 32768:=by
 rw [iN] at h; unfold rW at h
 split at h
 ·cases h
 ·split at h
  ·cases h
  ·split at h
   ·cases h
   ·refine ⟨by omega,by simp_all,by omega⟩
def ej (l:List UInt8) (n k:Nat):List Nat:=(List.range k).filter fun i=>decide ((l.getD i default).toNat = n)
def qc (l:List UInt8):Nat → List Nat
 | 0=>[]
 | n + 1=>qc l n ++ (if n = 0 then [] else ej l n l.length)
def wQ (l:List UInt8) (n:Nat):Nat:=if n = 0 then 0 else (ej l n l.length).length
def aK (l:List UInt8) (n:Nat):Nat:=lk l (wQ l n)
def db (l:List UInt8):List Nat:=lk l (qc l 16)
def Li (f:Nat → Nat):List D:=[nD (f 0),nD (f 1),nD (f 2),nD (f 3),nD (f 4),nD (f 5),nD (f 6),nD (f 7),nD (f 8),nD (f 9),nD (f 10),nD (f 11),nD (f 12),nD (f 13),nD (f 14),nD (f 15)]
def GE (m:Nat) (l:List UInt8):List D:=Li (aK l) ++ [.sl false m 1 ((db l).map nD)]
abbrev B5 (m:Nat) (l:List UInt8):D:=.agg (GE m l)
theorem gU (l:List UInt8) (n k:Nat):ej l n (k + 1) = ej l n k ++ (if (l.getD k default).toNat = n then [k] else []):=by
 unfold ej
 rw [List.range_succ,List.filter_append]
 congr 1
 rw [List.filter_cons,List.filter_nil]
 by_cases h:(l.getD k default).toNat = n
 ·rw [if_pos h,if_pos (decide_eq_true h)]
 ·rw [if_neg h,if_neg (by simpa using h)]
theorem zx (l:List UInt8) (n k:Nat):(ej l n k).length ≤ k:=by
 unfold ej
 exact Nat.le_trans (List.length_filter_le _ _) (by simp)
theorem wR {l:List UInt8} {n k i:Nat}:i ∈ ej l n k ↔ i < k ∧ (l.getD i default).toNat = n:=by
 unfold ej; simp
theorem lu (l:List UInt8) (n:Nat):aK l n = wQ l n:=aF _ _
@[simp] theorem lv (xs:List Nat):ab (xs.map nD) = true:=bS _ (fun _=>rfl) xs
end Vp
end Go.Proofs.YtefjnofhgkjpmaaGreat
namespace Go.Proofs.YtefjnofhgkjpmaaGreat
open Go.RowKit Go.Bw Go.Vx
open List (length getD map take drop flatMap replicate)
namespace Vp
def rb (s:Nat):Nat:=if s = 16 then 2 else if s = 17 then 3 else if s = 18 then 7 else 0
def p2 (s:Nat):Nat:=2 ^ rb s
structure Rn where
 s:Nat
 x:Nat
 deriving Inhabited
abbrev er (r:Rn):List D:=[nD r.s,nD r.x]
theorem wS (s:Nat):p2 s ≤ 128 ∧ rb s ≤ 7:=by unfold p2 rb; split; decide; split; decide; split <;> decide
theorem GF (s:Nat) (h:s ≤ 18):SpecH false Tryz.prog 113 [nD s] [] (.tup [nD (rb s),iD 0]) []:=by
 refine SpecH.run T_ok ah Tryz.func113 rfl rfl rfl trivial rfl 1000 64 (fun R ok=>(.s 13 (.f (decide (18 < (↑s:Int))) (by (refine decide_eq_false ?_; (omega))) (.s 4 (.br ((↑s:Int) == 16) (fun p0=>have p0f:=eq_of_beq p0; (.s 2 (.out [] [] (D.tup [iD 2,iD 0]) [] R (ok _ _ (by ( (have hs:s = 16:=by omega); subst hs; rfl)) wr)))) (fun p0=>have p0f:=au p0; (.s 4 (.br ((↑s:Int) == 17) (fun p1=>have p1f:=eq_of_beq p1; (.s 2 (.out [] [] (D.tup [iD 3,iD 0]) [] R (ok _ _ (by ( (have hs:s = 17:=by omega); subst hs; rfl)) wr)))) (fun p1=>have p1f:=au p1; (.s 4 (.br ((↑s:Int) == 18) (fun p2=>have p2f:=eq_of_beq p2; (.s 2 (.out [] [] (D.tup [iD 7,iD 0]) [] R (ok _ _ (by ( (have hs:s = 18:=by omega); subst hs; rfl)) wr)))) (fun p2=>have p2f:=au p2; (.s 2 (.out [] [] (D.tup [iD 0,iD 0]) [] R (ok _ _ (by ( rw [show rb s = 0 from by unfold rb; rw [if_neg om,if_neg om,if_neg om]]; rfl)) wr))))))))))))))) (by kernel_rfl)
structure Sy where
 bits:Nat
 least:Nat
 many:Nat
 deriving Inhabited
abbrev gV (s:Sy):List D:=[nD s.bits,nD s.least,nD s.many]
def aJ:List Sy:=[⟨0,3,1⟩,⟨0,4,1⟩,⟨0,5,1⟩,⟨0,6,1⟩,⟨0,7,1⟩,⟨0,8,1⟩,⟨0,9,1⟩,⟨0,10,1⟩,⟨1,11,2⟩,⟨1,13,2⟩,⟨1,15,2⟩,⟨1,17,2⟩,⟨2,19,4⟩,⟨2,23,4⟩,⟨2,27,4⟩,⟨2,31,4⟩,⟨3,35,8⟩,⟨3,43,8⟩,⟨3,51,8⟩,⟨3,59,8⟩,⟨4,67,16⟩,⟨4,83,16⟩,⟨4,99,16⟩,⟨4,115,16⟩,⟨5,131,32⟩,⟨5,163,32⟩,⟨5,195,32⟩,⟨5,227,31⟩,⟨0,258,1⟩]
def aZ:List Sy:=[⟨0,1,1⟩,⟨0,2,1⟩,⟨0,3,1⟩,⟨0,4,1⟩,⟨1,5,2⟩,⟨1,7,2⟩,⟨2,9,4⟩,⟨2,13,4⟩,⟨3,17,8⟩,⟨3,25,8⟩,⟨4,33,16⟩,⟨4,49,16⟩,⟨5,65,32⟩,⟨5,97,32⟩,⟨6,129,64⟩,⟨6,193,64⟩,⟨7,257,128⟩,⟨7,385,128⟩,⟨8,513,256⟩,⟨8,769,256⟩,⟨9,1025,512⟩,⟨9,1537,512⟩,⟨10,2049,1024⟩,⟨10,3073,1024⟩,⟨11,4097,2048⟩,⟨11,6145,2048⟩,⟨12,8193,4096⟩,⟨12,12289,4096⟩,⟨13,16385,8192⟩,⟨13,24577,8192⟩]
theorem zy (T:List Sy) (hT:T = aJ):SpecH false Tryz.prog 160 [] [] (.agg [iD 257,.ref 0 0 0 29 3]) [⟨T.flatMap gV, 248, true⟩]:=by
 refine SpecH.run T_ok ah Tryz.func160 rfl rfl rfl ⟨eh (fun _=>rfl) _,trivial⟩ rfl 4000 64 (fun R ok=>(.s 1376 (.out [5080] [5080] (D.agg [iD 257,D.ref 0 0 0 29 3]) [Blk.mk [iD 0,iD 3,iD 1,iD 0,iD 4,iD 1,iD 0,iD 5,iD 1,iD 0,iD 6,iD 1,iD 0,iD 7,iD 1,iD 0,iD 8,iD 1,iD 0,iD 9,iD 1,iD 0,iD 10,iD 1,iD 1,iD 11,iD 2,iD 1,iD 13,iD 2,iD 1,iD 15,iD 2,iD 1,iD 17,iD 2,iD 2,iD 19,iD 4,iD 2,iD 23,iD 4,iD 2,iD 27,iD 4,iD 2,iD 31,iD 4,iD 3,iD 35,iD 8,iD 3,iD 43,iD 8,iD 3,iD 51,iD 8,iD 3,iD 59,iD 8,iD 4,iD 67,iD 16,iD 4,iD 83,iD 16,iD 4,iD 99,iD 16,iD 4,iD 115,iD 16,iD 5,iD 131,iD 32,iD 5,iD 163,iD 32,iD 5,iD 195,iD 32,iD 5,iD 227,iD 31,iD 0,iD 258,iD 1] 248 true] R (ok _ _ wr (by (subst hT; rfl)))))) (by kernel_rfl)
theorem DW (T:List Sy) (hT:T = aZ):SpecH false Tryz.prog 163 [] [] (.agg [iD 0,.ref 0 0 0 30 3]) [⟨T.flatMap gV, 248, true⟩]:=by
 refine SpecH.run T_ok ah Tryz.func163 rfl rfl rfl ⟨eh (fun _=>rfl) _,trivial⟩ rfl 4000 64 (fun R ok=>(.s 1562 (.out [5768] [5768] (D.agg [iD 0,D.ref 0 0 0 30 3]) [Blk.mk [iD 0,iD 1,iD 1,iD 0,iD 2,iD 1,iD 0,iD 3,iD 1,iD 0,iD 4,iD 1,iD 1,iD 5,iD 2,iD 1,iD 7,iD 2,iD 2,iD 9,iD 4,iD 2,iD 13,iD 4,iD 3,iD 17,iD 8,iD 3,iD 25,iD 8,iD 4,iD 33,iD 16,iD 4,iD 49,iD 16,iD 5,iD 65,iD 32,iD 5,iD 97,iD 32,iD 6,iD 129,iD 64,iD 6,iD 193,iD 64,iD 7,iD 257,iD 128,iD 7,iD 385,iD 128,iD 8,iD 513,iD 256,iD 8,iD 769,iD 256,iD 9,iD 1025,iD 512,iD 9,iD 1537,iD 512,iD 10,iD 2049,iD 1024,iD 10,iD 3073,iD 1024,iD 11,iD 4097,iD 2048,iD 11,iD 6145,iD 2048,iD 12,iD 8193,iD 4096,iD 12,iD 12289,iD 4096,iD 13,iD 16385,iD 8192,iD 13,iD 24577,iD 8192] 248 true] R (ok _ _ wr (by (subst hT; rfl)))))) (by kernel_rfl)
end Vp
end Go.Proofs.YtefjnofhgkjpmaaGreat
namespace Go.Proofs.YtefjnofhgkjpmaaGreat
open Go.RowKit Go.Bw Go.Vx
open List (length getD map take drop flatMap replicate)
namespace Vp
theorem yv {p:Prop} (h:p:=by (refine aO ?_; (omega))):p:=h
theorem DX {p:Prop} (h:p:=by (simp only [bm (k:=2) (fun (x:Rn)=>(rfl:(er x).length = 2)),Nat.beq_refl,Bool.true_and,Bool.and_true]; refine Nat.ble_eq_true_of_le ?_; (omega))):p:=h
theorem DY {p:Prop} (h:p:=by (rw [List.length_append]; rfl)):p:=h
theorem DZ {p:Prop} (h:p:=by (rw [List.length_append]; simp only [List.length_singleton]; (omega))):p:=h
theorem GG {p:Prop} (h:p:=by ((refine aH ?_ ?_) <;> (repeat' (first | (refine aH ?_ ?_) | (with_reducible rfl) | (refine decide_eq_true ?_) | (refine Nat.ble_eq_true_of_le ?_) | (refine et ?_))) <;> (omega))):p:=h
theorem IO {p:Prop} (h:p:=by show n - (a + 1) < n - a; clear next1 last1; omega):p:=h
theorem JK {p:Prop} (h:p:=by (simp;  have h9:=lw (l:=l) (a:=a) om; omega)):p:=h
theorem JL {p:Prop} (h:p:=by ( have h9:=lw (l:=l) (a:=a) om; omega)):p:=h
theorem JM {p:Prop} (h:p:=by (simp only [Nat.mul_one] at *;  have h9:=lw (l:=l) (a:=a) om; exact GL hR om om om om)):p:=h
def rX (l:List UInt8) (a:Nat):Nat → Nat → Nat
 | 0,n=>n
 | f + 1,n=>if a + n < l.length ∧ l.getD (a + n) default = l.getD a default then rX l a f (n + 1) else n
def co (l:List UInt8) (a:Nat):Nat:=lk l (rX l a l.length 0)
theorem wT (l:List UInt8) (a:Nat):co l a = rX l a l.length 0:=aF _ _
theorem JN {l:List UInt8} {a f n T:Nat} (hR:rX l a f n = T) (hf:l.length ≤ a + n + f) (h:a + n < l.length) (h2:l.getD (a + n) default = l.getD a default):rX l a (f - 1) (n + 1) = T:=by
 obtain ⟨g,rfl⟩:∃ g,f = g + 1:=⟨f - 1,by omega⟩
 rw [← hR]; exact (if_pos ⟨h,h2⟩).symm
theorem GH {l:List UInt8} {a f n T:Nat} (hR:rX l a f n = T) (h:¬ (a + n < l.length ∧ l.getD (a + n) default = l.getD a default)):n = T:=by
 rw [← hR]; cases f with
 | zero=>rfl
 | succ f=>exact (if_neg h).symm
theorem B6 {x y:UInt8} (h:((x.toNat:Nat):Int) = ((y.toNat:Nat):Int)):x = y:=UInt8.toNat_inj.1 (by omega)
theorem GI {l:List UInt8} {a f n T u v:Nat} (hR:rX l a f n = T) (hf:l.length ≤ a + n + f) (h:a + n < l.length) (hu:u = a + n) (hv:v = a) (h2:(((l.getD u default).toNat:Nat):Int) = (((l.getD v default).toNat:Nat):Int)):rX l a (f - 1) (n + 1) = T:=by
 subst hu hv; exact JN hR hf h (B6 h2)
theorem GJ {l:List UInt8} {a f n T u v:Nat} (hR:rX l a f n = T) (hu:u = a + n) (hv:v = a) (h2:(((l.getD u default).toNat:Nat):Int) ≠ (((l.getD v default).toNat:Nat):Int)):n = T:=by
 subst hu hv; exact GH hR (fun q=>h2 (by rw [q.2]))
theorem B7 {l:List UInt8} {a:Nat}:∀ (f n:Nat),a + n ≤ l.length → n ≤ rX l a f n ∧ a + rX l a f n ≤ l.length
 | 0,n,h=>⟨Nat.le_refl _,h⟩
 | f + 1,n,h=>by
  rw [rX]; split
  ·next q=>have:=B7 (l:=l) (a:=a) f (n + 1) (by omega); omega
  ·exact ⟨Nat.le_refl _,h⟩
theorem lw {l:List UInt8} {a:Nat} (h:a < l.length):1 ≤ co l a ∧ a + co l a ≤ l.length:=by
 rw [wT]
 obtain ⟨f,hf⟩:∃ f,l.length = f + 1:=⟨l.length - 1,by omega⟩
 rw [hf,rX,if_pos ⟨by omega,by rw [Nat.add_zero]⟩]
 have:=B7 (l:=l) (a:=a) f (0 + 1) (by omega)
 omega
def jn (l:List UInt8):Nat → Nat → List Rn
 | 0,_=>[]
 | f + 1,a=>if l.length ≤ a then []
  else if (l.getD a default).toNat = 0 ∧ 11 ≤ co l a then ⟨18,min (co l a) 138 - 11⟩ :: jn l f (a + min (co l a) 138)
  else if (l.getD a default).toNat = 0 ∧ 3 ≤ co l a then ⟨17,co l a - 3⟩ :: jn l f (a + co l a)
  else if 0 < (l.getD a default).toNat ∧ 0 < a ∧ (l.getD (a - 1) default).toNat = (l.getD a default).toNat ∧ 3 ≤ co l a then ⟨16,min (co l a) 6 - 3⟩ :: jn l f (a + min (co l a) 6)
  else ⟨(l.getD a default).toNat,0⟩ :: jn l f (a + 1)
def vl (l:List UInt8):List Rn:=lk l (jn l l.length 0)
theorem rY (l:List UInt8):vl l = jn l l.length 0:=aF _ _
section
variable {l:List UInt8} {f a:Nat} {o T:List Rn}
theorem GK (hR:o ++ jn l f a = T) (h:l.length ≤ a):o = T:=by
 rw [← hR]; cases f with
 | zero=>exact (List.append_nil _).symm
 | succ f=>rw [jn,if_pos h]; exact (List.append_nil _).symm
theorem JO (hR:o ++ jn l f a = T) (hf:l.length ≤ a + f) (h:a < l.length) (h0:(l.getD a default).toNat = 0) (h1:11 ≤ co l a):(o ++ [⟨18,min (co l a) 138 - 11⟩]) ++ jn l (f - 1) (a + min (co l a) 138) = T:=by
 obtain ⟨g,rfl⟩:∃ g,f = g + 1:=⟨f - 1,by omega⟩
 rw [← hR,jn,if_neg (by omega),if_pos ⟨h0,h1⟩,List.append_assoc]; rfl
theorem JP (hR:o ++ jn l f a = T) (hf:l.length ≤ a + f) (h:a < l.length) (h0:(l.getD a default).toNat = 0) (h1:¬ 11 ≤ co l a) (h2:3 ≤ co l a):(o ++ [⟨17,co l a - 3⟩]) ++ jn l (f - 1) (a + co l a) = T:=by
 obtain ⟨g,rfl⟩:∃ g,f = g + 1:=⟨f - 1,by omega⟩
 rw [← hR,jn,if_neg (by omega),if_neg (fun q=>h1 q.2),if_pos ⟨h0,h2⟩,List.append_assoc]; rfl
theorem JQ (hR:o ++ jn l f a = T) (hf:l.length ≤ a + f) (h:a < l.length) (h0:0 < (l.getD a default).toNat) (ha:0 < a) (h1:(l.getD (a - 1) default).toNat = (l.getD a default).toNat) (h2:3 ≤ co l a):(o ++ [⟨16,min (co l a) 6 - 3⟩]) ++ jn l (f - 1) (a + min (co l a) 6) = T:=by
 obtain ⟨g,rfl⟩:∃ g,f = g + 1:=⟨f - 1,by omega⟩
 rw [← hR,jn,if_neg (by omega),if_neg (fun q=>by omega),if_neg (fun q=>by omega),if_pos ⟨h0,ha,h1,h2⟩,List.append_assoc]; rfl
theorem GL (hR:o ++ jn l f a = T) (hf:l.length ≤ a + f) (h:a < l.length) (h0:¬ ((l.getD a default).toNat = 0 ∧ 3 ≤ co l a)) (h1:¬ (0 < (l.getD a default).toNat ∧ 0 < a ∧ (l.getD (a - 1) default).toNat = (l.getD a default).toNat ∧ 3 ≤ co l a)):(o ++ [⟨(l.getD a default).toNat,0⟩]) ++ jn l (f - 1) (a + 1) = T:=by
 obtain ⟨g,rfl⟩:∃ g,f = g + 1:=⟨f - 1,by omega⟩
 rw [← hR,jn,if_neg (by omega),if_neg (fun q=>h0 ⟨q.1,by omega⟩),if_neg h0,if_neg h1,List.append_assoc]; rfl
end
theorem zz (l:List UInt8) (n:Nat) (hn:n = l.length) (hn2:n ≤ 320) (a:Nat) (ha:a < n):SpecH false Tryz.prog 147 [nD a,.ep [.sl false n 1 (l.map dB)] 0] [] (nD (co l a)) []:=by
 refine SpecH.run T_ok ah Tryz.func147 rfl rfl rfl trivial rfl 1000 64 (fun R ok=>(.s 1 (Hn.inl T_ok ah false 26 0 (aA Tryz.prog 147 0) (fun (x:(i:Nat) ×' (f:Nat) ×' (hi:a + i ≤ n) ×' (hf:n ≤ a + i + f) ×' (hR:rX l a f i = co l a) ×' Unit)=>match x with | ⟨i,f,hi,hf,hR,_⟩=>CutS.mk [(0,nD a),(1,D.ep [D.sl false n 1 (map dB l)] 0),(3,nD i)] [] 0) (fun (x:(i:Nat) ×' (f:Nat) ×' (hi:a + i ≤ n) ×' (hf:n ≤ a + i + f) ×' (hR:rX l a f i = co l a) ×' Unit)=>match x with | ⟨i,f,hi,hf,hR,_⟩=>n - i) [⟨Unit,.exit 0,fun x=>match x with | ()=>CutS.mk [(0,nD a),(1,D.ep [D.sl false n 1 (map dB l)] 0),(3,nD (co l a))] [] 0⟩] 1000 64 (fun | ⟨i,f,hi,hf,hR,_⟩,Q,next1,last1=>(.s 5 (.ow ((↑a:Int) + (↑i:Int)) (.s 8 (.br (decide ((↑a:Int) + (↑i:Int) < (↑n:Int))) (fun p0=>have p0f:=aS p0; (.s 9 (.ow ((↑a:Int) + (↑i:Int)) (.s 2 (.chk (true && decide ((↑a:Int) + (↑i:Int) < (↑n:Int)) && true) GG (.s 3 (.opt ((map dB l)[Int.toNat ((↑a:Int) + (↑i:Int)) * 1]?) (dB (getD l (Int.toNat ((↑a:Int) + (↑i:Int)) * 1) default)) (av _ _ om) (.s 8 (.chk (true && decide ((↑a:Int) < (↑n:Int)) && true) GG (.s 3 (.opt ((map dB l)[a * 1]?) (dB (getD l (a * 1) default)) (av _ _ om) (.s 4 (.br ((↑(UInt8.toNat (getD l (Int.toNat ((↑a:Int) + (↑i:Int)) * 1) default)):Int) == (↑(UInt8.toNat (getD l (a * 1) default)):Int)) (fun p1=>have p1f:=eq_of_beq p1; (.s 3 (.ow ((↑i:Int) + 1) (.s 1 (.val 3 (iD ((↑i:Int) + 1)) (nD (i + 1)) yv (Hn.next next1 ⟨(i + 1),(f - 1),om,om,(by ( exact GI (u:=((a:Int) + (i:Int)).toNat * 1) (v:=a * 1) hR om om om om om)),⟨⟩⟩ (by show n - (i + 1) < n - i; clear next1 last1; omega) [] ro)))))) (fun p1=>have p1f:=au p1; (.val 3 (nD i) (nD (co l a)) (by ( rw [GJ (u:=((a:Int) + (i:Int)).toNat * 1) (v:=a * 1) hR om om om])) (Hn.last last1 0 (():Unit) rfl [] ro)))))))))))))))) (fun p0=>have p0f:=aT p0; (.s 22 (.val 3 (nD i) (nD (co l a)) (by ( rw [GH hR om])) (Hn.last last1 0 (():Unit) rfl [] ro))))))))) (fun | ⟨i,f,hi,hf,hR,_⟩=>by kernel_rfl) ⟨(0),(n),om,om,(by (rw [hn]; exact (wT l a).symm)),⟨⟩⟩ [] ro (cb (fun | ()=>(.s 2 (.out [] [] (nD (co l a)) [] R (ok _ _ wr wr)))))))) (by kernel_rfl)
theorem GM (n k:Nat):fB .i64 false (n:Int) (k:Int) = some (nD (min n k)):=zq (by omega)
theorem iO (l:List UInt8):∀ (f a:Nat),(jn l f a).length ≤ f
 | 0,_=>Nat.le_refl _
 | f + 1,a=>by
  rw [jn]
  split
  ·exact Nat.zero_le _
  ·split
   ·exact Nat.succ_le_succ (iO l f _)
   ·split
    ·exact Nat.succ_le_succ (iO l f _)
    ·split
     ·exact Nat.succ_le_succ (iO l f _)
     ·exact Nat.succ_le_succ (iO l f _)
theorem JR (l:List UInt8) (n:Nat) (hn:n = l.length) (hn2:n ≤ 320) (ho:∀ i,i < n → (l.getD i default).toNat ≤ 15) (T:List Rn) (hT:vl l = T):SpecH false Tryz.prog 110 [.sl false n 1 (l.map dB)] [] (.tup [.ref 0 0 0 T.length 2,iD 0]) [⟨T.flatMap er, 187, true⟩]:=by
 refine SpecH.run T_ok ah Tryz.func110 rfl rfl rfl ⟨eh (fun _=>rfl) _,trivial⟩ rfl 1000 64 (fun R ok=>(.s 10 (.f (decide (320 < (↑n:Int))) (by (refine decide_eq_false ?_; (omega))) (.s 5 (Hn.inl T_ok ah false 101 0 (aA Tryz.prog 110 0) (fun (x:(i:Nat) ×' (hi:i ≤ n) ×' Unit)=>match x with | ⟨i,hi,_⟩=>CutS.mk [(1,D.ptr 0 0 0),(2,ar),(13,D.sl false n 1 (map dB l)),(14,nD n),(15,nD i)] [⟨0,0,0,0,.b ⟨[D.sl false n 1 (map dB l)],24,false⟩⟩] 8) (fun (x:(i:Nat) ×' (hi:i ≤ n) ×' Unit)=>match x with | ⟨i,hi,_⟩=>n - i) [⟨Unit,.exit 0,fun x=>match x with | ()=>CutS.mk [(1,D.ptr 0 0 0),(2,ar),(13,D.sl false n 1 (map dB l)),(14,nD n),(15,nD n)] [⟨0,0,0,0,.b ⟨[D.sl false n 1 (map dB l)],24,false⟩⟩] 8⟩] 1000 64 (fun | ⟨i,hi,_⟩,Q,next1,last1=>(.s 2 (.br (decide ((↑i:Int) < (↑n:Int))) (fun p0=>have p0f:=aS p0; (.s 1 (.chk (true && decide ((↑i:Int) < (↑n:Int)) && true) GG (.s 2 (.opt ((map dB l)[i * 1]?) (dB (getD l (i * 1) default)) (av _ _ om) (.s 4 (.f (decide (15 < (↑(UInt8.toNat (getD l (i * 1) default)):Int))) (by (refine decide_eq_false ?_;  have h9:=ho (i * 1) om; omega)) (.s 2 (.ow ((↑i:Int) + 1) (.s 1 (.val 15 (iD ((↑i:Int) + 1)) (nD (i + 1)) yv (Hn.next next1 ⟨(i + 1),om,⟨⟩⟩ (by show n - (i + 1) < n - i; clear next1 last1; omega) [(0,0)] ro)))))))))))) (fun p0=>have p0f:=aT p0; (.val 15 (nD i) (nD n) yv (Hn.last last1 0 (():Unit) rfl [(0,0)] ro)))))) (fun | ⟨i,hi,_⟩=>by kernel_rfl) ⟨(0),om,⟨⟩⟩ [(0,0)] ro (cb (fun | ()=>(.s 3 (.nils 2 32 2 187 (Hn.inl T_ok ah false 101 0 (aA Tryz.prog 110 1) (fun (x:(a:Nat) ×' (f:Nat) ×' (o:List Rn) ×' (ha:a ≤ n) ×' (hf:n ≤ a + f) ×' (hq:o.length ≤ a) ×' (hR:o ++ jn l f a = T) ×' Unit)=>match x with | ⟨a,f,o,ha,hf,hq,hR,_⟩=>CutS.mk [(1,D.ptr 0 0 0),(2,(D.ref 8 8 (0) (o.length) 2)),(6,D.fn (Fn.func 147) [] [D.ptr 0 0 0]),(7,nD a)] [⟨0,0,0,0,.b ⟨[D.sl false n 1 (map dB l)],24,false⟩⟩,⟨8,8,32,32,.b ⟨o.flatMap er,187,true⟩⟩] 16) (fun (x:(a:Nat) ×' (f:Nat) ×' (o:List Rn) ×' (ha:a ≤ n) ×' (hf:n ≤ a + f) ×' (hq:o.length ≤ a) ×' (hR:o ++ jn l f a = T) ×' Unit)=>match x with | ⟨a,f,o,ha,hf,hq,hR,_⟩=>n - a) [⟨Unit,.exit 2,fun x=>match x with | ()=>CutS.mk [(1,D.ptr 0 0 0),(2,(D.ref 8 8 (0) (T.length) 2)),(6,D.fn (Fn.func 147) [] [D.ptr 0 0 0])] [⟨0,0,0,0,.b ⟨[D.sl false n 1 (map dB l)],24,false⟩⟩,⟨8,8,32,32,.b ⟨T.flatMap er,187,true⟩⟩] 16⟩] 1000 64 (fun | ⟨a,f,o,ha,hf,hq,hR,_⟩,Q,next1,last1=>(.s 7 (.br (decide ((↑a:Int) < (↑n:Int))) (fun p1=>have p1f:=aS p1; (.s 4 (.cl 147 false [] (.fn JA (@zz (l) (n) om om (a) om)) (.s 5 (.chk (true && decide ((↑a:Int) < (↑n:Int)) && true) GG (.s 2 (.opt ((map dB l)[a * 1]?) (dB (getD l (a * 1) default)) (av _ _ om) (.s 1 (.op (↑(UInt8.toNat (getD l (a * 1) default)):Int) (by (exact fU _ (by decide) (by decide))) (.s 7 (.br ((↑(UInt8.toNat (getD l (a * 1) default)):Int) == 0) (fun p2=>have p2f:=eq_of_beq p2; (.s 5 (.br (decide (11 ≤ (↑(co l a):Int))) (fun p3=>have p3f:=aS p3; (.s 2 (.opt (fB IntKind.i64 false (↑(co l a):Int) (↑138:Int)) (nD (min (co l a) 138)) (@GM (co l a) 138 ) (.s 5 (.ow ((↑(min (co l a) 138):Int) - 11) (.s 5 (.chk (true && Nat.beq (length o * 2) (length (flatMap er o)) && true && true && true && true && Nat.ble ((length o + 1) * 16) 140737488355328) DX (.s 5 (.ow ((↑a:Int) + (↑(min (co l a) 138):Int)) (.s 1 (.val 2 (D.ref 248 248 0 (length o + 1) 2) (D.ref 248 248 0 (length (o ++ [Rn.mk 18 (min (co l a) 138 - 11)])) 2) DY (.val 7 (iD ((↑a:Int) + (↑(min (co l a) 138):Int))) (nD (a + min (co l a) 138)) yv (.blk 248 248 (Blk.mk (flatMap er o ++ [iD 18,iD ((↑(min (co l a) 138):Int) - 11)]) 187 true) (Blk.mk (flatMap er (o ++ [Rn.mk 18 (min (co l a) 138 - 11)])) 187 true) JK (Hn.next next1 ⟨(a + min (co l a) 138),(f - 1),(o ++ [⟨18,min (co l a) 138 - 11⟩]),JL,om,DZ,(by (simp only [Nat.mul_one] at *;  have h9:=lw (l:=l) (a:=a) om; exact JO hR om om om om)),⟨⟩⟩ (by show n - (a + min (co l a) 138) < n - a; clear next1 last1; omega) [(0,0),(248,248)] ro)))))))))))))) (fun p3=>have p3f:=aT p3; (.s 5 (.t ((↑(UInt8.toNat (getD l (a * 1) default)):Int) == 0) p2 (.s 5 (.br (decide (3 ≤ (↑(co l a):Int))) (fun p4=>have p4f:=aS p4; (.s 4 (.ow ((↑(co l a):Int) - 3) (.s 5 (.chk (true && Nat.beq (length o * 2) (length (flatMap er o)) && true && true && true && true && Nat.ble ((length o + 1) * 16) 140737488355328) DX (.s 5 (.ow ((↑a:Int) + (↑(co l a):Int)) (.s 1 (.val 2 (D.ref 280 280 0 (length o + 1) 2) (D.ref 280 280 0 (length (o ++ [Rn.mk 17 (co l a - 3)])) 2) DY (.val 7 (iD ((↑a:Int) + (↑(co l a):Int))) (nD (a + co l a)) yv (.blk 280 280 (Blk.mk (flatMap er o ++ [iD 17,iD ((↑(co l a):Int) - 3)]) 187 true) (Blk.mk (flatMap er (o ++ [Rn.mk 17 (co l a - 3)])) 187 true) JK (Hn.next next1 ⟨(a + co l a),(f - 1),(o ++ [⟨17,co l a - 3⟩]),JL,om,DZ,(by (simp only [Nat.mul_one] at *;  have h9:=lw (l:=l) (a:=a) om; exact JP hR om om om om om)),⟨⟩⟩ (by show n - (a + co l a) < n - a; clear next1 last1; omega) [(0,0),(280,280)] ro)))))))))))) (fun p4=>have p4f:=aT p4; (.s 5 (.f (decide (0 < (↑(UInt8.toNat (getD l (a * 1) default)):Int))) (by (refine decide_eq_false ?_; (omega))) (.s 37 (.chk (true && Nat.beq (length o * 2) (length (flatMap er o)) && true && true && true && true && Nat.ble ((length o + 1) * 16) 140737488355328) DX (.s 5 (.ow ((↑a:Int) + 1) (.s 1 (.val 2 (D.ref 448 448 0 (length o + 1) 2) (D.ref 448 448 0 (length (o ++ [Rn.mk (UInt8.toNat (getD l a default)) 0])) 2) DY (.val 7 (iD ((↑a:Int) + 1)) (nD (a + 1)) yv (.blk 448 448 (Blk.mk (flatMap er o ++ [nD (UInt8.toNat (getD l (a * 1) default)),iD 0]) 187 true) (Blk.mk (flatMap er (o ++ [Rn.mk (UInt8.toNat (getD l a default)) 0])) 187 true) (by (simp; done)) (Hn.next next1 ⟨(a + 1),(f - 1),(o ++ [⟨(l.getD a default).toNat,0⟩]),om,om,DZ,JM,⟨⟩⟩ IO [(0,0),(448,448)] ro)))))))))))))))))))) (fun p2=>have p2f:=au p2; (.s 10 (.f ((↑(UInt8.toNat (getD l (a * 1) default)):Int) == 0) p2 (.s 10 (.t (decide (0 < (↑(UInt8.toNat (getD l (a * 1) default)):Int))) (by (refine decide_eq_true ?_; (omega))) (.s 6 (.br (decide (0 < (↑a:Int))) (fun p5=>have p5f:=aS p5; (.s 7 (.ow ((↑a:Int) - 1) (.s 2 (.chk (decide (0 ≤ (↑a:Int) - 1) && decide ((↑a:Int) - 1 < (↑n:Int)) && true) GG (.s 3 (.opt ((map dB l)[Int.toNat ((↑a:Int) - 1) * 1]?) (dB (getD l (Int.toNat ((↑a:Int) - 1) * 1) default)) (av _ _ om) (.s 2 (.op (↑(UInt8.toNat (getD l (Int.toNat ((↑a:Int) - 1) * 1) default)):Int) (by (exact fU _ (by decide) (by decide))) (.s 8 (.br ((↑(UInt8.toNat (getD l (Int.toNat ((↑a:Int) - 1) * 1) default)):Int) == (↑(UInt8.toNat (getD l (a * 1) default)):Int)) (fun p6=>have p6f:=eq_of_beq p6; (.s 5 (.br (decide (3 ≤ (↑(co l a):Int))) (fun p7=>have p7f:=aS p7; (.s 2 (.opt (fB IntKind.i64 false (↑(co l a):Int) (↑6:Int)) (nD (min (co l a) 6)) (@GM (co l a) 6 ) (.s 5 (.ow ((↑(min (co l a) 6):Int) - 3) (.s 5 (.chk (true && Nat.beq (length o * 2) (length (flatMap er o)) && true && true && true && true && Nat.ble ((length o + 1) * 16) 140737488355328) DX (.s 5 (.ow ((↑a:Int) + (↑(min (co l a) 6):Int)) (.s 1 (.val 2 (D.ref 472 472 0 (length o + 1) 2) (D.ref 472 472 0 (length (o ++ [Rn.mk 16 (min (co l a) 6 - 3)])) 2) DY (.val 7 (iD ((↑a:Int) + (↑(min (co l a) 6):Int))) (nD (a + min (co l a) 6)) yv (.blk 472 472 (Blk.mk (flatMap er o ++ [iD 16,iD ((↑(min (co l a) 6):Int) - 3)]) 187 true) (Blk.mk (flatMap er (o ++ [Rn.mk 16 (min (co l a) 6 - 3)])) 187 true) JK (Hn.next next1 ⟨(a + min (co l a) 6),(f - 1),(o ++ [⟨16,min (co l a) 6 - 3⟩]),JL,om,DZ,(by (simp only [Nat.mul_one] at *;  have h9:=lw (l:=l) (a:=a) om; exact JQ hR om om om om (by rw [show ((a:Int) - 1).toNat = a - 1 from by omega] at *; omega) om)),⟨⟩⟩ (by show n - (a + min (co l a) 6) < n - a; clear next1 last1; omega) [(0,0),(472,472)] ro)))))))))))))) (fun p7=>have p7f:=aT p7; (.s 8 (.chk (true && Nat.beq (length o * 2) (length (flatMap er o)) && true && true && true && true && Nat.ble ((length o + 1) * 16) 140737488355328) DX (.s 5 (.ow ((↑a:Int) + 1) (.s 1 (.val 2 (D.ref 448 448 0 (length o + 1) 2) (D.ref 448 448 0 (length (o ++ [Rn.mk (UInt8.toNat (getD l a default)) 0])) 2) DY (.val 7 (iD ((↑a:Int) + 1)) (nD (a + 1)) yv (.blk 448 448 (Blk.mk (flatMap er o ++ [nD (UInt8.toNat (getD l (a * 1) default)),iD 0]) 187 true) (Blk.mk (flatMap er (o ++ [Rn.mk (UInt8.toNat (getD l a default)) 0])) 187 true) (by (simp; done)) (Hn.next next1 ⟨(a + 1),(f - 1),(o ++ [⟨(l.getD a default).toNat,0⟩]),om,om,DZ,JM,⟨⟩⟩ IO [(0,0),(448,448)] ro))))))))))))) (fun p6=>have p6f:=au p6; (.s 13 (.chk (true && Nat.beq (length o * 2) (length (flatMap er o)) && true && true && true && true && Nat.ble ((length o + 1) * 16) 140737488355328) DX (.s 5 (.ow ((↑a:Int) + 1) (.s 1 (.val 2 (D.ref 448 448 0 (length o + 1) 2) (D.ref 448 448 0 (length (o ++ [Rn.mk (UInt8.toNat (getD l a default)) 0])) 2) DY (.val 7 (iD ((↑a:Int) + 1)) (nD (a + 1)) yv (.blk 448 448 (Blk.mk (flatMap er o ++ [nD (UInt8.toNat (getD l (a * 1) default)),iD 0]) 187 true) (Blk.mk (flatMap er (o ++ [Rn.mk (UInt8.toNat (getD l a default)) 0])) 187 true) (by (simp; done)) (Hn.next next1 ⟨(a + 1),(f - 1),(o ++ [⟨(l.getD a default).toNat,0⟩]),om,om,DZ,(by (simp only [Nat.mul_one] at *;  have h9:=lw (l:=l) (a:=a) om; rw [show ((a:Int) - 1).toNat = a - 1 from by omega] at *; exact GL hR om om om om)),⟨⟩⟩ IO [(0,0),(448,448)] ro))))))))))))))))))))) (fun p5=>have p5f:=aT p5; (.s 31 (.chk (true && Nat.beq (length o * 2) (length (flatMap er o)) && true && true && true && true && Nat.ble ((length o + 1) * 16) 140737488355328) DX (.s 5 (.ow ((↑a:Int) + 1) (.s 1 (.val 2 (D.ref 448 448 0 (length o + 1) 2) (D.ref 448 448 0 (length (o ++ [Rn.mk (UInt8.toNat (getD l a default)) 0])) 2) DY (.val 7 (iD ((↑a:Int) + 1)) (nD (a + 1)) yv (.blk 448 448 (Blk.mk (flatMap er o ++ [nD (UInt8.toNat (getD l (a * 1) default)),iD 0]) 187 true) (Blk.mk (flatMap er (o ++ [Rn.mk (UInt8.toNat (getD l a default)) 0])) 187 true) (by (simp; done)) (Hn.next next1 ⟨(a + 1),(f - 1),(o ++ [⟨(l.getD a default).toNat,0⟩]),om,om,DZ,JM,⟨⟩⟩ IO [(0,0),(448,448)] ro)))))))))))))))))))))))))))) (fun p1=>have p1f:=aT p1; (.val 2 (D.ref 8 8 0 (length o) 2) (D.ref 8 8 0 (length T) 2) (by ( rw [GK hR om])) (.blk 8 8 (Blk.mk (flatMap er o) 187 true) (Blk.mk (flatMap er T) 187 true) (by ( rw [GK hR om])) (Hn.last last1 0 (():Unit) rfl [(0,0),(8,8)] ro))))))) (fun | ⟨a,f,o,ha,hf,hq,hR,_⟩=>by kernel_rfl) ⟨(0),(n),([]),om,om,(by (simp; done)),(by (rw [hn]; exact (rY l).symm.trans hT)),⟨⟩⟩ [(0,0),(32,32)] ro (cb (fun | ()=>(.s 3 (.out [8] [8] (D.tup [D.ref 0 0 0 (length T) 2,iD 0]) [Blk.mk (flatMap er T) 187 true] R (ok _ _ wr wr))))))))))))))) (by kernel_rfl)
end Vp
end Go.Proofs.YtefjnofhgkjpmaaGreat
namespace Go.Proofs.YtefjnofhgkjpmaaGreat
open Go.RowKit Go.Bw Go.Vx
namespace Vp
def yn (T:List Sy) (f:Int) (s:Nat):Nat:=if f ≤ s ∧ s < f + T.length then 0 else 90
def bZ (T:List Sy):Prop:=∀ i,(T.getD i default).bits ≤ 13 ∧ (T.getD i default).least ≤ 100000 ∧ (T.getD i default).many ≤ 100000
theorem qd {T:List Sy} (h:T.all (fun y=>decide (y.bits ≤ 13) && decide (y.least ≤ 100000) && decide (y.many ≤ 100000)) = true):bZ T:=fun i=>by
 rw [List.getD_eq_getElem?_getD]
 cases hq:T[i]? with
 | none=>exact ⟨Nat.zero_le _,Nat.zero_le _,Nat.zero_le _⟩
 | some y =>
  have:=List.all_eq_true.1 h y (List.mem_of_getElem? hq)
  simp only [Bool.and_eq_true,decide_eq_true_eq] at this
  exact ⟨this.1.1,this.1.2,this.2⟩
theorem GN {x:Int} (h:-9223372036854775808 ≤ x ∧ x ≤ 9223372036854775807):IntKind.i64.wrap x = x:=by
 have h2:=fq (x:=x) h
 rw [aM] at h2
 injection h2 with h3; injection h3 with h4; injection h4
theorem dc:bZ aJ:=qd (by decide)
theorem dD:bZ aZ:=qd (by decide)
end Vp
end Go.Proofs.YtefjnofhgkjpmaaGreat
namespace Go.Proofs.YtefjnofhgkjpmaaGreat
open Go.RowKit Go.Bw Go.Vx
open List (length getD map take drop flatMap replicate)
namespace Vp
theorem JS {p:Prop} (h:p:=by ( have q:=JT hR om om rfl om om; have h9:=hz i; subst q; refine aO ?_; omega)):p:=h
def GO (s:Sy) (n:Nat):Bool:=decide (s.least ≤ n ∧ n < s.least + s.many)
def ni (T:List Sy) (n:Nat):Nat → Nat → Nat
 | 0,i=>i
 | f + 1,i=>if GO (T.getD i default) n = true then i else ni T n f (i + 1)
def am (T:List Sy) (n:Nat):Nat:=lk T (ni T n T.length 0)
theorem lx (T:List Sy) (n:Nat):am T n = ni T n T.length 0:=aF _ _
theorem B8 {T:List Sy} {n:Nat}:∀ (f i:Nat),i ≤ ni T n f i
 | 0,_=>Nat.le_refl _
 | f + 1,i=>by
  rw [ni]; split
  ·exact Nat.le_refl _
  ·exact Nat.le_of_succ_le (B8 f (i + 1))
theorem JT {T:List Sy} {n f i I u:Nat} (hR:ni T n f i = I) (hf:T.length ≤ i + f) (hi:i < T.length) (hu:u = i) (h1:(T.getD u default).least ≤ n) (h2:n < (T.getD u default).least + (T.getD u default).many):i = I:=by
 subst hu
 obtain ⟨g,rfl⟩:∃ g,f = g + 1:=⟨f - 1,by omega⟩
 rw [← hR,ni,if_pos (show GO (T.getD u default) n = true from decide_eq_true ⟨h1,h2⟩)]
theorem zA {T:List Sy} {n f i I u:Nat} (hR:ni T n f i = I) (hf:T.length ≤ i + f) (hi:i < T.length) (hu:u = i) (h:¬ ((T.getD u default).least ≤ n ∧ n < (T.getD u default).least + (T.getD u default).many)):ni T n (f - 1) (i + 1) = I ∧ i + 1 ≤ I:=by
 subst hu
 obtain ⟨g,rfl⟩:∃ g,f = g + 1:=⟨f - 1,by omega⟩
 rw [ni,if_neg (fun q:GO (T.getD u default) n = true=>h (of_decide_eq_true q))] at hR
 exact ⟨hR,by rw [← hR]; exact B8 g (u + 1)⟩
theorem B9 {T:List Sy} {n:Nat}:∀ (f i:Nat),ni T n f i < i + f → (T.getD (ni T n f i) default).least ≤ n ∧ n < (T.getD (ni T n f i) default).least + (T.getD (ni T n f i) default).many
 | 0,i,h=>absurd h (by rw [ni]; omega)
 | f + 1,i,h=>by
  rw [ni] at h ⊢
  by_cases q:GO (T.getD i default) n = true
  ·rw [if_pos q]; exact of_decide_eq_true q
  ·rw [if_neg q] at h ⊢; exact B9 f (i + 1) (by omega)
def JU:List Sy → Nat → Nat → Bool
 | [],a,b=>Nat.beq a b
 | s :: l,a,b=>Nat.beq s.least a && JU l (a + s.many) b
theorem wU {n b:Nat} (T:List Sy):∀ (f i a:Nat),i + f = T.length → JU (T.drop i) a b = true → a ≤ n → n < b → ni T n f i < i + f
 | 0,i,a,h,hc,h1,h2=>by
  rw [List.drop_eq_nil_of_le (by omega)] at hc
  have:=Nat.eq_of_beq_eq_true hc
  omega
 | f + 1,i,a,h,hc,h1,h2=>by
  rw [List.drop_eq_getElem_cons (by omega:i < T.length),JU,Bool.and_eq_true] at hc
  have e:T.getD i default = T[i]'(by omega):=by rw [List.getD_eq_getElem?_getD,List.getElem?_eq_getElem (by omega)]; rfl
  have hl:=Nat.eq_of_beq_eq_true hc.1
  rw [ni,e]
  by_cases q:GO (T[i]'(by omega)) n = true
  ·rw [if_pos q]; omega
  ·rw [if_neg q]
   have q2:=of_decide_eq_false (Bool.eq_false_iff.2 q)
   have:=wU (n:=n) (b:=b) T f (i + 1) (a + (T[i]'(by omega)).many) (by omega) hc.2 (by omega) h2
   omega
theorem wV (T:List Sy) (k:Nat) (hk:k = T.length) (hk2:k ≤ 64) (hz:bZ T) (b:Nat) (hb:b ≤ 257) (n:Nat) (hn:n ≤ 40000) (I:Nat) (hI:am T n = I) (hIk:I < k):SpecH false Tryz.prog 173 [.agg [nD b,.sl false k 3 (T.flatMap gV)],nD n] [] (.tup [nD (b + I),nD (T.getD I default).bits,nD (n - (T.getD I default).least),iD 0]) []:=by
 refine SpecH.run T_ok ah Tryz.func173 rfl rfl rfl trivial rfl 1000 64 (fun R ok=>(.s 14 (Hn.inl T_ok ah false 42 0 (aA Tryz.prog 173 0) (fun (x:(i:Nat) ×' (f:Nat) ×' (hi:i ≤ k) ×' (hf:k ≤ i + f) ×' (hR:ni T n f i = I) ×' (hi2:i ≤ I) ×' Unit)=>match x with | ⟨i,f,hi,hf,hR,hi2,_⟩=>CutS.mk [(1,nD n),(2,D.ptr 0 0 0),(11,D.sl false k 3 (flatMap gV T)),(12,nD k),(13,nD i)] [⟨0,0,0,0,.b ⟨[nD b,D.sl false k 3 (flatMap gV T)],252,false⟩⟩] 8) (fun (x:(i:Nat) ×' (f:Nat) ×' (hi:i ≤ k) ×' (hf:k ≤ i + f) ×' (hR:ni T n f i = I) ×' (hi2:i ≤ I) ×' Unit)=>match x with | ⟨i,f,hi,hf,hR,hi2,_⟩=>k - i) [⟨Unit,.ret,fun x=>match x with | ()=>CutS.mk [(4,nD (b + I)),(5,nD (T.getD I default).bits),(6,nD (n - (T.getD I default).least)),(7,iD 0)] [⟨0,0,0,0,.b ⟨[nD b,D.sl false k 3 (flatMap gV T)],252,false⟩⟩] 8⟩] 1000 64 (fun | ⟨i,f,hi,hf,hR,hi2,_⟩,Q,next1,last1=>(.s 2 (.t (decide ((↑i:Int) < (↑k:Int))) (by (refine decide_eq_true ?_; (omega))) (.s 2 (.chk (true && decide ((↑i:Int) < (↑k:Int)) && true) (by ((refine aH ?_ ?_) <;> (repeat' (first | (refine aH ?_ ?_) | (with_reducible rfl) | (refine decide_eq_true ?_) | (refine Nat.ble_eq_true_of_le ?_) | (refine et ?_))) <;> (omega))) (.s 2 (.chk (Nat.ble (i * 3 + 3) (length (flatMap gV T))) (by (rw [bm (k:=3) (fun _=>rfl)]; refine Nat.ble_eq_true_of_le ?_; (omega))) (.lst (take 3 (drop (i * 3) (flatMap gV T))) ([nD (Sy.bits (getD T i default)),nD (Sy.least (getD T i default)),nD (Sy.many (getD T i default))]) (aD (k:=3) (i:=i) (fun _=>rfl) om om) (.s 17 (.br (decide ((↑(Sy.least (getD T i default)):Int) ≤ (↑n:Int))) (fun p0=>have p0f:=aS p0; (.s 19 (.op ((↑(Sy.least (getD T i default)):Int) + (↑(Sy.many (getD T i default)):Int)) (by ( have h9:=hz i; omega)) (.s 4 (.br (decide ((↑n:Int) < (↑(Sy.least (getD T i default)):Int) + (↑(Sy.many (getD T i default)):Int))) (fun p1=>have p1f:=aS p1; (.s 10 (.ow ((↑b:Int) + (↑i:Int)) (.s 15 (.ow ((↑n:Int) - (↑(Sy.least (getD T i default)):Int)) (.s 4 (.val 4 (iD ((↑b:Int) + (↑i:Int))) (nD (b + I)) JS (.val 5 (nD (Sy.bits (getD T i default))) (nD (Sy.bits (getD T I default))) JS (.val 6 (iD ((↑n:Int) - (↑(Sy.least (getD T i default)):Int))) (nD (n - Sy.least (getD T I default))) JS (Hn.last last1 0 (():Unit) rfl [(0,0)] ro)))))))))) (fun p1=>have p1f:=aT p1; (.s 2 (.ow ((↑i:Int) + 1) (.s 1 (.val 13 (iD ((↑i:Int) + 1)) (nD (i + 1)) (by (refine aO ?_; (omega))) (Hn.next next1 ⟨(i + 1),(f - 1),om,om,(by ( exact (zA hR om om rfl om).1)),(by ( exact (zA hR om om rfl om).2)),⟨⟩⟩ (by show k - (i + 1) < k - i; clear next1 last1; omega) [(0,0)] ro))))))))))) (fun p0=>have p0f:=aT p0; (.s 16 (.ow ((↑i:Int) + 1) (.s 1 (.val 13 (iD ((↑i:Int) + 1)) (nD (i + 1)) (by (refine aO ?_; (omega))) (Hn.next next1 ⟨(i + 1),(f - 1),om,om,(by ( exact (zA hR om om rfl om).1)),(by ( exact (zA hR om om rfl om).2)),⟨⟩⟩ (by show k - (i + 1) < k - i; clear next1 last1; omega) [(0,0)] ro)))))))))))))))) (fun | ⟨i,f,hi,hf,hR,hi2,_⟩=>by kernel_rfl) ⟨(0),(k),om,om,(by (rw [hk]; exact (lx T n).symm.trans hI)),om,⟨⟩⟩ [(0,0)] ro (cb (fun | ()=>(.out [] [] (D.tup [nD (b + I),nD (Sy.bits (getD T I default)),nD (n - Sy.least (getD T I default)),iD 0]) [] R (ok _ _ wr wr))))))) (by kernel_rfl)
theorem D0 (T:List Sy) (hT:T = aJ) (hl:T.length = 29) (hz:bZ T) (n:Nat) (hn:n ≤ 40000) (I:Nat) (hI:am T n = I) (hIk:I < 29):SpecH false Tryz.prog 142 [nD n] [] (.tup [nD (257 + I),nD (T.getD I default).bits,nD (n - (T.getD I default).least),iD 0]) []:=by
 refine SpecH.run T_ok ah Tryz.func142 rfl rfl rfl trivial rfl 1000 64 (fun R ok=>(.s 5 (.cl 160 false [] (.fn JD (@zy (T) bt)) (.s 2 (.call 173 false [] (true && (true && (true && Nat.ble 87 (length (flatMap gV T)) && true && ab (bif true && Nat.beq 87 (length (flatMap gV T)) then flatMap gV T else take 87 (drop 0 (flatMap gV T)))) && true) && true) (by (have q:ab (T.flatMap gV) = true:=da (f:=gV) (fun _=>rfl) T; rw [bm (f:=gV) (k:=3) (fun _=>rfl),hl]; simp only [show Nat.ble 87 (29 * 3) = true from rfl,show Nat.beq 87 (29 * 3) = true from rfl,Bool.and_true,cond_true,q])) ([D.agg [iD 257,D.sl true 29 3 (bif true && Nat.beq 87 (length (flatMap gV T)) then flatMap gV T else take 87 (drop 0 (flatMap gV T)))],nD n]) _ (by exact (And.intro (D.sim.agg (And.intro (D.sim.refl _) (And.intro (D.sim.slw rfl (bf (by (have q:ab (T.flatMap gV) = true:=da (f:=gV) (fun _=>rfl) T; rw [bm (f:=gV) (k:=3) (fun _=>rfl),hl]; simp only [show Nat.ble 87 (29 * 3) = true from rfl,show Nat.beq 87 (29 * 3) = true from rfl,Bool.and_true,cond_true,q])) |>.trans rfl)) trivial))) (And.intro (D.sim.refl _) trivial))) (true) wr _ _ _ (CallOk.fn (aw.of Tryz.func173 rfl rfl) (@wV (T) (29) om om om (257) (by (simp; done)) (n) om (I) bt om)) (.s 12 (.out [] [] (D.tup [nD (257 + I),nD (Sy.bits (getD T I default)),nD (n - Sy.least (getD T I default)),iD 0]) [] R (ok _ _ wr wr)))))))) (by kernel_rfl)
theorem GP (T:List Sy) (hT:T = aZ) (hl:T.length = 30) (hz:bZ T) (n:Nat) (hn:n ≤ 40000) (I:Nat) (hI:am T n = I) (hIk:I < 30):SpecH false Tryz.prog 143 [nD n] [] (.tup [nD (0 + I),nD (T.getD I default).bits,nD (n - (T.getD I default).least),iD 0]) []:=by
 refine SpecH.run T_ok ah Tryz.func143 rfl rfl rfl trivial rfl 1000 64 (fun R ok=>(.s 5 (.cl 163 false [] (.fn JE (@DW (T) bt)) (.s 2 (.call 173 false [] (true && (true && (true && Nat.ble 90 (length (flatMap gV T)) && true && ab (bif true && Nat.beq 90 (length (flatMap gV T)) then flatMap gV T else take 90 (drop 0 (flatMap gV T)))) && true) && true) (by (have q:ab (T.flatMap gV) = true:=da (f:=gV) (fun _=>rfl) T; rw [bm (f:=gV) (k:=3) (fun _=>rfl),hl]; simp only [show Nat.ble 90 (30 * 3) = true from rfl,show Nat.beq 90 (30 * 3) = true from rfl,Bool.and_true,cond_true,q])) ([D.agg [iD 0,D.sl true 30 3 (bif true && Nat.beq 90 (length (flatMap gV T)) then flatMap gV T else take 90 (drop 0 (flatMap gV T)))],nD n]) _ (by exact (And.intro (D.sim.agg (And.intro (D.sim.refl _) (And.intro (D.sim.slw rfl (bf (by (have q:ab (T.flatMap gV) = true:=da (f:=gV) (fun _=>rfl) T; rw [bm (f:=gV) (k:=3) (fun _=>rfl),hl]; simp only [show Nat.ble 90 (30 * 3) = true from rfl,show Nat.beq 90 (30 * 3) = true from rfl,Bool.and_true,cond_true,q])) |>.trans rfl)) trivial))) (And.intro (D.sim.refl _) trivial))) (true) wr _ _ _ (CallOk.fn (aw.of Tryz.func173 rfl rfl) (@wV (T) (30) om om om (0) (by (simp; done)) (n) om (I) bt om)) (.s 12 (.out [] [] (D.tup [nD (0 + I),nD (Sy.bits (getD T I default)),nD (n - Sy.least (getD T I default)),iD 0]) [] R (ok _ _ wr wr)))))))) (by kernel_rfl)
end Vp
end Go.Proofs.YtefjnofhgkjpmaaGreat
namespace Go.Proofs.YtefjnofhgkjpmaaGreat
open Go.RowKit Go.Bw Go.Vx
open List (length getD map take drop flatMap replicate)
namespace Vp
theorem qe {p:Prop} (h:p:=by (refine aO ?_; rw [iN]; unfold rW;  (repeat' split) <;> first | omega | (simp_all; done))):p:=h
theorem JV {x:Int} (h:-9223372036854775808 ≤ x ∧ x ≤ 9223372036854775807):IntKind.i64.wrap x = x:=by
 have h2:=fq (x:=x) h
 rw [aM] at h2
 injection h2 with h3; injection h3 with h4; injection h4
theorem tE {l:List UInt8} {i m:Nat} (ho:∀ j,j < i → (l.getD j default).toNat ≤ m) (h:¬ ((m:Nat):Int) < (((l.getD (i * 1) default).toNat:Nat):Int)):∀ j,j < i + 1 → (l.getD j default).toNat ≤ m:=fun j hj=>by
 rcases Nat.lt_or_ge j i with q | q
 ·exact ho j q
 ·have q2:j = i:=by omega
  subst q2; rw [Nat.mul_one] at h; omega
theorem JW {l:List UInt8} {i:Nat} (h:i < l.length) (hN:l.length ≤ 1000000) (h1:0 < (l.getD (i * 1) default).toNat) (h2:(l.getD (i * 1) default).toNat ≤ 15):D.v (.int .i64 (IntKind.i64.wrap (((aW (l.take i):Nat):Int) + IntKind.i64.wrap (2 ^ min (15 - (((l.getD (i * 1) default).toNat:Nat):Int)).toNat 64 * 1)))) = D.v (.int .i64 ((aW (l.take (i + 1)):Nat):Int)):=by
 refine aO ?_
 rw [Nat.mul_one] at *
 rw [fV h]
 generalize (l.getD i default).toNat = x at *
 have hk:=wP (l.take i)
 rw [List.length_take] at hk
 rw [if_neg (by omega),show min (15 - (x:Int)).toNat 64 = 15 - x from by omega]
 have hp:2 ^ (15 - x) ≤ 2 ^ 15:=Nat.pow_le_pow_right (by decide) (by omega)
 have e:(2:Int) ^ (15 - x) * 1 = ((2 ^ (15 - x):Nat):Int):=by push_cast; omega
 rw [e]
 generalize 2 ^ (15 - x) = Z at *
 rw [JV (x:=((Z:Nat):Int)) (by omega),JV (by omega)]
 omega
theorem GQ {l:List UInt8} {i:Nat} (h:i < l.length) (h1:¬ (0:Int) < (((l.getD (i * 1) default).toNat:Nat):Int)):aW (l.take (i + 1)) = aW (l.take i) ∧ bn (l.take (i + 1)) = bn (l.take i):=by
 rw [Nat.mul_one] at h1
 rw [fV h,il h,if_pos (by omega),if_pos (by omega)]; exact ⟨rfl,rfl⟩
theorem JX {l:List UInt8} {i:Nat} (h:i < l.length) (hN:l.length ≤ 1000000) (h1:0 < (l.getD (i * 1) default).toNat):D.v (.int .i64 (IntKind.i64.wrap (((bn (l.take i):Nat):Int) + 1))) = D.v (.int .i64 ((bn (l.take (i + 1)):Nat):Int)):=by
 refine aO ?_
 rw [Nat.mul_one] at *
 rw [il h,if_neg (by omega)]
 have hk:=wO (l.take i)
 rw [List.length_take] at hk
 rw [JV (by omega)]; omega
theorem D1 (l:List UInt8) (n:Nat) (hn:n = l.length) (hN:n ≤ 1000000) (m:Nat) (hm:1 ≤ m ∧ m ≤ 15):SpecH false Tryz.prog 148 [.sl false n 1 (l.map dB),nD m] [] (nD (cM l m)) []:=by
 refine SpecH.run T_ok ah Tryz.func148 rfl rfl rfl trivial rfl 1000 64 (fun R ok=>(.s 6 (.f (decide ((↑m:Int) < 1)) (by (refine decide_eq_false ?_; (omega))) (.s 4 (.f (decide (15 < (↑m:Int))) (by (refine decide_eq_false ?_; (omega))) (.s 4 (.br (decide (320 < (↑n:Int))) (fun p0=>have p0f:=aS p0; (.s 1 (.out [] [] (iD 4) [] R (ok _ _ qe wr)))) (fun p0=>have p0f:=aT p0; (.s 5 (Hn.inl T_ok ah false 52 0 (aA Tryz.prog 148 0) (fun (x:(i:Nat) ×' (hi:i ≤ n) ×' (ho:∀ j,j < i → (l.getD j default).toNat ≤ m) ×' Unit)=>match x with | ⟨i,hi,ho,_⟩=>CutS.mk [(1,nD m),(5,nD (aW (l.take i))),(6,nD (bn (l.take i))),(18,D.sl false n 1 (map dB l)),(19,nD n),(20,nD i)] [] 0) (fun (x:(i:Nat) ×' (hi:i ≤ n) ×' (ho:∀ j,j < i → (l.getD j default).toNat ≤ m) ×' Unit)=>match x with | ⟨i,hi,ho,_⟩=>n - i) [⟨(ho2:dr l m = false) ×' Unit,.exit 0,fun x=>match x with | ⟨ho2,_⟩=>CutS.mk [(1,nD m),(5,nD (aW l)),(6,nD (bn l)),(18,D.sl false n 1 (map dB l)),(19,nD n)] [] 0⟩,⟨(ho3:dr l m = true) ×' Unit,.ret,fun x=>match x with | ⟨ho3,_⟩=>CutS.mk [(4,iD 2)] [] 0⟩] 1000 64 (fun | ⟨i,hi,ho,_⟩,Q,next1,last1=>(.s 2 (.br (decide ((↑i:Int) < (↑n:Int))) (fun p1=>have p1f:=aS p1; (.s 1 (.chk (true && decide ((↑i:Int) < (↑n:Int)) && true) (by ((refine aH ?_ ?_) <;> (repeat' (first | (refine aH ?_ ?_) | (with_reducible rfl) | (refine decide_eq_true ?_) | (refine Nat.ble_eq_true_of_le ?_) | (refine et ?_))) <;> (omega))) (.s 2 (.opt ((map dB l)[i * 1]?) (dB (getD l (i * 1) default)) (av _ _ om) (.s 3 (.op (↑(UInt8.toNat (getD l (i * 1) default)):Int) (by (exact fU _ (by decide) (by decide))) (.s 3 (.br (decide ((↑m:Int) < (↑(UInt8.toNat (getD l (i * 1) default)):Int))) (fun p2=>have p2f:=aS p2; (.s 1 (Hn.last last1 1 (⟨(by (exact tD (i:=i * 1) (by (omega)) (by (omega)))),⟨⟩⟩:(ho3:dr l m = true) ×' Unit) rfl [] ro))) (fun p2=>have p2f:=aT p2; (.s 3 (.br (decide (0 < (↑(UInt8.toNat (getD l (i * 1) default)):Int))) (fun p3=>have p3f:=aS p3; (.s 4 (.opt (az .u8 (15 - (↑(UInt8.toNat (getD l (i * 1) default)):Int))) (bI (15 - (↑(UInt8.toNat (getD l (i * 1) default)):Int))) (pV om) (.s 1 (.chk (decide (0 ≤ 15 - (↑(UInt8.toNat (getD l (i * 1) default)):Int))) (by (refine decide_eq_true ?_; (omega))) (.opt (az .i64 (2 ^ min (Int.toNat (15 - (↑(UInt8.toNat (getD l (i * 1) default)):Int))) 64 * 1)) (iD (IntKind.wrap IntKind.i64 (2 ^ min (Int.toNat (15 - (↑(UInt8.toNat (getD l (i * 1) default)):Int))) 64 * 1))) (aM _ _) (.s 2 (.opt (az .i64 ((↑(aW (take i l)):Int) + IntKind.wrap IntKind.i64 (2 ^ min (Int.toNat (15 - (↑(UInt8.toNat (getD l (i * 1) default)):Int))) 64 * 1))) (iD (IntKind.wrap IntKind.i64 ((↑(aW (take i l)):Int) + IntKind.wrap IntKind.i64 (2 ^ min (Int.toNat (15 - (↑(UInt8.toNat (getD l (i * 1) default)):Int))) 64 * 1)))) (aM _ _) (.s 4 (.opt (az .i64 ((↑(bn (take i l)):Int) + 1)) (iD (IntKind.wrap IntKind.i64 ((↑(bn (take i l)):Int) + 1))) (aM _ _) (.s 3 (.ow ((↑i:Int) + 1) (.s 1 (.val 5 (iD (IntKind.wrap IntKind.i64 ((↑(aW (take i l)):Int) + IntKind.wrap IntKind.i64 (2 ^ min (Int.toNat (15 - (↑(UInt8.toNat (getD l (i * 1) default)):Int))) 64 * 1)))) (nD (aW (take (i + 1) l))) (by (exact JW (by (omega)) (by (omega)) (by (omega)) (by (omega)))) (.val 6 (iD (IntKind.wrap IntKind.i64 ((↑(bn (take i l)):Int) + 1))) (nD (bn (take (i + 1) l))) (by (exact JX (by (omega)) (by (omega)) (by (omega)))) (.val 20 (iD ((↑i:Int) + 1)) (nD (i + 1)) (by (refine aO ?_; (omega))) (Hn.next next1 ⟨(i + 1),om,(by (exact tE ho (by (omega)))),⟨⟩⟩ (by show n - (i + 1) < n - i; clear next1 last1; omega) [] ro))))))))))))))))) (fun p3=>have p3f:=aT p3; (.s 2 (.ow ((↑i:Int) + 1) (.s 1 (.val 5 (nD (aW (take i l))) (nD (aW (take (i + 1) l))) (by (rw [(GQ (l:=l) (i:=i) (by (omega)) (by (omega))).1])) (.val 6 (nD (bn (take i l))) (nD (bn (take (i + 1) l))) (by (rw [(GQ (l:=l) (i:=i) (by (omega)) (by (omega))).2])) (.val 20 (iD ((↑i:Int) + 1)) (nD (i + 1)) (by (refine aO ?_; (omega))) (Hn.next next1 ⟨(i + 1),om,(by (exact tE ho (by (omega)))),⟨⟩⟩ (by show n - (i + 1) < n - i; clear next1 last1; omega) [] ro)))))))))))))))))))) (fun p1=>have p1f:=aT p1; (.val 5 (nD (aW (take i l))) (nD (aW l)) (by (rw [List.take_of_length_le (by (omega))])) (.val 6 (nD (bn (take i l))) (nD (bn l)) (by (rw [List.take_of_length_le (by (omega))])) (Hn.last last1 0 (⟨(by (exact kt (fun j hj=>ho j (by (omega))))),⟨⟩⟩:(ho2:dr l m = false) ×' Unit) rfl [] ro))))))) (fun | ⟨i,hi,ho,_⟩=>by kernel_rfl) ⟨(0),om,om,⟨⟩⟩ [] ro (fc (fun | ⟨ho2,_⟩=>(.s 4 (.br (decide (32768 < (↑(aW l):Int))) (fun p4=>have p4f:=aS p4; (.s 1 (.out [] [] (iD 30) [] R (ok _ _ qe wr)))) (fun p4=>have p4f:=aT p4; (.s 4 (.br ((↑(aW l):Int) == 32768) (fun p5=>have p5f:=eq_of_beq p5; (.s 2 (.out [] [] (iD 0) [] R (ok _ _ qe wr)))) (fun p5=>have p5f:=au p5; (.s 4 (.br ((↑(bn l):Int) == 0) (fun p6=>have p6f:=eq_of_beq p6; (.s 2 (.out [] [] (iD 0) [] R (ok _ _ qe wr)))) (fun p6=>have p6f:=au p6; (.s 5 (.br ((↑(bn l):Int) == 1) (fun p7=>have p7f:=eq_of_beq p7; (.s 5 (.br ((↑(aW l):Int) == 16384) (fun p8=>have p8f:=eq_of_beq p8; (.s 1 (.out [] [] (iD 0) [] R (ok _ _ qe wr)))) (fun p8=>have p8f:=au p8; (.s 1 (.out [] [] (iD 31) [] R (ok _ _ qe wr))))))) (fun p7=>have p7f:=au p7; (.s 6 (.out [] [] (iD 31) [] R (ok _ _ qe wr)))))))))))))))) (fun | ⟨ho3,_⟩=>(.out [] [] (iD 2) [] R (ok _ _ qe wr)))))))))))))) (by kernel_rfl)
end Vp
end Go.Proofs.YtefjnofhgkjpmaaGreat
namespace Go.Proofs.YtefjnofhgkjpmaaGreat
open Go.RowKit Go.Bw Go.Vx
open List (length getD map take drop flatMap replicate)
namespace Vp
theorem IP {p:Prop} (h:p:=by (refine decide_eq_true ?_;  have h7:=vn l v i; have h6:=vn l v (i + 1); omega)):p:=h
theorem JY {p:Prop} (h:p:=by clear next1 last1; (simp_all <;> omega)):p:=h
theorem Lj {p:Prop} (h:p:=by ((refine aH ?_ ?_) <;> (repeat' (first | (refine aH ?_ ?_) | (with_reducible rfl) | (refine decide_eq_true ?_) | (refine Nat.ble_eq_true_of_le ?_) | (refine et ?_))) <;> (omega))):p:=h
theorem Lk {p:Prop} (h:p:=by (simp only [List.length_map,Nat.mul_one,Nat.beq_refl,Bool.true_and,Bool.and_true];  have h7:=vn l v i; have h6:=vn l v (i + 1); refine Nat.ble_eq_true_of_le ?_; omega)):p:=h
theorem Ll {p:Prop} (h:p:=by ( have h7:=vn l v i; have h6:=vn l v (i + 1); refine D8 ?_ ?_ <;> omega)):p:=h
def cI:List Bool → Nat
 | []=>0
 | b :: r=>b.toNat + 2 * cI r
theorem gw:∀ l:List Bool,cI l < 2 ^ l.length
 | []=>Nat.zero_lt_one
 | b :: r=>by
  have h:=gw r
  have h2:b.toNat ≤ 1:=Bool.toNat_le b
  rw [List.length_cons,Nat.pow_succ,cI]; omega
theorem jo:∀ a b:List Bool,cI (a ++ b) = cI a + 2 ^ a.length * cI b
 | [],b=>by simp [cI]
 | x :: r,b=>by
  have h:=jo r b
  rw [List.cons_append,cI,cI,h,List.length_cons,Nat.pow_succ,Nat.mul_add,← Nat.mul_assoc,Nat.mul_comm 2 (2 ^ r.length),Nat.add_assoc]
def vm (l:List Bool) (i:Nat):UInt8:=UInt8.ofNat (cI ((l.drop (8 * i)).take 8))
def pk (l:List Bool):List UInt8:=lk l ((List.range ((l.length + 7) / 8)).map (vm l))
theorem wW (l:List Bool):pk l = (List.range ((l.length + 7) / 8)).map (vm l):=aF _ _
theorem ac (l:List Bool):(pk l).length = (l.length + 7) / 8:=by rw [wW,List.length_map,List.length_range]
theorem im {l:List Bool} {i:Nat} (h:i < (l.length + 7) / 8):(pk l)[i]? = some (vm l i):=by
 rw [wW,List.getElem?_map,List.getElem?_range h]; rfl
theorem wX (l:List Bool) (i:Nat):cI ((l.drop (8 * i)).take 8) < 256:=by
 have h:=gw ((l.drop (8 * i)).take 8)
 have h2:2 ^ ((l.drop (8 * i)).take 8).length ≤ 2 ^ 8:=Nat.pow_le_pow_right (by decide) (by rw [List.length_take]; omega)
 omega
theorem jp {a b:List Bool} (h:a.length % 8 = 0):pk (a ++ b) = pk a ++ pk b:=by
 apply List.ext_getElem?
 intro i
 rcases Nat.lt_or_ge i ((a.length + 7) / 8) with q | q
 ·rw [List.getElem?_append_left (by rw [ac]; exact q),im q,im (by rw [List.length_append]; omega)]
  unfold vm
  rw [List.drop_append_of_le_length (by omega),List.take_append_of_le_length (by rw [List.length_drop]; omega)]
 ·rw [List.getElem?_append_right (by rw [ac]; exact q),ac]
  rcases Nat.lt_or_ge (i - (a.length + 7) / 8) ((b.length + 7) / 8) with r | r
  ·rw [im r,im (by rw [List.length_append]; omega)]
   unfold vm
   rw [show 8 * i = a.length + 8 * (i - (a.length + 7) / 8) from by omega,List.drop_append]
   have e:List.drop (a.length + 8 * (i - (a.length + 7) / 8)) a = []:=List.drop_eq_nil_of_le (by omega)
   rw [e,List.nil_append,Nat.add_sub_cancel_left]
  ·rw [List.getElem?_eq_none (by rw [ac,List.length_append]; omega),List.getElem?_eq_none (by rw [ac]; exact r)]
theorem iP {l:List Bool} {n:Nat} (h:8 * n ≤ l.length):pk (l.drop (8 * n)) = (pk l).drop n ∧ pk (l.take (8 * n)) = (pk l).take n:=by
 have e:=jp (a:=l.take (8 * n)) (b:=l.drop (8 * n)) (by rw [List.length_take]; omega)
 rw [List.take_append_drop] at e
 have hl:(pk (l.take (8 * n))).length = n:=by rw [ac,List.length_take]; omega
 constructor
 ·have q:=congrArg (List.drop n) e
  rw [List.drop_append_of_le_length (by omega),show List.drop n (pk (List.take (8 * n) l)) = [] from List.drop_eq_nil_of_le (by omega),List.nil_append] at q
  exact q.symm
 ·have q:=congrArg (List.take n) e
  rw [List.take_append_of_le_length (by omega),show List.take n (pk (List.take (8 * n) l)) = pk (List.take (8 * n) l) from List.take_of_length_le (by omega)] at q
  exact q.symm
theorem D2 {l:List Bool} (h0:0 < l.length) (h:l.length ≤ 8):pk l = [UInt8.ofNat (cI l)]:=by
 rw [wW,show (l.length + 7) / 8 = 1 from by omega]
 show [vm l 0] = _
 unfold vm
 rw [Nat.mul_zero,List.drop_zero,List.take_of_length_le h]
theorem GR {l:List Bool} {b:Bool} (h:l.length % 8 ≠ 0):(pk l).length = l.length / 8 + 1 ∧ pk (l ++ [b]) = (pk l).set (l.length / 8) (UInt8.ofNat (((pk l).getD (l.length / 8) default).toNat + 2 ^ (l.length % 8) * b.toNat)):=by
 refine ⟨by rw [ac]; omega,?_⟩
 have hd:=iP (l:=l) (n:=l.length / 8) (by omega)
 have e:l = l.take (8 * (l.length / 8)) ++ l.drop (8 * (l.length / 8)):=(List.take_append_drop _ _).symm
 generalize hA:l.take (8 * (l.length / 8)) = A at *
 generalize hB:l.drop (8 * (l.length / 8)) = B at *
 have lA:A.length = 8 * (l.length / 8):=by rw [← hA,List.length_take]; omega
 have lB:B.length = l.length % 8:=by rw [← hB,List.length_drop]; omega
 have p1:pk l = pk A ++ pk B:=by conv=>lhs; rw [e]
                   exact jp (by omega)
 have p2:pk (l ++ [b]) = pk A ++ pk (B ++ [b]):=by
  conv=>lhs; rw [e,List.append_assoc]
  exact jp (by omega)
 have l1:(pk A).length = l.length / 8:=by rw [ac]; omega
 have b1:=D2 (l:=B) (by omega) (by omega)
 have b2:=D2 (l:=B ++ [b]) (by rw [List.length_append]; omega) (by rw [List.length_append,List.length_singleton]; omega)
 have hb:cI B < 256:=by
  have h3:=gw B
  have h4:2 ^ B.length ≤ 2 ^ 8:=Nat.pow_le_pow_right (by decide) (by omega)
  omega
 rw [p1,p2,b1,b2,List.set_append_right _ _ (by omega),l1,Nat.sub_self,List.getD_eq_getElem?_getD,List.getElem?_append_right (by omega),l1,Nat.sub_self]
 show _ ++ _ = _ ++ [_]
 have hz:cI [b] = b.toNat:=by simp [cI]
 rw [jo,hz,lB]
 show _ = _ ++ [UInt8.ofNat ((UInt8.ofNat (cI B)).toNat + _)]
 rw [UInt8.toNat_ofNat', show cI B % 2 ^ 8 = cI B from Nat.mod_eq_of_lt hb]
theorem D3 {l:List Bool} {b:Bool} (h:l.length % 8 = 0):(pk l).length = l.length / 8 ∧ pk (l ++ [b]) = pk l ++ [UInt8.ofNat b.toNat]:=by
 refine ⟨by rw [ac]; omega,?_⟩
 rw [jp h,D2 (l:=[b]) (by simp) (by simp)]
 simp [cI]
def nb (v n:Nat):List Bool:=lk [()] ((List.range n).map fun i=>v.testBit i)
theorem qf (v n:Nat):nb v n = (List.range n).map fun i=>v.testBit i:=aF _ _
theorem og (v n:Nat):(nb v n).length = n:=by rw [qf,List.length_map,List.length_range]
theorem tF (v n:Nat):nb v (n + 1) = nb v n ++ [v.testBit n]:=by rw [qf,qf,List.range_succ,List.map_append]; rfl
theorem GS (v:Nat):nb v 0 = []:=qf v 0
theorem qg (v:Nat):∀ n,cI (nb v n) = v % 2 ^ n
 | 0=>by rw [GS]; simp [cI,Nat.mod_one]
 | n + 1=>by
  rw [tF,jo,og,qg v n]
  have e:cI [v.testBit n] = v / 2 ^ n % 2:=by
   rw [Nat.testBit_eq_decide_div_mod_eq]
   have:=Nat.mod_lt (v / 2 ^ n) (show 0 < 2 by decide)
   by_cases h:v / 2 ^ n % 2 = 1
   ·rw [h]; rfl
   ·rw [show v / 2 ^ n % 2 = 0 from by omega]; rfl
  rw [e,Nat.pow_succ,Nat.mod_mul]
def Ff (B:List UInt8) (k:Nat):List Bool:=lk B ((List.range k).map fun i=>(B.getD (i / 8) default).toNat.testBit (i % 8))
theorem wY (B:List UInt8) (k:Nat):Ff B k = (List.range k).map fun i=>(B.getD (i / 8) default).toNat.testBit (i % 8):=aF _ _
theorem ku (B:List UInt8) (k:Nat):(Ff B k).length = k:=by rw [wY,List.length_map,List.length_range]
theorem D4 {B:List UInt8} {k:Nat} (hl:B.length = (k + 7) / 8) (ht:k % 8 ≠ 0 → (B.getD (k / 8) default).toNat < 2 ^ (k % 8)):pk (Ff B k) = B:=by
 apply List.ext_getElem?
 intro i
 rcases Nat.lt_or_ge i ((k + 7) / 8) with q | q
 ·rw [im (by rw [ku]; exact q),List.getElem?_eq_getElem (by omega)]
  congr 1
  unfold vm
  have e:(List.drop (8 * i) (Ff B k)).take 8 = nb (B.getD i default).toNat (min 8 (k - 8 * i)):=by
   apply List.ext_getElem?
   intro j
   rw [List.getElem?_take,List.getElem?_drop,wY,qf,List.getElem?_map,List.getElem?_map]
   by_cases hj:j < min 8 (k - 8 * i)
   ·rw [if_pos (by omega),List.getElem?_range (by omega),List.getElem?_range hj]
    show some ((B.getD ((8 * i + j) / 8) default).toNat.testBit ((8 * i + j) % 8)) = some ((B.getD i default).toNat.testBit j)
    rw [show (8 * i + j) / 8 = i from by omega,show (8 * i + j) % 8 = j from by omega]
   ·rw [List.getElem?_eq_none (l:=List.range (min 8 (k - 8 * i))) (by simpa using hj)]
    split
    ·rw [List.getElem?_eq_none (by simp; omega)]; rfl
    ·rfl
  rw [e,qg]
  have hx:B[i] = B.getD i default:=by rw [List.getD_eq_getElem?_getD,List.getElem?_eq_getElem (by omega)]; rfl
  rw [hx]
  have hb:=(B.getD i default).toNat_lt
  apply UInt8.toNat_inj.1
  rw [UInt8.toNat_ofNat']
  rcases Nat.lt_or_ge (k - 8 * i) 8 with r | r
  ·have hk:i = k / 8:=by omega
   have h1:=ht (by omega)
   rw [← hk] at h1
   rw [show min 8 (k - 8 * i) = k % 8 from by omega,Nat.mod_eq_of_lt h1,Nat.mod_eq_of_lt hb]
  ·rw [show min 8 (k - 8 * i) = 8 from by omega,Nat.mod_eq_of_lt (show (B.getD i default).toNat < 2 ^ 8 from hb),Nat.mod_eq_of_lt hb]
 ·rw [List.getElem?_eq_none (by rw [ac,ku]; exact q),List.getElem?_eq_none (by omega)]
theorem D5 {l:List Bool} {m:Nat} (hm:m = (pk l).length) (h:0 < ((l.length:Nat):Int) % 8):¬ 0 < ((((pk l).getD (((m:Int) - 1).toNat * 1) default).toNat:Nat):Int).fdiv (2 ^ min (((l.length:Nat):Int) % 8).toNat 8):=by
 rw [ac] at hm
 rw [show (((m:Int) - 1).toNat * 1) = l.length / 8 from by omega,show min (((l.length:Nat):Int) % 8).toNat 8 = l.length % 8 from by omega,List.getD_eq_getElem?_getD,im (by omega)]
 show ¬ 0 < (((vm l (l.length / 8)).toNat:Nat):Int).fdiv _
 have hb:=gw ((l.drop (8 * (l.length / 8))).take 8)
 rw [List.length_take,List.length_drop,show min 8 (l.length - 8 * (l.length / 8)) = l.length % 8 from by omega] at hb
 have hc:=wX l (l.length / 8)
 unfold vm
 rw [UInt8.toNat_ofNat', Nat.mod_eq_of_lt hc,show (2:Int) ^ (l.length % 8) = ((2 ^ (l.length % 8):Nat):Int) from by push_cast; rfl,Int.fdiv_eq_ediv_of_nonneg _ (Int.natCast_nonneg _),← Int.natCast_ediv,Nat.div_eq_of_lt hb]
 decide
theorem D6 {B:List UInt8} {k:Nat} (hl:B.length = (k + 7) / 8) (h:k % 8 ≠ 0 → ¬ 0 < (((B.getD (((B.length:Nat):Int) - 1).toNat default).toNat:Nat):Int).fdiv (2 ^ min ((k:Int) % 8).toNat 8)):pk (Ff B k) = B:=by
 refine D4 hl fun q=>?_
 have h:=h q
 rw [show (((B.length:Nat):Int) - 1).toNat = k / 8 from by omega,show min ((k:Int) % 8).toNat 8 = k % 8 from by omega,show (2:Int) ^ (k % 8) = ((2 ^ (k % 8):Nat):Int) from by push_cast; rfl,Int.fdiv_eq_ediv_of_nonneg _ (Int.natCast_nonneg _),← Int.natCast_ediv] at h
 have h0:(B.getD (k / 8) default).toNat / 2 ^ (k % 8) = 0:=by
  generalize (B.getD (k / 8) default).toNat / 2 ^ (k % 8) = Z at h ⊢; omega
 rcases Nat.lt_or_ge (B.getD (k / 8) default).toNat (2 ^ (k % 8)) with r | r
 ·exact r
 ·have:=Nat.div_pos r (Nat.two_pow_pos _); omega
theorem Ca {B:List UInt8} {m:Nat} {k:Int} (hm:m = B.length) (hN:∀ l:List Bool,l.length ≤ 8388608 → ¬ (k = l.length ∧ B = pk l)) (h0:¬ k < 0) (h1:¬ 8388608 < k) (h2:(m:Int) = (k + 7) / 8) (h3:¬ 0 < k % 8 ∨ ¬ 0 < (((B.getD (((m:Int) - 1).toNat * 1) default).toNat:Nat):Int).fdiv (2 ^ min (k % 8).toNat 8)):False:=by
 obtain ⟨j,rfl⟩:=Int.eq_ofNat_of_zero_le (show 0 ≤ k by omega)
 subst hm
 rw [Nat.mul_one] at h3
 refine hN (Ff B j) (by rw [ku]; omega) ⟨by rw [ku],(D6 (by omega) (fun q=>?_)).symm⟩
 rcases h3 with h3 | h3
 ·omega
 ·exact h3
abbrev yw (m:Nat) (l:List Bool):D:=.agg [.sl false m 1 ((pk l).map dB),nD l.length]
theorem zB  : SpecH false Tryz.prog 56 [ar] [] ar []:=by
 refine SpecH.run T_ok ah Tryz.func56 rfl rfl rfl trivial rfl 1000 64 (fun R ok=>(.s 6 (.out [] [] (ar) [] R (ok _ _ wr wr)))) (by kernel_rfl)
theorem wZ (bs:List UInt8) (hn:bs.length ≤ 10000000):SpecH false Tryz.prog 56 [.sl true bs.length 1 (bs.map dB)] [] (.ref 0 0 0 bs.length 1) [⟨bs.map dB, 5, true⟩]:=by
 refine SpecH.run T_ok ah Tryz.func56 rfl rfl rfl ⟨aV _,trivial⟩ rfl 1000 64 (fun R ok=>(.s 9 (.chk (true && Nat.ble ((0 + length bs) * 1) 140737488355328) (by (refine Nat.ble_eq_true_of_le ?_; (omega))) (.s 1 (.out [40] [40] (D.ref 0 0 0 (0 + length bs) 1) [Blk.mk (map dB bs) 5 true] R (ok _ _ (by (simp; done)) wr)))))) (by kernel_rfl)
theorem bP (bs:List UInt8) (n:Nat) (h1:n = bs.length) (hn:n ≤ 10000000):SpecH false Tryz.prog 56 [.sl false n 1 (bs.map dB)] [] (.ref 0 0 0 n 1) [⟨bs.map dB, 5, true⟩]:=by
 subst h1; exact uM.nilSplit zB (wZ bs hn) id
theorem ly (l:List Bool) (m:Nat) (hm:m = (pk l).length) (hl:l.length ≤ 8388608):SpecH false Tryz.prog 43 [yw m l] [] (iD 0) []:=by
 have h9:=ac l
 refine SpecH.run T_ok ah Tryz.func43 rfl rfl rfl trivial rfl 1000 64 (fun R ok=>(.s 26 (.f (decide (8388608 < (↑(length l):Int))) (by (refine decide_eq_false ?_; (omega))) (.s 19 (.ow ((↑(length l):Int) + 7) (.s 3 (.opt (bi IntKind.i64 (IntKind.wrap IntKind.i64 (Int.tdiv ((↑(length l):Int) + 7) 8))) (iD (((↑(length l):Int) + 7) / 8)) (ay (@bd  ((↑(length l):Int) + 7) (8) om om)) (.s 4 (.f ((↑m:Int) != ((↑(length l):Int) + 7) / 8) (by (simp <;> (omega))) (.s 8 (.opt (bi IntKind.i64 (Int.tmod (↑(length l):Int) 8)) (iD ((↑(length l):Int) % 8)) (ay (@bM  ((↑(length l):Int)) (8) om)) (.s 6 (.br (decide (0 < (↑(length l):Int) % 8)) (fun p0=>have p0f:=aS p0; (.s 19 (.ow ((↑m:Int) - 1) (.s 2 (.chk (decide (0 ≤ (↑m:Int) - 1) && decide ((↑m:Int) - 1 < (↑m:Int)) && true) Lj (.s 3 (.opt ((map dB (pk l))[Int.toNat ((↑m:Int) - 1) * 1]?) (dB (getD (pk l) (Int.toNat ((↑m:Int) - 1) * 1) default)) (av _ _ om) (.s 5 (.opt (bi IntKind.u8 (Int.fdiv (↑(UInt8.toNat (getD (pk l) (Int.toNat ((↑m:Int) - 1) * 1) default)):Int) (2 ^ min (Int.toNat ((↑(length l):Int) % 8)) 8))) (bI (Int.fdiv (↑(UInt8.toNat (getD (pk l) (Int.toNat ((↑m:Int) - 1) * 1) default)):Int) (2 ^ min (Int.toNat ((↑(length l):Int) % 8)) 8))) (cU _ _) (.s 4 (.br (decide (0 < Int.fdiv (↑(UInt8.toNat (getD (pk l) (Int.toNat ((↑m:Int) - 1) * 1) default)):Int) (2 ^ min (Int.toNat ((↑(length l):Int) % 8)) 8))) (fun p1=>have p1f:=aS p1; (.abs (by ( exact absurd bt (D5 hm om))))) (fun p1=>have p1f:=aT p1; (.s 1 (.out [] [] (iD 0) [] R (ok _ _ wr wr))))))))))))))) (fun p0=>have p0f:=aT p0; (.s 23 (.out [] [] (iD 0) [] R (ok _ _ wr wr))))))))))))))))) (by kernel_rfl)
theorem D7 (B:List UInt8) (m:Nat) (hm:m = B.length) (hM:m ≤ 100000000) (k:Int) (hN:∀ l:List Bool,l.length ≤ 8388608 → ¬ (k = l.length ∧ B = pk l)):SpecH false Tryz.prog 43 [.agg [.sl false m 1 (B.map dB),iD k]] [] (iD 8) []:=by
 refine SpecH.run T_ok ah Tryz.func43 rfl rfl rfl trivial rfl 1000 64 (fun R ok=>(.s 13 (.br (decide (k < 0)) (fun p0=>have p0f:=aS p0; (.s 25 (.out [] [] (iD 8) [] R (ok _ _ wr wr)))) (fun p0=>have p0f:=aT p0; (.s 12 (.br (decide (8388608 < k)) (fun p1=>have p1f:=aS p1; (.s 17 (.out [] [] (iD 8) [] R (ok _ _ wr wr)))) (fun p1=>have p1f:=aT p1; (.s 19 (.ow (k + 7) (.s 3 (.opt (bi IntKind.i64 (IntKind.wrap IntKind.i64 (Int.tdiv (k + 7) 8))) (iD ((k + 7) / 8)) (ay (@bd  (k + 7) (8) om om)) (.s 4 (.br ((↑m:Int) != (k + 7) / 8) (fun p2=>have p2f:=pZ p2; (.s 1 (.out [] [] (iD 8) [] R (ok _ _ wr wr)))) (fun p2=>have p2f:=qa p2; (.s 8 (.opt (bi IntKind.i64 (Int.tmod k 8)) (iD (k % 8)) (ay (@bM  (k) (8) om)) (.s 6 (.br (decide (0 < k % 8)) (fun p3=>have p3f:=aS p3; (.s 19 (.ow ((↑m:Int) - 1) (.s 2 (.chk (decide (0 ≤ (↑m:Int) - 1) && decide ((↑m:Int) - 1 < (↑m:Int)) && true) Lj (.s 3 (.opt ((map dB B)[Int.toNat ((↑m:Int) - 1) * 1]?) (dB (getD B (Int.toNat ((↑m:Int) - 1) * 1) default)) (av _ _ om) (.s 4 (.chk (decide (0 ≤ k % 8)) (by (refine decide_eq_true ?_; (omega))) (.opt (bi IntKind.u8 (Int.fdiv (↑(UInt8.toNat (getD B (Int.toNat ((↑m:Int) - 1) * 1) default)):Int) (2 ^ min (Int.toNat (k % 8)) 8))) (bI (Int.fdiv (↑(UInt8.toNat (getD B (Int.toNat ((↑m:Int) - 1) * 1) default)):Int) (2 ^ min (Int.toNat (k % 8)) 8))) (cU _ _) (.s 4 (.br (decide (0 < Int.fdiv (↑(UInt8.toNat (getD B (Int.toNat ((↑m:Int) - 1) * 1) default)):Int) (2 ^ min (Int.toNat (k % 8)) 8))) (fun p4=>have p4f:=aS p4; (.s 1 (.out [] [] (iD 8) [] R (ok _ _ wr wr)))) (fun p4=>have p4f:=aT p4; (.abs (by ( exact Ca hm hN om om om (.inr bt))))))))))))))))) (fun p3=>have p3f:=aT p3; (.abs (by ( exact Ca hm hN om om om (.inl om))))))))))))))))))))))) (by kernel_rfl)
theorem w4 {v n:Nat} (hv:v < 2 ^ n) (hn:n ≤ 32):((v:Int) % 18446744073709551616).fdiv (2 ^ min n 64) = 0:=by
 have h2:2 ^ n ≤ 2 ^ 32:=Nat.pow_le_pow_right (by decide) hn
 rw [show min n 64 = n from by omega,show (v:Int) % 18446744073709551616 = v from by omega,show (2:Int) ^ n = ((2 ^ n:Nat):Int) from by push_cast; rfl,Int.fdiv_eq_ediv_of_nonneg _ (Int.natCast_nonneg _),← Int.natCast_ediv,Nat.div_eq_of_lt hv]; rfl
theorem w5 {v n:Nat} (hv:v < 2 ^ n) (hn:n ≤ 32):((v:Int)).fdiv (2 ^ min n 64) = 0:=by
 have h:=w4 hv hn
 have h2:2 ^ n ≤ 2 ^ 32:=Nat.pow_le_pow_right (by decide) hn
 rwa [show (v:Int) % 18446744073709551616 = v from by omega] at h
theorem zC (X:List UInt8) {d:D} {j:Nat} (h:j = X.length):(List.map dB X ++ [d])[0 + j * 1]? = some d:=by
 rw [Nat.zero_add,Nat.mul_one,h,List.getElem?_append_right (by rw [List.length_map]; exact Nat.le_refl _),List.length_map,Nat.sub_self]; rfl
def bz (l:List Bool) (v i:Nat):List Bool:=lk l (l ++ nb v i)
theorem lD (l:List Bool) (v i:Nat):bz l v i = l ++ nb v i:=aF _ _
theorem Cb (l:List Bool) (v:Nat):bz l v 0 = l:=by rw [lD,GS,List.append_nil]
theorem bB (l:List Bool) (v i:Nat):(bz l v i).length = l.length + i:=by rw [lD,List.length_append,og]
theorem Cc (l:List Bool) (v i:Nat):bz l v i ++ [v.testBit i] = bz l v (i + 1):=by rw [lD,lD,tF,List.append_assoc]
theorem vn (l:List Bool) (v i:Nat):(pk (bz l v i)).length = (l.length + i + 7) / 8:=by rw [ac,bB]
theorem Cd {v i:Nat} (hi:i ≤ 32) (hv:v < 4294967296):IntKind.u32.wrap ((BitVec.ofInt 32 ((v:Int).fdiv (2 ^ min i 32)) &&& BitVec.ofInt 32 1).toNat:Int) % 256 = (((v.testBit i).toNat:Nat):Int):=by
 have hd:v / 2 ^ i ≤ v:=Nat.div_le_self _ _
 rw [show min i 32 = i from by omega,show (2:Int) ^ i = ((2 ^ i:Nat):Int) from by push_cast; rfl,Int.fdiv_eq_ediv_of_nonneg _ (Int.natCast_nonneg _),← Int.natCast_ediv,Nat.toNat_testBit]
 generalize v / 2 ^ i = Y at *
 rw [jK 1 2 (by omega) (by decide) (by decide) (by decide)]
 omega
theorem w6 {M:List UInt8} {o a:Nat} (ha:a < 256) (ho:o < M.length):ai (M.map dB) o [D.v (.int .u8 (a:Int))] = (M.set o (UInt8.ofNat a)).map dB:=by
 apply List.ext_getElem?
 intro i
 rw [cq (by simp only [List.length_map,List.length_singleton]; omega),List.getElem?_map,List.getElem?_map,List.getElem?_set]
 simp only [List.length_singleton]
 by_cases hi:o = i
 ·subst hi
  rw [if_pos (by omega),if_pos rfl,if_pos ho,Nat.sub_self]
  show some (D.v (.int .u8 (a:Int))) = some (dB (UInt8.ofNat a))
  unfold dB; rw [UInt8.toNat_ofNat']; congr 3; omega
 ·rw [if_neg (by omega),if_neg hi]
theorem GT {x:List Bool} (h:x.length % 8 ≠ 0):((pk x).getD (x.length / 8) default).toNat < 2 ^ (x.length % 8):=by
 rw [List.getD_eq_getElem?_getD,im (by omega)]
 show (vm x (x.length / 8)).toNat < _
 have hb:=gw ((x.drop (8 * (x.length / 8))).take 8)
 rw [List.length_take,List.length_drop,show min 8 (x.length - 8 * (x.length / 8)) = x.length % 8 from by omega] at hb
 unfold vm
 rw [UInt8.toNat_ofNat', Nat.mod_eq_of_lt (wX x _)]
 exact hb
theorem GU {x:List Bool} {b:Bool} {L z:Int} (hL:L = x.length) (h:¬ L % 8 = 0) (hz:z = ((b.toNat:Nat):Int)):ai ((pk x).map dB) (L / 8).toNat [D.v (.int .u8 (((((pk x).getD (L / 8).toNat default).toNat ||| (2 ^ min (L % 8).toNat 8 * z % 256).toNat:Nat)):Int))] = (pk (x ++ [b])).map dB:=by
 subst hL hz
 have h0:x.length % 8 ≠ 0:=by omega
 have hu:=GR (b:=b) h0
 have hl:=GT h0
 have hb:b.toNat ≤ 1:=Bool.toNat_le b
 rw [show (((x.length:Nat):Int) / 8).toNat = x.length / 8 from by omega,show min (((x.length:Nat):Int) % 8).toNat 8 = x.length % 8 from by omega]
 have hp:2 ^ (x.length % 8) ≤ 2 ^ 7:=Nat.pow_le_pow_right (by decide) (by omega)
 have e:(2 ^ (x.length % 8) * ((b.toNat:Nat):Int) % 256).toNat = 2 ^ (x.length % 8) * b.toNat:=by
  rw [show (2:Int) ^ (x.length % 8) = ((2 ^ (x.length % 8):Nat):Int) from by push_cast; rfl]
  generalize 2 ^ (x.length % 8) = P at *
  cases b
  ·simp
  ·simp; omega
 rw [e,Nat.or_comm,← Nat.two_pow_add_eq_or_of_lt hl,Nat.add_comm,hu.2]
 refine w6 ?_ (by omega)
 have hm:2 ^ (x.length % 8) * b.toNat ≤ 2 ^ (x.length % 8) * 1:=Nat.mul_le_mul_left _ hb
 generalize 2 ^ (x.length % 8) * b.toNat = Q at *
 generalize 2 ^ (x.length % 8) = P at *
 omega
theorem GV {x:List Bool} {b:Bool} {L z:Int} (hL:L = x.length) (h:L % 8 = 0) (hz:z = ((b.toNat:Nat):Int)):ai ((pk x).map dB ++ [D.v (.int .u8 0)]) (L / 8).toNat [D.v (.int .u8 (0 + 2 ^ min (L % 8).toNat 8 * z))] = (pk (x ++ [b])).map dB:=by
 subst hL hz
 have h0:x.length % 8 = 0:=by omega
 have hu:=D3 (b:=b) h0
 have hb:b.toNat ≤ 1:=Bool.toNat_le b
 rw [show (((x.length:Nat):Int) / 8).toNat = x.length / 8 from by omega,show min (((x.length:Nat):Int) % 8).toNat 8 = 0 from by omega,hu.2,List.map_append]
 have e:(pk x).map dB ++ [D.v (.int .u8 0)] = ((pk x) ++ [0]).map dB:=by rw [List.map_append]; rfl
 rw [e,show (0:Int) + 2 ^ 0 * ((b.toNat:Nat):Int) = ((b.toNat:Nat):Int) from by simp,w6 (by omega) (by rw [List.length_append,List.length_singleton]; omega),List.set_append_right _ _ (by omega),hu.1,Nat.sub_self,List.map_append]
 rfl
theorem D8 {k g:Nat} {t:TypeId} {X Y:Nat} {a b:Int} (h1:X = Y) (h2:a = b):(⟨[D.ref k g 0 X 1,D.v (.int .i64 a)],t,false⟩:Blk) = ⟨[D.ref k g 0 Y 1,D.v (.int .i64 b)],t,false⟩:=by rw [h1,h2]
theorem GW (l:List Bool) (m:Nat) (hm:m = (pk l).length) (v n:Nat) (hn:n ≤ 32) (hv:v < 2 ^ n) (hl:l.length + n ≤ 8388608):SpecH false Tryz.prog 74 [yw m l,.v (.int .u32 (v:Int)),nD n] [] (.tup [.agg [.ref 0 0 0 (pk (bz l v n)).length 1,nD (l.length + n)],iD 0]) [⟨(pk (bz l v n)).map dB, 5, true⟩]:=by
 have h9:=ac l
 have h8:=w4 hv hn
 have h4:=w5 hv hn
 have h5:v < 4294967296:=Nat.lt_of_lt_of_le hv (Nat.pow_le_pow_right (n:=2) (by decide) hn)
 refine SpecH.run T_ok ah Tryz.func74 rfl rfl rfl ⟨aV _,trivial⟩ rfl 1000 64 (fun R ok=>(.s 10 (.cl 43 false [] (.fn DU (@ly (l) (m) om om)) (.s 22 (.t (decide ((↑n:Int) ≤ 32)) (by (refine decide_eq_true ?_; (omega))) (.s 2 (.opt (az .u64 (↑v:Int)) (D.v (Value.int .u64 (↑v:Int))) (bl om) (.s 5 (.opt (bi IntKind.u64 (Int.fdiv (↑v:Int) (2 ^ min n 64))) (D.v (Value.int .u64 (Int.fdiv (↑v:Int) (2 ^ min n 64)))) (cU _ _) (.s 6 (.f (!Int.fdiv (↑v:Int) (2 ^ min n 64) == 0) (by (simp <;> (omega))) (.s 9 (.ow ((↑(length l):Int) + (↑n:Int)) (.s 2 (.f (decide (8388608 < (↑(length l):Int) + (↑n:Int))) (by (refine decide_eq_false ?_; (omega))) (.s 17 (.cl 56 false [] (.fn qb (@bP (pk l) (m) om om)) (.s 12 (.blk 296 296 (Blk.mk [D.ref 336 336 0 m 1,nD (length l)] 163 false) (Blk.mk [D.ref 336 336 0 (length (pk (bz l v 0))) 1,nD (length l + 0)] 163 false) (by ( rw [Cb,← hm]; rfl)) (.blk 336 336 (Blk.mk (map dB (pk l)) 5 true) (Blk.mk (map dB (pk (bz l v 0))) 5 true) (by ( rw [Cb]; done)) (Hn.inl T_ok ah false 52 0 (aA Tryz.prog 74 0) (fun (x:(i:Nat) ×' (hi:i ≤ n) ×' Unit)=>match x with | ⟨i,hi,_⟩=>CutS.mk [(1,uD v),(6,D.ptr 0 0 0),(9,D.ptr 8 8 0),(38,nD n),(39,nD i)] [⟨0,0,8,8,.b ⟨[ar,iD 0],26,false⟩⟩,⟨8,8,296,296,.b ⟨[(D.ref 16 16 (0) ((pk (bz l v i)).length) 1),nD (l.length + i)],163,false⟩⟩,⟨16,16,336,336,.b ⟨(pk (bz l v i)).map dB,5,true⟩⟩] 24) (fun (x:(i:Nat) ×' (hi:i ≤ n) ×' Unit)=>match x with | ⟨i,hi,_⟩=>n - i) [⟨Unit,.exit 0,fun x=>match x with | ()=>CutS.mk [(1,uD v),(6,D.ptr 0 0 0),(9,D.ptr 8 8 0),(38,nD n)] [⟨0,0,8,8,.b ⟨[ar,iD 0],26,false⟩⟩,⟨8,8,296,296,.b ⟨[(D.ref 16 16 (0) ((pk (bz l v n)).length) 1),nD (l.length + n)],163,false⟩⟩,⟨16,16,336,336,.b ⟨(pk (bz l v n)).map dB,5,true⟩⟩] 24⟩] 1000 64 (fun | ⟨i,hi,_⟩,Q,next1,last1=>(.s 2 (.br (decide ((↑i:Int) < (↑n:Int))) (fun p0=>have p0f:=aS p0; (.s 7 (.opt (bi IntKind.u32 (Int.fdiv (↑v:Int) (2 ^ min i 32))) (uI (Int.fdiv (↑v:Int) (2 ^ min i 32))) (cU _ _) (.s 15 (.opt (bi IntKind.i64 (Int.tmod (↑(length l + i):Int) 8)) (iD ((↑(length l + i):Int) % 8)) (ay (@bM  ((↑(length l + i):Int)) (8) om)) (.s 2 (.br ((↑(length l + i):Int) % 8 == 0) (fun p1=>have p1f:=eq_of_beq p1; (.s 15 (.chk (true && Nat.beq (length (pk (bz l v i)) * 1) (length (map dB (pk (bz l v i)))) && true && true && true && true && Nat.ble ((length (pk (bz l v i)) + 1) * 1) 140737488355328) Lk (.s 35 (.opt (bi IntKind.i64 (IntKind.wrap IntKind.i64 (Int.tdiv (↑(length l + i):Int) 8))) (iD ((↑(length l + i):Int) / 8)) (ay (@bd  ((↑(length l + i):Int)) (8) om om)) (.s 1 (.chk (true && decide ((↑(length l + i):Int) / 8 < (↑(length (pk (bz l v i)) + 1):Int))) IP (.s 2 (.opt ((map dB (pk (bz l v i)) ++ [bI 0])[0 + Int.toNat ((↑(length l + i):Int) / 8) * 1]?) (bI 0) (@zC (pk (bz l v i)) (bI 0) (Int.toNat ((↑(length l + i):Int) / 8)) (by ( have h7:=vn l v i; have h6:=vn l v (i + 1); omega))) (.s 3 (.opt (bi IntKind.u32 (IntKind.wrap IntKind.u32 (↑(BitVec.toNat (BitVec.ofInt 32 (Int.fdiv (↑v:Int) (2 ^ min i 32)) &&& BitVec.ofInt 32 1)):Int))) (uI (IntKind.wrap IntKind.u32 (↑(BitVec.toNat (BitVec.ofInt 32 (Int.fdiv (↑v:Int) (2 ^ min i 32)) &&& BitVec.ofInt 32 1)):Int))) (cU _ _) (.s 1 (.opt (az .u8 (IntKind.wrap IntKind.u32 (↑(BitVec.toNat (BitVec.ofInt 32 (Int.fdiv (↑v:Int) (2 ^ min i 32)) &&& BitVec.ofInt 32 1)):Int))) (bI (IntKind.wrap IntKind.u32 (↑(BitVec.toNat (BitVec.ofInt 32 (Int.fdiv (↑v:Int) (2 ^ min i 32)) &&& BitVec.ofInt 32 1)):Int) % 256)) (aM _ _) (.s 13 (.opt (bi IntKind.i64 (Int.tmod (↑(length l + i):Int) 8)) (iD ((↑(length l + i):Int) % 8)) (ay (@bM  ((↑(length l + i):Int)) (8) om)) (.s 2 (.opt (az .u8 (2 ^ min (Int.toNat ((↑(length l + i):Int) % 8)) 8 * (IntKind.wrap IntKind.u32 (↑(BitVec.toNat (BitVec.ofInt 32 (Int.fdiv (↑v:Int) (2 ^ min i 32)) &&& BitVec.ofInt 32 1)):Int) % 256))) (bI (2 ^ min (Int.toNat ((↑(length l + i):Int) % 8)) 8 * (IntKind.wrap IntKind.u32 (↑(BitVec.toNat (BitVec.ofInt 32 (Int.fdiv (↑v:Int) (2 ^ min i 32)) &&& BitVec.ofInt 32 1)):Int) % 256))) (pV JY) (.s 2 (.opt (bi IntKind.u8 (IntKind.wrap IntKind.u8 (↑(BitVec.toNat (BitVec.ofInt 8 0 ||| BitVec.ofInt 8 (2 ^ min (Int.toNat ((↑(length l + i):Int) % 8)) 8 * (IntKind.wrap IntKind.u32 (↑(BitVec.toNat (BitVec.ofInt 32 (Int.fdiv (↑v:Int) (2 ^ min i 32)) &&& BitVec.ofInt 32 1)):Int) % 256)))):Int))) (bI (0 + 2 ^ min (Int.toNat ((↑(length l + i):Int) % 8)) 8 * (IntKind.wrap IntKind.u32 (↑(BitVec.toNat (BitVec.ofInt 32 (Int.fdiv (↑v:Int) (2 ^ min i 32)) &&& BitVec.ofInt 32 1)):Int) % 256))) (ay (@pY 8 (256:Int) (0) (2 ^ min (Int.toNat ((↑(length l + i):Int) % 8)) 8 * (IntKind.wrap IntKind.u32 (↑(BitVec.toNat (BitVec.ofInt 32 (Int.fdiv (↑v:Int) (2 ^ min i 32)) &&& BitVec.ofInt 32 1)):Int) % 256)) om JY om om JY)) (.s 1 (.chk (true && decide ((↑(length l + i):Int) / 8 < (↑(length (pk (bz l v i)) + 1):Int))) IP (.s 1 (.chk (true && Nat.ble (0 + Int.toNat ((↑(length l + i):Int) / 8) * 1 + 1) (length (map dB (pk (bz l v i)) ++ [bI 0]))) (by (simp;  have h7:=vn l v i; have h6:=vn l v (i + 1); omega)) (.lst (ai (map dB (pk (bz l v i)) ++ [bI 0]) (0 + Int.toNat ((↑(length l + i):Int) / 8) * 1) [bI (0 + 2 ^ min (Int.toNat ((↑(length l + i):Int) % 8)) 8 * (IntKind.wrap IntKind.u32 (↑(BitVec.toNat (BitVec.ofInt 32 (Int.fdiv (↑v:Int) (2 ^ min i 32)) &&& BitVec.ofInt 32 1)):Int) % 256))]) (ai (map dB (pk (bz l v i)) ++ [bI 0]) (Int.toNat ((↑(length l + i):Int) / 8)) [bI (0 + 2 ^ min (Int.toNat ((↑(length l + i):Int) % 8)) 8 * (IntKind.wrap IntKind.u32 (↑(BitVec.toNat (BitVec.ofInt 32 (Int.fdiv (↑v:Int) (2 ^ min i 32)) &&& BitVec.ofInt 32 1)):Int) % 256))]) (by (simp; done)) (.s 13 (.ow ((↑(length l + i):Int) + 1) (.s 12 (.ow ((↑i:Int) + 1) (.s 1 (.val 39 (iD ((↑i:Int) + 1)) (nD (i + 1)) (by (refine aO ?_; (omega))) (.blk 8 8 (Blk.mk [D.ref 200 200 0 (length (pk (bz l v i)) + 1) 1,iD ((↑(length l + i):Int) + 1)] 163 false) (Blk.mk [D.ref 200 200 0 (length (pk (bz l v (i + 1)))) 1,nD (length l + (i + 1))] 163 false) Ll (.blk 200 200 (Blk.mk (ai (map dB (pk (bz l v i)) ++ [bI 0]) (Int.toNat ((↑(length l + i):Int) / 8)) [bI (0 + 2 ^ min (Int.toNat ((↑(length l + i):Int) % 8)) 8 * (IntKind.wrap IntKind.u32 (↑(BitVec.toNat (BitVec.ofInt 32 (Int.fdiv (↑v:Int) (2 ^ min i 32)) &&& BitVec.ofInt 32 1)):Int) % 256))]) 5 true) (Blk.mk (map dB (pk (bz l v (i + 1)))) 5 true) (by ( refine aC (Eq.trans (GV (by rw [bB]) om (Cd om om)) ?_); rw [Cc])) (Hn.next next1 ⟨(i + 1),om,⟨⟩⟩ (by show n - (i + 1) < n - i; clear next1 last1; omega) [(0,0),(8,8),(200,200)] ro))))))))))))))))))))))))))))))))) (fun p1=>have p1f:=au p1; (.s 25 (.opt (bi IntKind.i64 (IntKind.wrap IntKind.i64 (Int.tdiv (↑(length l + i):Int) 8))) (iD ((↑(length l + i):Int) / 8)) (ay (@bd  ((↑(length l + i):Int)) (8) om om)) (.s 1 (.chk (true && decide ((↑(length l + i):Int) / 8 < (↑(length (pk (bz l v i))):Int))) IP (.s 2 (.opt ((map dB (pk (bz l v i)))[0 + Int.toNat ((↑(length l + i):Int) / 8) * 1]?) (dB (getD (pk (bz l v i)) (0 + Int.toNat ((↑(length l + i):Int) / 8) * 1) default)) (av _ _ (by ( have h7:=vn l v i; have h6:=vn l v (i + 1); omega))) (.s 3 (.opt (bi IntKind.u32 (IntKind.wrap IntKind.u32 (↑(BitVec.toNat (BitVec.ofInt 32 (Int.fdiv (↑v:Int) (2 ^ min i 32)) &&& BitVec.ofInt 32 1)):Int))) (uI (IntKind.wrap IntKind.u32 (↑(BitVec.toNat (BitVec.ofInt 32 (Int.fdiv (↑v:Int) (2 ^ min i 32)) &&& BitVec.ofInt 32 1)):Int))) (cU _ _) (.s 1 (.opt (az .u8 (IntKind.wrap IntKind.u32 (↑(BitVec.toNat (BitVec.ofInt 32 (Int.fdiv (↑v:Int) (2 ^ min i 32)) &&& BitVec.ofInt 32 1)):Int))) (bI (IntKind.wrap IntKind.u32 (↑(BitVec.toNat (BitVec.ofInt 32 (Int.fdiv (↑v:Int) (2 ^ min i 32)) &&& BitVec.ofInt 32 1)):Int) % 256)) (aM _ _) (.s 13 (.opt (bi IntKind.i64 (Int.tmod (↑(length l + i):Int) 8)) (iD ((↑(length l + i):Int) % 8)) (ay (@bM  ((↑(length l + i):Int)) (8) om)) (.s 2 (.opt (az .u8 (2 ^ min (Int.toNat ((↑(length l + i):Int) % 8)) 8 * (IntKind.wrap IntKind.u32 (↑(BitVec.toNat (BitVec.ofInt 32 (Int.fdiv (↑v:Int) (2 ^ min i 32)) &&& BitVec.ofInt 32 1)):Int) % 256))) (bI (2 ^ min (Int.toNat ((↑(length l + i):Int) % 8)) 8 * (IntKind.wrap IntKind.u32 (↑(BitVec.toNat (BitVec.ofInt 32 (Int.fdiv (↑v:Int) (2 ^ min i 32)) &&& BitVec.ofInt 32 1)):Int) % 256) % 256)) (aM _ _) (.s 2 (.opt (bi IntKind.u8 (IntKind.wrap IntKind.u8 (↑(BitVec.toNat (BitVec.ofInt 8 (↑(UInt8.toNat (getD (pk (bz l v i)) (0 + Int.toNat ((↑(length l + i):Int) / 8) * 1) default)):Int) ||| BitVec.ofInt 8 (2 ^ min (Int.toNat ((↑(length l + i):Int) % 8)) 8 * (IntKind.wrap IntKind.u32 (↑(BitVec.toNat (BitVec.ofInt 32 (Int.fdiv (↑v:Int) (2 ^ min i 32)) &&& BitVec.ofInt 32 1)):Int) % 256) % 256))):Int))) (bN (UInt8.toNat (getD (pk (bz l v i)) (0 + Int.toNat ((↑(length l + i):Int) / 8) * 1) default) ||| Int.toNat (2 ^ min (Int.toNat ((↑(length l + i):Int) % 8)) 8 * (IntKind.wrap IntKind.u32 (↑(BitVec.toNat (BitVec.ofInt 32 (Int.fdiv (↑v:Int) (2 ^ min i 32)) &&& BitVec.ofInt 32 1)):Int) % 256) % 256))) (ay (@pX  ((↑(UInt8.toNat (getD (pk (bz l v i)) (0 + Int.toNat ((↑(length l + i):Int) / 8) * 1) default)):Int)) (2 ^ min (Int.toNat ((↑(length l + i):Int) % 8)) 8 * (IntKind.wrap IntKind.u32 (↑(BitVec.toNat (BitVec.ofInt 32 (Int.fdiv (↑v:Int) (2 ^ min i 32)) &&& BitVec.ofInt 32 1)):Int) % 256) % 256) (by (exact fU _ (by decide) (by decide))) om)) (.s 1 (.chk (true && decide ((↑(length l + i):Int) / 8 < (↑(length (pk (bz l v i))):Int))) IP (.s 1 (.chk (true && Nat.ble (0 + Int.toNat ((↑(length l + i):Int) / 8) * 1 + 1) (length (map dB (pk (bz l v i))))) Lk (.lst (ai (map dB (pk (bz l v i))) (0 + Int.toNat ((↑(length l + i):Int) / 8) * 1) [bN (UInt8.toNat (getD (pk (bz l v i)) (0 + Int.toNat ((↑(length l + i):Int) / 8) * 1) default) ||| Int.toNat (2 ^ min (Int.toNat ((↑(length l + i):Int) % 8)) 8 * (IntKind.wrap IntKind.u32 (↑(BitVec.toNat (BitVec.ofInt 32 (Int.fdiv (↑v:Int) (2 ^ min i 32)) &&& BitVec.ofInt 32 1)):Int) % 256) % 256))]) (ai (map dB (pk (bz l v i))) (Int.toNat ((↑(length l + i):Int) / 8)) [bN (UInt8.toNat (getD (pk (bz l v i)) (Int.toNat ((↑(length l + i):Int) / 8)) default) ||| Int.toNat (2 ^ min (Int.toNat ((↑(length l + i):Int) % 8)) 8 * (IntKind.wrap IntKind.u32 (↑(BitVec.toNat (BitVec.ofInt 32 (Int.fdiv (↑v:Int) (2 ^ min i 32)) &&& BitVec.ofInt 32 1)):Int) % 256) % 256))]) (by (simp; done)) (.s 13 (.ow ((↑(length l + i):Int) + 1) (.s 12 (.ow ((↑i:Int) + 1) (.s 1 (.val 39 (iD ((↑i:Int) + 1)) (nD (i + 1)) (by (refine aO ?_; (omega))) (.blk 8 8 (Blk.mk [D.ref 16 16 0 (length (pk (bz l v i))) 1,iD ((↑(length l + i):Int) + 1)] 163 false) (Blk.mk [D.ref 16 16 0 (length (pk (bz l v (i + 1)))) 1,nD (length l + (i + 1))] 163 false) Ll (.blk 16 16 (Blk.mk (ai (map dB (pk (bz l v i))) (Int.toNat ((↑(length l + i):Int) / 8)) [bN (UInt8.toNat (getD (pk (bz l v i)) (Int.toNat ((↑(length l + i):Int) / 8)) default) ||| Int.toNat (2 ^ min (Int.toNat ((↑(length l + i):Int) % 8)) 8 * (IntKind.wrap IntKind.u32 (↑(BitVec.toNat (BitVec.ofInt 32 (Int.fdiv (↑v:Int) (2 ^ min i 32)) &&& BitVec.ofInt 32 1)):Int) % 256) % 256))]) 5 true) (Blk.mk (map dB (pk (bz l v (i + 1)))) 5 true) (by ( refine aC (Eq.trans (GU (by rw [bB]) om (Cd om om)) ?_); rw [Cc])) (Hn.next next1 ⟨(i + 1),om,⟨⟩⟩ (by show n - (i + 1) < n - i; clear next1 last1; omega) [(0,0),(8,8),(16,16)] ro)))))))))))))))))))))))))))))))))))))) (fun p0=>have p0f:=aT p0; (.blk 8 8 (Blk.mk [D.ref 16 16 0 (length (pk (bz l v i))) 1,nD (length l + i)] 163 false) (Blk.mk [D.ref 16 16 0 (length (pk (bz l v n))) 1,nD (length l + n)] 163 false) (by (rw [show i = n from by (omega)])) (.blk 16 16 (Blk.mk (map dB (pk (bz l v i))) 5 true) (Blk.mk (map dB (pk (bz l v n))) 5 true) (by (rw [show i = n from by (omega)])) (Hn.last last1 0 (():Unit) rfl [(0,0),(8,8),(16,16)] ro))))))) (fun | ⟨i,hi,_⟩=>by kernel_rfl) ⟨(0),om,⟨⟩⟩ [(8,8),(296,296),(336,336)] ro (cb (fun | ()=>(.s 16 (.out [16] [16] (D.tup [D.agg [D.ref 0 0 0 (length (pk (bz l v n))) 1,nD (length l + n)],iD 0]) [Blk.mk (map dB (pk (bz l v n))) 5 true] R (ok _ _ wr wr)))))))))))))))))))))))))) (by kernel_rfl)
end Vp
end Go.Proofs.YtefjnofhgkjpmaaGreat
namespace Go.Proofs.YtefjnofhgkjpmaaGreat
open Go.RowKit Go.Bw Go.Vx
open List (length getD map take drop flatMap replicate)
namespace Vp
def eN (v:Nat):Nat → Nat
 | 0=>0
 | i + 1=>2 * eN v i + (v.testBit i).toNat
def vo (v n i:Nat):Nat:=lk [()] (2 ^ (n - i) * eN v i)
theorem oh (v n i:Nat):vo v n i = 2 ^ (n - i) * eN v i:=aF _ _
theorem rZ (v:Nat):∀ n,eN v n < 2 ^ n
 | 0=>Nat.zero_lt_one
 | n + 1=>by
  have h:=rZ v n
  have h2:=Bool.toNat_le (v.testBit n)
  rw [eN,Nat.pow_succ]; omega
theorem w7 {v n i:Nat} (h:i ≤ n):vo v n i < 2 ^ n:=by
 rw [oh]
 have h2:=rZ v i
 have e:2 ^ n = 2 ^ (n - i) * 2 ^ i:=by rw [← Nat.pow_add]; congr 1; omega
 rw [e]
 exact Nat.mul_lt_mul_of_pos_left h2 (Nat.two_pow_pos _)
theorem GX (v n:Nat):vo v n n = eN v n:=by rw [oh,Nat.sub_self,Nat.pow_zero,Nat.one_mul]
theorem JZ {v n i:Nat} {X z:Int} (hi:i < n) (hn:n ≤ 32) (hX:X = ((vo v n i:Nat):Int)) (hz:z = (((v.testBit i).toNat:Nat):Int)):IntKind.u32.wrap ((BitVec.ofInt 32 X ||| BitVec.ofInt 32 (2 ^ min ((n:Int) - 1 - (i:Int)).toNat 32 * z % 4294967296)).toNat:Int) = ((vo v n (i + 1):Nat):Int):=by
 subst hX hz
 have h1:=w7 (v:=v) (n:=n) (i:=i) (by omega)
 have h2:=w7 (v:=v) (n:=n) (i:=i + 1) (by omega)
 have h3:2 ^ n ≤ 2 ^ 32:=Nat.pow_le_pow_right (by decide) hn
 have hb:=Bool.toNat_le (v.testBit i)
 have e1:2 ^ (n - i) = 2 * 2 ^ (n - (i + 1)):=by rw [show n - i = (n - (i + 1)) + 1 from by omega,Nat.pow_succ,Nat.mul_comm]
 have e2:vo v n (i + 1) = 2 ^ (n - i) * eN v i + 2 ^ (n - (i + 1)) * (v.testBit i).toNat:=by
  rw [oh,eN,Nat.mul_add,e1,← Nat.mul_assoc,Nat.mul_comm (2 ^ (n - (i + 1))) 2]
 have e3:2 ^ (n - (i + 1)) * (v.testBit i).toNat < 2 ^ (n - i):=by
  have:2 ^ (n - (i + 1)) * (v.testBit i).toNat ≤ 2 ^ (n - (i + 1)) * 1:=Nat.mul_le_mul_left _ hb
  have h5:=Nat.two_pow_pos (n - (i + 1))
  omega
 have h6:2 ^ (n - (i + 1)) * (v.testBit i).toNat ≤ 4294967295:=by rw [e2] at h2; omega
 rw [show min ((n:Int) - 1 - (i:Int)).toNat 32 = n - (i + 1) from by omega,show (2:Int) ^ (n - (i + 1)) * (((v.testBit i).toNat:Nat):Int) = ((2 ^ (n - (i + 1)) * (v.testBit i).toNat:Nat):Int) from by push_cast; rfl,show ((2 ^ (n - (i + 1)) * (v.testBit i).toNat:Nat):Int) % 4294967296 = ((2 ^ (n - (i + 1)) * (v.testBit i).toNat:Nat):Int) from by omega]
 rw [oh] at h1 ⊢
 rw [e2] at h2 ⊢
 have h4:2 ^ (n - i) * eN v i ≤ 4294967295 ∧ 2 ^ (n - (i + 1)) * (v.testBit i).toNat ≤ 4294967295:=by omega
 rw [u4 (by omega) (by omega),Int.toNat_natCast,Int.toNat_natCast,← Nat.two_pow_add_eq_or_of_lt e3]
theorem D9 {v i:Nat} (hi:i ≤ 32) (hv:v < 4294967296):IntKind.u32.wrap ((BitVec.ofInt 32 ((v:Int).fdiv (2 ^ min i 32)) &&& BitVec.ofInt 32 1).toNat:Int) = (((v.testBit i).toNat:Nat):Int):=by
 have hd:v / 2 ^ i ≤ v:=Nat.div_le_self _ _
 rw [show min i 32 = i from by omega,show (2:Int) ^ i = ((2 ^ i:Nat):Int) from by push_cast; rfl,Int.fdiv_eq_ediv_of_nonneg _ (Int.natCast_nonneg _),← Int.natCast_ediv,Nat.toNat_testBit]
 generalize v / 2 ^ i = Y at *
 rw [jK 1 2 (by omega) (by decide) (by decide) (by decide)]
 omega
theorem bE (v n:Nat) (hn:n ≤ 32) (hv:v < 2 ^ n):SpecH false Tryz.prog 152 [.v (.int .u32 (v:Int)),nD n] [] (.tup [.v (.int .u32 ((eN v n:Nat):Int)),iD 0]) []:=by
 have h8:=w4 hv hn
 have h4:=w5 hv hn
 have h5:v < 4294967296:=Nat.lt_of_lt_of_le hv (Nat.pow_le_pow_right (n:=2) (by decide) hn)
 refine SpecH.run T_ok ah Tryz.func152 rfl rfl rfl trivial rfl 1000 64 (fun R ok=>(.s 19 (.t (decide ((↑n:Int) ≤ 32)) (by (refine decide_eq_true ?_; (omega))) (.s 2 (.opt (az .u64 (↑v:Int)) (D.v (Value.int .u64 (↑v:Int))) (bl om) (.s 5 (.opt (bi IntKind.u64 (Int.fdiv (↑v:Int) (2 ^ min n 64))) (D.v (Value.int .u64 (Int.fdiv (↑v:Int) (2 ^ min n 64)))) (cU _ _) (.s 6 (.f (!Int.fdiv (↑v:Int) (2 ^ min n 64) == 0) (by (simp <;> (omega))) (.s 2 (Hn.inl T_ok ah false 28 0 (aA Tryz.prog 152 0) (fun (x:(i:Nat) ×' (hi:i ≤ n) ×' Unit)=>match x with | ⟨i,hi,_⟩=>CutS.mk [(0,uD v),(1,nD n),(4,.v (.int .u32 ((vo v n i:Nat):Int))),(11,nD n),(12,nD i)] [] 0) (fun (x:(i:Nat) ×' (hi:i ≤ n) ×' Unit)=>match x with | ⟨i,hi,_⟩=>n - i) [⟨Unit,.exit 0,fun x=>match x with | ()=>CutS.mk [(0,uD v),(1,nD n),(4,.v (.int .u32 ((eN v n:Nat):Int))),(11,nD n)] [] 0⟩] 1000 64 (fun | ⟨i,hi,_⟩,Q,next1,last1=>(.s 2 (.br (decide ((↑i:Int) < (↑n:Int))) (fun p0=>have p0f:=aS p0; (.s 7 (.opt (bi IntKind.u32 (Int.fdiv (↑v:Int) (2 ^ min i 32))) (uI (Int.fdiv (↑v:Int) (2 ^ min i 32))) (cU _ _) (.s 2 (.opt (bi IntKind.u32 (IntKind.wrap IntKind.u32 (↑(BitVec.toNat (BitVec.ofInt 32 (Int.fdiv (↑v:Int) (2 ^ min i 32)) &&& BitVec.ofInt 32 1)):Int))) (uI (IntKind.wrap IntKind.u32 (↑(BitVec.toNat (BitVec.ofInt 32 (Int.fdiv (↑v:Int) (2 ^ min i 32)) &&& BitVec.ofInt 32 1)):Int))) (cU _ _) (.s 3 (.ow ((↑n:Int) - 1) (.s 3 (.ow ((↑n:Int) - 1 - (↑i:Int)) (.s 1 (.chk (decide (0 ≤ (↑n:Int) - 1 - (↑i:Int))) (by (refine decide_eq_true ?_; (omega))) (.opt (az .u32 (2 ^ min (Int.toNat ((↑n:Int) - 1 - (↑i:Int))) 32 * IntKind.wrap IntKind.u32 (↑(BitVec.toNat (BitVec.ofInt 32 (Int.fdiv (↑v:Int) (2 ^ min i 32)) &&& BitVec.ofInt 32 1)):Int))) (uI (2 ^ min (Int.toNat ((↑n:Int) - 1 - (↑i:Int))) 32 * IntKind.wrap IntKind.u32 (↑(BitVec.toNat (BitVec.ofInt 32 (Int.fdiv (↑v:Int) (2 ^ min i 32)) &&& BitVec.ofInt 32 1)):Int) % 4294967296)) (aM _ _) (.s 2 (.opt (bi IntKind.u32 (IntKind.wrap IntKind.u32 (↑(BitVec.toNat (BitVec.ofInt 32 (↑(vo v n i):Int) ||| BitVec.ofInt 32 (2 ^ min (Int.toNat ((↑n:Int) - 1 - (↑i:Int))) 32 * IntKind.wrap IntKind.u32 (↑(BitVec.toNat (BitVec.ofInt 32 (Int.fdiv (↑v:Int) (2 ^ min i 32)) &&& BitVec.ofInt 32 1)):Int) % 4294967296))):Int))) (uI (IntKind.wrap IntKind.u32 (↑(BitVec.toNat (BitVec.ofInt 32 (↑(vo v n i):Int) ||| BitVec.ofInt 32 (2 ^ min (Int.toNat ((↑n:Int) - 1 - (↑i:Int))) 32 * IntKind.wrap IntKind.u32 (↑(BitVec.toNat (BitVec.ofInt 32 (Int.fdiv (↑v:Int) (2 ^ min i 32)) &&& BitVec.ofInt 32 1)):Int) % 4294967296))):Int))) (cU _ _) (.s 3 (.ow ((↑i:Int) + 1) (.s 1 (.val 4 (uI (IntKind.wrap IntKind.u32 (↑(BitVec.toNat (BitVec.ofInt 32 (↑(vo v n i):Int) ||| BitVec.ofInt 32 (2 ^ min (Int.toNat ((↑n:Int) - 1 - (↑i:Int))) 32 * IntKind.wrap IntKind.u32 (↑(BitVec.toNat (BitVec.ofInt 32 (Int.fdiv (↑v:Int) (2 ^ min i 32)) &&& BitVec.ofInt 32 1)):Int) % 4294967296))):Int))) (uD (vo v n (i + 1))) (by ( exact aO (JZ om hn rfl (D9 om om)))) (.val 12 (iD ((↑i:Int) + 1)) (nD (i + 1)) (by (refine aO ?_; (omega))) (Hn.next next1 ⟨(i + 1),om,⟨⟩⟩ (by show n - (i + 1) < n - i; clear next1 last1; omega) [] ro)))))))))))))))))))) (fun p0=>have p0f:=aT p0; (.val 4 (uD (vo v n i)) (uD (eN v n)) (by (rw [show i = n from by (omega),GX])) (Hn.last last1 0 (():Unit) rfl [] ro)))))) (fun | ⟨i,hi,_⟩=>by kernel_rfl) ⟨(0),om,⟨⟩⟩ [] ro (cb (fun | ()=>(.s 3 (.out [] [] (D.tup [uD (eN v n),iD 0]) [] R (ok _ _ wr wr)))))))))))))))) (by kernel_rfl)
end Vp
end Go.Proofs.YtefjnofhgkjpmaaGreat
namespace Go.Proofs.YtefjnofhgkjpmaaGreat
open Go.RowKit Go.Bw Go.Vx
namespace Vp
def cT (x:Nat):D:=.v (.int .u32 ((x:Nat):Int))
def dt (x:Nat):Nat → Nat
 | 0=>x
 | i + 1=>dt x i / 2
theorem qh (x:Nat):∀ i,dt x i = x / 2 ^ i
 | 0=>(Nat.div_one x).symm
 | i + 1=>by rw [dt,qh x i,Nat.div_div_eq_div_mul,Nat.pow_succ]
end Vp
end Go.Proofs.YtefjnofhgkjpmaaGreat
namespace Go.Proofs.YtefjnofhgkjpmaaGreat
open Go.RowKit Go.Bw Go.Vx
namespace Vp
theorem dY {v:Nat} (h:v ≤ 15):dt 32768 v = 2 ^ (15 - v):=by
 rw [qh,show (32768:Nat) = 2 ^ 15 from rfl,Nat.pow_div h (by decide)]
end Vp
end Go.Proofs.YtefjnofhgkjpmaaGreat
namespace Go.Proofs.YtefjnofhgkjpmaaGreat
open Go.RowKit Go.Bw Go.Vx
namespace Vp
def u9 (l:List UInt8):Nat → Nat
 | 0=>0
 | n + 1=>u9 l n + (if n = 0 then 0 else (ej l n l.length).length * dt 32768 n)
def Lm (l:List UInt8) (n k:Nat):Nat:=lk l (u9 l n + (if n = 0 then 0 else (ej l n k).length * dt 32768 n))
theorem Ea (l:List UInt8) (n k:Nat):Lm l n k = u9 l n + (if n = 0 then 0 else (ej l n k).length * dt 32768 n):=aF _ _
def qi (l:List UInt8) (j:Nat):Nat:=Lm l (l.getD j default).toNat j / dt 32768 (l.getD j default).toNat
def J0 (l:List UInt8) (n k j:Nat):Nat × Nat :=
 if (l.getD j default).toNat ≠ 0 ∧ ((l.getD j default).toNat < n ∨ (l.getD j default).toNat = n ∧ j < k) then (qi l j,(l.getD j default).toNat) else (0,0)
def md (l:List UInt8) (n k:Nat):List (Nat × Nat):=lk l ((List.range l.length).map (J0 l n k))
theorem Ce (l:List UInt8) (n k:Nat):md l n k = (List.range l.length).map (J0 l n k):=aF _ _
def af (l:List UInt8):List (Nat × Nat):=lk l (md l 16 0)
theorem w8 (l:List UInt8):af l = md l 16 0:=aF _ _
def jM (c:Nat × Nat):List D:=[cT c.1,bN c.2]
theorem Eb (l:List UInt8) (n k:Nat):(md l n k).length = l.length:=by rw [Ce,List.length_map,List.length_range]
theorem kv (f:Nat × Nat → List D) (hf:∀ c,(f c).length = 2):∀ (xs:List (Nat × Nat)) (k:Nat),(xs.flatMap f)[2 * k]? = (xs[k]?).bind (fun c=>(f c)[0]?) ∧ (xs.flatMap f)[2 * k + 1]? = (xs[k]?).bind (fun c=>(f c)[1]?)
 | [],k=>by simp
 | c :: r,0=>by
  rw [List.flatMap_cons]
  exact ⟨by rw [List.getElem?_append_left (by rw [hf]; omega)]; rfl,by rw [List.getElem?_append_left (by rw [hf]; omega)]; rfl⟩
 | c :: r,k + 1=>by
  have ih:=kv f hf r k
  rw [List.flatMap_cons]
  refine ⟨?_,?_⟩
  ·rw [List.getElem?_append_right (by rw [hf]; omega),hf,show 2 * (k + 1) - 2 = 2 * k from by omega,ih.1]; rfl
  ·rw [List.getElem?_append_right (by rw [hf]; omega),hf,show 2 * (k + 1) + 1 - 2 = 2 * k + 1 from by omega,ih.2]; rfl
theorem zD {xs:List (Nat × Nat)} {k o:Nat} {c:Nat × Nat} (hk:k < xs.length) (ho:o = 2 * k):ai (xs.flatMap jM) o (jM c) = (xs.set k c).flatMap jM:=by
 have hl:∀ ys:List (Nat × Nat),(ys.flatMap jM).length = 2 * ys.length:=fun ys=>by rw [bm (k:=2) (fun _=>rfl)]; omega
 subst ho
 apply List.ext_getElem?
 intro i
 rw [cq (by rw [hl]; show 2 * k + 2 ≤ _; omega)]
 have hd:∃ j,i = 2 * j ∨ i = 2 * j + 1:=⟨i / 2,by omega⟩
 obtain ⟨j,hj⟩:=hd
 have g1:=kv jM (fun _=>rfl) xs j
 have g2:=kv jM (fun _=>rfl) (xs.set k c) j
 show (if 2 * k ≤ i ∧ i < 2 * k + 2 then (jM c)[i - 2 * k]? else (xs.flatMap jM)[i]?) = _
 by_cases e:k = j
 ·subst e
  rw [List.getElem?_set,if_pos rfl,if_pos hk] at g2
  rcases hj with rfl | rfl
  ·rw [if_pos (by omega),g2.1,Nat.sub_self]; rfl
  ·rw [if_pos (by omega),g2.2,Nat.add_sub_cancel_left]; rfl
 ·rw [List.getElem?_set,if_neg e] at g2
  rw [if_neg (by omega)]
  rcases hj with rfl | rfl
  ·rw [g1.1,g2.1]
  ·rw [g1.2,g2.2]
theorem Ec (n:Nat):cD [D.v (.int .u32 0),D.v (.int .u8 0)] (n * 2) = (List.replicate n ((0,0):Nat × Nat)).flatMap jM:=by
 apply List.ext_getElem?
 intro i
 unfold cD
 rw [List.getElem?_map]
 obtain ⟨j,hj⟩:∃ j,i = 2 * j ∨ i = 2 * j + 1:=⟨i / 2,by omega⟩
 have g:=kv jM (fun _=>rfl) (List.replicate n ((0,0):Nat × Nat)) j
 rw [List.getElem?_replicate] at g
 by_cases h:j < n
 ·rw [if_pos h] at g
  rcases hj with rfl | rfl
  ·rw [List.getElem?_range (by omega),g.1]
   show some (List.getD _ (2 * j % 2) default) = _
   rw [show 2 * j % 2 = 0 from by omega]; rfl
  ·rw [List.getElem?_range (by omega),g.2]
   show some (List.getD _ ((2 * j + 1) % 2) default) = _
   rw [show (2 * j + 1) % 2 = 1 from by omega]; rfl
 ·rw [if_neg h] at g
  rcases hj with rfl | rfl
  ·rw [List.getElem?_eq_none (by rw [List.length_range]; omega),g.1]; rfl
  ·rw [List.getElem?_eq_none (by rw [List.length_range]; omega),g.2]; rfl
theorem qj {a:Nat} (h:a ≤ 15):1 ≤ dt 32768 a:=by rw [dY h]; exact Nat.two_pow_pos _
end Vp
end Go.Proofs.YtefjnofhgkjpmaaGreat
namespace Go.Proofs.YtefjnofhgkjpmaaGreat
open Go.RowKit Go.Bw Go.Vx
open List (length getD map take drop flatMap replicate)
namespace Vp
theorem Ed {p:Prop} (h:p:=by ((refine aH ?_ ?_) <;> (repeat' (first | (refine aH ?_ ?_) | (with_reducible rfl) | (refine decide_eq_true ?_) | (refine Nat.ble_eq_true_of_le ?_) | (refine et ?_))) <;> (omega))):p:=h
theorem GY (l:List UInt8):aK l 0 = 0:=by rw [lu]; rfl
theorem oi {l:List UInt8} {m:Nat} (hm:m ≤ 15) (h:cM l m = 0):cM l 15 = 0 ∧ dr l 15 = false:=by
 have h0:=eY h
 have e3:dr l 15 = false:=kt fun i z=>by have:=eM h0.2.1 z; omega
 refine ⟨?_,e3⟩
 rw [iN] at *
 unfold rW at *
 rw [e3,if_neg (by omega),if_neg (by decide)]
 rw [if_neg (by omega),if_neg (by rw [h0.2.1]; decide)] at h
 exact h
theorem r6 (l:List UInt8) (q p:Nat) (hq:q = (db l).length) (hp:p = (db l).length) (hQ:q ≤ 320):SpecH false Tryz.prog 195 [B5 q l,B5 p l] [] (bD true) []:=by
 refine SpecH.run T_ok ah Tryz.func195 rfl rfl rfl trivial rfl 1000 64 (fun R ok=>(.s 23 (.t ((↑(aK l 0):Int) == (↑(aK l 0):Int) && ((↑(aK l 1):Int) == (↑(aK l 1):Int) && ((↑(aK l 2):Int) == (↑(aK l 2):Int) && ((↑(aK l 3):Int) == (↑(aK l 3):Int) && ((↑(aK l 4):Int) == (↑(aK l 4):Int) && ((↑(aK l 5):Int) == (↑(aK l 5):Int) && ((↑(aK l 6):Int) == (↑(aK l 6):Int) && ((↑(aK l 7):Int) == (↑(aK l 7):Int) && ((↑(aK l 8):Int) == (↑(aK l 8):Int) && ((↑(aK l 9):Int) == (↑(aK l 9):Int) && ((↑(aK l 10):Int) == (↑(aK l 10):Int) && ((↑(aK l 11):Int) == (↑(aK l 11):Int) && ((↑(aK l 12):Int) == (↑(aK l 12):Int) && ((↑(aK l 13):Int) == (↑(aK l 13):Int) && ((↑(aK l 14):Int) == (↑(aK l 14):Int) && ((↑(aK l 15):Int) == (↑(aK l 15):Int) && true)))))))))))))))) Ed (.s 24 (.f ((↑q:Int) != (↑p:Int)) (by (simp <;> (omega))) (.s 3 (Hn.inl T_ok ah false 26 112 (aA Tryz.prog 199 0) (fun (x:(i:Nat) ×' (hi:i ≤ q) ×' Unit)=>match x with | ⟨i,hi,_⟩=>CutS.mk [(0,D.sl false q 1 (map nD (db l))),(1,D.sl false p 1 (map nD (db l))),(12,nD q),(13,nD i)] [⟨0,0,0,0,.b ⟨[nD (aK l 0),nD (aK l 1),nD (aK l 2),nD (aK l 3),nD (aK l 4),nD (aK l 5),nD (aK l 6),nD (aK l 7),nD (aK l 8),nD (aK l 9),nD (aK l 10),nD (aK l 11),nD (aK l 12),nD (aK l 13),nD (aK l 14),nD (aK l 15),D.sl false q 1 (map nD (db l))],154,false⟩⟩,⟨8,8,8,8,.b ⟨[nD (aK l 0),nD (aK l 1),nD (aK l 2),nD (aK l 3),nD (aK l 4),nD (aK l 5),nD (aK l 6),nD (aK l 7),nD (aK l 8),nD (aK l 9),nD (aK l 10),nD (aK l 11),nD (aK l 12),nD (aK l 13),nD (aK l 14),nD (aK l 15),D.sl false p 1 (map nD (db l))],154,false⟩⟩] 128) (fun (x:(i:Nat) ×' (hi:i ≤ q) ×' Unit)=>match x with | ⟨i,hi,_⟩=>q - i) [⟨Unit,.exit 0,fun x=>match x with | ()=>CutS.mk [(0,D.sl false q 1 (map nD (db l))),(1,D.sl false p 1 (map nD (db l))),(12,nD q)] [⟨0,0,0,0,.b ⟨[nD (aK l 0),nD (aK l 1),nD (aK l 2),nD (aK l 3),nD (aK l 4),nD (aK l 5),nD (aK l 6),nD (aK l 7),nD (aK l 8),nD (aK l 9),nD (aK l 10),nD (aK l 11),nD (aK l 12),nD (aK l 13),nD (aK l 14),nD (aK l 15),D.sl false q 1 (map nD (db l))],154,false⟩⟩,⟨8,8,8,8,.b ⟨[nD (aK l 0),nD (aK l 1),nD (aK l 2),nD (aK l 3),nD (aK l 4),nD (aK l 5),nD (aK l 6),nD (aK l 7),nD (aK l 8),nD (aK l 9),nD (aK l 10),nD (aK l 11),nD (aK l 12),nD (aK l 13),nD (aK l 14),nD (aK l 15),D.sl false p 1 (map nD (db l))],154,false⟩⟩] 128⟩] 1000 64 (fun | ⟨i,hi,_⟩,Q,next1,last1=>(.s 2 (.br (decide ((↑i:Int) < (↑q:Int))) (fun p0=>have p0f:=aS p0; (.s 6 (.chk (true && decide ((↑i:Int) < (↑q:Int)) && true) Ed (.s 2 (.opt ((map nD (db l))[i * 1]?) (nD (getD (db l) (i * 1) default)) (av _ _ om) (.s 3 (.chk (true && decide ((↑i:Int) < (↑p:Int)) && true) Ed (.s 2 (.opt ((map nD (db l))[i * 1]?) (nD (getD (db l) (i * 1) default)) (av _ _ om) (.s 2 (.f ((↑(getD (db l) (i * 1) default):Int) != (↑(getD (db l) (i * 1) default):Int)) (by (simp; done)) (.s 2 (.ow ((↑i:Int) + 1) (.s 1 (.val 13 (iD ((↑i:Int) + 1)) (nD (i + 1)) (by (refine aO ?_; (omega))) (Hn.next next1 ⟨(i + 1),om,⟨⟩⟩ (by show q - (i + 1) < q - i; clear next1 last1; omega) [(0,0),(8,8)] ro)))))))))))))))) (fun p0=>have p0f:=aT p0; (Hn.last last1 0 (():Unit) rfl [(0,0),(8,8)] ro))))) (fun | ⟨i,hi,_⟩=>by kernel_rfl) ⟨(0),om,⟨⟩⟩ [(0,0),(8,8)] ro (cb (fun | ()=>(.s 3 (.out [] [] (D.v (.bool true)) [] R (ok _ _ wr wr)))))))))))) (by kernel_rfl)
def Ln (b l:List UInt8):Nat → Nat → Nat → Nat → Nat × Nat × Nat
 | 0,_,_,_=>(0,0,50)
 | k + 1,a,d,p=>if (qc l a).length + aK l a = (db l).length then (0,0,50) else if LE b p 1 ≠ 0 then (0,0,10) else
  if 2 * (d - aK l a) + JJ b p 1 < aK l (a + 1) then ((db l).getD ((qc l a).length + aK l a + (2 * (d - aK l a) + JJ b p 1)) default,p + 1,0)
  else Ln b l k (a + 1) (2 * (d - aK l a) + JJ b p 1) (p + 1)
end Vp
end Go.Proofs.YtefjnofhgkjpmaaGreat
namespace Go.Proofs.YtefjnofhgkjpmaaGreat
open Go.RowKit Go.Bw Go.Vx
namespace Vp
theorem lE (l:List UInt8) (n:Nat):∀ (k j:Nat),∃ r,ej l n (k + j) = ej l n k ++ r
 | k,0=>⟨[],by simp⟩
 | k,j + 1=>by
  obtain ⟨r,hr⟩:=lE l n k j
  exact ⟨r ++ (if (l.getD (k + j) default).toNat = n then [k + j] else []),by rw [← Nat.add_assoc,gU,hr,List.append_assoc]⟩
def jT (l:List UInt8):Nat → Nat
 | 0=>0
 | a + 1=>2 * (jT l a + aK l a)
theorem zE {l:List UInt8} {a:Nat} (h:a ≠ 0):(ej l a l.length).length = aK l a:=by rw [lu]; unfold wQ; rw [if_neg h]
theorem qk {a:Nat} (h:a < 15):dt 32768 a = 2 * dt 32768 (a + 1):=by
 rw [dY (by omega),dY (by omega),show 15 - a = (15 - (a + 1)) + 1 from by omega,Nat.pow_succ,Nat.mul_comm]
theorem r7 (l:List UInt8):∀ a,a ≤ 15 → u9 l (a + 1) = (jT l a + aK l a) * dt 32768 a
 | 0,_=>by rw [u9,if_pos rfl,GY]; show 0 + 0 = (0 + 0) * _; omega
 | a + 1,h=>by
  have ih:=r7 l a (by omega)
  rw [u9,if_neg (Nat.succ_ne_zero a),ih,zE (Nat.succ_ne_zero a),jT,qk (by omega)]
  generalize dt 32768 (a + 1) = P
  generalize jT l a + aK l a = X
  rw [Nat.add_mul (2 * X),Nat.mul_assoc 2 X P,Nat.mul_left_comm X 2 P]
theorem Ee {l:List UInt8} {a:Nat} (h0:a ≠ 0) (h:a ≤ 15):u9 l a = jT l a * dt 32768 a:=by
 obtain ⟨b,rfl⟩:∃ b,a = b + 1:=⟨a - 1,by omega⟩
 rw [r7 l b (by omega),jT,qk (by omega)]
 rw [Nat.mul_comm 2 (jT l b + aK l b),Nat.mul_assoc]
theorem ql (l:List UInt8) (a:Nat):∀ k,u9 l a ≤ u9 l (a + k)
 | 0=>Nat.le_refl _
 | k + 1=>Nat.le_trans (ql l a k) (by rw [← Nat.add_assoc,u9]; exact Nat.le_add_right _ _)
theorem Cf {l:List UInt8} {i a:Nat} (h:(l.getD i default).toNat = a) (h0:a ≠ 0) (h1:a ≤ 15):qi l i = jT l a + (ej l a i).length:=by
 unfold qi
 rw [h,Ea,if_neg h0,Ee h0 h1,← Nat.add_mul,Nat.mul_div_cancel _ (qj h1)]
def vp (l:List UInt8) (k:Nat):Nat → Nat
 | 0=>0
 | a + 1=>vp l k a + (if a = 0 then 0 else (ej l a k).length * dt 32768 a)
theorem w9 (l:List UInt8):∀ a,vp l l.length a = u9 l a
 | 0=>rfl
 | a + 1=>by rw [vp,u9,w9 l a]
theorem qm (l:List UInt8):∀ a,vp l 0 a = 0
 | 0=>rfl
 | a + 1=>by
  have:ej l a 0 = []:=rfl
  rw [vp,qm l a,this,List.length_nil,Nat.zero_mul]; split <;> rfl
theorem qn (l:List UInt8) (k:Nat):∀ a,vp l (k + 1) a = vp l k a + (if (l.getD k default).toNat ≠ 0 ∧ (l.getD k default).toNat < a then dt 32768 (l.getD k default).toNat else 0)
 | 0=>by rw [vp,vp,if_neg (fun q=>Nat.not_lt_zero _ q.2)]
 | a + 1=>by
  rw [vp,vp,qn l k a,gU]
  generalize (l.getD k default).toNat = x
  by_cases h0:a = 0
  ·rw [if_pos h0,if_pos h0,if_neg (fun q=>by omega),if_neg (fun q=>by omega)]
  ·rw [if_neg h0,if_neg h0]
   by_cases h:x = a
   ·subst h
    rw [if_pos rfl,if_neg (fun q=>by omega),if_pos ⟨h0,by omega⟩,List.length_append,List.length_singleton,Nat.succ_mul]; omega
   ·rw [if_neg h,List.append_nil]
    by_cases h2:x ≠ 0 ∧ x < a
    ·rw [if_pos h2,if_pos (by omega)]; omega
    ·rw [if_neg h2,if_neg (by omega)]; omega
theorem GZ (l:List UInt8) (ho:dr l 15 = false):u9 l 16 = aW l:=by
 have key:∀ k,k ≤ l.length → vp l k 16 = aW (l.take k):=by
  intro k
  induction k with
  | zero=>intro _; exact qm l 16
  | succ k ih =>
   intro hk
   have hx:=eM ho (i:=k) (by omega)
   rw [qn,ih (by omega),fV (by omega)]
   by_cases q:(l.getD k default).toNat = 0
   ·rw [if_neg (fun z=>z.1 q),if_pos q]
   ·rw [if_pos ⟨q,by omega⟩,if_neg q,dY hx]
 have h:=key l.length (Nat.le_refl _)
 rw [List.take_length,w9] at h; exact h
def LF (b l:List UInt8) (n d c:Nat):Nat × Nat × Nat:=lk b (if d < aK l n then ((db l).getD ((qc l n).length + d) default,c,0) else Ln b l (16 - n) n d c)
section
variable {b l:List UInt8} {n d c v:Nat} {R:Nat × Nat × Nat}
end

section
variable {b l:List UInt8} {n a d c v:Nat} {R:Nat × Nat × Nat} (hT:cM l 15 = 0) (hn:n = l.length) (ha:a ≤ 15) (hv:v = jT l a + d) (hb:v < 2 ^ a) (hno:∀ j,j < n → ¬ ((l.getD j default).toNat = a ∧ qi l j = v ∧ 0 < a)) (hR:LF b l a d c = R)
include hT hn ha hv hb hno hR
end
end Vp
end Go.Proofs.YtefjnofhgkjpmaaGreat

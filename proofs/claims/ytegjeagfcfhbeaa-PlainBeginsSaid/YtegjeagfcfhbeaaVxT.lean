/- VxT: a table of types is right; words for showing what must be shown. No program. -/
import Derived.Test.YtegjeagfcfhbeaaVxS
namespace Go.Vx
set_option linter.unusedVariables false
set_option linter.unusedSimpArgs false
open Go.RowKit Go.Bw
def TIok (P : Program) (p : Nat × TI) : Prop := P.underlying p.1 = some p.2.desc ∧ (P.info? p.1).map (fun i => (i.zero, i.size, i.bytes)) = some (some p.2.zero, p.2.size, p.2.bytes) ∧ p.2.zero.cells.size = p.2.size ∧ (p.2.plain = true → P.stoodInHeld p.1 = false ∧ P.eqGuardType P.depth p.1 = false ∧ ∀ fs, p.2.desc = .struct fs → fs.toList.all (fun f => f.name != "_") = true)
theorem tiok {P : Program} {t : Nat} {d : TypeDesc} {z : Value} {sz b : Nat} (h1 : P.underlying t = some d) (h2 : (P.info? t).map (fun i => (i.zero, i.size, i.bytes)) = some (some z, sz, b)) (h3 : z.cells.size = sz) : TIok P (t, ⟨d, z, sz, b, false⟩) := ⟨h1, h2, h3, fun h => by cases h⟩
theorem tiokP {P : Program} {t : Nat} {d : TypeDesc} {z : Value} {sz b : Nat} (h1 : P.underlying t = some d) (h2 : (P.info? t).map (fun i => (i.zero, i.size, i.bytes)) = some (some z, sz, b)) (h3 : z.cells.size = sz) (h4 : P.stoodInHeld t = false) (h5 : P.eqGuardType P.depth t = false) (h6 : (match d with | .struct fs => fs.toList.all (fun f => f.name != "_") | _ => true) = true) : TIok P (t, ⟨d, z, sz, b, true⟩) := ⟨h1, h2, h3, fun _ => ⟨h4, h5, fun fs e => by subst e; exact h6⟩⟩
def allTI (P : Program) : List (Nat × TI) → Prop
  | [] => True
  | p :: r => TIok P p ∧ allTI P r
theorem allTI_mem {P : Program} : ∀ {l : List (Nat × TI)}, allTI P l → ∀ p ∈ l, TIok P p
  | [], _, p, h => by cases h
  | q :: r, h, p, hp => by
    rcases List.mem_cons.1 hp with rfl | hp
    · exact h.1
    · exact allTI_mem h.2 p hp
theorem TT.ok_ofL {P : Program} {l : List (Nat × TI)} {T : TT} (h : allTI P l) (e : T = Tr.ofL l) : TT.ok P T := by
  intro t i hi
  subst e
  obtain ⟨h1, h2, h3, h4⟩ := allTI_mem h _ (Tr.of_ofL hi)
  obtain ⟨j, j1, j2, j3, j4⟩ := info_parts h2
  exact ⟨h1, h3, ⟨j, j1, j2, j3, j4⟩, h4⟩
theorem FnOk.of {P : Program} {f : FuncId} {fn : Func} (hf : P.funcs[f]? = some fn) (h1 : fn.body.isNone = false) (h2 : (fn.name == "runtime.NumGoroutine") = false) : FnOk P f := ⟨fn, hf, h1, h2⟩
theorem D.sim.of_eq {d d' : D} (h : d = d') : d.sim d' := h ▸ .refl d
theorem simL.of_eq {l l' : List D} (h : l = l') : simL l l' := h ▸ simL.refl l
/-- Less is said of nil. -/
theorem D.sim.slw {nn : Bool} {n n' sz : Nat} {cells cells' : List D} (h1 : n = n') (h2 : cells = cells') : (D.sl nn n sz cells).sim (.sl false n' sz cells') := by
  subst h1 h2
  intro E w u h
  cases h with
  | sl _ _ _ _ a c us hlen hd h1 hn hs hc h0 hr => exact .sl _ _ _ _ a c us hlen hd h1 hn hs hc (fun h => ⟨(h0 h).1, rfl⟩) hr
theorem seg_all (bs : List UInt8) : segOf (bs.map dB) 0 (bs.length * 1) = bs.map dB := by
  rw [segOf_eq, List.drop_zero, Nat.mul_one, ← List.length_map (f := dB) (as := bs), List.take_length]
theorem cl_bytes (bs : List UInt8) : closedL (bs.map dB) = true := plL_closed _ (pl_bytes bs)
/-! ### words for the driver -/
theorem br {b : Bool} {X Y : Prop} (h1 : b = true → X) (h2 : b = false → Y) : brP b X Y := brP_iff.2 ⟨h1, h2⟩
theorem chk {b : Bool} {X : Prop} (h1 : b = true) (h2 : X) : chkP b X := chkP_iff.2 ⟨h1, h2⟩
theorem optI {α : Type} {o : Option α} {K : α → Prop} (x : α) (h1 : o = some x) (h2 : K x) : optP o K := optP_iff.2 ⟨x, h1, h2⟩
theorem bytI {cs : List D} {K : List UInt8 → Prop} (bs : List UInt8) (h1 : cs = bs.map dB) (h2 : K bs) : bytP cs K := ⟨bs, h1, h2⟩
theorem okI {pr : List (List Nat)} {l : List Oper} {X : Prop} (h : okPr pr 0 l = true) (hx : X) : okP pr l ∧ X := ⟨⟨h⟩, hx⟩
theorem okcI {pr : List (List Nat)} {l : List Rec} {X : Prop} (h : (okCf pr 0 l.reverse && l.all recOk) = true) (hx : X) : okcP pr l ∧ X := ⟨.of h, hx⟩
/-- A call by a contract. -/
theorem conP {P : Program} {s : AS} {ds : List D} {f : FuncId} {nm ky : Nat} {K : Option D → Up → Prop} {al : Bool} (fp : List Nat) {q q0 : List D} {hin : List Blk} {r : D} {bs : List Blk} (hcall : CallOk al P f q0 hin r bs) (h1 : toDL s al fp ds = some (true, q)) (h2 : hinOf s fp fp = some (true, hin)) (hsim : simL q q0)
    (h3 : (nodupB fp && Nat.ble bs.length (fp.length + 8)) = true) (h4 : K (some (resN (κOf fp ky) (γOf s fp nm) bs r)) (adoptUp (κOf fp ky) (γOf s fp nm) 0 bs)) : callP P s ds f nm ky K := by
  refine ⟨al, fp, q, hin, r, bs, h1, h2, ?_, h3, h4⟩
  obtain ⟨e, g⟩ := hsim.get
  cases hcall with
  | fn hf hspec =>
    refine .fn hf ⟨hspec.1, fun O φ w args hO hh hi hl ha => hspec.2 O φ w args hO hh hi (hl.trans e) fun j d u hd hu => ?_⟩
    obtain ⟨d0, a1, a2⟩ := g j d hd
    exact a2 _ _ _ (ha j d0 u a1 hu)
  | ext hspec =>
    refine .ext ⟨hspec.1, fun O φ w args hO hh hi hl ha => hspec.2 O φ w args hO hh hi (hl.trans e) fun j d u hd hu => ?_⟩
    obtain ⟨d0, a1, a2⟩ := g j d hd
    exact a2 _ _ _ (ha j d0 u a1 hu)
theorem inlX {P : Program} {T : TT} {nt kb i : Nat} {o : Oper} {s : AS} {ds : List D} {f : FuncId} {K : AS → Prop} {fn : Func} {c : Code} {rs : List ResultVar} (h1 : P.funcs[f]? = some fn) (h2 : fn.body = some c) (h3 : fn.results = ⟨rs⟩) (h4 : (fn.name == "runtime.NumGoroutine") = false)
    (h : AWP P false fn.ntmps (s.nx + 8 * (i + 1)) c { tm := enumT 0 ds, hp := s.hp, nx := s.nx + 8 * (i + 1), us := [] } fun e s' => (e = .normal ∨ e = .ret) ∧ vcRes T s' rs fun l => K { tm := putT s.tm o.dst (some (resD l)), hp := s'.hp, nx := s'.nx, us := [] }) : callX P T nt kb i o s ds f K :=
  ⟨.inr ⟨fn, c, rs, h1, h2, h3, h4, h⟩⟩
end Go.Vx

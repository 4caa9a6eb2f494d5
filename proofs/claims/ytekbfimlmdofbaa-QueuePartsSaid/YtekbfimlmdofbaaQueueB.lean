/- QueueB: New, room, Check, Room, Put, Take, walked. -/
import Derived.Test.YtekbfimlmdofbaaQueueA
namespace Go.Proofs.Ytekbfimlmdofbaa
open Go.RowKit Go.Bw QueueA
namespace QueueB

theorem room_code (m : Int) (a : Option Addr) (n cap : Nat) (w : World) (h0 : 0 ≤ m) (h1 : m ≤ 65536) (h2 : (n : Int) ≤ 9223372036854775807) :
    Calls Try.prog 24 #[.agg #[.int .i64 m, .slice a n cap]] w (Gives w (.int .i64 (m - n))) := by
  go_enter Try.func24, Try.ntmps24
  go_wp2
  go_ret
  exact ⟨rfl, bthenAlloc (Below.refl _ _) _⟩

theorem new_yes (m : Int) (w : World) (h0 : 0 ≤ m) (h1 : m ≤ 65536) :
    Calls Try.prog 13 #[.int .i64 m] w (Gives w (.tuple #[.agg #[.int .i64 m, .slice none 0 0], .int .i64 0])) := by
  have d0 : decide (m < 0) = false := by rw [decide_eq_false_iff_not]; omega
  have d1 : decide (65536 < m) = false := by rw [decide_eq_false_iff_not]; omega
  go_enter Try.func13, Try.ntmps13
  go_wp2
  exact bodyPost_ret (v := .tuple #[.agg #[.int .i64 m, .slice none 0 0], .int .i64 0]) (by simp [results, Try.results13, go_sem]) rfl ⟨rfl, by (repeat' first | exact Below.refl _ _ | assumption | refine bthenDrew ?_ | refine bthenAlloc ?_ _ | refine bthenSet ?_ ?_ _ | refine bthen ?_ (by assumption) | (dsimp only; omega) | (simp; done) | (simp; omega))⟩

theorem new_no (m : Int) (w : World) (h : m < 0 ∨ (0 ≤ m ∧ 65536 < m)) :
    Calls Try.prog 13 #[.int .i64 m] w (Gives w (.tuple #[.agg #[.int .i64 0, .slice none 0 0], .int .i64 2])) := by
  rcases h with h | ⟨h0, h⟩
  · have d0 : decide (m < 0) = true := by rw [decide_eq_true_eq]; omega
    go_enter Try.func13, Try.ntmps13
    go_wp2
    exact bodyPost_ret (v := .tuple #[.agg #[.int .i64 0, .slice none 0 0], .int .i64 2]) (by simp [results, Try.results13, go_sem]) rfl ⟨rfl, by (repeat' first | exact Below.refl _ _ | assumption | refine bthenDrew ?_ | refine bthenAlloc ?_ _ | refine bthenSet ?_ ?_ _ | refine bthen ?_ (by assumption) | (dsimp only; omega) | (simp; done) | (simp; omega))⟩
  · have d0 : decide (m < 0) = false := by rw [decide_eq_false_iff_not]; omega
    have d1 : decide (65536 < m) = true := by rw [decide_eq_true_eq]; omega
    go_enter Try.func13, Try.ntmps13
    go_wp2
    exact bodyPost_ret (v := .tuple #[.agg #[.int .i64 0, .slice none 0 0], .int .i64 2]) (by simp [results, Try.results13, go_sem]) rfl ⟨rfl, by (repeat' first | exact Below.refl _ _ | assumption | refine bthenDrew ?_ | refine bthenAlloc ?_ _ | refine bthenSet ?_ ?_ _ | refine bthen ?_ (by assumption) | (dsimp only; omega) | (simp; done) | (simp; omega))⟩

theorem check_yes (m : Int) (a : Option Addr) (n cap : Nat) (w : World) (h0 : 0 ≤ m) (h1 : m ≤ 65536) (h2 : (n : Int) ≤ m) :
    Calls Try.prog 9 #[.agg #[.int .i64 m, .slice a n cap]] w (Gives w (.int .i64 0)) := by
  go_enter Try.func9, Try.ntmps9
  go_wp2_with fail
  refine (of_yes m a n cap _ h0 h1 h2).mono ?_; rintro e w1 ⟨rfl, hb1⟩
  go_wp2
  go_ret
  exact ⟨rfl, by (repeat' first | exact Below.refl _ _ | assumption | refine bthenDrew ?_ | refine bthenAlloc ?_ _ | refine bthenSet ?_ ?_ _ | refine bthen ?_ (by assumption) | (dsimp only; omega) | (simp; done) | (simp; omega))⟩

theorem check_no (m : Int) (a : Option Addr) (n cap : Nat) (w : World) (hm : -9223372036854775808 ≤ m ∧ m ≤ 9223372036854775807) (hn : n ≤ 9223372036854775807) (h : ¬ (0 ≤ m ∧ m ≤ 65536 ∧ (n : Int) ≤ m)) :
    Calls Try.prog 9 #[.agg #[.int .i64 m, .slice a n cap]] w (Gives w (.int .i64 8)) := by
  go_enter Try.func9, Try.ntmps9
  go_wp2_with fail
  refine (of_no m a n cap _ hm hn h).mono ?_; rintro e w1 ⟨rfl, hb1⟩
  go_wp2
  go_ret
  exact ⟨rfl, by (repeat' first | exact Below.refl _ _ | assumption | refine bthenDrew ?_ | refine bthenAlloc ?_ _ | refine bthenSet ?_ ?_ _ | refine bthen ?_ (by assumption) | (dsimp only; omega) | (simp; done) | (simp; omega))⟩

theorem rooms_yes (m : Int) (a : Option Addr) (n cap : Nat) (w : World) (h0 : 0 ≤ m) (h1 : m ≤ 65536) (h2 : (n : Int) ≤ m) :
    Calls Try.prog 12 #[.agg #[.int .i64 m, .slice a n cap]] w (Gives w (.tuple #[.int .i64 (m - n), .int .i64 0])) := by
  go_enter Try.func12, Try.ntmps12
  go_wp2_with fail
  refine (of_yes m a n cap _ h0 h1 h2).mono ?_; rintro e w1 ⟨rfl, hb1⟩
  go_wp2_with fail
  refine (room_code m a n cap _ h0 h1 (by omega)).mono ?_; rintro e w2 ⟨rfl, hb2⟩
  go_wp2
  go_ret2
  exact ⟨rfl, by (repeat' first | exact Below.refl _ _ | assumption | refine bthenDrew ?_ | refine bthenAlloc ?_ _ | refine bthenSet ?_ ?_ _ | refine bthen ?_ (by assumption) | (dsimp only; omega) | (simp; done) | (simp; omega))⟩

theorem rooms_no (m : Int) (a : Option Addr) (n cap : Nat) (w : World) (hm : -9223372036854775808 ≤ m ∧ m ≤ 9223372036854775807) (hn : n ≤ 9223372036854775807) (h : ¬ (0 ≤ m ∧ m ≤ 65536 ∧ (n : Int) ≤ m)) :
    Calls Try.prog 12 #[.agg #[.int .i64 m, .slice a n cap]] w (Gives w (.tuple #[.int .i64 0, .int .i64 8])) := by
  go_enter Try.func12, Try.ntmps12
  go_wp2_with fail
  refine (of_no m a n cap _ hm hn h).mono ?_; rintro e w1 ⟨rfl, hb1⟩
  go_wp2_with fail
  refine (room_code 0 none 0 0 _ (by omega) (by omega) (by omega)).mono ?_; rintro e w2 ⟨rfl, hb2⟩
  go_wp2
  go_ret2
  exact ⟨rfl, by (repeat' first | exact Below.refl _ _ | assumption | refine bthenDrew ?_ | refine bthenAlloc ?_ _ | refine bthenSet ?_ ?_ _ | refine bthen ?_ (by assumption) | (dsimp only; omega) | (simp; done) | (simp; omega))⟩

/-- The call answers a queue of m and these bytes, in new memory, and more. -/
def GivesQ (w : World) (m : Int) (bs : List UInt8) (rest : List Value) (e : Ending) (w' : World) : Prop :=
  ∃ a cap, e = .returned (.tuple (.agg #[.int .i64 m, .slice a bs.length cap] :: rest).toArray) ∧ OwnB w' w.heap.size a cap bs ∧ Below w.heap.size w w'

theorem owns_base {w : World} {base : Nat} {e : TypeId} {size n : Nat} {v : Value} {xs : List Value} (h : w.ownsRow base e size v n xs) {k : Nat} (hk : v.ownBlock = some k) : base ≤ k := by
  obtain ⟨_, h | ⟨g, cap, cur, rfl, hg, _⟩⟩ := h
  · rw [h.1] at hk; cases hk
  · simp [Value.ownBlock] at hk; omega
theorem ownsBase {w : World} {base base' : Nat} {a : Option Addr} {cap : Nat} {bs : List UInt8} (h : OwnB w base a cap bs) (hb : base' ≤ base) : OwnB w base' a cap bs := by
  obtain ⟨h1, h | ⟨g, c, cur, e, hg, r⟩⟩ := h
  · exact ⟨h1, .inl h⟩
  · exact ⟨h1, .inr ⟨g, c, cur, e, by omega, r⟩⟩
theorem ownsSet {w : World} {base : Nat} {a : Option Addr} {cap : Nat} {bs : List UInt8} (h : OwnB w base a cap bs) {p : Addr} (hp : p.block < base) (u : Value) : OwnB (w.setCell p u) base a cap bs := ownsRow_setCell_below h hp u
theorem keepC {B : Nat} {w0 w w' : World} {p : Addr} {v : Value} (h : Below B w0 w ∧ w.cell? p = some v) (hb : Below B w w') (hp : p.block < B) : Below B w0 w' ∧ w'.cell? p = some v :=
  ⟨h.1.trans hb, (hb.cell hp).trans h.2⟩
theorem _root_.Go.Bw.BRow.takeRow {w : World} {a : Option Addr} {cap : Nat} {bs : List UInt8} (h : BRow w a cap bs) (t : Nat) (ht : t ≤ bs.length) : Row w a cap t 1 ((bs.take t).map bv) := by
  have := h.take t
  unfold BRow at this
  rwa [List.length_take_of_le ht] at this
theorem sizeB (w : World) : (sizeOf 5).run Try.prog w = .ok 1 w := by kernel_rfl

set_option maxRecDepth 100000 in
set_option maxHeartbeats 4000000 in
theorem put_yes (M : Nat) (a : Option Addr) (cap : Nat) (bs : List UInt8) (b : Option Addr) (kb : Nat) (ys : List UInt8) (t : Nat) (w : World) (hr : BRow w a cap bs) (hy : BRow w b kb ys) (h1 : M ≤ 65536) (h2 : bs.length ≤ M)
    (ht : (M - bs.length < ys.length ∧ t = M - bs.length) ∨ (ys.length ≤ M - bs.length ∧ t = ys.length)) :
    Calls Try.prog 10 #[.agg #[.int .i64 M, .slice a bs.length cap], .slice b ys.length kb] w (GivesQ w M (bs ++ ys.take t) [.int .i64 t, .int .i64 0]) := by
  have hly := hy.le
  have hla := hr.le
  have hn : (bs.length : Int) ≤ (M : Int) := by omega
  have hcut := run_cut_to (P := Try.prog) Try.underlying22 sizeB b ys.length kb .i64 t (by omega)
  obtain ⟨i0, hi, hz0', hz1', hz2'⟩ := info_parts infoB
  rcases ht with ⟨hc, ht⟩ | ⟨hc, ht⟩
  · have hm : (M : Int) - (bs.length : Int) = (t : Int) := by omega
    have hlt : (t : Int) < (ys.length : Int) := by omega
    have htl : t ≤ ys.length := by omega
    clear ht hc
    go_enter Try.func10, Try.ntmps10
    go_wp2_with fail
    refine (of_yes M a bs.length cap _ (by omega) (by omega) (by omega)).mono ?_; rintro e w1 ⟨rfl, hb1⟩
    obtain ⟨hc1, hf1⟩ := bcell hb1
    have hz1 : w.heap.size + 1 < w1.heap.size := by have := hb1.size; simp at this; omega
    have hz0 : w.heap.size < w1.heap.size := by omega
    go_wp2_with fail
    refine (room_code M a bs.length cap _ (by omega) (by omega) (by omega)).mono ?_; rintro e w2 ⟨rfl, hb2⟩
    obtain ⟨hc2, hf2⟩ := bcell hb2
    have hz2 : w1.heap.size < w2.heap.size := by have := hb2.size; simp at this; omega
    have hz3 : w.heap.size + 1 < w2.heap.size := by omega
    go_wp2
    have hb02 : Below w.heap.size w w2 := by (repeat' first | exact Below.refl _ _ | assumption | refine bthenDrew ?_ | refine bthenAlloc ?_ _ | refine bthenSet ?_ ?_ _ | refine bthen ?_ (by assumption) | (dsimp only; omega) | (simp; done) | (simp; omega))
    have hBL : Block w2 w1.heap.size #[.int .i64 M, .slice a bs.length cap] 56 := (Block.new w1 _ _).below hb2 (by simp)
    have hBR : Block w2 (w.heap.size + 1) #[.int .i64 0, .slice none 0 0] 24 := (((Block.new_at (w.alloc (.cells #[.int .i64 M, .slice a bs.length cap] 24)) #[.int .i64 0, .slice none 0 0] 24 (w.heap.size + 1) (by simp)).below hb1 (by simp)).alloc _).below hb2 (by simp; omega)
    have hcl : w2.cell? ⟨w1.heap.size, 1, none⟩ = some (.slice a bs.length cap) := (hb2.cell (p := ⟨w1.heap.size, 1, none⟩) (by simp)).trans (by rw [(Block.new w1 _ _).cell]; rfl)
    refine wp_region_hd 7 (S := fun w' => Below w2.heap.size w2 w' ∧ w'.cell? ⟨w1.heap.size, 1, none⟩ = some (.slice a bs.length cap)) (by kernel_rfl) (by kernel_rfl) ?_ (fun hOk hInv hHeld => ?_)
    · exact ⟨bthenDrew (Below.refl _ _), hcl⟩
    refine hd_take (i := 0) (v := ?va0) hOk hInv rfl (by kernel_rfl) (fun _ _ _ h => h) (Or.inl ⟨by rfl, ?ya0⟩) hHeld ?ka0
    case ya0 => (intro w hSw; (try dsimp only at hSw); go_simp; (try with_reducible rfl))
    clear hInv; intro hInv
    try simp only [List.getElem_toArray, List.getElem_cons_zero, List.getElem_cons_succ, Act.put, List.setIfInBounds_toArray, List.set_cons_zero, List.set_cons_succ]
    refine hd_take (i := 1) (v := ?va1) hOk hInv rfl (by kernel_rfl) (fun _ _ _ h => h) (Or.inl ⟨by rfl, ?ya1⟩) hHeld ?ka1
    case ya1 => (intro w hSw; (try dsimp only at hSw); go_simp; (try with_reducible rfl))
    clear hInv; intro hInv
    try simp only [List.getElem_toArray, List.getElem_cons_zero, List.getElem_cons_succ, Act.put, List.setIfInBounds_toArray, List.set_cons_zero, List.set_cons_succ]
    refine hd_take (i := 3) (v := ?va3) hOk hInv rfl (by kernel_rfl) (fun _ _ _ h => h) (Or.inl ⟨by rfl, ?ya3⟩) hHeld ?ka3
    case ya3 => (intro w hSw; (try dsimp only at hSw); go_simp; (try with_reducible rfl))
    clear hInv; intro hInv
    try simp only [List.getElem_toArray, List.getElem_cons_zero, List.getElem_cons_succ, Act.put, List.setIfInBounds_toArray, List.set_cons_zero, List.set_cons_succ]
    refine hd_take (i := 4) (v := ?va4) hOk hInv rfl (by kernel_rfl) (fun _ _ _ h => h) (Or.inl ⟨by rfl, ?ya4⟩) hHeld ?ka4
    case ya4 => (intro w hSw; (try dsimp only at hSw); go_simp; (try with_reducible rfl))
    clear hInv; intro hInv
    try simp only [List.getElem_toArray, List.getElem_cons_zero, List.getElem_cons_succ, Act.put, List.setIfInBounds_toArray, List.set_cons_zero, List.set_cons_succ]
    refine hd_take (i := 5) (v := ?va5) hOk hInv rfl (by kernel_rfl) (fun _ _ _ h => h) (Or.inl ⟨by rfl, ?ya5⟩) hHeld ?ka5
    case ya5 => (intro w hSw; (try dsimp only at hSw); go_simp; (try with_reducible rfl))
    clear hInv; intro hInv
    try simp only [List.getElem_toArray, List.getElem_cons_zero, List.getElem_cons_succ, Act.put, List.setIfInBounds_toArray, List.set_cons_zero, List.set_cons_succ]
    refine hd_step (i := 2) hInv rfl (by kernel_rfl) ?_
    clear hInv; intro hInv K hK
    simp only [List.getElem_toArray, List.getElem_cons_zero, List.getElem_cons_succ]
    rw [if_pos (by rfl)]
    go_wp2_with fail
    refine (clone_code a cap bs _ (hr.below (bthenDrew hb02) rfl) (by omega)).mono ?_; rintro e w3 ⟨a3, cap3, rfl, ho3, hb3⟩
    dsimp only
    refine hK.out _ _ ?_ (fun hHeld2 => ?_)
    · exact keepC hHeld (hb3.mono hHeld.1.size) hz2
    clear hHeld hK K
    have hHeld := hHeld2
    clear hHeld2
    try simp only [List.getElem_toArray, List.getElem_cons_zero, List.getElem_cons_succ, Act.put, List.setIfInBounds_toArray, List.set_cons_zero, List.set_cons_succ]
    refine hd_step (i := 6) hInv rfl (by kernel_rfl) ?_
    clear hInv; intro hInv K hK
    simp only [List.getElem_toArray, List.getElem_cons_zero, List.getElem_cons_succ]
    rw [if_pos (by rfl)]
    refine wp_append_row _ _ 22 rfl w2.heap.size 5 i0 (.int .u8 0) 1 1 Try.underlying22 hi hz0' hz1' hz2' rfl (by decide) _ bs.length (bs.map bv) rfl ho3 _ _ _ ((ys.take t).map bv) rfl ((hy.below (hb02.trans (hHeld.1.mono hb02.size)) rfl).takeRow t htl) (one_bv _) (by omega) (by decide) hHeld.1.size ?_; intro v4 w4 hown4 hg4 _; have hb4 : Below w2.heap.size w3 w4 := (Below.refl _ _).grown hg4 hHeld.1.size (fun k hk => owns_base ho3 hk)
    refine hK.out _ _ ?_ (fun hHeld2 => ?_)
    · exact keepC hHeld hb4 hz2
    clear hHeld hK K
    have hHeld := hHeld2
    clear hHeld2
    try simp only [List.getElem_toArray, List.getElem_cons_zero, List.getElem_cons_succ, Act.put, List.setIfInBounds_toArray, List.set_cons_zero, List.set_cons_succ]
    refine hd_done (by kernel_rfl) ?_
    simp only [List.drop_succ_cons, List.drop_zero]
    obtain ⟨a4, cap4, rfl, ho4⟩ := owns_form (bs := bs ++ ys.take t) (by rw [List.length_append, List.length_take_of_le htl, List.map_append]; exact hown4)
    have hBL4 := hBL.below hHeld.1 hz2
    have hBR4 := hBR.below hHeld.1 hz3
    have l0 := hBL4.cell 0
    have l1 := hBL4.cell 1
    have lf := hBL4.frozen
    have r0 := hBR4.cell 0
    have r1 := hBR4.cell 1
    have rf := hBR4.frozen
    have hb24 := hHeld.1
    clear hHeld hc1 hc2 hf1 hf2 hown4
    go_wp2
    have hlen : (bs ++ ys.take t).length = bs.length + t := by rw [List.length_append, List.length_take_of_le htl]
    refine bodyPost_ret (v := .tuple #[.agg #[.int .i64 M, .slice a4 (bs.length + t) cap4], .int .i64 t, .int .i64 0]) (by simp [results, Try.results10, go_sem, r0, r1, rf, l0, l1]) rfl ⟨a4, cap4, by rw [hlen], ?_, ?_⟩
    · exact ownsBase (ownsSet (ownsSet (ownsSet ho4 (by exact hz2) _) (by exact hz3) _) (by exact hz3) _) hb02.size
    · (repeat' first | exact Below.refl _ _ | assumption | refine bthenDrew ?_ | refine bthenAlloc ?_ _ | refine bthenSet ?_ ?_ _ | refine bthen ?_ (by assumption) | (dsimp only; omega) | (simp; done) | (simp; omega))
  · have hge : ¬ (M : Int) - (bs.length : Int) < (ys.length : Int) := by omega
    have htl : t ≤ ys.length := by omega
    subst ht
    clear hc
    go_enter Try.func10, Try.ntmps10
    go_wp2_with fail
    refine (of_yes M a bs.length cap _ (by omega) (by omega) (by omega)).mono ?_; rintro e w1 ⟨rfl, hb1⟩
    obtain ⟨hc1, hf1⟩ := bcell hb1
    have hz1 : w.heap.size + 1 < w1.heap.size := by have := hb1.size; simp at this; omega
    have hz0 : w.heap.size < w1.heap.size := by omega
    go_wp2_with fail
    refine (room_code M a bs.length cap _ (by omega) (by omega) (by omega)).mono ?_; rintro e w2 ⟨rfl, hb2⟩
    obtain ⟨hc2, hf2⟩ := bcell hb2
    have hz2 : w1.heap.size < w2.heap.size := by have := hb2.size; simp at this; omega
    have hz3 : w.heap.size + 1 < w2.heap.size := by omega
    go_wp2
    have hb02 : Below w.heap.size w w2 := by (repeat' first | exact Below.refl _ _ | assumption | refine bthenDrew ?_ | refine bthenAlloc ?_ _ | refine bthenSet ?_ ?_ _ | refine bthen ?_ (by assumption) | (dsimp only; omega) | (simp; done) | (simp; omega))
    have hBL : Block w2 w1.heap.size #[.int .i64 M, .slice a bs.length cap] 56 := (Block.new w1 _ _).below hb2 (by simp)
    have hBR : Block w2 (w.heap.size + 1) #[.int .i64 0, .slice none 0 0] 24 := (((Block.new_at (w.alloc (.cells #[.int .i64 M, .slice a bs.length cap] 24)) #[.int .i64 0, .slice none 0 0] 24 (w.heap.size + 1) (by simp)).below hb1 (by simp)).alloc _).below hb2 (by simp; omega)
    have hcl : w2.cell? ⟨w1.heap.size, 1, none⟩ = some (.slice a bs.length cap) := (hb2.cell (p := ⟨w1.heap.size, 1, none⟩) (by simp)).trans (by rw [(Block.new w1 _ _).cell]; rfl)
    refine wp_region_hd 7 (S := fun w' => Below w2.heap.size w2 w' ∧ w'.cell? ⟨w1.heap.size, 1, none⟩ = some (.slice a bs.length cap)) (by kernel_rfl) (by kernel_rfl) ?_ (fun hOk hInv hHeld => ?_)
    · exact ⟨bthenDrew (Below.refl _ _), hcl⟩
    refine hd_take (i := 0) (v := ?vb0) hOk hInv rfl (by kernel_rfl) (fun _ _ _ h => h) (Or.inl ⟨by rfl, ?yb0⟩) hHeld ?kb0
    case yb0 => (intro w hSw; (try dsimp only at hSw); go_simp; (try with_reducible rfl))
    clear hInv; intro hInv
    try simp only [List.getElem_toArray, List.getElem_cons_zero, List.getElem_cons_succ, Act.put, List.setIfInBounds_toArray, List.set_cons_zero, List.set_cons_succ]
    refine hd_take (i := 1) (v := ?vb1) hOk hInv rfl (by kernel_rfl) (fun _ _ _ h => h) (Or.inl ⟨by rfl, ?yb1⟩) hHeld ?kb1
    case yb1 => (intro w hSw; (try dsimp only at hSw); go_simp; (try with_reducible rfl))
    clear hInv; intro hInv
    try simp only [List.getElem_toArray, List.getElem_cons_zero, List.getElem_cons_succ, Act.put, List.setIfInBounds_toArray, List.set_cons_zero, List.set_cons_succ]
    refine hd_take (i := 3) (v := ?vb3) hOk hInv rfl (by kernel_rfl) (fun _ _ _ h => h) (Or.inl ⟨by rfl, ?yb3⟩) hHeld ?kb3
    case yb3 => (intro w hSw; (try dsimp only at hSw); go_simp; (try with_reducible rfl))
    clear hInv; intro hInv
    try simp only [List.getElem_toArray, List.getElem_cons_zero, List.getElem_cons_succ, Act.put, List.setIfInBounds_toArray, List.set_cons_zero, List.set_cons_succ]
    refine hd_take (i := 4) (v := ?vb4) hOk hInv rfl (by kernel_rfl) (fun _ _ _ h => h) (Or.inl ⟨by rfl, ?yb4⟩) hHeld ?kb4
    case yb4 => (intro w hSw; (try dsimp only at hSw); go_simp; (try with_reducible rfl))
    clear hInv; intro hInv
    try simp only [List.getElem_toArray, List.getElem_cons_zero, List.getElem_cons_succ, Act.put, List.setIfInBounds_toArray, List.set_cons_zero, List.set_cons_succ]
    refine hd_take (i := 5) (v := ?vb5) hOk hInv rfl (by kernel_rfl) (fun _ _ _ h => h) (Or.inl ⟨by rfl, ?yb5⟩) hHeld ?kb5
    case yb5 => (intro w hSw; (try dsimp only at hSw); go_simp; (try with_reducible rfl))
    clear hInv; intro hInv
    try simp only [List.getElem_toArray, List.getElem_cons_zero, List.getElem_cons_succ, Act.put, List.setIfInBounds_toArray, List.set_cons_zero, List.set_cons_succ]
    refine hd_step (i := 2) hInv rfl (by kernel_rfl) ?_
    clear hInv; intro hInv K hK
    simp only [List.getElem_toArray, List.getElem_cons_zero, List.getElem_cons_succ]
    rw [if_pos (by rfl)]
    go_wp2_with fail
    refine (clone_code a cap bs _ (hr.below (bthenDrew hb02) rfl) (by omega)).mono ?_; rintro e w3 ⟨a3, cap3, rfl, ho3, hb3⟩
    dsimp only
    refine hK.out _ _ ?_ (fun hHeld2 => ?_)
    · exact keepC hHeld (hb3.mono hHeld.1.size) hz2
    clear hHeld hK K
    have hHeld := hHeld2
    clear hHeld2
    try simp only [List.getElem_toArray, List.getElem_cons_zero, List.getElem_cons_succ, Act.put, List.setIfInBounds_toArray, List.set_cons_zero, List.set_cons_succ]
    refine hd_step (i := 6) hInv rfl (by kernel_rfl) ?_
    clear hInv; intro hInv K hK
    simp only [List.getElem_toArray, List.getElem_cons_zero, List.getElem_cons_succ]
    rw [if_pos (by rfl)]
    refine wp_append_row _ _ 22 rfl w2.heap.size 5 i0 (.int .u8 0) 1 1 Try.underlying22 hi hz0' hz1' hz2' rfl (by decide) _ bs.length (bs.map bv) rfl ho3 _ _ _ ((ys.take ys.length).map bv) rfl ((hy.below (hb02.trans (hHeld.1.mono hb02.size)) rfl).takeRow ys.length htl) (one_bv _) (by omega) (by decide) hHeld.1.size ?_; intro v4 w4 hown4 hg4 _; have hb4 : Below w2.heap.size w3 w4 := (Below.refl _ _).grown hg4 hHeld.1.size (fun k hk => owns_base ho3 hk)
    refine hK.out _ _ ?_ (fun hHeld2 => ?_)
    · exact keepC hHeld hb4 hz2
    clear hHeld hK K
    have hHeld := hHeld2
    clear hHeld2
    try simp only [List.getElem_toArray, List.getElem_cons_zero, List.getElem_cons_succ, Act.put, List.setIfInBounds_toArray, List.set_cons_zero, List.set_cons_succ]
    refine hd_done (by kernel_rfl) ?_
    simp only [List.drop_succ_cons, List.drop_zero]
    obtain ⟨a4, cap4, rfl, ho4⟩ := owns_form (bs := bs ++ ys.take ys.length) (by rw [List.length_append, List.length_take_of_le htl, List.map_append]; exact hown4)
    have hBL4 := hBL.below hHeld.1 hz2
    have hBR4 := hBR.below hHeld.1 hz3
    have l0 := hBL4.cell 0
    have l1 := hBL4.cell 1
    have lf := hBL4.frozen
    have r0 := hBR4.cell 0
    have r1 := hBR4.cell 1
    have rf := hBR4.frozen
    have hb24 := hHeld.1
    clear hHeld hc1 hc2 hf1 hf2 hown4
    go_wp2
    have hlen : (bs ++ ys.take ys.length).length = bs.length + ys.length := by rw [List.length_append, List.length_take_of_le htl]
    refine bodyPost_ret (v := .tuple #[.agg #[.int .i64 M, .slice a4 (bs.length + ys.length) cap4], .int .i64 ys.length, .int .i64 0]) (by simp [results, Try.results10, go_sem, r0, r1, rf, l0, l1]) rfl ⟨a4, cap4, by rw [hlen], ?_, ?_⟩
    · exact ownsBase (ownsSet (ownsSet (ownsSet ho4 (by exact hz2) _) (by exact hz3) _) (by exact hz3) _) hb02.size
    · (repeat' first | exact Below.refl _ _ | assumption | refine bthenDrew ?_ | refine bthenAlloc ?_ _ | refine bthenSet ?_ ?_ _ | refine bthen ?_ (by assumption) | (dsimp only; omega) | (simp; done) | (simp; omega))

end QueueB
end Go.Proofs.Ytekbfimlmdofbaa

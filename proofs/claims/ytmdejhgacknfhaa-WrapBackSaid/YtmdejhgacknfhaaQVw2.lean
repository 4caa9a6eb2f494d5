/- Vw2: made by vx.py. -/
import Derived.Test.YtmdejhgacknfhaaQVw1
import Derived.Shelf.Bytes.SlJoin
namespace Go.Proofs.Ytmdejhgacknfhaa
open Go.RowKit Go.Bw Go.Vx Go.Bw.Sums Vs
namespace Vw
def renJ : Go.Shelf.Ren := ⟨fun x => if x = 14 then 24 else if x = 15 then 42 else x,
  fun x => if x = 0 then 0 else if x = 3 then 3 else if x = 4 then 4 else if x = 5 then 5 else if x = 9 then 9 else if x = 20 then 20 else if x = 22 then 23 else if x = 26 then 53 else x, fun x => x⟩
set_option maxRecDepth 100000 in
theorem laysJ : SlLaysJ.n14 Try.prog renJ := by
  constructor
  all_goals first | kernel_rfl | (intro w; kernel_rfl)
abbrev partD (p : List UInt8) : D := .sl false p.length 1 (p.map dB)
theorem holds_part {E : Env} {w : World} {p : List UInt8} {v : Value} (h : RD E w (partD p) v) : Lib.HoldsBytes w v p := by
  cases h with
  | sl nn n size cells a c us hlen hd h1 hn hs hc h0 hr =>
    refine ⟨a, c, rfl, fun ha => ?_, fun ad ha i x hx => ?_⟩
    · have := (h0 ha).1
      exact List.eq_nil_of_length_eq_zero (by omega)
    · have hi : i < p.length := (List.getElem?_eq_some_iff.1 hx).1
      rcases hr with hr | ⟨b, off, rfl, hb, ho, hcell⟩
      · omega
      · cases ha
        rw [List.length_map] at hlen
        have hu : us[i]? = some us[i] := List.getElem?_eq_getElem (by omega)
        have hr := hd i (dB x) us[i] (by rw [List.getElem?_map, hx]; rfl) hu
        rw [Lib.add_plain2, hcell i _ hu]
        generalize us[i] = q at hr
        cases hr; rfl
theorem fresh_rd {O : Nat → Prop} {w w' : World} {φ : Nat → Option Nat} {v : Value} {l : List UInt8} (h : Lib.FreshBytes w.heap.size w' v l) : RD (envR (outO false O w) φ 0) w' (.sl true l.length 1 (l.map dB)) v := by
  obtain ⟨g, cap, zs, rfl, hg, hl, hcap, hz, hr, hb, hc, _⟩ := h
  have hzl : ∀ i x, l[i]? = some x → zs.getD i 0 = (x.toNat : Int) := fun i x hx => by
    have hi := (List.getElem?_eq_some_iff.1 hx).1
    rw [← hb] at hx
    simp only [Lib.bytesOf, List.getElem?_map, List.getElem?_take] at hx
    rw [if_pos hi, List.getElem?_eq_getElem (by omega)] at hx
    simp only [Option.map_some, Option.some.injEq] at hx
    have h2 := hr zs[i] (List.getElem_mem _)
    rw [List.getD_eq_getElem?_getD, List.getElem?_eq_getElem (by omega)]
    subst hx
    simp
    omega
  refine .sl true l.length 1 _ _ cap (l.map fun x => .int .u8 (x.toNat : Int)) (by simp) (fun i d u a1 a2 => ?_) (fun u hu => ?_) (by simp) (by decide) ⟨hl, hcap⟩ (fun q => by cases q) ?_
  · rw [List.getElem?_map, Option.map_eq_some_iff] at a1 a2
    obtain ⟨x, hx, rfl⟩ := a1
    obtain ⟨y, hy, rfl⟩ := a2
    rw [hx] at hy; cases hy
    exact .v _ rfl
  · obtain ⟨x, _, rfl⟩ := List.mem_map.1 hu; rfl
  · rcases Nat.eq_zero_or_pos l.length with h0 | h0
    · exact .inl h0
    · refine .inr ⟨g, 0, rfl, ?_, fun q => ?_, fun i u hu => ?_⟩
      · have := hc 0 (by omega)
        rcases Nat.lt_or_ge g w'.heap.size with q | q
        · exact q
        · simp [World.cell?, Array.getElem?_eq_none q] at this
      · rcases q with q | ⟨j, hj, _⟩
        · have q : g < w.heap.size := q
          omega
        · exact absurd hj (Nat.not_lt_zero j)
      · rw [List.getElem?_map, Option.map_eq_some_iff] at hu
        obtain ⟨x, hx, rfl⟩ := hu
        have hi := (List.getElem?_eq_some_iff.1 hx).1
        rw [Nat.zero_add, hc i (by omega), hzl i x hx]
theorem inter_nil : ∀ ps : List (List UInt8), ([] : List UInt8).intercalate ps = ps.flatten
  | [] => rfl
  | [p] => by simp [List.intercalate]
  | p :: q :: r => by
    have h := inter_nil (q :: r)
    simp only [List.intercalate, List.intersperse, List.flatten_cons, List.nil_append] at h ⊢
    rw [h]
theorem joinX (ps : List (List UInt8)) (m : Nat) (nn : Bool) (hm : m = ps.length) (h2 : 2 ≤ m) (hM : m ≤ 1000) (hN : ps.flatten.length ≤ 1000000) :
    SpecH false Try.prog 24 [.sl nn m 1 (ps.map partD), nilD] [] (.sl true ps.flatten.length 1 (ps.flatten.map dB)) [] := by
  refine ⟨Nat.le_refl _, fun O φ w args hO hh hi hl ha => ?_⟩
  match args, hl with
  | [x, y], _ =>
    have r0 := ha 0 _ x rfl rfl
    have r1 := ha 1 _ y rfl rfl
    cases r1
    cases r0 with
    | sl nn n size cells a c us hlen hd h1 hn hs hc h0 hr =>
      rcases hr with hr | ⟨b, off, rfl, hb, ho, hcell⟩
      · omega
      · rw [List.length_map] at hlen
        have hP : Lib.PartsAt w ⟨b, off, none⟩ us ps := ⟨hlen, fun i v hv => by rw [Lib.add_plain2]; exact hcell i v hv, fun i v l hv hl => holds_part (hd i (partD l) v (by rw [List.getElem?_map, hl]; rfl) hv)⟩
        have hj : Lib.join ps [] = ps.flatten := by
          exact inter_nil ps
        have hlen2 : Lib.lens ps = ps.flatten.length := by
          clear hd hP hj hlen hn hm hN
          induction ps with
          | nil => rfl
          | cons p ps ih => simp [Lib.lens]
        have key := Any.bytes_Join_many laysJ b off m c us ps (.slice none 0 0) [] w hm.symm h2 hP hc.1 ⟨none, 0, rfl, fun _ => rfl, fun a q => by cases q⟩ (by omega) (by rw [hlen2, List.length_nil, Nat.zero_mul]; omega)
        refine key.mono ?_
        rintro e w' ⟨v', rfl, hf, hbel⟩
        rw [hj] at hf
        refine ⟨v', rfl, ⟨hbel.1, hbel.2, hbel.3, hbel.4, fun k hk _ => hbel.5 k hk, fun k hk => shape_of_block (hbel.5 k hk)⟩, φ, fun j hj => absurd hj (Nat.not_lt_zero j), fresh_rd hf, fun j b hb => (by simp at hb), fun i j x hi => absurd hi (Nat.not_lt_zero i), fun j x _ hj => absurd hj (Nat.not_lt_zero j)⟩
end Vw
end Go.Proofs.Ytmdejhgacknfhaa

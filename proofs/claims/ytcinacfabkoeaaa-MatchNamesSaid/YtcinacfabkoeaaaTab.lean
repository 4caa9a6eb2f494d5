/- Tab: the types of this program, as the abstract executor has them. -/
import Derived.Test.YtcinacfabkoeaaaVxByt
import Derived.Test.YtcinacfabkoeaaaRows
namespace Go.Proofs.Ytcinacfabkoeaaa
open Go.Vx

def ti2 : TI := ⟨.int .i64, .int .i64 0, 1, 8, false⟩
def ti3 : TI := ⟨.int .i64, .int .i64 0, 1, 8, false⟩
def ti4 : TI := ⟨.bool, .bool false, 1, 1, false⟩
def ti5 : TI := ⟨.int .u8, .int .u8 0, 1, 1, false⟩
def ti9 : TI := ⟨.string, .string ⟨#[]⟩, 1, 16, false⟩
def ti12 : TI := ⟨.int .u64, .int .u64 0, 1, 8, false⟩
def ti15 : TI := ⟨.pointer 55, .pointer none, 1, 8, false⟩
def ti16 : TI := ⟨.pointer 58, .pointer none, 1, 8, false⟩
def ti17 : TI := ⟨.pointer 67, .pointer none, 1, 8, false⟩
def ti20 : TI := ⟨.interface #[], .nilIface, 1, 16, false⟩
def ti21 : TI := ⟨.int .i32, .int .i32 0, 1, 4, false⟩
def ti22 : TI := ⟨.slice 5, .slice none 0 0, 1, 24, false⟩
def ti24 : TI := ⟨.int .i64, .int .i64 0, 1, 8, false⟩
def ti49 : TI := ⟨.int .u32, .int .u32 0, 1, 4, false⟩
def ti52 : TI := ⟨.int .u64, .int .u64 0, 1, 8, false⟩
def ti56 : TI := ⟨.array 0 16, .agg #[], 0, 0, false⟩
def ti63 : TI := ⟨.pointer 5, .pointer none, 1, 8, false⟩
def ti66 : TI := ⟨.struct #[⟨"Size_", 12, 0, false, "", "", 0⟩, ⟨"PtrBytes", 12, 1, false, "", "", 8⟩, ⟨"Hash", 49, 2, false, "", "", 16⟩, ⟨"TFlag", 60, 3, false, "", "", 20⟩, ⟨"Align_", 5, 4, false, "", "", 21⟩, ⟨"FieldAlign_", 5, 5, false, "", "", 22⟩, ⟨"Kind_", 61, 6, false, "", "", 23⟩, ⟨"Equal", 62, 7, false, "", "", 24⟩, ⟨"GCData", 63, 8, false, "", "", 32⟩, ⟨"Str", 64, 9, false, "", "", 40⟩, ⟨"PtrToThis", 65, 10, false, "", "", 44⟩], .agg #[.int .u64 0, .int .u64 0, .int .u32 0, .int .u8 0, .int .u8 0, .int .u8 0, .int .u8 0, .nilFunc, .pointer none, .int .i32 0, .int .i32 0], 11, 48, false⟩
def Tl : List (Nat × TI) := [(2, ti2), (3, ti3), (4, ti4), (5, ti5), (9, ti9), (12, ti12), (15, ti15), (16, ti16), (17, ti17), (20, ti20), (21, ti21), (22, ti22), (24, ti24), (49, ti49), (52, ti52), (56, ti56), (63, ti63), (66, ti66)]
/-- The table. -/
def T : TT := (.n (.n (.n (.n (.n (.n (.n .e (some ti63) .e) none .e) (some ti15) .e) none .e) (some ti3) .e) none (.n (.n (.n .e (some ti17) (.n .e (some ti49) .e)) (some ti9) .e) (some ti5) (.n (.n .e (some ti21) .e) none .e))) none (.n (.n (.n (.n .e (some ti16) .e) none (.n .e (some ti24) (.n .e (some ti56) .e))) (some ti4) (.n (.n .e (some ti20) (.n .e (some ti52) .e)) (some ti12) .e)) (some ti2) (.n (.n (.n (.n (.n .e (some ti66) .e) none .e) none .e) none .e) none (.n (.n .e (some ti22) .e) none .e))))
set_option maxRecDepth 100000 in
theorem T_ok : TT.ok Try.prog T := by
  refine TT.ok_ofL (l := Tl) ?_ (by kernel_rfl)
  refine ⟨tiok (by kernel_rfl) (by kernel_rfl) rfl, ?_⟩
  refine ⟨tiok (by kernel_rfl) (by kernel_rfl) rfl, ?_⟩
  refine ⟨tiok (by kernel_rfl) (by kernel_rfl) rfl, ?_⟩
  refine ⟨tiok (by kernel_rfl) (by kernel_rfl) rfl, ?_⟩
  refine ⟨tiok (by kernel_rfl) (by kernel_rfl) rfl, ?_⟩
  refine ⟨tiok (by kernel_rfl) (by kernel_rfl) rfl, ?_⟩
  refine ⟨tiok (by kernel_rfl) (by kernel_rfl) rfl, ?_⟩
  refine ⟨tiok (by kernel_rfl) (by kernel_rfl) rfl, ?_⟩
  refine ⟨tiok (by kernel_rfl) (by kernel_rfl) rfl, ?_⟩
  refine ⟨tiok (by kernel_rfl) (by kernel_rfl) rfl, ?_⟩
  refine ⟨tiok (by kernel_rfl) (by kernel_rfl) rfl, ?_⟩
  refine ⟨tiok (by kernel_rfl) (by kernel_rfl) rfl, ?_⟩
  refine ⟨tiok (by kernel_rfl) (by kernel_rfl) rfl, ?_⟩
  refine ⟨tiok (by kernel_rfl) (by kernel_rfl) rfl, ?_⟩
  refine ⟨tiok (by kernel_rfl) (by kernel_rfl) rfl, ?_⟩
  refine ⟨tiok (by kernel_rfl) (by kernel_rfl) rfl, ?_⟩
  refine ⟨tiok (by kernel_rfl) (by kernel_rfl) rfl, ?_⟩
  refine ⟨tiok (by kernel_rfl) (by kernel_rfl) rfl, ?_⟩
  trivial
theorem mixed : Try.prog.follows .mixedOrders = true := by kernel_rfl
end Go.Proofs.Ytcinacfabkoeaaa

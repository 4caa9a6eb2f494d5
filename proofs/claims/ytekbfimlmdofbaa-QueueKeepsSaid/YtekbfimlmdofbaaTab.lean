/- Tab: the types of this program, as the abstract executor has them. -/
import Derived.Test.YtekbfimlmdofbaaVxByt
import Derived.Test.YtekbfimlmdofbaaRows
namespace Go.Proofs.Ytekbfimlmdofbaa
open Go.Vx

def ti2 : TI := ⟨.int .i64, .int .i64 0, 1, 8, false⟩
def ti3 : TI := ⟨.int .i64, .int .i64 0, 1, 8, false⟩
def ti4 : TI := ⟨.bool, .bool false, 1, 1, false⟩
def ti5 : TI := ⟨.int .u8, .int .u8 0, 1, 1, false⟩
def ti9 : TI := ⟨.string, .string ⟨#[]⟩, 1, 16, false⟩
def ti12 : TI := ⟨.int .u64, .int .u64 0, 1, 8, false⟩
def ti15 : TI := ⟨.pointer 65, .pointer none, 1, 8, false⟩
def ti16 : TI := ⟨.pointer 68, .pointer none, 1, 8, false⟩
def ti17 : TI := ⟨.pointer 77, .pointer none, 1, 8, false⟩
def ti20 : TI := ⟨.interface #[], .nilIface, 1, 16, false⟩
def ti21 : TI := ⟨.int .i32, .int .i32 0, 1, 4, false⟩
def ti22 : TI := ⟨.slice 5, .slice none 0 0, 1, 24, false⟩
def ti23 : TI := ⟨.struct #[⟨"Most", 3, 0, false, "", "", 0⟩, ⟨"Bytes", 22, 1, false, "", "", 8⟩], .agg #[.int .i64 0, .slice none 0 0], 2, 32, false⟩
def ti24 : TI := ⟨.struct #[⟨"Most", 3, 0, false, "", "", 0⟩, ⟨"Bytes", 22, 1, false, "", "", 8⟩], .agg #[.int .i64 0, .slice none 0 0], 2, 32, false⟩
def ti26 : TI := ⟨.int .i64, .int .i64 0, 1, 8, false⟩
def ti51 : TI := ⟨.slice 54, .slice none 0 0, 1, 24, false⟩
def ti53 : TI := ⟨.struct #[⟨"Text", 22, 0, false, "", "", 0⟩, ⟨"N", 3, 1, false, "", "", 24⟩], .agg #[.slice none 0 0, .int .i64 0], 2, 32, false⟩
def ti54 : TI := ⟨.struct #[⟨"Text", 22, 0, false, "", "", 0⟩, ⟨"N", 3, 1, false, "", "", 24⟩], .agg #[.slice none 0 0, .int .i64 0], 2, 32, false⟩
def ti56 : TI := ⟨.struct #[⟨"Most", 3, 0, false, "", "", 0⟩, ⟨"Bytes", 22, 1, false, "", "", 8⟩], .agg #[.int .i64 0, .slice none 0 0], 2, 32, false⟩
def ti66 : TI := ⟨.array 0 16, .agg #[], 0, 0, false⟩
def ti69 : TI := ⟨.int .u32, .int .u32 0, 1, 4, false⟩
def ti73 : TI := ⟨.pointer 5, .pointer none, 1, 8, false⟩
def ti76 : TI := ⟨.struct #[⟨"Size_", 12, 0, false, "", "", 0⟩, ⟨"PtrBytes", 12, 1, false, "", "", 8⟩, ⟨"Hash", 69, 2, false, "", "", 16⟩, ⟨"TFlag", 70, 3, false, "", "", 20⟩, ⟨"Align_", 5, 4, false, "", "", 21⟩, ⟨"FieldAlign_", 5, 5, false, "", "", 22⟩, ⟨"Kind_", 71, 6, false, "", "", 23⟩, ⟨"Equal", 72, 7, false, "", "", 24⟩, ⟨"GCData", 73, 8, false, "", "", 32⟩, ⟨"Str", 74, 9, false, "", "", 40⟩, ⟨"PtrToThis", 75, 10, false, "", "", 44⟩], .agg #[.int .u64 0, .int .u64 0, .int .u32 0, .int .u8 0, .int .u8 0, .int .u8 0, .int .u8 0, .nilFunc, .pointer none, .int .i32 0, .int .i32 0], 11, 48, false⟩
def Tl : List (Nat × TI) := [(2, ti2), (3, ti3), (4, ti4), (5, ti5), (9, ti9), (12, ti12), (15, ti15), (16, ti16), (17, ti17), (20, ti20), (21, ti21), (22, ti22), (23, ti23), (24, ti24), (26, ti26), (51, ti51), (53, ti53), (54, ti54), (56, ti56), (66, ti66), (69, ti69), (73, ti73), (76, ti76)]
/-- The table. -/
def T : TT := (.n (.n (.n (.n (.n .e (some ti15) .e) none (.n .e (some ti23) .e)) (some ti3) (.n (.n .e none (.n .e (some ti51) .e)) none .e)) none (.n (.n (.n .e (some ti17) .e) (some ti9) (.n (.n (.n .e (some ti73) .e) none .e) none .e)) (some ti5) (.n (.n (.n (.n .e (some ti69) .e) none .e) (some ti21) (.n .e (some ti53) .e)) none .e))) none (.n (.n (.n (.n .e (some ti16) .e) none (.n .e (some ti24) (.n .e (some ti56) .e))) (some ti4) (.n (.n .e (some ti20) .e) (some ti12) (.n (.n (.n .e (some ti76) .e) none .e) none .e))) (some ti2) (.n (.n (.n (.n (.n .e (some ti66) .e) none .e) none .e) none (.n .e (some ti26) .e)) none (.n (.n .e (some ti22) (.n .e (some ti54) .e)) none .e))))
set_option maxRecDepth 100000 in
theorem T_ok : TT.ok Try.prog T := by
  refine TT.ok_ofL (l := Tl) ?_ (by kernel_rfl)
  refine ⟨tiok (by kernel_rfl) (by kernel_rfl) rfl, ?_⟩
  refine ⟨tiok (by kernel_rfl) (by kernel_rfl) rfl, ?_⟩
  refine ⟨tiok (by kernel_rfl) (by kernel_rfl) rfl, ?_⟩
  refine ⟨tiok (by kernel_rfl) (by kernel_rfl) rfl, ?_⟩
  refine ⟨tiok (by kernel_rfl) (by kernel_rfl) rfl, ?_⟩
  refine ⟨tiok (by kernel_rfl) (by kernel_rfl) rfl, ?_⟩
  refine ⟨tiok (by kernel_rfl) (by kernel_rfl) rfl, ?_⟩
  refine ⟨tiok (by kernel_rfl) (by kernel_rfl) rfl, ?_⟩
  refine ⟨tiok (by kernel_rfl) (by kernel_rfl) rfl, ?_⟩
  refine ⟨tiok (by kernel_rfl) (by kernel_rfl) rfl, ?_⟩
  refine ⟨tiok (by kernel_rfl) (by kernel_rfl) rfl, ?_⟩
  refine ⟨tiok (by kernel_rfl) (by kernel_rfl) rfl, ?_⟩
  refine ⟨tiok (by kernel_rfl) (by kernel_rfl) rfl, ?_⟩
  refine ⟨tiok (by kernel_rfl) (by kernel_rfl) rfl, ?_⟩
  refine ⟨tiok (by kernel_rfl) (by kernel_rfl) rfl, ?_⟩
  refine ⟨tiok (by kernel_rfl) (by kernel_rfl) rfl, ?_⟩
  refine ⟨tiok (by kernel_rfl) (by kernel_rfl) rfl, ?_⟩
  refine ⟨tiok (by kernel_rfl) (by kernel_rfl) rfl, ?_⟩
  refine ⟨tiok (by kernel_rfl) (by kernel_rfl) rfl, ?_⟩
  refine ⟨tiok (by kernel_rfl) (by kernel_rfl) rfl, ?_⟩
  refine ⟨tiok (by kernel_rfl) (by kernel_rfl) rfl, ?_⟩
  refine ⟨tiok (by kernel_rfl) (by kernel_rfl) rfl, ?_⟩
  refine ⟨tiok (by kernel_rfl) (by kernel_rfl) rfl, ?_⟩
  trivial
theorem mixed : Try.prog.follows .mixedOrders = true := by kernel_rfl
end Go.Proofs.Ytekbfimlmdofbaa

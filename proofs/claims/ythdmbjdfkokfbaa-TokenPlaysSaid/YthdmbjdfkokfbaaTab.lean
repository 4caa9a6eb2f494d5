/- Tab: the types of this program, as the abstract executor has them. -/
import Derived.Test.YthdmbjdfkokfbaaVxByt
import Derived.Test.YthdmbjdfkokfbaaRows
namespace Go.Proofs.Ythdmbjdfkokfbaa
open Go.Vx

def ti2 : TI := ⟨.int .i64, .int .i64 0, 1, 8, false⟩
def ti3 : TI := ⟨.int .i64, .int .i64 0, 1, 8, false⟩
def ti4 : TI := ⟨.bool, .bool false, 1, 1, false⟩
def ti5 : TI := ⟨.int .u8, .int .u8 0, 1, 1, false⟩
def ti9 : TI := ⟨.string, .string ⟨#[]⟩, 1, 16, false⟩
def ti12 : TI := ⟨.int .u64, .int .u64 0, 1, 8, false⟩
def ti15 : TI := ⟨.pointer 76, .pointer none, 1, 8, false⟩
def ti16 : TI := ⟨.pointer 79, .pointer none, 1, 8, false⟩
def ti17 : TI := ⟨.pointer 88, .pointer none, 1, 8, false⟩
def ti20 : TI := ⟨.interface #[], .nilIface, 1, 16, false⟩
def ti21 : TI := ⟨.int .i32, .int .i32 0, 1, 4, false⟩
def ti22 : TI := ⟨.slice 5, .slice none 0 0, 1, 24, false⟩
def ti23 : TI := ⟨.slice 32, .slice none 0 0, 1, 24, false⟩
def ti24 : TI := ⟨.int .i64, .int .i64 0, 1, 8, false⟩
def ti31 : TI := ⟨.struct #[⟨"Lit", 5, 0, false, "", "", 0⟩, ⟨"Dist", 3, 1, false, "", "", 8⟩, ⟨"Long", 3, 2, false, "", "", 16⟩], .agg #[.int .u8 0, .int .i64 0, .int .i64 0], 3, 24, true⟩
def ti32 : TI := ⟨.struct #[⟨"Lit", 5, 0, false, "", "", 0⟩, ⟨"Dist", 3, 1, false, "", "", 8⟩, ⟨"Long", 3, 2, false, "", "", 16⟩], .agg #[.int .u8 0, .int .i64 0, .int .i64 0], 3, 24, true⟩
def ti35 : TI := ⟨.struct #[⟨"Size", 3, 0, false, "", "", 0⟩, ⟨"Chain", 3, 1, false, "", "", 8⟩, ⟨"Most", 3, 2, false, "", "", 16⟩, ⟨"Lazy", 4, 3, false, "", "", 24⟩], .agg #[.int .i64 0, .int .i64 0, .int .i64 0, .bool false], 4, 32, true⟩
def ti36 : TI := ⟨.struct #[⟨"Size", 3, 0, false, "", "", 0⟩, ⟨"Chain", 3, 1, false, "", "", 8⟩, ⟨"Most", 3, 2, false, "", "", 16⟩, ⟨"Lazy", 4, 3, false, "", "", 24⟩], .agg #[.int .i64 0, .int .i64 0, .int .i64 0, .bool false], 4, 32, true⟩
def ti48 : TI := ⟨.struct #[⟨"Lit", 5, 0, false, "", "", 0⟩, ⟨"Dist", 3, 1, false, "", "", 8⟩, ⟨"Long", 3, 2, false, "", "", 16⟩], .agg #[.int .u8 0, .int .i64 0, .int .i64 0], 3, 24, true⟩
def ti70 : TI := ⟨.int .u32, .int .u32 0, 1, 4, false⟩
def ti73 : TI := ⟨.int .u64, .int .u64 0, 1, 8, false⟩
def ti77 : TI := ⟨.array 0 16, .agg #[], 0, 0, false⟩
def ti84 : TI := ⟨.pointer 5, .pointer none, 1, 8, false⟩
def ti87 : TI := ⟨.struct #[⟨"Size_", 12, 0, false, "", "", 0⟩, ⟨"PtrBytes", 12, 1, false, "", "", 8⟩, ⟨"Hash", 70, 2, false, "", "", 16⟩, ⟨"TFlag", 81, 3, false, "", "", 20⟩, ⟨"Align_", 5, 4, false, "", "", 21⟩, ⟨"FieldAlign_", 5, 5, false, "", "", 22⟩, ⟨"Kind_", 82, 6, false, "", "", 23⟩, ⟨"Equal", 83, 7, false, "", "", 24⟩, ⟨"GCData", 84, 8, false, "", "", 32⟩, ⟨"Str", 85, 9, false, "", "", 40⟩, ⟨"PtrToThis", 86, 10, false, "", "", 44⟩], .agg #[.int .u64 0, .int .u64 0, .int .u32 0, .int .u8 0, .int .u8 0, .int .u8 0, .int .u8 0, .nilFunc, .pointer none, .int .i32 0, .int .i32 0], 11, 48, false⟩
def Tl : List (Nat × TI) := [(2, ti2), (3, ti3), (4, ti4), (5, ti5), (9, ti9), (12, ti12), (15, ti15), (16, ti16), (17, ti17), (20, ti20), (21, ti21), (22, ti22), (23, ti23), (24, ti24), (31, ti31), (32, ti32), (35, ti35), (36, ti36), (48, ti48), (70, ti70), (73, ti73), (77, ti77), (84, ti84), (87, ti87)]
/-- The table. -/
def T : TT := (.n (.n (.n (.n (.n (.n .e (some ti31) .e) (some ti15) .e) none (.n .e (some ti23) (.n (.n .e (some ti87) .e) none .e))) (some ti3) (.n (.n (.n .e (some ti35) .e) none .e) none .e)) none (.n (.n (.n .e (some ti17) .e) (some ti9) (.n (.n (.n .e (some ti73) .e) none .e) none .e)) (some ti5) (.n (.n .e (some ti21) .e) none (.n (.n (.n .e (some ti77) .e) none .e) none .e)))) none (.n (.n (.n (.n (.n .e (some ti32) .e) (some ti16) (.n .e (some ti48) .e)) none (.n .e (some ti24) .e)) (some ti4) (.n (.n (.n .e (some ti36) .e) (some ti20) (.n (.n .e (some ti84) .e) none .e)) (some ti12) .e)) (some ti2) (.n .e none (.n (.n (.n (.n .e (some ti70) .e) none .e) (some ti22) .e) none .e))))
set_option maxRecDepth 100000 in
theorem T_ok : TT.ok Try.prog T := by
  refine TT.ok_ofL (l := Tl) ?_ (by kernel_rfl)
  refine ⟨tiok (by kernel_rfl) (by kernel_rfl) rfl, ?_⟩
  refine ⟨tiok (by kernel_rfl) (by kernel_rfl) rfl, ?_⟩
  refine ⟨tiok (by kernel_rfl) (by kernel_rfl) rfl, ?_⟩
  refine ⟨tiok (by kernel_rfl) (by kernel_rfl) rfl, ?_⟩
  refine ⟨tiok (by kernel_rfl) (by kernel_rfl) rfl, ?_⟩
  refine ⟨tiok (by kernel_rfl) (by kernel_rfl) rfl, ?_⟩
  refine ⟨tiok (by kernel_rfl) (by kernel_rfl) rfl, ?_⟩
  refine ⟨tiok (by kernel_rfl) (by kernel_rfl) rfl, ?_⟩
  refine ⟨tiok (by kernel_rfl) (by kernel_rfl) rfl, ?_⟩
  refine ⟨tiok (by kernel_rfl) (by kernel_rfl) rfl, ?_⟩
  refine ⟨tiok (by kernel_rfl) (by kernel_rfl) rfl, ?_⟩
  refine ⟨tiok (by kernel_rfl) (by kernel_rfl) rfl, ?_⟩
  refine ⟨tiok (by kernel_rfl) (by kernel_rfl) rfl, ?_⟩
  refine ⟨tiok (by kernel_rfl) (by kernel_rfl) rfl, ?_⟩
  refine ⟨tiokP (by kernel_rfl) (by kernel_rfl) rfl (by kernel_rfl) (by kernel_rfl) (by kernel_rfl), ?_⟩
  refine ⟨tiokP (by kernel_rfl) (by kernel_rfl) rfl (by kernel_rfl) (by kernel_rfl) (by kernel_rfl), ?_⟩
  refine ⟨tiokP (by kernel_rfl) (by kernel_rfl) rfl (by kernel_rfl) (by kernel_rfl) (by kernel_rfl), ?_⟩
  refine ⟨tiokP (by kernel_rfl) (by kernel_rfl) rfl (by kernel_rfl) (by kernel_rfl) (by kernel_rfl), ?_⟩
  refine ⟨tiokP (by kernel_rfl) (by kernel_rfl) rfl (by kernel_rfl) (by kernel_rfl) (by kernel_rfl), ?_⟩
  refine ⟨tiok (by kernel_rfl) (by kernel_rfl) rfl, ?_⟩
  refine ⟨tiok (by kernel_rfl) (by kernel_rfl) rfl, ?_⟩
  refine ⟨tiok (by kernel_rfl) (by kernel_rfl) rfl, ?_⟩
  refine ⟨tiok (by kernel_rfl) (by kernel_rfl) rfl, ?_⟩
  refine ⟨tiok (by kernel_rfl) (by kernel_rfl) rfl, ?_⟩
  trivial
theorem mixed : Try.prog.follows .mixedOrders = true := by kernel_rfl
end Go.Proofs.Ythdmbjdfkokfbaa

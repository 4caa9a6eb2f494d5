/- Tab: the types of this program, as the abstract executor has them. -/
import Derived.Test.YthdmbjdfkokfbaaVxByt
import Derived.Test.YthdmbjdfkokfbaaRows
namespace Go.Proofs.Ythdmbjdfkokfbaa
open Go.Vx

def ti1 : TI := ⟨.func #[] #[] false, .nilFunc, 1, 8, false⟩
def ti2 : TI := ⟨.int .i64, .int .i64 0, 1, 8, false⟩
def ti3 : TI := ⟨.int .i64, .int .i64 0, 1, 8, false⟩
def ti4 : TI := ⟨.bool, .bool false, 1, 1, false⟩
def ti5 : TI := ⟨.int .u8, .int .u8 0, 1, 1, false⟩
def ti9 : TI := ⟨.string, .string ⟨#[]⟩, 1, 16, false⟩
def ti12 : TI := ⟨.int .u64, .int .u64 0, 1, 8, false⟩
def ti15 : TI := ⟨.pointer 76, .pointer none, 1, 8, false⟩
def ti16 : TI := ⟨.pointer 79, .pointer none, 1, 8, false⟩
def ti17 : TI := ⟨.pointer 88, .pointer none, 1, 8, false⟩
def ti20 : TI := ⟨.interface #[], .nilIface, 1, 16, false⟩
def ti21 : TI := ⟨.int .i32, .int .i32 0, 1, 4, false⟩
def ti22 : TI := ⟨.slice 5, .slice none 0 0, 1, 24, false⟩
def ti23 : TI := ⟨.slice 32, .slice none 0 0, 1, 24, false⟩
def ti24 : TI := ⟨.int .i64, .int .i64 0, 1, 8, false⟩
def ti26 : TI := ⟨.func #[22, 23] #[22, 24] false, .nilFunc, 1, 8, false⟩
def ti28 : TI := ⟨.func #[22, 23] #[22, 3] false, .nilFunc, 1, 8, false⟩
def ti29 : TI := ⟨.func #[23, 23] #[4] false, .nilFunc, 1, 8, false⟩
def ti30 : TI := ⟨.func #[32] #[24] false, .nilFunc, 1, 8, false⟩
def ti31 : TI := ⟨.struct #[⟨"Lit", 5, 0, false, "", "", 0⟩, ⟨"Dist", 3, 1, false, "", "", 8⟩, ⟨"Long", 3, 2, false, "", "", 16⟩], .agg #[.int .u8 0, .int .i64 0, .int .i64 0], 3, 24, true⟩
def ti32 : TI := ⟨.struct #[⟨"Lit", 5, 0, false, "", "", 0⟩, ⟨"Dist", 3, 1, false, "", "", 8⟩, ⟨"Long", 3, 2, false, "", "", 16⟩], .agg #[.int .u8 0, .int .i64 0, .int .i64 0], 3, 24, true⟩
def ti33 : TI := ⟨.func #[32] #[3] false, .nilFunc, 1, 8, false⟩
def ti34 : TI := ⟨.func #[22, 23] #[4] false, .nilFunc, 1, 8, false⟩
def ti35 : TI := ⟨.struct #[⟨"Size", 3, 0, false, "", "", 0⟩, ⟨"Chain", 3, 1, false, "", "", 8⟩, ⟨"Most", 3, 2, false, "", "", 16⟩, ⟨"Lazy", 4, 3, false, "", "", 24⟩], .agg #[.int .i64 0, .int .i64 0, .int .i64 0, .bool false], 4, 32, true⟩
def ti36 : TI := ⟨.struct #[⟨"Size", 3, 0, false, "", "", 0⟩, ⟨"Chain", 3, 1, false, "", "", 8⟩, ⟨"Most", 3, 2, false, "", "", 16⟩, ⟨"Lazy", 4, 3, false, "", "", 24⟩], .agg #[.int .i64 0, .int .i64 0, .int .i64 0, .bool false], 4, 32, true⟩
def ti38 : TI := ⟨.func #[22, 3, 36] #[23, 24] false, .nilFunc, 1, 8, false⟩
def ti40 : TI := ⟨.func #[22, 3, 36] #[23, 3] false, .nilFunc, 1, 8, false⟩
def ti41 : TI := ⟨.func #[36] #[24] false, .nilFunc, 1, 8, false⟩
def ti42 : TI := ⟨.func #[36] #[3] false, .nilFunc, 1, 8, false⟩
def ti43 : TI := ⟨.func #[22, 3, 36] #[4] false, .nilFunc, 1, 8, false⟩
def ti44 : TI := ⟨.func #[] #[4] false, .nilFunc, 1, 8, false⟩
def ti45 : TI := ⟨.func #[4] #[36] false, .nilFunc, 1, 8, false⟩
def ti46 : TI := ⟨.func #[9, 3, 4, 9] #[4] false, .nilFunc, 1, 8, false⟩
def ti47 : TI := ⟨.func #[22, 23, 3] #[4] false, .nilFunc, 1, 8, false⟩
def ti48 : TI := ⟨.struct #[⟨"Lit", 5, 0, false, "", "", 0⟩, ⟨"Dist", 3, 1, false, "", "", 8⟩, ⟨"Long", 3, 2, false, "", "", 16⟩], .agg #[.int .u8 0, .int .i64 0, .int .i64 0], 3, 24, true⟩
def ti49 : TI := ⟨.func #[32] #[4] false, .nilFunc, 1, 8, false⟩
def ti50 : TI := ⟨.func #[22, 3, 3] #[22] false, .nilFunc, 1, 8, false⟩
def ti51 : TI := ⟨.func #[49] #[] false, .nilFunc, 1, 8, false⟩
def ti52 : TI := ⟨.func #[49] #[] false, .nilFunc, 1, 8, false⟩
def ti53 : TI := ⟨.func #[22, 3, 36] #[52] false, .nilFunc, 1, 8, false⟩
def ti54 : TI := ⟨.func #[36] #[4] false, .nilFunc, 1, 8, false⟩
def ti55 : TI := ⟨.func #[22, 3, 36] #[23] false, .nilFunc, 1, 8, false⟩
def ti57 : TI := ⟨.func #[22, 3, 3, 3] #[3, 3, 24] false, .nilFunc, 1, 8, false⟩
def ti58 : TI := ⟨.func #[3] #[3, 3] false, .nilFunc, 1, 8, false⟩
def ti60 : TI := ⟨.func #[22, 3, 3, 3] #[3, 3] false, .nilFunc, 1, 8, false⟩
def ti61 : TI := ⟨.func #[22, 3] #[24] false, .nilFunc, 1, 8, false⟩
def ti62 : TI := ⟨.func #[66] #[] false, .nilFunc, 1, 8, false⟩
def ti63 : TI := ⟨.func #[66] #[] false, .nilFunc, 1, 8, false⟩
def ti64 : TI := ⟨.func #[22, 3, 3] #[63] false, .nilFunc, 1, 8, false⟩
def ti65 : TI := ⟨.func #[22, 3, 3] #[3] false, .nilFunc, 1, 8, false⟩
def ti66 : TI := ⟨.func #[3] #[4] false, .nilFunc, 1, 8, false⟩
def ti67 : TI := ⟨.func #[22, 22] #[3] false, .nilFunc, 1, 8, false⟩
def ti68 : TI := ⟨.func #[22, 5] #[3] false, .nilFunc, 1, 8, false⟩
def ti69 : TI := ⟨.func #[22, 22] #[4] false, .nilFunc, 1, 8, false⟩
def ti70 : TI := ⟨.int .u32, .int .u32 0, 1, 4, false⟩
def ti72 : TI := ⟨.func #[22] #[70, 70] false, .nilFunc, 1, 8, false⟩
def ti73 : TI := ⟨.int .u64, .int .u64 0, 1, 8, false⟩
def ti74 : TI := ⟨.func #[] #[9] false, .nilFunc, 1, 8, false⟩
def ti77 : TI := ⟨.array 0 16, .agg #[], 0, 0, false⟩
def ti80 : TI := ⟨.func #[] #[3] false, .nilFunc, 1, 8, false⟩
def ti83 : TI := ⟨.func #[89, 89] #[4] false, .nilFunc, 1, 8, false⟩
def ti84 : TI := ⟨.pointer 5, .pointer none, 1, 8, false⟩
def ti87 : TI := ⟨.struct #[⟨"Size_", 12, 0, false, "", "", 0⟩, ⟨"PtrBytes", 12, 1, false, "", "", 8⟩, ⟨"Hash", 70, 2, false, "", "", 16⟩, ⟨"TFlag", 81, 3, false, "", "", 20⟩, ⟨"Align_", 5, 4, false, "", "", 21⟩, ⟨"FieldAlign_", 5, 5, false, "", "", 22⟩, ⟨"Kind_", 82, 6, false, "", "", 23⟩, ⟨"Equal", 83, 7, false, "", "", 24⟩, ⟨"GCData", 84, 8, false, "", "", 32⟩, ⟨"Str", 85, 9, false, "", "", 40⟩, ⟨"PtrToThis", 86, 10, false, "", "", 44⟩], .agg #[.int .u64 0, .int .u64 0, .int .u32 0, .int .u8 0, .int .u8 0, .int .u8 0, .int .u8 0, .nilFunc, .pointer none, .int .i32 0, .int .i32 0], 11, 48, false⟩
def Tl : List (Nat × TI) := [(1, ti1), (2, ti2), (3, ti3), (4, ti4), (5, ti5), (9, ti9), (12, ti12), (15, ti15), (16, ti16), (17, ti17), (20, ti20), (21, ti21), (22, ti22), (23, ti23), (24, ti24), (26, ti26), (28, ti28), (29, ti29), (30, ti30), (31, ti31), (32, ti32), (33, ti33), (34, ti34), (35, ti35), (36, ti36), (38, ti38), (40, ti40), (41, ti41), (42, ti42), (43, ti43), (44, ti44), (45, ti45), (46, ti46), (47, ti47), (48, ti48), (49, ti49), (50, ti50), (51, ti51), (52, ti52), (53, ti53), (54, ti54), (55, ti55), (57, ti57), (58, ti58), (60, ti60), (61, ti61), (62, ti62), (63, ti63), (64, ti64), (65, ti65), (66, ti66), (67, ti67), (68, ti68), (69, ti69), (70, ti70), (72, ti72), (73, ti73), (74, ti74), (77, ti77), (80, ti80), (83, ti83), (84, ti84), (87, ti87)]
/-- The table. -/
def T : TT := (.n (.n (.n (.n (.n (.n (.n .e (some ti63) .e) (some ti31) .e) (some ti15) (.n .e (some ti47) .e)) none (.n .e (some ti23) (.n (.n .e (some ti87) .e) (some ti55) .e))) (some ti3) (.n (.n (.n (.n .e (some ti67) .e) (some ti35) .e) none (.n (.n .e (some ti83) .e) (some ti51) .e)) none (.n (.n .e (some ti43) .e) none .e))) (some ti1) (.n (.n (.n (.n (.n .e (some ti65) .e) (some ti33) .e) (some ti17) (.n .e (some ti49) .e)) (some ti9) (.n (.n (.n .e (some ti73) .e) (some ti41) .e) none (.n .e (some ti57) .e))) (some ti5) (.n (.n (.n (.n .e (some ti69) .e) none .e) (some ti21) (.n .e (some ti53) .e)) none (.n (.n (.n .e (some ti77) .e) (some ti45) .e) (some ti29) (.n .e (some ti61) .e))))) none (.n (.n (.n (.n (.n (.n .e (some ti64) .e) (some ti32) .e) (some ti16) (.n (.n .e (some ti80) .e) (some ti48) .e)) none (.n (.n (.n .e (some ti72) .e) (some ti40) .e) (some ti24) .e)) (some ti4) (.n (.n (.n (.n .e (some ti68) .e) (some ti36) .e) (some ti20) (.n (.n .e (some ti84) .e) (some ti52) .e)) (some ti12) (.n (.n .e (some ti44) .e) (some ti28) (.n .e (some ti60) .e)))) (some ti2) (.n (.n (.n (.n (.n .e (some ti66) .e) (some ti34) .e) none (.n .e (some ti50) .e)) none (.n (.n (.n .e (some ti74) .e) (some ti42) .e) (some ti26) (.n .e (some ti58) .e))) none (.n (.n (.n (.n .e (some ti70) .e) (some ti38) .e) (some ti22) (.n .e (some ti54) .e)) none (.n (.n .e (some ti46) .e) (some ti30) (.n .e (some ti62) .e))))))
set_option maxRecDepth 100000 in
theorem T_ok : TT.ok Try.prog T := by
  refine TT.ok_ofL (l := Tl) ?_ (by kernel_rfl)
  refine ⟨tiok (by kernel_rfl) (by kernel_rfl) rfl, ?_⟩
  refine ⟨tiok (by kernel_rfl) (by kernel_rfl) rfl, ?_⟩
  refine ⟨tiok (by kernel_rfl) (by kernel_rfl) rfl, ?_⟩
  refine ⟨tiok (by kernel_rfl) (by kernel_rfl) rfl, ?_⟩
  refine ⟨tiok (by kernel_rfl) (by kernel_rfl) rfl, ?_⟩
  refine ⟨tiok (by kernel_rfl) (by kernel_rfl) rfl, ?_⟩
  refine ⟨tiok (by kernel_rfl) (by kernel_rfl) rfl, ?_⟩
  refine ⟨tiok (by kernel_rfl) (by kernel_rfl) rfl, ?_⟩
  refine ⟨tiok (by kernel_rfl) (by kernel_rfl) rfl, ?_⟩
  refine ⟨tiok (by kernel_rfl) (by kernel_rfl) rfl, ?_⟩
  refine ⟨tiok (by kernel_rfl) (by kernel_rfl) rfl, ?_⟩
  refine ⟨tiok (by kernel_rfl) (by kernel_rfl) rfl, ?_⟩
  refine ⟨tiok (by kernel_rfl) (by kernel_rfl) rfl, ?_⟩
  refine ⟨tiok (by kernel_rfl) (by kernel_rfl) rfl, ?_⟩
  refine ⟨tiok (by kernel_rfl) (by kernel_rfl) rfl, ?_⟩
  refine ⟨tiok (by kernel_rfl) (by kernel_rfl) rfl, ?_⟩
  refine ⟨tiok (by kernel_rfl) (by kernel_rfl) rfl, ?_⟩
  refine ⟨tiok (by kernel_rfl) (by kernel_rfl) rfl, ?_⟩
  refine ⟨tiok (by kernel_rfl) (by kernel_rfl) rfl, ?_⟩
  refine ⟨tiokP (by kernel_rfl) (by kernel_rfl) rfl (by kernel_rfl) (by kernel_rfl) (by kernel_rfl), ?_⟩
  refine ⟨tiokP (by kernel_rfl) (by kernel_rfl) rfl (by kernel_rfl) (by kernel_rfl) (by kernel_rfl), ?_⟩
  refine ⟨tiok (by kernel_rfl) (by kernel_rfl) rfl, ?_⟩
  refine ⟨tiok (by kernel_rfl) (by kernel_rfl) rfl, ?_⟩
  refine ⟨tiokP (by kernel_rfl) (by kernel_rfl) rfl (by kernel_rfl) (by kernel_rfl) (by kernel_rfl), ?_⟩
  refine ⟨tiokP (by kernel_rfl) (by kernel_rfl) rfl (by kernel_rfl) (by kernel_rfl) (by kernel_rfl), ?_⟩
  refine ⟨tiok (by kernel_rfl) (by kernel_rfl) rfl, ?_⟩
  refine ⟨tiok (by kernel_rfl) (by kernel_rfl) rfl, ?_⟩
  refine ⟨tiok (by kernel_rfl) (by kernel_rfl) rfl, ?_⟩
  refine ⟨tiok (by kernel_rfl) (by kernel_rfl) rfl, ?_⟩
  refine ⟨tiok (by kernel_rfl) (by kernel_rfl) rfl, ?_⟩
  refine ⟨tiok (by kernel_rfl) (by kernel_rfl) rfl, ?_⟩
  refine ⟨tiok (by kernel_rfl) (by kernel_rfl) rfl, ?_⟩
  refine ⟨tiok (by kernel_rfl) (by kernel_rfl) rfl, ?_⟩
  refine ⟨tiok (by kernel_rfl) (by kernel_rfl) rfl, ?_⟩
  refine ⟨tiokP (by kernel_rfl) (by kernel_rfl) rfl (by kernel_rfl) (by kernel_rfl) (by kernel_rfl), ?_⟩
  refine ⟨tiok (by kernel_rfl) (by kernel_rfl) rfl, ?_⟩
  refine ⟨tiok (by kernel_rfl) (by kernel_rfl) rfl, ?_⟩
  refine ⟨tiok (by kernel_rfl) (by kernel_rfl) rfl, ?_⟩
  refine ⟨tiok (by kernel_rfl) (by kernel_rfl) rfl, ?_⟩
  refine ⟨tiok (by kernel_rfl) (by kernel_rfl) rfl, ?_⟩
  refine ⟨tiok (by kernel_rfl) (by kernel_rfl) rfl, ?_⟩
  refine ⟨tiok (by kernel_rfl) (by kernel_rfl) rfl, ?_⟩
  refine ⟨tiok (by kernel_rfl) (by kernel_rfl) rfl, ?_⟩
  refine ⟨tiok (by kernel_rfl) (by kernel_rfl) rfl, ?_⟩
  refine ⟨tiok (by kernel_rfl) (by kernel_rfl) rfl, ?_⟩
  refine ⟨tiok (by kernel_rfl) (by kernel_rfl) rfl, ?_⟩
  refine ⟨tiok (by kernel_rfl) (by kernel_rfl) rfl, ?_⟩
  refine ⟨tiok (by kernel_rfl) (by kernel_rfl) rfl, ?_⟩
  refine ⟨tiok (by kernel_rfl) (by kernel_rfl) rfl, ?_⟩
  refine ⟨tiok (by kernel_rfl) (by kernel_rfl) rfl, ?_⟩
  refine ⟨tiok (by kernel_rfl) (by kernel_rfl) rfl, ?_⟩
  refine ⟨tiok (by kernel_rfl) (by kernel_rfl) rfl, ?_⟩
  refine ⟨tiok (by kernel_rfl) (by kernel_rfl) rfl, ?_⟩
  refine ⟨tiok (by kernel_rfl) (by kernel_rfl) rfl, ?_⟩
  refine ⟨tiok (by kernel_rfl) (by kernel_rfl) rfl, ?_⟩
  refine ⟨tiok (by kernel_rfl) (by kernel_rfl) rfl, ?_⟩
  refine ⟨tiok (by kernel_rfl) (by kernel_rfl) rfl, ?_⟩
  refine ⟨tiok (by kernel_rfl) (by kernel_rfl) rfl, ?_⟩
  refine ⟨tiok (by kernel_rfl) (by kernel_rfl) rfl, ?_⟩
  refine ⟨tiok (by kernel_rfl) (by kernel_rfl) rfl, ?_⟩
  refine ⟨tiok (by kernel_rfl) (by kernel_rfl) rfl, ?_⟩
  refine ⟨tiok (by kernel_rfl) (by kernel_rfl) rfl, ?_⟩
  refine ⟨tiok (by kernel_rfl) (by kernel_rfl) rfl, ?_⟩
  trivial
theorem mixed : Try.prog.follows .mixedOrders = true := by kernel_rfl
end Go.Proofs.Ythdmbjdfkokfbaa

/- Tab: the types of this program, as the abstract executor has them. -/
import Derived.Test.YtmdejhgacknfhaaVxByt
import Derived.Test.YtmdejhgacknfhaaRows
namespace Go.Proofs.Ytmdejhgacknfhaa
open Go.Vx

def ti1 : TI := ⟨.func #[] #[] false, .nilFunc, 1, 8, false⟩
def ti2 : TI := ⟨.int .i64, .int .i64 0, 1, 8, false⟩
def ti3 : TI := ⟨.int .i64, .int .i64 0, 1, 8, false⟩
def ti4 : TI := ⟨.bool, .bool false, 1, 1, false⟩
def ti5 : TI := ⟨.int .u8, .int .u8 0, 1, 1, false⟩
def ti9 : TI := ⟨.string, .string ⟨#[]⟩, 1, 16, false⟩
def ti12 : TI := ⟨.int .u64, .int .u64 0, 1, 8, false⟩
def ti15 : TI := ⟨.pointer 84, .pointer none, 1, 8, false⟩
def ti16 : TI := ⟨.pointer 87, .pointer none, 1, 8, false⟩
def ti17 : TI := ⟨.pointer 96, .pointer none, 1, 8, false⟩
def ti20 : TI := ⟨.interface #[], .nilIface, 1, 16, false⟩
def ti21 : TI := ⟨.int .i32, .int .i32 0, 1, 4, false⟩
def ti22 : TI := ⟨.int .u32, .int .u32 0, 1, 4, false⟩
def ti23 : TI := ⟨.slice 5, .slice none 0 0, 1, 24, false⟩
def ti24 : TI := ⟨.struct #[⟨"Text", 4, 0, false, "", "", 0⟩, ⟨"Time", 22, 1, false, "", "", 4⟩, ⟨"Has", 4, 2, false, "", "", 8⟩, ⟨"Extra", 23, 3, false, "", "", 16⟩, ⟨"Name", 9, 4, false, "", "", 40⟩, ⟨"Comment", 9, 5, false, "", "", 56⟩, ⟨"Sum", 4, 6, false, "", "", 72⟩], .agg #[.bool false, .int .u32 0, .bool false, .slice none 0 0, .string ⟨#[]⟩, .string ⟨#[]⟩, .bool false], 7, 80, false⟩
def ti25 : TI := ⟨.struct #[⟨"Text", 4, 0, false, "", "", 0⟩, ⟨"Time", 22, 1, false, "", "", 4⟩, ⟨"Has", 4, 2, false, "", "", 8⟩, ⟨"Extra", 23, 3, false, "", "", 16⟩, ⟨"Name", 9, 4, false, "", "", 40⟩, ⟨"Comment", 9, 5, false, "", "", 56⟩, ⟨"Sum", 4, 6, false, "", "", 72⟩], .agg #[.bool false, .int .u32 0, .bool false, .slice none 0 0, .string ⟨#[]⟩, .string ⟨#[]⟩, .bool false], 7, 80, false⟩
def ti26 : TI := ⟨.func #[25, 23] #[4] false, .nilFunc, 1, 8, false⟩
def ti27 : TI := ⟨.int .i64, .int .i64 0, 1, 8, false⟩
def ti29 : TI := ⟨.func #[5, 25] #[23, 27] false, .nilFunc, 1, 8, false⟩
def ti31 : TI := ⟨.func #[5, 25] #[23, 3] false, .nilFunc, 1, 8, false⟩
def ti32 : TI := ⟨.func #[5, 23] #[23, 27] false, .nilFunc, 1, 8, false⟩
def ti33 : TI := ⟨.func #[5, 23] #[23, 3] false, .nilFunc, 1, 8, false⟩
def ti35 : TI := ⟨.func #[5, 22, 23] #[22, 27] false, .nilFunc, 1, 8, false⟩
def ti37 : TI := ⟨.func #[5, 22, 23] #[22, 3] false, .nilFunc, 1, 8, false⟩
def ti38 : TI := ⟨.func #[25] #[27] false, .nilFunc, 1, 8, false⟩
def ti39 : TI := ⟨.func #[25] #[3] false, .nilFunc, 1, 8, false⟩
def ti40 : TI := ⟨.func #[5, 25, 22, 23] #[4] false, .nilFunc, 1, 8, false⟩
def ti41 : TI := ⟨.func #[] #[4] false, .nilFunc, 1, 8, false⟩
def ti43 : TI := ⟨.func #[5, 23] #[25, 3, 27] false, .nilFunc, 1, 8, false⟩
def ti44 : TI := ⟨.func #[25, 25] #[4] false, .nilFunc, 1, 8, false⟩
def ti45 : TI := ⟨.func #[5, 25, 23, 3] #[4] false, .nilFunc, 1, 8, false⟩
def ti46 : TI := ⟨.func #[5, 23, 23] #[4] false, .nilFunc, 1, 8, false⟩
def ti48 : TI := ⟨.func #[5, 23, 22, 3] #[3, 27] false, .nilFunc, 1, 8, false⟩
def ti49 : TI := ⟨.func #[5, 9, 3, 27] #[4] false, .nilFunc, 1, 8, false⟩
def ti50 : TI := ⟨.func #[5] #[27] false, .nilFunc, 1, 8, false⟩
def ti51 : TI := ⟨.func #[4, 5, 23] #[23] true, .nilFunc, 1, 8, false⟩
def ti52 : TI := ⟨.func #[22, 3] #[23] false, .nilFunc, 1, 8, false⟩
def ti53 : TI := ⟨.slice 23, .slice none 0 0, 1, 24, false⟩
def ti54 : TI := ⟨.func #[53, 23] #[23] false, .nilFunc, 1, 8, false⟩
def ti55 : TI := ⟨.func #[23] #[22] false, .nilFunc, 1, 8, false⟩
def ti56 : TI := ⟨.func #[5] #[4] false, .nilFunc, 1, 8, false⟩
def ti57 : TI := ⟨.func #[25] #[4] false, .nilFunc, 1, 8, false⟩
def ti58 : TI := ⟨.func #[25] #[23] false, .nilFunc, 1, 8, false⟩
def ti59 : TI := ⟨.func #[5, 22, 22] #[23] false, .nilFunc, 1, 8, false⟩
def ti60 : TI := ⟨.func #[5] #[22] false, .nilFunc, 1, 8, false⟩
def ti61 : TI := ⟨.func #[5, 22, 3] #[23] false, .nilFunc, 1, 8, false⟩
def ti62 : TI := ⟨.func #[22, 23] #[22] false, .nilFunc, 1, 8, false⟩
def ti63 : TI := ⟨.func #[64, 22, 23] #[22] false, .nilFunc, 1, 8, false⟩
def ti64 : TI := ⟨.array 256 22, .agg (Array.replicate 256 (.int .u32 0)), 256, 1024, false⟩
def ti65 : TI := ⟨.func #[] #[64] false, .nilFunc, 1, 8, false⟩
def ti66 : TI := ⟨.func #[9] #[4] false, .nilFunc, 1, 8, false⟩
def ti67 : TI := ⟨.pointer 69, .pointer none, 1, 8, false⟩
def ti68 : TI := ⟨.struct #[⟨"Label", 25, 0, true, "", "", 0⟩, ⟨"b", 23, 7, false, "", "bellows/wrap", 80⟩, ⟨"used", 3, 8, false, "", "bellows/wrap", 104⟩, ⟨"e", 27, 9, false, "", "bellows/wrap", 112⟩], .agg #[.bool false, .int .u32 0, .bool false, .slice none 0 0, .string ⟨#[]⟩, .string ⟨#[]⟩, .bool false, .slice none 0 0, .int .i64 0, .int .i64 0], 10, 120, false⟩
def ti69 : TI := ⟨.struct #[⟨"Label", 25, 0, true, "", "", 0⟩, ⟨"b", 23, 7, false, "", "bellows/wrap", 80⟩, ⟨"used", 3, 8, false, "", "bellows/wrap", 104⟩, ⟨"e", 27, 9, false, "", "bellows/wrap", 112⟩], .agg #[.bool false, .int .u32 0, .bool false, .slice none 0 0, .string ⟨#[]⟩, .string ⟨#[]⟩, .bool false, .slice none 0 0, .int .i64 0, .int .i64 0], 10, 120, false⟩
def ti70 : TI := ⟨.func #[23, 23] #[4] false, .nilFunc, 1, 8, false⟩
def ti71 : TI := ⟨.func #[3] #[23] false, .nilFunc, 1, 8, false⟩
def ti72 : TI := ⟨.func #[25] #[5] false, .nilFunc, 1, 8, false⟩
def ti73 : TI := ⟨.func #[22] #[23] false, .nilFunc, 1, 8, false⟩
def ti74 : TI := ⟨.int .u64, .int .u64 0, 1, 8, false⟩
def ti75 : TI := ⟨.func #[22] #[22] false, .nilFunc, 1, 8, false⟩
def ti76 : TI := ⟨.int .u64, .int .u64 0, 1, 8, false⟩
def ti77 : TI := ⟨.func #[3] #[22] false, .nilFunc, 1, 8, false⟩
def ti78 : TI := ⟨.func #[9, 5] #[3] false, .nilFunc, 1, 8, false⟩
def ti79 : TI := ⟨.func #[] #[5] false, .nilFunc, 1, 8, false⟩
def ti80 : TI := ⟨.func #[4] #[] false, .nilFunc, 1, 8, false⟩
def ti81 : TI := ⟨.array 3 5, .agg #[.int .u8 0, .int .u8 0, .int .u8 0], 3, 3, false⟩
def ti82 : TI := ⟨.func #[] #[9] false, .nilFunc, 1, 8, false⟩
def ti85 : TI := ⟨.array 0 16, .agg #[], 0, 0, false⟩
def ti88 : TI := ⟨.func #[] #[3] false, .nilFunc, 1, 8, false⟩
def ti91 : TI := ⟨.func #[97, 97] #[4] false, .nilFunc, 1, 8, false⟩
def ti92 : TI := ⟨.pointer 5, .pointer none, 1, 8, false⟩
def ti95 : TI := ⟨.struct #[⟨"Size_", 12, 0, false, "", "", 0⟩, ⟨"PtrBytes", 12, 1, false, "", "", 8⟩, ⟨"Hash", 22, 2, false, "", "", 16⟩, ⟨"TFlag", 89, 3, false, "", "", 20⟩, ⟨"Align_", 5, 4, false, "", "", 21⟩, ⟨"FieldAlign_", 5, 5, false, "", "", 22⟩, ⟨"Kind_", 90, 6, false, "", "", 23⟩, ⟨"Equal", 91, 7, false, "", "", 24⟩, ⟨"GCData", 92, 8, false, "", "", 32⟩, ⟨"Str", 93, 9, false, "", "", 40⟩, ⟨"PtrToThis", 94, 10, false, "", "", 44⟩], .agg #[.int .u64 0, .int .u64 0, .int .u32 0, .int .u8 0, .int .u8 0, .int .u8 0, .int .u8 0, .nilFunc, .pointer none, .int .i32 0, .int .i32 0], 11, 48, false⟩
def Tl : List (Nat × TI) := [(1, ti1), (2, ti2), (3, ti3), (4, ti4), (5, ti5), (9, ti9), (12, ti12), (15, ti15), (16, ti16), (17, ti17), (20, ti20), (21, ti21), (22, ti22), (23, ti23), (24, ti24), (25, ti25), (26, ti26), (27, ti27), (29, ti29), (31, ti31), (32, ti32), (33, ti33), (35, ti35), (37, ti37), (38, ti38), (39, ti39), (40, ti40), (41, ti41), (43, ti43), (44, ti44), (45, ti45), (46, ti46), (48, ti48), (49, ti49), (50, ti50), (51, ti51), (52, ti52), (53, ti53), (54, ti54), (55, ti55), (56, ti56), (57, ti57), (58, ti58), (59, ti59), (60, ti60), (61, ti61), (62, ti62), (63, ti63), (64, ti64), (65, ti65), (66, ti66), (67, ti67), (68, ti68), (69, ti69), (70, ti70), (71, ti71), (72, ti72), (73, ti73), (74, ti74), (75, ti75), (76, ti76), (77, ti77), (78, ti78), (79, ti79), (80, ti80), (81, ti81), (82, ti82), (85, ti85), (88, ti88), (91, ti91), (92, ti92), (95, ti95)]
/-- The table. -/
def T : TT := (.n (.n (.n (.n (.n (.n (.n .e (some ti63) .e) (some ti31) (.n .e (some ti95) .e)) (some ti15) (.n (.n .e (some ti79) .e) none .e)) none (.n (.n (.n .e (some ti71) .e) (some ti39) .e) (some ti23) (.n .e (some ti55) .e))) (some ti3) (.n (.n (.n (.n .e (some ti67) .e) (some ti35) .e) none (.n .e (some ti51) .e)) none (.n (.n (.n .e (some ti75) .e) (some ti43) .e) (some ti27) (.n (.n .e (some ti91) .e) (some ti59) .e)))) (some ti1) (.n (.n (.n (.n (.n .e (some ti65) .e) (some ti33) .e) (some ti17) (.n (.n .e (some ti81) .e) (some ti49) .e)) (some ti9) (.n (.n (.n .e (some ti73) .e) (some ti41) .e) (some ti25) (.n .e (some ti57) .e))) (some ti5) (.n (.n (.n (.n .e (some ti69) .e) (some ti37) .e) (some ti21) (.n (.n .e (some ti85) .e) (some ti53) .e)) none (.n (.n (.n .e (some ti77) .e) (some ti45) .e) (some ti29) (.n .e (some ti61) .e))))) none (.n (.n (.n (.n (.n (.n .e (some ti64) .e) (some ti32) .e) (some ti16) (.n (.n .e (some ti80) .e) (some ti48) .e)) none (.n (.n (.n .e (some ti72) .e) (some ti40) .e) (some ti24) (.n (.n .e (some ti88) .e) (some ti56) .e))) (some ti4) (.n (.n (.n (.n .e (some ti68) .e) none .e) (some ti20) (.n .e (some ti52) .e)) (some ti12) (.n (.n (.n .e (some ti76) .e) (some ti44) .e) none (.n (.n .e (some ti92) .e) (some ti60) .e)))) (some ti2) (.n (.n (.n (.n (.n .e (some ti66) .e) none .e) none (.n (.n .e (some ti82) .e) (some ti50) .e)) none (.n (.n (.n .e (some ti74) .e) none .e) (some ti26) (.n .e (some ti58) .e))) none (.n (.n (.n (.n .e (some ti70) .e) (some ti38) .e) (some ti22) (.n .e (some ti54) .e)) none (.n (.n (.n .e (some ti78) .e) (some ti46) .e) none (.n .e (some ti62) .e))))))
set_option maxRecDepth 100000 in
theorem T_ok : TT.ok Try.prog T := by
  refine TT.ok_ofL (l := Tl) ?_ (by kernel_rfl)
  refine ⟨tiok (by kernel_rfl) (by kernel_rfl) rfl, ?_⟩
  refine ⟨tiok (by kernel_rfl) (by kernel_rfl) rfl, ?_⟩
  refine ⟨tiok (by kernel_rfl) (by kernel_rfl) rfl, ?_⟩
  refine ⟨tiok (by kernel_rfl) (by kernel_rfl) rfl, ?_⟩
  refine ⟨tiok (by kernel_rfl) (by kernel_rfl) rfl, ?_⟩
  refine ⟨tiok (by kernel_rfl) (by kernel_rfl) rfl, ?_⟩
  refine ⟨tiok (by kernel_rfl) (by kernel_rfl) rfl, ?_⟩
  refine ⟨tiok (by kernel_rfl) (by kernel_rfl) rfl, ?_⟩
  refine ⟨tiok (by kernel_rfl) (by kernel_rfl) rfl, ?_⟩
  refine ⟨tiok (by kernel_rfl) (by kernel_rfl) rfl, ?_⟩
  refine ⟨tiok (by kernel_rfl) (by kernel_rfl) rfl, ?_⟩
  refine ⟨tiok (by kernel_rfl) (by kernel_rfl) rfl, ?_⟩
  refine ⟨tiok (by kernel_rfl) (by kernel_rfl) rfl, ?_⟩
  refine ⟨tiok (by kernel_rfl) (by kernel_rfl) rfl, ?_⟩
  refine ⟨tiok (by kernel_rfl) (by kernel_rfl) rfl, ?_⟩
  refine ⟨tiok (by kernel_rfl) (by kernel_rfl) rfl, ?_⟩
  refine ⟨tiok (by kernel_rfl) (by kernel_rfl) rfl, ?_⟩
  refine ⟨tiok (by kernel_rfl) (by kernel_rfl) rfl, ?_⟩
  refine ⟨tiok (by kernel_rfl) (by kernel_rfl) rfl, ?_⟩
  refine ⟨tiok (by kernel_rfl) (by kernel_rfl) rfl, ?_⟩
  refine ⟨tiok (by kernel_rfl) (by kernel_rfl) rfl, ?_⟩
  refine ⟨tiok (by kernel_rfl) (by kernel_rfl) rfl, ?_⟩
  refine ⟨tiok (by kernel_rfl) (by kernel_rfl) rfl, ?_⟩
  refine ⟨tiok (by kernel_rfl) (by kernel_rfl) rfl, ?_⟩
  refine ⟨tiok (by kernel_rfl) (by kernel_rfl) rfl, ?_⟩
  refine ⟨tiok (by kernel_rfl) (by kernel_rfl) rfl, ?_⟩
  refine ⟨tiok (by kernel_rfl) (by kernel_rfl) rfl, ?_⟩
  refine ⟨tiok (by kernel_rfl) (by kernel_rfl) rfl, ?_⟩
  refine ⟨tiok (by kernel_rfl) (by kernel_rfl) rfl, ?_⟩
  refine ⟨tiok (by kernel_rfl) (by kernel_rfl) rfl, ?_⟩
  refine ⟨tiok (by kernel_rfl) (by kernel_rfl) rfl, ?_⟩
  refine ⟨tiok (by kernel_rfl) (by kernel_rfl) rfl, ?_⟩
  refine ⟨tiok (by kernel_rfl) (by kernel_rfl) rfl, ?_⟩
  refine ⟨tiok (by kernel_rfl) (by kernel_rfl) rfl, ?_⟩
  refine ⟨tiok (by kernel_rfl) (by kernel_rfl) rfl, ?_⟩
  refine ⟨tiok (by kernel_rfl) (by kernel_rfl) rfl, ?_⟩
  refine ⟨tiok (by kernel_rfl) (by kernel_rfl) rfl, ?_⟩
  refine ⟨tiok (by kernel_rfl) (by kernel_rfl) rfl, ?_⟩
  refine ⟨tiok (by kernel_rfl) (by kernel_rfl) rfl, ?_⟩
  refine ⟨tiok (by kernel_rfl) (by kernel_rfl) rfl, ?_⟩
  refine ⟨tiok (by kernel_rfl) (by kernel_rfl) rfl, ?_⟩
  refine ⟨tiok (by kernel_rfl) (by kernel_rfl) rfl, ?_⟩
  refine ⟨tiok (by kernel_rfl) (by kernel_rfl) rfl, ?_⟩
  refine ⟨tiok (by kernel_rfl) (by kernel_rfl) rfl, ?_⟩
  refine ⟨tiok (by kernel_rfl) (by kernel_rfl) rfl, ?_⟩
  refine ⟨tiok (by kernel_rfl) (by kernel_rfl) rfl, ?_⟩
  refine ⟨tiok (by kernel_rfl) (by kernel_rfl) rfl, ?_⟩
  refine ⟨tiok (by kernel_rfl) (by kernel_rfl) rfl, ?_⟩
  refine ⟨tiok (by kernel_rfl) (by kernel_rfl) rfl, ?_⟩
  refine ⟨tiok (by kernel_rfl) (by kernel_rfl) rfl, ?_⟩
  refine ⟨tiok (by kernel_rfl) (by kernel_rfl) rfl, ?_⟩
  refine ⟨tiok (by kernel_rfl) (by kernel_rfl) rfl, ?_⟩
  refine ⟨tiok (by kernel_rfl) (by kernel_rfl) rfl, ?_⟩
  refine ⟨tiok (by kernel_rfl) (by kernel_rfl) rfl, ?_⟩
  refine ⟨tiok (by kernel_rfl) (by kernel_rfl) rfl, ?_⟩
  refine ⟨tiok (by kernel_rfl) (by kernel_rfl) rfl, ?_⟩
  refine ⟨tiok (by kernel_rfl) (by kernel_rfl) rfl, ?_⟩
  refine ⟨tiok (by kernel_rfl) (by kernel_rfl) rfl, ?_⟩
  refine ⟨tiok (by kernel_rfl) (by kernel_rfl) rfl, ?_⟩
  refine ⟨tiok (by kernel_rfl) (by kernel_rfl) rfl, ?_⟩
  refine ⟨tiok (by kernel_rfl) (by kernel_rfl) rfl, ?_⟩
  refine ⟨tiok (by kernel_rfl) (by kernel_rfl) rfl, ?_⟩
  refine ⟨tiok (by kernel_rfl) (by kernel_rfl) rfl, ?_⟩
  refine ⟨tiok (by kernel_rfl) (by kernel_rfl) rfl, ?_⟩
  refine ⟨tiok (by kernel_rfl) (by kernel_rfl) rfl, ?_⟩
  refine ⟨tiok (by kernel_rfl) (by kernel_rfl) rfl, ?_⟩
  refine ⟨tiok (by kernel_rfl) (by kernel_rfl) rfl, ?_⟩
  refine ⟨tiok (by kernel_rfl) (by kernel_rfl) rfl, ?_⟩
  refine ⟨tiok (by kernel_rfl) (by kernel_rfl) rfl, ?_⟩
  refine ⟨tiok (by kernel_rfl) (by kernel_rfl) rfl, ?_⟩
  refine ⟨tiok (by kernel_rfl) (by kernel_rfl) rfl, ?_⟩
  refine ⟨tiok (by kernel_rfl) (by kernel_rfl) rfl, ?_⟩
  trivial
theorem mixed : Try.prog.follows .mixedOrders = true := by kernel_rfl
end Go.Proofs.Ytmdejhgacknfhaa

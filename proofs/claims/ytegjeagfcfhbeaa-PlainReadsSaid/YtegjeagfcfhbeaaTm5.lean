/- Part 5. -/
import Derived.Test.YtegjeagfcfhbeaaTm4
import Derived.Test.YtegjeagfcfhbeaaRows
set_option linter.unusedVariables false
set_option linter.unusedSimpArgs false
set_option maxRecDepth 100000
set_option maxHeartbeats 4000000
namespace Go.Proofs.Ytegjeagfcfhbeaa
open Go.Vx

def ti1 : TI := ⟨.func #[] #[] false, .nilFunc, 1, 8, false⟩
def ti2 : TI := ⟨.int .i64, .int .i64 0, 1, 8, false⟩
def ti3 : TI := ⟨.int .i64, .int .i64 0, 1, 8, false⟩
def ti4 : TI := ⟨.bool, .bool false, 1, 1, false⟩
def ti5 : TI := ⟨.int .u8, .int .u8 0, 1, 1, false⟩
def ti9 : TI := ⟨.string, .string ⟨#[]⟩, 1, 16, false⟩
def ti12 : TI := ⟨.int .u64, .int .u64 0, 1, 8, false⟩
def ti15 : TI := ⟨.pointer 237, .pointer none, 1, 8, false⟩
def ti16 : TI := ⟨.pointer 240, .pointer none, 1, 8, false⟩
def ti17 : TI := ⟨.pointer 248, .pointer none, 1, 8, false⟩
def ti20 : TI := ⟨.interface #[], .nilIface, 1, 16, false⟩
def ti21 : TI := ⟨.int .i32, .int .i32 0, 1, 4, false⟩
def ti22 : TI := ⟨.slice 5, .slice none 0 0, 1, 24, false⟩
def ti23 : TI := ⟨.array 16 3, .agg #[.int .i64 0, .int .i64 0, .int .i64 0, .int .i64 0, .int .i64 0, .int .i64 0, .int .i64 0, .int .i64 0, .int .i64 0, .int .i64 0, .int .i64 0, .int .i64 0, .int .i64 0, .int .i64 0, .int .i64 0, .int .i64 0], 16, 128, true⟩
def ti24 : TI := ⟨.slice 3, .slice none 0 0, 1, 24, false⟩
def ti25 : TI := ⟨.struct #[⟨"Count", 23, 0, false, "", "", 0⟩, ⟨"Syms", 24, 16, false, "", "", 128⟩], .agg #[.int .i64 0, .int .i64 0, .int .i64 0, .int .i64 0, .int .i64 0, .int .i64 0, .int .i64 0, .int .i64 0, .int .i64 0, .int .i64 0, .int .i64 0, .int .i64 0, .int .i64 0, .int .i64 0, .int .i64 0, .int .i64 0, .slice none 0 0], 17, 152, false⟩
def ti26 : TI := ⟨.struct #[⟨"Count", 23, 0, false, "", "", 0⟩, ⟨"Syms", 24, 16, false, "", "", 128⟩], .agg #[.int .i64 0, .int .i64 0, .int .i64 0, .int .i64 0, .int .i64 0, .int .i64 0, .int .i64 0, .int .i64 0, .int .i64 0, .int .i64 0, .int .i64 0, .int .i64 0, .int .i64 0, .int .i64 0, .int .i64 0, .int .i64 0, .slice none 0 0], 17, 152, false⟩
def ti27 : TI := ⟨.struct #[⟨"Kind", 5, 0, false, "", "", 0⟩, ⟨"Last", 4, 1, false, "", "", 1⟩, ⟨"Left", 3, 2, false, "", "", 8⟩, ⟨"Longs", 26, 3, false, "", "", 16⟩, ⟨"Fars", 26, 20, false, "", "", 168⟩], .agg #[.int .u8 0, .bool false, .int .i64 0, .int .i64 0, .int .i64 0, .int .i64 0, .int .i64 0, .int .i64 0, .int .i64 0, .int .i64 0, .int .i64 0, .int .i64 0, .int .i64 0, .int .i64 0, .int .i64 0, .int .i64 0, .int .i64 0, .int .i64 0, .int .i64 0, .slice none 0 0, .int .i64 0, .int .i64 0, .int .i64 0, .int .i64 0, .int .i64 0, .int .i64 0, .int .i64 0, .int .i64 0, .int .i64 0, .int .i64 0, .int .i64 0, .int .i64 0, .int .i64 0, .int .i64 0, .int .i64 0, .int .i64 0, .slice none 0 0], 37, 320, false⟩
def ti28 : TI := ⟨.struct #[⟨"Kind", 5, 0, false, "", "", 0⟩, ⟨"Last", 4, 1, false, "", "", 1⟩, ⟨"Left", 3, 2, false, "", "", 8⟩, ⟨"Longs", 26, 3, false, "", "", 16⟩, ⟨"Fars", 26, 20, false, "", "", 168⟩], .agg #[.int .u8 0, .bool false, .int .i64 0, .int .i64 0, .int .i64 0, .int .i64 0, .int .i64 0, .int .i64 0, .int .i64 0, .int .i64 0, .int .i64 0, .int .i64 0, .int .i64 0, .int .i64 0, .int .i64 0, .int .i64 0, .int .i64 0, .int .i64 0, .int .i64 0, .slice none 0 0, .int .i64 0, .int .i64 0, .int .i64 0, .int .i64 0, .int .i64 0, .int .i64 0, .int .i64 0, .int .i64 0, .int .i64 0, .int .i64 0, .int .i64 0, .int .i64 0, .int .i64 0, .int .i64 0, .int .i64 0, .int .i64 0, .slice none 0 0], 37, 320, false⟩
def ti29 : TI := ⟨.func #[22] #[4] false, .nilFunc, 1, 8, false⟩
def ti30 : TI := ⟨.int .i64, .int .i64 0, 1, 8, false⟩
def ti32 : TI := ⟨.func #[22, 3] #[28, 3, 30] false, .nilFunc, 1, 8, false⟩
def ti34 : TI := ⟨.func #[22, 3] #[28, 3, 3] false, .nilFunc, 1, 8, false⟩
def ti35 : TI := ⟨.struct #[⟨"Lit", 5, 0, false, "", "", 0⟩, ⟨"Dist", 3, 1, false, "", "", 8⟩, ⟨"Long", 3, 2, false, "", "", 16⟩], .agg #[.int .u8 0, .int .i64 0, .int .i64 0], 3, 24, true⟩
def ti36 : TI := ⟨.struct #[⟨"Lit", 5, 0, false, "", "", 0⟩, ⟨"Dist", 3, 1, false, "", "", 8⟩, ⟨"Long", 3, 2, false, "", "", 16⟩], .agg #[.int .u8 0, .int .i64 0, .int .i64 0], 3, 24, true⟩
def ti38 : TI := ⟨.func #[28, 22, 3] #[36, 4, 3, 30] false, .nilFunc, 1, 8, false⟩
def ti40 : TI := ⟨.func #[28, 22, 3] #[36, 4, 3, 3] false, .nilFunc, 1, 8, false⟩
def ti41 : TI := ⟨.func #[28, 28] #[4] false, .nilFunc, 1, 8, false⟩
def ti42 : TI := ⟨.func #[28] #[30] false, .nilFunc, 1, 8, false⟩
def ti43 : TI := ⟨.func #[28] #[3] false, .nilFunc, 1, 8, false⟩
def ti44 : TI := ⟨.func #[22, 3, 28] #[4] false, .nilFunc, 1, 8, false⟩
def ti45 : TI := ⟨.func #[] #[4] false, .nilFunc, 1, 8, false⟩
def ti47 : TI := ⟨.func #[22, 3, 3] #[22, 3, 30] false, .nilFunc, 1, 8, false⟩
def ti48 : TI := ⟨.func #[22, 3, 3, 3] #[4] false, .nilFunc, 1, 8, false⟩
def ti50 : TI := ⟨.func #[22, 3, 3] #[22, 3, 3] false, .nilFunc, 1, 8, false⟩
def ti52 : TI := ⟨.func #[22, 3] #[22, 30] false, .nilFunc, 1, 8, false⟩
def ti54 : TI := ⟨.func #[22, 3] #[22, 3] false, .nilFunc, 1, 8, false⟩
def ti55 : TI := ⟨.func #[22, 3, 3] #[4] false, .nilFunc, 1, 8, false⟩
def ti56 : TI := ⟨.func #[9, 3, 9, 3] #[4] false, .nilFunc, 1, 8, false⟩
def ti57 : TI := ⟨.func #[9, 3, 30] #[4] false, .nilFunc, 1, 8, false⟩
def ti58 : TI := ⟨.slice 36, .slice none 0 0, 1, 24, false⟩
def ti59 : TI := ⟨.struct #[⟨"Bytes", 22, 0, false, "", "", 0⟩, ⟨"Bits", 3, 1, false, "", "", 24⟩], .agg #[.slice none 0 0, .int .i64 0], 2, 32, false⟩
def ti60 : TI := ⟨.struct #[⟨"Bytes", 22, 0, false, "", "", 0⟩, ⟨"Bits", 3, 1, false, "", "", 24⟩], .agg #[.slice none 0 0, .int .i64 0], 2, 32, false⟩
def ti62 : TI := ⟨.func #[60, 5, 22, 58, 4] #[60, 30] false, .nilFunc, 1, 8, false⟩
def ti63 : TI := ⟨.func #[58, 58] #[4] false, .nilFunc, 1, 8, false⟩
def ti64 : TI := ⟨.func #[5, 22, 58, 4] #[4] false, .nilFunc, 1, 8, false⟩
def ti65 : TI := ⟨.pointer 70, .pointer none, 1, 8, false⟩
def ti67 : TI := ⟨.func #[22, 3] #[65, 30] false, .nilFunc, 1, 8, false⟩
def ti68 : TI := ⟨.func #[] #[28] false, .nilFunc, 1, 8, false⟩
def ti69 : TI := ⟨.struct #[⟨"b", 22, 0, false, "", "bellows/plain", 0⟩, ⟨"at", 3, 1, false, "", "bellows/plain", 24⟩, ⟨"e", 30, 2, false, "", "bellows/plain", 32⟩], .agg #[.slice none 0 0, .int .i64 0, .int .i64 0], 3, 40, false⟩
def ti70 : TI := ⟨.struct #[⟨"b", 22, 0, false, "", "bellows/plain", 0⟩, ⟨"at", 3, 1, false, "", "bellows/plain", 24⟩, ⟨"e", 30, 2, false, "", "bellows/plain", 32⟩], .agg #[.slice none 0 0, .int .i64 0, .int .i64 0], 3, 40, false⟩
def ti71 : TI := ⟨.func #[22, 3] #[3] false, .nilFunc, 1, 8, false⟩
def ti72 : TI := ⟨.struct #[⟨"Kind", 5, 0, false, "", "", 0⟩, ⟨"Last", 4, 1, false, "", "", 1⟩, ⟨"Left", 3, 2, false, "", "", 8⟩, ⟨"Longs", 22, 3, false, "", "", 16⟩, ⟨"Fars", 22, 4, false, "", "", 40⟩], .agg #[.int .u8 0, .bool false, .int .i64 0, .slice none 0 0, .slice none 0 0], 5, 64, false⟩
def ti73 : TI := ⟨.struct #[⟨"Kind", 5, 0, false, "", "", 0⟩, ⟨"Last", 4, 1, false, "", "", 1⟩, ⟨"Left", 3, 2, false, "", "", 8⟩, ⟨"Longs", 22, 3, false, "", "", 16⟩, ⟨"Fars", 22, 4, false, "", "", 40⟩], .agg #[.int .u8 0, .bool false, .int .i64 0, .slice none 0 0, .slice none 0 0], 5, 64, false⟩
def ti75 : TI := ⟨.func #[22, 3] #[73, 3, 3] false, .nilFunc, 1, 8, false⟩
def ti76 : TI := ⟨.func #[73] #[28] false, .nilFunc, 1, 8, false⟩
def ti78 : TI := ⟨.func #[28] #[36, 4] false, .nilFunc, 1, 8, false⟩
def ti79 : TI := ⟨.func #[73, 22, 3] #[36, 4, 3, 3] false, .nilFunc, 1, 8, false⟩
def ti80 : TI := ⟨.func #[28] #[73] false, .nilFunc, 1, 8, false⟩
def ti81 : TI := ⟨.func #[26, 26] #[4] false, .nilFunc, 1, 8, false⟩
def ti82 : TI := ⟨.func #[26] #[30] false, .nilFunc, 1, 8, false⟩
def ti83 : TI := ⟨.func #[26] #[3] false, .nilFunc, 1, 8, false⟩
def ti84 : TI := ⟨.func #[3] #[22] false, .nilFunc, 1, 8, false⟩
def ti85 : TI := ⟨.func #[60] #[30] false, .nilFunc, 1, 8, false⟩
def ti86 : TI := ⟨.func #[5, 22, 58] #[30] false, .nilFunc, 1, 8, false⟩
def ti87 : TI := ⟨.pointer 93, .pointer none, 1, 8, false⟩
def ti88 : TI := ⟨.func #[3, 5, 22, 58, 4] #[87] false, .nilFunc, 1, 8, false⟩
def ti89 : TI := ⟨.func #[] #[3] false, .nilFunc, 1, 8, false⟩
def ti90 : TI := ⟨.func #[22] #[22] false, .nilFunc, 1, 8, false⟩
def ti91 : TI := ⟨.slice 96, .slice none 0 0, 1, 24, false⟩
def ti92 : TI := ⟨.struct #[⟨"l", 91, 0, false, "", "bellows/block", 0⟩], .agg #[.slice none 0 0], 1, 24, false⟩
def ti93 : TI := ⟨.struct #[⟨"l", 91, 0, false, "", "bellows/block", 0⟩], .agg #[.slice none 0 0], 1, 24, false⟩
def ti94 : TI := ⟨.int .u32, .int .u32 0, 1, 4, false⟩
def ti95 : TI := ⟨.struct #[⟨"v", 94, 0, false, "", "bellows/block", 0⟩, ⟨"n", 3, 1, false, "", "bellows/block", 8⟩], .agg #[.int .u32 0, .int .i64 0], 2, 16, true⟩
def ti96 : TI := ⟨.struct #[⟨"v", 94, 0, false, "", "bellows/block", 0⟩, ⟨"n", 3, 1, false, "", "bellows/block", 8⟩], .agg #[.int .u32 0, .int .i64 0], 2, 16, true⟩
def ti97 : TI := ⟨.func #[60, 94, 3] #[60, 30] false, .nilFunc, 1, 8, false⟩
def ti98 : TI := ⟨.func #[3] #[3] false, .nilFunc, 1, 8, false⟩
def ti99 : TI := ⟨.func #[4, 30] #[] false, .nilFunc, 1, 8, false⟩
def ti101 : TI := ⟨.func #[] #[22, 22] false, .nilFunc, 1, 8, false⟩
def ti102 : TI := ⟨.func #[22, 3] #[26] false, .nilFunc, 1, 8, false⟩
def ti103 : TI := ⟨.func #[104] #[] false, .nilFunc, 1, 8, false⟩
def ti104 : TI := ⟨.pointer 28, .pointer none, 1, 8, false⟩
def ti106 : TI := ⟨.func #[22, 3, 3] #[94, 3] false, .nilFunc, 1, 8, false⟩
def ti107 : TI := ⟨.func #[73, 22, 3] #[73, 3, 3] false, .nilFunc, 1, 8, false⟩
def ti108 : TI := ⟨.func #[] #[22] false, .nilFunc, 1, 8, false⟩
def ti109 : TI := ⟨.func #[22] #[26] false, .nilFunc, 1, 8, false⟩
def ti110 : TI := ⟨.func #[3, 111, 112] #[3] false, .nilFunc, 1, 8, false⟩
def ti111 : TI := ⟨.func #[3] #[3, 30] false, .nilFunc, 1, 8, false⟩
def ti112 : TI := ⟨.func #[3, 3] #[3, 30] false, .nilFunc, 1, 8, false⟩
def ti114 : TI := ⟨.func #[115, 22, 3] #[3, 3, 3] false, .nilFunc, 1, 8, false⟩
def ti115 : TI := ⟨.slice 160, .slice none 0 0, 1, 24, false⟩
def ti116 : TI := ⟨.func #[22] #[115] false, .nilFunc, 1, 8, false⟩
def ti117 : TI := ⟨.func #[4, 3, 22, 3] #[3, 3, 3] false, .nilFunc, 1, 8, false⟩
def ti119 : TI := ⟨.func #[26] #[22, 4] false, .nilFunc, 1, 8, false⟩
def ti120 : TI := ⟨.func #[24, 24] #[4] false, .nilFunc, 1, 8, false⟩
def ti122 : TI := ⟨.func #[22, 3] #[26, 30] false, .nilFunc, 1, 8, false⟩
def ti123 : TI := ⟨.func #[128] #[] false, .nilFunc, 1, 8, false⟩
def ti124 : TI := ⟨.func #[128] #[] false, .nilFunc, 1, 8, false⟩
def ti125 : TI := ⟨.func #[] #[124] false, .nilFunc, 1, 8, false⟩
def ti126 : TI := ⟨.func #[58, 128] #[4] false, .nilFunc, 1, 8, false⟩
def ti127 : TI := ⟨.func #[36] #[30] false, .nilFunc, 1, 8, false⟩
def ti128 : TI := ⟨.func #[36] #[4] false, .nilFunc, 1, 8, false⟩
def ti129 : TI := ⟨.func #[91] #[] true, .nilFunc, 1, 8, false⟩
def ti130 : TI := ⟨.func #[3, 22] #[] false, .nilFunc, 1, 8, false⟩
def ti131 : TI := ⟨.func #[58] #[22, 22] false, .nilFunc, 1, 8, false⟩
def ti132 : TI := ⟨.func #[58, 22, 22] #[] false, .nilFunc, 1, 8, false⟩
def ti133 : TI := ⟨.func #[94, 3] #[4] false, .nilFunc, 1, 8, false⟩
def ti134 : TI := ⟨.pointer 136, .pointer none, 1, 8, false⟩
def ti135 : TI := ⟨.struct #[⟨"Pen", 60, 0, true, "", "", 0⟩], .agg #[.slice none 0 0, .int .i64 0], 2, 32, false⟩
def ti136 : TI := ⟨.struct #[⟨"Pen", 60, 0, true, "", "", 0⟩], .agg #[.slice none 0 0, .int .i64 0], 2, 32, false⟩
def ti137 : TI := ⟨.func #[94] #[] false, .nilFunc, 1, 8, false⟩
def ti139 : TI := ⟨.func #[22, 3, 3] #[94, 30] false, .nilFunc, 1, 8, false⟩
def ti140 : TI := ⟨.func #[185] #[22] true, .nilFunc, 1, 8, false⟩
def ti141 : TI := ⟨.func #[22, 3] #[22] false, .nilFunc, 1, 8, false⟩
def ti142 : TI := ⟨.array 19 3, .agg #[.int .i64 0, .int .i64 0, .int .i64 0, .int .i64 0, .int .i64 0, .int .i64 0, .int .i64 0, .int .i64 0, .int .i64 0, .int .i64 0, .int .i64 0, .int .i64 0, .int .i64 0, .int .i64 0, .int .i64 0, .int .i64 0, .int .i64 0, .int .i64 0, .int .i64 0], 19, 152, true⟩
def ti143 : TI := ⟨.func #[] #[142] false, .nilFunc, 1, 8, false⟩
def ti144 : TI := ⟨.func #[26, 3] #[22] false, .nilFunc, 1, 8, false⟩
def ti145 : TI := ⟨.func #[22, 3] #[30] false, .nilFunc, 1, 8, false⟩
def ti146 : TI := ⟨.func #[22, 3, 3] #[94] false, .nilFunc, 1, 8, false⟩
def ti147 : TI := ⟨.func #[22, 22, 3, 3] #[22, 3, 3] false, .nilFunc, 1, 8, false⟩
def ti149 : TI := ⟨.func #[26, 22, 3] #[3, 3, 30] false, .nilFunc, 1, 8, false⟩
def ti151 : TI := ⟨.struct #[⟨"bits", 3, 0, false, "", "bellows/reach", 0⟩, ⟨"least", 3, 1, false, "", "bellows/reach", 8⟩, ⟨"many", 3, 2, false, "", "bellows/reach", 16⟩], .agg #[.int .i64 0, .int .i64 0, .int .i64 0], 3, 24, true⟩
def ti152 : TI := ⟨.struct #[⟨"bits", 3, 0, false, "", "bellows/reach", 0⟩, ⟨"least", 3, 1, false, "", "bellows/reach", 8⟩, ⟨"many", 3, 2, false, "", "bellows/reach", 16⟩], .agg #[.int .i64 0, .int .i64 0, .int .i64 0], 3, 24, true⟩
def ti154 : TI := ⟨.slice 152, .slice none 0 0, 1, 24, false⟩
def ti155 : TI := ⟨.struct #[⟨"first", 3, 0, false, "", "bellows/reach", 0⟩, ⟨"symbols", 154, 1, false, "", "bellows/reach", 8⟩], .agg #[.int .i64 0, .slice none 0 0], 2, 32, false⟩
def ti156 : TI := ⟨.struct #[⟨"first", 3, 0, false, "", "bellows/reach", 0⟩, ⟨"symbols", 154, 1, false, "", "bellows/reach", 8⟩], .agg #[.int .i64 0, .slice none 0 0], 2, 32, false⟩
def ti157 : TI := ⟨.func #[] #[156] false, .nilFunc, 1, 8, false⟩
def ti158 : TI := ⟨.func #[3] #[152, 30] false, .nilFunc, 1, 8, false⟩
def ti159 : TI := ⟨.struct #[⟨"Bits", 94, 0, false, "", "", 0⟩, ⟨"Long", 5, 1, false, "", "", 4⟩], .agg #[.int .u32 0, .int .u8 0], 2, 8, true⟩
def ti160 : TI := ⟨.struct #[⟨"Bits", 94, 0, false, "", "", 0⟩, ⟨"Long", 5, 1, false, "", "", 4⟩], .agg #[.int .u32 0, .int .u8 0], 2, 8, true⟩
def ti161 : TI := ⟨.int .u64, .int .u64 0, 1, 8, false⟩
def ti162 : TI := ⟨.func #[5] #[3] false, .nilFunc, 1, 8, false⟩
def ti164 : TI := ⟨.func #[3] #[3, 3] false, .nilFunc, 1, 8, false⟩
def ti165 : TI := ⟨.func #[3, 3] #[3, 3] false, .nilFunc, 1, 8, false⟩
def ti166 : TI := ⟨.func #[205] #[] false, .nilFunc, 1, 8, false⟩
def ti167 : TI := ⟨.func #[205] #[] false, .nilFunc, 1, 8, false⟩
def ti168 : TI := ⟨.func #[22] #[167] false, .nilFunc, 1, 8, false⟩
def ti169 : TI := ⟨.func #[58, 128] #[3] false, .nilFunc, 1, 8, false⟩
def ti170 : TI := ⟨.struct #[⟨"Lit", 5, 0, false, "", "", 0⟩, ⟨"Dist", 3, 1, false, "", "", 8⟩, ⟨"Long", 3, 2, false, "", "", 16⟩], .agg #[.int .u8 0, .int .i64 0, .int .i64 0], 3, 24, true⟩
def ti171 : TI := ⟨.array 286 3, .agg (Array.replicate 286 (.int .i64 0)), 286, 2288, true⟩
def ti172 : TI := ⟨.array 30 3, .agg #[.int .i64 0, .int .i64 0, .int .i64 0, .int .i64 0, .int .i64 0, .int .i64 0, .int .i64 0, .int .i64 0, .int .i64 0, .int .i64 0, .int .i64 0, .int .i64 0, .int .i64 0, .int .i64 0, .int .i64 0, .int .i64 0, .int .i64 0, .int .i64 0, .int .i64 0, .int .i64 0, .int .i64 0, .int .i64 0, .int .i64 0, .int .i64 0, .int .i64 0, .int .i64 0, .int .i64 0, .int .i64 0, .int .i64 0, .int .i64 0], 30, 240, true⟩
def ti173 : TI := ⟨.func #[58, 174] #[] false, .nilFunc, 1, 8, false⟩
def ti174 : TI := ⟨.func #[4, 3, 3, 3] #[] false, .nilFunc, 1, 8, false⟩
def ti175 : TI := ⟨.func #[24, 3] #[22, 30] false, .nilFunc, 1, 8, false⟩
def ti176 : TI := ⟨.slice 180, .slice none 0 0, 1, 24, false⟩
def ti178 : TI := ⟨.func #[22] #[176, 30] false, .nilFunc, 1, 8, false⟩
def ti179 : TI := ⟨.struct #[⟨"Sym", 3, 0, false, "", "", 0⟩, ⟨"Extra", 3, 1, false, "", "", 8⟩], .agg #[.int .i64 0, .int .i64 0], 2, 16, true⟩
def ti180 : TI := ⟨.struct #[⟨"Sym", 3, 0, false, "", "", 0⟩, ⟨"Extra", 3, 1, false, "", "", 8⟩], .agg #[.int .i64 0, .int .i64 0], 2, 16, true⟩
def ti182 : TI := ⟨.func #[22, 3] #[115, 30] false, .nilFunc, 1, 8, false⟩
def ti183 : TI := ⟨.func #[115, 3, 3, 3] #[] false, .nilFunc, 1, 8, false⟩
def ti184 : TI := ⟨.int .u64, .int .u64 0, 1, 8, false⟩
def ti185 : TI := ⟨.slice 22, .slice none 0 0, 1, 24, false⟩
def ti187 : TI := ⟨.func #[161, 161] #[161, 161] false, .nilFunc, 1, 8, false⟩
def ti188 : TI := ⟨.func #[176, 3] #[22, 30] false, .nilFunc, 1, 8, false⟩
def ti189 : TI := ⟨.func #[22, 3] #[94] false, .nilFunc, 1, 8, false⟩
def ti190 : TI := ⟨.func #[3] #[184] false, .nilFunc, 1, 8, false⟩
def ti192 : TI := ⟨.func #[180] #[3, 4] false, .nilFunc, 1, 8, false⟩
def ti193 : TI := ⟨.func #[22] #[3, 3] false, .nilFunc, 1, 8, false⟩
def ti194 : TI := ⟨.pointer 196, .pointer none, 1, 8, false⟩
def ti195 : TI := ⟨.struct #[⟨"t", 26, 0, false, "", "bellows/tree", 0⟩, ⟨"n", 3, 17, false, "", "bellows/tree", 152⟩, ⟨"code", 3, 18, false, "", "bellows/tree", 160⟩, ⟨"first", 3, 19, false, "", "bellows/tree", 168⟩, ⟨"place", 3, 20, false, "", "bellows/tree", 176⟩], .agg #[.int .i64 0, .int .i64 0, .int .i64 0, .int .i64 0, .int .i64 0, .int .i64 0, .int .i64 0, .int .i64 0, .int .i64 0, .int .i64 0, .int .i64 0, .int .i64 0, .int .i64 0, .int .i64 0, .int .i64 0, .int .i64 0, .slice none 0 0, .int .i64 0, .int .i64 0, .int .i64 0, .int .i64 0], 21, 184, false⟩
def ti196 : TI := ⟨.struct #[⟨"t", 26, 0, false, "", "bellows/tree", 0⟩, ⟨"n", 3, 17, false, "", "bellows/tree", 152⟩, ⟨"code", 3, 18, false, "", "bellows/tree", 160⟩, ⟨"first", 3, 19, false, "", "bellows/tree", 168⟩, ⟨"place", 3, 20, false, "", "bellows/tree", 176⟩], .agg #[.int .i64 0, .int .i64 0, .int .i64 0, .int .i64 0, .int .i64 0, .int .i64 0, .int .i64 0, .int .i64 0, .int .i64 0, .int .i64 0, .int .i64 0, .int .i64 0, .int .i64 0, .int .i64 0, .int .i64 0, .int .i64 0, .slice none 0 0, .int .i64 0, .int .i64 0, .int .i64 0, .int .i64 0], 21, 184, false⟩
def ti197 : TI := ⟨.func #[94] #[3] false, .nilFunc, 1, 8, false⟩
def ti198 : TI := ⟨.func #[3, 3, 24] #[156] true, .nilFunc, 1, 8, false⟩
def ti199 : TI := ⟨.pointer 152, .pointer none, 1, 8, false⟩
def ti200 : TI := ⟨.array 29 3, .agg #[.int .i64 0, .int .i64 0, .int .i64 0, .int .i64 0, .int .i64 0, .int .i64 0, .int .i64 0, .int .i64 0, .int .i64 0, .int .i64 0, .int .i64 0, .int .i64 0, .int .i64 0, .int .i64 0, .int .i64 0, .int .i64 0, .int .i64 0, .int .i64 0, .int .i64 0, .int .i64 0, .int .i64 0, .int .i64 0, .int .i64 0, .int .i64 0, .int .i64 0, .int .i64 0, .int .i64 0, .int .i64 0, .int .i64 0], 29, 232, true⟩
def ti202 : TI := ⟨.func #[] #[200, 200] false, .nilFunc, 1, 8, false⟩
def ti204 : TI := ⟨.func #[] #[172, 172] false, .nilFunc, 1, 8, false⟩
def ti205 : TI := ⟨.func #[5, 3] #[4] false, .nilFunc, 1, 8, false⟩
def ti207 : TI := ⟨.func #[3] #[3, 3, 3, 30] false, .nilFunc, 1, 8, false⟩
def ti209 : TI := ⟨.func #[24, 3] #[24, 30] false, .nilFunc, 1, 8, false⟩
def ti210 : TI := ⟨.slice 211, .slice none 0 0, 1, 24, false⟩
def ti211 : TI := ⟨.slice 217, .slice none 0 0, 1, 24, false⟩
def ti212 : TI := ⟨.func #[211, 24] #[211] false, .nilFunc, 1, 8, false⟩
def ti213 : TI := ⟨.func #[229] #[] false, .nilFunc, 1, 8, false⟩
def ti214 : TI := ⟨.func #[229] #[] false, .nilFunc, 1, 8, false⟩
def ti215 : TI := ⟨.func #[210] #[214] false, .nilFunc, 1, 8, false⟩
def ti216 : TI := ⟨.struct #[⟨"weight", 3, 0, false, "", "bellows/build", 0⟩, ⟨"pair", 4, 1, false, "", "bellows/build", 8⟩], .agg #[.int .i64 0, .bool false], 2, 16, true⟩
def ti217 : TI := ⟨.struct #[⟨"weight", 3, 0, false, "", "bellows/build", 0⟩, ⟨"pair", 4, 1, false, "", "bellows/build", 8⟩], .agg #[.int .i64 0, .bool false], 2, 16, true⟩
def ti218 : TI := ⟨.array 17 94, .agg #[.int .u32 0, .int .u32 0, .int .u32 0, .int .u32 0, .int .u32 0, .int .u32 0, .int .u32 0, .int .u32 0, .int .u32 0, .int .u32 0, .int .u32 0, .int .u32 0, .int .u32 0, .int .u32 0, .int .u32 0, .int .u32 0, .int .u32 0], 17, 68, true⟩
def ti219 : TI := ⟨.array 17 94, .agg #[.int .u32 0, .int .u32 0, .int .u32 0, .int .u32 0, .int .u32 0, .int .u32 0, .int .u32 0, .int .u32 0, .int .u32 0, .int .u32 0, .int .u32 0, .int .u32 0, .int .u32 0, .int .u32 0, .int .u32 0, .int .u32 0, .int .u32 0], 17, 68, true⟩
def ti220 : TI := ⟨.func #[22] #[219] false, .nilFunc, 1, 8, false⟩
def ti221 : TI := ⟨.func #[5] #[160] false, .nilFunc, 1, 8, false⟩
def ti222 : TI := ⟨.func #[94, 3] #[94, 30] false, .nilFunc, 1, 8, false⟩
def ti224 : TI := ⟨.func #[94, 94] #[94, 94] false, .nilFunc, 1, 8, false⟩
def ti226 : TI := ⟨.func #[184, 184] #[184, 184] false, .nilFunc, 1, 8, false⟩
def ti227 : TI := ⟨.func #[24, 228] #[] false, .nilFunc, 1, 8, false⟩
def ti228 : TI := ⟨.func #[3, 3] #[3] false, .nilFunc, 1, 8, false⟩
def ti229 : TI := ⟨.func #[3, 211] #[4] false, .nilFunc, 1, 8, false⟩
def ti230 : TI := ⟨.pointer 219, .pointer none, 1, 8, false⟩
def ti231 : TI := ⟨.func #[24, 3, 228] #[] false, .nilFunc, 1, 8, false⟩
def ti232 : TI := ⟨.func #[3] #[4] false, .nilFunc, 1, 8, false⟩
def ti233 : TI := ⟨.func #[24, 3, 3, 228] #[] false, .nilFunc, 1, 8, false⟩
def ti234 : TI := ⟨.func #[24, 3, 3, 3, 228] #[] false, .nilFunc, 1, 8, false⟩
def ti235 : TI := ⟨.func #[] #[9] false, .nilFunc, 1, 8, false⟩
def ti238 : TI := ⟨.array 0 16, .agg #[], 0, 0, false⟩
def ti243 : TI := ⟨.func #[249, 249] #[4] false, .nilFunc, 1, 8, false⟩
def ti244 : TI := ⟨.pointer 5, .pointer none, 1, 8, false⟩
def ti247 : TI := ⟨.struct #[⟨"Size_", 12, 0, false, "", "", 0⟩, ⟨"PtrBytes", 12, 1, false, "", "", 8⟩, ⟨"Hash", 94, 2, false, "", "", 16⟩, ⟨"TFlag", 241, 3, false, "", "", 20⟩, ⟨"Align_", 5, 4, false, "", "", 21⟩, ⟨"FieldAlign_", 5, 5, false, "", "", 22⟩, ⟨"Kind_", 242, 6, false, "", "", 23⟩, ⟨"Equal", 243, 7, false, "", "", 24⟩, ⟨"GCData", 244, 8, false, "", "", 32⟩, ⟨"Str", 245, 9, false, "", "", 40⟩, ⟨"PtrToThis", 246, 10, false, "", "", 44⟩], .agg #[.int .u64 0, .int .u64 0, .int .u32 0, .int .u8 0, .int .u8 0, .int .u8 0, .int .u8 0, .nilFunc, .pointer none, .int .i32 0, .int .i32 0], 11, 48, false⟩
def Tl : List (Nat × TI) := [(1, ti1), (2, ti2), (3, ti3), (4, ti4), (5, ti5), (9, ti9), (12, ti12), (15, ti15), (16, ti16), (17, ti17), (20, ti20), (21, ti21), (22, ti22), (23, ti23), (24, ti24), (25, ti25), (26, ti26), (27, ti27), (28, ti28), (29, ti29), (30, ti30), (32, ti32), (34, ti34), (35, ti35), (36, ti36), (38, ti38), (40, ti40), (41, ti41), (42, ti42), (43, ti43), (44, ti44), (45, ti45), (47, ti47), (48, ti48), (50, ti50), (52, ti52), (54, ti54), (55, ti55), (56, ti56), (57, ti57), (58, ti58), (59, ti59), (60, ti60), (62, ti62), (63, ti63), (64, ti64), (65, ti65), (67, ti67), (68, ti68), (69, ti69), (70, ti70), (71, ti71), (72, ti72), (73, ti73), (75, ti75), (76, ti76), (78, ti78), (79, ti79), (80, ti80), (81, ti81), (82, ti82), (83, ti83), (84, ti84), (85, ti85), (86, ti86), (87, ti87), (88, ti88), (89, ti89), (90, ti90), (91, ti91), (92, ti92), (93, ti93), (94, ti94), (95, ti95), (96, ti96), (97, ti97), (98, ti98), (99, ti99), (101, ti101), (102, ti102), (103, ti103), (104, ti104), (106, ti106), (107, ti107), (108, ti108), (109, ti109), (110, ti110), (111, ti111), (112, ti112), (114, ti114), (115, ti115), (116, ti116), (117, ti117), (119, ti119), (120, ti120), (122, ti122), (123, ti123), (124, ti124), (125, ti125), (126, ti126), (127, ti127), (128, ti128), (129, ti129), (130, ti130), (131, ti131), (132, ti132), (133, ti133), (134, ti134), (135, ti135), (136, ti136), (137, ti137), (139, ti139), (140, ti140), (141, ti141), (142, ti142), (143, ti143), (144, ti144), (145, ti145), (146, ti146), (147, ti147), (149, ti149), (151, ti151), (152, ti152), (154, ti154), (155, ti155), (156, ti156), (157, ti157), (158, ti158), (159, ti159), (160, ti160), (161, ti161), (162, ti162), (164, ti164), (165, ti165), (166, ti166), (167, ti167), (168, ti168), (169, ti169), (170, ti170), (171, ti171), (172, ti172), (173, ti173), (174, ti174), (175, ti175), (176, ti176), (178, ti178), (179, ti179), (180, ti180), (182, ti182), (183, ti183), (184, ti184), (185, ti185), (187, ti187), (188, ti188), (189, ti189), (190, ti190), (192, ti192), (193, ti193), (194, ti194), (195, ti195), (196, ti196), (197, ti197), (198, ti198), (199, ti199), (200, ti200), (202, ti202), (204, ti204), (205, ti205), (207, ti207), (209, ti209), (210, ti210), (211, ti211), (212, ti212), (213, ti213), (214, ti214), (215, ti215), (216, ti216), (217, ti217), (218, ti218), (219, ti219), (220, ti220), (221, ti221), (222, ti222), (224, ti224), (226, ti226), (227, ti227), (228, ti228), (229, ti229), (230, ti230), (231, ti231), (232, ti232), (233, ti233), (234, ti234), (235, ti235), (238, ti238), (243, ti243), (244, ti244), (247, ti247)]
def T : TT := (.n (.n (.n (.n (.n (.n (.n (.n .e (some ti127) .e) (some ti63) .e) none (.n (.n .e (some ti159) .e) (some ti95) .e)) (some ti15) (.n (.n (.n .e (some ti143) .e) (some ti79) (.n .e (some ti207) .e)) (some ti47) (.n (.n .e (some ti175) .e) (some ti111) .e))) none (.n (.n (.n (.n .e (some ti135) .e) (some ti71) (.n .e (some ti199) .e)) none (.n (.n .e (some ti167) .e) (some ti103) (.n .e (some ti231) .e))) (some ti23) (.n (.n (.n .e (some ti151) .e) (some ti87) (.n .e (some ti215) .e)) (some ti55) (.n (.n .e (some ti183) .e) (some ti119) (.n .e (some ti247) .e))))) (some ti3) (.n (.n (.n (.n (.n .e (some ti131) .e) (some ti67) (.n .e (some ti195) .e)) (some ti35) (.n .e (some ti99) (.n .e (some ti227) .e))) none (.n (.n (.n .e (some ti147) .e) (some ti83) (.n .e (some ti211) .e)) none (.n (.n .e (some ti179) .e) (some ti115) (.n .e (some ti243) .e)))) none (.n (.n (.n (.n .e (some ti139) .e) (some ti75) .e) (some ti43) (.n (.n .e (some ti171) .e) (some ti107) (.n .e (some ti235) .e))) (some ti27) (.n (.n (.n .e (some ti155) .e) (some ti91) (.n .e (some ti219) .e)) (some ti59) (.n (.n .e (some ti187) .e) (some ti123) .e))))) (some ti1) (.n (.n (.n (.n (.n (.n .e (some ti129) .e) (some ti65) (.n .e (some ti193) .e)) none (.n (.n .e (some ti161) .e) (some ti97) .e)) (some ti17) (.n (.n (.n .e (some ti145) .e) (some ti81) (.n .e (some ti209) .e)) none .e)) (some ti9) (.n (.n (.n (.n .e (some ti137) .e) (some ti73) .e) (some ti41) (.n (.n .e (some ti169) .e) none (.n .e (some ti233) .e))) (some ti25) (.n (.n .e (some ti89) (.n .e (some ti217) .e)) (some ti57) (.n (.n .e (some ti185) .e) none .e)))) (some ti5) (.n (.n (.n (.n (.n .e (some ti133) .e) (some ti69) (.n .e (some ti197) .e)) none (.n (.n .e (some ti165) .e) (some ti101) (.n .e (some ti229) .e))) (some ti21) (.n (.n (.n .e (some ti149) .e) (some ti85) (.n .e (some ti213) .e)) none (.n .e (some ti117) .e))) none (.n (.n (.n (.n .e (some ti141) .e) none (.n .e (some ti205) .e)) (some ti45) (.n (.n .e (some ti173) .e) (some ti109) .e)) (some ti29) (.n (.n (.n .e (some ti157) .e) (some ti93) (.n .e (some ti221) .e)) none (.n (.n .e (some ti189) .e) (some ti125) .e)))))) none (.n (.n (.n (.n (.n (.n (.n .e (some ti128) .e) (some ti64) (.n .e (some ti192) .e)) (some ti32) (.n (.n .e (some ti160) .e) (some ti96) (.n .e (some ti224) .e))) (some ti16) (.n (.n (.n .e (some ti144) .e) (some ti80) .e) (some ti48) (.n (.n .e (some ti176) .e) (some ti112) .e))) none (.n (.n (.n (.n .e (some ti136) .e) (some ti72) (.n .e (some ti200) .e)) (some ti40) (.n (.n .e (some ti168) .e) (some ti104) (.n .e (some ti232) .e))) (some ti24) (.n (.n (.n .e (some ti152) .e) (some ti88) (.n .e (some ti216) .e)) (some ti56) (.n (.n .e (some ti184) .e) (some ti120) .e)))) (some ti4) (.n (.n (.n (.n (.n .e (some ti132) .e) (some ti68) (.n .e (some ti196) .e)) (some ti36) (.n (.n .e (some ti164) .e) none (.n .e (some ti228) .e))) (some ti20) (.n (.n .e (some ti84) (.n .e (some ti212) .e)) (some ti52) (.n (.n .e (some ti180) .e) (some ti116) (.n .e (some ti244) .e)))) (some ti12) (.n (.n (.n (.n .e (some ti140) .e) (some ti76) (.n .e (some ti204) .e)) (some ti44) (.n (.n .e (some ti172) .e) (some ti108) .e)) (some ti28) (.n (.n (.n .e (some ti156) .e) (some ti92) (.n .e (some ti220) .e)) (some ti60) (.n (.n .e (some ti188) .e) (some ti124) .e))))) (some ti2) (.n (.n (.n (.n (.n (.n .e (some ti130) .e) none (.n .e (some ti194) .e)) (some ti34) (.n (.n .e (some ti162) .e) (some ti98) (.n .e (some ti226) .e))) none (.n (.n (.n .e (some ti146) .e) (some ti82) (.n .e (some ti210) .e)) (some ti50) (.n (.n .e (some ti178) .e) (some ti114) .e))) none (.n (.n (.n .e none (.n .e (some ti202) .e)) (some ti42) (.n (.n .e (some ti170) .e) (some ti106) (.n .e (some ti234) .e))) (some ti26) (.n (.n (.n .e (some ti154) .e) (some ti90) (.n .e (some ti218) .e)) (some ti58) (.n .e (some ti122) .e)))) none (.n (.n (.n (.n (.n .e (some ti134) .e) (some ti70) (.n .e (some ti198) .e)) (some ti38) (.n (.n .e (some ti166) .e) (some ti102) (.n .e (some ti230) .e))) (some ti22) (.n (.n .e (some ti86) (.n .e (some ti214) .e)) (some ti54) (.n (.n .e (some ti182) .e) none .e))) none (.n (.n (.n (.n .e (some ti142) .e) (some ti78) .e) none (.n (.n .e (some ti174) .e) (some ti110) (.n .e (some ti238) .e))) (some ti30) (.n (.n (.n .e (some ti158) .e) (some ti94) (.n .e (some ti222) .e)) (some ti62) (.n (.n .e (some ti190) .e) (some ti126) .e)))))))
set_option maxRecDepth 100000 in
theorem T_ok : TT.ok Try.prog T := by
 refine TT.ok_ofL (l := Tl) ?_ (by kernel_rfl)
 refine ⟨tiok (by kernel_rfl) (by kernel_rfl) rfl, ?_⟩
 refine ⟨tiok (by kernel_rfl) (by kernel_rfl) rfl, ?_⟩
 refine ⟨tiok (by kernel_rfl) (by kernel_rfl) rfl, ?_⟩
 refine ⟨tiok (by kernel_rfl) (by kernel_rfl) rfl, ?_⟩
 refine ⟨tiok (by kernel_rfl) (by kernel_rfl) rfl, ?_⟩
 refine ⟨tiok (by kernel_rfl) (by kernel_rfl) rfl, ?_⟩
 refine ⟨tiok (by kernel_rfl) (by kernel_rfl) rfl, ?_⟩
 refine ⟨tiok (by kernel_rfl) (by kernel_rfl) rfl, ?_⟩
 refine ⟨tiok (by kernel_rfl) (by kernel_rfl) rfl, ?_⟩
 refine ⟨tiok (by kernel_rfl) (by kernel_rfl) rfl, ?_⟩
 refine ⟨tiok (by kernel_rfl) (by kernel_rfl) rfl, ?_⟩
 refine ⟨tiok (by kernel_rfl) (by kernel_rfl) rfl, ?_⟩
 refine ⟨tiok (by kernel_rfl) (by kernel_rfl) rfl, ?_⟩
 refine ⟨tiokP (by kernel_rfl) (by kernel_rfl) rfl (by kernel_rfl) (by kernel_rfl) (by kernel_rfl), ?_⟩
 refine ⟨tiok (by kernel_rfl) (by kernel_rfl) rfl, ?_⟩
 refine ⟨tiok (by kernel_rfl) (by kernel_rfl) rfl, ?_⟩
 refine ⟨tiok (by kernel_rfl) (by kernel_rfl) rfl, ?_⟩
 refine ⟨tiok (by kernel_rfl) (by kernel_rfl) rfl, ?_⟩
 refine ⟨tiok (by kernel_rfl) (by kernel_rfl) rfl, ?_⟩
 refine ⟨tiok (by kernel_rfl) (by kernel_rfl) rfl, ?_⟩
 refine ⟨tiok (by kernel_rfl) (by kernel_rfl) rfl, ?_⟩
 refine ⟨tiok (by kernel_rfl) (by kernel_rfl) rfl, ?_⟩
 refine ⟨tiok (by kernel_rfl) (by kernel_rfl) rfl, ?_⟩
 refine ⟨tiokP (by kernel_rfl) (by kernel_rfl) rfl (by kernel_rfl) (by kernel_rfl) (by kernel_rfl), ?_⟩
 refine ⟨tiokP (by kernel_rfl) (by kernel_rfl) rfl (by kernel_rfl) (by kernel_rfl) (by kernel_rfl), ?_⟩
 refine ⟨tiok (by kernel_rfl) (by kernel_rfl) rfl, ?_⟩
 refine ⟨tiok (by kernel_rfl) (by kernel_rfl) rfl, ?_⟩
 refine ⟨tiok (by kernel_rfl) (by kernel_rfl) rfl, ?_⟩
 refine ⟨tiok (by kernel_rfl) (by kernel_rfl) rfl, ?_⟩
 refine ⟨tiok (by kernel_rfl) (by kernel_rfl) rfl, ?_⟩
 refine ⟨tiok (by kernel_rfl) (by kernel_rfl) rfl, ?_⟩
 refine ⟨tiok (by kernel_rfl) (by kernel_rfl) rfl, ?_⟩
 refine ⟨tiok (by kernel_rfl) (by kernel_rfl) rfl, ?_⟩
 refine ⟨tiok (by kernel_rfl) (by kernel_rfl) rfl, ?_⟩
 refine ⟨tiok (by kernel_rfl) (by kernel_rfl) rfl, ?_⟩
 refine ⟨tiok (by kernel_rfl) (by kernel_rfl) rfl, ?_⟩
 refine ⟨tiok (by kernel_rfl) (by kernel_rfl) rfl, ?_⟩
 refine ⟨tiok (by kernel_rfl) (by kernel_rfl) rfl, ?_⟩
 refine ⟨tiok (by kernel_rfl) (by kernel_rfl) rfl, ?_⟩
 refine ⟨tiok (by kernel_rfl) (by kernel_rfl) rfl, ?_⟩
 refine ⟨tiok (by kernel_rfl) (by kernel_rfl) rfl, ?_⟩
 refine ⟨tiok (by kernel_rfl) (by kernel_rfl) rfl, ?_⟩
 refine ⟨tiok (by kernel_rfl) (by kernel_rfl) rfl, ?_⟩
 refine ⟨tiok (by kernel_rfl) (by kernel_rfl) rfl, ?_⟩
 refine ⟨tiok (by kernel_rfl) (by kernel_rfl) rfl, ?_⟩
 refine ⟨tiok (by kernel_rfl) (by kernel_rfl) rfl, ?_⟩
 refine ⟨tiok (by kernel_rfl) (by kernel_rfl) rfl, ?_⟩
 refine ⟨tiok (by kernel_rfl) (by kernel_rfl) rfl, ?_⟩
 refine ⟨tiok (by kernel_rfl) (by kernel_rfl) rfl, ?_⟩
 refine ⟨tiok (by kernel_rfl) (by kernel_rfl) rfl, ?_⟩
 refine ⟨tiok (by kernel_rfl) (by kernel_rfl) rfl, ?_⟩
 refine ⟨tiok (by kernel_rfl) (by kernel_rfl) rfl, ?_⟩
 refine ⟨tiok (by kernel_rfl) (by kernel_rfl) rfl, ?_⟩
 refine ⟨tiok (by kernel_rfl) (by kernel_rfl) rfl, ?_⟩
 refine ⟨tiok (by kernel_rfl) (by kernel_rfl) rfl, ?_⟩
 refine ⟨tiok (by kernel_rfl) (by kernel_rfl) rfl, ?_⟩
 refine ⟨tiok (by kernel_rfl) (by kernel_rfl) rfl, ?_⟩
 refine ⟨tiok (by kernel_rfl) (by kernel_rfl) rfl, ?_⟩
 refine ⟨tiok (by kernel_rfl) (by kernel_rfl) rfl, ?_⟩
 refine ⟨tiok (by kernel_rfl) (by kernel_rfl) rfl, ?_⟩
 refine ⟨tiok (by kernel_rfl) (by kernel_rfl) rfl, ?_⟩
 refine ⟨tiok (by kernel_rfl) (by kernel_rfl) rfl, ?_⟩
 refine ⟨tiok (by kernel_rfl) (by kernel_rfl) rfl, ?_⟩
 refine ⟨tiok (by kernel_rfl) (by kernel_rfl) rfl, ?_⟩
 refine ⟨tiok (by kernel_rfl) (by kernel_rfl) rfl, ?_⟩
 refine ⟨tiok (by kernel_rfl) (by kernel_rfl) rfl, ?_⟩
 refine ⟨tiok (by kernel_rfl) (by kernel_rfl) rfl, ?_⟩
 refine ⟨tiok (by kernel_rfl) (by kernel_rfl) rfl, ?_⟩
 refine ⟨tiok (by kernel_rfl) (by kernel_rfl) rfl, ?_⟩
 refine ⟨tiok (by kernel_rfl) (by kernel_rfl) rfl, ?_⟩
 refine ⟨tiok (by kernel_rfl) (by kernel_rfl) rfl, ?_⟩
 refine ⟨tiok (by kernel_rfl) (by kernel_rfl) rfl, ?_⟩
 refine ⟨tiok (by kernel_rfl) (by kernel_rfl) rfl, ?_⟩
 refine ⟨tiokP (by kernel_rfl) (by kernel_rfl) rfl (by kernel_rfl) (by kernel_rfl) (by kernel_rfl), ?_⟩
 refine ⟨tiokP (by kernel_rfl) (by kernel_rfl) rfl (by kernel_rfl) (by kernel_rfl) (by kernel_rfl), ?_⟩
 refine ⟨tiok (by kernel_rfl) (by kernel_rfl) rfl, ?_⟩
 refine ⟨tiok (by kernel_rfl) (by kernel_rfl) rfl, ?_⟩
 refine ⟨tiok (by kernel_rfl) (by kernel_rfl) rfl, ?_⟩
 refine ⟨tiok (by kernel_rfl) (by kernel_rfl) rfl, ?_⟩
 refine ⟨tiok (by kernel_rfl) (by kernel_rfl) rfl, ?_⟩
 refine ⟨tiok (by kernel_rfl) (by kernel_rfl) rfl, ?_⟩
 refine ⟨tiok (by kernel_rfl) (by kernel_rfl) rfl, ?_⟩
 refine ⟨tiok (by kernel_rfl) (by kernel_rfl) rfl, ?_⟩
 refine ⟨tiok (by kernel_rfl) (by kernel_rfl) rfl, ?_⟩
 refine ⟨tiok (by kernel_rfl) (by kernel_rfl) rfl, ?_⟩
 refine ⟨tiok (by kernel_rfl) (by kernel_rfl) rfl, ?_⟩
 refine ⟨tiok (by kernel_rfl) (by kernel_rfl) rfl, ?_⟩
 refine ⟨tiok (by kernel_rfl) (by kernel_rfl) rfl, ?_⟩
 refine ⟨tiok (by kernel_rfl) (by kernel_rfl) rfl, ?_⟩
 refine ⟨tiok (by kernel_rfl) (by kernel_rfl) rfl, ?_⟩
 refine ⟨tiok (by kernel_rfl) (by kernel_rfl) rfl, ?_⟩
 refine ⟨tiok (by kernel_rfl) (by kernel_rfl) rfl, ?_⟩
 refine ⟨tiok (by kernel_rfl) (by kernel_rfl) rfl, ?_⟩
 refine ⟨tiok (by kernel_rfl) (by kernel_rfl) rfl, ?_⟩
 refine ⟨tiok (by kernel_rfl) (by kernel_rfl) rfl, ?_⟩
 refine ⟨tiok (by kernel_rfl) (by kernel_rfl) rfl, ?_⟩
 refine ⟨tiok (by kernel_rfl) (by kernel_rfl) rfl, ?_⟩
 refine ⟨tiok (by kernel_rfl) (by kernel_rfl) rfl, ?_⟩
 refine ⟨tiok (by kernel_rfl) (by kernel_rfl) rfl, ?_⟩
 refine ⟨tiok (by kernel_rfl) (by kernel_rfl) rfl, ?_⟩
 refine ⟨tiok (by kernel_rfl) (by kernel_rfl) rfl, ?_⟩
 refine ⟨tiok (by kernel_rfl) (by kernel_rfl) rfl, ?_⟩
 refine ⟨tiok (by kernel_rfl) (by kernel_rfl) rfl, ?_⟩
 refine ⟨tiok (by kernel_rfl) (by kernel_rfl) rfl, ?_⟩
 refine ⟨tiok (by kernel_rfl) (by kernel_rfl) rfl, ?_⟩
 refine ⟨tiok (by kernel_rfl) (by kernel_rfl) rfl, ?_⟩
 refine ⟨tiok (by kernel_rfl) (by kernel_rfl) rfl, ?_⟩
 refine ⟨tiok (by kernel_rfl) (by kernel_rfl) rfl, ?_⟩
 refine ⟨tiok (by kernel_rfl) (by kernel_rfl) rfl, ?_⟩
 refine ⟨tiok (by kernel_rfl) (by kernel_rfl) rfl, ?_⟩
 refine ⟨tiok (by kernel_rfl) (by kernel_rfl) rfl, ?_⟩
 refine ⟨tiok (by kernel_rfl) (by kernel_rfl) rfl, ?_⟩
 refine ⟨tiok (by kernel_rfl) (by kernel_rfl) rfl, ?_⟩
 refine ⟨tiok (by kernel_rfl) (by kernel_rfl) rfl, ?_⟩
 refine ⟨tiokP (by kernel_rfl) (by kernel_rfl) rfl (by kernel_rfl) (by kernel_rfl) (by kernel_rfl), ?_⟩
 refine ⟨tiok (by kernel_rfl) (by kernel_rfl) rfl, ?_⟩
 refine ⟨tiok (by kernel_rfl) (by kernel_rfl) rfl, ?_⟩
 refine ⟨tiok (by kernel_rfl) (by kernel_rfl) rfl, ?_⟩
 refine ⟨tiok (by kernel_rfl) (by kernel_rfl) rfl, ?_⟩
 refine ⟨tiok (by kernel_rfl) (by kernel_rfl) rfl, ?_⟩
 refine ⟨tiok (by kernel_rfl) (by kernel_rfl) rfl, ?_⟩
 refine ⟨tiokP (by kernel_rfl) (by kernel_rfl) rfl (by kernel_rfl) (by kernel_rfl) (by kernel_rfl), ?_⟩
 refine ⟨tiokP (by kernel_rfl) (by kernel_rfl) rfl (by kernel_rfl) (by kernel_rfl) (by kernel_rfl), ?_⟩
 refine ⟨tiok (by kernel_rfl) (by kernel_rfl) rfl, ?_⟩
 refine ⟨tiok (by kernel_rfl) (by kernel_rfl) rfl, ?_⟩
 refine ⟨tiok (by kernel_rfl) (by kernel_rfl) rfl, ?_⟩
 refine ⟨tiok (by kernel_rfl) (by kernel_rfl) rfl, ?_⟩
 refine ⟨tiok (by kernel_rfl) (by kernel_rfl) rfl, ?_⟩
 refine ⟨tiokP (by kernel_rfl) (by kernel_rfl) rfl (by kernel_rfl) (by kernel_rfl) (by kernel_rfl), ?_⟩
 refine ⟨tiokP (by kernel_rfl) (by kernel_rfl) rfl (by kernel_rfl) (by kernel_rfl) (by kernel_rfl), ?_⟩
 refine ⟨tiok (by kernel_rfl) (by kernel_rfl) rfl, ?_⟩
 refine ⟨tiok (by kernel_rfl) (by kernel_rfl) rfl, ?_⟩
 refine ⟨tiok (by kernel_rfl) (by kernel_rfl) rfl, ?_⟩
 refine ⟨tiok (by kernel_rfl) (by kernel_rfl) rfl, ?_⟩
 refine ⟨tiok (by kernel_rfl) (by kernel_rfl) rfl, ?_⟩
 refine ⟨tiok (by kernel_rfl) (by kernel_rfl) rfl, ?_⟩
 refine ⟨tiok (by kernel_rfl) (by kernel_rfl) rfl, ?_⟩
 refine ⟨tiok (by kernel_rfl) (by kernel_rfl) rfl, ?_⟩
 refine ⟨tiokP (by kernel_rfl) (by kernel_rfl) rfl (by kernel_rfl) (by kernel_rfl) (by kernel_rfl), ?_⟩
 refine ⟨tiokP (by kernel_rfl) (by kernel_rfl) rfl (by kernel_rfl) (by kernel_rfl) (by kernel_rfl), ?_⟩
 refine ⟨tiokP (by kernel_rfl) (by kernel_rfl) rfl (by kernel_rfl) (by kernel_rfl) (by kernel_rfl), ?_⟩
 refine ⟨tiok (by kernel_rfl) (by kernel_rfl) rfl, ?_⟩
 refine ⟨tiok (by kernel_rfl) (by kernel_rfl) rfl, ?_⟩
 refine ⟨tiok (by kernel_rfl) (by kernel_rfl) rfl, ?_⟩
 refine ⟨tiok (by kernel_rfl) (by kernel_rfl) rfl, ?_⟩
 refine ⟨tiok (by kernel_rfl) (by kernel_rfl) rfl, ?_⟩
 refine ⟨tiokP (by kernel_rfl) (by kernel_rfl) rfl (by kernel_rfl) (by kernel_rfl) (by kernel_rfl), ?_⟩
 refine ⟨tiokP (by kernel_rfl) (by kernel_rfl) rfl (by kernel_rfl) (by kernel_rfl) (by kernel_rfl), ?_⟩
 refine ⟨tiok (by kernel_rfl) (by kernel_rfl) rfl, ?_⟩
 refine ⟨tiok (by kernel_rfl) (by kernel_rfl) rfl, ?_⟩
 refine ⟨tiok (by kernel_rfl) (by kernel_rfl) rfl, ?_⟩
 refine ⟨tiok (by kernel_rfl) (by kernel_rfl) rfl, ?_⟩
 refine ⟨tiok (by kernel_rfl) (by kernel_rfl) rfl, ?_⟩
 refine ⟨tiok (by kernel_rfl) (by kernel_rfl) rfl, ?_⟩
 refine ⟨tiok (by kernel_rfl) (by kernel_rfl) rfl, ?_⟩
 refine ⟨tiok (by kernel_rfl) (by kernel_rfl) rfl, ?_⟩
 refine ⟨tiok (by kernel_rfl) (by kernel_rfl) rfl, ?_⟩
 refine ⟨tiok (by kernel_rfl) (by kernel_rfl) rfl, ?_⟩
 refine ⟨tiok (by kernel_rfl) (by kernel_rfl) rfl, ?_⟩
 refine ⟨tiok (by kernel_rfl) (by kernel_rfl) rfl, ?_⟩
 refine ⟨tiok (by kernel_rfl) (by kernel_rfl) rfl, ?_⟩
 refine ⟨tiok (by kernel_rfl) (by kernel_rfl) rfl, ?_⟩
 refine ⟨tiok (by kernel_rfl) (by kernel_rfl) rfl, ?_⟩
 refine ⟨tiok (by kernel_rfl) (by kernel_rfl) rfl, ?_⟩
 refine ⟨tiokP (by kernel_rfl) (by kernel_rfl) rfl (by kernel_rfl) (by kernel_rfl) (by kernel_rfl), ?_⟩
 refine ⟨tiok (by kernel_rfl) (by kernel_rfl) rfl, ?_⟩
 refine ⟨tiok (by kernel_rfl) (by kernel_rfl) rfl, ?_⟩
 refine ⟨tiok (by kernel_rfl) (by kernel_rfl) rfl, ?_⟩
 refine ⟨tiok (by kernel_rfl) (by kernel_rfl) rfl, ?_⟩
 refine ⟨tiok (by kernel_rfl) (by kernel_rfl) rfl, ?_⟩
 refine ⟨tiok (by kernel_rfl) (by kernel_rfl) rfl, ?_⟩
 refine ⟨tiok (by kernel_rfl) (by kernel_rfl) rfl, ?_⟩
 refine ⟨tiok (by kernel_rfl) (by kernel_rfl) rfl, ?_⟩
 refine ⟨tiok (by kernel_rfl) (by kernel_rfl) rfl, ?_⟩
 refine ⟨tiok (by kernel_rfl) (by kernel_rfl) rfl, ?_⟩
 refine ⟨tiok (by kernel_rfl) (by kernel_rfl) rfl, ?_⟩
 refine ⟨tiokP (by kernel_rfl) (by kernel_rfl) rfl (by kernel_rfl) (by kernel_rfl) (by kernel_rfl), ?_⟩
 refine ⟨tiokP (by kernel_rfl) (by kernel_rfl) rfl (by kernel_rfl) (by kernel_rfl) (by kernel_rfl), ?_⟩
 refine ⟨tiokP (by kernel_rfl) (by kernel_rfl) rfl (by kernel_rfl) (by kernel_rfl) (by kernel_rfl), ?_⟩
 refine ⟨tiokP (by kernel_rfl) (by kernel_rfl) rfl (by kernel_rfl) (by kernel_rfl) (by kernel_rfl), ?_⟩
 refine ⟨tiok (by kernel_rfl) (by kernel_rfl) rfl, ?_⟩
 refine ⟨tiok (by kernel_rfl) (by kernel_rfl) rfl, ?_⟩
 refine ⟨tiok (by kernel_rfl) (by kernel_rfl) rfl, ?_⟩
 refine ⟨tiok (by kernel_rfl) (by kernel_rfl) rfl, ?_⟩
 refine ⟨tiok (by kernel_rfl) (by kernel_rfl) rfl, ?_⟩
 refine ⟨tiok (by kernel_rfl) (by kernel_rfl) rfl, ?_⟩
 refine ⟨tiok (by kernel_rfl) (by kernel_rfl) rfl, ?_⟩
 refine ⟨tiok (by kernel_rfl) (by kernel_rfl) rfl, ?_⟩
 refine ⟨tiok (by kernel_rfl) (by kernel_rfl) rfl, ?_⟩
 refine ⟨tiok (by kernel_rfl) (by kernel_rfl) rfl, ?_⟩
 refine ⟨tiok (by kernel_rfl) (by kernel_rfl) rfl, ?_⟩
 refine ⟨tiok (by kernel_rfl) (by kernel_rfl) rfl, ?_⟩
 refine ⟨tiok (by kernel_rfl) (by kernel_rfl) rfl, ?_⟩
 refine ⟨tiok (by kernel_rfl) (by kernel_rfl) rfl, ?_⟩
 refine ⟨tiok (by kernel_rfl) (by kernel_rfl) rfl, ?_⟩
 refine ⟨tiok (by kernel_rfl) (by kernel_rfl) rfl, ?_⟩
 refine ⟨tiok (by kernel_rfl) (by kernel_rfl) rfl, ?_⟩
 refine ⟨tiok (by kernel_rfl) (by kernel_rfl) rfl, ?_⟩
 trivial
theorem mixed : Try.prog.follows .mixedOrders = true := by kernel_rfl
end Go.Proofs.Ytegjeagfcfhbeaa
namespace Go.Proofs.Ytegjeagfcfhbeaa
open Go.RowKit Go.Bw Go.Vx
namespace Vp
theorem odt {p : Prop} [Decidable p] (h : decide p = true) : p := of_decide_eq_true h
theorem odf {p : Prop} [Decidable p] (h : decide p = false) : ¬ p := of_decide_eq_false h
def _root_.Go.Vx.Hn.cl {P : Program} (f : FuncId) (al : Bool) (fp : List Nat) {q hin : _} {r : D} {bs : List Blk} (h : CallOk al P f q hin r bs) (nx : Hn P) : Hn P := .call f al fp true rfl q q (simL.refl q) true rfl hin r bs h nx
def _root_.Go.Vx.Hn.op {P : Program} (x : Int) (h : -9223372036854775808 ≤ x ∧ x ≤ 9223372036854775807) (nx : Hn P) : Hn P := .opt (wrapO .i64 x) (.v (.int .i64 x)) (wrapO_i64 h) nx
def _root_.Go.Vx.Hn.ow {P : Program} (x : Int) (nx : Hn P) (h : -9223372036854775808 ≤ x ∧ x ≤ 9223372036854775807 := by omega) : Hn P := .opt (wrapO .i64 x) (.v (.int .i64 x)) (wrapO_i64 h) nx
theorem wr {p : Prop} (h : p := by with_reducible rfl) : p := h
theorem om {p : Prop} (h : p := by omega) : p := h
theorem asm {p : Prop} (h : p := by assumption) : p := h
theorem ro {p : Prop} (h : p := by repeat' first | exact trivial | exact rfl | exact (fun _ => cl_bytes _) | exact (fun _ => by assumption) | exact (fun _ => cl_map _ (fun _ => rfl) _) | exact (fun _ => cl_fm (fun _ => rfl) _) | (intro h; cases h; done) | (intro _; rfl) | (intro _; exact okRL_cl _ (cl_map _ (fun _ => rfl) _)) | exact okR_cl _ (cl_map _ (fun _ => rfl) _) | refine And.intro ?_ ?_ | refine tmall_cons ?_ ?_ | (intro _; refine okRL_cons ?_ ?_) | refine okRL_cons ?_ ?_ | (intro _; refine okRL_app ?_ ?_) | exact okRL_cl _ (cl_map _ (fun _ => rfl) _) | exact cl_map _ (fun _ => rfl) _) : p := h
theorem q11 : FnOk Try.prog 11 := .of Try.func11 rfl rfl
theorem q27 : FnOk Try.prog 27 := .of Try.func27 rfl rfl
theorem q29 : FnOk Try.prog 29 := .of Try.func29 rfl rfl
theorem q46 : FnOk Try.prog 46 := .of Try.func46 rfl rfl
theorem q47 : FnOk Try.prog 47 := .of Try.func47 rfl rfl
theorem q48 : FnOk Try.prog 48 := .of Try.func48 rfl rfl
theorem q50 : FnOk Try.prog 50 := .of Try.func50 rfl rfl
theorem q51 : FnOk Try.prog 51 := .of Try.func51 rfl rfl
theorem q53 : FnOk Try.prog 53 := .of Try.func53 rfl rfl
theorem q54 : FnOk Try.prog 54 := .of Try.func54 rfl rfl
theorem q57 : FnOk Try.prog 57 := .of Try.func57 rfl rfl
theorem q58 : FnOk Try.prog 58 := .of Try.func58 rfl rfl
theorem q59 : FnOk Try.prog 59 := .of Try.func59 rfl rfl
theorem q60 : FnOk Try.prog 60 := .of Try.func60 rfl rfl
theorem q61 : FnOk Try.prog 61 := .of Try.func61 rfl rfl
theorem q63 : FnOk Try.prog 63 := .of Try.func63 rfl rfl
theorem q64 : FnOk Try.prog 64 := .of Try.func64 rfl rfl
theorem q78 : FnOk Try.prog 78 := .of Try.func78 rfl rfl
theorem q80 : FnOk Try.prog 80 := .of Try.func80 rfl rfl
theorem q81 : FnOk Try.prog 81 := .of Try.func81 rfl rfl
theorem q83 : FnOk Try.prog 83 := .of Try.func83 rfl rfl
theorem q84 : FnOk Try.prog 84 := .of Try.func84 rfl rfl
theorem q85 : FnOk Try.prog 85 := .of Try.func85 rfl rfl
theorem q89 : FnOk Try.prog 89 := .of Try.func89 rfl rfl
theorem q92 : FnOk Try.prog 92 := .of Try.func92 rfl rfl
theorem q93 : FnOk Try.prog 93 := .of Try.func93 rfl rfl
theorem q94 : FnOk Try.prog 94 := .of Try.func94 rfl rfl
theorem q95 : FnOk Try.prog 95 := .of Try.func95 rfl rfl
theorem q96 : FnOk Try.prog 96 := .of Try.func96 rfl rfl
theorem q97 : FnOk Try.prog 97 := .of Try.func97 rfl rfl
theorem q108 : FnOk Try.prog 108 := .of Try.func108 rfl rfl
theorem q112 : FnOk Try.prog 112 := .of Try.func112 rfl rfl
theorem q115 : FnOk Try.prog 115 := .of Try.func115 rfl rfl
theorem q118 : FnOk Try.prog 118 := .of Try.func118 rfl rfl
theorem q119 : FnOk Try.prog 119 := .of Try.func119 rfl rfl
theorem q120 : FnOk Try.prog 120 := .of Try.func120 rfl rfl
theorem q126 : FnOk Try.prog 126 := .of Try.func126 rfl rfl
abbrev iD (i : Int) : D := .v (.int .i64 i)
abbrev nilD : D := .v (.slice none 0 0)
abbrev uD (n : Nat) : D := .v (.int .u32 (n : Int))
abbrev nD (n : Nat) : D := .v (.int .i64 (n : Int))
abbrev bD (b : Bool) : D := .v (.bool b)
abbrev u8D (n : Nat) : D := .v (.int .u8 (n : Int))
def lk {α β : Type} (b : List β) (x : α) : α := match b with
 | [] => x
 | _ :: _ => x
theorem lk_eq {α β : Type} (b : List β) (x : α) : lk b x = x := by cases b <;> rfl
def bitB (b : List UInt8) (p : Nat) : Nat := (b.getD (p / 8) default).toNat / 2 ^ (p % 8) % 2
def numB (b : List UInt8) (p : Nat) : Nat → Nat
 | 0 => 0
 | n + 1 => numB b p n + 2 ^ n * bitB b (p + n)
theorem bitB_lt (b : List UInt8) (p : Nat) : bitB b p < 2 := Nat.mod_lt _ (by decide)
theorem numB_lt (b : List UInt8) (p : Nat) : ∀ n, numB b p n < 2 ^ n
 | 0 => Nat.zero_lt_one
 | n + 1 => by
  have h1 := numB_lt b p n
  have h2 := bitB_lt b (p + n)
  have h3 : 2 ^ n * bitB b (p + n) ≤ 2 ^ n * 1 := Nat.mul_le_mul_left _ (by omega)
  rw [numB, Nat.pow_succ]; omega
theorem numB_32 (b : List UInt8) (p : Nat) {n : Nat} (h : n ≤ 32) : numB b p n < 4294967296 :=
 Nat.lt_of_lt_of_le (numB_lt b p n) (Nat.pow_le_pow_right (by decide) h)
def tkV (b : List UInt8) (p m : Nat) : Nat := lk b (if 8 * b.length < p + m then 0 else numB b p m)
def tkE (b : List UInt8) (p m : Nat) : Nat := lk b (if 8 * b.length < p + m then 10 else 0)
theorem tkV_0 {b : List UInt8} {p m : Nat} (h : 8 * b.length < p + m) : tkV b p m = 0 := (lk_eq _ _).trans (if_pos h)
theorem tkV_1 {b : List UInt8} {p m : Nat} (h : ¬ 8 * b.length < p + m) : tkV b p m = numB b p m := (lk_eq _ _).trans (if_neg h)
theorem tkE_0 {b : List UInt8} {p m : Nat} (h : 8 * b.length < p + m) : tkE b p m = 10 := (lk_eq _ _).trans (if_pos h)
theorem tkE_1 {b : List UInt8} {p m : Nat} (h : ¬ 8 * b.length < p + m) : tkE b p m = 0 := (lk_eq _ _).trans (if_neg h)
theorem tkV_lt (b : List UInt8) (p m : Nat) : tkV b p m < 2 ^ m := by
 by_cases h : 8 * b.length < p + m
 ·rw [tkV_0 h]; exact Nat.two_pow_pos m
 ·rw [tkV_1 h]; exact numB_lt b p m
def kraft : List UInt8 → Nat
 | [] => 0
 | x :: r => (if x.toNat = 0 then 0 else 2 ^ (15 - x.toNat)) + kraft r
def usedN : List UInt8 → Nat
 | [] => 0
 | x :: r => (if x.toNat = 0 then 0 else 1) + usedN r
def overB (l : List UInt8) (most : Nat) : Bool := l.any fun x => decide (most < x.toNat)
theorem kraft_app (a c : List UInt8) : kraft (a ++ c) = kraft a + kraft c := by
 induction a with
 | nil => simp [kraft]
 | cons x r ih => rw [List.cons_append, kraft, kraft, ih]; omega
theorem usedN_app (a c : List UInt8) : usedN (a ++ c) = usedN a + usedN c := by
 induction a with
 | nil => simp [usedN]
 | cons x r ih => rw [List.cons_append, usedN, usedN, ih]; omega
theorem usedN_le (l : List UInt8) : usedN l ≤ l.length := by
 induction l with
 | nil => exact Nat.le_refl _
 | cons x r ih => rw [usedN, List.length_cons]; split <;> omega
theorem kraft_le (l : List UInt8) : kraft l ≤ l.length * 32768 := by
 induction l with
 | nil => exact Nat.le_refl _
 | cons x r ih =>
  rw [kraft, List.length_cons]
  have : 2 ^ (15 - x.toNat) ≤ 2 ^ 15 := Nat.pow_le_pow_right (by decide) (by omega)
  split <;> omega
theorem take_snoc {l : List UInt8} {i : Nat} (h : i < l.length) : l.take (i + 1) = l.take i ++ [l.getD i default] := take_succ_getD h
theorem kraft_snoc {l : List UInt8} {i : Nat} (h : i < l.length) : kraft (l.take (i + 1)) = kraft (l.take i) + (if (l.getD i default).toNat = 0 then 0 else 2 ^ (15 - (l.getD i default).toNat)) := by
 rw [take_snoc h, kraft_app]; rfl
theorem usedN_snoc {l : List UInt8} {i : Nat} (h : i < l.length) : usedN (l.take (i + 1)) = usedN (l.take i) + (if (l.getD i default).toNat = 0 then 0 else 1) := by
 rw [take_snoc h, usedN_app]; rfl
def canD (l : List UInt8) (most : Nat) : Nat :=
 if 320 < l.length then 4 else if overB l most = true then 2 else if 32768 < kraft l then 30
 else if kraft l = 32768 ∨ usedN l = 0 ∨ usedN l = 1 ∧ kraft l = 16384 then 0 else 31
def canE (l : List UInt8) (most : Nat) : Nat := lk l (canD l most)
theorem canE_eq (l : List UInt8) (most : Nat) : canE l most = canD l most := lk_eq _ _
theorem over_of {l : List UInt8} {most i : Nat} (h : i < l.length) (h2 : most < (l.getD i default).toNat) : overB l most = true := by
 unfold overB
 rw [List.any_eq_true]
 refine ⟨l.getD i default, ?_, decide_eq_true h2⟩
 rw [List.getD_eq_getElem?_getD, List.getElem?_eq_getElem h]; exact List.getElem_mem h
theorem over_no {l : List UInt8} {most : Nat} (h : ∀ i, i < l.length → (l.getD i default).toNat ≤ most) : overB l most = false := by
 unfold overB
 rw [List.any_eq_false]
 intro x hx
 obtain ⟨i, hi⟩ := List.getElem?_of_mem hx
 have hlt := (List.getElem?_eq_some_iff.1 hi).1
 have := h i hlt
 rw [List.getD_eq_getElem?_getD, hi] at this
 simpa using this
theorem over_le {l : List UInt8} {most : Nat} (h : overB l most = false) {i : Nat} (hi : i < l.length) : (l.getD i default).toNat ≤ most := by
 rcases Nat.lt_or_ge most (l.getD i default).toNat with q | q
 ·rw [over_of hi q] at h; cases h
 ·exact q
theorem canE_0 {l : List UInt8} {most : Nat} (h : canE l most = 0) : l.length ≤ 320 ∧ overB l most = false ∧ kraft l ≤ 32768 := by
 rw [canE_eq] at h; unfold canD at h
 split at h
 ·cases h
 ·split at h
  ·cases h
  ·split at h
   ·cases h
   ·refine ⟨by omega, by simp_all, by omega⟩
def posT (l : List UInt8) (n k : Nat) : List Nat := (List.range k).filter fun i => decide ((l.getD i default).toNat = n)
def symsT (l : List UInt8) : Nat → List Nat
 | 0 => []
 | n + 1 => symsT l n ++ (if n = 0 then [] else posT l n l.length)
def cntD (l : List UInt8) (n : Nat) : Nat := if n = 0 then 0 else (posT l n l.length).length
def cnt (l : List UInt8) (n : Nat) : Nat := lk l (cntD l n)
def symsL (l : List UInt8) : List Nat := lk l (symsT l 16)
theorem symsL_eq (l : List UInt8) : symsL l = symsT l 16 := lk_eq _ _
def cntAt (l : List UInt8) (n k m : Nat) : Nat := lk l (if m = 0 then 0 else if m < n then (posT l m l.length).length else if m = n then (posT l m k).length else 0)
def symsAt (l : List UInt8) (n k : Nat) : List Nat := lk l (symsT l n ++ (if n = 0 then [] else posT l n k))
def c16 (f : Nat → Nat) : List D := [nD (f 0), nD (f 1), nD (f 2), nD (f 3), nD (f 4), nD (f 5), nD (f 6), nD (f 7), nD (f 8), nD (f 9), nD (f 10), nD (f 11), nD (f 12), nD (f 13), nD (f 14), nD (f 15)]
def treeC (m : Nat) (l : List UInt8) : List D := c16 (cnt l) ++ [.sl false m 1 ((symsL l).map nD)]
abbrev treeD (m : Nat) (l : List UInt8) : D := .agg (treeC m l)
def zeroC : List D := [iD 0, iD 0, iD 0, iD 0, iD 0, iD 0, iD 0, iD 0, iD 0, iD 0, iD 0, iD 0, iD 0, iD 0, iD 0, iD 0, nilD]
abbrev zeroT : D := .agg zeroC
theorem get16 (f : Nat → Nat) (r : List D) (n : Nat) (h : n < 16) : (c16 f ++ r)[n]? = some (nD (f n)) := by
 match n, h with
 | 0, _ => rfl | 1, _ => rfl | 2, _ => rfl | 3, _ => rfl | 4, _ => rfl | 5, _ => rfl | 6, _ => rfl | 7, _ => rfl
 | 8, _ => rfl | 9, _ => rfl | 10, _ => rfl | 11, _ => rfl | 12, _ => rfl | 13, _ => rfl | 14, _ => rfl | 15, _ => rfl
 | n + 16, h => exact absurd h (by omega)
theorem get16' (f : Nat → Nat) (n : Nat) (h : n < 16) : (c16 f)[n]? = some (nD (f n)) := by
 have := get16 f [] n h
 rwa [List.append_nil] at this
theorem c16_congr {f g : Nat → Nat} (h : ∀ n, n < 16 → f n = g n) : c16 f = c16 g := by
 unfold c16
 rw [h 0 (by decide), h 1 (by decide), h 2 (by decide), h 3 (by decide), h 4 (by decide), h 5 (by decide), h 6 (by decide), h 7 (by decide), h 8 (by decide), h 9 (by decide), h 10 (by decide), h 11 (by decide), h 12 (by decide), h 13 (by decide), h 14 (by decide), h 15 (by decide)]
theorem set16 (f : Nat → Nat) (r : List D) (n : Nat) (h : n < 16) (x : Nat) : setSeg (c16 f ++ r) n [nD x] = c16 (fun m => if m = n then x else f m) ++ r := by
 match n, h with
 | 0, _ => rfl | 1, _ => rfl | 2, _ => rfl | 3, _ => rfl | 4, _ => rfl | 5, _ => rfl | 6, _ => rfl | 7, _ => rfl
 | 8, _ => rfl | 9, _ => rfl | 10, _ => rfl | 11, _ => rfl | 12, _ => rfl | 13, _ => rfl | 14, _ => rfl | 15, _ => rfl
 | n + 16, h => exact absurd h (by omega)
theorem posT_succ (l : List UInt8) (n k : Nat) : posT l n (k + 1) = posT l n k ++ (if (l.getD k default).toNat = n then [k] else []) := by
 unfold posT
 rw [List.range_succ, List.filter_append]
 congr 1
 rw [List.filter_cons, List.filter_nil]
 by_cases h : (l.getD k default).toNat = n
 ·rw [if_pos h, if_pos (decide_eq_true h)]
 ·rw [if_neg h, if_neg (by simpa using h)]
theorem posT_le (l : List UInt8) (n k : Nat) : (posT l n k).length ≤ k := by
 unfold posT
 exact Nat.le_trans (List.length_filter_le _ _) (by simp)
theorem posT_mem {l : List UInt8} {n k i : Nat} : i ∈ posT l n k ↔ i < k ∧ (l.getD i default).toNat = n := by
 unfold posT; simp
theorem symsAt_eq (l : List UInt8) (n k : Nat) : symsAt l n k = symsT l n ++ (if n = 0 then [] else posT l n k) := lk_eq _ _
theorem cntAt_eq (l : List UInt8) (n k m : Nat) : cntAt l n k m = if m = 0 then 0 else if m < n then (posT l m l.length).length else if m = n then (posT l m k).length else 0 := lk_eq _ _
theorem cnt_eq (l : List UInt8) (n : Nat) : cnt l n = cntD l n := lk_eq _ _
theorem symsAt_0 (l : List UInt8) : symsAt l 0 0 = [] := symsAt_eq l 0 0
theorem symsAt_up (l : List UInt8) (n : Nat) : symsAt l (n + 1) 0 = symsAt l n l.length := by
 rw [symsAt_eq, symsAt_eq, symsT, if_neg (Nat.succ_ne_zero n)]
 show _ ++ posT l (n + 1) 0 = _
 have : posT l (n + 1) 0 = [] := rfl
 rw [this, List.append_nil]
theorem symsAt_y {l : List UInt8} {n k : Nat} (hn : n ≠ 0) (h : (l.getD k default).toNat = n) : symsAt l n (k + 1) = symsAt l n k ++ [k] := by
 rw [symsAt_eq, symsAt_eq, if_neg hn, if_neg hn, posT_succ, if_pos h, List.append_assoc]
theorem symsAt_n {l : List UInt8} {n k : Nat} (h : n = 0 ∨ (l.getD k default).toNat ≠ n) : symsAt l n (k + 1) = symsAt l n k := by
 rw [symsAt_eq, symsAt_eq]
 by_cases hn : n = 0
 ·rw [if_pos hn, if_pos hn]
 ·rw [if_neg hn, if_neg hn, posT_succ, if_neg (by rcases h with h | h; exact absurd h hn; exact h), List.append_nil]
theorem symsAt_end (l : List UInt8) : symsAt l 16 0 = symsL l := by
 rw [symsAt_eq]
 show symsT l 16 ++ posT l 16 0 = _
 have : posT l 16 0 = [] := rfl
 rw [this, List.append_nil, symsL_eq]
theorem cntAt_0 (l : List UInt8) (m : Nat) : cntAt l 0 0 m = 0 := by
 rw [cntAt_eq]
 by_cases h : m = 0
 ·rw [if_pos h]
 ·rw [if_neg h, if_neg (by omega), if_neg h]
theorem cntAt_up (l : List UInt8) (n m : Nat) : cntAt l (n + 1) 0 m = cntAt l n l.length m := by
 rw [cntAt_eq, cntAt_eq]
 by_cases h0 : m = 0
 ·rw [if_pos h0, if_pos h0]
 ·rw [if_neg h0, if_neg h0]
  by_cases h1 : m < n
  ·rw [if_pos (by omega), if_pos h1]
  ·rw [if_neg h1]
   by_cases h2 : m = n
   ·rw [if_pos (by omega), if_pos h2]
   ·rw [if_neg (by omega), if_neg h2]
    by_cases h3 : m = n + 1
    ·rw [if_pos h3]; rfl
    ·rw [if_neg h3]
theorem cntAt_y {l : List UInt8} {n k : Nat} (hn : n ≠ 0) (h : (l.getD k default).toNat = n) (m : Nat) : cntAt l n (k + 1) m = if m = n then cntAt l n k n + 1 else cntAt l n k m := by
 rw [cntAt_eq, cntAt_eq, cntAt_eq]
 by_cases h2 : m = n
 ·subst h2
  rw [if_neg hn, if_neg (by omega), if_pos rfl, if_pos rfl, if_neg hn, if_neg (by omega), if_pos rfl, posT_succ, if_pos h, List.length_append]; rfl
 ·rw [if_neg h2, if_neg h2, if_neg h2]
theorem cntAt_n {l : List UInt8} {n k : Nat} (h : n = 0 ∨ (l.getD k default).toNat ≠ n) (m : Nat) : cntAt l n (k + 1) m = cntAt l n k m := by
 rw [cntAt_eq, cntAt_eq]
 by_cases h0 : m = 0
 ·rw [if_pos h0, if_pos h0]
 ·rw [if_neg h0, if_neg h0]
  by_cases h1 : m < n
  ·rw [if_pos h1, if_pos h1]
  ·rw [if_neg h1, if_neg h1]
   by_cases h2 : m = n
   ·subst h2
    rw [if_pos rfl, if_pos rfl, posT_succ, if_neg (by rcases h with h | h; exact absurd h h0; exact h), List.append_nil]
   ·rw [if_neg h2, if_neg h2]
theorem cntAt_end (l : List UInt8) (m : Nat) (h : m < 16) : cntAt l 16 0 m = cnt l m := by
 rw [cntAt_eq, cnt_eq]; unfold cntD
 by_cases h0 : m = 0
 ·rw [if_pos h0, if_pos h0]
 ·rw [if_neg h0, if_neg h0, if_pos h]
theorem cntAt_le (l : List UInt8) (n k m : Nat) (hk : k ≤ l.length) : cntAt l n k m ≤ l.length := by
 rw [cntAt_eq]
 split
 ·omega
 ·split
  ·exact posT_le _ _ _
  ·split
   ·exact Nat.le_trans (posT_le _ _ _) hk
   ·omega
theorem symsT_len (l : List UInt8) : ∀ n, (symsT l n).length ≤ n * l.length
 | 0 => Nat.zero_le _
 | n + 1 => by
  have h1 := symsT_len l n
  have h2 := posT_le l n l.length
  rw [symsT, List.length_append, Nat.succ_mul]
  split
  ·simp; omega
  ·omega
theorem symsAt_len {l : List UInt8} {n k : Nat} (hn : n ≤ 16) (hk : k ≤ l.length) : (symsAt l n k).length ≤ 17 * l.length := by
 rw [symsAt_eq, List.length_append]
 have h1 := symsT_len l n
 have h2 := posT_le l n k
 have h3 : n * l.length ≤ 16 * l.length := Nat.mul_le_mul_right _ hn
 have h4 : (if n = 0 then [] else posT l n k).length ≤ l.length := by
  split
  ·simp
  ·omega
 omega
@[simp] theorem cl_nD (xs : List Nat) : closedL (xs.map nD) = true := cl_map _ (fun _ => rfl) xs
theorem cntN {l : List UInt8} {a k : Nat} (h : a = 0 ∨ (l.getD (k * 1) default).toNat ≠ a) (m : Nat) : cntAt l a (k + 1) m = cntAt l a k m := cntAt_n (by rwa [Nat.mul_one] at h) m
theorem symsN {l : List UInt8} {a k : Nat} (h : a = 0 ∨ (l.getD (k * 1) default).toNat ≠ a) : symsAt l a (k + 1) = symsAt l a k := symsAt_n (by rwa [Nat.mul_one] at h)
theorem st16 (l : List UInt8) (a k : Nat) {o : Nat} {d : D} (ho : o = a) (h0 : 0 < a) (h1 : a < 16) (h : (l.getD (k * 1) default).toNat = a) : setSeg (c16 (cntAt l a k) ++ [d]) o [D.v (.int .i64 (((cntAt l a k o : Nat) : Int) + 1))] = c16 (cntAt l a (k + 1)) ++ [d] := by
 subst ho
 rw [show D.v (.int .i64 (((cntAt l o k o : Nat) : Int) + 1)) = nD (cntAt l o k o + 1) from rfl, set16 _ _ _ h1]
 have e : c16 (fun m => if m = o then cntAt l o k o + 1 else cntAt l o k m) = c16 (cntAt l o (k + 1)) := c16_congr fun m _ => by
  rw [cntAt_y (by omega) (by rwa [Nat.mul_one] at h)]
 rw [e]
theorem symsY {l : List UInt8} {a k : Nat} (h0 : 0 < a) (h : (l.getD (k * 1) default).toNat = a) : symsAt l a (k + 1) = symsAt l a k ++ [k] := symsAt_y (by omega) (by rwa [Nat.mul_one] at h)

theorem zb0 {p : Prop} (h : p := by (refine iv_eq ?_; rw [canE_eq]; unfold canD;  (repeat' split) <;> first | omega | (simp_all; done))) : p := h
theorem zb1 {p : Prop} (h : p := by (refine iv_eq ?_; (omega))) : p := h
theorem zb2 {p : Prop} (h : p := by (simp only [cntN (l := l) (a := a) (k := k) (by (omega)), symsN (l := l) (a := a) (k := k) (by (omega))])) : p := h
theorem zb3 {p : Prop} (h : p := by (refine decide_eq_false ?_; (omega))) : p := h
theorem zb4 {p : Prop} (h : p := by ((refine and_tI ?_ ?_) <;> (repeat' (first | (refine and_tI ?_ ?_) | (with_reducible rfl) | (refine decide_eq_true ?_) | (refine Nat.ble_eq_true_of_le ?_) | (refine nbeq ?_))) <;> (omega))) : p := h
theorem zb5 {p : Prop} (h : p := by show n - (k + 1) < n - k; clear next2 last2 next1 last1; omega) : p := h
theorem zb6 {p : Prop} (h : p := by (simp;  have h9 := cntAt_le l a k a om; have h8 := symsAt_len (l := l) (n := a) (k := k) om om; omega)) : p := h
theorem zb7 {p : Prop} (h : p := by (rw [show a = 16 from by (omega)]; simp (disch := decide) only [cntAt_end, symsAt_end])) : p := h
theorem w64 {x : Int} (h : -9223372036854775808 ≤ x ∧ x ≤ 9223372036854775807) : IntKind.i64.wrap x = x := by
 have h2 := wrapO_i64 (x := x) h
 rw [wrapO_eq] at h2
 injection h2 with h3; injection h3 with h4; injection h4
theorem take_step {b : List UInt8} {p i : Nat} (hi : i < 32) : D.v (.int .u32 (IntKind.u32.wrap ((BitVec.ofInt 32 (numB b p i : Int) ||| BitVec.ofInt 32 (2 ^ min i 32 * ((IntKind.u8.wrap ((BitVec.ofInt 8 (((((b.getD ((((p : Int) + (i : Int)) / 8).toNat * 1) default).toNat : Nat) : Int)).fdiv (2 ^ min (((p : Int) + (i : Int)) % 8).toNat 8)) &&& BitVec.ofInt 8 1).toNat : Int)) % 4294967296) % 4294967296)).toNat : Int))) = D.v (.int .u32 ((numB b p (i + 1) : Nat) : Int)) := by
 refine iv_eq ?_
 have e1 : (((p : Int) + (i : Int)) / 8).toNat * 1 = (p + i) / 8 := by omega
 have e2 : min (((p : Int) + (i : Int)) % 8).toNat 8 = (p + i) % 8 := by omega
 rw [e1, e2, show min i 32 = i from by omega]
 generalize hX : b.getD ((p + i) / 8) default = X
 have hx := X.toNat_lt
 have hp : (0 : Int) ≤ 2 ^ ((p + i) % 8) := Int.le_of_lt (Int.pow_pos (by decide))
 have hd : ((X.toNat : Nat) : Int).fdiv (2 ^ ((p + i) % 8)) = ((X.toNat / 2 ^ ((p + i) % 8) : Nat) : Int) := by
  rw [Int.fdiv_eq_ediv_of_nonneg _ hp]; push_cast; rfl
 have hl : X.toNat / 2 ^ ((p + i) % 8) ≤ X.toNat := Nat.div_le_self _ _
 have hb : ((X.toNat / 2 ^ ((p + i) % 8)) % 2) = bitB b (p + i) := by unfold bitB; rw [hX]
 rw [hd]
 generalize X.toNat / 2 ^ ((p + i) % 8) = Y at *
 rw [bx_mask_u8 1 2 (by omega) (by decide) (by decide) (by decide)]
 have h1 := bitB_lt b (p + i)
 have h2 := numB_lt b p i
 have h3 : 2 ^ (i + 1) ≤ 2 ^ 32 := Nat.pow_le_pow_right (by decide) (by omega)
 have h4 : numB b p (i + 1) < 2 ^ (i + 1) := numB_lt b p (i + 1)
 have h7 : numB b p (i + 1) = numB b p i + 2 ^ i * bitB b (p + i) := rfl
 have h6 : (2 : Int) ^ i * (((Y : Nat) : Int) % 2 % 4294967296) % 4294967296 = ((2 ^ i * bitB b (p + i) : Nat) : Int) := by
  rw [Int.emod_eq_of_lt (a := ((Y : Nat) : Int) % 2) (by omega) (by omega), show ((Y : Nat) : Int) % 2 = ((bitB b (p + i) : Nat) : Int) from by omega]
  rw [show (2 : Int) ^ i * ((bitB b (p + i) : Nat) : Int) = ((2 ^ i * bitB b (p + i) : Nat) : Int) from by push_cast; rfl]
  exact Int.emod_eq_of_lt (by omega) (by omega)
 rw [h6, bx_or_u32 (by omega) (by omega), Int.toNat_natCast, Int.toNat_natCast, Nat.or_comm, ← Nat.two_pow_add_eq_or_of_lt h2, Nat.add_comm]
 rfl
theorem ho_next {l : List UInt8} {i m : Nat} (ho : ∀ j, j < i → (l.getD j default).toNat ≤ m) (h : ¬ ((m : Nat) : Int) < (((l.getD (i * 1) default).toNat : Nat) : Int)) : ∀ j, j < i + 1 → (l.getD j default).toNat ≤ m := fun j hj => by
 rcases Nat.lt_or_ge j i with q | q
 ·exact ho j q
 ·have q2 : j = i := by omega
  subst q2; rw [Nat.mul_one] at h; omega
theorem kr_y {l : List UInt8} {i : Nat} (h : i < l.length) (hN : l.length ≤ 1000000) (h1 : 0 < (l.getD (i * 1) default).toNat) (h2 : (l.getD (i * 1) default).toNat ≤ 15) : D.v (.int .i64 (IntKind.i64.wrap (((kraft (l.take i) : Nat) : Int) + IntKind.i64.wrap (2 ^ min (15 - (((l.getD (i * 1) default).toNat : Nat) : Int)).toNat 64 * 1)))) = D.v (.int .i64 ((kraft (l.take (i + 1)) : Nat) : Int)) := by
 refine iv_eq ?_
 rw [Nat.mul_one] at *
 rw [kraft_snoc h]
 generalize (l.getD i default).toNat = x at *
 have hk := kraft_le (l.take i)
 rw [List.length_take] at hk
 rw [if_neg (by omega), show min (15 - (x : Int)).toNat 64 = 15 - x from by omega]
 have hp : 2 ^ (15 - x) ≤ 2 ^ 15 := Nat.pow_le_pow_right (by decide) (by omega)
 have e : (2 : Int) ^ (15 - x) * 1 = ((2 ^ (15 - x) : Nat) : Int) := by push_cast; omega
 rw [e]
 generalize 2 ^ (15 - x) = Z at *
 rw [w64 (x := ((Z : Nat) : Int)) (by omega), w64 (by omega)]
 omega
theorem kr_n {l : List UInt8} {i : Nat} (h : i < l.length) (h1 : ¬ (0 : Int) < (((l.getD (i * 1) default).toNat : Nat) : Int)) : kraft (l.take (i + 1)) = kraft (l.take i) ∧ usedN (l.take (i + 1)) = usedN (l.take i) := by
 rw [Nat.mul_one] at h1
 rw [kraft_snoc h, usedN_snoc h, if_pos (by omega), if_pos (by omega)]; exact ⟨rfl, rfl⟩
theorem us_y {l : List UInt8} {i : Nat} (h : i < l.length) (hN : l.length ≤ 1000000) (h1 : 0 < (l.getD (i * 1) default).toNat) : D.v (.int .i64 (IntKind.i64.wrap (((usedN (l.take i) : Nat) : Int) + 1))) = D.v (.int .i64 ((usedN (l.take (i + 1)) : Nat) : Int)) := by
 refine iv_eq ?_
 rw [Nat.mul_one] at *
 rw [usedN_snoc h, if_neg (by omega)]
 have hk := usedN_le (l.take i)
 rw [List.length_take] at hk
 rw [w64 (by omega)]; omega
theorem Take_t (b : List UInt8) (n : Nat) (hn : n = b.length) (hN : n ≤ 1000000) (p m : Nat) (hp : p ≤ 16000000) (hm : m ≤ 32) : SpecH false Try.prog 78 [.sl false n 1 (b.map dB), nD p, nD m] [] (.tup [uD (tkV b p m), nD (tkE b p m)]) [] := by
 refine SpecH.run T_ok mixed Try.func78 rfl rfl rfl trivial rfl 1000 64 (fun R ok => (.s 19 (.f (decide (32 < (↑m : Int))) zb3 (.s 5 (.ow (8 * (↑n : Int)) (.s 3 (.ow (8 * (↑n : Int) - (↑m : Int)) (.s 2 (.br (decide (8 * (↑n : Int) - (↑m : Int) < (↑p : Int))) (fun p0 => have p0f := odt p0; (.s 2 (.out [] [] (D.tup [D.v (Value.int .u32 0), iD 10]) [] R (ok _ _ (by (rw [tkV_0 (by (omega)), tkE_0 (by (omega))]; rfl)) wr)))) (fun p0 => have p0f := odf p0; (.s 2 (Hn.inl T_ok mixed false 50 0 (loopAt Try.prog 78 0) (fun (x : (i : Nat) ×' (hi : i ≤ m) ×' Unit) => match x with | ⟨i, hi, _⟩ => CutS.mk [(0, D.sl false n 1 (List.map dB b)), (1, nD p), (6, uD (numB b p i)), (26, nD m), (27, nD i)] [] 0) (fun (x : (i : Nat) ×' (hi : i ≤ m) ×' Unit) => match x with | ⟨i, hi, _⟩ => m - i) [⟨Unit, .exit 0, fun x => match x with | () => CutS.mk [(0, D.sl false n 1 (List.map dB b)), (1, nD p), (6, uD (numB b p m)), (26, nD m)] [] 0⟩] 1000 64 (fun | ⟨i, hi, _⟩, Q, next1, last1 => (.s 2 (.br (decide ((↑i : Int) < (↑m : Int))) (fun p1 => have p1f := odt p1; (.s 8 (.ow ((↑p : Int) + (↑i : Int)) (.s 2 (.opt (bitO IntKind.i64 (IntKind.wrap IntKind.i64 (Int.tdiv ((↑p : Int) + (↑i : Int)) 8))) (iD (((↑p : Int) + (↑i : Int)) / 8)) (bitO_of (@bx_quo_i64  ((↑p : Int) + (↑i : Int)) (8) om om)) (.s 1 (.chk (true && decide (((↑p : Int) + (↑i : Int)) / 8 < (↑n : Int)) && true) zb4 (.s 2 (.opt ((List.map dB b)[Int.toNat (((↑p : Int) + (↑i : Int)) / 8) * 1]?) (dB (List.getD b (Int.toNat (((↑p : Int) + (↑i : Int)) / 8) * 1) default)) (map_get _ _ om) (.s 4 (.ow ((↑p : Int) + (↑i : Int)) (.s 2 (.opt (bitO IntKind.i64 (Int.tmod ((↑p : Int) + (↑i : Int)) 8)) (iD (((↑p : Int) + (↑i : Int)) % 8)) (bitO_of (@bx_rem  ((↑p : Int) + (↑i : Int)) (8) om)) (.s 2 (.opt (bitO IntKind.u8 (Int.fdiv (↑(UInt8.toNat (List.getD b (Int.toNat (((↑p : Int) + (↑i : Int)) / 8) * 1) default)) : Int) (2 ^ min (Int.toNat (((↑p : Int) + (↑i : Int)) % 8)) 8))) (D.v (Value.int .u8 (Int.fdiv (↑(UInt8.toNat (List.getD b (Int.toNat (((↑p : Int) + (↑i : Int)) / 8) * 1) default)) : Int) (2 ^ min (Int.toNat (((↑p : Int) + (↑i : Int)) % 8)) 8)))) (bitO_eq _ _) (.s 2 (.opt (bitO IntKind.u8 (IntKind.wrap IntKind.u8 (↑(BitVec.toNat (BitVec.ofInt 8 (Int.fdiv (↑(UInt8.toNat (List.getD b (Int.toNat (((↑p : Int) + (↑i : Int)) / 8) * 1) default)) : Int) (2 ^ min (Int.toNat (((↑p : Int) + (↑i : Int)) % 8)) 8)) &&& BitVec.ofInt 8 1)) : Int))) (D.v (Value.int .u8 (IntKind.wrap IntKind.u8 (↑(BitVec.toNat (BitVec.ofInt 8 (Int.fdiv (↑(UInt8.toNat (List.getD b (Int.toNat (((↑p : Int) + (↑i : Int)) / 8) * 1) default)) : Int) (2 ^ min (Int.toNat (((↑p : Int) + (↑i : Int)) % 8)) 8)) &&& BitVec.ofInt 8 1)) : Int)))) (bitO_eq _ _) (.s 1 (.opt (wrapO .u32 (IntKind.wrap IntKind.u8 (↑(BitVec.toNat (BitVec.ofInt 8 (Int.fdiv (↑(UInt8.toNat (List.getD b (Int.toNat (((↑p : Int) + (↑i : Int)) / 8) * 1) default)) : Int) (2 ^ min (Int.toNat (((↑p : Int) + (↑i : Int)) % 8)) 8)) &&& BitVec.ofInt 8 1)) : Int))) (D.v (Value.int .u32 (IntKind.wrap IntKind.u8 (↑(BitVec.toNat (BitVec.ofInt 8 (Int.fdiv (↑(UInt8.toNat (List.getD b (Int.toNat (((↑p : Int) + (↑i : Int)) / 8) * 1) default)) : Int) (2 ^ min (Int.toNat (((↑p : Int) + (↑i : Int)) % 8)) 8)) &&& BitVec.ofInt 8 1)) : Int) % 4294967296))) (wrapO_eq _ _) (.s 3 (.opt (wrapO .u32 (2 ^ min i 32 * (IntKind.wrap IntKind.u8 (↑(BitVec.toNat (BitVec.ofInt 8 (Int.fdiv (↑(UInt8.toNat (List.getD b (Int.toNat (((↑p : Int) + (↑i : Int)) / 8) * 1) default)) : Int) (2 ^ min (Int.toNat (((↑p : Int) + (↑i : Int)) % 8)) 8)) &&& BitVec.ofInt 8 1)) : Int) % 4294967296))) (D.v (Value.int .u32 (2 ^ min i 32 * (IntKind.wrap IntKind.u8 (↑(BitVec.toNat (BitVec.ofInt 8 (Int.fdiv (↑(UInt8.toNat (List.getD b (Int.toNat (((↑p : Int) + (↑i : Int)) / 8) * 1) default)) : Int) (2 ^ min (Int.toNat (((↑p : Int) + (↑i : Int)) % 8)) 8)) &&& BitVec.ofInt 8 1)) : Int) % 4294967296) % 4294967296))) (wrapO_eq _ _) (.s 2 (.opt (bitO IntKind.u32 (IntKind.wrap IntKind.u32 (↑(BitVec.toNat (BitVec.ofInt 32 (↑(numB b p i) : Int) ||| BitVec.ofInt 32 (2 ^ min i 32 * (IntKind.wrap IntKind.u8 (↑(BitVec.toNat (BitVec.ofInt 8 (Int.fdiv (↑(UInt8.toNat (List.getD b (Int.toNat (((↑p : Int) + (↑i : Int)) / 8) * 1) default)) : Int) (2 ^ min (Int.toNat (((↑p : Int) + (↑i : Int)) % 8)) 8)) &&& BitVec.ofInt 8 1)) : Int) % 4294967296) % 4294967296))) : Int))) (D.v (Value.int .u32 (IntKind.wrap IntKind.u32 (↑(BitVec.toNat (BitVec.ofInt 32 (↑(numB b p i) : Int) ||| BitVec.ofInt 32 (2 ^ min i 32 * (IntKind.wrap IntKind.u8 (↑(BitVec.toNat (BitVec.ofInt 8 (Int.fdiv (↑(UInt8.toNat (List.getD b (Int.toNat (((↑p : Int) + (↑i : Int)) / 8) * 1) default)) : Int) (2 ^ min (Int.toNat (((↑p : Int) + (↑i : Int)) % 8)) 8)) &&& BitVec.ofInt 8 1)) : Int) % 4294967296) % 4294967296))) : Int)))) (bitO_eq _ _) (.s 3 (.ow ((↑i : Int) + 1) (.s 1 (.val 6 (D.v (Value.int .u32 (IntKind.wrap IntKind.u32 (↑(BitVec.toNat (BitVec.ofInt 32 (↑(numB b p i) : Int) ||| BitVec.ofInt 32 (2 ^ min i 32 * (IntKind.wrap IntKind.u8 (↑(BitVec.toNat (BitVec.ofInt 8 (Int.fdiv (↑(UInt8.toNat (List.getD b (Int.toNat (((↑p : Int) + (↑i : Int)) / 8) * 1) default)) : Int) (2 ^ min (Int.toNat (((↑p : Int) + (↑i : Int)) % 8)) 8)) &&& BitVec.ofInt 8 1)) : Int) % 4294967296) % 4294967296))) : Int)))) (D.v (Value.int .u32 (↑(numB b p (i + 1)) : Int))) (by (exact take_step (by (omega)))) (.val 27 (iD ((↑i : Int) + 1)) (nD (i + 1)) zb1 (Hn.next next1 ⟨(i + 1), om, ⟨⟩⟩ (by show m - (i + 1) < m - i; clear next1 last1; omega) [] ro))))))))))))))))))))))))))))) (fun p1 => have p1f := odf p1; (.val 6 (D.v (Value.int .u32 (↑(numB b p i) : Int))) (D.v (Value.int .u32 (↑(numB b p m) : Int))) (by (rw [show i = m from by (omega)])) (Hn.last last1 0 (() : Unit) rfl [] ro)))))) (fun | ⟨i, hi, _⟩ => by kernel_rfl) ⟨(0), om, ⟨⟩⟩ [] ro (hs1 (fun | () => (.s 3 (.out [] [] (D.tup [D.v (Value.int .u32 (↑(numB b p m) : Int)), iD 0]) [] R (ok _ _ (by (rw [tkV_1 (by (omega)), tkE_1 (by (omega))]; rfl)) wr))))))))))))))))) (by kernel_rfl)
theorem Take_i (b : List UInt8) (n : Nat) (hn : n = b.length) (hN : n ≤ 1000000) (p m : Int) (hp : 0 ≤ p ∧ p ≤ 16000000) (hm : 0 ≤ m ∧ m ≤ 32) : SpecH false Try.prog 78 [.sl false n 1 (b.map dB), iD p, iD m] [] (.tup [uD (tkV b p.toNat m.toNat), nD (tkE b p.toNat m.toNat)]) [] := by
 obtain ⟨k, rfl⟩ := Int.eq_ofNat_of_zero_le hp.1
 obtain ⟨j, rfl⟩ := Int.eq_ofNat_of_zero_le hm.1
 exact Take_t b n hn hN k j (by omega) (by omega)
theorem canE_t (l : List UInt8) (n : Nat) (hn : n = l.length) (hN : n ≤ 1000000) (m : Nat) (hm : 1 ≤ m ∧ m ≤ 15) : SpecH false Try.prog 83 [.sl false n 1 (l.map dB), nD m] [] (nD (canE l m)) [] := by
 refine SpecH.run T_ok mixed Try.func83 rfl rfl rfl trivial rfl 1000 64 (fun R ok => (.s 6 (.f (decide ((↑m : Int) < 1)) zb3 (.s 4 (.f (decide (15 < (↑m : Int))) zb3 (.s 4 (.br (decide (320 < (↑n : Int))) (fun p0 => have p0f := odt p0; (.s 1 (.out [] [] (iD 4) [] R (ok _ _ zb0 wr)))) (fun p0 => have p0f := odf p0; (.s 5 (Hn.inl T_ok mixed false 52 0 (loopAt Try.prog 83 0) (fun (x : (i : Nat) ×' (hi : i ≤ n) ×' (ho : ∀ j, j < i → (l.getD j default).toNat ≤ m) ×' Unit) => match x with | ⟨i, hi, ho, _⟩ => CutS.mk [(1, nD m), (5, nD (kraft (l.take i))), (6, nD (usedN (l.take i))), (18, D.sl false n 1 (List.map dB l)), (19, nD n), (20, nD i)] [] 0) (fun (x : (i : Nat) ×' (hi : i ≤ n) ×' (ho : ∀ j, j < i → (l.getD j default).toNat ≤ m) ×' Unit) => match x with | ⟨i, hi, ho, _⟩ => n - i) [⟨(ho2 : overB l m = false) ×' Unit, .exit 0, fun x => match x with | ⟨ho2, _⟩ => CutS.mk [(1, nD m), (5, nD (kraft l)), (6, nD (usedN l)), (18, D.sl false n 1 (List.map dB l)), (19, nD n)] [] 0⟩, ⟨(ho3 : overB l m = true) ×' Unit, .ret, fun x => match x with | ⟨ho3, _⟩ => CutS.mk [(4, iD 2)] [] 0⟩] 1000 64 (fun | ⟨i, hi, ho, _⟩, Q, next1, last1 => (.s 2 (.br (decide ((↑i : Int) < (↑n : Int))) (fun p1 => have p1f := odt p1; (.s 1 (.chk (true && decide ((↑i : Int) < (↑n : Int)) && true) zb4 (.s 2 (.opt ((List.map dB l)[i * 1]?) (dB (List.getD l (i * 1) default)) (map_get _ _ om) (.s 3 (.op (↑(UInt8.toNat (List.getD l (i * 1) default)) : Int) (by (exact u8_rng _ (by decide) (by decide))) (.s 3 (.br (decide ((↑m : Int) < (↑(UInt8.toNat (List.getD l (i * 1) default)) : Int))) (fun p2 => have p2f := odt p2; (.s 1 (Hn.last last1 1 (⟨(by (exact over_of (i := i * 1) (by (omega)) (by (omega)))), ⟨⟩⟩ : (ho3 : overB l m = true) ×' Unit) rfl [] ro))) (fun p2 => have p2f := odf p2; (.s 3 (.br (decide (0 < (↑(UInt8.toNat (List.getD l (i * 1) default)) : Int))) (fun p3 => have p3f := odt p3; (.s 4 (.opt (wrapO .u8 (15 - (↑(UInt8.toNat (List.getD l (i * 1) default)) : Int))) (D.v (Value.int .u8 (15 - (↑(UInt8.toNat (List.getD l (i * 1) default)) : Int)))) (wrapO_u8 om) (.s 1 (.chk (decide (0 ≤ 15 - (↑(UInt8.toNat (List.getD l (i * 1) default)) : Int))) (by (refine decide_eq_true ?_; (omega))) (.opt (wrapO .i64 (2 ^ min (Int.toNat (15 - (↑(UInt8.toNat (List.getD l (i * 1) default)) : Int))) 64 * 1)) (iD (IntKind.wrap IntKind.i64 (2 ^ min (Int.toNat (15 - (↑(UInt8.toNat (List.getD l (i * 1) default)) : Int))) 64 * 1))) (wrapO_eq _ _) (.s 2 (.opt (wrapO .i64 ((↑(kraft (List.take i l)) : Int) + IntKind.wrap IntKind.i64 (2 ^ min (Int.toNat (15 - (↑(UInt8.toNat (List.getD l (i * 1) default)) : Int))) 64 * 1))) (iD (IntKind.wrap IntKind.i64 ((↑(kraft (List.take i l)) : Int) + IntKind.wrap IntKind.i64 (2 ^ min (Int.toNat (15 - (↑(UInt8.toNat (List.getD l (i * 1) default)) : Int))) 64 * 1)))) (wrapO_eq _ _) (.s 4 (.opt (wrapO .i64 ((↑(usedN (List.take i l)) : Int) + 1)) (iD (IntKind.wrap IntKind.i64 ((↑(usedN (List.take i l)) : Int) + 1))) (wrapO_eq _ _) (.s 3 (.ow ((↑i : Int) + 1) (.s 1 (.val 5 (iD (IntKind.wrap IntKind.i64 ((↑(kraft (List.take i l)) : Int) + IntKind.wrap IntKind.i64 (2 ^ min (Int.toNat (15 - (↑(UInt8.toNat (List.getD l (i * 1) default)) : Int))) 64 * 1)))) (nD (kraft (List.take (i + 1) l))) (by (exact kr_y (by (omega)) (by (omega)) (by (omega)) (by (omega)))) (.val 6 (iD (IntKind.wrap IntKind.i64 ((↑(usedN (List.take i l)) : Int) + 1))) (nD (usedN (List.take (i + 1) l))) (by (exact us_y (by (omega)) (by (omega)) (by (omega)))) (.val 20 (iD ((↑i : Int) + 1)) (nD (i + 1)) zb1 (Hn.next next1 ⟨(i + 1), om, (by (exact ho_next ho (by (omega)))), ⟨⟩⟩ (by show n - (i + 1) < n - i; clear next1 last1; omega) [] ro))))))))))))))))) (fun p3 => have p3f := odf p3; (.s 2 (.ow ((↑i : Int) + 1) (.s 1 (.val 5 (nD (kraft (List.take i l))) (nD (kraft (List.take (i + 1) l))) (by (rw [(kr_n (l := l) (i := i) (by (omega)) (by (omega))).1])) (.val 6 (nD (usedN (List.take i l))) (nD (usedN (List.take (i + 1) l))) (by (rw [(kr_n (l := l) (i := i) (by (omega)) (by (omega))).2])) (.val 20 (iD ((↑i : Int) + 1)) (nD (i + 1)) zb1 (Hn.next next1 ⟨(i + 1), om, (by (exact ho_next ho (by (omega)))), ⟨⟩⟩ (by show n - (i + 1) < n - i; clear next1 last1; omega) [] ro)))))))))))))))))))) (fun p1 => have p1f := odf p1; (.val 5 (nD (kraft (List.take i l))) (nD (kraft l)) (by (rw [List.take_of_length_le (by (omega))])) (.val 6 (nD (usedN (List.take i l))) (nD (usedN l)) (by (rw [List.take_of_length_le (by (omega))])) (Hn.last last1 0 (⟨(by (exact over_no (fun j hj => ho j (by (omega))))), ⟨⟩⟩ : (ho2 : overB l m = false) ×' Unit) rfl [] ro))))))) (fun | ⟨i, hi, ho, _⟩ => by kernel_rfl) ⟨(0), om, om, ⟨⟩⟩ [] ro (hs2 (fun | ⟨ho2, _⟩ => (.s 4 (.br (decide (32768 < (↑(kraft l) : Int))) (fun p4 => have p4f := odt p4; (.s 1 (.out [] [] (iD 30) [] R (ok _ _ zb0 wr)))) (fun p4 => have p4f := odf p4; (.s 4 (.br ((↑(kraft l) : Int) == 32768) (fun p5 => have p5f := eq_of_beq p5; (.s 2 (.out [] [] (iD 0) [] R (ok _ _ zb0 wr)))) (fun p5 => have p5f := of_beq_f p5; (.s 4 (.br ((↑(usedN l) : Int) == 0) (fun p6 => have p6f := eq_of_beq p6; (.s 2 (.out [] [] (iD 0) [] R (ok _ _ zb0 wr)))) (fun p6 => have p6f := of_beq_f p6; (.s 5 (.br ((↑(usedN l) : Int) == 1) (fun p7 => have p7f := eq_of_beq p7; (.s 5 (.br ((↑(kraft l) : Int) == 16384) (fun p8 => have p8f := eq_of_beq p8; (.s 1 (.out [] [] (iD 0) [] R (ok _ _ zb0 wr)))) (fun p8 => have p8f := of_beq_f p8; (.s 1 (.out [] [] (iD 31) [] R (ok _ _ zb0 wr))))))) (fun p7 => have p7f := of_beq_f p7; (.s 6 (.out [] [] (iD 31) [] R (ok _ _ zb0 wr)))))))))))))))) (fun | ⟨ho3, _⟩ => (.out [] [] (iD 2) [] R (ok _ _ zb0 wr)))))))))))))) (by kernel_rfl)
theorem Grow_bad (l : List UInt8) (n : Nat) (hn : n = l.length) (hN : n ≤ 1000000) (m : Nat) (hm : 1 ≤ m ∧ m ≤ 15) (h : canE l m ≠ 0) : SpecH false Try.prog 67 [.sl false n 1 (l.map dB), nD m] [] (.tup [zeroT, nD (canE l m)]) [] := by
 refine SpecH.run T_ok mixed Try.func67 rfl rfl rfl trivial rfl 1000 64 (fun R ok => (.s 6 (.cl 83 false [] (.fn q83 (@canE_t (l) (n) om om (m) om)) (.s 4 (.t ((↑(canE l m) : Int) != 0) (by (simp_all; done)) (.s 12 (.out [] [] (D.tup [D.agg [iD 0, iD 0, iD 0, iD 0, iD 0, iD 0, iD 0, iD 0, iD 0, iD 0, iD 0, iD 0, iD 0, iD 0, iD 0, iD 0, nilD], nD (canE l m)]) [] R (ok _ _ (by exact rfl) wr)))))))) (by kernel_rfl)
theorem Grow_ok (l : List UInt8) (n : Nat) (hn : n = l.length) (hN : n ≤ 1000000) (m : Nat) (hm : 1 ≤ m ∧ m ≤ 15) (h : canE l m = 0) : SpecH false Try.prog 67 [.sl false n 1 (l.map dB), nD m] [] (.tup [.agg (c16 (cnt l) ++ [.ref 0 0 0 (symsL l).length 1]), iD 0]) [⟨(symsL l).map nD, 3, true⟩] := by
 have hc := canE_0 h
 refine SpecH.run T_ok mixed Try.func67 rfl rfl rfl ⟨pl_map _ (fun _ => rfl) _, trivial⟩ rfl 1000 64 (fun R ok => (.s 6 (.cl 83 false [] (.fn q83 (@canE_t (l) (n) om om (m) om)) (.s 4 (.f ((↑(canE l m) : Int) != 0) (by (simp <;> (omega))) (.s 9 (.nilc 0 0 (Blk.mk [iD 0, iD 0, iD 0, iD 0, iD 0, iD 0, iD 0, iD 0, iD 0, iD 0, iD 0, iD 0, iD 0, iD 0, iD 0, iD 0, nilD] 26 false) 16 144 1 3 (.blk 0 0 (Blk.mk [iD 0, iD 0, iD 0, iD 0, iD 0, iD 0, iD 0, iD 0, iD 0, iD 0, iD 0, iD 0, iD 0, iD 0, iD 0, iD 0, D.ref 144 144 0 0 1] 26 false) (Blk.mk [nD (cntAt l 0 0 0), nD (cntAt l 0 0 1), nD (cntAt l 0 0 2), nD (cntAt l 0 0 3), nD (cntAt l 0 0 4), nD (cntAt l 0 0 5), nD (cntAt l 0 0 6), nD (cntAt l 0 0 7), nD (cntAt l 0 0 8), nD (cntAt l 0 0 9), nD (cntAt l 0 0 10), nD (cntAt l 0 0 11), nD (cntAt l 0 0 12), nD (cntAt l 0 0 13), nD (cntAt l 0 0 14), nD (cntAt l 0 0 15), D.ref 144 144 0 (List.length (symsAt l 0 0)) 1] 26 false) (by (simp only [cntAt_0, symsAt_0]; rfl)) (.blk 144 144 (Blk.mk [] 3 true) (Blk.mk (List.map nD (symsAt l 0 0)) 3 true) (by (simp only [cntAt_0, symsAt_0]; rfl)) (Hn.inl T_ok mixed false 32 136 (loopAt Try.prog 127 0) (fun (x : (a : Nat) ×' (ha : a ≤ 16) ×' Unit) => match x with | ⟨a, ha, _⟩ => CutS.mk [(0, D.yl 128 128), (1, D.ptr 80 80 0), (6, u8D a)] [⟨0, 0, 0, 0, .b ⟨c16 (cntAt l a 0) ++ [(D.ref 160 160 0 ((symsAt l a 0).length) 1)], 26, false⟩⟩, ⟨80, 80, 80, 80, .b ⟨[D.sl false n 1 (List.map dB l)], 22, false⟩⟩, ⟨128, 128, 128, 128, .l LoopState.ready none (rangeAt Try.prog 67 0).1 (rangeAt Try.prog 67 0).2.1 (rangeAt Try.prog 67 0).2.2 34 [(0, D.sl false n 1 (List.map dB l)), (1, nD m), (11, nD (canE l m)), (5, iD 0), (9, D.sl false n 1 (List.map dB l)), (17, D.fn (Fn.func 127) [] [D.ptr 80 80 0]), (13, D.v (.bool false)), (4, D.ptr 0 0 0), (16, D.sl false n 1 (List.map dB l)), (12, nD (canE l m)), (6, nD (canE l m)), (10, nD m)]⟩, ⟨160, 160, 144, 144, .b ⟨(symsAt l a 0).map nD, 3, true⟩⟩] 168) (fun (x : (a : Nat) ×' (ha : a ≤ 16) ×' Unit) => match x with | ⟨a, ha, _⟩ => 16 - a) [⟨Unit, .exit 0, fun x => match x with | () => CutS.mk [(0, D.yl 128 128), (1, D.ptr 80 80 0)] [⟨0, 0, 0, 0, .b ⟨c16 (cnt l) ++ [(D.ref 160 160 0 ((symsL l).length) 1)], 26, false⟩⟩, ⟨80, 80, 80, 80, .b ⟨[D.sl false n 1 (List.map dB l)], 22, false⟩⟩, ⟨128, 128, 128, 128, .l LoopState.ready none (rangeAt Try.prog 67 0).1 (rangeAt Try.prog 67 0).2.1 (rangeAt Try.prog 67 0).2.2 34 [(0, D.sl false n 1 (List.map dB l)), (1, nD m), (11, nD (canE l m)), (5, iD 0), (9, D.sl false n 1 (List.map dB l)), (17, D.fn (Fn.func 127) [] [D.ptr 80 80 0]), (13, D.v (.bool false)), (4, D.ptr 0 0 0), (16, D.sl false n 1 (List.map dB l)), (12, nD (canE l m)), (6, nD (canE l m)), (10, nD m)]⟩, ⟨160, 160, 144, 144, .b ⟨(symsL l).map nD, 3, true⟩⟩] 168⟩] 1000 64 (fun | ⟨a, ha, _⟩, Q, next1, last1 => (.s 2 (.br (decide ((↑a : Int) < 16)) (fun p0 => have p0f := odt p0; (.s 7 (Hn.inl T_ok mixed false 32 136 (loopAt Try.prog 127 1) (fun (x : (k : Nat) ×' (hk : k ≤ n) ×' Unit) => match x with | ⟨k, hk, _⟩ => CutS.mk [(0, D.yl 128 128), (1, D.ptr 80 80 0), (3, D.v (Value.int .u8 (↑a : Int))), (6, D.v (Value.int .u8 (↑a : Int))), (9, D.sl false n 1 (List.map dB l)), (10, nD n), (11, nD k)] [⟨0, 0, 0, 0, .b ⟨c16 (cntAt l a k) ++ [(D.ref 160 160 0 ((symsAt l a k).length) 1)], 26, false⟩⟩, ⟨80, 80, 80, 80, .b ⟨[D.sl false n 1 (List.map dB l)], 22, false⟩⟩, ⟨128, 128, 128, 128, .l LoopState.ready none (rangeAt Try.prog 67 0).1 (rangeAt Try.prog 67 0).2.1 (rangeAt Try.prog 67 0).2.2 34 [(0, D.sl false n 1 (List.map dB l)), (1, nD m), (11, nD (canE l m)), (5, iD 0), (9, D.sl false n 1 (List.map dB l)), (17, D.fn (Fn.func 127) [] [D.ptr 80 80 0]), (13, D.v (.bool false)), (4, D.ptr 0 0 0), (16, D.sl false n 1 (List.map dB l)), (12, nD (canE l m)), (6, nD (canE l m)), (10, nD m)]⟩, ⟨160, 160, 160, 160, .b ⟨(symsAt l a k).map nD, 3, true⟩⟩] 168) (fun (x : (k : Nat) ×' (hk : k ≤ n) ×' Unit) => match x with | ⟨k, hk, _⟩ => n - k) [⟨Unit, .exit 2, fun x => match x with | () => CutS.mk [(0, D.yl 128 128), (1, D.ptr 80 80 0), (3, D.v (Value.int .u8 (↑a : Int))), (6, D.v (Value.int .u8 (↑a : Int))), (9, D.sl false n 1 (List.map dB l)), (10, nD n)] [⟨0, 0, 0, 0, .b ⟨c16 (cntAt l a n) ++ [(D.ref 160 160 0 ((symsAt l a n).length) 1)], 26, false⟩⟩, ⟨80, 80, 80, 80, .b ⟨[D.sl false n 1 (List.map dB l)], 22, false⟩⟩, ⟨128, 128, 128, 128, .l LoopState.ready none (rangeAt Try.prog 67 0).1 (rangeAt Try.prog 67 0).2.1 (rangeAt Try.prog 67 0).2.2 34 [(0, D.sl false n 1 (List.map dB l)), (1, nD m), (11, nD (canE l m)), (5, iD 0), (9, D.sl false n 1 (List.map dB l)), (17, D.fn (Fn.func 127) [] [D.ptr 80 80 0]), (13, D.v (.bool false)), (4, D.ptr 0 0 0), (16, D.sl false n 1 (List.map dB l)), (12, nD (canE l m)), (6, nD (canE l m)), (10, nD m)]⟩, ⟨160, 160, 160, 160, .b ⟨(symsAt l a n).map nD, 3, true⟩⟩] 168⟩] 1000 64 (fun | ⟨k, hk, _⟩, Q, next2, last2 => (.s 2 (.br (decide ((↑k : Int) < (↑n : Int))) (fun p1 => have p1f := odt p1; (.s 2 (.chk (true && decide ((↑k : Int) < (↑n : Int)) && true) zb4 (.s 2 (.opt ((List.map dB l)[k * 1]?) (dB (List.getD l (k * 1) default)) (map_get _ _ om) (.s 8 (.br ((↑(UInt8.toNat (List.getD l (k * 1) default)) : Int) == (↑a : Int)) (fun p2 => have p2f := eq_of_beq p2; (.s 6 (.br (decide (0 < (↑a : Int))) (fun p3 => have p3f := odt p3; (.s 13 (.chk (true && decide ((↑a : Int) < (↑16 : Int))) asm (.s 3 (.opt ((c16 (cntAt l a k) ++ [D.ref 160 160 0 (List.length (symsAt l a k)) 1])[0 + a * 1]?) (nD (cntAt l a k (0 + a * 1))) (@get16 (cntAt l a k) ([D.ref 160 160 0 (List.length (symsAt l a k)) 1]) (0 + a * 1) om) (.s 2 (.op ((↑(cntAt l a k (0 + a * 1)) : Int) + 1) zb6 (.s 4 (.chk (true && decide ((↑a : Int) < (↑16 : Int))) asm (.s 2 (.chk (true && Nat.ble (0 + a * 1 + 1) 17) (by (refine Nat.ble_eq_true_of_le ?_; (omega))) (.lst (setSeg [nD (cntAt l a k 0), nD (cntAt l a k 1), nD (cntAt l a k 2), nD (cntAt l a k 3), nD (cntAt l a k 4), nD (cntAt l a k 5), nD (cntAt l a k 6), nD (cntAt l a k 7), nD (cntAt l a k 8), nD (cntAt l a k 9), nD (cntAt l a k 10), nD (cntAt l a k 11), nD (cntAt l a k 12), nD (cntAt l a k 13), nD (cntAt l a k 14), nD (cntAt l a k 15), D.ref 160 160 0 (List.length (symsAt l a k)) 1] (0 + a * 1) [iD ((↑(cntAt l a k (0 + a * 1)) : Int) + 1)]) ([nD (cntAt l a (k + 1) 0), nD (cntAt l a (k + 1) 1), nD (cntAt l a (k + 1) 2), nD (cntAt l a (k + 1) 3), nD (cntAt l a (k + 1) 4), nD (cntAt l a (k + 1) 5), nD (cntAt l a (k + 1) 6), nD (cntAt l a (k + 1) 7), nD (cntAt l a (k + 1) 8), nD (cntAt l a (k + 1) 9), nD (cntAt l a (k + 1) 10), nD (cntAt l a (k + 1) 11), nD (cntAt l a (k + 1) 12), nD (cntAt l a (k + 1) 13), nD (cntAt l a (k + 1) 14), nD (cntAt l a (k + 1) 15), D.ref 160 160 0 (List.length (symsAt l a k)) 1]) (@st16 l a k (0 + a * 1) (D.ref 160 160 0 (List.length (symsAt l a k)) 1) om om om om) (.s 10 (.chk (true && Nat.beq (List.length (symsAt l a k) * 1) (List.length (List.map nD (symsAt l a k))) && true && true && true && true && Nat.ble ((List.length (symsAt l a k) + 1) * 8) 140737488355328) zb6 (.s 12 (.ow ((↑k : Int) + 1) (.s 1 (.val 11 (iD ((↑k : Int) + 1)) (nD (k + 1)) zb1 (.blk 0 0 (Blk.mk [nD (cntAt l a (k + 1) 0), nD (cntAt l a (k + 1) 1), nD (cntAt l a (k + 1) 2), nD (cntAt l a (k + 1) 3), nD (cntAt l a (k + 1) 4), nD (cntAt l a (k + 1) 5), nD (cntAt l a (k + 1) 6), nD (cntAt l a (k + 1) 7), nD (cntAt l a (k + 1) 8), nD (cntAt l a (k + 1) 9), nD (cntAt l a (k + 1) 10), nD (cntAt l a (k + 1) 11), nD (cntAt l a (k + 1) 12), nD (cntAt l a (k + 1) 13), nD (cntAt l a (k + 1) 14), nD (cntAt l a (k + 1) 15), D.ref 424 424 0 (List.length (symsAt l a k) + 1) 1] 26 false) (Blk.mk [nD (cntAt l a (k + 1) 0), nD (cntAt l a (k + 1) 1), nD (cntAt l a (k + 1) 2), nD (cntAt l a (k + 1) 3), nD (cntAt l a (k + 1) 4), nD (cntAt l a (k + 1) 5), nD (cntAt l a (k + 1) 6), nD (cntAt l a (k + 1) 7), nD (cntAt l a (k + 1) 8), nD (cntAt l a (k + 1) 9), nD (cntAt l a (k + 1) 10), nD (cntAt l a (k + 1) 11), nD (cntAt l a (k + 1) 12), nD (cntAt l a (k + 1) 13), nD (cntAt l a (k + 1) 14), nD (cntAt l a (k + 1) 15), D.ref 424 424 0 (List.length (symsAt l a (k + 1))) 1] 26 false) (by (simp only [symsY (l := l) (a := a) (k := k) (by (omega)) (by (omega)), List.length_append]; rfl)) (.blk 424 424 (Blk.mk (List.map nD (symsAt l a k) ++ [nD k]) 3 true) (Blk.mk (List.map nD (symsAt l a (k + 1))) 3 true) (by (simp only [symsY (l := l) (a := a) (k := k) (by (omega)) (by (omega)), List.map_append]; rfl)) (Hn.next next2 ⟨(k + 1), om, ⟨⟩⟩ zb5 [(0, 0), (80, 80), (128, 128), (424, 424)] ro))))))))))))))))))))) (fun p3 => have p3f := odf p3; (.s 12 (.ow ((↑k : Int) + 1) (.s 1 (.val 11 (iD ((↑k : Int) + 1)) (nD (k + 1)) zb1 (.blk 0 0 (Blk.mk [nD (cntAt l a k 0), nD (cntAt l a k 1), nD (cntAt l a k 2), nD (cntAt l a k 3), nD (cntAt l a k 4), nD (cntAt l a k 5), nD (cntAt l a k 6), nD (cntAt l a k 7), nD (cntAt l a k 8), nD (cntAt l a k 9), nD (cntAt l a k 10), nD (cntAt l a k 11), nD (cntAt l a k 12), nD (cntAt l a k 13), nD (cntAt l a k 14), nD (cntAt l a k 15), D.ref 160 160 0 (List.length (symsAt l a k)) 1] 26 false) (Blk.mk [nD (cntAt l a (k + 1) 0), nD (cntAt l a (k + 1) 1), nD (cntAt l a (k + 1) 2), nD (cntAt l a (k + 1) 3), nD (cntAt l a (k + 1) 4), nD (cntAt l a (k + 1) 5), nD (cntAt l a (k + 1) 6), nD (cntAt l a (k + 1) 7), nD (cntAt l a (k + 1) 8), nD (cntAt l a (k + 1) 9), nD (cntAt l a (k + 1) 10), nD (cntAt l a (k + 1) 11), nD (cntAt l a (k + 1) 12), nD (cntAt l a (k + 1) 13), nD (cntAt l a (k + 1) 14), nD (cntAt l a (k + 1) 15), D.ref 160 160 0 (List.length (symsAt l a (k + 1))) 1] 26 false) zb2 (.blk 160 160 (Blk.mk (List.map nD (symsAt l a k)) 3 true) (Blk.mk (List.map nD (symsAt l a (k + 1))) 3 true) zb2 (Hn.next next2 ⟨(k + 1), om, ⟨⟩⟩ zb5 [(0, 0), (80, 80), (128, 128), (160, 160)] ro))))))))))) (fun p2 => have p2f := of_beq_f p2; (.s 18 (.ow ((↑k : Int) + 1) (.s 1 (.val 11 (iD ((↑k : Int) + 1)) (nD (k + 1)) zb1 (.blk 0 0 (Blk.mk [nD (cntAt l a k 0), nD (cntAt l a k 1), nD (cntAt l a k 2), nD (cntAt l a k 3), nD (cntAt l a k 4), nD (cntAt l a k 5), nD (cntAt l a k 6), nD (cntAt l a k 7), nD (cntAt l a k 8), nD (cntAt l a k 9), nD (cntAt l a k 10), nD (cntAt l a k 11), nD (cntAt l a k 12), nD (cntAt l a k 13), nD (cntAt l a k 14), nD (cntAt l a k 15), D.ref 160 160 0 (List.length (symsAt l a k)) 1] 26 false) (Blk.mk [nD (cntAt l a (k + 1) 0), nD (cntAt l a (k + 1) 1), nD (cntAt l a (k + 1) 2), nD (cntAt l a (k + 1) 3), nD (cntAt l a (k + 1) 4), nD (cntAt l a (k + 1) 5), nD (cntAt l a (k + 1) 6), nD (cntAt l a (k + 1) 7), nD (cntAt l a (k + 1) 8), nD (cntAt l a (k + 1) 9), nD (cntAt l a (k + 1) 10), nD (cntAt l a (k + 1) 11), nD (cntAt l a (k + 1) 12), nD (cntAt l a (k + 1) 13), nD (cntAt l a (k + 1) 14), nD (cntAt l a (k + 1) 15), D.ref 160 160 0 (List.length (symsAt l a (k + 1))) 1] 26 false) zb2 (.blk 160 160 (Blk.mk (List.map nD (symsAt l a k)) 3 true) (Blk.mk (List.map nD (symsAt l a (k + 1))) 3 true) zb2 (Hn.next next2 ⟨(k + 1), om, ⟨⟩⟩ zb5 [(0, 0), (80, 80), (128, 128), (160, 160)] ro))))))))))))))) (fun p1 => have p1f := odf p1; (.blk 0 0 (Blk.mk [nD (cntAt l a k 0), nD (cntAt l a k 1), nD (cntAt l a k 2), nD (cntAt l a k 3), nD (cntAt l a k 4), nD (cntAt l a k 5), nD (cntAt l a k 6), nD (cntAt l a k 7), nD (cntAt l a k 8), nD (cntAt l a k 9), nD (cntAt l a k 10), nD (cntAt l a k 11), nD (cntAt l a k 12), nD (cntAt l a k 13), nD (cntAt l a k 14), nD (cntAt l a k 15), D.ref 160 160 0 (List.length (symsAt l a k)) 1] 26 false) (Blk.mk [nD (cntAt l a n 0), nD (cntAt l a n 1), nD (cntAt l a n 2), nD (cntAt l a n 3), nD (cntAt l a n 4), nD (cntAt l a n 5), nD (cntAt l a n 6), nD (cntAt l a n 7), nD (cntAt l a n 8), nD (cntAt l a n 9), nD (cntAt l a n 10), nD (cntAt l a n 11), nD (cntAt l a n 12), nD (cntAt l a n 13), nD (cntAt l a n 14), nD (cntAt l a n 15), D.ref 160 160 0 (List.length (symsAt l a n)) 1] 26 false) (by (rw [show k = n from by (omega)])) (.blk 160 160 (Blk.mk (List.map nD (symsAt l a k)) 3 true) (Blk.mk (List.map nD (symsAt l a n)) 3 true) (by (rw [show k = n from by (omega)])) (Hn.last last2 0 (() : Unit) rfl [(0, 0), (80, 80), (128, 128), (160, 160)] ro))))))) (fun | ⟨k, hk, _⟩ => by kernel_rfl) ⟨(0), om, ⟨⟩⟩ [(0, 0), (80, 80), (128, 128), (160, 160)] ro (hs1 (fun | () => (.s 2 (.opt (wrapO .u8 ((↑a : Int) + 1)) (D.v (Value.int .u8 ((↑a : Int) + 1))) (wrapO_u8 om) (.s 1 (.val 6 (D.v (Value.int .u8 ((↑a : Int) + 1))) (D.v (Value.int .u8 (↑(a + 1) : Int))) zb1 (.blk 0 0 (Blk.mk [nD (cntAt l a n 0), nD (cntAt l a n 1), nD (cntAt l a n 2), nD (cntAt l a n 3), nD (cntAt l a n 4), nD (cntAt l a n 5), nD (cntAt l a n 6), nD (cntAt l a n 7), nD (cntAt l a n 8), nD (cntAt l a n 9), nD (cntAt l a n 10), nD (cntAt l a n 11), nD (cntAt l a n 12), nD (cntAt l a n 13), nD (cntAt l a n 14), nD (cntAt l a n 15), D.ref 160 160 0 (List.length (symsAt l a n)) 1] 26 false) (Blk.mk [nD (cntAt l (a + 1) 0 0), nD (cntAt l (a + 1) 0 1), nD (cntAt l (a + 1) 0 2), nD (cntAt l (a + 1) 0 3), nD (cntAt l (a + 1) 0 4), nD (cntAt l (a + 1) 0 5), nD (cntAt l (a + 1) 0 6), nD (cntAt l (a + 1) 0 7), nD (cntAt l (a + 1) 0 8), nD (cntAt l (a + 1) 0 9), nD (cntAt l (a + 1) 0 10), nD (cntAt l (a + 1) 0 11), nD (cntAt l (a + 1) 0 12), nD (cntAt l (a + 1) 0 13), nD (cntAt l (a + 1) 0 14), nD (cntAt l (a + 1) 0 15), D.ref 160 160 0 (List.length (symsAt l (a + 1) 0)) 1] 26 false) (by (subst hn; simp only [cntAt_up, symsAt_up])) (.blk 160 160 (Blk.mk (List.map nD (symsAt l a n)) 3 true) (Blk.mk (List.map nD (symsAt l (a + 1) 0)) 3 true) (by (subst hn; simp only [cntAt_up, symsAt_up])) (Hn.next next1 ⟨(a + 1), om, ⟨⟩⟩ (by show 16 - (a + 1) < 16 - a; clear next1 last1; omega) [(0, 0), (80, 80), (128, 128), (160, 160)] ro)))))))))))) (fun p0 => have p0f := odf p0; (.blk 0 0 (Blk.mk [nD (cntAt l a 0 0), nD (cntAt l a 0 1), nD (cntAt l a 0 2), nD (cntAt l a 0 3), nD (cntAt l a 0 4), nD (cntAt l a 0 5), nD (cntAt l a 0 6), nD (cntAt l a 0 7), nD (cntAt l a 0 8), nD (cntAt l a 0 9), nD (cntAt l a 0 10), nD (cntAt l a 0 11), nD (cntAt l a 0 12), nD (cntAt l a 0 13), nD (cntAt l a 0 14), nD (cntAt l a 0 15), D.ref 160 160 0 (List.length (symsAt l a 0)) 1] 26 false) (Blk.mk [nD (cnt l 0), nD (cnt l 1), nD (cnt l 2), nD (cnt l 3), nD (cnt l 4), nD (cnt l 5), nD (cnt l 6), nD (cnt l 7), nD (cnt l 8), nD (cnt l 9), nD (cnt l 10), nD (cnt l 11), nD (cnt l 12), nD (cnt l 13), nD (cnt l 14), nD (cnt l 15), D.ref 160 160 0 (List.length (symsL l)) 1] 26 false) zb7 (.blk 160 160 (Blk.mk (List.map nD (symsAt l a 0)) 3 true) (Blk.mk (List.map nD (symsL l)) 3 true) zb7 (Hn.last last1 0 (() : Unit) rfl [(0, 0), (80, 80), (128, 128), (160, 160)] ro))))))) (fun | ⟨a, ha, _⟩ => by kernel_rfl) ⟨(0), om, ⟨⟩⟩ [(0, 0), (80, 80), (128, 128), (144, 144)] ro (hs1 (fun | () => (.s 11 (.out [160] [160] (D.tup [D.agg [nD (cnt l 0), nD (cnt l 1), nD (cnt l 2), nD (cnt l 3), nD (cnt l 4), nD (cnt l 5), nD (cnt l 6), nD (cnt l 7), nD (cnt l 8), nD (cnt l 9), nD (cnt l 10), nD (cnt l 11), nD (cnt l 12), nD (cnt l 13), nD (cnt l 14), nD (cnt l 15), D.ref 0 0 0 (List.length (symsL l)) 1], iD 0]) [Blk.mk (List.map nD (symsL l)) 3 true] R (ok _ _ (by exact rfl) wr))))))))))))))) (by kernel_rfl)
end Vp
end Go.Proofs.Ytegjeagfcfhbeaa

/- Tab: the types of this program, as the abstract executor has them. -/
import Derived.Test.YtegjeagfcfhbeaaVxByt
import Derived.Test.YtegjeagfcfhbeaaRows
namespace Go.Proofs.Ytegjeagfcfhbeaa
open Go.Vx

def ti1 : TI := ⟨.func #[] #[] false, .nilFunc, 1, 8, false⟩
def ti2 : TI := ⟨.int .i64, .int .i64 0, 1, 8, false⟩
def ti3 : TI := ⟨.int .i64, .int .i64 0, 1, 8, false⟩
def ti4 : TI := ⟨.bool, .bool false, 1, 1, false⟩
def ti5 : TI := ⟨.int .u8, .int .u8 0, 1, 1, false⟩
def ti9 : TI := ⟨.string, .string ⟨#[]⟩, 1, 16, false⟩
def ti12 : TI := ⟨.int .u64, .int .u64 0, 1, 8, false⟩
def ti15 : TI := ⟨.pointer 237, .pointer none, 1, 8, false⟩
def ti16 : TI := ⟨.pointer 240, .pointer none, 1, 8, false⟩
def ti17 : TI := ⟨.pointer 248, .pointer none, 1, 8, false⟩
def ti20 : TI := ⟨.interface #[], .nilIface, 1, 16, false⟩
def ti21 : TI := ⟨.int .i32, .int .i32 0, 1, 4, false⟩
def ti22 : TI := ⟨.slice 5, .slice none 0 0, 1, 24, false⟩
def ti23 : TI := ⟨.array 16 3, .agg #[.int .i64 0, .int .i64 0, .int .i64 0, .int .i64 0, .int .i64 0, .int .i64 0, .int .i64 0, .int .i64 0, .int .i64 0, .int .i64 0, .int .i64 0, .int .i64 0, .int .i64 0, .int .i64 0, .int .i64 0, .int .i64 0], 16, 128, true⟩
def ti24 : TI := ⟨.slice 3, .slice none 0 0, 1, 24, false⟩
def ti25 : TI := ⟨.struct #[⟨"Count", 23, 0, false, "", "", 0⟩, ⟨"Syms", 24, 16, false, "", "", 128⟩], .agg #[.int .i64 0, .int .i64 0, .int .i64 0, .int .i64 0, .int .i64 0, .int .i64 0, .int .i64 0, .int .i64 0, .int .i64 0, .int .i64 0, .int .i64 0, .int .i64 0, .int .i64 0, .int .i64 0, .int .i64 0, .int .i64 0, .slice none 0 0], 17, 152, false⟩
def ti26 : TI := ⟨.struct #[⟨"Count", 23, 0, false, "", "", 0⟩, ⟨"Syms", 24, 16, false, "", "", 128⟩], .agg #[.int .i64 0, .int .i64 0, .int .i64 0, .int .i64 0, .int .i64 0, .int .i64 0, .int .i64 0, .int .i64 0, .int .i64 0, .int .i64 0, .int .i64 0, .int .i64 0, .int .i64 0, .int .i64 0, .int .i64 0, .int .i64 0, .slice none 0 0], 17, 152, false⟩
def ti27 : TI := ⟨.struct #[⟨"Kind", 5, 0, false, "", "", 0⟩, ⟨"Last", 4, 1, false, "", "", 1⟩, ⟨"Left", 3, 2, false, "", "", 8⟩, ⟨"Longs", 26, 3, false, "", "", 16⟩, ⟨"Fars", 26, 20, false, "", "", 168⟩], .agg #[.int .u8 0, .bool false, .int .i64 0, .int .i64 0, .int .i64 0, .int .i64 0, .int .i64 0, .int .i64 0, .int .i64 0, .int .i64 0, .int .i64 0, .int .i64 0, .int .i64 0, .int .i64 0, .int .i64 0, .int .i64 0, .int .i64 0, .int .i64 0, .int .i64 0, .slice none 0 0, .int .i64 0, .int .i64 0, .int .i64 0, .int .i64 0, .int .i64 0, .int .i64 0, .int .i64 0, .int .i64 0, .int .i64 0, .int .i64 0, .int .i64 0, .int .i64 0, .int .i64 0, .int .i64 0, .int .i64 0, .int .i64 0, .slice none 0 0], 37, 320, false⟩
def ti28 : TI := ⟨.struct #[⟨"Kind", 5, 0, false, "", "", 0⟩, ⟨"Last", 4, 1, false, "", "", 1⟩, ⟨"Left", 3, 2, false, "", "", 8⟩, ⟨"Longs", 26, 3, false, "", "", 16⟩, ⟨"Fars", 26, 20, false, "", "", 168⟩], .agg #[.int .u8 0, .bool false, .int .i64 0, .int .i64 0, .int .i64 0, .int .i64 0, .int .i64 0, .int .i64 0, .int .i64 0, .int .i64 0, .int .i64 0, .int .i64 0, .int .i64 0, .int .i64 0, .int .i64 0, .int .i64 0, .int .i64 0, .int .i64 0, .int .i64 0, .slice none 0 0, .int .i64 0, .int .i64 0, .int .i64 0, .int .i64 0, .int .i64 0, .int .i64 0, .int .i64 0, .int .i64 0, .int .i64 0, .int .i64 0, .int .i64 0, .int .i64 0, .int .i64 0, .int .i64 0, .int .i64 0, .int .i64 0, .slice none 0 0], 37, 320, false⟩
def ti29 : TI := ⟨.func #[22] #[4] false, .nilFunc, 1, 8, false⟩
def ti30 : TI := ⟨.int .i64, .int .i64 0, 1, 8, false⟩
def ti32 : TI := ⟨.func #[22, 3] #[28, 3, 30] false, .nilFunc, 1, 8, false⟩
def ti34 : TI := ⟨.func #[22, 3] #[28, 3, 3] false, .nilFunc, 1, 8, false⟩
def ti35 : TI := ⟨.struct #[⟨"Lit", 5, 0, false, "", "", 0⟩, ⟨"Dist", 3, 1, false, "", "", 8⟩, ⟨"Long", 3, 2, false, "", "", 16⟩], .agg #[.int .u8 0, .int .i64 0, .int .i64 0], 3, 24, true⟩
def ti36 : TI := ⟨.struct #[⟨"Lit", 5, 0, false, "", "", 0⟩, ⟨"Dist", 3, 1, false, "", "", 8⟩, ⟨"Long", 3, 2, false, "", "", 16⟩], .agg #[.int .u8 0, .int .i64 0, .int .i64 0], 3, 24, true⟩
def ti38 : TI := ⟨.func #[28, 22, 3] #[36, 4, 3, 30] false, .nilFunc, 1, 8, false⟩
def ti40 : TI := ⟨.func #[28, 22, 3] #[36, 4, 3, 3] false, .nilFunc, 1, 8, false⟩
def ti41 : TI := ⟨.func #[28, 28] #[4] false, .nilFunc, 1, 8, false⟩
def ti42 : TI := ⟨.func #[28] #[30] false, .nilFunc, 1, 8, false⟩
def ti43 : TI := ⟨.func #[28] #[3] false, .nilFunc, 1, 8, false⟩
def ti44 : TI := ⟨.func #[22, 3, 28] #[4] false, .nilFunc, 1, 8, false⟩
def ti45 : TI := ⟨.func #[] #[4] false, .nilFunc, 1, 8, false⟩
def ti47 : TI := ⟨.func #[22, 3, 3] #[22, 3, 30] false, .nilFunc, 1, 8, false⟩
def ti48 : TI := ⟨.func #[22, 3, 3, 3] #[4] false, .nilFunc, 1, 8, false⟩
def ti50 : TI := ⟨.func #[22, 3, 3] #[22, 3, 3] false, .nilFunc, 1, 8, false⟩
def ti52 : TI := ⟨.func #[22, 3] #[22, 30] false, .nilFunc, 1, 8, false⟩
def ti54 : TI := ⟨.func #[22, 3] #[22, 3] false, .nilFunc, 1, 8, false⟩
def ti55 : TI := ⟨.func #[22, 3, 3] #[4] false, .nilFunc, 1, 8, false⟩
def ti56 : TI := ⟨.func #[9, 3, 9, 3] #[4] false, .nilFunc, 1, 8, false⟩
def ti57 : TI := ⟨.func #[9, 3, 30] #[4] false, .nilFunc, 1, 8, false⟩
def ti58 : TI := ⟨.slice 36, .slice none 0 0, 1, 24, false⟩
def ti59 : TI := ⟨.struct #[⟨"Bytes", 22, 0, false, "", "", 0⟩, ⟨"Bits", 3, 1, false, "", "", 24⟩], .agg #[.slice none 0 0, .int .i64 0], 2, 32, false⟩
def ti60 : TI := ⟨.struct #[⟨"Bytes", 22, 0, false, "", "", 0⟩, ⟨"Bits", 3, 1, false, "", "", 24⟩], .agg #[.slice none 0 0, .int .i64 0], 2, 32, false⟩
def ti62 : TI := ⟨.func #[60, 5, 22, 58, 4] #[60, 30] false, .nilFunc, 1, 8, false⟩
def ti63 : TI := ⟨.func #[58, 58] #[4] false, .nilFunc, 1, 8, false⟩
def ti64 : TI := ⟨.func #[5, 22, 58, 4] #[4] false, .nilFunc, 1, 8, false⟩
def ti65 : TI := ⟨.pointer 70, .pointer none, 1, 8, false⟩
def ti67 : TI := ⟨.func #[22, 3] #[65, 30] false, .nilFunc, 1, 8, false⟩
def ti68 : TI := ⟨.func #[] #[28] false, .nilFunc, 1, 8, false⟩
def ti69 : TI := ⟨.struct #[⟨"b", 22, 0, false, "", "bellows/plain", 0⟩, ⟨"at", 3, 1, false, "", "bellows/plain", 24⟩, ⟨"e", 30, 2, false, "", "bellows/plain", 32⟩], .agg #[.slice none 0 0, .int .i64 0, .int .i64 0], 3, 40, false⟩
def ti70 : TI := ⟨.struct #[⟨"b", 22, 0, false, "", "bellows/plain", 0⟩, ⟨"at", 3, 1, false, "", "bellows/plain", 24⟩, ⟨"e", 30, 2, false, "", "bellows/plain", 32⟩], .agg #[.slice none 0 0, .int .i64 0, .int .i64 0], 3, 40, false⟩
def ti71 : TI := ⟨.func #[22, 3] #[3] false, .nilFunc, 1, 8, false⟩
def ti72 : TI := ⟨.struct #[⟨"Kind", 5, 0, false, "", "", 0⟩, ⟨"Last", 4, 1, false, "", "", 1⟩, ⟨"Left", 3, 2, false, "", "", 8⟩, ⟨"Longs", 22, 3, false, "", "", 16⟩, ⟨"Fars", 22, 4, false, "", "", 40⟩], .agg #[.int .u8 0, .bool false, .int .i64 0, .slice none 0 0, .slice none 0 0], 5, 64, false⟩
def ti73 : TI := ⟨.struct #[⟨"Kind", 5, 0, false, "", "", 0⟩, ⟨"Last", 4, 1, false, "", "", 1⟩, ⟨"Left", 3, 2, false, "", "", 8⟩, ⟨"Longs", 22, 3, false, "", "", 16⟩, ⟨"Fars", 22, 4, false, "", "", 40⟩], .agg #[.int .u8 0, .bool false, .int .i64 0, .slice none 0 0, .slice none 0 0], 5, 64, false⟩
def ti75 : TI := ⟨.func #[22, 3] #[73, 3, 3] false, .nilFunc, 1, 8, false⟩
def ti76 : TI := ⟨.func #[73] #[28] false, .nilFunc, 1, 8, false⟩
def ti78 : TI := ⟨.func #[28] #[36, 4] false, .nilFunc, 1, 8, false⟩
def ti79 : TI := ⟨.func #[73, 22, 3] #[36, 4, 3, 3] false, .nilFunc, 1, 8, false⟩
def ti80 : TI := ⟨.func #[28] #[73] false, .nilFunc, 1, 8, false⟩
def ti81 : TI := ⟨.func #[26, 26] #[4] false, .nilFunc, 1, 8, false⟩
def ti82 : TI := ⟨.func #[26] #[30] false, .nilFunc, 1, 8, false⟩
def ti83 : TI := ⟨.func #[26] #[3] false, .nilFunc, 1, 8, false⟩
def ti84 : TI := ⟨.func #[3] #[22] false, .nilFunc, 1, 8, false⟩
def ti85 : TI := ⟨.func #[60] #[30] false, .nilFunc, 1, 8, false⟩
def ti86 : TI := ⟨.func #[5, 22, 58] #[30] false, .nilFunc, 1, 8, false⟩
def ti87 : TI := ⟨.pointer 93, .pointer none, 1, 8, false⟩
def ti88 : TI := ⟨.func #[3, 5, 22, 58, 4] #[87] false, .nilFunc, 1, 8, false⟩
def ti89 : TI := ⟨.func #[] #[3] false, .nilFunc, 1, 8, false⟩
def ti90 : TI := ⟨.func #[22] #[22] false, .nilFunc, 1, 8, false⟩
def ti91 : TI := ⟨.slice 96, .slice none 0 0, 1, 24, false⟩
def ti92 : TI := ⟨.struct #[⟨"l", 91, 0, false, "", "bellows/block", 0⟩], .agg #[.slice none 0 0], 1, 24, false⟩
def ti93 : TI := ⟨.struct #[⟨"l", 91, 0, false, "", "bellows/block", 0⟩], .agg #[.slice none 0 0], 1, 24, false⟩
def ti94 : TI := ⟨.int .u32, .int .u32 0, 1, 4, false⟩
def ti95 : TI := ⟨.struct #[⟨"v", 94, 0, false, "", "bellows/block", 0⟩, ⟨"n", 3, 1, false, "", "bellows/block", 8⟩], .agg #[.int .u32 0, .int .i64 0], 2, 16, true⟩
def ti96 : TI := ⟨.struct #[⟨"v", 94, 0, false, "", "bellows/block", 0⟩, ⟨"n", 3, 1, false, "", "bellows/block", 8⟩], .agg #[.int .u32 0, .int .i64 0], 2, 16, true⟩
def ti97 : TI := ⟨.func #[60, 94, 3] #[60, 30] false, .nilFunc, 1, 8, false⟩
def ti98 : TI := ⟨.func #[3] #[3] false, .nilFunc, 1, 8, false⟩
def ti99 : TI := ⟨.func #[4, 30] #[] false, .nilFunc, 1, 8, false⟩
def ti101 : TI := ⟨.func #[] #[22, 22] false, .nilFunc, 1, 8, false⟩
def ti102 : TI := ⟨.func #[22, 3] #[26] false, .nilFunc, 1, 8, false⟩
def ti103 : TI := ⟨.func #[104] #[] false, .nilFunc, 1, 8, false⟩
def ti104 : TI := ⟨.pointer 28, .pointer none, 1, 8, false⟩
def ti106 : TI := ⟨.func #[22, 3, 3] #[94, 3] false, .nilFunc, 1, 8, false⟩
def ti107 : TI := ⟨.func #[73, 22, 3] #[73, 3, 3] false, .nilFunc, 1, 8, false⟩
def ti108 : TI := ⟨.func #[] #[22] false, .nilFunc, 1, 8, false⟩
def ti109 : TI := ⟨.func #[22] #[26] false, .nilFunc, 1, 8, false⟩
def ti110 : TI := ⟨.func #[3, 111, 112] #[3] false, .nilFunc, 1, 8, false⟩
def ti111 : TI := ⟨.func #[3] #[3, 30] false, .nilFunc, 1, 8, false⟩
def ti112 : TI := ⟨.func #[3, 3] #[3, 30] false, .nilFunc, 1, 8, false⟩
def ti114 : TI := ⟨.func #[115, 22, 3] #[3, 3, 3] false, .nilFunc, 1, 8, false⟩
def ti115 : TI := ⟨.slice 160, .slice none 0 0, 1, 24, false⟩
def ti116 : TI := ⟨.func #[22] #[115] false, .nilFunc, 1, 8, false⟩
def ti117 : TI := ⟨.func #[4, 3, 22, 3] #[3, 3, 3] false, .nilFunc, 1, 8, false⟩
def ti119 : TI := ⟨.func #[26] #[22, 4] false, .nilFunc, 1, 8, false⟩
def ti120 : TI := ⟨.func #[24, 24] #[4] false, .nilFunc, 1, 8, false⟩
def ti122 : TI := ⟨.func #[22, 3] #[26, 30] false, .nilFunc, 1, 8, false⟩
def ti123 : TI := ⟨.func #[128] #[] false, .nilFunc, 1, 8, false⟩
def ti124 : TI := ⟨.func #[128] #[] false, .nilFunc, 1, 8, false⟩
def ti125 : TI := ⟨.func #[] #[124] false, .nilFunc, 1, 8, false⟩
def ti126 : TI := ⟨.func #[58, 128] #[4] false, .nilFunc, 1, 8, false⟩
def ti127 : TI := ⟨.func #[36] #[30] false, .nilFunc, 1, 8, false⟩
def ti128 : TI := ⟨.func #[36] #[4] false, .nilFunc, 1, 8, false⟩
def ti129 : TI := ⟨.func #[91] #[] true, .nilFunc, 1, 8, false⟩
def ti130 : TI := ⟨.func #[3, 22] #[] false, .nilFunc, 1, 8, false⟩
def ti131 : TI := ⟨.func #[58] #[22, 22] false, .nilFunc, 1, 8, false⟩
def ti132 : TI := ⟨.func #[58, 22, 22] #[] false, .nilFunc, 1, 8, false⟩
def ti133 : TI := ⟨.func #[94, 3] #[4] false, .nilFunc, 1, 8, false⟩
def ti134 : TI := ⟨.pointer 136, .pointer none, 1, 8, false⟩
def ti135 : TI := ⟨.struct #[⟨"Pen", 60, 0, true, "", "", 0⟩], .agg #[.slice none 0 0, .int .i64 0], 2, 32, false⟩
def ti136 : TI := ⟨.struct #[⟨"Pen", 60, 0, true, "", "", 0⟩], .agg #[.slice none 0 0, .int .i64 0], 2, 32, false⟩
def ti137 : TI := ⟨.func #[94] #[] false, .nilFunc, 1, 8, false⟩
def ti139 : TI := ⟨.func #[22, 3, 3] #[94, 30] false, .nilFunc, 1, 8, false⟩
def ti140 : TI := ⟨.func #[185] #[22] true, .nilFunc, 1, 8, false⟩
def ti141 : TI := ⟨.func #[22, 3] #[22] false, .nilFunc, 1, 8, false⟩
def ti142 : TI := ⟨.array 19 3, .agg #[.int .i64 0, .int .i64 0, .int .i64 0, .int .i64 0, .int .i64 0, .int .i64 0, .int .i64 0, .int .i64 0, .int .i64 0, .int .i64 0, .int .i64 0, .int .i64 0, .int .i64 0, .int .i64 0, .int .i64 0, .int .i64 0, .int .i64 0, .int .i64 0, .int .i64 0], 19, 152, true⟩
def ti143 : TI := ⟨.func #[] #[142] false, .nilFunc, 1, 8, false⟩
def ti144 : TI := ⟨.func #[26, 3] #[22] false, .nilFunc, 1, 8, false⟩
def ti145 : TI := ⟨.func #[22, 3] #[30] false, .nilFunc, 1, 8, false⟩
def ti146 : TI := ⟨.func #[22, 3, 3] #[94] false, .nilFunc, 1, 8, false⟩
def ti147 : TI := ⟨.func #[22, 22, 3, 3] #[22, 3, 3] false, .nilFunc, 1, 8, false⟩
def ti149 : TI := ⟨.func #[26, 22, 3] #[3, 3, 30] false, .nilFunc, 1, 8, false⟩
def ti151 : TI := ⟨.struct #[⟨"bits", 3, 0, false, "", "bellows/reach", 0⟩, ⟨"least", 3, 1, false, "", "bellows/reach", 8⟩, ⟨"many", 3, 2, false, "", "bellows/reach", 16⟩], .agg #[.int .i64 0, .int .i64 0, .int .i64 0], 3, 24, true⟩
def ti152 : TI := ⟨.struct #[⟨"bits", 3, 0, false, "", "bellows/reach", 0⟩, ⟨"least", 3, 1, false, "", "bellows/reach", 8⟩, ⟨"many", 3, 2, false, "", "bellows/reach", 16⟩], .agg #[.int .i64 0, .int .i64 0, .int .i64 0], 3, 24, true⟩
def ti154 : TI := ⟨.slice 152, .slice none 0 0, 1, 24, false⟩
def ti155 : TI := ⟨.struct #[⟨"first", 3, 0, false, "", "bellows/reach", 0⟩, ⟨"symbols", 154, 1, false, "", "bellows/reach", 8⟩], .agg #[.int .i64 0, .slice none 0 0], 2, 32, false⟩
def ti156 : TI := ⟨.struct #[⟨"first", 3, 0, false, "", "bellows/reach", 0⟩, ⟨"symbols", 154, 1, false, "", "bellows/reach", 8⟩], .agg #[.int .i64 0, .slice none 0 0], 2, 32, false⟩
def ti157 : TI := ⟨.func #[] #[156] false, .nilFunc, 1, 8, false⟩
def ti158 : TI := ⟨.func #[3] #[152, 30] false, .nilFunc, 1, 8, false⟩
def ti159 : TI := ⟨.struct #[⟨"Bits", 94, 0, false, "", "", 0⟩, ⟨"Long", 5, 1, false, "", "", 4⟩], .agg #[.int .u32 0, .int .u8 0], 2, 8, true⟩
def ti160 : TI := ⟨.struct #[⟨"Bits", 94, 0, false, "", "", 0⟩, ⟨"Long", 5, 1, false, "", "", 4⟩], .agg #[.int .u32 0, .int .u8 0], 2, 8, true⟩
def ti161 : TI := ⟨.int .u64, .int .u64 0, 1, 8, false⟩
def ti162 : TI := ⟨.func #[5] #[3] false, .nilFunc, 1, 8, false⟩
def ti164 : TI := ⟨.func #[3] #[3, 3] false, .nilFunc, 1, 8, false⟩
def ti165 : TI := ⟨.func #[3, 3] #[3, 3] false, .nilFunc, 1, 8, false⟩
def ti166 : TI := ⟨.func #[205] #[] false, .nilFunc, 1, 8, false⟩
def ti167 : TI := ⟨.func #[205] #[] false, .nilFunc, 1, 8, false⟩
def ti168 : TI := ⟨.func #[22] #[167] false, .nilFunc, 1, 8, false⟩
def ti169 : TI := ⟨.func #[58, 128] #[3] false, .nilFunc, 1, 8, false⟩
def ti170 : TI := ⟨.struct #[⟨"Lit", 5, 0, false, "", "", 0⟩, ⟨"Dist", 3, 1, false, "", "", 8⟩, ⟨"Long", 3, 2, false, "", "", 16⟩], .agg #[.int .u8 0, .int .i64 0, .int .i64 0], 3, 24, true⟩
def ti171 : TI := ⟨.array 286 3, .agg (Array.replicate 286 (.int .i64 0)), 286, 2288, true⟩
def ti172 : TI := ⟨.array 30 3, .agg #[.int .i64 0, .int .i64 0, .int .i64 0, .int .i64 0, .int .i64 0, .int .i64 0, .int .i64 0, .int .i64 0, .int .i64 0, .int .i64 0, .int .i64 0, .int .i64 0, .int .i64 0, .int .i64 0, .int .i64 0, .int .i64 0, .int .i64 0, .int .i64 0, .int .i64 0, .int .i64 0, .int .i64 0, .int .i64 0, .int .i64 0, .int .i64 0, .int .i64 0, .int .i64 0, .int .i64 0, .int .i64 0, .int .i64 0, .int .i64 0], 30, 240, true⟩
def ti173 : TI := ⟨.func #[58, 174] #[] false, .nilFunc, 1, 8, false⟩
def ti174 : TI := ⟨.func #[4, 3, 3, 3] #[] false, .nilFunc, 1, 8, false⟩
def ti175 : TI := ⟨.func #[24, 3] #[22, 30] false, .nilFunc, 1, 8, false⟩
def ti176 : TI := ⟨.slice 180, .slice none 0 0, 1, 24, false⟩
def ti178 : TI := ⟨.func #[22] #[176, 30] false, .nilFunc, 1, 8, false⟩
def ti179 : TI := ⟨.struct #[⟨"Sym", 3, 0, false, "", "", 0⟩, ⟨"Extra", 3, 1, false, "", "", 8⟩], .agg #[.int .i64 0, .int .i64 0], 2, 16, true⟩
def ti180 : TI := ⟨.struct #[⟨"Sym", 3, 0, false, "", "", 0⟩, ⟨"Extra", 3, 1, false, "", "", 8⟩], .agg #[.int .i64 0, .int .i64 0], 2, 16, true⟩
def ti182 : TI := ⟨.func #[22, 3] #[115, 30] false, .nilFunc, 1, 8, false⟩
def ti183 : TI := ⟨.func #[115, 3, 3, 3] #[] false, .nilFunc, 1, 8, false⟩
def ti184 : TI := ⟨.int .u64, .int .u64 0, 1, 8, false⟩
def ti185 : TI := ⟨.slice 22, .slice none 0 0, 1, 24, false⟩
def ti187 : TI := ⟨.func #[161, 161] #[161, 161] false, .nilFunc, 1, 8, false⟩
def ti188 : TI := ⟨.func #[176, 3] #[22, 30] false, .nilFunc, 1, 8, false⟩
def ti189 : TI := ⟨.func #[22, 3] #[94] false, .nilFunc, 1, 8, false⟩
def ti190 : TI := ⟨.func #[3] #[184] false, .nilFunc, 1, 8, false⟩
def ti192 : TI := ⟨.func #[180] #[3, 4] false, .nilFunc, 1, 8, false⟩
def ti193 : TI := ⟨.func #[22] #[3, 3] false, .nilFunc, 1, 8, false⟩
def ti194 : TI := ⟨.pointer 196, .pointer none, 1, 8, false⟩
def ti195 : TI := ⟨.struct #[⟨"t", 26, 0, false, "", "bellows/tree", 0⟩, ⟨"n", 3, 17, false, "", "bellows/tree", 152⟩, ⟨"code", 3, 18, false, "", "bellows/tree", 160⟩, ⟨"first", 3, 19, false, "", "bellows/tree", 168⟩, ⟨"place", 3, 20, false, "", "bellows/tree", 176⟩], .agg #[.int .i64 0, .int .i64 0, .int .i64 0, .int .i64 0, .int .i64 0, .int .i64 0, .int .i64 0, .int .i64 0, .int .i64 0, .int .i64 0, .int .i64 0, .int .i64 0, .int .i64 0, .int .i64 0, .int .i64 0, .int .i64 0, .slice none 0 0, .int .i64 0, .int .i64 0, .int .i64 0, .int .i64 0], 21, 184, false⟩
def ti196 : TI := ⟨.struct #[⟨"t", 26, 0, false, "", "bellows/tree", 0⟩, ⟨"n", 3, 17, false, "", "bellows/tree", 152⟩, ⟨"code", 3, 18, false, "", "bellows/tree", 160⟩, ⟨"first", 3, 19, false, "", "bellows/tree", 168⟩, ⟨"place", 3, 20, false, "", "bellows/tree", 176⟩], .agg #[.int .i64 0, .int .i64 0, .int .i64 0, .int .i64 0, .int .i64 0, .int .i64 0, .int .i64 0, .int .i64 0, .int .i64 0, .int .i64 0, .int .i64 0, .int .i64 0, .int .i64 0, .int .i64 0, .int .i64 0, .int .i64 0, .slice none 0 0, .int .i64 0, .int .i64 0, .int .i64 0, .int .i64 0], 21, 184, false⟩
def ti197 : TI := ⟨.func #[94] #[3] false, .nilFunc, 1, 8, false⟩
def ti198 : TI := ⟨.func #[3, 3, 24] #[156] true, .nilFunc, 1, 8, false⟩
def ti199 : TI := ⟨.pointer 152, .pointer none, 1, 8, false⟩
def ti200 : TI := ⟨.array 29 3, .agg #[.int .i64 0, .int .i64 0, .int .i64 0, .int .i64 0, .int .i64 0, .int .i64 0, .int .i64 0, .int .i64 0, .int .i64 0, .int .i64 0, .int .i64 0, .int .i64 0, .int .i64 0, .int .i64 0, .int .i64 0, .int .i64 0, .int .i64 0, .int .i64 0, .int .i64 0, .int .i64 0, .int .i64 0, .int .i64 0, .int .i64 0, .int .i64 0, .int .i64 0, .int .i64 0, .int .i64 0, .int .i64 0, .int .i64 0], 29, 232, true⟩
def ti202 : TI := ⟨.func #[] #[200, 200] false, .nilFunc, 1, 8, false⟩
def ti204 : TI := ⟨.func #[] #[172, 172] false, .nilFunc, 1, 8, false⟩
def ti205 : TI := ⟨.func #[5, 3] #[4] false, .nilFunc, 1, 8, false⟩
def ti207 : TI := ⟨.func #[3] #[3, 3, 3, 30] false, .nilFunc, 1, 8, false⟩
def ti209 : TI := ⟨.func #[24, 3] #[24, 30] false, .nilFunc, 1, 8, false⟩
def ti210 : TI := ⟨.slice 211, .slice none 0 0, 1, 24, false⟩
def ti211 : TI := ⟨.slice 217, .slice none 0 0, 1, 24, false⟩
def ti212 : TI := ⟨.func #[211, 24] #[211] false, .nilFunc, 1, 8, false⟩
def ti213 : TI := ⟨.func #[229] #[] false, .nilFunc, 1, 8, false⟩
def ti214 : TI := ⟨.func #[229] #[] false, .nilFunc, 1, 8, false⟩
def ti215 : TI := ⟨.func #[210] #[214] false, .nilFunc, 1, 8, false⟩
def ti216 : TI := ⟨.struct #[⟨"weight", 3, 0, false, "", "bellows/build", 0⟩, ⟨"pair", 4, 1, false, "", "bellows/build", 8⟩], .agg #[.int .i64 0, .bool false], 2, 16, true⟩
def ti217 : TI := ⟨.struct #[⟨"weight", 3, 0, false, "", "bellows/build", 0⟩, ⟨"pair", 4, 1, false, "", "bellows/build", 8⟩], .agg #[.int .i64 0, .bool false], 2, 16, true⟩
def ti218 : TI := ⟨.array 17 94, .agg #[.int .u32 0, .int .u32 0, .int .u32 0, .int .u32 0, .int .u32 0, .int .u32 0, .int .u32 0, .int .u32 0, .int .u32 0, .int .u32 0, .int .u32 0, .int .u32 0, .int .u32 0, .int .u32 0, .int .u32 0, .int .u32 0, .int .u32 0], 17, 68, true⟩
def ti219 : TI := ⟨.array 17 94, .agg #[.int .u32 0, .int .u32 0, .int .u32 0, .int .u32 0, .int .u32 0, .int .u32 0, .int .u32 0, .int .u32 0, .int .u32 0, .int .u32 0, .int .u32 0, .int .u32 0, .int .u32 0, .int .u32 0, .int .u32 0, .int .u32 0, .int .u32 0], 17, 68, true⟩
def ti220 : TI := ⟨.func #[22] #[219] false, .nilFunc, 1, 8, false⟩
def ti221 : TI := ⟨.func #[5] #[160] false, .nilFunc, 1, 8, false⟩
def ti222 : TI := ⟨.func #[94, 3] #[94, 30] false, .nilFunc, 1, 8, false⟩
def ti224 : TI := ⟨.func #[94, 94] #[94, 94] false, .nilFunc, 1, 8, false⟩
def ti226 : TI := ⟨.func #[184, 184] #[184, 184] false, .nilFunc, 1, 8, false⟩
def ti227 : TI := ⟨.func #[24, 228] #[] false, .nilFunc, 1, 8, false⟩
def ti228 : TI := ⟨.func #[3, 3] #[3] false, .nilFunc, 1, 8, false⟩
def ti229 : TI := ⟨.func #[3, 211] #[4] false, .nilFunc, 1, 8, false⟩
def ti230 : TI := ⟨.pointer 219, .pointer none, 1, 8, false⟩
def ti231 : TI := ⟨.func #[24, 3, 228] #[] false, .nilFunc, 1, 8, false⟩
def ti232 : TI := ⟨.func #[3] #[4] false, .nilFunc, 1, 8, false⟩
def ti233 : TI := ⟨.func #[24, 3, 3, 228] #[] false, .nilFunc, 1, 8, false⟩
def ti234 : TI := ⟨.func #[24, 3, 3, 3, 228] #[] false, .nilFunc, 1, 8, false⟩
def ti235 : TI := ⟨.func #[] #[9] false, .nilFunc, 1, 8, false⟩
def ti238 : TI := ⟨.array 0 16, .agg #[], 0, 0, false⟩
def ti243 : TI := ⟨.func #[249, 249] #[4] false, .nilFunc, 1, 8, false⟩
def ti244 : TI := ⟨.pointer 5, .pointer none, 1, 8, false⟩
def ti247 : TI := ⟨.struct #[⟨"Size_", 12, 0, false, "", "", 0⟩, ⟨"PtrBytes", 12, 1, false, "", "", 8⟩, ⟨"Hash", 94, 2, false, "", "", 16⟩, ⟨"TFlag", 241, 3, false, "", "", 20⟩, ⟨"Align_", 5, 4, false, "", "", 21⟩, ⟨"FieldAlign_", 5, 5, false, "", "", 22⟩, ⟨"Kind_", 242, 6, false, "", "", 23⟩, ⟨"Equal", 243, 7, false, "", "", 24⟩, ⟨"GCData", 244, 8, false, "", "", 32⟩, ⟨"Str", 245, 9, false, "", "", 40⟩, ⟨"PtrToThis", 246, 10, false, "", "", 44⟩], .agg #[.int .u64 0, .int .u64 0, .int .u32 0, .int .u8 0, .int .u8 0, .int .u8 0, .int .u8 0, .nilFunc, .pointer none, .int .i32 0, .int .i32 0], 11, 48, false⟩
def Tl : List (Nat × TI) := [(1, ti1), (2, ti2), (3, ti3), (4, ti4), (5, ti5), (9, ti9), (12, ti12), (15, ti15), (16, ti16), (17, ti17), (20, ti20), (21, ti21), (22, ti22), (23, ti23), (24, ti24), (25, ti25), (26, ti26), (27, ti27), (28, ti28), (29, ti29), (30, ti30), (32, ti32), (34, ti34), (35, ti35), (36, ti36), (38, ti38), (40, ti40), (41, ti41), (42, ti42), (43, ti43), (44, ti44), (45, ti45), (47, ti47), (48, ti48), (50, ti50), (52, ti52), (54, ti54), (55, ti55), (56, ti56), (57, ti57), (58, ti58), (59, ti59), (60, ti60), (62, ti62), (63, ti63), (64, ti64), (65, ti65), (67, ti67), (68, ti68), (69, ti69), (70, ti70), (71, ti71), (72, ti72), (73, ti73), (75, ti75), (76, ti76), (78, ti78), (79, ti79), (80, ti80), (81, ti81), (82, ti82), (83, ti83), (84, ti84), (85, ti85), (86, ti86), (87, ti87), (88, ti88), (89, ti89), (90, ti90), (91, ti91), (92, ti92), (93, ti93), (94, ti94), (95, ti95), (96, ti96), (97, ti97), (98, ti98), (99, ti99), (101, ti101), (102, ti102), (103, ti103), (104, ti104), (106, ti106), (107, ti107), (108, ti108), (109, ti109), (110, ti110), (111, ti111), (112, ti112), (114, ti114), (115, ti115), (116, ti116), (117, ti117), (119, ti119), (120, ti120), (122, ti122), (123, ti123), (124, ti124), (125, ti125), (126, ti126), (127, ti127), (128, ti128), (129, ti129), (130, ti130), (131, ti131), (132, ti132), (133, ti133), (134, ti134), (135, ti135), (136, ti136), (137, ti137), (139, ti139), (140, ti140), (141, ti141), (142, ti142), (143, ti143), (144, ti144), (145, ti145), (146, ti146), (147, ti147), (149, ti149), (151, ti151), (152, ti152), (154, ti154), (155, ti155), (156, ti156), (157, ti157), (158, ti158), (159, ti159), (160, ti160), (161, ti161), (162, ti162), (164, ti164), (165, ti165), (166, ti166), (167, ti167), (168, ti168), (169, ti169), (170, ti170), (171, ti171), (172, ti172), (173, ti173), (174, ti174), (175, ti175), (176, ti176), (178, ti178), (179, ti179), (180, ti180), (182, ti182), (183, ti183), (184, ti184), (185, ti185), (187, ti187), (188, ti188), (189, ti189), (190, ti190), (192, ti192), (193, ti193), (194, ti194), (195, ti195), (196, ti196), (197, ti197), (198, ti198), (199, ti199), (200, ti200), (202, ti202), (204, ti204), (205, ti205), (207, ti207), (209, ti209), (210, ti210), (211, ti211), (212, ti212), (213, ti213), (214, ti214), (215, ti215), (216, ti216), (217, ti217), (218, ti218), (219, ti219), (220, ti220), (221, ti221), (222, ti222), (224, ti224), (226, ti226), (227, ti227), (228, ti228), (229, ti229), (230, ti230), (231, ti231), (232, ti232), (233, ti233), (234, ti234), (235, ti235), (238, ti238), (243, ti243), (244, ti244), (247, ti247)]
/-- The table. -/
def T : TT := (.n (.n (.n (.n (.n (.n (.n (.n .e (some ti127) .e) (some ti63) .e) none (.n (.n .e (some ti159) .e) (some ti95) .e)) (some ti15) (.n (.n (.n .e (some ti143) .e) (some ti79) (.n .e (some ti207) .e)) (some ti47) (.n (.n .e (some ti175) .e) (some ti111) .e))) none (.n (.n (.n (.n .e (some ti135) .e) (some ti71) (.n .e (some ti199) .e)) none (.n (.n .e (some ti167) .e) (some ti103) (.n .e (some ti231) .e))) (some ti23) (.n (.n (.n .e (some ti151) .e) (some ti87) (.n .e (some ti215) .e)) (some ti55) (.n (.n .e (some ti183) .e) (some ti119) (.n .e (some ti247) .e))))) (some ti3) (.n (.n (.n (.n (.n .e (some ti131) .e) (some ti67) (.n .e (some ti195) .e)) (some ti35) (.n .e (some ti99) (.n .e (some ti227) .e))) none (.n (.n (.n .e (some ti147) .e) (some ti83) (.n .e (some ti211) .e)) none (.n (.n .e (some ti179) .e) (some ti115) (.n .e (some ti243) .e)))) none (.n (.n (.n (.n .e (some ti139) .e) (some ti75) .e) (some ti43) (.n (.n .e (some ti171) .e) (some ti107) (.n .e (some ti235) .e))) (some ti27) (.n (.n (.n .e (some ti155) .e) (some ti91) (.n .e (some ti219) .e)) (some ti59) (.n (.n .e (some ti187) .e) (some ti123) .e))))) (some ti1) (.n (.n (.n (.n (.n (.n .e (some ti129) .e) (some ti65) (.n .e (some ti193) .e)) none (.n (.n .e (some ti161) .e) (some ti97) .e)) (some ti17) (.n (.n (.n .e (some ti145) .e) (some ti81) (.n .e (some ti209) .e)) none .e)) (some ti9) (.n (.n (.n (.n .e (some ti137) .e) (some ti73) .e) (some ti41) (.n (.n .e (some ti169) .e) none (.n .e (some ti233) .e))) (some ti25) (.n (.n .e (some ti89) (.n .e (some ti217) .e)) (some ti57) (.n (.n .e (some ti185) .e) none .e)))) (some ti5) (.n (.n (.n (.n (.n .e (some ti133) .e) (some ti69) (.n .e (some ti197) .e)) none (.n (.n .e (some ti165) .e) (some ti101) (.n .e (some ti229) .e))) (some ti21) (.n (.n (.n .e (some ti149) .e) (some ti85) (.n .e (some ti213) .e)) none (.n .e (some ti117) .e))) none (.n (.n (.n (.n .e (some ti141) .e) none (.n .e (some ti205) .e)) (some ti45) (.n (.n .e (some ti173) .e) (some ti109) .e)) (some ti29) (.n (.n (.n .e (some ti157) .e) (some ti93) (.n .e (some ti221) .e)) none (.n (.n .e (some ti189) .e) (some ti125) .e)))))) none (.n (.n (.n (.n (.n (.n (.n .e (some ti128) .e) (some ti64) (.n .e (some ti192) .e)) (some ti32) (.n (.n .e (some ti160) .e) (some ti96) (.n .e (some ti224) .e))) (some ti16) (.n (.n (.n .e (some ti144) .e) (some ti80) .e) (some ti48) (.n (.n .e (some ti176) .e) (some ti112) .e))) none (.n (.n (.n (.n .e (some ti136) .e) (some ti72) (.n .e (some ti200) .e)) (some ti40) (.n (.n .e (some ti168) .e) (some ti104) (.n .e (some ti232) .e))) (some ti24) (.n (.n (.n .e (some ti152) .e) (some ti88) (.n .e (some ti216) .e)) (some ti56) (.n (.n .e (some ti184) .e) (some ti120) .e)))) (some ti4) (.n (.n (.n (.n (.n .e (some ti132) .e) (some ti68) (.n .e (some ti196) .e)) (some ti36) (.n (.n .e (some ti164) .e) none (.n .e (some ti228) .e))) (some ti20) (.n (.n .e (some ti84) (.n .e (some ti212) .e)) (some ti52) (.n (.n .e (some ti180) .e) (some ti116) (.n .e (some ti244) .e)))) (some ti12) (.n (.n (.n (.n .e (some ti140) .e) (some ti76) (.n .e (some ti204) .e)) (some ti44) (.n (.n .e (some ti172) .e) (some ti108) .e)) (some ti28) (.n (.n (.n .e (some ti156) .e) (some ti92) (.n .e (some ti220) .e)) (some ti60) (.n (.n .e (some ti188) .e) (some ti124) .e))))) (some ti2) (.n (.n (.n (.n (.n (.n .e (some ti130) .e) none (.n .e (some ti194) .e)) (some ti34) (.n (.n .e (some ti162) .e) (some ti98) (.n .e (some ti226) .e))) none (.n (.n (.n .e (some ti146) .e) (some ti82) (.n .e (some ti210) .e)) (some ti50) (.n (.n .e (some ti178) .e) (some ti114) .e))) none (.n (.n (.n .e none (.n .e (some ti202) .e)) (some ti42) (.n (.n .e (some ti170) .e) (some ti106) (.n .e (some ti234) .e))) (some ti26) (.n (.n (.n .e (some ti154) .e) (some ti90) (.n .e (some ti218) .e)) (some ti58) (.n .e (some ti122) .e)))) none (.n (.n (.n (.n (.n .e (some ti134) .e) (some ti70) (.n .e (some ti198) .e)) (some ti38) (.n (.n .e (some ti166) .e) (some ti102) (.n .e (some ti230) .e))) (some ti22) (.n (.n .e (some ti86) (.n .e (some ti214) .e)) (some ti54) (.n (.n .e (some ti182) .e) none .e))) none (.n (.n (.n (.n .e (some ti142) .e) (some ti78) .e) none (.n (.n .e (some ti174) .e) (some ti110) (.n .e (some ti238) .e))) (some ti30) (.n (.n (.n .e (some ti158) .e) (some ti94) (.n .e (some ti222) .e)) (some ti62) (.n (.n .e (some ti190) .e) (some ti126) .e)))))))
set_option maxRecDepth 100000 in
theorem T_ok : TT.ok Try.prog T := by
  refine TT.ok_ofL (l := Tl) ?_ (by kernel_rfl)
  refine ⟨tiok (by kernel_rfl) (by kernel_rfl) rfl, ?_⟩
  refine ⟨tiok (by kernel_rfl) (by kernel_rfl) rfl, ?_⟩
  refine ⟨tiok (by kernel_rfl) (by kernel_rfl) rfl, ?_⟩
  refine ⟨tiok (by kernel_rfl) (by kernel_rfl) rfl, ?_⟩
  refine ⟨tiok (by kernel_rfl) (by kernel_rfl) rfl, ?_⟩
  refine ⟨tiok (by kernel_rfl) (by kernel_rfl) rfl, ?_⟩
  refine ⟨tiok (by kernel_rfl) (by kernel_rfl) rfl, ?_⟩
  refine ⟨tiok (by kernel_rfl) (by kernel_rfl) rfl, ?_⟩
  refine ⟨tiok (by kernel_rfl) (by kernel_rfl) rfl, ?_⟩
  refine ⟨tiok (by kernel_rfl) (by kernel_rfl) rfl, ?_⟩
  refine ⟨tiok (by kernel_rfl) (by kernel_rfl) rfl, ?_⟩
  refine ⟨tiok (by kernel_rfl) (by kernel_rfl) rfl, ?_⟩
  refine ⟨tiok (by kernel_rfl) (by kernel_rfl) rfl, ?_⟩
  refine ⟨tiokP (by kernel_rfl) (by kernel_rfl) rfl (by kernel_rfl) (by kernel_rfl) (by kernel_rfl), ?_⟩
  refine ⟨tiok (by kernel_rfl) (by kernel_rfl) rfl, ?_⟩
  refine ⟨tiok (by kernel_rfl) (by kernel_rfl) rfl, ?_⟩
  refine ⟨tiok (by kernel_rfl) (by kernel_rfl) rfl, ?_⟩
  refine ⟨tiok (by kernel_rfl) (by kernel_rfl) rfl, ?_⟩
  refine ⟨tiok (by kernel_rfl) (by kernel_rfl) rfl, ?_⟩
  refine ⟨tiok (by kernel_rfl) (by kernel_rfl) rfl, ?_⟩
  refine ⟨tiok (by kernel_rfl) (by kernel_rfl) rfl, ?_⟩
  refine ⟨tiok (by kernel_rfl) (by kernel_rfl) rfl, ?_⟩
  refine ⟨tiok (by kernel_rfl) (by kernel_rfl) rfl, ?_⟩
  refine ⟨tiokP (by kernel_rfl) (by kernel_rfl) rfl (by kernel_rfl) (by kernel_rfl) (by kernel_rfl), ?_⟩
  refine ⟨tiokP (by kernel_rfl) (by kernel_rfl) rfl (by kernel_rfl) (by kernel_rfl) (by kernel_rfl), ?_⟩
  refine ⟨tiok (by kernel_rfl) (by kernel_rfl) rfl, ?_⟩
  refine ⟨tiok (by kernel_rfl) (by kernel_rfl) rfl, ?_⟩
  refine ⟨tiok (by kernel_rfl) (by kernel_rfl) rfl, ?_⟩
  refine ⟨tiok (by kernel_rfl) (by kernel_rfl) rfl, ?_⟩
  refine ⟨tiok (by kernel_rfl) (by kernel_rfl) rfl, ?_⟩
  refine ⟨tiok (by kernel_rfl) (by kernel_rfl) rfl, ?_⟩
  refine ⟨tiok (by kernel_rfl) (by kernel_rfl) rfl, ?_⟩
  refine ⟨tiok (by kernel_rfl) (by kernel_rfl) rfl, ?_⟩
  refine ⟨tiok (by kernel_rfl) (by kernel_rfl) rfl, ?_⟩
  refine ⟨tiok (by kernel_rfl) (by kernel_rfl) rfl, ?_⟩
  refine ⟨tiok (by kernel_rfl) (by kernel_rfl) rfl, ?_⟩
  refine ⟨tiok (by kernel_rfl) (by kernel_rfl) rfl, ?_⟩
  refine ⟨tiok (by kernel_rfl) (by kernel_rfl) rfl, ?_⟩
  refine ⟨tiok (by kernel_rfl) (by kernel_rfl) rfl, ?_⟩
  refine ⟨tiok (by kernel_rfl) (by kernel_rfl) rfl, ?_⟩
  refine ⟨tiok (by kernel_rfl) (by kernel_rfl) rfl, ?_⟩
  refine ⟨tiok (by kernel_rfl) (by kernel_rfl) rfl, ?_⟩
  refine ⟨tiok (by kernel_rfl) (by kernel_rfl) rfl, ?_⟩
  refine ⟨tiok (by kernel_rfl) (by kernel_rfl) rfl, ?_⟩
  refine ⟨tiok (by kernel_rfl) (by kernel_rfl) rfl, ?_⟩
  refine ⟨tiok (by kernel_rfl) (by kernel_rfl) rfl, ?_⟩
  refine ⟨tiok (by kernel_rfl) (by kernel_rfl) rfl, ?_⟩
  refine ⟨tiok (by kernel_rfl) (by kernel_rfl) rfl, ?_⟩
  refine ⟨tiok (by kernel_rfl) (by kernel_rfl) rfl, ?_⟩
  refine ⟨tiok (by kernel_rfl) (by kernel_rfl) rfl, ?_⟩
  refine ⟨tiok (by kernel_rfl) (by kernel_rfl) rfl, ?_⟩
  refine ⟨tiok (by kernel_rfl) (by kernel_rfl) rfl, ?_⟩
  refine ⟨tiok (by kernel_rfl) (by kernel_rfl) rfl, ?_⟩
  refine ⟨tiok (by kernel_rfl) (by kernel_rfl) rfl, ?_⟩
  refine ⟨tiok (by kernel_rfl) (by kernel_rfl) rfl, ?_⟩
  refine ⟨tiok (by kernel_rfl) (by kernel_rfl) rfl, ?_⟩
  refine ⟨tiok (by kernel_rfl) (by kernel_rfl) rfl, ?_⟩
  refine ⟨tiok (by kernel_rfl) (by kernel_rfl) rfl, ?_⟩
  refine ⟨tiok (by kernel_rfl) (by kernel_rfl) rfl, ?_⟩
  refine ⟨tiok (by kernel_rfl) (by kernel_rfl) rfl, ?_⟩
  refine ⟨tiok (by kernel_rfl) (by kernel_rfl) rfl, ?_⟩
  refine ⟨tiok (by kernel_rfl) (by kernel_rfl) rfl, ?_⟩
  refine ⟨tiok (by kernel_rfl) (by kernel_rfl) rfl, ?_⟩
  refine ⟨tiok (by kernel_rfl) (by kernel_rfl) rfl, ?_⟩
  refine ⟨tiok (by kernel_rfl) (by kernel_rfl) rfl, ?_⟩
  refine ⟨tiok (by kernel_rfl) (by kernel_rfl) rfl, ?_⟩
  refine ⟨tiok (by kernel_rfl) (by kernel_rfl) rfl, ?_⟩
  refine ⟨tiok (by kernel_rfl) (by kernel_rfl) rfl, ?_⟩
  refine ⟨tiok (by kernel_rfl) (by kernel_rfl) rfl, ?_⟩
  refine ⟨tiok (by kernel_rfl) (by kernel_rfl) rfl, ?_⟩
  refine ⟨tiok (by kernel_rfl) (by kernel_rfl) rfl, ?_⟩
  refine ⟨tiok (by kernel_rfl) (by kernel_rfl) rfl, ?_⟩
  refine ⟨tiok (by kernel_rfl) (by kernel_rfl) rfl, ?_⟩
  refine ⟨tiokP (by kernel_rfl) (by kernel_rfl) rfl (by kernel_rfl) (by kernel_rfl) (by kernel_rfl), ?_⟩
  refine ⟨tiokP (by kernel_rfl) (by kernel_rfl) rfl (by kernel_rfl) (by kernel_rfl) (by kernel_rfl), ?_⟩
  refine ⟨tiok (by kernel_rfl) (by kernel_rfl) rfl, ?_⟩
  refine ⟨tiok (by kernel_rfl) (by kernel_rfl) rfl, ?_⟩
  refine ⟨tiok (by kernel_rfl) (by kernel_rfl) rfl, ?_⟩
  refine ⟨tiok (by kernel_rfl) (by kernel_rfl) rfl, ?_⟩
  refine ⟨tiok (by kernel_rfl) (by kernel_rfl) rfl, ?_⟩
  refine ⟨tiok (by kernel_rfl) (by kernel_rfl) rfl, ?_⟩
  refine ⟨tiok (by kernel_rfl) (by kernel_rfl) rfl, ?_⟩
  refine ⟨tiok (by kernel_rfl) (by kernel_rfl) rfl, ?_⟩
  refine ⟨tiok (by kernel_rfl) (by kernel_rfl) rfl, ?_⟩
  refine ⟨tiok (by kernel_rfl) (by kernel_rfl) rfl, ?_⟩
  refine ⟨tiok (by kernel_rfl) (by kernel_rfl) rfl, ?_⟩
  refine ⟨tiok (by kernel_rfl) (by kernel_rfl) rfl, ?_⟩
  refine ⟨tiok (by kernel_rfl) (by kernel_rfl) rfl, ?_⟩
  refine ⟨tiok (by kernel_rfl) (by kernel_rfl) rfl, ?_⟩
  refine ⟨tiok (by kernel_rfl) (by kernel_rfl) rfl, ?_⟩
  refine ⟨tiok (by kernel_rfl) (by kernel_rfl) rfl, ?_⟩
  refine ⟨tiok (by kernel_rfl) (by kernel_rfl) rfl, ?_⟩
  refine ⟨tiok (by kernel_rfl) (by kernel_rfl) rfl, ?_⟩
  refine ⟨tiok (by kernel_rfl) (by kernel_rfl) rfl, ?_⟩
  refine ⟨tiok (by kernel_rfl) (by kernel_rfl) rfl, ?_⟩
  refine ⟨tiok (by kernel_rfl) (by kernel_rfl) rfl, ?_⟩
  refine ⟨tiok (by kernel_rfl) (by kernel_rfl) rfl, ?_⟩
  refine ⟨tiok (by kernel_rfl) (by kernel_rfl) rfl, ?_⟩
  refine ⟨tiok (by kernel_rfl) (by kernel_rfl) rfl, ?_⟩
  refine ⟨tiok (by kernel_rfl) (by kernel_rfl) rfl, ?_⟩
  refine ⟨tiok (by kernel_rfl) (by kernel_rfl) rfl, ?_⟩
  refine ⟨tiok (by kernel_rfl) (by kernel_rfl) rfl, ?_⟩
  refine ⟨tiok (by kernel_rfl) (by kernel_rfl) rfl, ?_⟩
  refine ⟨tiok (by kernel_rfl) (by kernel_rfl) rfl, ?_⟩
  refine ⟨tiok (by kernel_rfl) (by kernel_rfl) rfl, ?_⟩
  refine ⟨tiok (by kernel_rfl) (by kernel_rfl) rfl, ?_⟩
  refine ⟨tiok (by kernel_rfl) (by kernel_rfl) rfl, ?_⟩
  refine ⟨tiok (by kernel_rfl) (by kernel_rfl) rfl, ?_⟩
  refine ⟨tiok (by kernel_rfl) (by kernel_rfl) rfl, ?_⟩
  refine ⟨tiok (by kernel_rfl) (by kernel_rfl) rfl, ?_⟩
  refine ⟨tiok (by kernel_rfl) (by kernel_rfl) rfl, ?_⟩
  refine ⟨tiok (by kernel_rfl) (by kernel_rfl) rfl, ?_⟩
  refine ⟨tiok (by kernel_rfl) (by kernel_rfl) rfl, ?_⟩
  refine ⟨tiok (by kernel_rfl) (by kernel_rfl) rfl, ?_⟩
  refine ⟨tiokP (by kernel_rfl) (by kernel_rfl) rfl (by kernel_rfl) (by kernel_rfl) (by kernel_rfl), ?_⟩
  refine ⟨tiok (by kernel_rfl) (by kernel_rfl) rfl, ?_⟩
  refine ⟨tiok (by kernel_rfl) (by kernel_rfl) rfl, ?_⟩
  refine ⟨tiok (by kernel_rfl) (by kernel_rfl) rfl, ?_⟩
  refine ⟨tiok (by kernel_rfl) (by kernel_rfl) rfl, ?_⟩
  refine ⟨tiok (by kernel_rfl) (by kernel_rfl) rfl, ?_⟩
  refine ⟨tiok (by kernel_rfl) (by kernel_rfl) rfl, ?_⟩
  refine ⟨tiokP (by kernel_rfl) (by kernel_rfl) rfl (by kernel_rfl) (by kernel_rfl) (by kernel_rfl), ?_⟩
  refine ⟨tiokP (by kernel_rfl) (by kernel_rfl) rfl (by kernel_rfl) (by kernel_rfl) (by kernel_rfl), ?_⟩
  refine ⟨tiok (by kernel_rfl) (by kernel_rfl) rfl, ?_⟩
  refine ⟨tiok (by kernel_rfl) (by kernel_rfl) rfl, ?_⟩
  refine ⟨tiok (by kernel_rfl) (by kernel_rfl) rfl, ?_⟩
  refine ⟨tiok (by kernel_rfl) (by kernel_rfl) rfl, ?_⟩
  refine ⟨tiok (by kernel_rfl) (by kernel_rfl) rfl, ?_⟩
  refine ⟨tiokP (by kernel_rfl) (by kernel_rfl) rfl (by kernel_rfl) (by kernel_rfl) (by kernel_rfl), ?_⟩
  refine ⟨tiokP (by kernel_rfl) (by kernel_rfl) rfl (by kernel_rfl) (by kernel_rfl) (by kernel_rfl), ?_⟩
  refine ⟨tiok (by kernel_rfl) (by kernel_rfl) rfl, ?_⟩
  refine ⟨tiok (by kernel_rfl) (by kernel_rfl) rfl, ?_⟩
  refine ⟨tiok (by kernel_rfl) (by kernel_rfl) rfl, ?_⟩
  refine ⟨tiok (by kernel_rfl) (by kernel_rfl) rfl, ?_⟩
  refine ⟨tiok (by kernel_rfl) (by kernel_rfl) rfl, ?_⟩
  refine ⟨tiok (by kernel_rfl) (by kernel_rfl) rfl, ?_⟩
  refine ⟨tiok (by kernel_rfl) (by kernel_rfl) rfl, ?_⟩
  refine ⟨tiok (by kernel_rfl) (by kernel_rfl) rfl, ?_⟩
  refine ⟨tiokP (by kernel_rfl) (by kernel_rfl) rfl (by kernel_rfl) (by kernel_rfl) (by kernel_rfl), ?_⟩
  refine ⟨tiokP (by kernel_rfl) (by kernel_rfl) rfl (by kernel_rfl) (by kernel_rfl) (by kernel_rfl), ?_⟩
  refine ⟨tiokP (by kernel_rfl) (by kernel_rfl) rfl (by kernel_rfl) (by kernel_rfl) (by kernel_rfl), ?_⟩
  refine ⟨tiok (by kernel_rfl) (by kernel_rfl) rfl, ?_⟩
  refine ⟨tiok (by kernel_rfl) (by kernel_rfl) rfl, ?_⟩
  refine ⟨tiok (by kernel_rfl) (by kernel_rfl) rfl, ?_⟩
  refine ⟨tiok (by kernel_rfl) (by kernel_rfl) rfl, ?_⟩
  refine ⟨tiok (by kernel_rfl) (by kernel_rfl) rfl, ?_⟩
  refine ⟨tiokP (by kernel_rfl) (by kernel_rfl) rfl (by kernel_rfl) (by kernel_rfl) (by kernel_rfl), ?_⟩
  refine ⟨tiokP (by kernel_rfl) (by kernel_rfl) rfl (by kernel_rfl) (by kernel_rfl) (by kernel_rfl), ?_⟩
  refine ⟨tiok (by kernel_rfl) (by kernel_rfl) rfl, ?_⟩
  refine ⟨tiok (by kernel_rfl) (by kernel_rfl) rfl, ?_⟩
  refine ⟨tiok (by kernel_rfl) (by kernel_rfl) rfl, ?_⟩
  refine ⟨tiok (by kernel_rfl) (by kernel_rfl) rfl, ?_⟩
  refine ⟨tiok (by kernel_rfl) (by kernel_rfl) rfl, ?_⟩
  refine ⟨tiok (by kernel_rfl) (by kernel_rfl) rfl, ?_⟩
  refine ⟨tiok (by kernel_rfl) (by kernel_rfl) rfl, ?_⟩
  refine ⟨tiok (by kernel_rfl) (by kernel_rfl) rfl, ?_⟩
  refine ⟨tiok (by kernel_rfl) (by kernel_rfl) rfl, ?_⟩
  refine ⟨tiok (by kernel_rfl) (by kernel_rfl) rfl, ?_⟩
  refine ⟨tiok (by kernel_rfl) (by kernel_rfl) rfl, ?_⟩
  refine ⟨tiok (by kernel_rfl) (by kernel_rfl) rfl, ?_⟩
  refine ⟨tiok (by kernel_rfl) (by kernel_rfl) rfl, ?_⟩
  refine ⟨tiok (by kernel_rfl) (by kernel_rfl) rfl, ?_⟩
  refine ⟨tiok (by kernel_rfl) (by kernel_rfl) rfl, ?_⟩
  refine ⟨tiok (by kernel_rfl) (by kernel_rfl) rfl, ?_⟩
  refine ⟨tiokP (by kernel_rfl) (by kernel_rfl) rfl (by kernel_rfl) (by kernel_rfl) (by kernel_rfl), ?_⟩
  refine ⟨tiok (by kernel_rfl) (by kernel_rfl) rfl, ?_⟩
  refine ⟨tiok (by kernel_rfl) (by kernel_rfl) rfl, ?_⟩
  refine ⟨tiok (by kernel_rfl) (by kernel_rfl) rfl, ?_⟩
  refine ⟨tiok (by kernel_rfl) (by kernel_rfl) rfl, ?_⟩
  refine ⟨tiok (by kernel_rfl) (by kernel_rfl) rfl, ?_⟩
  refine ⟨tiok (by kernel_rfl) (by kernel_rfl) rfl, ?_⟩
  refine ⟨tiok (by kernel_rfl) (by kernel_rfl) rfl, ?_⟩
  refine ⟨tiok (by kernel_rfl) (by kernel_rfl) rfl, ?_⟩
  refine ⟨tiok (by kernel_rfl) (by kernel_rfl) rfl, ?_⟩
  refine ⟨tiok (by kernel_rfl) (by kernel_rfl) rfl, ?_⟩
  refine ⟨tiok (by kernel_rfl) (by kernel_rfl) rfl, ?_⟩
  refine ⟨tiokP (by kernel_rfl) (by kernel_rfl) rfl (by kernel_rfl) (by kernel_rfl) (by kernel_rfl), ?_⟩
  refine ⟨tiokP (by kernel_rfl) (by kernel_rfl) rfl (by kernel_rfl) (by kernel_rfl) (by kernel_rfl), ?_⟩
  refine ⟨tiokP (by kernel_rfl) (by kernel_rfl) rfl (by kernel_rfl) (by kernel_rfl) (by kernel_rfl), ?_⟩
  refine ⟨tiokP (by kernel_rfl) (by kernel_rfl) rfl (by kernel_rfl) (by kernel_rfl) (by kernel_rfl), ?_⟩
  refine ⟨tiok (by kernel_rfl) (by kernel_rfl) rfl, ?_⟩
  refine ⟨tiok (by kernel_rfl) (by kernel_rfl) rfl, ?_⟩
  refine ⟨tiok (by kernel_rfl) (by kernel_rfl) rfl, ?_⟩
  refine ⟨tiok (by kernel_rfl) (by kernel_rfl) rfl, ?_⟩
  refine ⟨tiok (by kernel_rfl) (by kernel_rfl) rfl, ?_⟩
  refine ⟨tiok (by kernel_rfl) (by kernel_rfl) rfl, ?_⟩
  refine ⟨tiok (by kernel_rfl) (by kernel_rfl) rfl, ?_⟩
  refine ⟨tiok (by kernel_rfl) (by kernel_rfl) rfl, ?_⟩
  refine ⟨tiok (by kernel_rfl) (by kernel_rfl) rfl, ?_⟩
  refine ⟨tiok (by kernel_rfl) (by kernel_rfl) rfl, ?_⟩
  refine ⟨tiok (by kernel_rfl) (by kernel_rfl) rfl, ?_⟩
  refine ⟨tiok (by kernel_rfl) (by kernel_rfl) rfl, ?_⟩
  refine ⟨tiok (by kernel_rfl) (by kernel_rfl) rfl, ?_⟩
  refine ⟨tiok (by kernel_rfl) (by kernel_rfl) rfl, ?_⟩
  refine ⟨tiok (by kernel_rfl) (by kernel_rfl) rfl, ?_⟩
  refine ⟨tiok (by kernel_rfl) (by kernel_rfl) rfl, ?_⟩
  refine ⟨tiok (by kernel_rfl) (by kernel_rfl) rfl, ?_⟩
  refine ⟨tiok (by kernel_rfl) (by kernel_rfl) rfl, ?_⟩
  trivial
theorem mixed : Try.prog.follows .mixedOrders = true := by kernel_rfl
end Go.Proofs.Ytegjeagfcfhbeaa

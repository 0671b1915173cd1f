/- The table of types of this seat's program, and that it is the program's. Written by our own gentab.py. -/
import Derived.Test.YtdijjjgplhbkkaaGreatDoorProg
import Derived.Test.YtdijjjgplhbkkaaGreatDoorWa
import Derived.KernelRfl
namespace Go.Vl
open Go Go.Proofs
set_option maxRecDepth 100000
def ti1 : TI := ⟨.other, 1, 8, [.nilFunc], none⟩
def ti2 : TI := ⟨.int .i64, 1, 8, [.int .i64 0], none⟩
def ti3 : TI := ⟨.int .i64, 1, 8, [.int .i64 0], none⟩
def ti4 : TI := ⟨.bool, 1, 1, [.bool false], none⟩
def ti5 : TI := ⟨.int .u8, 1, 1, [.int .u8 0], none⟩
def ti9 : TI := ⟨.str, 1, 16, [.string ⟨#[]⟩], none⟩
def ti12 : TI := ⟨.int .u64, 1, 8, [.int .u64 0], none⟩
def ti13 : TI := ⟨.st [(0, 9), (1, 12)], 2, 24, [.string ⟨#[]⟩, .int .u64 0], none⟩
def ti20 : TI := ⟨.other, 1, 16, [.nilIface], none⟩
def ti21 : TI := ⟨.int .i32, 1, 4, [.int .i32 0], none⟩
def ti22 : TI := ⟨.sl 5, 1, 24, [.slice none 0 0], none⟩
def ti23 : TI := ⟨.sl 39, 1, 24, [.slice none 0 0], none⟩
def ti24 : TI := ⟨.sl 105, 1, 24, [.slice none 0 0], none⟩
def ti25 : TI := ⟨.sl 35, 1, 24, [.slice none 0 0], none⟩
def ti26 : TI := ⟨.st [(0, 23), (1, 24), (2, 25), (3, 3)], 4, 80, [.slice none 0 0, .slice none 0 0, .slice none 0 0, .int .i64 0], none⟩
def ti27 : TI := ⟨.st [(0, 23), (1, 24), (2, 25), (3, 3)], 4, 80, [.slice none 0 0, .slice none 0 0, .slice none 0 0, .int .i64 0], none⟩
def ti28 : TI := ⟨.other, 1, 8, [.nilFunc], none⟩
def ti29 : TI := ⟨.other, 1, 8, [.nilFunc], none⟩
def ti30 : TI := ⟨.other, 1, 8, [.nilFunc], none⟩
def ti31 : TI := ⟨.sl 37, 1, 24, [.slice none 0 0], none⟩
def ti33 : TI := ⟨.other, 1, 8, [.nilFunc], none⟩
def ti34 : TI := ⟨.st [(0, 3), (1, 3), (2, 31)], 3, 40, [.int .i64 0, .int .i64 0, .slice none 0 0], none⟩
def ti35 : TI := ⟨.st [(0, 3), (1, 3), (2, 31)], 3, 40, [.int .i64 0, .int .i64 0, .slice none 0 0], none⟩
def ti36 : TI := ⟨.st [(0, 3), (1, 3), (2, 9)], 3, 32, [.int .i64 0, .int .i64 0, .string ⟨#[]⟩], none⟩
def ti37 : TI := ⟨.st [(0, 3), (1, 3), (2, 9)], 3, 32, [.int .i64 0, .int .i64 0, .string ⟨#[]⟩], some [(0, 3), (1, 3), (2, 9)]⟩
def ti38 : TI := ⟨.st [(0, 9), (1, 3), (2, 4), (3, 4), (4, 37)], 7, 64, [.string ⟨#[]⟩, .int .i64 0, .bool false, .bool false, .int .i64 0, .int .i64 0, .string ⟨#[]⟩], none⟩
def ti39 : TI := ⟨.st [(0, 9), (1, 3), (2, 4), (3, 4), (4, 37)], 7, 64, [.string ⟨#[]⟩, .int .i64 0, .bool false, .bool false, .int .i64 0, .int .i64 0, .string ⟨#[]⟩], some [(0, 9), (1, 3), (2, 4), (3, 4), (4, 37)]⟩
def ti40 : TI := ⟨.sl 3, 1, 24, [.slice none 0 0], none⟩
def ti41 : TI := ⟨.other, 1, 8, [.nilFunc], none⟩
def ti42 : TI := ⟨.other, 1, 8, [.nilFunc], none⟩
def ti43 : TI := ⟨.other, 1, 8, [.nilFunc], none⟩
def ti45 : TI := ⟨.other, 1, 8, [.nilFunc], none⟩
def ti46 : TI := ⟨.other, 1, 8, [.nilFunc], none⟩
def ti48 : TI := ⟨.other, 1, 8, [.nilFunc], none⟩
def ti49 : TI := ⟨.other, 1, 8, [.nilFunc], none⟩
def ti50 : TI := ⟨.other, 1, 8, [.nilFunc], none⟩
def ti51 : TI := ⟨.other, 1, 8, [.nilFunc], none⟩
def ti52 : TI := ⟨.other, 1, 8, [.nilFunc], none⟩
def ti53 : TI := ⟨.sl 174, 1, 24, [.slice none 0 0], none⟩
def ti54 : TI := ⟨.sl 176, 1, 24, [.slice none 0 0], none⟩
def ti55 : TI := ⟨.st [(0, 53), (1, 54)], 2, 48, [.slice none 0 0, .slice none 0 0], none⟩
def ti56 : TI := ⟨.st [(0, 53), (1, 54)], 2, 48, [.slice none 0 0, .slice none 0 0], none⟩
def ti57 : TI := ⟨.other, 1, 8, [.nilFunc], none⟩
def ti58 : TI := ⟨.other, 1, 8, [.nilFunc], none⟩
def ti59 : TI := ⟨.sl 77, 1, 24, [.slice none 0 0], none⟩
def ti60 : TI := ⟨.sl 79, 1, 24, [.slice none 0 0], none⟩
def ti61 : TI := ⟨.st [(0, 59), (1, 60)], 2, 48, [.slice none 0 0, .slice none 0 0], none⟩
def ti62 : TI := ⟨.st [(0, 59), (1, 60)], 2, 48, [.slice none 0 0, .slice none 0 0], none⟩
def ti63 : TI := ⟨.other, 1, 8, [.nilFunc], none⟩
def ti64 : TI := ⟨.other, 1, 8, [.nilFunc], none⟩
def ti65 : TI := ⟨.other, 1, 8, [.nilFunc], none⟩
def ti66 : TI := ⟨.sl 75, 1, 24, [.slice none 0 0], none⟩
def ti67 : TI := ⟨.other, 1, 8, [.nilFunc], none⟩
def ti68 : TI := ⟨.other, 1, 8, [.nilFunc], none⟩
def ti69 : TI := ⟨.other, 1, 8, [.nilFunc], none⟩
def ti70 : TI := ⟨.other, 1, 8, [.nilFunc], none⟩
def ti71 : TI := ⟨.other, 1, 8, [.nilFunc], none⟩
def ti73 : TI := ⟨.other, 1, 8, [.nilFunc], none⟩
def ti74 : TI := ⟨.st [(0, 9), (1, 3)], 2, 24, [.string ⟨#[]⟩, .int .i64 0], none⟩
def ti75 : TI := ⟨.st [(0, 9), (1, 3)], 2, 24, [.string ⟨#[]⟩, .int .i64 0], some [(0, 9), (1, 3)]⟩
def ti76 : TI := ⟨.st [(0, 9), (1, 27)], 5, 96, [.string ⟨#[]⟩, .slice none 0 0, .slice none 0 0, .slice none 0 0, .int .i64 0], none⟩
def ti77 : TI := ⟨.st [(0, 9), (1, 27)], 5, 96, [.string ⟨#[]⟩, .slice none 0 0, .slice none 0 0, .slice none 0 0, .int .i64 0], none⟩
def ti78 : TI := ⟨.st [(0, 9), (1, 9), (2, 9), (3, 3)], 4, 56, [.string ⟨#[]⟩, .string ⟨#[]⟩, .string ⟨#[]⟩, .int .i64 0], none⟩
def ti79 : TI := ⟨.st [(0, 9), (1, 9), (2, 9), (3, 3)], 4, 56, [.string ⟨#[]⟩, .string ⟨#[]⟩, .string ⟨#[]⟩, .int .i64 0], some [(0, 9), (1, 9), (2, 9), (3, 3)]⟩
def ti80 : TI := ⟨.other, 1, 8, [.nilFunc], none⟩
def ti82 : TI := ⟨.other, 1, 8, [.nilFunc], none⟩
def ti83 : TI := ⟨.other, 1, 8, [.nilFunc], none⟩
def ti84 : TI := ⟨.other, 1, 8, [.nilFunc], none⟩
def ti85 : TI := ⟨.other, 1, 8, [.pointer none], none⟩
def ti86 : TI := ⟨.other, 1, 8, [.nilFunc], none⟩
def ti87 : TI := ⟨.other, 1, 8, [.nilFunc], none⟩
def ti88 : TI := ⟨.other, 1, 8, [.nilFunc], none⟩
def ti89 : TI := ⟨.other, 1, 8, [.nilFunc], none⟩
def ti90 : TI := ⟨.other, 1, 8, [.nilFunc], none⟩
def ti92 : TI := ⟨.other, 1, 8, [.nilFunc], none⟩
def ti93 : TI := ⟨.other, 1, 8, [.nilFunc], none⟩
def ti94 : TI := ⟨.sl 31, 1, 24, [.slice none 0 0], none⟩
def ti95 : TI := ⟨.other, 1, 8, [.nilFunc], none⟩
def ti96 : TI := ⟨.other, 1, 8, [.nilFunc], none⟩
def ti97 : TI := ⟨.other, 1, 8, [.nilFunc], none⟩
def ti98 : TI := ⟨.sl 9, 1, 24, [.slice none 0 0], none⟩
def ti99 : TI := ⟨.other, 1, 8, [.nilFunc], none⟩
def ti100 : TI := ⟨.other, 1, 8, [.nilFunc], none⟩
def ti101 : TI := ⟨.other, 1, 8, [.nilFunc], none⟩
def ti102 : TI := ⟨.other, 1, 8, [.nilFunc], none⟩
def ti103 : TI := ⟨.other, 1, 8, [.nilFunc], none⟩
def ti104 : TI := ⟨.st [(0, 3), (1, 9), (2, 9), (3, 39)], 10, 104, [.int .i64 0, .string ⟨#[]⟩, .string ⟨#[]⟩, .string ⟨#[]⟩, .int .i64 0, .bool false, .bool false, .int .i64 0, .int .i64 0, .string ⟨#[]⟩], none⟩
def ti105 : TI := ⟨.st [(0, 3), (1, 9), (2, 9), (3, 39)], 10, 104, [.int .i64 0, .string ⟨#[]⟩, .string ⟨#[]⟩, .string ⟨#[]⟩, .int .i64 0, .bool false, .bool false, .int .i64 0, .int .i64 0, .string ⟨#[]⟩], some [(0, 3), (1, 9), (2, 9), (3, 39)]⟩
def ti106 : TI := ⟨.other, 1, 8, [.nilFunc], none⟩
def ti107 : TI := ⟨.other, 1, 8, [.nilFunc], none⟩
def ti108 : TI := ⟨.other, 1, 8, [.nilFunc], none⟩
def ti109 : TI := ⟨.other, 1, 8, [.nilFunc], none⟩
def ti110 : TI := ⟨.other, 1, 8, [.nilFunc], none⟩
def ti111 : TI := ⟨.other, 1, 8, [.nilFunc], none⟩
def ti112 : TI := ⟨.other, 1, 8, [.nilFunc], none⟩
def ti113 : TI := ⟨.other, 1, 8, [.nilFunc], none⟩
def ti114 : TI := ⟨.other, 1, 8, [.nilFunc], none⟩
def ti115 : TI := ⟨.other, 1, 8, [.nilFunc], none⟩
def ti116 : TI := ⟨.other, 1, 8, [.nilFunc], none⟩
def ti117 : TI := ⟨.other, 1, 8, [.nilFunc], none⟩
def ti118 : TI := ⟨.other, 1, 8, [.nilFunc], none⟩
def ti119 : TI := ⟨.other, 1, 8, [.nilFunc], none⟩
def ti120 : TI := ⟨.other, 1, 8, [.nilFunc], none⟩
def ti121 : TI := ⟨.other, 1, 8, [.nilFunc], none⟩
def ti122 : TI := ⟨.other, 1, 8, [.nilFunc], none⟩
def ti123 : TI := ⟨.other, 1, 8, [.nilFunc], none⟩
def ti124 : TI := ⟨.other, 1, 8, [.nilFunc], none⟩
def ti125 : TI := ⟨.other, 1, 8, [.nilFunc], none⟩
def ti126 : TI := ⟨.other, 1, 8, [.nilFunc], none⟩
def ti127 : TI := ⟨.other, 1, 8, [.nilFunc], none⟩
def ti128 : TI := ⟨.other, 1, 8, [.nilFunc], none⟩
def ti129 : TI := ⟨.map 75 4, 1, 8, [.map none], none⟩
def ti130 : TI := ⟨.other, 1, 8, [.nilFunc], none⟩
def ti131 : TI := ⟨.other, 1, 8, [.nilFunc], none⟩
def ti132 : TI := ⟨.other, 1, 8, [.nilFunc], none⟩
def ti133 : TI := ⟨.other, 1, 8, [.nilFunc], none⟩
def ti134 : TI := ⟨.other, 1, 8, [.nilFunc], none⟩
def ti135 : TI := ⟨.other, 1, 8, [.nilFunc], none⟩
def ti137 : TI := ⟨.other, 1, 8, [.nilFunc], none⟩
def ti138 : TI := ⟨.other, 1, 8, [.nilFunc], none⟩
def ti139 : TI := ⟨.other, 1, 8, [.nilFunc], none⟩
def ti140 : TI := ⟨.other, 1, 8, [.nilFunc], none⟩
def ti141 : TI := ⟨.other, 1, 8, [.nilFunc], none⟩
def ti142 : TI := ⟨.st [(0, 22), (1, 3)], 2, 32, [.slice none 0 0, .int .i64 0], none⟩
def ti143 : TI := ⟨.st [(0, 22), (1, 3)], 2, 32, [.slice none 0 0, .int .i64 0], none⟩
def ti144 : TI := ⟨.other, 1, 8, [.nilFunc], none⟩
def ti145 : TI := ⟨.other, 1, 8, [.nilFunc], none⟩
def ti146 : TI := ⟨.other, 1, 8, [.nilFunc], none⟩
def ti147 : TI := ⟨.other, 1, 8, [.nilFunc], none⟩
def ti148 : TI := ⟨.other, 1, 8, [.nilFunc], none⟩
def ti149 : TI := ⟨.other, 1, 8, [.nilFunc], none⟩
def ti150 : TI := ⟨.other, 1, 8, [.nilFunc], none⟩
def ti151 : TI := ⟨.other, 1, 8, [.nilFunc], none⟩
def ti152 : TI := ⟨.other, 1, 8, [.nilFunc], none⟩
def ti153 : TI := ⟨.other, 1, 8, [.nilFunc], none⟩
def ti154 : TI := ⟨.other, 1, 8, [.nilFunc], none⟩
def ti155 : TI := ⟨.other, 1, 8, [.nilFunc], none⟩
def ti157 : TI := ⟨.other, 1, 8, [.nilFunc], none⟩
def ti158 : TI := ⟨.other, 1, 8, [.nilFunc], none⟩
def ti159 : TI := ⟨.sl 209, 1, 24, [.slice none 0 0], none⟩
def ti160 : TI := ⟨.other, 1, 8, [.nilFunc], none⟩
def ti161 : TI := ⟨.other, 1, 8, [.nilFunc], none⟩
def ti162 : TI := ⟨.other, 1, 8, [.nilFunc], none⟩
def ti163 : TI := ⟨.other, 1, 8, [.nilFunc], none⟩
def ti164 : TI := ⟨.other, 1, 8, [.nilFunc], none⟩
def ti165 : TI := ⟨.other, 1, 8, [.nilFunc], none⟩
def ti166 : TI := ⟨.map 37 4, 1, 8, [.map none], none⟩
def ti167 : TI := ⟨.other, 1, 8, [.nilFunc], none⟩
def ti168 : TI := ⟨.sl 241, 1, 24, [.slice none 0 0], none⟩
def ti169 : TI := ⟨.sl 244, 1, 24, [.slice none 0 0], none⟩
def ti170 : TI := ⟨.sl 248, 1, 24, [.slice none 0 0], none⟩
def ti171 : TI := ⟨.st [(0, 168), (1, 169), (2, 170), (3, 3)], 4, 80, [.slice none 0 0, .slice none 0 0, .slice none 0 0, .int .i64 0], none⟩
def ti172 : TI := ⟨.st [(0, 168), (1, 169), (2, 170), (3, 3)], 4, 80, [.slice none 0 0, .slice none 0 0, .slice none 0 0, .int .i64 0], none⟩
def ti173 : TI := ⟨.st [(0, 9), (1, 172)], 5, 96, [.string ⟨#[]⟩, .slice none 0 0, .slice none 0 0, .slice none 0 0, .int .i64 0], none⟩
def ti174 : TI := ⟨.st [(0, 9), (1, 172)], 5, 96, [.string ⟨#[]⟩, .slice none 0 0, .slice none 0 0, .slice none 0 0, .int .i64 0], none⟩
def ti175 : TI := ⟨.other, 1, 8, [.nilFunc], none⟩
def ti176 : TI := ⟨.st [(0, 9), (1, 9), (2, 9), (3, 3)], 4, 56, [.string ⟨#[]⟩, .string ⟨#[]⟩, .string ⟨#[]⟩, .int .i64 0], some [(0, 9), (1, 9), (2, 9), (3, 3)]⟩
def ti177 : TI := ⟨.other, 1, 8, [.nilFunc], none⟩
def ti178 : TI := ⟨.other, 1, 8, [.nilFunc], none⟩
def ti179 : TI := ⟨.other, 1, 8, [.nilFunc], none⟩
def ti180 : TI := ⟨.other, 1, 8, [.nilFunc], none⟩
def ti181 : TI := ⟨.other, 1, 8, [.nilFunc], none⟩
def ti182 : TI := ⟨.other, 1, 8, [.nilFunc], none⟩
def ti183 : TI := ⟨.other, 1, 8, [.nilFunc], none⟩
def ti184 : TI := ⟨.other, 1, 8, [.nilFunc], none⟩
def ti185 : TI := ⟨.other, 1, 8, [.nilFunc], none⟩
def ti186 : TI := ⟨.other, 1, 8, [.nilFunc], none⟩
def ti187 : TI := ⟨.other, 1, 8, [.nilFunc], none⟩
def ti188 : TI := ⟨.other, 1, 8, [.nilFunc], none⟩
def ti189 : TI := ⟨.other, 1, 8, [.nilFunc], none⟩
def ti190 : TI := ⟨.other, 1, 8, [.nilFunc], none⟩
def ti191 : TI := ⟨.other, 1, 8, [.nilFunc], none⟩
def ti192 : TI := ⟨.other, 1, 8, [.nilFunc], none⟩
def ti194 : TI := ⟨.other, 1, 8, [.nilFunc], none⟩
def ti195 : TI := ⟨.other, 1, 8, [.nilFunc], none⟩
def ti196 : TI := ⟨.other, 1, 8, [.nilFunc], none⟩
def ti197 : TI := ⟨.other, 1, 8, [.nilFunc], none⟩
def ti198 : TI := ⟨.other, 1, 8, [.nilFunc], none⟩
def ti199 : TI := ⟨.other, 1, 8, [.nilFunc], none⟩
def ti200 : TI := ⟨.other, 1, 8, [.nilFunc], none⟩
def ti201 : TI := ⟨.other, 1, 8, [.nilFunc], none⟩
def ti202 : TI := ⟨.other, 1, 8, [.nilFunc], none⟩
def ti203 : TI := ⟨.other, 1, 8, [.nilFunc], none⟩
def ti204 : TI := ⟨.other, 1, 8, [.nilFunc], none⟩
def ti205 : TI := ⟨.other, 1, 8, [.nilFunc], none⟩
def ti206 : TI := ⟨.other, 1, 8, [.nilFunc], none⟩
def ti207 : TI := ⟨.other, 1, 8, [.nilFunc], none⟩
def ti208 : TI := ⟨.st [(0, 9), (1, 37)], 4, 48, [.string ⟨#[]⟩, .int .i64 0, .int .i64 0, .string ⟨#[]⟩], none⟩
def ti209 : TI := ⟨.st [(0, 9), (1, 37)], 4, 48, [.string ⟨#[]⟩, .int .i64 0, .int .i64 0, .string ⟨#[]⟩], some [(0, 9), (1, 37)]⟩
def ti210 : TI := ⟨.other, 1, 8, [.nilFunc], none⟩
def ti211 : TI := ⟨.other, 1, 8, [.nilFunc], none⟩
def ti212 : TI := ⟨.other, 1, 8, [.nilFunc], none⟩
def ti213 : TI := ⟨.other, 1, 8, [.nilFunc], none⟩
def ti214 : TI := ⟨.other, 1, 8, [.nilFunc], none⟩
def ti215 : TI := ⟨.other, 1, 8, [.nilFunc], none⟩
def ti216 : TI := ⟨.other, 1, 8, [.nilFunc], none⟩
def ti217 : TI := ⟨.other, 1, 8, [.nilFunc], none⟩
def ti218 : TI := ⟨.other, 1, 8, [.nilFunc], none⟩
def ti219 : TI := ⟨.other, 1, 8, [.nilFunc], none⟩
def ti220 : TI := ⟨.other, 1, 8, [.nilFunc], none⟩
def ti221 : TI := ⟨.other, 1, 8, [.nilFunc], none⟩
def ti222 : TI := ⟨.other, 1, 8, [.nilFunc], none⟩
def ti223 : TI := ⟨.other, 1, 8, [.nilFunc], none⟩
def ti224 : TI := ⟨.other, 1, 8, [.nilFunc], none⟩
def ti225 : TI := ⟨.other, 1, 8, [.nilFunc], none⟩
def ti226 : TI := ⟨.other, 1, 8, [.nilFunc], none⟩
def ti227 : TI := ⟨.other, 1, 8, [.nilFunc], none⟩
def ti228 : TI := ⟨.other, 1, 8, [.nilFunc], none⟩
def ti229 : TI := ⟨.other, 1, 8, [.nilFunc], none⟩
def ti230 : TI := ⟨.other, 1, 8, [.nilFunc], none⟩
def ti231 : TI := ⟨.other, 1, 8, [.nilFunc], none⟩
def ti233 : TI := ⟨.other, 1, 8, [.nilFunc], none⟩
def ti234 : TI := ⟨.other, 1, 16, [.nilIface], none⟩
def ti235 : TI := ⟨.other, 1, 16, [.nilIface], none⟩
def ti237 : TI := ⟨.other, 1, 8, [.nilFunc], none⟩
def ti238 : TI := ⟨.other, 1, 8, [.nilFunc], none⟩
def ti239 : TI := ⟨.st [(0, 3), (1, 3), (2, 9)], 3, 32, [.int .i64 0, .int .i64 0, .string ⟨#[]⟩], some [(0, 3), (1, 3), (2, 9)]⟩
def ti240 : TI := ⟨.st [(0, 9), (1, 3), (2, 4), (3, 4), (4, 239)], 7, 64, [.string ⟨#[]⟩, .int .i64 0, .bool false, .bool false, .int .i64 0, .int .i64 0, .string ⟨#[]⟩], none⟩
def ti241 : TI := ⟨.st [(0, 9), (1, 3), (2, 4), (3, 4), (4, 239)], 7, 64, [.string ⟨#[]⟩, .int .i64 0, .bool false, .bool false, .int .i64 0, .int .i64 0, .string ⟨#[]⟩], some [(0, 9), (1, 3), (2, 4), (3, 4), (4, 239)]⟩
def ti242 : TI := ⟨.other, 1, 8, [.nilFunc], none⟩
def ti243 : TI := ⟨.st [(0, 3), (1, 9), (2, 9), (3, 241)], 10, 104, [.int .i64 0, .string ⟨#[]⟩, .string ⟨#[]⟩, .string ⟨#[]⟩, .int .i64 0, .bool false, .bool false, .int .i64 0, .int .i64 0, .string ⟨#[]⟩], none⟩
def ti244 : TI := ⟨.st [(0, 3), (1, 9), (2, 9), (3, 241)], 10, 104, [.int .i64 0, .string ⟨#[]⟩, .string ⟨#[]⟩, .string ⟨#[]⟩, .int .i64 0, .bool false, .bool false, .int .i64 0, .int .i64 0, .string ⟨#[]⟩], some [(0, 3), (1, 9), (2, 9), (3, 241)]⟩
def ti245 : TI := ⟨.other, 1, 8, [.nilFunc], none⟩
def ti246 : TI := ⟨.sl 239, 1, 24, [.slice none 0 0], none⟩
def ti247 : TI := ⟨.st [(0, 3), (1, 3), (2, 246)], 3, 40, [.int .i64 0, .int .i64 0, .slice none 0 0], none⟩
def ti248 : TI := ⟨.st [(0, 3), (1, 3), (2, 246)], 3, 40, [.int .i64 0, .int .i64 0, .slice none 0 0], none⟩
def ti249 : TI := ⟨.other, 1, 8, [.nilFunc], none⟩
def ti250 : TI := ⟨.other, 1, 8, [.nilFunc], none⟩
def ti251 : TI := ⟨.other, 1, 8, [.nilFunc], none⟩
def ti252 : TI := ⟨.other, 1, 8, [.nilFunc], none⟩
def ti253 : TI := ⟨.other, 1, 8, [.nilFunc], none⟩
def ti254 : TI := ⟨.other, 1, 8, [.nilFunc], none⟩
def ti255 : TI := ⟨.other, 1, 8, [.nilFunc], none⟩
def ti256 : TI := ⟨.other, 1, 8, [.nilFunc], none⟩
def ti257 : TI := ⟨.other, 1, 8, [.nilFunc], none⟩
def ti258 : TI := ⟨.other, 1, 8, [.nilFunc], none⟩
def ti259 : TI := ⟨.other, 1, 8, [.nilFunc], none⟩
def ti260 : TI := ⟨.other, 1, 8, [.nilFunc], none⟩
def ti262 : TI := ⟨.int .u64, 1, 8, [.int .u64 0], none⟩
def ti263 : TI := ⟨.other, 1, 8, [.nilFunc], none⟩
def ti264 : TI := ⟨.other, 1, 8, [.nilFunc], none⟩
def ti266 : TI := ⟨.other, 1, 8, [.nilFunc], none⟩
def ti269 : TI := ⟨.other, 1, 8, [.nilFunc], none⟩
def ti270 : TI := ⟨.other, 1, 8, [.pointer none], none⟩
def ti271 : TI := ⟨.other, 1, 8, [.nilFunc], none⟩
def ti272 : TI := ⟨.other, 1, 8, [.nilFunc], none⟩
def ti273 : TI := ⟨.other, 1, 8, [.nilFunc], none⟩
def ti275 : TI := ⟨.int .u32, 1, 4, [.int .u32 0], none⟩
def ti277 : TI := ⟨.int .u64, 1, 8, [.int .u64 0], none⟩
def ti278 : TI := ⟨.other, 1, 8, [.nilFunc], none⟩
def ti280 : TI := ⟨.other, 1, 8, [.nilFunc], none⟩
def ti281 : TI := ⟨.other, 1, 8, [.nilFunc], none⟩
def ti282 : TI := ⟨.st [(0, 9), (1, 9), (2, 235)], 3, 48, [.string ⟨#[]⟩, .string ⟨#[]⟩, .nilIface], none⟩
def ti283 : TI := ⟨.st [(0, 9), (1, 9), (2, 235)], 3, 48, [.string ⟨#[]⟩, .string ⟨#[]⟩, .nilIface], none⟩
def ti284 : TI := ⟨.other, 1, 8, [.nilFunc], none⟩
def ti285 : TI := ⟨.other, 1, 8, [.nilFunc], none⟩
def ti286 : TI := ⟨.other, 1, 8, [.nilFunc], none⟩
def ti287 : TI := ⟨.other, 1, 8, [.pointer none], none⟩
def ti289 : TI := ⟨.st [(0, 9)], 1, 16, [.string ⟨#[]⟩], none⟩
def ti293 : TI := ⟨.other, 1, 8, [.nilFunc], none⟩
def ti299 : TI := ⟨.other, 1, 8, [.nilFunc], none⟩
def ti302 : TI := ⟨.other, 1, 8, [.nilFunc], none⟩
def ti307 : TI := ⟨.other, 1, 8, [.nilFunc], none⟩
def ti308 : TI := ⟨.other, 1, 8, [.pointer none], none⟩
def tl : List (Nat × TI) := [(1, ti1), (2, ti2), (3, ti3), (4, ti4), (5, ti5), (9, ti9), (12, ti12), (13, ti13), (20, ti20), (21, ti21), (22, ti22), (23, ti23), (24, ti24), (25, ti25), (26, ti26), (27, ti27), (28, ti28), (29, ti29), (30, ti30), (31, ti31), (33, ti33), (34, ti34), (35, ti35), (36, ti36), (37, ti37), (38, ti38), (39, ti39), (40, ti40), (41, ti41), (42, ti42), (43, ti43), (45, ti45), (46, ti46), (48, ti48), (49, ti49), (50, ti50), (51, ti51), (52, ti52), (53, ti53), (54, ti54), (55, ti55), (56, ti56), (57, ti57), (58, ti58), (59, ti59), (60, ti60), (61, ti61), (62, ti62), (63, ti63), (64, ti64), (65, ti65), (66, ti66), (67, ti67), (68, ti68), (69, ti69), (70, ti70), (71, ti71), (73, ti73), (74, ti74), (75, ti75), (76, ti76), (77, ti77), (78, ti78), (79, ti79), (80, ti80), (82, ti82), (83, ti83), (84, ti84), (85, ti85), (86, ti86), (87, ti87), (88, ti88), (89, ti89), (90, ti90), (92, ti92), (93, ti93), (94, ti94), (95, ti95), (96, ti96), (97, ti97), (98, ti98), (99, ti99), (100, ti100), (101, ti101), (102, ti102), (103, ti103), (104, ti104), (105, ti105), (106, ti106), (107, ti107), (108, ti108), (109, ti109), (110, ti110), (111, ti111), (112, ti112), (113, ti113), (114, ti114), (115, ti115), (116, ti116), (117, ti117), (118, ti118), (119, ti119), (120, ti120), (121, ti121), (122, ti122), (123, ti123), (124, ti124), (125, ti125), (126, ti126), (127, ti127), (128, ti128), (129, ti129), (130, ti130), (131, ti131), (132, ti132), (133, ti133), (134, ti134), (135, ti135), (137, ti137), (138, ti138), (139, ti139), (140, ti140), (141, ti141), (142, ti142), (143, ti143), (144, ti144), (145, ti145), (146, ti146), (147, ti147), (148, ti148), (149, ti149), (150, ti150), (151, ti151), (152, ti152), (153, ti153), (154, ti154), (155, ti155), (157, ti157), (158, ti158), (159, ti159), (160, ti160), (161, ti161), (162, ti162), (163, ti163), (164, ti164), (165, ti165), (166, ti166), (167, ti167), (168, ti168), (169, ti169), (170, ti170), (171, ti171), (172, ti172), (173, ti173), (174, ti174), (175, ti175), (176, ti176), (177, ti177), (178, ti178), (179, ti179), (180, ti180), (181, ti181), (182, ti182), (183, ti183), (184, ti184), (185, ti185), (186, ti186), (187, ti187), (188, ti188), (189, ti189), (190, ti190), (191, ti191), (192, ti192), (194, ti194), (195, ti195), (196, ti196), (197, ti197), (198, ti198), (199, ti199), (200, ti200), (201, ti201), (202, ti202), (203, ti203), (204, ti204), (205, ti205), (206, ti206), (207, ti207), (208, ti208), (209, ti209), (210, ti210), (211, ti211), (212, ti212), (213, ti213), (214, ti214), (215, ti215), (216, ti216), (217, ti217), (218, ti218), (219, ti219), (220, ti220), (221, ti221), (222, ti222), (223, ti223), (224, ti224), (225, ti225), (226, ti226), (227, ti227), (228, ti228), (229, ti229), (230, ti230), (231, ti231), (233, ti233), (234, ti234), (235, ti235), (237, ti237), (238, ti238), (239, ti239), (240, ti240), (241, ti241), (242, ti242), (243, ti243), (244, ti244), (245, ti245), (246, ti246), (247, ti247), (248, ti248), (249, ti249), (250, ti250), (251, ti251), (252, ti252), (253, ti253), (254, ti254), (255, ti255), (256, ti256), (257, ti257), (258, ti258), (259, ti259), (260, ti260), (262, ti262), (263, ti263), (264, ti264), (266, ti266), (269, ti269), (270, ti270), (271, ti271), (272, ti272), (273, ti273), (275, ti275), (277, ti277), (278, ti278), (280, ti280), (281, ti281), (282, ti282), (283, ti283), (284, ti284), (285, ti285), (286, ti286), (287, ti287), (289, ti289), (293, ti293), (299, ti299), (302, ti302), (307, ti307), (308, ti308)]
def Tb : Tab := fun t => (tl.find? (fun p => p.1 == t)).map (·.2)
def RowOk (p : Nat × TI) : Prop := (Tryz.prog.info? p.1).map (fun x => (x.size, x.bytes, x.zero.map (·.cells.toList))) = some (p.2.size, p.2.bytes, some p.2.zero) ∧ (Tryz.prog.underlying p.1).map dOf = some p.2.d ∧ p.2.zero.length = p.2.size ∧ (∀ z ∈ p.2.zero, z.oneCell' = true) ∧ ∀ fs, p.2.eqf = some fs → Tryz.prog.underlying p.1 = some (.struct (Tryz.prog.fieldsOf p.1)) ∧ Tryz.prog.stoodInHeld p.1 = false ∧ Tryz.prog.eqGuardType Tryz.prog.depth p.1 = false ∧ (Tryz.prog.fieldsOf p.1).toList.map (fun f => (f.name == "_", f.offset, f.type)) = fs.map (fun p => (false, p.1, p.2))
theorem ro1 : RowOk (1, ti1) := ⟨by show (Tryz.prog.info? 1).map _ = _; kernel_rfl, by show (Tryz.prog.underlying 1).map dOf = _; kernel_rfl, rfl, by simp [ti1, Value.oneCell'], fun fs h => by cases h⟩
theorem ro2 : RowOk (2, ti2) := ⟨by show (Tryz.prog.info? 2).map _ = _; kernel_rfl, by show (Tryz.prog.underlying 2).map dOf = _; kernel_rfl, rfl, by simp [ti2, Value.oneCell'], fun fs h => by cases h⟩
theorem ro3 : RowOk (3, ti3) := ⟨by show (Tryz.prog.info? 3).map _ = _; kernel_rfl, by show (Tryz.prog.underlying 3).map dOf = _; kernel_rfl, rfl, by simp [ti3, Value.oneCell'], fun fs h => by cases h⟩
theorem ro4 : RowOk (4, ti4) := ⟨by show (Tryz.prog.info? 4).map _ = _; kernel_rfl, by show (Tryz.prog.underlying 4).map dOf = _; kernel_rfl, rfl, by simp [ti4, Value.oneCell'], fun fs h => by cases h⟩
theorem ro5 : RowOk (5, ti5) := ⟨by show (Tryz.prog.info? 5).map _ = _; kernel_rfl, by show (Tryz.prog.underlying 5).map dOf = _; kernel_rfl, rfl, by simp [ti5, Value.oneCell'], fun fs h => by cases h⟩
theorem ro9 : RowOk (9, ti9) := ⟨by show (Tryz.prog.info? 9).map _ = _; kernel_rfl, by show (Tryz.prog.underlying 9).map dOf = _; kernel_rfl, rfl, by simp [ti9, Value.oneCell'], fun fs h => by cases h⟩
theorem ro12 : RowOk (12, ti12) := ⟨by show (Tryz.prog.info? 12).map _ = _; kernel_rfl, by show (Tryz.prog.underlying 12).map dOf = _; kernel_rfl, rfl, by simp [ti12, Value.oneCell'], fun fs h => by cases h⟩
theorem ro13 : RowOk (13, ti13) := ⟨by show (Tryz.prog.info? 13).map _ = _; kernel_rfl, by show (Tryz.prog.underlying 13).map dOf = _; kernel_rfl, rfl, by simp [ti13, Value.oneCell'], fun fs h => by cases h⟩
theorem ro20 : RowOk (20, ti20) := ⟨by show (Tryz.prog.info? 20).map _ = _; kernel_rfl, by show (Tryz.prog.underlying 20).map dOf = _; kernel_rfl, rfl, by simp [ti20, Value.oneCell'], fun fs h => by cases h⟩
theorem ro21 : RowOk (21, ti21) := ⟨by show (Tryz.prog.info? 21).map _ = _; kernel_rfl, by show (Tryz.prog.underlying 21).map dOf = _; kernel_rfl, rfl, by simp [ti21, Value.oneCell'], fun fs h => by cases h⟩
theorem ro22 : RowOk (22, ti22) := ⟨by show (Tryz.prog.info? 22).map _ = _; kernel_rfl, by show (Tryz.prog.underlying 22).map dOf = _; kernel_rfl, rfl, by simp [ti22, Value.oneCell'], fun fs h => by cases h⟩
theorem ro23 : RowOk (23, ti23) := ⟨by show (Tryz.prog.info? 23).map _ = _; kernel_rfl, by show (Tryz.prog.underlying 23).map dOf = _; kernel_rfl, rfl, by simp [ti23, Value.oneCell'], fun fs h => by cases h⟩
theorem ro24 : RowOk (24, ti24) := ⟨by show (Tryz.prog.info? 24).map _ = _; kernel_rfl, by show (Tryz.prog.underlying 24).map dOf = _; kernel_rfl, rfl, by simp [ti24, Value.oneCell'], fun fs h => by cases h⟩
theorem ro25 : RowOk (25, ti25) := ⟨by show (Tryz.prog.info? 25).map _ = _; kernel_rfl, by show (Tryz.prog.underlying 25).map dOf = _; kernel_rfl, rfl, by simp [ti25, Value.oneCell'], fun fs h => by cases h⟩
theorem ro26 : RowOk (26, ti26) := ⟨by show (Tryz.prog.info? 26).map _ = _; kernel_rfl, by show (Tryz.prog.underlying 26).map dOf = _; kernel_rfl, rfl, by simp [ti26, Value.oneCell'], fun fs h => by cases h⟩
theorem ro27 : RowOk (27, ti27) := ⟨by show (Tryz.prog.info? 27).map _ = _; kernel_rfl, by show (Tryz.prog.underlying 27).map dOf = _; kernel_rfl, rfl, by simp [ti27, Value.oneCell'], fun fs h => by cases h⟩
theorem ro28 : RowOk (28, ti28) := ⟨by show (Tryz.prog.info? 28).map _ = _; kernel_rfl, by show (Tryz.prog.underlying 28).map dOf = _; kernel_rfl, rfl, by simp [ti28, Value.oneCell'], fun fs h => by cases h⟩
theorem ro29 : RowOk (29, ti29) := ⟨by show (Tryz.prog.info? 29).map _ = _; kernel_rfl, by show (Tryz.prog.underlying 29).map dOf = _; kernel_rfl, rfl, by simp [ti29, Value.oneCell'], fun fs h => by cases h⟩
theorem ro30 : RowOk (30, ti30) := ⟨by show (Tryz.prog.info? 30).map _ = _; kernel_rfl, by show (Tryz.prog.underlying 30).map dOf = _; kernel_rfl, rfl, by simp [ti30, Value.oneCell'], fun fs h => by cases h⟩
theorem ro31 : RowOk (31, ti31) := ⟨by show (Tryz.prog.info? 31).map _ = _; kernel_rfl, by show (Tryz.prog.underlying 31).map dOf = _; kernel_rfl, rfl, by simp [ti31, Value.oneCell'], fun fs h => by cases h⟩
theorem ro33 : RowOk (33, ti33) := ⟨by show (Tryz.prog.info? 33).map _ = _; kernel_rfl, by show (Tryz.prog.underlying 33).map dOf = _; kernel_rfl, rfl, by simp [ti33, Value.oneCell'], fun fs h => by cases h⟩
theorem ro34 : RowOk (34, ti34) := ⟨by show (Tryz.prog.info? 34).map _ = _; kernel_rfl, by show (Tryz.prog.underlying 34).map dOf = _; kernel_rfl, rfl, by simp [ti34, Value.oneCell'], fun fs h => by cases h⟩
theorem ro35 : RowOk (35, ti35) := ⟨by show (Tryz.prog.info? 35).map _ = _; kernel_rfl, by show (Tryz.prog.underlying 35).map dOf = _; kernel_rfl, rfl, by simp [ti35, Value.oneCell'], fun fs h => by cases h⟩
theorem ro36 : RowOk (36, ti36) := ⟨by show (Tryz.prog.info? 36).map _ = _; kernel_rfl, by show (Tryz.prog.underlying 36).map dOf = _; kernel_rfl, rfl, by simp [ti36, Value.oneCell'], fun fs h => by cases h⟩
theorem ro37 : RowOk (37, ti37) := ⟨by show (Tryz.prog.info? 37).map _ = _; kernel_rfl, by show (Tryz.prog.underlying 37).map dOf = _; kernel_rfl, rfl, by simp [ti37, Value.oneCell'], fun fs h => by cases h; exact ⟨by show Tryz.prog.underlying 37 = _; kernel_rfl, by show Tryz.prog.stoodInHeld 37 = false; kernel_rfl, by show Tryz.prog.eqGuardType Tryz.prog.depth 37 = false; kernel_rfl, by kernel_rfl⟩⟩
theorem ro38 : RowOk (38, ti38) := ⟨by show (Tryz.prog.info? 38).map _ = _; kernel_rfl, by show (Tryz.prog.underlying 38).map dOf = _; kernel_rfl, rfl, by simp [ti38, Value.oneCell'], fun fs h => by cases h⟩
theorem ro39 : RowOk (39, ti39) := ⟨by show (Tryz.prog.info? 39).map _ = _; kernel_rfl, by show (Tryz.prog.underlying 39).map dOf = _; kernel_rfl, rfl, by simp [ti39, Value.oneCell'], fun fs h => by cases h; exact ⟨by show Tryz.prog.underlying 39 = _; kernel_rfl, by show Tryz.prog.stoodInHeld 39 = false; kernel_rfl, by show Tryz.prog.eqGuardType Tryz.prog.depth 39 = false; kernel_rfl, by kernel_rfl⟩⟩
theorem ro40 : RowOk (40, ti40) := ⟨by show (Tryz.prog.info? 40).map _ = _; kernel_rfl, by show (Tryz.prog.underlying 40).map dOf = _; kernel_rfl, rfl, by simp [ti40, Value.oneCell'], fun fs h => by cases h⟩
theorem ro41 : RowOk (41, ti41) := ⟨by show (Tryz.prog.info? 41).map _ = _; kernel_rfl, by show (Tryz.prog.underlying 41).map dOf = _; kernel_rfl, rfl, by simp [ti41, Value.oneCell'], fun fs h => by cases h⟩
theorem ro42 : RowOk (42, ti42) := ⟨by show (Tryz.prog.info? 42).map _ = _; kernel_rfl, by show (Tryz.prog.underlying 42).map dOf = _; kernel_rfl, rfl, by simp [ti42, Value.oneCell'], fun fs h => by cases h⟩
theorem ro43 : RowOk (43, ti43) := ⟨by show (Tryz.prog.info? 43).map _ = _; kernel_rfl, by show (Tryz.prog.underlying 43).map dOf = _; kernel_rfl, rfl, by simp [ti43, Value.oneCell'], fun fs h => by cases h⟩
theorem ro45 : RowOk (45, ti45) := ⟨by show (Tryz.prog.info? 45).map _ = _; kernel_rfl, by show (Tryz.prog.underlying 45).map dOf = _; kernel_rfl, rfl, by simp [ti45, Value.oneCell'], fun fs h => by cases h⟩
theorem ro46 : RowOk (46, ti46) := ⟨by show (Tryz.prog.info? 46).map _ = _; kernel_rfl, by show (Tryz.prog.underlying 46).map dOf = _; kernel_rfl, rfl, by simp [ti46, Value.oneCell'], fun fs h => by cases h⟩
theorem ro48 : RowOk (48, ti48) := ⟨by show (Tryz.prog.info? 48).map _ = _; kernel_rfl, by show (Tryz.prog.underlying 48).map dOf = _; kernel_rfl, rfl, by simp [ti48, Value.oneCell'], fun fs h => by cases h⟩
theorem ro49 : RowOk (49, ti49) := ⟨by show (Tryz.prog.info? 49).map _ = _; kernel_rfl, by show (Tryz.prog.underlying 49).map dOf = _; kernel_rfl, rfl, by simp [ti49, Value.oneCell'], fun fs h => by cases h⟩
theorem ro50 : RowOk (50, ti50) := ⟨by show (Tryz.prog.info? 50).map _ = _; kernel_rfl, by show (Tryz.prog.underlying 50).map dOf = _; kernel_rfl, rfl, by simp [ti50, Value.oneCell'], fun fs h => by cases h⟩
theorem ro51 : RowOk (51, ti51) := ⟨by show (Tryz.prog.info? 51).map _ = _; kernel_rfl, by show (Tryz.prog.underlying 51).map dOf = _; kernel_rfl, rfl, by simp [ti51, Value.oneCell'], fun fs h => by cases h⟩
theorem ro52 : RowOk (52, ti52) := ⟨by show (Tryz.prog.info? 52).map _ = _; kernel_rfl, by show (Tryz.prog.underlying 52).map dOf = _; kernel_rfl, rfl, by simp [ti52, Value.oneCell'], fun fs h => by cases h⟩
theorem ro53 : RowOk (53, ti53) := ⟨by show (Tryz.prog.info? 53).map _ = _; kernel_rfl, by show (Tryz.prog.underlying 53).map dOf = _; kernel_rfl, rfl, by simp [ti53, Value.oneCell'], fun fs h => by cases h⟩
theorem ro54 : RowOk (54, ti54) := ⟨by show (Tryz.prog.info? 54).map _ = _; kernel_rfl, by show (Tryz.prog.underlying 54).map dOf = _; kernel_rfl, rfl, by simp [ti54, Value.oneCell'], fun fs h => by cases h⟩
theorem ro55 : RowOk (55, ti55) := ⟨by show (Tryz.prog.info? 55).map _ = _; kernel_rfl, by show (Tryz.prog.underlying 55).map dOf = _; kernel_rfl, rfl, by simp [ti55, Value.oneCell'], fun fs h => by cases h⟩
theorem ro56 : RowOk (56, ti56) := ⟨by show (Tryz.prog.info? 56).map _ = _; kernel_rfl, by show (Tryz.prog.underlying 56).map dOf = _; kernel_rfl, rfl, by simp [ti56, Value.oneCell'], fun fs h => by cases h⟩
theorem ro57 : RowOk (57, ti57) := ⟨by show (Tryz.prog.info? 57).map _ = _; kernel_rfl, by show (Tryz.prog.underlying 57).map dOf = _; kernel_rfl, rfl, by simp [ti57, Value.oneCell'], fun fs h => by cases h⟩
theorem ro58 : RowOk (58, ti58) := ⟨by show (Tryz.prog.info? 58).map _ = _; kernel_rfl, by show (Tryz.prog.underlying 58).map dOf = _; kernel_rfl, rfl, by simp [ti58, Value.oneCell'], fun fs h => by cases h⟩
theorem ro59 : RowOk (59, ti59) := ⟨by show (Tryz.prog.info? 59).map _ = _; kernel_rfl, by show (Tryz.prog.underlying 59).map dOf = _; kernel_rfl, rfl, by simp [ti59, Value.oneCell'], fun fs h => by cases h⟩
theorem ro60 : RowOk (60, ti60) := ⟨by show (Tryz.prog.info? 60).map _ = _; kernel_rfl, by show (Tryz.prog.underlying 60).map dOf = _; kernel_rfl, rfl, by simp [ti60, Value.oneCell'], fun fs h => by cases h⟩
theorem ro61 : RowOk (61, ti61) := ⟨by show (Tryz.prog.info? 61).map _ = _; kernel_rfl, by show (Tryz.prog.underlying 61).map dOf = _; kernel_rfl, rfl, by simp [ti61, Value.oneCell'], fun fs h => by cases h⟩
theorem ro62 : RowOk (62, ti62) := ⟨by show (Tryz.prog.info? 62).map _ = _; kernel_rfl, by show (Tryz.prog.underlying 62).map dOf = _; kernel_rfl, rfl, by simp [ti62, Value.oneCell'], fun fs h => by cases h⟩
theorem ro63 : RowOk (63, ti63) := ⟨by show (Tryz.prog.info? 63).map _ = _; kernel_rfl, by show (Tryz.prog.underlying 63).map dOf = _; kernel_rfl, rfl, by simp [ti63, Value.oneCell'], fun fs h => by cases h⟩
theorem ro64 : RowOk (64, ti64) := ⟨by show (Tryz.prog.info? 64).map _ = _; kernel_rfl, by show (Tryz.prog.underlying 64).map dOf = _; kernel_rfl, rfl, by simp [ti64, Value.oneCell'], fun fs h => by cases h⟩
theorem ro65 : RowOk (65, ti65) := ⟨by show (Tryz.prog.info? 65).map _ = _; kernel_rfl, by show (Tryz.prog.underlying 65).map dOf = _; kernel_rfl, rfl, by simp [ti65, Value.oneCell'], fun fs h => by cases h⟩
theorem ro66 : RowOk (66, ti66) := ⟨by show (Tryz.prog.info? 66).map _ = _; kernel_rfl, by show (Tryz.prog.underlying 66).map dOf = _; kernel_rfl, rfl, by simp [ti66, Value.oneCell'], fun fs h => by cases h⟩
theorem ro67 : RowOk (67, ti67) := ⟨by show (Tryz.prog.info? 67).map _ = _; kernel_rfl, by show (Tryz.prog.underlying 67).map dOf = _; kernel_rfl, rfl, by simp [ti67, Value.oneCell'], fun fs h => by cases h⟩
theorem ro68 : RowOk (68, ti68) := ⟨by show (Tryz.prog.info? 68).map _ = _; kernel_rfl, by show (Tryz.prog.underlying 68).map dOf = _; kernel_rfl, rfl, by simp [ti68, Value.oneCell'], fun fs h => by cases h⟩
theorem ro69 : RowOk (69, ti69) := ⟨by show (Tryz.prog.info? 69).map _ = _; kernel_rfl, by show (Tryz.prog.underlying 69).map dOf = _; kernel_rfl, rfl, by simp [ti69, Value.oneCell'], fun fs h => by cases h⟩
theorem ro70 : RowOk (70, ti70) := ⟨by show (Tryz.prog.info? 70).map _ = _; kernel_rfl, by show (Tryz.prog.underlying 70).map dOf = _; kernel_rfl, rfl, by simp [ti70, Value.oneCell'], fun fs h => by cases h⟩
theorem ro71 : RowOk (71, ti71) := ⟨by show (Tryz.prog.info? 71).map _ = _; kernel_rfl, by show (Tryz.prog.underlying 71).map dOf = _; kernel_rfl, rfl, by simp [ti71, Value.oneCell'], fun fs h => by cases h⟩
theorem ro73 : RowOk (73, ti73) := ⟨by show (Tryz.prog.info? 73).map _ = _; kernel_rfl, by show (Tryz.prog.underlying 73).map dOf = _; kernel_rfl, rfl, by simp [ti73, Value.oneCell'], fun fs h => by cases h⟩
theorem ro74 : RowOk (74, ti74) := ⟨by show (Tryz.prog.info? 74).map _ = _; kernel_rfl, by show (Tryz.prog.underlying 74).map dOf = _; kernel_rfl, rfl, by simp [ti74, Value.oneCell'], fun fs h => by cases h⟩
theorem ro75 : RowOk (75, ti75) := ⟨by show (Tryz.prog.info? 75).map _ = _; kernel_rfl, by show (Tryz.prog.underlying 75).map dOf = _; kernel_rfl, rfl, by simp [ti75, Value.oneCell'], fun fs h => by cases h; exact ⟨by show Tryz.prog.underlying 75 = _; kernel_rfl, by show Tryz.prog.stoodInHeld 75 = false; kernel_rfl, by show Tryz.prog.eqGuardType Tryz.prog.depth 75 = false; kernel_rfl, by kernel_rfl⟩⟩
theorem ro76 : RowOk (76, ti76) := ⟨by show (Tryz.prog.info? 76).map _ = _; kernel_rfl, by show (Tryz.prog.underlying 76).map dOf = _; kernel_rfl, rfl, by simp [ti76, Value.oneCell'], fun fs h => by cases h⟩
theorem ro77 : RowOk (77, ti77) := ⟨by show (Tryz.prog.info? 77).map _ = _; kernel_rfl, by show (Tryz.prog.underlying 77).map dOf = _; kernel_rfl, rfl, by simp [ti77, Value.oneCell'], fun fs h => by cases h⟩
theorem ro78 : RowOk (78, ti78) := ⟨by show (Tryz.prog.info? 78).map _ = _; kernel_rfl, by show (Tryz.prog.underlying 78).map dOf = _; kernel_rfl, rfl, by simp [ti78, Value.oneCell'], fun fs h => by cases h⟩
theorem ro79 : RowOk (79, ti79) := ⟨by show (Tryz.prog.info? 79).map _ = _; kernel_rfl, by show (Tryz.prog.underlying 79).map dOf = _; kernel_rfl, rfl, by simp [ti79, Value.oneCell'], fun fs h => by cases h; exact ⟨by show Tryz.prog.underlying 79 = _; kernel_rfl, by show Tryz.prog.stoodInHeld 79 = false; kernel_rfl, by show Tryz.prog.eqGuardType Tryz.prog.depth 79 = false; kernel_rfl, by kernel_rfl⟩⟩
theorem ro80 : RowOk (80, ti80) := ⟨by show (Tryz.prog.info? 80).map _ = _; kernel_rfl, by show (Tryz.prog.underlying 80).map dOf = _; kernel_rfl, rfl, by simp [ti80, Value.oneCell'], fun fs h => by cases h⟩
theorem ro82 : RowOk (82, ti82) := ⟨by show (Tryz.prog.info? 82).map _ = _; kernel_rfl, by show (Tryz.prog.underlying 82).map dOf = _; kernel_rfl, rfl, by simp [ti82, Value.oneCell'], fun fs h => by cases h⟩
theorem ro83 : RowOk (83, ti83) := ⟨by show (Tryz.prog.info? 83).map _ = _; kernel_rfl, by show (Tryz.prog.underlying 83).map dOf = _; kernel_rfl, rfl, by simp [ti83, Value.oneCell'], fun fs h => by cases h⟩
theorem ro84 : RowOk (84, ti84) := ⟨by show (Tryz.prog.info? 84).map _ = _; kernel_rfl, by show (Tryz.prog.underlying 84).map dOf = _; kernel_rfl, rfl, by simp [ti84, Value.oneCell'], fun fs h => by cases h⟩
theorem ro85 : RowOk (85, ti85) := ⟨by show (Tryz.prog.info? 85).map _ = _; kernel_rfl, by show (Tryz.prog.underlying 85).map dOf = _; kernel_rfl, rfl, by simp [ti85, Value.oneCell'], fun fs h => by cases h⟩
theorem ro86 : RowOk (86, ti86) := ⟨by show (Tryz.prog.info? 86).map _ = _; kernel_rfl, by show (Tryz.prog.underlying 86).map dOf = _; kernel_rfl, rfl, by simp [ti86, Value.oneCell'], fun fs h => by cases h⟩
theorem ro87 : RowOk (87, ti87) := ⟨by show (Tryz.prog.info? 87).map _ = _; kernel_rfl, by show (Tryz.prog.underlying 87).map dOf = _; kernel_rfl, rfl, by simp [ti87, Value.oneCell'], fun fs h => by cases h⟩
theorem ro88 : RowOk (88, ti88) := ⟨by show (Tryz.prog.info? 88).map _ = _; kernel_rfl, by show (Tryz.prog.underlying 88).map dOf = _; kernel_rfl, rfl, by simp [ti88, Value.oneCell'], fun fs h => by cases h⟩
theorem ro89 : RowOk (89, ti89) := ⟨by show (Tryz.prog.info? 89).map _ = _; kernel_rfl, by show (Tryz.prog.underlying 89).map dOf = _; kernel_rfl, rfl, by simp [ti89, Value.oneCell'], fun fs h => by cases h⟩
theorem ro90 : RowOk (90, ti90) := ⟨by show (Tryz.prog.info? 90).map _ = _; kernel_rfl, by show (Tryz.prog.underlying 90).map dOf = _; kernel_rfl, rfl, by simp [ti90, Value.oneCell'], fun fs h => by cases h⟩
theorem ro92 : RowOk (92, ti92) := ⟨by show (Tryz.prog.info? 92).map _ = _; kernel_rfl, by show (Tryz.prog.underlying 92).map dOf = _; kernel_rfl, rfl, by simp [ti92, Value.oneCell'], fun fs h => by cases h⟩
theorem ro93 : RowOk (93, ti93) := ⟨by show (Tryz.prog.info? 93).map _ = _; kernel_rfl, by show (Tryz.prog.underlying 93).map dOf = _; kernel_rfl, rfl, by simp [ti93, Value.oneCell'], fun fs h => by cases h⟩
theorem ro94 : RowOk (94, ti94) := ⟨by show (Tryz.prog.info? 94).map _ = _; kernel_rfl, by show (Tryz.prog.underlying 94).map dOf = _; kernel_rfl, rfl, by simp [ti94, Value.oneCell'], fun fs h => by cases h⟩
theorem ro95 : RowOk (95, ti95) := ⟨by show (Tryz.prog.info? 95).map _ = _; kernel_rfl, by show (Tryz.prog.underlying 95).map dOf = _; kernel_rfl, rfl, by simp [ti95, Value.oneCell'], fun fs h => by cases h⟩
theorem ro96 : RowOk (96, ti96) := ⟨by show (Tryz.prog.info? 96).map _ = _; kernel_rfl, by show (Tryz.prog.underlying 96).map dOf = _; kernel_rfl, rfl, by simp [ti96, Value.oneCell'], fun fs h => by cases h⟩
theorem ro97 : RowOk (97, ti97) := ⟨by show (Tryz.prog.info? 97).map _ = _; kernel_rfl, by show (Tryz.prog.underlying 97).map dOf = _; kernel_rfl, rfl, by simp [ti97, Value.oneCell'], fun fs h => by cases h⟩
theorem ro98 : RowOk (98, ti98) := ⟨by show (Tryz.prog.info? 98).map _ = _; kernel_rfl, by show (Tryz.prog.underlying 98).map dOf = _; kernel_rfl, rfl, by simp [ti98, Value.oneCell'], fun fs h => by cases h⟩
theorem ro99 : RowOk (99, ti99) := ⟨by show (Tryz.prog.info? 99).map _ = _; kernel_rfl, by show (Tryz.prog.underlying 99).map dOf = _; kernel_rfl, rfl, by simp [ti99, Value.oneCell'], fun fs h => by cases h⟩
theorem ro100 : RowOk (100, ti100) := ⟨by show (Tryz.prog.info? 100).map _ = _; kernel_rfl, by show (Tryz.prog.underlying 100).map dOf = _; kernel_rfl, rfl, by simp [ti100, Value.oneCell'], fun fs h => by cases h⟩
theorem ro101 : RowOk (101, ti101) := ⟨by show (Tryz.prog.info? 101).map _ = _; kernel_rfl, by show (Tryz.prog.underlying 101).map dOf = _; kernel_rfl, rfl, by simp [ti101, Value.oneCell'], fun fs h => by cases h⟩
theorem ro102 : RowOk (102, ti102) := ⟨by show (Tryz.prog.info? 102).map _ = _; kernel_rfl, by show (Tryz.prog.underlying 102).map dOf = _; kernel_rfl, rfl, by simp [ti102, Value.oneCell'], fun fs h => by cases h⟩
theorem ro103 : RowOk (103, ti103) := ⟨by show (Tryz.prog.info? 103).map _ = _; kernel_rfl, by show (Tryz.prog.underlying 103).map dOf = _; kernel_rfl, rfl, by simp [ti103, Value.oneCell'], fun fs h => by cases h⟩
theorem ro104 : RowOk (104, ti104) := ⟨by show (Tryz.prog.info? 104).map _ = _; kernel_rfl, by show (Tryz.prog.underlying 104).map dOf = _; kernel_rfl, rfl, by simp [ti104, Value.oneCell'], fun fs h => by cases h⟩
theorem ro105 : RowOk (105, ti105) := ⟨by show (Tryz.prog.info? 105).map _ = _; kernel_rfl, by show (Tryz.prog.underlying 105).map dOf = _; kernel_rfl, rfl, by simp [ti105, Value.oneCell'], fun fs h => by cases h; exact ⟨by show Tryz.prog.underlying 105 = _; kernel_rfl, by show Tryz.prog.stoodInHeld 105 = false; kernel_rfl, by show Tryz.prog.eqGuardType Tryz.prog.depth 105 = false; kernel_rfl, by kernel_rfl⟩⟩
theorem ro106 : RowOk (106, ti106) := ⟨by show (Tryz.prog.info? 106).map _ = _; kernel_rfl, by show (Tryz.prog.underlying 106).map dOf = _; kernel_rfl, rfl, by simp [ti106, Value.oneCell'], fun fs h => by cases h⟩
theorem ro107 : RowOk (107, ti107) := ⟨by show (Tryz.prog.info? 107).map _ = _; kernel_rfl, by show (Tryz.prog.underlying 107).map dOf = _; kernel_rfl, rfl, by simp [ti107, Value.oneCell'], fun fs h => by cases h⟩
theorem ro108 : RowOk (108, ti108) := ⟨by show (Tryz.prog.info? 108).map _ = _; kernel_rfl, by show (Tryz.prog.underlying 108).map dOf = _; kernel_rfl, rfl, by simp [ti108, Value.oneCell'], fun fs h => by cases h⟩
theorem ro109 : RowOk (109, ti109) := ⟨by show (Tryz.prog.info? 109).map _ = _; kernel_rfl, by show (Tryz.prog.underlying 109).map dOf = _; kernel_rfl, rfl, by simp [ti109, Value.oneCell'], fun fs h => by cases h⟩
theorem ro110 : RowOk (110, ti110) := ⟨by show (Tryz.prog.info? 110).map _ = _; kernel_rfl, by show (Tryz.prog.underlying 110).map dOf = _; kernel_rfl, rfl, by simp [ti110, Value.oneCell'], fun fs h => by cases h⟩
theorem ro111 : RowOk (111, ti111) := ⟨by show (Tryz.prog.info? 111).map _ = _; kernel_rfl, by show (Tryz.prog.underlying 111).map dOf = _; kernel_rfl, rfl, by simp [ti111, Value.oneCell'], fun fs h => by cases h⟩
theorem ro112 : RowOk (112, ti112) := ⟨by show (Tryz.prog.info? 112).map _ = _; kernel_rfl, by show (Tryz.prog.underlying 112).map dOf = _; kernel_rfl, rfl, by simp [ti112, Value.oneCell'], fun fs h => by cases h⟩
theorem ro113 : RowOk (113, ti113) := ⟨by show (Tryz.prog.info? 113).map _ = _; kernel_rfl, by show (Tryz.prog.underlying 113).map dOf = _; kernel_rfl, rfl, by simp [ti113, Value.oneCell'], fun fs h => by cases h⟩
theorem ro114 : RowOk (114, ti114) := ⟨by show (Tryz.prog.info? 114).map _ = _; kernel_rfl, by show (Tryz.prog.underlying 114).map dOf = _; kernel_rfl, rfl, by simp [ti114, Value.oneCell'], fun fs h => by cases h⟩
theorem ro115 : RowOk (115, ti115) := ⟨by show (Tryz.prog.info? 115).map _ = _; kernel_rfl, by show (Tryz.prog.underlying 115).map dOf = _; kernel_rfl, rfl, by simp [ti115, Value.oneCell'], fun fs h => by cases h⟩
theorem ro116 : RowOk (116, ti116) := ⟨by show (Tryz.prog.info? 116).map _ = _; kernel_rfl, by show (Tryz.prog.underlying 116).map dOf = _; kernel_rfl, rfl, by simp [ti116, Value.oneCell'], fun fs h => by cases h⟩
theorem ro117 : RowOk (117, ti117) := ⟨by show (Tryz.prog.info? 117).map _ = _; kernel_rfl, by show (Tryz.prog.underlying 117).map dOf = _; kernel_rfl, rfl, by simp [ti117, Value.oneCell'], fun fs h => by cases h⟩
theorem ro118 : RowOk (118, ti118) := ⟨by show (Tryz.prog.info? 118).map _ = _; kernel_rfl, by show (Tryz.prog.underlying 118).map dOf = _; kernel_rfl, rfl, by simp [ti118, Value.oneCell'], fun fs h => by cases h⟩
theorem ro119 : RowOk (119, ti119) := ⟨by show (Tryz.prog.info? 119).map _ = _; kernel_rfl, by show (Tryz.prog.underlying 119).map dOf = _; kernel_rfl, rfl, by simp [ti119, Value.oneCell'], fun fs h => by cases h⟩
theorem ro120 : RowOk (120, ti120) := ⟨by show (Tryz.prog.info? 120).map _ = _; kernel_rfl, by show (Tryz.prog.underlying 120).map dOf = _; kernel_rfl, rfl, by simp [ti120, Value.oneCell'], fun fs h => by cases h⟩
theorem ro121 : RowOk (121, ti121) := ⟨by show (Tryz.prog.info? 121).map _ = _; kernel_rfl, by show (Tryz.prog.underlying 121).map dOf = _; kernel_rfl, rfl, by simp [ti121, Value.oneCell'], fun fs h => by cases h⟩
theorem ro122 : RowOk (122, ti122) := ⟨by show (Tryz.prog.info? 122).map _ = _; kernel_rfl, by show (Tryz.prog.underlying 122).map dOf = _; kernel_rfl, rfl, by simp [ti122, Value.oneCell'], fun fs h => by cases h⟩
theorem ro123 : RowOk (123, ti123) := ⟨by show (Tryz.prog.info? 123).map _ = _; kernel_rfl, by show (Tryz.prog.underlying 123).map dOf = _; kernel_rfl, rfl, by simp [ti123, Value.oneCell'], fun fs h => by cases h⟩
theorem ro124 : RowOk (124, ti124) := ⟨by show (Tryz.prog.info? 124).map _ = _; kernel_rfl, by show (Tryz.prog.underlying 124).map dOf = _; kernel_rfl, rfl, by simp [ti124, Value.oneCell'], fun fs h => by cases h⟩
theorem ro125 : RowOk (125, ti125) := ⟨by show (Tryz.prog.info? 125).map _ = _; kernel_rfl, by show (Tryz.prog.underlying 125).map dOf = _; kernel_rfl, rfl, by simp [ti125, Value.oneCell'], fun fs h => by cases h⟩
theorem ro126 : RowOk (126, ti126) := ⟨by show (Tryz.prog.info? 126).map _ = _; kernel_rfl, by show (Tryz.prog.underlying 126).map dOf = _; kernel_rfl, rfl, by simp [ti126, Value.oneCell'], fun fs h => by cases h⟩
theorem ro127 : RowOk (127, ti127) := ⟨by show (Tryz.prog.info? 127).map _ = _; kernel_rfl, by show (Tryz.prog.underlying 127).map dOf = _; kernel_rfl, rfl, by simp [ti127, Value.oneCell'], fun fs h => by cases h⟩
theorem ro128 : RowOk (128, ti128) := ⟨by show (Tryz.prog.info? 128).map _ = _; kernel_rfl, by show (Tryz.prog.underlying 128).map dOf = _; kernel_rfl, rfl, by simp [ti128, Value.oneCell'], fun fs h => by cases h⟩
theorem ro129 : RowOk (129, ti129) := ⟨by show (Tryz.prog.info? 129).map _ = _; kernel_rfl, by show (Tryz.prog.underlying 129).map dOf = _; kernel_rfl, rfl, by simp [ti129, Value.oneCell'], fun fs h => by cases h⟩
theorem ro130 : RowOk (130, ti130) := ⟨by show (Tryz.prog.info? 130).map _ = _; kernel_rfl, by show (Tryz.prog.underlying 130).map dOf = _; kernel_rfl, rfl, by simp [ti130, Value.oneCell'], fun fs h => by cases h⟩
theorem ro131 : RowOk (131, ti131) := ⟨by show (Tryz.prog.info? 131).map _ = _; kernel_rfl, by show (Tryz.prog.underlying 131).map dOf = _; kernel_rfl, rfl, by simp [ti131, Value.oneCell'], fun fs h => by cases h⟩
theorem ro132 : RowOk (132, ti132) := ⟨by show (Tryz.prog.info? 132).map _ = _; kernel_rfl, by show (Tryz.prog.underlying 132).map dOf = _; kernel_rfl, rfl, by simp [ti132, Value.oneCell'], fun fs h => by cases h⟩
theorem ro133 : RowOk (133, ti133) := ⟨by show (Tryz.prog.info? 133).map _ = _; kernel_rfl, by show (Tryz.prog.underlying 133).map dOf = _; kernel_rfl, rfl, by simp [ti133, Value.oneCell'], fun fs h => by cases h⟩
theorem ro134 : RowOk (134, ti134) := ⟨by show (Tryz.prog.info? 134).map _ = _; kernel_rfl, by show (Tryz.prog.underlying 134).map dOf = _; kernel_rfl, rfl, by simp [ti134, Value.oneCell'], fun fs h => by cases h⟩
theorem ro135 : RowOk (135, ti135) := ⟨by show (Tryz.prog.info? 135).map _ = _; kernel_rfl, by show (Tryz.prog.underlying 135).map dOf = _; kernel_rfl, rfl, by simp [ti135, Value.oneCell'], fun fs h => by cases h⟩
theorem ro137 : RowOk (137, ti137) := ⟨by show (Tryz.prog.info? 137).map _ = _; kernel_rfl, by show (Tryz.prog.underlying 137).map dOf = _; kernel_rfl, rfl, by simp [ti137, Value.oneCell'], fun fs h => by cases h⟩
theorem ro138 : RowOk (138, ti138) := ⟨by show (Tryz.prog.info? 138).map _ = _; kernel_rfl, by show (Tryz.prog.underlying 138).map dOf = _; kernel_rfl, rfl, by simp [ti138, Value.oneCell'], fun fs h => by cases h⟩
theorem ro139 : RowOk (139, ti139) := ⟨by show (Tryz.prog.info? 139).map _ = _; kernel_rfl, by show (Tryz.prog.underlying 139).map dOf = _; kernel_rfl, rfl, by simp [ti139, Value.oneCell'], fun fs h => by cases h⟩
theorem ro140 : RowOk (140, ti140) := ⟨by show (Tryz.prog.info? 140).map _ = _; kernel_rfl, by show (Tryz.prog.underlying 140).map dOf = _; kernel_rfl, rfl, by simp [ti140, Value.oneCell'], fun fs h => by cases h⟩
theorem ro141 : RowOk (141, ti141) := ⟨by show (Tryz.prog.info? 141).map _ = _; kernel_rfl, by show (Tryz.prog.underlying 141).map dOf = _; kernel_rfl, rfl, by simp [ti141, Value.oneCell'], fun fs h => by cases h⟩
theorem ro142 : RowOk (142, ti142) := ⟨by show (Tryz.prog.info? 142).map _ = _; kernel_rfl, by show (Tryz.prog.underlying 142).map dOf = _; kernel_rfl, rfl, by simp [ti142, Value.oneCell'], fun fs h => by cases h⟩
theorem ro143 : RowOk (143, ti143) := ⟨by show (Tryz.prog.info? 143).map _ = _; kernel_rfl, by show (Tryz.prog.underlying 143).map dOf = _; kernel_rfl, rfl, by simp [ti143, Value.oneCell'], fun fs h => by cases h⟩
theorem ro144 : RowOk (144, ti144) := ⟨by show (Tryz.prog.info? 144).map _ = _; kernel_rfl, by show (Tryz.prog.underlying 144).map dOf = _; kernel_rfl, rfl, by simp [ti144, Value.oneCell'], fun fs h => by cases h⟩
theorem ro145 : RowOk (145, ti145) := ⟨by show (Tryz.prog.info? 145).map _ = _; kernel_rfl, by show (Tryz.prog.underlying 145).map dOf = _; kernel_rfl, rfl, by simp [ti145, Value.oneCell'], fun fs h => by cases h⟩
theorem ro146 : RowOk (146, ti146) := ⟨by show (Tryz.prog.info? 146).map _ = _; kernel_rfl, by show (Tryz.prog.underlying 146).map dOf = _; kernel_rfl, rfl, by simp [ti146, Value.oneCell'], fun fs h => by cases h⟩
theorem ro147 : RowOk (147, ti147) := ⟨by show (Tryz.prog.info? 147).map _ = _; kernel_rfl, by show (Tryz.prog.underlying 147).map dOf = _; kernel_rfl, rfl, by simp [ti147, Value.oneCell'], fun fs h => by cases h⟩
theorem ro148 : RowOk (148, ti148) := ⟨by show (Tryz.prog.info? 148).map _ = _; kernel_rfl, by show (Tryz.prog.underlying 148).map dOf = _; kernel_rfl, rfl, by simp [ti148, Value.oneCell'], fun fs h => by cases h⟩
theorem ro149 : RowOk (149, ti149) := ⟨by show (Tryz.prog.info? 149).map _ = _; kernel_rfl, by show (Tryz.prog.underlying 149).map dOf = _; kernel_rfl, rfl, by simp [ti149, Value.oneCell'], fun fs h => by cases h⟩
theorem ro150 : RowOk (150, ti150) := ⟨by show (Tryz.prog.info? 150).map _ = _; kernel_rfl, by show (Tryz.prog.underlying 150).map dOf = _; kernel_rfl, rfl, by simp [ti150, Value.oneCell'], fun fs h => by cases h⟩
theorem ro151 : RowOk (151, ti151) := ⟨by show (Tryz.prog.info? 151).map _ = _; kernel_rfl, by show (Tryz.prog.underlying 151).map dOf = _; kernel_rfl, rfl, by simp [ti151, Value.oneCell'], fun fs h => by cases h⟩
theorem ro152 : RowOk (152, ti152) := ⟨by show (Tryz.prog.info? 152).map _ = _; kernel_rfl, by show (Tryz.prog.underlying 152).map dOf = _; kernel_rfl, rfl, by simp [ti152, Value.oneCell'], fun fs h => by cases h⟩
theorem ro153 : RowOk (153, ti153) := ⟨by show (Tryz.prog.info? 153).map _ = _; kernel_rfl, by show (Tryz.prog.underlying 153).map dOf = _; kernel_rfl, rfl, by simp [ti153, Value.oneCell'], fun fs h => by cases h⟩
theorem ro154 : RowOk (154, ti154) := ⟨by show (Tryz.prog.info? 154).map _ = _; kernel_rfl, by show (Tryz.prog.underlying 154).map dOf = _; kernel_rfl, rfl, by simp [ti154, Value.oneCell'], fun fs h => by cases h⟩
theorem ro155 : RowOk (155, ti155) := ⟨by show (Tryz.prog.info? 155).map _ = _; kernel_rfl, by show (Tryz.prog.underlying 155).map dOf = _; kernel_rfl, rfl, by simp [ti155, Value.oneCell'], fun fs h => by cases h⟩
theorem ro157 : RowOk (157, ti157) := ⟨by show (Tryz.prog.info? 157).map _ = _; kernel_rfl, by show (Tryz.prog.underlying 157).map dOf = _; kernel_rfl, rfl, by simp [ti157, Value.oneCell'], fun fs h => by cases h⟩
theorem ro158 : RowOk (158, ti158) := ⟨by show (Tryz.prog.info? 158).map _ = _; kernel_rfl, by show (Tryz.prog.underlying 158).map dOf = _; kernel_rfl, rfl, by simp [ti158, Value.oneCell'], fun fs h => by cases h⟩
theorem ro159 : RowOk (159, ti159) := ⟨by show (Tryz.prog.info? 159).map _ = _; kernel_rfl, by show (Tryz.prog.underlying 159).map dOf = _; kernel_rfl, rfl, by simp [ti159, Value.oneCell'], fun fs h => by cases h⟩
theorem ro160 : RowOk (160, ti160) := ⟨by show (Tryz.prog.info? 160).map _ = _; kernel_rfl, by show (Tryz.prog.underlying 160).map dOf = _; kernel_rfl, rfl, by simp [ti160, Value.oneCell'], fun fs h => by cases h⟩
theorem ro161 : RowOk (161, ti161) := ⟨by show (Tryz.prog.info? 161).map _ = _; kernel_rfl, by show (Tryz.prog.underlying 161).map dOf = _; kernel_rfl, rfl, by simp [ti161, Value.oneCell'], fun fs h => by cases h⟩
theorem ro162 : RowOk (162, ti162) := ⟨by show (Tryz.prog.info? 162).map _ = _; kernel_rfl, by show (Tryz.prog.underlying 162).map dOf = _; kernel_rfl, rfl, by simp [ti162, Value.oneCell'], fun fs h => by cases h⟩
theorem ro163 : RowOk (163, ti163) := ⟨by show (Tryz.prog.info? 163).map _ = _; kernel_rfl, by show (Tryz.prog.underlying 163).map dOf = _; kernel_rfl, rfl, by simp [ti163, Value.oneCell'], fun fs h => by cases h⟩
theorem ro164 : RowOk (164, ti164) := ⟨by show (Tryz.prog.info? 164).map _ = _; kernel_rfl, by show (Tryz.prog.underlying 164).map dOf = _; kernel_rfl, rfl, by simp [ti164, Value.oneCell'], fun fs h => by cases h⟩
theorem ro165 : RowOk (165, ti165) := ⟨by show (Tryz.prog.info? 165).map _ = _; kernel_rfl, by show (Tryz.prog.underlying 165).map dOf = _; kernel_rfl, rfl, by simp [ti165, Value.oneCell'], fun fs h => by cases h⟩
theorem ro166 : RowOk (166, ti166) := ⟨by show (Tryz.prog.info? 166).map _ = _; kernel_rfl, by show (Tryz.prog.underlying 166).map dOf = _; kernel_rfl, rfl, by simp [ti166, Value.oneCell'], fun fs h => by cases h⟩
theorem ro167 : RowOk (167, ti167) := ⟨by show (Tryz.prog.info? 167).map _ = _; kernel_rfl, by show (Tryz.prog.underlying 167).map dOf = _; kernel_rfl, rfl, by simp [ti167, Value.oneCell'], fun fs h => by cases h⟩
theorem ro168 : RowOk (168, ti168) := ⟨by show (Tryz.prog.info? 168).map _ = _; kernel_rfl, by show (Tryz.prog.underlying 168).map dOf = _; kernel_rfl, rfl, by simp [ti168, Value.oneCell'], fun fs h => by cases h⟩
theorem ro169 : RowOk (169, ti169) := ⟨by show (Tryz.prog.info? 169).map _ = _; kernel_rfl, by show (Tryz.prog.underlying 169).map dOf = _; kernel_rfl, rfl, by simp [ti169, Value.oneCell'], fun fs h => by cases h⟩
theorem ro170 : RowOk (170, ti170) := ⟨by show (Tryz.prog.info? 170).map _ = _; kernel_rfl, by show (Tryz.prog.underlying 170).map dOf = _; kernel_rfl, rfl, by simp [ti170, Value.oneCell'], fun fs h => by cases h⟩
theorem ro171 : RowOk (171, ti171) := ⟨by show (Tryz.prog.info? 171).map _ = _; kernel_rfl, by show (Tryz.prog.underlying 171).map dOf = _; kernel_rfl, rfl, by simp [ti171, Value.oneCell'], fun fs h => by cases h⟩
theorem ro172 : RowOk (172, ti172) := ⟨by show (Tryz.prog.info? 172).map _ = _; kernel_rfl, by show (Tryz.prog.underlying 172).map dOf = _; kernel_rfl, rfl, by simp [ti172, Value.oneCell'], fun fs h => by cases h⟩
theorem ro173 : RowOk (173, ti173) := ⟨by show (Tryz.prog.info? 173).map _ = _; kernel_rfl, by show (Tryz.prog.underlying 173).map dOf = _; kernel_rfl, rfl, by simp [ti173, Value.oneCell'], fun fs h => by cases h⟩
theorem ro174 : RowOk (174, ti174) := ⟨by show (Tryz.prog.info? 174).map _ = _; kernel_rfl, by show (Tryz.prog.underlying 174).map dOf = _; kernel_rfl, rfl, by simp [ti174, Value.oneCell'], fun fs h => by cases h⟩
theorem ro175 : RowOk (175, ti175) := ⟨by show (Tryz.prog.info? 175).map _ = _; kernel_rfl, by show (Tryz.prog.underlying 175).map dOf = _; kernel_rfl, rfl, by simp [ti175, Value.oneCell'], fun fs h => by cases h⟩
theorem ro176 : RowOk (176, ti176) := ⟨by show (Tryz.prog.info? 176).map _ = _; kernel_rfl, by show (Tryz.prog.underlying 176).map dOf = _; kernel_rfl, rfl, by simp [ti176, Value.oneCell'], fun fs h => by cases h; exact ⟨by show Tryz.prog.underlying 176 = _; kernel_rfl, by show Tryz.prog.stoodInHeld 176 = false; kernel_rfl, by show Tryz.prog.eqGuardType Tryz.prog.depth 176 = false; kernel_rfl, by kernel_rfl⟩⟩
theorem ro177 : RowOk (177, ti177) := ⟨by show (Tryz.prog.info? 177).map _ = _; kernel_rfl, by show (Tryz.prog.underlying 177).map dOf = _; kernel_rfl, rfl, by simp [ti177, Value.oneCell'], fun fs h => by cases h⟩
theorem ro178 : RowOk (178, ti178) := ⟨by show (Tryz.prog.info? 178).map _ = _; kernel_rfl, by show (Tryz.prog.underlying 178).map dOf = _; kernel_rfl, rfl, by simp [ti178, Value.oneCell'], fun fs h => by cases h⟩
theorem ro179 : RowOk (179, ti179) := ⟨by show (Tryz.prog.info? 179).map _ = _; kernel_rfl, by show (Tryz.prog.underlying 179).map dOf = _; kernel_rfl, rfl, by simp [ti179, Value.oneCell'], fun fs h => by cases h⟩
theorem ro180 : RowOk (180, ti180) := ⟨by show (Tryz.prog.info? 180).map _ = _; kernel_rfl, by show (Tryz.prog.underlying 180).map dOf = _; kernel_rfl, rfl, by simp [ti180, Value.oneCell'], fun fs h => by cases h⟩
theorem ro181 : RowOk (181, ti181) := ⟨by show (Tryz.prog.info? 181).map _ = _; kernel_rfl, by show (Tryz.prog.underlying 181).map dOf = _; kernel_rfl, rfl, by simp [ti181, Value.oneCell'], fun fs h => by cases h⟩
theorem ro182 : RowOk (182, ti182) := ⟨by show (Tryz.prog.info? 182).map _ = _; kernel_rfl, by show (Tryz.prog.underlying 182).map dOf = _; kernel_rfl, rfl, by simp [ti182, Value.oneCell'], fun fs h => by cases h⟩
theorem ro183 : RowOk (183, ti183) := ⟨by show (Tryz.prog.info? 183).map _ = _; kernel_rfl, by show (Tryz.prog.underlying 183).map dOf = _; kernel_rfl, rfl, by simp [ti183, Value.oneCell'], fun fs h => by cases h⟩
theorem ro184 : RowOk (184, ti184) := ⟨by show (Tryz.prog.info? 184).map _ = _; kernel_rfl, by show (Tryz.prog.underlying 184).map dOf = _; kernel_rfl, rfl, by simp [ti184, Value.oneCell'], fun fs h => by cases h⟩
theorem ro185 : RowOk (185, ti185) := ⟨by show (Tryz.prog.info? 185).map _ = _; kernel_rfl, by show (Tryz.prog.underlying 185).map dOf = _; kernel_rfl, rfl, by simp [ti185, Value.oneCell'], fun fs h => by cases h⟩
theorem ro186 : RowOk (186, ti186) := ⟨by show (Tryz.prog.info? 186).map _ = _; kernel_rfl, by show (Tryz.prog.underlying 186).map dOf = _; kernel_rfl, rfl, by simp [ti186, Value.oneCell'], fun fs h => by cases h⟩
theorem ro187 : RowOk (187, ti187) := ⟨by show (Tryz.prog.info? 187).map _ = _; kernel_rfl, by show (Tryz.prog.underlying 187).map dOf = _; kernel_rfl, rfl, by simp [ti187, Value.oneCell'], fun fs h => by cases h⟩
theorem ro188 : RowOk (188, ti188) := ⟨by show (Tryz.prog.info? 188).map _ = _; kernel_rfl, by show (Tryz.prog.underlying 188).map dOf = _; kernel_rfl, rfl, by simp [ti188, Value.oneCell'], fun fs h => by cases h⟩
theorem ro189 : RowOk (189, ti189) := ⟨by show (Tryz.prog.info? 189).map _ = _; kernel_rfl, by show (Tryz.prog.underlying 189).map dOf = _; kernel_rfl, rfl, by simp [ti189, Value.oneCell'], fun fs h => by cases h⟩
theorem ro190 : RowOk (190, ti190) := ⟨by show (Tryz.prog.info? 190).map _ = _; kernel_rfl, by show (Tryz.prog.underlying 190).map dOf = _; kernel_rfl, rfl, by simp [ti190, Value.oneCell'], fun fs h => by cases h⟩
theorem ro191 : RowOk (191, ti191) := ⟨by show (Tryz.prog.info? 191).map _ = _; kernel_rfl, by show (Tryz.prog.underlying 191).map dOf = _; kernel_rfl, rfl, by simp [ti191, Value.oneCell'], fun fs h => by cases h⟩
theorem ro192 : RowOk (192, ti192) := ⟨by show (Tryz.prog.info? 192).map _ = _; kernel_rfl, by show (Tryz.prog.underlying 192).map dOf = _; kernel_rfl, rfl, by simp [ti192, Value.oneCell'], fun fs h => by cases h⟩
theorem ro194 : RowOk (194, ti194) := ⟨by show (Tryz.prog.info? 194).map _ = _; kernel_rfl, by show (Tryz.prog.underlying 194).map dOf = _; kernel_rfl, rfl, by simp [ti194, Value.oneCell'], fun fs h => by cases h⟩
theorem ro195 : RowOk (195, ti195) := ⟨by show (Tryz.prog.info? 195).map _ = _; kernel_rfl, by show (Tryz.prog.underlying 195).map dOf = _; kernel_rfl, rfl, by simp [ti195, Value.oneCell'], fun fs h => by cases h⟩
theorem ro196 : RowOk (196, ti196) := ⟨by show (Tryz.prog.info? 196).map _ = _; kernel_rfl, by show (Tryz.prog.underlying 196).map dOf = _; kernel_rfl, rfl, by simp [ti196, Value.oneCell'], fun fs h => by cases h⟩
theorem ro197 : RowOk (197, ti197) := ⟨by show (Tryz.prog.info? 197).map _ = _; kernel_rfl, by show (Tryz.prog.underlying 197).map dOf = _; kernel_rfl, rfl, by simp [ti197, Value.oneCell'], fun fs h => by cases h⟩
theorem ro198 : RowOk (198, ti198) := ⟨by show (Tryz.prog.info? 198).map _ = _; kernel_rfl, by show (Tryz.prog.underlying 198).map dOf = _; kernel_rfl, rfl, by simp [ti198, Value.oneCell'], fun fs h => by cases h⟩
theorem ro199 : RowOk (199, ti199) := ⟨by show (Tryz.prog.info? 199).map _ = _; kernel_rfl, by show (Tryz.prog.underlying 199).map dOf = _; kernel_rfl, rfl, by simp [ti199, Value.oneCell'], fun fs h => by cases h⟩
theorem ro200 : RowOk (200, ti200) := ⟨by show (Tryz.prog.info? 200).map _ = _; kernel_rfl, by show (Tryz.prog.underlying 200).map dOf = _; kernel_rfl, rfl, by simp [ti200, Value.oneCell'], fun fs h => by cases h⟩
theorem ro201 : RowOk (201, ti201) := ⟨by show (Tryz.prog.info? 201).map _ = _; kernel_rfl, by show (Tryz.prog.underlying 201).map dOf = _; kernel_rfl, rfl, by simp [ti201, Value.oneCell'], fun fs h => by cases h⟩
theorem ro202 : RowOk (202, ti202) := ⟨by show (Tryz.prog.info? 202).map _ = _; kernel_rfl, by show (Tryz.prog.underlying 202).map dOf = _; kernel_rfl, rfl, by simp [ti202, Value.oneCell'], fun fs h => by cases h⟩
theorem ro203 : RowOk (203, ti203) := ⟨by show (Tryz.prog.info? 203).map _ = _; kernel_rfl, by show (Tryz.prog.underlying 203).map dOf = _; kernel_rfl, rfl, by simp [ti203, Value.oneCell'], fun fs h => by cases h⟩
theorem ro204 : RowOk (204, ti204) := ⟨by show (Tryz.prog.info? 204).map _ = _; kernel_rfl, by show (Tryz.prog.underlying 204).map dOf = _; kernel_rfl, rfl, by simp [ti204, Value.oneCell'], fun fs h => by cases h⟩
theorem ro205 : RowOk (205, ti205) := ⟨by show (Tryz.prog.info? 205).map _ = _; kernel_rfl, by show (Tryz.prog.underlying 205).map dOf = _; kernel_rfl, rfl, by simp [ti205, Value.oneCell'], fun fs h => by cases h⟩
theorem ro206 : RowOk (206, ti206) := ⟨by show (Tryz.prog.info? 206).map _ = _; kernel_rfl, by show (Tryz.prog.underlying 206).map dOf = _; kernel_rfl, rfl, by simp [ti206, Value.oneCell'], fun fs h => by cases h⟩
theorem ro207 : RowOk (207, ti207) := ⟨by show (Tryz.prog.info? 207).map _ = _; kernel_rfl, by show (Tryz.prog.underlying 207).map dOf = _; kernel_rfl, rfl, by simp [ti207, Value.oneCell'], fun fs h => by cases h⟩
theorem ro208 : RowOk (208, ti208) := ⟨by show (Tryz.prog.info? 208).map _ = _; kernel_rfl, by show (Tryz.prog.underlying 208).map dOf = _; kernel_rfl, rfl, by simp [ti208, Value.oneCell'], fun fs h => by cases h⟩
theorem ro209 : RowOk (209, ti209) := ⟨by show (Tryz.prog.info? 209).map _ = _; kernel_rfl, by show (Tryz.prog.underlying 209).map dOf = _; kernel_rfl, rfl, by simp [ti209, Value.oneCell'], fun fs h => by cases h; exact ⟨by show Tryz.prog.underlying 209 = _; kernel_rfl, by show Tryz.prog.stoodInHeld 209 = false; kernel_rfl, by show Tryz.prog.eqGuardType Tryz.prog.depth 209 = false; kernel_rfl, by kernel_rfl⟩⟩
theorem ro210 : RowOk (210, ti210) := ⟨by show (Tryz.prog.info? 210).map _ = _; kernel_rfl, by show (Tryz.prog.underlying 210).map dOf = _; kernel_rfl, rfl, by simp [ti210, Value.oneCell'], fun fs h => by cases h⟩
theorem ro211 : RowOk (211, ti211) := ⟨by show (Tryz.prog.info? 211).map _ = _; kernel_rfl, by show (Tryz.prog.underlying 211).map dOf = _; kernel_rfl, rfl, by simp [ti211, Value.oneCell'], fun fs h => by cases h⟩
theorem ro212 : RowOk (212, ti212) := ⟨by show (Tryz.prog.info? 212).map _ = _; kernel_rfl, by show (Tryz.prog.underlying 212).map dOf = _; kernel_rfl, rfl, by simp [ti212, Value.oneCell'], fun fs h => by cases h⟩
theorem ro213 : RowOk (213, ti213) := ⟨by show (Tryz.prog.info? 213).map _ = _; kernel_rfl, by show (Tryz.prog.underlying 213).map dOf = _; kernel_rfl, rfl, by simp [ti213, Value.oneCell'], fun fs h => by cases h⟩
theorem ro214 : RowOk (214, ti214) := ⟨by show (Tryz.prog.info? 214).map _ = _; kernel_rfl, by show (Tryz.prog.underlying 214).map dOf = _; kernel_rfl, rfl, by simp [ti214, Value.oneCell'], fun fs h => by cases h⟩
theorem ro215 : RowOk (215, ti215) := ⟨by show (Tryz.prog.info? 215).map _ = _; kernel_rfl, by show (Tryz.prog.underlying 215).map dOf = _; kernel_rfl, rfl, by simp [ti215, Value.oneCell'], fun fs h => by cases h⟩
theorem ro216 : RowOk (216, ti216) := ⟨by show (Tryz.prog.info? 216).map _ = _; kernel_rfl, by show (Tryz.prog.underlying 216).map dOf = _; kernel_rfl, rfl, by simp [ti216, Value.oneCell'], fun fs h => by cases h⟩
theorem ro217 : RowOk (217, ti217) := ⟨by show (Tryz.prog.info? 217).map _ = _; kernel_rfl, by show (Tryz.prog.underlying 217).map dOf = _; kernel_rfl, rfl, by simp [ti217, Value.oneCell'], fun fs h => by cases h⟩
theorem ro218 : RowOk (218, ti218) := ⟨by show (Tryz.prog.info? 218).map _ = _; kernel_rfl, by show (Tryz.prog.underlying 218).map dOf = _; kernel_rfl, rfl, by simp [ti218, Value.oneCell'], fun fs h => by cases h⟩
theorem ro219 : RowOk (219, ti219) := ⟨by show (Tryz.prog.info? 219).map _ = _; kernel_rfl, by show (Tryz.prog.underlying 219).map dOf = _; kernel_rfl, rfl, by simp [ti219, Value.oneCell'], fun fs h => by cases h⟩
theorem ro220 : RowOk (220, ti220) := ⟨by show (Tryz.prog.info? 220).map _ = _; kernel_rfl, by show (Tryz.prog.underlying 220).map dOf = _; kernel_rfl, rfl, by simp [ti220, Value.oneCell'], fun fs h => by cases h⟩
theorem ro221 : RowOk (221, ti221) := ⟨by show (Tryz.prog.info? 221).map _ = _; kernel_rfl, by show (Tryz.prog.underlying 221).map dOf = _; kernel_rfl, rfl, by simp [ti221, Value.oneCell'], fun fs h => by cases h⟩
theorem ro222 : RowOk (222, ti222) := ⟨by show (Tryz.prog.info? 222).map _ = _; kernel_rfl, by show (Tryz.prog.underlying 222).map dOf = _; kernel_rfl, rfl, by simp [ti222, Value.oneCell'], fun fs h => by cases h⟩
theorem ro223 : RowOk (223, ti223) := ⟨by show (Tryz.prog.info? 223).map _ = _; kernel_rfl, by show (Tryz.prog.underlying 223).map dOf = _; kernel_rfl, rfl, by simp [ti223, Value.oneCell'], fun fs h => by cases h⟩
theorem ro224 : RowOk (224, ti224) := ⟨by show (Tryz.prog.info? 224).map _ = _; kernel_rfl, by show (Tryz.prog.underlying 224).map dOf = _; kernel_rfl, rfl, by simp [ti224, Value.oneCell'], fun fs h => by cases h⟩
theorem ro225 : RowOk (225, ti225) := ⟨by show (Tryz.prog.info? 225).map _ = _; kernel_rfl, by show (Tryz.prog.underlying 225).map dOf = _; kernel_rfl, rfl, by simp [ti225, Value.oneCell'], fun fs h => by cases h⟩
theorem ro226 : RowOk (226, ti226) := ⟨by show (Tryz.prog.info? 226).map _ = _; kernel_rfl, by show (Tryz.prog.underlying 226).map dOf = _; kernel_rfl, rfl, by simp [ti226, Value.oneCell'], fun fs h => by cases h⟩
theorem ro227 : RowOk (227, ti227) := ⟨by show (Tryz.prog.info? 227).map _ = _; kernel_rfl, by show (Tryz.prog.underlying 227).map dOf = _; kernel_rfl, rfl, by simp [ti227, Value.oneCell'], fun fs h => by cases h⟩
theorem ro228 : RowOk (228, ti228) := ⟨by show (Tryz.prog.info? 228).map _ = _; kernel_rfl, by show (Tryz.prog.underlying 228).map dOf = _; kernel_rfl, rfl, by simp [ti228, Value.oneCell'], fun fs h => by cases h⟩
theorem ro229 : RowOk (229, ti229) := ⟨by show (Tryz.prog.info? 229).map _ = _; kernel_rfl, by show (Tryz.prog.underlying 229).map dOf = _; kernel_rfl, rfl, by simp [ti229, Value.oneCell'], fun fs h => by cases h⟩
theorem ro230 : RowOk (230, ti230) := ⟨by show (Tryz.prog.info? 230).map _ = _; kernel_rfl, by show (Tryz.prog.underlying 230).map dOf = _; kernel_rfl, rfl, by simp [ti230, Value.oneCell'], fun fs h => by cases h⟩
theorem ro231 : RowOk (231, ti231) := ⟨by show (Tryz.prog.info? 231).map _ = _; kernel_rfl, by show (Tryz.prog.underlying 231).map dOf = _; kernel_rfl, rfl, by simp [ti231, Value.oneCell'], fun fs h => by cases h⟩
theorem ro233 : RowOk (233, ti233) := ⟨by show (Tryz.prog.info? 233).map _ = _; kernel_rfl, by show (Tryz.prog.underlying 233).map dOf = _; kernel_rfl, rfl, by simp [ti233, Value.oneCell'], fun fs h => by cases h⟩
theorem ro234 : RowOk (234, ti234) := ⟨by show (Tryz.prog.info? 234).map _ = _; kernel_rfl, by show (Tryz.prog.underlying 234).map dOf = _; kernel_rfl, rfl, by simp [ti234, Value.oneCell'], fun fs h => by cases h⟩
theorem ro235 : RowOk (235, ti235) := ⟨by show (Tryz.prog.info? 235).map _ = _; kernel_rfl, by show (Tryz.prog.underlying 235).map dOf = _; kernel_rfl, rfl, by simp [ti235, Value.oneCell'], fun fs h => by cases h⟩
theorem ro237 : RowOk (237, ti237) := ⟨by show (Tryz.prog.info? 237).map _ = _; kernel_rfl, by show (Tryz.prog.underlying 237).map dOf = _; kernel_rfl, rfl, by simp [ti237, Value.oneCell'], fun fs h => by cases h⟩
theorem ro238 : RowOk (238, ti238) := ⟨by show (Tryz.prog.info? 238).map _ = _; kernel_rfl, by show (Tryz.prog.underlying 238).map dOf = _; kernel_rfl, rfl, by simp [ti238, Value.oneCell'], fun fs h => by cases h⟩
theorem ro239 : RowOk (239, ti239) := ⟨by show (Tryz.prog.info? 239).map _ = _; kernel_rfl, by show (Tryz.prog.underlying 239).map dOf = _; kernel_rfl, rfl, by simp [ti239, Value.oneCell'], fun fs h => by cases h; exact ⟨by show Tryz.prog.underlying 239 = _; kernel_rfl, by show Tryz.prog.stoodInHeld 239 = false; kernel_rfl, by show Tryz.prog.eqGuardType Tryz.prog.depth 239 = false; kernel_rfl, by kernel_rfl⟩⟩
theorem ro240 : RowOk (240, ti240) := ⟨by show (Tryz.prog.info? 240).map _ = _; kernel_rfl, by show (Tryz.prog.underlying 240).map dOf = _; kernel_rfl, rfl, by simp [ti240, Value.oneCell'], fun fs h => by cases h⟩
theorem ro241 : RowOk (241, ti241) := ⟨by show (Tryz.prog.info? 241).map _ = _; kernel_rfl, by show (Tryz.prog.underlying 241).map dOf = _; kernel_rfl, rfl, by simp [ti241, Value.oneCell'], fun fs h => by cases h; exact ⟨by show Tryz.prog.underlying 241 = _; kernel_rfl, by show Tryz.prog.stoodInHeld 241 = false; kernel_rfl, by show Tryz.prog.eqGuardType Tryz.prog.depth 241 = false; kernel_rfl, by kernel_rfl⟩⟩
theorem ro242 : RowOk (242, ti242) := ⟨by show (Tryz.prog.info? 242).map _ = _; kernel_rfl, by show (Tryz.prog.underlying 242).map dOf = _; kernel_rfl, rfl, by simp [ti242, Value.oneCell'], fun fs h => by cases h⟩
theorem ro243 : RowOk (243, ti243) := ⟨by show (Tryz.prog.info? 243).map _ = _; kernel_rfl, by show (Tryz.prog.underlying 243).map dOf = _; kernel_rfl, rfl, by simp [ti243, Value.oneCell'], fun fs h => by cases h⟩
theorem ro244 : RowOk (244, ti244) := ⟨by show (Tryz.prog.info? 244).map _ = _; kernel_rfl, by show (Tryz.prog.underlying 244).map dOf = _; kernel_rfl, rfl, by simp [ti244, Value.oneCell'], fun fs h => by cases h; exact ⟨by show Tryz.prog.underlying 244 = _; kernel_rfl, by show Tryz.prog.stoodInHeld 244 = false; kernel_rfl, by show Tryz.prog.eqGuardType Tryz.prog.depth 244 = false; kernel_rfl, by kernel_rfl⟩⟩
theorem ro245 : RowOk (245, ti245) := ⟨by show (Tryz.prog.info? 245).map _ = _; kernel_rfl, by show (Tryz.prog.underlying 245).map dOf = _; kernel_rfl, rfl, by simp [ti245, Value.oneCell'], fun fs h => by cases h⟩
theorem ro246 : RowOk (246, ti246) := ⟨by show (Tryz.prog.info? 246).map _ = _; kernel_rfl, by show (Tryz.prog.underlying 246).map dOf = _; kernel_rfl, rfl, by simp [ti246, Value.oneCell'], fun fs h => by cases h⟩
theorem ro247 : RowOk (247, ti247) := ⟨by show (Tryz.prog.info? 247).map _ = _; kernel_rfl, by show (Tryz.prog.underlying 247).map dOf = _; kernel_rfl, rfl, by simp [ti247, Value.oneCell'], fun fs h => by cases h⟩
theorem ro248 : RowOk (248, ti248) := ⟨by show (Tryz.prog.info? 248).map _ = _; kernel_rfl, by show (Tryz.prog.underlying 248).map dOf = _; kernel_rfl, rfl, by simp [ti248, Value.oneCell'], fun fs h => by cases h⟩
theorem ro249 : RowOk (249, ti249) := ⟨by show (Tryz.prog.info? 249).map _ = _; kernel_rfl, by show (Tryz.prog.underlying 249).map dOf = _; kernel_rfl, rfl, by simp [ti249, Value.oneCell'], fun fs h => by cases h⟩
theorem ro250 : RowOk (250, ti250) := ⟨by show (Tryz.prog.info? 250).map _ = _; kernel_rfl, by show (Tryz.prog.underlying 250).map dOf = _; kernel_rfl, rfl, by simp [ti250, Value.oneCell'], fun fs h => by cases h⟩
theorem ro251 : RowOk (251, ti251) := ⟨by show (Tryz.prog.info? 251).map _ = _; kernel_rfl, by show (Tryz.prog.underlying 251).map dOf = _; kernel_rfl, rfl, by simp [ti251, Value.oneCell'], fun fs h => by cases h⟩
theorem ro252 : RowOk (252, ti252) := ⟨by show (Tryz.prog.info? 252).map _ = _; kernel_rfl, by show (Tryz.prog.underlying 252).map dOf = _; kernel_rfl, rfl, by simp [ti252, Value.oneCell'], fun fs h => by cases h⟩
theorem ro253 : RowOk (253, ti253) := ⟨by show (Tryz.prog.info? 253).map _ = _; kernel_rfl, by show (Tryz.prog.underlying 253).map dOf = _; kernel_rfl, rfl, by simp [ti253, Value.oneCell'], fun fs h => by cases h⟩
theorem ro254 : RowOk (254, ti254) := ⟨by show (Tryz.prog.info? 254).map _ = _; kernel_rfl, by show (Tryz.prog.underlying 254).map dOf = _; kernel_rfl, rfl, by simp [ti254, Value.oneCell'], fun fs h => by cases h⟩
theorem ro255 : RowOk (255, ti255) := ⟨by show (Tryz.prog.info? 255).map _ = _; kernel_rfl, by show (Tryz.prog.underlying 255).map dOf = _; kernel_rfl, rfl, by simp [ti255, Value.oneCell'], fun fs h => by cases h⟩
theorem ro256 : RowOk (256, ti256) := ⟨by show (Tryz.prog.info? 256).map _ = _; kernel_rfl, by show (Tryz.prog.underlying 256).map dOf = _; kernel_rfl, rfl, by simp [ti256, Value.oneCell'], fun fs h => by cases h⟩
theorem ro257 : RowOk (257, ti257) := ⟨by show (Tryz.prog.info? 257).map _ = _; kernel_rfl, by show (Tryz.prog.underlying 257).map dOf = _; kernel_rfl, rfl, by simp [ti257, Value.oneCell'], fun fs h => by cases h⟩
theorem ro258 : RowOk (258, ti258) := ⟨by show (Tryz.prog.info? 258).map _ = _; kernel_rfl, by show (Tryz.prog.underlying 258).map dOf = _; kernel_rfl, rfl, by simp [ti258, Value.oneCell'], fun fs h => by cases h⟩
theorem ro259 : RowOk (259, ti259) := ⟨by show (Tryz.prog.info? 259).map _ = _; kernel_rfl, by show (Tryz.prog.underlying 259).map dOf = _; kernel_rfl, rfl, by simp [ti259, Value.oneCell'], fun fs h => by cases h⟩
theorem ro260 : RowOk (260, ti260) := ⟨by show (Tryz.prog.info? 260).map _ = _; kernel_rfl, by show (Tryz.prog.underlying 260).map dOf = _; kernel_rfl, rfl, by simp [ti260, Value.oneCell'], fun fs h => by cases h⟩
theorem ro262 : RowOk (262, ti262) := ⟨by show (Tryz.prog.info? 262).map _ = _; kernel_rfl, by show (Tryz.prog.underlying 262).map dOf = _; kernel_rfl, rfl, by simp [ti262, Value.oneCell'], fun fs h => by cases h⟩
theorem ro263 : RowOk (263, ti263) := ⟨by show (Tryz.prog.info? 263).map _ = _; kernel_rfl, by show (Tryz.prog.underlying 263).map dOf = _; kernel_rfl, rfl, by simp [ti263, Value.oneCell'], fun fs h => by cases h⟩
theorem ro264 : RowOk (264, ti264) := ⟨by show (Tryz.prog.info? 264).map _ = _; kernel_rfl, by show (Tryz.prog.underlying 264).map dOf = _; kernel_rfl, rfl, by simp [ti264, Value.oneCell'], fun fs h => by cases h⟩
theorem ro266 : RowOk (266, ti266) := ⟨by show (Tryz.prog.info? 266).map _ = _; kernel_rfl, by show (Tryz.prog.underlying 266).map dOf = _; kernel_rfl, rfl, by simp [ti266, Value.oneCell'], fun fs h => by cases h⟩
theorem ro269 : RowOk (269, ti269) := ⟨by show (Tryz.prog.info? 269).map _ = _; kernel_rfl, by show (Tryz.prog.underlying 269).map dOf = _; kernel_rfl, rfl, by simp [ti269, Value.oneCell'], fun fs h => by cases h⟩
theorem ro270 : RowOk (270, ti270) := ⟨by show (Tryz.prog.info? 270).map _ = _; kernel_rfl, by show (Tryz.prog.underlying 270).map dOf = _; kernel_rfl, rfl, by simp [ti270, Value.oneCell'], fun fs h => by cases h⟩
theorem ro271 : RowOk (271, ti271) := ⟨by show (Tryz.prog.info? 271).map _ = _; kernel_rfl, by show (Tryz.prog.underlying 271).map dOf = _; kernel_rfl, rfl, by simp [ti271, Value.oneCell'], fun fs h => by cases h⟩
theorem ro272 : RowOk (272, ti272) := ⟨by show (Tryz.prog.info? 272).map _ = _; kernel_rfl, by show (Tryz.prog.underlying 272).map dOf = _; kernel_rfl, rfl, by simp [ti272, Value.oneCell'], fun fs h => by cases h⟩
theorem ro273 : RowOk (273, ti273) := ⟨by show (Tryz.prog.info? 273).map _ = _; kernel_rfl, by show (Tryz.prog.underlying 273).map dOf = _; kernel_rfl, rfl, by simp [ti273, Value.oneCell'], fun fs h => by cases h⟩
theorem ro275 : RowOk (275, ti275) := ⟨by show (Tryz.prog.info? 275).map _ = _; kernel_rfl, by show (Tryz.prog.underlying 275).map dOf = _; kernel_rfl, rfl, by simp [ti275, Value.oneCell'], fun fs h => by cases h⟩
theorem ro277 : RowOk (277, ti277) := ⟨by show (Tryz.prog.info? 277).map _ = _; kernel_rfl, by show (Tryz.prog.underlying 277).map dOf = _; kernel_rfl, rfl, by simp [ti277, Value.oneCell'], fun fs h => by cases h⟩
theorem ro278 : RowOk (278, ti278) := ⟨by show (Tryz.prog.info? 278).map _ = _; kernel_rfl, by show (Tryz.prog.underlying 278).map dOf = _; kernel_rfl, rfl, by simp [ti278, Value.oneCell'], fun fs h => by cases h⟩
theorem ro280 : RowOk (280, ti280) := ⟨by show (Tryz.prog.info? 280).map _ = _; kernel_rfl, by show (Tryz.prog.underlying 280).map dOf = _; kernel_rfl, rfl, by simp [ti280, Value.oneCell'], fun fs h => by cases h⟩
theorem ro281 : RowOk (281, ti281) := ⟨by show (Tryz.prog.info? 281).map _ = _; kernel_rfl, by show (Tryz.prog.underlying 281).map dOf = _; kernel_rfl, rfl, by simp [ti281, Value.oneCell'], fun fs h => by cases h⟩
theorem ro282 : RowOk (282, ti282) := ⟨by show (Tryz.prog.info? 282).map _ = _; kernel_rfl, by show (Tryz.prog.underlying 282).map dOf = _; kernel_rfl, rfl, by simp [ti282, Value.oneCell'], fun fs h => by cases h⟩
theorem ro283 : RowOk (283, ti283) := ⟨by show (Tryz.prog.info? 283).map _ = _; kernel_rfl, by show (Tryz.prog.underlying 283).map dOf = _; kernel_rfl, rfl, by simp [ti283, Value.oneCell'], fun fs h => by cases h⟩
theorem ro284 : RowOk (284, ti284) := ⟨by show (Tryz.prog.info? 284).map _ = _; kernel_rfl, by show (Tryz.prog.underlying 284).map dOf = _; kernel_rfl, rfl, by simp [ti284, Value.oneCell'], fun fs h => by cases h⟩
theorem ro285 : RowOk (285, ti285) := ⟨by show (Tryz.prog.info? 285).map _ = _; kernel_rfl, by show (Tryz.prog.underlying 285).map dOf = _; kernel_rfl, rfl, by simp [ti285, Value.oneCell'], fun fs h => by cases h⟩
theorem ro286 : RowOk (286, ti286) := ⟨by show (Tryz.prog.info? 286).map _ = _; kernel_rfl, by show (Tryz.prog.underlying 286).map dOf = _; kernel_rfl, rfl, by simp [ti286, Value.oneCell'], fun fs h => by cases h⟩
theorem ro287 : RowOk (287, ti287) := ⟨by show (Tryz.prog.info? 287).map _ = _; kernel_rfl, by show (Tryz.prog.underlying 287).map dOf = _; kernel_rfl, rfl, by simp [ti287, Value.oneCell'], fun fs h => by cases h⟩
theorem ro289 : RowOk (289, ti289) := ⟨by show (Tryz.prog.info? 289).map _ = _; kernel_rfl, by show (Tryz.prog.underlying 289).map dOf = _; kernel_rfl, rfl, by simp [ti289, Value.oneCell'], fun fs h => by cases h⟩
theorem ro293 : RowOk (293, ti293) := ⟨by show (Tryz.prog.info? 293).map _ = _; kernel_rfl, by show (Tryz.prog.underlying 293).map dOf = _; kernel_rfl, rfl, by simp [ti293, Value.oneCell'], fun fs h => by cases h⟩
theorem ro299 : RowOk (299, ti299) := ⟨by show (Tryz.prog.info? 299).map _ = _; kernel_rfl, by show (Tryz.prog.underlying 299).map dOf = _; kernel_rfl, rfl, by simp [ti299, Value.oneCell'], fun fs h => by cases h⟩
theorem ro302 : RowOk (302, ti302) := ⟨by show (Tryz.prog.info? 302).map _ = _; kernel_rfl, by show (Tryz.prog.underlying 302).map dOf = _; kernel_rfl, rfl, by simp [ti302, Value.oneCell'], fun fs h => by cases h⟩
theorem ro307 : RowOk (307, ti307) := ⟨by show (Tryz.prog.info? 307).map _ = _; kernel_rfl, by show (Tryz.prog.underlying 307).map dOf = _; kernel_rfl, rfl, by simp [ti307, Value.oneCell'], fun fs h => by cases h⟩
theorem ro308 : RowOk (308, ti308) := ⟨by show (Tryz.prog.info? 308).map _ = _; kernel_rfl, by show (Tryz.prog.underlying 308).map dOf = _; kernel_rfl, rfl, by simp [ti308, Value.oneCell'], fun fs h => by cases h⟩
theorem tl_ok : ∀ p ∈ tl, RowOk p := by
  unfold tl
  exact List.forall_mem_cons.2 ⟨ro1, List.forall_mem_cons.2 ⟨ro2, List.forall_mem_cons.2 ⟨ro3, List.forall_mem_cons.2 ⟨ro4, List.forall_mem_cons.2 ⟨ro5, List.forall_mem_cons.2 ⟨ro9, List.forall_mem_cons.2 ⟨ro12, List.forall_mem_cons.2 ⟨ro13, List.forall_mem_cons.2 ⟨ro20, List.forall_mem_cons.2 ⟨ro21, List.forall_mem_cons.2 ⟨ro22, List.forall_mem_cons.2 ⟨ro23, List.forall_mem_cons.2 ⟨ro24, List.forall_mem_cons.2 ⟨ro25, List.forall_mem_cons.2 ⟨ro26, List.forall_mem_cons.2 ⟨ro27, List.forall_mem_cons.2 ⟨ro28, List.forall_mem_cons.2 ⟨ro29, List.forall_mem_cons.2 ⟨ro30, List.forall_mem_cons.2 ⟨ro31, List.forall_mem_cons.2 ⟨ro33, List.forall_mem_cons.2 ⟨ro34, List.forall_mem_cons.2 ⟨ro35, List.forall_mem_cons.2 ⟨ro36, List.forall_mem_cons.2 ⟨ro37, List.forall_mem_cons.2 ⟨ro38, List.forall_mem_cons.2 ⟨ro39, List.forall_mem_cons.2 ⟨ro40, List.forall_mem_cons.2 ⟨ro41, List.forall_mem_cons.2 ⟨ro42, List.forall_mem_cons.2 ⟨ro43, List.forall_mem_cons.2 ⟨ro45, List.forall_mem_cons.2 ⟨ro46, List.forall_mem_cons.2 ⟨ro48, List.forall_mem_cons.2 ⟨ro49, List.forall_mem_cons.2 ⟨ro50, List.forall_mem_cons.2 ⟨ro51, List.forall_mem_cons.2 ⟨ro52, List.forall_mem_cons.2 ⟨ro53, List.forall_mem_cons.2 ⟨ro54, List.forall_mem_cons.2 ⟨ro55, List.forall_mem_cons.2 ⟨ro56, List.forall_mem_cons.2 ⟨ro57, List.forall_mem_cons.2 ⟨ro58, List.forall_mem_cons.2 ⟨ro59, List.forall_mem_cons.2 ⟨ro60, List.forall_mem_cons.2 ⟨ro61, List.forall_mem_cons.2 ⟨ro62, List.forall_mem_cons.2 ⟨ro63, List.forall_mem_cons.2 ⟨ro64, List.forall_mem_cons.2 ⟨ro65, List.forall_mem_cons.2 ⟨ro66, List.forall_mem_cons.2 ⟨ro67, List.forall_mem_cons.2 ⟨ro68, List.forall_mem_cons.2 ⟨ro69, List.forall_mem_cons.2 ⟨ro70, List.forall_mem_cons.2 ⟨ro71, List.forall_mem_cons.2 ⟨ro73, List.forall_mem_cons.2 ⟨ro74, List.forall_mem_cons.2 ⟨ro75, List.forall_mem_cons.2 ⟨ro76, List.forall_mem_cons.2 ⟨ro77, List.forall_mem_cons.2 ⟨ro78, List.forall_mem_cons.2 ⟨ro79, List.forall_mem_cons.2 ⟨ro80, List.forall_mem_cons.2 ⟨ro82, List.forall_mem_cons.2 ⟨ro83, List.forall_mem_cons.2 ⟨ro84, List.forall_mem_cons.2 ⟨ro85, List.forall_mem_cons.2 ⟨ro86, List.forall_mem_cons.2 ⟨ro87, List.forall_mem_cons.2 ⟨ro88, List.forall_mem_cons.2 ⟨ro89, List.forall_mem_cons.2 ⟨ro90, List.forall_mem_cons.2 ⟨ro92, List.forall_mem_cons.2 ⟨ro93, List.forall_mem_cons.2 ⟨ro94, List.forall_mem_cons.2 ⟨ro95, List.forall_mem_cons.2 ⟨ro96, List.forall_mem_cons.2 ⟨ro97, List.forall_mem_cons.2 ⟨ro98, List.forall_mem_cons.2 ⟨ro99, List.forall_mem_cons.2 ⟨ro100, List.forall_mem_cons.2 ⟨ro101, List.forall_mem_cons.2 ⟨ro102, List.forall_mem_cons.2 ⟨ro103, List.forall_mem_cons.2 ⟨ro104, List.forall_mem_cons.2 ⟨ro105, List.forall_mem_cons.2 ⟨ro106, List.forall_mem_cons.2 ⟨ro107, List.forall_mem_cons.2 ⟨ro108, List.forall_mem_cons.2 ⟨ro109, List.forall_mem_cons.2 ⟨ro110, List.forall_mem_cons.2 ⟨ro111, List.forall_mem_cons.2 ⟨ro112, List.forall_mem_cons.2 ⟨ro113, List.forall_mem_cons.2 ⟨ro114, List.forall_mem_cons.2 ⟨ro115, List.forall_mem_cons.2 ⟨ro116, List.forall_mem_cons.2 ⟨ro117, List.forall_mem_cons.2 ⟨ro118, List.forall_mem_cons.2 ⟨ro119, List.forall_mem_cons.2 ⟨ro120, List.forall_mem_cons.2 ⟨ro121, List.forall_mem_cons.2 ⟨ro122, List.forall_mem_cons.2 ⟨ro123, List.forall_mem_cons.2 ⟨ro124, List.forall_mem_cons.2 ⟨ro125, List.forall_mem_cons.2 ⟨ro126, List.forall_mem_cons.2 ⟨ro127, List.forall_mem_cons.2 ⟨ro128, List.forall_mem_cons.2 ⟨ro129, List.forall_mem_cons.2 ⟨ro130, List.forall_mem_cons.2 ⟨ro131, List.forall_mem_cons.2 ⟨ro132, List.forall_mem_cons.2 ⟨ro133, List.forall_mem_cons.2 ⟨ro134, List.forall_mem_cons.2 ⟨ro135, List.forall_mem_cons.2 ⟨ro137, List.forall_mem_cons.2 ⟨ro138, List.forall_mem_cons.2 ⟨ro139, List.forall_mem_cons.2 ⟨ro140, List.forall_mem_cons.2 ⟨ro141, List.forall_mem_cons.2 ⟨ro142, List.forall_mem_cons.2 ⟨ro143, List.forall_mem_cons.2 ⟨ro144, List.forall_mem_cons.2 ⟨ro145, List.forall_mem_cons.2 ⟨ro146, List.forall_mem_cons.2 ⟨ro147, List.forall_mem_cons.2 ⟨ro148, List.forall_mem_cons.2 ⟨ro149, List.forall_mem_cons.2 ⟨ro150, List.forall_mem_cons.2 ⟨ro151, List.forall_mem_cons.2 ⟨ro152, List.forall_mem_cons.2 ⟨ro153, List.forall_mem_cons.2 ⟨ro154, List.forall_mem_cons.2 ⟨ro155, List.forall_mem_cons.2 ⟨ro157, List.forall_mem_cons.2 ⟨ro158, List.forall_mem_cons.2 ⟨ro159, List.forall_mem_cons.2 ⟨ro160, List.forall_mem_cons.2 ⟨ro161, List.forall_mem_cons.2 ⟨ro162, List.forall_mem_cons.2 ⟨ro163, List.forall_mem_cons.2 ⟨ro164, List.forall_mem_cons.2 ⟨ro165, List.forall_mem_cons.2 ⟨ro166, List.forall_mem_cons.2 ⟨ro167, List.forall_mem_cons.2 ⟨ro168, List.forall_mem_cons.2 ⟨ro169, List.forall_mem_cons.2 ⟨ro170, List.forall_mem_cons.2 ⟨ro171, List.forall_mem_cons.2 ⟨ro172, List.forall_mem_cons.2 ⟨ro173, List.forall_mem_cons.2 ⟨ro174, List.forall_mem_cons.2 ⟨ro175, List.forall_mem_cons.2 ⟨ro176, List.forall_mem_cons.2 ⟨ro177, List.forall_mem_cons.2 ⟨ro178, List.forall_mem_cons.2 ⟨ro179, List.forall_mem_cons.2 ⟨ro180, List.forall_mem_cons.2 ⟨ro181, List.forall_mem_cons.2 ⟨ro182, List.forall_mem_cons.2 ⟨ro183, List.forall_mem_cons.2 ⟨ro184, List.forall_mem_cons.2 ⟨ro185, List.forall_mem_cons.2 ⟨ro186, List.forall_mem_cons.2 ⟨ro187, List.forall_mem_cons.2 ⟨ro188, List.forall_mem_cons.2 ⟨ro189, List.forall_mem_cons.2 ⟨ro190, List.forall_mem_cons.2 ⟨ro191, List.forall_mem_cons.2 ⟨ro192, List.forall_mem_cons.2 ⟨ro194, List.forall_mem_cons.2 ⟨ro195, List.forall_mem_cons.2 ⟨ro196, List.forall_mem_cons.2 ⟨ro197, List.forall_mem_cons.2 ⟨ro198, List.forall_mem_cons.2 ⟨ro199, List.forall_mem_cons.2 ⟨ro200, List.forall_mem_cons.2 ⟨ro201, List.forall_mem_cons.2 ⟨ro202, List.forall_mem_cons.2 ⟨ro203, List.forall_mem_cons.2 ⟨ro204, List.forall_mem_cons.2 ⟨ro205, List.forall_mem_cons.2 ⟨ro206, List.forall_mem_cons.2 ⟨ro207, List.forall_mem_cons.2 ⟨ro208, List.forall_mem_cons.2 ⟨ro209, List.forall_mem_cons.2 ⟨ro210, List.forall_mem_cons.2 ⟨ro211, List.forall_mem_cons.2 ⟨ro212, List.forall_mem_cons.2 ⟨ro213, List.forall_mem_cons.2 ⟨ro214, List.forall_mem_cons.2 ⟨ro215, List.forall_mem_cons.2 ⟨ro216, List.forall_mem_cons.2 ⟨ro217, List.forall_mem_cons.2 ⟨ro218, List.forall_mem_cons.2 ⟨ro219, List.forall_mem_cons.2 ⟨ro220, List.forall_mem_cons.2 ⟨ro221, List.forall_mem_cons.2 ⟨ro222, List.forall_mem_cons.2 ⟨ro223, List.forall_mem_cons.2 ⟨ro224, List.forall_mem_cons.2 ⟨ro225, List.forall_mem_cons.2 ⟨ro226, List.forall_mem_cons.2 ⟨ro227, List.forall_mem_cons.2 ⟨ro228, List.forall_mem_cons.2 ⟨ro229, List.forall_mem_cons.2 ⟨ro230, List.forall_mem_cons.2 ⟨ro231, List.forall_mem_cons.2 ⟨ro233, List.forall_mem_cons.2 ⟨ro234, List.forall_mem_cons.2 ⟨ro235, List.forall_mem_cons.2 ⟨ro237, List.forall_mem_cons.2 ⟨ro238, List.forall_mem_cons.2 ⟨ro239, List.forall_mem_cons.2 ⟨ro240, List.forall_mem_cons.2 ⟨ro241, List.forall_mem_cons.2 ⟨ro242, List.forall_mem_cons.2 ⟨ro243, List.forall_mem_cons.2 ⟨ro244, List.forall_mem_cons.2 ⟨ro245, List.forall_mem_cons.2 ⟨ro246, List.forall_mem_cons.2 ⟨ro247, List.forall_mem_cons.2 ⟨ro248, List.forall_mem_cons.2 ⟨ro249, List.forall_mem_cons.2 ⟨ro250, List.forall_mem_cons.2 ⟨ro251, List.forall_mem_cons.2 ⟨ro252, List.forall_mem_cons.2 ⟨ro253, List.forall_mem_cons.2 ⟨ro254, List.forall_mem_cons.2 ⟨ro255, List.forall_mem_cons.2 ⟨ro256, List.forall_mem_cons.2 ⟨ro257, List.forall_mem_cons.2 ⟨ro258, List.forall_mem_cons.2 ⟨ro259, List.forall_mem_cons.2 ⟨ro260, List.forall_mem_cons.2 ⟨ro262, List.forall_mem_cons.2 ⟨ro263, List.forall_mem_cons.2 ⟨ro264, List.forall_mem_cons.2 ⟨ro266, List.forall_mem_cons.2 ⟨ro269, List.forall_mem_cons.2 ⟨ro270, List.forall_mem_cons.2 ⟨ro271, List.forall_mem_cons.2 ⟨ro272, List.forall_mem_cons.2 ⟨ro273, List.forall_mem_cons.2 ⟨ro275, List.forall_mem_cons.2 ⟨ro277, List.forall_mem_cons.2 ⟨ro278, List.forall_mem_cons.2 ⟨ro280, List.forall_mem_cons.2 ⟨ro281, List.forall_mem_cons.2 ⟨ro282, List.forall_mem_cons.2 ⟨ro283, List.forall_mem_cons.2 ⟨ro284, List.forall_mem_cons.2 ⟨ro285, List.forall_mem_cons.2 ⟨ro286, List.forall_mem_cons.2 ⟨ro287, List.forall_mem_cons.2 ⟨ro289, List.forall_mem_cons.2 ⟨ro293, List.forall_mem_cons.2 ⟨ro299, List.forall_mem_cons.2 ⟨ro302, List.forall_mem_cons.2 ⟨ro307, List.forall_mem_cons.2 ⟨ro308, (fun _ h => by cases h)⟩⟩⟩⟩⟩⟩⟩⟩⟩⟩⟩⟩⟩⟩⟩⟩⟩⟩⟩⟩⟩⟩⟩⟩⟩⟩⟩⟩⟩⟩⟩⟩⟩⟩⟩⟩⟩⟩⟩⟩⟩⟩⟩⟩⟩⟩⟩⟩⟩⟩⟩⟩⟩⟩⟩⟩⟩⟩⟩⟩⟩⟩⟩⟩⟩⟩⟩⟩⟩⟩⟩⟩⟩⟩⟩⟩⟩⟩⟩⟩⟩⟩⟩⟩⟩⟩⟩⟩⟩⟩⟩⟩⟩⟩⟩⟩⟩⟩⟩⟩⟩⟩⟩⟩⟩⟩⟩⟩⟩⟩⟩⟩⟩⟩⟩⟩⟩⟩⟩⟩⟩⟩⟩⟩⟩⟩⟩⟩⟩⟩⟩⟩⟩⟩⟩⟩⟩⟩⟩⟩⟩⟩⟩⟩⟩⟩⟩⟩⟩⟩⟩⟩⟩⟩⟩⟩⟩⟩⟩⟩⟩⟩⟩⟩⟩⟩⟩⟩⟩⟩⟩⟩⟩⟩⟩⟩⟩⟩⟩⟩⟩⟩⟩⟩⟩⟩⟩⟩⟩⟩⟩⟩⟩⟩⟩⟩⟩⟩⟩⟩⟩⟩⟩⟩⟩⟩⟩⟩⟩⟩⟩⟩⟩⟩⟩⟩⟩⟩⟩⟩⟩⟩⟩⟩⟩⟩⟩⟩⟩⟩⟩⟩⟩⟩⟩⟩⟩⟩⟩⟩⟩⟩⟩⟩⟩⟩⟩⟩⟩⟩⟩⟩⟩⟩⟩⟩⟩⟩⟩⟩⟩⟩⟩⟩
theorem hMix : Tryz.prog.follows .mixedOrders = true := by kernel_rfl
theorem Tb_mem {t : Nat} {i : TI} (h : Tb t = some i) : RowOk (t, i) := by
  unfold Tb at h
  cases hf : tl.find? (fun p => p.1 == t) with
  | none => rw [hf] at h; cases h
  | some p =>
    rw [hf] at h
    have hm := List.mem_of_find?_eq_some hf
    have hp : (p.1 == t) = true := List.find?_some (p := fun p : Nat × TI => p.1 == t) hf
    cases h
    have := beq_iff_eq.1 hp
    subst this
    exact tl_ok p hm
theorem hTb : TabOk Tryz.prog Tb := ⟨fun _ _ h => (Tb_mem h).1, fun _ _ h => (Tb_mem h).2.1, fun _ _ h => ⟨(Tb_mem h).2.2.1, (Tb_mem h).2.2.2.1⟩, fun _ _ fs h => (Tb_mem h).2.2.2.2 fs⟩
end Go.Vl

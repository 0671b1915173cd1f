/- The table of types of this seat's program, and that it is the program's. Written by our own gentab.py. -/
import Derived.Test.YtegjajojckbkjaaDoorProg
import Derived.Test.YtegjajojckbkjaaDoorWa
import Derived.KernelRfl
namespace Go.Vl
open Go Go.Proofs
def ti1 : TI := ⟨.other, 1, 8, [.nilFunc], none⟩
def ti2 : TI := ⟨.int .i64, 1, 8, [.int .i64 0], none⟩
def ti3 : TI := ⟨.int .i64, 1, 8, [.int .i64 0], none⟩
def ti4 : TI := ⟨.bool, 1, 1, [.bool false], none⟩
def ti5 : TI := ⟨.int .u8, 1, 1, [.int .u8 0], none⟩
def ti9 : TI := ⟨.str, 1, 16, [.string ⟨#[]⟩], none⟩
def ti12 : TI := ⟨.int .u64, 1, 8, [.int .u64 0], none⟩
def ti13 : TI := ⟨.st [(0, 9), (1, 12)], 2, 24, [.string ⟨#[]⟩, .int .u64 0], none⟩
def ti20 : TI := ⟨.other, 1, 16, [.nilIface], none⟩
def ti21 : TI := ⟨.int .i32, 1, 4, [.int .i32 0], none⟩
def ti22 : TI := ⟨.sl 5, 1, 24, [.slice none 0 0], none⟩
def ti23 : TI := ⟨.sl 31, 1, 24, [.slice none 0 0], none⟩
def ti24 : TI := ⟨.sl 29, 1, 24, [.slice none 0 0], none⟩
def ti26 : TI := ⟨.other, 1, 8, [.nilFunc], none⟩
def ti27 : TI := ⟨.other, 1, 8, [.nilFunc], none⟩
def ti28 : TI := ⟨.st [(0, 3), (1, 3), (2, 9)], 3, 32, [.int .i64 0, .int .i64 0, .string ⟨#[]⟩], none⟩
def ti29 : TI := ⟨.st [(0, 3), (1, 3), (2, 9)], 3, 32, [.int .i64 0, .int .i64 0, .string ⟨#[]⟩], some [(0, 3), (1, 3), (2, 9)]⟩
def ti30 : TI := ⟨.st [(0, 9), (1, 3), (2, 4), (3, 4), (4, 29)], 7, 64, [.string ⟨#[]⟩, .int .i64 0, .bool false, .bool false, .int .i64 0, .int .i64 0, .string ⟨#[]⟩], none⟩
def ti31 : TI := ⟨.st [(0, 9), (1, 3), (2, 4), (3, 4), (4, 29)], 7, 64, [.string ⟨#[]⟩, .int .i64 0, .bool false, .bool false, .int .i64 0, .int .i64 0, .string ⟨#[]⟩], some [(0, 9), (1, 3), (2, 4), (3, 4), (4, 29)]⟩
def ti32 : TI := ⟨.st [(0, 3), (1, 9), (2, 9), (3, 31)], 10, 104, [.int .i64 0, .string ⟨#[]⟩, .string ⟨#[]⟩, .string ⟨#[]⟩, .int .i64 0, .bool false, .bool false, .int .i64 0, .int .i64 0, .string ⟨#[]⟩], none⟩
def ti33 : TI := ⟨.st [(0, 3), (1, 9), (2, 9), (3, 31)], 10, 104, [.int .i64 0, .string ⟨#[]⟩, .string ⟨#[]⟩, .string ⟨#[]⟩, .int .i64 0, .bool false, .bool false, .int .i64 0, .int .i64 0, .string ⟨#[]⟩], some [(0, 3), (1, 9), (2, 9), (3, 31)]⟩
def ti35 : TI := ⟨.other, 1, 8, [.nilFunc], none⟩
def ti36 : TI := ⟨.other, 1, 8, [.nilFunc], none⟩
def ti37 : TI := ⟨.other, 1, 8, [.nilFunc], none⟩
def ti39 : TI := ⟨.other, 1, 8, [.nilFunc], none⟩
def ti40 : TI := ⟨.other, 1, 8, [.nilFunc], none⟩
def ti41 : TI := ⟨.other, 1, 8, [.nilFunc], none⟩
def ti42 : TI := ⟨.other, 1, 8, [.nilFunc], none⟩
def ti43 : TI := ⟨.sl 33, 1, 24, [.slice none 0 0], none⟩
def ti45 : TI := ⟨.other, 1, 8, [.nilFunc], none⟩
def ti46 : TI := ⟨.other, 1, 8, [.nilFunc], none⟩
def ti47 : TI := ⟨.other, 1, 8, [.nilFunc], none⟩
def ti48 : TI := ⟨.sl 51, 1, 24, [.slice none 0 0], none⟩
def ti49 : TI := ⟨.st [(0, 3), (1, 3), (2, 9)], 3, 32, [.int .i64 0, .int .i64 0, .string ⟨#[]⟩], some [(0, 3), (1, 3), (2, 9)]⟩
def ti50 : TI := ⟨.st [(0, 9), (1, 3), (2, 4), (3, 4), (4, 49)], 7, 64, [.string ⟨#[]⟩, .int .i64 0, .bool false, .bool false, .int .i64 0, .int .i64 0, .string ⟨#[]⟩], none⟩
def ti51 : TI := ⟨.st [(0, 9), (1, 3), (2, 4), (3, 4), (4, 49)], 7, 64, [.string ⟨#[]⟩, .int .i64 0, .bool false, .bool false, .int .i64 0, .int .i64 0, .string ⟨#[]⟩], some [(0, 9), (1, 3), (2, 4), (3, 4), (4, 49)]⟩
def ti52 : TI := ⟨.st [(0, 3), (1, 9), (2, 9), (3, 51)], 10, 104, [.int .i64 0, .string ⟨#[]⟩, .string ⟨#[]⟩, .string ⟨#[]⟩, .int .i64 0, .bool false, .bool false, .int .i64 0, .int .i64 0, .string ⟨#[]⟩], none⟩
def ti53 : TI := ⟨.st [(0, 3), (1, 9), (2, 9), (3, 51)], 10, 104, [.int .i64 0, .string ⟨#[]⟩, .string ⟨#[]⟩, .string ⟨#[]⟩, .int .i64 0, .bool false, .bool false, .int .i64 0, .int .i64 0, .string ⟨#[]⟩], some [(0, 3), (1, 9), (2, 9), (3, 51)]⟩
def ti54 : TI := ⟨.other, 1, 8, [.nilFunc], none⟩
def ti55 : TI := ⟨.other, 1, 8, [.nilFunc], none⟩
def ti56 : TI := ⟨.other, 1, 8, [.nilFunc], none⟩
def ti57 : TI := ⟨.other, 1, 8, [.nilFunc], none⟩
def ti58 : TI := ⟨.other, 1, 8, [.nilFunc], none⟩
def ti59 : TI := ⟨.other, 1, 8, [.nilFunc], none⟩
def ti61 : TI := ⟨.other, 1, 8, [.nilFunc], none⟩
def ti62 : TI := ⟨.other, 1, 8, [.nilFunc], none⟩
def ti63 : TI := ⟨.other, 1, 8, [.nilFunc], none⟩
def ti64 : TI := ⟨.sl 49, 1, 24, [.slice none 0 0], none⟩
def ti65 : TI := ⟨.other, 1, 8, [.nilFunc], none⟩
def ti66 : TI := ⟨.other, 1, 8, [.nilFunc], none⟩
def ti67 : TI := ⟨.other, 1, 8, [.nilFunc], none⟩
def ti68 : TI := ⟨.other, 1, 8, [.nilFunc], none⟩
def ti70 : TI := ⟨.other, 1, 8, [.nilFunc], none⟩
def ti71 : TI := ⟨.sl 53, 1, 24, [.slice none 0 0], none⟩
def ti72 : TI := ⟨.other, 1, 8, [.nilFunc], none⟩
def ti73 : TI := ⟨.other, 1, 8, [.nilFunc], none⟩
def ti74 : TI := ⟨.other, 1, 8, [.nilFunc], none⟩
def ti75 : TI := ⟨.other, 1, 8, [.nilFunc], none⟩
def ti76 : TI := ⟨.other, 1, 8, [.nilFunc], none⟩
def ti77 : TI := ⟨.other, 1, 8, [.pointer none], none⟩
def ti78 : TI := ⟨.other, 1, 8, [.nilFunc], none⟩
def ti79 : TI := ⟨.other, 1, 8, [.nilFunc], none⟩
def ti80 : TI := ⟨.other, 1, 8, [.nilFunc], none⟩
def ti81 : TI := ⟨.other, 1, 8, [.nilFunc], none⟩
def ti82 : TI := ⟨.other, 1, 8, [.nilFunc], none⟩
def ti83 : TI := ⟨.other, 1, 8, [.nilFunc], none⟩
def ti84 : TI := ⟨.other, 1, 8, [.nilFunc], none⟩
def ti85 : TI := ⟨.other, 1, 8, [.nilFunc], none⟩
def ti86 : TI := ⟨.other, 1, 8, [.nilFunc], none⟩
def ti87 : TI := ⟨.other, 1, 8, [.nilFunc], none⟩
def ti88 : TI := ⟨.other, 1, 8, [.nilFunc], none⟩
def ti89 : TI := ⟨.other, 1, 8, [.nilFunc], none⟩
def ti90 : TI := ⟨.other, 1, 8, [.nilFunc], none⟩
def ti91 : TI := ⟨.other, 1, 8, [.nilFunc], none⟩
def ti92 : TI := ⟨.other, 1, 8, [.nilFunc], none⟩
def ti93 : TI := ⟨.other, 1, 8, [.nilFunc], none⟩
def ti94 : TI := ⟨.other, 1, 8, [.nilFunc], none⟩
def ti95 : TI := ⟨.other, 1, 8, [.nilFunc], none⟩
def ti96 : TI := ⟨.st [(0, 22), (1, 3)], 2, 32, [.slice none 0 0, .int .i64 0], none⟩
def ti97 : TI := ⟨.st [(0, 22), (1, 3)], 2, 32, [.slice none 0 0, .int .i64 0], none⟩
def ti98 : TI := ⟨.other, 1, 8, [.nilFunc], none⟩
def ti99 : TI := ⟨.other, 1, 8, [.nilFunc], none⟩
def ti100 : TI := ⟨.other, 1, 8, [.nilFunc], none⟩
def ti101 : TI := ⟨.sl 9, 1, 24, [.slice none 0 0], none⟩
def ti102 : TI := ⟨.other, 1, 8, [.nilFunc], none⟩
def ti103 : TI := ⟨.other, 1, 8, [.nilFunc], none⟩
def ti104 : TI := ⟨.other, 1, 8, [.nilFunc], none⟩
def ti105 : TI := ⟨.other, 1, 8, [.nilFunc], none⟩
def ti106 : TI := ⟨.sl 3, 1, 24, [.slice none 0 0], none⟩
def ti107 : TI := ⟨.other, 1, 8, [.nilFunc], none⟩
def ti108 : TI := ⟨.other, 1, 8, [.nilFunc], none⟩
def ti109 : TI := ⟨.other, 1, 8, [.nilFunc], none⟩
def ti110 : TI := ⟨.other, 1, 8, [.nilFunc], none⟩
def ti111 : TI := ⟨.other, 1, 8, [.nilFunc], none⟩
def ti112 : TI := ⟨.other, 1, 8, [.nilFunc], none⟩
def ti113 : TI := ⟨.other, 1, 8, [.nilFunc], none⟩
def ti114 : TI := ⟨.other, 1, 8, [.nilFunc], none⟩
def ti115 : TI := ⟨.other, 1, 8, [.nilFunc], none⟩
def ti116 : TI := ⟨.other, 1, 8, [.nilFunc], none⟩
def ti117 : TI := ⟨.other, 1, 8, [.nilFunc], none⟩
def ti118 : TI := ⟨.other, 1, 8, [.nilFunc], none⟩
def ti119 : TI := ⟨.other, 1, 8, [.nilFunc], none⟩
def ti121 : TI := ⟨.other, 1, 8, [.nilFunc], none⟩
def ti122 : TI := ⟨.other, 1, 16, [.nilIface], none⟩
def ti123 : TI := ⟨.other, 1, 16, [.nilIface], none⟩
def ti125 : TI := ⟨.other, 1, 8, [.nilFunc], none⟩
def ti126 : TI := ⟨.other, 1, 8, [.nilFunc], none⟩
def ti127 : TI := ⟨.other, 1, 8, [.nilFunc], none⟩
def ti129 : TI := ⟨.int .u64, 1, 8, [.int .u64 0], none⟩
def ti130 : TI := ⟨.other, 1, 8, [.nilFunc], none⟩
def ti131 : TI := ⟨.other, 1, 8, [.nilFunc], none⟩
def ti133 : TI := ⟨.other, 1, 8, [.nilFunc], none⟩
def ti136 : TI := ⟨.other, 1, 8, [.nilFunc], none⟩
def ti137 : TI := ⟨.other, 1, 8, [.pointer none], none⟩
def ti138 : TI := ⟨.other, 1, 8, [.nilFunc], none⟩
def ti139 : TI := ⟨.other, 1, 8, [.nilFunc], none⟩
def ti140 : TI := ⟨.other, 1, 8, [.nilFunc], none⟩
def ti142 : TI := ⟨.int .u32, 1, 4, [.int .u32 0], none⟩
def ti144 : TI := ⟨.int .u64, 1, 8, [.int .u64 0], none⟩
def ti145 : TI := ⟨.other, 1, 8, [.nilFunc], none⟩
def ti147 : TI := ⟨.other, 1, 8, [.nilFunc], none⟩
def ti148 : TI := ⟨.other, 1, 8, [.nilFunc], none⟩
def ti149 : TI := ⟨.st [(0, 9), (1, 9), (2, 123)], 3, 48, [.string ⟨#[]⟩, .string ⟨#[]⟩, .nilIface], none⟩
def ti150 : TI := ⟨.st [(0, 9), (1, 9), (2, 123)], 3, 48, [.string ⟨#[]⟩, .string ⟨#[]⟩, .nilIface], none⟩
def ti151 : TI := ⟨.other, 1, 8, [.nilFunc], none⟩
def ti152 : TI := ⟨.other, 1, 8, [.nilFunc], none⟩
def ti153 : TI := ⟨.other, 1, 8, [.nilFunc], none⟩
def ti154 : TI := ⟨.other, 1, 8, [.pointer none], none⟩
def ti156 : TI := ⟨.st [(0, 9)], 1, 16, [.string ⟨#[]⟩], none⟩
def ti160 : TI := ⟨.other, 1, 8, [.nilFunc], none⟩
def ti166 : TI := ⟨.other, 1, 8, [.nilFunc], none⟩
def ti169 : TI := ⟨.other, 1, 8, [.nilFunc], none⟩
def ti174 : TI := ⟨.other, 1, 8, [.nilFunc], none⟩
def ti175 : TI := ⟨.other, 1, 8, [.pointer none], none⟩
def tl : List (Nat × TI) := [(1, ti1), (2, ti2), (3, ti3), (4, ti4), (5, ti5), (9, ti9), (12, ti12), (13, ti13), (20, ti20), (21, ti21), (22, ti22), (23, ti23), (24, ti24), (26, ti26), (27, ti27), (28, ti28), (29, ti29), (30, ti30), (31, ti31), (32, ti32), (33, ti33), (35, ti35), (36, ti36), (37, ti37), (39, ti39), (40, ti40), (41, ti41), (42, ti42), (43, ti43), (45, ti45), (46, ti46), (47, ti47), (48, ti48), (49, ti49), (50, ti50), (51, ti51), (52, ti52), (53, ti53), (54, ti54), (55, ti55), (56, ti56), (57, ti57), (58, ti58), (59, ti59), (61, ti61), (62, ti62), (63, ti63), (64, ti64), (65, ti65), (66, ti66), (67, ti67), (68, ti68), (70, ti70), (71, ti71), (72, ti72), (73, ti73), (74, ti74), (75, ti75), (76, ti76), (77, ti77), (78, ti78), (79, ti79), (80, ti80), (81, ti81), (82, ti82), (83, ti83), (84, ti84), (85, ti85), (86, ti86), (87, ti87), (88, ti88), (89, ti89), (90, ti90), (91, ti91), (92, ti92), (93, ti93), (94, ti94), (95, ti95), (96, ti96), (97, ti97), (98, ti98), (99, ti99), (100, ti100), (101, ti101), (102, ti102), (103, ti103), (104, ti104), (105, ti105), (106, ti106), (107, ti107), (108, ti108), (109, ti109), (110, ti110), (111, ti111), (112, ti112), (113, ti113), (114, ti114), (115, ti115), (116, ti116), (117, ti117), (118, ti118), (119, ti119), (121, ti121), (122, ti122), (123, ti123), (125, ti125), (126, ti126), (127, ti127), (129, ti129), (130, ti130), (131, ti131), (133, ti133), (136, ti136), (137, ti137), (138, ti138), (139, ti139), (140, ti140), (142, ti142), (144, ti144), (145, ti145), (147, ti147), (148, ti148), (149, ti149), (150, ti150), (151, ti151), (152, ti152), (153, ti153), (154, ti154), (156, ti156), (160, ti160), (166, ti166), (169, ti169), (174, ti174), (175, ti175)]
def Tb : Tab := fun t => (tl.find? (fun p => p.1 == t)).map (·.2)
def RowOk (p : Nat × TI) : Prop := (Tryd.prog.info? p.1).map (fun x => (x.size, x.bytes, x.zero.map (·.cells.toList))) = some (p.2.size, p.2.bytes, some p.2.zero) ∧ (Tryd.prog.underlying p.1).map dOf = some p.2.d ∧ p.2.zero.length = p.2.size ∧ (∀ z ∈ p.2.zero, z.oneCell' = true) ∧ ∀ fs, p.2.eqf = some fs → Tryd.prog.underlying p.1 = some (.struct (Tryd.prog.fieldsOf p.1)) ∧ Tryd.prog.stoodInHeld p.1 = false ∧ Tryd.prog.eqGuardType Tryd.prog.depth p.1 = false ∧ (Tryd.prog.fieldsOf p.1).toList.map (fun f => (f.name == "_", f.offset, f.type)) = fs.map (fun p => (false, p.1, p.2))
theorem ro1 : RowOk (1, ti1) := ⟨by show (Tryd.prog.info? 1).map _ = _; kernel_rfl, by show (Tryd.prog.underlying 1).map dOf = _; kernel_rfl, rfl, by simp [ti1, Value.oneCell'], fun fs h => by cases h⟩
theorem ro2 : RowOk (2, ti2) := ⟨by show (Tryd.prog.info? 2).map _ = _; kernel_rfl, by show (Tryd.prog.underlying 2).map dOf = _; kernel_rfl, rfl, by simp [ti2, Value.oneCell'], fun fs h => by cases h⟩
theorem ro3 : RowOk (3, ti3) := ⟨by show (Tryd.prog.info? 3).map _ = _; kernel_rfl, by show (Tryd.prog.underlying 3).map dOf = _; kernel_rfl, rfl, by simp [ti3, Value.oneCell'], fun fs h => by cases h⟩
theorem ro4 : RowOk (4, ti4) := ⟨by show (Tryd.prog.info? 4).map _ = _; kernel_rfl, by show (Tryd.prog.underlying 4).map dOf = _; kernel_rfl, rfl, by simp [ti4, Value.oneCell'], fun fs h => by cases h⟩
theorem ro5 : RowOk (5, ti5) := ⟨by show (Tryd.prog.info? 5).map _ = _; kernel_rfl, by show (Tryd.prog.underlying 5).map dOf = _; kernel_rfl, rfl, by simp [ti5, Value.oneCell'], fun fs h => by cases h⟩
theorem ro9 : RowOk (9, ti9) := ⟨by show (Tryd.prog.info? 9).map _ = _; kernel_rfl, by show (Tryd.prog.underlying 9).map dOf = _; kernel_rfl, rfl, by simp [ti9, Value.oneCell'], fun fs h => by cases h⟩
theorem ro12 : RowOk (12, ti12) := ⟨by show (Tryd.prog.info? 12).map _ = _; kernel_rfl, by show (Tryd.prog.underlying 12).map dOf = _; kernel_rfl, rfl, by simp [ti12, Value.oneCell'], fun fs h => by cases h⟩
theorem ro13 : RowOk (13, ti13) := ⟨by show (Tryd.prog.info? 13).map _ = _; kernel_rfl, by show (Tryd.prog.underlying 13).map dOf = _; kernel_rfl, rfl, by simp [ti13, Value.oneCell'], fun fs h => by cases h⟩
theorem ro20 : RowOk (20, ti20) := ⟨by show (Tryd.prog.info? 20).map _ = _; kernel_rfl, by show (Tryd.prog.underlying 20).map dOf = _; kernel_rfl, rfl, by simp [ti20, Value.oneCell'], fun fs h => by cases h⟩
theorem ro21 : RowOk (21, ti21) := ⟨by show (Tryd.prog.info? 21).map _ = _; kernel_rfl, by show (Tryd.prog.underlying 21).map dOf = _; kernel_rfl, rfl, by simp [ti21, Value.oneCell'], fun fs h => by cases h⟩
theorem ro22 : RowOk (22, ti22) := ⟨by show (Tryd.prog.info? 22).map _ = _; kernel_rfl, by show (Tryd.prog.underlying 22).map dOf = _; kernel_rfl, rfl, by simp [ti22, Value.oneCell'], fun fs h => by cases h⟩
theorem ro23 : RowOk (23, ti23) := ⟨by show (Tryd.prog.info? 23).map _ = _; kernel_rfl, by show (Tryd.prog.underlying 23).map dOf = _; kernel_rfl, rfl, by simp [ti23, Value.oneCell'], fun fs h => by cases h⟩
theorem ro24 : RowOk (24, ti24) := ⟨by show (Tryd.prog.info? 24).map _ = _; kernel_rfl, by show (Tryd.prog.underlying 24).map dOf = _; kernel_rfl, rfl, by simp [ti24, Value.oneCell'], fun fs h => by cases h⟩
theorem ro26 : RowOk (26, ti26) := ⟨by show (Tryd.prog.info? 26).map _ = _; kernel_rfl, by show (Tryd.prog.underlying 26).map dOf = _; kernel_rfl, rfl, by simp [ti26, Value.oneCell'], fun fs h => by cases h⟩
theorem ro27 : RowOk (27, ti27) := ⟨by show (Tryd.prog.info? 27).map _ = _; kernel_rfl, by show (Tryd.prog.underlying 27).map dOf = _; kernel_rfl, rfl, by simp [ti27, Value.oneCell'], fun fs h => by cases h⟩
theorem ro28 : RowOk (28, ti28) := ⟨by show (Tryd.prog.info? 28).map _ = _; kernel_rfl, by show (Tryd.prog.underlying 28).map dOf = _; kernel_rfl, rfl, by simp [ti28, Value.oneCell'], fun fs h => by cases h⟩
theorem ro29 : RowOk (29, ti29) := ⟨by show (Tryd.prog.info? 29).map _ = _; kernel_rfl, by show (Tryd.prog.underlying 29).map dOf = _; kernel_rfl, rfl, by simp [ti29, Value.oneCell'], fun fs h => by cases h; exact ⟨by show Tryd.prog.underlying 29 = _; kernel_rfl, by show Tryd.prog.stoodInHeld 29 = false; kernel_rfl, by show Tryd.prog.eqGuardType Tryd.prog.depth 29 = false; kernel_rfl, by kernel_rfl⟩⟩
theorem ro30 : RowOk (30, ti30) := ⟨by show (Tryd.prog.info? 30).map _ = _; kernel_rfl, by show (Tryd.prog.underlying 30).map dOf = _; kernel_rfl, rfl, by simp [ti30, Value.oneCell'], fun fs h => by cases h⟩
theorem ro31 : RowOk (31, ti31) := ⟨by show (Tryd.prog.info? 31).map _ = _; kernel_rfl, by show (Tryd.prog.underlying 31).map dOf = _; kernel_rfl, rfl, by simp [ti31, Value.oneCell'], fun fs h => by cases h; exact ⟨by show Tryd.prog.underlying 31 = _; kernel_rfl, by show Tryd.prog.stoodInHeld 31 = false; kernel_rfl, by show Tryd.prog.eqGuardType Tryd.prog.depth 31 = false; kernel_rfl, by kernel_rfl⟩⟩
theorem ro32 : RowOk (32, ti32) := ⟨by show (Tryd.prog.info? 32).map _ = _; kernel_rfl, by show (Tryd.prog.underlying 32).map dOf = _; kernel_rfl, rfl, by simp [ti32, Value.oneCell'], fun fs h => by cases h⟩
theorem ro33 : RowOk (33, ti33) := ⟨by show (Tryd.prog.info? 33).map _ = _; kernel_rfl, by show (Tryd.prog.underlying 33).map dOf = _; kernel_rfl, rfl, by simp [ti33, Value.oneCell'], fun fs h => by cases h; exact ⟨by show Tryd.prog.underlying 33 = _; kernel_rfl, by show Tryd.prog.stoodInHeld 33 = false; kernel_rfl, by show Tryd.prog.eqGuardType Tryd.prog.depth 33 = false; kernel_rfl, by kernel_rfl⟩⟩
theorem ro35 : RowOk (35, ti35) := ⟨by show (Tryd.prog.info? 35).map _ = _; kernel_rfl, by show (Tryd.prog.underlying 35).map dOf = _; kernel_rfl, rfl, by simp [ti35, Value.oneCell'], fun fs h => by cases h⟩
theorem ro36 : RowOk (36, ti36) := ⟨by show (Tryd.prog.info? 36).map _ = _; kernel_rfl, by show (Tryd.prog.underlying 36).map dOf = _; kernel_rfl, rfl, by simp [ti36, Value.oneCell'], fun fs h => by cases h⟩
theorem ro37 : RowOk (37, ti37) := ⟨by show (Tryd.prog.info? 37).map _ = _; kernel_rfl, by show (Tryd.prog.underlying 37).map dOf = _; kernel_rfl, rfl, by simp [ti37, Value.oneCell'], fun fs h => by cases h⟩
theorem ro39 : RowOk (39, ti39) := ⟨by show (Tryd.prog.info? 39).map _ = _; kernel_rfl, by show (Tryd.prog.underlying 39).map dOf = _; kernel_rfl, rfl, by simp [ti39, Value.oneCell'], fun fs h => by cases h⟩
theorem ro40 : RowOk (40, ti40) := ⟨by show (Tryd.prog.info? 40).map _ = _; kernel_rfl, by show (Tryd.prog.underlying 40).map dOf = _; kernel_rfl, rfl, by simp [ti40, Value.oneCell'], fun fs h => by cases h⟩
theorem ro41 : RowOk (41, ti41) := ⟨by show (Tryd.prog.info? 41).map _ = _; kernel_rfl, by show (Tryd.prog.underlying 41).map dOf = _; kernel_rfl, rfl, by simp [ti41, Value.oneCell'], fun fs h => by cases h⟩
theorem ro42 : RowOk (42, ti42) := ⟨by show (Tryd.prog.info? 42).map _ = _; kernel_rfl, by show (Tryd.prog.underlying 42).map dOf = _; kernel_rfl, rfl, by simp [ti42, Value.oneCell'], fun fs h => by cases h⟩
theorem ro43 : RowOk (43, ti43) := ⟨by show (Tryd.prog.info? 43).map _ = _; kernel_rfl, by show (Tryd.prog.underlying 43).map dOf = _; kernel_rfl, rfl, by simp [ti43, Value.oneCell'], fun fs h => by cases h⟩
theorem ro45 : RowOk (45, ti45) := ⟨by show (Tryd.prog.info? 45).map _ = _; kernel_rfl, by show (Tryd.prog.underlying 45).map dOf = _; kernel_rfl, rfl, by simp [ti45, Value.oneCell'], fun fs h => by cases h⟩
theorem ro46 : RowOk (46, ti46) := ⟨by show (Tryd.prog.info? 46).map _ = _; kernel_rfl, by show (Tryd.prog.underlying 46).map dOf = _; kernel_rfl, rfl, by simp [ti46, Value.oneCell'], fun fs h => by cases h⟩
theorem ro47 : RowOk (47, ti47) := ⟨by show (Tryd.prog.info? 47).map _ = _; kernel_rfl, by show (Tryd.prog.underlying 47).map dOf = _; kernel_rfl, rfl, by simp [ti47, Value.oneCell'], fun fs h => by cases h⟩
theorem ro48 : RowOk (48, ti48) := ⟨by show (Tryd.prog.info? 48).map _ = _; kernel_rfl, by show (Tryd.prog.underlying 48).map dOf = _; kernel_rfl, rfl, by simp [ti48, Value.oneCell'], fun fs h => by cases h⟩
theorem ro49 : RowOk (49, ti49) := ⟨by show (Tryd.prog.info? 49).map _ = _; kernel_rfl, by show (Tryd.prog.underlying 49).map dOf = _; kernel_rfl, rfl, by simp [ti49, Value.oneCell'], fun fs h => by cases h; exact ⟨by show Tryd.prog.underlying 49 = _; kernel_rfl, by show Tryd.prog.stoodInHeld 49 = false; kernel_rfl, by show Tryd.prog.eqGuardType Tryd.prog.depth 49 = false; kernel_rfl, by kernel_rfl⟩⟩
theorem ro50 : RowOk (50, ti50) := ⟨by show (Tryd.prog.info? 50).map _ = _; kernel_rfl, by show (Tryd.prog.underlying 50).map dOf = _; kernel_rfl, rfl, by simp [ti50, Value.oneCell'], fun fs h => by cases h⟩
theorem ro51 : RowOk (51, ti51) := ⟨by show (Tryd.prog.info? 51).map _ = _; kernel_rfl, by show (Tryd.prog.underlying 51).map dOf = _; kernel_rfl, rfl, by simp [ti51, Value.oneCell'], fun fs h => by cases h; exact ⟨by show Tryd.prog.underlying 51 = _; kernel_rfl, by show Tryd.prog.stoodInHeld 51 = false; kernel_rfl, by show Tryd.prog.eqGuardType Tryd.prog.depth 51 = false; kernel_rfl, by kernel_rfl⟩⟩
theorem ro52 : RowOk (52, ti52) := ⟨by show (Tryd.prog.info? 52).map _ = _; kernel_rfl, by show (Tryd.prog.underlying 52).map dOf = _; kernel_rfl, rfl, by simp [ti52, Value.oneCell'], fun fs h => by cases h⟩
theorem ro53 : RowOk (53, ti53) := ⟨by show (Tryd.prog.info? 53).map _ = _; kernel_rfl, by show (Tryd.prog.underlying 53).map dOf = _; kernel_rfl, rfl, by simp [ti53, Value.oneCell'], fun fs h => by cases h; exact ⟨by show Tryd.prog.underlying 53 = _; kernel_rfl, by show Tryd.prog.stoodInHeld 53 = false; kernel_rfl, by show Tryd.prog.eqGuardType Tryd.prog.depth 53 = false; kernel_rfl, by kernel_rfl⟩⟩
theorem ro54 : RowOk (54, ti54) := ⟨by show (Tryd.prog.info? 54).map _ = _; kernel_rfl, by show (Tryd.prog.underlying 54).map dOf = _; kernel_rfl, rfl, by simp [ti54, Value.oneCell'], fun fs h => by cases h⟩
theorem ro55 : RowOk (55, ti55) := ⟨by show (Tryd.prog.info? 55).map _ = _; kernel_rfl, by show (Tryd.prog.underlying 55).map dOf = _; kernel_rfl, rfl, by simp [ti55, Value.oneCell'], fun fs h => by cases h⟩
theorem ro56 : RowOk (56, ti56) := ⟨by show (Tryd.prog.info? 56).map _ = _; kernel_rfl, by show (Tryd.prog.underlying 56).map dOf = _; kernel_rfl, rfl, by simp [ti56, Value.oneCell'], fun fs h => by cases h⟩
theorem ro57 : RowOk (57, ti57) := ⟨by show (Tryd.prog.info? 57).map _ = _; kernel_rfl, by show (Tryd.prog.underlying 57).map dOf = _; kernel_rfl, rfl, by simp [ti57, Value.oneCell'], fun fs h => by cases h⟩
theorem ro58 : RowOk (58, ti58) := ⟨by show (Tryd.prog.info? 58).map _ = _; kernel_rfl, by show (Tryd.prog.underlying 58).map dOf = _; kernel_rfl, rfl, by simp [ti58, Value.oneCell'], fun fs h => by cases h⟩
theorem ro59 : RowOk (59, ti59) := ⟨by show (Tryd.prog.info? 59).map _ = _; kernel_rfl, by show (Tryd.prog.underlying 59).map dOf = _; kernel_rfl, rfl, by simp [ti59, Value.oneCell'], fun fs h => by cases h⟩
theorem ro61 : RowOk (61, ti61) := ⟨by show (Tryd.prog.info? 61).map _ = _; kernel_rfl, by show (Tryd.prog.underlying 61).map dOf = _; kernel_rfl, rfl, by simp [ti61, Value.oneCell'], fun fs h => by cases h⟩
theorem ro62 : RowOk (62, ti62) := ⟨by show (Tryd.prog.info? 62).map _ = _; kernel_rfl, by show (Tryd.prog.underlying 62).map dOf = _; kernel_rfl, rfl, by simp [ti62, Value.oneCell'], fun fs h => by cases h⟩
theorem ro63 : RowOk (63, ti63) := ⟨by show (Tryd.prog.info? 63).map _ = _; kernel_rfl, by show (Tryd.prog.underlying 63).map dOf = _; kernel_rfl, rfl, by simp [ti63, Value.oneCell'], fun fs h => by cases h⟩
theorem ro64 : RowOk (64, ti64) := ⟨by show (Tryd.prog.info? 64).map _ = _; kernel_rfl, by show (Tryd.prog.underlying 64).map dOf = _; kernel_rfl, rfl, by simp [ti64, Value.oneCell'], fun fs h => by cases h⟩
theorem ro65 : RowOk (65, ti65) := ⟨by show (Tryd.prog.info? 65).map _ = _; kernel_rfl, by show (Tryd.prog.underlying 65).map dOf = _; kernel_rfl, rfl, by simp [ti65, Value.oneCell'], fun fs h => by cases h⟩
theorem ro66 : RowOk (66, ti66) := ⟨by show (Tryd.prog.info? 66).map _ = _; kernel_rfl, by show (Tryd.prog.underlying 66).map dOf = _; kernel_rfl, rfl, by simp [ti66, Value.oneCell'], fun fs h => by cases h⟩
theorem ro67 : RowOk (67, ti67) := ⟨by show (Tryd.prog.info? 67).map _ = _; kernel_rfl, by show (Tryd.prog.underlying 67).map dOf = _; kernel_rfl, rfl, by simp [ti67, Value.oneCell'], fun fs h => by cases h⟩
theorem ro68 : RowOk (68, ti68) := ⟨by show (Tryd.prog.info? 68).map _ = _; kernel_rfl, by show (Tryd.prog.underlying 68).map dOf = _; kernel_rfl, rfl, by simp [ti68, Value.oneCell'], fun fs h => by cases h⟩
theorem ro70 : RowOk (70, ti70) := ⟨by show (Tryd.prog.info? 70).map _ = _; kernel_rfl, by show (Tryd.prog.underlying 70).map dOf = _; kernel_rfl, rfl, by simp [ti70, Value.oneCell'], fun fs h => by cases h⟩
theorem ro71 : RowOk (71, ti71) := ⟨by show (Tryd.prog.info? 71).map _ = _; kernel_rfl, by show (Tryd.prog.underlying 71).map dOf = _; kernel_rfl, rfl, by simp [ti71, Value.oneCell'], fun fs h => by cases h⟩
theorem ro72 : RowOk (72, ti72) := ⟨by show (Tryd.prog.info? 72).map _ = _; kernel_rfl, by show (Tryd.prog.underlying 72).map dOf = _; kernel_rfl, rfl, by simp [ti72, Value.oneCell'], fun fs h => by cases h⟩
theorem ro73 : RowOk (73, ti73) := ⟨by show (Tryd.prog.info? 73).map _ = _; kernel_rfl, by show (Tryd.prog.underlying 73).map dOf = _; kernel_rfl, rfl, by simp [ti73, Value.oneCell'], fun fs h => by cases h⟩
theorem ro74 : RowOk (74, ti74) := ⟨by show (Tryd.prog.info? 74).map _ = _; kernel_rfl, by show (Tryd.prog.underlying 74).map dOf = _; kernel_rfl, rfl, by simp [ti74, Value.oneCell'], fun fs h => by cases h⟩
theorem ro75 : RowOk (75, ti75) := ⟨by show (Tryd.prog.info? 75).map _ = _; kernel_rfl, by show (Tryd.prog.underlying 75).map dOf = _; kernel_rfl, rfl, by simp [ti75, Value.oneCell'], fun fs h => by cases h⟩
theorem ro76 : RowOk (76, ti76) := ⟨by show (Tryd.prog.info? 76).map _ = _; kernel_rfl, by show (Tryd.prog.underlying 76).map dOf = _; kernel_rfl, rfl, by simp [ti76, Value.oneCell'], fun fs h => by cases h⟩
theorem ro77 : RowOk (77, ti77) := ⟨by show (Tryd.prog.info? 77).map _ = _; kernel_rfl, by show (Tryd.prog.underlying 77).map dOf = _; kernel_rfl, rfl, by simp [ti77, Value.oneCell'], fun fs h => by cases h⟩
theorem ro78 : RowOk (78, ti78) := ⟨by show (Tryd.prog.info? 78).map _ = _; kernel_rfl, by show (Tryd.prog.underlying 78).map dOf = _; kernel_rfl, rfl, by simp [ti78, Value.oneCell'], fun fs h => by cases h⟩
theorem ro79 : RowOk (79, ti79) := ⟨by show (Tryd.prog.info? 79).map _ = _; kernel_rfl, by show (Tryd.prog.underlying 79).map dOf = _; kernel_rfl, rfl, by simp [ti79, Value.oneCell'], fun fs h => by cases h⟩
theorem ro80 : RowOk (80, ti80) := ⟨by show (Tryd.prog.info? 80).map _ = _; kernel_rfl, by show (Tryd.prog.underlying 80).map dOf = _; kernel_rfl, rfl, by simp [ti80, Value.oneCell'], fun fs h => by cases h⟩
theorem ro81 : RowOk (81, ti81) := ⟨by show (Tryd.prog.info? 81).map _ = _; kernel_rfl, by show (Tryd.prog.underlying 81).map dOf = _; kernel_rfl, rfl, by simp [ti81, Value.oneCell'], fun fs h => by cases h⟩
theorem ro82 : RowOk (82, ti82) := ⟨by show (Tryd.prog.info? 82).map _ = _; kernel_rfl, by show (Tryd.prog.underlying 82).map dOf = _; kernel_rfl, rfl, by simp [ti82, Value.oneCell'], fun fs h => by cases h⟩
theorem ro83 : RowOk (83, ti83) := ⟨by show (Tryd.prog.info? 83).map _ = _; kernel_rfl, by show (Tryd.prog.underlying 83).map dOf = _; kernel_rfl, rfl, by simp [ti83, Value.oneCell'], fun fs h => by cases h⟩
theorem ro84 : RowOk (84, ti84) := ⟨by show (Tryd.prog.info? 84).map _ = _; kernel_rfl, by show (Tryd.prog.underlying 84).map dOf = _; kernel_rfl, rfl, by simp [ti84, Value.oneCell'], fun fs h => by cases h⟩
theorem ro85 : RowOk (85, ti85) := ⟨by show (Tryd.prog.info? 85).map _ = _; kernel_rfl, by show (Tryd.prog.underlying 85).map dOf = _; kernel_rfl, rfl, by simp [ti85, Value.oneCell'], fun fs h => by cases h⟩
theorem ro86 : RowOk (86, ti86) := ⟨by show (Tryd.prog.info? 86).map _ = _; kernel_rfl, by show (Tryd.prog.underlying 86).map dOf = _; kernel_rfl, rfl, by simp [ti86, Value.oneCell'], fun fs h => by cases h⟩
theorem ro87 : RowOk (87, ti87) := ⟨by show (Tryd.prog.info? 87).map _ = _; kernel_rfl, by show (Tryd.prog.underlying 87).map dOf = _; kernel_rfl, rfl, by simp [ti87, Value.oneCell'], fun fs h => by cases h⟩
theorem ro88 : RowOk (88, ti88) := ⟨by show (Tryd.prog.info? 88).map _ = _; kernel_rfl, by show (Tryd.prog.underlying 88).map dOf = _; kernel_rfl, rfl, by simp [ti88, Value.oneCell'], fun fs h => by cases h⟩
theorem ro89 : RowOk (89, ti89) := ⟨by show (Tryd.prog.info? 89).map _ = _; kernel_rfl, by show (Tryd.prog.underlying 89).map dOf = _; kernel_rfl, rfl, by simp [ti89, Value.oneCell'], fun fs h => by cases h⟩
theorem ro90 : RowOk (90, ti90) := ⟨by show (Tryd.prog.info? 90).map _ = _; kernel_rfl, by show (Tryd.prog.underlying 90).map dOf = _; kernel_rfl, rfl, by simp [ti90, Value.oneCell'], fun fs h => by cases h⟩
theorem ro91 : RowOk (91, ti91) := ⟨by show (Tryd.prog.info? 91).map _ = _; kernel_rfl, by show (Tryd.prog.underlying 91).map dOf = _; kernel_rfl, rfl, by simp [ti91, Value.oneCell'], fun fs h => by cases h⟩
theorem ro92 : RowOk (92, ti92) := ⟨by show (Tryd.prog.info? 92).map _ = _; kernel_rfl, by show (Tryd.prog.underlying 92).map dOf = _; kernel_rfl, rfl, by simp [ti92, Value.oneCell'], fun fs h => by cases h⟩
theorem ro93 : RowOk (93, ti93) := ⟨by show (Tryd.prog.info? 93).map _ = _; kernel_rfl, by show (Tryd.prog.underlying 93).map dOf = _; kernel_rfl, rfl, by simp [ti93, Value.oneCell'], fun fs h => by cases h⟩
theorem ro94 : RowOk (94, ti94) := ⟨by show (Tryd.prog.info? 94).map _ = _; kernel_rfl, by show (Tryd.prog.underlying 94).map dOf = _; kernel_rfl, rfl, by simp [ti94, Value.oneCell'], fun fs h => by cases h⟩
theorem ro95 : RowOk (95, ti95) := ⟨by show (Tryd.prog.info? 95).map _ = _; kernel_rfl, by show (Tryd.prog.underlying 95).map dOf = _; kernel_rfl, rfl, by simp [ti95, Value.oneCell'], fun fs h => by cases h⟩
theorem ro96 : RowOk (96, ti96) := ⟨by show (Tryd.prog.info? 96).map _ = _; kernel_rfl, by show (Tryd.prog.underlying 96).map dOf = _; kernel_rfl, rfl, by simp [ti96, Value.oneCell'], fun fs h => by cases h⟩
theorem ro97 : RowOk (97, ti97) := ⟨by show (Tryd.prog.info? 97).map _ = _; kernel_rfl, by show (Tryd.prog.underlying 97).map dOf = _; kernel_rfl, rfl, by simp [ti97, Value.oneCell'], fun fs h => by cases h⟩
theorem ro98 : RowOk (98, ti98) := ⟨by show (Tryd.prog.info? 98).map _ = _; kernel_rfl, by show (Tryd.prog.underlying 98).map dOf = _; kernel_rfl, rfl, by simp [ti98, Value.oneCell'], fun fs h => by cases h⟩
theorem ro99 : RowOk (99, ti99) := ⟨by show (Tryd.prog.info? 99).map _ = _; kernel_rfl, by show (Tryd.prog.underlying 99).map dOf = _; kernel_rfl, rfl, by simp [ti99, Value.oneCell'], fun fs h => by cases h⟩
theorem ro100 : RowOk (100, ti100) := ⟨by show (Tryd.prog.info? 100).map _ = _; kernel_rfl, by show (Tryd.prog.underlying 100).map dOf = _; kernel_rfl, rfl, by simp [ti100, Value.oneCell'], fun fs h => by cases h⟩
theorem ro101 : RowOk (101, ti101) := ⟨by show (Tryd.prog.info? 101).map _ = _; kernel_rfl, by show (Tryd.prog.underlying 101).map dOf = _; kernel_rfl, rfl, by simp [ti101, Value.oneCell'], fun fs h => by cases h⟩
theorem ro102 : RowOk (102, ti102) := ⟨by show (Tryd.prog.info? 102).map _ = _; kernel_rfl, by show (Tryd.prog.underlying 102).map dOf = _; kernel_rfl, rfl, by simp [ti102, Value.oneCell'], fun fs h => by cases h⟩
theorem ro103 : RowOk (103, ti103) := ⟨by show (Tryd.prog.info? 103).map _ = _; kernel_rfl, by show (Tryd.prog.underlying 103).map dOf = _; kernel_rfl, rfl, by simp [ti103, Value.oneCell'], fun fs h => by cases h⟩
theorem ro104 : RowOk (104, ti104) := ⟨by show (Tryd.prog.info? 104).map _ = _; kernel_rfl, by show (Tryd.prog.underlying 104).map dOf = _; kernel_rfl, rfl, by simp [ti104, Value.oneCell'], fun fs h => by cases h⟩
theorem ro105 : RowOk (105, ti105) := ⟨by show (Tryd.prog.info? 105).map _ = _; kernel_rfl, by show (Tryd.prog.underlying 105).map dOf = _; kernel_rfl, rfl, by simp [ti105, Value.oneCell'], fun fs h => by cases h⟩
theorem ro106 : RowOk (106, ti106) := ⟨by show (Tryd.prog.info? 106).map _ = _; kernel_rfl, by show (Tryd.prog.underlying 106).map dOf = _; kernel_rfl, rfl, by simp [ti106, Value.oneCell'], fun fs h => by cases h⟩
theorem ro107 : RowOk (107, ti107) := ⟨by show (Tryd.prog.info? 107).map _ = _; kernel_rfl, by show (Tryd.prog.underlying 107).map dOf = _; kernel_rfl, rfl, by simp [ti107, Value.oneCell'], fun fs h => by cases h⟩
theorem ro108 : RowOk (108, ti108) := ⟨by show (Tryd.prog.info? 108).map _ = _; kernel_rfl, by show (Tryd.prog.underlying 108).map dOf = _; kernel_rfl, rfl, by simp [ti108, Value.oneCell'], fun fs h => by cases h⟩
theorem ro109 : RowOk (109, ti109) := ⟨by show (Tryd.prog.info? 109).map _ = _; kernel_rfl, by show (Tryd.prog.underlying 109).map dOf = _; kernel_rfl, rfl, by simp [ti109, Value.oneCell'], fun fs h => by cases h⟩
theorem ro110 : RowOk (110, ti110) := ⟨by show (Tryd.prog.info? 110).map _ = _; kernel_rfl, by show (Tryd.prog.underlying 110).map dOf = _; kernel_rfl, rfl, by simp [ti110, Value.oneCell'], fun fs h => by cases h⟩
theorem ro111 : RowOk (111, ti111) := ⟨by show (Tryd.prog.info? 111).map _ = _; kernel_rfl, by show (Tryd.prog.underlying 111).map dOf = _; kernel_rfl, rfl, by simp [ti111, Value.oneCell'], fun fs h => by cases h⟩
theorem ro112 : RowOk (112, ti112) := ⟨by show (Tryd.prog.info? 112).map _ = _; kernel_rfl, by show (Tryd.prog.underlying 112).map dOf = _; kernel_rfl, rfl, by simp [ti112, Value.oneCell'], fun fs h => by cases h⟩
theorem ro113 : RowOk (113, ti113) := ⟨by show (Tryd.prog.info? 113).map _ = _; kernel_rfl, by show (Tryd.prog.underlying 113).map dOf = _; kernel_rfl, rfl, by simp [ti113, Value.oneCell'], fun fs h => by cases h⟩
theorem ro114 : RowOk (114, ti114) := ⟨by show (Tryd.prog.info? 114).map _ = _; kernel_rfl, by show (Tryd.prog.underlying 114).map dOf = _; kernel_rfl, rfl, by simp [ti114, Value.oneCell'], fun fs h => by cases h⟩
theorem ro115 : RowOk (115, ti115) := ⟨by show (Tryd.prog.info? 115).map _ = _; kernel_rfl, by show (Tryd.prog.underlying 115).map dOf = _; kernel_rfl, rfl, by simp [ti115, Value.oneCell'], fun fs h => by cases h⟩
theorem ro116 : RowOk (116, ti116) := ⟨by show (Tryd.prog.info? 116).map _ = _; kernel_rfl, by show (Tryd.prog.underlying 116).map dOf = _; kernel_rfl, rfl, by simp [ti116, Value.oneCell'], fun fs h => by cases h⟩
theorem ro117 : RowOk (117, ti117) := ⟨by show (Tryd.prog.info? 117).map _ = _; kernel_rfl, by show (Tryd.prog.underlying 117).map dOf = _; kernel_rfl, rfl, by simp [ti117, Value.oneCell'], fun fs h => by cases h⟩
theorem ro118 : RowOk (118, ti118) := ⟨by show (Tryd.prog.info? 118).map _ = _; kernel_rfl, by show (Tryd.prog.underlying 118).map dOf = _; kernel_rfl, rfl, by simp [ti118, Value.oneCell'], fun fs h => by cases h⟩
theorem ro119 : RowOk (119, ti119) := ⟨by show (Tryd.prog.info? 119).map _ = _; kernel_rfl, by show (Tryd.prog.underlying 119).map dOf = _; kernel_rfl, rfl, by simp [ti119, Value.oneCell'], fun fs h => by cases h⟩
theorem ro121 : RowOk (121, ti121) := ⟨by show (Tryd.prog.info? 121).map _ = _; kernel_rfl, by show (Tryd.prog.underlying 121).map dOf = _; kernel_rfl, rfl, by simp [ti121, Value.oneCell'], fun fs h => by cases h⟩
theorem ro122 : RowOk (122, ti122) := ⟨by show (Tryd.prog.info? 122).map _ = _; kernel_rfl, by show (Tryd.prog.underlying 122).map dOf = _; kernel_rfl, rfl, by simp [ti122, Value.oneCell'], fun fs h => by cases h⟩
theorem ro123 : RowOk (123, ti123) := ⟨by show (Tryd.prog.info? 123).map _ = _; kernel_rfl, by show (Tryd.prog.underlying 123).map dOf = _; kernel_rfl, rfl, by simp [ti123, Value.oneCell'], fun fs h => by cases h⟩
theorem ro125 : RowOk (125, ti125) := ⟨by show (Tryd.prog.info? 125).map _ = _; kernel_rfl, by show (Tryd.prog.underlying 125).map dOf = _; kernel_rfl, rfl, by simp [ti125, Value.oneCell'], fun fs h => by cases h⟩
theorem ro126 : RowOk (126, ti126) := ⟨by show (Tryd.prog.info? 126).map _ = _; kernel_rfl, by show (Tryd.prog.underlying 126).map dOf = _; kernel_rfl, rfl, by simp [ti126, Value.oneCell'], fun fs h => by cases h⟩
theorem ro127 : RowOk (127, ti127) := ⟨by show (Tryd.prog.info? 127).map _ = _; kernel_rfl, by show (Tryd.prog.underlying 127).map dOf = _; kernel_rfl, rfl, by simp [ti127, Value.oneCell'], fun fs h => by cases h⟩
theorem ro129 : RowOk (129, ti129) := ⟨by show (Tryd.prog.info? 129).map _ = _; kernel_rfl, by show (Tryd.prog.underlying 129).map dOf = _; kernel_rfl, rfl, by simp [ti129, Value.oneCell'], fun fs h => by cases h⟩
theorem ro130 : RowOk (130, ti130) := ⟨by show (Tryd.prog.info? 130).map _ = _; kernel_rfl, by show (Tryd.prog.underlying 130).map dOf = _; kernel_rfl, rfl, by simp [ti130, Value.oneCell'], fun fs h => by cases h⟩
theorem ro131 : RowOk (131, ti131) := ⟨by show (Tryd.prog.info? 131).map _ = _; kernel_rfl, by show (Tryd.prog.underlying 131).map dOf = _; kernel_rfl, rfl, by simp [ti131, Value.oneCell'], fun fs h => by cases h⟩
theorem ro133 : RowOk (133, ti133) := ⟨by show (Tryd.prog.info? 133).map _ = _; kernel_rfl, by show (Tryd.prog.underlying 133).map dOf = _; kernel_rfl, rfl, by simp [ti133, Value.oneCell'], fun fs h => by cases h⟩
theorem ro136 : RowOk (136, ti136) := ⟨by show (Tryd.prog.info? 136).map _ = _; kernel_rfl, by show (Tryd.prog.underlying 136).map dOf = _; kernel_rfl, rfl, by simp [ti136, Value.oneCell'], fun fs h => by cases h⟩
theorem ro137 : RowOk (137, ti137) := ⟨by show (Tryd.prog.info? 137).map _ = _; kernel_rfl, by show (Tryd.prog.underlying 137).map dOf = _; kernel_rfl, rfl, by simp [ti137, Value.oneCell'], fun fs h => by cases h⟩
theorem ro138 : RowOk (138, ti138) := ⟨by show (Tryd.prog.info? 138).map _ = _; kernel_rfl, by show (Tryd.prog.underlying 138).map dOf = _; kernel_rfl, rfl, by simp [ti138, Value.oneCell'], fun fs h => by cases h⟩
theorem ro139 : RowOk (139, ti139) := ⟨by show (Tryd.prog.info? 139).map _ = _; kernel_rfl, by show (Tryd.prog.underlying 139).map dOf = _; kernel_rfl, rfl, by simp [ti139, Value.oneCell'], fun fs h => by cases h⟩
theorem ro140 : RowOk (140, ti140) := ⟨by show (Tryd.prog.info? 140).map _ = _; kernel_rfl, by show (Tryd.prog.underlying 140).map dOf = _; kernel_rfl, rfl, by simp [ti140, Value.oneCell'], fun fs h => by cases h⟩
theorem ro142 : RowOk (142, ti142) := ⟨by show (Tryd.prog.info? 142).map _ = _; kernel_rfl, by show (Tryd.prog.underlying 142).map dOf = _; kernel_rfl, rfl, by simp [ti142, Value.oneCell'], fun fs h => by cases h⟩
theorem ro144 : RowOk (144, ti144) := ⟨by show (Tryd.prog.info? 144).map _ = _; kernel_rfl, by show (Tryd.prog.underlying 144).map dOf = _; kernel_rfl, rfl, by simp [ti144, Value.oneCell'], fun fs h => by cases h⟩
theorem ro145 : RowOk (145, ti145) := ⟨by show (Tryd.prog.info? 145).map _ = _; kernel_rfl, by show (Tryd.prog.underlying 145).map dOf = _; kernel_rfl, rfl, by simp [ti145, Value.oneCell'], fun fs h => by cases h⟩
theorem ro147 : RowOk (147, ti147) := ⟨by show (Tryd.prog.info? 147).map _ = _; kernel_rfl, by show (Tryd.prog.underlying 147).map dOf = _; kernel_rfl, rfl, by simp [ti147, Value.oneCell'], fun fs h => by cases h⟩
theorem ro148 : RowOk (148, ti148) := ⟨by show (Tryd.prog.info? 148).map _ = _; kernel_rfl, by show (Tryd.prog.underlying 148).map dOf = _; kernel_rfl, rfl, by simp [ti148, Value.oneCell'], fun fs h => by cases h⟩
theorem ro149 : RowOk (149, ti149) := ⟨by show (Tryd.prog.info? 149).map _ = _; kernel_rfl, by show (Tryd.prog.underlying 149).map dOf = _; kernel_rfl, rfl, by simp [ti149, Value.oneCell'], fun fs h => by cases h⟩
theorem ro150 : RowOk (150, ti150) := ⟨by show (Tryd.prog.info? 150).map _ = _; kernel_rfl, by show (Tryd.prog.underlying 150).map dOf = _; kernel_rfl, rfl, by simp [ti150, Value.oneCell'], fun fs h => by cases h⟩
theorem ro151 : RowOk (151, ti151) := ⟨by show (Tryd.prog.info? 151).map _ = _; kernel_rfl, by show (Tryd.prog.underlying 151).map dOf = _; kernel_rfl, rfl, by simp [ti151, Value.oneCell'], fun fs h => by cases h⟩
theorem ro152 : RowOk (152, ti152) := ⟨by show (Tryd.prog.info? 152).map _ = _; kernel_rfl, by show (Tryd.prog.underlying 152).map dOf = _; kernel_rfl, rfl, by simp [ti152, Value.oneCell'], fun fs h => by cases h⟩
theorem ro153 : RowOk (153, ti153) := ⟨by show (Tryd.prog.info? 153).map _ = _; kernel_rfl, by show (Tryd.prog.underlying 153).map dOf = _; kernel_rfl, rfl, by simp [ti153, Value.oneCell'], fun fs h => by cases h⟩
theorem ro154 : RowOk (154, ti154) := ⟨by show (Tryd.prog.info? 154).map _ = _; kernel_rfl, by show (Tryd.prog.underlying 154).map dOf = _; kernel_rfl, rfl, by simp [ti154, Value.oneCell'], fun fs h => by cases h⟩
theorem ro156 : RowOk (156, ti156) := ⟨by show (Tryd.prog.info? 156).map _ = _; kernel_rfl, by show (Tryd.prog.underlying 156).map dOf = _; kernel_rfl, rfl, by simp [ti156, Value.oneCell'], fun fs h => by cases h⟩
theorem ro160 : RowOk (160, ti160) := ⟨by show (Tryd.prog.info? 160).map _ = _; kernel_rfl, by show (Tryd.prog.underlying 160).map dOf = _; kernel_rfl, rfl, by simp [ti160, Value.oneCell'], fun fs h => by cases h⟩
theorem ro166 : RowOk (166, ti166) := ⟨by show (Tryd.prog.info? 166).map _ = _; kernel_rfl, by show (Tryd.prog.underlying 166).map dOf = _; kernel_rfl, rfl, by simp [ti166, Value.oneCell'], fun fs h => by cases h⟩
theorem ro169 : RowOk (169, ti169) := ⟨by show (Tryd.prog.info? 169).map _ = _; kernel_rfl, by show (Tryd.prog.underlying 169).map dOf = _; kernel_rfl, rfl, by simp [ti169, Value.oneCell'], fun fs h => by cases h⟩
theorem ro174 : RowOk (174, ti174) := ⟨by show (Tryd.prog.info? 174).map _ = _; kernel_rfl, by show (Tryd.prog.underlying 174).map dOf = _; kernel_rfl, rfl, by simp [ti174, Value.oneCell'], fun fs h => by cases h⟩
theorem ro175 : RowOk (175, ti175) := ⟨by show (Tryd.prog.info? 175).map _ = _; kernel_rfl, by show (Tryd.prog.underlying 175).map dOf = _; kernel_rfl, rfl, by simp [ti175, Value.oneCell'], fun fs h => by cases h⟩
theorem tl_ok : ∀ p ∈ tl, RowOk p := by
  unfold tl
  exact List.forall_mem_cons.2 ⟨ro1, List.forall_mem_cons.2 ⟨ro2, List.forall_mem_cons.2 ⟨ro3, List.forall_mem_cons.2 ⟨ro4, List.forall_mem_cons.2 ⟨ro5, List.forall_mem_cons.2 ⟨ro9, List.forall_mem_cons.2 ⟨ro12, List.forall_mem_cons.2 ⟨ro13, List.forall_mem_cons.2 ⟨ro20, List.forall_mem_cons.2 ⟨ro21, List.forall_mem_cons.2 ⟨ro22, List.forall_mem_cons.2 ⟨ro23, List.forall_mem_cons.2 ⟨ro24, List.forall_mem_cons.2 ⟨ro26, List.forall_mem_cons.2 ⟨ro27, List.forall_mem_cons.2 ⟨ro28, List.forall_mem_cons.2 ⟨ro29, List.forall_mem_cons.2 ⟨ro30, List.forall_mem_cons.2 ⟨ro31, List.forall_mem_cons.2 ⟨ro32, List.forall_mem_cons.2 ⟨ro33, List.forall_mem_cons.2 ⟨ro35, List.forall_mem_cons.2 ⟨ro36, List.forall_mem_cons.2 ⟨ro37, List.forall_mem_cons.2 ⟨ro39, List.forall_mem_cons.2 ⟨ro40, List.forall_mem_cons.2 ⟨ro41, List.forall_mem_cons.2 ⟨ro42, List.forall_mem_cons.2 ⟨ro43, List.forall_mem_cons.2 ⟨ro45, List.forall_mem_cons.2 ⟨ro46, List.forall_mem_cons.2 ⟨ro47, List.forall_mem_cons.2 ⟨ro48, List.forall_mem_cons.2 ⟨ro49, List.forall_mem_cons.2 ⟨ro50, List.forall_mem_cons.2 ⟨ro51, List.forall_mem_cons.2 ⟨ro52, List.forall_mem_cons.2 ⟨ro53, List.forall_mem_cons.2 ⟨ro54, List.forall_mem_cons.2 ⟨ro55, List.forall_mem_cons.2 ⟨ro56, List.forall_mem_cons.2 ⟨ro57, List.forall_mem_cons.2 ⟨ro58, List.forall_mem_cons.2 ⟨ro59, List.forall_mem_cons.2 ⟨ro61, List.forall_mem_cons.2 ⟨ro62, List.forall_mem_cons.2 ⟨ro63, List.forall_mem_cons.2 ⟨ro64, List.forall_mem_cons.2 ⟨ro65, List.forall_mem_cons.2 ⟨ro66, List.forall_mem_cons.2 ⟨ro67, List.forall_mem_cons.2 ⟨ro68, List.forall_mem_cons.2 ⟨ro70, List.forall_mem_cons.2 ⟨ro71, List.forall_mem_cons.2 ⟨ro72, List.forall_mem_cons.2 ⟨ro73, List.forall_mem_cons.2 ⟨ro74, List.forall_mem_cons.2 ⟨ro75, List.forall_mem_cons.2 ⟨ro76, List.forall_mem_cons.2 ⟨ro77, List.forall_mem_cons.2 ⟨ro78, List.forall_mem_cons.2 ⟨ro79, List.forall_mem_cons.2 ⟨ro80, List.forall_mem_cons.2 ⟨ro81, List.forall_mem_cons.2 ⟨ro82, List.forall_mem_cons.2 ⟨ro83, List.forall_mem_cons.2 ⟨ro84, List.forall_mem_cons.2 ⟨ro85, List.forall_mem_cons.2 ⟨ro86, List.forall_mem_cons.2 ⟨ro87, List.forall_mem_cons.2 ⟨ro88, List.forall_mem_cons.2 ⟨ro89, List.forall_mem_cons.2 ⟨ro90, List.forall_mem_cons.2 ⟨ro91, List.forall_mem_cons.2 ⟨ro92, List.forall_mem_cons.2 ⟨ro93, List.forall_mem_cons.2 ⟨ro94, List.forall_mem_cons.2 ⟨ro95, List.forall_mem_cons.2 ⟨ro96, List.forall_mem_cons.2 ⟨ro97, List.forall_mem_cons.2 ⟨ro98, List.forall_mem_cons.2 ⟨ro99, List.forall_mem_cons.2 ⟨ro100, List.forall_mem_cons.2 ⟨ro101, List.forall_mem_cons.2 ⟨ro102, List.forall_mem_cons.2 ⟨ro103, List.forall_mem_cons.2 ⟨ro104, List.forall_mem_cons.2 ⟨ro105, List.forall_mem_cons.2 ⟨ro106, List.forall_mem_cons.2 ⟨ro107, List.forall_mem_cons.2 ⟨ro108, List.forall_mem_cons.2 ⟨ro109, List.forall_mem_cons.2 ⟨ro110, List.forall_mem_cons.2 ⟨ro111, List.forall_mem_cons.2 ⟨ro112, List.forall_mem_cons.2 ⟨ro113, List.forall_mem_cons.2 ⟨ro114, List.forall_mem_cons.2 ⟨ro115, List.forall_mem_cons.2 ⟨ro116, List.forall_mem_cons.2 ⟨ro117, List.forall_mem_cons.2 ⟨ro118, List.forall_mem_cons.2 ⟨ro119, List.forall_mem_cons.2 ⟨ro121, List.forall_mem_cons.2 ⟨ro122, List.forall_mem_cons.2 ⟨ro123, List.forall_mem_cons.2 ⟨ro125, List.forall_mem_cons.2 ⟨ro126, List.forall_mem_cons.2 ⟨ro127, List.forall_mem_cons.2 ⟨ro129, List.forall_mem_cons.2 ⟨ro130, List.forall_mem_cons.2 ⟨ro131, List.forall_mem_cons.2 ⟨ro133, List.forall_mem_cons.2 ⟨ro136, List.forall_mem_cons.2 ⟨ro137, List.forall_mem_cons.2 ⟨ro138, List.forall_mem_cons.2 ⟨ro139, List.forall_mem_cons.2 ⟨ro140, List.forall_mem_cons.2 ⟨ro142, List.forall_mem_cons.2 ⟨ro144, List.forall_mem_cons.2 ⟨ro145, List.forall_mem_cons.2 ⟨ro147, List.forall_mem_cons.2 ⟨ro148, List.forall_mem_cons.2 ⟨ro149, List.forall_mem_cons.2 ⟨ro150, List.forall_mem_cons.2 ⟨ro151, List.forall_mem_cons.2 ⟨ro152, List.forall_mem_cons.2 ⟨ro153, List.forall_mem_cons.2 ⟨ro154, List.forall_mem_cons.2 ⟨ro156, List.forall_mem_cons.2 ⟨ro160, List.forall_mem_cons.2 ⟨ro166, List.forall_mem_cons.2 ⟨ro169, List.forall_mem_cons.2 ⟨ro174, List.forall_mem_cons.2 ⟨ro175, (fun _ h => by cases h)⟩⟩⟩⟩⟩⟩⟩⟩⟩⟩⟩⟩⟩⟩⟩⟩⟩⟩⟩⟩⟩⟩⟩⟩⟩⟩⟩⟩⟩⟩⟩⟩⟩⟩⟩⟩⟩⟩⟩⟩⟩⟩⟩⟩⟩⟩⟩⟩⟩⟩⟩⟩⟩⟩⟩⟩⟩⟩⟩⟩⟩⟩⟩⟩⟩⟩⟩⟩⟩⟩⟩⟩⟩⟩⟩⟩⟩⟩⟩⟩⟩⟩⟩⟩⟩⟩⟩⟩⟩⟩⟩⟩⟩⟩⟩⟩⟩⟩⟩⟩⟩⟩⟩⟩⟩⟩⟩⟩⟩⟩⟩⟩⟩⟩⟩⟩⟩⟩⟩⟩⟩⟩⟩⟩⟩⟩⟩⟩⟩⟩⟩⟩⟩⟩
theorem hMix : Tryd.prog.follows .mixedOrders = true := by kernel_rfl
theorem Tb_mem {t : Nat} {i : TI} (h : Tb t = some i) : RowOk (t, i) := by
  unfold Tb at h
  cases hf : tl.find? (fun p => p.1 == t) with
  | none => rw [hf] at h; cases h
  | some p =>
    rw [hf] at h
    have hm := List.mem_of_find?_eq_some hf
    have hp : (p.1 == t) = true := List.find?_some (p := fun p : Nat × TI => p.1 == t) hf
    cases h
    have := beq_iff_eq.1 hp
    subst this
    exact tl_ok p hm
theorem hTb : TabOk Tryd.prog Tb := ⟨fun _ _ h => (Tb_mem h).1, fun _ _ h => (Tb_mem h).2.1, fun _ _ h => ⟨(Tb_mem h).2.2.1, (Tb_mem h).2.2.2.1⟩, fun _ _ fs h => (Tb_mem h).2.2.2.2 fs⟩
end Go.Vl

/- The table of types of this seat's program, and that it is the program's. Written by our own gentab.py. -/
import Derived.Test.YthjgifpjknnimaaProg
import Derived.Test.YthjgifpjknnimaaWa
import Derived.KernelRfl
namespace Go.Vl
open Go Go.Proofs
set_option maxRecDepth 100000
def ti1 : TI := ⟨.other, 1, 8, [.nilFunc], none⟩
def ti2 : TI := ⟨.int .i64, 1, 8, [.int .i64 0], none⟩
def ti3 : TI := ⟨.int .i64, 1, 8, [.int .i64 0], none⟩
def ti4 : TI := ⟨.bool, 1, 1, [.bool false], none⟩
def ti5 : TI := ⟨.int .u8, 1, 1, [.int .u8 0], none⟩
def ti9 : TI := ⟨.str, 1, 16, [.string ⟨#[]⟩], none⟩
def ti12 : TI := ⟨.int .u64, 1, 8, [.int .u64 0], none⟩
def ti13 : TI := ⟨.st [(0, 9), (1, 12)], 2, 24, [.string ⟨#[]⟩, .int .u64 0], none⟩
def ti20 : TI := ⟨.other, 1, 16, [.nilIface], none⟩
def ti21 : TI := ⟨.int .i32, 1, 4, [.int .i32 0], none⟩
def ti22 : TI := ⟨.sl 90, 1, 24, [.slice none 0 0], none⟩
def ti23 : TI := ⟨.sl 27, 1, 24, [.slice none 0 0], none⟩
def ti24 : TI := ⟨.st [(0, 3), (1, 3), (2, 9)], 3, 32, [.int .i64 0, .int .i64 0, .string ⟨#[]⟩], none⟩
def ti25 : TI := ⟨.st [(0, 3), (1, 3), (2, 9)], 3, 32, [.int .i64 0, .int .i64 0, .string ⟨#[]⟩], some [(0, 3), (1, 3), (2, 9)]⟩
def ti26 : TI := ⟨.st [(0, 9), (1, 3), (2, 4), (3, 4), (4, 25)], 7, 64, [.string ⟨#[]⟩, .int .i64 0, .bool false, .bool false, .int .i64 0, .int .i64 0, .string ⟨#[]⟩], none⟩
def ti27 : TI := ⟨.st [(0, 9), (1, 3), (2, 4), (3, 4), (4, 25)], 7, 64, [.string ⟨#[]⟩, .int .i64 0, .bool false, .bool false, .int .i64 0, .int .i64 0, .string ⟨#[]⟩], some [(0, 9), (1, 3), (2, 4), (3, 4), (4, 25)]⟩
def ti28 : TI := ⟨.st [(0, 3), (1, 9), (2, 9), (3, 27)], 10, 104, [.int .i64 0, .string ⟨#[]⟩, .string ⟨#[]⟩, .string ⟨#[]⟩, .int .i64 0, .bool false, .bool false, .int .i64 0, .int .i64 0, .string ⟨#[]⟩], none⟩
def ti29 : TI := ⟨.st [(0, 3), (1, 9), (2, 9), (3, 27)], 10, 104, [.int .i64 0, .string ⟨#[]⟩, .string ⟨#[]⟩, .string ⟨#[]⟩, .int .i64 0, .bool false, .bool false, .int .i64 0, .int .i64 0, .string ⟨#[]⟩], some [(0, 3), (1, 9), (2, 9), (3, 27)]⟩
def ti30 : TI := ⟨.st [(0, 9), (1, 9), (2, 9), (3, 3)], 4, 56, [.string ⟨#[]⟩, .string ⟨#[]⟩, .string ⟨#[]⟩, .int .i64 0], none⟩
def ti31 : TI := ⟨.st [(0, 9), (1, 9), (2, 9), (3, 3)], 4, 56, [.string ⟨#[]⟩, .string ⟨#[]⟩, .string ⟨#[]⟩, .int .i64 0], some [(0, 9), (1, 9), (2, 9), (3, 3)]⟩
def ti32 : TI := ⟨.st [(0, 3), (1, 9), (2, 3), (3, 22), (4, 23), (5, 29), (15, 31)], 19, 240, [.int .i64 0, .string ⟨#[]⟩, .int .i64 0, .slice none 0 0, .slice none 0 0, .int .i64 0, .string ⟨#[]⟩, .string ⟨#[]⟩, .string ⟨#[]⟩, .int .i64 0, .bool false, .bool false, .int .i64 0, .int .i64 0, .string ⟨#[]⟩, .string ⟨#[]⟩, .string ⟨#[]⟩, .string ⟨#[]⟩, .int .i64 0], none⟩
def ti33 : TI := ⟨.st [(0, 3), (1, 9), (2, 3), (3, 22), (4, 23), (5, 29), (15, 31)], 19, 240, [.int .i64 0, .string ⟨#[]⟩, .int .i64 0, .slice none 0 0, .slice none 0 0, .int .i64 0, .string ⟨#[]⟩, .string ⟨#[]⟩, .string ⟨#[]⟩, .int .i64 0, .bool false, .bool false, .int .i64 0, .int .i64 0, .string ⟨#[]⟩, .string ⟨#[]⟩, .string ⟨#[]⟩, .string ⟨#[]⟩, .int .i64 0], none⟩
def ti34 : TI := ⟨.other, 1, 8, [.nilFunc], none⟩
def ti35 : TI := ⟨.other, 1, 8, [.nilFunc], none⟩
def ti36 : TI := ⟨.sl 92, 1, 24, [.slice none 0 0], none⟩
def ti37 : TI := ⟨.sl 40, 1, 24, [.slice none 0 0], none⟩
def ti38 : TI := ⟨.st [(0, 3), (1, 3), (2, 9)], 3, 32, [.int .i64 0, .int .i64 0, .string ⟨#[]⟩], some [(0, 3), (1, 3), (2, 9)]⟩
def ti39 : TI := ⟨.st [(0, 9), (1, 3), (2, 4), (3, 4), (4, 38)], 7, 64, [.string ⟨#[]⟩, .int .i64 0, .bool false, .bool false, .int .i64 0, .int .i64 0, .string ⟨#[]⟩], none⟩
def ti40 : TI := ⟨.st [(0, 9), (1, 3), (2, 4), (3, 4), (4, 38)], 7, 64, [.string ⟨#[]⟩, .int .i64 0, .bool false, .bool false, .int .i64 0, .int .i64 0, .string ⟨#[]⟩], some [(0, 9), (1, 3), (2, 4), (3, 4), (4, 38)]⟩
def ti41 : TI := ⟨.st [(0, 3), (1, 9), (2, 9), (3, 40)], 10, 104, [.int .i64 0, .string ⟨#[]⟩, .string ⟨#[]⟩, .string ⟨#[]⟩, .int .i64 0, .bool false, .bool false, .int .i64 0, .int .i64 0, .string ⟨#[]⟩], none⟩
def ti42 : TI := ⟨.st [(0, 3), (1, 9), (2, 9), (3, 40)], 10, 104, [.int .i64 0, .string ⟨#[]⟩, .string ⟨#[]⟩, .string ⟨#[]⟩, .int .i64 0, .bool false, .bool false, .int .i64 0, .int .i64 0, .string ⟨#[]⟩], some [(0, 3), (1, 9), (2, 9), (3, 40)]⟩
def ti43 : TI := ⟨.st [(0, 9), (1, 9), (2, 9), (3, 3)], 4, 56, [.string ⟨#[]⟩, .string ⟨#[]⟩, .string ⟨#[]⟩, .int .i64 0], some [(0, 9), (1, 9), (2, 9), (3, 3)]⟩
def ti44 : TI := ⟨.st [(0, 3), (1, 9), (2, 3), (3, 36), (4, 37), (5, 42), (15, 43)], 19, 240, [.int .i64 0, .string ⟨#[]⟩, .int .i64 0, .slice none 0 0, .slice none 0 0, .int .i64 0, .string ⟨#[]⟩, .string ⟨#[]⟩, .string ⟨#[]⟩, .int .i64 0, .bool false, .bool false, .int .i64 0, .int .i64 0, .string ⟨#[]⟩, .string ⟨#[]⟩, .string ⟨#[]⟩, .string ⟨#[]⟩, .int .i64 0], none⟩
def ti45 : TI := ⟨.st [(0, 3), (1, 9), (2, 3), (3, 36), (4, 37), (5, 42), (15, 43)], 19, 240, [.int .i64 0, .string ⟨#[]⟩, .int .i64 0, .slice none 0 0, .slice none 0 0, .int .i64 0, .string ⟨#[]⟩, .string ⟨#[]⟩, .string ⟨#[]⟩, .int .i64 0, .bool false, .bool false, .int .i64 0, .int .i64 0, .string ⟨#[]⟩, .string ⟨#[]⟩, .string ⟨#[]⟩, .string ⟨#[]⟩, .int .i64 0], none⟩
def ti46 : TI := ⟨.other, 1, 8, [.nilFunc], none⟩
def ti47 : TI := ⟨.other, 1, 8, [.nilFunc], none⟩
def ti48 : TI := ⟨.other, 1, 8, [.nilFunc], none⟩
def ti49 : TI := ⟨.other, 1, 8, [.nilFunc], none⟩
def ti50 : TI := ⟨.sl 42, 1, 24, [.slice none 0 0], none⟩
def ti51 : TI := ⟨.sl 106, 1, 24, [.slice none 0 0], none⟩
def ti52 : TI := ⟨.st [(0, 37), (1, 50), (2, 51), (3, 3)], 4, 80, [.slice none 0 0, .slice none 0 0, .slice none 0 0, .int .i64 0], none⟩
def ti53 : TI := ⟨.st [(0, 37), (1, 50), (2, 51), (3, 3)], 4, 80, [.slice none 0 0, .slice none 0 0, .slice none 0 0, .int .i64 0], none⟩
def ti54 : TI := ⟨.other, 1, 8, [.nilFunc], none⟩
def ti55 : TI := ⟨.other, 1, 8, [.nilFunc], none⟩
def ti56 : TI := ⟨.other, 1, 8, [.nilFunc], none⟩
def ti57 : TI := ⟨.other, 1, 8, [.nilFunc], none⟩
def ti58 : TI := ⟨.other, 1, 8, [.nilFunc], none⟩
def ti59 : TI := ⟨.other, 1, 8, [.nilFunc], none⟩
def ti60 : TI := ⟨.other, 1, 8, [.nilFunc], none⟩
def ti61 : TI := ⟨.other, 1, 8, [.nilFunc], none⟩
def ti62 : TI := ⟨.other, 1, 8, [.nilFunc], none⟩
def ti63 : TI := ⟨.other, 1, 8, [.nilFunc], none⟩
def ti64 : TI := ⟨.other, 1, 8, [.nilFunc], none⟩
def ti65 : TI := ⟨.other, 1, 8, [.nilFunc], none⟩
def ti66 : TI := ⟨.other, 1, 8, [.nilFunc], none⟩
def ti67 : TI := ⟨.other, 1, 8, [.nilFunc], none⟩
def ti68 : TI := ⟨.other, 1, 8, [.nilFunc], none⟩
def ti69 : TI := ⟨.other, 1, 8, [.nilFunc], none⟩
def ti70 : TI := ⟨.other, 1, 8, [.nilFunc], none⟩
def ti71 : TI := ⟨.other, 1, 8, [.nilFunc], none⟩
def ti72 : TI := ⟨.other, 1, 8, [.nilFunc], none⟩
def ti73 : TI := ⟨.other, 1, 8, [.nilFunc], none⟩
def ti74 : TI := ⟨.other, 1, 8, [.nilFunc], none⟩
def ti75 : TI := ⟨.other, 1, 8, [.nilFunc], none⟩
def ti76 : TI := ⟨.other, 1, 8, [.nilFunc], none⟩
def ti77 : TI := ⟨.other, 1, 8, [.nilFunc], none⟩
def ti78 : TI := ⟨.other, 1, 8, [.nilFunc], none⟩
def ti79 : TI := ⟨.other, 1, 8, [.nilFunc], none⟩
def ti80 : TI := ⟨.other, 1, 8, [.nilFunc], none⟩
def ti81 : TI := ⟨.other, 1, 8, [.nilFunc], none⟩
def ti82 : TI := ⟨.other, 1, 8, [.nilFunc], none⟩
def ti83 : TI := ⟨.other, 1, 8, [.nilFunc], none⟩
def ti84 : TI := ⟨.other, 1, 8, [.nilFunc], none⟩
def ti85 : TI := ⟨.other, 1, 8, [.nilFunc], none⟩
def ti86 : TI := ⟨.other, 1, 8, [.nilFunc], none⟩
def ti87 : TI := ⟨.other, 1, 8, [.nilFunc], none⟩
def ti88 : TI := ⟨.other, 1, 8, [.nilFunc], none⟩
def ti89 : TI := ⟨.st [(0, 9), (1, 25)], 4, 48, [.string ⟨#[]⟩, .int .i64 0, .int .i64 0, .string ⟨#[]⟩], none⟩
def ti90 : TI := ⟨.st [(0, 9), (1, 25)], 4, 48, [.string ⟨#[]⟩, .int .i64 0, .int .i64 0, .string ⟨#[]⟩], some [(0, 9), (1, 25)]⟩
def ti91 : TI := ⟨.st [(0, 9), (1, 38)], 4, 48, [.string ⟨#[]⟩, .int .i64 0, .int .i64 0, .string ⟨#[]⟩], none⟩
def ti92 : TI := ⟨.st [(0, 9), (1, 38)], 4, 48, [.string ⟨#[]⟩, .int .i64 0, .int .i64 0, .string ⟨#[]⟩], some [(0, 9), (1, 38)]⟩
def ti93 : TI := ⟨.other, 1, 8, [.nilFunc], none⟩
def ti94 : TI := ⟨.other, 1, 8, [.nilFunc], none⟩
def ti95 : TI := ⟨.other, 1, 8, [.nilFunc], none⟩
def ti96 : TI := ⟨.other, 1, 8, [.nilFunc], none⟩
def ti97 : TI := ⟨.other, 1, 8, [.nilFunc], none⟩
def ti98 : TI := ⟨.other, 1, 8, [.nilFunc], none⟩
def ti99 : TI := ⟨.other, 1, 8, [.nilFunc], none⟩
def ti100 : TI := ⟨.other, 1, 8, [.nilFunc], none⟩
def ti101 : TI := ⟨.other, 1, 8, [.nilFunc], none⟩
def ti102 : TI := ⟨.other, 1, 8, [.nilFunc], none⟩
def ti103 : TI := ⟨.other, 1, 8, [.nilFunc], none⟩
def ti104 : TI := ⟨.sl 38, 1, 24, [.slice none 0 0], none⟩
def ti105 : TI := ⟨.st [(0, 3), (1, 3), (2, 104)], 3, 40, [.int .i64 0, .int .i64 0, .slice none 0 0], none⟩
def ti106 : TI := ⟨.st [(0, 3), (1, 3), (2, 104)], 3, 40, [.int .i64 0, .int .i64 0, .slice none 0 0], none⟩
def ti107 : TI := ⟨.other, 1, 8, [.nilFunc], none⟩
def ti108 : TI := ⟨.sl 5, 1, 24, [.slice none 0 0], none⟩
def ti109 : TI := ⟨.other, 1, 8, [.nilFunc], none⟩
def ti110 : TI := ⟨.other, 1, 8, [.nilFunc], none⟩
def ti111 : TI := ⟨.other, 1, 8, [.nilFunc], none⟩
def ti112 : TI := ⟨.other, 1, 8, [.nilFunc], none⟩
def ti118 : TI := ⟨.other, 1, 8, [.nilFunc], none⟩
def ti119 : TI := ⟨.int .u32, 1, 4, [.int .u32 0], none⟩
def ti122 : TI := ⟨.other, 1, 8, [.nilFunc], none⟩
def ti123 : TI := ⟨.other, 1, 8, [.pointer none], none⟩
def ti128 : TI := ⟨.other, 1, 8, [.nilFunc], none⟩
def ti129 : TI := ⟨.other, 1, 8, [.pointer none], none⟩
def tl : List (Nat × TI) := [(1, ti1), (2, ti2), (3, ti3), (4, ti4), (5, ti5), (9, ti9), (12, ti12), (13, ti13), (20, ti20), (21, ti21), (22, ti22), (23, ti23), (24, ti24), (25, ti25), (26, ti26), (27, ti27), (28, ti28), (29, ti29), (30, ti30), (31, ti31), (32, ti32), (33, ti33), (34, ti34), (35, ti35), (36, ti36), (37, ti37), (38, ti38), (39, ti39), (40, ti40), (41, ti41), (42, ti42), (43, ti43), (44, ti44), (45, ti45), (46, ti46), (47, ti47), (48, ti48), (49, ti49), (50, ti50), (51, ti51), (52, ti52), (53, ti53), (54, ti54), (55, ti55), (56, ti56), (57, ti57), (58, ti58), (59, ti59), (60, ti60), (61, ti61), (62, ti62), (63, ti63), (64, ti64), (65, ti65), (66, ti66), (67, ti67), (68, ti68), (69, ti69), (70, ti70), (71, ti71), (72, ti72), (73, ti73), (74, ti74), (75, ti75), (76, ti76), (77, ti77), (78, ti78), (79, ti79), (80, ti80), (81, ti81), (82, ti82), (83, ti83), (84, ti84), (85, ti85), (86, ti86), (87, ti87), (88, ti88), (89, ti89), (90, ti90), (91, ti91), (92, ti92), (93, ti93), (94, ti94), (95, ti95), (96, ti96), (97, ti97), (98, ti98), (99, ti99), (100, ti100), (101, ti101), (102, ti102), (103, ti103), (104, ti104), (105, ti105), (106, ti106), (107, ti107), (108, ti108), (109, ti109), (110, ti110), (111, ti111), (112, ti112), (118, ti118), (119, ti119), (122, ti122), (123, ti123), (128, ti128), (129, ti129)]
def Tb : Tab := fun t => (tl.find? (fun p => p.1 == t)).map (·.2)
def RowOk (p : Nat × TI) : Prop := (Try.prog.info? p.1).map (fun x => (x.size, x.bytes, x.zero.map (·.cells.toList))) = some (p.2.size, p.2.bytes, some p.2.zero) ∧ (Try.prog.underlying p.1).map dOf = some p.2.d ∧ p.2.zero.length = p.2.size ∧ (∀ z ∈ p.2.zero, z.oneCell' = true) ∧ ∀ fs, p.2.eqf = some fs → Try.prog.underlying p.1 = some (.struct (Try.prog.fieldsOf p.1)) ∧ Try.prog.stoodInHeld p.1 = false ∧ Try.prog.eqGuardType Try.prog.depth p.1 = false ∧ (Try.prog.fieldsOf p.1).toList.map (fun f => (f.name == "_", f.offset, f.type)) = fs.map (fun p => (false, p.1, p.2))
theorem ro1 : RowOk (1, ti1) := ⟨by show (Try.prog.info? 1).map _ = _; kernel_rfl, by show (Try.prog.underlying 1).map dOf = _; kernel_rfl, rfl, by simp [ti1, Value.oneCell'], fun fs h => by cases h⟩
theorem ro2 : RowOk (2, ti2) := ⟨by show (Try.prog.info? 2).map _ = _; kernel_rfl, by show (Try.prog.underlying 2).map dOf = _; kernel_rfl, rfl, by simp [ti2, Value.oneCell'], fun fs h => by cases h⟩
theorem ro3 : RowOk (3, ti3) := ⟨by show (Try.prog.info? 3).map _ = _; kernel_rfl, by show (Try.prog.underlying 3).map dOf = _; kernel_rfl, rfl, by simp [ti3, Value.oneCell'], fun fs h => by cases h⟩
theorem ro4 : RowOk (4, ti4) := ⟨by show (Try.prog.info? 4).map _ = _; kernel_rfl, by show (Try.prog.underlying 4).map dOf = _; kernel_rfl, rfl, by simp [ti4, Value.oneCell'], fun fs h => by cases h⟩
theorem ro5 : RowOk (5, ti5) := ⟨by show (Try.prog.info? 5).map _ = _; kernel_rfl, by show (Try.prog.underlying 5).map dOf = _; kernel_rfl, rfl, by simp [ti5, Value.oneCell'], fun fs h => by cases h⟩
theorem ro9 : RowOk (9, ti9) := ⟨by show (Try.prog.info? 9).map _ = _; kernel_rfl, by show (Try.prog.underlying 9).map dOf = _; kernel_rfl, rfl, by simp [ti9, Value.oneCell'], fun fs h => by cases h⟩
theorem ro12 : RowOk (12, ti12) := ⟨by show (Try.prog.info? 12).map _ = _; kernel_rfl, by show (Try.prog.underlying 12).map dOf = _; kernel_rfl, rfl, by simp [ti12, Value.oneCell'], fun fs h => by cases h⟩
theorem ro13 : RowOk (13, ti13) := ⟨by show (Try.prog.info? 13).map _ = _; kernel_rfl, by show (Try.prog.underlying 13).map dOf = _; kernel_rfl, rfl, by simp [ti13, Value.oneCell'], fun fs h => by cases h⟩
theorem ro20 : RowOk (20, ti20) := ⟨by show (Try.prog.info? 20).map _ = _; kernel_rfl, by show (Try.prog.underlying 20).map dOf = _; kernel_rfl, rfl, by simp [ti20, Value.oneCell'], fun fs h => by cases h⟩
theorem ro21 : RowOk (21, ti21) := ⟨by show (Try.prog.info? 21).map _ = _; kernel_rfl, by show (Try.prog.underlying 21).map dOf = _; kernel_rfl, rfl, by simp [ti21, Value.oneCell'], fun fs h => by cases h⟩
theorem ro22 : RowOk (22, ti22) := ⟨by show (Try.prog.info? 22).map _ = _; kernel_rfl, by show (Try.prog.underlying 22).map dOf = _; kernel_rfl, rfl, by simp [ti22, Value.oneCell'], fun fs h => by cases h⟩
theorem ro23 : RowOk (23, ti23) := ⟨by show (Try.prog.info? 23).map _ = _; kernel_rfl, by show (Try.prog.underlying 23).map dOf = _; kernel_rfl, rfl, by simp [ti23, Value.oneCell'], fun fs h => by cases h⟩
theorem ro24 : RowOk (24, ti24) := ⟨by show (Try.prog.info? 24).map _ = _; kernel_rfl, by show (Try.prog.underlying 24).map dOf = _; kernel_rfl, rfl, by simp [ti24, Value.oneCell'], fun fs h => by cases h⟩
theorem ro25 : RowOk (25, ti25) := ⟨by show (Try.prog.info? 25).map _ = _; kernel_rfl, by show (Try.prog.underlying 25).map dOf = _; kernel_rfl, rfl, by simp [ti25, Value.oneCell'], fun fs h => by cases h; exact ⟨by show Try.prog.underlying 25 = _; kernel_rfl, by show Try.prog.stoodInHeld 25 = false; kernel_rfl, by show Try.prog.eqGuardType Try.prog.depth 25 = false; kernel_rfl, by kernel_rfl⟩⟩
theorem ro26 : RowOk (26, ti26) := ⟨by show (Try.prog.info? 26).map _ = _; kernel_rfl, by show (Try.prog.underlying 26).map dOf = _; kernel_rfl, rfl, by simp [ti26, Value.oneCell'], fun fs h => by cases h⟩
theorem ro27 : RowOk (27, ti27) := ⟨by show (Try.prog.info? 27).map _ = _; kernel_rfl, by show (Try.prog.underlying 27).map dOf = _; kernel_rfl, rfl, by simp [ti27, Value.oneCell'], fun fs h => by cases h; exact ⟨by show Try.prog.underlying 27 = _; kernel_rfl, by show Try.prog.stoodInHeld 27 = false; kernel_rfl, by show Try.prog.eqGuardType Try.prog.depth 27 = false; kernel_rfl, by kernel_rfl⟩⟩
theorem ro28 : RowOk (28, ti28) := ⟨by show (Try.prog.info? 28).map _ = _; kernel_rfl, by show (Try.prog.underlying 28).map dOf = _; kernel_rfl, rfl, by simp [ti28, Value.oneCell'], fun fs h => by cases h⟩
theorem ro29 : RowOk (29, ti29) := ⟨by show (Try.prog.info? 29).map _ = _; kernel_rfl, by show (Try.prog.underlying 29).map dOf = _; kernel_rfl, rfl, by simp [ti29, Value.oneCell'], fun fs h => by cases h; exact ⟨by show Try.prog.underlying 29 = _; kernel_rfl, by show Try.prog.stoodInHeld 29 = false; kernel_rfl, by show Try.prog.eqGuardType Try.prog.depth 29 = false; kernel_rfl, by kernel_rfl⟩⟩
theorem ro30 : RowOk (30, ti30) := ⟨by show (Try.prog.info? 30).map _ = _; kernel_rfl, by show (Try.prog.underlying 30).map dOf = _; kernel_rfl, rfl, by simp [ti30, Value.oneCell'], fun fs h => by cases h⟩
theorem ro31 : RowOk (31, ti31) := ⟨by show (Try.prog.info? 31).map _ = _; kernel_rfl, by show (Try.prog.underlying 31).map dOf = _; kernel_rfl, rfl, by simp [ti31, Value.oneCell'], fun fs h => by cases h; exact ⟨by show Try.prog.underlying 31 = _; kernel_rfl, by show Try.prog.stoodInHeld 31 = false; kernel_rfl, by show Try.prog.eqGuardType Try.prog.depth 31 = false; kernel_rfl, by kernel_rfl⟩⟩
theorem ro32 : RowOk (32, ti32) := ⟨by show (Try.prog.info? 32).map _ = _; kernel_rfl, by show (Try.prog.underlying 32).map dOf = _; kernel_rfl, rfl, by simp [ti32, Value.oneCell'], fun fs h => by cases h⟩
theorem ro33 : RowOk (33, ti33) := ⟨by show (Try.prog.info? 33).map _ = _; kernel_rfl, by show (Try.prog.underlying 33).map dOf = _; kernel_rfl, rfl, by simp [ti33, Value.oneCell'], fun fs h => by cases h⟩
theorem ro34 : RowOk (34, ti34) := ⟨by show (Try.prog.info? 34).map _ = _; kernel_rfl, by show (Try.prog.underlying 34).map dOf = _; kernel_rfl, rfl, by simp [ti34, Value.oneCell'], fun fs h => by cases h⟩
theorem ro35 : RowOk (35, ti35) := ⟨by show (Try.prog.info? 35).map _ = _; kernel_rfl, by show (Try.prog.underlying 35).map dOf = _; kernel_rfl, rfl, by simp [ti35, Value.oneCell'], fun fs h => by cases h⟩
theorem ro36 : RowOk (36, ti36) := ⟨by show (Try.prog.info? 36).map _ = _; kernel_rfl, by show (Try.prog.underlying 36).map dOf = _; kernel_rfl, rfl, by simp [ti36, Value.oneCell'], fun fs h => by cases h⟩
theorem ro37 : RowOk (37, ti37) := ⟨by show (Try.prog.info? 37).map _ = _; kernel_rfl, by show (Try.prog.underlying 37).map dOf = _; kernel_rfl, rfl, by simp [ti37, Value.oneCell'], fun fs h => by cases h⟩
theorem ro38 : RowOk (38, ti38) := ⟨by show (Try.prog.info? 38).map _ = _; kernel_rfl, by show (Try.prog.underlying 38).map dOf = _; kernel_rfl, rfl, by simp [ti38, Value.oneCell'], fun fs h => by cases h; exact ⟨by show Try.prog.underlying 38 = _; kernel_rfl, by show Try.prog.stoodInHeld 38 = false; kernel_rfl, by show Try.prog.eqGuardType Try.prog.depth 38 = false; kernel_rfl, by kernel_rfl⟩⟩
theorem ro39 : RowOk (39, ti39) := ⟨by show (Try.prog.info? 39).map _ = _; kernel_rfl, by show (Try.prog.underlying 39).map dOf = _; kernel_rfl, rfl, by simp [ti39, Value.oneCell'], fun fs h => by cases h⟩
theorem ro40 : RowOk (40, ti40) := ⟨by show (Try.prog.info? 40).map _ = _; kernel_rfl, by show (Try.prog.underlying 40).map dOf = _; kernel_rfl, rfl, by simp [ti40, Value.oneCell'], fun fs h => by cases h; exact ⟨by show Try.prog.underlying 40 = _; kernel_rfl, by show Try.prog.stoodInHeld 40 = false; kernel_rfl, by show Try.prog.eqGuardType Try.prog.depth 40 = false; kernel_rfl, by kernel_rfl⟩⟩
theorem ro41 : RowOk (41, ti41) := ⟨by show (Try.prog.info? 41).map _ = _; kernel_rfl, by show (Try.prog.underlying 41).map dOf = _; kernel_rfl, rfl, by simp [ti41, Value.oneCell'], fun fs h => by cases h⟩
theorem ro42 : RowOk (42, ti42) := ⟨by show (Try.prog.info? 42).map _ = _; kernel_rfl, by show (Try.prog.underlying 42).map dOf = _; kernel_rfl, rfl, by simp [ti42, Value.oneCell'], fun fs h => by cases h; exact ⟨by show Try.prog.underlying 42 = _; kernel_rfl, by show Try.prog.stoodInHeld 42 = false; kernel_rfl, by show Try.prog.eqGuardType Try.prog.depth 42 = false; kernel_rfl, by kernel_rfl⟩⟩
theorem ro43 : RowOk (43, ti43) := ⟨by show (Try.prog.info? 43).map _ = _; kernel_rfl, by show (Try.prog.underlying 43).map dOf = _; kernel_rfl, rfl, by simp [ti43, Value.oneCell'], fun fs h => by cases h; exact ⟨by show Try.prog.underlying 43 = _; kernel_rfl, by show Try.prog.stoodInHeld 43 = false; kernel_rfl, by show Try.prog.eqGuardType Try.prog.depth 43 = false; kernel_rfl, by kernel_rfl⟩⟩
theorem ro44 : RowOk (44, ti44) := ⟨by show (Try.prog.info? 44).map _ = _; kernel_rfl, by show (Try.prog.underlying 44).map dOf = _; kernel_rfl, rfl, by simp [ti44, Value.oneCell'], fun fs h => by cases h⟩
theorem ro45 : RowOk (45, ti45) := ⟨by show (Try.prog.info? 45).map _ = _; kernel_rfl, by show (Try.prog.underlying 45).map dOf = _; kernel_rfl, rfl, by simp [ti45, Value.oneCell'], fun fs h => by cases h⟩
theorem ro46 : RowOk (46, ti46) := ⟨by show (Try.prog.info? 46).map _ = _; kernel_rfl, by show (Try.prog.underlying 46).map dOf = _; kernel_rfl, rfl, by simp [ti46, Value.oneCell'], fun fs h => by cases h⟩
theorem ro47 : RowOk (47, ti47) := ⟨by show (Try.prog.info? 47).map _ = _; kernel_rfl, by show (Try.prog.underlying 47).map dOf = _; kernel_rfl, rfl, by simp [ti47, Value.oneCell'], fun fs h => by cases h⟩
theorem ro48 : RowOk (48, ti48) := ⟨by show (Try.prog.info? 48).map _ = _; kernel_rfl, by show (Try.prog.underlying 48).map dOf = _; kernel_rfl, rfl, by simp [ti48, Value.oneCell'], fun fs h => by cases h⟩
theorem ro49 : RowOk (49, ti49) := ⟨by show (Try.prog.info? 49).map _ = _; kernel_rfl, by show (Try.prog.underlying 49).map dOf = _; kernel_rfl, rfl, by simp [ti49, Value.oneCell'], fun fs h => by cases h⟩
theorem ro50 : RowOk (50, ti50) := ⟨by show (Try.prog.info? 50).map _ = _; kernel_rfl, by show (Try.prog.underlying 50).map dOf = _; kernel_rfl, rfl, by simp [ti50, Value.oneCell'], fun fs h => by cases h⟩
theorem ro51 : RowOk (51, ti51) := ⟨by show (Try.prog.info? 51).map _ = _; kernel_rfl, by show (Try.prog.underlying 51).map dOf = _; kernel_rfl, rfl, by simp [ti51, Value.oneCell'], fun fs h => by cases h⟩
theorem ro52 : RowOk (52, ti52) := ⟨by show (Try.prog.info? 52).map _ = _; kernel_rfl, by show (Try.prog.underlying 52).map dOf = _; kernel_rfl, rfl, by simp [ti52, Value.oneCell'], fun fs h => by cases h⟩
theorem ro53 : RowOk (53, ti53) := ⟨by show (Try.prog.info? 53).map _ = _; kernel_rfl, by show (Try.prog.underlying 53).map dOf = _; kernel_rfl, rfl, by simp [ti53, Value.oneCell'], fun fs h => by cases h⟩
theorem ro54 : RowOk (54, ti54) := ⟨by show (Try.prog.info? 54).map _ = _; kernel_rfl, by show (Try.prog.underlying 54).map dOf = _; kernel_rfl, rfl, by simp [ti54, Value.oneCell'], fun fs h => by cases h⟩
theorem ro55 : RowOk (55, ti55) := ⟨by show (Try.prog.info? 55).map _ = _; kernel_rfl, by show (Try.prog.underlying 55).map dOf = _; kernel_rfl, rfl, by simp [ti55, Value.oneCell'], fun fs h => by cases h⟩
theorem ro56 : RowOk (56, ti56) := ⟨by show (Try.prog.info? 56).map _ = _; kernel_rfl, by show (Try.prog.underlying 56).map dOf = _; kernel_rfl, rfl, by simp [ti56, Value.oneCell'], fun fs h => by cases h⟩
theorem ro57 : RowOk (57, ti57) := ⟨by show (Try.prog.info? 57).map _ = _; kernel_rfl, by show (Try.prog.underlying 57).map dOf = _; kernel_rfl, rfl, by simp [ti57, Value.oneCell'], fun fs h => by cases h⟩
theorem ro58 : RowOk (58, ti58) := ⟨by show (Try.prog.info? 58).map _ = _; kernel_rfl, by show (Try.prog.underlying 58).map dOf = _; kernel_rfl, rfl, by simp [ti58, Value.oneCell'], fun fs h => by cases h⟩
theorem ro59 : RowOk (59, ti59) := ⟨by show (Try.prog.info? 59).map _ = _; kernel_rfl, by show (Try.prog.underlying 59).map dOf = _; kernel_rfl, rfl, by simp [ti59, Value.oneCell'], fun fs h => by cases h⟩
theorem ro60 : RowOk (60, ti60) := ⟨by show (Try.prog.info? 60).map _ = _; kernel_rfl, by show (Try.prog.underlying 60).map dOf = _; kernel_rfl, rfl, by simp [ti60, Value.oneCell'], fun fs h => by cases h⟩
theorem ro61 : RowOk (61, ti61) := ⟨by show (Try.prog.info? 61).map _ = _; kernel_rfl, by show (Try.prog.underlying 61).map dOf = _; kernel_rfl, rfl, by simp [ti61, Value.oneCell'], fun fs h => by cases h⟩
theorem ro62 : RowOk (62, ti62) := ⟨by show (Try.prog.info? 62).map _ = _; kernel_rfl, by show (Try.prog.underlying 62).map dOf = _; kernel_rfl, rfl, by simp [ti62, Value.oneCell'], fun fs h => by cases h⟩
theorem ro63 : RowOk (63, ti63) := ⟨by show (Try.prog.info? 63).map _ = _; kernel_rfl, by show (Try.prog.underlying 63).map dOf = _; kernel_rfl, rfl, by simp [ti63, Value.oneCell'], fun fs h => by cases h⟩
theorem ro64 : RowOk (64, ti64) := ⟨by show (Try.prog.info? 64).map _ = _; kernel_rfl, by show (Try.prog.underlying 64).map dOf = _; kernel_rfl, rfl, by simp [ti64, Value.oneCell'], fun fs h => by cases h⟩
theorem ro65 : RowOk (65, ti65) := ⟨by show (Try.prog.info? 65).map _ = _; kernel_rfl, by show (Try.prog.underlying 65).map dOf = _; kernel_rfl, rfl, by simp [ti65, Value.oneCell'], fun fs h => by cases h⟩
theorem ro66 : RowOk (66, ti66) := ⟨by show (Try.prog.info? 66).map _ = _; kernel_rfl, by show (Try.prog.underlying 66).map dOf = _; kernel_rfl, rfl, by simp [ti66, Value.oneCell'], fun fs h => by cases h⟩
theorem ro67 : RowOk (67, ti67) := ⟨by show (Try.prog.info? 67).map _ = _; kernel_rfl, by show (Try.prog.underlying 67).map dOf = _; kernel_rfl, rfl, by simp [ti67, Value.oneCell'], fun fs h => by cases h⟩
theorem ro68 : RowOk (68, ti68) := ⟨by show (Try.prog.info? 68).map _ = _; kernel_rfl, by show (Try.prog.underlying 68).map dOf = _; kernel_rfl, rfl, by simp [ti68, Value.oneCell'], fun fs h => by cases h⟩
theorem ro69 : RowOk (69, ti69) := ⟨by show (Try.prog.info? 69).map _ = _; kernel_rfl, by show (Try.prog.underlying 69).map dOf = _; kernel_rfl, rfl, by simp [ti69, Value.oneCell'], fun fs h => by cases h⟩
theorem ro70 : RowOk (70, ti70) := ⟨by show (Try.prog.info? 70).map _ = _; kernel_rfl, by show (Try.prog.underlying 70).map dOf = _; kernel_rfl, rfl, by simp [ti70, Value.oneCell'], fun fs h => by cases h⟩
theorem ro71 : RowOk (71, ti71) := ⟨by show (Try.prog.info? 71).map _ = _; kernel_rfl, by show (Try.prog.underlying 71).map dOf = _; kernel_rfl, rfl, by simp [ti71, Value.oneCell'], fun fs h => by cases h⟩
theorem ro72 : RowOk (72, ti72) := ⟨by show (Try.prog.info? 72).map _ = _; kernel_rfl, by show (Try.prog.underlying 72).map dOf = _; kernel_rfl, rfl, by simp [ti72, Value.oneCell'], fun fs h => by cases h⟩
theorem ro73 : RowOk (73, ti73) := ⟨by show (Try.prog.info? 73).map _ = _; kernel_rfl, by show (Try.prog.underlying 73).map dOf = _; kernel_rfl, rfl, by simp [ti73, Value.oneCell'], fun fs h => by cases h⟩
theorem ro74 : RowOk (74, ti74) := ⟨by show (Try.prog.info? 74).map _ = _; kernel_rfl, by show (Try.prog.underlying 74).map dOf = _; kernel_rfl, rfl, by simp [ti74, Value.oneCell'], fun fs h => by cases h⟩
theorem ro75 : RowOk (75, ti75) := ⟨by show (Try.prog.info? 75).map _ = _; kernel_rfl, by show (Try.prog.underlying 75).map dOf = _; kernel_rfl, rfl, by simp [ti75, Value.oneCell'], fun fs h => by cases h⟩
theorem ro76 : RowOk (76, ti76) := ⟨by show (Try.prog.info? 76).map _ = _; kernel_rfl, by show (Try.prog.underlying 76).map dOf = _; kernel_rfl, rfl, by simp [ti76, Value.oneCell'], fun fs h => by cases h⟩
theorem ro77 : RowOk (77, ti77) := ⟨by show (Try.prog.info? 77).map _ = _; kernel_rfl, by show (Try.prog.underlying 77).map dOf = _; kernel_rfl, rfl, by simp [ti77, Value.oneCell'], fun fs h => by cases h⟩
theorem ro78 : RowOk (78, ti78) := ⟨by show (Try.prog.info? 78).map _ = _; kernel_rfl, by show (Try.prog.underlying 78).map dOf = _; kernel_rfl, rfl, by simp [ti78, Value.oneCell'], fun fs h => by cases h⟩
theorem ro79 : RowOk (79, ti79) := ⟨by show (Try.prog.info? 79).map _ = _; kernel_rfl, by show (Try.prog.underlying 79).map dOf = _; kernel_rfl, rfl, by simp [ti79, Value.oneCell'], fun fs h => by cases h⟩
theorem ro80 : RowOk (80, ti80) := ⟨by show (Try.prog.info? 80).map _ = _; kernel_rfl, by show (Try.prog.underlying 80).map dOf = _; kernel_rfl, rfl, by simp [ti80, Value.oneCell'], fun fs h => by cases h⟩
theorem ro81 : RowOk (81, ti81) := ⟨by show (Try.prog.info? 81).map _ = _; kernel_rfl, by show (Try.prog.underlying 81).map dOf = _; kernel_rfl, rfl, by simp [ti81, Value.oneCell'], fun fs h => by cases h⟩
theorem ro82 : RowOk (82, ti82) := ⟨by show (Try.prog.info? 82).map _ = _; kernel_rfl, by show (Try.prog.underlying 82).map dOf = _; kernel_rfl, rfl, by simp [ti82, Value.oneCell'], fun fs h => by cases h⟩
theorem ro83 : RowOk (83, ti83) := ⟨by show (Try.prog.info? 83).map _ = _; kernel_rfl, by show (Try.prog.underlying 83).map dOf = _; kernel_rfl, rfl, by simp [ti83, Value.oneCell'], fun fs h => by cases h⟩
theorem ro84 : RowOk (84, ti84) := ⟨by show (Try.prog.info? 84).map _ = _; kernel_rfl, by show (Try.prog.underlying 84).map dOf = _; kernel_rfl, rfl, by simp [ti84, Value.oneCell'], fun fs h => by cases h⟩
theorem ro85 : RowOk (85, ti85) := ⟨by show (Try.prog.info? 85).map _ = _; kernel_rfl, by show (Try.prog.underlying 85).map dOf = _; kernel_rfl, rfl, by simp [ti85, Value.oneCell'], fun fs h => by cases h⟩
theorem ro86 : RowOk (86, ti86) := ⟨by show (Try.prog.info? 86).map _ = _; kernel_rfl, by show (Try.prog.underlying 86).map dOf = _; kernel_rfl, rfl, by simp [ti86, Value.oneCell'], fun fs h => by cases h⟩
theorem ro87 : RowOk (87, ti87) := ⟨by show (Try.prog.info? 87).map _ = _; kernel_rfl, by show (Try.prog.underlying 87).map dOf = _; kernel_rfl, rfl, by simp [ti87, Value.oneCell'], fun fs h => by cases h⟩
theorem ro88 : RowOk (88, ti88) := ⟨by show (Try.prog.info? 88).map _ = _; kernel_rfl, by show (Try.prog.underlying 88).map dOf = _; kernel_rfl, rfl, by simp [ti88, Value.oneCell'], fun fs h => by cases h⟩
theorem ro89 : RowOk (89, ti89) := ⟨by show (Try.prog.info? 89).map _ = _; kernel_rfl, by show (Try.prog.underlying 89).map dOf = _; kernel_rfl, rfl, by simp [ti89, Value.oneCell'], fun fs h => by cases h⟩
theorem ro90 : RowOk (90, ti90) := ⟨by show (Try.prog.info? 90).map _ = _; kernel_rfl, by show (Try.prog.underlying 90).map dOf = _; kernel_rfl, rfl, by simp [ti90, Value.oneCell'], fun fs h => by cases h; exact ⟨by show Try.prog.underlying 90 = _; kernel_rfl, by show Try.prog.stoodInHeld 90 = false; kernel_rfl, by show Try.prog.eqGuardType Try.prog.depth 90 = false; kernel_rfl, by kernel_rfl⟩⟩
theorem ro91 : RowOk (91, ti91) := ⟨by show (Try.prog.info? 91).map _ = _; kernel_rfl, by show (Try.prog.underlying 91).map dOf = _; kernel_rfl, rfl, by simp [ti91, Value.oneCell'], fun fs h => by cases h⟩
theorem ro92 : RowOk (92, ti92) := ⟨by show (Try.prog.info? 92).map _ = _; kernel_rfl, by show (Try.prog.underlying 92).map dOf = _; kernel_rfl, rfl, by simp [ti92, Value.oneCell'], fun fs h => by cases h; exact ⟨by show Try.prog.underlying 92 = _; kernel_rfl, by show Try.prog.stoodInHeld 92 = false; kernel_rfl, by show Try.prog.eqGuardType Try.prog.depth 92 = false; kernel_rfl, by kernel_rfl⟩⟩
theorem ro93 : RowOk (93, ti93) := ⟨by show (Try.prog.info? 93).map _ = _; kernel_rfl, by show (Try.prog.underlying 93).map dOf = _; kernel_rfl, rfl, by simp [ti93, Value.oneCell'], fun fs h => by cases h⟩
theorem ro94 : RowOk (94, ti94) := ⟨by show (Try.prog.info? 94).map _ = _; kernel_rfl, by show (Try.prog.underlying 94).map dOf = _; kernel_rfl, rfl, by simp [ti94, Value.oneCell'], fun fs h => by cases h⟩
theorem ro95 : RowOk (95, ti95) := ⟨by show (Try.prog.info? 95).map _ = _; kernel_rfl, by show (Try.prog.underlying 95).map dOf = _; kernel_rfl, rfl, by simp [ti95, Value.oneCell'], fun fs h => by cases h⟩
theorem ro96 : RowOk (96, ti96) := ⟨by show (Try.prog.info? 96).map _ = _; kernel_rfl, by show (Try.prog.underlying 96).map dOf = _; kernel_rfl, rfl, by simp [ti96, Value.oneCell'], fun fs h => by cases h⟩
theorem ro97 : RowOk (97, ti97) := ⟨by show (Try.prog.info? 97).map _ = _; kernel_rfl, by show (Try.prog.underlying 97).map dOf = _; kernel_rfl, rfl, by simp [ti97, Value.oneCell'], fun fs h => by cases h⟩
theorem ro98 : RowOk (98, ti98) := ⟨by show (Try.prog.info? 98).map _ = _; kernel_rfl, by show (Try.prog.underlying 98).map dOf = _; kernel_rfl, rfl, by simp [ti98, Value.oneCell'], fun fs h => by cases h⟩
theorem ro99 : RowOk (99, ti99) := ⟨by show (Try.prog.info? 99).map _ = _; kernel_rfl, by show (Try.prog.underlying 99).map dOf = _; kernel_rfl, rfl, by simp [ti99, Value.oneCell'], fun fs h => by cases h⟩
theorem ro100 : RowOk (100, ti100) := ⟨by show (Try.prog.info? 100).map _ = _; kernel_rfl, by show (Try.prog.underlying 100).map dOf = _; kernel_rfl, rfl, by simp [ti100, Value.oneCell'], fun fs h => by cases h⟩
theorem ro101 : RowOk (101, ti101) := ⟨by show (Try.prog.info? 101).map _ = _; kernel_rfl, by show (Try.prog.underlying 101).map dOf = _; kernel_rfl, rfl, by simp [ti101, Value.oneCell'], fun fs h => by cases h⟩
theorem ro102 : RowOk (102, ti102) := ⟨by show (Try.prog.info? 102).map _ = _; kernel_rfl, by show (Try.prog.underlying 102).map dOf = _; kernel_rfl, rfl, by simp [ti102, Value.oneCell'], fun fs h => by cases h⟩
theorem ro103 : RowOk (103, ti103) := ⟨by show (Try.prog.info? 103).map _ = _; kernel_rfl, by show (Try.prog.underlying 103).map dOf = _; kernel_rfl, rfl, by simp [ti103, Value.oneCell'], fun fs h => by cases h⟩
theorem ro104 : RowOk (104, ti104) := ⟨by show (Try.prog.info? 104).map _ = _; kernel_rfl, by show (Try.prog.underlying 104).map dOf = _; kernel_rfl, rfl, by simp [ti104, Value.oneCell'], fun fs h => by cases h⟩
theorem ro105 : RowOk (105, ti105) := ⟨by show (Try.prog.info? 105).map _ = _; kernel_rfl, by show (Try.prog.underlying 105).map dOf = _; kernel_rfl, rfl, by simp [ti105, Value.oneCell'], fun fs h => by cases h⟩
theorem ro106 : RowOk (106, ti106) := ⟨by show (Try.prog.info? 106).map _ = _; kernel_rfl, by show (Try.prog.underlying 106).map dOf = _; kernel_rfl, rfl, by simp [ti106, Value.oneCell'], fun fs h => by cases h⟩
theorem ro107 : RowOk (107, ti107) := ⟨by show (Try.prog.info? 107).map _ = _; kernel_rfl, by show (Try.prog.underlying 107).map dOf = _; kernel_rfl, rfl, by simp [ti107, Value.oneCell'], fun fs h => by cases h⟩
theorem ro108 : RowOk (108, ti108) := ⟨by show (Try.prog.info? 108).map _ = _; kernel_rfl, by show (Try.prog.underlying 108).map dOf = _; kernel_rfl, rfl, by simp [ti108, Value.oneCell'], fun fs h => by cases h⟩
theorem ro109 : RowOk (109, ti109) := ⟨by show (Try.prog.info? 109).map _ = _; kernel_rfl, by show (Try.prog.underlying 109).map dOf = _; kernel_rfl, rfl, by simp [ti109, Value.oneCell'], fun fs h => by cases h⟩
theorem ro110 : RowOk (110, ti110) := ⟨by show (Try.prog.info? 110).map _ = _; kernel_rfl, by show (Try.prog.underlying 110).map dOf = _; kernel_rfl, rfl, by simp [ti110, Value.oneCell'], fun fs h => by cases h⟩
theorem ro111 : RowOk (111, ti111) := ⟨by show (Try.prog.info? 111).map _ = _; kernel_rfl, by show (Try.prog.underlying 111).map dOf = _; kernel_rfl, rfl, by simp [ti111, Value.oneCell'], fun fs h => by cases h⟩
theorem ro112 : RowOk (112, ti112) := ⟨by show (Try.prog.info? 112).map _ = _; kernel_rfl, by show (Try.prog.underlying 112).map dOf = _; kernel_rfl, rfl, by simp [ti112, Value.oneCell'], fun fs h => by cases h⟩
theorem ro118 : RowOk (118, ti118) := ⟨by show (Try.prog.info? 118).map _ = _; kernel_rfl, by show (Try.prog.underlying 118).map dOf = _; kernel_rfl, rfl, by simp [ti118, Value.oneCell'], fun fs h => by cases h⟩
theorem ro119 : RowOk (119, ti119) := ⟨by show (Try.prog.info? 119).map _ = _; kernel_rfl, by show (Try.prog.underlying 119).map dOf = _; kernel_rfl, rfl, by simp [ti119, Value.oneCell'], fun fs h => by cases h⟩
theorem ro122 : RowOk (122, ti122) := ⟨by show (Try.prog.info? 122).map _ = _; kernel_rfl, by show (Try.prog.underlying 122).map dOf = _; kernel_rfl, rfl, by simp [ti122, Value.oneCell'], fun fs h => by cases h⟩
theorem ro123 : RowOk (123, ti123) := ⟨by show (Try.prog.info? 123).map _ = _; kernel_rfl, by show (Try.prog.underlying 123).map dOf = _; kernel_rfl, rfl, by simp [ti123, Value.oneCell'], fun fs h => by cases h⟩
theorem ro128 : RowOk (128, ti128) := ⟨by show (Try.prog.info? 128).map _ = _; kernel_rfl, by show (Try.prog.underlying 128).map dOf = _; kernel_rfl, rfl, by simp [ti128, Value.oneCell'], fun fs h => by cases h⟩
theorem ro129 : RowOk (129, ti129) := ⟨by show (Try.prog.info? 129).map _ = _; kernel_rfl, by show (Try.prog.underlying 129).map dOf = _; kernel_rfl, rfl, by simp [ti129, Value.oneCell'], fun fs h => by cases h⟩
theorem tl_ok : ∀ p ∈ tl, RowOk p := by
  unfold tl
  exact List.forall_mem_cons.2 ⟨ro1, List.forall_mem_cons.2 ⟨ro2, List.forall_mem_cons.2 ⟨ro3, List.forall_mem_cons.2 ⟨ro4, List.forall_mem_cons.2 ⟨ro5, List.forall_mem_cons.2 ⟨ro9, List.forall_mem_cons.2 ⟨ro12, List.forall_mem_cons.2 ⟨ro13, List.forall_mem_cons.2 ⟨ro20, List.forall_mem_cons.2 ⟨ro21, List.forall_mem_cons.2 ⟨ro22, List.forall_mem_cons.2 ⟨ro23, List.forall_mem_cons.2 ⟨ro24, List.forall_mem_cons.2 ⟨ro25, List.forall_mem_cons.2 ⟨ro26, List.forall_mem_cons.2 ⟨ro27, List.forall_mem_cons.2 ⟨ro28, List.forall_mem_cons.2 ⟨ro29, List.forall_mem_cons.2 ⟨ro30, List.forall_mem_cons.2 ⟨ro31, List.forall_mem_cons.2 ⟨ro32, List.forall_mem_cons.2 ⟨ro33, List.forall_mem_cons.2 ⟨ro34, List.forall_mem_cons.2 ⟨ro35, List.forall_mem_cons.2 ⟨ro36, List.forall_mem_cons.2 ⟨ro37, List.forall_mem_cons.2 ⟨ro38, List.forall_mem_cons.2 ⟨ro39, List.forall_mem_cons.2 ⟨ro40, List.forall_mem_cons.2 ⟨ro41, List.forall_mem_cons.2 ⟨ro42, List.forall_mem_cons.2 ⟨ro43, List.forall_mem_cons.2 ⟨ro44, List.forall_mem_cons.2 ⟨ro45, List.forall_mem_cons.2 ⟨ro46, List.forall_mem_cons.2 ⟨ro47, List.forall_mem_cons.2 ⟨ro48, List.forall_mem_cons.2 ⟨ro49, List.forall_mem_cons.2 ⟨ro50, List.forall_mem_cons.2 ⟨ro51, List.forall_mem_cons.2 ⟨ro52, List.forall_mem_cons.2 ⟨ro53, List.forall_mem_cons.2 ⟨ro54, List.forall_mem_cons.2 ⟨ro55, List.forall_mem_cons.2 ⟨ro56, List.forall_mem_cons.2 ⟨ro57, List.forall_mem_cons.2 ⟨ro58, List.forall_mem_cons.2 ⟨ro59, List.forall_mem_cons.2 ⟨ro60, List.forall_mem_cons.2 ⟨ro61, List.forall_mem_cons.2 ⟨ro62, List.forall_mem_cons.2 ⟨ro63, List.forall_mem_cons.2 ⟨ro64, List.forall_mem_cons.2 ⟨ro65, List.forall_mem_cons.2 ⟨ro66, List.forall_mem_cons.2 ⟨ro67, List.forall_mem_cons.2 ⟨ro68, List.forall_mem_cons.2 ⟨ro69, List.forall_mem_cons.2 ⟨ro70, List.forall_mem_cons.2 ⟨ro71, List.forall_mem_cons.2 ⟨ro72, List.forall_mem_cons.2 ⟨ro73, List.forall_mem_cons.2 ⟨ro74, List.forall_mem_cons.2 ⟨ro75, List.forall_mem_cons.2 ⟨ro76, List.forall_mem_cons.2 ⟨ro77, List.forall_mem_cons.2 ⟨ro78, List.forall_mem_cons.2 ⟨ro79, List.forall_mem_cons.2 ⟨ro80, List.forall_mem_cons.2 ⟨ro81, List.forall_mem_cons.2 ⟨ro82, List.forall_mem_cons.2 ⟨ro83, List.forall_mem_cons.2 ⟨ro84, List.forall_mem_cons.2 ⟨ro85, List.forall_mem_cons.2 ⟨ro86, List.forall_mem_cons.2 ⟨ro87, List.forall_mem_cons.2 ⟨ro88, List.forall_mem_cons.2 ⟨ro89, List.forall_mem_cons.2 ⟨ro90, List.forall_mem_cons.2 ⟨ro91, List.forall_mem_cons.2 ⟨ro92, List.forall_mem_cons.2 ⟨ro93, List.forall_mem_cons.2 ⟨ro94, List.forall_mem_cons.2 ⟨ro95, List.forall_mem_cons.2 ⟨ro96, List.forall_mem_cons.2 ⟨ro97, List.forall_mem_cons.2 ⟨ro98, List.forall_mem_cons.2 ⟨ro99, List.forall_mem_cons.2 ⟨ro100, List.forall_mem_cons.2 ⟨ro101, List.forall_mem_cons.2 ⟨ro102, List.forall_mem_cons.2 ⟨ro103, List.forall_mem_cons.2 ⟨ro104, List.forall_mem_cons.2 ⟨ro105, List.forall_mem_cons.2 ⟨ro106, List.forall_mem_cons.2 ⟨ro107, List.forall_mem_cons.2 ⟨ro108, List.forall_mem_cons.2 ⟨ro109, List.forall_mem_cons.2 ⟨ro110, List.forall_mem_cons.2 ⟨ro111, List.forall_mem_cons.2 ⟨ro112, List.forall_mem_cons.2 ⟨ro118, List.forall_mem_cons.2 ⟨ro119, List.forall_mem_cons.2 ⟨ro122, List.forall_mem_cons.2 ⟨ro123, List.forall_mem_cons.2 ⟨ro128, List.forall_mem_cons.2 ⟨ro129, (fun _ h => by cases h)⟩⟩⟩⟩⟩⟩⟩⟩⟩⟩⟩⟩⟩⟩⟩⟩⟩⟩⟩⟩⟩⟩⟩⟩⟩⟩⟩⟩⟩⟩⟩⟩⟩⟩⟩⟩⟩⟩⟩⟩⟩⟩⟩⟩⟩⟩⟩⟩⟩⟩⟩⟩⟩⟩⟩⟩⟩⟩⟩⟩⟩⟩⟩⟩⟩⟩⟩⟩⟩⟩⟩⟩⟩⟩⟩⟩⟩⟩⟩⟩⟩⟩⟩⟩⟩⟩⟩⟩⟩⟩⟩⟩⟩⟩⟩⟩⟩⟩⟩⟩⟩⟩⟩⟩⟩⟩⟩
theorem hMix : Try.prog.follows .mixedOrders = true := by kernel_rfl
theorem Tb_mem {t : Nat} {i : TI} (h : Tb t = some i) : RowOk (t, i) := by
  unfold Tb at h
  cases hf : tl.find? (fun p => p.1 == t) with
  | none => rw [hf] at h; cases h
  | some p =>
    rw [hf] at h
    have hm := List.mem_of_find?_eq_some hf
    have hp : (p.1 == t) = true := List.find?_some (p := fun p : Nat × TI => p.1 == t) hf
    cases h
    have := beq_iff_eq.1 hp
    subst this
    exact tl_ok p hm
theorem hTb : TabOk Try.prog Tb := ⟨fun _ _ h => (Tb_mem h).1, fun _ _ h => (Tb_mem h).2.1, fun _ _ h => ⟨(Tb_mem h).2.2.1, (Tb_mem h).2.2.2.1⟩, fun _ _ fs h => (Tb_mem h).2.2.2.2 fs⟩
end Go.Vl

/- The table of types of this seat's program, and that it is the program's. Written by our own gentab.py. -/
import Derived.Test.YtodknhldemgneaaDoorProg
import Derived.Test.YtodknhldemgneaaDoorWa
import Derived.KernelRfl
namespace Go.Vl
open Go Go.Proofs
def ti1 : TI := ⟨.other, 1, 8, [.nilFunc], none⟩
def ti2 : TI := ⟨.int .i64, 1, 8, [.int .i64 0], none⟩
def ti3 : TI := ⟨.int .i64, 1, 8, [.int .i64 0], none⟩
def ti4 : TI := ⟨.bool, 1, 1, [.bool false], none⟩
def ti5 : TI := ⟨.int .u8, 1, 1, [.int .u8 0], none⟩
def ti9 : TI := ⟨.str, 1, 16, [.string ⟨#[]⟩], none⟩
def ti12 : TI := ⟨.int .u64, 1, 8, [.int .u64 0], none⟩
def ti13 : TI := ⟨.st [(0, 9), (1, 12)], 2, 24, [.string ⟨#[]⟩, .int .u64 0], none⟩
def ti20 : TI := ⟨.other, 1, 16, [.nilIface], none⟩
def ti21 : TI := ⟨.int .i32, 1, 4, [.int .i32 0], none⟩
def ti22 : TI := ⟨.st [(0, 3), (1, 3), (2, 9)], 3, 32, [.int .i64 0, .int .i64 0, .string ⟨#[]⟩], none⟩
def ti23 : TI := ⟨.st [(0, 3), (1, 3), (2, 9)], 3, 32, [.int .i64 0, .int .i64 0, .string ⟨#[]⟩], some [(0, 3), (1, 3), (2, 9)]⟩
def ti24 : TI := ⟨.other, 1, 8, [.nilFunc], none⟩
def ti25 : TI := ⟨.other, 1, 8, [.nilFunc], none⟩
def ti26 : TI := ⟨.st [(0, 3), (1, 3), (2, 9)], 3, 32, [.int .i64 0, .int .i64 0, .string ⟨#[]⟩], some [(0, 3), (1, 3), (2, 9)]⟩
def ti27 : TI := ⟨.other, 1, 8, [.nilFunc], none⟩
def ti28 : TI := ⟨.other, 1, 8, [.nilFunc], none⟩
def ti29 : TI := ⟨.other, 1, 8, [.nilFunc], none⟩
def ti30 : TI := ⟨.other, 1, 8, [.nilFunc], none⟩
def ti31 : TI := ⟨.other, 1, 8, [.nilFunc], none⟩
def ti33 : TI := ⟨.other, 1, 8, [.nilFunc], none⟩
def ti34 : TI := ⟨.other, 1, 8, [.nilFunc], none⟩
def ti35 : TI := ⟨.sl 5, 1, 24, [.slice none 0 0], none⟩
def ti37 : TI := ⟨.other, 1, 8, [.nilFunc], none⟩
def ti38 : TI := ⟨.other, 1, 8, [.nilFunc], none⟩
def ti39 : TI := ⟨.other, 1, 8, [.nilFunc], none⟩
def ti40 : TI := ⟨.other, 1, 8, [.nilFunc], none⟩
def ti41 : TI := ⟨.other, 1, 8, [.nilFunc], none⟩
def ti42 : TI := ⟨.other, 1, 8, [.nilFunc], none⟩
def ti43 : TI := ⟨.other, 1, 8, [.nilFunc], none⟩
def ti45 : TI := ⟨.other, 1, 8, [.nilFunc], none⟩
def ti46 : TI := ⟨.other, 1, 8, [.nilFunc], none⟩
def ti47 : TI := ⟨.other, 1, 8, [.nilFunc], none⟩
def ti48 : TI := ⟨.other, 1, 8, [.nilFunc], none⟩
def ti49 : TI := ⟨.other, 1, 8, [.nilFunc], none⟩
def ti50 : TI := ⟨.other, 1, 8, [.pointer none], none⟩
def ti51 : TI := ⟨.other, 1, 8, [.nilFunc], none⟩
def ti52 : TI := ⟨.other, 1, 8, [.nilFunc], none⟩
def ti53 : TI := ⟨.other, 1, 8, [.nilFunc], none⟩
def ti54 : TI := ⟨.sl 3, 1, 24, [.slice none 0 0], none⟩
def ti55 : TI := ⟨.other, 1, 8, [.nilFunc], none⟩
def ti56 : TI := ⟨.other, 1, 8, [.nilFunc], none⟩
def ti57 : TI := ⟨.other, 1, 8, [.nilFunc], none⟩
def ti58 : TI := ⟨.other, 1, 8, [.nilFunc], none⟩
def ti59 : TI := ⟨.sl 9, 1, 24, [.slice none 0 0], none⟩
def ti60 : TI := ⟨.other, 1, 16, [.nilIface], none⟩
def ti61 : TI := ⟨.other, 1, 16, [.nilIface], none⟩
def ti63 : TI := ⟨.other, 1, 8, [.nilFunc], none⟩
def ti64 : TI := ⟨.st [(0, 35), (1, 3)], 2, 32, [.slice none 0 0, .int .i64 0], none⟩
def ti65 : TI := ⟨.st [(0, 35), (1, 3)], 2, 32, [.slice none 0 0, .int .i64 0], none⟩
def ti66 : TI := ⟨.other, 1, 8, [.nilFunc], none⟩
def ti67 : TI := ⟨.other, 1, 8, [.nilFunc], none⟩
def ti68 : TI := ⟨.other, 1, 8, [.nilFunc], none⟩
def ti70 : TI := ⟨.int .u64, 1, 8, [.int .u64 0], none⟩
def ti71 : TI := ⟨.other, 1, 8, [.nilFunc], none⟩
def ti72 : TI := ⟨.other, 1, 8, [.nilFunc], none⟩
def ti74 : TI := ⟨.other, 1, 8, [.nilFunc], none⟩
def ti77 : TI := ⟨.other, 1, 8, [.nilFunc], none⟩
def ti78 : TI := ⟨.other, 1, 8, [.pointer none], none⟩
def ti79 : TI := ⟨.other, 1, 8, [.nilFunc], none⟩
def ti80 : TI := ⟨.other, 1, 8, [.nilFunc], none⟩
def ti81 : TI := ⟨.other, 1, 8, [.nilFunc], none⟩
def ti83 : TI := ⟨.int .u32, 1, 4, [.int .u32 0], none⟩
def ti85 : TI := ⟨.int .u64, 1, 8, [.int .u64 0], none⟩
def ti86 : TI := ⟨.other, 1, 8, [.nilFunc], none⟩
def ti88 : TI := ⟨.other, 1, 8, [.nilFunc], none⟩
def ti89 : TI := ⟨.other, 1, 8, [.nilFunc], none⟩
def ti90 : TI := ⟨.st [(0, 9), (1, 9), (2, 61)], 3, 48, [.string ⟨#[]⟩, .string ⟨#[]⟩, .nilIface], none⟩
def ti91 : TI := ⟨.st [(0, 9), (1, 9), (2, 61)], 3, 48, [.string ⟨#[]⟩, .string ⟨#[]⟩, .nilIface], none⟩
def ti92 : TI := ⟨.other, 1, 8, [.nilFunc], none⟩
def ti93 : TI := ⟨.other, 1, 8, [.nilFunc], none⟩
def ti94 : TI := ⟨.other, 1, 8, [.nilFunc], none⟩
def ti95 : TI := ⟨.other, 1, 8, [.pointer none], none⟩
def ti97 : TI := ⟨.st [(0, 9)], 1, 16, [.string ⟨#[]⟩], none⟩
def ti101 : TI := ⟨.other, 1, 8, [.nilFunc], none⟩
def ti107 : TI := ⟨.other, 1, 8, [.nilFunc], none⟩
def ti110 : TI := ⟨.other, 1, 8, [.nilFunc], none⟩
def ti115 : TI := ⟨.other, 1, 8, [.nilFunc], none⟩
def ti116 : TI := ⟨.other, 1, 8, [.pointer none], none⟩
def tl : List (Nat × TI) := [(1, ti1), (2, ti2), (3, ti3), (4, ti4), (5, ti5), (9, ti9), (12, ti12), (13, ti13), (20, ti20), (21, ti21), (22, ti22), (23, ti23), (24, ti24), (25, ti25), (26, ti26), (27, ti27), (28, ti28), (29, ti29), (30, ti30), (31, ti31), (33, ti33), (34, ti34), (35, ti35), (37, ti37), (38, ti38), (39, ti39), (40, ti40), (41, ti41), (42, ti42), (43, ti43), (45, ti45), (46, ti46), (47, ti47), (48, ti48), (49, ti49), (50, ti50), (51, ti51), (52, ti52), (53, ti53), (54, ti54), (55, ti55), (56, ti56), (57, ti57), (58, ti58), (59, ti59), (60, ti60), (61, ti61), (63, ti63), (64, ti64), (65, ti65), (66, ti66), (67, ti67), (68, ti68), (70, ti70), (71, ti71), (72, ti72), (74, ti74), (77, ti77), (78, ti78), (79, ti79), (80, ti80), (81, ti81), (83, ti83), (85, ti85), (86, ti86), (88, ti88), (89, ti89), (90, ti90), (91, ti91), (92, ti92), (93, ti93), (94, ti94), (95, ti95), (97, ti97), (101, ti101), (107, ti107), (110, ti110), (115, ti115), (116, ti116)]
def Tb : Tab := fun t => (tl.find? (fun p => p.1 == t)).map (·.2)
def RowOk (p : Nat × TI) : Prop := (Tryd.prog.info? p.1).map (fun x => (x.size, x.bytes, x.zero.map (·.cells.toList))) = some (p.2.size, p.2.bytes, some p.2.zero) ∧ (Tryd.prog.underlying p.1).map dOf = some p.2.d ∧ p.2.zero.length = p.2.size ∧ (∀ z ∈ p.2.zero, z.oneCell' = true) ∧ ∀ fs, p.2.eqf = some fs → Tryd.prog.underlying p.1 = some (.struct (Tryd.prog.fieldsOf p.1)) ∧ Tryd.prog.stoodInHeld p.1 = false ∧ Tryd.prog.eqGuardType Tryd.prog.depth p.1 = false ∧ (Tryd.prog.fieldsOf p.1).toList.map (fun f => (f.name == "_", f.offset, f.type)) = fs.map (fun p => (false, p.1, p.2))
theorem ro1 : RowOk (1, ti1) := ⟨by show (Tryd.prog.info? 1).map _ = _; kernel_rfl, by show (Tryd.prog.underlying 1).map dOf = _; kernel_rfl, rfl, by simp [ti1, Value.oneCell'], fun fs h => by cases h⟩
theorem ro2 : RowOk (2, ti2) := ⟨by show (Tryd.prog.info? 2).map _ = _; kernel_rfl, by show (Tryd.prog.underlying 2).map dOf = _; kernel_rfl, rfl, by simp [ti2, Value.oneCell'], fun fs h => by cases h⟩
theorem ro3 : RowOk (3, ti3) := ⟨by show (Tryd.prog.info? 3).map _ = _; kernel_rfl, by show (Tryd.prog.underlying 3).map dOf = _; kernel_rfl, rfl, by simp [ti3, Value.oneCell'], fun fs h => by cases h⟩
theorem ro4 : RowOk (4, ti4) := ⟨by show (Tryd.prog.info? 4).map _ = _; kernel_rfl, by show (Tryd.prog.underlying 4).map dOf = _; kernel_rfl, rfl, by simp [ti4, Value.oneCell'], fun fs h => by cases h⟩
theorem ro5 : RowOk (5, ti5) := ⟨by show (Tryd.prog.info? 5).map _ = _; kernel_rfl, by show (Tryd.prog.underlying 5).map dOf = _; kernel_rfl, rfl, by simp [ti5, Value.oneCell'], fun fs h => by cases h⟩
theorem ro9 : RowOk (9, ti9) := ⟨by show (Tryd.prog.info? 9).map _ = _; kernel_rfl, by show (Tryd.prog.underlying 9).map dOf = _; kernel_rfl, rfl, by simp [ti9, Value.oneCell'], fun fs h => by cases h⟩
theorem ro12 : RowOk (12, ti12) := ⟨by show (Tryd.prog.info? 12).map _ = _; kernel_rfl, by show (Tryd.prog.underlying 12).map dOf = _; kernel_rfl, rfl, by simp [ti12, Value.oneCell'], fun fs h => by cases h⟩
theorem ro13 : RowOk (13, ti13) := ⟨by show (Tryd.prog.info? 13).map _ = _; kernel_rfl, by show (Tryd.prog.underlying 13).map dOf = _; kernel_rfl, rfl, by simp [ti13, Value.oneCell'], fun fs h => by cases h⟩
theorem ro20 : RowOk (20, ti20) := ⟨by show (Tryd.prog.info? 20).map _ = _; kernel_rfl, by show (Tryd.prog.underlying 20).map dOf = _; kernel_rfl, rfl, by simp [ti20, Value.oneCell'], fun fs h => by cases h⟩
theorem ro21 : RowOk (21, ti21) := ⟨by show (Tryd.prog.info? 21).map _ = _; kernel_rfl, by show (Tryd.prog.underlying 21).map dOf = _; kernel_rfl, rfl, by simp [ti21, Value.oneCell'], fun fs h => by cases h⟩
theorem ro22 : RowOk (22, ti22) := ⟨by show (Tryd.prog.info? 22).map _ = _; kernel_rfl, by show (Tryd.prog.underlying 22).map dOf = _; kernel_rfl, rfl, by simp [ti22, Value.oneCell'], fun fs h => by cases h⟩
theorem ro23 : RowOk (23, ti23) := ⟨by show (Tryd.prog.info? 23).map _ = _; kernel_rfl, by show (Tryd.prog.underlying 23).map dOf = _; kernel_rfl, rfl, by simp [ti23, Value.oneCell'], fun fs h => by cases h; exact ⟨by show Tryd.prog.underlying 23 = _; kernel_rfl, by show Tryd.prog.stoodInHeld 23 = false; kernel_rfl, by show Tryd.prog.eqGuardType Tryd.prog.depth 23 = false; kernel_rfl, by kernel_rfl⟩⟩
theorem ro24 : RowOk (24, ti24) := ⟨by show (Tryd.prog.info? 24).map _ = _; kernel_rfl, by show (Tryd.prog.underlying 24).map dOf = _; kernel_rfl, rfl, by simp [ti24, Value.oneCell'], fun fs h => by cases h⟩
theorem ro25 : RowOk (25, ti25) := ⟨by show (Tryd.prog.info? 25).map _ = _; kernel_rfl, by show (Tryd.prog.underlying 25).map dOf = _; kernel_rfl, rfl, by simp [ti25, Value.oneCell'], fun fs h => by cases h⟩
theorem ro26 : RowOk (26, ti26) := ⟨by show (Tryd.prog.info? 26).map _ = _; kernel_rfl, by show (Tryd.prog.underlying 26).map dOf = _; kernel_rfl, rfl, by simp [ti26, Value.oneCell'], fun fs h => by cases h; exact ⟨by show Tryd.prog.underlying 26 = _; kernel_rfl, by show Tryd.prog.stoodInHeld 26 = false; kernel_rfl, by show Tryd.prog.eqGuardType Tryd.prog.depth 26 = false; kernel_rfl, by kernel_rfl⟩⟩
theorem ro27 : RowOk (27, ti27) := ⟨by show (Tryd.prog.info? 27).map _ = _; kernel_rfl, by show (Tryd.prog.underlying 27).map dOf = _; kernel_rfl, rfl, by simp [ti27, Value.oneCell'], fun fs h => by cases h⟩
theorem ro28 : RowOk (28, ti28) := ⟨by show (Tryd.prog.info? 28).map _ = _; kernel_rfl, by show (Tryd.prog.underlying 28).map dOf = _; kernel_rfl, rfl, by simp [ti28, Value.oneCell'], fun fs h => by cases h⟩
theorem ro29 : RowOk (29, ti29) := ⟨by show (Tryd.prog.info? 29).map _ = _; kernel_rfl, by show (Tryd.prog.underlying 29).map dOf = _; kernel_rfl, rfl, by simp [ti29, Value.oneCell'], fun fs h => by cases h⟩
theorem ro30 : RowOk (30, ti30) := ⟨by show (Tryd.prog.info? 30).map _ = _; kernel_rfl, by show (Tryd.prog.underlying 30).map dOf = _; kernel_rfl, rfl, by simp [ti30, Value.oneCell'], fun fs h => by cases h⟩
theorem ro31 : RowOk (31, ti31) := ⟨by show (Tryd.prog.info? 31).map _ = _; kernel_rfl, by show (Tryd.prog.underlying 31).map dOf = _; kernel_rfl, rfl, by simp [ti31, Value.oneCell'], fun fs h => by cases h⟩
theorem ro33 : RowOk (33, ti33) := ⟨by show (Tryd.prog.info? 33).map _ = _; kernel_rfl, by show (Tryd.prog.underlying 33).map dOf = _; kernel_rfl, rfl, by simp [ti33, Value.oneCell'], fun fs h => by cases h⟩
theorem ro34 : RowOk (34, ti34) := ⟨by show (Tryd.prog.info? 34).map _ = _; kernel_rfl, by show (Tryd.prog.underlying 34).map dOf = _; kernel_rfl, rfl, by simp [ti34, Value.oneCell'], fun fs h => by cases h⟩
theorem ro35 : RowOk (35, ti35) := ⟨by show (Tryd.prog.info? 35).map _ = _; kernel_rfl, by show (Tryd.prog.underlying 35).map dOf = _; kernel_rfl, rfl, by simp [ti35, Value.oneCell'], fun fs h => by cases h⟩
theorem ro37 : RowOk (37, ti37) := ⟨by show (Tryd.prog.info? 37).map _ = _; kernel_rfl, by show (Tryd.prog.underlying 37).map dOf = _; kernel_rfl, rfl, by simp [ti37, Value.oneCell'], fun fs h => by cases h⟩
theorem ro38 : RowOk (38, ti38) := ⟨by show (Tryd.prog.info? 38).map _ = _; kernel_rfl, by show (Tryd.prog.underlying 38).map dOf = _; kernel_rfl, rfl, by simp [ti38, Value.oneCell'], fun fs h => by cases h⟩
theorem ro39 : RowOk (39, ti39) := ⟨by show (Tryd.prog.info? 39).map _ = _; kernel_rfl, by show (Tryd.prog.underlying 39).map dOf = _; kernel_rfl, rfl, by simp [ti39, Value.oneCell'], fun fs h => by cases h⟩
theorem ro40 : RowOk (40, ti40) := ⟨by show (Tryd.prog.info? 40).map _ = _; kernel_rfl, by show (Tryd.prog.underlying 40).map dOf = _; kernel_rfl, rfl, by simp [ti40, Value.oneCell'], fun fs h => by cases h⟩
theorem ro41 : RowOk (41, ti41) := ⟨by show (Tryd.prog.info? 41).map _ = _; kernel_rfl, by show (Tryd.prog.underlying 41).map dOf = _; kernel_rfl, rfl, by simp [ti41, Value.oneCell'], fun fs h => by cases h⟩
theorem ro42 : RowOk (42, ti42) := ⟨by show (Tryd.prog.info? 42).map _ = _; kernel_rfl, by show (Tryd.prog.underlying 42).map dOf = _; kernel_rfl, rfl, by simp [ti42, Value.oneCell'], fun fs h => by cases h⟩
theorem ro43 : RowOk (43, ti43) := ⟨by show (Tryd.prog.info? 43).map _ = _; kernel_rfl, by show (Tryd.prog.underlying 43).map dOf = _; kernel_rfl, rfl, by simp [ti43, Value.oneCell'], fun fs h => by cases h⟩
theorem ro45 : RowOk (45, ti45) := ⟨by show (Tryd.prog.info? 45).map _ = _; kernel_rfl, by show (Tryd.prog.underlying 45).map dOf = _; kernel_rfl, rfl, by simp [ti45, Value.oneCell'], fun fs h => by cases h⟩
theorem ro46 : RowOk (46, ti46) := ⟨by show (Tryd.prog.info? 46).map _ = _; kernel_rfl, by show (Tryd.prog.underlying 46).map dOf = _; kernel_rfl, rfl, by simp [ti46, Value.oneCell'], fun fs h => by cases h⟩
theorem ro47 : RowOk (47, ti47) := ⟨by show (Tryd.prog.info? 47).map _ = _; kernel_rfl, by show (Tryd.prog.underlying 47).map dOf = _; kernel_rfl, rfl, by simp [ti47, Value.oneCell'], fun fs h => by cases h⟩
theorem ro48 : RowOk (48, ti48) := ⟨by show (Tryd.prog.info? 48).map _ = _; kernel_rfl, by show (Tryd.prog.underlying 48).map dOf = _; kernel_rfl, rfl, by simp [ti48, Value.oneCell'], fun fs h => by cases h⟩
theorem ro49 : RowOk (49, ti49) := ⟨by show (Tryd.prog.info? 49).map _ = _; kernel_rfl, by show (Tryd.prog.underlying 49).map dOf = _; kernel_rfl, rfl, by simp [ti49, Value.oneCell'], fun fs h => by cases h⟩
theorem ro50 : RowOk (50, ti50) := ⟨by show (Tryd.prog.info? 50).map _ = _; kernel_rfl, by show (Tryd.prog.underlying 50).map dOf = _; kernel_rfl, rfl, by simp [ti50, Value.oneCell'], fun fs h => by cases h⟩
theorem ro51 : RowOk (51, ti51) := ⟨by show (Tryd.prog.info? 51).map _ = _; kernel_rfl, by show (Tryd.prog.underlying 51).map dOf = _; kernel_rfl, rfl, by simp [ti51, Value.oneCell'], fun fs h => by cases h⟩
theorem ro52 : RowOk (52, ti52) := ⟨by show (Tryd.prog.info? 52).map _ = _; kernel_rfl, by show (Tryd.prog.underlying 52).map dOf = _; kernel_rfl, rfl, by simp [ti52, Value.oneCell'], fun fs h => by cases h⟩
theorem ro53 : RowOk (53, ti53) := ⟨by show (Tryd.prog.info? 53).map _ = _; kernel_rfl, by show (Tryd.prog.underlying 53).map dOf = _; kernel_rfl, rfl, by simp [ti53, Value.oneCell'], fun fs h => by cases h⟩
theorem ro54 : RowOk (54, ti54) := ⟨by show (Tryd.prog.info? 54).map _ = _; kernel_rfl, by show (Tryd.prog.underlying 54).map dOf = _; kernel_rfl, rfl, by simp [ti54, Value.oneCell'], fun fs h => by cases h⟩
theorem ro55 : RowOk (55, ti55) := ⟨by show (Tryd.prog.info? 55).map _ = _; kernel_rfl, by show (Tryd.prog.underlying 55).map dOf = _; kernel_rfl, rfl, by simp [ti55, Value.oneCell'], fun fs h => by cases h⟩
theorem ro56 : RowOk (56, ti56) := ⟨by show (Tryd.prog.info? 56).map _ = _; kernel_rfl, by show (Tryd.prog.underlying 56).map dOf = _; kernel_rfl, rfl, by simp [ti56, Value.oneCell'], fun fs h => by cases h⟩
theorem ro57 : RowOk (57, ti57) := ⟨by show (Tryd.prog.info? 57).map _ = _; kernel_rfl, by show (Tryd.prog.underlying 57).map dOf = _; kernel_rfl, rfl, by simp [ti57, Value.oneCell'], fun fs h => by cases h⟩
theorem ro58 : RowOk (58, ti58) := ⟨by show (Tryd.prog.info? 58).map _ = _; kernel_rfl, by show (Tryd.prog.underlying 58).map dOf = _; kernel_rfl, rfl, by simp [ti58, Value.oneCell'], fun fs h => by cases h⟩
theorem ro59 : RowOk (59, ti59) := ⟨by show (Tryd.prog.info? 59).map _ = _; kernel_rfl, by show (Tryd.prog.underlying 59).map dOf = _; kernel_rfl, rfl, by simp [ti59, Value.oneCell'], fun fs h => by cases h⟩
theorem ro60 : RowOk (60, ti60) := ⟨by show (Tryd.prog.info? 60).map _ = _; kernel_rfl, by show (Tryd.prog.underlying 60).map dOf = _; kernel_rfl, rfl, by simp [ti60, Value.oneCell'], fun fs h => by cases h⟩
theorem ro61 : RowOk (61, ti61) := ⟨by show (Tryd.prog.info? 61).map _ = _; kernel_rfl, by show (Tryd.prog.underlying 61).map dOf = _; kernel_rfl, rfl, by simp [ti61, Value.oneCell'], fun fs h => by cases h⟩
theorem ro63 : RowOk (63, ti63) := ⟨by show (Tryd.prog.info? 63).map _ = _; kernel_rfl, by show (Tryd.prog.underlying 63).map dOf = _; kernel_rfl, rfl, by simp [ti63, Value.oneCell'], fun fs h => by cases h⟩
theorem ro64 : RowOk (64, ti64) := ⟨by show (Tryd.prog.info? 64).map _ = _; kernel_rfl, by show (Tryd.prog.underlying 64).map dOf = _; kernel_rfl, rfl, by simp [ti64, Value.oneCell'], fun fs h => by cases h⟩
theorem ro65 : RowOk (65, ti65) := ⟨by show (Tryd.prog.info? 65).map _ = _; kernel_rfl, by show (Tryd.prog.underlying 65).map dOf = _; kernel_rfl, rfl, by simp [ti65, Value.oneCell'], fun fs h => by cases h⟩
theorem ro66 : RowOk (66, ti66) := ⟨by show (Tryd.prog.info? 66).map _ = _; kernel_rfl, by show (Tryd.prog.underlying 66).map dOf = _; kernel_rfl, rfl, by simp [ti66, Value.oneCell'], fun fs h => by cases h⟩
theorem ro67 : RowOk (67, ti67) := ⟨by show (Tryd.prog.info? 67).map _ = _; kernel_rfl, by show (Tryd.prog.underlying 67).map dOf = _; kernel_rfl, rfl, by simp [ti67, Value.oneCell'], fun fs h => by cases h⟩
theorem ro68 : RowOk (68, ti68) := ⟨by show (Tryd.prog.info? 68).map _ = _; kernel_rfl, by show (Tryd.prog.underlying 68).map dOf = _; kernel_rfl, rfl, by simp [ti68, Value.oneCell'], fun fs h => by cases h⟩
theorem ro70 : RowOk (70, ti70) := ⟨by show (Tryd.prog.info? 70).map _ = _; kernel_rfl, by show (Tryd.prog.underlying 70).map dOf = _; kernel_rfl, rfl, by simp [ti70, Value.oneCell'], fun fs h => by cases h⟩
theorem ro71 : RowOk (71, ti71) := ⟨by show (Tryd.prog.info? 71).map _ = _; kernel_rfl, by show (Tryd.prog.underlying 71).map dOf = _; kernel_rfl, rfl, by simp [ti71, Value.oneCell'], fun fs h => by cases h⟩
theorem ro72 : RowOk (72, ti72) := ⟨by show (Tryd.prog.info? 72).map _ = _; kernel_rfl, by show (Tryd.prog.underlying 72).map dOf = _; kernel_rfl, rfl, by simp [ti72, Value.oneCell'], fun fs h => by cases h⟩
theorem ro74 : RowOk (74, ti74) := ⟨by show (Tryd.prog.info? 74).map _ = _; kernel_rfl, by show (Tryd.prog.underlying 74).map dOf = _; kernel_rfl, rfl, by simp [ti74, Value.oneCell'], fun fs h => by cases h⟩
theorem ro77 : RowOk (77, ti77) := ⟨by show (Tryd.prog.info? 77).map _ = _; kernel_rfl, by show (Tryd.prog.underlying 77).map dOf = _; kernel_rfl, rfl, by simp [ti77, Value.oneCell'], fun fs h => by cases h⟩
theorem ro78 : RowOk (78, ti78) := ⟨by show (Tryd.prog.info? 78).map _ = _; kernel_rfl, by show (Tryd.prog.underlying 78).map dOf = _; kernel_rfl, rfl, by simp [ti78, Value.oneCell'], fun fs h => by cases h⟩
theorem ro79 : RowOk (79, ti79) := ⟨by show (Tryd.prog.info? 79).map _ = _; kernel_rfl, by show (Tryd.prog.underlying 79).map dOf = _; kernel_rfl, rfl, by simp [ti79, Value.oneCell'], fun fs h => by cases h⟩
theorem ro80 : RowOk (80, ti80) := ⟨by show (Tryd.prog.info? 80).map _ = _; kernel_rfl, by show (Tryd.prog.underlying 80).map dOf = _; kernel_rfl, rfl, by simp [ti80, Value.oneCell'], fun fs h => by cases h⟩
theorem ro81 : RowOk (81, ti81) := ⟨by show (Tryd.prog.info? 81).map _ = _; kernel_rfl, by show (Tryd.prog.underlying 81).map dOf = _; kernel_rfl, rfl, by simp [ti81, Value.oneCell'], fun fs h => by cases h⟩
theorem ro83 : RowOk (83, ti83) := ⟨by show (Tryd.prog.info? 83).map _ = _; kernel_rfl, by show (Tryd.prog.underlying 83).map dOf = _; kernel_rfl, rfl, by simp [ti83, Value.oneCell'], fun fs h => by cases h⟩
theorem ro85 : RowOk (85, ti85) := ⟨by show (Tryd.prog.info? 85).map _ = _; kernel_rfl, by show (Tryd.prog.underlying 85).map dOf = _; kernel_rfl, rfl, by simp [ti85, Value.oneCell'], fun fs h => by cases h⟩
theorem ro86 : RowOk (86, ti86) := ⟨by show (Tryd.prog.info? 86).map _ = _; kernel_rfl, by show (Tryd.prog.underlying 86).map dOf = _; kernel_rfl, rfl, by simp [ti86, Value.oneCell'], fun fs h => by cases h⟩
theorem ro88 : RowOk (88, ti88) := ⟨by show (Tryd.prog.info? 88).map _ = _; kernel_rfl, by show (Tryd.prog.underlying 88).map dOf = _; kernel_rfl, rfl, by simp [ti88, Value.oneCell'], fun fs h => by cases h⟩
theorem ro89 : RowOk (89, ti89) := ⟨by show (Tryd.prog.info? 89).map _ = _; kernel_rfl, by show (Tryd.prog.underlying 89).map dOf = _; kernel_rfl, rfl, by simp [ti89, Value.oneCell'], fun fs h => by cases h⟩
theorem ro90 : RowOk (90, ti90) := ⟨by show (Tryd.prog.info? 90).map _ = _; kernel_rfl, by show (Tryd.prog.underlying 90).map dOf = _; kernel_rfl, rfl, by simp [ti90, Value.oneCell'], fun fs h => by cases h⟩
theorem ro91 : RowOk (91, ti91) := ⟨by show (Tryd.prog.info? 91).map _ = _; kernel_rfl, by show (Tryd.prog.underlying 91).map dOf = _; kernel_rfl, rfl, by simp [ti91, Value.oneCell'], fun fs h => by cases h⟩
theorem ro92 : RowOk (92, ti92) := ⟨by show (Tryd.prog.info? 92).map _ = _; kernel_rfl, by show (Tryd.prog.underlying 92).map dOf = _; kernel_rfl, rfl, by simp [ti92, Value.oneCell'], fun fs h => by cases h⟩
theorem ro93 : RowOk (93, ti93) := ⟨by show (Tryd.prog.info? 93).map _ = _; kernel_rfl, by show (Tryd.prog.underlying 93).map dOf = _; kernel_rfl, rfl, by simp [ti93, Value.oneCell'], fun fs h => by cases h⟩
theorem ro94 : RowOk (94, ti94) := ⟨by show (Tryd.prog.info? 94).map _ = _; kernel_rfl, by show (Tryd.prog.underlying 94).map dOf = _; kernel_rfl, rfl, by simp [ti94, Value.oneCell'], fun fs h => by cases h⟩
theorem ro95 : RowOk (95, ti95) := ⟨by show (Tryd.prog.info? 95).map _ = _; kernel_rfl, by show (Tryd.prog.underlying 95).map dOf = _; kernel_rfl, rfl, by simp [ti95, Value.oneCell'], fun fs h => by cases h⟩
theorem ro97 : RowOk (97, ti97) := ⟨by show (Tryd.prog.info? 97).map _ = _; kernel_rfl, by show (Tryd.prog.underlying 97).map dOf = _; kernel_rfl, rfl, by simp [ti97, Value.oneCell'], fun fs h => by cases h⟩
theorem ro101 : RowOk (101, ti101) := ⟨by show (Tryd.prog.info? 101).map _ = _; kernel_rfl, by show (Tryd.prog.underlying 101).map dOf = _; kernel_rfl, rfl, by simp [ti101, Value.oneCell'], fun fs h => by cases h⟩
theorem ro107 : RowOk (107, ti107) := ⟨by show (Tryd.prog.info? 107).map _ = _; kernel_rfl, by show (Tryd.prog.underlying 107).map dOf = _; kernel_rfl, rfl, by simp [ti107, Value.oneCell'], fun fs h => by cases h⟩
theorem ro110 : RowOk (110, ti110) := ⟨by show (Tryd.prog.info? 110).map _ = _; kernel_rfl, by show (Tryd.prog.underlying 110).map dOf = _; kernel_rfl, rfl, by simp [ti110, Value.oneCell'], fun fs h => by cases h⟩
theorem ro115 : RowOk (115, ti115) := ⟨by show (Tryd.prog.info? 115).map _ = _; kernel_rfl, by show (Tryd.prog.underlying 115).map dOf = _; kernel_rfl, rfl, by simp [ti115, Value.oneCell'], fun fs h => by cases h⟩
theorem ro116 : RowOk (116, ti116) := ⟨by show (Tryd.prog.info? 116).map _ = _; kernel_rfl, by show (Tryd.prog.underlying 116).map dOf = _; kernel_rfl, rfl, by simp [ti116, Value.oneCell'], fun fs h => by cases h⟩
theorem tl_ok : ∀ p ∈ tl, RowOk p := by
  unfold tl
  exact List.forall_mem_cons.2 ⟨ro1, List.forall_mem_cons.2 ⟨ro2, List.forall_mem_cons.2 ⟨ro3, List.forall_mem_cons.2 ⟨ro4, List.forall_mem_cons.2 ⟨ro5, List.forall_mem_cons.2 ⟨ro9, List.forall_mem_cons.2 ⟨ro12, List.forall_mem_cons.2 ⟨ro13, List.forall_mem_cons.2 ⟨ro20, List.forall_mem_cons.2 ⟨ro21, List.forall_mem_cons.2 ⟨ro22, List.forall_mem_cons.2 ⟨ro23, List.forall_mem_cons.2 ⟨ro24, List.forall_mem_cons.2 ⟨ro25, List.forall_mem_cons.2 ⟨ro26, List.forall_mem_cons.2 ⟨ro27, List.forall_mem_cons.2 ⟨ro28, List.forall_mem_cons.2 ⟨ro29, List.forall_mem_cons.2 ⟨ro30, List.forall_mem_cons.2 ⟨ro31, List.forall_mem_cons.2 ⟨ro33, List.forall_mem_cons.2 ⟨ro34, List.forall_mem_cons.2 ⟨ro35, List.forall_mem_cons.2 ⟨ro37, List.forall_mem_cons.2 ⟨ro38, List.forall_mem_cons.2 ⟨ro39, List.forall_mem_cons.2 ⟨ro40, List.forall_mem_cons.2 ⟨ro41, List.forall_mem_cons.2 ⟨ro42, List.forall_mem_cons.2 ⟨ro43, List.forall_mem_cons.2 ⟨ro45, List.forall_mem_cons.2 ⟨ro46, List.forall_mem_cons.2 ⟨ro47, List.forall_mem_cons.2 ⟨ro48, List.forall_mem_cons.2 ⟨ro49, List.forall_mem_cons.2 ⟨ro50, List.forall_mem_cons.2 ⟨ro51, List.forall_mem_cons.2 ⟨ro52, List.forall_mem_cons.2 ⟨ro53, List.forall_mem_cons.2 ⟨ro54, List.forall_mem_cons.2 ⟨ro55, List.forall_mem_cons.2 ⟨ro56, List.forall_mem_cons.2 ⟨ro57, List.forall_mem_cons.2 ⟨ro58, List.forall_mem_cons.2 ⟨ro59, List.forall_mem_cons.2 ⟨ro60, List.forall_mem_cons.2 ⟨ro61, List.forall_mem_cons.2 ⟨ro63, List.forall_mem_cons.2 ⟨ro64, List.forall_mem_cons.2 ⟨ro65, List.forall_mem_cons.2 ⟨ro66, List.forall_mem_cons.2 ⟨ro67, List.forall_mem_cons.2 ⟨ro68, List.forall_mem_cons.2 ⟨ro70, List.forall_mem_cons.2 ⟨ro71, List.forall_mem_cons.2 ⟨ro72, List.forall_mem_cons.2 ⟨ro74, List.forall_mem_cons.2 ⟨ro77, List.forall_mem_cons.2 ⟨ro78, List.forall_mem_cons.2 ⟨ro79, List.forall_mem_cons.2 ⟨ro80, List.forall_mem_cons.2 ⟨ro81, List.forall_mem_cons.2 ⟨ro83, List.forall_mem_cons.2 ⟨ro85, List.forall_mem_cons.2 ⟨ro86, List.forall_mem_cons.2 ⟨ro88, List.forall_mem_cons.2 ⟨ro89, List.forall_mem_cons.2 ⟨ro90, List.forall_mem_cons.2 ⟨ro91, List.forall_mem_cons.2 ⟨ro92, List.forall_mem_cons.2 ⟨ro93, List.forall_mem_cons.2 ⟨ro94, List.forall_mem_cons.2 ⟨ro95, List.forall_mem_cons.2 ⟨ro97, List.forall_mem_cons.2 ⟨ro101, List.forall_mem_cons.2 ⟨ro107, List.forall_mem_cons.2 ⟨ro110, List.forall_mem_cons.2 ⟨ro115, List.forall_mem_cons.2 ⟨ro116, (fun _ h => by cases h)⟩⟩⟩⟩⟩⟩⟩⟩⟩⟩⟩⟩⟩⟩⟩⟩⟩⟩⟩⟩⟩⟩⟩⟩⟩⟩⟩⟩⟩⟩⟩⟩⟩⟩⟩⟩⟩⟩⟩⟩⟩⟩⟩⟩⟩⟩⟩⟩⟩⟩⟩⟩⟩⟩⟩⟩⟩⟩⟩⟩⟩⟩⟩⟩⟩⟩⟩⟩⟩⟩⟩⟩⟩⟩⟩⟩⟩⟩⟩
theorem hMix : Tryd.prog.follows .mixedOrders = true := by kernel_rfl
theorem Tb_mem {t : Nat} {i : TI} (h : Tb t = some i) : RowOk (t, i) := by
  unfold Tb at h
  cases hf : tl.find? (fun p => p.1 == t) with
  | none => rw [hf] at h; cases h
  | some p =>
    rw [hf] at h
    have hm := List.mem_of_find?_eq_some hf
    have hp : (p.1 == t) = true := List.find?_some (p := fun p : Nat × TI => p.1 == t) hf
    cases h
    have := beq_iff_eq.1 hp
    subst this
    exact tl_ok p hm
theorem hTb : TabOk Tryd.prog Tb := ⟨fun _ _ h => (Tb_mem h).1, fun _ _ h => (Tb_mem h).2.1, fun _ _ h => ⟨(Tb_mem h).2.2.1, (Tb_mem h).2.2.2.1⟩, fun _ _ fs h => (Tb_mem h).2.2.2.2 fs⟩
end Go.Vl

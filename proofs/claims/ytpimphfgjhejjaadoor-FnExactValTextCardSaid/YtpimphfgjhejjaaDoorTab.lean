/- The table of types of this seat's program, and that it is the program's. Written by our own gentab.py. -/
import Derived.Test.YtpimphfgjhejjaaDoorProg
import Derived.Test.YtpimphfgjhejjaaDoorWa
import Derived.KernelRfl
namespace Go.Vl
open Go Go.Proofs
def ti1 : TI := ⟨.other, 1, 8, [.nilFunc], none⟩
def ti2 : TI := ⟨.int .i64, 1, 8, [.int .i64 0], none⟩
def ti3 : TI := ⟨.int .i64, 1, 8, [.int .i64 0], none⟩
def ti4 : TI := ⟨.bool, 1, 1, [.bool false], none⟩
def ti5 : TI := ⟨.int .u8, 1, 1, [.int .u8 0], none⟩
def ti9 : TI := ⟨.str, 1, 16, [.string ⟨#[]⟩], none⟩
def ti12 : TI := ⟨.int .u64, 1, 8, [.int .u64 0], none⟩
def ti13 : TI := ⟨.st [(0, 9), (1, 12)], 2, 24, [.string ⟨#[]⟩, .int .u64 0], none⟩
def ti20 : TI := ⟨.other, 1, 16, [.nilIface], none⟩
def ti21 : TI := ⟨.int .i32, 1, 4, [.int .i32 0], none⟩
def ti22 : TI := ⟨.st [(0, 3), (1, 3), (2, 9)], 3, 32, [.int .i64 0, .int .i64 0, .string ⟨#[]⟩], none⟩
def ti23 : TI := ⟨.st [(0, 3), (1, 3), (2, 9)], 3, 32, [.int .i64 0, .int .i64 0, .string ⟨#[]⟩], some [(0, 3), (1, 3), (2, 9)]⟩
def ti24 : TI := ⟨.other, 1, 8, [.nilFunc], none⟩
def ti25 : TI := ⟨.other, 1, 8, [.nilFunc], none⟩
def ti26 : TI := ⟨.st [(0, 3), (1, 3), (2, 9)], 3, 32, [.int .i64 0, .int .i64 0, .string ⟨#[]⟩], some [(0, 3), (1, 3), (2, 9)]⟩
def ti27 : TI := ⟨.other, 1, 8, [.nilFunc], none⟩
def ti28 : TI := ⟨.other, 1, 8, [.nilFunc], none⟩
def ti29 : TI := ⟨.other, 1, 8, [.nilFunc], none⟩
def ti30 : TI := ⟨.other, 1, 8, [.nilFunc], none⟩
def ti31 : TI := ⟨.other, 1, 8, [.nilFunc], none⟩
def ti32 : TI := ⟨.other, 1, 8, [.nilFunc], none⟩
def ti33 : TI := ⟨.sl 5, 1, 24, [.slice none 0 0], none⟩
def ti34 : TI := ⟨.other, 1, 8, [.nilFunc], none⟩
def ti35 : TI := ⟨.other, 1, 8, [.nilFunc], none⟩
def ti37 : TI := ⟨.int .u64, 1, 8, [.int .u64 0], none⟩
def ti38 : TI := ⟨.other, 1, 8, [.nilFunc], none⟩
def ti39 : TI := ⟨.other, 1, 8, [.nilFunc], none⟩
def ti41 : TI := ⟨.other, 1, 8, [.nilFunc], none⟩
def ti42 : TI := ⟨.other, 1, 8, [.nilFunc], none⟩
def ti43 : TI := ⟨.other, 1, 8, [.nilFunc], none⟩
def ti45 : TI := ⟨.int .u32, 1, 4, [.int .u32 0], none⟩
def ti47 : TI := ⟨.int .u64, 1, 8, [.int .u64 0], none⟩
def ti48 : TI := ⟨.other, 1, 8, [.nilFunc], none⟩
def ti49 : TI := ⟨.other, 1, 8, [.nilFunc], none⟩
def ti52 : TI := ⟨.other, 1, 8, [.nilFunc], none⟩
def ti58 : TI := ⟨.other, 1, 8, [.nilFunc], none⟩
def ti61 : TI := ⟨.other, 1, 8, [.nilFunc], none⟩
def ti62 : TI := ⟨.other, 1, 8, [.pointer none], none⟩
def ti67 : TI := ⟨.other, 1, 8, [.pointer none], none⟩
def tl : List (Nat × TI) := [(1, ti1), (2, ti2), (3, ti3), (4, ti4), (5, ti5), (9, ti9), (12, ti12), (13, ti13), (20, ti20), (21, ti21), (22, ti22), (23, ti23), (24, ti24), (25, ti25), (26, ti26), (27, ti27), (28, ti28), (29, ti29), (30, ti30), (31, ti31), (32, ti32), (33, ti33), (34, ti34), (35, ti35), (37, ti37), (38, ti38), (39, ti39), (41, ti41), (42, ti42), (43, ti43), (45, ti45), (47, ti47), (48, ti48), (49, ti49), (52, ti52), (58, ti58), (61, ti61), (62, ti62), (67, ti67)]
def Tb : Tab := fun t => (tl.find? (fun p => p.1 == t)).map (·.2)
def RowOk (p : Nat × TI) : Prop := (Tryd.prog.info? p.1).map (fun x => (x.size, x.bytes, x.zero.map (·.cells.toList))) = some (p.2.size, p.2.bytes, some p.2.zero) ∧ (Tryd.prog.underlying p.1).map dOf = some p.2.d ∧ p.2.zero.length = p.2.size ∧ (∀ z ∈ p.2.zero, z.oneCell' = true) ∧ ∀ fs, p.2.eqf = some fs → Tryd.prog.underlying p.1 = some (.struct (Tryd.prog.fieldsOf p.1)) ∧ Tryd.prog.stoodInHeld p.1 = false ∧ Tryd.prog.eqGuardType Tryd.prog.depth p.1 = false ∧ (Tryd.prog.fieldsOf p.1).toList.map (fun f => (f.name == "_", f.offset, f.type)) = fs.map (fun p => (false, p.1, p.2))
theorem ro1 : RowOk (1, ti1) := ⟨by show (Tryd.prog.info? 1).map _ = _; kernel_rfl, by show (Tryd.prog.underlying 1).map dOf = _; kernel_rfl, rfl, by simp [ti1, Value.oneCell'], fun fs h => by cases h⟩
theorem ro2 : RowOk (2, ti2) := ⟨by show (Tryd.prog.info? 2).map _ = _; kernel_rfl, by show (Tryd.prog.underlying 2).map dOf = _; kernel_rfl, rfl, by simp [ti2, Value.oneCell'], fun fs h => by cases h⟩
theorem ro3 : RowOk (3, ti3) := ⟨by show (Tryd.prog.info? 3).map _ = _; kernel_rfl, by show (Tryd.prog.underlying 3).map dOf = _; kernel_rfl, rfl, by simp [ti3, Value.oneCell'], fun fs h => by cases h⟩
theorem ro4 : RowOk (4, ti4) := ⟨by show (Tryd.prog.info? 4).map _ = _; kernel_rfl, by show (Tryd.prog.underlying 4).map dOf = _; kernel_rfl, rfl, by simp [ti4, Value.oneCell'], fun fs h => by cases h⟩
theorem ro5 : RowOk (5, ti5) := ⟨by show (Tryd.prog.info? 5).map _ = _; kernel_rfl, by show (Tryd.prog.underlying 5).map dOf = _; kernel_rfl, rfl, by simp [ti5, Value.oneCell'], fun fs h => by cases h⟩
theorem ro9 : RowOk (9, ti9) := ⟨by show (Tryd.prog.info? 9).map _ = _; kernel_rfl, by show (Tryd.prog.underlying 9).map dOf = _; kernel_rfl, rfl, by simp [ti9, Value.oneCell'], fun fs h => by cases h⟩
theorem ro12 : RowOk (12, ti12) := ⟨by show (Tryd.prog.info? 12).map _ = _; kernel_rfl, by show (Tryd.prog.underlying 12).map dOf = _; kernel_rfl, rfl, by simp [ti12, Value.oneCell'], fun fs h => by cases h⟩
theorem ro13 : RowOk (13, ti13) := ⟨by show (Tryd.prog.info? 13).map _ = _; kernel_rfl, by show (Tryd.prog.underlying 13).map dOf = _; kernel_rfl, rfl, by simp [ti13, Value.oneCell'], fun fs h => by cases h⟩
theorem ro20 : RowOk (20, ti20) := ⟨by show (Tryd.prog.info? 20).map _ = _; kernel_rfl, by show (Tryd.prog.underlying 20).map dOf = _; kernel_rfl, rfl, by simp [ti20, Value.oneCell'], fun fs h => by cases h⟩
theorem ro21 : RowOk (21, ti21) := ⟨by show (Tryd.prog.info? 21).map _ = _; kernel_rfl, by show (Tryd.prog.underlying 21).map dOf = _; kernel_rfl, rfl, by simp [ti21, Value.oneCell'], fun fs h => by cases h⟩
theorem ro22 : RowOk (22, ti22) := ⟨by show (Tryd.prog.info? 22).map _ = _; kernel_rfl, by show (Tryd.prog.underlying 22).map dOf = _; kernel_rfl, rfl, by simp [ti22, Value.oneCell'], fun fs h => by cases h⟩
theorem ro23 : RowOk (23, ti23) := ⟨by show (Tryd.prog.info? 23).map _ = _; kernel_rfl, by show (Tryd.prog.underlying 23).map dOf = _; kernel_rfl, rfl, by simp [ti23, Value.oneCell'], fun fs h => by cases h; exact ⟨by show Tryd.prog.underlying 23 = _; kernel_rfl, by show Tryd.prog.stoodInHeld 23 = false; kernel_rfl, by show Tryd.prog.eqGuardType Tryd.prog.depth 23 = false; kernel_rfl, by kernel_rfl⟩⟩
theorem ro24 : RowOk (24, ti24) := ⟨by show (Tryd.prog.info? 24).map _ = _; kernel_rfl, by show (Tryd.prog.underlying 24).map dOf = _; kernel_rfl, rfl, by simp [ti24, Value.oneCell'], fun fs h => by cases h⟩
theorem ro25 : RowOk (25, ti25) := ⟨by show (Tryd.prog.info? 25).map _ = _; kernel_rfl, by show (Tryd.prog.underlying 25).map dOf = _; kernel_rfl, rfl, by simp [ti25, Value.oneCell'], fun fs h => by cases h⟩
theorem ro26 : RowOk (26, ti26) := ⟨by show (Tryd.prog.info? 26).map _ = _; kernel_rfl, by show (Tryd.prog.underlying 26).map dOf = _; kernel_rfl, rfl, by simp [ti26, Value.oneCell'], fun fs h => by cases h; exact ⟨by show Tryd.prog.underlying 26 = _; kernel_rfl, by show Tryd.prog.stoodInHeld 26 = false; kernel_rfl, by show Tryd.prog.eqGuardType Tryd.prog.depth 26 = false; kernel_rfl, by kernel_rfl⟩⟩
theorem ro27 : RowOk (27, ti27) := ⟨by show (Tryd.prog.info? 27).map _ = _; kernel_rfl, by show (Tryd.prog.underlying 27).map dOf = _; kernel_rfl, rfl, by simp [ti27, Value.oneCell'], fun fs h => by cases h⟩
theorem ro28 : RowOk (28, ti28) := ⟨by show (Tryd.prog.info? 28).map _ = _; kernel_rfl, by show (Tryd.prog.underlying 28).map dOf = _; kernel_rfl, rfl, by simp [ti28, Value.oneCell'], fun fs h => by cases h⟩
theorem ro29 : RowOk (29, ti29) := ⟨by show (Tryd.prog.info? 29).map _ = _; kernel_rfl, by show (Tryd.prog.underlying 29).map dOf = _; kernel_rfl, rfl, by simp [ti29, Value.oneCell'], fun fs h => by cases h⟩
theorem ro30 : RowOk (30, ti30) := ⟨by show (Tryd.prog.info? 30).map _ = _; kernel_rfl, by show (Tryd.prog.underlying 30).map dOf = _; kernel_rfl, rfl, by simp [ti30, Value.oneCell'], fun fs h => by cases h⟩
theorem ro31 : RowOk (31, ti31) := ⟨by show (Tryd.prog.info? 31).map _ = _; kernel_rfl, by show (Tryd.prog.underlying 31).map dOf = _; kernel_rfl, rfl, by simp [ti31, Value.oneCell'], fun fs h => by cases h⟩
theorem ro32 : RowOk (32, ti32) := ⟨by show (Tryd.prog.info? 32).map _ = _; kernel_rfl, by show (Tryd.prog.underlying 32).map dOf = _; kernel_rfl, rfl, by simp [ti32, Value.oneCell'], fun fs h => by cases h⟩
theorem ro33 : RowOk (33, ti33) := ⟨by show (Tryd.prog.info? 33).map _ = _; kernel_rfl, by show (Tryd.prog.underlying 33).map dOf = _; kernel_rfl, rfl, by simp [ti33, Value.oneCell'], fun fs h => by cases h⟩
theorem ro34 : RowOk (34, ti34) := ⟨by show (Tryd.prog.info? 34).map _ = _; kernel_rfl, by show (Tryd.prog.underlying 34).map dOf = _; kernel_rfl, rfl, by simp [ti34, Value.oneCell'], fun fs h => by cases h⟩
theorem ro35 : RowOk (35, ti35) := ⟨by show (Tryd.prog.info? 35).map _ = _; kernel_rfl, by show (Tryd.prog.underlying 35).map dOf = _; kernel_rfl, rfl, by simp [ti35, Value.oneCell'], fun fs h => by cases h⟩
theorem ro37 : RowOk (37, ti37) := ⟨by show (Tryd.prog.info? 37).map _ = _; kernel_rfl, by show (Tryd.prog.underlying 37).map dOf = _; kernel_rfl, rfl, by simp [ti37, Value.oneCell'], fun fs h => by cases h⟩
theorem ro38 : RowOk (38, ti38) := ⟨by show (Tryd.prog.info? 38).map _ = _; kernel_rfl, by show (Tryd.prog.underlying 38).map dOf = _; kernel_rfl, rfl, by simp [ti38, Value.oneCell'], fun fs h => by cases h⟩
theorem ro39 : RowOk (39, ti39) := ⟨by show (Tryd.prog.info? 39).map _ = _; kernel_rfl, by show (Tryd.prog.underlying 39).map dOf = _; kernel_rfl, rfl, by simp [ti39, Value.oneCell'], fun fs h => by cases h⟩
theorem ro41 : RowOk (41, ti41) := ⟨by show (Tryd.prog.info? 41).map _ = _; kernel_rfl, by show (Tryd.prog.underlying 41).map dOf = _; kernel_rfl, rfl, by simp [ti41, Value.oneCell'], fun fs h => by cases h⟩
theorem ro42 : RowOk (42, ti42) := ⟨by show (Tryd.prog.info? 42).map _ = _; kernel_rfl, by show (Tryd.prog.underlying 42).map dOf = _; kernel_rfl, rfl, by simp [ti42, Value.oneCell'], fun fs h => by cases h⟩
theorem ro43 : RowOk (43, ti43) := ⟨by show (Tryd.prog.info? 43).map _ = _; kernel_rfl, by show (Tryd.prog.underlying 43).map dOf = _; kernel_rfl, rfl, by simp [ti43, Value.oneCell'], fun fs h => by cases h⟩
theorem ro45 : RowOk (45, ti45) := ⟨by show (Tryd.prog.info? 45).map _ = _; kernel_rfl, by show (Tryd.prog.underlying 45).map dOf = _; kernel_rfl, rfl, by simp [ti45, Value.oneCell'], fun fs h => by cases h⟩
theorem ro47 : RowOk (47, ti47) := ⟨by show (Tryd.prog.info? 47).map _ = _; kernel_rfl, by show (Tryd.prog.underlying 47).map dOf = _; kernel_rfl, rfl, by simp [ti47, Value.oneCell'], fun fs h => by cases h⟩
theorem ro48 : RowOk (48, ti48) := ⟨by show (Tryd.prog.info? 48).map _ = _; kernel_rfl, by show (Tryd.prog.underlying 48).map dOf = _; kernel_rfl, rfl, by simp [ti48, Value.oneCell'], fun fs h => by cases h⟩
theorem ro49 : RowOk (49, ti49) := ⟨by show (Tryd.prog.info? 49).map _ = _; kernel_rfl, by show (Tryd.prog.underlying 49).map dOf = _; kernel_rfl, rfl, by simp [ti49, Value.oneCell'], fun fs h => by cases h⟩
theorem ro52 : RowOk (52, ti52) := ⟨by show (Tryd.prog.info? 52).map _ = _; kernel_rfl, by show (Tryd.prog.underlying 52).map dOf = _; kernel_rfl, rfl, by simp [ti52, Value.oneCell'], fun fs h => by cases h⟩
theorem ro58 : RowOk (58, ti58) := ⟨by show (Tryd.prog.info? 58).map _ = _; kernel_rfl, by show (Tryd.prog.underlying 58).map dOf = _; kernel_rfl, rfl, by simp [ti58, Value.oneCell'], fun fs h => by cases h⟩
theorem ro61 : RowOk (61, ti61) := ⟨by show (Tryd.prog.info? 61).map _ = _; kernel_rfl, by show (Tryd.prog.underlying 61).map dOf = _; kernel_rfl, rfl, by simp [ti61, Value.oneCell'], fun fs h => by cases h⟩
theorem ro62 : RowOk (62, ti62) := ⟨by show (Tryd.prog.info? 62).map _ = _; kernel_rfl, by show (Tryd.prog.underlying 62).map dOf = _; kernel_rfl, rfl, by simp [ti62, Value.oneCell'], fun fs h => by cases h⟩
theorem ro67 : RowOk (67, ti67) := ⟨by show (Tryd.prog.info? 67).map _ = _; kernel_rfl, by show (Tryd.prog.underlying 67).map dOf = _; kernel_rfl, rfl, by simp [ti67, Value.oneCell'], fun fs h => by cases h⟩
theorem tl_ok : ∀ p ∈ tl, RowOk p := by
  unfold tl
  exact List.forall_mem_cons.2 ⟨ro1, List.forall_mem_cons.2 ⟨ro2, List.forall_mem_cons.2 ⟨ro3, List.forall_mem_cons.2 ⟨ro4, List.forall_mem_cons.2 ⟨ro5, List.forall_mem_cons.2 ⟨ro9, List.forall_mem_cons.2 ⟨ro12, List.forall_mem_cons.2 ⟨ro13, List.forall_mem_cons.2 ⟨ro20, List.forall_mem_cons.2 ⟨ro21, List.forall_mem_cons.2 ⟨ro22, List.forall_mem_cons.2 ⟨ro23, List.forall_mem_cons.2 ⟨ro24, List.forall_mem_cons.2 ⟨ro25, List.forall_mem_cons.2 ⟨ro26, List.forall_mem_cons.2 ⟨ro27, List.forall_mem_cons.2 ⟨ro28, List.forall_mem_cons.2 ⟨ro29, List.forall_mem_cons.2 ⟨ro30, List.forall_mem_cons.2 ⟨ro31, List.forall_mem_cons.2 ⟨ro32, List.forall_mem_cons.2 ⟨ro33, List.forall_mem_cons.2 ⟨ro34, List.forall_mem_cons.2 ⟨ro35, List.forall_mem_cons.2 ⟨ro37, List.forall_mem_cons.2 ⟨ro38, List.forall_mem_cons.2 ⟨ro39, List.forall_mem_cons.2 ⟨ro41, List.forall_mem_cons.2 ⟨ro42, List.forall_mem_cons.2 ⟨ro43, List.forall_mem_cons.2 ⟨ro45, List.forall_mem_cons.2 ⟨ro47, List.forall_mem_cons.2 ⟨ro48, List.forall_mem_cons.2 ⟨ro49, List.forall_mem_cons.2 ⟨ro52, List.forall_mem_cons.2 ⟨ro58, List.forall_mem_cons.2 ⟨ro61, List.forall_mem_cons.2 ⟨ro62, List.forall_mem_cons.2 ⟨ro67, (fun _ h => by cases h)⟩⟩⟩⟩⟩⟩⟩⟩⟩⟩⟩⟩⟩⟩⟩⟩⟩⟩⟩⟩⟩⟩⟩⟩⟩⟩⟩⟩⟩⟩⟩⟩⟩⟩⟩⟩⟩⟩⟩
theorem hMix : Tryd.prog.follows .mixedOrders = true := by kernel_rfl
theorem Tb_mem {t : Nat} {i : TI} (h : Tb t = some i) : RowOk (t, i) := by
  unfold Tb at h
  cases hf : tl.find? (fun p => p.1 == t) with
  | none => rw [hf] at h; cases h
  | some p =>
    rw [hf] at h
    have hm := List.mem_of_find?_eq_some hf
    have hp : (p.1 == t) = true := List.find?_some (p := fun p : Nat × TI => p.1 == t) hf
    cases h
    have := beq_iff_eq.1 hp
    subst this
    exact tl_ok p hm
theorem hTb : TabOk Tryd.prog Tb := ⟨fun _ _ h => (Tb_mem h).1, fun _ _ h => (Tb_mem h).2.1, fun _ _ h => ⟨(Tb_mem h).2.2.1, (Tb_mem h).2.2.2.1⟩, fun _ _ fs h => (Tb_mem h).2.2.2.2 fs⟩
end Go.Vl

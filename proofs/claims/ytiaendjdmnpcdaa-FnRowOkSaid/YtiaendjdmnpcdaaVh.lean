/- V-logic, part h: variables made, structs built, fields, indexes, slices, make. -/
import Derived.Test.YtiaendjdmnpcdaaVg
import Derived.Laws.MakeOwn
namespace Go.Vl
open Go Go.RowKit

section
variable {P : Program} {T : Tab} {S : St} {o : Oper} {B : Pl} {w : World}

theorem good_new {C : Ctx} {a : Act} (hR : Rel C S B a w) {q n : Nat} {ob : Ob} {l : Leaf} {v : Value} (x : Obj) (hq : S.obj q = none) (hq1 : 100 ≤ q) (hd : ∀ x, o.dst = some x → x < C.n)
    (hrun : (execOp a.eval o).run P w = .ok (.value v) (w.alloc x))
    (hob : (∀ l v, LRep w C.din S B l v → LRep (w.alloc x) C.din (S.sets [(q, ob)]) (B.set q (some (w.heap.size, n))) l v) →
      (∀ l v, RepL w (dep C.din S B) l v → RepL (w.alloc x) (dep C.din (S.sets [(q, ob)]) (B.set q (some (w.heap.size, n)))) l v) → ObRep (w.alloc x) C.din (S.sets [(q, ob)]) (B.set q (some (w.heap.size, n))) q ob)
    (hl : LRep (w.alloc x) C.din (S.sets [(q, ob)]) (B.set q (some (w.heap.size, n))) l v) :
    Good P C S a w o { dst := .one l, sets := [(q, ob)] } := by
  have h1 := hR.new (n := n) x hq hq1 hob
  refine ⟨_, v, _, B.set q (some (w.heap.size, n)), hrun, .inl rfl, ?_⟩
  exact h1.put o.dst (.one l) v hl hd

theorem set_same (B : Pl) (q : Nat) (p : Option (Nat × Nat)) : (B.set q p) q = p := by simp [Pl.set]

theorem o_box {E : TypeId} {X : Operand} (ho : o.op = .box E X) {q : Nat} (hq : S.obj q = none) (hq1 : 100 ≤ q) {s : Slot} {ls : List Leaf} (hX : ev S X = s) (hl : leaves s = some ls) : OpL P S o { dst := .one (.ptr q 0), sets := [(q, .box ls)] } := by
  intro S' h1 h2 h3 C B a w hR hd
  have hX' := (h1 X (by simp [ho, Op.operands])).trans hX
  have hsx := ev_rep hR X
  rw [hX'] at hsx
  obtain ⟨hall, hone⟩ := leaves_rep hl hsx
  refine good_new (n := (a.eval X).cells.size) hR (.cells (a.eval X).cells E) ((h3 q (by simp)).trans hq) hq1 hd (v := .pointer (some ⟨w.heap.size, 0, none⟩)) (by simp [execOp, ho, Instr.box, newVar, newRow]) (fun hl' hr' => ?_) ?_
  · exact ⟨w.heap.size, _, (a.eval X).cells, E, set_same _ _ _, heap_alloc_new w _, rfl, hall.mono hl'⟩
  · exact ⟨w.heap.size, _, ls, by simp [sets_one_obj], set_same _ _ _, rfl⟩

theorem all2_zero {D : Nat → Prop} : ∀ {l : List Value}, (∀ z ∈ l, z.oneCell' = true) → All2 (RepL w D) (l.map .g) l
  | [], _ => trivial
  | v :: l, h => by
    refine ⟨?_, all2_zero fun z hz => h z (by simp [hz])⟩
    rw [RepL.eq_1]; exact ⟨rfl, h v (by simp)⟩

theorem run_zero (hT : TabOk P T) {t : TypeId} {i : TI} (hi : T t = some i) (w : World) : ∃ z, (zeroValue t).run P w = .ok z w ∧ z.cells.toList = i.zero := by
  obtain ⟨x, hx, _, _, z, hz, hc⟩ := hT.infoAt hi
  exact ⟨z, by simp [zeroValue, typeInfo, hx, hz], hc⟩

theorem o_alloc (hT : TabOk P T) {E : TypeId} (ho : o.op = .alloc E) {i : TI} (hi : T E = some i) {q : Nat} (hq : S.obj q = none) (hq1 : 100 ≤ q) : OpL P S o { dst := .one (.ptr q 0), sets := [(q, .box (i.zero.map .g))] } := by
  intro S' h1 h2 h3 C B a w hR hd
  obtain ⟨z, hz, hc⟩ := run_zero hT hi w
  have h1c := (hT.one _ _ hi).2
  refine good_new (n := z.cells.size) hR (.cells z.cells E) ((h3 q (by simp)).trans hq) hq1 hd (v := .pointer (some ⟨w.heap.size, 0, none⟩)) (by simp [execOp, ho, Instr.alloc, newVar, newRow, hz]) (fun hl' hr' => ?_) ?_
  · exact ⟨w.heap.size, _, z.cells, E, set_same _ _ _, heap_alloc_new w _, rfl, by rw [hc]; exact (all2_zero h1c).mono fun l v h => RepL.lrep h⟩
  · exact ⟨w.heap.size, _, i.zero.map .g, by simp [sets_one_obj], set_same _ _ _, rfl⟩

-- fields
theorem o_fieldAddr_ptr (hT : TabOk P T) {s : TypeId} {X : Operand} {f : Nat} (ho : o.op = .fieldAddr s X f) {i j : TI} {fs : List (Nat × TypeId)} {off : Nat} {t : TypeId} (hi : T s = some i) (hd0 : i.d = .st fs) (hf : fs[f]? = some (off, t)) (hj : T t = some j)
    (hjs : j.size ≠ 0) {q k : Nat} (hX : ev S X = .one (.ptr q k)) : OpL P S o { dst := .one (.ptr q (k + off)) } := by
  intro S' h1 h2 h3 C B a w hR hd
  have hX' := (h1 X (by simp [ho, Op.operands])).trans hX
  obtain ⟨b, n, ls, hq, hb, hv⟩ := ev_one hR hX'
  obtain ⟨fields, hu, hfs⟩ := und_st hT hi hd0
  rw [← hfs] at hf
  obtain ⟨fd, hfd, hfe⟩ : ∃ fd, fields[f]? = some fd ∧ (fd.offset, fd.type) = (off, t) := by
    simp at hf; obtain ⟨fd, h, e1, e2⟩ := hf; exact ⟨fd, h, by rw [e1, e2]⟩
  simp at hfe
  obtain ⟨e1, e2⟩ := hfe
  refine good_val hR (rd := []) (p := True) hd (v := .pointer (some ⟨b, k + off, none⟩)) ?_ ⟨b, n, ls, hq, hb, rfl⟩
  simp [execOp, ho, hv, Instr.fieldAt, run_underlying hu, hfd, Instr.sureAddr, fieldPlace, e2, hT.size hj, hjs, e1, add_mk]

theorem o_fieldAddr_elm (hT : TabOk P T) {s : TypeId} {X : Operand} {f : Nat} (ho : o.op = .fieldAddr s X f) {i j : TI} {fs : List (Nat × TypeId)} {off : Nat} {t : TypeId} (hi : T s = some i) (hd0 : i.d = .st fs) (hf : fs[f]? = some (off, t)) (hj : T t = some j)
    (hjs : j.size ≠ 0) {q r k : Nat} (hX : ev S X = .one (.elm q r k)) : OpL P S o { dst := .one (.elm q r (k + off)) } := by
  intro S' h1 h2 h3 C B a w hR hd
  have hX' := (h1 X (by simp [ho, Op.operands])).trans hX
  obtain ⟨E, sz, rows, b, n, hq, hlt, hb, hv⟩ := ev_one hR hX'
  obtain ⟨fields, hu, hfs⟩ := und_st hT hi hd0
  rw [← hfs] at hf
  obtain ⟨fd, hfd, hfe⟩ : ∃ fd, fields[f]? = some fd ∧ (fd.offset, fd.type) = (off, t) := by
    simp at hf; obtain ⟨fd, h, e1, e2⟩ := hf; exact ⟨fd, h, by rw [e1, e2]⟩
  simp at hfe
  obtain ⟨e1, e2⟩ := hfe
  refine good_val hR (rd := []) (p := True) hd (v := .pointer (some ⟨b, r * sz + (k + off), none⟩)) ?_ ⟨E, sz, rows, b, n, hq, hlt, hb, rfl⟩
  simp [execOp, ho, hv, Instr.fieldAt, run_underlying hu, hfd, Instr.sureAddr, fieldPlace, e2, hT.size hj, hjs, e1, add_mk, Nat.add_assoc]

theorem o_fieldAddr_iel (hT : TabOk P T) {s : TypeId} {X : Operand} {f : Nat} (ho : o.op = .fieldAddr s X f) {i j : TI} {fs : List (Nat × TypeId)} {off : Nat} {t : TypeId} (hi : T s = some i) (hd0 : i.d = .st fs) (hf : fs[f]? = some (off, t)) (hj : T t = some j)
    (hjs : j.size ≠ 0) {row : List Leaf} {k : Nat} (hX : ev S X = .one (.iel row k)) : OpL P S o { dst := .one (.iel row (k + off)) } := by
  intro S' h1 h2 h3 C B a w hR hd
  have hX' := (h1 X (by simp [ho, Op.operands])).trans hX
  obtain ⟨ad, hv, hrest⟩ := ev_one hR hX'
  obtain ⟨fields, hu, hfs⟩ := und_st hT hi hd0
  rw [← hfs] at hf
  obtain ⟨fd, hfd, hfe⟩ : ∃ fd, fields[f]? = some fd ∧ (fd.offset, fd.type) = (off, t) := by
    simp at hf; obtain ⟨fd, h, e1, e2⟩ := hf; exact ⟨fd, h, by rw [e1, e2]⟩
  simp at hfe
  obtain ⟨e1, e2⟩ := hfe
  refine good_val hR (rd := []) (p := True) hd (v := .pointer (some (ad.add (k + off)))) ?_ ⟨ad, rfl, hrest⟩
  simp [execOp, ho, hv, Instr.fieldAt, run_underlying hu, hfd, Instr.sureAddr, fieldPlace, e2, hT.size hj, hjs, e1, add_add']

theorem run_part_cut (hT : TabOk P T) {t : TypeId} {j : TI} (hj : T t = some j) {R : Leaf → Value → Prop} {ls : List Leaf} {vs : Array Value} (ha : All2 R ls vs.toList) {off : Nat} (hk : off + j.size ≤ ls.length ∧ off < ls.length) (w : World) :
    ∃ v, (part t vs off).run P w = .ok v w ∧ SRep R (cut j (ls.drop off)) v := by
  by_cases hg : j.d.isAgg = true
  · refine ⟨.agg (vs.extract off (off + j.size)), by simp [part, hT.isAgg hj, hg, hT.size hj], ?_⟩
    unfold cut; rw [if_pos hg]
    refine ⟨_, rfl, ?_⟩
    have := (ha.drop off).take j.size
    simpa [Array.toList_extract, List.extract] using this
  · obtain ⟨l, hl⟩ : ∃ l, ls[off]? = some l := ⟨ls[off]'hk.2, List.getElem?_eq_getElem hk.2⟩
    obtain ⟨v, hv, hr⟩ := ha.get off l hl
    refine ⟨v, by have hv' : vs[off]? = some v := by simpa using hv
                  simp [part, hT.isAgg hj, hg, hv'], ?_⟩
    unfold cut; rw [if_neg hg]
    rw [List.drop_eq_getElem_cons hk.2]
    rw [List.getElem?_eq_getElem hk.2] at hl
    cases hl
    exact hr

theorem o_field (hT : TabOk P T) {s : TypeId} {X : Operand} {f : Nat} (ho : o.op = .field s X f) {i j : TI} {fs : List (Nat × TypeId)} {off : Nat} {t : TypeId} (hi : T s = some i) (hd0 : i.d = .st fs) (hf : fs[f]? = some (off, t)) (hj : T t = some j)
    {ls : List Leaf} (hX : ev S X = .agg ls) (hk : off + j.size ≤ ls.length ∧ off < ls.length) : OpL P S o { dst := cut j (ls.drop off) } := by
  intro S' h1 h2 h3 C B a w hR hd
  have hX' := (h1 X (by simp [ho, Op.operands])).trans hX
  obtain ⟨vs, hv, ha⟩ := ev_agg hR hX'
  obtain ⟨fields, hu, hfs⟩ := und_st hT hi hd0
  rw [← hfs] at hf
  obtain ⟨fd, hfd, hfe⟩ : ∃ fd, fields[f]? = some fd ∧ (fd.offset, fd.type) = (off, t) := by
    simp at hf; obtain ⟨fd, h, e1, e2⟩ := hf; exact ⟨fd, h, by rw [e1, e2]⟩
  simp at hfe
  obtain ⟨e1, e2⟩ := hfe
  obtain ⟨v, hrun, hs⟩ := run_part_cut (P := P) hT hj ha hk w
  exact good_val hR (rd := []) (p := True) hd (v := v) (by simp [execOp, ho, hv, Instr.field, run_underlying hu, hfd, asAgg, e1, e2, hrun]) hs

-- indexes
theorem o_index_own (hT : TabOk P T) {t : TypeId} {X I : Operand} (ho : o.op = .indexAddr t X I) {i j : TI} {e : TypeId} (hi : T t = some i) (hd0 : i.d = .sl e) (hj : T e = some j) {q off len E sz : Nat} {rows : List (List Leaf)} {k : IntKind} {n : Int}
    (hX : ev S X = .one (.own q off len)) (hI : ev S I = .one (.g (.int k n))) (hq : S.obj q = some (.arr E sz rows)) (hsz : j.size = sz) (hn : 0 ≤ n ∧ n < len) : OpL P S o { dst := .one (.elm q (off + n.toNat) 0), reads := [q] } := by
  intro S' h1 h2 h3 C B a w hR hd
  have hX' := (h1 X (by simp [ho, Op.operands])).trans hX
  have hI' := (h1 I (by simp [ho, Op.operands])).trans hI
  have hq' := (h2 q (by simp)).trans hq
  have hiv := ev_g hR hI'
  obtain ⟨E', sz', rows', A, c, hq2, hlen, hv, hlc, hcm, hc⟩ := ev_one hR hX'
  rw [hq'] at hq2; cases hq2
  rcases hc with h0 | ⟨b, m, hb, hA, hroom⟩
  · omega
  · subst hA
    refine good_val hR (rd := [q]) (p := True) hd (v := .pointer (some ⟨b, (off + n.toNat) * sz + 0, none⟩)) ?_ ⟨E, sz, rows, b, m, hq', by omega, hb, rfl⟩
    simp [execOp, ho, hv, hiv, Instr.indexAt, asIntOf, run_underlying (und_sl hT hi hd0), hn, hT.size hj, hsz, add_mk, Nat.add_mul]

theorem o_index_imm (hT : TabOk P T) {t : TypeId} {X I : Operand} (ho : o.op = .indexAddr t X I) {i j : TI} {e : TypeId} (hi : T t = some i) (hd0 : i.d = .sl e) (hj : T e = some j) {sz : Nat} {rows : List (List Leaf)} {k : IntKind} {n : Int} {row : List Leaf}
    (hX : ev S X = .one (.imm sz rows)) (hI : ev S I = .one (.g (.int k n))) (hsz : j.size = sz) (hn : 0 ≤ n) (hrow : rows[n.toNat]? = some row) : OpL P S o { dst := .one (.iel row 0) } := by
  intro S' h1 h2 h3 C B a w hR hd
  have hX' := (h1 X (by simp [ho, Op.operands])).trans hX
  have hI' := (h1 I (by simp [ho, Op.operands])).trans hI
  have hiv := ev_g hR hI'
  have hx : RepL w (dep C.din S' B) (.imm sz rows) (a.eval X) := ev_one hR hX'
  rw [RepL.eq_2] at hx
  obtain ⟨A, c, hv, hlc, hcm, hr⟩ := hx
  rcases hr with rfl | ⟨ad, rfl, hdp, hlt, hrs⟩
  · simp at hrow
  · have hg := RepRs_get hrs _ _ hrow
    have hlen : n < (rows.length : Int) := by
      rcases Nat.lt_or_ge n.toNat rows.length with h | h
      · omega
      · rw [List.getElem?_eq_none h] at hrow; cases hrow
    refine good_val hR (rd := []) (p := True) hd (v := .pointer (some (ad.add (n.toNat * sz)))) ?_ ⟨ad.add (n.toNat * sz), by simp [Addr.add], by rw [add_block]; exact hdp, by rw [add_block]; exact hlt, ?_⟩
    · simp [execOp, ho, hv, hiv, Instr.indexAt, asIntOf, run_underlying (und_sl hT hi hd0), hn, hlen, hT.size hj, hsz]
    · refine RepR_of fun y l hy => ?_
      obtain ⟨x, hx, hxr⟩ := RepR_get hg.2 y l hy
      exact ⟨x, by rw [add_add']; simpa using hx, hxr⟩

theorem o_index_str (hT : TabOk P T) {t : TypeId} {X I : Operand} (ho : o.op = .index t X I) {i : TI} (hi : T t = some i) (hd0 : i.d = .str) {s : ByteArray} {k : IntKind} {n : Int}
    (hX : ev S X = .one (.g (.string s))) (hI : ev S I = .one (.g (.int k n))) (hn : 0 ≤ n) {c : UInt8} (hc : s[n.toNat]? = some c) : OpL P S o { dst := .one (.g (.int .u8 c.toNat)) } := by
  intro S' h1 h2 h3 C B a w hR hd
  have hX' := (h1 X (by simp [ho, Op.operands])).trans hX
  have hI' := (h1 I (by simp [ho, Op.operands])).trans hI
  have hx := ev_g hR hX'
  have hiv := ev_g hR hI'
  exact good_val hR (rd := []) (p := True) hd (v := .int .u8 c.toNat) (by simp [execOp, ho, hx, hiv, Instr.index, asIntOf, run_underlying (und_str hT hi hd0), hn, hc]) (srepG rfl)

theorem o_nilCheck {X : Operand} (ho : o.op = .nilCheck X) {s : Slot} (hX : ev S X = s) (hs : match s with | .one (.ptr _ _) | .one (.elm _ _ _) | .one (.iel _ _) | .one (.clo _ _) => True | _ => False) : OpL P S o { dst := s } := by
  intro S' h1 h2 h3 C B a w hR hd
  have hX' := (h1 X (by simp [ho, Op.operands])).trans hX
  have hr := ev_rep hR X
  rw [hX'] at hr
  refine good_val hR (rd := []) (p := True) hd (v := a.eval X) ?_ hr
  cases s with
  | one l =>
    cases l <;> simp at hs
    case ptr => obtain ⟨_, _, _, _, _, hv⟩ := hr; simp [execOp, ho, hv]
    case elm => obtain ⟨_, _, _, _, _, _, _, _, hv⟩ := hr; simp [execOp, ho, hv]
    case iel => obtain ⟨_, hv, _⟩ := hr; simp [execOp, ho, hv]
    case clo => obtain ⟨_, hv, _⟩ := hr; simp [execOp, ho, hv]
  | _ => simp at hs
end
end Go.Vl

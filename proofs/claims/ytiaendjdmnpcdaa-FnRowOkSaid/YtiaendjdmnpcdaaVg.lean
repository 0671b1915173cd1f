/- V-logic, part g: reading and writing variables, making them, fields, indexes. -/
import Derived.Test.YtiaendjdmnpcdaaVf
namespace Go.Vl
open Go Go.RowKit

theorem cell_blk {w : World} {b : Nat} {cs : Array Value} {E : TypeId} {fr : Nat × Nat} (h : w.heap[b]? = some (.cells cs E fr)) (i : Nat) : w.cell? ⟨b, i, none⟩ = cs[i]? := by
  simp [World.cell?, h]
theorem frozen_blk {w : World} {b : Nat} {cs : Array Value} {E : TypeId} (h : w.heap[b]? = some (.cells cs E (0, 0))) (i : Nat) : w.frozen? ⟨b, i, none⟩ = false := by
  simp [World.frozen?, h]

/-- What a variable of a type reads as, out of its cells. -/
def cut (i : TI) (ls : List Leaf) : Slot :=
  if i.d.isAgg then .agg (ls.take i.size) else match ls with
    | l :: _ => .one l
    | [] => .bad

def leaves : Slot → Option (List Leaf)
  | .one l => some [l]
  | .agg ls => some ls
  | _ => none

def splice (k : Nat) (new old : List Leaf) : List Leaf := old.take k ++ new ++ old.drop (k + new.length)

def plain : List Leaf → Bool
  | [] => true
  | .g _ :: ls => plain ls
  | .imm _ _ :: ls => plain ls
  | .err :: ls => plain ls
  | _ :: _ => false

section
variable {P : Program} {T : Tab} {S : St} {o : Oper} {B : Pl} {w : World}

theorem plain_rep {D : Nat → Prop} {R : Leaf → Value → Prop} (hR : ∀ l v, R l v → LRep w D S B l v) : ∀ {ls : List Leaf} {vs : List Value}, plain ls = true → All2 R ls vs → All2 (RepL w (dep D S B)) ls vs
  | [], [], _, _ => trivial
  | l :: ls, v :: vs, hp, h => by
    have h1 := hR _ _ h.1
    cases l <;> simp [plain] at hp
    case g x => exact ⟨h1, plain_rep hR hp h.2⟩
    case imm sz rows => exact ⟨h1, plain_rep hR hp h.2⟩
    case err => exact ⟨h1, plain_rep hR hp h.2⟩
  | [], _ :: _, _, h => h.elim
  | _ :: _, [], _, h => h.elim

theorem leaves_rep {D : Nat → Prop} {s : Slot} {ls : List Leaf} {v : Value} (h : leaves s = some ls) (hs : SRep (LRep w D S B) s v) : All2 (LRep w D S B) ls v.cells.toList ∧ ∀ c ∈ v.cells.toList, c.oneCell' = true := by
  have one : ∀ {ls : List Leaf} {vs : List Value}, All2 (LRep w D S B) ls vs → ∀ c ∈ vs, c.oneCell' = true := by
    intro ls vs ha c hc
    obtain ⟨i, hi⟩ := List.getElem?_of_mem hc
    obtain ⟨l, _, hl⟩ := ha.get' i c hi
    exact hl.oneCell
  cases s with
  | one l =>
    simp [leaves] at h; subst h
    have h1 : v.oneCell' = true := LRep.oneCell hs
    have h2 : v.cells = #[v] := by cases v <;> simp_all [Value.cells, Value.oneCell']
    have h3 : All2 (LRep w D S B) [l] v.cells.toList := by rw [h2]; exact ⟨hs, trivial⟩
    exact ⟨h3, one h3⟩
  | agg l =>
    simp [leaves] at h; subst h
    obtain ⟨vs, rfl, ha⟩ := hs
    exact ⟨ha, one ha⟩
  | tup _ => simp [leaves] at h
  | bad => simp [leaves] at h

theorem run_loadAt (hT : TabOk P T) {t : TypeId} {i : TI} (hi : T t = some i) {R : Leaf → Value → Prop} {ls : List Leaf} {a : Addr}
    (hc : ∀ j l, ls[j]? = some l → ∃ v, w.cell? (a.add j) = some v ∧ R l v) (hlen : i.size ≤ ls.length) (h1 : 1 ≤ ls.length) :
    ∃ v, (Instr.loadAt t (.pointer (some a))).run P w = .ok v w ∧ SRep R (cut i ls) v := by
  by_cases hg : i.d.isAgg = true
  · obtain ⟨f, hf⟩ : ∃ f : Nat → Value, ∀ j l, ls[j]? = some l → w.cell? (a.add j) = some (f j) ∧ R l (f j) := by
      refine ⟨fun j => (w.cell? (a.add j)).getD undef, fun j l hj => ?_⟩
      obtain ⟨v, hv, hr⟩ := hc j l hj
      simp [hv, hr]
    have hload := run_loadCells (P := P) w a i.size f (fun j hj => by
      obtain ⟨l, hl⟩ : ∃ l, ls[j]? = some l := ⟨ls[j]'(by omega), List.getElem?_eq_getElem (by omega)⟩
      exact (hf j l hl).1)
    refine ⟨.agg ((List.range i.size).map f).toArray, ?_, ?_⟩
    · simp [Instr.loadAt, Instr.sureAddr, loadVar, hT.isAgg hi, hg, hT.size hi, hload]
    · unfold cut; rw [if_pos hg]
      refine ⟨_, rfl, ?_⟩
      refine All2.of_get (by simp; omega) fun j l v hl hv => ?_
      rw [List.getElem?_take] at hl
      split at hl
      · rename_i hj
        simp [hj] at hv
        subst hv
        exact (hf j l hl).2
      · cases hl
  · cases ls with
    | nil => simp at h1
    | cons l ls =>
      obtain ⟨v, hv, hr⟩ := hc 0 l rfl
      have hv' : w.cell? a = some v := by simpa [Addr.add] using hv
      refine ⟨v, ?_, ?_⟩
      · simp [Instr.loadAt, Instr.sureAddr, loadVar, hT.isAgg hi, hg, hv']
      · unfold cut; rw [if_neg hg]; exact hr

theorem o_load_box (hT : TabOk P T) {t : TypeId} {A : Operand} (ho : o.op = .load t A) {i : TI} (hi : T t = some i) {q k : Nat} {ls : List Leaf} (hA : ev S A = .one (.ptr q k)) (hq : S.obj q = some (.box ls))
    (hk : k + i.size ≤ ls.length ∧ k < ls.length) : OpL P S o { dst := cut i (ls.drop k), reads := [q] } := by
  intro S' h1 h2 h3 C B a w hR hd
  have hA' := (h1 A (by simp [ho, Op.operands])).trans hA
  have hq' := (h2 q (by simp)).trans hq
  obtain ⟨b, n, ls', hb1, hb2, hv⟩ := ev_one hR hA'
  obtain ⟨b', n', cs, E, hb3, hh, hn, ha⟩ := hR.objs q _ hq'
  rw [hb2] at hb3; cases hb3
  obtain ⟨v, hrun, hs⟩ := run_loadAt (P := P) (w := w) hT hi (R := LRep w C.din S' B) (ls := ls.drop k) (a := ⟨b, k, none⟩) (fun j l hj => by
    rw [List.getElem?_drop] at hj
    obtain ⟨x, hx, hr⟩ := ha.get _ l hj
    refine ⟨x, ?_, hr⟩
    rw [add_mk, cell_blk hh]; simpa using hx) (by simp; omega) (by simp; omega)
  exact good_val hR (rd := [q]) (p := True) hd (v := v) (by simp [execOp, ho, hv, hrun]) hs

theorem o_load_elm (hT : TabOk P T) {t : TypeId} {A : Operand} (ho : o.op = .load t A) {i : TI} (hi : T t = some i) {q r j E sz : Nat} {rows : List (List Leaf)} {row : List Leaf} (hA : ev S A = .one (.elm q r j))
    (hq : S.obj q = some (.arr E sz rows)) (hrow : rows[r]? = some row) (hk : j + i.size ≤ sz ∧ j < sz) : OpL P S o { dst := cut i (row.drop j), reads := [q] } := by
  intro S' h1 h2 h3 C B a w hR hd
  have hA' := (h1 A (by simp [ho, Op.operands])).trans hA
  have hq' := (h2 q (by simp)).trans hq
  obtain ⟨E', sz', rows', b, n, hq2, hlt, hb2, hv⟩ := ev_one hR hA'
  rw [hq'] at hq2; cases hq2
  have hob := hR.objs q _ hq'
  rcases hob with ⟨rfl, _⟩ | ⟨b', n', cs, hb3, hh, hn, hone, hle, hrows⟩
  · simp at hrow
  · rw [hb2] at hb3; cases hb3
    have ha := hrows r row hrow
    have hl : row.length = sz := by
      have := ha.length
      have h5 : r < rows.length := by rcases Nat.lt_or_ge r rows.length with h | h; exact h; rw [List.getElem?_eq_none h] at hrow; cases hrow
      have h6 : (r + 1) * sz ≤ rows.length * sz := Nat.mul_le_mul_right _ h5
      rw [Nat.succ_mul] at h6
      simp at this; omega
    obtain ⟨v, hrun, hs⟩ := run_loadAt (P := P) (w := w) hT hi (R := LRep w C.din S' B) (ls := row.drop j) (a := ⟨b, r * sz + j, none⟩) (fun k l hj => by
      rw [List.getElem?_drop] at hj
      obtain ⟨x, hx, hr⟩ := ha.get _ l hj
      refine ⟨x, ?_, RepL.lrep hr⟩
      rw [add_mk, cell_blk hh]
      rw [List.getElem?_take] at hx
      split at hx
      · rw [List.getElem?_drop] at hx
        rw [show r * sz + j + k = r * sz + (j + k) from by omega]; simpa using hx
      · cases hx) (by simp; omega) (by simp; omega)
    exact good_val hR (rd := [q]) (p := True) hd (v := v) (by simp [execOp, ho, hv, hrun]) hs

theorem o_load_iel (hT : TabOk P T) {t : TypeId} {A : Operand} (ho : o.op = .load t A) {i : TI} (hi : T t = some i) {j : Nat} {row : List Leaf} (hA : ev S A = .one (.iel row j))
    (hk : j + i.size ≤ row.length ∧ j < row.length) : OpL P S o { dst := cut i (row.drop j) } := by
  intro S' h1 h2 h3 C B a w hR hd
  have hA' := (h1 A (by simp [ho, Op.operands])).trans hA
  obtain ⟨ad, hv, hdp, hlt, hr⟩ := ev_one hR hA'
  obtain ⟨v, hrun, hs⟩ := run_loadAt (P := P) (w := w) hT hi (R := LRep w C.din S' B) (ls := row.drop j) (a := ad.add j) (fun k l hj => by
    rw [List.getElem?_drop] at hj
    obtain ⟨x, hx, hr⟩ := RepR_get hr _ l hj
    refine ⟨x, ?_, RepL.lrep hr⟩
    rw [add_add']; simpa using hx) (by simp; omega) (by simp; omega)
  exact good_val hR (rd := []) (p := True) hd (v := v) (by simp [execOp, ho, hv, hrun]) hs

theorem run_storeAt (hT : TabOk P T) {t : TypeId} {i : TI} (hi : T t = some i) {b k : Nat} {cs : Array Value} {E : TypeId} (hh : w.heap[b]? = some (.cells cs E (0, 0))) {v : Value} (hs : v.cells.size = i.size)
    (hk : k + i.size ≤ cs.size) (h1 : ∀ c ∈ v.cells.toList, c.oneCell' = true) :
    (Instr.storeAt t (.pointer (some ⟨b, k, none⟩)) v).run P w = .ok () (w.setCells b k v.cells.toList) := by
  have := run_storeCells_cells (P := P) b k v.cells.toList 0 w (fun j hj => by
      rw [show k + 0 + j = k + j from by omega, cell_blk hh]; simp at hj ⊢; omega) (fun j hj => frozen_blk hh _) h1
  simp [Instr.storeAt, Instr.sureAddr, storeVar, hT.size hi, hs]
  simpa using this

theorem splice_get {k : Nat} {new old : List Leaf} (hk : k + new.length ≤ old.length) (j : Nat) : (splice k new old)[j]? = if k ≤ j ∧ j < k + new.length then new[j - k]? else old[j]? := by
  unfold splice
  have h1 : (old.take k).length = k := by simp; omega
  rw [List.append_assoc, List.getElem?_append, h1]
  by_cases hj : j < k
  · rw [if_pos hj, if_neg (by omega), List.getElem?_take, if_pos hj]
  · rw [if_neg hj, List.getElem?_append]
    by_cases hj2 : j - k < new.length
    · rw [if_pos hj2, if_pos (by omega)]
    · rw [if_neg hj2, if_neg (by omega), List.getElem?_drop]
      congr 1; omega
theorem splice_length {k : Nat} {new old : List Leaf} (hk : k + new.length ≤ old.length) : (splice k new old).length = old.length := by
  unfold splice; simp; omega

theorem o_store_box (hT : TabOk P T) {t : TypeId} {A X : Operand} (ho : o.op = .store t A X) (hd0 : o.dst = none) {i : TI} (hi : T t = some i) {q k : Nat} {ls new : List Leaf} (hA : ev S A = .one (.ptr q k)) (hq : S.obj q = some (.box ls))
    {s : Slot} (hX : ev S X = s) (hn : leaves s = some new) (hk : new.length = i.size ∧ k + i.size ≤ ls.length) : OpL P S o { reads := [q], sets := [(q, .box (splice k new ls))] } := by
  intro S' h1 h2 h3 C B a w hR hd
  have hA' := (h1 A (by simp [ho, Op.operands])).trans hA
  have hX' := (h1 X (by simp [ho, Op.operands])).trans hX
  have hq' := (h2 q (by simp)).trans hq
  obtain ⟨b, n, ls', hb1, hb2, hv⟩ := ev_one hR hA'
  obtain ⟨b', n', cs, E, hb3, hh, hcn, ha⟩ := hR.objs q _ hq'
  rw [hb2] at hb3; cases hb3
  have hsx := ev_rep hR X
  rw [hX'] at hsx
  obtain ⟨hall, hone⟩ := leaves_rep hn hsx
  have hlen := ha.length
  have hcsz : (a.eval X).cells.size = i.size := by have := hall.length; simp at this; omega
  have hrun := run_storeAt (P := P) (k := k) hT hi hh hcsz (by simp at hlen; omega) hone
  refine ⟨.skip, undef, w.setCells b k (a.eval X).cells.toList, B, by simp [execOp, ho, hv, hrun], .inr ⟨rfl, rfl⟩, ?_⟩
  rw [hd0]
  show Rel C (S'.sets [(q, .box (splice k new ls))]) B a _
  obtain ⟨cs', hh', hs', hg⟩ := setCells_heap b E (a.eval X).cells.toList k w cs hh
  obtain ⟨e1, e2, e3, e4⟩ := setCells_same b (a.eval X).cells.toList k w
  refine hR.turn hq' hb2 trivial e1 e2 e3 e4 (fun x hx => setCells_other b _ _ _ x hx) fun hl hr => ?_
  have hlls : ls.length = cs.size := by simpa using hlen
  refine ⟨b, n, cs', E, hb2, hh', by omega, All2.of_get (by rw [splice_length (by omega)]; simp [hs']; omega) fun j l v hj hv => ?_⟩
  rw [splice_get (by omega)] at hj
  have hv' : cs'[j]? = some v := by simpa using hv
  rw [hg] at hv'
  have hvl : (a.eval X).cells.toList.length = new.length := hall.length.symm
  by_cases hin : k ≤ j ∧ j < k + new.length
  · rw [if_pos hin] at hj
    rw [if_pos (by omega)] at hv'
    obtain ⟨x, hx, hxr⟩ := hall.get _ l hj
    rw [hx] at hv'; cases hv'
    exact hl _ _ hxr
  · rw [if_neg hin] at hj
    rw [if_neg (by omega)] at hv'
    obtain ⟨x, hx, hxr⟩ := ha.get _ l hj
    simp at hx
    rw [hx] at hv'; cases hv'
    exact hl _ _ hxr

theorem o_store_elm (hT : TabOk P T) {t : TypeId} {A X : Operand} (ho : o.op = .store t A X) (hd0 : o.dst = none) {i : TI} (hi : T t = some i) {q r j E sz : Nat} {rows : List (List Leaf)} {row new : List Leaf} (hA : ev S A = .one (.elm q r j))
    (hq : S.obj q = some (.arr E sz rows)) (hrow : rows[r]? = some row) {s : Slot} (hX : ev S X = s) (hn : leaves s = some new) (hp : plain new = true) (hk : new.length = i.size ∧ j + i.size ≤ sz) :
    OpL P S o { reads := [q], sets := [(q, .arr E sz (rows.set r (splice j new row)))] } := by
  intro S' h1 h2 h3 C B a w hR hd
  have hA' := (h1 A (by simp [ho, Op.operands])).trans hA
  have hX' := (h1 X (by simp [ho, Op.operands])).trans hX
  have hq' := (h2 q (by simp)).trans hq
  obtain ⟨E', sz', rows', b, n, hq2, hlt, hb2, hv⟩ := ev_one hR hA'
  rw [hq'] at hq2; cases hq2
  have hob := hR.objs q _ hq'
  rcases hob with ⟨rfl, _⟩ | ⟨b', n', cs, hb3, hh, hcn, hone0, hle, hrows⟩
  · simp at hrow
  · rw [hb2] at hb3; cases hb3
    have ha := hrows r row hrow
    have h6 : (r + 1) * sz ≤ rows.length * sz := Nat.mul_le_mul_right _ hlt
    rw [Nat.succ_mul] at h6
    have hl : row.length = sz := by
      have := ha.length
      simp at this; omega
    have hsx := ev_rep hR X
    rw [hX'] at hsx
    obtain ⟨hall, hone⟩ := leaves_rep hn hsx
    have hcsz : (a.eval X).cells.size = i.size := by have := hall.length; simp at this; omega
    have hrun := run_storeAt (P := P) (k := r * sz + j) hT hi hh hcsz (by omega) hone
    refine ⟨.skip, undef, w.setCells b (r * sz + j) (a.eval X).cells.toList, B, by simp [execOp, ho, hv, hrun], .inr ⟨rfl, rfl⟩, ?_⟩
    rw [hd0]
    show Rel C (S'.sets [(q, .arr E sz (rows.set r (splice j new row)))]) B a _
    obtain ⟨cs', hh', hs', hg⟩ := setCells_heap b E (a.eval X).cells.toList (r * sz + j) w cs hh
    obtain ⟨e1, e2, e3, e4⟩ := setCells_same b (a.eval X).cells.toList (r * sz + j) w
    have hvl : (a.eval X).cells.toList.length = new.length := hall.length.symm
    refine hR.turn hq' hb2 ⟨rfl, by simp⟩ e1 e2 e3 e4 (fun x hx => setCells_other b _ _ _ x hx) fun hl' hr' => ?_
    have hpl := plain_rep (fun l v h => h) hp hall
    refine .inr ⟨b, n, cs', hb2, hh', by omega, ?_, by simpa using hle, fun x rx hx => ?_⟩
    · intro c hc
      obtain ⟨y, hy⟩ := List.getElem?_of_mem hc
      have hy' : cs'[y]? = some c := by simpa using hy
      rw [hg] at hy'
      split at hy'
      · exact hone c (List.mem_of_getElem? hy')
      · exact hone0 c (List.mem_of_getElem? (i := y) (by simpa using hy'))
    · rw [List.getElem?_set] at hx
      have hcell : ∀ y, ((cs'.toList.drop (x * sz)).take sz)[y]? = if y < sz then cs'[x * sz + y]? else none := by
        intro y; rw [List.getElem?_take]; split <;> simp [List.getElem?_drop]
      by_cases hxr : r = x
      · subst hxr
        rw [if_pos rfl, if_pos hlt] at hx
        cases hx
        refine All2.of_get (by rw [splice_length (by omega)]; simp; omega) fun y l v hy hvy => ?_
        rw [hcell] at hvy
        split at hvy
        · rename_i hys
          rw [hg] at hvy
          rw [splice_get (by omega)] at hy
          by_cases hin : j ≤ y ∧ y < j + new.length
          · rw [if_pos hin] at hy
            rw [if_pos (by omega), show r * sz + y - (r * sz + j) = y - j from by omega] at hvy
            obtain ⟨z, hz, hzr⟩ := hpl.get _ l hy
            rw [hz] at hvy; cases hvy
            exact hr' _ _ hzr
          · rw [if_neg hin] at hy
            rw [if_neg (by omega)] at hvy
            obtain ⟨z, hz, hzr⟩ := ha.get _ l hy
            rw [List.getElem?_take, if_pos hys, List.getElem?_drop] at hz
            simp at hz
            rw [hz] at hvy; cases hvy
            exact hr' _ _ hzr
        · cases hvy
      · rw [if_neg hxr] at hx
        have hax := hrows x rx hx
        have hxl : x < rows.length := by rcases Nat.lt_or_ge x rows.length with h | h; exact h; rw [List.getElem?_eq_none h] at hx; cases hx
        refine All2.of_get (by have := hax.length; simp at this ⊢; omega) fun y l v hy hvy => ?_
        rw [hcell] at hvy
        split at hvy
        · rename_i hys
          rw [hg] at hvy
          have hout : ¬ (r * sz + j ≤ x * sz + y ∧ x * sz + y < r * sz + j + (a.eval X).cells.toList.length ∧ x * sz + y < cs.size) := by
            intro hc
            rcases Nat.lt_or_ge x r with h | h
            · have : (x + 1) * sz ≤ r * sz := Nat.mul_le_mul_right _ h
              rw [Nat.succ_mul] at this; omega
            · have h' : r < x := by omega
              have : (r + 1) * sz ≤ x * sz := Nat.mul_le_mul_right _ h'
              rw [Nat.succ_mul] at this; omega
          rw [if_neg hout] at hvy
          obtain ⟨z, hz, hzr⟩ := hax.get _ l hy
          rw [List.getElem?_take, if_pos hys, List.getElem?_drop] at hz
          simp at hz
          rw [hz] at hvy; cases hvy
          exact hr' _ _ hzr
        · cases hvy
end
end Go.Vl

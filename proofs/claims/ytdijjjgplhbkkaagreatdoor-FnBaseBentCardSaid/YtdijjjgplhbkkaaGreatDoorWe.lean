/- V-logic, part q: append's rule. -/
import Derived.Test.YtdijjjgplhbkkaaGreatDoorWd
import Derived.Laws.Tables
import Derived.Great.BuildSlice
set_option linter.unusedSimpArgs false
set_option linter.unusedVariables false
set_option linter.unnecessarySimpa false
namespace Go.Vl
open Go Go.RowKit
def ownRows (S : St) (e sz : Nat) : Leaf → Option (List Nat × List (List Leaf))
  | .own k off len => match S.obj k with
    | some (.arr E s rows) => if off = 0 ∧ E = e ∧ s = sz then some ([k], rows.take len) else none
    | _ => none
  | .g x => if isNilSl x then some ([], []) else none
  | _ => none
theorem grownCap_ge (w : World) (need old : Nat) (e : TypeId) (h : need ≤ maxLen) : need ≤ grownCap w need old e ∧ grownCap w need old e ≤ maxLen := by
  have e1 : grownCap w need old e = need + w.tape w.drawn (.appendCap need old e) % (2 ^ 63 - need) := rfl
  rw [e1]
  unfold maxLen at h ⊢
  have : w.tape w.drawn (.appendCap need old e) % (2 ^ 63 - need) < 2 ^ 63 - need := Nat.mod_lt _ (by omega)
  constructor
  · omega
  · omega
section
variable {P : Program} {T : Tab} {S : St} {o : Oper}
theorem o_append (hT : TabOk P T) {X Y : Operand} {t : TypeId} (ho : o.op = .call { callee := .builtin .append, args := #[X, Y], argTypes := #[t, t] }) {i j : TI} {e : TypeId} (hi : T t = some i) (hd0 : i.d = .sl e) (hj : T e = some j)
    {l lx : Leaf} (hX : ev S X = .one l) (hY : ev S Y = .one lx) {ks : List Nat} {rows news : List (List Leaf)} (hr : ownRows S e j.size l = some (ks, rows)) (hn : rowsAt S j.size lx = some news)
    {q : Nat} (hq : S.obj q = none) (hq1 : 100 ≤ q) (hsum : (rows.length + news.length) * j.bytes ≤ 140737488355328) (h63 : rows.length + news.length ≤ maxLen) :
    OpL P S o { dst := .one (.own q 0 (rows.length + news.length)), reads := refsL l ++ refsL lx, kills := ks, sets := [(q, .arr e j.size (rows ++ news))] } := by
  intro S' h1 h2 h3 C B a w hR hd
  have hX' := (h1 X (by simp [ho, Op.operands, Call.operands])).trans hX
  have hY' := (h1 Y (by simp [ho, Op.operands, Call.operands])).trans hY
  have hq' := (h3 q (by simp)).trans hq
  have hn' : rowsAt S' j.size lx = some news := (rowsAt_reads fun r hr => h2 r (by simp [hr])).trans hn
  have hr' : ownRows S' e j.size l = some (ks, rows) := by
    rw [← hr]
    cases l <;> simp only [ownRows]
    rw [h2 _ (by simp [refsL])]
  have hra : rowsAt S' j.size l = some rows := by
    cases l <;> simp only [ownRows] at hr' <;> simp only [rowsAt]
    case own k off len =>
      split at hr'
      · rename_i E s rows' hk
        split at hr'
        · rename_i hc
          cases hr'
          obtain ⟨rfl, rfl, rfl⟩ := hc
          simp [hk]
        · cases hr'
      · cases hr'
    case g x =>
      split at hr'
      · rename_i hx; cases hr'; simp [hx]
      · cases hr'
    all_goals cases hr'
  have hxr := ev_one hR hX'
  have hyr := ev_one hR hY'
  obtain ⟨os, hos, hosr⟩ := rows_src hR hra hxr
  obtain ⟨ns, hns, hnsr⟩ := rows_src hR hn' hyr
  obtain ⟨ti, hti, hts, htb, z, hz, hzc⟩ := hT.infoAt hj
  have hz1 := hT.one _ _ hj
  obtain ⟨A, c, hv, hlc, hcm, hol, ho1, ho2⟩ := id hos
  obtain ⟨A', c', hv', _, _, hnl, hn1, hn2⟩ := id hns
  have hks : ∀ k ∈ ks, S'.obj k ≠ none := by
    intro k hk
    cases l <;> simp only [ownRows] at hr'
    case own k' off len =>
      split at hr'
      · rename_i E s rows' hk2
        split at hr'
        · cases hr'; simp at hk; subst hk; simp [hk2]
        · cases hr'
      · cases hr'
    case g x =>
      split at hr'
      · cases hr'; simp at hk
      · cases hr'
    all_goals cases hr'
  have hplace : c = 0 ∨ ∃ k b n, ks = [k] ∧ B k = some (b, n) ∧ A = some ⟨b, 0, none⟩ ∧ c * j.size ≤ n ∧ ∃ cs, w.heap[b]? = some (.cells cs e (0, 0)) ∧ cs.size = n ∧ ∀ x ∈ cs.toList, x.oneCell' = true := by
    cases l <;> simp only [ownRows] at hr'
    case own k off len =>
      split at hr'
      · rename_i E s rows' hk
        split at hr'
        · rename_i hc
          cases hr'
          obtain ⟨rfl, rfl, rfl⟩ := hc
          obtain ⟨E', sz', rows2, A2, c2, hk2, hlen, hv2, _, _, hpl⟩ := hxr
          rw [arr_of hk] at hk2; cases hk2
          rw [hv] at hv2
          injection hv2 with hv3 _ hv4
          subst hv3 hv4
          rcases hpl with h0 | ⟨b, n, hb, hA, hroom⟩
          · exact .inl h0
          · rcases hR.objs k _ hk with ⟨_, hb0⟩ | ⟨b', n', cs, hb', hh, hcn, hone, _, _⟩
            · rw [hb] at hb0; cases hb0
            · rw [hb] at hb'; cases hb'
              exact .inr ⟨k, b, n, rfl, hb, by simpa using hA, by simpa using hroom, cs, hh, hcn, hone⟩
        · cases hr'
      · cases hr'
    case g x =>
      split at hr'
      · rename_i hx
        have : a.eval X = .slice none 0 0 := by rw [← isNilSl_eq hx]; exact repG_eq hxr
        rw [hv] at this
        injection this with _ _ h4
        exact .inl h4
      · cases hr'
    all_goals cases hr'
  obtain ⟨hfit, hgrow⟩ := run_append_cases (P := P) (ty := o.type) (und_sl hT hi hd0) hti hz (by rw [hts]; rw [hv] at hos; exact hos) (by rw [hts]; exact hns) (by rw [htb]; exact hsum) h63
  have hexec : ∀ v w', (Builtin.append_ #[t, t] o.type #[.slice A rows.length c, a.eval Y]).run P w = .ok v w' → (execOp a.eval o).run P w = .ok (.value v) w' := by
    intro v w' h
    simp [execOp, ho, resolve, invoke, builtin, hv, h]
  have rowsrep : ∀ (D2 : Nat → Prop) (w2 : World) (cs : Array Value), (∀ l v, RepL w (dep C.din S' B) l v → RepL w2 D2 l v) → (∀ y, y < rows.length * j.size → cs[y]? = os[y]?) → (∀ y, y < news.length * j.size → cs[rows.length * j.size + y]? = ns[y]?) →
      RowsRep w2 D2 j.size (rows ++ news) cs := by
    intro D2 w2 cs her hc1 hc2 x r hx
    have hrow : ∀ (xs : List Value) (x : Nat) (r : List Leaf) (L base : Nat), xs.length = L * j.size → x < L → All2 (RepL w (dep C.din S' B)) r ((xs.drop (x * j.size)).take j.size) → (∀ y, y < L * j.size → cs[base + y]? = xs[y]?) →
        All2 (RepL w2 D2) r ((cs.toList.drop (base + x * j.size)).take j.size) := by
      intro xs x r L base hxl hxL ha hcs
      have h6 : (x + 1) * j.size ≤ L * j.size := Nat.mul_le_mul_right _ hxL
      rw [Nat.succ_mul] at h6
      have hlen := ha.length
      have hrl : r.length = j.size := by simp at hlen; omega
      have hsz2 : base + L * j.size ≤ cs.size ∨ L * j.size = 0 := by
        rcases Nat.eq_zero_or_pos (L * j.size) with h | h
        · exact .inr h
        · left
          have := hcs (L * j.size - 1) (by omega)
          rw [List.getElem?_eq_getElem (by omega)] at this
          have := (Array.getElem?_eq_some_iff.1 this).1
          omega
      refine All2.of_get (by simp; omega) fun y l v hy hvy => ?_
      have hyl : y < j.size := by
        rcases Nat.lt_or_ge y j.size with h | h
        · exact h
        · rw [List.getElem?_eq_none (by omega)] at hy; cases hy
      rw [List.getElem?_take, if_pos hyl, List.getElem?_drop] at hvy
      obtain ⟨v2, hv2, hr2⟩ := ha.get y l hy
      rw [List.getElem?_take, if_pos hyl, List.getElem?_drop] at hv2
      have := hcs (x * j.size + y) (by omega)
      rw [hv2, ← Nat.add_assoc] at this
      have hvy' : cs[base + x * j.size + y]? = some v := by simpa using hvy
      rw [hvy'] at this; cases this
      exact her _ _ hr2
    rw [List.getElem?_append] at hx
    split at hx
    · rename_i hlt
      simpa using hrow os x r rows.length 0 hol hlt (hosr x r hx) (fun y hy => by simpa using hc1 y hy)
    · rename_i hge
      have hxn : x - rows.length < news.length := (List.getElem?_eq_some_iff.1 hx).1
      have := hrow ns (x - rows.length) r news.length (rows.length * j.size) hnl hxn (hnsr _ r hx) hc2
      rwa [← Nat.add_mul, show rows.length + (x - rows.length) = x by omega] at this
  have fin : ∀ {v : Value} {w' : World} {p : Option (Nat × Nat)}, (Builtin.append_ #[t, t] o.type #[.slice A rows.length c, a.eval Y]).run P w = .ok v w' →
      (Rel C ((S'.kill ks).sets [(q, .arr e j.size (rows ++ news))]) (B.set q p) a w' ∧ (∀ l v, LRep w C.din S' B l v → LRep w' C.din ((S'.kill ks).sets [(q, .arr e j.size (rows ++ news))]) (B.set q p) (kL ks l) v)) →
      LRep w' C.din ((S'.kill ks).sets [(q, .arr e j.size (rows ++ news))]) (B.set q p) (.own q 0 (rows.length + news.length)) v →
      Good P C S' a w o { dst := .one (.own q 0 (rows.length + news.length)), reads := refsL l ++ refsL lx, kills := ks, sets := [(q, .arr e j.size (rows ++ news))] } := by
    intro v w' p hrun hrel hl
    exact ⟨_, v, w', B.set q p, hexec v w' hrun, .inl rfl, hrel.1.put o.dst _ v hl hd⟩
  have objq : ((S'.kill ks).sets [(q, Ob.arr e j.size (rows ++ news))]).obj q = some (.arr e j.size (rows ++ news)) := by simp [sets_one_obj]
  rcases Nat.lt_or_ge c (rows.length + news.length) with hg | hf
  · -- a new array
    have hcap := grownCap_ge w (rows.length + news.length) c e h63
    generalize hcells : os.toArray ++ ns.toArray ++ Builtin.zeroCells z.cells (grownCap w (rows.length + news.length) c e - (rows.length + news.length)) = cells at hgrow
    have hzs : z.cells.size = j.size := by have := hz1.1; rw [← hzc] at this; simpa using this
    have hcsz : cells.size = grownCap w (rows.length + news.length) c e * j.size := by
      rw [← hcells]
      simp [Builtin.zeroCells, hol, hnl, hzs, ← Nat.add_mul]
      congr 1; omega
    have hget : ∀ y, cells[y]? = if y < rows.length * j.size then os[y]? else if y < rows.length * j.size + news.length * j.size then ns[y - rows.length * j.size]? else (Builtin.zeroCells z.cells (grownCap w (rows.length + news.length) c e - (rows.length + news.length)))[y - (rows.length * j.size + news.length * j.size)]? := by
      intro y
      rw [← hcells, Array.getElem?_append, Array.getElem?_append]
      simp only [Array.size_append, List.size_toArray, hol, hnl, List.getElem?_toArray]
      by_cases hy1 : y < rows.length * j.size
      · rw [if_pos (by omega), if_pos hy1, if_pos hy1]
      · by_cases hy2 : y < rows.length * j.size + news.length * j.size
        · simp only [if_pos hy2, if_neg hy1]
        · simp only [if_neg hy2, if_neg hy1]
    have hone : ∀ x ∈ cells.toList, x.oneCell' = true := by
      intro x hx
      rw [← hcells] at hx
      simp at hx
      rcases hx with hx | hx | hx
      · exact ho1 x hx
      · exact hn1 x hx
      · simp [Builtin.zeroCells] at hx
        obtain ⟨y, hy, rfl⟩ := hx
        have hz0 : 0 < z.cells.size := by
          rcases Nat.eq_zero_or_pos z.cells.size with h | h
          · rw [h] at hy; simp at hy
          · exact h
        have hym : y % z.cells.size < z.cells.size := Nat.mod_lt _ hz0
        rw [getElem!_pos z.cells (y % z.cells.size) hym]
        exact hz1.2 _ (by rw [← hzc]; simp)
    have hrel := Rel.move (w' := w.drew.alloc (.cells cells e)) hR (ks := ks) (ob := .arr e j.size (rows ++ news)) (p := some (w.heap.size, cells.size)) hq' hq1 rfl rfl rfl (by simp) (fun x hx _ => Below.heap_alloc w.drew _ x hx)
      (fun b n hb => by cases hb; exact .inr ⟨Nat.le_refl _, by simp⟩) (fun her => .inr ⟨w.heap.size, cells.size, cells, by simp [Pl.set], heap_alloc_new w.drew _, rfl, hone, by rw [hcsz, List.length_append]; exact Nat.mul_le_mul_right _ hcap.1, ?_⟩)
    · exact fin (hgrow hg) hrel ⟨e, j.size, _, some ⟨w.heap.size, 0, none⟩, grownCap w (rows.length + news.length) c e, arr_of objq, by rw [List.length_append]; omega, rfl, hcap.1, hcap.2, .inr ⟨w.heap.size, cells.size, by simp [Pl.set], by simp, by rw [hcsz]; simp⟩⟩
    · exact rowsrep _ _ cells her (fun y hy => by rw [hget, if_pos hy]) (fun y hy => by rw [hget, if_neg (by omega), if_pos (by omega), Nat.add_sub_cancel_left])
  · have hrunf := hfit hf
    rcases hplace with h0 | ⟨k, b, n, rfl, hb, hA, hroom, cs, hh, hcn, hone⟩
    · -- nothing at all
      have hrl : rows = [] := List.eq_nil_of_length_eq_zero (by omega)
      have hnl0 : news = [] := List.eq_nil_of_length_eq_zero (by omega)
      subst hrl hnl0
      have hns0 : ns = [] := List.eq_nil_of_length_eq_zero (by simpa using hnl)
      have hrun0 : (Builtin.append_ #[t, t] o.type #[.slice A 0 c, a.eval Y]).run P w = .ok (.slice A 0 c) w := by
        have := hrunf
        subst hns0
        cases A <;> simpa [storeCells] using this
      have hrel := Rel.move (w' := w) hR (ks := ks) (ob := .arr e j.size ([] ++ [])) (p := none) hq' hq1 rfl rfl rfl (Nat.le_refl _) (fun x hx _ => rfl) (fun b n hb => by cases hb) (fun her => .inl ⟨rfl, by simp [Pl.set]⟩)
      exact fin hrun0 hrel ⟨e, j.size, _, A, c, arr_of objq, by simp, rfl, by omega, hcm, .inl h0⟩
    · -- in place
      subst hA
      have hsz : rows.length * j.size + news.length * j.size ≤ c * j.size := by rw [← Nat.add_mul]; exact Nat.mul_le_mul_right _ hf
      have hst : (storeCells ⟨b, rows.length * j.size, none⟩ ns).run P w = .ok () (w.setCells b (rows.length * j.size) ns) := by
        have := run_storeCells_cells (P := P) b (rows.length * j.size) ns 0 w (fun y hy => by
          rw [show rows.length * j.size + 0 + y = rows.length * j.size + y from by omega, cell_blk hh]; simp; omega) (fun y hy => frozen_blk hh _) hn1
        simpa using this
      have hrun1 : (Builtin.append_ #[t, t] o.type #[.slice (some ⟨b, 0, none⟩) rows.length c, a.eval Y]).run P w = .ok (.slice (some ⟨b, 0, none⟩) (rows.length + news.length) c) (w.setCells b (rows.length * j.size) ns) := by
        rw [hrunf]
        simp [add_mk, hts, hst]
      obtain ⟨cs', hh', hs', hget⟩ := setCells_heap b e ns (rows.length * j.size) w cs hh
      obtain ⟨e1, e2, e3, e4⟩ := setCells_same b ns (rows.length * j.size) w
      have hrel := Rel.move (w' := w.setCells b (rows.length * j.size) ns) hR (ks := [k]) (ob := .arr e j.size (rows ++ news)) (p := some (b, n)) hq' hq1 e1 e2 e3 (by omega)
        (fun x hx hne => setCells_other b _ _ _ x fun ex => hne k (by simp) (hks k (by simp)) (by rw [ex]; exact .at hb))
        (fun b' n' hb' => by cases hb'; exact .inl ⟨k, by simp, n, hks k (by simp), hb⟩)
        (fun her => .inr ⟨b, n, cs', by simp [Pl.set], hh', by omega, ?_, by rw [List.length_append, Nat.add_mul]; omega, ?_⟩)
      · exact fin hrun1 hrel ⟨e, j.size, _, some ⟨b, 0, none⟩, c, arr_of objq, by rw [List.length_append]; omega, rfl, hf, hcm, .inr ⟨b, n, by simp [Pl.set], by simp, by simpa using hroom⟩⟩
      · intro x hx
        obtain ⟨y, hy⟩ := List.getElem?_of_mem hx
        have hy' : cs'[y]? = some x := by simpa using hy
        rw [hget] at hy'
        split at hy'
        · exact hn1 x (List.mem_of_getElem? hy')
        · exact hone x (List.mem_of_getElem? (i := y) (by simpa using hy'))
      · refine rowsrep _ _ cs' her (fun y hy => ?_) (fun y hy => ?_)
        · rw [hget, if_neg (by omega)]
          rcases ho2 with h0 | ⟨b2, hb2, hcell⟩
          · rw [h0] at hy; simp at hy
          · rw [hv] at hos
            cases hb2
            have hyl : y < os.length := by omega
            have := hcell y os[y] (List.getElem?_eq_getElem hyl)
            rw [add_mk, cell_blk hh] at this
            rw [List.getElem?_eq_getElem hyl]
            simpa using this
        · rw [hget, if_pos (by omega), Nat.add_sub_cancel_left]
end
end Go.Vl
namespace Go.Vl
open Go Go.RowKit
def fillA (pl : Nat → Option (Nat × Nat)) (cells : List Leaf) : List (Nat × List Leaf) → Option (List Leaf)
  | [] => some cells
  | (i, new) :: rest => match pl i with
    | some (off, sz) => if new.length = sz ∧ off + sz ≤ cells.length then fillA pl (splice off new cells) rest else none
    | none => none
theorem foldl_set (off : Nat) : ∀ (vs : List Value) (k : Nat) (cs : Array Value), off + k + vs.length ≤ cs.size →
    ((vs.zipIdx k).foldl (fun cs (x : Value × Nat) => cs.setIfInBounds (off + x.2) x.1) cs).size = cs.size ∧
    ∀ y, ((vs.zipIdx k).foldl (fun cs (x : Value × Nat) => cs.setIfInBounds (off + x.2) x.1) cs)[y]? = if off + k ≤ y ∧ y < off + k + vs.length then vs[y - (off + k)]? else cs[y]?
  | [], k, cs, _ => by simp; intro y h; omega
  | v :: vs, k, cs, h => by
    simp only [List.length_cons] at h
    have ih := foldl_set off vs (k + 1) (cs.setIfInBounds (off + k) v) (by simp; omega)
    simp only [List.zipIdx_cons, List.foldl_cons]
    refine ⟨by rw [ih.1]; simp, fun y => ?_⟩
    rw [ih.2 y]
    by_cases h1 : y = off + k
    · subst h1
      rw [if_neg (by omega), if_pos (by simp), Nat.sub_self]
      simp [Array.getElem?_setIfInBounds_self]; omega
    · by_cases h2 : off + k ≤ y ∧ y < off + k + (vs.length + 1)
      · rw [if_pos (by omega), if_pos (by simpa using h2)]
        rw [show y - (off + k) = (y - (off + (k + 1))) + 1 by omega, List.getElem?_cons_succ]
      · rw [if_neg (by omega), if_neg (by simpa using h2), Array.getElem?_setIfInBounds_ne (by omega)]
def setAll (off : Nat) (v : Value) (cs : Array Value) : Array Value := v.cells.zipIdx.foldl (fun cs (c, j) => cs.setIfInBounds (off + j) c) cs
theorem setAll_spec {off : Nat} {v : Value} {cs : Array Value} (h : off + v.cells.size ≤ cs.size) : (setAll off v cs).size = cs.size ∧ ∀ y, (setAll off v cs)[y]? = if off ≤ y ∧ y < off + v.cells.size then v.cells[y - off]? else cs[y]? := by
  have hf := foldl_set off v.cells.toList 0 cs (by simp; omega)
  have e1 : setAll off v cs = (v.cells.toList.zipIdx 0).foldl (fun cs (x : Value × Nat) => cs.setIfInBounds (off + x.2) x.1) cs := by
    unfold setAll
    rw [← Array.foldl_toList, Array.toList_zipIdx]
  rw [← e1] at hf
  refine ⟨hf.1, fun y => ?_⟩
  rw [hf.2 y]
  simp
theorem fill_cons {pl : Nat → Option (Nat × Nat)} {cs : Array Value} {i : Nat} {v : Value} {rest : List (Nat × Value)} {off sz : Nat} (hp : pl i = some (off, sz)) (h1 : v.cells.size = sz) (h2 : off + v.cells.size ≤ cs.size) :
    Instr.fill pl cs ((i, v) :: rest) = Instr.fill pl (setAll off v cs) rest := by
  have hc : ¬ (v.cells.size ≠ sz ∨ off + v.cells.size > cs.size) := by omega
  rw [Instr.fill]
  simp only [hp]
  rw [if_neg (by simpa using hc)]
  rfl
theorem fill_rep {R : Leaf → Value → Prop} {pl : Nat → Option (Nat × Nat)} : ∀ {ps : List (Nat × List Leaf)} {vs : List (Nat × Value)} {cells : List Leaf} {cs : Array Value} {out : List Leaf},
    All2 (fun p v => p.1 = v.1 ∧ All2 R p.2 v.2.cells.toList) ps vs → All2 R cells cs.toList → fillA pl cells ps = some out → ∃ os, Instr.fill pl cs vs = some os ∧ All2 R out os.toList ∧ os.size = cs.size
  | [], [], cells, cs, out, _, hc, h => by cases h; exact ⟨cs, rfl, hc, rfl⟩
  | [], _ :: _, _, _, _, hp, _, _ => hp.elim
  | _ :: _, [], _, _, _, hp, _, _ => hp.elim
  | (i, new) :: ps, (j, v) :: vs, cells, cs, out, hp, hc, h => by
    obtain ⟨⟨e, hn⟩, hp⟩ := hp
    simp only at e
    subst e
    unfold fillA at h
    split at h
    · rename_i off sz hpl
      split at h
      · rename_i hk
        obtain ⟨hk1, hk2⟩ := hk
        have hnl : new.length = v.cells.size := by simpa using hn.length
        have hcl : cells.length = cs.size := by simpa using hc.length
        obtain ⟨hf1, hf2⟩ := setAll_spec (off := off) (v := v) (cs := cs) (by omega)
        have hc2 : All2 R (splice off new cells) (setAll off v cs).toList := by
          refine All2.of_get ?_ fun y l x hl hx => ?_
          · rw [splice_length (by omega)]; exact hcl.trans (by simp [hf1])
          · rw [splice_get (by omega)] at hl
            have hx' : (setAll off v cs)[y]? = some x := by simpa using hx
            rw [hf2 y] at hx'
            by_cases hy : off ≤ y ∧ y < off + new.length
            · rw [if_pos hy] at hl
              rw [if_pos (by omega)] at hx'
              obtain ⟨b, hb, hr⟩ := hn.get _ l hl
              have hb' : v.cells[y - off]? = some b := by simpa using hb
              rw [hb'] at hx'
              cases hx'; exact hr
            · rw [if_neg hy] at hl
              rw [if_neg (by omega)] at hx'
              obtain ⟨b, hb, hr⟩ := hc.get _ l hl
              have hb' : cs[y]? = some b := by simpa using hb
              rw [hb'] at hx'
              cases hx'; exact hr
        obtain ⟨os, h1, h2, h3⟩ := fill_rep hp hc2 h
        exact ⟨os, by rw [fill_cons hpl (by omega) (by omega)]; exact h1, h2, by rw [h3, hf1]⟩
      · cases h
    · cases h
section
variable {P : Program} {T : Tab} {S : St} {o : Oper} {B : Pl} {w : World}
def placeA (T : Tab) (fs : List (Nat × TypeId)) (i : Nat) : Option (Nat × Nat) := match fs[i]? with
  | some (off, t) => (T t).map fun j => (off, j.size)
  | none => none
def partsA (S : St) : List (Nat × Operand) → Option (List (Nat × List Leaf))
  | [] => some []
  | (i, x) :: l => match leaves (ev S x), partsA S l with
    | some ls, some r => some ((i, ls) :: r)
    | _, _ => none
theorem partsA_rep {C : Ctx} {a : Act} (hR : Rel C S B a w) : ∀ {ps : List (Nat × Operand)} {out : List (Nat × List Leaf)}, partsA S ps = some out →
    All2 (fun p (v : Nat × Value) => p.1 = v.1 ∧ All2 (LRep w C.din S B) p.2 v.2.cells.toList) out (ps.map fun (i, x) => (i, a.eval x))
  | [], out, h => by cases h; trivial
  | (i, x) :: ps, out, h => by
    unfold partsA at h
    split at h
    · rename_i ls r h1 h2
      cases h
      exact ⟨⟨rfl, (leaves_rep h1 (ev_rep hR x)).1⟩, partsA_rep hR h2⟩
    · cases h
theorem partsA_congr {S' : St} : ∀ {ps : List (Nat × Operand)}, (∀ p ∈ ps, ev S' p.2 = ev S p.2) → partsA S' ps = partsA S ps
  | [], _ => rfl
  | (i, x) :: ps, h => by
    unfold partsA
    rw [h (i, x) (by simp), partsA_congr fun p hp => h p (by simp [hp])]
theorem all_info (hT : TabOk P T) : ∀ {fs : List (Nat × TypeId)} {fl : List Field} , fl.map (fun f => (f.offset, f.type)) = fs → fs.all (fun p => (T p.2).isSome) = true →
    fl.mapM (fun f => (P.info? f.type).map fun i => (f.offset, i.size)) = some (fs.map fun p => (p.1, ((T p.2).map (·.size)).getD 0))
  | _, [], h, _ => by subst h; rfl
  | _, f :: fl, h, ha => by
    subst h
    simp only [List.map_cons, List.all_cons, Bool.and_eq_true] at ha
    obtain ⟨i, hi⟩ := Option.isSome_iff_exists.1 ha.1
    obtain ⟨x, hx, hs, _⟩ := hT.infoAt hi
    have ih := all_info hT (fs := fl.map fun f => (f.offset, f.type)) rfl ha.2
    simp [List.mapM_cons, hx, ih, hi, hs]
theorem o_build (hT : TabOk P T) {t : TypeId} {parts : Array (Nat × Operand)} (ho : o.op = .build t parts) {i : TI} (hi : T t = some i) {fs : List (Nat × TypeId)} (hd0 : i.d = .st fs) (hfs : fs.all (fun p => (T p.2).isSome) = true) {ps : List (Nat × List Leaf)} (hp : partsA S parts.toList = some ps)
    {out : List Leaf} (hf : fillA (placeA T fs) (i.zero.map .g) ps = some out) : OpL P S o { dst := .agg out } := by
  intro S' h1 h2 h3 C B a w hR hd
  have hp' : partsA S' parts.toList = some ps := by
    rw [← hp]
    exact partsA_congr fun p hp => h1 p.2 (by simp [ho, Op.operands]; exact ⟨p.1, by simpa using hp⟩)
  obtain ⟨fields, hu, hm⟩ := und_st hT hi hd0
  obtain ⟨x, hx, _, _, z, hz, hzc⟩ := hT.infoAt hi
  have hz1 := (hT.one _ _ hi).2
  have hcells : All2 (LRep w C.din S' B) (i.zero.map .g) z.cells.toList := by rw [hzc]; exact all2_g _ (List.all_eq_true.2 hz1)
  obtain ⟨os, ho1, ho2, _⟩ := fill_rep (partsA_rep hR hp') hcells hf
  have hb : P.built t (parts.map fun (i, x) => (i, a.eval x)).toList = some os := by
    unfold Program.built
    simp only [hx, hu, hz, all_info hT hm hfs]
    rw [← ho1]
    congr 1
    · funext k
      simp only [placeA]
      rw [List.getElem?_toArray, List.getElem?_map]
      cases hk : fs[k]? with
      | none => rfl
      | some p =>
        have := List.all_eq_true.1 hfs p (List.mem_of_getElem? hk)
        obtain ⟨j, hj⟩ := Option.isSome_iff_exists.1 this
        simp [hj]
    · simp
  exact good_val hR (rd := []) (p := True) hd (v := .agg os) (by simp only [execOp, ho, Sem.run_bind, run_build w t _ os hb, Result.andThen_ok]; rfl) ⟨os, rfl, ho2⟩
def rowsOf (sz : Nat) : List (Nat × List Leaf) → Nat → Option (List (List Leaf))
  | [], _ => some []
  | (i, ls) :: l, k => if i = k ∧ ls.length = sz ∧ plain ls = true then (rowsOf sz l (k + 1)).map (ls :: ·) else none
theorem fill_rows {R : Leaf → Value → Prop} {sz : Nat} : ∀ {ps : List (Nat × List Leaf)} {vs : List (Nat × Value)} {k : Nat} {cs : Array Value} {rows : List (List Leaf)},
    All2 (fun p (v : Nat × Value) => p.1 = v.1 ∧ All2 R p.2 v.2.cells.toList) ps vs → rowsOf sz ps k = some rows → (k + ps.length) * sz ≤ cs.size →
      ∃ os, Instr.fill (fun i => some (i * sz, sz)) cs vs = some os ∧ os.size = cs.size ∧ (∀ y, y < k * sz → os[y]? = cs[y]?) ∧ (∀ y, (k + ps.length) * sz ≤ y → os[y]? = cs[y]?) ∧ ∀ i r, rows[i]? = some r → All2 R r ((os.toList.drop ((k + i) * sz)).take sz)
  | [], [], k, cs, rows, _, h, _ => by cases h; exact ⟨cs, rfl, rfl, fun _ _ => rfl, fun _ _ => rfl, fun i r h => by simp at h⟩
  | [], _ :: _, _, _, _, hp, _, _ => hp.elim
  | _ :: _, [], _, _, _, hp, _, _ => hp.elim
  | (i, ls) :: ps, (j, v) :: vs, k, cs, rows, hp, h, hsz => by
    obtain ⟨⟨e, hn⟩, hp⟩ := hp
    simp only at e
    subst e
    unfold rowsOf at h
    split at h
    · rename_i hk
      obtain ⟨rfl, hls, hpl⟩ := hk
      simp only [Option.map_eq_some_iff] at h
      obtain ⟨rows', hr', rfl⟩ := h
      have hnl : ls.length = v.cells.size := by simpa using hn.length
      simp only [List.length_cons] at hsz
      have e0 : (i + (ps.length + 1)) * sz = i * sz + sz + ps.length * sz := by rw [Nat.add_mul, Nat.add_mul]; omega
      obtain ⟨hf1, hf2⟩ := setAll_spec (off := i * sz) (v := v) (cs := cs) (by omega)
      have e2 : (i + 1 + ps.length) * sz = i * sz + sz + ps.length * sz := by rw [Nat.add_mul, Nat.add_mul]; omega
      obtain ⟨os, h1, h2, h3, h4, h5⟩ := fill_rows (cs := setAll (i * sz) v cs) hp hr' (by rw [hf1]; omega)
      rw [Nat.succ_mul] at h3
      refine ⟨os, ?_, by rw [h2, hf1], fun y hy => ?_, fun y hy => ?_, fun x r hx => ?_⟩
      · rw [fill_cons (off := i * sz) (sz := sz) rfl (by omega) (by omega)]; exact h1
      · rw [h3 y (by omega), hf2 y, if_neg (by omega)]
      · simp only [List.length_cons] at hy
        rw [h4 y (by omega), hf2 y, if_neg (by omega)]
      · cases x with
        | zero =>
          simp at hx; subst hx
          refine All2.of_get ?_ fun y l u hl hu => ?_
          · have e3 : os.toList.length = cs.size := by rw [Array.length_toList, h2, hf1]
            rw [List.length_take, List.length_drop, e3, Nat.add_zero]; show ls.length = _; omega
          · have hyl : y < sz := by
              rcases Nat.lt_or_ge y sz with h | h
              · exact h
              · rw [List.getElem?_eq_none (by omega)] at hl; cases hl
            rw [List.getElem?_take, if_pos hyl, List.getElem?_drop, Nat.add_zero] at hu
            have hu' : os[i * sz + y]? = some u := by simpa using hu
            rw [h3 _ (by omega), hf2 _, if_pos (by omega), Nat.add_sub_cancel_left] at hu'
            obtain ⟨b, hb, hr⟩ := hn.get y l hl
            have hb' : v.cells[y]? = some b := by simpa using hb
            rw [hb'] at hu'; cases hu'; exact hr
        | succ x =>
          have := h5 x r (by simpa using hx)
          rwa [show i + 1 + x = i + (x + 1) by omega] at this
    · cases h
theorem rowsOf_plain {sz : Nat} : ∀ {ps : List (Nat × List Leaf)} {k : Nat} {rows : List (List Leaf)}, rowsOf sz ps k = some rows → rows.length = ps.length ∧ ∀ r ∈ rows, plain r = true ∧ r.length = sz
  | [], k, rows, h => by cases h; simp
  | (i, ls) :: ps, k, rows, h => by
    unfold rowsOf at h
    split at h
    · rename_i hk
      simp only [Option.map_eq_some_iff] at h
      obtain ⟨rows', hr', rfl⟩ := h
      obtain ⟨h1, h2⟩ := rowsOf_plain hr'
      refine ⟨by simp [h1], fun r hr => ?_⟩
      rcases List.mem_cons.1 hr with rfl | hr
      · exact ⟨hk.2.2, hk.2.1⟩
      · exact h2 r hr
    · cases h
theorem o_buildSlice (hT : TabOk P T) {t e : TypeId} {len : Nat} {parts : Array (Nat × Operand)} (ho : o.op = .buildSlice t len parts) {i j : TI} (hi : T t = some i) (hd0 : i.d = .sl e) (hj : T e = some j) {ps : List (Nat × List Leaf)} (hp : partsA S parts.toList = some ps)
    {rows : List (List Leaf)} (hr : rowsOf j.size ps 0 = some rows) (hl : ps.length = len) (h24 : len * j.size ≤ 16777216) (hj0 : 0 < j.size) {q : Nat} (hq : S.obj q = none) (hq1 : 100 ≤ q) :
    OpL P S o { dst := .one (.own q 0 len), sets := [(q, .arr e j.size rows)] } := by
  intro S' h1 h2 h3 C B a w hR hd
  have hp' : partsA S' parts.toList = some ps := by
    rw [← hp]
    exact partsA_congr fun p hp => h1 p.2 (by simp [ho, Op.operands]; exact ⟨p.1, by simpa using hp⟩)
  have hu := und_sl hT hi hd0
  obtain ⟨x, hx, hxs, _, z, hz, hzc⟩ := hT.infoAt hj
  have hz1 := (hT.one _ _ hj)
  have h63 : len ≤ maxLen := by
    have : len * 1 ≤ len * j.size := Nat.mul_le_mul_left _ hj0
    unfold maxLen; omega
  obtain ⟨hrl, hrp⟩ := rowsOf_plain hr
  have prep := partsA_rep hR hp'
  generalize hcs0 : (Array.range (len * x.size)).map (fun n => (z.cells)[n % z.cells.size]!) = cs0
  have hcs0s : cs0.size = len * j.size := by rw [← hcs0]; simp [hxs]
  obtain ⟨os, f1, f2, _, _, f5⟩ := fill_rows (cs := cs0) prep hr (by rw [hcs0s, hl]; simp)
  have hrun : (Instr.buildSlice t len (parts.map fun (i, x) => (i, a.eval x))).run P w = .ok (.slice (some ⟨w.heap.size, 0, none⟩) len len) (w.alloc (.cells os e)) := by
    have f1' : Instr.fill (fun i => some (i * x.size, x.size)) cs0 (parts.map fun (i, x) => (i, a.eval x)).toList = some os := by rw [hxs]; simpa using f1
    by_cases hpos : len * x.size = 0
    · have hl0 : len = 0 := by
        rcases Nat.mul_eq_zero.1 hpos with h | h
        · exact h
        · omega
      subst hl0
      have hps : ps = [] := List.eq_nil_of_length_eq_zero hl
      subst hps
      have hpl : parts.toList = [] := by
        cases hq : parts.toList with
        | nil => rfl
        | cons y l =>
          rw [hq] at hp'
          unfold partsA at hp'
          split at hp' <;> cases hp'
      have hpa : parts = #[] := by simpa using hpl
      subst hpa
      have : cs0 = #[] := Array.eq_empty_of_size_eq_zero (by rw [hcs0s]; simp)
      subst this
      simp [Instr.fill] at f1'
      subst f1'
      simp [Instr.buildSlice, run_underlying hu, sizeOf, typeInfo, hx, newRow, Instr.fill, Array.range_zero']
    · exact run_buildSlice w t e len _ os x z hu hx hz (by rw [hxs]; omega) hpos (by rw [hcs0]; exact f1')
  have hcov : ∀ y, y < os.size → ∃ r l, r ∈ rows ∧ l ∈ r ∧ ∃ v, os[y]? = some v ∧ LRep w C.din S' B l v := by
    intro y hy
    rw [f2, hcs0s] at hy
    have hil : y / j.size < rows.length := by rw [hrl, hl]; exact Nat.div_lt_of_lt_mul (by rw [Nat.mul_comm]; exact hy)
    have hm : y % j.size < j.size := Nat.mod_lt _ hj0
    have h6 := f5 (y / j.size) _ (List.getElem?_eq_getElem hil)
    have hrs := (hrp _ (List.getElem_mem hil)).2
    obtain ⟨v, hv, hlr⟩ := h6.get (y % j.size) _ (List.getElem?_eq_getElem (by omega))
    rw [List.getElem?_take, if_pos hm, List.getElem?_drop, Nat.zero_add, Nat.mul_comm, Nat.div_add_mod] at hv
    exact ⟨_, _, List.getElem_mem hil, List.getElem_mem _, v, by simpa using hv, hlr⟩
  refine good_new (n := os.size) hR (.cells os e) ((h3 q (by simp)).trans hq) hq1 hd (v := .slice (some ⟨w.heap.size, 0, none⟩) len len) (by simp only [execOp, ho, Sem.run_bind, hrun, Result.andThen_ok]; rfl) (fun hl' hr' => ?_) ?_
  · refine .inr ⟨w.heap.size, _, os, set_same _ _ _, heap_alloc_new w _, rfl, fun c hc => ?_, by rw [f2, hcs0s, hrl, hl]; exact Nat.le_refl _, fun y r hy => ?_⟩
    · obtain ⟨y, hy⟩ := List.getElem?_of_mem hc
      have hy' : os[y]? = some c := by simpa using hy
      obtain ⟨r, l, _, _, v, hv, hlr⟩ := hcov y (Array.getElem?_eq_some_iff.1 hy').1
      rw [hy'] at hv; cases hv
      exact hlr.oneCell
    · have := f5 y r hy
      rw [Nat.zero_add] at this
      exact (plain_rep (fun _ _ h => h) (hrp r (List.mem_of_getElem? hy)).1 this).mono hr'
  · refine ⟨e, j.size, rows, _, len, arr_of (by simp [sets_one_obj]), by rw [hrl, hl]; omega, rfl, Nat.le_refl _, h63, .inr ⟨w.heap.size, os.size, set_same _ _ _, by simp, by rw [f2, hcs0s]; simp⟩⟩
end
end Go.Vl
namespace Go.Vl
open Go Go.RowKit
def aBin0 (op : BinOp) (x y : Value) : Option Value :=
  match op, x, y with
  | .quo, _, _ => none
  | .rem, _, _ => none
  | .add, .string _, .string _ => none
  | op, x, y => match aBin op x y with
    | some (_, v) => some v
    | none => none
theorem aBin0_ok {op : BinOp} {x y v : Value} (h : aBin0 op x y = some v) : ∃ p, aBin op x y = some (p, v) ∧ p := by
  unfold aBin0 at h
  split at h
  · cases h
  · cases h
  · cases h
  · rename_i h1 h2 h3
    split at h
    · rename_i p v' hb
      cases h
      refine ⟨p, hb, ?_⟩
      unfold aBin at hb
      split at hb <;> (try (split at hb)) <;> first
        | (simp only [Option.some.injEq, Prod.mk.injEq] at hb; obtain ⟨rfl, _⟩ := hb; trivial)
        | (exfalso; exact h1 rfl)
        | (exfalso; exact h2 rfl)
        | (exfalso; exact h3 _ _ rfl rfl rfl)
        | (exact absurd hb (by simp))
    · cases h
def allPtr : List Slot → Option (List Nat)
  | [] => some []
  | .one (.ptr q 0) :: l => (allPtr l).map (q :: ·)
  | _ => none
theorem allPtr_ok : ∀ {l : List Slot} {os : List Nat}, allPtr l = some os → l = os.map fun q => .one (.ptr q 0)
  | [], os, h => by simp [allPtr] at h; subst h; rfl
  | s :: l, os, h => by
    unfold allPtr at h
    split at h
    · rename_i heq; cases heq
    · rename_i q l' heq
      cases heq
      simp at h
      obtain ⟨os', h', rfl⟩ := h
      rw [allPtr_ok h']; rfl
    · cases h
def auto (T : Tab) (S : St) (o : Oper) : Option Eff :=
  match o.op with
  | .move x => some { dst := ev S x }
  | .assign x => some { dst := ev S x }
  | .pick c x y => match ev S c with
    | .one (.g (.bool true)) => some { dst := ev S x }
    | .one (.g (.bool false)) => some { dst := ev S y }
    | _ => none
  | .binOp op t x y _ => match ev S x, ev S y with
    | .one (.g (.bool a)), .one (.g (.bool b)) => match op, T t with
      | .eql, some ⟨.bool, _, _, _, _⟩ => some { dst := .one (.g (.bool (a == b))) }
      | .neq, some ⟨.bool, _, _, _, _⟩ => some { dst := .one (.g (.bool !(a == b))) }
      | _, _ => none
    | .one (.g a), .one (.g b) => match aBin0 op a b with
      | some v => some { dst := .one (.g v) }
      | none => none
    | .agg a, .agg b => match T t with
      | some ⟨_, _, _, _, some fs⟩ => match op, flatEq T 64 a b fs with
        | .eql, some r => some { dst := .one (.g (.bool r)) }
        | .neq, some r => some { dst := .one (.g (.bool !r)) }
        | _, _ => none
      | _ => none
    | _, _ => none
  | .unOp .not _ x => match ev S x with
    | .one (.g (.bool b)) => some { dst := .one (.g (.bool !b)) }
    | _ => none
  | .unOp .neg _ x => match ev S x with
    | .one (.g (.int k n)) => some { dst := .one (.g (.int k (k.wrap (0 - n)))) }
    | _ => none
  | .convert s t x => match T s, T t, ev S x with
    | some ⟨.int k', _, _, _, _⟩, some ⟨.int k, _, _, _, _⟩, .one (.g (.int k2 n)) => if k' = k2 then some { dst := .one (.g (.int k (k.wrap n))) } else none
    | _, _, _ => none
  | .load t A => match T t, ev S A with
    | some i, .one (.ptr q k) => match S.obj q with
      | some (.box ls) => if k + i.size ≤ ls.length ∧ k < ls.length then some { dst := cut i (ls.drop k), reads := [q] } else none
      | _ => none
    | some i, .one (.iel row k) => if k + i.size ≤ row.length ∧ k < row.length then some { dst := cut i (row.drop k) } else none
    | _, _ => none
  | .store t A X => match o.dst, T t, ev S A, leaves (ev S X) with
    | none, some i, .one (.ptr q k), some new => match S.obj q with
      | some (.box ls) => if new.length = i.size ∧ k + i.size ≤ ls.length then some { reads := [q], sets := [(q, .box (splice k new ls))] } else none
      | _ => none
    | _, _, _, _ => none
  | .box _ X => match o.dst, leaves (ev S X) with
    | some d, some ls => match S.obj (100 + d) with
      | none => some { dst := .one (.ptr (100 + d) 0), sets := [(100 + d, .box ls)] }
      | some _ => none
    | _, _ => none
  | .alloc E => match o.dst, T E with
    | some d, some i => match S.obj (100 + d) with
      | none => some { dst := .one (.ptr (100 + d) 0), sets := [(100 + d, .box (i.zero.map .g))] }
      | some _ => none
    | _, _ => none
  | .fieldAddr s x f => match T s with
    | some ⟨.st fs, _, _, _, _⟩ => match fs[f]? with
      | some (off, t) => match T t with
        | some j => if j.size = 0 then none else match ev S x with
          | .one (.ptr q k) => some { dst := .one (.ptr q (k + off)) }
          | .one (.elm q r k) => some { dst := .one (.elm q r (k + off)) }
          | .one (.iel row k) => some { dst := .one (.iel row (k + off)) }
          | _ => none
        | none => none
      | none => none
    | _ => none
  | .field s x f => match T s with
    | some ⟨.st fs, _, _, _, _⟩ => match fs[f]? with
      | some (off, t) => match T t, ev S x with
        | some j, .agg ls => if off + j.size ≤ ls.length ∧ off < ls.length then some { dst := cut j (ls.drop off) } else none
        | _, _ => none
      | none => none
    | _ => none
  | .nilCheck x => match ev S x with
    | .one (.ptr q k) => some { dst := .one (.ptr q k) }
    | .one (.elm q r k) => some { dst := .one (.elm q r k) }
    | .one (.iel r k) => some { dst := .one (.iel r k) }
    | .one (.clo f os) => some { dst := .one (.clo f os) }
    | _ => none
  | .extract x k => match ev S x with
    | .tup xs => match xs[k]? with
      | some (true, ls) => some { dst := .agg ls }
      | some (false, [l]) => some { dst := .one l }
      | _ => none
    | _ => none
  | .makeFunc (.func f) ⟨[]⟩ cap => match allPtr (cap.toList.map (ev S)) with
    | some os => some { dst := .one (.clo f os) }
    | none => none
  | .build t parts => match T t with
    | some ⟨.st fs, _, _, zero, _⟩ => match fs.all (fun p => (T p.2).isSome), partsA S parts.toList with
      | true, some ps => match fillA (placeA T fs) (zero.map .g) ps with
        | some out => some { dst := .agg out }
        | none => none
      | _, _ => none
    | _ => none
  | .buildSlice t len parts => match o.dst, T t with
    | some d, some ⟨.sl e, _, _, _, _⟩ => match T e, partsA S parts.toList with
      | some j, some ps => match rowsOf j.size ps 0, S.obj (100 + d) with
        | some rows, none => if ps.length = len ∧ len * j.size ≤ 16777216 ∧ 0 < j.size then some { dst := .one (.own (100 + d) 0 len), sets := [(100 + d, .arr e j.size rows)] } else none
        | _, _ => none
      | _, _ => none
    | _, _ => none
  | .call { callee := .builtin .len, args := ⟨[x]⟩, argTypes := ⟨[t]⟩ } => match T t, ev S x with
    | some ⟨.str, _, _, _, _⟩, .one (.g (.string s)) => some { dst := .one (.g (.int .i64 s.size)) }
    | some ⟨.sl _, _, _, _, _⟩, .one (.own _ _ m) => some { dst := .one (.g (.int .i64 m)) }
    | some ⟨.sl _, _, _, _, _⟩, .one (.imm _ rows) => some { dst := .one (.g (.int .i64 rows.length)) }
    | some ⟨.sl _, _, _, _, _⟩, .one (.g (.slice _ m _)) => some { dst := .one (.g (.int .i64 m)) }
    | _, _ => none
  | _ => none
theorem auto_ok {P : Program} {T : Tab} (hT : TabOk P T) {S : St} {o : Oper} {e : Eff} (h : auto T S o = some e) : OpL P S o e := by
  obtain ⟨dst, op, type, pos, after, guard⟩ := o
  unfold auto at h
  split at h <;> rename_i ho <;> simp only at ho
  · cases h; exact o_move (.inl ho) rfl
  · cases h; exact o_move (.inr ho) rfl
  · split at h
    · rename_i hc; cases h; exact o_pick ho hc rfl
    · rename_i hc; cases h; exact o_pick ho hc rfl
    · cases h
  · split at h
    · rename_i hx hy
      split at h
      · rename_i hi; cases h; exact o_eqb hT ho hi rfl hx hy (.inl ⟨rfl, rfl⟩)
      · rename_i hi; cases h; exact o_eqb hT ho hi rfl hx hy (.inr ⟨rfl, rfl⟩)
      · cases h
    · rename_i hx hy
      split at h
      · rename_i v hb
        cases h
        obtain ⟨p, h1, h2⟩ := aBin0_ok hb
        exact o_bin ho hx hy h1 h2
      · cases h
    · rename_i hx hy
      split at h
      · rename_i hi
        split at h
        · rename_i hb; cases h; exact o_eqst hT ho hi rfl hx hy hb (.inl ⟨rfl, rfl⟩)
        · rename_i hb; cases h; exact o_eqst hT ho hi rfl hx hy hb (.inr ⟨rfl, rfl⟩)
        · cases h
      · cases h
    · cases h
  · split at h
    · rename_i hx; cases h; exact o_not ho hx
    · cases h
  · split at h
    · rename_i hx; cases h; exact o_neg ho hx
    · cases h
  · split at h
    · rename_i hs ht hx
      split at h
      · rename_i hk; subst hk; cases h; exact o_conv_int hT ho hs rfl ht rfl hx
      · cases h
    · cases h
  · split at h
    · rename_i hi hA
      split at h
      · rename_i ls hq
        split at h
        · rename_i hk; cases h; exact o_load_box hT ho hi hA hq hk
        · cases h
      · cases h
    · rename_i hi hA
      split at h
      · rename_i hk; cases h; exact o_load_iel hT ho hi hA hk
      · cases h
    · cases h
  · split at h
    · rename_i hd hi hA hn
      split at h
      · rename_i ls hq
        split at h
        · rename_i hk; cases h; exact o_store_box hT ho hd hi hA hq rfl hn hk
        · cases h
      · cases h
    · cases h
  · split at h
    · rename_i d ls hd hl
      split at h
      · rename_i hq; cases h; exact o_box ho hq (by omega) rfl hl
      · cases h
    · cases h
  · split at h
    · rename_i d i hd hi
      split at h
      · rename_i hq; cases h; exact o_alloc hT ho hi hq (by omega)
      · cases h
    · cases h
  · split at h
    · rename_i hi
      split at h
      · rename_i hf
        split at h
        · rename_i hj
          split at h
          · cases h
          · rename_i hjs
            split at h
            · rename_i hx; cases h; exact o_fieldAddr_ptr hT ho hi rfl hf hj hjs hx
            · rename_i hx; cases h; exact o_fieldAddr_elm hT ho hi rfl hf hj hjs hx
            · rename_i hx; cases h; exact o_fieldAddr_iel hT ho hi rfl hf hj hjs hx
            · cases h
        · cases h
      · cases h
    · cases h
  · split at h
    · rename_i hi
      split at h
      · rename_i hf
        split at h
        · rename_i hj hx
          split at h
          · rename_i hk; cases h; exact o_field hT ho hi rfl hf hj hx hk
          · cases h
        · cases h
      · cases h
    · cases h
  · split at h
    · rename_i hx; cases h; exact o_nilCheck ho hx trivial
    · rename_i hx; cases h; exact o_nilCheck ho hx trivial
    · rename_i hx; cases h; exact o_nilCheck ho hx trivial
    · rename_i hx; cases h; exact o_nilCheck ho hx trivial
    · cases h
  · split at h
    · rename_i hx
      split at h
      · rename_i hk; cases h; exact o_extract ho hx (by rw [hk])
      · rename_i hk; cases h; exact o_extract ho hx (by rw [hk])
      · cases h
    · cases h
  · split at h
    · rename_i hc; cases h; exact o_func ho (allPtr_ok hc)
    · cases h
  · split at h
    · rename_i hi
      split at h
      · rename_i hfs hp
        split at h
        · rename_i hf; cases h; exact o_build hT ho hi rfl hfs hp hf
        · cases h
      · cases h
    · cases h
  · split at h
    · rename_i d _ _ _ _ _ hd hi
      split at h
      · rename_i hj hp
        split at h
        · rename_i hr hq
          split at h
          · rename_i hk; cases h; exact o_buildSlice hT ho hi rfl hj hp hr hk.1 hk.2.1 hk.2.2 hq (by omega)
          · cases h
        · cases h
      · cases h
    · cases h
  · split at h
    · rename_i ht hx; cases h; exact o_len_str hT ho ht rfl hx
    · rename_i ht hx; cases h; exact o_len_sl hT ho ht rfl hx rfl
    · rename_i ht hx; cases h; exact o_len_sl hT ho ht rfl hx rfl
    · rename_i ht hx; cases h; exact o_len_sl hT ho ht rfl hx rfl
    · cases h
  · cases h
def sgetI (s : ByteArray) (i : Nat) : Int := (((s[i]?).getD 0).toNat : Int)
def autoC (T : Tab) (S : St) (o : Oper) : Option (Prop × Slot) :=
  match o.op with
  | .index t x i => match T t, ev S x, ev S i with
    | some ⟨.str, _, _, _, _⟩, .one (.g (.string s)), .one (.g (.int _ n)) => some (0 ≤ n ∧ n < s.size, .one (.g (.int .u8 (sgetI s n.toNat))))
    | _, _, _ => none
  | .indexAddr t x i => match T t, ev S x, ev S i with
    | some ⟨.sl e, _, _, _, _⟩, .one (.own q off len), .one (.g (.int _ n)) => match T e, S.arr q with
      | some j, some (_, sz, _) => some (j.size = sz ∧ 0 ≤ n ∧ n < len, .one (.elm q (off + n.toNat) 0))
      | _, _ => none
    | _, _, _ => none
  | .binOp .quo _ x y _ => match ev S x, ev S y with
    | .one (.g (.int k a)), .one (.g (.int k' b)) => some (k = k' ∧ b ≠ 0, .one (.g (.int k (k.wrap (a.tdiv b)))))
    | _, _ => none
  | .binOp .rem _ x y _ => match ev S x, ev S y with
    | .one (.g (.int k a)), .one (.g (.int k' b)) => some (k = k' ∧ b ≠ 0, .one (.g (.int k (a.tmod b))))
    | _, _ => none
  | .binOp .add _ x y _ => match ev S x, ev S y with
    | .one (.g (.string a)), .one (.g (.string b)) => some (a.size + b.size ≤ 9223372036854775807, .one (.g (.string (a ++ b))))
    | _, _ => none
  | _ => none
theorem autoC_ok {P : Program} {T : Tab} (hT : TabOk P T) {S : St} {o : Oper} {p : Prop} {s : Slot} (h : autoC T S o = some (p, s)) (hp : p) : ∃ rd, OpL P S o { dst := s, reads := rd } := by
  obtain ⟨dst, op, type, pos, after, guard⟩ := o
  unfold autoC at h
  split at h <;> rename_i ho <;> simp only at ho
  · split at h
    · rename_i s k n hi hx hI
      cases h
      have hlt : n.toNat < s.size := by omega
      refine ⟨[], o_index_str hT ho hi rfl hx hI hp.1 (c := (s[n.toNat]?).getD 0) ?_⟩
      rw [getElem?_pos s n.toNat hlt]; rfl
    · cases h
  · split at h
    · rename_i hi hx hI
      split at h
      · rename_i hj hq
        cases h
        exact ⟨_, o_index_arr hT ho hi rfl hj hx hI hq hp.1 hp.2⟩
      · cases h
    · cases h
  · split at h
    · rename_i hx hy
      cases h
      obtain ⟨rfl, hb⟩ := hp
      exact ⟨[], o_bin ho hx hy (p := _ ≠ _) (by simp [aBin]) hb⟩
    · cases h
  · split at h
    · rename_i hx hy
      cases h
      obtain ⟨rfl, hb⟩ := hp
      exact ⟨[], o_bin ho hx hy (p := _ ≠ _) (by simp [aBin]) hb⟩
    · cases h
  · split at h
    · rename_i hx hy
      cases h
      exact ⟨[], o_bin ho hx hy (by simp only [aBin]) hp⟩
    · cases h
  · cases h
end Go.Vl
namespace Go.Vl
open Go Go.RowKit
section
variable {K : St → Prop} {Q : Post} {S : St} {id i l : Nat}
theorem ret0 {T : Tab} {fn : Func} {P : Slot → List (Option Ob) → List Ob → Prop} {ss : List Slot} {s : Slot} (h1 : fn.results.toList.mapM (resSlot T S) = some ss) (h2 : resAll ss = some s) (h : P (rnS (rho 0 []) s) [] []) : RetOk T fn 0 S P :=
  ⟨ss, s, [], [], h1, h2, rfl, List.nodup_nil, (by simp), h⟩
end
end Go.Vl

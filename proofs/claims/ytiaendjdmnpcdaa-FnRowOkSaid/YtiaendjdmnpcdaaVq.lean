/- V-logic, part q: append's rule. -/
import Derived.Test.YtiaendjdmnpcdaaVp
namespace Go.Vl
open Go Go.RowKit

def ownRows (S : St) (e sz : Nat) : Leaf → Option (List Nat × List (List Leaf))
  | .own k off len => match S.obj k with
    | some (.arr E s rows) => if off = 0 ∧ E = e ∧ s = sz then some ([k], rows.take len) else none
    | _ => none
  | .g x => if isNilSl x then some ([], []) else none
  | _ => none

theorem grownCap_ge (w : World) (need old : Nat) (e : TypeId) (h : need ≤ maxLen) : need ≤ grownCap w need old e ∧ grownCap w need old e ≤ maxLen := by
  have e1 : grownCap w need old e = need + w.tape w.drawn (.appendCap need old e) % (2 ^ 63 - need) := rfl
  rw [e1]
  unfold maxLen at h ⊢
  have : w.tape w.drawn (.appendCap need old e) % (2 ^ 63 - need) < 2 ^ 63 - need := Nat.mod_lt _ (by omega)
  constructor
  · omega
  · omega

section
variable {P : Program} {T : Tab} {S : St} {o : Oper}

theorem o_append (hT : TabOk P T) {X Y : Operand} {t : TypeId} (ho : o.op = .call { callee := .builtin .append, args := #[X, Y], argTypes := #[t, t] }) {i j : TI} {e : TypeId} (hi : T t = some i) (hd0 : i.d = .sl e) (hj : T e = some j)
    {l lx : Leaf} (hX : ev S X = .one l) (hY : ev S Y = .one lx) {ks : List Nat} {rows news : List (List Leaf)} (hr : ownRows S e j.size l = some (ks, rows)) (hn : rowsAt S j.size lx = some news)
    {q : Nat} (hq : S.obj q = none) (hq1 : 100 ≤ q) (hsum : (rows.length + news.length) * j.bytes ≤ 140737488355328) (h63 : rows.length + news.length ≤ maxLen) :
    OpL P S o { dst := .one (.own q 0 (rows.length + news.length)), reads := refsL l ++ refsL lx, kills := ks, sets := [(q, .arr e j.size (rows ++ news))] } := by
  intro S' h1 h2 h3 C B a w hR hd
  have hX' := (h1 X (by simp [ho, Op.operands, Call.operands])).trans hX
  have hY' := (h1 Y (by simp [ho, Op.operands, Call.operands])).trans hY
  have hq' := (h3 q (by simp)).trans hq
  have hn' : rowsAt S' j.size lx = some news := (rowsAt_reads fun r hr => h2 r (by simp [hr])).trans hn
  have hr' : ownRows S' e j.size l = some (ks, rows) := by
    rw [← hr]
    cases l <;> simp only [ownRows]
    rw [h2 _ (by simp [refsL])]
  have hra : rowsAt S' j.size l = some rows := by
    cases l <;> simp only [ownRows] at hr' <;> simp only [rowsAt]
    case own k off len =>
      split at hr'
      · rename_i E s rows' hk
        split at hr'
        · rename_i hc
          cases hr'
          obtain ⟨rfl, rfl, rfl⟩ := hc
          simp [hk]
        · cases hr'
      · cases hr'
    case g x =>
      split at hr'
      · rename_i hx; cases hr'; simp [hx]
      · cases hr'
    all_goals cases hr'
  have hxr := ev_one hR hX'
  have hyr := ev_one hR hY'
  obtain ⟨os, hos, hosr⟩ := rows_src hR hra hxr
  obtain ⟨ns, hns, hnsr⟩ := rows_src hR hn' hyr
  obtain ⟨ti, hti, hts, htb, z, hz, hzc⟩ := hT.infoAt hj
  have hz1 := hT.one _ _ hj
  obtain ⟨A, c, hv, hlc, hcm, hol, ho1, ho2⟩ := id hos
  obtain ⟨A', c', hv', _, _, hnl, hn1, hn2⟩ := id hns
  have hks : ∀ k ∈ ks, S'.obj k ≠ none := by
    intro k hk
    cases l <;> simp only [ownRows] at hr'
    case own k' off len =>
      split at hr'
      · rename_i E s rows' hk2
        split at hr'
        · cases hr'; simp at hk; subst hk; simp [hk2]
        · cases hr'
      · cases hr'
    case g x =>
      split at hr'
      · cases hr'; simp at hk
      · cases hr'
    all_goals cases hr'
  -- what is known of the place in which the old row lies
  have hplace : c = 0 ∨ ∃ k b n, ks = [k] ∧ B k = some (b, n) ∧ A = some ⟨b, 0, none⟩ ∧ c * j.size ≤ n ∧ ∃ cs, w.heap[b]? = some (.cells cs e (0, 0)) ∧ cs.size = n ∧ ∀ x ∈ cs.toList, x.oneCell' = true := by
    cases l <;> simp only [ownRows] at hr'
    case own k off len =>
      split at hr'
      · rename_i E s rows' hk
        split at hr'
        · rename_i hc
          cases hr'
          obtain ⟨rfl, rfl, rfl⟩ := hc
          obtain ⟨E', sz', rows2, A2, c2, hk2, hlen, hv2, _, _, hpl⟩ := hxr
          rw [hk] at hk2; cases hk2
          rw [hv] at hv2
          injection hv2 with hv3 _ hv4
          subst hv3 hv4
          rcases hpl with h0 | ⟨b, n, hb, hA, hroom⟩
          · exact .inl h0
          · rcases hR.objs k _ hk with ⟨_, hb0⟩ | ⟨b', n', cs, hb', hh, hcn, hone, _, _⟩
            · rw [hb] at hb0; cases hb0
            · rw [hb] at hb'; cases hb'
              exact .inr ⟨k, b, n, rfl, hb, by simpa using hA, by simpa using hroom, cs, hh, hcn, hone⟩
        · cases hr'
      · cases hr'
    case g x =>
      split at hr'
      · rename_i hx
        have : a.eval X = .slice none 0 0 := by rw [← isNilSl_eq hx]; exact repG_eq hxr
        rw [hv] at this
        injection this with _ _ h4
        exact .inl h4
      · cases hr'
    all_goals cases hr'
  obtain ⟨hfit, hgrow⟩ := run_append_cases (P := P) (ty := o.type) (und_sl hT hi hd0) hti hz (by rw [hts]; rw [hv] at hos; exact hos) (by rw [hts]; exact hns) (by rw [htb]; exact hsum) h63
  have hexec : ∀ v w', (Builtin.append_ #[t, t] o.type #[.slice A rows.length c, a.eval Y]).run P w = .ok v w' → (execOp a.eval o).run P w = .ok (.value v) w' := by
    intro v w' h
    simp [execOp, ho, resolve, invoke, builtin, hv, h]
  -- rows of a cell array that begins with the old and the new cells
  have rowsrep : ∀ (D2 : Nat → Prop) (w2 : World) (cs : Array Value), (∀ l v, RepL w (dep C.din S' B) l v → RepL w2 D2 l v) → (∀ y, y < rows.length * j.size → cs[y]? = os[y]?) → (∀ y, y < news.length * j.size → cs[rows.length * j.size + y]? = ns[y]?) →
      RowsRep w2 D2 j.size (rows ++ news) cs := by
    intro D2 w2 cs her hc1 hc2 x r hx
    have hrow : ∀ (xs : List Value) (x : Nat) (r : List Leaf) (L base : Nat), xs.length = L * j.size → x < L → All2 (RepL w (dep C.din S' B)) r ((xs.drop (x * j.size)).take j.size) → (∀ y, y < L * j.size → cs[base + y]? = xs[y]?) →
        All2 (RepL w2 D2) r ((cs.toList.drop (base + x * j.size)).take j.size) := by
      intro xs x r L base hxl hxL ha hcs
      have h6 : (x + 1) * j.size ≤ L * j.size := Nat.mul_le_mul_right _ hxL
      rw [Nat.succ_mul] at h6
      have hlen := ha.length
      have hrl : r.length = j.size := by simp at hlen; omega
      have hsz2 : base + L * j.size ≤ cs.size ∨ L * j.size = 0 := by
        rcases Nat.eq_zero_or_pos (L * j.size) with h | h
        · exact .inr h
        · left
          have := hcs (L * j.size - 1) (by omega)
          rw [List.getElem?_eq_getElem (by omega)] at this
          have := (Array.getElem?_eq_some_iff.1 this).1
          omega
      refine All2.of_get (by simp; omega) fun y l v hy hvy => ?_
      have hyl : y < j.size := by
        rcases Nat.lt_or_ge y j.size with h | h
        · exact h
        · rw [List.getElem?_eq_none (by omega)] at hy; cases hy
      rw [List.getElem?_take, if_pos hyl, List.getElem?_drop] at hvy
      obtain ⟨v2, hv2, hr2⟩ := ha.get y l hy
      rw [List.getElem?_take, if_pos hyl, List.getElem?_drop] at hv2
      have := hcs (x * j.size + y) (by omega)
      rw [hv2, ← Nat.add_assoc] at this
      have hvy' : cs[base + x * j.size + y]? = some v := by simpa using hvy
      rw [hvy'] at this; cases this
      exact her _ _ hr2
    rw [List.getElem?_append] at hx
    split at hx
    · rename_i hlt
      simpa using hrow os x r rows.length 0 hol hlt (hosr x r hx) (fun y hy => by simpa using hc1 y hy)
    · rename_i hge
      have hxn : x - rows.length < news.length := (List.getElem?_eq_some_iff.1 hx).1
      have := hrow ns (x - rows.length) r news.length (rows.length * j.size) hnl hxn (hnsr _ r hx) hc2
      rwa [← Nat.add_mul, show rows.length + (x - rows.length) = x by omega] at this
  have fin : ∀ {v : Value} {w' : World} {p : Option (Nat × Nat)}, (Builtin.append_ #[t, t] o.type #[.slice A rows.length c, a.eval Y]).run P w = .ok v w' →
      (Rel C ((S'.kill ks).sets [(q, .arr e j.size (rows ++ news))]) (B.set q p) a w' ∧ (∀ l v, LRep w C.din S' B l v → LRep w' C.din ((S'.kill ks).sets [(q, .arr e j.size (rows ++ news))]) (B.set q p) (kL ks l) v)) →
      LRep w' C.din ((S'.kill ks).sets [(q, .arr e j.size (rows ++ news))]) (B.set q p) (.own q 0 (rows.length + news.length)) v →
      Good P C S' a w o { dst := .one (.own q 0 (rows.length + news.length)), reads := refsL l ++ refsL lx, kills := ks, sets := [(q, .arr e j.size (rows ++ news))] } := by
    intro v w' p hrun hrel hl
    exact ⟨_, v, w', B.set q p, hexec v w' hrun, .inl rfl, hrel.1.put o.dst _ v hl hd⟩
  have objq : ((S'.kill ks).sets [(q, Ob.arr e j.size (rows ++ news))]).obj q = some (.arr e j.size (rows ++ news)) := by simp [sets_one_obj]
  rcases Nat.lt_or_ge c (rows.length + news.length) with hg | hf
  · -- a new array
    have hcap := grownCap_ge w (rows.length + news.length) c e h63
    generalize hcells : os.toArray ++ ns.toArray ++ Builtin.zeroCells z.cells (grownCap w (rows.length + news.length) c e - (rows.length + news.length)) = cells at hgrow
    have hzs : z.cells.size = j.size := by have := hz1.1; rw [← hzc] at this; simpa using this
    have hcsz : cells.size = grownCap w (rows.length + news.length) c e * j.size := by
      rw [← hcells]
      simp [Builtin.zeroCells, hol, hnl, hzs, ← Nat.add_mul]
      congr 1; omega
    have hget : ∀ y, cells[y]? = if y < rows.length * j.size then os[y]? else if y < rows.length * j.size + news.length * j.size then ns[y - rows.length * j.size]? else (Builtin.zeroCells z.cells (grownCap w (rows.length + news.length) c e - (rows.length + news.length)))[y - (rows.length * j.size + news.length * j.size)]? := by
      intro y
      rw [← hcells, Array.getElem?_append, Array.getElem?_append]
      simp only [Array.size_append, List.size_toArray, hol, hnl, List.getElem?_toArray]
      by_cases hy1 : y < rows.length * j.size
      · rw [if_pos (by omega), if_pos hy1, if_pos hy1]
      · by_cases hy2 : y < rows.length * j.size + news.length * j.size
        · simp only [if_pos hy2, if_neg hy1]
        · simp only [if_neg hy2, if_neg hy1]
    have hone : ∀ x ∈ cells.toList, x.oneCell' = true := by
      intro x hx
      rw [← hcells] at hx
      simp at hx
      rcases hx with hx | hx | hx
      · exact ho1 x hx
      · exact hn1 x hx
      · simp [Builtin.zeroCells] at hx
        obtain ⟨y, hy, rfl⟩ := hx
        have hz0 : 0 < z.cells.size := by
          rcases Nat.eq_zero_or_pos z.cells.size with h | h
          · rw [h] at hy; simp at hy
          · exact h
        have hym : y % z.cells.size < z.cells.size := Nat.mod_lt _ hz0
        rw [getElem!_pos z.cells (y % z.cells.size) hym]
        exact hz1.2 _ (by rw [← hzc]; simp)
    have hrel := Rel.move (w' := w.drew.alloc (.cells cells e)) hR (ks := ks) (ob := .arr e j.size (rows ++ news)) (p := some (w.heap.size, cells.size)) hq' hq1 rfl rfl rfl (by simp) (fun x hx _ => Below.heap_alloc w.drew _ x hx)
      (fun b n hb => by cases hb; exact .inr ⟨Nat.le_refl _, by simp⟩) (fun her => .inr ⟨w.heap.size, cells.size, cells, by simp [Pl.set], heap_alloc_new w.drew _, rfl, hone, by rw [hcsz, List.length_append]; exact Nat.mul_le_mul_right _ hcap.1, ?_⟩)
    · exact fin (hgrow hg) hrel ⟨e, j.size, _, some ⟨w.heap.size, 0, none⟩, grownCap w (rows.length + news.length) c e, objq, by simp, rfl, hcap.1, hcap.2, .inr ⟨w.heap.size, cells.size, by simp [Pl.set], by simp, by rw [hcsz]; simp⟩⟩
    · exact rowsrep _ _ cells her (fun y hy => by rw [hget, if_pos hy]) (fun y hy => by rw [hget, if_neg (by omega), if_pos (by omega), Nat.add_sub_cancel_left])
  · have hrunf := hfit hf
    rcases hplace with h0 | ⟨k, b, n, rfl, hb, hA, hroom, cs, hh, hcn, hone⟩
    · -- nothing at all
      have hrl : rows = [] := List.eq_nil_of_length_eq_zero (by omega)
      have hnl0 : news = [] := List.eq_nil_of_length_eq_zero (by omega)
      subst hrl hnl0
      have hns0 : ns = [] := List.eq_nil_of_length_eq_zero (by simpa using hnl)
      have hrun0 : (Builtin.append_ #[t, t] o.type #[.slice A 0 c, a.eval Y]).run P w = .ok (.slice A 0 c) w := by
        have := hrunf
        subst hns0
        cases A <;> simpa [storeCells] using this
      have hrel := Rel.move (w' := w) hR (ks := ks) (ob := .arr e j.size ([] ++ [])) (p := none) hq' hq1 rfl rfl rfl (Nat.le_refl _) (fun x hx _ => rfl) (fun b n hb => by cases hb) (fun her => .inl ⟨rfl, by simp [Pl.set]⟩)
      exact fin hrun0 hrel ⟨e, j.size, _, A, c, objq, by simp, rfl, by omega, hcm, .inl h0⟩
    · -- in place
      subst hA
      have hsz : rows.length * j.size + news.length * j.size ≤ c * j.size := by rw [← Nat.add_mul]; exact Nat.mul_le_mul_right _ hf
      have hst : (storeCells ⟨b, rows.length * j.size, none⟩ ns).run P w = .ok () (w.setCells b (rows.length * j.size) ns) := by
        have := run_storeCells_cells (P := P) b (rows.length * j.size) ns 0 w (fun y hy => by
          rw [show rows.length * j.size + 0 + y = rows.length * j.size + y from by omega, cell_blk hh]; simp; omega) (fun y hy => frozen_blk hh _) hn1
        simpa using this
      have hrun1 : (Builtin.append_ #[t, t] o.type #[.slice (some ⟨b, 0, none⟩) rows.length c, a.eval Y]).run P w = .ok (.slice (some ⟨b, 0, none⟩) (rows.length + news.length) c) (w.setCells b (rows.length * j.size) ns) := by
        rw [hrunf]
        simp [add_mk, hts, hst]
      obtain ⟨cs', hh', hs', hget⟩ := setCells_heap b e ns (rows.length * j.size) w cs hh
      obtain ⟨e1, e2, e3, e4⟩ := setCells_same b ns (rows.length * j.size) w
      have hrel := Rel.move (w' := w.setCells b (rows.length * j.size) ns) hR (ks := [k]) (ob := .arr e j.size (rows ++ news)) (p := some (b, n)) hq' hq1 e1 e2 e3 (by omega)
        (fun x hx hne => setCells_other b _ _ _ x fun ex => hne k (by simp) n (hks k (by simp)) (by rw [ex]; exact hb))
        (fun b' n' hb' => by cases hb'; exact .inl ⟨k, by simp, n, hks k (by simp), hb⟩)
        (fun her => .inr ⟨b, n, cs', by simp [Pl.set], hh', by omega, ?_, by rw [List.length_append, Nat.add_mul]; omega, ?_⟩)
      · exact fin hrun1 hrel ⟨e, j.size, _, some ⟨b, 0, none⟩, c, objq, by simp, rfl, hf, hcm, .inr ⟨b, n, by simp [Pl.set], by simp, by simpa using hroom⟩⟩
      · intro x hx
        obtain ⟨y, hy⟩ := List.getElem?_of_mem hx
        have hy' : cs'[y]? = some x := by simpa using hy
        rw [hget] at hy'
        split at hy'
        · exact hn1 x (List.mem_of_getElem? hy')
        · exact hone x (List.mem_of_getElem? (i := y) (by simpa using hy'))
      · refine rowsrep _ _ cs' her (fun y hy => ?_) (fun y hy => ?_)
        · rw [hget, if_neg (by omega)]
          rcases ho2 with h0 | ⟨b2, hb2, hcell⟩
          · rw [h0] at hy; simp at hy
          · rw [hv] at hos
            cases hb2
            have hyl : y < os.length := by omega
            have := hcell y os[y] (List.getElem?_eq_getElem hyl)
            rw [add_mk, cell_blk hh] at this
            rw [List.getElem?_eq_getElem hyl]
            simpa using this
        · rw [hget, if_pos (by omega), Nat.add_sub_cancel_left]
end
end Go.Vl

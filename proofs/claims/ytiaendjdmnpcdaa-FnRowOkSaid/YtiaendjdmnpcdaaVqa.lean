/- V-logic, part qa: structs and slices built of parts. -/
import Derived.Test.YtiaendjdmnpcdaaVq
import Derived.Laws.Tables
import Derived.Great.BuildSlice
namespace Go.Vl
open Go Go.RowKit

def fillA (pl : Nat → Option (Nat × Nat)) (cells : List Leaf) : List (Nat × List Leaf) → Option (List Leaf)
  | [] => some cells
  | (i, new) :: rest => match pl i with
    | some (off, sz) => if new.length = sz ∧ off + sz ≤ cells.length then fillA pl (splice off new cells) rest else none
    | none => none

theorem foldl_set (off : Nat) : ∀ (vs : List Value) (k : Nat) (cs : Array Value), off + k + vs.length ≤ cs.size →
    ((vs.zipIdx k).foldl (fun cs (x : Value × Nat) => cs.setIfInBounds (off + x.2) x.1) cs).size = cs.size ∧
    ∀ y, ((vs.zipIdx k).foldl (fun cs (x : Value × Nat) => cs.setIfInBounds (off + x.2) x.1) cs)[y]? = if off + k ≤ y ∧ y < off + k + vs.length then vs[y - (off + k)]? else cs[y]?
  | [], k, cs, _ => by simp; intro y h; omega
  | v :: vs, k, cs, h => by
    simp only [List.length_cons] at h
    have ih := foldl_set off vs (k + 1) (cs.setIfInBounds (off + k) v) (by simp; omega)
    simp only [List.zipIdx_cons, List.foldl_cons]
    refine ⟨by rw [ih.1]; simp, fun y => ?_⟩
    rw [ih.2 y]
    by_cases h1 : y = off + k
    · subst h1
      rw [if_neg (by omega), if_pos (by simp), Nat.sub_self]
      simp [Array.getElem?_setIfInBounds_self]; omega
    · by_cases h2 : off + k ≤ y ∧ y < off + k + (vs.length + 1)
      · rw [if_pos (by omega), if_pos (by simpa using h2)]
        rw [show y - (off + k) = (y - (off + (k + 1))) + 1 by omega, List.getElem?_cons_succ]
      · rw [if_neg (by omega), if_neg (by simpa using h2), Array.getElem?_setIfInBounds_ne (by omega)]

def setAll (off : Nat) (v : Value) (cs : Array Value) : Array Value := v.cells.zipIdx.foldl (fun cs (c, j) => cs.setIfInBounds (off + j) c) cs
theorem setAll_spec {off : Nat} {v : Value} {cs : Array Value} (h : off + v.cells.size ≤ cs.size) : (setAll off v cs).size = cs.size ∧ ∀ y, (setAll off v cs)[y]? = if off ≤ y ∧ y < off + v.cells.size then v.cells[y - off]? else cs[y]? := by
  have hf := foldl_set off v.cells.toList 0 cs (by simp; omega)
  have e1 : setAll off v cs = (v.cells.toList.zipIdx 0).foldl (fun cs (x : Value × Nat) => cs.setIfInBounds (off + x.2) x.1) cs := by
    unfold setAll
    rw [← Array.foldl_toList, Array.toList_zipIdx]
  rw [← e1] at hf
  refine ⟨hf.1, fun y => ?_⟩
  rw [hf.2 y]
  simp
theorem fill_cons {pl : Nat → Option (Nat × Nat)} {cs : Array Value} {i : Nat} {v : Value} {rest : List (Nat × Value)} {off sz : Nat} (hp : pl i = some (off, sz)) (h1 : v.cells.size = sz) (h2 : off + v.cells.size ≤ cs.size) :
    Instr.fill pl cs ((i, v) :: rest) = Instr.fill pl (setAll off v cs) rest := by
  have hc : ¬ (v.cells.size ≠ sz ∨ off + v.cells.size > cs.size) := by omega
  rw [Instr.fill]
  simp only [hp]
  rw [if_neg (by simpa using hc)]
  rfl

theorem fill_rep {R : Leaf → Value → Prop} {pl : Nat → Option (Nat × Nat)} : ∀ {ps : List (Nat × List Leaf)} {vs : List (Nat × Value)} {cells : List Leaf} {cs : Array Value} {out : List Leaf},
    All2 (fun p v => p.1 = v.1 ∧ All2 R p.2 v.2.cells.toList) ps vs → All2 R cells cs.toList → fillA pl cells ps = some out → ∃ os, Instr.fill pl cs vs = some os ∧ All2 R out os.toList ∧ os.size = cs.size
  | [], [], cells, cs, out, _, hc, h => by cases h; exact ⟨cs, rfl, hc, rfl⟩
  | [], _ :: _, _, _, _, hp, _, _ => hp.elim
  | _ :: _, [], _, _, _, hp, _, _ => hp.elim
  | (i, new) :: ps, (j, v) :: vs, cells, cs, out, hp, hc, h => by
    obtain ⟨⟨e, hn⟩, hp⟩ := hp
    simp only at e
    subst e
    unfold fillA at h
    split at h
    · rename_i off sz hpl
      split at h
      · rename_i hk
        obtain ⟨hk1, hk2⟩ := hk
        have hnl : new.length = v.cells.size := by simpa using hn.length
        have hcl : cells.length = cs.size := by simpa using hc.length
        obtain ⟨hf1, hf2⟩ := setAll_spec (off := off) (v := v) (cs := cs) (by omega)
        have hc2 : All2 R (splice off new cells) (setAll off v cs).toList := by
          refine All2.of_get ?_ fun y l x hl hx => ?_
          · rw [splice_length (by omega)]; exact hcl.trans (by simp [hf1])
          · rw [splice_get (by omega)] at hl
            have hx' : (setAll off v cs)[y]? = some x := by simpa using hx
            rw [hf2 y] at hx'
            by_cases hy : off ≤ y ∧ y < off + new.length
            · rw [if_pos hy] at hl
              rw [if_pos (by omega)] at hx'
              obtain ⟨b, hb, hr⟩ := hn.get _ l hl
              have hb' : v.cells[y - off]? = some b := by simpa using hb
              rw [hb'] at hx'
              cases hx'; exact hr
            · rw [if_neg hy] at hl
              rw [if_neg (by omega)] at hx'
              obtain ⟨b, hb, hr⟩ := hc.get _ l hl
              have hb' : cs[y]? = some b := by simpa using hb
              rw [hb'] at hx'
              cases hx'; exact hr
        obtain ⟨os, h1, h2, h3⟩ := fill_rep hp hc2 h
        exact ⟨os, by rw [fill_cons hpl (by omega) (by omega)]; exact h1, h2, by rw [h3, hf1]⟩
      · cases h
    · cases h

section
variable {P : Program} {T : Tab} {S : St} {o : Oper} {B : Pl} {w : World}

/-- Where a struct's fields lie, by the table. -/
def placeA (T : Tab) (fs : List (Nat × TypeId)) (i : Nat) : Option (Nat × Nat) := match fs[i]? with
  | some (off, t) => (T t).map fun j => (off, j.size)
  | none => none

def partsA (S : St) : List (Nat × Operand) → Option (List (Nat × List Leaf))
  | [] => some []
  | (i, x) :: l => match leaves (ev S x), partsA S l with
    | some ls, some r => some ((i, ls) :: r)
    | _, _ => none

theorem partsA_rep {C : Ctx} {a : Act} (hR : Rel C S B a w) : ∀ {ps : List (Nat × Operand)} {out : List (Nat × List Leaf)}, partsA S ps = some out →
    All2 (fun p (v : Nat × Value) => p.1 = v.1 ∧ All2 (LRep w C.din S B) p.2 v.2.cells.toList) out (ps.map fun (i, x) => (i, a.eval x))
  | [], out, h => by cases h; trivial
  | (i, x) :: ps, out, h => by
    unfold partsA at h
    split at h
    · rename_i ls r h1 h2
      cases h
      exact ⟨⟨rfl, (leaves_rep h1 (ev_rep hR x)).1⟩, partsA_rep hR h2⟩
    · cases h
theorem partsA_congr {S' : St} : ∀ {ps : List (Nat × Operand)}, (∀ p ∈ ps, ev S' p.2 = ev S p.2) → partsA S' ps = partsA S ps
  | [], _ => rfl
  | (i, x) :: ps, h => by
    unfold partsA
    rw [h (i, x) (by simp), partsA_congr fun p hp => h p (by simp [hp])]

theorem all_info (hT : TabOk P T) : ∀ {fs : List (Nat × TypeId)} {fl : List Field} , fl.map (fun f => (f.offset, f.type)) = fs → fs.all (fun p => (T p.2).isSome) = true →
    fl.mapM (fun f => (P.info? f.type).map fun i => (f.offset, i.size)) = some (fs.map fun p => (p.1, ((T p.2).map (·.size)).getD 0))
  | _, [], h, _ => by subst h; rfl
  | _, f :: fl, h, ha => by
    subst h
    simp only [List.map_cons, List.all_cons, Bool.and_eq_true] at ha
    obtain ⟨i, hi⟩ := Option.isSome_iff_exists.1 ha.1
    obtain ⟨x, hx, hs, _⟩ := hT.infoAt hi
    have ih := all_info hT (fs := fl.map fun f => (f.offset, f.type)) rfl ha.2
    simp [List.mapM_cons, hx, ih, hi, hs]

theorem o_build (hT : TabOk P T) {t : TypeId} {parts : Array (Nat × Operand)} (ho : o.op = .build t parts) {i : TI} (hi : T t = some i) {fs : List (Nat × TypeId)} (hd0 : i.d = .st fs) (hfs : fs.all (fun p => (T p.2).isSome) = true) {ps : List (Nat × List Leaf)} (hp : partsA S parts.toList = some ps)
    {out : List Leaf} (hf : fillA (placeA T fs) (i.zero.map .g) ps = some out) : OpL P S o { dst := .agg out } := by
  intro S' h1 h2 h3 C B a w hR hd
  have hp' : partsA S' parts.toList = some ps := by
    rw [← hp]
    exact partsA_congr fun p hp => h1 p.2 (by simp [ho, Op.operands]; exact ⟨p.1, by simpa using hp⟩)
  obtain ⟨fields, hu, hm⟩ := und_st hT hi hd0
  obtain ⟨x, hx, _, _, z, hz, hzc⟩ := hT.infoAt hi
  have hz1 := (hT.one _ _ hi).2
  have hcells : All2 (LRep w C.din S' B) (i.zero.map .g) z.cells.toList := by rw [hzc]; exact all2_g _ (List.all_eq_true.2 hz1)
  obtain ⟨os, ho1, ho2, _⟩ := fill_rep (partsA_rep hR hp') hcells hf
  have hb : P.built t (parts.map fun (i, x) => (i, a.eval x)).toList = some os := by
    unfold Program.built
    simp only [hx, hu, hz, all_info hT hm hfs]
    rw [← ho1]
    congr 1
    · funext k
      simp only [placeA]
      rw [List.getElem?_toArray, List.getElem?_map]
      cases hk : fs[k]? with
      | none => rfl
      | some p =>
        have := List.all_eq_true.1 hfs p (List.mem_of_getElem? hk)
        obtain ⟨j, hj⟩ := Option.isSome_iff_exists.1 this
        simp [hj]
    · simp
  exact good_val hR (rd := []) (p := True) hd (v := .agg os) (by simp only [execOp, ho, Sem.run_bind, run_build w t _ os hb, Result.andThen_ok]; rfl) ⟨os, rfl, ho2⟩

/-- The rows of a slice built of parts: every part in its place, in order. -/
def rowsOf (sz : Nat) : List (Nat × List Leaf) → Nat → Option (List (List Leaf))
  | [], _ => some []
  | (i, ls) :: l, k => if i = k ∧ ls.length = sz ∧ plain ls = true then (rowsOf sz l (k + 1)).map (ls :: ·) else none

theorem fill_rows {R : Leaf → Value → Prop} {sz : Nat} : ∀ {ps : List (Nat × List Leaf)} {vs : List (Nat × Value)} {k : Nat} {cs : Array Value} {rows : List (List Leaf)},
    All2 (fun p (v : Nat × Value) => p.1 = v.1 ∧ All2 R p.2 v.2.cells.toList) ps vs → rowsOf sz ps k = some rows → (k + ps.length) * sz ≤ cs.size →
      ∃ os, Instr.fill (fun i => some (i * sz, sz)) cs vs = some os ∧ os.size = cs.size ∧ (∀ y, y < k * sz → os[y]? = cs[y]?) ∧ (∀ y, (k + ps.length) * sz ≤ y → os[y]? = cs[y]?) ∧ ∀ i r, rows[i]? = some r → All2 R r ((os.toList.drop ((k + i) * sz)).take sz)
  | [], [], k, cs, rows, _, h, _ => by cases h; exact ⟨cs, rfl, rfl, fun _ _ => rfl, fun _ _ => rfl, fun i r h => by simp at h⟩
  | [], _ :: _, _, _, _, hp, _, _ => hp.elim
  | _ :: _, [], _, _, _, hp, _, _ => hp.elim
  | (i, ls) :: ps, (j, v) :: vs, k, cs, rows, hp, h, hsz => by
    obtain ⟨⟨e, hn⟩, hp⟩ := hp
    simp only at e
    subst e
    unfold rowsOf at h
    split at h
    · rename_i hk
      obtain ⟨rfl, hls, hpl⟩ := hk
      simp only [Option.map_eq_some_iff] at h
      obtain ⟨rows', hr', rfl⟩ := h
      have hnl : ls.length = v.cells.size := by simpa using hn.length
      simp only [List.length_cons] at hsz
      have e0 : (i + (ps.length + 1)) * sz = i * sz + sz + ps.length * sz := by rw [Nat.add_mul, Nat.add_mul]; omega
      obtain ⟨hf1, hf2⟩ := setAll_spec (off := i * sz) (v := v) (cs := cs) (by omega)
      have e2 : (i + 1 + ps.length) * sz = i * sz + sz + ps.length * sz := by rw [Nat.add_mul, Nat.add_mul]; omega
      obtain ⟨os, h1, h2, h3, h4, h5⟩ := fill_rows (cs := setAll (i * sz) v cs) hp hr' (by rw [hf1]; omega)
      rw [Nat.succ_mul] at h3
      refine ⟨os, ?_, by rw [h2, hf1], fun y hy => ?_, fun y hy => ?_, fun x r hx => ?_⟩
      · rw [fill_cons (off := i * sz) (sz := sz) rfl (by omega) (by omega)]; exact h1
      · rw [h3 y (by omega), hf2 y, if_neg (by omega)]
      · simp only [List.length_cons] at hy
        rw [h4 y (by omega), hf2 y, if_neg (by omega)]
      · cases x with
        | zero =>
          simp at hx; subst hx
          refine All2.of_get ?_ fun y l u hl hu => ?_
          · have e3 : os.toList.length = cs.size := by rw [Array.length_toList, h2, hf1]
            rw [List.length_take, List.length_drop, e3, Nat.add_zero]; show ls.length = _; omega
          · have hyl : y < sz := by
              rcases Nat.lt_or_ge y sz with h | h
              · exact h
              · rw [List.getElem?_eq_none (by omega)] at hl; cases hl
            rw [List.getElem?_take, if_pos hyl, List.getElem?_drop, Nat.add_zero] at hu
            have hu' : os[i * sz + y]? = some u := by simpa using hu
            rw [h3 _ (by omega), hf2 _, if_pos (by omega), Nat.add_sub_cancel_left] at hu'
            obtain ⟨b, hb, hr⟩ := hn.get y l hl
            have hb' : v.cells[y]? = some b := by simpa using hb
            rw [hb'] at hu'; cases hu'; exact hr
        | succ x =>
          have := h5 x r (by simpa using hx)
          rwa [show i + 1 + x = i + (x + 1) by omega] at this
    · cases h

theorem rowsOf_plain {sz : Nat} : ∀ {ps : List (Nat × List Leaf)} {k : Nat} {rows : List (List Leaf)}, rowsOf sz ps k = some rows → rows.length = ps.length ∧ ∀ r ∈ rows, plain r = true ∧ r.length = sz
  | [], k, rows, h => by cases h; simp
  | (i, ls) :: ps, k, rows, h => by
    unfold rowsOf at h
    split at h
    · rename_i hk
      simp only [Option.map_eq_some_iff] at h
      obtain ⟨rows', hr', rfl⟩ := h
      obtain ⟨h1, h2⟩ := rowsOf_plain hr'
      refine ⟨by simp [h1], fun r hr => ?_⟩
      rcases List.mem_cons.1 hr with rfl | hr
      · exact ⟨hk.2.2, hk.2.1⟩
      · exact h2 r hr
    · cases h

theorem o_buildSlice (hT : TabOk P T) {t e : TypeId} {len : Nat} {parts : Array (Nat × Operand)} (ho : o.op = .buildSlice t len parts) {i j : TI} (hi : T t = some i) (hd0 : i.d = .sl e) (hj : T e = some j) {ps : List (Nat × List Leaf)} (hp : partsA S parts.toList = some ps)
    {rows : List (List Leaf)} (hr : rowsOf j.size ps 0 = some rows) (hl : ps.length = len) (h24 : len * j.size ≤ 16777216) (hj0 : 0 < j.size) {q : Nat} (hq : S.obj q = none) (hq1 : 100 ≤ q) :
    OpL P S o { dst := .one (.own q 0 len), sets := [(q, .arr e j.size rows)] } := by
  intro S' h1 h2 h3 C B a w hR hd
  have hp' : partsA S' parts.toList = some ps := by
    rw [← hp]
    exact partsA_congr fun p hp => h1 p.2 (by simp [ho, Op.operands]; exact ⟨p.1, by simpa using hp⟩)
  have hu := und_sl hT hi hd0
  obtain ⟨x, hx, hxs, _, z, hz, hzc⟩ := hT.infoAt hj
  have hz1 := (hT.one _ _ hj)
  have h63 : len ≤ maxLen := by
    have : len * 1 ≤ len * j.size := Nat.mul_le_mul_left _ hj0
    unfold maxLen; omega
  obtain ⟨hrl, hrp⟩ := rowsOf_plain hr
  have prep := partsA_rep hR hp'
  -- the cells at first: zeros
  generalize hcs0 : (Array.range (len * x.size)).map (fun n => (z.cells)[n % z.cells.size]!) = cs0
  have hcs0s : cs0.size = len * j.size := by rw [← hcs0]; simp [hxs]
  obtain ⟨os, f1, f2, _, _, f5⟩ := fill_rows (cs := cs0) prep hr (by rw [hcs0s, hl]; simp)
  have hrun : (Instr.buildSlice t len (parts.map fun (i, x) => (i, a.eval x))).run P w = .ok (.slice (some ⟨w.heap.size, 0, none⟩) len len) (w.alloc (.cells os e)) := by
    have f1' : Instr.fill (fun i => some (i * x.size, x.size)) cs0 (parts.map fun (i, x) => (i, a.eval x)).toList = some os := by rw [hxs]; simpa using f1
    by_cases hpos : len * x.size = 0
    · have hl0 : len = 0 := by
        rcases Nat.mul_eq_zero.1 hpos with h | h
        · exact h
        · omega
      subst hl0
      have hps : ps = [] := List.eq_nil_of_length_eq_zero hl
      subst hps
      have hpl : parts.toList = [] := by
        cases hq : parts.toList with
        | nil => rfl
        | cons y l =>
          rw [hq] at hp'
          unfold partsA at hp'
          split at hp' <;> cases hp'
      have hpa : parts = #[] := by simpa using hpl
      subst hpa
      have : cs0 = #[] := Array.eq_empty_of_size_eq_zero (by rw [hcs0s]; simp)
      subst this
      simp [Instr.fill] at f1'
      subst f1'
      simp [Instr.buildSlice, run_underlying hu, sizeOf, typeInfo, hx, newRow, Instr.fill, Array.range_zero']
    · exact run_buildSlice w t e len _ os x z hu hx hz (by rw [hxs]; omega) hpos (by rw [hcs0]; exact f1')
  have hcov : ∀ y, y < os.size → ∃ r l, r ∈ rows ∧ l ∈ r ∧ ∃ v, os[y]? = some v ∧ LRep w C.din S' B l v := by
    intro y hy
    rw [f2, hcs0s] at hy
    have hil : y / j.size < rows.length := by rw [hrl, hl]; exact Nat.div_lt_of_lt_mul (by rw [Nat.mul_comm]; exact hy)
    have hm : y % j.size < j.size := Nat.mod_lt _ hj0
    have h6 := f5 (y / j.size) _ (List.getElem?_eq_getElem hil)
    have hrs := (hrp _ (List.getElem_mem hil)).2
    obtain ⟨v, hv, hlr⟩ := h6.get (y % j.size) _ (List.getElem?_eq_getElem (by omega))
    rw [List.getElem?_take, if_pos hm, List.getElem?_drop, Nat.zero_add, Nat.mul_comm, Nat.div_add_mod] at hv
    exact ⟨_, _, List.getElem_mem hil, List.getElem_mem _, v, by simpa using hv, hlr⟩
  refine good_new (n := os.size) hR (.cells os e) ((h3 q (by simp)).trans hq) hq1 hd (v := .slice (some ⟨w.heap.size, 0, none⟩) len len) (by simp only [execOp, ho, Sem.run_bind, hrun, Result.andThen_ok]; rfl) (fun hl' hr' => ?_) ?_
  · refine .inr ⟨w.heap.size, _, os, set_same _ _ _, heap_alloc_new w _, rfl, fun c hc => ?_, by rw [f2, hcs0s, hrl, hl]; exact Nat.le_refl _, fun y r hy => ?_⟩
    · obtain ⟨y, hy⟩ := List.getElem?_of_mem hc
      have hy' : os[y]? = some c := by simpa using hy
      obtain ⟨r, l, _, _, v, hv, hlr⟩ := hcov y (Array.getElem?_eq_some_iff.1 hy').1
      rw [hy'] at hv; cases hv
      exact hlr.oneCell
    · have := f5 y r hy
      rw [Nat.zero_add] at this
      exact (plain_rep (fun _ _ h => h) (hrp r (List.mem_of_getElem? hy)).1 this).mono hr'
  · refine ⟨e, j.size, rows, _, len, by simp [sets_one_obj], by rw [hrl, hl]; omega, rfl, Nat.le_refl _, h63, .inr ⟨w.heap.size, os.size, set_same _ _ _, by simp, by rw [f2, hcs0s]; simp⟩⟩
end
end Go.Vl

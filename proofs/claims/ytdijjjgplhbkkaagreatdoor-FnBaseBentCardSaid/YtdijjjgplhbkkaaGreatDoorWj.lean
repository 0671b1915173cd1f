/- V-logic, part yk: maps whose keys are flat structs: made, looked up, written, counted. -/
import Derived.Test.YtdijjjgplhbkkaaGreatDoorWi
import Derived.MapKept
import Derived.WideKeyRuns
set_option linter.unusedSimpArgs false
set_option linter.unusedVariables false
set_option linter.unnecessarySimpa false
namespace Go.Vl
open Go Go.RowKit
def plainTD : TD → Bool
  | .int _ => true
  | .bool => true
  | .str => true
  | _ => false
def flatKey (T : Tab) (fs : List (Nat × TypeId)) (n : Nat) : Bool := fs.all fun p => match T p.2 with
  | some j => plainTD j.d && decide (p.1 < n)
  | none => false
def mIdx {α β : Type} (eqb : α → α → Bool) (x : α) : List (α × β) → Nat → Option (Nat × β)
  | [], _ => none
  | (k, v) :: l, n => if eqb x k then some (n, v) else mIdx eqb x l (n + 1)
def mGet {α β : Type} (eqb : α → α → Bool) (x : α) : List (α × β) → Option β
  | [] => none
  | (k, v) :: l => if eqb x k then some v else mGet eqb x l
def mPut {α β : Type} (eqb : α → α → Bool) (x : α) (v : β) : List (α × β) → List (α × β)
  | [] => [(x, v)]
  | (k, u) :: l => if eqb x k then (k, v) :: l else (k, u) :: mPut eqb x v l
theorem mIdx_get {α β : Type} {eqb : α → α → Bool} {x : α} : ∀ {l : List (α × β)} {n : Nat}, (mIdx eqb x l n).map (·.2) = mGet eqb x l
  | [], n => rfl
  | (k, v) :: l, n => by
    unfold mIdx mGet
    split
    · rfl
    · exact mIdx_get
theorem mIdx_none {α β : Type} {eqb : α → α → Bool} {x : α} {v : β} : ∀ {l : List (α × β)} {n : Nat}, mIdx eqb x l n = none → mPut eqb x v l = l ++ [(x, v)]
  | [], n, _ => rfl
  | (k, u) :: l, n, h => by
    unfold mIdx at h
    split at h
    · cases h
    · rename_i hk
      unfold mPut
      rw [if_neg hk, mIdx_none h]; rfl
theorem mIdx_some {α β : Type} {eqb : α → α → Bool} {x : α} {v : β} : ∀ {l : List (α × β)} {n j : Nat} {u : β}, mIdx eqb x l n = some (j, u) → ∃ i k, j = n + i ∧ l[i]? = some (k, u) ∧ eqb x k = true ∧ mPut eqb x v l = l.set i (k, v)
  | [], n, j, u, h => by cases h
  | (k, u') :: l, n, j, u, h => by
    unfold mIdx at h
    split at h
    · rename_i hk
      cases h
      exact ⟨0, k, rfl, rfl, hk, by unfold mPut; rw [if_pos hk]; rfl⟩
    · rename_i hk
      obtain ⟨i, k', h1, h2, h3, h4⟩ := mIdx_some (v := v) h
      exact ⟨i + 1, k', by omega, by simpa using h2, h3, by unfold mPut; rw [if_neg hk, h4]; rfl⟩
def keyV (xs : List Value) : Value := .agg xs.toArray
def entV {α β : Type} (g : α → List Value) (h : β → Value) (p : α × β) : Value × Value := (keyV (g p.1), h p.2)
theorem all2_g_eq {w : World} {D : Nat → Prop} {S : St} {B : Pl} : ∀ {xs vs : List Value}, All2 (LRep w D S B) (xs.map .g) vs → vs = xs
  | [], [], _ => rfl
  | x :: xs, v :: vs, h => by
    have h1 : RepL w (dep D S B) (.g x) v := h.1
    rw [RepL.eq_1] at h1
    rw [h1.1, all2_g_eq h.2]
  | [], _ :: _, h => h.elim
  | _ :: _, [], h => h.elim
def plainV : Value → Bool
  | .int _ _ => true
  | .bool _ => true
  | .string _ => true
  | _ => false
theorem sameBits_plain {v : Value} (h : plainV v = true) (n : Nat) : Instr.sameBits n v v = true := by
  cases v <;> simp [plainV] at h <;> simp [Instr.sameBits, MapKept.bytes_beq]
theorem sameBits_agg {xs : List Value} (h : xs.all plainV = true) : Instr.sameBits 10000 (keyV xs) (keyV xs) = true := by
  unfold keyV
  rw [show 10000 = 9999 + 1 from rfl, Instr.sameBits]
  simp only [beq_self_eq_true, Bool.true_and]
  rw [List.all_eq_true] at h ⊢
  intro p hp
  obtain ⟨i, hi⟩ := List.getElem?_of_mem hp
  rw [List.getElem?_zip_eq_some] at hi
  obtain ⟨h1, h2⟩ := hi
  rw [h1] at h2
  have e := Option.some.inj h2
  obtain ⟨a, b⟩ := p
  simp only at e h1 ⊢
  subst e
  exact sameBits_plain (h _ (List.mem_of_getElem? h1)) _
section
variable {P : Program} {T : Tab} {S : St} {o : Oper} {C : Ctx} {B : Pl} {a : Act} {w w' : World}
theorem run_check_flat (hT : TabOk P T) {t : TypeId} {i : TI} (hi : T t = some i) {fs : List (Nat × TypeId)} (hf : i.eqf = some fs) (vs : List Value) (h : flatKey T fs vs.length = true) (em : Bool) (w : World) : (Instr.checkKey em 10000 t (keyV vs)).run P w = .ok () w := by
  obtain ⟨q1, _, _, q4⟩ := hT.eqs t i fs hi hf
  unfold keyV
  rw [show 10000 = 9999 + 1 from rfl, Instr.checkKey]
  simp only [Sem.run_bind, run_underlying q1, Result.andThen_ok]
  rw [← Array.forIn_toList]
  generalize (P.fieldsOf t).toList = L at q4
  clear q1 hf
  induction L generalizing fs with
  | nil => simp
  | cons f L ih =>
    cases fs with
    | nil => simp at q4
    | cons p fs =>
      simp only [List.map_cons, List.cons.injEq, Prod.mk.injEq] at q4
      obtain ⟨⟨hn, ho, ht⟩, q4⟩ := q4
      simp only [flatKey, List.all_cons, Bool.and_eq_true] at h
      obtain ⟨h1, h2⟩ := h
      have hname : f.name ≠ "_" := by simpa using hn
      cases hj : T p.2 with
      | none => rw [hj] at h1; cases h1
      | some j =>
        rw [hj] at h1
        simp only [Bool.and_eq_true, decide_eq_true_eq] at h1
        obtain ⟨h3, h4⟩ := h1
        have hagg : j.d.isAgg = false := by cases hd : j.d <;> simp [hd, plainTD] at h3 <;> rfl
        have p1 : (part f.type vs.toArray f.offset).run P w = .ok vs[p.1] w := by
          rw [ht, ho]; simp [part, hT.isAgg hj, hagg, h4]
        have p2 : (Instr.checkKey em 9999 f.type vs[p.1]).run P w = .ok () w := by
          rw [ht, show 9999 = 9998 + 1 from rfl, Instr.checkKey]
          cases hd : j.d <;> simp [hd, plainTD] at h3
          · simp [run_underlying (und_int hT hj hd)]
          · simp [run_underlying (und_bool hT hj hd)]
          · simp [run_underlying (und_str hT hj hd)]
        simp only [List.forIn_cons, Sem.run_bind, hname, ne_eq, not_false_eq_true, if_true, Result.andThen_ok, p1, p2, Sem.run_pure]
        exact ih h2 q4
theorem run_eqKey (hT : TabOk P T) {t : TypeId} {i : TI} (hi : T t = some i) {fs : List (Nat × TypeId)} (hf : i.eqf = some fs) {xs ys : List Value} {b : Bool} (hb : flatEq T 64 (xs.map .g) (ys.map .g) fs = some b) (w : World) :
    (Op.equal t (keyV xs) (keyV ys)).run P w = .ok b w := by
  obtain ⟨q1, q2, _, q4⟩ := hT.eqs t i fs hi hf
  unfold Op.equal Op.maxDepth keyV
  rw [run_equalIn_struct w 9999 t _ _ q1 q2]
  have self : ∀ l : List Value, All2 (fun (x : Leaf) (v : Value) => x = .g v) (l.map .g) l := by
    intro l
    induction l with
    | nil => trivial
    | cons x l ih => exact ⟨rfl, ih⟩
  exact run_flatEq hT (R := fun x v => x = .g v) (fun x v h => by cases h; rfl) w 64 fs _ 9998 (by omega) (self xs) (self ys) q4 hb
theorem run_find (hT : TabOk P T) {t : TypeId} {i : TI} (hi : T t = some i) {fs : List (Nat × TypeId)} (hf : i.eqf = some fs) {α β : Type} {g : α → List Value} {h : β → Value} {eqb : α → α → Bool} (heq : ∀ x y, flatEq T 64 ((g x).map .g) ((g y).map .g) fs = some (eqb x y)) (x : α) (w : World) :
    ∀ (es : List MapEntry) (l : List (α × β)) (n : Nat), es.map (fun e => (e.key, e.val)) = l.map (entV g h) → (Instr.findAsking t (keyV (g x)) es n).run P w = .ok ((mIdx eqb x l n).map fun p => (p.1, h p.2)) w
  | [], [], n, _ => by simp [Instr.findAsking, mIdx]
  | [], _ :: _, n, he => by simp at he
  | _ :: _, [], n, he => by simp at he
  | e :: es, p :: l, n, he => by
    simp only [List.map_cons, List.cons.injEq, entV, Prod.mk.injEq] at he
    obtain ⟨⟨e1, e2⟩, he⟩ := he
    have ih := run_find hT hi hf heq x w es l (n + 1) he
    have hk := run_eqKey hT hi hf (heq x p.1) w
    obtain ⟨k, v⟩ := p
    simp only [Instr.findAsking, Sem.run_bind, e1, hk, Result.andThen_ok, mIdx]
    cases eqb x k
    · simpa using ih
    · simp [e2]
theorem o_mkmap {t : TypeId} (ho : o.op = .makeMap t none) {q : Nat} (hq : S.obj q = none) (hq1 : 100 ≤ q) : OpL P S o { dst := .one (.mp q), sets := [(q, .map [])] } := by
  intro S' h1 h2 h3 C B a w hR hd
  refine good_new (n := 0) hR (.map #[] 0) ((h3 q (by simp)).trans hq) hq1 hd (v := .map (some w.heap.size)) (by simp [execOp, ho, Instr.makeMap]) (fun hl' hr' => ?_) ?_
  · exact ⟨w.heap.size, 0, #[], 0, set_same _ _ _, heap_alloc_new w _, rfl⟩
  · exact ⟨w.heap.size, 0, [], by simp [sets_one_obj], set_same _ _ _, rfl⟩
theorem o_lookup (hT : TabOk P T) {t kt et : TypeId} {X K : Operand} (ho : o.op = .lookup t X K false) {i ik : TI} (hi : T t = some i) (hd0 : i.d = .map kt et) (hik : T kt = some ik) {fs : List (Nat × TypeId)} (hf : ik.eqf = some fs)
    {z : Value} (hz : (P.info? et).bind (·.zero) = some z) (hz1 : z.oneCell' = true) {α β : Type} {g : α → List Value} {h : β → Value} {eqb : α → α → Bool} (heq : ∀ x y, flatEq T 64 ((g x).map .g) ((g y).map .g) fs = some (eqb x y)) (h1c : ∀ v, (h v).oneCell' = true)
    {q : Nat} {l : List (α × β)} {x : α} (hX : ev S X = .one (.mp q)) (hq : S.obj q = some (.map (l.map (entV g h)))) (hK : ev S K = .agg ((g x).map .g)) (hfl : flatKey T fs (g x).length = true) {r : Value} (hr : r = ((mGet eqb x l).map h).getD z) :
    OpL P S o { dst := .one (.g r), reads := [q] } := by
  intro S' h1 h2 h3 C B a w hR hd
  have hX' := (h1 X (by simp [ho, Op.operands])).trans hX
  have hK' := (h1 K (by simp [ho, Op.operands])).trans hK
  have hq' := (h2 q (by simp)).trans hq
  obtain ⟨b, m, es1, hq1, hb, hv⟩ := ev_one hR hX'
  obtain ⟨b2, m2, ens, clock, hb2, hh, hes⟩ := hR.objs q _ hq'
  rw [hb] at hb2; cases hb2
  obtain ⟨vs, hkv, hvs⟩ := ev_agg hR hK'
  have hke : a.eval K = keyV (g x) := by rw [hkv]; unfold keyV; rw [← all2_g_eq hvs]
  have hc := run_check_flat hT hik hf (g x) hfl ens.isEmpty w
  have hfind := run_find hT hik hf heq x w ens.toList l 0 hes
  have hkey : (Instr.findKey kt (keyV (g x)) ens.toList).run P w = .ok ((mIdx eqb x l 0).map fun p => (p.1, h p.2)) w := by
    rw [run_findKey_eq w (by rw [(hT.eqs kt ik fs hik hf).1]) _ _]; exact hfind
  have hzero : (zeroValue et).run P w = .ok z w := by
    obtain ⟨inf, h5, h6⟩ := Option.bind_eq_some_iff.1 hz
    simp [zeroValue, typeInfo, h5, h6]
  have hg := mIdx_get (eqb := eqb) (x := x) (l := l) (n := 0)
  have hrun : (Instr.lookup t (.map (some b)) (keyV (g x)) false).run P w = .ok r w := by
    cases hm : mIdx eqb x l 0 with
    | none =>
      rw [hm] at hkey hg
      have hr2 : r = z := by rw [hr, ← hg]; rfl
      simp [Instr.lookup, run_underlying (und_map hT hi hd0), MapKept.run_getObj_map hh, hc, hkey, hzero, hr2]
    | some p =>
      rw [hm] at hkey hg
      have hr2 : r = h p.2 := by rw [hr, ← hg]; rfl
      simp [Instr.lookup, run_underlying (und_map hT hi hd0), MapKept.run_getObj_map hh, hc, hkey, hr2]
  have hro : r.oneCell' = true := by
    rw [hr]
    cases mGet eqb x l with
    | none => exact hz1
    | some v => exact h1c v
  refine good_val hR (rd := [q]) (p := True) hd (v := r) (by simp [execOp, ho, hv, hke, hrun]) (srepG hro)
theorem entV_set {α β : Type} {g : α → List Value} {h : β → Value} {l : List (α × β)} {i : Nat} {p : α × β} : (l.set i p).map (entV g h) = (l.map (entV g h)).set i (entV g h p) := List.map_set ..
theorem o_mapupd (hT : TabOk P T) {t kt et : TypeId} {X K V : Operand} (ho : o.op = .mapUpdate t X K V ∨ o.op = .insert t X K V) (hd1 : o.dst = none) {i ik : TI} (hi : T t = some i) (hd0 : i.d = .map kt et) (hik : T kt = some ik) {fs : List (Nat × TypeId)} (hf : ik.eqf = some fs)
    {α β : Type} {g : α → List Value} {h : β → Value} {eqb : α → α → Bool} (heq : ∀ x y, flatEq T 64 ((g x).map .g) ((g y).map .g) fs = some (eqb x y)) (hlaw : ∀ x y, eqb x y = true → g x = g y)
    {q : Nat} {l : List (α × β)} {x : α} {v : β} (hX : ev S X = .one (.mp q)) (hq : S.obj q = some (.map (l.map (entV g h)))) (hK : ev S K = .agg ((g x).map .g)) (hV : ev S V = .one (.g (h v))) (hfl : flatKey T fs (g x).length = true) (hpl : (g x).all plainV = true) :
    OpL P S o { reads := [q], sets := [(q, .map ((mPut eqb x v l).map (entV g h)))] } := by
  intro S' h1 h2 h3 C B a w hR hd
  have mem : X ∈ o.op.operands ∧ K ∈ o.op.operands ∧ V ∈ o.op.operands := by rcases ho with ho | ho <;> simp [ho, Op.operands]
  have hX' := (h1 X mem.1).trans hX
  have hK' := (h1 K mem.2.1).trans hK
  have hV' := (h1 V mem.2.2).trans hV
  have hq' := (h2 q (by simp)).trans hq
  have hval := ev_g hR hV'
  obtain ⟨b, m, es1, hq1, hb, hv⟩ := ev_one hR hX'
  obtain ⟨b2, m2, ens, clock, hb2, hh, hes⟩ := hR.objs q _ hq'
  rw [hb] at hb2; cases hb2
  obtain ⟨vs, hkv, hvs⟩ := ev_agg hR hK'
  have hke : a.eval K = keyV (g x) := by rw [hkv]; unfold keyV; rw [← all2_g_eq hvs]
  have hc := run_check_flat hT hik hf (g x) hfl false w
  have hfind := run_find hT hik hf heq x w ens.toList l 0 hes
  have hkey : (Instr.findKey kt (keyV (g x)) ens.toList).run P w = .ok ((mIdx eqb x l 0).map fun p => (p.1, h p.2)) w := by
    rw [run_findKey_eq w (by rw [(hT.eqs kt ik fs hik hf).1]) _ _]; exact hfind
  have hbl : b < w.heap.size := lt_of_get hh
  have hrun : ∃ ens' clock', (Instr.mapUpdate t (.map (some b)) (keyV (g x)) (h v)).run P w = .ok () { w with heap := w.heap.setIfInBounds b (.map ens' clock') } ∧ ens'.toList.map (fun e => (e.key, e.val)) = (mPut eqb x v l).map (entV g h) := by
    cases hm : mIdx eqb x l 0 with
    | none =>
      rw [hm] at hkey
      refine ⟨ens.push { key := keyV (g x), val := h v, born := clock }, clock + 1, ?_, ?_⟩
      · simp [Instr.mapUpdate, run_underlying (und_map hT hi hd0), MapKept.run_getObj_map hh, hc, hkey, MapKept.run_setObj_map _ hh]
      · rw [mIdx_none hm]; simp [hes, entV]
    | some p =>
      obtain ⟨j, u⟩ := p
      rw [hm] at hkey
      obtain ⟨i', k, h5, h6, h7, h8⟩ := mIdx_some (v := v) hm
      have h5 : j = i' := by omega
      subst h5
      have hlk : (ens.toList.map (fun e => (e.key, e.val)))[j]? = some (keyV (g k), h u) := by rw [hes, List.getElem?_map, h6]; rfl
      rw [List.getElem?_map] at hlk
      obtain ⟨e0, he0, he1⟩ := Option.map_eq_some_iff.1 hlk
      have he0' : ens[j]? = some e0 := by simpa using he0
      simp only [Prod.mk.injEq] at he1
      have hgk : g k = g x := (hlaw x k h7).symm
      have hkeep : (Instr.keyThatStays e0.key (keyV (g x))).run P w = .ok (keyV (g x)) w := by
        rw [he1.1, hgk]
        simp [Instr.keyThatStays, sameBits_agg hpl]
      refine ⟨ens.modify j fun e => { e with key := keyV (g x), val := h v }, clock, ?_, ?_⟩
      · simp [Instr.mapUpdate, run_underlying (und_map hT hi hd0), MapKept.run_getObj_map hh, hc, hkey, he0', hkeep, MapKept.run_setObj_map _ hh]
      · rw [h8, entV_set, ← hes]
        refine List.ext_getElem? fun y => ?_
        rw [List.getElem?_map, List.getElem?_set, List.getElem?_map]
        simp only [Array.getElem?_toList, Array.getElem?_modify, List.length_map]
        by_cases hy : j = y
        · subst hy
          have hjl : j < ens.toList.length := (List.getElem?_eq_some_iff.1 he0).1
          rw [if_pos rfl, if_pos rfl, if_pos hjl, he0']
          simp [entV, hgk]
        · rw [if_neg hy, if_neg hy]
  obtain ⟨ens', clock', hrun, hes'⟩ := hrun
  have hh' : ({ w with heap := w.heap.setIfInBounds b (.map ens' clock') } : World).heap[b]? = some (.map ens' clock') := by simp [hbl]
  have hrel := hR.turn (w' := { w with heap := w.heap.setIfInBounds b (.map ens' clock') }) (ob' := .map ((mPut eqb x v l).map (entV g h))) hq' hb trivial rfl rfl rfl (by simp)
    (fun y hy => by simp [Array.getElem?_setIfInBounds, Ne.symm hy]) (fun _ _ => ⟨b, m, ens', clock', hb, hh', hes'⟩)
  refine ⟨.skip, undef, { w with heap := w.heap.setIfInBounds b (.map ens' clock') }, B, ?_, .inr ⟨rfl, rfl⟩, ?_⟩
  · rcases ho with ho | ho
    · simp [execOp, ho, hv, hke, hval, hrun]
    · simp [execOp, ho, hv, hke, hval, hrun]
  · rw [hd1]; exact hrel
end
end Go.Vl
namespace Go.Vl
open Go Go.RowKit
section
variable {C : Ctx} {S : St} {B : Pl} {a : Act} {w : World}
theorem Rel.recast (hR : Rel C S B a w) {S' : St} {B' : Pl} {w' : World} (h1 : w'.os = w.os) (h2 : w'.tape = w.tape) (h3 : w'.output = w.output) (hs : w.heap.size ≤ w'.heap.size)
    (hh : ∀ b, b < w.heap.size → (∀ o, S.obj o ≠ none → ¬ Ow B o b) → w'.heap[b]? = w.heap[b]?)
    (how : ∀ o b, S'.obj o ≠ none → Ow B' o b → (∃ o', S.obj o' ≠ none ∧ Ow B o' b) ∨ (w.heap.size ≤ b ∧ b < w'.heap.size))
    (hinj : ∀ o o' b, S'.obj o ≠ none → S'.obj o' ≠ none → Ow B' o b → Ow B' o' b → o = o')
    (hkeep : ∀ o, o < 100 → S'.obj o ≠ none → B' o = B o ∧ ∃ ob ob', S.obj o = some ob ∧ S'.obj o = some ob' ∧ SameShape ob ob')
    (hrest : (∀ l v, RepL w (dep C.din S B) l v → RepL w' (dep C.din S' B') l v) → (∀ b, dep C.din S B b → dep C.din S' B' b ∨ w.heap.size ≤ b) → (∀ t, SRep (LRep w' C.din S' B') (S'.slot t) (a.tmps.getD t undef)) ∧ ∀ o ob, S'.obj o = some ob → ObRep w' C.din S' B' o ob) : Rel C S' B' a w' := by
  have hd : ∀ b, dep C.din S B b → b < w.heap.size → dep C.din S' B' b := fun b h hb => ⟨h.1, fun o ho how' => by
    rcases how o b ho how' with ⟨o', h4, h5⟩ | ⟨h4, _⟩
    · exact h.2 o' h4 h5
    · omega⟩
  obtain ⟨hsl, hob⟩ := hrest (fun l v h => RepL_mono hs (fun b hb hlt => hh b hlt hb.2) hd l v h) (fun b hb => by
    rcases Nat.lt_or_ge b w.heap.size with h | h
    · exact .inl (hd b hb h)
    · exact .inr h)
  refine ⟨hR.size, hR.defers, hsl, hob, hinj, fun o b ho hb => ?_, ⟨h1.trans hR.frame.os, h2.trans hR.frame.tape, h3.trans hR.frame.output, Nat.le_trans hR.frame.size hs, fun b hb hn => ?_⟩, hR.dnew, fun o hk ho => ?_, hR.klt, fun o ob hk ho => ?_⟩
  · rcases how o b ho hb with ⟨o', h4, h5⟩ | ⟨h4, h5⟩
    · have := hR.mineO o' b h4 h5; exact ⟨Nat.lt_of_lt_of_le this.1 hs, this.2⟩
    · exact ⟨h5, .inl (Nat.le_trans hR.frame.size h4), hR.dnew b (Nat.le_trans hR.frame.size h4)⟩
  · rw [hh b (Nat.lt_of_lt_of_le hb hR.frame.size) fun o ho hob => ?_]
    · exact hR.frame.block b hb hn
    · rcases (hR.mineO o b ho hob).2.1 with h | h
      · omega
      · exact hn h
  · obtain ⟨e, ob, ob', h4, _⟩ := hkeep o (by have := hR.klt; omega) ho
    rw [e]; exact hR.keep o hk (by simp [h4])
  · obtain ⟨e, ob1, ob', h4, h5, h6⟩ := hkeep o (by have := hR.klt; omega) (by simp [ho])
    rw [ho] at h5; cases h5
    obtain ⟨ob0, h7, h8⟩ := hR.shape o ob1 hk h4
    exact ⟨ob0, h7, h8.trans h6⟩
theorem NL_flat {Dp : Nat → Prop} {l : Leaf} {v : Value} {Z : Nat → Prop} (hp : plain [l] = true) : NL w Dp l v Z ↔ RepL w Dp l v := by
  cases l <;> simp [plain] at hp
  · rw [NL.eq_2, RepL.eq_1]
  · rw [NL.eq_3]
  · rw [NL.eq_4]
theorem plain_get : ∀ {ls : List Leaf} {j : Nat} {l : Leaf}, plain ls = true → ls[j]? = some l → plain [l] = true
  | [], _, _, _, h => by simp at h
  | x :: ls, 0, l, hp, h => by simp at h; subst h; cases x <;> simp_all [plain]
  | x :: ls, j + 1, l, hp, h => plain_get (ls := ls) (by cases x <;> simp_all [plain]) (by simpa using h)
theorem NR_reg {Dp : Nat → Prop} {cs : Array Value} : ∀ {ls : List Leaf} {k : Nat} {Z : Nat → Prop}, NR w Dp cs k ls Z → ∃ zf : Nat → Nat → Prop, (∀ j l, ls[j]? = some l → ∃ v, cs[k + j]? = some v ∧ NL w Dp l v (zf j)) ∧ (∀ j x, zf j x → Z x) ∧ ∀ j j' x, zf j x → zf j' x → j = j'
  | [], k, Z, _ => ⟨fun _ _ => False, fun j l h => by simp at h, fun _ _ h => h.elim, fun _ _ _ h => h.elim⟩
  | l :: ls, k, Z, h => by
    rw [NR.eq_2] at h
    obtain ⟨v, Z1, h1, h2, h3, h4⟩ := h
    obtain ⟨zf, k1, k2, k3⟩ := NR_reg h4
    refine ⟨fun j => match j with | 0 => Z1 | j + 1 => zf j, fun j l' hj => ?_, fun j x hx => ?_, fun j j' x hx hx' => ?_⟩
    · cases j with
      | zero => simp at hj; subst hj; exact ⟨v, h1, h3⟩
      | succ j =>
        obtain ⟨u, hu, hn⟩ := k1 j l' (by simpa using hj)
        exact ⟨u, by rw [show k + (j + 1) = k + 1 + j from by omega]; exact hu, hn⟩
    · cases j with
      | zero => exact h2 x hx
      | succ j => exact (k2 j x hx).1
    · cases j <;> cases j'
      · rfl
      · exact ((k2 _ x hx').2 hx).elim
      · exact ((k2 _ x hx).2 hx').elim
      · rw [k3 _ _ x hx hx']
theorem NRs_reg {Dp : Nat → Prop} {sz : Nat} {cs : Array Value} : ∀ {rows : List (List Leaf)} {k : Nat} {Z : Nat → Prop}, NRs w Dp sz cs k rows Z → ∃ zf : Nat → Nat → Nat → Prop, (∀ r ∈ rows, r.length = sz) ∧
    (∀ (i : Nat) (r : List Leaf) (j : Nat) l, rows[i]? = some r → r[j]? = some l → ∃ v, cs[k + i * sz + j]? = some v ∧ NL w Dp l v (zf i j)) ∧ (∀ i j x, zf i j x → Z x) ∧ ∀ i j i' j' x, zf i j x → zf i' j' x → i = i' ∧ j = j'
  | [], k, Z, _ => ⟨fun _ _ _ => False, by simp, fun i r j l h => by simp at h, fun _ _ _ h => h.elim, fun _ _ _ _ _ h => h.elim⟩
  | r :: rs, k, Z, h => by
    rw [NRs.eq_2] at h
    obtain ⟨h1, Z1, h2, h3, h4⟩ := h
    obtain ⟨zr, a1, a2, a3⟩ := NR_reg h3
    obtain ⟨zf, k0, k1, k2, k3⟩ := NRs_reg h4
    refine ⟨fun i => match i with | 0 => zr | i + 1 => zf i, ?_, fun i r' j l hi hj => ?_, fun i j x hx => ?_, fun i j i' j' x hx hx' => ?_⟩
    · intro r' hr'
      rcases List.mem_cons.1 hr' with rfl | hr'
      · exact h1
      · exact k0 r' hr'
    · cases i with
      | zero =>
        simp at hi; subst hi
        obtain ⟨v, hv, hn⟩ := a1 j l hj
        exact ⟨v, by simpa using hv, hn⟩
      | succ i =>
        obtain ⟨v, hv, hn⟩ := k1 i r' j l (by simpa using hi) hj
        exact ⟨v, by rw [show k + (i + 1) * sz + j = k + sz + i * sz + j from by rw [Nat.succ_mul]; omega]; exact hv, hn⟩
    · cases i with
      | zero => exact h2 x (a2 j x hx)
      | succ i => exact (k2 i j x hx).1
    · cases i <;> cases i'
      · exact ⟨rfl, a3 _ _ x hx hx'⟩
      · exact ((k2 _ _ x hx').2 (a2 _ x hx)).elim
      · exact ((k2 _ _ x hx).2 (a2 _ x hx')).elim
      · obtain ⟨e1, e2⟩ := k3 _ _ _ _ x hx hx'
        exact ⟨by rw [e1], e2⟩
theorem NR_of {Dp : Nat → Prop} {cs : Array Value} : ∀ {ls : List Leaf} {k : Nat} {Z : Nat → Prop} (zf : Nat → Nat → Prop), (∀ j l, ls[j]? = some l → ∃ v, cs[k + j]? = some v ∧ NL w Dp l v (zf j)) → (∀ j x, zf j x → Z x) → (∀ j j' x, zf j x → zf j' x → j = j') → NR w Dp cs k ls Z
  | [], k, Z, _, _, _, _ => by rw [NR.eq_1]; trivial
  | l :: ls, k, Z, zf, h1, h2, h3 => by
    rw [NR.eq_2]
    obtain ⟨v, hv, hn⟩ := h1 0 l rfl
    refine ⟨v, zf 0, by simpa using hv, h2 0, hn, NR_of (fun j => zf (j + 1)) (fun j l' hj => ?_) (fun j x hx => ⟨h2 _ x hx, fun hx' => by have := h3 _ _ x hx hx'; omega⟩) fun j j' x hx hx' => by have := h3 _ _ x hx hx'; omega⟩
    obtain ⟨u, hu, hn⟩ := h1 (j + 1) l' (by simpa using hj)
    exact ⟨u, by rw [show k + 1 + j = k + (j + 1) from by omega]; exact hu, hn⟩
theorem NRs_of {Dp : Nat → Prop} {sz : Nat} {cs : Array Value} : ∀ {rows : List (List Leaf)} {k : Nat} {Z : Nat → Prop} (zf : Nat → Nat → Nat → Prop), (∀ r ∈ rows, r.length = sz) → (∀ (i : Nat) (r : List Leaf) (j : Nat) l, rows[i]? = some r → r[j]? = some l → ∃ v, cs[k + i * sz + j]? = some v ∧ NL w Dp l v (zf i j)) →
    (∀ i j x, zf i j x → Z x) → (∀ i j i' j' x, zf i j x → zf i' j' x → i = i' ∧ j = j') → NRs w Dp sz cs k rows Z
  | [], k, Z, _, _, _, _, _ => by rw [NRs.eq_1]; trivial
  | r :: rs, k, Z, zf, h0, h1, h2, h3 => by
    rw [NRs.eq_2]
    refine ⟨h0 r List.mem_cons_self, fun x => ∃ j, zf 0 j x, fun x ⟨j, hx⟩ => h2 0 j x hx, NR_of (zf 0) (fun j l hj => ?_) (fun j x hx => ⟨j, hx⟩) (fun j j' x hx hx' => (h3 _ _ _ _ x hx hx').2),
      NRs_of (fun i => zf (i + 1)) (fun r' hr' => h0 r' (List.mem_cons_of_mem _ hr')) (fun i r' j l hi hj => ?_) (fun i j x hx => ⟨h2 _ _ x hx, fun ⟨j', hx'⟩ => by have := (h3 _ _ _ _ x hx hx').1; omega⟩) fun i j i' j' x hx hx' => ?_⟩
    · obtain ⟨v, hv, hn⟩ := h1 0 r j l rfl hj
      exact ⟨v, by simpa using hv, hn⟩
    · obtain ⟨v, hv, hn⟩ := h1 (i + 1) r' j l (by simpa using hi) hj
      exact ⟨v, by rw [show k + sz + i * sz + j = k + (i + 1) * sz + j from by rw [Nat.succ_mul]; omega]; exact hv, hn⟩
    · obtain ⟨e1, e2⟩ := h3 _ _ _ _ x hx hx'
      exact ⟨by omega, e2⟩
theorem RowsRep.reg {Dp : Nat → Prop} {R : Leaf → Value → Prop} {sz : Nat} {rows : List (List Leaf)} {cs : Array Value} {Z : Nat → Prop} (hlen : rows.length * sz ≤ cs.size) (h : ∀ i r, rows[i]? = some r → All2 (RepL w Dp) r ((cs.toList.drop (i * sz)).take sz)) :
    RegRows w Dp R sz rows [] cs Z (fun _ _ _ => False) := by
  have hw : ∀ (i : Nat) (r : List Leaf), rows[i]? = some r → r.length = sz := by
    intro i r hi
    have h5 : i < rows.length := (List.getElem?_eq_some_iff.1 hi).1
    have h6 : (i + 1) * sz ≤ rows.length * sz := Nat.mul_le_mul_right _ h5
    rw [Nat.succ_mul] at h6
    have := (h i r hi).length
    simp at this
    omega
  refine ⟨fun r hr => ?_, fun i r j l hi hj _ => ?_, fun i r j l x _ _ hx => (by cases hx), fun _ _ _ hx => hx.elim, fun _ _ _ _ _ hx => hx.elim⟩
  · obtain ⟨i, hi⟩ := List.getElem?_of_mem hr
    exact hw i r hi
  · obtain ⟨v, hv, hr⟩ := (h i r hi).get j l hj
    refine ⟨v, ?_, ?_⟩
    · rw [List.getElem?_take] at hv
      split at hv
      · rw [List.getElem?_drop] at hv; simpa using hv
      · cases hv
    · have hp : plain [l] = true := by
        cases l <;> first | rfl | (simp [RepL] at hr; done)
      exact (NL_flat hp).2 hr
theorem RegRows.flat {Dp : Nat → Prop} {R : Leaf → Value → Prop} {sz : Nat} {rows : List (List Leaf)} {cs : Array Value} {Z : Nat → Prop} {zf : Nat → Nat → Nat → Prop} (h : RegRows w Dp R sz rows [] cs Z zf) (hp : ∀ r ∈ rows, plain r = true) (hlen : rows.length * sz ≤ cs.size) : RowsRep w Dp sz rows cs := by
  intro i r hi
  have h5 : i < rows.length := (List.getElem?_eq_some_iff.1 hi).1
  have h6 : (i + 1) * sz ≤ rows.length * sz := Nat.mul_le_mul_right _ h5
  rw [Nat.succ_mul] at h6
  have hw := h.wide r (List.mem_of_getElem? hi)
  refine All2.of_get (by simp [hw]; omega) fun j l v hj hv => ?_
  obtain ⟨u, hu, hn⟩ := h.cell i r j l hi hj rfl
  have hjl : j < sz := by rw [← hw]; exact (List.getElem?_eq_some_iff.1 hj).1
  rw [List.getElem?_take, if_pos hjl, List.getElem?_drop] at hv
  have : cs[i * sz + j]? = some v := by simpa using hv
  rw [hu] at this; cases this
  exact (NL_flat (plain_get (hp r (List.mem_of_getElem? hi)) hj)).1 hn
theorem sets_two_obj (S : St) (q v : Nat) (x y : Ob) (o : Nat) : (S.sets [(q, x), (v, y)]).obj o = if o = q then some x else if o = v then some y else S.obj o := rfl
theorem Rel.toReg (hR : Rel C S B a w) {q : Nat} {E : TypeId} {sz : Nat} {rows : List (List Leaf)} (hq : S.obj q = some (.arr E sz rows)) :
    ∃ B', Rel C (S.sets [(q, .reg E sz rows [])]) B' a w := by
  have hobj := sets_one_obj S q (.reg E sz rows [])
  have live : ∀ o, (S.sets [(q, Ob.reg E sz rows [])]).obj o ≠ none → S.obj o ≠ none := by
    intro o h; rw [hobj] at h
    by_cases e : o = q
    · subst e; simp [hq]
    · rwa [if_neg e] at h
  have hOw : ∀ o b, Ow ⟨B.f, fun x b => x ≠ q ∧ B.z x b⟩ o b → Ow B o b := fun o b h => h.elim (fun h => .inl h) fun h => .inr h.2
  have hne : ∀ o, o ≠ q → (S.sets [(q, Ob.reg E sz rows [])]).obj o = S.obj o := fun o h => by rw [hobj, if_neg h]
  have hsame : ∀ o ob, S.obj o = some ob → ∃ ob', (S.sets [(q, Ob.reg E sz rows [])]).obj o = some ob' ∧ SameShape ob ob' := by
    intro o ob ho
    by_cases e : o = q
    · subst e; rw [hq] at ho; cases ho; exact ⟨_, by rw [hobj, if_pos rfl], by simp [SameShape]⟩
    · exact ⟨ob, (hne o e).trans ho, SameShape.refl ob⟩
  refine ⟨⟨B.f, fun x b => x ≠ q ∧ B.z x b⟩, hR.recast rfl rfl rfl (Nat.le_refl _) (fun _ _ _ => rfl) (fun o b ho hb => .inl ⟨o, live o ho, hOw o b hb⟩) (fun o o' b h h' hb hb' => hR.injO o o' b (live o h) (live o' h') (hOw o b hb) (hOw o' b hb')) (fun o _ ho => ?_) fun er hd => ?_⟩
  · obtain ⟨ob, hob⟩ := Option.ne_none_iff_exists'.1 (live o ho)
    obtain ⟨ob', h1, h2⟩ := hsame o ob hob
    exact ⟨rfl, ob, ob', hob, h1, h2⟩
  · have hd' : ∀ b, dep C.din S B b → dep C.din (S.sets [(q, Ob.reg E sz rows [])]) ⟨B.f, fun x b => x ≠ q ∧ B.z x b⟩ b := fun b h => ⟨h.1, fun o ho hb => h.2 o (live o ho) (hOw o b hb)⟩
    have e : ∀ l v, LRep w C.din S B l v → LRep w C.din (S.sets [(q, Ob.reg E sz rows [])]) ⟨B.f, fun x b => x ≠ q ∧ B.z x b⟩ l v := fun l v h =>
      LRep.step (Nat.le_refl _) (fun _ _ _ => rfl) (fun b h _ => hd' b h) (fun o ob ho => ⟨rfl, hsame o ob ho⟩) h
    refine ⟨fun t => SRep.mono e (hR.slots t), fun o ob ho => ?_⟩
    by_cases eo : o = q
    · subst eo
      rw [hobj, if_pos rfl] at ho; cases ho
      rcases hR.objs o _ hq with ⟨h1, h2⟩ | ⟨b, n, cs, hb, hh, hn, h1, h2, h3⟩
      · exact .inl ⟨h1, h2, fun x hx => hx.1 rfl⟩
      · refine .inr ⟨b, n, cs, _, hb, hh, hn, h1, h2, fun hx => hx.1 rfl, RowsRep.reg (by omega) fun i r hi => (h3 i r hi).mono er⟩
    · rw [hne o eo] at ho
      exact (hR.objs o ob ho).other rfl (by funext b; simp [eo]) e er fun _ _ => rfl
theorem NL_out {Dp : Nat → Prop} {E sz : Nat} {rows : List (List Leaf)} {x : Value} {Z : Nat → Prop} (h : NL w Dp (.nst E sz rows) x Z) : ∃ (A : Option Addr) (c : Nat) (p : Option (Nat × Nat)) (Zv : Nat → Prop), x = .slice A rows.length c ∧ rows.length ≤ c ∧ c ≤ maxLen ∧
    (c = 0 ∨ ∃ b n, p = some (b, n) ∧ A = some ⟨b, 0, none⟩ ∧ c * sz ≤ n) ∧ (∀ b n, p = some (b, n) → Z b) ∧ (∀ y, Zv y → Z y) ∧
    ((rows = [] ∧ p = none ∧ ∀ y, ¬ Zv y) ∨ ∃ b n cs zf, p = some (b, n) ∧ w.heap[b]? = some (.cells cs E (0, 0)) ∧ cs.size = n ∧ (∀ c ∈ cs.toList, c.oneCell' = true) ∧ rows.length * sz ≤ n ∧ ¬ Zv b ∧ ∀ R : Leaf → Value → Prop, RegRows w Dp R sz rows [] cs Zv zf) := by
  rw [NL.eq_1] at h
  obtain ⟨A, c, h1, h2, h3, h4⟩ := h
  rcases h4 with h4 | ⟨b, n, cs, k1, k2, k3, k4, k5, k6, k7⟩
  · have hr : rows = [] := List.eq_nil_of_length_eq_zero (by omega)
    exact ⟨A, c, none, fun _ => False, h1, h2, h3, .inl h4, (fun _ _ e => by cases e), (fun _ e => e.elim), .inl ⟨hr, rfl, fun _ e => e⟩⟩
  · obtain ⟨zf, m1, m2, m3, m4⟩ := NRs_reg k7
    refine ⟨A, c, some (b, n), fun y => Z y ∧ y ≠ b, h1, h2, h3, .inr ⟨b, n, rfl, k1, k6⟩, (fun b' n' e => by cases e; exact k2), (fun y e => e.1), .inr ⟨b, n, cs, zf, rfl, k3, k4, k5, Nat.le_trans (Nat.mul_le_mul_right _ h2) k6, fun e => e.2 rfl, fun R => ⟨m1, fun i r j l hi hj _ => ?_, fun i r j l x _ _ e => (by cases e), m3, m4⟩⟩⟩
    obtain ⟨v, hv, hn⟩ := m2 i r j l hi hj
    exact ⟨v, by simpa using hv, hn⟩
theorem NL_in (hR : Rel C S B a w) {v : Nat} {ob : Ob} {E sz : Nat} {rows : List (List Leaf)} {x : Value} (hv : S.obj v = some ob) (ho : ob = .arr E sz rows ∨ ob = .reg E sz rows []) (hx : LRep w C.din S B (.own v 0 rows.length) x) : NL w (dep C.din S B) (.nst E sz rows) x (Ow B v) := by
  obtain ⟨E', sz', rows', A, c, ha, h1, h2, h3, h4, h5⟩ := hx
  have ha2 : S.arr v = some (E, sz, rows) := by rcases ho with rfl | rfl; exact arr_of hv; exact arr_ofR hv
  rw [ha2] at ha; cases ha
  rw [NL.eq_1]
  refine ⟨A, c, h2, h3, h4, ?_⟩
  rcases h5 with h5 | ⟨b, n, hb, hA, hroom⟩
  · exact .inl h5
  · refine .inr ⟨b, n, ?_⟩
    have hob := hR.objs v ob hv
    rcases ho with rfl | rfl
    · rcases hob with ⟨h6, h7⟩ | ⟨b', n', cs, hb', hh, hn, k1, k2, k3⟩
      · rw [h7] at hb; cases hb
      · rw [hb] at hb'; cases hb'
        refine ⟨cs, by simpa using hA, .at hb, hh, hn, k1, by simpa using hroom, ?_⟩
        have hg := RowsRep.reg (R := fun _ _ => True) (Z := fun _ => True) (by omega) k3
        exact NRs_of (fun _ _ _ => False) hg.wide (fun i r j l hi hj => by
          obtain ⟨u, hu, hnl⟩ := hg.cell i r j l hi hj rfl
          exact ⟨u, by simpa using hu, hnl⟩) (fun _ _ _ e => e.elim) fun _ _ _ _ _ e => e.elim
    · rcases hob with ⟨h6, h7, _⟩ | ⟨b', n', cs, zf, hb', hh, hn, k1, k2, hz, k3⟩
      · rw [h7] at hb; cases hb
      · rw [hb] at hb'; cases hb'
        refine ⟨cs, by simpa using hA, .at hb, hh, hn, k1, by simpa using hroom, ?_⟩
        exact NRs_of zf k3.wide (fun i r j l hi hj => by
          obtain ⟨u, hu, hnl⟩ := k3.cell i r j l hi hj rfl
          exact ⟨u, by simpa using hu, hnl⟩) (fun i j y hy => ⟨.inr (k3.sub i j y hy), fun e => hz (by rw [← e]; exact k3.sub i j y hy)⟩) k3.apart
theorem Rel.takeOut (hR : Rel C S B a w) {q r j v : Nat} {E sz : Nat} {rows : List (List Leaf)} {hs : List (Nat × Nat × Leaf)} {row : List Leaf} {E2 sz2 : Nat} {rows2 : List (List Leaf)} (hq : S.obj q = some (.reg E sz rows hs)) (hrow : rows[r]? = some row)
    (hl : row[j]? = some (.nst E2 sz2 rows2)) (hh : holeAt hs r j = none) (hv : S.obj v = none) (hv1 : 100 ≤ v) {ob2 : Ob} (ho2 : ob2 = .reg E2 sz2 rows2 [] ∨ (ob2 = .arr E2 sz2 rows2 ∧ ∀ r ∈ rows2, plain r = true)) :
    ∃ B' b n cs x, Rel C (S.sets [(q, .reg E sz rows ((r, j, .own v 0 rows2.length) :: hs)), (v, ob2)]) B' a w ∧ B q = some (b, n) ∧ w.heap[b]? = some (.cells cs E (0, 0)) ∧ cs[r * sz + j]? = some x ∧
      LRep w C.din (S.sets [(q, .reg E sz rows ((r, j, .own v 0 rows2.length) :: hs)), (v, ob2)]) B' (.own v 0 rows2.length) x := by
  have hqv : q ≠ v := fun e => by subst e; rw [hq] at hv; cases hv
  have hql : S.obj q ≠ none := by simp [hq]
  rcases hR.objs q _ hq with ⟨h0, _⟩ | ⟨b, n, cs, zf, hb, hheap, hn, hone, hle, hbz, hreg⟩
  · subst h0; simp at hrow
  obtain ⟨x, hx, hnl⟩ := hreg.cell r row j _ hrow hl hh
  obtain ⟨A, c, p, Zv, e1, e2, e3, e4, e5, e6, e7⟩ := NL_out hnl
  generalize hS2 : S.sets [(q, .reg E sz rows ((r, j, .own v 0 rows2.length) :: hs)), (v, ob2)] = S2
  have hobj : ∀ o, S2.obj o = if o = q then some (.reg E sz rows ((r, j, .own v 0 rows2.length) :: hs)) else if o = v then some ob2 else S.obj o := fun o => by rw [← hS2]; exact sets_two_obj S q v _ _ o
  have hslot : S2.slot = S.slot := by rw [← hS2]; rfl
  let B2 : Pl := ⟨fun y => if y = v then p else B y, fun y z => if y = v then Zv z else if y = q then B.z q z ∧ ¬ zf r j z else B.z y z⟩
  have owv : ∀ y, Ow B2 v y → zf r j y := by
    intro y h
    rcases h with ⟨m, hm⟩ | hz
    · have hm : (if v = v then p else B v) = some (y, m) := hm
      rw [if_pos rfl] at hm
      exact e5 y m hm
    · have hz : if v = v then Zv y else if v = q then B.z q y ∧ ¬ zf r j y else B.z v y := hz
      rw [if_pos rfl] at hz
      exact e6 y hz
  have owq : ∀ y, Ow B2 q y → Ow B q y ∧ ¬ zf r j y := by
    intro y h
    rcases h with ⟨m, hm⟩ | hz
    · have hm : (if q = v then p else B q) = some (y, m) := hm
      rw [if_neg hqv] at hm
      refine ⟨.at hm, fun hz => hbz ?_⟩
      rw [hb] at hm; cases hm
      exact hreg.sub r j _ hz
    · have hz : if q = v then Zv y else if q = q then B.z q y ∧ ¬ zf r j y else B.z q y := hz
      rw [if_neg hqv, if_pos rfl] at hz
      exact ⟨.inr hz.1, hz.2⟩
  have owo : ∀ o y, o ≠ v → o ≠ q → (Ow B2 o y ↔ Ow B o y) := by
    intro o y h1 h2
    unfold Ow
    show ((∃ n, (if o = v then p else B o) = some (y, n)) ∨ (if o = v then Zv y else if o = q then B.z q y ∧ ¬ zf r j y else B.z o y)) ↔ _
    rw [if_neg h1, if_neg h1, if_neg h2]
  have live : ∀ o, o ≠ v → S2.obj o ≠ none → S.obj o ≠ none := by
    intro o h1 h; rw [hobj] at h
    by_cases e : o = q
    · subst e; exact hql
    · rwa [if_neg e, if_neg h1] at h
  have owq' : ∀ o y, S2.obj o ≠ none → Ow B2 o y → ∃ o', S.obj o' ≠ none ∧ Ow B o' y := by
    intro o y ho h
    by_cases h1 : o = v
    · subst h1; exact ⟨q, hql, .inr (hreg.sub _ _ _ (owv y h))⟩
    · by_cases h2 : o = q
      · subst h2; exact ⟨o, hql, (owq y h).1⟩
      · exact ⟨o, live o h1 ho, (owo o y h1 h2).1 h⟩
  have hsame : ∀ o ob, S.obj o = some ob → ∃ ob', S2.obj o = some ob' ∧ SameShape ob ob' := by
    intro o ob ho
    by_cases e : o = q
    · subst e; rw [hq] at ho; cases ho; exact ⟨_, by rw [hobj, if_pos rfl], by simp [SameShape]⟩
    · have h1 : o ≠ v := fun e => by subst e; rw [hv] at ho; cases ho
      exact ⟨ob, by rw [hobj, if_neg e, if_neg h1]; exact ho, SameShape.refl ob⟩
  have hd' : ∀ y, dep C.din S B y → dep C.din S2 B2 y := fun y h => ⟨h.1, fun o ho hb => by obtain ⟨o', h1, h2⟩ := owq' o y ho hb; exact h.2 o' h1 h2⟩
  have hBf : ∀ o, o ≠ v → B2 o = B o := fun o h => if_neg h
  have e : ∀ l y, LRep w C.din S B l y → LRep w C.din S2 B2 l y := fun l y h =>
    LRep.step (Nat.le_refl _) (fun _ _ _ => rfl) (fun b h _ => hd' b h) (fun o ob ho => ⟨hBf o (fun e => by subst e; rw [hv] at ho; cases ho), hsame o ob ho⟩) h
  have hB2v : B2 v = p := if_pos rfl
  have harr : S2.arr v = some (E2, sz2, rows2) := by
    have : S2.obj v = some ob2 := by rw [hobj, if_neg (Ne.symm hqv), if_pos rfl]
    rcases ho2 with rfl | ⟨rfl, _⟩
    · exact arr_ofR this
    · exact arr_of this
  have hown : LRep w C.din S2 B2 (.own v 0 rows2.length) x := by
    refine ⟨E2, sz2, rows2, A, c, harr, by omega, e1, e2, e3, ?_⟩
    rcases e4 with e4 | ⟨b2, n2, h1, h2, h3⟩
    · exact .inl e4
    · exact .inr ⟨b2, n2, hB2v.trans h1, by simpa using h2, by simpa using h3⟩
  refine ⟨B2, b, n, cs, x, hR.recast rfl rfl rfl (Nat.le_refl _) (fun _ _ _ => rfl) (fun o y ho hy => .inl (owq' o y ho hy)) (fun o o' y ho ho' hy hy' => ?_) (fun o hlt ho => ?_) fun er hd => ?_, hb, hheap, hx, hown⟩
  · by_cases h1 : o = v <;> by_cases h2 : o' = v
    · rw [h1, h2]
    · subst h1
      have hz := owv y hy
      by_cases h3 : o' = q
      · subst h3; exact ((owq y hy').2 hz).elim
      · exact (h3 (hR.injO o' q y (live o' h2 ho') hql ((owo o' y h2 h3).1 hy') (.inr (hreg.sub _ _ _ hz)))).elim
    · subst h2
      have hz := owv y hy'
      by_cases h3 : o = q
      · subst h3; exact ((owq y hy).2 hz).elim
      · exact (h3 (hR.injO o q y (live o h1 ho) hql ((owo o y h1 h3).1 hy) (.inr (hreg.sub _ _ _ hz)))).elim
    · have g : ∀ o, o ≠ v → Ow B2 o y → Ow B o y := fun o h3 h => by
        by_cases h4 : o = q
        · subst h4; exact (owq y h).1
        · exact (owo o y h3 h4).1 h
      exact hR.injO o o' y (live o h1 ho) (live o' h2 ho') (g o h1 hy) (g o' h2 hy')
  · have hov : o ≠ v := by omega
    obtain ⟨ob, hob⟩ := Option.ne_none_iff_exists'.1 (live o hov ho)
    obtain ⟨ob', h1, h2⟩ := hsame o ob hob
    exact ⟨hBf o hov, ob, ob', hob, h1, h2⟩
  · refine ⟨fun t => by rw [hslot]; exact SRep.mono e (hR.slots t), fun o ob ho => ?_⟩
    by_cases h1 : o = q
    · subst h1
      rw [hobj, if_pos rfl] at ho; cases ho
      have hZ : B2.z o = fun y => B.z o y ∧ ¬ zf r j y := by funext y; show (if o = v then _ else if o = o then _ else _) = _; rw [if_neg hqv, if_pos rfl]
      refine .inr ⟨b, n, cs, fun i k y => zf i k y ∧ ¬ (i = r ∧ k = j), (hBf o hqv).trans hb, hheap, hn, hone, hle, by rw [hZ]; exact fun h => hbz h.1, hreg.wide, fun i r' k l hi hk hhole => ?_, fun i r' k l h' hi hk hhole => ?_, fun i k y hy => ?_, fun i k i' k' y hy hy' => hreg.apart i k i' k' y hy.1 hy'.1⟩
      · unfold holeAt at hhole
        split at hhole
        · cases hhole
        · rename_i hne
          obtain ⟨u, hu, hnl'⟩ := hreg.cell i r' k l hi hk hhole
          exact ⟨u, hu, NL_mono er l u _ _ (fun y hy => ⟨hy, fun hc => hne ⟨hc.1.symm, hc.2.symm⟩⟩) (fun _ _ => rfl) hnl'⟩
      · unfold holeAt at hhole
        split at hhole
        · rename_i hc
          obtain ⟨rfl, rfl⟩ := hc
          cases hhole
          exact ⟨x, hx, hown⟩
        · obtain ⟨u, hu, hru⟩ := hreg.hole i r' k l h' hi hk hhole
          exact ⟨u, hu, e _ _ hru⟩
      · rw [hZ]
        exact ⟨hreg.sub i k y hy.1, fun hz => hy.2 (hreg.apart _ _ _ _ y hy.1 hz)⟩
    · by_cases h2 : o = v
      · subst h2
        rw [hobj, if_neg h1, if_pos rfl] at ho; cases ho
        have hZ : B2.z o = Zv := by funext y; show (if o = o then _ else _) = _; rw [if_pos rfl]
        rcases ho2 with rfl | ⟨rfl, hpl⟩
        · rcases e7 with ⟨k1, k2, k3⟩ | ⟨b2, n2, cs2, zf2, k1, k2, k3, k4, k5, k6, k7⟩
          · exact .inl ⟨k1, hB2v.trans k2, by rw [hZ]; exact k3⟩
          · exact .inr ⟨b2, n2, cs2, zf2, hB2v.trans k1, k2, k3, k4, k5, by rw [hZ]; exact k6, by rw [hZ]; exact (k7 (fun _ _ => False)).same er (fun _ _ => rfl) fun _ _ h => h.elim⟩
        · rcases e7 with ⟨k1, k2, k3⟩ | ⟨b2, n2, cs2, zf2, k1, k2, k3, k4, k5, k6, k7⟩
          · exact .inl ⟨k1, hB2v.trans k2⟩
          · exact .inr ⟨b2, n2, cs2, hB2v.trans k1, k2, k3, k4, k5, fun i r hi => (((k7 (fun _ _ => False)).flat hpl (by omega)) i r hi).mono er⟩
      · rw [hobj, if_neg h1, if_neg h2] at ho
        refine (hR.objs o ob ho).other (hBf o h2) ?_ e er fun _ _ => rfl
        funext y; show (if o = v then _ else if o = q then _ else _) = _; rw [if_neg h2, if_neg h1]
theorem Rel.putBack (hR : Rel C S B a w) {q r j v : Nat} {E sz : Nat} {rows : List (List Leaf)} {hs : List (Nat × Nat × Leaf)} {row : List Leaf} {l0 : Leaf} {E2 sz2 : Nat} {rows2 : List (List Leaf)} {len : Nat} (hq : S.obj q = some (.reg E sz rows ((r, j, .own v 0 len) :: hs))) (hrow : rows[r]? = some row)
    (hl : row[j]? = some l0) (hlen : len = rows2.length) (hqv : q ≠ v) {ob2 : Ob} (hv : S.obj v = some ob2) (ho2 : ob2 = .arr E2 sz2 rows2 ∨ ob2 = .reg E2 sz2 rows2 []) (hh : holeAt hs r j = none) :
    ∃ B', Rel C ((S.kill [v]).sets [(q, .reg E sz (rows.set r (row.set j (.nst E2 sz2 rows2))) (hs.map fun h => (h.1, h.2.1, kL [v] h.2.2)))]) B' a w := by
  subst hlen
  have hql : S.obj q ≠ none := by simp [hq]
  have hvl : S.obj v ≠ none := by simp [hv]
  rcases hR.objs q _ hq with ⟨h0, _⟩ | ⟨b, n, cs, zf, hb, hheap, hn, hone, hle, hbz, hreg⟩
  · subst h0; simp at hrow
  obtain ⟨x, hx, hown⟩ := hreg.hole r row j _ (.own v 0 rows2.length) hrow hl (by simp [holeAt])
  have hnl := NL_in hR hv ho2 hown
  generalize hob' : (Ob.reg E sz (rows.set r (row.set j (.nst E2 sz2 rows2))) (hs.map fun h => (h.1, h.2.1, kL [v] h.2.2))) = obq
  have hshq : SameShape (.reg E sz rows ((r, j, .own v 0 rows2.length) :: hs)) obq := by rw [← hob']; simp [SameShape]
  generalize hS2 : (S.kill [v]).sets [(q, obq)] = S2
  have hobj : ∀ o, S2.obj o = if o = q then some obq else if o = v then none else (S.obj o).map (kO [v]) := fun o => by
    rw [← hS2, sets_one_obj, kill_obj]
    by_cases e : o = q
    · rw [if_pos e, if_pos e]
    · rw [if_neg e, if_neg e]
      by_cases e2 : o = v
      · rw [if_pos (by simp [e2]), if_pos e2]
      · rw [if_neg (by simp [e2]), if_neg e2]
  have hslot : ∀ t, S2.slot t = kS [v] (S.slot t) := fun t => by rw [← hS2, sets_one_slot, kill_slot]
  let B2 : Pl := ⟨B.f, fun y z => if y = q then B.z q z ∨ Ow B v z else B.z y z⟩
  have owq : ∀ y, Ow B2 q y → Ow B q y ∨ Ow B v y := by
    intro y h
    rcases h with h | h
    · exact .inl (.inl h)
    · have h : if q = q then B.z q y ∨ Ow B v y else B.z q y := h
      rw [if_pos rfl] at h
      exact h.imp .inr id
  have owo : ∀ o y, o ≠ q → (Ow B2 o y ↔ Ow B o y) := by
    intro o y h2
    unfold Ow
    show ((∃ n, B o = some (y, n)) ∨ (if o = q then B.z q y ∨ Ow B v y else B.z o y)) ↔ _
    rw [if_neg h2]
  have live : ∀ o, S2.obj o ≠ none → S.obj o ≠ none ∧ o ≠ v := by
    intro o h; rw [hobj] at h
    by_cases e : o = q
    · subst e; exact ⟨hql, hqv⟩
    · rw [if_neg e] at h
      by_cases e2 : o = v
      · rw [if_pos e2] at h; exact absurd rfl h
      · rw [if_neg e2] at h; exact ⟨fun h0 => h (by rw [h0]; rfl), e2⟩
  have owS : ∀ o y, S2.obj o ≠ none → Ow B2 o y → ∃ o', S.obj o' ≠ none ∧ Ow B o' y := by
    intro o y ho h
    by_cases h2 : o = q
    · subst h2; exact (owq y h).elim (fun h => ⟨o, hql, h⟩) fun h => ⟨v, hvl, h⟩
    · exact ⟨o, (live o ho).1, (owo o y h2).1 h⟩
  have hsame : ∀ o ob, o ≠ v → S.obj o = some ob → ∃ ob', S2.obj o = some ob' ∧ SameShape ob ob' := by
    intro o ob h1 ho
    by_cases e : o = q
    · subst e; rw [hq] at ho; cases ho; exact ⟨_, by rw [hobj, if_pos rfl], hshq⟩
    · exact ⟨kO [v] ob, by rw [hobj, if_neg e, if_neg h1, ho]; rfl, kO_shape _ _⟩
  have hd' : ∀ y, dep C.din S B y → dep C.din S2 B2 y := fun y h => ⟨h.1, fun o ho hb => by obtain ⟨o', h1, h2⟩ := owS o y ho hb; exact h.2 o' h1 h2⟩
  have e : ∀ l y, LRep w C.din S B l y → LRep w C.din S2 B2 (kL [v] l) y := fun l y h => by
    rw [kL_rn]
    refine LRep.rn (Nat.le_refl _) (fun _ _ _ => rfl) (fun b h _ => hd' b h) (fun o o' ob hr ho => ?_) h
    unfold keepR at hr
    split at hr
    · cases hr
    · rename_i hc
      cases hr
      obtain ⟨ob', h1, h2⟩ := hsame o ob (by simpa using hc) ho
      exact ⟨rfl, ob', h1, h2⟩
  refine ⟨B2, hR.recast rfl rfl rfl (Nat.le_refl _) (fun _ _ _ => rfl) (fun o y ho hy => .inl (owS o y ho hy)) (fun o o' y ho ho' hy hy' => ?_) (fun o hlt ho => ?_) fun er hd => ?_⟩
  · have g : ∀ o, S2.obj o ≠ none → o ≠ q → Ow B2 q y → Ow B2 o y → False := by
      intro o ho h1 h2 h3
      have h3 := (owo o y h1).1 h3
      rcases owq y h2 with h | h
      · exact h1 (hR.injO o q y (live o ho).1 hql h3 h)
      · exact (live o ho).2 (hR.injO o v y (live o ho).1 hvl h3 h)
    by_cases h1 : o = q <;> by_cases h2 : o' = q
    · rw [h1, h2]
    · subst h1; exact (g o' ho' h2 hy hy').elim
    · subst h2; exact (g o ho h1 hy' hy).elim
    · exact hR.injO o o' y (live o ho).1 (live o' ho').1 ((owo o y h1).1 hy) ((owo o' y h2).1 hy')
  · obtain ⟨ob, hob⟩ := Option.ne_none_iff_exists'.1 (live o ho).1
    obtain ⟨ob', h1, h2⟩ := hsame o ob (live o ho).2 hob
    exact ⟨rfl, ob, ob', hob, h1, h2⟩
  · refine ⟨fun t => by rw [hslot]; exact SRep.map_kL e (hR.slots t), fun o ob ho => ?_⟩
    by_cases h1 : o = q
    · subst h1
      rw [hobj, if_pos rfl] at ho; cases ho
      rw [← hob']
      have hZ : B2.z o = fun y => B.z o y ∨ Ow B v y := by funext y; show (if o = o then _ else _) = _; rw [if_pos rfl]
      have hsub : ∀ i k y, zf i k y → ¬ Ow B v y := fun i k y hy hv' => hqv (hR.injO o v y hql hvl (.inr (hreg.sub i k y hy)) hv')
      have hget : ∀ (i : Nat) (r' : List Leaf) (k : Nat) (l : Leaf), (rows.set r (row.set j (.nst E2 sz2 rows2)))[i]? = some r' → r'[k]? = some l → ((i = r ∧ k = j) ∧ l = .nst E2 sz2 rows2) ∨ (¬ (i = r ∧ k = j) ∧ ∃ r0, rows[i]? = some r0 ∧ r0[k]? = some l) := by
        intro i r' k l hi hk
        rw [List.getElem?_set] at hi
        by_cases hir : r = i
        · subst hir
          have hrl : r < rows.length := (List.getElem?_eq_some_iff.1 hrow).1
          rw [if_pos rfl, if_pos hrl] at hi
          cases hi
          rw [List.getElem?_set] at hk
          by_cases hjk : j = k
          · subst hjk
            have hjl : j < row.length := (List.getElem?_eq_some_iff.1 hl).1
            rw [if_pos rfl, if_pos hjl] at hk
            cases hk
            exact .inl ⟨⟨rfl, rfl⟩, rfl⟩
          · rw [if_neg hjk] at hk
            exact .inr ⟨fun h => hjk h.2.symm, row, hrow, hk⟩
        · rw [if_neg hir] at hi
          exact .inr ⟨fun h => hir h.1.symm, r', hi, hk⟩
      refine .inr ⟨b, n, cs, fun i k y => if i = r ∧ k = j then Ow B v y else zf i k y, hb, hheap, hn, hone, by simpa using hle, ?_, ?_, fun i r' k l hi hk hhole => ?_, fun i r' k l h' hi hk hhole => ?_, fun i k y hy => ?_, fun i k i' k' y hy hy' => ?_⟩
      · rw [hZ]
        exact fun h => h.elim hbz fun h => hqv (hR.injO o v b hql hvl (.at hb) h)
      · intro r' hr'
        rcases List.mem_or_eq_of_mem_set hr' with h | h
        · exact hreg.wide r' h
        · rw [h, List.length_set]; exact hreg.wide row (List.mem_of_getElem? hrow)
      · rcases hget i r' k l hi hk with ⟨hc, rfl⟩ | ⟨hc, r0, h2, h3⟩
        · obtain ⟨rfl, rfl⟩ := hc
          exact ⟨x, hx, NL_mono er _ x _ _ (fun y hy => by rw [if_pos ⟨rfl, rfl⟩]; exact hy) (fun _ _ => rfl) hnl⟩
        · rw [holeAt_map, Option.map_eq_none_iff] at hhole
          obtain ⟨u, hu, hnl'⟩ := hreg.cell i r0 k l h2 h3 (by unfold holeAt; rw [if_neg fun h => hc ⟨h.1.symm, h.2.symm⟩]; exact hhole)
          exact ⟨u, hu, NL_mono er l u _ _ (fun y hy => by rw [if_neg hc]; exact hy) (fun _ _ => rfl) hnl'⟩
      · rw [holeAt_map, Option.map_eq_some_iff] at hhole
        obtain ⟨h0, h4, rfl⟩ := hhole
        rcases hget i r' k l hi hk with ⟨hc, rfl⟩ | ⟨hc, r0, h2, h3⟩
        · obtain ⟨rfl, rfl⟩ := hc
          rw [hh] at h4; cases h4
        · obtain ⟨u, hu, hru⟩ := hreg.hole i r0 k l h0 h2 h3 (by unfold holeAt; rw [if_neg fun h => hc ⟨h.1.symm, h.2.symm⟩]; exact h4)
          exact ⟨u, hu, e _ _ hru⟩
      · rw [hZ]
        by_cases hc : i = r ∧ k = j
        · rw [if_pos hc] at hy; exact .inr hy
        · rw [if_neg hc] at hy; exact .inl (hreg.sub i k y hy)
      · by_cases hc : i = r ∧ k = j <;> by_cases hc' : i' = r ∧ k' = j
        · exact ⟨hc.1.trans hc'.1.symm, hc.2.trans hc'.2.symm⟩
        · rw [if_pos hc] at hy; rw [if_neg hc'] at hy'; exact (hsub _ _ y hy' hy).elim
        · rw [if_neg hc] at hy; rw [if_pos hc'] at hy'; exact (hsub _ _ y hy hy').elim
        · rw [if_neg hc] at hy; rw [if_neg hc'] at hy'; exact hreg.apart _ _ _ _ y hy hy'
    · rw [hobj, if_neg h1] at ho
      by_cases h2 : o = v
      · rw [if_pos h2] at ho; cases ho
      · rw [if_neg h2] at ho
        obtain ⟨ob0, h3, rfl⟩ := Option.map_eq_some_iff.1 ho
        rw [kO_rn]
        refine (hR.objs o ob0 h3).rnO (w' := w) (B' := B2) rfl ?_ (fun l v hl => by rw [← kL_rn]; exact e l v hl) er fun _ _ => rfl
        funext y; show (if o = q then _ else _) = _; rw [if_neg h1]
end
def pickL : Leaf → Leaf → Leaf
  | .g x, _ => .g x
  | .imm sz r, _ => .imm sz r
  | .err, _ => .err
  | _, old => old
def pickLs : List Leaf → List Leaf → List Leaf
  | [], old => old
  | _ :: _, [] => []
  | l :: ls, o :: old => pickL l o :: pickLs ls old
def regSt : List Leaf → Nat → List Leaf → List Leaf
  | row, 0, new => pickLs new row
  | [], _ + 1, _ => []
  | l :: row, j + 1, new => l :: regSt row j new
def holesOf (r : Nat) : Nat → List Leaf → List (Nat × Nat × Leaf)
  | _, [] => []
  | j, l :: ls => match l with
    | .g _ => holesOf r (j + 1) ls
    | .imm _ _ => holesOf r (j + 1) ls
    | .err => holesOf r (j + 1) ls
    | l => (r, j, l) :: holesOf r (j + 1) ls
theorem pickLs_get : ∀ (new old : List Leaf) (j : Nat), (pickLs new old)[j]? = match new[j]?, old[j]? with
    | some l, some o => some (pickL l o)
    | none, o => o
    | some _, none => none
  | [], old, j => by simp [pickLs]
  | l :: ls, [], j => by
    simp only [pickLs, List.getElem?_nil]
    cases (l :: ls)[j]? <;> rfl
  | l :: ls, o :: old, 0 => by simp [pickLs]
  | l :: ls, o :: old, j + 1 => by simpa [pickLs] using pickLs_get ls old j
theorem regSt_get : ∀ (row : List Leaf) (j : Nat) (new : List Leaf) (k : Nat), (regSt row j new)[k]? = if j ≤ k then (pickLs new (row.drop j))[k - j]? else row[k]?
  | row, 0, new, k => by simp [regSt]
  | [], j + 1, new, k => by
    simp only [regSt, List.getElem?_nil, List.drop_nil]
    split
    · rw [pickLs_get]; simp; split <;> simp_all
    · rfl
  | l :: row, j + 1, new, 0 => by simp [regSt]
  | l :: row, j + 1, new, k + 1 => by
    simp only [regSt, List.getElem?_cons_succ, regSt_get row j new k, List.drop_succ_cons, Nat.add_le_add_iff_right, Nat.add_sub_add_right]
theorem pickLs_length : ∀ (new old : List Leaf), (pickLs new old).length = old.length
  | [], _ => rfl
  | _ :: _, [] => rfl
  | _ :: ls, _ :: old => by simp [pickLs, pickLs_length ls old]
theorem regSt_length : ∀ (row : List Leaf) (j : Nat) (new : List Leaf), (regSt row j new).length = row.length
  | row, 0, new => by simp [regSt, pickLs_length]
  | [], _ + 1, _ => rfl
  | l :: row, j + 1, new => by simp [regSt, regSt_length row j new]
theorem holeAt_append : ∀ (hs hs' : List (Nat × Nat × Leaf)) (i j : Nat), holeAt (hs ++ hs') i j = (holeAt hs i j).or (holeAt hs' i j)
  | [], hs', i, j => by simp [holeAt]
  | (a, b, l) :: hs, hs', i, j => by
    simp only [List.cons_append, holeAt]
    split
    · simp
    · exact holeAt_append hs hs' i j
theorem holesOf_ne {r i : Nat} (h : i ≠ r) : ∀ (ls : List Leaf) (j k : Nat), holeAt (holesOf r j ls) i k = none
  | [], _, _ => rfl
  | l :: ls, j, k => by
    cases l <;> simp only [holesOf, holeAt] <;> first | exact holesOf_ne h ls _ _ | (rw [if_neg fun e => h e.1.symm]; exact holesOf_ne h ls _ _)
theorem holesOf_at {r : Nat} : ∀ (ls : List Leaf) (j k : Nat), holeAt (holesOf r j ls) r k = if j ≤ k then (ls[k - j]?).bind fun l => if plain [l] = true then none else some l else none
  | [], j, k => by simp [holesOf, holeAt]
  | l :: ls, j, k => by
    have ih := holesOf_at (r := r) ls (j + 1) k
    have hsplit : (if j + 1 ≤ k then (ls[k - (j + 1)]?).bind fun l => if plain [l] = true then none else some l else none) = if j < k then ((l :: ls)[k - j]?).bind fun l => if plain [l] = true then none else some l else none := by
      by_cases hk : j < k
      · rw [if_pos hk, if_pos (by omega), show k - j = (k - (j + 1)) + 1 from by omega, List.getElem?_cons_succ]
      · rw [if_neg hk, if_neg (by omega)]
    rw [hsplit] at ih
    by_cases hjk : j = k
    · subst hjk
      rw [if_neg (Nat.lt_irrefl _)] at ih
      rw [if_pos (Nat.le_refl _), Nat.sub_self]
      cases l <;> simp [holesOf, holeAt, plain, ih]
    · have e : (if j ≤ k then ((l :: ls)[k - j]?).bind fun l => if plain [l] = true then none else some l else none) = if j < k then ((l :: ls)[k - j]?).bind fun l => if plain [l] = true then none else some l else none := by
        by_cases hk : j < k
        · rw [if_pos hk, if_pos (Nat.le_of_lt hk)]
        · rw [if_neg hk, if_neg (by omega)]
      rw [e, ← ih]
      cases l <;> simp [holesOf, holeAt, hjk]
section
variable {P : Program} {T : Tab} {S : St} {o : Oper}
theorem o_load_out (hT : TabOk P T) {t : TypeId} {A : Operand} (ho : o.op = .load t A) {i : TI} (hi : T t = some i) (hg : i.d.isAgg = false) {q r j v E sz : Nat} {rows : List (List Leaf)} {hs : List (Nat × Nat × Leaf)} {row : List Leaf} {E2 sz2 : Nat} {rows2 : List (List Leaf)} (hA : ev S A = .one (.elm q r j))
    (hq : S.obj q = some (.reg E sz rows hs)) (hrow : rows[r]? = some row) (hl : row[j]? = some (.nst E2 sz2 rows2)) (hh : holeAt hs r j = none) (hv : S.obj v = none) (hv1 : 100 ≤ v) {ob2 : Ob} (ho2 : ob2 = .reg E2 sz2 rows2 [] ∨ (ob2 = .arr E2 sz2 rows2 ∧ ∀ r ∈ rows2, plain r = true)) :
    OpL P S o { dst := .one (.own v 0 rows2.length), reads := [q], sets := [(q, .reg E sz rows ((r, j, .own v 0 rows2.length) :: hs)), (v, ob2)] } := by
  intro S' h1 h2 h3 C B a w hR hd
  have hA' := (h1 A (by simp [ho, Op.operands])).trans hA
  have hq' := (h2 q (by simp)).trans hq
  have hv' := (h3 v (by simp)).trans hv
  obtain ⟨E', sz', rows', b1, n1, hq2, hlt, hb2, hva⟩ := ev_one hR hA'
  rw [arr_ofR hq'] at hq2; cases hq2
  obtain ⟨B', b, n, cs, x, hR', hb, hheap, hx, hown⟩ := hR.takeOut hq' hrow hl hh hv' hv1 ho2
  rw [hb2] at hb; cases hb
  have hc : w.cell? ⟨b1, r * sz + j, none⟩ = some x := by rw [cell_blk hheap]; exact hx
  refine ⟨.value x, x, w, B', by simp [execOp, ho, hva, Instr.loadAt, Instr.sureAddr, loadVar, hT.isAgg hi, hg, hc], .inl rfl, ?_⟩
  exact hR'.put o.dst _ x hown hd
end
section
variable {P : Program} {T : Tab} {n : Nat}
theorem wk_toReg (n : Nat) {L : LS} {q : Nat} {E sz : Nat} {rows : List (List Leaf)} (hq : L.st.obj q = some (.arr E sz rows)) : Wk n L.st (LS.st ⟨L.ts, (q, .reg E sz rows []) :: L.os, L.ks⟩) := by
  intro C B a w hn hR
  obtain ⟨B', h⟩ := hR.toReg hq
  have e : L.st.sets [(q, .reg E sz rows [])] = LS.st ⟨L.ts, (q, .reg E sz rows []) :: L.os, L.ks⟩ := (LS.st_sets L [(q, .reg E sz rows [])]).symm
  exact ⟨B', by rw [← e]; exact h⟩
theorem wk_putBack (n : Nat) {L : LS} {q r j v : Nat} {E : TypeId} {sz : Nat} {rows rows' : List (List Leaf)} {hs hs' : List (Nat × Nat × Leaf)} {row : List Leaf} {l0 : Leaf} {E2 sz2 : Nat} {rows2 : List (List Leaf)} {len : Nat} {ob2 : Ob} (hq : L.st.obj q = some (.reg E sz rows ((r, j, .own v 0 len) :: hs))) (hv : L.st.obj v = some ob2) (ho2 : ob2 = .arr E2 sz2 rows2 ∨ ob2 = .reg E2 sz2 rows2 [])
    (hrow : rows[r]? = some row) (hl : row[j]? = some l0) (hlen : len = rows2.length) (hqv : q ≠ v) (hh : holeAt hs r j = none) (hr : rows.set r (row.set j (.nst E2 sz2 rows2)) = rows') (hhs : (hs.map fun h => (h.1, h.2.1, kL [v] h.2.2)) = hs') :
    Wk n L.st (LS.st ((L.kill [v]).sets [(q, .reg E sz rows' hs')])) := by
  subst hr hhs
  intro C B a w hn hR
  obtain ⟨B', h⟩ := hR.putBack hq hrow hl hlen hqv hv ho2 hh
  rw [LS.st_sets, LS.st_kill]
  exact ⟨B', h⟩
variable {ops : Array Oper}
theorem VR.wk {i : Nat} {rest : List Oper} {L L' : LS} {K : LS → Prop} (hw : Wk n L.st L'.st) (h : VR P n ops i rest L' K) : VR P n ops i rest L K := by
  constructor
  intro hd Q C B a w hn hR hk
  obtain ⟨B', hR'⟩ := hw C B a w hn hR
  exact h.1 hd Q C B' a w hn hR' hk
theorem EndV.wk {fn : Func} {k : Nat} {L L' : LS} {Post : Slot → List (Option Ob) → List Ob → Prop} (hw : ∀ n, Wk n L.st L'.st) (h : EndV T fn k L' Post) : EndV T fn k L Post := by
  obtain ⟨L1, hw', r⟩ := h.h
  exact ⟨L1, fun n => (hw n).trans (hw' n), r⟩
end
end Go.Vl

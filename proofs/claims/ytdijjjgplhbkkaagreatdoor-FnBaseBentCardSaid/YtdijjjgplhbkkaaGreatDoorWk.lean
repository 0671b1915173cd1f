/- V-logic, part z: from what is handed in to leaves; a law's row from its function's contract. -/
import Derived.Test.YtdijjjgplhbkkaaGreatDoorWg
import Derived.WalkKit
import Derived.ProofKit
import Derived.OpenShut
import Derived.ShutString
import Derived.ChangeOld
import Derived.Below
import Derived.Carry
import Derived.SizedLaws
import Derived.Deep.Slices
set_option linter.unusedSimpArgs false
set_option linter.unusedVariables false
set_option linter.unnecessarySimpa false
namespace Go.Vl
open Go Go.RowKit Go.ChangeShapes Go.WideShapes
def tiles (P : Program) : Nat → List Field → Nat → Bool
  | off, [], stop => Nat.beq off stop
  | off, f :: fs, stop => Nat.beq f.offset off && tiles P (off + P.cellsOf f.type) fs stop
def plainT (P : Program) : Nat → TypeId → Bool
  | 0, _ => false
  | n + 1, t => match P.underlying t with
    | some .bool => true
    | some (.int _) => true
    | some .string => true
    | some (.slice e) => plainT P n e && Nat.blt 0 (P.cellsOf e)
    | some (.struct fs) => fs.toList.all (fun f => plainT P n f.type) && tiles P 0 fs.toList (P.cellsOf t)
    | _ => false
def WT (P : Program) : Nat → TypeId → List Leaf → Prop
  | 0, _, _ => False
  | n + 1, t, ls => match P.underlying t with
    | some .bool => ∃ b, ls = [.g (.bool b)]
    | some (.int k) => ∃ x, ls = [.g (.int k x)] ∧ (Lit.int k x).wf = true
    | some .string => ∃ s, ls = [.g (.string s)] ∧ s.size ≤ maxLen
    | some (.slice e) => ∃ rows, ls = [.imm (P.cellsOf e) rows] ∧ rows.length ≤ maxLen ∧ ∀ r ∈ rows, r.length = P.cellsOf e ∧ WT P n e r
    | some (.struct fs) => ls.length = P.cellsOf t ∧ ∀ f ∈ fs.toList, WT P n f.type ((ls.drop f.offset).take (P.cellsOf f.type))
    | _ => False
section
variable {H : Type} {enc : TypeId × Value → H} {P : Program} {w : World} {base : Nat} {spare : Nat → Bool} {held : Bool}
theorem cells_of {a : Addr} {n : Nat} {cs : List Value} (h : w.cells? base a n = some cs) : cs.length = n ∧ ∀ j x, cs[j]? = some x → w.cell? (a.add j) = some x := by
  unfold World.cells? at h
  split at h
  · have hl := mapM_length h
    simp at hl
    refine ⟨hl.symm, fun j x hj => ?_⟩
    obtain ⟨i, hi, hx, _⟩ := (mapM_get h j x).1 hj
    have hlt : j < n := by
      rcases Nat.lt_or_ge j n with h' | h'
      · exact h'
      · rw [List.getElem?_eq_none (by omega)] at hj; cases hj
    rw [List.getElem?_range hlt] at hi
    cases hi
    exact hx
  · cases h
theorem tiles_le : ∀ {fs : List Field} {off stop : Nat}, tiles P off fs stop = true → off ≤ stop
  | [], off, stop, h => by have := Nat.eq_of_beq_eq_true h; omega
  | f :: fs, off, stop, h => by
    simp only [tiles, Bool.and_eq_true] at h
    have := tiles_le h.2
    omega
theorem open_fields {n : Nat} {R : Leaf → Value → Prop} {cs : List Value} {stop : Nat} (hcs : cs.length = stop) :
    ∀ (fs : List Field) (off : Nat), tiles P off fs stop = true → (∀ f ∈ fs, ∃ ls, WT P n f.type ls ∧ All2 R ls ((cs.drop f.offset).take (P.cellsOf f.type))) →
      ∃ ls, All2 R ls (cs.drop off) ∧ ∀ f ∈ fs, off ≤ f.offset ∧ WT P n f.type ((ls.drop (f.offset - off)).take (P.cellsOf f.type))
  | [], off, ht, _ => by
    have := Nat.eq_of_beq_eq_true ht
    refine ⟨[], ?_, by simp⟩
    rw [List.drop_of_length_le (by omega)]; trivial
  | f :: fs, off, ht, h => by
    simp only [tiles, Bool.and_eq_true] at ht
    have hof := Nat.eq_of_beq_eq_true ht.1
    have hle := tiles_le ht.2
    obtain ⟨rest, hr, hw⟩ := open_fields hcs fs _ ht.2 fun g hg => h g (by simp [hg])
    obtain ⟨lf, hlf, hlr⟩ := h f (by simp)
    rw [hof] at hlr
    have hll : lf.length = P.cellsOf f.type := by have := hlr.length; simp at this; omega
    refine ⟨lf ++ rest, ?_, fun g hg => ?_⟩
    · have := hlr.append hr
      rwa [← List.drop_drop, List.take_append_drop] at this
    · rcases List.mem_cons.1 hg with rfl | hg
      · refine ⟨by omega, ?_⟩
        rw [hof, Nat.sub_self, List.drop_zero, ← hll, List.take_left]
        exact hlf
      · obtain ⟨h1, h2⟩ := hw g hg
        refine ⟨by omega, ?_⟩
        have : (lf ++ rest).drop (g.offset - off) = rest.drop (g.offset - (off + P.cellsOf f.type)) := by
          rw [List.drop_append, List.drop_of_length_le (by omega), List.nil_append]
          congr 1; omega
        rw [this]; exact h2
theorem open_plain : ∀ (m : Nat) {t : TypeId} {fuel : Nat} {cs : List Value} {x : DataW H × List MemPlace}, plainT P m t = true → DataW.trod enc P w base spare held fuel t cs = some x →
    ∃ ls, WT P m t ls ∧ All2 (RepL w (fun _ => True)) ls cs
  | 0, _, _, _, _, hp, _ => by simp [plainT] at hp
  | m + 1, t, fuel, cs, x, hp, h => by
    unfold plainT at hp
    unfold WT
    split at hp
    · rename_i hu
      obtain ⟨b, rfl, _⟩ := DataW.trod_bool hu h
      exact ⟨[.g (.bool b)], ⟨b, rfl⟩, by rw [RepL.eq_1]; exact ⟨rfl, rfl⟩, trivial⟩
    · rename_i k hu
      obtain ⟨b, rfl, _, hw⟩ := DataW.trod_int hu h
      exact ⟨[.g (.int k b)], ⟨b, rfl, hw⟩, by rw [RepL.eq_1]; exact ⟨rfl, rfl⟩, trivial⟩
    · rename_i hu
      obtain ⟨b, rfl, _, hw⟩ := DataW.trod_string hu h
      exact ⟨[.g (.string b)], ⟨b, rfl, hw⟩, by rw [RepL.eq_1]; exact ⟨rfl, rfl⟩, trivial⟩
    · rename_i e hu
      simp only [Bool.and_eq_true] at hp
      have he0 : 0 < P.cellsOf e := by have := hp.2; simpa using this
      rcases DataW.trod_slice hu h with ⟨rfl, _⟩ | ⟨a, len, cap, elems, rest, n, _, rfl, _, _, hl, hm, hlen, hel, _⟩
      · refine ⟨[.imm (P.cellsOf e) []], ⟨[], rfl, Nat.zero_le _, by simp⟩, ?_, trivial⟩
        rw [RepL.eq_2]
        exact ⟨none, 0, rfl, Nat.le_refl _, Nat.zero_le _, .inl rfl⟩
      · have one : ∀ i, i < len → ∃ r : List Leaf, WT P m e r ∧ ∃ cs', w.cells? base (a.add (i * P.cellsOf e)) (P.cellsOf e) = some cs' ∧ All2 (RepL w (fun _ => True)) r cs' := by
          intro i hi
          have h1 := hel i hi
          have h2 : elems[i]? = some (elems[i]'(by omega)) := List.getElem?_eq_getElem _
          rw [h2, Option.bind_eq_some_iff] at h1
          obtain ⟨cs', hcs', htr⟩ := h1
          obtain ⟨r, hr, hrr⟩ := open_plain m hp.1 htr
          exact ⟨r, hr, cs', hcs', hrr⟩
        obtain ⟨f, hf⟩ := Deep.choose_lt (p := fun i r => WT P m e r ∧ ∃ cs', w.cells? base (a.add (i * P.cellsOf e)) (P.cellsOf e) = some cs' ∧ All2 (RepL w (fun _ => True)) r cs') one
        have hlr : ((List.range len).map f).length = len := by simp
        refine ⟨[.imm (P.cellsOf e) ((List.range len).map f)], ⟨_, rfl, by rw [hlr]; omega, fun r hr => ?_⟩, ?_, trivial⟩
        · obtain ⟨i, hi, rfl⟩ := List.mem_map.1 hr
          obtain ⟨h1, cs', h2, h3⟩ := hf i (List.mem_range.1 hi)
          exact ⟨by rw [h3.length]; exact (cells_of h2).1, h1⟩
        · rw [RepL.eq_2, hlr]
          refine ⟨some a, cap, rfl, hl, hm, ?_⟩
          rcases Nat.eq_zero_or_pos len with h0 | h0
          · left; simp [h0]
          · right
            refine ⟨a, rfl, trivial, ?_, RepRs_of fun i r hi => ?_⟩
            · obtain ⟨_, cs', h2, h3⟩ := hf 0 h0
              obtain ⟨hl2, hc2⟩ := cells_of h2
              obtain ⟨x, hx⟩ : ∃ x, cs'[0]? = some x := ⟨cs'[0]'(by omega), List.getElem?_eq_getElem _⟩
              have h4 := hc2 0 x hx
              rw [add_add', Nat.zero_mul] at h4
              unfold World.cell? at h4
              rw [add_block] at h4
              rcases Nat.lt_or_ge a.block w.heap.size with h5 | h5
              · exact h5
              · rw [Array.getElem?_eq_none h5] at h4; simp at h4
            · have hil : i < len := by
                rcases Nat.lt_or_ge i len with h' | h'
                · exact h'
                · rw [List.getElem?_eq_none (by simp; omega)] at hi; cases hi
              rw [List.getElem?_map, List.getElem?_range hil] at hi
              cases hi
              obtain ⟨_, cs', h2, h3⟩ := hf i hil
              obtain ⟨hl2, hc2⟩ := cells_of h2
              refine ⟨by rw [h3.length]; exact hl2, RepR_of fun j l hj => ?_⟩
              obtain ⟨x, hx, hxr⟩ := h3.get j l hj
              have h4 := hc2 j x hx
              rw [add_add'] at h4
              exact ⟨x, by rw [Nat.zero_add]; exact h4, hxr⟩
    · rename_i fs hu
      simp only [Bool.and_eq_true, List.all_eq_true] at hp
      obtain ⟨xs, n, rfl, _, hcl, hxl, hf⟩ := DataW.trod_struct hu h
      obtain ⟨ls, h1, h2⟩ := open_fields (n := m) (R := RepL w (fun _ => True)) hcl fs.toList 0 hp.2 fun f hfm => by
        obtain ⟨i, hi⟩ := List.getElem?_of_mem hfm
        have hi' : fs[i]? = some f := by simpa using hi
        have h3 := hf i f hi'
        have hil : i < fs.size := (Array.getElem?_eq_some_iff.1 hi').1
        rw [List.getElem?_eq_getElem (by omega : i < xs.length)] at h3
        exact open_plain m (hp.1 f hfm) h3
      refine ⟨ls, ⟨by have := h1.length; simpa [hcl] using this, fun f hfm => ?_⟩, by simpa using h1⟩
      simpa using (h2 f hfm).2
    · cases hp
def slotT (P : Program) (t : TypeId) (ls : List Leaf) : Slot := match P.underlying t with
  | some (.struct _) => .agg ls
  | _ => match ls with
    | [l] => .one l
    | _ => .bad
theorem open_slot {m : Nat} {t : TypeId} {v : Value} {d : DataW H} {ps : List MemPlace} {r : Reach} {b0 : Nat} (hp : plainT P m t = true) (hval : Value.okWide P w r b0 t v) (h : DataW.Trod enc P w base spare held t v d ps) :
    ∃ ls, WT P m t ls ∧ SRep (RepL w (fun _ => True)) (slotT P t ls) v := by
  obtain ⟨fuel, hf⟩ := h
  obtain ⟨ls, h1, h2⟩ := open_plain m hp hf
  refine ⟨ls, h1, ?_⟩
  cases m with
  | zero => exact h1.elim
  | succ m =>
    unfold WT at h1
    unfold slotT
    split at h1
    · rename_i hu
      obtain ⟨b, rfl⟩ := h1
      obtain ⟨b', rfl⟩ := okWide_bool hu hval
      simp only [hu]
      exact h2.1
    · rename_i hu
      obtain ⟨b, rfl, _⟩ := h1
      obtain ⟨b', rfl⟩ := okWide_int hu hval
      simp only [hu]
      exact h2.1
    · rename_i hu
      obtain ⟨b, rfl, _⟩ := h1
      obtain ⟨b', rfl⟩ := okWide_string hu hval
      simp only [hu]
      exact h2.1
    · rename_i hu
      obtain ⟨b, rfl, _⟩ := h1
      obtain ⟨_, _, _, rfl⟩ := okWide_slice hu hval
      simp only [hu]
      exact h2.1
    · rename_i hu
      obtain ⟨cs, rfl, _⟩ := okWide_struct hu hval
      simp only [hu]
      exact ⟨cs, rfl, h2⟩
    · exact h1.elim
def ForW (P : Program) (m : Nat) : List TypeId → (List Slot → Prop) → Prop
  | [], k => k []
  | t :: ts, k => ∀ ls, WT P m t ls → ForW P m ts fun ss => k (slotT P t ls :: ss)
theorem forW_of {m : Nat} {W : World} : ∀ {ts : List TypeId} {vs : List Value} {ds : List (DataW H)} {p : List MemPlace} {k : List Slot → Prop}, (∀ t ∈ ts, plainT P m t = true) →
    (∀ (j : Nat) t v, ts[j]? = some t → vs[j]? = some v → ∃ r b0, Value.okWide P W r b0 t v) → DataW.TrodAll enc P W base spare held ts vs ds p → ForW P m ts k →
      ∃ ss, k ss ∧ All2 (SRep (RepL W (fun _ => True))) ss vs
  | [], vs, ds, p, k, _, _, h, hk => by
    obtain ⟨rfl, _, _⟩ := trodAll_nil h
    exact ⟨[], hk, trivial⟩
  | t :: ts, vs, ds, p, k, hp, hv, h, hk => by
    obtain ⟨v, vs', d, ds', p1, q1, rfl, rfl, rfl, h1, h2⟩ := trodAll_cons h
    obtain ⟨r, b0, hok⟩ := hv 0 t v rfl rfl
    obtain ⟨ls, hw, hs⟩ := open_slot (hp t (by simp)) hok h1
    obtain ⟨ss, k1, k2⟩ := forW_of (fun t ht => hp t (by simp [ht])) (fun j t v hj hj' => hv (j + 1) t v (by simpa using hj) (by simpa using hj')) h2 (hk ls hw)
    exact ⟨_, k1, hs, k2⟩
theorem trodAll_stays {W W' : World} (laid : laidOutB P = true) (bel : Below W.heap.size W W') : ∀ {ts : List TypeId} {vs : List Value} {ds : List (DataW H)} {p : List MemPlace}, (∀ t ∈ ts, P.readableRec t = true ∧ t < P.types.size) →
    DataW.TrodAll enc P W 0 (fun _ => true) true ts vs ds p → ∃ q, DataW.TrodAll enc P W' 0 (fun b => decide (b < W.heap.size)) true ts vs ds q
  | [], vs, ds, p, _, h => by obtain ⟨rfl, rfl, rfl⟩ := trodAll_nil h; exact ⟨[], rfl⟩
  | t :: ts, vs, ds, p, hp, h => by
    obtain ⟨v, vs', d, ds', p1, q1, rfl, rfl, rfl, h1, h2⟩ := trodAll_cons h
    obtain ⟨q, hq⟩ := trodAll_stays laid bel (fun t ht => hp t (by simp [ht])) h2
    have lt : ∀ x ∈ p1, x.block < W.heap.size := by obtain ⟨m, hm⟩ := h1; exact DataW.trod_lt m _ _ _ hm
    exact ⟨_, trodAll_cons_mk (Below.trod laid (hp t (by simp)).1 (hp t (by simp)).2 h1 bel lt) hq⟩
theorem law_calls (laid : laidOutB P = true) {f : FuncId} {fn : Func} {s : ChangeSpec} {m : Nat} {tb : TypeId} (hr : fn.resultTypes = #[tb]) (hb : P.underlying tb = some .bool)
    (hts : ∀ t ∈ fn.params.toList, (P.readableRec t && Nat.blt t P.types.size && plainT P m t) = true) (hv : s.vars = [])
    (hfn : ∀ ds : List (DataW H), ds.length = fn.params.toList.length → s.fn H ds = { results := [.lit (.bool true)], args := ds })
    (h : ForW P m fn.params.toList fun ss => CallsV P f ss [] (pureQ (.one (.g (.bool true))))) {apart : Bool}
    (W : World) (hlay : LayC W (fun _ => False)) (b0 : Nat) (args : Array Value) (ds gs : List (DataW H)) (before : List MemPlace)
    (hval : ∀ (j : Nat) t v, fn.params[j]? = some t → args[j]? = some v → Value.okWide P W .any b0 t v)
    (hW : DataW.Whole enc P fn.params.toList s.vars apart W args.toList ds gs before) :
    Calls P f args W fun e W' => ∃ v, e = .returned v ∧ s.post enc P fn apart true false false W args v W' := by
  have hW' := hW
  obtain ⟨p, q, hA, hV, rfl, hfz, hnd⟩ := hW
  rw [hv] at hV
  have hgs : gs = [] := by cases gs with | nil => rfl | cons => simp [DataW.TrodVars] at hV
  subst hgs
  have hts' : ∀ t ∈ fn.params.toList, (P.readableRec t = true ∧ t < P.types.size) ∧ plainT P m t = true := by
    intro t ht
    have := hts t ht
    simp only [Bool.and_eq_true] at this
    exact ⟨⟨this.1.1, by simpa using this.1.2⟩, this.2⟩
  obtain ⟨ss, hc, hrep⟩ := forW_of (fun t ht => (hts' t ht).2) (fun j t v hj hj' => ⟨_, _, hval j t v (by simpa using hj) (by simpa using hj')⟩) hA h
  obtain ⟨B0, _⟩ : ∃ B0 : Pl, True := ⟨⟨fun _ => none, fun _ _ => False⟩, trivial⟩
  have hA0 : ArgsOk W (fun _ => True) [] B0 := ⟨fun o ob ho => by simp at ho, fun o o' b ho => by simp [So] at ho, fun o b ho => by simp [So] at ho, hlay.step (Kp.refl _ _) fun b _ ⟨o, ho, _⟩ => by simp [So] at ho⟩
  have hdep : ∀ b, True → b < W.heap.size → dep (fun _ => True) (So []) B0 b := fun b _ _ => ⟨trivial, fun o ho => by simp [So] at ho⟩
  refine (hc.2 W B0 (fun _ => True) args hA0 (hrep.mono fun sl v hs => SRep.mono (fun l v hl => RepL.lrep (RepL_mono (Nat.le_refl _) (fun _ _ _ => rfl) hdep l v hl)) hs)).mono fun e W' he => ?_
  obtain ⟨v, s1, outs, news, B', rfl, ⟨rfl, rfl, rfl⟩, hres, hsr⟩ := he
  have ev : v = .bool true := by
    have h1 : LRep W' (dinOf W (fun _ => True) [] B0) (Sr [] []) B' (.g (.bool true)) v := hsr
    have h2 : RepL W' (dep (dinOf W (fun _ => True) [] B0) (Sr [] []) B') (.g (.bool true)) v := h1
    rw [RepL.eq_1] at h2; exact h2.1
  subst ev
  have bel : Below W.heap.size W W' := ⟨hres.frame.os, hres.frame.tape, hres.frame.output, hres.frame.size, fun b hb => hres.frame.block b hb (by rintro ⟨o, ho, _⟩; simp [So] at ho)⟩
  obtain ⟨q2, hq2⟩ := trodAll_stays laid bel (fun t ht => (hts' t ht).1) hA
  have hdl : ds.length = fn.params.toList.length := by
    have : ∀ {ts : List TypeId} {vs : List Value} {ds : List (DataW H)} {p : List MemPlace}, DataW.TrodAll enc P W 0 (fun _ => true) true ts vs ds p → ds.length = ts.length := by
      intro ts
      induction ts with
      | nil => intro vs ds p h; obtain ⟨_, rfl, _⟩ := trodAll_nil h; rfl
      | cons t ts ih => intro vs ds p h; obtain ⟨_, _, _, _, _, _, rfl, rfl, _, _, h2⟩ := trodAll_cons h; simp [ih h2]
    exact this hA
  have hs := hfn ds hdl
  refine ⟨_, rfl, ds, [], _, [], q2, [], hW', ?_, ?_, ?_, ?_, fun h => by cases h⟩
  · rw [List.append_nil, hs, hr]
    exact trodAll_mk1 (shut_bool hb _)
  · rw [List.append_nil, hs]; exact hq2
  · rw [List.append_nil, hs, hv]; rfl
  · exact bel.frame _
theorem wt_int {m : Nat} {t : TypeId} {k : IntKind} {ls : List Leaf} (hu : P.underlying t = some (.int k)) (h : WT P (m + 1) t ls) : ∃ x, ls = [.g (.int k x)] ∧ (Lit.int k x).wf = true := by
  simp only [WT, hu] at h; exact h
theorem wt_slice {m : Nat} {t e : TypeId} {ls : List Leaf} (hu : P.underlying t = some (.slice e)) (h : WT P (m + 1) t ls) : ∃ rows, ls = [.imm (P.cellsOf e) rows] ∧ rows.length ≤ maxLen ∧ ∀ r ∈ rows, r.length = P.cellsOf e ∧ WT P m e r := by
  simp only [WT, hu] at h; exact h
end
end Go.Vl

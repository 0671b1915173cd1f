/- Generic: functions that take over what is handed to them: ends behind which only the first things handed in stay. Tables drawn: what holds of them, and goes on. Bases: what a right one is; what goes with a row; plain laws. What goes with a row of a base: both ways of finding it find the same. Contracts: bases: places of tables and links; links that fit and hold: the program's. Contracts: bases: links that hold; a right base: the program's. -/
import Derived.Test.YtdijjjgplhbkkaaGreatDoorWl
import Derived.Test.YtdijjjgplhbkkaaGreatDoorWj
import Derived.Test.YtdijjjgplhbkkaaGreatDoorJUg
import Derived.Test.YtdijjjgplhbkkaaGreatDoorJUm
set_option linter.unusedSimpArgs false
set_option linter.unusedVariables false
set_option linter.unnecessarySimpa false

namespace Go.Vl
open Go Go.RowKit

def shf (m d : Nat) (o : Nat) : Option Nat := some (if o < m then o else o + d)
/-- An end: of what was handed in the first m stay, the others go; new objects (also such as were handed in) go out, what else was made goes out as what nobody writes. -/
structure EndC (T : Tab) (fn : Func) (k m : Nat) (L : LS) (Post : Slot → List (Option Ob) → List Ob → Prop) : Prop where
  h : ∃ L1 : LS, (∀ n, Wk n L.st L1.st) ∧ ∃ ss s0 s1 nids obs, fn.results.toList.mapM (resSlot T L1.st) = some ss ∧ resAll ss = some s0 ∧ (List.range m ++ nids).mapM L1.st.obj = some obs ∧ nodupB (List.range m ++ nids) = true ∧
    LeS (rnS (shf m (k - m)) (vS true L1.st (List.range m ++ nids) s0)) s1 ∧
    Post s1 (((obs.take m).map fun ob => some (rnO (shf m (k - m)) (vO true L1.st (List.range m ++ nids) ob))) ++ List.replicate (k - m) none) ((obs.drop m).map fun ob => rnO (shf m (k - m)) (vO true L1.st (List.range m ++ nids) ob))
def endC (T : Tab) (fn : Func) (k m : Nat) (Post : Slot → List (Option Ob) → List Ob → Prop) (e : Exit) (L : LS) : Prop :=
  match e with
  | .normal => EndC T fn k m L Post
  | .ret => EndC T fn k m L Post
  | _ => False
section
variable {P : Program} {T : Tab}
theorem funC_walk (m : Nat) (hT : TabOk P T) {f : FuncId} {fn : Func} {c : Code} {n : Nat} (hf : P.funcs[f]? = some fn) (hname : (fn.name == "runtime.NumGoroutine") = false) (hb : fn.body = some c) (hn : fn.ntmps = n)
    {args : List Slot} {objs : List Ob} (hm : m ≤ objs.length) (hk : objs.length ≤ 100) (hp : args.length ≤ n) {Post : Slot → List (Option Ob) → List Ob → Prop}
    (h : fArgs args 0 fun ts => fSets (argL objs 0) fun os => vcK P T n c ⟨ts, os, []⟩ (endC T fn objs.length m Post)) : CallsV P f args objs Post := by
  rw [fArgs_eq, fSets_eq] at h
  have e : S0 args objs = LS.st ⟨argL args 0, argL objs 0, []⟩ := by
    refine stOf_ext (fun t => ?_) (fun o => ?_)
    · show (args[t]?).getD .bad = (alk (argL args 0) t).getD .bad
      rw [alk_argL]; simp
    · show objs[o]? = alk (argL objs 0) o
      rw [alk_argL]; simp
  refine callsV_gen (Fin := fun S => ∃ L, S = L.st ∧ EndC T fn objs.length m L Post) hf hname hb hn hk hp ?_ ?_
  · rw [e]
    refine VC.mono (vcK_ok (P := P) (n := n) hT h).1 fun ex S hS => ?_
    obtain ⟨L, rfl, hq⟩ := hS
    cases ex <;> first | exact ⟨.inl rfl, L, rfl, hq⟩ | exact ⟨.inr rfl, L, rfl, hq⟩ | exact hq.elim
  · intro w B D S' B' a' w' hF hR'
    obtain ⟨L0, rfl, ⟨L, hwk, ss, s0, s1, nids, obs, hss, hs0, hobs, hnd0, hle, hP⟩⟩ := hF
    obtain ⟨B', hR'⟩ := hwk n _ _ _ _ rfl hR'
    obtain ⟨v, hrun, hsr⟩ := run_results hT hR' hss hs0
    refine ⟨v, hrun, ?_⟩
    have hnd := nodupB_ok hnd0
    have hidk : ∀ o, o < m → (List.range m ++ nids)[o]? = some o := fun o ho => by rw [List.getElem?_append_left (by simpa using ho)]; simp [ho]
    have hlen := mapM_length hobs
    have hol : obs.length = m + nids.length := by rw [← hlen]; simp
    generalize hids : List.range m ++ nids = ids at *
    have hv := view_srep (g := true) hR' hobs hnd hsr
    have hA := view_args (g := true) hR' hobs hnd
    obtain ⟨d, hd⟩ : ∃ d, objs.length - m = d := ⟨_, rfl⟩
    rw [hd] at hle hP
    generalize hOb : obs.map (vO true L.st ids) = ob2 at hv hA
    have hob2 : ob2.length = m + nids.length := by rw [← hOb, List.length_map, hol]
    generalize hBN : vB ids B' = BN at hv hA
    have ePost : ((obs.take m).map fun ob => some (rnO (shf m d) (vO true L.st ids ob))) ++ List.replicate d none = ((ob2.take m).map fun ob => some (rnO (shf m d) ob)) ++ List.replicate d none := by
      rw [← hOb, ← List.map_take, List.map_map]; rfl
    have eNews : ((obs.drop m).map fun ob => rnO (shf m d) (vO true L.st ids ob)) = (ob2.drop m).map (rnO (shf m d)) := by
      rw [← hOb, ← List.map_drop, List.map_map]; rfl
    rw [ePost, eNews] at hP
    generalize hO : ((ob2.take m).map fun ob => some (rnO (shf m d) ob)) ++ List.replicate d none = outs at hP
    generalize hN : (ob2.drop m).map (rnO (shf m d)) = news at hP
    have houts : outs.length = objs.length := by rw [← hO]; simp; omega
    let B2 : Pl := ⟨fun o => if o < m then BN.f o else if o < objs.length then none else BN.f (o - d), fun o => if o < m then BN.z o else if o < objs.length then fun _ => False else BN.z (o - d)⟩
    have F1 : ∀ i ob, (So ob2).obj i = some ob → (Sr outs news).obj (if i < m then i else i + d) = some (rnO (shf m d) ob) ∧ B2 (if i < m then i else i + d) = BN i ∧ B2.z (if i < m then i else i + d) = BN.z i := by
      intro i ob hi
      have hi' : ob2[i]? = some ob := hi
      have hil : i < ob2.length := (List.getElem?_eq_some_iff.1 hi').1
      by_cases him : i < m
      · rw [if_pos him]
        refine ⟨?_, if_pos him, if_pos him⟩
        simp only [Sr, houts]
        rw [if_pos (by omega), ← hO, List.getElem?_append_left (by simp; omega), List.getElem?_map, List.getElem?_take, if_pos him, hi']; rfl
      · rw [if_neg him]
        have e1 : ¬ i + d < m := by omega
        have e2 : ¬ i + d < objs.length := by omega
        refine ⟨?_, ?_, ?_⟩
        · simp only [Sr, houts]
          rw [if_neg e2, ← hN, List.getElem?_map, List.getElem?_drop, show m + (i + d - objs.length) = i by omega, hi']; rfl
        · show (if i + d < m then BN.f (i + d) else if i + d < objs.length then none else BN.f (i + d - d)) = BN.f i
          rw [if_neg e1, if_neg e2, Nat.add_sub_cancel]
        · show (if i + d < m then BN.z (i + d) else if i + d < objs.length then fun _ => False else BN.z (i + d - d)) = BN.z i
          rw [if_neg e1, if_neg e2, Nat.add_sub_cancel]
    have F2 : ∀ o ob, (Sr outs news).obj o = some ob → ∃ i ob0, (So ob2).obj i = some ob0 ∧ ob = rnO (shf m d) ob0 ∧ o = if i < m then i else i + d := by
      intro o ob ho
      simp only [Sr, houts] at ho
      by_cases hlt : o < objs.length
      · rw [if_pos hlt, ← hO] at ho
        by_cases hom : o < m
        · rw [List.getElem?_append_left (by simp; omega), List.getElem?_map, List.getElem?_take, if_pos hom, List.getElem?_eq_getElem (by omega)] at ho
          simp at ho
          exact ⟨o, ob2[o]'(by omega), List.getElem?_eq_getElem (by omega), ho.symm, (if_pos hom).symm⟩
        · rw [List.getElem?_append_right (by simp; omega)] at ho
          rw [List.getElem?_replicate] at ho
          split at ho <;> cases ho
      · rw [if_neg hlt, ← hN, List.getElem?_map, List.getElem?_drop] at ho
        obtain ⟨ob0, h0, h1⟩ := Option.map_eq_some_iff.1 ho
        refine ⟨m + (o - objs.length), ob0, h0, h1.symm, ?_⟩
        rw [if_neg (by omega)]; omega
    have live : ∀ o, (Sr outs news).obj o ≠ none → ∃ i ob0, (So ob2).obj i = some ob0 ∧ (o = if i < m then i else i + d) ∧ B2 o = BN i ∧ B2.z o = BN.z i ∧ ∀ b, Ow B2 o b ↔ Ow BN i b := by
      intro o ho
      obtain ⟨ob, hob⟩ := Option.ne_none_iff_exists'.1 ho
      obtain ⟨i, ob0, h0, _, h2⟩ := F2 o ob hob
      obtain ⟨_, h4, h5⟩ := F1 i ob0 h0
      rw [← h2] at h4 h5
      exact ⟨i, ob0, h0, h2, h4, h5, fun b => by unfold Ow; rw [h4, h5]⟩
    have hdp : ∀ b, dep (dinOf w D objs B) (So ob2) BN b → dep (dinOf w D objs B) (Sr outs news) B2 b := by
      intro b hb
      refine ⟨hb.1, fun o ho hx => ?_⟩
      obtain ⟨i, ob0, h0, _, _, _, h3⟩ := live o ho
      exact hb.2 i (by rw [h0]; simp) ((h3 b).1 hx)
    have el : ∀ l v, LRep w' (dinOf w D objs B) (So ob2) BN l v → LRep w' (dinOf w D objs B) (Sr outs news) B2 (rn (shf m d) l) v := fun l v hl =>
      LRep.rn (Nat.le_refl _) (fun _ _ _ => rfl) (fun b hb _ => hdp b hb) (fun o o' ob hr ho => by
        have e3 : o' = if o < m then o else o + d := (Option.some.inj hr).symm
        subst e3
        obtain ⟨h1, h2, _⟩ := F1 o ob ho
        exact ⟨h2, _, h1, rnO_shape _ _⟩) hl
    have er : ∀ l v, RepL w' (dep (dinOf w D objs B) (So ob2) BN) l v → RepL w' (dep (dinOf w D objs B) (Sr outs news) B2) l v := fun l v hl => RepL_mono (Nat.le_refl _) (fun _ _ _ => rfl) (fun b hb _ => hdp b hb) l v hl
    have hst : ∀ i ob0, (So ob2).obj i = some ob0 → ∃ x ob1, ids[i]? = some x ∧ L.st.obj x = some ob1 ∧ ob0 = vO true L.st ids ob1 := by
      intro i ob0 h0
      have h0' : ob2[i]? = some ob0 := h0
      rw [← hOb, List.getElem?_map] at h0'
      obtain ⟨ob1, h1, h2⟩ := Option.map_eq_some_iff.1 h0'
      obtain ⟨x, hx, hox⟩ := obs_ids hobs h1
      exact ⟨x, ob1, hx, hox, h2.symm⟩
    refine ⟨s1, outs, news, B2, hP, ?_, ?_⟩
    · refine ⟨houts, fun o ob ho => ?_, fun o o' b ho ho' hb hb' => ?_, fun o hlt ho => ?_, fun o b ho hb => ?_, hR'.frame, fun o ob hlt ho => ?_⟩
      · obtain ⟨i, ob0, h0, rfl, h2⟩ := F2 o ob ho
        obtain ⟨_, h4, h5⟩ := F1 i ob0 h0
        rw [← h2] at h4 h5
        exact (hA.obs i ob0 h0).rnO h4 h5 el er fun _ _ => rfl
      · obtain ⟨i, ob0, h0, h2, _, _, h3⟩ := live o ho
        obtain ⟨i', ob0', h0', h2', _, _, h3'⟩ := live o' ho'
        have := hA.injO i i' b (by rw [h0]; simp) (by rw [h0']; simp) ((h3 b).1 hb) ((h3' b).1 hb')
        subst this
        rw [h2, h2']
      · obtain ⟨i, ob0, h0, h2, h4, _, _⟩ := live o ho
        have him : i < m := by
          rcases Nat.lt_or_ge i m with h | h
          · exact h
          · rw [if_neg (by omega)] at h2; omega
        rw [if_pos him] at h2
        subst h2
        obtain ⟨x, ob1, hx, hox, _⟩ := hst o ob0 h0
        rw [hidk o him] at hx
        cases hx
        rw [h4, ← hBN]
        have : vB ids B' o = B' o := by simp [vB, hidk o him]
        rw [this]
        exact hR'.keep o hlt (by simp [hox])
      · obtain ⟨i, ob0, h0, h2, _, _, h3⟩ := live o ho
        obtain ⟨x, ob1, hx, hox, _⟩ := hst i ob0 h0
        have hb2 := (h3 b).1 hb
        rw [← hBN] at hb2
        have := hR'.mineO x b (by simp [hox]) ((vB_ow hx b).1 hb2)
        exact ⟨this.1, this.2.1⟩
      · obtain ⟨i, ob0, h0, rfl, h2⟩ := F2 o ob ho
        have him : i < m := by
          rcases Nat.lt_or_ge i m with h | h
          · exact h
          · rw [if_neg (by omega)] at h2; omega
        rw [if_pos him] at h2
        subst h2
        obtain ⟨x, ob1, hx, hox, rfl⟩ := hst o ob0 h0
        rw [hidk o him] at hx
        cases hx
        obtain ⟨obz, h5, h6⟩ := hR'.shape o ob1 hlt hox
        exact ⟨obz, h5, (h6.trans (vO_shape _ _ _ _)).trans (rnO_shape _ _)⟩
    · exact hle.rep (hv.rnS el)
/-- Such an end of which one of many outcomes has come about. -/
theorem endCR {α : Type} {C : α → Prop} {s : α → Slot} {outs : α → List (Option Ob)} {news : α → List Ob} {fn : Func} {k m : Nat} {L : LS} (nids : List Nat) (y : α) {ss : List Slot} {s0 : Slot} {obs : List Ob}
    (h1 : fn.results.toList.mapM (resSlot T L.st) = some ss) (h2 : resAll ss = some s0) (h3 : (List.range m ++ nids).mapM L.st.obj = some obs) (h4 : nodupB (List.range m ++ nids) = true)
    (h6 : LeS (rnS (shf m (k - m)) (vS true L.st (List.range m ++ nids) s0)) (s y)) (h7 : ((obs.take m).map fun ob => some (rnO (shf m (k - m)) (vO true L.st (List.range m ++ nids) ob))) ++ List.replicate (k - m) none = outs y) (h8 : ((obs.drop m).map fun ob => rnO (shf m (k - m)) (vO true L.st (List.range m ++ nids) ob)) = news y) (hC : C y) : EndC T fn k m L (relQ C s outs news) :=
  ⟨L, fun n => .refl n _, ss, s0, s y, nids, obs, h1, h2, h3, h4, h6, y, hC, rfl, h7, h8⟩
theorem EndC.wk {fn : Func} {k m : Nat} {L L' : LS} {Post : Slot → List (Option Ob) → List Ob → Prop} (hw : ∀ n, Wk n L.st L'.st) (h : EndC T fn k m L' Post) : EndC T fn k m L Post := by
  obtain ⟨L1, hw', r⟩ := h.h
  exact ⟨L1, fun n => (hw n).trans (hw' n), r⟩
end
end Go.Vl

namespace Go.Vl
open Go Go.RowKit Go.Proofs
set_option maxRecDepth 100000
set_option linter.unusedSimpArgs false
set_option linter.unusedVariables false
set_option linter.unnecessarySimpa false

structure VTable.dr (t : VTable) : Prop where
  fl : t.first.length ≤ 10
  fs : smlCols t.first
  cl : t.changes.length ≤ 8
  cs : smlChs t.changes
  rl : t.rows.length ≤ 8
  rs : t.rows = [] ∨ (shAll t.first t.changes).2 = true
  rw : ∀ r ∈ t.rows, (0 ≤ r.ver ∧ r.ver ≤ (t.changes.length : Int)) ∧ r.vals.length = (tSh t r.ver.toNat).length ∧ mdVals r.vals
  nx : 0 ≤ t.next ∧ t.next ≤ 60
theorem VTable.dr.md {t : VTable} (h : t.dr) : t.md := by
  have h1 := h.fl
  have h2 := h.cl
  refine ⟨by omega, h.fs.md, h.cs.md, by have := h.rl; omega, fun r hr => ?_⟩
  obtain ⟨h3, h4, h5⟩ := h.rw r hr
  have h6 := tSh_len t r.ver.toNat
  exact ⟨by omega, h5⟩
theorem VTable.dr.lenL {t : VTable} (h : t.dr) : (tL t).length ≤ 18 := by
  have h1 := h.fl
  have h2 := h.cl
  have := tL_len t
  omega
theorem VTable.dr.now {t : VTable} (h : t.dr) {r : VRow} (hr : r ∈ t.rows) : (tNow t r).length = (tL t).length := by
  rcases h.rs with h1 | h1
  · rw [h1] at hr; cases hr
  · exact (tNow_go h1 (h.rw r hr).2.1).2
theorem chGo_sml : ∀ {l : List Change} {s a : List Col}, chGo s l = some a → smlCols s → smlChs l → smlCols a
  | [], s, a, h, hs, _ => by cases h; exact hs
  | c :: l, s, a, h, hs, hc => by
    rw [chGo] at h
    split at h
    · rename_i h1
      obtain ⟨ho, L, h2, h3⟩ := shDo_ok h1
      exact chGo_sml h (by rw [h3]; exact chDo_sml hs (hc c (by simp)) h2) fun x hx => hc x (by simp [hx])
    · cases h
theorem tL_sml {t : VTable} (h : t.dr) : smlCols (tL t) := by
  unfold tL
  cases h2 : (shAll t.first t.changes).2 with
  | false => rw [shAll_no h2]; exact fun x hx => by cases hx
  | true =>
    obtain ⟨ho, L, hg⟩ := shAll_go h2
    rw [shAll_yes ho hg]
    exact chGo_sml hg h.fs h.cs
theorem sh_of_L {t : VTable} (h : shapeOk (tL t) = true) : (shAll t.first t.changes).2 = true := by
  cases h2 : (shAll t.first t.changes).2 with
  | true => rfl
  | false =>
    have e : tL t = [] := by unfold tL; rw [shAll_no h2]
    rw [e] at h
    exact absurd h (by decide)
theorem tSh_len' (t : VTable) : tSh t t.changes.length = tL t := tSh_all (Nat.le_refl _)
theorem dr_put {t : VTable} (h : t.dr) {vals : List Val} (hv : mdVals vals) (hr : rowOk (tL t) vals = true) (h8 : t.rows.length < 8) (h6 : t.next < 60) : VTable.dr ⟨t.first, t.changes, t.rows ++ [⟨t.next, (t.changes.length : Int), vals⟩], t.next + 1⟩ := by
  have hs : shapeOk (tL t) = true := by unfold rowOk at hr; rw [Bool.and_eq_true] at hr; exact hr.1
  refine ⟨h.fl, h.fs, h.cl, h.cs, by simp; omega, .inr (sh_of_L hs), fun r hr2 => ?_, by have := h.nx; simp only; omega⟩
  rcases List.mem_append.1 hr2 with hr2 | hr2
  · exact h.rw r hr2
  · simp only [List.mem_singleton] at hr2
    subst hr2
    refine ⟨⟨by simp only; omega, by simp only; omega⟩, ?_, hv⟩
    have e : tSh ⟨t.first, t.changes, t.rows ++ [⟨t.next, (t.changes.length : Int), vals⟩], t.next + 1⟩ ((t.changes.length : Int).toNat) = tSh t t.changes.length := by unfold tSh; rw [Int.toNat_natCast]
    show vals.length = _
    rw [e, tSh_len']
    exact rowOk_len hr
theorem dr_set {t : VTable} (h : t.dr) {vals : List Val} (hv : mdVals vals) (hr : rowOk (tL t) vals = true) (k : Nat) (id : Int) : VTable.dr ⟨t.first, t.changes, t.rows.set k ⟨id, (t.changes.length : Int), vals⟩, t.next⟩ := by
  have hs : shapeOk (tL t) = true := by unfold rowOk at hr; rw [Bool.and_eq_true] at hr; exact hr.1
  refine ⟨h.fl, h.fs, h.cl, h.cs, by simp only [List.length_set]; exact h.rl, .inr (sh_of_L hs), fun r hr2 => ?_, h.nx⟩
  rcases List.mem_or_eq_of_mem_set hr2 with hr2 | hr2
  · exact h.rw r hr2
  · subst hr2
    refine ⟨⟨by simp only; omega, by simp only; omega⟩, ?_, hv⟩
    have e : tSh ⟨t.first, t.changes, t.rows.set k ⟨id, (t.changes.length : Int), vals⟩, t.next⟩ ((t.changes.length : Int).toNat) = tSh t t.changes.length := by unfold tSh; rw [Int.toNat_natCast]
    show vals.length = _
    rw [e, tSh_len']
    exact rowOk_len hr
theorem dr_rows {t : VTable} (h : t.dr) {rows : List VRow} (hs : ∀ r ∈ rows, r ∈ t.rows) (hl : rows.length ≤ 8) : VTable.dr ⟨t.first, t.changes, rows, t.next⟩ := by
  refine ⟨h.fl, h.fs, h.cl, h.cs, hl, ?_, fun r hr => h.rw r (hs r hr), h.nx⟩
  rcases h.rs with h1 | h1
  · left
    rw [h1] at hs
    cases rows with
    | nil => rfl
    | cons x xs => exact absurd (hs x (by simp)) (by simp)
  · exact .inr h1
theorem dr_chg {t : VTable} (h : t.dr) {c : Change} (hc : c.sml) (hk : (sdo (tL t) c).2 = true) (h8 : t.changes.length < 8) : VTable.dr ⟨t.first, t.changes ++ [c], t.rows, t.next⟩ := by
  obtain ⟨hs, hd⟩ := sdo_sh hk
  have hsh := sh_of_L hs
  obtain ⟨ho, L, hg⟩ := shAll_go hsh
  have hL : tL t = L := by unfold tL; rw [shAll_yes ho hg]
  have hg2 : chGo t.first (t.changes ++ [c]) = some (shDo L c).1 := by
    rw [chGo_app, hg]
    rw [hL] at hd
    show chGo L [c] = _
    rw [chGo, if_pos hd]; rfl
  refine ⟨h.fl, h.fs, by simp; omega, h.cs.app hc, h.rl, .inr (by show (shAll t.first (t.changes ++ [c])).2 = true; rw [shAll_yes ho hg2]), fun r hr => ?_, h.nx⟩
  obtain ⟨h3, h4, h5⟩ := h.rw r hr
  refine ⟨⟨h3.1, by have := h3.2; simp only [List.length_append, List.length_cons, List.length_nil]; omega⟩, ?_, h5⟩
  rw [h4]
  have e : tSh ⟨t.first, t.changes ++ [c], t.rows, t.next⟩ r.ver.toNat = tSh t r.ver.toNat := by
    unfold tSh
    simp only
    rw [List.take_append_of_le_length (by omega)]
  rw [e]
theorem dr_nil {s : List Col} (h : smlCols s) (hl : s.length ≤ 10) : VTable.dr ⟨s, [], [], 1⟩ := ⟨hl, h, by simp, fun x hx => (by cases hx), by simp, .inl rfl, fun x hx => (by cases hx), by simp⟩
theorem dr_zero : VTable.dr zTab := ⟨by decide, fun x hx => (by cases hx), by decide, fun x hx => (by cases hx), by decide, .inl rfl, fun x hx => (by cases hx), by decide⟩
end Go.Vl

namespace Go.Vl
open Go Go.RowKit Go.Proofs
set_option maxRecDepth 100000
set_option linter.unusedSimpArgs false
set_option linter.unusedVariables false
set_option linter.unnecessarySimpa false

def pIx {α : Type} (p : α → Bool) : List α → Nat → Int
  | [], _ => -1
  | x :: xs, i => if p x then (i : Int) else pIx p xs (i + 1)
theorem pIx_lt {α : Type} {p : α → Bool} : ∀ (l : List α) (i : Nat), -1 ≤ pIx p l i ∧ pIx p l i < (i + l.length : Nat)
  | [], i => by simp only [pIx]; omega
  | r :: rs, i => by
    have h := pIx_lt (p := p) rs (i + 1)
    rw [pIx, List.length_cons]
    split <;> omega
theorem pIx_at {α : Type} {p : α → Bool} : ∀ (l : List α) (s i : Nat), pIx p l s = ((s + i : Nat) : Int) → ∃ h : i < l.length, p l[i] = true ∧ ∀ j (hj : j < i), p (l[j]'(by omega)) = false
  | [], s, i, h => by rw [pIx] at h; omega
  | x :: xs, s, i, h => by
    rw [pIx] at h
    split at h
    · rename_i hp
      have : i = 0 := by omega
      subst this
      exact ⟨by simp, by simpa using hp, fun j hj => by omega⟩
    · rename_i hp
      have hlt := pIx_lt (p := p) xs (s + 1)
      cases i with
      | zero =>
        exfalso
        have key : ∀ (l : List α) (s : Nat), pIx p l (s + 1) ≠ (s : Int) := by
          intro l
          induction l with
          | nil => intro s; rw [pIx]; omega
          | cons y ys ih =>
            intro s; rw [pIx]; split
            · omega
            · intro e
              have h3 : ∀ (l : List α) (u v : Nat), v < u → pIx p l u ≠ (v : Int) := by
                intro l
                induction l with
                | nil => intro u v _; rw [pIx]; omega
                | cons z zs ih => intro u v huv; rw [pIx]; split; omega; exact ih (u + 1) v (by omega)
              exact h3 ys (s + 1 + 1) s (by omega) e
        exact key xs s (by simpa using h)
      | succ i =>
        obtain ⟨h1, h2, h3⟩ := pIx_at xs (s + 1) i (by rw [h]; omega)
        refine ⟨by simpa using h1, by simpa using h2, fun j hj => ?_⟩
        cases j with
        | zero => simpa using hp
        | succ j => simpa using h3 j (by omega)

-- bases
def zTb : VTab := ⟨⟨#[]⟩, ⟨[], [], [], 0⟩⟩
def zLk : VLink := ⟨⟨#[]⟩, ⟨#[]⟩, ⟨#[]⟩, 0⟩
abbrev isTab (nm : ByteArray) (t : VTab) : Bool := t.name.toList == nm.toList
abbrev isLk (s c : ByteArray) (l : VLink) : Bool := l.src.toList == s.toList && l.col.toList == c.toList
def tabIx (b : VBase) (nm : ByteArray) : Int := pIx (isTab nm) b.tabs 0
def tabOf (b : VBase) (nm : ByteArray) : VTable := (b.tabs.getD (tabIx b nm).toNat zTb).table
def lkAt (b : VBase) (l : VLink) : Int := nameAt (tL (tabOf b l.src)) l.col
def lkC (b : VBase) (l : VLink) : Col := (tL (tabOf b l.src)).getD (lkAt b l).toNat (kCol 0)
def fitB (b : VBase) (l : VLink) : Bool :=
  !decide (tabIx b l.src < 0) && (!decide (tabIx b l.dst < 0) && (decide (1 ≤ l.how ∧ l.how ≤ 3) && (decide (0 ≤ lkAt b l) && ((lkC b l).kind == 1 && (!(l.how == 3) || !(lkC b l).need)))))
def lkV (b : VBase) (l : VLink) (r : VRow) : Val := (tNow (tabOf b l.src) r).getD (lkAt b l).toNat zVal
def holdR (b : VBase) (l : VLink) (r : VRow) : Bool := (lkV b l r).k == 0 || !decide (tAt (tabOf b l.dst) (lkV b l r).n < 0)
def holdB (b : VBase) (l : VLink) : Bool := (tabOf b l.src).rows.all (holdR b l)
def lkIx (b : VBase) (s c : ByteArray) : Int := pIx (isLk s c) b.links 0
def tabB (b : VBase) (i : Nat) : Bool := nameOk (b.tabs.getD i zTb).name && (tabIx b (b.tabs.getD i zTb).name == (i : Int) && tabOk (b.tabs.getD i zTb).table)
def linkB (b : VBase) (i : Nat) : Bool := fitB b (b.links.getD i zLk) && (holdB b (b.links.getD i zLk) && lkIx b (b.links.getD i zLk).src (b.links.getD i zLk).col == (i : Int))
structure BOkB (b : VBase) : Prop where
  tb : ∀ i, i < b.tabs.length → tabB b i = true
  lk : ∀ i, i < b.links.length → linkB b i = true
  t3 : b.tabs.length ≤ 3
  l4 : b.links.length ≤ 4
theorem tabB_iff {b : VBase} {i : Nat} : tabB b i = true ↔ nameOk (b.tabs.getD i zTb).name = true ∧ tabIx b (b.tabs.getD i zTb).name = (i : Int) ∧ tabOk (b.tabs.getD i zTb).table = true := by
  unfold tabB; simp only [Bool.and_eq_true, beq_iff_eq]
theorem fitB_iff {b : VBase} {l : VLink} : fitB b l = true ↔ ¬ tabIx b l.src < 0 ∧ ¬ tabIx b l.dst < 0 ∧ (1 ≤ l.how ∧ l.how ≤ 3) ∧ 0 ≤ lkAt b l ∧ (lkC b l).kind = 1 ∧ (l.how = 3 → (lkC b l).need = false) := by
  unfold fitB
  simp only [Bool.and_eq_true, Bool.not_eq_true', decide_eq_true_eq, decide_eq_false_iff_not, beq_iff_eq, Bool.or_eq_true]
  refine and_congr Iff.rfl (and_congr Iff.rfl (and_congr Iff.rfl (and_congr Iff.rfl (and_congr Iff.rfl ?_))))
  by_cases h : l.how = 3
  · simp [h]
  · simp [h]
theorem tabIx_mem {b : VBase} {nm : ByteArray} (h : ¬ tabIx b nm < 0) : ∃ hi : (tabIx b nm).toNat < b.tabs.length, b.tabs.getD (tabIx b nm).toNat zTb = b.tabs[(tabIx b nm).toNat] ∧ tabOf b nm = (b.tabs[(tabIx b nm).toNat]).table ∧ (b.tabs[(tabIx b nm).toNat]).name.toList = nm.toList := by
  have hl := pIx_lt (p := isTab nm) b.tabs 0
  have hi : (tabIx b nm).toNat < b.tabs.length := by unfold tabIx at h ⊢; omega
  have e : b.tabs.getD (tabIx b nm).toNat zTb = b.tabs[(tabIx b nm).toNat] := by simp [hi]
  obtain ⟨_, h2, _⟩ := pIx_at b.tabs 0 (tabIx b nm).toNat (by show tabIx b nm = _; omega)
  exact ⟨hi, e, by unfold tabOf; rw [e], by simpa using h2⟩
theorem tabOf_mem {b : VBase} {nm : ByteArray} (h : ¬ tabIx b nm < 0) : ∃ t ∈ b.tabs, tabOf b nm = t.table := by
  obtain ⟨hi, _, h2, _⟩ := tabIx_mem h
  exact ⟨_, List.getElem_mem hi, h2⟩
theorem BOkB.tab {b : VBase} (h : BOkB b) {nm : ByteArray} (hn : ¬ tabIx b nm < 0) : tabOk (tabOf b nm) = true := by
  obtain ⟨hi, h1, h2, _⟩ := tabIx_mem hn
  have := (tabB_iff.1 (h.tb _ hi)).2.2
  rw [h1] at this
  rw [h2]; exact this

-- refs
-- steps that put things in, one by one
section
variable {α : Type} (cond : List VRef → α → Bool) (key : α → VRef)
variable {cond key}
end
end Go.Vl

namespace Go.Vl
open Go Go.RowKit Go.Proofs
set_option maxRecDepth 100000
set_option linter.unusedSimpArgs false
set_option linter.unusedVariables false
set_option linter.unnecessarySimpa false

inductive Rch (b : VBase) (s : VRef) : VRef → Prop
  | start : Rch b s s
  | step {l : VLink} {r : VRow} : l ∈ b.links → l.how = 2 → r ∈ (tabOf b l.src).rows → (lkV b l r).k ≠ 0 → Rch b s ⟨l.dst, (lkV b l r).n⟩ → Rch b s ⟨l.src, r.id⟩
/-- What has been found is all. -/
structure Fnd (b : VBase) (s : VRef) (K : List VRef) : Prop where
  snd : ∀ r ∈ K, Rch b s r
  st : s ∈ K
  cl : ∀ l ∈ b.links, l.how = 2 → ∀ r ∈ (tabOf b l.src).rows, (lkV b l r).k ≠ 0 → (⟨l.dst, (lkV b l r).n⟩ : VRef) ∈ K → (⟨l.src, r.id⟩ : VRef) ∈ K
theorem Fnd.all {b : VBase} {s : VRef} {K : List VRef} (h : Fnd b s K) {r : VRef} : r ∈ K ↔ Rch b s r := by
  refine ⟨h.snd r, fun hr => ?_⟩
  induction hr with
  | start => exact h.st
  | step h1 h2 h3 h4 _ ih => exact h.cl _ h1 h2 _ h3 h4 ih
-- by links
-- by tables and rows
end Go.Vl

namespace Go.Vl
open Go Go.RowKit Go.Proofs
set_option maxRecDepth 100000
set_option linter.unusedSimpArgs false
set_option linter.unusedVariables false
set_option linter.unnecessarySimpa false
set_option maxHeartbeats 8000000

structure VBase.md (b : VBase) : Prop where
  tl : b.tabs.length ≤ 1048576
  tm : ∀ t ∈ b.tabs, t.name.size ≤ maxLen ∧ t.table.md
  ll : b.links.length ≤ 1048576
  lm : ∀ l ∈ b.links, l.ok
theorem nameAt_bd (s : List Col) (nm : ByteArray) : nameAt s nm < s.length ∧ -1 ≤ nameAt s nm := by
  rcases nameAt_spec s nm with ⟨h, _⟩ | ⟨j, hj, h, _⟩ <;> omega
theorem rowCZ {s : List Col} {z : Int} (h0 : 0 ≤ z) (h1 : z < s.length) : (s.map encCol)[z.toNat]? = some (encCol (s.getD z.toNat (kCol 0))) := by
  have hz : z.toNat < s.length := by omega
  have e : s.getD z.toNat (kCol 0) = s[z.toNat] := by simp [List.getD, hz]
  rw [e, List.getElem?_map, List.getElem?_eq_getElem hz]; rfl
end Go.Vl

namespace Go.Vl
open Go Go.RowKit Go.Proofs
set_option maxRecDepth 100000
set_option linter.unusedSimpArgs false
set_option linter.unusedVariables false
set_option linter.unnecessarySimpa false
set_option maxHeartbeats 8000000

structure LkOk (b : VBase) (l : VLink) : Prop where
  md : b.md
  ok : ∀ t ∈ b.tabs, tabOk t.table = true
  i : ¬ tabIx b l.src < 0
  j : ¬ tabIx b l.dst < 0
  z : 0 ≤ lkAt b l
theorem LkOk.tab {b : VBase} {l : VLink} (h : LkOk b l) : tabOk (tabOf b l.src) = true := by
  obtain ⟨t, ht, e⟩ := tabOf_mem h.i
  rw [e]; exact h.ok t ht
theorem LkOk.now {b : VBase} {l : VLink} (h : LkOk b l) {i : Nat} (hi : i < (tabOf b l.src).rows.length) : lkAt b l < (tNow (tabOf b l.src) (tabOf b l.src).rows[i]).length := by
  have h2 := (tNow_go (tabOk_iff.1 h.tab).sh (rowFacts h.tab hi).2).2
  have := (nameAt_bd (tL (tabOf b l.src)) l.col).1
  unfold lkAt; omega
end Go.Vl

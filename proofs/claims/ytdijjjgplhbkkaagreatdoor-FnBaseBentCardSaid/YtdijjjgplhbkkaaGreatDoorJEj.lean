/- Contract: a table copied (spec.l3Copy): columns, changes and rows of its own, the rows' values never written again. A table as it is now, without changes: both sides. Law: a table as it is now, without changes. A new table: both sides; marks of it. Generic: functions that take over what is handed to them: ends behind which only the first things handed in stay. Tables drawn: what holds of them, and goes on. Bases: what a right one is; what goes with a row; plain laws. What goes with a row of a base: both ways of finding it find the same. Contracts: bases: places of tables and links; links that fit and hold: the program's. -/
import Derived.Test.YtdijjjgplhbkkaaGreatDoorJEa
import Derived.Test.YtdijjjgplhbkkaaGreatDoorJEi
import Derived.Test.YtdijjjgplhbkkaaGreatDoorWl
import Derived.Test.YtdijjjgplhbkkaaGreatDoorWj
import Derived.Test.YtdijjjgplhbkkaaGreatDoorJEe
set_option linter.unusedSimpArgs false
set_option linter.unusedVariables false
set_option linter.unnecessarySimpa false
set_option maxRecDepth 100000
set_option maxHeartbeats 16000000

namespace Go.Vl
open Go Go.RowKit Go.Proofs
theorem c_l3Copy (t : VTable) (ht : t.md) : CallsV Tryz.prog 69 [.agg (encVTable t)] [] (funQ (tabS t) [] [.arr 39 7 (t.first.map encCol), .arr 105 10 (t.changes.map encChange), .arr 35 3 (t.rows.map encVRow)]) := by
  have hfc := ht.fc
  have hrl := ht.r
  have hrm := ht.rm
  refine funF_walk hTb Tryz.func69 rfl rfl Tryz.ntmps69 (by simp) (by simp) ?_
  have a1 : t.first.length ≤ 2000000 := by omega
  have a2 : t.changes.length ≤ 2000000 := by omega
  (conv => whnf); repeat' ((first | (refine VL.drawS hTb hMix (by kernel_rfl) (by kernel_rfl) (by kernel_rfl) ?_)) <;> conv => whnf)
  refine DT.opk hTb rfl (o_app0 (f := encCol) (m := t.first) (q := 108) hTb rfl rfl rfl rfl rfl rfl rfl rfl rfl rfl (by omega) (by show _ * 64 ≤ _; omega) (by unfold maxLen; omega)) ?_
  conv => whnf
  refine DT.opk hTb rfl (o_app0 (f := encChange) (m := t.changes) (q := 112) hTb rfl rfl rfl rfl rfl rfl rfl rfl rfl rfl (by omega) (by show _ * 104 ≤ _; omega) (by unfold maxLen; omega)) ?_
  (conv => whnf); repeat' ((first | (refine And.intro ?_ ?_ <;> ((try intro h) <;> (try simp only [Bool.not_true, Bool.not_false] at h) <;> first | exact absurd h gF | exact absurd h.symm gF | conv => whnf)) | (refine Need.mk ?_; kernel_rfl)) <;> conv => whnf)
  refine VL.loopI hTb (fun i => i ≤ t.rows.length) (fun i => ⟨[(1, .one (.ptr 101 0)), (2, .one (.ptr 102 0)), (3, .one (.ptr 103 0)), (4, iS i)], [(101, .box (encVTable t)), (102, .box [.g (.slice none 0 0), .g (.slice none 0 0), .g (.slice none 0 0), .g (.int .i64 0)]), (103, .box [.own 108 0 t.first.length, .own 112 0 t.changes.length, .own 120 0 (t.rows.take i).length, .g (.int .i64 t.next)]), (108, .arr 39 7 (t.first.map encCol)), (112, .arr 105 10 (t.changes.map encChange)), (120, .arr 35 3 ((t.rows.take i).map encVRow))], []⟩) (fun i => t.rows.length - i) 0 (Nat.zero_le _)
    ((wk_nilBox _ (q0 := 103) (j := 2) (q := 120) (sz := 3) (E := 35) rfl rfl rfl (by decide)).trans (wk_to [(101, 101), (102, 102), (103, 103), (108, 108), (112, 112), (120, 120)] rfl rfl rfl ⟨rfl, rfl, rfl, rfl, trivial⟩ ⟨rfl, ⟨_, rfl, rfl⟩, rfl, ⟨_, rfl, rfl⟩, rfl, ⟨_, rfl, rfl⟩, rfl, ⟨_, rfl, rfl⟩, rfl, ⟨_, rfl, rfl⟩, rfl, ⟨_, rfl, rfl⟩, trivial⟩)) (fun i hi => ?_)
  (conv => whnf)
  refine And.intro (fun h2 => ?_) (fun h2 => ?_)
  · have hil : i < t.rows.length := by simpa using h2
    have hrw := rowVRow hil
    have hvl := (hrm _ (List.getElem_mem hil)).1
    have htk := List.take_succ_eq_append_getElem hil
    have hml : (t.rows.take i).length ≤ 1048576 := by simp; omega
    generalize t.rows.take i = M at htk hml ⊢
    generalize t.rows[i] = ri at hrw hvl htk
    (conv => whnf); repeat' ((first | (refine VL.drawS hTb hMix (by kernel_rfl) (by kernel_rfl) (by kernel_rfl) ?_) | (refine DT.op hTb rfl (o_index_imm hTb rfl rfl rfl rfl rfl rfl rfl (by omega) (hrw)) rfl ?_)) <;> conv => whnf)
    refine DT.opk hTb rfl (o_appF (q := 144) hTb rfl rfl rfl rfl rfl rfl rfl rfl rfl rfl (by decide) (by show _ * 32 ≤ _; simp; omega) (by unfold maxLen; simp; omega)) ?_
    conv => whnf
    refine DT.opk hTb rfl (o_app1 (q := 147) (a := ri) hTb rfl rfl rfl rfl rfl rfl rfl rfl rfl rfl rfl rfl (by omega) (by show _ * 40 ≤ _; omega) (by unfold maxLen; omega)) ?_
    (conv => whnf); repeat' ((first | (refine And.intro ?_ ?_ <;> ((try intro h) <;> (try simp only [Bool.not_true, Bool.not_false] at h) <;> first | exact absurd h gF | exact absurd h.symm gF | conv => whnf)) | (refine Need.mk ?_; kernel_rfl)) <;> conv => whnf)
    exact ⟨i + 1, hil, by omega, wk_to [(101, 101), (102, 102), (103, 103), (108, 108), (112, 112), (147, 120)] rfl rfl rfl ⟨rfl, rfl, rfl, gW (by unfold maxLen; omega), trivial⟩ ⟨rfl, ⟨_, rfl, rfl⟩, rfl, ⟨_, rfl, rfl⟩, rfl, ⟨_, rfl, congrArg (fun n => Ob.box [.own 108 0 t.first.length, .own 112 0 t.changes.length, .own 120 0 n, .g (.int .i64 t.next)]) (by rw [htk]; simp)⟩, rfl, ⟨_, rfl, rfl⟩, rfl, ⟨_, rfl, rfl⟩, rfl, ⟨_, rfl, congrArg (fun r : List VRow => Ob.arr 35 3 (r.map encVRow)) htk.symm⟩, trivial⟩⟩
  · have hie : i = t.rows.length := by simp at h2; omega
    subst hie
    rw [List.take_length]
    (conv => whnf)
    exact endW [108, 112, 120] rfl rfl rfl rfl rfl (LeS.refl _) rfl rfl
theorem CallsV.leR {P : Program} {f : FuncId} {args : List Slot} {objs : List Ob} {s s' : Slot} {outs : List (Option Ob)} {news : List Ob} (h : CallsV P f args objs (funQ s outs news)) (e : LeS s s') : CallsV P f args objs (funQ s' outs news) :=
  ⟨h.1, fun w B D vals h1 h2 => (h.2 w B D vals h1 h2).mono fun _ _ ⟨v, s1, outs1, news1, B', he, ⟨e1, e2, e3⟩, hr, hs⟩ => ⟨v, s', outs1, news1, B', he, ⟨rfl, e2, e3⟩, hr, e.rep (e1 ▸ hs)⟩⟩
def zTab : VTable := ⟨[], [], [], 0⟩
abbrev nilTab : Slot := .agg [.g (.slice none 0 0), .g (.slice none 0 0), .g (.slice none 0 0), .g (.int .i64 0)]
abbrev nilG : Leaf := .g (.slice none 0 0)
def tNewT (cs : List Col) : VTable := if shapeOk cs = true then ⟨cs, [], [], 1⟩ else zTab
theorem c_specTabNew (cs : List Col) (hl : cs.length ≤ 2000000) (ho : ∀ c ∈ cs, c.ok) : CallsV Tryz.prog 29 [colsI cs] [] (pureQ (.agg (encVTable (tNewT cs)))) := by
  have c1 := c_specShapeOk cs (by unfold maxLen; omega) ho
  unfold tNewT
  cases hk : shapeOk cs with
  | false =>
    rw [hk] at c1
    rw [if_neg (by simp)]
    have h : CallsV Tryz.prog 29 [colsI cs] [] (pureQ nilTab) := by
      refine pureF_walk hTb Tryz.func29 rfl rfl Tryz.ntmps29 (by simp) ?_
      (conv => whnf); repeat' ((first | (refine And.intro ?_ ?_ <;> ((try intro h) <;> (try simp only [gS] at h) <;> first | exact absurd h gF | exact absurd h.symm gF | conv => whnf)) | (refine VR.pure hTb rfl rfl (o_purN (c1) rfl rfl rfl gQ rfl) ?_)) <;> conv => whnf)
      exact endFz rfl rfl rfl
    exact CallsV.leR h ⟨.inr ⟨7, rfl, rfl⟩, .inr ⟨10, rfl, rfl⟩, .inr ⟨3, rfl, rfl⟩, .inl rfl, trivial⟩
  | true =>
    rw [hk] at c1
    rw [if_pos rfl]
    have h : CallsV Tryz.prog 29 [colsI cs] [] (pureQ (.agg [.imm 7 (cs.map encCol), nilG, nilG, .g (.int .i64 1)])) := by
      refine pureF_walk hTb Tryz.func29 rfl rfl Tryz.ntmps29 (by simp) ?_
      (conv => whnf); repeat' ((first | (refine And.intro ?_ ?_ <;> ((try intro h) <;> (try simp only [gS] at h) <;> first | exact absurd h gF | exact absurd h.symm gF | conv => whnf)) | (refine VR.pure hTb rfl rfl (o_purN (c1) rfl rfl rfl gQ rfl) ?_) | (refine VR.opk hTb rfl rfl (o_app0 (f := encCol) (m := cs) (q := 109) hTb rfl rfl rfl rfl rfl rfl rfl rfl rfl rfl (by omega) (by show _ * 64 ≤ _; omega) (by unfold maxLen; omega)) ?_)) <;> conv => whnf)
      refine endFz rfl rfl ?_
      show Slot.agg [.imm 7 (((cs.map encCol).drop 0).take cs.length), _, _, _] = _
      rw [fzC]; rfl
    exact CallsV.leR h ⟨.inl rfl, .inr ⟨10, rfl, rfl⟩, .inr ⟨3, rfl, rfl⟩, .inl rfl, trivial⟩
open Go Go.RowKit
def shf (m d : Nat) (o : Nat) : Option Nat := some (if o < m then o else o + d)
structure EndC (T : Tab) (fn : Func) (k m : Nat) (L : LS) (Post : Slot → List (Option Ob) → List Ob → Prop) : Prop where
  h : ∃ L1 : LS, (∀ n, Wk n L.st L1.st) ∧ ∃ ss s0 s1 nids obs, fn.results.toList.mapM (resSlot T L1.st) = some ss ∧ resAll ss = some s0 ∧ (List.range m ++ nids).mapM L1.st.obj = some obs ∧ nodupB (List.range m ++ nids) = true ∧
    LeS (rnS (shf m (k - m)) (vS true L1.st (List.range m ++ nids) s0)) s1 ∧
    Post s1 (((obs.take m).map fun ob => some (rnO (shf m (k - m)) (vO true L1.st (List.range m ++ nids) ob))) ++ List.replicate (k - m) none) ((obs.drop m).map fun ob => rnO (shf m (k - m)) (vO true L1.st (List.range m ++ nids) ob))
def endC (T : Tab) (fn : Func) (k m : Nat) (Post : Slot → List (Option Ob) → List Ob → Prop) (e : Exit) (L : LS) : Prop :=
  match e with
  | .normal => EndC T fn k m L Post
  | .ret => EndC T fn k m L Post
  | _ => False
section
variable {P : Program} {T : Tab}
theorem funC_walk (m : Nat) (hT : TabOk P T) {f : FuncId} {fn : Func} {c : Code} {n : Nat} (hf : P.funcs[f]? = some fn) (hname : (fn.name == "runtime.NumGoroutine") = false) (hb : fn.body = some c) (hn : fn.ntmps = n)
    {args : List Slot} {objs : List Ob} (hm : m ≤ objs.length) (hk : objs.length ≤ 100) (hp : args.length ≤ n) {Post : Slot → List (Option Ob) → List Ob → Prop}
    (h : fArgs args 0 fun ts => fSets (argL objs 0) fun os => vcK P T n c ⟨ts, os, []⟩ (endC T fn objs.length m Post)) : CallsV P f args objs Post := by
  rw [fArgs_eq, fSets_eq] at h
  have e : S0 args objs = LS.st ⟨argL args 0, argL objs 0, []⟩ := by
    refine stOf_ext (fun t => ?_) (fun o => ?_)
    · show (args[t]?).getD .bad = (alk (argL args 0) t).getD .bad
      rw [alk_argL]; simp
    · show objs[o]? = alk (argL objs 0) o
      rw [alk_argL]; simp
  refine callsV_gen (Fin := fun S => ∃ L, S = L.st ∧ EndC T fn objs.length m L Post) hf hname hb hn hk hp ?_ ?_
  · rw [e]
    refine VC.mono (vcK_ok (P := P) (n := n) hT h).1 fun ex S hS => ?_
    obtain ⟨L, rfl, hq⟩ := hS
    cases ex <;> first | exact ⟨.inl rfl, L, rfl, hq⟩ | exact ⟨.inr rfl, L, rfl, hq⟩ | exact hq.elim
  · intro w B D S' B' a' w' hF hR'
    obtain ⟨L0, rfl, ⟨L, hwk, ss, s0, s1, nids, obs, hss, hs0, hobs, hnd0, hle, hP⟩⟩ := hF
    obtain ⟨B', hR'⟩ := hwk n _ _ _ _ rfl hR'
    obtain ⟨v, hrun, hsr⟩ := run_results hT hR' hss hs0
    refine ⟨v, hrun, ?_⟩
    have hnd := nodupB_ok hnd0
    have hidk : ∀ o, o < m → (List.range m ++ nids)[o]? = some o := fun o ho => by rw [List.getElem?_append_left (by simpa using ho)]; simp [ho]
    have hlen := mapM_length hobs
    have hol : obs.length = m + nids.length := by rw [← hlen]; simp
    generalize hids : List.range m ++ nids = ids at *
    have hv := view_srep (g := true) hR' hobs hnd hsr
    have hA := view_args (g := true) hR' hobs hnd
    obtain ⟨d, hd⟩ : ∃ d, objs.length - m = d := ⟨_, rfl⟩
    rw [hd] at hle hP
    generalize hOb : obs.map (vO true L.st ids) = ob2 at hv hA
    have hob2 : ob2.length = m + nids.length := by rw [← hOb, List.length_map, hol]
    generalize hBN : vB ids B' = BN at hv hA
    have ePost : ((obs.take m).map fun ob => some (rnO (shf m d) (vO true L.st ids ob))) ++ List.replicate d none = ((ob2.take m).map fun ob => some (rnO (shf m d) ob)) ++ List.replicate d none := by
      rw [← hOb, ← List.map_take, List.map_map]; rfl
    have eNews : ((obs.drop m).map fun ob => rnO (shf m d) (vO true L.st ids ob)) = (ob2.drop m).map (rnO (shf m d)) := by
      rw [← hOb, ← List.map_drop, List.map_map]; rfl
    rw [ePost, eNews] at hP
    generalize hO : ((ob2.take m).map fun ob => some (rnO (shf m d) ob)) ++ List.replicate d none = outs at hP
    generalize hN : (ob2.drop m).map (rnO (shf m d)) = news at hP
    have houts : outs.length = objs.length := by rw [← hO]; simp; omega
    let B2 : Pl := ⟨fun o => if o < m then BN.f o else if o < objs.length then none else BN.f (o - d), fun o => if o < m then BN.z o else if o < objs.length then fun _ => False else BN.z (o - d)⟩
    have F1 : ∀ i ob, (So ob2).obj i = some ob → (Sr outs news).obj (if i < m then i else i + d) = some (rnO (shf m d) ob) ∧ B2 (if i < m then i else i + d) = BN i ∧ B2.z (if i < m then i else i + d) = BN.z i := by
      intro i ob hi
      have hi' : ob2[i]? = some ob := hi
      have hil : i < ob2.length := (List.getElem?_eq_some_iff.1 hi').1
      by_cases him : i < m
      · rw [if_pos him]
        refine ⟨?_, if_pos him, if_pos him⟩
        simp only [Sr, houts]
        rw [if_pos (by omega), ← hO, List.getElem?_append_left (by simp; omega), List.getElem?_map, List.getElem?_take, if_pos him, hi']; rfl
      · rw [if_neg him]
        have e1 : ¬ i + d < m := by omega
        have e2 : ¬ i + d < objs.length := by omega
        refine ⟨?_, ?_, ?_⟩
        · simp only [Sr, houts]
          rw [if_neg e2, ← hN, List.getElem?_map, List.getElem?_drop, show m + (i + d - objs.length) = i by omega, hi']; rfl
        · show (if i + d < m then BN.f (i + d) else if i + d < objs.length then none else BN.f (i + d - d)) = BN.f i
          rw [if_neg e1, if_neg e2, Nat.add_sub_cancel]
        · show (if i + d < m then BN.z (i + d) else if i + d < objs.length then fun _ => False else BN.z (i + d - d)) = BN.z i
          rw [if_neg e1, if_neg e2, Nat.add_sub_cancel]
    have F2 : ∀ o ob, (Sr outs news).obj o = some ob → ∃ i ob0, (So ob2).obj i = some ob0 ∧ ob = rnO (shf m d) ob0 ∧ o = if i < m then i else i + d := by
      intro o ob ho
      simp only [Sr, houts] at ho
      by_cases hlt : o < objs.length
      · rw [if_pos hlt, ← hO] at ho
        by_cases hom : o < m
        · rw [List.getElem?_append_left (by simp; omega), List.getElem?_map, List.getElem?_take, if_pos hom, List.getElem?_eq_getElem (by omega)] at ho
          simp at ho
          exact ⟨o, ob2[o]'(by omega), List.getElem?_eq_getElem (by omega), ho.symm, (if_pos hom).symm⟩
        · rw [List.getElem?_append_right (by simp; omega)] at ho
          rw [List.getElem?_replicate] at ho
          split at ho <;> cases ho
      · rw [if_neg hlt, ← hN, List.getElem?_map, List.getElem?_drop] at ho
        obtain ⟨ob0, h0, h1⟩ := Option.map_eq_some_iff.1 ho
        refine ⟨m + (o - objs.length), ob0, h0, h1.symm, ?_⟩
        rw [if_neg (by omega)]; omega
    have live : ∀ o, (Sr outs news).obj o ≠ none → ∃ i ob0, (So ob2).obj i = some ob0 ∧ (o = if i < m then i else i + d) ∧ B2 o = BN i ∧ B2.z o = BN.z i ∧ ∀ b, Ow B2 o b ↔ Ow BN i b := by
      intro o ho
      obtain ⟨ob, hob⟩ := Option.ne_none_iff_exists'.1 ho
      obtain ⟨i, ob0, h0, _, h2⟩ := F2 o ob hob
      obtain ⟨_, h4, h5⟩ := F1 i ob0 h0
      rw [← h2] at h4 h5
      exact ⟨i, ob0, h0, h2, h4, h5, fun b => by unfold Ow; rw [h4, h5]⟩
    have hdp : ∀ b, dep (dinOf w D objs B) (So ob2) BN b → dep (dinOf w D objs B) (Sr outs news) B2 b := by
      intro b hb
      refine ⟨hb.1, fun o ho hx => ?_⟩
      obtain ⟨i, ob0, h0, _, _, _, h3⟩ := live o ho
      exact hb.2 i (by rw [h0]; simp) ((h3 b).1 hx)
    have el : ∀ l v, LRep w' (dinOf w D objs B) (So ob2) BN l v → LRep w' (dinOf w D objs B) (Sr outs news) B2 (rn (shf m d) l) v := fun l v hl =>
      LRep.rn (Nat.le_refl _) (fun _ _ _ => rfl) (fun b hb _ => hdp b hb) (fun o o' ob hr ho => by
        have e3 : o' = if o < m then o else o + d := (Option.some.inj hr).symm
        subst e3
        obtain ⟨h1, h2, _⟩ := F1 o ob ho
        exact ⟨h2, _, h1, rnO_shape _ _⟩) hl
    have er : ∀ l v, RepL w' (dep (dinOf w D objs B) (So ob2) BN) l v → RepL w' (dep (dinOf w D objs B) (Sr outs news) B2) l v := fun l v hl => RepL_mono (Nat.le_refl _) (fun _ _ _ => rfl) (fun b hb _ => hdp b hb) l v hl
    have hst : ∀ i ob0, (So ob2).obj i = some ob0 → ∃ x ob1, ids[i]? = some x ∧ L.st.obj x = some ob1 ∧ ob0 = vO true L.st ids ob1 := by
      intro i ob0 h0
      have h0' : ob2[i]? = some ob0 := h0
      rw [← hOb, List.getElem?_map] at h0'
      obtain ⟨ob1, h1, h2⟩ := Option.map_eq_some_iff.1 h0'
      obtain ⟨x, hx, hox⟩ := obs_ids hobs h1
      exact ⟨x, ob1, hx, hox, h2.symm⟩
    refine ⟨s1, outs, news, B2, hP, ?_, ?_⟩
    · refine ⟨houts, fun o ob ho => ?_, fun o o' b ho ho' hb hb' => ?_, fun o hlt ho => ?_, fun o b ho hb => ?_, hR'.frame, fun o ob hlt ho => ?_⟩
      · obtain ⟨i, ob0, h0, rfl, h2⟩ := F2 o ob ho
        obtain ⟨_, h4, h5⟩ := F1 i ob0 h0
        rw [← h2] at h4 h5
        exact (hA.obs i ob0 h0).rnO h4 h5 el er fun _ _ => rfl
      · obtain ⟨i, ob0, h0, h2, _, _, h3⟩ := live o ho
        obtain ⟨i', ob0', h0', h2', _, _, h3'⟩ := live o' ho'
        have := hA.injO i i' b (by rw [h0]; simp) (by rw [h0']; simp) ((h3 b).1 hb) ((h3' b).1 hb')
        subst this
        rw [h2, h2']
      · obtain ⟨i, ob0, h0, h2, h4, _, _⟩ := live o ho
        have him : i < m := by
          rcases Nat.lt_or_ge i m with h | h
          · exact h
          · rw [if_neg (by omega)] at h2; omega
        rw [if_pos him] at h2
        subst h2
        obtain ⟨x, ob1, hx, hox, _⟩ := hst o ob0 h0
        rw [hidk o him] at hx
        cases hx
        rw [h4, ← hBN]
        have : vB ids B' o = B' o := by simp [vB, hidk o him]
        rw [this]
        exact hR'.keep o hlt (by simp [hox])
      · obtain ⟨i, ob0, h0, h2, _, _, h3⟩ := live o ho
        obtain ⟨x, ob1, hx, hox, _⟩ := hst i ob0 h0
        have hb2 := (h3 b).1 hb
        rw [← hBN] at hb2
        have := hR'.mineO x b (by simp [hox]) ((vB_ow hx b).1 hb2)
        exact ⟨this.1, this.2.1⟩
      · obtain ⟨i, ob0, h0, rfl, h2⟩ := F2 o ob ho
        have him : i < m := by
          rcases Nat.lt_or_ge i m with h | h
          · exact h
          · rw [if_neg (by omega)] at h2; omega
        rw [if_pos him] at h2
        subst h2
        obtain ⟨x, ob1, hx, hox, rfl⟩ := hst o ob0 h0
        rw [hidk o him] at hx
        cases hx
        obtain ⟨obz, h5, h6⟩ := hR'.shape o ob1 hlt hox
        exact ⟨obz, h5, (h6.trans (vO_shape _ _ _ _)).trans (rnO_shape _ _)⟩
    · exact hle.rep (hv.rnS el)
theorem endCR {α : Type} {C : α → Prop} {s : α → Slot} {outs : α → List (Option Ob)} {news : α → List Ob} {fn : Func} {k m : Nat} {L : LS} (nids : List Nat) (y : α) {ss : List Slot} {s0 : Slot} {obs : List Ob}
    (h1 : fn.results.toList.mapM (resSlot T L.st) = some ss) (h2 : resAll ss = some s0) (h3 : (List.range m ++ nids).mapM L.st.obj = some obs) (h4 : nodupB (List.range m ++ nids) = true)
    (h6 : LeS (rnS (shf m (k - m)) (vS true L.st (List.range m ++ nids) s0)) (s y)) (h7 : ((obs.take m).map fun ob => some (rnO (shf m (k - m)) (vO true L.st (List.range m ++ nids) ob))) ++ List.replicate (k - m) none = outs y) (h8 : ((obs.drop m).map fun ob => rnO (shf m (k - m)) (vO true L.st (List.range m ++ nids) ob)) = news y) (hC : C y) : EndC T fn k m L (relQ C s outs news) :=
  ⟨L, fun n => .refl n _, ss, s0, s y, nids, obs, h1, h2, h3, h4, h6, y, hC, rfl, h7, h8⟩
theorem EndC.wk {fn : Func} {k m : Nat} {L L' : LS} {Post : Slot → List (Option Ob) → List Ob → Prop} (hw : ∀ n, Wk n L.st L'.st) (h : EndC T fn k m L' Post) : EndC T fn k m L Post := by
  obtain ⟨L1, hw', r⟩ := h.h
  exact ⟨L1, fun n => (hw n).trans (hw' n), r⟩
end
structure VTable.dr (t : VTable) : Prop where
  fl : t.first.length ≤ 10
  fs : smlCols t.first
  cl : t.changes.length ≤ 8
  cs : smlChs t.changes
  rl : t.rows.length ≤ 8
  rs : t.rows = [] ∨ (shAll t.first t.changes).2 = true
  rw : ∀ r ∈ t.rows, (0 ≤ r.ver ∧ r.ver ≤ (t.changes.length : Int)) ∧ r.vals.length = (tSh t r.ver.toNat).length ∧ mdVals r.vals
  nx : 0 ≤ t.next ∧ t.next ≤ 60
theorem VTable.dr.md {t : VTable} (h : t.dr) : t.md := by
  have h1 := h.fl
  have h2 := h.cl
  refine ⟨by omega, h.fs.md, h.cs.md, by have := h.rl; omega, fun r hr => ?_⟩
  obtain ⟨h3, h4, h5⟩ := h.rw r hr
  have h6 := tSh_len t r.ver.toNat
  exact ⟨by omega, h5⟩
theorem VTable.dr.lenL {t : VTable} (h : t.dr) : (tL t).length ≤ 18 := by
  have h1 := h.fl
  have h2 := h.cl
  have := tL_len t
  omega
theorem VTable.dr.now {t : VTable} (h : t.dr) {r : VRow} (hr : r ∈ t.rows) : (tNow t r).length = (tL t).length := by
  rcases h.rs with h1 | h1
  · rw [h1] at hr; cases hr
  · exact (tNow_go h1 (h.rw r hr).2.1).2
theorem chGo_sml : ∀ {l : List Change} {s a : List Col}, chGo s l = some a → smlCols s → smlChs l → smlCols a
  | [], s, a, h, hs, _ => by cases h; exact hs
  | c :: l, s, a, h, hs, hc => by
    rw [chGo] at h
    split at h
    · rename_i h1
      obtain ⟨ho, L, h2, h3⟩ := shDo_ok h1
      exact chGo_sml h (by rw [h3]; exact chDo_sml hs (hc c (by simp)) h2) fun x hx => hc x (by simp [hx])
    · cases h
theorem tL_sml {t : VTable} (h : t.dr) : smlCols (tL t) := by
  unfold tL
  cases h2 : (shAll t.first t.changes).2 with
  | false => rw [shAll_no h2]; exact fun x hx => by cases hx
  | true =>
    obtain ⟨ho, L, hg⟩ := shAll_go h2
    rw [shAll_yes ho hg]
    exact chGo_sml hg h.fs h.cs
theorem sh_of_L {t : VTable} (h : shapeOk (tL t) = true) : (shAll t.first t.changes).2 = true := by
  cases h2 : (shAll t.first t.changes).2 with
  | true => rfl
  | false =>
    have e : tL t = [] := by unfold tL; rw [shAll_no h2]
    rw [e] at h
    exact absurd h (by decide)
theorem tSh_len' (t : VTable) : tSh t t.changes.length = tL t := tSh_all (Nat.le_refl _)
theorem dr_put {t : VTable} (h : t.dr) {vals : List Val} (hv : mdVals vals) (hr : rowOk (tL t) vals = true) (h8 : t.rows.length < 8) (h6 : t.next < 60) : VTable.dr ⟨t.first, t.changes, t.rows ++ [⟨t.next, (t.changes.length : Int), vals⟩], t.next + 1⟩ := by
  have hs : shapeOk (tL t) = true := by unfold rowOk at hr; rw [Bool.and_eq_true] at hr; exact hr.1
  refine ⟨h.fl, h.fs, h.cl, h.cs, by simp; omega, .inr (sh_of_L hs), fun r hr2 => ?_, by have := h.nx; simp only; omega⟩
  rcases List.mem_append.1 hr2 with hr2 | hr2
  · exact h.rw r hr2
  · simp only [List.mem_singleton] at hr2
    subst hr2
    refine ⟨⟨by simp only; omega, by simp only; omega⟩, ?_, hv⟩
    have e : tSh ⟨t.first, t.changes, t.rows ++ [⟨t.next, (t.changes.length : Int), vals⟩], t.next + 1⟩ ((t.changes.length : Int).toNat) = tSh t t.changes.length := by unfold tSh; rw [Int.toNat_natCast]
    show vals.length = _
    rw [e, tSh_len']
    exact rowOk_len hr
theorem dr_set {t : VTable} (h : t.dr) {vals : List Val} (hv : mdVals vals) (hr : rowOk (tL t) vals = true) (k : Nat) (id : Int) : VTable.dr ⟨t.first, t.changes, t.rows.set k ⟨id, (t.changes.length : Int), vals⟩, t.next⟩ := by
  have hs : shapeOk (tL t) = true := by unfold rowOk at hr; rw [Bool.and_eq_true] at hr; exact hr.1
  refine ⟨h.fl, h.fs, h.cl, h.cs, by simp only [List.length_set]; exact h.rl, .inr (sh_of_L hs), fun r hr2 => ?_, h.nx⟩
  rcases List.mem_or_eq_of_mem_set hr2 with hr2 | hr2
  · exact h.rw r hr2
  · subst hr2
    refine ⟨⟨by simp only; omega, by simp only; omega⟩, ?_, hv⟩
    have e : tSh ⟨t.first, t.changes, t.rows.set k ⟨id, (t.changes.length : Int), vals⟩, t.next⟩ ((t.changes.length : Int).toNat) = tSh t t.changes.length := by unfold tSh; rw [Int.toNat_natCast]
    show vals.length = _
    rw [e, tSh_len']
    exact rowOk_len hr
theorem dr_rows {t : VTable} (h : t.dr) {rows : List VRow} (hs : ∀ r ∈ rows, r ∈ t.rows) (hl : rows.length ≤ 8) : VTable.dr ⟨t.first, t.changes, rows, t.next⟩ := by
  refine ⟨h.fl, h.fs, h.cl, h.cs, hl, ?_, fun r hr => h.rw r (hs r hr), h.nx⟩
  rcases h.rs with h1 | h1
  · left
    rw [h1] at hs
    cases rows with
    | nil => rfl
    | cons x xs => exact absurd (hs x (by simp)) (by simp)
  · exact .inr h1
theorem dr_chg {t : VTable} (h : t.dr) {c : Change} (hc : c.sml) (hk : (sdo (tL t) c).2 = true) (h8 : t.changes.length < 8) : VTable.dr ⟨t.first, t.changes ++ [c], t.rows, t.next⟩ := by
  obtain ⟨hs, hd⟩ := sdo_sh hk
  have hsh := sh_of_L hs
  obtain ⟨ho, L, hg⟩ := shAll_go hsh
  have hL : tL t = L := by unfold tL; rw [shAll_yes ho hg]
  have hg2 : chGo t.first (t.changes ++ [c]) = some (shDo L c).1 := by
    rw [chGo_app, hg]
    rw [hL] at hd
    show chGo L [c] = _
    rw [chGo, if_pos hd]; rfl
  refine ⟨h.fl, h.fs, by simp; omega, h.cs.app hc, h.rl, .inr (by show (shAll t.first (t.changes ++ [c])).2 = true; rw [shAll_yes ho hg2]), fun r hr => ?_, h.nx⟩
  obtain ⟨h3, h4, h5⟩ := h.rw r hr
  refine ⟨⟨h3.1, by have := h3.2; simp only [List.length_append, List.length_cons, List.length_nil]; omega⟩, ?_, h5⟩
  rw [h4]
  have e : tSh ⟨t.first, t.changes ++ [c], t.rows, t.next⟩ r.ver.toNat = tSh t r.ver.toNat := by
    unfold tSh
    simp only
    rw [List.take_append_of_le_length (by omega)]
  rw [e]
theorem dr_nil {s : List Col} (h : smlCols s) (hl : s.length ≤ 10) : VTable.dr ⟨s, [], [], 1⟩ := ⟨hl, h, by simp, fun x hx => (by cases hx), by simp, .inl rfl, fun x hx => (by cases hx), by simp⟩
theorem dr_zero : VTable.dr zTab := ⟨by decide, fun x hx => (by cases hx), by decide, fun x hx => (by cases hx), by decide, .inl rfl, fun x hx => (by cases hx), by decide⟩
def pIx {α : Type} (p : α → Bool) : List α → Nat → Int
  | [], _ => -1
  | x :: xs, i => if p x then (i : Int) else pIx p xs (i + 1)
theorem pIx_step {α : Type} {p : α → Bool} {l : List α} {i : Nat} (h : i < l.length) : pIx p (l.drop i) i = if p l[i] then (i : Int) else pIx p (l.drop (i + 1)) (i + 1) := by
  rw [List.drop_eq_getElem_cons h, pIx]
theorem pIx_end {α : Type} {p : α → Bool} {l : List α} {i : Nat} (h : l.length ≤ i) : pIx p (l.drop i) i = -1 := by
  rw [List.drop_of_length_le h, pIx]
theorem pIx_lt {α : Type} {p : α → Bool} : ∀ (l : List α) (i : Nat), -1 ≤ pIx p l i ∧ pIx p l i < (i + l.length : Nat)
  | [], i => by simp only [pIx]; omega
  | r :: rs, i => by
    have h := pIx_lt (p := p) rs (i + 1)
    rw [pIx, List.length_cons]
    split <;> omega
theorem pIx_eq {α : Type} {p : α → Bool} : ∀ (l : List α) (s i : Nat) (h : i < l.length), p l[i] = true → (∀ j (hj : j < i), p (l[j]'(by omega)) = false) → pIx p l s = ((s + i : Nat) : Int)
  | x :: xs, s, 0, _, h1, _ => by rw [pIx, if_pos (by simpa using h1)]; simp
  | x :: xs, s, i + 1, h, h1, h2 => by
    rw [pIx, if_neg (by have := h2 0 (by omega); simpa using this)]
    rw [pIx_eq xs (s + 1) i (by simpa using h) (by simpa using h1) (fun j hj => by simpa using h2 (j + 1) (by omega))]
    omega
theorem pIx_at {α : Type} {p : α → Bool} : ∀ (l : List α) (s i : Nat), pIx p l s = ((s + i : Nat) : Int) → ∃ h : i < l.length, p l[i] = true ∧ ∀ j (hj : j < i), p (l[j]'(by omega)) = false
  | [], s, i, h => by rw [pIx] at h; omega
  | x :: xs, s, i, h => by
    rw [pIx] at h
    split at h
    · rename_i hp
      have : i = 0 := by omega
      subst this
      exact ⟨by simp, by simpa using hp, fun j hj => by omega⟩
    · rename_i hp
      have hlt := pIx_lt (p := p) xs (s + 1)
      cases i with
      | zero =>
        exfalso
        have key : ∀ (l : List α) (s : Nat), pIx p l (s + 1) ≠ (s : Int) := by
          intro l
          induction l with
          | nil => intro s; rw [pIx]; omega
          | cons y ys ih =>
            intro s; rw [pIx]; split
            · omega
            · intro e
              have h3 : ∀ (l : List α) (u v : Nat), v < u → pIx p l u ≠ (v : Int) := by
                intro l
                induction l with
                | nil => intro u v _; rw [pIx]; omega
                | cons z zs ih => intro u v huv; rw [pIx]; split; omega; exact ih (u + 1) v (by omega)
              exact h3 ys (s + 1 + 1) s (by omega) e
        exact key xs s (by simpa using h)
      | succ i =>
        obtain ⟨h1, h2, h3⟩ := pIx_at xs (s + 1) i (by rw [h]; omega)
        refine ⟨by simpa using h1, by simpa using h2, fun j hj => ?_⟩
        cases j with
        | zero => simpa using hp
        | succ j => simpa using h3 j (by omega)
def zTb : VTab := ⟨⟨#[]⟩, ⟨[], [], [], 0⟩⟩
def zLk : VLink := ⟨⟨#[]⟩, ⟨#[]⟩, ⟨#[]⟩, 0⟩
abbrev isTab (nm : ByteArray) (t : VTab) : Bool := t.name.toList == nm.toList
abbrev isLk (s c : ByteArray) (l : VLink) : Bool := l.src.toList == s.toList && l.col.toList == c.toList
def tabIx (b : VBase) (nm : ByteArray) : Int := pIx (isTab nm) b.tabs 0
def tabOf (b : VBase) (nm : ByteArray) : VTable := (b.tabs.getD (tabIx b nm).toNat zTb).table
def lkAt (b : VBase) (l : VLink) : Int := nameAt (tL (tabOf b l.src)) l.col
def lkC (b : VBase) (l : VLink) : Col := (tL (tabOf b l.src)).getD (lkAt b l).toNat (kCol 0)
def fitB (b : VBase) (l : VLink) : Bool :=
  !decide (tabIx b l.src < 0) && (!decide (tabIx b l.dst < 0) && (decide (1 ≤ l.how ∧ l.how ≤ 3) && (decide (0 ≤ lkAt b l) && ((lkC b l).kind == 1 && (!(l.how == 3) || !(lkC b l).need)))))
def lkV (b : VBase) (l : VLink) (r : VRow) : Val := (tNow (tabOf b l.src) r).getD (lkAt b l).toNat zVal
def holdR (b : VBase) (l : VLink) (r : VRow) : Bool := (lkV b l r).k == 0 || !decide (tAt (tabOf b l.dst) (lkV b l r).n < 0)
def holdB (b : VBase) (l : VLink) : Bool := (tabOf b l.src).rows.all (holdR b l)
def lkIx (b : VBase) (s c : ByteArray) : Int := pIx (isLk s c) b.links 0
def tabB (b : VBase) (i : Nat) : Bool := nameOk (b.tabs.getD i zTb).name && (tabIx b (b.tabs.getD i zTb).name == (i : Int) && tabOk (b.tabs.getD i zTb).table)
def linkB (b : VBase) (i : Nat) : Bool := fitB b (b.links.getD i zLk) && (holdB b (b.links.getD i zLk) && lkIx b (b.links.getD i zLk).src (b.links.getD i zLk).col == (i : Int))
def baseOk (b : VBase) : Bool := (List.range b.tabs.length).all (tabB b) && ((List.range b.links.length).all (linkB b) && (decide (b.tabs.length ≤ 3) && decide (b.links.length ≤ 4)))
structure BOkB (b : VBase) : Prop where
  tb : ∀ i, i < b.tabs.length → tabB b i = true
  lk : ∀ i, i < b.links.length → linkB b i = true
  t3 : b.tabs.length ≤ 3
  l4 : b.links.length ≤ 4
theorem baseOk_iff {b : VBase} : baseOk b = true ↔ BOkB b := by
  unfold baseOk
  simp only [Bool.and_eq_true, decide_eq_true_eq, List.all_eq_true, List.mem_range]
  exact ⟨fun ⟨a, b, c, d⟩ => ⟨a, b, c, d⟩, fun ⟨a, b, c, d⟩ => ⟨a, b, c, d⟩⟩
theorem tabB_iff {b : VBase} {i : Nat} : tabB b i = true ↔ nameOk (b.tabs.getD i zTb).name = true ∧ tabIx b (b.tabs.getD i zTb).name = (i : Int) ∧ tabOk (b.tabs.getD i zTb).table = true := by
  unfold tabB; simp only [Bool.and_eq_true, beq_iff_eq]
theorem linkB_iff {b : VBase} {i : Nat} : linkB b i = true ↔ fitB b (b.links.getD i zLk) = true ∧ holdB b (b.links.getD i zLk) = true ∧ lkIx b (b.links.getD i zLk).src (b.links.getD i zLk).col = (i : Int) := by
  unfold linkB; simp only [Bool.and_eq_true, beq_iff_eq]
theorem fitB_iff {b : VBase} {l : VLink} : fitB b l = true ↔ ¬ tabIx b l.src < 0 ∧ ¬ tabIx b l.dst < 0 ∧ (1 ≤ l.how ∧ l.how ≤ 3) ∧ 0 ≤ lkAt b l ∧ (lkC b l).kind = 1 ∧ (l.how = 3 → (lkC b l).need = false) := by
  unfold fitB
  simp only [Bool.and_eq_true, Bool.not_eq_true', decide_eq_true_eq, decide_eq_false_iff_not, beq_iff_eq, Bool.or_eq_true]
  refine and_congr Iff.rfl (and_congr Iff.rfl (and_congr Iff.rfl (and_congr Iff.rfl (and_congr Iff.rfl ?_))))
  by_cases h : l.how = 3
  · simp [h]
  · simp [h]
theorem tabIx_mem {b : VBase} {nm : ByteArray} (h : ¬ tabIx b nm < 0) : ∃ hi : (tabIx b nm).toNat < b.tabs.length, b.tabs.getD (tabIx b nm).toNat zTb = b.tabs[(tabIx b nm).toNat] ∧ tabOf b nm = (b.tabs[(tabIx b nm).toNat]).table ∧ (b.tabs[(tabIx b nm).toNat]).name.toList = nm.toList := by
  have hl := pIx_lt (p := isTab nm) b.tabs 0
  have hi : (tabIx b nm).toNat < b.tabs.length := by unfold tabIx at h ⊢; omega
  have e : b.tabs.getD (tabIx b nm).toNat zTb = b.tabs[(tabIx b nm).toNat] := by simp [hi]
  obtain ⟨_, h2, _⟩ := pIx_at b.tabs 0 (tabIx b nm).toNat (by show tabIx b nm = _; omega)
  exact ⟨hi, e, by unfold tabOf; rw [e], by simpa using h2⟩
theorem tabOf_mem {b : VBase} {nm : ByteArray} (h : ¬ tabIx b nm < 0) : ∃ t ∈ b.tabs, tabOf b nm = t.table := by
  obtain ⟨hi, _, h2, _⟩ := tabIx_mem h
  exact ⟨_, List.getElem_mem hi, h2⟩
theorem BOkB.tab {b : VBase} (h : BOkB b) {nm : ByteArray} (hn : ¬ tabIx b nm < 0) : tabOk (tabOf b nm) = true := by
  obtain ⟨hi, h1, h2, _⟩ := tabIx_mem hn
  have := (tabB_iff.1 (h.tb _ hi)).2.2
  rw [h1] at this
  rw [h2]; exact this
theorem qR_iff {a b : VRef} : q_VRef a b = true ↔ a = b := by
  unfold q_VRef
  simp only [Bool.and_eq_true, beq_iff_eq, and_true]
  constructor
  · rintro ⟨h1, h2⟩
    obtain ⟨n, i⟩ := a
    obtain ⟨n', i'⟩ := b
    simp only at h1 h2
    rw [tl_inj h1, h2]
  · rintro rfl; exact ⟨rfl, rfl⟩
def inL (K : List VRef) (r : VRef) : Bool := K.any (q_VRef r)
theorem inL_iff {K : List VRef} {r : VRef} : inL K r = true ↔ r ∈ K := by
  unfold inL
  rw [List.any_eq_true]
  constructor
  · rintro ⟨x, hx, hq⟩; rw [qR_iff.1 hq]; exact hx
  · intro h; exact ⟨r, h, qR_iff.2 rfl⟩
def insL (K : List VRef) (r : VRef) : List VRef := if inL K r then K else K ++ [r]
theorem insL_mem {K : List VRef} {r x : VRef} : x ∈ insL K r ↔ x ∈ K ∨ x = r := by
  unfold insL
  split
  · rename_i h
    constructor
    · exact .inl
    · rintro (h2 | rfl)
      · exact h2
      · exact inL_iff.1 h
  · simp
section
variable {α : Type} (cond : List VRef → α → Bool) (key : α → VRef)
def stpF (K : List VRef) (x : α) : List VRef := if cond K x then insL K (key x) else K
def cntU (U K : List VRef) : Nat := (U.filter fun u => !inL K u).length
variable {cond key}
theorem insL_len (K : List VRef) (r : VRef) : insL K r = K ∨ (insL K r).length = K.length + 1 := by
  unfold insL; split
  · exact .inl rfl
  · right; simp
theorem stpF_len (K : List VRef) (x : α) : stpF cond key K x = K ∨ (stpF cond key K x).length = K.length + 1 := by
  unfold stpF; split
  · exact insL_len _ _
  · exact .inl rfl
theorem foldF_len : ∀ (l : List α) (K : List VRef), K.length ≤ (l.foldl (stpF cond key) K).length
  | [], K => Nat.le_refl _
  | x :: l, K => by
    have h := foldF_len l (stpF cond key K x)
    rw [List.foldl_cons]
    rcases stpF_len (cond := cond) (key := key) K x with h1 | h1
    · rw [h1] at h ⊢; exact h
    · omega
theorem cntU_ins (U K : List VRef) (r : VRef) (h : r ∈ U) : insL K r = K ∨ (insL K r).length + cntU U (insL K r) ≤ K.length + cntU U K ∧ cntU U (insL K r) < cntU U K := by
  by_cases hk : inL K r = true
  · left; unfold insL; rw [if_pos hk]
  · right
    have hl : (insL K r).length = K.length + 1 := by unfold insL; rw [if_neg hk]; simp
    have hm : ∀ u, inL (insL K r) u = (inL K u || q_VRef u r) := by
      intro u
      rw [Bool.eq_iff_iff, inL_iff, Bool.or_eq_true, inL_iff, qR_iff, insL_mem]
    have key2 : ∀ U : List VRef, cntU U (insL K r) ≤ cntU U K ∧ (r ∈ U → cntU U (insL K r) < cntU U K) := by
      intro U
      induction U with
      | nil => exact ⟨Nat.le_refl _, fun h => by cases h⟩
      | cons u U ih =>
        unfold cntU at ih ⊢
        simp only [List.filter_cons, hm]
        by_cases hu : q_VRef u r = true
        · have e := qR_iff.1 hu
          subst e
          rw [hu, Bool.or_true, Bool.eq_false_iff.2 hk]
          simp only [Bool.not_true, Bool.false_eq_true, if_false, Bool.not_false, if_true, List.length_cons]
          simp only [hm] at ih
          exact ⟨by omega, fun _ => by omega⟩
        · rw [Bool.eq_false_iff.2 hu, Bool.or_false]
          simp only [hm] at ih
          by_cases hku : inL K u = true
          · rw [hku]
            simp only [Bool.not_true, Bool.false_eq_true, if_false]
            refine ⟨ih.1, fun h => ?_⟩
            rcases List.mem_cons.1 h with rfl | h
            · exact absurd (qR_iff.2 rfl) hu
            · exact ih.2 h
          · rw [Bool.eq_false_iff.2 hku]
            simp only [Bool.not_false, if_true, List.length_cons]
            refine ⟨by omega, fun h => ?_⟩
            rcases List.mem_cons.1 h with rfl | h
            · exact absurd (qR_iff.2 rfl) hu
            · have := ih.2 h; omega
    have := (key2 U).2 h
    exact ⟨by omega, this⟩
theorem foldF_cnt (U : List VRef) : ∀ (l : List α) (K : List VRef), (∀ x ∈ l, key x ∈ U) → l.foldl (stpF cond key) K = K ∨ (l.foldl (stpF cond key) K).length + cntU U (l.foldl (stpF cond key) K) ≤ K.length + cntU U K ∧ cntU U (l.foldl (stpF cond key) K) < cntU U K
  | [], K, _ => .inl rfl
  | x :: l, K, h => by
    rw [List.foldl_cons]
    have ih := foldF_cnt U l (stpF cond key K x) fun y hy => h y (List.mem_cons_of_mem _ hy)
    have h1 : stpF cond key K x = K ∨ (stpF cond key K x).length + cntU U (stpF cond key K x) ≤ K.length + cntU U K ∧ cntU U (stpF cond key K x) < cntU U K := by
      unfold stpF; split
      · exact cntU_ins U K _ (h x (by simp))
      · exact .inl rfl
    rcases h1 with h1 | h1
    · rw [h1] at ih ⊢; exact ih
    · right
      rcases ih with ih | ih
      · rw [ih]; exact h1
      · omega
end
inductive Rch (b : VBase) (s : VRef) : VRef → Prop
  | start : Rch b s s
  | step {l : VLink} {r : VRow} : l ∈ b.links → l.how = 2 → r ∈ (tabOf b l.src).rows → (lkV b l r).k ≠ 0 → Rch b s ⟨l.dst, (lkV b l r).n⟩ → Rch b s ⟨l.src, r.id⟩
structure Fnd (b : VBase) (s : VRef) (K : List VRef) : Prop where
  snd : ∀ r ∈ K, Rch b s r
  st : s ∈ K
  cl : ∀ l ∈ b.links, l.how = 2 → ∀ r ∈ (tabOf b l.src).rows, (lkV b l r).k ≠ 0 → (⟨l.dst, (lkV b l r).n⟩ : VRef) ∈ K → (⟨l.src, r.id⟩ : VRef) ∈ K
theorem Fnd.all {b : VBase} {s : VRef} {K : List VRef} (h : Fnd b s K) {r : VRef} : r ∈ K ↔ Rch b s r := by
  refine ⟨h.snd r, fun hr => ?_⟩
  induction hr with
  | start => exact h.st
  | step h1 h2 h3 h4 _ ih => exact h.cl _ h1 h2 _ h3 h4 ih
def flatS (b : VBase) : List (VTab × VRow) := b.tabs.flatMap fun t => t.table.rows.map fun r => (t, r)
def spK (x : VTab × VRow) : VRef := ⟨x.1.name, x.2.id⟩
def goL (b : VBase) (K : List VRef) : List VRef := ((flatS b).filter fun x => inL K (spK x)).map spK
def goesB (b : VBase) (nm : ByteArray) (r : VRow) (K : List VRef) : Bool := b.links.any fun l => l.src.toList == nm.toList && (l.how == 2 && ((lkV b l r).k != 0 && inL K ⟨l.dst, (lkV b l r).n⟩))
def spC (b : VBase) (K : List VRef) (x : VTab × VRow) : Bool := goesB b x.1.name x.2 K
def spP (b : VBase) (K : List VRef) : List VRef := (flatS b).foldl (stpF (spC b) spK) K
theorem mem_flatS {b : VBase} {x : VTab × VRow} : x ∈ flatS b ↔ x.1 ∈ b.tabs ∧ x.2 ∈ x.1.table.rows := by
  unfold flatS
  simp only [List.mem_flatMap, List.mem_map]
  constructor
  · rintro ⟨t, h1, r, h2, rfl⟩; exact ⟨h1, h2⟩
  · intro ⟨h1, h2⟩; exact ⟨x.1, h1, x.2, h2, rfl⟩
theorem BOkB.tabName {b : VBase} (h : BOkB b) {t : VTab} (ht : t ∈ b.tabs) : tabOf b t.name = t.table ∧ ¬ tabIx b t.name < 0 := by
  obtain ⟨i, hi, rfl⟩ := List.mem_iff_getElem.1 ht
  have h2 := (tabB_iff.1 (h.tb i hi)).2.1
  have e : b.tabs.getD i zTb = b.tabs[i] := by simp [hi]
  rw [e] at h2
  exact ⟨by unfold tabOf; rw [h2, Int.toNat_natCast, e], by omega⟩
def spU (b : VBase) : List VRef := (flatS b).map spK
theorem spP_cnt (b : VBase) (K : List VRef) : spP b K = K ∨ (spP b K).length + cntU (spU b) (spP b K) ≤ K.length + cntU (spU b) K ∧ cntU (spU b) (spP b K) < cntU (spU b) K :=
  foldF_cnt (spU b) (flatS b) K fun x hx => List.mem_map.2 ⟨x, hx, rfl⟩
theorem cntU_le (U K : List VRef) : cntU U K ≤ U.length := List.length_filter_le _ _
structure VBase.md (b : VBase) : Prop where
  tl : b.tabs.length ≤ 1048576
  tm : ∀ t ∈ b.tabs, t.name.size ≤ maxLen ∧ t.table.md
  ll : b.links.length ≤ 1048576
  lm : ∀ l ∈ b.links, l.ok
theorem zTb_md : (zTb.table).md := ⟨(by decide), fun x hx => (by cases hx), fun x hx => (by cases hx), (by decide), fun x hx => (by cases hx)⟩
theorem tabOf_md {b : VBase} (h : b.md) (nm : ByteArray) : (tabOf b nm).md := by
  unfold tabOf
  by_cases hi : (tabIx b nm).toNat < b.tabs.length
  · have e : b.tabs.getD (tabIx b nm).toNat zTb = b.tabs[(tabIx b nm).toNat] := by simp [hi]
    rw [e]; exact (h.tm _ (List.getElem_mem hi)).2
  · have e : b.tabs.getD (tabIx b nm).toNat zTb = zTb := by simp [Nat.le_of_not_lt hi]
    rw [e]; exact zTb_md
theorem rowTabZ {b : VBase} {nm : ByteArray} (h : ¬ tabIx b nm < 0) : ∃ n', (b.tabs.map encVTab)[(tabIx b nm).toNat]? = some (encVTab ⟨n', tabOf b nm⟩) := by
  obtain ⟨hi, _, h2, _⟩ := tabIx_mem h
  refine ⟨(b.tabs[(tabIx b nm).toNat]).name, ?_⟩
  rw [List.getElem?_map, List.getElem?_eq_getElem hi, h2]; rfl
theorem c_tabAt1 (t : VTab) (s : ByteArray) : CallsV Tryz.prog 157 [.agg (encVTab t), .one (.ptr 0 0)] [nmBox s] (funQ (bS (isTab s t)) [some (nmBox s)] []) := by
  refine fun_walk hTb Tryz.func157 rfl rfl Tryz.ntmps157 (by simp) (by simp) ?_
  (conv => whnf)
  exact endG [] rfl rfl rfl rfl rfl ⟨rfl, rfl, rfl⟩
theorem c_indexTab (ts : List VTab) (s : ByteArray) (hl : ts.length ≤ maxLen) : CallsV Tryz.prog 156 [vtabsI ts, .one (.clo 157 [0])] [nmBox s] (funQ (iS (pIx (isTab s) ts 0)) [some (nmBox s)] []) := by
  refine fun_walk hTb Tryz.func156 rfl rfl Tryz.ntmps156 (by simp) (by simp) ?_
  (conv => whnf)
  refine VL.loopI hTb (fun i => i ≤ ts.length ∧ pIx (isTab s) ts 0 = pIx (isTab s) (ts.drop i) i) (fun i => ⟨[(0, vtabsI ts), (1, .one (.clo 157 [0])), (7, iS ((ts.map encVTab).length : Nat)), (8, iS i)], [(0, nmBox s)], []⟩) (fun i => ts.length - i) 0 ⟨Nat.zero_le _, rfl⟩
    (wk_to [(0, 0)] rfl rfl rfl ⟨rfl, rfl, rfl, rfl, trivial⟩ ⟨rfl, ⟨_, rfl, rfl⟩, trivial⟩) (fun i hi => ?_)
  obtain ⟨hi, hf⟩ := hi
  (conv => whnf)
  refine And.intro (fun h2 => ?_) (fun h2 => ?_)
  · have hlt : i < ts.length := by simpa using h2
    have hrow := rowVTab hlt
    have hc := c_tabAt1 ts[i] s
    have hst := pIx_step (p := isTab s) hlt
    generalize ts[i] = ri at hrow hc hst
    (conv => whnf); repeat' ((first | (refine And.intro ?_ ?_ <;> ((try intro h) <;> (try simp only [gS] at h) <;> first | exact absurd h gF | exact absurd h.symm gF | conv => whnf)) | (refine VR.op hTb rfl rfl (o_index_imm hTb rfl rfl rfl rfl rfl rfl rfl (by omega) (hrow)) rfl ?_) | (refine VR.fun hTb rfl rfl (o_funN hc true [0] (fun _ => ⟨rfl, by simp [nmBox, GrO, GrL, isMem], by simp⟩) (by simp) rfl rfl rfl rfl rfl gQ rfl rfl) ?_)) <;> conv => whnf)
    · have h9 := h
      refine endG [] rfl rfl rfl rfl rfl ⟨?_, rfl, rfl⟩
      rw [hf, hst, if_pos h9]; rfl
    · have h9 := h
      refine ⟨i + 1, ⟨hlt, ?_⟩, by omega, wk_to [(0, 0)] rfl rfl rfl ⟨rfl, rfl, rfl, congrArg (fun x => Slot.one (.g (.int .i64 x))) (wrap64' (by omega)), trivial⟩ ⟨rfl, ⟨_, rfl, rfl⟩, trivial⟩⟩
      rw [hf, hst, if_neg (by rw [h9]; simp)]
  · (conv => whnf)
    refine endG [] rfl rfl rfl rfl rfl ⟨?_, rfl, rfl⟩
    rw [hf, pIx_end (by simp at h2; omega)]; rfl
theorem c_tabAt (b : VBase) (s : ByteArray) (hl : b.tabs.length ≤ maxLen) : CallsV Tryz.prog 96 [.agg (encVBase b), strS s] [] (pureQ (iS (tabIx b s))) := by
  have hc := c_indexTab b.tabs s hl
  refine pure_walk hTb Tryz.func96 rfl rfl Tryz.ntmps96 (by simp) ?_
  (conv => whnf); repeat' ((first | (refine VR.fun hTb rfl rfl (o_funN hc true [103] (fun _ => ⟨rfl, by simp [nmBox, GrO, GrL, isMem], by simp⟩) (by simp) rfl rfl rfl rfl rfl gQ rfl rfl) ?_)) <;> conv => whnf)
  rfl
theorem c_linkAt1 (l : VLink) (s c : ByteArray) : CallsV Tryz.prog 161 [.agg (encVLink l), .one (.ptr 0 0), .one (.ptr 1 0)] [nmBox s, nmBox c] (funQ (bS (isLk s c l)) [some (nmBox s), some (nmBox c)] []) := by
  refine fun_walk hTb Tryz.func161 rfl rfl Tryz.ntmps161 (by simp) (by simp) ?_
  (conv => whnf); repeat' ((first | (refine And.intro ?_ ?_ <;> ((try intro h) <;> (try simp only [gS] at h) <;> first | exact absurd h gF | exact absurd h.symm gF | conv => whnf))) <;> conv => whnf)
  · exact endG [] rfl rfl rfl rfl rfl ⟨by unfold isLk; rw [h]; rfl, rfl, rfl⟩
  · exact endG [] rfl rfl rfl rfl rfl ⟨by unfold isLk; rw [h]; rfl, rfl, rfl⟩
theorem c_indexLink (ts : List VLink) (s c : ByteArray) (hl : ts.length ≤ maxLen) : CallsV Tryz.prog 160 [vlinksI ts, .one (.clo 161 [0, 1])] [nmBox s, nmBox c] (funQ (iS (pIx (isLk s c) ts 0)) [some (nmBox s), some (nmBox c)] []) := by
  refine fun_walk hTb Tryz.func160 rfl rfl Tryz.ntmps160 (by simp) (by simp) ?_
  (conv => whnf)
  refine VL.loopI hTb (fun i => i ≤ ts.length ∧ pIx (isLk s c) ts 0 = pIx (isLk s c) (ts.drop i) i) (fun i => ⟨[(0, vlinksI ts), (1, .one (.clo 161 [0, 1])), (7, iS ((ts.map encVLink).length : Nat)), (8, iS i)], [(0, nmBox s), (1, nmBox c)], []⟩) (fun i => ts.length - i) 0 ⟨Nat.zero_le _, rfl⟩
    (wk_to [(0, 0), (1, 1)] rfl rfl rfl ⟨rfl, rfl, rfl, rfl, trivial⟩ ⟨rfl, ⟨_, rfl, rfl⟩, rfl, ⟨_, rfl, rfl⟩, trivial⟩) (fun i hi => ?_)
  obtain ⟨hi, hf⟩ := hi
  (conv => whnf)
  refine And.intro (fun h2 => ?_) (fun h2 => ?_)
  · have hlt : i < ts.length := by simpa using h2
    have hrow := rowVLink hlt
    have hc := c_linkAt1 ts[i] s c
    have hst := pIx_step (p := isLk s c) hlt
    generalize ts[i] = ri at hrow hc hst
    (conv => whnf); repeat' ((first | (refine And.intro ?_ ?_ <;> ((try intro h) <;> (try simp only [gS] at h) <;> first | exact absurd h gF | exact absurd h.symm gF | conv => whnf)) | (refine VR.op hTb rfl rfl (o_index_imm hTb rfl rfl rfl rfl rfl rfl rfl (by omega) (hrow)) rfl ?_) | (refine VR.fun hTb rfl rfl (o_funN hc true [0, 1] (fun _ => ⟨rfl, by simp [nmBox, GrO, GrL, isMem], by simp⟩) (by simp) rfl rfl rfl rfl rfl gQ rfl rfl) ?_)) <;> conv => whnf)
    · have h9 := h
      refine endG [] rfl rfl rfl rfl rfl ⟨?_, rfl, rfl⟩
      rw [hf, hst, if_pos h9]; rfl
    · have h9 := h
      refine ⟨i + 1, ⟨hlt, ?_⟩, by omega, wk_to [(0, 0), (1, 1)] rfl rfl rfl ⟨rfl, rfl, rfl, congrArg (fun x => Slot.one (.g (.int .i64 x))) (wrap64' (by omega)), trivial⟩ ⟨rfl, ⟨_, rfl, rfl⟩, rfl, ⟨_, rfl, rfl⟩, trivial⟩⟩
      rw [hf, hst, if_neg (by rw [h9]; simp)]
  · (conv => whnf)
    refine endG [] rfl rfl rfl rfl rfl ⟨?_, rfl, rfl⟩
    rw [hf, pIx_end (by simp at h2; omega)]; rfl
theorem c_linkAt (b : VBase) (s c : ByteArray) (hl : b.links.length ≤ maxLen) : CallsV Tryz.prog 99 [.agg (encVBase b), strS s, strS c] [] (pureQ (iS (lkIx b s c))) := by
  have hc := c_indexLink b.links s c hl
  refine pure_walk hTb Tryz.func99 rfl rfl Tryz.ntmps99 (by simp) ?_
  (conv => whnf); repeat' ((first | (refine VR.fun hTb rfl rfl (o_funN hc true [104, 105] (fun _ => ⟨rfl, by simp [nmBox, GrO, GrL, isMem], by simp⟩) (by simp) rfl rfl rfl rfl rfl gQ rfl rfl) ?_)) <;> conv => whnf)
  rfl
theorem tL_ml {t : VTable} (h : t.md) : (tL t).length ≤ maxLen := by
  have := tL_len t
  have := h.fc
  unfold maxLen; omega
theorem nameAt_bd (s : List Col) (nm : ByteArray) : nameAt s nm < s.length ∧ -1 ≤ nameAt s nm := by
  rcases nameAt_spec s nm with ⟨h, _⟩ | ⟨j, hj, h, _⟩ <;> omega
theorem rowCZ {s : List Col} {z : Int} (h0 : 0 ≤ z) (h1 : z < s.length) : (s.map encCol)[z.toNat]? = some (encCol (s.getD z.toNat (kCol 0))) := by
  have hz : z.toNat < s.length := by omega
  have e : s.getD z.toNat (kCol 0) = s[z.toNat] := by simp [List.getD, hz]
  rw [e, List.getElem?_map, List.getElem?_eq_getElem hz]; rfl
theorem c_bfits (b : VBase) (l : VLink) (hb : b.md) (hk : ∀ t ∈ b.tabs, tabOk t.table = true) : CallsV Tryz.prog 97 [.agg (encVBase b), .agg (encVLink l)] [] (pureQ (bS (fitB b l))) := by
  have hl : b.tabs.length ≤ maxLen := lmax (by have := hb.tl; omega)
  have c1 := c_tabAt b l.src hl
  have c2 := c_tabAt b l.dst hl
  have c3 := c_in l.how 1 3
  have hm := tabOf_md hb l.src
  have cS := fun (h : ¬ tabIx b l.src < 0) => c_tShape (tabOf b l.src) hm (by obtain ⟨t, ht, e⟩ := tabOf_mem h; rw [e]; exact (tabOk_iff.1 (hk t ht)).sh)
  have cA := c_colAt (tL (tabOf b l.src)) l.col (tL_ml hm)
  have hN := nameAt_bd (tL (tabOf b l.src)) l.col
  have hR := fun (h : ¬ tabIx b l.src < 0) => rowTabZ h
  unfold fitB lkC lkAt
  generalize tL (tabOf b l.src) = L at cS cA hN ⊢
  generalize tabOf b l.src = t at cS hR
  generalize nameAt L l.col = z at cA hN ⊢
  generalize tabIx b l.src = i at c1 cS hR ⊢
  generalize tabIx b l.dst = j at c2 ⊢
  clear hm hk
  have eI : decide (1 ≤ l.how ∧ l.how ≤ 3) = (decide (1 ≤ l.how) && decide (l.how ≤ 3)) := by rw [Bool.eq_iff_iff]; simp
  rw [eI]
  generalize (decide (1 ≤ l.how) && decide (l.how ≤ 3)) = bi at c3 ⊢
  refine pure_walk hTb Tryz.func97 rfl rfl Tryz.ntmps97 (by simp) ?_
  by_cases hi : i < 0
  · rw [decide_eq_true hi]
    (conv => whnf); repeat' ((first | (exact absurd h (by omega)) | (refine And.intro ?_ ?_ <;> ((try intro h) <;> (try simp only [gS] at h) <;> first | exact absurd h gF | exact absurd h.symm gF | conv => whnf)) | (refine VL.drawS hTb hMix (by kernel_rfl) (by kernel_rfl) (by kernel_rfl) ?_) | (refine Need.mk ?_; kernel_rfl) | (refine DT.pure hTb rfl (o_purN (c1) rfl rfl rfl gQ rfl) ?_) | (refine DT.pure hTb rfl (o_purN (c2) rfl rfl rfl gQ rfl) ?_)) <;> conv => whnf)
    all_goals rfl
  obtain ⟨n', hR⟩ := hR hi
  have cS := cS hi
  rw [decide_eq_false hi]
  by_cases hj : j < 0
  · rw [decide_eq_true hj]
    (conv => whnf); repeat' ((first | (exact absurd h (by omega)) | (refine And.intro ?_ ?_ <;> ((try intro h) <;> (try simp only [gS] at h) <;> first | exact absurd h gF | exact absurd h.symm gF | conv => whnf)) | (refine VL.drawS hTb hMix (by kernel_rfl) (by kernel_rfl) (by kernel_rfl) ?_) | (refine Need.mk ?_; kernel_rfl) | (refine DT.pure hTb rfl (o_purN (c1) rfl rfl rfl gQ rfl) ?_) | (refine DT.pure hTb rfl (o_purN (c2) rfl rfl rfl gQ rfl) ?_)) <;> conv => whnf)
    all_goals rfl
  rw [decide_eq_false hj]
  cases bi
  · (conv => whnf); repeat' ((first | (exact absurd h (by omega)) | (refine And.intro ?_ ?_ <;> ((try intro h) <;> (try simp only [gS] at h) <;> first | exact absurd h gF | exact absurd h.symm gF | conv => whnf)) | (refine VL.drawS hTb hMix (by kernel_rfl) (by kernel_rfl) (by kernel_rfl) ?_) | (refine Need.mk ?_; kernel_rfl) | (refine DT.pure hTb rfl (o_purN (c1) rfl rfl rfl gQ rfl) ?_) | (refine DT.pure hTb rfl (o_purN (c2) rfl rfl rfl gQ rfl) ?_) | (refine VR.pure hTb rfl rfl (o_purN (c3) rfl rfl rfl gQ rfl) ?_)) <;> conv => whnf)
    all_goals rfl
  by_cases hz : 0 ≤ z
  · have hcR := rowCZ hz hN.1
    rw [decide_eq_true hz]
    generalize L.getD z.toNat (kCol 0) = cc at hcR ⊢
    (conv => whnf); repeat' ((first | (exact absurd h (by omega)) | (refine And.intro ?_ ?_ <;> ((try intro h) <;> (try simp only [gS] at h) <;> first | exact absurd h gF | exact absurd h.symm gF | conv => whnf)) | (refine VL.drawS hTb hMix (by kernel_rfl) (by kernel_rfl) (by kernel_rfl) ?_) | (refine Need.mk ?_; kernel_rfl) | (refine DT.pure hTb rfl (o_purN (c1) rfl rfl rfl gQ rfl) ?_) | (refine DT.pure hTb rfl (o_purN (c2) rfl rfl rfl gQ rfl) ?_) | (refine VR.pure hTb rfl rfl (o_purN (c3) rfl rfl rfl gQ rfl) ?_) | (refine VR.op hTb rfl rfl (o_index_imm hTb rfl rfl rfl rfl rfl rfl rfl (by omega) (hR)) rfl ?_) | (refine VR.pure hTb rfl rfl (o_purF (cS) rfl rfl rfl gQ rfl) ?_) | (refine VR.pure hTb rfl rfl (o_purN (cA) rfl rfl rfl gQ rfl) ?_) | (refine VR.op hTb rfl rfl (o_index_imm hTb rfl rfl rfl rfl rfl rfl rfl (by omega) (hcR)) rfl ?_)) <;> conv => whnf)
    all_goals first
      | rfl
      | (simp_all [bS]; done)
  · rw [decide_eq_false hz]
    (conv => whnf); repeat' ((first | (exact absurd h (by omega)) | (refine And.intro ?_ ?_ <;> ((try intro h) <;> (try simp only [gS] at h) <;> first | exact absurd h gF | exact absurd h.symm gF | conv => whnf)) | (refine VL.drawS hTb hMix (by kernel_rfl) (by kernel_rfl) (by kernel_rfl) ?_) | (refine Need.mk ?_; kernel_rfl) | (refine DT.pure hTb rfl (o_purN (c1) rfl rfl rfl gQ rfl) ?_) | (refine DT.pure hTb rfl (o_purN (c2) rfl rfl rfl gQ rfl) ?_) | (refine VR.pure hTb rfl rfl (o_purN (c3) rfl rfl rfl gQ rfl) ?_) | (refine VR.op hTb rfl rfl (o_index_imm hTb rfl rfl rfl rfl rfl rfl rfl (by omega) (hR)) rfl ?_) | (refine VR.pure hTb rfl rfl (o_purF (cS) rfl rfl rfl gQ rfl) ?_) | (refine VR.pure hTb rfl rfl (o_purN (cA) rfl rfl rfl gQ rfl) ?_)) <;> conv => whnf)
    all_goals first
      | rfl
end Go.Vl

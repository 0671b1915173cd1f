/- Contracts: rows of tables drawn: taken out, put, turned. Contracts: tables drawn: a row turned, a change put. Contracts: tables drawn: values by name, one act, a table. Laws of values: what their functions compute. Contracts: tables drawn: one act, a table. -/
import Derived.Test.YtdijjjgplhbkkaaGreatDoorJEa
import Derived.Test.YtdijjjgplhbkkaaGreatDoorJEl
import Derived.Test.YtdijjjgplhbkkaaGreatDoorJEi
import Derived.Test.YtdijjjgplhbkkaaGreatDoorJEj
import Derived.Test.YtdijjjgplhbkkaaGreatDoorJEd
import Derived.Test.YtdijjjgplhbkkaaGreatDoorJEg
set_option linter.unusedSimpArgs false
set_option linter.unusedVariables false
set_option linter.unnecessarySimpa false
set_option maxRecDepth 100000
set_option maxHeartbeats 16000000

namespace Go.Vl
open Go Go.RowKit Go.Proofs
theorem fzRow (x : List VRow) : ((x.map encVRow).drop 0).take x.length = x.map encVRow := by rw [List.drop_zero, List.take_of_length_le (by simp)]
abbrev tdS (y : VTable × Int) : Slot := .tup [(true, tdL y.1 1), (false, [.g (.int .i64 y.2)])]
theorem grI (c : Int) : GrS (iS c) ∧ (∀ ob, some ob ∈ ([] : List (Option Ob)) → GrO ob) ∧ ∀ ob ∈ ([] : List Ob), GrO ob := ⟨rfl, fun _ h => by simp at h, fun _ h => by simp at h⟩
theorem mdD {l : List Col} (h : mdCols l) : mdVals (l.map Col.d) := fun v hv => by
  obtain ⟨c, hc, rfl⟩ := List.mem_map.1 hv
  exact (h c hc).2
theorem pureD (l : List Col) {E : TypeId} : vS true (Sr [] [.arr E 3 ((l.map Col.d).map encVal)]) [] (.one (.own 0 0 l.length)) = valsI (l.map Col.d) := by
  show Slot.one (.imm 3 ((((l.map Col.d).map encVal).drop 0).take l.length)) = _
  rw [List.drop_zero, List.take_of_length_le (by simp)]; rfl
theorem c_l3ShapeO (t : VTable) (v : Int) (ht : t.md) (hv : 0 ≤ v ∧ v ≤ (t.changes.length : Int)) : CallsV Tryz.prog 120 [.agg (encVTable t), iS v] [] (funQ (.one (.own 0 0 (tSh t v.toNat).length)) [] [.arr 39 7 ((tSh t v.toNat).map encCol)]) := by
  have hfc := ht.fc
  obtain ⟨k, hk⟩ : ∃ k : Nat, v = k := ⟨v.toNat, by omega⟩
  subst hk
  have hk : k ≤ t.changes.length := by omega
  rw [Int.toNat_natCast]
  have c1 := c_specShapeAll t.first (t.changes.take k) (by simp; omega) ht.fm (ht.cm.take _)
  unfold tSh
  obtain ⟨first, changes, rows, next⟩ := t
  simp only at c1 hk ⊢
  generalize shAll first (changes.take k) = x at c1 ⊢
  obtain ⟨x, b⟩ := x
  refine funF_walk hTb Tryz.func120 rfl rfl Tryz.ntmps120 (by simp) (by simp) ?_
  (conv => whnf); repeat' ((first | (refine And.intro ?_ ?_ <;> ((try intro h) <;> (try simp only [gS] at h) <;> first | exact absurd h gF | exact absurd h.symm gF | conv => whnf)) | (refine VL.drawS hTb hMix (by kernel_rfl) (by kernel_rfl) (by kernel_rfl) ?_) | (refine Need.mk ?_; kernel_rfl) | (refine DT.op hTb rfl (o_slice_imm (n1 := 0) (n2 := k) (rows' := (changes.take k).map encChange) hTb rfl rfl rfl rfl rfl rfl bnd_none (bnd_some rfl) (Nat.zero_le _) (by simp; omega) (by rw [List.drop_zero, Nat.sub_zero, List.map_take])) rfl ?_) | (refine DT.fun hTb rfl (o_funN (c1) false [] gN (by simp) rfl rfl rfl rfl rfl gQ rfl rfl) rfl ?_)) <;> conv => whnf)
  first
    | exact endW [1048] rfl rfl rfl rfl rfl (LeS.refl _) rfl rfl
    | exact endW [1052] rfl rfl rfl rfl rfl (LeS.refl _) rfl rfl
    | exact endW [1044] rfl rfl rfl rfl rfl (LeS.refl _) rfl rfl
    | exact endW [1056] rfl rfl rfl rfl rfl (LeS.refl _) rfl rfl
    | exact endW [1040] rfl rfl rfl rfl rfl (LeS.refl _) rfl rfl
theorem c_l3LastO (t : VTable) (ht : t.md) : CallsV Tryz.prog 52 [.agg (encVTable t)] [] (funQ (.one (.own 0 0 (tL t).length)) [] [.arr 39 7 ((tL t).map encCol)]) := by
  have c1 := c_l3ShapeO t ((t.changes.map encChange).length : Nat) ht ⟨by omega, by simp⟩
  rw [Int.toNat_natCast, tSh_all (by simp)] at c1
  generalize tL t = L at c1 ⊢
  obtain ⟨first, changes, rows, next⟩ := t
  refine funF_walk hTb Tryz.func52 rfl rfl Tryz.ntmps52 (by simp) (by simp) ?_
  (conv => whnf); repeat' ((first | (refine VR.fun hTb rfl rfl (o_funN (c1) false [] gN (by simp) rfl rfl rfl rfl rfl gQ rfl rfl) ?_)) <;> conv => whnf)
  first
    | exact endW [1028] rfl rfl rfl rfl rfl (LeS.refl _) rfl rfl
    | exact endW [1032] rfl rfl rfl rfl rfl (LeS.refl _) rfl rfl
    | exact endW [1024] rfl rfl rfl rfl rfl (LeS.refl _) rfl rfl
    | exact endW [1036] rfl rfl rfl rfl rfl (LeS.refl _) rfl rfl
theorem c_l3PutK (t : VTable) (ht : t.dr) (sets : List VSet) (hS : smSets sets) : CallsV Tryz.prog 140 [.agg (tdL t 0), vsetsI sets] [tdO t] (relQ (fun y : VTable × Int => y.1.dr ∧ y.1.first = t.first ∧ y.1.changes = t.changes) tdS (fun _ => [none]) (fun y => [tdO y.1])) := by
  have hm := ht.md
  have hrl := ht.rl
  have hnx := ht.nx
  have hLl := ht.lenL
  have cL := c_l3LastO t hm
  have cD := (c_l3Defs (tL t) (by omega)).pure (pureD (tL t))
  have cF := c_l3Fill (tL t) ((tL t).map Col.d) sets (by simp) (by simp; omega) (mdD (tL_md hm)) hS
  have cC := fun vals h1 h2 => c_l3Code t ⟨t.next, ((t.changes.map encChange).length : Nat), vals⟩ ht h1 h2
  have hput := fun vals h1 h2 h3 h4 => dr_put ht (vals := vals) h1 h2 h3 h4
  have hml : ((tL t).map Col.d).length = (tL t).length := by simp
  have hcl : ((t.changes.map encChange).length : Int) = (t.changes.length : Int) := by simp
  have hw : 0 ≤ t.next → t.next ≤ 60 → IntKind.i64.wrap (t.next + 1) = t.next + 1 := fun h1 h2 => by rw [IntKind.wrap_i64]; omega
  replace hw := hw hnx.1 hnx.2
  generalize tL t = L at cL cD cF cC hput hml hLl
  refine funC_walk 0 hTb Tryz.func140 rfl rfl Tryz.ntmps140 (by simp) (by simp) (by simp) ?_
  (conv => whnf); repeat' ((first | (refine And.intro ?_ ?_ <;> ((try intro h) <;> (try simp only [gS] at h) <;> first | exact absurd h gF | exact absurd h.symm gF | conv => whnf)) | (refine VR.freeze hTb rfl 1048 rfl rfl ?_; conv => whnf; rw [fzC]) | (refine VR.freeze hTb rfl 1072 rfl rfl ?_; conv => whnf; rw [fzV]) | (refine VR.fun hTb rfl rfl (o_funN (cL) true [] (fun _ => grNewCol _ _) (by simp) rfl rfl rfl rfl rfl gQ ?_ rfl) ?_; exact congrArg (fun s => [s]) (brwTD t)) | (refine VR.pure hTb rfl rfl (o_purF (cD) rfl rfl rfl gQ rfl) ?_) | (refine VR.rel hTb rfl rfl (o_relN (cF) false [] (fun _ _ => ⟨by simp, gN⟩) rfl rfl rfl rfl rfl gQ rfl rfl) ?_; rintro ⟨vals, ok⟩ hv; (try simp only at hv)) | (refine VR.rel hTb rfl rfl (o_relN (cC vals hv.2 (hv.1.trans hml)) true [] (fun _ _ => ⟨by simp, fun _ => grI _⟩) rfl rfl rfl rfl rfl gQ ?_ rfl) ?_; exact congrArg (fun s => [s, _]) (brwTD t); rintro cd hcd; (try simp only at hcd)) | (refine VR.opk hTb rfl rfl (o_app1 (q := 155) (a := ⟨t.next, ((t.changes.map encChange).length : Int), vals⟩) hTb rfl rfl rfl rfl rfl rfl rfl rfl rfl rfl rfl rfl (by omega) (by show _ * 40 ≤ _; omega) (by unfold maxLen; omega)) ?_)) <;> conv => whnf)
  all_goals first
    | exact endCR [0] (t, _) rfl rfl rfl rfl (LeS.refl _) rfl rfl ⟨ht, rfl, rfl⟩
    | (exfalso; simp_all; done)
    | skip
  have hc : cd = 0 := by simpa using h
  refine endCR [155] ((⟨t.first, t.changes, t.rows ++ [⟨t.next, (t.changes.length : Int), vals⟩], t.next + 1⟩ : VTable), cd) rfl rfl rfl rfl (LeS.of_eq ?_) rfl ?_ ⟨hput vals hv.2 (hcd.2 hc) (by omega) (by omega), rfl, rfl⟩
  · show Slot.tup [(true, [.imm 7 (t.first.map encCol), .imm 10 (t.changes.map encChange), .own 1 0 (t.rows.length + 1), .g (.int .i64 (IntKind.i64.wrap (t.next + 1)))]), (false, [.g (.int .i64 cd)])] = _
    rw [hw]
    simp
  · exact (congrArg (fun v : Int => [Ob.arr 35 3 ((t.rows ++ [(⟨t.next, v, vals⟩ : VRow)]).map encVRow)]) hcl)
theorem eq3 {a b c a' b' : Slot} (h1 : a = a') (h2 : b = b') : [a, b, c] = [a', b', c] := by subst h1 h2; rfl
theorem c_l3SetK (t : VTable) (ht : t.dr) (id : Int) (sets : List VSet) (hS : smSets sets) : CallsV Tryz.prog 136 [.agg (tdL t 0), iS id, vsetsI sets] [tdO t] (relQ (fun y : VTable × Int => y.1.dr ∧ y.1.first = t.first ∧ y.1.changes = t.changes) tdS (fun _ => [none]) (fun y => [tdO y.1])) := by
  have hm := ht.md
  have hrl := ht.rl
  have hLl := ht.lenL
  have cA := c_l3At t id (by unfold maxLen; omega)
  have hk := tAt_lt t id
  generalize tAt t id = z at cA hk
  by_cases hz : z < 0
  · refine funC_walk 0 hTb Tryz.func136 rfl rfl Tryz.ntmps136 (by simp) (by simp) (by simp) ?_
    (conv => whnf); repeat' ((first | (exact absurd h (by omega)) | (refine And.intro ?_ ?_ <;> ((try intro h) <;> (try simp only [gS] at h) <;> first | exact absurd h gF | exact absurd h.symm gF | conv => whnf)) | (refine VR.pure hTb rfl rfl (o_purN cA rfl rfl rfl gQ ?_) ?_; exact congrArg (fun s => [s, _]) (brwTD t))) <;> conv => whnf)
    exact endCR [0] (t, 5) rfl rfl rfl rfl (LeS.refl _) rfl rfl ⟨ht, rfl, rfl⟩
  · have hzl : z.toNat < t.rows.length := by omega
    have hmem := List.getElem_mem hzl
    have hrow : t.rows[0 + z.toNat]? = some t.rows[z.toNat] := by rw [Nat.zero_add]; exact List.getElem?_eq_getElem _
    have cL := c_l3LastO t hm
    have cN := c_l3Now t t.rows[z.toNat] hm (ht.rw _ hmem).1 (by have := (hm.rm _ hmem).1; omega) (hm.rm _ hmem).2
    have hN := ht.now hmem
    have hNm := tNow_md (r := t.rows[z.toNat]) hm (hm.rm _ hmem).2
    have cF := c_l3Fill (tL t) (tNow t t.rows[z.toNat]) sets (by omega) (by omega) hNm hS
    generalize tNow t t.rows[z.toNat] = w at cN hN cF
    generalize t.rows[z.toNat] = r0 at hrow cN
    have cC := fun vals h1 h2 => c_l3Code t ⟨id, ((t.changes.map encChange).length : Nat), vals⟩ ht h1 h2
    have hset := fun vals h1 h2 => dr_set ht (vals := vals) h1 h2 (0 + z.toNat) id
    have hcl : ((t.changes.map encChange).length : Int) = (t.changes.length : Int) := by simp
    generalize tL t = L at cL cF cC hset hN hLl
    refine funC_walk 0 hTb Tryz.func136 rfl rfl Tryz.ntmps136 (by simp) (by simp) (by simp) ?_
    (conv => whnf); repeat' ((first | (exact absurd h (by omega)) | (refine And.intro ?_ ?_ <;> ((try intro h) <;> (try simp only [gS] at h) <;> first | exact absurd h gF | exact absurd h.symm gF | conv => whnf)) | (refine VL.drawS hTb hMix (by kernel_rfl) (by kernel_rfl) (by kernel_rfl) ?_) | (refine Need.mk ?_; kernel_rfl) | (refine VR.pure hTb rfl rfl (o_purN cA rfl rfl rfl gQ ?_) ?_; exact congrArg (fun s => [s, _]) (brwTD t)) | (refine VR.freeze hTb rfl 1120 rfl rfl ?_; conv => whnf; rw [fzV]) | (refine DT.fun hTb rfl (o_funN (cL) true [] (fun _ => grNewCol _ _) (by simp) rfl rfl rfl rfl rfl gQ ?_ rfl) rfl ?_; exact congrArg (fun s => [s]) (brwTD t)) | (refine DT.fun hTb rfl (o_funN (cN) true [] (fun _ => grNewVal _ _) (by simp) rfl rfl rfl rfl rfl gQ ?_ rfl) rfl ?_; exact congrArg (fun s => [s, _]) (brwTD t)) | (refine DT.op hTb rfl (o_loadM hTb rfl rfl rfl rfl (hrow) ⟨by decide, by decide⟩) rfl ?_) | (refine DT.rel hTb rfl (o_relN cF true [] (fun y _ => ⟨by simp, fun _ => grRvS y⟩) rfl rfl rfl rfl rfl gQ ?_ rfl) [1120] (by kernel_rfl) (by kernel_rfl) ?_; exact eq3 brw brw; rintro ⟨vals, ok⟩ hv; (try simp only at hv); refine And.intro rfl (And.intro rfl ?_)) | (refine VR.rel hTb rfl rfl (o_relN (cC vals hv.2 (hv.1.trans hN)) true [] (fun _ _ => ⟨by simp, fun _ => grI _⟩) rfl rfl rfl rfl rfl gQ ?_ rfl) ?_; exact congrArg (fun s => [s, _]) (brwTD t); rintro cd hcd; (try simp only at hcd)) | (refine Need.mk ?_; exact ⟨rfl, by omega, by omega⟩) | (refine VR.op hTb rfl rfl (o_storeM hTb rfl rfl rfl rfl rfl (hrow) rfl rfl rfl ⟨rfl, by decide⟩ (c' := ⟨id, ((t.changes.map encChange).length : Int), vals⟩) rfl) rfl ?_)) <;> conv => whnf)
    all_goals first
      | exact endCR [0] (t, _) rfl rfl rfl rfl (LeS.refl _) rfl rfl ⟨ht, rfl, rfl⟩
      | (exfalso; simp_all; done)
      | (have hc : cd = 0 := (by simpa using h)
         exact endCR [0] ((⟨t.first, t.changes, t.rows.set (0 + z.toNat) ⟨id, (t.changes.length : Int), vals⟩, t.next⟩ : VTable), cd) rfl rfl rfl rfl (LeS.of_eq (congrArg (fun n => Slot.tup [(true, [.imm 7 (t.first.map encCol), .imm 10 (t.changes.map encChange), .own 1 0 n, .g (.int .i64 t.next)]), (false, [.g (.int .i64 cd)])]) (by simp))) rfl (congrArg (fun v : Int => [Ob.arr 35 3 ((t.rows.set (0 + z.toNat) (⟨id, v, vals⟩ : VRow)).map encVRow)]) hcl) ⟨hset vals hv.2 (hcd.2 hc), rfl, rfl⟩)
theorem c_l3CopyD (t : VTable) (ht : t.md) : CallsV Tryz.prog 69 [.agg (tdL t 0)] [tdO t] (funQ (.agg [.own 1 0 t.first.length, .own 2 0 t.changes.length, .own 3 0 t.rows.length, .g (.int .i64 t.next)]) [some (tdO t)] [.arr 39 7 (t.first.map encCol), .arr 105 10 (t.changes.map encChange), .arr 35 3 (t.rows.map encVRow)]) := by
  have hfc := ht.fc
  have hrl := ht.r
  have hrm := ht.rm
  refine funF_walk hTb Tryz.func69 rfl rfl Tryz.ntmps69 (by simp) (by simp) ?_
  have a1 : t.first.length ≤ 2000000 := by omega
  have a2 : t.changes.length ≤ 2000000 := by omega
  (conv => whnf); repeat' ((first | (refine VL.drawS hTb hMix (by kernel_rfl) (by kernel_rfl) (by kernel_rfl) ?_)) <;> conv => whnf)
  refine DT.opk hTb rfl (o_app0 (f := encCol) (m := t.first) (q := 108) hTb rfl rfl rfl rfl rfl rfl rfl rfl rfl rfl (by omega) (by show _ * 64 ≤ _; omega) (by unfold maxLen; omega)) ?_
  conv => whnf
  refine DT.opk hTb rfl (o_app0 (f := encChange) (m := t.changes) (q := 112) hTb rfl rfl rfl rfl rfl rfl rfl rfl rfl rfl (by omega) (by show _ * 104 ≤ _; omega) (by unfold maxLen; omega)) ?_
  (conv => whnf); repeat' ((first | (refine And.intro ?_ ?_ <;> ((try intro h) <;> (try simp only [Bool.not_true, Bool.not_false] at h) <;> first | exact absurd h gF | exact absurd h.symm gF | conv => whnf)) | (refine Need.mk ?_; kernel_rfl)) <;> conv => whnf)
  refine VL.loopI hTb (fun i => i ≤ t.rows.length) (fun i => ⟨[(1, .one (.ptr 101 0)), (2, .one (.ptr 102 0)), (3, .one (.ptr 103 0)), (4, iS i)], [(0, tdO t), (101, .box (tdL t 0)), (102, .box [.g (.slice none 0 0), .g (.slice none 0 0), .g (.slice none 0 0), .g (.int .i64 0)]), (103, .box [.own 108 0 t.first.length, .own 112 0 t.changes.length, .own 120 0 (t.rows.take i).length, .g (.int .i64 t.next)]), (108, .arr 39 7 (t.first.map encCol)), (112, .arr 105 10 (t.changes.map encChange)), (120, .arr 35 3 ((t.rows.take i).map encVRow))], []⟩) (fun i => t.rows.length - i) 0 (Nat.zero_le _)
    ((wk_nilBox _ (q0 := 103) (j := 2) (q := 120) (sz := 3) (E := 35) rfl rfl rfl (by decide)).trans (wk_to [(0, 0), (101, 101), (102, 102), (103, 103), (108, 108), (112, 112), (120, 120)] rfl rfl rfl ⟨rfl, rfl, rfl, rfl, trivial⟩ ⟨rfl, ⟨_, rfl, rfl⟩, rfl, ⟨_, rfl, rfl⟩, rfl, ⟨_, rfl, rfl⟩, rfl, ⟨_, rfl, rfl⟩, rfl, ⟨_, rfl, rfl⟩, rfl, ⟨_, rfl, rfl⟩, rfl, ⟨_, rfl, rfl⟩, trivial⟩)) (fun i hi => ?_)
  (conv => whnf)
  refine And.intro (fun h2 => ?_) (fun h2 => ?_)
  · have hil : i < t.rows.length := by simpa using h2
    have hrw : t.rows[0 + ((i : Nat) : Int).toNat]? = some t.rows[i] := by rw [Nat.zero_add, Int.toNat_natCast]; exact List.getElem?_eq_getElem _
    have hvl := (hrm _ (List.getElem_mem hil)).1
    have htk := List.take_succ_eq_append_getElem hil
    have hml : (t.rows.take i).length ≤ 1048576 := by simp; omega
    generalize t.rows.take i = M at htk hml ⊢
    generalize t.rows[i] = ri at hrw hvl htk
    (conv => whnf); repeat' ((first | (refine And.intro ?_ ?_ <;> ((try intro h) <;> (try simp only [gS] at h) <;> first | exact absurd h gF | exact absurd h.symm gF | conv => whnf)) | (refine VL.drawS hTb hMix (by kernel_rfl) (by kernel_rfl) (by kernel_rfl) ?_) | (refine DT.op hTb rfl (o_loadM hTb rfl rfl rfl rfl (hrw) ⟨by decide, by decide⟩) rfl ?_) | (refine Need.mk ?_; exact ⟨rfl, by omega, by omega⟩)) <;> conv => whnf)
    refine DT.opk hTb rfl (o_appF (q := 144) hTb rfl rfl rfl rfl rfl rfl rfl rfl rfl rfl (by decide) (by show _ * 32 ≤ _; simp; omega) (by unfold maxLen; simp; omega)) ?_
    conv => whnf
    refine DT.opk hTb rfl (o_app1 (q := 147) (a := ri) hTb rfl rfl rfl rfl rfl rfl rfl rfl rfl rfl rfl rfl (by omega) (by show _ * 40 ≤ _; omega) (by unfold maxLen; omega)) ?_
    (conv => whnf); repeat' ((first | (refine And.intro ?_ ?_ <;> ((try intro h) <;> (try simp only [Bool.not_true, Bool.not_false] at h) <;> first | exact absurd h gF | exact absurd h.symm gF | conv => whnf)) | (refine Need.mk ?_; kernel_rfl)) <;> conv => whnf)
    exact ⟨i + 1, hil, by omega, wk_to [(0, 0), (101, 101), (102, 102), (103, 103), (108, 108), (112, 112), (147, 120)] rfl rfl rfl ⟨rfl, rfl, rfl, gW (by unfold maxLen; omega), trivial⟩ ⟨rfl, ⟨_, rfl, rfl⟩, rfl, ⟨_, rfl, rfl⟩, rfl, ⟨_, rfl, rfl⟩, rfl, ⟨_, rfl, congrArg (fun n => Ob.box [.own 108 0 t.first.length, .own 112 0 t.changes.length, .own 120 0 n, .g (.int .i64 t.next)]) (by rw [htk]; simp)⟩, rfl, ⟨_, rfl, rfl⟩, rfl, ⟨_, rfl, rfl⟩, rfl, ⟨_, rfl, congrArg (fun r : List VRow => Ob.arr 35 3 (r.map encVRow)) htk.symm⟩, trivial⟩⟩
  · have hie : i = t.rows.length := by simp at h2; omega
    subst hie
    rw [List.take_length]
    (conv => whnf)
    exact endW [108, 112, 120] rfl rfl rfl rfl rfl (LeS.refl _) rfl rfl
theorem fzH1 (l : List Change) (c : Change) : (((l ++ [c]).map encChange).drop 0).take (l.length + 1) = (l ++ [c]).map encChange := by rw [List.drop_zero, List.take_of_length_le (by simp)]
theorem c_l3ChangeK (t : VTable) (ht : t.dr) (c : Change) (hc : c.sml) : CallsV Tryz.prog 138 [.agg (tdL t 0), .agg (encChange c)] [tdO t] (relQ (fun y : VTable × Int => y.1.dr ∧ (y.2 = 0 → y.1 = ⟨t.first, t.changes ++ [c], t.rows, t.next⟩ ∧ (sdo (tL t) c).2 = true)) tdS (fun _ => [none]) (fun y => [tdO y.1])) := by
  have hm := ht.md
  have hrl := ht.rl
  have hLl := ht.lenL
  have hcl8 := ht.cl
  have cL := c_l3LastO t hm
  have cK := c_l3CopyD t hm
  have cS := c_specShapeDo (tL t) c (by omega) (tL_md hm) hc.md
  have hchg := fun h1 h2 => dr_chg ht hc h1 h2
  generalize sdo (tL t) c = sd at cS hchg ⊢
  obtain ⟨sl, sb⟩ := sd
  simp only at hchg
  have hm2 : VTable.md ⟨t.first, t.changes ++ [c], t.rows, t.next⟩ := ⟨by have := ht.fl; simp; omega, hm.fm, (ht.cs.app hc).md, hm.r, hm.rm⟩
  have cL2 := c_l3LastO ⟨t.first, t.changes ++ [c], t.rows, t.next⟩ hm2
  have hL2 := tL_len ⟨t.first, t.changes ++ [c], t.rows, t.next⟩
  have hok2 := (tL_md hm2).ok
  have hrw2 := fun i (h : i < t.rows.length) => (ht.rw _ (List.getElem_mem h)).1
  have cN := fun i (h : i < t.rows.length) => c_l3Now ⟨t.first, t.changes ++ [c], t.rows, t.next⟩ t.rows[i] hm2 ⟨(hrw2 i h).1, by have := (hrw2 i h).2; simp only [List.length_append, List.length_cons, List.length_nil]; omega⟩ (by have := (hm.rm _ (List.getElem_mem h)).1; omega) (hm.rm _ (List.getElem_mem h)).2
  have hNm := fun i (h : i < t.rows.length) => tNow_md (r := t.rows[i]) hm2 (hm.rm _ (List.getElem_mem h)).2
  have hL2l : (tL ⟨t.first, t.changes ++ [c], t.rows, t.next⟩).length ≤ 20 := by have := ht.fl; simp at hL2; omega
  have cR := fun vs (hv : mdVals vs) => c_specRowOk (tL ⟨t.first, t.changes ++ [c], t.rows, t.next⟩) vs (lmax (by omega)) hok2 (mdv_ok' hv)
  generalize tL ⟨t.first, t.changes ++ [c], t.rows, t.next⟩ = L2 at cL2 cR
  obtain ⟨f, hf⟩ : ∃ f, tNow ⟨t.first, t.changes ++ [c], t.rows, t.next⟩ = f := ⟨_, rfl⟩
  rw [hf] at cN hNm
  clear hf hok2 hm2 hL2
  generalize tL t = L at cL cS hLl
  refine funC_walk 0 hTb Tryz.func138 rfl rfl Tryz.ntmps138 (by simp) (by simp) (by simp) ?_
  obtain ⟨t2, ht2⟩ : ∃ t2 : VTable, t2 = ⟨t.first, t.changes ++ [c], t.rows, t.next⟩ := ⟨_, rfl⟩
  rw [← ht2] at cL2 cN hchg
  have hb2 : Slot.agg [.imm 7 (t.first.map encCol), .imm 10 ((t.changes ++ [c]).map encChange), .imm 3 (((t.rows.map encVRow).drop 0).take t.rows.length), .g (.int .i64 t.next)] = .agg (encVTable t2) := by
    rw [ht2]; exact brwTD ⟨t.first, t.changes ++ [c], t.rows, t.next⟩
  (conv => whnf); repeat' ((first | (refine VL.freeze 1120 rfl rfl ?_; conv => whnf; rw [fzC]) | (refine And.intro ?_ ?_ <;> ((try intro h) <;> (try simp only [gS] at h) <;> first | exact absurd h gF | exact absurd h.symm gF | conv => whnf)) | (refine VL.drawS hTb hMix (by kernel_rfl) (by kernel_rfl) (by kernel_rfl) ?_) | (refine Need.mk ?_; kernel_rfl) | (refine DT.fun hTb rfl (o_funN (cL) true [] (fun _ => grNewCol _ _) (by simp) rfl rfl rfl rfl rfl gQ ?_ rfl) rfl ?_; exact congrArg (fun s => [s]) (brwTD t)) | (refine DT.fun hTb rfl (o_funN (cS) true [] (fun _ => grShS _) (by simp) rfl rfl rfl rfl rfl gQ ?_ rfl) rfl ?_; exact congrArg (fun s => [s, _]) brw) | (refine VR.fun hTb rfl rfl (o_funN (cK) false [0] gN (by simp) rfl rfl rfl rfl rfl gQ rfl rfl) ?_) | (refine VR.opk hTb rfl rfl (o_app1 (q := 127) (a := c) hTb rfl rfl rfl rfl rfl rfl rfl rfl rfl rfl rfl rfl (by omega) (by show _ * 104 ≤ _; omega) (by unfold maxLen; omega)) ?_) | (refine VR.freeze hTb rfl 1088 rfl rfl ?_; conv => whnf; rw [fzC]) | (refine VR.freeze hTb rfl 127 rfl rfl ?_; conv => whnf; rw [fzH1]) | (refine VR.fun hTb rfl rfl (o_funN (cL2) true [] (fun _ => grNewCol _ _) (by simp) rfl rfl rfl rfl rfl gQ ?_ rfl) ?_; exact congrArg (fun s => [s]) hb2)) <;> conv => whnf)
  · exact endCR [0] (t, 1) rfl rfl rfl rfl (LeS.refl _) rfl rfl ⟨ht, fun (h0 : (1 : Int) = 0) => absurd h0 (by decide)⟩
  have hsb : sb = true := by simpa using h
  refine VL.loopI hTb (fun i => i ≤ t.rows.length) (fun i => ⟨[(2, .one (.ptr 102 0)), (4, .one (.ptr 104 0)), (8, .one (.ptr 108 0)), (9, colsI L2), (10, iS i)], [(0, tdO t), (102, .box (tdL t 0)), (104, .box [.g (.slice none 0 0), .g (.slice none 0 0), .g (.slice none 0 0), .g (.int .i64 0)]), (108, .box [.imm 7 (t.first.map encCol), .imm 10 ((t.changes ++ [c]).map encChange), .own 1090 0 t.rows.length, .g (.int .i64 t.next)]), (1090, tdO t)], []⟩) (fun i => t.rows.length - i) 0 (Nat.zero_le _)
    (wk_to [(0, 0), (102, 102), (104, 104), (108, 108), (1090, 1090)] rfl rfl rfl ⟨rfl, rfl, rfl, rfl, rfl, trivial⟩ ⟨rfl, ⟨_, rfl, rfl⟩, rfl, ⟨_, rfl, rfl⟩, rfl, ⟨_, rfl, rfl⟩, rfl, ⟨_, rfl, rfl⟩, rfl, ⟨_, rfl, rfl⟩, trivial⟩) (fun i hi => ?_)
  (conv => whnf)
  refine And.intro (fun h2 => ?_) (fun h2 => ?_)
  · have hil : i < t.rows.length := by simpa using h2
    have hrw : t.rows[0 + ((i : Nat) : Int).toNat]? = some t.rows[i] := by rw [Nat.zero_add, Int.toNat_natCast]; exact List.getElem?_eq_getElem _
    have cN := cN i hil
    have cR := cR _ (hNm i hil)
    generalize f t.rows[i] = w at cN cR
    generalize t.rows[i] = ri at hrw cN
    generalize rowOk L2 w = rb at cR
    (conv => whnf); repeat' ((first | (refine And.intro ?_ ?_ <;> ((try intro h) <;> (try simp only [gS] at h) <;> first | exact absurd h gF | exact absurd h.symm gF | conv => whnf)) | (refine VL.drawS hTb hMix (by kernel_rfl) (by kernel_rfl) (by kernel_rfl) ?_) | (refine Need.mk ?_; kernel_rfl) | (refine DT.op hTb rfl (o_loadM hTb rfl rfl rfl rfl (hrw) ⟨by decide, by decide⟩) rfl ?_) | (refine Need.mk ?_; exact ⟨rfl, by omega, by omega⟩) | (refine DT.fun hTb rfl (o_funN (cN) true [] (fun _ => grNewVal _ _) (by simp) rfl rfl rfl rfl rfl gQ ?_ rfl) rfl ?_; exact congrArg (fun s => [s, _]) hb2) | (refine DT.pure hTb rfl (o_purN (cR) rfl rfl rfl gQ (congrArg (fun s => [_, s]) brw)) ?_)) <;> conv => whnf)
    all_goals first
      | exact endCR [0] (t, 2) rfl rfl rfl rfl (LeS.refl _) rfl rfl ⟨ht, fun (h0 : (2 : Int) = 0) => absurd h0 (by decide)⟩
      | exact ⟨i + 1, hil, by omega, wk_to [(0, 0), (102, 102), (104, 104), (108, 108), (1090, 1090)] rfl rfl rfl ⟨rfl, rfl, rfl, rfl, gW (by unfold maxLen; omega), trivial⟩ ⟨rfl, ⟨_, rfl, rfl⟩, rfl, ⟨_, rfl, rfl⟩, rfl, ⟨_, rfl, rfl⟩, rfl, ⟨_, rfl, rfl⟩, rfl, ⟨_, rfl, rfl⟩, trivial⟩⟩
  · (conv => whnf); repeat' ((first | (refine And.intro ?_ ?_ <;> ((try intro h) <;> (try simp only [gS] at h) <;> first | exact absurd h gF | exact absurd h.symm gF | conv => whnf))) <;> conv => whnf)
    all_goals first
      | exact endCR [0] (t, 4) rfl rfl rfl rfl (LeS.refl _) rfl rfl ⟨ht, fun (h0 : (4 : Int) = 0) => absurd h0 (by decide)⟩
      | (have h8 : t.changes.length < 8 := by (have h9 := h; simp at h9; omega)
         subst ht2
         exact endCR [1090] ((⟨t.first, t.changes ++ [c], t.rows, t.next⟩ : VTable), 0) rfl rfl rfl rfl (LeS.refl _) rfl rfl ⟨hchg hsb h8, fun _ => ⟨rfl, hsb⟩⟩)
def sm8 (l : List VSet) : Prop := ∀ x ∈ l, x.name.size ≤ 8 ∧ x.val.md
theorem sm8.app {l : List VSet} (h : sm8 l) {c : VSet} (h1 : c.name.size ≤ 8) (h2 : c.val.t.size ≤ 8) : sm8 (l ++ [c]) := by
  intro x hx
  rcases List.mem_append.1 hx with hx | hx
  · exact h x hx
  · simp at hx; subst hx; exact ⟨h1, by unfold Val.md; omega⟩
theorem sm8.set {l : List VSet} (h : sm8 l) (k : Nat) {c : VSet} (h1 : c.name.size ≤ 8) (h2 : c.val.t.size ≤ 8) : sm8 (l.set k c) := by
  intro x hx
  rcases List.mem_or_eq_of_mem_set hx with hx | rfl
  · exact h x hx
  · exact ⟨h1, by unfold Val.md; omega⟩
theorem c_l1Max (x y : Int) : CallsV Tryz.prog 134 [iS x, iS y] [] (pureQ (iS (if y < x then x else y))) := by
  refine pure_walk hTb Tryz.func134 rfl rfl Tryz.ntmps134 (by simp) ?_
  (conv => whnf); repeat' ((first | (refine And.intro ?_ ?_ <;> ((try intro h) <;> (try simp only [gS] at h) <;> first | exact absurd h gF | exact absurd h.symm gF | conv => whnf))) <;> conv => whnf)
  · rw [if_pos h]; rfl
  · rw [if_neg (by omega)]; rfl
end Go.Vl

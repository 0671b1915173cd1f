/- Contract: a table copied (spec.l3Copy), its rows' values its own. Contract: tables drawn, bent. Law: the rows that are found are those that hold the value, one by one (given what is drawn). Draws of tables. Laws: malformed shapes are refused. -/
import Derived.Test.YtdijjjgplhbkkaaGreatDoorJUp
import Derived.Test.YtdijjjgplhbkkaaGreatDoorJUl
import Derived.Test.YtdijjjgplhbkkaaGreatDoorJUm
import Derived.Test.YtdijjjgplhbkkaaGreatDoorJUc
import Derived.Test.YtdijjjgplhbkkaaGreatDoorWi
set_option linter.unusedSimpArgs false
set_option linter.unusedVariables false
set_option linter.unnecessarySimpa false

namespace Go.Vl
open Go Go.RowKit Go.Proofs
set_option maxRecDepth 100000
set_option linter.unusedSimpArgs false
set_option linter.unusedVariables false
set_option linter.unnecessarySimpa false
set_option maxHeartbeats 8000000

theorem putN (M : List VRow) (r : VRow) (l : Leaf) : (M.map encVRowN ++ [[Leaf.g (.int .i64 r.id), Leaf.g (.int .i64 r.ver), l]]).set ((M.map encVRowN).length + 0) [Leaf.g (.int .i64 r.id), Leaf.g (.int .i64 r.ver), .nst 37 3 (r.vals.map encVal)] = (M ++ [r]).map encVRowN := by
  rw [List.set_append_right _ _ (by omega), Nat.add_zero, Nat.sub_self, List.set_cons_zero, List.map_append]
  rfl
theorem hpl3 (a b : Value) (l x : Leaf) : ∀ (y : Nat) (z : Leaf), [Leaf.g a, Leaf.g b, l][y]? = some z → holeAt [(0, 2, x)] 0 y = none → plain [z] = true := by
  intro y z h1 h2
  rcases y with _ | _ | _ | y
  · simp at h1; subst h1; rfl
  · simp at h1; subst h1; rfl
  · simp [holeAt] at h2
  · simp at h1
theorem c_l3CopyR (t : VTable) (ht : t.md) : CallsV Tryz.prog 69 [.agg (encVTable t)] [] (funQ (tabS t) [] (tabO t)) := by
  have hfc := ht.fc
  have hrl := ht.r
  have hrm := ht.rm
  refine funF_walk hTb Tryz.func69 rfl rfl Tryz.ntmps69 (by simp) (by simp) ?_
  have a1 : t.first.length ≤ 2000000 := by omega
  have a2 : t.changes.length ≤ 2000000 := by omega
  (conv => whnf); repeat' (first
    | (refine And.intro ?_ ?_ <;> ((try intro h) <;> (try simp only [Bool.not_true, Bool.not_false, decide_eq_true_eq, decide_eq_false_iff_not, Int.not_lt, Int.not_le, gt_iff_lt, ge_iff_le] at h) <;> first | exact absurd h Bool.false_ne_true | exact absurd h.symm Bool.false_ne_true | conv => whnf))
    | (refine VL.drawS hTb hMix (by kernel_rfl) (by kernel_rfl) (by kernel_rfl) ?_; conv => whnf)
    | (refine Need.mk ?_; kernel_rfl) | (refine Need.mk ⟨rfl, ?_⟩; decide)
    | (refine Need.mk ?_; rfl))
  refine DT.opk hTb rfl (o_app0 (f := encCol) (m := t.first) (q := 108) hTb rfl rfl rfl rfl rfl rfl rfl rfl rfl rfl (by omega) (by show _ * 64 ≤ _; omega) (by unfold maxLen; omega)) ?_
  conv => whnf
  refine DT.opk hTb rfl (o_app0 (f := encChange) (m := t.changes) (q := 112) hTb rfl rfl rfl rfl rfl rfl rfl rfl rfl rfl (by omega) (by show _ * 104 ≤ _; omega) (by unfold maxLen; omega)) ?_
  (conv => whnf); repeat' (first | (refine And.intro ?_ ?_ <;> ((try intro h) <;> (try simp only [Bool.not_true, Bool.not_false] at h) <;> first | exact absurd h Bool.false_ne_true | exact absurd h.symm Bool.false_ne_true | conv => whnf)) | (refine Need.mk ?_; kernel_rfl) | (refine Need.mk ⟨rfl, ?_⟩; decide))
  refine VL.loopI hTb (fun i => i ≤ t.rows.length) (fun i => ⟨[(1, .one (.ptr 101 0)), (2, .one (.ptr 102 0)), (3, .one (.ptr 103 0)), (4, iS i)], [(101, .box (encVTable t)), (102, .box [.g (.slice none 0 0), .g (.slice none 0 0), .g (.slice none 0 0), .g (.int .i64 0)]), (103, .box [.own 108 0 t.first.length, .own 112 0 t.changes.length, .own 120 0 (t.rows.take i).length, .g (.int .i64 t.next)]), (108, .arr 39 7 (t.first.map encCol)), (112, .arr 105 10 (t.changes.map encChange)), (120, .reg 35 3 ((t.rows.take i).map encVRowN) [])], []⟩) (fun i => t.rows.length - i) 0 (Nat.zero_le _)
    (((wk_nilBox _ (q0 := 103) (j := 2) (q := 120) (sz := 3) (E := 35) rfl rfl rfl (by decide)).trans (wk_toReg _ (q := 120) rfl)).trans (wk_to [(101, 101), (102, 102), (103, 103), (108, 108), (112, 112), (120, 120)] rfl rfl rfl ⟨rfl, rfl, rfl, rfl, trivial⟩ ⟨rfl, ⟨_, rfl, rfl⟩, rfl, ⟨_, rfl, rfl⟩, rfl, ⟨_, rfl, rfl⟩, rfl, ⟨_, rfl, rfl⟩, rfl, ⟨_, rfl, rfl⟩, rfl, ⟨_, rfl, rfl⟩, trivial⟩)) (fun i hi => ?_)
  (conv => whnf)
  refine And.intro (fun h2 => ?_) (fun h2 => ?_)
  · have hil : i < t.rows.length := by simpa using h2
    have hrw := rowVRow hil
    have hvl := (hrm _ (List.getElem_mem hil)).1
    have htk := List.take_succ_eq_append_getElem hil
    have hml : (t.rows.take i).length ≤ 1048576 := by simp; omega
    generalize t.rows.take i = M at htk hml ⊢
    generalize t.rows[i] = ri at hrw hvl htk
    have hml2 : (M.map encVRowN).length = M.length := List.length_map _
    (conv => whnf); repeat' (first
    | (refine And.intro ?_ ?_ <;> ((try intro h) <;> (try simp only [Bool.not_true, Bool.not_false, decide_eq_true_eq, decide_eq_false_iff_not, Int.not_lt, Int.not_le, gt_iff_lt, ge_iff_le] at h) <;> first | exact absurd h Bool.false_ne_true | exact absurd h.symm Bool.false_ne_true | conv => whnf))
    | (refine VL.drawS hTb hMix (by kernel_rfl) (by kernel_rfl) (by kernel_rfl) ?_; conv => whnf)
    | (refine Need.mk ?_; kernel_rfl) | (refine Need.mk ⟨rfl, ?_⟩; decide)
    | (refine VR.op hTb rfl rfl (o_index_imm hTb rfl rfl rfl rfl rfl rfl rfl (by omega) (hrw)) rfl ?_; conv => whnf)
    | (refine DT.op hTb rfl (o_index_imm hTb rfl rfl rfl rfl rfl rfl rfl (by omega) (hrw)) rfl ?_; conv => whnf)
    | (refine VR.opk hTb rfl rfl (o_app0 (f := encVal) (m := ri.vals) (q := 144) hTb rfl rfl rfl rfl rfl rfl rfl rfl rfl rfl (by omega) (by show _ * 32 ≤ _; omega) (by unfold maxLen; omega)) ?_; conv => whnf)
    | (refine DT.opk hTb rfl (o_app0 (f := encVal) (m := ri.vals) (q := 144) hTb rfl rfl rfl rfl rfl rfl rfl rfl rfl rfl (by omega) (by show _ * 32 ≤ _; omega) (by unfold maxLen; omega)) ?_; conv => whnf))
    refine DT.op hTb rfl (o_buildSliceH (q := 146) hTb rfl rfl rfl rfl rfl rfl rfl rfl (by decide) (by decide) rfl (by decide) rfl) rfl ?_
    conv => whnf
    refine DT.opk hTb rfl (o_appR (q := 147) hTb rfl rfl rfl rfl rfl rfl hml2.symm rfl rfl rfl (hpl3 _ _ _ _) rfl (by decide) (by show (_ + 1) * 40 ≤ _; omega) (by unfold maxLen; omega) rfl) ?_
    (conv => whnf); repeat' (first | (refine And.intro ?_ ?_ <;> ((try intro h) <;> (try simp only [Bool.not_true, Bool.not_false] at h) <;> first | exact absurd h Bool.false_ne_true | exact absurd h.symm Bool.false_ne_true | conv => whnf)) | (refine Need.mk ?_; kernel_rfl) | (refine Need.mk ⟨rfl, ?_⟩; decide))
    have hr2 : ∀ l : Leaf, (M.map encVRowN ++ [[Leaf.g (.int .i64 ri.id), Leaf.g (.int .i64 ri.ver), l]])[(M.map encVRowN).length + 0]? = some [Leaf.g (.int .i64 ri.id), Leaf.g (.int .i64 ri.ver), l] := fun l => by
      rw [Nat.add_zero, List.getElem?_append_right (Nat.le_refl _), Nat.sub_self]; rfl
    exact ⟨i + 1, hil, by omega, (wk_putBack _ (q := 147) (r := (M.map encVRowN).length + 0) (j := 2) (v := 144) (E := 35) (sz := 3) (hs := []) (hs' := []) (rows' := (M ++ [ri]).map encVRowN) rfl rfl (.inl rfl) (hr2 _) rfl (by simp) (by decide) rfl (putN M ri _) rfl).trans
      (wk_to [(101, 101), (102, 102), (103, 103), (108, 108), (112, 112), (147, 120)] rfl rfl rfl ⟨rfl, rfl, rfl, congrArg (fun x => Slot.one (.g (.int .i64 x))) (wrap64' (by unfold maxLen; omega)), trivial⟩ ⟨rfl, ⟨_, rfl, rfl⟩, rfl, ⟨_, rfl, rfl⟩, rfl, ⟨_, rfl, congrArg (fun n => Ob.box [.own 108 0 t.first.length, .own 112 0 t.changes.length, .own 120 0 n, .g (.int .i64 t.next)]) (by rw [htk]; simp)⟩, rfl, ⟨_, rfl, rfl⟩, rfl, ⟨_, rfl, rfl⟩, rfl, ⟨_, rfl, congrArg (fun r : List VRow => Ob.reg 35 3 (r.map encVRowN) []) htk.symm⟩, trivial⟩)⟩
  · have hie : i = t.rows.length := by simp at h2; omega
    subst hie
    rw [List.take_length]
    (conv => whnf)
    exact endW [108, 112, 120] rfl rfl rfl rfl rfl (LeS.refl _) rfl rfl
end Go.Vl

namespace Go.Vl
open Go Go.RowKit Go.Proofs
set_option maxRecDepth 100000
set_option linter.unusedSimpArgs false
set_option linter.unusedVariables false
set_option linter.unnecessarySimpa false
set_option maxHeartbeats 16000000

structure VTable.bn (t : VTable) : Prop where
  md : t.md
  rl : t.rows.length ≤ 9
theorem aggFz {A B R R' : List (List Leaf)} {n : Nat} {x : Leaf} (hR : R = R') (h : R.length ≤ n) : Slot.agg [.imm 7 A, .imm 10 B, .imm 3 ((R.drop 0).take n), x] = Slot.agg [.imm 7 A, .imm 10 B, .imm 3 R', x] := by
  subst hR; rw [List.drop_zero, List.take_of_length_le h]
theorem bnF {t : VTable} (h : t.dr) {cs : List Col} (hs : smlCols cs) (hl : cs.length ≤ 100) : VTable.bn ⟨cs, t.changes, t.rows, t.next⟩ := ⟨⟨by have := h.cl; simp only; omega, hs.md, h.md.cm, h.md.r, h.md.rm⟩, by have := h.rl; simp only; omega⟩
theorem bnC {t : VTable} (h : t.dr) (n : Nat) : VTable.bn ⟨t.first, t.changes.drop n, t.rows, t.next⟩ := ⟨⟨by have := h.cl; have := h.fl; simp; omega, h.md.fm, fun x hx => h.md.cm x (List.mem_of_mem_drop hx), h.md.r, h.md.rm⟩, by have := h.rl; simp only; omega⟩
theorem bnN {t : VTable} (h : t.dr) (v : Int) : VTable.bn ⟨t.first, t.changes, t.rows, v⟩ := ⟨⟨h.md.fc, h.md.fm, h.md.cm, h.md.r, h.md.rm⟩, by have := h.rl; simp only; omega⟩
theorem bnR {t : VTable} (h : t.dr) {rows : List VRow} (hl : rows.length ≤ 9) (hr : ∀ r ∈ rows, r.vals.length ≤ 1048576 ∧ mdVals r.vals) : VTable.bn ⟨t.first, t.changes, rows, t.next⟩ := ⟨⟨h.md.fc, h.md.fm, h.md.cm, by simp only; omega, hr⟩, hl⟩
theorem bnT {t : VTable} (h : t.dr) : t.bn := ⟨h.md, by have := h.rl; omega⟩
/-- Tables bent n times. -/
structure VTable.bz (t : VTable) (n : Nat) : Prop where
  fl : t.first.length ≤ 10 + 4 * n
  fs : smlCols t.first
  cl : t.changes.length ≤ 8
  cm : mdChs t.changes
  rl : t.rows.length ≤ 8 + n
  rm : ∀ r ∈ t.rows, r.vals.length ≤ 18 + n ∧ mdVals r.vals
theorem VTable.bz.md {t : VTable} {n : Nat} (h : t.bz n) (hn : n ≤ 100) : t.md := by
  have h1 := h.fl
  have h2 := h.cl
  have h3 := h.rl
  exact ⟨by omega, h.fs.md, h.cm, by omega, fun r hr => ⟨by have := (h.rm r hr).1; omega, (h.rm r hr).2⟩⟩
theorem VTable.bz.bn {t : VTable} (h : t.bz 1) : t.bn := ⟨h.md (by omega), h.rl⟩
theorem bzF {t : VTable} {n : Nat} (h : t.bz n) {cs : List Col} (hs : smlCols cs) (hl : cs.length ≤ 10 + 4 * (n + 1)) : VTable.bz ⟨cs, t.changes, t.rows, t.next⟩ (n + 1) := ⟨hl, hs, h.cl, h.cm, by have := h.rl; simp only; omega, fun r hr => ⟨by have := (h.rm r hr).1; omega, (h.rm r hr).2⟩⟩
theorem bzC {t : VTable} {n : Nat} (h : t.bz n) (k : Nat) : VTable.bz ⟨t.first, t.changes.drop k, t.rows, t.next⟩ (n + 1) := ⟨by have := h.fl; simp only; omega, h.fs, by have := h.cl; simp; omega, fun x hx => h.cm x (List.mem_of_mem_drop hx), by have := h.rl; simp only; omega, fun r hr => ⟨by have := (h.rm r hr).1; omega, (h.rm r hr).2⟩⟩
theorem bzN {t : VTable} {n : Nat} (h : t.bz n) (v : Int) : VTable.bz ⟨t.first, t.changes, t.rows, v⟩ (n + 1) := ⟨by have := h.fl; simp only; omega, h.fs, h.cl, h.cm, by have := h.rl; simp only; omega, fun r hr => ⟨by have := (h.rm r hr).1; omega, (h.rm r hr).2⟩⟩
theorem bzR {t : VTable} {n : Nat} (h : t.bz n) {rows : List VRow} (hl : rows.length ≤ 8 + (n + 1)) (hr : ∀ r ∈ rows, r.vals.length ≤ 18 + (n + 1) ∧ mdVals r.vals) : VTable.bz ⟨t.first, t.changes, rows, t.next⟩ (n + 1) := ⟨by have := h.fl; simp only; omega, h.fs, h.cl, h.cm, hl, hr⟩
theorem bzT {t : VTable} {n : Nat} (h : t.bz n) : t.bz (n + 1) := ⟨by have := h.fl; omega, h.fs, h.cl, h.cm, by have := h.rl; omega, fun r hr => ⟨by have := (h.rm r hr).1; omega, (h.rm r hr).2⟩⟩
theorem nAt (l : List VRow) {i : Nat} (h : i < l.length) : (l.map encVRowN)[i]? = some (encVRowN l[i]) := by rw [List.getElem?_map, List.getElem?_eq_getElem h]; rfl
theorem setSelf {α : Type} : ∀ {l : List α} {i : Nat} {x : α}, l[i]? = some x → l.set i x = l
  | [], _, _, h => by simp at h
  | y :: l, 0, x, h => by simp at h; subst h; rfl
  | y :: l, i + 1, x, h => by rw [List.set_cons_succ, setSelf (by simpa using h)]
theorem hno1 (hs : List (Nat × Nat × Leaf)) (r : Nat) (l : Leaf) (hp : plain [l] = false) : ∀ k, 2 ≤ k → k < 2 + [l].length → holeAt hs r k = none ∨ ∃ l', [l][k - 2]? = some l' ∧ plain [l'] = false := by
  intro k h1 h2
  have : k = 2 := by simp at h2; omega
  subst this
  exact .inr ⟨l, rfl, hp⟩
theorem hhs1 (r : Nat) (a b : Leaf) : ∀ i k, holeAt [(r, 2, a)] i k = holeAt ([(r, 2, a)] ++ [(r, 2, b)]) i k := by
  intro i k
  show (if r = i ∧ 2 = k then some a else none) = (if r = i ∧ 2 = k then some a else if r = i ∧ 2 = k then some b else none)
  split
  · rfl
  · rfl
theorem setN (l : List VRow) (i : Nat) (R : List Leaf) (a : Int) (b : Int) (vs : List Val) : ((l.map encVRowN).set i R).set i [Leaf.g (.int .i64 a), Leaf.g (.int .i64 b), .nst 37 3 (vs.map encVal)] = (l.set i ⟨a, b, vs⟩).map encVRowN := by
  rw [List.set_set, List.map_set]; rfl
theorem setN1 (l : List VRow) (i : Nat) (a : Int) (b : Int) (vs : List Val) : (l.map encVRowN).set i [Leaf.g (.int .i64 a), Leaf.g (.int .i64 b), .nst 37 3 (vs.map encVal)] = (l.set i ⟨a, b, vs⟩).map encVRowN := by
  rw [List.map_set]; rfl
theorem mdRowsZ {t : VTable} {n : Nat} (h : t.bz n) {i : Nat} {r : VRow} (hl : r.vals.length ≤ 18 + (n + 1)) (hr : mdVals r.vals) : ∀ x ∈ t.rows.set i r, x.vals.length ≤ 18 + (n + 1) ∧ mdVals x.vals := fun x hx => by
  rcases List.mem_or_eq_of_mem_set hx with hx | rfl
  · exact ⟨by have := (h.rm x hx).1; omega, (h.rm x hx).2⟩
  · exact ⟨hl, hr⟩
theorem mdRows {t : VTable} (h : t.dr) {i : Nat} {r : VRow} (hl : r.vals.length ≤ 1048576) (hr : mdVals r.vals) : ∀ x ∈ t.rows.set i r, x.vals.length ≤ 1048576 ∧ mdVals x.vals := fun x hx => by
  rcases List.mem_or_eq_of_mem_set hx with hx | rfl
  · exact h.md.rm x hx
  · exact ⟨hl, hr⟩
theorem mdApp {l : List Val} (h : mdVals l) {v : Val} (hv : v.md) : mdVals (l ++ [v]) := fun x hx => by
  rcases List.mem_append.1 hx with hx | hx
  · exact h x hx
  · simp at hx; subst hx; exact hv
theorem mdSet {l : List Val} (h : mdVals l) (i : Nat) {v : Val} (hv : v.md) : mdVals (l.set i v) := fun x hx => by
  rcases List.mem_or_eq_of_mem_set hx with hx | rfl
  · exact h x hx
  · exact hv
theorem VTable.dr.bz {t : VTable} (h : t.dr) : t.bz 0 := by
  have hf := h.fl
  have hc := h.cl
  refine ⟨by omega, h.fs, h.cl, h.md.cm, by have := h.rl; omega, fun r hr => ⟨?_, (h.md.rm r hr).2⟩⟩
  have h1 := (h.rw _ hr).2.1
  have h2 := tSh_len t r.ver.toNat
  have h3 := (h.rw _ hr).1
  omega
theorem len18 {t : VTable} (h : t.dr) {i : Nat} (hi : i < t.rows.length) : t.rows[i].vals.length ≤ 18 := by
  have h1 := (h.rw _ (List.getElem_mem hi)).2.1
  have h2 := tSh_len t t.rows[i].ver.toNat
  have h3 := (h.rw _ (List.getElem_mem hi)).1
  have := h.fl
  have := h.cl
  omega
theorem c_l3BentZ {bs : List Int} (hb : BOk bs) (p : Nat) (t : VTable) (n : Nat) (hn : n ≤ 50) (ht : t.bz n) (hp : p ≤ 1099511200000) : CallsV Tryz.prog 70 [rdS, .agg (encVTable t)] [rdO bs p]
    (relQ (fun y : VTable × Nat => y.1.bz (n + 1) ∧ y.2 ≤ p + 60) (fun y => .agg (encVTable y.1)) (fun y => [some (rdO bs y.2)]) (fun _ => [])) := by
  have hm := ht.md (by omega)
  have hrl := ht.rl
  have hfl := ht.fl
  have hfs := ht.fs
  have cK := c_l3CopyR t hm
  have hvl := fun i (h : i < t.rows.length) => (ht.rm _ (List.getElem_mem h)).1
  refine funF_walk hTb Tryz.func70 rfl rfl Tryz.ntmps70 (by simp) (by simp) ?_
  (conv => whnf); repeat' (first
    | (refine VL.wkR 11 (wk_freezeN (q := 1038) _ rfl (unN_VRows _)) ?_; conv => whnf)
    | (refine VL.wkR 14 (wk_freezeN (q := 1038) _ rfl (unN_VRows _)) ?_; conv => whnf)
    | (refine VL.freeze 1036 rfl rfl ?_; conv => whnf; rw [fzC])
    | (refine VL.freeze 1037 rfl rfl ?_; conv => whnf; rw [fzH])
    | (refine VL.wkR 23 (wk_putBack _ (q := 1038) (r := 0 + 0) (j := 2) (v := 204) (E := 35) (sz := 3) (hs := []) (hs' := []) (rows' := t.rows.map encVRowN) rfl rfl (.inl rfl) (nAt t.rows (i := 0 + 0) (by omega)) rfl (by simp) (by decide) rfl (setSelf (nAt t.rows (i := 0 + 0) (by omega))) rfl) ?_; conv => whnf)
    | (refine And.intro ?_ ?_ <;> ((try intro h) <;> (try simp only [Bool.not_true, Bool.not_false, decide_eq_true_eq, decide_eq_false_iff_not, Int.not_lt, Int.not_le, gt_iff_lt, ge_iff_le] at h) <;> first | exact absurd h Bool.false_ne_true | exact absurd h.symm Bool.false_ne_true | conv => whnf))
    | (refine VL.drawS hTb hMix (by kernel_rfl) (by kernel_rfl) (by kernel_rfl) ?_; conv => whnf)
    | (refine Need.mk ?_; kernel_rfl) | (refine Need.mk ⟨rfl, ?_⟩; decide)
    | (refine VR.fun hTb rfl rfl (o_funN (cK) false [] (fun h => by cases h) (by simp) rfl rfl rfl rfl rfl ⟨rfl, rfl, rfl, rfl⟩ rfl rfl) ?_; conv => whnf)
    | (refine DT.fun hTb rfl (o_funN (cK) false [] (fun h => by cases h) (by simp) rfl rfl rfl rfl rfl ⟨rfl, rfl, rfl, rfl⟩ rfl rfl) rfl ?_; conv => whnf)
    | (refine VR.freeze hTb rfl 1036 rfl rfl ?_; conv => whnf; rw [fzC])
    | (refine VR.freeze hTb rfl 1037 rfl rfl ?_; conv => whnf; rw [fzH])
    | (refine VR.rel hTb rfl rfl (o_relN (c_pick hb _ _ (by omega)) false [0] (fun _ _ => ⟨by simp, fun h => by cases h⟩) rfl rfl rfl rfl rfl ⟨rfl, rfl, rfl, rfl⟩ rfl rfl) ?_; rintro w hw; (try simp only at hw); conv => whnf)
    | (refine DT.rel hTb rfl (o_relN (c_pick hb _ _ (by omega)) false [0] (fun _ _ => ⟨by simp, fun h => by cases h⟩) rfl rfl rfl rfl rfl ⟨rfl, rfl, rfl, rfl⟩ rfl rfl) [0] (by kernel_rfl) (by kernel_rfl) ?_; rintro w hw; (try simp only at hw); refine And.intro rfl (And.intro rfl ?_); conv => whnf)
    | (refine VR.rel hTb rfl rfl (o_relN (c_l2Bent hb _ cs hcs.1 (by omega) (by omega)) false [0] (fun _ _ => ⟨by simp, fun h => by cases h⟩) rfl rfl rfl rfl rfl ⟨rfl, rfl, rfl, rfl⟩ rfl rfl) ?_; rintro ⟨cs, q2⟩ hcs; (try simp only at hcs); conv => whnf)
    | (refine DT.rel hTb rfl (o_relN (c_l2Bent hb _ cs hcs.1 (by omega) (by omega)) false [0] (fun _ _ => ⟨by simp, fun h => by cases h⟩) rfl rfl rfl rfl rfl ⟨rfl, rfl, rfl, rfl⟩ rfl rfl) [0] (by kernel_rfl) (by kernel_rfl) ?_; rintro ⟨cs, q2⟩ hcs; (try simp only at hcs); refine And.intro rfl (And.intro rfl ?_); conv => whnf)
    | (refine VR.rel hTb rfl rfl (o_relN (c_l2Bent hb _ t.first hfs (by omega) (by omega)) false [0] (fun _ _ => ⟨by simp, fun h => by cases h⟩) rfl rfl rfl rfl rfl ⟨rfl, rfl, rfl, rfl⟩ rfl rfl) ?_; rintro ⟨cs, q2⟩ hcs; (try simp only at hcs); conv => whnf)
    | (refine DT.rel hTb rfl (o_relN (c_l2Bent hb _ t.first hfs (by omega) (by omega)) false [0] (fun _ _ => ⟨by simp, fun h => by cases h⟩) rfl rfl rfl rfl rfl ⟨rfl, rfl, rfl, rfl⟩ rfl rfl) [0] (by kernel_rfl) (by kernel_rfl) ?_; rintro ⟨cs, q2⟩ hcs; (try simp only at hcs); refine And.intro rfl (And.intro rfl ?_); conv => whnf)
    | (refine VR.op hTb rfl rfl (o_slice_imm (n1 := 1) (n2 := (t.changes.map encChange).length) (rows' := (t.changes.drop 1).map encChange) hTb rfl rfl rfl rfl rfl rfl (bnd_some rfl) bnd_none (by omega) (Nat.le_refl _) (by rw [← List.map_drop]; exact List.take_of_length_le (by simp))) rfl ?_; conv => whnf)
    | (refine VR.rel hTb rfl rfl (o_relN (c_num hb _ _ _ (fun _ => True) (by simp [intRows]) (by simp) (by omega)) false [0, 151] (fun _ _ => ⟨by simp, fun h => by cases h⟩) rfl rfl rfl rfl rfl ⟨rfl, rfl, rfl, rfl⟩ rfl rfl) ?_; rintro v hv; (try simp only at hv); conv => whnf)
    | (refine DT.rel hTb rfl (o_relN (c_num hb _ _ _ (fun _ => True) (by simp [intRows]) (by simp) (by omega)) false [0, 151] (fun _ _ => ⟨by simp, fun h => by cases h⟩) rfl rfl rfl rfl rfl ⟨rfl, rfl, rfl, rfl⟩ rfl rfl) [0, 151] (by kernel_rfl) (by kernel_rfl) ?_; rintro v hv; (try simp only at hv); refine And.intro rfl (And.intro rfl ?_); conv => whnf)
    | (refine VR.rel hTb rfl rfl (o_relN (c_num hb _ _ _ (fun _ => True) (by simp [intRows]) (by simp) (by omega)) false [0, 171] (fun _ _ => ⟨by simp, fun h => by cases h⟩) rfl rfl rfl rfl rfl ⟨rfl, rfl, rfl, rfl⟩ rfl rfl) ?_; rintro v hv; (try simp only at hv); conv => whnf)
    | (refine DT.rel hTb rfl (o_relN (c_num hb _ _ _ (fun _ => True) (by simp [intRows]) (by simp) (by omega)) false [0, 171] (fun _ _ => ⟨by simp, fun h => by cases h⟩) rfl rfl rfl rfl rfl ⟨rfl, rfl, rfl, rfl⟩ rfl rfl) [0, 171] (by kernel_rfl) (by kernel_rfl) ?_; rintro v hv; (try simp only at hv); refine And.intro rfl (And.intro rfl ?_); conv => whnf)
    | (refine Need.mk ?_; exact ⟨rfl, by omega, by omega⟩)
    | (refine VR.op hTb rfl rfl (o_storeM hTb rfl rfl rfl rfl rfl (List.getElem?_eq_getElem (show 0 + w.toNat < t.rows.length by omega)) rfl rfl rfl ⟨rfl, by decide⟩ (c' := ⟨_, v, _⟩) rfl) rfl ?_; conv => whnf)
    | (refine DT.op hTb rfl (o_storeM hTb rfl rfl rfl rfl rfl (List.getElem?_eq_getElem (show 0 + w.toNat < t.rows.length by omega)) rfl rfl rfl ⟨rfl, by decide⟩ (c' := ⟨_, v, _⟩) rfl) rfl ?_; conv => whnf)
    | (refine VR.op hTb rfl rfl (o_loadM hTb rfl rfl rfl rfl (List.getElem?_eq_getElem (show 0 + 0 < t.rows.length by omega)) ⟨by decide, by decide⟩) rfl ?_; conv => whnf)
    | (refine DT.op hTb rfl (o_loadM hTb rfl rfl rfl rfl (List.getElem?_eq_getElem (show 0 + 0 < t.rows.length by omega)) ⟨by decide, by decide⟩) rfl ?_; conv => whnf)
    | (refine VR.opk hTb rfl rfl (o_app1 (q := 166) (a := t.rows[0 + 0]'(by omega)) hTb rfl rfl rfl rfl rfl rfl rfl rfl rfl rfl rfl rfl (by omega) (by show _ * 40 ≤ _; omega) (by unfold maxLen; omega)) ?_; conv => whnf)
    | (refine DT.opk hTb rfl (o_app1 (q := 166) (a := t.rows[0 + 0]'(by omega)) hTb rfl rfl rfl rfl rfl rfl rfl rfl rfl rfl rfl rfl (by omega) (by show _ * 40 ≤ _; omega) (by unfold maxLen; omega)) ?_; conv => whnf)
    | (refine DT.op hTb rfl (o_load_outL (v := 189) (len := (t.rows[0 + w.toNat]'(by omega)).vals.length) hTb rfl rfl rfl rfl rfl (nAt t.rows (i := 0 + w.toNat) (by omega)) rfl (by simp) rfl rfl (by decide) (.inr ⟨rfl, plainVals _⟩)) rfl ?_; conv => whnf)
    | (refine DT.opk hTb rfl (o_app1 (q := 192) (a := ⟨0, 0, ⟨#[]⟩⟩) (l := (t.rows[0 + w.toNat]'(by omega)).vals) hTb rfl rfl rfl rfl rfl rfl rfl rfl rfl rfl rfl rfl (by omega) (by have := hvl (0 + w.toNat) (by omega); show _ * 32 ≤ _; omega) (by have := hvl (0 + w.toNat) (by omega); unfold maxLen; omega)) ?_; conv => whnf)
    | (refine DT.op hTb rfl (o_store_regH hTb rfl rfl rfl rfl rfl (nAt t.rows (i := 0 + w.toNat) (by omega)) rfl rfl ⟨rfl, by decide⟩ (hno1 _ _ _ rfl) rfl (hhs1 _ _ _)) rfl ?_; conv => whnf)
    | (refine VR.op hTb rfl rfl (o_load_outL (v := 204) (len := (t.rows[0 + 0]'(by omega)).vals.length) hTb rfl rfl rfl rfl rfl (nAt t.rows (i := 0 + 0) (by omega)) rfl (by simp) rfl rfl (by decide) (.inr ⟨rfl, plainVals _⟩)) rfl ?_; conv => whnf)
    | (refine DT.op hTb rfl (o_load_outL (v := 212) (len := (t.rows[0 + 0]'(by omega)).vals.length) hTb rfl rfl rfl rfl rfl (nAt t.rows (i := 0 + 0) (by omega)) rfl (by simp) rfl rfl (by decide) (.inr ⟨rfl, plainVals _⟩)) rfl ?_; conv => whnf)
    | (refine VR.rel hTb rfl rfl (o_relN (c_l1Draw hb _ (by omega)) false [0] (fun _ _ => ⟨by simp, fun h => by cases h⟩) rfl rfl rfl rfl rfl ⟨rfl, rfl, rfl, rfl⟩ rfl rfl) ?_; rintro ⟨⟨vk, vn, vt⟩, q2⟩ hv; (try simp only at hv); conv => whnf)
    | (refine DT.rel hTb rfl (o_relN (c_l1Draw hb _ (by omega)) false [0] (fun _ _ => ⟨by simp, fun h => by cases h⟩) rfl rfl rfl rfl rfl ⟨rfl, rfl, rfl, rfl⟩ rfl rfl) [0] (by kernel_rfl) (by kernel_rfl) ?_; rintro ⟨⟨vk, vn, vt⟩, q2⟩ hv; (try simp only at hv); refine And.intro rfl (And.intro rfl ?_); conv => whnf)
    | (refine VR.op hTb rfl rfl (o_storeM hTb rfl rfl rfl rfl rfl (List.getElem?_eq_getElem (show 0 + 0 < (t.rows[0 + 0]'(by omega)).vals.length by omega)) rfl rfl rfl ⟨rfl, by decide⟩ (c' := ⟨vk, vn, vt⟩) rfl) rfl ?_; conv => whnf)
    | (refine DT.op hTb rfl (o_storeM hTb rfl rfl rfl rfl rfl (List.getElem?_eq_getElem (show 0 + 0 < (t.rows[0 + 0]'(by omega)).vals.length by omega)) rfl rfl rfl ⟨rfl, by decide⟩ (c' := ⟨vk, vn, vt⟩) rfl) rfl ?_; conv => whnf))
  all_goals first
    | exact endR [] (t, _) rfl rfl rfl rfl rfl (LeS.of_eq (aggFz (unN_VRows t.rows) (by simp [unNss_length]))) rfl rfl ⟨bzT ht, by simp only; omega⟩
    | exact endR [] ((⟨cs, t.changes, t.rows, t.next⟩ : VTable), _) rfl rfl rfl rfl rfl (LeS.of_eq (aggFz (unN_VRows t.rows) (by simp [unNss_length]))) rfl rfl ⟨bzF ht hcs.1 (by omega), by simp only; omega⟩
    | exact endR [] ((⟨t.first, t.changes.drop 1, t.rows, t.next⟩ : VTable), _) rfl rfl rfl rfl rfl (LeS.of_eq (aggFz (unN_VRows t.rows) (by simp [unNss_length]))) rfl rfl ⟨bzC ht 1, by simp only; omega⟩
    | exact endR [] ((⟨t.first, t.changes, t.rows, v⟩ : VTable), _) rfl rfl rfl rfl rfl (LeS.of_eq (aggFz (unN_VRows t.rows) (by simp [unNss_length]))) rfl rfl ⟨bzN ht v, by simp only; omega⟩
    | exact endR [] ((⟨t.first, t.changes, t.rows.set (0 + w.toNat) ⟨_, v, _⟩, t.next⟩ : VTable), _) rfl rfl rfl rfl rfl (LeS.of_eq (aggFz rfl (by simp))) rfl rfl ⟨bzR ht (by simp; omega) (mdRowsZ ht (by have := hvl (0 + w.toNat) (by omega); show (t.rows[0 + w.toNat]'(by omega)).vals.length ≤ _; omega) (hm.rm _ (List.getElem_mem (show 0 + w.toNat < t.rows.length by omega))).2), by simp only; omega⟩
    | exact endR [] ((⟨t.first, t.changes, t.rows ++ [t.rows[0 + 0]'(by omega)], t.next⟩ : VTable), _) rfl rfl rfl rfl rfl (LeS.of_eq (aggFz rfl (by simp))) rfl rfl ⟨bzR ht (by simp; omega) (fun x hx => (by rcases List.mem_append.1 hx with hx | hx; exact ⟨(by have := (ht.rm x hx).1; omega), (ht.rm x hx).2⟩; simp only [List.mem_singleton] at hx; subst hx; exact ⟨(by have := hvl (0 + 0) (by omega); omega), (hm.rm _ (List.getElem_mem _)).2⟩)), by simp only; omega⟩
    | (refine EndV.wk (fun n => wk_putBack n (q := 1038) (r := 0 + 0) (j := 2) (v := 204) (E := 35) (sz := 3) (hs := []) (hs' := []) (rows' := (t.rows).map encVRowN) rfl rfl (.inl rfl) (nAt t.rows (i := 0 + 0) (by omega)) rfl (by simp) (by decide) rfl (setSelf (nAt t.rows (i := 0 + 0) (by omega))) rfl) ?_
       exact endR [] (t, _) rfl rfl rfl rfl rfl (LeS.of_eq (aggFz (unN_VRows t.rows) (by simp [unNss_length]))) rfl rfl ⟨bzT ht, by simp only; omega⟩)
    | skip
  · refine EndV.wk (fun n => wk_putBack n (q := 1038) (r := 0 + w.toNat) (j := 2) (v := 192) (E := 35) (sz := 3) (hs := []) (hs' := []) (rows' := (t.rows.set (0 + w.toNat) ⟨(t.rows[0 + w.toNat]'(by omega)).id, (t.rows[0 + w.toNat]'(by omega)).ver, (t.rows[0 + w.toNat]'(by omega)).vals ++ [(⟨0, 0, ⟨#[]⟩⟩ : Val)]⟩).map encVRowN) rfl rfl (.inl rfl) (List.getElem?_set_self (show 0 + w.toNat < (t.rows.map encVRowN).length by rw [List.length_map]; omega)) rfl ?h192 (by decide) rfl (setN t.rows _ _ _ _ _) rfl) ?_
    · simp
    · refine endR [] ((⟨t.first, t.changes, t.rows.set (0 + w.toNat) ⟨(t.rows[0 + w.toNat]'(by omega)).id, (t.rows[0 + w.toNat]'(by omega)).ver, (t.rows[0 + w.toNat]'(by omega)).vals ++ [(⟨0, 0, ⟨#[]⟩⟩ : Val)]⟩, t.next⟩ : VTable), _) rfl rfl rfl rfl rfl (LeS.of_eq (aggFz (unN_VRows _) ?_)) rfl rfl ⟨bzR ht ?_ (mdRowsZ ht ?_ (mdApp (hm.rm _ (List.getElem_mem (show 0 + w.toNat < t.rows.length by omega))).2 (show (0 : Nat) ≤ 1048576 by omega))), ?_⟩
      · simp [unNss_length]
      · simp; omega
      · have := hvl (0 + w.toNat) (by omega); rw [List.length_append]; show _ + 1 ≤ _; omega
      · simp only; omega
  · refine EndV.wk (fun n => wk_putBack n (q := 1038) (r := 0 + 0) (j := 2) (v := 212) (E := 35) (sz := 3) (hs := []) (hs' := []) (rows' := (t.rows.set (0 + 0) ⟨(t.rows[0 + 0]'(by omega)).id, (t.rows[0 + 0]'(by omega)).ver, (t.rows[0 + 0]'(by omega)).vals.set (0 + 0) ⟨vk, vn, vt⟩⟩).map encVRowN) rfl rfl (.inl rfl) (nAt t.rows (i := 0 + 0) (by omega)) rfl ?h212 (by decide) rfl (setN1 t.rows _ _ _ _) rfl) ?_
    · simp
    · refine endR [] ((⟨t.first, t.changes, t.rows.set (0 + 0) ⟨(t.rows[0 + 0]'(by omega)).id, (t.rows[0 + 0]'(by omega)).ver, (t.rows[0 + 0]'(by omega)).vals.set (0 + 0) ⟨vk, vn, vt⟩⟩, t.next⟩ : VTable), _) rfl rfl rfl rfl rfl (LeS.of_eq (aggFz (unN_VRows _) ?_)) rfl rfl ⟨bzR ht ?_ (mdRowsZ ht ?_ (mdSet (hm.rm _ (List.getElem_mem (show 0 + 0 < t.rows.length by omega))).2 _ (show vt.size ≤ 1048576 by omega))), ?_⟩
      · simp [unNss_length]
      · simp; omega
      · have := hvl (0 + 0) (by omega); rw [List.length_set]; omega
      · simp only; omega
theorem c_l3Bent {bs : List Int} (hb : BOk bs) (p : Nat) (t : VTable) (ht : t.dr) (hp : p ≤ 1099511200000) : CallsV Tryz.prog 70 [rdS, .agg (encVTable t)] [rdO bs p]
    (relQ (fun y : VTable × Nat => y.1.bn ∧ y.2 ≤ p + 60) (fun y => .agg (encVTable y.1)) (fun y => [some (rdO bs y.2)]) (fun _ => [])) :=
  (c_l3BentZ hb p t 0 (by omega) ht.bz hp).mono fun _ _ _ ⟨y, hy, e⟩ => ⟨y, ⟨hy.1.bn, hy.2⟩, e⟩
end Go.Vl

namespace Go.Vl
open Go Go.RowKit Go.Proofs
set_option maxRecDepth 100000
set_option linter.unusedSimpArgs false
set_option linter.unusedVariables false
set_option linter.unnecessarySimpa false
set_option maxHeartbeats 8000000

end Go.Vl

namespace Go.Vl
open Go Go.RowKit Go.Proofs
set_option maxRecDepth 100000
set_option linter.unusedSimpArgs false
set_option linter.unusedVariables false
set_option linter.unnecessarySimpa false
set_option maxHeartbeats 8000000

theorem rowRZ {l : List VRow} {z : Int} (h : z.toNat < l.length) : (l.map encVRow)[z.toNat]? = some (encVRow l[z.toNat]) := by rw [List.getElem?_map, List.getElem?_eq_getElem h]; rfl
theorem c_l3Some {bs : List Int} (hb : BOk bs) (p : Nat) (hp : p ≤ 1099511100000) : CallsV Tryz.prog 48 [rdS] [rdO bs p]
    (relQ (fun y : VTable × Nat => y.1.bn ∧ y.2 ≤ p + 6060) (fun y => .agg (encVTable y.1)) (fun y => [some (rdO bs y.2)]) (fun _ => [])) := by
  refine funF_walk hTb Tryz.func48 rfl rfl Tryz.ntmps48 (by simp) (by simp) ?_
  (conv => whnf); repeat' (first
    | (refine And.intro ?_ ?_ <;> ((try intro h) <;> (try simp only [Bool.not_true, Bool.not_false, decide_eq_true_eq, decide_eq_false_iff_not, Int.not_lt, Int.not_le, gt_iff_lt, ge_iff_le] at h) <;> first | exact absurd h Bool.false_ne_true | exact absurd h.symm Bool.false_ne_true | conv => whnf))
    | (refine VL.drawS hTb hMix (by kernel_rfl) (by kernel_rfl) (by kernel_rfl) ?_; conv => whnf)
    | (refine Need.mk ?_; kernel_rfl) | (refine Need.mk ⟨rfl, ?_⟩; decide)
    | (refine VR.rel hTb rfl rfl (o_relN (c_l3Table hb _ (by omega)) false [0] (fun _ _ => ⟨by simp, fun h => by cases h⟩) rfl rfl rfl rfl rfl ⟨rfl, rfl, rfl, rfl⟩ rfl rfl) ?_; rintro ⟨t, q⟩ ht; (try simp only at ht); conv => whnf)
    | (refine DT.rel hTb rfl (o_relN (c_l3Table hb _ (by omega)) false [0] (fun _ _ => ⟨by simp, fun h => by cases h⟩) rfl rfl rfl rfl rfl ⟨rfl, rfl, rfl, rfl⟩ rfl rfl) [0] (by kernel_rfl) (by kernel_rfl) ?_; rintro ⟨t, q⟩ ht; (try simp only at ht); refine And.intro rfl (And.intro rfl ?_); conv => whnf)
    | (refine VR.rel hTb rfl rfl (o_relN (c_l3Bent hb _ t ht.1 (by omega)) false [0] (fun _ _ => ⟨by simp, fun h => by cases h⟩) rfl rfl rfl rfl rfl ⟨rfl, rfl, rfl, rfl⟩ rfl rfl) ?_; rintro ⟨t2, q2⟩ ht2; (try simp only at ht2); conv => whnf)
    | (refine DT.rel hTb rfl (o_relN (c_l3Bent hb _ t ht.1 (by omega)) false [0] (fun _ _ => ⟨by simp, fun h => by cases h⟩) rfl rfl rfl rfl rfl ⟨rfl, rfl, rfl, rfl⟩ rfl rfl) [0] (by kernel_rfl) (by kernel_rfl) ?_; rintro ⟨t2, q2⟩ ht2; (try simp only at ht2); refine And.intro rfl (And.intro rfl ?_); conv => whnf))
  exact endR [] (t2, q2) rfl rfl rfl rfl rfl (LeS.refl _) rfl rfl ⟨ht2.1, by simp only; omega⟩
theorem c_DrawTableOk {bs : List Int} (hl : bs.length ≤ maxLen) (hb : ∀ x ∈ bs, 0 ≤ x ∧ x < 256) : CallsV Tryz.prog 23 [bytesI bs] [] (relQ (fun y : VTable => y.bn) (fun y => .agg (encVTable y)) (fun _ => []) (fun _ => [])) := by
  have hbk := BOk.of hb
  refine funF_walk hTb Tryz.func23 rfl rfl Tryz.ntmps23 (by simp) (by simp) ?_
  (conv => whnf); repeat' (first
    | (refine And.intro ?_ ?_ <;> ((try intro h) <;> (try simp only [Bool.not_true, Bool.not_false, decide_eq_true_eq, decide_eq_false_iff_not, Int.not_lt, Int.not_le, gt_iff_lt, ge_iff_le] at h) <;> first | exact absurd h Bool.false_ne_true | exact absurd h.symm Bool.false_ne_true | conv => whnf))
    | (refine VL.drawS hTb hMix (by kernel_rfl) (by kernel_rfl) (by kernel_rfl) ?_; conv => whnf)
    | (refine Need.mk ?_; kernel_rfl) | (refine Need.mk ⟨rfl, ?_⟩; decide)
    | (refine VR.fun hTb rfl rfl (o_funN (c_l10Open hl) false [] (fun h => by cases h) (by simp) rfl rfl rfl rfl rfl ⟨rfl, rfl, rfl, rfl⟩ rfl rfl) ?_; conv => whnf)
    | (refine DT.fun hTb rfl (o_funN (c_l10Open hl) false [] (fun h => by cases h) (by simp) rfl rfl rfl rfl rfl ⟨rfl, rfl, rfl, rfl⟩ rfl rfl) rfl ?_; conv => whnf)
    | (refine VR.rel hTb rfl rfl (o_relN (c_l3Some hbk _ (by omega)) false [1016] (fun _ _ => ⟨by simp, fun h => by cases h⟩) rfl rfl rfl rfl rfl ⟨rfl, rfl, rfl, rfl⟩ rfl rfl) ?_; rintro ⟨t, q⟩ ht; (try simp only at ht); conv => whnf)
    | (refine DT.rel hTb rfl (o_relN (c_l3Some hbk _ (by omega)) false [1016] (fun _ _ => ⟨by simp, fun h => by cases h⟩) rfl rfl rfl rfl rfl ⟨rfl, rfl, rfl, rfl⟩ rfl rfl) [1016] (by kernel_rfl) (by kernel_rfl) ?_; rintro ⟨t, q⟩ ht; (try simp only at ht); refine And.intro rfl (And.intro rfl ?_); conv => whnf))
  exact endR [] t rfl rfl rfl rfl rfl (LeS.refl _) rfl rfl ht.1
end Go.Vl

namespace Go.Vl
open Go Go.RowKit Go.Proofs
set_option maxRecDepth 100000
set_option linter.unusedSimpArgs false
set_option linter.unusedVariables false
set_option linter.unnecessarySimpa false
set_option maxHeartbeats 2000000

theorem q_Val_iff (a b : Val) : q_Val a b = true ↔ a.k = b.k ∧ a.n = b.n ∧ a.t.toList = b.t.toList := by simp [q_Val]
theorem q_Col_iff (a b : Col) : q_Col a b = true ↔ a.name.toList = b.name.toList ∧ a.kind = b.kind ∧ a.need = b.need ∧ a.once = b.once ∧ a.d.k = b.d.k ∧ a.d.n = b.d.n ∧ a.d.t.toList = b.d.t.toList := by
  simp [q_Col, q_Val_iff]
theorem q_Col_comm (a b : Col) : q_Col a b = q_Col b a := by
  rw [Bool.eq_iff_iff, q_Col_iff, q_Col_iff]
  constructor <;> rintro ⟨h1, h2, h3, h4, h5, h6, h7⟩ <;> exact ⟨h1.symm, h2.symm, h3.symm, h4.symm, h5.symm, h6.symm, h7.symm⟩
theorem q_Col_refl (a : Col) : q_Col a a = true := by rw [q_Col_iff]; simp
theorem leq_comm {α : Type} {f : α → α → Bool} (h : ∀ a b, f a b = f b a) : ∀ us bs : List α, leq f us bs = leq f bs us
  | [], [] => rfl
  | [], _ :: _ => rfl
  | _ :: _, [] => rfl
  | a :: us, b :: bs => by rw [leq, leq, h, leq_comm h us bs]
theorem leq_refl {α : Type} {f : α → α → Bool} (h : ∀ a, f a a = true) : ∀ us : List α, leq f us us = true
  | [] => rfl
  | a :: us => by rw [leq, h, leq_refl h us]; rfl

end Go.Vl

/- Contracts: what the reader draws: columns, shapes. Contracts: what the reader draws: rows; drawn cases of the laws on columns and rows. Contracts: the drawn cases of the laws on columns and rows. The law on where a name stands in a shape: what its function computes. Contracts: rows of values: how great, turned, alike, sound; the law on a row. Plain laws: names among columns. Laws: columns are found by name. Contracts: copies of lists, things taken out of them. Contracts of Go's library, taken over from what is laid of the shelf. Contracts: a number in decimals, as the reference writes it. Contracts: a value's text. -/
import Derived.Test.YtdijjjgplhbkkaaGreatDoorJUa
import Derived.Test.YtdijjjgplhbkkaaGreatDoorWi
import Derived.Test.YtdijjjgplhbkkaaGreatDoorJUb
import Derived.Test.YtdijjjgplhbkkaaGreatDoorSh
import Derived.Lib.ItoaLen
set_option linter.unusedSimpArgs false
set_option linter.unusedVariables false
set_option linter.unnecessarySimpa false

namespace Go.Vl
open Go Go.RowKit Go.Proofs
set_option maxRecDepth 100000
set_option linter.unusedSimpArgs false
set_option linter.unusedVariables false
set_option linter.unnecessarySimpa false
set_option maxHeartbeats 2000000

def Val.sml (v : Val) : Prop := v.t.size ≤ 8
def Col.sml (c : Col) : Prop := c.name.size ≤ 8 ∧ c.d.t.size ≤ 8
theorem Col.sml.ok {c : Col} (h : c.sml) : c.ok := ⟨by have := h.1; unfold maxLen; omega, by have := h.2; unfold maxLen; omega⟩
def smlCols (l : List Col) : Prop := ∀ x ∈ l, x.sml

theorem c_l2Names : CallsV Tryz.prog 65 [] [] (relQ (fun rows : List (List Leaf) => strRows (fun t => t.size ≤ 8) rows ∧ 0 < rows.length) (fun rows => .one (.imm 1 rows)) (fun _ => []) (fun _ => [])) := by
  refine funF_walk hTb Tryz.func65 rfl rfl Tryz.ntmps65 (by simp) (by simp) ?_
  (conv => whnf); repeat' (first | (refine And.intro ?_ ?_ <;> ((try intro h) <;> (try simp only [Bool.not_true, Bool.not_false] at h) <;> first | exact absurd h Bool.false_ne_true | exact absurd h.symm Bool.false_ne_true | conv => whnf)) | (refine Need.mk ?_; kernel_rfl) | (refine Need.mk ⟨rfl, ?_⟩; decide))
  exact endR [] _ rfl rfl rfl rfl rfl (LeS.refl _) rfl rfl ⟨by simp [strRows]; decide, by decide⟩
theorem c_l2Col {bs : List Int} (hb : BOk bs) (p : Nat) (s : ByteArray) (hs : s.size ≤ 8) (hp : p ≤ 1099511500000) : CallsV Tryz.prog 185 [rdS, .one (.g (.string s))] [rdO bs p]
    (relQ (fun y : Col × Nat => y.1.name = s ∧ y.1.d.t.size ≤ 8 ∧ y.2 ≤ p + 5) (fun y => .agg (encCol y.1)) (fun y => [some (rdO bs y.2)]) (fun _ => [])) := by
  have e0 := bs0
  refine funF_walk hTb Tryz.func185 rfl rfl Tryz.ntmps185 (by simp) (by simp) ?_
  (conv => whnf); repeat' (first
    | (refine And.intro ?_ ?_ <;> ((try intro h) <;> (try simp only [Bool.not_true, Bool.not_false, decide_eq_true_eq, decide_eq_false_iff_not, Int.not_lt, Int.not_le, gt_iff_lt, ge_iff_le] at h) <;> first | exact absurd h Bool.false_ne_true | exact absurd h.symm Bool.false_ne_true | conv => whnf))
    | (refine VL.drawS hTb hMix (by kernel_rfl) (by kernel_rfl) (by kernel_rfl) ?_; conv => whnf)
    | (refine Need.mk ?_; kernel_rfl) | (refine Need.mk ⟨rfl, ?_⟩; decide)
    | (refine VR.rel hTb rfl rfl (o_relN (c_pick hb _ _ (by omega)) false [0] (fun _ _ => ⟨by simp, fun h => by cases h⟩) rfl rfl rfl rfl rfl ⟨rfl, rfl, rfl, rfl⟩ rfl rfl) ?_; intro y hy; conv => whnf)
    | (refine DT.rel hTb rfl (o_relN (c_pick hb _ _ (by omega)) false [0] (fun _ _ => ⟨by simp, fun h => by cases h⟩) rfl rfl rfl rfl rfl ⟨rfl, rfl, rfl, rfl⟩ rfl rfl) [0] (by kernel_rfl) (by kernel_rfl) ?_; intro y hy; refine And.intro rfl (And.intro rfl ?_); conv => whnf)
    | (refine VR.rel hTb rfl rfl (o_relN (c_l1Some hb _ _ (by omega)) false [0] (fun _ _ => ⟨by simp, fun h => by cases h⟩) rfl rfl rfl rfl rfl ⟨rfl, rfl, rfl, rfl⟩ rfl rfl) ?_; rintro ⟨⟨k, n, t⟩, q⟩ hy; (try simp only at hy); conv => whnf)
    | (refine DT.rel hTb rfl (o_relN (c_l1Some hb _ _ (by omega)) false [0] (fun _ _ => ⟨by simp, fun h => by cases h⟩) rfl rfl rfl rfl rfl ⟨rfl, rfl, rfl, rfl⟩ rfl rfl) [0] (by kernel_rfl) (by kernel_rfl) ?_; rintro ⟨⟨k, n, t⟩, q⟩ hy; (try simp only at hy); refine And.intro rfl (And.intro rfl ?_); conv => whnf))
  all_goals exact endR [] (⟨_, _, _, _, ⟨_, _, _⟩⟩, _) rfl rfl rfl rfl rfl (LeS.refl _) rfl rfl ⟨rfl, (by first | omega | decide | (simp_all; done) | (simp_all; omega)), (by first | omega | decide | (simp_all; done) | (simp_all; omega))⟩

theorem c_l2Shape {bs : List Int} (hb : BOk bs) (p : Nat) (hp : p ≤ 1099511400000) : CallsV Tryz.prog 131 [rdS] [rdO bs p]
    (relQ (fun y : List Col × Nat => smlCols y.1 ∧ 1 ≤ y.1.length ∧ y.1.length ≤ 4 ∧ y.2 ≤ p + 25) (fun y => colsI y.1) (fun y => [some (rdO bs y.2)]) (fun _ => [])) := by
  refine funF_walk hTb Tryz.func131 rfl rfl Tryz.ntmps131 (by simp) (by simp) ?_
  (conv => whnf); repeat' (first
    | (refine And.intro ?_ ?_ <;> ((try intro h) <;> (try simp only [Bool.not_true, Bool.not_false, decide_eq_true_eq, decide_eq_false_iff_not, Int.not_lt, Int.not_le, gt_iff_lt, ge_iff_le] at h) <;> first | exact absurd h Bool.false_ne_true | exact absurd h.symm Bool.false_ne_true | conv => whnf))
    | (refine VL.drawS hTb hMix (by kernel_rfl) (by kernel_rfl) (by kernel_rfl) ?_; conv => whnf)
    | (refine Need.mk ?_; kernel_rfl) | (refine Need.mk ⟨rfl, ?_⟩; decide)
    | (refine VR.rel hTb rfl rfl (o_relN (c_pick hb _ _ (by omega)) false [0] (fun _ _ => ⟨by simp, fun h => by cases h⟩) rfl rfl rfl rfl rfl ⟨rfl, rfl, rfl, rfl⟩ rfl rfl) ?_; intro y hy; conv => whnf)
    | (refine DT.rel hTb rfl (o_relN (c_pick hb _ _ (by omega)) false [0] (fun _ _ => ⟨by simp, fun h => by cases h⟩) rfl rfl rfl rfl rfl ⟨rfl, rfl, rfl, rfl⟩ rfl rfl) [0] (by kernel_rfl) (by kernel_rfl) ?_; intro y hy; refine And.intro rfl (And.intro rfl ?_); conv => whnf))
  have e1 : IntKind.i64.wrap (1 + y) = 1 + y := by rw [IntKind.wrap_i64]; omega
  rw [e1]
  -- rounds left, columns so far, the reader's place
  refine VL.loopI hTb (fun (⟨k, cs, q⟩ : Nat × List Col × Nat) => k ≤ 4 ∧ smlCols cs ∧ cs.length + k ≤ 4 ∧ (cs = [] → 1 ≤ k) ∧ q + 6 * k ≤ p + 25)
    (fun ⟨k, cs, q⟩ => ⟨[(0, rdS), (3, .one (.own 106 0 cs.length)), (4, iS k)], [(0, rdO bs q), (106, .arr 39 7 (cs.map encCol))], []⟩) (fun x => x.1) (1 + y.toNat, [], p + 1) ⟨by omega, (fun x hx => by cases hx), by simp; omega, fun _ => by omega, by omega⟩
    (wk_to [(0, 0), (106, 106)] rfl rfl rfl ⟨rfl, rfl, congrArg (fun x => Slot.one (.g (.int .i64 x))) (by omega), trivial⟩ ⟨rfl, ⟨_, rfl, rfl⟩, rfl, ⟨_, rfl, rfl⟩, trivial⟩) (fun x hx => ?_)
  obtain ⟨k, cs, q⟩ := x
  obtain ⟨i1, i2, i3, i4, i5⟩ := hx
  (conv => whnf); repeat' (first
    | (refine And.intro ?_ ?_ <;> ((try intro h) <;> (try simp only [Bool.not_true, Bool.not_false, decide_eq_true_eq, decide_eq_false_iff_not, Int.not_lt, Int.not_le, gt_iff_lt, ge_iff_le] at h) <;> first | exact absurd h Bool.false_ne_true | exact absurd h.symm Bool.false_ne_true | conv => whnf))
    | (refine VL.drawS hTb hMix (by kernel_rfl) (by kernel_rfl) (by kernel_rfl) ?_; conv => whnf)
    | (refine Need.mk ?_; kernel_rfl) | (refine Need.mk ⟨rfl, ?_⟩; decide)
    | (refine VR.rel hTb rfl rfl (o_relN (c_l2Names) false [] (fun _ _ => ⟨by simp, fun h => by cases h⟩) rfl rfl rfl rfl rfl ⟨rfl, rfl, rfl, rfl⟩ rfl rfl) ?_; rintro rows hrows; (try simp only at hrows); conv => whnf)
    | (refine DT.rel hTb rfl (o_relN (c_l2Names) false [] (fun _ _ => ⟨by simp, fun h => by cases h⟩) rfl rfl rfl rfl rfl ⟨rfl, rfl, rfl, rfl⟩ rfl rfl) [] (by kernel_rfl) (by kernel_rfl) ?_; rintro rows hrows; (try simp only at hrows); refine And.intro rfl (And.intro rfl ?_); conv => whnf)
    | (refine VR.rel hTb rfl rfl (o_relN (c_ofI hb _ _ (fun t => t.size ≤ 8) hrows.1 hrows.2 (by omega)) false [0] (fun _ _ => ⟨by simp, fun h => by cases h⟩) rfl rfl rfl rfl rfl ⟨rfl, rfl, rfl, rfl⟩ rfl rfl) ?_; rintro nm hnm; (try simp only at hnm); conv => whnf)
    | (refine DT.rel hTb rfl (o_relN (c_ofI hb _ _ (fun t => t.size ≤ 8) hrows.1 hrows.2 (by omega)) false [0] (fun _ _ => ⟨by simp, fun h => by cases h⟩) rfl rfl rfl rfl rfl ⟨rfl, rfl, rfl, rfl⟩ rfl rfl) [0] (by kernel_rfl) (by kernel_rfl) ?_; rintro nm hnm; (try simp only at hnm); refine And.intro rfl (And.intro rfl ?_); conv => whnf)
    | (refine VR.rel hTb rfl rfl (o_relN (c_l2Col hb _ _ hnm (by omega)) false [0] (fun _ _ => ⟨by simp, fun h => by cases h⟩) rfl rfl rfl rfl rfl ⟨rfl, rfl, rfl, rfl⟩ rfl rfl) ?_; rintro ⟨⟨cn, ck, c1, c2, ⟨c3, c4, c5⟩⟩, q2⟩ hc; (try simp only at hc); conv => whnf)
    | (refine DT.rel hTb rfl (o_relN (c_l2Col hb _ _ hnm (by omega)) false [0] (fun _ _ => ⟨by simp, fun h => by cases h⟩) rfl rfl rfl rfl rfl ⟨rfl, rfl, rfl, rfl⟩ rfl rfl) [0] (by kernel_rfl) (by kernel_rfl) ?_; rintro ⟨⟨cn, ck, c1, c2, ⟨c3, c4, c5⟩⟩, q2⟩ hc; (try simp only at hc); refine And.intro rfl (And.intro rfl ?_); conv => whnf)
    | (refine VR.pure hTb rfl rfl (o_purN (c_l2At cs _ (by unfold maxLen; omega)) rfl rfl rfl ⟨rfl, rfl, rfl, rfl⟩ (congrArg (fun s => [s, _]) brw)) ?_; conv => whnf)
    | (refine DT.pure hTb rfl (o_purN (c_l2At cs _ (by unfold maxLen; omega)) rfl rfl rfl ⟨rfl, rfl, rfl, rfl⟩ (congrArg (fun s => [s, _]) brw)) ?_; conv => whnf)
    | (refine VR.pure hTb rfl rfl (o_purN (c_l2At cs _ (by unfold maxLen; omega)) rfl rfl rfl ⟨rfl, rfl, rfl, rfl⟩ (congrArg (fun s => [s, _]) brw')) ?_; conv => whnf)
    | (refine DT.pure hTb rfl (o_purN (c_l2At cs _ (by unfold maxLen; omega)) rfl rfl rfl ⟨rfl, rfl, rfl, rfl⟩ (congrArg (fun s => [s, _]) brw')) ?_; conv => whnf)
    | (refine VR.pure hTb rfl rfl (o_purN (c_l2At cs _ (by unfold maxLen; omega)) rfl rfl rfl ⟨rfl, rfl, rfl, rfl⟩ (congrArg (fun s => [s, _]) (brwG (by simp)))) ?_; conv => whnf)
    | (refine DT.pure hTb rfl (o_purN (c_l2At cs _ (by unfold maxLen; omega)) rfl rfl rfl ⟨rfl, rfl, rfl, rfl⟩ (congrArg (fun s => [s, _]) (brwG (by simp)))) ?_; conv => whnf))
  · refine VR.opk hTb rfl rfl (o_app1 (q := 127) (a := ⟨cn, ck, c1, c2, ⟨c3, c4, c5⟩⟩) hTb rfl rfl rfl rfl rfl rfl rfl rfl rfl rfl rfl rfl (by omega) (by show _ * 64 ≤ _; omega) (by unfold maxLen; omega)) ?_
    (conv => whnf); repeat' (first | (refine And.intro ?_ ?_ <;> ((try intro h) <;> (try simp only [Bool.not_true, Bool.not_false] at h) <;> first | exact absurd h Bool.false_ne_true | exact absurd h.symm Bool.false_ne_true | conv => whnf)) | (refine Need.mk ?_; kernel_rfl) | (refine Need.mk ⟨rfl, ?_⟩; decide))
    refine ⟨(k - 1, cs ++ [⟨cn, ck, c1, c2, ⟨c3, c4, c5⟩⟩], q2), ⟨by omega, ?_, by simp; omega, fun h => by simp at h, by omega⟩, by show k - 1 < k; omega,
      wk_to [(0, 0), (127, 106)] rfl rfl rfl ⟨rfl, congrArg (fun n => Slot.one (.own 106 0 n)) (by simp), congrArg (fun x => Slot.one (.g (.int .i64 x))) (by rw [IntKind.wrap_i64]; omega), trivial⟩ ⟨rfl, ⟨_, rfl, rfl⟩, rfl, ⟨_, rfl, rfl⟩, trivial⟩⟩
    intro x hx
    rcases List.mem_append.1 hx with hx | hx
    · exact i2 x hx
    · simp at hx; subst hx; exact ⟨by have := hc.1; simp only; rw [this]; exact hnm, hc.2.1⟩
  · refine ⟨(k - 1, cs, q2), ⟨by omega, i2, by omega, fun h0 => ?_, by omega⟩, by show k - 1 < k; omega,
      wk_to [(0, 0), (106, 106)] rfl rfl rfl ⟨rfl, rfl, congrArg (fun x => Slot.one (.g (.int .i64 x))) (by rw [IntKind.wrap_i64]; omega), trivial⟩ ⟨rfl, ⟨_, rfl, rfl⟩, rfl, ⟨_, rfl, rfl⟩, trivial⟩⟩
    exfalso
    subst h0
    have e : nameAt [] cn = -1 := rfl
    rw [e] at h
    simp at h
  · have hk : k = 0 := by simp at h; omega
    have hn : cs ≠ [] := fun h0 => by have := i4 h0; omega
    exact endR [] (cs, q) rfl rfl rfl rfl rfl (LeS.of_eq brw) rfl rfl ⟨i2, List.length_pos_iff.2 hn, (by show cs.length ≤ 4; omega), (by show q ≤ p + 25; omega)⟩

theorem smlCols.set {l : List Col} (h : smlCols l) {i : Nat} {c : Col} (hc : c.sml) : smlCols (l.set i c) := by
  intro x hx
  rcases List.mem_or_eq_of_mem_set hx with hx | rfl
  · exact h x hx
  · exact hc
theorem smlCols.app {l : List Col} (h : smlCols l) {c : Col} (hc : c.sml) : smlCols (l ++ [c]) := by
  intro x hx
  rcases List.mem_append.1 hx with hx | hx
  · exact h x hx
  · simp at hx; subst hx; exact hc
theorem c_l2Bent {bs : List Int} (hb : BOk bs) (p : Nat) (l : List Col) (hl : smlCols l) (hn : l.length ≤ 1000) (hp : p ≤ 1099511300000) : CallsV Tryz.prog 133 [rdS, colsI l] [rdO bs p]
    (relQ (fun y : List Col × Nat => smlCols y.1 ∧ y.1.length ≤ l.length + 1 ∧ y.2 ≤ p + 10) (fun y => colsI y.1) (fun y => [some (rdO bs y.2)]) (fun _ => [])) := by
  refine funF_walk hTb Tryz.func133 rfl rfl Tryz.ntmps133 (by simp) (by simp) ?_
  (conv => whnf); repeat' (first | (refine And.intro ?_ ?_ <;> ((try intro h) <;> (try simp only [Bool.not_true, Bool.not_false] at h) <;> first | exact absurd h Bool.false_ne_true | exact absurd h.symm Bool.false_ne_true | conv => whnf)) | (refine Need.mk ?_; kernel_rfl) | (refine Need.mk ⟨rfl, ?_⟩; decide))
  refine VR.opk hTb rfl rfl (o_app0 (f := encCol) (m := l) (q := 109) hTb rfl rfl rfl rfl rfl rfl rfl rfl rfl rfl (by omega) (by show _ * 64 ≤ _; omega) (by unfold maxLen; omega)) ?_
  (conv => whnf); repeat' (first | (refine And.intro ?_ ?_ <;> ((try intro h) <;> (try simp only [Bool.not_true, Bool.not_false] at h) <;> first | exact absurd h Bool.false_ne_true | exact absurd h.symm Bool.false_ne_true | conv => whnf)) | (refine Need.mk ?_; kernel_rfl) | (refine Need.mk ⟨rfl, ?_⟩; decide))
  · exact endR [] (l, p) rfl rfl rfl rfl rfl (LeS.of_eq (brwG (by simp))) rfl rfl ⟨hl, by simp, by simp⟩
  have hpos : 0 < l.length := by simp at h; exact List.length_pos_iff.2 h
  clear h
  have e0 := bs0
  (conv => whnf); repeat' (first
    | (refine And.intro ?_ ?_ <;> ((try intro h) <;> (try simp only [Bool.not_true, Bool.not_false, decide_eq_true_eq, decide_eq_false_iff_not, Int.not_lt, Int.not_le, gt_iff_lt, ge_iff_le] at h) <;> first | exact absurd h Bool.false_ne_true | exact absurd h.symm Bool.false_ne_true | conv => whnf))
    | (refine VL.drawS hTb hMix (by kernel_rfl) (by kernel_rfl) (by kernel_rfl) ?_; conv => whnf)
    | (refine Need.mk ?_; kernel_rfl) | (refine Need.mk ⟨rfl, ?_⟩; decide)
    | (refine VR.rel hTb rfl rfl (o_relN (c_pick hb _ (l.length : Int) (by omega)) false [0] (fun _ _ => ⟨by simp, fun h => by cases h⟩) rfl rfl rfl rfl rfl ⟨rfl, rfl, rfl, rfl⟩ rfl rfl) ?_; rintro k hk; (try simp only at hk); conv => whnf)
    | (refine DT.rel hTb rfl (o_relN (c_pick hb _ (l.length : Int) (by omega)) false [0] (fun _ _ => ⟨by simp, fun h => by cases h⟩) rfl rfl rfl rfl rfl ⟨rfl, rfl, rfl, rfl⟩ rfl rfl) [0] (by kernel_rfl) (by kernel_rfl) ?_; rintro k hk; (try simp only at hk); refine And.intro rfl (And.intro rfl ?_); conv => whnf)
    | (refine VR.rel hTb rfl rfl (o_relN (c_pick hb _ 60 (by omega)) false [0] (fun _ _ => ⟨by simp, fun h => by cases h⟩) rfl rfl rfl rfl rfl ⟨rfl, rfl, rfl, rfl⟩ rfl rfl) ?_; rintro w hw; (try simp only at hw); conv => whnf)
    | (refine DT.rel hTb rfl (o_relN (c_pick hb _ 60 (by omega)) false [0] (fun _ _ => ⟨by simp, fun h => by cases h⟩) rfl rfl rfl rfl rfl ⟨rfl, rfl, rfl, rfl⟩ rfl rfl) [0] (by kernel_rfl) (by kernel_rfl) ?_; rintro w hw; (try simp only at hw); refine And.intro rfl (And.intro rfl ?_); conv => whnf)
    | (refine VR.rel hTb rfl rfl (o_relN (c_of hb _ _ _ (fun t => t.size ≤ 8) (by simp [strRows]; decide) (by simp) (by omega)) false [0, 125] (fun _ _ => ⟨by simp, fun h => by cases h⟩) rfl rfl rfl rfl rfl ⟨rfl, rfl, rfl, rfl⟩ rfl rfl) ?_; rintro nm hnm; (try simp only at hnm); conv => whnf)
    | (refine DT.rel hTb rfl (o_relN (c_of hb _ _ _ (fun t => t.size ≤ 8) (by simp [strRows]; decide) (by simp) (by omega)) false [0, 125] (fun _ _ => ⟨by simp, fun h => by cases h⟩) rfl rfl rfl rfl rfl ⟨rfl, rfl, rfl, rfl⟩ rfl rfl) [0, 125] (by kernel_rfl) (by kernel_rfl) ?_; rintro nm hnm; (try simp only at hnm); refine And.intro rfl (And.intro rfl ?_); conv => whnf)
    | (refine VR.rel hTb rfl rfl (o_relN (c_num hb _ _ _ (fun _ => True) (by simp [intRows]) (by simp) (by omega)) false [0, 134] (fun _ _ => ⟨by simp, fun h => by cases h⟩) rfl rfl rfl rfl rfl ⟨rfl, rfl, rfl, rfl⟩ rfl rfl) ?_; rintro nb hnb; (try simp only at hnb); conv => whnf)
    | (refine DT.rel hTb rfl (o_relN (c_num hb _ _ _ (fun _ => True) (by simp [intRows]) (by simp) (by omega)) false [0, 134] (fun _ _ => ⟨by simp, fun h => by cases h⟩) rfl rfl rfl rfl rfl ⟨rfl, rfl, rfl, rfl⟩ rfl rfl) [0, 134] (by kernel_rfl) (by kernel_rfl) ?_; rintro nb hnb; (try simp only at hnb); refine And.intro rfl (And.intro rfl ?_); conv => whnf)
    | (refine VR.rel hTb rfl rfl (o_relN (c_l1Draw hb _ (by omega)) false [0] (fun _ _ => ⟨by simp, fun h => by cases h⟩) rfl rfl rfl rfl rfl ⟨rfl, rfl, rfl, rfl⟩ rfl rfl) ?_; rintro ⟨⟨vk, vn, vt⟩, q⟩ hv; (try simp only at hv); conv => whnf)
    | (refine DT.rel hTb rfl (o_relN (c_l1Draw hb _ (by omega)) false [0] (fun _ _ => ⟨by simp, fun h => by cases h⟩) rfl rfl rfl rfl rfl ⟨rfl, rfl, rfl, rfl⟩ rfl rfl) [0] (by kernel_rfl) (by kernel_rfl) ?_; rintro ⟨⟨vk, vn, vt⟩, q⟩ hv; (try simp only at hv); refine And.intro rfl (And.intro rfl ?_); conv => whnf)
    | (refine Need.mk ?_; exact ⟨rfl, by omega, by omega⟩)
    | (refine VR.op hTb rfl rfl (o_storeM hTb rfl rfl rfl rfl rfl (List.getElem?_eq_getElem (show 0 + k.toNat < l.length by omega)) rfl rfl rfl ⟨rfl, by decide⟩ (c' := ⟨_, _, _, _, ⟨_, _, _⟩⟩) rfl) rfl ?_; conv => whnf)
    | (refine DT.op hTb rfl (o_storeM hTb rfl rfl rfl rfl rfl (List.getElem?_eq_getElem (show 0 + k.toNat < l.length by omega)) rfl rfl rfl ⟨rfl, by decide⟩ (c' := ⟨_, _, _, _, ⟨_, _, _⟩⟩) rfl) rfl ?_; conv => whnf)
    | (refine VR.op hTb rfl rfl (o_loadM hTb rfl rfl rfl rfl (List.getElem?_eq_getElem (show 0 + k.toNat < l.length by omega)) ⟨by decide, by decide⟩) rfl ?_; conv => whnf)
    | (refine DT.op hTb rfl (o_loadM hTb rfl rfl rfl rfl (List.getElem?_eq_getElem (show 0 + k.toNat < l.length by omega)) ⟨by decide, by decide⟩) rfl ?_; conv => whnf)
    | (refine VR.opk hTb rfl rfl (o_app1 (q := 154) (a := ⟨_, _, _, _, ⟨_, _, _⟩⟩) hTb rfl rfl rfl rfl rfl rfl rfl rfl rfl rfl rfl rfl (by omega) (by show _ * 64 ≤ _; omega) (by unfold maxLen; omega)) ?_; conv => whnf)
    | (refine DT.opk hTb rfl (o_app1 (q := 154) (a := ⟨_, _, _, _, ⟨_, _, _⟩⟩) hTb rfl rfl rfl rfl rfl rfl rfl rfl rfl rfl rfl rfl (by omega) (by show _ * 64 ≤ _; omega) (by unfold maxLen; omega)) ?_; conv => whnf))
  all_goals
    have hke : 0 + k.toNat < l.length := by omega
    have hcs : (l[0 + k.toNat]).sml := hl _ (List.getElem_mem hke)
    first
      | refine endR [] (_, _) rfl rfl rfl rfl rfl (LeS.of_eq (brwG (by simp))) rfl rfl ⟨?_, ?_, ?_⟩
      | refine endR [] ([], _) rfl rfl rfl rfl rfl (LeS.refl _) rfl rfl ⟨?_, ?_, ?_⟩
  all_goals first
    | exact hl
    | exact smlCols.set hl ⟨hcs.1, hcs.2⟩
    | exact smlCols.set hl ⟨hnm, hcs.2⟩
    | exact smlCols.set hl ⟨hcs.1, hv.1⟩
    | exact smlCols.app hl ⟨hcs.1, hcs.2⟩
    | (intro x hx; cases hx; done)
    | (simp only [List.length_set, List.length_append, List.length_cons, List.length_nil]; omega)
    | omega
end Go.Vl

namespace Go.Vl
open Go Go.RowKit Go.Proofs
set_option maxRecDepth 100000
set_option linter.unusedSimpArgs false
set_option linter.unusedVariables false
set_option linter.unnecessarySimpa false
set_option maxHeartbeats 2000000

def smlVals (l : List Val) : Prop := ∀ x ∈ l, x.t.size ≤ 8
theorem smlVals.set {l : List Val} (h : smlVals l) {i : Nat} {c : Val} (hc : c.t.size ≤ 8) : smlVals (l.set i c) := by
  intro x hx
  rcases List.mem_or_eq_of_mem_set hx with hx | rfl
  · exact h x hx
  · exact hc
theorem smlVals.app {l : List Val} (h : smlVals l) {c : Val} (hc : c.t.size ≤ 8) : smlVals (l ++ [c]) := by
  intro x hx
  rcases List.mem_append.1 hx with hx | hx
  · exact h x hx
  · simp at hx; subst hx; exact hc
theorem smlVals.drop {l : List Val} (h : smlVals l) (n : Nat) : smlVals (l.drop n) := fun x hx => h x (List.mem_of_mem_drop hx)

end Go.Vl

namespace Go.Vl
open Go Go.RowKit Go.Proofs
set_option maxRecDepth 100000
set_option linter.unusedSimpArgs false
set_option linter.unusedVariables false
set_option linter.unnecessarySimpa false
set_option maxHeartbeats 2000000

theorem BOk.of {bs : List Int} (hb : ∀ x ∈ bs, 0 ≤ x ∧ x < 256) : BOk (bs.take 2000) := ⟨fun x hx => hb x (List.mem_of_mem_take hx), by simp; omega⟩

theorem c_DrawShapeOk {bs : List Int} (hl : bs.length ≤ maxLen) (hb : ∀ x ∈ bs, 0 ≤ x ∧ x < 256) : CallsV Tryz.prog 72 [bytesI bs] []
    (relQ (fun y : List Col => smlCols y ∧ y.length ≤ 10) (fun y => colsI y) (fun _ => []) (fun _ => [])) := by
  have hbk := BOk.of hb
  refine funF_walk hTb Tryz.func72 rfl rfl Tryz.ntmps72 (by simp) (by simp) ?_
  (conv => whnf); repeat' (first
    | (refine And.intro ?_ ?_ <;> ((try intro h) <;> (try simp only [Bool.not_true, Bool.not_false, decide_eq_true_eq, decide_eq_false_iff_not, Int.not_lt, Int.not_le, gt_iff_lt, ge_iff_le] at h) <;> first | exact absurd h Bool.false_ne_true | exact absurd h.symm Bool.false_ne_true | conv => whnf))
    | (refine VL.drawS hTb hMix (by kernel_rfl) (by kernel_rfl) (by kernel_rfl) ?_; conv => whnf)
    | (refine Need.mk ?_; kernel_rfl) | (refine Need.mk ⟨rfl, ?_⟩; decide)
    | (refine VR.fun hTb rfl rfl (o_funN (c_l10Open hl) false [] (fun h => by cases h) (by simp) rfl rfl rfl rfl rfl ⟨rfl, rfl, rfl, rfl⟩ rfl rfl) ?_; conv => whnf)
    | (refine DT.fun hTb rfl (o_funN (c_l10Open hl) false [] (fun h => by cases h) (by simp) rfl rfl rfl rfl rfl ⟨rfl, rfl, rfl, rfl⟩ rfl rfl) rfl ?_; conv => whnf)
    | (refine VR.rel hTb rfl rfl (o_relN (c_l2Shape hbk _ (by omega)) false [1020] (fun _ _ => ⟨by simp, fun h => by cases h⟩) rfl rfl rfl rfl rfl ⟨rfl, rfl, rfl, rfl⟩ rfl rfl) ?_; rintro ⟨cs, q⟩ h1; (try simp only at h1); conv => whnf)
    | (refine DT.rel hTb rfl (o_relN (c_l2Shape hbk _ (by omega)) false [1020] (fun _ _ => ⟨by simp, fun h => by cases h⟩) rfl rfl rfl rfl rfl ⟨rfl, rfl, rfl, rfl⟩ rfl rfl) [1020] (by kernel_rfl) (by kernel_rfl) ?_; rintro ⟨cs, q⟩ h1; (try simp only at h1); refine And.intro rfl (And.intro rfl ?_); conv => whnf)
    | (refine VR.rel hTb rfl rfl (o_relN (c_l2Bent hbk _ _ h1.1 (by omega) (by omega)) false [1020] (fun _ _ => ⟨by simp, fun h => by cases h⟩) rfl rfl rfl rfl rfl ⟨rfl, rfl, rfl, rfl⟩ rfl rfl) ?_; rintro ⟨cs2, q2⟩ h2; (try simp only at h2); conv => whnf)
    | (refine DT.rel hTb rfl (o_relN (c_l2Bent hbk _ _ h1.1 (by omega) (by omega)) false [1020] (fun _ _ => ⟨by simp, fun h => by cases h⟩) rfl rfl rfl rfl rfl ⟨rfl, rfl, rfl, rfl⟩ rfl rfl) [1020] (by kernel_rfl) (by kernel_rfl) ?_; rintro ⟨cs2, q2⟩ h2; (try simp only at h2); refine And.intro rfl (And.intro rfl ?_); conv => whnf)
    | (refine VR.rel hTb rfl rfl (o_relN (c_l2Bent hbk _ _ h2.1 (by omega) (by omega)) false [1020] (fun _ _ => ⟨by simp, fun h => by cases h⟩) rfl rfl rfl rfl rfl ⟨rfl, rfl, rfl, rfl⟩ rfl rfl) ?_; rintro ⟨cs3, q3⟩ h3; (try simp only at h3); conv => whnf)
    | (refine DT.rel hTb rfl (o_relN (c_l2Bent hbk _ _ h2.1 (by omega) (by omega)) false [1020] (fun _ _ => ⟨by simp, fun h => by cases h⟩) rfl rfl rfl rfl rfl ⟨rfl, rfl, rfl, rfl⟩ rfl rfl) [1020] (by kernel_rfl) (by kernel_rfl) ?_; rintro ⟨cs3, q3⟩ h3; (try simp only at h3); refine And.intro rfl (And.intro rfl ?_); conv => whnf))
  exact endR [] cs3 rfl rfl rfl rfl rfl (LeS.refl _) rfl rfl ⟨h3.1, (by (try simp only); omega)⟩
end Go.Vl

namespace Go.Vl
open Go Go.RowKit Go.Proofs
set_option maxRecDepth 100000
set_option linter.unusedSimpArgs false
set_option linter.unusedVariables false
set_option linter.unnecessarySimpa false
set_option maxHeartbeats 1000000

end Go.Vl

namespace Go.Vl
open Go Go.RowKit Go.Proofs
set_option maxRecDepth 100000
set_option linter.unusedSimpArgs false
set_option linter.unusedVariables false
set_option linter.unnecessarySimpa false
set_option maxHeartbeats 2000000

theorem rowv_at {cs : List Val} {i : Nat} (h : i < cs.length) : (cs.map encVal)[((i : Nat) : Int).toNat]? = some (encVal cs[i]) := by
  rw [Int.toNat_natCast, List.getElem?_map, List.getElem?_eq_getElem h]; rfl

def cellOk (c : Col) (v : Val) : Bool := valOk v && (v.k == 0 || v.k == c.kind) && !(c.need && v.k == 0)
def rowGo : List Col → List Val → Bool
  | c :: cs, v :: vs => cellOk c v && rowGo cs vs
  | [], [] => true
  | _, _ => false
theorem rowGo_step {cs : List Col} {vs : List Val} {i : Nat} (h1 : i < cs.length) (h2 : i < vs.length) : rowGo (cs.drop i) (vs.drop i) = (cellOk cs[i] vs[i] && rowGo (cs.drop (i + 1)) (vs.drop (i + 1))) := by
  rw [List.drop_eq_getElem_cons h1, List.drop_eq_getElem_cons h2, rowGo]
theorem rowGo_end {cs : List Col} {vs : List Val} {i : Nat} (h1 : cs.length ≤ i) (h2 : vs.length ≤ i) : rowGo (cs.drop i) (vs.drop i) = true := by
  rw [List.drop_of_length_le h1, List.drop_of_length_le h2, rowGo]
def rowIn (cs : List Col) (vs : List Val) : Bool := if vs.length ≠ cs.length then false else rowGo cs vs
def rowOk (cs : List Col) (vs : List Val) : Bool := shapeOk cs && rowIn cs vs

theorem c_specRowOk (cs : List Col) (vs : List Val) (hl : cs.length ≤ maxLen) (ho : ∀ c ∈ cs, c.ok) (hv : ∀ v ∈ vs, v.t.size ≤ maxLen) : CallsV Tryz.prog 127 [colsI cs, valsI vs] [] (pureQ (bS (rowOk cs vs))) := by
  refine pure_walk hTb Tryz.func127 rfl rfl Tryz.ntmps127 (by simp) ?_
  (conv => whnf); repeat' (first
    | (refine And.intro ?_ ?_ <;> ((try intro h) <;> (try simp only [Bool.not_true, Bool.not_false] at h) <;> first | exact absurd h Bool.false_ne_true | exact absurd h.symm Bool.false_ne_true | conv => whnf))
    | (refine VL.drawS hTb hMix (by kernel_rfl) (by kernel_rfl) (by kernel_rfl) ?_; conv => whnf)
    | (refine Need.mk ?_; kernel_rfl) | (refine Need.mk ⟨rfl, ?_⟩; decide)
    | (refine VR.pure hTb rfl rfl (o_purN (c_specShapeOk cs hl ho) rfl rfl rfl ⟨rfl, rfl, rfl, rfl⟩ rfl) ?_; conv => whnf)
    | (refine DT.pure hTb rfl (o_purN (c_specShapeOk cs hl ho) rfl rfl rfl ⟨rfl, rfl, rfl, rfl⟩ rfl) ?_; conv => whnf))
  · have h1 : shapeOk cs = true := by simp_all
    have h3 : vs.length ≠ cs.length := by simp at h; omega
    simp only [bS, rowOk, rowIn, h1, if_pos h3, Bool.and_false]
  · have h1 : shapeOk cs = true := by simp_all
    have h3 : vs.length = cs.length := by simp at h; omega
    have h4 : rowOk cs vs = rowGo cs vs := by simp [rowOk, rowIn, h1, h3]
    clear h
    refine VL.loopI hTb (fun i => i ≤ vs.length ∧ rowGo cs vs = rowGo (cs.drop i) (vs.drop i)) (fun i => ⟨[(0, colsI cs), (1, valsI vs), (5, iS i)], [], []⟩) (fun i => vs.length - i) 0 ⟨Nat.zero_le _, rfl⟩
      (wk_to [] rfl rfl rfl ⟨rfl, rfl, rfl, trivial⟩ trivial) (fun i hi => ?_)
    obtain ⟨hi, hf⟩ := hi
    (conv => whnf)
    refine And.intro (fun h2 => ?_) (fun h2 => ?_)
    · have hlt : i < vs.length := by simpa using h2
      have hlt2 : i < cs.length := by omega
      have hrow := rowv_at hlt
      have hrow2 := row_at hlt2
      (conv => whnf); repeat' (first
    | (refine And.intro ?_ ?_ <;> ((try intro h) <;> (try simp only [Bool.not_true, Bool.not_false] at h) <;> first | exact absurd h Bool.false_ne_true | exact absurd h.symm Bool.false_ne_true | conv => whnf))
    | (refine VL.drawS hTb hMix (by kernel_rfl) (by kernel_rfl) (by kernel_rfl) ?_; conv => whnf)
    | (refine Need.mk ?_; kernel_rfl) | (refine Need.mk ⟨rfl, ?_⟩; decide)
    | (refine VR.op hTb rfl rfl (o_index_imm hTb rfl rfl rfl rfl rfl rfl rfl (Int.natCast_nonneg _) ( hrow)) rfl ?_; conv => whnf)
    | (refine DT.op hTb rfl (o_index_imm hTb rfl rfl rfl rfl rfl rfl rfl (Int.natCast_nonneg _) ( hrow)) rfl ?_; conv => whnf)
    | (refine VR.op hTb rfl rfl (o_index_imm hTb rfl rfl rfl rfl rfl rfl rfl (Int.natCast_nonneg _) ( hrow2)) rfl ?_; conv => whnf)
    | (refine DT.op hTb rfl (o_index_imm hTb rfl rfl rfl rfl rfl rfl rfl (Int.natCast_nonneg _) ( hrow2)) rfl ?_; conv => whnf)
    | (refine VR.pure hTb rfl rfl (o_purN (c_specValOk vs[i] (hv _ (List.getElem_mem hlt))) rfl rfl rfl ⟨rfl, rfl, rfl, rfl⟩ rfl) ?_; conv => whnf)
    | (refine DT.pure hTb rfl (o_purN (c_specValOk vs[i] (hv _ (List.getElem_mem hlt))) rfl rfl rfl ⟨rfl, rfl, rfl, rfl⟩ rfl) ?_; conv => whnf)); all_goals (try simp only [List.get_eq_getElem] at *)
      all_goals first
        | contradiction
        | (refine ⟨i + 1, ⟨hlt, ?_⟩, by omega, wk_to [] rfl rfl rfl ⟨rfl, rfl, congrArg (fun x => Slot.one (.g (.int .i64 x))) (wrap64' (by omega)), trivial⟩ trivial⟩
           rw [hf, rowGo_step hlt2 hlt]
           have e : cellOk cs[i] vs[i] = true := by
             clear hf h4 hrow hrow2 hv ho hl h1 h2 hi h3
             generalize vs[i] = v at *
             generalize cs[i] = c at *
             clear hlt hlt2
             unfold cellOk
             (try simp only [bne] at *)
             generalize (v.k == 0) = p at *
             generalize (v.k == c.kind) = q at *
             generalize valOk v = r at *
             generalize c.need = u at *
             cases p <;> cases q <;> cases r <;> cases u <;> first | rfl | (exfalso; simp at *)
           rw [e, Bool.true_and]; done)
        | (rw [h4, hf, rowGo_step hlt2 hlt]
           have e : cellOk cs[i] vs[i] = false := by
             clear hf h4 hrow hrow2 hv ho hl h1 h2 hi h3
             generalize vs[i] = v at *
             generalize cs[i] = c at *
             clear hlt hlt2
             unfold cellOk
             (try simp only [bne] at *)
             generalize (v.k == 0) = p at *
             generalize (v.k == c.kind) = q at *
             generalize valOk v = r at *
             generalize c.need = u at *
             cases p <;> cases q <;> cases r <;> cases u <;> first | rfl | (exfalso; simp at *)
           rw [e]; rfl)
    · (conv => whnf)
      rw [h4, hf, rowGo_end (by simp at h2; omega) (by simp at h2; omega)]; rfl
  · have h1 : shapeOk cs = false := by simp_all
    simp only [bS, rowOk, h1, Bool.false_and]

theorem c_implrowOk (cs : List Col) (vs : List Val) (hl : cs.length ≤ maxLen) (hv : ∀ v ∈ vs, v.t.size ≤ maxLen) : CallsV Tryz.prog 82 [colsI cs, valsI vs] [] (pureQ (bS (rowIn cs vs))) := by
  refine pure_walk hTb Tryz.func82 rfl rfl Tryz.ntmps82 (by simp) ?_
  (conv => whnf); repeat' (first | (refine And.intro ?_ ?_ <;> ((try intro h) <;> (try simp only [Bool.not_true, Bool.not_false] at h) <;> first | exact absurd h Bool.false_ne_true | exact absurd h.symm Bool.false_ne_true | conv => whnf)) | (refine Need.mk ?_; kernel_rfl) | (refine Need.mk ⟨rfl, ?_⟩; decide))
  · have h3 : vs.length ≠ cs.length := by simp at h; omega
    simp only [bS, rowIn, if_pos h3]
  · have h3 : vs.length = cs.length := by simp at h; omega
    have h4 : rowIn cs vs = rowGo cs vs := by simp [rowIn, h3]
    clear h
    refine VL.loopI hTb (fun i => i ≤ vs.length ∧ rowGo cs vs = rowGo (cs.drop i) (vs.drop i)) (fun i => ⟨[(0, colsI cs), (1, valsI vs), (12, valsI vs), (13, iS ((vs.map encVal).length : Nat)), (14, iS i)], [], []⟩) (fun i => vs.length - i) 0 ⟨Nat.zero_le _, rfl⟩
      (wk_to [] rfl rfl rfl ⟨rfl, rfl, rfl, rfl, rfl, trivial⟩ trivial) (fun i hi => ?_)
    obtain ⟨hi, hf⟩ := hi
    (conv => whnf)
    refine And.intro (fun h2 => ?_) (fun h2 => ?_)
    · have hlt : i < vs.length := by simpa using h2
      have hlt2 : i < cs.length := by omega
      have hrow := rowv_at hlt
      have hrow2 := row_at hlt2
      (conv => whnf); repeat' (first
    | (refine And.intro ?_ ?_ <;> ((try intro h) <;> (try simp only [Bool.not_true, Bool.not_false] at h) <;> first | exact absurd h Bool.false_ne_true | exact absurd h.symm Bool.false_ne_true | conv => whnf))
    | (refine VL.drawS hTb hMix (by kernel_rfl) (by kernel_rfl) (by kernel_rfl) ?_; conv => whnf)
    | (refine Need.mk ?_; kernel_rfl) | (refine Need.mk ⟨rfl, ?_⟩; decide)
    | (refine VR.op hTb rfl rfl (o_index_imm hTb rfl rfl rfl rfl rfl rfl rfl (Int.natCast_nonneg _) ( hrow)) rfl ?_; conv => whnf)
    | (refine DT.op hTb rfl (o_index_imm hTb rfl rfl rfl rfl rfl rfl rfl (Int.natCast_nonneg _) ( hrow)) rfl ?_; conv => whnf)
    | (refine VR.op hTb rfl rfl (o_index_imm hTb rfl rfl rfl rfl rfl rfl rfl (Int.natCast_nonneg _) ( hrow2)) rfl ?_; conv => whnf)
    | (refine DT.op hTb rfl (o_index_imm hTb rfl rfl rfl rfl rfl rfl rfl (Int.natCast_nonneg _) ( hrow2)) rfl ?_; conv => whnf)
    | (refine VR.pure hTb rfl rfl (o_purN (c_implValOk vs[i] (hv _ (List.getElem_mem hlt))) rfl rfl rfl ⟨rfl, rfl, rfl, rfl⟩ rfl) ?_; conv => whnf)
    | (refine DT.pure hTb rfl (o_purN (c_implValOk vs[i] (hv _ (List.getElem_mem hlt))) rfl rfl rfl ⟨rfl, rfl, rfl, rfl⟩ rfl) ?_; conv => whnf)
    | (refine VR.pure hTb rfl rfl (o_purN (c_fits vs[i] _) rfl rfl rfl ⟨rfl, rfl, rfl, rfl⟩ rfl) ?_; conv => whnf)
    | (refine DT.pure hTb rfl (o_purN (c_fits vs[i] _) rfl rfl rfl ⟨rfl, rfl, rfl, rfl⟩ rfl) ?_; conv => whnf)); all_goals (try simp only [List.get_eq_getElem] at *)
      all_goals first
        | contradiction
        | (refine ⟨i + 1, ⟨hlt, ?_⟩, by omega, wk_to [] rfl rfl rfl ⟨rfl, rfl, rfl, rfl, congrArg (fun x => Slot.one (.g (.int .i64 x))) (wrap64' (by omega)), trivial⟩ trivial⟩
           rw [hf, rowGo_step hlt2 hlt]
           have e : cellOk cs[i] vs[i] = true := by
             clear hf h4 hrow hrow2 hv hl h2 hi h3
             generalize vs[i] = v at *
             generalize cs[i] = c at *
             clear hlt hlt2
             unfold cellOk
             (try simp only [bne] at *)
             generalize (v.k == 0) = p at *
             generalize (v.k == c.kind) = q at *
             generalize valOk v = r at *
             generalize c.need = u at *
             cases p <;> cases q <;> cases r <;> cases u <;> first | rfl | (exfalso; simp at *)
           rw [e, Bool.true_and]; done)
        | (rw [h4, hf, rowGo_step hlt2 hlt]
           have e : cellOk cs[i] vs[i] = false := by
             clear hf h4 hrow hrow2 hv hl h2 hi h3
             generalize vs[i] = v at *
             generalize cs[i] = c at *
             clear hlt hlt2
             unfold cellOk
             (try simp only [bne] at *)
             generalize (v.k == 0) = p at *
             generalize (v.k == c.kind) = q at *
             generalize valOk v = r at *
             generalize c.need = u at *
             cases p <;> cases q <;> cases r <;> cases u <;> first | rfl | (exfalso; simp at *)
           rw [e]; rfl)
    · (conv => whnf)
      rw [h4, hf, rowGo_end (by simp at h2; omega) (by simp at h2; omega)]; rfl

end Go.Vl

namespace Go.Vl
open Go Go.RowKit Go.Proofs

theorem atGo_spec (s : ByteArray) : ∀ (cs : List Col) (i : Nat), (atGo s cs i = -1 ∧ ∀ c ∈ cs, (c.name.toList == s.toList) = false) ∨ ∃ j, ∃ h : j < cs.length, atGo s cs i = ((i + j : Nat) : Int) ∧ (cs[j].name.toList == s.toList) = true
  | [], i => .inl ⟨rfl, by simp⟩
  | c :: cs, i => by
    unfold atGo
    cases hc : (c.name.toList == s.toList) with
    | true => right; exact ⟨0, by simp, by simp, by simpa using hc⟩
    | false =>
      rcases atGo_spec s cs (i + 1) with ⟨h1, h2⟩ | ⟨j, hj, h1, h2⟩
      · left; simp only [Bool.false_eq_true, if_false]; exact ⟨h1, fun d hd => by rcases List.mem_cons.1 hd with rfl | hd; exact hc; exact h2 d hd⟩
      · right; refine ⟨j + 1, by simpa using hj, ?_, by simpa using h2⟩
        simp only [Bool.false_eq_true, if_false]
        rw [h1]; congr 1; omega
theorem nameAt_spec (cs : List Col) (s : ByteArray) : (nameAt cs s = -1 ∧ ∀ c ∈ cs, (c.name.toList == s.toList) = false) ∨ ∃ j, ∃ h : j < cs.length, nameAt cs s = (j : Int) ∧ (cs[j].name.toList == s.toList) = true := by
  rcases atGo_spec s cs 0 with h | ⟨j, hj, h1, h2⟩
  · exact .inl h
  · exact .inr ⟨j, hj, by unfold nameAt; rw [h1, Nat.zero_add], h2⟩
theorem shapeOk_len {cs : List Col} (h : shapeOk cs = true) : 1 ≤ cs.length ∧ cs.length ≤ 5 := by
  unfold shapeOk at h
  simp only [Bool.and_eq_true, decide_eq_true_eq, List.length_map] at h
  omega
end Go.Vl

namespace Go.Vl
open Go Go.RowKit Go.Proofs
set_option maxRecDepth 100000
set_option linter.unusedSimpArgs false
set_option linter.unusedVariables false
set_option linter.unnecessarySimpa false
set_option maxHeartbeats 2000000

theorem smlCols.ok {l : List Col} (h : smlCols l) : ∀ c ∈ l, c.ok := fun c hc => (h c hc).ok

end Go.Vl

namespace Go.Vl
open Go Go.RowKit Go.Proofs
set_option maxRecDepth 100000
set_option linter.unusedSimpArgs false
set_option linter.unusedVariables false
set_option linter.unnecessarySimpa false
set_option maxHeartbeats 1000000
def zVal : Val := ⟨0, 0, ⟨#[]⟩⟩
def zCol : Col := ⟨⟨#[]⟩, 0, false, false, zVal⟩
theorem take_drop_erase {α : Type} {L : List α} {n i : Nat} (hn : L.length = n) (h : i < n) (z : α) :
    (L.take i ++ (L.drop (i + 1)).take (n - (i + 1)) ++ L.drop (i + (n - (i + 1)))).take (0 + (i + (n - (i + 1)))) ++ List.replicate (n - (i + (n - (i + 1)))) z ++ (L.take i ++ (L.drop (i + 1)).take (n - (i + 1)) ++ L.drop (i + (n - (i + 1)))).drop (0 + (i + (n - (i + 1))) + (n - (i + (n - (i + 1))))) = L.eraseIdx i ++ [z] := by
  subst hn
  obtain ⟨a, ha⟩ : ∃ a, a = i + (L.length - (i + 1)) := ⟨_, rfl⟩
  have h1 : (L.drop (i + 1)).take (L.length - (i + 1)) = L.drop (i + 1) := List.take_of_length_le (by simp)
  have h3 : (L.take i ++ L.drop (i + 1)).length = 0 + a := by simp; omega
  have h4 : (L.drop a).length = 1 := by simp; omega
  have h5 : (L.take i ++ L.drop (i + 1) ++ L.drop a).drop (0 + a + 1) = [] := List.drop_eq_nil_of_le (by rw [List.length_append, h3, h4]; exact Nat.le_refl _)
  rw [h1, ← ha, show L.length - a = 1 by omega, List.take_left' h3, h5, List.append_nil, List.eraseIdx_eq_take_drop_succ]
  rfl
theorem map_erase {α β : Type} (f : α → β) : ∀ (l : List α) (i : Nat), (l.eraseIdx i).map f = (l.map f).eraseIdx i
  | [], _ => rfl
  | a :: l, 0 => rfl
  | a :: l, i + 1 => by simp [map_erase f l i]

theorem grVals (l : List Val) {E sz : Nat} : GrO (.arr E sz (l.map encVal)) := by
  intro r hr x hx
  obtain ⟨c, _, rfl⟩ := List.mem_map.1 hr
  obtain ⟨a1, a2, a3⟩ := c
  simp [encVal] at hx
  rcases hx with rfl | rfl | rfl <;> rfl
theorem c_CloneVal (l : List Val) (hl : l.length ≤ 2000000) : CallsV Tryz.prog 202 [.one (.imm 3 (l.map encVal))] [] (funQ (.one (.own 0 0 l.length)) [] [.arr 37 3 (l.map encVal)]) := by
  refine funF_walk hTb Tryz.func202 rfl rfl Tryz.ntmps202 (by simp) (by simp) ?_
  (conv => whnf); repeat' (first
    | (refine And.intro ?_ ?_ <;> ((try intro h) <;> (try simp only [Bool.not_true, Bool.not_false, decide_eq_true_eq, decide_eq_false_iff_not, Int.not_lt, Int.not_le, gt_iff_lt, ge_iff_le] at h) <;> first | exact absurd h Bool.false_ne_true | exact absurd h.symm Bool.false_ne_true | conv => whnf))
    | (refine VL.drawS hTb hMix (by kernel_rfl) (by kernel_rfl) (by kernel_rfl) ?_; conv => whnf)
    | (refine Need.mk ?_; kernel_rfl) | (refine Need.mk ⟨rfl, ?_⟩; decide)
    | (refine VR.rel hTb rfl rfl (o_isnil hTb rfl rfl rfl rfl) ?_; intro b hb; conv => whnf)
    | (refine VR.opk hTb rfl rfl (o_app0 (f := encVal) (m := l) (q := 107) hTb rfl rfl rfl rfl rfl rfl rfl rfl rfl rfl (by omega) (by show _ * 32 ≤ _; omega) (by unfold maxLen; omega)) ?_; conv => whnf)
    | (refine DT.opk hTb rfl (o_app0 (f := encVal) (m := l) (q := 107) hTb rfl rfl rfl rfl rfl rfl rfl rfl rfl rfl (by omega) (by show _ * 32 ≤ _; omega) (by unfold maxLen; omega)) ?_; conv => whnf))
  · have e := hb ‹b = true›
    have e : l = [] := by cases l with | nil => rfl | cons => simp at e
    subst e
    exact EndV.nil 2 102 3 37 rfl rfl (by decide) (endW [102] rfl rfl rfl rfl rfl (LeS.refl _) rfl rfl)
  · exact endW [107] rfl rfl rfl rfl rfl (LeS.refl _) rfl rfl
theorem c_ClipVal (l : List Val) (hl : l.length ≤ 2000000) : CallsV Tryz.prog 201 [.one (.own 0 0 l.length)] [.arr 37 3 (l.map encVal)] (funQ (.one (.own 0 0 l.length)) [some (.arr 37 3 (l.map encVal))] []) := by
  refine funF_walk hTb Tryz.func201 rfl rfl Tryz.ntmps201 (by simp) (by simp) ?_
  (conv => whnf); repeat' (first
    | (refine And.intro ?_ ?_ <;> ((try intro h) <;> (try simp only [Bool.not_true, Bool.not_false, decide_eq_true_eq, decide_eq_false_iff_not, Int.not_lt, Int.not_le, gt_iff_lt, ge_iff_le] at h) <;> first | exact absurd h Bool.false_ne_true | exact absurd h.symm Bool.false_ne_true | conv => whnf))
    | (refine VL.drawS hTb hMix (by kernel_rfl) (by kernel_rfl) (by kernel_rfl) ?_; conv => whnf)
    | (refine Need.mk ?_; kernel_rfl) | (refine Need.mk ⟨rfl, ?_⟩; decide)
    | (refine VR.op hTb rfl rfl (o_slice3_own (n1 := 0) (n2 := l.length) (n3 := l.length) hTb rfl rfl rfl rfl rfl rfl rfl bnd_none (bnd_some rfl) (bnd_some rfl) (Nat.zero_le _) (Nat.le_refl _) (Nat.le_refl _) (by simp)) rfl ?_; conv => whnf))
  exact endW [] rfl rfl rfl rfl rfl (LeS.refl _) rfl rfl
theorem c_cloneVal (l : List Val) (hl : l.length ≤ 2000000) : CallsV Tryz.prog 180 [.one (.imm 3 (l.map encVal))] [] (funQ (.one (.own 0 0 l.length)) [] [.arr 37 3 (l.map encVal)]) := by
  refine funF_walk hTb Tryz.func180 rfl rfl Tryz.ntmps180 (by simp) (by simp) ?_
  (conv => whnf); repeat' (first
    | (refine And.intro ?_ ?_ <;> ((try intro h) <;> (try simp only [Bool.not_true, Bool.not_false, decide_eq_true_eq, decide_eq_false_iff_not, Int.not_lt, Int.not_le, gt_iff_lt, ge_iff_le] at h) <;> first | exact absurd h Bool.false_ne_true | exact absurd h.symm Bool.false_ne_true | conv => whnf))
    | (refine VL.drawS hTb hMix (by kernel_rfl) (by kernel_rfl) (by kernel_rfl) ?_; conv => whnf)
    | (refine Need.mk ?_; kernel_rfl) | (refine Need.mk ⟨rfl, ?_⟩; decide)
    | (refine VR.fun hTb rfl rfl (o_funN (c_CloneVal l hl) false [] (fun h => by cases h) (by simp) rfl rfl rfl rfl rfl ⟨rfl, rfl, rfl, rfl⟩ rfl rfl) ?_; conv => whnf)
    | (refine DT.fun hTb rfl (o_funN (c_CloneVal l hl) false [] (fun h => by cases h) (by simp) rfl rfl rfl rfl rfl ⟨rfl, rfl, rfl, rfl⟩ rfl rfl) rfl ?_; conv => whnf)
    | (refine VR.fun hTb rfl rfl (o_funN (c_ClipVal l hl) false [1016] (fun h => by cases h) (by simp) rfl rfl rfl rfl rfl ⟨rfl, rfl, rfl, rfl⟩ rfl rfl) ?_; conv => whnf)
    | (refine DT.fun hTb rfl (o_funN (c_ClipVal l hl) false [1016] (fun h => by cases h) (by simp) rfl rfl rfl rfl rfl ⟨rfl, rfl, rfl, rfl⟩ rfl rfl) rfl ?_; conv => whnf))
  exact endW [1016] rfl rfl rfl rfl rfl (LeS.refl _) rfl rfl
theorem c_DeleteVal (l : List Val) (i : Nat) (hi : i < l.length) (hl : l.length ≤ 2000000) : CallsV Tryz.prog 203 [.one (.own 0 0 l.length), iS i, iS ((i + 1 : Nat) : Int)] [.arr 37 3 (l.map encVal)]
    (funQ (.one (.own 0 0 (l.length - 1))) [some (.arr 37 3 ((l.eraseIdx i ++ [zVal]).map encVal))] []) := by
  refine funF_walk hTb Tryz.func203 rfl rfl Tryz.ntmps203 (by simp) (by simp) ?_
  have hlm : (l.map encVal).length = l.length := List.length_map _
  have e1 : i + (l.length - (i + 1)) = l.length - 1 := by omega
  (conv => whnf); repeat' (first
    | (refine And.intro ?_ ?_ <;> ((try intro h) <;> (try simp only [Bool.not_true, Bool.not_false, decide_eq_true_eq, decide_eq_false_iff_not, Int.not_lt, Int.not_le, gt_iff_lt, ge_iff_le] at h) <;> first | exact absurd h Bool.false_ne_true | exact absurd h.symm Bool.false_ne_true | conv => whnf))
    | (refine VL.drawS hTb hMix (by kernel_rfl) (by kernel_rfl) (by kernel_rfl) ?_; conv => whnf)
    | (refine Need.mk ?_; kernel_rfl) | (refine Need.mk ⟨rfl, ?_⟩; decide)
    | (refine VR.op hTb rfl rfl (o_slice3_own (n1 := i) (n2 := i + 1) (n3 := l.length) hTb rfl rfl rfl rfl rfl rfl rfl (bnd_some rfl) (bnd_some rfl) (bnd_some rfl) (Nat.le_succ _) (by omega) (Nat.le_refl _) (by simp)) rfl ?_; conv => whnf)
    | (refine DT.op hTb rfl (o_slice_ownX (n1 := 0) (n2 := i) hTb rfl rfl rfl rfl rfl rfl rfl bnd_none (bnd_some rfl) (Nat.zero_le _) (by simp; omega)) rfl ?_; conv => whnf)
    | (refine DT.op hTb rfl (o_slice_ownX (n1 := i + 1) (n2 := l.length) hTb rfl rfl rfl rfl rfl rfl rfl (bnd_some rfl) bnd_none (by omega) (by simp)) rfl ?_; conv => whnf)
    | (refine DT.op hTb rfl (o_app_in (x := i) (y := i + 1) (m := l.length - (i + 1)) hTb rfl rfl rfl rfl (by simp only [Nat.sub_zero, Nat.add_zero]; rfl) rfl (by simp only [Nat.zero_add]; rfl) rfl (by simp; omega) (by simp; omega) (by simp; omega) (by show _ * 32 ≤ _; omega) (by unfold maxLen; omega)) rfl ?_; conv => whnf)
    | (refine VR.op hTb rfl rfl (o_slice_ownX (n1 := i + (l.length - (i + 1))) (n2 := l.length) hTb rfl rfl rfl rfl rfl rfl rfl (bnd_some rfl) (bnd_some rfl) (by omega) (by simp; omega)) rfl ?_; conv => whnf)
    | (refine VR.op hTb rfl rfl (o_clear hTb rfl rfl rfl rfl rfl rfl rfl rfl (by omega)) rfl ?_; conv => whnf))
  · exfalso
    have := ‹((i : Int) == ((i + 1 : Nat) : Int)) = true›
    rw [beq_iff_eq] at this
    omega
  · have hr := take_drop_erase hlm hi (encVal zVal)
    rw [← map_erase, ← List.map_singleton, ← List.map_append] at hr
    exact endW [] rfl rfl rfl rfl rfl (LeS.of_eq (congrArg (fun m => Slot.one (.own 0 0 m)) e1)) (congrArg (fun r => [some (Ob.arr 37 3 r)]) hr) rfl

theorem grCols (l : List Col) {E sz : Nat} : GrO (.arr E sz (l.map encCol)) := by
  intro r hr x hx
  obtain ⟨c, _, rfl⟩ := List.mem_map.1 hr
  obtain ⟨a1, a2, a3, a4, ⟨a5, a6, a7⟩⟩ := c
  simp [encCol] at hx
  rcases hx with rfl | rfl | rfl | rfl | rfl | rfl | rfl <;> rfl
theorem c_CloneCol (l : List Col) (hl : l.length ≤ 2000000) : CallsV Tryz.prog 146 [.one (.imm 7 (l.map encCol))] [] (funQ (.one (.own 0 0 l.length)) [] [.arr 39 7 (l.map encCol)]) := by
  refine funF_walk hTb Tryz.func146 rfl rfl Tryz.ntmps146 (by simp) (by simp) ?_
  (conv => whnf); repeat' (first
    | (refine And.intro ?_ ?_ <;> ((try intro h) <;> (try simp only [Bool.not_true, Bool.not_false, decide_eq_true_eq, decide_eq_false_iff_not, Int.not_lt, Int.not_le, gt_iff_lt, ge_iff_le] at h) <;> first | exact absurd h Bool.false_ne_true | exact absurd h.symm Bool.false_ne_true | conv => whnf))
    | (refine VL.drawS hTb hMix (by kernel_rfl) (by kernel_rfl) (by kernel_rfl) ?_; conv => whnf)
    | (refine Need.mk ?_; kernel_rfl) | (refine Need.mk ⟨rfl, ?_⟩; decide)
    | (refine VR.rel hTb rfl rfl (o_isnil hTb rfl rfl rfl rfl) ?_; intro b hb; conv => whnf)
    | (refine VR.opk hTb rfl rfl (o_app0 (f := encCol) (m := l) (q := 107) hTb rfl rfl rfl rfl rfl rfl rfl rfl rfl rfl (by omega) (by show _ * 64 ≤ _; omega) (by unfold maxLen; omega)) ?_; conv => whnf)
    | (refine DT.opk hTb rfl (o_app0 (f := encCol) (m := l) (q := 107) hTb rfl rfl rfl rfl rfl rfl rfl rfl rfl rfl (by omega) (by show _ * 64 ≤ _; omega) (by unfold maxLen; omega)) ?_; conv => whnf))
  · have e := hb ‹b = true›
    have e : l = [] := by cases l with | nil => rfl | cons => simp at e
    subst e
    exact EndV.nil 2 102 7 39 rfl rfl (by decide) (endW [102] rfl rfl rfl rfl rfl (LeS.refl _) rfl rfl)
  · exact endW [107] rfl rfl rfl rfl rfl (LeS.refl _) rfl rfl
theorem c_ClipCol (l : List Col) (hl : l.length ≤ 2000000) : CallsV Tryz.prog 145 [.one (.own 0 0 l.length)] [.arr 39 7 (l.map encCol)] (funQ (.one (.own 0 0 l.length)) [some (.arr 39 7 (l.map encCol))] []) := by
  refine funF_walk hTb Tryz.func145 rfl rfl Tryz.ntmps145 (by simp) (by simp) ?_
  (conv => whnf); repeat' (first
    | (refine And.intro ?_ ?_ <;> ((try intro h) <;> (try simp only [Bool.not_true, Bool.not_false, decide_eq_true_eq, decide_eq_false_iff_not, Int.not_lt, Int.not_le, gt_iff_lt, ge_iff_le] at h) <;> first | exact absurd h Bool.false_ne_true | exact absurd h.symm Bool.false_ne_true | conv => whnf))
    | (refine VL.drawS hTb hMix (by kernel_rfl) (by kernel_rfl) (by kernel_rfl) ?_; conv => whnf)
    | (refine Need.mk ?_; kernel_rfl) | (refine Need.mk ⟨rfl, ?_⟩; decide)
    | (refine VR.op hTb rfl rfl (o_slice3_own (n1 := 0) (n2 := l.length) (n3 := l.length) hTb rfl rfl rfl rfl rfl rfl rfl bnd_none (bnd_some rfl) (bnd_some rfl) (Nat.zero_le _) (Nat.le_refl _) (Nat.le_refl _) (by simp)) rfl ?_; conv => whnf))
  exact endW [] rfl rfl rfl rfl rfl (LeS.refl _) rfl rfl
theorem c_cloneCol (l : List Col) (hl : l.length ≤ 2000000) : CallsV Tryz.prog 84 [.one (.imm 7 (l.map encCol))] [] (funQ (.one (.own 0 0 l.length)) [] [.arr 39 7 (l.map encCol)]) := by
  refine funF_walk hTb Tryz.func84 rfl rfl Tryz.ntmps84 (by simp) (by simp) ?_
  (conv => whnf); repeat' (first
    | (refine And.intro ?_ ?_ <;> ((try intro h) <;> (try simp only [Bool.not_true, Bool.not_false, decide_eq_true_eq, decide_eq_false_iff_not, Int.not_lt, Int.not_le, gt_iff_lt, ge_iff_le] at h) <;> first | exact absurd h Bool.false_ne_true | exact absurd h.symm Bool.false_ne_true | conv => whnf))
    | (refine VL.drawS hTb hMix (by kernel_rfl) (by kernel_rfl) (by kernel_rfl) ?_; conv => whnf)
    | (refine Need.mk ?_; kernel_rfl) | (refine Need.mk ⟨rfl, ?_⟩; decide)
    | (refine VR.fun hTb rfl rfl (o_funN (c_CloneCol l hl) false [] (fun h => by cases h) (by simp) rfl rfl rfl rfl rfl ⟨rfl, rfl, rfl, rfl⟩ rfl rfl) ?_; conv => whnf)
    | (refine DT.fun hTb rfl (o_funN (c_CloneCol l hl) false [] (fun h => by cases h) (by simp) rfl rfl rfl rfl rfl ⟨rfl, rfl, rfl, rfl⟩ rfl rfl) rfl ?_; conv => whnf)
    | (refine VR.fun hTb rfl rfl (o_funN (c_ClipCol l hl) false [1016] (fun h => by cases h) (by simp) rfl rfl rfl rfl rfl ⟨rfl, rfl, rfl, rfl⟩ rfl rfl) ?_; conv => whnf)
    | (refine DT.fun hTb rfl (o_funN (c_ClipCol l hl) false [1016] (fun h => by cases h) (by simp) rfl rfl rfl rfl rfl ⟨rfl, rfl, rfl, rfl⟩ rfl rfl) rfl ?_; conv => whnf))
  exact endW [1016] rfl rfl rfl rfl rfl (LeS.refl _) rfl rfl
theorem c_DeleteCol (l : List Col) (i : Nat) (hi : i < l.length) (hl : l.length ≤ 2000000) : CallsV Tryz.prog 190 [.one (.own 0 0 l.length), iS i, iS ((i + 1 : Nat) : Int)] [.arr 39 7 (l.map encCol)]
    (funQ (.one (.own 0 0 (l.length - 1))) [some (.arr 39 7 ((l.eraseIdx i ++ [zCol]).map encCol))] []) := by
  refine funF_walk hTb Tryz.func190 rfl rfl Tryz.ntmps190 (by simp) (by simp) ?_
  have hlm : (l.map encCol).length = l.length := List.length_map _
  have e1 : i + (l.length - (i + 1)) = l.length - 1 := by omega
  (conv => whnf); repeat' (first
    | (refine And.intro ?_ ?_ <;> ((try intro h) <;> (try simp only [Bool.not_true, Bool.not_false, decide_eq_true_eq, decide_eq_false_iff_not, Int.not_lt, Int.not_le, gt_iff_lt, ge_iff_le] at h) <;> first | exact absurd h Bool.false_ne_true | exact absurd h.symm Bool.false_ne_true | conv => whnf))
    | (refine VL.drawS hTb hMix (by kernel_rfl) (by kernel_rfl) (by kernel_rfl) ?_; conv => whnf)
    | (refine Need.mk ?_; kernel_rfl) | (refine Need.mk ⟨rfl, ?_⟩; decide)
    | (refine VR.op hTb rfl rfl (o_slice3_own (n1 := i) (n2 := i + 1) (n3 := l.length) hTb rfl rfl rfl rfl rfl rfl rfl (bnd_some rfl) (bnd_some rfl) (bnd_some rfl) (Nat.le_succ _) (by omega) (Nat.le_refl _) (by simp)) rfl ?_; conv => whnf)
    | (refine DT.op hTb rfl (o_slice_ownX (n1 := 0) (n2 := i) hTb rfl rfl rfl rfl rfl rfl rfl bnd_none (bnd_some rfl) (Nat.zero_le _) (by simp; omega)) rfl ?_; conv => whnf)
    | (refine DT.op hTb rfl (o_slice_ownX (n1 := i + 1) (n2 := l.length) hTb rfl rfl rfl rfl rfl rfl rfl (bnd_some rfl) bnd_none (by omega) (by simp)) rfl ?_; conv => whnf)
    | (refine DT.op hTb rfl (o_app_in (x := i) (y := i + 1) (m := l.length - (i + 1)) hTb rfl rfl rfl rfl (by simp only [Nat.sub_zero, Nat.add_zero]; rfl) rfl (by simp only [Nat.zero_add]; rfl) rfl (by simp; omega) (by simp; omega) (by simp; omega) (by show _ * 64 ≤ _; omega) (by unfold maxLen; omega)) rfl ?_; conv => whnf)
    | (refine VR.op hTb rfl rfl (o_slice_ownX (n1 := i + (l.length - (i + 1))) (n2 := l.length) hTb rfl rfl rfl rfl rfl rfl rfl (bnd_some rfl) (bnd_some rfl) (by omega) (by simp; omega)) rfl ?_; conv => whnf)
    | (refine VR.op hTb rfl rfl (o_clear hTb rfl rfl rfl rfl rfl rfl rfl rfl (by omega)) rfl ?_; conv => whnf))
  · exfalso
    have := ‹((i : Int) == ((i + 1 : Nat) : Int)) = true›
    rw [beq_iff_eq] at this
    omega
  · have hr := take_drop_erase hlm hi (encCol zCol)
    rw [← map_erase, ← List.map_singleton, ← List.map_append] at hr
    exact endW [] rfl rfl rfl rfl rfl (LeS.of_eq (congrArg (fun m => Slot.one (.own 0 0 m)) e1)) (congrArg (fun r => [some (Ob.arr 39 7 r)]) hr) rfl
end Go.Vl

namespace Go.Vl
open Go Go.RowKit Go.Proofs
set_option maxRecDepth 100000
set_option linter.unusedSimpArgs false
set_option linter.unusedVariables false
set_option linter.unnecessarySimpa false
set_option maxHeartbeats 400000

def bl (l : List UInt8) : ByteArray := ⟨l.toArray⟩
theorem lay_var {w : World} {n : String} {g : Nat} {Q : Array Value → Prop} (hg : Tryz.prog.globalNamed n = some g) (hm : (g, Q) ∈ layP) (hl : LayC w (fun _ => False)) : ∃ cs, w.var? Tryz.prog n = some cs ∧ Q cs := by
  obtain ⟨_, cs, E, m, h1, h2⟩ := hl _ hm
  exact ⟨cs, by simp [World.var?, hg, h1], h2⟩

theorem c_Itoa (n : Int) (h0 : -9223372036854775808 ≤ n) (h1 : n ≤ 9223372036854775807) : CallsV Tryz.prog 209 [iS n] [] (pureQ (strS (bl (Lib.itoa n)))) := by
  refine callsV_ext (vs := [.int .i64 n]) (ent_of Tryz.func209 rfl rfl) fun w hl => ?_
  obtain ⟨cs, hv, rfl⟩ := lay_var (n := "internal/strconv.uint64pow10") (by kernel_rfl) List.mem_cons_self hl
  refine (Tryz.strconv_Itoa n h0 h1 w hv).mono ?_
  rintro e w' ⟨rfl, k, os, rfl⟩
  exact ⟨_, rfl, ⟨rfl, rfl⟩, Lib.below_grow _ _ (Nat.le_refl _) _ _⟩
def atoiS (s : ByteArray) : Slot :=
  match Lib.atoiAll s.data.toList with
  | .ok v => .tup [(false, [.g (.int .i64 v)]), (false, [.g .nilIface])]
  | .range => .tup [(false, [.g (.int .i64 (Lib.atoiSat s.data.toList))]), (false, [.err])]
  | _ => .tup [(false, [.g (.int .i64 0)]), (false, [.err])]
theorem out_pair {x : Value} {l : Leaf} {u : Value} (hx : x.oneCell' = true) (hu : outL l u) : SRep outL (.tup [(false, [.g x]), (false, [l])]) (.tuple #[x, u]) :=
  ⟨_, rfl, ⟨.inr ⟨rfl, _, rfl, rfl, hx⟩, .inr ⟨rfl, _, rfl, hu⟩, trivial⟩⟩
theorem c_Atoi (s : ByteArray) (hs : s.size ≤ 281474976710656) : CallsV Tryz.prog 224 [strS s] [] (pureQ (atoiS s)) := by
  refine callsV_ext (vs := [.string s]) (ent_of Tryz.func224 rfl rfl) fun w hl => ?_
  unfold atoiS
  rcases h : Lib.atoiAll s.data.toList with v | _ | _
  · refine (Tryz.strconv_Atoi_ok s (by omega) v h w).mono ?_
    rintro e w' ⟨rfl, hw⟩
    refine ⟨_, rfl, out_pair rfl ⟨rfl, rfl⟩, ?_⟩
    rcases hw with rfl | ⟨t, rfl⟩
    · exact Below.refl _ _
    · exact Lib.bytesWorld_below _ _ _
  · obtain ⟨cs, hv, tp, p, rfl⟩ := lay_var (n := "strconv.ErrSyntax") (by kernel_rfl) (List.mem_cons_of_mem _ List.mem_cons_self) hl
    refine (Any.strconv_Atoi_syntax_var Tryz.laysAtoi s hs h tp p w hv).mono ?_
    rintro e w' ⟨N, rfl, _, _, hb⟩
    exact ⟨_, rfl, out_pair rfl ⟨_, _, rfl⟩, hb⟩
  · obtain ⟨cs, hv, tp, p, rfl⟩ := lay_var (n := "strconv.ErrRange") (by kernel_rfl) (List.mem_cons_of_mem _ (List.mem_cons_of_mem _ List.mem_cons_self)) hl
    refine (Tryz.strconv_Atoi_range_var s hs h tp p w hv).mono ?_
    rintro e w' ⟨N, rfl, _, _, hb⟩
    exact ⟨_, rfl, out_pair rfl ⟨_, _, rfl⟩, hb⟩
end Go.Vl

namespace Go.Vl
open Go Go.RowKit Go.Proofs
set_option maxRecDepth 100000
set_option linter.unusedSimpArgs false
set_option linter.unusedVariables false
set_option linter.unnecessarySimpa false
set_option maxHeartbeats 800000

theorem bl_app (a b : List UInt8) : bl (a ++ b) = bl a ++ bl b := by
  apply ByteArray.ext; simp [bl]
theorem bl_one (n : Nat) (h : n < 10) : bsOf [IntKind.u8.wrap (IntKind.i64.wrap (48 + (n : Int)))] = bl [UInt8.ofNat (48 + n)] := by
  have : IntKind.u8.wrap (IntKind.i64.wrap (48 + (n : Int))) = ((48 + n : Nat) : Int) := by
    rw [IntKind.wrap_i64, IntKind.wrap_u8]; omega
  rw [this]; rfl
def decB (n : Nat) : ByteArray := bl (Lib.decDigits n)
theorem decB_step {n : Nat} (h : ¬ n < 10) : decB n = decB (n / 10) ++ bl [UInt8.ofNat (48 + n % 10)] := by
  unfold decB; rw [Lib.decDigits, dif_neg h, bl_app]
theorem decB_end {n : Nat} (h : n < 10) : decB n = bl [UInt8.ofNat (48 + n)] := by
  unfold decB; rw [Lib.decDigits, dif_pos h]
theorem decB_size (n : Nat) : (decB n).size = Lib.nDigits n := by
  rw [← Lib.decDigits_length]; simp [decB, bl, ByteArray.size]
theorem c_l10DecN (n : Nat) (hn : (n : Int) ≤ 9223372036854775807) : CallsV Tryz.prog 222 [iS n] [] (pureQ (strS (decB n))) := by
  refine pure_walk hTb Tryz.func222 rfl rfl Tryz.ntmps222 (by simp) ?_
  (conv => whnf); repeat' (first
    | (refine And.intro ?_ ?_ <;> ((try intro h) <;> (try simp only [Bool.not_true, Bool.not_false, decide_eq_true_eq, decide_eq_false_iff_not, Int.not_lt, Int.not_le, gt_iff_lt, ge_iff_le] at h) <;> first | exact absurd h Bool.false_ne_true | exact absurd h.symm Bool.false_ne_true | conv => whnf))
    | (refine VL.drawS hTb hMix (by kernel_rfl) (by kernel_rfl) (by kernel_rfl) ?_; conv => whnf)
    | (refine Need.mk ?_; kernel_rfl) | (refine Need.mk ⟨rfl, ?_⟩; decide)
    | ((exfalso; omega)))
  refine VL.loopI hTb (α := Nat × ByteArray) (fun x => x.1 ≤ n ∧ decB x.1 ++ x.2 = decB n) (fun x => ⟨[(0, iS x.1), (3, strS x.2)], [], []⟩) (fun x => x.1) (n, ⟨#[]⟩) ⟨Nat.le_refl _, ByteArray.ext (by simp)⟩
    (wk_to [] rfl rfl rfl ⟨rfl, rfl, trivial⟩ trivial) (fun x hx => ?_)
  obtain ⟨m, out⟩ := x
  obtain ⟨hm, he⟩ := hx
  simp only at hm he
  (conv => whnf); repeat' (first
    | (refine And.intro ?_ ?_ <;> ((try intro h) <;> (try simp only [Bool.not_true, Bool.not_false, decide_eq_true_eq, decide_eq_false_iff_not, Int.not_lt, Int.not_le, gt_iff_lt, ge_iff_le] at h) <;> first | exact absurd h Bool.false_ne_true | exact absurd h.symm Bool.false_ne_true | conv => whnf))
    | (refine VL.drawS hTb hMix (by kernel_rfl) (by kernel_rfl) (by kernel_rfl) ?_; conv => whnf)
    | (refine Need.mk ?_; kernel_rfl) | (refine Need.mk ⟨rfl, ?_⟩; decide)
    | ((exfalso; omega))
    | ((refine VR.op hTb rfl rfl (o_conv_bytes (ns := [_]) hTb rfl rfl rfl rfl rfl rfl rfl rfl rfl (by simp)) rfl ?_; conv => whnf)))
  · have h1 := congrArg ByteArray.size he
    rw [ByteArray.size_append, decB_size, decB_size] at h1
    have h2 := Lib.nDigits_le20 n (by omega)
    refine Need.mk ?_
    rw [bsOf_size]
    simp only [List.length_cons, List.length_nil]
    omega
  · have e1 : (m : Int).tmod 10 = ((m % 10 : Nat) : Int) := rfl
    have e0 : (m : Int).tdiv 10 = ((m / 10 : Nat) : Int) := rfl
    have e2 : IntKind.i64.wrap ((m : Int).tdiv 10) = ((m / 10 : Nat) : Int) := by rw [e0, IntKind.wrap_i64]; omega
    have e3 := bl_one (m % 10) (by omega)
    rw [← e1] at e3
    refine ⟨(m / 10, bsOf [IntKind.u8.wrap (IntKind.i64.wrap (48 + (m : Int).tmod 10))] ++ out), ⟨by omega, ?_⟩, by show m / 10 < m; omega, wk_to [] rfl rfl rfl ⟨congrArg (fun x => Slot.one (.g (.int .i64 x))) e2, rfl, trivial⟩ trivial⟩
    show decB (m / 10) ++ (_ ++ out) = decB n
    rw [e3, ← ByteArray.append_assoc, ← decB_step (by omega), he]
  · have h1 := congrArg ByteArray.size he
    rw [ByteArray.size_append, decB_size, decB_size] at h1
    have h2 := Lib.nDigits_le20 n (by omega)
    refine Need.mk ?_
    rw [bsOf_size]
    simp only [List.length_cons, List.length_nil]
    omega
  · have e3 := bl_one m (by omega)
    show strS (bsOf [IntKind.u8.wrap (IntKind.i64.wrap (48 + (m : Int)))] ++ out) = strS (decB n)
    rw [e3, ← decB_end (by omega), he]
theorem c_l10Dec (n : Int) (h0 : -9223372036854775807 ≤ n) (h1 : n ≤ 9223372036854775807) : CallsV Tryz.prog 222 [iS n] [] (pureQ (strS (bl (Lib.itoa n)))) := by
  by_cases hneg : n < 0
  · obtain ⟨u, rfl⟩ : ∃ u : Nat, n = -(u : Int) := ⟨n.natAbs, by omega⟩
    have hc := c_l10DecN u (by omega)
    have e1 : IntKind.i64.wrap (0 - (-(u : Int))) = u := by rw [IntKind.wrap_i64]; omega
    rw [Lib.itoa_neg u (by omega)]
    refine pure_walk hTb Tryz.func222 rfl rfl Tryz.ntmps222 (by simp) ?_
    (conv => whnf); repeat' (first
    | (refine And.intro ?_ ?_ <;> ((try intro h) <;> (try simp only [Bool.not_true, Bool.not_false, decide_eq_true_eq, decide_eq_false_iff_not, Int.not_lt, Int.not_le, gt_iff_lt, ge_iff_le] at h) <;> first | exact absurd h Bool.false_ne_true | exact absurd h.symm Bool.false_ne_true | conv => whnf))
    | (refine VL.drawS hTb hMix (by kernel_rfl) (by kernel_rfl) (by kernel_rfl) ?_; conv => whnf)
    | (refine Need.mk ?_; kernel_rfl) | (refine Need.mk ⟨rfl, ?_⟩; decide)
    | ((exfalso; omega))
    | ((refine VR.pure hTb rfl rfl (o_purN (e1 ▸ hc) rfl rfl rfl ⟨rfl, rfl, rfl, rfl⟩ rfl) ?_; conv => whnf)))
    · have h2 := Lib.nDigits_le20 u (by omega)
      refine Need.mk ?_
      rw [decB_size]
      show 1 + _ ≤ _
      omega
    · show strS (bl [45] ++ bl (Lib.decDigits u)) = strS (bl (45 :: Lib.decDigits u))
      rw [← bl_app]; rfl
  · obtain ⟨u, rfl⟩ : ∃ u : Nat, n = u := ⟨n.toNat, by omega⟩
    rw [Lib.itoa_nonneg]
    exact c_l10DecN u (by omega)
end Go.Vl

namespace Go.Vl
open Go Go.RowKit Go.Proofs
set_option maxRecDepth 100000
set_option linter.unusedSimpArgs false
set_option linter.unusedVariables false
set_option linter.unnecessarySimpa false
set_option maxHeartbeats 800000

theorem valOk_text {v : Val} (h : valOk v = true) (hk : v.k = 2) : v.t.size ≤ 4 := by
  simp [valOk, hk, textOk] at h; omega
theorem valOk_kind {v : Val} (h : valOk v = true) : v.k = 0 ∨ v.k = 1 ∨ v.k = 2 := by
  unfold valOk at h; split at h; exact .inl ‹_›; split at h; exact .inr (.inl ‹_›); split at h; exact .inr (.inr ‹_›); cases h
end Go.Vl

/- Contracts: what the reader draws: columns, shapes. -/
import Derived.Test.YtegjajojckbkjaaDoorDb
import Derived.Test.YtegjajojckbkjaaDoorWi
import Derived.Test.YtegjajojckbkjaaDoorCe
namespace Go.Vl
open Go Go.RowKit Go.Proofs
set_option maxRecDepth 100000
set_option linter.unusedSimpArgs false
set_option linter.unusedVariables false
set_option maxHeartbeats 2000000

def Val.sml (v : Val) : Prop := v.t.size ≤ 8
def Col.sml (c : Col) : Prop := c.name.size ≤ 8 ∧ c.d.t.size ≤ 8
theorem Col.sml.ok {c : Col} (h : c.sml) : c.ok := ⟨by have := h.1; unfold maxLen; omega, by have := h.2; unfold maxLen; omega⟩
def smlCols (l : List Col) : Prop := ∀ x ∈ l, x.sml

theorem c_l2Names : CallsV Tryd.prog 82 [] [] (relQ (fun rows : List (List Leaf) => strRows (fun t => t.size ≤ 8) rows ∧ 0 < rows.length) (fun rows => .one (.imm 1 rows)) (fun _ => []) (fun _ => [])) := by
  refine funF_walk hTb Tryd.func82 rfl rfl Tryd.ntmps82 (by simp) (by simp) ?_
  (conv => whnf); repeat' (first | (refine And.intro ?_ ?_ <;> ((try intro h) <;> (try simp only [Bool.not_true, Bool.not_false] at h) <;> first | exact absurd h Bool.false_ne_true | exact absurd h.symm Bool.false_ne_true | conv => whnf)) | (refine Need.mk ?_; kernel_rfl) | (refine Need.mk ⟨rfl, ?_⟩; decide))
  exact endR [] _ rfl rfl rfl rfl rfl (LeS.refl _) rfl rfl ⟨by simp [strRows]; decide, by decide⟩
theorem c_l2Col {bs : List Int} (hb : BOk bs) (p : Nat) (s : ByteArray) (hs : s.size ≤ 8) (hp : p ≤ 1099511500000) : CallsV Tryd.prog 80 [rdS, .one (.g (.string s))] [rdO bs p]
    (relQ (fun y : Col × Nat => y.1.name = s ∧ y.1.d.t.size ≤ 8 ∧ y.2 ≤ p + 5) (fun y => .agg (encCol y.1)) (fun y => [some (rdO bs y.2)]) (fun _ => [])) := by
  have e0 := bs0
  refine funF_walk hTb Tryd.func80 rfl rfl Tryd.ntmps80 (by simp) (by simp) ?_
  (conv => whnf); repeat' (first
    | (refine And.intro ?_ ?_ <;> ((try intro h) <;> (try simp only [Bool.not_true, Bool.not_false, decide_eq_true_eq, decide_eq_false_iff_not, Int.not_lt, Int.not_le, gt_iff_lt, ge_iff_le] at h) <;> first | exact absurd h Bool.false_ne_true | exact absurd h.symm Bool.false_ne_true | conv => whnf))
    | (refine VL.drawS hTb hMix (by kernel_rfl) (by kernel_rfl) (by kernel_rfl) ?_; conv => whnf)
    | (refine Need.mk ?_; kernel_rfl) | (refine Need.mk ⟨rfl, ?_⟩; decide)
    | (refine VR.rel hTb rfl rfl (o_relN (c_pick hb _ _ (by omega)) false [0] (fun _ _ => ⟨by simp, fun h => by cases h⟩) rfl rfl rfl rfl rfl ⟨rfl, rfl, rfl, rfl⟩ rfl rfl) ?_; intro y hy; conv => whnf)
    | (refine DT.rel hTb rfl (o_relN (c_pick hb _ _ (by omega)) false [0] (fun _ _ => ⟨by simp, fun h => by cases h⟩) rfl rfl rfl rfl rfl ⟨rfl, rfl, rfl, rfl⟩ rfl rfl) [0] (by kernel_rfl) (by kernel_rfl) ?_; intro y hy; refine And.intro rfl (And.intro rfl ?_); conv => whnf)
    | (refine VR.rel hTb rfl rfl (o_relN (c_l1Some hb _ _ (by omega)) false [0] (fun _ _ => ⟨by simp, fun h => by cases h⟩) rfl rfl rfl rfl rfl ⟨rfl, rfl, rfl, rfl⟩ rfl rfl) ?_; rintro ⟨⟨k, n, t⟩, q⟩ hy; (try simp only at hy); conv => whnf)
    | (refine DT.rel hTb rfl (o_relN (c_l1Some hb _ _ (by omega)) false [0] (fun _ _ => ⟨by simp, fun h => by cases h⟩) rfl rfl rfl rfl rfl ⟨rfl, rfl, rfl, rfl⟩ rfl rfl) [0] (by kernel_rfl) (by kernel_rfl) ?_; rintro ⟨⟨k, n, t⟩, q⟩ hy; (try simp only at hy); refine And.intro rfl (And.intro rfl ?_); conv => whnf))
  all_goals exact endR [] (⟨_, _, _, _, ⟨_, _, _⟩⟩, _) rfl rfl rfl rfl rfl (LeS.refl _) rfl rfl ⟨rfl, (by first | omega | decide | (simp_all; done) | (simp_all; omega)), (by first | omega | decide | (simp_all; done) | (simp_all; omega))⟩

theorem zcol : encCol ⟨⟨#[]⟩, 0, false, false, ⟨0, 0, ⟨#[]⟩⟩⟩ = [.g (.string ⟨#[]⟩), .g (.int .i64 0), .g (.bool false), .g (.bool false), .g (.int .i64 0), .g (.int .i64 0), .g (.string ⟨#[]⟩)] := rfl

theorem c_l2Shape {bs : List Int} (hb : BOk bs) (p : Nat) (hp : p ≤ 1099511400000) : CallsV Tryd.prog 52 [rdS] [rdO bs p]
    (relQ (fun y : List Col × Nat => smlCols y.1 ∧ 1 ≤ y.1.length ∧ y.1.length ≤ 4 ∧ y.2 ≤ p + 25) (fun y => colsI y.1) (fun y => [some (rdO bs y.2)]) (fun _ => [])) := by
  refine funF_walk hTb Tryd.func52 rfl rfl Tryd.ntmps52 (by simp) (by simp) ?_
  (conv => whnf); repeat' (first
    | (refine And.intro ?_ ?_ <;> ((try intro h) <;> (try simp only [Bool.not_true, Bool.not_false, decide_eq_true_eq, decide_eq_false_iff_not, Int.not_lt, Int.not_le, gt_iff_lt, ge_iff_le] at h) <;> first | exact absurd h Bool.false_ne_true | exact absurd h.symm Bool.false_ne_true | conv => whnf))
    | (refine VL.drawS hTb hMix (by kernel_rfl) (by kernel_rfl) (by kernel_rfl) ?_; conv => whnf)
    | (refine Need.mk ?_; kernel_rfl) | (refine Need.mk ⟨rfl, ?_⟩; decide)
    | (refine VR.rel hTb rfl rfl (o_relN (c_pick hb _ _ (by omega)) false [0] (fun _ _ => ⟨by simp, fun h => by cases h⟩) rfl rfl rfl rfl rfl ⟨rfl, rfl, rfl, rfl⟩ rfl rfl) ?_; intro y hy; conv => whnf)
    | (refine DT.rel hTb rfl (o_relN (c_pick hb _ _ (by omega)) false [0] (fun _ _ => ⟨by simp, fun h => by cases h⟩) rfl rfl rfl rfl rfl ⟨rfl, rfl, rfl, rfl⟩ rfl rfl) [0] (by kernel_rfl) (by kernel_rfl) ?_; intro y hy; refine And.intro rfl (And.intro rfl ?_); conv => whnf))
  have e1 : IntKind.i64.wrap (1 + y) = 1 + y := by rw [IntKind.wrap_i64]; omega
  rw [e1]
  -- rounds left, columns so far, the reader's place
  refine VL.loopI hTb (fun (⟨k, cs, q⟩ : Nat × List Col × Nat) => k ≤ 4 ∧ smlCols cs ∧ cs.length + k ≤ 4 ∧ (cs = [] → 1 ≤ k) ∧ q + 6 * k ≤ p + 25)
    (fun ⟨k, cs, q⟩ => ⟨[(0, rdS), (3, .one (.own 106 0 cs.length)), (4, iS k)], [(0, rdO bs q), (106, .arr 31 7 (cs.map encCol))], []⟩) (fun x => x.1) (1 + y.toNat, [], p + 1) ⟨by omega, (fun x hx => by cases hx), by simp; omega, fun _ => by omega, by omega⟩
    (wk_to [(0, 0), (106, 106)] rfl rfl rfl ⟨rfl, rfl, congrArg (fun x => Slot.one (.g (.int .i64 x))) (by omega), trivial⟩ ⟨rfl, ⟨_, rfl, rfl⟩, rfl, ⟨_, rfl, rfl⟩, trivial⟩) (fun x hx => ?_)
  obtain ⟨k, cs, q⟩ := x
  obtain ⟨i1, i2, i3, i4, i5⟩ := hx
  (conv => whnf); repeat' (first
    | (refine And.intro ?_ ?_ <;> ((try intro h) <;> (try simp only [Bool.not_true, Bool.not_false, decide_eq_true_eq, decide_eq_false_iff_not, Int.not_lt, Int.not_le, gt_iff_lt, ge_iff_le] at h) <;> first | exact absurd h Bool.false_ne_true | exact absurd h.symm Bool.false_ne_true | conv => whnf))
    | (refine VL.drawS hTb hMix (by kernel_rfl) (by kernel_rfl) (by kernel_rfl) ?_; conv => whnf)
    | (refine Need.mk ?_; kernel_rfl) | (refine Need.mk ⟨rfl, ?_⟩; decide)
    | (refine VR.rel hTb rfl rfl (o_relN (c_l2Names) false [] (fun _ _ => ⟨by simp, fun h => by cases h⟩) rfl rfl rfl rfl rfl ⟨rfl, rfl, rfl, rfl⟩ rfl rfl) ?_; rintro rows hrows; (try simp only at hrows); conv => whnf)
    | (refine DT.rel hTb rfl (o_relN (c_l2Names) false [] (fun _ _ => ⟨by simp, fun h => by cases h⟩) rfl rfl rfl rfl rfl ⟨rfl, rfl, rfl, rfl⟩ rfl rfl) [] (by kernel_rfl) (by kernel_rfl) ?_; rintro rows hrows; (try simp only at hrows); refine And.intro rfl (And.intro rfl ?_); conv => whnf)
    | (refine VR.rel hTb rfl rfl (o_relN (c_ofI hb _ _ (fun t => t.size ≤ 8) hrows.1 hrows.2 (by omega)) false [0] (fun _ _ => ⟨by simp, fun h => by cases h⟩) rfl rfl rfl rfl rfl ⟨rfl, rfl, rfl, rfl⟩ rfl rfl) ?_; rintro nm hnm; (try simp only at hnm); conv => whnf)
    | (refine DT.rel hTb rfl (o_relN (c_ofI hb _ _ (fun t => t.size ≤ 8) hrows.1 hrows.2 (by omega)) false [0] (fun _ _ => ⟨by simp, fun h => by cases h⟩) rfl rfl rfl rfl rfl ⟨rfl, rfl, rfl, rfl⟩ rfl rfl) [0] (by kernel_rfl) (by kernel_rfl) ?_; rintro nm hnm; (try simp only at hnm); refine And.intro rfl (And.intro rfl ?_); conv => whnf)
    | (refine VR.rel hTb rfl rfl (o_relN (c_l2Col hb _ _ hnm (by omega)) false [0] (fun _ _ => ⟨by simp, fun h => by cases h⟩) rfl rfl rfl rfl rfl ⟨rfl, rfl, rfl, rfl⟩ rfl rfl) ?_; rintro ⟨⟨cn, ck, c1, c2, ⟨c3, c4, c5⟩⟩, q2⟩ hc; (try simp only at hc); conv => whnf)
    | (refine DT.rel hTb rfl (o_relN (c_l2Col hb _ _ hnm (by omega)) false [0] (fun _ _ => ⟨by simp, fun h => by cases h⟩) rfl rfl rfl rfl rfl ⟨rfl, rfl, rfl, rfl⟩ rfl rfl) [0] (by kernel_rfl) (by kernel_rfl) ?_; rintro ⟨⟨cn, ck, c1, c2, ⟨c3, c4, c5⟩⟩, q2⟩ hc; (try simp only at hc); refine And.intro rfl (And.intro rfl ?_); conv => whnf)
    | (refine VR.pure hTb rfl rfl (o_purN (c_l2At cs _ (by unfold maxLen; omega)) rfl rfl rfl ⟨rfl, rfl, rfl, rfl⟩ (congrArg (fun s => [s, _]) brw)) ?_; conv => whnf)
    | (refine DT.pure hTb rfl (o_purN (c_l2At cs _ (by unfold maxLen; omega)) rfl rfl rfl ⟨rfl, rfl, rfl, rfl⟩ (congrArg (fun s => [s, _]) brw)) ?_; conv => whnf)
    | (refine VR.pure hTb rfl rfl (o_purN (c_l2At cs _ (by unfold maxLen; omega)) rfl rfl rfl ⟨rfl, rfl, rfl, rfl⟩ (congrArg (fun s => [s, _]) brw')) ?_; conv => whnf)
    | (refine DT.pure hTb rfl (o_purN (c_l2At cs _ (by unfold maxLen; omega)) rfl rfl rfl ⟨rfl, rfl, rfl, rfl⟩ (congrArg (fun s => [s, _]) brw')) ?_; conv => whnf)
    | (refine VR.pure hTb rfl rfl (o_purN (c_l2At cs _ (by unfold maxLen; omega)) rfl rfl rfl ⟨rfl, rfl, rfl, rfl⟩ (congrArg (fun s => [s, _]) (brwG (by simp)))) ?_; conv => whnf)
    | (refine DT.pure hTb rfl (o_purN (c_l2At cs _ (by unfold maxLen; omega)) rfl rfl rfl ⟨rfl, rfl, rfl, rfl⟩ (congrArg (fun s => [s, _]) (brwG (by simp)))) ?_; conv => whnf))
  · refine VR.opk hTb rfl rfl (o_app1 (q := 127) (a := ⟨cn, ck, c1, c2, ⟨c3, c4, c5⟩⟩) hTb rfl rfl rfl rfl rfl rfl rfl rfl rfl rfl rfl rfl (by omega) (by show _ * 64 ≤ _; omega) (by unfold maxLen; omega)) ?_
    (conv => whnf); repeat' (first | (refine And.intro ?_ ?_ <;> ((try intro h) <;> (try simp only [Bool.not_true, Bool.not_false] at h) <;> first | exact absurd h Bool.false_ne_true | exact absurd h.symm Bool.false_ne_true | conv => whnf)) | (refine Need.mk ?_; kernel_rfl) | (refine Need.mk ⟨rfl, ?_⟩; decide))
    refine ⟨(k - 1, cs ++ [⟨cn, ck, c1, c2, ⟨c3, c4, c5⟩⟩], q2), ⟨by omega, ?_, by simp; omega, fun h => by simp at h, by omega⟩, by show k - 1 < k; omega,
      wk_to [(0, 0), (127, 106)] rfl rfl rfl ⟨rfl, congrArg (fun n => Slot.one (.own 106 0 n)) (by simp), congrArg (fun x => Slot.one (.g (.int .i64 x))) (by rw [IntKind.wrap_i64]; omega), trivial⟩ ⟨rfl, ⟨_, rfl, rfl⟩, rfl, ⟨_, rfl, rfl⟩, trivial⟩⟩
    intro x hx
    rcases List.mem_append.1 hx with hx | hx
    · exact i2 x hx
    · simp at hx; subst hx; exact ⟨by have := hc.1; simp only; rw [this]; exact hnm, hc.2.1⟩
  · refine ⟨(k - 1, cs, q2), ⟨by omega, i2, by omega, fun h0 => ?_, by omega⟩, by show k - 1 < k; omega,
      wk_to [(0, 0), (106, 106)] rfl rfl rfl ⟨rfl, rfl, congrArg (fun x => Slot.one (.g (.int .i64 x))) (by rw [IntKind.wrap_i64]; omega), trivial⟩ ⟨rfl, ⟨_, rfl, rfl⟩, rfl, ⟨_, rfl, rfl⟩, trivial⟩⟩
    exfalso
    subst h0
    have e : nameAt [] cn = -1 := rfl
    rw [e] at h
    simp at h
  · have hk : k = 0 := by simp at h; omega
    have hn : cs ≠ [] := fun h0 => by have := i4 h0; omega
    exact endR [] (cs, q) rfl rfl rfl rfl rfl (LeS.of_eq brw) rfl rfl ⟨i2, List.length_pos_iff.2 hn, (by show cs.length ≤ 4; omega), (by show q ≤ p + 25; omega)⟩

theorem smlCols.set {l : List Col} (h : smlCols l) {i : Nat} {c : Col} (hc : c.sml) : smlCols (l.set i c) := by
  intro x hx
  rcases List.mem_or_eq_of_mem_set hx with hx | rfl
  · exact h x hx
  · exact hc
theorem smlCols.app {l : List Col} (h : smlCols l) {c : Col} (hc : c.sml) : smlCols (l ++ [c]) := by
  intro x hx
  rcases List.mem_append.1 hx with hx | hx
  · exact h x hx
  · simp at hx; subst hx; exact hc
theorem c_l2Bent {bs : List Int} (hb : BOk bs) (p : Nat) (l : List Col) (hl : smlCols l) (hn : l.length ≤ 1000) (hp : p ≤ 1099511300000) : CallsV Tryd.prog 54 [rdS, colsI l] [rdO bs p]
    (relQ (fun y : List Col × Nat => smlCols y.1 ∧ y.1.length ≤ l.length + 1 ∧ y.2 ≤ p + 10) (fun y => colsI y.1) (fun y => [some (rdO bs y.2)]) (fun _ => [])) := by
  refine funF_walk hTb Tryd.func54 rfl rfl Tryd.ntmps54 (by simp) (by simp) ?_
  (conv => whnf); repeat' (first | (refine And.intro ?_ ?_ <;> ((try intro h) <;> (try simp only [Bool.not_true, Bool.not_false] at h) <;> first | exact absurd h Bool.false_ne_true | exact absurd h.symm Bool.false_ne_true | conv => whnf)) | (refine Need.mk ?_; kernel_rfl) | (refine Need.mk ⟨rfl, ?_⟩; decide))
  refine VR.opk hTb rfl rfl (o_app0 (f := encCol) (m := l) (q := 109) hTb rfl rfl rfl rfl rfl rfl rfl rfl rfl rfl (by omega) (by show _ * 64 ≤ _; omega) (by unfold maxLen; omega)) ?_
  (conv => whnf); repeat' (first | (refine And.intro ?_ ?_ <;> ((try intro h) <;> (try simp only [Bool.not_true, Bool.not_false] at h) <;> first | exact absurd h Bool.false_ne_true | exact absurd h.symm Bool.false_ne_true | conv => whnf)) | (refine Need.mk ?_; kernel_rfl) | (refine Need.mk ⟨rfl, ?_⟩; decide))
  · exact endR [] (l, p) rfl rfl rfl rfl rfl (LeS.of_eq (brwG (by simp))) rfl rfl ⟨hl, by simp, by simp⟩
  have hpos : 0 < l.length := by simp at h; exact List.length_pos_iff.2 h
  clear h
  have e0 := bs0
  (conv => whnf); repeat' (first
    | (refine And.intro ?_ ?_ <;> ((try intro h) <;> (try simp only [Bool.not_true, Bool.not_false, decide_eq_true_eq, decide_eq_false_iff_not, Int.not_lt, Int.not_le, gt_iff_lt, ge_iff_le] at h) <;> first | exact absurd h Bool.false_ne_true | exact absurd h.symm Bool.false_ne_true | conv => whnf))
    | (refine VL.drawS hTb hMix (by kernel_rfl) (by kernel_rfl) (by kernel_rfl) ?_; conv => whnf)
    | (refine Need.mk ?_; kernel_rfl) | (refine Need.mk ⟨rfl, ?_⟩; decide)
    | (refine VR.rel hTb rfl rfl (o_relN (c_pick hb _ (l.length : Int) (by omega)) false [0] (fun _ _ => ⟨by simp, fun h => by cases h⟩) rfl rfl rfl rfl rfl ⟨rfl, rfl, rfl, rfl⟩ rfl rfl) ?_; rintro k hk; (try simp only at hk); conv => whnf)
    | (refine DT.rel hTb rfl (o_relN (c_pick hb _ (l.length : Int) (by omega)) false [0] (fun _ _ => ⟨by simp, fun h => by cases h⟩) rfl rfl rfl rfl rfl ⟨rfl, rfl, rfl, rfl⟩ rfl rfl) [0] (by kernel_rfl) (by kernel_rfl) ?_; rintro k hk; (try simp only at hk); refine And.intro rfl (And.intro rfl ?_); conv => whnf)
    | (refine VR.rel hTb rfl rfl (o_relN (c_pick hb _ 60 (by omega)) false [0] (fun _ _ => ⟨by simp, fun h => by cases h⟩) rfl rfl rfl rfl rfl ⟨rfl, rfl, rfl, rfl⟩ rfl rfl) ?_; rintro w hw; (try simp only at hw); conv => whnf)
    | (refine DT.rel hTb rfl (o_relN (c_pick hb _ 60 (by omega)) false [0] (fun _ _ => ⟨by simp, fun h => by cases h⟩) rfl rfl rfl rfl rfl ⟨rfl, rfl, rfl, rfl⟩ rfl rfl) [0] (by kernel_rfl) (by kernel_rfl) ?_; rintro w hw; (try simp only at hw); refine And.intro rfl (And.intro rfl ?_); conv => whnf)
    | (refine VR.rel hTb rfl rfl (o_relN (c_of hb _ _ _ (fun t => t.size ≤ 8) (by simp [strRows]; decide) (by simp) (by omega)) false [0, 125] (fun _ _ => ⟨by simp, fun h => by cases h⟩) rfl rfl rfl rfl rfl ⟨rfl, rfl, rfl, rfl⟩ rfl rfl) ?_; rintro nm hnm; (try simp only at hnm); conv => whnf)
    | (refine DT.rel hTb rfl (o_relN (c_of hb _ _ _ (fun t => t.size ≤ 8) (by simp [strRows]; decide) (by simp) (by omega)) false [0, 125] (fun _ _ => ⟨by simp, fun h => by cases h⟩) rfl rfl rfl rfl rfl ⟨rfl, rfl, rfl, rfl⟩ rfl rfl) [0, 125] (by kernel_rfl) (by kernel_rfl) ?_; rintro nm hnm; (try simp only at hnm); refine And.intro rfl (And.intro rfl ?_); conv => whnf)
    | (refine VR.rel hTb rfl rfl (o_relN (c_num hb _ _ _ (fun _ => True) (by simp [intRows]) (by simp) (by omega)) false [0, 134] (fun _ _ => ⟨by simp, fun h => by cases h⟩) rfl rfl rfl rfl rfl ⟨rfl, rfl, rfl, rfl⟩ rfl rfl) ?_; rintro nb hnb; (try simp only at hnb); conv => whnf)
    | (refine DT.rel hTb rfl (o_relN (c_num hb _ _ _ (fun _ => True) (by simp [intRows]) (by simp) (by omega)) false [0, 134] (fun _ _ => ⟨by simp, fun h => by cases h⟩) rfl rfl rfl rfl rfl ⟨rfl, rfl, rfl, rfl⟩ rfl rfl) [0, 134] (by kernel_rfl) (by kernel_rfl) ?_; rintro nb hnb; (try simp only at hnb); refine And.intro rfl (And.intro rfl ?_); conv => whnf)
    | (refine VR.rel hTb rfl rfl (o_relN (c_l1Draw hb _ (by omega)) false [0] (fun _ _ => ⟨by simp, fun h => by cases h⟩) rfl rfl rfl rfl rfl ⟨rfl, rfl, rfl, rfl⟩ rfl rfl) ?_; rintro ⟨⟨vk, vn, vt⟩, q⟩ hv; (try simp only at hv); conv => whnf)
    | (refine DT.rel hTb rfl (o_relN (c_l1Draw hb _ (by omega)) false [0] (fun _ _ => ⟨by simp, fun h => by cases h⟩) rfl rfl rfl rfl rfl ⟨rfl, rfl, rfl, rfl⟩ rfl rfl) [0] (by kernel_rfl) (by kernel_rfl) ?_; rintro ⟨⟨vk, vn, vt⟩, q⟩ hv; (try simp only at hv); refine And.intro rfl (And.intro rfl ?_); conv => whnf)
    | (refine Need.mk ?_; exact ⟨rfl, by omega, by omega⟩)
    | (refine VR.op hTb rfl rfl (o_storeM hTb rfl rfl rfl rfl rfl (List.getElem?_eq_getElem (show 0 + k.toNat < l.length by omega)) rfl rfl rfl ⟨rfl, by decide⟩ (c' := ⟨_, _, _, _, ⟨_, _, _⟩⟩) rfl) rfl ?_; conv => whnf)
    | (refine DT.op hTb rfl (o_storeM hTb rfl rfl rfl rfl rfl (List.getElem?_eq_getElem (show 0 + k.toNat < l.length by omega)) rfl rfl rfl ⟨rfl, by decide⟩ (c' := ⟨_, _, _, _, ⟨_, _, _⟩⟩) rfl) rfl ?_; conv => whnf)
    | (refine VR.op hTb rfl rfl (o_loadM hTb rfl rfl rfl rfl (List.getElem?_eq_getElem (show 0 + k.toNat < l.length by omega)) ⟨by decide, by decide⟩) rfl ?_; conv => whnf)
    | (refine DT.op hTb rfl (o_loadM hTb rfl rfl rfl rfl (List.getElem?_eq_getElem (show 0 + k.toNat < l.length by omega)) ⟨by decide, by decide⟩) rfl ?_; conv => whnf)
    | (refine VR.opk hTb rfl rfl (o_app1 (q := 154) (a := ⟨_, _, _, _, ⟨_, _, _⟩⟩) hTb rfl rfl rfl rfl rfl rfl rfl rfl rfl rfl rfl rfl (by omega) (by show _ * 64 ≤ _; omega) (by unfold maxLen; omega)) ?_; conv => whnf)
    | (refine DT.opk hTb rfl (o_app1 (q := 154) (a := ⟨_, _, _, _, ⟨_, _, _⟩⟩) hTb rfl rfl rfl rfl rfl rfl rfl rfl rfl rfl rfl rfl (by omega) (by show _ * 64 ≤ _; omega) (by unfold maxLen; omega)) ?_; conv => whnf))
  all_goals
    have hke : 0 + k.toNat < l.length := by omega
    have hcs : (l[0 + k.toNat]).sml := hl _ (List.getElem_mem hke)
    first
      | refine endR [] (_, _) rfl rfl rfl rfl rfl (LeS.of_eq (brwG (by simp))) rfl rfl ⟨?_, ?_, ?_⟩
      | refine endR [] ([], _) rfl rfl rfl rfl rfl (LeS.refl _) rfl rfl ⟨?_, ?_, ?_⟩
  all_goals first
    | exact hl
    | exact smlCols.set hl ⟨hcs.1, hcs.2⟩
    | exact smlCols.set hl ⟨hnm, hcs.2⟩
    | exact smlCols.set hl ⟨hcs.1, hv.1⟩
    | exact smlCols.app hl ⟨hcs.1, hcs.2⟩
    | (intro x hx; cases hx; done)
    | (simp only [List.length_set, List.length_append, List.length_cons, List.length_nil]; omega)
    | omega
end Go.Vl

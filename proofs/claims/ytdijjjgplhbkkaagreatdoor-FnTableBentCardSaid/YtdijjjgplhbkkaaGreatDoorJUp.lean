/- Contracts: tables drawn: values by name, one act, a table. Laws of values: what their functions compute. Contracts: tables drawn: one act, a table. Generic: rows that hold rows of their own: built of one, appended. -/
import Derived.Test.YtdijjjgplhbkkaaGreatDoorJUo
import Derived.Test.YtdijjjgplhbkkaaGreatDoorJUd
import Derived.Test.YtdijjjgplhbkkaaGreatDoorJUj
import Derived.Test.YtdijjjgplhbkkaaGreatDoorJUa
import Derived.Test.YtdijjjgplhbkkaaGreatDoorJUm
import Derived.Test.YtdijjjgplhbkkaaGreatDoorWj
import Derived.Test.YtdijjjgplhbkkaaGreatDoorWe
set_option linter.unusedSimpArgs false
set_option linter.unusedVariables false
set_option linter.unnecessarySimpa false

namespace Go.Vl
open Go Go.RowKit Go.Proofs
set_option maxRecDepth 100000
set_option linter.unusedSimpArgs false
set_option linter.unusedVariables false
set_option linter.unnecessarySimpa false
set_option maxHeartbeats 8000000

def sm8 (l : List VSet) : Prop := ∀ x ∈ l, x.name.size ≤ 8 ∧ x.val.md
theorem sm8.app {l : List VSet} (h : sm8 l) {c : VSet} (h1 : c.name.size ≤ 8) (h2 : c.val.t.size ≤ 8) : sm8 (l ++ [c]) := by
  intro x hx
  rcases List.mem_append.1 hx with hx | hx
  · exact h x hx
  · simp at hx; subst hx; exact ⟨h1, by unfold Val.md; omega⟩
theorem sm8.set {l : List VSet} (h : sm8 l) (k : Nat) {c : VSet} (h1 : c.name.size ≤ 8) (h2 : c.val.t.size ≤ 8) : sm8 (l.set k c) := by
  intro x hx
  rcases List.mem_or_eq_of_mem_set hx with hx | rfl
  · exact h x hx
  · exact ⟨h1, by unfold Val.md; omega⟩
theorem c_l3Sets {bs : List Int} (hb : BOk bs) (p : Nat) (L : List Col) (hL : smlCols L) (hl : L.length ≤ 20) (hp : p ≤ 1099511300000) : CallsV Tryz.prog 137 [rdS, colsI L] [rdO bs p]
    (relQ (fun y : List VSet × Nat => smSets y.1 ∧ y.2 ≤ p + 100) (fun y => vsetsI y.1) (fun y => [some (rdO bs y.2)]) (fun _ => [])) := by
  have e0 := bs0
  refine funF_walk hTb Tryz.func137 rfl rfl Tryz.ntmps137 (by simp) (by simp) ?_
  (conv => whnf); repeat' (first | (refine And.intro ?_ ?_ <;> ((try intro h) <;> (try simp only [Bool.not_true, Bool.not_false] at h) <;> first | exact absurd h Bool.false_ne_true | exact absurd h.symm Bool.false_ne_true | conv => whnf)) | (refine Need.mk ?_; kernel_rfl) | (refine Need.mk ⟨rfl, ?_⟩; decide))
  refine VL.loopI (α := Nat × List VSet × Nat) hTb (fun ⟨k, ss, q⟩ => k ≤ L.length ∧ ss.length ≤ k ∧ sm8 ss ∧ q ≤ p + 4 * k)
    (fun ⟨k, ss, q⟩ => ⟨[(0, rdS), (1, colsI L), (5, .one (.own 108 0 ss.length)), (6, iS k)], [(0, rdO bs q), (108, .arr 209 4 (ss.map encVSet))], []⟩) (fun x => L.length - x.1) (0, [], p) ⟨by omega, by simp, (fun x hx => by cases hx), by omega⟩
    (wk_to [(0, 0), (108, 108)] rfl rfl rfl ⟨rfl, rfl, rfl, rfl, trivial⟩ ⟨rfl, ⟨_, rfl, rfl⟩, rfl, ⟨_, rfl, rfl⟩, trivial⟩) (fun x hx => ?_)
  obtain ⟨k, ss, q⟩ := x
  obtain ⟨i1, i2, i3, i4⟩ := hx
  (conv => whnf)
  refine And.intro (fun h2 => ?_) (fun h2 => ?_)
  · have hlt : k < L.length := by simpa using h2
    have hrow := row_at hlt
    have hci := hL _ (List.getElem_mem hlt)
    generalize L[k] = ci at hrow hci
    obtain ⟨cn, ck, c1, c2, ⟨c3, c4, c5⟩⟩ := ci
    have hn8 : cn.size ≤ 8 := hci.1
    (conv => whnf); repeat' (first
    | (refine And.intro ?_ ?_ <;> ((try intro h) <;> (try simp only [Bool.not_true, Bool.not_false, decide_eq_true_eq, decide_eq_false_iff_not, Int.not_lt, Int.not_le, gt_iff_lt, ge_iff_le] at h) <;> first | exact absurd h Bool.false_ne_true | exact absurd h.symm Bool.false_ne_true | conv => whnf))
    | (refine VL.drawS hTb hMix (by kernel_rfl) (by kernel_rfl) (by kernel_rfl) ?_; conv => whnf)
    | (refine Need.mk ?_; kernel_rfl) | (refine Need.mk ⟨rfl, ?_⟩; decide)
    | (refine VR.op hTb rfl rfl (o_index_imm hTb rfl rfl rfl rfl rfl rfl rfl (by omega) (hrow)) rfl ?_; conv => whnf)
    | (refine DT.op hTb rfl (o_index_imm hTb rfl rfl rfl rfl rfl rfl rfl (by omega) (hrow)) rfl ?_; conv => whnf)
    | (refine VR.rel hTb rfl rfl (o_relN (c_pick hb _ _ (by omega)) false [0] (fun _ _ => ⟨by simp, fun h => by cases h⟩) rfl rfl rfl rfl rfl ⟨rfl, rfl, rfl, rfl⟩ rfl rfl) ?_; rintro w hw; (try simp only at hw); conv => whnf)
    | (refine DT.rel hTb rfl (o_relN (c_pick hb _ _ (by omega)) false [0] (fun _ _ => ⟨by simp, fun h => by cases h⟩) rfl rfl rfl rfl rfl ⟨rfl, rfl, rfl, rfl⟩ rfl rfl) [0] (by kernel_rfl) (by kernel_rfl) ?_; rintro w hw; (try simp only at hw); refine And.intro rfl (And.intro rfl ?_); conv => whnf)
    | (refine VR.rel hTb rfl rfl (o_relN (c_l1Some hb _ _ (by omega)) false [0] (fun _ _ => ⟨by simp, fun h => by cases h⟩) rfl rfl rfl rfl rfl ⟨rfl, rfl, rfl, rfl⟩ rfl rfl) ?_; rintro ⟨⟨vk, vn, vt⟩, q2⟩ hv; (try simp only at hv); conv => whnf)
    | (refine DT.rel hTb rfl (o_relN (c_l1Some hb _ _ (by omega)) false [0] (fun _ _ => ⟨by simp, fun h => by cases h⟩) rfl rfl rfl rfl rfl ⟨rfl, rfl, rfl, rfl⟩ rfl rfl) [0] (by kernel_rfl) (by kernel_rfl) ?_; rintro ⟨⟨vk, vn, vt⟩, q2⟩ hv; (try simp only at hv); refine And.intro rfl (And.intro rfl ?_); conv => whnf)
    | (refine VR.opk hTb rfl rfl (o_app1 (q := 162) (a := ⟨_, ⟨_, _, _⟩⟩) hTb rfl rfl rfl rfl rfl rfl rfl rfl rfl rfl rfl rfl (by omega) (by show _ * 48 ≤ _; omega) (by unfold maxLen; omega)) ?_; conv => whnf)
    | (refine DT.opk hTb rfl (o_app1 (q := 162) (a := ⟨_, ⟨_, _, _⟩⟩) hTb rfl rfl rfl rfl rfl rfl rfl rfl rfl rfl rfl rfl (by omega) (by show _ * 48 ≤ _; omega) (by unfold maxLen; omega)) ?_; conv => whnf))
    all_goals first
      | (refine ⟨(k + 1, ss ++ [⟨cn, ⟨_, _, _⟩⟩], _), ⟨by omega, by simp; omega, ?_, ?_⟩, by show L.length - (k + 1) < L.length - k; omega,
          wk_to [(0, 0), (162, 108)] rfl rfl rfl ⟨rfl, rfl, congrArg (fun n => Slot.one (.own 108 0 n)) (by simp), congrArg (fun x => Slot.one (.g (.int .i64 x))) (wrap64' (by unfold maxLen; omega)), trivial⟩ ⟨rfl, ⟨_, rfl, rfl⟩, rfl, ⟨_, rfl, rfl⟩, trivial⟩⟩)
      | (refine ⟨(k + 1, ss, _), ⟨by omega, by omega, i3, ?_⟩, by show L.length - (k + 1) < L.length - k; omega,
          wk_to [(0, 0), (108, 108)] rfl rfl rfl ⟨rfl, rfl, rfl, congrArg (fun x => Slot.one (.g (.int .i64 x))) (wrap64' (by unfold maxLen; omega)), trivial⟩ ⟨rfl, ⟨_, rfl, rfl⟩, rfl, ⟨_, rfl, rfl⟩, trivial⟩⟩)
      | skip
    all_goals first
      | exact sm8.app i3 hn8 hv.1
      | omega
      | trace_state
  · have hk : k = L.length := by simp at h2; omega
    subst hk
    (conv => whnf); repeat' (first
    | (refine And.intro ?_ ?_ <;> ((try intro h) <;> (try simp only [Bool.not_true, Bool.not_false, decide_eq_true_eq, decide_eq_false_iff_not, Int.not_lt, Int.not_le, gt_iff_lt, ge_iff_le] at h) <;> first | exact absurd h Bool.false_ne_true | exact absurd h.symm Bool.false_ne_true | conv => whnf))
    | (refine VL.drawS hTb hMix (by kernel_rfl) (by kernel_rfl) (by kernel_rfl) ?_; conv => whnf)
    | (refine Need.mk ?_; kernel_rfl) | (refine Need.mk ⟨rfl, ?_⟩; decide)
    | (refine VR.rel hTb rfl rfl (o_relN (c_pick hb _ _ (by omega)) false [0] (fun _ _ => ⟨by simp, fun h => by cases h⟩) rfl rfl rfl rfl rfl ⟨rfl, rfl, rfl, rfl⟩ rfl rfl) ?_; rintro w hw; (try simp only at hw); conv => whnf)
    | (refine DT.rel hTb rfl (o_relN (c_pick hb _ _ (by omega)) false [0] (fun _ _ => ⟨by simp, fun h => by cases h⟩) rfl rfl rfl rfl rfl ⟨rfl, rfl, rfl, rfl⟩ rfl rfl) [0] (by kernel_rfl) (by kernel_rfl) ?_; rintro w hw; (try simp only at hw); refine And.intro rfl (And.intro rfl ?_); conv => whnf)
    | (refine VR.rel hTb rfl rfl (o_relN (c_of hb _ _ _ (fun t => t.size ≤ 8) (by simp [strRows]; decide) (by simp) (by omega)) false [0, 169] (fun _ _ => ⟨by simp, fun h => by cases h⟩) rfl rfl rfl rfl rfl ⟨rfl, rfl, rfl, rfl⟩ rfl rfl) ?_; rintro nm hnm; (try simp only at hnm); conv => whnf)
    | (refine DT.rel hTb rfl (o_relN (c_of hb _ _ _ (fun t => t.size ≤ 8) (by simp [strRows]; decide) (by simp) (by omega)) false [0, 169] (fun _ _ => ⟨by simp, fun h => by cases h⟩) rfl rfl rfl rfl rfl ⟨rfl, rfl, rfl, rfl⟩ rfl rfl) [0, 169] (by kernel_rfl) (by kernel_rfl) ?_; rintro nm hnm; (try simp only at hnm); refine And.intro rfl (And.intro rfl ?_); conv => whnf)
    | (refine VR.rel hTb rfl rfl (o_relN (c_l1Draw hb _ (by omega)) false [0] (fun _ _ => ⟨by simp, fun h => by cases h⟩) rfl rfl rfl rfl rfl ⟨rfl, rfl, rfl, rfl⟩ rfl rfl) ?_; rintro ⟨⟨vk, vn, vt⟩, q2⟩ hv; (try simp only at hv); conv => whnf)
    | (refine DT.rel hTb rfl (o_relN (c_l1Draw hb _ (by omega)) false [0] (fun _ _ => ⟨by simp, fun h => by cases h⟩) rfl rfl rfl rfl rfl ⟨rfl, rfl, rfl, rfl⟩ rfl rfl) [0] (by kernel_rfl) (by kernel_rfl) ?_; rintro ⟨⟨vk, vn, vt⟩, q2⟩ hv; (try simp only at hv); refine And.intro rfl (And.intro rfl ?_); conv => whnf)
    | (refine VR.opk hTb rfl rfl (o_app1 (q := 173) (a := ⟨nm, ⟨_, _, _⟩⟩) hTb rfl rfl rfl rfl rfl rfl rfl rfl rfl rfl rfl rfl (by omega) (by show _ * 48 ≤ _; omega) (by unfold maxLen; omega)) ?_; conv => whnf)
    | (refine DT.opk hTb rfl (o_app1 (q := 173) (a := ⟨nm, ⟨_, _, _⟩⟩) hTb rfl rfl rfl rfl rfl rfl rfl rfl rfl rfl rfl rfl (by omega) (by show _ * 48 ≤ _; omega) (by unfold maxLen; omega)) ?_; conv => whnf)
    | (refine Need.mk ?_; exact ⟨rfl, by omega, by omega⟩)
    | (refine VR.op hTb rfl rfl (o_storeM hTb rfl rfl rfl rfl rfl (List.getElem?_eq_getElem (show 0 + 0 < ss.length by omega)) rfl rfl rfl ⟨rfl, by decide⟩ (c' := ⟨_, ⟨_, _, _⟩⟩) rfl) rfl ?_; conv => whnf)
    | (refine DT.op hTb rfl (o_storeM hTb rfl rfl rfl rfl rfl (List.getElem?_eq_getElem (show 0 + 0 < ss.length by omega)) rfl rfl rfl ⟨rfl, by decide⟩ (c' := ⟨_, ⟨_, _, _⟩⟩) rfl) rfl ?_; conv => whnf))
    all_goals first
      | refine endR [] (_, _) rfl rfl rfl rfl rfl (LeS.of_eq (brwG (by simp))) rfl rfl ⟨⟨?_, ?_⟩, ?_⟩
      | trace_state
    all_goals first
      | exact i3
      | exact sm8.set i3 _ (i3 _ (List.getElem_mem _)).1 hv.1
      | exact sm8.app i3 hnm (show (⟨#[]⟩ : ByteArray).size ≤ 8 by decide)
      | (simp only [List.length_set, List.length_append, List.length_cons, List.length_nil]; omega)
      | omega
      | trace_state
end Go.Vl

namespace Go.Vl
open Go Go.RowKit Go.Proofs
set_option maxRecDepth 100000
set_option linter.unusedSimpArgs false
set_option linter.unusedVariables false
set_option linter.unnecessarySimpa false
set_option maxHeartbeats 2000000

theorem c_l1Max (x y : Int) : CallsV Tryz.prog 134 [iS x, iS y] [] (pureQ (iS (if y < x then x else y))) := by
  refine pure_walk hTb Tryz.func134 rfl rfl Tryz.ntmps134 (by simp) ?_
  (conv => whnf); repeat' (first
    | (refine And.intro ?_ ?_ <;> ((try intro h) <;> (try simp only [Bool.not_true, Bool.not_false, decide_eq_true_eq, decide_eq_false_iff_not, Int.not_lt, Int.not_le, gt_iff_lt, ge_iff_le] at h) <;> first | exact absurd h Bool.false_ne_true | exact absurd h.symm Bool.false_ne_true | conv => whnf))
    | (refine VL.drawS hTb hMix (by kernel_rfl) (by kernel_rfl) (by kernel_rfl) ?_; conv => whnf)
    | (refine Need.mk ?_; kernel_rfl) | (refine Need.mk ⟨rfl, ?_⟩; decide)
    | (rfl))
  · rw [if_pos h]; rfl
  · rw [if_neg (by omega)]; rfl
end Go.Vl

namespace Go.Vl
open Go Go.RowKit Go.Proofs
set_option maxRecDepth 100000
set_option linter.unusedSimpArgs false
set_option linter.unusedVariables false
set_option linter.unnecessarySimpa false
set_option maxHeartbeats 8000000

theorem c_l3Act {bs : List Int} (hb : BOk bs) (p : Nat) (t : VTable) (ht : t.dr) (hp : p ≤ 1099511200000) : CallsV Tryz.prog 71 [rdS, .agg (tdL t 1)] [rdO bs p, tdO t]
    (relQ (fun y : VTable × Nat => y.1.dr ∧ y.2 ≤ p + 200) (fun y => .agg (tdL y.1 2)) (fun y => [some (rdO bs y.2), none]) (fun y => [tdO y.1])) := by
  have hLl := ht.lenL
  have hLs := tL_sml ht
  have cL := c_l3LastO t ht.md
  generalize tL t = L at cL hLl hLs
  have cM := c_l1Max 1 t.next
  generalize (if t.next < 1 then (1 : Int) else t.next) = mx at cM
  have cSe := fun q (hq : q ≤ 1099511300000) => c_l3Sets hb q L hLs (by omega) hq
  have cCh := fun q (hq : q ≤ 1099511400000) => c_l2Change hb q L hLs (by omega) hq
  refine funC_walk 1 hTb Tryz.func71 rfl rfl Tryz.ntmps71 (by simp) (by simp) (by simp) ?_
  (conv => whnf); repeat' (first
    | (refine VL.freeze 1032 rfl rfl ?_; conv => whnf; rw [fzC])
    | (refine And.intro ?_ ?_ <;> ((try intro h) <;> (try simp only [Bool.not_true, Bool.not_false, decide_eq_true_eq, decide_eq_false_iff_not, Int.not_lt, Int.not_le, gt_iff_lt, ge_iff_le] at h) <;> first | exact absurd h Bool.false_ne_true | exact absurd h.symm Bool.false_ne_true | conv => whnf))
    | (refine VL.drawS hTb hMix (by kernel_rfl) (by kernel_rfl) (by kernel_rfl) ?_; conv => whnf)
    | (refine Need.mk ?_; kernel_rfl) | (refine Need.mk ⟨rfl, ?_⟩; decide)
    | (refine VR.fun hTb rfl rfl (o_funN (cL) true [] (fun _ => grNewCol _ _) (by simp) rfl rfl rfl rfl rfl ⟨rfl, rfl, rfl, rfl⟩ ?_ rfl) ?_; exact congrArg (fun s => [s]) (brwTD t); conv => whnf)
    | (refine DT.fun hTb rfl (o_funN (cL) true [] (fun _ => grNewCol _ _) (by simp) rfl rfl rfl rfl rfl ⟨rfl, rfl, rfl, rfl⟩ ?_ rfl) rfl ?_; exact congrArg (fun s => [s]) (brwTD t); conv => whnf)
    | (refine VR.freeze hTb rfl 1032 rfl rfl ?_; conv => whnf; rw [fzC])
    | (refine VR.pure hTb rfl rfl (o_purN (cM) rfl rfl rfl ⟨rfl, rfl, rfl, rfl⟩ rfl) ?_; conv => whnf)
    | (refine DT.pure hTb rfl (o_purN (cM) rfl rfl rfl ⟨rfl, rfl, rfl, rfl⟩ rfl) ?_; conv => whnf)
    | (refine VR.rel hTb rfl rfl (o_relN (c_pick hb _ _ (by omega)) false [0] (fun _ _ => ⟨by simp, fun h => by cases h⟩) rfl rfl rfl rfl rfl ⟨rfl, rfl, rfl, rfl⟩ rfl rfl) ?_; rintro w hw; (try simp only at hw); conv => whnf)
    | (refine DT.rel hTb rfl (o_relN (c_pick hb _ _ (by omega)) false [0] (fun _ _ => ⟨by simp, fun h => by cases h⟩) rfl rfl rfl rfl rfl ⟨rfl, rfl, rfl, rfl⟩ rfl rfl) [0] (by kernel_rfl) (by kernel_rfl) ?_; rintro w hw; (try simp only at hw); refine And.intro rfl (And.intro rfl ?_); conv => whnf)
    | (refine VR.rel hTb rfl rfl (o_relN (c_l3Off t ht _) false [1] (fun _ _ => ⟨by simp, fun h => by cases h⟩) rfl rfl rfl rfl rfl ⟨rfl, rfl, rfl, rfl⟩ rfl rfl) ?_; rintro ⟨t2, cd⟩ ht2; (try simp only at ht2); conv => whnf)
    | (refine DT.rel hTb rfl (o_relN (c_l3Off t ht _) false [1] (fun _ _ => ⟨by simp, fun h => by cases h⟩) rfl rfl rfl rfl rfl ⟨rfl, rfl, rfl, rfl⟩ rfl rfl) [1] (by kernel_rfl) (by kernel_rfl) ?_; rintro ⟨t2, cd⟩ ht2; (try simp only at ht2); refine And.intro rfl (And.intro rfl ?_); conv => whnf)
    | (refine VR.rel hTb rfl rfl (o_relN (cSe _ (by omega)) false [0] (fun _ _ => ⟨by simp, fun h => by cases h⟩) rfl rfl rfl rfl rfl ⟨rfl, rfl, rfl, rfl⟩ rfl rfl) ?_; rintro ⟨ss, q2⟩ hss; (try simp only at hss); conv => whnf)
    | (refine DT.rel hTb rfl (o_relN (cSe _ (by omega)) false [0] (fun _ _ => ⟨by simp, fun h => by cases h⟩) rfl rfl rfl rfl rfl ⟨rfl, rfl, rfl, rfl⟩ rfl rfl) [0] (by kernel_rfl) (by kernel_rfl) ?_; rintro ⟨ss, q2⟩ hss; (try simp only at hss); refine And.intro rfl (And.intro rfl ?_); conv => whnf)
    | (refine VR.rel hTb rfl rfl (o_relN (cCh _ (by omega)) false [0] (fun _ _ => ⟨by simp, fun h => by cases h⟩) rfl rfl rfl rfl rfl ⟨rfl, rfl, rfl, rfl⟩ rfl rfl) ?_; rintro ⟨ch, q2⟩ hch; (try simp only at hch); conv => whnf)
    | (refine DT.rel hTb rfl (o_relN (cCh _ (by omega)) false [0] (fun _ _ => ⟨by simp, fun h => by cases h⟩) rfl rfl rfl rfl rfl ⟨rfl, rfl, rfl, rfl⟩ rfl rfl) [0] (by kernel_rfl) (by kernel_rfl) ?_; rintro ⟨ch, q2⟩ hch; (try simp only at hch); refine And.intro rfl (And.intro rfl ?_); conv => whnf)
    | (refine DT.relk hTb rfl (o_relN (c_l3Set t ht _ ss hss.1) false [1] (fun _ _ => ⟨by simp, fun h => by cases h⟩) rfl rfl rfl rfl rfl ⟨rfl, rfl, rfl, rfl⟩ rfl rfl) [1168] [1] (by kernel_rfl) (by kernel_rfl) ?_; rintro ⟨t2, cd⟩ ht2; (try simp only at ht2); refine And.intro rfl (And.intro rfl ?_); conv => whnf)
    | (refine DT.relk hTb rfl (o_relN (c_l3Change t ht ch hch.1) false [1] (fun _ _ => ⟨by simp, fun h => by cases h⟩) rfl rfl rfl rfl rfl ⟨rfl, rfl, rfl, rfl⟩ rfl rfl) [1208] [1] (by kernel_rfl) (by kernel_rfl) ?_; rintro ⟨t2, cd⟩ ht2; (try simp only at ht2); refine And.intro rfl (And.intro rfl ?_); conv => whnf)
    | (refine DT.relk hTb rfl (o_relN (c_l3Put t ht ss hss.1) false [1] (fun _ _ => ⟨by simp, fun h => by cases h⟩) rfl rfl rfl rfl rfl ⟨rfl, rfl, rfl, rfl⟩ rfl rfl) [1088] [1] (by kernel_rfl) (by kernel_rfl) ?_; rintro ⟨t2, cd⟩ ht2; (try simp only at ht2); refine And.intro rfl (And.intro rfl ?_); conv => whnf))
  all_goals first
    | exact endCR [1120] (t2, _) rfl rfl rfl rfl (LeS.refl _) rfl rfl ⟨ht2, by simp only; omega⟩
    | exact endCR [1168] (t2, _) rfl rfl rfl rfl (LeS.refl _) rfl rfl ⟨ht2, by simp only; omega⟩
    | exact endCR [1208] (t2, _) rfl rfl rfl rfl (LeS.refl _) rfl rfl ⟨ht2, by simp only; omega⟩
    | exact endCR [1088] (t2, _) rfl rfl rfl rfl (LeS.refl _) rfl rfl ⟨ht2, by simp only; omega⟩
    | trace_state
theorem c_specTabNewR (cs : List Col) (hl : cs.length ≤ 10) (hs : smlCols cs) : CallsV Tryz.prog 29 [colsI cs] [] (relQ (fun y : List Col × Int => VTable.dr ⟨y.1, [], [], y.2⟩) (fun y => .agg [.imm 7 (y.1.map encCol), .imm 10 [], nilG, .g (.int .i64 y.2)]) (fun _ => []) (fun _ => [])) := by
  have c1 := c_specShapeOk cs (by unfold maxLen; omega) hs.md.ok
  cases hk : shapeOk cs with
  | false =>
    rw [hk] at c1
    have h : CallsV Tryz.prog 29 [colsI cs] [] (pureQ nilTab) := by
      refine pureF_walk hTb Tryz.func29 rfl rfl Tryz.ntmps29 (by simp) ?_
      (conv => whnf); repeat' (first
    | (refine And.intro ?_ ?_ <;> ((try intro h) <;> (try simp only [Bool.not_true, Bool.not_false, decide_eq_true_eq, decide_eq_false_iff_not, Int.not_lt, Int.not_le, gt_iff_lt, ge_iff_le] at h) <;> first | exact absurd h Bool.false_ne_true | exact absurd h.symm Bool.false_ne_true | conv => whnf))
    | (refine VL.drawS hTb hMix (by kernel_rfl) (by kernel_rfl) (by kernel_rfl) ?_; conv => whnf)
    | (refine Need.mk ?_; kernel_rfl) | (refine Need.mk ⟨rfl, ?_⟩; decide)
    | (refine VR.pure hTb rfl rfl (o_purN (c1) rfl rfl rfl ⟨rfl, rfl, rfl, rfl⟩ rfl) ?_; conv => whnf)
    | (refine DT.pure hTb rfl (o_purN (c1) rfl rfl rfl ⟨rfl, rfl, rfl, rfl⟩ rfl) ?_; conv => whnf))
      exact endFz rfl rfl rfl
    have h2 : CallsV Tryz.prog 29 [colsI cs] [] (pureQ (.agg [.imm 7 [], .imm 10 [], nilG, .g (.int .i64 0)])) := CallsV.leR h ⟨.inr ⟨7, rfl, rfl⟩, .inr ⟨10, rfl, rfl⟩, .inl rfl, .inl rfl, trivial⟩
    refine h2.mono fun s o n hq => ?_
    obtain ⟨rfl, rfl, rfl⟩ := hq
    exact ⟨([], 0), dr_zero, rfl, rfl, rfl⟩
  | true =>
    rw [hk] at c1
    have h : CallsV Tryz.prog 29 [colsI cs] [] (pureQ (.agg [.imm 7 (cs.map encCol), nilG, nilG, .g (.int .i64 1)])) := by
      refine pureF_walk hTb Tryz.func29 rfl rfl Tryz.ntmps29 (by simp) ?_
      (conv => whnf); repeat' (first
    | (refine And.intro ?_ ?_ <;> ((try intro h) <;> (try simp only [Bool.not_true, Bool.not_false, decide_eq_true_eq, decide_eq_false_iff_not, Int.not_lt, Int.not_le, gt_iff_lt, ge_iff_le] at h) <;> first | exact absurd h Bool.false_ne_true | exact absurd h.symm Bool.false_ne_true | conv => whnf))
    | (refine VL.drawS hTb hMix (by kernel_rfl) (by kernel_rfl) (by kernel_rfl) ?_; conv => whnf)
    | (refine Need.mk ?_; kernel_rfl) | (refine Need.mk ⟨rfl, ?_⟩; decide)
    | (refine VR.pure hTb rfl rfl (o_purN (c1) rfl rfl rfl ⟨rfl, rfl, rfl, rfl⟩ rfl) ?_; conv => whnf)
    | (refine DT.pure hTb rfl (o_purN (c1) rfl rfl rfl ⟨rfl, rfl, rfl, rfl⟩ rfl) ?_; conv => whnf)
    | (refine VR.opk hTb rfl rfl (o_app0 (f := encCol) (m := cs) (q := 109) hTb rfl rfl rfl rfl rfl rfl rfl rfl rfl rfl (by omega) (by show _ * 64 ≤ _; omega) (by unfold maxLen; omega)) ?_; conv => whnf)
    | (refine DT.opk hTb rfl (o_app0 (f := encCol) (m := cs) (q := 109) hTb rfl rfl rfl rfl rfl rfl rfl rfl rfl rfl (by omega) (by show _ * 64 ≤ _; omega) (by unfold maxLen; omega)) ?_; conv => whnf))
      refine endFz rfl rfl ?_
      show Slot.agg [.imm 7 (((cs.map encCol).drop 0).take cs.length), _, _, _] = _
      rw [fzC]; rfl
    have h2 : CallsV Tryz.prog 29 [colsI cs] [] (pureQ (.agg [.imm 7 (cs.map encCol), .imm 10 [], nilG, .g (.int .i64 1)])) := CallsV.leR h ⟨.inl rfl, .inr ⟨10, rfl, rfl⟩, .inl rfl, .inl rfl, trivial⟩
    refine h2.mono fun s o n hq => ?_
    obtain ⟨rfl, rfl, rfl⟩ := hq
    exact ⟨(cs, 1), dr_nil hs hl, rfl, rfl, rfl⟩
theorem c_l3Table {bs : List Int} (hb : BOk bs) (p : Nat) (hp : p ≤ 1099511100000) : CallsV Tryz.prog 68 [rdS] [rdO bs p]
    (relQ (fun y : VTable × Nat => y.1.dr ∧ y.2 ≤ p + 6000) (fun y => .agg (encVTable y.1)) (fun y => [some (rdO bs y.2)]) (fun _ => [])) := by
  refine funF_walk hTb Tryz.func68 rfl rfl Tryz.ntmps68 (by simp) (by simp) ?_
  (conv => whnf); repeat' (first
    | (refine And.intro ?_ ?_ <;> ((try intro h) <;> (try simp only [Bool.not_true, Bool.not_false, decide_eq_true_eq, decide_eq_false_iff_not, Int.not_lt, Int.not_le, gt_iff_lt, ge_iff_le] at h) <;> first | exact absurd h Bool.false_ne_true | exact absurd h.symm Bool.false_ne_true | conv => whnf))
    | (refine VL.drawS hTb hMix (by kernel_rfl) (by kernel_rfl) (by kernel_rfl) ?_; conv => whnf)
    | (refine Need.mk ?_; kernel_rfl) | (refine Need.mk ⟨rfl, ?_⟩; decide)
    | (refine VR.rel hTb rfl rfl (o_relN (c_l2Shape hb _ (by omega)) false [0] (fun _ _ => ⟨by simp, fun h => by cases h⟩) rfl rfl rfl rfl rfl ⟨rfl, rfl, rfl, rfl⟩ rfl rfl) ?_; rintro ⟨cs, q⟩ hcs; (try simp only at hcs); conv => whnf)
    | (refine DT.rel hTb rfl (o_relN (c_l2Shape hb _ (by omega)) false [0] (fun _ _ => ⟨by simp, fun h => by cases h⟩) rfl rfl rfl rfl rfl ⟨rfl, rfl, rfl, rfl⟩ rfl rfl) [0] (by kernel_rfl) (by kernel_rfl) ?_; rintro ⟨cs, q⟩ hcs; (try simp only at hcs); refine And.intro rfl (And.intro rfl ?_); conv => whnf)
    | (refine VR.rel hTb rfl rfl (o_relN (c_specTabNewR cs (by omega) hcs.1) false [] (fun _ _ => ⟨by simp, fun h => by cases h⟩) rfl rfl rfl rfl rfl ⟨rfl, rfl, rfl, rfl⟩ rfl rfl) ?_; rintro ⟨f, nx⟩ hf; (try simp only at hf); conv => whnf)
    | (refine DT.rel hTb rfl (o_relN (c_specTabNewR cs (by omega) hcs.1) false [] (fun _ _ => ⟨by simp, fun h => by cases h⟩) rfl rfl rfl rfl rfl ⟨rfl, rfl, rfl, rfl⟩ rfl rfl) [] (by kernel_rfl) (by kernel_rfl) ?_; rintro ⟨f, nx⟩ hf; (try simp only at hf); refine And.intro rfl (And.intro rfl ?_); conv => whnf)
    | (refine VR.rel hTb rfl rfl (o_relN (c_num hb _ _ _ (fun n => 0 ≤ n ∧ n ≤ 24) (by simp [intRows]) (by simp) (by omega)) false [0, 109] (fun _ _ => ⟨by simp, fun h => by cases h⟩) rfl rfl rfl rfl rfl ⟨rfl, rfl, rfl, rfl⟩ rfl rfl) ?_; rintro n hn; (try simp only at hn); conv => whnf)
    | (refine DT.rel hTb rfl (o_relN (c_num hb _ _ _ (fun n => 0 ≤ n ∧ n ≤ 24) (by simp [intRows]) (by simp) (by omega)) false [0, 109] (fun _ _ => ⟨by simp, fun h => by cases h⟩) rfl rfl rfl rfl rfl ⟨rfl, rfl, rfl, rfl⟩ rfl rfl) [0, 109] (by kernel_rfl) (by kernel_rfl) ?_; rintro n hn; (try simp only at hn); refine And.intro rfl (And.intro rfl ?_); conv => whnf))
  refine VL.loopI hTb (α := Nat × VTable × Nat) (fun x => x.1 ≤ 24 ∧ x.2.1.dr ∧ x.2.2 ≤ p + 26 + 200 * (24 - x.1)) (fun x => ⟨[(0, rdS), (2, .one (.ptr 102 0)), (3, .one (.ptr 103 0)), (4, iS x.1)], [(0, rdO bs x.2.2), (102, .box [.g (.slice none 0 0), .g (.slice none 0 0), .g (.slice none 0 0), .g (.int .i64 0)]), (103, .box (tdL x.2.1 120)), (120, tdO x.2.1)], []⟩) (fun x => x.1) (n.toNat, ⟨f, [], [], nx⟩, q + 1) ⟨by simp only; omega, hf, by simp only; omega⟩
    ((wk_nilBox _ (q0 := 103) (j := 2) (q := 120) (sz := 3) (E := 35) rfl rfl rfl (by decide)).trans (wk_to [(0, 0), (102, 102), (103, 103), (120, 120)] rfl rfl rfl ⟨rfl, rfl, rfl, congrArg (fun x => Slot.one (.g (.int .i64 x))) (by simp only; omega), trivial⟩ ⟨rfl, ⟨_, rfl, rfl⟩, rfl, ⟨_, rfl, rfl⟩, rfl, ⟨_, rfl, rfl⟩, rfl, ⟨_, rfl, rfl⟩, trivial⟩)) (fun x hx => ?_)
  obtain ⟨k, t, q3⟩ := x
  obtain ⟨i1, i2, i3⟩ := hx
  simp only at i1 i2 i3
  (conv => whnf)
  refine And.intro (fun h2 => ?_) (fun h2 => ?_)
  · have hk : 0 < k := by simpa using h2
    (conv => whnf); repeat' (first
    | (refine And.intro ?_ ?_ <;> ((try intro h) <;> (try simp only [Bool.not_true, Bool.not_false, decide_eq_true_eq, decide_eq_false_iff_not, Int.not_lt, Int.not_le, gt_iff_lt, ge_iff_le] at h) <;> first | exact absurd h Bool.false_ne_true | exact absurd h.symm Bool.false_ne_true | conv => whnf))
    | (refine VL.drawS hTb hMix (by kernel_rfl) (by kernel_rfl) (by kernel_rfl) ?_; conv => whnf)
    | (refine Need.mk ?_; kernel_rfl) | (refine Need.mk ⟨rfl, ?_⟩; decide)
    | (refine VR.rel hTb rfl rfl (o_relN (c_l3Act hb q3 t i2 (by omega)) false [0, 120] (fun _ _ => ⟨by simp, fun h => by cases h⟩) rfl rfl rfl rfl rfl ⟨rfl, rfl, rfl, rfl⟩ rfl rfl) ?_; rintro ⟨t2, q4⟩ ht2; (try simp only at ht2); conv => whnf)
    | (refine DT.rel hTb rfl (o_relN (c_l3Act hb q3 t i2 (by omega)) false [0, 120] (fun _ _ => ⟨by simp, fun h => by cases h⟩) rfl rfl rfl rfl rfl ⟨rfl, rfl, rfl, rfl⟩ rfl rfl) [0, 120] (by kernel_rfl) (by kernel_rfl) ?_; rintro ⟨t2, q4⟩ ht2; (try simp only at ht2); refine And.intro rfl (And.intro rfl ?_); conv => whnf))
    exact ⟨(k - 1, t2, q4), ⟨by simp only; omega, ht2.1, by simp only; omega⟩, by simp only; omega, wk_to [(0, 0), (102, 102), (103, 103), (1068, 120)] rfl rfl rfl ⟨rfl, rfl, rfl, congrArg (fun x => Slot.one (.g (.int .i64 x))) (by rw [IntKind.wrap_i64]; omega), trivial⟩ ⟨rfl, ⟨_, rfl, rfl⟩, rfl, ⟨_, rfl, rfl⟩, rfl, ⟨_, rfl, rfl⟩, rfl, ⟨_, rfl, rfl⟩, trivial⟩⟩
  · have cK := (c_l3Copy t i2.md).pure (s' := .agg (encVTable t)) (by
      show Slot.agg [.imm 7 (((t.first.map encCol).drop 0).take t.first.length), .imm 10 (((t.changes.map encChange).drop 0).take t.changes.length), .imm 3 (((t.rows.map encVRow).drop 0).take t.rows.length), .g (.int .i64 t.next)] = _
      rw [fzC, fzH, fzRow]; rfl)
    (conv => whnf); repeat' (first
    | (refine VL.freeze 120 rfl rfl ?_; conv => whnf; rw [fzRow])
    | (refine And.intro ?_ ?_ <;> ((try intro h) <;> (try simp only [Bool.not_true, Bool.not_false, decide_eq_true_eq, decide_eq_false_iff_not, Int.not_lt, Int.not_le, gt_iff_lt, ge_iff_le] at h) <;> first | exact absurd h Bool.false_ne_true | exact absurd h.symm Bool.false_ne_true | conv => whnf))
    | (refine VL.drawS hTb hMix (by kernel_rfl) (by kernel_rfl) (by kernel_rfl) ?_; conv => whnf)
    | (refine Need.mk ?_; kernel_rfl) | (refine Need.mk ⟨rfl, ?_⟩; decide)
    | (refine VR.freeze hTb rfl 120 rfl rfl ?_; conv => whnf; rw [fzRow])
    | (refine VR.pure hTb rfl rfl (o_purF (cK) rfl rfl rfl ⟨rfl, rfl, rfl, rfl⟩ rfl) ?_; conv => whnf)
    | (refine DT.pure hTb rfl (o_purF (cK) rfl rfl rfl ⟨rfl, rfl, rfl, rfl⟩ rfl) ?_; conv => whnf))
    exact endR [] (t, q3) rfl rfl rfl rfl rfl (LeS.refl _) rfl rfl ⟨i2, by simp only; omega⟩
end Go.Vl

namespace Go.Vl
open Go Go.RowKit
set_option maxRecDepth 100000
set_option linter.unusedSimpArgs false
set_option linter.unusedVariables false
set_option linter.unnecessarySimpa false

def Pl.setZ (B : Pl) (o : Nat) (p : Option (Nat × Nat)) (Z : Nat → Prop) : Pl := ⟨fun x => if x = o then p else B x, fun x b => if x = o then Z b else B.z x b⟩
theorem setZ_ne {B : Pl} {o : Nat} {p : Option (Nat × Nat)} {Z : Nat → Prop} {x b : Nat} (h : x ≠ o) : Ow (B.setZ o p Z) x b ↔ Ow B x b := by simp [Ow, Pl.setZ, h]
theorem setZ_eq {B : Pl} {o : Nat} {p : Option (Nat × Nat)} {Z : Nat → Prop} {b : Nat} : Ow (B.setZ o p Z) o b ↔ (∃ n, p = some (b, n)) ∨ Z b := by simp [Ow, Pl.setZ]

section
variable {P : Program} {T : Tab} {S : St} {o : Oper} {C : Ctx} {B : Pl} {a : Act} {w w' : World}

/-- Objects go, one comes in place of them, with what they held. -/
theorem Rel.moveZ (hR : Rel C S B a w) {ks : List Nat} {q : Nat} {ob : Ob} {p : Option (Nat × Nat)} {Z : Nat → Prop} (hq : S.obj q = none) (hq1 : 100 ≤ q)
    (h1 : w'.os = w.os) (h2 : w'.tape = w.tape) (h3 : w'.output = w.output) (hs : w.heap.size ≤ w'.heap.size)
    (hk : ∀ x, x < w.heap.size → (∀ k ∈ ks, S.obj k ≠ none → ¬ Ow B k x) → w'.heap[x]? = w.heap[x]?)
    (hp : ∀ b n, p = some (b, n) → (∃ k ∈ ks, S.obj k ≠ none ∧ Ow B k b) ∨ (w.heap.size ≤ b ∧ b < w'.heap.size))
    (hZ : ∀ b, Z b → ∃ k ∈ ks, S.obj k ≠ none ∧ Ow B k b)
    (hob : (∀ l v, LRep w C.din S B l v → LRep w' C.din ((S.kill ks).sets [(q, ob)]) (B.setZ q p Z) (kL ks l) v) →
      (∀ l v, RepL w (dep C.din S B) l v → RepL w' (dep C.din ((S.kill ks).sets [(q, ob)]) (B.setZ q p Z)) l v) → ObRep w' C.din ((S.kill ks).sets [(q, ob)]) (B.setZ q p Z) q ob) :
    Rel C ((S.kill ks).sets [(q, ob)]) (B.setZ q p Z) a w' := by
  generalize hS2 : (S.kill ks).sets [(q, ob)] = S2 at *
  have o2q : S2.obj q = some ob := by rw [← hS2]; simp [sets_one_obj]
  have o2 : ∀ x, x ≠ q → S2.obj x = if ks.contains x then none else (S.obj x).map (kO ks) := fun x hx => by rw [← hS2, sets_one_obj, if_neg hx, kill_obj]
  have s2 : ∀ t, S2.slot t = kS ks (S.slot t) := fun t => by rw [← hS2, sets_one_slot, kill_slot]
  have hBo : ∀ y, y ≠ q → (B.setZ q p Z) y = B y := fun y hy => by simp [Pl.setZ, hy]
  have hP : ∀ b, ((∃ n, p = some (b, n)) ∨ Z b) → (∃ k ∈ ks, S.obj k ≠ none ∧ Ow B k b) ∨ (w.heap.size ≤ b ∧ b < w'.heap.size) := by
    rintro b (⟨n, hn⟩ | hz)
    · exact hp b n hn
    · exact .inl (hZ b hz)
  have live : ∀ x, x ≠ q → S2.obj x ≠ none → S.obj x ≠ none ∧ ks.contains x = false := by
    intro x hx h
    rw [o2 x hx] at h
    split at h
    · exact absurd rfl h
    · rename_i hc
      exact ⟨fun h0 => h (by simp [h0]), by simpa using hc⟩
  have hd : ∀ x, dep C.din S B x → x < w.heap.size → dep C.din S2 (B.setZ q p Z) x := by
    intro x hx hlt
    refine ⟨hx.1, fun y hy hb => ?_⟩
    by_cases hyq : y = q
    · subst hyq
      rcases hP x (setZ_eq.1 hb) with ⟨k, _, hk, hbk⟩ | ⟨h, _⟩
      · exact hx.2 k hk hbk
      · omega
    · exact hx.2 y (live y hyq hy).1 ((setZ_ne hyq).1 hb)
  have hh : ∀ x, dep C.din S B x → x < w.heap.size → w'.heap[x]? = w.heap[x]? := fun x hx hlt => hk x hlt fun k _ hkl => hx.2 k hkl
  have er : ∀ l v, RepL w (dep C.din S B) l v → RepL w' (dep C.din S2 (B.setZ q p Z)) l v := fun l v hl => RepL_mono hs hh hd l v hl
  have e : ∀ l v, LRep w C.din S B l v → LRep w' C.din S2 (B.setZ q p Z) (kL ks l) v := by
    intro l v hl
    rw [kL_rn]
    refine LRep.rn hs hh hd (fun x x' obx hr hx => ?_) hl
    unfold keepR at hr
    split at hr
    · cases hr
    · rename_i hc
      cases hr
      have hxq : x ≠ q := fun ex => by subst ex; rw [hq] at hx; cases hx
      exact ⟨hBo x hxq, _, by rw [o2 x hxq, if_neg hc, hx]; rfl, kO_shape _ _⟩
  refine ⟨hR.size, hR.defers, fun t => ?_, fun x obx hx => ?_, fun x y b hx hy hxb hyb => ?_, fun x b hx hxb => ?_, ?_, hR.dnew, fun x hxk hx => ?_, hR.klt, fun x obx hxk hx => ?_⟩
  · rw [s2]; exact SRep.map_kL e (hR.slots t)
  · by_cases hxq : x = q
    · subst hxq; rw [o2q] at hx; cases hx; exact hob e er
    · obtain ⟨hl, hc⟩ := live x hxq (by simp [hx])
      rw [o2 x hxq, hc] at hx
      obtain ⟨ob0, h0⟩ := Option.ne_none_iff_exists'.1 hl
      rw [h0] at hx; simp at hx; subst hx
      rw [kO_rn]
      refine (hR.objs x ob0 h0).rnO (hBo x hxq) (by funext c; simp [Pl.setZ, hxq]) (fun l v hl => by rw [← kL_rn]; exact e l v hl) er fun b hb => ?_
      refine hk b (hR.mineO x b hl hb).1 fun k hkk hkl hkb => ?_
      have := hR.injO x k b hl hkl hb hkb
      subst this
      rw [List.contains_iff_mem.2 hkk] at hc; cases hc
  · have mix : ∀ {x b}, x ≠ q → S2.obj x ≠ none → Ow B x b → ((∃ n, p = some (b, n)) ∨ Z b) → False := by
      intro x b hxq hx hxb hpb
      obtain ⟨hl, hc⟩ := live x hxq hx
      rcases hP b hpb with ⟨k, hkk, hkl, hkb⟩ | ⟨h, _⟩
      · have := hR.injO x k b hl hkl hxb hkb
        subst this
        rw [List.contains_iff_mem.2 hkk] at hc; cases hc
      · have := (hR.mineO x b hl hxb).1; omega
    by_cases hxq : x = q <;> by_cases hyq : y = q
    · rw [hxq, hyq]
    · subst hxq; exact (mix hyq hy ((setZ_ne hyq).1 hyb) (setZ_eq.1 hxb)).elim
    · subst hyq; exact (mix hxq hx ((setZ_ne hxq).1 hxb) (setZ_eq.1 hyb)).elim
    · exact hR.injO x y b (live x hxq hx).1 (live y hyq hy).1 ((setZ_ne hxq).1 hxb) ((setZ_ne hyq).1 hyb)
  · by_cases hxq : x = q
    · subst hxq
      rcases hP b (setZ_eq.1 hxb) with ⟨k, hkk, hkl, hkb⟩ | ⟨h4, h5⟩
      · have := hR.mineO k b hkl hkb; exact ⟨Nat.lt_of_lt_of_le this.1 hs, this.2⟩
      · exact ⟨h5, .inl (Nat.le_trans hR.frame.size h4), hR.dnew b (Nat.le_trans hR.frame.size h4)⟩
    · have := hR.mineO x b (live x hxq hx).1 ((setZ_ne hxq).1 hxb); exact ⟨Nat.lt_of_lt_of_le this.1 hs, this.2⟩
  · refine ⟨h1.trans hR.frame.os, h2.trans hR.frame.tape, h3.trans hR.frame.output, Nat.le_trans hR.frame.size hs, fun x hx hn => ?_⟩
    rw [hk x (Nat.lt_of_lt_of_le hx hR.frame.size) fun k hkk hkl hkb => ?_]
    · exact hR.frame.block x hx hn
    · rcases (hR.mineO k x hkl hkb).2.1 with h | h
      · omega
      · exact hn h
  · have hxq : x ≠ q := by have := hR.klt; omega
    rw [hBo x hxq]; exact hR.keep x hxk (live x hxq hx).1
  · have hxq : x ≠ q := by have := hR.klt; omega
    obtain ⟨hl, hc⟩ := live x hxq (by simp [hx])
    rw [o2 x hxq, hc] at hx
    obtain ⟨ob0, h0⟩ := Option.ne_none_iff_exists'.1 hl
    rw [h0] at hx; simp at hx; subst hx
    obtain ⟨ob1, h4, h5⟩ := hR.shape x ob0 hxk h0
    exact ⟨ob1, h4, h5.trans (kO_shape _ _)⟩

theorem holeAt_mapN (f : Leaf → Leaf) (n : Nat) : ∀ (hs : List (Nat × Nat × Leaf)) (i j : Nat), holeAt (hs.map fun h => (n + h.1, h.2.1, f h.2.2)) (n + i) j = (holeAt hs i j).map f
  | [], _, _ => rfl
  | (a, b, l) :: hs, i, j => by
    simp only [List.map_cons, holeAt]
    by_cases h : a = i ∧ b = j
    · rw [if_pos h, if_pos ⟨by omega, h.2⟩]; rfl
    · rw [if_neg h, if_neg (fun e => h ⟨by omega, e.2⟩)]; exact holeAt_mapN f n hs i j
theorem holeAt_lt (f : Leaf → Leaf) (n : Nat) : ∀ (hs : List (Nat × Nat × Leaf)) (i j : Nat), i < n → holeAt (hs.map fun h => (n + h.1, h.2.1, f h.2.2)) i j = none
  | [], _, _, _ => rfl
  | (a, b, l) :: hs, i, j, h => by
    simp only [List.map_cons, holeAt]
    rw [if_neg (fun e => by have := e.1; omega)]
    exact holeAt_lt f n hs i j h

/-- Cells of rows, that hold rows of their own, and of one more. -/
theorem regRows_app {Dp Dp' : Nat → Prop} {R R' : Leaf → Value → Prop} {f : Leaf → Leaf} {sz : Nat} {rows : List (List Leaf)} {row2 : List Leaf} {hs2 : List (Nat × Nat × Leaf)} {os ns : List Value} {cs : Array Value} {Z : Nat → Prop} {zf : Nat → Nat → Nat → Prop}
    (hw : ∀ r ∈ rows, r.length = sz) (hw2 : row2.length = sz)
    (p1 : ∀ (i : Nat) (r : List Leaf) (y : Nat) (l : Leaf), rows[i]? = some r → r[y]? = some l → ∃ v, os[i * sz + y]? = some v ∧ NL w Dp l v (zf i y))
    (p2 : ∀ (y : Nat) (l : Leaf), row2[y]? = some l → holeAt hs2 0 y = none → plain [l] = true ∧ ∃ v, ns[y]? = some v ∧ RepL w Dp l v)
    (p3 : ∀ (y : Nat) (l h : Leaf), row2[y]? = some l → holeAt hs2 0 y = some h → ∃ v, ns[y]? = some v ∧ R h v)
    (hsub : ∀ i j x, zf i j x → Z x) (hap : ∀ i j i' j' x, zf i j x → zf i' j' x → i = i' ∧ j = j')
    (er : ∀ l v, RepL w Dp l v → RepL w' Dp' l v) (e : ∀ l v, R l v → R' (f l) v) (hz : ∀ x, Z x → w'.heap[x]? = w.heap[x]?)
    (c1 : ∀ y, y < rows.length * sz → cs[y]? = os[y]?) (c2 : ∀ y, y < sz → cs[rows.length * sz + y]? = ns[y]?) :
    RegRows w' Dp' R' sz (rows ++ [row2]) (hs2.map fun h => (rows.length + h.1, h.2.1, f h.2.2)) cs Z (fun i j x => i < rows.length ∧ zf i j x) := by
  have lt : ∀ {i y : Nat} {r : List Leaf} {l : Leaf}, rows[i]? = some r → r[y]? = some l → i < rows.length ∧ i * sz + y < rows.length * sz := by
    intro i y r l hi hy
    have hil := (List.getElem?_eq_some_iff.1 hi).1
    have hrl := hw r (List.mem_of_getElem? hi)
    have hyl := (List.getElem?_eq_some_iff.1 hy).1
    have h6 : (i + 1) * sz ≤ rows.length * sz := Nat.mul_le_mul_right _ hil
    rw [Nat.succ_mul] at h6
    exact ⟨hil, by omega⟩
  have last : ∀ {i : Nat} {r : List Leaf}, (rows ++ [row2])[i]? = some r → ¬ i < rows.length → i = rows.length ∧ r = row2 := by
    intro i r hi hn
    rw [List.getElem?_append_right (by omega)] at hi
    have h1 := (List.getElem?_eq_some_iff.1 hi).1
    simp at h1
    have h2 : i = rows.length := by omega
    subst h2
    simp at hi
    exact ⟨rfl, hi.symm⟩
  refine ⟨fun r hr => ?_, fun i r y l hi hy hh => ?_, fun i r y l h hi hy hh => ?_, fun i j x hx => hsub i j x hx.2, fun i j i' j' x hx hx' => hap i j i' j' x hx.2 hx'.2⟩
  · rcases List.mem_append.1 hr with hr | hr
    · exact hw r hr
    · simp at hr; subst hr; exact hw2
  · by_cases hil : i < rows.length
    · rw [List.getElem?_append_left hil] at hi
      obtain ⟨v, hv, hn⟩ := p1 i r y l hi hy
      refine ⟨v, by rw [c1 _ (lt hi hy).2]; exact hv, NL_mono er l v _ _ (fun x hx => ⟨hil, hx⟩) (fun x hx => hz x (hsub i y x hx)) hn⟩
    · obtain ⟨rfl, rfl⟩ := last hi hil
      have e0 := holeAt_mapN f rows.length hs2 0 y
      rw [Nat.add_zero] at e0
      rw [e0] at hh
      have hh0 : holeAt hs2 0 y = none := by
        cases h9 : holeAt hs2 0 y with
        | none => rfl
        | some z => rw [h9] at hh; cases hh
      obtain ⟨hpl, v, hv, hr⟩ := p2 y l hy hh0
      have hyl := (List.getElem?_eq_some_iff.1 hy).1
      exact ⟨v, by rw [c2 _ (by omega)]; exact hv, (NL_flat hpl).2 (er _ _ hr)⟩
  · by_cases hil : i < rows.length
    · rw [holeAt_lt f rows.length hs2 i y hil] at hh; cases hh
    · obtain ⟨rfl, rfl⟩ := last hi hil
      have e0 := holeAt_mapN f rows.length hs2 0 y
      rw [Nat.add_zero] at e0
      rw [e0] at hh
      obtain ⟨h0, h1, rfl⟩ := Option.map_eq_some_iff.1 hh
      obtain ⟨v, hv, hr⟩ := p3 y l h0 hy h1
      have hyl := (List.getElem?_eq_some_iff.1 hy).1
      exact ⟨v, by rw [c2 _ (by omega)]; exact hv, e _ _ hr⟩

/-- A row of one thing, that names rows. -/
theorem o_buildSliceH (hT : TabOk P T) {t e : TypeId} {X : Operand} (ho : o.op = .buildSlice t 1 #[(0, X)]) {i j : TI} (hi : T t = some i) (hd0 : i.d = .sl e) (hj : T e = some j) {row : List Leaf} {s : Slot} (hX : ev S X = s) (hl : leaves s = some row)
    {sz : Nat} (hsz : j.size = sz) (hw : row.length = sz) (h24 : sz ≤ 16777216) (hj0 : 0 < sz) {q : Nat} (hq : S.obj q = none) (hq1 : 100 ≤ q) {hs : List (Nat × Nat × Leaf)} (hhs : holesOf 0 0 row = hs) :
    OpL P S o { dst := .one (.own q 0 1), sets := [(q, .reg e sz [row] hs)] } := by
  subst hhs hsz
  intro S' h1 h2 h3 C B a w hR hd
  have hX' := (h1 X (by simp [ho, Op.operands])).trans hX
  have hsx := ev_rep hR X
  rw [hX'] at hsx
  obtain ⟨hall, hone⟩ := leaves_rep hl hsx
  have hu := und_sl hT hi hd0
  obtain ⟨x, hx, hxs, _, z, hz, hzc⟩ := hT.infoAt hj
  generalize hcs0 : (Array.range (1 * x.size)).map (fun n => (z.cells)[n % z.cells.size]!) = cs0
  have hcs0s : cs0.size = j.size := by rw [← hcs0]; simp [hxs]
  have hvl : (a.eval X).cells.size = j.size := by have := hall.length; simp at this; omega
  have hprep : All2 (fun p (v : Nat × Value) => p.1 = v.1 ∧ All2 (fun l v => l = Leaf.g v) p.2 v.2.cells.toList) [(0, (a.eval X).cells.toList.map Leaf.g)] [(0, a.eval X)] :=
    ⟨⟨rfl, All2.of_get (by simp) fun y l v hy hv => by
      rw [List.getElem?_map, hv] at hy
      exact (Option.some.inj hy).symm⟩, trivial⟩
  have plg : ∀ l : List Value, plain (l.map Leaf.g) = true := fun l => by
    induction l with
    | nil => rfl
    | cons v l ih => exact ih
  have hro : rowsOf j.size [(0, (a.eval X).cells.toList.map Leaf.g)] 0 = some [(a.eval X).cells.toList.map Leaf.g] := by
    unfold rowsOf
    rw [if_pos ⟨rfl, by simp [hvl], plg _⟩]; rfl
  obtain ⟨os, f1, f2, _, _, f5⟩ := fill_rows (cs := cs0) hprep hro (by rw [hcs0s]; simp)
  have hcell : ∀ y, y < j.size → os[y]? = (a.eval X).cells[y]? := by
    intro y hy
    have h6 := f5 0 _ rfl
    obtain ⟨v, hv, hg⟩ := h6.get y (.g ((a.eval X).cells[y]'(by omega))) (by rw [List.getElem?_map]; simp [hvl, hy])
    cases hg
    simp only [Nat.zero_mul, List.drop_zero, Nat.add_zero] at hv
    rw [List.getElem?_take, if_pos hy] at hv
    have hv' : os[y]? = some ((a.eval X).cells[y]'(by omega)) := by simpa using hv
    rw [hv', Array.getElem?_eq_getElem (by omega)]
  have hrun : (Instr.buildSlice t 1 (#[(0, X)].map fun (i, x) => (i, a.eval x))).run P w = .ok (.slice (some ⟨w.heap.size, 0, none⟩) 1 1) (w.alloc (.cells os e)) := by
    have f1' : Instr.fill (fun i => some (i * x.size, x.size)) cs0 (#[(0, X)].map fun (i, x) => (i, a.eval x)).toList = some os := by rw [hxs]; simpa using f1
    exact run_buildSlice w t e 1 _ os x z hu hx hz (by rw [hxs]; omega) (by rw [hxs]; omega) (by rw [hcs0]; exact f1')
  refine good_new (n := os.size) hR (.cells os e) ((h3 q (by simp)).trans hq) hq1 hd (v := .slice (some ⟨w.heap.size, 0, none⟩) 1 1) (by simp only [execOp, ho, Sem.run_bind, hrun, Result.andThen_ok]; rfl) (fun hl' hr' => ?_) ?_
  · refine .inr ⟨w.heap.size, _, os, fun _ _ _ => False, set_same _ _ _, heap_alloc_new w _, rfl, fun c hc => ?_, by rw [f2, hcs0s]; simp, fun h => h.1 rfl, ?_⟩
    · obtain ⟨y, hy⟩ := List.getElem?_of_mem hc
      have hy' : os[y]? = some c := by simpa using hy
      have hyl := (Array.getElem?_eq_some_iff.1 hy').1
      rw [hcell y (by omega)] at hy'
      exact hone c (List.mem_of_getElem? (i := y) (by simpa using hy'))
    · have one : ∀ {i : Nat} {r : List Leaf}, [row][i]? = some r → i = 0 ∧ r = row := by
        intro i r hi
        cases i with
        | zero => simp at hi; exact ⟨rfl, hi.symm⟩
        | succ i => simp at hi
      have ov : ∀ (y : Nat) (l : Leaf), row[y]? = some l → ∃ v, os[0 * j.size + y]? = some v ∧ LRep w C.din S' B l v := by
        intro y l hy
        have hyl := (List.getElem?_eq_some_iff.1 hy).1
        obtain ⟨v, hv, hlr⟩ := hall.get y l hy
        refine ⟨v, ?_, hlr⟩
        rw [Nat.zero_mul, Nat.zero_add, hcell y (by omega)]
        simpa using hv
      refine ⟨fun r hr => ?_, fun i r y l hi hy hh => ?_, fun i r y l h hi hy hh => ?_, fun i j x hx => hx.elim, fun i j i' j' x hx _ => hx.elim⟩
      · simp at hr; subst hr; exact hw
      · obtain ⟨rfl, rfl⟩ := one hi
        rw [holesOf_at, if_pos (Nat.zero_le _), Nat.sub_zero, hy] at hh
        have hpl : plain [l] = true := by
          cases h9 : plain [l] with
          | true => rfl
          | false => simp [h9] at hh
        obtain ⟨v, hv, hlr⟩ := ov y l hy
        exact ⟨v, hv, (NL_flat hpl).2 (hr' l v (by cases l <;> simp [plain] at hpl <;> exact hlr))⟩
      · obtain ⟨rfl, rfl⟩ := one hi
        rw [holesOf_at, if_pos (Nat.zero_le _), Nat.sub_zero, hy] at hh
        have hhl : h = l := by
          cases h9 : plain [l] with
          | true => simp [h9] at hh
          | false => simp [h9] at hh; exact hh.symm
        subst hhl
        obtain ⟨v, hv, hlr⟩ := ov y h hy
        exact ⟨v, hv, hl' h v hlr⟩
  · exact ⟨e, j.size, [row], _, 1, arr_ofR (hs := holesOf 0 0 row) (by simp [sets_one_obj]), by simp, rfl, Nat.le_refl _, by unfold maxLen; omega, .inr ⟨w.heap.size, os.size, set_same _ _ _, by simp, by rw [f2, hcs0s]; simp⟩⟩

/-- One thing that names rows, put behind others that hold rows of their own. -/
theorem o_appR (hT : TabOk P T) {X Y : Operand} {t : TypeId} (ho : o.op = .call { callee := .builtin .append, args := #[X, Y], argTypes := #[t, t] }) {i j : TI} {e : TypeId} (hi : T t = some i) (hd0 : i.d = .sl e) (hj : T e = some j)
    {k k2 q sz len : Nat} {rows : List (List Leaf)} {row2 : List Leaf} {hs2 : List (Nat × Nat × Leaf)} {e2 : TypeId} (hX : ev S X = .one (.own k 0 len)) (hk : S.obj k = some (.reg e sz rows [])) (hlen : len = rows.length) (hY : ev S Y = .one (.own k2 0 1)) (hk2 : S.obj k2 = some (.reg e2 sz [row2] hs2)) (hsz : j.size = sz)
    (hpl2 : ∀ (y : Nat) (l : Leaf), row2[y]? = some l → holeAt hs2 0 y = none → plain [l] = true) (hq : S.obj q = none) (hq1 : 100 ≤ q) (hsum : (rows.length + 1) * j.bytes ≤ 140737488355328) (h63 : rows.length + 1 ≤ maxLen) {hs' : List (Nat × Nat × Leaf)} (hhs : (hs2.map fun h => (rows.length + h.1, h.2.1, kL [k] h.2.2)) = hs') :
    OpL P S o { dst := .one (.own q 0 (rows.length + 1)), reads := [k, k2], kills := [k], sets := [(q, .reg e sz (rows ++ [row2]) hs')] } := by
  subst hlen hsz hhs
  intro S' h1 h2 h3 C B a w hR hd
  have hX' := (h1 X (by simp [ho, Op.operands, Call.operands])).trans hX
  have hY' := (h1 Y (by simp [ho, Op.operands, Call.operands])).trans hY
  have hq' := (h3 q (by simp)).trans hq
  have hk' := (h2 k (by simp)).trans hk
  have hk2' := (h2 k2 (by simp)).trans hk2
  have hxr := ev_one hR hX'
  have hyr := ev_one hR hY'
  obtain ⟨ti, hti, hts, htb, z, hz, hzc⟩ := hT.infoAt hj
  have hz1 := hT.one _ _ hj
  obtain ⟨E', sz', rows', A, c, hka, hl1, hv, hlc, hcm, hpl⟩ := id hxr
  rw [arr_ofR hk'] at hka; cases hka
  obtain ⟨E', sz', rows', A2, c2, hka, hl2, hv2, hlc2, hcm2, hplY⟩ := id hyr
  rw [arr_ofR hk2'] at hka; cases hka
  have hkn : S'.obj k ≠ none := by simp [hk']
  -- the cells of the one
  obtain ⟨b2, n2, cs2, zf2, hb2, hh2, hcn2, hone2, hle2, hbz2, hreg2⟩ : ∃ b n cs zf, B k2 = some (b, n) ∧ w.heap[b]? = some (.cells cs e2 (0, 0)) ∧ cs.size = n ∧ (∀ c ∈ cs.toList, c.oneCell' = true) ∧ [row2].length * j.size ≤ n ∧ ¬ B.z k2 b ∧
      RegRows w (dep C.din S' B) (LRep w C.din S' B) j.size [row2] hs2 cs (B.z k2) zf := by
    rcases hR.objs k2 _ hk2' with ⟨h0, _⟩ | h
    · cases h0
    · exact h
  simp only [List.length_cons, List.length_nil, Nat.zero_add, Nat.one_mul] at hle2 hl2
  have hw2 : row2.length = j.size := hreg2.wide row2 (by simp)
  generalize hns : cs2.toList.take j.size = ns
  have hnl : ns.length = 1 * j.size := by rw [← hns]; simp; omega
  have hn1 : ∀ x ∈ ns, x.oneCell' = true := fun x hx => hone2 x (by rw [← hns] at hx; exact List.mem_of_mem_take hx)
  have hng : ∀ y, y < j.size → ns[y]? = cs2[y]? := fun y hy => by rw [← hns, List.getElem?_take, if_pos hy]; simp
  have hnsS : Src w j.size (a.eval Y) 1 ns := by
    refine ⟨A2, c2, hv2, hlc2, hcm2, hnl, hn1, ?_⟩
    rcases hplY with h0 | ⟨b, n, hb, hA, _⟩
    · omega
    · rw [hb2] at hb; cases hb
      refine .inr ⟨_, hA, fun y x hy => ?_⟩
      have hyl : y < j.size := by have := (List.getElem?_eq_some_iff.1 hy).1; omega
      rw [hng y hyl] at hy
      simp only [Nat.zero_mul, add_mk, cell_blk hh2, Nat.zero_add]
      exact hy
  -- the cells of the others
  obtain ⟨os, zf, hol, ho1, hosS, hW, p1, hzs, hza, hplace⟩ : ∃ (os : List Value) (zf : Nat → Nat → Nat → Prop), os.length = rows.length * j.size ∧ (∀ x ∈ os, x.oneCell' = true) ∧ Src w j.size (.slice A rows.length c) rows.length os ∧ (∀ r ∈ rows, r.length = j.size) ∧
      (∀ (i : Nat) (r : List Leaf) (y : Nat) (l : Leaf), rows[i]? = some r → r[y]? = some l → ∃ v, os[i * j.size + y]? = some v ∧ NL w (dep C.din S' B) l v (zf i y)) ∧ (∀ i y x, zf i y x → B.z k x) ∧ (∀ i y i' y' x, zf i y x → zf i' y' x → i = i' ∧ y = y') ∧
      (c = 0 ∨ ∃ b n cs, B k = some (b, n) ∧ A = some ⟨b, 0, none⟩ ∧ c * j.size ≤ n ∧ w.heap[b]? = some (.cells cs e (0, 0)) ∧ cs.size = n ∧ (∀ x ∈ cs.toList, x.oneCell' = true) ∧ ¬ B.z k b ∧ ∀ y, y < rows.length * j.size → os[y]? = cs[y]?) := by
    rcases hR.objs k _ hk' with ⟨h0, hb0, _⟩ | ⟨b, n, cs, zf, hb, hh, hcn, hone, hle, hbz, hreg⟩
    · subst h0
      refine ⟨[], fun _ _ _ => False, by simp, by simp, ⟨A, c, rfl, by simp, hcm, by simp, by simp, .inl rfl⟩, by simp, fun i r y l hi => by simp at hi, fun _ _ _ h => h.elim, fun _ _ _ _ _ h => h.elim, ?_⟩
      rcases hpl with h | ⟨b, n, hb, _⟩
      · exact .inl h
      · rw [hb0] at hb; cases hb
    · have hog : ∀ y, y < rows.length * j.size → (cs.toList.take (rows.length * j.size))[y]? = cs[y]? := fun y hy => by rw [List.getElem?_take, if_pos hy]; simp
      refine ⟨cs.toList.take (rows.length * j.size), zf, by simp; omega, fun x hx => hone x (List.mem_of_mem_take hx), ⟨A, c, rfl, hlc, hcm, by simp; omega, fun x hx => hone x (List.mem_of_mem_take hx), ?_⟩, hreg.wide, fun i r y l hi hy => ?_, hreg.sub, hreg.apart, ?_⟩
      · rcases hpl with h0 | ⟨b', n', hb', hA, _⟩
        · left; omega
        · rw [hb] at hb'; cases hb'
          refine .inr ⟨_, hA, fun y x hy => ?_⟩
          have hyl : y < rows.length * j.size := by
            have := (List.getElem?_eq_some_iff.1 hy).1
            rw [List.length_take] at this; omega
          rw [hog y hyl] at hy
          simp only [Nat.zero_mul, add_mk, cell_blk hh, Nat.zero_add]
          exact hy
      · obtain ⟨v, hv, hn⟩ := hreg.cell i r y l hi hy rfl
        have hil := (List.getElem?_eq_some_iff.1 hi).1
        have hrl := hreg.wide r (List.mem_of_getElem? hi)
        have hyl := (List.getElem?_eq_some_iff.1 hy).1
        have h6 : (i + 1) * j.size ≤ rows.length * j.size := Nat.mul_le_mul_right _ hil
        rw [Nat.succ_mul] at h6
        exact ⟨v, by rw [hog _ (by omega)]; exact hv, hn⟩
      · rcases hpl with h0 | ⟨b', n', hb', hA, hroom⟩
        · exact .inl h0
        · rw [hb] at hb'; cases hb'
          exact .inr ⟨b, n, cs, hb, by simpa using hA, by simpa using hroom, hh, hcn, hone, hbz, hog⟩
  have p2 : ∀ (y : Nat) (l : Leaf), row2[y]? = some l → holeAt hs2 0 y = none → plain [l] = true ∧ ∃ v, ns[y]? = some v ∧ RepL w (dep C.din S' B) l v := by
    intro y l hy hh
    obtain ⟨v, hv, hn⟩ := hreg2.cell 0 row2 y l rfl hy hh
    have hyl := (List.getElem?_eq_some_iff.1 hy).1
    have hp := hpl2 y l hy hh
    exact ⟨hp, v, by rw [hng y (by omega)]; simpa using hv, (NL_flat hp).1 hn⟩
  have p3 : ∀ (y : Nat) (l h : Leaf), row2[y]? = some l → holeAt hs2 0 y = some h → ∃ v, ns[y]? = some v ∧ LRep w C.din S' B h v := by
    intro y l h hy hh
    obtain ⟨v, hv, hn⟩ := hreg2.hole 0 row2 y l h rfl hy hh
    have hyl := (List.getElem?_eq_some_iff.1 hy).1
    exact ⟨v, by rw [hng y (by omega)]; simpa using hv, hn⟩
  obtain ⟨hfit, hgrow⟩ := run_append_cases (P := P) (ty := o.type) (und_sl hT hi hd0) hti hz (by rw [hts]; exact hosS) (by rw [hts]; exact hnsS) (by rw [htb]; exact hsum) h63
  have hexec : ∀ v w', (Builtin.append_ #[t, t] o.type #[.slice A rows.length c, a.eval Y]).run P w = .ok v w' → (execOp a.eval o).run P w = .ok (.value v) w' := by
    intro v w' h
    simp [execOp, ho, resolve, invoke, builtin, hv, h]
  generalize hobq : Ob.reg e j.size (rows ++ [row2]) (hs2.map fun h => (rows.length + h.1, h.2.1, kL [k] h.2.2)) = obq at *
  have objq : ((S'.kill [k]).sets [(q, obq)]).arr q = some (e, j.size, rows ++ [row2]) := by rw [← hobq]; exact arr_ofR (hs := hs2.map fun h => (rows.length + h.1, h.2.1, kL [k] h.2.2)) (by simp [sets_one_obj])
  have fin : ∀ {v : Value} {w' : World} {p : Option (Nat × Nat)}, (Builtin.append_ #[t, t] o.type #[.slice A rows.length c, a.eval Y]).run P w = .ok v w' →
      Rel C ((S'.kill [k]).sets [(q, obq)]) (B.setZ q p (B.z k)) a w' → LRep w' C.din ((S'.kill [k]).sets [(q, obq)]) (B.setZ q p (B.z k)) (.own q 0 (rows.length + 1)) v →
      Good P C S' a w o { dst := .one (.own q 0 (rows.length + 1)), reads := [k, k2], kills := [k], sets := [(q, obq)] } := by
    intro v w' p hrun hrel hl
    exact ⟨_, v, w', B.setZ q p (B.z k), hexec v w' hrun, .inl rfl, hrel.put o.dst _ v hl hd⟩
  have own1 : ∀ b, B.z k b → ∃ k' ∈ [k], S'.obj k' ≠ none ∧ Ow B k' b := fun b hb => ⟨k, by simp, hkn, .inr hb⟩
  have hzlt : ∀ x, B.z k x → x < w.heap.size := fun x hx => (hR.mineO k x hkn (.inr hx)).1
  rcases Nat.lt_or_ge c (rows.length + 1) with hg | hf
  · -- a new array
    have hcap := grownCap_ge w (rows.length + 1) c e h63
    generalize hcells : os.toArray ++ ns.toArray ++ Builtin.zeroCells z.cells (grownCap w (rows.length + 1) c e - (rows.length + 1)) = cells at hgrow
    have hzs' : z.cells.size = j.size := by have := hz1.1; rw [← hzc] at this; simpa using this
    have hcsz : cells.size = grownCap w (rows.length + 1) c e * j.size := by
      rw [← hcells]
      simp [Builtin.zeroCells, hol, hnl, hzs']
      rw [← Nat.succ_mul, ← Nat.add_mul]
      congr 1; omega
    have hget : ∀ y, cells[y]? = if y < rows.length * j.size then os[y]? else if y < rows.length * j.size + j.size then ns[y - rows.length * j.size]? else (Builtin.zeroCells z.cells (grownCap w (rows.length + 1) c e - (rows.length + 1)))[y - (rows.length * j.size + j.size)]? := by
      intro y
      rw [← hcells, Array.getElem?_append, Array.getElem?_append]
      simp only [Array.size_append, List.size_toArray, hol, hnl, List.getElem?_toArray, Nat.one_mul]
      by_cases hy1 : y < rows.length * j.size
      · rw [if_pos (by omega), if_pos hy1, if_pos hy1]
      · by_cases hy2 : y < rows.length * j.size + j.size
        · simp only [if_pos hy2, if_neg hy1]
        · simp only [if_neg hy2, if_neg hy1]
    have hone : ∀ x ∈ cells.toList, x.oneCell' = true := by
      intro x hx
      rw [← hcells] at hx
      simp at hx
      rcases hx with hx | hx | hx
      · exact ho1 x hx
      · exact hn1 x hx
      · simp [Builtin.zeroCells] at hx
        obtain ⟨y, hy, rfl⟩ := hx
        have hz0 : 0 < z.cells.size := by
          rcases Nat.eq_zero_or_pos z.cells.size with h | h
          · rw [h] at hy; simp at hy
          · exact h
        have hym : y % z.cells.size < z.cells.size := Nat.mod_lt _ hz0
        rw [getElem!_pos z.cells (y % z.cells.size) hym]
        exact hz1.2 _ (by rw [← hzc]; simp)
    have hrel := Rel.moveZ (w' := w.drew.alloc (.cells cells e)) hR (ks := [k]) (ob := obq) (p := some (w.heap.size, cells.size)) (Z := B.z k) hq' hq1 rfl rfl rfl (by simp) (fun x hx _ => Below.heap_alloc w.drew _ x hx)
      (fun b n hb => by cases hb; exact .inr ⟨Nat.le_refl _, by simp⟩) own1 (fun e1 er => by
        rw [← hobq]
        refine .inr ⟨w.heap.size, cells.size, cells, fun i j x => i < rows.length ∧ zf i j x, by simp [Pl.setZ], heap_alloc_new w.drew _, rfl, hone, by rw [hcsz, List.length_append]; exact Nat.mul_le_mul_right _ hcap.1, fun h => ?_, ?_⟩
        · have h : (if q = q then B.z k w.heap.size else B.z q w.heap.size) := h
          rw [if_pos rfl] at h
          have := hzlt _ h; omega
        · have ez : (B.setZ q (some (w.heap.size, cells.size)) (B.z k)).z q = B.z k := by funext x; simp [Pl.setZ]
          rw [ez]
          rw [hobq]
          exact regRows_app hW hw2 p1 p2 p3 hzs hza er e1 (fun x hx => Below.heap_alloc w.drew _ x (hzlt x hx)) (fun y hy => by rw [hget, if_pos hy]) (fun y hy => by rw [hget, if_neg (by omega), if_pos (by omega), Nat.add_sub_cancel_left]))
    exact fin (hgrow hg) hrel ⟨e, j.size, _, some ⟨w.heap.size, 0, none⟩, grownCap w (rows.length + 1) c e, objq, by simp; exact hcap.1, rfl, hcap.1, hcap.2, .inr ⟨w.heap.size, cells.size, by simp [Pl.setZ], by simp, by rw [hcsz]; simp⟩⟩
  · have hrunf := hfit hf
    rcases hplace with h0 | ⟨b, n, cs, hb, hA, hroom, hh, hcn, hone, hbz, hog⟩
    · omega
    · -- in place
      subst hA
      have hsz : rows.length * j.size + j.size ≤ c * j.size := by rw [← Nat.succ_mul]; exact Nat.mul_le_mul_right _ hf
      have hnl' : ns.length = j.size := by omega
      have hst : (storeCells ⟨b, rows.length * j.size, none⟩ ns).run P w = .ok () (w.setCells b (rows.length * j.size) ns) := by
        have := run_storeCells_cells (P := P) b (rows.length * j.size) ns 0 w (fun y hy => by
          rw [show rows.length * j.size + 0 + y = rows.length * j.size + y from by omega, cell_blk hh]; simp; omega) (fun y hy => frozen_blk hh _) hn1
        simpa using this
      have hrun1 : (Builtin.append_ #[t, t] o.type #[.slice (some ⟨b, 0, none⟩) rows.length c, a.eval Y]).run P w = .ok (.slice (some ⟨b, 0, none⟩) (rows.length + 1) c) (w.setCells b (rows.length * j.size) ns) := by
        rw [hrunf]
        simp [add_mk, hts, hst]
      obtain ⟨cs', hh', hs', hget⟩ := setCells_heap b e ns (rows.length * j.size) w cs hh
      obtain ⟨e1, e2, e3, e4⟩ := setCells_same b ns (rows.length * j.size) w
      have hrel := Rel.moveZ (w' := w.setCells b (rows.length * j.size) ns) hR (ks := [k]) (ob := obq) (p := some (b, n)) (Z := B.z k) hq' hq1 e1 e2 e3 (by omega)
        (fun x hx hne => setCells_other b _ _ _ x fun ex => hne k (by simp) hkn (by rw [ex]; exact .at hb))
        (fun b' n' hb' => by cases hb'; exact .inl ⟨k, by simp, hkn, .at hb⟩) own1
        (fun el er => by
          rw [← hobq]
          refine .inr ⟨b, n, cs', fun i j x => i < rows.length ∧ zf i j x, by simp [Pl.setZ], hh', by omega, ?_, by rw [List.length_append]; simp only [List.length_cons, List.length_nil, Nat.zero_add]; rw [Nat.succ_mul]; omega, fun h => ?_, ?_⟩
          · intro x hx
            obtain ⟨y, hy⟩ := List.getElem?_of_mem hx
            have hy' : cs'[y]? = some x := by simpa using hy
            rw [hget] at hy'
            split at hy'
            · exact hn1 x (List.mem_of_getElem? hy')
            · exact hone x (List.mem_of_getElem? (i := y) (by simpa using hy'))
          · have h : (if q = q then B.z k b else B.z q b) := h
            rw [if_pos rfl] at h
            exact hbz h
          · have ez : (B.setZ q (some (b, n)) (B.z k)).z q = B.z k := by funext x; simp [Pl.setZ]
            rw [ez, hobq]
            refine regRows_app hW hw2 p1 p2 p3 hzs hza er el (fun x hx => setCells_other b _ _ _ x fun ex => hbz (ex ▸ hx)) (fun y hy => ?_) (fun y hy => ?_)
            · rw [hget, if_neg (by omega), hog y hy]
            · rw [hget, if_pos (by omega), Nat.add_sub_cancel_left])
      exact fin hrun1 hrel ⟨e, j.size, _, some ⟨b, 0, none⟩, c, objq, by simp; exact hf, rfl, hf, hcm, .inr ⟨b, n, by simp [Pl.setZ], by simp, by simpa using hroom⟩⟩

/-- A store into such rows, also over what had been taken out. -/
theorem o_store_regH (hT : TabOk P T) {t : TypeId} {A X : Operand} (ho : o.op = .store t A X) (hd0 : o.dst = none) {i : TI} (hi : T t = some i) {q r j E sz : Nat} {rows : List (List Leaf)} {hs : List (Nat × Nat × Leaf)} {row new : List Leaf} (hA : ev S A = .one (.elm q r j))
    (hq : S.obj q = some (.reg E sz rows hs)) (hrow : rows[r]? = some row) {s : Slot} (hX : ev S X = s) (hn : leaves s = some new) (hk : new.length = i.size ∧ j + i.size ≤ sz) (hno : ∀ k, j ≤ k → k < j + new.length → holeAt hs r k = none ∨ ∃ l, new[k - j]? = some l ∧ plain [l] = false) {rows' : List (List Leaf)} (hr : rows.set r (regSt row j new) = rows') {hs' : List (Nat × Nat × Leaf)} (hhs : ∀ i k, holeAt hs' i k = holeAt (holesOf r j new ++ hs) i k) :
    OpL P S o { reads := [q], sets := [(q, .reg E sz rows' hs')] } := by
  subst hr
  intro S' h1 h2 h3 C B a w hR hd
  have hA' := (h1 A (by simp [ho, Op.operands])).trans hA
  have hX' := (h1 X (by simp [ho, Op.operands])).trans hX
  have hq' := (h2 q (by simp)).trans hq
  obtain ⟨E', sz', rows', b, n, hq2, hlt, hb2, hv⟩ := ev_one hR hA'
  rw [arr_ofR hq'] at hq2; cases hq2
  rcases hR.objs q _ hq' with ⟨h0, _⟩ | ⟨b', n', cs, zf, hb3, hh, hcn, hone0, hle, hbz, hreg⟩
  · subst h0; simp at hrow
  rw [hb2] at hb3; cases hb3
  have h6 : (r + 1) * sz ≤ rows.length * sz := Nat.mul_le_mul_right _ hlt
  rw [Nat.succ_mul] at h6
  have hl : row.length = sz := hreg.wide row (List.mem_of_getElem? hrow)
  have hsx := ev_rep hR X
  rw [hX'] at hsx
  obtain ⟨hall, hone⟩ := leaves_rep hn hsx
  have hcsz : (a.eval X).cells.size = i.size := by have := hall.length; simp at this; omega
  have hrun := run_storeAt (P := P) (k := r * sz + j) hT hi hh hcsz (by omega) hone
  refine ⟨.skip, undef, w.setCells b (r * sz + j) (a.eval X).cells.toList, B, by simp [execOp, ho, hv, hrun], .inr ⟨rfl, rfl⟩, ?_⟩
  rw [hd0]
  show Rel C (S'.sets [(q, .reg E sz (rows.set r (regSt row j new)) hs')]) B a _
  obtain ⟨cs', hh', hcsz2, hg⟩ := setCells_heap b E (a.eval X).cells.toList (r * sz + j) w cs hh
  obtain ⟨e1, e2, e3, e4⟩ := setCells_same b (a.eval X).cells.toList (r * sz + j) w
  have hvl : (a.eval X).cells.toList.length = new.length := hall.length.symm
  refine hR.turn hq' hb2 (by simp [SameShape]) e1 e2 e3 e4 (fun x hx => setCells_other b _ _ _ x hx) fun hl' hr' => ?_
  have hkeepz : ∀ x, B.z q x → (w.setCells b (r * sz + j) (a.eval X).cells.toList).heap[x]? = w.heap[x]? := fun x hx => setCells_other b _ _ _ x fun e => hbz (by rw [← e]; exact hx)
  have hcell : ∀ x k, k < sz → ¬ (x = r ∧ j ≤ k ∧ k < j + new.length) → x < rows.length → cs'[x * sz + k]? = cs[x * sz + k]? := by
    intro x k hk' hne hx
    rw [hg, if_neg]
    rintro ⟨g1, g2, _⟩
    apply hne
    have hxr : x = r := by
      rcases Nat.lt_trichotomy x r with h | h | h
      · have : (x + 1) * sz ≤ r * sz := Nat.mul_le_mul_right _ h
        rw [Nat.succ_mul] at this; omega
      · exact h
      · have : (r + 1) * sz ≤ x * sz := Nat.mul_le_mul_right _ h
        rw [Nat.succ_mul] at this; omega
    subst hxr
    exact ⟨rfl, by omega, by omega⟩
  have hinside : ∀ k, j ≤ k → k < j + new.length → ∀ l, new[k - j]? = some l → ∃ v, cs'[r * sz + k]? = some v ∧ LRep w C.din S' B l v := by
    intro k k1 k2 l hln
    obtain ⟨v, hv1, hv2⟩ := hall.get _ l hln
    refine ⟨v, ?_, hv2⟩
    rw [hg, if_pos (by omega), show r * sz + k - (r * sz + j) = k - j from by omega]
    exact hv1
  have hget : ∀ (i' : Nat) (r' : List Leaf) (k : Nat) (l : Leaf), (rows.set r (regSt row j new))[i']? = some r' → r'[k]? = some l → k < sz ∧ i' < rows.length ∧ ((i' = r ∧ j ≤ k ∧ k < j + new.length ∧ ∃ ln l0, new[k - j]? = some ln ∧ row[k]? = some l0 ∧ l = pickL ln l0) ∨ (¬ (i' = r ∧ j ≤ k ∧ k < j + new.length) ∧ ∃ r0, rows[i']? = some r0 ∧ r0[k]? = some l)) := by
    intro i' r' k l hi' hk'
    rw [List.getElem?_set] at hi'
    by_cases hir : r = i'
    · subst hir
      rw [if_pos rfl, if_pos hlt] at hi'
      cases hi'
      have hkl : k < sz := by rw [← hl, ← regSt_length row j new]; exact (List.getElem?_eq_some_iff.1 hk').1
      refine ⟨hkl, hlt, ?_⟩
      rw [regSt_get] at hk'
      by_cases hin : j ≤ k ∧ k < j + new.length
      · left
        rw [if_pos hin.1, pickLs_get] at hk'
        have g1 : new[k - j]? = some (new[k - j]'(by omega)) := List.getElem?_eq_getElem (by omega)
        have g2 : row[k]? = some (row[k]'(by omega)) := List.getElem?_eq_getElem (by omega)
        have g3 : (row.drop j)[k - j]? = row[k]? := by rw [List.getElem?_drop]; congr 1; omega
        rw [g1, g3, g2] at hk'
        exact ⟨rfl, hin.1, hin.2, _, _, g1, g2, (Option.some.inj hk').symm⟩
      · right
        refine ⟨fun h => hin h.2, row, hrow, ?_⟩
        by_cases hjk : j ≤ k
        · rw [if_pos hjk, pickLs_get, List.getElem?_eq_none (l := new) (by omega), List.getElem?_drop, show j + (k - j) = k from by omega] at hk'
          exact hk'
        · rwa [if_neg hjk] at hk'
    · rw [if_neg hir] at hi'
      have := hreg.wide r' (List.mem_of_getElem? hi')
      exact ⟨by rw [← this]; exact (List.getElem?_eq_some_iff.1 hk').1, (List.getElem?_eq_some_iff.1 hi').1, .inr ⟨fun h => hir h.1.symm, r', hi', hk'⟩⟩
  have hholes : ∀ i' k, holeAt hs' i' k = if i' = r ∧ j ≤ k ∧ k < j + new.length then ((new[k - j]?).bind fun l => if plain [l] = true then none else some l) else holeAt hs i' k := by
    intro i' k
    rw [hhs, holeAt_append]
    by_cases hir : i' = r
    · subst hir
      rw [holesOf_at]
      by_cases hjk : j ≤ k
      · rw [if_pos hjk]
        by_cases hkn : k < j + new.length
        · rw [if_pos ⟨rfl, hjk, hkn⟩]
          rcases hno k hjk hkn with h | ⟨l, h, hp⟩
          · rw [h, Option.or_none]
          · rw [h]; simp [hp]
        · rw [if_neg fun h => hkn h.2.2, List.getElem?_eq_none (by omega)]; rfl
      · rw [if_neg hjk, if_neg fun h => hjk h.2.1]; rfl
    · rw [holesOf_ne hir, if_neg fun h => hir h.1]; rfl
  refine .inr ⟨b, n, cs', fun i' k x => zf i' k x ∧ ¬ (i' = r ∧ j ≤ k ∧ k < j + new.length), hb2, hh', by omega, ?_, by simpa using hle, hbz, fun r' hr'' => ?_, fun i' r' k l hi' hk' hhole => ?_, fun i' r' k l h' hi' hk' hhole => ?_, fun i' k x hx => hreg.sub i' k x hx.1, fun i1 k1 i2 k2 x hx hx' => hreg.apart _ _ _ _ x hx.1 hx'.1⟩
  · intro c hc
    obtain ⟨y, hy⟩ := List.getElem?_of_mem hc
    have hy' : cs'[y]? = some c := by simpa using hy
    rw [hg] at hy'
    split at hy'
    · exact hone c (List.mem_of_getElem? hy')
    · exact hone0 c (List.mem_of_getElem? (i := y) (by simpa using hy'))
  · rcases List.mem_or_eq_of_mem_set hr'' with h | h
    · exact hreg.wide r' h
    · rw [h, regSt_length]; exact hl
  · rw [hholes] at hhole
    obtain ⟨hks, hil, hcase⟩ := hget i' r' k l hi' hk'
    rcases hcase with ⟨rfl, g1, g2, ln, l0, g3, g4, g5⟩ | ⟨g1, r0, g2, g3⟩
    · rw [if_pos ⟨rfl, g1, g2⟩, g3] at hhole
      have hpl : plain [ln] = true := by
        cases hp : plain [ln] with
        | true => rfl
        | false => simp [hp] at hhole
      obtain ⟨v, hv1, hv2⟩ := hinside k g1 g2 ln g3
      have hll : l = ln := by rw [g5]; cases ln <;> simp [plain] at hpl <;> rfl
      have hrep : RepL w (dep C.din S' B) ln v := by cases ln <;> simp [plain] at hpl <;> exact hv2
      exact ⟨v, hv1, by rw [hll]; exact (NL_flat hpl).2 (hr' _ _ hrep)⟩
    · rw [if_neg g1] at hhole
      obtain ⟨v, hv1, hv2⟩ := hreg.cell i' r0 k l g2 g3 hhole
      exact ⟨v, (hcell i' k hks g1 hil).trans hv1, NL_mono hr' l v _ _ (fun x hx => ⟨hx, g1⟩) (fun x hx => hkeepz x (hreg.sub _ _ x hx)) hv2⟩
  · rw [hholes] at hhole
    obtain ⟨hks, hil, hcase⟩ := hget i' r' k l hi' hk'
    rcases hcase with ⟨rfl, g1, g2, ln, l0, g3, g4, g5⟩ | ⟨g1, r0, g2, g3⟩
    · rw [if_pos ⟨rfl, g1, g2⟩, g3] at hhole
      have hln : h' = ln := by
        simp only [Option.bind_some] at hhole
        split at hhole
        · cases hhole
        · exact (Option.some.inj hhole).symm
      obtain ⟨v, hv1, hv2⟩ := hinside k g1 g2 ln g3
      exact ⟨v, hv1, by rw [hln]; exact hl' _ _ hv2⟩
    · rw [if_neg g1] at hhole
      obtain ⟨v, hv1, hv2⟩ := hreg.hole i' r0 k l h' g2 g3 hhole
      exact ⟨v, (hcell i' k hks g1 hil).trans hv1, hl' _ _ hv2⟩

/-- The rows that such rows hold are frozen. -/
theorem Rel.freezeN {S : St} {C : Ctx} {B : Pl} {a : Act} {w : World} (hR : Rel C S B a w) {q : Nat} {E : TypeId} {sz : Nat} {rows : List (List Leaf)} (hq : S.obj q = some (.reg E sz rows [])) :
    ∃ B', Rel C (S.sets [(q, .arr E sz (unNss rows))]) B' a w := by
  have hobj := sets_one_obj S q (.arr E sz (unNss rows))
  have hql : S.obj q ≠ none := by simp [hq]
  have live : ∀ o, (S.sets [(q, Ob.arr E sz (unNss rows))]).obj o ≠ none → S.obj o ≠ none := by
    intro o h; rw [hobj] at h
    by_cases e : o = q
    · subst e; simp [hq]
    · rwa [if_neg e] at h
  have hOw : ∀ o b, Ow ⟨B.f, fun x b => x ≠ q ∧ B.z x b⟩ o b → Ow B o b := fun o b h => h.elim (fun h => .inl h) fun h => .inr h.2
  have hne : ∀ o, o ≠ q → (S.sets [(q, Ob.arr E sz (unNss rows))]).obj o = S.obj o := fun o h => by rw [hobj, if_neg h]
  have hsame : ∀ o ob, S.obj o = some ob → ∃ ob', (S.sets [(q, Ob.arr E sz (unNss rows))]).obj o = some ob' ∧ SameShape ob ob' := by
    intro o ob ho
    by_cases e : o = q
    · subst e; rw [hq] at ho; cases ho; exact ⟨_, by rw [hobj, if_pos rfl], by simp [SameShape, unNss_length]⟩
    · exact ⟨ob, (hne o e).trans ho, SameShape.refl ob⟩
  refine ⟨⟨B.f, fun x b => x ≠ q ∧ B.z x b⟩, hR.recast rfl rfl rfl (Nat.le_refl _) (fun _ _ _ => rfl) (fun o b ho hb => .inl ⟨o, live o ho, hOw o b hb⟩) (fun o o' b h h' hb hb' => hR.injO o o' b (live o h) (live o' h') (hOw o b hb) (hOw o' b hb')) (fun o _ ho => ?_) fun er hd => ?_⟩
  · obtain ⟨ob, hob⟩ := Option.ne_none_iff_exists'.1 (live o ho)
    obtain ⟨ob', h1, h2⟩ := hsame o ob hob
    exact ⟨rfl, ob, ob', hob, h1, h2⟩
  · have hd' : ∀ b, dep C.din S B b → dep C.din (S.sets [(q, Ob.arr E sz (unNss rows))]) ⟨B.f, fun x b => x ≠ q ∧ B.z x b⟩ b := fun b h => ⟨h.1, fun o ho hb => h.2 o (live o ho) (hOw o b hb)⟩
    have e : ∀ l v, LRep w C.din S B l v → LRep w C.din (S.sets [(q, Ob.arr E sz (unNss rows))]) ⟨B.f, fun x b => x ≠ q ∧ B.z x b⟩ l v := fun l v h =>
      LRep.step (Nat.le_refl _) (fun _ _ _ => rfl) (fun b h _ => hd' b h) (fun o ob ho => ⟨rfl, hsame o ob ho⟩) h
    refine ⟨fun t => SRep.mono e (hR.slots t), fun o ob ho => ?_⟩
    by_cases eo : o = q
    · subst eo
      rw [hobj, if_pos rfl] at ho; cases ho
      rcases hR.objs o _ hq with ⟨h1, h2, _⟩ | ⟨b, n, cs, zf, hb, hh, hn, h1, h2, hbz, h3⟩
      · subst h1; exact .inl ⟨rfl, h2⟩
      · have hzd : ∀ x, B.z o x → dep C.din (S.sets [(o, Ob.arr E sz (unNss rows))]) ⟨B.f, fun x b => x ≠ o ∧ B.z x b⟩ x := fun x hx => by
          refine ⟨(hR.mineO o x hql (.inr hx)).2.2, fun o' ho' hx' => ?_⟩
          by_cases e' : o' = o
          · subst e'
            rcases hx' with ⟨m, hm⟩ | hm
            · have hm : B o' = some (x, m) := hm
              rw [hb] at hm; cases hm; exact hbz hx
            · exact hm.1 rfl
          · exact e' (hR.injO o' o x (live o' ho') hql (hOw o' x hx') (.inr hx))
        refine .inr ⟨b, n, cs, hb, hh, hn, h1, by rw [unNss_length]; exact h2, fun i r hi => ?_⟩
        rw [unNss_get] at hi
        obtain ⟨r0, hr0, rfl⟩ := Option.map_eq_some_iff.1 hi
        have hw := h3.wide r0 (List.mem_of_getElem? hr0)
        have hil := (List.getElem?_eq_some_iff.1 hr0).1
        have h6 : (i + 1) * sz ≤ rows.length * sz := Nat.mul_le_mul_right _ hil
        rw [Nat.succ_mul] at h6
        refine All2.of_get (by simp [unNs_length, hw]; omega) fun j l v hj hv => ?_
        rw [unNs_get] at hj
        obtain ⟨l0, hl0, rfl⟩ := Option.map_eq_some_iff.1 hj
        have hjl : j < sz := by rw [← hw]; exact (List.getElem?_eq_some_iff.1 hl0).1
        obtain ⟨u, hu, hnl⟩ := h3.cell i r0 j l0 hr0 hl0 rfl
        rw [List.getElem?_take, if_pos hjl, List.getElem?_drop] at hv
        have hv' : cs[i * sz + j]? = some v := by simpa using hv
        rw [hu] at hv'; cases hv'
        exact NL_rep er l0 _ (zf i j) (fun x hx => hzd x (h3.sub i j x hx)) hnl
    · rw [hne o eo] at ho
      exact (hR.objs o ob ho).other rfl (by funext b; simp [eo]) e er fun _ _ => rfl
theorem wk_freezeN (n : Nat) {L : LS} {q E sz : Nat} {rows rows' : List (List Leaf)} (hq : L.st.obj q = some (.reg E sz rows [])) (hr : unNss rows = rows') : Wk n L.st (LS.st ⟨L.ts, (q, .arr E sz rows') :: L.os, L.ks⟩) := by
  subst hr
  intro C B a w hn hR
  obtain ⟨B', h⟩ := hR.freezeN hq
  have e : L.st.sets [(q, .arr E sz (unNss rows))] = LS.st ⟨L.ts, (q, .arr E sz (unNss rows)) :: L.os, L.ks⟩ := (LS.st_sets L [(q, .arr E sz (unNss rows))]).symm
  exact ⟨B', by rw [← e]; exact h⟩
theorem VL.wkR (id : Nat) {P : Program} {n : Nat} {ops : Array Oper} {L L' : LS} {K : Exit → LS → Prop} (hw : Wk n L.st L'.st) (h : VL P n (.region id ops true) L' K) : VL P n (.region id ops true) L K := VL.wk hw h
end
end Go.Vl

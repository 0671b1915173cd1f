/- Law: what goes with a row of a base: the program's is the reference's; what it gives back is its own. Law: what goes with a row of a base: the program's is the reference's; what it gives back is its own. -/
import Derived.Test.YtdijjjgplhbkkaaGreatDoorJDo
set_option linter.unusedSimpArgs false
set_option linter.unusedVariables false

namespace Go.Vl
open Go Go.RowKit Go.Proofs
set_option maxRecDepth 100000
set_option linter.unusedSimpArgs false
set_option linter.unusedVariables false
set_option maxHeartbeats 8000000

theorem tabsW_take (ts : List VTab) : ∀ i, tabsW (ts.take i) ≤ tabsW ts := by
  induction ts with
  | nil => intro i; simp
  | cons t ts ih =>
    intro i
    cases i with
    | zero => simp [tabsW]
    | succ i => have := ih i; simp only [List.take_succ_cons, tabsW]; omega
theorem c_markTabs (l : List VTab) (k : Nat) (hl : l.length ≤ 3000000) (hm : ∀ x ∈ l, x.table.md) (hk1 : 1 ≤ k) (hk : k + tabsW l ≤ 1000000000) : CallsV Tryz.prog 108 [.one (.own 0 0 l.length), iS k] [.reg 77 5 (l.map encVTabN) []]
    (relQ (fun M : List VTab => True) (fun _ => iS ((k + tabsW l : Nat) : Int)) (fun M => [some (.reg 77 5 (M.map encVTabN) [])]) (fun _ => [])) := by
  refine funF_walk hTb Tryz.func108 rfl rfl Tryz.ntmps108 (by simp) (by simp) ?_
  (conv => whnf); repeat' (first | (refine And.intro ?_ ?_ <;> ((try intro h) <;> (try simp only [Bool.not_true, Bool.not_false] at h) <;> first | exact absurd h Bool.false_ne_true | exact absurd h.symm Bool.false_ne_true | conv => whnf)) | (refine Need.mk ?_; kernel_rfl) | (refine Need.mk ⟨rfl, ?_⟩; decide))
  refine VL.loopI hTb (α := Nat × List VTab) (fun x => x.1 ≤ l.length ∧ x.2.length = l.length ∧ ∀ j, x.1 ≤ j → x.2[j]? = l[j]?) (fun x => ⟨[(0, .one (.own 0 0 l.length)), (1, iS ((k + tabsW (l.take x.1) : Nat) : Int)), (5, iS x.1)], [(0, .reg 77 5 (x.2.map encVTabN) [])], []⟩) (fun x => l.length - x.1) (0, l) ⟨Nat.zero_le _, rfl, fun _ _ => rfl⟩
    (wk_to [(0, 0)] rfl rfl rfl ⟨rfl, rfl, rfl, trivial⟩ ⟨rfl, ⟨_, rfl, rfl⟩, trivial⟩) (fun x hx => ?_)
  obtain ⟨i, M⟩ := x
  obtain ⟨hi, hM, hMe⟩ := hx
  simp only at hi hM hMe
  (conv => whnf)
  refine And.intro (fun h2 => ?_) (fun h2 => ?_)
  · have hlt : i < l.length := by simpa using h2
    have hat : M[0 + ((i : Nat) : Int).toNat]? = some l[i] := by rw [Int.toNat_natCast, Nat.zero_add, hMe i (Nat.le_refl _)]; exact List.getElem?_eq_getElem _
    have hmd := hm _ (List.getElem_mem hlt)
    have hst := tabsW_step l i hlt
    have htk := tabsW_take l (i + 1)
    generalize l[i] = ci at hat hmd hst
    obtain ⟨tn, ⟨first, changes, rows, next⟩⟩ := ci
    have hfc := hmd.fc
    have hrl := hmd.r
    have hrm := hmd.rm
    simp only at hfc hrl hrm
    unfold tW tabW at hst
    simp only at hst
    obtain ⟨K, hK⟩ : ∃ K, k + tabsW (l.take i) = K := ⟨_, rfl⟩
    have e4 : k + tabsW (l.take (i + 1)) = K + 1 + 7 * first.length + 10 * changes.length + rowsW (lens rows) + 1 := by omega
    have w1 : IntKind.i64.wrap ((K : Int) + 1) = ((K + 1 : Nat) : Int) := by rw [IntKind.wrap_i64]; omega
    have w2 : IntKind.i64.wrap (((K + 1 + 7 * first.length + 10 * changes.length + rowsW (lens rows) : Nat) : Int) + 1) = ((K + 1 + 7 * first.length + 10 * changes.length + rowsW (lens rows) + 1 : Nat) : Int) := by rw [IntKind.wrap_i64]; omega
    have cM := c_markText K (by omega) (by omega)
    have mC := c_markCols first (K + 1) (by omega) (by omega) (by omega)
    have mH := c_markChanges changes (K + 1 + 7 * first.length) (by omega) (by omega) (by omega)
    have mR := c_markRows rows (K + 1 + 7 * first.length + 10 * changes.length) (by omega) (fun x hx => by have := (hrm x hx).1; omega) (by omega) (by omega)
    rw [← w1] at mC
    rw [hK]
    (conv => whnf); repeat' (first
    | (refine And.intro ?_ ?_ <;> ((try intro h) <;> (try simp only [Bool.not_true, Bool.not_false, decide_eq_true_eq, decide_eq_false_iff_not, Int.not_lt, Int.not_le, gt_iff_lt, ge_iff_le] at h) <;> first | exact absurd h Bool.false_ne_true | exact absurd h.symm Bool.false_ne_true | conv => whnf))
    | (refine VL.drawS hTb hMix (by kernel_rfl) (by kernel_rfl) (by kernel_rfl) ?_; conv => whnf)
    | (refine Need.mk ?_; kernel_rfl) | (refine Need.mk ⟨rfl, ?_⟩; decide)
    | (refine VR.pure hTb rfl rfl (o_purN (cM) rfl rfl rfl ⟨rfl, rfl, rfl, rfl⟩ rfl) ?_; conv => whnf)
    | (refine DT.pure hTb rfl (o_purN (cM) rfl rfl rfl ⟨rfl, rfl, rfl, rfl⟩ rfl) ?_; conv => whnf)
    | (refine Need.mk ?_; exact ⟨rfl, by omega, by omega⟩)
    | (refine VR.op hTb rfl rfl (o_store_regM hTb rfl rfl rfl rfl rfl hat rfl rfl ⟨rfl, by decide⟩ (fun _ _ _ => rfl) (c' := ⟨_, ⟨_, _, _, _⟩⟩) rfl) rfl ?_; conv => whnf)
    | (refine VR.op hTb rfl rfl (o_load_outL (v := 125) (len := first.length) hTb rfl rfl rfl rfl rfl (by rw [List.getElem?_map, gset hat]; rfl) rfl (by simp) rfl rfl (by decide) (.inr ⟨rfl, plainCols _⟩)) rfl ?_; conv => whnf)
    | (refine VR.fun hTb rfl rfl (o_funN (mC) false [125] (fun h => by cases h) (by simp) rfl rfl rfl rfl rfl ⟨rfl, rfl, rfl, rfl⟩ rfl rfl) ?_; conv => whnf)
    | (refine DT.fun hTb rfl (o_funN (mC) false [125] (fun h => by cases h) (by simp) rfl rfl rfl rfl rfl ⟨rfl, rfl, rfl, rfl⟩ rfl rfl) rfl ?_; conv => whnf)
    | (refine VR.op hTb rfl rfl (o_load_outL (v := 133) (len := changes.length) hTb rfl rfl rfl rfl rfl (by rw [List.getElem?_map, gset hat]; rfl) rfl (by simp) (by simp [holeAt]) rfl (by decide) (.inr ⟨rfl, plainChanges _⟩)) rfl ?_; conv => whnf)
    | (refine VR.fun hTb rfl rfl (o_funN (mH) false [133] (fun h => by cases h) (by simp) rfl rfl rfl rfl rfl ⟨rfl, rfl, rfl, rfl⟩ rfl rfl) ?_; conv => whnf)
    | (refine DT.fun hTb rfl (o_funN (mH) false [133] (fun h => by cases h) (by simp) rfl rfl rfl rfl rfl ⟨rfl, rfl, rfl, rfl⟩ rfl rfl) rfl ?_; conv => whnf)
    | (refine VR.op hTb rfl rfl (o_load_outL (v := 141) (len := rows.length) hTb rfl rfl rfl rfl rfl (by rw [List.getElem?_map, gset hat]; rfl) rfl (by simp) (by simp [holeAt]) rfl (by decide) (.inl rfl)) rfl ?_; conv => whnf)
    | (refine VR.fun hTb rfl rfl (o_funN (mR) false [141] (fun h => by cases h) (by simp) rfl rfl rfl rfl rfl ⟨rfl, rfl, rfl, rfl⟩ rfl rfl) ?_; conv => whnf)
    | (refine DT.fun hTb rfl (o_funN (mR) false [141] (fun h => by cases h) (by simp) rfl rfl rfl rfl rfl ⟨rfl, rfl, rfl, rfl⟩ rfl rfl) rfl ?_; conv => whnf)
    | (refine VR.op hTb rfl rfl (o_store_regM hTb rfl rfl rfl rfl rfl (gset hat) rfl rfl ⟨rfl, by decide⟩ (fun k g1 g2 => by (have g3 : k = 4 := by (simp at g2; omega)); subst g3; simp [holeAt]) (c' := ⟨_, ⟨_, _, _, _⟩⟩) rfl) rfl ?_; conv => whnf))
    obtain ⟨T, hT⟩ : ∃ T, K + 1 + 7 * first.length + 10 * changes.length + rowsW (lens rows) = T := ⟨_, rfl⟩
    rw [hT] at w2 e4 ⊢
    refine ⟨(i + 1, ((M.set (0 + ((i : Nat) : Int).toNat) ⟨markT K, ⟨first, changes, rows, next⟩⟩).set (0 + ((i : Nat) : Int).toNat) ⟨markT K, ⟨first, changes, rows, T⟩⟩).set (0 + ((i : Nat) : Int).toNat) ⟨markT K, ⟨mkCols first.length (K + 1), mkChanges changes.length (K + 1 + 7 * first.length), mkRows (lens rows) (K + 1 + 7 * first.length + 10 * changes.length), T⟩⟩),
      ⟨hlt, (by simp only [List.length_set]; exact hM), fun j hj => (by simp only at hj; rw [List.set_set, List.set_set, List.getElem?_set_ne (by omega)]; exact hMe j (by omega))⟩, by show l.length - (i + 1) < l.length - i; omega,
      (wk_putBack _ (q := 0) (r := 0 + ((i : Nat) : Int).toNat) (j := 3) (v := 141) rfl rfl (.inr rfl) (by rw [List.getElem?_map, gset (gset hat)]; rfl) rfl (by rw [List.length_map, mkRows_len, List.length_map]) (by decide) (by simp [holeAt]) rfl rfl).trans
      ((wk_putBack _ (q := 0) (r := 0 + ((i : Nat) : Int).toNat) (j := 2) (v := 133) rfl rfl (.inl rfl) (gset (by rw [List.getElem?_map, gset (gset hat)]; rfl)) rfl (by rw [List.length_map, mkChanges_len]) (by decide) (by simp [holeAt]) rfl rfl).trans
      ((wk_putBack _ (q := 0) (r := 0 + ((i : Nat) : Int).toNat) (j := 1) (v := 125) (rows' := (((M.set (0 + ((i : Nat) : Int).toNat) ⟨markT K, ⟨first, changes, rows, next⟩⟩).set (0 + ((i : Nat) : Int).toNat) ⟨markT K, ⟨first, changes, rows, T⟩⟩).set (0 + ((i : Nat) : Int).toNat) ⟨markT K, ⟨mkCols first.length (K + 1), mkChanges changes.length (K + 1 + 7 * first.length), mkRows (lens rows) (K + 1 + 7 * first.length + 10 * changes.length), T⟩⟩).map encVTabN) rfl rfl (.inl rfl) (gset (gset (by rw [List.getElem?_map, gset (gset hat)]; rfl))) rfl (by rw [List.length_map, mkCols_len]) (by decide) (by simp [holeAt]) ?_ rfl).trans
      (wk_to [(0, 0)] rfl rfl rfl ⟨rfl, congrArg (fun x => Slot.one (.g (.int .i64 x))) (by rw [w2, e4]), congrArg (fun x => Slot.one (.g (.int .i64 x))) (wrap64' (by unfold maxLen; omega)), trivial⟩ ⟨rfl, ⟨_, rfl, rfl⟩, trivial⟩)))⟩
    simp only [List.map_set, List.set_set]
    rfl
  · have hie : i = l.length := by simp at h2; omega
    subst hie
    (conv => whnf)
    exact endR [] M rfl rfl rfl rfl rfl (LeS.of_eq (by rw [List.take_length]; rfl)) rfl rfl trivial
theorem c_markBase (b : VBase) (h : b.sz) : CallsV Tryz.prog 39 [baseS b, iS (1 : Nat)] (baseO b)
    (relQ (fun y : List VTab × List VLink => True) (fun _ => iS ((1 + bW b : Nat) : Int)) (fun y => [some (.reg 77 5 (y.1.map encVTabN) []), some (.arr 79 4 (y.2.map encVLink))]) (fun _ => [])) := by
  have hw := h.w
  unfold bW at hw ⊢
  have mT := c_markTabs b.tabs 1 (by have := h.md.tl; omega) (fun t ht => (h.md.tm t ht).2) (by omega) (by omega)
  have mL := c_markLinks b.links (1 + tabsW b.tabs) (by have := h.md.ll; omega) (by omega) (by omega)
  refine funF_walk hTb Tryz.func39 rfl rfl Tryz.ntmps39 (by simp) (by simp) ?_
  (conv => whnf); repeat' (first
    | (refine And.intro ?_ ?_ <;> ((try intro h) <;> (try simp only [Bool.not_true, Bool.not_false, decide_eq_true_eq, decide_eq_false_iff_not, Int.not_lt, Int.not_le, gt_iff_lt, ge_iff_le] at h) <;> first | exact absurd h Bool.false_ne_true | exact absurd h.symm Bool.false_ne_true | conv => whnf))
    | (refine VL.drawS hTb hMix (by kernel_rfl) (by kernel_rfl) (by kernel_rfl) ?_; conv => whnf)
    | (refine Need.mk ?_; kernel_rfl) | (refine Need.mk ⟨rfl, ?_⟩; decide)
    | (refine VR.rel hTb rfl rfl (o_relN (mT) false [0] (fun _ _ => ⟨by simp, fun h => by cases h⟩) rfl rfl rfl rfl rfl ⟨rfl, rfl, rfl, rfl⟩ rfl rfl) ?_; rintro M1 hM1; (try simp only at hM1); conv => whnf)
    | (refine DT.rel hTb rfl (o_relN (mT) false [0] (fun _ _ => ⟨by simp, fun h => by cases h⟩) rfl rfl rfl rfl rfl ⟨rfl, rfl, rfl, rfl⟩ rfl rfl) [0] (by kernel_rfl) (by kernel_rfl) ?_; rintro M1 hM1; (try simp only at hM1); refine And.intro rfl (And.intro rfl ?_); conv => whnf)
    | (refine VR.rel hTb rfl rfl (o_relN (mL) false [1] (fun _ _ => ⟨by simp, fun h => by cases h⟩) rfl rfl rfl rfl rfl ⟨rfl, rfl, rfl, rfl⟩ rfl rfl) ?_; rintro M2 hM2; (try simp only at hM2); conv => whnf)
    | (refine DT.rel hTb rfl (o_relN (mL) false [1] (fun _ _ => ⟨by simp, fun h => by cases h⟩) rfl rfl rfl rfl rfl ⟨rfl, rfl, rfl, rfl⟩ rfl rfl) [1] (by kernel_rfl) (by kernel_rfl) ?_; rintro M2 hM2; (try simp only at hM2); refine And.intro rfl (And.intro rfl ?_); conv => whnf))
  exact endR [] (M1, M2) rfl rfl rfl rfl rfl (LeS.of_eq (congrArg (fun n : Nat => iS n) (by omega))) rfl rfl trivial
def mkRef (k : Nat) : VRef := ⟨markT k, ((k + 1 : Nat) : Int)⟩
def mkRefs (n k : Nat) : List VRef := (List.range n).map fun i => mkRef (k + 2 * i)
theorem mkRefs_len (n k : Nat) : (mkRefs n k).length = n := by simp [mkRefs]
theorem c_markRefs (l : List VRef) (k : Nat) (hl : l.length ≤ 3000000) (hk1 : 1 ≤ k) (hk : k ≤ 1000000000) : CallsV Tryz.prog 40 [.one (.own 0 0 l.length), iS k] [.arr 75 2 (l.map encVRef)]
    (funQ (iS ((k + 2 * l.length : Nat) : Int)) [some (.arr 75 2 ((mkRefs l.length k).map encVRef))] []) := by
  refine funF_walk hTb Tryz.func40 rfl rfl Tryz.ntmps40 (by simp) (by simp) ?_
  (conv => whnf); repeat' (first | (refine And.intro ?_ ?_ <;> ((try intro h) <;> (try simp only [Bool.not_true, Bool.not_false] at h) <;> first | exact absurd h Bool.false_ne_true | exact absurd h.symm Bool.false_ne_true | conv => whnf)) | (refine Need.mk ?_; kernel_rfl) | (refine Need.mk ⟨rfl, ?_⟩; decide))
  refine VL.loopI hTb (fun i => i ≤ l.length) (fun i => ⟨[(0, .one (.own 0 0 l.length)), (1, iS ((k + 2 * i : Nat) : Int)), (5, iS i)], [(0, .arr 75 2 (((List.range i).map (fun i => mkRef (k + 2 * i)) ++ l.drop i).map encVRef))], []⟩) (fun i => l.length - i) 0 (Nat.zero_le _)
    (wk_to [(0, 0)] rfl rfl rfl ⟨rfl, rfl, rfl, trivial⟩ ⟨rfl, ⟨_, rfl, rfl⟩, trivial⟩) (fun i hi => ?_)
  (conv => whnf)
  refine And.intro (fun h2 => ?_) (fun h2 => ?_)
  · have hlt : i < l.length := by simpa using h2
    have hmk := mk_step (fun i => mkRef (k + 2 * i)) hlt
    have hat := mk_at (fun i => mkRef (k + 2 * i)) hlt
    have hlen : ((List.range i).map (fun i => mkRef (k + 2 * i)) ++ l.drop i).length = l.length := by simp; omega
    generalize (List.range i).map (fun i => mkRef (k + 2 * i)) ++ l.drop i = L at hmk hat hlen
    generalize l[i] = ci at hat
    obtain ⟨xn, xk⟩ := ci
    obtain ⟨K, hK⟩ : ∃ K, k + 2 * i = K := ⟨_, rfl⟩
    have e7 : k + 2 * (i + 1) = K + 2 := by omega
    rw [hK] at hmk
    have w : ∀ a : Nat, a ≤ K + 6 → IntKind.i64.wrap ((a : Int) + 1) = ((a + 1 : Nat) : Int) := fun a ha => by rw [IntKind.wrap_i64]; omega
    have w1 := w K (by omega)
    have w2 := w (K + 1) (by omega)
    have hat : L[0 + ((i : Nat) : Int).toNat]? = some ⟨xn, xk⟩ := by rw [Int.toNat_natCast, Nat.zero_add]; exact hat
    have cM := c_markText K (by omega) (by omega)
    rw [hK]
    (conv => whnf); repeat' (first
    | (refine And.intro ?_ ?_ <;> ((try intro h) <;> (try simp only [Bool.not_true, Bool.not_false, decide_eq_true_eq, decide_eq_false_iff_not, Int.not_lt, Int.not_le, gt_iff_lt, ge_iff_le] at h) <;> first | exact absurd h Bool.false_ne_true | exact absurd h.symm Bool.false_ne_true | conv => whnf))
    | (refine VL.drawS hTb hMix (by kernel_rfl) (by kernel_rfl) (by kernel_rfl) ?_; conv => whnf)
    | (refine Need.mk ?_; kernel_rfl) | (refine Need.mk ⟨rfl, ?_⟩; decide)
    | (refine VR.pure hTb rfl rfl (o_purN (cM) rfl rfl rfl ⟨rfl, rfl, rfl, rfl⟩ rfl) ?_; conv => whnf)
    | (refine DT.pure hTb rfl (o_purN (cM) rfl rfl rfl ⟨rfl, rfl, rfl, rfl⟩ rfl) ?_; conv => whnf)
    | (refine Need.mk ?_; exact ⟨rfl, by omega, by omega⟩)
    | (refine VR.op hTb rfl rfl (o_storeM hTb rfl rfl rfl rfl rfl (hat) rfl rfl rfl ⟨rfl, by decide⟩ (c' := ⟨_, _⟩) rfl) rfl ?_; conv => whnf)
    | (refine DT.op hTb rfl (o_storeM hTb rfl rfl rfl rfl rfl (hat) rfl rfl rfl ⟨rfl, by decide⟩ (c' := ⟨_, _⟩) rfl) rfl ?_; conv => whnf)
    | (refine VR.op hTb rfl rfl (o_storeM hTb rfl rfl rfl rfl rfl (gset hat) rfl rfl rfl ⟨rfl, by decide⟩ (c' := ⟨_, _⟩) rfl) rfl ?_; conv => whnf)
    | (refine DT.op hTb rfl (o_storeM hTb rfl rfl rfl rfl rfl (gset hat) rfl rfl rfl ⟨rfl, by decide⟩ (c' := ⟨_, _⟩) rfl) rfl ?_; conv => whnf))
    refine ⟨i + 1, hlt, by omega, wk_to [(0, 0)] rfl rfl rfl ⟨rfl, congrArg (fun x => Slot.one (.g (.int .i64 x))) (by rw [w1, w2, e7]), congrArg (fun x => Slot.one (.g (.int .i64 x))) (wrap64' (by unfold maxLen; omega)), trivial⟩ ⟨rfl, ⟨_, rfl, ?_⟩, trivial⟩⟩
    refine congrArg (fun r : List VRef => Ob.arr 75 2 (r.map encVRef)) ?_
    rw [← hmk]
    simp only [List.set_set, Int.toNat_natCast, Nat.zero_add, w1]
    rfl
  · have hie : i = l.length := by simp at h2; omega
    subst hie
    (conv => whnf)
    exact endW [] rfl rfl rfl rfl rfl (LeS.refl _) (congrArg (fun r : List VRef => [some (Ob.arr 75 2 (r.map encVRef))]) (by simp [mkRefs])) rfl
theorem c_heldRefs (n k : Nat) (hl : n ≤ 3000000) (hk1 : 1 ≤ k) (hk : k ≤ 1000000000) : CallsV Tryz.prog 41 [vrefsI (mkRefs n k), iS k] [] (pureQ (iS ((k + 2 * n : Nat) : Int))) := by
  refine pure_walk hTb Tryz.func41 rfl rfl Tryz.ntmps41 (by simp) ?_
  have hml := mkRefs_len n k
  have hmi : ∀ i (h : i < n), ((mkRefs n k).map encVRef)[((i : Nat) : Int).toNat]? = some (encVRef (mkRef (k + 2 * i))) := by
    intro i h
    rw [Int.toNat_natCast, List.getElem?_map, mkRefs, List.getElem?_map, List.getElem?_range h]; rfl
  generalize mkRefs n k = L at hml hmi ⊢
  (conv => whnf); repeat' (first | (refine And.intro ?_ ?_ <;> ((try intro h) <;> (try simp only [Bool.not_true, Bool.not_false] at h) <;> first | exact absurd h Bool.false_ne_true | exact absurd h.symm Bool.false_ne_true | conv => whnf)) | (refine Need.mk ?_; kernel_rfl) | (refine Need.mk ⟨rfl, ?_⟩; decide))
  refine VL.loopI hTb (fun i => i ≤ n) (fun i => ⟨[(0, vrefsI L), (1, iS ((k + 2 * i : Nat) : Int)), (5, iS i)], [], []⟩) (fun i => n - i) 0 (Nat.zero_le _)
    (wk_to [] rfl rfl rfl ⟨rfl, rfl, rfl, trivial⟩ trivial) (fun i hi => ?_)
  (conv => whnf)
  refine And.intro (fun h2 => ?_) (fun h2 => ?_)
  · have hlt : i < n := by simp at h2; omega
    have hrow := hmi i hlt
    obtain ⟨K, hK⟩ : ∃ K, k + 2 * i = K := ⟨_, rfl⟩
    have e7 : k + 2 * (i + 1) = K + 2 := by omega
    rw [hK] at hrow ⊢
    have w : ∀ a : Nat, a ≤ K + 6 → IntKind.i64.wrap ((a : Int) + 1) = ((a + 1 : Nat) : Int) := fun a ha => by rw [IntKind.wrap_i64]; omega
    have w1 := w K (by omega)
    have w2 := w (K + 1) (by omega)
    have cM := c_markText K (by omega) (by omega)
    (conv => whnf); repeat' (first
    | (refine absurd h ?_; (simp; done))
    | (refine absurd h ?_; (rw [w1]; simp; done))
    | (refine And.intro ?_ ?_ <;> ((try intro h) <;> (try simp only [Bool.not_true, Bool.not_false, decide_eq_true_eq, decide_eq_false_iff_not, Int.not_lt, Int.not_le, gt_iff_lt, ge_iff_le] at h) <;> first | exact absurd h Bool.false_ne_true | exact absurd h.symm Bool.false_ne_true | conv => whnf))
    | (refine VL.drawS hTb hMix (by kernel_rfl) (by kernel_rfl) (by kernel_rfl) ?_; conv => whnf)
    | (refine Need.mk ?_; kernel_rfl) | (refine Need.mk ⟨rfl, ?_⟩; decide)
    | (refine VR.op hTb rfl rfl (o_index_imm hTb rfl rfl rfl rfl rfl rfl rfl (by omega) (hrow)) rfl ?_; conv => whnf)
    | (refine DT.op hTb rfl (o_index_imm hTb rfl rfl rfl rfl rfl rfl rfl (by omega) (hrow)) rfl ?_; conv => whnf)
    | (refine VR.pure hTb rfl rfl (o_purN (cM) rfl rfl rfl ⟨rfl, rfl, rfl, rfl⟩ rfl) ?_; conv => whnf)
    | (refine DT.pure hTb rfl (o_purN (cM) rfl rfl rfl ⟨rfl, rfl, rfl, rfl⟩ rfl) ?_; conv => whnf))
    all_goals first
      | exact ⟨i + 1, hlt, by omega, wk_to [] rfl rfl rfl ⟨rfl, congrArg (fun x => Slot.one (.g (.int .i64 x))) (by rw [w1, w2, e7]), congrArg (fun x => Slot.one (.g (.int .i64 x))) (wrap64' (by unfold maxLen; omega)), trivial⟩ trivial⟩
      | trace_state
  · (conv => whnf)
    have hie : i = n := by simp at h2; omega
    rw [hie]; rfl
end Go.Vl

namespace Go.Vl
open Go Go.RowKit Go.Proofs
set_option maxRecDepth 100000
set_option linter.unusedSimpArgs false
set_option linter.unusedVariables false
set_option maxHeartbeats 8000000

theorem fzR (x : List VRef) : ((x.map encVRef).drop 0).take x.length = x.map encVRef := by rw [List.drop_zero, List.take_of_length_le (by simp)]
theorem grNewRef (n : Nat) (l : List VRef) : GrS (.one (.own 0 0 n)) ∧ (∀ ob, some ob ∈ ([] : List (Option Ob)) → GrO ob) ∧ ∀ ob ∈ [Ob.arr 75 2 (l.map encVRef)], GrO ob :=
  ⟨rfl, fun _ h => by simp at h, fun ob h => by
    simp at h; subst h
    intro r hr
    obtain ⟨v, _, rfl⟩ := List.mem_map.1 hr
    obtain ⟨a, b⟩ := v
    intro y hy; simp [encVRef] at hy; rcases hy with rfl | rfl <;> rfl⟩
theorem DmR.facts {b : VBase} {s : VRef} {R : List VRef} (h : DmR b s R) (hv : b.ok) : R.length ≤ 24 ∧ ∀ r ∈ R, r.ok := by
  rcases h with ⟨h1, _, K, _, rfl⟩ | ⟨_, rfl⟩
  · refine ⟨?_, fun r hr => ?_⟩
    · have := flatS_len (baseOk_iff.1 h1)
      unfold goL
      rw [List.length_map]
      exact Nat.le_trans (List.length_filter_le _ _) this
    · unfold goL at hr
      obtain ⟨x, hx, rfl⟩ := List.mem_map.1 hr
      have := (mem_flatS.1 (List.mem_filter.1 hx).1).1
      exact (hv.1.2 _ this).1
  · exact ⟨Nat.zero_le _, fun r hr => by cases hr⟩
theorem c_FnExactBaseDoomed (b : VBase) (nm : ByteArray) (id : Int) (hv : b.ok) : CallsV Tryz.prog 7 [.agg (encVBase b), strS nm, iS id] [] (pureQ (bS true)) := by
  refine pure_walk hTb Tryz.func7 rfl rfl Tryz.ntmps7 (by simp) ?_
  (conv => whnf); repeat' (first
    | (refine And.intro ?_ ?_ <;> ((try intro h) <;> (try simp only [Bool.not_true, Bool.not_false, decide_eq_true_eq, decide_eq_false_iff_not, Int.not_lt, Int.not_le, gt_iff_lt, ge_iff_le] at h) <;> first | exact absurd h Bool.false_ne_true | exact absurd h.symm Bool.false_ne_true | conv => whnf))
    | (refine VL.drawS hTb hMix (by kernel_rfl) (by kernel_rfl) (by kernel_rfl) ?_; conv => whnf)
    | (refine Need.mk ?_; kernel_rfl) | (refine Need.mk ⟨rfl, ?_⟩; decide)
    | (refine VR.rel hTb rfl rfl (o_relN (y_VBaseW b hv) false [] (fun _ _ => ⟨by simp, fun h => by cases h⟩) rfl rfl rfl rfl rfl ⟨rfl, rfl, rfl, rfl⟩ rfl rfl) ?_; rintro y1 hy1; (try simp only at hy1); conv => whnf)
    | (refine DT.rel hTb rfl (o_relN (y_VBaseW b hv) false [] (fun _ _ => ⟨by simp, fun h => by cases h⟩) rfl rfl rfl rfl rfl ⟨rfl, rfl, rfl, rfl⟩ rfl rfl) [] (by kernel_rfl) (by kernel_rfl) ?_; rintro y1 hy1; (try simp only at hy1); refine And.intro rfl (And.intro rfl ?_); conv => whnf))
  · rfl
  · rfl
  have h1 : 0 ≤ y1 := by first | omega | (simp at h; omega)
  have hs := hy1 h1
  have cT := t_VBase b hs.sm
  have uT := u_VBase b hs
  have eT := e_VBase b hv
  have c2 := c_specBaseDoomed b ⟨nm, id⟩ hs.md
  have mT := c_markBase b hs
  have n1 : ¬ (((1 + bW b : Nat) : Int) < 0) := by omega
  (conv => whnf); repeat' (first
    | (refine And.intro ?_ ?_ <;> ((try intro h) <;> (try simp only [Bool.not_true, Bool.not_false, decide_eq_true_eq, decide_eq_false_iff_not, Int.not_lt, Int.not_le, gt_iff_lt, ge_iff_le] at h) <;> first | exact absurd h Bool.false_ne_true | exact absurd h.symm Bool.false_ne_true | conv => whnf))
    | (refine VL.drawS hTb hMix (by kernel_rfl) (by kernel_rfl) (by kernel_rfl) ?_; conv => whnf)
    | (refine Need.mk ?_; kernel_rfl) | (refine Need.mk ⟨rfl, ?_⟩; decide)
    | (refine VR.fun (o := ⟨some 29, _, _, _, _, _⟩) hTb rfl rfl (o_funN uT false [] (fun h => by cases h) (by simp) rfl rfl rfl rfl rfl ⟨rfl, rfl, rfl, rfl⟩ rfl rfl) ?_; conv => whnf)
    | (refine VR.pure hTb rfl rfl (o_purF (cT) rfl rfl rfl ⟨rfl, rfl, rfl, rfl⟩ rfl) ?_; conv => whnf)
    | (refine DT.pure hTb rfl (o_purF (cT) rfl rfl rfl ⟨rfl, rfl, rfl, rfl⟩ rfl) ?_; conv => whnf)
    | (refine VR.rel hTb rfl rfl (o_relN (c2) false [] (fun _ _ => ⟨by simp, fun h => by cases h⟩) rfl rfl rfl rfl rfl ⟨rfl, rfl, rfl, rfl⟩ rfl rfl) ?_; rintro R hR; (try simp only at hR); conv => whnf)
    | (refine DT.rel hTb rfl (o_relN (c2) false [] (fun _ _ => ⟨by simp, fun h => by cases h⟩) rfl rfl rfl rfl rfl ⟨rfl, rfl, rfl, rfl⟩ rfl rfl) [] (by kernel_rfl) (by kernel_rfl) ?_; rintro R hR; (try simp only at hR); refine And.intro rfl (And.intro rfl ?_); conv => whnf))
  have c1 : CallsV _ _ _ _ (funQ (.one (.own 0 0 R.length)) [] [.arr 75 2 (R.map encVRef)]) := (c_implBaseDoomed b ⟨nm, id⟩ hs.md).mono (fun s o n ⟨y, hy, e1, e2, e3⟩ => by have e := hy.eq hR; subst e; exact ⟨e1, e2, e3⟩)
  have hf := hR.facts hv
  have eR := e_VRefs R ⟨lmax (by omega), hf.2⟩
  have mX := c_markRefs R 1 (by omega) (by omega) (by omega)
  have hX := c_heldRefs R.length 1 (by omega) (by omega) (by omega)
  have n2 : ¬ (((1 + 2 * R.length : Nat) : Int) < 0) := by omega
  clear hR hf hs hy1
  (conv => whnf); repeat' (first
    | (exact absurd h n1)
    | (exact absurd h n2)
    | (refine absurd h ?_; (simp; done))
    | (refine VL.freeze 1108 rfl rfl ?_; conv => whnf; rw [fzR])
    | (refine And.intro ?_ ?_ <;> ((try intro h) <;> (try simp only [Bool.not_true, Bool.not_false, decide_eq_true_eq, decide_eq_false_iff_not, Int.not_lt, Int.not_le, gt_iff_lt, ge_iff_le] at h) <;> first | exact absurd h Bool.false_ne_true | exact absurd h.symm Bool.false_ne_true | conv => whnf))
    | (refine VL.drawS hTb hMix (by kernel_rfl) (by kernel_rfl) (by kernel_rfl) ?_; conv => whnf)
    | (refine Need.mk ?_; kernel_rfl) | (refine Need.mk ⟨rfl, ?_⟩; decide)
    | (refine VR.freeze hTb rfl 1108 rfl rfl ?_; conv => whnf; rw [fzR])
    | (refine VR.pure hTb rfl rfl (o_purF (cT) rfl rfl rfl ⟨rfl, rfl, rfl, rfl⟩ rfl) ?_; conv => whnf)
    | (refine DT.pure hTb rfl (o_purF (cT) rfl rfl rfl ⟨rfl, rfl, rfl, rfl⟩ rfl) ?_; conv => whnf)
    | (refine VR.fun hTb rfl rfl (o_funN (c1) false [] (fun h => by cases h) (by simp) rfl rfl rfl rfl rfl ⟨rfl, rfl, rfl, rfl⟩ rfl rfl) ?_; conv => whnf)
    | (refine DT.fun hTb rfl (o_funN (c1) false [] (fun h => by cases h) (by simp) rfl rfl rfl rfl rfl ⟨rfl, rfl, rfl, rfl⟩ rfl rfl) rfl ?_; conv => whnf)
    | (refine VR.fun hTb rfl rfl (o_funN (c1) true [] (fun _ => grNewRef _ _) (by simp) rfl rfl rfl rfl rfl ⟨rfl, rfl, rfl, rfl⟩ ?_ rfl) ?_; exact congrArg (fun s => [s, _, _]) (brwBase b); conv => whnf)
    | (refine DT.fun hTb rfl (o_funN (c1) true [] (fun _ => grNewRef _ _) (by simp) rfl rfl rfl rfl rfl ⟨rfl, rfl, rfl, rfl⟩ ?_ rfl) rfl ?_; exact congrArg (fun s => [s, _, _]) (brwBase b); conv => whnf)
    | (refine VR.pure hTb rfl rfl (o_purN (eR) rfl rfl rfl ⟨rfl, rfl, rfl, rfl⟩ (congrArg (fun s => [s, _]) brw)) ?_; conv => whnf)
    | (refine DT.pure hTb rfl (o_purN (eR) rfl rfl rfl ⟨rfl, rfl, rfl, rfl⟩ (congrArg (fun s => [s, _]) brw)) ?_; conv => whnf)
    | (refine VR.pure hTb rfl rfl (o_purN (eR) rfl rfl rfl ⟨rfl, rfl, rfl, rfl⟩ (congrArg (fun s => [s, _]) brw')) ?_; conv => whnf)
    | (refine DT.pure hTb rfl (o_purN (eR) rfl rfl rfl ⟨rfl, rfl, rfl, rfl⟩ (congrArg (fun s => [s, _]) brw')) ?_; conv => whnf)
    | (refine VR.pure hTb rfl rfl (o_purN (eR) rfl rfl rfl ⟨rfl, rfl, rfl, rfl⟩ (congrArg (fun s => [s, _]) (brwG (by simp)))) ?_; conv => whnf)
    | (refine DT.pure hTb rfl (o_purN (eR) rfl rfl rfl ⟨rfl, rfl, rfl, rfl⟩ (congrArg (fun s => [s, _]) (brwG (by simp)))) ?_; conv => whnf)
    | (refine DT.pure hTb rfl (o_purN eT rfl rfl rfl ⟨rfl, rfl, rfl, rfl⟩ ?_) ?_; exact congrArg (fun s => [s, _]) (brwBase b); conv => whnf)
    | (refine VR.rel hTb rfl rfl (o_relN (mT) false [1116, 1117] (fun _ _ => ⟨by simp, fun h => by cases h⟩) rfl rfl rfl rfl rfl ⟨rfl, rfl, rfl, rfl⟩ rfl rfl) ?_; rintro y2 hy2; (try simp only at hy2); conv => whnf)
    | (refine DT.rel hTb rfl (o_relN (mT) false [1116, 1117] (fun _ _ => ⟨by simp, fun h => by cases h⟩) rfl rfl rfl rfl rfl ⟨rfl, rfl, rfl, rfl⟩ rfl rfl) [1116, 1117] (by kernel_rfl) (by kernel_rfl) ?_; rintro y2 hy2; (try simp only at hy2); refine And.intro rfl (And.intro rfl ?_); conv => whnf)
    | (refine VR.fun hTb rfl rfl (o_funN (mX) false [1132] (fun h => by cases h) (by simp) rfl rfl rfl rfl rfl ⟨rfl, rfl, rfl, rfl⟩ rfl rfl) ?_; conv => whnf)
    | (refine DT.fun hTb rfl (o_funN (mX) false [1132] (fun h => by cases h) (by simp) rfl rfl rfl rfl rfl ⟨rfl, rfl, rfl, rfl⟩ rfl rfl) rfl ?_; conv => whnf)
    | (refine VR.pure hTb rfl rfl (o_purN hX rfl rfl rfl ⟨rfl, rfl, rfl, rfl⟩ ?_) ?_; exact two_sl (brwG (by simp [mkRefs])) rfl; conv => whnf))
  all_goals first
    | rfl
    | trace_state
end Go.Vl

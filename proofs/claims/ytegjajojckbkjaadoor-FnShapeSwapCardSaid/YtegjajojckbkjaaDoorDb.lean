/- Contracts: what the reader draws: texts, numbers, values. -/
import Derived.Test.YtegjajojckbkjaaDoorDa
namespace Go.Vl
open Go Go.RowKit Go.Proofs
set_option maxRecDepth 100000
set_option linter.unusedSimpArgs false
set_option linter.unusedVariables false
set_option maxHeartbeats 1000000

def strRows (Q : ByteArray → Prop) (rows : List (List Leaf)) : Prop := ∀ r ∈ rows, ∃ t, r = [.g (.string t)] ∧ Q t
def intRows (Q : Int → Prop) (rows : List (List Leaf)) : Prop := ∀ r ∈ rows, ∃ t, r = [.g (.int .i64 t)] ∧ Q t
def strAt (rows : List (List Leaf)) (i : Nat) : ByteArray := match rows[i]? with
  | some [.g (.string t)] => t
  | _ => ⟨#[]⟩
def intAt (rows : List (List Leaf)) (i : Nat) : Int := match rows[i]? with
  | some [.g (.int .i64 t)] => t
  | _ => 0
theorem strAt_row {Q : ByteArray → Prop} {rows : List (List Leaf)} (h : strRows Q rows) {i : Nat} (hi : i < rows.length) : rows[i]? = some [.g (.string (strAt rows i))] ∧ Q (strAt rows i) := by
  obtain ⟨t, ht, hq⟩ := h rows[i] (List.getElem_mem hi)
  have e : rows[i]? = some [.g (.string t)] := by rw [List.getElem?_eq_getElem hi, ht]
  have e2 : strAt rows i = t := by unfold strAt; rw [e]
  rw [e2]; exact ⟨e, hq⟩
theorem intAt_row {Q : Int → Prop} {rows : List (List Leaf)} (h : intRows Q rows) {i : Nat} (hi : i < rows.length) : rows[i]? = some [.g (.int .i64 (intAt rows i))] ∧ Q (intAt rows i) := by
  obtain ⟨t, ht, hq⟩ := h rows[i] (List.getElem_mem hi)
  have e : rows[i]? = some [.g (.int .i64 t)] := by rw [List.getElem?_eq_getElem hi, ht]
  have e2 : intAt rows i = t := by unfold intAt; rw [e]
  rw [e2]; exact ⟨e, hq⟩

theorem le8 {n : Nat} (h : n ≤ 8) : n ≤ maxLen := by unfold maxLen; omega
theorem bs0 : (⟨#[]⟩ : ByteArray).size = 0 := rfl

theorem c_of {bs : List Int} (hb : BOk bs) (p : Nat) (E : TypeId) (rows : List (List Leaf)) (Q : ByteArray → Prop) (hr : strRows Q rows) (h0 : 0 < rows.length) (hp : p ≤ 1099511627776) : CallsV Tryd.prog 81 [rdS, .one (.own 1 0 rows.length)] [rdO bs p, .arr E 1 rows]
    (relQ Q (fun t => .one (.g (.string t))) (fun _ => [some (rdO bs (p + 1)), some (.arr E 1 rows)]) (fun _ => [])) := by
  refine funF_walk hTb Tryd.func81 rfl rfl Tryd.ntmps81 (by simp) (by simp) ?_
  (conv => whnf); repeat' (first
    | (refine And.intro ?_ ?_ <;> ((try intro h) <;> (try simp only [Bool.not_true, Bool.not_false, decide_eq_true_eq, decide_eq_false_iff_not, Int.not_lt, Int.not_le, gt_iff_lt, ge_iff_le] at h) <;> first | exact absurd h Bool.false_ne_true | exact absurd h.symm Bool.false_ne_true | conv => whnf))
    | (refine VL.drawS hTb hMix (by kernel_rfl) (by kernel_rfl) (by kernel_rfl) ?_; conv => whnf)
    | (refine Need.mk ?_; kernel_rfl) | (refine Need.mk ⟨rfl, ?_⟩; decide)
    | (refine VR.rel hTb rfl rfl (o_relN (c_pick hb _ _ (by omega)) false [0] (fun _ _ => ⟨by simp, fun h => by cases h⟩) rfl rfl rfl rfl rfl ⟨rfl, rfl, rfl, rfl⟩ rfl rfl) ?_; intro y hy; conv => whnf)
    | (refine DT.rel hTb rfl (o_relN (c_pick hb _ _ (by omega)) false [0] (fun _ _ => ⟨by simp, fun h => by cases h⟩) rfl rfl rfl rfl rfl ⟨rfl, rfl, rfl, rfl⟩ rfl rfl) [0] (by kernel_rfl) (by kernel_rfl) ?_; intro y hy; refine And.intro rfl (And.intro rfl ?_); conv => whnf))
  all_goals first
    | exact Need.mk ⟨rfl, by omega⟩
    | skip
  have hi : 0 + y.toNat < rows.length := by omega
  obtain ⟨k1, k2⟩ := strAt_row hr hi
  (conv => whnf); repeat' (first
    | (refine And.intro ?_ ?_ <;> ((try intro h) <;> (try simp only [Bool.not_true, Bool.not_false, decide_eq_true_eq, decide_eq_false_iff_not, Int.not_lt, Int.not_le, gt_iff_lt, ge_iff_le] at h) <;> first | exact absurd h Bool.false_ne_true | exact absurd h.symm Bool.false_ne_true | conv => whnf))
    | (refine VL.drawS hTb hMix (by kernel_rfl) (by kernel_rfl) (by kernel_rfl) ?_; conv => whnf)
    | (refine Need.mk ?_; kernel_rfl) | (refine Need.mk ⟨rfl, ?_⟩; decide)
    | (refine VR.op hTb rfl rfl (o_load_elm hTb rfl rfl rfl rfl (k1) ⟨by decide, by decide⟩) rfl ?_; conv => whnf)
    | (refine DT.op hTb rfl (o_load_elm hTb rfl rfl rfl rfl (k1) ⟨by decide, by decide⟩) rfl ?_; conv => whnf))
  exact endR [] _ rfl rfl rfl rfl rfl (LeS.refl _) rfl rfl k2

theorem c_ofI {bs : List Int} (hb : BOk bs) (p : Nat) (rows : List (List Leaf)) (Q : ByteArray → Prop) (hr : strRows Q rows) (h0 : 0 < rows.length) (hp : p ≤ 1099511627776) : CallsV Tryd.prog 81 [rdS, .one (.imm 1 rows)] [rdO bs p]
    (relQ Q (fun t => .one (.g (.string t))) (fun _ => [some (rdO bs (p + 1))]) (fun _ => [])) := by
  refine funF_walk hTb Tryd.func81 rfl rfl Tryd.ntmps81 (by simp) (by simp) ?_
  (conv => whnf); repeat' (first
    | (refine And.intro ?_ ?_ <;> ((try intro h) <;> (try simp only [Bool.not_true, Bool.not_false, decide_eq_true_eq, decide_eq_false_iff_not, Int.not_lt, Int.not_le, gt_iff_lt, ge_iff_le] at h) <;> first | exact absurd h Bool.false_ne_true | exact absurd h.symm Bool.false_ne_true | conv => whnf))
    | (refine VL.drawS hTb hMix (by kernel_rfl) (by kernel_rfl) (by kernel_rfl) ?_; conv => whnf)
    | (refine Need.mk ?_; kernel_rfl) | (refine Need.mk ⟨rfl, ?_⟩; decide)
    | (refine VR.rel hTb rfl rfl (o_relN (c_pick hb _ _ (by omega)) false [0] (fun _ _ => ⟨by simp, fun h => by cases h⟩) rfl rfl rfl rfl rfl ⟨rfl, rfl, rfl, rfl⟩ rfl rfl) ?_; intro y hy; conv => whnf)
    | (refine DT.rel hTb rfl (o_relN (c_pick hb _ _ (by omega)) false [0] (fun _ _ => ⟨by simp, fun h => by cases h⟩) rfl rfl rfl rfl rfl ⟨rfl, rfl, rfl, rfl⟩ rfl rfl) [0] (by kernel_rfl) (by kernel_rfl) ?_; intro y hy; refine And.intro rfl (And.intro rfl ?_); conv => whnf))
  have hi : y.toNat < rows.length := by omega
  obtain ⟨k1, k2⟩ := strAt_row hr hi
  (conv => whnf); repeat' (first
    | (refine And.intro ?_ ?_ <;> ((try intro h) <;> (try simp only [Bool.not_true, Bool.not_false, decide_eq_true_eq, decide_eq_false_iff_not, Int.not_lt, Int.not_le, gt_iff_lt, ge_iff_le] at h) <;> first | exact absurd h Bool.false_ne_true | exact absurd h.symm Bool.false_ne_true | conv => whnf))
    | (refine VL.drawS hTb hMix (by kernel_rfl) (by kernel_rfl) (by kernel_rfl) ?_; conv => whnf)
    | (refine Need.mk ?_; kernel_rfl) | (refine Need.mk ⟨rfl, ?_⟩; decide)
    | (refine VR.op hTb rfl rfl (o_index_imm hTb rfl rfl rfl rfl rfl rfl rfl (by omega) (k1)) rfl ?_; conv => whnf)
    | (refine DT.op hTb rfl (o_index_imm hTb rfl rfl rfl rfl rfl rfl rfl (by omega) (k1)) rfl ?_; conv => whnf))
  exact endR [] _ rfl rfl rfl rfl rfl (LeS.refl _) rfl rfl k2

theorem c_num {bs : List Int} (hb : BOk bs) (p : Nat) (E : TypeId) (rows : List (List Leaf)) (Q : Int → Prop) (hr : intRows Q rows) (h0 : 0 < rows.length) (hp : p ≤ 1099511627776) : CallsV Tryd.prog 85 [rdS, .one (.own 1 0 rows.length)] [rdO bs p, .arr E 1 rows]
    (relQ Q (fun t => iS t) (fun _ => [some (rdO bs (p + 1)), some (.arr E 1 rows)]) (fun _ => [])) := by
  refine funF_walk hTb Tryd.func85 rfl rfl Tryd.ntmps85 (by simp) (by simp) ?_
  (conv => whnf); repeat' (first
    | (refine And.intro ?_ ?_ <;> ((try intro h) <;> (try simp only [Bool.not_true, Bool.not_false, decide_eq_true_eq, decide_eq_false_iff_not, Int.not_lt, Int.not_le, gt_iff_lt, ge_iff_le] at h) <;> first | exact absurd h Bool.false_ne_true | exact absurd h.symm Bool.false_ne_true | conv => whnf))
    | (refine VL.drawS hTb hMix (by kernel_rfl) (by kernel_rfl) (by kernel_rfl) ?_; conv => whnf)
    | (refine Need.mk ?_; kernel_rfl) | (refine Need.mk ⟨rfl, ?_⟩; decide)
    | (refine VR.rel hTb rfl rfl (o_relN (c_pick hb _ _ (by omega)) false [0] (fun _ _ => ⟨by simp, fun h => by cases h⟩) rfl rfl rfl rfl rfl ⟨rfl, rfl, rfl, rfl⟩ rfl rfl) ?_; intro y hy; conv => whnf)
    | (refine DT.rel hTb rfl (o_relN (c_pick hb _ _ (by omega)) false [0] (fun _ _ => ⟨by simp, fun h => by cases h⟩) rfl rfl rfl rfl rfl ⟨rfl, rfl, rfl, rfl⟩ rfl rfl) [0] (by kernel_rfl) (by kernel_rfl) ?_; intro y hy; refine And.intro rfl (And.intro rfl ?_); conv => whnf))
  all_goals first
    | exact Need.mk ⟨rfl, by omega⟩
    | skip
  have hi : 0 + y.toNat < rows.length := by omega
  obtain ⟨k1, k2⟩ := intAt_row hr hi
  (conv => whnf); repeat' (first
    | (refine And.intro ?_ ?_ <;> ((try intro h) <;> (try simp only [Bool.not_true, Bool.not_false, decide_eq_true_eq, decide_eq_false_iff_not, Int.not_lt, Int.not_le, gt_iff_lt, ge_iff_le] at h) <;> first | exact absurd h Bool.false_ne_true | exact absurd h.symm Bool.false_ne_true | conv => whnf))
    | (refine VL.drawS hTb hMix (by kernel_rfl) (by kernel_rfl) (by kernel_rfl) ?_; conv => whnf)
    | (refine Need.mk ?_; kernel_rfl) | (refine Need.mk ⟨rfl, ?_⟩; decide)
    | (refine VR.op hTb rfl rfl (o_load_elm hTb rfl rfl rfl rfl (k1) ⟨by decide, by decide⟩) rfl ?_; conv => whnf)
    | (refine DT.op hTb rfl (o_load_elm hTb rfl rfl rfl rfl (k1) ⟨by decide, by decide⟩) rfl ?_; conv => whnf))
  exact endR [] _ rfl rfl rfl rfl rfl (LeS.refl _) rfl rfl k2

theorem c_l1Some {bs : List Int} (hb : BOk bs) (p : Nat) (k : Int) (hp : p ≤ 1099511600000) : CallsV Tryd.prog 83 [rdS, iS k] [rdO bs p]
    (relQ (fun y : Val × Nat => y.1.t.size ≤ 8 ∧ y.2 ≤ p + 2) (fun y => .agg (encVal y.1)) (fun y => [some (rdO bs y.2)]) (fun _ => [])) := by
  have e0 := bs0
  refine funF_walk hTb Tryd.func83 rfl rfl Tryd.ntmps83 (by simp) (by simp) ?_
  (conv => whnf); repeat' (first
    | (refine And.intro ?_ ?_ <;> ((try intro h) <;> (try simp only [Bool.not_true, Bool.not_false, decide_eq_true_eq, decide_eq_false_iff_not, Int.not_lt, Int.not_le, gt_iff_lt, ge_iff_le] at h) <;> first | exact absurd h Bool.false_ne_true | exact absurd h.symm Bool.false_ne_true | conv => whnf))
    | (refine VL.drawS hTb hMix (by kernel_rfl) (by kernel_rfl) (by kernel_rfl) ?_; conv => whnf)
    | (refine Need.mk ?_; kernel_rfl) | (refine Need.mk ⟨rfl, ?_⟩; decide)
    | (refine VR.rel hTb rfl rfl (o_relN (c_pick hb _ _ (by omega)) false [0] (fun _ _ => ⟨by simp, fun h => by cases h⟩) rfl rfl rfl rfl rfl ⟨rfl, rfl, rfl, rfl⟩ rfl rfl) ?_; intro y hy; conv => whnf)
    | (refine DT.rel hTb rfl (o_relN (c_pick hb _ _ (by omega)) false [0] (fun _ _ => ⟨by simp, fun h => by cases h⟩) rfl rfl rfl rfl rfl ⟨rfl, rfl, rfl, rfl⟩ rfl rfl) [0] (by kernel_rfl) (by kernel_rfl) ?_; intro y hy; refine And.intro rfl (And.intro rfl ?_); conv => whnf)
    | (refine VR.rel hTb rfl rfl (o_relN (c_num hb _ _ _ (fun _ => True) (by simp [intRows]) (by simp) (by omega)) false [0, 117] (fun _ _ => ⟨by simp, fun h => by cases h⟩) rfl rfl rfl rfl rfl ⟨rfl, rfl, rfl, rfl⟩ rfl rfl) ?_; intro y hy; conv => whnf)
    | (refine DT.rel hTb rfl (o_relN (c_num hb _ _ _ (fun _ => True) (by simp [intRows]) (by simp) (by omega)) false [0, 117] (fun _ _ => ⟨by simp, fun h => by cases h⟩) rfl rfl rfl rfl rfl ⟨rfl, rfl, rfl, rfl⟩ rfl rfl) [0, 117] (by kernel_rfl) (by kernel_rfl) ?_; intro y hy; refine And.intro rfl (And.intro rfl ?_); conv => whnf)
    | (refine VR.rel hTb rfl rfl (o_relN (c_of hb _ _ _ (fun t => t.size ≤ 8) (by simp [strRows]; decide) (by simp) (by omega)) false [0, 122] (fun _ _ => ⟨by simp, fun h => by cases h⟩) rfl rfl rfl rfl rfl ⟨rfl, rfl, rfl, rfl⟩ rfl rfl) ?_; intro y hy; conv => whnf)
    | (refine DT.rel hTb rfl (o_relN (c_of hb _ _ _ (fun t => t.size ≤ 8) (by simp [strRows]; decide) (by simp) (by omega)) false [0, 122] (fun _ _ => ⟨by simp, fun h => by cases h⟩) rfl rfl rfl rfl rfl ⟨rfl, rfl, rfl, rfl⟩ rfl rfl) [0, 122] (by kernel_rfl) (by kernel_rfl) ?_; intro y hy; refine And.intro rfl (And.intro rfl ?_); conv => whnf))
  all_goals exact endR [] (⟨_, _, _⟩, _) rfl rfl rfl rfl rfl (LeS.refl _) rfl rfl ⟨(by first | omega | decide | (simp_all; done) | (simp_all; omega)), (by first | omega | decide | (simp_all; done) | (simp_all; omega))⟩

theorem c_l1Bent {bs : List Int} (hb : BOk bs) (p : Nat) (v : Val) (hv : v.t.size ≤ 8) (hp : p ≤ 1099511600000) : CallsV Tryd.prog 103 [rdS, .agg (encVal v)] [rdO bs p]
    (relQ (fun y : Val × Nat => y.1.t.size ≤ 8 ∧ y.2 ≤ p + 2) (fun y => .agg (encVal y.1)) (fun y => [some (rdO bs y.2)]) (fun _ => [])) := by
  obtain ⟨k, n, t⟩ := v
  simp only at hv
  refine funF_walk hTb Tryd.func103 rfl rfl Tryd.ntmps103 (by simp) (by simp) ?_
  (conv => whnf); repeat' (first
    | (refine And.intro ?_ ?_ <;> ((try intro h) <;> (try simp only [Bool.not_true, Bool.not_false, decide_eq_true_eq, decide_eq_false_iff_not, Int.not_lt, Int.not_le, gt_iff_lt, ge_iff_le] at h) <;> first | exact absurd h Bool.false_ne_true | exact absurd h.symm Bool.false_ne_true | conv => whnf))
    | (refine VL.drawS hTb hMix (by kernel_rfl) (by kernel_rfl) (by kernel_rfl) ?_; conv => whnf)
    | (refine Need.mk ?_; kernel_rfl) | (refine Need.mk ⟨rfl, ?_⟩; decide)
    | (refine VR.rel hTb rfl rfl (o_relN (c_pick hb _ _ (by omega)) false [0] (fun _ _ => ⟨by simp, fun h => by cases h⟩) rfl rfl rfl rfl rfl ⟨rfl, rfl, rfl, rfl⟩ rfl rfl) ?_; intro y hy; conv => whnf)
    | (refine DT.rel hTb rfl (o_relN (c_pick hb _ _ (by omega)) false [0] (fun _ _ => ⟨by simp, fun h => by cases h⟩) rfl rfl rfl rfl rfl ⟨rfl, rfl, rfl, rfl⟩ rfl rfl) [0] (by kernel_rfl) (by kernel_rfl) ?_; intro y hy; refine And.intro rfl (And.intro rfl ?_); conv => whnf)
    | (refine VR.rel hTb rfl rfl (o_relN (c_num hb _ _ _ (fun _ => True) (by simp [intRows]) (by simp) (by omega)) false [0, 110] (fun _ _ => ⟨by simp, fun h => by cases h⟩) rfl rfl rfl rfl rfl ⟨rfl, rfl, rfl, rfl⟩ rfl rfl) ?_; intro y hy; conv => whnf)
    | (refine DT.rel hTb rfl (o_relN (c_num hb _ _ _ (fun _ => True) (by simp [intRows]) (by simp) (by omega)) false [0, 110] (fun _ _ => ⟨by simp, fun h => by cases h⟩) rfl rfl rfl rfl rfl ⟨rfl, rfl, rfl, rfl⟩ rfl rfl) [0, 110] (by kernel_rfl) (by kernel_rfl) ?_; intro y hy; refine And.intro rfl (And.intro rfl ?_); conv => whnf)
    | (refine VR.rel hTb rfl rfl (o_relN (c_num hb _ _ _ (fun _ => True) (by simp [intRows]) (by simp) (by omega)) false [0, 116] (fun _ _ => ⟨by simp, fun h => by cases h⟩) rfl rfl rfl rfl rfl ⟨rfl, rfl, rfl, rfl⟩ rfl rfl) ?_; intro y hy; conv => whnf)
    | (refine DT.rel hTb rfl (o_relN (c_num hb _ _ _ (fun _ => True) (by simp [intRows]) (by simp) (by omega)) false [0, 116] (fun _ _ => ⟨by simp, fun h => by cases h⟩) rfl rfl rfl rfl rfl ⟨rfl, rfl, rfl, rfl⟩ rfl rfl) [0, 116] (by kernel_rfl) (by kernel_rfl) ?_; intro y hy; refine And.intro rfl (And.intro rfl ?_); conv => whnf)
    | (refine VR.rel hTb rfl rfl (o_relN (c_of hb _ _ _ (fun t => t.size ≤ 8) (by simp [strRows]; decide) (by simp) (by omega)) false [0, 122] (fun _ _ => ⟨by simp, fun h => by cases h⟩) rfl rfl rfl rfl rfl ⟨rfl, rfl, rfl, rfl⟩ rfl rfl) ?_; intro y hy; conv => whnf)
    | (refine DT.rel hTb rfl (o_relN (c_of hb _ _ _ (fun t => t.size ≤ 8) (by simp [strRows]; decide) (by simp) (by omega)) false [0, 122] (fun _ _ => ⟨by simp, fun h => by cases h⟩) rfl rfl rfl rfl rfl ⟨rfl, rfl, rfl, rfl⟩ rfl rfl) [0, 122] (by kernel_rfl) (by kernel_rfl) ?_; intro y hy; refine And.intro rfl (And.intro rfl ?_); conv => whnf))
  all_goals exact endR [] (⟨_, _, _⟩, _) rfl rfl rfl rfl rfl (LeS.refl _) rfl rfl ⟨(by first | omega | decide | (simp_all; done) | (simp_all; omega)), (by first | omega | decide | (simp_all; done) | (simp_all; omega))⟩

theorem c_l1Draw {bs : List Int} (hb : BOk bs) (p : Nat) (hp : p ≤ 1099511500000) : CallsV Tryd.prog 84 [rdS] [rdO bs p]
    (relQ (fun y : Val × Nat => y.1.t.size ≤ 8 ∧ y.2 ≤ p + 5) (fun y => .agg (encVal y.1)) (fun y => [some (rdO bs y.2)]) (fun _ => [])) := by
  refine funF_walk hTb Tryd.func84 rfl rfl Tryd.ntmps84 (by simp) (by simp) ?_
  (conv => whnf); repeat' (first
    | (refine And.intro ?_ ?_ <;> ((try intro h) <;> (try simp only [Bool.not_true, Bool.not_false, decide_eq_true_eq, decide_eq_false_iff_not, Int.not_lt, Int.not_le, gt_iff_lt, ge_iff_le] at h) <;> first | exact absurd h Bool.false_ne_true | exact absurd h.symm Bool.false_ne_true | conv => whnf))
    | (refine VL.drawS hTb hMix (by kernel_rfl) (by kernel_rfl) (by kernel_rfl) ?_; conv => whnf)
    | (refine Need.mk ?_; kernel_rfl) | (refine Need.mk ⟨rfl, ?_⟩; decide)
    | (refine VR.rel hTb rfl rfl (o_relN (c_pick hb _ _ (by omega)) false [0] (fun _ _ => ⟨by simp, fun h => by cases h⟩) rfl rfl rfl rfl rfl ⟨rfl, rfl, rfl, rfl⟩ rfl rfl) ?_; intro y hy; conv => whnf)
    | (refine DT.rel hTb rfl (o_relN (c_pick hb _ _ (by omega)) false [0] (fun _ _ => ⟨by simp, fun h => by cases h⟩) rfl rfl rfl rfl rfl ⟨rfl, rfl, rfl, rfl⟩ rfl rfl) [0] (by kernel_rfl) (by kernel_rfl) ?_; intro y hy; refine And.intro rfl (And.intro rfl ?_); conv => whnf)
    | (refine VR.rel hTb rfl rfl (o_relN (c_l1Some hb _ _ (by omega)) false [0] (fun _ _ => ⟨by simp, fun h => by cases h⟩) rfl rfl rfl rfl rfl ⟨rfl, rfl, rfl, rfl⟩ rfl rfl) ?_; rintro ⟨⟨k, n, t⟩, q⟩ hy; (try simp only at hy); conv => whnf)
    | (refine DT.rel hTb rfl (o_relN (c_l1Some hb _ _ (by omega)) false [0] (fun _ _ => ⟨by simp, fun h => by cases h⟩) rfl rfl rfl rfl rfl ⟨rfl, rfl, rfl, rfl⟩ rfl rfl) [0] (by kernel_rfl) (by kernel_rfl) ?_; rintro ⟨⟨k, n, t⟩, q⟩ hy; (try simp only at hy); refine And.intro rfl (And.intro rfl ?_); conv => whnf)
    | (refine VR.rel hTb rfl rfl (o_relN (c_l1Bent hb _ ⟨_, _, _⟩ (by first | omega | decide | (simp_all; done) | (simp_all; omega)) (by omega)) false [0] (fun _ _ => ⟨by simp, fun h => by cases h⟩) rfl rfl rfl rfl rfl ⟨rfl, rfl, rfl, rfl⟩ rfl rfl) ?_; rintro ⟨⟨k, n, t⟩, q⟩ hy; (try simp only at hy); conv => whnf)
    | (refine DT.rel hTb rfl (o_relN (c_l1Bent hb _ ⟨_, _, _⟩ (by first | omega | decide | (simp_all; done) | (simp_all; omega)) (by omega)) false [0] (fun _ _ => ⟨by simp, fun h => by cases h⟩) rfl rfl rfl rfl rfl ⟨rfl, rfl, rfl, rfl⟩ rfl rfl) [0] (by kernel_rfl) (by kernel_rfl) ?_; rintro ⟨⟨k, n, t⟩, q⟩ hy; (try simp only at hy); refine And.intro rfl (And.intro rfl ?_); conv => whnf))
  all_goals exact endR [] (⟨_, _, _⟩, _) rfl rfl rfl rfl rfl (LeS.refl _) rfl rfl ⟨(by first | omega | decide | (simp_all; done) | (simp_all; omega)), (by first | omega | decide | (simp_all; done) | (simp_all; omega))⟩

end Go.Vl

/- Laws of values: what their functions compute. -/
import Derived.Test.YtodknhldemgneaaDoorSj
import Derived.Test.YtodknhldemgneaaDoorE3
import Derived.Test.YtodknhldemgneaaDoorDb
namespace Go.Vl
open Go Go.RowKit Go.Proofs
set_option maxRecDepth 100000
set_option maxHeartbeats 2000000

theorem rdVS_cases (t : ByteArray) : (∃ k n s, rdV t = some ⟨k, n, s⟩ ∧ rdVS (rdV t) = .tup [(true, encVal ⟨k, n, s⟩), (false, [.g (.bool true)])]) ∨ (rdV t = none ∧ rdVS (rdV t) = .tup [(true, encVal ⟨0, 0, ⟨#[]⟩⟩), (false, [.g (.bool false)])]) := by
  cases h : rdV t with
  | none => exact .inr ⟨rfl, rfl⟩
  | some v => obtain ⟨k, n, s⟩ := v; exact .inl ⟨k, n, s, rfl, rfl⟩
theorem c_FnExactValRead (t : ByteArray) (hv : t.size ≤ maxLen) : CallsV Tryd.prog 5 [strS t] [] (pureQ (bS true)) := by
  have cs := c_specValRead t hv
  have ci := fun (h : t.size ≤ 281474976710656) => c_implValRead t h
  have ce := fun v hv => e_Val v hv
  rcases rdVS_cases t with ⟨k, n, s, h0, h⟩ | ⟨h0, h⟩
  · rw [h] at cs ci
    have hs : s.size ≤ maxLen := by
      have := valOk_kind (rdV_ok h0).1
      have h3 := rdV_ok h0
      rcases this with e | e | e
      · have := valOk_nil h3.1 e; simp at this; rw [this.2.2]; decide
      · have := (valOk_one h3.1 e).1; simp at this; rw [this.2]; decide
      · have := valOk_text h3.1 e; unfold maxLen; simp at this; omega
    refine pure_walk hTb Tryd.func5 rfl rfl Tryd.ntmps5 (by simp) ?_
    (conv => whnf); repeat' (first
    | (refine And.intro ?_ ?_ <;> ((try intro h) <;> (try simp only [Bool.not_true, Bool.not_false, decide_eq_true_eq, decide_eq_false_iff_not, Int.not_lt, Int.not_le, gt_iff_lt, ge_iff_le] at h) <;> first | exact absurd h Bool.false_ne_true | exact absurd h.symm Bool.false_ne_true | conv => whnf))
    | (refine VL.drawS hTb hMix (by kernel_rfl) (by kernel_rfl) (by kernel_rfl) ?_; conv => whnf)
    | (refine Need.mk ?_; kernel_rfl) | (refine Need.mk ⟨rfl, ?_⟩; decide)
    | (refine VR.pure hTb rfl rfl (o_purN (cs) rfl rfl rfl ⟨rfl, rfl, rfl, rfl⟩ rfl) ?_; conv => whnf)
    | (refine DT.pure hTb rfl (o_purN (cs) rfl rfl rfl ⟨rfl, rfl, rfl, rfl⟩ rfl) ?_; conv => whnf)
    | (refine VR.pure hTb rfl rfl (o_purN (ci (by omega)) rfl rfl rfl ⟨rfl, rfl, rfl, rfl⟩ rfl) ?_; conv => whnf)
    | (refine DT.pure hTb rfl (o_purN (ci (by omega)) rfl rfl rfl ⟨rfl, rfl, rfl, rfl⟩ rfl) ?_; conv => whnf)
    | (refine VR.pure hTb rfl rfl (o_purN (ce ⟨k, n, s⟩ hs) rfl rfl rfl ⟨rfl, rfl, rfl, rfl⟩ rfl) ?_; conv => whnf)
    | (refine DT.pure hTb rfl (o_purN (ce ⟨k, n, s⟩ hs) rfl rfl rfl ⟨rfl, rfl, rfl, rfl⟩ rfl) ?_; conv => whnf))
    all_goals first
      | rfl
      | (simp_all; done)
  · rw [h] at cs ci
    refine pure_walk hTb Tryd.func5 rfl rfl Tryd.ntmps5 (by simp) ?_
    (conv => whnf); repeat' (first
    | (refine And.intro ?_ ?_ <;> ((try intro h) <;> (try simp only [Bool.not_true, Bool.not_false, decide_eq_true_eq, decide_eq_false_iff_not, Int.not_lt, Int.not_le, gt_iff_lt, ge_iff_le] at h) <;> first | exact absurd h Bool.false_ne_true | exact absurd h.symm Bool.false_ne_true | conv => whnf))
    | (refine VL.drawS hTb hMix (by kernel_rfl) (by kernel_rfl) (by kernel_rfl) ?_; conv => whnf)
    | (refine Need.mk ?_; kernel_rfl) | (refine Need.mk ⟨rfl, ?_⟩; decide)
    | (refine VR.pure hTb rfl rfl (o_purN (cs) rfl rfl rfl ⟨rfl, rfl, rfl, rfl⟩ rfl) ?_; conv => whnf)
    | (refine DT.pure hTb rfl (o_purN (cs) rfl rfl rfl ⟨rfl, rfl, rfl, rfl⟩ rfl) ?_; conv => whnf)
    | (refine VR.pure hTb rfl rfl (o_purN (ci (by omega)) rfl rfl rfl ⟨rfl, rfl, rfl, rfl⟩ rfl) ?_; conv => whnf)
    | (refine DT.pure hTb rfl (o_purN (ci (by omega)) rfl rfl rfl ⟨rfl, rfl, rfl, rfl⟩ rfl) ?_; conv => whnf)
    | (refine VR.pure hTb rfl rfl (o_purN (ce ⟨0, 0, ⟨#[]⟩⟩ (show (⟨#[]⟩ : ByteArray).size ≤ maxLen by decide)) rfl rfl rfl ⟨rfl, rfl, rfl, rfl⟩ rfl) ?_; conv => whnf)
    | (refine DT.pure hTb rfl (o_purN (ce ⟨0, 0, ⟨#[]⟩⟩ (show (⟨#[]⟩ : ByteArray).size ≤ maxLen by decide)) rfl rfl rfl ⟨rfl, rfl, rfl, rfl⟩ rfl) ?_; conv => whnf))
    all_goals first
      | rfl
      | (simp_all; done)
theorem c_FnExactValAs (k n : Int) (t : ByteArray) (kd : Int) (hv : t.size ≤ maxLen) : CallsV Tryd.prog 4 [.agg (encVal ⟨k, n, t⟩), iS kd] [] (pureQ (bS true)) := by
  have cs := c_specValAs k n t kd hv
  have ci := fun (h : t.size ≤ 281474976710656) => c_implValAs k n t kd h
  have hx := valAs_size ⟨k, n, t⟩ kd
  obtain ⟨⟨x1, x2, x3⟩, he⟩ : ∃ x, valAs ⟨k, n, t⟩ kd = x := ⟨_, rfl⟩
  rw [he] at cs ci hx
  have ce := e_Val ⟨x1, x2, x3⟩ (show x3.size ≤ maxLen by unfold maxLen; simp at hx; omega)
  have cz := c_szVal ⟨k, n, t⟩ 1048576
  have hz : t.size ≤ 281474976710656 ∨ szVal ⟨k, n, t⟩ 1048576 < 0 := by
    unfold szVal
    by_cases h : t.size ≤ 281474976710656
    · exact .inl h
    · right
      rw [IntKind.wrap_i64]; unfold maxLen at hv; simp only; split <;> omega
  refine pure_walk hTb Tryd.func4 rfl rfl Tryd.ntmps4 (by simp) ?_
  (conv => whnf); repeat' (first
    | (refine And.intro ?_ ?_ <;> ((try intro h) <;> (try simp only [Bool.not_true, Bool.not_false, decide_eq_true_eq, decide_eq_false_iff_not, Int.not_lt, Int.not_le, gt_iff_lt, ge_iff_le] at h) <;> first | exact absurd h Bool.false_ne_true | exact absurd h.symm Bool.false_ne_true | conv => whnf))
    | (refine VL.drawS hTb hMix (by kernel_rfl) (by kernel_rfl) (by kernel_rfl) ?_; conv => whnf)
    | (refine Need.mk ?_; kernel_rfl) | (refine Need.mk ⟨rfl, ?_⟩; decide)
    | (refine VR.pure hTb rfl rfl (o_purN (cz) rfl rfl rfl ⟨rfl, rfl, rfl, rfl⟩ rfl) ?_; conv => whnf)
    | (refine DT.pure hTb rfl (o_purN (cz) rfl rfl rfl ⟨rfl, rfl, rfl, rfl⟩ rfl) ?_; conv => whnf)
    | (refine VR.pure hTb rfl rfl (o_purN (c_toVal ⟨k, n, t⟩) rfl rfl rfl ⟨rfl, rfl, rfl, rfl⟩ rfl) ?_; conv => whnf)
    | (refine DT.pure hTb rfl (o_purN (c_toVal ⟨k, n, t⟩) rfl rfl rfl ⟨rfl, rfl, rfl, rfl⟩ rfl) ?_; conv => whnf)
    | (refine VR.pure hTb rfl rfl (o_purN (cs) rfl rfl rfl ⟨rfl, rfl, rfl, rfl⟩ rfl) ?_; conv => whnf)
    | (refine DT.pure hTb rfl (o_purN (cs) rfl rfl rfl ⟨rfl, rfl, rfl, rfl⟩ rfl) ?_; conv => whnf)
    | (refine VR.pure hTb rfl rfl (o_purN (ci (by omega)) rfl rfl rfl ⟨rfl, rfl, rfl, rfl⟩ rfl) ?_; conv => whnf)
    | (refine DT.pure hTb rfl (o_purN (ci (by omega)) rfl rfl rfl ⟨rfl, rfl, rfl, rfl⟩ rfl) ?_; conv => whnf)
    | (refine VR.pure hTb rfl rfl (o_purN (ce) rfl rfl rfl ⟨rfl, rfl, rfl, rfl⟩ rfl) ?_; conv => whnf)
    | (refine DT.pure hTb rfl (o_purN (ce) rfl rfl rfl ⟨rfl, rfl, rfl, rfl⟩ rfl) ?_; conv => whnf))
  all_goals first
    | rfl
    | (simp_all; done)
theorem c_DrawValAs {bs : List Int} (hl : bs.length ≤ maxLen) (hb : ∀ x ∈ bs, 0 ≤ x ∧ x < 256) : CallsV Tryd.prog 19 [bytesI bs] []
    (relQ (fun y : Val × Int => y.1.t.size ≤ 8) (fun y => .tup [(true, encVal y.1), (false, [.g (.int .i64 y.2)])]) (fun _ => []) (fun _ => [])) := by
  have hbk : BOk (bs.take 2000) := ⟨fun x hx => hb x (List.mem_of_mem_take hx), by simp; omega⟩
  refine funF_walk hTb Tryd.func19 rfl rfl Tryd.ntmps19 (by simp) (by simp) ?_
  (conv => whnf); repeat' (first
    | (refine And.intro ?_ ?_ <;> ((try intro h) <;> (try simp only [Bool.not_true, Bool.not_false, decide_eq_true_eq, decide_eq_false_iff_not, Int.not_lt, Int.not_le, gt_iff_lt, ge_iff_le] at h) <;> first | exact absurd h Bool.false_ne_true | exact absurd h.symm Bool.false_ne_true | conv => whnf))
    | (refine VL.drawS hTb hMix (by kernel_rfl) (by kernel_rfl) (by kernel_rfl) ?_; conv => whnf)
    | (refine Need.mk ?_; kernel_rfl) | (refine Need.mk ⟨rfl, ?_⟩; decide)
    | (refine VR.fun hTb rfl rfl (o_funN (c_l10Open hl) false [] (fun h => by cases h) (by simp) rfl rfl rfl rfl rfl ⟨rfl, rfl, rfl, rfl⟩ rfl rfl) ?_; conv => whnf)
    | (refine DT.fun hTb rfl (o_funN (c_l10Open hl) false [] (fun h => by cases h) (by simp) rfl rfl rfl rfl rfl ⟨rfl, rfl, rfl, rfl⟩ rfl rfl) rfl ?_; conv => whnf)
    | (refine VR.rel hTb rfl rfl (o_relN (c_l1Draw hbk _ (by omega)) false [1028] (fun _ _ => ⟨by simp, fun h => by cases h⟩) rfl rfl rfl rfl rfl ⟨rfl, rfl, rfl, rfl⟩ rfl rfl) ?_; rintro ⟨⟨k, n, t⟩, q⟩ hy; (try simp only at hy); conv => whnf)
    | (refine DT.rel hTb rfl (o_relN (c_l1Draw hbk _ (by omega)) false [1028] (fun _ _ => ⟨by simp, fun h => by cases h⟩) rfl rfl rfl rfl rfl ⟨rfl, rfl, rfl, rfl⟩ rfl rfl) [1028] (by kernel_rfl) (by kernel_rfl) ?_; rintro ⟨⟨k, n, t⟩, q⟩ hy; (try simp only at hy); refine And.intro rfl (And.intro rfl ?_); conv => whnf)
    | (refine VR.rel hTb rfl rfl (o_relN (c_num hbk _ _ _ (fun _ => True) (by simp [intRows]) (by simp) (by omega)) false [1028, 112] (fun _ _ => ⟨by simp, fun h => by cases h⟩) rfl rfl rfl rfl rfl ⟨rfl, rfl, rfl, rfl⟩ rfl rfl) ?_; intro y hy; conv => whnf)
    | (refine DT.rel hTb rfl (o_relN (c_num hbk _ _ _ (fun _ => True) (by simp [intRows]) (by simp) (by omega)) false [1028, 112] (fun _ _ => ⟨by simp, fun h => by cases h⟩) rfl rfl rfl rfl rfl ⟨rfl, rfl, rfl, rfl⟩ rfl rfl) [1028, 112] (by kernel_rfl) (by kernel_rfl) ?_; intro y hy; refine And.intro rfl (And.intro rfl ?_); conv => whnf))
  all_goals trace_state
  all_goals exact endR [] (⟨_, _, _⟩, _) rfl rfl rfl rfl rfl (LeS.refl _) rfl rfl (by first | omega | decide | (simp_all; done) | (simp_all; omega))
theorem c_DrawValText {bs : List Int} (hl : bs.length ≤ maxLen) (hb : ∀ x ∈ bs, 0 ≤ x ∧ x < 256) : CallsV Tryd.prog 21 [bytesI bs] []
    (relQ (fun y : Val => y.t.size ≤ 8) (fun y => .agg (encVal y)) (fun _ => []) (fun _ => [])) := by
  have hbk : BOk (bs.take 2000) := ⟨fun x hx => hb x (List.mem_of_mem_take hx), by simp; omega⟩
  refine funF_walk hTb Tryd.func21 rfl rfl Tryd.ntmps21 (by simp) (by simp) ?_
  (conv => whnf); repeat' (first
    | (refine And.intro ?_ ?_ <;> ((try intro h) <;> (try simp only [Bool.not_true, Bool.not_false, decide_eq_true_eq, decide_eq_false_iff_not, Int.not_lt, Int.not_le, gt_iff_lt, ge_iff_le] at h) <;> first | exact absurd h Bool.false_ne_true | exact absurd h.symm Bool.false_ne_true | conv => whnf))
    | (refine VL.drawS hTb hMix (by kernel_rfl) (by kernel_rfl) (by kernel_rfl) ?_; conv => whnf)
    | (refine Need.mk ?_; kernel_rfl) | (refine Need.mk ⟨rfl, ?_⟩; decide)
    | (refine VR.fun hTb rfl rfl (o_funN (c_l10Open hl) false [] (fun h => by cases h) (by simp) rfl rfl rfl rfl rfl ⟨rfl, rfl, rfl, rfl⟩ rfl rfl) ?_; conv => whnf)
    | (refine DT.fun hTb rfl (o_funN (c_l10Open hl) false [] (fun h => by cases h) (by simp) rfl rfl rfl rfl rfl ⟨rfl, rfl, rfl, rfl⟩ rfl rfl) rfl ?_; conv => whnf)
    | (refine VR.rel hTb rfl rfl (o_relN (c_l1Draw hbk _ (by omega)) false [1016] (fun _ _ => ⟨by simp, fun h => by cases h⟩) rfl rfl rfl rfl rfl ⟨rfl, rfl, rfl, rfl⟩ rfl rfl) ?_; rintro ⟨⟨k, n, t⟩, q⟩ hy; (try simp only at hy); conv => whnf)
    | (refine DT.rel hTb rfl (o_relN (c_l1Draw hbk _ (by omega)) false [1016] (fun _ _ => ⟨by simp, fun h => by cases h⟩) rfl rfl rfl rfl rfl ⟨rfl, rfl, rfl, rfl⟩ rfl rfl) [1016] (by kernel_rfl) (by kernel_rfl) ?_; rintro ⟨⟨k, n, t⟩, q⟩ hy; (try simp only at hy); refine And.intro rfl (And.intro rfl ?_); conv => whnf))
  all_goals trace_state
  all_goals exact endR [] ⟨_, _, _⟩ rfl rfl rfl rfl rfl (LeS.refl _) rfl rfl (by first | omega | decide | (simp_all; done) | (simp_all; omega))
theorem c_l1Max (x y : Int) : CallsV Tryd.prog 38 [iS x, iS y] [] (pureQ (iS (if y < x then x else y))) := by
  refine pure_walk hTb Tryd.func38 rfl rfl Tryd.ntmps38 (by simp) ?_
  (conv => whnf); repeat' (first
    | (refine And.intro ?_ ?_ <;> ((try intro h) <;> (try simp only [Bool.not_true, Bool.not_false, decide_eq_true_eq, decide_eq_false_iff_not, Int.not_lt, Int.not_le, gt_iff_lt, ge_iff_le] at h) <;> first | exact absurd h Bool.false_ne_true | exact absurd h.symm Bool.false_ne_true | conv => whnf))
    | (refine VL.drawS hTb hMix (by kernel_rfl) (by kernel_rfl) (by kernel_rfl) ?_; conv => whnf)
    | (refine Need.mk ?_; kernel_rfl) | (refine Need.mk ⟨rfl, ?_⟩; decide)
    | (rfl))
  · rw [if_pos h]; rfl
  · rw [if_neg (by omega)]; rfl
theorem c_DrawValRead {bs : List Int} (hl : bs.length ≤ maxLen) (hb : ∀ x ∈ bs, 0 ≤ x ∧ x < 256) : CallsV Tryd.prog 23 [bytesI bs] []
    (relQ (fun y : ByteArray => y.size ≤ 100) (fun y => strS y) (fun _ => []) (fun _ => [])) := by
  have hbk : BOk (bs.take 2000) := ⟨fun x hx => hb x (List.mem_of_mem_take hx), by simp; omega⟩
  refine funF_walk hTb Tryd.func23 rfl rfl Tryd.ntmps23 (by simp) (by simp) ?_
  (conv => whnf); repeat' (first
    | (refine And.intro ?_ ?_ <;> ((try intro h) <;> (try simp only [Bool.not_true, Bool.not_false, decide_eq_true_eq, decide_eq_false_iff_not, Int.not_lt, Int.not_le, gt_iff_lt, ge_iff_le] at h) <;> first | exact absurd h Bool.false_ne_true | exact absurd h.symm Bool.false_ne_true | conv => whnf))
    | (refine VL.drawS hTb hMix (by kernel_rfl) (by kernel_rfl) (by kernel_rfl) ?_; conv => whnf)
    | (refine Need.mk ?_; kernel_rfl) | (refine Need.mk ⟨rfl, ?_⟩; decide)
    | (refine VR.fun hTb rfl rfl (o_funN (c_l10Open hl) false [] (fun h => by cases h) (by simp) rfl rfl rfl rfl rfl ⟨rfl, rfl, rfl, rfl⟩ rfl rfl) ?_; conv => whnf)
    | (refine DT.fun hTb rfl (o_funN (c_l10Open hl) false [] (fun h => by cases h) (by simp) rfl rfl rfl rfl rfl ⟨rfl, rfl, rfl, rfl⟩ rfl rfl) rfl ?_; conv => whnf)
    | (refine VR.rel hTb rfl rfl (o_relN (c_pick hbk _ _ (by omega)) false [1028] (fun _ _ => ⟨by simp, fun h => by cases h⟩) rfl rfl rfl rfl rfl ⟨rfl, rfl, rfl, rfl⟩ rfl rfl) ?_; intro y hy; conv => whnf)
    | (refine DT.rel hTb rfl (o_relN (c_pick hbk _ _ (by omega)) false [1028] (fun _ _ => ⟨by simp, fun h => by cases h⟩) rfl rfl rfl rfl rfl ⟨rfl, rfl, rfl, rfl⟩ rfl rfl) [1028] (by kernel_rfl) (by kernel_rfl) ?_; intro y hy; refine And.intro rfl (And.intro rfl ?_); conv => whnf)
    | (refine VR.rel hTb rfl rfl (o_relN (c_l1Some hbk _ _ (by omega)) false [1028] (fun _ _ => ⟨by simp, fun h => by cases h⟩) rfl rfl rfl rfl rfl ⟨rfl, rfl, rfl, rfl⟩ rfl rfl) ?_; rintro ⟨⟨k, n, t⟩, q⟩ hy; (try simp only at hy); conv => whnf)
    | (refine DT.rel hTb rfl (o_relN (c_l1Some hbk _ _ (by omega)) false [1028] (fun _ _ => ⟨by simp, fun h => by cases h⟩) rfl rfl rfl rfl rfl ⟨rfl, rfl, rfl, rfl⟩ rfl rfl) [1028] (by kernel_rfl) (by kernel_rfl) ?_; rintro ⟨⟨k, n, t⟩, q⟩ hy; (try simp only at hy); refine And.intro rfl (And.intro rfl ?_); conv => whnf)
    | (refine VR.pure hTb rfl rfl (o_purN (c_l1Max _ _) rfl rfl rfl ⟨rfl, rfl, rfl, rfl⟩ rfl) ?_; conv => whnf)
    | (refine DT.pure hTb rfl (o_purN (c_l1Max _ _) rfl rfl rfl ⟨rfl, rfl, rfl, rfl⟩ rfl) ?_; conv => whnf)
    | (refine VR.pure hTb rfl rfl (o_purN (c_specValText _ _ _ (by unfold maxLen; omega)) rfl rfl rfl ⟨rfl, rfl, rfl, rfl⟩ rfl) ?_; conv => whnf)
    | (refine DT.pure hTb rfl (o_purN (c_specValText _ _ _ (by unfold maxLen; omega)) rfl rfl rfl ⟨rfl, rfl, rfl, rfl⟩ rfl) ?_; conv => whnf)
    | (refine VR.rel hTb rfl rfl (o_relN (c_of hbk _ _ _ (fun t => t.size ≤ 8) (by simp [strRows]; decide) (by simp) (by omega)) false [1028, 123] (fun _ _ => ⟨by simp, fun h => by cases h⟩) rfl rfl rfl rfl rfl ⟨rfl, rfl, rfl, rfl⟩ rfl rfl) ?_; intro y hy; conv => whnf)
    | (refine DT.rel hTb rfl (o_relN (c_of hbk _ _ _ (fun t => t.size ≤ 8) (by simp [strRows]; decide) (by simp) (by omega)) false [1028, 123] (fun _ _ => ⟨by simp, fun h => by cases h⟩) rfl rfl rfl rfl rfl ⟨rfl, rfl, rfl, rfl⟩ rfl rfl) [1028, 123] (by kernel_rfl) (by kernel_rfl) ?_; intro y hy; refine And.intro rfl (And.intro rfl ?_); conv => whnf))
  · exact endR [] (valText ⟨k, n, t⟩) rfl rfl rfl rfl rfl (LeS.refl _) rfl rfl (Nat.le_trans (valText_size _) (by decide))
  · (conv => whnf); repeat' (first
    | (refine And.intro ?_ ?_ <;> ((try intro h) <;> (try simp only [Bool.not_true, Bool.not_false, decide_eq_true_eq, decide_eq_false_iff_not, Int.not_lt, Int.not_le, gt_iff_lt, ge_iff_le] at h) <;> first | exact absurd h Bool.false_ne_true | exact absurd h.symm Bool.false_ne_true | conv => whnf))
    | (refine VL.drawS hTb hMix (by kernel_rfl) (by kernel_rfl) (by kernel_rfl) ?_; conv => whnf)
    | (refine Need.mk ?_; kernel_rfl) | (refine Need.mk ⟨rfl, ?_⟩; decide)
    | (refine VR.rel hTb rfl rfl (o_relN (c_of hbk _ _ _ (fun t => t.size ≤ 8) (by simp [strRows]; decide) (by simp) (by omega)) false [1028, 126] (fun _ _ => ⟨by simp, fun h => by cases h⟩) rfl rfl rfl rfl rfl ⟨rfl, rfl, rfl, rfl⟩ rfl rfl) ?_; intro y hy; conv => whnf)
    | (refine DT.rel hTb rfl (o_relN (c_of hbk _ _ _ (fun t => t.size ≤ 8) (by simp [strRows]; decide) (by simp) (by omega)) false [1028, 126] (fun _ _ => ⟨by simp, fun h => by cases h⟩) rfl rfl rfl rfl rfl ⟨rfl, rfl, rfl, rfl⟩ rfl rfl) [1028, 126] (by kernel_rfl) (by kernel_rfl) ?_; intro y hy; refine And.intro rfl (And.intro rfl ?_); conv => whnf))
    exact endR [] _ rfl rfl rfl rfl rfl (LeS.refl _) rfl rfl (Nat.le_trans hy (by decide))
  · have hV := valText_size ⟨k, n, t⟩
    generalize valText ⟨k, n, t⟩ = V at *
    have hs : 1 ≤ V.size := by rw [beq_eq_false_iff_ne] at h; omega
    rw [if_neg (show ¬ (V.size : Int) < 1 by omega)] at hy
    have hk : y.toNat < V.size := by omega
    have e0 : y = (y.toNat : Int) := (Int.toNat_of_nonneg hy.1).symm
    have ew : ∀ z : Int, 0 ≤ z → z < 2 → IntKind.i64.wrap (y + z) = ((y.toNat + z.toNat : Nat) : Int) := fun z hz hz2 => by rw [IntKind.wrap_i64]; omega
    (conv => whnf); repeat' (first
    | (refine And.intro ?_ ?_ <;> ((try intro h) <;> (try simp only [Bool.not_true, Bool.not_false, decide_eq_true_eq, decide_eq_false_iff_not, Int.not_lt, Int.not_le, gt_iff_lt, ge_iff_le] at h) <;> first | exact absurd h Bool.false_ne_true | exact absurd h.symm Bool.false_ne_true | conv => whnf))
    | (refine VL.drawS hTb hMix (by kernel_rfl) (by kernel_rfl) (by kernel_rfl) ?_; conv => whnf)
    | (refine Need.mk ?_; kernel_rfl) | (refine Need.mk ⟨rfl, ?_⟩; decide)
    | (refine DT.op hTb rfl (o_slice_str (n1 := 0) (n2 := y.toNat) hTb rfl rfl rfl rfl bnd_none (bnd_wr rfl e0) (by omega) (by omega)) rfl ?_; conv => whnf)
    | (refine VR.rel hTb rfl rfl (o_relN (c_pick hbk _ _ (by omega)) false [1028] (fun _ _ => ⟨by simp, fun h => by cases h⟩) rfl rfl rfl rfl rfl ⟨rfl, rfl, rfl, rfl⟩ rfl rfl) ?_; intro y hy; conv => whnf)
    | (refine DT.rel hTb rfl (o_relN (c_pick hbk _ _ (by omega)) false [1028] (fun _ _ => ⟨by simp, fun h => by cases h⟩) rfl rfl rfl rfl rfl ⟨rfl, rfl, rfl, rfl⟩ rfl rfl) [1028] (by kernel_rfl) (by kernel_rfl) ?_; intro y hy; refine And.intro rfl (And.intro rfl ?_); conv => whnf)
    | (refine VR.rel hTb rfl rfl (o_relN (c_of hbk _ _ _ (fun t => t.size ≤ 8) (by simp [strRows]; decide) (by simp) (by omega)) false [1028, 132] (fun _ _ => ⟨by simp, fun h => by cases h⟩) rfl rfl rfl rfl rfl ⟨rfl, rfl, rfl, rfl⟩ rfl rfl) ?_; intro y hy; conv => whnf)
    | (refine DT.rel hTb rfl (o_relN (c_of hbk _ _ _ (fun t => t.size ≤ 8) (by simp [strRows]; decide) (by simp) (by omega)) false [1028, 132] (fun _ _ => ⟨by simp, fun h => by cases h⟩) rfl rfl rfl rfl rfl ⟨rfl, rfl, rfl, rfl⟩ rfl rfl) [1028, 132] (by kernel_rfl) (by kernel_rfl) ?_; intro y hy; refine And.intro rfl (And.intro rfl ?_); conv => whnf)
    | (refine DT.op hTb rfl (o_slice_str (n2 := V.size) hTb rfl rfl rfl rfl (bnd_wr rfl (ew _ (by omega) (by omega))) bnd_none (by omega) (by omega)) rfl ?_; conv => whnf))
    · refine Need.mk ?_
      rw [ByteArray.size_extract]; omega
    · refine Need.mk ?_
      rw [ByteArray.size_append, ByteArray.size_extract, ByteArray.size_extract]; omega
    · refine endR [] _ rfl rfl rfl rfl rfl (LeS.refl _) rfl rfl ?_
      rw [ByteArray.size_append, ByteArray.size_append, ByteArray.size_extract, ByteArray.size_extract]; omega
end Go.Vl

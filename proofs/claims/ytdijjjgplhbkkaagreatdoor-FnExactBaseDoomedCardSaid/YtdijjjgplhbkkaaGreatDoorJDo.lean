/- Contracts: what goes with a row, in order: the reference's. Contracts: what goes with a row, in order: the reference's list. Contracts: bases in memory of their own: copied, marked; rows named, marked and held. -/
import Derived.Test.YtdijjjgplhbkkaaGreatDoorJDn
set_option linter.unusedSimpArgs false
set_option linter.unusedVariables false

namespace Go.Vl
open Go Go.RowKit Go.Proofs
set_option maxRecDepth 100000
set_option linter.unusedSimpArgs false
set_option linter.unusedVariables false
set_option maxHeartbeats 8000000

abbrev isRef (nm : ByteArray) (id : Int) (k : VRef) : Bool := k.name.toList == nm.toList && k.id == id
theorem inL_any (K : List VRef) (nm : ByteArray) (id : Int) : inL K ⟨nm, id⟩ = K.any (isRef nm id) := by
  rw [Bool.eq_iff_iff, inL_iff, List.any_eq_true]
  constructor
  · intro h; exact ⟨_, h, by simp [isRef]⟩
  · rintro ⟨x, hx, hq⟩
    simp only [isRef, Bool.and_eq_true, beq_iff_eq] at hq
    obtain ⟨xn, xi⟩ := x
    simp only at hq
    rw [← tl_inj hq.1, ← hq.2]; exact hx
theorem c_l4In (K : List VRef) (nm : ByteArray) (id : Int) (hl : K.length ≤ maxLen) : CallsV Tryz.prog 164 [vrefsI K, strS nm, iS id] [] (pureQ (bS (inL K ⟨nm, id⟩))) := by
  rw [inL_any]
  refine pure_walk hTb Tryz.func164 rfl rfl Tryz.ntmps164 (by simp) ?_
  (conv => whnf); repeat' (first | (refine And.intro ?_ ?_ <;> ((try intro h) <;> (try simp only [Bool.not_true, Bool.not_false] at h) <;> first | exact absurd h Bool.false_ne_true | exact absurd h.symm Bool.false_ne_true | conv => whnf)) | (refine Need.mk ?_; kernel_rfl) | (refine Need.mk ⟨rfl, ?_⟩; decide))
  refine VL.loopI hTb (fun i => i ≤ K.length ∧ K.any (isRef nm id) = (K.drop i).any (isRef nm id)) (fun i => ⟨[(0, vrefsI K), (1, strS nm), (2, iS id), (7, iS i)], [], []⟩) (fun i => K.length - i) 0 ⟨Nat.zero_le _, rfl⟩
    (wk_to [] rfl rfl rfl ⟨rfl, rfl, rfl, rfl, trivial⟩ trivial) (fun i hi => ?_)
  obtain ⟨hi, hd⟩ := hi
  (conv => whnf)
  refine And.intro (fun h2 => ?_) (fun h2 => ?_)
  · have hlt : i < K.length := by simpa using h2
    have hrow := rowVRef hlt
    have hs : (K.drop i).any (isRef nm id) = (isRef nm id K[i] || (K.drop (i + 1)).any (isRef nm id)) := by rw [List.drop_eq_getElem_cons hlt, List.any_cons]
    generalize K[i] = k at hrow hs
    (conv => whnf); repeat' (first
    | (refine And.intro ?_ ?_ <;> ((try intro h) <;> (try simp only [Bool.not_true, Bool.not_false, decide_eq_true_eq, decide_eq_false_iff_not, Int.not_lt, Int.not_le, gt_iff_lt, ge_iff_le] at h) <;> first | exact absurd h Bool.false_ne_true | exact absurd h.symm Bool.false_ne_true | conv => whnf))
    | (refine VL.drawS hTb hMix (by kernel_rfl) (by kernel_rfl) (by kernel_rfl) ?_; conv => whnf)
    | (refine Need.mk ?_; kernel_rfl) | (refine Need.mk ⟨rfl, ?_⟩; decide)
    | (refine VR.op hTb rfl rfl (o_index_imm hTb rfl rfl rfl rfl rfl rfl rfl (by omega) (hrow)) rfl ?_; conv => whnf)
    | (refine DT.op hTb rfl (o_index_imm hTb rfl rfl rfl rfl rfl rfl rfl (by omega) (hrow)) rfl ?_; conv => whnf))
    all_goals first
      | (rw [hd, hs]
         unfold isRef
         rw [‹(k.name.toList == nm.toList) = true›, ‹(k.id == id) = true›]; rfl)
      | (refine ⟨i + 1, ⟨hlt, ?_⟩, by omega, wk_to [] rfl rfl rfl ⟨rfl, rfl, rfl, congrArg (fun x => Slot.one (.g (.int .i64 x))) (wrap64' (by omega)), trivial⟩ trivial⟩
         rw [hd, hs]
         have e : isRef nm id k = false := by
           unfold isRef
           first
             | (rw [‹(k.name.toList == nm.toList) = false›]; rfl)
             | (rw [‹(k.id == id) = false›, Bool.and_false])
         rw [e, Bool.false_or])
      | trace_state
  · (conv => whnf)
    rw [hd, List.drop_of_length_le (by simp at h2; omega)]; rfl
theorem c_l4Names (b : VBase) (l : VLink) (h : LkS b l) (k : Nat) (hk : k < (tabOf b l.src).rows.length) (K : List VRef) (hl : K.length ≤ maxLen) :
    CallsV Tryz.prog 195 [.agg (encVBase b), .agg (encVLink l), iS k, vrefsI K] [] (pureQ (bS ((lkV b l (tabOf b l.src).rows[k]).k != 0 && inL K ⟨l.dst, (lkV b l (tabOf b l.src).rows[k]).n⟩))) := by
  have hlt : b.tabs.length ≤ maxLen := lmax (by have := h.md.tl; omega)
  have c1 := c_l4At b l.src hlt
  obtain ⟨n', hR⟩ := rowTabZ h.i
  have hi0 := h.i
  have cV := h.val hk
  generalize lkV b l (tabOf b l.src).rows[k] = v at cV ⊢
  have cI := c_l4In K l.dst v.n hl
  generalize inL K ⟨l.dst, v.n⟩ = bi at cI ⊢
  generalize tabOf b l.src = t at *
  generalize tabIx b l.src = iz at *
  refine pure_walk hTb Tryz.func195 rfl rfl Tryz.ntmps195 (by simp) ?_
  (conv => whnf); repeat' (first
    | (refine And.intro ?_ ?_ <;> ((try intro h) <;> (try simp only [Bool.not_true, Bool.not_false, decide_eq_true_eq, decide_eq_false_iff_not, Int.not_lt, Int.not_le, gt_iff_lt, ge_iff_le] at h) <;> first | exact absurd h Bool.false_ne_true | exact absurd h.symm Bool.false_ne_true | conv => whnf))
    | (refine VL.drawS hTb hMix (by kernel_rfl) (by kernel_rfl) (by kernel_rfl) ?_; conv => whnf)
    | (refine Need.mk ?_; kernel_rfl) | (refine Need.mk ⟨rfl, ?_⟩; decide)
    | (refine VR.pure hTb rfl rfl (o_purN (c1) rfl rfl rfl ⟨rfl, rfl, rfl, rfl⟩ rfl) ?_; conv => whnf)
    | (refine DT.pure hTb rfl (o_purN (c1) rfl rfl rfl ⟨rfl, rfl, rfl, rfl⟩ rfl) ?_; conv => whnf)
    | (refine VR.op hTb rfl rfl (o_index_imm hTb rfl rfl rfl rfl rfl rfl rfl (by omega) (hR)) rfl ?_; conv => whnf)
    | (refine DT.op hTb rfl (o_index_imm hTb rfl rfl rfl rfl rfl rfl rfl (by omega) (hR)) rfl ?_; conv => whnf)
    | (refine VR.pure hTb rfl rfl (o_purN (cV) rfl rfl rfl ⟨rfl, rfl, rfl, rfl⟩ rfl) ?_; conv => whnf)
    | (refine DT.pure hTb rfl (o_purN (cV) rfl rfl rfl ⟨rfl, rfl, rfl, rfl⟩ rfl) ?_; conv => whnf)
    | (refine VR.pure hTb rfl rfl (o_purN (cI) rfl rfl rfl ⟨rfl, rfl, rfl, rfl⟩ rfl) ?_; conv => whnf)
    | (refine DT.pure hTb rfl (o_purN (cI) rfl rfl rfl ⟨rfl, rfl, rfl, rfl⟩ rfl) ?_; conv => whnf))
  all_goals first
    | (rw [h]; rfl)
    | (have q := ‹(v.k != 0) = true›; rw [q]; rfl)
    | (have q := ‹(v.k != 0) = false›; rw [q]; rfl)
    | trace_state
theorem c_l4Goes (b : VBase) (nm : ByteArray) (hm : b.md) (hL : ∀ l ∈ b.links, LkS b l) (k : Nat) (hk : k < (tabOf b nm).rows.length) (K : List VRef) (hl : K.length ≤ maxLen) :
    CallsV Tryz.prog 165 [.agg (encVBase b), strS nm, iS k, vrefsI K] [] (pureQ (bS (goesB b nm (tabOf b nm).rows[k] K))) := by
  have hll := hm.ll
  unfold goesB
  obtain ⟨f, hf⟩ : ∃ f : VLink → Bool, f = fun l => l.src.toList == nm.toList && (l.how == 2 && ((lkV b l (tabOf b nm).rows[k]).k != 0 && inL K ⟨l.dst, (lkV b l (tabOf b nm).rows[k]).n⟩)) := ⟨_, rfl⟩
  have hfs : ∀ l, f l = (l.src.toList == nm.toList && (l.how == 2 && ((lkV b l (tabOf b nm).rows[k]).k != 0 && inL K ⟨l.dst, (lkV b l (tabOf b nm).rows[k]).n⟩))) := by intro l; rw [hf]
  rw [← hf]
  clear hf
  refine pure_walk hTb Tryz.func165 rfl rfl Tryz.ntmps165 (by simp) ?_
  (conv => whnf); repeat' (first | (refine And.intro ?_ ?_ <;> ((try intro h) <;> (try simp only [Bool.not_true, Bool.not_false] at h) <;> first | exact absurd h Bool.false_ne_true | exact absurd h.symm Bool.false_ne_true | conv => whnf)) | (refine Need.mk ?_; kernel_rfl) | (refine Need.mk ⟨rfl, ?_⟩; decide))
  refine VL.loopI hTb (fun i => i ≤ b.links.length ∧ b.links.any f = (b.links.drop i).any f) (fun i => ⟨[(4, .one (.ptr 104 0)), (1, strS nm), (2, iS k), (3, vrefsI K), (9, iS i)], [(104, .box (encVBase b))], []⟩) (fun i => b.links.length - i) 0 ⟨Nat.zero_le _, rfl⟩
    (wk_to [(104, 104)] rfl rfl rfl ⟨rfl, rfl, rfl, rfl, rfl, trivial⟩ ⟨rfl, ⟨_, rfl, rfl⟩, trivial⟩) (fun i hi => ?_)
  obtain ⟨hi, hd⟩ := hi
  (conv => whnf)
  refine And.intro (fun h2 => ?_) (fun h2 => ?_)
  · have hlt : i < b.links.length := by simpa using h2
    have hrow := rowVLink hlt
    have hs : (b.links.drop i).any f = (f b.links[i] || (b.links.drop (i + 1)).any f) := by rw [List.drop_eq_getElem_cons hlt, List.any_cons]
    rw [hfs] at hs
    have hLk := hL _ (List.getElem_mem hlt)
    generalize b.links[i] = li at hrow hs hLk
    by_cases hsn : li.src.toList = nm.toList
    · have e := tl_inj hsn
      subst e
      have cN := c_l4Names b li hLk k hk K hl
      generalize ((lkV b li (tabOf b li.src).rows[k]).k != 0 && inL K ⟨li.dst, (lkV b li (tabOf b li.src).rows[k]).n⟩) = bn at cN hs
      rw [beq_self_eq_true, Bool.true_and] at hs
      cases bn <;> (conv => whnf); repeat' (first
    | (refine absurd h ?_; (simp; done))
    | (refine And.intro ?_ ?_ <;> ((try intro h) <;> (try simp only [Bool.not_true, Bool.not_false, decide_eq_true_eq, decide_eq_false_iff_not, Int.not_lt, Int.not_le, gt_iff_lt, ge_iff_le] at h) <;> first | exact absurd h Bool.false_ne_true | exact absurd h.symm Bool.false_ne_true | conv => whnf))
    | (refine VL.drawS hTb hMix (by kernel_rfl) (by kernel_rfl) (by kernel_rfl) ?_; conv => whnf)
    | (refine Need.mk ?_; kernel_rfl) | (refine Need.mk ⟨rfl, ?_⟩; decide)
    | (refine VR.op hTb rfl rfl (o_index_imm hTb rfl rfl rfl rfl rfl rfl rfl (by omega) (hrow)) rfl ?_; conv => whnf)
    | (refine DT.op hTb rfl (o_index_imm hTb rfl rfl rfl rfl rfl rfl rfl (by omega) (hrow)) rfl ?_; conv => whnf)
    | (refine VR.pure hTb rfl rfl (o_purN (cN) rfl rfl rfl ⟨rfl, rfl, rfl, rfl⟩ rfl) ?_; conv => whnf)
    | (refine DT.pure hTb rfl (o_purN (cN) rfl rfl rfl ⟨rfl, rfl, rfl, rfl⟩ rfl) ?_; conv => whnf))
      all_goals first
        | (have q := ‹(li.how == 2) = true›; rw [hd, hs, q]; rfl)
        | (refine ⟨i + 1, ⟨hlt, ?_⟩, by omega, wk_to [(104, 104)] rfl rfl rfl ⟨rfl, rfl, rfl, rfl, congrArg (fun x => Slot.one (.g (.int .i64 x))) (wrap64' (by unfold maxLen; omega)), trivial⟩ ⟨rfl, ⟨_, rfl, rfl⟩, trivial⟩⟩
           rw [hd, hs]
           first
             | (rw [Bool.and_false, Bool.false_or]; done)
             | (have q := ‹(li.how == 2) = false›; rw [q]; rfl))
        | trace_state
    · have e : (li.src.toList == nm.toList) = false := beq_eq_false_iff_ne.2 hsn
      rw [e, Bool.false_and, Bool.false_or] at hs
      (conv => whnf); repeat' (first
    | (rw [e] at h; exact Bool.noConfusion h)
    | (refine And.intro ?_ ?_ <;> ((try intro h) <;> (try simp only [Bool.not_true, Bool.not_false, decide_eq_true_eq, decide_eq_false_iff_not, Int.not_lt, Int.not_le, gt_iff_lt, ge_iff_le] at h) <;> first | exact absurd h Bool.false_ne_true | exact absurd h.symm Bool.false_ne_true | conv => whnf))
    | (refine VL.drawS hTb hMix (by kernel_rfl) (by kernel_rfl) (by kernel_rfl) ?_; conv => whnf)
    | (refine Need.mk ?_; kernel_rfl) | (refine Need.mk ⟨rfl, ?_⟩; decide)
    | (refine VR.op hTb rfl rfl (o_index_imm hTb rfl rfl rfl rfl rfl rfl rfl (by omega) (hrow)) rfl ?_; conv => whnf)
    | (refine DT.op hTb rfl (o_index_imm hTb rfl rfl rfl rfl rfl rfl rfl (by omega) (hrow)) rfl ?_; conv => whnf))
      all_goals first
        | (exact ⟨i + 1, ⟨hlt, by rw [hd, hs]⟩, by omega, wk_to [(104, 104)] rfl rfl rfl ⟨rfl, rfl, rfl, rfl, congrArg (fun x => Slot.one (.g (.int .i64 x))) (wrap64' (by unfold maxLen; omega)), trivial⟩ ⟨rfl, ⟨_, rfl, rfl⟩, trivial⟩⟩)
        | trace_state
  · (conv => whnf)
    rw [hd, List.drop_of_length_le (by simp at h2; omega)]; rfl
theorem c_l4Has (b : VBase) (s : VRef) (hm : b.md) : CallsV Tryz.prog 102 [.agg (encVBase b), strS s.name, iS s.id] [] (pureQ (bS (hasB b s))) := by
  have hl : b.tabs.length ≤ maxLen := lmax (by have := hm.tl; omega)
  have c1 := c_l4At b s.name hl
  have c2 := c_l3At (tabOf b s.name) s.id (lmax (by have := (tabOf_md hm s.name).r; omega))
  have hR := fun (h : ¬ tabIx b s.name < 0) => rowTabZ h
  unfold hasB
  generalize tAt (tabOf b s.name) s.id = z at c2 ⊢
  generalize tabOf b s.name = t at c2 hR
  generalize tabIx b s.name = i at c1 hR ⊢
  refine pure_walk hTb Tryz.func102 rfl rfl Tryz.ntmps102 (by simp) ?_
  by_cases hi : i < 0
  · rw [decide_eq_true hi]
    (conv => whnf); repeat' (first
    | (exact absurd h (by omega))
    | (refine And.intro ?_ ?_ <;> ((try intro h) <;> (try simp only [Bool.not_true, Bool.not_false, decide_eq_true_eq, decide_eq_false_iff_not, Int.not_lt, Int.not_le, gt_iff_lt, ge_iff_le] at h) <;> first | exact absurd h Bool.false_ne_true | exact absurd h.symm Bool.false_ne_true | conv => whnf))
    | (refine VL.drawS hTb hMix (by kernel_rfl) (by kernel_rfl) (by kernel_rfl) ?_; conv => whnf)
    | (refine Need.mk ?_; kernel_rfl) | (refine Need.mk ⟨rfl, ?_⟩; decide)
    | (refine VR.pure hTb rfl rfl (o_purN (c1) rfl rfl rfl ⟨rfl, rfl, rfl, rfl⟩ rfl) ?_; conv => whnf)
    | (refine DT.pure hTb rfl (o_purN (c1) rfl rfl rfl ⟨rfl, rfl, rfl, rfl⟩ rfl) ?_; conv => whnf))
    all_goals rfl
  obtain ⟨n', hR⟩ := hR hi
  rw [decide_eq_false hi]
  have e : (!decide (z < 0)) = decide (0 ≤ z) := by rw [Bool.eq_iff_iff]; simp
  rw [e]
  (conv => whnf); repeat' (first
    | (exact absurd h (by omega))
    | (refine And.intro ?_ ?_ <;> ((try intro h) <;> (try simp only [Bool.not_true, Bool.not_false, decide_eq_true_eq, decide_eq_false_iff_not, Int.not_lt, Int.not_le, gt_iff_lt, ge_iff_le] at h) <;> first | exact absurd h Bool.false_ne_true | exact absurd h.symm Bool.false_ne_true | conv => whnf))
    | (refine VL.drawS hTb hMix (by kernel_rfl) (by kernel_rfl) (by kernel_rfl) ?_; conv => whnf)
    | (refine Need.mk ?_; kernel_rfl) | (refine Need.mk ⟨rfl, ?_⟩; decide)
    | (refine VR.pure hTb rfl rfl (o_purN (c1) rfl rfl rfl ⟨rfl, rfl, rfl, rfl⟩ rfl) ?_; conv => whnf)
    | (refine DT.pure hTb rfl (o_purN (c1) rfl rfl rfl ⟨rfl, rfl, rfl, rfl⟩ rfl) ?_; conv => whnf)
    | (refine VR.op hTb rfl rfl (o_index_imm hTb rfl rfl rfl rfl rfl rfl rfl (by omega) (hR)) rfl ?_; conv => whnf)
    | (refine DT.op hTb rfl (o_index_imm hTb rfl rfl rfl rfl rfl rfl rfl (by omega) (hR)) rfl ?_; conv => whnf)
    | (refine VR.pure hTb rfl rfl (o_purN (c2) rfl rfl rfl ⟨rfl, rfl, rfl, rfl⟩ rfl) ?_; conv => whnf)
    | (refine DT.pure hTb rfl (o_purN (c2) rfl rfl rfl ⟨rfl, rfl, rfl, rfl⟩ rfl) ?_; conv => whnf))
  all_goals rfl
end Go.Vl

namespace Go.Vl
open Go Go.RowKit Go.Proofs
set_option maxRecDepth 100000
set_option linter.unusedSimpArgs false
set_option linter.unusedVariables false
set_option maxHeartbeats 8000000

def spF (b : VBase) (K : List VRef) (xs : List (VTab × VRow)) : List VRef := xs.foldl (stpF (spC b) spK) K
theorem spP_pre (b : VBase) (K : List VRef) : spP b K = spF b K (preT b b.tabs.length) := by
  unfold spP spF preT flatS; rw [List.take_length]
theorem spF_snoc (b : VBase) (K : List VRef) (xs : List (VTab × VRow)) (x : VTab × VRow) : spF b K (xs ++ [x]) = stpF (spC b) spK (spF b K xs) x := by
  unfold spF; rw [List.foldl_append]; rfl
theorem spF_ge (b : VBase) (K : List VRef) (xs : List (VTab × VRow)) : K.length ≤ (spF b K xs).length := foldF_len _ _
theorem spF_le (b : VBase) : ∀ (xs : List (VTab × VRow)) (K : List VRef), (spF b K xs).length ≤ K.length + xs.length
  | [], K => by simp [spF]
  | x :: xs, K => by
    have ih := spF_le b xs (stpF (spC b) spK K x)
    have h1 := stpF_len (cond := spC b) (key := spK) K x
    have e : spF b K (x :: xs) = spF b (stpF (spC b) spK K x) xs := rfl
    rw [e, List.length_cons]
    rcases h1 with h1 | h1
    · rw [h1] at ih ⊢; omega
    · omega
def LkSs (b : VBase) : Prop := ∀ l ∈ b.links, LkS b l
theorem BOkB.lkSs {b : VBase} (hb : BOkB b) (hm : b.md) : LkSs b := fun l hl => (hb.lkOk hm hl).s
theorem c_l4Doomed (b : VBase) (s : VRef) (hm : b.md) (hb : BOkB b) : CallsV Tryz.prog 103 [.agg (encVBase b), strS s.name, iS s.id] []
    (relQ (fun R => ∃ K, Fnd b s K ∧ R = goL b K) (fun R => .one (.own 0 0 R.length)) (fun _ => []) (fun R => [.arr 75 2 (R.map encVRef)])) := by
  have htl := hb.t3
  have hfl := flatS_len hb
  have hL := hb.lkSs hm
  have cI := fun (K : List VRef) nm id (h : K.length ≤ maxLen) => c_l4In K nm id h
  obtain ⟨sn, si⟩ := s
  have h25 : ([⟨sn, si⟩] : List VRef).length + cntU (spU b) [⟨sn, si⟩] ≤ 25 := by
    have h9 := cntU_le (spU b) [⟨sn, si⟩]
    have e9 : (spU b).length = (flatS b).length := by unfold spU; simp
    simp only [List.length_cons, List.length_nil]
    omega
  refine funF_walk hTb Tryz.func103 rfl rfl Tryz.ntmps103 (by simp) (by simp) ?_
  (conv => whnf); repeat' (first | (refine And.intro ?_ ?_ <;> ((try intro h) <;> (try simp only [Bool.not_true, Bool.not_false] at h) <;> first | exact absurd h Bool.false_ne_true | exact absurd h.symm Bool.false_ne_true | conv => whnf)) | (refine Need.mk ?_; kernel_rfl) | (refine Need.mk ⟨rfl, ?_⟩; decide))
  refine VL.loopI hTb (α := Bool × List VRef) (fun x => (∀ r ∈ x.2, Rch b ⟨sn, si⟩ r) ∧ (⟨sn, si⟩ : VRef) ∈ x.2 ∧ x.2.length + cntU (spU b) x.2 ≤ 25 ∧ (x.1 = false → Fnd b ⟨sn, si⟩ x.2))
    (fun x => ⟨[(3, .one (.ptr 103 0)), (7, .one (.own 119 0 x.2.length)), (8, bS x.1)], [(103, .box (encVBase b)), (119, .arr 75 2 (x.2.map encVRef))], []⟩) (fun x => if x.1 = true then 1 + cntU (spU b) x.2 else 0) (true, [⟨sn, si⟩])
    ⟨fun r hr => by (simp at hr; subst hr; exact .start), by simp, h25, fun h => by cases h⟩
    (wk_to [(103, 103), (119, 119)] rfl rfl rfl ⟨rfl, rfl, rfl, trivial⟩ ⟨rfl, ⟨_, rfl, rfl⟩, rfl, ⟨_, rfl, rfl⟩, trivial⟩) (fun x hx => ?_)
  obtain ⟨tu, K⟩ := x
  obtain ⟨h1, h2, h3, h4⟩ := hx
  simp only at h1 h2 h3 h4
  cases tu
  · have hF := h4 rfl
    (conv => whnf); repeat' (first | (refine And.intro ?_ ?_ <;> ((try intro h) <;> (try simp only [Bool.not_true, Bool.not_false] at h) <;> first | exact absurd h Bool.false_ne_true | exact absurd h.symm Bool.false_ne_true | conv => whnf)) | (refine Need.mk ?_; kernel_rfl) | (refine Need.mk ⟨rfl, ?_⟩; decide))
    refine VL.loopI hTb (fun i => i ≤ b.tabs.length) (fun i => ⟨[(3, .one (.ptr 103 0)), (7, .one (.own 119 0 K.length)), (12, .one (.own 112 0 (goF K (preT b i)).length)), (13, iS i)], [(103, .box (encVBase b)), (119, .arr 75 2 (K.map encVRef)), (112, .arr 75 2 ((goF K (preT b i)).map encVRef))], []⟩) (fun i => b.tabs.length - i) 0 (Nat.zero_le _)
      (wk_to [(103, 103), (119, 119), (177, 112)] rfl rfl rfl ⟨rfl, rfl, rfl, rfl, trivial⟩ ⟨rfl, ⟨_, rfl, rfl⟩, rfl, ⟨_, rfl, rfl⟩, rfl, ⟨_, rfl, rfl⟩, trivial⟩) (fun i hi => ?_)
    (conv => whnf)
    refine And.intro (fun g2 => ?_) (fun g2 => ?_)
    · have hlt : i < b.tabs.length := by simpa using g2
      have hrow := rowVTab hlt
      have hps := preT_step hlt
      have hpl := preT_len hb i (by omega)
      have h8 := hb.rows8 (List.getElem_mem hlt)
      generalize b.tabs[i] = ti at hrow hps h8
      generalize preT b i = X at hps hpl ⊢
      obtain ⟨tn, t⟩ := ti
      simp only at h8
      (conv => whnf); repeat' (first | (refine And.intro ?_ ?_ <;> ((try intro h) <;> (try simp only [Bool.not_true, Bool.not_false] at h) <;> first | exact absurd h Bool.false_ne_true | exact absurd h.symm Bool.false_ne_true | conv => whnf)) | (refine Need.mk ?_; kernel_rfl) | (refine Need.mk ⟨rfl, ?_⟩; decide))
      refine VL.loopI hTb (fun k => k ≤ t.rows.length) (fun k => ⟨[(3, .one (.ptr 103 0)), (7, .one (.own 119 0 K.length)), (12, .one (.own 112 0 (goF K (X ++ (t.rows.take k).map fun r => ((⟨tn, t⟩ : VTab), r))).length)), (13, iS i), (14, iS k)], [(103, .box (encVBase b)), (119, .arr 75 2 (K.map encVRef)), (112, .arr 75 2 ((goF K (X ++ (t.rows.take k).map fun r => ((⟨tn, t⟩ : VTab), r))).map encVRef))], []⟩) (fun k => t.rows.length - k) 0 (Nat.zero_le _)
        (wk_to [(103, 103), (119, 119), (112, 112)] rfl rfl rfl ⟨rfl, rfl, (by rw [List.take_zero, List.map_nil, List.append_nil]; rfl), rfl, rfl, trivial⟩ ⟨rfl, ⟨_, rfl, rfl⟩, rfl, ⟨_, rfl, rfl⟩, rfl, ⟨_, rfl, (by rw [List.take_zero, List.map_nil, List.append_nil]; rfl)⟩, trivial⟩) (fun k hk => ?_)
      (conv => whnf); repeat' (first
    | (refine And.intro ?_ ?_ <;> ((try intro h) <;> (try simp only [Bool.not_true, Bool.not_false, decide_eq_true_eq, decide_eq_false_iff_not, Int.not_lt, Int.not_le, gt_iff_lt, ge_iff_le] at h) <;> first | exact absurd h Bool.false_ne_true | exact absurd h.symm Bool.false_ne_true | conv => whnf))
    | (refine VL.drawS hTb hMix (by kernel_rfl) (by kernel_rfl) (by kernel_rfl) ?_; conv => whnf)
    | (refine Need.mk ?_; kernel_rfl) | (refine Need.mk ⟨rfl, ?_⟩; decide)
    | (refine VR.op hTb rfl rfl (o_index_imm hTb rfl rfl rfl rfl rfl rfl rfl (by omega) (hrow)) rfl ?_; conv => whnf)
    | (refine DT.op hTb rfl (o_index_imm hTb rfl rfl rfl rfl rfl rfl rfl (by omega) (hrow)) rfl ?_; conv => whnf))
      · have hkt : k < t.rows.length := by simp at h; omega
        have hrw := rowVRow hkt
        have hst : (t.rows.take (k + 1)).map (fun r => ((⟨tn, t⟩ : VTab), r)) = (t.rows.take k).map (fun r => ((⟨tn, t⟩ : VTab), r)) ++ [(⟨tn, t⟩, t.rows[k])] := mapT_step (t := ⟨tn, t⟩) hkt
        have hgs := goF_snoc K (X ++ (t.rows.take k).map fun r => ((⟨tn, t⟩ : VTab), r)) (⟨tn, t⟩, t.rows[k])
        rw [List.append_assoc, ← hst] at hgs
        have hml : (goF K (X ++ (t.rows.take k).map fun r => ((⟨tn, t⟩ : VTab), r))).length ≤ 1000 := by
          have g4 := goF_len K (X ++ (t.rows.take k).map fun r => ((⟨tn, t⟩ : VTab), r))
          have g5 : (X ++ (t.rows.take k).map fun r => ((⟨tn, t⟩ : VTab), r)).length ≤ X.length + t.rows.length := by simp; omega
          omega
        generalize goF K (X ++ (t.rows.take k).map fun r => ((⟨tn, t⟩ : VTab), r)) = M at hgs hml ⊢
        generalize t.rows[k] = r at hrw hgs
        have hsp : spK ((⟨tn, t⟩ : VTab), r) = ⟨tn, r.id⟩ := rfl
        rw [hsp] at hgs
        have cI := cI K tn r.id (by unfold maxLen; omega)
        (conv => whnf); repeat' (first
    | (refine And.intro ?_ ?_ <;> ((try intro h) <;> (try simp only [Bool.not_true, Bool.not_false, decide_eq_true_eq, decide_eq_false_iff_not, Int.not_lt, Int.not_le, gt_iff_lt, ge_iff_le] at h) <;> first | exact absurd h Bool.false_ne_true | exact absurd h.symm Bool.false_ne_true | conv => whnf))
    | (refine VL.drawS hTb hMix (by kernel_rfl) (by kernel_rfl) (by kernel_rfl) ?_; conv => whnf)
    | (refine Need.mk ?_; kernel_rfl) | (refine Need.mk ⟨rfl, ?_⟩; decide)
    | (refine VR.op hTb rfl rfl (o_index_imm hTb rfl rfl rfl rfl rfl rfl rfl (by omega) (hrow)) rfl ?_; conv => whnf)
    | (refine DT.op hTb rfl (o_index_imm hTb rfl rfl rfl rfl rfl rfl rfl (by omega) (hrow)) rfl ?_; conv => whnf)
    | (refine VR.op hTb rfl rfl (o_index_imm hTb rfl rfl rfl rfl rfl rfl rfl (by omega) (hrw)) rfl ?_; conv => whnf)
    | (refine DT.op hTb rfl (o_index_imm hTb rfl rfl rfl rfl rfl rfl rfl (by omega) (hrw)) rfl ?_; conv => whnf)
    | (refine VR.pure hTb rfl rfl (o_purN (cI) rfl rfl rfl ⟨rfl, rfl, rfl, rfl⟩ (congrArg (fun s => [s, _, _]) brw)) ?_; conv => whnf)
    | (refine DT.pure hTb rfl (o_purN (cI) rfl rfl rfl ⟨rfl, rfl, rfl, rfl⟩ (congrArg (fun s => [s, _, _]) brw)) ?_; conv => whnf)
    | (refine VR.pure hTb rfl rfl (o_purN (cI) rfl rfl rfl ⟨rfl, rfl, rfl, rfl⟩ (congrArg (fun s => [s, _, _]) brw')) ?_; conv => whnf)
    | (refine DT.pure hTb rfl (o_purN (cI) rfl rfl rfl ⟨rfl, rfl, rfl, rfl⟩ (congrArg (fun s => [s, _, _]) brw')) ?_; conv => whnf)
    | (refine VR.pure hTb rfl rfl (o_purN (cI) rfl rfl rfl ⟨rfl, rfl, rfl, rfl⟩ (congrArg (fun s => [s, _, _]) (brwG (by simp)))) ?_; conv => whnf)
    | (refine DT.pure hTb rfl (o_purN (cI) rfl rfl rfl ⟨rfl, rfl, rfl, rfl⟩ (congrArg (fun s => [s, _, _]) (brwG (by simp)))) ?_; conv => whnf)
    | (refine VR.opk hTb rfl rfl (o_app1 (q := 224) (a := (⟨tn, r.id⟩ : VRef)) hTb rfl rfl rfl rfl rfl rfl rfl rfl rfl rfl rfl rfl (by omega) (by show _ * 24 ≤ _; omega) (by unfold maxLen; omega)) ?_; conv => whnf)
    | (refine DT.opk hTb rfl (o_app1 (q := 224) (a := (⟨tn, r.id⟩ : VRef)) hTb rfl rfl rfl rfl rfl rfl rfl rfl rfl rfl rfl rfl (by omega) (by show _ * 24 ≤ _; omega) (by unfold maxLen; omega)) ?_; conv => whnf))
        · have e := hgs
          rw [if_pos h] at e
          exact ⟨k + 1, hkt, by omega, wk_to [(103, 103), (119, 119), (224, 112)] rfl rfl rfl ⟨rfl, rfl, congrArg (fun n => Slot.one (.own 112 0 n)) (by rw [e]; simp), rfl, congrArg (fun x => Slot.one (.g (.int .i64 x))) (wrap64' (by unfold maxLen; omega)), trivial⟩ ⟨rfl, ⟨_, rfl, rfl⟩, rfl, ⟨_, rfl, rfl⟩, rfl, ⟨_, rfl, congrArg (fun r : List VRef => Ob.arr 75 2 (r.map encVRef)) e.symm⟩, trivial⟩⟩
        · have e := hgs
          rw [if_neg (by rw [h]; simp)] at e
          exact ⟨k + 1, hkt, by omega, wk_to [(103, 103), (119, 119), (112, 112)] rfl rfl rfl ⟨rfl, rfl, congrArg (fun r : List VRef => Slot.one (.own 112 0 r.length)) e.symm, rfl, congrArg (fun x => Slot.one (.g (.int .i64 x))) (wrap64' (by unfold maxLen; omega)), trivial⟩ ⟨rfl, ⟨_, rfl, rfl⟩, rfl, ⟨_, rfl, rfl⟩, rfl, ⟨_, rfl, congrArg (fun r : List VRef => Ob.arr 75 2 (r.map encVRef)) e.symm⟩, trivial⟩⟩
      · have hke : k = t.rows.length := by simp at h; omega
        subst hke
        rw [List.take_length]
        exact ⟨i + 1, hlt, by omega, wk_to [(103, 103), (119, 119), (112, 112)] rfl rfl rfl ⟨rfl, rfl, congrArg (fun x => Slot.one (.own 112 0 (goF K x).length)) hps.symm, congrArg (fun x => Slot.one (.g (.int .i64 x))) (wrap64' (by unfold maxLen; omega)), trivial⟩ ⟨rfl, ⟨_, rfl, rfl⟩, rfl, ⟨_, rfl, rfl⟩, rfl, ⟨_, rfl, congrArg (fun x => Ob.arr 75 2 ((goF K x).map encVRef)) hps.symm⟩, trivial⟩⟩
    · have hie : i = b.tabs.length := by simp at g2; omega
      subst hie
      (conv => whnf)
      exact endR [112] (goL b K) rfl rfl rfl rfl rfl (LeS.of_eq (by rw [goL_pre]; rfl)) rfl (by rw [goL_pre]; rfl) ⟨K, hF, rfl⟩
  · (conv => whnf); repeat' (first | (refine And.intro ?_ ?_ <;> ((try intro h) <;> (try simp only [Bool.not_true, Bool.not_false] at h) <;> first | exact absurd h Bool.false_ne_true | exact absurd h.symm Bool.false_ne_true | conv => whnf)) | (refine Need.mk ?_; kernel_rfl) | (refine Need.mk ⟨rfl, ?_⟩; decide))
    refine VL.loopI hTb (fun i => i ≤ b.tabs.length) (fun i => ⟨[(3, .one (.ptr 103 0)), (7, .one (.own 119 0 (spF b K (preT b i)).length)), (8, bS (decide (K.length < (spF b K (preT b i)).length))), (9, iS i)], [(103, .box (encVBase b)), (119, .arr 75 2 ((spF b K (preT b i)).map encVRef))], []⟩) (fun i => b.tabs.length - i) 0 (Nat.zero_le _)
      (wk_to [(103, 103), (119, 119)] rfl rfl rfl ⟨rfl, rfl, (by show bS false = bS (decide (K.length < K.length)); rw [decide_eq_false (Nat.lt_irrefl _)]), rfl, trivial⟩ ⟨rfl, ⟨_, rfl, rfl⟩, rfl, ⟨_, rfl, rfl⟩, trivial⟩) (fun i hi => ?_)
    (conv => whnf)
    refine And.intro (fun g2 => ?_) (fun g2 => ?_)
    · have hlt : i < b.tabs.length := by simpa using g2
      have hrow := rowVTab hlt
      have hps := preT_step hlt
      have hpl := preT_len hb i (by omega)
      have h8 := hb.rows8 (List.getElem_mem hlt)
      obtain ⟨hto, htx⟩ := hb.tabName (List.getElem_mem hlt)
      have cG := fun k (hk : k < (tabOf b b.tabs[i].name).rows.length) (M : List VRef) (h : M.length ≤ maxLen) => c_l4Goes b b.tabs[i].name hm hL k hk M h
      rw [hto] at cG
      generalize b.tabs[i] = ti at hrow hps h8 cG
      generalize preT b i = X at hps hpl ⊢
      obtain ⟨tn, t⟩ := ti
      simp only at h8 cG
      (conv => whnf); repeat' (first | (refine And.intro ?_ ?_ <;> ((try intro h) <;> (try simp only [Bool.not_true, Bool.not_false] at h) <;> first | exact absurd h Bool.false_ne_true | exact absurd h.symm Bool.false_ne_true | conv => whnf)) | (refine Need.mk ?_; kernel_rfl) | (refine Need.mk ⟨rfl, ?_⟩; decide))
      refine VL.loopI hTb (fun k => k ≤ t.rows.length) (fun k => ⟨[(3, .one (.ptr 103 0)), (7, .one (.own 119 0 (spF b K (X ++ (t.rows.take k).map fun r => ((⟨tn, t⟩ : VTab), r))).length)), (8, bS (decide (K.length < (spF b K (X ++ (t.rows.take k).map fun r => ((⟨tn, t⟩ : VTab), r))).length))), (9, iS i), (10, iS k)], [(103, .box (encVBase b)), (119, .arr 75 2 ((spF b K (X ++ (t.rows.take k).map fun r => ((⟨tn, t⟩ : VTab), r))).map encVRef))], []⟩) (fun k => t.rows.length - k) 0 (Nat.zero_le _)
        (wk_to [(103, 103), (119, 119)] rfl rfl rfl ⟨rfl, (by rw [List.take_zero, List.map_nil, List.append_nil]; rfl), (by rw [List.take_zero, List.map_nil, List.append_nil]; rfl), rfl, rfl, trivial⟩ ⟨rfl, ⟨_, rfl, rfl⟩, rfl, ⟨_, rfl, (by rw [List.take_zero, List.map_nil, List.append_nil]; rfl)⟩, trivial⟩) (fun k hk => ?_)
      (conv => whnf); repeat' (first
    | (refine And.intro ?_ ?_ <;> ((try intro h) <;> (try simp only [Bool.not_true, Bool.not_false, decide_eq_true_eq, decide_eq_false_iff_not, Int.not_lt, Int.not_le, gt_iff_lt, ge_iff_le] at h) <;> first | exact absurd h Bool.false_ne_true | exact absurd h.symm Bool.false_ne_true | conv => whnf))
    | (refine VL.drawS hTb hMix (by kernel_rfl) (by kernel_rfl) (by kernel_rfl) ?_; conv => whnf)
    | (refine Need.mk ?_; kernel_rfl) | (refine Need.mk ⟨rfl, ?_⟩; decide)
    | (refine VR.op hTb rfl rfl (o_index_imm hTb rfl rfl rfl rfl rfl rfl rfl (by omega) (hrow)) rfl ?_; conv => whnf)
    | (refine DT.op hTb rfl (o_index_imm hTb rfl rfl rfl rfl rfl rfl rfl (by omega) (hrow)) rfl ?_; conv => whnf))
      · have hkt : k < t.rows.length := by simp at h; omega
        have hrw := rowVRow hkt
        have hst : (t.rows.take (k + 1)).map (fun r => ((⟨tn, t⟩ : VTab), r)) = (t.rows.take k).map (fun r => ((⟨tn, t⟩ : VTab), r)) ++ [(⟨tn, t⟩, t.rows[k])] := mapT_step (t := ⟨tn, t⟩) hkt
        have hgs := spF_snoc b K (X ++ (t.rows.take k).map fun r => ((⟨tn, t⟩ : VTab), r)) (⟨tn, t⟩, t.rows[k])
        rw [List.append_assoc, ← hst] at hgs
        have hge := spF_ge b K (X ++ (t.rows.take k).map fun r => ((⟨tn, t⟩ : VTab), r))
        have hml : (spF b K (X ++ (t.rows.take k).map fun r => ((⟨tn, t⟩ : VTab), r))).length ≤ 1000 := by
          have g4 := spF_le b (X ++ (t.rows.take k).map fun r => ((⟨tn, t⟩ : VTab), r)) K
          have g5 : (X ++ (t.rows.take k).map fun r => ((⟨tn, t⟩ : VTab), r)).length ≤ X.length + t.rows.length := by simp; omega
          omega
        generalize spF b K (X ++ (t.rows.take k).map fun r => ((⟨tn, t⟩ : VTab), r)) = M at hgs hge hml ⊢
        have cG := cG k hkt M (by unfold maxLen; omega)
        have hsc : spC b M ((⟨tn, t⟩ : VTab), t.rows[k]) = goesB b tn t.rows[k] M := rfl
        have hsp : spK ((⟨tn, t⟩ : VTab), t.rows[k]) = ⟨tn, t.rows[k].id⟩ := rfl
        unfold stpF insL at hgs
        rw [hsc, hsp] at hgs
        generalize goesB b tn t.rows[k] M = bg at cG hgs
        generalize t.rows[k] = r at hrw hgs
        have cI := cI M tn r.id (by unfold maxLen; omega)
        generalize inL M ⟨tn, r.id⟩ = bi at cI hgs
        cases bi <;> cases bg <;> (conv => whnf); repeat' (first
    | (refine And.intro ?_ ?_ <;> ((try intro h) <;> (try simp only [Bool.not_true, Bool.not_false, decide_eq_true_eq, decide_eq_false_iff_not, Int.not_lt, Int.not_le, gt_iff_lt, ge_iff_le] at h) <;> first | exact absurd h Bool.false_ne_true | exact absurd h.symm Bool.false_ne_true | conv => whnf))
    | (refine VL.drawS hTb hMix (by kernel_rfl) (by kernel_rfl) (by kernel_rfl) ?_; conv => whnf)
    | (refine Need.mk ?_; kernel_rfl) | (refine Need.mk ⟨rfl, ?_⟩; decide)
    | (refine VR.op hTb rfl rfl (o_index_imm hTb rfl rfl rfl rfl rfl rfl rfl (by omega) (hrow)) rfl ?_; conv => whnf)
    | (refine DT.op hTb rfl (o_index_imm hTb rfl rfl rfl rfl rfl rfl rfl (by omega) (hrow)) rfl ?_; conv => whnf)
    | (refine VR.op hTb rfl rfl (o_index_imm hTb rfl rfl rfl rfl rfl rfl rfl (by omega) (hrw)) rfl ?_; conv => whnf)
    | (refine DT.op hTb rfl (o_index_imm hTb rfl rfl rfl rfl rfl rfl rfl (by omega) (hrw)) rfl ?_; conv => whnf)
    | (refine VR.pure hTb rfl rfl (o_purN (cI) rfl rfl rfl ⟨rfl, rfl, rfl, rfl⟩ (congrArg (fun s => [s, _, _]) brw)) ?_; conv => whnf)
    | (refine DT.pure hTb rfl (o_purN (cI) rfl rfl rfl ⟨rfl, rfl, rfl, rfl⟩ (congrArg (fun s => [s, _, _]) brw)) ?_; conv => whnf)
    | (refine VR.pure hTb rfl rfl (o_purN (cI) rfl rfl rfl ⟨rfl, rfl, rfl, rfl⟩ (congrArg (fun s => [s, _, _]) brw')) ?_; conv => whnf)
    | (refine DT.pure hTb rfl (o_purN (cI) rfl rfl rfl ⟨rfl, rfl, rfl, rfl⟩ (congrArg (fun s => [s, _, _]) brw')) ?_; conv => whnf)
    | (refine VR.pure hTb rfl rfl (o_purN (cI) rfl rfl rfl ⟨rfl, rfl, rfl, rfl⟩ (congrArg (fun s => [s, _, _]) (brwG (by simp)))) ?_; conv => whnf)
    | (refine DT.pure hTb rfl (o_purN (cI) rfl rfl rfl ⟨rfl, rfl, rfl, rfl⟩ (congrArg (fun s => [s, _, _]) (brwG (by simp)))) ?_; conv => whnf)
    | (refine VR.pure hTb rfl rfl (o_purN (cG) rfl rfl rfl ⟨rfl, rfl, rfl, rfl⟩ (congrArg (fun s => [_, _, _, s]) brw)) ?_; conv => whnf)
    | (refine DT.pure hTb rfl (o_purN (cG) rfl rfl rfl ⟨rfl, rfl, rfl, rfl⟩ (congrArg (fun s => [_, _, _, s]) brw)) ?_; conv => whnf)
    | (refine VR.pure hTb rfl rfl (o_purN (cG) rfl rfl rfl ⟨rfl, rfl, rfl, rfl⟩ (congrArg (fun s => [_, _, _, s]) brw')) ?_; conv => whnf)
    | (refine DT.pure hTb rfl (o_purN (cG) rfl rfl rfl ⟨rfl, rfl, rfl, rfl⟩ (congrArg (fun s => [_, _, _, s]) brw')) ?_; conv => whnf)
    | (refine VR.pure hTb rfl rfl (o_purN (cG) rfl rfl rfl ⟨rfl, rfl, rfl, rfl⟩ (congrArg (fun s => [_, _, _, s]) (brwG (by simp)))) ?_; conv => whnf)
    | (refine DT.pure hTb rfl (o_purN (cG) rfl rfl rfl ⟨rfl, rfl, rfl, rfl⟩ (congrArg (fun s => [_, _, _, s]) (brwG (by simp)))) ?_; conv => whnf)
    | (refine VR.opk hTb rfl rfl (o_app1 (q := 176) (a := (⟨tn, r.id⟩ : VRef)) hTb rfl rfl rfl rfl rfl rfl rfl rfl rfl rfl rfl rfl (by omega) (by show _ * 24 ≤ _; omega) (by unfold maxLen; omega)) ?_; conv => whnf)
    | (refine DT.opk hTb rfl (o_app1 (q := 176) (a := (⟨tn, r.id⟩ : VRef)) hTb rfl rfl rfl rfl rfl rfl rfl rfl rfl rfl rfl rfl (by omega) (by show _ * 24 ≤ _; omega) (by unfold maxLen; omega)) ?_; conv => whnf))
        all_goals first
          | (have e : _ = M := hgs
             exact ⟨k + 1, hkt, by omega, wk_to [(103, 103), (119, 119)] rfl rfl rfl ⟨rfl, congrArg (fun r : List VRef => Slot.one (.own 119 0 r.length)) e.symm, congrArg (fun r : List VRef => bS (decide (K.length < r.length))) e.symm, rfl, congrArg (fun x => Slot.one (.g (.int .i64 x))) (wrap64' (by unfold maxLen; omega)), trivial⟩ ⟨rfl, ⟨_, rfl, rfl⟩, rfl, ⟨_, rfl, congrArg (fun r : List VRef => Ob.arr 75 2 (r.map encVRef)) e.symm⟩, trivial⟩⟩)
          | (have e : _ = M ++ [⟨tn, r.id⟩] := hgs
             have e2 : bS true = bS (decide (K.length < (spF b K (X ++ (t.rows.take (k + 1)).map fun r => ((⟨tn, t⟩ : VTab), r))).length)) := by
               rw [e, decide_eq_true (by rw [List.length_append, List.length_cons]; omega)]
             exact ⟨k + 1, hkt, by omega, wk_to [(103, 103), (176, 119)] rfl rfl rfl ⟨rfl, congrArg (fun n => Slot.one (.own 119 0 n)) (by rw [e]; simp), e2, rfl, congrArg (fun x => Slot.one (.g (.int .i64 x))) (wrap64' (by unfold maxLen; omega)), trivial⟩ ⟨rfl, ⟨_, rfl, rfl⟩, rfl, ⟨_, rfl, congrArg (fun r : List VRef => Ob.arr 75 2 (r.map encVRef)) e.symm⟩, trivial⟩⟩)
          | trace_state
      · have hke : k = t.rows.length := by simp at h; omega
        subst hke
        rw [List.take_length]
        exact ⟨i + 1, hlt, by omega, wk_to [(103, 103), (119, 119)] rfl rfl rfl ⟨rfl, congrArg (fun x => Slot.one (.own 119 0 (spF b K x).length)) hps.symm, congrArg (fun x => bS (decide (K.length < (spF b K x).length))) hps.symm, congrArg (fun x => Slot.one (.g (.int .i64 x))) (wrap64' (by unfold maxLen; omega)), trivial⟩ ⟨rfl, ⟨_, rfl, rfl⟩, rfl, ⟨_, rfl, congrArg (fun x => Ob.arr 75 2 ((spF b K x).map encVRef)) hps.symm⟩, trivial⟩⟩
    · have hie : i = b.tabs.length := by simp at g2; omega
      subst hie
      rw [← spP_pre]
      have hsd := spP_sound hb h1
      have hmo : (⟨sn, si⟩ : VRef) ∈ spP b K := foldF_mono _ _ _ h2
      have hcn := spP_cnt b K
      have hge : K.length ≤ (spP b K).length := foldF_len _ _
      (conv => whnf)
      refine ⟨(decide (K.length < (spP b K).length), spP b K), ⟨hsd, hmo, ?_, fun hf => ?_⟩, ?_, wk_to [(103, 103), (119, 119)] rfl rfl rfl ⟨rfl, rfl, rfl, trivial⟩ ⟨rfl, ⟨_, rfl, rfl⟩, rfl, ⟨_, rfl, rfl⟩, trivial⟩⟩
      · simp only
        rcases hcn with hcn | hcn
        · rw [hcn]; exact h3
        · omega
      · simp only at hf ⊢
        have hle := of_decide_eq_false hf
        obtain ⟨e1, e2⟩ := spP_fnd hb h1 h2 (by omega)
        rw [e1]; exact e2
      · simp only
        split
        · rename_i hd
          have hlt := of_decide_eq_true hd
          rcases hcn with hcn | hcn
          · rw [hcn] at hlt; omega
          · omega
        · omega
theorem c_specBaseDoomed (b : VBase) (s : VRef) (hm : b.md) : CallsV Tryz.prog 36 [.agg (encVBase b), strS s.name, iS s.id] [] (dmQ b s) := by
  have c1 := c_specBaseOk b hm
  have c2 := c_l4Has b s hm
  have c3 := fun (h : baseOk b = true) => c_l4Doomed b s hm (baseOk_iff.1 h)
  have hd : ∀ R, ¬ (baseOk b = true ∧ hasB b s = true) → R = [] → DmR b s R := fun R h e => .inr ⟨h, e⟩
  have hd2 : baseOk b = true → hasB b s = true → ∀ R, (∃ K, Fnd b s K ∧ R = goL b K) → DmR b s R := fun h1 h2 R hK => .inl ⟨h1, h2, hK⟩
  generalize baseOk b = b1 at c1 c3 hd hd2
  generalize hasB b s = b2 at c2 hd hd2
  obtain ⟨sn, si⟩ := s
  refine funF_walk hTb Tryz.func36 rfl rfl Tryz.ntmps36 (by simp) (by simp) ?_
  cases b1
  · (conv => whnf); repeat' (first
    | (refine And.intro ?_ ?_ <;> ((try intro h) <;> (try simp only [Bool.not_true, Bool.not_false, decide_eq_true_eq, decide_eq_false_iff_not, Int.not_lt, Int.not_le, gt_iff_lt, ge_iff_le] at h) <;> first | exact absurd h Bool.false_ne_true | exact absurd h.symm Bool.false_ne_true | conv => whnf))
    | (refine VL.drawS hTb hMix (by kernel_rfl) (by kernel_rfl) (by kernel_rfl) ?_; conv => whnf)
    | (refine Need.mk ?_; kernel_rfl) | (refine Need.mk ⟨rfl, ?_⟩; decide)
    | (refine VR.pure hTb rfl rfl (o_purN (c1) rfl rfl rfl ⟨rfl, rfl, rfl, rfl⟩ rfl) ?_; conv => whnf)
    | (refine DT.pure hTb rfl (o_purN (c1) rfl rfl rfl ⟨rfl, rfl, rfl, rfl⟩ rfl) ?_; conv => whnf))
    exact endR [117] [] rfl rfl rfl rfl rfl (LeS.refl _) rfl rfl (hd _ (by simp) rfl)
  cases b2
  · (conv => whnf); repeat' (first
    | (refine And.intro ?_ ?_ <;> ((try intro h) <;> (try simp only [Bool.not_true, Bool.not_false, decide_eq_true_eq, decide_eq_false_iff_not, Int.not_lt, Int.not_le, gt_iff_lt, ge_iff_le] at h) <;> first | exact absurd h Bool.false_ne_true | exact absurd h.symm Bool.false_ne_true | conv => whnf))
    | (refine VL.drawS hTb hMix (by kernel_rfl) (by kernel_rfl) (by kernel_rfl) ?_; conv => whnf)
    | (refine Need.mk ?_; kernel_rfl) | (refine Need.mk ⟨rfl, ?_⟩; decide)
    | (refine VR.pure hTb rfl rfl (o_purN (c1) rfl rfl rfl ⟨rfl, rfl, rfl, rfl⟩ rfl) ?_; conv => whnf)
    | (refine DT.pure hTb rfl (o_purN (c1) rfl rfl rfl ⟨rfl, rfl, rfl, rfl⟩ rfl) ?_; conv => whnf)
    | (refine VR.pure hTb rfl rfl (o_purN (c2) rfl rfl rfl ⟨rfl, rfl, rfl, rfl⟩ rfl) ?_; conv => whnf)
    | (refine DT.pure hTb rfl (o_purN (c2) rfl rfl rfl ⟨rfl, rfl, rfl, rfl⟩ rfl) ?_; conv => whnf))
    exact endR [117] [] rfl rfl rfl rfl rfl (LeS.refl _) rfl rfl (hd _ (by simp) rfl)
  have c3 := c3 rfl
  have hd2 := hd2 rfl rfl
  (conv => whnf); repeat' (first
    | (refine And.intro ?_ ?_ <;> ((try intro h) <;> (try simp only [Bool.not_true, Bool.not_false, decide_eq_true_eq, decide_eq_false_iff_not, Int.not_lt, Int.not_le, gt_iff_lt, ge_iff_le] at h) <;> first | exact absurd h Bool.false_ne_true | exact absurd h.symm Bool.false_ne_true | conv => whnf))
    | (refine VL.drawS hTb hMix (by kernel_rfl) (by kernel_rfl) (by kernel_rfl) ?_; conv => whnf)
    | (refine Need.mk ?_; kernel_rfl) | (refine Need.mk ⟨rfl, ?_⟩; decide)
    | (refine VR.pure hTb rfl rfl (o_purN (c1) rfl rfl rfl ⟨rfl, rfl, rfl, rfl⟩ rfl) ?_; conv => whnf)
    | (refine DT.pure hTb rfl (o_purN (c1) rfl rfl rfl ⟨rfl, rfl, rfl, rfl⟩ rfl) ?_; conv => whnf)
    | (refine VR.pure hTb rfl rfl (o_purN (c2) rfl rfl rfl ⟨rfl, rfl, rfl, rfl⟩ rfl) ?_; conv => whnf)
    | (refine DT.pure hTb rfl (o_purN (c2) rfl rfl rfl ⟨rfl, rfl, rfl, rfl⟩ rfl) ?_; conv => whnf)
    | (refine VR.rel hTb rfl rfl (o_relN (c3) false [] (fun _ _ => ⟨by simp, fun h => by cases h⟩) rfl rfl rfl rfl rfl ⟨rfl, rfl, rfl, rfl⟩ rfl rfl) ?_; rintro R hR; (try simp only at hR); conv => whnf)
    | (refine DT.rel hTb rfl (o_relN (c3) false [] (fun _ _ => ⟨by simp, fun h => by cases h⟩) rfl rfl rfl rfl rfl ⟨rfl, rfl, rfl, rfl⟩ rfl rfl) [] (by kernel_rfl) (by kernel_rfl) ?_; rintro R hR; (try simp only at hR); refine And.intro rfl (And.intro rfl ?_); conv => whnf))
  exact endR [1084] R rfl rfl rfl rfl rfl (LeS.refl _) rfl rfl (hd2 R hR)
end Go.Vl

namespace Go.Vl
open Go Go.RowKit Go.Proofs
set_option maxRecDepth 100000
set_option linter.unusedSimpArgs false
set_option linter.unusedVariables false
set_option maxHeartbeats 8000000

def encVTabN : VTab → List Leaf
  | ⟨name, ⟨first, changes, rows, next⟩⟩ => [.g (.string name), .nst 39 7 (first.map encCol), .nst 105 10 (changes.map encChange), .nst 35 3 (rows.map encVRowN), .g (.int .i64 next)]
theorem unN_Col (v : Col) : unNs (encCol v) = encCol v := by obtain ⟨a, b, c, d, ⟨e, f, g⟩⟩ := v; rfl
theorem unN_Change (v : Change) : unNs (encChange v) = encChange v := by obtain ⟨a, b, c, ⟨d, e, f, g, ⟨h, i, j⟩⟩⟩ := v; rfl
theorem unN_VTab (r : VTab) : unNs (encVTabN r) = encVTab r := by
  obtain ⟨name, ⟨first, changes, rows, next⟩⟩ := r
  show [Leaf.g (.string name), Leaf.imm 7 (unNss (first.map encCol)), Leaf.imm 10 (unNss (changes.map encChange)), Leaf.imm 3 (unNss (rows.map encVRowN)), Leaf.g (.int .i64 next)] = _
  rw [unN_VRows, unNss_map, unNss_map, List.map_congr_left fun v _ => unN_Col v, List.map_congr_left fun v _ => unN_Change v]; rfl
theorem unN_VTabs (l : List VTab) : unNss (l.map encVTabN) = l.map encVTab := by rw [unNss_map, List.map_congr_left fun v _ => unN_VTab v]
theorem plainCols (l : List Col) : ∀ r ∈ l.map encCol, plain r = true := by
  intro r hr
  obtain ⟨v, _, rfl⟩ := List.mem_map.1 hr
  obtain ⟨a, b, c, d, ⟨e, f, g⟩⟩ := v; rfl
theorem plainChanges (l : List Change) : ∀ r ∈ l.map encChange, plain r = true := by
  intro r hr
  obtain ⟨v, _, rfl⟩ := List.mem_map.1 hr
  obtain ⟨a, b, c, ⟨d, e, f, g, ⟨h, i, j⟩⟩⟩ := v; rfl
abbrev tabTS (t : VTab) : Slot := .agg [.g (.string t.name), .own 0 0 t.table.first.length, .own 1 0 t.table.changes.length, .own 2 0 t.table.rows.length, .g (.int .i64 t.table.next)]
theorem u_VTab (t : VTab) (hm : t.table.md) (hs : t.table.first.length + t.table.changes.length ≤ 1048576) : CallsV Tryz.prog 154 [.agg (encVTab t)] [] (funQ (tabTS t) [] (tabO t.table)) := by
  refine funF_walk hTb Tryz.func154 rfl rfl Tryz.ntmps154 (by simp) (by simp) ?_
  have uT := u_VTable t.table hm hs
  (conv => whnf); repeat' (first
    | (refine And.intro ?_ ?_ <;> ((try intro h) <;> (try simp only [Bool.not_true, Bool.not_false, decide_eq_true_eq, decide_eq_false_iff_not, Int.not_lt, Int.not_le, gt_iff_lt, ge_iff_le] at h) <;> first | exact absurd h Bool.false_ne_true | exact absurd h.symm Bool.false_ne_true | conv => whnf))
    | (refine VL.drawS hTb hMix (by kernel_rfl) (by kernel_rfl) (by kernel_rfl) ?_; conv => whnf)
    | (refine Need.mk ?_; kernel_rfl) | (refine Need.mk ⟨rfl, ?_⟩; decide)
    | (refine VR.fun hTb rfl rfl (o_funN (uT) false [] (fun h => by cases h) (by simp) rfl rfl rfl rfl rfl ⟨rfl, rfl, rfl, rfl⟩ rfl rfl) ?_; conv => whnf)
    | (refine DT.fun hTb rfl (o_funN (uT) false [] (fun h => by cases h) (by simp) rfl rfl rfl rfl rfl ⟨rfl, rfl, rfl, rfl⟩ rfl rfl) rfl ?_; conv => whnf))
  exact endW [1036, 1037, 1038] rfl rfl rfl rfl rfl (LeS.refl _) rfl rfl
theorem u_VTabs (l : List VTab) (hl : l.length ≤ 1048576) (hv : ∀ x ∈ l, x.table.md ∧ x.table.first.length + x.table.changes.length ≤ 1048576) : CallsV Tryz.prog 93 [vtabsI l] [] (funQ (.one (.own 0 0 l.length)) [] [.reg 77 5 (l.map encVTabN) []]) := by
  refine funF_walk hTb Tryz.func93 rfl rfl Tryz.ntmps93 (by simp) (by simp) ?_
  (conv => whnf); repeat' (first | (refine And.intro ?_ ?_ <;> ((try intro h) <;> (try simp only [Bool.not_true, Bool.not_false] at h) <;> first | exact absurd h Bool.false_ne_true | exact absurd h.symm Bool.false_ne_true | conv => whnf)) | (refine Need.mk ?_; kernel_rfl) | (refine Need.mk ⟨rfl, ?_⟩; decide))
  refine VR.op hTb rfl rfl (o_make (q := 107) hTb rfl rfl rfl rfl rfl rfl (by decide) (by show 96 * _ ≤ _; simp; omega) (by unfold maxLen; simp; omega) rfl (by omega)) rfl ?_
  (conv => whnf); repeat' (first | (refine And.intro ?_ ?_ <;> ((try intro h) <;> (try simp only [Bool.not_true, Bool.not_false] at h) <;> first | exact absurd h Bool.false_ne_true | exact absurd h.symm Bool.false_ne_true | conv => whnf)) | (refine Need.mk ?_; kernel_rfl) | (refine Need.mk ⟨rfl, ?_⟩; decide))
  refine VL.loopI hTb (fun i => i ≤ l.length) (fun i => ⟨[(0, vtabsI l), (3, .one (.own 107 0 (l.map encVTab).length)), (4, iS i)], [(107, .reg 77 5 (trG encVTabN [.g (.string ⟨#[]⟩), .g (.slice none 0 0), .g (.slice none 0 0), .g (.slice none 0 0), .g (.int .i64 0)] l i) [])], []⟩) (fun i => l.length - i) 0 (Nat.zero_le _)
    ((wk_toReg _ (q := 107) rfl).trans (wk_to [(107, 107)] rfl rfl rfl ⟨rfl, rfl, rfl, trivial⟩ ⟨rfl, ⟨_, rfl, ?_⟩, trivial⟩)) (fun i hi => ?_)
  · rw [trG_zero, ← List.length_map (f := encVTab)]; rfl
  (conv => whnf)
  refine And.intro (fun h2 => ?_) (fun h2 => ?_)
  · have hlt : i < l.length := by simpa using h2
    have hrow := rowVTab hlt
    have hz := trG_at (enc := encVTabN) (z := [.g (.string ⟨#[]⟩), .g (.slice none 0 0), .g (.slice none 0 0), .g (.slice none 0 0), .g (.int .i64 0)]) hlt
    have hvi := hv _ (List.getElem_mem hlt)
    have hc := u_VTab l[i] hvi.1 hvi.2
    have hset := trG_set (enc := encVTabN) (z := [.g (.string ⟨#[]⟩), .g (.slice none 0 0), .g (.slice none 0 0), .g (.slice none 0 0), .g (.int .i64 0)]) hlt
    generalize trG encVTabN [.g (.string ⟨#[]⟩), .g (.slice none 0 0), .g (.slice none 0 0), .g (.slice none 0 0), .g (.int .i64 0)] l i = R at hz hset ⊢
    generalize l[i] = ci at hrow hc hset
    (conv => whnf); repeat' (first
    | (refine And.intro ?_ ?_ <;> ((try intro h) <;> (try simp only [Bool.not_true, Bool.not_false, decide_eq_true_eq, decide_eq_false_iff_not, Int.not_lt, Int.not_le, gt_iff_lt, ge_iff_le] at h) <;> first | exact absurd h Bool.false_ne_true | exact absurd h.symm Bool.false_ne_true | conv => whnf))
    | (refine VL.drawS hTb hMix (by kernel_rfl) (by kernel_rfl) (by kernel_rfl) ?_; conv => whnf)
    | (refine Need.mk ?_; kernel_rfl) | (refine Need.mk ⟨rfl, ?_⟩; decide)
    | (refine VR.op hTb rfl rfl (o_index_imm hTb rfl rfl rfl rfl rfl rfl rfl (by omega) (hrow)) rfl ?_; conv => whnf)
    | (refine DT.op hTb rfl (o_index_imm hTb rfl rfl rfl rfl rfl rfl rfl (by omega) (hrow)) rfl ?_; conv => whnf)
    | (refine VR.fun hTb rfl rfl (o_funN (hc) false [] (fun h => by cases h) (by simp) rfl rfl rfl rfl rfl ⟨rfl, rfl, rfl, rfl⟩ rfl rfl) ?_; conv => whnf)
    | (refine DT.fun hTb rfl (o_funN (hc) false [] (fun h => by cases h) (by simp) rfl rfl rfl rfl rfl ⟨rfl, rfl, rfl, rfl⟩ rfl rfl) rfl ?_; conv => whnf)
    | (refine Need.mk ?_; exact ⟨rfl, by omega, by first | (simp; done) | (simp; omega)⟩)
    | (refine VR.op hTb rfl rfl (o_store_reg hTb rfl rfl rfl rfl rfl hz rfl rfl ⟨rfl, by decide⟩ (fun _ _ _ => rfl) rfl) rfl ?_; conv => whnf))
    refine ⟨i + 1, hlt, by omega, (wk_putBack _ (q := 107) (r := 0 + ((i : Nat) : Int).toNat) (j := 1) (v := 1080) rfl rfl (.inl rfl) (gset hz) rfl (by simp) (by decide) (by simp [holeAt]) rfl rfl).trans
      ((wk_putBack _ (q := 107) (r := 0 + ((i : Nat) : Int).toNat) (j := 2) (v := 1081) rfl rfl (.inl rfl) (gset (gset hz)) rfl (by simp) (by decide) (by simp [holeAt]) rfl rfl).trans
      ((wk_putBack _ (q := 107) (r := 0 + ((i : Nat) : Int).toNat) (j := 3) (v := 1082) (rows' := trG encVTabN [.g (.string ⟨#[]⟩), .g (.slice none 0 0), .g (.slice none 0 0), .g (.slice none 0 0), .g (.int .i64 0)] l (i + 1)) rfl rfl (.inr rfl) (gset (gset (gset hz))) rfl (by simp) (by decide) (by simp [holeAt]) ?_ rfl).trans
      (wk_to [(107, 107)] rfl rfl rfl ⟨rfl, rfl, congrArg (fun x => Slot.one (.g (.int .i64 x))) (wrap64' (by unfold maxLen; omega)), trivial⟩ ⟨rfl, ⟨_, rfl, rfl⟩, trivial⟩)))⟩
    rw [List.set_set, List.set_set, List.set_set, Int.toNat_natCast, Nat.zero_add]
    exact hset
  · (conv => whnf)
    have : i = l.length := by simp at h2; omega
    subst this
    exact endW [107] rfl rfl rfl rfl rfl (LeS.of_eq (congrArg (fun n => Slot.one (.own 0 0 n)) (by simp))) rfl (congrArg (fun r => [Ob.reg 77 5 r []]) trG_all)
theorem u_VLinks (l : List VLink) (hl : l.length ≤ 1048576) : CallsV Tryz.prog 94 [vlinksI l] [] (funQ (.one (.own 0 0 l.length)) [] [.arr 79 4 (l.map encVLink)]) := by
  refine funF_walk hTb Tryz.func94 rfl rfl Tryz.ntmps94 (by simp) (by simp) ?_
  (conv => whnf); repeat' (first | (refine And.intro ?_ ?_ <;> ((try intro h) <;> (try simp only [Bool.not_true, Bool.not_false] at h) <;> first | exact absurd h Bool.false_ne_true | exact absurd h.symm Bool.false_ne_true | conv => whnf)) | (refine Need.mk ?_; kernel_rfl) | (refine Need.mk ⟨rfl, ?_⟩; decide))
  refine VR.op hTb rfl rfl (o_make (q := 107) hTb rfl rfl rfl rfl rfl rfl (by decide) (by show 56 * _ ≤ _; simp; omega) (by unfold maxLen; simp; omega) rfl (by omega)) rfl ?_
  (conv => whnf); repeat' (first | (refine And.intro ?_ ?_ <;> ((try intro h) <;> (try simp only [Bool.not_true, Bool.not_false] at h) <;> first | exact absurd h Bool.false_ne_true | exact absurd h.symm Bool.false_ne_true | conv => whnf)) | (refine Need.mk ?_; kernel_rfl) | (refine Need.mk ⟨rfl, ?_⟩; decide))
  refine VL.loopI hTb (fun i => i ≤ l.length) (fun i => ⟨[(0, vlinksI l), (3, .one (.own 107 0 (l.map encVLink).length)), (4, iS i)], [(107, .arr 79 4 (trG encVLink [.g (.string ⟨#[]⟩), .g (.string ⟨#[]⟩), .g (.string ⟨#[]⟩), .g (.int .i64 0)] l i))], []⟩) (fun i => l.length - i) 0 (Nat.zero_le _)
    (wk_to [(107, 107)] rfl rfl rfl ⟨rfl, rfl, rfl, trivial⟩ ⟨rfl, ⟨_, rfl, ?_⟩, trivial⟩) (fun i hi => ?_)
  · rw [trG_zero, ← List.length_map (f := encVLink)]; rfl
  (conv => whnf)
  refine And.intro (fun h2 => ?_) (fun h2 => ?_)
  · have hlt : i < l.length := by simpa using h2
    have hrow := rowVLink hlt
    have hz := trG_at (enc := encVLink) (z := [.g (.string ⟨#[]⟩), .g (.string ⟨#[]⟩), .g (.string ⟨#[]⟩), .g (.int .i64 0)]) hlt
    have hc := t_VLink l[i] trivial
    have hset := trG_set (enc := encVLink) (z := [.g (.string ⟨#[]⟩), .g (.string ⟨#[]⟩), .g (.string ⟨#[]⟩), .g (.int .i64 0)]) hlt
    generalize trG encVLink [.g (.string ⟨#[]⟩), .g (.string ⟨#[]⟩), .g (.string ⟨#[]⟩), .g (.int .i64 0)] l i = R at hz hset ⊢
    generalize l[i] = ci at hrow hc hset
    (conv => whnf); repeat' (first
    | (refine And.intro ?_ ?_ <;> ((try intro h) <;> (try simp only [Bool.not_true, Bool.not_false, decide_eq_true_eq, decide_eq_false_iff_not, Int.not_lt, Int.not_le, gt_iff_lt, ge_iff_le] at h) <;> first | exact absurd h Bool.false_ne_true | exact absurd h.symm Bool.false_ne_true | conv => whnf))
    | (refine VL.drawS hTb hMix (by kernel_rfl) (by kernel_rfl) (by kernel_rfl) ?_; conv => whnf)
    | (refine Need.mk ?_; kernel_rfl) | (refine Need.mk ⟨rfl, ?_⟩; decide)
    | (refine VR.op hTb rfl rfl (o_index_imm hTb rfl rfl rfl rfl rfl rfl rfl (by omega) (hrow)) rfl ?_; conv => whnf)
    | (refine DT.op hTb rfl (o_index_imm hTb rfl rfl rfl rfl rfl rfl rfl (by omega) (hrow)) rfl ?_; conv => whnf)
    | (refine VR.pure hTb rfl rfl (o_purF (hc) rfl rfl rfl ⟨rfl, rfl, rfl, rfl⟩ rfl) ?_; conv => whnf)
    | (refine DT.pure hTb rfl (o_purF (hc) rfl rfl rfl ⟨rfl, rfl, rfl, rfl⟩ rfl) ?_; conv => whnf)
    | (refine Need.mk ?_; exact ⟨rfl, by omega, by first | (simp; done) | (simp; omega)⟩)
    | (refine VR.op hTb rfl rfl (o_store_elm hTb rfl rfl rfl rfl rfl (hz) rfl rfl rfl ⟨rfl, by decide⟩) rfl ?_; conv => whnf)
    | (refine DT.op hTb rfl (o_store_elm hTb rfl rfl rfl rfl rfl (hz) rfl rfl rfl ⟨rfl, by decide⟩) rfl ?_; conv => whnf))
    refine ⟨i + 1, hlt, by omega, wk_to [(107, 107)] rfl rfl rfl ⟨rfl, rfl, congrArg (fun x => Slot.one (.g (.int .i64 x))) (wrap64' (by unfold maxLen; omega)), trivial⟩ ⟨rfl, ⟨_, rfl, congrArg (Ob.arr 79 4) ?_⟩, trivial⟩⟩
    rw [Int.toNat_natCast, Nat.zero_add]
    exact hset
  · (conv => whnf)
    have : i = l.length := by simp at h2; omega
    subst this
    exact endW [107] rfl rfl rfl rfl rfl (LeS.of_eq (congrArg (fun n => Slot.one (.own 0 0 n)) (by simp))) rfl (congrArg (fun r => [Ob.arr 79 4 r]) trG_all)
abbrev baseS (b : VBase) : Slot := .agg [.own 0 0 b.tabs.length, .own 1 0 b.links.length]
abbrev baseO (b : VBase) : List Ob := [.reg 77 5 (b.tabs.map encVTabN) [], .arr 79 4 (b.links.map encVLink)]
theorem u_VBase (b : VBase) (hs : b.sz) : CallsV Tryz.prog 33 [.agg (encVBase b)] [] (funQ (baseS b) [] (baseO b)) := by
  refine funF_walk hTb Tryz.func33 rfl rfl Tryz.ntmps33 (by simp) (by simp) ?_
  have uT := u_VTabs b.tabs hs.md.tl fun t ht => ⟨(hs.md.tm t ht).2, hs.fc t ht⟩
  have uL := u_VLinks b.links hs.md.ll
  (conv => whnf); repeat' (first
    | (refine And.intro ?_ ?_ <;> ((try intro h) <;> (try simp only [Bool.not_true, Bool.not_false, decide_eq_true_eq, decide_eq_false_iff_not, Int.not_lt, Int.not_le, gt_iff_lt, ge_iff_le] at h) <;> first | exact absurd h Bool.false_ne_true | exact absurd h.symm Bool.false_ne_true | conv => whnf))
    | (refine VL.drawS hTb hMix (by kernel_rfl) (by kernel_rfl) (by kernel_rfl) ?_; conv => whnf)
    | (refine Need.mk ?_; kernel_rfl) | (refine Need.mk ⟨rfl, ?_⟩; decide)
    | (refine VR.fun hTb rfl rfl (o_funN (uT) false [] (fun h => by cases h) (by simp) rfl rfl rfl rfl rfl ⟨rfl, rfl, rfl, rfl⟩ rfl rfl) ?_; conv => whnf)
    | (refine DT.fun hTb rfl (o_funN (uT) false [] (fun h => by cases h) (by simp) rfl rfl rfl rfl rfl ⟨rfl, rfl, rfl, rfl⟩ rfl rfl) rfl ?_; conv => whnf)
    | (refine VR.fun hTb rfl rfl (o_funN (uL) false [] (fun h => by cases h) (by simp) rfl rfl rfl rfl rfl ⟨rfl, rfl, rfl, rfl⟩ rfl rfl) ?_; conv => whnf)
    | (refine DT.fun hTb rfl (o_funN (uL) false [] (fun h => by cases h) (by simp) rfl rfl rfl rfl rfl ⟨rfl, rfl, rfl, rfl⟩ rfl rfl) rfl ?_; conv => whnf))
  exact endW [1024, 1040] rfl rfl rfl rfl rfl (LeS.refl _) rfl rfl
theorem brwBase (b : VBase) : Slot.agg [.imm 5 (((unNss (b.tabs.map encVTabN)).drop 0).take b.tabs.length), .imm 4 (((b.links.map encVLink).drop 0).take b.links.length)] = .agg (encVBase b) := by
  rw [unN_VTabs, List.drop_zero, List.take_of_length_le (by simp), List.drop_zero, List.take_of_length_le (by simp)]; rfl
theorem c_markLinks (l : List VLink) (k : Nat) (hl : l.length ≤ 3000000) (hk1 : 1 ≤ k) (hk : k + 4 * l.length ≤ 1000000000) : CallsV Tryz.prog 109 [.one (.own 0 0 l.length), iS k] [.arr 79 4 (l.map encVLink)]
    (relQ (fun M : List VLink => True) (fun _ => iS ((k + 4 * l.length : Nat) : Int)) (fun M => [some (.arr 79 4 (M.map encVLink))]) (fun _ => [])) := by
  refine funF_walk hTb Tryz.func109 rfl rfl Tryz.ntmps109 (by simp) (by simp) ?_
  (conv => whnf); repeat' (first | (refine And.intro ?_ ?_ <;> ((try intro h) <;> (try simp only [Bool.not_true, Bool.not_false] at h) <;> first | exact absurd h Bool.false_ne_true | exact absurd h.symm Bool.false_ne_true | conv => whnf)) | (refine Need.mk ?_; kernel_rfl) | (refine Need.mk ⟨rfl, ?_⟩; decide))
  refine VL.loopI hTb (α := Nat × List VLink) (fun x => x.1 ≤ l.length ∧ x.2.length = l.length) (fun x => ⟨[(0, .one (.own 0 0 l.length)), (1, iS ((k + 4 * x.1 : Nat) : Int)), (5, iS x.1)], [(0, .arr 79 4 (x.2.map encVLink))], []⟩) (fun x => l.length - x.1) (0, l) ⟨Nat.zero_le _, rfl⟩
    (wk_to [(0, 0)] rfl rfl rfl ⟨rfl, rfl, rfl, trivial⟩ ⟨rfl, ⟨_, rfl, rfl⟩, trivial⟩) (fun x hx => ?_)
  obtain ⟨i, M⟩ := x
  obtain ⟨hi, hM⟩ := hx
  simp only at hi hM
  (conv => whnf)
  refine And.intro (fun h2 => ?_) (fun h2 => ?_)
  · have hlt : i < l.length := by simpa using h2
    have hat : M[0 + ((i : Nat) : Int).toNat]? = some (M[i]'(by omega)) := by rw [Int.toNat_natCast, Nat.zero_add]; exact List.getElem?_eq_getElem _
    generalize M[i]'(by omega) = ci at hat
    obtain ⟨c1, c2, c3, c4⟩ := ci
    obtain ⟨K, hK⟩ : ∃ K, k + 4 * i = K := ⟨_, rfl⟩
    have e4 : k + 4 * (i + 1) = K + 4 := by omega
    have w : ∀ a : Nat, a ≤ K + 3 → IntKind.i64.wrap ((a : Int) + 1) = ((a + 1 : Nat) : Int) := fun a ha => by rw [IntKind.wrap_i64]; omega
    have w1 := w K (by omega)
    have w2 := w (K + 1) (by omega)
    have w3 := w (K + 1 + 1) (by omega)
    have w4 := w (K + 1 + 1 + 1) (by omega)
    have cM := c_markText K (by omega) (by omega)
    have cN := c_markText (K + 1) (by omega) (by omega)
    have cO := c_markText (K + 1 + 1) (by omega) (by omega)
    rw [← w2, ← w1] at cO
    rw [← w1] at cN
    rw [hK]
    (conv => whnf); repeat' (first
    | (refine And.intro ?_ ?_ <;> ((try intro h) <;> (try simp only [Bool.not_true, Bool.not_false, decide_eq_true_eq, decide_eq_false_iff_not, Int.not_lt, Int.not_le, gt_iff_lt, ge_iff_le] at h) <;> first | exact absurd h Bool.false_ne_true | exact absurd h.symm Bool.false_ne_true | conv => whnf))
    | (refine VL.drawS hTb hMix (by kernel_rfl) (by kernel_rfl) (by kernel_rfl) ?_; conv => whnf)
    | (refine Need.mk ?_; kernel_rfl) | (refine Need.mk ⟨rfl, ?_⟩; decide)
    | (refine VR.pure hTb rfl rfl (o_purN (cM) rfl rfl rfl ⟨rfl, rfl, rfl, rfl⟩ rfl) ?_; conv => whnf)
    | (refine DT.pure hTb rfl (o_purN (cM) rfl rfl rfl ⟨rfl, rfl, rfl, rfl⟩ rfl) ?_; conv => whnf)
    | (refine VR.pure hTb rfl rfl (o_purN (cN) rfl rfl rfl ⟨rfl, rfl, rfl, rfl⟩ rfl) ?_; conv => whnf)
    | (refine DT.pure hTb rfl (o_purN (cN) rfl rfl rfl ⟨rfl, rfl, rfl, rfl⟩ rfl) ?_; conv => whnf)
    | (refine VR.pure hTb rfl rfl (o_purN (cO) rfl rfl rfl ⟨rfl, rfl, rfl, rfl⟩ rfl) ?_; conv => whnf)
    | (refine DT.pure hTb rfl (o_purN (cO) rfl rfl rfl ⟨rfl, rfl, rfl, rfl⟩ rfl) ?_; conv => whnf)
    | (refine Need.mk ?_; exact ⟨rfl, by omega, by omega⟩)
    | (refine VR.op hTb rfl rfl (o_storeM hTb rfl rfl rfl rfl rfl (hat) rfl rfl rfl ⟨rfl, by decide⟩ (c' := ⟨_, _, _, _⟩) rfl) rfl ?_; conv => whnf)
    | (refine DT.op hTb rfl (o_storeM hTb rfl rfl rfl rfl rfl (hat) rfl rfl rfl ⟨rfl, by decide⟩ (c' := ⟨_, _, _, _⟩) rfl) rfl ?_; conv => whnf)
    | (refine VR.op hTb rfl rfl (o_storeM hTb rfl rfl rfl rfl rfl (gset hat) rfl rfl rfl ⟨rfl, by decide⟩ (c' := ⟨_, _, _, _⟩) rfl) rfl ?_; conv => whnf)
    | (refine DT.op hTb rfl (o_storeM hTb rfl rfl rfl rfl rfl (gset hat) rfl rfl rfl ⟨rfl, by decide⟩ (c' := ⟨_, _, _, _⟩) rfl) rfl ?_; conv => whnf)
    | (refine VR.op hTb rfl rfl (o_storeM hTb rfl rfl rfl rfl rfl (gset (gset hat)) rfl rfl rfl ⟨rfl, by decide⟩ (c' := ⟨_, _, _, _⟩) rfl) rfl ?_; conv => whnf)
    | (refine DT.op hTb rfl (o_storeM hTb rfl rfl rfl rfl rfl (gset (gset hat)) rfl rfl rfl ⟨rfl, by decide⟩ (c' := ⟨_, _, _, _⟩) rfl) rfl ?_; conv => whnf)
    | (refine VR.op hTb rfl rfl (o_storeM hTb rfl rfl rfl rfl rfl (gset (gset (gset hat))) rfl rfl rfl ⟨rfl, by decide⟩ (c' := ⟨_, _, _, _⟩) rfl) rfl ?_; conv => whnf)
    | (refine DT.op hTb rfl (o_storeM hTb rfl rfl rfl rfl rfl (gset (gset (gset hat))) rfl rfl rfl ⟨rfl, by decide⟩ (c' := ⟨_, _, _, _⟩) rfl) rfl ?_; conv => whnf))
    exact ⟨(i + 1, _), ⟨hlt, (by simp only [List.length_set]; exact hM)⟩, by show l.length - (i + 1) < l.length - i; omega, wk_to [(0, 0)] rfl rfl rfl ⟨rfl, congrArg (fun x => Slot.one (.g (.int .i64 x))) (by rw [w1, w2, w3, w4, e4]), congrArg (fun x => Slot.one (.g (.int .i64 x))) (wrap64' (by unfold maxLen; omega)), trivial⟩ ⟨rfl, ⟨_, rfl, rfl⟩, trivial⟩⟩
  · have hie : i = l.length := by simp at h2; omega
    subst hie
    (conv => whnf)
    exact endR [] M rfl rfl rfl rfl rfl (LeS.refl _) rfl rfl trivial
end Go.Vl

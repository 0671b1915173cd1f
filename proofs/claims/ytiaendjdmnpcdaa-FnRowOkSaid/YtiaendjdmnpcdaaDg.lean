/- Laws: columns are found by name. -/
import Derived.Test.YtiaendjdmnpcdaaDf
import Derived.Test.YtiaendjdmnpcdaaCf
import Derived.Test.YtiaendjdmnpcdaaCg
import Derived.Test.YtiaendjdmnpcdaaPa
namespace Go.Vl
open Go Go.RowKit Go.Proofs
set_option maxRecDepth 100000
set_option maxHeartbeats 2000000

theorem smlCols.ok {l : List Col} (h : smlCols l) : ∀ c ∈ l, c.ok := fun c hc => (h c hc).ok
theorem c_FnShapeAt {bs : List Int} (hl : bs.length ≤ maxLen) (hb : ∀ x ∈ bs, 0 ≤ x ∧ x < 256) : CallsV Try.prog 10 [bytesI bs] [] (pureQ (bS true)) := by
  refine pure_walk hTb Try.func10 rfl rfl Try.ntmps10 (by simp) ?_
  (conv => whnf); repeat' (first
    | (refine And.intro ?_ ?_ <;> ((try intro h) <;> (try simp only [Bool.not_true, Bool.not_false, decide_eq_true_eq, decide_eq_false_iff_not, Int.not_lt, Int.not_le, gt_iff_lt, ge_iff_le] at h) <;> first | exact absurd h Bool.false_ne_true | exact absurd h.symm Bool.false_ne_true | conv => whnf))
    | (refine VL.drawS hTb hMix (by kernel_rfl) (by kernel_rfl) (by kernel_rfl) ?_; conv => whnf)
    | (refine Need.mk ?_; kernel_rfl) | (refine Need.mk ⟨rfl, ?_⟩; decide)
    | (refine VR.rel hTb rfl rfl (o_relN (c_DrawShapeAt hl hb) false [] (fun _ _ => ⟨by simp, fun h => by cases h⟩) rfl rfl rfl rfl rfl ⟨rfl, rfl, rfl, rfl⟩ rfl rfl) ?_; rintro ⟨cs, nm⟩ h1; (try simp only at h1); conv => whnf)
    | (refine DT.rel hTb rfl (o_relN (c_DrawShapeAt hl hb) false [] (fun _ _ => ⟨by simp, fun h => by cases h⟩) rfl rfl rfl rfl rfl ⟨rfl, rfl, rfl, rfl⟩ rfl rfl) [] (by kernel_rfl) (by kernel_rfl) ?_; rintro ⟨cs, nm⟩ h1; (try simp only at h1); refine And.intro rfl (And.intro rfl ?_); conv => whnf))
  · rfl
  have lc : cs.length ≤ maxLen := by unfold maxLen; omega
  have hsp := fun s => c_specShapeAt cs s lc h1.1.ok
  have him := fun s => c_implShapeAt cs s lc h1.1.ok
  have hok := c_specShapeOk cs lc h1.1.ok
  obtain ⟨b, hb0⟩ : ∃ b, shapeOk cs = b := ⟨_, rfl⟩
  rw [hb0] at hok
  have e1 : ∀ s, shapeAt cs s = if b then nameAt cs s else -1 := fun s => by unfold shapeAt; rw [hb0]
  simp only [e1] at hsp him
  cases b
  · simp only [Bool.false_eq_true, if_false] at hsp him
    (conv => whnf); repeat' (first
    | (refine And.intro ?_ ?_ <;> ((try intro h) <;> (try simp only [Bool.not_true, Bool.not_false, decide_eq_true_eq, decide_eq_false_iff_not, Int.not_lt, Int.not_le, gt_iff_lt, ge_iff_le] at h) <;> first | exact absurd h Bool.false_ne_true | exact absurd h.symm Bool.false_ne_true | conv => whnf))
    | (refine VL.drawS hTb hMix (by kernel_rfl) (by kernel_rfl) (by kernel_rfl) ?_; conv => whnf)
    | (refine Need.mk ?_; kernel_rfl) | (refine Need.mk ⟨rfl, ?_⟩; decide)
    | (refine VR.pure hTb rfl rfl (o_purN (him _) rfl rfl rfl ⟨rfl, rfl, rfl, rfl⟩ rfl) ?_; conv => whnf)
    | (refine DT.pure hTb rfl (o_purN (him _) rfl rfl rfl ⟨rfl, rfl, rfl, rfl⟩ rfl) ?_; conv => whnf)
    | (refine VR.pure hTb rfl rfl (o_purN (hsp _) rfl rfl rfl ⟨rfl, rfl, rfl, rfl⟩ rfl) ?_; conv => whnf)
    | (refine DT.pure hTb rfl (o_purN (hsp _) rfl rfl rfl ⟨rfl, rfl, rfl, rfl⟩ rfl) ?_; conv => whnf)
    | (refine VR.pure hTb rfl rfl (o_purN (hok) rfl rfl rfl ⟨rfl, rfl, rfl, rfl⟩ rfl) ?_; conv => whnf)
    | (refine DT.pure hTb rfl (o_purN (hok) rfl rfl rfl ⟨rfl, rfl, rfl, rfl⟩ rfl) ?_; conv => whnf))
    all_goals rfl
  · simp only [if_true] at hsp him
    (conv => whnf); repeat' (first
    | (refine And.intro ?_ ?_ <;> ((try intro h) <;> (try simp only [Bool.not_true, Bool.not_false, decide_eq_true_eq, decide_eq_false_iff_not, Int.not_lt, Int.not_le, gt_iff_lt, ge_iff_le] at h) <;> first | exact absurd h Bool.false_ne_true | exact absurd h.symm Bool.false_ne_true | conv => whnf))
    | (refine VL.drawS hTb hMix (by kernel_rfl) (by kernel_rfl) (by kernel_rfl) ?_; conv => whnf)
    | (refine Need.mk ?_; kernel_rfl) | (refine Need.mk ⟨rfl, ?_⟩; decide)
    | (refine VR.pure hTb rfl rfl (o_purN (him _) rfl rfl rfl ⟨rfl, rfl, rfl, rfl⟩ rfl) ?_; conv => whnf)
    | (refine DT.pure hTb rfl (o_purN (him _) rfl rfl rfl ⟨rfl, rfl, rfl, rfl⟩ rfl) ?_; conv => whnf)
    | (refine VR.pure hTb rfl rfl (o_purN (hsp _) rfl rfl rfl ⟨rfl, rfl, rfl, rfl⟩ rfl) ?_; conv => whnf)
    | (refine DT.pure hTb rfl (o_purN (hsp _) rfl rfl rfl ⟨rfl, rfl, rfl, rfl⟩ rfl) ?_; conv => whnf)
    | (refine VR.pure hTb rfl rfl (o_purN (hok) rfl rfl rfl ⟨rfl, rfl, rfl, rfl⟩ rfl) ?_; conv => whnf)
    | (refine DT.pure hTb rfl (o_purN (hok) rfl rfl rfl ⟨rfl, rfl, rfl, rfl⟩ rfl) ?_; conv => whnf))
    · simp at h
    obtain ⟨k, hk⟩ : ∃ k, nameAt cs nm = k := ⟨_, rfl⟩
    have hspec := nameAt_spec cs nm
    have hiff := fun i hi => nameAt_iff hb0 (s := nm) (i := i) hi
    have hat := fun i hi => (shapeOk_at hb0 i hi).1
    rw [hk] at hspec
    simp only [hk] at hiff
    refine VL.loopI hTb (fun i => i ≤ cs.length) (fun i => ⟨[(3, colsI cs), (4, strS nm), (5, iS k), (6, iS (if 0 ≤ k ∧ k < i then 1 else 0)), (7, iS i)], [], []⟩) (fun i => cs.length - i) 0 (Nat.zero_le _)
      (wk_to [] rfl rfl rfl ⟨rfl, rfl, congrArg iS hk, (by rw [if_neg (by omega)]; rfl), rfl, trivial⟩ trivial) (fun i hi => ?_)
    (conv => whnf)
    refine And.intro (fun h2 => ?_) (fun h2 => ?_)
    · have hlt : i < cs.length := by simpa using h2
      have hrow := row_at hlt
      have f1 := hiff i hlt
      have f2 := hat i hlt
      generalize cs[i] = ci at hrow f1 f2
      obtain ⟨cn, ck, c1, c2, ⟨c3, c4, c5⟩⟩ := ci
      simp only at f1 f2
      (conv => whnf); repeat' (first
    | (refine And.intro ?_ ?_ <;> ((try intro h) <;> (try simp only [Bool.not_true, Bool.not_false, decide_eq_true_eq, decide_eq_false_iff_not, Int.not_lt, Int.not_le, gt_iff_lt, ge_iff_le] at h) <;> first | exact absurd h Bool.false_ne_true | exact absurd h.symm Bool.false_ne_true | conv => whnf))
    | (refine VL.drawS hTb hMix (by kernel_rfl) (by kernel_rfl) (by kernel_rfl) ?_; conv => whnf)
    | (refine Need.mk ?_; kernel_rfl) | (refine Need.mk ⟨rfl, ?_⟩; decide)
    | (refine VR.op hTb rfl rfl (o_index_imm hTb rfl rfl rfl rfl rfl rfl rfl (by omega) (hrow)) rfl ?_; conv => whnf)
    | (refine DT.op hTb rfl (o_index_imm hTb rfl rfl rfl rfl rfl rfl rfl (by omega) (hrow)) rfl ?_; conv => whnf)
    | (refine VR.pure hTb rfl rfl (o_purN (him _) rfl rfl rfl ⟨rfl, rfl, rfl, rfl⟩ rfl) ?_; conv => whnf)
    | (refine DT.pure hTb rfl (o_purN (him _) rfl rfl rfl ⟨rfl, rfl, rfl, rfl⟩ rfl) ?_; conv => whnf))
      all_goals first
        | (exfalso; simp [f2] at h; done)
        | (refine ⟨i + 1, hlt, by omega, wk_to [] rfl rfl rfl ⟨rfl, rfl, rfl, congrArg iS ?_, congrArg (fun x => Slot.one (.g (.int .i64 x))) (wrap64' (by unfold maxLen; omega)), trivial⟩ trivial⟩
           rename_i h5
           first
             | (rw [f1] at h5; have h6 : k = i := by simpa using h5
                rw [if_neg (by omega), if_pos (by omega)]; rfl)
             | (rw [f1] at h5; have h6 : k ≠ i := by simpa using h5
                by_cases h7 : 0 ≤ k ∧ k < i
                · rw [if_pos h7, if_pos (by omega)]
                · rw [if_neg h7, if_neg (by omega)]))
    · have hie : i = cs.length := by simp at h2; omega
      subst hie
      rcases hspec with ⟨rfl, _⟩ | ⟨j, hj, rfl, hjn⟩
      · rw [if_neg (by omega)]
        (conv => whnf); repeat' (first | (refine And.intro ?_ ?_ <;> ((try intro h) <;> (try simp only [Bool.not_true, Bool.not_false] at h) <;> first | exact absurd h Bool.false_ne_true | exact absurd h.symm Bool.false_ne_true | conv => whnf)) | (refine Need.mk ?_; kernel_rfl) | (refine Need.mk ⟨rfl, ?_⟩; decide))
        all_goals first
          | rfl
          | (exfalso; simp at *; done)
      · rw [if_pos (by omega)]
        have hrow := row_at hj
        generalize cs[j] = cj at hrow hjn
        obtain ⟨cn, ck, c1, c2, ⟨c3, c4, c5⟩⟩ := cj
        simp only at hjn
        (conv => whnf); repeat' (first
    | (refine And.intro ?_ ?_ <;> ((try intro h) <;> (try simp only [Bool.not_true, Bool.not_false, decide_eq_true_eq, decide_eq_false_iff_not, Int.not_lt, Int.not_le, gt_iff_lt, ge_iff_le] at h) <;> first | exact absurd h Bool.false_ne_true | exact absurd h.symm Bool.false_ne_true | conv => whnf))
    | (refine VL.drawS hTb hMix (by kernel_rfl) (by kernel_rfl) (by kernel_rfl) ?_; conv => whnf)
    | (refine Need.mk ?_; kernel_rfl) | (refine Need.mk ⟨rfl, ?_⟩; decide)
    | (refine VR.op hTb rfl rfl (o_index_imm hTb rfl rfl rfl rfl rfl rfl rfl (by omega) (hrow)) rfl ?_; conv => whnf)
    | (refine DT.op hTb rfl (o_index_imm hTb rfl rfl rfl rfl rfl rfl rfl (by omega) (hrow)) rfl ?_; conv => whnf))
        all_goals first
          | rfl
          | (simp_all [bS]; done)
          | trace_state

theorem c_FnRowOk {bs : List Int} (hl : bs.length ≤ maxLen) (hb : ∀ x ∈ bs, 0 ≤ x ∧ x < 256) : CallsV Try.prog 13 [bytesI bs] [] (pureQ (bS true)) := by
  refine pure_walk hTb Try.func13 rfl rfl Try.ntmps13 (by simp) ?_
  (conv => whnf); repeat' (first
    | (refine And.intro ?_ ?_ <;> ((try intro h) <;> (try simp only [Bool.not_true, Bool.not_false, decide_eq_true_eq, decide_eq_false_iff_not, Int.not_lt, Int.not_le, gt_iff_lt, ge_iff_le] at h) <;> first | exact absurd h Bool.false_ne_true | exact absurd h.symm Bool.false_ne_true | conv => whnf))
    | (refine VL.drawS hTb hMix (by kernel_rfl) (by kernel_rfl) (by kernel_rfl) ?_; conv => whnf)
    | (refine Need.mk ?_; kernel_rfl) | (refine Need.mk ⟨rfl, ?_⟩; decide)
    | (refine VR.rel hTb rfl rfl (o_relN (c_DrawRowOk hl hb) false [] (fun _ _ => ⟨by simp, fun h => by cases h⟩) rfl rfl rfl rfl rfl ⟨rfl, rfl, rfl, rfl⟩ rfl rfl) ?_; rintro ⟨cs, vs⟩ h1; (try simp only at h1); conv => whnf)
    | (refine DT.rel hTb rfl (o_relN (c_DrawRowOk hl hb) false [] (fun _ _ => ⟨by simp, fun h => by cases h⟩) rfl rfl rfl rfl rfl ⟨rfl, rfl, rfl, rfl⟩ rfl rfl) [] (by kernel_rfl) (by kernel_rfl) ?_; rintro ⟨cs, vs⟩ h1; (try simp only at h1); refine And.intro rfl (And.intro rfl ?_); conv => whnf))
  · rfl
  have lc : cs.length ≤ maxLen := by unfold maxLen; omega
  have okv : ∀ {l : List Val}, smlVals l → ∀ v ∈ l, v.t.size ≤ maxLen := fun h v hv => le8 (h v hv)
  have him := fun (l : List Val) (h : smlVals l) => c_implRowOk cs l lc h1.1.ok (okv h)
  have hsp := c_specRowOk cs vs lc h1.1.ok (okv h1.2.2.1)
  obtain ⟨b, hb0⟩ : ∃ b, rowOk cs vs = b := ⟨_, rfl⟩
  have him0 := him vs h1.2.2.1
  rw [hb0] at hsp him0
  cases b
  · (conv => whnf); repeat' (first
    | (refine And.intro ?_ ?_ <;> ((try intro h) <;> (try simp only [Bool.not_true, Bool.not_false, decide_eq_true_eq, decide_eq_false_iff_not, Int.not_lt, Int.not_le, gt_iff_lt, ge_iff_le] at h) <;> first | exact absurd h Bool.false_ne_true | exact absurd h.symm Bool.false_ne_true | conv => whnf))
    | (refine VL.drawS hTb hMix (by kernel_rfl) (by kernel_rfl) (by kernel_rfl) ?_; conv => whnf)
    | (refine Need.mk ?_; kernel_rfl) | (refine Need.mk ⟨rfl, ?_⟩; decide)
    | (refine VR.pure hTb rfl rfl (o_purN (him0) rfl rfl rfl ⟨rfl, rfl, rfl, rfl⟩ rfl) ?_; conv => whnf)
    | (refine DT.pure hTb rfl (o_purN (him0) rfl rfl rfl ⟨rfl, rfl, rfl, rfl⟩ rfl) ?_; conv => whnf)
    | (refine VR.pure hTb rfl rfl (o_purN (hsp) rfl rfl rfl ⟨rfl, rfl, rfl, rfl⟩ rfl) ?_; conv => whnf)
    | (refine DT.pure hTb rfl (o_purN (hsp) rfl rfl rfl ⟨rfl, rfl, rfl, rfl⟩ rfl) ?_; conv => whnf))
    all_goals rfl
  · (conv => whnf); repeat' (first
    | (refine And.intro ?_ ?_ <;> ((try intro h) <;> (try simp only [Bool.not_true, Bool.not_false, decide_eq_true_eq, decide_eq_false_iff_not, Int.not_lt, Int.not_le, gt_iff_lt, ge_iff_le] at h) <;> first | exact absurd h Bool.false_ne_true | exact absurd h.symm Bool.false_ne_true | conv => whnf))
    | (refine VL.drawS hTb hMix (by kernel_rfl) (by kernel_rfl) (by kernel_rfl) ?_; conv => whnf)
    | (refine Need.mk ?_; kernel_rfl) | (refine Need.mk ⟨rfl, ?_⟩; decide)
    | (refine VR.pure hTb rfl rfl (o_purN (him0) rfl rfl rfl ⟨rfl, rfl, rfl, rfl⟩ rfl) ?_; conv => whnf)
    | (refine DT.pure hTb rfl (o_purN (him0) rfl rfl rfl ⟨rfl, rfl, rfl, rfl⟩ rfl) ?_; conv => whnf)
    | (refine VR.pure hTb rfl rfl (o_purN (hsp) rfl rfl rfl ⟨rfl, rfl, rfl, rfl⟩ rfl) ?_; conv => whnf)
    | (refine DT.pure hTb rfl (o_purN (hsp) rfl rfl rfl ⟨rfl, rfl, rfl, rfl⟩ rfl) ?_; conv => whnf))
    have hs : shapeOk cs = true ∧ rowIn cs vs = true := by simpa [rowOk] using hb0
    obtain ⟨hlen, hgo⟩ := rowIn_len hs.2
    have hl2 := shapeOk_len hs.1
    have eC : rowOk cs (vs.drop 1) = false := by simp only [rowOk]; rw [rowIn_ne (by simp; omega), Bool.and_false]
    have eD : rowOk cs (vs ++ [⟨0, 0, ⟨#[]⟩⟩]) = false := by simp only [rowOk]; rw [rowIn_ne (by simp; omega), Bool.and_false]
    have hC := him (vs.drop 1) (h1.2.2.1.drop 1)
    have hD := him (vs ++ [⟨0, 0, ⟨#[]⟩⟩]) (h1.2.2.1.app (show (⟨#[]⟩ : ByteArray).size ≤ 8 by decide))
    rw [eC] at hC
    rw [eD] at hD
    refine VL.loopI hTb (fun i => i ≤ vs.length) (fun i => ⟨[(3, colsI cs), (4, valsI vs), (6, iS i)], [], []⟩) (fun i => vs.length - i) 0 (Nat.zero_le _)
      (wk_to [] rfl rfl rfl ⟨rfl, rfl, rfl, trivial⟩ trivial) (fun i hi => ?_)
    (conv => whnf)
    refine And.intro (fun h2 => ?_) (fun h2 => ?_)
    · have hlt : i < vs.length := by simpa using h2
      have hlt2 : i < cs.length := by omega
      have hrow := row_at hlt2
      have hk := colOk_kind (shapeOk_at hs.1 i hlt2).2
      have eA : rowOk cs (vs.set i ⟨0, 0, ⟨#[]⟩⟩) = !(cs[i]).need := by
        simp only [rowOk, rowIn, List.length_set, hs.1, Bool.true_and]; rw [if_neg (by simpa using hlen), rowGo_set hgo i hlt2 hlt, cellOk_zero]
      have eB : rowOk cs (vs.set i ⟨3 - (cs[i]).kind, 0, ⟨#[]⟩⟩) = false := by
        simp only [rowOk, rowIn, List.length_set, hs.1, Bool.true_and]; rw [if_neg (by simpa using hlen), rowGo_set hgo i hlt2 hlt, cellOk_other hk]
      have hA := him (vs.set i ⟨0, 0, ⟨#[]⟩⟩) (h1.2.2.1.set (show (⟨#[]⟩ : ByteArray).size ≤ 8 by decide))
      have hB := him (vs.set i ⟨3 - (cs[i]).kind, 0, ⟨#[]⟩⟩) (h1.2.2.1.set (show (⟨#[]⟩ : ByteArray).size ≤ 8 by decide))
      rw [eA] at hA
      rw [eB] at hB
      have ew : IntKind.i64.wrap (3 - (cs[i]).kind) = 3 - (cs[i]).kind := by rw [IntKind.wrap_i64]; omega
      rw [← ew] at hB
      have hcx : vs[0 + ((i : Nat) : Int).toNat]? = some vs[i] := by rw [Int.toNat_natCast, Nat.zero_add, List.getElem?_eq_getElem hlt]
      have hset : ∀ v : Val, vs.set (0 + ((i : Nat) : Int).toNat) v = vs.set i v := fun v => by rw [Int.toNat_natCast, Nat.zero_add]
      rw [← hset] at hA hB
      generalize cs[i] = ci at hrow hk hA hB ew
      generalize vs[i] = vi at hcx
      obtain ⟨cn, ck, c1, c2, ⟨c3, c4, c5⟩⟩ := ci
      obtain ⟨v1, v2, v3⟩ := vi
      (conv => whnf); repeat' (first
    | (refine And.intro ?_ ?_ <;> ((try intro h) <;> (try simp only [Bool.not_true, Bool.not_false, decide_eq_true_eq, decide_eq_false_iff_not, Int.not_lt, Int.not_le, gt_iff_lt, ge_iff_le] at h) <;> first | exact absurd h Bool.false_ne_true | exact absurd h.symm Bool.false_ne_true | conv => whnf))
    | (refine VL.drawS hTb hMix (by kernel_rfl) (by kernel_rfl) (by kernel_rfl) ?_; conv => whnf)
    | (refine Need.mk ?_; kernel_rfl) | (refine Need.mk ⟨rfl, ?_⟩; decide)
    | (refine VR.opk hTb rfl rfl (o_app0 (f := encVal) (m := vs) (q := 142) hTb rfl rfl rfl rfl rfl rfl rfl rfl rfl rfl (by omega) (by show _ * 32 ≤ _; omega) (by unfold maxLen; omega)) ?_; conv => whnf)
    | (refine VR.opk hTb rfl rfl (o_app0 (f := encVal) (m := vs) (q := 149) hTb rfl rfl rfl rfl rfl rfl rfl rfl rfl rfl (by omega) (by show _ * 32 ≤ _; omega) (by unfold maxLen; omega)) ?_; conv => whnf)
    | (refine Need.mk ?_; exact ⟨rfl, by omega, by omega⟩)
    | (refine VR.op hTb rfl rfl (o_index_imm hTb rfl rfl rfl rfl rfl rfl rfl (by omega) (hrow)) rfl ?_; conv => whnf)
    | (refine DT.op hTb rfl (o_index_imm hTb rfl rfl rfl rfl rfl rfl rfl (by omega) (hrow)) rfl ?_; conv => whnf)
    | (refine VR.op hTb rfl rfl (o_storeM hTb rfl rfl rfl rfl rfl (hcx) rfl rfl rfl ⟨rfl, by decide⟩ (c' := ⟨_, _, _⟩) rfl) rfl ?_; conv => whnf)
    | (refine DT.op hTb rfl (o_storeM hTb rfl rfl rfl rfl rfl (hcx) rfl rfl rfl ⟨rfl, by decide⟩ (c' := ⟨_, _, _⟩) rfl) rfl ?_; conv => whnf)
    | (refine VR.pure hTb rfl rfl (o_purN (hA) rfl rfl rfl ⟨rfl, rfl, rfl, rfl⟩ (congrArg (fun s => [_, s]) brw)) ?_; conv => whnf)
    | (refine DT.pure hTb rfl (o_purN (hA) rfl rfl rfl ⟨rfl, rfl, rfl, rfl⟩ (congrArg (fun s => [_, s]) brw)) ?_; conv => whnf)
    | (refine VR.pure hTb rfl rfl (o_purN (hA) rfl rfl rfl ⟨rfl, rfl, rfl, rfl⟩ (congrArg (fun s => [_, s]) brw')) ?_; conv => whnf)
    | (refine DT.pure hTb rfl (o_purN (hA) rfl rfl rfl ⟨rfl, rfl, rfl, rfl⟩ (congrArg (fun s => [_, s]) brw')) ?_; conv => whnf)
    | (refine VR.pure hTb rfl rfl (o_purN (hA) rfl rfl rfl ⟨rfl, rfl, rfl, rfl⟩ (congrArg (fun s => [_, s]) (brwG (by simp)))) ?_; conv => whnf)
    | (refine DT.pure hTb rfl (o_purN (hA) rfl rfl rfl ⟨rfl, rfl, rfl, rfl⟩ (congrArg (fun s => [_, s]) (brwG (by simp)))) ?_; conv => whnf)
    | (refine VR.pure hTb rfl rfl (o_purN (hB) rfl rfl rfl ⟨rfl, rfl, rfl, rfl⟩ (congrArg (fun s => [_, s]) brw)) ?_; conv => whnf)
    | (refine DT.pure hTb rfl (o_purN (hB) rfl rfl rfl ⟨rfl, rfl, rfl, rfl⟩ (congrArg (fun s => [_, s]) brw)) ?_; conv => whnf)
    | (refine VR.pure hTb rfl rfl (o_purN (hB) rfl rfl rfl ⟨rfl, rfl, rfl, rfl⟩ (congrArg (fun s => [_, s]) brw')) ?_; conv => whnf)
    | (refine DT.pure hTb rfl (o_purN (hB) rfl rfl rfl ⟨rfl, rfl, rfl, rfl⟩ (congrArg (fun s => [_, s]) brw')) ?_; conv => whnf)
    | (refine VR.pure hTb rfl rfl (o_purN (hB) rfl rfl rfl ⟨rfl, rfl, rfl, rfl⟩ (congrArg (fun s => [_, s]) (brwG (by simp)))) ?_; conv => whnf)
    | (refine DT.pure hTb rfl (o_purN (hB) rfl rfl rfl ⟨rfl, rfl, rfl, rfl⟩ (congrArg (fun s => [_, s]) (brwG (by simp)))) ?_; conv => whnf))
      all_goals first
        | (exfalso; cases c1 <;> simp at *; done)
        | exact ⟨i + 1, hlt, by omega, wk_to [] rfl rfl rfl ⟨rfl, rfl, congrArg (fun x => Slot.one (.g (.int .i64 x))) (wrap64' (by unfold maxLen; omega)), trivial⟩ trivial⟩
        | trace_state
    · (conv => whnf); repeat' (first
    | (refine And.intro ?_ ?_ <;> ((try intro h) <;> (try simp only [Bool.not_true, Bool.not_false, decide_eq_true_eq, decide_eq_false_iff_not, Int.not_lt, Int.not_le, gt_iff_lt, ge_iff_le] at h) <;> first | exact absurd h Bool.false_ne_true | exact absurd h.symm Bool.false_ne_true | conv => whnf))
    | (refine VL.drawS hTb hMix (by kernel_rfl) (by kernel_rfl) (by kernel_rfl) ?_; conv => whnf)
    | (refine Need.mk ?_; kernel_rfl) | (refine Need.mk ⟨rfl, ?_⟩; decide)
    | (refine VR.op hTb rfl rfl (o_slice_imm (n1 := 1) (n2 := (vs.map encVal).length) (rows' := (vs.drop 1).map encVal) hTb rfl rfl rfl rfl rfl rfl (bnd_some rfl) bnd_none (by simp; omega) (by simp) (by rw [← List.map_drop]; exact List.take_of_length_le (by simp))) rfl ?_; conv => whnf)
    | (refine VR.pure hTb rfl rfl (o_purN (hC) rfl rfl rfl ⟨rfl, rfl, rfl, rfl⟩ rfl) ?_; conv => whnf)
    | (refine DT.pure hTb rfl (o_purN (hC) rfl rfl rfl ⟨rfl, rfl, rfl, rfl⟩ rfl) ?_; conv => whnf)
    | (refine VR.opk hTb rfl rfl (o_app0 (f := encVal) (m := vs) (q := 183) hTb rfl rfl rfl rfl rfl rfl rfl rfl rfl rfl (by omega) (by show _ * 32 ≤ _; omega) (by unfold maxLen; omega)) ?_; conv => whnf)
    | (refine VR.opk hTb rfl rfl (o_app1 (q := 186) (a := ⟨_, _, _⟩) hTb rfl rfl rfl rfl rfl rfl rfl rfl rfl rfl rfl rfl (by omega) (by show _ * 32 ≤ _; omega) (by unfold maxLen; omega)) ?_; conv => whnf)
    | (refine VR.pure hTb rfl rfl (o_purN (hD) rfl rfl rfl ⟨rfl, rfl, rfl, rfl⟩ (congrArg (fun s => [_, s]) brw)) ?_; conv => whnf)
    | (refine DT.pure hTb rfl (o_purN (hD) rfl rfl rfl ⟨rfl, rfl, rfl, rfl⟩ (congrArg (fun s => [_, s]) brw)) ?_; conv => whnf)
    | (refine VR.pure hTb rfl rfl (o_purN (hD) rfl rfl rfl ⟨rfl, rfl, rfl, rfl⟩ (congrArg (fun s => [_, s]) brw')) ?_; conv => whnf)
    | (refine DT.pure hTb rfl (o_purN (hD) rfl rfl rfl ⟨rfl, rfl, rfl, rfl⟩ (congrArg (fun s => [_, s]) brw')) ?_; conv => whnf)
    | (refine VR.pure hTb rfl rfl (o_purN (hD) rfl rfl rfl ⟨rfl, rfl, rfl, rfl⟩ (congrArg (fun s => [_, s]) (brwG (by simp)))) ?_; conv => whnf)
    | (refine DT.pure hTb rfl (o_purN (hD) rfl rfl rfl ⟨rfl, rfl, rfl, rfl⟩ (congrArg (fun s => [_, s]) (brwG (by simp)))) ?_; conv => whnf))
      all_goals first
        | rfl
        | trace_state
end Go.Vl

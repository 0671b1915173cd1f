/- Contracts: rows of values: how great, turned, alike, sound; the law on a row. -/
import Derived.Test.YtegjajojckbkjaaDoorCf
namespace Go.Vl
open Go Go.RowKit Go.Proofs
set_option maxRecDepth 100000
set_option linter.unusedSimpArgs false
set_option linter.unusedVariables false
set_option maxHeartbeats 2000000

theorem rowv_at {cs : List Val} {i : Nat} (h : i < cs.length) : (cs.map encVal)[((i : Nat) : Int).toNat]? = some (encVal cs[i]) := by
  rw [Int.toNat_natCast, List.getElem?_map, List.getElem?_eq_getElem h]; rfl

def cellOk (c : Col) (v : Val) : Bool := valOk v && (v.k == 0 || v.k == c.kind) && !(c.need && v.k == 0)
def rowGo : List Col → List Val → Bool
  | c :: cs, v :: vs => cellOk c v && rowGo cs vs
  | [], [] => true
  | _, _ => false
theorem rowGo_step {cs : List Col} {vs : List Val} {i : Nat} (h1 : i < cs.length) (h2 : i < vs.length) : rowGo (cs.drop i) (vs.drop i) = (cellOk cs[i] vs[i] && rowGo (cs.drop (i + 1)) (vs.drop (i + 1))) := by
  rw [List.drop_eq_getElem_cons h1, List.drop_eq_getElem_cons h2, rowGo]
theorem rowGo_end {cs : List Col} {vs : List Val} {i : Nat} (h1 : cs.length ≤ i) (h2 : vs.length ≤ i) : rowGo (cs.drop i) (vs.drop i) = true := by
  rw [List.drop_of_length_le h1, List.drop_of_length_le h2, rowGo]
def rowIn (cs : List Col) (vs : List Val) : Bool := if vs.length ≠ cs.length then false else rowGo cs vs
def rowOk (cs : List Col) (vs : List Val) : Bool := shapeOk cs && rowIn cs vs

theorem c_specRowOk (cs : List Col) (vs : List Val) (hl : cs.length ≤ maxLen) (ho : ∀ c ∈ cs, c.ok) (hv : ∀ v ∈ vs, v.t.size ≤ maxLen) : CallsV Tryd.prog 17 [colsI cs, valsI vs] [] (pureQ (bS (rowOk cs vs))) := by
  refine pure_walk hTb Tryd.func17 rfl rfl Tryd.ntmps17 (by simp) ?_
  (conv => whnf); repeat' (first
    | (refine And.intro ?_ ?_ <;> ((try intro h) <;> (try simp only [Bool.not_true, Bool.not_false] at h) <;> first | exact absurd h Bool.false_ne_true | exact absurd h.symm Bool.false_ne_true | conv => whnf))
    | (refine VL.drawS hTb hMix (by kernel_rfl) (by kernel_rfl) (by kernel_rfl) ?_; conv => whnf)
    | (refine Need.mk ?_; kernel_rfl) | (refine Need.mk ⟨rfl, ?_⟩; decide)
    | (refine VR.pure hTb rfl rfl (o_purN (c_specShapeOk cs hl ho) rfl rfl rfl ⟨rfl, rfl, rfl, rfl⟩ rfl) ?_; conv => whnf)
    | (refine DT.pure hTb rfl (o_purN (c_specShapeOk cs hl ho) rfl rfl rfl ⟨rfl, rfl, rfl, rfl⟩ rfl) ?_; conv => whnf))
  · have h1 : shapeOk cs = true := by simp_all
    have h3 : vs.length ≠ cs.length := by simp at h; omega
    simp only [bS, rowOk, rowIn, h1, if_pos h3, Bool.and_false]
  · have h1 : shapeOk cs = true := by simp_all
    have h3 : vs.length = cs.length := by simp at h; omega
    have h4 : rowOk cs vs = rowGo cs vs := by simp [rowOk, rowIn, h1, h3]
    clear h
    refine VL.loopI hTb (fun i => i ≤ vs.length ∧ rowGo cs vs = rowGo (cs.drop i) (vs.drop i)) (fun i => ⟨[(0, colsI cs), (1, valsI vs), (5, iS i)], [], []⟩) (fun i => vs.length - i) 0 ⟨Nat.zero_le _, rfl⟩
      (wk_to [] rfl rfl rfl ⟨rfl, rfl, rfl, trivial⟩ trivial) (fun i hi => ?_)
    obtain ⟨hi, hf⟩ := hi
    (conv => whnf)
    refine And.intro (fun h2 => ?_) (fun h2 => ?_)
    · have hlt : i < vs.length := by simpa using h2
      have hlt2 : i < cs.length := by omega
      have hrow := rowv_at hlt
      have hrow2 := row_at hlt2
      (conv => whnf); repeat' (first
    | (refine And.intro ?_ ?_ <;> ((try intro h) <;> (try simp only [Bool.not_true, Bool.not_false] at h) <;> first | exact absurd h Bool.false_ne_true | exact absurd h.symm Bool.false_ne_true | conv => whnf))
    | (refine VL.drawS hTb hMix (by kernel_rfl) (by kernel_rfl) (by kernel_rfl) ?_; conv => whnf)
    | (refine Need.mk ?_; kernel_rfl) | (refine Need.mk ⟨rfl, ?_⟩; decide)
    | (refine VR.op hTb rfl rfl (o_index_imm hTb rfl rfl rfl rfl rfl rfl rfl (Int.natCast_nonneg _) ( hrow)) rfl ?_; conv => whnf)
    | (refine DT.op hTb rfl (o_index_imm hTb rfl rfl rfl rfl rfl rfl rfl (Int.natCast_nonneg _) ( hrow)) rfl ?_; conv => whnf)
    | (refine VR.op hTb rfl rfl (o_index_imm hTb rfl rfl rfl rfl rfl rfl rfl (Int.natCast_nonneg _) ( hrow2)) rfl ?_; conv => whnf)
    | (refine DT.op hTb rfl (o_index_imm hTb rfl rfl rfl rfl rfl rfl rfl (Int.natCast_nonneg _) ( hrow2)) rfl ?_; conv => whnf)
    | (refine VR.pure hTb rfl rfl (o_purN (c_specValOk vs[i] (hv _ (List.getElem_mem hlt))) rfl rfl rfl ⟨rfl, rfl, rfl, rfl⟩ rfl) ?_; conv => whnf)
    | (refine DT.pure hTb rfl (o_purN (c_specValOk vs[i] (hv _ (List.getElem_mem hlt))) rfl rfl rfl ⟨rfl, rfl, rfl, rfl⟩ rfl) ?_; conv => whnf)); all_goals (try simp only [List.get_eq_getElem] at *)
      all_goals first
        | contradiction
        | (refine ⟨i + 1, ⟨hlt, ?_⟩, by omega, wk_to [] rfl rfl rfl ⟨rfl, rfl, congrArg (fun x => Slot.one (.g (.int .i64 x))) (wrap64' (by omega)), trivial⟩ trivial⟩
           rw [hf, rowGo_step hlt2 hlt]
           have e : cellOk cs[i] vs[i] = true := by
             clear hf h4 hrow hrow2 hv ho hl h1 h2 hi h3
             generalize vs[i] = v at *
             generalize cs[i] = c at *
             clear hlt hlt2
             unfold cellOk
             (try simp only [bne] at *)
             generalize (v.k == 0) = p at *
             generalize (v.k == c.kind) = q at *
             generalize valOk v = r at *
             generalize c.need = u at *
             cases p <;> cases q <;> cases r <;> cases u <;> first | rfl | (exfalso; simp at *)
           rw [e, Bool.true_and]; done)
        | (rw [h4, hf, rowGo_step hlt2 hlt]
           have e : cellOk cs[i] vs[i] = false := by
             clear hf h4 hrow hrow2 hv ho hl h1 h2 hi h3
             generalize vs[i] = v at *
             generalize cs[i] = c at *
             clear hlt hlt2
             unfold cellOk
             (try simp only [bne] at *)
             generalize (v.k == 0) = p at *
             generalize (v.k == c.kind) = q at *
             generalize valOk v = r at *
             generalize c.need = u at *
             cases p <;> cases q <;> cases r <;> cases u <;> first | rfl | (exfalso; simp at *)
           rw [e]; rfl)
    · (conv => whnf)
      rw [h4, hf, rowGo_end (by simp at h2; omega) (by simp at h2; omega)]; rfl
  · have h1 : shapeOk cs = false := by simp_all
    simp only [bS, rowOk, h1, Bool.false_and]

theorem c_implrowOk (cs : List Col) (vs : List Val) (hl : cs.length ≤ maxLen) (hv : ∀ v ∈ vs, v.t.size ≤ maxLen) : CallsV Tryd.prog 55 [colsI cs, valsI vs] [] (pureQ (bS (rowIn cs vs))) := by
  refine pure_walk hTb Tryd.func55 rfl rfl Tryd.ntmps55 (by simp) ?_
  (conv => whnf); repeat' (first | (refine And.intro ?_ ?_ <;> ((try intro h) <;> (try simp only [Bool.not_true, Bool.not_false] at h) <;> first | exact absurd h Bool.false_ne_true | exact absurd h.symm Bool.false_ne_true | conv => whnf)) | (refine Need.mk ?_; kernel_rfl) | (refine Need.mk ⟨rfl, ?_⟩; decide))
  · have h3 : vs.length ≠ cs.length := by simp at h; omega
    simp only [bS, rowIn, if_pos h3]
  · have h3 : vs.length = cs.length := by simp at h; omega
    have h4 : rowIn cs vs = rowGo cs vs := by simp [rowIn, h3]
    clear h
    refine VL.loopI hTb (fun i => i ≤ vs.length ∧ rowGo cs vs = rowGo (cs.drop i) (vs.drop i)) (fun i => ⟨[(0, colsI cs), (1, valsI vs), (12, valsI vs), (13, iS ((vs.map encVal).length : Nat)), (14, iS i)], [], []⟩) (fun i => vs.length - i) 0 ⟨Nat.zero_le _, rfl⟩
      (wk_to [] rfl rfl rfl ⟨rfl, rfl, rfl, rfl, rfl, trivial⟩ trivial) (fun i hi => ?_)
    obtain ⟨hi, hf⟩ := hi
    (conv => whnf)
    refine And.intro (fun h2 => ?_) (fun h2 => ?_)
    · have hlt : i < vs.length := by simpa using h2
      have hlt2 : i < cs.length := by omega
      have hrow := rowv_at hlt
      have hrow2 := row_at hlt2
      (conv => whnf); repeat' (first
    | (refine And.intro ?_ ?_ <;> ((try intro h) <;> (try simp only [Bool.not_true, Bool.not_false] at h) <;> first | exact absurd h Bool.false_ne_true | exact absurd h.symm Bool.false_ne_true | conv => whnf))
    | (refine VL.drawS hTb hMix (by kernel_rfl) (by kernel_rfl) (by kernel_rfl) ?_; conv => whnf)
    | (refine Need.mk ?_; kernel_rfl) | (refine Need.mk ⟨rfl, ?_⟩; decide)
    | (refine VR.op hTb rfl rfl (o_index_imm hTb rfl rfl rfl rfl rfl rfl rfl (Int.natCast_nonneg _) ( hrow)) rfl ?_; conv => whnf)
    | (refine DT.op hTb rfl (o_index_imm hTb rfl rfl rfl rfl rfl rfl rfl (Int.natCast_nonneg _) ( hrow)) rfl ?_; conv => whnf)
    | (refine VR.op hTb rfl rfl (o_index_imm hTb rfl rfl rfl rfl rfl rfl rfl (Int.natCast_nonneg _) ( hrow2)) rfl ?_; conv => whnf)
    | (refine DT.op hTb rfl (o_index_imm hTb rfl rfl rfl rfl rfl rfl rfl (Int.natCast_nonneg _) ( hrow2)) rfl ?_; conv => whnf)
    | (refine VR.pure hTb rfl rfl (o_purN (c_implValOk vs[i] (hv _ (List.getElem_mem hlt))) rfl rfl rfl ⟨rfl, rfl, rfl, rfl⟩ rfl) ?_; conv => whnf)
    | (refine DT.pure hTb rfl (o_purN (c_implValOk vs[i] (hv _ (List.getElem_mem hlt))) rfl rfl rfl ⟨rfl, rfl, rfl, rfl⟩ rfl) ?_; conv => whnf)
    | (refine VR.pure hTb rfl rfl (o_purN (c_fits vs[i] _) rfl rfl rfl ⟨rfl, rfl, rfl, rfl⟩ rfl) ?_; conv => whnf)
    | (refine DT.pure hTb rfl (o_purN (c_fits vs[i] _) rfl rfl rfl ⟨rfl, rfl, rfl, rfl⟩ rfl) ?_; conv => whnf)); all_goals (try simp only [List.get_eq_getElem] at *)
      all_goals first
        | contradiction
        | (refine ⟨i + 1, ⟨hlt, ?_⟩, by omega, wk_to [] rfl rfl rfl ⟨rfl, rfl, rfl, rfl, congrArg (fun x => Slot.one (.g (.int .i64 x))) (wrap64' (by omega)), trivial⟩ trivial⟩
           rw [hf, rowGo_step hlt2 hlt]
           have e : cellOk cs[i] vs[i] = true := by
             clear hf h4 hrow hrow2 hv hl h2 hi h3
             generalize vs[i] = v at *
             generalize cs[i] = c at *
             clear hlt hlt2
             unfold cellOk
             (try simp only [bne] at *)
             generalize (v.k == 0) = p at *
             generalize (v.k == c.kind) = q at *
             generalize valOk v = r at *
             generalize c.need = u at *
             cases p <;> cases q <;> cases r <;> cases u <;> first | rfl | (exfalso; simp at *)
           rw [e, Bool.true_and]; done)
        | (rw [h4, hf, rowGo_step hlt2 hlt]
           have e : cellOk cs[i] vs[i] = false := by
             clear hf h4 hrow hrow2 hv hl h2 hi h3
             generalize vs[i] = v at *
             generalize cs[i] = c at *
             clear hlt hlt2
             unfold cellOk
             (try simp only [bne] at *)
             generalize (v.k == 0) = p at *
             generalize (v.k == c.kind) = q at *
             generalize valOk v = r at *
             generalize c.need = u at *
             cases p <;> cases q <;> cases r <;> cases u <;> first | rfl | (exfalso; simp at *)
           rw [e]; rfl)
    · (conv => whnf)
      rw [h4, hf, rowGo_end (by simp at h2; omega) (by simp at h2; omega)]; rfl

theorem c_implRowOk (cs : List Col) (vs : List Val) (hl : cs.length ≤ maxLen) (ho : ∀ c ∈ cs, c.ok) (hv : ∀ v ∈ vs, v.t.size ≤ maxLen) : CallsV Tryd.prog 16 [colsI cs, valsI vs] [] (pureQ (bS (rowOk cs vs))) := by
  refine pure_walk hTb Tryd.func16 rfl rfl Tryd.ntmps16 (by simp) ?_
  (conv => whnf); repeat' (first
    | (refine And.intro ?_ ?_ <;> ((try intro h) <;> (try simp only [Bool.not_true, Bool.not_false] at h) <;> first | exact absurd h Bool.false_ne_true | exact absurd h.symm Bool.false_ne_true | conv => whnf))
    | (refine VL.drawS hTb hMix (by kernel_rfl) (by kernel_rfl) (by kernel_rfl) ?_; conv => whnf)
    | (refine Need.mk ?_; kernel_rfl) | (refine Need.mk ⟨rfl, ?_⟩; decide)
    | (refine VR.pure hTb rfl rfl (o_purN (c_implShapeOk cs hl ho) rfl rfl rfl ⟨rfl, rfl, rfl, rfl⟩ rfl) ?_; conv => whnf)
    | (refine DT.pure hTb rfl (o_purN (c_implShapeOk cs hl ho) rfl rfl rfl ⟨rfl, rfl, rfl, rfl⟩ rfl) ?_; conv => whnf)
    | (refine VR.pure hTb rfl rfl (o_purN (c_implrowOk cs vs hl hv) rfl rfl rfl ⟨rfl, rfl, rfl, rfl⟩ rfl) ?_; conv => whnf)
    | (refine DT.pure hTb rfl (o_purN (c_implrowOk cs vs hl hv) rfl rfl rfl ⟨rfl, rfl, rfl, rfl⟩ rfl) ?_; conv => whnf))
  all_goals simp_all [bS, rowOk]
end Go.Vl

/- Contracts: what the reader draws: changes of columns. -/
import Derived.Test.YtegjajojckbkjaaDoorFf
namespace Go.Vl
open Go Go.RowKit Go.Proofs
set_option maxRecDepth 100000
set_option linter.unusedSimpArgs false
set_option linter.unusedVariables false
set_option maxHeartbeats 8000000

def Change.sml (c : Change) : Prop := c.name.size ≤ 8 ∧ c.new.size ≤ 8 ∧ c.col.name.size ≤ 8 ∧ c.col.d.t.size ≤ 8
theorem Change.sml.md {c : Change} (h : c.sml) : c.md := ⟨by have := h.1; omega, by have := h.2.1; omega, by have := h.2.2.1; omega, by have := h.2.2.2; omega⟩
theorem smlCols.md {l : List Col} (h : smlCols l) : mdCols l := fun c hc => ⟨by have := (h c hc).1; omega, by have := (h c hc).2; omega⟩
theorem smlVals.md {l : List Val} (h : smlVals l) : mdVals l := fun c hc => by have : c.t.size ≤ 8 := h c hc; show c.t.size ≤ _; omega
theorem rowD {s : List Col} {z : Int} (h0 : 0 ≤ z) (h1 : z < s.length) : (s.map encCol)[z.toNat]? = some [.g (.string (s.getD z.toNat (kCol 0)).name), .g (.int .i64 (s.getD z.toNat (kCol 0)).kind), .g (.bool (s.getD z.toNat (kCol 0)).need), .g (.bool (s.getD z.toNat (kCol 0)).once), .g (.int .i64 (s.getD z.toNat (kCol 0)).d.k), .g (.int .i64 (s.getD z.toNat (kCol 0)).d.n), .g (.string (s.getD z.toNat (kCol 0)).d.t)] := by
  have hz : z.toNat < s.length := by omega
  have e : s.getD z.toNat (kCol 0) = s[z.toNat] := by simp [List.getD, hz]
  rw [e, List.getElem?_map, List.getElem?_eq_getElem hz]
  generalize s[z.toNat] = c
  obtain ⟨a1, a2, a3, a4, ⟨a5, a6, a7⟩⟩ := c
  rfl
theorem sml_getD {s : List Col} (h : smlCols s) (i : Nat) : (s.getD i (kCol 0)).name.size ≤ 8 := by
  by_cases hi : i < s.length
  · have e : s.getD i (kCol 0) = s[i] := by simp [List.getD, hi]
    rw [e]; exact (h _ (List.getElem_mem hi)).1
  · have e : s.getD i (kCol 0) = kCol 0 := by simp [List.getD, Nat.le_of_not_lt hi]
    rw [e]; show (⟨#[]⟩ : ByteArray).size ≤ 8; decide
theorem nameAt_lt (s : List Col) (nm : ByteArray) : nameAt s nm < s.length ∧ -1 ≤ nameAt s nm := by
  rcases nameAt_spec s nm with ⟨h, _⟩ | ⟨j, hj, h, _⟩ <;> omega
theorem c_l2Change {bs : List Int} (hb : BOk bs) (p : Nat) (s : List Col) (hs : smlCols s) (hl : s.length ≤ 1000) (hp : p ≤ 1099511400000) : CallsV Tryd.prog 59 [rdS, colsI s] [rdO bs p]
    (relQ (fun y : Change × Nat => y.1.sml ∧ y.2 ≤ p + 20) (fun y => .agg (encChange y.1)) (fun y => [some (rdO bs y.2)]) (fun _ => [])) := by
  have e0 := bs0
  have hml : (s.map encCol).length = s.length := List.length_map _
  refine funF_walk hTb Tryd.func59 rfl rfl Tryd.ntmps59 (by simp) (by simp) ?_
  (conv => whnf); repeat' (first
    | (refine And.intro ?_ ?_ <;> ((try intro h) <;> (try simp only [Bool.not_true, Bool.not_false, decide_eq_true_eq, decide_eq_false_iff_not, Int.not_lt, Int.not_le, gt_iff_lt, ge_iff_le] at h) <;> first | exact absurd h Bool.false_ne_true | exact absurd h.symm Bool.false_ne_true | conv => whnf))
    | (refine VL.drawS hTb hMix (by kernel_rfl) (by kernel_rfl) (by kernel_rfl) ?_; conv => whnf)
    | (refine Need.mk ?_; kernel_rfl) | (refine Need.mk ⟨rfl, ?_⟩; decide)
    | (refine VR.rel hTb rfl rfl (o_relN (c_l2Names) false [] (fun _ _ => ⟨by simp, fun h => by cases h⟩) rfl rfl rfl rfl rfl ⟨rfl, rfl, rfl, rfl⟩ rfl rfl) ?_; rintro rows hrows; (try simp only at hrows); conv => whnf)
    | (refine DT.rel hTb rfl (o_relN (c_l2Names) false [] (fun _ _ => ⟨by simp, fun h => by cases h⟩) rfl rfl rfl rfl rfl ⟨rfl, rfl, rfl, rfl⟩ rfl rfl) [] (by kernel_rfl) (by kernel_rfl) ?_; rintro rows hrows; (try simp only at hrows); refine And.intro rfl (And.intro rfl ?_); conv => whnf)
    | (refine VR.rel hTb rfl rfl (o_relN (c_ofI hb _ _ (fun t => t.size ≤ 8) hrows.1 hrows.2 (by omega)) false [0] (fun _ _ => ⟨by simp, fun h => by cases h⟩) rfl rfl rfl rfl rfl ⟨rfl, rfl, rfl, rfl⟩ rfl rfl) ?_; rintro nm hnm; (try simp only at hnm); conv => whnf)
    | (refine DT.rel hTb rfl (o_relN (c_ofI hb _ _ (fun t => t.size ≤ 8) hrows.1 hrows.2 (by omega)) false [0] (fun _ _ => ⟨by simp, fun h => by cases h⟩) rfl rfl rfl rfl rfl ⟨rfl, rfl, rfl, rfl⟩ rfl rfl) [0] (by kernel_rfl) (by kernel_rfl) ?_; rintro nm hnm; (try simp only at hnm); refine And.intro rfl (And.intro rfl ?_); conv => whnf)
    | (refine VR.rel hTb rfl rfl (o_relN (c_pick hb _ _ (by omega)) false [0] (fun _ _ => ⟨by simp, fun h => by cases h⟩) rfl rfl rfl rfl rfl ⟨rfl, rfl, rfl, rfl⟩ rfl rfl) ?_; intro y hy; conv => whnf)
    | (refine DT.rel hTb rfl (o_relN (c_pick hb _ _ (by omega)) false [0] (fun _ _ => ⟨by simp, fun h => by cases h⟩) rfl rfl rfl rfl rfl ⟨rfl, rfl, rfl, rfl⟩ rfl rfl) [0] (by kernel_rfl) (by kernel_rfl) ?_; intro y hy; refine And.intro rfl (And.intro rfl ?_); conv => whnf)
    | (refine VR.op hTb rfl rfl (o_index_imm hTb rfl rfl rfl rfl rfl rfl rfl (by omega) (rowD (by omega) (by omega))) rfl ?_; conv => whnf)
    | (refine DT.op hTb rfl (o_index_imm hTb rfl rfl rfl rfl rfl rfl rfl (by omega) (rowD (by omega) (by omega))) rfl ?_; conv => whnf)
    | (refine VR.rel hTb rfl rfl (o_relN (c_l2Col hb _ _ hnm (by omega)) false [0] (fun _ _ => ⟨by simp, fun h => by cases h⟩) rfl rfl rfl rfl rfl ⟨rfl, rfl, rfl, rfl⟩ rfl rfl) ?_; rintro ⟨⟨cn, ck, c1, c2, ⟨c3, c4, c5⟩⟩, q2⟩ hc; (try simp only at hc); conv => whnf)
    | (refine DT.rel hTb rfl (o_relN (c_l2Col hb _ _ hnm (by omega)) false [0] (fun _ _ => ⟨by simp, fun h => by cases h⟩) rfl rfl rfl rfl rfl ⟨rfl, rfl, rfl, rfl⟩ rfl rfl) [0] (by kernel_rfl) (by kernel_rfl) ?_; rintro ⟨⟨cn, ck, c1, c2, ⟨c3, c4, c5⟩⟩, q2⟩ hc; (try simp only at hc); refine And.intro rfl (And.intro rfl ?_); conv => whnf)
    | (refine VR.rel hTb rfl rfl (o_relN (c_of hb _ _ _ (fun t => t.size ≤ 8) (by simp [strRows]; decide) (by simp) (by omega)) false [0, 163] (fun _ _ => ⟨by simp, fun h => by cases h⟩) rfl rfl rfl rfl rfl ⟨rfl, rfl, rfl, rfl⟩ rfl rfl) ?_; rintro tx htx; (try simp only at htx); conv => whnf)
    | (refine DT.rel hTb rfl (o_relN (c_of hb _ _ _ (fun t => t.size ≤ 8) (by simp [strRows]; decide) (by simp) (by omega)) false [0, 163] (fun _ _ => ⟨by simp, fun h => by cases h⟩) rfl rfl rfl rfl rfl ⟨rfl, rfl, rfl, rfl⟩ rfl rfl) [0, 163] (by kernel_rfl) (by kernel_rfl) ?_; rintro tx htx; (try simp only at htx); refine And.intro rfl (And.intro rfl ?_); conv => whnf)
    | (refine VR.rel hTb rfl rfl (o_relN (c_num hb _ _ _ (fun _ => True) (by simp [intRows]) (by simp) (by omega)) false [0, 196] (fun _ _ => ⟨by simp, fun h => by cases h⟩) rfl rfl rfl rfl rfl ⟨rfl, rfl, rfl, rfl⟩ rfl rfl) ?_; intro y hy; conv => whnf)
    | (refine DT.rel hTb rfl (o_relN (c_num hb _ _ _ (fun _ => True) (by simp [intRows]) (by simp) (by omega)) false [0, 196] (fun _ _ => ⟨by simp, fun h => by cases h⟩) rfl rfl rfl rfl rfl ⟨rfl, rfl, rfl, rfl⟩ rfl rfl) [0, 196] (by kernel_rfl) (by kernel_rfl) ?_; intro y hy; refine And.intro rfl (And.intro rfl ?_); conv => whnf)
    | (refine VR.rel hTb rfl rfl (o_relN (c_of hb _ _ _ (fun t => t.size ≤ 8) (by simp [strRows]; decide) (by simp) (by omega)) false [0, 202] (fun _ _ => ⟨by simp, fun h => by cases h⟩) rfl rfl rfl rfl rfl ⟨rfl, rfl, rfl, rfl⟩ rfl rfl) ?_; rintro tx htx; (try simp only at htx); conv => whnf)
    | (refine DT.rel hTb rfl (o_relN (c_of hb _ _ _ (fun t => t.size ≤ 8) (by simp [strRows]; decide) (by simp) (by omega)) false [0, 202] (fun _ _ => ⟨by simp, fun h => by cases h⟩) rfl rfl rfl rfl rfl ⟨rfl, rfl, rfl, rfl⟩ rfl rfl) [0, 202] (by kernel_rfl) (by kernel_rfl) ?_; rintro tx htx; (try simp only at htx); refine And.intro rfl (And.intro rfl ?_); conv => whnf)
    | (refine VR.rel hTb rfl rfl (o_relN (c_of hb _ _ _ (fun t => t.size ≤ 8) (by simp [strRows]; decide) (by simp) (by omega)) false [0, 208] (fun _ _ => ⟨by simp, fun h => by cases h⟩) rfl rfl rfl rfl rfl ⟨rfl, rfl, rfl, rfl⟩ rfl rfl) ?_; rintro tx htx; (try simp only at htx); conv => whnf)
    | (refine DT.rel hTb rfl (o_relN (c_of hb _ _ _ (fun t => t.size ≤ 8) (by simp [strRows]; decide) (by simp) (by omega)) false [0, 208] (fun _ _ => ⟨by simp, fun h => by cases h⟩) rfl rfl rfl rfl rfl ⟨rfl, rfl, rfl, rfl⟩ rfl rfl) [0, 208] (by kernel_rfl) (by kernel_rfl) ?_; rintro tx htx; (try simp only at htx); refine And.intro rfl (And.intro rfl ?_); conv => whnf)
    | (refine VR.rel hTb rfl rfl (o_relN (c_num hb _ _ _ (fun _ => True) (by simp [intRows]) (by simp) (by omega)) false [0, 214] (fun _ _ => ⟨by simp, fun h => by cases h⟩) rfl rfl rfl rfl rfl ⟨rfl, rfl, rfl, rfl⟩ rfl rfl) ?_; intro y hy; conv => whnf)
    | (refine DT.rel hTb rfl (o_relN (c_num hb _ _ _ (fun _ => True) (by simp [intRows]) (by simp) (by omega)) false [0, 214] (fun _ _ => ⟨by simp, fun h => by cases h⟩) rfl rfl rfl rfl rfl ⟨rfl, rfl, rfl, rfl⟩ rfl rfl) [0, 214] (by kernel_rfl) (by kernel_rfl) ?_; intro y hy; refine And.intro rfl (And.intro rfl ?_); conv => whnf)
    | (refine VR.pure hTb rfl rfl (o_purN (c_l2At s _ (by unfold maxLen; omega)) rfl rfl rfl ⟨rfl, rfl, rfl, rfl⟩ rfl) ?_; conv => whnf)
    | (refine DT.pure hTb rfl (o_purN (c_l2At s _ (by unfold maxLen; omega)) rfl rfl rfl ⟨rfl, rfl, rfl, rfl⟩ rfl) ?_; conv => whnf)
    | (refine VR.op hTb rfl rfl (o_index_imm hTb rfl rfl rfl rfl rfl rfl rfl (by omega) (rowD (by omega) (nameAt_lt s _).1)) rfl ?_; conv => whnf)
    | (refine DT.op hTb rfl (o_index_imm hTb rfl rfl rfl rfl rfl rfl rfl (by omega) (rowD (by omega) (nameAt_lt s _).1)) rfl ?_; conv => whnf))
  all_goals first
    | refine endR [] (⟨_, _, _, ⟨_, _, _, _, ⟨_, _, _⟩⟩⟩, _) rfl rfl rfl rfl rfl (LeS.refl _) rfl rfl ⟨⟨?_, ?_, ?_, ?_⟩, ?_⟩
    | trace_state
  all_goals simp only
  all_goals first
    | exact sml_getD hs _
    | exact (show (⟨#[]⟩ : ByteArray).size ≤ 8 by decide)
    | assumption
    | exact hc.2.1
    | exact hnm
    | exact htx
    | omega
    | (rw [hc.1]; exact hnm)
    | trace_state
end Go.Vl

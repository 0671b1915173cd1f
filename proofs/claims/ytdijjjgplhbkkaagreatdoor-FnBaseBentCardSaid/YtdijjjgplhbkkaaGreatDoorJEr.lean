/- Law: tables that are like, right, new, and bent. Law: bases that are like, right, and bent. -/
import Derived.Test.YtdijjjgplhbkkaaGreatDoorJEa
import Derived.Test.YtdijjjgplhbkkaaGreatDoorJEo
import Derived.Test.YtdijjjgplhbkkaaGreatDoorJEb
import Derived.Test.YtdijjjgplhbkkaaGreatDoorJEh
import Derived.Test.YtdijjjgplhbkkaaGreatDoorJEq
set_option linter.unusedSimpArgs false
set_option linter.unusedVariables false
set_option linter.unnecessarySimpa false
set_option maxRecDepth 100000
set_option maxHeartbeats 16000000

namespace Go.Vl
open Go Go.RowKit Go.Proofs
theorem qH_comm (a b : Change) : q_Change a b = q_Change b a := by
  unfold q_Change
  rw [q_Col_comm a.col, BEq.comm (a := a.kind), BEq.comm (a := a.name.toList), BEq.comm (a := a.new.toList)]
theorem qH_refl (a : Change) : q_Change a a = true := by simp [q_Change, q_Col_refl]
theorem qR_comm (a b : VRow) : q_VRow a b = q_VRow b a := by
  unfold q_VRow
  rw [leq_comm qV_comm a.vals, BEq.comm (a := a.id), BEq.comm (a := a.ver)]
theorem qR_refl (a : VRow) : q_VRow a a = true := by simp [q_VRow, leq_refl qV_refl]
theorem qT_comm (a b : VTable) : q_VTable a b = q_VTable b a := by
  unfold q_VTable
  rw [leq_comm q_Col_comm a.first, leq_comm qH_comm a.changes, leq_comm qR_comm a.rows, BEq.comm (a := a.next)]
theorem qT_refl (a : VTable) : q_VTable a a = true := by
  unfold q_VTable
  rw [leq_refl q_Col_refl, leq_refl qH_refl, leq_refl qR_refl]; simp
theorem qTab_comm (a b : VTab) : q_VTab a b = q_VTab b a := by
  unfold q_VTab
  rw [qT_comm a.table, BEq.comm (a := a.name.toList)]
theorem qTab_refl (a : VTab) : q_VTab a a = true := by unfold q_VTab; rw [qT_refl]; simp
theorem qLk_comm (a b : VLink) : q_VLink a b = q_VLink b a := by
  unfold q_VLink
  rw [BEq.comm (a := a.src.toList), BEq.comm (a := a.col.toList), BEq.comm (a := a.dst.toList), BEq.comm (a := a.how)]
theorem qLk_refl (a : VLink) : q_VLink a a = true := by simp [q_VLink]
theorem qB_comm (a b : VBase) : q_VBase a b = q_VBase b a := by
  unfold q_VBase
  rw [leq_comm qLk_comm a.links, leq_comm qTab_comm a.tabs]
theorem qB_refl (a : VBase) : q_VBase a a = true := by
  unfold q_VBase
  rw [leq_refl qLk_refl, leq_refl qTab_refl]; rfl
theorem c_FnBaseBent {bs : List Int} (hl : bs.length ≤ maxLen) (hb : ∀ x ∈ bs, 0 ≤ x ∧ x < 256) : CallsV Tryz.prog 9 [bytesI bs] [] (pureQ (bS true)) := by
  refine pure_walk hTb Tryz.func9 rfl rfl Tryz.ntmps9 (by simp) ?_
  (conv => whnf); repeat' ((first | (refine And.intro ?_ ?_ <;> ((try intro h) <;> (try simp only [gS] at h) <;> first | exact absurd h gF | exact absurd h.symm gF | conv => whnf)) | (refine VL.drawS hTb hMix (by kernel_rfl) (by kernel_rfl) (by kernel_rfl) ?_) | (refine VR.rel hTb rfl rfl (o_relN (c_DrawBaseSame hl hb) false [] (fun _ _ => ⟨by simp, gN⟩) rfl rfl rfl rfl rfl gQ rfl rfl) ?_; rintro ⟨a, x⟩ hax; (try simp only at hax)) | (refine VR.rel hTb rfl rfl (o_relN (c_DrawBaseOk hl hb) false [] (fun _ _ => ⟨by simp, gN⟩) rfl rfl rfl rfl rfl gQ rfl rfl) ?_; rintro p hp; (try simp only at hp))) <;> conv => whnf)
  · rfl
  have oa := hax.1.ok
  have ox := hax.2.ok
  have op := hp.ok
  have c1 := q_implBaseSame a x oa ox
  have c2 := q_specBaseSame a x oa
  have c3 := q_implBaseSame x a ox oa
  rw [qB_comm x a] at c3
  have c4 := q_implBaseSame p p op op
  rw [qB_refl] at c4
  have c5 := c_implBaseOk p hp
  have c6 := c_specBaseOk p hp
  have c7 := CallsV.le (args' := [.agg [.g (.slice none 0 0), .g (.slice none 0 0)]]) (c_implBaseOk ⟨[], []⟩ dr_base0.md) ⟨⟨.inr ⟨5, rfl, rfl⟩, .inr ⟨4, rfl, rfl⟩, trivial⟩, trivial⟩
  rw [show baseOk ⟨[], []⟩ = true from by decide] at c7
  generalize q_VBase a x = b1 at c1 c2 c3
  clear oa ox hax
  cases hk : baseOk p with
  | false =>
    rw [hk] at c5 c6
    cases b1 <;> (conv => whnf); repeat' ((first | (refine And.intro ?_ ?_ <;> ((try intro h) <;> (try simp only [gS] at h) <;> first | exact absurd h gF | exact absurd h.symm gF | conv => whnf)) | (refine Need.mk ?_; kernel_rfl) | (refine DT.pure hTb rfl (o_purN (c1) rfl rfl rfl gQ rfl) ?_) | (refine DT.pure hTb rfl (o_purN (c2) rfl rfl rfl gQ rfl) ?_) | (refine DT.pure hTb rfl (o_purN (c3) rfl rfl rfl gQ rfl) ?_) | (refine DT.pure hTb rfl (o_purN (c4) rfl rfl rfl gQ rfl) ?_) | (refine DT.pure hTb rfl (o_purN (c5) rfl rfl rfl gQ rfl) ?_) | (refine VR.pure hTb rfl rfl (o_purN (c6) rfl rfl rfl gQ rfl) ?_) | (refine DT.pure hTb rfl (o_purN (c6) rfl rfl rfl gQ rfl) ?_) | (refine DT.pure hTb rfl (o_purN (c7) rfl rfl rfl gQ rfl) ?_)) <;> conv => whnf)
    all_goals first
      | rfl
  | true =>
    rw [hk] at c5 c6
    have hB := baseOk_iff.1 hk
    have h3 := hB.t3
    have h4 := hB.l4
    obtain ⟨tb, lk⟩ := p
    cases tb with
    | nil =>
      cases b1 <;> (conv => whnf); repeat' ((first | (refine And.intro ?_ ?_ <;> ((try intro h) <;> (try simp only [gS] at h) <;> first | exact absurd h gF | exact absurd h.symm gF | conv => whnf)) | (refine Need.mk ?_; kernel_rfl) | (refine DT.pure hTb rfl (o_purN (c1) rfl rfl rfl gQ rfl) ?_) | (refine DT.pure hTb rfl (o_purN (c2) rfl rfl rfl gQ rfl) ?_) | (refine DT.pure hTb rfl (o_purN (c3) rfl rfl rfl gQ rfl) ?_) | (refine DT.pure hTb rfl (o_purN (c4) rfl rfl rfl gQ rfl) ?_) | (refine DT.pure hTb rfl (o_purN (c5) rfl rfl rfl gQ rfl) ?_) | (refine VR.pure hTb rfl rfl (o_purN (c6) rfl rfl rfl gQ rfl) ?_) | (refine DT.pure hTb rfl (o_purN (c6) rfl rfl rfl gQ rfl) ?_) | (refine DT.pure hTb rfl (o_purN (c7) rfl rfl rfl gQ rfl) ?_)) <;> conv => whnf)
      all_goals first
        | rfl
    | cons t0 ts =>
      have d1 : baseOk ⟨(t0 :: ts) ++ [t0], lk⟩ = false := bent_tab (b := ⟨t0 :: ts, lk⟩) (L := lk) (by simp)
      have d2 : baseOk ⟨t0 :: ts, lk ++ [⟨t0.name, ⟨#[110, 111, 110, 101]⟩, t0.name, 1⟩]⟩ = false := bent_link (b := ⟨t0 :: ts, lk⟩) (by simp) (nm := ⟨#[110, 111, 110, 101]⟩) (by decide) 1
      have d3 : q_VBase ⟨t0 :: ts, lk⟩ ⟨(t0 :: ts) ++ [t0], lk⟩ = false := dif_tabs (b := ⟨t0 :: ts, lk⟩)
      have d4 : q_VBase ⟨t0 :: ts, lk⟩ ⟨t0 :: ts, lk ++ [⟨t0.name, ⟨#[110, 111, 110, 101]⟩, t0.name, 1⟩]⟩ = false := dif_links (b := ⟨t0 :: ts, lk⟩)
      simp only at h3 h4
      have ht0 := hp.tm t0 (by simp)
      have my : VBase.md ⟨(t0 :: ts) ++ [t0], lk⟩ := ⟨by simp only [List.length_append, List.length_cons, List.length_nil] at *; omega, fun t ht => by
        rcases List.mem_append.1 ht with ht | ht
        · exact hp.tm t ht
        · simp at ht; subst ht; exact ht0, hp.ll, hp.lm⟩
      have mz : VBase.md ⟨t0 :: ts, lk ++ [⟨t0.name, ⟨#[110, 111, 110, 101]⟩, t0.name, 1⟩]⟩ := ⟨hp.tl, hp.tm, by simp only [List.length_append, List.length_cons, List.length_nil]; omega, fun l hl => by
        rcases List.mem_append.1 hl with hl | hl
        · exact hp.lm l hl
        · simp at hl; subst hl; exact ⟨ht0.1, (show (4 : Nat) ≤ maxLen by unfold maxLen; omega), ht0.1⟩⟩
      have c8 := c_implBaseOk _ my
      rw [d1] at c8
      have c9 := c_implBaseOk _ mz
      rw [d2] at c9
      have c10 := q_implBaseSame _ _ op my.ok
      rw [d3] at c10
      have c11 := q_implBaseSame _ _ op mz.ok
      rw [d4] at c11
      clear d1 d2 d3 d4 my mz hp op hB hk
      cases b1 <;> (conv => whnf); repeat' ((first | (refine VL.freeze 171 rfl rfl ?_; conv => whnf; rw [fzTab1]) | (refine And.intro ?_ ?_ <;> ((try intro h) <;> (try simp only [gS] at h) <;> first | exact absurd h gF | exact absurd h.symm gF | conv => whnf)) | (refine VL.drawS hTb hMix (by kernel_rfl) (by kernel_rfl) (by kernel_rfl) ?_) | (refine Need.mk ?_; kernel_rfl) | (refine DT.pure hTb rfl (o_purN (c1) rfl rfl rfl gQ rfl) ?_) | (refine DT.pure hTb rfl (o_purN (c2) rfl rfl rfl gQ rfl) ?_) | (refine DT.pure hTb rfl (o_purN (c3) rfl rfl rfl gQ rfl) ?_) | (refine DT.pure hTb rfl (o_purN (c4) rfl rfl rfl gQ rfl) ?_) | (refine DT.pure hTb rfl (o_purN (c5) rfl rfl rfl gQ rfl) ?_) | (refine VR.pure hTb rfl rfl (o_purN (c6) rfl rfl rfl gQ rfl) ?_) | (refine DT.pure hTb rfl (o_purN (c6) rfl rfl rfl gQ rfl) ?_) | (refine DT.pure hTb rfl (o_purN (c7) rfl rfl rfl gQ rfl) ?_) | (refine DT.op hTb rfl (o_index_imm hTb rfl rfl rfl rfl rfl rfl rfl (by omega) ((rfl : ((t0 :: ts).map encVTab)[((0 : Int)).toNat]? = some (encVTab t0)))) rfl ?_) | (refine DT.opk (o := ⟨some 65, _, _, _, _, _⟩) hTb rfl (o_app0 (f := encVTab) (m := t0 :: ts) (q := 165) hTb rfl rfl rfl rfl rfl rfl rfl rfl rfl rfl (by omega) (by show _ * 96 ≤ _; omega) (by unfold maxLen; omega)) ?_) | (refine DT.opk (o := ⟨some 71, _, _, _, _, _⟩) hTb rfl (o_app1 (q := 171) (a := t0) (l := t0 :: ts) hTb rfl rfl rfl rfl rfl rfl rfl rfl rfl rfl rfl rfl (by omega) (by show _ * 96 ≤ _; omega) (by unfold maxLen; omega)) ?_) | (refine DT.opk (o := ⟨some 77, _, _, _, _, _⟩) hTb rfl (o_app0 (f := encVLink) (m := lk) (q := 177) hTb rfl rfl rfl rfl rfl rfl rfl rfl rfl rfl (by omega) (by show _ * 56 ≤ _; omega) (by unfold maxLen; omega)) ?_) | (refine DT.opk (o := ⟨some 90, _, _, _, _, _⟩) hTb rfl (o_app1 (q := 190) (a := ⟨t0.name, ⟨#[110, 111, 110, 101]⟩, t0.name, 1⟩) (l := lk) hTb rfl rfl rfl rfl rfl rfl rfl rfl rfl rfl rfl rfl (by omega) (by show _ * 56 ≤ _; omega) (by unfold maxLen; omega)) ?_) | (refine VR.pure hTb rfl rfl (o_purN (c8) rfl rfl rfl gQ rfl) ?_) | (refine VR.pure hTb rfl rfl (o_purN (c9) rfl rfl rfl gQ rfl) ?_) | (refine VR.pure hTb rfl rfl (o_purN (c10) rfl rfl rfl gQ rfl) ?_) | (refine VR.pure hTb rfl rfl (o_purN (c11) rfl rfl rfl gQ rfl) ?_) | (refine VR.freeze hTb rfl 190 rfl rfl ?_; conv => whnf; rw [fzLk1])) <;> conv => whnf)
      all_goals first
        | rfl
end Go.Vl

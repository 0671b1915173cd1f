/- Contracts: bases: links that hold; a right base: the program's. Contracts: a right base: the program's. Contracts: a right base: the reference's. Sizes of bases, summed; the law: a right base. Contracts: what goes with a row: the program's. -/
import Derived.Test.YtdijjjgplhbkkaaGreatDoorJEa
import Derived.Test.YtdijjjgplhbkkaaGreatDoorJEj
set_option linter.unusedSimpArgs false
set_option linter.unusedVariables false
set_option linter.unnecessarySimpa false
set_option maxRecDepth 100000
set_option maxHeartbeats 16000000

namespace Go.Vl
open Go Go.RowKit Go.Proofs
theorem rowVZ {l : List Val} {z : Int} (h0 : 0 ≤ z) (h : z < l.length) : (l.map encVal)[z.toNat]? = some (encVal (l.getD z.toNat zVal)) := by
  have hz : z.toNat < l.length := by omega
  rw [List.getElem?_map, List.getElem?_eq_getElem hz, List.getD_eq_getElem?_getD, List.getElem?_eq_getElem hz]; rfl
abbrev okBox (ok : Bool) : Ob := .box [.g (.bool ok)]
abbrev tbBox (t : VTable) : Ob := .box (encVTable t)
def hdF (b : VBase) (l : VLink) (to : VTable) (ok : Bool) (r : VRow) : Bool := if (lkV b l r).k != 0 then ok && !decide (tAt to (lkV b l r).n < 0) else ok
theorem hdF_all {b : VBase} {l : VLink} : ∀ (rows : List VRow) (ok : Bool), rows.foldl (hdF b l (tabOf b l.dst)) ok = (ok && rows.all (holdR b l))
  | [], ok => by simp
  | r :: rs, ok => by
    rw [List.foldl_cons, hdF_all rs, List.all_cons]
    unfold hdF holdR
    cases h : (lkV b l r).k == 0
    · have : ((lkV b l r).k != 0) = true := by rw [bne, h]; rfl
      rw [if_pos this, Bool.false_or, Bool.and_assoc]
    · have : ((lkV b l r).k != 0) = false := by rw [bne, h]; rfl
      rw [if_neg (by rw [this]; simp), Bool.true_or, Bool.true_and]
theorem foldl_take_step {α β : Type} {f : β → α → β} {l : List α} {i : Nat} (h : i < l.length) (s : β) : (l.take (i + 1)).foldl f s = f ((l.take i).foldl f s) l[i] := by
  rw [List.take_succ_eq_append_getElem h, List.foldl_append]; rfl
theorem c_holds1 (ok : Bool) (to : VTable) (id n : Int) (hl : to.rows.length ≤ maxLen) : CallsV Tryz.prog 159 [iS id, iS n, .one (.ptr 0 0), .one (.ptr 1 0)] [okBox ok, tbBox to]
    (funQ (.tup []) [some (okBox (ok && !decide (tAt to n < 0))), some (tbBox to)] []) := by
  have c1 := c_rowAt to n hl
  generalize tAt to n = z at c1 ⊢
  refine fun_walk hTb Tryz.func159 rfl rfl Tryz.ntmps159 (by simp) (by simp) ?_
  cases ok
  · (conv => whnf); repeat' ((first | (refine And.intro ?_ ?_ <;> ((try intro h) <;> (try simp only [gS] at h) <;> first | exact absurd h gF | exact absurd h.symm gF | conv => whnf))) <;> conv => whnf)
    exact endG [] rfl rfl rfl rfl rfl ⟨rfl, rfl, rfl⟩
  · by_cases hz : z < 0
    · rw [decide_eq_true hz]
      (conv => whnf); repeat' ((first | (refine And.intro ?_ ?_ <;> ((try intro h) <;> (try simp only [gS] at h) <;> first | exact absurd h gF | exact absurd h.symm gF | conv => whnf)) | (refine VR.pure hTb rfl rfl (o_purN (c1) rfl rfl rfl gQ rfl) ?_)) <;> conv => whnf)
      refine endG [] rfl rfl rfl rfl rfl ⟨rfl, ?_, rfl⟩
      show [some (okBox (decide (0 ≤ z))), _] = _
      rw [decide_eq_false (by omega)]; rfl
    · rw [decide_eq_false hz]
      (conv => whnf); repeat' ((first | (refine And.intro ?_ ?_ <;> ((try intro h) <;> (try simp only [gS] at h) <;> first | exact absurd h gF | exact absurd h.symm gF | conv => whnf)) | (refine VR.pure hTb rfl rfl (o_purN (c1) rfl rfl rfl gQ rfl) ?_)) <;> conv => whnf)
      refine endG [] rfl rfl rfl rfl rfl ⟨rfl, ?_, rfl⟩
      show [some (okBox (decide (0 ≤ z))), _] = _
      rw [decide_eq_true (by omega)]; rfl
structure LkOk (b : VBase) (l : VLink) : Prop where
  md : b.md
  ok : ∀ t ∈ b.tabs, tabOk t.table = true
  i : ¬ tabIx b l.src < 0
  j : ¬ tabIx b l.dst < 0
  z : 0 ≤ lkAt b l
theorem LkOk.tab {b : VBase} {l : VLink} (h : LkOk b l) : tabOk (tabOf b l.src) = true := by
  obtain ⟨t, ht, e⟩ := tabOf_mem h.i
  rw [e]; exact h.ok t ht
theorem LkOk.now {b : VBase} {l : VLink} (h : LkOk b l) {i : Nat} (hi : i < (tabOf b l.src).rows.length) : lkAt b l < (tNow (tabOf b l.src) (tabOf b l.src).rows[i]).length := by
  have h2 := (tNow_go (tabOk_iff.1 h.tab).sh (rowFacts h.tab hi).2).2
  have := (nameAt_bd (tL (tabOf b l.src)) l.col).1
  unfold lkAt; omega
theorem c_namingH (b : VBase) (l : VLink) (h : LkOk b l) (to : VTable) (hto : to.rows.length ≤ maxLen) (ok0 : Bool) : CallsV Tryz.prog 158 [.agg (encVBase b), .agg (encVLink l), .one (.clo 159 [0, 1])] [okBox ok0, tbBox to]
    (funQ (.tup []) [some (okBox ((tabOf b l.src).rows.foldl (hdF b l to) ok0)), some (tbBox to)] []) := by
  have hl : b.tabs.length ≤ maxLen := lmax (by have := h.md.tl; omega)
  have c1 := c_tabAt b l.src hl
  have hm := tabOf_md h.md l.src
  have cS := c_tShape (tabOf b l.src) hm (tabOk_iff.1 h.tab).sh
  have cA := c_colAt (tL (tabOf b l.src)) l.col (tL_ml hm)
  obtain ⟨n', hR⟩ := rowTabZ h.i
  have cN := fun i (hi : i < (tabOf b l.src).rows.length) => (c_tNow (tabOf b l.src) (tabOf b l.src).rows[i] hm (tabOk_iff.1 h.tab).sh (rowFacts h.tab hi).1 (rowFacts h.tab hi).2 (hm.rm _ (List.getElem_mem hi)).2).pure (pureVals _)
  have hv := fun i (hi : i < (tabOf b l.src).rows.length) => rowVZ h.z (h.now hi)
  have hq : ∀ i (hi : i < (tabOf b l.src).rows.length), lkV b l (tabOf b l.src).rows[i] = (tNow (tabOf b l.src) (tabOf b l.src).rows[i]).getD (lkAt b l).toNat zVal := fun _ _ => rfl
  have hzz : nameAt (tL (tabOf b l.src)) l.col = lkAt b l := rfl
  rw [hzz] at cA
  have hlen := hm.r
  have hiz := h.i
  have hz0 := h.z
  clear hm h hzz
  obtain ⟨f, hf⟩ : ∃ f : Bool → VRow → Bool, f = hdF b l to := ⟨_, rfl⟩
  have hfs : ∀ ok r, f ok r = if (lkV b l r).k != 0 then ok && !decide (tAt to (lkV b l r).n < 0) else ok := by intro ok r; rw [hf]; rfl
  rw [← hf]
  clear hf
  generalize tL (tabOf b l.src) = L at cS cA
  generalize lkAt b l = z at *
  generalize tabOf b l.src = t at *
  generalize tabIx b l.src = iz at *
  refine fun_walk hTb Tryz.func158 rfl rfl Tryz.ntmps158 (by simp) (by simp) ?_
  (conv => whnf); repeat' ((first | (refine And.intro ?_ ?_ <;> ((try intro h) <;> (try simp only [gS] at h) <;> first | exact absurd h gF | exact absurd h.symm gF | conv => whnf)) | (refine VL.drawS hTb hMix (by kernel_rfl) (by kernel_rfl) (by kernel_rfl) ?_) | (refine Need.mk ?_; kernel_rfl) | (refine DT.pure hTb rfl (o_purN (c1) rfl rfl rfl gQ rfl) ?_) | (refine DT.op hTb rfl (o_index_imm hTb rfl rfl rfl rfl rfl rfl rfl (by omega) (hR)) rfl ?_) | (refine DT.pure hTb rfl (o_purF (cS) rfl rfl rfl gQ rfl) ?_) | (refine DT.pure hTb rfl (o_purN (cA) rfl rfl rfl gQ rfl) ?_)) <;> conv => whnf)
  refine VL.loopI hTb (fun i => i ≤ t.rows.length) (fun i => ⟨[(2, .one (.clo 159 [0, 1])), (6, .one (.ptr 106 0)), (7, iS z), (26, vrowsI t.rows), (27, iS ((t.rows.map encVRow).length : Nat)), (28, iS i)], [(0, okBox ((t.rows.take i).foldl f ok0)), (1, tbBox to), (106, tbBox t)], []⟩) (fun i => t.rows.length - i) 0 (Nat.zero_le _)
    (wk_to [(0, 0), (1, 1), (106, 106)] rfl rfl rfl ⟨rfl, rfl, rfl, rfl, rfl, rfl, trivial⟩ ⟨rfl, ⟨_, rfl, rfl⟩, rfl, ⟨_, rfl, rfl⟩, rfl, ⟨_, rfl, rfl⟩, trivial⟩) (fun i hi => ?_)
  (conv => whnf)
  refine And.intro (fun h2 => ?_) (fun h2 => ?_)
  · have hlt : i < t.rows.length := by simpa using h2
    have hrow := rowVRow hlt
    have hc := cN i hlt
    have hvi := hv i hlt
    have hst := foldl_take_step (f := f) hlt ok0
    rw [hfs, hq i hlt] at hst
    generalize tNow t t.rows[i] = w at hc hvi hst
    generalize t.rows[i] = ri at hrow hc
    generalize w.getD z.toNat zVal = v at hvi hst
    generalize (t.rows.take i).foldl f ok0 = oki at hst ⊢
    obtain ⟨k, n, tx⟩ := v
    have ch := c_holds1 oki to ri.id n hto
    (conv => whnf); repeat' ((first | (refine And.intro ?_ ?_ <;> ((try intro h) <;> (try simp only [gS] at h) <;> first | exact absurd h gF | exact absurd h.symm gF | conv => whnf)) | (refine VR.op hTb rfl rfl (o_index_imm hTb rfl rfl rfl rfl rfl rfl rfl (by omega) (hrow)) rfl ?_) | (refine VR.pure hTb rfl rfl (o_purF (hc) rfl rfl rfl gQ rfl) ?_) | (refine VR.op hTb rfl rfl (o_index_imm hTb rfl rfl rfl rfl rfl rfl rfl (by omega) (hvi)) rfl ?_) | (refine VR.fun hTb rfl rfl (o_funN (ch) false [0, 1] gN (by simp) rfl rfl rfl rfl rfl gQ rfl rfl) ?_)) <;> conv => whnf)
    · have hk : (k != 0) = true := h
      refine ⟨i + 1, hlt, by omega, wk_to [(0, 0), (1, 1), (106, 106)] rfl rfl rfl ⟨rfl, rfl, rfl, rfl, rfl, gW (by unfold maxLen; omega), trivial⟩ ⟨rfl, ⟨_, rfl, ?_⟩, rfl, ⟨_, rfl, rfl⟩, rfl, ⟨_, rfl, rfl⟩, trivial⟩⟩
      rw [hst, if_pos hk]; rfl
    · have hk : (k != 0) = false := h
      refine ⟨i + 1, hlt, by omega, wk_to [(0, 0), (1, 1), (106, 106)] rfl rfl rfl ⟨rfl, rfl, rfl, rfl, rfl, gW (by unfold maxLen; omega), trivial⟩ ⟨rfl, ⟨_, rfl, ?_⟩, rfl, ⟨_, rfl, rfl⟩, rfl, ⟨_, rfl, rfl⟩, trivial⟩⟩
      rw [hst, if_neg (by rw [hk]; simp)]; rfl
  · (conv => whnf)
    have hie : i = t.rows.length := by simp at h2; omega
    refine endG [] rfl rfl rfl rfl rfl ⟨rfl, ?_, rfl⟩
    rw [hie, List.take_length]; rfl
theorem baseOk_noT {b : VBase} {i : Nat} (hi : i < b.tabs.length) (h : tabB b i = false) : baseOk b = false := by
  rw [Bool.eq_false_iff]
  intro e
  have := (baseOk_iff.1 e).tb i hi
  rw [h] at this; cases this
theorem baseOk_noL {b : VBase} {i : Nat} (hi : i < b.links.length) (h : linkB b i = false) : baseOk b = false := by
  rw [Bool.eq_false_iff]
  intro e
  have := (baseOk_iff.1 e).lk i hi
  rw [h] at this; cases this
theorem baseOk_end {b : VBase} (h1 : ∀ i, i < b.tabs.length → tabB b i = true) (h2 : ∀ i, i < b.links.length → linkB b i = true) : baseOk b = (decide (b.tabs.length ≤ 3) && decide (b.links.length ≤ 4)) := by
  have e1 : (List.range b.tabs.length).all (tabB b) = true := List.all_eq_true.2 fun i hi => h1 i (List.mem_range.1 hi)
  have e2 : (List.range b.links.length).all (linkB b) = true := List.all_eq_true.2 fun i hi => h2 i (List.mem_range.1 hi)
  unfold baseOk
  rw [e1, e2, Bool.true_and, Bool.true_and]
theorem tabB_at {b : VBase} {i : Nat} (hi : i < b.tabs.length) : tabB b i = (nameOk b.tabs[i].name && (tabIx b b.tabs[i].name == (i : Int) && tabOk b.tabs[i].table)) := by
  have e : b.tabs.getD i zTb = b.tabs[i] := by simp [hi]
  unfold tabB; rw [e]
theorem linkB_at {b : VBase} {i : Nat} (hi : i < b.links.length) : linkB b i = (fitB b b.links[i] && (holdB b b.links[i] && lkIx b b.links[i].src b.links[i].col == (i : Int))) := by
  have e : b.links.getD i zLk = b.links[i] := by simp [hi]
  unfold linkB; rw [e]
theorem tabsOk_of {b : VBase} (h : ∀ i, i < b.tabs.length → tabB b i = true) : ∀ t ∈ b.tabs, tabOk t.table = true := fun t ht => by
  obtain ⟨i, hi, rfl⟩ := List.mem_iff_getElem.1 ht
  have := h i hi
  rw [tabB_at hi, Bool.and_eq_true, Bool.and_eq_true] at this
  exact this.2.2
theorem LkOk.of {b : VBase} {l : VLink} (hm : b.md) (ht : ∀ t ∈ b.tabs, tabOk t.table = true) (hf : fitB b l = true) : LkOk b l := by
  have := fitB_iff.1 hf
  exact ⟨hm, ht, this.1, this.2.1, this.2.2.2.1⟩
theorem c_bholds (b : VBase) (l : VLink) (h : LkOk b l) : CallsV Tryz.prog 98 [.agg (encVBase b), .agg (encVLink l)] [] (pureQ (bS (holdB b l))) := by
  have hl : b.tabs.length ≤ maxLen := lmax (by have := h.md.tl; omega)
  have c1 := c_tabAt b l.dst hl
  obtain ⟨n', hR⟩ := rowTabZ h.j
  have cN := c_namingH b l h (tabOf b l.dst) (lmax (by have := (tabOf_md h.md l.dst).r; omega)) true
  rw [hdF_all, Bool.true_and] at cN
  have hj := h.j
  unfold holdB
  generalize (tabOf b l.src).rows.all (holdR b l) = r at cN ⊢
  generalize tabOf b l.dst = t at *
  generalize tabIx b l.dst = iz at *
  refine pure_walk hTb Tryz.func98 rfl rfl Tryz.ntmps98 (by simp) ?_
  (conv => whnf); repeat' ((first | (refine And.intro ?_ ?_ <;> ((try intro h) <;> (try simp only [gS] at h) <;> first | exact absurd h gF | exact absurd h.symm gF | conv => whnf)) | (refine VL.drawS hTb hMix (by kernel_rfl) (by kernel_rfl) (by kernel_rfl) ?_) | (refine Need.mk ?_; kernel_rfl) | (refine DT.pure hTb rfl (o_purN (c1) rfl rfl rfl gQ rfl) ?_) | (refine DT.op hTb rfl (o_index_imm hTb rfl rfl rfl rfl rfl rfl rfl (by omega) (hR)) rfl ?_) | (refine VR.fun hTb rfl rfl (o_funN (cN) false [105, 106] gN (by simp) rfl rfl rfl rfl rfl gQ rfl rfl) ?_)) <;> conv => whnf)
  rfl
theorem c_implBaseOk (b : VBase) (hb : b.md) : CallsV Tryz.prog 34 [.agg (encVBase b)] [] (pureQ (bS (baseOk b))) := by
  have hlt' := hb.tl
  have hll := hb.ll
  have hl : b.tabs.length ≤ maxLen := lmax (by omega)
  have hl2 : b.links.length ≤ maxLen := lmax (by omega)
  have cA := fun s => c_tabAt b s hl
  have cL := fun s c => c_linkAt b s c hl2
  refine pure_walk hTb Tryz.func34 rfl rfl Tryz.ntmps34 (by simp) ?_
  (conv => whnf)
  refine VL.loopI hTb (fun i => i ≤ b.tabs.length ∧ ∀ j, j < i → tabB b j = true) (fun i => ⟨[(1, .one (.ptr 101 0)), (8, vtabsI b.tabs), (9, iS ((b.tabs.map encVTab).length : Nat)), (10, iS i)], [(101, .box (encVBase b))], []⟩) (fun i => b.tabs.length - i) 0 ⟨Nat.zero_le _, fun j hj => absurd hj (Nat.not_lt_zero _)⟩
    (wk_to [(101, 101)] rfl rfl rfl ⟨rfl, rfl, rfl, rfl, trivial⟩ ⟨rfl, ⟨_, rfl, rfl⟩, trivial⟩) (fun i hi => ?_)
  obtain ⟨hi, hd⟩ := hi
  (conv => whnf)
  refine And.intro (fun h2 => ?_) (fun h2 => ?_)
  · have hlt : i < b.tabs.length := by simpa using h2
    have hrow := rowVTab hlt
    have hB := tabB_at hlt
    have hno := baseOk_noT hlt
    have hm := hb.tm _ (List.getElem_mem hlt)
    have c1 := c_isName b.tabs[i].name hm.1
    have c2 := c_implTableOk b.tabs[i].table hm.2
    have c3 := cA b.tabs[i].name
    generalize tabIx b b.tabs[i].name = z at c3 hB
    generalize b.tabs[i] = ti at hrow hm c1 c2 c3 hB
    generalize nameOk ti.name = bn at c1 hB
    generalize tabOk ti.table = bt at c2 hB
    cases bn <;> cases bt <;> (conv => whnf); repeat' ((first | (refine And.intro ?_ ?_ <;> ((try intro h) <;> (try simp only [gS] at h) <;> first | exact absurd h gF | exact absurd h.symm gF | conv => whnf)) | (refine VR.op hTb rfl rfl (o_index_imm hTb rfl rfl rfl rfl rfl rfl rfl (by omega) (hrow)) rfl ?_) | (refine VR.pure hTb rfl rfl (o_purN (c1) rfl rfl rfl gQ rfl) ?_) | (refine VR.pure hTb rfl rfl (o_purN (c3) rfl rfl rfl gQ rfl) ?_) | (refine VR.pure hTb rfl rfl (o_purN (c2) rfl rfl rfl gQ rfl) ?_)) <;> conv => whnf)
    all_goals first
      | (have e : tabB b i = false := by (rw [hB]; first | rfl | (simp; done) | (have q := bne_iff_ne.1 ‹(z != _) = true›; simp; exact q))
         rw [hno e]; rfl)
      | (refine ⟨i + 1, ⟨hlt, fun j hj => ?_⟩, by omega, wk_to [(101, 101)] rfl rfl rfl ⟨rfl, rfl, rfl, gW (by unfold maxLen; omega), trivial⟩ ⟨rfl, ⟨_, rfl, rfl⟩, trivial⟩⟩
         by_cases hji : j = i
         · have q : (z == (i : Int)) = true := by have q2 := ‹(z != (i : Int)) = false›; simpa [bne] using q2
           rw [hji, hB, q]; rfl
         · exact hd j (by omega))
  · have hie : i = b.tabs.length := by simp at h2; omega
    subst hie
    have hT := tabsOk_of hd
    (conv => whnf)
    refine VL.loopI hTb (fun i => i ≤ b.links.length ∧ ∀ j, j < i → linkB b j = true) (fun i => ⟨[(1, .one (.ptr 101 0)), (35, vlinksI b.links), (36, iS ((b.links.map encVLink).length : Nat)), (37, iS i)], [(101, .box (encVBase b))], []⟩) (fun i => b.links.length - i) 0 ⟨Nat.zero_le _, fun j hj => absurd hj (Nat.not_lt_zero _)⟩
      (wk_to [(101, 101)] rfl rfl rfl ⟨rfl, rfl, rfl, rfl, trivial⟩ ⟨rfl, ⟨_, rfl, rfl⟩, trivial⟩) (fun i hi => ?_)
    obtain ⟨hi, hd2⟩ := hi
    (conv => whnf)
    refine And.intro (fun h2 => ?_) (fun h2 => ?_)
    · have hlt : i < b.links.length := by simpa using h2
      have hrow := rowVLink hlt
      have hB := linkB_at hlt
      have hno := baseOk_noL hlt
      have c1 := c_bfits b b.links[i] hb hT
      have c2 := fun (h : fitB b b.links[i] = true) => c_bholds b b.links[i] (LkOk.of hb hT h)
      have c3 := cL b.links[i].src b.links[i].col
      generalize lkIx b b.links[i].src b.links[i].col = z at c3 hB
      generalize b.links[i] = li at hrow c1 c2 c3 hB
      generalize fitB b li = bf at c1 c2 hB
      generalize holdB b li = bh at c2 hB
      cases bf
      · (conv => whnf); repeat' ((first | (refine And.intro ?_ ?_ <;> ((try intro h) <;> (try simp only [gS] at h) <;> first | exact absurd h gF | exact absurd h.symm gF | conv => whnf)) | (refine VR.op hTb rfl rfl (o_index_imm hTb rfl rfl rfl rfl rfl rfl rfl (by omega) (hrow)) rfl ?_) | (refine VR.pure hTb rfl rfl (o_purN (c1) rfl rfl rfl gQ rfl) ?_)) <;> conv => whnf)
        all_goals (rw [hno (by rw [hB]; rfl)]; rfl)
      · have c2 := c2 rfl
        cases bh <;> (conv => whnf); repeat' ((first | (refine And.intro ?_ ?_ <;> ((try intro h) <;> (try simp only [gS] at h) <;> first | exact absurd h gF | exact absurd h.symm gF | conv => whnf)) | (refine VR.op hTb rfl rfl (o_index_imm hTb rfl rfl rfl rfl rfl rfl rfl (by omega) (hrow)) rfl ?_) | (refine VR.pure hTb rfl rfl (o_purN (c1) rfl rfl rfl gQ rfl) ?_) | (refine VR.pure hTb rfl rfl (o_purN (c2) rfl rfl rfl gQ rfl) ?_) | (refine VR.pure hTb rfl rfl (o_purN (c3) rfl rfl rfl gQ rfl) ?_)) <;> conv => whnf)
        all_goals first
          | (have e : linkB b i = false := by (rw [hB]; first | rfl | (simp; done) | (have q := bne_iff_ne.1 ‹(z != _) = true›; simp; exact q))
             rw [hno e]; rfl)
          | (refine ⟨i + 1, ⟨hlt, fun j hj => ?_⟩, by omega, wk_to [(101, 101)] rfl rfl rfl ⟨rfl, rfl, rfl, gW (by unfold maxLen; omega), trivial⟩ ⟨rfl, ⟨_, rfl, rfl⟩, trivial⟩⟩
             by_cases hji : j = i
             · have q : (z == (i : Int)) = true := by have q2 := ‹(z != (i : Int)) = false›; simpa [bne] using q2
               rw [hji, hB, q]; rfl
             · exact hd2 j (by omega))
    · have hie : i = b.links.length := by simp at h2; omega
      subst hie
      have he := baseOk_end hd hd2
      have e3 : decide ((b.links.length : Int) ≤ 4) = decide (b.links.length ≤ 4) := decide_eq_decide.2 (by omega)
      rw [he, ← e3]
      (conv => whnf); repeat' ((first | (refine And.intro ?_ ?_ <;> ((try intro h) <;> (try simp only [gS] at h) <;> first | exact absurd h gF | exact absurd h.symm gF | conv => whnf))) <;> conv => whnf)
      all_goals simp only [List.length_map] at *
      all_goals first
        | (rw [decide_eq_true (show b.tabs.length ≤ 3 by omega), Bool.true_and]; rfl)
        | (rw [decide_eq_false (show ¬ b.tabs.length ≤ 3 by omega), Bool.false_and]; rfl)
theorem c_l4At (b : VBase) (s : ByteArray) (hl : b.tabs.length ≤ maxLen) : CallsV Tryz.prog 151 [.agg (encVBase b), strS s] [] (pureQ (iS (tabIx b s))) := by
  refine pure_walk hTb Tryz.func151 rfl rfl Tryz.ntmps151 (by simp) ?_
  (conv => whnf)
  refine VL.loopI hTb (fun i => i ≤ b.tabs.length ∧ tabIx b s = pIx (isTab s) (b.tabs.drop i) i) (fun i => ⟨[(2, .one (.ptr 102 0)), (1, strS s), (5, iS i)], [(102, .box (encVBase b))], []⟩) (fun i => b.tabs.length - i) 0 ⟨Nat.zero_le _, rfl⟩
    (wk_to [(102, 102)] rfl rfl rfl ⟨rfl, rfl, rfl, trivial⟩ ⟨rfl, ⟨_, rfl, rfl⟩, trivial⟩) (fun i hi => ?_)
  obtain ⟨hi, hf⟩ := hi
  (conv => whnf)
  refine And.intro (fun h2 => ?_) (fun h2 => ?_)
  · have hlt : i < b.tabs.length := by simpa using h2
    have hrow := rowVTab hlt
    have hst := pIx_step (p := isTab s) hlt
    generalize b.tabs[i] = ri at hrow hst
    (conv => whnf); repeat' ((first | (refine And.intro ?_ ?_ <;> ((try intro h) <;> (try simp only [gS] at h) <;> first | exact absurd h gF | exact absurd h.symm gF | conv => whnf)) | (refine VR.op hTb rfl rfl (o_index_imm hTb rfl rfl rfl rfl rfl rfl rfl (by omega) (hrow)) rfl ?_)) <;> conv => whnf)
    · have h9 : isTab s ri = true := h
      rw [hf, hst, if_pos h9]; rfl
    · have h9 : isTab s ri = false := h
      refine ⟨i + 1, ⟨hlt, ?_⟩, by omega, wk_to [(102, 102)] rfl rfl rfl ⟨rfl, rfl, congrArg (fun x => Slot.one (.g (.int .i64 x))) (wrap64' (by omega)), trivial⟩ ⟨rfl, ⟨_, rfl, rfl⟩, trivial⟩⟩
      rw [hf, hst, if_neg (by rw [h9]; simp)]
  · (conv => whnf)
    rw [hf, pIx_end (by simp at h2; omega)]; rfl
theorem c_l4Tabs (b : VBase) (hb : b.md) : CallsV Tryz.prog 89 [.agg (encVBase b)] [] (pureQ (bS ((List.range b.tabs.length).all (tabB b) && decide (b.tabs.length ≤ 3)))) := by
  have hlt' := hb.tl
  have hl : b.tabs.length ≤ maxLen := lmax (by omega)
  have cA := fun s => c_l4At b s hl
  have hno : ∀ i, i < b.tabs.length → tabB b i = false → (List.range b.tabs.length).all (tabB b) = false := fun i hi h => by
    rw [Bool.eq_false_iff]
    intro e
    have := List.all_eq_true.1 e i (List.mem_range.2 hi)
    rw [h] at this; cases this
  refine pure_walk hTb Tryz.func89 rfl rfl Tryz.ntmps89 (by simp) ?_
  (conv => whnf)
  refine VL.loopI hTb (fun i => i ≤ b.tabs.length ∧ ∀ j, j < i → tabB b j = true) (fun i => ⟨[(1, .one (.ptr 101 0)), (3, iS i)], [(101, .box (encVBase b))], []⟩) (fun i => b.tabs.length - i) 0 ⟨Nat.zero_le _, fun j hj => absurd hj (Nat.not_lt_zero _)⟩
    (wk_to [(101, 101)] rfl rfl rfl ⟨rfl, rfl, trivial⟩ ⟨rfl, ⟨_, rfl, rfl⟩, trivial⟩) (fun i hi => ?_)
  obtain ⟨hi, hd⟩ := hi
  (conv => whnf)
  refine And.intro (fun h2 => ?_) (fun h2 => ?_)
  · have hlt : i < b.tabs.length := by simpa using h2
    have hrow := rowVTab hlt
    have hB := tabB_at hlt
    have hno := hno i hlt
    have hm := hb.tm _ (List.getElem_mem hlt)
    have c1 := c_l2Name b.tabs[i].name hm.1
    have c2 := c_specTableOk b.tabs[i].table hm.2
    have c3 := cA b.tabs[i].name
    generalize tabIx b b.tabs[i].name = z at c3 hB
    generalize b.tabs[i] = ti at hrow hm c1 c2 c3 hB
    generalize nameOk ti.name = bn at c1 hB
    generalize tabOk ti.table = bt at c2 hB
    cases bn <;> cases bt <;> (conv => whnf); repeat' ((first | (refine And.intro ?_ ?_ <;> ((try intro h) <;> (try simp only [gS] at h) <;> first | exact absurd h gF | exact absurd h.symm gF | conv => whnf)) | (refine VL.drawS hTb hMix (by kernel_rfl) (by kernel_rfl) (by kernel_rfl) ?_) | (refine Need.mk ?_; kernel_rfl) | (refine DT.op hTb rfl (o_index_imm hTb rfl rfl rfl rfl rfl rfl rfl (by omega) (hrow)) rfl ?_) | (refine DT.pure hTb rfl (o_purN (c1) rfl rfl rfl gQ rfl) ?_) | (refine DT.pure hTb rfl (o_purN (c3) rfl rfl rfl gQ rfl) ?_) | (refine DT.pure hTb rfl (o_purN (c2) rfl rfl rfl gQ rfl) ?_)) <;> conv => whnf)
    all_goals first
      | (have e : tabB b i = false := by (rw [hB]; first | rfl | (simp; done) | (have q := bne_iff_ne.1 ‹(z != _) = true›; simp; exact q))
         rw [hno e]; rfl)
      | (refine ⟨i + 1, ⟨hlt, fun j hj => ?_⟩, by omega, wk_to [(101, 101)] rfl rfl rfl ⟨rfl, gW (by unfold maxLen; omega), trivial⟩ ⟨rfl, ⟨_, rfl, rfl⟩, trivial⟩⟩
         by_cases hji : j = i
         · have q : (z == (i : Int)) = true := by have q2 := ‹(z != (i : Int)) = false›; simpa [bne] using q2
           rw [hji, hB, q]; rfl
         · exact hd j (by omega))
  · have hie : i = b.tabs.length := by simp at h2; omega
    subst hie
    have e1 : (List.range b.tabs.length).all (tabB b) = true := List.all_eq_true.2 fun i hi => hd i (List.mem_range.1 hi)
    have e3 : decide (((b.tabs.map encVTab).length : Int) ≤ 3) = decide (b.tabs.length ≤ 3) := decide_eq_decide.2 (by simp; omega)
    rw [e1, Bool.true_and, ← e3]
    (conv => whnf)
    rfl
theorem c_l4Fits (b : VBase) (l : VLink) (hb : b.md) : CallsV Tryz.prog 90 [.agg (encVBase b), .agg (encVLink l)] [] (pureQ (bS (fitB b l))) := by
  have hl : b.tabs.length ≤ maxLen := lmax (by have := hb.tl; omega)
  have c1 := c_l4At b l.src hl
  have c2 := c_l4At b l.dst hl
  have hm := tabOf_md hb l.src
  have cS := c_l3Last (tabOf b l.src) hm
  have cA := c_l2At (tL (tabOf b l.src)) l.col (tL_ml hm)
  have hN := nameAt_bd (tL (tabOf b l.src)) l.col
  have hR := fun (h : ¬ tabIx b l.src < 0) => rowTabZ h
  unfold fitB lkC lkAt
  generalize tL (tabOf b l.src) = L at cS cA hN ⊢
  generalize tabOf b l.src = t at cS hR
  generalize nameAt L l.col = z at cA hN ⊢
  generalize tabIx b l.src = i at c1 hR ⊢
  generalize tabIx b l.dst = j at c2 ⊢
  clear hm
  refine pure_walk hTb Tryz.func90 rfl rfl Tryz.ntmps90 (by simp) ?_
  by_cases hi : i < 0
  · rw [decide_eq_true hi]
    (conv => whnf); repeat' ((first | (exact absurd h (by omega)) | (refine And.intro ?_ ?_ <;> ((try intro h) <;> (try simp only [gS] at h) <;> first | exact absurd h gF | exact absurd h.symm gF | conv => whnf)) | (refine VR.pure hTb rfl rfl (o_purN (c1) rfl rfl rfl gQ rfl) ?_)) <;> conv => whnf)
    all_goals rfl
  obtain ⟨n', hR⟩ := hR hi
  rw [decide_eq_false hi]
  by_cases hj : j < 0
  · rw [decide_eq_true hj]
    (conv => whnf); repeat' ((first | (exact absurd h (by omega)) | (refine And.intro ?_ ?_ <;> ((try intro h) <;> (try simp only [gS] at h) <;> first | exact absurd h gF | exact absurd h.symm gF | conv => whnf)) | (refine VR.pure hTb rfl rfl (o_purN (c1) rfl rfl rfl gQ rfl) ?_) | (refine VR.pure hTb rfl rfl (o_purN (c2) rfl rfl rfl gQ rfl) ?_)) <;> conv => whnf)
    all_goals rfl
  rw [decide_eq_false hj]
  by_cases hw0 : ¬ (1 ≤ l.how ∧ l.how ≤ 3)
  · rw [decide_eq_false hw0]
    (conv => whnf); repeat' ((first | (exact absurd h (by omega)) | (refine And.intro ?_ ?_ <;> ((try intro h) <;> (try simp only [gS] at h) <;> first | exact absurd h gF | exact absurd h.symm gF | conv => whnf)) | (refine VR.pure hTb rfl rfl (o_purN (c1) rfl rfl rfl gQ rfl) ?_) | (refine VR.pure hTb rfl rfl (o_purN (c2) rfl rfl rfl gQ rfl) ?_)) <;> conv => whnf)
    all_goals first
      | rfl
      | (exfalso; omega)
  have hw := Decidable.not_not.1 hw0
  rw [decide_eq_true hw]
  by_cases hz : 0 ≤ z
  · have hcR := rowCZ hz hN.1
    rw [decide_eq_true hz]
    generalize L.getD z.toNat (kCol 0) = cc at hcR ⊢
    (conv => whnf); repeat' ((first | (exact absurd h (by omega)) | (refine And.intro ?_ ?_ <;> ((try intro h) <;> (try simp only [gS] at h) <;> first | exact absurd h gF | exact absurd h.symm gF | conv => whnf)) | (refine VR.pure hTb rfl rfl (o_purN (c1) rfl rfl rfl gQ rfl) ?_) | (refine VR.pure hTb rfl rfl (o_purN (c2) rfl rfl rfl gQ rfl) ?_) | (refine VR.op hTb rfl rfl (o_index_imm hTb rfl rfl rfl rfl rfl rfl rfl (by omega) (hR)) rfl ?_) | (refine VR.pure hTb rfl rfl (o_purF (cS) rfl rfl rfl gQ rfl) ?_) | (refine VR.pure hTb rfl rfl (o_purN (cA) rfl rfl rfl gQ rfl) ?_) | (refine VR.op hTb rfl rfl (o_index_imm hTb rfl rfl rfl rfl rfl rfl rfl (by omega) (hcR)) rfl ?_)) <;> conv => whnf)
    all_goals first
      | rfl
      | (simp_all [bS]; done)
  · rw [decide_eq_false hz]
    (conv => whnf); repeat' ((first | (exact absurd h (by omega)) | (refine And.intro ?_ ?_ <;> ((try intro h) <;> (try simp only [gS] at h) <;> first | exact absurd h gF | exact absurd h.symm gF | conv => whnf)) | (refine VR.pure hTb rfl rfl (o_purN (c1) rfl rfl rfl gQ rfl) ?_) | (refine VR.pure hTb rfl rfl (o_purN (c2) rfl rfl rfl gQ rfl) ?_) | (refine VR.op hTb rfl rfl (o_index_imm hTb rfl rfl rfl rfl rfl rfl rfl (by omega) (hR)) rfl ?_) | (refine VR.pure hTb rfl rfl (o_purF (cS) rfl rfl rfl gQ rfl) ?_) | (refine VR.pure hTb rfl rfl (o_purN (cA) rfl rfl rfl gQ rfl) ?_)) <;> conv => whnf)
    all_goals first
      | rfl
theorem c_l4Val (t : VTable) (k : Nat) (col : ByteArray) (hm : t.md) (hk : k < t.rows.length) (hv : 0 ≤ t.rows[k].ver ∧ t.rows[k].ver ≤ (t.changes.length : Int)) (hz : 0 ≤ nameAt (tL t) col) (hw : nameAt (tL t) col < (tNow t t.rows[k]).length) :
    CallsV Tryz.prog 152 [.agg (encVTable t), iS k, strS col] [] (pureQ (.agg (encVal ((tNow t t.rows[k]).getD (nameAt (tL t) col).toNat zVal)))) := by
  have hrow := rowVRow hk
  have hrm := hm.rm _ (List.getElem_mem hk)
  have cN := (c_l3Now t t.rows[k] hm hv (by omega) hrm.2).pure (pureVals _)
  have cS := c_l3Last t hm
  have cA := c_l2At (tL t) col (tL_ml hm)
  have hvv := rowVZ hz hw
  generalize nameAt (tL t) col = z at cA hvv hz hw ⊢
  generalize tNow t t.rows[k] = w at cN hvv hw ⊢
  generalize t.rows[k] = r at cN hrow
  generalize tL t = L at cS cA
  generalize w.getD z.toNat zVal = v at hvv ⊢
  refine pure_walk hTb Tryz.func152 rfl rfl Tryz.ntmps152 (by simp) ?_
  (conv => whnf); repeat' ((first | (refine And.intro ?_ ?_ <;> ((try intro h) <;> (try simp only [gS] at h) <;> first | exact absurd h gF | exact absurd h.symm gF | conv => whnf)) | (refine VL.drawS hTb hMix (by kernel_rfl) (by kernel_rfl) (by kernel_rfl) ?_) | (refine Need.mk ?_; kernel_rfl) | (refine DT.op hTb rfl (o_index_imm hTb rfl rfl rfl rfl rfl rfl rfl (by omega) (hrow)) rfl ?_) | (refine DT.pure hTb rfl (o_purF (cN) rfl rfl rfl gQ rfl) ?_) | (refine DT.pure hTb rfl (o_purF (cS) rfl rfl rfl gQ rfl) ?_) | (refine DT.pure hTb rfl (o_purN (cA) rfl rfl rfl gQ rfl) ?_) | (refine DT.op hTb rfl (o_index_imm hTb rfl rfl rfl rfl rfl rfl rfl (by omega) (hvv)) rfl ?_)) <;> conv => whnf)
  rfl
structure LkS (b : VBase) (l : VLink) : Prop where
  md : b.md
  i : ¬ tabIx b l.src < 0
  j : ¬ tabIx b l.dst < 0
  z : 0 ≤ lkAt b l
  rw : ∀ i (hi : i < (tabOf b l.src).rows.length), (0 ≤ (tabOf b l.src).rows[i].ver ∧ (tabOf b l.src).rows[i].ver ≤ ((tabOf b l.src).changes.length : Int)) ∧ lkAt b l < (tNow (tabOf b l.src) (tabOf b l.src).rows[i]).length
theorem LkOk.s {b : VBase} {l : VLink} (h : LkOk b l) : LkS b l := ⟨h.md, h.i, h.j, h.z, fun _ hi => ⟨(rowFacts h.tab hi).1, h.now hi⟩⟩
theorem LkS.val {b : VBase} {l : VLink} (h : LkS b l) {k : Nat} (hk : k < (tabOf b l.src).rows.length) : CallsV Tryz.prog 152 [.agg (encVTable (tabOf b l.src)), iS k, strS l.col] [] (pureQ (.agg (encVal (lkV b l (tabOf b l.src).rows[k])))) :=
  c_l4Val (tabOf b l.src) k l.col (tabOf_md h.md _) hk (h.rw k hk).1 h.z (h.rw k hk).2
theorem c_l4Holds (b : VBase) (l : VLink) (h : LkS b l) : CallsV Tryz.prog 92 [.agg (encVBase b), .agg (encVLink l)] [] (pureQ (bS (holdB b l))) := by
  have hl : b.tabs.length ≤ maxLen := lmax (by have := h.md.tl; omega)
  have c1 := c_l4At b l.src hl
  have c2 := c_l4At b l.dst hl
  obtain ⟨n1, hR1⟩ := rowTabZ h.i
  obtain ⟨n2, hR2⟩ := rowTabZ h.j
  have cV := fun k (hk : k < (tabOf b l.src).rows.length) => h.val hk
  have cL := fun n => c_l3At (tabOf b l.dst) n (lmax (by have := (tabOf_md h.md l.dst).r; omega))
  have hlen := (tabOf_md h.md l.src).r
  have hi0 := h.i
  have hj0 := h.j
  unfold holdB
  have hp : ∀ r, holdR b l r = ((lkV b l r).k == 0 || !decide (tAt (tabOf b l.dst) (lkV b l r).n < 0)) := fun _ => rfl
  obtain ⟨f, hf⟩ : ∃ f, f = holdR b l := ⟨_, rfl⟩
  rw [← hf] at hp ⊢
  clear hf h
  generalize lkV b l = g at *
  generalize tabOf b l.src = t at *
  generalize tabOf b l.dst = to at *
  generalize tabIx b l.src = iz at *
  generalize tabIx b l.dst = jz at *
  refine pure_walk hTb Tryz.func92 rfl rfl Tryz.ntmps92 (by simp) ?_
  (conv => whnf); repeat' ((first | (refine And.intro ?_ ?_ <;> ((try intro h) <;> (try simp only [gS] at h) <;> first | exact absurd h gF | exact absurd h.symm gF | conv => whnf)) | (refine VL.drawS hTb hMix (by kernel_rfl) (by kernel_rfl) (by kernel_rfl) ?_) | (refine Need.mk ?_; kernel_rfl) | (refine DT.pure hTb rfl (o_purN (c1) rfl rfl rfl gQ rfl) ?_) | (refine DT.pure hTb rfl (o_purN (c2) rfl rfl rfl gQ rfl) ?_) | (refine DT.op hTb rfl (o_index_imm hTb rfl rfl rfl rfl rfl rfl rfl (by omega) (hR1)) rfl ?_) | (refine DT.op hTb rfl (o_index_imm hTb rfl rfl rfl rfl rfl rfl rfl (by omega) (hR2)) rfl ?_)) <;> conv => whnf)
  refine VL.loopI hTb (fun i => i ≤ t.rows.length ∧ t.rows.all f = (t.rows.drop i).all f) (fun i => ⟨[(3, .one (.ptr 103 0)), (5, .one (.ptr 105 0)), (6, .one (.ptr 106 0)), (7, iS i)], [(103, .box (encVLink l)), (105, .box (encVTable t)), (106, .box (encVTable to))], []⟩) (fun i => t.rows.length - i) 0 ⟨Nat.zero_le _, rfl⟩
    (wk_to [(103, 103), (105, 105), (106, 106)] rfl rfl rfl ⟨rfl, rfl, rfl, rfl, trivial⟩ ⟨rfl, ⟨_, rfl, rfl⟩, rfl, ⟨_, rfl, rfl⟩, rfl, ⟨_, rfl, rfl⟩, trivial⟩) (fun i hi => ?_)
  obtain ⟨hi, hd⟩ := hi
  (conv => whnf)
  refine And.intro (fun h2 => ?_) (fun h2 => ?_)
  · have hlt : i < t.rows.length := by simpa using h2
    have hs : (t.rows.drop i).all f = (f t.rows[i] && (t.rows.drop (i + 1)).all f) := by rw [List.drop_eq_getElem_cons hlt, List.all_cons]
    rw [hp] at hs
    have hc := cV i hlt
    generalize g t.rows[i] = v at hc hs
    obtain ⟨k, n, tx⟩ := v
    have cL := cL n
    simp only at hs
    generalize tAt to n = z at cL hs
    (conv => whnf); repeat' ((first | (refine And.intro ?_ ?_ <;> ((try intro h) <;> (try simp only [gS] at h) <;> first | exact absurd h gF | exact absurd h.symm gF | conv => whnf)) | (refine VR.pure hTb rfl rfl (o_purN (hc) rfl rfl rfl gQ rfl) ?_) | (refine VR.pure hTb rfl rfl (o_purN (cL) rfl rfl rfl gQ rfl) ?_)) <;> conv => whnf)
    all_goals first
      | (rw [hd, hs]
         have q : (k == 0) = false := by have q2 := ‹(k != 0) = true›; simpa [bne] using q2
         rw [q, decide_eq_true (by omega)]; rfl)
      | (refine ⟨i + 1, ⟨hlt, ?_⟩, by omega, wk_to [(103, 103), (105, 105), (106, 106)] rfl rfl rfl ⟨rfl, rfl, rfl, gW (by unfold maxLen; omega), trivial⟩ ⟨rfl, ⟨_, rfl, rfl⟩, rfl, ⟨_, rfl, rfl⟩, rfl, ⟨_, rfl, rfl⟩, trivial⟩⟩
         rw [hd, hs]
         first
           | (rw [decide_eq_false (show ¬ z < 0 by omega), Bool.not_false, Bool.or_true, Bool.true_and]; done)
           | (have q : (k == 0) = true := by (have q2 := ‹(k != 0) = false›; simpa [bne] using q2)
              rw [q, Bool.true_or, Bool.true_and]))
  · (conv => whnf)
    rw [hd, List.drop_of_length_le (by simp at h2; omega)]; rfl
def apB (b : VBase) (i : Nat) : Bool := !((b.links.take i).any (isLk (b.links.getD i zLk).src (b.links.getD i zLk).col))
theorem apB_eq {b : VBase} {i : Nat} (hi : i < b.links.length) : apB b i = (lkIx b b.links[i].src b.links[i].col == (i : Int)) := by
  have e : b.links.getD i zLk = b.links[i] := by simp [hi]
  unfold apB
  rw [e, Bool.eq_iff_iff, Bool.not_eq_true', beq_iff_eq]
  have hself : isLk b.links[i].src b.links[i].col b.links[i] = true := by simp [isLk]
  constructor
  · intro h
    have := pIx_eq (p := isLk b.links[i].src b.links[i].col) b.links 0 i hi hself (fun j hj => by
      rw [List.any_eq_false] at h
      have h2 := h (b.links[j]'(by omega)) (List.mem_iff_getElem.2 ⟨j, by simp; omega, by simp⟩)
      simpa using h2)
    unfold lkIx; simpa using this
  · intro h
    unfold lkIx at h
    obtain ⟨_, _, h3⟩ := pIx_at (p := isLk b.links[i].src b.links[i].col) b.links 0 i (by simpa using h)
    rw [List.any_eq_false]
    intro x hx
    obtain ⟨j, hj, rfl⟩ := List.mem_iff_getElem.1 hx
    have hj2 : j < i := by simp at hj; omega
    have := h3 j hj2
    rw [List.getElem_take]
    simpa using this
theorem c_l4Apart (b : VBase) (n : Nat) (hn : n < b.links.length) (hl : b.links.length ≤ maxLen) : CallsV Tryz.prog 91 [.agg (encVBase b), iS n] [] (pureQ (bS (apB b n))) := by
  have e : b.links.getD n zLk = b.links[n] := by simp [hn]
  have hrn := rowVLink hn
  unfold apB
  rw [e]
  generalize b.links[n] = ln at hrn ⊢
  refine pure_walk hTb Tryz.func91 rfl rfl Tryz.ntmps91 (by simp) ?_
  (conv => whnf)
  refine VL.loopI hTb (fun i => i ≤ n ∧ (b.links.take i).any (isLk ln.src ln.col) = false) (fun i => ⟨[(1, iS n), (2, .one (.ptr 102 0)), (5, iS i)], [(102, .box (encVBase b))], []⟩) (fun i => n - i) 0 ⟨Nat.zero_le _, rfl⟩
    (wk_to [(102, 102)] rfl rfl rfl ⟨rfl, rfl, rfl, trivial⟩ ⟨rfl, ⟨_, rfl, rfl⟩, trivial⟩) (fun i hi => ?_)
  obtain ⟨hi, hd⟩ := hi
  (conv => whnf)
  refine And.intro (fun h2 => ?_) (fun h2 => ?_)
  · have hltn : i < n := by have := of_decide_eq_true h2; omega
    have hlt : i < b.links.length := by omega
    have hrow := rowVLink hlt
    have hs : (b.links.take (i + 1)).any (isLk ln.src ln.col) = isLk ln.src ln.col b.links[i] := by
      rw [List.take_succ_eq_append_getElem hlt, List.any_append, hd]; simp
    have hmem : isLk ln.src ln.col b.links[i] = true → (b.links.take n).any (isLk ln.src ln.col) = true := fun h => List.any_eq_true.2 ⟨b.links[i], List.mem_iff_getElem.2 ⟨i, by simp; omega, by simp⟩, h⟩
    generalize b.links[i] = li at hrow hs hmem
    (conv => whnf); repeat' ((first | (refine And.intro ?_ ?_ <;> ((try intro h) <;> (try simp only [gS] at h) <;> first | exact absurd h gF | exact absurd h.symm gF | conv => whnf)) | (refine VL.drawS hTb hMix (by kernel_rfl) (by kernel_rfl) (by kernel_rfl) ?_) | (refine Need.mk ?_; kernel_rfl) | (refine DT.op hTb rfl (o_index_imm hTb rfl rfl rfl rfl rfl rfl rfl (by omega) (hrow)) rfl ?_) | (refine DT.op hTb rfl (o_index_imm hTb rfl rfl rfl rfl rfl rfl rfl (by omega) (hrn)) rfl ?_)) <;> conv => whnf)
    all_goals first
      | (rw [hmem (by unfold isLk; rw [‹(li.src.toList == ln.src.toList) = true›, ‹(li.col.toList == ln.col.toList) = true›]; rfl)]; rfl)
      | (refine ⟨i + 1, ⟨hltn, ?_⟩, by omega, wk_to [(102, 102)] rfl rfl rfl ⟨rfl, rfl, congrArg (fun x => Slot.one (.g (.int .i64 x))) (wrap64' (by omega)), trivial⟩ ⟨rfl, ⟨_, rfl, rfl⟩, trivial⟩⟩
         rw [hs]
         unfold isLk
         first
           | (rw [‹(li.src.toList == ln.src.toList) = false›]; rfl)
           | (rw [‹(li.col.toList == ln.col.toList) = false›, Bool.and_false]))
  · have hie : i = n := by have := of_decide_eq_false h2; omega
    subst hie
    (conv => whnf)
    rw [hd]; rfl
theorem c_specBaseOk (b : VBase) (hb : b.md) : CallsV Tryz.prog 32 [.agg (encVBase b)] [] (pureQ (bS (baseOk b))) := by
  have hll := hb.ll
  have hl2 : b.links.length ≤ maxLen := lmax (by omega)
  have c0 := c_l4Tabs b hb
  obtain ⟨b1, hb1⟩ : ∃ x, (List.range b.tabs.length).all (tabB b) = x := ⟨_, rfl⟩
  obtain ⟨b2, hb2⟩ : ∃ x, decide (b.tabs.length ≤ 3) = x := ⟨_, rfl⟩
  rw [hb1, hb2] at c0
  refine pure_walk hTb Tryz.func32 rfl rfl Tryz.ntmps32 (by simp) ?_
  cases b1
  · have e : baseOk b = false := by unfold baseOk; rw [hb1]; rfl
    rw [e]
    (conv => whnf); repeat' ((first | (refine And.intro ?_ ?_ <;> ((try intro h) <;> (try simp only [gS] at h) <;> first | exact absurd h gF | exact absurd h.symm gF | conv => whnf)) | (refine VR.pure hTb rfl rfl (o_purN (c0) rfl rfl rfl gQ rfl) ?_)) <;> conv => whnf)
    all_goals rfl
  cases b2
  · have e : baseOk b = false := by unfold baseOk; rw [hb2]; simp
    rw [e]
    (conv => whnf); repeat' ((first | (refine And.intro ?_ ?_ <;> ((try intro h) <;> (try simp only [gS] at h) <;> first | exact absurd h gF | exact absurd h.symm gF | conv => whnf)) | (refine VR.pure hTb rfl rfl (o_purN (c0) rfl rfl rfl gQ rfl) ?_)) <;> conv => whnf)
    all_goals rfl
  by_cases h40 : ¬ b.links.length ≤ 4
  · have e : baseOk b = false := by unfold baseOk; rw [decide_eq_false h40]; simp
    rw [e]
    (conv => whnf); repeat' ((first | (refine And.intro ?_ ?_ <;> ((try intro h) <;> (try simp only [gS] at h) <;> first | exact absurd h gF | exact absurd h.symm gF | conv => whnf)) | (refine VR.pure hTb rfl rfl (o_purN (c0) rfl rfl rfl gQ rfl) ?_)) <;> conv => whnf)
    all_goals first
      | rfl
      | (exfalso; simp at h; omega)
  have h4 := Decidable.not_not.1 h40
  have hd : ∀ i, i < b.tabs.length → tabB b i = true := fun i hi => List.all_eq_true.1 hb1 i (List.mem_range.2 hi)
  have hT := tabsOk_of hd
  (conv => whnf); repeat' ((first | (refine And.intro ?_ ?_ <;> ((try intro h) <;> (try simp only [gS] at h) <;> first | exact absurd h gF | exact absurd h.symm gF | conv => whnf)) | (refine VR.pure hTb rfl rfl (o_purN (c0) rfl rfl rfl gQ rfl) ?_)) <;> conv => whnf)
  · exfalso; simp at h; omega
  refine VL.loopI hTb (fun i => i ≤ b.links.length ∧ ∀ j, j < i → linkB b j = true) (fun i => ⟨[(1, .one (.ptr 101 0)), (3, iS i)], [(101, .box (encVBase b))], []⟩) (fun i => b.links.length - i) 0 ⟨Nat.zero_le _, fun j hj => absurd hj (Nat.not_lt_zero _)⟩
    (wk_to [(101, 101)] rfl rfl rfl ⟨rfl, rfl, trivial⟩ ⟨rfl, ⟨_, rfl, rfl⟩, trivial⟩) (fun i hi => ?_)
  obtain ⟨hi, hd2⟩ := hi
  (conv => whnf)
  refine And.intro (fun h2 => ?_) (fun h2 => ?_)
  · have hlt : i < b.links.length := by simpa using h2
    have hrow := rowVLink hlt
    have hB := linkB_at hlt
    have hno := baseOk_noL hlt
    have c1 := c_l4Fits b b.links[i] hb
    have c2 := fun (h : fitB b b.links[i] = true) => c_l4Holds b b.links[i] (LkOk.of hb hT h).s
    have c3 := c_l4Apart b i hlt hl2
    rw [apB_eq hlt] at c3
    generalize (lkIx b b.links[i].src b.links[i].col == (i : Int)) = z at c3 hB
    generalize b.links[i] = li at hrow c1 c2 hB
    generalize fitB b li = bf at c1 c2 hB
    generalize holdB b li = bh at c2 hB
    cases bf
    · (conv => whnf); repeat' ((first | (refine And.intro ?_ ?_ <;> ((try intro h) <;> (try simp only [gS] at h) <;> first | exact absurd h gF | exact absurd h.symm gF | conv => whnf)) | (refine VL.drawS hTb hMix (by kernel_rfl) (by kernel_rfl) (by kernel_rfl) ?_) | (refine Need.mk ?_; kernel_rfl) | (refine DT.op hTb rfl (o_index_imm hTb rfl rfl rfl rfl rfl rfl rfl (by omega) (hrow)) rfl ?_) | (refine DT.pure hTb rfl (o_purN (c1) rfl rfl rfl gQ rfl) ?_)) <;> conv => whnf)
      all_goals (rw [hno (by rw [hB]; rfl)]; rfl)
    · have c2 := c2 rfl
      cases bh <;> cases z <;> (conv => whnf); repeat' ((first | (refine And.intro ?_ ?_ <;> ((try intro h) <;> (try simp only [gS] at h) <;> first | exact absurd h gF | exact absurd h.symm gF | conv => whnf)) | (refine VL.drawS hTb hMix (by kernel_rfl) (by kernel_rfl) (by kernel_rfl) ?_) | (refine Need.mk ?_; kernel_rfl) | (refine DT.op hTb rfl (o_index_imm hTb rfl rfl rfl rfl rfl rfl rfl (by omega) (hrow)) rfl ?_) | (refine DT.pure hTb rfl (o_purN (c1) rfl rfl rfl gQ rfl) ?_) | (refine DT.pure hTb rfl (o_purN (c2) rfl rfl rfl gQ rfl) ?_) | (refine DT.pure hTb rfl (o_purN (c3) rfl rfl rfl gQ rfl) ?_)) <;> conv => whnf)
      all_goals first
        | (rw [hno (by rw [hB]; rfl)]; rfl)
        | (refine ⟨i + 1, ⟨hlt, fun j hj => ?_⟩, by omega, wk_to [(101, 101)] rfl rfl rfl ⟨rfl, gW (by unfold maxLen; omega), trivial⟩ ⟨rfl, ⟨_, rfl, rfl⟩, trivial⟩⟩
           by_cases hji : j = i
           · rw [hji, hB]; rfl
           · exact hd2 j (by omega))
  · have hie : i = b.links.length := by simp at h2; omega
    subst hie
    rw [baseOk_end hd hd2, hb2, decide_eq_true h4]
    (conv => whnf)
    rfl
def tW (t : VTable) : Nat := tabW t.first.length t.changes.length (lens t.rows)
def tabsW : List VTab → Nat
  | [] => 0
  | t :: ts => 2 + tW t.table + tabsW ts
def bW (b : VBase) : Nat := tabsW b.tabs + 4 * b.links.length
structure VBase.sz (b : VBase) : Prop where
  md : b.md
  w : bW b ≤ 10485760
  fc : ∀ t ∈ b.tabs, t.table.first.length + t.table.changes.length ≤ 1048576
end Go.Vl

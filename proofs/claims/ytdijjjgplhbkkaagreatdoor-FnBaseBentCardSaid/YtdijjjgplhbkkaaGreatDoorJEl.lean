/- Contracts: what goes with a row, in order: the program's. Contracts: what goes with a row, in order: the reference's. Contracts: what goes with a row, in order: the reference's list. Bases drawn: what holds of them, and goes on. Contracts: rows of tables drawn: put, turned, taken out: the parts. -/
import Derived.Test.YtdijjjgplhbkkaaGreatDoorJEa
import Derived.Test.YtdijjjgplhbkkaaGreatDoorJEk
import Derived.Test.YtdijjjgplhbkkaaGreatDoorJEj
set_option linter.unusedSimpArgs false
set_option linter.unusedVariables false
set_option linter.unnecessarySimpa false
set_option maxRecDepth 100000
set_option maxHeartbeats 16000000

namespace Go.Vl
open Go Go.RowKit Go.Proofs
def goF (K : List VRef) (xs : List (VTab × VRow)) : List VRef := (xs.filter fun x => inL K (spK x)).map spK
def preT (b : VBase) (i : Nat) : List (VTab × VRow) := (b.tabs.take i).flatMap fun t => t.table.rows.map fun r => (t, r)
theorem goL_pre (b : VBase) (K : List VRef) : goL b K = goF K (preT b b.tabs.length) := by
  unfold goL goF preT flatS; rw [List.take_length]
theorem preT_step {b : VBase} {i : Nat} (h : i < b.tabs.length) : preT b (i + 1) = preT b i ++ b.tabs[i].table.rows.map fun r => (b.tabs[i], r) := by
  unfold preT
  rw [List.take_succ_eq_append_getElem h, List.flatMap_append]; simp
theorem goF_snoc (K : List VRef) (xs : List (VTab × VRow)) (x : VTab × VRow) : goF K (xs ++ [x]) = if inL K (spK x) then goF K xs ++ [spK x] else goF K xs := by
  unfold goF
  rw [List.filter_append, List.map_append]
  by_cases h : inL K (spK x) = true
  · rw [if_pos h, List.filter_cons_of_pos (by simpa using h)]; rfl
  · rw [if_neg h, List.filter_cons_of_neg (by simpa using h)]; simp
theorem goF_len (K : List VRef) (xs : List (VTab × VRow)) : (goF K xs).length ≤ xs.length := by
  unfold goF; rw [List.length_map]; exact List.length_filter_le _ _
theorem mapT_step {t : VTab} {k : Nat} (h : k < t.table.rows.length) : (t.table.rows.take (k + 1)).map (fun r => (t, r)) = (t.table.rows.take k).map (fun r => (t, r)) ++ [(t, t.table.rows[k])] := by
  rw [List.take_succ_eq_append_getElem h, List.map_append]; rfl
theorem BOkB.rows8 {b : VBase} (hb : BOkB b) {t : VTab} (ht : t ∈ b.tabs) : t.table.rows.length ≤ 8 := by
  have := tabsOk_of hb.tb t ht
  exact (tabOk_iff.1 this).r8
def hasB (b : VBase) (s : VRef) : Bool := !decide (tabIx b s.name < 0) && !decide (tAt (tabOf b s.name) s.id < 0)
abbrev isRef (nm : ByteArray) (id : Int) (k : VRef) : Bool := k.name.toList == nm.toList && k.id == id
theorem inL_any (K : List VRef) (nm : ByteArray) (id : Int) : inL K ⟨nm, id⟩ = K.any (isRef nm id) := by
  rw [Bool.eq_iff_iff, inL_iff, List.any_eq_true]
  constructor
  · intro h; exact ⟨_, h, by simp [isRef]⟩
  · rintro ⟨x, hx, hq⟩
    simp only [isRef, Bool.and_eq_true, beq_iff_eq] at hq
    obtain ⟨xn, xi⟩ := x
    simp only at hq
    rw [← tl_inj hq.1, ← hq.2]; exact hx
theorem c_l4In (K : List VRef) (nm : ByteArray) (id : Int) (hl : K.length ≤ maxLen) : CallsV Tryz.prog 164 [vrefsI K, strS nm, iS id] [] (pureQ (bS (inL K ⟨nm, id⟩))) := by
  rw [inL_any]
  refine pure_walk hTb Tryz.func164 rfl rfl Tryz.ntmps164 (by simp) ?_
  (conv => whnf)
  refine VL.loopI hTb (fun i => i ≤ K.length ∧ K.any (isRef nm id) = (K.drop i).any (isRef nm id)) (fun i => ⟨[(0, vrefsI K), (1, strS nm), (2, iS id), (7, iS i)], [], []⟩) (fun i => K.length - i) 0 ⟨Nat.zero_le _, rfl⟩
    (wk_to [] rfl rfl rfl ⟨rfl, rfl, rfl, rfl, trivial⟩ trivial) (fun i hi => ?_)
  obtain ⟨hi, hd⟩ := hi
  (conv => whnf)
  refine And.intro (fun h2 => ?_) (fun h2 => ?_)
  · have hlt : i < K.length := by simpa using h2
    have hrow := rowVRef hlt
    have hs : (K.drop i).any (isRef nm id) = (isRef nm id K[i] || (K.drop (i + 1)).any (isRef nm id)) := by rw [List.drop_eq_getElem_cons hlt, List.any_cons]
    generalize K[i] = k at hrow hs
    (conv => whnf); repeat' ((first | (refine And.intro ?_ ?_ <;> ((try intro h) <;> (try simp only [gS] at h) <;> first | exact absurd h gF | exact absurd h.symm gF | conv => whnf)) | (refine VR.op hTb rfl rfl (o_index_imm hTb rfl rfl rfl rfl rfl rfl rfl (by omega) (hrow)) rfl ?_)) <;> conv => whnf)
    all_goals first
      | (rw [hd, hs]
         unfold isRef
         rw [‹(k.name.toList == nm.toList) = true›, ‹(k.id == id) = true›]; rfl)
      | (refine ⟨i + 1, ⟨hlt, ?_⟩, by omega, wk_to [] rfl rfl rfl ⟨rfl, rfl, rfl, congrArg (fun x => Slot.one (.g (.int .i64 x))) (wrap64' (by omega)), trivial⟩ trivial⟩
         rw [hd, hs]
         have e : isRef nm id k = false := by
           unfold isRef
           first
             | (rw [‹(k.name.toList == nm.toList) = false›]; rfl)
             | (rw [‹(k.id == id) = false›, Bool.and_false])
         rw [e, Bool.false_or])
  · (conv => whnf)
    rw [hd, List.drop_of_length_le (by simp at h2; omega)]; rfl
theorem c_l4Names (b : VBase) (l : VLink) (h : LkS b l) (k : Nat) (hk : k < (tabOf b l.src).rows.length) (K : List VRef) (hl : K.length ≤ maxLen) :
    CallsV Tryz.prog 195 [.agg (encVBase b), .agg (encVLink l), iS k, vrefsI K] [] (pureQ (bS ((lkV b l (tabOf b l.src).rows[k]).k != 0 && inL K ⟨l.dst, (lkV b l (tabOf b l.src).rows[k]).n⟩))) := by
  have hlt : b.tabs.length ≤ maxLen := lmax (by have := h.md.tl; omega)
  have c1 := c_l4At b l.src hlt
  obtain ⟨n', hR⟩ := rowTabZ h.i
  have hi0 := h.i
  have cV := h.val hk
  generalize lkV b l (tabOf b l.src).rows[k] = v at cV ⊢
  have cI := c_l4In K l.dst v.n hl
  generalize inL K ⟨l.dst, v.n⟩ = bi at cI ⊢
  generalize tabOf b l.src = t at *
  generalize tabIx b l.src = iz at *
  refine pure_walk hTb Tryz.func195 rfl rfl Tryz.ntmps195 (by simp) ?_
  (conv => whnf); repeat' ((first | (refine And.intro ?_ ?_ <;> ((try intro h) <;> (try simp only [gS] at h) <;> first | exact absurd h gF | exact absurd h.symm gF | conv => whnf)) | (refine VL.drawS hTb hMix (by kernel_rfl) (by kernel_rfl) (by kernel_rfl) ?_) | (refine Need.mk ?_; kernel_rfl) | (refine DT.pure hTb rfl (o_purN (c1) rfl rfl rfl gQ rfl) ?_) | (refine DT.op hTb rfl (o_index_imm hTb rfl rfl rfl rfl rfl rfl rfl (by omega) (hR)) rfl ?_) | (refine DT.pure hTb rfl (o_purN (cV) rfl rfl rfl gQ rfl) ?_) | (refine VR.pure hTb rfl rfl (o_purN (cI) rfl rfl rfl gQ rfl) ?_)) <;> conv => whnf)
  all_goals first
    | (rw [h]; rfl)
    | (have q := ‹(v.k != 0) = true›; rw [q]; rfl)
    | (have q := ‹(v.k != 0) = false›; rw [q]; rfl)
theorem c_l4Goes (b : VBase) (nm : ByteArray) (hm : b.md) (hL : ∀ l ∈ b.links, LkS b l) (k : Nat) (hk : k < (tabOf b nm).rows.length) (K : List VRef) (hl : K.length ≤ maxLen) :
    CallsV Tryz.prog 165 [.agg (encVBase b), strS nm, iS k, vrefsI K] [] (pureQ (bS (goesB b nm (tabOf b nm).rows[k] K))) := by
  have hll := hm.ll
  unfold goesB
  obtain ⟨f, hf⟩ : ∃ f : VLink → Bool, f = fun l => l.src.toList == nm.toList && (l.how == 2 && ((lkV b l (tabOf b nm).rows[k]).k != 0 && inL K ⟨l.dst, (lkV b l (tabOf b nm).rows[k]).n⟩)) := ⟨_, rfl⟩
  have hfs : ∀ l, f l = (l.src.toList == nm.toList && (l.how == 2 && ((lkV b l (tabOf b nm).rows[k]).k != 0 && inL K ⟨l.dst, (lkV b l (tabOf b nm).rows[k]).n⟩))) := by intro l; rw [hf]
  rw [← hf]
  clear hf
  refine pure_walk hTb Tryz.func165 rfl rfl Tryz.ntmps165 (by simp) ?_
  (conv => whnf)
  refine VL.loopI hTb (fun i => i ≤ b.links.length ∧ b.links.any f = (b.links.drop i).any f) (fun i => ⟨[(4, .one (.ptr 104 0)), (1, strS nm), (2, iS k), (3, vrefsI K), (9, iS i)], [(104, .box (encVBase b))], []⟩) (fun i => b.links.length - i) 0 ⟨Nat.zero_le _, rfl⟩
    (wk_to [(104, 104)] rfl rfl rfl ⟨rfl, rfl, rfl, rfl, rfl, trivial⟩ ⟨rfl, ⟨_, rfl, rfl⟩, trivial⟩) (fun i hi => ?_)
  obtain ⟨hi, hd⟩ := hi
  (conv => whnf)
  refine And.intro (fun h2 => ?_) (fun h2 => ?_)
  · have hlt : i < b.links.length := by simpa using h2
    have hrow := rowVLink hlt
    have hs : (b.links.drop i).any f = (f b.links[i] || (b.links.drop (i + 1)).any f) := by rw [List.drop_eq_getElem_cons hlt, List.any_cons]
    rw [hfs] at hs
    have hLk := hL _ (List.getElem_mem hlt)
    generalize b.links[i] = li at hrow hs hLk
    by_cases hsn : li.src.toList = nm.toList
    · have e := tl_inj hsn
      subst e
      have cN := c_l4Names b li hLk k hk K hl
      generalize ((lkV b li (tabOf b li.src).rows[k]).k != 0 && inL K ⟨li.dst, (lkV b li (tabOf b li.src).rows[k]).n⟩) = bn at cN hs
      rw [beq_self_eq_true, Bool.true_and] at hs
      cases bn <;> (conv => whnf); repeat' ((first | (refine absurd h ?_; (simp; done)) | (refine And.intro ?_ ?_ <;> ((try intro h) <;> (try simp only [gS] at h) <;> first | exact absurd h gF | exact absurd h.symm gF | conv => whnf)) | (refine VR.op hTb rfl rfl (o_index_imm hTb rfl rfl rfl rfl rfl rfl rfl (by omega) (hrow)) rfl ?_) | (refine VR.pure hTb rfl rfl (o_purN (cN) rfl rfl rfl gQ rfl) ?_)) <;> conv => whnf)
      all_goals first
        | (have q := ‹(li.how == 2) = true›; rw [hd, hs, q]; rfl)
        | (refine ⟨i + 1, ⟨hlt, ?_⟩, by omega, wk_to [(104, 104)] rfl rfl rfl ⟨rfl, rfl, rfl, rfl, gW (by unfold maxLen; omega), trivial⟩ ⟨rfl, ⟨_, rfl, rfl⟩, trivial⟩⟩
           rw [hd, hs]
           first
             | (rw [Bool.and_false, Bool.false_or]; done)
             | (have q := ‹(li.how == 2) = false›; rw [q]; rfl))
    · have e : (li.src.toList == nm.toList) = false := beq_eq_false_iff_ne.2 hsn
      rw [e, Bool.false_and, Bool.false_or] at hs
      (conv => whnf); repeat' ((first | (rw [e] at h; exact Bool.noConfusion h) | (refine And.intro ?_ ?_ <;> ((try intro h) <;> (try simp only [gS] at h) <;> first | exact absurd h gF | exact absurd h.symm gF | conv => whnf)) | (refine VR.op hTb rfl rfl (o_index_imm hTb rfl rfl rfl rfl rfl rfl rfl (by omega) (hrow)) rfl ?_)) <;> conv => whnf)
      all_goals first
        | (exact ⟨i + 1, ⟨hlt, by rw [hd, hs]⟩, by omega, wk_to [(104, 104)] rfl rfl rfl ⟨rfl, rfl, rfl, rfl, gW (by unfold maxLen; omega), trivial⟩ ⟨rfl, ⟨_, rfl, rfl⟩, trivial⟩⟩)
  · (conv => whnf)
    rw [hd, List.drop_of_length_le (by simp at h2; omega)]; rfl
theorem c_l4Has (b : VBase) (s : VRef) (hm : b.md) : CallsV Tryz.prog 102 [.agg (encVBase b), strS s.name, iS s.id] [] (pureQ (bS (hasB b s))) := by
  have hl : b.tabs.length ≤ maxLen := lmax (by have := hm.tl; omega)
  have c1 := c_l4At b s.name hl
  have c2 := c_l3At (tabOf b s.name) s.id (lmax (by have := (tabOf_md hm s.name).r; omega))
  have hR := fun (h : ¬ tabIx b s.name < 0) => rowTabZ h
  unfold hasB
  generalize tAt (tabOf b s.name) s.id = z at c2 ⊢
  generalize tabOf b s.name = t at c2 hR
  generalize tabIx b s.name = i at c1 hR ⊢
  refine pure_walk hTb Tryz.func102 rfl rfl Tryz.ntmps102 (by simp) ?_
  by_cases hi : i < 0
  · rw [decide_eq_true hi]
    (conv => whnf); repeat' ((first | (exact absurd h (by omega)) | (refine And.intro ?_ ?_ <;> ((try intro h) <;> (try simp only [gS] at h) <;> first | exact absurd h gF | exact absurd h.symm gF | conv => whnf)) | (refine VR.pure hTb rfl rfl (o_purN (c1) rfl rfl rfl gQ rfl) ?_)) <;> conv => whnf)
    all_goals rfl
  obtain ⟨n', hR⟩ := hR hi
  rw [decide_eq_false hi]
  have e : (!decide (z < 0)) = decide (0 ≤ z) := by rw [Bool.eq_iff_iff]; simp
  rw [e]
  (conv => whnf); repeat' ((first | (exact absurd h (by omega)) | (refine And.intro ?_ ?_ <;> ((try intro h) <;> (try simp only [gS] at h) <;> first | exact absurd h gF | exact absurd h.symm gF | conv => whnf)) | (refine VR.pure hTb rfl rfl (o_purN (c1) rfl rfl rfl gQ rfl) ?_) | (refine VR.op hTb rfl rfl (o_index_imm hTb rfl rfl rfl rfl rfl rfl rfl (by omega) (hR)) rfl ?_) | (refine VR.pure hTb rfl rfl (o_purN (c2) rfl rfl rfl gQ rfl) ?_)) <;> conv => whnf)
  all_goals rfl
def spF (b : VBase) (K : List VRef) (xs : List (VTab × VRow)) : List VRef := xs.foldl (stpF (spC b) spK) K
theorem spP_pre (b : VBase) (K : List VRef) : spP b K = spF b K (preT b b.tabs.length) := by
  unfold spP spF preT flatS; rw [List.take_length]
theorem spF_snoc (b : VBase) (K : List VRef) (xs : List (VTab × VRow)) (x : VTab × VRow) : spF b K (xs ++ [x]) = stpF (spC b) spK (spF b K xs) x := by
  unfold spF; rw [List.foldl_append]; rfl
theorem spF_ge (b : VBase) (K : List VRef) (xs : List (VTab × VRow)) : K.length ≤ (spF b K xs).length := foldF_len _ _
theorem spF_le (b : VBase) : ∀ (xs : List (VTab × VRow)) (K : List VRef), (spF b K xs).length ≤ K.length + xs.length
  | [], K => by simp [spF]
  | x :: xs, K => by
    have ih := spF_le b xs (stpF (spC b) spK K x)
    have h1 := stpF_len (cond := spC b) (key := spK) K x
    have e : spF b K (x :: xs) = spF b (stpF (spC b) spK K x) xs := rfl
    rw [e, List.length_cons]
    rcases h1 with h1 | h1
    · rw [h1] at ih ⊢; omega
    · omega
def LkSs (b : VBase) : Prop := ∀ l ∈ b.links, LkS b l
theorem pIx_congr {nm : ByteArray} : ∀ (l l' : List VTab) (i : Nat), l.map VTab.name = l'.map VTab.name → pIx (isTab nm) l i = pIx (isTab nm) l' i
  | [], [], _, _ => rfl
  | x :: l, y :: l', i, h => by
    simp only [List.map_cons, List.cons.injEq] at h
    rw [pIx, pIx, pIx_congr l l' (i + 1) h.2]
    unfold isTab
    rw [h.1]
  | [], _ :: _, _, h => by simp at h
  | _ :: _, [], _, h => by simp at h
theorem tabIx_congr {b b' : VBase} (h : b'.tabs.map VTab.name = b.tabs.map VTab.name) (nm : ByteArray) : tabIx b' nm = tabIx b nm := pIx_congr _ _ 0 h
theorem pIx_snoc {α : Type} {p : α → Bool} {x : α} : ∀ (l : List α) (i : Nat), pIx p (l ++ [x]) i = if pIx p l i < 0 then (if p x then ((i + l.length : Nat) : Int) else -1) else pIx p l i
  | [], i => by
    simp [pIx]
  | y :: l, i => by
    rw [List.cons_append, pIx, pIx]
    split
    · rw [if_neg (by omega)]
    · rw [pIx_snoc l (i + 1), List.length_cons]
      have : ((i + 1 + l.length : Nat) : Int) = ((i + (l.length + 1) : Nat) : Int) := by omega
      rw [this]
structure VLink.sml (l : VLink) : Prop where
  s : l.src.size ≤ 8
  c : l.col.size ≤ 8
  d : l.dst.size ≤ 8
structure VBase.dr (b : VBase) : Prop where
  tl : b.tabs.length ≤ 3
  tm : ∀ t ∈ b.tabs, t.name.size ≤ 8 ∧ t.table.dr ∧ shapeOk (tL t.table) = true
  tn : ∀ i (h : i < b.tabs.length), tabIx b b.tabs[i].name = (i : Int)
  ll : b.links.length ≤ 4
  lm : ∀ l ∈ b.links, l.sml ∧ ¬ tabIx b l.src < 0 ∧ ¬ tabIx b l.dst < 0 ∧ 0 ≤ lkAt b l
theorem VBase.dr.md {b : VBase} (h : b.dr) : b.md :=
  ⟨by have := h.tl; omega, fun t ht => ⟨by have := (h.tm t ht).1; unfold maxLen; omega, (h.tm t ht).2.1.md⟩, by have := h.ll; omega, fun l hl => by
    have h1 := (h.lm l hl).1
    have h2 := h1.s
    have h3 := h1.c
    have h4 := h1.d
    exact ⟨by unfold maxLen; omega, by unfold maxLen; omega, by unfold maxLen; omega⟩⟩
theorem VBase.dr.of {b : VBase} (h : b.dr) {nm : ByteArray} (hn : ¬ tabIx b nm < 0) : (tabOf b nm).dr ∧ shapeOk (tL (tabOf b nm)) = true := by
  obtain ⟨t, ht, e⟩ := tabOf_mem hn
  rw [e]; exact (h.tm t ht).2
theorem VBase.dr.lk {b : VBase} (h : b.dr) : LkSs b := fun l hl => by
  obtain ⟨_, h1, h2, h3⟩ := h.lm l hl
  have hd := (h.of h1).1
  refine ⟨h.md, h1, h2, h3, fun i hi => ⟨(hd.rw _ (List.getElem_mem hi)).1, ?_⟩⟩
  have e1 := hd.now (List.getElem_mem hi)
  have e2 := (nameAt_bd (tL (tabOf b l.src)) l.col).1
  unfold lkAt; omega
theorem dr_base0 : VBase.dr ⟨[], []⟩ := ⟨by decide, fun t ht => (by cases ht), fun i hi => absurd hi (by simp), by decide, fun t ht => (by cases ht)⟩
theorem VBase.dr.tabName {b : VBase} (h : b.dr) {t : VTab} (ht : t ∈ b.tabs) : tabOf b t.name = t.table ∧ ¬ tabIx b t.name < 0 := by
  obtain ⟨i, hi, rfl⟩ := List.mem_iff_getElem.1 ht
  have h2 := h.tn i hi
  have e : b.tabs.getD i zTb = b.tabs[i] := by simp [hi]
  exact ⟨by unfold tabOf; rw [h2, Int.toNat_natCast, e], by omega⟩
theorem tL_of {t u : VTable} (h1 : t.first = u.first) (h2 : t.changes = u.changes) : tL t = tL u := by unfold tL; rw [h1, h2]
theorem names_set {l : List VTab} {k : Nat} (hk : k < l.length) (t : VTable) : (l.set k ⟨l[k].name, t⟩).map VTab.name = l.map VTab.name := by
  refine List.ext_getElem (by simp) fun i h1 h2 => ?_
  simp only [List.length_map, List.length_set] at h1 h2
  simp only [List.getElem_map, List.getElem_set]
  split
  · rename_i h; subst h; rfl
  · rfl
theorem tabOf_at {b : VBase} {nm : ByteArray} {k : Nat} (hk : k < b.tabs.length) (h : tabIx b nm = (k : Int)) : tabOf b nm = b.tabs[k].table := by
  unfold tabOf; rw [h, Int.toNat_natCast]; simp [hk]
theorem tabOf_set {b : VBase} {k : Nat} (hk : k < b.tabs.length) (t : VTable) (L : List VLink) {nm : ByteArray} (hn : ¬ tabIx b nm < 0) :
    tabOf ⟨b.tabs.set k ⟨b.tabs[k].name, t⟩, L⟩ nm = if tabIx b nm = (k : Int) then t else tabOf b nm := by
  have e : tabIx ⟨b.tabs.set k ⟨b.tabs[k].name, t⟩, L⟩ nm = tabIx b nm := tabIx_congr (names_set hk t) nm
  have hl := (tabIx_mem hn).1
  unfold tabOf
  rw [e]
  split
  · rename_i h
    rw [h, Int.toNat_natCast]; simp [hk]
  · rename_i h
    rw [List.getD_eq_getElem?_getD, List.getD_eq_getElem?_getD, List.getElem?_set_ne (by omega)]
theorem VBase.dr.setG {b : VBase} (h : b.dr) {k : Nat} (hk : k < b.tabs.length) {t : VTable} (ht : t.dr) (hL : shapeOk (tL t) = true) {M : List VLink} (hM : M.length ≤ 4)
    (hl : ∀ l ∈ M, l.sml ∧ ¬ tabIx b l.src < 0 ∧ ¬ tabIx b l.dst < 0 ∧ 0 ≤ nameAt (tL (if tabIx b l.src = (k : Int) then t else tabOf b l.src)) l.col) : VBase.dr ⟨b.tabs.set k ⟨b.tabs[k].name, t⟩, M⟩ := by
  have e : ∀ nm, tabIx ⟨b.tabs.set k ⟨b.tabs[k].name, t⟩, M⟩ nm = tabIx b nm := fun nm => tabIx_congr (names_set hk t) nm
  refine ⟨by simp only [List.length_set]; exact h.tl, fun x hx => ?_, fun i hi => ?_, hM, fun l hx => ?_⟩
  · rcases List.mem_or_eq_of_mem_set hx with hx | rfl
    · exact h.tm x hx
    · exact ⟨(h.tm _ (List.getElem_mem hk)).1, ht, hL⟩
  · simp only [List.length_set] at hi
    rw [e, ← h.tn i hi]
    congr 1
    simp only [List.getElem_set]
    split
    · rename_i q; subst q; rfl
    · rfl
  · obtain ⟨h1, h2, h3, h4⟩ := hl l hx
    refine ⟨h1, by rw [e]; exact h2, by rw [e]; exact h3, ?_⟩
    unfold lkAt
    rw [tabOf_set hk t M h2]
    exact h4
theorem VBase.dr.set {b : VBase} (h : b.dr) {k : Nat} (hk : k < b.tabs.length) {t : VTable} (ht : t.dr) (hL : tL t = tL b.tabs[k].table) : VBase.dr ⟨b.tabs.set k ⟨b.tabs[k].name, t⟩, b.links⟩ := by
  refine h.setG hk ht (by rw [hL]; exact (h.tm _ (List.getElem_mem hk)).2.2) h.ll fun l hl => ?_
  obtain ⟨h1, h2, h3, h4⟩ := h.lm l hl
  refine ⟨h1, h2, h3, ?_⟩
  unfold lkAt at h4
  split
  · rename_i q
    rw [hL, ← tabOf_at hk q]; exact h4
  · exact h4
theorem tabIx_app {b : VBase} {x : VTab} {L : List VLink} {nm : ByteArray} (h : ¬ tabIx b nm < 0) : tabIx ⟨b.tabs ++ [x], L⟩ nm = tabIx b nm := by
  unfold tabIx at h ⊢; rw [pIx_snoc, if_neg h]
theorem tabOf_app {b : VBase} {x : VTab} {L : List VLink} {nm : ByteArray} (h : ¬ tabIx b nm < 0) : tabOf ⟨b.tabs ++ [x], L⟩ nm = tabOf b nm := by
  have hl := (tabIx_mem h).1
  unfold tabOf
  rw [tabIx_app h, List.getD_eq_getElem?_getD, List.getD_eq_getElem?_getD, List.getElem?_append_left hl]
theorem VBase.dr.appT {b : VBase} (h : b.dr) {x : VTab} (h3 : b.tabs.length < 3) (hs : x.name.size ≤ 8) (hd : x.table.dr) (hL : shapeOk (tL x.table) = true) (hn : tabIx b x.name < 0) : VBase.dr ⟨b.tabs ++ [x], b.links⟩ := by
  refine ⟨by simp; omega, fun y hy => ?_, fun i hi => ?_, h.ll, fun l hx => ?_⟩
  · rcases List.mem_append.1 hy with hy | hy
    · exact h.tm y hy
    · simp at hy; subst hy; exact ⟨hs, hd, hL⟩
  · simp only [List.length_append, List.length_cons, List.length_nil] at hi
    simp only
    by_cases h5 : i < b.tabs.length
    · rw [List.getElem_append_left h5, tabIx_app (by rw [h.tn i h5]; omega)]
      exact h.tn i h5
    · have e : i = b.tabs.length := by omega
      subst e
      rw [List.getElem_append_right (Nat.le_refl _)]
      simp only [Nat.sub_self, List.getElem_cons_zero]
      unfold tabIx at hn ⊢
      rw [pIx_snoc, if_pos hn, if_pos (by unfold isTab; simp)]
      omega
  · obtain ⟨h1, h2, h4, h5⟩ := h.lm l hx
    refine ⟨h1, by rw [tabIx_app h2]; exact h2, by rw [tabIx_app h4]; exact h4, ?_⟩
    unfold lkAt at h5 ⊢
    rw [tabOf_app h2]; exact h5
theorem VBase.dr.appL {b : VBase} (h : b.dr) {l : VLink} (h4 : b.links.length < 4) (hs : l.sml) (h1 : ¬ tabIx b l.src < 0) (h2 : ¬ tabIx b l.dst < 0) (h3 : 0 ≤ lkAt b l) : VBase.dr ⟨b.tabs, b.links ++ [l]⟩ := by
  refine ⟨h.tl, h.tm, h.tn, by simp; omega, fun y hy => ?_⟩
  rcases List.mem_append.1 hy with hy | hy
  · exact h.lm y hy
  · simp at hy; subst hy; exact ⟨hs, h1, h2, h3⟩
theorem nameAt_ge {l : List Col} {nm : ByteArray} {c : Col} (hc : c ∈ l) (e : c.name = nm) : 0 ≤ nameAt l nm := by
  obtain ⟨i, hi, rfl⟩ := List.mem_iff_getElem.1 hc
  rcases Int.lt_or_le (nameAt l nm) 0 with h | h
  · exact absurd e (nameAt_neg h i hi)
  · exact h
theorem nm_done {s x : List Col} {c : Change} (h : Done s c x) {nm : ByteArray} (hn : 0 ≤ nameAt s nm) (hk : ¬ (c.kind = 2 ∧ nm = c.name)) : 0 ≤ nameAt x (if c.kind = 3 ∧ nm = c.name then c.new else nm) := by
  obtain ⟨j, hj, _, e⟩ := nameAt_some (l := s) (nm := nm) (by omega)
  rcases h.w with ⟨k1, _, rfl⟩ | ⟨i, hi, e1, _, h5⟩
  · rw [if_neg (by omega)]
    exact nameAt_ge (List.mem_append_left _ (List.getElem_mem hj)) e
  rcases h5 with ⟨k2, rfl⟩ | ⟨k3, rfl⟩ | ⟨k4, _, rfl⟩
  · rw [if_neg (by omega)]
    have hne : j ≠ i := by rintro rfl; exact hk ⟨k2, by rw [← e, e1]⟩
    exact nameAt_ge (List.mem_eraseIdx_iff_getElem.2 ⟨j, hj, hne, rfl⟩) e
  · split
    · exact nameAt_ge (List.mem_set hi _) rfl
    · rename_i q
      have hne : i ≠ j := by rintro rfl; exact q ⟨k3, by rw [← e, e1]⟩
      have hm : s[j] ∈ s.set i (ccName s[i] c.new) := by
        have e9 : (s.set i (ccName s[i] c.new))[j]'(by simpa using hj) = s[j] := List.getElem_set_ne hne _
        rw [← e9]; exact List.getElem_mem _
      exact nameAt_ge hm e
  · rw [if_neg (by omega)]
    by_cases hne : i = j
    · subst hne
      exact nameAt_ge (List.mem_set hi _) e
    · have hm : s[j] ∈ s.set i (ccKind s[i] c.col.kind) := by
        have e9 : (s.set i (ccKind s[i] c.col.kind))[j]'(by simpa using hj) = s[j] := List.getElem_set_ne hne _
        rw [← e9]; exact List.getElem_mem _
      exact nameAt_ge hm e
theorem tL_chg {t : VTable} {c : Change} (hk : (sdo (tL t) c).2 = true) : tL ⟨t.first, t.changes ++ [c], t.rows, t.next⟩ = (sdo (tL t) c).1 := by
  obtain ⟨hs, hd⟩ := sdo_sh hk
  have hsh := sh_of_L hs
  obtain ⟨ho, L, hg⟩ := shAll_go hsh
  have hL : tL t = L := by unfold tL; rw [shAll_yes ho hg]
  have hg2 : chGo t.first (t.changes ++ [c]) = some (shDo L c).1 := by
    rw [chGo_app, hg]
    rw [hL] at hd
    show chGo L [c] = _
    rw [chGo, if_pos hd]; rfl
  have e : tL ⟨t.first, t.changes ++ [c], t.rows, t.next⟩ = (shDo L c).1 := by unfold tL; simp only; rw [shAll_yes ho hg2]
  rw [e, sdo_sd hs, hL]
def renL (nm : ByteArray) (c : Change) (l : VLink) : VLink := if (c.kind == 3 && isLk nm c.name l) = true then ⟨l.src, c.new, l.dst, l.how⟩ else l
theorem isLk_iff {s c : ByteArray} {l : VLink} : isLk s c l = true ↔ l.src = s ∧ l.col = c := by
  unfold isLk; rw [Bool.and_eq_true, tl_beq, tl_beq]
theorem renL_sd (nm : ByteArray) (c : Change) (l : VLink) : (renL nm c l).src = l.src ∧ (renL nm c l).dst = l.dst := by
  unfold renL; split <;> exact ⟨rfl, rfl⟩
theorem VBase.dr.chg {b : VBase} (h : b.dr) {k : Nat} (hk : k < b.tabs.length) {c : Change} (hc : c.new.size ≤ 8) {t : VTable} (ht : t.dr)
    (hT : t = ⟨b.tabs[k].table.first, b.tabs[k].table.changes ++ [c], b.tabs[k].table.rows, b.tabs[k].table.next⟩) (hs : (sdo (tL b.tabs[k].table) c).2 = true)
    (hu : c.kind = 2 → b.links.any (isLk b.tabs[k].name c.name) = false) : VBase.dr ⟨b.tabs.set k ⟨b.tabs[k].name, t⟩, b.links.map (renL b.tabs[k].name c)⟩ := by
  obtain ⟨⟨x, ok⟩, hx⟩ : ∃ y, sdo (tL b.tabs[k].table) c = y := ⟨_, rfl⟩
  rw [hx] at hs
  simp only at hs
  subst hs
  have hD := sdo_done hx
  have hL : tL t = x := by rw [hT, tL_chg (by rw [hx]), hx]
  refine h.setG hk ht (by rw [hL]; exact hD.hx) (by rw [List.length_map]; exact h.ll) fun l hl => ?_
  obtain ⟨l0, hl0, rfl⟩ := List.mem_map.1 hl
  obtain ⟨h1, h2, h3, h4⟩ := h.lm l0 hl0
  obtain ⟨e1, e2⟩ := renL_sd b.tabs[k].name c l0
  rw [e1, e2]
  refine ⟨⟨by rw [e1]; exact h1.s, ?_, by rw [e2]; exact h1.d⟩, h2, h3, ?_⟩
  · unfold renL; split
    · exact hc
    · exact h1.c
  unfold lkAt at h4
  by_cases q : tabIx b l0.src = (k : Int)
  · rw [if_pos q, hL]
    rw [tabOf_at hk q] at h4
    have hsrc : l0.src = b.tabs[k].name := by
      obtain ⟨hi, _, _, g⟩ := tabIx_mem h2
      have e9 : (tabIx b l0.src).toNat = k := by omega
      simp only [e9] at g
      exact (tl_inj g).symm
    have := nm_done hD h4 (fun ⟨k2, e5⟩ => by
      have h9 := hu k2
      rw [List.any_eq_false] at h9
      exact h9 l0 hl0 (isLk_iff.2 ⟨hsrc, e5⟩))
    have e6 : (renL b.tabs[k].name c l0).col = if c.kind = 3 ∧ l0.col = c.name then c.new else l0.col := by
      unfold renL
      by_cases k3 : c.kind = 3 ∧ l0.col = c.name
      · rw [if_pos (by rw [Bool.and_eq_true, beq_iff_eq]; exact ⟨k3.1, isLk_iff.2 ⟨hsrc, k3.2⟩⟩), if_pos k3]
      · rw [if_neg (by rw [Bool.and_eq_true, beq_iff_eq]; exact fun g => k3 ⟨g.1, (isLk_iff.1 g.2).2⟩), if_neg k3]
    rw [e6]; exact this
  · rw [if_neg q]
    have e6 : renL b.tabs[k].name c l0 = l0 := by
      unfold renL
      rw [if_neg]
      intro g
      rw [Bool.and_eq_true] at g
      have := (isLk_iff.1 g.2).1
      rw [this] at q
      exact q (h.tn k hk)
    rw [e6]; exact h4
theorem flatS_lenW {b : VBase} (h3 : b.tabs.length ≤ 3) (h8 : ∀ t ∈ b.tabs, t.table.rows.length ≤ 8) : (flatS b).length ≤ 24 := by
  have : ∀ (l : List VTab), (∀ t ∈ l, t.table.rows.length ≤ 8) → (l.flatMap fun t => t.table.rows.map fun r => (t, r)).length ≤ 8 * l.length := by
    intro l
    induction l with
    | nil => intro _; simp
    | cons t l ih =>
      intro h
      have h1 := h t (by simp)
      have h2 := ih fun x hx => h x (by simp [hx])
      rw [List.flatMap_cons, List.length_append, List.length_map, List.length_cons]; omega
  have := this b.tabs h8
  unfold flatS; omega
theorem preT_lenW {b : VBase} (h8 : ∀ t ∈ b.tabs, t.table.rows.length ≤ 8) : ∀ i, i ≤ b.tabs.length → (preT b i).length ≤ 8 * i
  | 0, _ => by simp [preT]
  | i + 1, h => by
    have h1 := preT_lenW h8 i (by omega)
    have h2 := h8 _ (List.getElem_mem (show i < b.tabs.length by omega))
    rw [preT_step (by omega), List.length_append, List.length_map]; omega
theorem VBase.dr.rows8 {b : VBase} (h : b.dr) : ∀ t ∈ b.tabs, t.table.rows.length ≤ 8 := fun t ht => (h.tm t ht).2.1.rl
def inB (b : VBase) (R : List VRef) : Prop := R.length ≤ 24 ∧ ∀ r ∈ R, ¬ tabIx b r.name < 0
theorem goL_inB {b : VBase} (h : b.dr) (K : List VRef) : inB b (goL b K) := by
  refine ⟨?_, fun r hr => ?_⟩
  · unfold goL
    rw [List.length_map]
    exact Nat.le_trans (List.length_filter_le _ _) (flatS_lenW h.tl h.rows8)
  · unfold goL at hr
    obtain ⟨x, hx, rfl⟩ := List.mem_map.1 hr
    exact (h.tabName (mem_flatS.1 (List.mem_filter.1 hx).1).1).2
theorem tab_at {b : VBase} {nm : ByteArray} {m : Nat} (h : tabIx b nm = (m : Int)) : ∃ hm : m < b.tabs.length, b.tabs[m] = ⟨nm, tabOf b nm⟩ := by
  obtain ⟨hi, _, h2, h3⟩ := tabIx_mem (by omega : ¬ tabIx b nm < 0)
  have e : (tabIx b nm).toNat = m := by omega
  simp only [e] at hi h2 h3
  refine ⟨hi, ?_⟩
  have h4 := tl_inj h3
  rcases hg : b.tabs[m] with ⟨n, t⟩
  rw [hg] at h2 h4
  simp only at h2 h4
  rw [h4, h2]
abbrev tdL (t : VTable) (o : Nat) : List Leaf := [.imm 7 (t.first.map encCol), .imm 10 (t.changes.map encChange), .own o 0 t.rows.length, .g (.int .i64 t.next)]
abbrev tdO (t : VTable) : Ob := .arr 35 3 (t.rows.map encVRow)
theorem brwTD (t : VTable) : Slot.agg [.imm 7 (t.first.map encCol), .imm 10 (t.changes.map encChange), .imm 3 (((t.rows.map encVRow).drop 0).take t.rows.length), .g (.int .i64 t.next)] = .agg (encVTable t) := by
  rw [List.drop_zero, List.take_of_length_le (by simp)]; rfl
def smSets (l : List VSet) : Prop := l.length ≤ 100 ∧ ∀ x ∈ l, x.name.size ≤ 8 ∧ x.val.md
theorem smSets.ok {l : List VSet} (h : smSets l) : ∀ x ∈ l, x.ok := fun x hx => ⟨by have := (h.2 x hx).1; unfold maxLen; omega, by have : x.val.t.size ≤ 1048576 := (h.2 x hx).2; show x.val.t.size ≤ maxLen; unfold maxLen; omega⟩
theorem c_l3Fill (s : List Col) (row : List Val) (sets : List VSet) (hs : s.length ≤ row.length) (hr : row.length ≤ 1000000) (hm : mdVals row) (hS : smSets sets) : CallsV Tryz.prog 186 [colsI s, valsI row, vsetsI sets] []
    (relQ (fun y : List Val × Bool => y.1.length = row.length ∧ mdVals y.1) (fun y => .tup [(false, [.own 0 0 y.1.length]), (false, [.g (.bool y.2)])]) (fun _ => []) (fun y => [.arr 37 3 (y.1.map encVal)])) := by
  have hsl := hS.1
  have cA := fun n => c_l2At s n (lmax (by omega))
  refine funF_walk hTb Tryz.func186 rfl rfl Tryz.ntmps186 (by simp) (by simp) ?_
  (conv => whnf); repeat' ((first | (refine VR.opk hTb rfl rfl (o_app0 (f := encVal) (m := row) (q := 114) hTb rfl rfl rfl rfl rfl rfl rfl rfl rfl rfl (by omega) (by show _ * 32 ≤ _; omega) (by unfold maxLen; omega)) ?_)) <;> conv => whnf)
  refine VL.loopI hTb (α := Nat × List Val) (fun x => x.1 ≤ sets.length ∧ x.2.length = row.length ∧ mdVals x.2) (fun x => ⟨[(0, colsI s), (2, vsetsI sets), (8, .one (.own 114 0 x.2.length)), (9, iS x.1)], [(114, .arr 37 3 (x.2.map encVal))], []⟩) (fun x => sets.length - x.1) (0, row) ⟨Nat.zero_le _, rfl, hm⟩
    (wk_to [(114, 114)] rfl rfl rfl ⟨rfl, rfl, rfl, rfl, trivial⟩ ⟨rfl, ⟨_, rfl, rfl⟩, trivial⟩) (fun x hx => ?_)
  obtain ⟨i, M⟩ := x
  obtain ⟨hi, hML, hMm⟩ := hx
  simp only at hi hML hMm
  (conv => whnf)
  refine And.intro (fun h2 => ?_) (fun h2 => ?_)
  · have hlt : i < sets.length := by simpa using h2
    have hrow := rowVSet hlt
    have hx := hS.2 _ (List.getElem_mem hlt)
    have hxo := hS.ok _ (List.getElem_mem hlt)
    have cA := cA sets[i].name
    have cV := c_specValOk sets[i].val hxo.2
    have hN := nameAt_bd s sets[i].name
    have hset : ∀ j, j < i → ∃ xj, (sets.map encVSet)[((j : Nat) : Int).toNat]? = some (encVSet xj) := fun j hj => ⟨_, rowVSet (show j < sets.length by omega)⟩
    generalize nameAt s sets[i].name = z at cA hN
    generalize sets[i] = xi at hrow hx hxo cA cV
    generalize valOk xi.val = bv at cV
    have hcr := fun h0 => rowCZ (s := s) (z := z) h0 hN.1
    generalize s.getD z.toNat (kCol 0) = cc at hcr
    by_cases hz : z < 0
    · (conv => whnf); repeat' ((first | (exact absurd h (by omega)) | (refine And.intro ?_ ?_ <;> ((try intro h) <;> (try simp only [gS] at h) <;> first | exact absurd h gF | exact absurd h.symm gF | conv => whnf)) | (refine VL.drawS hTb hMix (by kernel_rfl) (by kernel_rfl) (by kernel_rfl) ?_) | (refine Need.mk ?_; kernel_rfl) | (refine VR.op hTb rfl rfl (o_index_imm hTb rfl rfl rfl rfl rfl rfl rfl (by omega) (hrow)) rfl ?_) | (refine VR.pure hTb rfl rfl (o_purN (cA) rfl rfl rfl gQ rfl) ?_)) <;> conv => whnf)
      all_goals first
        | exact endR [114] (M, false) rfl rfl rfl rfl rfl (LeS.refl _) rfl rfl ⟨hML, hMm⟩
    have hcr := hcr (by omega)
    have hMz : M[0 + z.toNat]? = some (M[z.toNat]'(by omega)) := by rw [Nat.zero_add]; exact List.getElem?_eq_getElem _
    generalize M[z.toNat]'(by omega) = mz at hMz
    cases bv <;> (conv => whnf); repeat' ((first | (exact absurd h (by omega)) | (refine And.intro ?_ ?_ <;> ((try intro h) <;> (try simp only [gS] at h) <;> first | exact absurd h gF | exact absurd h.symm gF | conv => whnf)) | (refine VL.drawS hTb hMix (by kernel_rfl) (by kernel_rfl) (by kernel_rfl) ?_) | (refine Need.mk ?_; kernel_rfl) | (refine VR.op hTb rfl rfl (o_index_imm hTb rfl rfl rfl rfl rfl rfl rfl (by omega) (hrow)) rfl ?_) | (refine DT.op hTb rfl (o_index_imm hTb rfl rfl rfl rfl rfl rfl rfl (by omega) (hrow)) rfl ?_) | (refine VR.pure hTb rfl rfl (o_purN (cA) rfl rfl rfl gQ rfl) ?_) | (refine DT.pure hTb rfl (o_purN (cV) rfl rfl rfl gQ rfl) ?_) | (refine DT.op hTb rfl (o_index_imm hTb rfl rfl rfl rfl rfl rfl rfl (by omega) (hcr)) rfl ?_)) <;> conv => whnf)
    all_goals first
      | exact endR [114] (M, false) rfl rfl rfl rfl rfl (LeS.refl _) rfl rfl ⟨hML, hMm⟩
      | skip
    all_goals
      refine VL.loopI hTb (fun j => j ≤ i) (fun j => ⟨[(0, colsI s), (2, vsetsI sets), (8, .one (.own 114 0 M.length)), (9, iS i), (10, iS z), (11, iS j)], [(114, .arr 37 3 (M.map encVal))], []⟩) (fun j => i - j) 0 (Nat.zero_le _)
        (wk_to [(114, 114)] rfl rfl rfl ⟨rfl, rfl, rfl, rfl, rfl, rfl, trivial⟩ ⟨rfl, ⟨_, rfl, rfl⟩, trivial⟩) (fun j hj => ?_)
      (conv => whnf)
      refine And.intro (fun h3 => ?_) (fun h3 => ?_)
      · have hji : j < i := by have := of_decide_eq_true h3; omega
        obtain ⟨xj, hxj⟩ := hset j hji
        (conv => whnf); repeat' ((first | (refine And.intro ?_ ?_ <;> ((try intro h) <;> (try simp only [gS] at h) <;> first | exact absurd h gF | exact absurd h.symm gF | conv => whnf)) | (refine VL.drawS hTb hMix (by kernel_rfl) (by kernel_rfl) (by kernel_rfl) ?_) | (refine Need.mk ?_; kernel_rfl) | (refine DT.op hTb rfl (o_index_imm hTb rfl rfl rfl rfl rfl rfl rfl (by omega) (hxj)) rfl ?_) | (refine DT.op hTb rfl (o_index_imm hTb rfl rfl rfl rfl rfl rfl rfl (by omega) (hrow)) rfl ?_)) <;> conv => whnf)
        all_goals first
          | exact endR [114] (M, false) rfl rfl rfl rfl rfl (LeS.refl _) rfl rfl ⟨hML, hMm⟩
          | exact ⟨j + 1, hji, by omega, wk_to [(114, 114)] rfl rfl rfl ⟨rfl, rfl, rfl, rfl, rfl, gW (by unfold maxLen; omega), trivial⟩ ⟨rfl, ⟨_, rfl, rfl⟩, trivial⟩⟩
      · (conv => whnf); repeat' ((first | (refine And.intro ?_ ?_ <;> ((try intro h) <;> (try simp only [gS] at h) <;> first | exact absurd h gF | exact absurd h.symm gF | conv => whnf)) | (refine VR.op hTb rfl rfl (o_index_imm hTb rfl rfl rfl rfl rfl rfl rfl (by omega) (hrow)) rfl ?_) | (refine Need.mk ?_; exact ⟨rfl, by omega, by omega⟩) | (refine VR.op hTb rfl rfl (o_storeM hTb rfl rfl rfl rfl rfl (hMz) rfl rfl rfl ⟨rfl, by decide⟩ (c' := ⟨_, _, _⟩) rfl) rfl ?_)) <;> conv => whnf)
        all_goals first
          | (refine ⟨(i + 1, M.set (0 + z.toNat) ⟨xi.val.k, xi.val.n, xi.val.t⟩), ⟨hlt, by simp only [List.length_set]; exact hML, fun v hv => ?_⟩, by show sets.length - (i + 1) < sets.length - i; omega, wk_to [(114, 114)] rfl rfl rfl ⟨rfl, rfl, congrArg (fun n => Slot.one (.own 114 0 n)) (by simp), gW (by unfold maxLen; omega), trivial⟩ ⟨rfl, ⟨_, rfl, rfl⟩, trivial⟩⟩
             rcases List.mem_or_eq_of_mem_set hv with hv | hv
             · exact hMm v hv
             · subst hv; exact hx.2)
  · (conv => whnf)
    exact endR [114] (M, true) rfl rfl rfl rfl rfl (LeS.refl _) rfl rfl ⟨hML, hMm⟩
theorem c_l3Defs (s : List Col) (hs : s.length ≤ 1000000) : CallsV Tryz.prog 188 [colsI s] [] (funQ (.one (.own 0 0 s.length)) [] [.arr 37 3 ((s.map Col.d).map encVal)]) := by
  refine funF_walk hTb Tryz.func188 rfl rfl Tryz.ntmps188 (by simp) (by simp) ?_
  (conv => whnf)
  refine VL.loopI hTb (fun i => i ≤ s.length) (fun i => ⟨[(0, colsI s), (3, .one (.own 105 0 ((s.take i).map Col.d).length)), (4, iS i)], [(105, .arr 37 3 (((s.take i).map Col.d).map encVal))], []⟩) (fun i => s.length - i) 0 (Nat.zero_le _)
    (wk_to [(105, 105)] rfl rfl rfl ⟨rfl, rfl, rfl, trivial⟩ ⟨rfl, ⟨_, rfl, rfl⟩, trivial⟩) (fun i hi => ?_)
  (conv => whnf)
  refine And.intro (fun h2 => ?_) (fun h2 => ?_)
  · have hlt : i < s.length := by simpa using h2
    have hrow := rowCol hlt
    have htk : (s.take (i + 1)).map Col.d = (s.take i).map Col.d ++ [s[i].d] := by rw [List.take_succ_eq_append_getElem hlt, List.map_append]; rfl
    have hml : ((s.take i).map Col.d).length ≤ 1000000 := by simp; omega
    generalize (s.take i).map Col.d = M at htk hml ⊢
    generalize s[i] = ci at hrow htk
    (conv => whnf); repeat' ((first | (refine VR.op hTb rfl rfl (o_index_imm hTb rfl rfl rfl rfl rfl rfl rfl (by omega) (hrow)) rfl ?_) | (refine VR.opk hTb rfl rfl (o_app1 (q := 119) (a := ci.d) hTb rfl rfl rfl rfl rfl rfl rfl rfl rfl rfl rfl rfl (by omega) (by show _ * 32 ≤ _; omega) (by unfold maxLen; omega)) ?_)) <;> conv => whnf)
    exact ⟨i + 1, hlt, by omega, wk_to [(119, 105)] rfl rfl rfl ⟨rfl, congrArg (fun n => Slot.one (.own 105 0 n)) (by rw [htk]; simp), gW (by unfold maxLen; omega), trivial⟩ ⟨rfl, ⟨_, rfl, congrArg (fun r : List Val => Ob.arr 37 3 (r.map encVal)) htk.symm⟩, trivial⟩⟩
  · have hie : i = s.length := by simp at h2; omega
    subst hie
    rw [List.take_length]
    (conv => whnf)
    exact endW [105] rfl rfl rfl rfl rfl (LeS.of_eq (congrArg (fun n => Slot.one (.own 0 0 n)) (by simp))) rfl rfl
theorem c_l3Code (t : VTable) (row : VRow) (ht : t.dr) (hv : mdVals row.vals) (hl : row.vals.length = (tL t).length) : CallsV Tryz.prog 187 [.agg (encVTable t), .agg (encVRow row)] []
    (relQ (fun c : Int => (c = 0 ∨ c = 2 ∨ c = 3) ∧ (c = 0 → rowOk (tL t) row.vals = true)) iS (fun _ => []) (fun _ => [])) := by
  have hm := ht.md
  have cS := c_l3Last t hm
  have hLl := ht.lenL
  have cR := c_specRowOk (tL t) row.vals (lmax (by omega)) (tL_md hm).ok (mdv_ok' hv)
  have cT := fun N (h1 : N.length ≤ 3000000) (h2 : ∀ i, i < N.length → (N.getD i []).length = (tL t).length) => c_l3Twice (tL t) N (by omega) h1 h2
  have hrl := ht.rl
  have cN := fun i (h : i < t.rows.length) => (c_l3Now t t.rows[i] hm (ht.rw _ (List.getElem_mem h)).1 (by have := (hm.rm _ (List.getElem_mem h)).1; omega) (hm.rm _ (List.getElem_mem h)).2).pure (pureVals _)
  have hN := fun i (h : i < t.rows.length) => ht.now (List.getElem_mem h)
  generalize rowOk (tL t) row.vals = br at cR ⊢
  generalize tL t = L at cS cR cT hl hLl hN
  obtain ⟨f, hf⟩ : ∃ f, tNow t = f := ⟨_, rfl⟩
  rw [hf] at cN hN
  clear hf ht hm
  obtain ⟨rid, rver, rvals⟩ := row
  simp only at hv hl cR
  refine funF_walk hTb Tryz.func187 rfl rfl Tryz.ntmps187 (by simp) (by simp) ?_
  (conv => whnf); repeat' ((first | (refine VR.pure hTb rfl rfl (o_purF (cS) rfl rfl rfl gQ rfl) ?_)) <;> conv => whnf)
  refine VL.loopI hTb (α := Nat × List (List Val)) (fun x => x.1 ≤ t.rows.length ∧ x.2.length ≤ x.1 + 1 ∧ ∀ v ∈ x.2, v.length = L.length) (fun x => ⟨[(2, .one (.ptr 102 0)), (3, .one (.ptr 103 0)), (5, colsI L), (6, .one (.own 112 0 x.2.length)), (7, iS x.1)], [(102, .box (encVTable t)), (103, .box (encVRow ⟨rid, rver, rvals⟩)), (112, .arr 31 1 (x.2.map encN))], []⟩) (fun x => t.rows.length - x.1) (0, [rvals]) ⟨Nat.zero_le _, by simp, fun v hv => by (simp at hv; subst hv; exact hl)⟩
    (wk_to [(102, 102), (103, 103), (112, 112)] rfl rfl rfl ⟨rfl, rfl, rfl, rfl, rfl, trivial⟩ ⟨rfl, ⟨_, rfl, rfl⟩, rfl, ⟨_, rfl, rfl⟩, rfl, ⟨_, rfl, rfl⟩, trivial⟩) (fun x hx => ?_)
  obtain ⟨i, M⟩ := x
  obtain ⟨hi, hMl, hMv⟩ := hx
  simp only at hi hMl hMv
  (conv => whnf)
  refine And.intro (fun h2 => ?_) (fun h2 => ?_)
  · have hlt : i < t.rows.length := by simpa using h2
    have hrow := rowVRow hlt
    have hc := cN i hlt
    have hn := hN i hlt
    generalize f t.rows[i] = w at hc hn
    generalize t.rows[i] = ri at hrow hc
    (conv => whnf); repeat' ((first | (refine And.intro ?_ ?_ <;> ((try intro h) <;> (try simp only [gS] at h) <;> first | exact absurd h gF | exact absurd h.symm gF | conv => whnf)) | (refine VL.drawS hTb hMix (by kernel_rfl) (by kernel_rfl) (by kernel_rfl) ?_) | (refine Need.mk ?_; kernel_rfl) | (refine DT.op hTb rfl (o_index_imm hTb rfl rfl rfl rfl rfl rfl rfl (by omega) (hrow)) rfl ?_) | (refine DT.pure hTb rfl (o_purF (hc) rfl rfl rfl gQ rfl) ?_) | (refine DT.opk hTb rfl (o_app1 (q := 138) (l := M) (a := w) hTb rfl rfl rfl rfl rfl rfl rfl rfl rfl rfl rfl rfl (by omega) (by show (M.length + 1) * 24 ≤ _; omega) (by unfold maxLen; omega)) ?_)) <;> conv => whnf)
    · exact ⟨(i + 1, M ++ [w]), ⟨hlt, by simp; omega, fun v hv => by (rcases List.mem_append.1 hv with hv | hv; exact hMv v hv; simp at hv; subst hv; exact hn)⟩, by show t.rows.length - (i + 1) < t.rows.length - i; omega, wk_to [(102, 102), (103, 103), (138, 112)] rfl rfl rfl ⟨rfl, rfl, rfl, congrArg (fun n => Slot.one (.own 112 0 n)) (by simp), gW (by unfold maxLen; omega), trivial⟩ ⟨rfl, ⟨_, rfl, rfl⟩, rfl, ⟨_, rfl, rfl⟩, rfl, ⟨_, rfl, rfl⟩, trivial⟩⟩
    · exact ⟨(i + 1, M), ⟨hlt, by simp only; omega, hMv⟩, by show t.rows.length - (i + 1) < t.rows.length - i; omega, wk_to [(102, 102), (103, 103), (112, 112)] rfl rfl rfl ⟨rfl, rfl, rfl, rfl, gW (by unfold maxLen; omega), trivial⟩ ⟨rfl, ⟨_, rfl, rfl⟩, rfl, ⟨_, rfl, rfl⟩, rfl, ⟨_, rfl, rfl⟩, trivial⟩⟩
  · have cT := cT M (by omega) (fun i hi => by
      have e : M.getD i [] = M[i] := by simp [hi]
      rw [e]; exact hMv _ (List.getElem_mem hi))
    generalize onceB L M = bo at cT
    cases br <;> cases bo <;> (conv => whnf); repeat' ((first | (refine And.intro ?_ ?_ <;> ((try intro h) <;> (try simp only [gS] at h) <;> first | exact absurd h gF | exact absurd h.symm gF | conv => whnf)) | (refine VR.pure hTb rfl rfl (o_purN (cR) rfl rfl rfl gQ rfl) ?_) | (refine VR.freeze hTb rfl 112 rfl rfl ?_; conv => whnf; rw [fzN]) | (refine VR.pure hTb rfl rfl (o_purN (cT) rfl rfl rfl gQ rfl) ?_)) <;> conv => whnf)
    all_goals first
      | exact endR [] _ rfl rfl rfl rfl rfl (LeS.refl _) rfl rfl ⟨by simp, by simp⟩
end Go.Vl

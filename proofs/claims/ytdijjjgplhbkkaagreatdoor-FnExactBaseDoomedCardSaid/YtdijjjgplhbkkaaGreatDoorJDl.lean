/- Laws: a row of a table as it is now: the program's is the reference's; what it gives back is its own. Bases: what a right one is; what goes with a row; plain laws. What goes with a row of a base: both ways of finding it find the same. Contracts: bases: places of tables and links; links that fit and hold: the program's. Contracts: bases: links that hold; a right base: the program's. -/
import Derived.Test.YtdijjjgplhbkkaaGreatDoorJDk
set_option linter.unusedSimpArgs false
set_option linter.unusedVariables false

namespace Go.Vl
open Go Go.RowKit Go.Proofs
set_option maxRecDepth 100000
set_option linter.unusedSimpArgs false
set_option linter.unusedVariables false
set_option maxHeartbeats 8000000

def atId (n : Int) : List VRow → Nat → Int
  | [], _ => -1
  | r :: rs, i => if r.id == n then (i : Int) else atId n rs (i + 1)
def tAt (t : VTable) (n : Int) : Int := atId n t.rows 0
theorem atId_step {rs : List VRow} {n : Int} {i : Nat} (h : i < rs.length) : atId n (rs.drop i) i = if rs[i].id == n then (i : Int) else atId n (rs.drop (i + 1)) (i + 1) := by
  rw [List.drop_eq_getElem_cons h, atId]
theorem atId_end {rs : List VRow} {n : Int} {i : Nat} (h : rs.length ≤ i) : atId n (rs.drop i) i = -1 := by
  rw [List.drop_of_length_le h, atId]
theorem rowFacts {t : VTable} (h : tabOk t = true) {i : Nat} (hi : i < t.rows.length) : (0 ≤ t.rows[i].ver ∧ t.rows[i].ver ≤ (t.changes.length : Int)) ∧ t.rows[i].vals.length = (tSh t t.rows[i].ver.toNat).length := by
  have hk := tabOk_iff.1 h
  obtain ⟨_, _, h3, h4, _⟩ := stGo_at hk.st i hi
  unfold rowSt at h4
  rw [Bool.and_eq_true] at h4
  exact ⟨h3, rowOk_len h4.1⟩
def idBox (n : Int) : Ob := .box [.g (.int .i64 n)]
theorem c_rowAt1 (r : VRow) (n : Int) : CallsV Tryz.prog 122 [.agg (encVRow r), .one (.ptr 0 0)] [idBox n] (funQ (bS (r.id == n)) [some (idBox n)] []) := by
  refine fun_walk hTb Tryz.func122 rfl rfl Tryz.ntmps122 (by simp) (by simp) ?_
  (conv => whnf); repeat' (first | (refine And.intro ?_ ?_ <;> ((try intro h) <;> (try simp only [Bool.not_true, Bool.not_false] at h) <;> first | exact absurd h Bool.false_ne_true | exact absurd h.symm Bool.false_ne_true | conv => whnf)) | (refine Need.mk ?_; kernel_rfl) | (refine Need.mk ⟨rfl, ?_⟩; decide))
  exact endG [] rfl rfl rfl rfl rfl ⟨rfl, rfl, rfl⟩
theorem c_indexRow (rs : List VRow) (n : Int) (hl : rs.length ≤ maxLen) : CallsV Tryz.prog 121 [vrowsI rs, .one (.clo 122 [0])] [idBox n] (funQ (iS (atId n rs 0)) [some (idBox n)] []) := by
  refine fun_walk hTb Tryz.func121 rfl rfl Tryz.ntmps121 (by simp) (by simp) ?_
  (conv => whnf); repeat' (first | (refine And.intro ?_ ?_ <;> ((try intro h) <;> (try simp only [Bool.not_true, Bool.not_false] at h) <;> first | exact absurd h Bool.false_ne_true | exact absurd h.symm Bool.false_ne_true | conv => whnf)) | (refine Need.mk ?_; kernel_rfl) | (refine Need.mk ⟨rfl, ?_⟩; decide))
  refine VL.loopI hTb (fun i => i ≤ rs.length ∧ atId n rs 0 = atId n (rs.drop i) i) (fun i => ⟨[(0, vrowsI rs), (1, .one (.clo 122 [0])), (7, iS ((rs.map encVRow).length : Nat)), (8, iS i)], [(0, idBox n)], []⟩) (fun i => rs.length - i) 0 ⟨Nat.zero_le _, rfl⟩
    (wk_to [(0, 0)] rfl rfl rfl ⟨rfl, rfl, rfl, rfl, trivial⟩ ⟨rfl, ⟨_, rfl, rfl⟩, trivial⟩) (fun i hi => ?_)
  obtain ⟨hi, hf⟩ := hi
  (conv => whnf)
  refine And.intro (fun h2 => ?_) (fun h2 => ?_)
  · have hlt : i < rs.length := by simpa using h2
    have hrow := rowVRow hlt
    have hc := c_rowAt1 rs[i] n
    have hst := atId_step (n := n) hlt
    generalize rs[i] = ri at hrow hc hst
    (conv => whnf); repeat' (first
    | (refine And.intro ?_ ?_ <;> ((try intro h) <;> (try simp only [Bool.not_true, Bool.not_false, decide_eq_true_eq, decide_eq_false_iff_not, Int.not_lt, Int.not_le, gt_iff_lt, ge_iff_le] at h) <;> first | exact absurd h Bool.false_ne_true | exact absurd h.symm Bool.false_ne_true | conv => whnf))
    | (refine VL.drawS hTb hMix (by kernel_rfl) (by kernel_rfl) (by kernel_rfl) ?_; conv => whnf)
    | (refine Need.mk ?_; kernel_rfl) | (refine Need.mk ⟨rfl, ?_⟩; decide)
    | (refine VR.op hTb rfl rfl (o_index_imm hTb rfl rfl rfl rfl rfl rfl rfl (by omega) (hrow)) rfl ?_; conv => whnf)
    | (refine DT.op hTb rfl (o_index_imm hTb rfl rfl rfl rfl rfl rfl rfl (by omega) (hrow)) rfl ?_; conv => whnf)
    | (refine VR.fun hTb rfl rfl (o_funN hc true [0] (fun _ => ⟨rfl, by simp [idBox, GrO, GrL, isMem], by simp⟩) (by simp) rfl rfl rfl rfl rfl ⟨rfl, rfl, rfl, rfl⟩ rfl rfl) ?_; conv => whnf))
    · have h9 := h
      refine endG [] rfl rfl rfl rfl rfl ⟨?_, rfl, rfl⟩
      rw [hf, hst, if_pos h9]; rfl
    · have h9 := h
      refine ⟨i + 1, ⟨hlt, ?_⟩, by omega, wk_to [(0, 0)] rfl rfl rfl ⟨rfl, rfl, rfl, congrArg (fun x => Slot.one (.g (.int .i64 x))) (wrap64' (by omega)), trivial⟩ ⟨rfl, ⟨_, rfl, rfl⟩, trivial⟩⟩
      rw [hf, hst, if_neg (by rw [h9]; simp)]
  · (conv => whnf)
    refine endG [] rfl rfl rfl rfl rfl ⟨?_, rfl, rfl⟩
    rw [hf, atId_end (by simp at h2; omega)]; rfl
theorem c_rowAt (t : VTable) (n : Int) (hl : t.rows.length ≤ maxLen) : CallsV Tryz.prog 53 [.agg (encVTable t), iS n] [] (pureQ (iS (tAt t n))) := by
  have hc := c_indexRow t.rows n hl
  refine pure_walk hTb Tryz.func53 rfl rfl Tryz.ntmps53 (by simp) ?_
  (conv => whnf); repeat' (first
    | (refine And.intro ?_ ?_ <;> ((try intro h) <;> (try simp only [Bool.not_true, Bool.not_false, decide_eq_true_eq, decide_eq_false_iff_not, Int.not_lt, Int.not_le, gt_iff_lt, ge_iff_le] at h) <;> first | exact absurd h Bool.false_ne_true | exact absurd h.symm Bool.false_ne_true | conv => whnf))
    | (refine VL.drawS hTb hMix (by kernel_rfl) (by kernel_rfl) (by kernel_rfl) ?_; conv => whnf)
    | (refine Need.mk ?_; kernel_rfl) | (refine Need.mk ⟨rfl, ?_⟩; decide)
    | (refine VR.fun hTb rfl rfl (o_funN hc true [103] (fun _ => ⟨rfl, by simp [idBox, GrO, GrL, isMem], by simp⟩) (by simp) rfl rfl rfl rfl rfl ⟨rfl, rfl, rfl, rfl⟩ rfl rfl) ?_; conv => whnf))
  rfl
theorem c_l3At (t : VTable) (n : Int) (hl : t.rows.length ≤ maxLen) : CallsV Tryz.prog 153 [.agg (encVTable t), iS n] [] (pureQ (iS (tAt t n))) := by
  refine pure_walk hTb Tryz.func153 rfl rfl Tryz.ntmps153 (by simp) ?_
  (conv => whnf); repeat' (first | (refine And.intro ?_ ?_ <;> ((try intro h) <;> (try simp only [Bool.not_true, Bool.not_false] at h) <;> first | exact absurd h Bool.false_ne_true | exact absurd h.symm Bool.false_ne_true | conv => whnf)) | (refine Need.mk ?_; kernel_rfl) | (refine Need.mk ⟨rfl, ?_⟩; decide))
  refine VL.loopI hTb (fun i => i ≤ t.rows.length ∧ tAt t n = atId n (t.rows.drop i) i) (fun i => ⟨[(2, .one (.ptr 102 0)), (1, iS n), (5, iS i)], [(102, .box (encVTable t))], []⟩) (fun i => t.rows.length - i) 0 ⟨Nat.zero_le _, rfl⟩
    (wk_to [(102, 102)] rfl rfl rfl ⟨rfl, rfl, rfl, trivial⟩ ⟨rfl, ⟨_, rfl, rfl⟩, trivial⟩) (fun i hi => ?_)
  obtain ⟨hi, hf⟩ := hi
  (conv => whnf)
  refine And.intro (fun h2 => ?_) (fun h2 => ?_)
  · have hlt : i < t.rows.length := by simpa using h2
    have hrow := rowVRow hlt
    have hst := atId_step (n := n) hlt
    generalize t.rows[i] = ri at hrow hst
    (conv => whnf); repeat' (first
    | (refine And.intro ?_ ?_ <;> ((try intro h) <;> (try simp only [Bool.not_true, Bool.not_false, decide_eq_true_eq, decide_eq_false_iff_not, Int.not_lt, Int.not_le, gt_iff_lt, ge_iff_le] at h) <;> first | exact absurd h Bool.false_ne_true | exact absurd h.symm Bool.false_ne_true | conv => whnf))
    | (refine VL.drawS hTb hMix (by kernel_rfl) (by kernel_rfl) (by kernel_rfl) ?_; conv => whnf)
    | (refine Need.mk ?_; kernel_rfl) | (refine Need.mk ⟨rfl, ?_⟩; decide)
    | (refine VR.op hTb rfl rfl (o_index_imm hTb rfl rfl rfl rfl rfl rfl rfl (by omega) (hrow)) rfl ?_; conv => whnf)
    | (refine DT.op hTb rfl (o_index_imm hTb rfl rfl rfl rfl rfl rfl rfl (by omega) (hrow)) rfl ?_; conv => whnf))
    · have h9 := h
      rw [hf, hst, if_pos h9]; rfl
    · have h9 := h
      refine ⟨i + 1, ⟨hlt, ?_⟩, by omega, wk_to [(102, 102)] rfl rfl rfl ⟨rfl, rfl, congrArg (fun x => Slot.one (.g (.int .i64 x))) (wrap64' (by omega)), trivial⟩ ⟨rfl, ⟨_, rfl, rfl⟩, trivial⟩⟩
      rw [hf, hst, if_neg (by rw [h9]; simp)]
  · (conv => whnf)
    rw [hf, atId_end (by simp at h2; omega)]; rfl
end Go.Vl

namespace Go.Vl
open Go Go.RowKit Go.Proofs
set_option maxRecDepth 100000
set_option linter.unusedSimpArgs false
set_option linter.unusedVariables false

def pIx {α : Type} (p : α → Bool) : List α → Nat → Int
  | [], _ => -1
  | x :: xs, i => if p x then (i : Int) else pIx p xs (i + 1)
theorem pIx_step {α : Type} {p : α → Bool} {l : List α} {i : Nat} (h : i < l.length) : pIx p (l.drop i) i = if p l[i] then (i : Int) else pIx p (l.drop (i + 1)) (i + 1) := by
  rw [List.drop_eq_getElem_cons h, pIx]
theorem pIx_end {α : Type} {p : α → Bool} {l : List α} {i : Nat} (h : l.length ≤ i) : pIx p (l.drop i) i = -1 := by
  rw [List.drop_of_length_le h, pIx]
theorem pIx_lt {α : Type} {p : α → Bool} : ∀ (l : List α) (i : Nat), -1 ≤ pIx p l i ∧ pIx p l i < (i + l.length : Nat)
  | [], i => by simp only [pIx]; omega
  | r :: rs, i => by
    have h := pIx_lt (p := p) rs (i + 1)
    rw [pIx, List.length_cons]
    split <;> omega
/-- The place is that of the first that is meant. -/
theorem pIx_eq {α : Type} {p : α → Bool} : ∀ (l : List α) (s i : Nat) (h : i < l.length), p l[i] = true → (∀ j (hj : j < i), p (l[j]'(by omega)) = false) → pIx p l s = ((s + i : Nat) : Int)
  | x :: xs, s, 0, _, h1, _ => by rw [pIx, if_pos (by simpa using h1)]; simp
  | x :: xs, s, i + 1, h, h1, h2 => by
    rw [pIx, if_neg (by have := h2 0 (by omega); simpa using this)]
    rw [pIx_eq xs (s + 1) i (by simpa using h) (by simpa using h1) (fun j hj => by simpa using h2 (j + 1) (by omega))]
    omega
theorem pIx_at {α : Type} {p : α → Bool} : ∀ (l : List α) (s i : Nat), pIx p l s = ((s + i : Nat) : Int) → ∃ h : i < l.length, p l[i] = true ∧ ∀ j (hj : j < i), p (l[j]'(by omega)) = false
  | [], s, i, h => by rw [pIx] at h; omega
  | x :: xs, s, i, h => by
    rw [pIx] at h
    split at h
    · rename_i hp
      have : i = 0 := by omega
      subst this
      exact ⟨by simp, by simpa using hp, fun j hj => by omega⟩
    · rename_i hp
      have hlt := pIx_lt (p := p) xs (s + 1)
      cases i with
      | zero =>
        exfalso
        have key : ∀ (l : List α) (s : Nat), pIx p l (s + 1) ≠ (s : Int) := by
          intro l
          induction l with
          | nil => intro s; rw [pIx]; omega
          | cons y ys ih =>
            intro s; rw [pIx]; split
            · omega
            · intro e
              have h3 : ∀ (l : List α) (u v : Nat), v < u → pIx p l u ≠ (v : Int) := by
                intro l
                induction l with
                | nil => intro u v _; rw [pIx]; omega
                | cons z zs ih => intro u v huv; rw [pIx]; split; omega; exact ih (u + 1) v (by omega)
              exact h3 ys (s + 1 + 1) s (by omega) e
        exact key xs s (by simpa using h)
      | succ i =>
        obtain ⟨h1, h2, h3⟩ := pIx_at xs (s + 1) i (by rw [h]; omega)
        refine ⟨by simpa using h1, by simpa using h2, fun j hj => ?_⟩
        cases j with
        | zero => simpa using hp
        | succ j => simpa using h3 j (by omega)

-- bases
def zTb : VTab := ⟨⟨#[]⟩, ⟨[], [], [], 0⟩⟩
def zLk : VLink := ⟨⟨#[]⟩, ⟨#[]⟩, ⟨#[]⟩, 0⟩
abbrev isTab (nm : ByteArray) (t : VTab) : Bool := t.name.toList == nm.toList
abbrev isLk (s c : ByteArray) (l : VLink) : Bool := l.src.toList == s.toList && l.col.toList == c.toList
def tabIx (b : VBase) (nm : ByteArray) : Int := pIx (isTab nm) b.tabs 0
def tabOf (b : VBase) (nm : ByteArray) : VTable := (b.tabs.getD (tabIx b nm).toNat zTb).table
def lkAt (b : VBase) (l : VLink) : Int := nameAt (tL (tabOf b l.src)) l.col
def lkC (b : VBase) (l : VLink) : Col := (tL (tabOf b l.src)).getD (lkAt b l).toNat (kCol 0)
def fitB (b : VBase) (l : VLink) : Bool :=
  !decide (tabIx b l.src < 0) && (!decide (tabIx b l.dst < 0) && (decide (1 ≤ l.how ∧ l.how ≤ 3) && (decide (0 ≤ lkAt b l) && ((lkC b l).kind == 1 && (!(l.how == 3) || !(lkC b l).need)))))
def lkV (b : VBase) (l : VLink) (r : VRow) : Val := (tNow (tabOf b l.src) r).getD (lkAt b l).toNat zVal
def holdR (b : VBase) (l : VLink) (r : VRow) : Bool := (lkV b l r).k == 0 || !decide (tAt (tabOf b l.dst) (lkV b l r).n < 0)
def holdB (b : VBase) (l : VLink) : Bool := (tabOf b l.src).rows.all (holdR b l)
def lkIx (b : VBase) (s c : ByteArray) : Int := pIx (isLk s c) b.links 0
def tabB (b : VBase) (i : Nat) : Bool := nameOk (b.tabs.getD i zTb).name && (tabIx b (b.tabs.getD i zTb).name == (i : Int) && tabOk (b.tabs.getD i zTb).table)
def linkB (b : VBase) (i : Nat) : Bool := fitB b (b.links.getD i zLk) && (holdB b (b.links.getD i zLk) && lkIx b (b.links.getD i zLk).src (b.links.getD i zLk).col == (i : Int))
def baseOk (b : VBase) : Bool := (List.range b.tabs.length).all (tabB b) && ((List.range b.links.length).all (linkB b) && (decide (b.tabs.length ≤ 3) && decide (b.links.length ≤ 4)))

structure BOkB (b : VBase) : Prop where
  tb : ∀ i, i < b.tabs.length → tabB b i = true
  lk : ∀ i, i < b.links.length → linkB b i = true
  t3 : b.tabs.length ≤ 3
  l4 : b.links.length ≤ 4
theorem baseOk_iff {b : VBase} : baseOk b = true ↔ BOkB b := by
  unfold baseOk
  simp only [Bool.and_eq_true, decide_eq_true_eq, List.all_eq_true, List.mem_range]
  exact ⟨fun ⟨a, b, c, d⟩ => ⟨a, b, c, d⟩, fun ⟨a, b, c, d⟩ => ⟨a, b, c, d⟩⟩
theorem tabB_iff {b : VBase} {i : Nat} : tabB b i = true ↔ nameOk (b.tabs.getD i zTb).name = true ∧ tabIx b (b.tabs.getD i zTb).name = (i : Int) ∧ tabOk (b.tabs.getD i zTb).table = true := by
  unfold tabB; simp only [Bool.and_eq_true, beq_iff_eq]
theorem linkB_iff {b : VBase} {i : Nat} : linkB b i = true ↔ fitB b (b.links.getD i zLk) = true ∧ holdB b (b.links.getD i zLk) = true ∧ lkIx b (b.links.getD i zLk).src (b.links.getD i zLk).col = (i : Int) := by
  unfold linkB; simp only [Bool.and_eq_true, beq_iff_eq]
theorem fitB_iff {b : VBase} {l : VLink} : fitB b l = true ↔ ¬ tabIx b l.src < 0 ∧ ¬ tabIx b l.dst < 0 ∧ (1 ≤ l.how ∧ l.how ≤ 3) ∧ 0 ≤ lkAt b l ∧ (lkC b l).kind = 1 ∧ (l.how = 3 → (lkC b l).need = false) := by
  unfold fitB
  simp only [Bool.and_eq_true, Bool.not_eq_true', decide_eq_true_eq, decide_eq_false_iff_not, beq_iff_eq, Bool.or_eq_true]
  refine and_congr Iff.rfl (and_congr Iff.rfl (and_congr Iff.rfl (and_congr Iff.rfl (and_congr Iff.rfl ?_))))
  by_cases h : l.how = 3
  · simp [h]
  · simp [h]
theorem tabIx_mem {b : VBase} {nm : ByteArray} (h : ¬ tabIx b nm < 0) : ∃ hi : (tabIx b nm).toNat < b.tabs.length, b.tabs.getD (tabIx b nm).toNat zTb = b.tabs[(tabIx b nm).toNat] ∧ tabOf b nm = (b.tabs[(tabIx b nm).toNat]).table ∧ (b.tabs[(tabIx b nm).toNat]).name.toList = nm.toList := by
  have hl := pIx_lt (p := isTab nm) b.tabs 0
  have hi : (tabIx b nm).toNat < b.tabs.length := by unfold tabIx at h ⊢; omega
  have e : b.tabs.getD (tabIx b nm).toNat zTb = b.tabs[(tabIx b nm).toNat] := by simp [hi]
  obtain ⟨_, h2, _⟩ := pIx_at b.tabs 0 (tabIx b nm).toNat (by show tabIx b nm = _; omega)
  exact ⟨hi, e, by unfold tabOf; rw [e], by simpa using h2⟩
theorem tabOf_mem {b : VBase} {nm : ByteArray} (h : ¬ tabIx b nm < 0) : ∃ t ∈ b.tabs, tabOf b nm = t.table := by
  obtain ⟨hi, _, h2, _⟩ := tabIx_mem h
  exact ⟨_, List.getElem_mem hi, h2⟩
theorem BOkB.tab {b : VBase} (h : BOkB b) {nm : ByteArray} (hn : ¬ tabIx b nm < 0) : tabOk (tabOf b nm) = true := by
  obtain ⟨hi, h1, h2, _⟩ := tabIx_mem hn
  have := (tabB_iff.1 (h.tb _ hi)).2.2
  rw [h1] at this
  rw [h2]; exact this

-- refs
theorem qR_iff {a b : VRef} : q_VRef a b = true ↔ a = b := by
  unfold q_VRef
  simp only [Bool.and_eq_true, beq_iff_eq, and_true]
  constructor
  · rintro ⟨h1, h2⟩
    obtain ⟨n, i⟩ := a
    obtain ⟨n', i'⟩ := b
    simp only at h1 h2
    rw [tl_inj h1, h2]
  · rintro rfl; exact ⟨rfl, rfl⟩
def inL (K : List VRef) (r : VRef) : Bool := K.any (q_VRef r)
theorem inL_iff {K : List VRef} {r : VRef} : inL K r = true ↔ r ∈ K := by
  unfold inL
  rw [List.any_eq_true]
  constructor
  · rintro ⟨x, hx, hq⟩; rw [qR_iff.1 hq]; exact hx
  · intro h; exact ⟨r, h, qR_iff.2 rfl⟩
def insL (K : List VRef) (r : VRef) : List VRef := if inL K r then K else K ++ [r]
abbrev trK (K : List VRef) : List (VRef × Bool) := K.map fun r => (r, true)
theorem get_trK {r : VRef} : ∀ {K : List VRef}, (mGet q_VRef r (trK K)).getD false = inL K r
  | [] => rfl
  | k :: K => by
    have ih := get_trK (r := r) (K := K)
    simp only [trK, List.map_cons, mGet, inL, List.any_cons] at ih ⊢
    by_cases h : q_VRef r k = true
    · rw [if_pos h, h]; rfl
    · rw [if_neg h, ih, Bool.eq_false_iff.2 h, Bool.false_or]
theorem put_trK {r : VRef} : ∀ {K : List VRef}, mPut q_VRef r true (trK K) = trK (insL K r)
  | [] => rfl
  | k :: K => by
    have ih := put_trK (r := r) (K := K)
    simp only [trK, List.map_cons, mPut]
    by_cases h : q_VRef r k = true
    · rw [if_pos h]
      have : insL (k :: K) r = k :: K := by unfold insL; rw [if_pos (inL_iff.2 (by rw [qR_iff.1 h]; simp))]
      rw [this]; rfl
    · rw [if_neg h]
      have h1 : insL (k :: K) r = k :: insL K r := by
        unfold insL
        have e : inL (k :: K) r = inL K r := by unfold inL; rw [List.any_cons, Bool.eq_false_iff.2 h, Bool.false_or]
        rw [e]
        split <;> rfl
      rw [h1, List.map_cons]
      simp only [trK] at ih
      rw [ih]
theorem insL_mem {K : List VRef} {r x : VRef} : x ∈ insL K r ↔ x ∈ K ∨ x = r := by
  unfold insL
  split
  · rename_i h
    constructor
    · exact .inl
    · rintro (h2 | rfl)
      · exact h2
      · exact inL_iff.1 h
  · simp

-- steps that put things in, one by one
section
variable {α : Type} (cond : List VRef → α → Bool) (key : α → VRef)
def stpF (K : List VRef) (x : α) : List VRef := if cond K x then insL K (key x) else K
def cntU (U K : List VRef) : Nat := (U.filter fun u => !inL K u).length
variable {cond key}
theorem insL_len (K : List VRef) (r : VRef) : insL K r = K ∨ (insL K r).length = K.length + 1 := by
  unfold insL; split
  · exact .inl rfl
  · right; simp
theorem stpF_len (K : List VRef) (x : α) : stpF cond key K x = K ∨ (stpF cond key K x).length = K.length + 1 := by
  unfold stpF; split
  · exact insL_len _ _
  · exact .inl rfl
theorem foldF_len : ∀ (l : List α) (K : List VRef), K.length ≤ (l.foldl (stpF cond key) K).length
  | [], K => Nat.le_refl _
  | x :: l, K => by
    have h := foldF_len l (stpF cond key K x)
    rw [List.foldl_cons]
    rcases stpF_len (cond := cond) (key := key) K x with h1 | h1
    · rw [h1] at h ⊢; exact h
    · omega
theorem foldF_closed : ∀ (l : List α) (K : List VRef), (l.foldl (stpF cond key) K).length = K.length → l.foldl (stpF cond key) K = K ∧ ∀ x ∈ l, cond K x = true → key x ∈ K
  | [], K, _ => ⟨rfl, fun x hx => by cases hx⟩
  | x :: l, K, h => by
    rw [List.foldl_cons] at h ⊢
    have h0 := foldF_len (cond := cond) (key := key) l (stpF cond key K x)
    rcases stpF_len (cond := cond) (key := key) K x with h1 | h1
    · rw [h1] at h ⊢
      obtain ⟨h2, h3⟩ := foldF_closed l K h
      refine ⟨h2, fun y hy hc => ?_⟩
      rcases List.mem_cons.1 hy with rfl | hy
      · unfold stpF at h1
        rw [if_pos hc] at h1
        rw [← h1]; exact insL_mem.2 (.inr rfl)
      · exact h3 y hy hc
    · omega
theorem foldF_sound {R : VRef → Prop} : ∀ (l : List α) (K : List VRef), (∀ K x, x ∈ l → (∀ r ∈ K, R r) → cond K x = true → R (key x)) → (∀ r ∈ K, R r) → ∀ r ∈ l.foldl (stpF cond key) K, R r
  | [], _, _, hK => hK
  | x :: l, K, hs, hK => by
    rw [List.foldl_cons]
    refine foldF_sound l _ (fun K' y hy => hs K' y (List.mem_cons_of_mem _ hy)) fun r hr => ?_
    unfold stpF at hr
    split at hr
    · rename_i hc
      rcases insL_mem.1 hr with h | rfl
      · exact hK r h
      · exact hs K x (by simp) hK hc
    · exact hK r hr
theorem foldF_mono : ∀ (l : List α) (K : List VRef), ∀ r ∈ K, r ∈ l.foldl (stpF cond key) K
  | [], _, _, h => h
  | x :: l, K, r, h => by
    rw [List.foldl_cons]
    refine foldF_mono l _ r ?_
    unfold stpF; split
    · exact insL_mem.2 (.inl h)
    · exact h
theorem cntU_ins (U K : List VRef) (r : VRef) (h : r ∈ U) : insL K r = K ∨ (insL K r).length + cntU U (insL K r) ≤ K.length + cntU U K ∧ cntU U (insL K r) < cntU U K := by
  by_cases hk : inL K r = true
  · left; unfold insL; rw [if_pos hk]
  · right
    have hl : (insL K r).length = K.length + 1 := by unfold insL; rw [if_neg hk]; simp
    have hm : ∀ u, inL (insL K r) u = (inL K u || q_VRef u r) := by
      intro u
      rw [Bool.eq_iff_iff, inL_iff, Bool.or_eq_true, inL_iff, qR_iff, insL_mem]
    have key2 : ∀ U : List VRef, cntU U (insL K r) ≤ cntU U K ∧ (r ∈ U → cntU U (insL K r) < cntU U K) := by
      intro U
      induction U with
      | nil => exact ⟨Nat.le_refl _, fun h => by cases h⟩
      | cons u U ih =>
        unfold cntU at ih ⊢
        simp only [List.filter_cons, hm]
        by_cases hu : q_VRef u r = true
        · have e := qR_iff.1 hu
          subst e
          rw [hu, Bool.or_true, Bool.eq_false_iff.2 hk]
          simp only [Bool.not_true, Bool.false_eq_true, if_false, Bool.not_false, if_true, List.length_cons]
          simp only [hm] at ih
          exact ⟨by omega, fun _ => by omega⟩
        · rw [Bool.eq_false_iff.2 hu, Bool.or_false]
          simp only [hm] at ih
          by_cases hku : inL K u = true
          · rw [hku]
            simp only [Bool.not_true, Bool.false_eq_true, if_false]
            refine ⟨ih.1, fun h => ?_⟩
            rcases List.mem_cons.1 h with rfl | h
            · exact absurd (qR_iff.2 rfl) hu
            · exact ih.2 h
          · rw [Bool.eq_false_iff.2 hku]
            simp only [Bool.not_false, if_true, List.length_cons]
            refine ⟨by omega, fun h => ?_⟩
            rcases List.mem_cons.1 h with rfl | h
            · exact absurd (qR_iff.2 rfl) hu
            · have := ih.2 h; omega
    have := (key2 U).2 h
    exact ⟨by omega, this⟩
theorem foldF_cnt (U : List VRef) : ∀ (l : List α) (K : List VRef), (∀ x ∈ l, key x ∈ U) → l.foldl (stpF cond key) K = K ∨ (l.foldl (stpF cond key) K).length + cntU U (l.foldl (stpF cond key) K) ≤ K.length + cntU U K ∧ cntU U (l.foldl (stpF cond key) K) < cntU U K
  | [], K, _ => .inl rfl
  | x :: l, K, h => by
    rw [List.foldl_cons]
    have ih := foldF_cnt U l (stpF cond key K x) fun y hy => h y (List.mem_cons_of_mem _ hy)
    have h1 : stpF cond key K x = K ∨ (stpF cond key K x).length + cntU U (stpF cond key K x) ≤ K.length + cntU U K ∧ cntU U (stpF cond key K x) < cntU U K := by
      unfold stpF; split
      · exact cntU_ins U K _ (h x (by simp))
      · exact .inl rfl
    rcases h1 with h1 | h1
    · rw [h1] at ih ⊢; exact ih
    · right
      rcases ih with ih | ih
      · rw [ih]; exact h1
      · omega
end
end Go.Vl

namespace Go.Vl
open Go Go.RowKit Go.Proofs
set_option maxRecDepth 100000
set_option linter.unusedSimpArgs false
set_option linter.unusedVariables false

inductive Rch (b : VBase) (s : VRef) : VRef → Prop
  | start : Rch b s s
  | step {l : VLink} {r : VRow} : l ∈ b.links → l.how = 2 → r ∈ (tabOf b l.src).rows → (lkV b l r).k ≠ 0 → Rch b s ⟨l.dst, (lkV b l r).n⟩ → Rch b s ⟨l.src, r.id⟩
/-- What has been found is all. -/
structure Fnd (b : VBase) (s : VRef) (K : List VRef) : Prop where
  snd : ∀ r ∈ K, Rch b s r
  st : s ∈ K
  cl : ∀ l ∈ b.links, l.how = 2 → ∀ r ∈ (tabOf b l.src).rows, (lkV b l r).k ≠ 0 → (⟨l.dst, (lkV b l r).n⟩ : VRef) ∈ K → (⟨l.src, r.id⟩ : VRef) ∈ K
theorem Fnd.all {b : VBase} {s : VRef} {K : List VRef} (h : Fnd b s K) {r : VRef} : r ∈ K ↔ Rch b s r := by
  refine ⟨h.snd r, fun hr => ?_⟩
  induction hr with
  | start => exact h.st
  | step h1 h2 h3 h4 _ ih => exact h.cl _ h1 h2 _ h3 h4 ih
def flatS (b : VBase) : List (VTab × VRow) := b.tabs.flatMap fun t => t.table.rows.map fun r => (t, r)
def spK (x : VTab × VRow) : VRef := ⟨x.1.name, x.2.id⟩
def goL (b : VBase) (K : List VRef) : List VRef := ((flatS b).filter fun x => inL K (spK x)).map spK
theorem outL_eq {b : VBase} {s : VRef} {K K' : List VRef} (h : Fnd b s K) (h' : Fnd b s K') : goL b K = goL b K' := by
  unfold goL
  refine congrArg (List.map spK) (List.filter_congr fun x _ => ?_)
  rw [Bool.eq_iff_iff, inL_iff, inL_iff, h.all, h'.all]

-- by links
def nmd (b : VBase) (l : VLink) : List (Int × Int) := ((tabOf b l.src).rows.filter fun r => (lkV b l r).k != 0).map fun r => (r.id, (lkV b l r).n)
def dmC (l : VLink) (K : List VRef) (p : Int × Int) : Bool := l.how == 2 && inL K ⟨l.dst, p.2⟩
def dmK (l : VLink) (p : Int × Int) : VRef := ⟨l.src, p.1⟩
def dmL (b : VBase) (K : List VRef) (l : VLink) : List VRef := (nmd b l).foldl (stpF (dmC l) (dmK l)) K
def flatD (b : VBase) : List (VLink × Int × Int) := b.links.flatMap fun l => (nmd b l).map fun p => (l, p)
def dmP (b : VBase) (K : List VRef) : List VRef := (flatD b).foldl (stpF (fun K x => dmC x.1 K x.2) fun x => dmK x.1 x.2) K
theorem foldl_mapS {α β : Type} {c : List VRef → β → Bool} {k : β → VRef} {f : α → β} : ∀ (l : List α) (K : List VRef), (l.map f).foldl (stpF c k) K = l.foldl (stpF (fun K x => c K (f x)) fun x => k (f x)) K
  | [], _ => rfl
  | x :: l, K => by rw [List.map_cons, List.foldl_cons, List.foldl_cons]; exact foldl_mapS l _
theorem foldl_fm {α β γ : Type} {f : γ → β → γ} {g : α → List β} : ∀ (l : List α) (K : γ), (l.flatMap g).foldl f K = l.foldl (fun K x => (g x).foldl f K) K
  | [], _ => rfl
  | x :: l, K => by rw [List.flatMap_cons, List.foldl_append, List.foldl_cons]; exact foldl_fm l _
theorem dmP_links (b : VBase) (K : List VRef) : b.links.foldl (dmL b) K = dmP b K := by
  unfold dmP flatD
  rw [foldl_fm]
  congr 1
  funext K l
  rw [foldl_mapS]; rfl
theorem mem_nmd {b : VBase} {l : VLink} {p : Int × Int} : p ∈ nmd b l ↔ ∃ r ∈ (tabOf b l.src).rows, (lkV b l r).k ≠ 0 ∧ p = (r.id, (lkV b l r).n) := by
  unfold nmd
  simp only [List.mem_map, List.mem_filter, bne_iff_ne, ne_eq]
  constructor
  · rintro ⟨r, ⟨h1, h2⟩, rfl⟩; exact ⟨r, h1, h2, rfl⟩
  · rintro ⟨r, h1, h2, rfl⟩; exact ⟨r, ⟨h1, h2⟩, rfl⟩
theorem mem_flatD {b : VBase} {x : VLink × Int × Int} : x ∈ flatD b ↔ x.1 ∈ b.links ∧ x.2 ∈ nmd b x.1 := by
  unfold flatD
  simp only [List.mem_flatMap, List.mem_map]
  constructor
  · rintro ⟨l, h1, p, h2, rfl⟩; exact ⟨h1, h2⟩
  · intro ⟨h1, h2⟩; exact ⟨x.1, h1, x.2, h2, rfl⟩
theorem dmP_sound {b : VBase} {s : VRef} {K : List VRef} (h : ∀ r ∈ K, Rch b s r) : ∀ r ∈ dmP b K, Rch b s r := by
  refine foldF_sound (R := Rch b s) _ K (fun K x hx hK hc => ?_) h
  obtain ⟨h1, h2⟩ := mem_flatD.1 hx
  obtain ⟨r, h3, h4, h5⟩ := mem_nmd.1 h2
  obtain ⟨l, p⟩ := x
  simp only at h1 h3 h4 h5 hc
  subst h5
  unfold dmC at hc
  rw [Bool.and_eq_true, beq_iff_eq] at hc
  exact .step h1 hc.1 h3 h4 (hK _ (inL_iff.1 hc.2))
theorem dmP_fnd {b : VBase} {s : VRef} {K : List VRef} (h : ∀ r ∈ K, Rch b s r) (hs : s ∈ K) (he : (dmP b K).length = K.length) : dmP b K = K ∧ Fnd b s K := by
  obtain ⟨h1, h2⟩ := foldF_closed _ _ he
  refine ⟨h1, h, hs, fun l hl h3 r hr hk hm => ?_⟩
  exact h2 (l, r.id, (lkV b l r).n) (mem_flatD.2 ⟨hl, mem_nmd.2 ⟨r, hr, hk, rfl⟩⟩) (by simp only [dmC, Bool.and_eq_true, beq_iff_eq]; exact ⟨h3, inL_iff.2 hm⟩)
def dmU (b : VBase) : List VRef := (flatD b).map fun x => dmK x.1 x.2
theorem dmP_cnt (b : VBase) (K : List VRef) : dmP b K = K ∨ (dmP b K).length + cntU (dmU b) (dmP b K) ≤ K.length + cntU (dmU b) K ∧ cntU (dmU b) (dmP b K) < cntU (dmU b) K :=
  foldF_cnt (dmU b) (flatD b) K fun x hx => List.mem_map.2 ⟨x, hx, rfl⟩

-- by tables and rows
def goesB (b : VBase) (nm : ByteArray) (r : VRow) (K : List VRef) : Bool := b.links.any fun l => l.src.toList == nm.toList && (l.how == 2 && ((lkV b l r).k != 0 && inL K ⟨l.dst, (lkV b l r).n⟩))
def spC (b : VBase) (K : List VRef) (x : VTab × VRow) : Bool := goesB b x.1.name x.2 K
def spP (b : VBase) (K : List VRef) : List VRef := (flatS b).foldl (stpF (spC b) spK) K
theorem mem_flatS {b : VBase} {x : VTab × VRow} : x ∈ flatS b ↔ x.1 ∈ b.tabs ∧ x.2 ∈ x.1.table.rows := by
  unfold flatS
  simp only [List.mem_flatMap, List.mem_map]
  constructor
  · rintro ⟨t, h1, r, h2, rfl⟩; exact ⟨h1, h2⟩
  · intro ⟨h1, h2⟩; exact ⟨x.1, h1, x.2, h2, rfl⟩
theorem BOkB.tabName {b : VBase} (h : BOkB b) {t : VTab} (ht : t ∈ b.tabs) : tabOf b t.name = t.table ∧ ¬ tabIx b t.name < 0 := by
  obtain ⟨i, hi, rfl⟩ := List.mem_iff_getElem.1 ht
  have h2 := (tabB_iff.1 (h.tb i hi)).2.1
  have e : b.tabs.getD i zTb = b.tabs[i] := by simp [hi]
  rw [e] at h2
  exact ⟨by unfold tabOf; rw [h2, Int.toNat_natCast, e], by omega⟩
theorem spP_sound {b : VBase} (hb : BOkB b) {s : VRef} {K : List VRef} (h : ∀ r ∈ K, Rch b s r) : ∀ r ∈ spP b K, Rch b s r := by
  refine foldF_sound (R := Rch b s) _ K (fun K x hx hK hc => ?_) h
  obtain ⟨h1, h2⟩ := mem_flatS.1 hx
  obtain ⟨t, r⟩ := x
  simp only at h1 h2
  unfold spC goesB at hc
  obtain ⟨l, hl, hc⟩ := List.any_eq_true.1 hc
  simp only [Bool.and_eq_true, beq_iff_eq, bne_iff_ne, ne_eq] at hc
  obtain ⟨c1, c2, c3, c4⟩ := hc
  have e := tl_inj c1
  have h3 := (hb.tabName h1).1
  rw [← e] at h3
  have := Rch.step hl c2 (r := r) (by rw [h3]; exact h2) c3 (hK _ (inL_iff.1 c4))
  rw [e] at this
  exact this
theorem BOkB.lnk {b : VBase} (h : BOkB b) {l : VLink} (hl : l ∈ b.links) : fitB b l = true := by
  obtain ⟨i, hi, rfl⟩ := List.mem_iff_getElem.1 hl
  have h2 := (linkB_iff.1 (h.lk i hi)).1
  have e : b.links.getD i zLk = b.links[i] := by simp [hi]
  rw [e] at h2; exact h2
theorem spP_fnd {b : VBase} (hb : BOkB b) {s : VRef} {K : List VRef} (h : ∀ r ∈ K, Rch b s r) (hs : s ∈ K) (he : (spP b K).length = K.length) : spP b K = K ∧ Fnd b s K := by
  obtain ⟨h1, h2⟩ := foldF_closed _ _ he
  refine ⟨h1, h, hs, fun l hl h3 r hr hk hm => ?_⟩
  obtain ⟨hi, _, k2, k3⟩ := tabIx_mem (fitB_iff.1 (hb.lnk hl)).1
  have := h2 (_, r) (mem_flatS.2 ⟨List.getElem_mem hi, by rw [← k2]; exact hr⟩) (by
    unfold spC goesB
    refine List.any_eq_true.2 ⟨l, hl, ?_⟩
    simp only [Bool.and_eq_true, beq_iff_eq, bne_iff_ne, ne_eq]
    exact ⟨k3.symm, h3, hk, inL_iff.2 hm⟩)
  unfold spK at this
  simp only at this
  rw [tl_inj k3] at this
  exact this
def spU (b : VBase) : List VRef := (flatS b).map spK
theorem spP_cnt (b : VBase) (K : List VRef) : spP b K = K ∨ (spP b K).length + cntU (spU b) (spP b K) ≤ K.length + cntU (spU b) K ∧ cntU (spU b) (spP b K) < cntU (spU b) K :=
  foldF_cnt (spU b) (flatS b) K fun x hx => List.mem_map.2 ⟨x, hx, rfl⟩
theorem cntU_le (U K : List VRef) : cntU U K ≤ U.length := List.length_filter_le _ _
theorem flatS_len {b : VBase} (hb : BOkB b) : (flatS b).length ≤ 24 := by
  have h3 := hb.t3
  have h8 : ∀ t ∈ b.tabs, t.table.rows.length ≤ 8 := fun t ht => by
    obtain ⟨i, hi, rfl⟩ := List.mem_iff_getElem.1 ht
    have h2 := (tabB_iff.1 (hb.tb i hi)).2.2
    have e : b.tabs.getD i zTb = b.tabs[i] := by simp [hi]
    rw [e] at h2
    exact (tabOk_iff.1 h2).r8
  have : ∀ (l : List VTab), (∀ t ∈ l, t.table.rows.length ≤ 8) → (l.flatMap fun t => t.table.rows.map fun r => (t, r)).length ≤ 8 * l.length := by
    intro l
    induction l with
    | nil => intro _; simp
    | cons t l ih =>
      intro h
      have h1 := h t (by simp)
      have h2 := ih fun x hx => h x (by simp [hx])
      rw [List.flatMap_cons, List.length_append, List.length_map, List.length_cons]; omega
  have := this b.tabs h8
  unfold flatS; omega
end Go.Vl

namespace Go.Vl
open Go Go.RowKit Go.Proofs
set_option maxRecDepth 100000
set_option linter.unusedSimpArgs false
set_option linter.unusedVariables false
set_option maxHeartbeats 8000000

structure VBase.md (b : VBase) : Prop where
  tl : b.tabs.length ≤ 1048576
  tm : ∀ t ∈ b.tabs, t.name.size ≤ maxLen ∧ t.table.md
  ll : b.links.length ≤ 1048576
  lm : ∀ l ∈ b.links, l.ok
theorem zTb_md : (zTb.table).md := ⟨(by decide), fun x hx => (by cases hx), fun x hx => (by cases hx), (by decide), fun x hx => (by cases hx)⟩
theorem tabOf_md {b : VBase} (h : b.md) (nm : ByteArray) : (tabOf b nm).md := by
  unfold tabOf
  by_cases hi : (tabIx b nm).toNat < b.tabs.length
  · have e : b.tabs.getD (tabIx b nm).toNat zTb = b.tabs[(tabIx b nm).toNat] := by simp [hi]
    rw [e]; exact (h.tm _ (List.getElem_mem hi)).2
  · have e : b.tabs.getD (tabIx b nm).toNat zTb = zTb := by simp [Nat.le_of_not_lt hi]
    rw [e]; exact zTb_md
theorem rowTabZ {b : VBase} {nm : ByteArray} (h : ¬ tabIx b nm < 0) : ∃ n', (b.tabs.map encVTab)[(tabIx b nm).toNat]? = some (encVTab ⟨n', tabOf b nm⟩) := by
  obtain ⟨hi, _, h2, _⟩ := tabIx_mem h
  refine ⟨(b.tabs[(tabIx b nm).toNat]).name, ?_⟩
  rw [List.getElem?_map, List.getElem?_eq_getElem hi, h2]; rfl
theorem c_tabAt1 (t : VTab) (s : ByteArray) : CallsV Tryz.prog 157 [.agg (encVTab t), .one (.ptr 0 0)] [nmBox s] (funQ (bS (isTab s t)) [some (nmBox s)] []) := by
  refine fun_walk hTb Tryz.func157 rfl rfl Tryz.ntmps157 (by simp) (by simp) ?_
  (conv => whnf); repeat' (first | (refine And.intro ?_ ?_ <;> ((try intro h) <;> (try simp only [Bool.not_true, Bool.not_false] at h) <;> first | exact absurd h Bool.false_ne_true | exact absurd h.symm Bool.false_ne_true | conv => whnf)) | (refine Need.mk ?_; kernel_rfl) | (refine Need.mk ⟨rfl, ?_⟩; decide))
  exact endG [] rfl rfl rfl rfl rfl ⟨rfl, rfl, rfl⟩
theorem c_indexTab (ts : List VTab) (s : ByteArray) (hl : ts.length ≤ maxLen) : CallsV Tryz.prog 156 [vtabsI ts, .one (.clo 157 [0])] [nmBox s] (funQ (iS (pIx (isTab s) ts 0)) [some (nmBox s)] []) := by
  refine fun_walk hTb Tryz.func156 rfl rfl Tryz.ntmps156 (by simp) (by simp) ?_
  (conv => whnf); repeat' (first | (refine And.intro ?_ ?_ <;> ((try intro h) <;> (try simp only [Bool.not_true, Bool.not_false] at h) <;> first | exact absurd h Bool.false_ne_true | exact absurd h.symm Bool.false_ne_true | conv => whnf)) | (refine Need.mk ?_; kernel_rfl) | (refine Need.mk ⟨rfl, ?_⟩; decide))
  refine VL.loopI hTb (fun i => i ≤ ts.length ∧ pIx (isTab s) ts 0 = pIx (isTab s) (ts.drop i) i) (fun i => ⟨[(0, vtabsI ts), (1, .one (.clo 157 [0])), (7, iS ((ts.map encVTab).length : Nat)), (8, iS i)], [(0, nmBox s)], []⟩) (fun i => ts.length - i) 0 ⟨Nat.zero_le _, rfl⟩
    (wk_to [(0, 0)] rfl rfl rfl ⟨rfl, rfl, rfl, rfl, trivial⟩ ⟨rfl, ⟨_, rfl, rfl⟩, trivial⟩) (fun i hi => ?_)
  obtain ⟨hi, hf⟩ := hi
  (conv => whnf)
  refine And.intro (fun h2 => ?_) (fun h2 => ?_)
  · have hlt : i < ts.length := by simpa using h2
    have hrow := rowVTab hlt
    have hc := c_tabAt1 ts[i] s
    have hst := pIx_step (p := isTab s) hlt
    generalize ts[i] = ri at hrow hc hst
    (conv => whnf); repeat' (first
    | (refine And.intro ?_ ?_ <;> ((try intro h) <;> (try simp only [Bool.not_true, Bool.not_false, decide_eq_true_eq, decide_eq_false_iff_not, Int.not_lt, Int.not_le, gt_iff_lt, ge_iff_le] at h) <;> first | exact absurd h Bool.false_ne_true | exact absurd h.symm Bool.false_ne_true | conv => whnf))
    | (refine VL.drawS hTb hMix (by kernel_rfl) (by kernel_rfl) (by kernel_rfl) ?_; conv => whnf)
    | (refine Need.mk ?_; kernel_rfl) | (refine Need.mk ⟨rfl, ?_⟩; decide)
    | (refine VR.op hTb rfl rfl (o_index_imm hTb rfl rfl rfl rfl rfl rfl rfl (by omega) (hrow)) rfl ?_; conv => whnf)
    | (refine DT.op hTb rfl (o_index_imm hTb rfl rfl rfl rfl rfl rfl rfl (by omega) (hrow)) rfl ?_; conv => whnf)
    | (refine VR.fun hTb rfl rfl (o_funN hc true [0] (fun _ => ⟨rfl, by simp [nmBox, GrO, GrL, isMem], by simp⟩) (by simp) rfl rfl rfl rfl rfl ⟨rfl, rfl, rfl, rfl⟩ rfl rfl) ?_; conv => whnf))
    · have h9 := h
      refine endG [] rfl rfl rfl rfl rfl ⟨?_, rfl, rfl⟩
      rw [hf, hst, if_pos h9]; rfl
    · have h9 := h
      refine ⟨i + 1, ⟨hlt, ?_⟩, by omega, wk_to [(0, 0)] rfl rfl rfl ⟨rfl, rfl, rfl, congrArg (fun x => Slot.one (.g (.int .i64 x))) (wrap64' (by omega)), trivial⟩ ⟨rfl, ⟨_, rfl, rfl⟩, trivial⟩⟩
      rw [hf, hst, if_neg (by rw [h9]; simp)]
  · (conv => whnf)
    refine endG [] rfl rfl rfl rfl rfl ⟨?_, rfl, rfl⟩
    rw [hf, pIx_end (by simp at h2; omega)]; rfl
theorem c_tabAt (b : VBase) (s : ByteArray) (hl : b.tabs.length ≤ maxLen) : CallsV Tryz.prog 96 [.agg (encVBase b), strS s] [] (pureQ (iS (tabIx b s))) := by
  have hc := c_indexTab b.tabs s hl
  refine pure_walk hTb Tryz.func96 rfl rfl Tryz.ntmps96 (by simp) ?_
  (conv => whnf); repeat' (first
    | (refine And.intro ?_ ?_ <;> ((try intro h) <;> (try simp only [Bool.not_true, Bool.not_false, decide_eq_true_eq, decide_eq_false_iff_not, Int.not_lt, Int.not_le, gt_iff_lt, ge_iff_le] at h) <;> first | exact absurd h Bool.false_ne_true | exact absurd h.symm Bool.false_ne_true | conv => whnf))
    | (refine VL.drawS hTb hMix (by kernel_rfl) (by kernel_rfl) (by kernel_rfl) ?_; conv => whnf)
    | (refine Need.mk ?_; kernel_rfl) | (refine Need.mk ⟨rfl, ?_⟩; decide)
    | (refine VR.fun hTb rfl rfl (o_funN hc true [103] (fun _ => ⟨rfl, by simp [nmBox, GrO, GrL, isMem], by simp⟩) (by simp) rfl rfl rfl rfl rfl ⟨rfl, rfl, rfl, rfl⟩ rfl rfl) ?_; conv => whnf))
  rfl
theorem c_linkAt1 (l : VLink) (s c : ByteArray) : CallsV Tryz.prog 161 [.agg (encVLink l), .one (.ptr 0 0), .one (.ptr 1 0)] [nmBox s, nmBox c] (funQ (bS (isLk s c l)) [some (nmBox s), some (nmBox c)] []) := by
  refine fun_walk hTb Tryz.func161 rfl rfl Tryz.ntmps161 (by simp) (by simp) ?_
  (conv => whnf); repeat' (first
    | (refine And.intro ?_ ?_ <;> ((try intro h) <;> (try simp only [Bool.not_true, Bool.not_false, decide_eq_true_eq, decide_eq_false_iff_not, Int.not_lt, Int.not_le, gt_iff_lt, ge_iff_le] at h) <;> first | exact absurd h Bool.false_ne_true | exact absurd h.symm Bool.false_ne_true | conv => whnf))
    | (refine VL.drawS hTb hMix (by kernel_rfl) (by kernel_rfl) (by kernel_rfl) ?_; conv => whnf)
    | (refine Need.mk ?_; kernel_rfl) | (refine Need.mk ⟨rfl, ?_⟩; decide)
    | (fail))
  · exact endG [] rfl rfl rfl rfl rfl ⟨by unfold isLk; rw [h]; rfl, rfl, rfl⟩
  · exact endG [] rfl rfl rfl rfl rfl ⟨by unfold isLk; rw [h]; rfl, rfl, rfl⟩
theorem c_indexLink (ts : List VLink) (s c : ByteArray) (hl : ts.length ≤ maxLen) : CallsV Tryz.prog 160 [vlinksI ts, .one (.clo 161 [0, 1])] [nmBox s, nmBox c] (funQ (iS (pIx (isLk s c) ts 0)) [some (nmBox s), some (nmBox c)] []) := by
  refine fun_walk hTb Tryz.func160 rfl rfl Tryz.ntmps160 (by simp) (by simp) ?_
  (conv => whnf); repeat' (first | (refine And.intro ?_ ?_ <;> ((try intro h) <;> (try simp only [Bool.not_true, Bool.not_false] at h) <;> first | exact absurd h Bool.false_ne_true | exact absurd h.symm Bool.false_ne_true | conv => whnf)) | (refine Need.mk ?_; kernel_rfl) | (refine Need.mk ⟨rfl, ?_⟩; decide))
  refine VL.loopI hTb (fun i => i ≤ ts.length ∧ pIx (isLk s c) ts 0 = pIx (isLk s c) (ts.drop i) i) (fun i => ⟨[(0, vlinksI ts), (1, .one (.clo 161 [0, 1])), (7, iS ((ts.map encVLink).length : Nat)), (8, iS i)], [(0, nmBox s), (1, nmBox c)], []⟩) (fun i => ts.length - i) 0 ⟨Nat.zero_le _, rfl⟩
    (wk_to [(0, 0), (1, 1)] rfl rfl rfl ⟨rfl, rfl, rfl, rfl, trivial⟩ ⟨rfl, ⟨_, rfl, rfl⟩, rfl, ⟨_, rfl, rfl⟩, trivial⟩) (fun i hi => ?_)
  obtain ⟨hi, hf⟩ := hi
  (conv => whnf)
  refine And.intro (fun h2 => ?_) (fun h2 => ?_)
  · have hlt : i < ts.length := by simpa using h2
    have hrow := rowVLink hlt
    have hc := c_linkAt1 ts[i] s c
    have hst := pIx_step (p := isLk s c) hlt
    generalize ts[i] = ri at hrow hc hst
    (conv => whnf); repeat' (first
    | (refine And.intro ?_ ?_ <;> ((try intro h) <;> (try simp only [Bool.not_true, Bool.not_false, decide_eq_true_eq, decide_eq_false_iff_not, Int.not_lt, Int.not_le, gt_iff_lt, ge_iff_le] at h) <;> first | exact absurd h Bool.false_ne_true | exact absurd h.symm Bool.false_ne_true | conv => whnf))
    | (refine VL.drawS hTb hMix (by kernel_rfl) (by kernel_rfl) (by kernel_rfl) ?_; conv => whnf)
    | (refine Need.mk ?_; kernel_rfl) | (refine Need.mk ⟨rfl, ?_⟩; decide)
    | (refine VR.op hTb rfl rfl (o_index_imm hTb rfl rfl rfl rfl rfl rfl rfl (by omega) (hrow)) rfl ?_; conv => whnf)
    | (refine DT.op hTb rfl (o_index_imm hTb rfl rfl rfl rfl rfl rfl rfl (by omega) (hrow)) rfl ?_; conv => whnf)
    | (refine VR.fun hTb rfl rfl (o_funN hc true [0, 1] (fun _ => ⟨rfl, by simp [nmBox, GrO, GrL, isMem], by simp⟩) (by simp) rfl rfl rfl rfl rfl ⟨rfl, rfl, rfl, rfl⟩ rfl rfl) ?_; conv => whnf))
    · have h9 := h
      refine endG [] rfl rfl rfl rfl rfl ⟨?_, rfl, rfl⟩
      rw [hf, hst, if_pos h9]; rfl
    · have h9 := h
      refine ⟨i + 1, ⟨hlt, ?_⟩, by omega, wk_to [(0, 0), (1, 1)] rfl rfl rfl ⟨rfl, rfl, rfl, congrArg (fun x => Slot.one (.g (.int .i64 x))) (wrap64' (by omega)), trivial⟩ ⟨rfl, ⟨_, rfl, rfl⟩, rfl, ⟨_, rfl, rfl⟩, trivial⟩⟩
      rw [hf, hst, if_neg (by rw [h9]; simp)]
  · (conv => whnf)
    refine endG [] rfl rfl rfl rfl rfl ⟨?_, rfl, rfl⟩
    rw [hf, pIx_end (by simp at h2; omega)]; rfl
theorem c_linkAt (b : VBase) (s c : ByteArray) (hl : b.links.length ≤ maxLen) : CallsV Tryz.prog 99 [.agg (encVBase b), strS s, strS c] [] (pureQ (iS (lkIx b s c))) := by
  have hc := c_indexLink b.links s c hl
  refine pure_walk hTb Tryz.func99 rfl rfl Tryz.ntmps99 (by simp) ?_
  (conv => whnf); repeat' (first
    | (refine And.intro ?_ ?_ <;> ((try intro h) <;> (try simp only [Bool.not_true, Bool.not_false, decide_eq_true_eq, decide_eq_false_iff_not, Int.not_lt, Int.not_le, gt_iff_lt, ge_iff_le] at h) <;> first | exact absurd h Bool.false_ne_true | exact absurd h.symm Bool.false_ne_true | conv => whnf))
    | (refine VL.drawS hTb hMix (by kernel_rfl) (by kernel_rfl) (by kernel_rfl) ?_; conv => whnf)
    | (refine Need.mk ?_; kernel_rfl) | (refine Need.mk ⟨rfl, ?_⟩; decide)
    | (refine VR.fun hTb rfl rfl (o_funN hc true [104, 105] (fun _ => ⟨rfl, by simp [nmBox, GrO, GrL, isMem], by simp⟩) (by simp) rfl rfl rfl rfl rfl ⟨rfl, rfl, rfl, rfl⟩ rfl rfl) ?_; conv => whnf))
  rfl
theorem tL_ml {t : VTable} (h : t.md) : (tL t).length ≤ maxLen := by
  have := tL_len t
  have := h.fc
  unfold maxLen; omega
theorem nameAt_bd (s : List Col) (nm : ByteArray) : nameAt s nm < s.length ∧ -1 ≤ nameAt s nm := by
  rcases nameAt_spec s nm with ⟨h, _⟩ | ⟨j, hj, h, _⟩ <;> omega
theorem rowCZ {s : List Col} {z : Int} (h0 : 0 ≤ z) (h1 : z < s.length) : (s.map encCol)[z.toNat]? = some (encCol (s.getD z.toNat (kCol 0))) := by
  have hz : z.toNat < s.length := by omega
  have e : s.getD z.toNat (kCol 0) = s[z.toNat] := by simp [List.getD, hz]
  rw [e, List.getElem?_map, List.getElem?_eq_getElem hz]; rfl
theorem c_bfits (b : VBase) (l : VLink) (hb : b.md) (hk : ∀ t ∈ b.tabs, tabOk t.table = true) : CallsV Tryz.prog 97 [.agg (encVBase b), .agg (encVLink l)] [] (pureQ (bS (fitB b l))) := by
  have hl : b.tabs.length ≤ maxLen := lmax (by have := hb.tl; omega)
  have c1 := c_tabAt b l.src hl
  have c2 := c_tabAt b l.dst hl
  have c3 := c_in l.how 1 3
  have hm := tabOf_md hb l.src
  have cS := fun (h : ¬ tabIx b l.src < 0) => c_tShape (tabOf b l.src) hm (by obtain ⟨t, ht, e⟩ := tabOf_mem h; rw [e]; exact (tabOk_iff.1 (hk t ht)).sh)
  have cA := c_colAt (tL (tabOf b l.src)) l.col (tL_ml hm)
  have hN := nameAt_bd (tL (tabOf b l.src)) l.col
  have hR := fun (h : ¬ tabIx b l.src < 0) => rowTabZ h
  unfold fitB lkC lkAt
  generalize tL (tabOf b l.src) = L at cS cA hN ⊢
  generalize tabOf b l.src = t at cS hR
  generalize nameAt L l.col = z at cA hN ⊢
  generalize tabIx b l.src = i at c1 cS hR ⊢
  generalize tabIx b l.dst = j at c2 ⊢
  clear hm hk
  have eI : decide (1 ≤ l.how ∧ l.how ≤ 3) = (decide (1 ≤ l.how) && decide (l.how ≤ 3)) := by rw [Bool.eq_iff_iff]; simp
  rw [eI]
  generalize (decide (1 ≤ l.how) && decide (l.how ≤ 3)) = bi at c3 ⊢
  refine pure_walk hTb Tryz.func97 rfl rfl Tryz.ntmps97 (by simp) ?_
  by_cases hi : i < 0
  · rw [decide_eq_true hi]
    (conv => whnf); repeat' (first
    | (exact absurd h (by omega))
    | (refine And.intro ?_ ?_ <;> ((try intro h) <;> (try simp only [Bool.not_true, Bool.not_false, decide_eq_true_eq, decide_eq_false_iff_not, Int.not_lt, Int.not_le, gt_iff_lt, ge_iff_le] at h) <;> first | exact absurd h Bool.false_ne_true | exact absurd h.symm Bool.false_ne_true | conv => whnf))
    | (refine VL.drawS hTb hMix (by kernel_rfl) (by kernel_rfl) (by kernel_rfl) ?_; conv => whnf)
    | (refine Need.mk ?_; kernel_rfl) | (refine Need.mk ⟨rfl, ?_⟩; decide)
    | (refine VR.pure hTb rfl rfl (o_purN (c1) rfl rfl rfl ⟨rfl, rfl, rfl, rfl⟩ rfl) ?_; conv => whnf)
    | (refine DT.pure hTb rfl (o_purN (c1) rfl rfl rfl ⟨rfl, rfl, rfl, rfl⟩ rfl) ?_; conv => whnf)
    | (refine VR.pure hTb rfl rfl (o_purN (c2) rfl rfl rfl ⟨rfl, rfl, rfl, rfl⟩ rfl) ?_; conv => whnf)
    | (refine DT.pure hTb rfl (o_purN (c2) rfl rfl rfl ⟨rfl, rfl, rfl, rfl⟩ rfl) ?_; conv => whnf))
    all_goals rfl
  obtain ⟨n', hR⟩ := hR hi
  have cS := cS hi
  rw [decide_eq_false hi]
  by_cases hj : j < 0
  · rw [decide_eq_true hj]
    (conv => whnf); repeat' (first
    | (exact absurd h (by omega))
    | (refine And.intro ?_ ?_ <;> ((try intro h) <;> (try simp only [Bool.not_true, Bool.not_false, decide_eq_true_eq, decide_eq_false_iff_not, Int.not_lt, Int.not_le, gt_iff_lt, ge_iff_le] at h) <;> first | exact absurd h Bool.false_ne_true | exact absurd h.symm Bool.false_ne_true | conv => whnf))
    | (refine VL.drawS hTb hMix (by kernel_rfl) (by kernel_rfl) (by kernel_rfl) ?_; conv => whnf)
    | (refine Need.mk ?_; kernel_rfl) | (refine Need.mk ⟨rfl, ?_⟩; decide)
    | (refine VR.pure hTb rfl rfl (o_purN (c1) rfl rfl rfl ⟨rfl, rfl, rfl, rfl⟩ rfl) ?_; conv => whnf)
    | (refine DT.pure hTb rfl (o_purN (c1) rfl rfl rfl ⟨rfl, rfl, rfl, rfl⟩ rfl) ?_; conv => whnf)
    | (refine VR.pure hTb rfl rfl (o_purN (c2) rfl rfl rfl ⟨rfl, rfl, rfl, rfl⟩ rfl) ?_; conv => whnf)
    | (refine DT.pure hTb rfl (o_purN (c2) rfl rfl rfl ⟨rfl, rfl, rfl, rfl⟩ rfl) ?_; conv => whnf))
    all_goals rfl
  rw [decide_eq_false hj]
  cases bi
  · (conv => whnf); repeat' (first
    | (exact absurd h (by omega))
    | (refine And.intro ?_ ?_ <;> ((try intro h) <;> (try simp only [Bool.not_true, Bool.not_false, decide_eq_true_eq, decide_eq_false_iff_not, Int.not_lt, Int.not_le, gt_iff_lt, ge_iff_le] at h) <;> first | exact absurd h Bool.false_ne_true | exact absurd h.symm Bool.false_ne_true | conv => whnf))
    | (refine VL.drawS hTb hMix (by kernel_rfl) (by kernel_rfl) (by kernel_rfl) ?_; conv => whnf)
    | (refine Need.mk ?_; kernel_rfl) | (refine Need.mk ⟨rfl, ?_⟩; decide)
    | (refine VR.pure hTb rfl rfl (o_purN (c1) rfl rfl rfl ⟨rfl, rfl, rfl, rfl⟩ rfl) ?_; conv => whnf)
    | (refine DT.pure hTb rfl (o_purN (c1) rfl rfl rfl ⟨rfl, rfl, rfl, rfl⟩ rfl) ?_; conv => whnf)
    | (refine VR.pure hTb rfl rfl (o_purN (c2) rfl rfl rfl ⟨rfl, rfl, rfl, rfl⟩ rfl) ?_; conv => whnf)
    | (refine DT.pure hTb rfl (o_purN (c2) rfl rfl rfl ⟨rfl, rfl, rfl, rfl⟩ rfl) ?_; conv => whnf)
    | (refine VR.pure hTb rfl rfl (o_purN (c3) rfl rfl rfl ⟨rfl, rfl, rfl, rfl⟩ rfl) ?_; conv => whnf)
    | (refine DT.pure hTb rfl (o_purN (c3) rfl rfl rfl ⟨rfl, rfl, rfl, rfl⟩ rfl) ?_; conv => whnf))
    all_goals rfl
  by_cases hz : 0 ≤ z
  · have hcR := rowCZ hz hN.1
    rw [decide_eq_true hz]
    generalize L.getD z.toNat (kCol 0) = cc at hcR ⊢
    (conv => whnf); repeat' (first
    | (exact absurd h (by omega))
    | (refine And.intro ?_ ?_ <;> ((try intro h) <;> (try simp only [Bool.not_true, Bool.not_false, decide_eq_true_eq, decide_eq_false_iff_not, Int.not_lt, Int.not_le, gt_iff_lt, ge_iff_le] at h) <;> first | exact absurd h Bool.false_ne_true | exact absurd h.symm Bool.false_ne_true | conv => whnf))
    | (refine VL.drawS hTb hMix (by kernel_rfl) (by kernel_rfl) (by kernel_rfl) ?_; conv => whnf)
    | (refine Need.mk ?_; kernel_rfl) | (refine Need.mk ⟨rfl, ?_⟩; decide)
    | (refine VR.pure hTb rfl rfl (o_purN (c1) rfl rfl rfl ⟨rfl, rfl, rfl, rfl⟩ rfl) ?_; conv => whnf)
    | (refine DT.pure hTb rfl (o_purN (c1) rfl rfl rfl ⟨rfl, rfl, rfl, rfl⟩ rfl) ?_; conv => whnf)
    | (refine VR.pure hTb rfl rfl (o_purN (c2) rfl rfl rfl ⟨rfl, rfl, rfl, rfl⟩ rfl) ?_; conv => whnf)
    | (refine DT.pure hTb rfl (o_purN (c2) rfl rfl rfl ⟨rfl, rfl, rfl, rfl⟩ rfl) ?_; conv => whnf)
    | (refine VR.pure hTb rfl rfl (o_purN (c3) rfl rfl rfl ⟨rfl, rfl, rfl, rfl⟩ rfl) ?_; conv => whnf)
    | (refine DT.pure hTb rfl (o_purN (c3) rfl rfl rfl ⟨rfl, rfl, rfl, rfl⟩ rfl) ?_; conv => whnf)
    | (refine VR.op hTb rfl rfl (o_index_imm hTb rfl rfl rfl rfl rfl rfl rfl (by omega) (hR)) rfl ?_; conv => whnf)
    | (refine DT.op hTb rfl (o_index_imm hTb rfl rfl rfl rfl rfl rfl rfl (by omega) (hR)) rfl ?_; conv => whnf)
    | (refine VR.pure hTb rfl rfl (o_purF (cS) rfl rfl rfl ⟨rfl, rfl, rfl, rfl⟩ rfl) ?_; conv => whnf)
    | (refine DT.pure hTb rfl (o_purF (cS) rfl rfl rfl ⟨rfl, rfl, rfl, rfl⟩ rfl) ?_; conv => whnf)
    | (refine VR.pure hTb rfl rfl (o_purN (cA) rfl rfl rfl ⟨rfl, rfl, rfl, rfl⟩ rfl) ?_; conv => whnf)
    | (refine DT.pure hTb rfl (o_purN (cA) rfl rfl rfl ⟨rfl, rfl, rfl, rfl⟩ rfl) ?_; conv => whnf)
    | (refine VR.op hTb rfl rfl (o_index_imm hTb rfl rfl rfl rfl rfl rfl rfl (by omega) (hcR)) rfl ?_; conv => whnf)
    | (refine DT.op hTb rfl (o_index_imm hTb rfl rfl rfl rfl rfl rfl rfl (by omega) (hcR)) rfl ?_; conv => whnf))
    all_goals first
      | rfl
      | (simp_all [bS]; done)
      | trace_state
  · rw [decide_eq_false hz]
    (conv => whnf); repeat' (first
    | (exact absurd h (by omega))
    | (refine And.intro ?_ ?_ <;> ((try intro h) <;> (try simp only [Bool.not_true, Bool.not_false, decide_eq_true_eq, decide_eq_false_iff_not, Int.not_lt, Int.not_le, gt_iff_lt, ge_iff_le] at h) <;> first | exact absurd h Bool.false_ne_true | exact absurd h.symm Bool.false_ne_true | conv => whnf))
    | (refine VL.drawS hTb hMix (by kernel_rfl) (by kernel_rfl) (by kernel_rfl) ?_; conv => whnf)
    | (refine Need.mk ?_; kernel_rfl) | (refine Need.mk ⟨rfl, ?_⟩; decide)
    | (refine VR.pure hTb rfl rfl (o_purN (c1) rfl rfl rfl ⟨rfl, rfl, rfl, rfl⟩ rfl) ?_; conv => whnf)
    | (refine DT.pure hTb rfl (o_purN (c1) rfl rfl rfl ⟨rfl, rfl, rfl, rfl⟩ rfl) ?_; conv => whnf)
    | (refine VR.pure hTb rfl rfl (o_purN (c2) rfl rfl rfl ⟨rfl, rfl, rfl, rfl⟩ rfl) ?_; conv => whnf)
    | (refine DT.pure hTb rfl (o_purN (c2) rfl rfl rfl ⟨rfl, rfl, rfl, rfl⟩ rfl) ?_; conv => whnf)
    | (refine VR.pure hTb rfl rfl (o_purN (c3) rfl rfl rfl ⟨rfl, rfl, rfl, rfl⟩ rfl) ?_; conv => whnf)
    | (refine DT.pure hTb rfl (o_purN (c3) rfl rfl rfl ⟨rfl, rfl, rfl, rfl⟩ rfl) ?_; conv => whnf)
    | (refine VR.op hTb rfl rfl (o_index_imm hTb rfl rfl rfl rfl rfl rfl rfl (by omega) (hR)) rfl ?_; conv => whnf)
    | (refine DT.op hTb rfl (o_index_imm hTb rfl rfl rfl rfl rfl rfl rfl (by omega) (hR)) rfl ?_; conv => whnf)
    | (refine VR.pure hTb rfl rfl (o_purF (cS) rfl rfl rfl ⟨rfl, rfl, rfl, rfl⟩ rfl) ?_; conv => whnf)
    | (refine DT.pure hTb rfl (o_purF (cS) rfl rfl rfl ⟨rfl, rfl, rfl, rfl⟩ rfl) ?_; conv => whnf)
    | (refine VR.pure hTb rfl rfl (o_purN (cA) rfl rfl rfl ⟨rfl, rfl, rfl, rfl⟩ rfl) ?_; conv => whnf)
    | (refine DT.pure hTb rfl (o_purN (cA) rfl rfl rfl ⟨rfl, rfl, rfl, rfl⟩ rfl) ?_; conv => whnf))
    all_goals first
      | rfl
      | trace_state
end Go.Vl

namespace Go.Vl
open Go Go.RowKit Go.Proofs
set_option maxRecDepth 100000
set_option linter.unusedSimpArgs false
set_option linter.unusedVariables false
set_option maxHeartbeats 8000000

theorem rowVZ {l : List Val} {z : Int} (h0 : 0 ≤ z) (h : z < l.length) : (l.map encVal)[z.toNat]? = some (encVal (l.getD z.toNat zVal)) := by
  have hz : z.toNat < l.length := by omega
  rw [List.getElem?_map, List.getElem?_eq_getElem hz, List.getD_eq_getElem?_getD, List.getElem?_eq_getElem hz]; rfl
abbrev okBox (ok : Bool) : Ob := .box [.g (.bool ok)]
abbrev tbBox (t : VTable) : Ob := .box (encVTable t)
def hdF (b : VBase) (l : VLink) (to : VTable) (ok : Bool) (r : VRow) : Bool := if (lkV b l r).k != 0 then ok && !decide (tAt to (lkV b l r).n < 0) else ok
theorem hdF_all {b : VBase} {l : VLink} : ∀ (rows : List VRow) (ok : Bool), rows.foldl (hdF b l (tabOf b l.dst)) ok = (ok && rows.all (holdR b l))
  | [], ok => by simp
  | r :: rs, ok => by
    rw [List.foldl_cons, hdF_all rs, List.all_cons]
    unfold hdF holdR
    cases h : (lkV b l r).k == 0
    · have : ((lkV b l r).k != 0) = true := by rw [bne, h]; rfl
      rw [if_pos this, Bool.false_or, Bool.and_assoc]
    · have : ((lkV b l r).k != 0) = false := by rw [bne, h]; rfl
      rw [if_neg (by rw [this]; simp), Bool.true_or, Bool.true_and]
theorem foldl_take_step {α β : Type} {f : β → α → β} {l : List α} {i : Nat} (h : i < l.length) (s : β) : (l.take (i + 1)).foldl f s = f ((l.take i).foldl f s) l[i] := by
  rw [List.take_succ_eq_append_getElem h, List.foldl_append]; rfl
theorem c_holds1 (ok : Bool) (to : VTable) (id n : Int) (hl : to.rows.length ≤ maxLen) : CallsV Tryz.prog 159 [iS id, iS n, .one (.ptr 0 0), .one (.ptr 1 0)] [okBox ok, tbBox to]
    (funQ (.tup []) [some (okBox (ok && !decide (tAt to n < 0))), some (tbBox to)] []) := by
  have c1 := c_rowAt to n hl
  generalize tAt to n = z at c1 ⊢
  refine fun_walk hTb Tryz.func159 rfl rfl Tryz.ntmps159 (by simp) (by simp) ?_
  cases ok
  · (conv => whnf); repeat' (first
    | (refine And.intro ?_ ?_ <;> ((try intro h) <;> (try simp only [Bool.not_true, Bool.not_false, decide_eq_true_eq, decide_eq_false_iff_not, Int.not_lt, Int.not_le, gt_iff_lt, ge_iff_le] at h) <;> first | exact absurd h Bool.false_ne_true | exact absurd h.symm Bool.false_ne_true | conv => whnf))
    | (refine VL.drawS hTb hMix (by kernel_rfl) (by kernel_rfl) (by kernel_rfl) ?_; conv => whnf)
    | (refine Need.mk ?_; kernel_rfl) | (refine Need.mk ⟨rfl, ?_⟩; decide)
    | (refine VR.pure hTb rfl rfl (o_purN (c1) rfl rfl rfl ⟨rfl, rfl, rfl, rfl⟩ rfl) ?_; conv => whnf)
    | (refine DT.pure hTb rfl (o_purN (c1) rfl rfl rfl ⟨rfl, rfl, rfl, rfl⟩ rfl) ?_; conv => whnf))
    exact endG [] rfl rfl rfl rfl rfl ⟨rfl, rfl, rfl⟩
  · by_cases hz : z < 0
    · rw [decide_eq_true hz]
      (conv => whnf); repeat' (first
    | (refine And.intro ?_ ?_ <;> ((try intro h) <;> (try simp only [Bool.not_true, Bool.not_false, decide_eq_true_eq, decide_eq_false_iff_not, Int.not_lt, Int.not_le, gt_iff_lt, ge_iff_le] at h) <;> first | exact absurd h Bool.false_ne_true | exact absurd h.symm Bool.false_ne_true | conv => whnf))
    | (refine VL.drawS hTb hMix (by kernel_rfl) (by kernel_rfl) (by kernel_rfl) ?_; conv => whnf)
    | (refine Need.mk ?_; kernel_rfl) | (refine Need.mk ⟨rfl, ?_⟩; decide)
    | (refine VR.pure hTb rfl rfl (o_purN (c1) rfl rfl rfl ⟨rfl, rfl, rfl, rfl⟩ rfl) ?_; conv => whnf)
    | (refine DT.pure hTb rfl (o_purN (c1) rfl rfl rfl ⟨rfl, rfl, rfl, rfl⟩ rfl) ?_; conv => whnf))
      refine endG [] rfl rfl rfl rfl rfl ⟨rfl, ?_, rfl⟩
      show [some (okBox (decide (0 ≤ z))), _] = _
      rw [decide_eq_false (by omega)]; rfl
    · rw [decide_eq_false hz]
      (conv => whnf); repeat' (first
    | (refine And.intro ?_ ?_ <;> ((try intro h) <;> (try simp only [Bool.not_true, Bool.not_false, decide_eq_true_eq, decide_eq_false_iff_not, Int.not_lt, Int.not_le, gt_iff_lt, ge_iff_le] at h) <;> first | exact absurd h Bool.false_ne_true | exact absurd h.symm Bool.false_ne_true | conv => whnf))
    | (refine VL.drawS hTb hMix (by kernel_rfl) (by kernel_rfl) (by kernel_rfl) ?_; conv => whnf)
    | (refine Need.mk ?_; kernel_rfl) | (refine Need.mk ⟨rfl, ?_⟩; decide)
    | (refine VR.pure hTb rfl rfl (o_purN (c1) rfl rfl rfl ⟨rfl, rfl, rfl, rfl⟩ rfl) ?_; conv => whnf)
    | (refine DT.pure hTb rfl (o_purN (c1) rfl rfl rfl ⟨rfl, rfl, rfl, rfl⟩ rfl) ?_; conv => whnf))
      refine endG [] rfl rfl rfl rfl rfl ⟨rfl, ?_, rfl⟩
      show [some (okBox (decide (0 ≤ z))), _] = _
      rw [decide_eq_true (by omega)]; rfl
structure LkOk (b : VBase) (l : VLink) : Prop where
  md : b.md
  ok : ∀ t ∈ b.tabs, tabOk t.table = true
  i : ¬ tabIx b l.src < 0
  j : ¬ tabIx b l.dst < 0
  z : 0 ≤ lkAt b l
theorem LkOk.tab {b : VBase} {l : VLink} (h : LkOk b l) : tabOk (tabOf b l.src) = true := by
  obtain ⟨t, ht, e⟩ := tabOf_mem h.i
  rw [e]; exact h.ok t ht
theorem LkOk.now {b : VBase} {l : VLink} (h : LkOk b l) {i : Nat} (hi : i < (tabOf b l.src).rows.length) : lkAt b l < (tNow (tabOf b l.src) (tabOf b l.src).rows[i]).length := by
  have h2 := (tNow_go (tabOk_iff.1 h.tab).sh (rowFacts h.tab hi).2).2
  have := (nameAt_bd (tL (tabOf b l.src)) l.col).1
  unfold lkAt; omega
theorem c_namingH (b : VBase) (l : VLink) (h : LkOk b l) (to : VTable) (hto : to.rows.length ≤ maxLen) (ok0 : Bool) : CallsV Tryz.prog 158 [.agg (encVBase b), .agg (encVLink l), .one (.clo 159 [0, 1])] [okBox ok0, tbBox to]
    (funQ (.tup []) [some (okBox ((tabOf b l.src).rows.foldl (hdF b l to) ok0)), some (tbBox to)] []) := by
  have hl : b.tabs.length ≤ maxLen := lmax (by have := h.md.tl; omega)
  have c1 := c_tabAt b l.src hl
  have hm := tabOf_md h.md l.src
  have cS := c_tShape (tabOf b l.src) hm (tabOk_iff.1 h.tab).sh
  have cA := c_colAt (tL (tabOf b l.src)) l.col (tL_ml hm)
  obtain ⟨n', hR⟩ := rowTabZ h.i
  have cN := fun i (hi : i < (tabOf b l.src).rows.length) => (c_tNow (tabOf b l.src) (tabOf b l.src).rows[i] hm (tabOk_iff.1 h.tab).sh (rowFacts h.tab hi).1 (rowFacts h.tab hi).2 (hm.rm _ (List.getElem_mem hi)).2).pure (pureVals _)
  have hv := fun i (hi : i < (tabOf b l.src).rows.length) => rowVZ h.z (h.now hi)
  have hq : ∀ i (hi : i < (tabOf b l.src).rows.length), lkV b l (tabOf b l.src).rows[i] = (tNow (tabOf b l.src) (tabOf b l.src).rows[i]).getD (lkAt b l).toNat zVal := fun _ _ => rfl
  have hzz : nameAt (tL (tabOf b l.src)) l.col = lkAt b l := rfl
  rw [hzz] at cA
  have hlen := hm.r
  have hiz := h.i
  have hz0 := h.z
  clear hm h hzz
  obtain ⟨f, hf⟩ : ∃ f : Bool → VRow → Bool, f = hdF b l to := ⟨_, rfl⟩
  have hfs : ∀ ok r, f ok r = if (lkV b l r).k != 0 then ok && !decide (tAt to (lkV b l r).n < 0) else ok := by intro ok r; rw [hf]; rfl
  rw [← hf]
  clear hf
  generalize tL (tabOf b l.src) = L at cS cA
  generalize lkAt b l = z at *
  generalize tabOf b l.src = t at *
  generalize tabIx b l.src = iz at *
  refine fun_walk hTb Tryz.func158 rfl rfl Tryz.ntmps158 (by simp) (by simp) ?_
  (conv => whnf); repeat' (first
    | (refine And.intro ?_ ?_ <;> ((try intro h) <;> (try simp only [Bool.not_true, Bool.not_false, decide_eq_true_eq, decide_eq_false_iff_not, Int.not_lt, Int.not_le, gt_iff_lt, ge_iff_le] at h) <;> first | exact absurd h Bool.false_ne_true | exact absurd h.symm Bool.false_ne_true | conv => whnf))
    | (refine VL.drawS hTb hMix (by kernel_rfl) (by kernel_rfl) (by kernel_rfl) ?_; conv => whnf)
    | (refine Need.mk ?_; kernel_rfl) | (refine Need.mk ⟨rfl, ?_⟩; decide)
    | (refine VR.pure hTb rfl rfl (o_purN (c1) rfl rfl rfl ⟨rfl, rfl, rfl, rfl⟩ rfl) ?_; conv => whnf)
    | (refine DT.pure hTb rfl (o_purN (c1) rfl rfl rfl ⟨rfl, rfl, rfl, rfl⟩ rfl) ?_; conv => whnf)
    | (refine VR.op hTb rfl rfl (o_index_imm hTb rfl rfl rfl rfl rfl rfl rfl (by omega) (hR)) rfl ?_; conv => whnf)
    | (refine DT.op hTb rfl (o_index_imm hTb rfl rfl rfl rfl rfl rfl rfl (by omega) (hR)) rfl ?_; conv => whnf)
    | (refine VR.pure hTb rfl rfl (o_purF (cS) rfl rfl rfl ⟨rfl, rfl, rfl, rfl⟩ rfl) ?_; conv => whnf)
    | (refine DT.pure hTb rfl (o_purF (cS) rfl rfl rfl ⟨rfl, rfl, rfl, rfl⟩ rfl) ?_; conv => whnf)
    | (refine VR.pure hTb rfl rfl (o_purN (cA) rfl rfl rfl ⟨rfl, rfl, rfl, rfl⟩ rfl) ?_; conv => whnf)
    | (refine DT.pure hTb rfl (o_purN (cA) rfl rfl rfl ⟨rfl, rfl, rfl, rfl⟩ rfl) ?_; conv => whnf))
  refine VL.loopI hTb (fun i => i ≤ t.rows.length) (fun i => ⟨[(2, .one (.clo 159 [0, 1])), (6, .one (.ptr 106 0)), (7, iS z), (26, vrowsI t.rows), (27, iS ((t.rows.map encVRow).length : Nat)), (28, iS i)], [(0, okBox ((t.rows.take i).foldl f ok0)), (1, tbBox to), (106, tbBox t)], []⟩) (fun i => t.rows.length - i) 0 (Nat.zero_le _)
    (wk_to [(0, 0), (1, 1), (106, 106)] rfl rfl rfl ⟨rfl, rfl, rfl, rfl, rfl, rfl, trivial⟩ ⟨rfl, ⟨_, rfl, rfl⟩, rfl, ⟨_, rfl, rfl⟩, rfl, ⟨_, rfl, rfl⟩, trivial⟩) (fun i hi => ?_)
  (conv => whnf)
  refine And.intro (fun h2 => ?_) (fun h2 => ?_)
  · have hlt : i < t.rows.length := by simpa using h2
    have hrow := rowVRow hlt
    have hc := cN i hlt
    have hvi := hv i hlt
    have hst := foldl_take_step (f := f) hlt ok0
    rw [hfs, hq i hlt] at hst
    generalize tNow t t.rows[i] = w at hc hvi hst
    generalize t.rows[i] = ri at hrow hc
    generalize w.getD z.toNat zVal = v at hvi hst
    generalize (t.rows.take i).foldl f ok0 = oki at hst ⊢
    obtain ⟨k, n, tx⟩ := v
    have ch := c_holds1 oki to ri.id n hto
    (conv => whnf); repeat' (first
    | (refine And.intro ?_ ?_ <;> ((try intro h) <;> (try simp only [Bool.not_true, Bool.not_false, decide_eq_true_eq, decide_eq_false_iff_not, Int.not_lt, Int.not_le, gt_iff_lt, ge_iff_le] at h) <;> first | exact absurd h Bool.false_ne_true | exact absurd h.symm Bool.false_ne_true | conv => whnf))
    | (refine VL.drawS hTb hMix (by kernel_rfl) (by kernel_rfl) (by kernel_rfl) ?_; conv => whnf)
    | (refine Need.mk ?_; kernel_rfl) | (refine Need.mk ⟨rfl, ?_⟩; decide)
    | (refine VR.op hTb rfl rfl (o_index_imm hTb rfl rfl rfl rfl rfl rfl rfl (by omega) (hrow)) rfl ?_; conv => whnf)
    | (refine DT.op hTb rfl (o_index_imm hTb rfl rfl rfl rfl rfl rfl rfl (by omega) (hrow)) rfl ?_; conv => whnf)
    | (refine VR.pure hTb rfl rfl (o_purF (hc) rfl rfl rfl ⟨rfl, rfl, rfl, rfl⟩ rfl) ?_; conv => whnf)
    | (refine DT.pure hTb rfl (o_purF (hc) rfl rfl rfl ⟨rfl, rfl, rfl, rfl⟩ rfl) ?_; conv => whnf)
    | (refine VR.op hTb rfl rfl (o_index_imm hTb rfl rfl rfl rfl rfl rfl rfl (by omega) (hvi)) rfl ?_; conv => whnf)
    | (refine DT.op hTb rfl (o_index_imm hTb rfl rfl rfl rfl rfl rfl rfl (by omega) (hvi)) rfl ?_; conv => whnf)
    | (refine VR.fun hTb rfl rfl (o_funN (ch) false [0, 1] (fun h => by cases h) (by simp) rfl rfl rfl rfl rfl ⟨rfl, rfl, rfl, rfl⟩ rfl rfl) ?_; conv => whnf)
    | (refine DT.fun hTb rfl (o_funN (ch) false [0, 1] (fun h => by cases h) (by simp) rfl rfl rfl rfl rfl ⟨rfl, rfl, rfl, rfl⟩ rfl rfl) rfl ?_; conv => whnf))
    · have hk : (k != 0) = true := h
      refine ⟨i + 1, hlt, by omega, wk_to [(0, 0), (1, 1), (106, 106)] rfl rfl rfl ⟨rfl, rfl, rfl, rfl, rfl, congrArg (fun x => Slot.one (.g (.int .i64 x))) (wrap64' (by unfold maxLen; omega)), trivial⟩ ⟨rfl, ⟨_, rfl, ?_⟩, rfl, ⟨_, rfl, rfl⟩, rfl, ⟨_, rfl, rfl⟩, trivial⟩⟩
      rw [hst, if_pos hk]; rfl
    · have hk : (k != 0) = false := h
      refine ⟨i + 1, hlt, by omega, wk_to [(0, 0), (1, 1), (106, 106)] rfl rfl rfl ⟨rfl, rfl, rfl, rfl, rfl, congrArg (fun x => Slot.one (.g (.int .i64 x))) (wrap64' (by unfold maxLen; omega)), trivial⟩ ⟨rfl, ⟨_, rfl, ?_⟩, rfl, ⟨_, rfl, rfl⟩, rfl, ⟨_, rfl, rfl⟩, trivial⟩⟩
      rw [hst, if_neg (by rw [hk]; simp)]; rfl
  · (conv => whnf)
    have hie : i = t.rows.length := by simp at h2; omega
    refine endG [] rfl rfl rfl rfl rfl ⟨rfl, ?_, rfl⟩
    rw [hie, List.take_length]; rfl
end Go.Vl

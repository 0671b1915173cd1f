/- Plain laws: names among columns. -/
import Derived.Test.YtegjajojckbkjaaDoorCg
namespace Go.Vl
open Go Go.RowKit Go.Proofs

theorem atGo_spec (s : ByteArray) : ∀ (cs : List Col) (i : Nat), (atGo s cs i = -1 ∧ ∀ c ∈ cs, (c.name.toList == s.toList) = false) ∨ ∃ j, ∃ h : j < cs.length, atGo s cs i = ((i + j : Nat) : Int) ∧ (cs[j].name.toList == s.toList) = true
  | [], i => .inl ⟨rfl, by simp⟩
  | c :: cs, i => by
    unfold atGo
    cases hc : (c.name.toList == s.toList) with
    | true => right; exact ⟨0, by simp, by simp, by simpa using hc⟩
    | false =>
      rcases atGo_spec s cs (i + 1) with ⟨h1, h2⟩ | ⟨j, hj, h1, h2⟩
      · left; simp only [Bool.false_eq_true, if_false]; exact ⟨h1, fun d hd => by rcases List.mem_cons.1 hd with rfl | hd; exact hc; exact h2 d hd⟩
      · right; refine ⟨j + 1, by simpa using hj, ?_, by simpa using h2⟩
        simp only [Bool.false_eq_true, if_false]
        rw [h1]; congr 1; omega
theorem atGo_congr {s s' : ByteArray} (h : s.toList = s'.toList) : ∀ (cs : List Col) (i : Nat), atGo s cs i = atGo s' cs i
  | [], _ => rfl
  | c :: cs, i => by unfold atGo; rw [h, atGo_congr h cs (i + 1)]
theorem nameAt_congr {cs : List Col} {s s' : ByteArray} (h : s.toList = s'.toList) : nameAt cs s = nameAt cs s' := atGo_congr h cs 0
theorem nameAt_spec (cs : List Col) (s : ByteArray) : (nameAt cs s = -1 ∧ ∀ c ∈ cs, (c.name.toList == s.toList) = false) ∨ ∃ j, ∃ h : j < cs.length, nameAt cs s = (j : Int) ∧ (cs[j].name.toList == s.toList) = true := by
  rcases atGo_spec s cs 0 with h | ⟨j, hj, h1, h2⟩
  · exact .inl h
  · exact .inr ⟨j, hj, by unfold nameAt; rw [h1, Nat.zero_add], h2⟩
theorem okGo_all {all : List Col} : ∀ {cs : List Col} {i : Nat}, okGo all cs i = true → ∀ j (h : j < cs.length), nameAt all cs[j].name = ((i + j : Nat) : Int) ∧ colOk cs[j] = true
  | [], _, _, j, h => by simp at h
  | c :: cs, i, ho, j, h => by
    unfold okGo at ho
    simp only [Bool.and_eq_true, beq_iff_eq] at ho
    cases j with
    | zero => simp; exact ⟨ho.1.2, ho.1.1⟩
    | succ j =>
      have := okGo_all ho.2 j (by simpa using h)
      simp only [List.getElem_cons_succ]
      rw [show i + (j + 1) = i + 1 + j by omega]
      exact this
theorem shapeOk_at {cs : List Col} (h : shapeOk cs = true) (j : Nat) (hj : j < cs.length) : nameAt cs cs[j].name = (j : Int) ∧ colOk cs[j] = true := by
  unfold shapeOk at h
  simp only [Bool.and_eq_true] at h
  have := okGo_all h.1 j hj
  rwa [Nat.zero_add] at this
theorem shapeOk_len {cs : List Col} (h : shapeOk cs = true) : 1 ≤ cs.length ∧ cs.length ≤ 5 := by
  unfold shapeOk at h
  simp only [Bool.and_eq_true, decide_eq_true_eq, List.length_map] at h
  omega
/-- In a right shape a name's place is the one place where it is. -/
theorem nameAt_iff {cs : List Col} (h : shapeOk cs = true) {s : ByteArray} {i : Nat} (hi : i < cs.length) : (cs[i].name.toList == s.toList) = decide (nameAt cs s = (i : Int)) := by
  cases hd : (cs[i].name.toList == s.toList) with
  | true =>
    symm
    rw [decide_eq_true_eq, ← nameAt_congr (s := cs[i].name) (by simpa using hd)]
    exact (shapeOk_at h i hi).1
  | false =>
    symm
    rw [decide_eq_false_iff_not]
    intro e
    rcases nameAt_spec cs s with ⟨h1, _⟩ | ⟨j, hj, h1, h2⟩
    · rw [h1] at e; omega
    · rw [h1] at e
      have : j = i := by omega
      subst this
      rw [hd] at h2; cases h2

theorem colOk_kind {c : Col} (h : colOk c = true) : c.kind = 1 ∨ c.kind = 2 := by
  unfold colOk at h
  simp only [Bool.and_eq_true, Bool.or_eq_true, beq_iff_eq] at h
  exact h.1.1.1.2
theorem rowGo_at : ∀ {cs : List Col} {vs : List Val}, rowGo cs vs = true → ∀ i (h : i < cs.length) (h2 : i < vs.length), cellOk cs[i] vs[i] = true
  | [], _, _, i, h, _ => by simp at h
  | _ :: _, [], _, i, _, h => by simp at h
  | c :: cs, v :: vs, hg, i, h1, h2 => by
    unfold rowGo at hg
    simp only [Bool.and_eq_true] at hg
    cases i with
    | zero => exact hg.1
    | succ i => exact rowGo_at hg.2 i (by simpa using h1) (by simpa using h2)
theorem rowGo_set : ∀ {cs : List Col} {vs : List Val}, rowGo cs vs = true → ∀ i (h : i < cs.length), i < vs.length → ∀ v, rowGo cs (vs.set i v) = cellOk cs[i] v
  | [], _, _, i, h, _, _ => by simp at h
  | _ :: _, [], _, i, _, h, _ => by simp at h
  | c :: cs, w :: vs, hg, i, h1, h2, v => by
    unfold rowGo at hg
    simp only [Bool.and_eq_true] at hg
    cases i with
    | zero => simp only [List.set_cons_zero, List.getElem_cons_zero]; unfold rowGo; rw [hg.2, Bool.and_true]
    | succ i =>
      simp only [List.set_cons_succ, List.getElem_cons_succ]
      unfold rowGo
      rw [hg.1, Bool.true_and]
      exact rowGo_set hg.2 i (by simpa using h1) (by simpa using h2) v
theorem rowIn_len {cs : List Col} {vs : List Val} (h : rowIn cs vs = true) : vs.length = cs.length ∧ rowGo cs vs = true := by
  unfold rowIn at h
  split at h
  · cases h
  · rename_i hn; exact ⟨by simpa using hn, h⟩
theorem rowIn_ne {cs : List Col} {vs : List Val} (h : vs.length ≠ cs.length) : rowIn cs vs = false := by unfold rowIn; rw [if_pos h]
theorem valOk_zero : valOk ⟨0, 0, ⟨#[]⟩⟩ = true := by simp [valOk, emptyList]
theorem cellOk_zero (c : Col) : cellOk c ⟨0, 0, ⟨#[]⟩⟩ = !c.need := by simp [cellOk, valOk_zero]
theorem cellOk_other {c : Col} (h : c.kind = 1 ∨ c.kind = 2) : cellOk c ⟨3 - c.kind, 0, ⟨#[]⟩⟩ = false := by
  unfold cellOk
  rcases h with h | h <;> simp [h]
end Go.Vl

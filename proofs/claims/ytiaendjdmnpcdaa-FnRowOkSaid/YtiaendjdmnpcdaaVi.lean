/- V-logic, part i: code: sequences, branches, blocks, loops, regions in the text's order. -/
import Derived.Test.YtiaendjdmnpcdaaVh
import Derived.Scope
import Derived.Deep.LoopGhost
namespace Go.Vl
open Go Go.RowKit

/-- The post of a piece of code: of exits and states. -/
abbrev Post := Exit → St → Prop

def up (C : Ctx) (Q : Post) (e : Exit) (a : Act) (w : World) : Prop := ∃ S B, Q e S ∧ Rel C S B a w

def VC (P : Program) (n : Nat) (c : Code) (S : St) (Q : Post) : Prop :=
  ∀ C B a w, C.n = n → Rel C S B a w → c.wp P (up C Q) a w

/-- Operations of a list, in order. -/
def VO (P : Program) (n : Nat) (ops : Array Oper) (l : List Nat) (S : St) (K : St → Prop) : Prop :=
  ∀ (Q : Exit → Act → World → Prop) C B a w, C.n = n → Rel C S B a w → (∀ S' B' a' w', K S' → Rel C S' B' a' w' → Q .normal a' w') → wpOps P ops Q l a w

def onNormal (K : St → Prop) (Q : Post) : Post
  | .normal, S => K S
  | e, S => Q e S

def onExit (id : Nat) (Q : Post) : Post
  | .exit i, S => if i = id then Q .normal S else Q (.exit i) S
  | e, S => Q e S

section
variable {P : Program} {n : Nat} {S : St} {Q : Post}

theorem VC.mono {c : Code} {Q' : Post} (h : VC P n c S Q) (hq : ∀ e S, Q e S → Q' e S) : VC P n c S Q' :=
  fun C B a w hn hR => wp_mono (h C B a w hn hR) fun _ _ _ ⟨S', B', hQ, hr⟩ => ⟨S', B', hq _ _ hQ, hr⟩

theorem vc_skip (h : Q .normal S) : VC P n .skip S Q := fun _ B _ _ _ hR => wp_skip ⟨S, B, h, hR⟩
theorem vc_label {l : Nat} (h : Q .normal S) : VC P n (.label l) S Q := fun _ B _ _ _ hR => wp_label ⟨S, B, h, hR⟩
theorem vc_exit {id : Nat} (h : Q (.exit id) S) : VC P n (.exit id) S Q := fun _ B _ _ _ hR => wp_exit ⟨S, B, h, hR⟩
theorem vc_ret (h : Q .ret S) : VC P n .ret S Q := fun _ B _ _ _ hR => wp_ret ⟨S, B, h, hR⟩

theorem vc_seq {x y : Code} (h : VC P n x S (onNormal (fun S' => VC P n y S' Q) Q)) : VC P n (.seq x y) S Q := by
  intro C B a w hn hR
  refine wp_seq (wp_mono (h C B a w hn hR) fun e a' w' hq => ?_)
  obtain ⟨S', B', hq, hr⟩ := hq
  cases e with
  | normal => exact hq C B' a' w' hn hr
  | _ => exact ⟨S', B', hq, hr⟩

theorem vc_cond {c : Operand} {x y : Code} {b : Bool} (hc : ev S c = .one (.g (.bool b))) (ht : b = true → VC P n x S Q) (hf : b = false → VC P n y S Q) : VC P n (.cond c x y) S Q := by
  intro C B a w hn hR
  have hv := ev_g hR hc
  exact wp_cond_split hv (fun e => ht e C B a w hn hR) (fun e => hf e C B a w hn hR)

theorem vc_block {id : Nat} {c : Code} (h : VC P n c S (onExit id Q)) : VC P n (.block id c) S Q := by
  intro C B a w hn hR
  refine wp_block (wp_mono (h C B a w hn hR) fun e a' w' hq => ?_)
  obtain ⟨S', B', hq, hr⟩ := hq
  cases e with
  | exit i =>
    simp only [onExit] at hq
    simp only [Exit.inBlock]
    split
    · rename_i hi; rw [if_pos hi] at hq; exact ⟨S', B', hq, hr⟩
    · rename_i hi; rw [if_neg hi] at hq; exact ⟨S', B', hq, hr⟩
  | _ => exact ⟨S', B', hq, hr⟩

theorem vc_scope {c : Code} (h : VC P n c S (fun e S' => match e with | .goto _ => False | e => Q e S')) : VC P n (.scope c) S Q := by
  intro C B a w hn hR
  refine wp_scope_straight (wp_mono (h C B a w hn hR) fun e a' w' hq => ?_)
  obtain ⟨S', B', hq, hr⟩ := hq
  cases e with
  | goto l => exact hq.elim
  | _ => exact ⟨S', B', hq, hr⟩

/-- One state may be taken for another. -/
def Wk (n : Nat) (S S' : St) : Prop := ∀ C B a w, C.n = n → Rel C S B a w → ∃ B', Rel C S' B' a w

theorem VC.wk {S' : St} {c : Code} (h : VC P n c S' Q) (hw : Wk n S S') : VC P n c S Q := fun C B a w hn hR =>
  let ⟨B', hR'⟩ := hw C B a w hn hR
  h C B' a w hn hR'

/-- A loop: a family of states, a measure. -/
theorem vc_loop {α : Type} {c : Code} (st : α → St) (μ : α → Nat) (x : α) (h0 : Wk n S (st x))
    (round : ∀ x, VC P n c (st x) (onNormal (fun S' => ∃ y, μ y < μ x ∧ Wk n S' (st y)) Q)) : VC P n (.loop c) S Q := by
  intro C B a w hn hR
  obtain ⟨B0, hR0⟩ := h0 C B a w hn hR
  refine wp_loop_ghost (fun k a w => ∃ x B, μ x = k ∧ Rel C (st x) B a w) (μ x) ⟨x, B0, rfl, hR0⟩ fun k a w hI => ?_
  obtain ⟨x, B, rfl, hR⟩ := hI
  refine wp_mono (round x C B a w hn hR) fun e a' w' hq => ?_
  obtain ⟨S', B', hq, hr⟩ := hq
  cases e with
  | normal =>
    obtain ⟨y, hlt, hw⟩ := hq
    obtain ⟨B2, hR2⟩ := hw C B' a' w' hn hr
    exact ⟨μ y, hlt, y, B2, rfl, hR2⟩
  | _ => exact ⟨S', B', hq, hr⟩

theorem vc_region {id : Nat} {ops : Array Oper} (h : VO P n ops (List.range ops.size) S (fun S' => Q .normal S')) : VC P n (.region id ops false) S Q := by
  intro C B a w hn hR
  exact wp_region (h _ C B a w hn hR fun S' B' a' w' hk hr => ⟨S', B', hk, hr⟩)

theorem vo_nil {ops : Array Oper} {K : St → Prop} (h : K S) : VO P n ops [] S K := fun _ _ B a w _ hR hk => hk S B a w h hR

/-- Is the operation to be done? -/
def guardOn (ops : Array Oper) (S : St) (o : Oper) : Option Bool :=
  match o.guard with
  | none => some true
  | some (j, want) =>
    match (ops[j]?).bind (·.dst) with
    | none => none
    | some t => match S.slot t with
      | .one (.g (.bool b)) => some (b == want)
      | .tup [] => some false
      | _ => none

theorem guard_wanted {C : Ctx} {B : Pl} {a : Act} {w : World} (hR : Rel C S B a w) {ops : Array Oper} {o : Oper} {b : Bool} (h : guardOn ops S o = some b)
    (ht : ∀ j want t, o.guard = some (j, want) → (ops[j]?).bind (·.dst) = some t → t < C.n) : Region.wanted o (yielded ops a.tmps) = b := by
  unfold guardOn at h
  unfold Region.wanted
  split at h
  · rename_i hg; rw [hg]; simpa using h
  · rename_i j want hg
    rw [hg]
    split at h
    · cases h
    · rename_i t hj
      split at h
      · rename_i c hs
        simp at h
        have htn := ht j want t hg hj
        have hv' : a.tmps.getD t undef = .bool c := ev_g hR (x := .tmp t) hs
        have hlt : t < a.tmps.size := by rw [hR.size]; exact htn
        have this : a.tmps[t]? = some (.bool c) := by
          rw [Array.getElem?_eq_getElem hlt]
          congr 1
          simpa [Array.getD, hlt] using hv'
        rw [← h]
        simp only [yielded, hj, Option.bind_some, this]
        cases c <;> cases want <;> rfl
      · rename_i hs
        cases h
        have hv : SRep (LRep w C.din S B) (.tup []) (a.tmps.getD t undef) := by rw [← hs]; exact hR.slots t
        obtain ⟨vs, hv, ha⟩ := hv
        have hlt : t < a.tmps.size := by rw [hR.size]; exact ht j want t hg hj
        have this : a.tmps[t]? = some (.tuple vs) := by
          rw [Array.getElem?_eq_getElem hlt]
          congr 1
          simpa [Array.getD, hlt] using hv
        simp only [yielded, hj, Option.bind_some, this]
        rfl
      · cases h

/-- All slots that a region names as places lie in the frame. -/
def dstsIn (n : Nat) (ops : Array Oper) : Bool := ops.toList.all fun o => match o.dst with | some t => t < n | none => true

theorem dstsIn_of {ops : Array Oper} (h : dstsIn n ops = true) {i : Nat} {o : Oper} (ho : ops[i]? = some o) : ∀ t, o.dst = some t → t < n := by
  intro t ht
  unfold dstsIn at h
  rw [List.all_eq_true] at h
  have := h o (Array.mem_toList_iff.2 (Array.mem_of_getElem? ho))
  simpa [ht] using this

theorem vo_op {ops : Array Oper} {i : Nat} {rest : List Nat} {K : St → Prop} (hin : dstsIn n ops = true) {o : Oper} (hi : ops[i]? = some o) (hg : guardOn ops S o = some true) {e : Eff} (he : OpL P S o e)
    (h : VO P n ops rest (S.app o.dst e) K) : VO P n ops (i :: rest) S K := by
  intro Q C B a w hn hR hk
  have hw := guard_wanted hR hg (fun j want t _ hj => by
    cases hjj : ops[j]? with
    | none => simp [hjj] at hj
    | some oj => simp [hjj] at hj; rw [hn]; exact dstsIn_of hin hjj t hj)
  obtain ⟨nx, v, w', B', hrun, hnx, hr⟩ := he S (fun _ _ => rfl) (fun _ _ => rfl) (fun _ _ => rfl) C B a w hR (fun t ht => by rw [hn]; exact dstsIn_of hin hi t ht)
  simp only [wpOps, hi, hw, if_true]
  refine .inl ?_
  unfold Oper.wp
  rw [hrun]
  rcases hnx with rfl | ⟨rfl, rfl⟩
  · exact h Q C B' _ w' hn hr hk
  · exact h Q C B' _ w' hn hr hk

theorem vo_off {ops : Array Oper} {i : Nat} {rest : List Nat} {K : St → Prop} (hin : dstsIn n ops = true) {o : Oper} (hi : ops[i]? = some o) (hg : guardOn ops S o = some false)
    (h : VO P n ops rest (S.put o.dst (.tup [])) K) : VO P n ops (i :: rest) S K := by
  intro Q C B a w hn hR hk
  have hw := guard_wanted hR hg (fun j want t _ hj => by
    cases hjj : ops[j]? with
    | none => simp [hjj] at hj
    | some oj => simp [hjj] at hj; rw [hn]; exact dstsIn_of hin hjj t hj)
  simp only [wpOps, hi, hw]
  exact h Q C B _ w hn (hR.put o.dst (.tup []) undef ⟨#[], rfl, trivial⟩ (fun t ht => by rw [hn]; exact dstsIn_of hin hi t ht)) hk
end
end Go.Vl

/- V-logic, part i: code: sequences, branches, blocks, loops, regions in the text's order. -/
import Derived.Test.YtdijjjgplhbkkaaGreatDoorWb
import Derived.Scope
import Derived.Deep.LoopGhost
set_option linter.unusedSimpArgs false
set_option linter.unusedVariables false
set_option linter.unnecessarySimpa false
namespace Go.Vl
open Go Go.RowKit
abbrev Post := Exit → St → Prop
def up (C : Ctx) (Q : Post) (e : Exit) (a : Act) (w : World) : Prop := ∃ S B, Q e S ∧ Rel C S B a w
def VC (P : Program) (n : Nat) (c : Code) (S : St) (Q : Post) : Prop :=
  ∀ C B a w, C.n = n → Rel C S B a w → c.wp P (up C Q) a w
def VO (P : Program) (n : Nat) (ops : Array Oper) (l : List Nat) (S : St) (K : St → Prop) : Prop :=
  ∀ (Q : Exit → Act → World → Prop) C B a w, C.n = n → Rel C S B a w → (∀ S' B' a' w', K S' → Rel C S' B' a' w' → Q .normal a' w') → wpOps P ops Q l a w
def onNormal (K : St → Prop) (Q : Post) : Post
  | .normal, S => K S
  | e, S => Q e S
def onExit (id : Nat) (Q : Post) : Post
  | .exit i, S => if i = id then Q .normal S else Q (.exit i) S
  | e, S => Q e S
section
variable {P : Program} {n : Nat} {S : St} {Q : Post}
theorem VC.mono {c : Code} {Q' : Post} (h : VC P n c S Q) (hq : ∀ e S, Q e S → Q' e S) : VC P n c S Q' :=
  fun C B a w hn hR => wp_mono (h C B a w hn hR) fun _ _ _ ⟨S', B', hQ, hr⟩ => ⟨S', B', hq _ _ hQ, hr⟩
theorem vc_skip (h : Q .normal S) : VC P n .skip S Q := fun _ B _ _ _ hR => wp_skip ⟨S, B, h, hR⟩
theorem vc_label {l : Nat} (h : Q .normal S) : VC P n (.label l) S Q := fun _ B _ _ _ hR => wp_label ⟨S, B, h, hR⟩
theorem vc_exit {id : Nat} (h : Q (.exit id) S) : VC P n (.exit id) S Q := fun _ B _ _ _ hR => wp_exit ⟨S, B, h, hR⟩
theorem vc_ret (h : Q .ret S) : VC P n .ret S Q := fun _ B _ _ _ hR => wp_ret ⟨S, B, h, hR⟩
theorem vc_seq {x y : Code} (h : VC P n x S (onNormal (fun S' => VC P n y S' Q) Q)) : VC P n (.seq x y) S Q := by
  intro C B a w hn hR
  refine wp_seq (wp_mono (h C B a w hn hR) fun e a' w' hq => ?_)
  obtain ⟨S', B', hq, hr⟩ := hq
  cases e with
  | normal => exact hq C B' a' w' hn hr
  | _ => exact ⟨S', B', hq, hr⟩
theorem vc_cond {c : Operand} {x y : Code} {b : Bool} (hc : ev S c = .one (.g (.bool b))) (ht : b = true → VC P n x S Q) (hf : b = false → VC P n y S Q) : VC P n (.cond c x y) S Q := by
  intro C B a w hn hR
  have hv := ev_g hR hc
  exact wp_cond_split hv (fun e => ht e C B a w hn hR) (fun e => hf e C B a w hn hR)
theorem vc_block {id : Nat} {c : Code} (h : VC P n c S (onExit id Q)) : VC P n (.block id c) S Q := by
  intro C B a w hn hR
  refine wp_block (wp_mono (h C B a w hn hR) fun e a' w' hq => ?_)
  obtain ⟨S', B', hq, hr⟩ := hq
  cases e with
  | exit i =>
    simp only [onExit] at hq
    simp only [Exit.inBlock]
    split
    · rename_i hi; rw [if_pos hi] at hq; exact ⟨S', B', hq, hr⟩
    · rename_i hi; rw [if_neg hi] at hq; exact ⟨S', B', hq, hr⟩
  | _ => exact ⟨S', B', hq, hr⟩
theorem vc_scope {c : Code} (h : VC P n c S (fun e S' => match e with | .goto _ => False | e => Q e S')) : VC P n (.scope c) S Q := by
  intro C B a w hn hR
  refine wp_scope_straight (wp_mono (h C B a w hn hR) fun e a' w' hq => ?_)
  obtain ⟨S', B', hq, hr⟩ := hq
  cases e with
  | goto l => exact hq.elim
  | _ => exact ⟨S', B', hq, hr⟩
def Wk (n : Nat) (S S' : St) : Prop := ∀ C B a w, C.n = n → Rel C S B a w → ∃ B', Rel C S' B' a w
theorem VC.wk {S' : St} {c : Code} (h : VC P n c S' Q) (hw : Wk n S S') : VC P n c S Q := fun C B a w hn hR =>
  let ⟨B', hR'⟩ := hw C B a w hn hR
  h C B' a w hn hR'
theorem vc_loop {α : Type} {c : Code} (st : α → St) (μ : α → Nat) (x : α) (h0 : Wk n S (st x))
    (round : ∀ x, VC P n c (st x) (onNormal (fun S' => ∃ y, μ y < μ x ∧ Wk n S' (st y)) Q)) : VC P n (.loop c) S Q := by
  intro C B a w hn hR
  obtain ⟨B0, hR0⟩ := h0 C B a w hn hR
  refine wp_loop_ghost (fun k a w => ∃ x B, μ x = k ∧ Rel C (st x) B a w) (μ x) ⟨x, B0, rfl, hR0⟩ fun k a w hI => ?_
  obtain ⟨x, B, rfl, hR⟩ := hI
  refine wp_mono (round x C B a w hn hR) fun e a' w' hq => ?_
  obtain ⟨S', B', hq, hr⟩ := hq
  cases e with
  | normal =>
    obtain ⟨y, hlt, hw⟩ := hq
    obtain ⟨B2, hR2⟩ := hw C B' a' w' hn hr
    exact ⟨μ y, hlt, y, B2, rfl, hR2⟩
  | _ => exact ⟨S', B', hq, hr⟩
theorem vc_region {id : Nat} {ops : Array Oper} (h : VO P n ops (List.range ops.size) S (fun S' => Q .normal S')) : VC P n (.region id ops false) S Q := by
  intro C B a w hn hR
  exact wp_region (h _ C B a w hn hR fun S' B' a' w' hk hr => ⟨S', B', hk, hr⟩)
theorem vo_nil {ops : Array Oper} {K : St → Prop} (h : K S) : VO P n ops [] S K := fun _ _ B a w _ hR hk => hk S B a w h hR
def guardOn (ops : Array Oper) (S : St) (o : Oper) : Option Bool :=
  match o.guard with
  | none => some true
  | some (j, want) =>
    match (ops[j]?).bind (·.dst) with
    | none => none
    | some t => match S.slot t with
      | .one (.g (.bool b)) => some (b == want)
      | .tup [] => some false
      | _ => none
theorem guard_wanted {C : Ctx} {B : Pl} {a : Act} {w : World} (hR : Rel C S B a w) {ops : Array Oper} {o : Oper} {b : Bool} (h : guardOn ops S o = some b)
    (ht : ∀ j want t, o.guard = some (j, want) → (ops[j]?).bind (·.dst) = some t → t < C.n) : Region.wanted o (yielded ops a.tmps) = b := by
  unfold guardOn at h
  unfold Region.wanted
  split at h
  · rename_i hg; rw [hg]; simpa using h
  · rename_i j want hg
    rw [hg]
    split at h
    · cases h
    · rename_i t hj
      split at h
      · rename_i c hs
        simp at h
        have htn := ht j want t hg hj
        have hv' : a.tmps.getD t undef = .bool c := ev_g hR (x := .tmp t) hs
        have hlt : t < a.tmps.size := by rw [hR.size]; exact htn
        have this : a.tmps[t]? = some (.bool c) := by
          rw [Array.getElem?_eq_getElem hlt]
          congr 1
          simpa [Array.getD, hlt] using hv'
        rw [← h]
        simp only [yielded, hj, Option.bind_some, this]
        cases c <;> cases want <;> rfl
      · rename_i hs
        cases h
        have hv : SRep (LRep w C.din S B) (.tup []) (a.tmps.getD t undef) := by rw [← hs]; exact hR.slots t
        obtain ⟨vs, hv, ha⟩ := hv
        have hlt : t < a.tmps.size := by rw [hR.size]; exact ht j want t hg hj
        have this : a.tmps[t]? = some (.tuple vs) := by
          rw [Array.getElem?_eq_getElem hlt]
          congr 1
          simpa [Array.getD, hlt] using hv
        simp only [yielded, hj, Option.bind_some, this]
        rfl
      · cases h
def dstsIn (n : Nat) (ops : Array Oper) : Bool := ops.toList.all fun o => match o.dst with | some t => t < n | none => true
theorem dstsIn_of {ops : Array Oper} (h : dstsIn n ops = true) {i : Nat} {o : Oper} (ho : ops[i]? = some o) : ∀ t, o.dst = some t → t < n := by
  intro t ht
  unfold dstsIn at h
  rw [List.all_eq_true] at h
  have := h o (Array.mem_toList_iff.2 (Array.mem_of_getElem? ho))
  simpa [ht] using this
theorem vo_op {ops : Array Oper} {i : Nat} {rest : List Nat} {K : St → Prop} (hin : dstsIn n ops = true) {o : Oper} (hi : ops[i]? = some o) (hg : guardOn ops S o = some true) {e : Eff} (he : OpL P S o e)
    (h : VO P n ops rest (S.app o.dst e) K) : VO P n ops (i :: rest) S K := by
  intro Q C B a w hn hR hk
  have hw := guard_wanted hR hg (fun j want t _ hj => by
    cases hjj : ops[j]? with
    | none => simp [hjj] at hj
    | some oj => simp [hjj] at hj; rw [hn]; exact dstsIn_of hin hjj t hj)
  obtain ⟨nx, v, w', B', hrun, hnx, hr⟩ := he S (fun _ _ => rfl) (fun _ _ => rfl) (fun _ _ => rfl) C B a w hR (fun t ht => by rw [hn]; exact dstsIn_of hin hi t ht)
  simp only [wpOps, hi, hw, if_true]
  refine .inl ?_
  unfold Oper.wp
  rw [hrun]
  rcases hnx with rfl | ⟨rfl, rfl⟩
  · exact h Q C B' _ w' hn hr hk
  · exact h Q C B' _ w' hn hr hk
theorem vo_off {ops : Array Oper} {i : Nat} {rest : List Nat} {K : St → Prop} (hin : dstsIn n ops = true) {o : Oper} (hi : ops[i]? = some o) (hg : guardOn ops S o = some false)
    (h : VO P n ops rest (S.put o.dst (.tup [])) K) : VO P n ops (i :: rest) S K := by
  intro Q C B a w hn hR hk
  have hw := guard_wanted hR hg (fun j want t _ hj => by
    cases hjj : ops[j]? with
    | none => simp [hjj] at hj
    | some oj => simp [hjj] at hj; rw [hn]; exact dstsIn_of hin hjj t hj)
  simp only [wpOps, hi, hw]
  exact h Q C B _ w hn (hR.put o.dst (.tup []) undef ⟨#[], rfl, trivial⟩ (fun t ht => by rw [hn]; exact dstsIn_of hin hi t ht)) hk
end
end Go.Vl
namespace Go.Vl
open Go Go.RowKit
def Ent (P : Program) (f : FuncId) : Prop := ∀ (args : Array Value) (w : World), (callFunc f args).run P w = .ok (.enter f args) w
theorem ent_of {P : Program} {f : FuncId} {fn : Func} {c : Code} (hf : P.funcs[f]? = some fn) (hname : (fn.name == "runtime.NumGoroutine") = false) (hb : fn.body = some c) : Ent P f := by
  intro args w
  have h1 : fn.name ≠ "runtime.NumGoroutine" := by simpa using hname
  simp [callFunc, hf, h1, hb, mark]
def So (objs : List Ob) : St := ⟨fun _ => .bad, fun o => objs[o]?⟩
def Sr (outs : List (Option Ob)) (news : List Ob) : St := ⟨fun _ => .bad, fun o => if o < outs.length then (outs[o]?).join else news[o - outs.length]?⟩
structure ArgsOk (w : World) (D : Nat → Prop) (objs : List Ob) (B : Pl) : Prop where
  obs : ∀ o ob, objs[o]? = some ob → ObRep w D (So objs) B o ob
  injO : ∀ o o' b, (So objs).obj o ≠ none → (So objs).obj o' ≠ none → Ow B o b → Ow B o' b → o = o'
  ltO : ∀ o b, (So objs).obj o ≠ none → Ow B o b → b < w.heap.size
  lay : LayC w (fun b => ∃ o, (So objs).obj o ≠ none ∧ Ow B o b)
def ioOf (objs : List Ob) (B : Pl) (b : Nat) : Prop := ∃ o, (So objs).obj o ≠ none ∧ Ow B o b
def dinOf (w : World) (D : Nat → Prop) (objs : List Ob) (B : Pl) (b : Nat) : Prop := D b ∨ ioOf objs B b ∨ w.heap.size ≤ b
structure ResOk (w w' : World) (D : Nat → Prop) (objs : List Ob) (B : Pl) (outs : List (Option Ob)) (news : List Ob) (B' : Pl) : Prop where
  len : outs.length = objs.length
  obs : ∀ o ob, (Sr outs news).obj o = some ob → ObRep w' D (Sr outs news) B' o ob
  injO : ∀ o o' b, (Sr outs news).obj o ≠ none → (Sr outs news).obj o' ≠ none → Ow B' o b → Ow B' o' b → o = o'
  place : ∀ o, o < objs.length → (Sr outs news).obj o ≠ none → B' o = B o
  ltO : ∀ o b, (Sr outs news).obj o ≠ none → Ow B' o b → b < w'.heap.size ∧ (w.heap.size ≤ b ∨ ioOf objs B b)
  frame : Kp (ioOf objs B) w w'
  shape : ∀ o ob, o < objs.length → (Sr outs news).obj o = some ob → ∃ ob0, objs[o]? = some ob0 ∧ SameShape ob0 ob
def CallsV (P : Program) (f : FuncId) (args : List Slot) (objs : List Ob) (Post : Slot → List (Option Ob) → List Ob → Prop) : Prop :=
  Ent P f ∧ ∀ (w : World) (B : Pl) (D : Nat → Prop) (vals : Array Value), ArgsOk w D objs B → All2 (SRep (LRep w D (So objs) B)) args vals.toList →
    Calls P f vals w fun e w' => ∃ v s outs news B', e = .returned v ∧ Post s outs news ∧ ResOk w w' (dinOf w D objs B) objs B outs news B' ∧ SRep (LRep w' (dinOf w D objs B) (Sr outs news) B') s v
theorem CallsV.mono {P : Program} {f : FuncId} {args : List Slot} {objs : List Ob} {Q R : Slot → List (Option Ob) → List Ob → Prop} (h : CallsV P f args objs Q) (hq : ∀ s o n, Q s o n → R s o n) : CallsV P f args objs R :=
  ⟨h.1, fun w B D vals h1 h2 => (h.2 w B D vals h1 h2).mono fun _ _ ⟨v, s, outs, news, B', he, hp, hr, hs⟩ => ⟨v, s, outs, news, B', he, hq _ _ _ hp, hr, hs⟩⟩
def rn (ρ : Nat → Option Nat) : Leaf → Leaf
  | .own o a b => match ρ o with | some o' => .own o' a b | none => .bad
  | .ptr o k => match ρ o with | some o' => .ptr o' k | none => .bad
  | .elm o i j => match ρ o with | some o' => .elm o' i j | none => .bad
  | .clo f os => match os.mapM ρ with | some os' => .clo f os' | none => .bad
  | .mp o => match ρ o with | some o' => .mp o' | none => .bad
  | l => l
def rnS (ρ : Nat → Option Nat) : Slot → Slot
  | .one l => .one (rn ρ l)
  | .agg ls => .agg (ls.map (rn ρ))
  | .tup xs => .tup (xs.map fun x => (x.1, x.2.map (rn ρ)))
  | .bad => .bad
def rnO (ρ : Nat → Option Nat) : Ob → Ob
  | .box ls => .box (ls.map (rn ρ))
  | .reg E sz rows hs => .reg E sz rows (hs.map fun h => (h.1, h.2.1, rn ρ h.2.2))
  | ob => ob
section
variable {w w' : World} {D D' : Nat → Prop} {S S' : St} {B B' : Pl} {ρ : Nat → Option Nat}
theorem all2_mapM {α : Type} {R : Nat → α → Prop} {R' : Nat → α → Prop} (h : ∀ o o' x, ρ o = some o' → R o x → R' o' x) : ∀ {os os' : List Nat} {xs : List α}, os.mapM ρ = some os' → All2 R os xs → All2 R' os' xs
  | [], os', xs, hm, ha => by simp at hm; subst hm; cases xs <;> simp_all [All2]
  | o :: os, os', xs, hm, ha => by
    cases xs with
    | nil => exact ha.elim
    | cons x xs =>
      simp [List.mapM_cons, Option.bind_eq_some_iff] at hm
      obtain ⟨o', ho, os'', hos, rfl⟩ := hm
      exact ⟨h _ _ _ ho ha.1, all2_mapM h hos ha.2⟩
def isMem : Leaf → Bool
  | .imm _ _ => true
  | .iel _ _ => true
  | _ => false
theorem LRep.mem (hs : w.heap.size ≤ w'.heap.size)
    (hh : ∀ b, dep D S B b → b < w.heap.size → w'.heap[b]? = w.heap[b]?) (hD : ∀ b, dep D S B b → b < w.heap.size → dep D' S' B' b) :
    ∀ {l : Leaf} {v : Value}, isMem l = true → LRep w D S B l v → LRep w' D' S' B' l v := by
  intro l v hm h
  cases l <;> simp [isMem] at hm
  case imm sz rows => exact RepL_mono hs hh hD _ _ h
  case iel r j =>
    obtain ⟨a, hv, hd, hl, hr⟩ := h
    exact ⟨a, hv, hD _ hd hl, Nat.lt_of_lt_of_le hl hs, RepR_mono hs hh hD a hd hl r 0 hr⟩
theorem LRep.rnM (hO : ∀ o o' ob, ρ o = some o' → S.obj o = some ob → B' o' = B o ∧ ∃ ob', S'.obj o' = some ob' ∧ SameShape ob ob') :
    ∀ {l : Leaf} {v : Value}, (isMem l = true → LRep w' D' S' B' l v) → LRep w D S B l v → LRep w' D' S' B' (rn ρ l) v := by
  intro l v hM h
  have h1 := h.oneCell
  cases l with
  | own o x y =>
    cases hr : ρ o with
    | none => have e : Vl.rn ρ (.own o x y) = .bad := by simp [Vl.rn, hr]
              rw [e]; exact h1
    | some o' =>
      have e : Vl.rn ρ (.own o x y) = .own o' x y := by simp [Vl.rn, hr]
      rw [e]
      obtain ⟨E, sz, rows, A, c, ho, h2, h3, h4, h5, h6⟩ := h
      obtain ⟨ob, hob, _⟩ := arr_obj ho
      obtain ⟨E', rows', ho', hl⟩ := SameShape.arr (fun ob hx => (hO o o' ob hr hx).2) ho
      exact ⟨_, _, _, A, c, ho', by omega, h3, h4, h5, by rw [(hO o o' ob hr hob).1]; exact h6⟩
  | ptr o x =>
    cases hr : ρ o with
    | none => have e : Vl.rn ρ (.ptr o x) = .bad := by simp [Vl.rn, hr]
              rw [e]; exact h1
    | some o' =>
      have e : Vl.rn ρ (.ptr o x) = .ptr o' x := by simp [Vl.rn, hr]
      rw [e]
      obtain ⟨b, n, ls, ho, hb, hv⟩ := h
      obtain ⟨hB, ob', ho', hm⟩ := hO o o' _ hr ho
      obtain ⟨ls', rfl⟩ := hm.box
      exact ⟨b, n, _, ho', by rw [hB]; exact hb, hv⟩
  | elm o x y =>
    cases hr : ρ o with
    | none => have e : Vl.rn ρ (.elm o x y) = .bad := by simp [Vl.rn, hr]
              rw [e]; exact h1
    | some o' =>
      have e : Vl.rn ρ (.elm o x y) = .elm o' x y := by simp [Vl.rn, hr]
      rw [e]
      obtain ⟨E, sz, rows, b, n, ho, hi, hb, hv⟩ := h
      obtain ⟨ob, hob, _⟩ := arr_obj ho
      obtain ⟨E', rows', ho', hl⟩ := SameShape.arr (fun ob hx => (hO o o' ob hr hx).2) ho
      exact ⟨_, _, _, b, n, ho', by omega, by rw [(hO o o' ob hr hob).1]; exact hb, hv⟩
  | mp o =>
    cases hr : ρ o with
    | none => have e : Vl.rn ρ (.mp o) = .bad := by simp [Vl.rn, hr]
              rw [e]; exact h1
    | some o' =>
      have e : Vl.rn ρ (.mp o) = .mp o' := by simp [Vl.rn, hr]
      rw [e]
      obtain ⟨b, n, es, ho, hb, hv⟩ := h
      obtain ⟨hB, ob', ho', hm⟩ := hO o o' _ hr ho
      obtain ⟨es', rfl⟩ := hm.map
      exact ⟨b, n, _, ho', by rw [hB]; exact hb, hv⟩
  | clo f os =>
    cases hr : os.mapM ρ with
    | none => have e : Vl.rn ρ (.clo f os) = .bad := by simp [Vl.rn, hr]
              rw [e]; exact h1
    | some os' =>
      have e : Vl.rn ρ (.clo f os) = .clo f os' := by simp [Vl.rn, hr]
      rw [e]
      obtain ⟨vs, hv, ha⟩ := h
      refine ⟨vs, hv, all2_mapM (fun o o' x ho hx => ?_) hr ha⟩
      obtain ⟨b, n, ls, ho2, hb, hx⟩ := hx
      obtain ⟨hB, ob', ho', hm⟩ := hO o o' _ ho ho2
      obtain ⟨ls', rfl⟩ := hm.box
      exact ⟨b, n, _, ho', by rw [hB]; exact hb, hx⟩
  | nst => exact h.elim
  | iel r j => exact hM rfl
  | bad => exact h
  | g x =>
    have h : RepL w (dep D S B) (.g x) v := h
    show RepL w' (dep D' S' B') (.g x) v
    rw [RepL.eq_1] at h ⊢; exact h
  | imm sz rows => exact hM rfl
  | err =>
    have h : RepL w (dep D S B) .err v := h
    show RepL w' (dep D' S' B') .err v
    rw [RepL.eq_3] at h ⊢; exact h
theorem LRep.rn (hs : w.heap.size ≤ w'.heap.size)
    (hh : ∀ b, dep D S B b → b < w.heap.size → w'.heap[b]? = w.heap[b]?) (hD : ∀ b, dep D S B b → b < w.heap.size → dep D' S' B' b)
    (hO : ∀ o o' ob, ρ o = some o' → S.obj o = some ob → B' o' = B o ∧ ∃ ob', S'.obj o' = some ob' ∧ SameShape ob ob') :
    ∀ {l : Leaf} {v : Value}, LRep w D S B l v → LRep w' D' S' B' (Vl.rn ρ l) v :=
  fun h => LRep.rnM hO (fun hm => LRep.mem hs hh hD hm h) h
theorem SRep.rnS {R R' : Leaf → Value → Prop} (h : ∀ l v, R l v → R' (Vl.rn ρ l) v) : ∀ {s : Slot} {v : Value}, SRep R s v → SRep R' (Vl.rnS ρ s) v
  | .one _, _, hs => h _ _ hs
  | .agg _, _, ⟨vs, hv, ha⟩ => ⟨vs, hv, All2.map_left (ha.mono fun l v => h l v)⟩
  | .tup _, _, ⟨vs, hv, ha⟩ => ⟨vs, hv, All2.map_left (ha.mono fun x u hx => by
      rcases hx with ⟨h1, cs, hu, hc⟩ | ⟨h1, l, hl, hr⟩
      · exact .inl ⟨h1, cs, hu, All2.map_left (hc.mono fun l v => h l v)⟩
      · exact .inr ⟨h1, Vl.rn ρ l, by simp [hl], h _ _ hr⟩)⟩
  | .bad, _, _ => trivial
theorem ObRep.rnO {o o' : Nat} {ob : Ob} (h : ObRep w D S B o ob) (hB : B' o' = B o) (hZ : B'.z o' = B.z o)
    (hl : ∀ l v, LRep w D S B l v → LRep w' D' S' B' (Vl.rn ρ l) v) (hr : ∀ l v, RepL w (dep D S B) l v → RepL w' (dep D' S' B') l v)
    (hh : ∀ b, Ow B o b → w'.heap[b]? = w.heap[b]?) : ObRep w' D' S' B' o' (Vl.rnO ρ ob) := by
  cases ob with
  | reg E sz rows hs =>
    rcases h with ⟨h1, h2, h3⟩ | ⟨b, n, cs, zf, hb, hc, hn, h1, h2, h3, h4⟩
    · exact .inl ⟨h1, hB.trans h2, by rw [hZ]; exact h3⟩
    · exact .inr ⟨b, n, cs, zf, hB.trans hb, (hh b (.at hb)).trans hc, hn, h1, h2, by rw [hZ]; exact h3, by rw [hZ]; exact h4.mono (Vl.rn ρ) hr (fun x hx => hh x (.inr hx)) fun l _ v => hl l v⟩
  | box ls => obtain ⟨b, n, cs, E, hb, hc, hn, ha⟩ := h; exact ⟨b, n, cs, E, hB.trans hb, (hh b (.at hb)).trans hc, hn, All2.map_left (ha.mono hl)⟩
  | arr E sz rows =>
    rcases h with h | ⟨b, n, cs, hb, hc, hn, h1, h2, h3⟩
    · exact .inl ⟨h.1, hB.trans h.2⟩
    · exact .inr ⟨b, n, cs, hB.trans hb, (hh b (.at hb)).trans hc, hn, h1, h2, fun i r hi => (h3 i r hi).mono hr⟩
  | map es => obtain ⟨b, n, ens, clock, hb, hc, he⟩ := h; exact ⟨b, n, ens, clock, hB.trans hb, (hh b (.at hb)).trans hc, he⟩
end
def resSlot (T : Tab) (S : St) : ResultVar → Option Slot
  | .tmp t => some (S.slot t)
  | .cell a ty => match S.slot a, T ty with
    | .one (.ptr q 0), some i => match S.obj q with
      | some (.box ls) => if i.size ≤ ls.length ∧ 1 ≤ ls.length then some (cut i ls) else none
      | _ => none
    | _, _ => none
def tupS : List Slot → Option (List (Bool × List Leaf))
  | [] => some []
  | .one l :: ss => (tupS ss).map ((false, [l]) :: ·)
  | .agg ls :: ss => (tupS ss).map ((true, ls) :: ·)
  | _ :: _ => none
def resAll : List Slot → Option Slot
  | [s] => some s
  | ss => (tupS ss).map .tup
section
variable {P : Program} {T : Tab} {C : Ctx} {S : St} {B : Pl} {a : Act} {w : World}
def resSem (tmps : Array Value) : ResultVar → Sem Value
  | .tmp t => pure (tmps.getD t undef)
  | .cell b t => do loadVar t (← asAddr (tmps.getD b undef))
theorem results_eq (fn : Func) (tmps : Array Value) : results fn tmps = (do let vs ← fn.results.mapM (resSem tmps); pure (if h : vs.size = 1 then vs[0] else .tuple vs)) := by
  unfold results
  congr 2
theorem run_resSlot (hT : TabOk P T) (hR : Rel C S B a w) {r : ResultVar} {s : Slot} (h : resSlot T S r = some s) :
    ∃ v, (resSem a.tmps r).run P w = .ok v w ∧ SRep (LRep w C.din S B) s v := by
  cases r with
  | tmp t => simp [resSlot] at h; subst h; exact ⟨_, rfl, hR.slots t⟩
  | cell p ty =>
    simp only [resSlot] at h
    split at h
    · rename_i q i hs hi
      split at h
      · rename_i ls hq
        split at h
        · rename_i hc
          simp at h; subst h
          have hv := hR.slots p
          rw [hs] at hv
          obtain ⟨b, n, ls', h1, h2, h3⟩ := hv
          obtain ⟨b', n', cs, E, h4, h5, h6, h7⟩ := hR.objs q _ hq
          rw [h2] at h4; cases h4
          obtain ⟨v, hrun, hs⟩ := run_loadAt (P := P) (w := w) hT hi (R := LRep w C.din S B) (ls := ls) (a := ⟨b, 0, none⟩) (fun j l hj => by
            obtain ⟨x, hx, hr⟩ := h7.get j l hj
            refine ⟨x, ?_, hr⟩
            rw [add_mk, cell_blk h5]; simpa using hx) hc.1 hc.2
          refine ⟨v, ?_, hs⟩
          simp only [resSem, h3]
          simpa [Instr.loadAt, Instr.sureAddr, asAddr] using hrun
        · cases h
      · cases h
    · cases h
theorem tupS_rep {R : Leaf → Value → Prop} : ∀ {ss : List Slot} {xs : List (Bool × List Leaf)} {vs : List Value}, tupS ss = some xs → All2 (SRep R) ss vs →
    All2 (fun x u => (x.1 = true ∧ ∃ cs, u = Value.agg cs ∧ All2 R x.2 cs.toList) ∨ (x.1 = false ∧ ∃ l, x.2 = [l] ∧ R l u)) xs vs
  | [], xs, vs, h, ha => by simp [tupS] at h; subst h; cases vs <;> simp_all [All2]
  | s :: ss, xs, vs, h, ha => by
    cases vs with
    | nil => exact ha.elim
    | cons v vs =>
      cases s with
      | one l =>
        simp [tupS] at h; obtain ⟨ys, hy, rfl⟩ := h
        exact ⟨.inr ⟨rfl, l, rfl, ha.1⟩, tupS_rep hy ha.2⟩
      | agg ls =>
        simp [tupS] at h; obtain ⟨ys, hy, rfl⟩ := h
        exact ⟨.inl ⟨rfl, ha.1⟩, tupS_rep hy ha.2⟩
      | _ => simp [tupS] at h
theorem run_results (hT : TabOk P T) (hR : Rel C S B a w) {fn : Func} {ss : List Slot} (hs : fn.results.toList.mapM (resSlot T S) = some ss) {s : Slot} (h : resAll ss = some s) :
    ∃ v, (results fn a.tmps).run P w = .ok v w ∧ SRep (LRep w C.din S B) s v := by
  have key : ∀ (rs : List ResultVar) (ss : List Slot), rs.mapM (resSlot T S) = some ss →
      ∃ vs : List Value, (rs.mapM (resSem a.tmps)).run P w = .ok vs w ∧ All2 (SRep (LRep w C.din S B)) ss vs := by
    intro rs
    induction rs with
    | nil => intro ss h; simp at h; subst h; exact ⟨[], rfl, trivial⟩
    | cons r rs ih =>
      intro ss h
      simp [List.mapM_cons, Option.bind_eq_some_iff] at h
      obtain ⟨s, hs, ss', hss, rfl⟩ := h
      obtain ⟨v, hv, hr⟩ := run_resSlot hT hR hs
      obtain ⟨vs, hvs, ha⟩ := ih ss' hss
      refine ⟨v :: vs, ?_, hr, ha⟩
      rw [List.mapM_cons]
      simp only [Sem.run_bind, hv, hvs, Result.andThen_ok, Sem.run_pure]
  obtain ⟨vs, hvs, ha⟩ := key _ _ hs
  have hm : (fn.results.mapM (resSem a.tmps)).run P w = .ok vs.toArray w := by
    rw [Array.mapM_eq_mapM_toList]
    simp only [Sem.run_map, hvs]
    rfl
  cases ss with
  | nil =>
    have : vs = [] := ha.nil_left
    subst this
    simp [resAll, tupS] at h; subst h
    refine ⟨.tuple #[], ?_, ⟨_, rfl, trivial⟩⟩
    rw [results_eq, Sem.run_bind, hm]; rfl
  | cons s1 ss =>
    obtain ⟨v1, vs', rfl, h1, h2⟩ := ha.cons_left
    cases ss with
    | nil =>
      have : vs' = [] := h2.nil_left
      subst this
      simp [resAll] at h; subst h
      refine ⟨v1, ?_, h1⟩
      rw [results_eq, Sem.run_bind, hm]; rfl
    | cons s2 ss =>
      obtain ⟨v2, vs'', rfl, h3, h4⟩ := h2.cons_left
      simp only [resAll, Option.map_eq_some_iff] at h
      obtain ⟨xs, hx, rfl⟩ := h
      have ht := tupS_rep hx ha
      refine ⟨.tuple (v1 :: v2 :: vs'').toArray, ?_, ⟨_, rfl, ht⟩⟩
      rw [results_eq, Sem.run_bind, hm]; simp
end
end Go.Vl
namespace Go.Vl
open Go Go.RowKit
def S0 (args : List Slot) (objs : List Ob) : St := ⟨fun t => (args[t]?).getD .bad, fun o => objs[o]?⟩
def rho (k : Nat) (ids : List Nat) (o : Nat) : Option Nat := if o < k then some o else (ids.idxOf? o).map (k + ·)
def outsOf (k : Nat) (ids : List Nat) (S : St) : List (Option Ob) := (List.range k).map fun o => (S.obj o).map (rnO (rho k ids))
def RetOk (T : Tab) (fn : Func) (k : Nat) (S : St) (Post : Slot → List (Option Ob) → List Ob → Prop) : Prop :=
  ∃ ss s ids obs, fn.results.toList.mapM (resSlot T S) = some ss ∧ resAll ss = some s ∧ ids.mapM S.obj = some obs ∧ ids.Nodup ∧ (∀ i ∈ ids, k ≤ i) ∧
    Post (rnS (rho k ids) s) (outsOf k ids S) (obs.map (rnO (rho k ids)))
def retQ (T : Tab) (fn : Func) (k : Nat) (Post : Slot → List (Option Ob) → List Ob → Prop) : Go.Vl.Post := fun e S =>
  match e with
  | .normal | .ret => RetOk T fn k S Post
  | _ => False
theorem mapM_get {α β : Type} {f : α → Option β} : ∀ {as : List α} {bs : List β}, as.mapM f = some bs → ∀ (i : Nat) (b : β), bs[i]? = some b ↔ ∃ a, as[i]? = some a ∧ f a = some b ∧ bs[i]? = some b
  | [], bs, h, i, b => by simp at h; subst h; simp
  | a :: as, bs, h, i, b => by
    simp [List.mapM_cons, Option.bind_eq_some_iff] at h
    obtain ⟨b0, h0, bs', hbs, rfl⟩ := h
    cases i with
    | zero => simp; intro e; rw [← e]; exact h0
    | succ i => simpa using mapM_get hbs i b
theorem mapM_length {α β : Type} {f : α → Option β} : ∀ {as : List α} {bs : List β}, as.mapM f = some bs → as.length = bs.length
  | [], bs, h => by simp at h; subst h; rfl
  | a :: as, bs, h => by
    simp [List.mapM_cons, Option.bind_eq_some_iff] at h
    obtain ⟨b0, h0, bs', hbs, rfl⟩ := h
    simp [mapM_length hbs]
theorem idxOf?_spec {l : List Nat} {x i : Nat} (h : l.idxOf? x = some i) : l[i]? = some x := by
  unfold List.idxOf? at h
  rw [List.findIdx?_eq_some_iff_getElem] at h
  obtain ⟨hlt, hx, _⟩ := h
  rw [List.getElem?_eq_getElem hlt]
  simpa using hx
theorem idxOf?_of {l : List Nat} (hn : l.Nodup) {x i : Nat} (h : l[i]? = some x) : l.idxOf? x = some i := by
  unfold List.idxOf?
  rw [List.findIdx?_eq_some_iff_getElem]
  obtain ⟨hlt, hx⟩ := List.getElem?_eq_some_iff.1 h
  refine ⟨hlt, by simp [hx], fun j hj => ?_⟩
  intro he
  have he' : l[j] = x := by simpa using he
  rw [List.nodup_iff_pairwise_ne, List.pairwise_iff_getElem] at hn
  exact hn j i (by omega) hlt hj (by rw [he', hx])
section
variable {P : Program} {T : Tab}
theorem callsV_of (hT : TabOk P T) {f : FuncId} {fn : Func} {c : Code} {n : Nat} (hf : P.funcs[f]? = some fn) (hname : (fn.name == "runtime.NumGoroutine") = false) (hb : fn.body = some c) (hn : fn.ntmps = n)
    {args : List Slot} {objs : List Ob} (hk : objs.length ≤ 100) (hp : args.length ≤ n) {Post : Slot → List (Option Ob) → List Ob → Prop}
    (h : VC P n c (S0 args objs) (retQ T fn objs.length Post)) : CallsV P f args objs Post := by
  refine ⟨ent_of hf hname hb, fun w B D vals hA hargs => ?_⟩
  have hlen : vals.size = args.length := by have := hargs.length; simpa using this.symm
  let C : Ctx := ⟨w, ioOf objs B, dinOf w D objs B, n, objs.length, B, fun o => objs[o]?⟩
  have hDd : ∀ b, dep D (So objs) B b → b < w.heap.size → dep C.din (S0 args objs) B b := fun b hd _ => ⟨.inl hd.1, hd.2⟩
  have e : ∀ l v, LRep w D (So objs) B l v → LRep w C.din (S0 args objs) B l v := fun l v hl => by
    exact LRep.step (Nat.le_refl _) (fun _ _ _ => rfl) hDd (fun o ob ho => ⟨rfl, ob, ho, SameShape.refl ob⟩) hl
  have er : ∀ l v, RepL w (dep D (So objs) B) l v → RepL w (dep C.din (S0 args objs) B) l v := fun l v hl => RepL_mono (Nat.le_refl _) (fun _ _ _ => rfl) hDd l v hl
  have hR : Rel C (S0 args objs) B { tmps := vals ++ Array.replicate (fn.ntmps - vals.size) undef, defers := [] } w := by
    refine ⟨by simp [hn, C]; omega, rfl, fun t => ?_, fun o ob ho => ?_, hA.injO, fun o b ho hb => ?_, Kp.refl _ _, fun b hb => .inr (.inr hb), fun o _ _ => rfl, ⟨hk, hA.lay⟩, fun o ob _ ho => ⟨ob, ho, SameShape.refl ob⟩⟩
    · show SRep _ ((args[t]?).getD .bad) _
      cases ha : args[t]? with
      | none => trivial
      | some s =>
        obtain ⟨v, hv, hs⟩ := hargs.get t s ha
        have ht : t < vals.size := by
          rw [hlen]; rcases Nat.lt_or_ge t args.length with h | h; exact h; rw [List.getElem?_eq_none h] at ha; cases ha
        have hv' : vals[t]? = some v := by simpa using hv
        have : (vals ++ Array.replicate (fn.ntmps - vals.size) undef).getD t undef = v := by
          rw [Array.getElem?_eq_getElem ht] at hv'
          cases hv'
          simp [Array.getD, ht]; intro h; omega
        rw [this]
        exact hs.mono e
    · exact (hA.obs o ob ho).other rfl rfl e er fun _ _ => rfl
    · exact ⟨hA.ltO o b ho hb, .inr ⟨o, ho, hb⟩, .inr (.inl ⟨o, ho, hb⟩)⟩
  refine calls_of_wp hf hb (wp_mono (h C B _ w rfl hR) fun ex a' w' hq => ?_)
  obtain ⟨S', B', hQ, hR'⟩ := hq
  have fin : RetOk T fn objs.length S' Post → a'.defers = [] ∧ ∃ v, (results fn a'.tmps).run P w' = .ok v w' ∧
      ∃ v' s outs news B', Ending.returned v = .returned v' ∧ Post s outs news ∧ ResOk w w' (dinOf w D objs B) objs B outs news B' ∧ SRep (LRep w' (dinOf w D objs B) (Sr outs news) B') s v' := by
    rintro ⟨ss, s, ids, obs, hss, hs, hobs, hnd, hge, hP⟩
    obtain ⟨v, hrun, hsr⟩ := run_results hT hR' hss hs
    refine ⟨hR'.defers, v, hrun, v, _, _, _, ⟨fun o => if o < objs.length then B' o else ((ids[o - objs.length]?).map B'.f).join, fun o => if o < objs.length then B'.z o else ((ids[o - objs.length]?).map B'.z).getD (fun _ => False)⟩, rfl, hP, ?_, ?_⟩
    all_goals
      generalize hB2 : (⟨fun o => if o < objs.length then B' o else ((ids[o - objs.length]?).map B'.f).join, fun o => if o < objs.length then B'.z o else ((ids[o - objs.length]?).map B'.z).getD (fun _ => False)⟩ : Pl) = B2
      have hB2a : ∀ o, o < objs.length → B2 o = B' o ∧ B2.z o = B'.z o := fun o ho => by rw [← hB2]; exact ⟨if_pos ho, if_pos ho⟩
      have hB2b : ∀ o i, ¬ o < objs.length → ids[o - objs.length]? = some i → B2 o = B' i ∧ B2.z o = B'.z i := fun o i ho hi => by rw [← hB2]; simp [ho, hi]
      have hol : (outsOf objs.length ids S').length = objs.length := by simp [outsOf]
      have back : ∀ o ob, (Sr (outsOf objs.length ids S') (obs.map (rnO (rho objs.length ids)))).obj o = some ob →
          ∃ i ob0, S'.obj i = some ob0 ∧ ob = rnO (rho objs.length ids) ob0 ∧ rho objs.length ids i = some o ∧ B2 o = B' i ∧ B2.z o = B'.z i := by
        intro o ob ho
        simp only [Sr, hol] at ho
        by_cases hlt : o < objs.length
        · rw [if_pos hlt] at ho
          simp [outsOf, hlt] at ho
          obtain ⟨ob0, h0, rfl⟩ := ho
          exact ⟨o, ob0, h0, rfl, by simp [rho, hlt], hB2a o hlt⟩
        · rw [if_neg hlt] at ho
          simp at ho
          obtain ⟨ob0, h0, rfl⟩ := ho
          obtain ⟨i, hi, hoi, _⟩ := (mapM_get hobs _ _).1 h0
          have hil := hge i (List.mem_of_getElem? hi)
          exact ⟨i, ob0, hoi, rfl, by simp [rho, Nat.not_lt.2 hil, idxOf?_of hnd hi]; omega, hB2b o i hlt hi⟩
      have fwd : ∀ i o ob, rho objs.length ids i = some o → S'.obj i = some ob → B2 o = B' i ∧ ∃ ob', (Sr (outsOf objs.length ids S') (obs.map (rnO (rho objs.length ids)))).obj o = some ob' ∧ SameShape ob ob' := by
        intro i o ob hr ho
        unfold rho at hr
        by_cases hlt : i < objs.length
        · rw [if_pos hlt] at hr
          cases hr
          refine ⟨(hB2a i hlt).1, rnO (rho objs.length ids) ob, ?_, by cases ob <;> simp [rnO, SameShape]⟩
          simp only [Sr, hol]
          rw [if_pos hlt]
          simp [outsOf, hlt, ho]
        · rw [if_neg hlt] at hr
          simp at hr
          obtain ⟨j, hj, rfl⟩ := hr
          have hij := idxOf?_spec hj
          refine ⟨(hB2b _ i (by omega) (by rw [Nat.add_sub_cancel_left]; exact hij)).1, rnO (rho objs.length ids) ob, ?_, by cases ob <;> simp [rnO, SameShape]⟩
          simp only [Sr, hol]
          rw [if_neg (by omega), Nat.add_sub_cancel_left]
          have hjl : j < obs.length := by
            rw [← mapM_length hobs]
            rcases Nat.lt_or_ge j ids.length with h | h; exact h; rw [List.getElem?_eq_none h] at hij; cases hij
          obtain ⟨i', hi', hoi', _⟩ := (mapM_get hobs j obs[j]).1 (List.getElem?_eq_getElem hjl)
          rw [hij] at hi'; cases hi'
          rw [ho] at hoi'
          simp [List.getElem?_eq_getElem hjl]
          rw [← Option.some.inj hoi']
      have liveB : ∀ o, (Sr (outsOf objs.length ids S') (obs.map (rnO (rho objs.length ids)))).obj o ≠ none → ∃ i, S'.obj i ≠ none ∧ rho objs.length ids i = some o ∧ B2 o = B' i ∧ ∀ b, Ow B2 o b ↔ Ow B' i b := by
        intro o ho
        obtain ⟨ob, hob⟩ := Option.ne_none_iff_exists'.1 ho
        obtain ⟨i, ob0, h0, _, h2, h3, h4⟩ := back o ob hob
        exact ⟨i, by simp [h0], h2, h3, fun b => by unfold Ow; rw [h3, h4]⟩
      have hd2 : ∀ b, dep C.din S' B' b → b < w'.heap.size → dep (dinOf w D objs B) (Sr (outsOf objs.length ids S') (obs.map (rnO (rho objs.length ids)))) B2 b := by
        intro b hd _
        refine ⟨hd.1, fun o ho hb => ?_⟩
        obtain ⟨i, hi, _, _, hbi⟩ := liveB o ho
        exact hd.2 i hi ((hbi b).1 hb)
      have el : ∀ l v, LRep w' C.din S' B' l v → LRep w' (dinOf w D objs B) (Sr (outsOf objs.length ids S') (obs.map (rnO (rho objs.length ids)))) B2 (rn (rho objs.length ids) l) v :=
        fun l v hl => LRep.rn (Nat.le_refl _) (fun _ _ _ => rfl) hd2 (fun i o ob hr ho => fwd i o ob hr ho) hl
      have erl : ∀ l v, RepL w' (dep C.din S' B') l v → RepL w' (dep (dinOf w D objs B) (Sr (outsOf objs.length ids S') (obs.map (rnO (rho objs.length ids)))) B2) l v :=
        fun l v hl => RepL_mono (Nat.le_refl _) (fun _ _ _ => rfl) hd2 l v hl
    · refine ⟨hol, fun o ob ho => ?_, fun o o' b ho ho' hb hb' => ?_, fun o hlt ho => ?_, fun o b ho hb => ?_, hR'.frame, fun o ob hlt ho => ?_⟩
      · obtain ⟨i, ob0, h0, rfl, hr, hbi, hbz⟩ := back o ob ho
        exact (hR'.objs i ob0 h0).rnO hbi hbz el erl fun _ _ => rfl
      · obtain ⟨i, hi, hr, _, hbi⟩ := liveB o ho
        obtain ⟨i', hi', hr', _, hbi'⟩ := liveB o' ho'
        have := hR'.injO i i' b hi hi' ((hbi b).1 hb) ((hbi' b).1 hb')
        subst this
        rw [hr] at hr'; exact Option.some.inj hr'
      · obtain ⟨i, hi, hr, hbi, _⟩ := liveB o ho
        have hio : i = o := by
          unfold rho at hr
          by_cases h1 : i < objs.length
          · rw [if_pos h1] at hr; exact Option.some.inj hr
          · rw [if_neg h1] at hr; simp at hr; obtain ⟨j, _, rfl⟩ := hr; omega
        subst hio
        rw [hbi]
        exact hR'.keep i hlt hi
      · obtain ⟨i, hi, hr, _, hbi⟩ := liveB o ho
        have := hR'.mineO i b hi ((hbi b).1 hb)
        exact ⟨this.1, this.2.1⟩
      · obtain ⟨i, ob0, h0, rfl, hr, hbi, _⟩ := back o ob ho
        have hio : i = o := by
          unfold rho at hr
          by_cases h1 : i < objs.length
          · rw [if_pos h1] at hr; exact Option.some.inj hr
          · rw [if_neg h1] at hr; simp at hr; obtain ⟨j, _, rfl⟩ := hr; omega
        subst hio
        obtain ⟨ob1, h1, h2⟩ := hR'.shape i ob0 hlt h0
        exact ⟨ob1, h1, h2.trans (by cases ob0 <;> simp [rnO, SameShape])⟩
    · exact hsr.rnS el
  cases ex with
  | normal => exact fin hQ
  | ret => exact fin hQ
  | _ => exact hQ.elim
end
end Go.Vl
namespace Go.Vl
open Go Go.RowKit
def OpW (P : Program) (S : St) (o : Oper) (rd : List Nat) (E : Eff → Prop) : Prop :=
  ∀ S' : St, (∀ x, x ∈ o.op.operands → ev S' x = ev S x) → (∀ r, r ∈ rd → S'.obj r = S.obj r) →
    ∀ C B a w, Rel C S' B a w → (∀ x, o.dst = some x → x < C.n) → ∀ (next : Act → World → Prop) (Q : Exit → Act → World → Prop),
      (∀ e B' v w', E e → Rel C (S'.app o.dst e) B' (a.put o.dst v) w' → next (a.put o.dst v) w') → o.wp P a w next Q
theorem OpL.w {P : Program} {S : St} {o : Oper} {e : Eff} (h : OpL P S o e) : OpW P S o (e.reads ++ e.sets.map (·.1)) (fun x => x = e) := by
  intro S' h1 h2 C B a w hR hd next Q hk
  obtain ⟨nx, v, w', B', hrun, hnx, hr⟩ := h S' h1 (fun r hr => h2 r (List.mem_append.2 (.inl hr))) (fun r hr => h2 r (List.mem_append.2 (.inr hr))) C B a w hR hd
  unfold Oper.wp
  rw [hrun]
  rcases hnx with rfl | ⟨rfl, rfl⟩
  · exact hk e B' v w' rfl hr
  · exact hk e B' undef w' rfl hr
theorem vo_opw {P : Program} {n : Nat} {S : St} {ops : Array Oper} {i : Nat} {rest : List Nat} {K : St → Prop} (hin : dstsIn n ops = true) {o : Oper} (hi : ops[i]? = some o) (hg : guardOn ops S o = some true) {rd : List Nat} {E : Eff → Prop} (he : OpW P S o rd E)
    (h : ∀ e, E e → VO P n ops rest (S.app o.dst e) K) : VO P n ops (i :: rest) S K := by
  intro Q C B a w hn hR hk
  have hw := guard_wanted hR hg (fun j want t _ hj => by
    cases hjj : ops[j]? with
    | none => simp [hjj] at hj
    | some oj => simp [hjj] at hj; rw [hn]; exact dstsIn_of hin hjj t hj)
  simp only [wpOps, hi, hw, if_true]
  exact .inl (he S (fun _ _ => rfl) (fun _ _ => rfl) C B a w hR (fun t ht => by rw [hn]; exact dstsIn_of hin hi t ht) _ _
    fun e B' v w' hE hr => h e hE Q C B' _ w' hn hr hk)
mutual
def unN : Leaf → Leaf
  | .nst _ sz rows => .imm sz (unNss rows)
  | l => l
def unNs : List Leaf → List Leaf
  | [] => []
  | l :: ls => unN l :: unNs ls
def unNss : List (List Leaf) → List (List Leaf)
  | [] => []
  | r :: rs => unNs r :: unNss rs
end
theorem unNss_length : ∀ rs : List (List Leaf), (unNss rs).length = rs.length
  | [] => rfl
  | r :: rs => by simp [unNss, unNss_length rs]
theorem unNs_length : ∀ rs : List Leaf, (unNs rs).length = rs.length
  | [] => rfl
  | r :: rs => by simp [unNs, unNs_length rs]
theorem unNss_map {α : Type} {f : α → List Leaf} : ∀ l : List α, unNss (l.map f) = l.map fun x => unNs (f x)
  | [] => rfl
  | x :: l => by simp [unNss, unNss_map l]
theorem unNss_get : ∀ (rs : List (List Leaf)) (i : Nat), (unNss rs)[i]? = (rs[i]?).map unNs
  | [], i => by simp [unNss]
  | r :: rs, 0 => by simp [unNss]
  | r :: rs, i + 1 => by simpa [unNss] using unNss_get rs i
theorem unNs_get : ∀ (rs : List Leaf) (i : Nat), (unNs rs)[i]? = (rs[i]?).map unN
  | [], i => by simp [unNs]
  | r :: rs, 0 => by simp [unNs]
  | r :: rs, i + 1 => by simpa [unNs] using unNs_get rs i
section
variable {w : World} {Dp Dp' : Nat → Prop}
mutual
theorem NL_rep (hr : ∀ l v, RepL w Dp l v → RepL w Dp' l v) : ∀ (l : Leaf) (v : Value) (Z : Nat → Prop), (∀ x, Z x → Dp' x) → NL w Dp l v Z → RepL w Dp' (unN l) v
  | .nst E sz rows, v, Z, hz, h => by
    rw [NL.eq_1] at h
    rw [unN.eq_1, RepL.eq_2]
    obtain ⟨A, c, h1, h2, h3, h4⟩ := h
    refine ⟨A, c, by rw [unNss_length]; exact h1, by rw [unNss_length]; exact h2, h3, ?_⟩
    rcases h4 with h4 | ⟨b, n, cs, k1, k2, k3, k4, k5, k6, k7⟩
    · left
      have : rows = [] := List.eq_nil_of_length_eq_zero (by omega)
      rw [this]; rfl
    · exact .inr ⟨_, k1, hz b k2, lt_of_get k3, NRs_rep hr sz cs b k3 0 rows _ (fun x hx => hz x hx.1) k7⟩
  | .g x, v, Z, _, h => by
    rw [NL.eq_2] at h
    show RepL w Dp' (.g x) v
    rw [RepL.eq_1]; exact h
  | .imm sz rows, v, Z, _, h => by rw [NL.eq_3] at h; exact hr _ _ h
  | .err, v, Z, _, h => by rw [NL.eq_4] at h; exact hr _ _ h
  | .iel _ _, v, Z, _, h => by simp [NL] at h
  | .own _ _ _, v, Z, _, h => by simp [NL] at h
  | .ptr _ _, v, Z, _, h => by simp [NL] at h
  | .elm _ _ _, v, Z, _, h => by simp [NL] at h
  | .clo _ _, v, Z, _, h => by simp [NL] at h
  | .mp _, v, Z, _, h => by simp [NL] at h
  | .bad, v, Z, _, h => by simp [NL] at h
theorem NRs_rep (hr : ∀ l v, RepL w Dp l v → RepL w Dp' l v) (sz : Nat) (cs : Array Value) (b : Nat) {E : TypeId} (hb : w.heap[b]? = some (.cells cs E (0, 0))) : ∀ (k : Nat) (rows : List (List Leaf)) (Z : Nat → Prop), (∀ x, Z x → Dp' x) → NRs w Dp sz cs k rows Z → RepRs w Dp' ⟨b, 0, none⟩ sz k (unNss rows)
  | k, [], _, _, _ => by rw [unNss.eq_1, RepRs.eq_1]; trivial
  | k, r :: rs, Z, hz, h => by
    rw [NRs.eq_2] at h
    rw [unNss.eq_2, RepRs.eq_2]
    obtain ⟨h1, Z1, h2, h3, h4⟩ := h
    exact ⟨by rw [unNs_length]; exact h1, NR_rep hr cs b hb k r Z1 (fun x hx => hz x (h2 x hx)) h3, NRs_rep hr sz cs b hb _ rs _ (fun x hx => hz x hx.1) h4⟩
theorem NR_rep (hr : ∀ l v, RepL w Dp l v → RepL w Dp' l v) (cs : Array Value) (b : Nat) {E : TypeId} (hb : w.heap[b]? = some (.cells cs E (0, 0))) : ∀ (k : Nat) (ls : List Leaf) (Z : Nat → Prop), (∀ x, Z x → Dp' x) → NR w Dp cs k ls Z → RepR w Dp' ⟨b, 0, none⟩ k (unNs ls)
  | k, [], _, _, _ => by rw [unNs.eq_1, RepR.eq_1]; trivial
  | k, l :: ls, Z, hz, h => by
    rw [NR.eq_2] at h
    rw [unNs.eq_2, RepR.eq_2]
    obtain ⟨v, Z1, h1, h2, h3, h4⟩ := h
    refine ⟨⟨v, ?_, NL_rep hr l v Z1 (fun x hx => hz x (h2 x hx)) h3⟩, NR_rep hr cs b hb _ ls _ (fun x hx => hz x hx.1) h4⟩
    rw [add_mk, cell_blk hb]
    simpa using h1
end
theorem RegRows.rep (hr : ∀ l v, RepL w Dp l v → RepL w Dp' l v) {R : Leaf → Value → Prop} {sz : Nat} {rows : List (List Leaf)} {cs : Array Value} {Z : Nat → Prop} {zf : Nat → Nat → Nat → Prop} (h : RegRows w Dp R sz rows [] cs Z zf) (hz : ∀ x, Z x → Dp' x) {b : Nat} {E : TypeId} (hb : w.heap[b]? = some (.cells cs E (0, 0))) (off len : Nat) :
    RepRs w Dp' ⟨b, off * sz, none⟩ sz 0 (((unNss rows).drop off).take len) := by
  refine RepRs_of fun i r hi => ?_
  rw [List.getElem?_take] at hi
  split at hi
  · rw [List.getElem?_drop, unNss_get] at hi
    obtain ⟨r0, h0, rfl⟩ := Option.map_eq_some_iff.1 hi
    refine ⟨by rw [unNs_length]; exact h.wide _ (List.mem_of_getElem? h0), RepR_of fun j l hj => ?_⟩
    rw [unNs_get] at hj
    obtain ⟨l0, hl0, rfl⟩ := Option.map_eq_some_iff.1 hj
    obtain ⟨v, h1, h2⟩ := h.cell _ _ j _ h0 hl0 rfl
    refine ⟨v, ?_, NL_rep hr l0 v _ (fun x hx => hz x (h.sub _ _ x hx)) h2⟩
    rw [add_mk, cell_blk hb, show off * sz + (0 + i * sz + j) = (off + i) * sz + j from by rw [Nat.add_mul]; omega]
    exact h1
  · cases hi
end
def vL (g : Bool) (S : St) (ids : List Nat) : Leaf → Leaf
  | .own o off len => if ids.contains o then rn ids.idxOf? (.own o off len) else if g then (match S.obj o with
      | some (.arr _ sz rows) => .imm sz ((rows.drop off).take len)
      | some (.reg _ sz rows []) => .imm sz (((unNss rows).drop off).take len)
      | _ => .bad) else .bad
  | l => rn ids.idxOf? l
def vS (g : Bool) (S : St) (ids : List Nat) : Slot → Slot
  | .one l => .one (vL g S ids l)
  | .agg ls => .agg (ls.map (vL g S ids))
  | .tup xs => .tup (xs.map fun x => (x.1, x.2.map (vL g S ids)))
  | .bad => .bad
def vO (g : Bool) (S : St) (ids : List Nat) : Ob → Ob
  | .box ls => .box (ls.map (vL g S ids))
  | .reg E sz rows hs => .reg E sz rows (hs.map fun h => (h.1, h.2.1, vL g S ids h.2.2))
  | ob => ob
def refsL : Leaf → List Nat
  | .own o _ _ => [o]
  | _ => []
def refsS : Slot → List Nat
  | .one l => refsL l
  | .agg ls => ls.flatMap refsL
  | .tup xs => xs.flatMap fun x => x.2.flatMap refsL
  | .bad => []
def refsO : Ob → List Nat
  | .box ls => ls.flatMap refsL
  | .reg _ _ _ hs => hs.flatMap fun h => refsL h.2.2
  | _ => []
theorem vL_same {g : Bool} {S S' : St} {ids : List Nat} {l : Leaf} (h : ∀ r ∈ refsL l, S'.obj r = S.obj r) : vL g S' ids l = vL g S ids l := by
  cases l <;> simp only [vL]
  rw [h _ (by simp [refsL])]
theorem vS_same {g : Bool} {S S' : St} {ids : List Nat} {s : Slot} (h : ∀ r ∈ refsS s, S'.obj r = S.obj r) : vS g S' ids s = vS g S ids s := by
  cases s with
  | one l => simp only [vS]; rw [vL_same h]
  | agg ls => simp only [vS]; rw [List.map_congr_left fun l hl => vL_same fun r hr => h r (List.mem_flatMap.2 ⟨l, hl, hr⟩)]
  | tup xs =>
    simp only [vS]
    congr 1
    exact List.map_congr_left fun x hx => by
      rw [List.map_congr_left fun l hl => vL_same fun r hr => h r (List.mem_flatMap.2 ⟨x, hx, List.mem_flatMap.2 ⟨l, hl, hr⟩⟩)]
  | bad => rfl
theorem vO_same {g : Bool} {S S' : St} {ids : List Nat} {s : Ob} (h : ∀ r ∈ refsO s, S'.obj r = S.obj r) : vO g S' ids s = vO g S ids s := by
  cases s with
  | box ls => simp only [vO]; rw [List.map_congr_left fun l hl => vL_same fun r hr => h r (List.mem_flatMap.2 ⟨l, hl, hr⟩)]
  | arr E sz rows => rfl
  | map es => rfl
  | reg E sz rows hs => simp only [vO]; rw [List.map_congr_left fun l hl => by rw [vL_same fun r hr => h r (List.mem_flatMap.2 ⟨l, hl, hr⟩)]]
theorem vO_shape (g : Bool) (S : St) (ids : List Nat) (ob : Ob) : SameShape ob (vO g S ids ob) := by cases ob <;> simp [vO, SameShape]
theorem rnO_shape (ρ : Nat → Option Nat) (ob : Ob) : SameShape ob (rnO ρ ob) := by cases ob <;> simp [rnO, SameShape]
def vB (ids : List Nat) (B : Pl) : Pl := ⟨fun k => ((ids[k]?).map B.f).join, fun k => ((ids[k]?).map B.z).getD fun _ => False⟩
theorem vB_ow {ids : List Nat} {B : Pl} {k i : Nat} (h : ids[k]? = some i) (b : Nat) : Ow (vB ids B) k b ↔ Ow B i b := by simp [Ow, vB, h]
def vD (g : Bool) (C : Ctx) (S : St) (B : Pl) (b : Nat) : Prop := if g then C.din b else dep C.din S B b
section
variable {P : Program} {C : Ctx} {S : St} {B : Pl} {a : Act} {w : World} {g : Bool} {ids : List Nat} {obs : List Ob}
theorem ids_live (hids : ids.mapM S.obj = some obs) {k i : Nat} (hk : ids[k]? = some i) : ∃ ob, S.obj i = some ob ∧ obs[k]? = some ob := by
  have hlt : k < obs.length := by
    rw [← mapM_length hids]
    rcases Nat.lt_or_ge k ids.length with h | h; exact h; rw [List.getElem?_eq_none h] at hk; cases hk
  obtain ⟨i', hi', hoi, _⟩ := (mapM_get hids k obs[k]).1 (List.getElem?_eq_getElem hlt)
  rw [hk] at hi'; cases hi'
  exact ⟨obs[k], hoi, List.getElem?_eq_getElem hlt⟩
theorem obs_ids (hids : ids.mapM S.obj = some obs) {k : Nat} {ob : Ob} (hk : obs[k]? = some ob) : ∃ i, ids[k]? = some i ∧ S.obj i = some ob := by
  obtain ⟨i, hi, ho, _⟩ := (mapM_get hids k ob).1 hk
  exact ⟨i, hi, ho⟩
theorem view_dep (hids : ids.mapM S.obj = some obs) : ∀ b, dep C.din S B b → dep (vD g C S B) (So (obs.map (vO g S ids))) (vB ids B) b := by
  intro b hd
  refine ⟨by unfold vD; split; exact hd.1; exact hd, fun k hk hb => ?_⟩
  simp [So] at hk
  obtain ⟨i, hi, ho⟩ := obs_ids hids (k := k) (List.getElem?_eq_getElem hk)
  exact hd.2 i (by simp [ho]) ((vB_ow hi b).1 hb)
theorem view_rep (hR : Rel C S B a w) (hids : ids.mapM S.obj = some obs) (_hnd : ids.Nodup) {l : Leaf} {v : Value} (h : LRep w C.din S B l v) :
    LRep w (vD g C S B) (So (obs.map (vO g S ids))) (vB ids B) (vL g S ids l) v := by
  have hrn : LRep w (vD g C S B) (So (obs.map (vO g S ids))) (vB ids B) (rn ids.idxOf? l) v := by
    refine LRep.rn (Nat.le_refl _) (fun _ _ _ => rfl) (fun b hb _ => view_dep hids b hb) (fun o k ob hk ho => ?_) h
    have hi := idxOf?_spec hk
    obtain ⟨ob', ho', hobs⟩ := ids_live hids hi
    rw [ho] at ho'; cases ho'
    exact ⟨by simp [vB, hi], vO g S ids ob, by simp [So, hobs], vO_shape _ _ _ _⟩
  cases l with
  | own o off len =>
    by_cases hni : ids.contains o = true
    · have e : vL g S ids (.own o off len) = rn ids.idxOf? (.own o off len) := if_pos hni
      rw [e]; exact hrn
    · by_cases hg : g = true
      · have e : vL g S ids (.own o off len) = (match S.obj o with
            | some (.arr _ sz rows) => .imm sz ((rows.drop off).take len)
            | some (.reg _ sz rows []) => .imm sz (((unNss rows).drop off).take len)
            | _ => .bad) := (if_neg hni).trans (if_pos hg)
        rw [e]
        have h1c := LRep.oneCell h
        obtain ⟨E, sz, rows, A, c, ho, hlen, hv, hlc, hcm, hc⟩ := h
        obtain ⟨ob, hob0, hrw⟩ := arr_obj ho
        have hlive : S.obj o ≠ none := by simp [hob0]
        have hdx : ∀ x, Ow B o x → dep (vD g C S B) (So (obs.map (vO g S ids))) (vB ids B) x ∧ x < w.heap.size := by
          intro x hx
          have hm := hR.mineO o x hlive hx
          refine ⟨⟨by unfold vD; rw [if_pos hg]; exact hm.2.2, fun k hk hkb => ?_⟩, hm.1⟩
          simp [So] at hk
          obtain ⟨i, hi, hoi⟩ := obs_ids hids (k := k) (List.getElem?_eq_getElem hk)
          have := hR.injO o i x hlive (by simp [hoi]) hx ((vB_ow hi x).1 hkb)
          subst this
          exact hni (by simpa using List.mem_of_getElem? hi)
        rw [hob0]
        cases ob with
        | box => simp [Ob.rws] at hrw
        | map => simp [Ob.rws] at hrw
        | arr E1 sz1 rows1 =>
          simp [Ob.rws] at hrw
          obtain ⟨rfl, rfl, rfl⟩ := hrw
          show RepL w _ (.imm sz1 ((rows1.drop off).take len)) v
          rw [RepL.eq_2]
          have hl2 : ((rows1.drop off).take len).length = len := by simp; omega
          refine ⟨A, c, by rw [hl2]; exact hv, by omega, hcm, ?_⟩
          rcases Nat.eq_zero_or_pos len with h0 | h0
          · left; subst h0; simp
          · right
            rcases hc with hc0 | ⟨b, n, hb, hA, hroom⟩
            · omega
            · rcases hR.objs o _ hob0 with ⟨hr0, _⟩ | ⟨b', n', cs, hb', hh, hcn, hone, hle, hrows⟩
              · subst hr0; simp at hlen; omega
              · rw [hb] at hb'; cases hb'
                obtain ⟨hdb, hblt⟩ := hdx b (.at hb)
                refine ⟨⟨b, off * sz1, none⟩, hA, hdb, hblt, RepRs_of fun i r hi => ?_⟩
                rw [List.getElem?_take] at hi
                split at hi
                · rename_i hil
                  rw [List.getElem?_drop] at hi
                  have ha := hrows _ _ hi
                  have hri : off + i < rows1.length := by omega
                  have h6 : (off + i + 1) * sz1 ≤ rows1.length * sz1 := Nat.mul_le_mul_right _ hri
                  rw [Nat.succ_mul] at h6
                  refine ⟨by have := ha.length; simp at this; omega, RepR_of fun j l hj => ?_⟩
                  obtain ⟨x, hx, hxr⟩ := ha.get j l hj
                  refine ⟨x, ?_, RepL_mono (Nat.le_refl _) (fun _ _ _ => rfl) (fun b hb _ => view_dep hids b hb) _ _ hxr⟩
                  rw [add_mk, cell_blk hh]
                  rw [List.getElem?_take] at hx
                  split at hx
                  · rw [List.getElem?_drop] at hx
                    rw [show off * sz1 + (0 + i * sz1 + j) = (off + i) * sz1 + j from by rw [Nat.add_mul]; omega]
                    simpa using hx
                  · cases hx
                · cases hi
        | reg E1 sz1 rows1 hs =>
          simp [Ob.rws] at hrw
          obtain ⟨rfl, rfl, rfl⟩ := hrw
          cases hs with
          | cons => exact h1c
          | nil =>
            show RepL w _ (.imm sz1 (((unNss rows1).drop off).take len)) v
            rw [RepL.eq_2]
            have hl2 : (((unNss rows1).drop off).take len).length = len := by simp [unNss_length]; omega
            refine ⟨A, c, by rw [hl2]; exact hv, by omega, hcm, ?_⟩
            rcases Nat.eq_zero_or_pos len with h0 | h0
            · left; subst h0; simp
            · right
              rcases hc with hc0 | ⟨b, n, hb, hA, hroom⟩
              · omega
              · rcases hR.objs o _ hob0 with ⟨hr0, _⟩ | ⟨b', n', cs, zf, hb', hh, hcn, hone, hle, hbz, hrows⟩
                · subst hr0; simp at hlen; omega
                · rw [hb] at hb'; cases hb'
                  obtain ⟨hdb, hblt⟩ := hdx b (.at hb)
                  exact ⟨⟨b, off * sz1, none⟩, hA, hdb, hblt, hrows.rep (fun l v hl => RepL_mono (Nat.le_refl _) (fun _ _ _ => rfl) (fun b hb _ => view_dep hids b hb) l v hl) (fun x hx => (hdx x (.inr hx)).1) hh off len⟩
      · have h1 := LRep.oneCell h
        have e : vL g S ids (.own o off len) = .bad := (if_neg hni).trans (if_neg hg)
        rw [e]; exact h1
  | _ => exact hrn
theorem view_srep (hR : Rel C S B a w) (hids : ids.mapM S.obj = some obs) (hnd : ids.Nodup) {s : Slot} {v : Value} (h : SRep (LRep w C.din S B) s v) :
    SRep (LRep w (vD g C S B) (So (obs.map (vO g S ids))) (vB ids B)) (vS g S ids s) v := by
  have e : ∀ l v, LRep w C.din S B l v → LRep w (vD g C S B) (So (obs.map (vO g S ids))) (vB ids B) (vL g S ids l) v := fun l v hl => view_rep hR hids hnd hl
  cases s with
  | one l => exact e _ _ h
  | agg ls => obtain ⟨vs, hv, ha⟩ := h; exact ⟨vs, hv, All2.map_left (ha.mono e)⟩
  | tup xs =>
    obtain ⟨vs, hv, ha⟩ := h
    refine ⟨vs, hv, All2.map_left (ha.mono fun x u hx => ?_)⟩
    rcases hx with ⟨h1, cs, hu, hc⟩ | ⟨h1, l, hl, hr⟩
    · exact .inl ⟨h1, cs, hu, All2.map_left (hc.mono e)⟩
    · exact .inr ⟨h1, vL g S ids l, by simp [hl], e _ _ hr⟩
  | bad => trivial
theorem view_args (hR : Rel C S B a w) (hids : ids.mapM S.obj = some obs) (hnd : ids.Nodup) : ArgsOk w (vD g C S B) (obs.map (vO g S ids)) (vB ids B) := by
  have live : ∀ k, (So (obs.map (vO g S ids))).obj k ≠ none → ∃ i, ids[k]? = some i ∧ S.obj i ≠ none ∧ ∀ b, Ow (vB ids B) k b ↔ Ow B i b := by
    intro k hk
    simp [So] at hk
    obtain ⟨i, hi, hoi⟩ := obs_ids hids (k := k) (List.getElem?_eq_getElem hk)
    exact ⟨i, hi, by simp [hoi], vB_ow hi⟩
  refine ⟨fun k ob hk => ?_, fun k k' b hk hk' hb hb' => ?_, fun k b hk hb => ?_, hR.klt.2.step hR.frame fun b hlt ⟨k, hk, hb⟩ => ?_⟩
  rotate_left
  rotate_left
  rotate_left
  · obtain ⟨i, hi, hoi, hB⟩ := live k hk
    exact (hR.mineO i b hoi ((hB b).1 hb)).2.1.resolve_left (by omega)
  · simp at hk
    obtain ⟨ob0, h0, rfl⟩ := hk
    obtain ⟨i, hi, hoi⟩ := obs_ids hids h0
    have hB : vB ids B k = B i := by simp [vB, hi]
    have := hR.objs i ob0 hoi
    cases ob0 with
    | box ls => obtain ⟨b, n, cs, E, hb, hc, hn, ha⟩ := this; exact ⟨b, n, cs, E, hB.trans hb, hc, hn, All2.map_left (ha.mono fun l v hl => view_rep hR hids hnd hl)⟩
    | arr E sz rows =>
      rcases this with h | ⟨b, n, cs, hb, hc, hn, h1, h2, h3⟩
      · exact .inl ⟨h.1, hB.trans h.2⟩
      · exact .inr ⟨b, n, cs, hB.trans hb, hc, hn, h1, h2, fun i r hi => (h3 i r hi).mono fun l v hl => RepL_mono (Nat.le_refl _) (fun _ _ _ => rfl) (fun b hb _ => view_dep hids b hb) l v hl⟩
    | map es => obtain ⟨b, n, ens, clock, hb, hc, he⟩ := this; exact ⟨b, n, ens, clock, hB.trans hb, hc, he⟩
    | reg E sz rows hs =>
      have hZ : (vB ids B).z k = B.z i := by simp [vB, hi]
      rcases this with ⟨h1, h2, h3⟩ | ⟨b, n, cs, zf, hb, hc, hn, h1, h2, h3, h4⟩
      · exact .inl ⟨h1, hB.trans h2, by rw [hZ]; exact h3⟩
      · exact .inr ⟨b, n, cs, zf, hB.trans hb, hc, hn, h1, h2, by rw [hZ]; exact h3, by
          rw [hZ]
          exact h4.mono (vL g S ids) (fun l v hl => RepL_mono (Nat.le_refl _) (fun _ _ _ => rfl) (fun b hb _ => view_dep hids b hb) l v hl) (fun _ _ => rfl) fun l _ v hl => view_rep hR hids hnd hl⟩
  · obtain ⟨i, hi, hl, e⟩ := live k hk
    obtain ⟨i', hi', hl', e'⟩ := live k' hk'
    have := hR.injO i i' b hl hl' ((e b).1 hb) ((e' b).1 hb')
    subst this
    have h1 := idxOf?_of hnd hi
    rw [idxOf?_of hnd hi'] at h1
    exact (Option.some.inj h1).symm
  · obtain ⟨i, hi, hl, e⟩ := live k hk
    exact (hR.mineO i b hl ((e b).1 hb)).1
end
end Go.Vl

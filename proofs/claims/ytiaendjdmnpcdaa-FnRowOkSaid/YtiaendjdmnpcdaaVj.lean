/- V-logic, part j: contracts of functions; a function's body; its results. -/
import Derived.Test.YtiaendjdmnpcdaaVi
namespace Go.Vl
open Go Go.RowKit

def Ent (P : Program) (f : FuncId) : Prop := ∀ (args : Array Value) (w : World), (callFunc f args).run P w = .ok (.enter f args) w
theorem ent_of {P : Program} {f : FuncId} {fn : Func} {c : Code} (hf : P.funcs[f]? = some fn) (hname : (fn.name == "runtime.NumGoroutine") = false) (hb : fn.body = some c) : Ent P f := by
  intro args w
  have h1 : fn.name ≠ "runtime.NumGoroutine" := by simpa using hname
  simp [callFunc, hf, h1, hb, mark]

/-- A state of objects alone. -/
def So (objs : List Ob) : St := ⟨fun _ => .bad, fun o => objs[o]?⟩
/-- What is there behind a call: of those handed in what is left, then new ones. -/
def Sr (outs : List (Option Ob)) (news : List Ob) : St := ⟨fun _ => .bad, fun o => if o < outs.length then (outs[o]?).join else news[o - outs.length]?⟩

structure ArgsOk (w : World) (D : Nat → Prop) (objs : List Ob) (B : Pl) : Prop where
  obs : ∀ o ob, objs[o]? = some ob → ObRep w D (So objs) B o ob
  inj : ∀ o o' b n n', (So objs).obj o ≠ none → (So objs).obj o' ≠ none → B o = some (b, n) → B o' = some (b, n') → o = o'
  lt : ∀ o b n, (So objs).obj o ≠ none → B o = some (b, n) → b < w.heap.size

def ioOf (objs : List Ob) (B : Pl) (b : Nat) : Prop := ∃ o n, (So objs).obj o ≠ none ∧ B o = some (b, n)
def dinOf (w : World) (D : Nat → Prop) (objs : List Ob) (B : Pl) (b : Nat) : Prop := D b ∨ ioOf objs B b ∨ w.heap.size ≤ b

structure ResOk (w w' : World) (D : Nat → Prop) (objs : List Ob) (B : Pl) (outs : List (Option Ob)) (news : List Ob) (B' : Pl) : Prop where
  len : outs.length = objs.length
  obs : ∀ o ob, (Sr outs news).obj o = some ob → ObRep w' D (Sr outs news) B' o ob
  inj : ∀ o o' b n n', (Sr outs news).obj o ≠ none → (Sr outs news).obj o' ≠ none → B' o = some (b, n) → B' o' = some (b, n') → o = o'
  place : ∀ o, o < objs.length → (Sr outs news).obj o ≠ none → B' o = B o
  lt : ∀ o b n, (Sr outs news).obj o ≠ none → B' o = some (b, n) → b < w'.heap.size ∧ (w.heap.size ≤ b ∨ ioOf objs B b)
  frame : Kp (ioOf objs B) w w'
  shape : ∀ o ob, o < objs.length → (Sr outs news).obj o = some ob → ∃ ob0, objs[o]? = some ob0 ∧ SameShape ob0 ob

def CallsV (P : Program) (f : FuncId) (args : List Slot) (objs : List Ob) (Post : Slot → List (Option Ob) → List Ob → Prop) : Prop :=
  Ent P f ∧ ∀ (w : World) (B : Pl) (D : Nat → Prop) (vals : Array Value), ArgsOk w D objs B → All2 (SRep (LRep w D (So objs) B)) args vals.toList →
    Calls P f vals w fun e w' => ∃ v s outs news B', e = .returned v ∧ Post s outs news ∧ ResOk w w' (dinOf w D objs B) objs B outs news B' ∧ SRep (LRep w' (dinOf w D objs B) (Sr outs news) B') s v

theorem CallsV.mono {P : Program} {f : FuncId} {args : List Slot} {objs : List Ob} {Q R : Slot → List (Option Ob) → List Ob → Prop} (h : CallsV P f args objs Q) (hq : ∀ s o n, Q s o n → R s o n) : CallsV P f args objs R :=
  ⟨h.1, fun w B D vals h1 h2 => (h.2 w B D vals h1 h2).mono fun _ _ ⟨v, s, outs, news, B', he, hp, hr, hs⟩ => ⟨v, s, outs, news, B', he, hq _ _ _ hp, hr, hs⟩⟩

-- renaming
def rn (ρ : Nat → Option Nat) : Leaf → Leaf
  | .own o a b => match ρ o with | some o' => .own o' a b | none => .bad
  | .ptr o k => match ρ o with | some o' => .ptr o' k | none => .bad
  | .elm o i j => match ρ o with | some o' => .elm o' i j | none => .bad
  | .clo f os => match os.mapM ρ with | some os' => .clo f os' | none => .bad
  | .mp o => match ρ o with | some o' => .mp o' | none => .bad
  | l => l
def rnS (ρ : Nat → Option Nat) : Slot → Slot
  | .one l => .one (rn ρ l)
  | .agg ls => .agg (ls.map (rn ρ))
  | .tup xs => .tup (xs.map fun x => (x.1, x.2.map (rn ρ)))
  | .bad => .bad
def rnO (ρ : Nat → Option Nat) : Ob → Ob
  | .box ls => .box (ls.map (rn ρ))
  | ob => ob

section
variable {w w' : World} {D D' : Nat → Prop} {S S' : St} {B B' : Pl} {ρ : Nat → Option Nat}

theorem all2_mapM {α : Type} {R : Nat → α → Prop} {R' : Nat → α → Prop} (h : ∀ o o' x, ρ o = some o' → R o x → R' o' x) : ∀ {os os' : List Nat} {xs : List α}, os.mapM ρ = some os' → All2 R os xs → All2 R' os' xs
  | [], os', xs, hm, ha => by simp at hm; subst hm; cases xs <;> simp_all [All2]
  | o :: os, os', xs, hm, ha => by
    cases xs with
    | nil => exact ha.elim
    | cons x xs =>
      simp [List.mapM_cons, Option.bind_eq_some_iff] at hm
      obtain ⟨o', ho, os'', hos, rfl⟩ := hm
      exact ⟨h _ _ _ ho ha.1, all2_mapM h hos ha.2⟩

def isMem : Leaf → Bool
  | .imm _ _ => true
  | .iel _ _ => true
  | _ => false

theorem LRep.mem (hs : w.heap.size ≤ w'.heap.size)
    (hh : ∀ b, dep D S B b → b < w.heap.size → w'.heap[b]? = w.heap[b]?) (hD : ∀ b, dep D S B b → b < w.heap.size → dep D' S' B' b) :
    ∀ {l : Leaf} {v : Value}, isMem l = true → LRep w D S B l v → LRep w' D' S' B' l v := by
  intro l v hm h
  cases l <;> simp [isMem] at hm
  case imm sz rows => exact RepL_mono hs hh hD _ _ h
  case iel r j =>
    obtain ⟨a, hv, hd, hl, hr⟩ := h
    exact ⟨a, hv, hD _ hd hl, Nat.lt_of_lt_of_le hl hs, RepR_mono hs hh hD a hd hl r 0 hr⟩

theorem LRep.rnM (hO : ∀ o o' ob, ρ o = some o' → S.obj o = some ob → B' o' = B o ∧ ∃ ob', S'.obj o' = some ob' ∧ SameShape ob ob') :
    ∀ {l : Leaf} {v : Value}, (isMem l = true → LRep w' D' S' B' l v) → LRep w D S B l v → LRep w' D' S' B' (rn ρ l) v := by
  intro l v hM h
  have h1 := h.oneCell
  cases l with
  | own o x y =>
    cases hr : ρ o with
    | none => have e : Vl.rn ρ (.own o x y) = .bad := by simp [Vl.rn, hr]
              rw [e]; exact h1
    | some o' =>
      have e : Vl.rn ρ (.own o x y) = .own o' x y := by simp [Vl.rn, hr]
      rw [e]
      obtain ⟨E, sz, rows, A, c, ho, h2, h3, h4, h5, h6⟩ := h
      obtain ⟨hB, ob', ho', hm⟩ := hO o o' _ hr ho
      cases ob' <;> simp [SameShape] at hm
      obtain ⟨rfl, hl⟩ := hm
      exact ⟨_, _, _, A, c, ho', by omega, h3, h4, h5, by rw [hB]; exact h6⟩
  | ptr o x =>
    cases hr : ρ o with
    | none => have e : Vl.rn ρ (.ptr o x) = .bad := by simp [Vl.rn, hr]
              rw [e]; exact h1
    | some o' =>
      have e : Vl.rn ρ (.ptr o x) = .ptr o' x := by simp [Vl.rn, hr]
      rw [e]
      obtain ⟨b, n, ls, ho, hb, hv⟩ := h
      obtain ⟨hB, ob', ho', hm⟩ := hO o o' _ hr ho
      cases ob' <;> simp [SameShape] at hm
      exact ⟨b, n, _, ho', by rw [hB]; exact hb, hv⟩
  | elm o x y =>
    cases hr : ρ o with
    | none => have e : Vl.rn ρ (.elm o x y) = .bad := by simp [Vl.rn, hr]
              rw [e]; exact h1
    | some o' =>
      have e : Vl.rn ρ (.elm o x y) = .elm o' x y := by simp [Vl.rn, hr]
      rw [e]
      obtain ⟨E, sz, rows, b, n, ho, hi, hb, hv⟩ := h
      obtain ⟨hB, ob', ho', hm⟩ := hO o o' _ hr ho
      cases ob' <;> simp [SameShape] at hm
      obtain ⟨rfl, hl⟩ := hm
      exact ⟨_, _, _, b, n, ho', by omega, by rw [hB]; exact hb, hv⟩
  | mp o =>
    cases hr : ρ o with
    | none => have e : Vl.rn ρ (.mp o) = .bad := by simp [Vl.rn, hr]
              rw [e]; exact h1
    | some o' =>
      have e : Vl.rn ρ (.mp o) = .mp o' := by simp [Vl.rn, hr]
      rw [e]
      obtain ⟨b, n, es, ho, hb, hv⟩ := h
      obtain ⟨hB, ob', ho', hm⟩ := hO o o' _ hr ho
      cases ob' <;> simp [SameShape] at hm
      exact ⟨b, n, _, ho', by rw [hB]; exact hb, hv⟩
  | clo f os =>
    cases hr : os.mapM ρ with
    | none => have e : Vl.rn ρ (.clo f os) = .bad := by simp [Vl.rn, hr]
              rw [e]; exact h1
    | some os' =>
      have e : Vl.rn ρ (.clo f os) = .clo f os' := by simp [Vl.rn, hr]
      rw [e]
      obtain ⟨vs, hv, ha⟩ := h
      refine ⟨vs, hv, all2_mapM (fun o o' x ho hx => ?_) hr ha⟩
      obtain ⟨b, n, ls, ho2, hb, hx⟩ := hx
      obtain ⟨hB, ob', ho', hm⟩ := hO o o' _ ho ho2
      cases ob' <;> simp [SameShape] at hm
      exact ⟨b, n, _, ho', by rw [hB]; exact hb, hx⟩
  | iel r j => exact hM rfl
  | bad => exact h
  | g x =>
    have h : RepL w (dep D S B) (.g x) v := h
    show RepL w' (dep D' S' B') (.g x) v
    rw [RepL.eq_1] at h ⊢; exact h
  | imm sz rows => exact hM rfl
  | err =>
    have h : RepL w (dep D S B) .err v := h
    show RepL w' (dep D' S' B') .err v
    rw [RepL.eq_3] at h ⊢; exact h

theorem LRep.rn (hs : w.heap.size ≤ w'.heap.size)
    (hh : ∀ b, dep D S B b → b < w.heap.size → w'.heap[b]? = w.heap[b]?) (hD : ∀ b, dep D S B b → b < w.heap.size → dep D' S' B' b)
    (hO : ∀ o o' ob, ρ o = some o' → S.obj o = some ob → B' o' = B o ∧ ∃ ob', S'.obj o' = some ob' ∧ SameShape ob ob') :
    ∀ {l : Leaf} {v : Value}, LRep w D S B l v → LRep w' D' S' B' (Vl.rn ρ l) v :=
  fun h => LRep.rnM hO (fun hm => LRep.mem hs hh hD hm h) h


theorem SRep.rnS {R R' : Leaf → Value → Prop} (h : ∀ l v, R l v → R' (Vl.rn ρ l) v) : ∀ {s : Slot} {v : Value}, SRep R s v → SRep R' (Vl.rnS ρ s) v
  | .one _, _, hs => h _ _ hs
  | .agg _, _, ⟨vs, hv, ha⟩ => ⟨vs, hv, All2.map_left (ha.mono fun l v => h l v)⟩
  | .tup _, _, ⟨vs, hv, ha⟩ => ⟨vs, hv, All2.map_left (ha.mono fun x u hx => by
      rcases hx with ⟨h1, cs, hu, hc⟩ | ⟨h1, l, hl, hr⟩
      · exact .inl ⟨h1, cs, hu, All2.map_left (hc.mono fun l v => h l v)⟩
      · exact .inr ⟨h1, Vl.rn ρ l, by simp [hl], h _ _ hr⟩)⟩
  | .bad, _, _ => trivial

theorem ObRep.rnO {o o' : Nat} {ob : Ob} (h : ObRep w D S B o ob) (hB : B' o' = B o)
    (hl : ∀ l v, LRep w D S B l v → LRep w' D' S' B' (Vl.rn ρ l) v) (hr : ∀ l v, RepL w (dep D S B) l v → RepL w' (dep D' S' B') l v)
    (hh : ∀ b n, B o = some (b, n) → w'.heap[b]? = w.heap[b]?) : ObRep w' D' S' B' o' (Vl.rnO ρ ob) := by
  cases ob with
  | box ls => obtain ⟨b, n, cs, E, hb, hc, hn, ha⟩ := h; exact ⟨b, n, cs, E, hB.trans hb, (hh b n hb).trans hc, hn, All2.map_left (ha.mono hl)⟩
  | arr E sz rows =>
    rcases h with h | ⟨b, n, cs, hb, hc, hn, h1, h2, h3⟩
    · exact .inl ⟨h.1, hB.trans h.2⟩
    · exact .inr ⟨b, n, cs, hB.trans hb, (hh b n hb).trans hc, hn, h1, h2, fun i r hi => (h3 i r hi).mono hr⟩
  | map es => obtain ⟨b, n, ens, clock, hb, hc, he⟩ := h; exact ⟨b, n, ens, clock, hB.trans hb, (hh b n hb).trans hc, he⟩
end

-- results
def resSlot (T : Tab) (S : St) : ResultVar → Option Slot
  | .tmp t => some (S.slot t)
  | .cell a ty => match S.slot a, T ty with
    | .one (.ptr q 0), some i => match S.obj q with
      | some (.box ls) => if i.size ≤ ls.length ∧ 1 ≤ ls.length then some (cut i ls) else none
      | _ => none
    | _, _ => none

def tupS : List Slot → Option (List (Bool × List Leaf))
  | [] => some []
  | .one l :: ss => (tupS ss).map ((false, [l]) :: ·)
  | .agg ls :: ss => (tupS ss).map ((true, ls) :: ·)
  | _ :: _ => none

def resAll : List Slot → Option Slot
  | [s] => some s
  | ss => (tupS ss).map .tup

section
variable {P : Program} {T : Tab} {C : Ctx} {S : St} {B : Pl} {a : Act} {w : World}
def resSem (tmps : Array Value) : ResultVar → Sem Value
  | .tmp t => pure (tmps.getD t undef)
  | .cell b t => do loadVar t (← asAddr (tmps.getD b undef))
theorem results_eq (fn : Func) (tmps : Array Value) : results fn tmps = (do let vs ← fn.results.mapM (resSem tmps); pure (if h : vs.size = 1 then vs[0] else .tuple vs)) := by
  unfold results
  congr 2
theorem run_resSlot (hT : TabOk P T) (hR : Rel C S B a w) {r : ResultVar} {s : Slot} (h : resSlot T S r = some s) :
    ∃ v, (resSem a.tmps r).run P w = .ok v w ∧ SRep (LRep w C.din S B) s v := by
  cases r with
  | tmp t => simp [resSlot] at h; subst h; exact ⟨_, rfl, hR.slots t⟩
  | cell p ty =>
    simp only [resSlot] at h
    split at h
    · rename_i q i hs hi
      split at h
      · rename_i ls hq
        split at h
        · rename_i hc
          simp at h; subst h
          have hv := hR.slots p
          rw [hs] at hv
          obtain ⟨b, n, ls', h1, h2, h3⟩ := hv
          obtain ⟨b', n', cs, E, h4, h5, h6, h7⟩ := hR.objs q _ hq
          rw [h2] at h4; cases h4
          obtain ⟨v, hrun, hs⟩ := run_loadAt (P := P) (w := w) hT hi (R := LRep w C.din S B) (ls := ls) (a := ⟨b, 0, none⟩) (fun j l hj => by
            obtain ⟨x, hx, hr⟩ := h7.get j l hj
            refine ⟨x, ?_, hr⟩
            rw [add_mk, cell_blk h5]; simpa using hx) hc.1 hc.2
          refine ⟨v, ?_, hs⟩
          simp only [resSem, h3]
          simpa [Instr.loadAt, Instr.sureAddr, asAddr] using hrun
        · cases h
      · cases h
    · cases h

theorem tupS_rep {R : Leaf → Value → Prop} : ∀ {ss : List Slot} {xs : List (Bool × List Leaf)} {vs : List Value}, tupS ss = some xs → All2 (SRep R) ss vs →
    All2 (fun x u => (x.1 = true ∧ ∃ cs, u = Value.agg cs ∧ All2 R x.2 cs.toList) ∨ (x.1 = false ∧ ∃ l, x.2 = [l] ∧ R l u)) xs vs
  | [], xs, vs, h, ha => by simp [tupS] at h; subst h; cases vs <;> simp_all [All2]
  | s :: ss, xs, vs, h, ha => by
    cases vs with
    | nil => exact ha.elim
    | cons v vs =>
      cases s with
      | one l =>
        simp [tupS] at h; obtain ⟨ys, hy, rfl⟩ := h
        exact ⟨.inr ⟨rfl, l, rfl, ha.1⟩, tupS_rep hy ha.2⟩
      | agg ls =>
        simp [tupS] at h; obtain ⟨ys, hy, rfl⟩ := h
        exact ⟨.inl ⟨rfl, ha.1⟩, tupS_rep hy ha.2⟩
      | _ => simp [tupS] at h

theorem run_results (hT : TabOk P T) (hR : Rel C S B a w) {fn : Func} {ss : List Slot} (hs : fn.results.toList.mapM (resSlot T S) = some ss) {s : Slot} (h : resAll ss = some s) :
    ∃ v, (results fn a.tmps).run P w = .ok v w ∧ SRep (LRep w C.din S B) s v := by
  have key : ∀ (rs : List ResultVar) (ss : List Slot), rs.mapM (resSlot T S) = some ss →
      ∃ vs : List Value, (rs.mapM (resSem a.tmps)).run P w = .ok vs w ∧ All2 (SRep (LRep w C.din S B)) ss vs := by
    intro rs
    induction rs with
    | nil => intro ss h; simp at h; subst h; exact ⟨[], rfl, trivial⟩
    | cons r rs ih =>
      intro ss h
      simp [List.mapM_cons, Option.bind_eq_some_iff] at h
      obtain ⟨s, hs, ss', hss, rfl⟩ := h
      obtain ⟨v, hv, hr⟩ := run_resSlot hT hR hs
      obtain ⟨vs, hvs, ha⟩ := ih ss' hss
      refine ⟨v :: vs, ?_, hr, ha⟩
      rw [List.mapM_cons]
      simp only [Sem.run_bind, hv, hvs, Result.andThen_ok, Sem.run_pure]
  obtain ⟨vs, hvs, ha⟩ := key _ _ hs
  have hm : (fn.results.mapM (resSem a.tmps)).run P w = .ok vs.toArray w := by
    rw [Array.mapM_eq_mapM_toList]
    simp only [Sem.run_map, hvs]
    rfl
  cases ss with
  | nil =>
    have : vs = [] := ha.nil_left
    subst this
    simp [resAll, tupS] at h; subst h
    refine ⟨.tuple #[], ?_, ⟨_, rfl, trivial⟩⟩
    rw [results_eq, Sem.run_bind, hm]; rfl
  | cons s1 ss =>
    obtain ⟨v1, vs', rfl, h1, h2⟩ := ha.cons_left
    cases ss with
    | nil =>
      have : vs' = [] := h2.nil_left
      subst this
      simp [resAll] at h; subst h
      refine ⟨v1, ?_, h1⟩
      rw [results_eq, Sem.run_bind, hm]; rfl
    | cons s2 ss =>
      obtain ⟨v2, vs'', rfl, h3, h4⟩ := h2.cons_left
      simp only [resAll, Option.map_eq_some_iff] at h
      obtain ⟨xs, hx, rfl⟩ := h
      have ht := tupS_rep hx ha
      refine ⟨.tuple (v1 :: v2 :: vs'').toArray, ?_, ⟨_, rfl, ht⟩⟩
      rw [results_eq, Sem.run_bind, hm]; simp
end
end Go.Vl

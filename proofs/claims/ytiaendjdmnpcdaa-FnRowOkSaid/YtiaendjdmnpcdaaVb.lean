/- V-logic, part b: states (slots and objects), how they stand for a frame and a world; killing, putting, weakening. -/
import Derived.Test.YtiaendjdmnpcdaaVa
namespace Go.Vl
open Go Go.RowKit

inductive Ob where
  | box (ls : List Leaf)
  | arr (E : TypeId) (sz : Nat) (rows : List (List Leaf))
  | map (es : List (Value × Value))

inductive Slot where
  | one (l : Leaf)
  | agg (ls : List Leaf)
  | tup (xs : List (Bool × List Leaf))
  | bad
  deriving Inhabited

structure St where
  slot : Nat → Slot
  obj : Nat → Option Ob

abbrev Pl := Nat → Option (Nat × Nat)

def dep (D : Nat → Prop) (S : St) (B : Pl) (b : Nat) : Prop := D b ∧ ∀ o n, S.obj o ≠ none → B o ≠ some (b, n)

def LRep (w : World) (D : Nat → Prop) (S : St) (B : Pl) : Leaf → Value → Prop
  | .own o off len, v => ∃ E sz rows A c, S.obj o = some (.arr E sz rows) ∧ off + len ≤ rows.length ∧ v = .slice A len c ∧ len ≤ c ∧ c ≤ maxLen ∧
      (c = 0 ∨ ∃ b n, B o = some (b, n) ∧ A = some ⟨b, off * sz, none⟩ ∧ (off + c) * sz ≤ n)
  | .ptr o k, v => ∃ b n ls, S.obj o = some (.box ls) ∧ B o = some (b, n) ∧ v = .pointer (some ⟨b, k, none⟩)
  | .elm o i j, v => ∃ E sz rows b n, S.obj o = some (.arr E sz rows) ∧ i < rows.length ∧ B o = some (b, n) ∧ v = .pointer (some ⟨b, i * sz + j, none⟩)
  | .clo f os, v => ∃ vs, v = .func (.func f) #[] vs ∧ All2 (fun o x => ∃ b n ls, S.obj o = some (.box ls) ∧ B o = some (b, n) ∧ x = .pointer (some ⟨b, 0, none⟩)) os vs.toList
  | .mp o, v => ∃ b n es, S.obj o = some (.map es) ∧ B o = some (b, n) ∧ v = .map (some b)
  | .iel r j, v => ∃ a : Addr, v = .pointer (some (a.add j)) ∧ dep D S B a.block ∧ a.block < w.heap.size ∧ RepR w (dep D S B) a 0 r
  | .bad, v => v.oneCell' = true
  | .g x, v => RepL w (dep D S B) (.g x) v
  | .imm sz rows, v => RepL w (dep D S B) (.imm sz rows) v
  | .err, v => RepL w (dep D S B) .err v

def SRep (R : Leaf → Value → Prop) : Slot → Value → Prop
  | .one l, v => R l v
  | .agg ls, v => ∃ vs, v = .agg vs ∧ All2 R ls vs.toList
  | .tup xs, v => ∃ vs, v = .tuple vs ∧ All2 (fun x u => (x.1 = true ∧ ∃ cs, u = .agg cs ∧ All2 R x.2 cs.toList) ∨ (x.1 = false ∧ ∃ l, x.2 = [l] ∧ R l u)) xs vs.toList
  | .bad, _ => True

def RowsRep (w : World) (D : Nat → Prop) (sz : Nat) (rows : List (List Leaf)) (cs : Array Value) : Prop :=
  ∀ i r, rows[i]? = some r → All2 (RepL w D) r ((cs.toList.drop (i * sz)).take sz)

def ObRep (w : World) (D : Nat → Prop) (S : St) (B : Pl) (o : Nat) : Ob → Prop
  | .box ls => ∃ b n cs E, B o = some (b, n) ∧ w.heap[b]? = some (.cells cs E (0, 0)) ∧ cs.size = n ∧ All2 (LRep w D S B) ls cs.toList
  | .arr E sz rows => (rows = [] ∧ B o = none) ∨ ∃ b n cs, B o = some (b, n) ∧ w.heap[b]? = some (.cells cs E (0, 0)) ∧ cs.size = n ∧ (∀ c ∈ cs.toList, c.oneCell' = true) ∧ rows.length * sz ≤ n ∧ RowsRep w (dep D S B) sz rows cs
  | .map es => ∃ b n ens clock, B o = some (b, n) ∧ w.heap[b]? = some (.map ens clock) ∧ ens.toList.map (fun e => (e.key, e.val)) = es

/- Between two worlds nothing that was there has turned, but for the blocks of 'io'. -/
structure Kp (io : Nat → Prop) (w w' : World) : Prop where
  os : w'.os = w.os
  tape : w'.tape = w.tape
  output : w'.output = w.output
  size : w.heap.size ≤ w'.heap.size
  block : ∀ b, b < w.heap.size → ¬ io b → w'.heap[b]? = w.heap[b]?

theorem Kp.refl (io : Nat → Prop) (w : World) : Kp io w w := ⟨rfl, rfl, rfl, Nat.le_refl _, fun _ _ _ => rfl⟩
theorem Kp.trans {io : Nat → Prop} {a b c : World} (h : Kp io a b) (k : Kp (fun x => io x ∨ a.heap.size ≤ x) b c) : Kp io a c :=
  ⟨k.os.trans h.os, k.tape.trans h.tape, k.output.trans h.output, Nat.le_trans h.size k.size,
   fun x hx hn => (k.block x (Nat.lt_of_lt_of_le hx h.size) (fun hh => hh.elim hn (by omega))).trans (h.block x hx hn)⟩
theorem Kp.mono {io io' : Nat → Prop} {a b : World} (h : Kp io a b) (hm : ∀ x, x < a.heap.size → io x → io' x) : Kp io' a b :=
  ⟨h.os, h.tape, h.output, h.size, fun x hx hn => h.block x hx (fun hi => hn (hm x hx hi))⟩

structure Ctx where
  w0 : World
  io : Nat → Prop
  din : Nat → Prop
  n : Nat
  k : Nat
  pl : Pl
  obs : Nat → Option Ob

def SameShape : Ob → Ob → Prop
  | .box _, .box _ => True
  | .arr _ sz rows, .arr _ sz' rows' => sz' = sz ∧ rows'.length = rows.length
  | .map _, .map _ => True
  | _, _ => False

theorem SameShape.refl (x : Ob) : SameShape x x := by cases x <;> simp [SameShape]
theorem SameShape.trans {x y z : Ob} (h : SameShape x y) (k : SameShape y z) : SameShape x z := by
  cases x <;> cases y <;> cases z <;> simp_all [SameShape]

structure Rel (C : Ctx) (S : St) (B : Pl) (a : Act) (w : World) : Prop where
  size : a.tmps.size = C.n
  defers : a.defers = []
  slots : ∀ t, SRep (LRep w C.din S B) (S.slot t) (a.tmps.getD t undef)
  objs : ∀ o ob, S.obj o = some ob → ObRep w C.din S B o ob
  inj : ∀ o o' b n n', S.obj o ≠ none → S.obj o' ≠ none → B o = some (b, n) → B o' = some (b, n') → o = o'
  mine : ∀ o b n, S.obj o ≠ none → B o = some (b, n) → b < w.heap.size ∧ (C.w0.heap.size ≤ b ∨ C.io b) ∧ C.din b
  frame : Kp C.io C.w0 w
  dnew : ∀ b, C.w0.heap.size ≤ b → C.din b
  keep : ∀ o, o < C.k → S.obj o ≠ none → B o = C.pl o
  klt : C.k ≤ 100
  shape : ∀ o ob, o < C.k → S.obj o = some ob → ∃ ob0, C.obs o = some ob0 ∧ SameShape ob0 ob

theorem LRep.oneCell {w : World} {D : Nat → Prop} {S : St} {B : Pl} : ∀ {l : Leaf} {v : Value}, LRep w D S B l v → v.oneCell' = true
  | .own _ _ _, v, h => by obtain ⟨_, _, _, _, _, _, _, rfl, _⟩ := h; rfl
  | .ptr _ _, v, h => by obtain ⟨_, _, _, _, _, rfl⟩ := h; rfl
  | .elm _ _ _, v, h => by obtain ⟨_, _, _, _, _, _, _, _, rfl⟩ := h; rfl
  | .clo _ _, v, h => by obtain ⟨_, rfl, _⟩ := h; rfl
  | .mp _, v, h => by obtain ⟨_, _, _, _, _, rfl⟩ := h; rfl
  | .iel _ _, v, h => by obtain ⟨_, rfl, _⟩ := h; rfl
  | .bad, v, h => h
  | .g x, v, h => by
    have h : RepL w (dep D S B) (.g x) v := h
    rw [RepL.eq_1] at h; obtain ⟨rfl, h⟩ := h; exact h
  | .imm sz rows, v, h => by
    have h : RepL w (dep D S B) (.imm sz rows) v := h
    rw [RepL.eq_2] at h; obtain ⟨_, _, rfl, _⟩ := h; rfl
  | .err, v, h => by
    have h : RepL w (dep D S B) .err v := h
    rw [RepL.eq_3] at h; obtain ⟨_, _, rfl⟩ := h; rfl

theorem RepL.lrep {w : World} {D : Nat → Prop} {S : St} {B : Pl} : ∀ {l : Leaf} {v : Value}, RepL w (dep D S B) l v → LRep w D S B l v
  | .g _, _, h => h
  | .imm _ _, _, h => h
  | .err, _, h => h
  | .iel _ _, v, h => by simp [RepL] at h
  | .own _ _ _, v, h => by simp [RepL] at h
  | .ptr _ _, v, h => by simp [RepL] at h
  | .elm _ _ _, v, h => by simp [RepL] at h
  | .clo _ _, v, h => by simp [RepL] at h
  | .mp _, v, h => by simp [RepL] at h
  | .bad, v, h => by simp [RepL] at h

theorem SRep.mono {R R' : Leaf → Value → Prop} (h : ∀ l v, R l v → R' l v) : ∀ {s : Slot} {v : Value}, SRep R s v → SRep R' s v
  | .one _, _, hs => h _ _ hs
  | .agg _, _, ⟨vs, hv, ha⟩ => ⟨vs, hv, ha.mono h⟩
  | .tup _, _, ⟨vs, hv, ha⟩ => ⟨vs, hv, ha.mono fun x u hx => by
      rcases hx with ⟨h1, cs, hu, hc⟩ | ⟨h1, l, hl, hr⟩
      · exact .inl ⟨h1, cs, hu, hc.mono h⟩
      · exact .inr ⟨h1, l, hl, h _ _ hr⟩⟩
  | .bad, _, _ => trivial

/-- What carries a leaf from one state and world to another. -/
theorem LRep.step {w w' : World} {D D' : Nat → Prop} {S S' : St} {B B' : Pl} (hs : w.heap.size ≤ w'.heap.size)
    (hh : ∀ b, dep D S B b → b < w.heap.size → w'.heap[b]? = w.heap[b]?) (hD : ∀ b, dep D S B b → b < w.heap.size → dep D' S' B' b)
    (hO : ∀ o ob, S.obj o = some ob → B' o = B o ∧ ∃ ob', S'.obj o = some ob' ∧
      (match ob, ob' with
       | .box _, .box _ => True
       | .arr _ sz rows, .arr _ sz' rows' => sz' = sz ∧ rows'.length = rows.length
       | .map _, .map _ => True
       | _, _ => False)) :
    ∀ {l : Leaf} {v : Value}, LRep w D S B l v → LRep w' D' S' B' l v
  | .own o off len, v, h => by
    obtain ⟨E, sz, rows, A, c, ho, h1, h2, h3, h4, h5⟩ := h
    obtain ⟨hB, ob', ho', hm⟩ := hO o _ ho
    cases ob' <;> simp at hm
    obtain ⟨rfl, hl⟩ := hm
    exact ⟨_, _, _, A, c, ho', by omega, h2, h3, h4, by rw [hB]; exact h5⟩
  | .ptr o k, v, h => by
    obtain ⟨b, n, ls, ho, hb, hv⟩ := h
    obtain ⟨hB, ob', ho', hm⟩ := hO o _ ho
    cases ob' <;> simp at hm
    exact ⟨b, n, _, ho', by rw [hB]; exact hb, hv⟩
  | .elm o i j, v, h => by
    obtain ⟨E, sz, rows, b, n, ho, hi, hb, hv⟩ := h
    obtain ⟨hB, ob', ho', hm⟩ := hO o _ ho
    cases ob' <;> simp at hm
    obtain ⟨rfl, hl⟩ := hm
    exact ⟨_, _, _, b, n, ho', by omega, by rw [hB]; exact hb, hv⟩
  | .clo f os, v, h => by
    obtain ⟨vs, hv, ha⟩ := h
    refine ⟨vs, hv, ha.mono fun o x hx => ?_⟩
    obtain ⟨b, n, ls, ho, hb, hx⟩ := hx
    obtain ⟨hB, ob', ho', hm⟩ := hO o _ ho
    cases ob' <;> simp at hm
    exact ⟨b, n, _, ho', by rw [hB]; exact hb, hx⟩
  | .mp o, v, h => by
    obtain ⟨b, n, es, ho, hb, hv⟩ := h
    obtain ⟨hB, ob', ho', hm⟩ := hO o _ ho
    cases ob' <;> simp at hm
    exact ⟨b, n, _, ho', by rw [hB]; exact hb, hv⟩
  | .iel r j, v, h => by
    obtain ⟨a, hv, hd, hl, hr⟩ := h
    exact ⟨a, hv, hD _ hd hl, Nat.lt_of_lt_of_le hl hs, RepR_mono hs hh hD a hd hl r 0 hr⟩
  | .bad, v, h => h
  | .g x, v, h => RepL_mono hs hh hD _ _ h
  | .imm sz rows, v, h => RepL_mono hs hh hD _ _ h
  | .err, v, h => RepL_mono hs hh hD _ _ h

end Go.Vl

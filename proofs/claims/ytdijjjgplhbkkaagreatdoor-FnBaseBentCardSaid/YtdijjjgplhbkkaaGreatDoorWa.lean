/- V-logic, part a: abstract leaves, slots, objects; how they stand for values and memory. Plain definitions and lemmas, over any program. -/
import Derived.Below
import Derived.Orders
import Derived.Laws.IdiomCopy
import Derived.Laws.Cells
import Derived.ChangeKeysEq
import Derived.Deep.Draws
import Derived.Test.YtdijjjgplhbkkaaGreatDoorLay
import Derived.Laws.StructEq
set_option linter.unusedSimpArgs false
set_option linter.unusedVariables false
set_option linter.unnecessarySimpa false
namespace Go.Vl
open Go Go.RowKit
inductive Leaf where
  | g (x : Value)
  | imm (sz : Nat) (rows : List (List Leaf))
  | iel (r : List Leaf) (j : Nat)
  | nst (E : TypeId) (sz : Nat) (rows : List (List Leaf))
  | own (o off len : Nat)
  | ptr (o k : Nat)
  | elm (o i j : Nat)
  | clo (f : FuncId) (os : List Nat)
  | mp (o : Nat)
  | err
  | bad
  deriving Inhabited
def All2 {α β : Type} (R : α → β → Prop) : List α → List β → Prop
  | [], [] => True
  | a :: as, b :: bs => R a b ∧ All2 R as bs
  | _, _ => False
section
variable {α β : Type} {R R' : α → β → Prop}
theorem All2.length : ∀ {as : List α} {bs : List β}, All2 R as bs → as.length = bs.length
  | [], [], _ => rfl
  | _ :: _, _ :: _, h => by simp [All2.length h.2]
  | [], _ :: _, h => h.elim
  | _ :: _, [], h => h.elim
theorem All2.mono (hR : ∀ a b, R a b → R' a b) : ∀ {as : List α} {bs : List β}, All2 R as bs → All2 R' as bs
  | [], [], _ => trivial
  | _ :: _, _ :: _, h => ⟨hR _ _ h.1, All2.mono hR h.2⟩
  | [], _ :: _, h => h.elim
  | _ :: _, [], h => h.elim
theorem All2.mono_mem : ∀ {as : List α} {bs : List β}, (∀ a b, a ∈ as → R a b → R' a b) → All2 R as bs → All2 R' as bs
  | [], [], _, _ => trivial
  | _ :: _, _ :: _, hR, h => ⟨hR _ _ (by simp) h.1, All2.mono_mem (fun a b ha => hR a b (by simp [ha])) h.2⟩
  | [], _ :: _, _, h => h.elim
  | _ :: _, [], _, h => h.elim
theorem All2.get : ∀ {as : List α} {bs : List β}, All2 R as bs → ∀ (i : Nat) (a : α), as[i]? = some a → ∃ b, bs[i]? = some b ∧ R a b
  | [], [], _, _, _, hi => by simp at hi
  | _ :: _, b :: _, h, 0, a, hi => by simp at hi; subst hi; exact ⟨b, rfl, h.1⟩
  | _ :: _, _ :: _, h, i + 1, a, hi => by simp at hi; simpa using All2.get h.2 i a hi
  | [], _ :: _, h, _, _, _ => h.elim
  | _ :: _, [], h, _, _, _ => h.elim
theorem All2.get' : ∀ {as : List α} {bs : List β}, All2 R as bs → ∀ (i : Nat) (b : β), bs[i]? = some b → ∃ a, as[i]? = some a ∧ R a b
  | [], [], _, _, _, hi => by simp at hi
  | a :: _, _ :: _, h, 0, b, hi => by simp at hi; subst hi; exact ⟨a, rfl, h.1⟩
  | _ :: _, _ :: _, h, i + 1, b, hi => by simp at hi; simpa using All2.get' h.2 i b hi
  | [], _ :: _, h, _, _, _ => h.elim
  | _ :: _, [], h, _, _, _ => h.elim
theorem All2.of_get : ∀ {as : List α} {bs : List β}, as.length = bs.length → (∀ (i : Nat) a b, as[i]? = some a → bs[i]? = some b → R a b) → All2 R as bs
  | [], [], _, _ => trivial
  | a :: as, b :: bs, hl, h => ⟨h 0 a b rfl rfl, All2.of_get (by simpa using hl) fun i x y hx hy => h (i + 1) x y (by simpa using hx) (by simpa using hy)⟩
  | [], _ :: _, hl, _ => by simp at hl
  | _ :: _, [], hl, _ => by simp at hl
theorem All2.append : ∀ {as as' : List α} {bs bs' : List β}, All2 R as bs → All2 R as' bs' → All2 R (as ++ as') (bs ++ bs')
  | [], _, [], _, _, h' => h'
  | _ :: _, _, _ :: _, _, h, h' => ⟨h.1, All2.append h.2 h'⟩
  | [], _, _ :: _, _, h, _ => h.elim
  | _ :: _, _, [], _, h, _ => h.elim
theorem All2.take {as : List α} {bs : List β} (h : All2 R as bs) (n : Nat) : All2 R (as.take n) (bs.take n) :=
  All2.of_get (by simp [h.length]) fun i a b ha hb => by
    rw [List.getElem?_take] at ha hb
    split at ha
    · rename_i hi
      rw [if_pos hi] at hb
      obtain ⟨b', hb', hr⟩ := h.get i a ha
      rw [hb] at hb'; cases hb'; exact hr
    · cases ha
theorem All2.drop {as : List α} {bs : List β} (h : All2 R as bs) (n : Nat) : All2 R (as.drop n) (bs.drop n) :=
  All2.of_get (by simp [h.length]) fun i a b ha hb => by
    rw [List.getElem?_drop] at ha hb
    obtain ⟨b', hb', hr⟩ := h.get _ a ha
    rw [hb] at hb'; cases hb'; exact hr
theorem All2.nil_left {bs : List β} (h : All2 R [] bs) : bs = [] := by cases bs with | nil => rfl | cons => exact h.elim
theorem All2.cons_left {a : α} {as : List α} {bs : List β} (h : All2 R (a :: as) bs) : ∃ b bs', bs = b :: bs' ∧ R a b ∧ All2 R as bs' := by
  cases bs with
  | nil => exact h.elim
  | cons b bs' => exact ⟨b, bs', rfl, h.1, h.2⟩
theorem All2.replicate {a : α} {b : β} (h : R a b) : ∀ n, All2 R (List.replicate n a) (List.replicate n b)
  | 0 => trivial
  | n + 1 => ⟨h, All2.replicate h n⟩
end
mutual
def RepL (w : World) (D : Nat → Prop) : Leaf → Value → Prop
  | .g x, v => v = x ∧ x.oneCell' = true
  | .imm sz rows, v => ∃ A c, v = .slice A rows.length c ∧ rows.length ≤ c ∧ c ≤ maxLen ∧
      (rows = [] ∨ ∃ a : Addr, A = some a ∧ D a.block ∧ a.block < w.heap.size ∧ RepRs w D a sz 0 rows)
  | .err, v => ∃ t x, v = .iface t x
  | _, _ => False
def RepRs (w : World) (D : Nat → Prop) (a : Addr) (sz : Nat) : Nat → List (List Leaf) → Prop
  | _, [] => True
  | k, r :: rs => r.length = sz ∧ RepR w D a k r ∧ RepRs w D a sz (k + sz) rs
def RepR (w : World) (D : Nat → Prop) (a : Addr) : Nat → List Leaf → Prop
  | _, [] => True
  | k, l :: ls => (∃ v, w.cell? (a.add k) = some v ∧ RepL w D l v) ∧ RepR w D a (k + 1) ls
end
theorem add_block (a : Addr) (k : Nat) : (a.add k).block = a.block := by unfold Addr.add; split <;> rfl
theorem add_add' (a : Addr) (j k : Nat) : (a.add j).add k = a.add (j + k) := by
  unfold Addr.add
  by_cases hj : j = 0 <;> by_cases hk : k = 0 <;> simp [hj, hk, Nat.add_assoc]
theorem add_mk (b o k : Nat) : (⟨b, o, none⟩ : Addr).add k = ⟨b, o + k, none⟩ := by unfold Addr.add; split <;> simp_all
section
variable {w w' : World} {D D' : Nat → Prop}
theorem RepR_get {a : Addr} : ∀ {ls : List Leaf} {k : Nat}, RepR w D a k ls → ∀ (j : Nat) (l : Leaf), ls[j]? = some l → ∃ v, w.cell? (a.add (k + j)) = some v ∧ RepL w D l v
  | [], _, _, _, _, hj => by simp at hj
  | _ :: _, k, h, 0, l, hj => by
    simp at hj; subst hj
    rw [RepR.eq_2] at h
    simpa using h.1
  | _ :: _, k, h, j + 1, l, hj => by
    simp at hj
    rw [RepR.eq_2] at h
    have := RepR_get h.2 j l hj
    rwa [show k + 1 + j = k + (j + 1) from by omega] at this
theorem RepR_of {a : Addr} : ∀ {ls : List Leaf} {k : Nat}, (∀ (j : Nat) (l : Leaf), ls[j]? = some l → ∃ v, w.cell? (a.add (k + j)) = some v ∧ RepL w D l v) → RepR w D a k ls
  | [], _, _ => by rw [RepR.eq_1]; trivial
  | l :: ls, k, h => by
    rw [RepR.eq_2]
    refine ⟨by simpa using h 0 l rfl, RepR_of fun j l' hj => ?_⟩
    have := h (j + 1) l' (by simpa using hj)
    rwa [show k + (j + 1) = k + 1 + j from by omega] at this
theorem RepRs_get {a : Addr} {sz : Nat} : ∀ {rows : List (List Leaf)} {k : Nat}, RepRs w D a sz k rows → ∀ (i : Nat) (r : List Leaf), rows[i]? = some r → r.length = sz ∧ RepR w D a (k + i * sz) r
  | [], _, _, _, _, hi => by simp at hi
  | _ :: _, k, h, 0, r, hi => by
    simp at hi; subst hi
    rw [RepRs.eq_2] at h
    simpa using ⟨h.1, h.2.1⟩
  | _ :: _, k, h, i + 1, r, hi => by
    simp at hi
    rw [RepRs.eq_2] at h
    have := RepRs_get h.2.2 i r hi
    rwa [show k + sz + i * sz = k + (i + 1) * sz from by rw [Nat.succ_mul]; omega] at this
theorem RepRs_of {a : Addr} {sz : Nat} : ∀ {rows : List (List Leaf)} {k : Nat}, (∀ (i : Nat) (r : List Leaf), rows[i]? = some r → r.length = sz ∧ RepR w D a (k + i * sz) r) → RepRs w D a sz k rows
  | [], _, _ => by rw [RepRs.eq_1]; trivial
  | r :: rs, k, h => by
    rw [RepRs.eq_2]
    have h0 := h 0 r rfl
    refine ⟨h0.1, by simpa using h0.2, RepRs_of fun i r' hi => ?_⟩
    have := h (i + 1) r' (by simpa using hi)
    rwa [show k + (i + 1) * sz = k + sz + i * sz from by rw [Nat.succ_mul]; omega] at this
theorem cell_of_heap {a : Addr} (h : w'.heap[a.block]? = w.heap[a.block]?) : w'.cell? a = w.cell? a := by simp [World.cell?, h]
mutual
theorem RepL_mono (hs : w.heap.size ≤ w'.heap.size) (hh : ∀ b, D b → b < w.heap.size → w'.heap[b]? = w.heap[b]?) (hD : ∀ b, D b → b < w.heap.size → D' b) : ∀ (l : Leaf) (v : Value), RepL w D l v → RepL w' D' l v
  | .g x, v, h => by rw [RepL.eq_1] at h ⊢; exact h
  | .imm sz rows, v, h => by
    rw [RepL.eq_2] at h ⊢
    obtain ⟨A, c, hv, h1, h2, h3⟩ := h
    refine ⟨A, c, hv, h1, h2, ?_⟩
    rcases h3 with h3 | ⟨a, hA, hd, hl, hr⟩
    · exact .inl h3
    · exact .inr ⟨a, hA, hD _ hd hl, Nat.lt_of_lt_of_le hl hs, RepRs_mono hs hh hD a sz hd hl rows 0 hr⟩
  | .err, v, h => by rw [RepL.eq_3] at h ⊢; exact h
  | .iel _ _, v, h => by simp [RepL] at h
  | .own _ _ _, v, h => by simp [RepL] at h
  | .ptr _ _, v, h => by simp [RepL] at h
  | .elm _ _ _, v, h => by simp [RepL] at h
  | .clo _ _, v, h => by simp [RepL] at h
  | .mp _, v, h => by simp [RepL] at h
  | .bad, v, h => by simp [RepL] at h
  | .nst _ _ _, v, h => by simp [RepL] at h
theorem RepRs_mono (hs : w.heap.size ≤ w'.heap.size) (hh : ∀ b, D b → b < w.heap.size → w'.heap[b]? = w.heap[b]?) (hD : ∀ b, D b → b < w.heap.size → D' b) (a : Addr) (sz : Nat) (ha : D a.block) (hl : a.block < w.heap.size) :
    ∀ (rows : List (List Leaf)) (k : Nat), RepRs w D a sz k rows → RepRs w' D' a sz k rows
  | [], k, h => by rw [RepRs.eq_1]; trivial
  | r :: rs, k, h => by
    rw [RepRs.eq_2] at h ⊢
    exact ⟨h.1, RepR_mono hs hh hD a ha hl r k h.2.1, RepRs_mono hs hh hD a sz ha hl rs _ h.2.2⟩
theorem RepR_mono (hs : w.heap.size ≤ w'.heap.size) (hh : ∀ b, D b → b < w.heap.size → w'.heap[b]? = w.heap[b]?) (hD : ∀ b, D b → b < w.heap.size → D' b) (a : Addr) (ha : D a.block) (hl : a.block < w.heap.size) :
    ∀ (ls : List Leaf) (k : Nat), RepR w D a k ls → RepR w' D' a k ls
  | [], k, h => by rw [RepR.eq_1]; trivial
  | l :: ls, k, h => by
    rw [RepR.eq_2] at h ⊢
    obtain ⟨⟨v, hc, hv⟩, h2⟩ := h
    exact ⟨⟨v, (cell_of_heap (w := w) (w' := w') (a := a.add k) (by rw [add_block]; exact hh _ ha hl)).trans hc, RepL_mono hs hh hD l v hv⟩, RepR_mono hs hh hD a ha hl ls _ h2⟩
end
end
end Go.Vl
namespace Go.Vl
open Go Go.RowKit
inductive Ob where
  | box (ls : List Leaf)
  | arr (E : TypeId) (sz : Nat) (rows : List (List Leaf))
  | map (es : List (Value × Value))
  | reg (E : TypeId) (sz : Nat) (rows : List (List Leaf)) (hs : List (Nat × Nat × Leaf))
inductive Slot where
  | one (l : Leaf)
  | agg (ls : List Leaf)
  | tup (xs : List (Bool × List Leaf))
  | bad
  deriving Inhabited
structure St where
  slot : Nat → Slot
  obj : Nat → Option Ob
structure Pl where
  f : Nat → Option (Nat × Nat)
  z : Nat → Nat → Prop
instance : CoeFun Pl (fun _ => Nat → Option (Nat × Nat)) := ⟨Pl.f⟩
def Ow (B : Pl) (o b : Nat) : Prop := (∃ n, B o = some (b, n)) ∨ B.z o b
theorem Ow.at {B : Pl} {o b n : Nat} (h : B o = some (b, n)) : Ow B o b := .inl ⟨n, h⟩
def dep (D : Nat → Prop) (S : St) (B : Pl) (b : Nat) : Prop := D b ∧ ∀ o, S.obj o ≠ none → ¬ Ow B o b
theorem dep.at {D : Nat → Prop} {S : St} {B : Pl} {b : Nat} (h : dep D S B b) (o n : Nat) (ho : S.obj o ≠ none) (hb : B o = some (b, n)) : False := h.2 o ho (.at hb)
def Ob.rws : Ob → Option (TypeId × Nat × List (List Leaf))
  | .arr E sz rows => some (E, sz, rows)
  | .reg E sz rows _ => some (E, sz, rows)
  | _ => none
def St.arr (S : St) (o : Nat) : Option (TypeId × Nat × List (List Leaf)) := (S.obj o).bind Ob.rws
theorem arr_of {S : St} {o : Nat} {E : TypeId} {sz : Nat} {rows : List (List Leaf)} (h : S.obj o = some (.arr E sz rows)) : S.arr o = some (E, sz, rows) := by simp [St.arr, h, Ob.rws]
theorem arr_ofR {S : St} {o : Nat} {E : TypeId} {sz : Nat} {rows : List (List Leaf)} {hs : List (Nat × Nat × Leaf)} (h : S.obj o = some (.reg E sz rows hs)) : S.arr o = some (E, sz, rows) := by simp [St.arr, h, Ob.rws]
theorem arr_obj {S : St} {o : Nat} {x : TypeId × Nat × List (List Leaf)} (h : S.arr o = some x) : ∃ ob, S.obj o = some ob ∧ ob.rws = some x := Option.bind_eq_some_iff.1 h
def SameShape (x y : Ob) : Prop := match x, y with
  | .box _, .box _ => True
  | .map _, .map _ => True
  | .arr _ sz rows, .arr _ sz' rows' => sz' = sz ∧ rows'.length = rows.length
  | .arr _ sz rows, .reg _ sz' rows' _ => sz' = sz ∧ rows'.length = rows.length
  | .reg _ sz rows _, .arr _ sz' rows' => sz' = sz ∧ rows'.length = rows.length
  | .reg _ sz rows _, .reg _ sz' rows' _ => sz' = sz ∧ rows'.length = rows.length
  | _, _ => False
theorem SameShape.refl (x : Ob) : SameShape x x := by cases x <;> simp [SameShape]
theorem SameShape.trans {x y z : Ob} (h : SameShape x y) (k : SameShape y z) : SameShape x z := by
  cases x <;> cases y <;> cases z <;> simp_all [SameShape]
theorem SameShape.box {ls : List Leaf} {y : Ob} (h : SameShape (.box ls) y) : ∃ ls', y = .box ls' := by cases y <;> simp [SameShape] at h; exact ⟨_, rfl⟩
theorem SameShape.map {es : List (Value × Value)} {y : Ob} (h : SameShape (.map es) y) : ∃ es', y = .map es' := by cases y <;> simp [SameShape] at h; exact ⟨_, rfl⟩
theorem SameShape.rows {x y : Ob} {E sz : Nat} {rows : List (List Leaf)} (h : SameShape x y) (hx : x.rws = some (E, sz, rows)) : ∃ E' rows', y.rws = some (E', sz, rows') ∧ rows'.length = rows.length := by
  cases x <;> simp [Ob.rws] at hx <;> obtain ⟨rfl, rfl, rfl⟩ := hx <;> cases y <;> simp [SameShape] at h <;> obtain ⟨rfl, hl⟩ := h <;> exact ⟨_, _, rfl, hl⟩
theorem SameShape.arr {S S' : St} {o o' : Nat} (hO : ∀ ob, S.obj o = some ob → ∃ ob', S'.obj o' = some ob' ∧ SameShape ob ob') {E sz : Nat} {rows : List (List Leaf)} (h : S.arr o = some (E, sz, rows)) :
    ∃ E' rows', S'.arr o' = some (E', sz, rows') ∧ rows'.length = rows.length := by
  obtain ⟨ob, h1, h2⟩ := arr_obj h
  obtain ⟨ob', h3, h4⟩ := hO ob h1
  obtain ⟨E', rows', h5, h6⟩ := h4.rows h2
  exact ⟨E', rows', by simp [St.arr, h3, h5], h6⟩
def LRep (w : World) (D : Nat → Prop) (S : St) (B : Pl) : Leaf → Value → Prop
  | .own o off len, v => ∃ E sz rows A c, S.arr o = some (E, sz, rows) ∧ (off + len ≤ rows.length ∧ rows.length ≤ off + c) ∧ v = .slice A len c ∧ len ≤ c ∧ c ≤ maxLen ∧
      (c = 0 ∨ ∃ b n, B o = some (b, n) ∧ A = some ⟨b, off * sz, none⟩ ∧ (off + c) * sz ≤ n)
  | .ptr o k, v => ∃ b n ls, S.obj o = some (.box ls) ∧ B o = some (b, n) ∧ v = .pointer (some ⟨b, k, none⟩)
  | .elm o i j, v => ∃ E sz rows b n, S.arr o = some (E, sz, rows) ∧ i < rows.length ∧ B o = some (b, n) ∧ v = .pointer (some ⟨b, i * sz + j, none⟩)
  | .clo f os, v => ∃ vs, v = .func (.func f) #[] vs ∧ All2 (fun o x => ∃ b n ls, S.obj o = some (.box ls) ∧ B o = some (b, n) ∧ x = .pointer (some ⟨b, 0, none⟩)) os vs.toList
  | .mp o, v => ∃ b n es, S.obj o = some (.map es) ∧ B o = some (b, n) ∧ v = .map (some b)
  | .iel r j, v => ∃ a : Addr, v = .pointer (some (a.add j)) ∧ dep D S B a.block ∧ a.block < w.heap.size ∧ RepR w (dep D S B) a 0 r
  | .bad, v => v.oneCell' = true
  | .g x, v => RepL w (dep D S B) (.g x) v
  | .imm sz rows, v => RepL w (dep D S B) (.imm sz rows) v
  | .err, v => RepL w (dep D S B) .err v
  | .nst _ _ _, _ => False
def SRep (R : Leaf → Value → Prop) : Slot → Value → Prop
  | .one l, v => R l v
  | .agg ls, v => ∃ vs, v = .agg vs ∧ All2 R ls vs.toList
  | .tup xs, v => ∃ vs, v = .tuple vs ∧ All2 (fun x u => (x.1 = true ∧ ∃ cs, u = .agg cs ∧ All2 R x.2 cs.toList) ∨ (x.1 = false ∧ ∃ l, x.2 = [l] ∧ R l u)) xs vs.toList
  | .bad, _ => True
def RowsRep (w : World) (D : Nat → Prop) (sz : Nat) (rows : List (List Leaf)) (cs : Array Value) : Prop :=
  ∀ i r, rows[i]? = some r → All2 (RepL w D) r ((cs.toList.drop (i * sz)).take sz)
mutual
def NL (w : World) (Dp : Nat → Prop) : Leaf → Value → (Nat → Prop) → Prop
  | .nst E sz rows, v, Z => ∃ A c, v = .slice A rows.length c ∧ rows.length ≤ c ∧ c ≤ maxLen ∧
      (c = 0 ∨ ∃ b n cs, A = some ⟨b, 0, none⟩ ∧ Z b ∧ w.heap[b]? = some (.cells cs E (0, 0)) ∧ cs.size = n ∧ (∀ c ∈ cs.toList, c.oneCell' = true) ∧ c * sz ≤ n ∧ NRs w Dp sz cs 0 rows (fun x => Z x ∧ x ≠ b))
  | .g x, v, _ => v = x ∧ x.oneCell' = true
  | .imm sz rows, v, _ => RepL w Dp (.imm sz rows) v
  | .err, v, _ => RepL w Dp .err v
  | _, _, _ => False
def NRs (w : World) (Dp : Nat → Prop) (sz : Nat) (cs : Array Value) : Nat → List (List Leaf) → (Nat → Prop) → Prop
  | _, [], _ => True
  | k, r :: rs, Z => r.length = sz ∧ ∃ Z1 : Nat → Prop, (∀ x, Z1 x → Z x) ∧ NR w Dp cs k r Z1 ∧ NRs w Dp sz cs (k + sz) rs (fun x => Z x ∧ ¬ Z1 x)
def NR (w : World) (Dp : Nat → Prop) (cs : Array Value) : Nat → List Leaf → (Nat → Prop) → Prop
  | _, [], _ => True
  | k, l :: ls, Z => ∃ (v : Value) (Z1 : Nat → Prop), cs[k]? = some v ∧ (∀ x, Z1 x → Z x) ∧ NL w Dp l v Z1 ∧ NR w Dp cs (k + 1) ls (fun x => Z x ∧ ¬ Z1 x)
end
def holeAt (hs : List (Nat × Nat × Leaf)) (i j : Nat) : Option Leaf := match hs with
  | [] => none
  | (a, b, l) :: hs => if a = i ∧ b = j then some l else holeAt hs i j
structure RegRows (w : World) (Dp : Nat → Prop) (R : Leaf → Value → Prop) (sz : Nat) (rows : List (List Leaf)) (hs : List (Nat × Nat × Leaf)) (cs : Array Value) (Z : Nat → Prop) (zf : Nat → Nat → Nat → Prop) : Prop where
  wide : ∀ r ∈ rows, r.length = sz
  cell : ∀ (i : Nat) (r : List Leaf) (j : Nat) (l : Leaf), rows[i]? = some r → r[j]? = some l → holeAt hs i j = none → ∃ v, cs[i * sz + j]? = some v ∧ NL w Dp l v (zf i j)
  hole : ∀ (i : Nat) (r : List Leaf) (j : Nat) (l h : Leaf), rows[i]? = some r → r[j]? = some l → holeAt hs i j = some h → ∃ v, cs[i * sz + j]? = some v ∧ R h v
  sub : ∀ i j x, zf i j x → Z x
  apart : ∀ i j i' j' x, zf i j x → zf i' j' x → i = i' ∧ j = j'
def ObRep (w : World) (D : Nat → Prop) (S : St) (B : Pl) (o : Nat) : Ob → Prop
  | .reg E sz rows hs => (rows = [] ∧ B o = none ∧ ∀ x, ¬ B.z o x) ∨ ∃ b n cs zf, B o = some (b, n) ∧ w.heap[b]? = some (.cells cs E (0, 0)) ∧ cs.size = n ∧ (∀ c ∈ cs.toList, c.oneCell' = true) ∧ rows.length * sz ≤ n ∧ ¬ B.z o b ∧
      RegRows w (dep D S B) (LRep w D S B) sz rows hs cs (B.z o) zf
  | .box ls => ∃ b n cs E, B o = some (b, n) ∧ w.heap[b]? = some (.cells cs E (0, 0)) ∧ cs.size = n ∧ All2 (LRep w D S B) ls cs.toList
  | .arr E sz rows => (rows = [] ∧ B o = none) ∨ ∃ b n cs, B o = some (b, n) ∧ w.heap[b]? = some (.cells cs E (0, 0)) ∧ cs.size = n ∧ (∀ c ∈ cs.toList, c.oneCell' = true) ∧ rows.length * sz ≤ n ∧ RowsRep w (dep D S B) sz rows cs
  | .map es => ∃ b n ens clock, B o = some (b, n) ∧ w.heap[b]? = some (.map ens clock) ∧ ens.toList.map (fun e => (e.key, e.val)) = es
structure Kp (io : Nat → Prop) (w w' : World) : Prop where
  os : w'.os = w.os
  tape : w'.tape = w.tape
  output : w'.output = w.output
  size : w.heap.size ≤ w'.heap.size
  block : ∀ b, b < w.heap.size → ¬ io b → w'.heap[b]? = w.heap[b]?
theorem Kp.refl (io : Nat → Prop) (w : World) : Kp io w w := ⟨rfl, rfl, rfl, Nat.le_refl _, fun _ _ _ => rfl⟩
theorem Kp.trans {io : Nat → Prop} {a b c : World} (h : Kp io a b) (k : Kp (fun x => io x ∨ a.heap.size ≤ x) b c) : Kp io a c :=
  ⟨k.os.trans h.os, k.tape.trans h.tape, k.output.trans h.output, Nat.le_trans h.size k.size,
   fun x hx hn => (k.block x (Nat.lt_of_lt_of_le hx h.size) (fun hh => hh.elim hn (by omega))).trans (h.block x hx hn)⟩
theorem Kp.mono {io io' : Nat → Prop} {a b : World} (h : Kp io a b) (hm : ∀ x, x < a.heap.size → io x → io' x) : Kp io' a b :=
  ⟨h.os, h.tape, h.output, h.size, fun x hx hn => h.block x hx (fun hi => hn (hm x hx hi))⟩
def LayC (w : World) (io : Nat → Prop) : Prop := ∀ x ∈ layP, ¬ io x.1 ∧ ∃ cs E m, w.heap[x.1]? = some (.cells cs E m) ∧ x.2 cs
theorem lt_of_get {α : Type} {xs : Array α} {i : Nat} {x : α} (h : xs[i]? = some x) : i < xs.size := (Array.getElem?_eq_some_iff.1 h).1
theorem LayC.step {w w' : World} {io io' : Nat → Prop} (h : LayC w io) (hh : Kp io w w') (hio : ∀ b, b < w.heap.size → io' b → io b) : LayC w' io' := by
  intro x hx
  obtain ⟨h1, cs, E, m, h2, h3⟩ := h x hx
  have hlt := lt_of_get h2
  exact ⟨fun hi => h1 (hio _ hlt hi), cs, E, m, (hh.block _ hlt h1).trans h2, h3⟩
structure Ctx where
  w0 : World
  io : Nat → Prop
  din : Nat → Prop
  n : Nat
  k : Nat
  pl : Pl
  obs : Nat → Option Ob
structure Rel (C : Ctx) (S : St) (B : Pl) (a : Act) (w : World) : Prop where
  size : a.tmps.size = C.n
  defers : a.defers = []
  slots : ∀ t, SRep (LRep w C.din S B) (S.slot t) (a.tmps.getD t undef)
  objs : ∀ o ob, S.obj o = some ob → ObRep w C.din S B o ob
  injO : ∀ o o' b, S.obj o ≠ none → S.obj o' ≠ none → Ow B o b → Ow B o' b → o = o'
  mineO : ∀ o b, S.obj o ≠ none → Ow B o b → b < w.heap.size ∧ (C.w0.heap.size ≤ b ∨ C.io b) ∧ C.din b
  frame : Kp C.io C.w0 w
  dnew : ∀ b, C.w0.heap.size ≤ b → C.din b
  keep : ∀ o, o < C.k → S.obj o ≠ none → B o = C.pl o
  klt : C.k ≤ 100 ∧ LayC C.w0 C.io
  shape : ∀ o ob, o < C.k → S.obj o = some ob → ∃ ob0, C.obs o = some ob0 ∧ SameShape ob0 ob
theorem Rel.inj {C : Ctx} {S : St} {B : Pl} {a : Act} {w : World} (hR : Rel C S B a w) (o o' b n n' : Nat) (h : S.obj o ≠ none) (h' : S.obj o' ≠ none) (hb : B o = some (b, n)) (hb' : B o' = some (b, n')) : o = o' := hR.injO o o' b h h' (.at hb) (.at hb')
theorem Rel.mine {C : Ctx} {S : St} {B : Pl} {a : Act} {w : World} (hR : Rel C S B a w) (o b n : Nat) (h : S.obj o ≠ none) (hb : B o = some (b, n)) : b < w.heap.size ∧ (C.w0.heap.size ≤ b ∨ C.io b) ∧ C.din b := hR.mineO o b h (.at hb)
theorem LRep.oneCell {w : World} {D : Nat → Prop} {S : St} {B : Pl} : ∀ {l : Leaf} {v : Value}, LRep w D S B l v → v.oneCell' = true
  | .own _ _ _, v, h => by obtain ⟨_, _, _, _, _, _, _, rfl, _⟩ := h; rfl
  | .ptr _ _, v, h => by obtain ⟨_, _, _, _, _, rfl⟩ := h; rfl
  | .elm _ _ _, v, h => by obtain ⟨_, _, _, _, _, _, _, _, rfl⟩ := h; rfl
  | .clo _ _, v, h => by obtain ⟨_, rfl, _⟩ := h; rfl
  | .mp _, v, h => by obtain ⟨_, _, _, _, _, rfl⟩ := h; rfl
  | .iel _ _, v, h => by obtain ⟨_, rfl, _⟩ := h; rfl
  | .bad, v, h => h
  | .g x, v, h => by
    have h : RepL w (dep D S B) (.g x) v := h
    rw [RepL.eq_1] at h; obtain ⟨rfl, h⟩ := h; exact h
  | .imm sz rows, v, h => by
    have h : RepL w (dep D S B) (.imm sz rows) v := h
    rw [RepL.eq_2] at h; obtain ⟨_, _, rfl, _⟩ := h; rfl
  | .err, v, h => by
    have h : RepL w (dep D S B) .err v := h
    rw [RepL.eq_3] at h; obtain ⟨_, _, rfl⟩ := h; rfl
  | .nst _ _ _, v, h => h.elim
theorem RepL.lrep {w : World} {D : Nat → Prop} {S : St} {B : Pl} : ∀ {l : Leaf} {v : Value}, RepL w (dep D S B) l v → LRep w D S B l v
  | .g _, _, h => h
  | .imm _ _, _, h => h
  | .err, _, h => h
  | .iel _ _, v, h => by simp [RepL] at h
  | .own _ _ _, v, h => by simp [RepL] at h
  | .ptr _ _, v, h => by simp [RepL] at h
  | .elm _ _ _, v, h => by simp [RepL] at h
  | .clo _ _, v, h => by simp [RepL] at h
  | .mp _, v, h => by simp [RepL] at h
  | .bad, v, h => by simp [RepL] at h
  | .nst _ _ _, v, h => by simp [RepL] at h
theorem SRep.mono {R R' : Leaf → Value → Prop} (h : ∀ l v, R l v → R' l v) : ∀ {s : Slot} {v : Value}, SRep R s v → SRep R' s v
  | .one _, _, hs => h _ _ hs
  | .agg _, _, ⟨vs, hv, ha⟩ => ⟨vs, hv, ha.mono h⟩
  | .tup _, _, ⟨vs, hv, ha⟩ => ⟨vs, hv, ha.mono fun x u hx => by
      rcases hx with ⟨h1, cs, hu, hc⟩ | ⟨h1, l, hl, hr⟩
      · exact .inl ⟨h1, cs, hu, hc.mono h⟩
      · exact .inr ⟨h1, l, hl, h _ _ hr⟩⟩
  | .bad, _, _ => trivial
theorem LRep.step {w w' : World} {D D' : Nat → Prop} {S S' : St} {B B' : Pl} (hs : w.heap.size ≤ w'.heap.size)
    (hh : ∀ b, dep D S B b → b < w.heap.size → w'.heap[b]? = w.heap[b]?) (hD : ∀ b, dep D S B b → b < w.heap.size → dep D' S' B' b)
    (hO : ∀ o ob, S.obj o = some ob → B' o = B o ∧ ∃ ob', S'.obj o = some ob' ∧ SameShape ob ob') :
    ∀ {l : Leaf} {v : Value}, LRep w D S B l v → LRep w' D' S' B' l v
  | .own o off len, v, h => by
    obtain ⟨E, sz, rows, A, c, ho, h1, h2, h3, h4, h5⟩ := h
    obtain ⟨ob, hob, _⟩ := arr_obj ho
    obtain ⟨E', rows', ho', hl⟩ := SameShape.arr (fun ob hx => (hO o ob hx).2) ho
    exact ⟨_, _, _, A, c, ho', by omega, h2, h3, h4, by rw [(hO o ob hob).1]; exact h5⟩
  | .ptr o k, v, h => by
    obtain ⟨b, n, ls, ho, hb, hv⟩ := h
    obtain ⟨hB, ob', ho', hm⟩ := hO o _ ho
    obtain ⟨ls', rfl⟩ := hm.box
    exact ⟨b, n, _, ho', by rw [hB]; exact hb, hv⟩
  | .elm o i j, v, h => by
    obtain ⟨E, sz, rows, b, n, ho, hi, hb, hv⟩ := h
    obtain ⟨ob, hob, _⟩ := arr_obj ho
    obtain ⟨E', rows', ho', hl⟩ := SameShape.arr (fun ob hx => (hO o ob hx).2) ho
    exact ⟨_, _, _, b, n, ho', by omega, by rw [(hO o ob hob).1]; exact hb, hv⟩
  | .clo f os, v, h => by
    obtain ⟨vs, hv, ha⟩ := h
    refine ⟨vs, hv, ha.mono fun o x hx => ?_⟩
    obtain ⟨b, n, ls, ho, hb, hx⟩ := hx
    obtain ⟨hB, ob', ho', hm⟩ := hO o _ ho
    obtain ⟨ls', rfl⟩ := hm.box
    exact ⟨b, n, _, ho', by rw [hB]; exact hb, hx⟩
  | .mp o, v, h => by
    obtain ⟨b, n, es, ho, hb, hv⟩ := h
    obtain ⟨hB, ob', ho', hm⟩ := hO o _ ho
    obtain ⟨es', rfl⟩ := hm.map
    exact ⟨b, n, _, ho', by rw [hB]; exact hb, hv⟩
  | .iel r j, v, h => by
    obtain ⟨a, hv, hd, hl, hr⟩ := h
    exact ⟨a, hv, hD _ hd hl, Nat.lt_of_lt_of_le hl hs, RepR_mono hs hh hD a hd hl r 0 hr⟩
  | .bad, v, h => h
  | .g x, v, h => RepL_mono hs hh hD _ _ h
  | .imm sz rows, v, h => RepL_mono hs hh hD _ _ h
  | .err, v, h => RepL_mono hs hh hD _ _ h
  | .nst _ _ _, v, h => h.elim
mutual
theorem NL_mono {w w' : World} {Dp Dp' : Nat → Prop} (hr : ∀ l v, RepL w Dp l v → RepL w' Dp' l v) : ∀ (l : Leaf) (v : Value) (Z Z' : Nat → Prop), (∀ x, Z x → Z' x) → (∀ x, Z x → w'.heap[x]? = w.heap[x]?) → NL w Dp l v Z → NL w' Dp' l v Z'
  | .nst E sz rows, v, Z, Z', hZ, hh, h => by
    rw [NL.eq_1] at h ⊢
    obtain ⟨A, c, h1, h2, h3, h4⟩ := h
    refine ⟨A, c, h1, h2, h3, ?_⟩
    rcases h4 with h4 | ⟨b, n, cs, k1, k2, k3, k4, k5, k6, k7⟩
    · exact .inl h4
    · exact .inr ⟨b, n, cs, k1, hZ b k2, (hh b k2).trans k3, k4, k5, k6, NRs_mono hr sz cs 0 rows _ _ (fun x hx => ⟨hZ x hx.1, hx.2⟩) (fun x hx => hh x hx.1) k7⟩
  | .g x, v, Z, Z', _, _, h => by rw [NL.eq_2] at h ⊢; exact h
  | .imm sz rows, v, Z, Z', _, _, h => by rw [NL.eq_3] at h ⊢; exact hr _ _ h
  | .err, v, Z, Z', _, _, h => by rw [NL.eq_4] at h ⊢; exact hr _ _ h
  | .iel _ _, v, Z, Z', _, _, h => by simp [NL] at h
  | .own _ _ _, v, Z, Z', _, _, h => by simp [NL] at h
  | .ptr _ _, v, Z, Z', _, _, h => by simp [NL] at h
  | .elm _ _ _, v, Z, Z', _, _, h => by simp [NL] at h
  | .clo _ _, v, Z, Z', _, _, h => by simp [NL] at h
  | .mp _, v, Z, Z', _, _, h => by simp [NL] at h
  | .bad, v, Z, Z', _, _, h => by simp [NL] at h
theorem NRs_mono {w w' : World} {Dp Dp' : Nat → Prop} (hr : ∀ l v, RepL w Dp l v → RepL w' Dp' l v) (sz : Nat) (cs : Array Value) : ∀ (k : Nat) (rows : List (List Leaf)) (Z Z' : Nat → Prop), (∀ x, Z x → Z' x) → (∀ x, Z x → w'.heap[x]? = w.heap[x]?) → NRs w Dp sz cs k rows Z → NRs w' Dp' sz cs k rows Z'
  | _, [], _, _, _, _, _ => by rw [NRs.eq_1]; trivial
  | k, r :: rs, Z, Z', hZ, hh, h => by
    rw [NRs.eq_2] at h ⊢
    obtain ⟨h1, Z1, h2, h3, h4⟩ := h
    exact ⟨h1, Z1, fun x hx => hZ x (h2 x hx), NR_mono hr cs k r _ _ (fun _ hx => hx) (fun x hx => hh x (h2 x hx)) h3, NRs_mono hr sz cs _ rs _ _ (fun x hx => ⟨hZ x hx.1, hx.2⟩) (fun x hx => hh x hx.1) h4⟩
theorem NR_mono {w w' : World} {Dp Dp' : Nat → Prop} (hr : ∀ l v, RepL w Dp l v → RepL w' Dp' l v) (cs : Array Value) : ∀ (k : Nat) (ls : List Leaf) (Z Z' : Nat → Prop), (∀ x, Z x → Z' x) → (∀ x, Z x → w'.heap[x]? = w.heap[x]?) → NR w Dp cs k ls Z → NR w' Dp' cs k ls Z'
  | _, [], _, _, _, _, _ => by rw [NR.eq_1]; trivial
  | k, l :: ls, Z, Z', hZ, hh, h => by
    rw [NR.eq_2] at h ⊢
    obtain ⟨v, Z1, h1, h2, h3, h4⟩ := h
    exact ⟨v, Z1, h1, fun x hx => hZ x (h2 x hx), NL_mono hr l v _ _ (fun _ hx => hx) (fun x hx => hh x (h2 x hx)) h3, NR_mono hr cs _ ls _ _ (fun x hx => ⟨hZ x hx.1, hx.2⟩) (fun x hx => hh x hx.1) h4⟩
end
theorem holeAt_map {f : Leaf → Leaf} : ∀ {hs : List (Nat × Nat × Leaf)} (i j : Nat), holeAt (hs.map fun h => (h.1, h.2.1, f h.2.2)) i j = (holeAt hs i j).map f
  | [], _, _ => rfl
  | (a, b, l) :: hs, i, j => by
    simp only [List.map_cons, holeAt]
    split
    · rfl
    · exact holeAt_map i j
theorem holeAt_mem : ∀ {hs : List (Nat × Nat × Leaf)} {i j : Nat} {l : Leaf}, holeAt hs i j = some l → (i, j, l) ∈ hs
  | [], _, _, _, h => by cases h
  | (a, b, l) :: hs, i, j, l', h => by
    unfold holeAt at h
    split at h
    · rename_i e; obtain ⟨rfl, rfl⟩ := e; cases h; exact List.mem_cons_self
    · exact List.mem_cons_of_mem _ (holeAt_mem h)
theorem RegRows.mono {w w' : World} {Dp Dp' : Nat → Prop} {R R' : Leaf → Value → Prop} {sz : Nat} {rows : List (List Leaf)} {hs : List (Nat × Nat × Leaf)} {cs : Array Value} {Z : Nat → Prop} {zf : Nat → Nat → Nat → Prop} (f : Leaf → Leaf)
    (h : RegRows w Dp R sz rows hs cs Z zf) (hr : ∀ l v, RepL w Dp l v → RepL w' Dp' l v) (hh : ∀ x, Z x → w'.heap[x]? = w.heap[x]?) (hl : ∀ l, (∃ i j, (i, j, l) ∈ hs) → ∀ v, R l v → R' (f l) v) :
    RegRows w' Dp' R' sz rows (hs.map fun h => (h.1, h.2.1, f h.2.2)) cs Z zf := by
  refine ⟨h.wide, fun i r j l h1 h2 h3 => ?_, fun i r j l x h1 h2 h3 => ?_, h.sub, h.apart⟩
  · rw [holeAt_map, Option.map_eq_none_iff] at h3
    obtain ⟨v, h4, h5⟩ := h.cell i r j l h1 h2 h3
    exact ⟨v, h4, NL_mono hr l v _ _ (fun _ hx => hx) (fun x hx => hh x (h.sub i j x hx)) h5⟩
  · rw [holeAt_map, Option.map_eq_some_iff] at h3
    obtain ⟨y, h6, rfl⟩ := h3
    obtain ⟨v, h4, h5⟩ := h.hole i r j l y h1 h2 h6
    exact ⟨v, h4, hl _ ⟨i, j, holeAt_mem h6⟩ _ h5⟩
theorem RegRows.same {w w' : World} {Dp Dp' : Nat → Prop} {R R' : Leaf → Value → Prop} {sz : Nat} {rows : List (List Leaf)} {hs : List (Nat × Nat × Leaf)} {cs : Array Value} {Z : Nat → Prop} {zf : Nat → Nat → Nat → Prop}
    (h : RegRows w Dp R sz rows hs cs Z zf) (hr : ∀ l v, RepL w Dp l v → RepL w' Dp' l v) (hh : ∀ x, Z x → w'.heap[x]? = w.heap[x]?) (hl : ∀ l v, R l v → R' l v) : RegRows w' Dp' R' sz rows hs cs Z zf := by
  have := h.mono id hr hh fun l _ v => hl l v
  simpa using this
end Go.Vl
namespace Go.Vl
open Go Go.RowKit
inductive TD where
  | int (k : IntKind) | bool | str | st (fs : List (Nat × TypeId)) | sl (e : TypeId) | map (k e : TypeId) | arr (n : Nat) (e : TypeId) | other
def dOf : TypeDesc → TD
  | .int k => .int k
  | .bool => .bool
  | .string => .str
  | .struct fs => .st (fs.toList.map fun f => (f.offset, f.type))
  | .slice e => .sl e
  | .map k e => .map k e
  | .array n e => .arr n e
  | _ => .other
structure TI where
  d : TD
  size : Nat
  bytes : Nat
  zero : List Value
  eqf : Option (List (Nat × TypeId)) := none
abbrev Tab := TypeId → Option TI
def TD.isAgg : TD → Bool
  | .st _ | .arr _ _ => true
  | _ => false
structure TabOk (P : Program) (T : Tab) : Prop where
  info : ∀ t i, T t = some i → (P.info? t).map (fun x => (x.size, x.bytes, x.zero.map (·.cells.toList))) = some (i.size, i.bytes, some i.zero)
  und : ∀ t i, T t = some i → (P.underlying t).map dOf = some i.d
  one : ∀ t i, T t = some i → i.zero.length = i.size ∧ ∀ z ∈ i.zero, z.oneCell' = true
  eqs : ∀ t i fs, T t = some i → i.eqf = some fs → P.underlying t = some (.struct (P.fieldsOf t)) ∧ P.stoodInHeld t = false ∧ P.eqGuardType P.depth t = false ∧
    (P.fieldsOf t).toList.map (fun f => (f.name == "_", f.offset, f.type)) = fs.map (fun p => (false, p.1, p.2))
section
variable {P : Program} {T : Tab} (hT : TabOk P T) {t : TypeId} {i : TI} (h : T t = some i)
include hT h
theorem TabOk.size (w : World) : (sizeOf t).run P w = .ok i.size w := by
  have h1 := hT.info t i h
  cases hp : P.info? t with
  | none => simp [hp] at h1
  | some x =>
    simp [hp] at h1
    rw [run_sizeOf w hp]; simp [Program.cellsOf, hp, h1.1]
theorem TabOk.infoAt : ∃ x, P.info? t = some x ∧ x.size = i.size ∧ x.bytes = i.bytes ∧ ∃ z, x.zero = some z ∧ z.cells.toList = i.zero := by
  have h1 := hT.info t i h
  cases hp : P.info? t with
  | none => simp [hp] at h1
  | some x =>
    simp [hp] at h1
    obtain ⟨a, b, z, hz, hc⟩ := h1
    exact ⟨x, rfl, a, b, z, hz, hc⟩
theorem TabOk.undAt : ∃ d, P.underlying t = some d ∧ dOf d = i.d := by
  have h1 := hT.und t i h
  cases hp : P.underlying t with
  | none => simp [hp] at h1
  | some d => simp [hp] at h1; exact ⟨d, rfl, h1⟩
theorem TabOk.isAgg (w : World) : (isAgg t).run P w = .ok i.d.isAgg w := by
  obtain ⟨d, hd, hi⟩ := hT.undAt h
  unfold Go.isAgg
  simp only [Sem.run_bind, run_underlying hd, Result.andThen_ok]
  rw [← hi]
  cases d <;> simp [dOf, TD.isAgg]
end
structure Eff where
  dst : Slot := .bad
  cond : Prop := True
  reads : List Nat := []
  kills : List Nat := []
  sets : List (Nat × Ob) := []
def kL (ks : List Nat) : Leaf → Leaf
  | .own o a b => if ks.contains o then .bad else .own o a b
  | .ptr o k => if ks.contains o then .bad else .ptr o k
  | .elm o i j => if ks.contains o then .bad else .elm o i j
  | .clo f os => if os.any ks.contains then .bad else .clo f os
  | .mp o => if ks.contains o then .bad else .mp o
  | l => l
def kS (ks : List Nat) : Slot → Slot
  | .one l => .one (kL ks l)
  | .agg ls => .agg (ls.map (kL ks))
  | .tup xs => .tup (xs.map fun x => (x.1, x.2.map (kL ks)))
  | .bad => .bad
def kO (ks : List Nat) : Ob → Ob
  | .box ls => .box (ls.map (kL ks))
  | .arr E sz rows => .arr E sz rows
  | .map es => .map es
  | .reg E sz rows hs => .reg E sz rows (hs.map fun h => (h.1, h.2.1, kL ks h.2.2))
def St.kill (ks : List Nat) (S : St) : St :=
  match ks with
  | [] => S
  | k :: ks => ⟨fun t => kS (k :: ks) (S.slot t), fun o => if (k :: ks).contains o then none else (S.obj o).map (kO (k :: ks))⟩
def St.sets : List (Nat × Ob) → St → St
  | [], S => S
  | (o, ob) :: l, S => ⟨(St.sets l S).slot, fun x => if x = o then some ob else (St.sets l S).obj x⟩
def St.put (d : Option Nat) (s : Slot) (S : St) : St :=
  match d with
  | none => S
  | some d => ⟨fun t => if t = d then s else S.slot t, S.obj⟩
def St.app (S : St) (d : Option Nat) (e : Eff) : St := ((S.kill e.kills).sets e.sets).put d e.dst
theorem kO_shape (ks : List Nat) (ob : Ob) : SameShape ob (kO ks ob) := by cases ob <;> simp [kO, SameShape]
section
variable {C : Ctx} {S : St} {B : Pl} {a : Act} {w : World}
theorem All2.map_left {α β γ : Type} {R : β → γ → Prop} {f : α → β} : ∀ {as : List α} {bs : List γ}, All2 (fun a b => R (f a) b) as bs → All2 R (as.map f) bs
  | [], [], _ => trivial
  | _ :: _, _ :: _, h => ⟨h.1, All2.map_left h.2⟩
  | [], _ :: _, h => h.elim
  | _ :: _, [], h => h.elim
theorem SRep.map_kL {R R' : Leaf → Value → Prop} {ks : List Nat} (h : ∀ l v, R l v → R' (kL ks l) v) : ∀ {s : Slot} {v : Value}, SRep R s v → SRep R' (kS ks s) v
  | .one _, _, hs => h _ _ hs
  | .agg _, _, ⟨vs, hv, ha⟩ => ⟨vs, hv, All2.map_left (ha.mono fun l v => h l v)⟩
  | .tup _, _, ⟨vs, hv, ha⟩ => ⟨vs, hv, All2.map_left (ha.mono fun x u hx => by
      rcases hx with ⟨h1, cs, hu, hc⟩ | ⟨h1, l, hl, hr⟩
      · exact .inl ⟨h1, cs, hu, All2.map_left (hc.mono fun l v => h l v)⟩
      · exact .inr ⟨h1, kL ks l, by simp [hl], h _ _ hr⟩)⟩
  | .bad, _, _ => trivial
theorem Rel.kill (hR : Rel C S B a w) (ks : List Nat) : Rel C (S.kill ks) B a w := by
  cases ks with
  | nil => exact hR
  | cons k0 ks0 =>
    generalize hks : k0 :: ks0 = ks
    have hobj : ∀ o, (S.kill ks).obj o = if ks.contains o then none else (S.obj o).map (kO ks) := by subst hks; intro o; rfl
    have hslot : ∀ t, (S.kill ks).slot t = kS ks (S.slot t) := by subst hks; intro o; rfl
    have live : ∀ o, (S.kill ks).obj o ≠ none → S.obj o ≠ none := by
      intro o h h0; rw [hobj, h0] at h; split at h <;> simp at h
    have hdep : ∀ b, dep C.din S B b → dep C.din (S.kill ks) B b := fun b h => ⟨h.1, fun o ho => h.2 o (live o ho)⟩
    have keep : ∀ o, ks.contains o = false → ∀ ob, S.obj o = some ob → (S.kill ks).obj o = some (kO ks ob) := by
      intro o h ob ho; rw [hobj, h, ho]; rfl
    have karr : ∀ o, ks.contains o = false → ∀ {E sz rows}, S.arr o = some (E, sz, rows) → ∃ E' rows', (S.kill ks).arr o = some (E', sz, rows') ∧ rows'.length = rows.length := fun o h {E sz rows} ho =>
      SameShape.arr (fun ob hx => ⟨_, keep o h ob hx, kO_shape ks ob⟩) ho
    have hrl : ∀ l v, RepL w (dep C.din S B) l v → RepL w (dep C.din (S.kill ks) B) l v := fun l v h => RepL_mono (Nat.le_refl _) (fun _ _ _ => rfl) (fun b h _ => hdep b h) l v h
    have hl : ∀ l v, LRep w C.din S B l v → LRep w C.din (S.kill ks) B (kL ks l) v := by
      intro l v h
      cases l with
      | own o x y =>
        have h1 := h.oneCell
        by_cases hk : ks.contains o = true
        · have e : kL ks (.own o x y) = .bad := if_pos hk
          rw [e]; exact h1
        · have e : kL ks (.own o x y) = .own o x y := if_neg hk
          rw [e]
          obtain ⟨E, sz, rows, A, c, ho, r1, r⟩ := h
          obtain ⟨E', rows', ho', hl⟩ := karr o (by simpa using hk) ho
          exact ⟨E', sz, rows', A, c, ho', by omega, r⟩
      | ptr o x =>
        have h1 := h.oneCell
        by_cases hk : ks.contains o = true
        · have e : kL ks (.ptr o x) = .bad := if_pos hk
          rw [e]; exact h1
        · have e : kL ks (.ptr o x) = .ptr o x := if_neg hk
          rw [e]
          obtain ⟨b, n, ls, ho, r⟩ := h
          exact ⟨b, n, _, keep o (by simpa using hk) _ ho, r⟩
      | elm o x y =>
        have h1 := h.oneCell
        by_cases hk : ks.contains o = true
        · have e : kL ks (.elm o x y) = .bad := if_pos hk
          rw [e]; exact h1
        · have e : kL ks (.elm o x y) = .elm o x y := if_neg hk
          rw [e]
          obtain ⟨E, sz, rows, b, n, ho, r1, r⟩ := h
          obtain ⟨E', rows', ho', hl⟩ := karr o (by simpa using hk) ho
          exact ⟨E', sz, rows', b, n, ho', by omega, r⟩
      | mp o =>
        have h1 := h.oneCell
        by_cases hk : ks.contains o = true
        · have e : kL ks (.mp o) = .bad := if_pos hk
          rw [e]; exact h1
        · have e : kL ks (.mp o) = .mp o := if_neg hk
          rw [e]
          obtain ⟨b, n, es, ho, r⟩ := h
          exact ⟨b, n, _, keep o (by simpa using hk) _ ho, r⟩
      | clo f os =>
        have h1 := h.oneCell
        by_cases hk : os.any ks.contains = true
        · have e : kL ks (.clo f os) = .bad := if_pos hk
          rw [e]; exact h1
        · have e : kL ks (.clo f os) = .clo f os := if_neg hk
          rw [e]
          obtain ⟨vs, hv, ha⟩ := h
          refine ⟨vs, hv, ha.mono_mem fun o x hm hx => ?_⟩
          obtain ⟨b, n, ls, ho, r⟩ := hx
          exact ⟨b, n, _, keep o (by simp at hk; simpa using hk o hm) _ ho, r⟩
      | g x => exact hrl _ _ h
      | imm sz rows => exact hrl _ _ h
      | err => exact hrl _ _ h
      | iel r j =>
        obtain ⟨a, hv, hd, hlt, hr⟩ := h
        exact ⟨a, hv, hdep _ hd, hlt, RepR_mono (Nat.le_refl _) (fun _ _ _ => rfl) (fun b h _ => hdep b h) a hd hlt r 0 hr⟩
      | bad => exact h
      | nst => exact h.elim
    refine ⟨hR.size, hR.defers, fun t => by rw [hslot]; exact SRep.map_kL hl (hR.slots t), ?_, fun o o' b h h' => hR.injO o o' b (live o h) (live o' h'), fun o b h => hR.mineO o b (live o h), hR.frame, hR.dnew, fun o h ho => hR.keep o h (live o ho), hR.klt, fun o ob h ho => ?_⟩
    · intro o ob ho
      rw [hobj] at ho
      split at ho
      · cases ho
      rename_i hk
      simp at ho
      obtain ⟨ob0, h0, rfl⟩ := ho
      have := hR.objs o ob0 h0
      cases ob0 with
      | box ls =>
        obtain ⟨b, n, cs, E, hb, hh, hn, ha⟩ := this
        exact ⟨b, n, cs, E, hb, hh, hn, All2.map_left (ha.mono hl)⟩
      | arr E sz rows =>
        rcases this with h1 | ⟨b, n, cs, hb, hh, hn, h1, h2, h3⟩
        · exact .inl h1
        · exact .inr ⟨b, n, cs, hb, hh, hn, h1, h2, fun i r hi => (h3 i r hi).mono hrl⟩
      | map es => exact this
      | reg E sz rows hs =>
        rcases this with h1 | ⟨b, n, cs, zf, hb, hh, hn, h1, h2, h3, h4⟩
        · exact .inl h1
        · exact .inr ⟨b, n, cs, zf, hb, hh, hn, h1, h2, h3, h4.mono (kL ks) hrl (fun _ _ => rfl) fun l _ v => hl l v⟩
    · rw [hobj] at ho
      split at ho
      · cases ho
      · simp at ho
        obtain ⟨ob0, h0, rfl⟩ := ho
        obtain ⟨ob1, h1, h2⟩ := hR.shape o ob0 h h0
        exact ⟨ob1, h1, h2.trans (kO_shape ks ob0)⟩
theorem Rel.put (hR : Rel C S B a w) (d : Option Nat) (s : Slot) (v : Value) (hs : SRep (LRep w C.din S B) s v) (hd : ∀ x, d = some x → x < C.n) : Rel C (S.put d s) B (a.put d v) w := by
  cases d with
  | none => exact hR
  | some d =>
    have hdn := hd d rfl
    have e : ∀ l v, LRep w C.din S B l v → LRep w C.din (S.put (some d) s) B l v := fun l v h => by
      exact LRep.step (Nat.le_refl _) (fun _ _ _ => rfl) (fun b h _ => h) (fun o ob ho => ⟨rfl, ob, ho, SameShape.refl ob⟩) h
    refine ⟨by simp [Act.put, hR.size], hR.defers, fun t => ?_, fun o ob ho => ?_, hR.injO, hR.mineO, hR.frame, hR.dnew, hR.keep, hR.klt, hR.shape⟩
    · by_cases htd : t = d
      · subst htd
        have h1 : (a.put (some t) v).tmps.getD t undef = v := by simp [Act.put, Array.getD, hR.size, hdn]
        rw [h1]
        simpa [St.put] using SRep.mono e hs
      · have h1 : (a.put (some d) v).tmps.getD t undef = a.tmps.getD t undef := by
          simp [Act.put, Array.getElem?_setIfInBounds_ne (Ne.symm htd)]
        rw [h1]
        have := SRep.mono e (hR.slots t)
        simpa [St.put, htd] using this
    · have := hR.objs o ob ho
      cases ob with
      | box ls => obtain ⟨b, n, cs, E, hb, hh, hn, ha⟩ := this; exact ⟨b, n, cs, E, hb, hh, hn, ha.mono e⟩
      | arr E sz rows => exact this
      | map es => exact this
      | reg E sz rows hs =>
        rcases this with h1 | ⟨b, n, cs, zf, hb, hh, hn, h1, h2, h3, h4⟩
        · exact .inl h1
        · exact .inr ⟨b, n, cs, zf, hb, hh, hn, h1, h2, h3, h4.same (fun _ _ h => h) (fun _ _ => rfl) e⟩
end
end Go.Vl
namespace Go.Vl
open Go Go.RowKit
def Pl.set (B : Pl) (o : Nat) (p : Option (Nat × Nat)) : Pl := ⟨fun x => if x = o then p else B x, fun x b => x ≠ o ∧ B.z x b⟩
theorem Ow.set_ne {B : Pl} {o : Nat} {p : Option (Nat × Nat)} {x b : Nat} (h : x ≠ o) : Ow (B.set o p) x b ↔ Ow B x b := by simp [Ow, Pl.set, h]
theorem Ow.set_eq {B : Pl} {o : Nat} {p : Option (Nat × Nat)} {b : Nat} : Ow (B.set o p) o b ↔ ∃ n, p = some (b, n) := by simp [Ow, Pl.set]
section
variable {C : Ctx} {S : St} {B : Pl} {a : Act} {w w' : World}
theorem Rel.world (hR : Rel C S B a w) (hh : w'.heap = w.heap) (h1 : w'.os = w.os) (h2 : w'.tape = w.tape) (h3 : w'.output = w.output) : Rel C S B a w' := by
  have e : ∀ l v, LRep w C.din S B l v → LRep w' C.din S B l v := fun l v h => by
    exact LRep.step (by rw [hh]; exact Nat.le_refl _) (fun b _ _ => by rw [hh]) (fun b h _ => h) (fun o ob ho => ⟨rfl, ob, ho, SameShape.refl ob⟩) h
  have er : ∀ l v, RepL w (dep C.din S B) l v → RepL w' (dep C.din S B) l v := fun l v h => RepL_mono (by rw [hh]; exact Nat.le_refl _) (fun b _ _ => by rw [hh]) (fun b h _ => h) l v h
  refine ⟨hR.size, hR.defers, fun t => SRep.mono e (hR.slots t), fun o ob ho => ?_, hR.injO, fun o b ho hb => by rw [hh]; exact hR.mineO o b ho hb, ?_, hR.dnew, hR.keep, hR.klt, hR.shape⟩
  · have := hR.objs o ob ho
    cases ob with
    | box ls => obtain ⟨b, n, cs, E, hb, hc, hn, ha⟩ := this; exact ⟨b, n, cs, E, hb, by rw [hh]; exact hc, hn, ha.mono e⟩
    | arr E sz rows =>
      rcases this with h | ⟨b, n, cs, hb, hc, hn, h1, h2, h3⟩
      · exact .inl h
      · exact .inr ⟨b, n, cs, hb, by rw [hh]; exact hc, hn, h1, h2, fun i r hi => (h3 i r hi).mono er⟩
    | map es => obtain ⟨b, n, ens, clock, hb, hc, he⟩ := this; exact ⟨b, n, ens, clock, hb, by rw [hh]; exact hc, he⟩
    | reg E sz rows hs =>
      rcases this with h | ⟨b, n, cs, zf, hb, hc, hn, h1, h2, h3, h4⟩
      · exact .inl h
      · exact .inr ⟨b, n, cs, zf, hb, by rw [hh]; exact hc, hn, h1, h2, h3, h4.same er (fun _ _ => by rw [hh]) e⟩
  · exact ⟨h1.trans hR.frame.os, h2.trans hR.frame.tape, h3.trans hR.frame.output, by rw [hh]; exact hR.frame.size, fun b hb hn => by rw [hh]; exact hR.frame.block b hb hn⟩
theorem sets_one_obj (S : St) (o : Nat) (ob : Ob) (x : Nat) : (S.sets [(o, ob)]).obj x = if x = o then some ob else S.obj x := rfl
theorem sets_one_slot (S : St) (o : Nat) (ob : Ob) : (S.sets [(o, ob)]).slot = S.slot := rfl
theorem ObRep.other {D D' : Nat → Prop} {S' : St} {B' : Pl} {o : Nat} {ob : Ob} (h : ObRep w D S B o ob) (hB : B' o = B o) (hZ : B'.z o = B.z o)
    (hl : ∀ l v, LRep w D S B l v → LRep w' D' S' B' l v) (hr : ∀ l v, RepL w (dep D S B) l v → RepL w' (dep D' S' B') l v)
    (hh : ∀ b, Ow B o b → w'.heap[b]? = w.heap[b]?) : ObRep w' D' S' B' o ob := by
  cases ob with
  | reg E sz rows hs =>
    rcases h with ⟨h1, h2, h3⟩ | ⟨b, n, cs, zf, hb, hc, hn, h1, h2, h3, h4⟩
    · exact .inl ⟨h1, hB.trans h2, by rw [hZ]; exact h3⟩
    · exact .inr ⟨b, n, cs, zf, hB.trans hb, (hh b (.at hb)).trans hc, hn, h1, h2, by rw [hZ]; exact h3, by rw [hZ]; exact h4.same hr (fun x hx => hh x (.inr hx)) hl⟩
  | box ls => obtain ⟨b, n, cs, E, hb, hc, hn, ha⟩ := h; exact ⟨b, n, cs, E, hB.trans hb, (hh b (.at hb)).trans hc, hn, ha.mono hl⟩
  | arr E sz rows =>
    rcases h with h | ⟨b, n, cs, hb, hc, hn, h1, h2, h3⟩
    · exact .inl ⟨h.1, hB.trans h.2⟩
    · exact .inr ⟨b, n, cs, hB.trans hb, (hh b (.at hb)).trans hc, hn, h1, h2, fun i r hi => (h3 i r hi).mono hr⟩
  | map es => obtain ⟨b, n, ens, clock, hb, hc, he⟩ := h; exact ⟨b, n, ens, clock, hB.trans hb, (hh b (.at hb)).trans hc, he⟩
theorem Rel.turn (hR : Rel C S B a w) {o b n : Nat} {ob ob' : Ob} (ho : S.obj o = some ob) (hb : B o = some (b, n)) (hsh : SameShape ob ob')
    (h1 : w'.os = w.os) (h2 : w'.tape = w.tape) (h3 : w'.output = w.output) (hs : w'.heap.size = w.heap.size) (hk : ∀ x, x ≠ b → w'.heap[x]? = w.heap[x]?)
    (hob : (∀ l v, LRep w C.din S B l v → LRep w' C.din (S.sets [(o, ob')]) B l v) → (∀ l v, RepL w (dep C.din S B) l v → RepL w' (dep C.din (S.sets [(o, ob')]) B) l v) → ObRep w' C.din (S.sets [(o, ob')]) B o ob') :
    Rel C (S.sets [(o, ob')]) B a w' := by
  have live : ∀ x, (S.sets [(o, ob')]).obj x ≠ none → S.obj x ≠ none := by
    intro x h; rw [sets_one_obj] at h
    by_cases e : x = o
    · subst e; simp [ho]
    · rwa [if_neg e] at h
  have hne : ∀ x, dep C.din S B x → x ≠ b := fun x h e => h.at o n (by simp [ho]) (by rw [e]; exact hb)
  have hdep : ∀ x, dep C.din S B x → x < w.heap.size → dep C.din (S.sets [(o, ob')]) B x := fun x h _ => ⟨h.1, fun y hy => h.2 y (live y hy)⟩
  have er : ∀ l v, RepL w (dep C.din S B) l v → RepL w' (dep C.din (S.sets [(o, ob')]) B) l v := fun l v h => RepL_mono (by omega) (fun x hx _ => hk x (hne x hx)) hdep l v h
  have e : ∀ l v, LRep w C.din S B l v → LRep w' C.din (S.sets [(o, ob')]) B l v := fun l v h => by
    refine LRep.step (by omega) (fun x hx _ => hk x (hne x hx)) hdep (fun x obx hx => ⟨rfl, ?_⟩) h
    by_cases ex : x = o
    · subst ex
      rw [ho] at hx; cases hx
      exact ⟨ob', by rw [sets_one_obj, if_pos rfl], hsh⟩
    · exact ⟨obx, by rw [sets_one_obj, if_neg ex]; exact hx, SameShape.refl _⟩
  refine ⟨hR.size, hR.defers, fun t => SRep.mono e (hR.slots t), fun x obx hx => ?_, fun x y c hx hy => hR.injO x y c (live x hx) (live y hy), fun x c hx hc => ?_, ?_, hR.dnew, fun x h hx => hR.keep x h (live x hx), hR.klt, fun x obx h hx => ?_⟩
  · by_cases ex : x = o
    · subst ex
      rw [sets_one_obj, if_pos rfl] at hx; cases hx
      exact hob e er
    · rw [sets_one_obj, if_neg ex] at hx
      exact (hR.objs x obx hx).other rfl rfl e er fun c hc => hk c fun ec => ex (hR.injO x o c (by simp [hx]) (by simp [ho]) hc (by rw [ec]; exact .at hb))
  · rw [hs]; exact hR.mineO x c (live x hx) hc
  · refine ⟨h1.trans hR.frame.os, h2.trans hR.frame.tape, h3.trans hR.frame.output, by rw [hs]; exact hR.frame.size, fun x hx hn => ?_⟩
    have hm := hR.mine o b n (by simp [ho]) hb
    rw [hk x (fun ex => by rw [ex] at hx hn; exact hm.2.1.elim (fun h => by omega) (fun h => hn h))]
    exact hR.frame.block x hx hn
  · by_cases ex : x = o
    · subst ex
      rw [sets_one_obj, if_pos rfl] at hx; cases hx
      obtain ⟨ob1, h1, h2⟩ := hR.shape x ob h ho
      exact ⟨ob1, h1, h2.trans hsh⟩
    · rw [sets_one_obj, if_neg ex] at hx
      exact hR.shape x obx h hx
theorem Rel.new (hR : Rel C S B a w) {o n : Nat} {ob : Ob} (x : Obj) (ho : S.obj o = none) (ho1 : 100 ≤ o)
    (hob : (∀ l v, LRep w C.din S B l v → LRep (w.alloc x) C.din (S.sets [(o, ob)]) (B.set o (some (w.heap.size, n))) l v) →
      (∀ l v, RepL w (dep C.din S B) l v → RepL (w.alloc x) (dep C.din (S.sets [(o, ob)]) (B.set o (some (w.heap.size, n)))) l v) → ObRep (w.alloc x) C.din (S.sets [(o, ob)]) (B.set o (some (w.heap.size, n))) o ob) :
    Rel C (S.sets [(o, ob)]) (B.set o (some (w.heap.size, n))) a (w.alloc x) := by
  have hsz : (w.alloc x).heap.size = w.heap.size + 1 := by simp
  have hold : ∀ y, y < w.heap.size → (w.alloc x).heap[y]? = w.heap[y]? := fun y hy => Below.heap_alloc w x y hy
  have hBo : ∀ y, y ≠ o → (B.set o (some (w.heap.size, n))) y = B y := fun y hy => by simp [Pl.set, hy]
  have hBs : (B.set o (some (w.heap.size, n))) o = some (w.heap.size, n) := by simp [Pl.set]
  have live : ∀ y, y ≠ o → (S.sets [(o, ob)]).obj y ≠ none → S.obj y ≠ none := by
    intro y hy h; rwa [sets_one_obj, if_neg hy] at h
  have hdep : ∀ y, dep C.din S B y → y < w.heap.size → dep C.din (S.sets [(o, ob)]) (B.set o (some (w.heap.size, n))) y := by
    intro y h hy
    refine ⟨h.1, fun z hz hB => ?_⟩
    by_cases ez : z = o
    · subst ez; obtain ⟨n', hn'⟩ := Ow.set_eq.1 hB; cases hn'; omega
    · exact h.2 z (live z ez hz) ((Ow.set_ne ez).1 hB)
  have er : ∀ l v, RepL w (dep C.din S B) l v → RepL (w.alloc x) (dep C.din (S.sets [(o, ob)]) (B.set o (some (w.heap.size, n)))) l v :=
    fun l v h => RepL_mono (by omega) (fun y _ hy => hold y hy) hdep l v h
  have e : ∀ l v, LRep w C.din S B l v → LRep (w.alloc x) C.din (S.sets [(o, ob)]) (B.set o (some (w.heap.size, n))) l v := fun l v h => by
    refine LRep.step (by omega) (fun y _ hy => hold y hy) hdep (fun y oby hy => ?_) h
    have ey : y ≠ o := fun ey => by subst ey; rw [ho] at hy; cases hy
    exact ⟨hBo y ey, oby, by rw [sets_one_obj, if_neg ey]; exact hy, SameShape.refl _⟩
  refine ⟨hR.size, hR.defers, fun t => SRep.mono e (hR.slots t), fun y oby hy => ?_, ?_, fun y c hy hc => ?_, ?_, hR.dnew, fun y h hy => (have hyo : y ≠ o := (by have := hR.klt; omega); (hBo y hyo).trans (hR.keep y h (live y hyo hy))), hR.klt, fun y oby h hy => (have hyo : y ≠ o := (by have := hR.klt; omega); hR.shape y oby h (by rw [sets_one_obj, if_neg hyo] at hy; exact hy))⟩
  · by_cases ey : y = o
    · subst ey
      rw [sets_one_obj, if_pos rfl] at hy; cases hy
      exact hob e er
    · rw [sets_one_obj, if_neg ey] at hy
      exact (hR.objs y oby hy).other (hBo y ey) (by funext c; simp [Pl.set, ey]) e er fun c hc => hold c (hR.mineO y c (by simp [hy]) hc).1
  · intro y z c hy hz hyc hzc
    by_cases ey : y = o <;> by_cases ez : z = o
    · rw [ey, ez]
    · subst ey; obtain ⟨n', hn'⟩ := Ow.set_eq.1 hyc; cases hn'; have := (hR.mineO z _ (live z ez hz) ((Ow.set_ne ez).1 hzc)).1; omega
    · subst ez; obtain ⟨n', hn'⟩ := Ow.set_eq.1 hzc; cases hn'; have := (hR.mineO y _ (live y ey hy) ((Ow.set_ne ey).1 hyc)).1; omega
    · exact hR.injO y z c (live y ey hy) (live z ez hz) ((Ow.set_ne ey).1 hyc) ((Ow.set_ne ez).1 hzc)
  · by_cases ey : y = o
    · subst ey; obtain ⟨n', hn'⟩ := Ow.set_eq.1 hc; cases hn'; exact ⟨by omega, .inl hR.frame.size, hR.dnew _ hR.frame.size⟩
    · have := hR.mineO y c (live y ey hy) ((Ow.set_ne ey).1 hc); exact ⟨by omega, this.2⟩
  · have := hR.frame
    exact ⟨this.os, this.tape, this.output, by have := this.size; omega, fun y hy hn => (hold y (Nat.lt_of_lt_of_le hy this.size)).trans (this.block y hy hn)⟩
theorem Rel.newNil (hR : Rel C S B a w) {o : Nat} (E : TypeId) (sz : Nat) (ho : S.obj o = none) (ho1 : 100 ≤ o) : Rel C (S.sets [(o, .arr E sz [])]) (B.set o none) a w := by
  have hBo : ∀ y, y ≠ o → (B.set o none) y = B y := fun y hy => by simp [Pl.set, hy]
  have hBs : (B.set o none) o = none := by simp [Pl.set]
  have live : ∀ y, y ≠ o → (S.sets [(o, Ob.arr E sz [])]).obj y ≠ none → S.obj y ≠ none := by
    intro y hy h; rwa [sets_one_obj, if_neg hy] at h
  have hdep : ∀ y, dep C.din S B y → y < w.heap.size → dep C.din (S.sets [(o, Ob.arr E sz [])]) (B.set o none) y := by
    intro y h hy
    refine ⟨h.1, fun z hz hB => ?_⟩
    by_cases ez : z = o
    · subst ez; obtain ⟨n', hn'⟩ := Ow.set_eq.1 hB; cases hn'
    · exact h.2 z (live z ez hz) ((Ow.set_ne ez).1 hB)
  have er : ∀ l v, RepL w (dep C.din S B) l v → RepL w (dep C.din (S.sets [(o, Ob.arr E sz [])]) (B.set o none)) l v :=
    fun l v h => RepL_mono (Nat.le_refl _) (fun y _ hy => rfl) hdep l v h
  have e : ∀ l v, LRep w C.din S B l v → LRep w C.din (S.sets [(o, Ob.arr E sz [])]) (B.set o none) l v := fun l v h => by
    refine LRep.step (Nat.le_refl _) (fun y _ hy => rfl) hdep (fun y oby hy => ?_) h
    have ey : y ≠ o := fun ey => by subst ey; rw [ho] at hy; cases hy
    exact ⟨hBo y ey, oby, by rw [sets_one_obj, if_neg ey]; exact hy, SameShape.refl _⟩
  refine ⟨hR.size, hR.defers, fun t => SRep.mono e (hR.slots t), fun y oby hy => ?_, ?_, fun y c hy hc => ?_, hR.frame, hR.dnew, fun y h hy => (have hyo : y ≠ o := (by have := hR.klt; omega); (hBo y hyo).trans (hR.keep y h (live y hyo hy))), hR.klt, fun y oby h hy => (have hyo : y ≠ o := (by have := hR.klt; omega); hR.shape y oby h (by rw [sets_one_obj, if_neg hyo] at hy; exact hy))⟩
  · by_cases ey : y = o
    · subst ey
      rw [sets_one_obj, if_pos rfl] at hy; cases hy
      exact .inl ⟨rfl, hBs⟩
    · rw [sets_one_obj, if_neg ey] at hy
      exact (hR.objs y oby hy).other (hBo y ey) (by funext c; simp [Pl.set, ey]) e er fun c hc => rfl
  · intro y z c hy hz hyc hzc
    by_cases ey : y = o
    · subst ey; obtain ⟨n', hn'⟩ := Ow.set_eq.1 hyc; cases hn'
    · by_cases ez : z = o
      · subst ez; obtain ⟨n', hn'⟩ := Ow.set_eq.1 hzc; cases hn'
      · exact hR.injO y z c (live y ey hy) (live z ez hz) ((Ow.set_ne ey).1 hyc) ((Ow.set_ne ez).1 hzc)
  · by_cases ey : y = o
    · subst ey; obtain ⟨n', hn'⟩ := Ow.set_eq.1 hc; cases hn'
    · exact hR.mineO y c (live y ey hy) ((Ow.set_ne ey).1 hc)
theorem setCells_heap (b : Nat) (E : TypeId) : ∀ (vs : List Value) (o : Nat) (w : World) (cs : Array Value), w.heap[b]? = some (.cells cs E (0, 0)) →
    ∃ cs', (w.setCells b o vs).heap[b]? = some (.cells cs' E (0, 0)) ∧ cs'.size = cs.size ∧ (∀ i, cs'[i]? = if o ≤ i ∧ i < o + vs.length ∧ i < cs.size then vs[i - o]? else cs[i]?)
  | [], o, w, cs, h => ⟨cs, h, rfl, fun i => by rw [if_neg (by simp; omega)]⟩
  | v :: vs, o, w, cs, h => by
    have h1 : (w.setCell ⟨b, o, none⟩ v).heap[b]? = some (.cells (cs.setIfInBounds o v) E (0, 0)) := by
      simp [World.setCell, Array.getElem?_modify, h]
    obtain ⟨cs', hc, hs, hg⟩ := setCells_heap b E vs (o + 1) _ _ h1
    refine ⟨cs', hc, by simpa using hs, fun i => ?_⟩
    rw [hg]
    simp only [Array.size_setIfInBounds, List.length_cons, Array.getElem?_setIfInBounds]
    by_cases hi : o = i
    · subst hi
      rw [if_neg (by omega), if_pos rfl]
      by_cases hlt : o < cs.size
      · rw [if_pos hlt, if_pos (by omega)]; simp
      · rw [if_neg hlt, if_neg (by omega)]; simp; omega
    · rw [if_neg hi]
      by_cases hc : o + 1 ≤ i ∧ i < o + 1 + vs.length ∧ i < cs.size
      · rw [if_pos hc, if_pos (by omega)]
        rw [show i - o = (i - (o + 1)) + 1 from by omega]; simp
      · rw [if_neg hc, if_neg (by omega)]
theorem setCells_other (b : Nat) : ∀ (vs : List Value) (o : Nat) (w : World) (x : Nat), x ≠ b → (w.setCells b o vs).heap[x]? = w.heap[x]?
  | [], _, _, _, _ => rfl
  | v :: vs, o, w, x, h => by
    rw [World.setCells, setCells_other b vs _ _ x h]
    exact Below.heap_setCell _ _ _ _ h
theorem setCells_same (b : Nat) : ∀ (vs : List Value) (o : Nat) (w : World), (w.setCells b o vs).os = w.os ∧ (w.setCells b o vs).tape = w.tape ∧ (w.setCells b o vs).output = w.output ∧ (w.setCells b o vs).heap.size = w.heap.size
  | [], _, _ => ⟨rfl, rfl, rfl, rfl⟩
  | v :: vs, o, w => by
    rw [World.setCells]
    obtain ⟨h1, h2, h3, h4⟩ := setCells_same b vs (o + 1) (w.setCell ⟨b, o, none⟩ v)
    exact ⟨h1, h2, h3, h4.trans (by simp [World.setCell])⟩
end
end Go.Vl

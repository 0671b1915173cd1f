/- V-logic, part a: abstract leaves, slots, objects; how they stand for values and memory. Plain definitions and lemmas, over any program. -/
import Derived.Below
import Derived.Orders
import Derived.Laws.IdiomCopy
import Derived.Laws.Cells
import Derived.ChangeKeysEq
import Derived.Deep.Draws
namespace Go.Vl
open Go Go.RowKit

inductive Leaf where
  | g (x : Value)
  | imm (sz : Nat) (rows : List (List Leaf))
  | iel (r : List Leaf) (j : Nat)
  | own (o off len : Nat)
  | ptr (o k : Nat)
  | elm (o i j : Nat)
  | clo (f : FuncId) (os : List Nat)
  | mp (o : Nat)
  | err
  | bad
  deriving Inhabited

def All2 {α β : Type} (R : α → β → Prop) : List α → List β → Prop
  | [], [] => True
  | a :: as, b :: bs => R a b ∧ All2 R as bs
  | _, _ => False

section
variable {α β : Type} {R R' : α → β → Prop}
theorem All2.length : ∀ {as : List α} {bs : List β}, All2 R as bs → as.length = bs.length
  | [], [], _ => rfl
  | _ :: _, _ :: _, h => by simp [All2.length h.2]
  | [], _ :: _, h => h.elim
  | _ :: _, [], h => h.elim
theorem All2.mono (hR : ∀ a b, R a b → R' a b) : ∀ {as : List α} {bs : List β}, All2 R as bs → All2 R' as bs
  | [], [], _ => trivial
  | _ :: _, _ :: _, h => ⟨hR _ _ h.1, All2.mono hR h.2⟩
  | [], _ :: _, h => h.elim
  | _ :: _, [], h => h.elim
theorem All2.mono_mem : ∀ {as : List α} {bs : List β}, (∀ a b, a ∈ as → R a b → R' a b) → All2 R as bs → All2 R' as bs
  | [], [], _, _ => trivial
  | _ :: _, _ :: _, hR, h => ⟨hR _ _ (by simp) h.1, All2.mono_mem (fun a b ha => hR a b (by simp [ha])) h.2⟩
  | [], _ :: _, _, h => h.elim
  | _ :: _, [], _, h => h.elim
theorem All2.get : ∀ {as : List α} {bs : List β}, All2 R as bs → ∀ (i : Nat) (a : α), as[i]? = some a → ∃ b, bs[i]? = some b ∧ R a b
  | [], [], _, _, _, hi => by simp at hi
  | _ :: _, b :: _, h, 0, a, hi => by simp at hi; subst hi; exact ⟨b, rfl, h.1⟩
  | _ :: _, _ :: _, h, i + 1, a, hi => by simp at hi; simpa using All2.get h.2 i a hi
  | [], _ :: _, h, _, _, _ => h.elim
  | _ :: _, [], h, _, _, _ => h.elim
theorem All2.get' : ∀ {as : List α} {bs : List β}, All2 R as bs → ∀ (i : Nat) (b : β), bs[i]? = some b → ∃ a, as[i]? = some a ∧ R a b
  | [], [], _, _, _, hi => by simp at hi
  | a :: _, _ :: _, h, 0, b, hi => by simp at hi; subst hi; exact ⟨a, rfl, h.1⟩
  | _ :: _, _ :: _, h, i + 1, b, hi => by simp at hi; simpa using All2.get' h.2 i b hi
  | [], _ :: _, h, _, _, _ => h.elim
  | _ :: _, [], h, _, _, _ => h.elim
theorem All2.of_get : ∀ {as : List α} {bs : List β}, as.length = bs.length → (∀ (i : Nat) a b, as[i]? = some a → bs[i]? = some b → R a b) → All2 R as bs
  | [], [], _, _ => trivial
  | a :: as, b :: bs, hl, h => ⟨h 0 a b rfl rfl, All2.of_get (by simpa using hl) fun i x y hx hy => h (i + 1) x y (by simpa using hx) (by simpa using hy)⟩
  | [], _ :: _, hl, _ => by simp at hl
  | _ :: _, [], hl, _ => by simp at hl
theorem All2.append : ∀ {as as' : List α} {bs bs' : List β}, All2 R as bs → All2 R as' bs' → All2 R (as ++ as') (bs ++ bs')
  | [], _, [], _, _, h' => h'
  | _ :: _, _, _ :: _, _, h, h' => ⟨h.1, All2.append h.2 h'⟩
  | [], _, _ :: _, _, h, _ => h.elim
  | _ :: _, _, [], _, h, _ => h.elim
theorem All2.take {as : List α} {bs : List β} (h : All2 R as bs) (n : Nat) : All2 R (as.take n) (bs.take n) :=
  All2.of_get (by simp [h.length]) fun i a b ha hb => by
    rw [List.getElem?_take] at ha hb
    split at ha
    · rename_i hi
      rw [if_pos hi] at hb
      obtain ⟨b', hb', hr⟩ := h.get i a ha
      rw [hb] at hb'; cases hb'; exact hr
    · cases ha
theorem All2.drop {as : List α} {bs : List β} (h : All2 R as bs) (n : Nat) : All2 R (as.drop n) (bs.drop n) :=
  All2.of_get (by simp [h.length]) fun i a b ha hb => by
    rw [List.getElem?_drop] at ha hb
    obtain ⟨b', hb', hr⟩ := h.get _ a ha
    rw [hb] at hb'; cases hb'; exact hr
theorem All2.nil_left {bs : List β} (h : All2 R [] bs) : bs = [] := by cases bs with | nil => rfl | cons => exact h.elim
theorem All2.cons_left {a : α} {as : List α} {bs : List β} (h : All2 R (a :: as) bs) : ∃ b bs', bs = b :: bs' ∧ R a b ∧ All2 R as bs' := by
  cases bs with
  | nil => exact h.elim
  | cons b bs' => exact ⟨b, bs', rfl, h.1, h.2⟩
theorem All2.replicate {a : α} {b : β} (h : R a b) : ∀ n, All2 R (List.replicate n a) (List.replicate n b)
  | 0 => trivial
  | n + 1 => ⟨h, All2.replicate h n⟩
end

/- What nobody writes: ground values, and slices of such, in blocks of which D holds. -/
mutual
def RepL (w : World) (D : Nat → Prop) : Leaf → Value → Prop
  | .g x, v => v = x ∧ x.oneCell' = true
  | .imm sz rows, v => ∃ A c, v = .slice A rows.length c ∧ rows.length ≤ c ∧ c ≤ maxLen ∧
      (rows = [] ∨ ∃ a : Addr, A = some a ∧ D a.block ∧ a.block < w.heap.size ∧ RepRs w D a sz 0 rows)
  | .err, v => ∃ t x, v = .iface t x
  | _, _ => False
def RepRs (w : World) (D : Nat → Prop) (a : Addr) (sz : Nat) : Nat → List (List Leaf) → Prop
  | _, [] => True
  | k, r :: rs => r.length = sz ∧ RepR w D a k r ∧ RepRs w D a sz (k + sz) rs
def RepR (w : World) (D : Nat → Prop) (a : Addr) : Nat → List Leaf → Prop
  | _, [] => True
  | k, l :: ls => (∃ v, w.cell? (a.add k) = some v ∧ RepL w D l v) ∧ RepR w D a (k + 1) ls
end

theorem add_block (a : Addr) (k : Nat) : (a.add k).block = a.block := by unfold Addr.add; split <;> rfl
theorem add_add' (a : Addr) (j k : Nat) : (a.add j).add k = a.add (j + k) := by
  unfold Addr.add
  by_cases hj : j = 0 <;> by_cases hk : k = 0 <;> simp [hj, hk, Nat.add_assoc]
theorem add_mk (b o k : Nat) : (⟨b, o, none⟩ : Addr).add k = ⟨b, o + k, none⟩ := by unfold Addr.add; split <;> simp_all

section
variable {w w' : World} {D D' : Nat → Prop}
theorem RepR_get {a : Addr} : ∀ {ls : List Leaf} {k : Nat}, RepR w D a k ls → ∀ (j : Nat) (l : Leaf), ls[j]? = some l → ∃ v, w.cell? (a.add (k + j)) = some v ∧ RepL w D l v
  | [], _, _, _, _, hj => by simp at hj
  | _ :: _, k, h, 0, l, hj => by
    simp at hj; subst hj
    rw [RepR.eq_2] at h
    simpa using h.1
  | _ :: _, k, h, j + 1, l, hj => by
    simp at hj
    rw [RepR.eq_2] at h
    have := RepR_get h.2 j l hj
    rwa [show k + 1 + j = k + (j + 1) from by omega] at this
theorem RepR_of {a : Addr} : ∀ {ls : List Leaf} {k : Nat}, (∀ (j : Nat) (l : Leaf), ls[j]? = some l → ∃ v, w.cell? (a.add (k + j)) = some v ∧ RepL w D l v) → RepR w D a k ls
  | [], _, _ => by rw [RepR.eq_1]; trivial
  | l :: ls, k, h => by
    rw [RepR.eq_2]
    refine ⟨by simpa using h 0 l rfl, RepR_of fun j l' hj => ?_⟩
    have := h (j + 1) l' (by simpa using hj)
    rwa [show k + (j + 1) = k + 1 + j from by omega] at this
theorem RepRs_get {a : Addr} {sz : Nat} : ∀ {rows : List (List Leaf)} {k : Nat}, RepRs w D a sz k rows → ∀ (i : Nat) (r : List Leaf), rows[i]? = some r → r.length = sz ∧ RepR w D a (k + i * sz) r
  | [], _, _, _, _, hi => by simp at hi
  | _ :: _, k, h, 0, r, hi => by
    simp at hi; subst hi
    rw [RepRs.eq_2] at h
    simpa using ⟨h.1, h.2.1⟩
  | _ :: _, k, h, i + 1, r, hi => by
    simp at hi
    rw [RepRs.eq_2] at h
    have := RepRs_get h.2.2 i r hi
    rwa [show k + sz + i * sz = k + (i + 1) * sz from by rw [Nat.succ_mul]; omega] at this
theorem RepRs_of {a : Addr} {sz : Nat} : ∀ {rows : List (List Leaf)} {k : Nat}, (∀ (i : Nat) (r : List Leaf), rows[i]? = some r → r.length = sz ∧ RepR w D a (k + i * sz) r) → RepRs w D a sz k rows
  | [], _, _ => by rw [RepRs.eq_1]; trivial
  | r :: rs, k, h => by
    rw [RepRs.eq_2]
    have h0 := h 0 r rfl
    refine ⟨h0.1, by simpa using h0.2, RepRs_of fun i r' hi => ?_⟩
    have := h (i + 1) r' (by simpa using hi)
    rwa [show k + (i + 1) * sz = k + sz + i * sz from by rw [Nat.succ_mul]; omega] at this
theorem cell_of_heap {a : Addr} (h : w'.heap[a.block]? = w.heap[a.block]?) : w'.cell? a = w.cell? a := by simp [World.cell?, h]
mutual
theorem RepL_mono (hs : w.heap.size ≤ w'.heap.size) (hh : ∀ b, D b → b < w.heap.size → w'.heap[b]? = w.heap[b]?) (hD : ∀ b, D b → b < w.heap.size → D' b) : ∀ (l : Leaf) (v : Value), RepL w D l v → RepL w' D' l v
  | .g x, v, h => by rw [RepL.eq_1] at h ⊢; exact h
  | .imm sz rows, v, h => by
    rw [RepL.eq_2] at h ⊢
    obtain ⟨A, c, hv, h1, h2, h3⟩ := h
    refine ⟨A, c, hv, h1, h2, ?_⟩
    rcases h3 with h3 | ⟨a, hA, hd, hl, hr⟩
    · exact .inl h3
    · exact .inr ⟨a, hA, hD _ hd hl, Nat.lt_of_lt_of_le hl hs, RepRs_mono hs hh hD a sz hd hl rows 0 hr⟩
  | .err, v, h => by rw [RepL.eq_3] at h ⊢; exact h
  | .iel _ _, v, h => by simp [RepL] at h
  | .own _ _ _, v, h => by simp [RepL] at h
  | .ptr _ _, v, h => by simp [RepL] at h
  | .elm _ _ _, v, h => by simp [RepL] at h
  | .clo _ _, v, h => by simp [RepL] at h
  | .mp _, v, h => by simp [RepL] at h
  | .bad, v, h => by simp [RepL] at h
theorem RepRs_mono (hs : w.heap.size ≤ w'.heap.size) (hh : ∀ b, D b → b < w.heap.size → w'.heap[b]? = w.heap[b]?) (hD : ∀ b, D b → b < w.heap.size → D' b) (a : Addr) (sz : Nat) (ha : D a.block) (hl : a.block < w.heap.size) :
    ∀ (rows : List (List Leaf)) (k : Nat), RepRs w D a sz k rows → RepRs w' D' a sz k rows
  | [], k, h => by rw [RepRs.eq_1]; trivial
  | r :: rs, k, h => by
    rw [RepRs.eq_2] at h ⊢
    exact ⟨h.1, RepR_mono hs hh hD a ha hl r k h.2.1, RepRs_mono hs hh hD a sz ha hl rs _ h.2.2⟩
theorem RepR_mono (hs : w.heap.size ≤ w'.heap.size) (hh : ∀ b, D b → b < w.heap.size → w'.heap[b]? = w.heap[b]?) (hD : ∀ b, D b → b < w.heap.size → D' b) (a : Addr) (ha : D a.block) (hl : a.block < w.heap.size) :
    ∀ (ls : List Leaf) (k : Nat), RepR w D a k ls → RepR w' D' a k ls
  | [], k, h => by rw [RepR.eq_1]; trivial
  | l :: ls, k, h => by
    rw [RepR.eq_2] at h ⊢
    obtain ⟨⟨v, hc, hv⟩, h2⟩ := h
    exact ⟨⟨v, (cell_of_heap (w := w) (w' := w') (a := a.add k) (by rw [add_block]; exact hh _ ha hl)).trans hc, RepL_mono hs hh hD l v hv⟩, RepR_mono hs hh hD a ha hl ls _ h2⟩
end
end

end Go.Vl

/- V-logic, part c: a table of types; effects; how a state and what stands for it go through killing, putting, new objects, turned objects. -/
import Derived.Test.YtiaendjdmnpcdaaVb
import Derived.Laws.StructEq
namespace Go.Vl
open Go Go.RowKit

inductive TD where
  | int (k : IntKind) | bool | str | st (fs : List (Nat × TypeId)) | sl (e : TypeId) | map (k e : TypeId) | arr (n : Nat) (e : TypeId) | other

def dOf : TypeDesc → TD
  | .int k => .int k
  | .bool => .bool
  | .string => .str
  | .struct fs => .st (fs.toList.map fun f => (f.offset, f.type))
  | .slice e => .sl e
  | .map k e => .map k e
  | .array n e => .arr n e
  | _ => .other

structure TI where
  d : TD
  size : Nat
  bytes : Nat
  zero : List Value
  eqf : Option (List (Nat × TypeId)) := none

abbrev Tab := TypeId → Option TI

def TD.isAgg : TD → Bool
  | .st _ | .arr _ _ => true
  | _ => false

structure TabOk (P : Program) (T : Tab) : Prop where
  info : ∀ t i, T t = some i → (P.info? t).map (fun x => (x.size, x.bytes, x.zero.map (·.cells.toList))) = some (i.size, i.bytes, some i.zero)
  und : ∀ t i, T t = some i → (P.underlying t).map dOf = some i.d
  one : ∀ t i, T t = some i → i.zero.length = i.size ∧ ∀ z ∈ i.zero, z.oneCell' = true
  eqs : ∀ t i fs, T t = some i → i.eqf = some fs → P.underlying t = some (.struct (P.fieldsOf t)) ∧ P.stoodInHeld t = false ∧ P.eqGuardType P.depth t = false ∧
    (P.fieldsOf t).toList.map (fun f => (f.name == "_", f.offset, f.type)) = fs.map (fun p => (false, p.1, p.2))

section
variable {P : Program} {T : Tab} (hT : TabOk P T) {t : TypeId} {i : TI} (h : T t = some i)
include hT h
theorem TabOk.size (w : World) : (sizeOf t).run P w = .ok i.size w := by
  have h1 := hT.info t i h
  cases hp : P.info? t with
  | none => simp [hp] at h1
  | some x =>
    simp [hp] at h1
    rw [run_sizeOf w hp]; simp [Program.cellsOf, hp, h1.1]
theorem TabOk.infoAt : ∃ x, P.info? t = some x ∧ x.size = i.size ∧ x.bytes = i.bytes ∧ ∃ z, x.zero = some z ∧ z.cells.toList = i.zero := by
  have h1 := hT.info t i h
  cases hp : P.info? t with
  | none => simp [hp] at h1
  | some x =>
    simp [hp] at h1
    obtain ⟨a, b, z, hz, hc⟩ := h1
    exact ⟨x, rfl, a, b, z, hz, hc⟩
theorem TabOk.undAt : ∃ d, P.underlying t = some d ∧ dOf d = i.d := by
  have h1 := hT.und t i h
  cases hp : P.underlying t with
  | none => simp [hp] at h1
  | some d => simp [hp] at h1; exact ⟨d, rfl, h1⟩
theorem TabOk.isAgg (w : World) : (isAgg t).run P w = .ok i.d.isAgg w := by
  obtain ⟨d, hd, hi⟩ := hT.undAt h
  unfold Go.isAgg
  simp only [Sem.run_bind, run_underlying hd, Result.andThen_ok]
  rw [← hi]
  cases d <;> simp [dOf, TD.isAgg]
end

structure Eff where
  dst : Slot := .bad
  cond : Prop := True
  reads : List Nat := []
  kills : List Nat := []
  sets : List (Nat × Ob) := []

def kL (ks : List Nat) : Leaf → Leaf
  | .own o a b => if ks.contains o then .bad else .own o a b
  | .ptr o k => if ks.contains o then .bad else .ptr o k
  | .elm o i j => if ks.contains o then .bad else .elm o i j
  | .clo f os => if os.any ks.contains then .bad else .clo f os
  | .mp o => if ks.contains o then .bad else .mp o
  | l => l

def kS (ks : List Nat) : Slot → Slot
  | .one l => .one (kL ks l)
  | .agg ls => .agg (ls.map (kL ks))
  | .tup xs => .tup (xs.map fun x => (x.1, x.2.map (kL ks)))
  | .bad => .bad

def kO (ks : List Nat) : Ob → Ob
  | .box ls => .box (ls.map (kL ks))
  | .arr E sz rows => .arr E sz rows
  | .map es => .map es

def St.kill (ks : List Nat) (S : St) : St :=
  match ks with
  | [] => S
  | k :: ks => ⟨fun t => kS (k :: ks) (S.slot t), fun o => if (k :: ks).contains o then none else (S.obj o).map (kO (k :: ks))⟩

def St.sets : List (Nat × Ob) → St → St
  | [], S => S
  | (o, ob) :: l, S => ⟨(St.sets l S).slot, fun x => if x = o then some ob else (St.sets l S).obj x⟩

def St.put (d : Option Nat) (s : Slot) (S : St) : St :=
  match d with
  | none => S
  | some d => ⟨fun t => if t = d then s else S.slot t, S.obj⟩

def St.app (S : St) (d : Option Nat) (e : Eff) : St := ((S.kill e.kills).sets e.sets).put d e.dst

theorem kO_shape (ks : List Nat) (ob : Ob) : SameShape ob (kO ks ob) := by cases ob <;> simp [kO, SameShape]

section
variable {C : Ctx} {S : St} {B : Pl} {a : Act} {w : World}

theorem All2.map_left {α β γ : Type} {R : β → γ → Prop} {f : α → β} : ∀ {as : List α} {bs : List γ}, All2 (fun a b => R (f a) b) as bs → All2 R (as.map f) bs
  | [], [], _ => trivial
  | _ :: _, _ :: _, h => ⟨h.1, All2.map_left h.2⟩
  | [], _ :: _, h => h.elim
  | _ :: _, [], h => h.elim

theorem SRep.map_kL {R R' : Leaf → Value → Prop} {ks : List Nat} (h : ∀ l v, R l v → R' (kL ks l) v) : ∀ {s : Slot} {v : Value}, SRep R s v → SRep R' (kS ks s) v
  | .one _, _, hs => h _ _ hs
  | .agg _, _, ⟨vs, hv, ha⟩ => ⟨vs, hv, All2.map_left (ha.mono fun l v => h l v)⟩
  | .tup _, _, ⟨vs, hv, ha⟩ => ⟨vs, hv, All2.map_left (ha.mono fun x u hx => by
      rcases hx with ⟨h1, cs, hu, hc⟩ | ⟨h1, l, hl, hr⟩
      · exact .inl ⟨h1, cs, hu, All2.map_left (hc.mono fun l v => h l v)⟩
      · exact .inr ⟨h1, kL ks l, by simp [hl], h _ _ hr⟩)⟩
  | .bad, _, _ => trivial

theorem Rel.kill (hR : Rel C S B a w) (ks : List Nat) : Rel C (S.kill ks) B a w := by
  cases ks with
  | nil => exact hR
  | cons k0 ks0 =>
    generalize hks : k0 :: ks0 = ks
    have hobj : ∀ o, (S.kill ks).obj o = if ks.contains o then none else (S.obj o).map (kO ks) := by subst hks; intro o; rfl
    have hslot : ∀ t, (S.kill ks).slot t = kS ks (S.slot t) := by subst hks; intro o; rfl
    have live : ∀ o, (S.kill ks).obj o ≠ none → S.obj o ≠ none := by
      intro o h h0; rw [hobj, h0] at h; split at h <;> simp at h
    have hdep : ∀ b, dep C.din S B b → dep C.din (S.kill ks) B b := fun b h => ⟨h.1, fun o n ho => h.2 o n (live o ho)⟩
    have keep : ∀ o, ks.contains o = false → ∀ ob, S.obj o = some ob → (S.kill ks).obj o = some (kO ks ob) := by
      intro o h ob ho; rw [hobj, h, ho]; rfl
    have hrl : ∀ l v, RepL w (dep C.din S B) l v → RepL w (dep C.din (S.kill ks) B) l v := fun l v h => RepL_mono (Nat.le_refl _) (fun _ _ _ => rfl) (fun b h _ => hdep b h) l v h
    have hl : ∀ l v, LRep w C.din S B l v → LRep w C.din (S.kill ks) B (kL ks l) v := by
      intro l v h
      cases l with
      | own o x y =>
        have h1 := h.oneCell
        by_cases hk : ks.contains o = true
        · have e : kL ks (.own o x y) = .bad := if_pos hk
          rw [e]; exact h1
        · have e : kL ks (.own o x y) = .own o x y := if_neg hk
          rw [e]
          obtain ⟨E, sz, rows, A, c, ho, r⟩ := h
          exact ⟨E, sz, rows, A, c, keep o (by simpa using hk) _ ho, r⟩
      | ptr o x =>
        have h1 := h.oneCell
        by_cases hk : ks.contains o = true
        · have e : kL ks (.ptr o x) = .bad := if_pos hk
          rw [e]; exact h1
        · have e : kL ks (.ptr o x) = .ptr o x := if_neg hk
          rw [e]
          obtain ⟨b, n, ls, ho, r⟩ := h
          exact ⟨b, n, _, keep o (by simpa using hk) _ ho, r⟩
      | elm o x y =>
        have h1 := h.oneCell
        by_cases hk : ks.contains o = true
        · have e : kL ks (.elm o x y) = .bad := if_pos hk
          rw [e]; exact h1
        · have e : kL ks (.elm o x y) = .elm o x y := if_neg hk
          rw [e]
          obtain ⟨E, sz, rows, b, n, ho, r⟩ := h
          exact ⟨E, sz, rows, b, n, keep o (by simpa using hk) _ ho, r⟩
      | mp o =>
        have h1 := h.oneCell
        by_cases hk : ks.contains o = true
        · have e : kL ks (.mp o) = .bad := if_pos hk
          rw [e]; exact h1
        · have e : kL ks (.mp o) = .mp o := if_neg hk
          rw [e]
          obtain ⟨b, n, es, ho, r⟩ := h
          exact ⟨b, n, _, keep o (by simpa using hk) _ ho, r⟩
      | clo f os =>
        have h1 := h.oneCell
        by_cases hk : os.any ks.contains = true
        · have e : kL ks (.clo f os) = .bad := if_pos hk
          rw [e]; exact h1
        · have e : kL ks (.clo f os) = .clo f os := if_neg hk
          rw [e]
          obtain ⟨vs, hv, ha⟩ := h
          refine ⟨vs, hv, ha.mono_mem fun o x hm hx => ?_⟩
          obtain ⟨b, n, ls, ho, r⟩ := hx
          exact ⟨b, n, _, keep o (by simp at hk; simpa using hk o hm) _ ho, r⟩
      | g x => exact hrl _ _ h
      | imm sz rows => exact hrl _ _ h
      | err => exact hrl _ _ h
      | iel r j =>
        obtain ⟨a, hv, hd, hlt, hr⟩ := h
        exact ⟨a, hv, hdep _ hd, hlt, RepR_mono (Nat.le_refl _) (fun _ _ _ => rfl) (fun b h _ => hdep b h) a hd hlt r 0 hr⟩
      | bad => exact h
    refine ⟨hR.size, hR.defers, fun t => by rw [hslot]; exact SRep.map_kL hl (hR.slots t), ?_, fun o o' b n n' h h' => hR.inj o o' b n n' (live o h) (live o' h'), fun o b n h => hR.mine o b n (live o h), hR.frame, hR.dnew, fun o h ho => hR.keep o h (live o ho), hR.klt, fun o ob h ho => ?_⟩
    · intro o ob ho
      rw [hobj] at ho
      split at ho
      · cases ho
      rename_i hk
      simp at ho
      obtain ⟨ob0, h0, rfl⟩ := ho
      have := hR.objs o ob0 h0
      cases ob0 with
      | box ls =>
        obtain ⟨b, n, cs, E, hb, hh, hn, ha⟩ := this
        exact ⟨b, n, cs, E, hb, hh, hn, All2.map_left (ha.mono hl)⟩
      | arr E sz rows =>
        rcases this with h1 | ⟨b, n, cs, hb, hh, hn, h1, h2, h3⟩
        · exact .inl h1
        · exact .inr ⟨b, n, cs, hb, hh, hn, h1, h2, fun i r hi => (h3 i r hi).mono hrl⟩
      | map es => exact this
    · rw [hobj] at ho
      split at ho
      · cases ho
      · simp at ho
        obtain ⟨ob0, h0, rfl⟩ := ho
        obtain ⟨ob1, h1, h2⟩ := hR.shape o ob0 h h0
        exact ⟨ob1, h1, h2.trans (kO_shape ks ob0)⟩

theorem Rel.put (hR : Rel C S B a w) (d : Option Nat) (s : Slot) (v : Value) (hs : SRep (LRep w C.din S B) s v) (hd : ∀ x, d = some x → x < C.n) : Rel C (S.put d s) B (a.put d v) w := by
  cases d with
  | none => exact hR
  | some d =>
    have hdn := hd d rfl
    have e : ∀ l v, LRep w C.din S B l v → LRep w C.din (S.put (some d) s) B l v := fun l v h => by
      refine LRep.step (Nat.le_refl _) (fun _ _ _ => rfl) (fun b h _ => h) (fun o ob ho => ⟨rfl, ob, ho, ?_⟩) h
      cases ob <;> simp
    refine ⟨by simp [Act.put, hR.size], hR.defers, fun t => ?_, fun o ob ho => ?_, hR.inj, hR.mine, hR.frame, hR.dnew, hR.keep, hR.klt, hR.shape⟩
    · by_cases htd : t = d
      · subst htd
        have h1 : (a.put (some t) v).tmps.getD t undef = v := by simp [Act.put, Array.getD, hR.size, hdn]
        rw [h1]
        simpa [St.put] using SRep.mono e hs
      · have h1 : (a.put (some d) v).tmps.getD t undef = a.tmps.getD t undef := by
          simp [Act.put, Array.getElem?_setIfInBounds_ne (Ne.symm htd)]
        rw [h1]
        have := SRep.mono e (hR.slots t)
        simpa [St.put, htd] using this
    · have := hR.objs o ob ho
      cases ob with
      | box ls => obtain ⟨b, n, cs, E, hb, hh, hn, ha⟩ := this; exact ⟨b, n, cs, E, hb, hh, hn, ha.mono e⟩
      | arr E sz rows => exact this
      | map es => exact this
end
end Go.Vl

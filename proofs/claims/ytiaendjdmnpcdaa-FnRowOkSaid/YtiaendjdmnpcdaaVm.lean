/- V-logic, part m: behind a call. -/
import Derived.Test.YtiaendjdmnpcdaaVl
namespace Go.Vl
open Go Go.RowKit

def back (ids : List Nat) (base o : Nat) : Option Nat := if o < ids.length then ids[o]? else some (base + (o - ids.length))
def killsOf : List Nat → List (Option Ob) → List Nat
  | i :: is, none :: os => i :: killsOf is os
  | _ :: is, some _ :: os => killsOf is os
  | _, _ => []
def setsOf (ρ : Nat → Option Nat) : List Nat → List (Option Ob) → List (Nat × Ob)
  | i :: is, some ob :: os => (i, rnO ρ ob) :: setsOf ρ is os
  | _ :: is, none :: os => setsOf ρ is os
  | _, _ => []
def newsOf (ρ : Nat → Option Nat) : Nat → List Ob → List (Nat × Ob)
  | b, ob :: l => (b, rnO ρ ob) :: newsOf ρ (b + 1) l
  | _, [] => []
def cEff (ids : List Nat) (base : Nat) (s : Slot) (outs : List (Option Ob)) (news : List Ob) : Eff :=
  { dst := rnS (back ids base) s, kills := killsOf ids outs, sets := setsOf (back ids base) ids outs ++ newsOf (back ids base) base news }

def GrL (l : Leaf) : Prop := isMem l = false
def GrS : Slot → Prop
  | .one l => GrL l
  | .agg ls => ∀ l ∈ ls, GrL l
  | .tup xs => ∀ x ∈ xs, ∀ l ∈ x.2, GrL l
  | .bad => True
def GrO : Ob → Prop
  | .box ls => ∀ l ∈ ls, GrL l
  | .arr _ _ rows => ∀ r ∈ rows, ∀ l ∈ r, GrL l
  | .map _ => True

theorem mem_kills : ∀ {ids : List Nat} {outs : List (Option Ob)} {i : Nat}, i ∈ killsOf ids outs ↔ ∃ k : Nat, ids[k]? = some i ∧ outs[k]? = some none
  | [], outs, i => by simp [killsOf]
  | _ :: _, [], i => by simp [killsOf]
  | x :: ids, none :: outs, i => by
    simp only [killsOf, List.mem_cons, mem_kills]
    constructor
    · rintro (rfl | ⟨k, h1, h2⟩)
      · exact ⟨0, rfl, rfl⟩
      · exact ⟨k + 1, by simpa using h1, by simpa using h2⟩
    · rintro ⟨k, h1, h2⟩
      cases k with
      | zero => left; simpa using h1.symm
      | succ k => right; exact ⟨k, by simpa using h1, by simpa using h2⟩
  | x :: ids, some ob :: outs, i => by
    simp only [killsOf, mem_kills]
    constructor
    · rintro ⟨k, h1, h2⟩; exact ⟨k + 1, by simpa using h1, by simpa using h2⟩
    · rintro ⟨k, h1, h2⟩
      cases k with
      | zero => simp at h2
      | succ k => exact ⟨k, by simpa using h1, by simpa using h2⟩

theorem mem_sets {ρ : Nat → Option Nat} : ∀ {ids : List Nat} {outs : List (Option Ob)} {i : Nat} {x : Ob}, (i, x) ∈ setsOf ρ ids outs ↔ ∃ (k : Nat) (ob : Ob), ids[k]? = some i ∧ outs[k]? = some (some ob) ∧ x = rnO ρ ob
  | [], outs, i, x => by simp [setsOf]
  | _ :: _, [], i, x => by simp [setsOf]
  | y :: ids, none :: outs, i, x => by
    simp only [setsOf, mem_sets]
    constructor
    · rintro ⟨k, ob, h1, h2, h3⟩; exact ⟨k + 1, ob, by simpa using h1, by simpa using h2, h3⟩
    · rintro ⟨k, ob, h1, h2, h3⟩
      cases k with
      | zero => simp at h2
      | succ k => exact ⟨k, ob, by simpa using h1, by simpa using h2, h3⟩
  | y :: ids, some ob :: outs, i, x => by
    simp only [setsOf, List.mem_cons, mem_sets, Prod.mk.injEq]
    constructor
    · rintro (⟨rfl, rfl⟩ | ⟨k, ob, h1, h2, h3⟩)
      · exact ⟨0, ob, rfl, rfl, rfl⟩
      · exact ⟨k + 1, ob, by simpa using h1, by simpa using h2, h3⟩
    · rintro ⟨k, ob', h1, h2, h3⟩
      cases k with
      | zero => left; simp at h1 h2; exact ⟨h1.symm, by rw [h3, h2]⟩
      | succ k => right; exact ⟨k, ob', by simpa using h1, by simpa using h2, h3⟩

theorem mem_news {ρ : Nat → Option Nat} : ∀ {news : List Ob} {b i : Nat} {x : Ob}, (i, x) ∈ newsOf ρ b news ↔ ∃ (j : Nat) (ob : Ob), news[j]? = some ob ∧ i = b + j ∧ x = rnO ρ ob
  | [], b, i, x => by simp [newsOf]
  | ob :: news, b, i, x => by
    simp only [newsOf, List.mem_cons, mem_news, Prod.mk.injEq]
    constructor
    · rintro (⟨rfl, rfl⟩ | ⟨j, ob', h1, h2, h3⟩)
      · exact ⟨0, ob, rfl, rfl, rfl⟩
      · exact ⟨j + 1, ob', by simpa using h1, by omega, h3⟩
    · rintro ⟨j, ob', h1, h2, h3⟩
      cases j with
      | zero => left; simp at h1; exact ⟨by omega, by rw [h3, h1]⟩
      | succ j => right; exact ⟨j, ob', by simpa using h1, by omega, h3⟩

theorem sets_slot : ∀ (l : List (Nat × Ob)) (S : St), (St.sets l S).slot = S.slot
  | [], _ => rfl
  | (_, _) :: l, S => by simp [St.sets, sets_slot l S]
theorem sets_out {i : Nat} : ∀ {l : List (Nat × Ob)} {S : St}, (∀ p ∈ l, p.1 ≠ i) → (St.sets l S).obj i = S.obj i
  | [], _, _ => rfl
  | (o, ob) :: l, S, h => by
    show (if i = o then some ob else (St.sets l S).obj i) = _
    rw [if_neg (fun e => h (o, ob) (by simp) e.symm), sets_out fun p hp => h p (by simp [hp])]
theorem sets_in {i : Nat} {x : Ob} : ∀ {l : List (Nat × Ob)} {S : St}, (∀ y, (i, y) ∈ l → y = x) → (i, x) ∈ l → (St.sets l S).obj i = some x
  | [], _, _, h => by simp at h
  | (o, ob) :: l, S, hu, h => by
    show (if i = o then some ob else (St.sets l S).obj i) = _
    by_cases e : i = o
    · subst e; rw [if_pos rfl, hu ob (by simp)]
    · rw [if_neg e]
      exact sets_in (fun y hy => hu y (by simp [hy])) (by
        rcases List.mem_cons.1 h with h | h
        · cases h; exact absurd rfl e
        · exact h)

def keepR (ks : List Nat) (o : Nat) : Option Nat := if ks.contains o then none else some o
theorem mapM_keep (ks : List Nat) : ∀ os : List Nat, os.mapM (keepR ks) = if os.any ks.contains then none else some os
  | [] => rfl
  | o :: os => by
    rw [List.mapM_cons, mapM_keep ks os]
    unfold keepR
    by_cases h : ks.contains o = true
    · simp at h; simp [h]
    · simp at h
      by_cases h2 : os.any ks.contains = true
      · simp only [List.any_cons, h2, Bool.or_true, if_true]; simp [h]
      · simp only [Bool.not_eq_true] at h2
        simp only [List.any_cons, h2]; simp [h]
theorem kL_rn (ks : List Nat) (l : Leaf) : kL ks l = rn (keepR ks) l := by
  cases l with
  | clo f os =>
    simp only [kL, rn, mapM_keep]
    split <;> rfl
  | own o a b => simp only [kL, rn, keepR]; split <;> rfl
  | ptr o k => simp only [kL, rn, keepR]; split <;> rfl
  | elm o i j => simp only [kL, rn, keepR]; split <;> rfl
  | mp o => simp only [kL, rn, keepR]; split <;> rfl
  | _ => rfl
theorem kS_rn (ks : List Nat) (s : Slot) : kS ks s = rnS (keepR ks) s := by
  have : kL ks = rn (keepR ks) := funext (kL_rn ks)
  cases s <;> simp [kS, rnS, this]
theorem kO_rn (ks : List Nat) (s : Ob) : kO ks s = rnO (keepR ks) s := by
  have : kL ks = rn (keepR ks) := funext (kL_rn ks)
  cases s <;> simp [kO, rnO, this]
theorem kL_nil (l : Leaf) : kL [] l = l := by cases l <;> simp [kL]
theorem kS_nil (s : Slot) : kS [] s = s := by
  have : kL [] = id := funext kL_nil
  cases s <;> simp [kS, this]
theorem kO_nil (s : Ob) : kO [] s = s := by
  have : kL [] = id := funext kL_nil
  cases s <;> simp [kO, this]
theorem kill_slot (ks : List Nat) (S : St) (t : Nat) : (S.kill ks).slot t = kS ks (S.slot t) := by
  cases ks with
  | nil => rw [kS_nil]; rfl
  | cons => rfl
theorem kill_obj (ks : List Nat) (S : St) (o : Nat) : (S.kill ks).obj o = if ks.contains o then none else (S.obj o).map (kO ks) := by
  cases ks with
  | nil => show S.obj o = _; cases h : S.obj o <;> simp [kO_nil]
  | cons => rfl

theorem RepL_gr {w w' : World} {D D' : Nat → Prop} {l : Leaf} {v : Value} (hg : GrL l) (h : RepL w D l v) : RepL w' D' l v := by
  cases l <;> simp [GrL, isMem] at hg
  case g x => rw [RepL.eq_1] at h ⊢; exact h
  case err => rw [RepL.eq_3] at h ⊢; exact h
  all_goals simp [RepL] at h

theorem SRep.rnP {R R' : Leaf → Value → Prop} {ρ : Nat → Option Nat} {p : Leaf → Prop} (h : ∀ l v, p l → R l v → R' (rn ρ l) v) : ∀ {s : Slot} {v : Value}, (match s with | .one l => p l | .agg ls => ∀ l ∈ ls, p l | .tup xs => ∀ x ∈ xs, ∀ l ∈ x.2, p l | .bad => True) → SRep R s v → SRep R' (Vl.rnS ρ s) v
  | .one _, _, hp, hs => h _ _ hp hs
  | .agg _, _, hp, ⟨vs, hv, ha⟩ => ⟨vs, hv, All2.map_left (ha.mono_mem fun l v hm => h l v (hp l hm))⟩
  | .tup _, _, hp, ⟨vs, hv, ha⟩ => ⟨vs, hv, All2.map_left (ha.mono_mem fun x u hm hx => by
      rcases hx with ⟨h1, cs, hu, hc⟩ | ⟨h1, l, hl, hr⟩
      · exact .inl ⟨h1, cs, hu, All2.map_left (hc.mono_mem fun l v hm2 => h l v (hp x hm l hm2))⟩
      · exact .inr ⟨h1, Vl.rn ρ l, by simp [hl], h _ _ (hp x hm l (by simp [hl])) hr⟩)⟩
  | .bad, _, _, _ => trivial

section
variable {P : Program} {C : Ctx} {S : St} {B B' : Pl} {a : Act} {w w' : World} {g : Bool} {ids : List Nat} {obs : List Ob} {outs : List (Option Ob)} {news : List Ob} {base : Nat}

theorem back_rel (hR : Rel C S B a w) (hids : ids.mapM S.obj = some obs) (hnd : ids.Nodup)
    (hres : ResOk w w' (dinOf w (vD g C S B) (obs.map (vO g S ids)) (vB ids B)) (obs.map (vO g S ids)) (vB ids B) outs news B')
    (hfree : ∀ j, j < news.length → S.obj (base + j) = none) (hb : 100 ≤ base) (hg : g = true → (∀ ob, some ob ∈ outs → GrO ob) ∧ ∀ ob ∈ news, GrO ob) :
    ∃ B2, Rel C ((S.kill (killsOf ids outs)).sets (setsOf (back ids base) ids outs ++ newsOf (back ids base) base news)) B2 a w' ∧
      ∀ s v, (g = true → GrS s) → SRep (LRep w' (dinOf w (vD g C S B) (obs.map (vO g S ids)) (vB ids B)) (Sr outs news) B') s v →
        SRep (LRep w' C.din ((S.kill (killsOf ids outs)).sets (setsOf (back ids base) ids outs ++ newsOf (back ids base) base news)) B2) (rnS (back ids base) s) v := by
  generalize hobjs : obs.map (vO g S ids) = objs at *
  have hil : ids.length = objs.length := by rw [← hobjs, List.length_map, mapM_length hids]
  have hol : outs.length = ids.length := by rw [hres.len, hil]
  generalize hS2 : (S.kill (killsOf ids outs)).sets (setsOf (back ids base) ids outs ++ newsOf (back ids base) base news) = S2
  let B2 : Pl := fun o => match ids.idxOf? o with
    | some k => B' k
    | none => if base ≤ o ∧ o < base + news.length then B' (ids.length + (o - base)) else B o
  have idlive : ∀ {k i : Nat}, ids[k]? = some i → S.obj i ≠ none := fun h => by obtain ⟨ob, h1, _⟩ := ids_live hids h; simp [h1]
  have objlive : ∀ {k i : Nat}, ids[k]? = some i → (So objs).obj k ≠ none := fun {k i} h => by
    obtain ⟨ob, _, h2⟩ := ids_live hids h
    rw [← hobjs]; simp [So, List.getElem?_eq_some_iff.1 h2 |>.1]
  have vBk : ∀ {k i : Nat}, ids[k]? = some i → vB ids B k = B i := fun h => by simp [vB, h]
  have b2id : ∀ {k i : Nat}, ids[k]? = some i → B2 i = B' k := fun {k i} h => by show (match ids.idxOf? i with | some k => B' k | none => _) = _; rw [idxOf?_of hnd h]
  have notid : ∀ {o : Nat}, ids.idxOf? o = none → o ∉ ids := fun h hm => by
    obtain ⟨k, hk⟩ := List.getElem?_of_mem hm
    rw [idxOf?_of hnd hk] at h; cases h
  have idn : ∀ {o : Nat}, o ∉ ids → ids.idxOf? o = none := fun {o} h => by
    cases he : ids.idxOf? o with
    | none => rfl
    | some k => exact absurd (List.mem_of_getElem? (idxOf?_spec he)) h
  have newnotid : ∀ j, j < news.length → base + j ∉ ids := fun j hj hm => by
    obtain ⟨k, hk⟩ := List.getElem?_of_mem hm
    exact idlive hk (hfree j hj)
  have b2new : ∀ j, j < news.length → B2 (base + j) = B' (ids.length + j) := fun j hj => by
    show (match ids.idxOf? (base + j) with | some k => B' k | none => if base ≤ base + j ∧ base + j < base + news.length then B' (ids.length + (base + j - base)) else B (base + j)) = _
    rw [idn (newnotid j hj)]
    simp only []
    rw [if_pos (by omega), Nat.add_sub_cancel_left]
  have b2old : ∀ o, o ∉ ids → S.obj o ≠ none → B2 o = B o := fun o h hl => by
    show (match ids.idxOf? o with | some k => B' k | none => if base ≤ o ∧ o < base + news.length then B' (ids.length + (o - base)) else B o) = _
    rw [idn h]
    simp only []
    rw [if_neg fun hc => hl (by rw [show o = base + (o - base) by omega]; exact hfree _ (by omega))]
  -- the objects of S2
  have s2out : ∀ {k i : Nat} {ob : Ob}, ids[k]? = some i → outs[k]? = some (some ob) → S2.obj i = some (rnO (back ids base) ob) := by
    intro k i ob h1 h2
    rw [← hS2]
    refine sets_in (fun y hy => ?_) (List.mem_append.2 (.inl (mem_sets.2 ⟨k, ob, h1, h2, rfl⟩)))
    rcases List.mem_append.1 hy with hy | hy
    · obtain ⟨k', ob', h1', h2', rfl⟩ := mem_sets.1 hy
      have : k' = k := by have e1 := idxOf?_of hnd h1; rw [idxOf?_of hnd h1'] at e1; exact Option.some.inj e1
      subst this
      rw [h2] at h2'; cases h2'; rfl
    · obtain ⟨j, ob', h1', h2', rfl⟩ := mem_news.1 hy
      have hj : j < news.length := (List.getElem?_eq_some_iff.1 h1').1
      exact absurd (List.mem_of_getElem? h1) (by rw [h2']; exact newnotid j hj)
  have s2new : ∀ {j : Nat} {ob : Ob}, news[j]? = some ob → S2.obj (base + j) = some (rnO (back ids base) ob) := by
    intro j ob h1
    have hj : j < news.length := (List.getElem?_eq_some_iff.1 h1).1
    rw [← hS2]
    refine sets_in (fun y hy => ?_) (List.mem_append.2 (.inr (mem_news.2 ⟨j, ob, h1, rfl, rfl⟩)))
    rcases List.mem_append.1 hy with hy | hy
    · obtain ⟨k', ob', h1', h2', rfl⟩ := mem_sets.1 hy
      exact absurd (List.mem_of_getElem? h1') (newnotid j hj)
    · obtain ⟨j', ob', h1', h2', rfl⟩ := mem_news.1 hy
      have : j' = j := by omega
      subst this
      rw [h1] at h1'; cases h1'; rfl
  have s2old : ∀ o, o ∉ ids → S.obj o ≠ none → S2.obj o = (S.obj o).map (kO (killsOf ids outs)) := by
    intro o h hl
    rw [← hS2, sets_out, kill_obj, if_neg]
    · intro hc
      obtain ⟨k, h1, _⟩ := mem_kills.1 (by simpa using hc)
      exact h (List.mem_of_getElem? h1)
    · rintro ⟨i, x⟩ hp
      rcases List.mem_append.1 hp with hp | hp
      · obtain ⟨k, ob, h1, _⟩ := mem_sets.1 hp
        rintro rfl; exact h (List.mem_of_getElem? h1)
      · obtain ⟨j, ob, h1, h2, _⟩ := mem_news.1 hp
        rintro rfl
        exact hl (by simp only [h2]; exact hfree j (List.getElem?_eq_some_iff.1 h1).1)
  have s2live : ∀ o, S2.obj o ≠ none → (∃ (k : Nat) (ob : Ob), ids[k]? = some o ∧ outs[k]? = some (some ob)) ∨ (∃ (j : Nat) (ob : Ob), news[j]? = some ob ∧ o = base + j) ∨ (o ∉ ids ∧ S.obj o ≠ none) := by
    intro o ho
    by_cases hm : o ∈ ids
    · obtain ⟨k, hk⟩ := List.getElem?_of_mem hm
      have hkl : k < outs.length := by rw [hol]; exact (List.getElem?_eq_some_iff.1 hk).1
      cases he : outs[k] with
      | some ob => exact .inl ⟨k, ob, hk, by rw [List.getElem?_eq_getElem hkl, he]⟩
      | none =>
        exfalso; apply ho
        rw [← hS2, sets_out, kill_obj, if_pos]
        · have : o ∈ killsOf ids outs := mem_kills.2 ⟨k, hk, by rw [List.getElem?_eq_getElem hkl, he]⟩
          simpa using this
        · rintro ⟨i, x⟩ hp
          rcases List.mem_append.1 hp with hp | hp
          · obtain ⟨k', ob, h1, h2, _⟩ := mem_sets.1 hp
            rintro rfl
            have : k' = k := by have e1 := idxOf?_of hnd hk; rw [idxOf?_of hnd h1] at e1; exact Option.some.inj e1
            subst this
            rw [List.getElem?_eq_getElem hkl, he] at h2; cases h2
          · obtain ⟨j, ob, h1, h2, _⟩ := mem_news.1 hp
            rintro rfl
            exact newnotid j (List.getElem?_eq_some_iff.1 h1).1 (by simpa [h2] using hm)
    · by_cases hn : ∃ (j : Nat) (ob : Ob), news[j]? = some ob ∧ o = base + j
      · exact .inr (.inl hn)
      · refine .inr (.inr ⟨hm, fun h0 => ho ?_⟩)
        rw [← hS2, sets_out, kill_obj, h0]
        · split <;> rfl
        · rintro ⟨i, x⟩ hp
          rcases List.mem_append.1 hp with hp | hp
          · obtain ⟨k', ob, h1, h2, _⟩ := mem_sets.1 hp
            rintro rfl; exact hm (List.mem_of_getElem? h1)
          · obtain ⟨j, ob, h1, h2, _⟩ := mem_news.1 hp
            rintro rfl; exact hn ⟨j, ob, h1, h2⟩
  have ioS : ∀ b, ioOf objs (vB ids B) b → ∃ i n, i ∈ ids ∧ S.obj i ≠ none ∧ B i = some (b, n) := by
    rintro b ⟨k, n, hk, hb⟩
    have hkl : k < ids.length := by
      rw [hil]; rcases Nat.lt_or_ge k objs.length with h | h; exact h; simp [So, List.getElem?_eq_none h] at hk
    have hi : ids[k]? = some ids[k] := List.getElem?_eq_getElem hkl
    exact ⟨ids[k], n, List.getElem_mem hkl, idlive hi, by rw [← vBk hi]; exact hb⟩
  have hsize : w.heap.size ≤ w'.heap.size := hres.frame.size
  have heapkeep : ∀ b, b < w.heap.size → (∀ i n, i ∈ ids → S.obj i ≠ none → B i ≠ some (b, n)) → w'.heap[b]? = w.heap[b]? := by
    intro b hb hn
    refine hres.frame.block b hb fun hio => ?_
    obtain ⟨i, n, hi, hl, hbi⟩ := ioS b hio
    exact hn i n hi hl hbi
  have srlive : ∀ k, outs[k]? ≠ none → (Sr outs news).obj k = (outs[k]?).join := by
    intro k hk
    have : k < outs.length := by rcases Nat.lt_or_ge k outs.length with h | h; exact h; exact absurd (List.getElem?_eq_none h) hk
    simp [Sr, this]
  have srnew : ∀ j, (Sr outs news).obj (ids.length + j) = news[j]? := by
    intro j; simp [Sr, hol]; intro h; omega
  have outB : ∀ {k i : Nat} {ob : Ob}, ids[k]? = some i → outs[k]? = some (some ob) → B' k = B i := by
    intro k i ob h1 h2
    rw [hres.place k (by rw [← hil]; exact (List.getElem?_eq_some_iff.1 h1).1) (by rw [srlive k (by simp [h2]), h2]; simp), vBk h1]
  have hD1 : ∀ b, dep C.din S B b → b < w.heap.size → dep C.din S2 B2 b := by
    intro b hd hlt
    refine ⟨hd.1, fun o n ho hb => ?_⟩
    rcases s2live o ho with ⟨k, ob, h1, h2⟩ | ⟨j, ob, h1, rfl⟩ | ⟨h1, h2⟩
    · rw [b2id h1, outB h1 h2] at hb; exact hd.2 o n (idlive h1) hb
    · rw [b2new j (List.getElem?_eq_some_iff.1 h1).1] at hb
      rcases (hres.lt _ b n (by rw [srnew, h1]; simp) hb).2 with h | h
      · omega
      · obtain ⟨i, m, _, hl, hbi⟩ := ioS b h
        exact hd.2 i m hl hbi
    · rw [b2old o h1 h2] at hb; exact hd.2 o n h2 hb
  have e1 : ∀ l v, LRep w C.din S B l v → LRep w' C.din S2 B2 (kL (killsOf ids outs) l) v := by
    intro l v hl
    rw [kL_rn]
    refine LRep.rn hsize (fun b hd hlt => heapkeep b hlt fun i n _ hl => hd.2 i n hl) hD1 (fun o o' ob hr ho => ?_) hl
    unfold keepR at hr
    split at hr
    · cases hr
    · rename_i hk
      cases hr
      by_cases hm : o ∈ ids
      · obtain ⟨k, hk2⟩ := List.getElem?_of_mem hm
        have hkl : k < outs.length := by rw [hol]; exact (List.getElem?_eq_some_iff.1 hk2).1
        cases he : outs[k] with
        | none => exact absurd (mem_kills.2 ⟨k, hk2, by rw [List.getElem?_eq_getElem hkl, he]⟩) (by simpa using hk)
        | some ob1 =>
          have hok : outs[k]? = some (some ob1) := by rw [List.getElem?_eq_getElem hkl, he]
          refine ⟨by rw [b2id hk2, outB hk2 hok], _, s2out hk2 hok, ?_⟩
          obtain ⟨ob0, h0, hsh⟩ := hres.shape k ob1 (by rw [← hil, ← hol]; exact hkl) (by rw [srlive k (by simp [hok]), hok]; rfl)
          obtain ⟨ob2, h3, h4⟩ := ids_live hids hk2
          rw [ho] at h3; cases h3
          rw [← hobjs] at h0
          simp [h4] at h0
          subst h0
          exact ((vO_shape g S ids ob).trans hsh).trans (rnO_shape _ _)
      · exact ⟨b2old o hm (by simp [ho]), _, by rw [s2old o hm (by simp [ho]), ho]; rfl, kO_shape _ _⟩
  have er1 : ∀ l v, RepL w (dep C.din S B) l v → RepL w' (dep C.din S2 B2) l v := fun l v hl =>
    RepL_mono hsize (fun b hd hlt => heapkeep b hlt fun i n _ hl => hd.2 i n hl) hD1 l v hl
  -- from the callee's end
  have hD2 : g = false → ∀ b, dep (dinOf w (vD g C S B) objs (vB ids B)) (Sr outs news) B' b → b < w'.heap.size → dep C.din S2 B2 b := by
    intro hgf b hd hlt
    have hdin : C.din b := by
      rcases hd.1 with h | h | h
      · unfold vD at h; rw [if_neg (by simp [hgf])] at h; exact h.1
      · obtain ⟨i, n, _, hl, hbi⟩ := ioS b h; exact (hR.mine i b n hl hbi).2.2
      · exact hR.dnew b (Nat.le_trans hR.frame.size h)
    refine ⟨hdin, fun o n ho hb => ?_⟩
    rcases s2live o ho with ⟨k, ob, h1, h2⟩ | ⟨j, ob, h1, rfl⟩ | ⟨h1, h2⟩
    · rw [b2id h1] at hb; exact hd.2 k n (by rw [srlive k (by simp [h2]), h2]; simp) hb
    · rw [b2new j (List.getElem?_eq_some_iff.1 h1).1] at hb; exact hd.2 _ n (by rw [srnew, h1]; simp) hb
    · rw [b2old o h1 h2] at hb
      rcases hd.1 with h | h | h
      · unfold vD at h; rw [if_neg (by simp [hgf])] at h; exact h.2 o n h2 hb
      · obtain ⟨i, m, hi, hl, hbi⟩ := ioS b h
        have := hR.inj o i b n m h2 hl hb hbi
        subst this; exact h1 hi
      · have := (hR.mine o b n h2 hb).1; omega
  have hO2 : ∀ o o' ob, back ids base o = some o' → (Sr outs news).obj o = some ob → B2 o' = B' o ∧ ∃ ob', S2.obj o' = some ob' ∧ SameShape ob ob' := by
    intro o o' ob hr ho
    unfold back at hr
    split at hr
    · rename_i hlt
      have hok : outs[o]? = some (some ob) := by
        rw [srlive o (by simp [hol, hlt])] at ho
        have : o < outs.length := by omega
        rw [List.getElem?_eq_getElem this] at ho ⊢
        simp at ho; rw [ho]
      exact ⟨b2id hr, _, s2out hr hok, rnO_shape _ _⟩
    · rename_i hlt
      cases hr
      have hnj : news[o - ids.length]? = some ob := by
        rw [← srnew, show ids.length + (o - ids.length) = o by omega]; exact ho
      exact ⟨by rw [b2new _ (List.getElem?_eq_some_iff.1 hnj).1, show ids.length + (o - ids.length) = o by omega], _, s2new hnj, rnO_shape _ _⟩
  have e2 : ∀ l v, (g = true → GrL l) → LRep w' (dinOf w (vD g C S B) objs (vB ids B)) (Sr outs news) B' l v → LRep w' C.din S2 B2 (rn (back ids base) l) v := by
    intro l v hgl hl
    refine LRep.rnM hO2 (fun hm => ?_) hl
    cases hgc : g with
    | true => have := hgl hgc; unfold GrL at this; rw [hm] at this; cases this
    | false => exact LRep.mem (Nat.le_refl _) (fun _ _ _ => rfl) (hD2 hgc) hm hl
  have er2 : ∀ l v, (g = true → GrL l) → RepL w' (dep (dinOf w (vD g C S B) objs (vB ids B)) (Sr outs news) B') l v → RepL w' (dep C.din S2 B2) l v := by
    intro l v hgl hl
    cases hgc : g with
    | true => exact RepL_gr (hgl hgc) hl
    | false => exact RepL_mono (Nat.le_refl _) (fun _ _ _ => rfl) (hD2 hgc) l v hl
  have obs2 : ∀ {o o' : Nat} {ob : Ob}, (g = true → GrO ob) → B2 o' = B' o → ObRep w' (dinOf w (vD g C S B) objs (vB ids B)) (Sr outs news) B' o ob → ObRep w' C.din S2 B2 o' (rnO (back ids base) ob) := by
    intro o o' ob hgo hB h
    cases ob with
    | box ls => obtain ⟨b, n, cs, E, hb, hc, hn, ha⟩ := h; exact ⟨b, n, cs, E, hB.trans hb, hc, hn, All2.map_left (ha.mono_mem fun l v hm => e2 l v fun hg' => hgo hg' l hm)⟩
    | arr E sz rows =>
      rcases h with h | ⟨b, n, cs, hb, hc, hn, h1, h2, h3⟩
      · exact .inl ⟨h.1, hB.trans h.2⟩
      · exact .inr ⟨b, n, cs, hB.trans hb, hc, hn, h1, h2, fun i r hi => (h3 i r hi).mono_mem fun l v hm => er2 l v fun hg' => hgo hg' r (List.mem_of_getElem? hi) l hm⟩
    | map es => obtain ⟨b, n, ens, clock, hb, hc, he⟩ := h; exact ⟨b, n, ens, clock, hB.trans hb, hc, he⟩
  refine ⟨B2, ⟨hR.size, hR.defers, fun t => ?_, fun o ob ho => ?_, fun o o' b n n' ho ho' hb1 hb2 => ?_, fun o b n ho hb1 => ?_, ?_, hR.dnew, fun o hk ho => ?_, hR.klt, fun o ob hk ho => ?_⟩, fun s v hgs hs => ?_⟩
  · have : S2.slot t = kS (killsOf ids outs) (S.slot t) := by rw [← hS2, sets_slot, kill_slot]
    rw [this]
    exact SRep.map_kL e1 (hR.slots t)
  · rcases s2live o (by simp [ho]) with ⟨k, ob1, h1, h2⟩ | ⟨j, ob1, h1, rfl⟩ | ⟨h1, h2⟩
    · rw [s2out h1 h2] at ho; cases ho
      exact obs2 (fun hg' => (hg hg').1 ob1 (List.mem_of_getElem? h2)) (b2id h1) (hres.obs k ob1 (by rw [srlive k (by simp [h2]), h2]; rfl))
    · rw [s2new h1] at ho; cases ho
      exact obs2 (fun hg' => (hg hg').2 ob1 (List.mem_of_getElem? h1)) (b2new j (List.getElem?_eq_some_iff.1 h1).1) (hres.obs _ ob1 (by rw [srnew, h1]))
    · rw [s2old o h1 h2] at ho
      obtain ⟨ob0, h0⟩ := Option.ne_none_iff_exists'.1 h2
      rw [h0] at ho; cases ho
      rw [kO_rn]
      refine (hR.objs o ob0 h0).rnO (b2old o h1 h2) (fun l v hl => by rw [← kL_rn]; exact e1 l v hl) er1 fun b n hbo => ?_
      refine heapkeep b (hR.mine o b n h2 hbo).1 fun i m hi hl hbi => ?_
      have := hR.inj o i b n m h2 hl hbo hbi
      subst this; exact h1 hi
  · -- two places differ
    have cls : ∀ {x b n}, S2.obj x ≠ none → B2 x = some (b, n) → (∃ y, (Sr outs news).obj y ≠ none ∧ back ids base y = some x ∧ B' y = some (b, n)) ∨ (x ∉ ids ∧ S.obj x ≠ none ∧ B x = some (b, n)) := by
      intro x b n hx hbx
      rcases s2live x hx with ⟨k, ob, h1, h2⟩ | ⟨j, ob, h1, rfl⟩ | ⟨h1, h2⟩
      · exact .inl ⟨k, by rw [srlive k (by simp [h2]), h2]; simp, by unfold back; rw [if_pos (List.getElem?_eq_some_iff.1 h1).1]; exact h1, by rw [← b2id h1]; exact hbx⟩
      · exact .inl ⟨ids.length + j, by rw [srnew, h1]; simp, by unfold back; rw [if_neg (by omega), Nat.add_sub_cancel_left], by rw [← b2new j (List.getElem?_eq_some_iff.1 h1).1]; exact hbx⟩
      · exact .inr ⟨h1, h2, by rw [← b2old x h1 h2]; exact hbx⟩
    have mix : ∀ {x y b n n'}, (Sr outs news).obj y ≠ none → B' y = some (b, n) → x ∉ ids → S.obj x ≠ none → B x = some (b, n') → False := by
      intro x y b n n' hy hby hx hxl hbx
      rcases (hres.lt y b n hy hby).2 with h | h
      · have := (hR.mine x b n' hxl hbx).1; omega
      · obtain ⟨i, m, hi, hl, hbi⟩ := ioS b h
        have := hR.inj x i b n' m hxl hl hbx hbi
        subst this; exact hx hi
    rcases cls ho hb1 with ⟨y, h1, h2, h3⟩ | ⟨h1, h2, h3⟩ <;> rcases cls ho' hb2 with ⟨y', h1', h2', h3'⟩ | ⟨h1', h2', h3'⟩
    · have := hres.inj y y' b n n' h1 h1' h3 h3'
      subst this
      rw [h2] at h2'; exact Option.some.inj h2'
    · exact (mix h1 h3 h1' h2' h3').elim
    · exact (mix h1' h3' h1 h2 h3).elim
    · exact hR.inj o o' b n n' h2 h2' h3 h3'
  · rcases s2live o ho with ⟨k, ob, h1, h2⟩ | ⟨j, ob, h1, rfl⟩ | ⟨h1, h2⟩
    · rw [b2id h1, outB h1 h2] at hb1
      have := hR.mine o b n (idlive h1) hb1
      exact ⟨Nat.lt_of_lt_of_le this.1 hsize, this.2⟩
    · rw [b2new j (List.getElem?_eq_some_iff.1 h1).1] at hb1
      have h3 := hres.lt _ b n (by rw [srnew, h1]; simp) hb1
      refine ⟨h3.1, ?_⟩
      rcases h3.2 with h | h
      · exact ⟨.inl (Nat.le_trans hR.frame.size h), hR.dnew b (Nat.le_trans hR.frame.size h)⟩
      · obtain ⟨i, m, _, hl, hbi⟩ := ioS b h
        exact (hR.mine i b m hl hbi).2
    · rw [b2old o h1 h2] at hb1
      have := hR.mine o b n h2 hb1
      exact ⟨Nat.lt_of_lt_of_le this.1 hsize, this.2⟩
  · refine hR.frame.trans (hres.frame.mono fun b hlt hio => ?_)
    obtain ⟨i, m, _, hl, hbi⟩ := ioS b hio
    exact (hR.mine i b m hl hbi).2.1.symm
  · rcases s2live o ho with ⟨k, ob, h1, h2⟩ | ⟨j, ob, h1, rfl⟩ | ⟨h1, h2⟩
    · rw [b2id h1, outB h1 h2]; exact hR.keep o hk (idlive h1)
    · have := hR.klt; omega
    · rw [b2old o h1 h2]; exact hR.keep o hk h2
  · rcases s2live o (by simp [ho]) with ⟨k, ob1, h1, h2⟩ | ⟨j, ob1, h1, rfl⟩ | ⟨h1, h2⟩
    · rw [s2out h1 h2] at ho; cases ho
      obtain ⟨ob2, h3, h4⟩ := ids_live hids h1
      obtain ⟨obc, h5, h6⟩ := hR.shape o ob2 hk h3
      obtain ⟨ob0, h0, hsh⟩ := hres.shape k ob1 (by rw [← hil]; exact (List.getElem?_eq_some_iff.1 h1).1) (by rw [srlive k (by simp [h2]), h2]; rfl)
      rw [← hobjs] at h0
      simp [h4] at h0
      subst h0
      exact ⟨obc, h5, ((h6.trans (vO_shape g S ids ob2)).trans hsh).trans (rnO_shape _ _)⟩
    · have := hR.klt; omega
    · rw [s2old o h1 h2] at ho
      obtain ⟨ob0, h0⟩ := Option.ne_none_iff_exists'.1 h2
      rw [h0] at ho; cases ho
      obtain ⟨obc, h5, h6⟩ := hR.shape o ob0 hk h0
      exact ⟨obc, h5, h6.trans (kO_shape _ _)⟩
  · refine SRep.rnP (p := fun l => g = true → GrL l) e2 ?_ hs
    cases s with
    | one l => exact hgs
    | agg ls => exact fun l hl hg' => hgs hg' l hl
    | tup xs => exact fun x hx l hl hg' => hgs hg' x hx l hl
    | bad => trivial
end
end Go.Vl

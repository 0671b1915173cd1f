/- V-logic, part m: behind a call. -/
import Derived.Test.YtdijjjgplhbkkaaGreatDoorWc
import Derived.Laws.Append
set_option linter.unusedSimpArgs false
set_option linter.unusedVariables false
set_option linter.unnecessarySimpa false
namespace Go.Vl
open Go Go.RowKit
def back (ids : List Nat) (base o : Nat) : Option Nat := if o < ids.length then ids[o]? else some (base + (o - ids.length))
def killsOf : List Nat → List (Option Ob) → List Nat
  | i :: is, none :: os => i :: killsOf is os
  | _ :: is, some _ :: os => killsOf is os
  | _, _ => []
def setsOf (ρ : Nat → Option Nat) : List Nat → List (Option Ob) → List (Nat × Ob)
  | i :: is, some ob :: os => (i, rnO ρ ob) :: setsOf ρ is os
  | _ :: is, none :: os => setsOf ρ is os
  | _, _ => []
def newsOf (ρ : Nat → Option Nat) : Nat → List Ob → List (Nat × Ob)
  | b, ob :: l => (b, rnO ρ ob) :: newsOf ρ (b + 1) l
  | _, [] => []
def cEff (ids : List Nat) (base : Nat) (s : Slot) (outs : List (Option Ob)) (news : List Ob) : Eff :=
  { dst := rnS (back ids base) s, kills := killsOf ids outs, sets := setsOf (back ids base) ids outs ++ newsOf (back ids base) base news }
def GrL (l : Leaf) : Prop := isMem l = false
def GrS : Slot → Prop
  | .one l => GrL l
  | .agg ls => ∀ l ∈ ls, GrL l
  | .tup xs => ∀ x ∈ xs, ∀ l ∈ x.2, GrL l
  | .bad => True
mutual
def GrN : Leaf → Prop
  | .nst _ _ rows => GrNss rows
  | .g _ => True
  | .err => True
  | _ => False
def GrNs : List Leaf → Prop
  | [] => True
  | l :: ls => GrN l ∧ GrNs ls
def GrNss : List (List Leaf) → Prop
  | [] => True
  | r :: rs => GrNs r ∧ GrNss rs
end
theorem GrNs_get : ∀ {ls : List Leaf} {i : Nat} {l : Leaf}, GrNs ls → ls[i]? = some l → GrN l
  | [], _, _, _, h => by simp at h
  | _ :: _, 0, _, h, hi => by simp at hi; subst hi; exact h.1
  | _ :: _, _ + 1, _, h, hi => GrNs_get h.2 (by simpa using hi)
theorem GrNss_get : ∀ {ls : List (List Leaf)} {i : Nat} {l : List Leaf}, GrNss ls → ls[i]? = some l → GrNs l
  | [], _, _, _, h => by simp at h
  | _ :: _, 0, _, h, hi => by simp at hi; subst hi; exact h.1
  | _ :: _, _ + 1, _, h, hi => GrNss_get h.2 (by simpa using hi)
def GrO : Ob → Prop
  | .box ls => ∀ l ∈ ls, GrL l
  | .arr _ _ rows => ∀ r ∈ rows, ∀ l ∈ r, GrL l
  | .map _ => True
  | .reg _ _ rows hs => GrNss rows ∧ ∀ h ∈ hs, GrL h.2.2
section
variable {w w' : World} {Dp Dp' : Nat → Prop}
mutual
theorem NL_gr : ∀ (l : Leaf) (v : Value) (Z : Nat → Prop), GrN l → (∀ x, Z x → w'.heap[x]? = w.heap[x]?) → NL w Dp l v Z → NL w' Dp' l v Z
  | .nst E sz rows, v, Z, hg, hh, h => by
    rw [NL.eq_1] at h ⊢
    obtain ⟨A, c, h1, h2, h3, h4⟩ := h
    refine ⟨A, c, h1, h2, h3, ?_⟩
    rcases h4 with h4 | ⟨b, n, cs, k1, k2, k3, k4, k5, k6, k7⟩
    · exact .inl h4
    · exact .inr ⟨b, n, cs, k1, k2, (hh b k2).trans k3, k4, k5, k6, NRs_gr sz cs 0 rows _ (by rw [GrN.eq_1] at hg; exact hg) (fun x hx => hh x hx.1) k7⟩
  | .g x, v, Z, _, _, h => by rw [NL.eq_2] at h ⊢; exact h
  | .err, v, Z, _, _, h => by
    rw [NL.eq_4] at h ⊢
    rw [RepL.eq_3] at h ⊢; exact h
  | .imm sz rows, v, Z, hg, _, h => by simp [GrN] at hg
  | .iel _ _, v, Z, hg, _, h => by simp [GrN] at hg
  | .own _ _ _, v, Z, hg, _, h => by simp [GrN] at hg
  | .ptr _ _, v, Z, hg, _, h => by simp [GrN] at hg
  | .elm _ _ _, v, Z, hg, _, h => by simp [GrN] at hg
  | .clo _ _, v, Z, hg, _, h => by simp [GrN] at hg
  | .mp _, v, Z, hg, _, h => by simp [GrN] at hg
  | .bad, v, Z, hg, _, h => by simp [GrN] at hg
theorem NRs_gr (sz : Nat) (cs : Array Value) : ∀ (k : Nat) (rows : List (List Leaf)) (Z : Nat → Prop), GrNss rows → (∀ x, Z x → w'.heap[x]? = w.heap[x]?) → NRs w Dp sz cs k rows Z → NRs w' Dp' sz cs k rows Z
  | _, [], _, _, _, _ => by rw [NRs.eq_1]; trivial
  | k, r :: rs, Z, hg, hh, h => by
    rw [NRs.eq_2] at h ⊢
    rw [GrNss.eq_2] at hg
    obtain ⟨h1, Z1, h2, h3, h4⟩ := h
    exact ⟨h1, Z1, h2, NR_gr cs k r _ hg.1 (fun x hx => hh x (h2 x hx)) h3, NRs_gr sz cs _ rs _ hg.2 (fun x hx => hh x hx.1) h4⟩
theorem NR_gr (cs : Array Value) : ∀ (k : Nat) (ls : List Leaf) (Z : Nat → Prop), GrNs ls → (∀ x, Z x → w'.heap[x]? = w.heap[x]?) → NR w Dp cs k ls Z → NR w' Dp' cs k ls Z
  | _, [], _, _, _, _ => by rw [NR.eq_1]; trivial
  | k, l :: ls, Z, hg, hh, h => by
    rw [NR.eq_2] at h ⊢
    rw [GrNs.eq_2] at hg
    obtain ⟨v, Z1, h1, h2, h3, h4⟩ := h
    exact ⟨v, Z1, h1, h2, NL_gr l v _ hg.1 (fun x hx => hh x (h2 x hx)) h3, NR_gr cs _ ls _ hg.2 (fun x hx => hh x hx.1) h4⟩
end
theorem RegRows.gr {R R' : Leaf → Value → Prop} {sz : Nat} {rows : List (List Leaf)} {hs : List (Nat × Nat × Leaf)} {cs : Array Value} {Z : Nat → Prop} {zf : Nat → Nat → Nat → Prop} (f : Leaf → Leaf)
    (h : RegRows w Dp R sz rows hs cs Z zf) (hg : GrNss rows) (hh : ∀ x, Z x → w'.heap[x]? = w.heap[x]?) (hl : ∀ l, (∃ i j, (i, j, l) ∈ hs) → ∀ v, R l v → R' (f l) v) :
    RegRows w' Dp' R' sz rows (hs.map fun h => (h.1, h.2.1, f h.2.2)) cs Z zf := by
  refine ⟨h.wide, fun i r j l h1 h2 h3 => ?_, fun i r j l x h1 h2 h3 => ?_, h.sub, h.apart⟩
  · rw [holeAt_map, Option.map_eq_none_iff] at h3
    obtain ⟨v, h4, h5⟩ := h.cell i r j l h1 h2 h3
    exact ⟨v, h4, NL_gr l v _ (GrNs_get (GrNss_get hg h1) h2) (fun x hx => hh x (h.sub i j x hx)) h5⟩
  · rw [holeAt_map, Option.map_eq_some_iff] at h3
    obtain ⟨y, h6, rfl⟩ := h3
    obtain ⟨v, h4, h5⟩ := h.hole i r j l y h1 h2 h6
    exact ⟨v, h4, hl _ ⟨i, j, holeAt_mem h6⟩ _ h5⟩
end
theorem mem_kills : ∀ {ids : List Nat} {outs : List (Option Ob)} {i : Nat}, i ∈ killsOf ids outs ↔ ∃ k : Nat, ids[k]? = some i ∧ outs[k]? = some none
  | [], outs, i => by simp [killsOf]
  | _ :: _, [], i => by simp [killsOf]
  | x :: ids, none :: outs, i => by
    simp only [killsOf, List.mem_cons, mem_kills]
    constructor
    · rintro (rfl | ⟨k, h1, h2⟩)
      · exact ⟨0, rfl, rfl⟩
      · exact ⟨k + 1, by simpa using h1, by simpa using h2⟩
    · rintro ⟨k, h1, h2⟩
      cases k with
      | zero => left; simpa using h1.symm
      | succ k => right; exact ⟨k, by simpa using h1, by simpa using h2⟩
  | x :: ids, some ob :: outs, i => by
    simp only [killsOf, mem_kills]
    constructor
    · rintro ⟨k, h1, h2⟩; exact ⟨k + 1, by simpa using h1, by simpa using h2⟩
    · rintro ⟨k, h1, h2⟩
      cases k with
      | zero => simp at h2
      | succ k => exact ⟨k, by simpa using h1, by simpa using h2⟩
theorem mem_sets {ρ : Nat → Option Nat} : ∀ {ids : List Nat} {outs : List (Option Ob)} {i : Nat} {x : Ob}, (i, x) ∈ setsOf ρ ids outs ↔ ∃ (k : Nat) (ob : Ob), ids[k]? = some i ∧ outs[k]? = some (some ob) ∧ x = rnO ρ ob
  | [], outs, i, x => by simp [setsOf]
  | _ :: _, [], i, x => by simp [setsOf]
  | y :: ids, none :: outs, i, x => by
    simp only [setsOf, mem_sets]
    constructor
    · rintro ⟨k, ob, h1, h2, h3⟩; exact ⟨k + 1, ob, by simpa using h1, by simpa using h2, h3⟩
    · rintro ⟨k, ob, h1, h2, h3⟩
      cases k with
      | zero => simp at h2
      | succ k => exact ⟨k, ob, by simpa using h1, by simpa using h2, h3⟩
  | y :: ids, some ob :: outs, i, x => by
    simp only [setsOf, List.mem_cons, mem_sets, Prod.mk.injEq]
    constructor
    · rintro (⟨rfl, rfl⟩ | ⟨k, ob, h1, h2, h3⟩)
      · exact ⟨0, ob, rfl, rfl, rfl⟩
      · exact ⟨k + 1, ob, by simpa using h1, by simpa using h2, h3⟩
    · rintro ⟨k, ob', h1, h2, h3⟩
      cases k with
      | zero => left; simp at h1 h2; exact ⟨h1.symm, by rw [h3, h2]⟩
      | succ k => right; exact ⟨k, ob', by simpa using h1, by simpa using h2, h3⟩
theorem mem_news {ρ : Nat → Option Nat} : ∀ {news : List Ob} {b i : Nat} {x : Ob}, (i, x) ∈ newsOf ρ b news ↔ ∃ (j : Nat) (ob : Ob), news[j]? = some ob ∧ i = b + j ∧ x = rnO ρ ob
  | [], b, i, x => by simp [newsOf]
  | ob :: news, b, i, x => by
    simp only [newsOf, List.mem_cons, mem_news, Prod.mk.injEq]
    constructor
    · rintro (⟨rfl, rfl⟩ | ⟨j, ob', h1, h2, h3⟩)
      · exact ⟨0, ob, rfl, rfl, rfl⟩
      · exact ⟨j + 1, ob', by simpa using h1, by omega, h3⟩
    · rintro ⟨j, ob', h1, h2, h3⟩
      cases j with
      | zero => left; simp at h1; exact ⟨by omega, by rw [h3, h1]⟩
      | succ j => right; exact ⟨j, ob', by simpa using h1, by omega, h3⟩
theorem sets_slot : ∀ (l : List (Nat × Ob)) (S : St), (St.sets l S).slot = S.slot
  | [], _ => rfl
  | (_, _) :: l, S => by simp [St.sets, sets_slot l S]
theorem sets_out {i : Nat} : ∀ {l : List (Nat × Ob)} {S : St}, (∀ p ∈ l, p.1 ≠ i) → (St.sets l S).obj i = S.obj i
  | [], _, _ => rfl
  | (o, ob) :: l, S, h => by
    show (if i = o then some ob else (St.sets l S).obj i) = _
    rw [if_neg (fun e => h (o, ob) (by simp) e.symm), sets_out fun p hp => h p (by simp [hp])]
theorem sets_in {i : Nat} {x : Ob} : ∀ {l : List (Nat × Ob)} {S : St}, (∀ y, (i, y) ∈ l → y = x) → (i, x) ∈ l → (St.sets l S).obj i = some x
  | [], _, _, h => by simp at h
  | (o, ob) :: l, S, hu, h => by
    show (if i = o then some ob else (St.sets l S).obj i) = _
    by_cases e : i = o
    · subst e; rw [if_pos rfl, hu ob (by simp)]
    · rw [if_neg e]
      exact sets_in (fun y hy => hu y (by simp [hy])) (by
        rcases List.mem_cons.1 h with h | h
        · cases h; exact absurd rfl e
        · exact h)
def keepR (ks : List Nat) (o : Nat) : Option Nat := if ks.contains o then none else some o
theorem mapM_keep (ks : List Nat) : ∀ os : List Nat, os.mapM (keepR ks) = if os.any ks.contains then none else some os
  | [] => rfl
  | o :: os => by
    rw [List.mapM_cons, mapM_keep ks os]
    unfold keepR
    by_cases h : ks.contains o = true
    · simp at h; simp [h]
    · simp at h
      by_cases h2 : os.any ks.contains = true
      · simp only [List.any_cons, h2, Bool.or_true, if_true]; simp [h]
      · simp only [Bool.not_eq_true] at h2
        simp only [List.any_cons, h2]; simp [h]
theorem kL_rn (ks : List Nat) (l : Leaf) : kL ks l = rn (keepR ks) l := by
  cases l with
  | clo f os =>
    simp only [kL, rn, mapM_keep]
    split <;> rfl
  | own o a b => simp only [kL, rn, keepR]; split <;> rfl
  | ptr o k => simp only [kL, rn, keepR]; split <;> rfl
  | elm o i j => simp only [kL, rn, keepR]; split <;> rfl
  | mp o => simp only [kL, rn, keepR]; split <;> rfl
  | _ => rfl
theorem kO_rn (ks : List Nat) (s : Ob) : kO ks s = rnO (keepR ks) s := by
  have : kL ks = rn (keepR ks) := funext (kL_rn ks)
  cases s <;> simp [kO, rnO, this]
theorem kL_nil (l : Leaf) : kL [] l = l := by cases l <;> simp [kL]
theorem kS_nil (s : Slot) : kS [] s = s := by
  have : kL [] = id := funext kL_nil
  cases s <;> simp [kS, this]
theorem kO_nil (s : Ob) : kO [] s = s := by
  have : kL [] = id := funext kL_nil
  cases s <;> simp [kO, this]
theorem kill_slot (ks : List Nat) (S : St) (t : Nat) : (S.kill ks).slot t = kS ks (S.slot t) := by
  cases ks with
  | nil => rw [kS_nil]; rfl
  | cons => rfl
theorem kill_obj (ks : List Nat) (S : St) (o : Nat) : (S.kill ks).obj o = if ks.contains o then none else (S.obj o).map (kO ks) := by
  cases ks with
  | nil => show S.obj o = _; cases h : S.obj o <;> simp [kO_nil]
  | cons => rfl
theorem RepL_gr {w w' : World} {D D' : Nat → Prop} {l : Leaf} {v : Value} (hg : GrL l) (h : RepL w D l v) : RepL w' D' l v := by
  cases l <;> simp [GrL, isMem] at hg
  case g x => rw [RepL.eq_1] at h ⊢; exact h
  case err => rw [RepL.eq_3] at h ⊢; exact h
  all_goals simp [RepL] at h
theorem SRep.rnP {R R' : Leaf → Value → Prop} {ρ : Nat → Option Nat} {p : Leaf → Prop} (h : ∀ l v, p l → R l v → R' (rn ρ l) v) : ∀ {s : Slot} {v : Value}, (match s with | .one l => p l | .agg ls => ∀ l ∈ ls, p l | .tup xs => ∀ x ∈ xs, ∀ l ∈ x.2, p l | .bad => True) → SRep R s v → SRep R' (Vl.rnS ρ s) v
  | .one _, _, hp, hs => h _ _ hp hs
  | .agg _, _, hp, ⟨vs, hv, ha⟩ => ⟨vs, hv, All2.map_left (ha.mono_mem fun l v hm => h l v (hp l hm))⟩
  | .tup _, _, hp, ⟨vs, hv, ha⟩ => ⟨vs, hv, All2.map_left (ha.mono_mem fun x u hm hx => by
      rcases hx with ⟨h1, cs, hu, hc⟩ | ⟨h1, l, hl, hr⟩
      · exact .inl ⟨h1, cs, hu, All2.map_left (hc.mono_mem fun l v hm2 => h l v (hp x hm l hm2))⟩
      · exact .inr ⟨h1, Vl.rn ρ l, by simp [hl], h _ _ (hp x hm l (by simp [hl])) hr⟩)⟩
  | .bad, _, _, _ => trivial
section
variable {P : Program} {C : Ctx} {S : St} {B B' : Pl} {a : Act} {w w' : World} {g : Bool} {ids : List Nat} {obs : List Ob} {outs : List (Option Ob)} {news : List Ob} {base : Nat}
theorem back_rel (hR : Rel C S B a w) (hids : ids.mapM S.obj = some obs) (hnd : ids.Nodup)
    (hres : ResOk w w' (dinOf w (vD g C S B) (obs.map (vO g S ids)) (vB ids B)) (obs.map (vO g S ids)) (vB ids B) outs news B')
    (hfree : ∀ j, j < news.length → S.obj (base + j) = none) (hb : 100 ≤ base) (hg : g = true → (∀ ob, some ob ∈ outs → GrO ob) ∧ ∀ ob ∈ news, GrO ob) :
    ∃ B2, Rel C ((S.kill (killsOf ids outs)).sets (setsOf (back ids base) ids outs ++ newsOf (back ids base) base news)) B2 a w' ∧
      ∀ s v, (g = true → GrS s) → SRep (LRep w' (dinOf w (vD g C S B) (obs.map (vO g S ids)) (vB ids B)) (Sr outs news) B') s v →
        SRep (LRep w' C.din ((S.kill (killsOf ids outs)).sets (setsOf (back ids base) ids outs ++ newsOf (back ids base) base news)) B2) (rnS (back ids base) s) v := by
  generalize hobjs : obs.map (vO g S ids) = objs at *
  have hil : ids.length = objs.length := by rw [← hobjs, List.length_map, mapM_length hids]
  have hol : outs.length = ids.length := by rw [hres.len, hil]
  generalize hS2 : (S.kill (killsOf ids outs)).sets (setsOf (back ids base) ids outs ++ newsOf (back ids base) base news) = S2
  let B2 : Pl := ⟨fun o => match ids.idxOf? o with
    | some k => B' k
    | none => if base ≤ o ∧ o < base + news.length then B' (ids.length + (o - base)) else B o, fun o => match ids.idxOf? o with
    | some k => B'.z k
    | none => if base ≤ o ∧ o < base + news.length then B'.z (ids.length + (o - base)) else B.z o⟩
  have idlive : ∀ {k i : Nat}, ids[k]? = some i → S.obj i ≠ none := fun h => by obtain ⟨ob, h1, _⟩ := ids_live hids h; simp [h1]
  have objlive : ∀ {k i : Nat}, ids[k]? = some i → (So objs).obj k ≠ none := fun {k i} h => by
    obtain ⟨ob, _, h2⟩ := ids_live hids h
    rw [← hobjs]; simp [So, List.getElem?_eq_some_iff.1 h2 |>.1]
  have vBk : ∀ {k i : Nat}, ids[k]? = some i → vB ids B k = B i := fun h => by simp [vB, h]
  have b2id : ∀ {k i : Nat}, ids[k]? = some i → B2 i = B' k := fun {k i} h => by show (match ids.idxOf? i with | some k => B' k | none => _) = _; rw [idxOf?_of hnd h]
  have b2idz : ∀ {k i : Nat}, ids[k]? = some i → B2.z i = B'.z k := fun {k i} h => by show (match ids.idxOf? i with | some k => B'.z k | none => _) = _; rw [idxOf?_of hnd h]
  have b2idO : ∀ {k i : Nat}, ids[k]? = some i → ∀ b, Ow B2 i b ↔ Ow B' k b := fun h b => by unfold Ow; rw [b2id h, b2idz h]
  have notid : ∀ {o : Nat}, ids.idxOf? o = none → o ∉ ids := fun h hm => by
    obtain ⟨k, hk⟩ := List.getElem?_of_mem hm
    rw [idxOf?_of hnd hk] at h; cases h
  have idn : ∀ {o : Nat}, o ∉ ids → ids.idxOf? o = none := fun {o} h => by
    cases he : ids.idxOf? o with
    | none => rfl
    | some k => exact absurd (List.mem_of_getElem? (idxOf?_spec he)) h
  have newnotid : ∀ j, j < news.length → base + j ∉ ids := fun j hj hm => by
    obtain ⟨k, hk⟩ := List.getElem?_of_mem hm
    exact idlive hk (hfree j hj)
  have b2new : ∀ j, j < news.length → B2 (base + j) = B' (ids.length + j) := fun j hj => by
    show (match ids.idxOf? (base + j) with | some k => B' k | none => if base ≤ base + j ∧ base + j < base + news.length then B' (ids.length + (base + j - base)) else B (base + j)) = _
    rw [idn (newnotid j hj)]
    simp only []
    rw [if_pos (by omega), Nat.add_sub_cancel_left]
  have b2newz : ∀ j, j < news.length → B2.z (base + j) = B'.z (ids.length + j) := fun j hj => by
    show (match ids.idxOf? (base + j) with | some k => B'.z k | none => if base ≤ base + j ∧ base + j < base + news.length then B'.z (ids.length + (base + j - base)) else B.z (base + j)) = _
    rw [idn (newnotid j hj)]
    simp only []
    rw [if_pos (by omega), Nat.add_sub_cancel_left]
  have b2newO : ∀ j, j < news.length → ∀ b, Ow B2 (base + j) b ↔ Ow B' (ids.length + j) b := fun j hj b => by unfold Ow; rw [b2new j hj, b2newz j hj]
  have b2oldz : ∀ o, o ∉ ids → S.obj o ≠ none → B2.z o = B.z o := fun o h hl => by
    show (match ids.idxOf? o with | some k => B'.z k | none => if base ≤ o ∧ o < base + news.length then B'.z (ids.length + (o - base)) else B.z o) = _
    rw [idn h]
    simp only []
    rw [if_neg fun hc => hl (by rw [show o = base + (o - base) by omega]; exact hfree _ (by omega))]
  have b2old : ∀ o, o ∉ ids → S.obj o ≠ none → B2 o = B o := fun o h hl => by
    show (match ids.idxOf? o with | some k => B' k | none => if base ≤ o ∧ o < base + news.length then B' (ids.length + (o - base)) else B o) = _
    rw [idn h]
    simp only []
    rw [if_neg fun hc => hl (by rw [show o = base + (o - base) by omega]; exact hfree _ (by omega))]
  have b2oldO : ∀ o, o ∉ ids → S.obj o ≠ none → ∀ b, Ow B2 o b ↔ Ow B o b := fun o h hl b => by unfold Ow; rw [b2old o h hl, b2oldz o h hl]
  have s2out : ∀ {k i : Nat} {ob : Ob}, ids[k]? = some i → outs[k]? = some (some ob) → S2.obj i = some (rnO (back ids base) ob) := by
    intro k i ob h1 h2
    rw [← hS2]
    refine sets_in (fun y hy => ?_) (List.mem_append.2 (.inl (mem_sets.2 ⟨k, ob, h1, h2, rfl⟩)))
    rcases List.mem_append.1 hy with hy | hy
    · obtain ⟨k', ob', h1', h2', rfl⟩ := mem_sets.1 hy
      have : k' = k := by have e1 := idxOf?_of hnd h1; rw [idxOf?_of hnd h1'] at e1; exact Option.some.inj e1
      subst this
      rw [h2] at h2'; cases h2'; rfl
    · obtain ⟨j, ob', h1', h2', rfl⟩ := mem_news.1 hy
      have hj : j < news.length := (List.getElem?_eq_some_iff.1 h1').1
      exact absurd (List.mem_of_getElem? h1) (by rw [h2']; exact newnotid j hj)
  have s2new : ∀ {j : Nat} {ob : Ob}, news[j]? = some ob → S2.obj (base + j) = some (rnO (back ids base) ob) := by
    intro j ob h1
    have hj : j < news.length := (List.getElem?_eq_some_iff.1 h1).1
    rw [← hS2]
    refine sets_in (fun y hy => ?_) (List.mem_append.2 (.inr (mem_news.2 ⟨j, ob, h1, rfl, rfl⟩)))
    rcases List.mem_append.1 hy with hy | hy
    · obtain ⟨k', ob', h1', h2', rfl⟩ := mem_sets.1 hy
      exact absurd (List.mem_of_getElem? h1') (newnotid j hj)
    · obtain ⟨j', ob', h1', h2', rfl⟩ := mem_news.1 hy
      have : j' = j := by omega
      subst this
      rw [h1] at h1'; cases h1'; rfl
  have s2old : ∀ o, o ∉ ids → S.obj o ≠ none → S2.obj o = (S.obj o).map (kO (killsOf ids outs)) := by
    intro o h hl
    rw [← hS2, sets_out, kill_obj, if_neg]
    · intro hc
      obtain ⟨k, h1, _⟩ := mem_kills.1 (by simpa using hc)
      exact h (List.mem_of_getElem? h1)
    · rintro ⟨i, x⟩ hp
      rcases List.mem_append.1 hp with hp | hp
      · obtain ⟨k, ob, h1, _⟩ := mem_sets.1 hp
        rintro rfl; exact h (List.mem_of_getElem? h1)
      · obtain ⟨j, ob, h1, h2, _⟩ := mem_news.1 hp
        rintro rfl
        exact hl (by simp only [h2]; exact hfree j (List.getElem?_eq_some_iff.1 h1).1)
  have s2live : ∀ o, S2.obj o ≠ none → (∃ (k : Nat) (ob : Ob), ids[k]? = some o ∧ outs[k]? = some (some ob)) ∨ (∃ (j : Nat) (ob : Ob), news[j]? = some ob ∧ o = base + j) ∨ (o ∉ ids ∧ S.obj o ≠ none) := by
    intro o ho
    by_cases hm : o ∈ ids
    · obtain ⟨k, hk⟩ := List.getElem?_of_mem hm
      have hkl : k < outs.length := by rw [hol]; exact (List.getElem?_eq_some_iff.1 hk).1
      cases he : outs[k] with
      | some ob => exact .inl ⟨k, ob, hk, by rw [List.getElem?_eq_getElem hkl, he]⟩
      | none =>
        exfalso; apply ho
        rw [← hS2, sets_out, kill_obj, if_pos]
        · have : o ∈ killsOf ids outs := mem_kills.2 ⟨k, hk, by rw [List.getElem?_eq_getElem hkl, he]⟩
          simpa using this
        · rintro ⟨i, x⟩ hp
          rcases List.mem_append.1 hp with hp | hp
          · obtain ⟨k', ob, h1, h2, _⟩ := mem_sets.1 hp
            rintro rfl
            have : k' = k := by have e1 := idxOf?_of hnd hk; rw [idxOf?_of hnd h1] at e1; exact Option.some.inj e1
            subst this
            rw [List.getElem?_eq_getElem hkl, he] at h2; cases h2
          · obtain ⟨j, ob, h1, h2, _⟩ := mem_news.1 hp
            rintro rfl
            exact newnotid j (List.getElem?_eq_some_iff.1 h1).1 (by simpa [h2] using hm)
    · by_cases hn : ∃ (j : Nat) (ob : Ob), news[j]? = some ob ∧ o = base + j
      · exact .inr (.inl hn)
      · refine .inr (.inr ⟨hm, fun h0 => ho ?_⟩)
        rw [← hS2, sets_out, kill_obj, h0]
        · split <;> rfl
        · rintro ⟨i, x⟩ hp
          rcases List.mem_append.1 hp with hp | hp
          · obtain ⟨k', ob, h1, h2, _⟩ := mem_sets.1 hp
            rintro rfl; exact hm (List.mem_of_getElem? h1)
          · obtain ⟨j, ob, h1, h2, _⟩ := mem_news.1 hp
            rintro rfl; exact hn ⟨j, ob, h1, h2⟩
  have ioS : ∀ b, ioOf objs (vB ids B) b → ∃ i, i ∈ ids ∧ S.obj i ≠ none ∧ Ow B i b := by
    rintro b ⟨k, hk, hb⟩
    have hkl : k < ids.length := by
      rw [hil]; rcases Nat.lt_or_ge k objs.length with h | h; exact h; simp [So, List.getElem?_eq_none h] at hk
    have hi : ids[k]? = some ids[k] := List.getElem?_eq_getElem hkl
    exact ⟨ids[k], List.getElem_mem hkl, idlive hi, (vB_ow hi b).1 hb⟩
  have hsize : w.heap.size ≤ w'.heap.size := hres.frame.size
  have heapkeep : ∀ b, b < w.heap.size → (∀ i, i ∈ ids → S.obj i ≠ none → ¬ Ow B i b) → w'.heap[b]? = w.heap[b]? := by
    intro b hb hn
    refine hres.frame.block b hb fun hio => ?_
    obtain ⟨i, hi, hl, hbi⟩ := ioS b hio
    exact hn i hi hl hbi
  have srlive : ∀ k, outs[k]? ≠ none → (Sr outs news).obj k = (outs[k]?).join := by
    intro k hk
    have : k < outs.length := by rcases Nat.lt_or_ge k outs.length with h | h; exact h; exact absurd (List.getElem?_eq_none h) hk
    simp [Sr, this]
  have srnew : ∀ j, (Sr outs news).obj (ids.length + j) = news[j]? := by
    intro j; simp [Sr, hol]; intro h; omega
  have outB : ∀ {k i : Nat} {ob : Ob}, ids[k]? = some i → outs[k]? = some (some ob) → B' k = B i := by
    intro k i ob h1 h2
    rw [hres.place k (by rw [← hil]; exact (List.getElem?_eq_some_iff.1 h1).1) (by rw [srlive k (by simp [h2]), h2]; simp), vBk h1]
  have hD1 : ∀ b, dep C.din S B b → b < w.heap.size → dep C.din S2 B2 b := by
    intro b hd hlt
    refine ⟨hd.1, fun o ho hb => ?_⟩
    rcases s2live o ho with ⟨k, ob, h1, h2⟩ | ⟨j, ob, h1, rfl⟩ | ⟨h1, h2⟩
    · rcases (hres.ltO k b (by rw [srlive k (by simp [h2]), h2]; simp) ((b2idO h1 b).1 hb)).2 with h | h
      · omega
      · obtain ⟨i, _, hl, hbi⟩ := ioS b h
        exact hd.2 i hl hbi
    · rcases (hres.ltO _ b (by rw [srnew, h1]; simp) ((b2newO j (List.getElem?_eq_some_iff.1 h1).1 b).1 hb)).2 with h | h
      · omega
      · obtain ⟨i, _, hl, hbi⟩ := ioS b h
        exact hd.2 i hl hbi
    · exact hd.2 o h2 ((b2oldO o h1 h2 b).1 hb)
  have e1 : ∀ l v, LRep w C.din S B l v → LRep w' C.din S2 B2 (kL (killsOf ids outs) l) v := by
    intro l v hl
    rw [kL_rn]
    refine LRep.rn hsize (fun b hd hlt => heapkeep b hlt fun i _ hl => hd.2 i hl) hD1 (fun o o' ob hr ho => ?_) hl
    unfold keepR at hr
    split at hr
    · cases hr
    · rename_i hk
      cases hr
      by_cases hm : o ∈ ids
      · obtain ⟨k, hk2⟩ := List.getElem?_of_mem hm
        have hkl : k < outs.length := by rw [hol]; exact (List.getElem?_eq_some_iff.1 hk2).1
        cases he : outs[k] with
        | none => exact absurd (mem_kills.2 ⟨k, hk2, by rw [List.getElem?_eq_getElem hkl, he]⟩) (by simpa using hk)
        | some ob1 =>
          have hok : outs[k]? = some (some ob1) := by rw [List.getElem?_eq_getElem hkl, he]
          refine ⟨by rw [b2id hk2, outB hk2 hok], _, s2out hk2 hok, ?_⟩
          obtain ⟨ob0, h0, hsh⟩ := hres.shape k ob1 (by rw [← hil, ← hol]; exact hkl) (by rw [srlive k (by simp [hok]), hok]; rfl)
          obtain ⟨ob2, h3, h4⟩ := ids_live hids hk2
          rw [ho] at h3; cases h3
          rw [← hobjs] at h0
          simp [h4] at h0
          subst h0
          exact ((vO_shape g S ids ob).trans hsh).trans (rnO_shape _ _)
      · exact ⟨b2old o hm (by simp [ho]), _, by rw [s2old o hm (by simp [ho]), ho]; rfl, kO_shape _ _⟩
  have er1 : ∀ l v, RepL w (dep C.din S B) l v → RepL w' (dep C.din S2 B2) l v := fun l v hl =>
    RepL_mono hsize (fun b hd hlt => heapkeep b hlt fun i _ hl => hd.2 i hl) hD1 l v hl
  have hD2 : g = false → ∀ b, dep (dinOf w (vD g C S B) objs (vB ids B)) (Sr outs news) B' b → b < w'.heap.size → dep C.din S2 B2 b := by
    intro hgf b hd hlt
    have hdin : C.din b := by
      rcases hd.1 with h | h | h
      · unfold vD at h; rw [if_neg (by simp [hgf])] at h; exact h.1
      · obtain ⟨i, _, hl, hbi⟩ := ioS b h; exact (hR.mineO i b hl hbi).2.2
      · exact hR.dnew b (Nat.le_trans hR.frame.size h)
    refine ⟨hdin, fun o ho hb => ?_⟩
    rcases s2live o ho with ⟨k, ob, h1, h2⟩ | ⟨j, ob, h1, rfl⟩ | ⟨h1, h2⟩
    · exact hd.2 k (by rw [srlive k (by simp [h2]), h2]; simp) ((b2idO h1 b).1 hb)
    · exact hd.2 _ (by rw [srnew, h1]; simp) ((b2newO j (List.getElem?_eq_some_iff.1 h1).1 b).1 hb)
    · have hb := (b2oldO o h1 h2 b).1 hb
      rcases hd.1 with h | h | h
      · unfold vD at h; rw [if_neg (by simp [hgf])] at h; exact h.2 o h2 hb
      · obtain ⟨i, hi, hl, hbi⟩ := ioS b h
        have := hR.injO o i b h2 hl hb hbi
        subst this; exact h1 hi
      · have := (hR.mineO o b h2 hb).1; omega
  have hO2 : ∀ o o' ob, back ids base o = some o' → (Sr outs news).obj o = some ob → B2 o' = B' o ∧ ∃ ob', S2.obj o' = some ob' ∧ SameShape ob ob' := by
    intro o o' ob hr ho
    unfold back at hr
    split at hr
    · rename_i hlt
      have hok : outs[o]? = some (some ob) := by
        rw [srlive o (by simp [hol, hlt])] at ho
        have : o < outs.length := by omega
        rw [List.getElem?_eq_getElem this] at ho ⊢
        simp at ho; rw [ho]
      exact ⟨b2id hr, _, s2out hr hok, rnO_shape _ _⟩
    · rename_i hlt
      cases hr
      have hnj : news[o - ids.length]? = some ob := by
        rw [← srnew, show ids.length + (o - ids.length) = o by omega]; exact ho
      exact ⟨by rw [b2new _ (List.getElem?_eq_some_iff.1 hnj).1, show ids.length + (o - ids.length) = o by omega], _, s2new hnj, rnO_shape _ _⟩
  have e2 : ∀ l v, (g = true → GrL l) → LRep w' (dinOf w (vD g C S B) objs (vB ids B)) (Sr outs news) B' l v → LRep w' C.din S2 B2 (rn (back ids base) l) v := by
    intro l v hgl hl
    refine LRep.rnM hO2 (fun hm => ?_) hl
    cases hgc : g with
    | true => have := hgl hgc; unfold GrL at this; rw [hm] at this; cases this
    | false => exact LRep.mem (Nat.le_refl _) (fun _ _ _ => rfl) (hD2 hgc) hm hl
  have er2 : ∀ l v, (g = true → GrL l) → RepL w' (dep (dinOf w (vD g C S B) objs (vB ids B)) (Sr outs news) B') l v → RepL w' (dep C.din S2 B2) l v := by
    intro l v hgl hl
    cases hgc : g with
    | true => exact RepL_gr (hgl hgc) hl
    | false => exact RepL_mono (Nat.le_refl _) (fun _ _ _ => rfl) (hD2 hgc) l v hl
  have obs2 : ∀ {o o' : Nat} {ob : Ob}, (g = true → GrO ob) → B2 o' = B' o → B2.z o' = B'.z o → ObRep w' (dinOf w (vD g C S B) objs (vB ids B)) (Sr outs news) B' o ob → ObRep w' C.din S2 B2 o' (rnO (back ids base) ob) := by
    intro o o' ob hgo hB hZ h
    cases ob with
    | reg E sz rows hs =>
      rcases h with ⟨h1, h2, h3⟩ | ⟨b, n, cs, zf, hb, hc, hn, h1, h2, h3, h4⟩
      · exact .inl ⟨h1, hB.trans h2, by rw [hZ]; exact h3⟩
      · refine .inr ⟨b, n, cs, zf, hB.trans hb, hc, hn, h1, h2, by rw [hZ]; exact h3, ?_⟩
        rw [hZ]
        cases hgc : g with
        | true => exact h4.gr (rn (back ids base)) (hgo hgc).1 (fun _ _ => rfl) fun l hm v => e2 l v fun _ => by obtain ⟨i, j, hm⟩ := hm; exact (hgo hgc).2 _ hm
        | false => exact h4.mono (rn (back ids base)) (fun l v => RepL_mono (Nat.le_refl _) (fun _ _ _ => rfl) (hD2 hgc) l v) (fun _ _ => rfl) fun l _ v => e2 l v fun h => by rw [hgc] at h; cases h
    | box ls => obtain ⟨b, n, cs, E, hb, hc, hn, ha⟩ := h; exact ⟨b, n, cs, E, hB.trans hb, hc, hn, All2.map_left (ha.mono_mem fun l v hm => e2 l v fun hg' => hgo hg' l hm)⟩
    | arr E sz rows =>
      rcases h with h | ⟨b, n, cs, hb, hc, hn, h1, h2, h3⟩
      · exact .inl ⟨h.1, hB.trans h.2⟩
      · exact .inr ⟨b, n, cs, hB.trans hb, hc, hn, h1, h2, fun i r hi => (h3 i r hi).mono_mem fun l v hm => er2 l v fun hg' => hgo hg' r (List.mem_of_getElem? hi) l hm⟩
    | map es => obtain ⟨b, n, ens, clock, hb, hc, he⟩ := h; exact ⟨b, n, ens, clock, hB.trans hb, hc, he⟩
  refine ⟨B2, ⟨hR.size, hR.defers, fun t => ?_, fun o ob ho => ?_, fun o o' b ho ho' hb1 hb2 => ?_, fun o b ho hb1 => ?_, ?_, hR.dnew, fun o hk ho => ?_, hR.klt, fun o ob hk ho => ?_⟩, fun s v hgs hs => ?_⟩
  · have : S2.slot t = kS (killsOf ids outs) (S.slot t) := by rw [← hS2, sets_slot, kill_slot]
    rw [this]
    exact SRep.map_kL e1 (hR.slots t)
  · rcases s2live o (by simp [ho]) with ⟨k, ob1, h1, h2⟩ | ⟨j, ob1, h1, rfl⟩ | ⟨h1, h2⟩
    · rw [s2out h1 h2] at ho; cases ho
      exact obs2 (fun hg' => (hg hg').1 ob1 (List.mem_of_getElem? h2)) (b2id h1) (b2idz h1) (hres.obs k ob1 (by rw [srlive k (by simp [h2]), h2]; rfl))
    · rw [s2new h1] at ho; cases ho
      exact obs2 (fun hg' => (hg hg').2 ob1 (List.mem_of_getElem? h1)) (b2new j (List.getElem?_eq_some_iff.1 h1).1) (b2newz j (List.getElem?_eq_some_iff.1 h1).1) (hres.obs _ ob1 (by rw [srnew, h1]))
    · rw [s2old o h1 h2] at ho
      obtain ⟨ob0, h0⟩ := Option.ne_none_iff_exists'.1 h2
      rw [h0] at ho; cases ho
      rw [kO_rn]
      refine (hR.objs o ob0 h0).rnO (b2old o h1 h2) (b2oldz o h1 h2) (fun l v hl => by rw [← kL_rn]; exact e1 l v hl) er1 fun b hbo => ?_
      refine heapkeep b (hR.mineO o b h2 hbo).1 fun i hi hl hbi => ?_
      have := hR.injO o i b h2 hl hbo hbi
      subst this; exact h1 hi
  · -- two places differ
    have cls : ∀ {x b}, S2.obj x ≠ none → Ow B2 x b → (∃ y, (Sr outs news).obj y ≠ none ∧ back ids base y = some x ∧ Ow B' y b) ∨ (x ∉ ids ∧ S.obj x ≠ none ∧ Ow B x b) := by
      intro x b hx hbx
      rcases s2live x hx with ⟨k, ob, h1, h2⟩ | ⟨j, ob, h1, rfl⟩ | ⟨h1, h2⟩
      · exact .inl ⟨k, by rw [srlive k (by simp [h2]), h2]; simp, by unfold back; rw [if_pos (List.getElem?_eq_some_iff.1 h1).1]; exact h1, (b2idO h1 b).1 hbx⟩
      · exact .inl ⟨ids.length + j, by rw [srnew, h1]; simp, by unfold back; rw [if_neg (by omega), Nat.add_sub_cancel_left], (b2newO j (List.getElem?_eq_some_iff.1 h1).1 b).1 hbx⟩
      · exact .inr ⟨h1, h2, (b2oldO x h1 h2 b).1 hbx⟩
    have mix : ∀ {x y b}, (Sr outs news).obj y ≠ none → Ow B' y b → x ∉ ids → S.obj x ≠ none → Ow B x b → False := by
      intro x y b hy hby hx hxl hbx
      rcases (hres.ltO y b hy hby).2 with h | h
      · have := (hR.mineO x b hxl hbx).1; omega
      · obtain ⟨i, hi, hl, hbi⟩ := ioS b h
        have := hR.injO x i b hxl hl hbx hbi
        subst this; exact hx hi
    rcases cls ho hb1 with ⟨y, h1, h2, h3⟩ | ⟨h1, h2, h3⟩ <;> rcases cls ho' hb2 with ⟨y', h1', h2', h3'⟩ | ⟨h1', h2', h3'⟩
    · have := hres.injO y y' b h1 h1' h3 h3'
      subst this
      rw [h2] at h2'; exact Option.some.inj h2'
    · exact (mix h1 h3 h1' h2' h3').elim
    · exact (mix h1' h3' h1 h2 h3).elim
    · exact hR.injO o o' b h2 h2' h3 h3'
  · have fin : ∀ y, (Sr outs news).obj y ≠ none → Ow B' y b → b < w'.heap.size ∧ (C.w0.heap.size ≤ b ∨ C.io b) ∧ C.din b := by
      intro y hy hby
      have h3 := hres.ltO y b hy hby
      refine ⟨h3.1, ?_⟩
      rcases h3.2 with h | h
      · exact ⟨.inl (Nat.le_trans hR.frame.size h), hR.dnew b (Nat.le_trans hR.frame.size h)⟩
      · obtain ⟨i, _, hl, hbi⟩ := ioS b h
        exact (hR.mineO i b hl hbi).2
    rcases s2live o ho with ⟨k, ob, h1, h2⟩ | ⟨j, ob, h1, rfl⟩ | ⟨h1, h2⟩
    · exact fin k (by rw [srlive k (by simp [h2]), h2]; simp) ((b2idO h1 b).1 hb1)
    · exact fin _ (by rw [srnew, h1]; simp) ((b2newO j (List.getElem?_eq_some_iff.1 h1).1 b).1 hb1)
    · have := hR.mineO o b h2 ((b2oldO o h1 h2 b).1 hb1)
      exact ⟨Nat.lt_of_lt_of_le this.1 hsize, this.2⟩
  · refine hR.frame.trans (hres.frame.mono fun b hlt hio => ?_)
    obtain ⟨i, _, hl, hbi⟩ := ioS b hio
    exact (hR.mineO i b hl hbi).2.1.symm
  · rcases s2live o ho with ⟨k, ob, h1, h2⟩ | ⟨j, ob, h1, rfl⟩ | ⟨h1, h2⟩
    · rw [b2id h1, outB h1 h2]; exact hR.keep o hk (idlive h1)
    · have := hR.klt; omega
    · rw [b2old o h1 h2]; exact hR.keep o hk h2
  · rcases s2live o (by simp [ho]) with ⟨k, ob1, h1, h2⟩ | ⟨j, ob1, h1, rfl⟩ | ⟨h1, h2⟩
    · rw [s2out h1 h2] at ho; cases ho
      obtain ⟨ob2, h3, h4⟩ := ids_live hids h1
      obtain ⟨obc, h5, h6⟩ := hR.shape o ob2 hk h3
      obtain ⟨ob0, h0, hsh⟩ := hres.shape k ob1 (by rw [← hil]; exact (List.getElem?_eq_some_iff.1 h1).1) (by rw [srlive k (by simp [h2]), h2]; rfl)
      rw [← hobjs] at h0
      simp [h4] at h0
      subst h0
      exact ⟨obc, h5, ((h6.trans (vO_shape g S ids ob2)).trans hsh).trans (rnO_shape _ _)⟩
    · have := hR.klt; omega
    · rw [s2old o h1 h2] at ho
      obtain ⟨ob0, h0⟩ := Option.ne_none_iff_exists'.1 h2
      rw [h0] at ho; cases ho
      obtain ⟨obc, h5, h6⟩ := hR.shape o ob0 hk h0
      exact ⟨obc, h5, h6.trans (kO_shape _ _)⟩
  · refine SRep.rnP (p := fun l => g = true → GrL l) e2 ?_ hs
    cases s with
    | one l => exact hgs
    | agg ls => exact fun l hl hg' => hgs hg' l hl
    | tup xs => exact fun x hx l hl hg' => hgs hg' x hx l hl
    | bad => trivial
end
end Go.Vl
namespace Go.Vl
open Go Go.RowKit
section
variable {P : Program} {S : St} {o : Oper}
theorem o_call {F : Operand} {Xs : Array Operand} {ats : Array TypeId} (ho : o.op = .call { callee := .value F, args := Xs, argTypes := ats }) {f : FuncId} {os : List Nat} (hF : ev S F = .one (.clo f os))
    (g : Bool) (ids : List Nat) {obs : List Ob} (hids : ids.mapM S.obj = some obs) (hnd : ids.Nodup) (base : Nat) (hb : 100 ≤ base)
    (hfree : S.obj base = none ∧ S.obj (base + 1) = none ∧ S.obj (base + 2) = none ∧ S.obj (base + 3) = none)
    {args : List Slot} (hargs : (Xs.toList.map (ev S) ++ os.map fun q => Slot.one (.ptr q 0)).map (vS g S ids) = args) {objs : List Ob} (hobjs : obs.map (vO g S ids) = objs)
    {Post : Slot → List (Option Ob) → List Ob → Prop} (h : CallsV P f args objs Post)
    (hnews : ∀ s outs news, Post s outs news → news.length ≤ 4 ∧ (g = true → GrS s ∧ (∀ ob, some ob ∈ outs → GrO ob) ∧ ∀ ob ∈ news, GrO ob)) :
    OpW P S o ([base, base + 1, base + 2, base + 3] ++ (ids ++ (Xs.toList.map (ev S) ++ os.map fun q => Slot.one (.ptr q 0)).flatMap refsS ++ obs.flatMap refsO)) (fun e => ∃ s outs news, Post s outs news ∧ outs.length = ids.length ∧ e = cEff ids base s outs news) := by
  intro S' h1 h2' C B a w hR hd next Q hk
  have h2 := fun r hr => h2' r (List.mem_append.2 (.inr hr))
  have h3 : ∀ r, r ∈ [base, base + 1, base + 2, base + 3] → S.obj r = none → S'.obj r = none := fun r hr e => (h2' r (List.mem_append.2 (.inl hr))).trans e
  have hF' := (h1 F (by simp [ho, Op.operands, Call.operands])).trans hF
  have hX' : Xs.toList.map (ev S') = Xs.toList.map (ev S) := List.map_congr_left fun x hx => h1 x (by simp [ho, Op.operands, Call.operands]; exact .inr (Array.mem_toList_iff.1 hx))
  have hids' : ids.mapM S'.obj = some obs := by
    rw [← hids]
    have key : ∀ l : List Nat, (∀ r ∈ l, S'.obj r = S.obj r) → l.mapM S'.obj = l.mapM S.obj := by
      intro l
      induction l with
      | nil => intro _; rfl
      | cons x l ih =>
        intro hl
        rw [List.mapM_cons, List.mapM_cons, hl x (by simp), ih fun r hr => hl r (by simp [hr])]
    exact key ids fun r hr => h2 r (by simp [hr])
  have hobjs' : obs.map (vO g S' ids) = objs := by
    rw [← hobjs]
    exact List.map_congr_left fun ob hob => vO_same fun r hr => h2 r (List.mem_append.2 (.inr (List.mem_flatMap.2 ⟨ob, hob, hr⟩)))
  have hargs' : (Xs.toList.map (ev S) ++ os.map fun q => Slot.one (.ptr q 0)).map (vS g S' ids) = args := by
    rw [← hargs]
    exact List.map_congr_left fun s hs => vS_same fun r hr => h2 r (List.mem_append.2 (.inl (List.mem_append.2 (.inr (List.mem_flatMap.2 ⟨s, hs, hr⟩)))))
  obtain ⟨vs, hv, hcap⟩ := ev_one hR hF'
  have hvals : All2 (SRep (LRep w C.din S' B)) (Xs.toList.map (ev S) ++ os.map fun q => Slot.one (.ptr q 0)) (Xs.map a.eval ++ vs).toList := by
    rw [Array.toList_append]
    refine All2.append ?_ (All2.map_left (hcap.mono fun q x hx => hx))
    rw [← hX', Array.toList_map]
    have key : ∀ l : List Operand, All2 (SRep (LRep w C.din S' B)) (l.map (ev S')) (l.map a.eval) := by
      intro l
      induction l with
      | nil => trivial
      | cons x l ih => exact ⟨ev_rep hR x, ih⟩
    exact key _
  have hview : All2 (SRep (LRep w (vD g C S' B) (So objs) (vB ids B))) args (Xs.map a.eval ++ vs).toList := by
    rw [← hargs', ← hobjs']
    exact All2.map_left (hvals.mono fun s v hs => view_srep hR hids' hnd hs)
  have hA : ArgsOk w (vD g C S' B) objs (vB ids B) := by rw [← hobjs']; exact view_args hR hids' hnd
  have hcall := h.2 w (vB ids B) (vD g C S' B) (Xs.map a.eval ++ vs) hA hview
  have hrun : (execOp a.eval o).run P w = .ok (.enter f (Xs.map a.eval ++ vs)) w := by
    have := h.1 (Xs.map a.eval ++ vs) w
    simp [execOp, ho, resolve, hv, Deferred.ofValue, invoke, this]
  unfold Oper.wp
  rw [hrun]
  rw [Oper.upon_enter]
  refine hcall.mono fun e w' he => ?_
  obtain ⟨v, s, outs, news, B', rfl, hP, hres, hs⟩ := he
  obtain ⟨hnl, hgr⟩ := hnews s outs news hP
  rw [← hobjs'] at hres hs
  obtain ⟨B2, hR2, hs2⟩ := back_rel (base := base) hR hids' hnd hres (fun j hj => by
      have hj4 : j < 4 := by omega
      obtain ⟨f0, f1, f2, f3⟩ := hfree
      match j, hj4 with
      | 0, _ => exact h3 _ (by simp) f0
      | 1, _ => exact h3 _ (by simp) f1
      | 2, _ => exact h3 _ (by simp) f2
      | 3, _ => exact h3 _ (by simp) f3) hb (fun hg => (hgr hg).2)
  have hlen : outs.length = ids.length := by rw [hres.len, List.length_map, mapM_length hids']
  exact hk _ B2 v w' ⟨s, outs, news, hP, hlen, rfl⟩ (hR2.put o.dst _ v (hs2 s v (fun hg => (hgr hg).1) hs) hd)
end
end Go.Vl
namespace Go.Vl
open Go Go.RowKit
section
variable {P : Program} {T : Tab} {S : St} {o : Oper} {C : Ctx} {B : Pl} {a : Act} {w : World}
theorem o_len_str (hT : TabOk P T) {X : Operand} {t : TypeId} (ho : o.op = .call { callee := .builtin .len, args := #[X], argTypes := #[t] }) {i : TI} (hi : T t = some i) (hd0 : i.d = .str) {s : ByteArray} (hX : ev S X = .one (.g (.string s))) :
    OpL P S o { dst := .one (.g (.int .i64 s.size)) } := by
  intro S' h1 h2 h3 C B a w hR hd
  have hX' := (h1 X (by simp [ho, Op.operands, Call.operands])).trans hX
  have hx := ev_g hR hX'
  exact good_val hR (rd := []) (p := True) hd (v := .int .i64 s.size) (by simp [execOp, ho, resolve, invoke, builtin, Builtin.len_, hx, run_underlying (und_str hT hi hd0), goInt]) (srepG rfl)
theorem o_len_sl (hT : TabOk P T) {X : Operand} {t : TypeId} (ho : o.op = .call { callee := .builtin .len, args := #[X], argTypes := #[t] }) {i : TI} {e : TypeId} (hi : T t = some i) (hd0 : i.d = .sl e) {l : Leaf} (hX : ev S X = .one l) {n : Nat}
    (hl : match l with | .own _ _ m => m = n | .imm _ rows => rows.length = n | .g (.slice _ m _) => m = n | _ => False) : OpL P S o { dst := .one (.g (.int .i64 n)) } := by
  intro S' h1 h2 h3 C B a w hR hd
  have hX' := (h1 X (by simp [ho, Op.operands, Call.operands])).trans hX
  have hr := ev_one hR hX'
  have key : ∃ A c, a.eval X = .slice A n c := by
    cases l with
    | own q off m =>
      have hl : m = n := hl
      obtain ⟨_, _, _, A, c, _, _, hv, _⟩ := hr; exact ⟨A, c, by rw [hv, hl]⟩
    | imm sz rows =>
      have hl : rows.length = n := hl
      have hr : RepL w (dep C.din S' B) (.imm sz rows) (a.eval X) := hr
      rw [RepL.eq_2] at hr; obtain ⟨A, c, hv, _⟩ := hr; exact ⟨A, c, by rw [hv, hl]⟩
    | g x =>
      have := ev_g hR hX'
      cases x with
      | slice A m c => have hl : m = n := hl; exact ⟨A, c, by rw [this, hl]⟩
      | _ => exact hl.elim
    | _ => exact hl.elim
  obtain ⟨A, c, hv⟩ := key
  exact good_val hR (rd := []) (p := True) hd (v := .int .i64 n) (by simp [execOp, ho, resolve, invoke, builtin, Builtin.len_, hv, run_underlying (und_sl hT hi hd0), goInt]) (srepG rfl)
def isNilSl : Value → Bool
  | .slice none 0 0 => true
  | _ => false
theorem isNilSl_eq {x : Value} (h : isNilSl x = true) : x = .slice none 0 0 := by
  unfold isNilSl at h; split at h
  · rfl
  · cases h
def rowsAt (S : St) (sz : Nat) : Leaf → Option (List (List Leaf))
  | .own q off len => match S.obj q with
    | some (.arr _ s rows) => if s = sz then some ((rows.drop off).take len) else none
    | _ => none
  | .imm s rows => if s = sz then some rows else none
  | .g x => if isNilSl x then some [] else none
  | _ => none
def Src (w : World) (sz : Nat) (v : Value) (m : Nat) (cs : List Value) : Prop :=
  ∃ A c, v = .slice A m c ∧ m ≤ c ∧ c ≤ maxLen ∧ cs.length = m * sz ∧ (∀ x ∈ cs, x.oneCell' = true) ∧ (m = 0 ∨ ∃ b : Addr, A = some b ∧ ∀ j x, cs[j]? = some x → w.cell? (b.add j) = some x)
theorem rows_src (hR : Rel C S B a w) {sz : Nat} {l : Leaf} {rows : List (List Leaf)} (hr : rowsAt S sz l = some rows) {v : Value} (h : LRep w C.din S B l v) :
    ∃ cs, Src w sz v rows.length cs ∧ ∀ (i : Nat) r, rows[i]? = some r → All2 (RepL w (dep C.din S B)) r ((cs.drop (i * sz)).take sz) := by
  cases l <;> simp only [rowsAt] at hr
  case g x =>
    split at hr
    · rename_i hx
      cases hr
      have : v = .slice none 0 0 := by rw [← isNilSl_eq hx]; exact repG_eq h
      exact ⟨[], ⟨none, 0, this, by simp, by simp, by simp, by simp, .inl rfl⟩, fun i r hi => by simp at hi⟩
    · cases hr
  case imm s rows' =>
    split at hr
    · rename_i hs
      cases hr; subst hs
      have h : RepL w (dep C.din S B) (.imm s rows) v := h
      rw [RepL.eq_2] at h
      obtain ⟨A, c, hv, h1, h2, h3⟩ := h
      rcases h3 with rfl | ⟨b, rfl, hd, hlt, hrs⟩
      · exact ⟨[], ⟨A, c, hv, by simp, h2, by simp, by simp, .inl rfl⟩, fun i r hi => by simp at hi⟩
      · -- the cells
        have hcell : ∀ i r, rows[i]? = some r → ∀ j, j < s → ∃ x l, r[j]? = some l ∧ w.cell? (b.add (i * s + j)) = some x ∧ RepL w (dep C.din S B) l x := by
          intro i r hi j hj
          obtain ⟨hlen, hrr⟩ := RepRs_get hrs i r hi
          obtain ⟨l, hl⟩ : ∃ l, r[j]? = some l := ⟨r[j]'(by omega), List.getElem?_eq_getElem (by omega)⟩
          obtain ⟨x, hx, hxr⟩ := RepR_get hrr j l hl
          exact ⟨x, l, hl, by simpa using hx, hxr⟩
        refine ⟨(List.range (rows.length * s)).map fun j => (w.cell? (b.add j)).getD undef, ⟨some b, c, hv, h1, h2, by simp, fun x hx => ?_, ?_⟩, fun i r hi => ?_⟩
        · simp at hx
          obtain ⟨j, hj, rfl⟩ := hx
          have hs0 : 0 < s := by
            rcases Nat.eq_zero_or_pos s with h | h
            · subst h; simp at hj
            · exact h
          have hil : j / s < rows.length := Nat.div_lt_of_lt_mul (by rw [Nat.mul_comm]; exact hj)
          obtain ⟨x, l, _, hx, hxr⟩ := hcell (j / s) _ (List.getElem?_eq_getElem hil) (j % s) (Nat.mod_lt _ hs0)
          rw [show j / s * s + j % s = j from by rw [Nat.mul_comm]; exact Nat.div_add_mod j s] at hx
          rw [hx]
          exact LRep.oneCell (RepL.lrep hxr)
        · right
          refine ⟨b, rfl, fun j x hj => ?_⟩
          have hjl : j < rows.length * s := by
            rcases Nat.lt_or_ge j (rows.length * s) with h | h
            · exact h
            · rw [List.getElem?_eq_none (by simp; omega)] at hj; cases hj
          rw [List.getElem?_map, List.getElem?_range hjl] at hj
          simp at hj
          subst hj
          have hs0 : 0 < s := by
            rcases Nat.eq_zero_or_pos s with h | h
            · subst h; simp at hjl
            · exact h
          have hil : j / s < rows.length := Nat.div_lt_of_lt_mul (by rw [Nat.mul_comm]; exact hjl)
          obtain ⟨x, l, _, hx, hxr⟩ := hcell (j / s) _ (List.getElem?_eq_getElem hil) (j % s) (Nat.mod_lt _ hs0)
          rw [show j / s * s + j % s = j from by rw [Nat.mul_comm]; exact Nat.div_add_mod j s] at hx
          rw [hx]; rfl
        · have hil : i < rows.length := (List.getElem?_eq_some_iff.1 hi).1
          have h6 : (i + 1) * s ≤ rows.length * s := Nat.mul_le_mul_right _ hil
          rw [Nat.succ_mul] at h6
          obtain ⟨hlen, _⟩ := RepRs_get hrs i r hi
          refine All2.of_get (by simp; omega) fun j l x hl hx => ?_
          have hj : j < s := by
            rcases Nat.lt_or_ge j s with h | h
            · exact h
            · rw [List.getElem?_eq_none (by omega)] at hl; cases hl
          obtain ⟨y, l', hl', hy, hyr⟩ := hcell i r hi j hj
          rw [hl] at hl'; cases hl'
          rw [List.getElem?_take, if_pos hj, List.getElem?_drop, List.getElem?_map, List.getElem?_range (by omega)] at hx
          simp [hy] at hx
          subst hx; exact hyr
    · cases hr
  case own q off len =>
    split at hr
    · rename_i E s rows' hq
      split at hr
      · rename_i hs
        cases hr; subst hs
        obtain ⟨E', sz', rows2, A, c, hq2, hlen, hv, hlc, hcm, hc⟩ := h
        rw [arr_of hq] at hq2; cases hq2
        have hl2 : ((rows'.drop off).take len).length = len := by simp; omega
        rw [hl2]
        rcases Nat.eq_zero_or_pos len with h0 | h0
        · subst h0
          exact ⟨[], ⟨A, c, hv, by omega, hcm, by simp, by simp, .inl rfl⟩, fun i r hi => by simp at hi⟩
        · rcases hc with hc0 | ⟨b, n, hb, hA, hroom⟩
          · omega
          · rcases hR.objs q _ hq with ⟨hr0, _⟩ | ⟨b', n', cs, hb', hh, hcn, hone, hle, hrows⟩
            · subst hr0; simp at hlen; omega
            · rw [hb] at hb'; cases hb'
              have h6 : (off + len) * s ≤ rows'.length * s := Nat.mul_le_mul_right _ hlen.1
              rw [Nat.add_mul] at h6
              refine ⟨(cs.toList.drop (off * s)).take (len * s), ⟨A, c, hv, hlc, hcm, by simp; omega, fun x hx => hone x (List.mem_of_mem_drop (List.mem_of_mem_take hx)), .inr ⟨_, hA, fun j x hj => ?_⟩⟩, fun i r hi => ?_⟩
              · rw [List.getElem?_take] at hj
                split at hj
                · rw [List.getElem?_drop] at hj
                  rw [add_mk, cell_blk hh]; simpa using hj
                · cases hj
              · rw [List.getElem?_take] at hi
                split at hi
                · rename_i hil
                  rw [List.getElem?_drop] at hi
                  have ha := hrows _ _ hi
                  have h7 : (i + 1) * s ≤ len * s := Nat.mul_le_mul_right _ hil
                  rw [Nat.succ_mul] at h7
                  have e : (((cs.toList.drop (off * s)).take (len * s)).drop (i * s)).take s = (cs.toList.drop ((off + i) * s)).take s := by
                    rw [List.drop_take, List.take_take, List.drop_drop, Nat.add_mul]
                    congr 1
                    omega
                  rw [e]; exact ha
                · cases hi
      · cases hr
    · cases hr
  all_goals cases hr
theorem run_first {w W : World} {sz m : Nat} {v : Value} {cs : List Value} (h : Src w sz v m cs) (hW : W.heap = w.heap) : (Builtin.firstCells sz m v).run P W = .ok cs.toArray W := by
  obtain ⟨A, c, rfl, _, _, hl, _, h0⟩ := h
  rcases h0 with rfl | ⟨b, rfl, hb⟩
  · have : cs = [] := List.eq_nil_of_length_eq_zero (by simpa using hl)
    subst this
    cases A with
    | none => rfl
    | some b => simp [Builtin.firstCells, loadCells, loadCellsFrom]
  · simp only [Builtin.firstCells]
    rw [← hl]
    exact run_loadCells_list W b cs fun j x hj => by
      have : W.cell? (b.add j) = w.cell? (b.add j) := by simp [World.cell?, hW]
      rw [this]; exact hb j x hj
theorem rowsAt_reads {S S' : St} {sz : Nat} {l : Leaf} (h : ∀ r ∈ refsL l, S'.obj r = S.obj r) : rowsAt S' sz l = rowsAt S sz l := by
  cases l <;> simp only [rowsAt]
  rw [h _ (by simp [refsL])]
theorem o_eqb (hT : TabOk P T) {op : BinOp} {t ty : TypeId} {X Y : Operand} (ho : o.op = .binOp op t X Y ty) {i : TI} (hi : T t = some i) (hd0 : i.d = .bool) {x y r : Bool} (hX : ev S X = .one (.g (.bool x))) (hY : ev S Y = .one (.g (.bool y)))
    (hr : (op = .eql ∧ r = (x == y)) ∨ (op = .neq ∧ r = !(x == y))) : OpL P S o { dst := .one (.g (.bool r)) } := by
  intro S' h1 h2 h3 C B a w hR hd
  have hX' := (h1 X (by simp [ho, Op.operands])).trans hX
  have hY' := (h1 Y (by simp [ho, Op.operands])).trans hY
  have hx := ev_g hR hX'
  have hy := ev_g hR hY'
  have hu := und_bool hT hi hd0
  refine good_val hR (rd := []) (p := True) hd (v := .bool r) ?_ (srepG rfl)
  have heq : (Op.equal t (.bool x) (.bool y)).run P w = .ok (x == y) w := by
    unfold Op.equal Op.maxDepth
    exact run_equalIn_bool' w 9999 t x y hu
  rcases hr with ⟨rfl, rfl⟩ | ⟨rfl, rfl⟩
  · simp [execOp, ho, hx, hy, eqGuard, binOp, heq]
  · simp [execOp, ho, hx, hy, eqGuard, binOp, heq]
def eqT : TD → Value → Value → Option Bool
  | .int _, .int k x, .int k' y => if k = k' then some (x == y) else none
  | .bool, .bool a, .bool b => some (a == b)
  | .str, .string a, .string b => some (a.toList == b.toList)
  | _, _, _ => none
def flatEq (T : Tab) : Nat → List Leaf → List Leaf → List (Nat × TypeId) → Option Bool
  | 0, _, _, _ => none
  | _ + 1, _, _, [] => some true
  | n + 1, xs, ys, (off, t) :: fs => match T t with
    | none => none
    | some i => match i.d.isAgg with
      | false => match xs[off]?, ys[off]? with
        | some (.g v), some (.g v') => match eqT i.d v v', flatEq T n xs ys fs with
          | some b, some r => some (b && r)
          | _, _ => none
        | _, _ => none
      | true => match i.eqf with
        | none => none
        | some fs' => match flatEq T n ((xs.drop off).take i.size) ((ys.drop off).take i.size) fs', flatEq T n xs ys fs with
          | some b, some r => some (b && r)
          | _, _ => none
theorem run_eqT (hT : TabOk P T) {t : TypeId} {i : TI} (hi : T t = some i) {v v' : Value} {b : Bool} (h : eqT i.d v v' = some b) (d : Nat) (w : World) : (Op.equalIn (d + 1) t v v').run P w = .ok b w := by
  unfold eqT at h
  split at h
  · rename_i hd
    split at h
    · rename_i hk; subst hk; cases h; exact run_equalIn_int w d t _ _ _ _ (und_int hT hi hd)
    · cases h
  · rename_i hd; cases h; exact run_equalIn_bool' w d t _ _ (und_bool hT hi hd)
  · rename_i hd; cases h; exact run_equalIn_string w d t _ _ (und_str hT hi hd)
  · cases h
theorem run_flatEq (hT : TabOk P T) {R : Leaf → Value → Prop} (hR : ∀ x v, R (.g x) v → v = x) (w : World) :
    ∀ (n : Nat) {xs ys : List Leaf} {vs us : Array Value} (fs : List (Nat × TypeId)) (fl : List Field) (d : Nat), n ≤ d → All2 R xs vs.toList → All2 R ys us.toList →
      fl.map (fun f => (f.name == "_", f.offset, f.type)) = fs.map (fun p => (false, p.1, p.2)) → ∀ {r : Bool}, flatEq T n xs ys fs = some r → (Op.eqFields (d + 1) vs us fl).run P w = .ok r w
  | 0, _, _, _, _, fs, fl, d, _, _, _, hm, r, h => by simp [flatEq] at h
  | n + 1, _, _, _, _, [], fl, d, _, _, _, hm, r, h => by
    cases fl with
    | nil => simp [flatEq] at h; subst h; rfl
    | cons => simp at hm
  | n + 1, xs, ys, vs, us, (off, t) :: fs, fl, d, hd, hx, hy, hm, r, h => by
    cases fl with
    | nil => simp at hm
    | cons f fl =>
      simp only [List.map_cons, List.cons.injEq, Prod.mk.injEq] at hm
      obtain ⟨⟨hn, ho, ht⟩, hm⟩ := hm
      have hname : f.name ≠ "_" := by simpa using hn
      have fin : ∀ {u u' : Value} {b r' : Bool}, (part f.type vs f.offset).run P w = .ok u w → (part f.type us f.offset).run P w = .ok u' w → (Op.equalIn (d + 1) f.type u u').run P w = .ok b w →
          flatEq T n xs ys fs = some r' → (Op.eqFields (d + 1) vs us (f :: fl)).run P w = .ok (b && r') w := by
        intro u u' b r' p1 p2 p3 hr
        have p4 := run_flatEq hT hR w n fs fl d (by omega) hx hy hm hr
        simp only [Op.eqFields, if_pos hname, Sem.run_bind, p1, p2, p3, Result.andThen_ok]
        cases b
        · simp
        · simpa using p4
      unfold flatEq at h
      split at h
      · cases h
      · rename_i i hi
        split at h
        · rename_i hagg
          split at h
          · rename_i v v' hxo hyo
            split at h
            · rename_i b r' hb hr
              cases h
              obtain ⟨u, hu, hru⟩ := hx.get off _ hxo
              obtain ⟨u', hu', hru'⟩ := hy.get off _ hyo
              have e1 := hR _ _ hru
              have e2 := hR _ _ hru'
              subst e1 e2
              refine fin (u := u) (u' := u') ?_ ?_ ?_ hr
              · have : vs[off]? = some u := by simpa using hu
                subst ho ht
                simp [part, hT.isAgg hi, hagg, this]
              · have : us[off]? = some u' := by simpa using hu'
                subst ho ht
                simp [part, hT.isAgg hi, hagg, this]
              · subst ht; exact run_eqT hT hi hb d w
            · cases h
          · cases h
        · rename_i hagg
          split at h
          · cases h
          · rename_i fs' hf
            split at h
            · rename_i b r' hb hr
              cases h
              obtain ⟨q1, q2, _, q4⟩ := hT.eqs t i fs' hi hf
              cases d with
              | zero => omega
              | succ d =>
                refine fin (u := .agg (vs.extract off (off + i.size))) (u' := .agg (us.extract off (off + i.size))) ?_ ?_ ?_ hr
                · subst ho ht; simp [part, hT.isAgg hi, hagg, hT.size hi]
                · subst ho ht; simp [part, hT.isAgg hi, hagg, hT.size hi]
                · subst ht
                  rw [run_equalIn_struct w (d + 1) _ _ _ q1 q2]
                  refine run_flatEq hT hR w n fs' _ d (by omega) ?_ ?_ q4 hb
                  · have := (hx.drop off).take i.size
                    simpa [Array.toList_extract, List.extract] using this
                  · have := (hy.drop off).take i.size
                    simpa [Array.toList_extract, List.extract] using this
            · cases h
theorem o_eqst (hT : TabOk P T) {op : BinOp} {t ty : TypeId} {X Y : Operand} (ho : o.op = .binOp op t X Y ty) {i : TI} (hi : T t = some i) {fs : List (Nat × TypeId)} (hf : i.eqf = some fs) {xs ys : List Leaf} (hX : ev S X = .agg xs) (hY : ev S Y = .agg ys)
    {b r : Bool} (hb : flatEq T 64 xs ys fs = some b) (hr : (op = .eql ∧ r = b) ∨ (op = .neq ∧ r = !b)) : OpL P S o { dst := .one (.g (.bool r)) } := by
  intro S' h1 h2 h3 C B a w hR hd
  have hX' := (h1 X (by simp [ho, Op.operands])).trans hX
  have hY' := (h1 Y (by simp [ho, Op.operands])).trans hY
  obtain ⟨vs, hv, hvs⟩ := ev_agg hR hX'
  obtain ⟨us, hu, hus⟩ := ev_agg hR hY'
  obtain ⟨q1, q2, q3, q4⟩ := hT.eqs t i fs hi hf
  have hrun : (Op.equalIn 10000 t (.agg vs) (.agg us)).run P w = .ok b w := by
    rw [run_equalIn_struct w 9999 t vs us q1 q2]
    exact run_flatEq hT (fun x v h => repG_eq h) w 64 fs _ 9998 (by omega) hvs hus q4 hb
  refine good_val hR (rd := []) (p := True) hd (v := .bool r) ?_ (srepG rfl)
  rcases hr with ⟨rfl, rfl⟩ | ⟨rfl, rfl⟩
  · simp [execOp, ho, hv, hu, run_eqGuard_agg w .eql t X Y vs us q3, run_eql_struct, hrun]
  · simp [execOp, ho, hv, hu, run_eqGuard_agg w .neq t X Y vs us q3, run_neq_struct, hrun]
end
end Go.Vl
namespace Go.Vl
open Go Go.RowKit
section
variable {P : Program} {T : Tab} {S : St} {o : Oper} {C : Ctx} {B : Pl} {a : Act} {w w' : World}
theorem Rel.move (hR : Rel C S B a w) {ks : List Nat} {q : Nat} {ob : Ob} {p : Option (Nat × Nat)} (hq : S.obj q = none) (hq1 : 100 ≤ q)
    (h1 : w'.os = w.os) (h2 : w'.tape = w.tape) (h3 : w'.output = w.output) (hs : w.heap.size ≤ w'.heap.size)
    (hk : ∀ x, x < w.heap.size → (∀ k ∈ ks, S.obj k ≠ none → ¬ Ow B k x) → w'.heap[x]? = w.heap[x]?)
    (hp : ∀ b n, p = some (b, n) → (∃ k ∈ ks, ∃ n', S.obj k ≠ none ∧ B k = some (b, n')) ∨ (w.heap.size ≤ b ∧ b < w'.heap.size))
    (hob : (∀ l v, RepL w (dep C.din S B) l v → RepL w' (dep C.din ((S.kill ks).sets [(q, ob)]) (B.set q p)) l v) → ObRep w' C.din ((S.kill ks).sets [(q, ob)]) (B.set q p) q ob) :
    Rel C ((S.kill ks).sets [(q, ob)]) (B.set q p) a w' ∧ (∀ l v, LRep w C.din S B l v → LRep w' C.din ((S.kill ks).sets [(q, ob)]) (B.set q p) (kL ks l) v) := by
  generalize hS2 : (S.kill ks).sets [(q, ob)] = S2 at *
  have o2q : S2.obj q = some ob := by rw [← hS2]; simp [sets_one_obj]
  have o2 : ∀ x, x ≠ q → S2.obj x = if ks.contains x then none else (S.obj x).map (kO ks) := fun x hx => by rw [← hS2, sets_one_obj, if_neg hx, kill_obj]
  have s2 : ∀ t, S2.slot t = kS ks (S.slot t) := fun t => by rw [← hS2, sets_one_slot, kill_slot]
  have hBo : ∀ y, y ≠ q → (B.set q p) y = B y := fun y hy => by simp [Pl.set, hy]
  have hBs : (B.set q p) q = p := by simp [Pl.set]
  have live : ∀ x, x ≠ q → S2.obj x ≠ none → S.obj x ≠ none ∧ ks.contains x = false := by
    intro x hx h
    rw [o2 x hx] at h
    split at h
    · exact absurd rfl h
    · rename_i hc
      exact ⟨fun h0 => h (by simp [h0]), by simpa using hc⟩
  have hd : ∀ x, dep C.din S B x → x < w.heap.size → dep C.din S2 (B.set q p) x := by
    intro x hx hlt
    refine ⟨hx.1, fun y hy hb => ?_⟩
    by_cases hyq : y = q
    · subst hyq
      obtain ⟨n, hn⟩ := Ow.set_eq.1 hb
      rcases hp x n hn with ⟨k, _, n', hk, hbk⟩ | ⟨h, _⟩
      · exact hx.at k n' hk hbk
      · omega
    · exact hx.2 y (live y hyq hy).1 ((Ow.set_ne hyq).1 hb)
  have hh : ∀ x, dep C.din S B x → x < w.heap.size → w'.heap[x]? = w.heap[x]? := fun x hx hlt => hk x hlt fun k _ hkl => hx.2 k hkl
  have er : ∀ l v, RepL w (dep C.din S B) l v → RepL w' (dep C.din S2 (B.set q p)) l v := fun l v hl => RepL_mono hs hh hd l v hl
  have e : ∀ l v, LRep w C.din S B l v → LRep w' C.din S2 (B.set q p) (kL ks l) v := by
    intro l v hl
    rw [kL_rn]
    refine LRep.rn hs hh hd (fun x x' obx hr hx => ?_) hl
    unfold keepR at hr
    split at hr
    · cases hr
    · rename_i hc
      cases hr
      have hxq : x ≠ q := fun ex => by subst ex; rw [hq] at hx; cases hx
      exact ⟨hBo x hxq, _, by rw [o2 x hxq, if_neg hc, hx]; rfl, kO_shape _ _⟩
  refine ⟨⟨hR.size, hR.defers, fun t => ?_, fun x obx hx => ?_, fun x y b hx hy hxb hyb => ?_, fun x b hx hxb => ?_, ?_, hR.dnew, fun x hxk hx => ?_, hR.klt, fun x obx hxk hx => ?_⟩, e⟩
  · rw [s2]; exact SRep.map_kL e (hR.slots t)
  · by_cases hxq : x = q
    · subst hxq; rw [o2q] at hx; cases hx; exact hob er
    · obtain ⟨hl, hc⟩ := live x hxq (by simp [hx])
      rw [o2 x hxq, hc] at hx
      obtain ⟨ob0, h0⟩ := Option.ne_none_iff_exists'.1 hl
      rw [h0] at hx; simp at hx; subst hx
      rw [kO_rn]
      refine (hR.objs x ob0 h0).rnO (hBo x hxq) (by funext c; simp [Pl.set, hxq]) (fun l v hl => by rw [← kL_rn]; exact e l v hl) er fun b hb => ?_
      refine hk b (hR.mineO x b hl hb).1 fun k hkk hkl hkb => ?_
      have := hR.injO x k b hl hkl hb hkb
      subst this
      rw [List.contains_iff_mem.2 hkk] at hc; cases hc
  · have mix : ∀ {x b}, x ≠ q → S2.obj x ≠ none → Ow B x b → (∃ n, p = some (b, n)) → False := by
      rintro x b hxq hx hxb ⟨n', hpb⟩
      obtain ⟨hl, hc⟩ := live x hxq hx
      rcases hp b n' hpb with ⟨k, hkk, m, hkl, hkb⟩ | ⟨h, _⟩
      · have := hR.injO x k b hl hkl hxb (.at hkb)
        subst this
        rw [List.contains_iff_mem.2 hkk] at hc; cases hc
      · have := (hR.mineO x b hl hxb).1; omega
    by_cases hxq : x = q <;> by_cases hyq : y = q
    · rw [hxq, hyq]
    · subst hxq; exact (mix hyq hy ((Ow.set_ne hyq).1 hyb) (Ow.set_eq.1 hxb)).elim
    · subst hyq; exact (mix hxq hx ((Ow.set_ne hxq).1 hxb) (Ow.set_eq.1 hyb)).elim
    · exact hR.injO x y b (live x hxq hx).1 (live y hyq hy).1 ((Ow.set_ne hxq).1 hxb) ((Ow.set_ne hyq).1 hyb)
  · by_cases hxq : x = q
    · subst hxq
      obtain ⟨n, hn⟩ := Ow.set_eq.1 hxb
      rcases hp b n hn with ⟨k, hkk, m, hkl, hkb⟩ | ⟨h4, h5⟩
      · have := hR.mine k b m hkl hkb; exact ⟨Nat.lt_of_lt_of_le this.1 hs, this.2⟩
      · exact ⟨h5, .inl (Nat.le_trans hR.frame.size h4), hR.dnew b (Nat.le_trans hR.frame.size h4)⟩
    · have := hR.mineO x b (live x hxq hx).1 ((Ow.set_ne hxq).1 hxb); exact ⟨Nat.lt_of_lt_of_le this.1 hs, this.2⟩
  · refine ⟨h1.trans hR.frame.os, h2.trans hR.frame.tape, h3.trans hR.frame.output, Nat.le_trans hR.frame.size hs, fun x hx hn => ?_⟩
    rw [hk x (Nat.lt_of_lt_of_le hx hR.frame.size) fun k hkk hkl hkb => ?_]
    · exact hR.frame.block x hx hn
    · rcases (hR.mineO k x hkl hkb).2.1 with h | h
      · omega
      · exact hn h
  · have hxq : x ≠ q := by have := hR.klt; omega
    rw [hBo x hxq]; exact hR.keep x hxk (live x hxq hx).1
  · have hxq : x ≠ q := by have := hR.klt; omega
    obtain ⟨hl, hc⟩ := live x hxq (by simp [hx])
    rw [o2 x hxq, hc] at hx
    obtain ⟨ob0, h0⟩ := Option.ne_none_iff_exists'.1 hl
    rw [h0] at hx; simp at hx; subst hx
    obtain ⟨ob1, h4, h5⟩ := hR.shape x ob0 hxk h0
    exact ⟨ob1, h4, h5.trans (kO_shape _ _)⟩
theorem run_append_cases {t ty e : TypeId} {i : TypeInfo} {z : Value} (ht : P.underlying t = some (.slice e)) (hi : P.info? e = some i) (hz : i.zero = some z)
    {A : Option Addr} {len c : Nat} {X : Value} {m : Nat} {os ns : List Value} (ho : Src w i.size (.slice A len c) len os) (hn : Src w i.size X m ns) (hsum : (len + m) * i.bytes ≤ 140737488355328) (h63 : len + m ≤ maxLen) :
    (len + m ≤ c → (Builtin.append_ #[t, t] ty #[.slice A len c, X]).run P w = ((match A with | some b => storeCells (b.add (len * i.size)) ns | none => pure ()).run P w).andThen fun _ w1 => .ok (.slice A (len + m) c) w1) ∧
    (c < len + m → (Builtin.append_ #[t, t] ty #[.slice A len c, X]).run P w = .ok (.slice (some ⟨w.heap.size, 0, none⟩) (len + m) (grownCap w (len + m) c e))
        (w.drew.alloc (.cells (os.toArray ++ ns.toArray ++ Builtin.zeroCells z.cells (grownCap w (len + m) c e - (len + m))) e))) := by
  obtain ⟨A', c', hX, hmc, _, _⟩ := id hn
  have hlenX : (Builtin.lenOf X) = (pure m : Sem Nat) := by rw [hX]; rfl
  have hfn : ∀ W : World, W.heap = w.heap → (Builtin.firstCells i.size m X).run P W = .ok ns.toArray W := fun W hW => run_first hn hW
  have hfo : ∀ W : World, W.heap = w.heap → (Builtin.firstCells i.size len (.slice A len c)).run P W = .ok os.toArray W := fun W hW => run_first ho hW
  constructor
  · intro hfit
    cases A with
    | none => simp [Builtin.append_, run_underlying ht, sizeOf, typeInfo, hi, hlenX, hfit, hfn w rfl]
    | some b => simp [Builtin.append_, run_underlying ht, sizeOf, typeInfo, hi, hlenX, hfit, hfn w rfl]
  · intro hgrow
    have hg : ¬ (len + m ≤ c) := by omega
    have h63' : ¬ (9223372036854775807 < ((len : Int) + (m : Int))) := by
      have := h63; simp [maxLen] at this; omega
    have h48' : ¬ (281474976710656 < Builtin.nextslicecap (len + m) c * i.bytes) := by
      have := growslice_fits (bytes := i.bytes) hgrow hsum; omega
    simp [Builtin.append_, run_underlying ht, sizeOf, typeInfo, zeroValue, hi, hz, hlenX, hg, h63', h48', Question.forced, hfn w.drew rfl, hfo w.drew rfl, newRow, grownCap]
    congr 2
    apply Array.ext'
    simp [List.append_assoc]
end
end Go.Vl

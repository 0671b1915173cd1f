/- V-logic, part t: regions whose order is drawn. -/
import Derived.Test.YtdijjjgplhbkkaaGreatDoorWe
set_option linter.unusedSimpArgs false
set_option linter.unusedVariables false
set_option linter.unnecessarySimpa false
namespace Go.Vl
open Go Go.RowKit
structure Stp where
  i : Nat
  e : Option Eff
  rd : List Nat
  tw : List Nat
  nm : Option (List Nat)
def Stp.eff (s : Stp) : Eff := s.e.getD { dst := .tup [] }
def lfNm : Leaf → Option (List Nat)
  | .own o _ _ => some [o]
  | .ptr o _ => some [o]
  | .elm o _ _ => some [o]
  | .mp o => some [o]
  | .clo _ os => some os
  | .bad => none
  | _ => some []
def apNm : Option (List Nat) → Option (List Nat) → Option (List Nat)
  | some a, some b => some (a ++ b)
  | _, _ => none
def lsNm : List Leaf → Option (List Nat)
  | [] => some []
  | l :: ls => apNm (lfNm l) (lsNm ls)
def tpNm : List (Bool × List Leaf) → Option (List Nat)
  | [] => some []
  | x :: xs => apNm (lsNm x.2) (tpNm xs)
def slNm : Slot → Option (List Nat)
  | .one l => lfNm l
  | .agg ls => lsNm ls
  | .tup xs => tpNm xs
  | .bad => none
def obNm : Ob → Option (List Nat)
  | .box ls => lsNm ls
  | .reg _ _ _ [] => some []
  | .reg _ _ _ (_ :: _) => none
  | _ => some []
def NmS (l : List Nat) (s : Slot) : Prop := ∃ a, slNm s = some a ∧ ∀ x ∈ a, x ∈ l
def NmO (l : List Nat) (s : Ob) : Prop := ∃ a, obNm s = some a ∧ ∀ x ∈ a, x ∈ l
theorem apNm_some {a b : Option (List Nat)} {c : List Nat} (h : apNm a b = some c) : ∃ x y, a = some x ∧ b = some y ∧ c = x ++ y := by
  cases a <;> cases b <;> simp [apNm] at h
  exact ⟨_, _, rfl, rfl, h.symm⟩
theorem kL_same {ks a : List Nat} {l : Leaf} (h : lfNm l = some a) (hd : ∀ x ∈ a, x ∉ ks) : kL ks l = l := by
  cases l <;> simp only [lfNm, Option.some.injEq, reduceCtorEq] at h <;> try rfl
  all_goals subst h
  all_goals simp only [kL]
  · rw [if_neg (by simpa using hd)]
  · rw [if_neg (by simpa using hd)]
  · rw [if_neg (by simpa using hd)]
  · rw [if_neg (by simpa using hd)]
  · rw [if_neg (by simpa using hd)]
theorem kLs_same {ks : List Nat} : ∀ {ls : List Leaf} {a : List Nat}, lsNm ls = some a → (∀ x ∈ a, x ∉ ks) → ls.map (kL ks) = ls
  | [], _, _, _ => rfl
  | l :: ls, a, h, hd => by
    obtain ⟨x, y, h1, h2, rfl⟩ := apNm_some h
    rw [List.map_cons, kL_same h1 fun z hz => hd z (List.mem_append_left _ hz), kLs_same h2 fun z hz => hd z (List.mem_append_right _ hz)]
theorem kTs_same {ks : List Nat} : ∀ {xs : List (Bool × List Leaf)} {a : List Nat}, tpNm xs = some a → (∀ x ∈ a, x ∉ ks) → xs.map (fun x => (x.1, x.2.map (kL ks))) = xs
  | [], _, _, _ => rfl
  | l :: ls, a, h, hd => by
    obtain ⟨x, y, h1, h2, rfl⟩ := apNm_some h
    rw [List.map_cons, kLs_same h1 fun z hz => hd z (List.mem_append_left _ hz), kTs_same h2 fun z hz => hd z (List.mem_append_right _ hz)]
theorem kS_same {ks l : List Nat} {s : Slot} (h : NmS l s) (hd : ∀ x ∈ l, x ∉ ks) : kS ks s = s := by
  obtain ⟨a, h1, h2⟩ := h
  have hd' : ∀ x ∈ a, x ∉ ks := fun x hx => hd x (h2 x hx)
  cases s with
  | one x => simp only [kS]; rw [kL_same h1 hd']
  | agg x => simp only [kS]; rw [kLs_same h1 hd']
  | tup x => simp only [kS]; rw [kTs_same h1 hd']
  | bad => rfl
theorem kO_same {ks l : List Nat} {s : Ob} (h : NmO l s) (hd : ∀ x ∈ l, x ∉ ks) : kO ks s = s := by
  obtain ⟨a, h1, h2⟩ := h
  have hd' : ∀ x ∈ a, x ∉ ks := fun x hx => hd x (h2 x hx)
  cases s with
  | box x => simp only [kO]; rw [kLs_same h1 hd']
  | reg E sz rows hs => cases hs with
    | nil => rfl
    | cons => cases h1
  | _ => rfl
theorem kL_back {ks a : List Nat} {l : Leaf} (h : lfNm (kL ks l) = some a) : kL ks l = l := by
  cases l with
  | own o x y => by_cases hk : ks.contains o = true
                 · rw [show kL ks (.own o x y) = .bad from if_pos hk] at h; cases h
                 · exact if_neg hk
  | ptr o x => by_cases hk : ks.contains o = true
               · rw [show kL ks (.ptr o x) = .bad from if_pos hk] at h; cases h
               · exact if_neg hk
  | elm o x y => by_cases hk : ks.contains o = true
                 · rw [show kL ks (.elm o x y) = .bad from if_pos hk] at h; cases h
                 · exact if_neg hk
  | mp o => by_cases hk : ks.contains o = true
            · rw [show kL ks (.mp o) = .bad from if_pos hk] at h; cases h
            · exact if_neg hk
  | clo f os => by_cases hk : os.any ks.contains = true
                · rw [show kL ks (.clo f os) = .bad from if_pos hk] at h; cases h
                · exact if_neg hk
  | _ => rfl
theorem kLs_back {ks : List Nat} : ∀ {ls : List Leaf} {a : List Nat}, lsNm (ls.map (kL ks)) = some a → ls.map (kL ks) = ls
  | [], _, _ => rfl
  | l :: ls, a, h => by
    obtain ⟨x, y, h1, h2, rfl⟩ := apNm_some (show apNm (lfNm (kL ks l)) (lsNm (ls.map (kL ks))) = some a from h)
    rw [List.map_cons, kL_back h1, kLs_back h2]
theorem kTs_back {ks : List Nat} : ∀ {xs : List (Bool × List Leaf)} {a : List Nat}, tpNm (xs.map (fun x => (x.1, x.2.map (kL ks)))) = some a → xs.map (fun x => (x.1, x.2.map (kL ks))) = xs
  | [], _, _ => rfl
  | l :: ls, a, h => by
    obtain ⟨x, y, h1, h2, rfl⟩ := apNm_some (show apNm (lsNm (l.2.map (kL ks))) (tpNm (ls.map fun x => (x.1, x.2.map (kL ks)))) = some a from h)
    rw [List.map_cons, kLs_back h1, kTs_back h2]
theorem kS_back {ks l : List Nat} {s : Slot} (h : NmS l (kS ks s)) : kS ks s = s := by
  obtain ⟨a, h1, _⟩ := h
  cases s with
  | one x => simp only [kS] at h1 ⊢; rw [kL_back h1]
  | agg x => simp only [kS] at h1 ⊢; rw [kLs_back h1]
  | tup x => simp only [kS] at h1 ⊢; rw [kTs_back h1]
  | bad => rfl
theorem kO_back {ks l : List Nat} {s : Ob} (h : NmO l (kO ks s)) : kO ks s = s := by
  obtain ⟨a, h1, _⟩ := h
  cases s with
  | box x => simp only [kO] at h1 ⊢; rw [kLs_back h1]
  | reg E sz rows hs => cases hs with
    | nil => rfl
    | cons => cases h1
  | _ => rfl
theorem kL_comm (ks ks' : List Nat) (l : Leaf) : kL ks (kL ks' l) = kL ks' (kL ks l) := by
  cases l with
  | own o x y => simp only [kL]; by_cases h : ks.contains o = true <;> by_cases h' : ks'.contains o = true <;> simp only [h, h', if_true, if_false, kL, Bool.false_eq_true]
  | ptr o x => simp only [kL]; by_cases h : ks.contains o = true <;> by_cases h' : ks'.contains o = true <;> simp only [h, h', if_true, if_false, kL, Bool.false_eq_true]
  | elm o x y => simp only [kL]; by_cases h : ks.contains o = true <;> by_cases h' : ks'.contains o = true <;> simp only [h, h', if_true, if_false, kL, Bool.false_eq_true]
  | mp o => simp only [kL]; by_cases h : ks.contains o = true <;> by_cases h' : ks'.contains o = true <;> simp only [h, h', if_true, if_false, kL, Bool.false_eq_true]
  | clo f os => simp only [kL]; by_cases h : os.any ks.contains = true <;> by_cases h' : os.any ks'.contains = true <;> simp only [h, h', if_true, if_false, kL, Bool.false_eq_true]
  | _ => rfl
theorem kS_comm (ks ks' : List Nat) (s : Slot) : kS ks (kS ks' s) = kS ks' (kS ks s) := by
  cases s with
  | one x => simp only [kS]; rw [kL_comm]
  | agg x => simp only [kS, List.map_map]; congr 1; exact List.map_congr_left fun l _ => kL_comm ks ks' l
  | tup x => simp only [kS, List.map_map]; congr 1; exact List.map_congr_left fun l _ => by simp only [Function.comp, List.map_map]; congr 1; exact List.map_congr_left fun l _ => kL_comm ks ks' l
  | bad => rfl
theorem kO_comm (ks ks' : List Nat) (s : Ob) : kO ks (kO ks' s) = kO ks' (kO ks s) := by
  cases s with
  | box x => simp only [kO, List.map_map]; congr 1; exact List.map_congr_left fun l _ => kL_comm ks ks' l
  | reg E sz rows hs => simp only [kO, List.map_map]; congr 1; exact List.map_congr_left fun l _ => by simp only [Function.comp]; rw [kL_comm]
  | _ => rfl
def NmOk (S : St) (o : Oper) (s : Stp) : Prop := ∀ l, s.nm = some l →
  (s.e.isSome = true → (∀ x, x ∈ o.op.operands → NmS l (ev S x)) ∧ ∀ r, r ∈ s.rd → ∀ ob, S.obj r = some ob → NmO l ob) ∧ NmS l s.eff.dst ∧ ∀ p ∈ s.eff.sets, NmO l p.2
def StepOk (P : Program) (ops : Array Oper) (S : St) (s : Stp) : Prop :=
  ∃ o, ops[s.i]? = some o ∧ guardOn ops S o = some s.e.isSome ∧ NmOk S o s ∧ s.eff.sets.map (·.1) = s.tw ∧ ∀ e, s.e = some e → OpW P S o s.rd (fun x => x = e)
def stApp (ops : Array Oper) (S : St) (s : Stp) : St := S.app ((ops[s.i]?).bind (·.dst)) s.eff
inductive Can (P : Program) (ops : Array Oper) : St → List Stp → St → Prop
  | nil {S : St} : Can P ops S [] S
  | cons {S Sf : St} {s : Stp} {l : List Stp} (h : StepOk P ops S s) (k : Can P ops (stApp ops S s) l Sf) : Can P ops S (s :: l) Sf
def kOk (ks : List Nat) (rd tw : List Nat) (nm : Option (List Nat)) : Bool :=
  match ks with
  | [] => true
  | k :: ks => match nm with
    | none => false
    | some l => l.all (fun q => !(k :: ks).contains q) && (rd.all (fun q => !(k :: ks).contains q) && tw.all (fun q => !(k :: ks).contains q))
theorem kOk_ok {ks rd tw : List Nat} {nm : Option (List Nat)} (h : kOk ks rd tw nm = true) : ks = [] ∨ ∃ l, nm = some l ∧ (∀ x ∈ l, x ∉ ks) ∧ (∀ x ∈ rd, x ∉ ks) ∧ ∀ x ∈ tw, x ∉ ks := by
  cases ks with
  | nil => exact .inl rfl
  | cons k ks =>
    cases nm with
    | none => cases h
    | some l =>
      simp only [kOk, Bool.and_eq_true, List.all_eq_true, Bool.not_eq_true', List.contains_eq_mem, decide_eq_false_iff_not] at h
      exact .inr ⟨l, rfl, h.1, h.2.1, h.2.2⟩
def comm (ops : Array Oper) (x y : Stp) : Bool :=
  match ops[x.i]?, ops[y.i]? with
  | some ox, some oy => ox.apart ops oy && x.tw.all (fun q => !y.rd.contains q && !y.tw.contains q) && y.tw.all (fun q => !x.rd.contains q) && (kOk x.eff.kills y.rd y.tw y.nm && kOk y.eff.kills x.rd x.tw x.nm)
  | _, _ => false
theorem sets_obj (l : List (Nat × Ob)) (S : St) {q : Nat} (h : q ∉ l.map (·.1)) : (S.sets l).obj q = S.obj q := by
  induction l with
  | nil => rfl
  | cons p l ih =>
    obtain ⟨o, ob⟩ := p
    simp at h
    show (if q = o then some ob else (S.sets l).obj q) = _
    rw [if_neg h.1]
    exact ih (by simpa using h.2)
theorem sets_inK {q : Nat} : ∀ {l : List (Nat × Ob)}, q ∈ l.map (·.1) → ∃ ob, (q, ob) ∈ l ∧ ∀ S : St, (S.sets l).obj q = some ob
  | [], h => by simp at h
  | (o, ob) :: l, h => by
    by_cases hq : q = o
    · subst hq; exact ⟨ob, by simp, fun S => if_pos rfl⟩
    · simp [hq] at h
      obtain ⟨ob', h1, h2⟩ := sets_inK (l := l) (by simpa using h)
      exact ⟨ob', by simp [h1], fun S => (if_neg hq).trans (h2 S)⟩
theorem put_slot (S : St) (d : Option Nat) (s : Slot) (t : Nat) : (S.put d s).slot t = if d = some t then s else S.slot t := by
  cases d with
  | none => simp [St.put]
  | some d =>
    show (if t = d then s else S.slot t) = _
    by_cases h : t = d
    · subst h; simp
    · rw [if_neg h, if_neg (by intro e; cases e; exact h rfl)]
theorem put_obj (S : St) (d : Option Nat) (s : Slot) : (S.put d s).obj = S.obj := by cases d <;> rfl
theorem app_slotK (S : St) (d : Option Nat) (e : Eff) (t : Nat) : (S.app d e).slot t = if d = some t then e.dst else kS e.kills (S.slot t) := by
  unfold St.app
  rw [put_slot, sets_slot, kill_slot]
theorem app_objK (S : St) (d : Option Nat) (e : Eff) {q : Nat} (h : q ∉ e.sets.map (·.1)) : (S.app d e).obj q = if e.kills.contains q then none else (S.obj q).map (kO e.kills) := by
  unfold St.app
  rw [put_obj, sets_obj _ _ h, kill_obj]
theorem app_slot (S : St) (d : Option Nat) (e : Eff) (hk : e.kills = []) (t : Nat) : (S.app d e).slot t = if d = some t then e.dst else S.slot t := by
  rw [app_slotK, hk, kS_nil]
theorem app_obj (S : St) (d : Option Nat) (e : Eff) (hk : e.kills = []) (q : Nat) : (S.app d e).obj q = (S.sets e.sets).obj q := by
  unfold St.app
  rw [put_obj, hk]; rfl
def KOk (ks : List Nat) (e : Eff) : Prop := kS ks e.dst = e.dst ∧ (∀ p ∈ e.sets, kO ks p.2 = p.2) ∧ ∀ q ∈ e.sets.map (·.1), q ∉ ks
theorem KOk.nil (e : Eff) : KOk [] e := ⟨kS_nil _, fun _ _ => kO_nil _, fun _ _ => by simp⟩
theorem app_comm (S : St) {d d' : Option Nat} {e e' : Eff} (hk : KOk e.kills e') (hk' : KOk e'.kills e) (hd : ∀ t, d = some t → d' ≠ some t) (hs : ∀ q, q ∈ e.sets.map (·.1) → q ∉ e'.sets.map (·.1)) :
    (S.app d e).app d' e' = (S.app d' e').app d e := by
  have h1 : ((S.app d e).app d' e').slot = ((S.app d' e').app d e).slot := by
    funext t
    rw [app_slotK, app_slotK, app_slotK, app_slotK]
    by_cases h : d = some t
    · rw [if_pos h, if_pos h, if_neg (hd t h), hk'.1]
    · rw [if_neg h, if_neg h]
      by_cases h' : d' = some t
      · rw [if_pos h', if_pos h', hk.1]
      · rw [if_neg h', if_neg h', kS_comm]
  have h2 : ((S.app d e).app d' e').obj = ((S.app d' e').app d e).obj := by
    funext q
    by_cases h : q ∈ e.sets.map (·.1)
    · have h' := hs q h
      obtain ⟨ob, o1, o2⟩ := sets_inK h
      have e1 : ∀ X : St, (X.app d e).obj q = some ob := fun X => by unfold St.app; rw [put_obj]; exact o2 _
      rw [e1, app_objK _ _ _ h', e1, if_neg (by simpa using hk'.2.2 q h), Option.map_some, hk'.2.1 _ o1]
    · by_cases h' : q ∈ e'.sets.map (·.1)
      · obtain ⟨ob, o1, o2⟩ := sets_inK h'
        have e1 : ∀ X : St, (X.app d' e').obj q = some ob := fun X => by unfold St.app; rw [put_obj]; exact o2 _
        rw [e1, app_objK _ _ _ h, e1, if_neg (by simpa using hk.2.2 q h'), Option.map_some, hk.2.1 _ o1]
      · rw [app_objK _ _ _ h', app_objK _ _ _ h, app_objK _ _ _ h, app_objK _ _ _ h']
        by_cases c : e.kills.contains q = true <;> by_cases c' : e'.kills.contains q = true <;> simp only [c, c', if_true, if_false, Option.map_none, Bool.false_eq_true]
        cases S.obj q with
        | none => rfl
        | some ob => simp only [Option.map_some]; rw [kO_comm]
  cases h3 : (S.app d e).app d' e' with
  | mk a b =>
    cases h4 : (S.app d' e').app d e with
    | mk a' b' => rw [h3, h4] at h1 h2; simp at h1 h2; rw [h1, h2]
section
variable {P : Program} {n : Nat} {S Sf : St} {Q : Post} {ops : Array Oper}
theorem opW_congr {S S' : St} {o : Oper} {rd : List Nat} {E : Eff → Prop} (h : OpW P S o rd E) (h1 : ∀ x, x ∈ o.op.operands → ev S' x = ev S x) (h2 : ∀ r, r ∈ rd → S'.obj r = S.obj r) : OpW P S' o rd E :=
  fun S'' k1 k2 => h S'' (fun x hx => (k1 x hx).trans (h1 x hx)) (fun r hr => (k2 r hr).trans (h2 r hr))
theorem looks_op {o : Oper} {t : Nat} (h : Operand.tmp t ∈ o.op.operands) : t ∈ o.looksAt ops := by
  unfold Oper.looksAt
  refine List.mem_append.2 (.inl (List.mem_filterMap.2 ⟨.tmp t, Array.mem_toList_iff.2 h, rfl⟩))
theorem looks_guard {o : Oper} {j : Nat} {w : Bool} {t : Nat} (hg : o.guard = some (j, w)) (hj : (ops[j]?).bind (·.dst) = some t) : t ∈ o.looksAt ops := by
  unfold Oper.looksAt
  refine List.mem_append.2 (.inr ?_)
  rw [hg]
  simp only [hj]
  exact List.mem_singleton.2 rfl
def gSlot (want : Bool) : Slot → Option Bool
  | .one (.g (.bool b)) => some (b == want)
  | .tup [] => some false
  | _ => none
theorem guardOn_some {o : Oper} {j : Nat} {want : Bool} {t : Nat} (h : o.guard = some (j, want)) (ht : (ops[j]?).bind (·.dst) = some t) : guardOn ops S o = gSlot want (S.slot t) := by
  unfold guardOn
  rw [h]
  simp only [ht]
  unfold gSlot
  rfl
theorem gSlot_kill (want : Bool) (ks : List Nat) (s : Slot) : gSlot want (kS ks s) = gSlot want s := by
  cases s with
  | one l =>
    cases l with
    | own o x y => simp only [kS, kL]; split <;> rfl
    | ptr o x => simp only [kS, kL]; split <;> rfl
    | elm o x y => simp only [kS, kL]; split <;> rfl
    | mp o => simp only [kS, kL]; split <;> rfl
    | clo f os => simp only [kS, kL]; split <;> rfl
    | _ => rfl
  | agg ls => rfl
  | tup xs => cases xs <;> rfl
  | bad => rfl
theorem guard_kill {S S' : St} {o : Oper} {d : Option Nat} {ks : List Nat} (hs : ∀ t, d ≠ some t → S'.slot t = kS ks (S.slot t)) (hl : ∀ t, d = some t → t ∉ o.looksAt ops) : guardOn ops S' o = guardOn ops S o := by
  rcases hg : o.guard with _ | ⟨j, want⟩
  · simp only [guardOn, hg]
  · rcases hj : (ops[j]?).bind (·.dst) with _ | t
    · simp only [guardOn, hg, hj]
    · rw [guardOn_some hg hj, guardOn_some hg hj, hs t fun e => hl t e (looks_guard hg hj), gSlot_kill]
theorem stepOk_eq {S S' : St} {s : Stp} (h : StepOk P ops S s) (hg : ∀ o, ops[s.i]? = some o → guardOn ops S' o = guardOn ops S o) (he : ∀ o, ops[s.i]? = some o → s.e.isSome = true → ∀ x, x ∈ o.op.operands → ev S' x = ev S x)
    (ho : s.e.isSome = true → ∀ r, r ∈ s.rd → S'.obj r = S.obj r) : StepOk P ops S' s := by
  obtain ⟨o, hi, hgo, hk, htw, hop⟩ := h
  refine ⟨o, hi, (hg o hi).trans hgo, fun l hl => ⟨fun hs => ⟨fun x hx => ?_, fun r hr ob hb => ?_⟩, (hk l hl).2⟩, htw, fun e h => opW_congr (hop e h) (he o hi (by rw [h]; rfl)) (ho (by rw [h]; rfl))⟩
  · rw [he o hi hs x hx]; exact ((hk l hl).1 hs).1 x hx
  · rw [ho hs r hr] at hb; exact ((hk l hl).1 hs).2 r hr ob hb
theorem ev_kill {S S' : St} {d : Option Nat} {ks : List Nat} {o : Oper} {x : Operand} (hx : x ∈ o.op.operands) (hs : ∀ t, d ≠ some t → S'.slot t = kS ks (S.slot t)) (hl : ∀ t, d = some t → t ∉ o.looksAt ops) :
    ev S' x = ev S x ∨ ev S' x = kS ks (ev S x) := by
  cases x with
  | tmp t => exact .inr (hs t fun e => hl t e (looks_op hx))
  | _ => exact .inl rfl
theorem stepOk_congr {S S' : St} {s : Stp} {d : Option Nat} {ks : List Nat} (h : StepOk P ops S s) (hs : ∀ t, d ≠ some t → S'.slot t = kS ks (S.slot t)) (hl : ∀ o, ops[s.i]? = some o → ∀ t, d = some t → t ∉ o.looksAt ops)
    (ho : ∀ r, r ∈ s.rd → S'.obj r = (S.obj r).map (kO ks)) (hk : ks = [] ∨ ∃ l, s.nm = some l ∧ ∀ x ∈ l, x ∉ ks) : StepOk P ops S' s := by
  have h0 := h
  obtain ⟨o, hi, _, hnm, _, _⟩ := h
  refine stepOk_eq h0 (fun o ho => guard_kill hs (hl o ho)) (fun o' ho' hsome x hx => ?_) (fun hsome r hr => ?_)
  · rw [hi] at ho'; cases ho'
    rcases ev_kill hx hs (hl _ hi) with e | e
    · exact e
    · rw [e]
      rcases hk with rfl | ⟨l, hl1, hl2⟩
      · exact kS_nil _
      · exact kS_same (((hnm l hl1).1 hsome).1 x hx) hl2
  · rw [ho r hr]
    cases hb : S.obj r with
    | none => rfl
    | some ob =>
      rw [Option.map_some]
      congr 1
      rcases hk with rfl | ⟨l, hl1, hl2⟩
      · exact kO_nil _
      · exact kO_same (((hnm l hl1).1 hsome).2 r hr ob hb) hl2
theorem stepOk_back {S S' : St} {s : Stp} {d : Option Nat} {ks : List Nat} (h : StepOk P ops S' s) (hs : ∀ t, d ≠ some t → S'.slot t = kS ks (S.slot t)) (hl : ∀ o, ops[s.i]? = some o → ∀ t, d = some t → t ∉ o.looksAt ops)
    (ho : ∀ r, r ∈ s.rd → S'.obj r = (S.obj r).map (kO ks)) (hk : ks = [] ∨ ∃ l, s.nm = some l) : StepOk P ops S s := by
  have h0 := h
  obtain ⟨o, hi, _, hnm, _, _⟩ := h
  refine stepOk_eq h0 (fun o ho => (guard_kill hs (hl o ho)).symm) (fun o' ho' hsome x hx => ?_) (fun hsome r hr => ?_)
  · rw [hi] at ho'; cases ho'
    rcases ev_kill hx hs (hl _ hi) with e | e
    · exact e.symm
    · rcases hk with rfl | ⟨l, hl1⟩
      · rw [e, kS_nil]
      · have := ((hnm l hl1).1 hsome).1 x hx
        rw [e] at this ⊢
        exact (kS_back this).symm
  · cases hb : S.obj r with
    | none => rw [ho r hr, hb]; rfl
    | some ob =>
      have hb' := ho r hr
      rw [hb, Option.map_some] at hb'
      rw [hb']
      congr 1
      rcases hk with rfl | ⟨l, hl1⟩
      · exact (kO_nil _).symm
      · exact (kO_back (((hnm l hl1).1 hsome).2 r hr _ hb')).symm
theorem kok_of {ks : List Nat} {S : St} {o : Oper} {s : Stp} (hnm : NmOk S o s) (htw : s.eff.sets.map (·.1) = s.tw) (h : ks = [] ∨ ∃ l, s.nm = some l ∧ (∀ x ∈ l, x ∉ ks) ∧ (∀ x ∈ s.rd, x ∉ ks) ∧ ∀ x ∈ s.tw, x ∉ ks) : KOk ks s.eff := by
  rcases h with rfl | ⟨l, h1, h2, _, h4⟩
  · exact .nil _
  · exact ⟨kS_same (hnm l h1).2.1 h2, fun p hp => kO_same ((hnm l h1).2.2 p hp) h2, fun q hq => h4 q (htw ▸ hq)⟩
theorem obj_kill {S : St} {d : Option Nat} {e : Eff} {r : Nat} (h1 : r ∉ e.sets.map (·.1)) (h : r ∉ e.kills) : (S.app d e).obj r = (S.obj r).map (kO e.kills) := by
  rw [app_objK _ _ _ h1, if_neg (by simpa using h)]
theorem swap {x y : Stp} (hc : comm ops x y = true) (hx : StepOk P ops S x) (hy : StepOk P ops (stApp ops S x) y) :
    StepOk P ops S y ∧ StepOk P ops (stApp ops S y) x ∧ stApp ops (stApp ops S x) y = stApp ops (stApp ops S y) x := by
  have hx0 := hx
  have hy0 := hy
  obtain ⟨ox, hix, _, hkx, htx, _⟩ := hx0
  obtain ⟨oy, hiy, _, hky, hty, _⟩ := hy0
  unfold comm at hc
  rw [hix, hiy] at hc
  simp only [Bool.and_eq_true, List.all_eq_true, Bool.not_eq_true', List.contains_eq_mem, decide_eq_false_iff_not] at hc
  obtain ⟨⟨⟨ha, hq1⟩, hq2⟩, hc1, hc2⟩ := hc
  have hc1 := kOk_ok hc1
  have hc2 := kOk_ok hc2
  obtain ⟨a1, a2, a3⟩ := Oper.apart_spec ha
  have ex : stApp ops S x = S.app ox.dst x.eff := by simp [stApp, hix]
  have ey : stApp ops S y = S.app oy.dst y.eff := by simp [stApp, hiy]
  have hSy : StepOk P ops S y := by
    refine stepOk_back (d := ox.dst) (ks := x.eff.kills) hy (fun t ht => ?_) (fun o ho t ht => ?_) (fun r hr => ?_) ?_
    · rw [ex, app_slotK, if_neg ht]
    · rw [hiy] at ho; cases ho; exact a1 t ht
    · rw [ex]
      refine obj_kill (by rw [htx]; exact fun h => (hq1 r h).1 hr) ?_
      rcases hc1 with h | ⟨l, _, _, h, _⟩
      · rw [h]; simp
      · exact h r hr
    · rcases hc1 with h | ⟨l, h, _⟩
      · exact .inl h
      · exact .inr ⟨l, h⟩
  refine ⟨hSy, ?_, ?_⟩
  · refine stepOk_congr (d := oy.dst) (ks := y.eff.kills) hx (fun t ht => ?_) (fun o ho t ht => ?_) (fun r hr => ?_) ?_
    · rw [ey, app_slotK, if_neg ht]
    · rw [hix] at ho; cases ho; exact a3 t ht
    · rw [ey]
      refine obj_kill (by rw [hty]; exact fun h => hq2 r h hr) ?_
      rcases hc2 with h | ⟨l, _, _, h, _⟩
      · rw [h]; simp
      · exact h r hr
    · rcases hc2 with h | ⟨l, h, h2, _⟩
      · exact .inl h
      · exact .inr ⟨l, h, h2⟩
  · rw [ex, ey]
    simp only [stApp, hix, hiy, Option.bind_some]
    exact app_comm S (kok_of hky hty hc1) (kok_of hkx htx hc2) (fun t ht => a2 t ht) (fun q hq => by rw [hty]; rw [htx] at hq; exact (hq1 q hq).2)
theorem bubble {y : Stp} {post : List Stp} : ∀ {pre : List Stp} {S : St}, Can P ops S (pre ++ y :: post) Sf → (∀ x ∈ pre, comm ops x y = true) →
    StepOk P ops S y ∧ Can P ops (stApp ops S y) (pre ++ post) Sf
  | [], S, h, _ => by cases h with | cons h k => exact ⟨h, k⟩
  | x :: pre, S, h, hc => by
    cases h with
    | cons h k =>
      obtain ⟨h1, h2⟩ := bubble k fun z hz => hc z (by simp [hz])
      obtain ⟨h3, h4, h5⟩ := swap (hc x (by simp)) h h1
      exact ⟨h3, .cons h4 (by rw [← h5]; exact h2)⟩
def clOk (ops : Array Oper) (cl : Nat → List Nat) : Bool :=
  (List.range ops.size).all fun i => match ops[i]? with
    | some o => (o.after.toList.all fun e => !Region.binds .any e || Nat.blt e.on i) && (cl i).all fun j => o.after.toList.any fun e => Region.binds .any e && (e.on == j || (cl e.on).contains j)
    | none => false
def pairsOk (ops : Array Oper) (cl : Nat → List Nat) : List Stp → Bool
  | [] => true
  | x :: l => (l.all fun y => (cl y.i).contains x.i || comm ops x y) && pairsOk ops cl l
theorem pairs_pw {cl : Nat → List Nat} : ∀ {l : List Stp}, pairsOk ops cl l = true → l.Pairwise fun x y => x.i ∈ cl y.i ∨ comm ops x y = true
  | [], _ => .nil
  | x :: l, h => by
    simp only [pairsOk, Bool.and_eq_true, List.all_eq_true, Bool.or_eq_true, List.contains_eq_mem, decide_eq_true_eq] at h
    exact .cons h.1 (pairs_pw h.2)
theorem getD_listed {listed : Array Bool} {i : Nat} (h : i < listed.size) (d d' : Bool) : listed.getD i d = listed.getD i d' := by
  simp [Array.getD, h]
theorem ready_mem {listed : Array Bool} {i : Nat} : i ∈ Region.ready .any ops listed ↔ i < ops.size ∧ listed.getD i true = false ∧ ∃ o, ops[i]? = some o ∧ ∀ e ∈ o.after.toList, Region.binds .any e = true → listed.getD e.on false = true := by
  unfold Region.ready
  rw [List.mem_filter, List.mem_range]
  constructor
  · rintro ⟨h1, h2⟩
    simp only [Bool.and_eq_true, Bool.not_eq_true'] at h2
    refine ⟨h1, h2.1, ?_⟩
    cases ho : ops[i]? with
    | none => rw [ho] at h2; simp at h2
    | some o =>
      rw [ho] at h2
      refine ⟨o, rfl, fun e he hb => ?_⟩
      have h3 := h2.2
      simp only [Option.map_some, Option.getD_some] at h3
      rw [← Array.all_toList, List.all_eq_true] at h3
      have := h3 e he
      rw [hb] at this
      simpa using this
  · rintro ⟨h1, h2, o, ho, h3⟩
    refine ⟨h1, ?_⟩
    rw [h2, ho]
    simp only [Bool.not_false, Bool.true_and, Option.map_some, Option.getD_some]
    rw [← Array.all_toList, List.all_eq_true]
    intro e he
    cases hb : Region.binds .any e with
    | false => rfl
    | true => simpa using h3 e he hb
end
end Go.Vl
namespace Go.Vl
open Go Go.RowKit
def addN (l : List Nat) (x : Nat) : List Nat := if l.contains x then l else x :: l
def clTab : List Oper → List (List Nat) → List (List Nat)
  | [], t => t
  | o :: l, t => clTab l (t ++ [o.after.toList.foldl (fun acc e => if Region.binds .any e then ((t[e.on]?).getD []).foldl addN (addN acc e.on) else acc) []])
def clOf (ops : Array Oper) (i : Nat) : List Nat := ((clTab ops.toList [])[i]?).getD []
end Go.Vl
namespace Go.Vl
open Go Go.RowKit
theorem put_same {S : St} {t : Nat} {b b' : Bool} (h : S.slot t = .one (.g (.bool b))) (hb : b = b') : S.put (some t) (.one (.g (.bool b'))) = S := by
  subst hb
  cases S with
  | mk sl ob =>
    simp only [St.put]
    congr 1
    funext x
    split
    · rename_i e; subst e; exact h.symm
    · rfl
section
variable {P : Program} {T : Tab} {n : Nat} {S Sf : St} {ops : Array Oper}
def alk {α : Type} : List (Nat × α) → Nat → Option α
  | [], _ => none
  | (k, a) :: l, t => if t = k then some a else alk l t
def stOf (ts : List (Nat × Slot)) (os : List (Nat × Ob)) : St := ⟨fun t => (alk ts t).getD .bad, alk os⟩
def covT (S : St) (ρ : Nat → Option Nat) : List (Nat × Slot) → Prop
  | [] => True
  | (t, s) :: l => rnS ρ (S.slot t) = s ∧ covT S ρ l
def covO (S : St) (ρ : Nat → Option Nat) : List (Nat × Nat) → List (Nat × Ob) → Prop
  | [], [] => True
  | (o, k) :: m, (k', ob) :: os => k = k' ∧ (∃ ob0, S.obj o = some ob0 ∧ rnO ρ ob0 = ob) ∧ covO S ρ m os
  | _, _ => False
def mOk (m : List (Nat × Nat)) : Bool := m.all (fun p => p.1 == p.2 || (Nat.ble 100 p.1 && Nat.ble 100 p.2))
def nodupB : List Nat → Bool
  | [] => true
  | x :: l => !l.contains x && nodupB l
theorem nodupB_ok : ∀ {l : List Nat}, nodupB l = true → l.Nodup
  | [], _ => .nil
  | x :: l, h => by
    simp only [nodupB, Bool.and_eq_true, Bool.not_eq_true', List.contains_eq_mem, decide_eq_false_iff_not] at h
    exact List.nodup_cons.2 ⟨h.1, nodupB_ok h.2⟩
theorem alk_mem {α : Type} : ∀ {l : List (Nat × α)} {t : Nat} {a : α}, alk l t = some a → (t, a) ∈ l
  | [], _, _, h => by simp [alk] at h
  | (k, x) :: l, t, a, h => by
    unfold alk at h
    split at h
    · rename_i e; cases h; subst e; simp
    · exact List.mem_cons_of_mem _ (alk_mem h)
theorem alk_of {α : Type} : ∀ {l : List (Nat × α)} {t : Nat} {a : α}, (l.map (·.1)).Nodup → (t, a) ∈ l → alk l t = some a
  | [], _, _, _, h => by simp at h
  | (k, x) :: l, t, a, hn, h => by
    simp only [List.map_cons, List.nodup_cons] at hn
    unfold alk
    rcases List.mem_cons.1 h with h | h
    · cases h; simp
    · have : t ≠ k := fun e => hn.1 (List.mem_map.2 ⟨(t, a), h, e⟩)
      rw [if_neg this]
      exact alk_of hn.2 h
theorem covT_at {ρ : Nat → Option Nat} : ∀ {ts : List (Nat × Slot)}, covT S ρ ts → ∀ t s, (t, s) ∈ ts → rnS ρ (S.slot t) = s
  | [], _, _, _, h => by simp at h
  | (k, x) :: l, hc, t, s, h => by
    rcases List.mem_cons.1 h with h | h
    · cases h; exact hc.1
    · exact covT_at hc.2 t s h
theorem covO_at {ρ : Nat → Option Nat} : ∀ {m : List (Nat × Nat)} {os : List (Nat × Ob)}, covO S ρ m os → os.map (·.1) = m.map (·.2) ∧ (∀ k ob, (k, ob) ∈ os → ∃ o, (o, k) ∈ m ∧ ∃ ob0, S.obj o = some ob0 ∧ rnO ρ ob0 = ob) ∧
    ∀ o k, (o, k) ∈ m → ∃ ob0, S.obj o = some ob0 ∧ (k, rnO ρ ob0) ∈ os
  | [], [], _ => by simp
  | [], _ :: _, h => h.elim
  | _ :: _, [], h => h.elim
  | (o, k) :: m, (k', ob) :: os, h => by
    obtain ⟨rfl, ⟨ob0, h1, h2⟩, h3⟩ := h
    obtain ⟨e1, e2, e3⟩ := covO_at h3
    refine ⟨by simp [e1], fun k2 ob2 hm => ?_, fun o2 k2 hm => ?_⟩
    · rcases List.mem_cons.1 hm with hm | hm
      · cases hm; exact ⟨o, by simp, ob0, h1, h2⟩
      · obtain ⟨o3, h4, h5⟩ := e2 k2 ob2 hm; exact ⟨o3, by simp [h4], h5⟩
    · rcases List.mem_cons.1 hm with hm | hm
      · cases hm; exact ⟨ob0, h1, by simp [h2]⟩
      · obtain ⟨ob3, h4, h5⟩ := e3 o2 k2 hm; exact ⟨ob3, h4, by simp [h5]⟩
theorem wk_to (m : List (Nat × Nat)) {ts : List (Nat × Slot)} {os : List (Nat × Ob)} (h1 : mOk m = true) (h2 : nodupB (m.map (·.1)) = true) (h3 : nodupB (m.map (·.2)) = true)
    (hT : covT S (alk m) ts) (hO : covO S (alk m) m os) : Wk n S (stOf ts os) := by
  intro C B a w hn hR
  have hn1 := nodupB_ok h2
  have hn2 := nodupB_ok h3
  obtain ⟨e1, e2, e3⟩ := covO_at hO
  have hn3 : (os.map (·.1)).Nodup := by rw [e1]; exact hn2
  have hm1 : ∀ o k, (o, k) ∈ m → o = k ∨ (100 ≤ o ∧ 100 ≤ k) := by
    intro o k hm
    unfold mOk at h1
    rw [List.all_eq_true] at h1
    have := h1 (o, k) hm
    simpa [Bool.or_eq_true] using this
  have fn : ∀ o k k', (o, k) ∈ m → (o, k') ∈ m → k = k' := fun o k k' ha hb => Option.some.inj ((alk_of hn1 ha).symm.trans (alk_of hn1 hb))
  have hsw : ((m.map fun p => (p.2, p.1)).map (·.1)).Nodup := by rw [List.map_map]; exact hn2
  have sw : ∀ o k, (o, k) ∈ m → alk (m.map fun p => (p.2, p.1)) k = some o := fun o k h => alk_of hsw (List.mem_map.2 ⟨_, h, rfl⟩)
  refine ⟨⟨fun k => (alk (m.map fun p => (p.2, p.1)) k).bind B.f, fun k => ((alk (m.map fun p => (p.2, p.1)) k).map B.z).getD fun _ => False⟩, ?_⟩
  generalize hB' : (⟨fun k => (alk (m.map fun p => (p.2, p.1)) k).bind B.f, fun k => ((alk (m.map fun p => (p.2, p.1)) k).map B.z).getD fun _ => False⟩ : Pl) = B'
  have hBk : ∀ o k, (o, k) ∈ m → B' k = B o := fun o k h => by rw [← hB']; simp [sw o k h]
  have hBz : ∀ o k, (o, k) ∈ m → B'.z k = B.z o := fun o k h => by rw [← hB']; simp [sw o k h]
  have hBO : ∀ o k, (o, k) ∈ m → ∀ b, Ow B' k b ↔ Ow B o b := fun o k h b => by unfold Ow; rw [hBk o k h, hBz o k h]
  have live : ∀ k ob, (stOf ts os).obj k = some ob → ∃ o, (o, k) ∈ m ∧ ∃ ob0, S.obj o = some ob0 ∧ rnO (alk m) ob0 = ob := fun k ob h => e2 k ob (alk_mem h)
  have live' : ∀ k, (stOf ts os).obj k ≠ none → ∃ o, (o, k) ∈ m ∧ S.obj o ≠ none := by
    intro k h
    obtain ⟨ob, hob⟩ := Option.ne_none_iff_exists'.1 h
    obtain ⟨o, h1, ob0, h2, _⟩ := live k ob hob
    exact ⟨o, h1, by simp [h2]⟩
  have hdep : ∀ b, dep C.din S B b → dep C.din (stOf ts os) B' b := by
    intro b h
    refine ⟨h.1, fun k hk hb => ?_⟩
    obtain ⟨o, hm, ho⟩ := live' k hk
    exact h.2 o ho ((hBO o k hm b).1 hb)
  have fwd : ∀ o k ob, alk m o = some k → S.obj o = some ob → B' k = B o ∧ ∃ ob', (stOf ts os).obj k = some ob' ∧ SameShape ob ob' := by
    intro o k ob hr ho
    have hm := alk_mem hr
    refine ⟨hBk o k hm, ?_⟩
    obtain ⟨ob0, h4, h5⟩ := e3 o k hm
    rw [ho] at h4; cases h4
    exact ⟨_, alk_of hn3 h5, rnO_shape _ _⟩
  have el : ∀ l v, LRep w C.din S B l v → LRep w C.din (stOf ts os) B' (rn (alk m) l) v := fun l v hl => LRep.rn (Nat.le_refl _) (fun _ _ _ => rfl) (fun b h _ => hdep b h) (fun o k ob hr ho => fwd o k ob hr ho) hl
  have er : ∀ l v, RepL w (dep C.din S B) l v → RepL w (dep C.din (stOf ts os) B') l v := fun l v hl => RepL_mono (Nat.le_refl _) (fun _ _ _ => rfl) (fun b h _ => hdep b h) l v hl
  have hk100 : ∀ o k, (o, k) ∈ m → k < C.k → o = k := by
    intro o k hm hk
    have := hR.klt
    rcases hm1 o k hm with h | h
    · exact h
    · omega
  refine ⟨hR.size, hR.defers, fun t => ?_, fun k ob hk => ?_, fun k k' b hk hk' hb hb' => ?_, fun k b hk hb => ?_, hR.frame, hR.dnew, fun k hlt hk => ?_, hR.klt, fun k ob hlt hk => ?_⟩
  · show SRep _ ((alk ts t).getD .bad) _
    cases hs : alk ts t with
    | none => trivial
    | some s =>
      rw [Option.getD_some, ← covT_at hT t s (alk_mem hs)]
      exact (hR.slots t).rnS el
  · obtain ⟨o, hm, ob0, h4, rfl⟩ := live k ob hk
    exact (hR.objs o ob0 h4).rnO (hBk o k hm) (hBz o k hm) el er fun _ _ => rfl
  · obtain ⟨o, hm, ho⟩ := live' k hk
    obtain ⟨o', hm', ho'⟩ := live' k' hk'
    have := hR.injO o o' b ho ho' ((hBO o k hm b).1 hb) ((hBO o' k' hm' b).1 hb')
    subst this
    exact fn o k k' hm hm'
  · obtain ⟨o, hm, ho⟩ := live' k hk
    exact hR.mineO o b ho ((hBO o k hm b).1 hb)
  · obtain ⟨o, hm, ho⟩ := live' k hk
    have := hk100 o k hm hlt
    subst this
    rw [hBk o o hm]; exact hR.keep o hlt ho
  · obtain ⟨o, hm, ob0, h4, rfl⟩ := live k ob hk
    have := hk100 o k hm hlt
    subst this
    obtain ⟨ob1, h5, h6⟩ := hR.shape o ob0 hlt h4
    exact ⟨ob1, h5, h6.trans (rnO_shape _ _)⟩
def pureQ (s : Slot) : Slot → List (Option Ob) → List Ob → Prop := fun s' o n => s' = s ∧ o = [] ∧ n = []
theorem o_pure {o : Oper} {F : Operand} {Xs : Array Operand} {ats : Array TypeId} (ho : o.op = .call { callee := .value F, args := Xs, argTypes := ats }) {f : FuncId} (hF : ev S F = .one (.clo f []))
    (hfree : S.obj 100000 = none ∧ S.obj 100001 = none ∧ S.obj 100002 = none ∧ S.obj 100003 = none)
    {args : List Slot} (hargs : (Xs.toList.map (ev S)).map (vS true S []) = args) {s : Slot} (h : CallsV P f args [] (pureQ s)) (hg : GrS s) (hs : rnS (back [] 100000) s = s) :
    OpW P S o ([100000, 100001, 100002, 100003] ++ (Xs.toList.map (ev S)).flatMap refsS) (fun e => e = { dst := s }) := by
  have := o_call (S := S) ho hF true [] (obs := []) rfl .nil 100000 (by omega) hfree (args := args) (by simpa using hargs) (objs := []) rfl h
    (fun s' outs news hp => by obtain ⟨rfl, rfl, rfl⟩ := hp; exact ⟨by simp, fun _ => ⟨hg, by simp, by simp⟩⟩)
  intro S' k1 k2 C B a w hR hd next Q hk
  refine this S' k1 (fun r hr => k2 r ?_) C B a w hR hd next Q fun e B' v w' hE hr => hk e B' v w' ?_ hr
  · simpa using hr
  · obtain ⟨s', outs, news, ⟨rfl, rfl, rfl⟩, _, rfl⟩ := hE
    simp [cEff, killsOf, setsOf, newsOf, hs]
end
end Go.Vl
namespace Go.Vl
open Go Go.RowKit
structure LS where
  ts : List (Nat × Slot)
  os : List (Nat × Ob)
  ks : List Nat
def LS.st (L : LS) : St := stOf L.ts L.os
def LS.put (L : LS) (d : Option Nat) (s : Slot) : LS := match d with | none => L | some d => ⟨(d, s) :: L.ts, L.os, L.ks⟩
def LS.sets (L : LS) (l : List (Nat × Ob)) : LS := ⟨L.ts, l ++ L.os, L.ks⟩
def LS.known (L : LS) (t : Nat) (b : Bool) : LS := ⟨(t, .one (.g (.bool b))) :: L.ts, L.os, t :: L.ks⟩
theorem stOf_ext {S S' : St} (h1 : ∀ t, S.slot t = S'.slot t) (h2 : ∀ o, S.obj o = S'.obj o) : S = S' := by
  cases S; cases S'; simp only [St.mk.injEq]; exact ⟨funext h1, funext h2⟩
theorem LS.st_put (L : LS) (d : Option Nat) (s : Slot) : (L.put d s).st = L.st.put d s := by
  cases d with
  | none => rfl
  | some d =>
    refine stOf_ext (fun t => ?_) fun o => rfl
    show (if t = d then some s else alk L.ts t).getD .bad = if t = d then s else (alk L.ts t).getD .bad
    split <;> rfl
theorem LS.st_sets (L : LS) (l : List (Nat × Ob)) : (L.sets l).st = L.st.sets l := by
  refine stOf_ext (fun t => by rw [sets_slot]; rfl) fun o => ?_
  induction l with
  | nil => rfl
  | cons p l ih =>
    obtain ⟨q, ob⟩ := p
    show (if o = q then some ob else alk (l ++ L.os) o) = if o = q then some ob else (L.st.sets l).obj o
    rw [← ih]; rfl
theorem LS.st_known (L : LS) (t : Nat) (b : Bool) : (L.known t b).st = L.st.put (some t) (.one (.g (.bool b))) := LS.st_put L (some t) _
def fV (v : Value) (k : Value → Prop) : Prop := match v with
  | .int a b => k (.int a b)
  | .bool b => k (.bool b)
  | .string s => k (.string s)
  | .slice a b c => k (.slice a b c)
  | v => k v
def fL (l : Leaf) (k : Leaf → Prop) : Prop := match l with
  | .g x => fV x fun x => k (.g x)
  | .imm sz rows => k (.imm sz rows)
  | .iel r j => k (.iel r j)
  | .nst E sz rows => k (.nst E sz rows)
  | .own o off len => k (.own o off len)
  | .ptr o i => k (.ptr o i)
  | .elm o i j => k (.elm o i j)
  | .clo f os => k (.clo f os)
  | .mp o => k (.mp o)
  | .err => k .err
  | .bad => k .bad
def fLs : List Leaf → (List Leaf → Prop) → Prop
  | [], k => k []
  | l :: ls, k => fL l fun l => fLs ls fun ls => k (l :: ls)
def fB (b : Bool) (k : Bool → Prop) : Prop := match b with
  | true => k true
  | false => k false
def fTup : List (Bool × List Leaf) → (List (Bool × List Leaf) → Prop) → Prop
  | [], k => k []
  | (b, ls) :: xs, k => fB b fun b => fLs ls fun ls => fTup xs fun xs => k ((b, ls) :: xs)
def fS (s : Slot) (k : Slot → Prop) : Prop := match s with
  | .one l => fL l fun l => k (.one l)
  | .agg ls => fLs ls fun ls => k (.agg ls)
  | .tup xs => fTup xs fun xs => k (.tup xs)
  | .bad => k .bad
def fHs : List (Nat × Nat × Leaf) → (List (Nat × Nat × Leaf) → Prop) → Prop
  | [], k => k []
  | (i, j, l) :: hs, k => fL l fun l => fHs hs fun hs => k ((i, j, l) :: hs)
def fO (o : Ob) (k : Ob → Prop) : Prop := match o with
  | .reg E sz rows hs => fHs hs fun hs => k (.reg E sz rows hs)
  | .box ls => fLs ls fun ls => k (.box ls)
  | .arr E sz rows => k (.arr E sz rows)
  | .map es => k (.map es)
def fSets : List (Nat × Ob) → (List (Nat × Ob) → Prop) → Prop
  | [], k => k []
  | (q, o) :: l, k => fO o fun o => fSets l fun l => k ((q, o) :: l)
theorem fV_eq (v : Value) (k : Value → Prop) : fV v k = k v := by cases v <;> rfl
theorem fL_eq (v : Leaf) (k : Leaf → Prop) : fL v k = k v := by cases v <;> simp [fL, fV_eq]
theorem fLs_eq : ∀ (v : List Leaf) (k : List Leaf → Prop), fLs v k = k v
  | [], k => rfl
  | l :: ls, k => by rw [fLs, fL_eq, fLs_eq]
theorem fB_eq (v : Bool) (k : Bool → Prop) : fB v k = k v := by cases v <;> rfl
theorem fTup_eq : ∀ (v : List (Bool × List Leaf)) (k : List (Bool × List Leaf) → Prop), fTup v k = k v
  | [], k => rfl
  | (b, ls) :: xs, k => by rw [fTup, fB_eq, fLs_eq, fTup_eq]
theorem fS_eq (v : Slot) (k : Slot → Prop) : fS v k = k v := by cases v <;> simp [fS, fL_eq, fLs_eq, fTup_eq]
theorem fHs_eq : ∀ (v : List (Nat × Nat × Leaf)) (k : List (Nat × Nat × Leaf) → Prop), fHs v k = k v
  | [], k => rfl
  | (i, j, l) :: hs, k => by rw [fHs, fL_eq, fHs_eq]
theorem fO_eq (v : Ob) (k : Ob → Prop) : fO v k = k v := by cases v <;> simp [fO, fLs_eq, fHs_eq]
theorem fSets_eq : ∀ (v : List (Nat × Ob)) (k : List (Nat × Ob) → Prop), fSets v k = k v
  | [], k => rfl
  | (q, o) :: ls, k => by rw [fSets, fO_eq, fSets_eq]
def appK : List (Nat × Ob) → List (Nat × Ob) → (List (Nat × Ob) → Prop) → Prop
  | [], os, k => k os
  | p :: l, os, k => appK l os fun os => k (p :: os)
theorem appK_eq : ∀ (l os : List (Nat × Ob)) (k : List (Nat × Ob) → Prop), appK l os k = k (l ++ os)
  | [], _, _ => rfl
  | p :: l, os, k => by rw [appK, appK_eq]; rfl
def putK (L : LS) (l : List (Nat × Ob)) (d : Option Nat) (s : Slot) (K : LS → Prop) : Prop :=
  match L with
  | ⟨ts, os, ks⟩ => fS s fun s => fSets l fun l => appK l os fun os => match d with
    | none => K ⟨ts, os, ks⟩
    | some d => K ⟨(d, s) :: ts, os, ks⟩
theorem putK_eq (L : LS) (l : List (Nat × Ob)) (d : Option Nat) (s : Slot) (K : LS → Prop) : putK L l d s K = K ((L.sets l).put d s) := by
  obtain ⟨ts, os, ks⟩ := L
  simp only [putK, fS_eq, fSets_eq, appK_eq]
  cases d <;> rfl
def knownK (L : LS) (t : Nat) (b : Bool) (K : LS → Prop) : Prop :=
  match L with
  | ⟨ts, os, ks⟩ => K ⟨(t, .one (.g (.bool b))) :: ts, os, t :: ks⟩
theorem knownK_eq (L : LS) (t : Nat) (b : Bool) (K : LS → Prop) : knownK L t b K = K (L.known t b) := rfl
structure Need (p : Prop) : Prop where
  h : p
def stepK (T : Tab) (o : Oper) (L : LS) (K : LS → Prop) (stuck : Prop) : Prop :=
  match auto T L.st o with
  | none => match autoC T L.st o with
    | some (p, s) => Need p ∧ putK L [] o.dst s K
    | none => stuck
  | some ⟨s, _, _, [], l⟩ => putK L l o.dst s K
  | some ⟨_, _, _, _ :: _, _⟩ => stuck
def nth? {α : Type} : List α → Nat → Option α
  | [], _ => none
  | a :: _, 0 => some a
  | _ :: l, n + 1 => nth? l n
theorem nth?_eq {α : Type} : ∀ (l : List α) (n : Nat), nth? l n = l[n]?
  | [], n => by simp [nth?]
  | _ :: _, 0 => rfl
  | _ :: l, n + 1 => by simp [nth?, nth?_eq l n]
def hasN : List Nat → Nat → Bool
  | [], _ => false
  | x :: l, n => bif Nat.beq x n then true else hasN l n
def bslot (L : LS) (t : Nat) : Option (Option Bool) := match L.st.slot t with
  | .one (.g (.bool b)) => some (some b)
  | .tup [] => some none
  | _ => none
def runK (T : Tab) (all : List Oper) (stuck : Nat → List Oper → LS → Prop) (K : LS → Prop) : List Oper → Nat → LS → Prop
  | [], _, L => K L
  | o :: l, i, L => match o.guard with
    | none => stepK T o L (fun L' => runK T all stuck K l (i + 1) L') (stuck i (o :: l) L)
    | some (j, want) => match (nth? all j).bind (·.dst) with
      | none => stuck i (o :: l) L
      | some t => match bslot L t with
        | none => stuck i (o :: l) L
        | some none => putK L [] o.dst (.tup []) fun L => runK T all stuck K l (i + 1) L
        | some (some b) => match hasN L.ks t, b == want with
          | true, true => stepK T o L (fun L' => runK T all stuck K l (i + 1) L') (stuck i (o :: l) L)
          | true, false => putK L [] o.dst (.tup []) fun L => runK T all stuck K l (i + 1) L
          | false, _ =>
            (b = want → knownK L t want fun L => stepK T o L (fun L' => runK T all stuck K l (i + 1) L') (stuck i (o :: l) L)) ∧
            (b = !want → knownK L t (!want) fun L => putK L [] o.dst (.tup []) fun L => runK T all stuck K l (i + 1) L)
section
variable {P : Program} {T : Tab} {n : Nat} {ops : Array Oper}
structure VR (P : Program) (n : Nat) (ops : Array Oper) (i : Nat) (rest : List Oper) (L : LS) (K : LS → Prop) : Prop where
  h : ops.toList.drop i = rest → VO P n ops (List.range' i rest.length) L.st (fun S => ∃ L', S = L'.st ∧ K L')
theorem drop_cons {l rest : List Oper} {i : Nat} {o : Oper} (h : l.drop i = o :: rest) : l[i]? = some o ∧ l.drop (i + 1) = rest := by
  constructor
  · have := congrArg (fun x => x[0]?) h
    simpa using this
  · have := congrArg List.tail h
    simpa using this
theorem VR.step (hin : dstsIn n ops = true) {i : Nat} {o : Oper} {rest : List Oper} {L : LS} {K : LS → Prop} (hg : guardOn ops L.st o = some true) {e : Eff} (he : OpL P L.st o e) (hk : e.kills = [])
    (h : VR P n ops (i + 1) rest ((L.sets e.sets).put o.dst e.dst) K) : VR P n ops i (o :: rest) L K := by
  constructor
  intro hd
  obtain ⟨h1, h2⟩ := drop_cons hd
  rw [List.length_cons, List.range'_succ]
  refine vo_op hin (by simpa using h1) hg he ?_
  have e1 : L.st.app o.dst e = ((L.sets e.sets).put o.dst e.dst).st := by rw [LS.st_put, LS.st_sets]; unfold St.app; rw [hk]; rfl
  rw [e1]
  exact h.1 h2
theorem VR.off (hin : dstsIn n ops = true) {i : Nat} {o : Oper} {rest : List Oper} {L : LS} {K : LS → Prop} (hg : guardOn ops L.st o = some false)
    (h : VR P n ops (i + 1) rest (L.put o.dst (.tup [])) K) : VR P n ops i (o :: rest) L K := by
  constructor
  intro hd
  obtain ⟨h1, h2⟩ := drop_cons hd
  rw [List.length_cons, List.range'_succ]
  refine vo_off hin (by simpa using h1) hg ?_
  rw [← LS.st_put]
  exact h.1 h2
theorem VR.nil {i : Nat} {L : LS} {K : LS → Prop} (h : K L) : VR P n ops i [] L K := ⟨fun _ => vo_nil ⟨L, rfl, h⟩⟩
theorem VR.same {i : Nat} {rest : List Oper} {L L' : LS} {K : LS → Prop} (e : L.st = L'.st) (h : VR P n ops i rest L' K) : VR P n ops i rest L K := by
  constructor; intro hd; rw [e]; exact h.1 hd
theorem step_ok (hT : TabOk P T) (hin : dstsIn n ops = true) {i : Nat} {o : Oper} {rest : List Oper} {L : LS} {K K' : LS → Prop} {stuck : Prop} (hs : stuck → VR P n ops i (o :: rest) L K)
    (hg : guardOn ops L.st o = some true) (hk : ∀ L', K' L' → VR P n ops (i + 1) rest L' K) (h : stepK T o L K' stuck) : VR P n ops i (o :: rest) L K := by
  unfold stepK at h
  split at h
  · split at h
    · rename_i p s he
      obtain ⟨rd, hop⟩ := autoC_ok hT he h.1.1
      have h2 := h.2
      rw [putK_eq] at h2
      exact VR.step (e := { dst := s, reads := rd }) hin hg hop rfl (hk _ h2)
    · exact hs h
  · rename_i s c r l he
    rw [putK_eq] at h
    exact VR.step hin hg (auto_ok hT he) rfl (hk _ h)
  · exact hs h
theorem guard_none {L : LS} {o : Oper} (h : o.guard = none) : guardOn ops L.st o = some true := by simp [guardOn, h]
theorem guard_some {L : LS} {o : Oper} {j : Nat} {want : Bool} {t : Nat} {b : Bool} (h : o.guard = some (j, want)) (ht : (nth? ops.toList j).bind (·.dst) = some t) (hb : bslot L t = some (some b)) : guardOn ops L.st o = some (b == want) := by
  unfold guardOn
  rw [h]
  have ht' : (ops[j]?).bind (·.dst) = some t := by rw [nth?_eq] at ht; simpa using ht
  simp only [ht']
  unfold bslot at hb
  split at hb
  · rename_i b' hs; cases hb; rw [hs]
  · cases hb
  · cases hb
theorem guard_undef {L : LS} {o : Oper} {j : Nat} {want : Bool} {t : Nat} (h : o.guard = some (j, want)) (ht : (nth? ops.toList j).bind (·.dst) = some t) (hb : bslot L t = some none) : guardOn ops L.st o = some false := by
  unfold guardOn
  rw [h]
  have ht' : (ops[j]?).bind (·.dst) = some t := by rw [nth?_eq] at ht; simpa using ht
  simp only [ht']
  unfold bslot at hb
  split at hb
  · cases hb
  · rename_i hs; rw [hs]
  · cases hb
theorem known_st {L : LS} {t : Nat} {b b' : Bool} (hb : bslot L t = some (some b)) (h : b = b') : (L.known t b').st = L.st := by
  rw [LS.st_known]
  unfold bslot at hb
  split at hb
  · rename_i b2 hs; cases hb; exact put_same hs h
  · cases hb
  · cases hb
theorem runK_ok (hT : TabOk P T) (hin : dstsIn n ops = true) {stuck : Nat → List Oper → LS → Prop} {K K' : LS → Prop} (hs : ∀ i l L, stuck i l L → VR P n ops i l L K) (hk : ∀ L, K' L → K L) :
    ∀ {l : List Oper} {i : Nat} {L : LS}, runK T ops.toList stuck K' l i L → VR P n ops i l L K
  | [], i, L, h => .nil (hk L h)
  | o :: l, i, L, h => by
    unfold runK at h
    split at h
    · rename_i hg
      exact step_ok hT hin (hs _ _ _) (guard_none hg) (fun L' hl => runK_ok hT hin hs hk hl) h
    · rename_i j want hg
      split at h
      · exact hs _ _ _ h
      · rename_i t ht
        split at h
        · exact hs _ _ _ h
        · rename_i hb
          rw [putK_eq] at h
          exact VR.off hin (guard_undef hg ht hb) (runK_ok hT hin hs hk h)
        · rename_i b hb
          have hgo := guard_some hg ht hb
          split at h
          · rename_i hw
            rw [hw] at hgo
            exact step_ok hT hin (hs _ _ _) hgo (fun L' hl => runK_ok hT hin hs hk hl) h
          · rename_i hw
            rw [hw] at hgo
            rw [putK_eq] at h
            exact VR.off hin hgo (runK_ok hT hin hs hk h)
          · by_cases hbw : b = want
            · have e := known_st hb hbw
              refine VR.same e.symm (step_ok hT hin (hs _ _ _) ?_ (fun L' hl => runK_ok hT hin hs hk hl) (by have := h.1 hbw; rwa [knownK_eq] at this))
              rw [e, hgo, hbw]; simp
            · have hbn : b = !want := by cases b <;> cases want <;> simp_all
              have e := known_st hb hbn
              refine VR.same e.symm (VR.off hin ?_ (runK_ok hT hin hs hk (by have := h.2 hbn; rwa [knownK_eq, putK_eq] at this)))
              rw [e, hgo]; simp [hbw]
structure VL (P : Program) (n : Nat) (c : Code) (L : LS) (K : Exit → LS → Prop) : Prop where
  h : VC P n c L.st (fun e S => ∃ L', S = L'.st ∧ K e L')
theorem VL.mono {c : Code} {L : LS} {K K' : Exit → LS → Prop} (h : VL P n c L K) (hk : ∀ e L, K e L → K' e L) : VL P n c L K' :=
  ⟨VC.mono h.1 fun _ _ ⟨L', e, hl⟩ => ⟨L', e, hk _ _ hl⟩⟩
end
def isExit (id : Nat) : Exit → Bool
  | .exit i => Nat.beq i id
  | _ => false
def notGoto : Exit → Bool
  | .goto _ => false
  | _ => true
def isNormal : Exit → Bool
  | .normal => true
  | _ => false
def constB : Operand → Option Bool
  | .const (.bool b) => some b
  | _ => none
theorem constB_ev {c : Operand} {b : Bool} (h : constB c = some b) (S : St) : ev S c = .one (.g (.bool b)) := by
  unfold constB at h
  split at h
  · cases h; rfl
  · cases h
def vcK (P : Program) (T : Tab) (n : Nat) : Code → LS → (Exit → LS → Prop) → Prop
  | .skip, L, K => K .normal L
  | .label _, L, K => K .normal L
  | .exit i, L, K => K (.exit i) L
  | .ret, L, K => K .ret L
  | .seq x y, L, K => vcK P T n x L fun e L' => bif isNormal e then vcK P T n y L' K else K e L'
  | .cond c x y, L, K => match constB c with
    | some true => vcK P T n x L K
    | some false => vcK P T n y L K
    | none => match ev L.st c with
      | .one (.g (.bool b)) => (b = true → vcK P T n x L K) ∧ (b = false → vcK P T n y L K)
      | _ => VL P n (.cond c x y) L K
  | .block id c, L, K => vcK P T n c L fun e L' => bif isExit id e then K .normal L' else K e L'
  | .scope c, L, K => vcK P T n c L fun e L' => bif notGoto e then K e L' else False
  | .region id ops draw, L, K => match draw with
    | true => VL P n (.region id ops true) L K
    | false => bif dstsIn n ops then runK T ops.toList (fun i l L => VR P n ops i l L (K .normal)) (K .normal) ops.toList 0 L else False
  | c, L, K => VL P n c L K
theorem vcK_ok {P : Program} {T : Tab} {n : Nat} (hT : TabOk P T) : ∀ {c : Code} {L : LS} {K : Exit → LS → Prop}, vcK P T n c L K → VL P n c L K := by
  intro c
  induction c with
  | skip => intro L K h; exact ⟨vc_skip ⟨L, rfl, h⟩⟩
  | label l => intro L K h; exact ⟨vc_label ⟨L, rfl, h⟩⟩
  | exit i => intro L K h; exact ⟨vc_exit ⟨L, rfl, h⟩⟩
  | ret => intro L K h; exact ⟨vc_ret ⟨L, rfl, h⟩⟩
  | seq x y hx hy =>
    intro L K h
    refine ⟨vc_seq (VC.mono (hx h).1 fun e S he => ?_)⟩
    obtain ⟨L', rfl, he⟩ := he
    cases e with
    | normal => exact (hy he).1
    | _ => exact ⟨L', rfl, he⟩
  | cond c x y hx hy =>
    intro L K h
    unfold vcK at h
    split at h
    · rename_i hc
      exact ⟨vc_cond (constB_ev hc _) (fun _ => (hx h).1) (fun e => by cases e)⟩
    · rename_i hc
      exact ⟨vc_cond (constB_ev hc _) (fun e => by cases e) (fun _ => (hy h).1)⟩
    split at h
    · rename_i b hb
      exact ⟨vc_cond hb (fun e => (hx (h.1 e)).1) (fun e => (hy (h.2 e)).1)⟩
    · exact h
  | block id c hc =>
    intro L K h
    refine ⟨vc_block (VC.mono (hc h).1 fun e S he => ?_)⟩
    obtain ⟨L', rfl, he⟩ := he
    cases e with
    | exit i =>
      simp only [onExit]
      cases hb : Nat.beq i id with
      | true =>
        have := Nat.eq_of_beq_eq_true hb
        rw [if_pos this]
        simp only [isExit, hb, cond_true] at he
        exact ⟨L', rfl, he⟩
      | false =>
        have := Nat.ne_of_beq_eq_false hb
        rw [if_neg this]
        simp only [isExit, hb, cond_false] at he
        exact ⟨L', rfl, he⟩
    | _ => exact ⟨L', rfl, he⟩
  | scope c hc =>
    intro L K h
    refine ⟨vc_scope (VC.mono (hc h).1 fun e S he => ?_)⟩
    obtain ⟨L', rfl, he⟩ := he
    cases e with
    | goto l => exact he
    | _ => exact ⟨L', rfl, he⟩
  | region id ops draw =>
    intro L K h
    cases draw with
    | true => exact h
    | false =>
      unfold vcK at h
      simp only at h
      cases hin : dstsIn n ops with
      | false => rw [hin] at h; exact h.elim
      | true =>
        rw [hin] at h
        simp only [cond_true] at h
        have := (runK_ok (P := P) hT hin (K := K .normal) (fun i l L hs => hs) (fun L hl => hl) h).1 rfl
        refine ⟨vc_region ?_⟩
        rw [List.range_eq_range']
        simpa using this
  | loop c _ => intro L K h; exact h
  | rangeFunc f ps a b _ _ => intro L K h; exact h
  | goto l => intro L K h; exact h
  | refuse w => intro L K h; exact h
end Go.Vl

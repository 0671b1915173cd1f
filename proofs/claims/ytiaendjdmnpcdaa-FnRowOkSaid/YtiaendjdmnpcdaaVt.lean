/- V-logic, part t: regions whose order is drawn. -/
import Derived.Test.YtiaendjdmnpcdaaVs
namespace Go.Vl
open Go Go.RowKit

/-- A step of the text's order: which operation, its effect (none: it is not wanted), what it looks at among the objects, what it makes or turns. -/
structure Stp where
  i : Nat
  e : Option Eff
  rd : List Nat
  tw : List Nat

def Stp.eff (s : Stp) : Eff := s.e.getD { dst := .tup [] }

def StepOk (P : Program) (ops : Array Oper) (S : St) (s : Stp) : Prop :=
  ∃ o, ops[s.i]? = some o ∧ guardOn ops S o = some s.e.isSome ∧ s.eff.kills = [] ∧ s.eff.sets.map (·.1) = s.tw ∧ ∀ e, s.e = some e → OpW P S o s.rd (fun x => x = e)

def stApp (ops : Array Oper) (S : St) (s : Stp) : St := S.app ((ops[s.i]?).bind (·.dst)) s.eff

inductive Can (P : Program) (ops : Array Oper) : St → List Stp → St → Prop
  | nil {S : St} : Can P ops S [] S
  | cons {S Sf : St} {s : Stp} {l : List Stp} (h : StepOk P ops S s) (k : Can P ops (stApp ops S s) l Sf) : Can P ops S (s :: l) Sf

def comm (ops : Array Oper) (x y : Stp) : Bool :=
  match ops[x.i]?, ops[y.i]? with
  | some ox, some oy => ox.apart ops oy && x.tw.all (fun q => !y.rd.contains q && !y.tw.contains q) && y.tw.all (fun q => !x.rd.contains q)
  | _, _ => false

theorem sets_obj (l : List (Nat × Ob)) (S : St) {q : Nat} (h : q ∉ l.map (·.1)) : (S.sets l).obj q = S.obj q := by
  induction l with
  | nil => rfl
  | cons p l ih =>
    obtain ⟨o, ob⟩ := p
    simp at h
    show (if q = o then some ob else (S.sets l).obj q) = _
    rw [if_neg h.1]
    exact ih (by simpa using h.2)
theorem sets_obj_congr (l : List (Nat × Ob)) {S S' : St} {q : Nat} (h : S.obj q = S'.obj q) : (S.sets l).obj q = (S'.sets l).obj q := by
  induction l with
  | nil => exact h
  | cons p l ih =>
    obtain ⟨o, ob⟩ := p
    show (if q = o then some ob else (S.sets l).obj q) = if q = o then some ob else (S'.sets l).obj q
    rw [ih]

theorem put_slot (S : St) (d : Option Nat) (s : Slot) (t : Nat) : (S.put d s).slot t = if d = some t then s else S.slot t := by
  cases d with
  | none => simp [St.put]
  | some d =>
    show (if t = d then s else S.slot t) = _
    by_cases h : t = d
    · subst h; simp
    · rw [if_neg h, if_neg (by intro e; cases e; exact h rfl)]
theorem put_obj (S : St) (d : Option Nat) (s : Slot) : (S.put d s).obj = S.obj := by cases d <;> rfl

theorem app_slot (S : St) (d : Option Nat) (e : Eff) (hk : e.kills = []) (t : Nat) : (S.app d e).slot t = if d = some t then e.dst else S.slot t := by
  unfold St.app
  rw [put_slot, sets_slot, hk]; rfl
theorem app_obj (S : St) (d : Option Nat) (e : Eff) (hk : e.kills = []) (q : Nat) : (S.app d e).obj q = (S.sets e.sets).obj q := by
  unfold St.app
  rw [put_obj, hk]; rfl

theorem app_comm (S : St) {d d' : Option Nat} {e e' : Eff} (hk : e.kills = []) (hk' : e'.kills = []) (hd : ∀ t, d = some t → d' ≠ some t) (hs : ∀ q, q ∈ e.sets.map (·.1) → q ∉ e'.sets.map (·.1)) :
    (S.app d e).app d' e' = (S.app d' e').app d e := by
  have h1 : ((S.app d e).app d' e').slot = ((S.app d' e').app d e).slot := by
    funext t
    rw [app_slot _ _ _ hk', app_slot _ _ _ hk, app_slot _ _ _ hk, app_slot _ _ _ hk']
    by_cases h : d = some t
    · rw [if_pos h, if_pos h, if_neg (hd t h)]
    · rw [if_neg h, if_neg h]
  have h2 : ((S.app d e).app d' e').obj = ((S.app d' e').app d e).obj := by
    funext q
    rw [app_obj _ _ _ hk', app_obj _ _ _ hk]
    by_cases h : q ∈ e.sets.map (·.1)
    · rw [sets_obj _ _ (hs q h), app_obj _ _ _ hk]
      exact sets_obj_congr _ (by rw [app_obj _ _ _ hk', sets_obj _ _ (hs q h)])
    · rw [sets_obj _ (S.app d' e') h, app_obj _ _ _ hk']
      exact sets_obj_congr _ (by rw [app_obj _ _ _ hk, sets_obj _ _ h])
  cases h3 : (S.app d e).app d' e' with
  | mk a b =>
    cases h4 : (S.app d' e').app d e with
    | mk a' b' => rw [h3, h4] at h1 h2; simp at h1 h2; rw [h1, h2]

section
variable {P : Program} {n : Nat} {S Sf : St} {Q : Post} {ops : Array Oper}

theorem opW_congr {S S' : St} {o : Oper} {rd : List Nat} {E : Eff → Prop} (h : OpW P S o rd E) (h1 : ∀ x, x ∈ o.op.operands → ev S' x = ev S x) (h2 : ∀ r, r ∈ rd → S'.obj r = S.obj r) : OpW P S' o rd E :=
  fun S'' k1 k2 => h S'' (fun x hx => (k1 x hx).trans (h1 x hx)) (fun r hr => (k2 r hr).trans (h2 r hr))

theorem looks_op {o : Oper} {t : Nat} (h : Operand.tmp t ∈ o.op.operands) : t ∈ o.looksAt ops := by
  unfold Oper.looksAt
  refine List.mem_append.2 (.inl (List.mem_filterMap.2 ⟨.tmp t, Array.mem_toList_iff.2 h, rfl⟩))
theorem looks_guard {o : Oper} {j : Nat} {w : Bool} {t : Nat} (hg : o.guard = some (j, w)) (hj : (ops[j]?).bind (·.dst) = some t) : t ∈ o.looksAt ops := by
  unfold Oper.looksAt
  refine List.mem_append.2 (.inr ?_)
  rw [hg]
  simp only [hj]
  exact List.mem_singleton.2 rfl

/-- A step that goes apart from another's doing is the same ahead of it and behind it. -/
theorem stepOk_congr {S S' : St} {s : Stp} {d : Option Nat} (h : StepOk P ops S s) (hs : ∀ t, d ≠ some t → S'.slot t = S.slot t) (hl : ∀ o, ops[s.i]? = some o → ∀ t, d = some t → t ∉ o.looksAt ops)
    (ho : ∀ r, r ∈ s.rd → S'.obj r = S.obj r) : StepOk P ops S' s := by
  obtain ⟨o, hi, hg, hk, htw, he⟩ := h
  have hev : ∀ x, x ∈ o.op.operands → ev S' x = ev S x := by
    intro x hx
    cases x with
    | tmp t => exact hs t fun e => hl o hi t e (looks_op hx)
    | _ => rfl
  refine ⟨o, hi, ?_, hk, htw, fun e h => opW_congr (he e h) hev ho⟩
  rw [← hg]
  unfold guardOn
  split
  · rfl
  · rename_i j want hgd
    split
    · rfl
    · rename_i t hj
      rw [hs t fun e => hl o hi t e (looks_guard hgd hj)]

theorem swap {x y : Stp} (hc : comm ops x y = true) (hx : StepOk P ops S x) (hy : StepOk P ops (stApp ops S x) y) :
    StepOk P ops S y ∧ StepOk P ops (stApp ops S y) x ∧ stApp ops (stApp ops S x) y = stApp ops (stApp ops S y) x := by
  have hx0 := hx
  have hy0 := hy
  obtain ⟨ox, hix, _, hkx, htx, _⟩ := hx0
  obtain ⟨oy, hiy, _, hky, hty, _⟩ := hy0
  unfold comm at hc
  rw [hix, hiy] at hc
  simp only [Bool.and_eq_true, List.all_eq_true, Bool.not_eq_true', List.contains_eq_mem, decide_eq_false_iff_not] at hc
  obtain ⟨⟨ha, hq1⟩, hq2⟩ := hc
  obtain ⟨a1, a2, a3⟩ := Oper.apart_spec ha
  have ex : stApp ops S x = S.app ox.dst x.eff := by simp [stApp, hix]
  have ey : stApp ops S y = S.app oy.dst y.eff := by simp [stApp, hiy]
  have hSy : StepOk P ops S y := by
    refine stepOk_congr (d := ox.dst) hy (fun t ht => ?_) (fun o ho t ht => ?_) (fun r hr => ?_)
    · rw [ex, app_slot _ _ _ hkx, if_neg ht]
    · rw [hiy] at ho; cases ho; exact a1 t ht
    · rw [ex, app_obj _ _ _ hkx, sets_obj]
      rw [htx]; exact fun h => (hq1 r h).1 hr
  refine ⟨hSy, ?_, ?_⟩
  · refine stepOk_congr (d := oy.dst) hx (fun t ht => ?_) (fun o ho t ht => ?_) (fun r hr => ?_)
    · rw [ey, app_slot _ _ _ hky, if_neg ht]
    · rw [hix] at ho; cases ho; exact a3 t ht
    · rw [ey, app_obj _ _ _ hky, sets_obj]
      rw [hty]; exact fun h => hq2 r h hr
  · rw [ex, ey]
    simp only [stApp, hix, hiy, Option.bind_some]
    exact app_comm S hkx hky (fun t ht => a2 t ht) (fun q hq => by rw [hty]; rw [htx] at hq; exact (hq1 q hq).2)

theorem bubble {y : Stp} {post : List Stp} : ∀ {pre : List Stp} {S : St}, Can P ops S (pre ++ y :: post) Sf → (∀ x ∈ pre, comm ops x y = true) →
    StepOk P ops S y ∧ Can P ops (stApp ops S y) (pre ++ post) Sf
  | [], S, h, _ => by cases h with | cons h k => exact ⟨h, k⟩
  | x :: pre, S, h, hc => by
    cases h with
    | cons h k =>
      obtain ⟨h1, h2⟩ := bubble k fun z hz => hc z (by simp [hz])
      obtain ⟨h3, h4, h5⟩ := swap (hc x (by simp)) h h1
      exact ⟨h3, .cons h4 (by rw [← h5]; exact h2)⟩

/-- What must have been done ahead of each operation: a table that is asked whether it follows from the edges. -/
def clOk (ops : Array Oper) (cl : Nat → List Nat) : Bool :=
  (List.range ops.size).all fun i => match ops[i]? with
    | some o => (o.after.toList.all fun e => !Region.binds .any e || Nat.blt e.on i) && (cl i).all fun j => o.after.toList.any fun e => Region.binds .any e && (e.on == j || (cl e.on).contains j)
    | none => false

def pairsOk (ops : Array Oper) (cl : Nat → List Nat) : List Stp → Bool
  | [] => true
  | x :: l => (l.all fun y => (cl y.i).contains x.i || comm ops x y) && pairsOk ops cl l

theorem pairs_pw {cl : Nat → List Nat} : ∀ {l : List Stp}, pairsOk ops cl l = true → l.Pairwise fun x y => x.i ∈ cl y.i ∨ comm ops x y = true
  | [], _ => .nil
  | x :: l, h => by
    simp only [pairsOk, Bool.and_eq_true, List.all_eq_true, Bool.or_eq_true, List.contains_eq_mem, decide_eq_true_eq] at h
    exact .cons h.1 (pairs_pw h.2)

/-- What is listed, and what is left. -/
structure Left (ops : Array Oper) (cl : Nat → List Nat) (listed : Array Bool) (rem : List Stp) : Prop where
  size : listed.size = ops.size
  at_ : ∀ i, i < ops.size → (listed.getD i true = false ↔ i ∈ rem.map (·.i))
  lt : ∀ s ∈ rem, s.i < ops.size
  sorted : rem.Pairwise fun x y => x.i < y.i
  pairs : rem.Pairwise fun x y => x.i ∈ cl y.i ∨ comm ops x y = true
  closed : ∀ j, j < ops.size → j ∉ rem.map (·.i) → ∀ k ∈ cl j, k ∉ rem.map (·.i)

theorem getD_listed {listed : Array Bool} {i : Nat} (h : i < listed.size) (d d' : Bool) : listed.getD i d = listed.getD i d' := by
  simp [Array.getD, h]

theorem ready_mem {listed : Array Bool} {i : Nat} : i ∈ Region.ready .any ops listed ↔ i < ops.size ∧ listed.getD i true = false ∧ ∃ o, ops[i]? = some o ∧ ∀ e ∈ o.after.toList, Region.binds .any e = true → listed.getD e.on false = true := by
  unfold Region.ready
  rw [List.mem_filter, List.mem_range]
  constructor
  · rintro ⟨h1, h2⟩
    simp only [Bool.and_eq_true, Bool.not_eq_true'] at h2
    refine ⟨h1, h2.1, ?_⟩
    cases ho : ops[i]? with
    | none => rw [ho] at h2; simp at h2
    | some o =>
      rw [ho] at h2
      refine ⟨o, rfl, fun e he hb => ?_⟩
      have h3 := h2.2
      simp only [Option.map_some, Option.getD_some] at h3
      rw [← Array.all_toList, List.all_eq_true] at h3
      have := h3 e he
      rw [hb] at this
      simpa using this
  · rintro ⟨h1, h2, o, ho, h3⟩
    refine ⟨h1, ?_⟩
    rw [h2, ho]
    simp only [Bool.not_false, Bool.true_and, Option.map_some, Option.getD_some]
    rw [← Array.all_toList, List.all_eq_true]
    intro e he
    cases hb : Region.binds .any e with
    | false => rfl
    | true => simpa using h3 e he hb

theorem draw_any (hin : dstsIn n ops = true) {cl : Nat → List Nat} (hcl : clOk ops cl = true) : ∀ (fuel : Nat) (rem : List Stp) (listed : Array Bool) (S : St) (C : Ctx) (B : Pl) (a : Act) (w : World),
    Left ops cl listed rem → rem.length ≤ fuel → Can P ops S rem Sf → C.n = n → Rel C S B a w → ∀ (K : Exit → Act → World → Prop), (∀ B a w, Rel C Sf B a w → K .normal a w) → wpAny P .any ops K fuel listed a w := by
  have hcl' : ∀ i o, ops[i]? = some o → (∀ e ∈ o.after.toList, Region.binds .any e = true → e.on < i) ∧ ∀ j ∈ cl i, ∃ e ∈ o.after.toList, Region.binds .any e = true ∧ (e.on = j ∨ j ∈ cl e.on) := by
    intro i o ho
    unfold clOk at hcl
    rw [List.all_eq_true] at hcl
    have hlt : i < ops.size := (Array.getElem?_eq_some_iff.1 ho).1
    have h := hcl i (List.mem_range.2 hlt)
    rw [ho] at h
    simp only [Bool.and_eq_true, List.all_eq_true, List.any_eq_true, Bool.or_eq_true, beq_iff_eq, List.contains_eq_mem, decide_eq_true_eq] at h
    refine ⟨fun e he hb => ?_, fun j hj => ?_⟩
    · rcases h.1 e he with h1 | h1
      · rw [hb] at h1; simp at h1
      · exact (by simpa using h1)
    · obtain ⟨e, he, h1, h2⟩ := h.2 j hj
      exact ⟨e, he, h1, h2⟩
  -- behind the last nothing is ready; ahead of it something is
  have empty : ∀ {rem : List Stp} {listed : Array Bool}, Left ops cl listed rem → Region.ready .any ops listed = [] → rem = [] := by
    intro rem listed hL hr
    cases rem with
    | nil => rfl
    | cons y rem =>
      exfalso
      have hlt := hL.lt y (by simp)
      have hm : y.i ∈ Region.ready .any ops listed := by
        refine ready_mem.2 ⟨hlt, (hL.at_ y.i hlt).2 (by simp), ops[y.i], Array.getElem?_eq_getElem hlt, fun e he hb => ?_⟩
        have hel := (hcl' y.i _ (Array.getElem?_eq_getElem hlt)).1 e he hb
        rw [getD_listed (d' := true) (by rw [hL.size]; omega)]
        cases hh : listed.getD e.on true with
        | true => rfl
        | false =>
          exfalso
          have := (hL.at_ e.on (by omega)).1 hh
          simp only [List.map_cons, List.mem_cons] at this
          rcases this with h | h
          · omega
          · obtain ⟨z, hz, hze⟩ := List.mem_map.1 h
            have := (List.pairwise_cons.1 hL.sorted).1 z hz
            omega
      rw [hr] at hm; cases hm
  intro fuel
  induction fuel with
  | zero =>
    intro rem listed S C B a w hL hlen hcan hn hR K hK
    have hr : rem = [] := List.eq_nil_of_length_eq_zero (by omega)
    subst hr
    cases hcan
    refine ⟨?_, hK B a w hR⟩
    cases hh : Region.ready .any ops listed with
    | nil => rfl
    | cons i l =>
      have := ready_mem.1 (show i ∈ Region.ready .any ops listed by rw [hh]; simp)
      have := (hL.at_ i this.1).1 this.2.1
      simp at this
  | succ fuel ih =>
    intro rem listed S C B a w hL hlen hcan hn hR K hK
    refine ⟨fun hr => ?_, fun i hi => ?_⟩
    · have := empty hL hr
      subst this
      cases hcan
      exact hK B a w hR
    · obtain ⟨hlt, hf, o, ho, haf⟩ := ready_mem.1 hi
      obtain ⟨y, hy, rfl⟩ := List.mem_map.1 ((hL.at_ i hlt).1 hf)
      obtain ⟨pre, post, rfl⟩ := List.append_of_mem hy
      -- nothing that is left ahead of it must come first
      have hno : ∀ k ∈ cl y.i, k ∉ (pre ++ y :: post).map (·.i) := by
        intro k hk
        obtain ⟨e, he, hb, h⟩ := (hcl' y.i o ho).2 k hk
        have hel := (hcl' y.i o ho).1 e he hb
        have hlst := haf e he hb
        rw [getD_listed (d' := true) (by rw [hL.size]; omega)] at hlst
        have hen : e.on ∉ (pre ++ y :: post).map (·.i) := fun hm => by
          have := (hL.at_ e.on (by omega)).2 hm
          rw [hlst] at this; cases this
        rcases h with rfl | h
        · exact hen
        · exact hL.closed e.on (by omega) hen k h
      have hcm : ∀ x ∈ pre, comm ops x y = true := by
        intro x hx
        have := (List.pairwise_append.1 hL.pairs).2.2 x hx y (by simp)
        rcases this with h | h
        · exact absurd (List.mem_map.2 ⟨x, by simp [hx], rfl⟩) (hno x.i h)
        · exact h
      obtain ⟨hok, hcan'⟩ := bubble hcan hcm
      obtain ⟨o', ho', hg, hk, htw, hop⟩ := hok
      rw [ho] at ho'; cases ho'
      have hdst := dstsIn_of hin ho
      have hw := guard_wanted hR hg (fun j want t _ hj => by
        cases hjj : ops[j]? with
        | none => simp [hjj] at hj
        | some oj => simp [hjj] at hj; rw [hn]; exact dstsIn_of hin hjj t hj)
      have hL' : Left ops cl (listed.setIfInBounds y.i true) (pre ++ post) := by
        have hs := hL.sorted
        have hsub : (pre ++ post).Sublist (pre ++ y :: post) := List.Sublist.append (List.Sublist.refl _) (List.sublist_cons_self _ _)
        have hnot : y.i ∉ (pre ++ post).map (·.i) := by
          intro hm
          obtain ⟨z, hz, hzi⟩ := List.mem_map.1 hm
          rcases List.mem_append.1 hz with hz | hz
          · have := (List.pairwise_append.1 hs).2.2 z hz y (by simp); omega
          · have := (List.pairwise_cons.1 (List.pairwise_append.1 hs).2.1).1 z hz; omega
        have hmem : ∀ j, j ≠ y.i → (j ∈ (pre ++ y :: post).map (·.i) ↔ j ∈ (pre ++ post).map (·.i)) := by
          intro j hj
          simp only [List.map_append, List.map_cons, List.mem_append, List.mem_cons]
          constructor
          · rintro (h | h | h)
            · exact .inl h
            · exact absurd h hj
            · exact .inr h
          · rintro (h | h)
            · exact .inl h
            · exact .inr (.inr h)
        refine ⟨by simp [hL.size], fun j hj => ?_, fun s hs => hL.lt s (hsub.mem hs), hs.sublist hsub, hL.pairs.sublist hsub, fun j hj hjn k hk => ?_⟩
        · by_cases hjy : j = y.i
          · subst hjy
            constructor
            · intro h
              rw [getD_listed (d' := true) (by simp [hL.size, hlt])] at h
              simp [Array.getD, hL.size, hlt] at h
            · intro h; exact absurd h hnot
          · rw [getD_set_ne true (Ne.symm hjy), hL.at_ j hj, hmem j hjy]
        · by_cases hjy : j = y.i
          · subst hjy
            exact fun h => hno k hk ((List.Sublist.map _ hsub).mem h)
          · have h1 : j ∉ (pre ++ y :: post).map (·.i) := fun h => hjn ((hmem j hjy).1 h)
            exact fun h => hL.closed j hj h1 k hk ((List.Sublist.map _ hsub).mem h)
      have hlen' : (pre ++ post).length ≤ fuel := by simp at hlen ⊢; omega
      have hst : stApp ops S y = S.app o.dst y.eff := by simp [stApp, ho]
      rw [hst] at hcan'
      unfold wpOp
      rw [ho]
      cases hye : y.e with
      | none =>
        rw [hye] at hw
        simp only [hw, Option.isSome_none, Bool.false_eq_true, if_false]
        have e : S.app o.dst y.eff = S.put o.dst (.tup []) := by simp [Stp.eff, hye, St.app, St.kill, St.sets]
        rw [e] at hcan'
        exact ih _ _ _ C B _ w hL' hlen' hcan' hn (hR.put o.dst (.tup []) undef ⟨#[], rfl, trivial⟩ (fun t ht => by rw [hn]; exact hdst t ht)) K hK
      | some e =>
        rw [hye] at hw
        simp only [hw, Option.isSome_some, if_true]
        refine .inl (hop e hye S (fun _ _ => rfl) (fun _ _ => rfl) C B a w hR (fun t ht => by rw [hn]; exact hdst t ht) _ _ fun e' B' v w' hE hr => ?_)
        subst hE
        have ee : y.eff = e' := by simp [Stp.eff, hye]
        rw [ee] at hcan'
        exact ih _ _ _ C B' _ w' hL' hlen' hcan' hn hr K hK

theorem vc_draw {id : Nat} (hm : P.follows .mixedOrders = true) (cl : Nat → List Nat) (hin : dstsIn n ops = true) (hcl : clOk ops cl = true) {l : List Stp} (hcan : Can P ops S l Sf)
    (hidx : l.map (·.i) = List.range ops.size) (hp : pairsOk ops cl l = true) (h : Q .normal Sf) : VC P n (.region id ops true) S Q := by
  intro C B a w hn hR
  have hL : Left ops cl (Array.replicate ops.size false) l := by
    refine ⟨by simp, fun i hi => ?_, fun s hs => ?_, ?_, pairs_pw hp, fun j hj hjn => ?_⟩
    · rw [hidx]; simp [Array.getD, hi]
    · have : s.i ∈ List.range ops.size := by rw [← hidx]; exact List.mem_map.2 ⟨s, hs, rfl⟩
      exact List.mem_range.1 this
    · have : (l.map (·.i)).Pairwise (· < ·) := by rw [hidx]; exact List.pairwise_lt_range
      exact List.pairwise_map.1 this
    · exact absurd (by rw [hidx]; exact List.mem_range.2 hj) hjn
  have hlen : l.length ≤ ops.size := by
    have := congrArg List.length hidx
    simp at this; omega
  have hR' : Rel C S B a { w with drawn := w.drawn + 1 } := hR.world rfl rfl rfl rfl
  exact wp_region_any hm (draw_any hin hcl ops.size l _ S C B a _ hL hlen hcan hn hR' (up C Q) fun B a w hr => ⟨Sf, B, h, hr⟩)
end
end Go.Vl

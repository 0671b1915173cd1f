/- V-logic, part t: regions whose order is drawn. -/
import Derived.Test.YtpimphfgjhejjaaDoorWe
namespace Go.Vl
open Go Go.RowKit

/-- A step of the text's order: which operation, its effect (none: it is not wanted), what it looks at among the objects, what it makes or turns. -/
structure Stp where
  i : Nat
  e : Option Eff
  rd : List Nat
  tw : List Nat

def Stp.eff (s : Stp) : Eff := s.e.getD { dst := .tup [] }

def StepOk (P : Program) (ops : Array Oper) (S : St) (s : Stp) : Prop :=
  ∃ o, ops[s.i]? = some o ∧ guardOn ops S o = some s.e.isSome ∧ s.eff.kills = [] ∧ s.eff.sets.map (·.1) = s.tw ∧ ∀ e, s.e = some e → OpW P S o s.rd (fun x => x = e)

def stApp (ops : Array Oper) (S : St) (s : Stp) : St := S.app ((ops[s.i]?).bind (·.dst)) s.eff

inductive Can (P : Program) (ops : Array Oper) : St → List Stp → St → Prop
  | nil {S : St} : Can P ops S [] S
  | cons {S Sf : St} {s : Stp} {l : List Stp} (h : StepOk P ops S s) (k : Can P ops (stApp ops S s) l Sf) : Can P ops S (s :: l) Sf

def comm (ops : Array Oper) (x y : Stp) : Bool :=
  match ops[x.i]?, ops[y.i]? with
  | some ox, some oy => ox.apart ops oy && x.tw.all (fun q => !y.rd.contains q && !y.tw.contains q) && y.tw.all (fun q => !x.rd.contains q)
  | _, _ => false

theorem sets_obj (l : List (Nat × Ob)) (S : St) {q : Nat} (h : q ∉ l.map (·.1)) : (S.sets l).obj q = S.obj q := by
  induction l with
  | nil => rfl
  | cons p l ih =>
    obtain ⟨o, ob⟩ := p
    simp at h
    show (if q = o then some ob else (S.sets l).obj q) = _
    rw [if_neg h.1]
    exact ih (by simpa using h.2)
theorem sets_obj_congr (l : List (Nat × Ob)) {S S' : St} {q : Nat} (h : S.obj q = S'.obj q) : (S.sets l).obj q = (S'.sets l).obj q := by
  induction l with
  | nil => exact h
  | cons p l ih =>
    obtain ⟨o, ob⟩ := p
    show (if q = o then some ob else (S.sets l).obj q) = if q = o then some ob else (S'.sets l).obj q
    rw [ih]

theorem put_slot (S : St) (d : Option Nat) (s : Slot) (t : Nat) : (S.put d s).slot t = if d = some t then s else S.slot t := by
  cases d with
  | none => simp [St.put]
  | some d =>
    show (if t = d then s else S.slot t) = _
    by_cases h : t = d
    · subst h; simp
    · rw [if_neg h, if_neg (by intro e; cases e; exact h rfl)]
theorem put_obj (S : St) (d : Option Nat) (s : Slot) : (S.put d s).obj = S.obj := by cases d <;> rfl

theorem app_slot (S : St) (d : Option Nat) (e : Eff) (hk : e.kills = []) (t : Nat) : (S.app d e).slot t = if d = some t then e.dst else S.slot t := by
  unfold St.app
  rw [put_slot, sets_slot, hk]; rfl
theorem app_obj (S : St) (d : Option Nat) (e : Eff) (hk : e.kills = []) (q : Nat) : (S.app d e).obj q = (S.sets e.sets).obj q := by
  unfold St.app
  rw [put_obj, hk]; rfl

theorem app_comm (S : St) {d d' : Option Nat} {e e' : Eff} (hk : e.kills = []) (hk' : e'.kills = []) (hd : ∀ t, d = some t → d' ≠ some t) (hs : ∀ q, q ∈ e.sets.map (·.1) → q ∉ e'.sets.map (·.1)) :
    (S.app d e).app d' e' = (S.app d' e').app d e := by
  have h1 : ((S.app d e).app d' e').slot = ((S.app d' e').app d e).slot := by
    funext t
    rw [app_slot _ _ _ hk', app_slot _ _ _ hk, app_slot _ _ _ hk, app_slot _ _ _ hk']
    by_cases h : d = some t
    · rw [if_pos h, if_pos h, if_neg (hd t h)]
    · rw [if_neg h, if_neg h]
  have h2 : ((S.app d e).app d' e').obj = ((S.app d' e').app d e).obj := by
    funext q
    rw [app_obj _ _ _ hk', app_obj _ _ _ hk]
    by_cases h : q ∈ e.sets.map (·.1)
    · rw [sets_obj _ _ (hs q h), app_obj _ _ _ hk]
      exact sets_obj_congr _ (by rw [app_obj _ _ _ hk', sets_obj _ _ (hs q h)])
    · rw [sets_obj _ (S.app d' e') h, app_obj _ _ _ hk']
      exact sets_obj_congr _ (by rw [app_obj _ _ _ hk, sets_obj _ _ h])
  cases h3 : (S.app d e).app d' e' with
  | mk a b =>
    cases h4 : (S.app d' e').app d e with
    | mk a' b' => rw [h3, h4] at h1 h2; simp at h1 h2; rw [h1, h2]

section
variable {P : Program} {n : Nat} {S Sf : St} {Q : Post} {ops : Array Oper}

theorem opW_congr {S S' : St} {o : Oper} {rd : List Nat} {E : Eff → Prop} (h : OpW P S o rd E) (h1 : ∀ x, x ∈ o.op.operands → ev S' x = ev S x) (h2 : ∀ r, r ∈ rd → S'.obj r = S.obj r) : OpW P S' o rd E :=
  fun S'' k1 k2 => h S'' (fun x hx => (k1 x hx).trans (h1 x hx)) (fun r hr => (k2 r hr).trans (h2 r hr))

theorem looks_op {o : Oper} {t : Nat} (h : Operand.tmp t ∈ o.op.operands) : t ∈ o.looksAt ops := by
  unfold Oper.looksAt
  refine List.mem_append.2 (.inl (List.mem_filterMap.2 ⟨.tmp t, Array.mem_toList_iff.2 h, rfl⟩))
theorem looks_guard {o : Oper} {j : Nat} {w : Bool} {t : Nat} (hg : o.guard = some (j, w)) (hj : (ops[j]?).bind (·.dst) = some t) : t ∈ o.looksAt ops := by
  unfold Oper.looksAt
  refine List.mem_append.2 (.inr ?_)
  rw [hg]
  simp only [hj]
  exact List.mem_singleton.2 rfl

/-- A step that goes apart from another's doing is the same ahead of it and behind it. -/
theorem stepOk_congr {S S' : St} {s : Stp} {d : Option Nat} (h : StepOk P ops S s) (hs : ∀ t, d ≠ some t → S'.slot t = S.slot t) (hl : ∀ o, ops[s.i]? = some o → ∀ t, d = some t → t ∉ o.looksAt ops)
    (ho : ∀ r, r ∈ s.rd → S'.obj r = S.obj r) : StepOk P ops S' s := by
  obtain ⟨o, hi, hg, hk, htw, he⟩ := h
  have hev : ∀ x, x ∈ o.op.operands → ev S' x = ev S x := by
    intro x hx
    cases x with
    | tmp t => exact hs t fun e => hl o hi t e (looks_op hx)
    | _ => rfl
  refine ⟨o, hi, ?_, hk, htw, fun e h => opW_congr (he e h) hev ho⟩
  rw [← hg]
  unfold guardOn
  split
  · rfl
  · rename_i j want hgd
    split
    · rfl
    · rename_i t hj
      rw [hs t fun e => hl o hi t e (looks_guard hgd hj)]

theorem swap {x y : Stp} (hc : comm ops x y = true) (hx : StepOk P ops S x) (hy : StepOk P ops (stApp ops S x) y) :
    StepOk P ops S y ∧ StepOk P ops (stApp ops S y) x ∧ stApp ops (stApp ops S x) y = stApp ops (stApp ops S y) x := by
  have hx0 := hx
  have hy0 := hy
  obtain ⟨ox, hix, _, hkx, htx, _⟩ := hx0
  obtain ⟨oy, hiy, _, hky, hty, _⟩ := hy0
  unfold comm at hc
  rw [hix, hiy] at hc
  simp only [Bool.and_eq_true, List.all_eq_true, Bool.not_eq_true', List.contains_eq_mem, decide_eq_false_iff_not] at hc
  obtain ⟨⟨ha, hq1⟩, hq2⟩ := hc
  obtain ⟨a1, a2, a3⟩ := Oper.apart_spec ha
  have ex : stApp ops S x = S.app ox.dst x.eff := by simp [stApp, hix]
  have ey : stApp ops S y = S.app oy.dst y.eff := by simp [stApp, hiy]
  have hSy : StepOk P ops S y := by
    refine stepOk_congr (d := ox.dst) hy (fun t ht => ?_) (fun o ho t ht => ?_) (fun r hr => ?_)
    · rw [ex, app_slot _ _ _ hkx, if_neg ht]
    · rw [hiy] at ho; cases ho; exact a1 t ht
    · rw [ex, app_obj _ _ _ hkx, sets_obj]
      rw [htx]; exact fun h => (hq1 r h).1 hr
  refine ⟨hSy, ?_, ?_⟩
  · refine stepOk_congr (d := oy.dst) hx (fun t ht => ?_) (fun o ho t ht => ?_) (fun r hr => ?_)
    · rw [ey, app_slot _ _ _ hky, if_neg ht]
    · rw [hix] at ho; cases ho; exact a3 t ht
    · rw [ey, app_obj _ _ _ hky, sets_obj]
      rw [hty]; exact fun h => hq2 r h hr
  · rw [ex, ey]
    simp only [stApp, hix, hiy, Option.bind_some]
    exact app_comm S hkx hky (fun t ht => a2 t ht) (fun q hq => by rw [hty]; rw [htx] at hq; exact (hq1 q hq).2)

theorem bubble {y : Stp} {post : List Stp} : ∀ {pre : List Stp} {S : St}, Can P ops S (pre ++ y :: post) Sf → (∀ x ∈ pre, comm ops x y = true) →
    StepOk P ops S y ∧ Can P ops (stApp ops S y) (pre ++ post) Sf
  | [], S, h, _ => by cases h with | cons h k => exact ⟨h, k⟩
  | x :: pre, S, h, hc => by
    cases h with
    | cons h k =>
      obtain ⟨h1, h2⟩ := bubble k fun z hz => hc z (by simp [hz])
      obtain ⟨h3, h4, h5⟩ := swap (hc x (by simp)) h h1
      exact ⟨h3, .cons h4 (by rw [← h5]; exact h2)⟩

/-- What must have been done ahead of each operation: a table that is asked whether it follows from the edges. -/
def clOk (ops : Array Oper) (cl : Nat → List Nat) : Bool :=
  (List.range ops.size).all fun i => match ops[i]? with
    | some o => (o.after.toList.all fun e => !Region.binds .any e || Nat.blt e.on i) && (cl i).all fun j => o.after.toList.any fun e => Region.binds .any e && (e.on == j || (cl e.on).contains j)
    | none => false

def pairsOk (ops : Array Oper) (cl : Nat → List Nat) : List Stp → Bool
  | [] => true
  | x :: l => (l.all fun y => (cl y.i).contains x.i || comm ops x y) && pairsOk ops cl l

theorem pairs_pw {cl : Nat → List Nat} : ∀ {l : List Stp}, pairsOk ops cl l = true → l.Pairwise fun x y => x.i ∈ cl y.i ∨ comm ops x y = true
  | [], _ => .nil
  | x :: l, h => by
    simp only [pairsOk, Bool.and_eq_true, List.all_eq_true, Bool.or_eq_true, List.contains_eq_mem, decide_eq_true_eq] at h
    exact .cons h.1 (pairs_pw h.2)

/-- What is listed, and what is left. -/
structure Left (ops : Array Oper) (cl : Nat → List Nat) (listed : Array Bool) (rem : List Stp) : Prop where
  size : listed.size = ops.size
  at_ : ∀ i, i < ops.size → (listed.getD i true = false ↔ i ∈ rem.map (·.i))
  lt : ∀ s ∈ rem, s.i < ops.size
  sorted : rem.Pairwise fun x y => x.i < y.i
  pairs : rem.Pairwise fun x y => x.i ∈ cl y.i ∨ comm ops x y = true
  closed : ∀ j, j < ops.size → j ∉ rem.map (·.i) → ∀ k ∈ cl j, k ∉ rem.map (·.i)

theorem getD_listed {listed : Array Bool} {i : Nat} (h : i < listed.size) (d d' : Bool) : listed.getD i d = listed.getD i d' := by
  simp [Array.getD, h]

theorem ready_mem {listed : Array Bool} {i : Nat} : i ∈ Region.ready .any ops listed ↔ i < ops.size ∧ listed.getD i true = false ∧ ∃ o, ops[i]? = some o ∧ ∀ e ∈ o.after.toList, Region.binds .any e = true → listed.getD e.on false = true := by
  unfold Region.ready
  rw [List.mem_filter, List.mem_range]
  constructor
  · rintro ⟨h1, h2⟩
    simp only [Bool.and_eq_true, Bool.not_eq_true'] at h2
    refine ⟨h1, h2.1, ?_⟩
    cases ho : ops[i]? with
    | none => rw [ho] at h2; simp at h2
    | some o =>
      rw [ho] at h2
      refine ⟨o, rfl, fun e he hb => ?_⟩
      have h3 := h2.2
      simp only [Option.map_some, Option.getD_some] at h3
      rw [← Array.all_toList, List.all_eq_true] at h3
      have := h3 e he
      rw [hb] at this
      simpa using this
  · rintro ⟨h1, h2, o, ho, h3⟩
    refine ⟨h1, ?_⟩
    rw [h2, ho]
    simp only [Bool.not_false, Bool.true_and, Option.map_some, Option.getD_some]
    rw [← Array.all_toList, List.all_eq_true]
    intro e he
    cases hb : Region.binds .any e with
    | false => rfl
    | true => simpa using h3 e he hb

theorem draw_any (hin : dstsIn n ops = true) {cl : Nat → List Nat} (hcl : clOk ops cl = true) : ∀ (fuel : Nat) (rem : List Stp) (listed : Array Bool) (S : St) (C : Ctx) (B : Pl) (a : Act) (w : World),
    Left ops cl listed rem → rem.length ≤ fuel → Can P ops S rem Sf → C.n = n → Rel C S B a w → ∀ (K : Exit → Act → World → Prop), (∀ B a w, Rel C Sf B a w → K .normal a w) → wpAny P .any ops K fuel listed a w := by
  have hcl' : ∀ i o, ops[i]? = some o → (∀ e ∈ o.after.toList, Region.binds .any e = true → e.on < i) ∧ ∀ j ∈ cl i, ∃ e ∈ o.after.toList, Region.binds .any e = true ∧ (e.on = j ∨ j ∈ cl e.on) := by
    intro i o ho
    unfold clOk at hcl
    rw [List.all_eq_true] at hcl
    have hlt : i < ops.size := (Array.getElem?_eq_some_iff.1 ho).1
    have h := hcl i (List.mem_range.2 hlt)
    rw [ho] at h
    simp only [Bool.and_eq_true, List.all_eq_true, List.any_eq_true, Bool.or_eq_true, beq_iff_eq, List.contains_eq_mem, decide_eq_true_eq] at h
    refine ⟨fun e he hb => ?_, fun j hj => ?_⟩
    · rcases h.1 e he with h1 | h1
      · rw [hb] at h1; simp at h1
      · exact (by simpa using h1)
    · obtain ⟨e, he, h1, h2⟩ := h.2 j hj
      exact ⟨e, he, h1, h2⟩
  -- behind the last nothing is ready; ahead of it something is
  have empty : ∀ {rem : List Stp} {listed : Array Bool}, Left ops cl listed rem → Region.ready .any ops listed = [] → rem = [] := by
    intro rem listed hL hr
    cases rem with
    | nil => rfl
    | cons y rem =>
      exfalso
      have hlt := hL.lt y (by simp)
      have hm : y.i ∈ Region.ready .any ops listed := by
        refine ready_mem.2 ⟨hlt, (hL.at_ y.i hlt).2 (by simp), ops[y.i], Array.getElem?_eq_getElem hlt, fun e he hb => ?_⟩
        have hel := (hcl' y.i _ (Array.getElem?_eq_getElem hlt)).1 e he hb
        rw [getD_listed (d' := true) (by rw [hL.size]; omega)]
        cases hh : listed.getD e.on true with
        | true => rfl
        | false =>
          exfalso
          have := (hL.at_ e.on (by omega)).1 hh
          simp only [List.map_cons, List.mem_cons] at this
          rcases this with h | h
          · omega
          · obtain ⟨z, hz, hze⟩ := List.mem_map.1 h
            have := (List.pairwise_cons.1 hL.sorted).1 z hz
            omega
      rw [hr] at hm; cases hm
  intro fuel
  induction fuel with
  | zero =>
    intro rem listed S C B a w hL hlen hcan hn hR K hK
    have hr : rem = [] := List.eq_nil_of_length_eq_zero (by omega)
    subst hr
    cases hcan
    refine ⟨?_, hK B a w hR⟩
    cases hh : Region.ready .any ops listed with
    | nil => rfl
    | cons i l =>
      have := ready_mem.1 (show i ∈ Region.ready .any ops listed by rw [hh]; simp)
      have := (hL.at_ i this.1).1 this.2.1
      simp at this
  | succ fuel ih =>
    intro rem listed S C B a w hL hlen hcan hn hR K hK
    refine ⟨fun hr => ?_, fun i hi => ?_⟩
    · have := empty hL hr
      subst this
      cases hcan
      exact hK B a w hR
    · obtain ⟨hlt, hf, o, ho, haf⟩ := ready_mem.1 hi
      obtain ⟨y, hy, rfl⟩ := List.mem_map.1 ((hL.at_ i hlt).1 hf)
      obtain ⟨pre, post, rfl⟩ := List.append_of_mem hy
      -- nothing that is left ahead of it must come first
      have hno : ∀ k ∈ cl y.i, k ∉ (pre ++ y :: post).map (·.i) := by
        intro k hk
        obtain ⟨e, he, hb, h⟩ := (hcl' y.i o ho).2 k hk
        have hel := (hcl' y.i o ho).1 e he hb
        have hlst := haf e he hb
        rw [getD_listed (d' := true) (by rw [hL.size]; omega)] at hlst
        have hen : e.on ∉ (pre ++ y :: post).map (·.i) := fun hm => by
          have := (hL.at_ e.on (by omega)).2 hm
          rw [hlst] at this; cases this
        rcases h with rfl | h
        · exact hen
        · exact hL.closed e.on (by omega) hen k h
      have hcm : ∀ x ∈ pre, comm ops x y = true := by
        intro x hx
        have := (List.pairwise_append.1 hL.pairs).2.2 x hx y (by simp)
        rcases this with h | h
        · exact absurd (List.mem_map.2 ⟨x, by simp [hx], rfl⟩) (hno x.i h)
        · exact h
      obtain ⟨hok, hcan'⟩ := bubble hcan hcm
      obtain ⟨o', ho', hg, hk, htw, hop⟩ := hok
      rw [ho] at ho'; cases ho'
      have hdst := dstsIn_of hin ho
      have hw := guard_wanted hR hg (fun j want t _ hj => by
        cases hjj : ops[j]? with
        | none => simp [hjj] at hj
        | some oj => simp [hjj] at hj; rw [hn]; exact dstsIn_of hin hjj t hj)
      have hL' : Left ops cl (listed.setIfInBounds y.i true) (pre ++ post) := by
        have hs := hL.sorted
        have hsub : (pre ++ post).Sublist (pre ++ y :: post) := List.Sublist.append (List.Sublist.refl _) (List.sublist_cons_self _ _)
        have hnot : y.i ∉ (pre ++ post).map (·.i) := by
          intro hm
          obtain ⟨z, hz, hzi⟩ := List.mem_map.1 hm
          rcases List.mem_append.1 hz with hz | hz
          · have := (List.pairwise_append.1 hs).2.2 z hz y (by simp); omega
          · have := (List.pairwise_cons.1 (List.pairwise_append.1 hs).2.1).1 z hz; omega
        have hmem : ∀ j, j ≠ y.i → (j ∈ (pre ++ y :: post).map (·.i) ↔ j ∈ (pre ++ post).map (·.i)) := by
          intro j hj
          simp only [List.map_append, List.map_cons, List.mem_append, List.mem_cons]
          constructor
          · rintro (h | h | h)
            · exact .inl h
            · exact absurd h hj
            · exact .inr h
          · rintro (h | h)
            · exact .inl h
            · exact .inr (.inr h)
        refine ⟨by simp [hL.size], fun j hj => ?_, fun s hs => hL.lt s (hsub.mem hs), hs.sublist hsub, hL.pairs.sublist hsub, fun j hj hjn k hk => ?_⟩
        · by_cases hjy : j = y.i
          · subst hjy
            constructor
            · intro h
              rw [getD_listed (d' := true) (by simp [hL.size, hlt])] at h
              simp [Array.getD, hL.size, hlt] at h
            · intro h; exact absurd h hnot
          · rw [getD_set_ne true (Ne.symm hjy), hL.at_ j hj, hmem j hjy]
        · by_cases hjy : j = y.i
          · subst hjy
            exact fun h => hno k hk ((List.Sublist.map _ hsub).mem h)
          · have h1 : j ∉ (pre ++ y :: post).map (·.i) := fun h => hjn ((hmem j hjy).1 h)
            exact fun h => hL.closed j hj h1 k hk ((List.Sublist.map _ hsub).mem h)
      have hlen' : (pre ++ post).length ≤ fuel := by simp at hlen ⊢; omega
      have hst : stApp ops S y = S.app o.dst y.eff := by simp [stApp, ho]
      rw [hst] at hcan'
      unfold wpOp
      rw [ho]
      cases hye : y.e with
      | none =>
        rw [hye] at hw
        simp only [hw, Option.isSome_none, Bool.false_eq_true, if_false]
        have e : S.app o.dst y.eff = S.put o.dst (.tup []) := by simp [Stp.eff, hye, St.app, St.kill, St.sets]
        rw [e] at hcan'
        exact ih _ _ _ C B _ w hL' hlen' hcan' hn (hR.put o.dst (.tup []) undef ⟨#[], rfl, trivial⟩ (fun t ht => by rw [hn]; exact hdst t ht)) K hK
      | some e =>
        rw [hye] at hw
        simp only [hw, Option.isSome_some, if_true]
        refine .inl (hop e hye S (fun _ _ => rfl) (fun _ _ => rfl) C B a w hR (fun t ht => by rw [hn]; exact hdst t ht) _ _ fun e' B' v w' hE hr => ?_)
        subst hE
        have ee : y.eff = e' := by simp [Stp.eff, hye]
        rw [ee] at hcan'
        exact ih _ _ _ C B' _ w' hL' hlen' hcan' hn hr K hK

theorem vc_draw {id : Nat} (hm : P.follows .mixedOrders = true) (cl : Nat → List Nat) (hin : dstsIn n ops = true) (hcl : clOk ops cl = true) {l : List Stp} (hcan : Can P ops S l Sf)
    (hidx : l.map (·.i) = List.range ops.size) (hp : pairsOk ops cl l = true) (h : Q .normal Sf) : VC P n (.region id ops true) S Q := by
  intro C B a w hn hR
  have hL : Left ops cl (Array.replicate ops.size false) l := by
    refine ⟨by simp, fun i hi => ?_, fun s hs => ?_, ?_, pairs_pw hp, fun j hj hjn => ?_⟩
    · rw [hidx]; simp [Array.getD, hi]
    · have : s.i ∈ List.range ops.size := by rw [← hidx]; exact List.mem_map.2 ⟨s, hs, rfl⟩
      exact List.mem_range.1 this
    · have : (l.map (·.i)).Pairwise (· < ·) := by rw [hidx]; exact List.pairwise_lt_range
      exact List.pairwise_map.1 this
    · exact absurd (by rw [hidx]; exact List.mem_range.2 hj) hjn
  have hlen : l.length ≤ ops.size := by
    have := congrArg List.length hidx
    simp at this; omega
  have hR' : Rel C S B a { w with drawn := w.drawn + 1 } := hR.world rfl rfl rfl rfl
  exact wp_region_any hm (draw_any hin hcl ops.size l _ S C B a _ hL hlen hcan hn hR' (up C Q) fun B a w hr => ⟨Sf, B, h, hr⟩)
end
end Go.Vl

/- V-logic, part u: regions whose order is drawn: what runs by itself; small rules for walks. -/
namespace Go.Vl
open Go Go.RowKit

def addN (l : List Nat) (x : Nat) : List Nat := if l.contains x then l else x :: l
def clTab : List Oper → List (List Nat) → List (List Nat)
  | [], t => t
  | o :: l, t => clTab l (t ++ [o.after.toList.foldl (fun acc e => if Region.binds .any e then ((t[e.on]?).getD []).foldl addN (addN acc e.on) else acc) []])
def clOf (ops : Array Oper) (i : Nat) : List Nat := ((clTab ops.toList [])[i]?).getD []

def autoCan (T : Tab) (ops : Array Oper) : List Nat → St → List Stp × St × List Nat
  | [], S => ([], S, [])
  | i :: l, S => match ops[i]? with
    | none => ([], S, i :: l)
    | some o => match guardOn ops S o with
      | some true => match auto T S o with
        | some e => match e.kills with
          | [] => match autoCan T ops l (S.app o.dst e) with
            | (s, S', r) => (⟨i, some e, e.reads ++ e.sets.map (·.1), e.sets.map (·.1)⟩ :: s, S', r)
          | _ :: _ => ([], S, i :: l)
        | none => ([], S, i :: l)
      | some false => match autoCan T ops l (S.app o.dst { dst := .tup [] }) with
        | (s, S', r) => (⟨i, none, [], []⟩ :: s, S', r)
      | none => ([], S, i :: l)

section
variable {P : Program} {T : Tab} {n : Nat} {S Sf : St} {Q : Post} {ops : Array Oper}

theorem autoCan_ok (hT : TabOk P T) : ∀ {l : List Nat} {S S' : St} {st : List Stp} {r : List Nat}, autoCan T ops l S = (st, S', r) → ∀ {rest : List Stp}, Can P ops S' rest Sf → Can P ops S (st ++ rest) Sf
  | [], S, S', st, r, h, rest, hk => by simp [autoCan] at h; obtain ⟨rfl, rfl, rfl⟩ := h; exact hk
  | i :: l, S, S', st, r, h, rest, hk => by
    unfold autoCan at h
    split at h
    · cases h; exact hk
    · rename_i o ho
      split at h
      · rename_i hg
        split at h
        · rename_i e he
          split at h
          · rename_i hkl
            simp only [Prod.mk.injEq] at h
            obtain ⟨rfl, rfl, rfl⟩ := h
            refine .cons ⟨o, ho, hg, hkl, rfl, fun e' he' => ?_⟩ ?_
            · cases he'; exact (auto_ok hT he).w
            · have := autoCan_ok hT (l := l) (S := S.app o.dst e) rfl hk
              simpa [stApp, ho, Stp.eff] using this
          · cases h; exact hk
        · cases h; exact hk
      · rename_i hg
        simp only [Prod.mk.injEq] at h
        obtain ⟨rfl, rfl, rfl⟩ := h
        refine .cons ⟨o, ho, hg, rfl, rfl, fun e' he' => by cases he'⟩ ?_
        have := autoCan_ok hT (l := l) (S := S.app o.dst { dst := .tup [] }) rfl hk
        simpa [stApp, ho, Stp.eff] using this
      · cases h; exact hk

/-- What is left of a drawn region: its steps so far (newest last), the state, the operations to come. -/
def Dr (P : Program) (ops : Array Oper) (S : St) (l : List Nat) (st : List Stp) (K : St → List Stp → Prop) : Prop :=
  ∃ rest Sf, rest.map (·.i) = l ∧ Can P ops S rest Sf ∧ K Sf (st ++ rest)

theorem Dr.run (hT : TabOk P T) {l : List Nat} {S S' : St} {st st' : List Stp} {r : List Nat} {K : St → List Stp → Prop} (h : autoCan T ops l S = (st', S', r)) (hl : l = st'.map (·.i) ++ r) (k : Dr P ops S' r (st ++ st') K) : Dr P ops S l st K := by
  obtain ⟨rest, Sf, h1, h2, h3⟩ := k
  exact ⟨st' ++ rest, Sf, by rw [List.map_append, h1, hl], autoCan_ok hT h h2, by simpa using h3⟩
theorem Dr.op {i : Nat} {l : List Nat} {S : St} {st : List Stp} {K : St → List Stp → Prop} {o : Oper} (ho : ops[i]? = some o) (hg : guardOn ops S o = some true) {rd : List Nat} {E : Eff → Prop} {e : Eff} (hk : e.kills = []) (he : OpW P S o rd E) (hE : ∀ x, E x → x = e)
    (k : Dr P ops (S.app o.dst e) l (st ++ [⟨i, some e, rd, e.sets.map (·.1)⟩]) K) : Dr P ops S (i :: l) st K := by
  obtain ⟨rest, Sf, h1, h2, h3⟩ := k
  refine ⟨⟨i, some e, rd, e.sets.map (·.1)⟩ :: rest, Sf, by simp [h1], .cons ⟨o, ho, hg, hk, rfl, fun e' he' => ?_⟩ (by simpa [stApp, ho, Stp.eff] using h2), by simpa using h3⟩
  cases he'
  exact fun S' k1 k2 C B a w hR hd next Q hn => he S' k1 k2 C B a w hR hd next Q fun x B' v w' hx hr => hn x B' v w' (hE x hx) hr
theorem Dr.done {S : St} {st : List Stp} {K : St → List Stp → Prop} (h : K S st) : Dr P ops S [] st K := ⟨[], S, rfl, .nil, by simpa using h⟩

theorem vc_dr {id : Nat} (hm : P.follows .mixedOrders = true) (hin : dstsIn n ops = true) (hcl : clOk ops (clOf ops) = true)
    (h : Dr P ops S (List.range ops.size) [] (fun Sf l => pairsOk ops (clOf ops) l = true ∧ Q .normal Sf)) : VC P n (.region id ops true) S Q := by
  obtain ⟨rest, Sf, h1, h2, h3, h4⟩ := h
  exact vc_draw hm (clOf ops) hin hcl h2 h1 (by simpa using h3) h4
end
end Go.Vl

/- V-logic, part v: splits at guards; states given by lists, taken for another; calls of pure functions. -/
namespace Go.Vl
open Go Go.RowKit

theorem put_same {S : St} {t : Nat} {b b' : Bool} (h : S.slot t = .one (.g (.bool b))) (hb : b = b') : S.put (some t) (.one (.g (.bool b'))) = S := by
  subst hb
  cases S with
  | mk sl ob =>
    simp only [St.put]
    congr 1
    funext x
    split
    · rename_i e; subst e; exact h.symm
    · rfl

def gtmp (ops : Array Oper) (i : Nat) : Option Nat := (ops[i]?).bind fun o => o.guard.bind fun g => (ops[g.1]?).bind (·.dst)

section
variable {P : Program} {T : Tab} {n : Nat} {S Sf : St} {ops : Array Oper}

theorem vo_split {K : St → Prop} {i : Nat} {l : List Nat} {t : Nat} {b : Bool} (_ : gtmp ops i = some t) (h : S.slot t = .one (.g (.bool b)))
    (ht : b = true → VO P n ops (i :: l) (S.put (some t) (.one (.g (.bool true)))) K) (hf : b = false → VO P n ops (i :: l) (S.put (some t) (.one (.g (.bool false)))) K) : VO P n ops (i :: l) S K := by
  cases b with
  | true => have := ht rfl; rwa [put_same h rfl] at this
  | false => have := hf rfl; rwa [put_same h rfl] at this
theorem Dr.split {K : St → List Stp → Prop} {i : Nat} {l : List Nat} {st : List Stp} {t : Nat} {b : Bool} (_ : gtmp ops i = some t) (h : S.slot t = .one (.g (.bool b)))
    (ht : b = true → Dr P ops (S.put (some t) (.one (.g (.bool true)))) (i :: l) st K) (hf : b = false → Dr P ops (S.put (some t) (.one (.g (.bool false)))) (i :: l) st K) : Dr P ops S (i :: l) st K := by
  cases b with
  | true => have := ht rfl; rwa [put_same h rfl] at this
  | false => have := hf rfl; rwa [put_same h rfl] at this

def alk {α : Type} : List (Nat × α) → Nat → Option α
  | [], _ => none
  | (k, a) :: l, t => if t = k then some a else alk l t
def stOf (ts : List (Nat × Slot)) (os : List (Nat × Ob)) : St := ⟨fun t => (alk ts t).getD .bad, alk os⟩
def covT (S : St) (ρ : Nat → Option Nat) : List (Nat × Slot) → Prop
  | [] => True
  | (t, s) :: l => rnS ρ (S.slot t) = s ∧ covT S ρ l
def covO (S : St) (ρ : Nat → Option Nat) : List (Nat × Nat) → List (Nat × Ob) → Prop
  | [], [] => True
  | (o, k) :: m, (k', ob) :: os => k = k' ∧ (∃ ob0, S.obj o = some ob0 ∧ rnO ρ ob0 = ob) ∧ covO S ρ m os
  | _, _ => False
def mOk (m : List (Nat × Nat)) : Bool := m.all (fun p => p.1 == p.2 || (Nat.ble 100 p.1 && Nat.ble 100 p.2))
def nodupB : List Nat → Bool
  | [] => true
  | x :: l => !l.contains x && nodupB l
theorem nodupB_ok : ∀ {l : List Nat}, nodupB l = true → l.Nodup
  | [], _ => .nil
  | x :: l, h => by
    simp only [nodupB, Bool.and_eq_true, Bool.not_eq_true', List.contains_eq_mem, decide_eq_false_iff_not] at h
    exact List.nodup_cons.2 ⟨h.1, nodupB_ok h.2⟩

theorem alk_mem {α : Type} : ∀ {l : List (Nat × α)} {t : Nat} {a : α}, alk l t = some a → (t, a) ∈ l
  | [], _, _, h => by simp [alk] at h
  | (k, x) :: l, t, a, h => by
    unfold alk at h
    split at h
    · rename_i e; cases h; subst e; simp
    · exact List.mem_cons_of_mem _ (alk_mem h)
theorem alk_of {α : Type} : ∀ {l : List (Nat × α)} {t : Nat} {a : α}, (l.map (·.1)).Nodup → (t, a) ∈ l → alk l t = some a
  | [], _, _, _, h => by simp at h
  | (k, x) :: l, t, a, hn, h => by
    simp only [List.map_cons, List.nodup_cons] at hn
    unfold alk
    rcases List.mem_cons.1 h with h | h
    · cases h; simp
    · have : t ≠ k := fun e => hn.1 (List.mem_map.2 ⟨(t, a), h, e⟩)
      rw [if_neg this]
      exact alk_of hn.2 h

theorem covT_at {ρ : Nat → Option Nat} : ∀ {ts : List (Nat × Slot)}, covT S ρ ts → ∀ t s, (t, s) ∈ ts → rnS ρ (S.slot t) = s
  | [], _, _, _, h => by simp at h
  | (k, x) :: l, hc, t, s, h => by
    rcases List.mem_cons.1 h with h | h
    · cases h; exact hc.1
    · exact covT_at hc.2 t s h
theorem covO_at {ρ : Nat → Option Nat} : ∀ {m : List (Nat × Nat)} {os : List (Nat × Ob)}, covO S ρ m os → os.map (·.1) = m.map (·.2) ∧ (∀ k ob, (k, ob) ∈ os → ∃ o, (o, k) ∈ m ∧ ∃ ob0, S.obj o = some ob0 ∧ rnO ρ ob0 = ob) ∧
    ∀ o k, (o, k) ∈ m → ∃ ob0, S.obj o = some ob0 ∧ (k, rnO ρ ob0) ∈ os
  | [], [], _ => by simp
  | [], _ :: _, h => h.elim
  | _ :: _, [], h => h.elim
  | (o, k) :: m, (k', ob) :: os, h => by
    obtain ⟨rfl, ⟨ob0, h1, h2⟩, h3⟩ := h
    obtain ⟨e1, e2, e3⟩ := covO_at h3
    refine ⟨by simp [e1], fun k2 ob2 hm => ?_, fun o2 k2 hm => ?_⟩
    · rcases List.mem_cons.1 hm with hm | hm
      · cases hm; exact ⟨o, by simp, ob0, h1, h2⟩
      · obtain ⟨o3, h4, h5⟩ := e2 k2 ob2 hm; exact ⟨o3, by simp [h4], h5⟩
    · rcases List.mem_cons.1 hm with hm | hm
      · cases hm; exact ⟨ob0, h1, by simp [h2]⟩
      · obtain ⟨ob3, h4, h5⟩ := e3 o2 k2 hm; exact ⟨ob3, h4, by simp [h5]⟩

/-- A state may be taken for one given by lists, under new names of objects. -/
theorem wk_to (m : List (Nat × Nat)) {ts : List (Nat × Slot)} {os : List (Nat × Ob)} (h1 : mOk m = true) (h2 : nodupB (m.map (·.1)) = true) (h3 : nodupB (m.map (·.2)) = true)
    (hT : covT S (alk m) ts) (hO : covO S (alk m) m os) : Wk n S (stOf ts os) := by
  intro C B a w hn hR
  have hn1 := nodupB_ok h2
  have hn2 := nodupB_ok h3
  obtain ⟨e1, e2, e3⟩ := covO_at hO
  have hn3 : (os.map (·.1)).Nodup := by rw [e1]; exact hn2
  have hm1 : ∀ o k, (o, k) ∈ m → o = k ∨ (100 ≤ o ∧ 100 ≤ k) := by
    intro o k hm
    unfold mOk at h1
    rw [List.all_eq_true] at h1
    have := h1 (o, k) hm
    simpa [Bool.or_eq_true] using this
  have fn : ∀ o k k', (o, k) ∈ m → (o, k') ∈ m → k = k' := fun o k k' ha hb => Option.some.inj ((alk_of hn1 ha).symm.trans (alk_of hn1 hb))
  have hsw : ((m.map fun p => (p.2, p.1)).map (·.1)).Nodup := by rw [List.map_map]; exact hn2
  have sw : ∀ o k, (o, k) ∈ m → alk (m.map fun p => (p.2, p.1)) k = some o := fun o k h => alk_of hsw (List.mem_map.2 ⟨_, h, rfl⟩)
  refine ⟨fun k => (alk (m.map fun p => (p.2, p.1)) k).bind B, ?_⟩
  generalize hB' : (fun k => (alk (m.map fun p => (p.2, p.1)) k).bind B : Pl) = B'
  have hBk : ∀ o k, (o, k) ∈ m → B' k = B o := fun o k h => by rw [← hB']; simp [sw o k h]
  have live : ∀ k ob, (stOf ts os).obj k = some ob → ∃ o, (o, k) ∈ m ∧ ∃ ob0, S.obj o = some ob0 ∧ rnO (alk m) ob0 = ob := fun k ob h => e2 k ob (alk_mem h)
  have live' : ∀ k, (stOf ts os).obj k ≠ none → ∃ o, (o, k) ∈ m ∧ S.obj o ≠ none := by
    intro k h
    obtain ⟨ob, hob⟩ := Option.ne_none_iff_exists'.1 h
    obtain ⟨o, h1, ob0, h2, _⟩ := live k ob hob
    exact ⟨o, h1, by simp [h2]⟩
  have hdep : ∀ b, dep C.din S B b → dep C.din (stOf ts os) B' b := by
    intro b h
    refine ⟨h.1, fun k x hk hb => ?_⟩
    obtain ⟨o, hm, ho⟩ := live' k hk
    rw [hBk o k hm] at hb
    exact h.2 o x ho hb
  have fwd : ∀ o k ob, alk m o = some k → S.obj o = some ob → B' k = B o ∧ ∃ ob', (stOf ts os).obj k = some ob' ∧ SameShape ob ob' := by
    intro o k ob hr ho
    have hm := alk_mem hr
    refine ⟨hBk o k hm, ?_⟩
    obtain ⟨ob0, h4, h5⟩ := e3 o k hm
    rw [ho] at h4; cases h4
    exact ⟨_, alk_of hn3 h5, rnO_shape _ _⟩
  have el : ∀ l v, LRep w C.din S B l v → LRep w C.din (stOf ts os) B' (rn (alk m) l) v := fun l v hl => LRep.rn (Nat.le_refl _) (fun _ _ _ => rfl) (fun b h _ => hdep b h) (fun o k ob hr ho => fwd o k ob hr ho) hl
  have er : ∀ l v, RepL w (dep C.din S B) l v → RepL w (dep C.din (stOf ts os) B') l v := fun l v hl => RepL_mono (Nat.le_refl _) (fun _ _ _ => rfl) (fun b h _ => hdep b h) l v hl
  have hk100 : ∀ o k, (o, k) ∈ m → k < C.k → o = k := by
    intro o k hm hk
    have := hR.klt
    rcases hm1 o k hm with h | h
    · exact h
    · omega
  refine ⟨hR.size, hR.defers, fun t => ?_, fun k ob hk => ?_, fun k k' b x x' hk hk' hb hb' => ?_, fun k b x hk hb => ?_, hR.frame, hR.dnew, fun k hlt hk => ?_, hR.klt, fun k ob hlt hk => ?_⟩
  · show SRep _ ((alk ts t).getD .bad) _
    cases hs : alk ts t with
    | none => trivial
    | some s =>
      rw [Option.getD_some, ← covT_at hT t s (alk_mem hs)]
      exact (hR.slots t).rnS el
  · obtain ⟨o, hm, ob0, h4, rfl⟩ := live k ob hk
    exact (hR.objs o ob0 h4).rnO (hBk o k hm) el er fun _ _ _ => rfl
  · obtain ⟨o, hm, ho⟩ := live' k hk
    obtain ⟨o', hm', ho'⟩ := live' k' hk'
    have := hR.inj o o' b x x' ho ho' (by rw [← hBk o k hm]; exact hb) (by rw [← hBk o' k' hm']; exact hb')
    subst this
    exact fn o k k' hm hm'
  · obtain ⟨o, hm, ho⟩ := live' k hk
    exact hR.mine o b x ho (by rw [← hBk o k hm]; exact hb)
  · obtain ⟨o, hm, ho⟩ := live' k hk
    have := hk100 o k hm hlt
    subst this
    rw [hBk o o hm]; exact hR.keep o hlt ho
  · obtain ⟨o, hm, ob0, h4, rfl⟩ := live k ob hk
    have := hk100 o k hm hlt
    subst this
    obtain ⟨ob1, h5, h6⟩ := hR.shape o ob0 hlt h4
    exact ⟨ob1, h5, h6.trans (rnO_shape _ _)⟩

-- calls of functions that hand back one thing and touch nothing
def pureQ (s : Slot) : Slot → List (Option Ob) → List Ob → Prop := fun s' o n => s' = s ∧ o = [] ∧ n = []

theorem o_pure {o : Oper} {F : Operand} {Xs : Array Operand} {ats : Array TypeId} (ho : o.op = .call { callee := .value F, args := Xs, argTypes := ats }) {f : FuncId} (hF : ev S F = .one (.clo f []))
    (hfree : S.obj 100000 = none ∧ S.obj 100001 = none ∧ S.obj 100002 = none ∧ S.obj 100003 = none)
    {args : List Slot} (hargs : (Xs.toList.map (ev S)).map (vS true S []) = args) {s : Slot} (h : CallsV P f args [] (pureQ s)) (hg : GrS s) (hs : rnS (back [] 100000) s = s) :
    OpW P S o ([100000, 100001, 100002, 100003] ++ (Xs.toList.map (ev S)).flatMap refsS) (fun e => e = { dst := s }) := by
  have := o_call (S := S) ho hF true [] (obs := []) rfl .nil 100000 (by omega) hfree (args := args) (by simpa using hargs) (objs := []) rfl h
    (fun s' outs news hp => by obtain ⟨rfl, rfl, rfl⟩ := hp; exact ⟨by simp, fun _ => ⟨hg, by simp, by simp⟩⟩)
  intro S' k1 k2 C B a w hR hd next Q hk
  refine this S' k1 (fun r hr => k2 r ?_) C B a w hR hd next Q fun e B' v w' hE hr => hk e B' v w' ?_ hr
  · simpa using hr
  · obtain ⟨s', outs, news, ⟨rfl, rfl, rfl⟩, _, rfl⟩ := hE
    simp [cEff, killsOf, setsOf, newsOf, hs]
end
end Go.Vl

/- V-logic, part w: a walk that evaluates: states as lists, continuations as propositions. -/
namespace Go.Vl
open Go Go.RowKit

structure LS where
  ts : List (Nat × Slot)
  os : List (Nat × Ob)
  ks : List Nat

def LS.st (L : LS) : St := stOf L.ts L.os
def LS.put (L : LS) (d : Option Nat) (s : Slot) : LS := match d with | none => L | some d => ⟨(d, s) :: L.ts, L.os, L.ks⟩
def LS.sets (L : LS) (l : List (Nat × Ob)) : LS := ⟨L.ts, l ++ L.os, L.ks⟩
def LS.known (L : LS) (t : Nat) (b : Bool) : LS := ⟨(t, .one (.g (.bool b))) :: L.ts, L.os, t :: L.ks⟩

theorem stOf_ext {S S' : St} (h1 : ∀ t, S.slot t = S'.slot t) (h2 : ∀ o, S.obj o = S'.obj o) : S = S' := by
  cases S; cases S'; simp only [St.mk.injEq]; exact ⟨funext h1, funext h2⟩
theorem LS.st_put (L : LS) (d : Option Nat) (s : Slot) : (L.put d s).st = L.st.put d s := by
  cases d with
  | none => rfl
  | some d =>
    refine stOf_ext (fun t => ?_) fun o => rfl
    show (if t = d then some s else alk L.ts t).getD .bad = if t = d then s else (alk L.ts t).getD .bad
    split <;> rfl
theorem LS.st_sets (L : LS) (l : List (Nat × Ob)) : (L.sets l).st = L.st.sets l := by
  refine stOf_ext (fun t => by rw [sets_slot]; rfl) fun o => ?_
  induction l with
  | nil => rfl
  | cons p l ih =>
    obtain ⟨q, ob⟩ := p
    show (if o = q then some ob else alk (l ++ L.os) o) = if o = q then some ob else (L.st.sets l).obj o
    rw [← ih]; rfl
theorem LS.st_known (L : LS) (t : Nat) (b : Bool) : (L.known t b).st = L.st.put (some t) (.one (.g (.bool b))) := LS.st_put L (some t) _

-- what makes whnf go on
def fV (v : Value) (k : Value → Prop) : Prop := match v with
  | .int a b => k (.int a b)
  | .bool b => k (.bool b)
  | .string s => k (.string s)
  | .slice a b c => k (.slice a b c)
  | v => k v
def fL (l : Leaf) (k : Leaf → Prop) : Prop := match l with
  | .g x => fV x fun x => k (.g x)
  | .imm sz rows => k (.imm sz rows)
  | .iel r j => k (.iel r j)
  | .own o off len => k (.own o off len)
  | .ptr o i => k (.ptr o i)
  | .elm o i j => k (.elm o i j)
  | .clo f os => k (.clo f os)
  | .mp o => k (.mp o)
  | .err => k .err
  | .bad => k .bad
def fLs : List Leaf → (List Leaf → Prop) → Prop
  | [], k => k []
  | l :: ls, k => fL l fun l => fLs ls fun ls => k (l :: ls)
def fB (b : Bool) (k : Bool → Prop) : Prop := match b with
  | true => k true
  | false => k false
def fTup : List (Bool × List Leaf) → (List (Bool × List Leaf) → Prop) → Prop
  | [], k => k []
  | (b, ls) :: xs, k => fB b fun b => fLs ls fun ls => fTup xs fun xs => k ((b, ls) :: xs)
def fS (s : Slot) (k : Slot → Prop) : Prop := match s with
  | .one l => fL l fun l => k (.one l)
  | .agg ls => fLs ls fun ls => k (.agg ls)
  | .tup xs => fTup xs fun xs => k (.tup xs)
  | .bad => k .bad
def fO (o : Ob) (k : Ob → Prop) : Prop := match o with
  | .box ls => fLs ls fun ls => k (.box ls)
  | .arr E sz rows => k (.arr E sz rows)
  | .map es => k (.map es)
def fSets : List (Nat × Ob) → (List (Nat × Ob) → Prop) → Prop
  | [], k => k []
  | (q, o) :: l, k => fO o fun o => fSets l fun l => k ((q, o) :: l)
theorem fV_eq (v : Value) (k : Value → Prop) : fV v k = k v := by cases v <;> rfl
theorem fL_eq (v : Leaf) (k : Leaf → Prop) : fL v k = k v := by cases v <;> simp [fL, fV_eq]
theorem fLs_eq : ∀ (v : List Leaf) (k : List Leaf → Prop), fLs v k = k v
  | [], k => rfl
  | l :: ls, k => by rw [fLs, fL_eq, fLs_eq]
theorem fB_eq (v : Bool) (k : Bool → Prop) : fB v k = k v := by cases v <;> rfl
theorem fTup_eq : ∀ (v : List (Bool × List Leaf)) (k : List (Bool × List Leaf) → Prop), fTup v k = k v
  | [], k => rfl
  | (b, ls) :: xs, k => by rw [fTup, fB_eq, fLs_eq, fTup_eq]
theorem fS_eq (v : Slot) (k : Slot → Prop) : fS v k = k v := by cases v <;> simp [fS, fL_eq, fLs_eq, fTup_eq]
theorem fO_eq (v : Ob) (k : Ob → Prop) : fO v k = k v := by cases v <;> simp [fO, fLs_eq]
theorem fSets_eq : ∀ (v : List (Nat × Ob)) (k : List (Nat × Ob) → Prop), fSets v k = k v
  | [], k => rfl
  | (q, o) :: ls, k => by rw [fSets, fO_eq, fSets_eq]

def appK : List (Nat × Ob) → List (Nat × Ob) → (List (Nat × Ob) → Prop) → Prop
  | [], os, k => k os
  | p :: l, os, k => appK l os fun os => k (p :: os)
theorem appK_eq : ∀ (l os : List (Nat × Ob)) (k : List (Nat × Ob) → Prop), appK l os k = k (l ++ os)
  | [], _, _ => rfl
  | p :: l, os, k => by rw [appK, appK_eq]; rfl
/-- The state behind an operation, written out. -/
def putK (L : LS) (l : List (Nat × Ob)) (d : Option Nat) (s : Slot) (K : LS → Prop) : Prop :=
  match L with
  | ⟨ts, os, ks⟩ => fS s fun s => fSets l fun l => appK l os fun os => match d with
    | none => K ⟨ts, os, ks⟩
    | some d => K ⟨(d, s) :: ts, os, ks⟩
theorem putK_eq (L : LS) (l : List (Nat × Ob)) (d : Option Nat) (s : Slot) (K : LS → Prop) : putK L l d s K = K ((L.sets l).put d s) := by
  obtain ⟨ts, os, ks⟩ := L
  simp only [putK, fS_eq, fSets_eq, appK_eq]
  cases d <;> rfl
def knownK (L : LS) (t : Nat) (b : Bool) (K : LS → Prop) : Prop :=
  match L with
  | ⟨ts, os, ks⟩ => K ⟨(t, .one (.g (.bool b))) :: ts, os, t :: ks⟩
theorem knownK_eq (L : LS) (t : Nat) (b : Bool) (K : LS → Prop) : knownK L t b K = K (L.known t b) := rfl

/-- What is to be shown on the way. -/
structure Need (p : Prop) : Prop where
  h : p

/-- One operation that runs by itself. -/
def stepK (T : Tab) (o : Oper) (L : LS) (K : LS → Prop) (stuck : Prop) : Prop :=
  match auto T L.st o with
  | none => match autoC T L.st o with
    | some (p, s) => Need p ∧ putK L [] o.dst s K
    | none => stuck
  | some ⟨s, _, _, [], l⟩ => putK L l o.dst s K
  | some ⟨_, _, _, _ :: _, _⟩ => stuck

def nth? {α : Type} : List α → Nat → Option α
  | [], _ => none
  | a :: _, 0 => some a
  | _ :: l, n + 1 => nth? l n
theorem nth?_eq {α : Type} : ∀ (l : List α) (n : Nat), nth? l n = l[n]?
  | [], n => by simp [nth?]
  | _ :: _, 0 => rfl
  | _ :: l, n + 1 => by simp [nth?, nth?_eq l n]

def hasN : List Nat → Nat → Bool
  | [], _ => false
  | x :: l, n => bif Nat.beq x n then true else hasN l n

def bslot (L : LS) (t : Nat) : Option (Option Bool) := match L.st.slot t with
  | .one (.g (.bool b)) => some (some b)
  | .tup [] => some none
  | _ => none

/-- The operations of a region from the i-th on. -/
def runK (T : Tab) (all : List Oper) (stuck : Nat → List Oper → LS → Prop) (K : LS → Prop) : List Oper → Nat → LS → Prop
  | [], _, L => K L
  | o :: l, i, L => match o.guard with
    | none => stepK T o L (fun L' => runK T all stuck K l (i + 1) L') (stuck i (o :: l) L)
    | some (j, want) => match (nth? all j).bind (·.dst) with
      | none => stuck i (o :: l) L
      | some t => match bslot L t with
        | none => stuck i (o :: l) L
        | some none => putK L [] o.dst (.tup []) fun L => runK T all stuck K l (i + 1) L
        | some (some b) => match hasN L.ks t, b == want with
          | true, true => stepK T o L (fun L' => runK T all stuck K l (i + 1) L') (stuck i (o :: l) L)
          | true, false => putK L [] o.dst (.tup []) fun L => runK T all stuck K l (i + 1) L
          | false, _ =>
            (b = want → knownK L t want fun L => stepK T o L (fun L' => runK T all stuck K l (i + 1) L') (stuck i (o :: l) L)) ∧
            (b = !want → knownK L t (!want) fun L => putK L [] o.dst (.tup []) fun L => runK T all stuck K l (i + 1) L)

section
variable {P : Program} {T : Tab} {n : Nat} {ops : Array Oper}

/-- The rest of a region, by states of lists. -/
structure VR (P : Program) (n : Nat) (ops : Array Oper) (i : Nat) (rest : List Oper) (L : LS) (K : LS → Prop) : Prop where
  h : ops.toList.drop i = rest → VO P n ops (List.range' i rest.length) L.st (fun S => ∃ L', S = L'.st ∧ K L')

theorem drop_cons {l rest : List Oper} {i : Nat} {o : Oper} (h : l.drop i = o :: rest) : l[i]? = some o ∧ l.drop (i + 1) = rest := by
  constructor
  · have := congrArg (fun x => x[0]?) h
    simpa using this
  · have := congrArg List.tail h
    simpa using this

theorem VR.step (hin : dstsIn n ops = true) {i : Nat} {o : Oper} {rest : List Oper} {L : LS} {K : LS → Prop} (hg : guardOn ops L.st o = some true) {e : Eff} (he : OpL P L.st o e) (hk : e.kills = [])
    (h : VR P n ops (i + 1) rest ((L.sets e.sets).put o.dst e.dst) K) : VR P n ops i (o :: rest) L K := by
  constructor
  intro hd
  obtain ⟨h1, h2⟩ := drop_cons hd
  rw [List.length_cons, List.range'_succ]
  refine vo_op hin (by simpa using h1) hg he ?_
  have e1 : L.st.app o.dst e = ((L.sets e.sets).put o.dst e.dst).st := by rw [LS.st_put, LS.st_sets]; unfold St.app; rw [hk]; rfl
  rw [e1]
  exact h.1 h2
theorem VR.off (hin : dstsIn n ops = true) {i : Nat} {o : Oper} {rest : List Oper} {L : LS} {K : LS → Prop} (hg : guardOn ops L.st o = some false)
    (h : VR P n ops (i + 1) rest (L.put o.dst (.tup [])) K) : VR P n ops i (o :: rest) L K := by
  constructor
  intro hd
  obtain ⟨h1, h2⟩ := drop_cons hd
  rw [List.length_cons, List.range'_succ]
  refine vo_off hin (by simpa using h1) hg ?_
  rw [← LS.st_put]
  exact h.1 h2
theorem VR.nil {i : Nat} {L : LS} {K : LS → Prop} (h : K L) : VR P n ops i [] L K := ⟨fun _ => vo_nil ⟨L, rfl, h⟩⟩
theorem VR.same {i : Nat} {rest : List Oper} {L L' : LS} {K : LS → Prop} (e : L.st = L'.st) (h : VR P n ops i rest L' K) : VR P n ops i rest L K := by
  constructor; intro hd; rw [e]; exact h.1 hd

theorem step_ok (hT : TabOk P T) (hin : dstsIn n ops = true) {i : Nat} {o : Oper} {rest : List Oper} {L : LS} {K K' : LS → Prop} {stuck : Prop} (hs : stuck → VR P n ops i (o :: rest) L K)
    (hg : guardOn ops L.st o = some true) (hk : ∀ L', K' L' → VR P n ops (i + 1) rest L' K) (h : stepK T o L K' stuck) : VR P n ops i (o :: rest) L K := by
  unfold stepK at h
  split at h
  · split at h
    · rename_i p s he
      obtain ⟨rd, hop⟩ := autoC_ok hT he h.1.1
      have h2 := h.2
      rw [putK_eq] at h2
      exact VR.step (e := { dst := s, reads := rd }) hin hg hop rfl (hk _ h2)
    · exact hs h
  · rename_i s c r l he
    rw [putK_eq] at h
    exact VR.step hin hg (auto_ok hT he) rfl (hk _ h)
  · exact hs h

theorem guard_none {L : LS} {o : Oper} (h : o.guard = none) : guardOn ops L.st o = some true := by simp [guardOn, h]
theorem guard_some {L : LS} {o : Oper} {j : Nat} {want : Bool} {t : Nat} {b : Bool} (h : o.guard = some (j, want)) (ht : (nth? ops.toList j).bind (·.dst) = some t) (hb : bslot L t = some (some b)) : guardOn ops L.st o = some (b == want) := by
  unfold guardOn
  rw [h]
  have ht' : (ops[j]?).bind (·.dst) = some t := by rw [nth?_eq] at ht; simpa using ht
  simp only [ht']
  unfold bslot at hb
  split at hb
  · rename_i b' hs; cases hb; rw [hs]
  · cases hb
  · cases hb
theorem guard_undef {L : LS} {o : Oper} {j : Nat} {want : Bool} {t : Nat} (h : o.guard = some (j, want)) (ht : (nth? ops.toList j).bind (·.dst) = some t) (hb : bslot L t = some none) : guardOn ops L.st o = some false := by
  unfold guardOn
  rw [h]
  have ht' : (ops[j]?).bind (·.dst) = some t := by rw [nth?_eq] at ht; simpa using ht
  simp only [ht']
  unfold bslot at hb
  split at hb
  · cases hb
  · rename_i hs; rw [hs]
  · cases hb
theorem known_st {L : LS} {t : Nat} {b b' : Bool} (hb : bslot L t = some (some b)) (h : b = b') : (L.known t b').st = L.st := by
  rw [LS.st_known]
  unfold bslot at hb
  split at hb
  · rename_i b2 hs; cases hb; exact put_same hs h
  · cases hb
  · cases hb

theorem runK_ok (hT : TabOk P T) (hin : dstsIn n ops = true) {stuck : Nat → List Oper → LS → Prop} {K K' : LS → Prop} (hs : ∀ i l L, stuck i l L → VR P n ops i l L K) (hk : ∀ L, K' L → K L) :
    ∀ {l : List Oper} {i : Nat} {L : LS}, runK T ops.toList stuck K' l i L → VR P n ops i l L K
  | [], i, L, h => .nil (hk L h)
  | o :: l, i, L, h => by
    unfold runK at h
    split at h
    · rename_i hg
      exact step_ok hT hin (hs _ _ _) (guard_none hg) (fun L' hl => runK_ok hT hin hs hk hl) h
    · rename_i j want hg
      split at h
      · exact hs _ _ _ h
      · rename_i t ht
        split at h
        · exact hs _ _ _ h
        · rename_i hb
          rw [putK_eq] at h
          exact VR.off hin (guard_undef hg ht hb) (runK_ok hT hin hs hk h)
        · rename_i b hb
          have hgo := guard_some hg ht hb
          split at h
          · rename_i hw
            rw [hw] at hgo
            exact step_ok hT hin (hs _ _ _) hgo (fun L' hl => runK_ok hT hin hs hk hl) h
          · rename_i hw
            rw [hw] at hgo
            rw [putK_eq] at h
            exact VR.off hin hgo (runK_ok hT hin hs hk h)
          · by_cases hbw : b = want
            · have e := known_st hb hbw
              refine VR.same e.symm (step_ok hT hin (hs _ _ _) ?_ (fun L' hl => runK_ok hT hin hs hk hl) (by have := h.1 hbw; rwa [knownK_eq] at this))
              rw [e, hgo, hbw]; simp
            · have hbn : b = !want := by cases b <;> cases want <;> simp_all
              have e := known_st hb hbn
              refine VR.same e.symm (VR.off hin ?_ (runK_ok hT hin hs hk (by have := h.2 hbn; rwa [knownK_eq, putK_eq] at this)))
              rw [e, hgo]; simp [hbw]

/-- Code, by states of lists. -/
structure VL (P : Program) (n : Nat) (c : Code) (L : LS) (K : Exit → LS → Prop) : Prop where
  h : VC P n c L.st (fun e S => ∃ L', S = L'.st ∧ K e L')

theorem VL.mono {c : Code} {L : LS} {K K' : Exit → LS → Prop} (h : VL P n c L K) (hk : ∀ e L, K e L → K' e L) : VL P n c L K' :=
  ⟨VC.mono h.1 fun _ _ ⟨L', e, hl⟩ => ⟨L', e, hk _ _ hl⟩⟩
end

def isExit (id : Nat) : Exit → Bool
  | .exit i => Nat.beq i id
  | _ => false
def notGoto : Exit → Bool
  | .goto _ => false
  | _ => true
def isNormal : Exit → Bool
  | .normal => true
  | _ => false

def constB : Operand → Option Bool
  | .const (.bool b) => some b
  | _ => none
theorem constB_ev {c : Operand} {b : Bool} (h : constB c = some b) (S : St) : ev S c = .one (.g (.bool b)) := by
  unfold constB at h
  split at h
  · cases h; rfl
  · cases h

/-- The walk: what is to be shown, that a piece of code has this post. -/
def vcK (P : Program) (T : Tab) (n : Nat) : Code → LS → (Exit → LS → Prop) → Prop
  | .skip, L, K => K .normal L
  | .label _, L, K => K .normal L
  | .exit i, L, K => K (.exit i) L
  | .ret, L, K => K .ret L
  | .seq x y, L, K => vcK P T n x L fun e L' => bif isNormal e then vcK P T n y L' K else K e L'
  | .cond c x y, L, K => match constB c with
    | some true => vcK P T n x L K
    | some false => vcK P T n y L K
    | none => match ev L.st c with
      | .one (.g (.bool b)) => (b = true → vcK P T n x L K) ∧ (b = false → vcK P T n y L K)
      | _ => VL P n (.cond c x y) L K
  | .block id c, L, K => vcK P T n c L fun e L' => bif isExit id e then K .normal L' else K e L'
  | .scope c, L, K => vcK P T n c L fun e L' => bif notGoto e then K e L' else False
  | .region id ops draw, L, K => match draw with
    | true => VL P n (.region id ops true) L K
    | false => bif dstsIn n ops then runK T ops.toList (fun i l L => VR P n ops i l L (K .normal)) (K .normal) ops.toList 0 L else False
  | c, L, K => VL P n c L K

theorem vcK_ok {P : Program} {T : Tab} {n : Nat} (hT : TabOk P T) : ∀ {c : Code} {L : LS} {K : Exit → LS → Prop}, vcK P T n c L K → VL P n c L K := by
  intro c
  induction c with
  | skip => intro L K h; exact ⟨vc_skip ⟨L, rfl, h⟩⟩
  | label l => intro L K h; exact ⟨vc_label ⟨L, rfl, h⟩⟩
  | exit i => intro L K h; exact ⟨vc_exit ⟨L, rfl, h⟩⟩
  | ret => intro L K h; exact ⟨vc_ret ⟨L, rfl, h⟩⟩
  | seq x y hx hy =>
    intro L K h
    refine ⟨vc_seq (VC.mono (hx h).1 fun e S he => ?_)⟩
    obtain ⟨L', rfl, he⟩ := he
    cases e with
    | normal => exact (hy he).1
    | _ => exact ⟨L', rfl, he⟩
  | cond c x y hx hy =>
    intro L K h
    unfold vcK at h
    split at h
    · rename_i hc
      exact ⟨vc_cond (constB_ev hc _) (fun _ => (hx h).1) (fun e => by cases e)⟩
    · rename_i hc
      exact ⟨vc_cond (constB_ev hc _) (fun e => by cases e) (fun _ => (hy h).1)⟩
    split at h
    · rename_i b hb
      exact ⟨vc_cond hb (fun e => (hx (h.1 e)).1) (fun e => (hy (h.2 e)).1)⟩
    · exact h
  | block id c hc =>
    intro L K h
    refine ⟨vc_block (VC.mono (hc h).1 fun e S he => ?_)⟩
    obtain ⟨L', rfl, he⟩ := he
    cases e with
    | exit i =>
      simp only [onExit]
      cases hb : Nat.beq i id with
      | true =>
        have := Nat.eq_of_beq_eq_true hb
        rw [if_pos this]
        simp only [isExit, hb, cond_true] at he
        exact ⟨L', rfl, he⟩
      | false =>
        have := Nat.ne_of_beq_eq_false hb
        rw [if_neg this]
        simp only [isExit, hb, cond_false] at he
        exact ⟨L', rfl, he⟩
    | _ => exact ⟨L', rfl, he⟩
  | scope c hc =>
    intro L K h
    refine ⟨vc_scope (VC.mono (hc h).1 fun e S he => ?_)⟩
    obtain ⟨L', rfl, he⟩ := he
    cases e with
    | goto l => exact he
    | _ => exact ⟨L', rfl, he⟩
  | region id ops draw =>
    intro L K h
    cases draw with
    | true => exact h
    | false =>
      unfold vcK at h
      simp only at h
      cases hin : dstsIn n ops with
      | false => rw [hin] at h; exact h.elim
      | true =>
        rw [hin] at h
        simp only [cond_true] at h
        have := (runK_ok (P := P) hT hin (K := K .normal) (fun i l L hs => hs) (fun L hl => hl) h).1 rfl
        refine ⟨vc_region ?_⟩
        rw [List.range_eq_range']
        simpa using this
  | loop c _ => intro L K h; exact h
  | rangeFunc f ps a b _ _ => intro L K h; exact h
  | goto l => intro L K h; exact h
  | refuse w => intro L K h; exact h
end Go.Vl

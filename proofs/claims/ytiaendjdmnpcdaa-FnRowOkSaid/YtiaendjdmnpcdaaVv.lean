/- V-logic, part v: splits at guards; states given by lists, taken for another; calls of pure functions. -/
import Derived.Test.YtiaendjdmnpcdaaVu
namespace Go.Vl
open Go Go.RowKit

theorem put_same {S : St} {t : Nat} {b b' : Bool} (h : S.slot t = .one (.g (.bool b))) (hb : b = b') : S.put (some t) (.one (.g (.bool b'))) = S := by
  subst hb
  cases S with
  | mk sl ob =>
    simp only [St.put]
    congr 1
    funext x
    split
    · rename_i e; subst e; exact h.symm
    · rfl

def gtmp (ops : Array Oper) (i : Nat) : Option Nat := (ops[i]?).bind fun o => o.guard.bind fun g => (ops[g.1]?).bind (·.dst)

section
variable {P : Program} {T : Tab} {n : Nat} {S Sf : St} {ops : Array Oper}

theorem vo_split {K : St → Prop} {i : Nat} {l : List Nat} {t : Nat} {b : Bool} (_ : gtmp ops i = some t) (h : S.slot t = .one (.g (.bool b)))
    (ht : b = true → VO P n ops (i :: l) (S.put (some t) (.one (.g (.bool true)))) K) (hf : b = false → VO P n ops (i :: l) (S.put (some t) (.one (.g (.bool false)))) K) : VO P n ops (i :: l) S K := by
  cases b with
  | true => have := ht rfl; rwa [put_same h rfl] at this
  | false => have := hf rfl; rwa [put_same h rfl] at this
theorem Dr.split {K : St → List Stp → Prop} {i : Nat} {l : List Nat} {st : List Stp} {t : Nat} {b : Bool} (_ : gtmp ops i = some t) (h : S.slot t = .one (.g (.bool b)))
    (ht : b = true → Dr P ops (S.put (some t) (.one (.g (.bool true)))) (i :: l) st K) (hf : b = false → Dr P ops (S.put (some t) (.one (.g (.bool false)))) (i :: l) st K) : Dr P ops S (i :: l) st K := by
  cases b with
  | true => have := ht rfl; rwa [put_same h rfl] at this
  | false => have := hf rfl; rwa [put_same h rfl] at this

def alk {α : Type} : List (Nat × α) → Nat → Option α
  | [], _ => none
  | (k, a) :: l, t => if t = k then some a else alk l t
def stOf (ts : List (Nat × Slot)) (os : List (Nat × Ob)) : St := ⟨fun t => (alk ts t).getD .bad, alk os⟩
def covT (S : St) (ρ : Nat → Option Nat) : List (Nat × Slot) → Prop
  | [] => True
  | (t, s) :: l => rnS ρ (S.slot t) = s ∧ covT S ρ l
def covO (S : St) (ρ : Nat → Option Nat) : List (Nat × Nat) → List (Nat × Ob) → Prop
  | [], [] => True
  | (o, k) :: m, (k', ob) :: os => k = k' ∧ (∃ ob0, S.obj o = some ob0 ∧ rnO ρ ob0 = ob) ∧ covO S ρ m os
  | _, _ => False
def mOk (m : List (Nat × Nat)) : Bool := m.all (fun p => p.1 == p.2 || (Nat.ble 100 p.1 && Nat.ble 100 p.2))
def nodupB : List Nat → Bool
  | [] => true
  | x :: l => !l.contains x && nodupB l
theorem nodupB_ok : ∀ {l : List Nat}, nodupB l = true → l.Nodup
  | [], _ => .nil
  | x :: l, h => by
    simp only [nodupB, Bool.and_eq_true, Bool.not_eq_true', List.contains_eq_mem, decide_eq_false_iff_not] at h
    exact List.nodup_cons.2 ⟨h.1, nodupB_ok h.2⟩

theorem alk_mem {α : Type} : ∀ {l : List (Nat × α)} {t : Nat} {a : α}, alk l t = some a → (t, a) ∈ l
  | [], _, _, h => by simp [alk] at h
  | (k, x) :: l, t, a, h => by
    unfold alk at h
    split at h
    · rename_i e; cases h; subst e; simp
    · exact List.mem_cons_of_mem _ (alk_mem h)
theorem alk_of {α : Type} : ∀ {l : List (Nat × α)} {t : Nat} {a : α}, (l.map (·.1)).Nodup → (t, a) ∈ l → alk l t = some a
  | [], _, _, _, h => by simp at h
  | (k, x) :: l, t, a, hn, h => by
    simp only [List.map_cons, List.nodup_cons] at hn
    unfold alk
    rcases List.mem_cons.1 h with h | h
    · cases h; simp
    · have : t ≠ k := fun e => hn.1 (List.mem_map.2 ⟨(t, a), h, e⟩)
      rw [if_neg this]
      exact alk_of hn.2 h

theorem covT_at {ρ : Nat → Option Nat} : ∀ {ts : List (Nat × Slot)}, covT S ρ ts → ∀ t s, (t, s) ∈ ts → rnS ρ (S.slot t) = s
  | [], _, _, _, h => by simp at h
  | (k, x) :: l, hc, t, s, h => by
    rcases List.mem_cons.1 h with h | h
    · cases h; exact hc.1
    · exact covT_at hc.2 t s h
theorem covO_at {ρ : Nat → Option Nat} : ∀ {m : List (Nat × Nat)} {os : List (Nat × Ob)}, covO S ρ m os → os.map (·.1) = m.map (·.2) ∧ (∀ k ob, (k, ob) ∈ os → ∃ o, (o, k) ∈ m ∧ ∃ ob0, S.obj o = some ob0 ∧ rnO ρ ob0 = ob) ∧
    ∀ o k, (o, k) ∈ m → ∃ ob0, S.obj o = some ob0 ∧ (k, rnO ρ ob0) ∈ os
  | [], [], _ => by simp
  | [], _ :: _, h => h.elim
  | _ :: _, [], h => h.elim
  | (o, k) :: m, (k', ob) :: os, h => by
    obtain ⟨rfl, ⟨ob0, h1, h2⟩, h3⟩ := h
    obtain ⟨e1, e2, e3⟩ := covO_at h3
    refine ⟨by simp [e1], fun k2 ob2 hm => ?_, fun o2 k2 hm => ?_⟩
    · rcases List.mem_cons.1 hm with hm | hm
      · cases hm; exact ⟨o, by simp, ob0, h1, h2⟩
      · obtain ⟨o3, h4, h5⟩ := e2 k2 ob2 hm; exact ⟨o3, by simp [h4], h5⟩
    · rcases List.mem_cons.1 hm with hm | hm
      · cases hm; exact ⟨ob0, h1, by simp [h2]⟩
      · obtain ⟨ob3, h4, h5⟩ := e3 o2 k2 hm; exact ⟨ob3, h4, by simp [h5]⟩

/-- A state may be taken for one given by lists, under new names of objects. -/
theorem wk_to (m : List (Nat × Nat)) {ts : List (Nat × Slot)} {os : List (Nat × Ob)} (h1 : mOk m = true) (h2 : nodupB (m.map (·.1)) = true) (h3 : nodupB (m.map (·.2)) = true)
    (hT : covT S (alk m) ts) (hO : covO S (alk m) m os) : Wk n S (stOf ts os) := by
  intro C B a w hn hR
  have hn1 := nodupB_ok h2
  have hn2 := nodupB_ok h3
  obtain ⟨e1, e2, e3⟩ := covO_at hO
  have hn3 : (os.map (·.1)).Nodup := by rw [e1]; exact hn2
  have hm1 : ∀ o k, (o, k) ∈ m → o = k ∨ (100 ≤ o ∧ 100 ≤ k) := by
    intro o k hm
    unfold mOk at h1
    rw [List.all_eq_true] at h1
    have := h1 (o, k) hm
    simpa [Bool.or_eq_true] using this
  have fn : ∀ o k k', (o, k) ∈ m → (o, k') ∈ m → k = k' := fun o k k' ha hb => Option.some.inj ((alk_of hn1 ha).symm.trans (alk_of hn1 hb))
  have hsw : ((m.map fun p => (p.2, p.1)).map (·.1)).Nodup := by rw [List.map_map]; exact hn2
  have sw : ∀ o k, (o, k) ∈ m → alk (m.map fun p => (p.2, p.1)) k = some o := fun o k h => alk_of hsw (List.mem_map.2 ⟨_, h, rfl⟩)
  refine ⟨fun k => (alk (m.map fun p => (p.2, p.1)) k).bind B, ?_⟩
  generalize hB' : (fun k => (alk (m.map fun p => (p.2, p.1)) k).bind B : Pl) = B'
  have hBk : ∀ o k, (o, k) ∈ m → B' k = B o := fun o k h => by rw [← hB']; simp [sw o k h]
  have live : ∀ k ob, (stOf ts os).obj k = some ob → ∃ o, (o, k) ∈ m ∧ ∃ ob0, S.obj o = some ob0 ∧ rnO (alk m) ob0 = ob := fun k ob h => e2 k ob (alk_mem h)
  have live' : ∀ k, (stOf ts os).obj k ≠ none → ∃ o, (o, k) ∈ m ∧ S.obj o ≠ none := by
    intro k h
    obtain ⟨ob, hob⟩ := Option.ne_none_iff_exists'.1 h
    obtain ⟨o, h1, ob0, h2, _⟩ := live k ob hob
    exact ⟨o, h1, by simp [h2]⟩
  have hdep : ∀ b, dep C.din S B b → dep C.din (stOf ts os) B' b := by
    intro b h
    refine ⟨h.1, fun k x hk hb => ?_⟩
    obtain ⟨o, hm, ho⟩ := live' k hk
    rw [hBk o k hm] at hb
    exact h.2 o x ho hb
  have fwd : ∀ o k ob, alk m o = some k → S.obj o = some ob → B' k = B o ∧ ∃ ob', (stOf ts os).obj k = some ob' ∧ SameShape ob ob' := by
    intro o k ob hr ho
    have hm := alk_mem hr
    refine ⟨hBk o k hm, ?_⟩
    obtain ⟨ob0, h4, h5⟩ := e3 o k hm
    rw [ho] at h4; cases h4
    exact ⟨_, alk_of hn3 h5, rnO_shape _ _⟩
  have el : ∀ l v, LRep w C.din S B l v → LRep w C.din (stOf ts os) B' (rn (alk m) l) v := fun l v hl => LRep.rn (Nat.le_refl _) (fun _ _ _ => rfl) (fun b h _ => hdep b h) (fun o k ob hr ho => fwd o k ob hr ho) hl
  have er : ∀ l v, RepL w (dep C.din S B) l v → RepL w (dep C.din (stOf ts os) B') l v := fun l v hl => RepL_mono (Nat.le_refl _) (fun _ _ _ => rfl) (fun b h _ => hdep b h) l v hl
  have hk100 : ∀ o k, (o, k) ∈ m → k < C.k → o = k := by
    intro o k hm hk
    have := hR.klt
    rcases hm1 o k hm with h | h
    · exact h
    · omega
  refine ⟨hR.size, hR.defers, fun t => ?_, fun k ob hk => ?_, fun k k' b x x' hk hk' hb hb' => ?_, fun k b x hk hb => ?_, hR.frame, hR.dnew, fun k hlt hk => ?_, hR.klt, fun k ob hlt hk => ?_⟩
  · show SRep _ ((alk ts t).getD .bad) _
    cases hs : alk ts t with
    | none => trivial
    | some s =>
      rw [Option.getD_some, ← covT_at hT t s (alk_mem hs)]
      exact (hR.slots t).rnS el
  · obtain ⟨o, hm, ob0, h4, rfl⟩ := live k ob hk
    exact (hR.objs o ob0 h4).rnO (hBk o k hm) el er fun _ _ _ => rfl
  · obtain ⟨o, hm, ho⟩ := live' k hk
    obtain ⟨o', hm', ho'⟩ := live' k' hk'
    have := hR.inj o o' b x x' ho ho' (by rw [← hBk o k hm]; exact hb) (by rw [← hBk o' k' hm']; exact hb')
    subst this
    exact fn o k k' hm hm'
  · obtain ⟨o, hm, ho⟩ := live' k hk
    exact hR.mine o b x ho (by rw [← hBk o k hm]; exact hb)
  · obtain ⟨o, hm, ho⟩ := live' k hk
    have := hk100 o k hm hlt
    subst this
    rw [hBk o o hm]; exact hR.keep o hlt ho
  · obtain ⟨o, hm, ob0, h4, rfl⟩ := live k ob hk
    have := hk100 o k hm hlt
    subst this
    obtain ⟨ob1, h5, h6⟩ := hR.shape o ob0 hlt h4
    exact ⟨ob1, h5, h6.trans (rnO_shape _ _)⟩

-- calls of functions that hand back one thing and touch nothing
def pureQ (s : Slot) : Slot → List (Option Ob) → List Ob → Prop := fun s' o n => s' = s ∧ o = [] ∧ n = []

theorem o_pure {o : Oper} {F : Operand} {Xs : Array Operand} {ats : Array TypeId} (ho : o.op = .call { callee := .value F, args := Xs, argTypes := ats }) {f : FuncId} (hF : ev S F = .one (.clo f []))
    (hfree : S.obj 100000 = none ∧ S.obj 100001 = none ∧ S.obj 100002 = none ∧ S.obj 100003 = none)
    {args : List Slot} (hargs : (Xs.toList.map (ev S)).map (vS true S []) = args) {s : Slot} (h : CallsV P f args [] (pureQ s)) (hg : GrS s) (hs : rnS (back [] 100000) s = s) :
    OpW P S o ([100000, 100001, 100002, 100003] ++ (Xs.toList.map (ev S)).flatMap refsS) (fun e => e = { dst := s }) := by
  have := o_call (S := S) ho hF true [] (obs := []) rfl .nil 100000 (by omega) hfree (args := args) (by simpa using hargs) (objs := []) rfl h
    (fun s' outs news hp => by obtain ⟨rfl, rfl, rfl⟩ := hp; exact ⟨by simp, fun _ => ⟨hg, by simp, by simp⟩⟩)
  intro S' k1 k2 C B a w hR hd next Q hk
  refine this S' k1 (fun r hr => k2 r ?_) C B a w hR hd next Q fun e B' v w' hE hr => hk e B' v w' ?_ hr
  · simpa using hr
  · obtain ⟨s', outs, news, ⟨rfl, rfl, rfl⟩, _, rfl⟩ := hE
    simp [cEff, killsOf, setsOf, newsOf, hs]
end
end Go.Vl

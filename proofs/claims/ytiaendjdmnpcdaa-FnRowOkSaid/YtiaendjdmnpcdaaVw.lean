/- V-logic, part w: a walk that evaluates: states as lists, continuations as propositions. -/
import Derived.Test.YtiaendjdmnpcdaaVv
namespace Go.Vl
open Go Go.RowKit

structure LS where
  ts : List (Nat × Slot)
  os : List (Nat × Ob)
  ks : List Nat

def LS.st (L : LS) : St := stOf L.ts L.os
def LS.put (L : LS) (d : Option Nat) (s : Slot) : LS := match d with | none => L | some d => ⟨(d, s) :: L.ts, L.os, L.ks⟩
def LS.sets (L : LS) (l : List (Nat × Ob)) : LS := ⟨L.ts, l ++ L.os, L.ks⟩
def LS.known (L : LS) (t : Nat) (b : Bool) : LS := ⟨(t, .one (.g (.bool b))) :: L.ts, L.os, t :: L.ks⟩

theorem stOf_ext {S S' : St} (h1 : ∀ t, S.slot t = S'.slot t) (h2 : ∀ o, S.obj o = S'.obj o) : S = S' := by
  cases S; cases S'; simp only [St.mk.injEq]; exact ⟨funext h1, funext h2⟩
theorem LS.st_put (L : LS) (d : Option Nat) (s : Slot) : (L.put d s).st = L.st.put d s := by
  cases d with
  | none => rfl
  | some d =>
    refine stOf_ext (fun t => ?_) fun o => rfl
    show (if t = d then some s else alk L.ts t).getD .bad = if t = d then s else (alk L.ts t).getD .bad
    split <;> rfl
theorem LS.st_sets (L : LS) (l : List (Nat × Ob)) : (L.sets l).st = L.st.sets l := by
  refine stOf_ext (fun t => by rw [sets_slot]; rfl) fun o => ?_
  induction l with
  | nil => rfl
  | cons p l ih =>
    obtain ⟨q, ob⟩ := p
    show (if o = q then some ob else alk (l ++ L.os) o) = if o = q then some ob else (L.st.sets l).obj o
    rw [← ih]; rfl
theorem LS.st_known (L : LS) (t : Nat) (b : Bool) : (L.known t b).st = L.st.put (some t) (.one (.g (.bool b))) := LS.st_put L (some t) _

-- what makes whnf go on
def fV (v : Value) (k : Value → Prop) : Prop := match v with
  | .int a b => k (.int a b)
  | .bool b => k (.bool b)
  | .string s => k (.string s)
  | .slice a b c => k (.slice a b c)
  | v => k v
def fL (l : Leaf) (k : Leaf → Prop) : Prop := match l with
  | .g x => fV x fun x => k (.g x)
  | .imm sz rows => k (.imm sz rows)
  | .iel r j => k (.iel r j)
  | .own o off len => k (.own o off len)
  | .ptr o i => k (.ptr o i)
  | .elm o i j => k (.elm o i j)
  | .clo f os => k (.clo f os)
  | .mp o => k (.mp o)
  | .err => k .err
  | .bad => k .bad
def fLs : List Leaf → (List Leaf → Prop) → Prop
  | [], k => k []
  | l :: ls, k => fL l fun l => fLs ls fun ls => k (l :: ls)
def fB (b : Bool) (k : Bool → Prop) : Prop := match b with
  | true => k true
  | false => k false
def fTup : List (Bool × List Leaf) → (List (Bool × List Leaf) → Prop) → Prop
  | [], k => k []
  | (b, ls) :: xs, k => fB b fun b => fLs ls fun ls => fTup xs fun xs => k ((b, ls) :: xs)
def fS (s : Slot) (k : Slot → Prop) : Prop := match s with
  | .one l => fL l fun l => k (.one l)
  | .agg ls => fLs ls fun ls => k (.agg ls)
  | .tup xs => fTup xs fun xs => k (.tup xs)
  | .bad => k .bad
def fO (o : Ob) (k : Ob → Prop) : Prop := match o with
  | .box ls => fLs ls fun ls => k (.box ls)
  | .arr E sz rows => k (.arr E sz rows)
  | .map es => k (.map es)
def fSets : List (Nat × Ob) → (List (Nat × Ob) → Prop) → Prop
  | [], k => k []
  | (q, o) :: l, k => fO o fun o => fSets l fun l => k ((q, o) :: l)
theorem fV_eq (v : Value) (k : Value → Prop) : fV v k = k v := by cases v <;> rfl
theorem fL_eq (v : Leaf) (k : Leaf → Prop) : fL v k = k v := by cases v <;> simp [fL, fV_eq]
theorem fLs_eq : ∀ (v : List Leaf) (k : List Leaf → Prop), fLs v k = k v
  | [], k => rfl
  | l :: ls, k => by rw [fLs, fL_eq, fLs_eq]
theorem fB_eq (v : Bool) (k : Bool → Prop) : fB v k = k v := by cases v <;> rfl
theorem fTup_eq : ∀ (v : List (Bool × List Leaf)) (k : List (Bool × List Leaf) → Prop), fTup v k = k v
  | [], k => rfl
  | (b, ls) :: xs, k => by rw [fTup, fB_eq, fLs_eq, fTup_eq]
theorem fS_eq (v : Slot) (k : Slot → Prop) : fS v k = k v := by cases v <;> simp [fS, fL_eq, fLs_eq, fTup_eq]
theorem fO_eq (v : Ob) (k : Ob → Prop) : fO v k = k v := by cases v <;> simp [fO, fLs_eq]
theorem fSets_eq : ∀ (v : List (Nat × Ob)) (k : List (Nat × Ob) → Prop), fSets v k = k v
  | [], k => rfl
  | (q, o) :: ls, k => by rw [fSets, fO_eq, fSets_eq]

def appK : List (Nat × Ob) → List (Nat × Ob) → (List (Nat × Ob) → Prop) → Prop
  | [], os, k => k os
  | p :: l, os, k => appK l os fun os => k (p :: os)
theorem appK_eq : ∀ (l os : List (Nat × Ob)) (k : List (Nat × Ob) → Prop), appK l os k = k (l ++ os)
  | [], _, _ => rfl
  | p :: l, os, k => by rw [appK, appK_eq]; rfl
/-- The state behind an operation, written out. -/
def putK (L : LS) (l : List (Nat × Ob)) (d : Option Nat) (s : Slot) (K : LS → Prop) : Prop :=
  match L with
  | ⟨ts, os, ks⟩ => fS s fun s => fSets l fun l => appK l os fun os => match d with
    | none => K ⟨ts, os, ks⟩
    | some d => K ⟨(d, s) :: ts, os, ks⟩
theorem putK_eq (L : LS) (l : List (Nat × Ob)) (d : Option Nat) (s : Slot) (K : LS → Prop) : putK L l d s K = K ((L.sets l).put d s) := by
  obtain ⟨ts, os, ks⟩ := L
  simp only [putK, fS_eq, fSets_eq, appK_eq]
  cases d <;> rfl
def knownK (L : LS) (t : Nat) (b : Bool) (K : LS → Prop) : Prop :=
  match L with
  | ⟨ts, os, ks⟩ => K ⟨(t, .one (.g (.bool b))) :: ts, os, t :: ks⟩
theorem knownK_eq (L : LS) (t : Nat) (b : Bool) (K : LS → Prop) : knownK L t b K = K (L.known t b) := rfl

/-- What is to be shown on the way. -/
structure Need (p : Prop) : Prop where
  h : p

/-- One operation that runs by itself. -/
def stepK (T : Tab) (o : Oper) (L : LS) (K : LS → Prop) (stuck : Prop) : Prop :=
  match auto T L.st o with
  | none => match autoC T L.st o with
    | some (p, s) => Need p ∧ putK L [] o.dst s K
    | none => stuck
  | some ⟨s, _, _, [], l⟩ => putK L l o.dst s K
  | some ⟨_, _, _, _ :: _, _⟩ => stuck

def nth? {α : Type} : List α → Nat → Option α
  | [], _ => none
  | a :: _, 0 => some a
  | _ :: l, n + 1 => nth? l n
theorem nth?_eq {α : Type} : ∀ (l : List α) (n : Nat), nth? l n = l[n]?
  | [], n => by simp [nth?]
  | _ :: _, 0 => rfl
  | _ :: l, n + 1 => by simp [nth?, nth?_eq l n]

def hasN : List Nat → Nat → Bool
  | [], _ => false
  | x :: l, n => bif Nat.beq x n then true else hasN l n

def bslot (L : LS) (t : Nat) : Option (Option Bool) := match L.st.slot t with
  | .one (.g (.bool b)) => some (some b)
  | .tup [] => some none
  | _ => none

/-- The operations of a region from the i-th on. -/
def runK (T : Tab) (all : List Oper) (stuck : Nat → List Oper → LS → Prop) (K : LS → Prop) : List Oper → Nat → LS → Prop
  | [], _, L => K L
  | o :: l, i, L => match o.guard with
    | none => stepK T o L (fun L' => runK T all stuck K l (i + 1) L') (stuck i (o :: l) L)
    | some (j, want) => match (nth? all j).bind (·.dst) with
      | none => stuck i (o :: l) L
      | some t => match bslot L t with
        | none => stuck i (o :: l) L
        | some none => putK L [] o.dst (.tup []) fun L => runK T all stuck K l (i + 1) L
        | some (some b) => match hasN L.ks t, b == want with
          | true, true => stepK T o L (fun L' => runK T all stuck K l (i + 1) L') (stuck i (o :: l) L)
          | true, false => putK L [] o.dst (.tup []) fun L => runK T all stuck K l (i + 1) L
          | false, _ =>
            (b = want → knownK L t want fun L => stepK T o L (fun L' => runK T all stuck K l (i + 1) L') (stuck i (o :: l) L)) ∧
            (b = !want → knownK L t (!want) fun L => putK L [] o.dst (.tup []) fun L => runK T all stuck K l (i + 1) L)

section
variable {P : Program} {T : Tab} {n : Nat} {ops : Array Oper}

/-- The rest of a region, by states of lists. -/
structure VR (P : Program) (n : Nat) (ops : Array Oper) (i : Nat) (rest : List Oper) (L : LS) (K : LS → Prop) : Prop where
  h : ops.toList.drop i = rest → VO P n ops (List.range' i rest.length) L.st (fun S => ∃ L', S = L'.st ∧ K L')

theorem drop_cons {l rest : List Oper} {i : Nat} {o : Oper} (h : l.drop i = o :: rest) : l[i]? = some o ∧ l.drop (i + 1) = rest := by
  constructor
  · have := congrArg (fun x => x[0]?) h
    simpa using this
  · have := congrArg List.tail h
    simpa using this

theorem VR.step (hin : dstsIn n ops = true) {i : Nat} {o : Oper} {rest : List Oper} {L : LS} {K : LS → Prop} (hg : guardOn ops L.st o = some true) {e : Eff} (he : OpL P L.st o e) (hk : e.kills = [])
    (h : VR P n ops (i + 1) rest ((L.sets e.sets).put o.dst e.dst) K) : VR P n ops i (o :: rest) L K := by
  constructor
  intro hd
  obtain ⟨h1, h2⟩ := drop_cons hd
  rw [List.length_cons, List.range'_succ]
  refine vo_op hin (by simpa using h1) hg he ?_
  have e1 : L.st.app o.dst e = ((L.sets e.sets).put o.dst e.dst).st := by rw [LS.st_put, LS.st_sets]; unfold St.app; rw [hk]; rfl
  rw [e1]
  exact h.1 h2
theorem VR.off (hin : dstsIn n ops = true) {i : Nat} {o : Oper} {rest : List Oper} {L : LS} {K : LS → Prop} (hg : guardOn ops L.st o = some false)
    (h : VR P n ops (i + 1) rest (L.put o.dst (.tup [])) K) : VR P n ops i (o :: rest) L K := by
  constructor
  intro hd
  obtain ⟨h1, h2⟩ := drop_cons hd
  rw [List.length_cons, List.range'_succ]
  refine vo_off hin (by simpa using h1) hg ?_
  rw [← LS.st_put]
  exact h.1 h2
theorem VR.nil {i : Nat} {L : LS} {K : LS → Prop} (h : K L) : VR P n ops i [] L K := ⟨fun _ => vo_nil ⟨L, rfl, h⟩⟩
theorem VR.same {i : Nat} {rest : List Oper} {L L' : LS} {K : LS → Prop} (e : L.st = L'.st) (h : VR P n ops i rest L' K) : VR P n ops i rest L K := by
  constructor; intro hd; rw [e]; exact h.1 hd

theorem step_ok (hT : TabOk P T) (hin : dstsIn n ops = true) {i : Nat} {o : Oper} {rest : List Oper} {L : LS} {K K' : LS → Prop} {stuck : Prop} (hs : stuck → VR P n ops i (o :: rest) L K)
    (hg : guardOn ops L.st o = some true) (hk : ∀ L', K' L' → VR P n ops (i + 1) rest L' K) (h : stepK T o L K' stuck) : VR P n ops i (o :: rest) L K := by
  unfold stepK at h
  split at h
  · split at h
    · rename_i p s he
      obtain ⟨rd, hop⟩ := autoC_ok hT he h.1.1
      have h2 := h.2
      rw [putK_eq] at h2
      exact VR.step (e := { dst := s, reads := rd }) hin hg hop rfl (hk _ h2)
    · exact hs h
  · rename_i s c r l he
    rw [putK_eq] at h
    exact VR.step hin hg (auto_ok hT he) rfl (hk _ h)
  · exact hs h

theorem guard_none {L : LS} {o : Oper} (h : o.guard = none) : guardOn ops L.st o = some true := by simp [guardOn, h]
theorem guard_some {L : LS} {o : Oper} {j : Nat} {want : Bool} {t : Nat} {b : Bool} (h : o.guard = some (j, want)) (ht : (nth? ops.toList j).bind (·.dst) = some t) (hb : bslot L t = some (some b)) : guardOn ops L.st o = some (b == want) := by
  unfold guardOn
  rw [h]
  have ht' : (ops[j]?).bind (·.dst) = some t := by rw [nth?_eq] at ht; simpa using ht
  simp only [ht']
  unfold bslot at hb
  split at hb
  · rename_i b' hs; cases hb; rw [hs]
  · cases hb
  · cases hb
theorem guard_undef {L : LS} {o : Oper} {j : Nat} {want : Bool} {t : Nat} (h : o.guard = some (j, want)) (ht : (nth? ops.toList j).bind (·.dst) = some t) (hb : bslot L t = some none) : guardOn ops L.st o = some false := by
  unfold guardOn
  rw [h]
  have ht' : (ops[j]?).bind (·.dst) = some t := by rw [nth?_eq] at ht; simpa using ht
  simp only [ht']
  unfold bslot at hb
  split at hb
  · cases hb
  · rename_i hs; rw [hs]
  · cases hb
theorem known_st {L : LS} {t : Nat} {b b' : Bool} (hb : bslot L t = some (some b)) (h : b = b') : (L.known t b').st = L.st := by
  rw [LS.st_known]
  unfold bslot at hb
  split at hb
  · rename_i b2 hs; cases hb; exact put_same hs h
  · cases hb
  · cases hb

theorem runK_ok (hT : TabOk P T) (hin : dstsIn n ops = true) {stuck : Nat → List Oper → LS → Prop} {K K' : LS → Prop} (hs : ∀ i l L, stuck i l L → VR P n ops i l L K) (hk : ∀ L, K' L → K L) :
    ∀ {l : List Oper} {i : Nat} {L : LS}, runK T ops.toList stuck K' l i L → VR P n ops i l L K
  | [], i, L, h => .nil (hk L h)
  | o :: l, i, L, h => by
    unfold runK at h
    split at h
    · rename_i hg
      exact step_ok hT hin (hs _ _ _) (guard_none hg) (fun L' hl => runK_ok hT hin hs hk hl) h
    · rename_i j want hg
      split at h
      · exact hs _ _ _ h
      · rename_i t ht
        split at h
        · exact hs _ _ _ h
        · rename_i hb
          rw [putK_eq] at h
          exact VR.off hin (guard_undef hg ht hb) (runK_ok hT hin hs hk h)
        · rename_i b hb
          have hgo := guard_some hg ht hb
          split at h
          · rename_i hw
            rw [hw] at hgo
            exact step_ok hT hin (hs _ _ _) hgo (fun L' hl => runK_ok hT hin hs hk hl) h
          · rename_i hw
            rw [hw] at hgo
            rw [putK_eq] at h
            exact VR.off hin hgo (runK_ok hT hin hs hk h)
          · by_cases hbw : b = want
            · have e := known_st hb hbw
              refine VR.same e.symm (step_ok hT hin (hs _ _ _) ?_ (fun L' hl => runK_ok hT hin hs hk hl) (by have := h.1 hbw; rwa [knownK_eq] at this))
              rw [e, hgo, hbw]; simp
            · have hbn : b = !want := by cases b <;> cases want <;> simp_all
              have e := known_st hb hbn
              refine VR.same e.symm (VR.off hin ?_ (runK_ok hT hin hs hk (by have := h.2 hbn; rwa [knownK_eq, putK_eq] at this)))
              rw [e, hgo]; simp [hbw]

/-- Code, by states of lists. -/
structure VL (P : Program) (n : Nat) (c : Code) (L : LS) (K : Exit → LS → Prop) : Prop where
  h : VC P n c L.st (fun e S => ∃ L', S = L'.st ∧ K e L')

theorem VL.mono {c : Code} {L : LS} {K K' : Exit → LS → Prop} (h : VL P n c L K) (hk : ∀ e L, K e L → K' e L) : VL P n c L K' :=
  ⟨VC.mono h.1 fun _ _ ⟨L', e, hl⟩ => ⟨L', e, hk _ _ hl⟩⟩
end

def isExit (id : Nat) : Exit → Bool
  | .exit i => Nat.beq i id
  | _ => false
def notGoto : Exit → Bool
  | .goto _ => false
  | _ => true
def isNormal : Exit → Bool
  | .normal => true
  | _ => false

def constB : Operand → Option Bool
  | .const (.bool b) => some b
  | _ => none
theorem constB_ev {c : Operand} {b : Bool} (h : constB c = some b) (S : St) : ev S c = .one (.g (.bool b)) := by
  unfold constB at h
  split at h
  · cases h; rfl
  · cases h

/-- The walk: what is to be shown, that a piece of code has this post. -/
def vcK (P : Program) (T : Tab) (n : Nat) : Code → LS → (Exit → LS → Prop) → Prop
  | .skip, L, K => K .normal L
  | .label _, L, K => K .normal L
  | .exit i, L, K => K (.exit i) L
  | .ret, L, K => K .ret L
  | .seq x y, L, K => vcK P T n x L fun e L' => bif isNormal e then vcK P T n y L' K else K e L'
  | .cond c x y, L, K => match constB c with
    | some true => vcK P T n x L K
    | some false => vcK P T n y L K
    | none => match ev L.st c with
      | .one (.g (.bool b)) => (b = true → vcK P T n x L K) ∧ (b = false → vcK P T n y L K)
      | _ => VL P n (.cond c x y) L K
  | .block id c, L, K => vcK P T n c L fun e L' => bif isExit id e then K .normal L' else K e L'
  | .scope c, L, K => vcK P T n c L fun e L' => bif notGoto e then K e L' else False
  | .region id ops draw, L, K => match draw with
    | true => VL P n (.region id ops true) L K
    | false => bif dstsIn n ops then runK T ops.toList (fun i l L => VR P n ops i l L (K .normal)) (K .normal) ops.toList 0 L else False
  | c, L, K => VL P n c L K

theorem vcK_ok {P : Program} {T : Tab} {n : Nat} (hT : TabOk P T) : ∀ {c : Code} {L : LS} {K : Exit → LS → Prop}, vcK P T n c L K → VL P n c L K := by
  intro c
  induction c with
  | skip => intro L K h; exact ⟨vc_skip ⟨L, rfl, h⟩⟩
  | label l => intro L K h; exact ⟨vc_label ⟨L, rfl, h⟩⟩
  | exit i => intro L K h; exact ⟨vc_exit ⟨L, rfl, h⟩⟩
  | ret => intro L K h; exact ⟨vc_ret ⟨L, rfl, h⟩⟩
  | seq x y hx hy =>
    intro L K h
    refine ⟨vc_seq (VC.mono (hx h).1 fun e S he => ?_)⟩
    obtain ⟨L', rfl, he⟩ := he
    cases e with
    | normal => exact (hy he).1
    | _ => exact ⟨L', rfl, he⟩
  | cond c x y hx hy =>
    intro L K h
    unfold vcK at h
    split at h
    · rename_i hc
      exact ⟨vc_cond (constB_ev hc _) (fun _ => (hx h).1) (fun e => by cases e)⟩
    · rename_i hc
      exact ⟨vc_cond (constB_ev hc _) (fun e => by cases e) (fun _ => (hy h).1)⟩
    split at h
    · rename_i b hb
      exact ⟨vc_cond hb (fun e => (hx (h.1 e)).1) (fun e => (hy (h.2 e)).1)⟩
    · exact h
  | block id c hc =>
    intro L K h
    refine ⟨vc_block (VC.mono (hc h).1 fun e S he => ?_)⟩
    obtain ⟨L', rfl, he⟩ := he
    cases e with
    | exit i =>
      simp only [onExit]
      cases hb : Nat.beq i id with
      | true =>
        have := Nat.eq_of_beq_eq_true hb
        rw [if_pos this]
        simp only [isExit, hb, cond_true] at he
        exact ⟨L', rfl, he⟩
      | false =>
        have := Nat.ne_of_beq_eq_false hb
        rw [if_neg this]
        simp only [isExit, hb, cond_false] at he
        exact ⟨L', rfl, he⟩
    | _ => exact ⟨L', rfl, he⟩
  | scope c hc =>
    intro L K h
    refine ⟨vc_scope (VC.mono (hc h).1 fun e S he => ?_)⟩
    obtain ⟨L', rfl, he⟩ := he
    cases e with
    | goto l => exact he
    | _ => exact ⟨L', rfl, he⟩
  | region id ops draw =>
    intro L K h
    cases draw with
    | true => exact h
    | false =>
      unfold vcK at h
      simp only at h
      cases hin : dstsIn n ops with
      | false => rw [hin] at h; exact h.elim
      | true =>
        rw [hin] at h
        simp only [cond_true] at h
        have := (runK_ok (P := P) hT hin (K := K .normal) (fun i l L hs => hs) (fun L hl => hl) h).1 rfl
        refine ⟨vc_region ?_⟩
        rw [List.range_eq_range']
        simpa using this
  | loop c _ => intro L K h; exact h
  | rangeFunc f ps a b _ _ => intro L K h; exact h
  | goto l => intro L K h; exact h
  | refuse w => intro L K h; exact h
end Go.Vl

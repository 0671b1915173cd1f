/- V-logic, part ye: drawn regions with calls of many outcomes, by states of lists. -/
import Derived.Test.YtiaendjdmnpcdaaVyd
namespace Go.Vl
open Go Go.RowKit

def rdD (S : St) (o : Oper) : List Nat := match o.op with
  | .indexAddr _ x _ => match ev S x with
    | .one (.own q _ _) => [q]
    | _ => []
  | _ => []
theorem autoD_ok {P : Program} {T : Tab} (hT : TabOk P T) {S : St} {o : Oper} {p : Prop} {s : Slot} (h : autoC T S o = some (p, s)) (hp : p) : OpL P S o { dst := s, reads := rdD S o } := by
  obtain ⟨dst, op, type, pos, after, guard⟩ := o
  unfold autoC at h
  split at h <;> rename_i ho <;> simp only at ho
  · split at h
    · rename_i s k n hi hx hI
      cases h
      subst ho
      have hlt : n.toNat < s.size := by omega
      refine o_index_str hT rfl hi rfl hx hI hp.1 (c := (s[n.toNat]?).getD 0) ?_
      rw [getElem?_pos s n.toNat hlt]; rfl
    · cases h
  · split at h
    · rename_i hi hx hI
      split at h
      · rename_i hj hq
        cases h
        subst ho
        have := o_index_own hT (o := ⟨dst, _, type, pos, after, guard⟩) rfl hi rfl hj hx hI hq hp.1 hp.2
        simpa only [rdD, hx] using this
      · cases h
    · cases h
  · split at h
    · rename_i hx hy
      cases h
      subst ho
      obtain ⟨rfl, hb⟩ := hp
      exact o_bin rfl hx hy (p := _ ≠ _) (by simp [aBin]) hb
    · cases h
  · split at h
    · rename_i hx hy
      cases h
      subst ho
      obtain ⟨rfl, hb⟩ := hp
      exact o_bin rfl hx hy (p := _ ≠ _) (by simp [aBin]) hb
    · cases h
  · split at h
    · rename_i hx hy
      cases h
      subst ho
      exact o_bin rfl hx hy (by simp only [aBin]) hp
    · cases h
  · cases h

/-- One operation of a drawn region that runs by itself. -/
def dstepK (T : Tab) (i : Nat) (o : Oper) (L : LS) (fs : List Trip) (K : LS → List Trip → Prop) (stuck : Prop) : Prop :=
  match auto T L.st o with
  | none => match autoC T L.st o with
    | some (p, s) => Need p ∧ putK L [] o.dst s fun L' => K L' ((i, rdD L.st o, []) :: fs)
    | none => stuck
  | some ⟨s, _, r, [], w⟩ => putK L w o.dst s fun L => K L ((i, r ++ w.map (·.1), w.map (·.1)) :: fs)
  | some ⟨_, _, _, _ :: _, _⟩ => stuck

def dtK (T : Tab) (all : List Oper) (stuck : List (Nat × Oper) → LS → List Trip → Prop) (K : LS → List Trip → Prop) : List (Nat × Oper) → LS → List Trip → Prop
  | [], L, fs => K L fs
  | (i, o) :: l, L, fs => match o.guard with
    | none => dstepK T i o L fs (fun L fs => dtK T all stuck K l L fs) (stuck ((i, o) :: l) L fs)
    | some (j, want) => match (nth? all j).bind (·.dst) with
      | none => stuck ((i, o) :: l) L fs
      | some t => match bslot L t with
        | none => stuck ((i, o) :: l) L fs
        | some none => putK L [] o.dst (.tup []) fun L => dtK T all stuck K l L ((i, [], []) :: fs)
        | some (some b) => match hasN L.ks t, b == want with
          | true, true => dstepK T i o L fs (fun L fs => dtK T all stuck K l L fs) (stuck ((i, o) :: l) L fs)
          | true, false => putK L [] o.dst (.tup []) fun L => dtK T all stuck K l L ((i, [], []) :: fs)
          | false, _ =>
            (b = want → knownK L t want fun L => dstepK T i o L fs (fun L fs => dtK T all stuck K l L fs) (stuck ((i, o) :: l) L fs)) ∧
            (b = !want → knownK L t (!want) fun L => putK L [] o.dst (.tup []) fun L => dtK T all stuck K l L ((i, [], []) :: fs))

section
variable {P : Program} {T : Tab} {n : Nat} {ops : Array Oper}

structure DT (P : Program) (ops : Array Oper) (todo : List (Nat × Oper)) (L : LS) (fs : List Trip) (K : LS → Prop) : Prop where
  h : (∀ p ∈ todo, ops[p.1]? = some p.2) → ∀ full : List Stp, full.map Stp.trip = fs.reverse → ∃ l r Sf, todo.map (·.1) = l.map (·.i) ++ r ∧ Can P ops L.st l Sf ∧ Node P ops (clOf ops) (fun S => ∃ L', S = L'.st ∧ K L') (full ++ l) Sf r

theorem DT.nil {L : LS} {fs : List Trip} {K : LS → Prop} (hp : pairsB ops (clOf ops) fs.reverse = true) (h : K L) : DT P ops [] L fs K :=
  ⟨fun _ full hf => ⟨[], [], L.st, rfl, .nil, .done (by rw [List.append_nil]; exact pairsB_ok (by rw [hf]; exact hp)) ⟨L, rfl, h⟩⟩⟩
theorem DT.stepw {i : Nat} {o : Oper} {rest : List (Nat × Oper)} {L : LS} {fs : List Trip} {K : LS → Prop} (hg : guardOn ops L.st o = some true) {rd : List Nat} {e : Eff} (hk : e.kills = []) (he : OpW P L.st o rd (fun x => x = e))
    (h : DT P ops rest ((L.sets e.sets).put o.dst e.dst) ((i, rd, e.sets.map (·.1)) :: fs) K) : DT P ops ((i, o) :: rest) L fs K := by
  constructor
  intro hm full hf
  have ho := hm (i, o) (by simp)
  let s : Stp := ⟨i, some e, rd, e.sets.map (·.1)⟩
  have e1 : stApp ops L.st s = ((L.sets e.sets).put o.dst e.dst).st := by
    rw [LS.st_put, LS.st_sets]
    simp only [stApp, ho, s, Option.bind_some, Stp.eff, Option.getD_some]
    unfold St.app; rw [hk]; rfl
  obtain ⟨l, r, Sf, k1, k2, k3⟩ := h.1 (fun p hp => hm p (by simp [hp])) (full ++ [s]) (by simp [hf, Stp.trip, s])
  refine ⟨s :: l, r, Sf, by simp [k1, s], .cons ⟨o, ho, hg, hk, rfl, fun e' h' => by cases h'; exact he⟩ (by rw [e1]; exact k2), by simpa using k3⟩
theorem DT.off {i : Nat} {o : Oper} {rest : List (Nat × Oper)} {L : LS} {fs : List Trip} {K : LS → Prop} (hg : guardOn ops L.st o = some false)
    (h : DT P ops rest (L.put o.dst (.tup [])) ((i, [], []) :: fs) K) : DT P ops ((i, o) :: rest) L fs K := by
  constructor
  intro hm full hf
  have ho := hm (i, o) (by simp)
  let s : Stp := ⟨i, none, [], []⟩
  have e1 : stApp ops L.st s = (L.put o.dst (.tup [])).st := by
    rw [LS.st_put]
    simp [stApp, ho, s, Stp.eff, St.app, St.kill, St.sets]
  obtain ⟨l, r, Sf, k1, k2, k3⟩ := h.1 (fun p hp => hm p (by simp [hp])) (full ++ [s]) (by simp [hf, Stp.trip, s])
  refine ⟨s :: l, r, Sf, by simp [k1, s], .cons ⟨o, ho, hg, rfl, rfl, fun e' h' => by cases h'⟩ (by rw [e1]; exact k2), by simpa using k3⟩
theorem DT.same {todo : List (Nat × Oper)} {L L' : LS} {fs : List Trip} {K : LS → Prop} (e : L.st = L'.st) (h : DT P ops todo L' fs K) : DT P ops todo L fs K := by
  constructor; intro hd; rw [e]; exact h.1 hd

theorem dstep_ok (hT : TabOk P T) {i : Nat} {o : Oper} {rest : List (Nat × Oper)} {L : LS} {fs : List Trip} {K : LS → Prop} {K' : LS → List Trip → Prop} {stuck : Prop} (hs : stuck → DT P ops ((i, o) :: rest) L fs K)
    (hg : guardOn ops L.st o = some true) (hk : ∀ L' fs', K' L' fs' → DT P ops rest L' fs' K) (h : dstepK T i o L fs K' stuck) : DT P ops ((i, o) :: rest) L fs K := by
  unfold dstepK at h
  split at h
  · split at h
    · rename_i p s he
      have h2 := h.2
      rw [putK_eq] at h2
      exact DT.stepw (e := { dst := s, reads := rdD L.st o }) (rd := rdD L.st o) hg rfl (by have := (autoD_ok (P := P) hT he h.1.1).w; simpa using this) (hk _ _ h2)
    · exact hs h
  · rename_i s c r w he
    rw [putK_eq] at h
    exact DT.stepw (e := ⟨s, c, r, [], w⟩) hg rfl (auto_ok hT he).w (hk _ _ h)
  · exact hs h

theorem dtK_ok (hT : TabOk P T) {stuck : List (Nat × Oper) → LS → List Trip → Prop} {K : LS → Prop} {K' : LS → List Trip → Prop} (hs : ∀ l L fs, stuck l L fs → DT P ops l L fs K) (hk : ∀ L fs, K' L fs → DT P ops [] L fs K) :
    ∀ {l : List (Nat × Oper)} {L : LS} {fs : List Trip}, dtK T ops.toList stuck K' l L fs → DT P ops l L fs K
  | [], L, fs, h => hk L fs h
  | (i, o) :: l, L, fs, h => by
    unfold dtK at h
    split at h
    · rename_i hg
      exact dstep_ok hT (hs _ _ _) (guard_none hg) (fun L' fs' h' => dtK_ok hT hs hk h') h
    · rename_i j want hg
      split at h
      · exact hs _ _ _ h
      · rename_i t ht
        split at h
        · exact hs _ _ _ h
        · rename_i hb
          rw [putK_eq] at h
          exact DT.off (guard_undef hg ht hb) (dtK_ok hT hs hk h)
        · rename_i b hb
          have hgo := guard_some hg ht hb
          split at h
          · rename_i hw
            rw [hw] at hgo
            exact dstep_ok hT (hs _ _ _) hgo (fun L' fs' h' => dtK_ok hT hs hk h') h
          · rename_i hw
            rw [hw] at hgo
            rw [putK_eq] at h
            exact DT.off hgo (dtK_ok hT hs hk h)
          · by_cases hbw : b = want
            · have e := known_st hb hbw
              have h3 := h.1 hbw
              rw [knownK_eq] at h3
              exact DT.same e.symm (dstep_ok hT (hs _ _ _) (by rw [e, hgo, hbw]; simp) (fun L' fs' h' => dtK_ok hT hs hk h') h3)
            · have hbn : b = !want := by cases b <;> cases want <;> simp_all
              have e := known_st hb hbn
              have h3 := h.2 hbn
              rw [knownK_eq, putK_eq] at h3
              exact DT.same e.symm (DT.off (by rw [e, hgo]; simp [hbw]) (dtK_ok hT hs hk h3))

/-- What is to be shown behind the last operation of a drawn region. -/
def endD (ops : Array Oper) (K : LS → Prop) (L : LS) (fs : List Trip) : Prop := Need (pairsB ops (clOf ops) fs.reverse = true) ∧ K L
theorem DT.go (hT : TabOk P T) {todo : List (Nat × Oper)} {L : LS} {fs : List Trip} {K : LS → Prop} (h : dtK T ops.toList (fun l L fs => DT P ops l L fs K) (endD ops K) todo L fs) : DT P ops todo L fs K :=
  dtK_ok hT (fun _ _ _ h => h) (fun _ _ h => .nil h.1.1 h.2) h
theorem DT.pure (hT : TabOk P T) {i : Nat} {o : Oper} {rest : List (Nat × Oper)} {L : LS} {fs : List Trip} {K : LS → Prop} (hg : guardOn ops L.st o = some true) {rd : List Nat} {s : Slot} (he : OpW P L.st o rd (fun e => e = { dst := s }))
    (h : putK L [] o.dst s fun L => dtK T ops.toList (fun l L fs => DT P ops l L fs K) (endD ops K) rest L ((i, rd, []) :: fs)) : DT P ops ((i, o) :: rest) L fs K := by
  rw [putK_eq] at h
  exact DT.stepw hg rfl he (DT.go hT h)
theorem DT.op (hT : TabOk P T) {i : Nat} {o : Oper} {rest : List (Nat × Oper)} {L : LS} {fs : List Trip} {K : LS → Prop} (hg : guardOn ops L.st o = some true) {e : Eff} (he : OpL P L.st o e) (hk : e.kills = [])
    (h : putK L e.sets o.dst e.dst fun L => dtK T ops.toList (fun l L fs => DT P ops l L fs K) (endD ops K) rest L ((i, e.reads ++ e.sets.map (·.1), e.sets.map (·.1)) :: fs)) : DT P ops ((i, o) :: rest) L fs K := by
  rw [putK_eq] at h
  exact DT.stepw hg hk he.w (DT.go hT h)
theorem DT.fun (hT : TabOk P T) {i : Nat} {o : Oper} {rest : List (Nat × Oper)} {L : LS} {fs : List Trip} {K : LS → Prop} (hg : guardOn ops L.st o = some true) {rd : List Nat} {e : Eff} (he : OpW P L.st o rd (fun x => x = e)) (hk : e.kills = [])
    (h : putK L e.sets o.dst e.dst fun L => dtK T ops.toList (fun l L fs => DT P ops l L fs K) (endD ops K) rest L ((i, rd, e.sets.map (·.1)) :: fs)) : DT P ops ((i, o) :: rest) L fs K := by
  rw [putK_eq] at h
  exact DT.stepw hg hk he (DT.go hT h)
theorem DT.rel (hT : TabOk P T) {i : Nat} {o : Oper} {rest : List (Nat × Oper)} {L : LS} {fs : List Trip} {K : LS → Prop} (hg : guardOn ops L.st o = some true) {rd : List Nat} {α : Type} {C : α → Prop} {E : α → Eff} (he : OpW P L.st o rd (fun e => ∃ y, C y ∧ e = E y))
    (tw : List Nat) (hp : pairsB ops (clOf ops) ((i, rd, tw) :: fs).reverse = true) (hr : (rest.all fun p => (clOf ops p.1).contains i) = true)
    (h : ∀ y, C y → (E y).kills = [] ∧ (E y).sets.map (·.1) = tw ∧ putK L (E y).sets o.dst (E y).dst fun L => dtK T ops.toList (fun l L fs => DT P ops l L fs K) (endD ops K) rest L ((i, rd, tw) :: fs)) : DT P ops ((i, o) :: rest) L fs K := by
  constructor
  intro hm full hf
  have ho := hm (i, o) (by simp)
  refine ⟨[], i :: rest.map (·.1), L.st, rfl, .nil, ?_⟩
  rw [List.append_nil]
  refine .rel' (rd := rd) (tw := tw) (o := o) (pairsB_ok (by simpa [hf, Stp.trip] using hp)) ho hg he (fun j hj => ?_) fun e hE => ?_
  · obtain ⟨p, hpm, rfl⟩ := List.mem_map.1 hj
    have := List.all_eq_true.1 hr p hpm
    simpa using this
  · obtain ⟨y, hy, rfl⟩ := hE
    obtain ⟨k1, k2, k3⟩ := h y hy
    rw [putK_eq] at k3
    obtain ⟨l, r, Sf, m1, m2, m3⟩ := (DT.go hT k3).1 (fun p hp => hm p (by simp [hp])) (full ++ [⟨i, some (E y), rd, tw⟩]) (by simp [hf, Stp.trip])
    refine ⟨k1, k2, l, r, Sf, m1, ?_, m3⟩
    have e1 : L.st.app o.dst (E y) = ((L.sets (E y).sets).put o.dst (E y).dst).st := by
      rw [LS.st_put, LS.st_sets]; unfold St.app; rw [k1]; rfl
    rw [e1]; exact m2

def isCallO (o : Oper) : Bool := match o.op with
  | .call { callee := .value _, .. } => true
  | _ => false
def findN (p : Nat → Bool) : List Nat → Option Nat
  | [] => none
  | a :: l => match p a with | true => some a | false => findN p l
def eraseN (x : Nat) : List Nat → List Nat
  | [] => []
  | a :: l => match Nat.beq a x with | true => l | false => a :: eraseN x l
/-- An order in which calls come as late as may be. -/
def schedGo (ops : List Oper) (cl : Nat → List Nat) : Nat → List Nat → List Nat
  | 0, pend => pend
  | f + 1, pend => match findN (fun i => (cl i).all (fun k => !hasN pend k) && !((nth? ops i).map isCallO == some true)) pend with
    | some i => i :: schedGo ops cl f (eraseN i pend)
    | none => match findN (fun i => (cl i).all (fun k => !hasN pend k)) pend with
      | some i => i :: schedGo ops cl f (eraseN i pend)
      | none => pend
def sched (ops : Array Oper) : List Nat := schedGo ops.toList (clOf ops) ops.size (List.range ops.size)
def ordOf (ops : List Oper) : List Nat → List (Nat × Oper)
  | [] => []
  | i :: l => match nth? ops i with
    | some o => (i, o) :: ordOf ops l
    | none => []
theorem ordOf_mem {ops : Array Oper} : ∀ {l : List Nat} {p : Nat × Oper}, p ∈ ordOf ops.toList l → ops[p.1]? = some p.2
  | [], p, h => by simp [ordOf] at h
  | i :: l, p, h => by
    unfold ordOf at h
    split at h
    · rename_i o ho
      rcases List.mem_cons.1 h with rfl | h
      · rw [nth?_eq] at ho; simpa using ho
      · exact ordOf_mem h
    · simp at h
def fNats : List Nat → (List Nat → Prop) → Prop
  | [], k => k []
  | a :: l, k => fNats l fun l => k (a :: l)
theorem fNats_eq : ∀ (v : List Nat) (k : List Nat → Prop), fNats v k = k v
  | [], k => rfl
  | a :: ls, k => by rw [fNats, fNats_eq]

theorem VL.drawT (hT : TabOk P T) {id : Nat} (hm : P.follows .mixedOrders = true) {L : LS} {K : Exit → LS → Prop} (hin : dstsIn n ops = true) (hcl : clOk ops (clOf ops) = true) (l : List Nat) (hperm : permB ops.size ((ordOf ops.toList l).map (·.1)) = true)
    (h : dtK T ops.toList (fun l L fs => DT P ops l L fs (K .normal)) (endD ops (K .normal)) (ordOf ops.toList l) L []) : VL P n (.region id ops true) L K := by
  obtain ⟨l', r, Sf, k1, k2, k3⟩ := (DT.go hT h).1 (fun p hp => ordOf_mem hp) [] rfl
  refine ⟨vc_node hm hin hcl k2 (by rw [← k1]; exact hperm) ?_⟩
  simpa using k3
theorem VL.drawS (hT : TabOk P T) {id : Nat} (hm : P.follows .mixedOrders = true) {L : LS} {K : Exit → LS → Prop} (hin : dstsIn n ops = true) (hcl : clOk ops (clOf ops) = true) (hperm : permB ops.size ((ordOf ops.toList (sched ops)).map (·.1)) = true)
    (h : fNats (sched ops) fun l => dtK T ops.toList (fun l L fs => DT P ops l L fs (K .normal)) (endD ops (K .normal)) (ordOf ops.toList l) L []) : VL P n (.region id ops true) L K := by
  rw [fNats_eq] at h
  exact VL.drawT hT hm hin hcl (sched ops) hperm h
end
end Go.Vl

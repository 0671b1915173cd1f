/- V-logic, part y: going on behind what does not run by itself; loops; drawn regions, by states of lists. -/
import Derived.Test.YtiaendjdmnpcdaaVx
namespace Go.Vl
open Go Go.RowKit

section
variable {P : Program} {T : Tab} {n : Nat} {ops : Array Oper}

theorem VR.go (hT : TabOk P T) (hin : dstsIn n ops = true) {i : Nat} {rest : List Oper} {L : LS} {K : LS → Prop} (h : runK T ops.toList (fun i l L => VR P n ops i l L K) K rest i L) : VR P n ops i rest L K :=
  runK_ok hT hin (fun _ _ _ h => h) (fun _ h => h) h

theorem VR.op (hT : TabOk P T) (hin : dstsIn n ops = true) {i : Nat} {o : Oper} {rest : List Oper} {L : LS} {K : LS → Prop} (hg : guardOn ops L.st o = some true) {e : Eff} (he : OpL P L.st o e) (hk : e.kills = [])
    (h : putK L e.sets o.dst e.dst fun L => runK T ops.toList (fun i l L => VR P n ops i l L K) K rest (i + 1) L) : VR P n ops i (o :: rest) L K := by
  rw [putK_eq] at h
  exact VR.step hin hg he hk (VR.go hT hin h)

/-- The state behind an operation that kills. -/
def LS.kill (ks : List Nat) (L : LS) : LS := ⟨L.ts.map fun p => (p.1, kS ks p.2), (L.os.filter fun p => !ks.contains p.1).map fun p => (p.1, kO ks p.2), L.ks⟩
theorem alk_map {α β : Type} (f : α → β) : ∀ (l : List (Nat × α)) (t : Nat), alk (l.map fun p => (p.1, f p.2)) t = (alk l t).map f
  | [], t => rfl
  | (k, a) :: l, t => by
    simp only [List.map_cons, alk]
    split
    · rfl
    · exact alk_map f l t
theorem alk_filter {α : Type} (ks : List Nat) : ∀ (l : List (Nat × α)) (t : Nat), alk (l.filter fun p => !ks.contains p.1) t = if ks.contains t then none else alk l t
  | [], t => by simp [alk]
  | (k, a) :: l, t => by
    rw [List.filter_cons]
    by_cases hk : ks.contains k = true
    · rw [if_neg (by simp [List.contains_eq_mem] at hk; simp [List.contains_eq_mem, hk]), alk_filter ks l t]
      simp only [alk]
      by_cases e : t = k
      · subst e; rw [if_pos hk, if_pos hk]
      · rw [if_neg e]
    · rw [if_pos (by simp [List.contains_eq_mem] at hk; simp [List.contains_eq_mem, hk])]
      simp only [alk]
      rw [alk_filter ks l t]
      by_cases e : t = k
      · subst e; rw [if_pos rfl, if_neg hk, if_pos rfl]
      · rw [if_neg e, if_neg e]
theorem LS.st_kill (ks : List Nat) (L : LS) : (L.kill ks).st = L.st.kill ks := by
  refine stOf_ext (fun t => ?_) (fun o => ?_)
  · rw [kill_slot]
    show (alk (L.ts.map fun p => (p.1, kS ks p.2)) t).getD .bad = kS ks ((alk L.ts t).getD .bad)
    rw [alk_map]
    cases alk L.ts t <;> rfl
  · rw [kill_obj]
    show alk ((L.os.filter fun p => !ks.contains p.1).map fun p => (p.1, kO ks p.2)) o = if ks.contains o then none else (alk L.os o).map (kO ks)
    rw [alk_map, alk_filter]
    split <;> rfl

def fTs : List (Nat × Slot) → (List (Nat × Slot) → Prop) → Prop
  | [], k => k []
  | (t, s) :: l, k => fS s fun s => fTs l fun l => k ((t, s) :: l)
theorem fTs_eq : ∀ (v : List (Nat × Slot)) (k : List (Nat × Slot) → Prop), fTs v k = k v
  | [], k => rfl
  | (q, o) :: ls, k => by rw [fTs, fS_eq, fTs_eq]
def killK (L : LS) (ks : List Nat) (K : LS → Prop) : Prop :=
  match ks with
  | [] => K L
  | k :: ks => match L with
    | ⟨ts, os, kn⟩ => fTs (ts.map fun p => (p.1, kS (k :: ks) p.2)) fun ts => fSets ((os.filter fun p => !(k :: ks).contains p.1).map fun p => (p.1, kO (k :: ks) p.2)) fun os => K ⟨ts, os, kn⟩
theorem killK_eq (L : LS) (ks : List Nat) {K : LS → Prop} (h : killK L ks K) : ∃ L', L'.st = L.st.kill ks ∧ K L' := by
  cases ks with
  | nil => exact ⟨L, rfl, h⟩
  | cons k ks =>
    obtain ⟨ts, os, kn⟩ := L
    simp only [killK, fTs_eq, fSets_eq] at h
    exact ⟨_, LS.st_kill (k :: ks) ⟨ts, os, kn⟩, h⟩

theorem VR.opk (hT : TabOk P T) (hin : dstsIn n ops = true) {i : Nat} {o : Oper} {rest : List Oper} {L : LS} {K : LS → Prop} (hg : guardOn ops L.st o = some true) {e : Eff} (he : OpL P L.st o e)
    (h : killK L e.kills fun L => putK L e.sets o.dst e.dst fun L => runK T ops.toList (fun i l L => VR P n ops i l L K) K rest (i + 1) L) : VR P n ops i (o :: rest) L K := by
  constructor
  intro hd
  obtain ⟨h1, h2⟩ := drop_cons hd
  obtain ⟨L1, e1, h3⟩ := killK_eq L e.kills h
  rw [putK_eq] at h3
  rw [List.length_cons, List.range'_succ]
  refine vo_op hin (by simpa using h1) hg he ?_
  have e2 : L.st.app o.dst e = ((L1.sets e.sets).put o.dst e.dst).st := by rw [LS.st_put, LS.st_sets, e1]; rfl
  rw [e2]
  exact (VR.go hT hin h3).1 h2

theorem VR.opw (hT : TabOk P T) (hin : dstsIn n ops = true) {i : Nat} {o : Oper} {rest : List Oper} {L : LS} {K : LS → Prop} (hg : guardOn ops L.st o = some true) {rd : List Nat} {E : Eff → Prop} (he : OpW P L.st o rd E)
    (h : ∀ e, E e → killK L e.kills fun L => putK L e.sets o.dst e.dst fun L => runK T ops.toList (fun i l L => VR P n ops i l L K) K rest (i + 1) L) : VR P n ops i (o :: rest) L K := by
  constructor
  intro hd
  obtain ⟨h1, h2⟩ := drop_cons hd
  rw [List.length_cons, List.range'_succ]
  refine vo_opw hin (by simpa using h1) hg he fun e hE => ?_
  obtain ⟨L1, e1, h3⟩ := killK_eq L e.kills (h e hE)
  rw [putK_eq] at h3
  have e2 : L.st.app o.dst e = ((L1.sets e.sets).put o.dst e.dst).st := by rw [LS.st_put, LS.st_sets, e1]; rfl
  rw [e2]
  exact (VR.go hT hin h3).1 h2

/-- A call of a pure function. -/
theorem VR.pure (hT : TabOk P T) (hin : dstsIn n ops = true) {i : Nat} {o : Oper} {rest : List Oper} {L : LS} {K : LS → Prop} (hg : guardOn ops L.st o = some true) {rd : List Nat} {s : Slot} (he : OpW P L.st o rd (fun e => e = { dst := s }))
    (h : putK L [] o.dst s fun L => runK T ops.toList (fun i l L => VR P n ops i l L K) K rest (i + 1) L) : VR P n ops i (o :: rest) L K :=
  VR.opw hT hin hg he fun e hE => by subst hE; exact h

theorem VL.go (hT : TabOk P T) {c : Code} {L : LS} {K : Exit → LS → Prop} (h : vcK P T n c L K) : VL P n c L K := vcK_ok hT h

theorem VL.wk {c : Code} {L L' : LS} {K : Exit → LS → Prop} (hw : Wk n L.st L'.st) (h : VL P n c L' K) : VL P n c L K := ⟨VC.wk h.1 hw⟩

theorem VL.loop (hT : TabOk P T) {α : Type} {c : Code} {L : LS} {K : Exit → LS → Prop} (st : α → LS) (μ : α → Nat) (x : α) (h0 : Wk n L.st (st x).st)
    (round : ∀ x, vcK P T n c (st x) (fun e L' => bif isNormal e then ∃ y, μ y < μ x ∧ Wk n L'.st (st y).st else K e L')) : VL P n (.loop c) L K := by
  refine ⟨vc_loop (fun y => (st y).st) μ x h0 fun y => VC.mono (vcK_ok hT (round y)).1 fun e S he => ?_⟩
  obtain ⟨L', rfl, he⟩ := he
  cases e with
  | normal => exact he
  | _ => exact ⟨L', rfl, he⟩

/-- A loop: a family of states, what holds of each, a measure. -/
theorem VL.loopI (hT : TabOk P T) {α : Type} {c : Code} {L : LS} {K : Exit → LS → Prop} (I : α → Prop) (st : α → LS) (μ : α → Nat) (x : α) (hx : I x) (h0 : Wk n L.st (st x).st)
    (round : ∀ x, I x → vcK P T n c (st x) (fun e L' => bif isNormal e then ∃ y, I y ∧ μ y < μ x ∧ Wk n L'.st (st y).st else K e L')) : VL P n (.loop c) L K := by
  refine ⟨vc_loop (α := { x // I x }) (fun y => (st y.1).st) (fun y => μ y.1) ⟨x, hx⟩ h0 fun y => VC.mono (vcK_ok hT (round y.1 y.2)).1 fun e S he => ?_⟩
  obtain ⟨L', rfl, he⟩ := he
  cases e with
  | normal =>
    obtain ⟨z, hz, h1, h2⟩ := he
    exact ⟨⟨z, hz⟩, h1, h2⟩
  | _ => exact ⟨L', rfl, he⟩
end

-- drawn regions
abbrev Trip := Nat × List Nat × List Nat
def Stp.trip (s : Stp) : Trip := (s.i, s.rd, s.tw)
def commB (ops : Array Oper) (x y : Trip) : Bool :=
  match ops[x.1]?, ops[y.1]? with
  | some ox, some oy => ox.apart ops oy && x.2.2.all (fun q => !y.2.1.contains q && !y.2.2.contains q) && y.2.2.all (fun q => !x.2.1.contains q)
  | _, _ => false
def pairsB (ops : Array Oper) (cl : Nat → List Nat) : List Trip → Bool
  | [] => true
  | x :: l => (l.all fun y => (cl y.1).contains x.1 || commB ops x y) && pairsB ops cl l
theorem pairsB_ok {ops : Array Oper} {cl : Nat → List Nat} : ∀ {l : List Stp}, pairsB ops cl (l.map Stp.trip) = true → pairsOk ops cl l = true
  | [], _ => rfl
  | x :: l, h => by
    simp only [List.map_cons, pairsB, Bool.and_eq_true] at h
    simp only [pairsOk, Bool.and_eq_true]
    refine ⟨?_, pairsB_ok h.2⟩
    rw [List.all_map] at h
    exact h.1

/-- The operations of a drawn region from the i-th on; the newest step first. -/
def drK (T : Tab) (all : List Oper) (stuck : Nat → List Oper → LS → List Trip → Prop) (K : LS → List Trip → Prop) : List Oper → Nat → LS → List Trip → Prop
  | [], _, L, fs => K L fs
  | o :: l, i, L, fs => match o.guard with
    | none => match auto T L.st o with
      | some ⟨s, _, r, [], w⟩ => putK L w o.dst s fun L => drK T all stuck K l (i + 1) L ((i, r ++ w.map (·.1), w.map (·.1)) :: fs)
      | _ => stuck i (o :: l) L fs
    | some (j, want) => match (nth? all j).bind (·.dst) with
      | none => stuck i (o :: l) L fs
      | some t => match bslot L t with
        | none => stuck i (o :: l) L fs
        | some none => putK L [] o.dst (.tup []) fun L => drK T all stuck K l (i + 1) L ((i, [], []) :: fs)
        | some (some b) => match hasN L.ks t, b == want with
          | true, true => match auto T L.st o with
            | some ⟨s, _, r, [], w⟩ => putK L w o.dst s fun L => drK T all stuck K l (i + 1) L ((i, r ++ w.map (·.1), w.map (·.1)) :: fs)
            | _ => stuck i (o :: l) L fs
          | true, false => putK L [] o.dst (.tup []) fun L => drK T all stuck K l (i + 1) L ((i, [], []) :: fs)
          | false, _ =>
            (b = want → knownK L t want fun L => match auto T L.st o with
              | some ⟨s, _, r, [], w⟩ => putK L w o.dst s fun L => drK T all stuck K l (i + 1) L ((i, r ++ w.map (·.1), w.map (·.1)) :: fs)
              | _ => stuck i (o :: l) L fs) ∧
            (b = !want → knownK L t (!want) fun L => putK L [] o.dst (.tup []) fun L => drK T all stuck K l (i + 1) L ((i, [], []) :: fs))

section
variable {P : Program} {T : Tab} {n : Nat} {ops : Array Oper}

structure DR (P : Program) (ops : Array Oper) (i : Nat) (rest : List Oper) (L : LS) (fs : List Trip) (K : LS → List Trip → Prop) : Prop where
  h : ops.toList.drop i = rest → ∀ st : List Stp, st.map Stp.trip = fs.reverse → Dr P ops L.st (List.range' i rest.length) st (fun S st' => ∃ L', S = L'.st ∧ K L' (st'.map Stp.trip).reverse)

theorem DR.nil {i : Nat} {L : LS} {fs : List Trip} {K : LS → List Trip → Prop} (h : K L fs) : DR P ops i [] L fs K := by
  constructor
  intro _ st hst
  exact Dr.done ⟨L, rfl, by rw [hst, List.reverse_reverse]; exact h⟩
theorem DR.stepw {i : Nat} {o : Oper} {rest : List Oper} {L : LS} {fs : List Trip} {K : LS → List Trip → Prop} (hg : guardOn ops L.st o = some true) {rd : List Nat} {e : Eff} (hk : e.kills = []) (he : OpW P L.st o rd (fun x => x = e))
    (h : DR P ops (i + 1) rest ((L.sets e.sets).put o.dst e.dst) ((i, rd, e.sets.map (·.1)) :: fs) K) : DR P ops i (o :: rest) L fs K := by
  constructor
  intro hd st hst
  obtain ⟨h1, h2⟩ := drop_cons hd
  rw [List.length_cons, List.range'_succ]
  refine Dr.op (by simpa using h1) hg hk he (fun x hx => hx) ?_
  have e1 : L.st.app o.dst e = ((L.sets e.sets).put o.dst e.dst).st := by rw [LS.st_put, LS.st_sets]; unfold St.app; rw [hk]; rfl
  rw [e1]
  exact h.1 h2 _ (by simp [hst, Stp.trip])
theorem DR.off {i : Nat} {o : Oper} {rest : List Oper} {L : LS} {fs : List Trip} {K : LS → List Trip → Prop} (hg : guardOn ops L.st o = some false)
    (h : DR P ops (i + 1) rest (L.put o.dst (.tup [])) ((i, [], []) :: fs) K) : DR P ops i (o :: rest) L fs K := by
  constructor
  intro hd st hst
  obtain ⟨h1, h2⟩ := drop_cons hd
  rw [List.length_cons, List.range'_succ]
  have h1' : ops[i]? = some o := by simpa using h1
  obtain ⟨r, Sf, k1, k2, k3⟩ := h.1 h2 (st ++ [⟨i, none, [], []⟩]) (by simp [hst, Stp.trip])
  refine ⟨⟨i, none, [], []⟩ :: r, Sf, by simp [k1], .cons ⟨o, h1', hg, rfl, rfl, fun e he => by cases he⟩ ?_, by simpa using k3⟩
  have e : stApp ops L.st ⟨i, none, [], []⟩ = (L.put o.dst (.tup [])).st := by rw [LS.st_put]; simp [stApp, h1', Stp.eff, St.app, St.kill, St.sets]
  rw [e]; exact k2
theorem DR.same {i : Nat} {rest : List Oper} {L L' : LS} {fs : List Trip} {K : LS → List Trip → Prop} (e : L.st = L'.st) (h : DR P ops i rest L' fs K) : DR P ops i rest L fs K := by
  constructor; intro hd; rw [e]; exact h.1 hd

theorem drK_ok (hT : TabOk P T) {stuck : Nat → List Oper → LS → List Trip → Prop} {K K' : LS → List Trip → Prop} (hs : ∀ i l L fs, stuck i l L fs → DR P ops i l L fs K) (hk : ∀ L fs, K' L fs → K L fs) :
    ∀ {l : List Oper} {i : Nat} {L : LS} {fs : List Trip}, drK T ops.toList stuck K' l i L fs → DR P ops i l L fs K
  | [], i, L, fs, h => .nil (hk L fs h)
  | o :: l, i, L, fs, h => by
    have one : ∀ {L : LS}, guardOn ops L.st o = some true → (match auto T L.st o with
              | some ⟨s, _, r, [], w⟩ => putK L w o.dst s fun L => drK T ops.toList stuck K' l (i + 1) L ((i, r ++ w.map (·.1), w.map (·.1)) :: fs)
              | _ => stuck i (o :: l) L fs) → DR P ops i (o :: l) L fs K := by
      intro L hg h
      split at h
      · rename_i s c r w he
        rw [putK_eq] at h
        exact DR.stepw (e := ⟨s, c, r, [], w⟩) hg rfl (auto_ok hT he).w (drK_ok hT hs hk h)
      · exact hs _ _ _ _ h
    unfold drK at h
    split at h
    · rename_i hg
      exact one (guard_none hg) h
    · rename_i j want hg
      split at h
      · exact hs _ _ _ _ h
      · rename_i t ht
        split at h
        · exact hs _ _ _ _ h
        · rename_i hb
          rw [putK_eq] at h
          exact DR.off (guard_undef hg ht hb) (drK_ok hT hs hk h)
        · rename_i b hb
          have hgo := guard_some hg ht hb
          split at h
          · rename_i hw
            rw [hw] at hgo
            exact one hgo h
          · rename_i hw
            rw [hw] at hgo
            rw [putK_eq] at h
            exact DR.off hgo (drK_ok hT hs hk h)
          · by_cases hbw : b = want
            · have e := known_st hb hbw
              have h3 := h.1 hbw
              rw [knownK_eq] at h3
              exact DR.same e.symm (one (by rw [e, hgo, hbw]; simp) h3)
            · have hbn : b = !want := by cases b <;> cases want <;> simp_all
              have e := known_st hb hbn
              have h3 := h.2 hbn
              rw [knownK_eq, putK_eq] at h3
              exact DR.same e.symm (DR.off (by rw [e, hgo]; simp [hbw]) (drK_ok hT hs hk h3))

theorem DR.go (hT : TabOk P T) {i : Nat} {rest : List Oper} {L : LS} {fs : List Trip} {K : LS → List Trip → Prop} (h : drK T ops.toList (fun i l L fs => DR P ops i l L fs K) K rest i L fs) : DR P ops i rest L fs K :=
  drK_ok hT (fun _ _ _ _ h => h) (fun _ _ h => h) h
theorem DR.op (hT : TabOk P T) {i : Nat} {o : Oper} {rest : List Oper} {L : LS} {fs : List Trip} {K : LS → List Trip → Prop} (hg : guardOn ops L.st o = some true) {e : Eff} (he : OpL P L.st o e) (hk : e.kills = [])
    (h : putK L e.sets o.dst e.dst fun L => drK T ops.toList (fun i l L fs => DR P ops i l L fs K) K rest (i + 1) L ((i, e.reads ++ e.sets.map (·.1), e.sets.map (·.1)) :: fs)) : DR P ops i (o :: rest) L fs K := by
  rw [putK_eq] at h
  exact DR.stepw hg hk he.w (DR.go hT h)
theorem DR.pure (hT : TabOk P T) {i : Nat} {o : Oper} {rest : List Oper} {L : LS} {fs : List Trip} {K : LS → List Trip → Prop} (hg : guardOn ops L.st o = some true) {rd : List Nat} {s : Slot} (he : OpW P L.st o rd (fun e => e = { dst := s }))
    (h : putK L [] o.dst s fun L => drK T ops.toList (fun i l L fs => DR P ops i l L fs K) K rest (i + 1) L ((i, rd, []) :: fs)) : DR P ops i (o :: rest) L fs K := by
  rw [putK_eq] at h
  exact DR.stepw hg rfl he (DR.go hT h)

theorem VL.draw (hT : TabOk P T) {id : Nat} (hm : P.follows .mixedOrders = true) {L : LS} {K : Exit → LS → Prop} (hin : dstsIn n ops = true) (hcl : clOk ops (clOf ops) = true)
    (h : drK T ops.toList (fun i l L fs => DR P ops i l L fs (fun L fs => Need (pairsB ops (clOf ops) fs.reverse = true) ∧ K .normal L)) (fun L fs => Need (pairsB ops (clOf ops) fs.reverse = true) ∧ K .normal L) ops.toList 0 L []) : VL P n (.region id ops true) L K := by
  have := (DR.go hT h).1 rfl [] rfl
  refine ⟨vc_dr hm hin hcl ?_⟩
  rw [List.range_eq_range']
  obtain ⟨rest, Sf, h1, h2, h3⟩ := this
  refine ⟨rest, Sf, by simpa using h1, h2, ?_⟩
  obtain ⟨L', e, h4, h5⟩ := h3
  have h4 := h4.1
  rw [List.reverse_reverse] at h4
  exact ⟨pairsB_ok h4, L', e, h5⟩
end

-- pure ends
def noRefL : Leaf → Bool
  | .g _ => true
  | .err => true
  | _ => false
def noRef : Slot → Bool
  | .one l => noRefL l
  | .agg ls => ls.all noRefL
  | .tup xs => xs.all fun x => x.2.all noRefL
  | .bad => true
theorem noRefL_rn {ρ : Nat → Option Nat} {l : Leaf} (h : noRefL l = true) : rn ρ l = l := by cases l <;> simp_all [noRefL, rn]
theorem noRefLs_rn {ρ : Nat → Option Nat} {ls : List Leaf} (h : ls.all noRefL = true) : ls.map (rn ρ) = ls := by
  rw [List.all_eq_true] at h
  exact (List.map_congr_left fun l hl => noRefL_rn (h l hl)).trans (List.map_id _)
theorem noRef_rn {ρ : Nat → Option Nat} {s : Slot} (h : noRef s = true) : rnS ρ s = s := by
  cases s with
  | one l => simp only [rnS]; rw [noRefL_rn h]
  | agg ls => simp only [rnS]; rw [noRefLs_rn h]
  | tup xs =>
    simp only [noRef] at h
    rw [List.all_eq_true] at h
    simp only [rnS]
    congr 1
    exact (List.map_congr_left fun x hx => by rw [noRefLs_rn (h x hx)]; rfl).trans (List.map_id _)
  | bad => rfl
theorem noRef_gr {s : Slot} (h : noRef s = true) : GrS s := by
  cases s with
  | one l => cases l <;> simp_all [noRef, noRefL, GrS, GrL, isMem]
  | agg ls =>
    simp only [noRef, List.all_eq_true] at h
    intro l hl; have := h l hl
    cases l <;> simp_all [noRefL, GrL, isMem]
  | tup xs =>
    simp only [noRef, List.all_eq_true] at h
    intro x hx l hl; have := h x hx l hl
    cases l <;> simp_all [noRefL, GrL, isMem]
  | bad => trivial

theorem o_purN {P : Program} {S : St} {o : Oper} {F : Operand} {Xs : Array Operand} {ats : Array TypeId} {f : FuncId} {args : List Slot} {s : Slot} (h : CallsV P f args [] (pureQ s)) (hn : noRef s = true)
    (ho : o.op = .call { callee := .value F, args := Xs, argTypes := ats }) (hF : ev S F = .one (.clo f []))
    (hfree : S.obj 100000 = none ∧ S.obj 100001 = none ∧ S.obj 100002 = none ∧ S.obj 100003 = none) (hargs : (Xs.toList.map (ev S)).map (vS true S []) = args) :
    OpW P S o ([100000, 100001, 100002, 100003] ++ (Xs.toList.map (ev S)).flatMap refsS) (fun e => e = { dst := s }) :=
  o_pure ho hF hfree hargs h (noRef_gr hn) (noRef_rn hn)

def endP (T : Tab) (fn : Func) (s : Slot) (e : Exit) (L : LS) : Prop :=
  match e with
  | .normal | .ret => match (fn.results.toList.mapM (resSlot T L.st)).bind resAll with
    | none => False
    | some s' => fS s' fun s' => match noRef s' with
      | true => s' = s
      | false => False
  | _ => False

theorem endP_ok {T : Tab} {fn : Func} {s : Slot} {e : Exit} {L : LS} (h : endP T fn s e L) : endQ T fn 0 (pureQ s) e L := by
  have main : (match (fn.results.toList.mapM (resSlot T L.st)).bind resAll with
    | none => False
    | some s' => fS s' fun s' => match noRef s' with
      | true => s' = s
      | false => False) → RetOk T fn 0 L.st (pureQ s) := by
    intro h
    split at h
    · exact h.elim
    · rename_i s' hs
      rw [fS_eq] at h
      split at h
      · rename_i hn
        subst h
        obtain ⟨ss, h1, h2⟩ := Option.bind_eq_some_iff.1 hs
        exact ret0 h1 h2 ⟨noRef_rn hn, rfl, rfl⟩
      · exact h.elim
  cases e <;> first | exact main h | exact h.elim

section
variable {P : Program} {T : Tab}
theorem pure_walk (hT : TabOk P T) {f : FuncId} {fn : Func} {c : Code} {n : Nat} (hf : P.funcs[f]? = some fn) (hname : (fn.name == "runtime.NumGoroutine") = false) (hb : fn.body = some c) (hn : fn.ntmps = n)
    {args : List Slot} (hp : args.length ≤ n) {s : Slot} (h : fArgs args 0 fun ts => vcK P T n c ⟨ts, [], []⟩ (endP T fn s)) : CallsV P f args [] (pureQ s) := by
  rw [fArgs_eq] at h
  exact callsV_vl hT hf hname hb hn (by simp) hp (VL.mono (vcK_ok hT h) fun e L he => endP_ok he)
end
end Go.Vl

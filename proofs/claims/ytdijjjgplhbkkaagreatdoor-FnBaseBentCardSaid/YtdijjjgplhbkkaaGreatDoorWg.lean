/- V-logic, part x: contracts by the walk. -/
import Derived.Test.YtdijjjgplhbkkaaGreatDoorWf
set_option linter.unusedSimpArgs false
set_option linter.unusedVariables false
set_option linter.unnecessarySimpa false
namespace Go.Vl
open Go Go.RowKit
def argL {α : Type} : List α → Nat → List (Nat × α)
  | [], _ => []
  | a :: l, i => (i, a) :: argL l (i + 1)
theorem alk_argL {α : Type} : ∀ (l : List α) (i t : Nat), alk (argL l i) t = if i ≤ t then l[t - i]? else none
  | [], i, t => by simp [argL, alk]
  | a :: l, i, t => by
    simp only [argL, alk, alk_argL l]
    by_cases h : t = i
    · subst h; simp
    · rw [if_neg h]
      by_cases h2 : i ≤ t
      · rw [if_pos (by omega), if_pos h2]
        rw [show t - i = (t - (i + 1)) + 1 by omega, List.getElem?_cons_succ]
      · rw [if_neg (by omega), if_neg h2]
def fArgs : List Slot → Nat → (List (Nat × Slot) → Prop) → Prop
  | [], _, k => k []
  | a :: l, i, k => fS a fun a => fArgs l (i + 1) fun l => k ((i, a) :: l)
theorem fArgs_eq : ∀ (l : List Slot) (i : Nat) (k : List (Nat × Slot) → Prop), fArgs l i k = k (argL l i)
  | [], _, _ => rfl
  | a :: l, i, k => by rw [fArgs, fS_eq, fArgs_eq]; rfl
def endQ (T : Tab) (fn : Func) (k : Nat) (Post : Slot → List (Option Ob) → List Ob → Prop) (e : Exit) (L : LS) : Prop :=
  match e with
  | .normal => RetOk T fn k L.st Post
  | .ret => RetOk T fn k L.st Post
  | _ => False
section
variable {P : Program} {T : Tab}
theorem callsV_vl (hT : TabOk P T) {f : FuncId} {fn : Func} {c : Code} {n : Nat} (hf : P.funcs[f]? = some fn) (hname : (fn.name == "runtime.NumGoroutine") = false) (hb : fn.body = some c) (hn : fn.ntmps = n)
    {args : List Slot} {objs : List Ob} (hk : objs.length ≤ 100) (hp : args.length ≤ n) {Post : Slot → List (Option Ob) → List Ob → Prop}
    (h : VL P n c ⟨argL args 0, argL objs 0, []⟩ (endQ T fn objs.length Post)) : CallsV P f args objs Post := by
  have e : S0 args objs = LS.st ⟨argL args 0, argL objs 0, []⟩ := by
    refine stOf_ext (fun t => ?_) (fun o => ?_)
    · show (args[t]?).getD .bad = (alk (argL args 0) t).getD .bad
      rw [alk_argL]; simp
    · show objs[o]? = alk (argL objs 0) o
      rw [alk_argL]; simp
  refine callsV_of hT hf hname hb hn hk hp ?_
  rw [e]
  refine VC.mono h.1 fun ex S hS => ?_
  obtain ⟨L, rfl, hq⟩ := hS
  cases ex <;> first | exact hq | exact hq.elim
end
end Go.Vl
namespace Go.Vl
open Go Go.RowKit
section
variable {P : Program} {T : Tab} {n : Nat} {ops : Array Oper}
theorem VR.go (hT : TabOk P T) (hin : dstsIn n ops = true) {i : Nat} {rest : List Oper} {L : LS} {K : LS → Prop} (h : runK T ops.toList (fun i l L => VR P n ops i l L K) K rest i L) : VR P n ops i rest L K :=
  runK_ok hT hin (fun _ _ _ h => h) (fun _ h => h) h
theorem VR.op (hT : TabOk P T) (hin : dstsIn n ops = true) {i : Nat} {o : Oper} {rest : List Oper} {L : LS} {K : LS → Prop} (hg : guardOn ops L.st o = some true) {e : Eff} (he : OpL P L.st o e) (hk : e.kills = [])
    (h : putK L e.sets o.dst e.dst fun L => runK T ops.toList (fun i l L => VR P n ops i l L K) K rest (i + 1) L) : VR P n ops i (o :: rest) L K := by
  rw [putK_eq] at h
  exact VR.step hin hg he hk (VR.go hT hin h)
def LS.kill (ks : List Nat) (L : LS) : LS := ⟨L.ts.map fun p => (p.1, kS ks p.2), (L.os.filter fun p => !ks.contains p.1).map fun p => (p.1, kO ks p.2), L.ks⟩
theorem alk_map {α β : Type} (f : α → β) : ∀ (l : List (Nat × α)) (t : Nat), alk (l.map fun p => (p.1, f p.2)) t = (alk l t).map f
  | [], t => rfl
  | (k, a) :: l, t => by
    simp only [List.map_cons, alk]
    split
    · rfl
    · exact alk_map f l t
theorem alk_filter {α : Type} (ks : List Nat) : ∀ (l : List (Nat × α)) (t : Nat), alk (l.filter fun p => !ks.contains p.1) t = if ks.contains t then none else alk l t
  | [], t => by simp [alk]
  | (k, a) :: l, t => by
    rw [List.filter_cons]
    by_cases hk : ks.contains k = true
    · rw [if_neg (by simp [List.contains_eq_mem] at hk; simp [List.contains_eq_mem, hk]), alk_filter ks l t]
      simp only [alk]
      by_cases e : t = k
      · subst e; rw [if_pos hk, if_pos hk]
      · rw [if_neg e]
    · rw [if_pos (by simp [List.contains_eq_mem] at hk; simp [List.contains_eq_mem, hk])]
      simp only [alk]
      rw [alk_filter ks l t]
      by_cases e : t = k
      · subst e; rw [if_pos rfl, if_neg hk, if_pos rfl]
      · rw [if_neg e, if_neg e]
theorem LS.st_kill (ks : List Nat) (L : LS) : (L.kill ks).st = L.st.kill ks := by
  refine stOf_ext (fun t => ?_) (fun o => ?_)
  · rw [kill_slot]
    show (alk (L.ts.map fun p => (p.1, kS ks p.2)) t).getD .bad = kS ks ((alk L.ts t).getD .bad)
    rw [alk_map]
    cases alk L.ts t <;> rfl
  · rw [kill_obj]
    show alk ((L.os.filter fun p => !ks.contains p.1).map fun p => (p.1, kO ks p.2)) o = if ks.contains o then none else (alk L.os o).map (kO ks)
    rw [alk_map, alk_filter]
    split <;> rfl
def fTs : List (Nat × Slot) → (List (Nat × Slot) → Prop) → Prop
  | [], k => k []
  | (t, s) :: l, k => fS s fun s => fTs l fun l => k ((t, s) :: l)
theorem fTs_eq : ∀ (v : List (Nat × Slot)) (k : List (Nat × Slot) → Prop), fTs v k = k v
  | [], k => rfl
  | (q, o) :: ls, k => by rw [fTs, fS_eq, fTs_eq]
def killK (L : LS) (ks : List Nat) (K : LS → Prop) : Prop :=
  match ks with
  | [] => K L
  | k :: ks => match L with
    | ⟨ts, os, kn⟩ => fTs (ts.map fun p => (p.1, kS (k :: ks) p.2)) fun ts => fSets ((os.filter fun p => !(k :: ks).contains p.1).map fun p => (p.1, kO (k :: ks) p.2)) fun os => K ⟨ts, os, kn⟩
theorem killK_eq (L : LS) (ks : List Nat) {K : LS → Prop} (h : killK L ks K) : ∃ L', L'.st = L.st.kill ks ∧ K L' := by
  cases ks with
  | nil => exact ⟨L, rfl, h⟩
  | cons k ks =>
    obtain ⟨ts, os, kn⟩ := L
    simp only [killK, fTs_eq, fSets_eq] at h
    exact ⟨_, LS.st_kill (k :: ks) ⟨ts, os, kn⟩, h⟩
theorem VR.opk (hT : TabOk P T) (hin : dstsIn n ops = true) {i : Nat} {o : Oper} {rest : List Oper} {L : LS} {K : LS → Prop} (hg : guardOn ops L.st o = some true) {e : Eff} (he : OpL P L.st o e)
    (h : killK L e.kills fun L => putK L e.sets o.dst e.dst fun L => runK T ops.toList (fun i l L => VR P n ops i l L K) K rest (i + 1) L) : VR P n ops i (o :: rest) L K := by
  constructor
  intro hd
  obtain ⟨h1, h2⟩ := drop_cons hd
  obtain ⟨L1, e1, h3⟩ := killK_eq L e.kills h
  rw [putK_eq] at h3
  rw [List.length_cons, List.range'_succ]
  refine vo_op hin (by simpa using h1) hg he ?_
  have e2 : L.st.app o.dst e = ((L1.sets e.sets).put o.dst e.dst).st := by rw [LS.st_put, LS.st_sets, e1]; rfl
  rw [e2]
  exact (VR.go hT hin h3).1 h2
theorem VR.opw (hT : TabOk P T) (hin : dstsIn n ops = true) {i : Nat} {o : Oper} {rest : List Oper} {L : LS} {K : LS → Prop} (hg : guardOn ops L.st o = some true) {rd : List Nat} {E : Eff → Prop} (he : OpW P L.st o rd E)
    (h : ∀ e, E e → killK L e.kills fun L => putK L e.sets o.dst e.dst fun L => runK T ops.toList (fun i l L => VR P n ops i l L K) K rest (i + 1) L) : VR P n ops i (o :: rest) L K := by
  constructor
  intro hd
  obtain ⟨h1, h2⟩ := drop_cons hd
  rw [List.length_cons, List.range'_succ]
  refine vo_opw hin (by simpa using h1) hg he fun e hE => ?_
  obtain ⟨L1, e1, h3⟩ := killK_eq L e.kills (h e hE)
  rw [putK_eq] at h3
  have e2 : L.st.app o.dst e = ((L1.sets e.sets).put o.dst e.dst).st := by rw [LS.st_put, LS.st_sets, e1]; rfl
  rw [e2]
  exact (VR.go hT hin h3).1 h2
theorem VR.pure (hT : TabOk P T) (hin : dstsIn n ops = true) {i : Nat} {o : Oper} {rest : List Oper} {L : LS} {K : LS → Prop} (hg : guardOn ops L.st o = some true) {rd : List Nat} {s : Slot} (he : OpW P L.st o rd (fun e => e = { dst := s }))
    (h : putK L [] o.dst s fun L => runK T ops.toList (fun i l L => VR P n ops i l L K) K rest (i + 1) L) : VR P n ops i (o :: rest) L K :=
  VR.opw hT hin hg he fun e hE => by subst hE; exact h
theorem VL.go (hT : TabOk P T) {c : Code} {L : LS} {K : Exit → LS → Prop} (h : vcK P T n c L K) : VL P n c L K := vcK_ok hT h
theorem VL.wk {c : Code} {L L' : LS} {K : Exit → LS → Prop} (hw : Wk n L.st L'.st) (h : VL P n c L' K) : VL P n c L K := ⟨VC.wk h.1 hw⟩
theorem VL.loop (hT : TabOk P T) {α : Type} {c : Code} {L : LS} {K : Exit → LS → Prop} (st : α → LS) (μ : α → Nat) (x : α) (h0 : Wk n L.st (st x).st)
    (round : ∀ x, vcK P T n c (st x) (fun e L' => bif isNormal e then ∃ y, μ y < μ x ∧ Wk n L'.st (st y).st else K e L')) : VL P n (.loop c) L K := by
  refine ⟨vc_loop (fun y => (st y).st) μ x h0 fun y => VC.mono (vcK_ok hT (round y)).1 fun e S he => ?_⟩
  obtain ⟨L', rfl, he⟩ := he
  cases e with
  | normal => exact he
  | _ => exact ⟨L', rfl, he⟩
theorem VL.loopI (hT : TabOk P T) {α : Type} {c : Code} {L : LS} {K : Exit → LS → Prop} (I : α → Prop) (st : α → LS) (μ : α → Nat) (x : α) (hx : I x) (h0 : Wk n L.st (st x).st)
    (round : ∀ x, I x → vcK P T n c (st x) (fun e L' => bif isNormal e then ∃ y, I y ∧ μ y < μ x ∧ Wk n L'.st (st y).st else K e L')) : VL P n (.loop c) L K := by
  refine ⟨vc_loop (α := { x // I x }) (fun y => (st y.1).st) (fun y => μ y.1) ⟨x, hx⟩ h0 fun y => VC.mono (vcK_ok hT (round y.1 y.2)).1 fun e S he => ?_⟩
  obtain ⟨L', rfl, he⟩ := he
  cases e with
  | normal =>
    obtain ⟨z, hz, h1, h2⟩ := he
    exact ⟨⟨z, hz⟩, h1, h2⟩
  | _ => exact ⟨L', rfl, he⟩
end
abbrev Trip := Nat × List Nat × List Nat × List Nat × Option (List Nat)
def Stp.trip (s : Stp) : Trip := (s.i, s.rd, s.tw, s.eff.kills, s.nm)
def commB (ops : Array Oper) (x y : Trip) : Bool :=
  match ops[x.1]?, ops[y.1]? with
  | some ox, some oy => ox.apart ops oy && x.2.2.1.all (fun q => !y.2.1.contains q && !y.2.2.1.contains q) && y.2.2.1.all (fun q => !x.2.1.contains q) && (kOk x.2.2.2.1 y.2.1 y.2.2.1 y.2.2.2.2 && kOk y.2.2.2.1 x.2.1 x.2.2.1 x.2.2.2.2)
  | _, _ => false
def pairsB (ops : Array Oper) (cl : Nat → List Nat) : List Trip → Bool
  | [] => true
  | x :: l => (l.all fun y => (cl y.1).contains x.1 || commB ops x y) && pairsB ops cl l
theorem pairsB_ok {ops : Array Oper} {cl : Nat → List Nat} : ∀ {l : List Stp}, pairsB ops cl (l.map Stp.trip) = true → pairsOk ops cl l = true
  | [], _ => rfl
  | x :: l, h => by
    simp only [List.map_cons, pairsB, Bool.and_eq_true] at h
    simp only [pairsOk, Bool.and_eq_true]
    refine ⟨?_, pairsB_ok h.2⟩
    rw [List.all_map] at h
    exact h.1
def joinNm : List (Option (List Nat)) → Option (List Nat)
  | [] => some []
  | a :: l => apNm a (joinNm l)
def rdNm (S : St) (r : Nat) : Option (List Nat) := match S.obj r with
  | some ob => obNm ob
  | none => some []
def nmOf (S : St) (o : Oper) (rd : List Nat) (s : Slot) (w : List (Nat × Ob)) : Option (List Nat) :=
  joinNm (o.op.operands.toList.map (fun x => slNm (ev S x)) ++ (rd.map (rdNm S) ++ slNm s :: w.map (fun p => obNm p.2)))
theorem joinNm_mem : ∀ {l : List (Option (List Nat))} {c : List Nat}, joinNm l = some c → ∀ a ∈ l, ∃ b, a = some b ∧ ∀ x ∈ b, x ∈ c
  | [], _, _, _, h => by cases h
  | a :: l, c, h, a', h' => by
    obtain ⟨x, y, h1, h2, rfl⟩ := apNm_some h
    rcases List.mem_cons.1 h' with rfl | h'
    · exact ⟨x, h1, fun z hz => List.mem_append_left _ hz⟩
    · obtain ⟨b, k1, k2⟩ := joinNm_mem h2 a' h'
      exact ⟨b, k1, fun z hz => List.mem_append_right _ (k2 z hz)⟩
theorem nmOf_ok {S : St} {o : Oper} {i : Nat} {rd tw : List Nat} {e : Eff} : NmOk S o ⟨i, some e, rd, tw, nmOf S o rd e.dst e.sets⟩ := by
  intro l hl
  have hm := joinNm_mem (show joinNm _ = some l from hl)
  refine ⟨fun _ => ⟨fun x hx => ?_, fun r hr ob hob => ?_⟩, ?_, fun p hp => ?_⟩
  · exact hm _ (List.mem_append_left _ (List.mem_map.2 ⟨x, Array.mem_toList_iff.2 hx, rfl⟩))
  · have := hm (rdNm S r) (List.mem_append_right _ (List.mem_append_left _ (List.mem_map.2 ⟨r, hr, rfl⟩)))
    unfold rdNm at this
    rw [hob] at this
    exact this
  · exact hm _ (List.mem_append_right _ (List.mem_append_right _ List.mem_cons_self))
  · exact hm _ (List.mem_append_right _ (List.mem_append_right _ (List.mem_cons_of_mem _ (List.mem_map.2 ⟨p, hp, rfl⟩))))
def noRefL : Leaf → Bool
  | .g _ => true
  | .err => true
  | _ => false
def noRef : Slot → Bool
  | .one l => noRefL l
  | .agg ls => ls.all noRefL
  | .tup xs => xs.all fun x => x.2.all noRefL
  | .bad => true
theorem noRefL_rn {ρ : Nat → Option Nat} {l : Leaf} (h : noRefL l = true) : rn ρ l = l := by cases l <;> simp_all [noRefL, rn]
theorem noRefLs_rn {ρ : Nat → Option Nat} {ls : List Leaf} (h : ls.all noRefL = true) : ls.map (rn ρ) = ls := by
  rw [List.all_eq_true] at h
  exact (List.map_congr_left fun l hl => noRefL_rn (h l hl)).trans (List.map_id _)
theorem noRef_rn {ρ : Nat → Option Nat} {s : Slot} (h : noRef s = true) : rnS ρ s = s := by
  cases s with
  | one l => simp only [rnS]; rw [noRefL_rn h]
  | agg ls => simp only [rnS]; rw [noRefLs_rn h]
  | tup xs =>
    simp only [noRef] at h
    rw [List.all_eq_true] at h
    simp only [rnS]
    congr 1
    exact (List.map_congr_left fun x hx => by rw [noRefLs_rn (h x hx)]; rfl).trans (List.map_id _)
  | bad => rfl
theorem noRef_gr {s : Slot} (h : noRef s = true) : GrS s := by
  cases s with
  | one l => cases l <;> simp_all [noRef, noRefL, GrS, GrL, isMem]
  | agg ls =>
    simp only [noRef, List.all_eq_true] at h
    intro l hl; have := h l hl
    cases l <;> simp_all [noRefL, GrL, isMem]
  | tup xs =>
    simp only [noRef, List.all_eq_true] at h
    intro x hx l hl; have := h x hx l hl
    cases l <;> simp_all [noRefL, GrL, isMem]
  | bad => trivial
theorem o_purN {P : Program} {S : St} {o : Oper} {F : Operand} {Xs : Array Operand} {ats : Array TypeId} {f : FuncId} {args : List Slot} {s : Slot} (h : CallsV P f args [] (pureQ s)) (hn : noRef s = true)
    (ho : o.op = .call { callee := .value F, args := Xs, argTypes := ats }) (hF : ev S F = .one (.clo f []))
    (hfree : S.obj 100000 = none ∧ S.obj 100001 = none ∧ S.obj 100002 = none ∧ S.obj 100003 = none) (hargs : (Xs.toList.map (ev S)).map (vS true S []) = args) :
    OpW P S o ([100000, 100001, 100002, 100003] ++ (Xs.toList.map (ev S)).flatMap refsS) (fun e => e = { dst := s }) :=
  o_pure ho hF hfree hargs h (noRef_gr hn) (noRef_rn hn)
def endP (T : Tab) (fn : Func) (s : Slot) (e : Exit) (L : LS) : Prop :=
  match e with
  | .normal | .ret => match (fn.results.toList.mapM (resSlot T L.st)).bind resAll with
    | none => False
    | some s' => fS s' fun s' => match noRef s' with
      | true => s' = s
      | false => False
  | _ => False
theorem endP_ok {T : Tab} {fn : Func} {s : Slot} {e : Exit} {L : LS} (h : endP T fn s e L) : endQ T fn 0 (pureQ s) e L := by
  have main : (match (fn.results.toList.mapM (resSlot T L.st)).bind resAll with
    | none => False
    | some s' => fS s' fun s' => match noRef s' with
      | true => s' = s
      | false => False) → RetOk T fn 0 L.st (pureQ s) := by
    intro h
    split at h
    · exact h.elim
    · rename_i s' hs
      rw [fS_eq] at h
      split at h
      · rename_i hn
        subst h
        obtain ⟨ss, h1, h2⟩ := Option.bind_eq_some_iff.1 hs
        exact ret0 h1 h2 ⟨noRef_rn hn, rfl, rfl⟩
      · exact h.elim
  cases e <;> first | exact main h | exact h.elim
section
variable {P : Program} {T : Tab}
theorem pure_walk (hT : TabOk P T) {f : FuncId} {fn : Func} {c : Code} {n : Nat} (hf : P.funcs[f]? = some fn) (hname : (fn.name == "runtime.NumGoroutine") = false) (hb : fn.body = some c) (hn : fn.ntmps = n)
    {args : List Slot} (hp : args.length ≤ n) {s : Slot} (h : fArgs args 0 fun ts => vcK P T n c ⟨ts, [], []⟩ (endP T fn s)) : CallsV P f args [] (pureQ s) := by
  rw [fArgs_eq] at h
  exact callsV_vl hT hf hname hb hn (by simp) hp (VL.mono (vcK_ok hT h) fun e L he => endP_ok he)
end
end Go.Vl
namespace Go.Vl
open Go Go.RowKit
def funQ (s : Slot) (outs : List (Option Ob)) (news : List Ob) : Slot → List (Option Ob) → List Ob → Prop := fun s' o n => s' = s ∧ o = outs ∧ n = news
section
variable {P : Program} {T : Tab} {n : Nat} {ops : Array Oper} {S : St} {o : Oper}
theorem o_funN {F : Operand} {Xs : Array Operand} {ats : Array TypeId} {f : FuncId} {os : List Nat} {args : List Slot} {objs : List Ob} {s : Slot} {outs : List (Option Ob)} {news : List Ob} (h : CallsV P f args objs (funQ s outs news))
    (g : Bool) (ids : List Nat) (hg : (g = true → GrS s ∧ (∀ ob, some ob ∈ outs → GrO ob) ∧ ∀ ob ∈ news, GrO ob)) (hl : news.length ≤ 4)
    {d : Nat} (_ : o.dst = some d) (ho : o.op = .call { callee := .value F, args := Xs, argTypes := ats }) (hF : ev S F = .one (.clo f os)) {obs : List Ob} (hids : ids.mapM S.obj = some obs) (hnd : nodupB ids = true)
    (hfree : S.obj (1000 + 4 * d) = none ∧ S.obj (1000 + 4 * d + 1) = none ∧ S.obj (1000 + 4 * d + 2) = none ∧ S.obj (1000 + 4 * d + 3) = none)
    (hargs : (Xs.toList.map (ev S) ++ os.map fun q => Slot.one (.ptr q 0)).map (vS g S ids) = args) (hobjs : obs.map (vO g S ids) = objs) :
    OpW P S o ([1000 + 4 * d, 1000 + 4 * d + 1, 1000 + 4 * d + 2, 1000 + 4 * d + 3] ++ (ids ++ (Xs.toList.map (ev S) ++ os.map fun q => Slot.one (.ptr q 0)).flatMap refsS ++ obs.flatMap refsO))
      (fun e => e = cEff ids (1000 + 4 * d) s outs news) := by
  have := o_call (S := S) ho hF g ids hids (nodupB_ok hnd) (1000 + 4 * d) (by omega) hfree hargs hobjs h
    (fun s' outs' news' hp => by obtain ⟨rfl, rfl, rfl⟩ := hp; exact ⟨hl, hg⟩)
  intro S' k1 k2 C B a w hR hd next Q hk
  refine this S' k1 k2 C B a w hR hd next Q fun e B' v w' hE hr => hk e B' v w' ?_ hr
  obtain ⟨s', outs', news', ⟨rfl, rfl, rfl⟩, _, rfl⟩ := hE
  rfl
theorem VR.fun (hT : TabOk P T) (hin : dstsIn n ops = true) {i : Nat} {rest : List Oper} {L : LS} {K : LS → Prop} (hg : guardOn ops L.st o = some true) {rd : List Nat} {e : Eff} (he : OpW P L.st o rd (fun x => x = e))
    (h : killK L e.kills fun L => putK L e.sets o.dst e.dst fun L => runK T ops.toList (fun i l L => VR P n ops i l L K) K rest (i + 1) L) : VR P n ops i (o :: rest) L K :=
  VR.opw hT hin hg he fun e' hE => by subst hE; exact h
structure EndOk (T : Tab) (fn : Func) (k : Nat) (L : LS) (Post : Slot → List (Option Ob) → List Ob → Prop) : Prop where
  h : RetOk T fn k L.st Post
def endE (T : Tab) (fn : Func) (k : Nat) (Post : Slot → List (Option Ob) → List Ob → Prop) (e : Exit) (L : LS) : Prop :=
  match e with
  | .normal => EndOk T fn k L Post
  | .ret => EndOk T fn k L Post
  | _ => False
theorem fun_walk (hT : TabOk P T) {f : FuncId} {fn : Func} {c : Code} {n : Nat} (hf : P.funcs[f]? = some fn) (hname : (fn.name == "runtime.NumGoroutine") = false) (hb : fn.body = some c) (hn : fn.ntmps = n)
    {args : List Slot} {objs : List Ob} (hk : objs.length ≤ 100) (hp : args.length ≤ n) {Post : Slot → List (Option Ob) → List Ob → Prop}
    (h : fArgs args 0 fun ts => fSets (argL objs 0) fun os => vcK P T n c ⟨ts, os, []⟩ (endE T fn objs.length Post)) : CallsV P f args objs Post := by
  rw [fArgs_eq, fSets_eq] at h
  refine callsV_vl hT hf hname hb hn hk hp (VL.mono (vcK_ok hT h) fun e L he => ?_)
  cases e <;> first | exact he.1 | exact he.elim
theorem endG {fn : Func} {k : Nat} {Post : Slot → List (Option Ob) → List Ob → Prop} {L : LS} (ids : List Nat) {ss : List Slot} {s : Slot} {obs : List Ob} (h1 : fn.results.toList.mapM (resSlot T L.st) = some ss) (h2 : resAll ss = some s) (h3 : ids.mapM L.st.obj = some obs)
    (h4 : nodupB ids = true) (h5 : (ids.all fun i => Nat.ble k i) = true) (h : Post (rnS (rho k ids) s) (outsOf k ids L.st) (obs.map (rnO (rho k ids)))) : EndOk T fn k L Post :=
  ⟨ss, s, ids, obs, h1, h2, h3, nodupB_ok h4, (fun i hi => by simpa using List.all_eq_true.1 h5 i hi), h⟩
structure EndF (T : Tab) (fn : Func) (L : LS) (s : Slot) : Prop where
  h : ∃ ss s0, fn.results.toList.mapM (resSlot T L.st) = some ss ∧ resAll ss = some s0 ∧ vS true L.st [] s0 = s
def endF (T : Tab) (fn : Func) (s : Slot) (e : Exit) (L : LS) : Prop :=
  match e with
  | .normal => EndF T fn L s
  | .ret => EndF T fn L s
  | _ => False
theorem endFz {fn : Func} {L : LS} {s : Slot} {ss : List Slot} {s0 : Slot} (h1 : fn.results.toList.mapM (resSlot T L.st) = some ss) (h2 : resAll ss = some s0) (h3 : vS true L.st [] s0 = s) : EndF T fn L s := ⟨ss, s0, h1, h2, h3⟩
theorem pureF_walk (hT : TabOk P T) {f : FuncId} {fn : Func} {c : Code} {n : Nat} (hf : P.funcs[f]? = some fn) (hname : (fn.name == "runtime.NumGoroutine") = false) (hb : fn.body = some c) (hn : fn.ntmps = n)
    {args : List Slot} (hp : args.length ≤ n) {s : Slot} (h : fArgs args 0 fun ts => vcK P T n c ⟨ts, [], []⟩ (endF T fn s)) : CallsV P f args [] (pureQ s) := by
  rw [fArgs_eq] at h
  have hvl := vcK_ok (P := P) (n := n) hT h
  have e0 : S0 args [] = LS.st ⟨argL args 0, [], []⟩ := by
    refine stOf_ext (fun t => ?_) (fun o => rfl)
    show (args[t]?).getD .bad = (alk (argL args 0) t).getD .bad
    rw [alk_argL]; simp
  refine ⟨ent_of hf hname hb, fun w B D vals hA hargs => ?_⟩
  have hlen : vals.size = args.length := by have := hargs.length; simpa using this.symm
  let C : Ctx := ⟨w, ioOf [] B, dinOf w D [] B, n, 0, B, fun o => none⟩
  have hno : ∀ b, ¬ ioOf [] B b := by rintro b ⟨o, ho, _⟩; simp [So] at ho
  have hDd : ∀ b, dep D (So []) B b → b < w.heap.size → dep C.din (S0 args []) B b := fun b hd _ => ⟨.inl hd.1, hd.2⟩
  have e : ∀ l v, LRep w D (So []) B l v → LRep w C.din (S0 args []) B l v := fun l v hl =>
    LRep.step (Nat.le_refl _) (fun _ _ _ => rfl) hDd (fun o ob ho => by simp [So] at ho) hl
  have hR : Rel C (S0 args []) B { tmps := vals ++ Array.replicate (fn.ntmps - vals.size) undef, defers := [] } w := by
    refine ⟨by simp [hn, C]; omega, rfl, fun t => ?_, fun o ob ho => by simp [S0] at ho, hA.injO, fun o b ho hb => by simp [S0] at ho, Kp.refl _ _, fun b hb => .inr (.inr hb), fun o _ _ => rfl, ⟨by simp [C], hA.lay⟩, fun o ob _ ho => by simp [S0] at ho⟩
    show SRep _ ((args[t]?).getD .bad) _
    cases ha : args[t]? with
    | none => trivial
    | some s =>
      obtain ⟨v, hv, hs⟩ := hargs.get t s ha
      have ht : t < vals.size := by
        rw [hlen]; rcases Nat.lt_or_ge t args.length with h | h; exact h; rw [List.getElem?_eq_none h] at ha; cases ha
      have hv' : vals[t]? = some v := by simpa using hv
      have : (vals ++ Array.replicate (fn.ntmps - vals.size) undef).getD t undef = v := by
        rw [Array.getElem?_eq_getElem ht] at hv'
        cases hv'
        simp [Array.getD, ht]; intro h; omega
      rw [this]
      exact hs.mono e
  rw [e0] at hR
  refine calls_of_wp hf hb (wp_mono (hvl.1 C B _ w rfl hR) fun ex a' w' hq => ?_)
  obtain ⟨S', B', hQ, hR'⟩ := hq
  obtain ⟨L, rfl, hq⟩ := hQ
  have fin : EndF T fn L s → a'.defers = [] ∧ ∃ v, (results fn a'.tmps).run P w' = .ok v w' ∧
      ∃ v' s' outs news B', Ending.returned v = .returned v' ∧ pureQ s s' outs news ∧ ResOk w w' (dinOf w D [] B) [] B outs news B' ∧ SRep (LRep w' (dinOf w D [] B) (Sr outs news) B') s' v' := by
    rintro ⟨ss, s0, hss, hs, rfl⟩
    obtain ⟨v, hrun, hsr⟩ := run_results hT hR' hss hs
    have hv := view_srep (g := true) (ids := []) (obs := []) hR' rfl .nil hsr
    refine ⟨hR'.defers, v, hrun, v, _, [], [], ⟨fun _ => none, fun _ _ => False⟩, rfl, ⟨rfl, rfl, rfl⟩, ?_, ?_⟩
    · refine ⟨rfl, fun o ob ho => by simp [Sr] at ho, fun o o' b ho => by simp [Sr] at ho, fun o hlt => absurd hlt (by simp), fun o b ho => by simp [Sr] at ho, ?_, fun o ob hlt => absurd hlt (by simp)⟩
      exact hR'.frame
    · refine hv.mono fun l v hl => ?_
      refine LRep.step (Nat.le_refl _) (fun _ _ _ => rfl) (fun b hd _ => ?_) (fun o ob ho => by simp [So] at ho) hl
      exact ⟨hd.1, fun o ho => by simp [Sr] at ho⟩
  cases ex with
  | normal => exact fin hq
  | ret => exact fin hq
  | _ => exact hq.elim
theorem o_purF {F : Operand} {Xs : Array Operand} {ats : Array TypeId} {f : FuncId} {args : List Slot} {s : Slot} (h : CallsV P f args [] (pureQ s)) (hs : rnS (back [] 100000) s = s)
    (ho : o.op = .call { callee := .value F, args := Xs, argTypes := ats }) (hF : ev S F = .one (.clo f []))
    (hfree : S.obj 100000 = none ∧ S.obj 100001 = none ∧ S.obj 100002 = none ∧ S.obj 100003 = none) (hargs : (Xs.toList.map (ev S)).map (vS false S []) = args) :
    OpW P S o ([100000, 100001, 100002, 100003] ++ (Xs.toList.map (ev S)).flatMap refsS) (fun e => e = { dst := s }) := by
  have := o_call (S := S) ho hF false [] (obs := []) rfl .nil 100000 (by omega) hfree (args := args) (by simpa using hargs) (objs := []) rfl h
    (fun s' outs news hp => by obtain ⟨rfl, rfl, rfl⟩ := hp; exact ⟨by simp, fun h => by cases h⟩)
  intro S' k1 k2 C B a w hR hd next Q hk
  refine this S' k1 (fun r hr => k2 r ?_) C B a w hR hd next Q fun e B' v w' hE hr => hk e B' v w' ?_ hr
  · simpa using hr
  · obtain ⟨s', outs, news, ⟨rfl, rfl, rfl⟩, _, rfl⟩ := hE
    simp [cEff, killsOf, setsOf, newsOf, hs]
end
end Go.Vl
namespace Go.Vl
open Go Go.RowKit
def LeL (l l' : Leaf) : Prop := l = l' ∨ ∃ sz, l = .g (.slice none 0 0) ∧ l' = .imm sz []
def LeLs : List Leaf → List Leaf → Prop
  | [], [] => True
  | a :: as, b :: bs => LeL a b ∧ LeLs as bs
  | _, _ => False
def LeTs : List (Bool × List Leaf) → List (Bool × List Leaf) → Prop
  | [], [] => True
  | a :: as, b :: bs => a.1 = b.1 ∧ LeLs a.2 b.2 ∧ LeTs as bs
  | _, _ => False
def LeS : Slot → Slot → Prop
  | .one l, .one l' => LeL l l'
  | .agg ls, .agg ls' => LeLs ls ls'
  | .tup xs, .tup ys => LeTs xs ys
  | s, s' => s = s'
theorem LeL.refl (l : Leaf) : LeL l l := .inl rfl
theorem LeLs.refl : ∀ ls : List Leaf, LeLs ls ls
  | [] => trivial
  | _ :: ls => ⟨.refl _, LeLs.refl ls⟩
theorem LeTs.refl : ∀ xs : List (Bool × List Leaf), LeTs xs xs
  | [] => trivial
  | _ :: xs => ⟨rfl, LeLs.refl _, LeTs.refl xs⟩
theorem LeS.refl (s : Slot) : LeS s s := by
  cases s with
  | one l => exact LeL.refl l
  | agg ls => exact LeLs.refl ls
  | tup xs => exact LeTs.refl xs
  | bad => rfl
section
variable {w : World} {D : Nat → Prop} {S : St} {B : Pl}
theorem LeL.rep {l l' : Leaf} {v : Value} (h : LeL l l') (hl : LRep w D S B l v) : LRep w D S B l' v := by
  rcases h with rfl | ⟨sz, rfl, rfl⟩
  · exact hl
  · have e : v = .slice none 0 0 := repG_eq (C := ⟨w, fun _ => True, D, 0, 0, B, fun _ => none⟩) hl
    subst e
    show RepL w _ (.imm sz []) _
    rw [RepL.eq_2]
    exact ⟨none, 0, rfl, Nat.le_refl _, by unfold maxLen; omega, .inl rfl⟩
theorem LeLs.rep : ∀ {ls ls' : List Leaf} {vs : List Value}, LeLs ls ls' → All2 (LRep w D S B) ls vs → All2 (LRep w D S B) ls' vs
  | [], [], _, _, h => h
  | _ :: _, _ :: _, _ :: _, h, ha => ⟨h.1.rep ha.1, LeLs.rep h.2 ha.2⟩
  | _ :: _, _ :: _, [], _, ha => ha.elim
  | [], _ :: _, _, h, _ => h.elim
  | _ :: _, [], _, h, _ => h.elim
theorem LeS.rep {s s' : Slot} {v : Value} (h : LeS s s') (hs : SRep (LRep w D S B) s v) : SRep (LRep w D S B) s' v := by
  cases s with
  | one l => cases s' with
    | one l' => exact LeL.rep h hs
    | _ => exact absurd h (by simp [LeS])
  | agg ls => cases s' with
    | agg ls' => obtain ⟨vs, hv, ha⟩ := hs; exact ⟨vs, hv, LeLs.rep h ha⟩
    | _ => exact absurd h (by simp [LeS])
  | tup xs => cases s' with
    | tup ys =>
      obtain ⟨vs, hv, ha⟩ := hs
      refine ⟨vs, hv, ?_⟩
      have key : ∀ (xs ys : List (Bool × List Leaf)) (vs : List Value), LeTs xs ys →
          All2 (fun x u => (x.1 = true ∧ ∃ cs, u = Value.agg cs ∧ All2 (LRep w D S B) x.2 cs.toList) ∨ (x.1 = false ∧ ∃ l, x.2 = [l] ∧ LRep w D S B l u)) xs vs →
          All2 (fun x u => (x.1 = true ∧ ∃ cs, u = Value.agg cs ∧ All2 (LRep w D S B) x.2 cs.toList) ∨ (x.1 = false ∧ ∃ l, x.2 = [l] ∧ LRep w D S B l u)) ys vs := by
        intro xs
        induction xs with
        | nil => intro ys vs h ha; cases ys with
          | nil => exact ha
          | cons => exact h.elim
        | cons x xs ih =>
          intro ys vs h ha
          cases ys with
          | nil => exact h.elim
          | cons y ys =>
            cases vs with
            | nil => exact ha.elim
            | cons u vs =>
              refine ⟨?_, ih ys vs h.2.2 ha.2⟩
              rcases ha.1 with ⟨h1, cs, hu, hc⟩ | ⟨h1, l, hl, hr⟩
              · exact .inl ⟨by rw [← h.1]; exact h1, cs, hu, LeLs.rep h.2.1 hc⟩
              · refine .inr ⟨by rw [← h.1]; exact h1, ?_⟩
                have h2 := h.2.1
                rw [hl] at h2
                match hy : y.2, h2 with
                | [l'], h2 => exact ⟨l', rfl, h2.1.rep hr⟩
                | [], h2 => exact h2.elim
                | _ :: _ :: _, h2 => exact h2.2.elim
      exact key xs ys vs.toList h ha
    | _ => exact absurd h (by simp [LeS])
  | bad => cases s' with
    | bad => trivial
    | _ => exact absurd h (by simp [LeS])
end
section
variable {P : Program} {T : Tab}
theorem callsV_gen {f : FuncId} {fn : Func} {c : Code} {n : Nat} (hf : P.funcs[f]? = some fn) (hname : (fn.name == "runtime.NumGoroutine") = false) (hb : fn.body = some c) (hn : fn.ntmps = n)
    {args : List Slot} {objs : List Ob} (hk : objs.length ≤ 100) (hp : args.length ≤ n) {Post : Slot → List (Option Ob) → List Ob → Prop} {Fin : St → Prop}
    (h : VC P n c (S0 args objs) (fun e S => (e = .normal ∨ e = .ret) ∧ Fin S))
    (fin : ∀ (w : World) (B : Pl) (D : Nat → Prop) (S' : St) (B' : Pl) (a' : Act) (w' : World), Fin S' →
      Rel ⟨w, ioOf objs B, dinOf w D objs B, n, objs.length, B, fun o => objs[o]?⟩ S' B' a' w' →
      ∃ v, (results fn a'.tmps).run P w' = .ok v w' ∧ ∃ s outs news B'', Post s outs news ∧ ResOk w w' (dinOf w D objs B) objs B outs news B'' ∧ SRep (LRep w' (dinOf w D objs B) (Sr outs news) B'') s v) : CallsV P f args objs Post := by
  refine ⟨ent_of hf hname hb, fun w B D vals hA hargs => ?_⟩
  have hlen : vals.size = args.length := by have := hargs.length; simpa using this.symm
  let C : Ctx := ⟨w, ioOf objs B, dinOf w D objs B, n, objs.length, B, fun o => objs[o]?⟩
  have hDd : ∀ b, dep D (So objs) B b → b < w.heap.size → dep C.din (S0 args objs) B b := fun b hd _ => ⟨.inl hd.1, hd.2⟩
  have e : ∀ l v, LRep w D (So objs) B l v → LRep w C.din (S0 args objs) B l v := fun l v hl => by
    exact LRep.step (Nat.le_refl _) (fun _ _ _ => rfl) hDd (fun o ob ho => ⟨rfl, ob, ho, SameShape.refl ob⟩) hl
  have er : ∀ l v, RepL w (dep D (So objs) B) l v → RepL w (dep C.din (S0 args objs) B) l v := fun l v hl => RepL_mono (Nat.le_refl _) (fun _ _ _ => rfl) hDd l v hl
  have hR : Rel C (S0 args objs) B { tmps := vals ++ Array.replicate (fn.ntmps - vals.size) undef, defers := [] } w := by
    refine ⟨by simp [hn, C]; omega, rfl, fun t => ?_, fun o ob ho => ?_, hA.injO, fun o b ho hb => ?_, Kp.refl _ _, fun b hb => .inr (.inr hb), fun o _ _ => rfl, ⟨hk, hA.lay⟩, fun o ob _ ho => ⟨ob, ho, SameShape.refl ob⟩⟩
    · show SRep _ ((args[t]?).getD .bad) _
      cases ha : args[t]? with
      | none => trivial
      | some s =>
        obtain ⟨v, hv, hs⟩ := hargs.get t s ha
        have ht : t < vals.size := by
          rw [hlen]; rcases Nat.lt_or_ge t args.length with h | h; exact h; rw [List.getElem?_eq_none h] at ha; cases ha
        have hv' : vals[t]? = some v := by simpa using hv
        have : (vals ++ Array.replicate (fn.ntmps - vals.size) undef).getD t undef = v := by
          rw [Array.getElem?_eq_getElem ht] at hv'
          cases hv'
          simp [Array.getD, ht]; intro h; omega
        rw [this]
        exact hs.mono e
    · exact (hA.obs o ob ho).other rfl rfl e er fun _ _ => rfl
    · exact ⟨hA.ltO o b ho hb, .inr ⟨o, ho, hb⟩, .inr (.inl ⟨o, ho, hb⟩)⟩
  refine calls_of_wp hf hb (wp_mono (h C B _ w rfl hR) fun ex a' w' hq => ?_)
  obtain ⟨S', B', ⟨hex, hQ⟩, hR'⟩ := hq
  have fin' : a'.defers = [] ∧ ∃ v, (results fn a'.tmps).run P w' = .ok v w' ∧
      ∃ v' s outs news B', Ending.returned v = .returned v' ∧ Post s outs news ∧ ResOk w w' (dinOf w D objs B) objs B outs news B' ∧ SRep (LRep w' (dinOf w D objs B) (Sr outs news) B') s v' := by
    obtain ⟨v, hrun, s, outs, news, B'', h1, h2, h3⟩ := fin w B D S' B' a' w' hQ hR'
    exact ⟨hR'.defers, v, hrun, v, s, outs, news, B'', rfl, h1, h2, h3⟩
  cases ex with
  | normal => exact fin'
  | ret => exact fin'
  | _ => rcases hex with h | h <;> cases h
theorem Wk.refl (n : Nat) (S : St) : Wk n S S := fun _ B _ _ _ hR => ⟨B, hR⟩
structure EndV (T : Tab) (fn : Func) (k : Nat) (L : LS) (Post : Slot → List (Option Ob) → List Ob → Prop) : Prop where
  h : ∃ L1 : LS, (∀ n, Wk n L.st L1.st) ∧ ∃ ss s0 s1 nids obs, fn.results.toList.mapM (resSlot T L1.st) = some ss ∧ resAll ss = some s0 ∧ (List.range k ++ nids).mapM L1.st.obj = some obs ∧ nodupB (List.range k ++ nids) = true ∧
    (nids.all fun i => Nat.ble k i) = true ∧ LeS (vS true L1.st (List.range k ++ nids) s0) s1 ∧
    Post s1 ((obs.take k).map fun ob => some (vO true L1.st (List.range k ++ nids) ob)) ((obs.drop k).map (vO true L1.st (List.range k ++ nids)))
def endV (T : Tab) (fn : Func) (k : Nat) (Post : Slot → List (Option Ob) → List Ob → Prop) (e : Exit) (L : LS) : Prop :=
  match e with
  | .normal => EndV T fn k L Post
  | .ret => EndV T fn k L Post
  | _ => False
theorem funF_walk (hT : TabOk P T) {f : FuncId} {fn : Func} {c : Code} {n : Nat} (hf : P.funcs[f]? = some fn) (hname : (fn.name == "runtime.NumGoroutine") = false) (hb : fn.body = some c) (hn : fn.ntmps = n)
    {args : List Slot} {objs : List Ob} (hk : objs.length ≤ 100) (hp : args.length ≤ n) {Post : Slot → List (Option Ob) → List Ob → Prop}
    (h : fArgs args 0 fun ts => fSets (argL objs 0) fun os => vcK P T n c ⟨ts, os, []⟩ (endV T fn objs.length Post)) : CallsV P f args objs Post := by
  rw [fArgs_eq, fSets_eq] at h
  have e : S0 args objs = LS.st ⟨argL args 0, argL objs 0, []⟩ := by
    refine stOf_ext (fun t => ?_) (fun o => ?_)
    · show (args[t]?).getD .bad = (alk (argL args 0) t).getD .bad
      rw [alk_argL]; simp
    · show objs[o]? = alk (argL objs 0) o
      rw [alk_argL]; simp
  refine callsV_gen (Fin := fun S => ∃ L, S = L.st ∧ EndV T fn objs.length L Post) hf hname hb hn hk hp ?_ ?_
  · rw [e]
    refine VC.mono (vcK_ok (P := P) (n := n) hT h).1 fun ex S hS => ?_
    obtain ⟨L, rfl, hq⟩ := hS
    cases ex <;> first | exact ⟨.inl rfl, L, rfl, hq⟩ | exact ⟨.inr rfl, L, rfl, hq⟩ | exact hq.elim
  · intro w B D S' B' a' w' hF hR'
    obtain ⟨L0, rfl, ⟨L, hwk, ss, s0, s1, nids, obs, hss, hs0, hobs, hnd0, hge0, hle, hP⟩⟩ := hF
    obtain ⟨B', hR'⟩ := hwk n _ _ _ _ rfl hR'
    obtain ⟨v, hrun, hsr⟩ := run_results hT hR' hss hs0
    refine ⟨v, hrun, ?_⟩
    have hnd := nodupB_ok hnd0
    have hge : ∀ i ∈ nids, objs.length ≤ i := fun i hi => by simpa using List.all_eq_true.1 hge0 i hi
    generalize hids : List.range objs.length ++ nids = ids at *
    have hv := view_srep (g := true) hR' hobs hnd hsr
    have hA := view_args (g := true) hR' hobs hnd
    have hlen := mapM_length hobs
    have hil : ids.length = objs.length + nids.length := by rw [← hids]; simp
    have hidk : ∀ o, o < objs.length → ids[o]? = some o := fun o ho => by rw [← hids, List.getElem?_append_left (by simpa using ho)]; simp [ho]
    have hidn : ∀ o, objs.length ≤ o → ids[o]? = nids[o - objs.length]? := fun o ho => by rw [← hids, List.getElem?_append_right (by simpa using ho)]; simp
    have hol : ((obs.take objs.length).map fun ob => some (vO true L.st ids ob)).length = objs.length := by simp; omega
    have eS : Sr ((obs.take objs.length).map fun ob => some (vO true L.st ids ob)) ((obs.drop objs.length).map (vO true L.st ids)) = So (obs.map (vO true L.st ids)) := by
      refine stOf_ext (fun t => rfl) fun o => ?_
      simp only [Sr, So, hol]
      by_cases ho : o < objs.length
      · rw [if_pos ho, List.getElem?_map, List.getElem?_map, List.getElem?_take, if_pos ho]
        cases obs[o]? <;> rfl
      · rw [if_neg ho, List.getElem?_map, List.getElem?_map, List.getElem?_drop]
        rw [show objs.length + (o - objs.length) = o by omega]
    refine ⟨s1, _, _, vB ids B', hP, ?_, ?_⟩
    · refine ⟨hol, fun o ob ho => ?_, fun o o' b ho ho' => ?_, fun o hlt ho => ?_, fun o b ho hb => ?_, hR'.frame, fun o ob hlt ho => ?_⟩
      · rw [eS] at ho ⊢
        exact hA.obs o ob ho
      · rw [eS] at ho ho'
        exact hA.injO o o' b ho ho'
      · obtain ⟨ob, h1, _⟩ := ids_live hobs (hidk o hlt)
        have : vB ids B' o = B' o := by simp [vB, hidk o hlt]
        rw [this]
        exact hR'.keep o hlt (by simp [h1])
      · rw [eS] at ho
        have hlt : o < obs.length := by
          rcases Nat.lt_or_ge o obs.length with h | h
          · exact h
          · exact absurd (by simp [So]; omega) ho
        obtain ⟨i, hi, hoi⟩ := obs_ids hobs (List.getElem?_eq_getElem hlt)
        have := hR'.mineO i b (by simp [hoi]) ((vB_ow hi b).1 hb)
        exact ⟨this.1, this.2.1⟩
      · rw [eS] at ho
        simp only [So, List.getElem?_map, Option.map_eq_some_iff] at ho
        obtain ⟨ob0, h0, rfl⟩ := ho
        obtain ⟨i, hi, hoi⟩ := obs_ids hobs h0
        rw [hidk o hlt] at hi
        cases hi
        obtain ⟨ob1, h1, h2⟩ := hR'.shape o ob0 hlt hoi
        exact ⟨ob1, h1, h2.trans (vO_shape _ _ _ _)⟩
    · rw [eS]
      exact hle.rep hv
end
end Go.Vl

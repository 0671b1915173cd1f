/- V-logic, part yb: ends that freeze what was made; slice expressions; calls of which one of many outcomes comes about. -/
import Derived.Test.YtiaendjdmnpcdaaVya
namespace Go.Vl
open Go Go.RowKit

-- one leaf for another
def LeL (l l' : Leaf) : Prop := l = l' ∨ ∃ sz, l = .g (.slice none 0 0) ∧ l' = .imm sz []
def LeLs : List Leaf → List Leaf → Prop
  | [], [] => True
  | a :: as, b :: bs => LeL a b ∧ LeLs as bs
  | _, _ => False
def LeTs : List (Bool × List Leaf) → List (Bool × List Leaf) → Prop
  | [], [] => True
  | a :: as, b :: bs => a.1 = b.1 ∧ LeLs a.2 b.2 ∧ LeTs as bs
  | _, _ => False
def LeS : Slot → Slot → Prop
  | .one l, .one l' => LeL l l'
  | .agg ls, .agg ls' => LeLs ls ls'
  | .tup xs, .tup ys => LeTs xs ys
  | s, s' => s = s'
theorem LeL.refl (l : Leaf) : LeL l l := .inl rfl
theorem LeLs.refl : ∀ ls : List Leaf, LeLs ls ls
  | [] => trivial
  | _ :: ls => ⟨.refl _, LeLs.refl ls⟩
theorem LeTs.refl : ∀ xs : List (Bool × List Leaf), LeTs xs xs
  | [] => trivial
  | _ :: xs => ⟨rfl, LeLs.refl _, LeTs.refl xs⟩
theorem LeS.refl (s : Slot) : LeS s s := by
  cases s with
  | one l => exact LeL.refl l
  | agg ls => exact LeLs.refl ls
  | tup xs => exact LeTs.refl xs
  | bad => rfl

section
variable {w : World} {D : Nat → Prop} {S : St} {B : Pl}
theorem LeL.rep {l l' : Leaf} {v : Value} (h : LeL l l') (hl : LRep w D S B l v) : LRep w D S B l' v := by
  rcases h with rfl | ⟨sz, rfl, rfl⟩
  · exact hl
  · have e : v = .slice none 0 0 := repG_eq (C := ⟨w, fun _ => True, D, 0, 0, B, fun _ => none⟩) hl
    subst e
    show RepL w _ (.imm sz []) _
    rw [RepL.eq_2]
    exact ⟨none, 0, rfl, Nat.le_refl _, by unfold maxLen; omega, .inl rfl⟩
theorem LeLs.rep : ∀ {ls ls' : List Leaf} {vs : List Value}, LeLs ls ls' → All2 (LRep w D S B) ls vs → All2 (LRep w D S B) ls' vs
  | [], [], _, _, h => h
  | _ :: _, _ :: _, _ :: _, h, ha => ⟨h.1.rep ha.1, LeLs.rep h.2 ha.2⟩
  | _ :: _, _ :: _, [], _, ha => ha.elim
  | [], _ :: _, _, h, _ => h.elim
  | _ :: _, [], _, h, _ => h.elim
theorem LeS.rep {s s' : Slot} {v : Value} (h : LeS s s') (hs : SRep (LRep w D S B) s v) : SRep (LRep w D S B) s' v := by
  cases s with
  | one l => cases s' with
    | one l' => exact LeL.rep h hs
    | _ => exact absurd h (by simp [LeS])
  | agg ls => cases s' with
    | agg ls' => obtain ⟨vs, hv, ha⟩ := hs; exact ⟨vs, hv, LeLs.rep h ha⟩
    | _ => exact absurd h (by simp [LeS])
  | tup xs => cases s' with
    | tup ys =>
      obtain ⟨vs, hv, ha⟩ := hs
      refine ⟨vs, hv, ?_⟩
      have key : ∀ (xs ys : List (Bool × List Leaf)) (vs : List Value), LeTs xs ys →
          All2 (fun x u => (x.1 = true ∧ ∃ cs, u = Value.agg cs ∧ All2 (LRep w D S B) x.2 cs.toList) ∨ (x.1 = false ∧ ∃ l, x.2 = [l] ∧ LRep w D S B l u)) xs vs →
          All2 (fun x u => (x.1 = true ∧ ∃ cs, u = Value.agg cs ∧ All2 (LRep w D S B) x.2 cs.toList) ∨ (x.1 = false ∧ ∃ l, x.2 = [l] ∧ LRep w D S B l u)) ys vs := by
        intro xs
        induction xs with
        | nil => intro ys vs h ha; cases ys with
          | nil => exact ha
          | cons => exact h.elim
        | cons x xs ih =>
          intro ys vs h ha
          cases ys with
          | nil => exact h.elim
          | cons y ys =>
            cases vs with
            | nil => exact ha.elim
            | cons u vs =>
              refine ⟨?_, ih ys vs h.2.2 ha.2⟩
              rcases ha.1 with ⟨h1, cs, hu, hc⟩ | ⟨h1, l, hl, hr⟩
              · exact .inl ⟨by rw [← h.1]; exact h1, cs, hu, LeLs.rep h.2.1 hc⟩
              · refine .inr ⟨by rw [← h.1]; exact h1, ?_⟩
                have h2 := h.2.1
                rw [hl] at h2
                match hy : y.2, h2 with
                | [l'], h2 => exact ⟨l', rfl, h2.1.rep hr⟩
                | [], h2 => exact h2.elim
                | _ :: _ :: _, h2 => exact h2.2.elim
      exact key xs ys vs.toList h ha
    | _ => exact absurd h (by simp [LeS])
  | bad => cases s' with
    | bad => trivial
    | _ => exact absurd h (by simp [LeS])
end

section
variable {P : Program} {T : Tab}

/-- A contract out of a body, whatever its end shows. -/
theorem callsV_gen {f : FuncId} {fn : Func} {c : Code} {n : Nat} (hf : P.funcs[f]? = some fn) (hname : (fn.name == "runtime.NumGoroutine") = false) (hb : fn.body = some c) (hn : fn.ntmps = n)
    {args : List Slot} {objs : List Ob} (hk : objs.length ≤ 100) (hp : args.length ≤ n) {Post : Slot → List (Option Ob) → List Ob → Prop} {Fin : St → Prop}
    (h : VC P n c (S0 args objs) (fun e S => (e = .normal ∨ e = .ret) ∧ Fin S))
    (fin : ∀ (w : World) (B : Pl) (D : Nat → Prop) (S' : St) (B' : Pl) (a' : Act) (w' : World), Fin S' →
      Rel ⟨w, ioOf objs B, dinOf w D objs B, n, objs.length, B, fun o => objs[o]?⟩ S' B' a' w' →
      ∃ v, (results fn a'.tmps).run P w' = .ok v w' ∧ ∃ s outs news B'', Post s outs news ∧ ResOk w w' (dinOf w D objs B) objs B outs news B'' ∧ SRep (LRep w' (dinOf w D objs B) (Sr outs news) B'') s v) : CallsV P f args objs Post := by
  refine ⟨ent_of hf hname hb, fun w B D vals hA hargs => ?_⟩
  have hlen : vals.size = args.length := by have := hargs.length; simpa using this.symm
  let C : Ctx := ⟨w, ioOf objs B, dinOf w D objs B, n, objs.length, B, fun o => objs[o]?⟩
  have hDd : ∀ b, dep D (So objs) B b → b < w.heap.size → dep C.din (S0 args objs) B b := fun b hd _ => ⟨.inl hd.1, hd.2⟩
  have e : ∀ l v, LRep w D (So objs) B l v → LRep w C.din (S0 args objs) B l v := fun l v hl => by
    refine LRep.step (Nat.le_refl _) (fun _ _ _ => rfl) hDd (fun o ob ho => ⟨rfl, ob, ho, ?_⟩) hl
    cases ob <;> simp
  have er : ∀ l v, RepL w (dep D (So objs) B) l v → RepL w (dep C.din (S0 args objs) B) l v := fun l v hl => RepL_mono (Nat.le_refl _) (fun _ _ _ => rfl) hDd l v hl
  have hR : Rel C (S0 args objs) B { tmps := vals ++ Array.replicate (fn.ntmps - vals.size) undef, defers := [] } w := by
    refine ⟨by simp [hn, C]; omega, rfl, fun t => ?_, fun o ob ho => ?_, hA.inj, fun o b m ho hb => ?_, Kp.refl _ _, fun b hb => .inr (.inr hb), fun o _ _ => rfl, hk, fun o ob _ ho => ⟨ob, ho, SameShape.refl ob⟩⟩
    · show SRep _ ((args[t]?).getD .bad) _
      cases ha : args[t]? with
      | none => trivial
      | some s =>
        obtain ⟨v, hv, hs⟩ := hargs.get t s ha
        have ht : t < vals.size := by
          rw [hlen]; rcases Nat.lt_or_ge t args.length with h | h; exact h; rw [List.getElem?_eq_none h] at ha; cases ha
        have hv' : vals[t]? = some v := by simpa using hv
        have : (vals ++ Array.replicate (fn.ntmps - vals.size) undef).getD t undef = v := by
          rw [Array.getElem?_eq_getElem ht] at hv'
          cases hv'
          simp [Array.getD, ht]; intro h; omega
        rw [this]
        exact hs.mono e
    · exact (hA.obs o ob ho).other rfl e er fun _ _ _ => rfl
    · exact ⟨hA.lt o b m ho hb, .inr ⟨o, m, ho, hb⟩, .inr (.inl ⟨o, m, ho, hb⟩)⟩
  refine calls_of_wp hf hb (wp_mono (h C B _ w rfl hR) fun ex a' w' hq => ?_)
  obtain ⟨S', B', ⟨hex, hQ⟩, hR'⟩ := hq
  have fin' : a'.defers = [] ∧ ∃ v, (results fn a'.tmps).run P w' = .ok v w' ∧
      ∃ v' s outs news B', Ending.returned v = .returned v' ∧ Post s outs news ∧ ResOk w w' (dinOf w D objs B) objs B outs news B' ∧ SRep (LRep w' (dinOf w D objs B) (Sr outs news) B') s v' := by
    obtain ⟨v, hrun, s, outs, news, B'', h1, h2, h3⟩ := fin w B D S' B' a' w' hQ hR'
    exact ⟨hR'.defers, v, hrun, v, s, outs, news, B'', rfl, h1, h2, h3⟩
  cases ex with
  | normal => exact fin'
  | ret => exact fin'
  | _ => rcases hex with h | h <;> cases h

/-- An end: what was handed in stays, new objects that are named go out, what else was made goes out as what nobody writes. -/
structure EndV (T : Tab) (fn : Func) (k : Nat) (L : LS) (Post : Slot → List (Option Ob) → List Ob → Prop) : Prop where
  h : ∃ ss s0 s1 nids obs, fn.results.toList.mapM (resSlot T L.st) = some ss ∧ resAll ss = some s0 ∧ (List.range k ++ nids).mapM L.st.obj = some obs ∧ nodupB (List.range k ++ nids) = true ∧
    (nids.all fun i => Nat.ble k i) = true ∧ LeS (vS true L.st (List.range k ++ nids) s0) s1 ∧
    Post s1 ((obs.take k).map fun ob => some (vO true L.st (List.range k ++ nids) ob)) ((obs.drop k).map (vO true L.st (List.range k ++ nids)))
def endV (T : Tab) (fn : Func) (k : Nat) (Post : Slot → List (Option Ob) → List Ob → Prop) (e : Exit) (L : LS) : Prop :=
  match e with
  | .normal => EndV T fn k L Post
  | .ret => EndV T fn k L Post
  | _ => False

theorem funF_walk (hT : TabOk P T) {f : FuncId} {fn : Func} {c : Code} {n : Nat} (hf : P.funcs[f]? = some fn) (hname : (fn.name == "runtime.NumGoroutine") = false) (hb : fn.body = some c) (hn : fn.ntmps = n)
    {args : List Slot} {objs : List Ob} (hk : objs.length ≤ 100) (hp : args.length ≤ n) {Post : Slot → List (Option Ob) → List Ob → Prop}
    (h : fArgs args 0 fun ts => fSets (argL objs 0) fun os => vcK P T n c ⟨ts, os, []⟩ (endV T fn objs.length Post)) : CallsV P f args objs Post := by
  rw [fArgs_eq, fSets_eq] at h
  have e : S0 args objs = LS.st ⟨argL args 0, argL objs 0, []⟩ := by
    refine stOf_ext (fun t => ?_) (fun o => ?_)
    · show (args[t]?).getD .bad = (alk (argL args 0) t).getD .bad
      rw [alk_argL]; simp
    · show objs[o]? = alk (argL objs 0) o
      rw [alk_argL]; simp
  refine callsV_gen (Fin := fun S => ∃ L, S = L.st ∧ EndV T fn objs.length L Post) hf hname hb hn hk hp ?_ ?_
  · rw [e]
    refine VC.mono (vcK_ok (P := P) (n := n) hT h).1 fun ex S hS => ?_
    obtain ⟨L, rfl, hq⟩ := hS
    cases ex <;> first | exact ⟨.inl rfl, L, rfl, hq⟩ | exact ⟨.inr rfl, L, rfl, hq⟩ | exact hq.elim
  · intro w B D S' B' a' w' hF hR'
    obtain ⟨L, rfl, ⟨ss, s0, s1, nids, obs, hss, hs0, hobs, hnd0, hge0, hle, hP⟩⟩ := hF
    obtain ⟨v, hrun, hsr⟩ := run_results hT hR' hss hs0
    refine ⟨v, hrun, ?_⟩
    have hnd := nodupB_ok hnd0
    have hge : ∀ i ∈ nids, objs.length ≤ i := fun i hi => by simpa using List.all_eq_true.1 hge0 i hi
    generalize hids : List.range objs.length ++ nids = ids at *
    have hv := view_srep (g := true) hR' hobs hnd hsr
    have hA := view_args (g := true) hR' hobs hnd
    have hlen := mapM_length hobs
    have hil : ids.length = objs.length + nids.length := by rw [← hids]; simp
    have hidk : ∀ o, o < objs.length → ids[o]? = some o := fun o ho => by rw [← hids, List.getElem?_append_left (by simpa using ho)]; simp [ho]
    have hidn : ∀ o, objs.length ≤ o → ids[o]? = nids[o - objs.length]? := fun o ho => by rw [← hids, List.getElem?_append_right (by simpa using ho)]; simp
    have hol : ((obs.take objs.length).map fun ob => some (vO true L.st ids ob)).length = objs.length := by simp; omega
    have eS : Sr ((obs.take objs.length).map fun ob => some (vO true L.st ids ob)) ((obs.drop objs.length).map (vO true L.st ids)) = So (obs.map (vO true L.st ids)) := by
      refine stOf_ext (fun t => rfl) fun o => ?_
      simp only [Sr, So, hol]
      by_cases ho : o < objs.length
      · rw [if_pos ho, List.getElem?_map, List.getElem?_map, List.getElem?_take, if_pos ho]
        cases obs[o]? <;> rfl
      · rw [if_neg ho, List.getElem?_map, List.getElem?_map, List.getElem?_drop]
        rw [show objs.length + (o - objs.length) = o by omega]
    refine ⟨s1, _, _, vB ids B', hP, ?_, ?_⟩
    · refine ⟨hol, fun o ob ho => ?_, fun o o' b m m' ho ho' => ?_, fun o hlt ho => ?_, fun o b m ho hb => ?_, hR'.frame, fun o ob hlt ho => ?_⟩
      · rw [eS] at ho ⊢
        exact hA.obs o ob ho
      · rw [eS] at ho ho'
        exact hA.inj o o' b m m' ho ho'
      · obtain ⟨ob, h1, _⟩ := ids_live hobs (hidk o hlt)
        have : vB ids B' o = B' o := by simp [vB, hidk o hlt]
        rw [this]
        exact hR'.keep o hlt (by simp [h1])
      · rw [eS] at ho
        have hlt : o < obs.length := by
          rcases Nat.lt_or_ge o obs.length with h | h
          · exact h
          · exact absurd (by simp [So]; omega) ho
        obtain ⟨i, hi, hoi⟩ := obs_ids hobs (List.getElem?_eq_getElem hlt)
        have hbi : vB ids B' o = B' i := by simp [vB, hi]
        rw [hbi] at hb
        have := hR'.mine i b m (by simp [hoi]) hb
        exact ⟨this.1, this.2.1⟩
      · rw [eS] at ho
        simp only [So, List.getElem?_map, Option.map_eq_some_iff] at ho
        obtain ⟨ob0, h0, rfl⟩ := ho
        obtain ⟨i, hi, hoi⟩ := obs_ids hobs h0
        rw [hidk o hlt] at hi
        cases hi
        obtain ⟨ob1, h1, h2⟩ := hR'.shape o ob0 hlt hoi
        exact ⟨ob1, h1, h2.trans (vO_shape _ _ _ _)⟩
    · rw [eS]
      exact hle.rep hv
end
end Go.Vl

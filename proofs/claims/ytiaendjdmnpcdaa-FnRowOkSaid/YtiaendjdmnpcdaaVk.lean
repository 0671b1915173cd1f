/- V-logic, part k: a contract out of a body. -/
import Derived.Test.YtiaendjdmnpcdaaVj
namespace Go.Vl
open Go Go.RowKit

def S0 (args : List Slot) (objs : List Ob) : St := ⟨fun t => (args[t]?).getD .bad, fun o => objs[o]?⟩

/-- Where object o of the callee's end goes: those handed in stay, the new ones of the list follow. -/
def rho (k : Nat) (ids : List Nat) (o : Nat) : Option Nat := if o < k then some o else (ids.idxOf? o).map (k + ·)

def outsOf (k : Nat) (ids : List Nat) (S : St) : List (Option Ob) := (List.range k).map fun o => (S.obj o).map (rnO (rho k ids))

def RetOk (T : Tab) (fn : Func) (k : Nat) (S : St) (Post : Slot → List (Option Ob) → List Ob → Prop) : Prop :=
  ∃ ss s ids obs, fn.results.toList.mapM (resSlot T S) = some ss ∧ resAll ss = some s ∧ ids.mapM S.obj = some obs ∧ ids.Nodup ∧ (∀ i ∈ ids, k ≤ i) ∧
    Post (rnS (rho k ids) s) (outsOf k ids S) (obs.map (rnO (rho k ids)))

def retQ (T : Tab) (fn : Func) (k : Nat) (Post : Slot → List (Option Ob) → List Ob → Prop) : Go.Vl.Post := fun e S =>
  match e with
  | .normal | .ret => RetOk T fn k S Post
  | _ => False

theorem mapM_get {α β : Type} {f : α → Option β} : ∀ {as : List α} {bs : List β}, as.mapM f = some bs → ∀ (i : Nat) (b : β), bs[i]? = some b ↔ ∃ a, as[i]? = some a ∧ f a = some b ∧ bs[i]? = some b
  | [], bs, h, i, b => by simp at h; subst h; simp
  | a :: as, bs, h, i, b => by
    simp [List.mapM_cons, Option.bind_eq_some_iff] at h
    obtain ⟨b0, h0, bs', hbs, rfl⟩ := h
    cases i with
    | zero => simp; intro e; rw [← e]; exact h0
    | succ i => simpa using mapM_get hbs i b

theorem mapM_length {α β : Type} {f : α → Option β} : ∀ {as : List α} {bs : List β}, as.mapM f = some bs → as.length = bs.length
  | [], bs, h => by simp at h; subst h; rfl
  | a :: as, bs, h => by
    simp [List.mapM_cons, Option.bind_eq_some_iff] at h
    obtain ⟨b0, h0, bs', hbs, rfl⟩ := h
    simp [mapM_length hbs]

theorem idxOf?_spec {l : List Nat} {x i : Nat} (h : l.idxOf? x = some i) : l[i]? = some x := by
  unfold List.idxOf? at h
  rw [List.findIdx?_eq_some_iff_getElem] at h
  obtain ⟨hlt, hx, _⟩ := h
  rw [List.getElem?_eq_getElem hlt]
  simpa using hx
theorem idxOf?_of {l : List Nat} (hn : l.Nodup) {x i : Nat} (h : l[i]? = some x) : l.idxOf? x = some i := by
  unfold List.idxOf?
  rw [List.findIdx?_eq_some_iff_getElem]
  obtain ⟨hlt, hx⟩ := List.getElem?_eq_some_iff.1 h
  refine ⟨hlt, by simp [hx], fun j hj => ?_⟩
  intro he
  have he' : l[j] = x := by simpa using he
  rw [List.nodup_iff_pairwise_ne, List.pairwise_iff_getElem] at hn
  exact hn j i (by omega) hlt hj (by rw [he', hx])

section
variable {P : Program} {T : Tab}

theorem callsV_of (hT : TabOk P T) {f : FuncId} {fn : Func} {c : Code} {n : Nat} (hf : P.funcs[f]? = some fn) (hname : (fn.name == "runtime.NumGoroutine") = false) (hb : fn.body = some c) (hn : fn.ntmps = n)
    {args : List Slot} {objs : List Ob} (hk : objs.length ≤ 100) (hp : args.length ≤ n) {Post : Slot → List (Option Ob) → List Ob → Prop}
    (h : VC P n c (S0 args objs) (retQ T fn objs.length Post)) : CallsV P f args objs Post := by
  refine ⟨ent_of hf hname hb, fun w B D vals hA hargs => ?_⟩
  have hlen : vals.size = args.length := by have := hargs.length; simpa using this.symm
  let C : Ctx := ⟨w, ioOf objs B, dinOf w D objs B, n, objs.length, B, fun o => objs[o]?⟩
  have hDd : ∀ b, dep D (So objs) B b → b < w.heap.size → dep C.din (S0 args objs) B b := fun b hd _ => ⟨.inl hd.1, hd.2⟩
  have e : ∀ l v, LRep w D (So objs) B l v → LRep w C.din (S0 args objs) B l v := fun l v hl => by
    refine LRep.step (Nat.le_refl _) (fun _ _ _ => rfl) hDd (fun o ob ho => ⟨rfl, ob, ho, ?_⟩) hl
    cases ob <;> simp
  have er : ∀ l v, RepL w (dep D (So objs) B) l v → RepL w (dep C.din (S0 args objs) B) l v := fun l v hl => RepL_mono (Nat.le_refl _) (fun _ _ _ => rfl) hDd l v hl
  have hR : Rel C (S0 args objs) B { tmps := vals ++ Array.replicate (fn.ntmps - vals.size) undef, defers := [] } w := by
    refine ⟨by simp [hn, C]; omega, rfl, fun t => ?_, fun o ob ho => ?_, hA.inj, fun o b m ho hb => ?_, Kp.refl _ _, fun b hb => .inr (.inr hb), fun o _ _ => rfl, hk, fun o ob _ ho => ⟨ob, ho, SameShape.refl ob⟩⟩
    · show SRep _ ((args[t]?).getD .bad) _
      cases ha : args[t]? with
      | none => trivial
      | some s =>
        obtain ⟨v, hv, hs⟩ := hargs.get t s ha
        have ht : t < vals.size := by
          rw [hlen]; rcases Nat.lt_or_ge t args.length with h | h; exact h; rw [List.getElem?_eq_none h] at ha; cases ha
        have hv' : vals[t]? = some v := by simpa using hv
        have : (vals ++ Array.replicate (fn.ntmps - vals.size) undef).getD t undef = v := by
          rw [Array.getElem?_eq_getElem ht] at hv'
          cases hv'
          simp [Array.getD, ht]; intro h; omega
        rw [this]
        exact hs.mono e
    · exact (hA.obs o ob ho).other rfl e er fun _ _ _ => rfl
    · exact ⟨hA.lt o b m ho hb, .inr ⟨o, m, ho, hb⟩, .inr (.inl ⟨o, m, ho, hb⟩)⟩
  refine calls_of_wp hf hb (wp_mono (h C B _ w rfl hR) fun ex a' w' hq => ?_)
  obtain ⟨S', B', hQ, hR'⟩ := hq
  have fin : RetOk T fn objs.length S' Post → a'.defers = [] ∧ ∃ v, (results fn a'.tmps).run P w' = .ok v w' ∧
      ∃ v' s outs news B', Ending.returned v = .returned v' ∧ Post s outs news ∧ ResOk w w' (dinOf w D objs B) objs B outs news B' ∧ SRep (LRep w' (dinOf w D objs B) (Sr outs news) B') s v' := by
    rintro ⟨ss, s, ids, obs, hss, hs, hobs, hnd, hge, hP⟩
    obtain ⟨v, hrun, hsr⟩ := run_results hT hR' hss hs
    refine ⟨hR'.defers, v, hrun, v, _, _, _, fun o => if o < objs.length then B' o else ((ids[o - objs.length]?).map B').join, rfl, hP, ?_, ?_⟩
    all_goals
      generalize hB2 : (fun o => if o < objs.length then B' o else ((ids[o - objs.length]?).map B').join : Pl) = B2
      have hB2a : ∀ o, o < objs.length → B2 o = B' o := fun o ho => by rw [← hB2]; exact if_pos ho
      have hB2b : ∀ o i, ¬ o < objs.length → ids[o - objs.length]? = some i → B2 o = B' i := fun o i ho hi => by rw [← hB2]; simp [ho, hi]
      have hol : (outsOf objs.length ids S').length = objs.length := by simp [outsOf]
      -- every object of the result comes of one of the end
      have back : ∀ o ob, (Sr (outsOf objs.length ids S') (obs.map (rnO (rho objs.length ids)))).obj o = some ob →
          ∃ i ob0, S'.obj i = some ob0 ∧ ob = rnO (rho objs.length ids) ob0 ∧ rho objs.length ids i = some o ∧ B2 o = B' i := by
        intro o ob ho
        simp only [Sr, hol] at ho
        by_cases hlt : o < objs.length
        · rw [if_pos hlt] at ho
          simp [outsOf, hlt] at ho
          obtain ⟨ob0, h0, rfl⟩ := ho
          exact ⟨o, ob0, h0, rfl, by simp [rho, hlt], hB2a o hlt⟩
        · rw [if_neg hlt] at ho
          simp at ho
          obtain ⟨ob0, h0, rfl⟩ := ho
          obtain ⟨i, hi, hoi, _⟩ := (mapM_get hobs _ _).1 h0
          have hil := hge i (List.mem_of_getElem? hi)
          exact ⟨i, ob0, hoi, rfl, by simp [rho, Nat.not_lt.2 hil, idxOf?_of hnd hi]; omega, hB2b o i hlt hi⟩
      have fwd : ∀ i o ob, rho objs.length ids i = some o → S'.obj i = some ob → B2 o = B' i ∧ ∃ ob', (Sr (outsOf objs.length ids S') (obs.map (rnO (rho objs.length ids)))).obj o = some ob' ∧ SameShape ob ob' := by
        intro i o ob hr ho
        unfold rho at hr
        by_cases hlt : i < objs.length
        · rw [if_pos hlt] at hr
          cases hr
          refine ⟨hB2a i hlt, rnO (rho objs.length ids) ob, ?_, by cases ob <;> simp [rnO, SameShape]⟩
          simp only [Sr, hol]
          rw [if_pos hlt]
          simp [outsOf, hlt, ho]
        · rw [if_neg hlt] at hr
          simp at hr
          obtain ⟨j, hj, rfl⟩ := hr
          have hij := idxOf?_spec hj
          refine ⟨hB2b _ i (by omega) (by rw [Nat.add_sub_cancel_left]; exact hij), rnO (rho objs.length ids) ob, ?_, by cases ob <;> simp [rnO, SameShape]⟩
          simp only [Sr, hol]
          rw [if_neg (by omega), Nat.add_sub_cancel_left]
          have hjl : j < obs.length := by
            rw [← mapM_length hobs]
            rcases Nat.lt_or_ge j ids.length with h | h; exact h; rw [List.getElem?_eq_none h] at hij; cases hij
          obtain ⟨i', hi', hoi', _⟩ := (mapM_get hobs j obs[j]).1 (List.getElem?_eq_getElem hjl)
          rw [hij] at hi'; cases hi'
          rw [ho] at hoi'
          simp [List.getElem?_eq_getElem hjl]
          rw [← Option.some.inj hoi']
      have liveB : ∀ o, (Sr (outsOf objs.length ids S') (obs.map (rnO (rho objs.length ids)))).obj o ≠ none → ∃ i, S'.obj i ≠ none ∧ rho objs.length ids i = some o ∧ B2 o = B' i := by
        intro o ho
        obtain ⟨ob, hob⟩ := Option.ne_none_iff_exists'.1 ho
        obtain ⟨i, ob0, h0, _, h2, h3⟩ := back o ob hob
        exact ⟨i, by simp [h0], h2, h3⟩
      have hd2 : ∀ b, dep C.din S' B' b → b < w'.heap.size → dep (dinOf w D objs B) (Sr (outsOf objs.length ids S') (obs.map (rnO (rho objs.length ids)))) B2 b := by
        intro b hd _
        refine ⟨hd.1, fun o m ho hb => ?_⟩
        obtain ⟨i, hi, _, hbi⟩ := liveB o ho
        exact hd.2 i m hi (by rw [← hbi]; exact hb)
      have el : ∀ l v, LRep w' C.din S' B' l v → LRep w' (dinOf w D objs B) (Sr (outsOf objs.length ids S') (obs.map (rnO (rho objs.length ids)))) B2 (rn (rho objs.length ids) l) v :=
        fun l v hl => LRep.rn (Nat.le_refl _) (fun _ _ _ => rfl) hd2 (fun i o ob hr ho => fwd i o ob hr ho) hl
      have erl : ∀ l v, RepL w' (dep C.din S' B') l v → RepL w' (dep (dinOf w D objs B) (Sr (outsOf objs.length ids S') (obs.map (rnO (rho objs.length ids)))) B2) l v :=
        fun l v hl => RepL_mono (Nat.le_refl _) (fun _ _ _ => rfl) hd2 l v hl
    · refine ⟨hol, fun o ob ho => ?_, fun o o' b m m' ho ho' hb hb' => ?_, fun o hlt ho => ?_, fun o b m ho hb => ?_, hR'.frame, fun o ob hlt ho => ?_⟩
      · obtain ⟨i, ob0, h0, rfl, hr, hbi⟩ := back o ob ho
        exact (hR'.objs i ob0 h0).rnO hbi el erl fun _ _ _ => rfl
      · obtain ⟨i, hi, hr, hbi⟩ := liveB o ho
        obtain ⟨i', hi', hr', hbi'⟩ := liveB o' ho'
        have := hR'.inj i i' b m m' hi hi' (by rw [← hbi]; exact hb) (by rw [← hbi']; exact hb')
        subst this
        rw [hr] at hr'; exact Option.some.inj hr'
      · obtain ⟨i, hi, hr, hbi⟩ := liveB o ho
        have hio : i = o := by
          unfold rho at hr
          by_cases h1 : i < objs.length
          · rw [if_pos h1] at hr; exact Option.some.inj hr
          · rw [if_neg h1] at hr; simp at hr; obtain ⟨j, _, rfl⟩ := hr; omega
        subst hio
        rw [hbi]
        exact hR'.keep i hlt hi
      · obtain ⟨i, hi, hr, hbi⟩ := liveB o ho
        have := hR'.mine i b m hi (by rw [← hbi]; exact hb)
        exact ⟨this.1, this.2.1⟩
      · obtain ⟨i, ob0, h0, rfl, hr, hbi⟩ := back o ob ho
        have hio : i = o := by
          unfold rho at hr
          by_cases h1 : i < objs.length
          · rw [if_pos h1] at hr; exact Option.some.inj hr
          · rw [if_neg h1] at hr; simp at hr; obtain ⟨j, _, rfl⟩ := hr; omega
        subst hio
        obtain ⟨ob1, h1, h2⟩ := hR'.shape i ob0 hlt h0
        exact ⟨ob1, h1, h2.trans (by cases ob0 <;> simp [rnO, SameShape])⟩
    · exact hsr.rnS el
  cases ex with
  | normal => exact fin hQ
  | ret => exact fin hQ
  | _ => exact hQ.elim
end
end Go.Vl

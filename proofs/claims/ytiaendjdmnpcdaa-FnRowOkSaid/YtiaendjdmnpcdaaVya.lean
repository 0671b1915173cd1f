/- V-logic, part ya: calls of functions that hand back new things; slices made; ends of such functions. -/
import Derived.Test.YtiaendjdmnpcdaaVy
namespace Go.Vl
open Go Go.RowKit

def funQ (s : Slot) (outs : List (Option Ob)) (news : List Ob) : Slot → List (Option Ob) → List Ob → Prop := fun s' o n => s' = s ∧ o = outs ∧ n = news

section
variable {P : Program} {T : Tab} {n : Nat} {ops : Array Oper} {S : St} {o : Oper}

/-- A call of a function whose whole outcome is known. -/
theorem o_funN {F : Operand} {Xs : Array Operand} {ats : Array TypeId} {f : FuncId} {os : List Nat} {args : List Slot} {objs : List Ob} {s : Slot} {outs : List (Option Ob)} {news : List Ob} (h : CallsV P f args objs (funQ s outs news))
    (g : Bool) (ids : List Nat) (hg : (g = true → GrS s ∧ (∀ ob, some ob ∈ outs → GrO ob) ∧ ∀ ob ∈ news, GrO ob)) (hl : news.length ≤ 4)
    {d : Nat} (_ : o.dst = some d) (ho : o.op = .call { callee := .value F, args := Xs, argTypes := ats }) (hF : ev S F = .one (.clo f os)) {obs : List Ob} (hids : ids.mapM S.obj = some obs) (hnd : nodupB ids = true)
    (hfree : S.obj (1000 + 4 * d) = none ∧ S.obj (1000 + 4 * d + 1) = none ∧ S.obj (1000 + 4 * d + 2) = none ∧ S.obj (1000 + 4 * d + 3) = none)
    (hargs : (Xs.toList.map (ev S) ++ os.map fun q => Slot.one (.ptr q 0)).map (vS g S ids) = args) (hobjs : obs.map (vO g S ids) = objs) :
    OpW P S o ([1000 + 4 * d, 1000 + 4 * d + 1, 1000 + 4 * d + 2, 1000 + 4 * d + 3] ++ (ids ++ (Xs.toList.map (ev S) ++ os.map fun q => Slot.one (.ptr q 0)).flatMap refsS ++ obs.flatMap refsO))
      (fun e => e = cEff ids (1000 + 4 * d) s outs news) := by
  have := o_call (S := S) ho hF g ids hids (nodupB_ok hnd) (1000 + 4 * d) (by omega) hfree hargs hobjs h
    (fun s' outs' news' hp => by obtain ⟨rfl, rfl, rfl⟩ := hp; exact ⟨hl, hg⟩)
  intro S' k1 k2 C B a w hR hd next Q hk
  refine this S' k1 k2 C B a w hR hd next Q fun e B' v w' hE hr => hk e B' v w' ?_ hr
  obtain ⟨s', outs', news', ⟨rfl, rfl, rfl⟩, _, rfl⟩ := hE
  rfl

theorem VR.fun (hT : TabOk P T) (hin : dstsIn n ops = true) {i : Nat} {rest : List Oper} {L : LS} {K : LS → Prop} (hg : guardOn ops L.st o = some true) {rd : List Nat} {e : Eff} (he : OpW P L.st o rd (fun x => x = e))
    (h : killK L e.kills fun L => putK L e.sets o.dst e.dst fun L => runK T ops.toList (fun i l L => VR P n ops i l L K) K rest (i + 1) L) : VR P n ops i (o :: rest) L K :=
  VR.opw hT hin hg he fun e' hE => by subst hE; exact h
theorem DR.fun (hT : TabOk P T) {i : Nat} {rest : List Oper} {L : LS} {fs : List Trip} {K : LS → List Trip → Prop} (hg : guardOn ops L.st o = some true) {rd : List Nat} {e : Eff} (he : OpW P L.st o rd (fun x => x = e)) (hk : e.kills = [])
    (h : putK L e.sets o.dst e.dst fun L => drK T ops.toList (fun i l L fs => DR P ops i l L fs K) K rest (i + 1) L ((i, rd, e.sets.map (·.1)) :: fs)) : DR P ops i (o :: rest) L fs K := by
  rw [putK_eq] at h
  exact DR.stepw hg hk he (DR.go hT h)

-- ends
structure EndOk (T : Tab) (fn : Func) (k : Nat) (L : LS) (Post : Slot → List (Option Ob) → List Ob → Prop) : Prop where
  h : RetOk T fn k L.st Post
def endE (T : Tab) (fn : Func) (k : Nat) (Post : Slot → List (Option Ob) → List Ob → Prop) (e : Exit) (L : LS) : Prop :=
  match e with
  | .normal => EndOk T fn k L Post
  | .ret => EndOk T fn k L Post
  | _ => False
theorem fun_walk (hT : TabOk P T) {f : FuncId} {fn : Func} {c : Code} {n : Nat} (hf : P.funcs[f]? = some fn) (hname : (fn.name == "runtime.NumGoroutine") = false) (hb : fn.body = some c) (hn : fn.ntmps = n)
    {args : List Slot} {objs : List Ob} (hk : objs.length ≤ 100) (hp : args.length ≤ n) {Post : Slot → List (Option Ob) → List Ob → Prop}
    (h : fArgs args 0 fun ts => fSets (argL objs 0) fun os => vcK P T n c ⟨ts, os, []⟩ (endE T fn objs.length Post)) : CallsV P f args objs Post := by
  rw [fArgs_eq, fSets_eq] at h
  refine callsV_vl hT hf hname hb hn hk hp (VL.mono (vcK_ok hT h) fun e L he => ?_)
  cases e <;> first | exact he.1 | exact he.elim

/-- The end with one new object. -/
theorem end1 {fn : Func} {Post : Slot → List (Option Ob) → List Ob → Prop} {L : LS} (q : Nat) {ss : List Slot} {s : Slot} {ob : Ob} (h1 : fn.results.toList.mapM (resSlot T L.st) = some ss) (h2 : resAll ss = some s) (hq : L.st.obj q = some ob)
    (h : Post (rnS (rho 0 [q]) s) [] [rnO (rho 0 [q]) ob]) : EndOk T fn 0 L Post := ⟨ret1 h1 h2 hq h⟩
/-- The end, in general: which new objects go out. -/
theorem endG {fn : Func} {k : Nat} {Post : Slot → List (Option Ob) → List Ob → Prop} {L : LS} (ids : List Nat) {ss : List Slot} {s : Slot} {obs : List Ob} (h1 : fn.results.toList.mapM (resSlot T L.st) = some ss) (h2 : resAll ss = some s) (h3 : ids.mapM L.st.obj = some obs)
    (h4 : nodupB ids = true) (h5 : (ids.all fun i => Nat.ble k i) = true) (h : Post (rnS (rho k ids) s) (outsOf k ids L.st) (obs.map (rnO (rho k ids)))) : EndOk T fn k L Post :=
  ⟨ss, s, ids, obs, h1, h2, h3, nodupB_ok h4, (fun i hi => by simpa using List.all_eq_true.1 h5 i hi), h⟩

-- slices made
theorem o_make (hT : TabOk P T) {t e : TypeId} {X Y : Operand} (ho : o.op = .makeSlice t X Y) {i j : TI} (hi : T t = some i) (hd0 : i.d = .sl e) (hj : T e = some j) {k k' : IntKind} {m : Nat} (hX : ev S X = .one (.g (.int k m))) (hY : ev S Y = .one (.g (.int k' m)))
    (hj0 : 0 < j.size) (hb : j.bytes * m ≤ 281474976710656) (hm : m ≤ maxLen) {q : Nat} (hq : S.obj q = none) (hq1 : 100 ≤ q) :
    OpL P S o { dst := .one (.own q 0 m), sets := [(q, .arr e j.size (List.replicate m (j.zero.map .g)))] } := by
  intro S' h1 h2 h3 C B a w hR hd
  have hX' := (h1 X (by simp [ho, Op.operands])).trans hX
  have hY' := (h1 Y (by simp [ho, Op.operands])).trans hY
  have ex := ev_g hR hX'
  have ey := ev_g hR hY'
  have hu := und_sl hT hi hd0
  obtain ⟨x, hx, hxs, hxb, z, hz, hzc⟩ := hT.infoAt hj
  have hz1 := (hT.one _ _ hj)
  have hzs : z.cells.size = j.size := by have := hz1.1; rw [← hzc] at this; simpa using this
  have hb' : (x.bytes : Int) * (m : Int) ≤ 281474976710656 := by rw [hxb]; rw [← Int.natCast_mul]; omega
  have hm' : (m : Int) ≤ 9223372036854775807 := by unfold maxLen at hm; omega
  have hrun := run_make (P := P) w t e x z hu hx hz k k' m m (by omega) (Int.le_refl _) hb' hm'
  rw [Int.toNat_natCast, hxs] at hrun
  have hsz : (madeCells z.cells (m * j.size)).size = m * j.size := size_madeCells _ _
  have hget : ∀ y, y < m * j.size → (madeCells z.cells (m * j.size))[y]? = j.zero[y % j.size]? := by
    intro y hy
    have hym : y % z.cells.size < z.cells.size := Nat.mod_lt _ (by omega)
    have hym2 : y % j.size < j.zero.length := by rw [hz1.1, ← hzs]; exact hym
    rw [madeCells, Array.getElem?_map, Array.getElem?_range, if_pos hy]
    simp only [Option.map_some]
    rw [getElem!_pos z.cells (y % z.cells.size) hym, List.getElem?_eq_getElem hym2]
    congr 1
    have : z.cells.toList[y % z.cells.size]'(by simpa using hym) = j.zero[y % j.size] := by simp only [hzc, hzs]
    simpa using this
  refine good_new (n := m * j.size) hR (.cells (madeCells z.cells (m * j.size)) e) ((h3 q (by simp)).trans hq) hq1 hd (v := .slice (some ⟨w.heap.size, 0, none⟩) m m) (by simp only [execOp, ho, ex, ey, Sem.run_bind, hrun, Result.andThen_ok]; rfl) (fun hl' hr' => ?_) ?_
  · refine .inr ⟨w.heap.size, _, _, set_same _ _ _, heap_alloc_new w _, hsz, fun c hc => ?_, by rw [List.length_replicate]; exact Nat.le_refl _, fun y r hy => ?_⟩
    · obtain ⟨y, hy⟩ := List.getElem?_of_mem hc
      have hy' : (madeCells z.cells (m * j.size))[y]? = some c := by simpa using hy
      have hlt : y < m * j.size := by rw [← hsz]; exact (Array.getElem?_eq_some_iff.1 hy').1
      rw [hget y hlt] at hy'
      exact hz1.2 c (List.mem_of_getElem? hy')
    · have hym : y < m := by
        rcases Nat.lt_or_ge y m with h | h
        · exact h
        · rw [List.getElem?_eq_none (by simp; omega)] at hy; cases hy
      rw [List.getElem?_replicate, if_pos hym] at hy
      cases hy
      have h6 : (y + 1) * j.size ≤ m * j.size := Nat.mul_le_mul_right _ hym
      rw [Nat.succ_mul] at h6
      have e : ((madeCells z.cells (m * j.size)).toList.drop (y * j.size)).take j.size = j.zero := by
        refine List.ext_getElem? fun u => ?_
        rw [List.getElem?_take]
        split
        · rename_i hu
          rw [List.getElem?_drop]
          have := hget (y * j.size + u) (by omega)
          rw [show (y * j.size + u) % j.size = u from by rw [Nat.add_comm, Nat.add_mul_mod_self_right, Nat.mod_eq_of_lt hu]] at this
          simpa using this
        · rename_i hu
          rw [List.getElem?_eq_none (by rw [hz1.1]; omega)]
      rw [e]
      exact all2_zero hz1.2
  · exact ⟨e, j.size, List.replicate m (j.zero.map .g), _, m, by simp [sets_one_obj], by simp, rfl, Nat.le_refl _, hm, .inr ⟨w.heap.size, _, set_same _ _ _, by simp, by simp⟩⟩

-- ends that hand back what was made as what nobody writes
structure EndF (T : Tab) (fn : Func) (L : LS) (s : Slot) : Prop where
  h : ∃ ss s0, fn.results.toList.mapM (resSlot T L.st) = some ss ∧ resAll ss = some s0 ∧ vS true L.st [] s0 = s
def endF (T : Tab) (fn : Func) (s : Slot) (e : Exit) (L : LS) : Prop :=
  match e with
  | .normal => EndF T fn L s
  | .ret => EndF T fn L s
  | _ => False
theorem endFz {fn : Func} {L : LS} {s : Slot} {ss : List Slot} {s0 : Slot} (h1 : fn.results.toList.mapM (resSlot T L.st) = some ss) (h2 : resAll ss = some s0) (h3 : vS true L.st [] s0 = s) : EndF T fn L s := ⟨ss, s0, h1, h2, h3⟩

theorem pureF_walk (hT : TabOk P T) {f : FuncId} {fn : Func} {c : Code} {n : Nat} (hf : P.funcs[f]? = some fn) (hname : (fn.name == "runtime.NumGoroutine") = false) (hb : fn.body = some c) (hn : fn.ntmps = n)
    {args : List Slot} (hp : args.length ≤ n) {s : Slot} (h : fArgs args 0 fun ts => vcK P T n c ⟨ts, [], []⟩ (endF T fn s)) : CallsV P f args [] (pureQ s) := by
  rw [fArgs_eq] at h
  have hvl := vcK_ok (P := P) (n := n) hT h
  have e0 : S0 args [] = LS.st ⟨argL args 0, [], []⟩ := by
    refine stOf_ext (fun t => ?_) (fun o => rfl)
    show (args[t]?).getD .bad = (alk (argL args 0) t).getD .bad
    rw [alk_argL]; simp
  refine ⟨ent_of hf hname hb, fun w B D vals hA hargs => ?_⟩
  have hlen : vals.size = args.length := by have := hargs.length; simpa using this.symm
  let C : Ctx := ⟨w, ioOf [] B, dinOf w D [] B, n, 0, B, fun o => none⟩
  have hno : ∀ b, ¬ ioOf [] B b := by rintro b ⟨o, m, ho, _⟩; simp [So] at ho
  have hDd : ∀ b, dep D (So []) B b → b < w.heap.size → dep C.din (S0 args []) B b := fun b hd _ => ⟨.inl hd.1, hd.2⟩
  have e : ∀ l v, LRep w D (So []) B l v → LRep w C.din (S0 args []) B l v := fun l v hl =>
    LRep.step (Nat.le_refl _) (fun _ _ _ => rfl) hDd (fun o ob ho => by simp [So] at ho) hl
  have hR : Rel C (S0 args []) B { tmps := vals ++ Array.replicate (fn.ntmps - vals.size) undef, defers := [] } w := by
    refine ⟨by simp [hn, C]; omega, rfl, fun t => ?_, fun o ob ho => by simp [S0] at ho, hA.inj, fun o b m ho hb => by simp [S0] at ho, Kp.refl _ _, fun b hb => .inr (.inr hb), fun o _ _ => rfl, by simp [C], fun o ob _ ho => by simp [S0] at ho⟩
    show SRep _ ((args[t]?).getD .bad) _
    cases ha : args[t]? with
    | none => trivial
    | some s =>
      obtain ⟨v, hv, hs⟩ := hargs.get t s ha
      have ht : t < vals.size := by
        rw [hlen]; rcases Nat.lt_or_ge t args.length with h | h; exact h; rw [List.getElem?_eq_none h] at ha; cases ha
      have hv' : vals[t]? = some v := by simpa using hv
      have : (vals ++ Array.replicate (fn.ntmps - vals.size) undef).getD t undef = v := by
        rw [Array.getElem?_eq_getElem ht] at hv'
        cases hv'
        simp [Array.getD, ht]; intro h; omega
      rw [this]
      exact hs.mono e
  rw [e0] at hR
  refine calls_of_wp hf hb (wp_mono (hvl.1 C B _ w rfl hR) fun ex a' w' hq => ?_)
  obtain ⟨S', B', hQ, hR'⟩ := hq
  obtain ⟨L, rfl, hq⟩ := hQ
  have fin : EndF T fn L s → a'.defers = [] ∧ ∃ v, (results fn a'.tmps).run P w' = .ok v w' ∧
      ∃ v' s' outs news B', Ending.returned v = .returned v' ∧ pureQ s s' outs news ∧ ResOk w w' (dinOf w D [] B) [] B outs news B' ∧ SRep (LRep w' (dinOf w D [] B) (Sr outs news) B') s' v' := by
    rintro ⟨ss, s0, hss, hs, rfl⟩
    obtain ⟨v, hrun, hsr⟩ := run_results hT hR' hss hs
    have hv := view_srep (g := true) (ids := []) (obs := []) hR' rfl .nil hsr
    refine ⟨hR'.defers, v, hrun, v, _, [], [], fun _ => none, rfl, ⟨rfl, rfl, rfl⟩, ?_, ?_⟩
    · refine ⟨rfl, fun o ob ho => by simp [Sr] at ho, fun o o' b m m' ho => by simp [Sr] at ho, fun o hlt => absurd hlt (by simp), fun o b m ho => by simp [Sr] at ho, ?_, fun o ob hlt => absurd hlt (by simp)⟩
      exact hR'.frame
    · refine hv.mono fun l v hl => ?_
      refine LRep.step (Nat.le_refl _) (fun _ _ _ => rfl) (fun b hd _ => ?_) (fun o ob ho => by simp [So] at ho) hl
      exact ⟨hd.1, fun o m ho => by simp [Sr] at ho⟩
  cases ex with
  | normal => exact fin hq
  | ret => exact fin hq
  | _ => exact hq.elim

/-- A call of a pure function that may hand back what nobody writes. -/
theorem o_purF {F : Operand} {Xs : Array Operand} {ats : Array TypeId} {f : FuncId} {args : List Slot} {s : Slot} (h : CallsV P f args [] (pureQ s)) (hs : rnS (back [] 100000) s = s)
    (ho : o.op = .call { callee := .value F, args := Xs, argTypes := ats }) (hF : ev S F = .one (.clo f []))
    (hfree : S.obj 100000 = none ∧ S.obj 100001 = none ∧ S.obj 100002 = none ∧ S.obj 100003 = none) (hargs : (Xs.toList.map (ev S)).map (vS false S []) = args) :
    OpW P S o ([100000, 100001, 100002, 100003] ++ (Xs.toList.map (ev S)).flatMap refsS) (fun e => e = { dst := s }) := by
  have := o_call (S := S) ho hF false [] (obs := []) rfl .nil 100000 (by omega) hfree (args := args) (by simpa using hargs) (objs := []) rfl h
    (fun s' outs news hp => by obtain ⟨rfl, rfl, rfl⟩ := hp; exact ⟨by simp, fun h => by cases h⟩)
  intro S' k1 k2 C B a w hR hd next Q hk
  refine this S' k1 (fun r hr => k2 r ?_) C B a w hR hd next Q fun e B' v w' hE hr => hk e B' v w' ?_ hr
  · simpa using hr
  · obtain ⟨s', outs, news, ⟨rfl, rfl, rfl⟩, _, rfl⟩ := hE
    simp [cEff, killsOf, setsOf, newsOf, hs]
end
end Go.Vl

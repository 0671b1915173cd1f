/- V-logic, part n: the call's rule. -/
import Derived.Test.YtiaendjdmnpcdaaVm
namespace Go.Vl
open Go Go.RowKit

section
variable {P : Program} {S : St} {o : Oper}

theorem o_call {F : Operand} {Xs : Array Operand} {ats : Array TypeId} (ho : o.op = .call { callee := .value F, args := Xs, argTypes := ats }) {f : FuncId} {os : List Nat} (hF : ev S F = .one (.clo f os))
    (g : Bool) (ids : List Nat) {obs : List Ob} (hids : ids.mapM S.obj = some obs) (hnd : ids.Nodup) (base : Nat) (hb : 100 ≤ base)
    (hfree : S.obj base = none ∧ S.obj (base + 1) = none ∧ S.obj (base + 2) = none ∧ S.obj (base + 3) = none)
    {args : List Slot} (hargs : (Xs.toList.map (ev S) ++ os.map fun q => Slot.one (.ptr q 0)).map (vS g S ids) = args) {objs : List Ob} (hobjs : obs.map (vO g S ids) = objs)
    {Post : Slot → List (Option Ob) → List Ob → Prop} (h : CallsV P f args objs Post)
    (hnews : ∀ s outs news, Post s outs news → news.length ≤ 4 ∧ (g = true → GrS s ∧ (∀ ob, some ob ∈ outs → GrO ob) ∧ ∀ ob ∈ news, GrO ob)) :
    OpW P S o ([base, base + 1, base + 2, base + 3] ++ (ids ++ (Xs.toList.map (ev S) ++ os.map fun q => Slot.one (.ptr q 0)).flatMap refsS ++ obs.flatMap refsO)) (fun e => ∃ s outs news, Post s outs news ∧ outs.length = ids.length ∧ e = cEff ids base s outs news) := by
  intro S' h1 h2' C B a w hR hd next Q hk
  have h2 := fun r hr => h2' r (List.mem_append.2 (.inr hr))
  have h3 : ∀ r, r ∈ [base, base + 1, base + 2, base + 3] → S.obj r = none → S'.obj r = none := fun r hr e => (h2' r (List.mem_append.2 (.inl hr))).trans e
  have hF' := (h1 F (by simp [ho, Op.operands, Call.operands])).trans hF
  have hX' : Xs.toList.map (ev S') = Xs.toList.map (ev S) := List.map_congr_left fun x hx => h1 x (by simp [ho, Op.operands, Call.operands]; exact .inr (Array.mem_toList_iff.1 hx))
  have hids' : ids.mapM S'.obj = some obs := by
    rw [← hids]
    have key : ∀ l : List Nat, (∀ r ∈ l, S'.obj r = S.obj r) → l.mapM S'.obj = l.mapM S.obj := by
      intro l
      induction l with
      | nil => intro _; rfl
      | cons x l ih =>
        intro hl
        rw [List.mapM_cons, List.mapM_cons, hl x (by simp), ih fun r hr => hl r (by simp [hr])]
    exact key ids fun r hr => h2 r (by simp [hr])
  have hobjs' : obs.map (vO g S' ids) = objs := by
    rw [← hobjs]
    exact List.map_congr_left fun ob hob => vO_same fun r hr => h2 r (List.mem_append.2 (.inr (List.mem_flatMap.2 ⟨ob, hob, hr⟩)))
  have hargs' : (Xs.toList.map (ev S) ++ os.map fun q => Slot.one (.ptr q 0)).map (vS g S' ids) = args := by
    rw [← hargs]
    exact List.map_congr_left fun s hs => vS_same fun r hr => h2 r (List.mem_append.2 (.inl (List.mem_append.2 (.inr (List.mem_flatMap.2 ⟨s, hs, hr⟩)))))
  obtain ⟨vs, hv, hcap⟩ := ev_one hR hF'
  have hvals : All2 (SRep (LRep w C.din S' B)) (Xs.toList.map (ev S) ++ os.map fun q => Slot.one (.ptr q 0)) (Xs.map a.eval ++ vs).toList := by
    rw [Array.toList_append]
    refine All2.append ?_ (All2.map_left (hcap.mono fun q x hx => hx))
    rw [← hX', Array.toList_map]
    have key : ∀ l : List Operand, All2 (SRep (LRep w C.din S' B)) (l.map (ev S')) (l.map a.eval) := by
      intro l
      induction l with
      | nil => trivial
      | cons x l ih => exact ⟨ev_rep hR x, ih⟩
    exact key _
  have hview : All2 (SRep (LRep w (vD g C S' B) (So objs) (vB ids B))) args (Xs.map a.eval ++ vs).toList := by
    rw [← hargs', ← hobjs']
    exact All2.map_left (hvals.mono fun s v hs => view_srep hR hids' hnd hs)
  have hA : ArgsOk w (vD g C S' B) objs (vB ids B) := by rw [← hobjs']; exact view_args hR hids' hnd
  have hcall := h.2 w (vB ids B) (vD g C S' B) (Xs.map a.eval ++ vs) hA hview
  have hrun : (execOp a.eval o).run P w = .ok (.enter f (Xs.map a.eval ++ vs)) w := by
    have := h.1 (Xs.map a.eval ++ vs) w
    simp [execOp, ho, resolve, hv, Deferred.ofValue, invoke, this]
  unfold Oper.wp
  rw [hrun]
  rw [Oper.upon_enter]
  refine hcall.mono fun e w' he => ?_
  obtain ⟨v, s, outs, news, B', rfl, hP, hres, hs⟩ := he
  obtain ⟨hnl, hgr⟩ := hnews s outs news hP
  rw [← hobjs'] at hres hs
  obtain ⟨B2, hR2, hs2⟩ := back_rel (base := base) hR hids' hnd hres (fun j hj => by
      have hj4 : j < 4 := by omega
      obtain ⟨f0, f1, f2, f3⟩ := hfree
      match j, hj4 with
      | 0, _ => exact h3 _ (by simp) f0
      | 1, _ => exact h3 _ (by simp) f1
      | 2, _ => exact h3 _ (by simp) f2
      | 3, _ => exact h3 _ (by simp) f3) hb (fun hg => (hgr hg).2)
  have hlen : outs.length = ids.length := by rw [hres.len, List.length_map, mapM_length hids']
  exact hk _ B2 v w' ⟨s, outs, news, hP, hlen, rfl⟩ (hR2.put o.dst _ v (hs2 s v (fun hg => (hgr hg).1) hs) hd)
end
end Go.Vl

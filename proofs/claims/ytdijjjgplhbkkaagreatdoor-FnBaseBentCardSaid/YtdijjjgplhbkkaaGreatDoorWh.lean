/- V-logic, part yc: slice expressions; calls of which one of many outcomes comes about; what was made is frozen on the way. -/
import Derived.Test.YtdijjjgplhbkkaaGreatDoorWg
import Derived.Laws.DeepStrings4
import Derived.Laws.Strings3
import Derived.Laws.Slices
set_option linter.unusedSimpArgs false
set_option linter.unusedVariables false
set_option linter.unnecessarySimpa false
namespace Go.Vl
open Go Go.RowKit
section
variable {P : Program} {T : Tab} {S : St} {o : Oper}
def bnd (S : St) (x : Option Operand) (d n : Nat) : Prop := match x with
  | none => n = d
  | some X => ∃ k, ev S X = .one (.g (.int k n))
theorem bnd_none {d : Nat} : bnd S none d d := rfl
theorem bnd_some {X : Operand} {d n : Nat} {k : IntKind} (h : ev S X = .one (.g (.int k n))) : bnd S (some X) d n := ⟨k, h⟩
theorem bnd_ops {S S' : St} {x : Option Operand} {d n : Nat} (h : bnd S x d n) (he : ∀ X, x = some X → ev S' X = ev S X) : bnd S' x d n := by
  cases x with
  | none => exact h
  | some X => obtain ⟨k, hk⟩ := h; exact ⟨k, (he X rfl).trans hk⟩
theorem run_slice_bnd {C : Ctx} {B : Pl} {a : Act} {w : World} (hR : Rel C S B a w) {t : TypeId} {A : Option Addr} {len cap n1 n2 sz : Nat} {lo hi : Option Operand} (ht : P.underlying t = some (.slice (P.elem t))) (hs : (sizeOf (P.elem t)).run P w = .ok sz w)
    (h1 : bnd S lo 0 n1) (h2 : bnd S hi len n2) (h12 : n1 ≤ n2) (h3 : n2 ≤ len) (h4 : len ≤ cap) :
    (Instr.sliceAt t (.slice A len cap) (lo.map a.eval) (hi.map a.eval) none).run P w = .ok (sliced A n1 n2 cap sz) w := by
  rw [run_sliceAt_slice w t _ _ _ _ ht]
  cases lo with
  | none =>
    cases hi with
    | none =>
      have e1 : n1 = 0 := h1
      have e2 : n2 = len := h2
      subst e1 e2
      simp only [Option.map_none]
      rw [run_slice_all w t A n2 cap ht, hs]; rfl
    | some H =>
      have e1 : n1 = 0 := h1
      obtain ⟨k, hk⟩ := h2
      subst e1
      simp only [Option.map_none, Option.map_some, ev_g hR hk]
      rw [run_slice_h w t A len cap ht k n2 (by omega) (by omega), hs, Int.toNat_natCast]; rfl
  | some Lo =>
    obtain ⟨k, hk⟩ := h1
    cases hi with
    | none =>
      have e2 : n2 = len := h2
      subst e2
      simp only [Option.map_none, Option.map_some, ev_g hR hk]
      rw [run_slice_l w t A n2 cap ht k n1 (by omega) (by omega), hs, Int.toNat_natCast]; rfl
    | some H =>
      obtain ⟨k', hk'⟩ := h2
      simp only [Option.map_some, ev_g hR hk, ev_g hR hk']
      rw [run_slice_lh w t A len cap ht k k' n1 n2 (by omega) (by omega) (by omega), hs, Int.toNat_natCast, Int.toNat_natCast]; rfl
theorem und_elem {t e : TypeId} (h : P.underlying t = some (.slice e)) : P.underlying t = some (.slice (P.elem t)) ∧ P.elem t = e := by
  have : P.elem t = e := by simp [Program.elem, h]
  rw [this]; exact ⟨h, rfl⟩
theorem slice_opsI {t : TypeId} {X : Operand} {lo hi : Option Operand} (ho : o.op = .slice t X lo hi none) : X ∈ o.op.operands ∧ (∀ Y, lo = some Y → Y ∈ o.op.operands) ∧ (∀ Y, hi = some Y → Y ∈ o.op.operands) := by
  rw [ho]
  refine ⟨by simp [Op.operands], fun Y h => ?_, fun Y h => ?_⟩
  · subst h; simp [Op.operands]
  · subst h; simp [Op.operands]
theorem o_slice_imm (hT : TabOk P T) {t e : TypeId} {X : Operand} {lo hi : Option Operand} (ho : o.op = .slice t X lo hi none) {i j : TI} (hi0 : T t = some i) (hd0 : i.d = .sl e) (hj : T e = some j) {sz : Nat} {rows rows' : List (List Leaf)}
    (hX : ev S X = .one (.imm sz rows)) (hsz : j.size = sz) {n1 n2 : Nat} (h1 : bnd S lo 0 n1) (h2 : bnd S hi rows.length n2) (h12 : n1 ≤ n2) (h3 : n2 ≤ rows.length) (hr : (rows.drop n1).take (n2 - n1) = rows') :
    OpL P S o { dst := .one (.imm sz rows') } := by
  intro S' k1 k2 k3 C B a w hR hd
  obtain ⟨m1, m2, m3⟩ := slice_opsI ho
  have hX' := (k1 X m1).trans hX
  have h1' := bnd_ops h1 fun Y hY => k1 Y (m2 Y hY)
  have h2' := bnd_ops h2 fun Y hY => k1 Y (m3 Y hY)
  have hx : RepL w (dep C.din S' B) (.imm sz rows) (a.eval X) := ev_one hR hX'
  rw [RepL.eq_2] at hx
  obtain ⟨A, c, hv, hlc, hcm, hrr⟩ := hx
  obtain ⟨hu, he⟩ := und_elem (und_sl hT hi0 hd0)
  have hrun := run_slice_bnd (A := A) (cap := c) hR hu (by rw [he]; exact hT.size hj w) h1' h2' h12 h3 hlc
  refine good_val hR (rd := []) (p := True) hd (v := sliced A n1 n2 c j.size) (by simp [execOp, ho, hv, hrun]) ?_
  show RepL w _ (.imm sz rows') _
  subst hr
  rw [RepL.eq_2]
  have hl : ((rows.drop n1).take (n2 - n1)).length = n2 - n1 := by simp; omega
  refine ⟨_, c - n1, by rw [hl]; rfl, by omega, by omega, ?_⟩
  rcases hrr with rfl | ⟨ad, rfl, hdp, hlt, hrs⟩
  · left; simp
  · rcases Nat.eq_or_lt_of_le h12 with e12 | l12
    · left; subst e12; simp
    · right
      have hne : c ≠ n1 := by omega
      refine ⟨ad.add (n1 * sz), by simp [hne, hsz], by rw [add_block]; exact hdp, by rw [add_block]; exact hlt, RepRs_of fun y r hy => ?_⟩
      rw [List.getElem?_take] at hy
      split at hy
      · rw [List.getElem?_drop] at hy
        have hg := RepRs_get hrs _ _ hy
        refine ⟨hg.1, RepR_of fun z l hz => ?_⟩
        obtain ⟨x, hx, hxr⟩ := RepR_get hg.2 z l hz
        refine ⟨x, ?_, hxr⟩
        rw [add_add']
        rw [show n1 * sz + (0 + y * sz + z) = 0 + (n1 + y) * sz + z by rw [Nat.add_mul]; omega]
        exact hx
      · cases hy
theorem o_slice_own (hT : TabOk P T) {t e : TypeId} {X : Operand} {lo hi : Option Operand} (ho : o.op = .slice t X lo hi none) {i j : TI} (hi0 : T t = some i) (hd0 : i.d = .sl e) (hj : T e = some j) {q off len E sz : Nat} {rows : List (List Leaf)}
    (hX : ev S X = .one (.own q off len)) (hq : S.obj q = some (.arr E sz rows)) (hsz : j.size = sz) {n1 n2 : Nat} (h1 : bnd S lo 0 n1) (h2 : bnd S hi len n2) (h12 : n1 ≤ n2) (h3 : n2 ≤ len) :
    OpL P S o { dst := .one (.own q (off + n1) (n2 - n1)), reads := [q] } := by
  intro S' k1 k2 k3 C B a w hR hd
  obtain ⟨m1, m2, m3⟩ := slice_opsI ho
  have hX' := (k1 X m1).trans hX
  have hq' := (k2 q (by simp)).trans hq
  have h1' := bnd_ops h1 fun Y hY => k1 Y (m2 Y hY)
  have h2' := bnd_ops h2 fun Y hY => k1 Y (m3 Y hY)
  obtain ⟨E', sz', rows', A, c, hq2, hlen, hv, hlc, hcm, hc⟩ := ev_one hR hX'
  rw [arr_of hq'] at hq2; cases hq2
  obtain ⟨hu, he⟩ := und_elem (und_sl hT hi0 hd0)
  have hrun := run_slice_bnd (A := A) (cap := c) hR hu (by rw [he]; exact hT.size hj w) h1' h2' h12 h3 hlc
  refine good_val hR (rd := [q]) (p := True) hd (v := sliced A n1 n2 c j.size) (by simp [execOp, ho, hv, hrun]) ?_
  refine ⟨E, sz, rows, _, c - n1, arr_of hq', by omega, rfl, by omega, by omega, ?_⟩
  rcases hc with rfl | ⟨b, n, hb, rfl, hroom⟩
  · left; omega
  · by_cases hne : c = n1
    · left; omega
    · right
      refine ⟨b, n, hb, by simp [hne, hsz, add_mk, Nat.add_mul], ?_⟩
      rw [show off + n1 + (c - n1) = off + c by omega]; exact hroom
theorem o_slice_str (hT : TabOk P T) {t : TypeId} {X : Operand} {lo hi : Option Operand} (ho : o.op = .slice t X lo hi none) {i : TI} (hi0 : T t = some i) (hd0 : i.d = .str) {s : ByteArray}
    (hX : ev S X = .one (.g (.string s))) {n1 n2 : Nat} (h1 : bnd S lo 0 n1) (h2 : bnd S hi s.size n2) (h12 : n1 ≤ n2) (h3 : n2 ≤ s.size) : OpL P S o { dst := .one (.g (.string (s.extract n1 n2))) } := by
  intro S' k1 k2 k3 C B a w hR hd
  obtain ⟨m1, m2, m3⟩ := slice_opsI ho
  have hX' := (k1 X m1).trans hX
  have h1' := bnd_ops h1 fun Y hY => k1 Y (m2 Y hY)
  have h2' := bnd_ops h2 fun Y hY => k1 Y (m3 Y hY)
  have hu := und_str hT hi0 hd0
  have hv := ev_g hR hX'
  refine good_val hR (rd := []) (p := True) hd (v := .string (s.extract n1 n2)) ?_ (srepG rfl)
  have hrun : (Instr.sliceAt t (.string s) (lo.map a.eval) (hi.map a.eval) none).run P w = .ok (.string (s.extract n1 n2)) w := by
    rw [run_sliceAt_string w t _ _ _ _ hu]
    cases lo with
    | none =>
      have e1 : n1 = 0 := h1'
      subst e1
      cases hi with
      | none =>
        have e2 : n2 = s.size := h2'
        subst e2
        simp [Instr.slice, Instr.sliceBounds, Instr.sliceBound, run_underlying hu]
      | some H =>
        obtain ⟨k, hk⟩ := h2'
        simp [Instr.slice, Instr.sliceBounds, Instr.sliceBound, asIntOf, run_underlying hu, ev_g hR hk, h3]
    | some Lo =>
      obtain ⟨k, hk⟩ := h1'
      cases hi with
      | none =>
        have e2 : n2 = s.size := h2'
        subst e2
        simp [Instr.slice, Instr.sliceBounds, Instr.sliceBound, asIntOf, run_underlying hu, ev_g hR hk, h12]
      | some H =>
        obtain ⟨k', hk'⟩ := h2'
        simp only [Option.map_some, ev_g hR hk, ev_g hR hk']
        rw [run_slice_string_if w t s k k' n1 n2 hu, if_pos (by omega), if_pos (by omega), Int.toNat_natCast, Int.toNat_natCast]
  simp [execOp, ho, hv, hrun]
def relQ {α : Type} (C : α → Prop) (s : α → Slot) (outs : α → List (Option Ob)) (news : α → List Ob) : Slot → List (Option Ob) → List Ob → Prop :=
  fun s' o' n' => ∃ y, C y ∧ s' = s y ∧ o' = outs y ∧ n' = news y
theorem o_relN {α : Type} {C : α → Prop} {s : α → Slot} {outs : α → List (Option Ob)} {news : α → List Ob} {F : Operand} {Xs : Array Operand} {ats : Array TypeId} {f : FuncId} {os : List Nat} {args : List Slot} {objs : List Ob} (h : CallsV P f args objs (relQ C s outs news))
    (g : Bool) (ids : List Nat) (hg : ∀ y, C y → (news y).length ≤ 4 ∧ (g = true → GrS (s y) ∧ (∀ ob, some ob ∈ outs y → GrO ob) ∧ ∀ ob ∈ news y, GrO ob))
    {d : Nat} (_ : o.dst = some d) (ho : o.op = .call { callee := .value F, args := Xs, argTypes := ats }) (hF : ev S F = .one (.clo f os)) {obs : List Ob} (hids : ids.mapM S.obj = some obs) (hnd : nodupB ids = true)
    (hfree : S.obj (1000 + 4 * d) = none ∧ S.obj (1000 + 4 * d + 1) = none ∧ S.obj (1000 + 4 * d + 2) = none ∧ S.obj (1000 + 4 * d + 3) = none)
    (hargs : (Xs.toList.map (ev S) ++ os.map fun q => Slot.one (.ptr q 0)).map (vS g S ids) = args) (hobjs : obs.map (vO g S ids) = objs) :
    OpW P S o ([1000 + 4 * d, 1000 + 4 * d + 1, 1000 + 4 * d + 2, 1000 + 4 * d + 3] ++ (ids ++ (Xs.toList.map (ev S) ++ os.map fun q => Slot.one (.ptr q 0)).flatMap refsS ++ obs.flatMap refsO))
      (fun e => ∃ y, C y ∧ e = cEff ids (1000 + 4 * d) (s y) (outs y) (news y)) := by
  have := o_call (S := S) ho hF g ids hids (nodupB_ok hnd) (1000 + 4 * d) (by omega) hfree hargs hobjs h
    (fun s' outs' news' hp => by obtain ⟨y, hy, rfl, rfl, rfl⟩ := hp; exact hg y hy)
  intro S' k1 k2 C' B a w hR hd next Q hk
  refine this S' k1 k2 C' B a w hR hd next Q fun e B' v w' hE hr => hk e B' v w' ?_ hr
  obtain ⟨s', outs', news', ⟨y, hy, rfl, rfl, rfl⟩, _, rfl⟩ := hE
  exact ⟨y, hy, rfl⟩
variable {n : Nat} {ops : Array Oper}
theorem VR.rel (hT : TabOk P T) (hin : dstsIn n ops = true) {i : Nat} {rest : List Oper} {L : LS} {K : LS → Prop} (hg : guardOn ops L.st o = some true) {rd : List Nat} {α : Type} {C : α → Prop} {E : α → Eff} (he : OpW P L.st o rd (fun e => ∃ y, C y ∧ e = E y))
    (h : ∀ y, C y → killK L (E y).kills fun L => putK L (E y).sets o.dst (E y).dst fun L => runK T ops.toList (fun i l L => VR P n ops i l L K) K rest (i + 1) L) : VR P n ops i (o :: rest) L K :=
  VR.opw hT hin hg he fun e' hE => by obtain ⟨y, hy, rfl⟩ := hE; exact h y hy
theorem endR {α : Type} {C : α → Prop} {s : α → Slot} {outs : α → List (Option Ob)} {news : α → List Ob} {fn : Func} {k : Nat} {L : LS} (nids : List Nat) (y : α) {ss : List Slot} {s0 : Slot} {obs : List Ob}
    (h1 : fn.results.toList.mapM (resSlot T L.st) = some ss) (h2 : resAll ss = some s0) (h3 : (List.range k ++ nids).mapM L.st.obj = some obs) (h4 : nodupB (List.range k ++ nids) = true) (h5 : (nids.all fun i => Nat.ble k i) = true)
    (h6 : LeS (vS true L.st (List.range k ++ nids) s0) (s y)) (h7 : ((obs.take k).map fun ob => some (vO true L.st (List.range k ++ nids) ob)) = outs y) (h8 : ((obs.drop k).map (vO true L.st (List.range k ++ nids))) = news y) (hC : C y) : EndV T fn k L (relQ C s outs news) :=
  ⟨L, fun n => .refl n _, ss, s0, s y, nids, obs, h1, h2, h3, h4, h5, h6, y, hC, rfl, h7, h8⟩
theorem endW {s : Slot} {outs : List (Option Ob)} {news : List Ob} {fn : Func} {k : Nat} {L : LS} (nids : List Nat) {ss : List Slot} {s0 : Slot} {obs : List Ob}
    (h1 : fn.results.toList.mapM (resSlot T L.st) = some ss) (h2 : resAll ss = some s0) (h3 : (List.range k ++ nids).mapM L.st.obj = some obs) (h4 : nodupB (List.range k ++ nids) = true) (h5 : (nids.all fun i => Nat.ble k i) = true)
    (h6 : LeS (vS true L.st (List.range k ++ nids) s0) s) (h7 : ((obs.take k).map fun ob => some (vO true L.st (List.range k ++ nids) ob)) = outs) (h8 : ((obs.drop k).map (vO true L.st (List.range k ++ nids))) = news) : EndV T fn k L (funQ s outs news) :=
  ⟨L, fun n => .refl n _, ss, s0, s, nids, obs, h1, h2, h3, h4, h5, h6, rfl, h7, h8⟩
end
end Go.Vl
namespace Go.Vl
open Go Go.RowKit
section
variable {P : Program} {n : Nat} {S Sf : St} {ops : Array Oper} {cl : Nat → List Nat}
inductive Node (P : Program) (ops : Array Oper) (cl : Nat → List Nat) (K : St → Prop) : List Stp → St → List Nat → Prop
  | done {full : List Stp} {Sf : St} (hp : pairsOk ops cl full = true) (h : K Sf) : Node P ops cl K full Sf []
  | rel {full : List Stp} {S1 : St} {i : Nat} {o : Oper} {rd tw : List Nat} {E : Eff → Prop} {r : List Nat} (hp : pairsOk ops cl (full ++ [⟨i, none, rd, tw, none⟩]) = true) (ho : ops[i]? = some o) (hg : guardOn ops S1 o = some true)
      (hw : OpW P S1 o rd E) (hr : ∀ j ∈ r, i ∈ cl j) (lf : Eff → List Stp) (rf : Eff → List Nat) (sf : Eff → St) (hk : ∀ e, E e → e.kills = [] ∧ e.sets.map (·.1) = tw ∧ r = (lf e).map (·.i) ++ rf e ∧ Can P ops (S1.app o.dst e) (lf e) (sf e))
      (h : ∀ e, E e → Node P ops cl K (full ++ [⟨i, some e, rd, tw, none⟩] ++ lf e) (sf e) (rf e)) : Node P ops cl K full S1 (i :: r)
  | relk {full : List Stp} {S1 : St} {i : Nat} {o : Oper} {rd tw kl : List Nat} {E : Eff → Prop} {r : List Nat} (hp : pairsOk ops cl (full ++ [⟨i, some { dst := .tup [], kills := kl }, rd, tw, none⟩]) = true) (ho : ops[i]? = some o) (hg : guardOn ops S1 o = some true)
      (hw : OpW P S1 o rd E) (hr : ∀ j ∈ r, i ∈ cl j) (lf : Eff → List Stp) (rf : Eff → List Nat) (sf : Eff → St) (hk : ∀ e, E e → e.kills = kl ∧ e.sets.map (·.1) = tw ∧ r = (lf e).map (·.i) ++ rf e ∧ Can P ops (S1.app o.dst e) (lf e) (sf e))
      (h : ∀ e, E e → Node P ops cl K (full ++ [⟨i, some e, rd, tw, none⟩] ++ lf e) (sf e) (rf e)) : Node P ops cl K full S1 (i :: r)
theorem Node.relk' {K : St → Prop} {full : List Stp} {S1 : St} {i : Nat} {o : Oper} {rd tw kl : List Nat} {E : Eff → Prop} {r : List Nat} (hp : pairsOk ops cl (full ++ [⟨i, some { dst := .tup [], kills := kl }, rd, tw, none⟩]) = true) (ho : ops[i]? = some o) (hg : guardOn ops S1 o = some true)
      (hw : OpW P S1 o rd E) (hr : ∀ j ∈ r, i ∈ cl j)
      (h : ∀ e, E e → e.kills = kl ∧ e.sets.map (·.1) = tw ∧ ∃ l r' Sf, r = l.map (·.i) ++ r' ∧ Can P ops (S1.app o.dst e) l Sf ∧ Node P ops cl K (full ++ [⟨i, some e, rd, tw, none⟩] ++ l) Sf r') : Node P ops cl K full S1 (i :: r) := by
  have h' : ∀ e, ∃ x : List Stp × List Nat × St, E e → e.kills = kl ∧ e.sets.map (·.1) = tw ∧ r = x.1.map (·.i) ++ x.2.1 ∧ Can P ops (S1.app o.dst e) x.1 x.2.2 ∧ Node P ops cl K (full ++ [⟨i, some e, rd, tw, none⟩] ++ x.1) x.2.2 x.2.1 := by
    intro e
    by_cases he : E e
    · obtain ⟨k1, k2, l, r', Sf, k3, k4, k5⟩ := h e he
      exact ⟨(l, r', Sf), fun _ => ⟨k1, k2, k3, k4, k5⟩⟩
    · exact ⟨([], [], S1), fun h => absurd h he⟩
  obtain ⟨f, hf⟩ := Classical.axiomOfChoice h'
  exact .relk hp ho hg hw hr (fun e => (f e).1) (fun e => (f e).2.1) (fun e => (f e).2.2) (fun e he => ⟨(hf e he).1, (hf e he).2.1, (hf e he).2.2.1, (hf e he).2.2.2.1⟩) (fun e he => (hf e he).2.2.2.2)
theorem Node.rel' {K : St → Prop} {full : List Stp} {S1 : St} {i : Nat} {o : Oper} {rd tw : List Nat} {E : Eff → Prop} {r : List Nat} (hp : pairsOk ops cl (full ++ [⟨i, none, rd, tw, none⟩]) = true) (ho : ops[i]? = some o) (hg : guardOn ops S1 o = some true)
      (hw : OpW P S1 o rd E) (hr : ∀ j ∈ r, i ∈ cl j)
      (h : ∀ e, E e → e.kills = [] ∧ e.sets.map (·.1) = tw ∧ ∃ l r' Sf, r = l.map (·.i) ++ r' ∧ Can P ops (S1.app o.dst e) l Sf ∧ Node P ops cl K (full ++ [⟨i, some e, rd, tw, none⟩] ++ l) Sf r') : Node P ops cl K full S1 (i :: r) := by
  have h' : ∀ e, ∃ x : List Stp × List Nat × St, E e → e.kills = [] ∧ e.sets.map (·.1) = tw ∧ r = x.1.map (·.i) ++ x.2.1 ∧ Can P ops (S1.app o.dst e) x.1 x.2.2 ∧ Node P ops cl K (full ++ [⟨i, some e, rd, tw, none⟩] ++ x.1) x.2.2 x.2.1 := by
    intro e
    by_cases he : E e
    · obtain ⟨k1, k2, l, r', Sf, k3, k4, k5⟩ := h e he
      exact ⟨(l, r', Sf), fun _ => ⟨k1, k2, k3, k4, k5⟩⟩
    · exact ⟨([], [], S1), fun h => absurd h he⟩
  obtain ⟨f, hf⟩ := Classical.axiomOfChoice h'
  exact .rel hp ho hg hw hr (fun e => (f e).1) (fun e => (f e).2.1) (fun e => (f e).2.2) (fun e he => ⟨(hf e he).1, (hf e he).2.1, (hf e he).2.2.1, (hf e he).2.2.2.1⟩) (fun e he => (hf e he).2.2.2.2)
theorem relBubble {o : Oper} {i : Nat} {rd tw : List Nat} {E : Eff → Prop} (ho : ops[i]? = some o) : ∀ {l : List Stp} {S S1 : St}, Can P ops S l S1 → (∀ s ∈ l, comm ops s ⟨i, none, rd, tw, none⟩ = true) → guardOn ops S1 o = some true → OpW P S1 o rd E →
    OpW P S o rd E ∧ guardOn ops S o = some true ∧ ∀ e, e.kills = [] → e.sets.map (·.1) = tw → Can P ops (S.app o.dst e) l (S1.app o.dst e)
  | [], S, S1, hc, _, hg, hw => by cases hc; exact ⟨hw, hg, fun e _ _ => .nil⟩
  | x :: l, S, S1, hc, hcm, hg, hw => by
    cases hc with
    | cons h k =>
      obtain ⟨k1, k2, k3⟩ := relBubble ho k (fun s hs => hcm s (by simp [hs])) hg hw
      have hx0 := h
      obtain ⟨ox, hix, _, hnx, htx, _⟩ := hx0
      have hc0 := hcm x (by simp)
      unfold comm at hc0
      rw [hix, ho] at hc0
      simp only [Bool.and_eq_true, List.all_eq_true, Bool.not_eq_true', List.contains_eq_mem, decide_eq_false_iff_not] at hc0
      obtain ⟨⟨⟨ha, hq1⟩, hq2⟩, hkk, _⟩ := hc0
      have hkx : x.eff.kills = [] := by
        rcases kOk_ok hkk with h0 | ⟨l0, h0, _⟩
        · exact h0
        · cases h0
      obtain ⟨a1, a2, a3⟩ := Oper.apart_spec ha
      have ex : stApp ops S x = S.app ox.dst x.eff := by simp [stApp, hix]
      have hev : ∀ y, y ∈ o.op.operands → ev S y = ev (stApp ops S x) y := by
        intro y hy
        cases y with
        | tmp t =>
          show S.slot t = (stApp ops S x).slot t
          rw [ex, app_slot _ _ _ hkx, if_neg fun e => a1 t e (looks_op hy)]
        | _ => rfl
      have hob : ∀ r, r ∈ rd → S.obj r = (stApp ops S x).obj r := fun r hr => by
        rw [ex, app_obj _ _ _ hkx, sets_obj]
        rw [htx]; exact fun h => (hq1 r h).1 hr
      have hgS : guardOn ops S o = some true := by
        rw [← k2]
        unfold guardOn
        split
        · rfl
        · rename_i j want hgd
          split
          · rfl
          · rename_i t hj
            have e1 : (stApp ops S x).slot t = S.slot t := by rw [ex, app_slot _ _ _ hkx, if_neg fun e => a1 t e (looks_guard hgd hj)]
            rw [e1]
      refine ⟨opW_congr k1 hev hob, hgS, fun e hk htw => ?_⟩
      have hxe : StepOk P ops (S.app o.dst e) x := by
        refine stepOk_congr (d := o.dst) (ks := []) h (fun t ht => ?_) (fun o' ho' t ht => ?_) (fun r hr => ?_) ?_
        · rw [app_slot _ _ _ hk, if_neg ht, kS_nil]
        · rw [hix] at ho'; cases ho'; exact a3 t ht
        · rw [obj_kill (by rw [htw]; exact fun h => hq2 r h hr) (by rw [hk]; simp), hk]
        · exact .inl rfl
      refine .cons hxe ?_
      have e2 : stApp ops (S.app o.dst e) x = (stApp ops S x).app o.dst e := by
        rw [ex]
        simp only [stApp, hix, Option.bind_some]
        exact (app_comm S (by rw [hkx]; exact .nil _) (by rw [hk]; exact .nil _) (fun t ht => a2 t ht) (fun q hq => by rw [htw]; rw [htx] at hq; exact (hq1 q hq).2)).symm
      rw [e2]
      exact k3 e hk htw
theorem relBubble2 {o : Oper} {i : Nat} {rd tw kl : List Nat} {E : Eff → Prop} (ho : ops[i]? = some o) : ∀ {l : List Stp} {S S1 : St}, Can P ops S l S1 → (∀ s ∈ l, comm ops s ⟨i, some { dst := .tup [], kills := kl }, rd, tw, none⟩ = true) → guardOn ops S1 o = some true → OpW P S1 o rd E →
    OpW P S o rd E ∧ guardOn ops S o = some true ∧ ∀ e, e.kills = kl → e.sets.map (·.1) = tw → Can P ops (S.app o.dst e) l (S1.app o.dst e)
  | [], S, S1, hc, _, hg, hw => by cases hc; exact ⟨hw, hg, fun e _ _ => .nil⟩
  | x :: l, S, S1, hc, hcm, hg, hw => by
    cases hc with
    | cons h k =>
      obtain ⟨k1, k2, k3⟩ := relBubble2 ho k (fun s hs => hcm s (by simp [hs])) hg hw
      have hx0 := h
      obtain ⟨ox, hix, _, hnx, htx, _⟩ := hx0
      have hc0 := hcm x (by simp)
      unfold comm at hc0
      rw [hix, ho] at hc0
      simp only [Bool.and_eq_true, List.all_eq_true, Bool.not_eq_true', List.contains_eq_mem, decide_eq_false_iff_not] at hc0
      obtain ⟨⟨⟨ha, hq1⟩, hq2⟩, hkk, hkl0⟩ := hc0
      have hkl := kOk_ok (show kOk kl x.rd x.tw x.nm = true from hkl0)
      have kokx : KOk kl x.eff := kok_of hnx htx hkl
      have hkx : x.eff.kills = [] := by
        rcases kOk_ok hkk with h0 | ⟨l0, h0, _⟩
        · exact h0
        · cases h0
      obtain ⟨a1, a2, a3⟩ := Oper.apart_spec ha
      have ex : stApp ops S x = S.app ox.dst x.eff := by simp [stApp, hix]
      have hev : ∀ y, y ∈ o.op.operands → ev S y = ev (stApp ops S x) y := by
        intro y hy
        cases y with
        | tmp t =>
          show S.slot t = (stApp ops S x).slot t
          rw [ex, app_slot _ _ _ hkx, if_neg fun e => a1 t e (looks_op hy)]
        | _ => rfl
      have hob : ∀ r, r ∈ rd → S.obj r = (stApp ops S x).obj r := fun r hr => by
        rw [ex, app_obj _ _ _ hkx, sets_obj]
        rw [htx]; exact fun h => (hq1 r h).1 hr
      have hgS : guardOn ops S o = some true := by
        rw [← k2]
        unfold guardOn
        split
        · rfl
        · rename_i j want hgd
          split
          · rfl
          · rename_i t hj
            have e1 : (stApp ops S x).slot t = S.slot t := by rw [ex, app_slot _ _ _ hkx, if_neg fun e => a1 t e (looks_guard hgd hj)]
            rw [e1]
      refine ⟨opW_congr k1 hev hob, hgS, fun e hk htw => ?_⟩
      have hxe : StepOk P ops (S.app o.dst e) x := by
        refine stepOk_congr (d := o.dst) (ks := kl) h (fun t ht => ?_) (fun o' ho' t ht => ?_) (fun r hr => ?_) ?_
        · rw [app_slotK, if_neg ht, hk]
        · rw [hix] at ho'; cases ho'; exact a3 t ht
        · rw [obj_kill (by rw [htw]; exact fun h => hq2 r h hr) (by rw [hk]; rcases hkl with h0 | ⟨l0, _, _, h0, _⟩; (rw [h0]; simp); exact h0 r hr), hk]
        · exact hkl.imp id fun ⟨l0, g1, g2, _⟩ => ⟨l0, g1, g2⟩
      refine .cons hxe ?_
      have e2 : stApp ops (S.app o.dst e) x = (stApp ops S x).app o.dst e := by
        rw [ex]
        simp only [stApp, hix, Option.bind_some]
        exact (app_comm S (by rw [hkx]; exact .nil _) (by rw [hk]; exact kokx) (fun t ht => a2 t ht) (fun q hq => by rw [htw]; rw [htx] at hq; exact (hq1 q hq).2)).symm
      rw [e2]
      exact k3 e hk htw
structure LeftT (ops : Array Oper) (cl : Nat → List Nat) (listed : Array Bool) (rem : List Nat) : Prop where
  size : listed.size = ops.size
  at_ : ∀ i, i < ops.size → (listed.getD i true = false ↔ i ∈ rem)
  lt : ∀ s ∈ rem, s < ops.size
  nodup : rem.Nodup
  closed : ∀ j, j < ops.size → j ∉ rem → ∀ k ∈ cl j, k ∉ rem
theorem least {l : List Nat} (h : l ≠ []) : ∃ m ∈ l, ∀ x ∈ l, m ≤ x := by
  induction l with
  | nil => exact absurd rfl h
  | cons a l ih =>
    by_cases hl : l = []
    · subst hl; exact ⟨a, by simp, by simp⟩
    · obtain ⟨m, hm, hx⟩ := ih hl
      rcases Nat.le_total a m with h1 | h1
      · exact ⟨a, by simp, fun x hx' => by rcases List.mem_cons.1 hx' with rfl | h2; exact Nat.le_refl _; exact Nat.le_trans h1 (hx x h2)⟩
      · exact ⟨m, by simp [hm], fun x hx' => by rcases List.mem_cons.1 hx' with rfl | h2; exact h1; exact hx x h2⟩
theorem LeftT.erase {listed : Array Bool} {pre post : List Nat} {i : Nat} (hL : LeftT ops cl listed (pre ++ i :: post)) (hno : ∀ k ∈ cl i, k ∉ pre ++ i :: post) : LeftT ops cl (listed.setIfInBounds i true) (pre ++ post) := by
  have hlt : i < ops.size := hL.lt i (by simp)
  have hnd := hL.nodup
  have hnot : i ∉ pre ++ post := by
    rw [List.nodup_append] at hnd
    obtain ⟨h1, h2, h3⟩ := hnd
    rw [List.nodup_cons] at h2
    intro hm
    rcases List.mem_append.1 hm with hm | hm
    · exact h3 i hm i (by simp) rfl
    · exact h2.1 hm
  have hmem : ∀ j, j ≠ i → (j ∈ pre ++ i :: post ↔ j ∈ pre ++ post) := by
    intro j hj
    simp only [List.mem_append, List.mem_cons]
    constructor
    · rintro (h | h | h)
      · exact .inl h
      · exact absurd h hj
      · exact .inr h
    · rintro (h | h)
      · exact .inl h
      · exact .inr (.inr h)
  have hsub : (pre ++ post).Sublist (pre ++ i :: post) := List.Sublist.append (List.Sublist.refl _) (List.sublist_cons_self _ _)
  refine ⟨by simp [hL.size], fun j hj => ?_, fun s hs => hL.lt s (hsub.mem hs), hnd.sublist hsub, fun j hj hjn k hk => ?_⟩
  · by_cases hji : j = i
    · subst hji
      constructor
      · intro h
        simp [Array.getD, hL.size, hlt] at h
      · intro h; exact absurd h hnot
    · rw [getD_set_ne true (Ne.symm hji), hL.at_ j hj, hmem j hji]
  · by_cases hji : j = i
    · subst hji
      exact fun h => hno k hk (hsub.mem h)
    · have h1 : j ∉ pre ++ i :: post := fun h => hjn ((hmem j hji).1 h)
      exact fun h => hL.closed j hj h1 k hk (hsub.mem h)
theorem draw_anyT (hin : dstsIn n ops = true) (hcl : clOk ops cl = true) {KS : St → Prop} : ∀ (fuel : Nat) (rem : List Stp) (r : List Nat) (full : List Stp) (listed : Array Bool) (S S1 : St) (C : Ctx) (B : Pl) (a : Act) (w : World),
    LeftT ops cl listed (rem.map (·.i) ++ r) → rem.length + r.length ≤ fuel → Can P ops S rem S1 → rem.Sublist full → Node P ops cl KS full S1 r → C.n = n → Rel C S B a w →
    ∀ (K : Exit → Act → World → Prop), (∀ Sf B a w, KS Sf → Rel C Sf B a w → K .normal a w) → wpAny P .any ops K fuel listed a w := by
  have hcl' : ∀ i o, ops[i]? = some o → (∀ e ∈ o.after.toList, Region.binds .any e = true → e.on < i) ∧ ∀ j ∈ cl i, ∃ e ∈ o.after.toList, Region.binds .any e = true ∧ (e.on = j ∨ j ∈ cl e.on) := by
    intro i o ho
    unfold clOk at hcl
    rw [List.all_eq_true] at hcl
    have hlt : i < ops.size := (Array.getElem?_eq_some_iff.1 ho).1
    have h := hcl i (List.mem_range.2 hlt)
    rw [ho] at h
    simp only [Bool.and_eq_true, List.all_eq_true, List.any_eq_true, Bool.or_eq_true, beq_iff_eq, List.contains_eq_mem, decide_eq_true_eq] at h
    refine ⟨fun e he hb => ?_, fun j hj => ?_⟩
    · rcases h.1 e he with h1 | h1
      · rw [hb] at h1; simp at h1
      · exact (by simpa using h1)
    · obtain ⟨e, he, h1, h2⟩ := h.2 j hj
      exact ⟨e, he, h1, h2⟩
  have empty : ∀ {rem : List Nat} {listed : Array Bool}, LeftT ops cl listed rem → Region.ready .any ops listed = [] → rem = [] := by
    intro rem listed hL hr
    rcases List.eq_nil_or_concat rem with h | _
    · exact h
    by_cases hne : rem = []
    · exact hne
    exfalso
    obtain ⟨m, hm, hmin⟩ := least hne
    have hlt := hL.lt m hm
    have hmr : m ∈ Region.ready .any ops listed := by
      refine ready_mem.2 ⟨hlt, (hL.at_ m hlt).2 hm, ops[m], Array.getElem?_eq_getElem hlt, fun e he hb => ?_⟩
      have hel := (hcl' m _ (Array.getElem?_eq_getElem hlt)).1 e he hb
      rw [getD_listed (d' := true) (by rw [hL.size]; omega)]
      cases hh : listed.getD e.on true with
      | true => rfl
      | false =>
        exfalso
        have := hmin _ ((hL.at_ e.on (by omega)).1 hh)
        omega
    rw [hr] at hmr; cases hmr
  intro fuel
  induction fuel with
  | zero =>
    intro rem r full listed S S1 C B a w hL hlen hcan hsub hnode hn hR K hK
    have hr1 : rem = [] := List.eq_nil_of_length_eq_zero (by omega)
    have hr2 : r = [] := List.eq_nil_of_length_eq_zero (by omega)
    subst hr1 hr2
    cases hcan
    cases hnode with
    | done hp h =>
      refine ⟨?_, hK S B a w h hR⟩
      cases hh : Region.ready .any ops listed with
      | nil => rfl
      | cons i l =>
        have := ready_mem.1 (show i ∈ Region.ready .any ops listed by rw [hh]; simp)
        have := (hL.at_ i this.1).1 this.2.1
        simp at this
  | succ fuel ih =>
    intro rem r full listed S S1 C B a w hL hlen hcan hsub hnode hn hR K hK
    refine ⟨fun hr => ?_, fun i hi => ?_⟩
    · have he := empty hL hr
      rw [List.append_eq_nil_iff] at he
      obtain ⟨h1, h2⟩ := he
      have h1 : rem = [] := by simpa using h1
      subst h1 h2
      cases hcan
      cases hnode with
      | done hp h => exact hK S B a w h hR
    · obtain ⟨hlt, hf, o, ho, haf⟩ := ready_mem.1 hi
      have hmem := (hL.at_ i hlt).1 hf
      have hno : ∀ k ∈ cl i, k ∉ rem.map (·.i) ++ r := by
        intro k hk
        obtain ⟨e, he, hb, h⟩ := (hcl' i o ho).2 k hk
        have hel := (hcl' i o ho).1 e he hb
        have hlst := haf e he hb
        rw [getD_listed (d' := true) (by rw [hL.size]; omega)] at hlst
        have hen : e.on ∉ rem.map (·.i) ++ r := fun hm => by
          have := (hL.at_ e.on (by omega)).2 hm
          rw [hlst] at this; cases this
        rcases h with rfl | h
        · exact hen
        · exact hL.closed e.on (by omega) hen k h
      have hdst := dstsIn_of hin ho
      have hgw : ∀ b, guardOn ops S o = some b → Region.wanted o (yielded ops a.tmps) = b := fun b hg => guard_wanted hR hg (fun j want t _ hj => by
        cases hjj : ops[j]? with
        | none => simp [hjj] at hj
        | some oj => simp [hjj] at hj; rw [hn]; exact dstsIn_of hin hjj t hj)
      rcases List.mem_append.1 hmem with hm | hm
      · obtain ⟨y, hy, rfl⟩ := List.mem_map.1 hm
        obtain ⟨pre, post, rfl⟩ := List.append_of_mem hy
        have hpw : (pre ++ y :: post).Pairwise fun x y => x.i ∈ cl y.i ∨ comm ops x y = true := by
          have : full.Pairwise fun x y => x.i ∈ cl y.i ∨ comm ops x y = true := by
            cases hnode with
            | done hp h => exact pairs_pw hp
            | rel hp _ _ _ _ _ _ _ _ _ => exact (pairs_pw hp).sublist (List.sublist_append_left _ _)
            | relk hp _ _ _ _ _ _ _ _ _ => exact (pairs_pw hp).sublist (List.sublist_append_left _ _)
          exact this.sublist hsub
        have hcm : ∀ x ∈ pre, comm ops x y = true := by
          intro x hx
          have := (List.pairwise_append.1 hpw).2.2 x hx y (by simp)
          rcases this with h | h
          · exact absurd (List.mem_append.2 (.inl (List.mem_map.2 ⟨x, by simp [hx], rfl⟩))) (hno x.i h)
          · exact h
        obtain ⟨hok, hcan'⟩ := bubble hcan hcm
        obtain ⟨o', ho', hg, hk, htw, hop⟩ := hok
        rw [ho] at ho'; cases ho'
        have hw := hgw _ hg
        have hL' : LeftT ops cl (listed.setIfInBounds y.i true) ((pre ++ post).map (·.i) ++ r) := by
          have e1 : (pre ++ y :: post).map (·.i) ++ r = pre.map (·.i) ++ y.i :: (post.map (·.i) ++ r) := by simp
          have e2 : (pre ++ post).map (·.i) ++ r = pre.map (·.i) ++ (post.map (·.i) ++ r) := by simp
          rw [e1] at hL hno
          rw [e2]
          exact hL.erase hno
        have hlen' : (pre ++ post).length + r.length ≤ fuel := by simp at hlen ⊢; omega
        have hst : stApp ops S y = S.app o.dst y.eff := by simp [stApp, ho]
        have hsub' : (pre ++ post).Sublist full := (List.Sublist.append (List.Sublist.refl _) (List.sublist_cons_self _ _)).trans hsub
        rw [hst] at hcan'
        unfold wpOp
        rw [ho]
        cases hye : y.e with
        | none =>
          rw [hye] at hw
          simp only [hw, Option.isSome_none, Bool.false_eq_true, if_false]
          have e : S.app o.dst y.eff = S.put o.dst (.tup []) := by simp [Stp.eff, hye, St.app, St.kill, St.sets]
          rw [e] at hcan'
          exact ih _ _ _ _ _ _ C B _ w hL' hlen' hcan' hsub' hnode hn (hR.put o.dst (.tup []) undef ⟨#[], rfl, trivial⟩ (fun t ht => by rw [hn]; exact hdst t ht)) K hK
        | some e =>
          rw [hye] at hw
          simp only [hw, Option.isSome_some, if_true]
          refine .inl (hop e hye S (fun _ _ => rfl) (fun _ _ => rfl) C B a w hR (fun t ht => by rw [hn]; exact hdst t ht) _ _ fun e' B' v w' hE hr => ?_)
          subst hE
          have ee : y.eff = e' := by simp [Stp.eff, hye]
          rw [ee] at hcan'
          exact ih _ _ _ _ _ _ C B' _ w' hL' hlen' hcan' hsub' hnode hn hr K hK
      · cases hnode with
        | done hp h => simp at hm
        | @rel _ _ i0 o0 rd tw E r0 hp ho0 hg0 hw0 hr0 lf rf sf hbk hbr =>
          have hi0 : i = i0 := by
            rcases List.mem_cons.1 hm with h | h
            · exact h
            · exact absurd (List.mem_append.2 (.inr (by simp))) (hno i0 (hr0 i h))
          subst hi0
          rw [ho] at ho0; cases ho0
          have hcm : ∀ s ∈ rem, comm ops s ⟨i, none, rd, tw, none⟩ = true := by
            intro s hs
            have := (List.pairwise_append.1 (pairs_pw hp)).2.2 s (hsub.mem hs) ⟨i, none, rd, tw, none⟩ (by simp)
            rcases this with h | h
            · exact absurd (List.mem_append.2 (.inl (List.mem_map.2 ⟨s, hs, rfl⟩))) (hno s.i h)
            · exact h
          obtain ⟨k1, k2, k3⟩ := relBubble ho hcan hcm hg0 hw0
          have hw := hgw _ k2
          unfold wpOp
          rw [ho]
          simp only [hw, if_true]
          refine .inl (k1 S (fun _ _ => rfl) (fun _ _ => rfl) C B a w hR (fun t ht => by rw [hn]; exact hdst t ht) _ _ fun e' B' v w' hE hr => ?_)
          obtain ⟨hk, htw, hre, hcl2⟩ := hbk e' hE
          have hnode' := hbr e' hE
          generalize lf e' = l at *
          generalize rf e' = r' at *
          generalize sf e' = Sf at *
          subst hre
          have hcan2 := k3 e' hk htw
          have app : ∀ {l1 l2 : List Stp} {A B C : St}, Can P ops A l1 B → Can P ops B l2 C → Can P ops A (l1 ++ l2) C := by
            intro l1
            induction l1 with
            | nil => intro l2 A B C h1 h2; cases h1; exact h2
            | cons x l1 ih => intro l2 A B C h1 h2; cases h1 with | cons h k => exact .cons h (ih k h2)
          have hL' : LeftT ops cl (listed.setIfInBounds i true) ((rem ++ l).map (·.i) ++ r') := by
            have e2 : (rem ++ l).map (·.i) ++ r' = rem.map (·.i) ++ (l.map (·.i) ++ r') := by simp
            rw [e2]
            exact hL.erase hno
          exact ih _ _ _ _ _ _ C B' _ w' hL' (by simp at hlen ⊢; omega) (app hcan2 hcl2) (List.Sublist.append (hsub.trans (List.sublist_append_left _ _)) (List.Sublist.refl _)) hnode' hn hr K hK
        | @relk _ _ i0 o0 rd tw kl E r0 hp ho0 hg0 hw0 hr0 lf rf sf hbk hbr =>
          have hi0 : i = i0 := by
            rcases List.mem_cons.1 hm with h | h
            · exact h
            · exact absurd (List.mem_append.2 (.inr (by simp))) (hno i0 (hr0 i h))
          subst hi0
          rw [ho] at ho0; cases ho0
          have hcm : ∀ s ∈ rem, comm ops s ⟨i, some { dst := .tup [], kills := kl }, rd, tw, none⟩ = true := by
            intro s hs
            have := (List.pairwise_append.1 (pairs_pw hp)).2.2 s (hsub.mem hs) ⟨i, some { dst := .tup [], kills := kl }, rd, tw, none⟩ (by simp)
            rcases this with h | h
            · exact absurd (List.mem_append.2 (.inl (List.mem_map.2 ⟨s, hs, rfl⟩))) (hno s.i h)
            · exact h
          obtain ⟨k1, k2, k3⟩ := relBubble2 ho hcan hcm hg0 hw0
          have hw := hgw _ k2
          unfold wpOp
          rw [ho]
          simp only [hw, if_true]
          refine .inl (k1 S (fun _ _ => rfl) (fun _ _ => rfl) C B a w hR (fun t ht => by rw [hn]; exact hdst t ht) _ _ fun e' B' v w' hE hr => ?_)
          obtain ⟨hk, htw, hre, hcl2⟩ := hbk e' hE
          have hnode' := hbr e' hE
          generalize lf e' = l at *
          generalize rf e' = r' at *
          generalize sf e' = Sf at *
          subst hre
          have hcan2 := k3 e' hk htw
          have app : ∀ {l1 l2 : List Stp} {A B C : St}, Can P ops A l1 B → Can P ops B l2 C → Can P ops A (l1 ++ l2) C := by
            intro l1
            induction l1 with
            | nil => intro l2 A B C h1 h2; cases h1; exact h2
            | cons x l1 ih => intro l2 A B C h1 h2; cases h1 with | cons h k => exact .cons h (ih k h2)
          have hL' : LeftT ops cl (listed.setIfInBounds i true) ((rem ++ l).map (·.i) ++ r') := by
            have e2 : (rem ++ l).map (·.i) ++ r' = rem.map (·.i) ++ (l.map (·.i) ++ r') := by simp
            rw [e2]
            exact hL.erase hno
          exact ih _ _ _ _ _ _ C B' _ w' hL' (by simp at hlen ⊢; omega) (app hcan2 hcl2) (List.Sublist.append (hsub.trans (List.sublist_append_left _ _)) (List.Sublist.refl _)) hnode' hn hr K hK
theorem nodup_le : ∀ {l l' : List Nat}, l.Nodup → (∀ x ∈ l, x ∈ l') → l.length ≤ l'.length
  | [], _, _, _ => Nat.zero_le _
  | a :: l, l', hn, hs => by
    have ha := hs a (by simp)
    have h1 : l.length ≤ (l'.erase a).length := nodup_le (List.nodup_cons.1 hn).2 fun x hx => by
      have hne : x ≠ a := fun e => (List.nodup_cons.1 hn).1 (e ▸ hx)
      exact (List.mem_erase_of_ne hne).2 (hs x (by simp [hx]))
    rw [List.length_erase_of_mem ha] at h1
    have := List.length_pos_of_mem ha
    simp; omega
def permB (n : Nat) (l : List Nat) : Bool := nodupB l && l.all (fun i => Nat.blt i n) && Nat.beq l.length n
theorem permB_ok {n : Nat} {l : List Nat} (h : permB n l = true) : l.Nodup ∧ (∀ i ∈ l, i < n) ∧ ∀ i, i < n → i ∈ l := by
  simp only [permB, Bool.and_eq_true, List.all_eq_true] at h
  obtain ⟨⟨h1, h2⟩, h3⟩ := h
  have hnd := nodupB_ok h1
  have hlt : ∀ i ∈ l, i < n := fun i hi => by simpa using h2 i hi
  refine ⟨hnd, hlt, fun i hi => ?_⟩
  have hl : l.length = n := Nat.eq_of_beq_eq_true h3
  by_cases hm : i ∈ l
  · exact hm
  · exfalso
    have hsub : ∀ x ∈ i :: l, x ∈ List.range n := by
      intro x hx
      rcases List.mem_cons.1 hx with rfl | hx
      · exact List.mem_range.2 hi
      · exact List.mem_range.2 (hlt x hx)
    have hnd2 : (i :: l).Nodup := List.nodup_cons.2 ⟨hm, hnd⟩
    have := nodup_le hnd2 hsub
    simp at this; omega
theorem vc_node {id : Nat} {Q : Post} (hm : P.follows .mixedOrders = true) (hin : dstsIn n ops = true) (hcl : clOk ops cl = true) {l : List Stp} {r : List Nat} {Sf : St} (hcan : Can P ops S l Sf) (hperm : permB ops.size (l.map (·.i) ++ r) = true)
    (hnode : Node P ops cl (fun S => Q .normal S) l Sf r) : VC P n (.region id ops true) S Q := by
  intro C B a w hn hR
  obtain ⟨p1, p2, p3⟩ := permB_ok hperm
  have hL : LeftT ops cl (Array.replicate ops.size false) (l.map (·.i) ++ r) := by
    refine ⟨by simp, fun i hi => ?_, p2, p1, fun j hj hjn => absurd (p3 j hj) hjn⟩
    simp [Array.getD, hi]
    simpa using p3 i hi
  have hlen : l.length + r.length ≤ ops.size := by
    simp only [permB, Bool.and_eq_true] at hperm
    have := Nat.eq_of_beq_eq_true hperm.2
    simp at this; omega
  have hR' : Rel C S B a { w with drawn := w.drawn + 1 } := hR.world rfl rfl rfl rfl
  exact wp_region_any hm (draw_anyT hin hcl ops.size l r l _ S Sf C B a _ hL hlen hcan (List.Sublist.refl _) hnode hn hR' (up C Q) fun Sf B a w hq hr => ⟨Sf, B, hq, hr⟩)
end
end Go.Vl

/- V-logic, part yc: slice expressions; calls of which one of many outcomes comes about; what was made is frozen on the way. -/
import Derived.Test.YtiaendjdmnpcdaaVyb
import Derived.Laws.DeepStrings4
import Derived.Laws.Strings3
import Derived.Laws.Slices
namespace Go.Vl
open Go Go.RowKit

section
variable {P : Program} {T : Tab} {S : St} {o : Oper}

/-- A bound of a slice expression. -/
def bnd (S : St) (x : Option Operand) (d n : Nat) : Prop := match x with
  | none => n = d
  | some X => ∃ k, ev S X = .one (.g (.int k n))

theorem bnd_none {d : Nat} : bnd S none d d := rfl
theorem bnd_some {X : Operand} {d n : Nat} {k : IntKind} (h : ev S X = .one (.g (.int k n))) : bnd S (some X) d n := ⟨k, h⟩
theorem bnd_ops {S S' : St} {x : Option Operand} {d n : Nat} (h : bnd S x d n) (he : ∀ X, x = some X → ev S' X = ev S X) : bnd S' x d n := by
  cases x with
  | none => exact h
  | some X => obtain ⟨k, hk⟩ := h; exact ⟨k, (he X rfl).trans hk⟩

theorem run_slice_bnd {C : Ctx} {B : Pl} {a : Act} {w : World} (hR : Rel C S B a w) {t : TypeId} {A : Option Addr} {len cap n1 n2 sz : Nat} {lo hi : Option Operand} (ht : P.underlying t = some (.slice (P.elem t))) (hs : (sizeOf (P.elem t)).run P w = .ok sz w)
    (h1 : bnd S lo 0 n1) (h2 : bnd S hi len n2) (h12 : n1 ≤ n2) (h3 : n2 ≤ len) (h4 : len ≤ cap) :
    (Instr.sliceAt t (.slice A len cap) (lo.map a.eval) (hi.map a.eval) none).run P w = .ok (sliced A n1 n2 cap sz) w := by
  rw [run_sliceAt_slice w t _ _ _ _ ht]
  cases lo with
  | none =>
    cases hi with
    | none =>
      have e1 : n1 = 0 := h1
      have e2 : n2 = len := h2
      subst e1 e2
      simp only [Option.map_none]
      rw [run_slice_all w t A n2 cap ht, hs]; rfl
    | some H =>
      have e1 : n1 = 0 := h1
      obtain ⟨k, hk⟩ := h2
      subst e1
      simp only [Option.map_none, Option.map_some, ev_g hR hk]
      rw [run_slice_h w t A len cap ht k n2 (by omega) (by omega), hs, Int.toNat_natCast]; rfl
  | some Lo =>
    obtain ⟨k, hk⟩ := h1
    cases hi with
    | none =>
      have e2 : n2 = len := h2
      subst e2
      simp only [Option.map_none, Option.map_some, ev_g hR hk]
      rw [run_slice_l w t A n2 cap ht k n1 (by omega) (by omega), hs, Int.toNat_natCast]; rfl
    | some H =>
      obtain ⟨k', hk'⟩ := h2
      simp only [Option.map_some, ev_g hR hk, ev_g hR hk']
      rw [run_slice_lh w t A len cap ht k k' n1 n2 (by omega) (by omega) (by omega), hs, Int.toNat_natCast, Int.toNat_natCast]; rfl

theorem und_elem {t e : TypeId} (h : P.underlying t = some (.slice e)) : P.underlying t = some (.slice (P.elem t)) ∧ P.elem t = e := by
  have : P.elem t = e := by simp [Program.elem, h]
  rw [this]; exact ⟨h, rfl⟩

theorem slice_opsI {t : TypeId} {X : Operand} {lo hi : Option Operand} (ho : o.op = .slice t X lo hi none) : X ∈ o.op.operands ∧ (∀ Y, lo = some Y → Y ∈ o.op.operands) ∧ (∀ Y, hi = some Y → Y ∈ o.op.operands) := by
  rw [ho]
  refine ⟨by simp [Op.operands], fun Y h => ?_, fun Y h => ?_⟩
  · subst h; simp [Op.operands]
  · subst h; simp [Op.operands]

theorem o_slice_imm (hT : TabOk P T) {t e : TypeId} {X : Operand} {lo hi : Option Operand} (ho : o.op = .slice t X lo hi none) {i j : TI} (hi0 : T t = some i) (hd0 : i.d = .sl e) (hj : T e = some j) {sz : Nat} {rows rows' : List (List Leaf)}
    (hX : ev S X = .one (.imm sz rows)) (hsz : j.size = sz) {n1 n2 : Nat} (h1 : bnd S lo 0 n1) (h2 : bnd S hi rows.length n2) (h12 : n1 ≤ n2) (h3 : n2 ≤ rows.length) (hr : (rows.drop n1).take (n2 - n1) = rows') :
    OpL P S o { dst := .one (.imm sz rows') } := by
  intro S' k1 k2 k3 C B a w hR hd
  obtain ⟨m1, m2, m3⟩ := slice_opsI ho
  have hX' := (k1 X m1).trans hX
  have h1' := bnd_ops h1 fun Y hY => k1 Y (m2 Y hY)
  have h2' := bnd_ops h2 fun Y hY => k1 Y (m3 Y hY)
  have hx : RepL w (dep C.din S' B) (.imm sz rows) (a.eval X) := ev_one hR hX'
  rw [RepL.eq_2] at hx
  obtain ⟨A, c, hv, hlc, hcm, hrr⟩ := hx
  obtain ⟨hu, he⟩ := und_elem (und_sl hT hi0 hd0)
  have hrun := run_slice_bnd (A := A) (cap := c) hR hu (by rw [he]; exact hT.size hj w) h1' h2' h12 h3 hlc
  refine good_val hR (rd := []) (p := True) hd (v := sliced A n1 n2 c j.size) (by simp [execOp, ho, hv, hrun]) ?_
  show RepL w _ (.imm sz rows') _
  subst hr
  rw [RepL.eq_2]
  have hl : ((rows.drop n1).take (n2 - n1)).length = n2 - n1 := by simp; omega
  refine ⟨_, c - n1, by rw [hl]; rfl, by omega, by omega, ?_⟩
  rcases hrr with rfl | ⟨ad, rfl, hdp, hlt, hrs⟩
  · left; simp
  · rcases Nat.eq_or_lt_of_le h12 with e12 | l12
    · left; subst e12; simp
    · right
      have hne : c ≠ n1 := by omega
      refine ⟨ad.add (n1 * sz), by simp [hne, hsz], by rw [add_block]; exact hdp, by rw [add_block]; exact hlt, RepRs_of fun y r hy => ?_⟩
      rw [List.getElem?_take] at hy
      split at hy
      · rw [List.getElem?_drop] at hy
        have hg := RepRs_get hrs _ _ hy
        refine ⟨hg.1, RepR_of fun z l hz => ?_⟩
        obtain ⟨x, hx, hxr⟩ := RepR_get hg.2 z l hz
        refine ⟨x, ?_, hxr⟩
        rw [add_add']
        rw [show n1 * sz + (0 + y * sz + z) = 0 + (n1 + y) * sz + z by rw [Nat.add_mul]; omega]
        exact hx
      · cases hy

theorem o_slice_own (hT : TabOk P T) {t e : TypeId} {X : Operand} {lo hi : Option Operand} (ho : o.op = .slice t X lo hi none) {i j : TI} (hi0 : T t = some i) (hd0 : i.d = .sl e) (hj : T e = some j) {q off len E sz : Nat} {rows : List (List Leaf)}
    (hX : ev S X = .one (.own q off len)) (hq : S.obj q = some (.arr E sz rows)) (hsz : j.size = sz) {n1 n2 : Nat} (h1 : bnd S lo 0 n1) (h2 : bnd S hi len n2) (h12 : n1 ≤ n2) (h3 : n2 ≤ len) :
    OpL P S o { dst := .one (.own q (off + n1) (n2 - n1)), reads := [q] } := by
  intro S' k1 k2 k3 C B a w hR hd
  obtain ⟨m1, m2, m3⟩ := slice_opsI ho
  have hX' := (k1 X m1).trans hX
  have hq' := (k2 q (by simp)).trans hq
  have h1' := bnd_ops h1 fun Y hY => k1 Y (m2 Y hY)
  have h2' := bnd_ops h2 fun Y hY => k1 Y (m3 Y hY)
  obtain ⟨E', sz', rows', A, c, hq2, hlen, hv, hlc, hcm, hc⟩ := ev_one hR hX'
  rw [hq'] at hq2; cases hq2
  obtain ⟨hu, he⟩ := und_elem (und_sl hT hi0 hd0)
  have hrun := run_slice_bnd (A := A) (cap := c) hR hu (by rw [he]; exact hT.size hj w) h1' h2' h12 h3 hlc
  refine good_val hR (rd := [q]) (p := True) hd (v := sliced A n1 n2 c j.size) (by simp [execOp, ho, hv, hrun]) ?_
  refine ⟨E, sz, rows, _, c - n1, hq', by omega, rfl, by omega, by omega, ?_⟩
  rcases hc with rfl | ⟨b, n, hb, rfl, hroom⟩
  · left; omega
  · by_cases hne : c = n1
    · left; omega
    · right
      refine ⟨b, n, hb, by simp [hne, hsz, add_mk, Nat.add_mul], ?_⟩
      rw [show off + n1 + (c - n1) = off + c by omega]; exact hroom

theorem o_slice_nil (hT : TabOk P T) {t e : TypeId} {X : Operand} {lo hi : Option Operand} (ho : o.op = .slice t X lo hi none) {i j : TI} (hi0 : T t = some i) (hd0 : i.d = .sl e) (hj : T e = some j)
    (hX : ev S X = .one (.g (.slice none 0 0))) (h1 : bnd S lo 0 0) (h2 : bnd S hi 0 0) : OpL P S o { dst := .one (.g (.slice none 0 0)) } := by
  intro S' k1 k2 k3 C B a w hR hd
  obtain ⟨m1, m2, m3⟩ := slice_opsI ho
  have hX' := (k1 X m1).trans hX
  have h1' := bnd_ops h1 fun Y hY => k1 Y (m2 Y hY)
  have h2' := bnd_ops h2 fun Y hY => k1 Y (m3 Y hY)
  obtain ⟨hu, he⟩ := und_elem (und_sl hT hi0 hd0)
  have hrun := run_slice_bnd (A := none) (cap := 0) hR hu (by rw [he]; exact hT.size hj w) h1' h2' (Nat.le_refl _) (Nat.le_refl _) (Nat.le_refl _)
  have hv := ev_g hR hX'
  exact good_val hR (rd := []) (p := True) hd (v := .slice none 0 0) (by simp [execOp, ho, hv, hrun, sliced]) (srepG rfl)

theorem o_slice_str (hT : TabOk P T) {t : TypeId} {X : Operand} {lo hi : Option Operand} (ho : o.op = .slice t X lo hi none) {i : TI} (hi0 : T t = some i) (hd0 : i.d = .str) {s : ByteArray}
    (hX : ev S X = .one (.g (.string s))) {n1 n2 : Nat} (h1 : bnd S lo 0 n1) (h2 : bnd S hi s.size n2) (h12 : n1 ≤ n2) (h3 : n2 ≤ s.size) : OpL P S o { dst := .one (.g (.string (s.extract n1 n2))) } := by
  intro S' k1 k2 k3 C B a w hR hd
  obtain ⟨m1, m2, m3⟩ := slice_opsI ho
  have hX' := (k1 X m1).trans hX
  have h1' := bnd_ops h1 fun Y hY => k1 Y (m2 Y hY)
  have h2' := bnd_ops h2 fun Y hY => k1 Y (m3 Y hY)
  have hu := und_str hT hi0 hd0
  have hv := ev_g hR hX'
  refine good_val hR (rd := []) (p := True) hd (v := .string (s.extract n1 n2)) ?_ (srepG rfl)
  have hrun : (Instr.sliceAt t (.string s) (lo.map a.eval) (hi.map a.eval) none).run P w = .ok (.string (s.extract n1 n2)) w := by
    rw [run_sliceAt_string w t _ _ _ _ hu]
    cases lo with
    | none =>
      have e1 : n1 = 0 := h1'
      subst e1
      cases hi with
      | none =>
        have e2 : n2 = s.size := h2'
        subst e2
        simp [Instr.slice, Instr.sliceBounds, Instr.sliceBound, run_underlying hu]
      | some H =>
        obtain ⟨k, hk⟩ := h2'
        simp [Instr.slice, Instr.sliceBounds, Instr.sliceBound, asIntOf, run_underlying hu, ev_g hR hk, h3]
    | some Lo =>
      obtain ⟨k, hk⟩ := h1'
      cases hi with
      | none =>
        have e2 : n2 = s.size := h2'
        subst e2
        simp [Instr.slice, Instr.sliceBounds, Instr.sliceBound, asIntOf, run_underlying hu, ev_g hR hk, h12]
      | some H =>
        obtain ⟨k', hk'⟩ := h2'
        simp only [Option.map_some, ev_g hR hk, ev_g hR hk']
        rw [run_slice_string_if w t s k k' n1 n2 hu, if_pos (by omega), if_pos (by omega), Int.toNat_natCast, Int.toNat_natCast]
  simp [execOp, ho, hv, hrun]

-- calls of which one of many outcomes comes about
def relQ {α : Type} (C : α → Prop) (s : α → Slot) (outs : α → List (Option Ob)) (news : α → List Ob) : Slot → List (Option Ob) → List Ob → Prop :=
  fun s' o' n' => ∃ y, C y ∧ s' = s y ∧ o' = outs y ∧ n' = news y

theorem o_relN {α : Type} {C : α → Prop} {s : α → Slot} {outs : α → List (Option Ob)} {news : α → List Ob} {F : Operand} {Xs : Array Operand} {ats : Array TypeId} {f : FuncId} {os : List Nat} {args : List Slot} {objs : List Ob} (h : CallsV P f args objs (relQ C s outs news))
    (g : Bool) (ids : List Nat) (hg : ∀ y, C y → (news y).length ≤ 4 ∧ (g = true → GrS (s y) ∧ (∀ ob, some ob ∈ outs y → GrO ob) ∧ ∀ ob ∈ news y, GrO ob))
    {d : Nat} (_ : o.dst = some d) (ho : o.op = .call { callee := .value F, args := Xs, argTypes := ats }) (hF : ev S F = .one (.clo f os)) {obs : List Ob} (hids : ids.mapM S.obj = some obs) (hnd : nodupB ids = true)
    (hfree : S.obj (1000 + 4 * d) = none ∧ S.obj (1000 + 4 * d + 1) = none ∧ S.obj (1000 + 4 * d + 2) = none ∧ S.obj (1000 + 4 * d + 3) = none)
    (hargs : (Xs.toList.map (ev S) ++ os.map fun q => Slot.one (.ptr q 0)).map (vS g S ids) = args) (hobjs : obs.map (vO g S ids) = objs) :
    OpW P S o ([1000 + 4 * d, 1000 + 4 * d + 1, 1000 + 4 * d + 2, 1000 + 4 * d + 3] ++ (ids ++ (Xs.toList.map (ev S) ++ os.map fun q => Slot.one (.ptr q 0)).flatMap refsS ++ obs.flatMap refsO))
      (fun e => ∃ y, C y ∧ e = cEff ids (1000 + 4 * d) (s y) (outs y) (news y)) := by
  have := o_call (S := S) ho hF g ids hids (nodupB_ok hnd) (1000 + 4 * d) (by omega) hfree hargs hobjs h
    (fun s' outs' news' hp => by obtain ⟨y, hy, rfl, rfl, rfl⟩ := hp; exact hg y hy)
  intro S' k1 k2 C' B a w hR hd next Q hk
  refine this S' k1 k2 C' B a w hR hd next Q fun e B' v w' hE hr => hk e B' v w' ?_ hr
  obtain ⟨s', outs', news', ⟨y, hy, rfl, rfl, rfl⟩, _, rfl⟩ := hE
  exact ⟨y, hy, rfl⟩

variable {n : Nat} {ops : Array Oper}
theorem VR.rel (hT : TabOk P T) (hin : dstsIn n ops = true) {i : Nat} {rest : List Oper} {L : LS} {K : LS → Prop} (hg : guardOn ops L.st o = some true) {rd : List Nat} {α : Type} {C : α → Prop} {E : α → Eff} (he : OpW P L.st o rd (fun e => ∃ y, C y ∧ e = E y))
    (h : ∀ y, C y → killK L (E y).kills fun L => putK L (E y).sets o.dst (E y).dst fun L => runK T ops.toList (fun i l L => VR P n ops i l L K) K rest (i + 1) L) : VR P n ops i (o :: rest) L K :=
  VR.opw hT hin hg he fun e' hE => by obtain ⟨y, hy, rfl⟩ := hE; exact h y hy

/-- An end of which one of many outcomes has come about. -/
theorem endR {α : Type} {C : α → Prop} {s : α → Slot} {outs : α → List (Option Ob)} {news : α → List Ob} {fn : Func} {k : Nat} {L : LS} (nids : List Nat) (y : α) {ss : List Slot} {s0 : Slot} {obs : List Ob}
    (h1 : fn.results.toList.mapM (resSlot T L.st) = some ss) (h2 : resAll ss = some s0) (h3 : (List.range k ++ nids).mapM L.st.obj = some obs) (h4 : nodupB (List.range k ++ nids) = true) (h5 : (nids.all fun i => Nat.ble k i) = true)
    (h6 : LeS (vS true L.st (List.range k ++ nids) s0) (s y)) (h7 : ((obs.take k).map fun ob => some (vO true L.st (List.range k ++ nids) ob)) = outs y) (h8 : ((obs.drop k).map (vO true L.st (List.range k ++ nids))) = news y) (hC : C y) : EndV T fn k L (relQ C s outs news) :=
  ⟨ss, s0, s y, nids, obs, h1, h2, h3, h4, h5, h6, y, hC, rfl, h7, h8⟩
/-- An end whose outcome is known. -/
theorem endW {s : Slot} {outs : List (Option Ob)} {news : List Ob} {fn : Func} {k : Nat} {L : LS} (nids : List Nat) {ss : List Slot} {s0 : Slot} {obs : List Ob}
    (h1 : fn.results.toList.mapM (resSlot T L.st) = some ss) (h2 : resAll ss = some s0) (h3 : (List.range k ++ nids).mapM L.st.obj = some obs) (h4 : nodupB (List.range k ++ nids) = true) (h5 : (nids.all fun i => Nat.ble k i) = true)
    (h6 : LeS (vS true L.st (List.range k ++ nids) s0) s) (h7 : ((obs.take k).map fun ob => some (vO true L.st (List.range k ++ nids) ob)) = outs) (h8 : ((obs.drop k).map (vO true L.st (List.range k ++ nids))) = news) : EndV T fn k L (funQ s outs news) :=
  ⟨ss, s0, s, nids, obs, h1, h2, h3, h4, h5, h6, rfl, h7, h8⟩
end
end Go.Vl

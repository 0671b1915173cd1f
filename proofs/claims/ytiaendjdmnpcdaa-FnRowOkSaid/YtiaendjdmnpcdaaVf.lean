/- V-logic, part f: rules for single operations, in local form. -/
import Derived.Test.YtiaendjdmnpcdaaVe
namespace Go.Vl
open Go Go.RowKit

/-- From state S (or any that agrees with it where the operation looks) the operation has effect e. -/
def OpL (P : Program) (S : St) (o : Oper) (e : Eff) : Prop :=
  ∀ S' : St, (∀ x, x ∈ o.op.operands → ev S' x = ev S x) → (∀ r, r ∈ e.reads → S'.obj r = S.obj r) → (∀ r, r ∈ e.sets.map (·.1) → S'.obj r = S.obj r) →
    ∀ C B a w, Rel C S' B a w → (∀ x, o.dst = some x → x < C.n) → Good P C S' a w o e

section
variable {P : Program} {T : Tab} {S : St} {o : Oper}

theorem aBin_one {op : BinOp} {x y v : Value} {p : Prop} (h : aBin op x y = some (p, v)) : v.oneCell' = true := by
  unfold aBin at h
  split at h <;> (try (split at h)) <;> first
    | (simp only [Option.some.injEq, Prod.mk.injEq] at h; obtain ⟨rfl, rfl⟩ := h; rfl)
    | (exact absurd h (by simp))

theorem o_move {X : Operand} (ho : o.op = .move X ∨ o.op = .assign X) {s : Slot} (hX : ev S X = s) : OpL P S o { dst := s } := by
  intro S' h1 h2 h3 C B a w hR hd
  have hx : ev S' X = s := by
    rw [h1 X (by rcases ho with h | h <;> simp [h, Op.operands]), hX]
  refine good_val hR (rd := []) (p := True) hd (v := a.eval X) ?_ (by rw [← hx]; exact ev_rep hR X)
  rcases ho with h | h <;> simp [execOp, h]

theorem o_pick {c x y : Operand} (ho : o.op = .pick c x y) {b : Bool} (hc : ev S c = .one (.g (.bool b))) {s : Slot} (hs : ev S (if b then x else y) = s) : OpL P S o { dst := s } := by
  intro S' h1 h2 h3 C B a w hR hd
  have hc' : ev S' c = .one (.g (.bool b)) := by rw [h1 c (by simp [ho, Op.operands]), hc]
  have hs' : ev S' (if b then x else y) = s := by
    rw [h1 _ (by cases b <;> simp [ho, Op.operands]), hs]
  have hcv := ev_g hR hc'
  refine good_val hR (rd := []) (p := True) hd (v := a.eval (if b then x else y)) ?_ (by rw [← hs']; exact ev_rep hR _)
  cases b <;> simp [execOp, ho, hcv, asBool]

theorem o_bin {op : BinOp} {t ty : TypeId} {X Y : Operand} (ho : o.op = .binOp op t X Y ty) {x y v : Value} {p : Prop} (hX : ev S X = .one (.g x)) (hY : ev S Y = .one (.g y))
    (hb : aBin op x y = some (p, v)) (hp : p) : OpL P S o { dst := .one (.g v) } := by
  intro S' h1 h2 h3 C B a w hR hd
  have hX' := (h1 X (by simp [ho, Op.operands])).trans hX
  have hY' := (h1 Y (by simp [ho, Op.operands])).trans hY
  have hx := ev_g hR hX'
  have hy := ev_g hR hY'
  refine good_val hR (rd := []) (p := True) hd (v := v) ?_ (srepG (aBin_one hb))
  simp [execOp, ho, hx, hy, aBin_guard hb, aBin_run hb hp]

theorem o_not {t : TypeId} {X : Operand} (ho : o.op = .unOp .not t X) {b : Bool} (hX : ev S X = .one (.g (.bool b))) : OpL P S o { dst := .one (.g (.bool !b)) } := by
  intro S' h1 h2 h3 C B a w hR hd
  have hX' := (h1 X (by simp [ho, Op.operands])).trans hX
  have hx := ev_g hR hX'
  exact good_val hR (rd := []) (p := True) hd (v := .bool !b) (by simp [execOp, ho, hx, Op.unary]) (srepG rfl)
theorem o_neg {t : TypeId} {X : Operand} (ho : o.op = .unOp .neg t X) {k : IntKind} {n : Int} (hX : ev S X = .one (.g (.int k n))) : OpL P S o { dst := .one (.g (.int k (k.wrap (0 - n)))) } := by
  intro S' h1 h2 h3 C B a w hR hd
  have hX' := (h1 X (by simp [ho, Op.operands])).trans hX
  have hx := ev_g hR hX'
  exact good_val hR (rd := []) (p := True) hd (v := .int k (k.wrap (0 - n))) (by simp [execOp, ho, hx, Op.unary, Op.intArith]) (srepG rfl)

theorem und_of {t : TypeId} {d : TD} {i : TI} (hT : TabOk P T) (h : T t = some i) (hd : i.d = d) : ∃ u, P.underlying t = some u ∧ dOf u = d := by
  obtain ⟨u, h1, h2⟩ := hT.undAt h; exact ⟨u, h1, h2.trans hd⟩
theorem und_int {t : TypeId} {k : IntKind} {i : TI} (hT : TabOk P T) (h : T t = some i) (hd : i.d = .int k) : P.underlying t = some (.int k) := by
  obtain ⟨u, h1, h2⟩ := und_of hT h hd
  cases u <;> simp [dOf] at h2; rw [h1, h2]
theorem und_str {t : TypeId} {i : TI} (hT : TabOk P T) (h : T t = some i) (hd : i.d = .str) : P.underlying t = some .string := by
  obtain ⟨u, h1, h2⟩ := und_of hT h hd
  cases u <;> simp [dOf] at h2; rw [h1]
theorem und_bool {t : TypeId} {i : TI} (hT : TabOk P T) (h : T t = some i) (hd : i.d = .bool) : P.underlying t = some .bool := by
  obtain ⟨u, h1, h2⟩ := und_of hT h hd
  cases u <;> simp [dOf] at h2; rw [h1]
theorem und_sl {t e : TypeId} {i : TI} (hT : TabOk P T) (h : T t = some i) (hd : i.d = .sl e) : P.underlying t = some (.slice e) := by
  obtain ⟨u, h1, h2⟩ := und_of hT h hd
  cases u <;> simp [dOf] at h2; rw [h1, h2]
theorem und_map {t k e : TypeId} {i : TI} (hT : TabOk P T) (h : T t = some i) (hd : i.d = .map k e) : P.underlying t = some (.map k e) := by
  obtain ⟨u, h1, h2⟩ := und_of hT h hd
  cases u <;> simp [dOf] at h2; rw [h1, h2.1, h2.2]
theorem und_st {t : TypeId} {fs : List (Nat × TypeId)} {i : TI} (hT : TabOk P T) (h : T t = some i) (hd : i.d = .st fs) : ∃ fields, P.underlying t = some (.struct fields) ∧ fields.toList.map (fun f => (f.offset, f.type)) = fs := by
  obtain ⟨u, h1, h2⟩ := und_of hT h hd
  cases u <;> simp [dOf] at h2; exact ⟨_, h1, by simpa using h2⟩

theorem o_conv_int {s t : TypeId} {X : Operand} (hT : TabOk P T) (ho : o.op = .convert s t X) {i j : TI} {k k' : IntKind} {n : Int} (hs : T s = some i) (hsd : i.d = .int k') (ht : T t = some j) (htd : j.d = .int k)
    (hX : ev S X = .one (.g (.int k' n))) : OpL P S o { dst := .one (.g (.int k (k.wrap n))) } := by
  intro S' h1 h2 h3 C B a w hR hd
  have hX' := (h1 X (by simp [ho, Op.operands])).trans hX
  have hx := ev_g hR hX'
  refine good_val hR (rd := []) (p := True) hd (v := .int k (k.wrap n)) ?_ (srepG rfl)
  simp [execOp, ho, hx, convert, run_underlying (und_int hT hs hsd), run_underlying (und_int hT ht htd), Conv.intToInt]

theorem o_func {f : FuncId} {cap : Array Operand} (ho : o.op = .makeFunc (.func f) #[] cap) {os : List Nat} (hc : cap.toList.map (ev S) = os.map fun q => .one (.ptr q 0)) : OpL P S o { dst := .one (.clo f os) } := by
  intro S' h1 h2 h3 C B a w hR hd
  have hc' : cap.toList.map (ev S') = os.map fun q => .one (.ptr q 0) := by
    rw [← hc]; exact List.map_congr_left fun x hx => h1 x (by simp [ho, Op.operands]; exact Array.mem_toList_iff.1 hx)
  refine good_val hR (rd := []) (p := True) hd (v := .func (.func f) #[] (cap.map a.eval)) (by simp [execOp, ho, Instr.makeFunc]) ⟨_, rfl, ?_⟩
  have key : ∀ (xs : List Operand) (os : List Nat), xs.map (ev S') = os.map (fun q => Slot.one (.ptr q 0)) →
      All2 (fun q x => ∃ b n ls, S'.obj q = some (.box ls) ∧ B q = some (b, n) ∧ x = .pointer (some ⟨b, 0, none⟩)) os (xs.map a.eval) := by
    intro xs
    induction xs with
    | nil => intro os h; cases os with | nil => trivial | cons => simp at h
    | cons x xs ih =>
      intro os h
      cases os with
      | nil => simp at h
      | cons q os =>
        simp at h
        exact ⟨ev_one hR h.1, ih os (by simpa using h.2)⟩
  simpa using key cap.toList os hc'

theorem o_extract {X : Operand} {k : Nat} (ho : o.op = .extract X k) {xs : List (Bool × List Leaf)} (hX : ev S X = .tup xs) {s : Slot}
    (hk : match xs[k]? with | some (true, ls) => s = .agg ls | some (false, [l]) => s = .one l | _ => False) : OpL P S o { dst := s } := by
  intro S' h1 h2 h3 C B a w hR hd
  have hX' := (h1 X (by simp [ho, Op.operands])).trans hX
  have hr := ev_rep hR X
  rw [hX'] at hr
  obtain ⟨vs, hv, ha⟩ := hr
  cases hx : xs[k]? with
  | none => simp [hx] at hk
  | some x =>
    obtain ⟨u, hu, hxu⟩ := ha.get k x hx
    have hu' : vs[k]? = some u := by simpa using hu
    refine good_val hR (rd := []) (p := True) hd (v := u) (by simp [execOp, ho, hv, Instr.extract, hu']) ?_
    obtain ⟨b, ls⟩ := x
    rw [hx] at hk
    rcases hxu with ⟨h1, cs, rfl, hc⟩ | ⟨h1, l, h2, hl⟩
    · simp at h1; subst h1; simp at hk; subst hk; exact ⟨cs, rfl, hc⟩
    · simp at h1 h2; subst h1; subst h2; simp at hk; subst hk; exact hl
end
end Go.Vl

/- V-logic, part e: operations that compute, read, make a variable. -/
import Derived.Test.YtdijjjgplhbkkaaGreatDoorWa
import Derived.Laws.Concat
import Derived.Laws.Strings
import Derived.Laws.StructEq
import Derived.Laws.Entries
import Derived.Laws.MakeOwn
set_option linter.unusedSimpArgs false
set_option linter.unusedVariables false
set_option linter.unnecessarySimpa false
namespace Go.Vl
open Go Go.RowKit
def cSlot : Value → Slot
  | .agg cs => if cs.toList.all (·.oneCell') then .agg (cs.toList.map .g) else .bad
  | .tuple _ => .bad
  | v => .one (.g v)
def ev (S : St) : Operand → Slot
  | .tmp t => S.slot t
  | .const v => cSlot v
  | .func f => .one (.clo f [])
  | .global _ => .bad
def Good (P : Program) (C : Ctx) (S : St) (a : Act) (w : World) (o : Oper) (e : Eff) : Prop :=
  ∃ nx v w' B', (execOp a.eval o).run P w = .ok nx w' ∧ (nx = .value v ∨ (nx = .skip ∧ v = undef)) ∧ Rel C (S.app o.dst e) B' (a.put o.dst v) w'
section
variable {P : Program} {T : Tab} {C : Ctx} {S : St} {B : Pl} {a : Act} {w : World}
theorem repG {x : Value} (h : x.oneCell' = true) : LRep w C.din S B (.g x) x := by
  show RepL w (dep C.din S B) (.g x) x
  rw [RepL.eq_1]; exact ⟨rfl, h⟩
theorem srepG {x : Value} (h : x.oneCell' = true) : SRep (LRep w C.din S B) (.one (.g x)) x := by
  show LRep w C.din S B (.g x) x
  exact repG h
theorem repG_eq {x v : Value} (h : LRep w C.din S B (.g x) v) : v = x := by
  have h : RepL w (dep C.din S B) (.g x) v := h
  rw [RepL.eq_1] at h; exact h.1
theorem all2_g : ∀ (l : List Value), l.all (·.oneCell') = true → All2 (LRep w C.din S B) (l.map .g) l
  | [], _ => trivial
  | v :: l, h => by simp at h; exact ⟨repG h.1, all2_g l (by simpa using h.2)⟩
theorem ev_rep (hR : Rel C S B a w) (x : Operand) : SRep (LRep w C.din S B) (ev S x) (a.eval x) := by
  cases x with
  | tmp t => exact hR.slots t
  | const v =>
    show SRep _ (cSlot v) v
    cases v with
    | agg cs =>
      by_cases h : cs.toList.all (·.oneCell') = true
      · have e : cSlot (.agg cs) = .agg (cs.toList.map .g) := if_pos h
        rw [e]; exact ⟨cs, rfl, all2_g _ h⟩
      · have e : cSlot (.agg cs) = .bad := if_neg h
        rw [e]; trivial
    | tuple vs => trivial
    | _ => show LRep w C.din S B (.g _) _; exact repG rfl
  | func f => exact ⟨#[], rfl, trivial⟩
  | global g => trivial
theorem ev_one (hR : Rel C S B a w) {x : Operand} {l : Leaf} (h : ev S x = .one l) : LRep w C.din S B l (a.eval x) := by
  have := ev_rep hR x; rw [h] at this; exact this
theorem ev_g (hR : Rel C S B a w) {x : Operand} {v : Value} (h : ev S x = .one (.g v)) : a.eval x = v := repG_eq (ev_one hR h)
theorem ev_agg (hR : Rel C S B a w) {x : Operand} {ls : List Leaf} (h : ev S x = .agg ls) : ∃ vs, a.eval x = .agg vs ∧ All2 (LRep w C.din S B) ls vs.toList := by
  have := ev_rep hR x; rw [h] at this; exact this
theorem app_pure (d : Option Nat) (s : Slot) (p : Prop) (rd : List Nat) : S.app d { dst := s, cond := p, reads := rd } = S.put d s := rfl
theorem good_val (hR : Rel C S B a w) {o : Oper} {v : Value} {s : Slot} {p : Prop} {rd : List Nat} (hd : ∀ x, o.dst = some x → x < C.n)
    (hrun : (execOp a.eval o).run P w = .ok (.value v) w) (hs : SRep (LRep w C.din S B) s v) : Good P C S a w o { dst := s, cond := p, reads := rd } :=
  ⟨_, v, w, B, hrun, .inl rfl, by rw [app_pure]; exact hR.put _ _ _ hs hd⟩
def aBin : BinOp → Value → Value → Option (Prop × Value)
  | .add, .int k x, .int k' y => if k = k' then some (True, .int k (k.wrap (x + y))) else none
  | .sub, .int k x, .int k' y => if k = k' then some (True, .int k (k.wrap (x - y))) else none
  | .mul, .int k x, .int k' y => if k = k' then some (True, .int k (k.wrap (x * y))) else none
  | .quo, .int k x, .int k' y => if k = k' then some (y ≠ 0, .int k (k.wrap (x.tdiv y))) else none
  | .rem, .int k x, .int k' y => if k = k' then some (y ≠ 0, .int k (x.tmod y)) else none
  | .eql, .int k x, .int k' y => if k = k' then some (True, .bool (x == y)) else none
  | .neq, .int k x, .int k' y => if k = k' then some (True, .bool (x != y)) else none
  | .lss, .int k x, .int k' y => if k = k' then some (True, .bool (x < y)) else none
  | .leq, .int k x, .int k' y => if k = k' then some (True, .bool (x ≤ y)) else none
  | .gtr, .int k x, .int k' y => if k = k' then some (True, .bool (x > y)) else none
  | .geq, .int k x, .int k' y => if k = k' then some (True, .bool (x ≥ y)) else none
  | .xor, .int k x, .int k' y => if k = k' then some (True, .int k (bits .xor k x y)) else none
  | .and, .int k x, .int k' y => if k = k' then some (True, .int k (bits .and k x y)) else none
  | .add, .string x, .string y => some (x.size + y.size ≤ 9223372036854775807, .string (x ++ y))
  | .eql, .string x, .string y => some (True, .bool (x.toList == y.toList))
  | .neq, .string x, .string y => some (True, .bool !(x.toList == y.toList))
  | .lss, .string x, .string y => some (True, .bool (Op.bytesLess x.toList y.toList))
  | _, _, _ => none
theorem aBin_run {op : BinOp} {x y v : Value} {p : Prop} (h : aBin op x y = some (p, v)) (hp : p) (t : TypeId) (w : World) : (binOp op t x y).run P w = .ok v w := by
  unfold aBin at h
  split at h <;> (try (split at h)) <;> first
    | (simp only [Option.some.injEq, Prod.mk.injEq] at h; obtain ⟨rfl, rfl⟩ := h)
    | (exact absurd h (by simp))
  all_goals (try subst_vars)
  all_goals first
    | (simp [binOp, Op.intArith]; done)
    | (simp [binOp, Op.intDiv, hp]; done)
    | (simp [binOp, Op.intCmp]; done)
    | (simp [binOp, Op.intBits, bits]; done)
    | (rw [binOp_string_add, run_string_add_if, if_neg (by omega)])
    | (simp [binOp, Op.stringOp]; done)
theorem aBin_guard {op : BinOp} {x y v : Value} {p : Prop} (h : aBin op x y = some (p, v)) (t : TypeId) (X Y : Operand) (w : World) : (eqGuard op t X Y x y).run P w = .ok () w := by
  unfold aBin at h
  split at h <;> simp [eqGuard]
  all_goals (exact absurd h (by simp))
end
end Go.Vl
namespace Go.Vl
open Go Go.RowKit
def OpL (P : Program) (S : St) (o : Oper) (e : Eff) : Prop :=
  ∀ S' : St, (∀ x, x ∈ o.op.operands → ev S' x = ev S x) → (∀ r, r ∈ e.reads → S'.obj r = S.obj r) → (∀ r, r ∈ e.sets.map (·.1) → S'.obj r = S.obj r) →
    ∀ C B a w, Rel C S' B a w → (∀ x, o.dst = some x → x < C.n) → Good P C S' a w o e
section
variable {P : Program} {T : Tab} {S : St} {o : Oper}
theorem aBin_one {op : BinOp} {x y v : Value} {p : Prop} (h : aBin op x y = some (p, v)) : v.oneCell' = true := by
  unfold aBin at h
  split at h <;> (try (split at h)) <;> first
    | (simp only [Option.some.injEq, Prod.mk.injEq] at h; obtain ⟨rfl, rfl⟩ := h; rfl)
    | (exact absurd h (by simp))
theorem o_move {X : Operand} (ho : o.op = .move X ∨ o.op = .assign X) {s : Slot} (hX : ev S X = s) : OpL P S o { dst := s } := by
  intro S' h1 h2 h3 C B a w hR hd
  have hx : ev S' X = s := by
    rw [h1 X (by rcases ho with h | h <;> simp [h, Op.operands]), hX]
  refine good_val hR (rd := []) (p := True) hd (v := a.eval X) ?_ (by rw [← hx]; exact ev_rep hR X)
  rcases ho with h | h <;> simp [execOp, h]
theorem o_pick {c x y : Operand} (ho : o.op = .pick c x y) {b : Bool} (hc : ev S c = .one (.g (.bool b))) {s : Slot} (hs : ev S (if b then x else y) = s) : OpL P S o { dst := s } := by
  intro S' h1 h2 h3 C B a w hR hd
  have hc' : ev S' c = .one (.g (.bool b)) := by rw [h1 c (by simp [ho, Op.operands]), hc]
  have hs' : ev S' (if b then x else y) = s := by
    rw [h1 _ (by cases b <;> simp [ho, Op.operands]), hs]
  have hcv := ev_g hR hc'
  refine good_val hR (rd := []) (p := True) hd (v := a.eval (if b then x else y)) ?_ (by rw [← hs']; exact ev_rep hR _)
  cases b <;> simp [execOp, ho, hcv, asBool]
theorem o_bin {op : BinOp} {t ty : TypeId} {X Y : Operand} (ho : o.op = .binOp op t X Y ty) {x y v : Value} {p : Prop} (hX : ev S X = .one (.g x)) (hY : ev S Y = .one (.g y))
    (hb : aBin op x y = some (p, v)) (hp : p) : OpL P S o { dst := .one (.g v) } := by
  intro S' h1 h2 h3 C B a w hR hd
  have hX' := (h1 X (by simp [ho, Op.operands])).trans hX
  have hY' := (h1 Y (by simp [ho, Op.operands])).trans hY
  have hx := ev_g hR hX'
  have hy := ev_g hR hY'
  refine good_val hR (rd := []) (p := True) hd (v := v) ?_ (srepG (aBin_one hb))
  simp [execOp, ho, hx, hy, aBin_guard hb, aBin_run hb hp]
theorem o_not {t : TypeId} {X : Operand} (ho : o.op = .unOp .not t X) {b : Bool} (hX : ev S X = .one (.g (.bool b))) : OpL P S o { dst := .one (.g (.bool !b)) } := by
  intro S' h1 h2 h3 C B a w hR hd
  have hX' := (h1 X (by simp [ho, Op.operands])).trans hX
  have hx := ev_g hR hX'
  exact good_val hR (rd := []) (p := True) hd (v := .bool !b) (by simp [execOp, ho, hx, Op.unary]) (srepG rfl)
theorem o_neg {t : TypeId} {X : Operand} (ho : o.op = .unOp .neg t X) {k : IntKind} {n : Int} (hX : ev S X = .one (.g (.int k n))) : OpL P S o { dst := .one (.g (.int k (k.wrap (0 - n)))) } := by
  intro S' h1 h2 h3 C B a w hR hd
  have hX' := (h1 X (by simp [ho, Op.operands])).trans hX
  have hx := ev_g hR hX'
  exact good_val hR (rd := []) (p := True) hd (v := .int k (k.wrap (0 - n))) (by simp [execOp, ho, hx, Op.unary, Op.intArith]) (srepG rfl)
theorem und_of {t : TypeId} {d : TD} {i : TI} (hT : TabOk P T) (h : T t = some i) (hd : i.d = d) : ∃ u, P.underlying t = some u ∧ dOf u = d := by
  obtain ⟨u, h1, h2⟩ := hT.undAt h; exact ⟨u, h1, h2.trans hd⟩
theorem und_int {t : TypeId} {k : IntKind} {i : TI} (hT : TabOk P T) (h : T t = some i) (hd : i.d = .int k) : P.underlying t = some (.int k) := by
  obtain ⟨u, h1, h2⟩ := und_of hT h hd
  cases u <;> simp [dOf] at h2; rw [h1, h2]
theorem und_str {t : TypeId} {i : TI} (hT : TabOk P T) (h : T t = some i) (hd : i.d = .str) : P.underlying t = some .string := by
  obtain ⟨u, h1, h2⟩ := und_of hT h hd
  cases u <;> simp [dOf] at h2; rw [h1]
theorem und_bool {t : TypeId} {i : TI} (hT : TabOk P T) (h : T t = some i) (hd : i.d = .bool) : P.underlying t = some .bool := by
  obtain ⟨u, h1, h2⟩ := und_of hT h hd
  cases u <;> simp [dOf] at h2; rw [h1]
theorem und_sl {t e : TypeId} {i : TI} (hT : TabOk P T) (h : T t = some i) (hd : i.d = .sl e) : P.underlying t = some (.slice e) := by
  obtain ⟨u, h1, h2⟩ := und_of hT h hd
  cases u <;> simp [dOf] at h2; rw [h1, h2]
theorem und_map {t k e : TypeId} {i : TI} (hT : TabOk P T) (h : T t = some i) (hd : i.d = .map k e) : P.underlying t = some (.map k e) := by
  obtain ⟨u, h1, h2⟩ := und_of hT h hd
  cases u <;> simp [dOf] at h2; rw [h1, h2.1, h2.2]
theorem und_st {t : TypeId} {fs : List (Nat × TypeId)} {i : TI} (hT : TabOk P T) (h : T t = some i) (hd : i.d = .st fs) : ∃ fields, P.underlying t = some (.struct fields) ∧ fields.toList.map (fun f => (f.offset, f.type)) = fs := by
  obtain ⟨u, h1, h2⟩ := und_of hT h hd
  cases u <;> simp [dOf] at h2; exact ⟨_, h1, by simpa using h2⟩
theorem o_conv_int {s t : TypeId} {X : Operand} (hT : TabOk P T) (ho : o.op = .convert s t X) {i j : TI} {k k' : IntKind} {n : Int} (hs : T s = some i) (hsd : i.d = .int k') (ht : T t = some j) (htd : j.d = .int k)
    (hX : ev S X = .one (.g (.int k' n))) : OpL P S o { dst := .one (.g (.int k (k.wrap n))) } := by
  intro S' h1 h2 h3 C B a w hR hd
  have hX' := (h1 X (by simp [ho, Op.operands])).trans hX
  have hx := ev_g hR hX'
  refine good_val hR (rd := []) (p := True) hd (v := .int k (k.wrap n)) ?_ (srepG rfl)
  simp [execOp, ho, hx, convert, run_underlying (und_int hT hs hsd), run_underlying (und_int hT ht htd), Conv.intToInt]
theorem o_func {f : FuncId} {cap : Array Operand} (ho : o.op = .makeFunc (.func f) #[] cap) {os : List Nat} (hc : cap.toList.map (ev S) = os.map fun q => .one (.ptr q 0)) : OpL P S o { dst := .one (.clo f os) } := by
  intro S' h1 h2 h3 C B a w hR hd
  have hc' : cap.toList.map (ev S') = os.map fun q => .one (.ptr q 0) := by
    rw [← hc]; exact List.map_congr_left fun x hx => h1 x (by simp [ho, Op.operands]; exact Array.mem_toList_iff.1 hx)
  refine good_val hR (rd := []) (p := True) hd (v := .func (.func f) #[] (cap.map a.eval)) (by simp [execOp, ho, Instr.makeFunc]) ⟨_, rfl, ?_⟩
  have key : ∀ (xs : List Operand) (os : List Nat), xs.map (ev S') = os.map (fun q => Slot.one (.ptr q 0)) →
      All2 (fun q x => ∃ b n ls, S'.obj q = some (.box ls) ∧ B q = some (b, n) ∧ x = .pointer (some ⟨b, 0, none⟩)) os (xs.map a.eval) := by
    intro xs
    induction xs with
    | nil => intro os h; cases os with | nil => trivial | cons => simp at h
    | cons x xs ih =>
      intro os h
      cases os with
      | nil => simp at h
      | cons q os =>
        simp at h
        exact ⟨ev_one hR h.1, ih os (by simpa using h.2)⟩
  simpa using key cap.toList os hc'
theorem o_extract {X : Operand} {k : Nat} (ho : o.op = .extract X k) {xs : List (Bool × List Leaf)} (hX : ev S X = .tup xs) {s : Slot}
    (hk : match xs[k]? with | some (true, ls) => s = .agg ls | some (false, [l]) => s = .one l | _ => False) : OpL P S o { dst := s } := by
  intro S' h1 h2 h3 C B a w hR hd
  have hX' := (h1 X (by simp [ho, Op.operands])).trans hX
  have hr := ev_rep hR X
  rw [hX'] at hr
  obtain ⟨vs, hv, ha⟩ := hr
  cases hx : xs[k]? with
  | none => simp [hx] at hk
  | some x =>
    obtain ⟨u, hu, hxu⟩ := ha.get k x hx
    have hu' : vs[k]? = some u := by simpa using hu
    refine good_val hR (rd := []) (p := True) hd (v := u) (by simp [execOp, ho, hv, Instr.extract, hu']) ?_
    obtain ⟨b, ls⟩ := x
    rw [hx] at hk
    rcases hxu with ⟨h1, cs, rfl, hc⟩ | ⟨h1, l, h2, hl⟩
    · simp at h1; subst h1; simp at hk; subst hk; exact ⟨cs, rfl, hc⟩
    · simp at h1 h2; subst h1; subst h2; simp at hk; subst hk; exact hl
end
end Go.Vl
namespace Go.Vl
open Go Go.RowKit
theorem cell_blk {w : World} {b : Nat} {cs : Array Value} {E : TypeId} {fr : Nat × Nat} (h : w.heap[b]? = some (.cells cs E fr)) (i : Nat) : w.cell? ⟨b, i, none⟩ = cs[i]? := by
  simp [World.cell?, h]
theorem frozen_blk {w : World} {b : Nat} {cs : Array Value} {E : TypeId} (h : w.heap[b]? = some (.cells cs E (0, 0))) (i : Nat) : w.frozen? ⟨b, i, none⟩ = false := by
  simp [World.frozen?, h]
def cut (i : TI) (ls : List Leaf) : Slot :=
  if i.d.isAgg then .agg (ls.take i.size) else match ls with
    | l :: _ => .one l
    | [] => .bad
def leaves : Slot → Option (List Leaf)
  | .one l => some [l]
  | .agg ls => some ls
  | _ => none
def splice (k : Nat) (new old : List Leaf) : List Leaf := old.take k ++ new ++ old.drop (k + new.length)
def plain : List Leaf → Bool
  | [] => true
  | .g _ :: ls => plain ls
  | .imm _ _ :: ls => plain ls
  | .err :: ls => plain ls
  | _ :: _ => false
section
variable {P : Program} {T : Tab} {S : St} {o : Oper} {B : Pl} {w : World}
theorem plain_rep {D : Nat → Prop} {R : Leaf → Value → Prop} (hR : ∀ l v, R l v → LRep w D S B l v) : ∀ {ls : List Leaf} {vs : List Value}, plain ls = true → All2 R ls vs → All2 (RepL w (dep D S B)) ls vs
  | [], [], _, _ => trivial
  | l :: ls, v :: vs, hp, h => by
    have h1 := hR _ _ h.1
    cases l <;> simp [plain] at hp
    case g x => exact ⟨h1, plain_rep hR hp h.2⟩
    case imm sz rows => exact ⟨h1, plain_rep hR hp h.2⟩
    case err => exact ⟨h1, plain_rep hR hp h.2⟩
  | [], _ :: _, _, h => h.elim
  | _ :: _, [], _, h => h.elim
theorem leaves_rep {D : Nat → Prop} {s : Slot} {ls : List Leaf} {v : Value} (h : leaves s = some ls) (hs : SRep (LRep w D S B) s v) : All2 (LRep w D S B) ls v.cells.toList ∧ ∀ c ∈ v.cells.toList, c.oneCell' = true := by
  have one : ∀ {ls : List Leaf} {vs : List Value}, All2 (LRep w D S B) ls vs → ∀ c ∈ vs, c.oneCell' = true := by
    intro ls vs ha c hc
    obtain ⟨i, hi⟩ := List.getElem?_of_mem hc
    obtain ⟨l, _, hl⟩ := ha.get' i c hi
    exact hl.oneCell
  cases s with
  | one l =>
    simp [leaves] at h; subst h
    have h1 : v.oneCell' = true := LRep.oneCell hs
    have h2 : v.cells = #[v] := by cases v <;> simp_all [Value.cells, Value.oneCell']
    have h3 : All2 (LRep w D S B) [l] v.cells.toList := by rw [h2]; exact ⟨hs, trivial⟩
    exact ⟨h3, one h3⟩
  | agg l =>
    simp [leaves] at h; subst h
    obtain ⟨vs, rfl, ha⟩ := hs
    exact ⟨ha, one ha⟩
  | tup _ => simp [leaves] at h
  | bad => simp [leaves] at h
theorem run_loadAt (hT : TabOk P T) {t : TypeId} {i : TI} (hi : T t = some i) {R : Leaf → Value → Prop} {ls : List Leaf} {a : Addr}
    (hc : ∀ j l, ls[j]? = some l → ∃ v, w.cell? (a.add j) = some v ∧ R l v) (hlen : i.size ≤ ls.length) (h1 : 1 ≤ ls.length) :
    ∃ v, (Instr.loadAt t (.pointer (some a))).run P w = .ok v w ∧ SRep R (cut i ls) v := by
  by_cases hg : i.d.isAgg = true
  · obtain ⟨f, hf⟩ : ∃ f : Nat → Value, ∀ j l, ls[j]? = some l → w.cell? (a.add j) = some (f j) ∧ R l (f j) := by
      refine ⟨fun j => (w.cell? (a.add j)).getD undef, fun j l hj => ?_⟩
      obtain ⟨v, hv, hr⟩ := hc j l hj
      simp [hv, hr]
    have hload := run_loadCells (P := P) w a i.size f (fun j hj => by
      obtain ⟨l, hl⟩ : ∃ l, ls[j]? = some l := ⟨ls[j]'(by omega), List.getElem?_eq_getElem (by omega)⟩
      exact (hf j l hl).1)
    refine ⟨.agg ((List.range i.size).map f).toArray, ?_, ?_⟩
    · simp [Instr.loadAt, Instr.sureAddr, loadVar, hT.isAgg hi, hg, hT.size hi, hload]
    · unfold cut; rw [if_pos hg]
      refine ⟨_, rfl, ?_⟩
      refine All2.of_get (by simp; omega) fun j l v hl hv => ?_
      rw [List.getElem?_take] at hl
      split at hl
      · rename_i hj
        simp [hj] at hv
        subst hv
        exact (hf j l hl).2
      · cases hl
  · cases ls with
    | nil => simp at h1
    | cons l ls =>
      obtain ⟨v, hv, hr⟩ := hc 0 l rfl
      have hv' : w.cell? a = some v := by simpa [Addr.add] using hv
      refine ⟨v, ?_, ?_⟩
      · simp [Instr.loadAt, Instr.sureAddr, loadVar, hT.isAgg hi, hg, hv']
      · unfold cut; rw [if_neg hg]; exact hr
theorem o_load_box (hT : TabOk P T) {t : TypeId} {A : Operand} (ho : o.op = .load t A) {i : TI} (hi : T t = some i) {q k : Nat} {ls : List Leaf} (hA : ev S A = .one (.ptr q k)) (hq : S.obj q = some (.box ls))
    (hk : k + i.size ≤ ls.length ∧ k < ls.length) : OpL P S o { dst := cut i (ls.drop k), reads := [q] } := by
  intro S' h1 h2 h3 C B a w hR hd
  have hA' := (h1 A (by simp [ho, Op.operands])).trans hA
  have hq' := (h2 q (by simp)).trans hq
  obtain ⟨b, n, ls', hb1, hb2, hv⟩ := ev_one hR hA'
  obtain ⟨b', n', cs, E, hb3, hh, hn, ha⟩ := hR.objs q _ hq'
  rw [hb2] at hb3; cases hb3
  obtain ⟨v, hrun, hs⟩ := run_loadAt (P := P) (w := w) hT hi (R := LRep w C.din S' B) (ls := ls.drop k) (a := ⟨b, k, none⟩) (fun j l hj => by
    rw [List.getElem?_drop] at hj
    obtain ⟨x, hx, hr⟩ := ha.get _ l hj
    refine ⟨x, ?_, hr⟩
    rw [add_mk, cell_blk hh]; simpa using hx) (by simp; omega) (by simp; omega)
  exact good_val hR (rd := [q]) (p := True) hd (v := v) (by simp [execOp, ho, hv, hrun]) hs
theorem o_load_elm (hT : TabOk P T) {t : TypeId} {A : Operand} (ho : o.op = .load t A) {i : TI} (hi : T t = some i) {q r j E sz : Nat} {rows : List (List Leaf)} {row : List Leaf} (hA : ev S A = .one (.elm q r j))
    (hq : S.obj q = some (.arr E sz rows)) (hrow : rows[r]? = some row) (hk : j + i.size ≤ sz ∧ j < sz) : OpL P S o { dst := cut i (row.drop j), reads := [q] } := by
  intro S' h1 h2 h3 C B a w hR hd
  have hA' := (h1 A (by simp [ho, Op.operands])).trans hA
  have hq' := (h2 q (by simp)).trans hq
  obtain ⟨E', sz', rows', b, n, hq2, hlt, hb2, hv⟩ := ev_one hR hA'
  rw [arr_of hq'] at hq2; cases hq2
  have hob := hR.objs q _ hq'
  rcases hob with ⟨rfl, _⟩ | ⟨b', n', cs, hb3, hh, hn, hone, hle, hrows⟩
  · simp at hrow
  · rw [hb2] at hb3; cases hb3
    have ha := hrows r row hrow
    have hl : row.length = sz := by
      have := ha.length
      have h5 : r < rows.length := by rcases Nat.lt_or_ge r rows.length with h | h; exact h; rw [List.getElem?_eq_none h] at hrow; cases hrow
      have h6 : (r + 1) * sz ≤ rows.length * sz := Nat.mul_le_mul_right _ h5
      rw [Nat.succ_mul] at h6
      simp at this; omega
    obtain ⟨v, hrun, hs⟩ := run_loadAt (P := P) (w := w) hT hi (R := LRep w C.din S' B) (ls := row.drop j) (a := ⟨b, r * sz + j, none⟩) (fun k l hj => by
      rw [List.getElem?_drop] at hj
      obtain ⟨x, hx, hr⟩ := ha.get _ l hj
      refine ⟨x, ?_, RepL.lrep hr⟩
      rw [add_mk, cell_blk hh]
      rw [List.getElem?_take] at hx
      split at hx
      · rw [List.getElem?_drop] at hx
        rw [show r * sz + j + k = r * sz + (j + k) from by omega]; simpa using hx
      · cases hx) (by simp; omega) (by simp; omega)
    exact good_val hR (rd := [q]) (p := True) hd (v := v) (by simp [execOp, ho, hv, hrun]) hs
theorem o_load_iel (hT : TabOk P T) {t : TypeId} {A : Operand} (ho : o.op = .load t A) {i : TI} (hi : T t = some i) {j : Nat} {row : List Leaf} (hA : ev S A = .one (.iel row j))
    (hk : j + i.size ≤ row.length ∧ j < row.length) : OpL P S o { dst := cut i (row.drop j) } := by
  intro S' h1 h2 h3 C B a w hR hd
  have hA' := (h1 A (by simp [ho, Op.operands])).trans hA
  obtain ⟨ad, hv, hdp, hlt, hr⟩ := ev_one hR hA'
  obtain ⟨v, hrun, hs⟩ := run_loadAt (P := P) (w := w) hT hi (R := LRep w C.din S' B) (ls := row.drop j) (a := ad.add j) (fun k l hj => by
    rw [List.getElem?_drop] at hj
    obtain ⟨x, hx, hr⟩ := RepR_get hr _ l hj
    refine ⟨x, ?_, RepL.lrep hr⟩
    rw [add_add']; simpa using hx) (by simp; omega) (by simp; omega)
  exact good_val hR (rd := []) (p := True) hd (v := v) (by simp [execOp, ho, hv, hrun]) hs
theorem run_storeAt (hT : TabOk P T) {t : TypeId} {i : TI} (hi : T t = some i) {b k : Nat} {cs : Array Value} {E : TypeId} (hh : w.heap[b]? = some (.cells cs E (0, 0))) {v : Value} (hs : v.cells.size = i.size)
    (hk : k + i.size ≤ cs.size) (h1 : ∀ c ∈ v.cells.toList, c.oneCell' = true) :
    (Instr.storeAt t (.pointer (some ⟨b, k, none⟩)) v).run P w = .ok () (w.setCells b k v.cells.toList) := by
  have := run_storeCells_cells (P := P) b k v.cells.toList 0 w (fun j hj => by
      rw [show k + 0 + j = k + j from by omega, cell_blk hh]; simp at hj ⊢; omega) (fun j hj => frozen_blk hh _) h1
  simp [Instr.storeAt, Instr.sureAddr, storeVar, hT.size hi, hs]
  simpa using this
theorem splice_get {k : Nat} {new old : List Leaf} (hk : k + new.length ≤ old.length) (j : Nat) : (splice k new old)[j]? = if k ≤ j ∧ j < k + new.length then new[j - k]? else old[j]? := by
  unfold splice
  have h1 : (old.take k).length = k := by simp; omega
  rw [List.append_assoc, List.getElem?_append, h1]
  by_cases hj : j < k
  · rw [if_pos hj, if_neg (by omega), List.getElem?_take, if_pos hj]
  · rw [if_neg hj, List.getElem?_append]
    by_cases hj2 : j - k < new.length
    · rw [if_pos hj2, if_pos (by omega)]
    · rw [if_neg hj2, if_neg (by omega), List.getElem?_drop]
      congr 1; omega
theorem splice_length {k : Nat} {new old : List Leaf} (hk : k + new.length ≤ old.length) : (splice k new old).length = old.length := by
  unfold splice; simp; omega
theorem o_store_box (hT : TabOk P T) {t : TypeId} {A X : Operand} (ho : o.op = .store t A X) (hd0 : o.dst = none) {i : TI} (hi : T t = some i) {q k : Nat} {ls new : List Leaf} (hA : ev S A = .one (.ptr q k)) (hq : S.obj q = some (.box ls))
    {s : Slot} (hX : ev S X = s) (hn : leaves s = some new) (hk : new.length = i.size ∧ k + i.size ≤ ls.length) : OpL P S o { reads := [q], sets := [(q, .box (splice k new ls))] } := by
  intro S' h1 h2 h3 C B a w hR hd
  have hA' := (h1 A (by simp [ho, Op.operands])).trans hA
  have hX' := (h1 X (by simp [ho, Op.operands])).trans hX
  have hq' := (h2 q (by simp)).trans hq
  obtain ⟨b, n, ls', hb1, hb2, hv⟩ := ev_one hR hA'
  obtain ⟨b', n', cs, E, hb3, hh, hcn, ha⟩ := hR.objs q _ hq'
  rw [hb2] at hb3; cases hb3
  have hsx := ev_rep hR X
  rw [hX'] at hsx
  obtain ⟨hall, hone⟩ := leaves_rep hn hsx
  have hlen := ha.length
  have hcsz : (a.eval X).cells.size = i.size := by have := hall.length; simp at this; omega
  have hrun := run_storeAt (P := P) (k := k) hT hi hh hcsz (by simp at hlen; omega) hone
  refine ⟨.skip, undef, w.setCells b k (a.eval X).cells.toList, B, by simp [execOp, ho, hv, hrun], .inr ⟨rfl, rfl⟩, ?_⟩
  rw [hd0]
  show Rel C (S'.sets [(q, .box (splice k new ls))]) B a _
  obtain ⟨cs', hh', hs', hg⟩ := setCells_heap b E (a.eval X).cells.toList k w cs hh
  obtain ⟨e1, e2, e3, e4⟩ := setCells_same b (a.eval X).cells.toList k w
  refine hR.turn hq' hb2 trivial e1 e2 e3 e4 (fun x hx => setCells_other b _ _ _ x hx) fun hl hr => ?_
  have hlls : ls.length = cs.size := by simpa using hlen
  refine ⟨b, n, cs', E, hb2, hh', by omega, All2.of_get (by rw [splice_length (by omega)]; simp [hs']; omega) fun j l v hj hv => ?_⟩
  rw [splice_get (by omega)] at hj
  have hv' : cs'[j]? = some v := by simpa using hv
  rw [hg] at hv'
  have hvl : (a.eval X).cells.toList.length = new.length := hall.length.symm
  by_cases hin : k ≤ j ∧ j < k + new.length
  · rw [if_pos hin] at hj
    rw [if_pos (by omega)] at hv'
    obtain ⟨x, hx, hxr⟩ := hall.get _ l hj
    rw [hx] at hv'; cases hv'
    exact hl _ _ hxr
  · rw [if_neg hin] at hj
    rw [if_neg (by omega)] at hv'
    obtain ⟨x, hx, hxr⟩ := ha.get _ l hj
    simp at hx
    rw [hx] at hv'; cases hv'
    exact hl _ _ hxr
theorem o_store_elm (hT : TabOk P T) {t : TypeId} {A X : Operand} (ho : o.op = .store t A X) (hd0 : o.dst = none) {i : TI} (hi : T t = some i) {q r j E sz : Nat} {rows : List (List Leaf)} {row new : List Leaf} (hA : ev S A = .one (.elm q r j))
    (hq : S.obj q = some (.arr E sz rows)) (hrow : rows[r]? = some row) {s : Slot} (hX : ev S X = s) (hn : leaves s = some new) (hp : plain new = true) (hk : new.length = i.size ∧ j + i.size ≤ sz) :
    OpL P S o { reads := [q], sets := [(q, .arr E sz (rows.set r (splice j new row)))] } := by
  intro S' h1 h2 h3 C B a w hR hd
  have hA' := (h1 A (by simp [ho, Op.operands])).trans hA
  have hX' := (h1 X (by simp [ho, Op.operands])).trans hX
  have hq' := (h2 q (by simp)).trans hq
  obtain ⟨E', sz', rows', b, n, hq2, hlt, hb2, hv⟩ := ev_one hR hA'
  rw [arr_of hq'] at hq2; cases hq2
  have hob := hR.objs q _ hq'
  rcases hob with ⟨rfl, _⟩ | ⟨b', n', cs, hb3, hh, hcn, hone0, hle, hrows⟩
  · simp at hrow
  · rw [hb2] at hb3; cases hb3
    have ha := hrows r row hrow
    have h6 : (r + 1) * sz ≤ rows.length * sz := Nat.mul_le_mul_right _ hlt
    rw [Nat.succ_mul] at h6
    have hl : row.length = sz := by
      have := ha.length
      simp at this; omega
    have hsx := ev_rep hR X
    rw [hX'] at hsx
    obtain ⟨hall, hone⟩ := leaves_rep hn hsx
    have hcsz : (a.eval X).cells.size = i.size := by have := hall.length; simp at this; omega
    have hrun := run_storeAt (P := P) (k := r * sz + j) hT hi hh hcsz (by omega) hone
    refine ⟨.skip, undef, w.setCells b (r * sz + j) (a.eval X).cells.toList, B, by simp [execOp, ho, hv, hrun], .inr ⟨rfl, rfl⟩, ?_⟩
    rw [hd0]
    show Rel C (S'.sets [(q, .arr E sz (rows.set r (splice j new row)))]) B a _
    obtain ⟨cs', hh', hs', hg⟩ := setCells_heap b E (a.eval X).cells.toList (r * sz + j) w cs hh
    obtain ⟨e1, e2, e3, e4⟩ := setCells_same b (a.eval X).cells.toList (r * sz + j) w
    have hvl : (a.eval X).cells.toList.length = new.length := hall.length.symm
    refine hR.turn hq' hb2 ⟨rfl, by simp⟩ e1 e2 e3 e4 (fun x hx => setCells_other b _ _ _ x hx) fun hl' hr' => ?_
    have hpl := plain_rep (fun l v h => h) hp hall
    refine .inr ⟨b, n, cs', hb2, hh', by omega, ?_, by simpa using hle, fun x rx hx => ?_⟩
    · intro c hc
      obtain ⟨y, hy⟩ := List.getElem?_of_mem hc
      have hy' : cs'[y]? = some c := by simpa using hy
      rw [hg] at hy'
      split at hy'
      · exact hone c (List.mem_of_getElem? hy')
      · exact hone0 c (List.mem_of_getElem? (i := y) (by simpa using hy'))
    · rw [List.getElem?_set] at hx
      have hcell : ∀ y, ((cs'.toList.drop (x * sz)).take sz)[y]? = if y < sz then cs'[x * sz + y]? else none := by
        intro y; rw [List.getElem?_take]; split <;> simp [List.getElem?_drop]
      by_cases hxr : r = x
      · subst hxr
        rw [if_pos rfl, if_pos hlt] at hx
        cases hx
        refine All2.of_get (by rw [splice_length (by omega)]; simp; omega) fun y l v hy hvy => ?_
        rw [hcell] at hvy
        split at hvy
        · rename_i hys
          rw [hg] at hvy
          rw [splice_get (by omega)] at hy
          by_cases hin : j ≤ y ∧ y < j + new.length
          · rw [if_pos hin] at hy
            rw [if_pos (by omega), show r * sz + y - (r * sz + j) = y - j from by omega] at hvy
            obtain ⟨z, hz, hzr⟩ := hpl.get _ l hy
            rw [hz] at hvy; cases hvy
            exact hr' _ _ hzr
          · rw [if_neg hin] at hy
            rw [if_neg (by omega)] at hvy
            obtain ⟨z, hz, hzr⟩ := ha.get _ l hy
            rw [List.getElem?_take, if_pos hys, List.getElem?_drop] at hz
            simp at hz
            rw [hz] at hvy; cases hvy
            exact hr' _ _ hzr
        · cases hvy
      · rw [if_neg hxr] at hx
        have hax := hrows x rx hx
        have hxl : x < rows.length := by rcases Nat.lt_or_ge x rows.length with h | h; exact h; rw [List.getElem?_eq_none h] at hx; cases hx
        refine All2.of_get (by have := hax.length; simp at this ⊢; omega) fun y l v hy hvy => ?_
        rw [hcell] at hvy
        split at hvy
        · rename_i hys
          rw [hg] at hvy
          have hout : ¬ (r * sz + j ≤ x * sz + y ∧ x * sz + y < r * sz + j + (a.eval X).cells.toList.length ∧ x * sz + y < cs.size) := by
            intro hc
            rcases Nat.lt_or_ge x r with h | h
            · have : (x + 1) * sz ≤ r * sz := Nat.mul_le_mul_right _ h
              rw [Nat.succ_mul] at this; omega
            · have h' : r < x := by omega
              have : (r + 1) * sz ≤ x * sz := Nat.mul_le_mul_right _ h'
              rw [Nat.succ_mul] at this; omega
          rw [if_neg hout] at hvy
          obtain ⟨z, hz, hzr⟩ := hax.get _ l hy
          rw [List.getElem?_take, if_pos hys, List.getElem?_drop] at hz
          simp at hz
          rw [hz] at hvy; cases hvy
          exact hr' _ _ hzr
        · cases hvy
end
end Go.Vl
namespace Go.Vl
open Go Go.RowKit
section
variable {P : Program} {T : Tab} {S : St} {o : Oper} {B : Pl} {w : World}
theorem good_new {C : Ctx} {a : Act} (hR : Rel C S B a w) {q n : Nat} {ob : Ob} {l : Leaf} {v : Value} (x : Obj) (hq : S.obj q = none) (hq1 : 100 ≤ q) (hd : ∀ x, o.dst = some x → x < C.n)
    (hrun : (execOp a.eval o).run P w = .ok (.value v) (w.alloc x))
    (hob : (∀ l v, LRep w C.din S B l v → LRep (w.alloc x) C.din (S.sets [(q, ob)]) (B.set q (some (w.heap.size, n))) l v) →
      (∀ l v, RepL w (dep C.din S B) l v → RepL (w.alloc x) (dep C.din (S.sets [(q, ob)]) (B.set q (some (w.heap.size, n)))) l v) → ObRep (w.alloc x) C.din (S.sets [(q, ob)]) (B.set q (some (w.heap.size, n))) q ob)
    (hl : LRep (w.alloc x) C.din (S.sets [(q, ob)]) (B.set q (some (w.heap.size, n))) l v) :
    Good P C S a w o { dst := .one l, sets := [(q, ob)] } := by
  have h1 := hR.new (n := n) x hq hq1 hob
  refine ⟨_, v, _, B.set q (some (w.heap.size, n)), hrun, .inl rfl, ?_⟩
  exact h1.put o.dst (.one l) v hl hd
theorem set_same (B : Pl) (q : Nat) (p : Option (Nat × Nat)) : (B.set q p) q = p := by simp [Pl.set]
theorem o_box {E : TypeId} {X : Operand} (ho : o.op = .box E X) {q : Nat} (hq : S.obj q = none) (hq1 : 100 ≤ q) {s : Slot} {ls : List Leaf} (hX : ev S X = s) (hl : leaves s = some ls) : OpL P S o { dst := .one (.ptr q 0), sets := [(q, .box ls)] } := by
  intro S' h1 h2 h3 C B a w hR hd
  have hX' := (h1 X (by simp [ho, Op.operands])).trans hX
  have hsx := ev_rep hR X
  rw [hX'] at hsx
  obtain ⟨hall, hone⟩ := leaves_rep hl hsx
  refine good_new (n := (a.eval X).cells.size) hR (.cells (a.eval X).cells E) ((h3 q (by simp)).trans hq) hq1 hd (v := .pointer (some ⟨w.heap.size, 0, none⟩)) (by simp [execOp, ho, Instr.box, newVar, newRow]) (fun hl' hr' => ?_) ?_
  · exact ⟨w.heap.size, _, (a.eval X).cells, E, set_same _ _ _, heap_alloc_new w _, rfl, hall.mono hl'⟩
  · exact ⟨w.heap.size, _, ls, by simp [sets_one_obj], set_same _ _ _, rfl⟩
theorem all2_zero {D : Nat → Prop} : ∀ {l : List Value}, (∀ z ∈ l, z.oneCell' = true) → All2 (RepL w D) (l.map .g) l
  | [], _ => trivial
  | v :: l, h => by
    refine ⟨?_, all2_zero fun z hz => h z (by simp [hz])⟩
    rw [RepL.eq_1]; exact ⟨rfl, h v (by simp)⟩
theorem run_zero (hT : TabOk P T) {t : TypeId} {i : TI} (hi : T t = some i) (w : World) : ∃ z, (zeroValue t).run P w = .ok z w ∧ z.cells.toList = i.zero := by
  obtain ⟨x, hx, _, _, z, hz, hc⟩ := hT.infoAt hi
  exact ⟨z, by simp [zeroValue, typeInfo, hx, hz], hc⟩
theorem o_alloc (hT : TabOk P T) {E : TypeId} (ho : o.op = .alloc E) {i : TI} (hi : T E = some i) {q : Nat} (hq : S.obj q = none) (hq1 : 100 ≤ q) : OpL P S o { dst := .one (.ptr q 0), sets := [(q, .box (i.zero.map .g))] } := by
  intro S' h1 h2 h3 C B a w hR hd
  obtain ⟨z, hz, hc⟩ := run_zero hT hi w
  have h1c := (hT.one _ _ hi).2
  refine good_new (n := z.cells.size) hR (.cells z.cells E) ((h3 q (by simp)).trans hq) hq1 hd (v := .pointer (some ⟨w.heap.size, 0, none⟩)) (by simp [execOp, ho, Instr.alloc, newVar, newRow, hz]) (fun hl' hr' => ?_) ?_
  · exact ⟨w.heap.size, _, z.cells, E, set_same _ _ _, heap_alloc_new w _, rfl, by rw [hc]; exact (all2_zero h1c).mono fun l v h => RepL.lrep h⟩
  · exact ⟨w.heap.size, _, i.zero.map .g, by simp [sets_one_obj], set_same _ _ _, rfl⟩
theorem o_fieldAddr_ptr (hT : TabOk P T) {s : TypeId} {X : Operand} {f : Nat} (ho : o.op = .fieldAddr s X f) {i j : TI} {fs : List (Nat × TypeId)} {off : Nat} {t : TypeId} (hi : T s = some i) (hd0 : i.d = .st fs) (hf : fs[f]? = some (off, t)) (hj : T t = some j)
    (hjs : j.size ≠ 0) {q k : Nat} (hX : ev S X = .one (.ptr q k)) : OpL P S o { dst := .one (.ptr q (k + off)) } := by
  intro S' h1 h2 h3 C B a w hR hd
  have hX' := (h1 X (by simp [ho, Op.operands])).trans hX
  obtain ⟨b, n, ls, hq, hb, hv⟩ := ev_one hR hX'
  obtain ⟨fields, hu, hfs⟩ := und_st hT hi hd0
  rw [← hfs] at hf
  obtain ⟨fd, hfd, hfe⟩ : ∃ fd, fields[f]? = some fd ∧ (fd.offset, fd.type) = (off, t) := by
    simp at hf; obtain ⟨fd, h, e1, e2⟩ := hf; exact ⟨fd, h, by rw [e1, e2]⟩
  simp at hfe
  obtain ⟨e1, e2⟩ := hfe
  refine good_val hR (rd := []) (p := True) hd (v := .pointer (some ⟨b, k + off, none⟩)) ?_ ⟨b, n, ls, hq, hb, rfl⟩
  simp [execOp, ho, hv, Instr.fieldAt, run_underlying hu, hfd, Instr.sureAddr, fieldPlace, e2, hT.size hj, hjs, e1, add_mk]
theorem o_fieldAddr_elm (hT : TabOk P T) {s : TypeId} {X : Operand} {f : Nat} (ho : o.op = .fieldAddr s X f) {i j : TI} {fs : List (Nat × TypeId)} {off : Nat} {t : TypeId} (hi : T s = some i) (hd0 : i.d = .st fs) (hf : fs[f]? = some (off, t)) (hj : T t = some j)
    (hjs : j.size ≠ 0) {q r k : Nat} (hX : ev S X = .one (.elm q r k)) : OpL P S o { dst := .one (.elm q r (k + off)) } := by
  intro S' h1 h2 h3 C B a w hR hd
  have hX' := (h1 X (by simp [ho, Op.operands])).trans hX
  obtain ⟨E, sz, rows, b, n, hq, hlt, hb, hv⟩ := ev_one hR hX'
  obtain ⟨fields, hu, hfs⟩ := und_st hT hi hd0
  rw [← hfs] at hf
  obtain ⟨fd, hfd, hfe⟩ : ∃ fd, fields[f]? = some fd ∧ (fd.offset, fd.type) = (off, t) := by
    simp at hf; obtain ⟨fd, h, e1, e2⟩ := hf; exact ⟨fd, h, by rw [e1, e2]⟩
  simp at hfe
  obtain ⟨e1, e2⟩ := hfe
  refine good_val hR (rd := []) (p := True) hd (v := .pointer (some ⟨b, r * sz + (k + off), none⟩)) ?_ ⟨E, sz, rows, b, n, hq, hlt, hb, rfl⟩
  simp [execOp, ho, hv, Instr.fieldAt, run_underlying hu, hfd, Instr.sureAddr, fieldPlace, e2, hT.size hj, hjs, e1, add_mk, Nat.add_assoc]
theorem o_fieldAddr_iel (hT : TabOk P T) {s : TypeId} {X : Operand} {f : Nat} (ho : o.op = .fieldAddr s X f) {i j : TI} {fs : List (Nat × TypeId)} {off : Nat} {t : TypeId} (hi : T s = some i) (hd0 : i.d = .st fs) (hf : fs[f]? = some (off, t)) (hj : T t = some j)
    (hjs : j.size ≠ 0) {row : List Leaf} {k : Nat} (hX : ev S X = .one (.iel row k)) : OpL P S o { dst := .one (.iel row (k + off)) } := by
  intro S' h1 h2 h3 C B a w hR hd
  have hX' := (h1 X (by simp [ho, Op.operands])).trans hX
  obtain ⟨ad, hv, hrest⟩ := ev_one hR hX'
  obtain ⟨fields, hu, hfs⟩ := und_st hT hi hd0
  rw [← hfs] at hf
  obtain ⟨fd, hfd, hfe⟩ : ∃ fd, fields[f]? = some fd ∧ (fd.offset, fd.type) = (off, t) := by
    simp at hf; obtain ⟨fd, h, e1, e2⟩ := hf; exact ⟨fd, h, by rw [e1, e2]⟩
  simp at hfe
  obtain ⟨e1, e2⟩ := hfe
  refine good_val hR (rd := []) (p := True) hd (v := .pointer (some (ad.add (k + off)))) ?_ ⟨ad, rfl, hrest⟩
  simp [execOp, ho, hv, Instr.fieldAt, run_underlying hu, hfd, Instr.sureAddr, fieldPlace, e2, hT.size hj, hjs, e1, add_add']
theorem run_part_cut (hT : TabOk P T) {t : TypeId} {j : TI} (hj : T t = some j) {R : Leaf → Value → Prop} {ls : List Leaf} {vs : Array Value} (ha : All2 R ls vs.toList) {off : Nat} (hk : off + j.size ≤ ls.length ∧ off < ls.length) (w : World) :
    ∃ v, (part t vs off).run P w = .ok v w ∧ SRep R (cut j (ls.drop off)) v := by
  by_cases hg : j.d.isAgg = true
  · refine ⟨.agg (vs.extract off (off + j.size)), by simp [part, hT.isAgg hj, hg, hT.size hj], ?_⟩
    unfold cut; rw [if_pos hg]
    refine ⟨_, rfl, ?_⟩
    have := (ha.drop off).take j.size
    simpa [Array.toList_extract, List.extract] using this
  · obtain ⟨l, hl⟩ : ∃ l, ls[off]? = some l := ⟨ls[off]'hk.2, List.getElem?_eq_getElem hk.2⟩
    obtain ⟨v, hv, hr⟩ := ha.get off l hl
    refine ⟨v, by have hv' : vs[off]? = some v := by simpa using hv
                  simp [part, hT.isAgg hj, hg, hv'], ?_⟩
    unfold cut; rw [if_neg hg]
    rw [List.drop_eq_getElem_cons hk.2]
    rw [List.getElem?_eq_getElem hk.2] at hl
    cases hl
    exact hr
theorem o_field (hT : TabOk P T) {s : TypeId} {X : Operand} {f : Nat} (ho : o.op = .field s X f) {i j : TI} {fs : List (Nat × TypeId)} {off : Nat} {t : TypeId} (hi : T s = some i) (hd0 : i.d = .st fs) (hf : fs[f]? = some (off, t)) (hj : T t = some j)
    {ls : List Leaf} (hX : ev S X = .agg ls) (hk : off + j.size ≤ ls.length ∧ off < ls.length) : OpL P S o { dst := cut j (ls.drop off) } := by
  intro S' h1 h2 h3 C B a w hR hd
  have hX' := (h1 X (by simp [ho, Op.operands])).trans hX
  obtain ⟨vs, hv, ha⟩ := ev_agg hR hX'
  obtain ⟨fields, hu, hfs⟩ := und_st hT hi hd0
  rw [← hfs] at hf
  obtain ⟨fd, hfd, hfe⟩ : ∃ fd, fields[f]? = some fd ∧ (fd.offset, fd.type) = (off, t) := by
    simp at hf; obtain ⟨fd, h, e1, e2⟩ := hf; exact ⟨fd, h, by rw [e1, e2]⟩
  simp at hfe
  obtain ⟨e1, e2⟩ := hfe
  obtain ⟨v, hrun, hs⟩ := run_part_cut (P := P) hT hj ha hk w
  exact good_val hR (rd := []) (p := True) hd (v := v) (by simp [execOp, ho, hv, Instr.field, run_underlying hu, hfd, asAgg, e1, e2, hrun]) hs
theorem o_index_arr (hT : TabOk P T) {t : TypeId} {X I : Operand} (ho : o.op = .indexAddr t X I) {i j : TI} {e : TypeId} (hi : T t = some i) (hd0 : i.d = .sl e) (hj : T e = some j) {q off len E sz : Nat} {rows : List (List Leaf)} {k : IntKind} {n : Int}
    (hX : ev S X = .one (.own q off len)) (hI : ev S I = .one (.g (.int k n))) (hq : S.arr q = some (E, sz, rows)) (hsz : j.size = sz) (hn : 0 ≤ n ∧ n < len) : OpL P S o { dst := .one (.elm q (off + n.toNat) 0), reads := [q] } := by
  intro S' h1 h2 h3 C B a w hR hd
  have hX' := (h1 X (by simp [ho, Op.operands])).trans hX
  have hI' := (h1 I (by simp [ho, Op.operands])).trans hI
  have hq' : S'.arr q = some (E, sz, rows) := by unfold St.arr; rw [h2 q (by simp)]; exact hq
  have hiv := ev_g hR hI'
  obtain ⟨E', sz', rows', A, c, hq2, hlen, hv, hlc, hcm, hc⟩ := ev_one hR hX'
  rw [hq'] at hq2; cases hq2
  rcases hc with h0 | ⟨b, m, hb, hA, hroom⟩
  · omega
  · subst hA
    refine good_val hR (rd := [q]) (p := True) hd (v := .pointer (some ⟨b, (off + n.toNat) * sz + 0, none⟩)) ?_ ⟨E, sz, rows, b, m, hq', by omega, hb, rfl⟩
    simp [execOp, ho, hv, hiv, Instr.indexAt, asIntOf, run_underlying (und_sl hT hi hd0), hn, hT.size hj, hsz, add_mk, Nat.add_mul]
theorem o_index_imm (hT : TabOk P T) {t : TypeId} {X I : Operand} (ho : o.op = .indexAddr t X I) {i j : TI} {e : TypeId} (hi : T t = some i) (hd0 : i.d = .sl e) (hj : T e = some j) {sz : Nat} {rows : List (List Leaf)} {k : IntKind} {n : Int} {row : List Leaf}
    (hX : ev S X = .one (.imm sz rows)) (hI : ev S I = .one (.g (.int k n))) (hsz : j.size = sz) (hn : 0 ≤ n) (hrow : rows[n.toNat]? = some row) : OpL P S o { dst := .one (.iel row 0) } := by
  intro S' h1 h2 h3 C B a w hR hd
  have hX' := (h1 X (by simp [ho, Op.operands])).trans hX
  have hI' := (h1 I (by simp [ho, Op.operands])).trans hI
  have hiv := ev_g hR hI'
  have hx : RepL w (dep C.din S' B) (.imm sz rows) (a.eval X) := ev_one hR hX'
  rw [RepL.eq_2] at hx
  obtain ⟨A, c, hv, hlc, hcm, hr⟩ := hx
  rcases hr with rfl | ⟨ad, rfl, hdp, hlt, hrs⟩
  · simp at hrow
  · have hg := RepRs_get hrs _ _ hrow
    have hlen : n < (rows.length : Int) := by
      rcases Nat.lt_or_ge n.toNat rows.length with h | h
      · omega
      · rw [List.getElem?_eq_none h] at hrow; cases hrow
    refine good_val hR (rd := []) (p := True) hd (v := .pointer (some (ad.add (n.toNat * sz)))) ?_ ⟨ad.add (n.toNat * sz), by simp [Addr.add], by rw [add_block]; exact hdp, by rw [add_block]; exact hlt, ?_⟩
    · simp [execOp, ho, hv, hiv, Instr.indexAt, asIntOf, run_underlying (und_sl hT hi hd0), hn, hlen, hT.size hj, hsz]
    · refine RepR_of fun y l hy => ?_
      obtain ⟨x, hx, hxr⟩ := RepR_get hg.2 y l hy
      exact ⟨x, by rw [add_add']; simpa using hx, hxr⟩
theorem o_index_str (hT : TabOk P T) {t : TypeId} {X I : Operand} (ho : o.op = .index t X I) {i : TI} (hi : T t = some i) (hd0 : i.d = .str) {s : ByteArray} {k : IntKind} {n : Int}
    (hX : ev S X = .one (.g (.string s))) (hI : ev S I = .one (.g (.int k n))) (hn : 0 ≤ n) {c : UInt8} (hc : s[n.toNat]? = some c) : OpL P S o { dst := .one (.g (.int .u8 c.toNat)) } := by
  intro S' h1 h2 h3 C B a w hR hd
  have hX' := (h1 X (by simp [ho, Op.operands])).trans hX
  have hI' := (h1 I (by simp [ho, Op.operands])).trans hI
  have hx := ev_g hR hX'
  have hiv := ev_g hR hI'
  exact good_val hR (rd := []) (p := True) hd (v := .int .u8 c.toNat) (by simp [execOp, ho, hx, hiv, Instr.index, asIntOf, run_underlying (und_str hT hi hd0), hn, hc]) (srepG rfl)
theorem o_nilCheck {X : Operand} (ho : o.op = .nilCheck X) {s : Slot} (hX : ev S X = s) (hs : match s with | .one (.ptr _ _) | .one (.elm _ _ _) | .one (.iel _ _) | .one (.clo _ _) => True | _ => False) : OpL P S o { dst := s } := by
  intro S' h1 h2 h3 C B a w hR hd
  have hX' := (h1 X (by simp [ho, Op.operands])).trans hX
  have hr := ev_rep hR X
  rw [hX'] at hr
  refine good_val hR (rd := []) (p := True) hd (v := a.eval X) ?_ hr
  cases s with
  | one l =>
    cases l <;> simp at hs
    case ptr => obtain ⟨_, _, _, _, _, hv⟩ := hr; simp [execOp, ho, hv]
    case elm => obtain ⟨_, _, _, _, _, _, _, _, hv⟩ := hr; simp [execOp, ho, hv]
    case iel => obtain ⟨_, hv, _⟩ := hr; simp [execOp, ho, hv]
    case clo => obtain ⟨_, hv, _⟩ := hr; simp [execOp, ho, hv]
  | _ => simp at hs
end
end Go.Vl

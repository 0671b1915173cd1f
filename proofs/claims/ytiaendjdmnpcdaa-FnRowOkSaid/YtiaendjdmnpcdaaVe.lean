/- V-logic, part e: operations that compute, read, make a variable. -/
import Derived.Test.YtiaendjdmnpcdaaVd
import Derived.Laws.Concat
import Derived.Laws.Strings
import Derived.Laws.StructEq
import Derived.Laws.Entries
namespace Go.Vl
open Go Go.RowKit

def cSlot : Value → Slot
  | .agg cs => if cs.toList.all (·.oneCell') then .agg (cs.toList.map .g) else .bad
  | .tuple _ => .bad
  | v => .one (.g v)

def ev (S : St) : Operand → Slot
  | .tmp t => S.slot t
  | .const v => cSlot v
  | .func f => .one (.clo f [])
  | .global _ => .bad

def Good (P : Program) (C : Ctx) (S : St) (a : Act) (w : World) (o : Oper) (e : Eff) : Prop :=
  ∃ nx v w' B', (execOp a.eval o).run P w = .ok nx w' ∧ (nx = .value v ∨ (nx = .skip ∧ v = undef)) ∧ Rel C (S.app o.dst e) B' (a.put o.dst v) w'

section
variable {P : Program} {T : Tab} {C : Ctx} {S : St} {B : Pl} {a : Act} {w : World}

theorem repG {x : Value} (h : x.oneCell' = true) : LRep w C.din S B (.g x) x := by
  show RepL w (dep C.din S B) (.g x) x
  rw [RepL.eq_1]; exact ⟨rfl, h⟩
theorem srepG {x : Value} (h : x.oneCell' = true) : SRep (LRep w C.din S B) (.one (.g x)) x := by
  show LRep w C.din S B (.g x) x
  exact repG h
theorem repG_eq {x v : Value} (h : LRep w C.din S B (.g x) v) : v = x := by
  have h : RepL w (dep C.din S B) (.g x) v := h
  rw [RepL.eq_1] at h; exact h.1
theorem all2_g : ∀ (l : List Value), l.all (·.oneCell') = true → All2 (LRep w C.din S B) (l.map .g) l
  | [], _ => trivial
  | v :: l, h => by simp at h; exact ⟨repG h.1, all2_g l (by simpa using h.2)⟩

theorem ev_rep (hR : Rel C S B a w) (x : Operand) : SRep (LRep w C.din S B) (ev S x) (a.eval x) := by
  cases x with
  | tmp t => exact hR.slots t
  | const v =>
    show SRep _ (cSlot v) v
    cases v with
    | agg cs =>
      by_cases h : cs.toList.all (·.oneCell') = true
      · have e : cSlot (.agg cs) = .agg (cs.toList.map .g) := if_pos h
        rw [e]; exact ⟨cs, rfl, all2_g _ h⟩
      · have e : cSlot (.agg cs) = .bad := if_neg h
        rw [e]; trivial
    | tuple vs => trivial
    | _ => show LRep w C.din S B (.g _) _; exact repG rfl
  | func f => exact ⟨#[], rfl, trivial⟩
  | global g => trivial

theorem ev_one (hR : Rel C S B a w) {x : Operand} {l : Leaf} (h : ev S x = .one l) : LRep w C.din S B l (a.eval x) := by
  have := ev_rep hR x; rw [h] at this; exact this
theorem ev_g (hR : Rel C S B a w) {x : Operand} {v : Value} (h : ev S x = .one (.g v)) : a.eval x = v := repG_eq (ev_one hR h)
theorem ev_agg (hR : Rel C S B a w) {x : Operand} {ls : List Leaf} (h : ev S x = .agg ls) : ∃ vs, a.eval x = .agg vs ∧ All2 (LRep w C.din S B) ls vs.toList := by
  have := ev_rep hR x; rw [h] at this; exact this

theorem app_pure (d : Option Nat) (s : Slot) (p : Prop) (rd : List Nat) : S.app d { dst := s, cond := p, reads := rd } = S.put d s := rfl

theorem good_val (hR : Rel C S B a w) {o : Oper} {v : Value} {s : Slot} {p : Prop} {rd : List Nat} (hd : ∀ x, o.dst = some x → x < C.n)
    (hrun : (execOp a.eval o).run P w = .ok (.value v) w) (hs : SRep (LRep w C.din S B) s v) : Good P C S a w o { dst := s, cond := p, reads := rd } :=
  ⟨_, v, w, B, hrun, .inl rfl, by rw [app_pure]; exact hR.put _ _ _ hs hd⟩

-- the values of arithmetic and comparison
def aBin : BinOp → Value → Value → Option (Prop × Value)
  | .add, .int k x, .int k' y => if k = k' then some (True, .int k (k.wrap (x + y))) else none
  | .sub, .int k x, .int k' y => if k = k' then some (True, .int k (k.wrap (x - y))) else none
  | .mul, .int k x, .int k' y => if k = k' then some (True, .int k (k.wrap (x * y))) else none
  | .quo, .int k x, .int k' y => if k = k' then some (y ≠ 0, .int k (k.wrap (x.tdiv y))) else none
  | .rem, .int k x, .int k' y => if k = k' then some (y ≠ 0, .int k (x.tmod y)) else none
  | .eql, .int k x, .int k' y => if k = k' then some (True, .bool (x == y)) else none
  | .neq, .int k x, .int k' y => if k = k' then some (True, .bool (x != y)) else none
  | .lss, .int k x, .int k' y => if k = k' then some (True, .bool (x < y)) else none
  | .leq, .int k x, .int k' y => if k = k' then some (True, .bool (x ≤ y)) else none
  | .gtr, .int k x, .int k' y => if k = k' then some (True, .bool (x > y)) else none
  | .geq, .int k x, .int k' y => if k = k' then some (True, .bool (x ≥ y)) else none
  | .xor, .int k x, .int k' y => if k = k' then some (True, .int k (bits .xor k x y)) else none
  | .and, .int k x, .int k' y => if k = k' then some (True, .int k (bits .and k x y)) else none
  | .add, .string x, .string y => some (x.size + y.size ≤ 9223372036854775807, .string (x ++ y))
  | .eql, .string x, .string y => some (True, .bool (x.toList == y.toList))
  | .neq, .string x, .string y => some (True, .bool !(x.toList == y.toList))
  | .lss, .string x, .string y => some (True, .bool (Op.bytesLess x.toList y.toList))
  | _, _, _ => none

theorem aBin_run {op : BinOp} {x y v : Value} {p : Prop} (h : aBin op x y = some (p, v)) (hp : p) (t : TypeId) (w : World) : (binOp op t x y).run P w = .ok v w := by
  unfold aBin at h
  split at h <;> (try (split at h)) <;> first
    | (simp only [Option.some.injEq, Prod.mk.injEq] at h; obtain ⟨rfl, rfl⟩ := h)
    | (exact absurd h (by simp))
  all_goals (try subst_vars)
  all_goals first
    | (simp [binOp, Op.intArith]; done)
    | (simp [binOp, Op.intDiv, hp]; done)
    | (simp [binOp, Op.intCmp]; done)
    | (simp [binOp, Op.intBits, bits]; done)
    | (rw [binOp_string_add, run_string_add_if, if_neg (by omega)])
    | (simp [binOp, Op.stringOp]; done)
theorem aBin_guard {op : BinOp} {x y v : Value} {p : Prop} (h : aBin op x y = some (p, v)) (t : TypeId) (X Y : Operand) (w : World) : (eqGuard op t X Y x y).run P w = .ok () w := by
  unfold aBin at h
  split at h <;> simp [eqGuard]
  all_goals (exact absurd h (by simp))

def eqLv : Value → Value → Option Bool
  | .int k x, .int k' y => if k = k' then some (x == y) else none
  | .bool x, .bool y => some (x == y)
  | .string x, .string y => some (x.toList == y.toList)
  | _, _ => none

end
end Go.Vl

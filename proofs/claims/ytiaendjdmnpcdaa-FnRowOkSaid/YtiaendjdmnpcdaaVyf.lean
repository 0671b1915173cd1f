/- V-logic, part yf: rows that are a list turned: borrowed, grown. -/
import Derived.Test.YtiaendjdmnpcdaaVye
namespace Go.Vl
open Go Go.RowKit
theorem brw {α : Type} {f : α → List Leaf} {l : List α} {sz : Nat} : Slot.one (.imm sz (((l.map f).drop 0).take l.length)) = Slot.one (.imm sz (l.map f)) := by rw [List.drop_zero, List.take_of_length_le (by simp)]
theorem brw' {α : Type} {f : α → List Leaf} {l : List α} {sz : Nat} : Slot.one (.imm sz (((l.map f).drop 0).take (l.map f).length)) = Slot.one (.imm sz (l.map f)) := by rw [List.drop_zero, List.take_of_length_le (by simp)]
theorem brwL {α : Type} {f : α → List Leaf} {l : List α} {sz : Nat} : Leaf.imm sz (((l.map f).drop 0).take l.length) = .imm sz (l.map f) := by rw [List.drop_zero, List.take_of_length_le (by simp)]
theorem brwL' {α : Type} {f : α → List Leaf} {l : List α} {sz : Nat} : Leaf.imm sz (((l.map f).drop 0).take (l.map f).length) = .imm sz (l.map f) := by rw [List.drop_zero, List.take_of_length_le (by simp)]
theorem brwG {α : Type} {f : α → List Leaf} {l : List α} {sz n : Nat} (h : l.length ≤ n) : Slot.one (.imm sz (((l.map f).drop 0).take n)) = Slot.one (.imm sz (l.map f)) := by rw [List.drop_zero, List.take_of_length_le (by simpa using h)]
theorem brwD {α : Type} {f : α → List Leaf} {l : List α} {sz d n : Nat} (h : l.length - d ≤ n) : Slot.one (.imm sz (((l.map f).drop d).take n)) = Slot.one (.imm sz ((l.drop d).map f)) := by rw [← List.map_drop, List.take_of_length_le (by simpa using h)]
theorem LeS.of_eq {s s' : Slot} (h : s = s') : LeS s s' := h ▸ LeS.refl s
section
variable {P : Program} {T : Tab} {S : St} {o : Oper}
/-- One thing put behind others. -/
theorem o_app1 (hT : TabOk P T) {X Y : Operand} {t : TypeId} (ho : o.op = .call { callee := .builtin .append, args := #[X, Y], argTypes := #[t, t] }) {i j : TI} {e : TypeId} (hi : T t = some i) (hd0 : i.d = .sl e) (hj : T e = some j)
    {α : Type} {f : α → List Leaf} {l : List α} {a : α} {k k2 q len sz : Nat} {e2 : TypeId} {row : List Leaf} (hX : ev S X = .one (.own k 0 len)) (hk : S.obj k = some (.arr e sz (l.map f))) (hlen : len = l.length)
    (hY : ev S Y = .one (.own k2 0 1)) (hk2 : S.obj k2 = some (.arr e2 sz [row])) (hrow : row = f a) (hsz : j.size = sz) (hq : S.obj q = none) (hq1 : 100 ≤ q) (hsum : (l.length + 1) * j.bytes ≤ 140737488355328) (h63 : l.length + 1 ≤ maxLen) :
    OpL P S o { dst := .one (.own q 0 (l.length + 1)), reads := [k, k2], kills := [k], sets := [(q, .arr e sz ((l ++ [a]).map f))] } := by
  subst hsz hlen hrow
  have h := o_append (rows := l.map f) (news := [f a]) hT ho hi hd0 hj hX hY (ks := [k]) (by simp [ownRows, hk, List.take_of_length_le]) (by simp [rowsAt, hk2]) hq hq1 (by simpa using hsum) (by simpa using h63)
  simpa [refsL] using h
/-- Many things put behind others. -/
theorem o_appN (hT : TabOk P T) {X Y : Operand} {t : TypeId} (ho : o.op = .call { callee := .builtin .append, args := #[X, Y], argTypes := #[t, t] }) {i j : TI} {e : TypeId} (hi : T t = some i) (hd0 : i.d = .sl e) (hj : T e = some j)
    {α : Type} {f : α → List Leaf} {l m : List α} {k q len sz : Nat} {lx : Leaf} (hX : ev S X = .one (.own k 0 len)) (hk : S.obj k = some (.arr e sz (l.map f))) (hlen : len = l.length)
    (hY : ev S Y = .one lx) (hn : rowsAt S j.size lx = some (m.map f)) (hsz : j.size = sz) (hq : S.obj q = none) (hq1 : 100 ≤ q) (hsum : (l.length + m.length) * j.bytes ≤ 140737488355328) (h63 : l.length + m.length ≤ maxLen) :
    OpL P S o { dst := .one (.own q 0 (l.length + m.length)), reads := k :: refsL lx, kills := [k], sets := [(q, .arr e sz ((l ++ m).map f))] } := by
  subst hsz hlen
  have h := o_append (rows := l.map f) (news := m.map f) hT ho hi hd0 hj hX hY (ks := [k]) (by simp [ownRows, hk, List.take_of_length_le]) hn hq hq1 (by simpa using hsum) (by simpa using h63)
  simpa [refsL] using h
/-- Many things put behind none. -/
theorem o_app0 (hT : TabOk P T) {X Y : Operand} {t : TypeId} (ho : o.op = .call { callee := .builtin .append, args := #[X, Y], argTypes := #[t, t] }) {i j : TI} {e : TypeId} (hi : T t = some i) (hd0 : i.d = .sl e) (hj : T e = some j)
    {α : Type} {f : α → List Leaf} {m : List α} {k q sz : Nat} {lx : Leaf} (hX : ev S X = .one (.own k 0 0)) (hk : S.obj k = some (.arr e sz []))
    (hY : ev S Y = .one lx) (hn : rowsAt S j.size lx = some (m.map f)) (hsz : j.size = sz) (hq : S.obj q = none) (hq1 : 100 ≤ q) (hsum : m.length * j.bytes ≤ 140737488355328) (h63 : m.length ≤ maxLen) :
    OpL P S o { dst := .one (.own q 0 m.length), reads := k :: refsL lx, kills := [k], sets := [(q, .arr e sz (m.map f))] } := by
  have h := o_appN (f := f) (l := []) (m := m) hT ho hi hd0 hj hX hk rfl hY hn hsz hq hq1 (by simpa using hsum) (by simpa using h63)
  simpa using h
/-- A store into a row of things. -/
theorem o_storeM (hT : TabOk P T) {t : TypeId} {A X : Operand} (ho : o.op = .store t A X) (hd0 : o.dst = none) {i : TI} (hi : T t = some i) {q r j E sz : Nat} {α : Type} {f : α → List Leaf} {l : List α} {c c' : α} {new : List Leaf} (hA : ev S A = .one (.elm q r j))
    (hq : S.obj q = some (.arr E sz (l.map f))) (hr : l[r]? = some c) {s : Slot} (hX : ev S X = s) (hn : leaves s = some new) (hp : plain new = true) (hk : new.length = i.size ∧ j + i.size ≤ sz) (hc : splice j new (f c) = f c') :
    OpL P S o { reads := [q], sets := [(q, .arr E sz ((l.set r c').map f))] } := by
  have h := o_store_elm hT ho hd0 hi hA hq (row := f c) (by rw [List.getElem?_map, hr]; rfl) hX hn hp hk
  rw [hc, ← List.map_set] at h
  exact h
/-- A load out of a row of things. -/
theorem o_loadM (hT : TabOk P T) {t : TypeId} {A : Operand} (ho : o.op = .load t A) {i : TI} (hi : T t = some i) {q r j E sz : Nat} {α : Type} {f : α → List Leaf} {l : List α} {c : α} (hA : ev S A = .one (.elm q r j))
    (hq : S.obj q = some (.arr E sz (l.map f))) (hr : l[r]? = some c) (hk : j + i.size ≤ sz ∧ j < sz) : OpL P S o { dst := cut i ((f c).drop j), reads := [q] } :=
  o_load_elm hT ho hi hA hq (row := f c) (by rw [List.getElem?_map, hr]; rfl) hk
end
end Go.Vl

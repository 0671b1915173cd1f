/- V-logic, part s: small rules that lead on. -/
import Derived.Test.YtiaendjdmnpcdaaVr
namespace Go.Vl
open Go Go.RowKit
section
variable {K : St → Prop} {Q : Post} {S : St} {id i l : Nat}
theorem kN (h : K S) : onNormal K Q .normal S := h
theorem kNr (h : Q .ret S) : onNormal K Q .ret S := h
theorem kNe (h : Q (.exit i) S) : onNormal K Q (.exit i) S := h
theorem kB (h : Q .normal S) : onExit id Q .normal S := h
theorem kBr (h : Q .ret S) : onExit id Q .ret S := h
theorem kBi (h : Q .normal S) : onExit id Q (.exit id) S := by simp only [onExit, if_true]; exact h
theorem kBo (hne : i ≠ id) (h : Q (.exit i) S) : onExit id Q (.exit i) S := by simp only [onExit, if_neg hne]; exact h
theorem kR {T : Tab} {fn : Func} {k : Nat} {P : Slot → List (Option Ob) → List Ob → Prop} (h : RetOk T fn k S P) : retQ T fn k P .ret S := h
theorem kRn {T : Tab} {fn : Func} {k : Nat} {P : Slot → List (Option Ob) → List Ob → Prop} (h : RetOk T fn k S P) : retQ T fn k P .normal S := h

/-- A result without new objects. -/
theorem ret0 {T : Tab} {fn : Func} {P : Slot → List (Option Ob) → List Ob → Prop} {ss : List Slot} {s : Slot} (h1 : fn.results.toList.mapM (resSlot T S) = some ss) (h2 : resAll ss = some s) (h : P (rnS (rho 0 []) s) [] []) : RetOk T fn 0 S P :=
  ⟨ss, s, [], [], h1, h2, rfl, List.nodup_nil, (by simp), h⟩
/-- A result of one new object. -/
theorem ret1 {T : Tab} {fn : Func} {P : Slot → List (Option Ob) → List Ob → Prop} {ss : List Slot} {s : Slot} {q : Nat} {ob : Ob} (h1 : fn.results.toList.mapM (resSlot T S) = some ss) (h2 : resAll ss = some s) (hq : S.obj q = some ob)
    (h : P (rnS (rho 0 [q]) s) [] [rnO (rho 0 [q]) ob]) : RetOk T fn 0 S P :=
  ⟨ss, s, [q], [ob], h1, h2, (by simp [hq]), (by simp), (fun _ _ => Nat.zero_le _), h⟩
end
end Go.Vl

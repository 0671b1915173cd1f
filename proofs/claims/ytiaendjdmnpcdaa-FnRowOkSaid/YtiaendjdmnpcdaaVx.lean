/- V-logic, part x: contracts by the walk. -/
import Derived.Test.YtiaendjdmnpcdaaVw
namespace Go.Vl
open Go Go.RowKit

def argL {α : Type} : List α → Nat → List (Nat × α)
  | [], _ => []
  | a :: l, i => (i, a) :: argL l (i + 1)
theorem alk_argL {α : Type} : ∀ (l : List α) (i t : Nat), alk (argL l i) t = if i ≤ t then l[t - i]? else none
  | [], i, t => by simp [argL, alk]
  | a :: l, i, t => by
    simp only [argL, alk, alk_argL l]
    by_cases h : t = i
    · subst h; simp
    · rw [if_neg h]
      by_cases h2 : i ≤ t
      · rw [if_pos (by omega), if_pos h2]
        rw [show t - i = (t - (i + 1)) + 1 by omega, List.getElem?_cons_succ]
      · rw [if_neg (by omega), if_neg h2]

def fArgs : List Slot → Nat → (List (Nat × Slot) → Prop) → Prop
  | [], _, k => k []
  | a :: l, i, k => fS a fun a => fArgs l (i + 1) fun l => k ((i, a) :: l)
theorem fArgs_eq : ∀ (l : List Slot) (i : Nat) (k : List (Nat × Slot) → Prop), fArgs l i k = k (argL l i)
  | [], _, _ => rfl
  | a :: l, i, k => by rw [fArgs, fS_eq, fArgs_eq]; rfl

/-- What a function's end must show. -/
def endQ (T : Tab) (fn : Func) (k : Nat) (Post : Slot → List (Option Ob) → List Ob → Prop) (e : Exit) (L : LS) : Prop :=
  match e with
  | .normal => RetOk T fn k L.st Post
  | .ret => RetOk T fn k L.st Post
  | _ => False

section
variable {P : Program} {T : Tab}

theorem callsV_vl (hT : TabOk P T) {f : FuncId} {fn : Func} {c : Code} {n : Nat} (hf : P.funcs[f]? = some fn) (hname : (fn.name == "runtime.NumGoroutine") = false) (hb : fn.body = some c) (hn : fn.ntmps = n)
    {args : List Slot} {objs : List Ob} (hk : objs.length ≤ 100) (hp : args.length ≤ n) {Post : Slot → List (Option Ob) → List Ob → Prop}
    (h : VL P n c ⟨argL args 0, argL objs 0, []⟩ (endQ T fn objs.length Post)) : CallsV P f args objs Post := by
  have e : S0 args objs = LS.st ⟨argL args 0, argL objs 0, []⟩ := by
    refine stOf_ext (fun t => ?_) (fun o => ?_)
    · show (args[t]?).getD .bad = (alk (argL args 0) t).getD .bad
      rw [alk_argL]; simp
    · show objs[o]? = alk (argL objs 0) o
      rw [alk_argL]; simp
  refine callsV_of hT hf hname hb hn hk hp ?_
  rw [e]
  refine VC.mono h.1 fun ex S hS => ?_
  obtain ⟨L, rfl, hq⟩ := hS
  cases ex <;> first | exact hq | exact hq.elim

theorem callsV_walk (hT : TabOk P T) {f : FuncId} {fn : Func} {c : Code} {n : Nat} (hf : P.funcs[f]? = some fn) (hname : (fn.name == "runtime.NumGoroutine") = false) (hb : fn.body = some c) (hn : fn.ntmps = n)
    {args : List Slot} {objs : List Ob} (hk : objs.length ≤ 100) (hp : args.length ≤ n) {Post : Slot → List (Option Ob) → List Ob → Prop}
    (h : fArgs args 0 fun ts => vcK P T n c ⟨ts, argL objs 0, []⟩ (endQ T fn objs.length Post)) : CallsV P f args objs Post := by
  rw [fArgs_eq] at h
  exact callsV_vl hT hf hname hb hn hk hp (vcK_ok hT h)

/-- A pure result. -/
theorem retP {fn : Func} {ss : List Slot} {s s' : Slot} {S : St} (h1 : fn.results.toList.mapM (resSlot T S) = some ss) (h2 : resAll ss = some s) (h3 : rnS (rho 0 []) s = s') : RetOk T fn 0 S (pureQ s') :=
  ret0 h1 h2 ⟨h3, rfl, rfl⟩
end
end Go.Vl

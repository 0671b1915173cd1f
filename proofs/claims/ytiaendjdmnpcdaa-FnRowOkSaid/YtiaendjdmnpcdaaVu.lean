/- V-logic, part u: regions whose order is drawn: what runs by itself; small rules for walks. -/
import Derived.Test.YtiaendjdmnpcdaaVt
namespace Go.Vl
open Go Go.RowKit

def addN (l : List Nat) (x : Nat) : List Nat := if l.contains x then l else x :: l
def clTab : List Oper → List (List Nat) → List (List Nat)
  | [], t => t
  | o :: l, t => clTab l (t ++ [o.after.toList.foldl (fun acc e => if Region.binds .any e then ((t[e.on]?).getD []).foldl addN (addN acc e.on) else acc) []])
def clOf (ops : Array Oper) (i : Nat) : List Nat := ((clTab ops.toList [])[i]?).getD []

def autoCan (T : Tab) (ops : Array Oper) : List Nat → St → List Stp × St × List Nat
  | [], S => ([], S, [])
  | i :: l, S => match ops[i]? with
    | none => ([], S, i :: l)
    | some o => match guardOn ops S o with
      | some true => match auto T S o with
        | some e => match e.kills with
          | [] => match autoCan T ops l (S.app o.dst e) with
            | (s, S', r) => (⟨i, some e, e.reads ++ e.sets.map (·.1), e.sets.map (·.1)⟩ :: s, S', r)
          | _ :: _ => ([], S, i :: l)
        | none => ([], S, i :: l)
      | some false => match autoCan T ops l (S.app o.dst { dst := .tup [] }) with
        | (s, S', r) => (⟨i, none, [], []⟩ :: s, S', r)
      | none => ([], S, i :: l)

section
variable {P : Program} {T : Tab} {n : Nat} {S Sf : St} {Q : Post} {ops : Array Oper}

theorem autoCan_ok (hT : TabOk P T) : ∀ {l : List Nat} {S S' : St} {st : List Stp} {r : List Nat}, autoCan T ops l S = (st, S', r) → ∀ {rest : List Stp}, Can P ops S' rest Sf → Can P ops S (st ++ rest) Sf
  | [], S, S', st, r, h, rest, hk => by simp [autoCan] at h; obtain ⟨rfl, rfl, rfl⟩ := h; exact hk
  | i :: l, S, S', st, r, h, rest, hk => by
    unfold autoCan at h
    split at h
    · cases h; exact hk
    · rename_i o ho
      split at h
      · rename_i hg
        split at h
        · rename_i e he
          split at h
          · rename_i hkl
            simp only [Prod.mk.injEq] at h
            obtain ⟨rfl, rfl, rfl⟩ := h
            refine .cons ⟨o, ho, hg, hkl, rfl, fun e' he' => ?_⟩ ?_
            · cases he'; exact (auto_ok hT he).w
            · have := autoCan_ok hT (l := l) (S := S.app o.dst e) rfl hk
              simpa [stApp, ho, Stp.eff] using this
          · cases h; exact hk
        · cases h; exact hk
      · rename_i hg
        simp only [Prod.mk.injEq] at h
        obtain ⟨rfl, rfl, rfl⟩ := h
        refine .cons ⟨o, ho, hg, rfl, rfl, fun e' he' => by cases he'⟩ ?_
        have := autoCan_ok hT (l := l) (S := S.app o.dst { dst := .tup [] }) rfl hk
        simpa [stApp, ho, Stp.eff] using this
      · cases h; exact hk

/-- What is left of a drawn region: its steps so far (newest last), the state, the operations to come. -/
def Dr (P : Program) (ops : Array Oper) (S : St) (l : List Nat) (st : List Stp) (K : St → List Stp → Prop) : Prop :=
  ∃ rest Sf, rest.map (·.i) = l ∧ Can P ops S rest Sf ∧ K Sf (st ++ rest)

theorem Dr.run (hT : TabOk P T) {l : List Nat} {S S' : St} {st st' : List Stp} {r : List Nat} {K : St → List Stp → Prop} (h : autoCan T ops l S = (st', S', r)) (hl : l = st'.map (·.i) ++ r) (k : Dr P ops S' r (st ++ st') K) : Dr P ops S l st K := by
  obtain ⟨rest, Sf, h1, h2, h3⟩ := k
  exact ⟨st' ++ rest, Sf, by rw [List.map_append, h1, hl], autoCan_ok hT h h2, by simpa using h3⟩
theorem Dr.op {i : Nat} {l : List Nat} {S : St} {st : List Stp} {K : St → List Stp → Prop} {o : Oper} (ho : ops[i]? = some o) (hg : guardOn ops S o = some true) {rd : List Nat} {E : Eff → Prop} {e : Eff} (hk : e.kills = []) (he : OpW P S o rd E) (hE : ∀ x, E x → x = e)
    (k : Dr P ops (S.app o.dst e) l (st ++ [⟨i, some e, rd, e.sets.map (·.1)⟩]) K) : Dr P ops S (i :: l) st K := by
  obtain ⟨rest, Sf, h1, h2, h3⟩ := k
  refine ⟨⟨i, some e, rd, e.sets.map (·.1)⟩ :: rest, Sf, by simp [h1], .cons ⟨o, ho, hg, hk, rfl, fun e' he' => ?_⟩ (by simpa [stApp, ho, Stp.eff] using h2), by simpa using h3⟩
  cases he'
  exact fun S' k1 k2 C B a w hR hd next Q hn => he S' k1 k2 C B a w hR hd next Q fun x B' v w' hx hr => hn x B' v w' (hE x hx) hr
theorem Dr.done {S : St} {st : List Stp} {K : St → List Stp → Prop} (h : K S st) : Dr P ops S [] st K := ⟨[], S, rfl, .nil, by simpa using h⟩

theorem vc_dr {id : Nat} (hm : P.follows .mixedOrders = true) (hin : dstsIn n ops = true) (hcl : clOk ops (clOf ops) = true)
    (h : Dr P ops S (List.range ops.size) [] (fun Sf l => pairsOk ops (clOf ops) l = true ∧ Q .normal Sf)) : VC P n (.region id ops true) S Q := by
  obtain ⟨rest, Sf, h1, h2, h3, h4⟩ := h
  exact vc_draw hm (clOf ops) hin hcl h2 h1 (by simpa using h3) h4
end
end Go.Vl

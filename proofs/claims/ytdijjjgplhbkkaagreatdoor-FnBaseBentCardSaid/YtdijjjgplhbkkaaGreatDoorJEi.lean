/- How great a table is, summed. The types of what is handed in, as leaves. Printed by our own gends.py. Laws: the columns of a table as they are: the program's are the reference's; what it gives back is its own. Laws: a row of a table as it is now: the program's is the reference's; what it gives back is its own. Law: a row of a table as it is now. Rows of a table that hold a value, told by their ids: both sides; integers marked, held. Law: the rows of a table that hold a value. Generic: a nil field of a thing becomes an own row without cells. Generic: an append onto an empty own row, whose outcome nobody writes from then on. -/
import Derived.Test.YtdijjjgplhbkkaaGreatDoorJEa
import Derived.Test.YtdijjjgplhbkkaaGreatDoorJEh
import Derived.Test.YtdijjjgplhbkkaaGreatDoorWk
set_option linter.unusedSimpArgs false
set_option linter.unusedVariables false
set_option linter.unnecessarySimpa false
set_option maxRecDepth 100000
set_option maxHeartbeats 16000000

namespace Go.Vl
open Go Go.RowKit Go.Proofs
def atId (n : Int) : List VRow → Nat → Int
  | [], _ => -1
  | r :: rs, i => if r.id == n then (i : Int) else atId n rs (i + 1)
def tAt (t : VTable) (n : Int) : Int := atId n t.rows 0
theorem atId_step {rs : List VRow} {n : Int} {i : Nat} (h : i < rs.length) : atId n (rs.drop i) i = if rs[i].id == n then (i : Int) else atId n (rs.drop (i + 1)) (i + 1) := by
  rw [List.drop_eq_getElem_cons h, atId]
theorem atId_end {rs : List VRow} {n : Int} {i : Nat} (h : rs.length ≤ i) : atId n (rs.drop i) i = -1 := by
  rw [List.drop_of_length_le h, atId]
theorem atId_lt (n : Int) : ∀ (rs : List VRow) (i : Nat), -1 ≤ atId n rs i ∧ atId n rs i < (i + rs.length : Nat)
  | [], i => by simp only [atId]; omega
  | r :: rs, i => by
    have h := atId_lt n rs (i + 1)
    rw [atId, List.length_cons]
    split <;> omega
theorem tAt_lt (t : VTable) (n : Int) : -1 ≤ tAt t n ∧ tAt t n < (t.rows.length : Nat) := by
  have h := atId_lt n t.rows 0
  unfold tAt; omega
abbrev rvS (x : List Val × Bool) : Slot := .tup [(false, [.own 0 0 x.1.length]), (false, [.g (.bool x.2)])]
abbrev rvN (x : List Val × Bool) : List Ob := [.arr 37 3 (x.1.map encVal)]
theorem grRvS (x : List Val × Bool) : GrS (rvS x) ∧ (∀ ob, some ob ∈ ([] : List (Option Ob)) → GrO ob) ∧ ∀ ob ∈ rvN x, GrO ob := by
  refine ⟨?_, fun _ h => by simp at h, fun ob h => by simp at h; subst h; exact grVals _⟩
  intro y hy l hl
  simp at hy
  rcases hy with rfl | rfl <;> simp at hl <;> subst hl <;> rfl
theorem rowFacts {t : VTable} (h : tabOk t = true) {i : Nat} (hi : i < t.rows.length) : (0 ≤ t.rows[i].ver ∧ t.rows[i].ver ≤ (t.changes.length : Int)) ∧ t.rows[i].vals.length = (tSh t t.rows[i].ver.toNat).length := by
  have hk := tabOk_iff.1 h
  obtain ⟨_, _, h3, h4, _⟩ := stGo_at hk.st i hi
  unfold rowSt at h4
  rw [Bool.and_eq_true] at h4
  exact ⟨h3, rowOk_len h4.1⟩
def idBox (n : Int) : Ob := .box [.g (.int .i64 n)]
theorem c_rowAt1 (r : VRow) (n : Int) : CallsV Tryz.prog 122 [.agg (encVRow r), .one (.ptr 0 0)] [idBox n] (funQ (bS (r.id == n)) [some (idBox n)] []) := by
  refine fun_walk hTb Tryz.func122 rfl rfl Tryz.ntmps122 (by simp) (by simp) ?_
  (conv => whnf)
  exact endG [] rfl rfl rfl rfl rfl ⟨rfl, rfl, rfl⟩
theorem c_indexRow (rs : List VRow) (n : Int) (hl : rs.length ≤ maxLen) : CallsV Tryz.prog 121 [vrowsI rs, .one (.clo 122 [0])] [idBox n] (funQ (iS (atId n rs 0)) [some (idBox n)] []) := by
  refine fun_walk hTb Tryz.func121 rfl rfl Tryz.ntmps121 (by simp) (by simp) ?_
  (conv => whnf)
  refine VL.loopI hTb (fun i => i ≤ rs.length ∧ atId n rs 0 = atId n (rs.drop i) i) (fun i => ⟨[(0, vrowsI rs), (1, .one (.clo 122 [0])), (7, iS ((rs.map encVRow).length : Nat)), (8, iS i)], [(0, idBox n)], []⟩) (fun i => rs.length - i) 0 ⟨Nat.zero_le _, rfl⟩
    (wk_to [(0, 0)] rfl rfl rfl ⟨rfl, rfl, rfl, rfl, trivial⟩ ⟨rfl, ⟨_, rfl, rfl⟩, trivial⟩) (fun i hi => ?_)
  obtain ⟨hi, hf⟩ := hi
  (conv => whnf)
  refine And.intro (fun h2 => ?_) (fun h2 => ?_)
  · have hlt : i < rs.length := by simpa using h2
    have hrow := rowVRow hlt
    have hc := c_rowAt1 rs[i] n
    have hst := atId_step (n := n) hlt
    generalize rs[i] = ri at hrow hc hst
    (conv => whnf); repeat' ((first | (refine And.intro ?_ ?_ <;> ((try intro h) <;> (try simp only [gS] at h) <;> first | exact absurd h gF | exact absurd h.symm gF | conv => whnf)) | (refine VR.op hTb rfl rfl (o_index_imm hTb rfl rfl rfl rfl rfl rfl rfl (by omega) (hrow)) rfl ?_) | (refine VR.fun hTb rfl rfl (o_funN hc true [0] (fun _ => ⟨rfl, by simp [idBox, GrO, GrL, isMem], by simp⟩) (by simp) rfl rfl rfl rfl rfl gQ rfl rfl) ?_)) <;> conv => whnf)
    · have h9 := h
      refine endG [] rfl rfl rfl rfl rfl ⟨?_, rfl, rfl⟩
      rw [hf, hst, if_pos h9]; rfl
    · have h9 := h
      refine ⟨i + 1, ⟨hlt, ?_⟩, by omega, wk_to [(0, 0)] rfl rfl rfl ⟨rfl, rfl, rfl, congrArg (fun x => Slot.one (.g (.int .i64 x))) (wrap64' (by omega)), trivial⟩ ⟨rfl, ⟨_, rfl, rfl⟩, trivial⟩⟩
      rw [hf, hst, if_neg (by rw [h9]; simp)]
  · (conv => whnf)
    refine endG [] rfl rfl rfl rfl rfl ⟨?_, rfl, rfl⟩
    rw [hf, atId_end (by simp at h2; omega)]; rfl
theorem c_rowAt (t : VTable) (n : Int) (hl : t.rows.length ≤ maxLen) : CallsV Tryz.prog 53 [.agg (encVTable t), iS n] [] (pureQ (iS (tAt t n))) := by
  have hc := c_indexRow t.rows n hl
  refine pure_walk hTb Tryz.func53 rfl rfl Tryz.ntmps53 (by simp) ?_
  (conv => whnf); repeat' ((first | (refine VR.fun hTb rfl rfl (o_funN hc true [103] (fun _ => ⟨rfl, by simp [idBox, GrO, GrL, isMem], by simp⟩) (by simp) rfl rfl rfl rfl rfl gQ rfl rfl) ?_)) <;> conv => whnf)
  rfl
theorem c_l3At (t : VTable) (n : Int) (hl : t.rows.length ≤ maxLen) : CallsV Tryz.prog 153 [.agg (encVTable t), iS n] [] (pureQ (iS (tAt t n))) := by
  refine pure_walk hTb Tryz.func153 rfl rfl Tryz.ntmps153 (by simp) ?_
  (conv => whnf)
  refine VL.loopI hTb (fun i => i ≤ t.rows.length ∧ tAt t n = atId n (t.rows.drop i) i) (fun i => ⟨[(2, .one (.ptr 102 0)), (1, iS n), (5, iS i)], [(102, .box (encVTable t))], []⟩) (fun i => t.rows.length - i) 0 ⟨Nat.zero_le _, rfl⟩
    (wk_to [(102, 102)] rfl rfl rfl ⟨rfl, rfl, rfl, trivial⟩ ⟨rfl, ⟨_, rfl, rfl⟩, trivial⟩) (fun i hi => ?_)
  obtain ⟨hi, hf⟩ := hi
  (conv => whnf)
  refine And.intro (fun h2 => ?_) (fun h2 => ?_)
  · have hlt : i < t.rows.length := by simpa using h2
    have hrow := rowVRow hlt
    have hst := atId_step (n := n) hlt
    generalize t.rows[i] = ri at hrow hst
    (conv => whnf); repeat' ((first | (refine And.intro ?_ ?_ <;> ((try intro h) <;> (try simp only [gS] at h) <;> first | exact absurd h gF | exact absurd h.symm gF | conv => whnf)) | (refine VR.op hTb rfl rfl (o_index_imm hTb rfl rfl rfl rfl rfl rfl rfl (by omega) (hrow)) rfl ?_)) <;> conv => whnf)
    · have h9 := h
      rw [hf, hst, if_pos h9]; rfl
    · have h9 := h
      refine ⟨i + 1, ⟨hlt, ?_⟩, by omega, wk_to [(102, 102)] rfl rfl rfl ⟨rfl, rfl, congrArg (fun x => Slot.one (.g (.int .i64 x))) (wrap64' (by omega)), trivial⟩ ⟨rfl, ⟨_, rfl, rfl⟩, trivial⟩⟩
      rw [hf, hst, if_neg (by rw [h9]; simp)]
  · (conv => whnf)
    rw [hf, atId_end (by simp at h2; omega)]; rfl
theorem All2.setL {α β : Type} {R : α → β → Prop} : ∀ {ls : List α} {vs : List β} {j : Nat} {x : α}, All2 R ls vs → (∀ v, vs[j]? = some v → R x v) → All2 R (ls.set j x) vs
  | [], [], _, _, h, _ => h
  | _ :: _, b :: _, 0, _, h, hx => ⟨hx b rfl, h.2⟩
  | _ :: _, _ :: _, _ + 1, _, h, hx => ⟨h.1, All2.setL h.2 fun v hv => hx v (by simpa using hv)⟩
theorem wk_nilBox (n : Nat) {L : LS} {q0 j q sz : Nat} {E : TypeId} {ls : List Leaf} (h0 : L.st.obj q0 = some (.box ls)) (hj : ls[j]? = some (.g (.slice none 0 0))) (hq : L.st.obj q = none) (hq1 : 100 ≤ q) :
    Wk n L.st (LS.st ⟨L.ts, (q0, .box (ls.set j (.own q 0 0))) :: (q, .arr E sz []) :: L.os, L.ks⟩) := by
  intro C B a w hn hR
  have h1 := Rel.newNil hR E sz hq hq1
  have hne : q0 ≠ q := fun e => by rw [e, hq] at h0; cases h0
  have h01 : (L.st.sets [(q, .arr E sz [])]).obj q0 = some (.box ls) := by rw [sets_one_obj, if_neg hne]; exact h0
  obtain ⟨b, m, cs, E1, hb, hh, hcn, hall⟩ := h1.objs q0 _ h01
  have h2 := h1.turn (ob' := .box (ls.set j (.own q 0 0))) (w' := w) h01 hb (by simp [SameShape]) rfl rfl rfl rfl (fun _ _ => rfl) (fun e er => by
    refine ⟨b, m, cs, E1, hb, hh, hcn, All2.setL (hall.mono e) fun v hv => ?_⟩
    obtain ⟨v2, hv2, h4⟩ := hall.get j _ hj
    rw [hv] at hv2; cases hv2
    have h5 : v = .slice none 0 0 := repG_eq h4
    rw [h5]
    exact ⟨E, sz, [], none, 0, arr_of (by rw [sets_one_obj, if_neg (Ne.symm hne), sets_one_obj, if_pos rfl]), by simp, rfl, Nat.le_refl _, by unfold maxLen; omega, .inl rfl⟩)
  refine ⟨B.set q none, ?_⟩
  have e1 : (⟨L.ts, (q0, .box (ls.set j (.own q 0 0))) :: (q, .arr E sz []) :: L.os, L.ks⟩ : LS) = (L.sets [(q, .arr E sz [])]).sets [(q0, .box (ls.set j (.own q 0 0)))] := rfl
  rw [e1, LS.st_sets, LS.st_sets]
  exact h2
theorem frkL (q sz k : Nat) (rows : List (List Leaf)) (l : Leaf) : frL q sz rows (kL [k] (kL [q] l)) = kL [k, q] l := by
  cases l with
  | own o a b =>
    by_cases h1 : o = q
    · have e : kL [q] (.own o a b) = .bad := by simp [kL, h1]
      have e2 : kL [k, q] (.own o a b) = .bad := by simp [kL, h1]
      rw [e, e2]; rfl
    · have e : kL [q] (.own o a b) = .own o a b := by simp [kL, h1]
      rw [e]
      by_cases h2 : o = k
      · have e : kL [k] (.own o a b) = .bad := by simp [kL, h2]
        have e2 : kL [k, q] (.own o a b) = .bad := by simp [kL, h2]
        rw [e, e2]; rfl
      · simp [kL, frL, h1, h2]
  | ptr o a =>
    by_cases h1 : o = q
    · have e : kL [q] (.ptr o a) = .bad := by simp [kL, h1]
      have e2 : kL [k, q] (.ptr o a) = .bad := by simp [kL, h1]
      rw [e, e2]; rfl
    · have e : kL [q] (.ptr o a) = .ptr o a := by simp [kL, h1]
      rw [e]
      by_cases h2 : o = k
      · have e : kL [k] (.ptr o a) = .bad := by simp [kL, h2]
        have e2 : kL [k, q] (.ptr o a) = .bad := by simp [kL, h2]
        rw [e, e2]; rfl
      · simp [kL, frL, h1, h2]
  | elm o a b =>
    by_cases h1 : o = q
    · have e : kL [q] (.elm o a b) = .bad := by simp [kL, h1]
      have e2 : kL [k, q] (.elm o a b) = .bad := by simp [kL, h1]
      rw [e, e2]; rfl
    · have e : kL [q] (.elm o a b) = .elm o a b := by simp [kL, h1]
      rw [e]
      by_cases h2 : o = k
      · have e : kL [k] (.elm o a b) = .bad := by simp [kL, h2]
        have e2 : kL [k, q] (.elm o a b) = .bad := by simp [kL, h2]
        rw [e, e2]; rfl
      · simp [kL, frL, h1, h2]
  | mp o =>
    by_cases h1 : o = q
    · have e : kL [q] (.mp o) = .bad := by simp [kL, h1]
      have e2 : kL [k, q] (.mp o) = .bad := by simp [kL, h1]
      rw [e, e2]; rfl
    · have e : kL [q] (.mp o) = .mp o := by simp [kL, h1]
      rw [e]
      by_cases h2 : o = k
      · have e : kL [k] (.mp o) = .bad := by simp [kL, h2]
        have e2 : kL [k, q] (.mp o) = .bad := by simp [kL, h2]
        rw [e, e2]; rfl
      · simp [kL, frL, h1, h2]
  | clo f os =>
    by_cases h1 : q ∈ os
    · have e : kL [q] (.clo f os) = .bad := by simp [kL, h1]
      have e2 : kL [k, q] (.clo f os) = .bad := by
        have : os.any [k, q].contains = true := List.any_eq_true.2 ⟨q, h1, by simp⟩
        show (if os.any [k, q].contains then Leaf.bad else .clo f os) = .bad
        rw [if_pos this]
      rw [e, e2]; rfl
    · have e : kL [q] (.clo f os) = .clo f os := by simp [kL, h1]
      rw [e]
      by_cases h2 : k ∈ os
      · have e : kL [k] (.clo f os) = .bad := by simp [kL, h2]
        have e2 : kL [k, q] (.clo f os) = .bad := by
          have : os.any [k, q].contains = true := List.any_eq_true.2 ⟨k, h2, by simp⟩
          show (if os.any [k, q].contains then Leaf.bad else .clo f os) = .bad
          rw [if_pos this]
        rw [e, e2]; rfl
      · have e : kL [k] (.clo f os) = .clo f os := by simp [kL, h2]
        have e2 : kL [k, q] (.clo f os) = .clo f os := by
          have : ¬ os.any [k, q].contains = true := by
            intro h
            obtain ⟨x, hx, hc⟩ := List.any_eq_true.1 h
            simp at hc
            rcases hc with rfl | rfl
            · exact h2 hx
            · exact h1 hx
          show (if os.any [k, q].contains then Leaf.bad else .clo f os) = _
          rw [if_neg this]
        rw [e, e2]; simp [frL, h1]
  | _ => rfl
theorem frkS (q sz k : Nat) (rows : List (List Leaf)) (s : Slot) : frS q sz rows (kS [k] (kS [q] s)) = kS [k, q] s := by
  cases s with
  | one l => exact congrArg Slot.one (frkL q sz k rows l)
  | agg ls => simp only [kS, frS, List.map_map]; exact congrArg Slot.agg (List.map_congr_left fun l _ => frkL q sz k rows l)
  | tup xs => simp only [kS, frS, List.map_map]; exact congrArg Slot.tup (List.map_congr_left fun x _ => by simp only [Function.comp, List.map_map]; exact congrArg (Prod.mk x.1) (List.map_congr_left fun l _ => frkL q sz k rows l))
  | bad => rfl
theorem frkO (q sz k : Nat) (rows : List (List Leaf)) (ob : Ob) : frO q sz rows (kO [k] (kO [q] ob)) = kO [k, q] ob := by
  cases ob with
  | box ls => simp only [kO, frO, List.map_map]; exact congrArg Ob.box (List.map_congr_left fun l _ => frkL q sz k rows l)
  | arr => rfl
  | map => rfl
  | reg E s r hs => simp only [kO, frO, List.map_map]; exact congrArg (Ob.reg E s r) (List.map_congr_left fun h _ => by simp only [Function.comp]; rw [frkL])
section
variable {P : Program} {T : Tab} {S : St} {o : Oper}
theorem o_appF (hT : TabOk P T) {X Y : Operand} {t : TypeId} (ho : o.op = .call { callee := .builtin .append, args := #[X, Y], argTypes := #[t, t] }) {i j : TI} {e : TypeId} (hi : T t = some i) (hd0 : i.d = .sl e) (hj : T e = some j)
    {k sz2 : Nat} {news : List (List Leaf)} (hX : ev S X = .one (.own k 0 0)) (hk : S.obj k = some (.arr e j.size [])) (hY : ev S Y = .one (.imm sz2 news)) (hn : sz2 = j.size) {sz : Nat} (hsz : j.size = sz) {q : Nat} (hq : S.obj q = none) (hq1 : 100 ≤ q)
    (hsum : news.length * j.bytes ≤ 140737488355328) (h63 : news.length ≤ maxLen) :
    OpL P S o { dst := .one (.imm sz news), reads := [q, k], kills := [k, q] } := by
  subst hsz hn
  have hkq : k ≠ q := fun e => by rw [e, hq] at hk; cases hk
  intro S' h1 h2 h3 C B a w hR hd
  have hA := o_append (S := S) hT ho hi hd0 hj hX hY (ks := [k]) (rows := []) (news := news) (by simp [ownRows, hk]) (by simp [rowsAt]) hq hq1 (by simpa using hsum) (by simpa using h63)
  have hq' : S'.obj q = none := (h2 q (by simp)).trans hq
  have hk' : S'.obj k = some (.arr e j.size []) := (h2 k (by simp)).trans hk
  have hXm : X ∈ o.op.operands := by simp [ho, Op.operands, Call.operands]
  have hYm : Y ∈ o.op.operands := by simp [ho, Op.operands, Call.operands]
  have hev : ∀ x, (ev (S'.kill [q]) x = ev S' x ∨ ev (S'.kill [q]) x = kS [q] (ev S' x)) := fun x => by
    cases x with
    | tmp t => exact .inr rfl
    | _ => exact .inl rfl
  have hG := hA (S'.kill [q]) (fun x hx => by
      have hx2 := h1 x hx
      have hx3 : x = X ∨ x = Y := by simpa [ho, Op.operands, Call.operands] using hx
      rcases hev x with e | e
      · rw [e, hx2]
      · rw [e, hx2]
        rcases hx3 with rfl | rfl
        · rw [hX]; simp [kS, kL, hkq]
        · rw [hY]; rfl) (fun r hr => by
      simp [refsL] at hr
      subst hr
      show (if [q].contains r then none else (S'.obj r).map (kO [q])) = S.obj r
      rw [if_neg (by simp [hkq]), hk', hk]; rfl) (fun r hr => by
      simp at hr
      subst hr
      show (if [r].contains r then none else (S'.obj r).map (kO [r])) = S.obj r
      rw [if_pos (by simp), hq]) C B a w (hR.kill [q]) hd
  obtain ⟨nx, v, w', B', hrun, hnx, hRel⟩ := hG
  have hoq : ((S'.kill [q]).app o.dst { dst := .one (.own q 0 (([] : List (List Leaf)).length + news.length)), reads := refsL (.own k 0 0) ++ refsL (.imm j.size news), kills := [k], sets := [(q, .arr e j.size ([] ++ news))] }).obj q = some (.arr e j.size news) := by
    cases o.dst <;> simp [St.app, St.put, St.sets]
  have hF := hRel.freeze hoq
  refine ⟨nx, v, w', B', hrun, hnx, ?_⟩
  refine (congrArg (fun s => Rel C s B' (a.put o.dst v) w') ?_).mp hF
  have ex : ∀ {s1 s2 : St}, (∀ t, s1.slot t = s2.slot t) → (∀ x, s1.obj x = s2.obj x) → s1 = s2 := fun {s1 s2} e1 e2 => by
    obtain ⟨a1, b1⟩ := s1; obtain ⟨a2, b2⟩ := s2
    congr
    · funext t; exact e1 t
    · funext x; exact e2 x
  have hobj : ∀ x, (if x = q then none else ((if x = q then some (Ob.arr e j.size ([] ++ news)) else if [k].contains x then none else ((if [q].contains x then none else (S'.obj x).map (kO [q])) : Option Ob).map (kO [k])) : Option Ob).map (frO q j.size news)) = (if [k, q].contains x then none else (S'.obj x).map (kO [k, q])) := by
    intro x
    by_cases h1 : x = q
    · rw [if_pos h1, if_pos (by simp [h1])]
    · rw [if_neg h1, if_neg h1]
      by_cases h2 : x = k
      · rw [if_pos (by simp [h2]), if_pos (by simp [h2])]; rfl
      · rw [if_neg (by simp [h2]), if_neg (by simp [h1]), if_neg (by simp [h1, h2])]
        cases S'.obj x with
        | none => rfl
        | some ob => exact congrArg some (frkO q j.size k news ob)
  cases o.dst with
  | none => exact ex (fun t => frkS q j.size k news (S'.slot t)) hobj
  | some d =>
    refine ex (fun t => ?_) hobj
    show frS q j.size news (if t = d then _ else kS [k] (kS [q] (S'.slot t))) = if t = d then _ else kS [k, q] (S'.slot t)
    by_cases h : t = d
    · rw [if_pos h, if_pos h]
      simp [frS, frL]
    · rw [if_neg h, if_neg h]
      exact frkS q j.size k news (S'.slot t)
end
end Go.Vl

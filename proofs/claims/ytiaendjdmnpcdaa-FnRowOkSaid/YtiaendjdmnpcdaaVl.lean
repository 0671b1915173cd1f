/- V-logic, part l: a call by contract. -/
import Derived.Test.YtiaendjdmnpcdaaVk
namespace Go.Vl
open Go Go.RowKit

/-- An operation's effects, of which one comes about; in local form. -/
def OpW (P : Program) (S : St) (o : Oper) (rd : List Nat) (E : Eff → Prop) : Prop :=
  ∀ S' : St, (∀ x, x ∈ o.op.operands → ev S' x = ev S x) → (∀ r, r ∈ rd → S'.obj r = S.obj r) →
    ∀ C B a w, Rel C S' B a w → (∀ x, o.dst = some x → x < C.n) → ∀ (next : Act → World → Prop) (Q : Exit → Act → World → Prop),
      (∀ e B' v w', E e → Rel C (S'.app o.dst e) B' (a.put o.dst v) w' → next (a.put o.dst v) w') → o.wp P a w next Q

theorem OpL.w {P : Program} {S : St} {o : Oper} {e : Eff} (h : OpL P S o e) : OpW P S o (e.reads ++ e.sets.map (·.1)) (fun x => x = e) := by
  intro S' h1 h2 C B a w hR hd next Q hk
  obtain ⟨nx, v, w', B', hrun, hnx, hr⟩ := h S' h1 (fun r hr => h2 r (List.mem_append.2 (.inl hr))) (fun r hr => h2 r (List.mem_append.2 (.inr hr))) C B a w hR hd
  unfold Oper.wp
  rw [hrun]
  rcases hnx with rfl | ⟨rfl, rfl⟩
  · exact hk e B' v w' rfl hr
  · exact hk e B' undef w' rfl hr

theorem vo_opw {P : Program} {n : Nat} {S : St} {ops : Array Oper} {i : Nat} {rest : List Nat} {K : St → Prop} (hin : dstsIn n ops = true) {o : Oper} (hi : ops[i]? = some o) (hg : guardOn ops S o = some true) {rd : List Nat} {E : Eff → Prop} (he : OpW P S o rd E)
    (h : ∀ e, E e → VO P n ops rest (S.app o.dst e) K) : VO P n ops (i :: rest) S K := by
  intro Q C B a w hn hR hk
  have hw := guard_wanted hR hg (fun j want t _ hj => by
    cases hjj : ops[j]? with
    | none => simp [hjj] at hj
    | some oj => simp [hjj] at hj; rw [hn]; exact dstsIn_of hin hjj t hj)
  simp only [wpOps, hi, hw, if_true]
  exact .inl (he S (fun _ _ => rfl) (fun _ _ => rfl) C B a w hR (fun t ht => by rw [hn]; exact dstsIn_of hin hi t ht) _ _
    fun e B' v w' hE hr => h e hE Q C B' _ w' hn hr hk)

-- how a call sees what it is given
def vL (g : Bool) (S : St) (ids : List Nat) : Leaf → Leaf
  | .own o off len => if ids.contains o then rn ids.idxOf? (.own o off len) else if g then (match S.obj o with | some (.arr _ sz rows) => .imm sz ((rows.drop off).take len) | _ => .bad) else .bad
  | l => rn ids.idxOf? l
def vS (g : Bool) (S : St) (ids : List Nat) : Slot → Slot
  | .one l => .one (vL g S ids l)
  | .agg ls => .agg (ls.map (vL g S ids))
  | .tup xs => .tup (xs.map fun x => (x.1, x.2.map (vL g S ids)))
  | .bad => .bad
def vO (g : Bool) (S : St) (ids : List Nat) : Ob → Ob
  | .box ls => .box (ls.map (vL g S ids))
  | ob => ob

def refsL : Leaf → List Nat
  | .own o _ _ => [o]
  | _ => []
def refsS : Slot → List Nat
  | .one l => refsL l
  | .agg ls => ls.flatMap refsL
  | .tup xs => xs.flatMap fun x => x.2.flatMap refsL
  | .bad => []
def refsO : Ob → List Nat
  | .box ls => ls.flatMap refsL
  | _ => []

theorem vL_same {g : Bool} {S S' : St} {ids : List Nat} {l : Leaf} (h : ∀ r ∈ refsL l, S'.obj r = S.obj r) : vL g S' ids l = vL g S ids l := by
  cases l <;> simp only [vL]
  rw [h _ (by simp [refsL])]
theorem vS_same {g : Bool} {S S' : St} {ids : List Nat} {s : Slot} (h : ∀ r ∈ refsS s, S'.obj r = S.obj r) : vS g S' ids s = vS g S ids s := by
  cases s with
  | one l => simp only [vS]; rw [vL_same h]
  | agg ls => simp only [vS]; rw [List.map_congr_left fun l hl => vL_same fun r hr => h r (List.mem_flatMap.2 ⟨l, hl, hr⟩)]
  | tup xs =>
    simp only [vS]
    congr 1
    exact List.map_congr_left fun x hx => by
      rw [List.map_congr_left fun l hl => vL_same fun r hr => h r (List.mem_flatMap.2 ⟨x, hx, List.mem_flatMap.2 ⟨l, hl, hr⟩⟩)]
  | bad => rfl
theorem vO_same {g : Bool} {S S' : St} {ids : List Nat} {s : Ob} (h : ∀ r ∈ refsO s, S'.obj r = S.obj r) : vO g S' ids s = vO g S ids s := by
  cases s with
  | box ls => simp only [vO]; rw [List.map_congr_left fun l hl => vL_same fun r hr => h r (List.mem_flatMap.2 ⟨l, hl, hr⟩)]
  | arr E sz rows => rfl
  | map es => rfl

theorem vO_shape (g : Bool) (S : St) (ids : List Nat) (ob : Ob) : SameShape ob (vO g S ids ob) := by cases ob <;> simp [vO, SameShape]
theorem rnO_shape (ρ : Nat → Option Nat) (ob : Ob) : SameShape ob (rnO ρ ob) := by cases ob <;> simp [rnO, SameShape]

def vB (ids : List Nat) (B : Pl) : Pl := fun k => ((ids[k]?).map B).join
def vD (g : Bool) (C : Ctx) (S : St) (B : Pl) (b : Nat) : Prop := if g then C.din b else dep C.din S B b

section
variable {P : Program} {C : Ctx} {S : St} {B : Pl} {a : Act} {w : World} {g : Bool} {ids : List Nat} {obs : List Ob}

theorem ids_live (hids : ids.mapM S.obj = some obs) {k i : Nat} (hk : ids[k]? = some i) : ∃ ob, S.obj i = some ob ∧ obs[k]? = some ob := by
  have hlt : k < obs.length := by
    rw [← mapM_length hids]
    rcases Nat.lt_or_ge k ids.length with h | h; exact h; rw [List.getElem?_eq_none h] at hk; cases hk
  obtain ⟨i', hi', hoi, _⟩ := (mapM_get hids k obs[k]).1 (List.getElem?_eq_getElem hlt)
  rw [hk] at hi'; cases hi'
  exact ⟨obs[k], hoi, List.getElem?_eq_getElem hlt⟩
theorem obs_ids (hids : ids.mapM S.obj = some obs) {k : Nat} {ob : Ob} (hk : obs[k]? = some ob) : ∃ i, ids[k]? = some i ∧ S.obj i = some ob := by
  obtain ⟨i, hi, ho, _⟩ := (mapM_get hids k ob).1 hk
  exact ⟨i, hi, ho⟩

theorem view_dep (hids : ids.mapM S.obj = some obs) : ∀ b, dep C.din S B b → dep (vD g C S B) (So (obs.map (vO g S ids))) (vB ids B) b := by
  intro b hd
  refine ⟨by unfold vD; split; exact hd.1; exact hd, fun k m hk hb => ?_⟩
  simp [So] at hk
  obtain ⟨i, hi, ho⟩ := obs_ids hids (k := k) (List.getElem?_eq_getElem hk)
  simp only [vB, hi, Option.map_some, Option.join_some] at hb
  exact hd.2 i m (by simp [ho]) hb

theorem view_rep (hR : Rel C S B a w) (hids : ids.mapM S.obj = some obs) (_hnd : ids.Nodup) {l : Leaf} {v : Value} (h : LRep w C.din S B l v) :
    LRep w (vD g C S B) (So (obs.map (vO g S ids))) (vB ids B) (vL g S ids l) v := by
  have hrn : LRep w (vD g C S B) (So (obs.map (vO g S ids))) (vB ids B) (rn ids.idxOf? l) v := by
    refine LRep.rn (Nat.le_refl _) (fun _ _ _ => rfl) (fun b hb _ => view_dep hids b hb) (fun o k ob hk ho => ?_) h
    have hi := idxOf?_spec hk
    obtain ⟨ob', ho', hobs⟩ := ids_live hids hi
    rw [ho] at ho'; cases ho'
    exact ⟨by simp [vB, hi], vO g S ids ob, by simp [So, hobs], vO_shape _ _ _ _⟩
  cases l with
  | own o off len =>
    by_cases hni : ids.contains o = true
    · have e : vL g S ids (.own o off len) = rn ids.idxOf? (.own o off len) := if_pos hni
      rw [e]; exact hrn
    · by_cases hg : g = true
      · have e : vL g S ids (.own o off len) = (match S.obj o with | some (.arr _ sz rows) => .imm sz ((rows.drop off).take len) | _ => .bad) := (if_neg hni).trans (if_pos hg)
        rw [e]
        obtain ⟨E, sz, rows, A, c, ho, hlen, hv, hlc, hcm, hc⟩ := h
        rw [ho]
        show RepL w _ (.imm sz ((rows.drop off).take len)) v
        rw [RepL.eq_2]
        have hl2 : ((rows.drop off).take len).length = len := by simp; omega
        refine ⟨A, c, by rw [hl2]; exact hv, by omega, hcm, ?_⟩
        rcases Nat.eq_zero_or_pos len with h0 | h0
        · left; subst h0; simp
        · right
          rcases hc with hc0 | ⟨b, n, hb, hA, hroom⟩
          · omega
          · have hm := hR.mine o b n (by simp [ho]) hb
            have hob := hR.objs o _ ho
            rcases hob with ⟨hr0, _⟩ | ⟨b', n', cs, hb', hh, hcn, hone, hle, hrows⟩
            · subst hr0; simp at hlen; omega
            · rw [hb] at hb'; cases hb'
              have hdb : dep (vD g C S B) (So (obs.map (vO g S ids))) (vB ids B) b := by
                refine ⟨by unfold vD; rw [if_pos hg]; exact hm.2.2, fun k m hk hkb => ?_⟩
                simp [So] at hk
                obtain ⟨i, hi, hoi⟩ := obs_ids hids (k := k) (List.getElem?_eq_getElem hk)
                simp only [vB, hi, Option.map_some, Option.join_some] at hkb
                have := hR.inj o i b n m (by simp [ho]) (by simp [hoi]) hb hkb
                subst this
                exact hni (by simpa using List.mem_of_getElem? hi)
              refine ⟨⟨b, off * sz, none⟩, hA, hdb, hm.1, RepRs_of fun i r hi => ?_⟩
              rw [List.getElem?_take] at hi
              split at hi
              · rename_i hil
                rw [List.getElem?_drop] at hi
                have ha := hrows _ _ hi
                have hri : off + i < rows.length := by omega
                have h6 : (off + i + 1) * sz ≤ rows.length * sz := Nat.mul_le_mul_right _ hri
                rw [Nat.succ_mul] at h6
                refine ⟨by have := ha.length; simp at this; omega, RepR_of fun j l hj => ?_⟩
                obtain ⟨x, hx, hxr⟩ := ha.get j l hj
                refine ⟨x, ?_, RepL_mono (Nat.le_refl _) (fun _ _ _ => rfl) (fun b hb _ => view_dep hids b hb) _ _ hxr⟩
                rw [add_mk, cell_blk hh]
                rw [List.getElem?_take] at hx
                split at hx
                · rw [List.getElem?_drop] at hx
                  rw [show off * sz + (0 + i * sz + j) = (off + i) * sz + j from by rw [Nat.add_mul]; omega]
                  simpa using hx
                · cases hx
              · cases hi
      · have h1 := LRep.oneCell h
        have e : vL g S ids (.own o off len) = .bad := (if_neg hni).trans (if_neg hg)
        rw [e]; exact h1
  | _ => exact hrn

theorem view_srep (hR : Rel C S B a w) (hids : ids.mapM S.obj = some obs) (hnd : ids.Nodup) {s : Slot} {v : Value} (h : SRep (LRep w C.din S B) s v) :
    SRep (LRep w (vD g C S B) (So (obs.map (vO g S ids))) (vB ids B)) (vS g S ids s) v := by
  have e : ∀ l v, LRep w C.din S B l v → LRep w (vD g C S B) (So (obs.map (vO g S ids))) (vB ids B) (vL g S ids l) v := fun l v hl => view_rep hR hids hnd hl
  cases s with
  | one l => exact e _ _ h
  | agg ls => obtain ⟨vs, hv, ha⟩ := h; exact ⟨vs, hv, All2.map_left (ha.mono e)⟩
  | tup xs =>
    obtain ⟨vs, hv, ha⟩ := h
    refine ⟨vs, hv, All2.map_left (ha.mono fun x u hx => ?_)⟩
    rcases hx with ⟨h1, cs, hu, hc⟩ | ⟨h1, l, hl, hr⟩
    · exact .inl ⟨h1, cs, hu, All2.map_left (hc.mono e)⟩
    · exact .inr ⟨h1, vL g S ids l, by simp [hl], e _ _ hr⟩
  | bad => trivial

theorem view_args (hR : Rel C S B a w) (hids : ids.mapM S.obj = some obs) (hnd : ids.Nodup) : ArgsOk w (vD g C S B) (obs.map (vO g S ids)) (vB ids B) := by
  have live : ∀ k, (So (obs.map (vO g S ids))).obj k ≠ none → ∃ i, ids[k]? = some i ∧ S.obj i ≠ none ∧ vB ids B k = B i := by
    intro k hk
    simp [So] at hk
    obtain ⟨i, hi, hoi⟩ := obs_ids hids (k := k) (List.getElem?_eq_getElem hk)
    exact ⟨i, hi, by simp [hoi], by simp [vB, hi]⟩
  refine ⟨fun k ob hk => ?_, fun k k' b n n' hk hk' hb hb' => ?_, fun k b n hk hb => ?_⟩
  · simp at hk
    obtain ⟨ob0, h0, rfl⟩ := hk
    obtain ⟨i, hi, hoi⟩ := obs_ids hids h0
    have hB : vB ids B k = B i := by simp [vB, hi]
    have := hR.objs i ob0 hoi
    cases ob0 with
    | box ls => obtain ⟨b, n, cs, E, hb, hc, hn, ha⟩ := this; exact ⟨b, n, cs, E, hB.trans hb, hc, hn, All2.map_left (ha.mono fun l v hl => view_rep hR hids hnd hl)⟩
    | arr E sz rows =>
      rcases this with h | ⟨b, n, cs, hb, hc, hn, h1, h2, h3⟩
      · exact .inl ⟨h.1, hB.trans h.2⟩
      · exact .inr ⟨b, n, cs, hB.trans hb, hc, hn, h1, h2, fun i r hi => (h3 i r hi).mono fun l v hl => RepL_mono (Nat.le_refl _) (fun _ _ _ => rfl) (fun b hb _ => view_dep hids b hb) l v hl⟩
    | map es => obtain ⟨b, n, ens, clock, hb, hc, he⟩ := this; exact ⟨b, n, ens, clock, hB.trans hb, hc, he⟩
  · obtain ⟨i, hi, hl, e⟩ := live k hk
    obtain ⟨i', hi', hl', e'⟩ := live k' hk'
    have := hR.inj i i' b n n' hl hl' (by rw [← e]; exact hb) (by rw [← e']; exact hb')
    subst this
    have h1 := idxOf?_of hnd hi
    rw [idxOf?_of hnd hi'] at h1
    exact (Option.some.inj h1).symm
  · obtain ⟨i, hi, hl, e⟩ := live k hk
    exact (hR.mine i b n hl (by rw [← e]; exact hb)).1
end
end Go.Vl

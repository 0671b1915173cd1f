/- V-logic, part ym: what a call hands back as its own may be taken as what nobody writes. -/
import Derived.Test.YtdijjjgplhbkkaaGreatDoorWj
set_option linter.unusedSimpArgs false
set_option linter.unusedVariables false
set_option linter.unnecessarySimpa false
namespace Go.Vl
open Go Go.RowKit
section
variable {P : Program} {w : World} {D : Nat → Prop} {S : St} {B : Pl} {Dp : Nat → Prop}
theorem own_imm {o off len : Nat} {ob : Ob} {v : Value} (hob : S.obj o = some ob) (hrep : ObRep w D S B o ob) (hdx : ∀ x, Ow B o x → Dp x ∧ x < w.heap.size) (hrl : ∀ l v, RepL w (dep D S B) l v → RepL w Dp l v) (h : LRep w D S B (.own o off len) v) :
    (∃ sz rows, (match S.obj o with
      | some (.arr _ sz rows) => Leaf.imm sz ((rows.drop off).take len)
      | some (.reg _ sz rows []) => .imm sz (((unNss rows).drop off).take len)
      | _ => .bad) = .imm sz rows ∧ RepL w Dp (.imm sz rows) v) ∨ (match S.obj o with
      | some (.arr _ sz rows) => Leaf.imm sz ((rows.drop off).take len)
      | some (.reg _ sz rows []) => .imm sz (((unNss rows).drop off).take len)
      | _ => .bad) = .bad := by
  obtain ⟨E, sz, rows, A, c, ho, hlen, hv, hlc, hcm, hc⟩ := h
  obtain ⟨ob', hob', hrw⟩ := arr_obj ho
  rw [hob] at hob'; cases hob'
  rw [hob]
  cases ob with
  | box => simp [Ob.rws] at hrw
  | map => simp [Ob.rws] at hrw
  | arr E1 sz1 rows1 =>
    simp [Ob.rws] at hrw
    obtain ⟨rfl, rfl, rfl⟩ := hrw
    refine .inl ⟨sz1, (rows1.drop off).take len, rfl, ?_⟩
    rw [RepL.eq_2]
    have hl2 : ((rows1.drop off).take len).length = len := by simp; omega
    refine ⟨A, c, by rw [hl2]; exact hv, by omega, hcm, ?_⟩
    rcases Nat.eq_zero_or_pos len with h0 | h0
    · left; subst h0; simp
    · right
      rcases hc with hc0 | ⟨b, n, hb, hA, hroom⟩
      · omega
      · rcases hrep with ⟨hr0, _⟩ | ⟨b', n', cs, hb', hh, hcn, hone, hle, hrows⟩
        · subst hr0; simp at hlen; omega
        · rw [hb] at hb'; cases hb'
          obtain ⟨hdb, hblt⟩ := hdx b (.at hb)
          refine ⟨⟨b, off * sz1, none⟩, hA, hdb, hblt, RepRs_of fun i r hi => ?_⟩
          rw [List.getElem?_take] at hi
          split at hi
          · rename_i hil
            rw [List.getElem?_drop] at hi
            have ha := hrows _ _ hi
            have hri : off + i < rows1.length := by omega
            have h6 : (off + i + 1) * sz1 ≤ rows1.length * sz1 := Nat.mul_le_mul_right _ hri
            rw [Nat.succ_mul] at h6
            refine ⟨by have := ha.length; simp at this; omega, RepR_of fun j l hj => ?_⟩
            obtain ⟨x, hx, hxr⟩ := ha.get j l hj
            refine ⟨x, ?_, hrl _ _ hxr⟩
            rw [add_mk, cell_blk hh]
            rw [List.getElem?_take] at hx
            split at hx
            · rw [List.getElem?_drop] at hx
              rw [show off * sz1 + (0 + i * sz1 + j) = (off + i) * sz1 + j from by rw [Nat.add_mul]; omega]
              simpa using hx
            · cases hx
          · cases hi
  | reg E1 sz1 rows1 hs =>
    simp [Ob.rws] at hrw
    obtain ⟨rfl, rfl, rfl⟩ := hrw
    cases hs with
    | cons => exact .inr rfl
    | nil =>
      refine .inl ⟨sz1, ((unNss rows1).drop off).take len, rfl, ?_⟩
      rw [RepL.eq_2]
      have hl2 : (((unNss rows1).drop off).take len).length = len := by simp [unNss_length]; omega
      refine ⟨A, c, by rw [hl2]; exact hv, by omega, hcm, ?_⟩
      rcases Nat.eq_zero_or_pos len with h0 | h0
      · left; subst h0; simp
      · right
        rcases hc with hc0 | ⟨b, n, hb, hA, hroom⟩
        · omega
        · rcases hrep with ⟨hr0, _⟩ | ⟨b', n', cs, zf, hb', hh, hcn, hone, hle, hbz, hrows⟩
          · subst hr0; simp at hlen; omega
          · rw [hb] at hb'; cases hb'
            obtain ⟨hdb, hblt⟩ := hdx b (.at hb)
            exact ⟨⟨b, off * sz1, none⟩, hA, hdb, hblt, hrows.rep hrl (fun x hx => (hdx x (.inr hx)).1) hh off len⟩
theorem CallsV.pure {f : FuncId} {args : List Slot} {s s' : Slot} {news : List Ob} (h : CallsV P f args [] (funQ s [] news)) (e : vS true (Sr [] news) [] s = s') : CallsV P f args [] (pureQ s') := by
  subst e
  refine ⟨h.1, fun w B D vals hA hargs => (h.2 w B D vals hA hargs).mono ?_⟩
  rintro ex w' ⟨v, s1, outs, news1, B', rfl, ⟨rfl, rfl, rfl⟩, hres, hs⟩
  obtain ⟨B0, _⟩ : ∃ B0 : Pl, True := ⟨⟨fun _ => none, fun _ _ => False⟩, trivial⟩
  refine ⟨v, _, [], [], B0, rfl, ⟨rfl, rfl, rfl⟩, ⟨rfl, fun o ob ho => by simp [Sr] at ho, fun o o' b ho => by simp [Sr] at ho, fun o ho => by simp at ho, fun o b ho => by simp [Sr] at ho, hres.frame, fun o ob ho => by simp at ho⟩, ?_⟩
  have hd : ∀ b, dep (dinOf w D [] B) (Sr [] news1) B' b → dep (dinOf w D [] B) (Sr [] []) B0 b := fun b h => ⟨h.1, fun o ho => by simp [Sr] at ho⟩
  have hown : ∀ o b, (Sr [] news1).obj o ≠ none → Ow B' o b → dep (dinOf w D [] B) (Sr [] []) B0 b ∧ b < w'.heap.size := by
    intro o b ho hb
    have hl := hres.ltO o b ho hb
    refine ⟨⟨.inr ?_, fun o ho => by simp [Sr] at ho⟩, hl.1⟩
    exact hl.2.elim .inr .inl
  have hrl : ∀ l v, RepL w' (dep (dinOf w D [] B) (Sr [] news1) B') l v → RepL w' (dep (dinOf w D [] B) (Sr [] []) B0) l v := fun l v hl => RepL_mono (Nat.le_refl _) (fun _ _ _ => rfl) (fun b h _ => hd b h) l v hl
  have hl : ∀ l v, LRep w' (dinOf w D [] B) (Sr [] news1) B' l v → LRep w' (dinOf w D [] B) (Sr [] []) B0 (vL true (Sr [] news1) [] l) v := by
    intro l v hl
    have hrn : LRep w' (dinOf w D [] B) (Sr [] []) B0 (rn (List.idxOf? · ([] : List Nat)) l) v :=
      LRep.rn (Nat.le_refl _) (fun _ _ _ => rfl) (fun b h _ => hd b h) (fun o o' ob hr ho => by simp at hr) hl
    cases l with
    | own o off len =>
      have h1 := LRep.oneCell hl
      have hlive : (Sr [] news1).obj o ≠ none := by
        obtain ⟨_, _, _, _, _, ho, _⟩ := hl
        obtain ⟨ob, hob, _⟩ := arr_obj ho
        simp [hob]
      obtain ⟨ob, hob⟩ := Option.ne_none_iff_exists'.1 hlive
      have e : vL true (Sr [] news1) [] (.own o off len) = (match (Sr [] news1).obj o with
        | some (.arr _ sz rows) => .imm sz ((rows.drop off).take len)
        | some (.reg _ sz rows []) => .imm sz (((unNss rows).drop off).take len)
        | _ => .bad) := rfl
      rcases own_imm hob (hres.obs o ob hob) (fun x hx => hown o x hlive hx) hrl hl with ⟨sz, rows, e2, h2⟩ | e2
      · rw [e, e2]; exact h2
      · rw [e, e2]; exact h1
    | _ => exact hrn
  cases s1 with
  | one l => exact hl _ _ hs
  | agg ls => obtain ⟨vs, hv, ha⟩ := hs; exact ⟨vs, hv, All2.map_left (ha.mono hl)⟩
  | tup xs =>
    obtain ⟨vs, hv, ha⟩ := hs
    refine ⟨vs, hv, All2.map_left (ha.mono fun x u hx => ?_)⟩
    rcases hx with ⟨h1, cs, hu, hc⟩ | ⟨h1, l, hl', hr⟩
    · exact .inl ⟨h1, cs, hu, All2.map_left (hc.mono hl)⟩
    · exact .inr ⟨h1, vL true (Sr [] news1) [] l, by simp [hl'], hl _ _ hr⟩
  | bad => trivial
end
end Go.Vl

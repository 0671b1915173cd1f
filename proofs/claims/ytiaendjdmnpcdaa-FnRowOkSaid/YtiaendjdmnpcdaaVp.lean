/- V-logic, part p: append. -/
import Derived.Test.YtiaendjdmnpcdaaVo
namespace Go.Vl
open Go Go.RowKit

section
variable {P : Program} {T : Tab} {S : St} {o : Oper} {C : Ctx} {B : Pl} {a : Act} {w w' : World}

/-- Objects go, one comes in place of them, in a block of theirs or in a new one. -/
theorem Rel.move (hR : Rel C S B a w) {ks : List Nat} {q : Nat} {ob : Ob} {p : Option (Nat × Nat)} (hq : S.obj q = none) (hq1 : 100 ≤ q)
    (h1 : w'.os = w.os) (h2 : w'.tape = w.tape) (h3 : w'.output = w.output) (hs : w.heap.size ≤ w'.heap.size)
    (hk : ∀ x, x < w.heap.size → (∀ k ∈ ks, ∀ n, S.obj k ≠ none → B k ≠ some (x, n)) → w'.heap[x]? = w.heap[x]?)
    (hp : ∀ b n, p = some (b, n) → (∃ k ∈ ks, ∃ n', S.obj k ≠ none ∧ B k = some (b, n')) ∨ (w.heap.size ≤ b ∧ b < w'.heap.size))
    (hob : (∀ l v, RepL w (dep C.din S B) l v → RepL w' (dep C.din ((S.kill ks).sets [(q, ob)]) (B.set q p)) l v) → ObRep w' C.din ((S.kill ks).sets [(q, ob)]) (B.set q p) q ob) :
    Rel C ((S.kill ks).sets [(q, ob)]) (B.set q p) a w' ∧ (∀ l v, LRep w C.din S B l v → LRep w' C.din ((S.kill ks).sets [(q, ob)]) (B.set q p) (kL ks l) v) := by
  generalize hS2 : (S.kill ks).sets [(q, ob)] = S2 at *
  have o2q : S2.obj q = some ob := by rw [← hS2]; simp [sets_one_obj]
  have o2 : ∀ x, x ≠ q → S2.obj x = if ks.contains x then none else (S.obj x).map (kO ks) := fun x hx => by rw [← hS2, sets_one_obj, if_neg hx, kill_obj]
  have s2 : ∀ t, S2.slot t = kS ks (S.slot t) := fun t => by rw [← hS2, sets_one_slot, kill_slot]
  have hBo : ∀ y, y ≠ q → (B.set q p) y = B y := fun y hy => by simp [Pl.set, hy]
  have hBs : (B.set q p) q = p := by simp [Pl.set]
  have live : ∀ x, x ≠ q → S2.obj x ≠ none → S.obj x ≠ none ∧ ks.contains x = false := by
    intro x hx h
    rw [o2 x hx] at h
    split at h
    · exact absurd rfl h
    · rename_i hc
      exact ⟨fun h0 => h (by simp [h0]), by simpa using hc⟩
  have hd : ∀ x, dep C.din S B x → x < w.heap.size → dep C.din S2 (B.set q p) x := by
    intro x hx hlt
    refine ⟨hx.1, fun y n hy hb => ?_⟩
    by_cases hyq : y = q
    · subst hyq; rw [hBs] at hb
      rcases hp x n hb with ⟨k, _, n', hk, hbk⟩ | ⟨h, _⟩
      · exact hx.2 k n' hk hbk
      · omega
    · rw [hBo y hyq] at hb; exact hx.2 y n (live y hyq hy).1 hb
  have hh : ∀ x, dep C.din S B x → x < w.heap.size → w'.heap[x]? = w.heap[x]? := fun x hx hlt => hk x hlt fun k _ n hkl => hx.2 k n hkl
  have er : ∀ l v, RepL w (dep C.din S B) l v → RepL w' (dep C.din S2 (B.set q p)) l v := fun l v hl => RepL_mono hs hh hd l v hl
  have e : ∀ l v, LRep w C.din S B l v → LRep w' C.din S2 (B.set q p) (kL ks l) v := by
    intro l v hl
    rw [kL_rn]
    refine LRep.rn hs hh hd (fun x x' obx hr hx => ?_) hl
    unfold keepR at hr
    split at hr
    · cases hr
    · rename_i hc
      cases hr
      have hxq : x ≠ q := fun ex => by subst ex; rw [hq] at hx; cases hx
      exact ⟨hBo x hxq, _, by rw [o2 x hxq, if_neg hc, hx]; rfl, kO_shape _ _⟩
  refine ⟨⟨hR.size, hR.defers, fun t => ?_, fun x obx hx => ?_, fun x y b n n' hx hy hxb hyb => ?_, fun x b n hx hxb => ?_, ?_, hR.dnew, fun x hxk hx => ?_, hR.klt, fun x obx hxk hx => ?_⟩, e⟩
  · rw [s2]; exact SRep.map_kL e (hR.slots t)
  · by_cases hxq : x = q
    · subst hxq; rw [o2q] at hx; cases hx; exact hob er
    · obtain ⟨hl, hc⟩ := live x hxq (by simp [hx])
      rw [o2 x hxq, hc] at hx
      obtain ⟨ob0, h0⟩ := Option.ne_none_iff_exists'.1 hl
      rw [h0] at hx; simp at hx; subst hx
      rw [kO_rn]
      refine (hR.objs x ob0 h0).rnO (hBo x hxq) (fun l v hl => by rw [← kL_rn]; exact e l v hl) er fun b n hb => ?_
      refine hk b (hR.mine x b n hl hb).1 fun k hkk m hkl hkb => ?_
      have := hR.inj x k b n m hl hkl hb hkb
      subst this
      rw [List.contains_iff_mem.2 hkk] at hc; cases hc
  · have mix : ∀ {x b n n'}, x ≠ q → S2.obj x ≠ none → B x = some (b, n) → p = some (b, n') → False := by
      intro x b n n' hxq hx hxb hpb
      obtain ⟨hl, hc⟩ := live x hxq hx
      rcases hp b n' hpb with ⟨k, hkk, m, hkl, hkb⟩ | ⟨h, _⟩
      · have := hR.inj x k b n m hl hkl hxb hkb
        subst this
        rw [List.contains_iff_mem.2 hkk] at hc; cases hc
      · have := (hR.mine x b n hl hxb).1; omega
    by_cases hxq : x = q <;> by_cases hyq : y = q
    · rw [hxq, hyq]
    · subst hxq; rw [hBs] at hxb; rw [hBo y hyq] at hyb; exact (mix hyq hy hyb hxb).elim
    · subst hyq; rw [hBs] at hyb; rw [hBo x hxq] at hxb; exact (mix hxq hx hxb hyb).elim
    · rw [hBo x hxq] at hxb; rw [hBo y hyq] at hyb
      exact hR.inj x y b n n' (live x hxq hx).1 (live y hyq hy).1 hxb hyb
  · by_cases hxq : x = q
    · subst hxq; rw [hBs] at hxb
      rcases hp b n hxb with ⟨k, hkk, m, hkl, hkb⟩ | ⟨h4, h5⟩
      · have := hR.mine k b m hkl hkb; exact ⟨Nat.lt_of_lt_of_le this.1 hs, this.2⟩
      · exact ⟨h5, .inl (Nat.le_trans hR.frame.size h4), hR.dnew b (Nat.le_trans hR.frame.size h4)⟩
    · rw [hBo x hxq] at hxb
      have := hR.mine x b n (live x hxq hx).1 hxb; exact ⟨Nat.lt_of_lt_of_le this.1 hs, this.2⟩
  · refine ⟨h1.trans hR.frame.os, h2.trans hR.frame.tape, h3.trans hR.frame.output, Nat.le_trans hR.frame.size hs, fun x hx hn => ?_⟩
    rw [hk x (Nat.lt_of_lt_of_le hx hR.frame.size) fun k hkk n hkl hkb => ?_]
    · exact hR.frame.block x hx hn
    · rcases (hR.mine k x n hkl hkb).2.1 with h | h
      · omega
      · exact hn h
  · have hxq : x ≠ q := by have := hR.klt; omega
    rw [hBo x hxq]; exact hR.keep x hxk (live x hxq hx).1
  · have hxq : x ≠ q := by have := hR.klt; omega
    obtain ⟨hl, hc⟩ := live x hxq (by simp [hx])
    rw [o2 x hxq, hc] at hx
    obtain ⟨ob0, h0⟩ := Option.ne_none_iff_exists'.1 hl
    rw [h0] at hx; simp at hx; subst hx
    obtain ⟨ob1, h4, h5⟩ := hR.shape x ob0 hxk h0
    exact ⟨ob1, h4, h5.trans (kO_shape _ _)⟩

theorem run_append_cases {t ty e : TypeId} {i : TypeInfo} {z : Value} (ht : P.underlying t = some (.slice e)) (hi : P.info? e = some i) (hz : i.zero = some z)
    {A : Option Addr} {len c : Nat} {X : Value} {m : Nat} {os ns : List Value} (ho : Src w i.size (.slice A len c) len os) (hn : Src w i.size X m ns) (hsum : (len + m) * i.bytes ≤ 140737488355328) (h63 : len + m ≤ maxLen) :
    (len + m ≤ c → (Builtin.append_ #[t, t] ty #[.slice A len c, X]).run P w = ((match A with | some b => storeCells (b.add (len * i.size)) ns | none => pure ()).run P w).andThen fun _ w1 => .ok (.slice A (len + m) c) w1) ∧
    (c < len + m → (Builtin.append_ #[t, t] ty #[.slice A len c, X]).run P w = .ok (.slice (some ⟨w.heap.size, 0, none⟩) (len + m) (grownCap w (len + m) c e))
        (w.drew.alloc (.cells (os.toArray ++ ns.toArray ++ Builtin.zeroCells z.cells (grownCap w (len + m) c e - (len + m))) e))) := by
  obtain ⟨A', c', hX, hmc, _, _⟩ := id hn
  have hlenX : (Builtin.lenOf X) = (pure m : Sem Nat) := by rw [hX]; rfl
  have hfn : ∀ W : World, W.heap = w.heap → (Builtin.firstCells i.size m X).run P W = .ok ns.toArray W := fun W hW => run_first hn hW
  have hfo : ∀ W : World, W.heap = w.heap → (Builtin.firstCells i.size len (.slice A len c)).run P W = .ok os.toArray W := fun W hW => run_first ho hW
  constructor
  · intro hfit
    cases A with
    | none => simp [Builtin.append_, run_underlying ht, sizeOf, typeInfo, hi, hlenX, hfit, hfn w rfl]
    | some b => simp [Builtin.append_, run_underlying ht, sizeOf, typeInfo, hi, hlenX, hfit, hfn w rfl]
  · intro hgrow
    have hg : ¬ (len + m ≤ c) := by omega
    have h63' : ¬ (9223372036854775807 < ((len : Int) + (m : Int))) := by
      have := h63; simp [maxLen] at this; omega
    have h48' : ¬ (281474976710656 < Builtin.nextslicecap (len + m) c * i.bytes) := by
      have := growslice_fits (bytes := i.bytes) hgrow hsum; omega
    simp [Builtin.append_, run_underlying ht, sizeOf, typeInfo, zeroValue, hi, hz, hlenX, hg, h63', h48', Question.forced, hfn w.drew rfl, hfo w.drew rfl, newRow, grownCap]
    congr 2
    apply Array.ext'
    simp [List.append_assoc]
end
end Go.Vl

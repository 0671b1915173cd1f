/- V-logic, part d: an object turned, a new object, a world of the same heap; blocks set whole. -/
import Derived.Test.YtiaendjdmnpcdaaVc
namespace Go.Vl
open Go Go.RowKit

def Pl.set (B : Pl) (o : Nat) (p : Option (Nat × Nat)) : Pl := fun x => if x = o then p else B x

section
variable {C : Ctx} {S : St} {B : Pl} {a : Act} {w w' : World}

theorem Rel.world (hR : Rel C S B a w) (hh : w'.heap = w.heap) (h1 : w'.os = w.os) (h2 : w'.tape = w.tape) (h3 : w'.output = w.output) : Rel C S B a w' := by
  have e : ∀ l v, LRep w C.din S B l v → LRep w' C.din S B l v := fun l v h => by
    refine LRep.step (by rw [hh]; exact Nat.le_refl _) (fun b _ _ => by rw [hh]) (fun b h _ => h) (fun o ob ho => ⟨rfl, ob, ho, ?_⟩) h
    cases ob <;> simp
  have er : ∀ l v, RepL w (dep C.din S B) l v → RepL w' (dep C.din S B) l v := fun l v h => RepL_mono (by rw [hh]; exact Nat.le_refl _) (fun b _ _ => by rw [hh]) (fun b h _ => h) l v h
  refine ⟨hR.size, hR.defers, fun t => SRep.mono e (hR.slots t), fun o ob ho => ?_, hR.inj, fun o b n ho hb => by rw [hh]; exact hR.mine o b n ho hb, ?_, hR.dnew, hR.keep, hR.klt, hR.shape⟩
  · have := hR.objs o ob ho
    cases ob with
    | box ls => obtain ⟨b, n, cs, E, hb, hc, hn, ha⟩ := this; exact ⟨b, n, cs, E, hb, by rw [hh]; exact hc, hn, ha.mono e⟩
    | arr E sz rows =>
      rcases this with h | ⟨b, n, cs, hb, hc, hn, h1, h2, h3⟩
      · exact .inl h
      · exact .inr ⟨b, n, cs, hb, by rw [hh]; exact hc, hn, h1, h2, fun i r hi => (h3 i r hi).mono er⟩
    | map es => obtain ⟨b, n, ens, clock, hb, hc, he⟩ := this; exact ⟨b, n, ens, clock, hb, by rw [hh]; exact hc, he⟩
  · exact ⟨h1.trans hR.frame.os, h2.trans hR.frame.tape, h3.trans hR.frame.output, by rw [hh]; exact hR.frame.size, fun b hb hn => by rw [hh]; exact hR.frame.block b hb hn⟩

theorem sets_one_obj (S : St) (o : Nat) (ob : Ob) (x : Nat) : (S.sets [(o, ob)]).obj x = if x = o then some ob else S.obj x := rfl
theorem sets_one_slot (S : St) (o : Nat) (ob : Ob) : (S.sets [(o, ob)]).slot = S.slot := rfl

theorem ObRep.other {D D' : Nat → Prop} {S' : St} {B' : Pl} {o : Nat} {ob : Ob} (h : ObRep w D S B o ob) (hB : B' o = B o)
    (hl : ∀ l v, LRep w D S B l v → LRep w' D' S' B' l v) (hr : ∀ l v, RepL w (dep D S B) l v → RepL w' (dep D' S' B') l v)
    (hh : ∀ b n, B o = some (b, n) → w'.heap[b]? = w.heap[b]?) : ObRep w' D' S' B' o ob := by
  cases ob with
  | box ls => obtain ⟨b, n, cs, E, hb, hc, hn, ha⟩ := h; exact ⟨b, n, cs, E, hB.trans hb, (hh b n hb).trans hc, hn, ha.mono hl⟩
  | arr E sz rows =>
    rcases h with h | ⟨b, n, cs, hb, hc, hn, h1, h2, h3⟩
    · exact .inl ⟨h.1, hB.trans h.2⟩
    · exact .inr ⟨b, n, cs, hB.trans hb, (hh b n hb).trans hc, hn, h1, h2, fun i r hi => (h3 i r hi).mono hr⟩
  | map es => obtain ⟨b, n, ens, clock, hb, hc, he⟩ := h; exact ⟨b, n, ens, clock, hB.trans hb, (hh b n hb).trans hc, he⟩

/-- Object 'o', which lies in block 'b', turns. -/
theorem Rel.turn (hR : Rel C S B a w) {o b n : Nat} {ob ob' : Ob} (ho : S.obj o = some ob) (hb : B o = some (b, n)) (hsh : SameShape ob ob')
    (h1 : w'.os = w.os) (h2 : w'.tape = w.tape) (h3 : w'.output = w.output) (hs : w'.heap.size = w.heap.size) (hk : ∀ x, x ≠ b → w'.heap[x]? = w.heap[x]?)
    (hob : (∀ l v, LRep w C.din S B l v → LRep w' C.din (S.sets [(o, ob')]) B l v) → (∀ l v, RepL w (dep C.din S B) l v → RepL w' (dep C.din (S.sets [(o, ob')]) B) l v) → ObRep w' C.din (S.sets [(o, ob')]) B o ob') :
    Rel C (S.sets [(o, ob')]) B a w' := by
  have live : ∀ x, (S.sets [(o, ob')]).obj x ≠ none → S.obj x ≠ none := by
    intro x h; rw [sets_one_obj] at h
    by_cases e : x = o
    · subst e; simp [ho]
    · rwa [if_neg e] at h
  have hne : ∀ x, dep C.din S B x → x ≠ b := fun x h e => h.2 o n (by simp [ho]) (by rw [e]; exact hb)
  have hdep : ∀ x, dep C.din S B x → x < w.heap.size → dep C.din (S.sets [(o, ob')]) B x := fun x h _ => ⟨h.1, fun y m hy => h.2 y m (live y hy)⟩
  have er : ∀ l v, RepL w (dep C.din S B) l v → RepL w' (dep C.din (S.sets [(o, ob')]) B) l v := fun l v h => RepL_mono (by omega) (fun x hx _ => hk x (hne x hx)) hdep l v h
  have e : ∀ l v, LRep w C.din S B l v → LRep w' C.din (S.sets [(o, ob')]) B l v := fun l v h => by
    refine LRep.step (by omega) (fun x hx _ => hk x (hne x hx)) hdep (fun x obx hx => ⟨rfl, ?_⟩) h
    by_cases ex : x = o
    · subst ex
      rw [ho] at hx; cases hx
      refine ⟨ob', by rw [sets_one_obj, if_pos rfl], ?_⟩
      cases ob <;> cases ob' <;> simp [SameShape] at hsh ⊢
      exact hsh
    · refine ⟨obx, by rw [sets_one_obj, if_neg ex]; exact hx, ?_⟩
      cases obx <;> simp
  refine ⟨hR.size, hR.defers, fun t => SRep.mono e (hR.slots t), fun x obx hx => ?_, fun x y c m m' hx hy => hR.inj x y c m m' (live x hx) (live y hy), fun x c m hx hc => ?_, ?_, hR.dnew, fun x h hx => hR.keep x h (live x hx), hR.klt, fun x obx h hx => ?_⟩
  · by_cases ex : x = o
    · subst ex
      rw [sets_one_obj, if_pos rfl] at hx; cases hx
      exact hob e er
    · rw [sets_one_obj, if_neg ex] at hx
      exact (hR.objs x obx hx).other rfl e er fun c m hc => hk c fun ec => ex (hR.inj x o c m n (by simp [hx]) (by simp [ho]) hc (by rw [ec]; exact hb))
  · rw [hs]; exact hR.mine x c m (live x hx) hc
  · refine ⟨h1.trans hR.frame.os, h2.trans hR.frame.tape, h3.trans hR.frame.output, by rw [hs]; exact hR.frame.size, fun x hx hn => ?_⟩
    have hm := hR.mine o b n (by simp [ho]) hb
    rw [hk x (fun ex => by rw [ex] at hx hn; exact hm.2.1.elim (fun h => by omega) (fun h => hn h))]
    exact hR.frame.block x hx hn
  · by_cases ex : x = o
    · subst ex
      rw [sets_one_obj, if_pos rfl] at hx; cases hx
      obtain ⟨ob1, h1, h2⟩ := hR.shape x ob h ho
      exact ⟨ob1, h1, h2.trans hsh⟩
    · rw [sets_one_obj, if_neg ex] at hx
      exact hR.shape x obx h hx

/-- A new object 'o' in a new block. -/
theorem Rel.new (hR : Rel C S B a w) {o n : Nat} {ob : Ob} (x : Obj) (ho : S.obj o = none) (ho1 : 100 ≤ o)
    (hob : (∀ l v, LRep w C.din S B l v → LRep (w.alloc x) C.din (S.sets [(o, ob)]) (B.set o (some (w.heap.size, n))) l v) →
      (∀ l v, RepL w (dep C.din S B) l v → RepL (w.alloc x) (dep C.din (S.sets [(o, ob)]) (B.set o (some (w.heap.size, n)))) l v) → ObRep (w.alloc x) C.din (S.sets [(o, ob)]) (B.set o (some (w.heap.size, n))) o ob) :
    Rel C (S.sets [(o, ob)]) (B.set o (some (w.heap.size, n))) a (w.alloc x) := by
  have hsz : (w.alloc x).heap.size = w.heap.size + 1 := by simp
  have hold : ∀ y, y < w.heap.size → (w.alloc x).heap[y]? = w.heap[y]? := fun y hy => Below.heap_alloc w x y hy
  have hBo : ∀ y, y ≠ o → (B.set o (some (w.heap.size, n))) y = B y := fun y hy => by simp [Pl.set, hy]
  have hBs : (B.set o (some (w.heap.size, n))) o = some (w.heap.size, n) := by simp [Pl.set]
  have live : ∀ y, y ≠ o → (S.sets [(o, ob)]).obj y ≠ none → S.obj y ≠ none := by
    intro y hy h; rwa [sets_one_obj, if_neg hy] at h
  have hdep : ∀ y, dep C.din S B y → y < w.heap.size → dep C.din (S.sets [(o, ob)]) (B.set o (some (w.heap.size, n))) y := by
    intro y h hy
    refine ⟨h.1, fun z m hz hB => ?_⟩
    by_cases ez : z = o
    · subst ez; rw [hBs] at hB; cases hB; omega
    · rw [hBo z ez] at hB; exact h.2 z m (live z ez hz) hB
  have er : ∀ l v, RepL w (dep C.din S B) l v → RepL (w.alloc x) (dep C.din (S.sets [(o, ob)]) (B.set o (some (w.heap.size, n)))) l v :=
    fun l v h => RepL_mono (by omega) (fun y _ hy => hold y hy) hdep l v h
  have e : ∀ l v, LRep w C.din S B l v → LRep (w.alloc x) C.din (S.sets [(o, ob)]) (B.set o (some (w.heap.size, n))) l v := fun l v h => by
    refine LRep.step (by omega) (fun y _ hy => hold y hy) hdep (fun y oby hy => ?_) h
    have ey : y ≠ o := fun ey => by subst ey; rw [ho] at hy; cases hy
    refine ⟨hBo y ey, oby, by rw [sets_one_obj, if_neg ey]; exact hy, ?_⟩
    cases oby <;> simp
  refine ⟨hR.size, hR.defers, fun t => SRep.mono e (hR.slots t), fun y oby hy => ?_, ?_, fun y c m hy hc => ?_, ?_, hR.dnew, fun y h hy => (have hyo : y ≠ o := (by have := hR.klt; omega); (hBo y hyo).trans (hR.keep y h (live y hyo hy))), hR.klt, fun y oby h hy => (have hyo : y ≠ o := (by have := hR.klt; omega); hR.shape y oby h (by rw [sets_one_obj, if_neg hyo] at hy; exact hy))⟩
  · by_cases ey : y = o
    · subst ey
      rw [sets_one_obj, if_pos rfl] at hy; cases hy
      exact hob e er
    · rw [sets_one_obj, if_neg ey] at hy
      exact (hR.objs y oby hy).other (hBo y ey) e er fun c m hc => hold c (hR.mine y c m (by simp [hy]) hc).1
  · intro y z c m m' hy hz hyc hzc
    by_cases ey : y = o <;> by_cases ez : z = o
    · rw [ey, ez]
    · subst ey; rw [hBs] at hyc; cases hyc; rw [hBo z ez] at hzc; have := (hR.mine z _ m' (live z ez hz) hzc).1; omega
    · subst ez; rw [hBs] at hzc; cases hzc; rw [hBo y ey] at hyc; have := (hR.mine y _ m (live y ey hy) hyc).1; omega
    · rw [hBo y ey] at hyc; rw [hBo z ez] at hzc; exact hR.inj y z c m m' (live y ey hy) (live z ez hz) hyc hzc
  · by_cases ey : y = o
    · subst ey; rw [hBs] at hc; cases hc; exact ⟨by omega, .inl hR.frame.size, hR.dnew _ hR.frame.size⟩
    · rw [hBo y ey] at hc; have := hR.mine y c m (live y ey hy) hc; exact ⟨by omega, this.2⟩
  · have := hR.frame
    exact ⟨this.os, this.tape, this.output, by have := this.size; omega, fun y hy hn => (hold y (Nat.lt_of_lt_of_le hy this.size)).trans (this.block y hy hn)⟩

/-- A new object without a block: an empty row. -/
theorem Rel.newNil (hR : Rel C S B a w) {o : Nat} (E : TypeId) (sz : Nat) (ho : S.obj o = none) (ho1 : 100 ≤ o) : Rel C (S.sets [(o, .arr E sz [])]) (B.set o none) a w := by
  have hBo : ∀ y, y ≠ o → (B.set o none) y = B y := fun y hy => by simp [Pl.set, hy]
  have hBs : (B.set o none) o = none := by simp [Pl.set]
  have live : ∀ y, y ≠ o → (S.sets [(o, Ob.arr E sz [])]).obj y ≠ none → S.obj y ≠ none := by
    intro y hy h; rwa [sets_one_obj, if_neg hy] at h
  have hdep : ∀ y, dep C.din S B y → y < w.heap.size → dep C.din (S.sets [(o, Ob.arr E sz [])]) (B.set o none) y := by
    intro y h hy
    refine ⟨h.1, fun z m hz hB => ?_⟩
    by_cases ez : z = o
    · subst ez; rw [hBs] at hB; cases hB
    · rw [hBo z ez] at hB; exact h.2 z m (live z ez hz) hB
  have er : ∀ l v, RepL w (dep C.din S B) l v → RepL w (dep C.din (S.sets [(o, Ob.arr E sz [])]) (B.set o none)) l v :=
    fun l v h => RepL_mono (Nat.le_refl _) (fun y _ hy => rfl) hdep l v h
  have e : ∀ l v, LRep w C.din S B l v → LRep w C.din (S.sets [(o, Ob.arr E sz [])]) (B.set o none) l v := fun l v h => by
    refine LRep.step (Nat.le_refl _) (fun y _ hy => rfl) hdep (fun y oby hy => ?_) h
    have ey : y ≠ o := fun ey => by subst ey; rw [ho] at hy; cases hy
    refine ⟨hBo y ey, oby, by rw [sets_one_obj, if_neg ey]; exact hy, ?_⟩
    cases oby <;> simp
  refine ⟨hR.size, hR.defers, fun t => SRep.mono e (hR.slots t), fun y oby hy => ?_, ?_, fun y c m hy hc => ?_, hR.frame, hR.dnew, fun y h hy => (have hyo : y ≠ o := (by have := hR.klt; omega); (hBo y hyo).trans (hR.keep y h (live y hyo hy))), hR.klt, fun y oby h hy => (have hyo : y ≠ o := (by have := hR.klt; omega); hR.shape y oby h (by rw [sets_one_obj, if_neg hyo] at hy; exact hy))⟩
  · by_cases ey : y = o
    · subst ey
      rw [sets_one_obj, if_pos rfl] at hy; cases hy
      exact .inl ⟨rfl, hBs⟩
    · rw [sets_one_obj, if_neg ey] at hy
      exact (hR.objs y oby hy).other (hBo y ey) e er fun c m hc => rfl
  · intro y z c m m' hy hz hyc hzc
    by_cases ey : y = o
    · subst ey; rw [hBs] at hyc; cases hyc
    · by_cases ez : z = o
      · subst ez; rw [hBs] at hzc; cases hzc
      · rw [hBo y ey] at hyc; rw [hBo z ez] at hzc; exact hR.inj y z c m m' (live y ey hy) (live z ez hz) hyc hzc
  · by_cases ey : y = o
    · subst ey; rw [hBs] at hc; cases hc
    · rw [hBo y ey] at hc; exact hR.mine y c m (live y ey hy) hc

/- Cells of a block, set whole. -/
theorem setCells_heap (b : Nat) (E : TypeId) : ∀ (vs : List Value) (o : Nat) (w : World) (cs : Array Value), w.heap[b]? = some (.cells cs E (0, 0)) →
    ∃ cs', (w.setCells b o vs).heap[b]? = some (.cells cs' E (0, 0)) ∧ cs'.size = cs.size ∧ (∀ i, cs'[i]? = if o ≤ i ∧ i < o + vs.length ∧ i < cs.size then vs[i - o]? else cs[i]?)
  | [], o, w, cs, h => ⟨cs, h, rfl, fun i => by rw [if_neg (by simp; omega)]⟩
  | v :: vs, o, w, cs, h => by
    have h1 : (w.setCell ⟨b, o, none⟩ v).heap[b]? = some (.cells (cs.setIfInBounds o v) E (0, 0)) := by
      simp [World.setCell, Array.getElem?_modify, h]
    obtain ⟨cs', hc, hs, hg⟩ := setCells_heap b E vs (o + 1) _ _ h1
    refine ⟨cs', hc, by simpa using hs, fun i => ?_⟩
    rw [hg]
    simp only [Array.size_setIfInBounds, List.length_cons, Array.getElem?_setIfInBounds]
    by_cases hi : o = i
    · subst hi
      rw [if_neg (by omega), if_pos rfl]
      by_cases hlt : o < cs.size
      · rw [if_pos hlt, if_pos (by omega)]; simp
      · rw [if_neg hlt, if_neg (by omega)]; simp; omega
    · rw [if_neg hi]
      by_cases hc : o + 1 ≤ i ∧ i < o + 1 + vs.length ∧ i < cs.size
      · rw [if_pos hc, if_pos (by omega)]
        rw [show i - o = (i - (o + 1)) + 1 from by omega]; simp
      · rw [if_neg hc, if_neg (by omega)]
theorem setCells_other (b : Nat) : ∀ (vs : List Value) (o : Nat) (w : World) (x : Nat), x ≠ b → (w.setCells b o vs).heap[x]? = w.heap[x]?
  | [], _, _, _, _ => rfl
  | v :: vs, o, w, x, h => by
    rw [World.setCells, setCells_other b vs _ _ x h]
    exact Below.heap_setCell _ _ _ _ h
theorem setCells_same (b : Nat) : ∀ (vs : List Value) (o : Nat) (w : World), (w.setCells b o vs).os = w.os ∧ (w.setCells b o vs).tape = w.tape ∧ (w.setCells b o vs).output = w.output ∧ (w.setCells b o vs).heap.size = w.heap.size
  | [], _, _ => ⟨rfl, rfl, rfl, rfl⟩
  | v :: vs, o, w => by
    rw [World.setCells]
    obtain ⟨h1, h2, h3, h4⟩ := setCells_same b vs (o + 1) (w.setCell ⟨b, o, none⟩ v)
    exact ⟨h1, h2, h3, h4.trans (by simp [World.setCell])⟩
end
end Go.Vl

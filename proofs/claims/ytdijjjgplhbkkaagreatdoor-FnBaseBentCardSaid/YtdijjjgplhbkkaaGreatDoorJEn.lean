/- Generic: rows that hold rows of their own: built of one, appended. Contract: a table copied (spec.l3Copy), its rows' values its own. Contract: tables drawn, bent. -/
import Derived.Test.YtdijjjgplhbkkaaGreatDoorWj
import Derived.Test.YtdijjjgplhbkkaaGreatDoorWe
import Derived.Test.YtdijjjgplhbkkaaGreatDoorJEa
import Derived.Test.YtdijjjgplhbkkaaGreatDoorJEm
import Derived.Test.YtdijjjgplhbkkaaGreatDoorJEh
set_option linter.unusedSimpArgs false
set_option linter.unusedVariables false
set_option linter.unnecessarySimpa false
set_option maxRecDepth 100000
set_option maxHeartbeats 16000000

namespace Go.Vl
open Go Go.RowKit
def Pl.setZ (B : Pl) (o : Nat) (p : Option (Nat × Nat)) (Z : Nat → Prop) : Pl := ⟨fun x => if x = o then p else B x, fun x b => if x = o then Z b else B.z x b⟩
theorem setZ_ne {B : Pl} {o : Nat} {p : Option (Nat × Nat)} {Z : Nat → Prop} {x b : Nat} (h : x ≠ o) : Ow (B.setZ o p Z) x b ↔ Ow B x b := by simp [Ow, Pl.setZ, h]
theorem setZ_eq {B : Pl} {o : Nat} {p : Option (Nat × Nat)} {Z : Nat → Prop} {b : Nat} : Ow (B.setZ o p Z) o b ↔ (∃ n, p = some (b, n)) ∨ Z b := by simp [Ow, Pl.setZ]
section
variable {P : Program} {T : Tab} {S : St} {o : Oper} {C : Ctx} {B : Pl} {a : Act} {w w' : World}
theorem Rel.moveZ (hR : Rel C S B a w) {ks : List Nat} {q : Nat} {ob : Ob} {p : Option (Nat × Nat)} {Z : Nat → Prop} (hq : S.obj q = none) (hq1 : 100 ≤ q)
    (h1 : w'.os = w.os) (h2 : w'.tape = w.tape) (h3 : w'.output = w.output) (hs : w.heap.size ≤ w'.heap.size)
    (hk : ∀ x, x < w.heap.size → (∀ k ∈ ks, S.obj k ≠ none → ¬ Ow B k x) → w'.heap[x]? = w.heap[x]?)
    (hp : ∀ b n, p = some (b, n) → (∃ k ∈ ks, S.obj k ≠ none ∧ Ow B k b) ∨ (w.heap.size ≤ b ∧ b < w'.heap.size))
    (hZ : ∀ b, Z b → ∃ k ∈ ks, S.obj k ≠ none ∧ Ow B k b)
    (hob : (∀ l v, LRep w C.din S B l v → LRep w' C.din ((S.kill ks).sets [(q, ob)]) (B.setZ q p Z) (kL ks l) v) →
      (∀ l v, RepL w (dep C.din S B) l v → RepL w' (dep C.din ((S.kill ks).sets [(q, ob)]) (B.setZ q p Z)) l v) → ObRep w' C.din ((S.kill ks).sets [(q, ob)]) (B.setZ q p Z) q ob) :
    Rel C ((S.kill ks).sets [(q, ob)]) (B.setZ q p Z) a w' := by
  generalize hS2 : (S.kill ks).sets [(q, ob)] = S2 at *
  have o2q : S2.obj q = some ob := by rw [← hS2]; simp [sets_one_obj]
  have o2 : ∀ x, x ≠ q → S2.obj x = if ks.contains x then none else (S.obj x).map (kO ks) := fun x hx => by rw [← hS2, sets_one_obj, if_neg hx, kill_obj]
  have s2 : ∀ t, S2.slot t = kS ks (S.slot t) := fun t => by rw [← hS2, sets_one_slot, kill_slot]
  have hBo : ∀ y, y ≠ q → (B.setZ q p Z) y = B y := fun y hy => by simp [Pl.setZ, hy]
  have hP : ∀ b, ((∃ n, p = some (b, n)) ∨ Z b) → (∃ k ∈ ks, S.obj k ≠ none ∧ Ow B k b) ∨ (w.heap.size ≤ b ∧ b < w'.heap.size) := by
    rintro b (⟨n, hn⟩ | hz)
    · exact hp b n hn
    · exact .inl (hZ b hz)
  have live : ∀ x, x ≠ q → S2.obj x ≠ none → S.obj x ≠ none ∧ ks.contains x = false := by
    intro x hx h
    rw [o2 x hx] at h
    split at h
    · exact absurd rfl h
    · rename_i hc
      exact ⟨fun h0 => h (by simp [h0]), by simpa using hc⟩
  have hd : ∀ x, dep C.din S B x → x < w.heap.size → dep C.din S2 (B.setZ q p Z) x := by
    intro x hx hlt
    refine ⟨hx.1, fun y hy hb => ?_⟩
    by_cases hyq : y = q
    · subst hyq
      rcases hP x (setZ_eq.1 hb) with ⟨k, _, hk, hbk⟩ | ⟨h, _⟩
      · exact hx.2 k hk hbk
      · omega
    · exact hx.2 y (live y hyq hy).1 ((setZ_ne hyq).1 hb)
  have hh : ∀ x, dep C.din S B x → x < w.heap.size → w'.heap[x]? = w.heap[x]? := fun x hx hlt => hk x hlt fun k _ hkl => hx.2 k hkl
  have er : ∀ l v, RepL w (dep C.din S B) l v → RepL w' (dep C.din S2 (B.setZ q p Z)) l v := fun l v hl => RepL_mono hs hh hd l v hl
  have e : ∀ l v, LRep w C.din S B l v → LRep w' C.din S2 (B.setZ q p Z) (kL ks l) v := by
    intro l v hl
    rw [kL_rn]
    refine LRep.rn hs hh hd (fun x x' obx hr hx => ?_) hl
    unfold keepR at hr
    split at hr
    · cases hr
    · rename_i hc
      cases hr
      have hxq : x ≠ q := fun ex => by subst ex; rw [hq] at hx; cases hx
      exact ⟨hBo x hxq, _, by rw [o2 x hxq, if_neg hc, hx]; rfl, kO_shape _ _⟩
  refine ⟨hR.size, hR.defers, fun t => ?_, fun x obx hx => ?_, fun x y b hx hy hxb hyb => ?_, fun x b hx hxb => ?_, ?_, hR.dnew, fun x hxk hx => ?_, hR.klt, fun x obx hxk hx => ?_⟩
  · rw [s2]; exact SRep.map_kL e (hR.slots t)
  · by_cases hxq : x = q
    · subst hxq; rw [o2q] at hx; cases hx; exact hob e er
    · obtain ⟨hl, hc⟩ := live x hxq (by simp [hx])
      rw [o2 x hxq, hc] at hx
      obtain ⟨ob0, h0⟩ := Option.ne_none_iff_exists'.1 hl
      rw [h0] at hx; simp at hx; subst hx
      rw [kO_rn]
      refine (hR.objs x ob0 h0).rnO (hBo x hxq) (by funext c; simp [Pl.setZ, hxq]) (fun l v hl => by rw [← kL_rn]; exact e l v hl) er fun b hb => ?_
      refine hk b (hR.mineO x b hl hb).1 fun k hkk hkl hkb => ?_
      have := hR.injO x k b hl hkl hb hkb
      subst this
      rw [List.contains_iff_mem.2 hkk] at hc; cases hc
  · have mix : ∀ {x b}, x ≠ q → S2.obj x ≠ none → Ow B x b → ((∃ n, p = some (b, n)) ∨ Z b) → False := by
      intro x b hxq hx hxb hpb
      obtain ⟨hl, hc⟩ := live x hxq hx
      rcases hP b hpb with ⟨k, hkk, hkl, hkb⟩ | ⟨h, _⟩
      · have := hR.injO x k b hl hkl hxb hkb
        subst this
        rw [List.contains_iff_mem.2 hkk] at hc; cases hc
      · have := (hR.mineO x b hl hxb).1; omega
    by_cases hxq : x = q <;> by_cases hyq : y = q
    · rw [hxq, hyq]
    · subst hxq; exact (mix hyq hy ((setZ_ne hyq).1 hyb) (setZ_eq.1 hxb)).elim
    · subst hyq; exact (mix hxq hx ((setZ_ne hxq).1 hxb) (setZ_eq.1 hyb)).elim
    · exact hR.injO x y b (live x hxq hx).1 (live y hyq hy).1 ((setZ_ne hxq).1 hxb) ((setZ_ne hyq).1 hyb)
  · by_cases hxq : x = q
    · subst hxq
      rcases hP b (setZ_eq.1 hxb) with ⟨k, hkk, hkl, hkb⟩ | ⟨h4, h5⟩
      · have := hR.mineO k b hkl hkb; exact ⟨Nat.lt_of_lt_of_le this.1 hs, this.2⟩
      · exact ⟨h5, .inl (Nat.le_trans hR.frame.size h4), hR.dnew b (Nat.le_trans hR.frame.size h4)⟩
    · have := hR.mineO x b (live x hxq hx).1 ((setZ_ne hxq).1 hxb); exact ⟨Nat.lt_of_lt_of_le this.1 hs, this.2⟩
  · refine ⟨h1.trans hR.frame.os, h2.trans hR.frame.tape, h3.trans hR.frame.output, Nat.le_trans hR.frame.size hs, fun x hx hn => ?_⟩
    rw [hk x (Nat.lt_of_lt_of_le hx hR.frame.size) fun k hkk hkl hkb => ?_]
    · exact hR.frame.block x hx hn
    · rcases (hR.mineO k x hkl hkb).2.1 with h | h
      · omega
      · exact hn h
  · have hxq : x ≠ q := by have := hR.klt; omega
    rw [hBo x hxq]; exact hR.keep x hxk (live x hxq hx).1
  · have hxq : x ≠ q := by have := hR.klt; omega
    obtain ⟨hl, hc⟩ := live x hxq (by simp [hx])
    rw [o2 x hxq, hc] at hx
    obtain ⟨ob0, h0⟩ := Option.ne_none_iff_exists'.1 hl
    rw [h0] at hx; simp at hx; subst hx
    obtain ⟨ob1, h4, h5⟩ := hR.shape x ob0 hxk h0
    exact ⟨ob1, h4, h5.trans (kO_shape _ _)⟩
theorem holeAt_mapN (f : Leaf → Leaf) (n : Nat) : ∀ (hs : List (Nat × Nat × Leaf)) (i j : Nat), holeAt (hs.map fun h => (n + h.1, h.2.1, f h.2.2)) (n + i) j = (holeAt hs i j).map f
  | [], _, _ => rfl
  | (a, b, l) :: hs, i, j => by
    simp only [List.map_cons, holeAt]
    by_cases h : a = i ∧ b = j
    · rw [if_pos h, if_pos ⟨by omega, h.2⟩]; rfl
    · rw [if_neg h, if_neg (fun e => h ⟨by omega, e.2⟩)]; exact holeAt_mapN f n hs i j
theorem holeAt_lt (f : Leaf → Leaf) (n : Nat) : ∀ (hs : List (Nat × Nat × Leaf)) (i j : Nat), i < n → holeAt (hs.map fun h => (n + h.1, h.2.1, f h.2.2)) i j = none
  | [], _, _, _ => rfl
  | (a, b, l) :: hs, i, j, h => by
    simp only [List.map_cons, holeAt]
    rw [if_neg (fun e => by have := e.1; omega)]
    exact holeAt_lt f n hs i j h
theorem regRows_app {Dp Dp' : Nat → Prop} {R R' : Leaf → Value → Prop} {f : Leaf → Leaf} {sz : Nat} {rows : List (List Leaf)} {row2 : List Leaf} {hs2 : List (Nat × Nat × Leaf)} {os ns : List Value} {cs : Array Value} {Z : Nat → Prop} {zf : Nat → Nat → Nat → Prop}
    (hw : ∀ r ∈ rows, r.length = sz) (hw2 : row2.length = sz)
    (p1 : ∀ (i : Nat) (r : List Leaf) (y : Nat) (l : Leaf), rows[i]? = some r → r[y]? = some l → ∃ v, os[i * sz + y]? = some v ∧ NL w Dp l v (zf i y))
    (p2 : ∀ (y : Nat) (l : Leaf), row2[y]? = some l → holeAt hs2 0 y = none → plain [l] = true ∧ ∃ v, ns[y]? = some v ∧ RepL w Dp l v)
    (p3 : ∀ (y : Nat) (l h : Leaf), row2[y]? = some l → holeAt hs2 0 y = some h → ∃ v, ns[y]? = some v ∧ R h v)
    (hsub : ∀ i j x, zf i j x → Z x) (hap : ∀ i j i' j' x, zf i j x → zf i' j' x → i = i' ∧ j = j')
    (er : ∀ l v, RepL w Dp l v → RepL w' Dp' l v) (e : ∀ l v, R l v → R' (f l) v) (hz : ∀ x, Z x → w'.heap[x]? = w.heap[x]?)
    (c1 : ∀ y, y < rows.length * sz → cs[y]? = os[y]?) (c2 : ∀ y, y < sz → cs[rows.length * sz + y]? = ns[y]?) :
    RegRows w' Dp' R' sz (rows ++ [row2]) (hs2.map fun h => (rows.length + h.1, h.2.1, f h.2.2)) cs Z (fun i j x => i < rows.length ∧ zf i j x) := by
  have lt : ∀ {i y : Nat} {r : List Leaf} {l : Leaf}, rows[i]? = some r → r[y]? = some l → i < rows.length ∧ i * sz + y < rows.length * sz := by
    intro i y r l hi hy
    have hil := (List.getElem?_eq_some_iff.1 hi).1
    have hrl := hw r (List.mem_of_getElem? hi)
    have hyl := (List.getElem?_eq_some_iff.1 hy).1
    have h6 : (i + 1) * sz ≤ rows.length * sz := Nat.mul_le_mul_right _ hil
    rw [Nat.succ_mul] at h6
    exact ⟨hil, by omega⟩
  have last : ∀ {i : Nat} {r : List Leaf}, (rows ++ [row2])[i]? = some r → ¬ i < rows.length → i = rows.length ∧ r = row2 := by
    intro i r hi hn
    rw [List.getElem?_append_right (by omega)] at hi
    have h1 := (List.getElem?_eq_some_iff.1 hi).1
    simp at h1
    have h2 : i = rows.length := by omega
    subst h2
    simp at hi
    exact ⟨rfl, hi.symm⟩
  refine ⟨fun r hr => ?_, fun i r y l hi hy hh => ?_, fun i r y l h hi hy hh => ?_, fun i j x hx => hsub i j x hx.2, fun i j i' j' x hx hx' => hap i j i' j' x hx.2 hx'.2⟩
  · rcases List.mem_append.1 hr with hr | hr
    · exact hw r hr
    · simp at hr; subst hr; exact hw2
  · by_cases hil : i < rows.length
    · rw [List.getElem?_append_left hil] at hi
      obtain ⟨v, hv, hn⟩ := p1 i r y l hi hy
      refine ⟨v, by rw [c1 _ (lt hi hy).2]; exact hv, NL_mono er l v _ _ (fun x hx => ⟨hil, hx⟩) (fun x hx => hz x (hsub i y x hx)) hn⟩
    · obtain ⟨rfl, rfl⟩ := last hi hil
      have e0 := holeAt_mapN f rows.length hs2 0 y
      rw [Nat.add_zero] at e0
      rw [e0] at hh
      have hh0 : holeAt hs2 0 y = none := by
        cases h9 : holeAt hs2 0 y with
        | none => rfl
        | some z => rw [h9] at hh; cases hh
      obtain ⟨hpl, v, hv, hr⟩ := p2 y l hy hh0
      have hyl := (List.getElem?_eq_some_iff.1 hy).1
      exact ⟨v, by rw [c2 _ (by omega)]; exact hv, (NL_flat hpl).2 (er _ _ hr)⟩
  · by_cases hil : i < rows.length
    · rw [holeAt_lt f rows.length hs2 i y hil] at hh; cases hh
    · obtain ⟨rfl, rfl⟩ := last hi hil
      have e0 := holeAt_mapN f rows.length hs2 0 y
      rw [Nat.add_zero] at e0
      rw [e0] at hh
      obtain ⟨h0, h1, rfl⟩ := Option.map_eq_some_iff.1 hh
      obtain ⟨v, hv, hr⟩ := p3 y l h0 hy h1
      have hyl := (List.getElem?_eq_some_iff.1 hy).1
      exact ⟨v, by rw [c2 _ (by omega)]; exact hv, e _ _ hr⟩
theorem o_buildSliceH (hT : TabOk P T) {t e : TypeId} {X : Operand} (ho : o.op = .buildSlice t 1 #[(0, X)]) {i j : TI} (hi : T t = some i) (hd0 : i.d = .sl e) (hj : T e = some j) {row : List Leaf} {s : Slot} (hX : ev S X = s) (hl : leaves s = some row)
    {sz : Nat} (hsz : j.size = sz) (hw : row.length = sz) (h24 : sz ≤ 16777216) (hj0 : 0 < sz) {q : Nat} (hq : S.obj q = none) (hq1 : 100 ≤ q) {hs : List (Nat × Nat × Leaf)} (hhs : holesOf 0 0 row = hs) :
    OpL P S o { dst := .one (.own q 0 1), sets := [(q, .reg e sz [row] hs)] } := by
  subst hhs hsz
  intro S' h1 h2 h3 C B a w hR hd
  have hX' := (h1 X (by simp [ho, Op.operands])).trans hX
  have hsx := ev_rep hR X
  rw [hX'] at hsx
  obtain ⟨hall, hone⟩ := leaves_rep hl hsx
  have hu := und_sl hT hi hd0
  obtain ⟨x, hx, hxs, _, z, hz, hzc⟩ := hT.infoAt hj
  generalize hcs0 : (Array.range (1 * x.size)).map (fun n => (z.cells)[n % z.cells.size]!) = cs0
  have hcs0s : cs0.size = j.size := by rw [← hcs0]; simp [hxs]
  have hvl : (a.eval X).cells.size = j.size := by have := hall.length; simp at this; omega
  have hprep : All2 (fun p (v : Nat × Value) => p.1 = v.1 ∧ All2 (fun l v => l = Leaf.g v) p.2 v.2.cells.toList) [(0, (a.eval X).cells.toList.map Leaf.g)] [(0, a.eval X)] :=
    ⟨⟨rfl, All2.of_get (by simp) fun y l v hy hv => by
      rw [List.getElem?_map, hv] at hy
      exact (Option.some.inj hy).symm⟩, trivial⟩
  have plg : ∀ l : List Value, plain (l.map Leaf.g) = true := fun l => by
    induction l with
    | nil => rfl
    | cons v l ih => exact ih
  have hro : rowsOf j.size [(0, (a.eval X).cells.toList.map Leaf.g)] 0 = some [(a.eval X).cells.toList.map Leaf.g] := by
    unfold rowsOf
    rw [if_pos ⟨rfl, by simp [hvl], plg _⟩]; rfl
  obtain ⟨os, f1, f2, _, _, f5⟩ := fill_rows (cs := cs0) hprep hro (by rw [hcs0s]; simp)
  have hcell : ∀ y, y < j.size → os[y]? = (a.eval X).cells[y]? := by
    intro y hy
    have h6 := f5 0 _ rfl
    obtain ⟨v, hv, hg⟩ := h6.get y (.g ((a.eval X).cells[y]'(by omega))) (by rw [List.getElem?_map]; simp [hvl, hy])
    cases hg
    simp only [Nat.zero_mul, List.drop_zero, Nat.add_zero] at hv
    rw [List.getElem?_take, if_pos hy] at hv
    have hv' : os[y]? = some ((a.eval X).cells[y]'(by omega)) := by simpa using hv
    rw [hv', Array.getElem?_eq_getElem (by omega)]
  have hrun : (Instr.buildSlice t 1 (#[(0, X)].map fun (i, x) => (i, a.eval x))).run P w = .ok (.slice (some ⟨w.heap.size, 0, none⟩) 1 1) (w.alloc (.cells os e)) := by
    have f1' : Instr.fill (fun i => some (i * x.size, x.size)) cs0 (#[(0, X)].map fun (i, x) => (i, a.eval x)).toList = some os := by rw [hxs]; simpa using f1
    exact run_buildSlice w t e 1 _ os x z hu hx hz (by rw [hxs]; omega) (by rw [hxs]; omega) (by rw [hcs0]; exact f1')
  refine good_new (n := os.size) hR (.cells os e) ((h3 q (by simp)).trans hq) hq1 hd (v := .slice (some ⟨w.heap.size, 0, none⟩) 1 1) (by simp only [execOp, ho, Sem.run_bind, hrun, Result.andThen_ok]; rfl) (fun hl' hr' => ?_) ?_
  · refine .inr ⟨w.heap.size, _, os, fun _ _ _ => False, set_same _ _ _, heap_alloc_new w _, rfl, fun c hc => ?_, by rw [f2, hcs0s]; simp, fun h => h.1 rfl, ?_⟩
    · obtain ⟨y, hy⟩ := List.getElem?_of_mem hc
      have hy' : os[y]? = some c := by simpa using hy
      have hyl := (Array.getElem?_eq_some_iff.1 hy').1
      rw [hcell y (by omega)] at hy'
      exact hone c (List.mem_of_getElem? (i := y) (by simpa using hy'))
    · have one : ∀ {i : Nat} {r : List Leaf}, [row][i]? = some r → i = 0 ∧ r = row := by
        intro i r hi
        cases i with
        | zero => simp at hi; exact ⟨rfl, hi.symm⟩
        | succ i => simp at hi
      have ov : ∀ (y : Nat) (l : Leaf), row[y]? = some l → ∃ v, os[0 * j.size + y]? = some v ∧ LRep w C.din S' B l v := by
        intro y l hy
        have hyl := (List.getElem?_eq_some_iff.1 hy).1
        obtain ⟨v, hv, hlr⟩ := hall.get y l hy
        refine ⟨v, ?_, hlr⟩
        rw [Nat.zero_mul, Nat.zero_add, hcell y (by omega)]
        simpa using hv
      refine ⟨fun r hr => ?_, fun i r y l hi hy hh => ?_, fun i r y l h hi hy hh => ?_, fun i j x hx => hx.elim, fun i j i' j' x hx _ => hx.elim⟩
      · simp at hr; subst hr; exact hw
      · obtain ⟨rfl, rfl⟩ := one hi
        rw [holesOf_at, if_pos (Nat.zero_le _), Nat.sub_zero, hy] at hh
        have hpl : plain [l] = true := by
          cases h9 : plain [l] with
          | true => rfl
          | false => simp [h9] at hh
        obtain ⟨v, hv, hlr⟩ := ov y l hy
        exact ⟨v, hv, (NL_flat hpl).2 (hr' l v (by cases l <;> simp [plain] at hpl <;> exact hlr))⟩
      · obtain ⟨rfl, rfl⟩ := one hi
        rw [holesOf_at, if_pos (Nat.zero_le _), Nat.sub_zero, hy] at hh
        have hhl : h = l := by
          cases h9 : plain [l] with
          | true => simp [h9] at hh
          | false => simp [h9] at hh; exact hh.symm
        subst hhl
        obtain ⟨v, hv, hlr⟩ := ov y h hy
        exact ⟨v, hv, hl' h v hlr⟩
  · exact ⟨e, j.size, [row], _, 1, arr_ofR (hs := holesOf 0 0 row) (by simp [sets_one_obj]), by simp, rfl, Nat.le_refl _, by unfold maxLen; omega, .inr ⟨w.heap.size, os.size, set_same _ _ _, by simp, by rw [f2, hcs0s]; simp⟩⟩
theorem o_appR (hT : TabOk P T) {X Y : Operand} {t : TypeId} (ho : o.op = .call { callee := .builtin .append, args := #[X, Y], argTypes := #[t, t] }) {i j : TI} {e : TypeId} (hi : T t = some i) (hd0 : i.d = .sl e) (hj : T e = some j)
    {k k2 q sz len : Nat} {rows : List (List Leaf)} {row2 : List Leaf} {hs2 : List (Nat × Nat × Leaf)} {e2 : TypeId} (hX : ev S X = .one (.own k 0 len)) (hk : S.obj k = some (.reg e sz rows [])) (hlen : len = rows.length) (hY : ev S Y = .one (.own k2 0 1)) (hk2 : S.obj k2 = some (.reg e2 sz [row2] hs2)) (hsz : j.size = sz)
    (hpl2 : ∀ (y : Nat) (l : Leaf), row2[y]? = some l → holeAt hs2 0 y = none → plain [l] = true) (hq : S.obj q = none) (hq1 : 100 ≤ q) (hsum : (rows.length + 1) * j.bytes ≤ 140737488355328) (h63 : rows.length + 1 ≤ maxLen) {hs' : List (Nat × Nat × Leaf)} (hhs : (hs2.map fun h => (rows.length + h.1, h.2.1, kL [k] h.2.2)) = hs') :
    OpL P S o { dst := .one (.own q 0 (rows.length + 1)), reads := [k, k2], kills := [k], sets := [(q, .reg e sz (rows ++ [row2]) hs')] } := by
  subst hlen hsz hhs
  intro S' h1 h2 h3 C B a w hR hd
  have hX' := (h1 X (by simp [ho, Op.operands, Call.operands])).trans hX
  have hY' := (h1 Y (by simp [ho, Op.operands, Call.operands])).trans hY
  have hq' := (h3 q (by simp)).trans hq
  have hk' := (h2 k (by simp)).trans hk
  have hk2' := (h2 k2 (by simp)).trans hk2
  have hxr := ev_one hR hX'
  have hyr := ev_one hR hY'
  obtain ⟨ti, hti, hts, htb, z, hz, hzc⟩ := hT.infoAt hj
  have hz1 := hT.one _ _ hj
  obtain ⟨E', sz', rows', A, c, hka, hl1, hv, hlc, hcm, hpl⟩ := id hxr
  rw [arr_ofR hk'] at hka; cases hka
  obtain ⟨E', sz', rows', A2, c2, hka, hl2, hv2, hlc2, hcm2, hplY⟩ := id hyr
  rw [arr_ofR hk2'] at hka; cases hka
  have hkn : S'.obj k ≠ none := by simp [hk']
  obtain ⟨b2, n2, cs2, zf2, hb2, hh2, hcn2, hone2, hle2, hbz2, hreg2⟩ : ∃ b n cs zf, B k2 = some (b, n) ∧ w.heap[b]? = some (.cells cs e2 (0, 0)) ∧ cs.size = n ∧ (∀ c ∈ cs.toList, c.oneCell' = true) ∧ [row2].length * j.size ≤ n ∧ ¬ B.z k2 b ∧
      RegRows w (dep C.din S' B) (LRep w C.din S' B) j.size [row2] hs2 cs (B.z k2) zf := by
    rcases hR.objs k2 _ hk2' with ⟨h0, _⟩ | h
    · cases h0
    · exact h
  simp only [List.length_cons, List.length_nil, Nat.zero_add, Nat.one_mul] at hle2 hl2
  have hw2 : row2.length = j.size := hreg2.wide row2 (by simp)
  generalize hns : cs2.toList.take j.size = ns
  have hnl : ns.length = 1 * j.size := by rw [← hns]; simp; omega
  have hn1 : ∀ x ∈ ns, x.oneCell' = true := fun x hx => hone2 x (by rw [← hns] at hx; exact List.mem_of_mem_take hx)
  have hng : ∀ y, y < j.size → ns[y]? = cs2[y]? := fun y hy => by rw [← hns, List.getElem?_take, if_pos hy]; simp
  have hnsS : Src w j.size (a.eval Y) 1 ns := by
    refine ⟨A2, c2, hv2, hlc2, hcm2, hnl, hn1, ?_⟩
    rcases hplY with h0 | ⟨b, n, hb, hA, _⟩
    · omega
    · rw [hb2] at hb; cases hb
      refine .inr ⟨_, hA, fun y x hy => ?_⟩
      have hyl : y < j.size := by have := (List.getElem?_eq_some_iff.1 hy).1; omega
      rw [hng y hyl] at hy
      simp only [Nat.zero_mul, add_mk, cell_blk hh2, Nat.zero_add]
      exact hy
  obtain ⟨os, zf, hol, ho1, hosS, hW, p1, hzs, hza, hplace⟩ : ∃ (os : List Value) (zf : Nat → Nat → Nat → Prop), os.length = rows.length * j.size ∧ (∀ x ∈ os, x.oneCell' = true) ∧ Src w j.size (.slice A rows.length c) rows.length os ∧ (∀ r ∈ rows, r.length = j.size) ∧
      (∀ (i : Nat) (r : List Leaf) (y : Nat) (l : Leaf), rows[i]? = some r → r[y]? = some l → ∃ v, os[i * j.size + y]? = some v ∧ NL w (dep C.din S' B) l v (zf i y)) ∧ (∀ i y x, zf i y x → B.z k x) ∧ (∀ i y i' y' x, zf i y x → zf i' y' x → i = i' ∧ y = y') ∧
      (c = 0 ∨ ∃ b n cs, B k = some (b, n) ∧ A = some ⟨b, 0, none⟩ ∧ c * j.size ≤ n ∧ w.heap[b]? = some (.cells cs e (0, 0)) ∧ cs.size = n ∧ (∀ x ∈ cs.toList, x.oneCell' = true) ∧ ¬ B.z k b ∧ ∀ y, y < rows.length * j.size → os[y]? = cs[y]?) := by
    rcases hR.objs k _ hk' with ⟨h0, hb0, _⟩ | ⟨b, n, cs, zf, hb, hh, hcn, hone, hle, hbz, hreg⟩
    · subst h0
      refine ⟨[], fun _ _ _ => False, by simp, by simp, ⟨A, c, rfl, by simp, hcm, by simp, by simp, .inl rfl⟩, by simp, fun i r y l hi => by simp at hi, fun _ _ _ h => h.elim, fun _ _ _ _ _ h => h.elim, ?_⟩
      rcases hpl with h | ⟨b, n, hb, _⟩
      · exact .inl h
      · rw [hb0] at hb; cases hb
    · have hog : ∀ y, y < rows.length * j.size → (cs.toList.take (rows.length * j.size))[y]? = cs[y]? := fun y hy => by rw [List.getElem?_take, if_pos hy]; simp
      refine ⟨cs.toList.take (rows.length * j.size), zf, by simp; omega, fun x hx => hone x (List.mem_of_mem_take hx), ⟨A, c, rfl, hlc, hcm, by simp; omega, fun x hx => hone x (List.mem_of_mem_take hx), ?_⟩, hreg.wide, fun i r y l hi hy => ?_, hreg.sub, hreg.apart, ?_⟩
      · rcases hpl with h0 | ⟨b', n', hb', hA, _⟩
        · left; omega
        · rw [hb] at hb'; cases hb'
          refine .inr ⟨_, hA, fun y x hy => ?_⟩
          have hyl : y < rows.length * j.size := by
            have := (List.getElem?_eq_some_iff.1 hy).1
            rw [List.length_take] at this; omega
          rw [hog y hyl] at hy
          simp only [Nat.zero_mul, add_mk, cell_blk hh, Nat.zero_add]
          exact hy
      · obtain ⟨v, hv, hn⟩ := hreg.cell i r y l hi hy rfl
        have hil := (List.getElem?_eq_some_iff.1 hi).1
        have hrl := hreg.wide r (List.mem_of_getElem? hi)
        have hyl := (List.getElem?_eq_some_iff.1 hy).1
        have h6 : (i + 1) * j.size ≤ rows.length * j.size := Nat.mul_le_mul_right _ hil
        rw [Nat.succ_mul] at h6
        exact ⟨v, by rw [hog _ (by omega)]; exact hv, hn⟩
      · rcases hpl with h0 | ⟨b', n', hb', hA, hroom⟩
        · exact .inl h0
        · rw [hb] at hb'; cases hb'
          exact .inr ⟨b, n, cs, hb, by simpa using hA, by simpa using hroom, hh, hcn, hone, hbz, hog⟩
  have p2 : ∀ (y : Nat) (l : Leaf), row2[y]? = some l → holeAt hs2 0 y = none → plain [l] = true ∧ ∃ v, ns[y]? = some v ∧ RepL w (dep C.din S' B) l v := by
    intro y l hy hh
    obtain ⟨v, hv, hn⟩ := hreg2.cell 0 row2 y l rfl hy hh
    have hyl := (List.getElem?_eq_some_iff.1 hy).1
    have hp := hpl2 y l hy hh
    exact ⟨hp, v, by rw [hng y (by omega)]; simpa using hv, (NL_flat hp).1 hn⟩
  have p3 : ∀ (y : Nat) (l h : Leaf), row2[y]? = some l → holeAt hs2 0 y = some h → ∃ v, ns[y]? = some v ∧ LRep w C.din S' B h v := by
    intro y l h hy hh
    obtain ⟨v, hv, hn⟩ := hreg2.hole 0 row2 y l h rfl hy hh
    have hyl := (List.getElem?_eq_some_iff.1 hy).1
    exact ⟨v, by rw [hng y (by omega)]; simpa using hv, hn⟩
  obtain ⟨hfit, hgrow⟩ := run_append_cases (P := P) (ty := o.type) (und_sl hT hi hd0) hti hz (by rw [hts]; exact hosS) (by rw [hts]; exact hnsS) (by rw [htb]; exact hsum) h63
  have hexec : ∀ v w', (Builtin.append_ #[t, t] o.type #[.slice A rows.length c, a.eval Y]).run P w = .ok v w' → (execOp a.eval o).run P w = .ok (.value v) w' := by
    intro v w' h
    simp [execOp, ho, resolve, invoke, builtin, hv, h]
  generalize hobq : Ob.reg e j.size (rows ++ [row2]) (hs2.map fun h => (rows.length + h.1, h.2.1, kL [k] h.2.2)) = obq at *
  have objq : ((S'.kill [k]).sets [(q, obq)]).arr q = some (e, j.size, rows ++ [row2]) := by rw [← hobq]; exact arr_ofR (hs := hs2.map fun h => (rows.length + h.1, h.2.1, kL [k] h.2.2)) (by simp [sets_one_obj])
  have fin : ∀ {v : Value} {w' : World} {p : Option (Nat × Nat)}, (Builtin.append_ #[t, t] o.type #[.slice A rows.length c, a.eval Y]).run P w = .ok v w' →
      Rel C ((S'.kill [k]).sets [(q, obq)]) (B.setZ q p (B.z k)) a w' → LRep w' C.din ((S'.kill [k]).sets [(q, obq)]) (B.setZ q p (B.z k)) (.own q 0 (rows.length + 1)) v →
      Good P C S' a w o { dst := .one (.own q 0 (rows.length + 1)), reads := [k, k2], kills := [k], sets := [(q, obq)] } := by
    intro v w' p hrun hrel hl
    exact ⟨_, v, w', B.setZ q p (B.z k), hexec v w' hrun, .inl rfl, hrel.put o.dst _ v hl hd⟩
  have own1 : ∀ b, B.z k b → ∃ k' ∈ [k], S'.obj k' ≠ none ∧ Ow B k' b := fun b hb => ⟨k, by simp, hkn, .inr hb⟩
  have hzlt : ∀ x, B.z k x → x < w.heap.size := fun x hx => (hR.mineO k x hkn (.inr hx)).1
  rcases Nat.lt_or_ge c (rows.length + 1) with hg | hf
  · -- a new array
    have hcap := grownCap_ge w (rows.length + 1) c e h63
    generalize hcells : os.toArray ++ ns.toArray ++ Builtin.zeroCells z.cells (grownCap w (rows.length + 1) c e - (rows.length + 1)) = cells at hgrow
    have hzs' : z.cells.size = j.size := by have := hz1.1; rw [← hzc] at this; simpa using this
    have hcsz : cells.size = grownCap w (rows.length + 1) c e * j.size := by
      rw [← hcells]
      simp [Builtin.zeroCells, hol, hnl, hzs']
      rw [← Nat.succ_mul, ← Nat.add_mul]
      congr 1; omega
    have hget : ∀ y, cells[y]? = if y < rows.length * j.size then os[y]? else if y < rows.length * j.size + j.size then ns[y - rows.length * j.size]? else (Builtin.zeroCells z.cells (grownCap w (rows.length + 1) c e - (rows.length + 1)))[y - (rows.length * j.size + j.size)]? := by
      intro y
      rw [← hcells, Array.getElem?_append, Array.getElem?_append]
      simp only [Array.size_append, List.size_toArray, hol, hnl, List.getElem?_toArray, Nat.one_mul]
      by_cases hy1 : y < rows.length * j.size
      · rw [if_pos (by omega), if_pos hy1, if_pos hy1]
      · by_cases hy2 : y < rows.length * j.size + j.size
        · simp only [if_pos hy2, if_neg hy1]
        · simp only [if_neg hy2, if_neg hy1]
    have hone : ∀ x ∈ cells.toList, x.oneCell' = true := by
      intro x hx
      rw [← hcells] at hx
      simp at hx
      rcases hx with hx | hx | hx
      · exact ho1 x hx
      · exact hn1 x hx
      · simp [Builtin.zeroCells] at hx
        obtain ⟨y, hy, rfl⟩ := hx
        have hz0 : 0 < z.cells.size := by
          rcases Nat.eq_zero_or_pos z.cells.size with h | h
          · rw [h] at hy; simp at hy
          · exact h
        have hym : y % z.cells.size < z.cells.size := Nat.mod_lt _ hz0
        rw [getElem!_pos z.cells (y % z.cells.size) hym]
        exact hz1.2 _ (by rw [← hzc]; simp)
    have hrel := Rel.moveZ (w' := w.drew.alloc (.cells cells e)) hR (ks := [k]) (ob := obq) (p := some (w.heap.size, cells.size)) (Z := B.z k) hq' hq1 rfl rfl rfl (by simp) (fun x hx _ => Below.heap_alloc w.drew _ x hx)
      (fun b n hb => by cases hb; exact .inr ⟨Nat.le_refl _, by simp⟩) own1 (fun e1 er => by
        rw [← hobq]
        refine .inr ⟨w.heap.size, cells.size, cells, fun i j x => i < rows.length ∧ zf i j x, by simp [Pl.setZ], heap_alloc_new w.drew _, rfl, hone, by rw [hcsz, List.length_append]; exact Nat.mul_le_mul_right _ hcap.1, fun h => ?_, ?_⟩
        · have h : (if q = q then B.z k w.heap.size else B.z q w.heap.size) := h
          rw [if_pos rfl] at h
          have := hzlt _ h; omega
        · have ez : (B.setZ q (some (w.heap.size, cells.size)) (B.z k)).z q = B.z k := by funext x; simp [Pl.setZ]
          rw [ez]
          rw [hobq]
          exact regRows_app hW hw2 p1 p2 p3 hzs hza er e1 (fun x hx => Below.heap_alloc w.drew _ x (hzlt x hx)) (fun y hy => by rw [hget, if_pos hy]) (fun y hy => by rw [hget, if_neg (by omega), if_pos (by omega), Nat.add_sub_cancel_left]))
    exact fin (hgrow hg) hrel ⟨e, j.size, _, some ⟨w.heap.size, 0, none⟩, grownCap w (rows.length + 1) c e, objq, by simp; exact hcap.1, rfl, hcap.1, hcap.2, .inr ⟨w.heap.size, cells.size, by simp [Pl.setZ], by simp, by rw [hcsz]; simp⟩⟩
  · have hrunf := hfit hf
    rcases hplace with h0 | ⟨b, n, cs, hb, hA, hroom, hh, hcn, hone, hbz, hog⟩
    · omega
    · -- in place
      subst hA
      have hsz : rows.length * j.size + j.size ≤ c * j.size := by rw [← Nat.succ_mul]; exact Nat.mul_le_mul_right _ hf
      have hnl' : ns.length = j.size := by omega
      have hst : (storeCells ⟨b, rows.length * j.size, none⟩ ns).run P w = .ok () (w.setCells b (rows.length * j.size) ns) := by
        have := run_storeCells_cells (P := P) b (rows.length * j.size) ns 0 w (fun y hy => by
          rw [show rows.length * j.size + 0 + y = rows.length * j.size + y from by omega, cell_blk hh]; simp; omega) (fun y hy => frozen_blk hh _) hn1
        simpa using this
      have hrun1 : (Builtin.append_ #[t, t] o.type #[.slice (some ⟨b, 0, none⟩) rows.length c, a.eval Y]).run P w = .ok (.slice (some ⟨b, 0, none⟩) (rows.length + 1) c) (w.setCells b (rows.length * j.size) ns) := by
        rw [hrunf]
        simp [add_mk, hts, hst]
      obtain ⟨cs', hh', hs', hget⟩ := setCells_heap b e ns (rows.length * j.size) w cs hh
      obtain ⟨e1, e2, e3, e4⟩ := setCells_same b ns (rows.length * j.size) w
      have hrel := Rel.moveZ (w' := w.setCells b (rows.length * j.size) ns) hR (ks := [k]) (ob := obq) (p := some (b, n)) (Z := B.z k) hq' hq1 e1 e2 e3 (by omega)
        (fun x hx hne => setCells_other b _ _ _ x fun ex => hne k (by simp) hkn (by rw [ex]; exact .at hb))
        (fun b' n' hb' => by cases hb'; exact .inl ⟨k, by simp, hkn, .at hb⟩) own1
        (fun el er => by
          rw [← hobq]
          refine .inr ⟨b, n, cs', fun i j x => i < rows.length ∧ zf i j x, by simp [Pl.setZ], hh', by omega, ?_, by rw [List.length_append]; simp only [List.length_cons, List.length_nil, Nat.zero_add]; rw [Nat.succ_mul]; omega, fun h => ?_, ?_⟩
          · intro x hx
            obtain ⟨y, hy⟩ := List.getElem?_of_mem hx
            have hy' : cs'[y]? = some x := by simpa using hy
            rw [hget] at hy'
            split at hy'
            · exact hn1 x (List.mem_of_getElem? hy')
            · exact hone x (List.mem_of_getElem? (i := y) (by simpa using hy'))
          · have h : (if q = q then B.z k b else B.z q b) := h
            rw [if_pos rfl] at h
            exact hbz h
          · have ez : (B.setZ q (some (b, n)) (B.z k)).z q = B.z k := by funext x; simp [Pl.setZ]
            rw [ez, hobq]
            refine regRows_app hW hw2 p1 p2 p3 hzs hza er el (fun x hx => setCells_other b _ _ _ x fun ex => hbz (ex ▸ hx)) (fun y hy => ?_) (fun y hy => ?_)
            · rw [hget, if_neg (by omega), hog y hy]
            · rw [hget, if_pos (by omega), Nat.add_sub_cancel_left])
      exact fin hrun1 hrel ⟨e, j.size, _, some ⟨b, 0, none⟩, c, objq, by simp; exact hf, rfl, hf, hcm, .inr ⟨b, n, by simp [Pl.setZ], by simp, by simpa using hroom⟩⟩
theorem o_store_regH (hT : TabOk P T) {t : TypeId} {A X : Operand} (ho : o.op = .store t A X) (hd0 : o.dst = none) {i : TI} (hi : T t = some i) {q r j E sz : Nat} {rows : List (List Leaf)} {hs : List (Nat × Nat × Leaf)} {row new : List Leaf} (hA : ev S A = .one (.elm q r j))
    (hq : S.obj q = some (.reg E sz rows hs)) (hrow : rows[r]? = some row) {s : Slot} (hX : ev S X = s) (hn : leaves s = some new) (hk : new.length = i.size ∧ j + i.size ≤ sz) (hno : ∀ k, j ≤ k → k < j + new.length → holeAt hs r k = none ∨ ∃ l, new[k - j]? = some l ∧ plain [l] = false) {rows' : List (List Leaf)} (hr : rows.set r (regSt row j new) = rows') {hs' : List (Nat × Nat × Leaf)} (hhs : ∀ i k, holeAt hs' i k = holeAt (holesOf r j new ++ hs) i k) :
    OpL P S o { reads := [q], sets := [(q, .reg E sz rows' hs')] } := by
  subst hr
  intro S' h1 h2 h3 C B a w hR hd
  have hA' := (h1 A (by simp [ho, Op.operands])).trans hA
  have hX' := (h1 X (by simp [ho, Op.operands])).trans hX
  have hq' := (h2 q (by simp)).trans hq
  obtain ⟨E', sz', rows', b, n, hq2, hlt, hb2, hv⟩ := ev_one hR hA'
  rw [arr_ofR hq'] at hq2; cases hq2
  rcases hR.objs q _ hq' with ⟨h0, _⟩ | ⟨b', n', cs, zf, hb3, hh, hcn, hone0, hle, hbz, hreg⟩
  · subst h0; simp at hrow
  rw [hb2] at hb3; cases hb3
  have h6 : (r + 1) * sz ≤ rows.length * sz := Nat.mul_le_mul_right _ hlt
  rw [Nat.succ_mul] at h6
  have hl : row.length = sz := hreg.wide row (List.mem_of_getElem? hrow)
  have hsx := ev_rep hR X
  rw [hX'] at hsx
  obtain ⟨hall, hone⟩ := leaves_rep hn hsx
  have hcsz : (a.eval X).cells.size = i.size := by have := hall.length; simp at this; omega
  have hrun := run_storeAt (P := P) (k := r * sz + j) hT hi hh hcsz (by omega) hone
  refine ⟨.skip, undef, w.setCells b (r * sz + j) (a.eval X).cells.toList, B, by simp [execOp, ho, hv, hrun], .inr ⟨rfl, rfl⟩, ?_⟩
  rw [hd0]
  show Rel C (S'.sets [(q, .reg E sz (rows.set r (regSt row j new)) hs')]) B a _
  obtain ⟨cs', hh', hcsz2, hg⟩ := setCells_heap b E (a.eval X).cells.toList (r * sz + j) w cs hh
  obtain ⟨e1, e2, e3, e4⟩ := setCells_same b (a.eval X).cells.toList (r * sz + j) w
  have hvl : (a.eval X).cells.toList.length = new.length := hall.length.symm
  refine hR.turn hq' hb2 (by simp [SameShape]) e1 e2 e3 e4 (fun x hx => setCells_other b _ _ _ x hx) fun hl' hr' => ?_
  have hkeepz : ∀ x, B.z q x → (w.setCells b (r * sz + j) (a.eval X).cells.toList).heap[x]? = w.heap[x]? := fun x hx => setCells_other b _ _ _ x fun e => hbz (by rw [← e]; exact hx)
  have hcell : ∀ x k, k < sz → ¬ (x = r ∧ j ≤ k ∧ k < j + new.length) → x < rows.length → cs'[x * sz + k]? = cs[x * sz + k]? := by
    intro x k hk' hne hx
    rw [hg, if_neg]
    rintro ⟨g1, g2, _⟩
    apply hne
    have hxr : x = r := by
      rcases Nat.lt_trichotomy x r with h | h | h
      · have : (x + 1) * sz ≤ r * sz := Nat.mul_le_mul_right _ h
        rw [Nat.succ_mul] at this; omega
      · exact h
      · have : (r + 1) * sz ≤ x * sz := Nat.mul_le_mul_right _ h
        rw [Nat.succ_mul] at this; omega
    subst hxr
    exact ⟨rfl, by omega, by omega⟩
  have hinside : ∀ k, j ≤ k → k < j + new.length → ∀ l, new[k - j]? = some l → ∃ v, cs'[r * sz + k]? = some v ∧ LRep w C.din S' B l v := by
    intro k k1 k2 l hln
    obtain ⟨v, hv1, hv2⟩ := hall.get _ l hln
    refine ⟨v, ?_, hv2⟩
    rw [hg, if_pos (by omega), show r * sz + k - (r * sz + j) = k - j from by omega]
    exact hv1
  have hget : ∀ (i' : Nat) (r' : List Leaf) (k : Nat) (l : Leaf), (rows.set r (regSt row j new))[i']? = some r' → r'[k]? = some l → k < sz ∧ i' < rows.length ∧ ((i' = r ∧ j ≤ k ∧ k < j + new.length ∧ ∃ ln l0, new[k - j]? = some ln ∧ row[k]? = some l0 ∧ l = pickL ln l0) ∨ (¬ (i' = r ∧ j ≤ k ∧ k < j + new.length) ∧ ∃ r0, rows[i']? = some r0 ∧ r0[k]? = some l)) := by
    intro i' r' k l hi' hk'
    rw [List.getElem?_set] at hi'
    by_cases hir : r = i'
    · subst hir
      rw [if_pos rfl, if_pos hlt] at hi'
      cases hi'
      have hkl : k < sz := by rw [← hl, ← regSt_length row j new]; exact (List.getElem?_eq_some_iff.1 hk').1
      refine ⟨hkl, hlt, ?_⟩
      rw [regSt_get] at hk'
      by_cases hin : j ≤ k ∧ k < j + new.length
      · left
        rw [if_pos hin.1, pickLs_get] at hk'
        have g1 : new[k - j]? = some (new[k - j]'(by omega)) := List.getElem?_eq_getElem (by omega)
        have g2 : row[k]? = some (row[k]'(by omega)) := List.getElem?_eq_getElem (by omega)
        have g3 : (row.drop j)[k - j]? = row[k]? := by rw [List.getElem?_drop]; congr 1; omega
        rw [g1, g3, g2] at hk'
        exact ⟨rfl, hin.1, hin.2, _, _, g1, g2, (Option.some.inj hk').symm⟩
      · right
        refine ⟨fun h => hin h.2, row, hrow, ?_⟩
        by_cases hjk : j ≤ k
        · rw [if_pos hjk, pickLs_get, List.getElem?_eq_none (l := new) (by omega), List.getElem?_drop, show j + (k - j) = k from by omega] at hk'
          exact hk'
        · rwa [if_neg hjk] at hk'
    · rw [if_neg hir] at hi'
      have := hreg.wide r' (List.mem_of_getElem? hi')
      exact ⟨by rw [← this]; exact (List.getElem?_eq_some_iff.1 hk').1, (List.getElem?_eq_some_iff.1 hi').1, .inr ⟨fun h => hir h.1.symm, r', hi', hk'⟩⟩
  have hholes : ∀ i' k, holeAt hs' i' k = if i' = r ∧ j ≤ k ∧ k < j + new.length then ((new[k - j]?).bind fun l => if plain [l] = true then none else some l) else holeAt hs i' k := by
    intro i' k
    rw [hhs, holeAt_append]
    by_cases hir : i' = r
    · subst hir
      rw [holesOf_at]
      by_cases hjk : j ≤ k
      · rw [if_pos hjk]
        by_cases hkn : k < j + new.length
        · rw [if_pos ⟨rfl, hjk, hkn⟩]
          rcases hno k hjk hkn with h | ⟨l, h, hp⟩
          · rw [h, Option.or_none]
          · rw [h]; simp [hp]
        · rw [if_neg fun h => hkn h.2.2, List.getElem?_eq_none (by omega)]; rfl
      · rw [if_neg hjk, if_neg fun h => hjk h.2.1]; rfl
    · rw [holesOf_ne hir, if_neg fun h => hir h.1]; rfl
  refine .inr ⟨b, n, cs', fun i' k x => zf i' k x ∧ ¬ (i' = r ∧ j ≤ k ∧ k < j + new.length), hb2, hh', by omega, ?_, by simpa using hle, hbz, fun r' hr'' => ?_, fun i' r' k l hi' hk' hhole => ?_, fun i' r' k l h' hi' hk' hhole => ?_, fun i' k x hx => hreg.sub i' k x hx.1, fun i1 k1 i2 k2 x hx hx' => hreg.apart _ _ _ _ x hx.1 hx'.1⟩
  · intro c hc
    obtain ⟨y, hy⟩ := List.getElem?_of_mem hc
    have hy' : cs'[y]? = some c := by simpa using hy
    rw [hg] at hy'
    split at hy'
    · exact hone c (List.mem_of_getElem? hy')
    · exact hone0 c (List.mem_of_getElem? (i := y) (by simpa using hy'))
  · rcases List.mem_or_eq_of_mem_set hr'' with h | h
    · exact hreg.wide r' h
    · rw [h, regSt_length]; exact hl
  · rw [hholes] at hhole
    obtain ⟨hks, hil, hcase⟩ := hget i' r' k l hi' hk'
    rcases hcase with ⟨rfl, g1, g2, ln, l0, g3, g4, g5⟩ | ⟨g1, r0, g2, g3⟩
    · rw [if_pos ⟨rfl, g1, g2⟩, g3] at hhole
      have hpl : plain [ln] = true := by
        cases hp : plain [ln] with
        | true => rfl
        | false => simp [hp] at hhole
      obtain ⟨v, hv1, hv2⟩ := hinside k g1 g2 ln g3
      have hll : l = ln := by rw [g5]; cases ln <;> simp [plain] at hpl <;> rfl
      have hrep : RepL w (dep C.din S' B) ln v := by cases ln <;> simp [plain] at hpl <;> exact hv2
      exact ⟨v, hv1, by rw [hll]; exact (NL_flat hpl).2 (hr' _ _ hrep)⟩
    · rw [if_neg g1] at hhole
      obtain ⟨v, hv1, hv2⟩ := hreg.cell i' r0 k l g2 g3 hhole
      exact ⟨v, (hcell i' k hks g1 hil).trans hv1, NL_mono hr' l v _ _ (fun x hx => ⟨hx, g1⟩) (fun x hx => hkeepz x (hreg.sub _ _ x hx)) hv2⟩
  · rw [hholes] at hhole
    obtain ⟨hks, hil, hcase⟩ := hget i' r' k l hi' hk'
    rcases hcase with ⟨rfl, g1, g2, ln, l0, g3, g4, g5⟩ | ⟨g1, r0, g2, g3⟩
    · rw [if_pos ⟨rfl, g1, g2⟩, g3] at hhole
      have hln : h' = ln := by
        simp only [Option.bind_some] at hhole
        split at hhole
        · cases hhole
        · exact (Option.some.inj hhole).symm
      obtain ⟨v, hv1, hv2⟩ := hinside k g1 g2 ln g3
      exact ⟨v, hv1, by rw [hln]; exact hl' _ _ hv2⟩
    · rw [if_neg g1] at hhole
      obtain ⟨v, hv1, hv2⟩ := hreg.hole i' r0 k l h' g2 g3 hhole
      exact ⟨v, (hcell i' k hks g1 hil).trans hv1, hl' _ _ hv2⟩
theorem Rel.freezeN {S : St} {C : Ctx} {B : Pl} {a : Act} {w : World} (hR : Rel C S B a w) {q : Nat} {E : TypeId} {sz : Nat} {rows : List (List Leaf)} (hq : S.obj q = some (.reg E sz rows [])) :
    ∃ B', Rel C (S.sets [(q, .arr E sz (unNss rows))]) B' a w := by
  have hobj := sets_one_obj S q (.arr E sz (unNss rows))
  have hql : S.obj q ≠ none := by simp [hq]
  have live : ∀ o, (S.sets [(q, Ob.arr E sz (unNss rows))]).obj o ≠ none → S.obj o ≠ none := by
    intro o h; rw [hobj] at h
    by_cases e : o = q
    · subst e; simp [hq]
    · rwa [if_neg e] at h
  have hOw : ∀ o b, Ow ⟨B.f, fun x b => x ≠ q ∧ B.z x b⟩ o b → Ow B o b := fun o b h => h.elim (fun h => .inl h) fun h => .inr h.2
  have hne : ∀ o, o ≠ q → (S.sets [(q, Ob.arr E sz (unNss rows))]).obj o = S.obj o := fun o h => by rw [hobj, if_neg h]
  have hsame : ∀ o ob, S.obj o = some ob → ∃ ob', (S.sets [(q, Ob.arr E sz (unNss rows))]).obj o = some ob' ∧ SameShape ob ob' := by
    intro o ob ho
    by_cases e : o = q
    · subst e; rw [hq] at ho; cases ho; exact ⟨_, by rw [hobj, if_pos rfl], by simp [SameShape, unNss_length]⟩
    · exact ⟨ob, (hne o e).trans ho, SameShape.refl ob⟩
  refine ⟨⟨B.f, fun x b => x ≠ q ∧ B.z x b⟩, hR.recast rfl rfl rfl (Nat.le_refl _) (fun _ _ _ => rfl) (fun o b ho hb => .inl ⟨o, live o ho, hOw o b hb⟩) (fun o o' b h h' hb hb' => hR.injO o o' b (live o h) (live o' h') (hOw o b hb) (hOw o' b hb')) (fun o _ ho => ?_) fun er hd => ?_⟩
  · obtain ⟨ob, hob⟩ := Option.ne_none_iff_exists'.1 (live o ho)
    obtain ⟨ob', h1, h2⟩ := hsame o ob hob
    exact ⟨rfl, ob, ob', hob, h1, h2⟩
  · have hd' : ∀ b, dep C.din S B b → dep C.din (S.sets [(q, Ob.arr E sz (unNss rows))]) ⟨B.f, fun x b => x ≠ q ∧ B.z x b⟩ b := fun b h => ⟨h.1, fun o ho hb => h.2 o (live o ho) (hOw o b hb)⟩
    have e : ∀ l v, LRep w C.din S B l v → LRep w C.din (S.sets [(q, Ob.arr E sz (unNss rows))]) ⟨B.f, fun x b => x ≠ q ∧ B.z x b⟩ l v := fun l v h =>
      LRep.step (Nat.le_refl _) (fun _ _ _ => rfl) (fun b h _ => hd' b h) (fun o ob ho => ⟨rfl, hsame o ob ho⟩) h
    refine ⟨fun t => SRep.mono e (hR.slots t), fun o ob ho => ?_⟩
    by_cases eo : o = q
    · subst eo
      rw [hobj, if_pos rfl] at ho; cases ho
      rcases hR.objs o _ hq with ⟨h1, h2, _⟩ | ⟨b, n, cs, zf, hb, hh, hn, h1, h2, hbz, h3⟩
      · subst h1; exact .inl ⟨rfl, h2⟩
      · have hzd : ∀ x, B.z o x → dep C.din (S.sets [(o, Ob.arr E sz (unNss rows))]) ⟨B.f, fun x b => x ≠ o ∧ B.z x b⟩ x := fun x hx => by
          refine ⟨(hR.mineO o x hql (.inr hx)).2.2, fun o' ho' hx' => ?_⟩
          by_cases e' : o' = o
          · subst e'
            rcases hx' with ⟨m, hm⟩ | hm
            · have hm : B o' = some (x, m) := hm
              rw [hb] at hm; cases hm; exact hbz hx
            · exact hm.1 rfl
          · exact e' (hR.injO o' o x (live o' ho') hql (hOw o' x hx') (.inr hx))
        refine .inr ⟨b, n, cs, hb, hh, hn, h1, by rw [unNss_length]; exact h2, fun i r hi => ?_⟩
        rw [unNss_get] at hi
        obtain ⟨r0, hr0, rfl⟩ := Option.map_eq_some_iff.1 hi
        have hw := h3.wide r0 (List.mem_of_getElem? hr0)
        have hil := (List.getElem?_eq_some_iff.1 hr0).1
        have h6 : (i + 1) * sz ≤ rows.length * sz := Nat.mul_le_mul_right _ hil
        rw [Nat.succ_mul] at h6
        refine All2.of_get (by simp [unNs_length, hw]; omega) fun j l v hj hv => ?_
        rw [unNs_get] at hj
        obtain ⟨l0, hl0, rfl⟩ := Option.map_eq_some_iff.1 hj
        have hjl : j < sz := by rw [← hw]; exact (List.getElem?_eq_some_iff.1 hl0).1
        obtain ⟨u, hu, hnl⟩ := h3.cell i r0 j l0 hr0 hl0 rfl
        rw [List.getElem?_take, if_pos hjl, List.getElem?_drop] at hv
        have hv' : cs[i * sz + j]? = some v := by simpa using hv
        rw [hu] at hv'; cases hv'
        exact NL_rep er l0 _ (zf i j) (fun x hx => hzd x (h3.sub i j x hx)) hnl
    · rw [hne o eo] at ho
      exact (hR.objs o ob ho).other rfl (by funext b; simp [eo]) e er fun _ _ => rfl
theorem wk_freezeN (n : Nat) {L : LS} {q E sz : Nat} {rows rows' : List (List Leaf)} (hq : L.st.obj q = some (.reg E sz rows [])) (hr : unNss rows = rows') : Wk n L.st (LS.st ⟨L.ts, (q, .arr E sz rows') :: L.os, L.ks⟩) := by
  subst hr
  intro C B a w hn hR
  obtain ⟨B', h⟩ := hR.freezeN hq
  have e : L.st.sets [(q, .arr E sz (unNss rows))] = LS.st ⟨L.ts, (q, .arr E sz (unNss rows)) :: L.os, L.ks⟩ := (LS.st_sets L [(q, .arr E sz (unNss rows))]).symm
  exact ⟨B', by rw [← e]; exact h⟩
theorem VL.wkR (id : Nat) {P : Program} {n : Nat} {ops : Array Oper} {L L' : LS} {K : Exit → LS → Prop} (hw : Wk n L.st L'.st) (h : VL P n (.region id ops true) L' K) : VL P n (.region id ops true) L K := VL.wk hw h
end
open Go Go.RowKit Go.Proofs
theorem putN (M : List VRow) (r : VRow) (l : Leaf) : (M.map encVRowN ++ [[Leaf.g (.int .i64 r.id), Leaf.g (.int .i64 r.ver), l]]).set ((M.map encVRowN).length + 0) [Leaf.g (.int .i64 r.id), Leaf.g (.int .i64 r.ver), .nst 37 3 (r.vals.map encVal)] = (M ++ [r]).map encVRowN := by
  rw [List.set_append_right _ _ (by omega), Nat.add_zero, Nat.sub_self, List.set_cons_zero, List.map_append]
  rfl
theorem hpl3 (a b : Value) (l x : Leaf) : ∀ (y : Nat) (z : Leaf), [Leaf.g a, Leaf.g b, l][y]? = some z → holeAt [(0, 2, x)] 0 y = none → plain [z] = true := by
  intro y z h1 h2
  rcases y with _ | _ | _ | y
  · simp at h1; subst h1; rfl
  · simp at h1; subst h1; rfl
  · simp [holeAt] at h2
  · simp at h1
theorem c_l3CopyR (t : VTable) (ht : t.md) : CallsV Tryz.prog 69 [.agg (encVTable t)] [] (funQ (tabS t) [] (tabO t)) := by
  have hfc := ht.fc
  have hrl := ht.r
  have hrm := ht.rm
  refine funF_walk hTb Tryz.func69 rfl rfl Tryz.ntmps69 (by simp) (by simp) ?_
  have a1 : t.first.length ≤ 2000000 := by omega
  have a2 : t.changes.length ≤ 2000000 := by omega
  (conv => whnf); repeat' ((first | (refine VL.drawS hTb hMix (by kernel_rfl) (by kernel_rfl) (by kernel_rfl) ?_)) <;> conv => whnf)
  refine DT.opk hTb rfl (o_app0 (f := encCol) (m := t.first) (q := 108) hTb rfl rfl rfl rfl rfl rfl rfl rfl rfl rfl (by omega) (by show _ * 64 ≤ _; omega) (by unfold maxLen; omega)) ?_
  conv => whnf
  refine DT.opk hTb rfl (o_app0 (f := encChange) (m := t.changes) (q := 112) hTb rfl rfl rfl rfl rfl rfl rfl rfl rfl rfl (by omega) (by show _ * 104 ≤ _; omega) (by unfold maxLen; omega)) ?_
  (conv => whnf); repeat' ((first | (refine And.intro ?_ ?_ <;> ((try intro h) <;> (try simp only [Bool.not_true, Bool.not_false] at h) <;> first | exact absurd h gF | exact absurd h.symm gF | conv => whnf)) | (refine Need.mk ?_; kernel_rfl)) <;> conv => whnf)
  refine VL.loopI hTb (fun i => i ≤ t.rows.length) (fun i => ⟨[(1, .one (.ptr 101 0)), (2, .one (.ptr 102 0)), (3, .one (.ptr 103 0)), (4, iS i)], [(101, .box (encVTable t)), (102, .box [.g (.slice none 0 0), .g (.slice none 0 0), .g (.slice none 0 0), .g (.int .i64 0)]), (103, .box [.own 108 0 t.first.length, .own 112 0 t.changes.length, .own 120 0 (t.rows.take i).length, .g (.int .i64 t.next)]), (108, .arr 39 7 (t.first.map encCol)), (112, .arr 105 10 (t.changes.map encChange)), (120, .reg 35 3 ((t.rows.take i).map encVRowN) [])], []⟩) (fun i => t.rows.length - i) 0 (Nat.zero_le _)
    (((wk_nilBox _ (q0 := 103) (j := 2) (q := 120) (sz := 3) (E := 35) rfl rfl rfl (by decide)).trans (wk_toReg _ (q := 120) rfl)).trans (wk_to [(101, 101), (102, 102), (103, 103), (108, 108), (112, 112), (120, 120)] rfl rfl rfl ⟨rfl, rfl, rfl, rfl, trivial⟩ ⟨rfl, ⟨_, rfl, rfl⟩, rfl, ⟨_, rfl, rfl⟩, rfl, ⟨_, rfl, rfl⟩, rfl, ⟨_, rfl, rfl⟩, rfl, ⟨_, rfl, rfl⟩, rfl, ⟨_, rfl, rfl⟩, trivial⟩)) (fun i hi => ?_)
  (conv => whnf)
  refine And.intro (fun h2 => ?_) (fun h2 => ?_)
  · have hil : i < t.rows.length := by simpa using h2
    have hrw := rowVRow hil
    have hvl := (hrm _ (List.getElem_mem hil)).1
    have htk := List.take_succ_eq_append_getElem hil
    have hml : (t.rows.take i).length ≤ 1048576 := by simp; omega
    generalize t.rows.take i = M at htk hml ⊢
    generalize t.rows[i] = ri at hrw hvl htk
    have hml2 : (M.map encVRowN).length = M.length := List.length_map _
    (conv => whnf); repeat' ((first | (refine VL.drawS hTb hMix (by kernel_rfl) (by kernel_rfl) (by kernel_rfl) ?_) | (refine DT.op hTb rfl (o_index_imm hTb rfl rfl rfl rfl rfl rfl rfl (by omega) (hrw)) rfl ?_) | (refine DT.opk hTb rfl (o_app0 (f := encVal) (m := ri.vals) (q := 144) hTb rfl rfl rfl rfl rfl rfl rfl rfl rfl rfl (by omega) (by show _ * 32 ≤ _; omega) (by unfold maxLen; omega)) ?_)) <;> conv => whnf)
    refine DT.op hTb rfl (o_buildSliceH (q := 146) hTb rfl rfl rfl rfl rfl rfl rfl rfl (by decide) (by decide) rfl (by decide) rfl) rfl ?_
    conv => whnf
    refine DT.opk hTb rfl (o_appR (q := 147) hTb rfl rfl rfl rfl rfl rfl hml2.symm rfl rfl rfl (hpl3 _ _ _ _) rfl (by decide) (by show (_ + 1) * 40 ≤ _; omega) (by unfold maxLen; omega) rfl) ?_
    (conv => whnf); repeat' ((first | (refine And.intro ?_ ?_ <;> ((try intro h) <;> (try simp only [Bool.not_true, Bool.not_false] at h) <;> first | exact absurd h gF | exact absurd h.symm gF | conv => whnf)) | (refine Need.mk ?_; kernel_rfl)) <;> conv => whnf)
    have hr2 : ∀ l : Leaf, (M.map encVRowN ++ [[Leaf.g (.int .i64 ri.id), Leaf.g (.int .i64 ri.ver), l]])[(M.map encVRowN).length + 0]? = some [Leaf.g (.int .i64 ri.id), Leaf.g (.int .i64 ri.ver), l] := fun l => by
      rw [Nat.add_zero, List.getElem?_append_right (Nat.le_refl _), Nat.sub_self]; rfl
    exact ⟨i + 1, hil, by omega, (wk_putBack _ (q := 147) (r := (M.map encVRowN).length + 0) (j := 2) (v := 144) (E := 35) (sz := 3) (hs := []) (hs' := []) (rows' := (M ++ [ri]).map encVRowN) rfl rfl (.inl rfl) (hr2 _) rfl (by simp) (by decide) rfl (putN M ri _) rfl).trans
      (wk_to [(101, 101), (102, 102), (103, 103), (108, 108), (112, 112), (147, 120)] rfl rfl rfl ⟨rfl, rfl, rfl, gW (by unfold maxLen; omega), trivial⟩ ⟨rfl, ⟨_, rfl, rfl⟩, rfl, ⟨_, rfl, rfl⟩, rfl, ⟨_, rfl, congrArg (fun n => Ob.box [.own 108 0 t.first.length, .own 112 0 t.changes.length, .own 120 0 n, .g (.int .i64 t.next)]) (by rw [htk]; simp)⟩, rfl, ⟨_, rfl, rfl⟩, rfl, ⟨_, rfl, rfl⟩, rfl, ⟨_, rfl, congrArg (fun r : List VRow => Ob.reg 35 3 (r.map encVRowN) []) htk.symm⟩, trivial⟩)⟩
  · have hie : i = t.rows.length := by simp at h2; omega
    subst hie
    rw [List.take_length]
    (conv => whnf)
    exact endW [108, 112, 120] rfl rfl rfl rfl rfl (LeS.refl _) rfl rfl
structure VTable.bn (t : VTable) : Prop where
  md : t.md
  rl : t.rows.length ≤ 9
theorem aggFz {A B R R' : List (List Leaf)} {n : Nat} {x : Leaf} (hR : R = R') (h : R.length ≤ n) : Slot.agg [.imm 7 A, .imm 10 B, .imm 3 ((R.drop 0).take n), x] = Slot.agg [.imm 7 A, .imm 10 B, .imm 3 R', x] := by
  subst hR; rw [List.drop_zero, List.take_of_length_le h]
structure VTable.bz (t : VTable) (n : Nat) : Prop where
  fl : t.first.length ≤ 10 + 4 * n
  fs : smlCols t.first
  cl : t.changes.length ≤ 8
  cm : mdChs t.changes
  rl : t.rows.length ≤ 8 + n
  rm : ∀ r ∈ t.rows, r.vals.length ≤ 18 + n ∧ mdVals r.vals
theorem VTable.bz.md {t : VTable} {n : Nat} (h : t.bz n) (hn : n ≤ 100) : t.md := by
  have h1 := h.fl
  have h2 := h.cl
  have h3 := h.rl
  exact ⟨by omega, h.fs.md, h.cm, by omega, fun r hr => ⟨by have := (h.rm r hr).1; omega, (h.rm r hr).2⟩⟩
theorem VTable.bz.bn {t : VTable} (h : t.bz 1) : t.bn := ⟨h.md (by omega), h.rl⟩
theorem bzF {t : VTable} {n : Nat} (h : t.bz n) {cs : List Col} (hs : smlCols cs) (hl : cs.length ≤ 10 + 4 * (n + 1)) : VTable.bz ⟨cs, t.changes, t.rows, t.next⟩ (n + 1) := ⟨hl, hs, h.cl, h.cm, by have := h.rl; simp only; omega, fun r hr => ⟨by have := (h.rm r hr).1; omega, (h.rm r hr).2⟩⟩
theorem bzC {t : VTable} {n : Nat} (h : t.bz n) (k : Nat) : VTable.bz ⟨t.first, t.changes.drop k, t.rows, t.next⟩ (n + 1) := ⟨by have := h.fl; simp only; omega, h.fs, by have := h.cl; simp; omega, fun x hx => h.cm x (List.mem_of_mem_drop hx), by have := h.rl; simp only; omega, fun r hr => ⟨by have := (h.rm r hr).1; omega, (h.rm r hr).2⟩⟩
theorem bzN {t : VTable} {n : Nat} (h : t.bz n) (v : Int) : VTable.bz ⟨t.first, t.changes, t.rows, v⟩ (n + 1) := ⟨by have := h.fl; simp only; omega, h.fs, h.cl, h.cm, by have := h.rl; simp only; omega, fun r hr => ⟨by have := (h.rm r hr).1; omega, (h.rm r hr).2⟩⟩
theorem bzR {t : VTable} {n : Nat} (h : t.bz n) {rows : List VRow} (hl : rows.length ≤ 8 + (n + 1)) (hr : ∀ r ∈ rows, r.vals.length ≤ 18 + (n + 1) ∧ mdVals r.vals) : VTable.bz ⟨t.first, t.changes, rows, t.next⟩ (n + 1) := ⟨by have := h.fl; simp only; omega, h.fs, h.cl, h.cm, hl, hr⟩
theorem bzT {t : VTable} {n : Nat} (h : t.bz n) : t.bz (n + 1) := ⟨by have := h.fl; omega, h.fs, h.cl, h.cm, by have := h.rl; omega, fun r hr => ⟨by have := (h.rm r hr).1; omega, (h.rm r hr).2⟩⟩
theorem nAt (l : List VRow) {i : Nat} (h : i < l.length) : (l.map encVRowN)[i]? = some (encVRowN l[i]) := by rw [List.getElem?_map, List.getElem?_eq_getElem h]; rfl
theorem setSelf {α : Type} : ∀ {l : List α} {i : Nat} {x : α}, l[i]? = some x → l.set i x = l
  | [], _, _, h => by simp at h
  | y :: l, 0, x, h => by simp at h; subst h; rfl
  | y :: l, i + 1, x, h => by rw [List.set_cons_succ, setSelf (by simpa using h)]
theorem hno1 (hs : List (Nat × Nat × Leaf)) (r : Nat) (l : Leaf) (hp : plain [l] = false) : ∀ k, 2 ≤ k → k < 2 + [l].length → holeAt hs r k = none ∨ ∃ l', [l][k - 2]? = some l' ∧ plain [l'] = false := by
  intro k h1 h2
  have : k = 2 := by simp at h2; omega
  subst this
  exact .inr ⟨l, rfl, hp⟩
theorem hhs1 (r : Nat) (a b : Leaf) : ∀ i k, holeAt [(r, 2, a)] i k = holeAt ([(r, 2, a)] ++ [(r, 2, b)]) i k := by
  intro i k
  show (if r = i ∧ 2 = k then some a else none) = (if r = i ∧ 2 = k then some a else if r = i ∧ 2 = k then some b else none)
  split
  · rfl
  · rfl
theorem setN (l : List VRow) (i : Nat) (R : List Leaf) (a : Int) (b : Int) (vs : List Val) : ((l.map encVRowN).set i R).set i [Leaf.g (.int .i64 a), Leaf.g (.int .i64 b), .nst 37 3 (vs.map encVal)] = (l.set i ⟨a, b, vs⟩).map encVRowN := by
  rw [List.set_set, List.map_set]; rfl
theorem setN1 (l : List VRow) (i : Nat) (a : Int) (b : Int) (vs : List Val) : (l.map encVRowN).set i [Leaf.g (.int .i64 a), Leaf.g (.int .i64 b), .nst 37 3 (vs.map encVal)] = (l.set i ⟨a, b, vs⟩).map encVRowN := by
  rw [List.map_set]; rfl
theorem mdRowsZ {t : VTable} {n : Nat} (h : t.bz n) {i : Nat} {r : VRow} (hl : r.vals.length ≤ 18 + (n + 1)) (hr : mdVals r.vals) : ∀ x ∈ t.rows.set i r, x.vals.length ≤ 18 + (n + 1) ∧ mdVals x.vals := fun x hx => by
  rcases List.mem_or_eq_of_mem_set hx with hx | rfl
  · exact ⟨by have := (h.rm x hx).1; omega, (h.rm x hx).2⟩
  · exact ⟨hl, hr⟩
theorem mdApp {l : List Val} (h : mdVals l) {v : Val} (hv : v.md) : mdVals (l ++ [v]) := fun x hx => by
  rcases List.mem_append.1 hx with hx | hx
  · exact h x hx
  · simp at hx; subst hx; exact hv
theorem mdSet {l : List Val} (h : mdVals l) (i : Nat) {v : Val} (hv : v.md) : mdVals (l.set i v) := fun x hx => by
  rcases List.mem_or_eq_of_mem_set hx with hx | rfl
  · exact h x hx
  · exact hv
theorem VTable.dr.bz {t : VTable} (h : t.dr) : t.bz 0 := by
  have hf := h.fl
  have hc := h.cl
  refine ⟨by omega, h.fs, h.cl, h.md.cm, by have := h.rl; omega, fun r hr => ⟨?_, (h.md.rm r hr).2⟩⟩
  have h1 := (h.rw _ hr).2.1
  have h2 := tSh_len t r.ver.toNat
  have h3 := (h.rw _ hr).1
  omega
theorem c_l3BentZ {bs : List Int} (hb : BOk bs) (p : Nat) (t : VTable) (n : Nat) (hn : n ≤ 50) (ht : t.bz n) (hp : p ≤ 1099511200000) : CallsV Tryz.prog 70 [rdS, .agg (encVTable t)] [rdO bs p]
    (relQ (fun y : VTable × Nat => y.1.bz (n + 1) ∧ y.2 ≤ p + 60) (fun y => .agg (encVTable y.1)) (fun y => [some (rdO bs y.2)]) (fun _ => [])) := by
  have hm := ht.md (by omega)
  have hrl := ht.rl
  have hfl := ht.fl
  have hfs := ht.fs
  have cK := c_l3CopyR t hm
  have hvl := fun i (h : i < t.rows.length) => (ht.rm _ (List.getElem_mem h)).1
  refine funF_walk hTb Tryz.func70 rfl rfl Tryz.ntmps70 (by simp) (by simp) ?_
  (conv => whnf); repeat' ((first | (refine VL.wkR 11 (wk_freezeN (q := 1038) _ rfl (unN_VRows _)) ?_) | (refine VL.wkR 14 (wk_freezeN (q := 1038) _ rfl (unN_VRows _)) ?_) | (refine VL.wkR 23 (wk_putBack _ (q := 1038) (r := 0 + 0) (j := 2) (v := 204) (E := 35) (sz := 3) (hs := []) (hs' := []) (rows' := t.rows.map encVRowN) rfl rfl (.inl rfl) (nAt t.rows (i := 0 + 0) (by omega)) rfl (by simp) (by decide) rfl (setSelf (nAt t.rows (i := 0 + 0) (by omega))) rfl) ?_) | (refine And.intro ?_ ?_ <;> ((try intro h) <;> (try simp only [gS] at h) <;> first | exact absurd h gF | exact absurd h.symm gF | conv => whnf)) | (refine VL.drawS hTb hMix (by kernel_rfl) (by kernel_rfl) (by kernel_rfl) ?_) | (refine Need.mk ?_; kernel_rfl) | (refine VR.fun hTb rfl rfl (o_funN (cK) false [] gN (by simp) rfl rfl rfl rfl rfl gQ rfl rfl) ?_) | (refine VR.freeze hTb rfl 1036 rfl rfl ?_; conv => whnf; rw [fzC]) | (refine VR.freeze hTb rfl 1037 rfl rfl ?_; conv => whnf; rw [fzH]) | (refine VR.rel hTb rfl rfl (o_relN (c_pick hb _ _ (by omega)) false [0] (fun _ _ => ⟨by simp, gN⟩) rfl rfl rfl rfl rfl gQ rfl rfl) ?_; rintro w hw; (try simp only at hw)) | (refine DT.rel hTb rfl (o_relN (c_pick hb _ _ (by omega)) false [0] (fun _ _ => ⟨by simp, gN⟩) rfl rfl rfl rfl rfl gQ rfl rfl) [0] (by kernel_rfl) (by kernel_rfl) ?_; rintro w hw; (try simp only at hw); refine And.intro rfl (And.intro rfl ?_)) | (refine VR.rel hTb rfl rfl (o_relN (c_l2Bent hb _ cs hcs.1 (by omega) (by omega)) false [0] (fun _ _ => ⟨by simp, gN⟩) rfl rfl rfl rfl rfl gQ rfl rfl) ?_; rintro ⟨cs, q2⟩ hcs; (try simp only at hcs)) | (refine VR.rel hTb rfl rfl (o_relN (c_l2Bent hb _ t.first hfs (by omega) (by omega)) false [0] (fun _ _ => ⟨by simp, gN⟩) rfl rfl rfl rfl rfl gQ rfl rfl) ?_; rintro ⟨cs, q2⟩ hcs; (try simp only at hcs)) | (refine VR.op hTb rfl rfl (o_slice_imm (n1 := 1) (n2 := (t.changes.map encChange).length) (rows' := (t.changes.drop 1).map encChange) hTb rfl rfl rfl rfl rfl rfl (bnd_some rfl) bnd_none (by omega) (Nat.le_refl _) (by rw [← List.map_drop]; exact List.take_of_length_le (by simp))) rfl ?_) | (refine DT.rel hTb rfl (o_relN (c_num hb _ _ _ (fun _ => True) (by simp [intRows]) (by simp) (by omega)) false [0, 151] (fun _ _ => ⟨by simp, gN⟩) rfl rfl rfl rfl rfl gQ rfl rfl) [0, 151] (by kernel_rfl) (by kernel_rfl) ?_; rintro v hv; (try simp only at hv); refine And.intro rfl (And.intro rfl ?_)) | (refine VR.rel hTb rfl rfl (o_relN (c_num hb _ _ _ (fun _ => True) (by simp [intRows]) (by simp) (by omega)) false [0, 171] (fun _ _ => ⟨by simp, gN⟩) rfl rfl rfl rfl rfl gQ rfl rfl) ?_; rintro v hv; (try simp only at hv)) | (refine Need.mk ?_; exact ⟨rfl, by omega, by omega⟩) | (refine DT.op hTb rfl (o_storeM hTb rfl rfl rfl rfl rfl (List.getElem?_eq_getElem (show 0 + w.toNat < t.rows.length by omega)) rfl rfl rfl ⟨rfl, by decide⟩ (c' := ⟨_, v, _⟩) rfl) rfl ?_) | (refine DT.op hTb rfl (o_loadM hTb rfl rfl rfl rfl (List.getElem?_eq_getElem (show 0 + 0 < t.rows.length by omega)) ⟨by decide, by decide⟩) rfl ?_) | (refine DT.opk hTb rfl (o_app1 (q := 166) (a := t.rows[0 + 0]'(by omega)) hTb rfl rfl rfl rfl rfl rfl rfl rfl rfl rfl rfl rfl (by omega) (by show _ * 40 ≤ _; omega) (by unfold maxLen; omega)) ?_) | (refine DT.op hTb rfl (o_load_outL (v := 189) (len := (t.rows[0 + w.toNat]'(by omega)).vals.length) hTb rfl rfl rfl rfl rfl (nAt t.rows (i := 0 + w.toNat) (by omega)) rfl (by simp) rfl rfl (by decide) (.inr ⟨rfl, plainVals _⟩)) rfl ?_) | (refine DT.opk hTb rfl (o_app1 (q := 192) (a := ⟨0, 0, ⟨#[]⟩⟩) (l := (t.rows[0 + w.toNat]'(by omega)).vals) hTb rfl rfl rfl rfl rfl rfl rfl rfl rfl rfl rfl rfl (by omega) (by have := hvl (0 + w.toNat) (by omega); show _ * 32 ≤ _; omega) (by have := hvl (0 + w.toNat) (by omega); unfold maxLen; omega)) ?_) | (refine DT.op hTb rfl (o_store_regH hTb rfl rfl rfl rfl rfl (nAt t.rows (i := 0 + w.toNat) (by omega)) rfl rfl ⟨rfl, by decide⟩ (hno1 _ _ _ rfl) rfl (hhs1 _ _ _)) rfl ?_) | (refine VR.op hTb rfl rfl (o_load_outL (v := 204) (len := (t.rows[0 + 0]'(by omega)).vals.length) hTb rfl rfl rfl rfl rfl (nAt t.rows (i := 0 + 0) (by omega)) rfl (by simp) rfl rfl (by decide) (.inr ⟨rfl, plainVals _⟩)) rfl ?_) | (refine DT.op hTb rfl (o_load_outL (v := 212) (len := (t.rows[0 + 0]'(by omega)).vals.length) hTb rfl rfl rfl rfl rfl (nAt t.rows (i := 0 + 0) (by omega)) rfl (by simp) rfl rfl (by decide) (.inr ⟨rfl, plainVals _⟩)) rfl ?_) | (refine DT.rel hTb rfl (o_relN (c_l1Draw hb _ (by omega)) false [0] (fun _ _ => ⟨by simp, gN⟩) rfl rfl rfl rfl rfl gQ rfl rfl) [0] (by kernel_rfl) (by kernel_rfl) ?_; rintro ⟨⟨vk, vn, vt⟩, q2⟩ hv; (try simp only at hv); refine And.intro rfl (And.intro rfl ?_)) | (refine DT.op hTb rfl (o_storeM hTb rfl rfl rfl rfl rfl (List.getElem?_eq_getElem (show 0 + 0 < (t.rows[0 + 0]'(by omega)).vals.length by omega)) rfl rfl rfl ⟨rfl, by decide⟩ (c' := ⟨vk, vn, vt⟩) rfl) rfl ?_)) <;> conv => whnf)
  all_goals first
    | exact endR [] (t, _) rfl rfl rfl rfl rfl (LeS.of_eq (aggFz (unN_VRows t.rows) (by simp [unNss_length]))) rfl rfl ⟨bzT ht, by simp only; omega⟩
    | exact endR [] ((⟨cs, t.changes, t.rows, t.next⟩ : VTable), _) rfl rfl rfl rfl rfl (LeS.of_eq (aggFz (unN_VRows t.rows) (by simp [unNss_length]))) rfl rfl ⟨bzF ht hcs.1 (by omega), by simp only; omega⟩
    | exact endR [] ((⟨t.first, t.changes.drop 1, t.rows, t.next⟩ : VTable), _) rfl rfl rfl rfl rfl (LeS.of_eq (aggFz (unN_VRows t.rows) (by simp [unNss_length]))) rfl rfl ⟨bzC ht 1, by simp only; omega⟩
    | exact endR [] ((⟨t.first, t.changes, t.rows, v⟩ : VTable), _) rfl rfl rfl rfl rfl (LeS.of_eq (aggFz (unN_VRows t.rows) (by simp [unNss_length]))) rfl rfl ⟨bzN ht v, by simp only; omega⟩
    | exact endR [] ((⟨t.first, t.changes, t.rows.set (0 + w.toNat) ⟨_, v, _⟩, t.next⟩ : VTable), _) rfl rfl rfl rfl rfl (LeS.of_eq (aggFz rfl (by simp))) rfl rfl ⟨bzR ht (by simp; omega) (mdRowsZ ht (by have := hvl (0 + w.toNat) (by omega); show (t.rows[0 + w.toNat]'(by omega)).vals.length ≤ _; omega) (hm.rm _ (List.getElem_mem (show 0 + w.toNat < t.rows.length by omega))).2), by simp only; omega⟩
    | exact endR [] ((⟨t.first, t.changes, t.rows ++ [t.rows[0 + 0]'(by omega)], t.next⟩ : VTable), _) rfl rfl rfl rfl rfl (LeS.of_eq (aggFz rfl (by simp))) rfl rfl ⟨bzR ht (by simp; omega) (fun x hx => (by rcases List.mem_append.1 hx with hx | hx; exact ⟨(by have := (ht.rm x hx).1; omega), (ht.rm x hx).2⟩; simp only [List.mem_singleton] at hx; subst hx; exact ⟨(by have := hvl (0 + 0) (by omega); omega), (hm.rm _ (List.getElem_mem _)).2⟩)), by simp only; omega⟩
    | (refine EndV.wk (fun n => wk_putBack n (q := 1038) (r := 0 + 0) (j := 2) (v := 204) (E := 35) (sz := 3) (hs := []) (hs' := []) (rows' := (t.rows).map encVRowN) rfl rfl (.inl rfl) (nAt t.rows (i := 0 + 0) (by omega)) rfl (by simp) (by decide) rfl (setSelf (nAt t.rows (i := 0 + 0) (by omega))) rfl) ?_
       exact endR [] (t, _) rfl rfl rfl rfl rfl (LeS.of_eq (aggFz (unN_VRows t.rows) (by simp [unNss_length]))) rfl rfl ⟨bzT ht, by simp only; omega⟩)
    | skip
  · refine EndV.wk (fun n => wk_putBack n (q := 1038) (r := 0 + w.toNat) (j := 2) (v := 192) (E := 35) (sz := 3) (hs := []) (hs' := []) (rows' := (t.rows.set (0 + w.toNat) ⟨(t.rows[0 + w.toNat]'(by omega)).id, (t.rows[0 + w.toNat]'(by omega)).ver, (t.rows[0 + w.toNat]'(by omega)).vals ++ [(⟨0, 0, ⟨#[]⟩⟩ : Val)]⟩).map encVRowN) rfl rfl (.inl rfl) (List.getElem?_set_self (show 0 + w.toNat < (t.rows.map encVRowN).length by rw [List.length_map]; omega)) rfl ?h192 (by decide) rfl (setN t.rows _ _ _ _ _) rfl) ?_
    · simp
    · refine endR [] ((⟨t.first, t.changes, t.rows.set (0 + w.toNat) ⟨(t.rows[0 + w.toNat]'(by omega)).id, (t.rows[0 + w.toNat]'(by omega)).ver, (t.rows[0 + w.toNat]'(by omega)).vals ++ [(⟨0, 0, ⟨#[]⟩⟩ : Val)]⟩, t.next⟩ : VTable), _) rfl rfl rfl rfl rfl (LeS.of_eq (aggFz (unN_VRows _) ?_)) rfl rfl ⟨bzR ht ?_ (mdRowsZ ht ?_ (mdApp (hm.rm _ (List.getElem_mem (show 0 + w.toNat < t.rows.length by omega))).2 (show (0 : Nat) ≤ 1048576 by omega))), ?_⟩
      · simp [unNss_length]
      · simp; omega
      · have := hvl (0 + w.toNat) (by omega); rw [List.length_append]; show _ + 1 ≤ _; omega
      · simp only; omega
  · refine EndV.wk (fun n => wk_putBack n (q := 1038) (r := 0 + 0) (j := 2) (v := 212) (E := 35) (sz := 3) (hs := []) (hs' := []) (rows' := (t.rows.set (0 + 0) ⟨(t.rows[0 + 0]'(by omega)).id, (t.rows[0 + 0]'(by omega)).ver, (t.rows[0 + 0]'(by omega)).vals.set (0 + 0) ⟨vk, vn, vt⟩⟩).map encVRowN) rfl rfl (.inl rfl) (nAt t.rows (i := 0 + 0) (by omega)) rfl ?h212 (by decide) rfl (setN1 t.rows _ _ _ _) rfl) ?_
    · simp
    · refine endR [] ((⟨t.first, t.changes, t.rows.set (0 + 0) ⟨(t.rows[0 + 0]'(by omega)).id, (t.rows[0 + 0]'(by omega)).ver, (t.rows[0 + 0]'(by omega)).vals.set (0 + 0) ⟨vk, vn, vt⟩⟩, t.next⟩ : VTable), _) rfl rfl rfl rfl rfl (LeS.of_eq (aggFz (unN_VRows _) ?_)) rfl rfl ⟨bzR ht ?_ (mdRowsZ ht ?_ (mdSet (hm.rm _ (List.getElem_mem (show 0 + 0 < t.rows.length by omega))).2 _ (show vt.size ≤ 1048576 by omega))), ?_⟩
      · simp [unNss_length]
      · simp; omega
      · have := hvl (0 + 0) (by omega); rw [List.length_set]; omega
      · simp only; omega
end Go.Vl

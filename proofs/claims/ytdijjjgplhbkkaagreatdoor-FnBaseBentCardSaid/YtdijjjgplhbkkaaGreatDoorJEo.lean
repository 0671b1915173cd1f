/- Law: the rows that are found are those that hold the value, one by one (given what is drawn). Draws of tables. Laws: malformed shapes are refused. Draws of tables: two that may be like. Contracts: bases drawn: copied, held, written. Contracts: bases drawn: copied, held, written. -/
import Derived.Test.YtdijjjgplhbkkaaGreatDoorJEa
import Derived.Test.YtdijjjgplhbkkaaGreatDoorJEi
import Derived.Test.YtdijjjgplhbkkaaGreatDoorJEn
import Derived.Test.YtdijjjgplhbkkaaGreatDoorJEc
import Derived.Test.YtdijjjgplhbkkaaGreatDoorWi
import Derived.Test.YtdijjjgplhbkkaaGreatDoorJEl
set_option linter.unusedSimpArgs false
set_option linter.unusedVariables false
set_option linter.unnecessarySimpa false
set_option maxRecDepth 100000
set_option maxHeartbeats 16000000

namespace Go.Vl
open Go Go.RowKit Go.Proofs
theorem rowRZ {l : List VRow} {z : Int} (h : z.toNat < l.length) : (l.map encVRow)[z.toNat]? = some (encVRow l[z.toNat]) := by rw [List.getElem?_map, List.getElem?_eq_getElem h]; rfl
theorem q_Val_iff (a b : Val) : q_Val a b = true ↔ a.k = b.k ∧ a.n = b.n ∧ a.t.toList = b.t.toList := by simp [q_Val]
theorem q_Col_iff (a b : Col) : q_Col a b = true ↔ a.name.toList = b.name.toList ∧ a.kind = b.kind ∧ a.need = b.need ∧ a.once = b.once ∧ a.d.k = b.d.k ∧ a.d.n = b.d.n ∧ a.d.t.toList = b.d.t.toList := by
  simp [q_Col, q_Val_iff]
theorem q_Col_comm (a b : Col) : q_Col a b = q_Col b a := by
  rw [Bool.eq_iff_iff, q_Col_iff, q_Col_iff]
  constructor <;> rintro ⟨h1, h2, h3, h4, h5, h6, h7⟩ <;> exact ⟨h1.symm, h2.symm, h3.symm, h4.symm, h5.symm, h6.symm, h7.symm⟩
theorem q_Col_refl (a : Col) : q_Col a a = true := by rw [q_Col_iff]; simp
theorem leq_comm {α : Type} {f : α → α → Bool} (h : ∀ a b, f a b = f b a) : ∀ us bs : List α, leq f us bs = leq f bs us
  | [], [] => rfl
  | [], _ :: _ => rfl
  | _ :: _, [] => rfl
  | a :: us, b :: bs => by rw [leq, leq, h, leq_comm h us bs]
theorem leq_refl {α : Type} {f : α → α → Bool} (h : ∀ a, f a a = true) : ∀ us : List α, leq f us us = true
  | [] => rfl
  | a :: us => by rw [leq, h, leq_refl h us]; rfl
theorem aggTd (t : VTable) : Slot.agg [.imm 7 (((t.first.map encCol).drop 0).take t.first.length), .imm 10 (((t.changes.map encChange).drop 0).take t.changes.length), .own 0 0 t.rows.length, .g (.int .i64 t.next)] = .agg (tdL t 0) := by
  rw [fzC, fzH]
theorem c_l3CopyT (t : VTable) (ht : t.md) : CallsV Tryz.prog 69 [.agg (encVTable t)] [] (funQ (.agg (tdL t 0)) [] [tdO t]) := by
  have hfc := ht.fc
  have hrl := ht.r
  have hrm := ht.rm
  refine funF_walk hTb Tryz.func69 rfl rfl Tryz.ntmps69 (by simp) (by simp) ?_
  have a1 : t.first.length ≤ 2000000 := by omega
  have a2 : t.changes.length ≤ 2000000 := by omega
  (conv => whnf); repeat' ((first | (refine VL.drawS hTb hMix (by kernel_rfl) (by kernel_rfl) (by kernel_rfl) ?_)) <;> conv => whnf)
  refine DT.opk hTb rfl (o_app0 (f := encCol) (m := t.first) (q := 108) hTb rfl rfl rfl rfl rfl rfl rfl rfl rfl rfl (by omega) (by show _ * 64 ≤ _; omega) (by unfold maxLen; omega)) ?_
  conv => whnf
  refine DT.opk hTb rfl (o_app0 (f := encChange) (m := t.changes) (q := 112) hTb rfl rfl rfl rfl rfl rfl rfl rfl rfl rfl (by omega) (by show _ * 104 ≤ _; omega) (by unfold maxLen; omega)) ?_
  (conv => whnf); repeat' ((first | (refine And.intro ?_ ?_ <;> ((try intro h) <;> (try simp only [Bool.not_true, Bool.not_false] at h) <;> first | exact absurd h gF | exact absurd h.symm gF | conv => whnf)) | (refine Need.mk ?_; kernel_rfl)) <;> conv => whnf)
  refine VL.loopI hTb (fun i => i ≤ t.rows.length) (fun i => ⟨[(1, .one (.ptr 101 0)), (2, .one (.ptr 102 0)), (3, .one (.ptr 103 0)), (4, iS i)], [(101, .box (encVTable t)), (102, .box [.g (.slice none 0 0), .g (.slice none 0 0), .g (.slice none 0 0), .g (.int .i64 0)]), (103, .box [.own 108 0 t.first.length, .own 112 0 t.changes.length, .own 120 0 (t.rows.take i).length, .g (.int .i64 t.next)]), (108, .arr 39 7 (t.first.map encCol)), (112, .arr 105 10 (t.changes.map encChange)), (120, .arr 35 3 ((t.rows.take i).map encVRow))], []⟩) (fun i => t.rows.length - i) 0 (Nat.zero_le _)
    ((wk_nilBox _ (q0 := 103) (j := 2) (q := 120) (sz := 3) (E := 35) rfl rfl rfl (by decide)).trans (wk_to [(101, 101), (102, 102), (103, 103), (108, 108), (112, 112), (120, 120)] rfl rfl rfl ⟨rfl, rfl, rfl, rfl, trivial⟩ ⟨rfl, ⟨_, rfl, rfl⟩, rfl, ⟨_, rfl, rfl⟩, rfl, ⟨_, rfl, rfl⟩, rfl, ⟨_, rfl, rfl⟩, rfl, ⟨_, rfl, rfl⟩, rfl, ⟨_, rfl, rfl⟩, trivial⟩)) (fun i hi => ?_)
  (conv => whnf)
  refine And.intro (fun h2 => ?_) (fun h2 => ?_)
  · have hil : i < t.rows.length := by simpa using h2
    have hrw := rowVRow hil
    have hvl := (hrm _ (List.getElem_mem hil)).1
    have htk := List.take_succ_eq_append_getElem hil
    have hml : (t.rows.take i).length ≤ 1048576 := by simp; omega
    generalize t.rows.take i = M at htk hml ⊢
    generalize t.rows[i] = ri at hrw hvl htk
    (conv => whnf); repeat' ((first | (refine VL.drawS hTb hMix (by kernel_rfl) (by kernel_rfl) (by kernel_rfl) ?_) | (refine DT.op hTb rfl (o_index_imm hTb rfl rfl rfl rfl rfl rfl rfl (by omega) (hrw)) rfl ?_)) <;> conv => whnf)
    refine DT.opk hTb rfl (o_appF (q := 144) hTb rfl rfl rfl rfl rfl rfl rfl rfl rfl rfl (by decide) (by show _ * 32 ≤ _; simp; omega) (by unfold maxLen; simp; omega)) ?_
    conv => whnf
    refine DT.opk hTb rfl (o_app1 (q := 147) (a := ri) hTb rfl rfl rfl rfl rfl rfl rfl rfl rfl rfl rfl rfl (by omega) (by show _ * 40 ≤ _; omega) (by unfold maxLen; omega)) ?_
    (conv => whnf); repeat' ((first | (refine And.intro ?_ ?_ <;> ((try intro h) <;> (try simp only [Bool.not_true, Bool.not_false] at h) <;> first | exact absurd h gF | exact absurd h.symm gF | conv => whnf)) | (refine Need.mk ?_; kernel_rfl)) <;> conv => whnf)
    exact ⟨i + 1, hil, by omega, wk_to [(101, 101), (102, 102), (103, 103), (108, 108), (112, 112), (147, 120)] rfl rfl rfl ⟨rfl, rfl, rfl, gW (by unfold maxLen; omega), trivial⟩ ⟨rfl, ⟨_, rfl, rfl⟩, rfl, ⟨_, rfl, rfl⟩, rfl, ⟨_, rfl, congrArg (fun n => Ob.box [.own 108 0 t.first.length, .own 112 0 t.changes.length, .own 120 0 n, .g (.int .i64 t.next)]) (by rw [htk]; simp)⟩, rfl, ⟨_, rfl, rfl⟩, rfl, ⟨_, rfl, rfl⟩, rfl, ⟨_, rfl, congrArg (fun r : List VRow => Ob.arr 35 3 (r.map encVRow)) htk.symm⟩, trivial⟩⟩
  · have hie : i = t.rows.length := by simp at h2; omega
    subst hie
    rw [List.take_length]
    (conv => whnf)
    exact endW [120] rfl rfl rfl rfl rfl (LeS.of_eq (aggTd t)) rfl rfl
section
variable {P : Program}
theorem sr0 (k o : Nat) : (Sr (List.replicate k none) ([] : List Ob)).obj o = none := by
  simp only [Sr, List.length_replicate]
  split
  · rw [List.getElem?_replicate, if_pos (by assumption)]; rfl
  · simp
theorem CallsV.frz {α : Type} {C : α → Prop} {s : α → Slot} {news : α → List Ob} {f : FuncId} {args : List Slot} {objs : List Ob} (s' : α → Slot) (h : CallsV P f args objs (relQ C s (fun _ => List.replicate objs.length none) news))
    (e : ∀ y, C y → vS true (Sr (List.replicate objs.length none) (news y)) [] (s y) = s' y) : CallsV P f args objs (relQ C s' (fun _ => List.replicate objs.length none) (fun _ => [])) := by
  refine ⟨h.1, fun w B D vals hA hargs => (h.2 w B D vals hA hargs).mono ?_⟩
  rintro ex w' ⟨v, s1, outs, news1, B', rfl, ⟨y, hC, rfl, rfl, rfl⟩, hres, hs⟩
  obtain ⟨B0, _⟩ : ∃ B0 : Pl, True := ⟨⟨fun _ => none, fun _ _ => False⟩, trivial⟩
  refine ⟨v, _, _, [], B0, rfl, ⟨y, hC, rfl, rfl, rfl⟩, ⟨by simp, fun o ob ho => by (rw [sr0] at ho; cases ho), fun o o' b ho => absurd (sr0 _ _) ho, fun o _ ho => absurd (sr0 _ _) ho, fun o b ho => absurd (sr0 _ _) ho, hres.frame, fun o ob _ ho => by (rw [sr0] at ho; cases ho)⟩, ?_⟩
  rw [← e y hC]
  generalize s y = s1 at hs
  generalize news y = news1 at hs hres
  generalize hou : List.replicate objs.length (none : Option Ob) = ou at hs hres
  have s0 : ∀ o, (Sr ou ([] : List Ob)).obj o = none := fun o => by rw [← hou]; exact sr0 _ o
  have hd : ∀ b, dep (dinOf w D objs B) (Sr ou news1) B' b → dep (dinOf w D objs B) (Sr ou []) B0 b := fun b h => ⟨h.1, fun o ho => absurd (s0 o) ho⟩
  have hown : ∀ o b, (Sr ou news1).obj o ≠ none → Ow B' o b → dep (dinOf w D objs B) (Sr ou []) B0 b ∧ b < w'.heap.size := by
    intro o b ho hb
    have hl := hres.ltO o b ho hb
    refine ⟨⟨.inr ?_, fun o ho => absurd (s0 o) ho⟩, hl.1⟩
    exact hl.2.elim .inr .inl
  have hrl : ∀ l v, RepL w' (dep (dinOf w D objs B) (Sr ou news1) B') l v → RepL w' (dep (dinOf w D objs B) (Sr ou []) B0) l v := fun l v hl => RepL_mono (Nat.le_refl _) (fun _ _ _ => rfl) (fun b h _ => hd b h) l v hl
  have hl : ∀ l v, LRep w' (dinOf w D objs B) (Sr ou news1) B' l v → LRep w' (dinOf w D objs B) (Sr ou []) B0 (vL true (Sr ou news1) [] l) v := by
    intro l v hl
    have hrn : LRep w' (dinOf w D objs B) (Sr ou []) B0 (rn (List.idxOf? · ([] : List Nat)) l) v :=
      LRep.rn (Nat.le_refl _) (fun _ _ _ => rfl) (fun b h _ => hd b h) (fun o o' ob hr ho => by simp at hr) hl
    cases l with
    | own o off len =>
      have h1 := LRep.oneCell hl
      have hlive : (Sr ou news1).obj o ≠ none := by
        obtain ⟨_, _, _, _, _, ho, _⟩ := hl
        obtain ⟨ob, hob, _⟩ := arr_obj ho
        simp [hob]
      obtain ⟨ob, hob⟩ := Option.ne_none_iff_exists'.1 hlive
      rcases own_imm hob (hres.obs o ob hob) (fun x hx => hown o x hlive hx) hrl hl with ⟨sz, rows, e2, h2⟩ | e2
      · have e : vL true (Sr ou news1) [] (.own o off len) = .imm sz rows := e2
        rw [e]; exact h2
      · have e : vL true (Sr ou news1) [] (.own o off len) = .bad := e2
        rw [e]; exact h1
    | _ => exact hrn
  cases s1 with
  | one l => exact hl _ _ hs
  | agg ls => obtain ⟨vs, hv, ha⟩ := hs; exact ⟨vs, hv, All2.map_left (ha.mono hl)⟩
  | tup xs =>
    obtain ⟨vs, hv, ha⟩ := hs
    refine ⟨vs, hv, All2.map_left (ha.mono fun x u hx => ?_)⟩
    rcases hx with ⟨h1, cs, hu, hc⟩ | ⟨h1, l, hl', hr⟩
    · exact .inl ⟨h1, cs, hu, All2.map_left (hc.mono hl)⟩
    · exact .inr ⟨h1, vL true (Sr ou news1) [] l, by simp [hl'], hl _ _ hr⟩
  | bad => trivial
end
abbrev ttS (y : VTable × Int) : Slot := .tup [(true, encVTable y.1), (false, [.g (.int .i64 y.2)])]
theorem fzTd (y : VTable × Int) : vS true (Sr [none] [tdO y.1]) [] (tdS y) = ttS y := by
  show Slot.tup [(true, [.imm 7 (y.1.first.map encCol), .imm 10 (y.1.changes.map encChange), .imm 3 (((y.1.rows.map encVRow).drop 0).take y.1.rows.length), .g (.int .i64 y.1.next)]), (false, [.g (.int .i64 y.2)])] = _
  rw [fzRow]; rfl
theorem c_l3SetF (t : VTable) (ht : t.dr) (id : Int) (sets : List VSet) (hS : smSets sets) : CallsV Tryz.prog 136 [.agg (tdL t 0), iS id, vsetsI sets] [tdO t] (relQ (fun y : VTable × Int => y.1.dr ∧ y.1.first = t.first ∧ y.1.changes = t.changes) ttS (fun _ => [none]) (fun _ => [])) :=
  CallsV.frz (objs := [tdO t]) ttS (c_l3SetK t ht id sets hS) fun y _ => fzTd y
theorem c_l3PutF (t : VTable) (ht : t.dr) (sets : List VSet) (hS : smSets sets) : CallsV Tryz.prog 140 [.agg (tdL t 0), vsetsI sets] [tdO t] (relQ (fun y : VTable × Int => y.1.dr ∧ y.1.first = t.first ∧ y.1.changes = t.changes) ttS (fun _ => [none]) (fun _ => [])) :=
  CallsV.frz (objs := [tdO t]) ttS (c_l3PutK t ht sets hS) fun y _ => fzTd y
theorem c_l3ChangeF (t : VTable) (ht : t.dr) (c : Change) (hc : c.sml) : CallsV Tryz.prog 138 [.agg (tdL t 0), .agg (encChange c)] [tdO t] (relQ (fun y : VTable × Int => y.1.dr ∧ (y.2 = 0 → y.1 = ⟨t.first, t.changes ++ [c], t.rows, t.next⟩ ∧ (sdo (tL t) c).2 = true)) ttS (fun _ => [none]) (fun _ => [])) :=
  CallsV.frz (objs := [tdO t]) ttS (c_l3ChangeK t ht c hc) fun y _ => fzTd y
theorem c_l3OffI (t : VTable) (ht : t.dr) (id : Int) : CallsV Tryz.prog 135 [.agg (encVTable t), iS id] [] (relQ (fun y : VTable × Int => y.1.dr ∧ y.1.first = t.first ∧ y.1.changes = t.changes) ttS (fun _ => []) (fun _ => [])) := by
  have hrl := ht.rl
  have cA := c_l3At t id (by unfold maxLen; omega)
  have hk := tAt_lt t id
  generalize tAt t id = z at cA hk
  refine funF_walk hTb Tryz.func135 rfl rfl Tryz.ntmps135 (by simp) (by simp) ?_
  by_cases hz : z < 0
  · (conv => whnf); repeat' ((first | (exact absurd h (by omega)) | (refine And.intro ?_ ?_ <;> ((try intro h) <;> (try simp only [gS] at h) <;> first | exact absurd h gF | exact absurd h.symm gF | conv => whnf)) | (refine VR.pure hTb rfl rfl (o_purN (cA) rfl rfl rfl gQ rfl) ?_)) <;> conv => whnf)
    exact endR [] (t, 5) rfl rfl rfl rfl rfl (LeS.refl _) rfl rfl ⟨ht, rfl, rfl⟩
  · obtain ⟨k, hk2⟩ : ∃ k : Nat, z = k := ⟨z.toNat, by omega⟩
    subst hk2
    have hkl : k < t.rows.length := by omega
    have e1 : (t.rows.take k).length = k := by simp; omega
    have e2 : (t.rows.drop (k + 1)).length = t.rows.length - (k + 1) := by simp
    have ew : IntKind.i64.wrap ((k : Int) + 1) = ((k + 1 : Nat) : Int) := by rw [IntKind.wrap_i64]; omega
    (conv => whnf); repeat' ((first | (exact absurd h (by omega)) | (refine And.intro ?_ ?_ <;> ((try intro h) <;> (try simp only [gS] at h) <;> first | exact absurd h gF | exact absurd h.symm gF | conv => whnf)) | (refine VL.drawS hTb hMix (by kernel_rfl) (by kernel_rfl) (by kernel_rfl) ?_) | (refine Need.mk ?_; kernel_rfl) | (refine VR.pure hTb rfl rfl (o_purN (cA) rfl rfl rfl gQ rfl) ?_) | (refine DT.op hTb rfl (o_slice_imm (n1 := 0) (n2 := k) (rows' := (t.rows.take k).map encVRow) hTb rfl rfl rfl rfl rfl rfl bnd_none (bnd_some rfl) (Nat.zero_le _) (by simp; omega) (by rw [List.drop_zero, Nat.sub_zero, List.map_take])) rfl ?_) | (refine DT.op hTb rfl (o_slice_imm (n1 := k + 1) (n2 := (t.rows.map encVRow).length) (rows' := (t.rows.drop (k + 1)).map encVRow) hTb rfl rfl rfl rfl rfl rfl (bnd_wr rfl ew) bnd_none (by simp; omega) (by simp) (by rw [← List.map_drop]; exact List.take_of_length_le (by simp))) rfl ?_) | (refine DT.opk hTb rfl (o_app0 (f := encVRow) (m := (t.rows.take k)) (q := 118) hTb rfl rfl rfl rfl rfl rfl rfl rfl rfl rfl (by omega) (by show _ * 40 ≤ _; omega) (by unfold maxLen; omega)) ?_) | (refine DT.opk hTb rfl (o_appN (f := encVRow) (l := t.rows.take k) (m := t.rows.drop (k + 1)) (q := 124) hTb rfl rfl rfl rfl rfl rfl rfl rfl rfl rfl rfl (by omega) (by show _ * 40 ≤ _; omega) (by unfold maxLen; omega)) ?_)) <;> conv => whnf)
    have he : t.rows.take k ++ t.rows.drop (k + 1) = t.rows.eraseIdx k := by rw [List.eraseIdx_eq_take_drop_succ]
    refine endR [] (α := VTable × Int) (⟨t.first, t.changes, t.rows.eraseIdx k, t.next⟩, 0) rfl rfl rfl rfl rfl (LeS.of_eq ?_) rfl rfl ⟨dr_rows ht (fun r hr => List.mem_of_mem_eraseIdx hr) (by rw [List.length_eraseIdx]; split <;> omega), rfl, rfl⟩
    show Slot.tup [(true, [.imm 7 (t.first.map encCol), .imm 10 (t.changes.map encChange), .imm 3 ((((t.rows.take k ++ t.rows.drop (k + 1)).map encVRow).drop 0).take ((t.rows.take k).length + (t.rows.drop (k + 1)).length)), .g (.int .i64 t.next)]), (false, [.g (.int .i64 0)])] = _
    rw [List.drop_zero, List.take_of_length_le (by rw [List.length_map, List.length_append]; exact Nat.le_refl _), he]; rfl
abbrev bsO (b : VBase) : Ob := .arr 77 5 (b.tabs.map encVTab)
abbrev lkO (b : VBase) : Ob := .arr 79 4 (b.links.map encVLink)
abbrev bcS (y : VBase × Int) : Slot := .tup [(true, encVBase y.1), (false, [.g (.int .i64 y.2)])]
theorem fzTab (x : List VTab) : ((x.map encVTab).drop 0).take x.length = x.map encVTab := by rw [List.drop_zero, List.take_of_length_le (by simp)]
theorem fzLk (x : List VLink) : ((x.map encVLink).drop 0).take x.length = x.map encVLink := by rw [List.drop_zero, List.take_of_length_le (by simp)]
theorem brwB (x : VBase) {n : Nat} (h : x.tabs.length = n) : Slot.agg [.imm 5 (((x.tabs.map encVTab).drop 0).take n), .imm 4 (x.links.map encVLink)] = .agg (encVBase x) := by
  subst h; rw [fzTab]; rfl
theorem brwBc (x : VBase) (c : Int) {n : Nat} (h : x.tabs.length = n) : Slot.tup [(true, [.imm 5 (((x.tabs.map encVTab).drop 0).take n), .imm 4 (x.links.map encVLink)]), (false, [.g (.int .i64 c)])] = bcS (x, c) := by
  subst h; rw [fzTab]; rfl
theorem brwBc2 (x : VBase) (c : Int) {n m : Nat} (h : x.tabs.length = n) (h2 : x.links.length = m) : Slot.tup [(true, [.imm 5 (((x.tabs.map encVTab).drop 0).take n), .imm 4 (((x.links.map encVLink).drop 0).take m)]), (false, [.g (.int .i64 c)])] = bcS (x, c) := by
  subst h h2; rw [fzTab, fzLk]; rfl
theorem c_l3CopyI (t : VTable) (ht : t.md) : CallsV Tryz.prog 69 [.agg (encVTable t)] [] (pureQ (.agg (encVTable t))) := (c_l3Copy t ht).pure (by
  show Slot.agg [.imm 7 (((t.first.map encCol).drop 0).take t.first.length), .imm 10 (((t.changes.map encChange).drop 0).take t.changes.length), .imm 3 (((t.rows.map encVRow).drop 0).take t.rows.length), .g (.int .i64 t.next)] = _
  rw [fzC, fzH, fzRow]; rfl)
theorem c_l4Copy (b : VBase) (hb : b.md) : CallsV Tryz.prog 114 [.agg (encVBase b)] [] (funQ (.agg [.own 0 0 b.tabs.length, .own 1 0 b.links.length]) [] [bsO b, lkO b]) := by
  have htl := hb.tl
  have hll := hb.ll
  have cK := fun i (h : i < b.tabs.length) => c_l3CopyI b.tabs[i].table (hb.tm _ (List.getElem_mem h)).2
  refine funF_walk hTb Tryz.func114 rfl rfl Tryz.ntmps114 (by simp) (by simp) ?_
  (conv => whnf); repeat' ((first | (refine VR.opk hTb rfl rfl (o_app0 (f := encVLink) (m := b.links) (q := 108) hTb rfl rfl rfl rfl rfl rfl rfl rfl rfl rfl (by omega) (by show _ * 56 ≤ _; omega) (by unfold maxLen; omega)) ?_)) <;> conv => whnf)
  refine VL.loopI hTb (fun i => i ≤ b.tabs.length) (fun i => ⟨[(1, .one (.ptr 101 0)), (2, .one (.ptr 102 0)), (3, .one (.ptr 103 0)), (4, iS i)], [(101, .box (encVBase b)), (102, .box [.g (.slice none 0 0), .g (.slice none 0 0)]), (103, .box [.own 120 0 (b.tabs.take i).length, .own 108 0 b.links.length]), (108, lkO b), (120, .arr 77 5 ((b.tabs.take i).map encVTab))], []⟩) (fun i => b.tabs.length - i) 0 (Nat.zero_le _)
    ((wk_nilBox _ (q0 := 103) (j := 0) (q := 120) (sz := 5) (E := 77) rfl rfl rfl (by decide)).trans (wk_to [(101, 101), (102, 102), (103, 103), (108, 108), (120, 120)] rfl rfl rfl ⟨rfl, rfl, rfl, rfl, trivial⟩ ⟨rfl, ⟨_, rfl, rfl⟩, rfl, ⟨_, rfl, rfl⟩, rfl, ⟨_, rfl, rfl⟩, rfl, ⟨_, rfl, rfl⟩, rfl, ⟨_, rfl, rfl⟩, trivial⟩)) (fun i hi => ?_)
  (conv => whnf)
  refine And.intro (fun h2 => ?_) (fun h2 => ?_)
  · have hil : i < b.tabs.length := by simpa using h2
    have hrow := rowVTab hil
    have cK := cK i hil
    have htk := List.take_succ_eq_append_getElem hil
    have hml : (b.tabs.take i).length ≤ 1048576 := by simp; omega
    generalize b.tabs.take i = M at htk hml ⊢
    generalize b.tabs[i] = ti at hrow cK htk
    (conv => whnf); repeat' ((first | (refine And.intro ?_ ?_ <;> ((try intro h) <;> (try simp only [gS] at h) <;> first | exact absurd h gF | exact absurd h.symm gF | conv => whnf)) | (refine VL.drawS hTb hMix (by kernel_rfl) (by kernel_rfl) (by kernel_rfl) ?_) | (refine Need.mk ?_; kernel_rfl) | (refine DT.op hTb rfl (o_index_imm hTb rfl rfl rfl rfl rfl rfl rfl (by omega) (hrow)) rfl ?_) | (refine DT.pure hTb rfl (o_purF (cK) rfl rfl rfl gQ rfl) ?_) | (refine DT.opk hTb rfl (o_app1 (q := 134) (a := ti) hTb rfl rfl rfl rfl rfl rfl rfl rfl rfl rfl rfl rfl (by omega) (by show _ * 96 ≤ _; omega) (by unfold maxLen; omega)) ?_)) <;> conv => whnf)
    exact ⟨i + 1, hil, by omega, wk_to [(101, 101), (102, 102), (103, 103), (108, 108), (134, 120)] rfl rfl rfl ⟨rfl, rfl, rfl, gW (by unfold maxLen; omega), trivial⟩ ⟨rfl, ⟨_, rfl, rfl⟩, rfl, ⟨_, rfl, rfl⟩, rfl, ⟨_, rfl, congrArg (fun n => Ob.box [.own 120 0 n, .own 108 0 b.links.length]) (by rw [htk]; simp)⟩, rfl, ⟨_, rfl, rfl⟩, rfl, ⟨_, rfl, congrArg (fun r : List VTab => Ob.arr 77 5 (r.map encVTab)) htk.symm⟩, trivial⟩⟩
  · have hie : i = b.tabs.length := by simp at h2; omega
    subst hie
    rw [List.take_length]
    (conv => whnf)
    exact endW [120, 108] rfl rfl rfl rfl rfl (LeS.refl _) rfl rfl
theorem c_l4CopyI (b : VBase) (hb : b.md) : CallsV Tryz.prog 114 [.agg (encVBase b)] [] (pureQ (.agg (encVBase b))) := (c_l4Copy b hb).pure (by
  show Slot.agg [.imm 5 (((b.tabs.map encVTab).drop 0).take b.tabs.length), .imm 4 (((b.links.map encVLink).drop 0).take b.links.length)] = _
  rw [fzTab, fzLk]; rfl)
theorem all_step {α : Type} {p : α → Bool} {l : List α} {i : Nat} (h : i < l.length) : (l.drop i).all p = (p l[i] && (l.drop (i + 1)).all p) := by rw [List.drop_eq_getElem_cons h, List.all_cons]
theorem any_step {α : Type} {p : α → Bool} {l : List α} {i : Nat} (h : i < l.length) : (l.drop i).any p = (p l[i] || (l.drop (i + 1)).any p) := by rw [List.drop_eq_getElem_cons h, List.any_cons]
theorem c_l4Linked (b : VBase) (hL : LkSs b) (hl : b.links.length ≤ 1000) : CallsV Tryz.prog 220 [.agg (encVBase b)] [] (pureQ (bS (b.links.all (holdB b)))) := by
  have cH := fun i (h : i < b.links.length) => c_l4Holds b b.links[i] (hL _ (List.getElem_mem h))
  refine pure_walk hTb Tryz.func220 rfl rfl Tryz.ntmps220 (by simp) ?_
  (conv => whnf)
  refine VL.loopI hTb (fun i => i ≤ b.links.length ∧ b.links.all (holdB b) = (b.links.drop i).all (holdB b)) (fun i => ⟨[(1, .one (.ptr 101 0)), (3, iS i)], [(101, .box (encVBase b))], []⟩) (fun i => b.links.length - i) 0 ⟨Nat.zero_le _, rfl⟩
    (wk_to [(101, 101)] rfl rfl rfl ⟨rfl, rfl, trivial⟩ ⟨rfl, ⟨_, rfl, rfl⟩, trivial⟩) (fun i hi => ?_)
  obtain ⟨hi, hf⟩ := hi
  (conv => whnf)
  refine And.intro (fun h2 => ?_) (fun h2 => ?_)
  · have hlt : i < b.links.length := by simpa using h2
    have hrow := rowVLink hlt
    have cH := cH i hlt
    have hst := all_step (p := holdB b) hlt
    generalize b.links[i] = li at hrow cH hst
    rw [hf, hst]
    generalize holdB b li = bh at cH hst ⊢
    cases bh <;> (conv => whnf); repeat' ((first | (refine And.intro ?_ ?_ <;> ((try intro h) <;> (try simp only [gS] at h) <;> first | exact absurd h gF | exact absurd h.symm gF | conv => whnf)) | (refine VL.drawS hTb hMix (by kernel_rfl) (by kernel_rfl) (by kernel_rfl) ?_) | (refine Need.mk ?_; kernel_rfl) | (refine DT.op hTb rfl (o_index_imm hTb rfl rfl rfl rfl rfl rfl rfl (by omega) (hrow)) rfl ?_) | (refine DT.pure hTb rfl (o_purN (cH) rfl rfl rfl gQ rfl) ?_)) <;> conv => whnf)
    all_goals first
      | rfl
      | exact ⟨i + 1, ⟨hlt, by rw [Bool.true_and]⟩, by omega, wk_to [(101, 101)] rfl rfl rfl ⟨rfl, gW (by unfold maxLen; omega), trivial⟩ ⟨rfl, ⟨_, rfl, rfl⟩, trivial⟩⟩
  · (conv => whnf)
    have hie : i = b.links.length := by simp at h2; omega
    rw [hf, hie, List.drop_length]; rfl
theorem c_l4Used (b : VBase) (s c : ByteArray) (hl : b.links.length ≤ 1000) : CallsV Tryz.prog 200 [.agg (encVBase b), strS s, strS c] [] (pureQ (bS (b.links.any (isLk s c)))) := by
  refine pure_walk hTb Tryz.func200 rfl rfl Tryz.ntmps200 (by simp) ?_
  (conv => whnf)
  refine VL.loopI hTb (fun i => i ≤ b.links.length ∧ b.links.any (isLk s c) = (b.links.drop i).any (isLk s c)) (fun i => ⟨[(1, strS s), (2, strS c), (3, .one (.ptr 103 0)), (7, iS i)], [(103, .box (encVBase b))], []⟩) (fun i => b.links.length - i) 0 ⟨Nat.zero_le _, rfl⟩
    (wk_to [(103, 103)] rfl rfl rfl ⟨rfl, rfl, rfl, rfl, trivial⟩ ⟨rfl, ⟨_, rfl, rfl⟩, trivial⟩) (fun i hi => ?_)
  obtain ⟨hi, hf⟩ := hi
  (conv => whnf)
  refine And.intro (fun h2 => ?_) (fun h2 => ?_)
  · have hlt : i < b.links.length := by simpa using h2
    have hrow := rowVLink hlt
    have hst := any_step (p := isLk s c) hlt
    generalize b.links[i] = li at hrow hst
    obtain ⟨l1, l2, l3, l4⟩ := li
    have hq : isLk s c ⟨l1, l2, l3, l4⟩ = (l1.toList == s.toList && l2.toList == c.toList) := rfl
    rw [hq] at hst
    (conv => whnf); repeat' ((first | (refine And.intro ?_ ?_ <;> ((try intro h) <;> (try simp only [gS] at h) <;> first | exact absurd h gF | exact absurd h.symm gF | conv => whnf)) | (refine VR.op hTb rfl rfl (o_index_imm hTb rfl rfl rfl rfl rfl rfl rfl (by omega) (hrow)) rfl ?_)) <;> conv => whnf)
    all_goals first
      | (have q1 := ‹(l1.toList == s.toList) = true›
         have q2 := ‹(l2.toList == c.toList) = true›
         rw [hf, hst, q1, q2]; rfl)
      | (refine ⟨i + 1, ⟨hlt, ?_⟩, by omega, wk_to [(103, 103)] rfl rfl rfl ⟨rfl, rfl, rfl, gW (by unfold maxLen; omega), trivial⟩ ⟨rfl, ⟨_, rfl, rfl⟩, trivial⟩⟩
         rw [hf, hst]
         first
           | (have q := ‹(l1.toList == s.toList) = false›; rw [q]; rfl)
           | (have q := ‹(l2.toList == c.toList) = false›; rw [q, Bool.and_false]; rfl))
  · (conv => whnf)
    have hie : i = b.links.length := by simp at h2; omega
    rw [hf, hie, List.drop_length]; rfl
theorem c_l4Write (b : VBase) (hD : b.dr) (k : Nat) (t : VTable) (c : Int) (hm : c = 0 → ∃ hk : k < b.tabs.length, t.dr ∧ tL t = tL b.tabs[k].table) : CallsV Tryz.prog 199 [.agg (encVBase b), iS k, .agg (encVTable t), iS c] [] (relQ (fun y : VBase × Int => y.1.dr) bcS (fun _ => []) (fun _ => [])) := by
  refine funF_walk hTb Tryz.func199 rfl rfl Tryz.ntmps199 (by simp) (by simp) ?_
  by_cases hc : c = 0
  · subst hc
    obtain ⟨hk, ht, hL⟩ := hm rfl
    have hx := hD.set hk ht hL
    have cK := c_l4Copy b hD.md
    have hat : b.tabs[0 + ((k : Nat) : Int).toNat]? = some b.tabs[k] := by rw [Nat.zero_add, Int.toNat_natCast]; exact List.getElem?_eq_getElem _
    have hx : VBase.dr ⟨b.tabs.set (0 + ((k : Nat) : Int).toNat) ⟨b.tabs[k].name, t⟩, b.links⟩ := by rw [Nat.zero_add, Int.toNat_natCast]; exact hx
    have cL := c_l4Linked _ hx.lk (by have := hD.ll; simp only; omega)
    generalize b.tabs[k] = tk at hat hx cL
    generalize List.all b.links _ = bl at cL
    cases bl <;> (conv => whnf); repeat' ((first | (refine And.intro ?_ ?_ <;> ((try intro h) <;> (try simp only [gS] at h) <;> first | exact absurd h gF | exact absurd h.symm gF | conv => whnf)) | (refine VR.fun hTb rfl rfl (o_funN (cK) false [] gN (by simp) rfl rfl rfl rfl rfl gQ rfl rfl) ?_) | (refine VR.freeze hTb rfl 1065 rfl rfl ?_; conv => whnf; rw [fzLk]) | (refine Need.mk ?_; exact ⟨rfl, by omega, by omega⟩) | (refine VR.op hTb rfl rfl (o_storeM hTb rfl rfl rfl rfl rfl (hat) rfl rfl rfl ⟨rfl, by decide⟩ (c' := ⟨tk.name, t⟩) rfl) rfl ?_) | (refine VR.pure hTb rfl rfl (o_purN cL rfl rfl rfl gQ ?_) ?_; exact congrArg (fun s => [s]) (brwB ⟨b.tabs.set (0 + ((k : Nat) : Int).toNat) ⟨tk.name, t⟩, b.links⟩ (by simp)))) <;> conv => whnf)
    all_goals first
      | exact endR [] (b, 7) rfl rfl rfl rfl rfl (LeS.refl _) rfl rfl hD
      | exact endR [] ((⟨b.tabs.set (0 + ((k : Nat) : Int).toNat) ⟨tk.name, t⟩, b.links⟩ : VBase), 0) rfl rfl rfl rfl rfl (LeS.of_eq (brwBc ⟨b.tabs.set (0 + ((k : Nat) : Int).toNat) ⟨tk.name, t⟩, b.links⟩ 0 (by simp))) rfl rfl hx
  · (conv => whnf); repeat' ((first | (refine absurd h ?_; (simp; omega)) | (refine And.intro ?_ ?_ <;> ((try intro h) <;> (try simp only [gS] at h) <;> first | exact absurd h gF | exact absurd h.symm gF | conv => whnf))) <;> conv => whnf)
    all_goals first
      | exact endR [] (b, c) rfl rfl rfl rfl rfl (LeS.refl _) rfl rfl hD
      | (exfalso; simp_all; done)
theorem c_l4Put (b : VBase) (hD : b.dr) (nm : ByteArray) (sets : List VSet) (hS : smSets sets) : CallsV Tryz.prog 179 [.agg (encVBase b), strS nm, vsetsI sets] [] (relQ (fun y : VBase × Int => y.1.dr) bcS (fun _ => []) (fun _ => [])) := by
  have c1 := c_l4At b nm (lmax (by have := hD.tl; omega))
  refine funF_walk hTb Tryz.func179 rfl rfl Tryz.ntmps179 (by simp) (by simp) ?_
  by_cases hz : tabIx b nm < 0
  · generalize tabIx b nm = z at c1 hz
    (conv => whnf); repeat' ((first | (exact absurd h (by omega)) | (refine And.intro ?_ ?_ <;> ((try intro h) <;> (try simp only [gS] at h) <;> first | exact absurd h gF | exact absurd h.symm gF | conv => whnf)) | (refine VR.pure hTb rfl rfl (o_purN (c1) rfl rfl rfl gQ rfl) ?_)) <;> conv => whnf)
    exact endR [] (b, 5) rfl rfl rfl rfl rfl (LeS.refl _) rfl rfl hD
  obtain ⟨m, hm⟩ : ∃ m : Nat, tabIx b nm = m := ⟨(tabIx b nm).toNat, by omega⟩
  have hT := hD.of hz
  obtain ⟨n', hR⟩ := rowTabZ hz
  obtain ⟨hmb, hat⟩ := tab_at hm
  have hO : tL (tabOf b nm) = tL b.tabs[m].table := by rw [hat]
  rw [hm] at c1 hR
  clear hz hm hat
  generalize tabOf b nm = T at hT hR hO
  have cK := c_l3CopyT T hT.1.md
  (conv => whnf); repeat' ((first | (exact absurd h (by omega)) | (refine And.intro ?_ ?_ <;> ((try intro h) <;> (try simp only [gS] at h) <;> first | exact absurd h gF | exact absurd h.symm gF | conv => whnf)) | (refine VR.pure hTb rfl rfl (o_purN (c1) rfl rfl rfl gQ rfl) ?_) | (refine VR.op hTb rfl rfl (o_index_imm hTb rfl rfl rfl rfl rfl rfl rfl (by omega) (hR)) rfl ?_) | (refine VR.fun hTb rfl rfl (o_funN (cK) false [] gN (by simp) rfl rfl rfl rfl rfl gQ rfl rfl) ?_) | (refine VR.rel hTb rfl rfl (o_relN (c_l3PutF T hT.1 sets hS) false [1096] (fun _ _ => ⟨by simp, gN⟩) rfl rfl rfl rfl rfl gQ rfl rfl) ?_; rintro ⟨t2, cd⟩ ht2; (try simp only at ht2)) | (refine VR.rel hTb rfl rfl (o_relN (c_l4Write b hD m t2 cd (fun _ => ⟨hmb, ht2.1, by rw [tL_of ht2.2.1 ht2.2.2, hO]⟩)) false [] (fun _ _ => ⟨by simp, gN⟩) rfl rfl rfl rfl rfl gQ rfl rfl) ?_; rintro ⟨y, c2⟩ hy; (try simp only at hy))) <;> conv => whnf)
  exact endR [] (y, c2) rfl rfl rfl rfl rfl (LeS.refl _) rfl rfl hy
theorem c_l4Set (b : VBase) (hD : b.dr) (nm : ByteArray) (id : Int) (sets : List VSet) (hS : smSets sets) : CallsV Tryz.prog 176 [.agg (encVBase b), strS nm, iS id, vsetsI sets] [] (relQ (fun y : VBase × Int => y.1.dr) bcS (fun _ => []) (fun _ => [])) := by
  have c1 := c_l4At b nm (lmax (by have := hD.tl; omega))
  refine funF_walk hTb Tryz.func176 rfl rfl Tryz.ntmps176 (by simp) (by simp) ?_
  by_cases hz : tabIx b nm < 0
  · generalize tabIx b nm = z at c1 hz
    (conv => whnf); repeat' ((first | (exact absurd h (by omega)) | (refine And.intro ?_ ?_ <;> ((try intro h) <;> (try simp only [gS] at h) <;> first | exact absurd h gF | exact absurd h.symm gF | conv => whnf)) | (refine VR.pure hTb rfl rfl (o_purN (c1) rfl rfl rfl gQ rfl) ?_)) <;> conv => whnf)
    exact endR [] (b, 5) rfl rfl rfl rfl rfl (LeS.refl _) rfl rfl hD
  obtain ⟨m, hm⟩ : ∃ m : Nat, tabIx b nm = m := ⟨(tabIx b nm).toNat, by omega⟩
  have hT := hD.of hz
  obtain ⟨n', hR⟩ := rowTabZ hz
  obtain ⟨hmb, hat⟩ := tab_at hm
  have hO : tL (tabOf b nm) = tL b.tabs[m].table := by rw [hat]
  rw [hm] at c1 hR
  clear hz hm hat
  generalize tabOf b nm = T at hT hR hO
  have cK := c_l3CopyT T hT.1.md
  (conv => whnf); repeat' ((first | (exact absurd h (by omega)) | (refine And.intro ?_ ?_ <;> ((try intro h) <;> (try simp only [gS] at h) <;> first | exact absurd h gF | exact absurd h.symm gF | conv => whnf)) | (refine VR.pure hTb rfl rfl (o_purN (c1) rfl rfl rfl gQ rfl) ?_) | (refine VR.op hTb rfl rfl (o_index_imm hTb rfl rfl rfl rfl rfl rfl rfl (by omega) (hR)) rfl ?_) | (refine VR.fun hTb rfl rfl (o_funN (cK) false [] gN (by simp) rfl rfl rfl rfl rfl gQ rfl rfl) ?_) | (refine VR.rel hTb rfl rfl (o_relN (c_l3SetF T hT.1 id sets hS) false [1104] (fun _ _ => ⟨by simp, gN⟩) rfl rfl rfl rfl rfl gQ rfl rfl) ?_; rintro ⟨t2, cd⟩ ht2; (try simp only at ht2)) | (refine VR.rel hTb rfl rfl (o_relN (c_l4Write b hD m t2 cd (fun _ => ⟨hmb, ht2.1, by rw [tL_of ht2.2.1 ht2.2.2, hO]⟩)) false [] (fun _ _ => ⟨by simp, gN⟩) rfl rfl rfl rfl rfl gQ rfl rfl) ?_; rintro ⟨y, c2⟩ hy; (try simp only at hy))) <;> conv => whnf)
  exact endR [] (y, c2) rfl rfl rfl rfl rfl (LeS.refl _) rfl rfl hy
end Go.Vl

/- When two things are one; contracts of what asks so. Printed by our own genq.py. Contracts: shapes alike. Contracts: shapes: where a name stands, soundness. Contracts: what the reader draws: columns, shapes. Contracts: what the reader draws: rows; drawn cases of the laws on columns and rows. Contracts: the drawn cases of the laws on columns and rows. The law on where a name stands in a shape: what its function computes. -/
import Derived.Test.YtdijjjgplhbkkaaGreatDoorJDa
import Derived.Test.YtdijjjgplhbkkaaGreatDoorWi
set_option linter.unusedSimpArgs false
set_option linter.unusedVariables false
set_option linter.unnecessarySimpa false
set_option maxRecDepth 100000
set_option maxHeartbeats 16000000

namespace Go.Vl
open Go Go.RowKit Go.Proofs
def q_Val (a b : Val) : Bool := ((a.k == b.k) && ((a.n == b.n) && ((a.t.toList == b.t.toList) && true)))
def q_Col (a b : Col) : Bool := ((a.name.toList == b.name.toList) && ((a.kind == b.kind) && ((a.need == b.need) && ((a.once == b.once) && ((q_Val a.d b.d) && true)))))
def q_VRef (a b : VRef) : Bool := ((a.name.toList == b.name.toList) && ((a.id == b.id) && true))
section
variable {α : Type} {f : α → α → Bool} {us bs : List α}
end
theorem row_at {cs : List Col} {i : Nat} (h : i < cs.length) : (cs.map encCol)[((i : Nat) : Int).toNat]? = some (encCol cs[i]) := by
  rw [Int.toNat_natCast, List.getElem?_map, List.getElem?_eq_getElem h]; rfl
def atGo (s : ByteArray) : List Col → Nat → Int
  | [], _ => -1
  | c :: cs, i => if c.name.toList == s.toList then (i : Int) else atGo s cs (i + 1)
def nameAt (cs : List Col) (s : ByteArray) : Int := atGo s cs 0
theorem atGo_step {cs : List Col} {s : ByteArray} {i : Nat} (h : i < cs.length) : atGo s (cs.drop i) i = if cs[i].name.toList == s.toList then (i : Int) else atGo s (cs.drop (i + 1)) (i + 1) := by
  rw [List.drop_eq_getElem_cons h, atGo]
theorem atGo_end {cs : List Col} {s : ByteArray} {i : Nat} (h : cs.length ≤ i) : atGo s (cs.drop i) i = -1 := by
  rw [List.drop_of_length_le h, atGo]
theorem c_l2At (cs : List Col) (s : ByteArray) (hl : cs.length ≤ maxLen) : CallsV Tryz.prog 67 [colsI cs, strS s] [] (pureQ (iS (nameAt cs s))) := by
  refine pure_walk hTb Tryz.func67 rfl rfl Tryz.ntmps67 (by simp) ?_
  (conv => whnf)
  refine VL.loopI hTb (fun i => i ≤ cs.length ∧ nameAt cs s = atGo s (cs.drop i) i) (fun i => ⟨[(0, colsI cs), (1, strS s), (5, iS i)], [], []⟩) (fun i => cs.length - i) 0 ⟨Nat.zero_le _, rfl⟩
    (wk_to [] rfl rfl rfl ⟨rfl, rfl, rfl, trivial⟩ trivial) (fun i hi => ?_)
  obtain ⟨hi, hf⟩ := hi
  (conv => whnf)
  refine And.intro (fun h2 => ?_) (fun h2 => ?_)
  · have hlt : i < cs.length := by simpa using h2
    have hrow := row_at hlt
    (conv => whnf); repeat' (first
    | (refine And.intro ?_ ?_ <;> ((try intro h) <;> (try simp only [Bool.not_true, Bool.not_false] at h) <;> first | exact absurd h gF | exact absurd h.symm gF | conv => whnf))
    | (refine VL.drawS hTb hMix (by kernel_rfl) (by kernel_rfl) (by kernel_rfl) ?_; conv => whnf)
    | (refine Need.mk ?_; kernel_rfl) | (refine Need.mk ⟨rfl, ?_⟩; decide)
    | (refine VR.op hTb rfl rfl (o_index_imm hTb rfl rfl rfl rfl rfl rfl rfl (Int.natCast_nonneg _) ( hrow)) rfl ?_; conv => whnf)
    | (refine DT.op hTb rfl (o_index_imm hTb rfl rfl rfl rfl rfl rfl rfl (Int.natCast_nonneg _) ( hrow)) rfl ?_; conv => whnf)); all_goals (try simp only [List.get_eq_getElem] at *)
    · have h9 := h
      rw [hf, atGo_step hlt, if_pos h9]; rfl
    · have h9 := h
      refine ⟨i + 1, ⟨hlt, ?_⟩, by omega, wk_to [] rfl rfl rfl ⟨rfl, rfl, congrArg (fun x => Slot.one (.g (.int .i64 x))) (wrap64' (by omega)), trivial⟩ trivial⟩
      rw [hf, atGo_step hlt, if_neg (by rw [h9]; simp)]
  · (conv => whnf)
    rw [hf, atGo_end (by simp at h2; omega)]; rfl
def nmBox (s : ByteArray) : Ob := .box [.g (.string s)]
theorem c_colAt1 (c : Col) (s : ByteArray) : CallsV Tryz.prog 125 [.agg (encCol c), .one (.ptr 0 0)] [nmBox s] (funQ (bS (c.name.toList == s.toList)) [some (nmBox s)] []) := by
  refine fun_walk hTb Tryz.func125 rfl rfl Tryz.ntmps125 (by simp) (by simp) ?_
  (conv => whnf)
  exact endG [] rfl rfl rfl rfl rfl ⟨rfl, rfl, rfl⟩
theorem c_indexFunc (cs : List Col) (s : ByteArray) (hl : cs.length ≤ maxLen) : CallsV Tryz.prog 124 [colsI cs, .one (.clo 125 [0])] [nmBox s] (funQ (iS (nameAt cs s)) [some (nmBox s)] []) := by
  refine fun_walk hTb Tryz.func124 rfl rfl Tryz.ntmps124 (by simp) (by simp) ?_
  (conv => whnf)
  refine VL.loopI hTb (fun i => i ≤ cs.length ∧ nameAt cs s = atGo s (cs.drop i) i) (fun i => ⟨[(0, colsI cs), (1, .one (.clo 125 [0])), (7, iS ((cs.map encCol).length : Nat)), (8, iS i)], [(0, nmBox s)], []⟩) (fun i => cs.length - i) 0 ⟨Nat.zero_le _, rfl⟩
    (wk_to [(0, 0)] rfl rfl rfl ⟨rfl, rfl, rfl, rfl, trivial⟩ ⟨rfl, ⟨_, rfl, rfl⟩, trivial⟩) (fun i hi => ?_)
  obtain ⟨hi, hf⟩ := hi
  (conv => whnf)
  refine And.intro (fun h2 => ?_) (fun h2 => ?_)
  · have hlt : i < cs.length := by simpa using h2
    have hrow := row_at hlt
    (conv => whnf); repeat' (first
    | (refine And.intro ?_ ?_ <;> ((try intro h) <;> (try simp only [Bool.not_true, Bool.not_false] at h) <;> first | exact absurd h gF | exact absurd h.symm gF | conv => whnf))
    | (refine VL.drawS hTb hMix (by kernel_rfl) (by kernel_rfl) (by kernel_rfl) ?_; conv => whnf)
    | (refine Need.mk ?_; kernel_rfl) | (refine Need.mk ⟨rfl, ?_⟩; decide)
    | (refine VR.op hTb rfl rfl (o_index_imm hTb rfl rfl rfl rfl rfl rfl rfl (Int.natCast_nonneg _) ( hrow)) rfl ?_; conv => whnf)
    | (refine DT.op hTb rfl (o_index_imm hTb rfl rfl rfl rfl rfl rfl rfl (Int.natCast_nonneg _) ( hrow)) rfl ?_; conv => whnf)); all_goals (try simp only [List.get_eq_getElem] at *)
    refine VR.fun hTb rfl rfl (o_funN (c_colAt1 cs[i] s) true [0] (fun _ => ⟨rfl, by simp [nmBox, GrO, GrL, isMem], by simp⟩) (by simp) rfl rfl rfl rfl rfl gQ rfl rfl) ?_
    (conv => whnf); repeat' ((first | (refine And.intro ?_ ?_ <;> ((try intro h) <;> (try simp only [Bool.not_true, Bool.not_false] at h) <;> first | exact absurd h gF | exact absurd h.symm gF | conv => whnf))) <;> conv => whnf)
    · have h9 := h
      refine endG [] rfl rfl rfl rfl rfl ⟨?_, rfl, rfl⟩
      rw [hf, atGo_step hlt, if_pos h9]; rfl
    · have h9 := h
      refine ⟨i + 1, ⟨hlt, ?_⟩, by omega, wk_to [(0, 0)] rfl rfl rfl ⟨rfl, rfl, rfl, congrArg (fun x => Slot.one (.g (.int .i64 x))) (wrap64' (by omega)), trivial⟩ ⟨rfl, ⟨_, rfl, rfl⟩, trivial⟩⟩
      rw [hf, atGo_step hlt, if_neg (by rw [h9]; simp)]
  · (conv => whnf)
    refine endG [] rfl rfl rfl rfl rfl ⟨?_, rfl, rfl⟩
    rw [hf, atGo_end (by simp at h2; omega)]; rfl
theorem c_colAt (cs : List Col) (s : ByteArray) (hl : cs.length ≤ maxLen) : CallsV Tryz.prog 55 [colsI cs, strS s] [] (pureQ (iS (nameAt cs s))) := by
  refine pure_walk hTb Tryz.func55 rfl rfl Tryz.ntmps55 (by simp) ?_
  (conv => whnf)
  refine VR.fun hTb rfl rfl (o_funN (c_indexFunc cs s hl) true [103] (fun _ => ⟨rfl, by simp [nmBox, GrO, GrL, isMem], by simp⟩) (by simp) rfl rfl rfl rfl rfl gQ rfl rfl) ?_
  (conv => whnf)
  rfl
def okGo (all : List Col) : List Col → Nat → Bool
  | [], _ => true
  | c :: cs, i => colOk c && nameAt all c.name == (i : Int) && okGo all cs (i + 1)
theorem okGo_step {all cs : List Col} {i : Nat} (h : i < cs.length) : okGo all (cs.drop i) i = (colOk cs[i] && nameAt all cs[i].name == (i : Int) && okGo all (cs.drop (i + 1)) (i + 1)) := by
  rw [List.drop_eq_getElem_cons h, okGo]
theorem okGo_end {all cs : List Col} {i : Nat} (h : cs.length ≤ i) : okGo all (cs.drop i) i = true := by
  rw [List.drop_of_length_le h, okGo]
def shapeOk (cs : List Col) : Bool := okGo cs cs 0 && (decide (1 ≤ ((cs.map encCol).length : Int)) && decide (((cs.map encCol).length : Int) ≤ 5))
theorem c_specShapeOk (cs : List Col) (hl : cs.length ≤ maxLen) (ho : ∀ c ∈ cs, c.ok) : CallsV Tryz.prog 85 [colsI cs] [] (pureQ (bS (shapeOk cs))) := by
  refine pure_walk hTb Tryz.func85 rfl rfl Tryz.ntmps85 (by simp) ?_
  (conv => whnf)
  refine VL.loopI hTb (fun i => i ≤ cs.length ∧ okGo cs cs 0 = okGo cs (cs.drop i) i) (fun i => ⟨[(0, colsI cs), (3, iS i)], [], []⟩) (fun i => cs.length - i) 0 ⟨Nat.zero_le _, rfl⟩
    (wk_to [] rfl rfl rfl ⟨rfl, rfl, trivial⟩ trivial) (fun i hi => ?_)
  obtain ⟨hi, hf⟩ := hi
  (conv => whnf)
  refine And.intro (fun h2 => ?_) (fun h2 => ?_)
  · have hlt : i < cs.length := by simpa using h2
    have hrow := row_at hlt
    (conv => whnf); repeat' (first
    | (refine And.intro ?_ ?_ <;> ((try intro h) <;> (try simp only [Bool.not_true, Bool.not_false] at h) <;> first | exact absurd h gF | exact absurd h.symm gF | conv => whnf))
    | (refine VL.drawS hTb hMix (by kernel_rfl) (by kernel_rfl) (by kernel_rfl) ?_; conv => whnf)
    | (refine Need.mk ?_; kernel_rfl) | (refine Need.mk ⟨rfl, ?_⟩; decide)
    | (refine VR.op hTb rfl rfl (o_index_imm hTb rfl rfl rfl rfl rfl rfl rfl (Int.natCast_nonneg _) ( hrow)) rfl ?_; conv => whnf)
    | (refine DT.op hTb rfl (o_index_imm hTb rfl rfl rfl rfl rfl rfl rfl (Int.natCast_nonneg _) ( hrow)) rfl ?_; conv => whnf)
    | (refine VR.pure hTb rfl rfl (o_purN (c_specColOk cs[i] (ho _ (List.getElem_mem hlt))) rfl rfl rfl gQ rfl) ?_; conv => whnf)
    | (refine DT.pure hTb rfl (o_purN (c_specColOk cs[i] (ho _ (List.getElem_mem hlt))) rfl rfl rfl gQ rfl) ?_; conv => whnf)
    | (refine VR.pure hTb rfl rfl (o_purN (c_l2At cs _ hl) rfl rfl rfl gQ rfl) ?_; conv => whnf)
    | (refine DT.pure hTb rfl (o_purN (c_l2At cs _ hl) rfl rfl rfl gQ rfl) ?_; conv => whnf)); all_goals (try simp only [List.get_eq_getElem] at *)
    all_goals first
      | (refine ⟨i + 1, ⟨hlt, ?_⟩, by omega, wk_to [] rfl rfl rfl ⟨rfl, congrArg (fun x => Slot.one (.g (.int .i64 x))) (wrap64' (by omega)), trivial⟩ trivial⟩
         rw [hf, okGo_step hlt]
         simp_all; done)
      | (simp only [bS, shapeOk, hf, okGo_step hlt]
         simp_all; done)
  · (conv => whnf)
    have hf2 : okGo cs cs 0 = true := by rw [hf, okGo_end (by simp at h2; omega)]
    (conv => whnf); repeat' ((first | (refine And.intro ?_ ?_ <;> ((try intro h) <;> (try simp only [Bool.not_true, Bool.not_false] at h) <;> first | exact absurd h gF | exact absurd h.symm gF | conv => whnf))) <;> conv => whnf)
    all_goals (simp only [bS, shapeOk, hf2]; simp_all)
    all_goals (try (intro; omega))
theorem c_implShapeOk (cs : List Col) (hl : cs.length ≤ maxLen) (ho : ∀ c ∈ cs, c.ok) : CallsV Tryz.prog 30 [colsI cs] [] (pureQ (bS (shapeOk cs))) := by
  refine pure_walk hTb Tryz.func30 rfl rfl Tryz.ntmps30 (by simp) ?_
  (conv => whnf)
  refine VL.loopI hTb (fun i => i ≤ cs.length ∧ okGo cs cs 0 = okGo cs (cs.drop i) i) (fun i => ⟨[(0, colsI cs), (5, colsI cs), (6, iS ((cs.map encCol).length : Nat)), (7, iS i)], [], []⟩) (fun i => cs.length - i) 0 ⟨Nat.zero_le _, rfl⟩
    (wk_to [] rfl rfl rfl ⟨rfl, rfl, rfl, rfl, trivial⟩ trivial) (fun i hi => ?_)
  obtain ⟨hi, hf⟩ := hi
  (conv => whnf)
  refine And.intro (fun h2 => ?_) (fun h2 => ?_)
  · have hlt : i < cs.length := by simpa using h2
    have hrow := row_at hlt
    (conv => whnf); repeat' (first
    | (refine And.intro ?_ ?_ <;> ((try intro h) <;> (try simp only [Bool.not_true, Bool.not_false] at h) <;> first | exact absurd h gF | exact absurd h.symm gF | conv => whnf))
    | (refine VL.drawS hTb hMix (by kernel_rfl) (by kernel_rfl) (by kernel_rfl) ?_; conv => whnf)
    | (refine Need.mk ?_; kernel_rfl) | (refine Need.mk ⟨rfl, ?_⟩; decide)
    | (refine VR.op hTb rfl rfl (o_index_imm hTb rfl rfl rfl rfl rfl rfl rfl (Int.natCast_nonneg _) ( hrow)) rfl ?_; conv => whnf)
    | (refine DT.op hTb rfl (o_index_imm hTb rfl rfl rfl rfl rfl rfl rfl (Int.natCast_nonneg _) ( hrow)) rfl ?_; conv => whnf)
    | (refine VR.pure hTb rfl rfl (o_purN (c_implColOk cs[i] (ho _ (List.getElem_mem hlt))) rfl rfl rfl gQ rfl) ?_; conv => whnf)
    | (refine DT.pure hTb rfl (o_purN (c_implColOk cs[i] (ho _ (List.getElem_mem hlt))) rfl rfl rfl gQ rfl) ?_; conv => whnf)
    | (refine VR.pure hTb rfl rfl (o_purN (c_colAt cs _ hl) rfl rfl rfl gQ rfl) ?_; conv => whnf)
    | (refine DT.pure hTb rfl (o_purN (c_colAt cs _ hl) rfl rfl rfl gQ rfl) ?_; conv => whnf)); all_goals (try simp only [List.get_eq_getElem] at *)
    all_goals first
      | (refine ⟨i + 1, ⟨hlt, ?_⟩, by omega, wk_to [] rfl rfl rfl ⟨rfl, rfl, rfl, congrArg (fun x => Slot.one (.g (.int .i64 x))) (wrap64' (by omega)), trivial⟩ trivial⟩
         rw [hf, okGo_step hlt]
         simp_all; done)
      | (simp only [bS, shapeOk, hf, okGo_step hlt]
         simp_all; done)
  · have hf2 : okGo cs cs 0 = true := by rw [hf, okGo_end (by simp at h2; omega)]
    (conv => whnf); repeat' (first
    | (refine And.intro ?_ ?_ <;> ((try intro h) <;> (try simp only [Bool.not_true, Bool.not_false] at h) <;> first | exact absurd h gF | exact absurd h.symm gF | conv => whnf))
    | (refine VL.drawS hTb hMix (by kernel_rfl) (by kernel_rfl) (by kernel_rfl) ?_; conv => whnf)
    | (refine Need.mk ?_; kernel_rfl) | (refine Need.mk ⟨rfl, ?_⟩; decide)
    | (refine VR.pure hTb rfl rfl (o_purN (c_in _ _ _) rfl rfl rfl gQ rfl) ?_; conv => whnf)
    | (refine DT.pure hTb rfl (o_purN (c_in _ _ _) rfl rfl rfl gQ rfl) ?_; conv => whnf))
    all_goals (simp only [bS, shapeOk, hf2]; simp_all)
def Val.sml (v : Val) : Prop := v.t.size ≤ 8
def Col.sml (c : Col) : Prop := c.name.size ≤ 8 ∧ c.d.t.size ≤ 8
theorem Col.sml.ok {c : Col} (h : c.sml) : c.ok := ⟨by have := h.1; unfold maxLen; omega, by have := h.2; unfold maxLen; omega⟩
def smlCols (l : List Col) : Prop := ∀ x ∈ l, x.sml
theorem c_l2Names : CallsV Tryz.prog 65 [] [] (relQ (fun rows : List (List Leaf) => strRows (fun t => t.size ≤ 8) rows ∧ 0 < rows.length) (fun rows => .one (.imm 1 rows)) (fun _ => []) (fun _ => [])) := by
  refine funF_walk hTb Tryz.func65 rfl rfl Tryz.ntmps65 (by simp) (by simp) ?_
  (conv => whnf)
  exact endR [] _ rfl rfl rfl rfl rfl (LeS.refl _) rfl rfl ⟨by simp [strRows]; decide, by decide⟩
theorem c_l2Col {bs : List Int} (hb : BOk bs) (p : Nat) (s : ByteArray) (hs : s.size ≤ 8) (hp : p ≤ 1099511500000) : CallsV Tryz.prog 185 [rdS, .one (.g (.string s))] [rdO bs p]
    (relQ (fun y : Col × Nat => y.1.name = s ∧ y.1.d.t.size ≤ 8 ∧ y.2 ≤ p + 5) (fun y => .agg (encCol y.1)) (fun y => [some (rdO bs y.2)]) (fun _ => [])) := by
  have e0 := bs0
  refine funF_walk hTb Tryz.func185 rfl rfl Tryz.ntmps185 (by simp) (by simp) ?_
  (conv => whnf); repeat' ((first | (refine And.intro ?_ ?_ <;> ((try intro h) <;> (try simp only [gS] at h) <;> first | exact absurd h gF | exact absurd h.symm gF | conv => whnf)) | (refine VR.rel hTb rfl rfl (o_relN (c_pick hb _ _ (by omega)) false [0] (fun _ _ => ⟨by simp, gN⟩) rfl rfl rfl rfl rfl gQ rfl rfl) ?_; intro y hy) | (refine VR.rel hTb rfl rfl (o_relN (c_l1Some hb _ _ (by omega)) false [0] (fun _ _ => ⟨by simp, gN⟩) rfl rfl rfl rfl rfl gQ rfl rfl) ?_; rintro ⟨⟨k, n, t⟩, q⟩ hy; (try simp only at hy))) <;> conv => whnf)
  all_goals exact endR [] (⟨_, _, _, _, ⟨_, _, _⟩⟩, _) rfl rfl rfl rfl rfl (LeS.refl _) rfl rfl ⟨rfl, (by first | omega | decide | (simp_all; done) | (simp_all; omega)), (by first | omega | decide | (simp_all; done) | (simp_all; omega))⟩
theorem c_l2Shape {bs : List Int} (hb : BOk bs) (p : Nat) (hp : p ≤ 1099511400000) : CallsV Tryz.prog 131 [rdS] [rdO bs p]
    (relQ (fun y : List Col × Nat => smlCols y.1 ∧ 1 ≤ y.1.length ∧ y.1.length ≤ 4 ∧ y.2 ≤ p + 25) (fun y => colsI y.1) (fun y => [some (rdO bs y.2)]) (fun _ => [])) := by
  refine funF_walk hTb Tryz.func131 rfl rfl Tryz.ntmps131 (by simp) (by simp) ?_
  (conv => whnf); repeat' ((first | (refine VR.rel hTb rfl rfl (o_relN (c_pick hb _ _ (by omega)) false [0] (fun _ _ => ⟨by simp, gN⟩) rfl rfl rfl rfl rfl gQ rfl rfl) ?_; intro y hy)) <;> conv => whnf)
  have e1 : IntKind.i64.wrap (1 + y) = 1 + y := by rw [IntKind.wrap_i64]; omega
  rw [e1]
  refine VL.loopI hTb (fun (⟨k, cs, q⟩ : Nat × List Col × Nat) => k ≤ 4 ∧ smlCols cs ∧ cs.length + k ≤ 4 ∧ (cs = [] → 1 ≤ k) ∧ q + 6 * k ≤ p + 25)
    (fun ⟨k, cs, q⟩ => ⟨[(0, rdS), (3, .one (.own 106 0 cs.length)), (4, iS k)], [(0, rdO bs q), (106, .arr 39 7 (cs.map encCol))], []⟩) (fun x => x.1) (1 + y.toNat, [], p + 1) ⟨by omega, (fun x hx => by cases hx), by simp; omega, fun _ => by omega, by omega⟩
    (wk_to [(0, 0), (106, 106)] rfl rfl rfl ⟨rfl, rfl, congrArg (fun x => Slot.one (.g (.int .i64 x))) (by omega), trivial⟩ ⟨rfl, ⟨_, rfl, rfl⟩, rfl, ⟨_, rfl, rfl⟩, trivial⟩) (fun x hx => ?_)
  obtain ⟨k, cs, q⟩ := x
  obtain ⟨i1, i2, i3, i4, i5⟩ := hx
  (conv => whnf); repeat' ((first | (refine And.intro ?_ ?_ <;> ((try intro h) <;> (try simp only [gS] at h) <;> first | exact absurd h gF | exact absurd h.symm gF | conv => whnf)) | (refine VR.rel hTb rfl rfl (o_relN (c_l2Names) false [] (fun _ _ => ⟨by simp, gN⟩) rfl rfl rfl rfl rfl gQ rfl rfl) ?_; rintro rows hrows; (try simp only at hrows)) | (refine VR.rel hTb rfl rfl (o_relN (c_ofI hb _ _ (fun t => t.size ≤ 8) hrows.1 hrows.2 (by omega)) false [0] (fun _ _ => ⟨by simp, gN⟩) rfl rfl rfl rfl rfl gQ rfl rfl) ?_; rintro nm hnm; (try simp only at hnm)) | (refine VR.rel hTb rfl rfl (o_relN (c_l2Col hb _ _ hnm (by omega)) false [0] (fun _ _ => ⟨by simp, gN⟩) rfl rfl rfl rfl rfl gQ rfl rfl) ?_; rintro ⟨⟨cn, ck, c1, c2, ⟨c3, c4, c5⟩⟩, q2⟩ hc; (try simp only at hc)) | (refine VR.pure hTb rfl rfl (o_purN (c_l2At cs _ (by unfold maxLen; omega)) rfl rfl rfl gQ (congrArg (fun s => [s, _]) brw)) ?_)) <;> conv => whnf)
  · refine VR.opk hTb rfl rfl (o_app1 (q := 127) (a := ⟨cn, ck, c1, c2, ⟨c3, c4, c5⟩⟩) hTb rfl rfl rfl rfl rfl rfl rfl rfl rfl rfl rfl rfl (by omega) (by show _ * 64 ≤ _; omega) (by unfold maxLen; omega)) ?_
    (conv => whnf)
    refine ⟨(k - 1, cs ++ [⟨cn, ck, c1, c2, ⟨c3, c4, c5⟩⟩], q2), ⟨by omega, ?_, by simp; omega, fun h => by simp at h, by omega⟩, by show k - 1 < k; omega,
      wk_to [(0, 0), (127, 106)] rfl rfl rfl ⟨rfl, congrArg (fun n => Slot.one (.own 106 0 n)) (by simp), congrArg (fun x => Slot.one (.g (.int .i64 x))) (by rw [IntKind.wrap_i64]; omega), trivial⟩ ⟨rfl, ⟨_, rfl, rfl⟩, rfl, ⟨_, rfl, rfl⟩, trivial⟩⟩
    intro x hx
    rcases List.mem_append.1 hx with hx | hx
    · exact i2 x hx
    · simp at hx; subst hx; exact ⟨by have := hc.1; simp only; rw [this]; exact hnm, hc.2.1⟩
  · refine ⟨(k - 1, cs, q2), ⟨by omega, i2, by omega, fun h0 => ?_, by omega⟩, by show k - 1 < k; omega,
      wk_to [(0, 0), (106, 106)] rfl rfl rfl ⟨rfl, rfl, congrArg (fun x => Slot.one (.g (.int .i64 x))) (by rw [IntKind.wrap_i64]; omega), trivial⟩ ⟨rfl, ⟨_, rfl, rfl⟩, rfl, ⟨_, rfl, rfl⟩, trivial⟩⟩
    exfalso
    subst h0
    have e : nameAt [] cn = -1 := rfl
    rw [e] at h
    simp at h
  · have hk : k = 0 := by simp at h; omega
    have hn : cs ≠ [] := fun h0 => by have := i4 h0; omega
    exact endR [] (cs, q) rfl rfl rfl rfl rfl (LeS.of_eq brw) rfl rfl ⟨i2, List.length_pos_iff.2 hn, (by show cs.length ≤ 4; omega), (by show q ≤ p + 25; omega)⟩
theorem smlCols.set {l : List Col} (h : smlCols l) {i : Nat} {c : Col} (hc : c.sml) : smlCols (l.set i c) := by
  intro x hx
  rcases List.mem_or_eq_of_mem_set hx with hx | rfl
  · exact h x hx
  · exact hc
theorem smlCols.app {l : List Col} (h : smlCols l) {c : Col} (hc : c.sml) : smlCols (l ++ [c]) := by
  intro x hx
  rcases List.mem_append.1 hx with hx | hx
  · exact h x hx
  · simp at hx; subst hx; exact hc
theorem c_l2Bent {bs : List Int} (hb : BOk bs) (p : Nat) (l : List Col) (hl : smlCols l) (hn : l.length ≤ 1000) (hp : p ≤ 1099511300000) : CallsV Tryz.prog 133 [rdS, colsI l] [rdO bs p]
    (relQ (fun y : List Col × Nat => smlCols y.1 ∧ y.1.length ≤ l.length + 1 ∧ y.2 ≤ p + 10) (fun y => colsI y.1) (fun y => [some (rdO bs y.2)]) (fun _ => [])) := by
  refine funF_walk hTb Tryz.func133 rfl rfl Tryz.ntmps133 (by simp) (by simp) ?_
  (conv => whnf)
  refine VR.opk hTb rfl rfl (o_app0 (f := encCol) (m := l) (q := 109) hTb rfl rfl rfl rfl rfl rfl rfl rfl rfl rfl (by omega) (by show _ * 64 ≤ _; omega) (by unfold maxLen; omega)) ?_
  (conv => whnf); repeat' ((first | (refine And.intro ?_ ?_ <;> ((try intro h) <;> (try simp only [Bool.not_true, Bool.not_false] at h) <;> first | exact absurd h gF | exact absurd h.symm gF | conv => whnf))) <;> conv => whnf)
  · exact endR [] (l, p) rfl rfl rfl rfl rfl (LeS.of_eq (brwG (by simp))) rfl rfl ⟨hl, by simp, by simp⟩
  have hpos : 0 < l.length := by simp at h; exact List.length_pos_iff.2 h
  clear h
  have e0 := bs0
  (conv => whnf); repeat' ((first | (refine And.intro ?_ ?_ <;> ((try intro h) <;> (try simp only [gS] at h) <;> first | exact absurd h gF | exact absurd h.symm gF | conv => whnf)) | (refine VR.rel hTb rfl rfl (o_relN (c_pick hb _ (l.length : Int) (by omega)) false [0] (fun _ _ => ⟨by simp, gN⟩) rfl rfl rfl rfl rfl gQ rfl rfl) ?_; rintro k hk; (try simp only at hk)) | (refine VR.rel hTb rfl rfl (o_relN (c_pick hb _ 60 (by omega)) false [0] (fun _ _ => ⟨by simp, gN⟩) rfl rfl rfl rfl rfl gQ rfl rfl) ?_; rintro w hw; (try simp only at hw)) | (refine VR.rel hTb rfl rfl (o_relN (c_of hb _ _ _ (fun t => t.size ≤ 8) (by simp [strRows]; decide) (by simp) (by omega)) false [0, 125] (fun _ _ => ⟨by simp, gN⟩) rfl rfl rfl rfl rfl gQ rfl rfl) ?_; rintro nm hnm; (try simp only at hnm)) | (refine VR.rel hTb rfl rfl (o_relN (c_num hb _ _ _ (fun _ => True) (by simp [intRows]) (by simp) (by omega)) false [0, 134] (fun _ _ => ⟨by simp, gN⟩) rfl rfl rfl rfl rfl gQ rfl rfl) ?_; rintro nb hnb; (try simp only at hnb)) | (refine VR.rel hTb rfl rfl (o_relN (c_l1Draw hb _ (by omega)) false [0] (fun _ _ => ⟨by simp, gN⟩) rfl rfl rfl rfl rfl gQ rfl rfl) ?_; rintro ⟨⟨vk, vn, vt⟩, q⟩ hv; (try simp only at hv)) | (refine Need.mk ?_; exact ⟨rfl, by omega, by omega⟩) | (refine VR.op hTb rfl rfl (o_storeM hTb rfl rfl rfl rfl rfl (List.getElem?_eq_getElem (show 0 + k.toNat < l.length by omega)) rfl rfl rfl ⟨rfl, by decide⟩ (c' := ⟨_, _, _, _, ⟨_, _, _⟩⟩) rfl) rfl ?_) | (refine VR.op hTb rfl rfl (o_loadM hTb rfl rfl rfl rfl (List.getElem?_eq_getElem (show 0 + k.toNat < l.length by omega)) ⟨by decide, by decide⟩) rfl ?_) | (refine VR.opk hTb rfl rfl (o_app1 (q := 154) (a := ⟨_, _, _, _, ⟨_, _, _⟩⟩) hTb rfl rfl rfl rfl rfl rfl rfl rfl rfl rfl rfl rfl (by omega) (by show _ * 64 ≤ _; omega) (by unfold maxLen; omega)) ?_)) <;> conv => whnf)
  all_goals
    have hke : 0 + k.toNat < l.length := by omega
    have hcs : (l[0 + k.toNat]).sml := hl _ (List.getElem_mem hke)
    first
      | refine endR [] (_, _) rfl rfl rfl rfl rfl (LeS.of_eq (brwG (by simp))) rfl rfl ⟨?_, ?_, ?_⟩
      | refine endR [] ([], _) rfl rfl rfl rfl rfl (LeS.refl _) rfl rfl ⟨?_, ?_, ?_⟩
  all_goals first
    | exact hl
    | exact smlCols.set hl ⟨hcs.1, hcs.2⟩
    | exact smlCols.set hl ⟨hnm, hcs.2⟩
    | exact smlCols.set hl ⟨hcs.1, hv.1⟩
    | exact smlCols.app hl ⟨hcs.1, hcs.2⟩
    | (intro x hx; cases hx; done)
    | (simp only [List.length_set, List.length_append, List.length_cons, List.length_nil]; omega)
    | omega
def smlVals (l : List Val) : Prop := ∀ x ∈ l, x.t.size ≤ 8
theorem smlVals.set {l : List Val} (h : smlVals l) {i : Nat} {c : Val} (hc : c.t.size ≤ 8) : smlVals (l.set i c) := by
  intro x hx
  rcases List.mem_or_eq_of_mem_set hx with hx | rfl
  · exact h x hx
  · exact hc
theorem smlVals.app {l : List Val} (h : smlVals l) {c : Val} (hc : c.t.size ≤ 8) : smlVals (l ++ [c]) := by
  intro x hx
  rcases List.mem_append.1 hx with hx | hx
  · exact h x hx
  · simp at hx; subst hx; exact hc
theorem smlVals.drop {l : List Val} (h : smlVals l) (n : Nat) : smlVals (l.drop n) := fun x hx => h x (List.mem_of_mem_drop hx)
theorem BOk.of {bs : List Int} (hb : ∀ x ∈ bs, 0 ≤ x ∧ x < 256) : BOk (bs.take 2000) := ⟨fun x hx => hb x (List.mem_of_mem_take hx), by simp; omega⟩
def shapeAt (cs : List Col) (s : ByteArray) : Int := if shapeOk cs then nameAt cs s else -1
theorem c_implShapeAt (cs : List Col) (s : ByteArray) (hl : cs.length ≤ maxLen) (ho : ∀ c ∈ cs, c.ok) : CallsV Tryz.prog 21 [colsI cs, strS s] [] (pureQ (iS (shapeAt cs s))) := by
  refine pure_walk hTb Tryz.func21 rfl rfl Tryz.ntmps21 (by simp) ?_
  (conv => whnf); repeat' (first
    | (refine And.intro ?_ ?_ <;> ((try intro h) <;> (try simp only [Bool.not_true, Bool.not_false] at h) <;> first | exact absurd h gF | exact absurd h.symm gF | conv => whnf))
    | (refine VL.drawS hTb hMix (by kernel_rfl) (by kernel_rfl) (by kernel_rfl) ?_; conv => whnf)
    | (refine Need.mk ?_; kernel_rfl) | (refine Need.mk ⟨rfl, ?_⟩; decide)
    | (refine VR.pure hTb rfl rfl (o_purN (c_implShapeOk cs hl ho) rfl rfl rfl gQ rfl) ?_; conv => whnf)
    | (refine DT.pure hTb rfl (o_purN (c_implShapeOk cs hl ho) rfl rfl rfl gQ rfl) ?_; conv => whnf)
    | (refine VR.pure hTb rfl rfl (o_purN (c_colAt cs s hl) rfl rfl rfl gQ rfl) ?_; conv => whnf)
    | (refine DT.pure hTb rfl (o_purN (c_colAt cs s hl) rfl rfl rfl gQ rfl) ?_; conv => whnf))
  all_goals simp_all [iS, shapeAt]
end Go.Vl

/- Laws of tables: how great a table is; the program's TableOk is the reference's. Contracts: tables in memory of their own: copied, marked, held. How great a table is, summed. The types of what is handed in, as leaves. Printed by our own gends.py. Laws: the columns of a table as they are: the program's are the reference's; what it gives back is its own. -/
import Derived.Test.YtdijjjgplhbkkaaGreatDoorJDh
import Derived.Test.YtdijjjgplhbkkaaGreatDoorJDj
import Derived.Test.YtdijjjgplhbkkaaGreatDoorWj
import Derived.Test.YtdijjjgplhbkkaaGreatDoorWk
import Derived.Test.YtdijjjgplhbkkaaGreatDoorJDa
set_option linter.unusedSimpArgs false
set_option linter.unusedVariables false

namespace Go.Vl
open Go Go.RowKit Go.Proofs
set_option maxRecDepth 100000
set_option linter.unusedSimpArgs false
set_option linter.unusedVariables false
set_option maxHeartbeats 8000000

theorem md_sm {t : VTable} (h : t.md) (h2 : t.first.length + t.changes.length ≤ 1048576) : t.sm :=
  ⟨⟨by omega, fun _ _ => trivial⟩, ⟨by omega, fun _ _ => trivial⟩, ⟨h.r, fun x hx => ⟨(h.rm x hx).1, fun _ _ => trivial⟩⟩⟩
end Go.Vl

namespace Go.Vl
open Go Go.RowKit Go.Proofs
set_option maxRecDepth 100000
set_option linter.unusedSimpArgs false
set_option linter.unusedVariables false
set_option maxHeartbeats 8000000

def encVRowN : VRow → List Leaf
  | ⟨id, ver, vals⟩ => [.g (.int .i64 id), .g (.int .i64 ver), .nst 37 3 (vals.map encVal)]
theorem unN_Val (v : Val) : unNs (encVal v) = encVal v := by obtain ⟨a, b, c⟩ := v; rfl
theorem unN_VRow (r : VRow) : unNs (encVRowN r) = encVRow r := by
  obtain ⟨id, ver, vals⟩ := r
  show [Leaf.g (.int .i64 id), Leaf.g (.int .i64 ver), Leaf.imm 3 (unNss (vals.map encVal))] = _
  rw [unNss_map, List.map_congr_left fun v _ => unN_Val v]; rfl
theorem unN_VRows (l : List VRow) : unNss (l.map encVRowN) = l.map encVRow := by rw [unNss_map, List.map_congr_left fun v _ => unN_VRow v]
theorem plainVals (l : List Val) : ∀ r ∈ l.map encVal, plain r = true := by
  intro r hr
  obtain ⟨v, _, rfl⟩ := List.mem_map.1 hr
  obtain ⟨a, b, c⟩ := v; rfl
abbrev rowS (r : VRow) : Slot := .agg [.g (.int .i64 r.id), .g (.int .i64 r.ver), .own 0 0 r.vals.length]
abbrev tabS (t : VTable) : Slot := .agg [.own 0 0 t.first.length, .own 1 0 t.changes.length, .own 2 0 t.rows.length, .g (.int .i64 t.next)]
abbrev tabO (t : VTable) : List Ob := [.arr 39 7 (t.first.map encCol), .arr 105 10 (t.changes.map encChange), .reg 35 3 (t.rows.map encVRowN) []]

section
variable {P : Program} {T : Tab} {S : St} {o : Oper}
/-- A store into such rows, that are things turned. -/
theorem o_store_regM (hT : TabOk P T) {t : TypeId} {A X : Operand} (ho : o.op = .store t A X) (hd0 : o.dst = none) {i : TI} (hi : T t = some i) {q r j E sz : Nat} {α : Type} {f : α → List Leaf} {l : List α} {c c' : α} {hs : List (Nat × Nat × Leaf)} {new : List Leaf} (hA : ev S A = .one (.elm q r j))
    (hq : S.obj q = some (.reg E sz (l.map f) hs)) (hr : l[r]? = some c) {s : Slot} (hX : ev S X = s) (hn : leaves s = some new) (hk : new.length = i.size ∧ j + i.size ≤ sz) (hno : ∀ k, j ≤ k → k < j + new.length → holeAt hs r k = none) (hc : regSt (f c) j new = f c') :
    OpL P S o { reads := [q], sets := [(q, .reg E sz ((l.set r c').map f) (holesOf r j new ++ hs))] } :=
  o_store_reg hT ho hd0 hi hA hq (row := f c) (by rw [List.getElem?_map, hr]; rfl) hX hn hk hno (by rw [hc, List.map_set])
/-- A cell of such rows read, that holds rows: they are taken out. -/
theorem o_load_outL (hT : TabOk P T) {t : TypeId} {A : Operand} (ho : o.op = .load t A) {i : TI} (hi : T t = some i) (hg : i.d.isAgg = false) {q r j v E sz : Nat} {rows : List (List Leaf)} {hs : List (Nat × Nat × Leaf)} {row : List Leaf} {E2 sz2 len : Nat} {rows2 : List (List Leaf)} (hA : ev S A = .one (.elm q r j))
    (hq : S.obj q = some (.reg E sz rows hs)) (hrow : rows[r]? = some row) (hl : row[j]? = some (.nst E2 sz2 rows2)) (hlen : rows2.length = len) (hh : holeAt hs r j = none) (hv : S.obj v = none) (hv1 : 100 ≤ v) {ob2 : Ob} (ho2 : ob2 = .reg E2 sz2 rows2 [] ∨ (ob2 = .arr E2 sz2 rows2 ∧ ∀ r ∈ rows2, plain r = true)) :
    OpL P S o { dst := .one (.own v 0 len), reads := [q], sets := [(q, .reg E sz rows ((r, j, .own v 0 len) :: hs)), (v, ob2)] } := by
  subst hlen
  exact o_load_out hT ho hi hg hA hq hrow hl hh hv hv1 ho2
end

theorem u_VRow (r : VRow) (hl : r.vals.length ≤ 1048576) : CallsV Tryz.prog 230 [.agg (encVRow r)] [] (funQ (rowS r) [] [.arr 37 3 (r.vals.map encVal)]) := by
  refine funF_walk hTb Tryz.func230 rfl rfl Tryz.ntmps230 (by simp) (by simp) ?_
  have uV := u_Vals r.vals ⟨hl, fun _ _ => trivial⟩
  (conv => whnf); repeat' (first
    | (refine And.intro ?_ ?_ <;> ((try intro h) <;> (try simp only [Bool.not_true, Bool.not_false, decide_eq_true_eq, decide_eq_false_iff_not, Int.not_lt, Int.not_le, gt_iff_lt, ge_iff_le] at h) <;> first | exact absurd h Bool.false_ne_true | exact absurd h.symm Bool.false_ne_true | conv => whnf))
    | (refine VL.drawS hTb hMix (by kernel_rfl) (by kernel_rfl) (by kernel_rfl) ?_; conv => whnf)
    | (refine Need.mk ?_; kernel_rfl) | (refine Need.mk ⟨rfl, ?_⟩; decide)
    | (refine VR.fun hTb rfl rfl (o_funN (uV) false [] (fun h => by cases h) (by simp) rfl rfl rfl rfl rfl ⟨rfl, rfl, rfl, rfl⟩ rfl rfl) ?_; conv => whnf)
    | (refine DT.fun hTb rfl (o_funN (uV) false [] (fun h => by cases h) (by simp) rfl rfl rfl rfl rfl ⟨rfl, rfl, rfl, rfl⟩ rfl rfl) rfl ?_; conv => whnf))
  exact endW [1048] rfl rfl rfl rfl rfl (LeS.refl _) rfl rfl
theorem u_VRows (l : List VRow) (hl : l.length ≤ 1048576) (hv : ∀ x ∈ l, x.vals.length ≤ 1048576) : CallsV Tryz.prog 216 [vrowsI l] [] (funQ (.one (.own 0 0 l.length)) [] [.reg 35 3 (l.map encVRowN) []]) := by
  refine funF_walk hTb Tryz.func216 rfl rfl Tryz.ntmps216 (by simp) (by simp) ?_
  (conv => whnf); repeat' (first | (refine And.intro ?_ ?_ <;> ((try intro h) <;> (try simp only [Bool.not_true, Bool.not_false] at h) <;> first | exact absurd h Bool.false_ne_true | exact absurd h.symm Bool.false_ne_true | conv => whnf)) | (refine Need.mk ?_; kernel_rfl) | (refine Need.mk ⟨rfl, ?_⟩; decide))
  refine VR.op hTb rfl rfl (o_make (q := 107) hTb rfl rfl rfl rfl rfl rfl (by decide) (by show 40 * _ ≤ _; simp; omega) (by unfold maxLen; simp; omega) rfl (by omega)) rfl ?_
  (conv => whnf); repeat' (first | (refine And.intro ?_ ?_ <;> ((try intro h) <;> (try simp only [Bool.not_true, Bool.not_false] at h) <;> first | exact absurd h Bool.false_ne_true | exact absurd h.symm Bool.false_ne_true | conv => whnf)) | (refine Need.mk ?_; kernel_rfl) | (refine Need.mk ⟨rfl, ?_⟩; decide))
  refine VL.loopI hTb (fun i => i ≤ l.length) (fun i => ⟨[(0, vrowsI l), (3, .one (.own 107 0 (l.map encVRow).length)), (4, iS i)], [(107, .reg 35 3 (trG encVRowN [.g (.int .i64 0), .g (.int .i64 0), .g (.slice none 0 0)] l i) [])], []⟩) (fun i => l.length - i) 0 (Nat.zero_le _)
    ((wk_toReg _ (q := 107) rfl).trans (wk_to [(107, 107)] rfl rfl rfl ⟨rfl, rfl, rfl, trivial⟩ ⟨rfl, ⟨_, rfl, ?_⟩, trivial⟩)) (fun i hi => ?_)
  · rw [trG_zero, ← List.length_map (f := encVRow)]; rfl
  (conv => whnf)
  refine And.intro (fun h2 => ?_) (fun h2 => ?_)
  · have hlt : i < l.length := by simpa using h2
    have hrow := rowVRow hlt
    have hz := trG_at (enc := encVRowN) (z := [.g (.int .i64 0), .g (.int .i64 0), .g (.slice none 0 0)]) hlt
    have hc := u_VRow l[i] (hv _ (List.getElem_mem hlt))
    have hset := trG_set (enc := encVRowN) (z := [.g (.int .i64 0), .g (.int .i64 0), .g (.slice none 0 0)]) hlt
    generalize l[i] = ci at hrow hc hset
    (conv => whnf); repeat' (first
    | (refine And.intro ?_ ?_ <;> ((try intro h) <;> (try simp only [Bool.not_true, Bool.not_false, decide_eq_true_eq, decide_eq_false_iff_not, Int.not_lt, Int.not_le, gt_iff_lt, ge_iff_le] at h) <;> first | exact absurd h Bool.false_ne_true | exact absurd h.symm Bool.false_ne_true | conv => whnf))
    | (refine VL.drawS hTb hMix (by kernel_rfl) (by kernel_rfl) (by kernel_rfl) ?_; conv => whnf)
    | (refine Need.mk ?_; kernel_rfl) | (refine Need.mk ⟨rfl, ?_⟩; decide)
    | (refine VR.op hTb rfl rfl (o_index_imm hTb rfl rfl rfl rfl rfl rfl rfl (by omega) (hrow)) rfl ?_; conv => whnf)
    | (refine DT.op hTb rfl (o_index_imm hTb rfl rfl rfl rfl rfl rfl rfl (by omega) (hrow)) rfl ?_; conv => whnf)
    | (refine VR.fun hTb rfl rfl (o_funN (hc) false [] (fun h => by cases h) (by simp) rfl rfl rfl rfl rfl ⟨rfl, rfl, rfl, rfl⟩ rfl rfl) ?_; conv => whnf)
    | (refine DT.fun hTb rfl (o_funN (hc) false [] (fun h => by cases h) (by simp) rfl rfl rfl rfl rfl ⟨rfl, rfl, rfl, rfl⟩ rfl rfl) rfl ?_; conv => whnf)
    | (refine Need.mk ?_; exact ⟨rfl, by omega, by first | (simp; done) | (simp; omega)⟩)
    | (refine VR.op hTb rfl rfl (o_store_reg hTb rfl rfl rfl rfl rfl hz rfl rfl ⟨rfl, by decide⟩ (fun _ _ _ => rfl) rfl) rfl ?_; conv => whnf))
    refine ⟨i + 1, hlt, by omega, (wk_putBack _ (q := 107) (r := 0 + ((i : Nat) : Int).toNat) (j := 2) (v := 1080) (rows' := trG encVRowN [.g (.int .i64 0), .g (.int .i64 0), .g (.slice none 0 0)] l (i + 1)) rfl rfl (.inl rfl) (gset hz) rfl (by simp) (by decide) rfl ?_ rfl).trans (wk_to [(107, 107)] rfl rfl rfl ⟨rfl, rfl, congrArg (fun x => Slot.one (.g (.int .i64 x))) (wrap64' (by unfold maxLen; omega)), trivial⟩ ⟨rfl, ⟨_, rfl, rfl⟩, trivial⟩)⟩
    rw [List.set_set, Int.toNat_natCast, Nat.zero_add]
    exact hset
  · (conv => whnf)
    have : i = l.length := by simp at h2; omega
    subst this
    exact endW [107] rfl rfl rfl rfl rfl (LeS.of_eq (congrArg (fun n => Slot.one (.own 0 0 n)) (by simp))) rfl (congrArg (fun r => [Ob.reg 35 3 r []]) trG_all)
theorem u_VTable (t : VTable) (hm : t.md) (hs : t.first.length + t.changes.length ≤ 1048576) : CallsV Tryz.prog 193 [.agg (encVTable t)] [] (funQ (tabS t) [] (tabO t)) := by
  refine funF_walk hTb Tryz.func193 rfl rfl Tryz.ntmps193 (by simp) (by simp) ?_
  have uC := u_Cols t.first ⟨by omega, fun _ _ => trivial⟩
  have uH := u_Changes t.changes ⟨by omega, fun _ _ => trivial⟩
  have uR := u_VRows t.rows hm.r fun x hx => (hm.rm x hx).1
  (conv => whnf); repeat' (first
    | (refine And.intro ?_ ?_ <;> ((try intro h) <;> (try simp only [Bool.not_true, Bool.not_false, decide_eq_true_eq, decide_eq_false_iff_not, Int.not_lt, Int.not_le, gt_iff_lt, ge_iff_le] at h) <;> first | exact absurd h Bool.false_ne_true | exact absurd h.symm Bool.false_ne_true | conv => whnf))
    | (refine VL.drawS hTb hMix (by kernel_rfl) (by kernel_rfl) (by kernel_rfl) ?_; conv => whnf)
    | (refine Need.mk ?_; kernel_rfl) | (refine Need.mk ⟨rfl, ?_⟩; decide)
    | (refine VR.fun hTb rfl rfl (o_funN (uC) false [] (fun h => by cases h) (by simp) rfl rfl rfl rfl rfl ⟨rfl, rfl, rfl, rfl⟩ rfl rfl) ?_; conv => whnf)
    | (refine DT.fun hTb rfl (o_funN (uC) false [] (fun h => by cases h) (by simp) rfl rfl rfl rfl rfl ⟨rfl, rfl, rfl, rfl⟩ rfl rfl) rfl ?_; conv => whnf)
    | (refine VR.fun hTb rfl rfl (o_funN (uH) false [] (fun h => by cases h) (by simp) rfl rfl rfl rfl rfl ⟨rfl, rfl, rfl, rfl⟩ rfl rfl) ?_; conv => whnf)
    | (refine DT.fun hTb rfl (o_funN (uH) false [] (fun h => by cases h) (by simp) rfl rfl rfl rfl rfl ⟨rfl, rfl, rfl, rfl⟩ rfl rfl) rfl ?_; conv => whnf)
    | (refine VR.fun hTb rfl rfl (o_funN (uR) false [] (fun h => by cases h) (by simp) rfl rfl rfl rfl rfl ⟨rfl, rfl, rfl, rfl⟩ rfl rfl) ?_; conv => whnf)
    | (refine DT.fun hTb rfl (o_funN (uR) false [] (fun h => by cases h) (by simp) rfl rfl rfl rfl rfl ⟨rfl, rfl, rfl, rfl⟩ rfl rfl) rfl ?_; conv => whnf))
  exact endW [1024, 1040, 1056] rfl rfl rfl rfl rfl (LeS.refl _) rfl rfl
def rowsW : List Nat → Nat
  | [] => 0
  | n :: ns => 2 + 3 * n + rowsW ns
def mkRow (n k : Nat) : VRow := ⟨k, ((k + 1 : Nat) : Int), mkVals n (k + 2)⟩
def mkRows : List Nat → Nat → List VRow
  | [], _ => []
  | n :: ns, k => mkRow n k :: mkRows ns (k + (2 + 3 * n))
theorem rowsW_snoc (n : Nat) : ∀ ns : List Nat, rowsW (ns ++ [n]) = rowsW ns + (2 + 3 * n)
  | [] => by simp [rowsW]
  | m :: ns => by simp only [List.cons_append, rowsW, rowsW_snoc n ns]; omega
theorem mkRows_snoc (n : Nat) : ∀ (ns : List Nat) (k : Nat), mkRows (ns ++ [n]) k = mkRows ns k ++ [mkRow n (k + rowsW ns)]
  | [], k => by simp [mkRows, rowsW]
  | m :: ns, k => by
    simp only [List.cons_append, mkRows, mkRows_snoc n ns, rowsW]
    rw [show k + (2 + 3 * m) + rowsW ns = k + (2 + 3 * m + rowsW ns) by omega]
theorem mkRows_len : ∀ (ns : List Nat) (k : Nat), (mkRows ns k).length = ns.length
  | [], k => rfl
  | n :: ns, k => by simp [mkRows, mkRows_len ns]
theorem rowsW_take_le : ∀ (ns : List Nat) (i : Nat), rowsW (ns.take i) ≤ rowsW ns
  | [], i => by simp
  | n :: ns, 0 => by simp [rowsW]
  | n :: ns, i + 1 => by simp only [List.take_succ_cons, rowsW]; have := rowsW_take_le ns i; omega
abbrev lens (l : List VRow) : List Nat := l.map fun r => r.vals.length
theorem c_markRows (l : List VRow) (k : Nat) (hl : l.length ≤ 3000000) (hv : ∀ x ∈ l, x.vals.length ≤ 3000000) (hk1 : 1 ≤ k) (hk : k + rowsW (lens l) ≤ 1000000000) : CallsV Tryz.prog 170 [.one (.own 0 0 l.length), iS k] [.reg 35 3 (l.map encVRowN) []]
    (funQ (iS ((k + rowsW (lens l) : Nat) : Int)) [some (.reg 35 3 ((mkRows (lens l) k).map encVRowN) [])] []) := by
  refine funF_walk hTb Tryz.func170 rfl rfl Tryz.ntmps170 (by simp) (by simp) ?_
  (conv => whnf); repeat' (first | (refine And.intro ?_ ?_ <;> ((try intro h) <;> (try simp only [Bool.not_true, Bool.not_false] at h) <;> first | exact absurd h Bool.false_ne_true | exact absurd h.symm Bool.false_ne_true | conv => whnf)) | (refine Need.mk ?_; kernel_rfl) | (refine Need.mk ⟨rfl, ?_⟩; decide))
  refine VL.loopI hTb (fun i => i ≤ l.length) (fun i => ⟨[(0, .one (.own 0 0 l.length)), (1, iS ((k + rowsW (lens (l.take i)) : Nat) : Int)), (5, iS i)], [(0, .reg 35 3 ((mkRows (lens (l.take i)) k ++ l.drop i).map encVRowN) [])], []⟩) (fun i => l.length - i) 0 (Nat.zero_le _)
    (wk_to [(0, 0)] rfl rfl rfl ⟨rfl, rfl, rfl, trivial⟩ ⟨rfl, ⟨_, rfl, rfl⟩, trivial⟩) (fun i hi => ?_)
  (conv => whnf)
  refine And.intro (fun h2 => ?_) (fun h2 => ?_)
  · have hlt : i < l.length := by simpa using h2
    have hln : (lens (l.take i)).length = i := by simp; omega
    have hML : (mkRows (lens (l.take i)) k).length = i := by rw [mkRows_len, hln]
    have hat : (mkRows (lens (l.take i)) k ++ l.drop i)[i]? = some l[i] := by rw [List.getElem?_append_right (by omega), hML]; simp [hlt]
    have hW := rowsW_take_le (lens l) (i + 1)
    have ht1 : lens (l.take (i + 1)) = lens (l.take i) ++ [l[i].vals.length] := by unfold lens; rw [List.take_succ_eq_append_getElem hlt, List.map_append]; rfl
    have hst : (mkRows (lens (l.take i)) k ++ l.drop i).set i (mkRow l[i].vals.length (k + rowsW (lens (l.take i)))) = mkRows (lens (l.take (i + 1))) k ++ l.drop (i + 1) := by
      rw [ht1, mkRows_snoc, List.set_append_right _ _ (by omega), hML, Nat.sub_self, List.drop_eq_getElem_cons hlt, List.set_cons_zero, List.append_assoc]; rfl
    have hK1 : k + rowsW (lens (l.take (i + 1))) = k + rowsW (lens (l.take i)) + (2 + 3 * l[i].vals.length) := by rw [ht1, rowsW_snoc]; omega
    have hKle : k + rowsW (lens (l.take (i + 1))) ≤ 1000000000 := by
      have : lens (l.take (i + 1)) = (lens l).take (i + 1) := by simp
      rw [this]; omega
    have hvl := hv _ (List.getElem_mem hlt)
    generalize mkRows (lens (l.take i)) k ++ l.drop i = L at hat hst
    obtain ⟨K, hK⟩ : ∃ K, k + rowsW (lens (l.take i)) = K := ⟨_, rfl⟩
    rw [hK] at hst hK1 ⊢
    rw [hK1] at hKle
    generalize l[i] = ci at hat hst hK1 hKle hvl
    have w1 : IntKind.i64.wrap ((K : Int) + 1) = ((K + 1 : Nat) : Int) := by rw [IntKind.wrap_i64]; omega
    have w2 : IntKind.i64.wrap (((K + 1 : Nat) : Int) + 1) = ((K + 2 : Nat) : Int) := by rw [IntKind.wrap_i64]; omega
    have mV := c_markVals ci.vals (K + 2) hvl (by omega) (by omega)
    rw [← w2, ← w1] at mV
    have hat : L[0 + ((i : Nat) : Int).toNat]? = some ci := by rw [Int.toNat_natCast, Nat.zero_add]; exact hat
    (conv => whnf); repeat' (first
    | (refine And.intro ?_ ?_ <;> ((try intro h) <;> (try simp only [Bool.not_true, Bool.not_false, decide_eq_true_eq, decide_eq_false_iff_not, Int.not_lt, Int.not_le, gt_iff_lt, ge_iff_le] at h) <;> first | exact absurd h Bool.false_ne_true | exact absurd h.symm Bool.false_ne_true | conv => whnf))
    | (refine VL.drawS hTb hMix (by kernel_rfl) (by kernel_rfl) (by kernel_rfl) ?_; conv => whnf)
    | (refine Need.mk ?_; kernel_rfl) | (refine Need.mk ⟨rfl, ?_⟩; decide)
    | (refine Need.mk ?_; exact ⟨rfl, by omega, by omega⟩)
    | (refine VR.op hTb rfl rfl (o_store_regM hTb rfl rfl rfl rfl rfl hat rfl rfl ⟨rfl, by decide⟩ (fun _ _ _ => rfl) (c' := ⟨_, _, _⟩) rfl) rfl ?_; conv => whnf)
    | (refine VR.op hTb rfl rfl (o_store_regM hTb rfl rfl rfl rfl rfl (gset hat) rfl rfl ⟨rfl, by decide⟩ (fun _ _ _ => rfl) (c' := ⟨_, _, _⟩) rfl) rfl ?_; conv => whnf)
    | (refine VR.op hTb rfl rfl (o_load_outL (v := 130) (len := ci.vals.length) hTb rfl rfl rfl rfl rfl (by rw [List.getElem?_map, gset (gset hat)]; rfl) rfl (by simp) rfl rfl (by decide) (.inr ⟨rfl, plainVals _⟩)) rfl ?_; conv => whnf)
    | (refine VR.fun hTb rfl rfl (o_funN (mV) false [130] (fun h => by cases h) (by simp) rfl rfl rfl rfl rfl ⟨rfl, rfl, rfl, rfl⟩ rfl rfl) ?_; conv => whnf)
    | (refine DT.fun hTb rfl (o_funN (mV) false [130] (fun h => by cases h) (by simp) rfl rfl rfl rfl rfl ⟨rfl, rfl, rfl, rfl⟩ rfl rfl) rfl ?_; conv => whnf))
    refine ⟨i + 1, hlt, by omega, (wk_putBack _ (q := 0) (r := 0 + ((i : Nat) : Int).toNat) (j := 2) (v := 130) (rows' := (mkRows (lens (l.take (i + 1))) k ++ l.drop (i + 1)).map encVRowN) rfl rfl (.inl rfl) (by rw [List.getElem?_map, gset (gset hat)]; rfl) rfl (by simp [mkVals]) (by decide) rfl ?_ rfl).trans (wk_to [(0, 0)] rfl rfl rfl ⟨rfl, congrArg (fun x => Slot.one (.g (.int .i64 x))) (by rw [hK1]; omega), congrArg (fun x => Slot.one (.g (.int .i64 x))) (wrap64' (by unfold maxLen; omega)), trivial⟩ ⟨rfl, ⟨_, rfl, rfl⟩, trivial⟩)⟩
    have e : (encVRowN ⟨K, IntKind.i64.wrap ((K : Int) + 1), ci.vals⟩).set 2 (.nst 37 3 ((mkVals ci.vals.length (K + 2)).map encVal)) = encVRowN (mkRow ci.vals.length K) := by rw [w1]; rfl
    rw [← hst, e, ← List.map_set, List.set_set, List.set_set, Int.toNat_natCast, Nat.zero_add]
  · have hie : i = l.length := by simp at h2; omega
    subst hie
    (conv => whnf)
    exact endW [] rfl rfl rfl rfl rfl (LeS.of_eq (by rw [List.take_length]; rfl)) (by rw [List.take_length, List.drop_length, List.append_nil]; rfl) rfl
def tabW (n c : Nat) (ns : List Nat) : Nat := 7 * n + 10 * c + rowsW ns
end Go.Vl

namespace Go.Vl
open Go Go.RowKit Go.Proofs
set_option maxRecDepth 100000
set_option linter.unusedSimpArgs false
set_option linter.unusedVariables false
set_option maxHeartbeats 8000000

theorem y_ValsN (l : List Val) (hl : l.length ≤ maxLen) (hv : ∀ x ∈ l, x.ok) (n : Int) (h0 : 0 ≤ n) (h1 : n ≤ 1048576) : CallsV Tryz.prog 238 [valsI l, iS n] [] (relQ (fun y : Int => y ≤ n ∧ (0 ≤ y → y + l.length ≤ n ∧ ∀ x ∈ l, x.md)) iS (fun _ => []) (fun _ => [])) := by
  refine funF_walk hTb Tryz.func238 rfl rfl Tryz.ntmps238 (by simp) (by simp) ?_
  have e1 : IntKind.i64.wrap (n - ((l.map encVal).length : Int)) = n - l.length := by rw [List.length_map]; exact wsub h0 h1 hl
  (conv => whnf); repeat' (first | (refine And.intro ?_ ?_ <;> ((try intro h) <;> (try simp only [Bool.not_true, Bool.not_false] at h) <;> first | exact absurd h Bool.false_ne_true | exact absurd h.symm Bool.false_ne_true | conv => whnf)) | (refine Need.mk ?_; kernel_rfl) | (refine Need.mk ⟨rfl, ?_⟩; decide))
  · rw [e1] at h
    refine endR [] _ rfl rfl rfl rfl rfl (LeS.refl _) rfl rfl ⟨by omega, fun hp => by omega⟩
  rw [e1] at h ⊢
  have h2 : (l.length : Int) ≤ n := by simp at h; omega
  refine VL.loopI hTb (fun (x : Nat × Int) => x.1 ≤ l.length ∧ 0 ≤ x.2 ∧ x.2 + l.length ≤ n ∧ ∀ j (hj : j < l.length), j < x.1 → (l[j]).md) (fun x => ⟨[(0, valsI l), (5, iS x.1), (1, iS x.2)], [], []⟩) (fun x => l.length - x.1) (0, n - l.length) ⟨Nat.zero_le _, by simp only; omega, by simp only; omega, fun j _ hj => absurd hj (Nat.not_lt_zero _)⟩
    (wk_to [] rfl rfl rfl ⟨rfl, rfl, rfl, trivial⟩ trivial) (fun x hx => ?_)
  obtain ⟨i, y0⟩ := x
  obtain ⟨hi, k0, k1, hs⟩ := hx
  simp only at hi k0 k1 hs
  (conv => whnf)
  refine And.intro (fun h3 => ?_) (fun h3 => ?_)
  · have hlt : i < l.length := by simpa using h3
    have hrow := rowVal hlt
    have hc := y_Val l[i] (hv _ (List.getElem_mem hlt)) y0 k0 (by omega)
    generalize hci : l[i] = ci at hrow hc
    obtain ⟨k, n, t⟩ := ci
    (conv => whnf); repeat' (first
    | (refine And.intro ?_ ?_ <;> ((try intro h) <;> (try simp only [Bool.not_true, Bool.not_false, decide_eq_true_eq, decide_eq_false_iff_not, Int.not_lt, Int.not_le, gt_iff_lt, ge_iff_le] at h) <;> first | exact absurd h Bool.false_ne_true | exact absurd h.symm Bool.false_ne_true | conv => whnf))
    | (refine VL.drawS hTb hMix (by kernel_rfl) (by kernel_rfl) (by kernel_rfl) ?_; conv => whnf)
    | (refine Need.mk ?_; kernel_rfl) | (refine Need.mk ⟨rfl, ?_⟩; decide)
    | (refine VR.op hTb rfl rfl (o_index_imm hTb rfl rfl rfl rfl rfl rfl rfl (by omega) (hrow)) rfl ?_; conv => whnf)
    | (refine DT.op hTb rfl (o_index_imm hTb rfl rfl rfl rfl rfl rfl rfl (by omega) (hrow)) rfl ?_; conv => whnf)
    | (refine VR.rel hTb rfl rfl (o_relN (hc) false [] (fun _ _ => ⟨by simp, fun h => by cases h⟩) rfl rfl rfl rfl rfl ⟨rfl, rfl, rfl, rfl⟩ rfl rfl) ?_; rintro y1 hy1; (try simp only at hy1); conv => whnf)
    | (refine DT.rel hTb rfl (o_relN (hc) false [] (fun _ _ => ⟨by simp, fun h => by cases h⟩) rfl rfl rfl rfl rfl ⟨rfl, rfl, rfl, rfl⟩ rfl rfl) [] (by kernel_rfl) (by kernel_rfl) ?_; rintro y1 hy1; (try simp only at hy1); refine And.intro rfl (And.intro rfl ?_); conv => whnf))
    · refine endR [] _ rfl rfl rfl rfl rfl (LeS.refl _) rfl rfl ⟨by omega, fun hp => by omega⟩
    · have h4 : 0 ≤ y1 := by first | omega | (simp at h; omega)
      refine ⟨(i + 1, y1), ⟨hlt, h4, by simp only; omega, fun j hj hj2 => ?_⟩, by show l.length - (i + 1) < l.length - i; omega, wk_to [] rfl rfl rfl ⟨rfl, congrArg (fun x => Slot.one (.g (.int .i64 x))) (wrap64' (by unfold maxLen; omega)), rfl, trivial⟩ trivial⟩
      by_cases hji : j = i
      · subst hji; rw [hci]; exact hy1.2 h4
      · exact hs j hj (by omega)
  · (conv => whnf)
    have hie : i = l.length := by simp at h3; omega
    subst hie
    refine endR [] _ rfl rfl rfl rfl rfl (LeS.refl _) rfl rfl ⟨by omega, fun hp => ⟨k1, fun x hx => ?_⟩⟩
    obtain ⟨j, hj, rfl⟩ := List.getElem_of_mem hx
    exact hs j hj hj
theorem y_VRowN (v : VRow) (hv : v.ok) (n : Int) (h0 : 0 ≤ n) (h1 : n ≤ 1048576) : CallsV Tryz.prog 227 [.agg (encVRow v), iS n] [] (relQ (fun y : Int => y ≤ n ∧ (0 ≤ y → y + v.vals.length ≤ n ∧ mdVals v.vals)) iS (fun _ => []) (fun _ => [])) := by
  refine funF_walk hTb Tryz.func227 rfl rfl Tryz.ntmps227 (by simp) (by simp) ?_
  (conv => whnf); repeat' (first
    | (refine And.intro ?_ ?_ <;> ((try intro h) <;> (try simp only [Bool.not_true, Bool.not_false, decide_eq_true_eq, decide_eq_false_iff_not, Int.not_lt, Int.not_le, gt_iff_lt, ge_iff_le] at h) <;> first | exact absurd h Bool.false_ne_true | exact absurd h.symm Bool.false_ne_true | conv => whnf))
    | (refine VL.drawS hTb hMix (by kernel_rfl) (by kernel_rfl) (by kernel_rfl) ?_; conv => whnf)
    | (refine Need.mk ?_; kernel_rfl) | (refine Need.mk ⟨rfl, ?_⟩; decide)
    | (refine VR.rel hTb rfl rfl (o_relN (y_ValsN v.vals hv.1 hv.2 n h0 h1) false [] (fun _ _ => ⟨by simp, fun h => by cases h⟩) rfl rfl rfl rfl rfl ⟨rfl, rfl, rfl, rfl⟩ rfl rfl) ?_; rintro y1 hy1; (try simp only at hy1); conv => whnf)
    | (refine DT.rel hTb rfl (o_relN (y_ValsN v.vals hv.1 hv.2 n h0 h1) false [] (fun _ _ => ⟨by simp, fun h => by cases h⟩) rfl rfl rfl rfl rfl ⟨rfl, rfl, rfl, rfl⟩ rfl rfl) [] (by kernel_rfl) (by kernel_rfl) ?_; rintro y1 hy1; (try simp only at hy1); refine And.intro rfl (And.intro rfl ?_); conv => whnf))
  · exact endR [] (-1) rfl rfl rfl rfl rfl (LeS.refl _) rfl rfl ⟨by omega, fun hp => by omega⟩
  · exact endR [] _ rfl rfl rfl rfl rfl (LeS.refl _) rfl rfl ⟨hy1.1, fun hp => hy1.2 hp⟩
theorem y_VRowsN (l : List VRow) (hl : l.length ≤ maxLen) (hv : ∀ x ∈ l, x.ok) (n : Int) (h0 : 0 ≤ n) (h1 : n ≤ 1048576) : CallsV Tryz.prog 213 [vrowsI l, iS n] [] (relQ (fun y : Int => y ≤ n ∧ (0 ≤ y → (3 * y + rowsW (lens l) ≤ 3 * n ∧ y + l.length ≤ n) ∧ ∀ x ∈ l, x.vals.length ≤ 1048576 ∧ mdVals x.vals)) iS (fun _ => []) (fun _ => [])) := by
  refine funF_walk hTb Tryz.func213 rfl rfl Tryz.ntmps213 (by simp) (by simp) ?_
  have e1 : IntKind.i64.wrap (n - ((l.map encVRow).length : Int)) = n - l.length := by rw [List.length_map]; exact wsub h0 h1 hl
  (conv => whnf); repeat' (first | (refine And.intro ?_ ?_ <;> ((try intro h) <;> (try simp only [Bool.not_true, Bool.not_false] at h) <;> first | exact absurd h Bool.false_ne_true | exact absurd h.symm Bool.false_ne_true | conv => whnf)) | (refine Need.mk ?_; kernel_rfl) | (refine Need.mk ⟨rfl, ?_⟩; decide))
  · rw [e1] at h
    refine endR [] _ rfl rfl rfl rfl rfl (LeS.refl _) rfl rfl ⟨by omega, fun hp => by omega⟩
  rw [e1] at h ⊢
  have h2 : (l.length : Int) ≤ n := by simp at h; omega
  refine VL.loopI hTb (fun (x : Nat × Int) => x.1 ≤ l.length ∧ 0 ≤ x.2 ∧ (x.2 + l.length ≤ n ∧ 3 * x.2 + 3 * l.length + (rowsW (lens (l.take x.1)) : Nat) ≤ 3 * n + 2 * x.1) ∧ ∀ j (hj : j < l.length), j < x.1 → (l[j]).vals.length ≤ 1048576 ∧ mdVals (l[j]).vals) (fun x => ⟨[(0, vrowsI l), (5, iS x.1), (1, iS x.2)], [], []⟩) (fun x => l.length - x.1) (0, n - l.length) ⟨Nat.zero_le _, by simp only; omega, ⟨by simp only; omega, by simp only [List.take_zero, lens, List.map_nil, rowsW]; omega⟩, fun j _ hj => absurd hj (Nat.not_lt_zero _)⟩
    (wk_to [] rfl rfl rfl ⟨rfl, rfl, rfl, trivial⟩ trivial) (fun x hx => ?_)
  obtain ⟨i, y0⟩ := x
  obtain ⟨hi, k0, k1, hs⟩ := hx
  simp only at hi k0 k1 hs
  (conv => whnf)
  refine And.intro (fun h3 => ?_) (fun h3 => ?_)
  · have hlt : i < l.length := by simpa using h3
    have hrow := rowVRow hlt
    have hc := y_VRowN l[i] (hv _ (List.getElem_mem hlt)) y0 k0 (by omega)
    have hw : rowsW (lens (l.take (i + 1))) = rowsW (lens (l.take i)) + (2 + 3 * l[i].vals.length) := by
      unfold lens
      rw [List.take_succ_eq_append_getElem hlt, List.map_append]
      exact rowsW_snoc _ _
    generalize hci : l[i] = ci at hrow hc hw
    (conv => whnf); repeat' (first
    | (refine And.intro ?_ ?_ <;> ((try intro h) <;> (try simp only [Bool.not_true, Bool.not_false, decide_eq_true_eq, decide_eq_false_iff_not, Int.not_lt, Int.not_le, gt_iff_lt, ge_iff_le] at h) <;> first | exact absurd h Bool.false_ne_true | exact absurd h.symm Bool.false_ne_true | conv => whnf))
    | (refine VL.drawS hTb hMix (by kernel_rfl) (by kernel_rfl) (by kernel_rfl) ?_; conv => whnf)
    | (refine Need.mk ?_; kernel_rfl) | (refine Need.mk ⟨rfl, ?_⟩; decide)
    | (refine VR.op hTb rfl rfl (o_index_imm hTb rfl rfl rfl rfl rfl rfl rfl (by omega) (hrow)) rfl ?_; conv => whnf)
    | (refine DT.op hTb rfl (o_index_imm hTb rfl rfl rfl rfl rfl rfl rfl (by omega) (hrow)) rfl ?_; conv => whnf)
    | (refine VR.rel hTb rfl rfl (o_relN (hc) false [] (fun _ _ => ⟨by simp, fun h => by cases h⟩) rfl rfl rfl rfl rfl ⟨rfl, rfl, rfl, rfl⟩ rfl rfl) ?_; rintro y1 hy1; (try simp only at hy1); conv => whnf)
    | (refine DT.rel hTb rfl (o_relN (hc) false [] (fun _ _ => ⟨by simp, fun h => by cases h⟩) rfl rfl rfl rfl rfl ⟨rfl, rfl, rfl, rfl⟩ rfl rfl) [] (by kernel_rfl) (by kernel_rfl) ?_; rintro y1 hy1; (try simp only at hy1); refine And.intro rfl (And.intro rfl ?_); conv => whnf))
    · refine endR [] _ rfl rfl rfl rfl rfl (LeS.refl _) rfl rfl ⟨by omega, fun hp => by omega⟩
    · have h4 : 0 ≤ y1 := by first | omega | (simp at h; omega)
      refine ⟨(i + 1, y1), ⟨hlt, h4, (by have h5 := hy1.2 h4; simp only [hw]; omega), fun j hj hj2 => ?_⟩, by show l.length - (i + 1) < l.length - i; omega, wk_to [] rfl rfl rfl ⟨rfl, congrArg (fun x => Slot.one (.g (.int .i64 x))) (wrap64' (by unfold maxLen; omega)), rfl, trivial⟩ trivial⟩
      by_cases hji : j = i
      · subst hji; rw [hci]; exact ⟨by have h5 := hy1.2 h4; omega, (hy1.2 h4).2⟩
      · exact hs j hj (by omega)
  · (conv => whnf)
    have hie : i = l.length := by simp at h3; omega
    subst hie
    refine endR [] _ rfl rfl rfl rfl rfl (LeS.refl _) rfl rfl ⟨by omega, fun hp => ⟨⟨by rw [List.take_length] at k1; omega, k1.1⟩, fun x hx => ?_⟩⟩
    obtain ⟨j, hj, rfl⟩ := List.getElem_of_mem hx
    exact hs j hj hj
end Go.Vl

namespace Go.Vl
open Go Go.RowKit Go.Proofs
set_option maxRecDepth 100000
set_option linter.unusedSimpArgs false
set_option linter.unusedVariables false
theorem rows_of {α : Type} {enc : α → List Leaf} {ok : α → Prop} : ∀ {rows : List (List Leaf)}, (∀ r ∈ rows, ∃ v : α, r = enc v ∧ ok v) → ∃ l : List α, rows = l.map enc ∧ ∀ v ∈ l, ok v
  | [], _ => ⟨[], rfl, by simp⟩
  | r :: rows, h => by
    obtain ⟨v, rfl, hv⟩ := h r (by simp)
    obtain ⟨l, rfl, hl⟩ := rows_of (rows := rows) fun r hr => h r (by simp [hr])
    exact ⟨v :: l, rfl, by simpa using ⟨hv, hl⟩⟩
theorem w_Val {m : Nat} {ls : List Leaf} (h : WT Tryz.prog (m + 2) 239 ls) : ∃ v : Val, ls = encVal v ∧ v.ok := by
  have key : ∀ {f0 f1 f2 : Field}, Tryz.prog.underlying 239 = some (.struct #[f0, f1, f2]) → Tryz.prog.cellsOf 239 = 3 → f0.offset = 0 → f1.offset = 1 → f2.offset = 2 → Tryz.prog.cellsOf f0.type = 1 → Tryz.prog.cellsOf f1.type = 1 → Tryz.prog.cellsOf f2.type = 1 →
      ∃ x0 x1 x2, ls = [x0, x1, x2] ∧ WT Tryz.prog (m + 1) f0.type [x0] ∧ WT Tryz.prog (m + 1) f1.type [x1] ∧ WT Tryz.prog (m + 1) f2.type [x2] := by
    intro f0 f1 f2 hu hc o0 o1 o2 s0 s1 s2
    obtain ⟨hl, hf⟩ := wt_struct hu h
    rw [hc] at hl
    match ls, hl with
    | [x0, x1, x2], _ =>
      have a0 := hf f0 (by simp)
      rw [o0, s0] at a0
      have a1 := hf f1 (by simp)
      rw [o1, s1] at a1
      have a2 := hf f2 (by simp)
      rw [o2, s2] at a2
      exact ⟨x0, x1, x2, rfl, a0, a1, a2⟩
  obtain ⟨x0, x1, x2, rfl, h0, h1, h2⟩ := key Tryz.underlying239 (by kernel_rfl) rfl rfl rfl (by kernel_rfl) (by kernel_rfl) (by kernel_rfl)
  obtain ⟨v0, e0, _⟩ := wt_int Tryz.underlying3 h0
  cases e0
  obtain ⟨v1, e1, _⟩ := wt_int Tryz.underlying3 h1
  cases e1
  obtain ⟨v2, e2, k2⟩ := wt_string Tryz.underlying9 h2
  cases e2
  exact ⟨⟨v0, v1, v2⟩, rfl, k2⟩
theorem w_Vals {m : Nat} {ls : List Leaf} (h : WT Tryz.prog (m + 3) 246 ls) : ∃ l : List Val, ls = [.imm 3 (l.map encVal)] ∧ l.length ≤ maxLen ∧ ∀ x ∈ l, x.ok := by
  obtain ⟨rows, e, hl, hr⟩ := wt_slice Tryz.underlying246 h
  rw [show Tryz.prog.cellsOf 239 = 3 by kernel_rfl] at e
  obtain ⟨l, rfl, hok⟩ := rows_of (enc := encVal) (ok := Val.ok) fun r hrm => w_Val (hr r hrm).2
  exact ⟨l, e, by simpa using hl, hok⟩
theorem w_Col {m : Nat} {ls : List Leaf} (h : WT Tryz.prog (m + 3) 241 ls) : ∃ v : Col, ls = encCol v ∧ v.ok := by
  have key : ∀ {f0 f1 f2 f3 f4 : Field}, Tryz.prog.underlying 241 = some (.struct #[f0, f1, f2, f3, f4]) → Tryz.prog.cellsOf 241 = 7 → f0.offset = 0 → f1.offset = 1 → f2.offset = 2 → f3.offset = 3 → f4.offset = 4 → Tryz.prog.cellsOf f0.type = 1 → Tryz.prog.cellsOf f1.type = 1 → Tryz.prog.cellsOf f2.type = 1 → Tryz.prog.cellsOf f3.type = 1 → Tryz.prog.cellsOf f4.type = 3 →
      ∃ x0 x1 x2 x3 x4 x5 x6, ls = [x0, x1, x2, x3, x4, x5, x6] ∧ WT Tryz.prog (m + 2) f0.type [x0] ∧ WT Tryz.prog (m + 2) f1.type [x1] ∧ WT Tryz.prog (m + 2) f2.type [x2] ∧ WT Tryz.prog (m + 2) f3.type [x3] ∧ WT Tryz.prog (m + 2) f4.type [x4, x5, x6] := by
    intro f0 f1 f2 f3 f4 hu hc o0 o1 o2 o3 o4 s0 s1 s2 s3 s4
    obtain ⟨hl, hf⟩ := wt_struct hu h
    rw [hc] at hl
    match ls, hl with
    | [x0, x1, x2, x3, x4, x5, x6], _ =>
      have a0 := hf f0 (by simp)
      rw [o0, s0] at a0
      have a1 := hf f1 (by simp)
      rw [o1, s1] at a1
      have a2 := hf f2 (by simp)
      rw [o2, s2] at a2
      have a3 := hf f3 (by simp)
      rw [o3, s3] at a3
      have a4 := hf f4 (by simp)
      rw [o4, s4] at a4
      exact ⟨x0, x1, x2, x3, x4, x5, x6, rfl, a0, a1, a2, a3, a4⟩
  obtain ⟨x0, x1, x2, x3, x4, x5, x6, rfl, h0, h1, h2, h3, h4⟩ := key Tryz.underlying241 (by kernel_rfl) rfl rfl rfl rfl rfl (by kernel_rfl) (by kernel_rfl) (by kernel_rfl) (by kernel_rfl) (by kernel_rfl)
  obtain ⟨v0, e0, k0⟩ := wt_string Tryz.underlying9 h0
  cases e0
  obtain ⟨v1, e1, _⟩ := wt_int Tryz.underlying3 h1
  cases e1
  obtain ⟨v2, e2⟩ := wt_bool Tryz.underlying4 h2
  cases e2
  obtain ⟨v3, e3⟩ := wt_bool Tryz.underlying4 h3
  cases e3
  obtain ⟨⟨c4k, c4n, c4t⟩, e4, k4⟩ := w_Val h4
  cases e4
  exact ⟨⟨v0, v1, v2, v3, ⟨c4k, c4n, c4t⟩⟩, rfl, ⟨k0, k4⟩⟩
theorem w_Cols {m : Nat} {ls : List Leaf} (h : WT Tryz.prog (m + 4) 168 ls) : ∃ l : List Col, ls = [.imm 7 (l.map encCol)] ∧ l.length ≤ maxLen ∧ ∀ x ∈ l, x.ok := by
  obtain ⟨rows, e, hl, hr⟩ := wt_slice Tryz.underlying168 h
  rw [show Tryz.prog.cellsOf 241 = 7 by kernel_rfl] at e
  obtain ⟨l, rfl, hok⟩ := rows_of (enc := encCol) (ok := Col.ok) fun r hrm => w_Col (hr r hrm).2
  exact ⟨l, e, by simpa using hl, hok⟩
theorem w_Change {m : Nat} {ls : List Leaf} (h : WT Tryz.prog (m + 4) 244 ls) : ∃ v : Change, ls = encChange v ∧ v.ok := by
  have key : ∀ {f0 f1 f2 f3 : Field}, Tryz.prog.underlying 244 = some (.struct #[f0, f1, f2, f3]) → Tryz.prog.cellsOf 244 = 10 → f0.offset = 0 → f1.offset = 1 → f2.offset = 2 → f3.offset = 3 → Tryz.prog.cellsOf f0.type = 1 → Tryz.prog.cellsOf f1.type = 1 → Tryz.prog.cellsOf f2.type = 1 → Tryz.prog.cellsOf f3.type = 7 →
      ∃ x0 x1 x2 x3 x4 x5 x6 x7 x8 x9, ls = [x0, x1, x2, x3, x4, x5, x6, x7, x8, x9] ∧ WT Tryz.prog (m + 3) f0.type [x0] ∧ WT Tryz.prog (m + 3) f1.type [x1] ∧ WT Tryz.prog (m + 3) f2.type [x2] ∧ WT Tryz.prog (m + 3) f3.type [x3, x4, x5, x6, x7, x8, x9] := by
    intro f0 f1 f2 f3 hu hc o0 o1 o2 o3 s0 s1 s2 s3
    obtain ⟨hl, hf⟩ := wt_struct hu h
    rw [hc] at hl
    match ls, hl with
    | [x0, x1, x2, x3, x4, x5, x6, x7, x8, x9], _ =>
      have a0 := hf f0 (by simp)
      rw [o0, s0] at a0
      have a1 := hf f1 (by simp)
      rw [o1, s1] at a1
      have a2 := hf f2 (by simp)
      rw [o2, s2] at a2
      have a3 := hf f3 (by simp)
      rw [o3, s3] at a3
      exact ⟨x0, x1, x2, x3, x4, x5, x6, x7, x8, x9, rfl, a0, a1, a2, a3⟩
  obtain ⟨x0, x1, x2, x3, x4, x5, x6, x7, x8, x9, rfl, h0, h1, h2, h3⟩ := key Tryz.underlying244 (by kernel_rfl) rfl rfl rfl rfl (by kernel_rfl) (by kernel_rfl) (by kernel_rfl) (by kernel_rfl)
  obtain ⟨v0, e0, _⟩ := wt_int Tryz.underlying3 h0
  cases e0
  obtain ⟨v1, e1, k1⟩ := wt_string Tryz.underlying9 h1
  cases e1
  obtain ⟨v2, e2, k2⟩ := wt_string Tryz.underlying9 h2
  cases e2
  obtain ⟨⟨c3name, c3kind, c3need, c3once, ⟨c3d_k, c3d_n, c3d_t⟩⟩, e3, k3⟩ := w_Col h3
  cases e3
  exact ⟨⟨v0, v1, v2, ⟨c3name, c3kind, c3need, c3once, ⟨c3d_k, c3d_n, c3d_t⟩⟩⟩, rfl, ⟨k1, k2, k3⟩⟩
theorem w_Changes {m : Nat} {ls : List Leaf} (h : WT Tryz.prog (m + 5) 169 ls) : ∃ l : List Change, ls = [.imm 10 (l.map encChange)] ∧ l.length ≤ maxLen ∧ ∀ x ∈ l, x.ok := by
  obtain ⟨rows, e, hl, hr⟩ := wt_slice Tryz.underlying169 h
  rw [show Tryz.prog.cellsOf 244 = 10 by kernel_rfl] at e
  obtain ⟨l, rfl, hok⟩ := rows_of (enc := encChange) (ok := Change.ok) fun r hrm => w_Change (hr r hrm).2
  exact ⟨l, e, by simpa using hl, hok⟩
theorem w_VRow {m : Nat} {ls : List Leaf} (h : WT Tryz.prog (m + 4) 248 ls) : ∃ v : VRow, ls = encVRow v ∧ v.ok := by
  have key : ∀ {f0 f1 f2 : Field}, Tryz.prog.underlying 248 = some (.struct #[f0, f1, f2]) → Tryz.prog.cellsOf 248 = 3 → f0.offset = 0 → f1.offset = 1 → f2.offset = 2 → Tryz.prog.cellsOf f0.type = 1 → Tryz.prog.cellsOf f1.type = 1 → Tryz.prog.cellsOf f2.type = 1 →
      ∃ x0 x1 x2, ls = [x0, x1, x2] ∧ WT Tryz.prog (m + 3) f0.type [x0] ∧ WT Tryz.prog (m + 3) f1.type [x1] ∧ WT Tryz.prog (m + 3) f2.type [x2] := by
    intro f0 f1 f2 hu hc o0 o1 o2 s0 s1 s2
    obtain ⟨hl, hf⟩ := wt_struct hu h
    rw [hc] at hl
    match ls, hl with
    | [x0, x1, x2], _ =>
      have a0 := hf f0 (by simp)
      rw [o0, s0] at a0
      have a1 := hf f1 (by simp)
      rw [o1, s1] at a1
      have a2 := hf f2 (by simp)
      rw [o2, s2] at a2
      exact ⟨x0, x1, x2, rfl, a0, a1, a2⟩
  obtain ⟨x0, x1, x2, rfl, h0, h1, h2⟩ := key Tryz.underlying248 (by kernel_rfl) rfl rfl rfl (by kernel_rfl) (by kernel_rfl) (by kernel_rfl)
  obtain ⟨v0, e0, _⟩ := wt_int Tryz.underlying3 h0
  cases e0
  obtain ⟨v1, e1, _⟩ := wt_int Tryz.underlying3 h1
  cases e1
  obtain ⟨v2, e2, k2⟩ := w_Vals h2
  cases e2
  exact ⟨⟨v0, v1, v2⟩, rfl, k2⟩
theorem w_VRows {m : Nat} {ls : List Leaf} (h : WT Tryz.prog (m + 5) 170 ls) : ∃ l : List VRow, ls = [.imm 3 (l.map encVRow)] ∧ l.length ≤ maxLen ∧ ∀ x ∈ l, x.ok := by
  obtain ⟨rows, e, hl, hr⟩ := wt_slice Tryz.underlying170 h
  rw [show Tryz.prog.cellsOf 248 = 3 by kernel_rfl] at e
  obtain ⟨l, rfl, hok⟩ := rows_of (enc := encVRow) (ok := VRow.ok) fun r hrm => w_VRow (hr r hrm).2
  exact ⟨l, e, by simpa using hl, hok⟩
theorem w_VTable {m : Nat} {ls : List Leaf} (h : WT Tryz.prog (m + 6) 172 ls) : ∃ v : VTable, ls = encVTable v ∧ v.ok := by
  have key : ∀ {f0 f1 f2 f3 : Field}, Tryz.prog.underlying 172 = some (.struct #[f0, f1, f2, f3]) → Tryz.prog.cellsOf 172 = 4 → f0.offset = 0 → f1.offset = 1 → f2.offset = 2 → f3.offset = 3 → Tryz.prog.cellsOf f0.type = 1 → Tryz.prog.cellsOf f1.type = 1 → Tryz.prog.cellsOf f2.type = 1 → Tryz.prog.cellsOf f3.type = 1 →
      ∃ x0 x1 x2 x3, ls = [x0, x1, x2, x3] ∧ WT Tryz.prog (m + 5) f0.type [x0] ∧ WT Tryz.prog (m + 5) f1.type [x1] ∧ WT Tryz.prog (m + 5) f2.type [x2] ∧ WT Tryz.prog (m + 5) f3.type [x3] := by
    intro f0 f1 f2 f3 hu hc o0 o1 o2 o3 s0 s1 s2 s3
    obtain ⟨hl, hf⟩ := wt_struct hu h
    rw [hc] at hl
    match ls, hl with
    | [x0, x1, x2, x3], _ =>
      have a0 := hf f0 (by simp)
      rw [o0, s0] at a0
      have a1 := hf f1 (by simp)
      rw [o1, s1] at a1
      have a2 := hf f2 (by simp)
      rw [o2, s2] at a2
      have a3 := hf f3 (by simp)
      rw [o3, s3] at a3
      exact ⟨x0, x1, x2, x3, rfl, a0, a1, a2, a3⟩
  obtain ⟨x0, x1, x2, x3, rfl, h0, h1, h2, h3⟩ := key Tryz.underlying172 (by kernel_rfl) rfl rfl rfl rfl (by kernel_rfl) (by kernel_rfl) (by kernel_rfl) (by kernel_rfl)
  obtain ⟨v0, e0, k0⟩ := w_Cols h0
  cases e0
  obtain ⟨v1, e1, k1⟩ := w_Changes h1
  cases e1
  obtain ⟨v2, e2, k2⟩ := w_VRows h2
  cases e2
  obtain ⟨v3, e3, _⟩ := wt_int Tryz.underlying3 h3
  cases e3
  exact ⟨⟨v0, v1, v2, v3⟩, rfl, ⟨k0, k1, k2⟩⟩
theorem w_VLink {m : Nat} {ls : List Leaf} (h : WT Tryz.prog (m + 2) 176 ls) : ∃ v : VLink, ls = encVLink v ∧ v.ok := by
  have key : ∀ {f0 f1 f2 f3 : Field}, Tryz.prog.underlying 176 = some (.struct #[f0, f1, f2, f3]) → Tryz.prog.cellsOf 176 = 4 → f0.offset = 0 → f1.offset = 1 → f2.offset = 2 → f3.offset = 3 → Tryz.prog.cellsOf f0.type = 1 → Tryz.prog.cellsOf f1.type = 1 → Tryz.prog.cellsOf f2.type = 1 → Tryz.prog.cellsOf f3.type = 1 →
      ∃ x0 x1 x2 x3, ls = [x0, x1, x2, x3] ∧ WT Tryz.prog (m + 1) f0.type [x0] ∧ WT Tryz.prog (m + 1) f1.type [x1] ∧ WT Tryz.prog (m + 1) f2.type [x2] ∧ WT Tryz.prog (m + 1) f3.type [x3] := by
    intro f0 f1 f2 f3 hu hc o0 o1 o2 o3 s0 s1 s2 s3
    obtain ⟨hl, hf⟩ := wt_struct hu h
    rw [hc] at hl
    match ls, hl with
    | [x0, x1, x2, x3], _ =>
      have a0 := hf f0 (by simp)
      rw [o0, s0] at a0
      have a1 := hf f1 (by simp)
      rw [o1, s1] at a1
      have a2 := hf f2 (by simp)
      rw [o2, s2] at a2
      have a3 := hf f3 (by simp)
      rw [o3, s3] at a3
      exact ⟨x0, x1, x2, x3, rfl, a0, a1, a2, a3⟩
  obtain ⟨x0, x1, x2, x3, rfl, h0, h1, h2, h3⟩ := key Tryz.underlying176 (by kernel_rfl) rfl rfl rfl rfl (by kernel_rfl) (by kernel_rfl) (by kernel_rfl) (by kernel_rfl)
  obtain ⟨v0, e0, k0⟩ := wt_string Tryz.underlying9 h0
  cases e0
  obtain ⟨v1, e1, k1⟩ := wt_string Tryz.underlying9 h1
  cases e1
  obtain ⟨v2, e2, k2⟩ := wt_string Tryz.underlying9 h2
  cases e2
  obtain ⟨v3, e3, _⟩ := wt_int Tryz.underlying3 h3
  cases e3
  exact ⟨⟨v0, v1, v2, v3⟩, rfl, ⟨k0, k1, k2⟩⟩
theorem w_VLinks {m : Nat} {ls : List Leaf} (h : WT Tryz.prog (m + 3) 54 ls) : ∃ l : List VLink, ls = [.imm 4 (l.map encVLink)] ∧ l.length ≤ maxLen ∧ ∀ x ∈ l, x.ok := by
  obtain ⟨rows, e, hl, hr⟩ := wt_slice Tryz.underlying54 h
  rw [show Tryz.prog.cellsOf 176 = 4 by kernel_rfl] at e
  obtain ⟨l, rfl, hok⟩ := rows_of (enc := encVLink) (ok := VLink.ok) fun r hrm => w_VLink (hr r hrm).2
  exact ⟨l, e, by simpa using hl, hok⟩
theorem w_VTab {m : Nat} {ls : List Leaf} (h : WT Tryz.prog (m + 7) 174 ls) : ∃ v : VTab, ls = encVTab v ∧ v.ok := by
  have key : ∀ {f0 f1 : Field}, Tryz.prog.underlying 174 = some (.struct #[f0, f1]) → Tryz.prog.cellsOf 174 = 5 → f0.offset = 0 → f1.offset = 1 → Tryz.prog.cellsOf f0.type = 1 → Tryz.prog.cellsOf f1.type = 4 →
      ∃ x0 x1 x2 x3 x4, ls = [x0, x1, x2, x3, x4] ∧ WT Tryz.prog (m + 6) f0.type [x0] ∧ WT Tryz.prog (m + 6) f1.type [x1, x2, x3, x4] := by
    intro f0 f1 hu hc o0 o1 s0 s1
    obtain ⟨hl, hf⟩ := wt_struct hu h
    rw [hc] at hl
    match ls, hl with
    | [x0, x1, x2, x3, x4], _ =>
      have a0 := hf f0 (by simp)
      rw [o0, s0] at a0
      have a1 := hf f1 (by simp)
      rw [o1, s1] at a1
      exact ⟨x0, x1, x2, x3, x4, rfl, a0, a1⟩
  obtain ⟨x0, x1, x2, x3, x4, rfl, h0, h1⟩ := key Tryz.underlying174 (by kernel_rfl) rfl rfl (by kernel_rfl) (by kernel_rfl)
  obtain ⟨v0, e0, k0⟩ := wt_string Tryz.underlying9 h0
  cases e0
  obtain ⟨⟨c1first, c1changes, c1rows, c1next⟩, e1, k1⟩ := w_VTable h1
  cases e1
  exact ⟨⟨v0, ⟨c1first, c1changes, c1rows, c1next⟩⟩, rfl, ⟨k0, k1⟩⟩
theorem w_VTabs {m : Nat} {ls : List Leaf} (h : WT Tryz.prog (m + 8) 53 ls) : ∃ l : List VTab, ls = [.imm 5 (l.map encVTab)] ∧ l.length ≤ maxLen ∧ ∀ x ∈ l, x.ok := by
  obtain ⟨rows, e, hl, hr⟩ := wt_slice Tryz.underlying53 h
  rw [show Tryz.prog.cellsOf 174 = 5 by kernel_rfl] at e
  obtain ⟨l, rfl, hok⟩ := rows_of (enc := encVTab) (ok := VTab.ok) fun r hrm => w_VTab (hr r hrm).2
  exact ⟨l, e, by simpa using hl, hok⟩
theorem w_VBase {m : Nat} {ls : List Leaf} (h : WT Tryz.prog (m + 9) 56 ls) : ∃ v : VBase, ls = encVBase v ∧ v.ok := by
  have key : ∀ {f0 f1 : Field}, Tryz.prog.underlying 56 = some (.struct #[f0, f1]) → Tryz.prog.cellsOf 56 = 2 → f0.offset = 0 → f1.offset = 1 → Tryz.prog.cellsOf f0.type = 1 → Tryz.prog.cellsOf f1.type = 1 →
      ∃ x0 x1, ls = [x0, x1] ∧ WT Tryz.prog (m + 8) f0.type [x0] ∧ WT Tryz.prog (m + 8) f1.type [x1] := by
    intro f0 f1 hu hc o0 o1 s0 s1
    obtain ⟨hl, hf⟩ := wt_struct hu h
    rw [hc] at hl
    match ls, hl with
    | [x0, x1], _ =>
      have a0 := hf f0 (by simp)
      rw [o0, s0] at a0
      have a1 := hf f1 (by simp)
      rw [o1, s1] at a1
      exact ⟨x0, x1, rfl, a0, a1⟩
  obtain ⟨x0, x1, rfl, h0, h1⟩ := key Tryz.underlying56 (by kernel_rfl) rfl rfl (by kernel_rfl) (by kernel_rfl)
  obtain ⟨v0, e0, k0⟩ := w_VTabs h0
  cases e0
  obtain ⟨v1, e1, k1⟩ := w_VLinks h1
  cases e1
  exact ⟨⟨v0, v1⟩, rfl, ⟨k0, k1⟩⟩
end Go.Vl

namespace Go.Vl
open Go Go.RowKit Go.Proofs
set_option maxRecDepth 100000
set_option linter.unusedSimpArgs false
set_option linter.unusedVariables false
set_option maxHeartbeats 8000000

theorem w_IntL {m : Nat} {ls : List Leaf} (h : WT Tryz.prog (m + 1) 3 ls) : ∃ v : Int, ls = [.g (.int .i64 v)] := by
  obtain ⟨v1, e1, _⟩ := wt_int Tryz.underlying3 h
  exact ⟨v1, e1⟩
theorem w_StrL {m : Nat} {ls : List Leaf} (h : WT Tryz.prog (m + 1) 9 ls) : ∃ v : ByteArray, ls = [.g (.string v)] := by
  obtain ⟨v1, e1, _⟩ := wt_string Tryz.underlying9 h
  exact ⟨v1, e1⟩
end Go.Vl

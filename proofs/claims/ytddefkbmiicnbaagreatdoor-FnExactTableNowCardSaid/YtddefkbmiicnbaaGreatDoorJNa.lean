/- Laws, joined. -/
import Derived.Test.YtddefkbmiicnbaaGreatDoorJBa
import Derived.Test.YtddefkbmiicnbaaGreatDoorJBb
import Derived.Test.YtddefkbmiicnbaaGreatDoorJBc
import Derived.Test.YtddefkbmiicnbaaGreatDoorJBd
import Derived.Test.YtddefkbmiicnbaaGreatDoorJBe
import Derived.Test.YtddefkbmiicnbaaGreatDoorJBf
import Derived.Test.YtddefkbmiicnbaaGreatDoorJBg
import Derived.Test.YtddefkbmiicnbaaGreatDoorJBh
import Derived.Test.YtddefkbmiicnbaaGreatDoorJBi
import Derived.Test.YtddefkbmiicnbaaGreatDoorJBj
import Derived.Test.YtddefkbmiicnbaaGreatDoorJBk
import Derived.Test.YtddefkbmiicnbaaGreatDoorJBl
import Derived.Test.YtddefkbmiicnbaaGreatDoorJBm
set_option linter.unusedSimpArgs false
set_option linter.unusedVariables false

namespace Go.Vl
open Go Go.RowKit Go.Proofs
set_option maxRecDepth 100000
set_option maxHeartbeats 8000000
theorem rowsW_step (ns : List Nat) (i : Nat) (h : i < ns.length) : rowsW (ns.take (i + 1)) = rowsW (ns.take i) + (2 + 3 * ns[i]) := by
  rw [List.take_succ_eq_append_getElem h, rowsW_snoc]
theorem mkRows_get : ∀ (ns : List Nat) (k i : Nat) (h : i < ns.length), (mkRows ns k)[i]? = some (mkRow ns[i] (k + rowsW (ns.take i)))
  | n :: ns, k, 0, h => by simp [mkRows, rowsW]
  | n :: ns, k, i + 1, h => by
    simp only [mkRows, List.getElem?_cons_succ, List.take_succ_cons, rowsW, List.getElem_cons_succ]
    rw [mkRows_get ns _ i (by simpa using h)]
    congr 2; omega
theorem c_heldRows (ns : List Nat) (k : Nat) (hl : ns.length ≤ 3000000) (hv : ∀ x ∈ ns, x ≤ 3000000) (hk1 : 1 ≤ k) (hk : k + rowsW ns ≤ 1000000000) : CallsV Tryz.prog 120 [vrowsI (mkRows ns k), iS k] [] (pureQ (iS ((k + rowsW ns : Nat) : Int))) := by
  have hml := mkRows_len ns k
  refine pure_walk hTb Tryz.func120 rfl rfl Tryz.ntmps120 (by simp) ?_
  (conv => whnf); repeat' (first | (refine And.intro ?_ ?_ <;> ((try intro h) <;> (try simp only [Bool.not_true, Bool.not_false] at h) <;> first | exact absurd h Bool.false_ne_true | exact absurd h.symm Bool.false_ne_true | conv => whnf)) | (refine Need.mk ?_; kernel_rfl) | (refine Need.mk ⟨rfl, ?_⟩; decide))
  refine VL.loopI hTb (fun i => i ≤ ns.length) (fun i => ⟨[(0, vrowsI (mkRows ns k)), (1, iS ((k + rowsW (ns.take i) : Nat) : Int)), (5, iS i)], [], []⟩) (fun i => ns.length - i) 0 (Nat.zero_le _)
    (wk_to [] rfl rfl rfl ⟨rfl, rfl, rfl, trivial⟩ trivial) (fun i hi => ?_)
  (conv => whnf)
  refine And.intro (fun h2 => ?_) (fun h2 => ?_)
  · have hlt : i < ns.length := by have : i < (mkRows ns k).length := by simpa using h2
                                   omega
    have hg := mkRows_get ns k i hlt
    have hrow : ((mkRows ns k).map encVRow)[((i : Nat) : Int).toNat]? = some (encVRow (mkRow ns[i] (k + rowsW (ns.take i)))) := by rw [Int.toNat_natCast, List.getElem?_map, hg]; rfl
    have hs := rowsW_step ns i hlt
    have hle := rowsW_take_le ns (i + 1)
    have hvl := hv _ (List.getElem_mem hlt)
    obtain ⟨K, hK⟩ : ∃ K, k + rowsW (ns.take i) = K := ⟨_, rfl⟩
    have hK1 : k + rowsW (ns.take (i + 1)) = K + (2 + 3 * ns[i]) := by omega
    rw [hK] at hrow ⊢
    have hKle : K + (2 + 3 * ns[i]) ≤ 1000000000 := by omega
    clear hg hs
    generalize ns[i] = n at hrow hvl hK1 hKle
    have w1 : IntKind.i64.wrap ((K : Int) + 1) = ((K + 1 : Nat) : Int) := by rw [IntKind.wrap_i64]; omega
    have w2 : IntKind.i64.wrap (((K + 1 : Nat) : Int) + 1) = ((K + 2 : Nat) : Int) := by rw [IntKind.wrap_i64]; omega
    have hH := c_heldVals n (K + 2) hvl (by omega) (by omega)
    have n1 : ¬ (((K + 2 + 3 * n : Nat) : Int) < 0) := by omega
    have hrow : ((mkRows ns k).map encVRow)[((i : Nat) : Int).toNat]? = some [.g (.int .i64 K), .g (.int .i64 ((K + 1 : Nat) : Int)), .imm 3 ((mkVals n (K + 2)).map encVal)] := hrow
    have f1 : ((K : Int) != (K : Int)) = false := by simp
    have f2 : (((K + 1 : Nat) : Int) != IntKind.i64.wrap ((K : Int) + 1)) = false := by rw [w1]; simp
    rw [← w2, ← w1] at hH
    (conv => whnf); repeat' (first
    | (exact absurd (f1.symm.trans h) Bool.false_ne_true)
    | (exact absurd (f2.symm.trans h) Bool.false_ne_true)
    | (exact absurd h n1)
    | (refine And.intro ?_ ?_ <;> ((try intro h) <;> (try simp only [Bool.not_true, Bool.not_false, decide_eq_true_eq, decide_eq_false_iff_not, Int.not_lt, Int.not_le, gt_iff_lt, ge_iff_le] at h) <;> first | exact absurd h Bool.false_ne_true | exact absurd h.symm Bool.false_ne_true | conv => whnf))
    | (refine VL.drawS hTb hMix (by kernel_rfl) (by kernel_rfl) (by kernel_rfl) ?_; conv => whnf)
    | (refine Need.mk ?_; kernel_rfl) | (refine Need.mk ⟨rfl, ?_⟩; decide)
    | (refine VR.op hTb rfl rfl (o_index_imm hTb rfl rfl rfl rfl rfl rfl rfl (by omega) (hrow)) rfl ?_; conv => whnf)
    | (refine DT.op hTb rfl (o_index_imm hTb rfl rfl rfl rfl rfl rfl rfl (by omega) (hrow)) rfl ?_; conv => whnf)
    | (refine VR.pure hTb rfl rfl (o_purN (hH) rfl rfl rfl ⟨rfl, rfl, rfl, rfl⟩ rfl) ?_; conv => whnf)
    | (refine DT.pure hTb rfl (o_purN (hH) rfl rfl rfl ⟨rfl, rfl, rfl, rfl⟩ rfl) ?_; conv => whnf))
    exact ⟨i + 1, hlt, by omega, wk_to [] rfl rfl rfl ⟨rfl, congrArg (fun x => Slot.one (.g (.int .i64 x))) (by rw [hK1]; omega), congrArg (fun x => Slot.one (.g (.int .i64 x))) (wrap64' (by unfold maxLen; omega)), trivial⟩ trivial⟩
  · have hie : i = ns.length := by have : ¬ i < (mkRows ns k).length := by simpa using h2
                                   omega
    subst hie
    (conv => whnf)
    rw [List.take_length]; rfl
end Go.Vl

namespace Go.Vl
open Go Go.RowKit Go.Proofs
set_option maxRecDepth 100000
set_option linter.unusedSimpArgs false
set_option linter.unusedVariables false
set_option maxHeartbeats 8000000

theorem CallsV.leR {P : Program} {f : FuncId} {args : List Slot} {objs : List Ob} {s s' : Slot} {outs : List (Option Ob)} {news : List Ob} (h : CallsV P f args objs (funQ s outs news)) (e : LeS s s') : CallsV P f args objs (funQ s' outs news) :=
  ⟨h.1, fun w B D vals h1 h2 => (h.2 w B D vals h1 h2).mono fun _ _ ⟨v, s1, outs1, news1, B', he, ⟨e1, e2, e3⟩, hr, hs⟩ => ⟨v, s', outs1, news1, B', he, ⟨rfl, e2, e3⟩, hr, e.rep (e1 ▸ hs)⟩⟩

def nowRow (t : VTable) (r : VRow) : VRow := ⟨r.id, 0, tNow t r⟩
def zTab : VTable := ⟨[], [], [], 0⟩
def tNw (t : VTable) : VTable := if tabOk t = true then ⟨tL t, [], t.rows.map (nowRow t), t.next⟩ else zTab
theorem c_CloneRow (l : List VRow) (hl : l.length ≤ 2000000) : CallsV Tryz.prog 183 [.one (.imm 3 (l.map encVRow))] [] (funQ (.one (.own 0 0 l.length)) [] [.arr 45 3 (l.map encVRow)]) := by
  refine funF_walk hTb Tryz.func183 rfl rfl Tryz.ntmps183 (by simp) (by simp) ?_
  (conv => whnf); repeat' (first
    | (refine And.intro ?_ ?_ <;> ((try intro h) <;> (try simp only [Bool.not_true, Bool.not_false, decide_eq_true_eq, decide_eq_false_iff_not, Int.not_lt, Int.not_le, gt_iff_lt, ge_iff_le] at h) <;> first | exact absurd h Bool.false_ne_true | exact absurd h.symm Bool.false_ne_true | conv => whnf))
    | (refine VL.drawS hTb hMix (by kernel_rfl) (by kernel_rfl) (by kernel_rfl) ?_; conv => whnf)
    | (refine Need.mk ?_; kernel_rfl) | (refine Need.mk ⟨rfl, ?_⟩; decide)
    | (refine VR.rel hTb rfl rfl (o_isnil hTb rfl rfl rfl rfl) ?_; intro b hb; conv => whnf)
    | (refine VR.opk hTb rfl rfl (o_app0 (f := encVRow) (m := l) (q := 107) hTb rfl rfl rfl rfl rfl rfl rfl rfl rfl rfl (by omega) (by show _ * 40 ≤ _; omega) (by unfold maxLen; omega)) ?_; conv => whnf)
    | (refine DT.opk hTb rfl (o_app0 (f := encVRow) (m := l) (q := 107) hTb rfl rfl rfl rfl rfl rfl rfl rfl rfl rfl (by omega) (by show _ * 40 ≤ _; omega) (by unfold maxLen; omega)) ?_; conv => whnf))
  · have e := hb ‹b = true›
    have e : l = [] := by cases l with | nil => rfl | cons => simp at e
    subst e
    exact EndV.nil 2 102 3 45 rfl rfl (by decide) (endW [102] rfl rfl rfl rfl rfl (LeS.refl _) rfl rfl)
  · exact endW [107] rfl rfl rfl rfl rfl (LeS.refl _) rfl rfl
theorem c_ClipRow (l : List VRow) (hl : l.length ≤ 2000000) : CallsV Tryz.prog 182 [.one (.own 0 0 l.length)] [.arr 45 3 (l.map encVRow)] (funQ (.one (.own 0 0 l.length)) [some (.arr 45 3 (l.map encVRow))] []) := by
  refine funF_walk hTb Tryz.func182 rfl rfl Tryz.ntmps182 (by simp) (by simp) ?_
  (conv => whnf); repeat' (first
    | (refine And.intro ?_ ?_ <;> ((try intro h) <;> (try simp only [Bool.not_true, Bool.not_false, decide_eq_true_eq, decide_eq_false_iff_not, Int.not_lt, Int.not_le, gt_iff_lt, ge_iff_le] at h) <;> first | exact absurd h Bool.false_ne_true | exact absurd h.symm Bool.false_ne_true | conv => whnf))
    | (refine VL.drawS hTb hMix (by kernel_rfl) (by kernel_rfl) (by kernel_rfl) ?_; conv => whnf)
    | (refine Need.mk ?_; kernel_rfl) | (refine Need.mk ⟨rfl, ?_⟩; decide)
    | (refine VR.op hTb rfl rfl (o_slice3_own (n1 := 0) (n2 := l.length) (n3 := l.length) hTb rfl rfl rfl rfl rfl rfl rfl bnd_none (bnd_some rfl) (bnd_some rfl) (Nat.zero_le _) (Nat.le_refl _) (Nat.le_refl _) (by simp)) rfl ?_; conv => whnf))
  exact endW [] rfl rfl rfl rfl rfl (LeS.refl _) rfl rfl
theorem c_cloneRow (l : List VRow) (hl : l.length ≤ 2000000) : CallsV Tryz.prog 118 [.one (.imm 3 (l.map encVRow))] [] (funQ (.one (.own 0 0 l.length)) [] [.arr 45 3 (l.map encVRow)]) := by
  refine funF_walk hTb Tryz.func118 rfl rfl Tryz.ntmps118 (by simp) (by simp) ?_
  (conv => whnf); repeat' (first
    | (refine And.intro ?_ ?_ <;> ((try intro h) <;> (try simp only [Bool.not_true, Bool.not_false, decide_eq_true_eq, decide_eq_false_iff_not, Int.not_lt, Int.not_le, gt_iff_lt, ge_iff_le] at h) <;> first | exact absurd h Bool.false_ne_true | exact absurd h.symm Bool.false_ne_true | conv => whnf))
    | (refine VL.drawS hTb hMix (by kernel_rfl) (by kernel_rfl) (by kernel_rfl) ?_; conv => whnf)
    | (refine Need.mk ?_; kernel_rfl) | (refine Need.mk ⟨rfl, ?_⟩; decide)
    | (refine VR.fun hTb rfl rfl (o_funN (c_CloneRow l hl) false [] (fun h => by cases h) (by simp) rfl rfl rfl rfl rfl ⟨rfl, rfl, rfl, rfl⟩ rfl rfl) ?_; conv => whnf)
    | (refine DT.fun hTb rfl (o_funN (c_CloneRow l hl) false [] (fun h => by cases h) (by simp) rfl rfl rfl rfl rfl ⟨rfl, rfl, rfl, rfl⟩ rfl rfl) rfl ?_; conv => whnf)
    | (refine VR.fun hTb rfl rfl (o_funN (c_ClipRow l hl) false [1016] (fun h => by cases h) (by simp) rfl rfl rfl rfl rfl ⟨rfl, rfl, rfl, rfl⟩ rfl rfl) ?_; conv => whnf)
    | (refine DT.fun hTb rfl (o_funN (c_ClipRow l hl) false [1016] (fun h => by cases h) (by simp) rfl rfl rfl rfl rfl ⟨rfl, rfl, rfl, rfl⟩ rfl rfl) rfl ?_; conv => whnf))
  exact endW [1016] rfl rfl rfl rfl rfl (LeS.refl _) rfl rfl
abbrev nilTab : Slot := .agg [.g (.slice none 0 0), .g (.slice none 0 0), .g (.slice none 0 0), .g (.int .i64 0)]
def mixR (g : VRow → VRow) (l : List VRow) (i : Nat) : List (List Leaf) := (l.take i).map (fun r => encVRowN (g r)) ++ (l.drop i).map encVRow
theorem mixR_at {g : VRow → VRow} {l : List VRow} {i : Nat} (h : i < l.length) : (mixR g l i)[i]? = some (encVRow l[i]) := by
  unfold mixR
  rw [List.getElem?_append_right (by rw [List.length_map, List.length_take]; exact Nat.min_le_left _ _), List.length_map, List.length_take, Nat.min_eq_left (by omega), Nat.sub_self, List.drop_eq_getElem_cons h]; rfl
theorem mixR_set {g : VRow → VRow} {l : List VRow} {i : Nat} (h : i < l.length) : (mixR g l i).set i (encVRowN (g l[i])) = mixR g l (i + 1) := by
  unfold mixR
  rw [List.set_append_right _ _ (by rw [List.length_map, List.length_take]; exact Nat.min_le_left _ _), List.length_map, List.length_take, Nat.min_eq_left (by omega), Nat.sub_self, List.drop_eq_getElem_cons h, List.map_cons, List.set_cons_zero, List.take_succ_eq_append_getElem h, List.map_append, List.append_assoc]; rfl
theorem c_implNowNo (t : VTable) (ht : t.md) (hk : tabOk t = false) : CallsV Tryz.prog 50 [.agg (encVTable t)] [] (pureQ nilTab) := by
  have c1 := c_implTableOk t ht
  rw [hk] at c1
  refine pureF_walk hTb Tryz.func50 rfl rfl Tryz.ntmps50 (by simp) ?_
  (conv => whnf); repeat' (first
    | (refine And.intro ?_ ?_ <;> ((try intro h) <;> (try simp only [Bool.not_true, Bool.not_false, decide_eq_true_eq, decide_eq_false_iff_not, Int.not_lt, Int.not_le, gt_iff_lt, ge_iff_le] at h) <;> first | exact absurd h Bool.false_ne_true | exact absurd h.symm Bool.false_ne_true | conv => whnf))
    | (refine VL.drawS hTb hMix (by kernel_rfl) (by kernel_rfl) (by kernel_rfl) ?_; conv => whnf)
    | (refine Need.mk ?_; kernel_rfl) | (refine Need.mk ⟨rfl, ?_⟩; decide)
    | (refine VR.pure hTb rfl rfl (o_purN (c1) rfl rfl rfl ⟨rfl, rfl, rfl, rfl⟩ rfl) ?_; conv => whnf)
    | (refine DT.pure hTb rfl (o_purN (c1) rfl rfl rfl ⟨rfl, rfl, rfl, rfl⟩ rfl) ?_; conv => whnf))
  exact endFz rfl rfl rfl
theorem c_implNowYes (t : VTable) (ht : t.md) (hk : tabOk t = true) : CallsV Tryz.prog 50 [.agg (encVTable t)] []
    (funQ (.agg [.own 0 0 (tL t).length, .g (.slice none 0 0), .own 1 0 t.rows.length, .g (.int .i64 t.next)]) [] [.arr 49 7 ((tL t).map encCol), .reg 45 3 ((t.rows.map (nowRow t)).map encVRowN) []]) := by
  have c1 := c_implTableOk t ht
  rw [hk] at c1
  have cS := c_tShapeO t ht (tabOk_iff.1 hk).sh
  have hrl := ht.r
  have cC := c_cloneRow t.rows (by omega)
  have cN := fun i (h : i < t.rows.length) => c_tNow t t.rows[i] ht (tabOk_iff.1 hk).sh (rowFacts hk h).1 (rowFacts hk h).2 (ht.rm _ (List.getElem_mem h)).2
  have hN := fun i (h : i < t.rows.length) => (tNow_go (tabOk_iff.1 hk).sh (rowFacts hk h).2).2
  have hLl := tL_len t
  have hfc := ht.fc
  generalize tL t = L at cS hN hLl ⊢
  obtain ⟨f, hf⟩ : ∃ f, tNow t = f := ⟨_, rfl⟩
  have hg : nowRow t = fun r => ⟨r.id, 0, f r⟩ := by funext r; unfold nowRow; rw [hf]
  rw [hg]
  rw [hf] at cN hN
  clear hf ht hfc hg hk
  refine funF_walk hTb Tryz.func50 rfl rfl Tryz.ntmps50 (by simp) (by simp) ?_
  (conv => whnf); repeat' (first
    | (refine And.intro ?_ ?_ <;> ((try intro h) <;> (try simp only [Bool.not_true, Bool.not_false, decide_eq_true_eq, decide_eq_false_iff_not, Int.not_lt, Int.not_le, gt_iff_lt, ge_iff_le] at h) <;> first | exact absurd h Bool.false_ne_true | exact absurd h.symm Bool.false_ne_true | conv => whnf))
    | (refine VL.drawS hTb hMix (by kernel_rfl) (by kernel_rfl) (by kernel_rfl) ?_; conv => whnf)
    | (refine Need.mk ?_; kernel_rfl) | (refine Need.mk ⟨rfl, ?_⟩; decide)
    | (refine VR.pure hTb rfl rfl (o_purN (c1) rfl rfl rfl ⟨rfl, rfl, rfl, rfl⟩ rfl) ?_; conv => whnf)
    | (refine DT.pure hTb rfl (o_purN (c1) rfl rfl rfl ⟨rfl, rfl, rfl, rfl⟩ rfl) ?_; conv => whnf)
    | (refine VR.fun hTb rfl rfl (o_funN (cS) false [] (fun h => by cases h) (by simp) rfl rfl rfl rfl rfl ⟨rfl, rfl, rfl, rfl⟩ rfl rfl) ?_; conv => whnf)
    | (refine DT.fun hTb rfl (o_funN (cS) false [] (fun h => by cases h) (by simp) rfl rfl rfl rfl rfl ⟨rfl, rfl, rfl, rfl⟩ rfl rfl) rfl ?_; conv => whnf)
    | (refine VR.fun hTb rfl rfl (o_funN (cC) false [] (fun h => by cases h) (by simp) rfl rfl rfl rfl rfl ⟨rfl, rfl, rfl, rfl⟩ rfl rfl) ?_; conv => whnf)
    | (refine DT.fun hTb rfl (o_funN (cC) false [] (fun h => by cases h) (by simp) rfl rfl rfl rfl rfl ⟨rfl, rfl, rfl, rfl⟩ rfl rfl) rfl ?_; conv => whnf))
  refine VL.loopI hTb (fun i => i ≤ t.rows.length) (fun i => ⟨[(1, .one (.ptr 101 0)), (2, .one (.ptr 102 0)), (3, .one (.ptr 103 0)), (19, vrowsI t.rows), (20, iS ((t.rows.map encVRow).length : Nat)), (21, iS i)], [(101, .box (encVTable t)), (102, .box [.g (.slice none 0 0), .g (.slice none 0 0), .g (.slice none 0 0), .g (.int .i64 0)]), (103, .box [.own 1044 0 L.length, .g (.slice none 0 0), .own 1056 0 t.rows.length, .g (.int .i64 t.next)]), (1044, .arr 49 7 (L.map encCol)), (1056, .reg 45 3 (mixR (fun r => ⟨r.id, 0, f r⟩) t.rows i) [])], []⟩) (fun i => t.rows.length - i) 0 (Nat.zero_le _)
    ((wk_toReg _ (q := 1056) rfl).trans (wk_to [(101, 101), (102, 102), (103, 103), (1044, 1044), (1056, 1056)] rfl rfl rfl ⟨rfl, rfl, rfl, rfl, rfl, rfl, trivial⟩ ⟨rfl, ⟨_, rfl, rfl⟩, rfl, ⟨_, rfl, rfl⟩, rfl, ⟨_, rfl, rfl⟩, rfl, ⟨_, rfl, rfl⟩, rfl, ⟨_, rfl, rfl⟩, trivial⟩)) (fun i hi => ?_)
  (conv => whnf)
  refine And.intro (fun h2 => ?_) (fun h2 => ?_)
  · have hil : i < t.rows.length := by simpa using h2
    have hrw := rowVRow hil
    have hc := cN i hil
    have hat := mixR_at (g := fun r => ⟨r.id, 0, f r⟩) hil
    have hset := mixR_set (g := fun r => ⟨r.id, 0, f r⟩) hil
    have hat : (mixR (fun r => ⟨r.id, 0, f r⟩) t.rows i)[0 + ((i : Nat) : Int).toNat]? = some (encVRow t.rows[i]) := by rw [Int.toNat_natCast, Nat.zero_add]; exact hat
    have hRl : (mixR (fun r => ⟨r.id, 0, f r⟩) t.rows i).length = t.rows.length := by unfold mixR; simp; omega
    generalize mixR (fun r => ⟨r.id, 0, f r⟩) t.rows i = R at hat hset hRl ⊢
    generalize f t.rows[i] = w at hc hset
    generalize t.rows[i] = ri at hrw hc hat hset
    (conv => whnf); repeat' (first
    | (refine And.intro ?_ ?_ <;> ((try intro h) <;> (try simp only [Bool.not_true, Bool.not_false, decide_eq_true_eq, decide_eq_false_iff_not, Int.not_lt, Int.not_le, gt_iff_lt, ge_iff_le] at h) <;> first | exact absurd h Bool.false_ne_true | exact absurd h.symm Bool.false_ne_true | conv => whnf))
    | (refine VL.drawS hTb hMix (by kernel_rfl) (by kernel_rfl) (by kernel_rfl) ?_; conv => whnf)
    | (refine Need.mk ?_; kernel_rfl) | (refine Need.mk ⟨rfl, ?_⟩; decide)
    | (refine VR.op hTb rfl rfl (o_index_imm hTb rfl rfl rfl rfl rfl rfl rfl (by omega) (hrw)) rfl ?_; conv => whnf)
    | (refine DT.op hTb rfl (o_index_imm hTb rfl rfl rfl rfl rfl rfl rfl (by omega) (hrw)) rfl ?_; conv => whnf)
    | (refine VR.fun hTb rfl rfl (o_funN (hc) false [] (fun h => by cases h) (by simp) rfl rfl rfl rfl rfl ⟨rfl, rfl, rfl, rfl⟩ rfl rfl) ?_; conv => whnf)
    | (refine DT.fun hTb rfl (o_funN (hc) false [] (fun h => by cases h) (by simp) rfl rfl rfl rfl rfl ⟨rfl, rfl, rfl, rfl⟩ rfl rfl) rfl ?_; conv => whnf)
    | (refine Need.mk ?_; exact ⟨rfl, by omega, by first | omega | (simp; omega)⟩)
    | (refine DT.op hTb rfl (o_store_reg hTb rfl rfl rfl rfl rfl hat rfl rfl ⟨rfl, by decide⟩ (fun _ _ _ => rfl) rfl) rfl ?_; conv => whnf))
    refine ⟨i + 1, hil, by omega, (wk_putBack _ (q := 1056) (r := 0 + ((i : Nat) : Int).toNat) (j := 2) (v := 1132) (rows' := mixR (fun r => ⟨r.id, 0, f r⟩) t.rows (i + 1)) rfl rfl (.inl rfl) (gset hat) rfl (by simp) (by decide) rfl ?_ rfl).trans (wk_to [(101, 101), (102, 102), (103, 103), (1044, 1044), (1056, 1056)] rfl rfl rfl ⟨rfl, rfl, rfl, rfl, rfl, congrArg (fun x => Slot.one (.g (.int .i64 x))) (wrap64' (by unfold maxLen; omega)), trivial⟩ ⟨rfl, ⟨_, rfl, rfl⟩, rfl, ⟨_, rfl, rfl⟩, rfl, ⟨_, rfl, rfl⟩, rfl, ⟨_, rfl, rfl⟩, rfl, ⟨_, rfl, rfl⟩, trivial⟩)⟩
    rw [List.set_set, Int.toNat_natCast, Nat.zero_add]
    exact hset
  · have hie : i = t.rows.length := by simp at h2; omega
    subst hie
    (conv => whnf)
    have hend : mixR (fun r => ⟨r.id, 0, f r⟩) t.rows t.rows.length = (t.rows.map fun r => (⟨r.id, 0, f r⟩ : VRow)).map encVRowN := by unfold mixR; rw [List.take_length, List.drop_length, List.map_map, List.map_nil, List.append_nil]; rfl
    exact endW [1044, 1056] rfl rfl rfl rfl rfl (LeS.refl _) rfl (congrArg (fun r => [Ob.arr 49 7 (L.map encCol), Ob.reg 45 3 r []]) hend)
theorem c_specTableNow (t : VTable) (ht : t.md) : CallsV Tryz.prog 49 [.agg (encVTable t)] [] (pureQ (.agg (encVTable (tNw t)))) := by
  have c1 := c_specTableOk t ht
  unfold tNw
  cases hk : tabOk t with
  | false =>
    rw [hk] at c1
    rw [if_neg (by simp)]
    have h : CallsV Tryz.prog 49 [.agg (encVTable t)] [] (pureQ nilTab) := by
      refine pureF_walk hTb Tryz.func49 rfl rfl Tryz.ntmps49 (by simp) ?_
      (conv => whnf); repeat' (first
    | (refine And.intro ?_ ?_ <;> ((try intro h) <;> (try simp only [Bool.not_true, Bool.not_false, decide_eq_true_eq, decide_eq_false_iff_not, Int.not_lt, Int.not_le, gt_iff_lt, ge_iff_le] at h) <;> first | exact absurd h Bool.false_ne_true | exact absurd h.symm Bool.false_ne_true | conv => whnf))
    | (refine VL.drawS hTb hMix (by kernel_rfl) (by kernel_rfl) (by kernel_rfl) ?_; conv => whnf)
    | (refine Need.mk ?_; kernel_rfl) | (refine Need.mk ⟨rfl, ?_⟩; decide)
    | (refine VR.pure hTb rfl rfl (o_purN (c1) rfl rfl rfl ⟨rfl, rfl, rfl, rfl⟩ rfl) ?_; conv => whnf)
    | (refine DT.pure hTb rfl (o_purN (c1) rfl rfl rfl ⟨rfl, rfl, rfl, rfl⟩ rfl) ?_; conv => whnf))
      exact endFz rfl rfl rfl
    exact CallsV.leR h ⟨.inr ⟨7, rfl, rfl⟩, .inr ⟨10, rfl, rfl⟩, .inr ⟨3, rfl, rfl⟩, .inl rfl, trivial⟩
  | true =>
    rw [hk] at c1
    rw [if_pos rfl]
    have cS := c_l3Last t ht
    have hrl := ht.r
    have cN := fun i (h : i < t.rows.length) => (c_l3Now t t.rows[i] ht (rowFacts hk h).1 (by have := (ht.rm _ (List.getElem_mem h)).1; omega) (ht.rm _ (List.getElem_mem h)).2).pure (pureVals _)
    generalize tL t = L at cS ⊢
    obtain ⟨f, hf⟩ : ∃ f, tNow t = f := ⟨_, rfl⟩
    have hg : nowRow t = fun r => ⟨r.id, 0, f r⟩ := by funext r; unfold nowRow; rw [hf]
    rw [hg]
    rw [hf] at cN
    clear hf ht hg hk
    obtain ⟨M, hM⟩ : ∃ M : Nat → List VRow, ∀ i, M i = (t.rows.take i).map fun r => (⟨r.id, 0, f r⟩ : VRow) := ⟨_, fun _ => rfl⟩
    have h : CallsV Tryz.prog 49 [.agg (encVTable t)] [] (pureQ (.agg [.imm 7 (L.map encCol), .g (.slice none 0 0), if t.rows = [] then .g (.slice none 0 0) else .imm 3 ((M t.rows.length).map encVRow), .g (.int .i64 t.next)])) := by
      refine pureF_walk hTb Tryz.func49 rfl rfl Tryz.ntmps49 (by simp) ?_
      (conv => whnf); repeat' (first
    | (refine And.intro ?_ ?_ <;> ((try intro h) <;> (try simp only [Bool.not_true, Bool.not_false, decide_eq_true_eq, decide_eq_false_iff_not, Int.not_lt, Int.not_le, gt_iff_lt, ge_iff_le] at h) <;> first | exact absurd h Bool.false_ne_true | exact absurd h.symm Bool.false_ne_true | conv => whnf))
    | (refine VL.drawS hTb hMix (by kernel_rfl) (by kernel_rfl) (by kernel_rfl) ?_; conv => whnf)
    | (refine Need.mk ?_; kernel_rfl) | (refine Need.mk ⟨rfl, ?_⟩; decide)
    | (refine VR.pure hTb rfl rfl (o_purN (c1) rfl rfl rfl ⟨rfl, rfl, rfl, rfl⟩ rfl) ?_; conv => whnf)
    | (refine DT.pure hTb rfl (o_purN (c1) rfl rfl rfl ⟨rfl, rfl, rfl, rfl⟩ rfl) ?_; conv => whnf)
    | (refine VR.pure hTb rfl rfl (o_purF (cS) rfl rfl rfl ⟨rfl, rfl, rfl, rfl⟩ rfl) ?_; conv => whnf)
    | (refine DT.pure hTb rfl (o_purF (cS) rfl rfl rfl ⟨rfl, rfl, rfl, rfl⟩ rfl) ?_; conv => whnf))
      refine VL.loopI hTb (fun i => i ≤ t.rows.length) (fun i => match i with
        | 0 => ⟨[(1, .one (.ptr 101 0)), (2, .one (.ptr 102 0)), (3, .one (.ptr 103 0)), (4, iS (0 : Nat))], [(101, .box (encVTable t)), (102, .box [.g (.slice none 0 0), .g (.slice none 0 0), .g (.slice none 0 0), .g (.int .i64 0)]), (103, .box [.imm 7 (L.map encCol), .g (.slice none 0 0), .g (.slice none 0 0), .g (.int .i64 t.next)])], []⟩
        | i + 1 => ⟨[(1, .one (.ptr 101 0)), (2, .one (.ptr 102 0)), (3, .one (.ptr 103 0)), (4, iS (i + 1 : Nat))], [(101, .box (encVTable t)), (102, .box [.g (.slice none 0 0), .g (.slice none 0 0), .g (.slice none 0 0), .g (.int .i64 0)]), (103, .box [.imm 7 (L.map encCol), .g (.slice none 0 0), .own 120 0 (M (i + 1)).length, .g (.int .i64 t.next)]), (120, .arr 45 3 ((M (i + 1)).map encVRow))], []⟩) (fun i => t.rows.length - i) 0 (Nat.zero_le _)
        (wk_to [(101, 101), (102, 102), (103, 103)] rfl rfl rfl ⟨rfl, rfl, rfl, rfl, trivial⟩ ⟨rfl, ⟨_, rfl, rfl⟩, rfl, ⟨_, rfl, rfl⟩, rfl, ⟨_, rfl, rfl⟩, trivial⟩) (fun i hi => ?_)
      cases i with
      | zero =>
        (conv => whnf)
        refine And.intro (fun h2 => ?_) (fun h2 => ?_)
        · have hil : 0 < t.rows.length := by simpa using h2
          have hrw := rowVRow hil
          have hc := cN 0 hil
          have hMs : M 1 = [⟨t.rows[0].id, 0, f t.rows[0]⟩] := by rw [hM, List.take_succ_eq_append_getElem hil]; rfl
          generalize f t.rows[0] = w at hc hMs
          generalize t.rows[0] = ri at hrw hc hMs
          (conv => whnf); repeat' (first
    | (refine And.intro ?_ ?_ <;> ((try intro h) <;> (try simp only [Bool.not_true, Bool.not_false, decide_eq_true_eq, decide_eq_false_iff_not, Int.not_lt, Int.not_le, gt_iff_lt, ge_iff_le] at h) <;> first | exact absurd h Bool.false_ne_true | exact absurd h.symm Bool.false_ne_true | conv => whnf))
    | (refine VL.drawS hTb hMix (by kernel_rfl) (by kernel_rfl) (by kernel_rfl) ?_; conv => whnf)
    | (refine Need.mk ?_; kernel_rfl) | (refine Need.mk ⟨rfl, ?_⟩; decide)
    | (refine VR.op hTb rfl rfl (o_index_imm hTb rfl rfl rfl rfl rfl rfl rfl (by omega) (hrw)) rfl ?_; conv => whnf)
    | (refine DT.op hTb rfl (o_index_imm hTb rfl rfl rfl rfl rfl rfl rfl (by omega) (hrw)) rfl ?_; conv => whnf)
    | (refine VR.pure hTb rfl rfl (o_purF (hc) rfl rfl rfl ⟨rfl, rfl, rfl, rfl⟩ rfl) ?_; conv => whnf)
    | (refine DT.pure hTb rfl (o_purF (hc) rfl rfl rfl ⟨rfl, rfl, rfl, rfl⟩ rfl) ?_; conv => whnf)
    | (refine DT.op hTb rfl (o_append (rows := []) (q := 138) hTb rfl rfl rfl rfl rfl rfl rfl rfl rfl (by decide) (by show _ * 40 ≤ _; simp) (by unfold maxLen; simp)) rfl ?_; conv => whnf))
          exact ⟨1, hil, by omega, wk_to [(101, 101), (102, 102), (103, 103), (138, 120)] rfl rfl rfl ⟨rfl, rfl, rfl, congrArg (fun x => Slot.one (.g (.int .i64 x))) (wrap64' (by unfold maxLen; omega)), trivial⟩ ⟨rfl, ⟨_, rfl, rfl⟩, rfl, ⟨_, rfl, rfl⟩, rfl, ⟨_, rfl, congrArg (fun n => Ob.box [.imm 7 (L.map encCol), .g (.slice none 0 0), .own 120 0 n, .g (.int .i64 t.next)]) (by rw [hMs]; rfl)⟩, rfl, ⟨_, rfl, congrArg (fun r : List VRow => Ob.arr 45 3 (r.map encVRow)) hMs.symm⟩, trivial⟩⟩
        · (conv => whnf)
          have hz : t.rows = [] := by
            have : t.rows.length = 0 := by simp at h2; simp [h2]
            exact List.length_eq_zero_iff.1 this
          refine endFz rfl rfl ?_
          rw [if_pos hz]; rfl
      | succ i =>
        (conv => whnf)
        refine And.intro (fun h2 => ?_) (fun h2 => ?_)
        · have hil : i + 1 < t.rows.length := by simp at h2; omega
          have hrw := rowVRow hil
          have hc := cN (i + 1) hil
          have hMs : M (i + 2) = M (i + 1) ++ [⟨t.rows[i + 1].id, 0, f t.rows[i + 1]⟩] := by rw [hM, hM, List.take_succ_eq_append_getElem hil, List.map_append]; rfl
          have hml : (M (i + 1)).length ≤ 1048576 := by rw [hM]; simp; omega
          generalize f t.rows[i + 1] = w at hc hMs
          generalize t.rows[i + 1] = ri at hrw hc hMs
          (conv => whnf); repeat' (first
    | (refine And.intro ?_ ?_ <;> ((try intro h) <;> (try simp only [Bool.not_true, Bool.not_false, decide_eq_true_eq, decide_eq_false_iff_not, Int.not_lt, Int.not_le, gt_iff_lt, ge_iff_le] at h) <;> first | exact absurd h Bool.false_ne_true | exact absurd h.symm Bool.false_ne_true | conv => whnf))
    | (refine VL.drawS hTb hMix (by kernel_rfl) (by kernel_rfl) (by kernel_rfl) ?_; conv => whnf)
    | (refine Need.mk ?_; kernel_rfl) | (refine Need.mk ⟨rfl, ?_⟩; decide)
    | (refine VR.op hTb rfl rfl (o_index_imm hTb rfl rfl rfl rfl rfl rfl rfl (by omega) (hrw)) rfl ?_; conv => whnf)
    | (refine DT.op hTb rfl (o_index_imm hTb rfl rfl rfl rfl rfl rfl rfl (by omega) (hrw)) rfl ?_; conv => whnf)
    | (refine VR.pure hTb rfl rfl (o_purF (hc) rfl rfl rfl ⟨rfl, rfl, rfl, rfl⟩ rfl) ?_; conv => whnf)
    | (refine DT.pure hTb rfl (o_purF (hc) rfl rfl rfl ⟨rfl, rfl, rfl, rfl⟩ rfl) ?_; conv => whnf)
    | (refine VR.opk hTb rfl rfl (o_app1 (q := 138) (a := (⟨ri.id, 0, w⟩ : VRow)) hTb rfl rfl rfl rfl rfl rfl rfl rfl rfl rfl rfl rfl (by omega) (by show _ * 40 ≤ _; omega) (by unfold maxLen; omega)) ?_; conv => whnf)
    | (refine DT.opk hTb rfl (o_app1 (q := 138) (a := (⟨ri.id, 0, w⟩ : VRow)) hTb rfl rfl rfl rfl rfl rfl rfl rfl rfl rfl rfl rfl (by omega) (by show _ * 40 ≤ _; omega) (by unfold maxLen; omega)) ?_; conv => whnf))
          exact ⟨i + 2, hil, by omega, wk_to [(101, 101), (102, 102), (103, 103), (138, 120)] rfl rfl rfl ⟨rfl, rfl, rfl, congrArg (fun x => Slot.one (.g (.int .i64 x))) (wrap64' (by unfold maxLen; omega)), trivial⟩ ⟨rfl, ⟨_, rfl, rfl⟩, rfl, ⟨_, rfl, rfl⟩, rfl, ⟨_, rfl, congrArg (fun n => Ob.box [.imm 7 (L.map encCol), .g (.slice none 0 0), .own 120 0 n, .g (.int .i64 t.next)]) (by rw [hMs]; simp)⟩, rfl, ⟨_, rfl, congrArg (fun r : List VRow => Ob.arr 45 3 (r.map encVRow)) hMs.symm⟩, trivial⟩⟩
        · (conv => whnf)
          have hie : i + 1 = t.rows.length := by simp at h2; omega
          refine endFz rfl rfl ?_
          rw [if_neg (by intro e; rw [e] at hie; simp at hie)]
          show Slot.agg [_, _, .imm 3 ((((M (i + 1)).map encVRow).drop 0).take (M (i + 1)).length), _] = _
          rw [List.drop_zero, List.take_of_length_le (by simp), hie]; rfl
    refine CallsV.leR h ⟨.inl rfl, .inr ⟨10, rfl, rfl⟩, ?_, .inl rfl, trivial⟩
    by_cases hz : t.rows = []
    · rw [if_pos hz, hz]
      exact .inr ⟨3, rfl, rfl⟩
    · rw [if_neg hz, hM, List.take_length]
      exact .inl rfl
end Go.Vl

namespace Go.Vl
open Go Go.RowKit Go.Proofs
set_option maxRecDepth 100000
set_option linter.unusedSimpArgs false
set_option linter.unusedVariables false
set_option maxHeartbeats 8000000

abbrev nilG : Leaf := .g (.slice none 0 0)
theorem c_markCols0 (k : Int) : CallsV Tryz.prog 42 [.one nilG, iS k] [] (pureQ (iS k)) := by
  refine pure_walk hTb Tryz.func42 rfl rfl Tryz.ntmps42 (by simp) ?_
  (conv => whnf); repeat' (first | (refine And.intro ?_ ?_ <;> ((try intro h) <;> (try simp only [Bool.not_true, Bool.not_false] at h) <;> first | exact absurd h Bool.false_ne_true | exact absurd h.symm Bool.false_ne_true | conv => whnf)) | (refine Need.mk ?_; kernel_rfl) | (refine Need.mk ⟨rfl, ?_⟩; decide))
  refine VL.loopI hTb (fun i => i = 0) (fun _ => ⟨[(0, .one nilG), (1, iS k), (5, iS (0 : Nat))], [], []⟩) (fun i => i) 0 rfl (wk_to [] rfl rfl rfl ⟨rfl, rfl, rfl, trivial⟩ trivial) (fun i hi => ?_)
  (conv => whnf)
  refine And.intro (fun h2 => absurd h2 (by simp)) (fun h2 => ?_)
  (conv => whnf)
  rfl
theorem c_markChanges0 (k : Int) : CallsV Tryz.prog 100 [.one nilG, iS k] [] (pureQ (iS k)) := by
  refine pure_walk hTb Tryz.func100 rfl rfl Tryz.ntmps100 (by simp) ?_
  (conv => whnf); repeat' (first | (refine And.intro ?_ ?_ <;> ((try intro h) <;> (try simp only [Bool.not_true, Bool.not_false] at h) <;> first | exact absurd h Bool.false_ne_true | exact absurd h.symm Bool.false_ne_true | conv => whnf)) | (refine Need.mk ?_; kernel_rfl) | (refine Need.mk ⟨rfl, ?_⟩; decide))
  refine VL.loopI hTb (fun i => i = 0) (fun _ => ⟨[(0, .one nilG), (1, iS k), (5, iS (0 : Nat))], [], []⟩) (fun i => i) 0 rfl (wk_to [] rfl rfl rfl ⟨rfl, rfl, rfl, trivial⟩ trivial) (fun i hi => ?_)
  (conv => whnf)
  refine And.intro (fun h2 => absurd h2 (by simp)) (fun h2 => ?_)
  (conv => whnf)
  rfl
theorem c_markRows0 (k : Int) : CallsV Tryz.prog 101 [.one nilG, iS k] [] (pureQ (iS k)) := by
  refine pure_walk hTb Tryz.func101 rfl rfl Tryz.ntmps101 (by simp) ?_
  (conv => whnf); repeat' (first | (refine And.intro ?_ ?_ <;> ((try intro h) <;> (try simp only [Bool.not_true, Bool.not_false] at h) <;> first | exact absurd h Bool.false_ne_true | exact absurd h.symm Bool.false_ne_true | conv => whnf)) | (refine Need.mk ?_; kernel_rfl) | (refine Need.mk ⟨rfl, ?_⟩; decide))
  refine VL.loopI hTb (fun i => i = 0) (fun _ => ⟨[(0, .one nilG), (1, iS k), (5, iS (0 : Nat))], [], []⟩) (fun i => i) 0 rfl (wk_to [] rfl rfl rfl ⟨rfl, rfl, rfl, trivial⟩ trivial) (fun i hi => ?_)
  (conv => whnf)
  refine And.intro (fun h2 => absurd h2 (by simp)) (fun h2 => ?_)
  (conv => whnf)
  rfl
theorem c_markTab0 (k : Int) (hk : 0 ≤ k) : CallsV Tryz.prog 30 [nilTab, iS k] [] (pureQ (iS k)) := by
  have m1 := c_markCols0 k
  have m2 := c_markChanges0 k
  have m3 := c_markRows0 k
  refine pure_walk hTb Tryz.func30 rfl rfl Tryz.ntmps30 (by simp) ?_
  (conv => whnf); repeat' (first
    | (refine And.intro ?_ ?_ <;> ((try intro h) <;> (try simp only [Bool.not_true, Bool.not_false, decide_eq_true_eq, decide_eq_false_iff_not, Int.not_lt, Int.not_le, gt_iff_lt, ge_iff_le] at h) <;> first | exact absurd h Bool.false_ne_true | exact absurd h.symm Bool.false_ne_true | conv => whnf))
    | (refine VL.drawS hTb hMix (by kernel_rfl) (by kernel_rfl) (by kernel_rfl) ?_; conv => whnf)
    | (refine Need.mk ?_; kernel_rfl) | (refine Need.mk ⟨rfl, ?_⟩; decide)
    | (refine VR.pure hTb rfl rfl (o_purN (m1) rfl rfl rfl ⟨rfl, rfl, rfl, rfl⟩ rfl) ?_; conv => whnf)
    | (refine DT.pure hTb rfl (o_purN (m1) rfl rfl rfl ⟨rfl, rfl, rfl, rfl⟩ rfl) ?_; conv => whnf)
    | (refine VR.pure hTb rfl rfl (o_purN (m2) rfl rfl rfl ⟨rfl, rfl, rfl, rfl⟩ rfl) ?_; conv => whnf)
    | (refine DT.pure hTb rfl (o_purN (m2) rfl rfl rfl ⟨rfl, rfl, rfl, rfl⟩ rfl) ?_; conv => whnf)
    | (refine VR.pure hTb rfl rfl (o_purN (m3) rfl rfl rfl ⟨rfl, rfl, rfl, rfl⟩ rfl) ?_; conv => whnf)
    | (refine DT.pure hTb rfl (o_purN (m3) rfl rfl rfl ⟨rfl, rfl, rfl, rfl⟩ rfl) ?_; conv => whnf))
  rfl
theorem c_markTabN (L : List Col) (rows : List VRow) (next : Int) (k : Nat) (hf : L.length ≤ 3000000) (hl : rows.length ≤ 3000000) (hv : ∀ x ∈ rows, x.vals.length ≤ 3000000) (hk1 : 1 ≤ k) (hk : k + tabW L.length 0 (lens rows) ≤ 1000000000) :
    CallsV Tryz.prog 30 [.agg [.own 0 0 L.length, nilG, .own 1 0 rows.length, .g (.int .i64 next)], iS k] [.arr 49 7 (L.map encCol), .reg 45 3 (rows.map encVRowN) []]
      (funQ (iS ((k + tabW L.length 0 (lens rows) : Nat) : Int)) [some (.arr 49 7 ((mkCols L.length k).map encCol)), some (.reg 45 3 ((mkRows (lens rows) (k + 7 * L.length)).map encVRowN) [])] []) := by
  unfold tabW at hk ⊢
  have mC := c_markCols L k hf hk1 (by omega)
  have mH := c_markChanges0 ((k + 7 * L.length : Nat) : Int)
  have mR := c_markRows rows (k + 7 * L.length) hl hv (by omega) (by omega)
  refine funF_walk hTb Tryz.func30 rfl rfl Tryz.ntmps30 (by simp) (by simp) ?_
  (conv => whnf); repeat' (first
    | (refine And.intro ?_ ?_ <;> ((try intro h) <;> (try simp only [Bool.not_true, Bool.not_false, decide_eq_true_eq, decide_eq_false_iff_not, Int.not_lt, Int.not_le, gt_iff_lt, ge_iff_le] at h) <;> first | exact absurd h Bool.false_ne_true | exact absurd h.symm Bool.false_ne_true | conv => whnf))
    | (refine VL.drawS hTb hMix (by kernel_rfl) (by kernel_rfl) (by kernel_rfl) ?_; conv => whnf)
    | (refine Need.mk ?_; kernel_rfl) | (refine Need.mk ⟨rfl, ?_⟩; decide)
    | (refine VR.fun hTb rfl rfl (o_funN (mC) false [0] (fun h => by cases h) (by simp) rfl rfl rfl rfl rfl ⟨rfl, rfl, rfl, rfl⟩ rfl rfl) ?_; conv => whnf)
    | (refine DT.fun hTb rfl (o_funN (mC) false [0] (fun h => by cases h) (by simp) rfl rfl rfl rfl rfl ⟨rfl, rfl, rfl, rfl⟩ rfl rfl) rfl ?_; conv => whnf)
    | (refine VR.pure hTb rfl rfl (o_purN (mH) rfl rfl rfl ⟨rfl, rfl, rfl, rfl⟩ rfl) ?_; conv => whnf)
    | (refine DT.pure hTb rfl (o_purN (mH) rfl rfl rfl ⟨rfl, rfl, rfl, rfl⟩ rfl) ?_; conv => whnf)
    | (refine VR.fun hTb rfl rfl (o_funN (mR) false [1] (fun h => by cases h) (by simp) rfl rfl rfl rfl rfl ⟨rfl, rfl, rfl, rfl⟩ rfl rfl) ?_; conv => whnf)
    | (refine DT.fun hTb rfl (o_funN (mR) false [1] (fun h => by cases h) (by simp) rfl rfl rfl rfl rfl ⟨rfl, rfl, rfl, rfl⟩ rfl rfl) rfl ?_; conv => whnf))
  exact endW [] rfl rfl rfl rfl rfl (LeS.of_eq (congrArg (fun n : Nat => iS n) (by omega))) rfl rfl
theorem c_heldCols0 (k : Int) : CallsV Tryz.prog 43 [.one nilG, iS k] [] (pureQ (iS k)) := by
  refine pure_walk hTb Tryz.func43 rfl rfl Tryz.ntmps43 (by simp) ?_
  (conv => whnf); repeat' (first | (refine And.intro ?_ ?_ <;> ((try intro h) <;> (try simp only [Bool.not_true, Bool.not_false] at h) <;> first | exact absurd h Bool.false_ne_true | exact absurd h.symm Bool.false_ne_true | conv => whnf)) | (refine Need.mk ?_; kernel_rfl) | (refine Need.mk ⟨rfl, ?_⟩; decide))
  refine VL.loopI hTb (fun i => i = 0) (fun _ => ⟨[(0, .one nilG), (1, iS k), (5, iS (0 : Nat))], [], []⟩) (fun i => i) 0 rfl (wk_to [] rfl rfl rfl ⟨rfl, rfl, rfl, trivial⟩ trivial) (fun i hi => ?_)
  (conv => whnf)
  refine And.intro (fun h2 => absurd h2 (by simp)) (fun h2 => ?_)
  (conv => whnf)
  rfl
theorem c_heldChanges0 (k : Int) : CallsV Tryz.prog 119 [.one nilG, iS k] [] (pureQ (iS k)) := by
  refine pure_walk hTb Tryz.func119 rfl rfl Tryz.ntmps119 (by simp) ?_
  (conv => whnf); repeat' (first | (refine And.intro ?_ ?_ <;> ((try intro h) <;> (try simp only [Bool.not_true, Bool.not_false] at h) <;> first | exact absurd h Bool.false_ne_true | exact absurd h.symm Bool.false_ne_true | conv => whnf)) | (refine Need.mk ?_; kernel_rfl) | (refine Need.mk ⟨rfl, ?_⟩; decide))
  refine VL.loopI hTb (fun i => i = 0) (fun _ => ⟨[(0, .one nilG), (1, iS k), (5, iS (0 : Nat))], [], []⟩) (fun i => i) 0 rfl (wk_to [] rfl rfl rfl ⟨rfl, rfl, rfl, trivial⟩ trivial) (fun i hi => ?_)
  (conv => whnf)
  refine And.intro (fun h2 => absurd h2 (by simp)) (fun h2 => ?_)
  (conv => whnf)
  rfl
theorem c_heldRows0 (k : Int) : CallsV Tryz.prog 120 [.one nilG, iS k] [] (pureQ (iS k)) := by
  refine pure_walk hTb Tryz.func120 rfl rfl Tryz.ntmps120 (by simp) ?_
  (conv => whnf); repeat' (first | (refine And.intro ?_ ?_ <;> ((try intro h) <;> (try simp only [Bool.not_true, Bool.not_false] at h) <;> first | exact absurd h Bool.false_ne_true | exact absurd h.symm Bool.false_ne_true | conv => whnf)) | (refine Need.mk ?_; kernel_rfl) | (refine Need.mk ⟨rfl, ?_⟩; decide))
  refine VL.loopI hTb (fun i => i = 0) (fun _ => ⟨[(0, .one nilG), (1, iS k), (5, iS (0 : Nat))], [], []⟩) (fun i => i) 0 rfl (wk_to [] rfl rfl rfl ⟨rfl, rfl, rfl, trivial⟩ trivial) (fun i hi => ?_)
  (conv => whnf)
  refine And.intro (fun h2 => absurd h2 (by simp)) (fun h2 => ?_)
  (conv => whnf)
  rfl
theorem c_heldTab0 (k : Int) (hk : ¬ k < 0) : CallsV Tryz.prog 51 [nilTab, iS k] [] (pureQ (iS k)) := by
  have m1 := c_heldCols0 k
  have m2 := c_heldChanges0 k
  have m3 := c_heldRows0 k
  refine pure_walk hTb Tryz.func51 rfl rfl Tryz.ntmps51 (by simp) ?_
  (conv => whnf); repeat' (first
    | (exact absurd h hk)
    | (refine And.intro ?_ ?_ <;> ((try intro h) <;> (try simp only [Bool.not_true, Bool.not_false, decide_eq_true_eq, decide_eq_false_iff_not, Int.not_lt, Int.not_le, gt_iff_lt, ge_iff_le] at h) <;> first | exact absurd h Bool.false_ne_true | exact absurd h.symm Bool.false_ne_true | conv => whnf))
    | (refine VL.drawS hTb hMix (by kernel_rfl) (by kernel_rfl) (by kernel_rfl) ?_; conv => whnf)
    | (refine Need.mk ?_; kernel_rfl) | (refine Need.mk ⟨rfl, ?_⟩; decide)
    | (refine VR.pure hTb rfl rfl (o_purN (m1) rfl rfl rfl ⟨rfl, rfl, rfl, rfl⟩ rfl) ?_; conv => whnf)
    | (refine DT.pure hTb rfl (o_purN (m1) rfl rfl rfl ⟨rfl, rfl, rfl, rfl⟩ rfl) ?_; conv => whnf)
    | (refine VR.pure hTb rfl rfl (o_purN (m2) rfl rfl rfl ⟨rfl, rfl, rfl, rfl⟩ rfl) ?_; conv => whnf)
    | (refine DT.pure hTb rfl (o_purN (m2) rfl rfl rfl ⟨rfl, rfl, rfl, rfl⟩ rfl) ?_; conv => whnf)
    | (refine VR.pure hTb rfl rfl (o_purN (m3) rfl rfl rfl ⟨rfl, rfl, rfl, rfl⟩ rfl) ?_; conv => whnf)
    | (refine DT.pure hTb rfl (o_purN (m3) rfl rfl rfl ⟨rfl, rfl, rfl, rfl⟩ rfl) ?_; conv => whnf))
  rfl
theorem c_heldTabN (n : Nat) (ns : List Nat) (next : Int) (k : Nat) (hf : n ≤ 3000000) (hl : ns.length ≤ 3000000) (hv : ∀ x ∈ ns, x ≤ 3000000) (hk1 : 1 ≤ k) (hk : k + tabW n 0 ns ≤ 1000000000) :
    CallsV Tryz.prog 51 [.agg [.imm 7 ((mkCols n k).map encCol), nilG, .imm 3 ((mkRows ns (k + 7 * n)).map encVRow), .g (.int .i64 next)], iS k] [] (pureQ (iS ((k + tabW n 0 ns : Nat) : Int))) := by
  unfold tabW at hk ⊢
  have mC := c_heldCols n k hf hk1 (by omega)
  have mH := c_heldChanges0 ((k + 7 * n : Nat) : Int)
  have mR := c_heldRows ns (k + 7 * n) hl hv (by omega) (by omega)
  have n1 : ¬ (((k + 7 * n : Nat) : Int) < 0) := by omega
  have n3 : ¬ (((k + 7 * n + rowsW ns : Nat) : Int) < 0) := by omega
  refine pure_walk hTb Tryz.func51 rfl rfl Tryz.ntmps51 (by simp) ?_
  (conv => whnf); repeat' (first
    | (exact absurd h n1)
    | (exact absurd h n3)
    | (refine And.intro ?_ ?_ <;> ((try intro h) <;> (try simp only [Bool.not_true, Bool.not_false, decide_eq_true_eq, decide_eq_false_iff_not, Int.not_lt, Int.not_le, gt_iff_lt, ge_iff_le] at h) <;> first | exact absurd h Bool.false_ne_true | exact absurd h.symm Bool.false_ne_true | conv => whnf))
    | (refine VL.drawS hTb hMix (by kernel_rfl) (by kernel_rfl) (by kernel_rfl) ?_; conv => whnf)
    | (refine Need.mk ?_; kernel_rfl) | (refine Need.mk ⟨rfl, ?_⟩; decide)
    | (refine VR.pure hTb rfl rfl (o_purN (mC) rfl rfl rfl ⟨rfl, rfl, rfl, rfl⟩ rfl) ?_; conv => whnf)
    | (refine DT.pure hTb rfl (o_purN (mC) rfl rfl rfl ⟨rfl, rfl, rfl, rfl⟩ rfl) ?_; conv => whnf)
    | (refine VR.pure hTb rfl rfl (o_purN (mH) rfl rfl rfl ⟨rfl, rfl, rfl, rfl⟩ rfl) ?_; conv => whnf)
    | (refine DT.pure hTb rfl (o_purN (mH) rfl rfl rfl ⟨rfl, rfl, rfl, rfl⟩ rfl) ?_; conv => whnf)
    | (refine VR.pure hTb rfl rfl (o_purN (mR) rfl rfl rfl ⟨rfl, rfl, rfl, rfl⟩ rfl) ?_; conv => whnf)
    | (refine DT.pure hTb rfl (o_purN (mR) rfl rfl rfl ⟨rfl, rfl, rfl, rfl⟩ rfl) ?_; conv => whnf))
  exact congrArg (fun n : Nat => iS n) (by omega)
theorem brwNow (L : List Col) (R : List VRow) {n m : Nat} (hn : L.length = n) (hm : R.length = m) (next : Int) : Slot.agg [.imm 7 (((L.map encCol).drop 0).take n), nilG, .imm 3 (((unNss (R.map encVRowN)).drop 0).take m), .g (.int .i64 next)] = .agg [.imm 7 (L.map encCol), nilG, .imm 3 (R.map encVRow), .g (.int .i64 next)] := by
  subst hn hm
  rw [unN_VRows, fzC, List.drop_zero, List.take_of_length_le (by simp)]
theorem grNss_of : ∀ {rows : List (List Leaf)}, (∀ r ∈ rows, GrNs r) → GrNss rows
  | [], _ => trivial
  | r :: rs, h => ⟨h r (by simp), grNss_of fun x hx => h x (by simp [hx])⟩
theorem grValN (l : List Val) : GrNss (l.map encVal) := grNss_of fun r hr => by
  obtain ⟨v, _, rfl⟩ := List.mem_map.1 hr
  exact ⟨trivial, trivial, trivial, trivial⟩
theorem grNow (L : List Col) (R : List VRow) (n m : Nat) (next : Int) {E E2 : TypeId} : GrS (.agg [.own 0 0 n, nilG, .own 1 0 m, .g (.int .i64 next)]) ∧ (∀ ob, some ob ∈ ([] : List (Option Ob)) → GrO ob) ∧ ∀ ob ∈ [Ob.arr E 7 (L.map encCol), Ob.reg E2 3 (R.map encVRowN) []], GrO ob := by
  refine ⟨fun l hl => ?_, fun _ h => by simp at h, fun ob h => ?_⟩
  · simp at hl
    rcases hl with rfl | rfl | rfl | rfl <;> rfl
  · simp at h
    rcases h with rfl | rfl
    · exact grCols L
    · refine ⟨grNss_of fun r hr => ?_, fun h hh => by cases hh⟩
      obtain ⟨v, _, rfl⟩ := List.mem_map.1 hr
      exact ⟨trivial, trivial, grValN v.vals, trivial⟩
theorem rowsW_le {m : Nat} : ∀ (ns : List Nat), (∀ x ∈ ns, x ≤ m) → rowsW ns ≤ ns.length * (2 + 3 * m)
  | [], _ => by simp [rowsW]
  | n :: ns, h => by
    have h1 := rowsW_le ns fun x hx => h x (by simp [hx])
    have h2 := h n (by simp)
    rw [rowsW, List.length_cons, Nat.add_mul, Nat.one_mul]; omega
theorem zTab_ok : zTab.ok := ⟨⟨by decide, fun x hx => by cases hx⟩, ⟨by decide, fun x hx => by cases hx⟩, ⟨by decide, fun x hx => by cases hx⟩⟩
theorem c_FnExactTableNow (t : VTable) (hv : t.ok) : CallsV Tryz.prog 10 [.agg (encVTable t)] [] (pureQ (bS true)) := by
  refine pure_walk hTb Tryz.func10 rfl rfl Tryz.ntmps10 (by simp) ?_
  (conv => whnf); repeat' (first
    | (refine And.intro ?_ ?_ <;> ((try intro h) <;> (try simp only [Bool.not_true, Bool.not_false, decide_eq_true_eq, decide_eq_false_iff_not, Int.not_lt, Int.not_le, gt_iff_lt, ge_iff_le] at h) <;> first | exact absurd h Bool.false_ne_true | exact absurd h.symm Bool.false_ne_true | conv => whnf))
    | (refine VL.drawS hTb hMix (by kernel_rfl) (by kernel_rfl) (by kernel_rfl) ?_; conv => whnf)
    | (refine Need.mk ?_; kernel_rfl) | (refine Need.mk ⟨rfl, ?_⟩; decide)
    | (refine VR.rel hTb rfl rfl (o_relN (y_VTableN t hv _ (by omega) (by omega)) false [] (fun _ _ => ⟨by simp, fun h => by cases h⟩) rfl rfl rfl rfl rfl ⟨rfl, rfl, rfl, rfl⟩ rfl rfl) ?_; rintro y1 hy1; (try simp only at hy1); conv => whnf)
    | (refine DT.rel hTb rfl (o_relN (y_VTableN t hv _ (by omega) (by omega)) false [] (fun _ _ => ⟨by simp, fun h => by cases h⟩) rfl rfl rfl rfl rfl ⟨rfl, rfl, rfl, rfl⟩ rfl rfl) [] (by kernel_rfl) (by kernel_rfl) ?_; rintro y1 hy1; (try simp only at hy1); refine And.intro rfl (And.intro rfl ?_); conv => whnf))
  · rfl
  have h1 : 0 ≤ y1 := by first | omega | (simp at h; omega)
  obtain ⟨hm, h2, hw⟩ := hy1.2 h1
  have cT := t_VTable t (md_sm hm h2)
  have uT := u_VTable t hm h2
  have c2 := c_specTableNow t hm
  have eT := e_VTable t hv
  have mT := c_markTable t 1 (by omega) (by omega) (by have := hm.r; omega) (fun x hx => by have := (hm.rm x hx).1; omega) (by omega) (tabW_le h2 hw)
  have n1 : ¬ (((1 + tabW t.first.length t.changes.length (lens t.rows) : Nat) : Int) < 0) := by omega
  cases hk : tabOk t with
  | false =>
    have c1 := c_implNowNo t hm hk
    unfold tNw at c2
    rw [hk, if_neg (by simp)] at c2
    have eZ := CallsV.le (args' := [nilTab, .agg (encVTable zTab)]) (e_VTable zTab zTab_ok) ⟨⟨.inr ⟨7, rfl, rfl⟩, .inr ⟨10, rfl, rfl⟩, .inr ⟨3, rfl, rfl⟩, .inl rfl, trivial⟩, LeS.refl _, trivial⟩
    have mZ := c_markTab0 1 (by decide)
    have hZ := c_heldTab0 1 (by decide)
    (conv => whnf); repeat' (first
    | (exact absurd h n1)
    | (refine absurd h ?_; (simp; done))
    | (refine And.intro ?_ ?_ <;> ((try intro h) <;> (try simp only [Bool.not_true, Bool.not_false, decide_eq_true_eq, decide_eq_false_iff_not, Int.not_lt, Int.not_le, gt_iff_lt, ge_iff_le] at h) <;> first | exact absurd h Bool.false_ne_true | exact absurd h.symm Bool.false_ne_true | conv => whnf))
    | (refine VL.drawS hTb hMix (by kernel_rfl) (by kernel_rfl) (by kernel_rfl) ?_; conv => whnf)
    | (refine Need.mk ?_; kernel_rfl) | (refine Need.mk ⟨rfl, ?_⟩; decide)
    | (refine VR.fun (o := ⟨some 20, _, _, _, _, _⟩) hTb rfl rfl (o_funN uT false [] (fun h => by cases h) (by simp) rfl rfl rfl rfl rfl ⟨rfl, rfl, rfl, rfl⟩ rfl rfl) ?_; conv => whnf)
    | (refine VR.pure hTb rfl rfl (o_purF (cT) rfl rfl rfl ⟨rfl, rfl, rfl, rfl⟩ rfl) ?_; conv => whnf)
    | (refine DT.pure hTb rfl (o_purF (cT) rfl rfl rfl ⟨rfl, rfl, rfl, rfl⟩ rfl) ?_; conv => whnf)
    | (refine VR.pure hTb rfl rfl (o_purF (c2) rfl rfl rfl ⟨rfl, rfl, rfl, rfl⟩ rfl) ?_; conv => whnf)
    | (refine DT.pure hTb rfl (o_purF (c2) rfl rfl rfl ⟨rfl, rfl, rfl, rfl⟩ rfl) ?_; conv => whnf)
    | (refine VR.pure hTb rfl rfl (o_purN (c1) rfl rfl rfl ⟨rfl, rfl, rfl, rfl⟩ rfl) ?_; conv => whnf)
    | (refine DT.pure hTb rfl (o_purN (c1) rfl rfl rfl ⟨rfl, rfl, rfl, rfl⟩ rfl) ?_; conv => whnf)
    | (refine VR.pure hTb rfl rfl (o_purN c1 rfl rfl rfl ⟨rfl, rfl, rfl, rfl⟩ ?_) ?_; exact congrArg (fun s => [s]) (brwTab t); conv => whnf)
    | (refine DT.pure hTb rfl (o_purN eT rfl rfl rfl ⟨rfl, rfl, rfl, rfl⟩ ?_) ?_; exact congrArg (fun s => [s, _]) (brwTab t); conv => whnf)
    | (refine VR.pure hTb rfl rfl (o_purN (eZ) rfl rfl rfl ⟨rfl, rfl, rfl, rfl⟩ rfl) ?_; conv => whnf)
    | (refine DT.pure hTb rfl (o_purN (eZ) rfl rfl rfl ⟨rfl, rfl, rfl, rfl⟩ rfl) ?_; conv => whnf)
    | (refine VR.pure hTb rfl rfl (o_purN (mZ) rfl rfl rfl ⟨rfl, rfl, rfl, rfl⟩ rfl) ?_; conv => whnf)
    | (refine DT.pure hTb rfl (o_purN (mZ) rfl rfl rfl ⟨rfl, rfl, rfl, rfl⟩ rfl) ?_; conv => whnf)
    | (refine VR.pure hTb rfl rfl (o_purN (hZ) rfl rfl rfl ⟨rfl, rfl, rfl, rfl⟩ rfl) ?_; conv => whnf)
    | (refine DT.pure hTb rfl (o_purN (hZ) rfl rfl rfl ⟨rfl, rfl, rfl, rfl⟩ rfl) ?_; conv => whnf)
    | (refine VR.fun hTb rfl rfl (o_funN (mT) false [1080, 1081, 1082] (fun h => by cases h) (by simp) rfl rfl rfl rfl rfl ⟨rfl, rfl, rfl, rfl⟩ rfl rfl) ?_; conv => whnf)
    | (refine DT.fun hTb rfl (o_funN (mT) false [1080, 1081, 1082] (fun h => by cases h) (by simp) rfl rfl rfl rfl rfl ⟨rfl, rfl, rfl, rfl⟩ rfl rfl) rfl ?_; conv => whnf))
    all_goals first
      | rfl
      | trace_state
  | true =>
    have c1 := c_implNowYes t hm hk
    unfold tNw at c2
    rw [hk, if_pos rfl] at c2
    have hLl := tL_len t
    have hRl : (t.rows.map (nowRow t)).length = t.rows.length := by simp
    have hRo : ∀ x ∈ t.rows.map (nowRow t), x.vals.length ≤ 2900000 ∧ mdVals x.vals := by
      intro x hx
      obtain ⟨r, hr, rfl⟩ := List.mem_map.1 hx
      have := (hm.rm r hr)
      have h3 := tNow_len t r
      exact ⟨by show (tNow t r).length ≤ _; omega, tNow_md hm this.2⟩
    have hLm := tL_md hm
    rw [← hRl] at c1
    have hR8 := (tabOk_iff.1 hk).r8
    have hRw : rowsW (lens (t.rows.map (nowRow t))) ≤ 100000000 := by
      have h5 := rowsW_le (m := 2900000) (lens (t.rows.map (nowRow t))) (fun x hx => by obtain ⟨r, hr, rfl⟩ := List.mem_map.1 hx; exact (hRo r hr).1)
      have h6 : (lens (t.rows.map (nowRow t))).length ≤ 8 := by simp; exact hR8
      have h7 := Nat.mul_le_mul_right (2 + 3 * 2900000) h6
      omega
    generalize t.rows.map (nowRow t) = R at c1 c2 hRl hRo hRw
    generalize tL t = L at c1 c2 hLl hLm
    have hTo : VTable.ok ⟨L, [], R, t.next⟩ := ⟨⟨lmax (show L.length ≤ _ by omega), hLm.ok⟩, ⟨Nat.zero_le _, fun x hx => by cases hx⟩, ⟨lmax (show R.length ≤ _ by omega), fun x hx => ⟨lmax (by have := (hRo x hx).1; omega), mdv_ok (hRo x hx).2⟩⟩⟩
    have eN := CallsV.le (args' := [.agg [.imm 7 (L.map encCol), nilG, .imm 3 (R.map encVRow), .g (.int .i64 t.next)], .agg (encVTable ⟨L, [], R, t.next⟩)]) (e_VTable _ hTo) ⟨⟨.inl rfl, .inr ⟨10, rfl, rfl⟩, .inl rfl, .inl rfl, trivial⟩, LeS.refl _, trivial⟩
    have mN := c_markTabN L R t.next 1 (by omega) (by omega) (fun x hx => by have := (hRo x hx).1; omega) (by omega) (by unfold tabW; omega)
    have hN := c_heldTabN L.length (lens R) t.next 1 (by omega) (by simp; omega) (fun x hx => by obtain ⟨r, hr, rfl⟩ := List.mem_map.1 hx; have := (hRo r hr).1; omega) (by omega) (by unfold tabW; omega)
    have n2 : ¬ (((1 + tabW L.length 0 (lens R) : Nat) : Int) < 0) := by omega
    (conv => whnf); repeat' (first
    | (exact absurd h n1)
    | (exact absurd h n2)
    | (refine absurd h ?_; (simp; done))
    | (refine And.intro ?_ ?_ <;> ((try intro h) <;> (try simp only [Bool.not_true, Bool.not_false, decide_eq_true_eq, decide_eq_false_iff_not, Int.not_lt, Int.not_le, gt_iff_lt, ge_iff_le] at h) <;> first | exact absurd h Bool.false_ne_true | exact absurd h.symm Bool.false_ne_true | conv => whnf))
    | (refine VL.drawS hTb hMix (by kernel_rfl) (by kernel_rfl) (by kernel_rfl) ?_; conv => whnf)
    | (refine Need.mk ?_; kernel_rfl) | (refine Need.mk ⟨rfl, ?_⟩; decide)
    | (refine VR.fun (o := ⟨some 20, _, _, _, _, _⟩) hTb rfl rfl (o_funN uT false [] (fun h => by cases h) (by simp) rfl rfl rfl rfl rfl ⟨rfl, rfl, rfl, rfl⟩ rfl rfl) ?_; conv => whnf)
    | (refine VR.pure hTb rfl rfl (o_purF (cT) rfl rfl rfl ⟨rfl, rfl, rfl, rfl⟩ rfl) ?_; conv => whnf)
    | (refine DT.pure hTb rfl (o_purF (cT) rfl rfl rfl ⟨rfl, rfl, rfl, rfl⟩ rfl) ?_; conv => whnf)
    | (refine VR.pure hTb rfl rfl (o_purF (c2) rfl rfl rfl ⟨rfl, rfl, rfl, rfl⟩ rfl) ?_; conv => whnf)
    | (refine DT.pure hTb rfl (o_purF (c2) rfl rfl rfl ⟨rfl, rfl, rfl, rfl⟩ rfl) ?_; conv => whnf)
    | (refine VR.fun hTb rfl rfl (o_funN (c1) false [] (fun h => by cases h) (by simp) rfl rfl rfl rfl rfl ⟨rfl, rfl, rfl, rfl⟩ rfl rfl) ?_; conv => whnf)
    | (refine DT.fun hTb rfl (o_funN (c1) false [] (fun h => by cases h) (by simp) rfl rfl rfl rfl rfl ⟨rfl, rfl, rfl, rfl⟩ rfl rfl) rfl ?_; conv => whnf)
    | (refine VR.fun hTb rfl rfl (o_funN (c1) true [] (fun _ => grNow _ _ _ _ _) (by simp) rfl rfl rfl rfl rfl ⟨rfl, rfl, rfl, rfl⟩ ?_ rfl) ?_; exact congrArg (fun s => [s]) (brwTab t); conv => whnf)
    | (refine DT.fun hTb rfl (o_funN (c1) true [] (fun _ => grNow _ _ _ _ _) (by simp) rfl rfl rfl rfl rfl ⟨rfl, rfl, rfl, rfl⟩ ?_ rfl) rfl ?_; exact congrArg (fun s => [s]) (brwTab t); conv => whnf)
    | (refine DT.pure hTb rfl (o_purN eT rfl rfl rfl ⟨rfl, rfl, rfl, rfl⟩ ?_) ?_; exact congrArg (fun s => [s, _]) (brwTab t); conv => whnf)
    | (refine VR.pure hTb rfl rfl (o_purN eN rfl rfl rfl ⟨rfl, rfl, rfl, rfl⟩ ?_) ?_; exact congrArg (fun s => [s, _]) (brwNow L R rfl rfl _); conv => whnf)
    | (refine VR.fun hTb rfl rfl (o_funN (mT) false [1080, 1081, 1082] (fun h => by cases h) (by simp) rfl rfl rfl rfl rfl ⟨rfl, rfl, rfl, rfl⟩ rfl rfl) ?_; conv => whnf)
    | (refine DT.fun hTb rfl (o_funN (mT) false [1080, 1081, 1082] (fun h => by cases h) (by simp) rfl rfl rfl rfl rfl ⟨rfl, rfl, rfl, rfl⟩ rfl rfl) rfl ?_; conv => whnf)
    | (refine VR.fun hTb rfl rfl (o_funN (mN) false [1088, 1089] (fun h => by cases h) (by simp) rfl rfl rfl rfl rfl ⟨rfl, rfl, rfl, rfl⟩ rfl rfl) ?_; conv => whnf)
    | (refine DT.fun hTb rfl (o_funN (mN) false [1088, 1089] (fun h => by cases h) (by simp) rfl rfl rfl rfl rfl ⟨rfl, rfl, rfl, rfl⟩ rfl rfl) rfl ?_; conv => whnf)
    | (refine VR.pure hTb rfl rfl (o_purN hN rfl rfl rfl ⟨rfl, rfl, rfl, rfl⟩ ?_) ?_; exact congrArg (fun s => [s, _]) (brwNow _ _ (by simp [mkCols]) (by rw [mkRows_len]; simp) _); conv => whnf))
    all_goals first
      | rfl
      | trace_state
end Go.Vl

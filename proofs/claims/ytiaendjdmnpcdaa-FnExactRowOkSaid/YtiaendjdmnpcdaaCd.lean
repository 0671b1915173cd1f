/- Contracts: shapes: how great, turned, alike. -/
import Derived.Test.YtiaendjdmnpcdaaCc
namespace Go.Vl
open Go Go.RowKit Go.Proofs
set_option maxRecDepth 100000
set_option maxHeartbeats 1000000

def colsI (cs : List Col) : Slot := .one (.imm 7 (cs.map encCol))
theorem row_at {cs : List Col} {i : Nat} (h : i < cs.length) : (cs.map encCol)[((i : Nat) : Int).toNat]? = some (encCol cs[i]) := by
  rw [Int.toNat_natCast, List.getElem?_map, List.getElem?_eq_getElem h]; rfl

def szGo (cs : List Col) (n : Int) : Int := match cs with
  | [] => n
  | c :: cs => if szCol c n < 0 then -1 else szGo cs (szCol c n)
def szCols (cs : List Col) (n : Int) : Int := if IntKind.i64.wrap (n - cs.length) < 0 then -1 else szGo cs (IntKind.i64.wrap (n - cs.length))

theorem c_szColS (cs : List Col) (n : Int) (hl : cs.length ≤ maxLen) : CallsV Try.prog 26 [colsI cs, iS n] [] (pureQ (iS (szCols cs n))) := by
  refine pure_walk hTb Try.func26 rfl rfl Try.ntmps26 (by simp) ?_
  (conv => whnf); repeat' (first | (refine And.intro ?_ ?_ <;> ((try intro h) <;> conv => whnf)) | (refine Need.mk ?_; kernel_rfl))
  · simp_all [szCols, iS]
  refine VL.loopI hTb (fun (x : Nat × Int) => x.1 ≤ cs.length ∧ szCols cs n = szGo (cs.drop x.1) x.2) (fun x => ⟨[(0, colsI cs), (5, iS x.1), (1, iS x.2)], [], []⟩) (fun x => cs.length - x.1) (0, IntKind.i64.wrap (n - ((cs.map encCol).length : Nat))) ⟨Nat.zero_le _, ?_⟩
    (wk_to [] rfl rfl rfl ⟨rfl, rfl, rfl, trivial⟩ trivial) (fun x hx => ?_)
  · simp_all [szCols]
    try (intro; omega)
  obtain ⟨i, y⟩ := x
  obtain ⟨hi, hf⟩ := hx
  simp only at hi hf
  (conv => whnf)
  refine And.intro (fun h2 => ?_) (fun h2 => ?_)
  · have hlt : i < cs.length := by simpa using h2
    have hrow := row_at hlt
    (conv => whnf); repeat' (first
    | (refine And.intro ?_ ?_ <;> ((try intro h) <;> conv => whnf))
    | (refine VL.draw hTb hMix (by kernel_rfl) (by kernel_rfl) ?_; conv => whnf)
    | (refine Need.mk ?_; kernel_rfl)
    | (refine VR.op hTb rfl rfl (o_index_imm hTb rfl rfl rfl rfl rfl rfl rfl (Int.natCast_nonneg _) ( hrow)) rfl ?_; conv => whnf)
    | (refine DR.op hTb rfl (o_index_imm hTb rfl rfl rfl rfl rfl rfl rfl (Int.natCast_nonneg _) ( hrow)) rfl ?_; conv => whnf)
    | (refine VR.pure hTb rfl rfl (o_purN (c_szCol _ _) rfl rfl rfl ⟨rfl, rfl, rfl, rfl⟩ rfl) ?_; conv => whnf)
    | (refine DR.pure hTb rfl (o_purN (c_szCol _ _) rfl rfl rfl ⟨rfl, rfl, rfl, rfl⟩ rfl) ?_; conv => whnf))
    · rw [hf, List.drop_eq_getElem_cons hlt, szGo]
      simp_all [iS]
    · refine ⟨(i + 1, szCol cs[i] y), ⟨hlt, ?_⟩, by show cs.length - (i + 1) < cs.length - i; omega, wk_to [] rfl rfl rfl ⟨rfl, congrArg (fun x => Slot.one (.g (.int .i64 x))) (wrap64' (by omega)), rfl, trivial⟩ trivial⟩
      rw [hf, List.drop_eq_getElem_cons hlt, szGo]
      simp_all
      try (intro; omega)
  · (conv => whnf)
    have : i = cs.length := by simp at h2; omega
    subst this
    rw [hf, List.drop_length]; rfl

def eqCol (a b : Col) : Bool := a.name.toList == b.name.toList && (a.kind == b.kind && (a.need == b.need && (a.once == b.once && ((a.d.k == b.d.k && (a.d.n == b.d.n && (a.d.t.toList == b.d.t.toList && true))) && true))))
def sameGo : List Col → List Col → Bool
  | a :: us, b :: bs => eqCol a b && sameGo us bs
  | [], [] => true
  | _, _ => false
def shapeSame (us bs : List Col) : Bool := if us.length ≠ bs.length then false else sameGo us bs
theorem sameGo_step {us bs : List Col} {i : Nat} (h1 : i < us.length) (h2 : i < bs.length) : sameGo (us.drop i) (bs.drop i) = (eqCol us[i] bs[i] && sameGo (us.drop (i + 1)) (bs.drop (i + 1))) := by
  rw [List.drop_eq_getElem_cons h1, List.drop_eq_getElem_cons h2, sameGo]
theorem sameGo_end {us bs : List Col} {i : Nat} (h1 : us.length ≤ i) (h2 : bs.length ≤ i) : sameGo (us.drop i) (bs.drop i) = true := by
  rw [List.drop_of_length_le h1, List.drop_of_length_le h2, sameGo]

theorem c_specShapeSame (us bs : List Col) (ha : us.length ≤ maxLen) : CallsV Try.prog 27 [colsI us, colsI bs] [] (pureQ (bS (shapeSame us bs))) := by
  refine pure_walk hTb Try.func27 rfl rfl Try.ntmps27 (by simp) ?_
  (conv => whnf); repeat' (first | (refine And.intro ?_ ?_ <;> ((try intro h) <;> conv => whnf)) | (refine Need.mk ?_; kernel_rfl))
  · simp_all [bS, shapeSame]
    try (intro; omega)
  have hl : us.length = bs.length := by simp at h; omega
  refine VL.loopI hTb (fun i => i ≤ us.length ∧ shapeSame us bs = sameGo (us.drop i) (bs.drop i)) (fun i => ⟨[(0, colsI us), (1, colsI bs), (5, iS i)], [], []⟩) (fun i => us.length - i) 0 ⟨Nat.zero_le _, ?_⟩
    (wk_to [] rfl rfl rfl ⟨rfl, rfl, rfl, trivial⟩ trivial) (fun i hi => ?_)
  · simp [shapeSame, hl]
  obtain ⟨hi, hf⟩ := hi
  (conv => whnf)
  refine And.intro (fun h2 => ?_) (fun h2 => ?_)
  · have hlt : i < us.length := by simpa using h2
    have hlt2 : i < bs.length := by omega
    have hrow := row_at hlt
    have hrow2 := row_at hlt2
    (conv => whnf); repeat' (first
    | (refine And.intro ?_ ?_ <;> ((try intro h) <;> conv => whnf))
    | (refine VL.draw hTb hMix (by kernel_rfl) (by kernel_rfl) ?_; conv => whnf)
    | (refine Need.mk ?_; kernel_rfl)
    | (refine VR.op hTb rfl rfl (o_index_imm hTb rfl rfl rfl rfl rfl rfl rfl (Int.natCast_nonneg _) ( hrow)) rfl ?_; conv => whnf)
    | (refine DR.op hTb rfl (o_index_imm hTb rfl rfl rfl rfl rfl rfl rfl (Int.natCast_nonneg _) ( hrow)) rfl ?_; conv => whnf)
    | (refine VR.op hTb rfl rfl (o_index_imm hTb rfl rfl rfl rfl rfl rfl rfl (Int.natCast_nonneg _) ( hrow2)) rfl ?_; conv => whnf)
    | (refine DR.op hTb rfl (o_index_imm hTb rfl rfl rfl rfl rfl rfl rfl (Int.natCast_nonneg _) ( hrow2)) rfl ?_; conv => whnf))
    · have e : eqCol us[i] bs[i] = false := by simpa using (show (!eqCol us[i] bs[i]) = true from by assumption)
      rw [hf, sameGo_step hlt hlt2, e]; rfl
    · have e : eqCol us[i] bs[i] = true := by simpa using (show (!eqCol us[i] bs[i]) = false from by assumption)
      refine ⟨i + 1, ⟨hlt, ?_⟩, by omega, wk_to [] rfl rfl rfl ⟨rfl, rfl, congrArg (fun x => Slot.one (.g (.int .i64 x))) (wrap64' (by omega)), trivial⟩ trivial⟩
      rw [hf, sameGo_step hlt hlt2, e, Bool.true_and]
  · (conv => whnf)
    have : i = us.length := by simp at h2; omega
    subst this
    rw [hf, sameGo_end (Nat.le_refl _) (by omega)]; rfl

theorem c_equalCols (us bs : List Col) (ha : us.length ≤ maxLen) : CallsV Try.prog 53 [colsI us, colsI bs] [] (pureQ (bS (shapeSame us bs))) := by
  refine pure_walk hTb Try.func53 rfl rfl Try.ntmps53 (by simp) ?_
  (conv => whnf); repeat' (first | (refine And.intro ?_ ?_ <;> ((try intro h) <;> conv => whnf)) | (refine Need.mk ?_; kernel_rfl))
  · simp_all [bS, shapeSame]
    try (intro; omega)
  have hl : us.length = bs.length := by simp at h; omega
  refine VL.loopI hTb (fun i => i ≤ us.length ∧ shapeSame us bs = sameGo (us.drop i) (bs.drop i)) (fun i => ⟨[(0, colsI us), (1, colsI bs), (12, iS ((us.map encCol).length : Nat)), (13, iS i)], [], []⟩) (fun i => us.length - i) 0 ⟨Nat.zero_le _, ?_⟩
    (wk_to [] rfl rfl rfl ⟨rfl, rfl, rfl, rfl, trivial⟩ trivial) (fun i hi => ?_)
  · simp [shapeSame, hl]
  obtain ⟨hi, hf⟩ := hi
  (conv => whnf)
  refine And.intro (fun h2 => ?_) (fun h2 => ?_)
  · have hlt : i < us.length := by simpa using h2
    have hlt2 : i < bs.length := by omega
    have hrow := row_at hlt
    have hrow2 := row_at hlt2
    (conv => whnf); repeat' (first
    | (refine And.intro ?_ ?_ <;> ((try intro h) <;> conv => whnf))
    | (refine VL.draw hTb hMix (by kernel_rfl) (by kernel_rfl) ?_; conv => whnf)
    | (refine Need.mk ?_; kernel_rfl)
    | (refine VR.op hTb rfl rfl (o_index_imm hTb rfl rfl rfl rfl rfl rfl rfl (Int.natCast_nonneg _) ( hrow)) rfl ?_; conv => whnf)
    | (refine DR.op hTb rfl (o_index_imm hTb rfl rfl rfl rfl rfl rfl rfl (Int.natCast_nonneg _) ( hrow)) rfl ?_; conv => whnf)
    | (refine VR.op hTb rfl rfl (o_index_imm hTb rfl rfl rfl rfl rfl rfl rfl (Int.natCast_nonneg _) ( hrow2)) rfl ?_; conv => whnf)
    | (refine DR.op hTb rfl (o_index_imm hTb rfl rfl rfl rfl rfl rfl rfl (Int.natCast_nonneg _) ( hrow2)) rfl ?_; conv => whnf))
    · have e : eqCol us[i] bs[i] = false := by simpa using (show (!eqCol us[i] bs[i]) = true from by assumption)
      rw [hf, sameGo_step hlt hlt2, e]; rfl
    · have e : eqCol us[i] bs[i] = true := by simpa using (show (!eqCol us[i] bs[i]) = false from by assumption)
      refine ⟨i + 1, ⟨hlt, ?_⟩, by omega, wk_to [] rfl rfl rfl ⟨rfl, rfl, rfl, congrArg (fun x => Slot.one (.g (.int .i64 x))) (wrap64' (by omega)), trivial⟩ trivial⟩
      rw [hf, sameGo_step hlt hlt2, e, Bool.true_and]
  · (conv => whnf)
    have : i = us.length := by simp at h2; omega
    subst this
    rw [hf, sameGo_end (Nat.le_refl _) (by omega)]; rfl

theorem c_implShapeSame (us bs : List Col) (ha : us.length ≤ maxLen) : CallsV Try.prog 29 [colsI us, colsI bs] [] (pureQ (bS (shapeSame us bs))) := by
  refine pure_walk hTb Try.func29 rfl rfl Try.ntmps29 (by simp) ?_
  (conv => whnf); repeat' (first
    | (refine And.intro ?_ ?_ <;> ((try intro h) <;> conv => whnf))
    | (refine VL.draw hTb hMix (by kernel_rfl) (by kernel_rfl) ?_; conv => whnf)
    | (refine Need.mk ?_; kernel_rfl)
    | (refine VR.pure hTb rfl rfl (o_purN (c_equalCols us bs ha) rfl rfl rfl ⟨rfl, rfl, rfl, rfl⟩ rfl) ?_; conv => whnf)
    | (refine DR.pure hTb rfl (o_purN (c_equalCols us bs ha) rfl rfl rfl ⟨rfl, rfl, rfl, rfl⟩ rfl) ?_; conv => whnf))
  all_goals rfl

-- turned, one by one
def zrow : List Leaf := [.g (.string ⟨#[]⟩), .g (.int .i64 0), .g (.bool false), .g (.bool false), .g (.int .i64 0), .g (.int .i64 0), .g (.string ⟨#[]⟩)]
def tr (cs : List Col) (i : Nat) : List (List Leaf) := (cs.take i).map encCol ++ List.replicate (cs.length - i) zrow
theorem tr_get {cs : List Col} {i : Nat} (hi : i ≤ cs.length) (k : Nat) : (tr cs i)[k]? = if k < i then (cs[k]?).map encCol else if k < cs.length then some zrow else none := by
  unfold tr
  rw [List.getElem?_append]
  simp only [List.length_map, List.length_take, Nat.min_eq_left hi]
  by_cases h : k < i
  · rw [if_pos h, if_pos h, List.getElem?_map, List.getElem?_take, if_pos h]
  · rw [if_neg h, if_neg h, List.getElem?_replicate]
    by_cases h2 : k < cs.length
    · rw [if_pos (by omega), if_pos h2]
    · rw [if_neg (by omega), if_neg h2]
theorem tr_set {cs : List Col} {i : Nat} (hi : i < cs.length) : (tr cs i).set i (encCol cs[i]) = tr cs (i + 1) := by
  refine List.ext_getElem? fun k => ?_
  rw [List.getElem?_set, tr_get (by omega), tr_get (by omega)]
  have hlen : (tr cs i).length = cs.length := by simp [tr]; omega
  by_cases h : i = k
  · subst h
    rw [if_pos rfl, if_pos (by omega), if_pos (by omega), List.getElem?_eq_getElem hi]; rfl
  · rw [if_neg h]
    by_cases h2 : k < i
    · rw [if_pos h2, if_pos (by omega)]
    · rw [if_neg h2, if_neg (show ¬ k < i + 1 by omega)]
theorem tr_all (cs : List Col) : tr cs cs.length = cs.map encCol := by simp [tr]

theorem c_toColS (cs : List Col) (hl : cs.length ≤ 1048576) : CallsV Try.prog 28 [colsI cs] [] (pureQ (colsI cs)) := by
  refine pureF_walk hTb Try.func28 rfl rfl Try.ntmps28 (by simp) ?_
  (conv => whnf); repeat' (first | (refine And.intro ?_ ?_ <;> ((try intro h) <;> conv => whnf)) | (refine Need.mk ?_; kernel_rfl))
  refine VR.op hTb rfl rfl (o_make (q := 107) hTb rfl rfl rfl rfl rfl rfl (by decide) (by show 64 * _ ≤ _; simp; omega) (by unfold maxLen; simp; omega) rfl (by omega)) rfl ?_
  (conv => whnf); repeat' (first | (refine And.intro ?_ ?_ <;> ((try intro h) <;> conv => whnf)) | (refine Need.mk ?_; kernel_rfl))
  refine VL.loopI hTb (fun i => i ≤ cs.length) (fun i => ⟨[(0, colsI cs), (3, .one (.own 107 0 (cs.map encCol).length)), (4, iS i)], [(107, .arr 41 7 (tr cs i))], []⟩) (fun i => cs.length - i) 0 (Nat.zero_le _)
    (wk_to [(107, 107)] rfl rfl rfl ⟨rfl, rfl, rfl, trivial⟩ ⟨rfl, ⟨_, rfl, ?_⟩, trivial⟩) (fun i hi => ?_)
  · show Ob.arr _ 7 (List.replicate _ zrow) = _
    simp [tr]
  (conv => whnf)
  refine And.intro (fun h2 => ?_) (fun h2 => ?_)
  · have hlt : i < cs.length := by simpa using h2
    have hrow := row_at hlt
    have hz : (tr cs i)[0 + ((i : Nat) : Int).toNat]? = some zrow := by
      rw [Int.toNat_natCast, Nat.zero_add, tr_get hi, if_neg (by omega), if_pos hlt]
    (conv => whnf); repeat' (first
    | (refine And.intro ?_ ?_ <;> ((try intro h) <;> conv => whnf))
    | (refine VL.draw hTb hMix (by kernel_rfl) (by kernel_rfl) ?_; conv => whnf)
    | (refine Need.mk ?_; kernel_rfl)
    | (refine VR.op hTb rfl rfl (o_index_imm hTb rfl rfl rfl rfl rfl rfl rfl (Int.natCast_nonneg _) ( hrow)) rfl ?_; conv => whnf)
    | (refine DR.op hTb rfl (o_index_imm hTb rfl rfl rfl rfl rfl rfl rfl (Int.natCast_nonneg _) ( hrow)) rfl ?_; conv => whnf)
    | (refine VR.pure hTb rfl rfl (o_purN (c_toCol _) rfl rfl rfl ⟨rfl, rfl, rfl, rfl⟩ rfl) ?_; conv => whnf)
    | (refine DR.pure hTb rfl (o_purN (c_toCol _) rfl rfl rfl ⟨rfl, rfl, rfl, rfl⟩ rfl) ?_; conv => whnf))
    · exact ⟨rfl, by omega, by simp; omega⟩
    refine VR.op hTb rfl rfl (o_store_elm hTb rfl rfl rfl rfl rfl hz rfl rfl rfl ⟨rfl, by show 0 + 7 ≤ 7; omega⟩) rfl ?_
    (conv => whnf); repeat' (first | (refine And.intro ?_ ?_ <;> ((try intro h) <;> conv => whnf)) | (refine Need.mk ?_; kernel_rfl))
    refine ⟨i + 1, hlt, by omega, wk_to [(107, 107)] rfl rfl rfl ⟨rfl, rfl, congrArg (fun x => Slot.one (.g (.int .i64 x))) (wrap64' (by unfold maxLen; omega)), trivial⟩ ⟨rfl, ⟨_, rfl, ?_⟩, trivial⟩⟩
    show Ob.arr _ 7 ((tr cs i).set (0 + ((i : Nat) : Int).toNat) (encCol cs[i])) = _
    rw [Int.toNat_natCast, Nat.zero_add, tr_set hlt]
  · (conv => whnf)
    have : i = cs.length := by simp at h2; omega
    subst this
    refine endFz rfl rfl ?_
    show Slot.one (.imm 7 (((tr cs cs.length).drop 0).take (cs.map encCol).length)) = _
    rw [tr_all, List.drop_zero, List.take_length]; rfl

-- how great
theorem szVal_le {v : Val} {n : Int} (h0 : 0 ≤ n) (h1 : n ≤ 1048576) (hv : v.t.size ≤ maxLen) : szVal v n ≤ n := by
  unfold szVal
  have : IntKind.i64.wrap (n - v.t.size) = n - v.t.size := by rw [IntKind.wrap_i64]; unfold maxLen at hv; omega
  rw [this]; split <;> omega
theorem szCol_le {c : Col} {n : Int} (h0 : 0 ≤ n) (h1 : n ≤ 1048576) (hc : c.ok) : szCol c n ≤ n := by
  unfold szCol
  have e : IntKind.i64.wrap (n - c.name.size) = n - c.name.size := by have := hc.1; rw [IntKind.wrap_i64]; unfold maxLen at this; omega
  rw [e]
  split
  · omega
  · have := szVal_le (v := c.d) (n := n - c.name.size) (by omega) (by omega) hc.2
    split <;> omega
theorem szGo_le : ∀ {cs : List Col} {n : Int}, 0 ≤ n → n ≤ 1048576 → (∀ c ∈ cs, c.ok) → szGo cs n ≤ n
  | [], n, _, _, _ => by simp [szGo]
  | c :: cs, n, h0, h1, hc => by
    unfold szGo
    have := szCol_le h0 h1 (hc c (by simp))
    split
    · omega
    · have := szGo_le (cs := cs) (n := szCol c n) (by omega) (by omega) fun c h => hc c (by simp [h])
      omega
theorem szCols_le {cs : List Col} {n : Int} (h0 : 0 ≤ n) (h1 : n ≤ 1048576) (hl : cs.length ≤ maxLen) (hc : ∀ c ∈ cs, c.ok) (hs : decide (szCols cs n < 0) = false) : cs.length ≤ 1048576 ∧ 0 ≤ szCols cs n ∧ szCols cs n ≤ 1048576 := by
  have hs' : ¬ szCols cs n < 0 := by simpa using hs
  have e : IntKind.i64.wrap (n - cs.length) = n - cs.length := by rw [IntKind.wrap_i64]; unfold maxLen at hl; omega
  have e2 : szCols cs n = if n - cs.length < 0 then -1 else szGo cs (n - cs.length) := by unfold szCols; rw [e]
  rw [e2] at hs' ⊢
  split at hs'
  · omega
  · rename_i h
    have := szGo_le (cs := cs) (n := n - cs.length) (by omega) (by omega) hc
    rw [if_neg h]
    omega

-- a thing is like itself
theorem c_eqVal_self (v : Val) : CallsV Try.prog 64 [.agg (encVal v), .agg (encVal v)] [] (pureQ (bS true)) := by
  refine pure_walk hTb Try.func64 rfl rfl Try.ntmps64 (by simp) ?_
  (conv => whnf); repeat' (first | (refine And.intro ?_ ?_ <;> ((try intro h) <;> conv => whnf)) | (refine Need.mk ?_; kernel_rfl))
  all_goals simp_all [bS]
theorem c_eqCol_self (c : Col) : CallsV Try.prog 54 [.agg (encCol c), .agg (encCol c)] [] (pureQ (bS true)) := by
  refine pure_walk hTb Try.func54 rfl rfl Try.ntmps54 (by simp) ?_
  (conv => whnf); repeat' (first
    | (refine And.intro ?_ ?_ <;> ((try intro h) <;> conv => whnf))
    | (refine VL.draw hTb hMix (by kernel_rfl) (by kernel_rfl) ?_; conv => whnf)
    | (refine Need.mk ?_; kernel_rfl)
    | (refine VR.pure hTb rfl rfl (o_purN (c_eqVal_self c.d) rfl rfl rfl ⟨rfl, rfl, rfl, rfl⟩ rfl) ?_; conv => whnf)
    | (refine DR.pure hTb rfl (o_purN (c_eqVal_self c.d) rfl rfl rfl ⟨rfl, rfl, rfl, rfl⟩ rfl) ?_; conv => whnf))
  all_goals simp_all [bS]
theorem c_eqColS_self (us : List Col) (hu : us.length ≤ maxLen) : CallsV Try.prog 30 [colsI us, colsI us] [] (pureQ (bS true)) := by
  refine pure_walk hTb Try.func30 rfl rfl Try.ntmps30 (by simp) ?_
  (conv => whnf); repeat' (first | (refine And.intro ?_ ?_ <;> ((try intro h) <;> conv => whnf)) | (refine Need.mk ?_; kernel_rfl))
  · simp at h
  refine VL.loopI hTb (fun i => i ≤ us.length) (fun i => ⟨[(0, colsI us), (1, colsI us), (5, iS i)], [], []⟩) (fun i => us.length - i) 0 (Nat.zero_le _)
    (wk_to [] rfl rfl rfl ⟨rfl, rfl, rfl, trivial⟩ trivial) (fun i hi => ?_)
  (conv => whnf)
  refine And.intro (fun h2 => ?_) (fun h2 => ?_)
  · have hlt : i < us.length := by simpa using h2
    have hrow := row_at hlt
    (conv => whnf); repeat' (first
    | (refine And.intro ?_ ?_ <;> ((try intro h) <;> conv => whnf))
    | (refine VL.draw hTb hMix (by kernel_rfl) (by kernel_rfl) ?_; conv => whnf)
    | (refine Need.mk ?_; kernel_rfl)
    | (refine VR.op hTb rfl rfl (o_index_imm hTb rfl rfl rfl rfl rfl rfl rfl (Int.natCast_nonneg _) ( hrow)) rfl ?_; conv => whnf)
    | (refine DR.op hTb rfl (o_index_imm hTb rfl rfl rfl rfl rfl rfl rfl (Int.natCast_nonneg _) ( hrow)) rfl ?_; conv => whnf)
    | (refine VR.pure hTb rfl rfl (o_purN (c_eqCol_self us[i]) rfl rfl rfl ⟨rfl, rfl, rfl, rfl⟩ rfl) ?_; conv => whnf)
    | (refine DR.pure hTb rfl (o_purN (c_eqCol_self us[i]) rfl rfl rfl ⟨rfl, rfl, rfl, rfl⟩ rfl) ?_; conv => whnf))
    · cases (show false = true from h)
    · exact ⟨i + 1, hlt, by omega, wk_to [] rfl rfl rfl ⟨rfl, rfl, congrArg (fun x => Slot.one (.g (.int .i64 x))) (wrap64' (by omega)), trivial⟩ trivial⟩
  · (conv => whnf)
    rfl

theorem c_FnExactShapeSame (us bs : List Col) (hu : us.length ≤ maxLen) (hb : bs.length ≤ maxLen) (ou : ∀ c ∈ us, c.ok) (ob : ∀ c ∈ bs, c.ok) : CallsV Try.prog 8 [colsI us, colsI bs] [] (pureQ (bS true)) := by
  refine pure_walk hTb Try.func8 rfl rfl Try.ntmps8 (by simp) ?_
  (conv => whnf); repeat' (first | (refine And.intro ?_ ?_ <;> ((try intro h) <;> conv => whnf)) | (refine Need.mk ?_; kernel_rfl))
  refine VR.pure hTb rfl rfl (o_purN (c_szColS us 1048576 hu) rfl rfl rfl ⟨rfl, rfl, rfl, rfl⟩ rfl) ?_; (conv => whnf); repeat' (first | (refine And.intro ?_ ?_ <;> ((try intro h) <;> conv => whnf)) | (refine Need.mk ?_; kernel_rfl))
  · rfl
  obtain ⟨lu, g1, g2⟩ := szCols_le (by omega) (by omega) hu ou h
  refine VR.pure hTb rfl rfl (o_purN (c_szColS bs _ hb) rfl rfl rfl ⟨rfl, rfl, rfl, rfl⟩ rfl) ?_; (conv => whnf); repeat' (first | (refine And.intro ?_ ?_ <;> ((try intro h) <;> conv => whnf)) | (refine Need.mk ?_; kernel_rfl))
  · rfl
  obtain ⟨lb, _, _⟩ := szCols_le g1 g2 hb ob h
  (conv => whnf); repeat' (first
    | (refine And.intro ?_ ?_ <;> ((try intro h) <;> conv => whnf))
    | (refine VL.draw hTb hMix (by kernel_rfl) (by kernel_rfl) ?_; conv => whnf)
    | (refine Need.mk ?_; kernel_rfl)
    | (refine VR.pure hTb rfl rfl (o_purF (c_toColS us lu) rfl rfl rfl ⟨rfl, rfl, rfl, rfl⟩ rfl) ?_; conv => whnf)
    | (refine DR.pure hTb rfl (o_purF (c_toColS us lu) rfl rfl rfl ⟨rfl, rfl, rfl, rfl⟩ rfl) ?_; conv => whnf)
    | (refine VR.pure hTb rfl rfl (o_purF (c_toColS bs lb) rfl rfl rfl ⟨rfl, rfl, rfl, rfl⟩ rfl) ?_; conv => whnf)
    | (refine DR.pure hTb rfl (o_purF (c_toColS bs lb) rfl rfl rfl ⟨rfl, rfl, rfl, rfl⟩ rfl) ?_; conv => whnf)
    | (refine VR.pure hTb rfl rfl (o_purN (c_specShapeSame us bs hu) rfl rfl rfl ⟨rfl, rfl, rfl, rfl⟩ rfl) ?_; conv => whnf)
    | (refine DR.pure hTb rfl (o_purN (c_specShapeSame us bs hu) rfl rfl rfl ⟨rfl, rfl, rfl, rfl⟩ rfl) ?_; conv => whnf)
    | (refine VR.pure hTb rfl rfl (o_purN (c_implShapeSame us bs hu) rfl rfl rfl ⟨rfl, rfl, rfl, rfl⟩ rfl) ?_; conv => whnf)
    | (refine DR.pure hTb rfl (o_purN (c_implShapeSame us bs hu) rfl rfl rfl ⟨rfl, rfl, rfl, rfl⟩ rfl) ?_; conv => whnf)
    | (refine VR.pure hTb rfl rfl (o_purN (c_eqColS_self us hu) rfl rfl rfl ⟨rfl, rfl, rfl, rfl⟩ rfl) ?_; conv => whnf)
    | (refine DR.pure hTb rfl (o_purN (c_eqColS_self us hu) rfl rfl rfl ⟨rfl, rfl, rfl, rfl⟩ rfl) ?_; conv => whnf)
    | (refine VR.pure hTb rfl rfl (o_purN (c_eqColS_self bs hb) rfl rfl rfl ⟨rfl, rfl, rfl, rfl⟩ rfl) ?_; conv => whnf)
    | (refine DR.pure hTb rfl (o_purN (c_eqColS_self bs hb) rfl rfl rfl ⟨rfl, rfl, rfl, rfl⟩ rfl) ?_; conv => whnf))
  all_goals simp_all [bS]
end Go.Vl

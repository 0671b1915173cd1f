/- Contracts: rows of values: how great, turned, alike, sound; the law on a row. -/
import Derived.Test.YtiaendjdmnpcdaaCf
namespace Go.Vl
open Go Go.RowKit Go.Proofs
set_option maxRecDepth 100000
set_option maxHeartbeats 2000000

def valsI (cs : List Val) : Slot := .one (.imm 3 (cs.map encVal))
theorem rowv_at {cs : List Val} {i : Nat} (h : i < cs.length) : (cs.map encVal)[((i : Nat) : Int).toNat]? = some (encVal cs[i]) := by
  rw [Int.toNat_natCast, List.getElem?_map, List.getElem?_eq_getElem h]; rfl

def szvGo (cs : List Val) (n : Int) : Int := match cs with
  | [] => n
  | c :: cs => if szVal c n < 0 then -1 else szvGo cs (szVal c n)
def szVals (cs : List Val) (n : Int) : Int := if IntKind.i64.wrap (n - cs.length) < 0 then -1 else szvGo cs (IntKind.i64.wrap (n - cs.length))

theorem c_szValS (cs : List Val) (n : Int) (hl : cs.length ≤ maxLen) : CallsV Try.prog 42 [valsI cs, iS n] [] (pureQ (iS (szVals cs n))) := by
  refine pure_walk hTb Try.func42 rfl rfl Try.ntmps42 (by simp) ?_
  (conv => whnf); repeat' (first | (refine And.intro ?_ ?_ <;> ((try intro h) <;> conv => whnf)) | (refine Need.mk ?_; kernel_rfl))
  · simp_all [szVals, iS]
  refine VL.loopI hTb (fun (x : Nat × Int) => x.1 ≤ cs.length ∧ szVals cs n = szvGo (cs.drop x.1) x.2) (fun x => ⟨[(0, valsI cs), (5, iS x.1), (1, iS x.2)], [], []⟩) (fun x => cs.length - x.1) (0, IntKind.i64.wrap (n - ((cs.map encVal).length : Nat))) ⟨Nat.zero_le _, ?_⟩
    (wk_to [] rfl rfl rfl ⟨rfl, rfl, rfl, trivial⟩ trivial) (fun x hx => ?_)
  · simp_all [szVals]
    try (intro; omega)
  obtain ⟨i, y⟩ := x
  obtain ⟨hi, hf⟩ := hx
  simp only at hi hf
  (conv => whnf)
  refine And.intro (fun h2 => ?_) (fun h2 => ?_)
  · have hlt : i < cs.length := by simpa using h2
    have hrow := rowv_at hlt
    (conv => whnf); repeat' (first
    | (refine And.intro ?_ ?_ <;> ((try intro h) <;> conv => whnf))
    | (refine VL.draw hTb hMix (by kernel_rfl) (by kernel_rfl) ?_; conv => whnf)
    | (refine Need.mk ?_; kernel_rfl)
    | (refine VR.op hTb rfl rfl (o_index_imm hTb rfl rfl rfl rfl rfl rfl rfl (Int.natCast_nonneg _) ( hrow)) rfl ?_; conv => whnf)
    | (refine DR.op hTb rfl (o_index_imm hTb rfl rfl rfl rfl rfl rfl rfl (Int.natCast_nonneg _) ( hrow)) rfl ?_; conv => whnf)
    | (refine VR.pure hTb rfl rfl (o_purN (c_szVal _ _) rfl rfl rfl ⟨rfl, rfl, rfl, rfl⟩ rfl) ?_; conv => whnf)
    | (refine DR.pure hTb rfl (o_purN (c_szVal _ _) rfl rfl rfl ⟨rfl, rfl, rfl, rfl⟩ rfl) ?_; conv => whnf))
    · rw [hf, List.drop_eq_getElem_cons hlt, szvGo]
      simp_all [iS]
    · refine ⟨(i + 1, szVal cs[i] y), ⟨hlt, ?_⟩, by show cs.length - (i + 1) < cs.length - i; omega, wk_to [] rfl rfl rfl ⟨rfl, congrArg (fun x => Slot.one (.g (.int .i64 x))) (wrap64' (by omega)), rfl, trivial⟩ trivial⟩
      rw [hf, List.drop_eq_getElem_cons hlt, szvGo]
      simp_all
      try (intro; omega)
  · (conv => whnf)
    have : i = cs.length := by simp at h2; omega
    subst this
    rw [hf, List.drop_length]; rfl

-- turned, one by one
def zrowv : List Leaf := [.g (.int .i64 0), .g (.int .i64 0), .g (.string ⟨#[]⟩)]
def trv (cs : List Val) (i : Nat) : List (List Leaf) := (cs.take i).map encVal ++ List.replicate (cs.length - i) zrowv
theorem trv_get {cs : List Val} {i : Nat} (hi : i ≤ cs.length) (k : Nat) : (trv cs i)[k]? = if k < i then (cs[k]?).map encVal else if k < cs.length then some zrowv else none := by
  unfold trv
  rw [List.getElem?_append]
  simp only [List.length_map, List.length_take, Nat.min_eq_left hi]
  by_cases h : k < i
  · rw [if_pos h, if_pos h, List.getElem?_map, List.getElem?_take, if_pos h]
  · rw [if_neg h, if_neg h, List.getElem?_replicate]
    by_cases h2 : k < cs.length
    · rw [if_pos (by omega), if_pos h2]
    · rw [if_neg (by omega), if_neg h2]
theorem trv_set {cs : List Val} {i : Nat} (hi : i < cs.length) : (trv cs i).set i (encVal cs[i]) = trv cs (i + 1) := by
  refine List.ext_getElem? fun k => ?_
  rw [List.getElem?_set, trv_get (by omega), trv_get (by omega)]
  have hlen : (trv cs i).length = cs.length := by simp [trv]; omega
  by_cases h : i = k
  · subst h
    rw [if_pos rfl, if_pos (by omega), if_pos (by omega), List.getElem?_eq_getElem hi]; rfl
  · rw [if_neg h]
    by_cases h2 : k < i
    · rw [if_pos h2, if_pos (by omega)]
    · rw [if_neg h2, if_neg (show ¬ k < i + 1 by omega)]
theorem trv_all (cs : List Val) : trv cs cs.length = cs.map encVal := by simp [trv]

theorem c_toValS (cs : List Val) (hl : cs.length ≤ 1048576) : CallsV Try.prog 43 [valsI cs] [] (pureQ (valsI cs)) := by
  refine pureF_walk hTb Try.func43 rfl rfl Try.ntmps43 (by simp) ?_
  (conv => whnf); repeat' (first | (refine And.intro ?_ ?_ <;> ((try intro h) <;> conv => whnf)) | (refine Need.mk ?_; kernel_rfl))
  refine VR.op hTb rfl rfl (o_make (q := 107) hTb rfl rfl rfl rfl rfl rfl (by decide) (by show 32 * _ ≤ _; simp; omega) (by unfold maxLen; simp; omega) rfl (by omega)) rfl ?_
  (conv => whnf); repeat' (first | (refine And.intro ?_ ?_ <;> ((try intro h) <;> conv => whnf)) | (refine Need.mk ?_; kernel_rfl))
  refine VL.loopI hTb (fun i => i ≤ cs.length) (fun i => ⟨[(0, valsI cs), (3, .one (.own 107 0 (cs.map encVal).length)), (4, iS i)], [(107, .arr 27 3 (trv cs i))], []⟩) (fun i => cs.length - i) 0 (Nat.zero_le _)
    (wk_to [(107, 107)] rfl rfl rfl ⟨rfl, rfl, rfl, trivial⟩ ⟨rfl, ⟨_, rfl, ?_⟩, trivial⟩) (fun i hi => ?_)
  · show Ob.arr _ 3 (List.replicate _ zrowv) = _
    simp [trv]
  (conv => whnf)
  refine And.intro (fun h2 => ?_) (fun h2 => ?_)
  · have hlt : i < cs.length := by simpa using h2
    have hrow := rowv_at hlt
    have hz : (trv cs i)[0 + ((i : Nat) : Int).toNat]? = some zrowv := by
      rw [Int.toNat_natCast, Nat.zero_add, trv_get hi, if_neg (by omega), if_pos hlt]
    (conv => whnf); repeat' (first
    | (refine And.intro ?_ ?_ <;> ((try intro h) <;> conv => whnf))
    | (refine VL.draw hTb hMix (by kernel_rfl) (by kernel_rfl) ?_; conv => whnf)
    | (refine Need.mk ?_; kernel_rfl)
    | (refine VR.op hTb rfl rfl (o_index_imm hTb rfl rfl rfl rfl rfl rfl rfl (Int.natCast_nonneg _) ( hrow)) rfl ?_; conv => whnf)
    | (refine DR.op hTb rfl (o_index_imm hTb rfl rfl rfl rfl rfl rfl rfl (Int.natCast_nonneg _) ( hrow)) rfl ?_; conv => whnf)
    | (refine VR.pure hTb rfl rfl (o_purN (c_toVal _) rfl rfl rfl ⟨rfl, rfl, rfl, rfl⟩ rfl) ?_; conv => whnf)
    | (refine DR.pure hTb rfl (o_purN (c_toVal _) rfl rfl rfl ⟨rfl, rfl, rfl, rfl⟩ rfl) ?_; conv => whnf))
    · exact ⟨rfl, by omega, by simp; omega⟩
    refine VR.op hTb rfl rfl (o_store_elm hTb rfl rfl rfl rfl rfl hz rfl rfl rfl ⟨rfl, by show 0 + 3 ≤ 3; omega⟩) rfl ?_
    (conv => whnf); repeat' (first | (refine And.intro ?_ ?_ <;> ((try intro h) <;> conv => whnf)) | (refine Need.mk ?_; kernel_rfl))
    refine ⟨i + 1, hlt, by omega, wk_to [(107, 107)] rfl rfl rfl ⟨rfl, rfl, congrArg (fun x => Slot.one (.g (.int .i64 x))) (wrap64' (by unfold maxLen; omega)), trivial⟩ ⟨rfl, ⟨_, rfl, ?_⟩, trivial⟩⟩
    show Ob.arr _ 3 ((trv cs i).set (0 + ((i : Nat) : Int).toNat) (encVal cs[i])) = _
    rw [Int.toNat_natCast, Nat.zero_add, trv_set hlt]
  · (conv => whnf)
    have : i = cs.length := by simp at h2; omega
    subst this
    refine endFz rfl rfl ?_
    show Slot.one (.imm 3 (((trv cs cs.length).drop 0).take (cs.map encVal).length)) = _
    rw [trv_all, List.drop_zero, List.take_length]; rfl

theorem szvGo_le : ∀ {cs : List Val} {n : Int}, 0 ≤ n → n ≤ 1048576 → (∀ c ∈ cs, c.t.size ≤ maxLen) → szvGo cs n ≤ n
  | [], n, _, _, _ => by simp [szvGo]
  | c :: cs, n, h0, h1, hc => by
    unfold szvGo
    have := szVal_le h0 h1 (hc c (by simp))
    split
    · omega
    · have := szvGo_le (cs := cs) (n := szVal c n) (by omega) (by omega) fun c h => hc c (by simp [h])
      omega
theorem szVals_le {cs : List Val} {n : Int} (h0 : 0 ≤ n) (h1 : n ≤ 1048576) (hl : cs.length ≤ maxLen) (hc : ∀ c ∈ cs, c.t.size ≤ maxLen) (hs : decide (szVals cs n < 0) = false) : cs.length ≤ 1048576 ∧ 0 ≤ szVals cs n ∧ szVals cs n ≤ 1048576 := by
  have hs' : ¬ szVals cs n < 0 := by simpa using hs
  have e : IntKind.i64.wrap (n - cs.length) = n - cs.length := by rw [IntKind.wrap_i64]; unfold maxLen at hl; omega
  have e2 : szVals cs n = if n - cs.length < 0 then -1 else szvGo cs (n - cs.length) := by unfold szVals; rw [e]
  rw [e2] at hs' ⊢
  split at hs'
  · omega
  · rename_i h
    have := szvGo_le (cs := cs) (n := n - cs.length) (by omega) (by omega) hc
    rw [if_neg h]
    omega

theorem c_eqValS_self (us : List Val) (hu : us.length ≤ maxLen) : CallsV Try.prog 44 [valsI us, valsI us] [] (pureQ (bS true)) := by
  refine pure_walk hTb Try.func44 rfl rfl Try.ntmps44 (by simp) ?_
  (conv => whnf); repeat' (first | (refine And.intro ?_ ?_ <;> ((try intro h) <;> conv => whnf)) | (refine Need.mk ?_; kernel_rfl))
  · simp at h
  refine VL.loopI hTb (fun i => i ≤ us.length) (fun i => ⟨[(0, valsI us), (1, valsI us), (5, iS i)], [], []⟩) (fun i => us.length - i) 0 (Nat.zero_le _)
    (wk_to [] rfl rfl rfl ⟨rfl, rfl, rfl, trivial⟩ trivial) (fun i hi => ?_)
  (conv => whnf)
  refine And.intro (fun h2 => ?_) (fun h2 => ?_)
  · have hlt : i < us.length := by simpa using h2
    have hrow := rowv_at hlt
    (conv => whnf); repeat' (first
    | (refine And.intro ?_ ?_ <;> ((try intro h) <;> conv => whnf))
    | (refine VL.draw hTb hMix (by kernel_rfl) (by kernel_rfl) ?_; conv => whnf)
    | (refine Need.mk ?_; kernel_rfl)
    | (refine VR.op hTb rfl rfl (o_index_imm hTb rfl rfl rfl rfl rfl rfl rfl (Int.natCast_nonneg _) ( hrow)) rfl ?_; conv => whnf)
    | (refine DR.op hTb rfl (o_index_imm hTb rfl rfl rfl rfl rfl rfl rfl (Int.natCast_nonneg _) ( hrow)) rfl ?_; conv => whnf)
    | (refine VR.pure hTb rfl rfl (o_purN (c_eqVal_self us[i]) rfl rfl rfl ⟨rfl, rfl, rfl, rfl⟩ rfl) ?_; conv => whnf)
    | (refine DR.pure hTb rfl (o_purN (c_eqVal_self us[i]) rfl rfl rfl ⟨rfl, rfl, rfl, rfl⟩ rfl) ?_; conv => whnf))
    · cases (show false = true from h)
    · exact ⟨i + 1, hlt, by omega, wk_to [] rfl rfl rfl ⟨rfl, rfl, congrArg (fun x => Slot.one (.g (.int .i64 x))) (wrap64' (by omega)), trivial⟩ trivial⟩
  · (conv => whnf)
    rfl


-- a sound row
def cellOk (c : Col) (v : Val) : Bool := valOk v && (v.k == 0 || v.k == c.kind) && !(c.need && v.k == 0)
def rowGo : List Col → List Val → Bool
  | c :: cs, v :: vs => cellOk c v && rowGo cs vs
  | [], [] => true
  | _, _ => false
theorem rowGo_step {cs : List Col} {vs : List Val} {i : Nat} (h1 : i < cs.length) (h2 : i < vs.length) : rowGo (cs.drop i) (vs.drop i) = (cellOk cs[i] vs[i] && rowGo (cs.drop (i + 1)) (vs.drop (i + 1))) := by
  rw [List.drop_eq_getElem_cons h1, List.drop_eq_getElem_cons h2, rowGo]
theorem rowGo_end {cs : List Col} {vs : List Val} {i : Nat} (h1 : cs.length ≤ i) (h2 : vs.length ≤ i) : rowGo (cs.drop i) (vs.drop i) = true := by
  rw [List.drop_of_length_le h1, List.drop_of_length_le h2, rowGo]
def rowIn (cs : List Col) (vs : List Val) : Bool := if vs.length ≠ cs.length then false else rowGo cs vs
def rowOk (cs : List Col) (vs : List Val) : Bool := shapeOk cs && rowIn cs vs

theorem c_specRowOk (cs : List Col) (vs : List Val) (hl : cs.length ≤ maxLen) (ho : ∀ c ∈ cs, c.ok) (hv : ∀ v ∈ vs, v.t.size ≤ maxLen) : CallsV Try.prog 41 [colsI cs, valsI vs] [] (pureQ (bS (rowOk cs vs))) := by
  refine pure_walk hTb Try.func41 rfl rfl Try.ntmps41 (by simp) ?_
  (conv => whnf); repeat' (first
    | (refine And.intro ?_ ?_ <;> ((try intro h) <;> conv => whnf))
    | (refine VL.draw hTb hMix (by kernel_rfl) (by kernel_rfl) ?_; conv => whnf)
    | (refine Need.mk ?_; kernel_rfl)
    | (refine VR.pure hTb rfl rfl (o_purN (c_specShapeOk cs hl ho) rfl rfl rfl ⟨rfl, rfl, rfl, rfl⟩ rfl) ?_; conv => whnf)
    | (refine DR.pure hTb rfl (o_purN (c_specShapeOk cs hl ho) rfl rfl rfl ⟨rfl, rfl, rfl, rfl⟩ rfl) ?_; conv => whnf))
  · have h1 : shapeOk cs = true := by simp_all
    have h3 : vs.length ≠ cs.length := by simp at h; omega
    simp only [bS, rowOk, rowIn, h1, if_pos h3, Bool.and_false]
  · have h1 : shapeOk cs = true := by simp_all
    have h3 : vs.length = cs.length := by simp at h; omega
    have h4 : rowOk cs vs = rowGo cs vs := by simp [rowOk, rowIn, h1, h3]
    clear h
    refine VL.loopI hTb (fun i => i ≤ vs.length ∧ rowGo cs vs = rowGo (cs.drop i) (vs.drop i)) (fun i => ⟨[(0, colsI cs), (1, valsI vs), (5, iS i)], [], []⟩) (fun i => vs.length - i) 0 ⟨Nat.zero_le _, rfl⟩
      (wk_to [] rfl rfl rfl ⟨rfl, rfl, rfl, trivial⟩ trivial) (fun i hi => ?_)
    obtain ⟨hi, hf⟩ := hi
    (conv => whnf)
    refine And.intro (fun h2 => ?_) (fun h2 => ?_)
    · have hlt : i < vs.length := by simpa using h2
      have hlt2 : i < cs.length := by omega
      have hrow := rowv_at hlt
      have hrow2 := row_at hlt2
      (conv => whnf); repeat' (first
    | (refine And.intro ?_ ?_ <;> ((try intro h) <;> conv => whnf))
    | (refine VL.draw hTb hMix (by kernel_rfl) (by kernel_rfl) ?_; conv => whnf)
    | (refine Need.mk ?_; kernel_rfl)
    | (refine VR.op hTb rfl rfl (o_index_imm hTb rfl rfl rfl rfl rfl rfl rfl (Int.natCast_nonneg _) ( hrow)) rfl ?_; conv => whnf)
    | (refine DR.op hTb rfl (o_index_imm hTb rfl rfl rfl rfl rfl rfl rfl (Int.natCast_nonneg _) ( hrow)) rfl ?_; conv => whnf)
    | (refine VR.op hTb rfl rfl (o_index_imm hTb rfl rfl rfl rfl rfl rfl rfl (Int.natCast_nonneg _) ( hrow2)) rfl ?_; conv => whnf)
    | (refine DR.op hTb rfl (o_index_imm hTb rfl rfl rfl rfl rfl rfl rfl (Int.natCast_nonneg _) ( hrow2)) rfl ?_; conv => whnf)
    | (refine VR.pure hTb rfl rfl (o_purN (c_specValOk vs[i] (hv _ (List.getElem_mem hlt))) rfl rfl rfl ⟨rfl, rfl, rfl, rfl⟩ rfl) ?_; conv => whnf)
    | (refine DR.pure hTb rfl (o_purN (c_specValOk vs[i] (hv _ (List.getElem_mem hlt))) rfl rfl rfl ⟨rfl, rfl, rfl, rfl⟩ rfl) ?_; conv => whnf))
      all_goals first
        | contradiction
        | (refine ⟨i + 1, ⟨hlt, ?_⟩, by omega, wk_to [] rfl rfl rfl ⟨rfl, rfl, congrArg (fun x => Slot.one (.g (.int .i64 x))) (wrap64' (by omega)), trivial⟩ trivial⟩
           rw [hf, rowGo_step hlt2 hlt]
           have e : cellOk cs[i] vs[i] = true := by
             clear hf h4 hrow hrow2 hv ho hl h1 h2 hi h3
             generalize vs[i] = v at *
             generalize cs[i] = c at *
             clear hlt hlt2
             unfold cellOk
             (try simp only [bne] at *)
             generalize (v.k == 0) = p at *
             generalize (v.k == c.kind) = q at *
             generalize valOk v = r at *
             generalize c.need = u at *
             cases p <;> cases q <;> cases r <;> cases u <;> first | rfl | (exfalso; simp at *)
           rw [e, Bool.true_and]; done)
        | (rw [h4, hf, rowGo_step hlt2 hlt]
           have e : cellOk cs[i] vs[i] = false := by
             clear hf h4 hrow hrow2 hv ho hl h1 h2 hi h3
             generalize vs[i] = v at *
             generalize cs[i] = c at *
             clear hlt hlt2
             unfold cellOk
             (try simp only [bne] at *)
             generalize (v.k == 0) = p at *
             generalize (v.k == c.kind) = q at *
             generalize valOk v = r at *
             generalize c.need = u at *
             cases p <;> cases q <;> cases r <;> cases u <;> first | rfl | (exfalso; simp at *)
           rw [e]; rfl)
    · (conv => whnf)
      rw [h4, hf, rowGo_end (by simp at h2; omega) (by simp at h2; omega)]; rfl
  · have h1 : shapeOk cs = false := by simp_all
    simp only [bS, rowOk, h1, Bool.false_and]
  · cases h

theorem c_implrowOk (cs : List Col) (vs : List Val) (hl : cs.length ≤ maxLen) (hv : ∀ v ∈ vs, v.t.size ≤ maxLen) : CallsV Try.prog 63 [colsI cs, valsI vs] [] (pureQ (bS (rowIn cs vs))) := by
  refine pure_walk hTb Try.func63 rfl rfl Try.ntmps63 (by simp) ?_
  (conv => whnf); repeat' (first | (refine And.intro ?_ ?_ <;> ((try intro h) <;> conv => whnf)) | (refine Need.mk ?_; kernel_rfl))
  · have h3 : vs.length ≠ cs.length := by simp at h; omega
    simp only [bS, rowIn, if_pos h3]
  · have h3 : vs.length = cs.length := by simp at h; omega
    have h4 : rowIn cs vs = rowGo cs vs := by simp [rowIn, h3]
    clear h
    refine VL.loopI hTb (fun i => i ≤ vs.length ∧ rowGo cs vs = rowGo (cs.drop i) (vs.drop i)) (fun i => ⟨[(0, colsI cs), (1, valsI vs), (12, valsI vs), (13, iS ((vs.map encVal).length : Nat)), (14, iS i)], [], []⟩) (fun i => vs.length - i) 0 ⟨Nat.zero_le _, rfl⟩
      (wk_to [] rfl rfl rfl ⟨rfl, rfl, rfl, rfl, rfl, trivial⟩ trivial) (fun i hi => ?_)
    obtain ⟨hi, hf⟩ := hi
    (conv => whnf)
    refine And.intro (fun h2 => ?_) (fun h2 => ?_)
    · have hlt : i < vs.length := by simpa using h2
      have hlt2 : i < cs.length := by omega
      have hrow := rowv_at hlt
      have hrow2 := row_at hlt2
      (conv => whnf); repeat' (first
    | (refine And.intro ?_ ?_ <;> ((try intro h) <;> conv => whnf))
    | (refine VL.draw hTb hMix (by kernel_rfl) (by kernel_rfl) ?_; conv => whnf)
    | (refine Need.mk ?_; kernel_rfl)
    | (refine VR.op hTb rfl rfl (o_index_imm hTb rfl rfl rfl rfl rfl rfl rfl (Int.natCast_nonneg _) ( hrow)) rfl ?_; conv => whnf)
    | (refine DR.op hTb rfl (o_index_imm hTb rfl rfl rfl rfl rfl rfl rfl (Int.natCast_nonneg _) ( hrow)) rfl ?_; conv => whnf)
    | (refine VR.op hTb rfl rfl (o_index_imm hTb rfl rfl rfl rfl rfl rfl rfl (Int.natCast_nonneg _) ( hrow2)) rfl ?_; conv => whnf)
    | (refine DR.op hTb rfl (o_index_imm hTb rfl rfl rfl rfl rfl rfl rfl (Int.natCast_nonneg _) ( hrow2)) rfl ?_; conv => whnf)
    | (refine VR.pure hTb rfl rfl (o_purN (c_implValOk vs[i] (hv _ (List.getElem_mem hlt))) rfl rfl rfl ⟨rfl, rfl, rfl, rfl⟩ rfl) ?_; conv => whnf)
    | (refine DR.pure hTb rfl (o_purN (c_implValOk vs[i] (hv _ (List.getElem_mem hlt))) rfl rfl rfl ⟨rfl, rfl, rfl, rfl⟩ rfl) ?_; conv => whnf)
    | (refine VR.pure hTb rfl rfl (o_purN (c_fits vs[i] _) rfl rfl rfl ⟨rfl, rfl, rfl, rfl⟩ rfl) ?_; conv => whnf)
    | (refine DR.pure hTb rfl (o_purN (c_fits vs[i] _) rfl rfl rfl ⟨rfl, rfl, rfl, rfl⟩ rfl) ?_; conv => whnf))
      all_goals first
        | contradiction
        | (refine ⟨i + 1, ⟨hlt, ?_⟩, by omega, wk_to [] rfl rfl rfl ⟨rfl, rfl, rfl, rfl, congrArg (fun x => Slot.one (.g (.int .i64 x))) (wrap64' (by omega)), trivial⟩ trivial⟩
           rw [hf, rowGo_step hlt2 hlt]
           have e : cellOk cs[i] vs[i] = true := by
             clear hf h4 hrow hrow2 hv hl h2 hi h3
             generalize vs[i] = v at *
             generalize cs[i] = c at *
             clear hlt hlt2
             unfold cellOk
             (try simp only [bne] at *)
             generalize (v.k == 0) = p at *
             generalize (v.k == c.kind) = q at *
             generalize valOk v = r at *
             generalize c.need = u at *
             cases p <;> cases q <;> cases r <;> cases u <;> first | rfl | (exfalso; simp at *)
           rw [e, Bool.true_and]; done)
        | (rw [h4, hf, rowGo_step hlt2 hlt]
           have e : cellOk cs[i] vs[i] = false := by
             clear hf h4 hrow hrow2 hv hl h2 hi h3
             generalize vs[i] = v at *
             generalize cs[i] = c at *
             clear hlt hlt2
             unfold cellOk
             (try simp only [bne] at *)
             generalize (v.k == 0) = p at *
             generalize (v.k == c.kind) = q at *
             generalize valOk v = r at *
             generalize c.need = u at *
             cases p <;> cases q <;> cases r <;> cases u <;> first | rfl | (exfalso; simp at *)
           rw [e]; rfl)
    · (conv => whnf)
      rw [h4, hf, rowGo_end (by simp at h2; omega) (by simp at h2; omega)]; rfl

theorem c_implRowOk (cs : List Col) (vs : List Val) (hl : cs.length ≤ maxLen) (ho : ∀ c ∈ cs, c.ok) (hv : ∀ v ∈ vs, v.t.size ≤ maxLen) : CallsV Try.prog 40 [colsI cs, valsI vs] [] (pureQ (bS (rowOk cs vs))) := by
  refine pure_walk hTb Try.func40 rfl rfl Try.ntmps40 (by simp) ?_
  (conv => whnf); repeat' (first
    | (refine And.intro ?_ ?_ <;> ((try intro h) <;> conv => whnf))
    | (refine VL.draw hTb hMix (by kernel_rfl) (by kernel_rfl) ?_; conv => whnf)
    | (refine Need.mk ?_; kernel_rfl)
    | (refine VR.pure hTb rfl rfl (o_purN (c_implShapeOk cs hl ho) rfl rfl rfl ⟨rfl, rfl, rfl, rfl⟩ rfl) ?_; conv => whnf)
    | (refine DR.pure hTb rfl (o_purN (c_implShapeOk cs hl ho) rfl rfl rfl ⟨rfl, rfl, rfl, rfl⟩ rfl) ?_; conv => whnf)
    | (refine VR.pure hTb rfl rfl (o_purN (c_implrowOk cs vs hl hv) rfl rfl rfl ⟨rfl, rfl, rfl, rfl⟩ rfl) ?_; conv => whnf)
    | (refine DR.pure hTb rfl (o_purN (c_implrowOk cs vs hl hv) rfl rfl rfl ⟨rfl, rfl, rfl, rfl⟩ rfl) ?_; conv => whnf))
  all_goals simp_all [bS, rowOk]
end Go.Vl

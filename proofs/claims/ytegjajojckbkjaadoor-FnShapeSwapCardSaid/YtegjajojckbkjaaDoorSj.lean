/- The plain laws of values: what is turned into another kind, and what is read. -/
import Derived.Test.YtegjajojckbkjaaDoorSi
namespace Go.Vl
open Go Go.RowKit Go.Proofs
set_option maxRecDepth 100000
set_option linter.unusedSimpArgs false
set_option linter.unusedVariables false
set_option maxHeartbeats 1600000

theorem tl_ext {a b : ByteArray} (h : a.toList = b.toList) : a = b := by
  rw [ByteArray.toList_eq, ByteArray.toList_eq] at h; exact ba_ext h
theorem zero_ok : valOk ⟨0, 0, ⟨#[]⟩⟩ = true := by decide +kernel
theorem valOk_nil {v : Val} (h : valOk v = true) (hk : v.k = 0) : v = ⟨0, 0, ⟨#[]⟩⟩ := by
  obtain ⟨k, n, t⟩ := v
  simp only at hk; subst hk
  unfold valOk at h
  simp only [if_true, Bool.and_eq_true, beq_iff_eq] at h
  obtain ⟨h1, h2⟩ := h
  subst h1
  rw [tl_ext (h2.trans emptyList.symm)]
theorem valOk_one {v : Val} (h : valOk v = true) (hk : v.k = 1) : v = ⟨1, v.n, ⟨#[]⟩⟩ ∧ -999 ≤ v.n ∧ v.n ≤ 999 := by
  obtain ⟨k, n, t⟩ := v
  simp only at hk; subst hk
  unfold valOk at h
  simp [Bool.and_eq_true, beq_iff_eq] at h
  obtain ⟨⟨h1, h3⟩, h2⟩ := h
  rw [tl_ext (h2.trans emptyList.symm)]
  exact ⟨rfl, h1, h3⟩
theorem valOk_two {v : Val} (h : valOk v = true) (hk : v.k = 2) : v = ⟨2, 0, v.t⟩ := by
  obtain ⟨k, n, t⟩ := v
  simp only at hk; subst hk
  unfold valOk at h
  simp [Bool.and_eq_true, beq_iff_eq] at h
  rw [h.1]
theorem num_text : ∀ i : Fin 1999, valOk ⟨2, 0, bl (Lib.itoa ((i.val : Int) - 999))⟩ = true := by decide +kernel
theorem num_text' {n : Int} (h : -999 ≤ n ∧ n ≤ 999) : valOk ⟨2, 0, bl (Lib.itoa n)⟩ = true := by
  have := num_text ⟨(n + 999).toNat, by omega⟩
  rwa [show (((n + 999).toNat : Nat) : Int) - 999 = n by omega] at this
theorem numV_cases (t : ByteArray) : (∃ n, -999 ≤ n ∧ n ≤ 999 ∧ numOf t.data.toList = some n ∧ numV t = ⟨1, n, ⟨#[]⟩⟩) ∨ numV t = ⟨0, 0, ⟨#[]⟩⟩ := by
  unfold numV
  cases e : numOf t.data.toList with
  | none => exact .inr rfl
  | some n =>
    simp only
    by_cases h : -999 ≤ n ∧ n ≤ 999
    · rw [if_pos h]; exact .inl ⟨n, h.1, h.2, rfl, rfl⟩
    · rw [if_neg h]; exact .inr rfl
theorem num1_ok {n : Int} (h : -999 ≤ n ∧ n ≤ 999) : valOk ⟨1, n, ⟨#[]⟩⟩ = true := by rw [valOk_n]; simp; omega
theorem numV_ok (t : ByteArray) : valOk (numV t) = true := by
  rcases numV_cases t with ⟨n, h1, h2, _, e⟩ | e
  · rw [e]; exact num1_ok ⟨h1, h2⟩
  · rw [e]; exact zero_ok
theorem numV_itoa {n : Int} (h : -999 ≤ n ∧ n ≤ 999) : numV (bl (Lib.itoa n)) = ⟨1, n, ⟨#[]⟩⟩ := numV_yes h (bl_list _).symm
theorem valAs_no {v : Val} {kd : Int} (h : valOk v = false ∨ ¬ (kd = 1 ∨ kd = 2)) : valAs v kd = ⟨0, 0, ⟨#[]⟩⟩ := by
  unfold valAs
  rw [if_neg]
  rintro ⟨h1, h2, _⟩
  rcases h with h | h
  · rw [h] at h1; cases h1
  · exact h h2
theorem valAs_nil (kd : Int) : valAs ⟨0, 0, ⟨#[]⟩⟩ kd = ⟨0, 0, ⟨#[]⟩⟩ := by
  unfold valAs
  rw [if_neg]
  rintro ⟨_, _, h⟩
  exact h rfl
theorem valAs_same {v : Val} {kd : Int} (h : valOk v = true) (hk : kd = 1 ∨ kd = 2) (e : v.k = kd) : valAs v kd = v := by
  unfold valAs
  rw [if_pos ⟨h, hk, by omega⟩, if_pos e]
theorem valAs_nt {v : Val} (h : valOk v = true) (hk : v.k = 1) : valAs v 2 = ⟨2, 0, bl (Lib.itoa v.n)⟩ := by
  unfold valAs
  rw [if_pos ⟨h, .inr rfl, by omega⟩, if_neg (by omega), if_pos rfl]
theorem valAs_tn {v : Val} (h : valOk v = true) (hk : v.k = 2) : valAs v 1 = numV v.t := by
  unfold valAs
  rw [if_pos ⟨h, .inl rfl, by omega⟩, if_neg (by omega), if_neg (by omega)]
/-- All that comes about. -/
theorem valAs_cases (v : Val) (kd : Int) : valAs v kd = ⟨0, 0, ⟨#[]⟩⟩ ∨ (valOk v = true ∧ (kd = 1 ∨ kd = 2) ∧ v.k = kd ∧ valAs v kd = v) ∨
    (valOk v = true ∧ v.k = 1 ∧ kd = 2 ∧ valAs v kd = ⟨2, 0, bl (Lib.itoa v.n)⟩) ∨ (valOk v = true ∧ v.k = 2 ∧ kd = 1 ∧ ∃ n, -999 ≤ n ∧ n ≤ 999 ∧ numOf v.t.data.toList = some n ∧ valAs v kd = ⟨1, n, ⟨#[]⟩⟩) := by
  by_cases h : valOk v = true
  · by_cases hk : kd = 1 ∨ kd = 2
    · rcases valOk_kind h with e | e | e
      · left; rw [valOk_nil h e]; exact valAs_nil kd
      · rcases hk with rfl | rfl
        · exact .inr (.inl ⟨h, .inl rfl, e, valAs_same h (.inl rfl) e⟩)
        · exact .inr (.inr (.inl ⟨h, e, rfl, valAs_nt h e⟩))
      · rcases hk with rfl | rfl
        · rcases numV_cases v.t with ⟨n, h1, h2, h3, h4⟩ | h4
          · exact .inr (.inr (.inr ⟨h, e, rfl, n, h1, h2, h3, (valAs_tn h e).trans h4⟩))
          · exact .inl ((valAs_tn h e).trans h4)
        · exact .inr (.inl ⟨h, .inr rfl, e, valAs_same h (.inr rfl) e⟩)
    · exact .inl (valAs_no (.inr hk))
  · exact .inl (valAs_no (.inl (by simpa using h)))
theorem valAs_ok (v : Val) (kd : Int) : valOk (valAs v kd) = true := by
  rcases valAs_cases v kd with e | ⟨h, _, _, e⟩ | ⟨h, h1, _, e⟩ | ⟨h, h1, _, n, h2, h3, _, e⟩
  · rw [e]; exact zero_ok
  · rw [e]; exact h
  · rw [e]; exact num_text' (valOk_one h h1).2
  · rw [e]; exact num1_ok ⟨h2, h3⟩
theorem valAs_kind (v : Val) (kd : Int) : (valAs v kd).k = kd ∨ valAs v kd = ⟨0, 0, ⟨#[]⟩⟩ := by
  rcases valAs_cases v kd with e | ⟨_, _, h, e⟩ | ⟨_, _, h, e⟩ | ⟨_, _, h, n, _, _, _, e⟩
  · exact .inr e
  · rw [e]; exact .inl h
  · rw [e]; exact .inl h.symm
  · rw [e]; exact .inl h.symm
theorem valAs_twice (v : Val) (kd : Int) : valAs (valAs v kd) kd = valAs v kd := by
  by_cases hk : kd = 1 ∨ kd = 2
  · rcases valAs_kind v kd with h | h
    · exact valAs_same (valAs_ok v kd) hk h
    · rw [h]; exact valAs_nil kd
  · rw [valAs_no (v := valAs v kd) (.inr hk), valAs_no (.inr hk)]
theorem valAs_ntn {v : Val} (h : valOk v = true) (hk : v.k = 1) : valAs (valAs v 2) 1 = v := by
  obtain ⟨e, hr⟩ := valOk_one h hk
  rw [valAs_nt h hk, valAs_tn (num_text' hr) rfl, numV_itoa hr]
  exact e.symm
theorem valAs_size (v : Val) (kd : Int) : (valAs v kd).t.size ≤ 4 := by
  have h := valAs_ok v kd
  rcases valOk_kind h with e | e | e
  · rw [valOk_nil h e]; decide
  · rw [(valOk_one h e).1]; show (⟨#[]⟩ : ByteArray).size ≤ 4; decide
  · exact valOk_text h e
theorem valText_ok_num {v : Val} (h : valOk v = true) (hk : v.k = 1) : valText v = bl (Lib.itoa v.n) := by
  unfold valText; rw [if_pos h, if_pos hk]
theorem turn_nt {v : Val} {kd : Int} (h2 : (valAs v kd).k = 2) (h1 : v.k = 1) : (valAs v kd).t = valText v := by
  rcases valAs_cases v kd with e | ⟨h, _, h3, e⟩ | ⟨h, h3, _, e⟩ | ⟨_, _, _, n, _, _, _, e⟩
  · rw [e] at h2; cases h2
  · rw [e, h1] at h2; cases h2
  · rw [e, valText_ok_num h h3]
  · rw [e] at h2; cases h2
theorem turn_tn {v : Val} {kd : Int} (h2 : (valAs v kd).k = 1) (h1 : v.k = 2) : v.t = valText (valAs v kd) := by
  rcases valAs_cases v kd with e | ⟨h, _, h3, e⟩ | ⟨h, h3, _, e⟩ | ⟨_, _, _, n, k1, k2, k3, e⟩
  · rw [e] at h2; cases h2
  · rw [e, h1] at h2; cases h2
  · rw [e] at h2; cases h2
  · rw [e, valText_num ⟨k1, k2⟩]
    apply ba_ext
    rw [bl_list, itoa_of_num k3]
-- what is read
theorem rdV_ok {t : ByteArray} {v : Val} (h : rdV t = some v) : valOk v = true ∧ valText v = t := by
  unfold rdV at h
  split at h
  · rename_i h0; cases h; exact ⟨zero_ok, valText_zero.trans (ba_ext h0.symm)⟩
  · split at h
    · rename_i n hn
      split at h
      · rename_i hr
        cases h
        refine ⟨num1_ok hr, ?_⟩
        rw [valText_num hr]
        exact ba_ext (by rw [bl_list, itoa_of_num hn])
      · cases h
    · split at h
      · rename_i hq
        cases h
        refine ⟨hq.2, ?_⟩
        rw [valText_mid, if_pos hq.2]
        exact ba_ext ((qt_iff (qt_size hq.1)).1 hq.1)
      · cases h
theorem rd_mid {m : ByteArray} : mid (qb ++ m ++ qb) = m := by
  apply ba_ext
  rw [mid_list, size_len, app3]
  simp
theorem qt_quote {m : ByteArray} : qt (qb ++ m ++ qb) = true := by
  have hs : 2 ≤ (qb ++ m ++ qb).size := by rw [size_len, app3]; simp
  rw [qt_iff hs, rd_mid]
theorem rdV_text (v : Val) : rdV (valText v) = if valOk v = true then some v else none := by
  by_cases h : valOk v = true
  · rw [if_pos h]
    rcases valOk_kind h with e | e | e
    · rw [valOk_nil h e, valText_zero]; unfold rdV; rw [if_pos rfl]
    · obtain ⟨e1, hr⟩ := valOk_one h e
      rw [e1, valText_num hr]
      unfold rdV
      have hn := (num_of_itoa hr.1 hr.2).1
      rw [bl_list, if_neg (fun e0 => by have := num_none (t := bl (Lib.itoa v.n)) (by rw [bl_list]; exact e0); rw [bl_list, hn] at this; cases this), hn]
      simp only
      rw [if_pos hr]
    · have e1 := valOk_two h e
      rw [e1] at h ⊢
      rw [valText_mid, if_pos h]
      unfold rdV
      rw [if_neg (fun e0 => by have := qt_none e0; rw [qt_quote] at this; cases this), qt_num qt_quote]
      simp only [rd_mid]
      rw [if_pos ⟨qt_quote, h⟩]
  · rw [if_neg h]
    have : valText v = ⟨#[]⟩ := by unfold valText; rw [if_neg h]
    rw [this]; decide +kernel
theorem valText_size (v : Val) : (valText v).size ≤ 6 := by
  by_cases h : valOk v = true
  · rcases valOk_kind h with e | e | e
    · rw [valOk_nil h e, valText_zero]; decide
    · obtain ⟨e1, hr⟩ := valOk_one h e
      have := valOk_mid (num_text' hr)
      rw [e1, valText_num hr]; omega
    · have e1 := valOk_two h e
      rw [e1] at h ⊢
      rw [valText_mid, if_pos h, size_len, app3]
      have := valOk_mid h
      simp only [List.length_cons, List.length_append, List.length_nil]
      rw [← size_len]; omega
  · have : valText v = ⟨#[]⟩ := by unfold valText; rw [if_neg h]
    rw [this]; decide
theorem rd_iff {t : ByteArray} {y : Val} (v : Val) (h : rdV t = some y) : y = v ↔ t = valText v := by
  constructor
  · rintro rfl; exact (rdV_ok h).2.symm
  · intro e
    rw [e, rdV_text] at h
    split at h
    · cases h; rfl
    · cases h
theorem numText_iff {v : Val} (h : valOk v = true) (hk : v.k = 2) : ((valAs v 1).k = 1 ↔ ∃ y, rdV v.t = some y ∧ y.k = 1) ∧ (∀ y, rdV v.t = some y → y.k = 1 → valAs v 1 = y ∧ valAs y 2 = v) := by
  have e1 := valOk_two h hk
  have key : ∀ y, rdV v.t = some y → y.k = 1 → valAs v 1 = y ∧ valAs y 2 = v := by
    intro y hy hy1
    have h0 := rdV_ok hy
    obtain ⟨e2, hr⟩ := valOk_one h0.1 hy1
    have h3 : v.t = bl (Lib.itoa y.n) := by rw [← valText_ok_num h0.1 hy1, h0.2]
    refine ⟨?_, ?_⟩
    · rw [valAs_tn h hk, h3, numV_itoa hr]; exact e2.symm
    · rw [valAs_nt h0.1 hy1, ← h3]; exact e1.symm
  refine ⟨⟨fun h1 => ?_, fun ⟨y, hy, hy1⟩ => ?_⟩, key⟩
  · have hx := valAs_ok v 1
    have h2 := turn_tn h1 hk
    refine ⟨valAs v 1, ?_, h1⟩
    rw [h2, rdV_text, if_pos hx]
  · rw [(key y hy hy1).1]; exact hy1
end Go.Vl

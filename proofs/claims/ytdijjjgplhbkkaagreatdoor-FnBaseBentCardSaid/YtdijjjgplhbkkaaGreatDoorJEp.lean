/- Contracts: bases drawn: rows that stop, rows that go. Contracts: bases drawn: rows set free, taken out; a change. Contracts: bases drawn: a row taken out with all that goes; a change. Contracts: bases drawn: columns with a key, values by name, links. -/
import Derived.Test.YtdijjjgplhbkkaaGreatDoorJEa
import Derived.Test.YtdijjjgplhbkkaaGreatDoorJEo
import Derived.Test.YtdijjjgplhbkkaaGreatDoorJEl
set_option linter.unusedSimpArgs false
set_option linter.unusedVariables false
set_option linter.unnecessarySimpa false
set_option maxRecDepth 100000
set_option maxHeartbeats 16000000

namespace Go.Vl
open Go Go.RowKit Go.Proofs
theorem c_l4Stops (b : VBase) (hD : b.dr) (K : List VRef) (hl : K.length ≤ 1000) : CallsV Tryz.prog 197 [.agg (encVBase b), vrefsI K] [] (relQ (fun _ : Bool => True) bS (fun _ => []) (fun _ => [])) := by
  have htl := hD.tl
  have hll := hD.ll
  have hL := hD.lk
  have cA := fun s => c_l4At b s (lmax (by omega))
  have cN := fun l (h : LkS b l) k hk => c_l4Names b l h k hk K (by unfold maxLen; omega)
  have cI := fun nm id => c_l4In K nm id (by unfold maxLen; omega)
  refine funF_walk hTb Tryz.func197 rfl rfl Tryz.ntmps197 (by simp) (by simp) ?_
  (conv => whnf)
  refine VL.loopI hTb (fun i => i ≤ b.links.length) (fun i => ⟨[(1, vrefsI K), (2, .one (.ptr 102 0)), (5, iS i)], [(102, .box (encVBase b))], []⟩) (fun i => b.links.length - i) 0 (Nat.zero_le _)
    (wk_to [(102, 102)] rfl rfl rfl ⟨rfl, rfl, rfl, trivial⟩ ⟨rfl, ⟨_, rfl, rfl⟩, trivial⟩) (fun i hi => ?_)
  (conv => whnf)
  refine And.intro (fun h2 => ?_) (fun h2 => ?_)
  · have hlt : i < b.links.length := by simpa using h2
    have hrow := rowVLink hlt
    have hLk := hL _ (List.getElem_mem hlt)
    have cN := cN _ hLk
    have cA := cA b.links[i].src
    obtain ⟨n', hR⟩ := rowTabZ hLk.i
    have hr8 := (hD.of hLk.i).1.rl
    have hiz := hLk.i
    generalize b.links[i] = li at hrow cN cA hR hr8 hiz
    generalize tabOf b li.src = T at hR hr8 cN
    generalize tabIx b li.src = z at cA hR hiz
    (conv => whnf); repeat' ((first | (refine And.intro ?_ ?_ <;> ((try intro h) <;> (try simp only [gS] at h) <;> first | exact absurd h gF | exact absurd h.symm gF | conv => whnf)) | (refine VL.drawS hTb hMix (by kernel_rfl) (by kernel_rfl) (by kernel_rfl) ?_) | (refine Need.mk ?_; kernel_rfl) | (refine VR.op hTb rfl rfl (o_index_imm hTb rfl rfl rfl rfl rfl rfl rfl (by omega) (hrow)) rfl ?_) | (refine DT.pure hTb rfl (o_purN (cA) rfl rfl rfl gQ rfl) ?_) | (refine DT.op hTb rfl (o_index_imm hTb rfl rfl rfl rfl rfl rfl rfl (by omega) (hR)) rfl ?_)) <;> conv => whnf)
    refine VL.loopI hTb (fun k => k ≤ T.rows.length) (fun k => ⟨[(1, vrefsI K), (2, .one (.ptr 102 0)), (5, iS i), (6, .one (.ptr 106 0)), (7, vrowsI T.rows), (8, iS k)], [(102, .box (encVBase b)), (106, .box (encVLink li))], []⟩) (fun k => T.rows.length - k) 0 (Nat.zero_le _)
      (wk_to [(102, 102), (106, 106)] rfl rfl rfl ⟨rfl, rfl, rfl, rfl, rfl, rfl, trivial⟩ ⟨rfl, ⟨_, rfl, rfl⟩, rfl, ⟨_, rfl, rfl⟩, trivial⟩) (fun k hk => ?_)
    by_cases hkt : k < T.rows.length
    · have hrw := rowVRow hkt
      have cN := cN k hkt
      generalize (_ && _) = bn at cN
      have cI := cI li.src T.rows[k].id
      generalize T.rows[k] = rk at hrw cI
      generalize inL K _ = bi at cI
      cases bi <;> cases bn <;> (conv => whnf); repeat' ((first | (exact absurd h (by simp; omega)) | (refine And.intro ?_ ?_ <;> ((try intro h) <;> (try simp only [gS] at h) <;> first | exact absurd h gF | exact absurd h.symm gF | conv => whnf)) | (refine VL.drawS hTb hMix (by kernel_rfl) (by kernel_rfl) (by kernel_rfl) ?_) | (refine Need.mk ?_; kernel_rfl) | (refine DT.op hTb rfl (o_index_imm hTb rfl rfl rfl rfl rfl rfl rfl (by omega) (hrw)) rfl ?_) | (refine DT.pure hTb rfl (o_purN (cI) rfl rfl rfl gQ rfl) ?_) | (refine DT.pure hTb rfl (o_purN (cN) rfl rfl rfl gQ rfl) ?_)) <;> conv => whnf)
      all_goals first
        | exact endR [] true rfl rfl rfl rfl rfl (LeS.refl _) rfl rfl trivial
        | exact ⟨k + 1, hkt, by omega, wk_to [(102, 102), (106, 106)] rfl rfl rfl ⟨rfl, rfl, rfl, rfl, rfl, gW (by unfold maxLen; omega), trivial⟩ ⟨rfl, ⟨_, rfl, rfl⟩, rfl, ⟨_, rfl, rfl⟩, trivial⟩⟩
        | exact ⟨i + 1, hlt, by omega, wk_to [(102, 102)] rfl rfl rfl ⟨rfl, rfl, gW (by unfold maxLen; omega), trivial⟩ ⟨rfl, ⟨_, rfl, rfl⟩, trivial⟩⟩
    · (conv => whnf); repeat' ((first | (exact absurd h (by simp; omega)) | (refine And.intro ?_ ?_ <;> ((try intro h) <;> (try simp only [gS] at h) <;> first | exact absurd h gF | exact absurd h.symm gF | conv => whnf))) <;> conv => whnf)
      all_goals first
        | exact ⟨i + 1, hlt, by omega, wk_to [(102, 102)] rfl rfl rfl ⟨rfl, rfl, gW (by unfold maxLen; omega), trivial⟩ ⟨rfl, ⟨_, rfl, rfl⟩, trivial⟩⟩
  · (conv => whnf)
    exact endR [] false rfl rfl rfl rfl rfl (LeS.refl _) rfl rfl trivial
theorem c_l4DoomedW (b : VBase) (s : VRef) (hD : b.dr) : CallsV Tryz.prog 103 [.agg (encVBase b), strS s.name, iS s.id] []
    (relQ (fun R => inB b R) (fun R => .one (.own 0 0 R.length)) (fun _ => []) (fun R => [.arr 75 2 (R.map encVRef)])) := by
  have htl := hD.tl
  have hm := hD.md
  have hfl := flatS_lenW hD.tl hD.rows8
  have hL := hD.lk
  have cI := fun (K : List VRef) nm id (h : K.length ≤ maxLen) => c_l4In K nm id h
  obtain ⟨sn, si⟩ := s
  have h25 : ([⟨sn, si⟩] : List VRef).length + cntU (spU b) [⟨sn, si⟩] ≤ 25 := by
    have h9 := cntU_le (spU b) [⟨sn, si⟩]
    have e9 : (spU b).length = (flatS b).length := by unfold spU; simp
    simp only [List.length_cons, List.length_nil]
    omega
  refine funF_walk hTb Tryz.func103 rfl rfl Tryz.ntmps103 (by simp) (by simp) ?_
  (conv => whnf)
  refine VL.loopI hTb (α := Bool × List VRef) (fun x => x.2.length + cntU (spU b) x.2 ≤ 25)
    (fun x => ⟨[(3, .one (.ptr 103 0)), (7, .one (.own 119 0 x.2.length)), (8, bS x.1)], [(103, .box (encVBase b)), (119, .arr 75 2 (x.2.map encVRef))], []⟩) (fun x => if x.1 = true then 1 + cntU (spU b) x.2 else 0) (true, [⟨sn, si⟩])
    h25
    (wk_to [(103, 103), (119, 119)] rfl rfl rfl ⟨rfl, rfl, rfl, trivial⟩ ⟨rfl, ⟨_, rfl, rfl⟩, rfl, ⟨_, rfl, rfl⟩, trivial⟩) (fun x hx => ?_)
  obtain ⟨tu, K⟩ := x
  have h3 := hx
  simp only at h3
  cases tu
  · (conv => whnf); repeat' ((first | (refine And.intro ?_ ?_ <;> ((try intro h) <;> (try simp only [Bool.not_true, Bool.not_false] at h) <;> first | exact absurd h gF | exact absurd h.symm gF | conv => whnf))) <;> conv => whnf)
    refine VL.loopI hTb (fun i => i ≤ b.tabs.length) (fun i => ⟨[(3, .one (.ptr 103 0)), (7, .one (.own 119 0 K.length)), (12, .one (.own 112 0 (goF K (preT b i)).length)), (13, iS i)], [(103, .box (encVBase b)), (119, .arr 75 2 (K.map encVRef)), (112, .arr 75 2 ((goF K (preT b i)).map encVRef))], []⟩) (fun i => b.tabs.length - i) 0 (Nat.zero_le _)
      (wk_to [(103, 103), (119, 119), (177, 112)] rfl rfl rfl ⟨rfl, rfl, rfl, rfl, trivial⟩ ⟨rfl, ⟨_, rfl, rfl⟩, rfl, ⟨_, rfl, rfl⟩, rfl, ⟨_, rfl, rfl⟩, trivial⟩) (fun i hi => ?_)
    (conv => whnf)
    refine And.intro (fun g2 => ?_) (fun g2 => ?_)
    · have hlt : i < b.tabs.length := by simpa using g2
      have hrow := rowVTab hlt
      have hps := preT_step hlt
      have hpl := preT_lenW hD.rows8 i (by omega)
      have h8 := hD.rows8 _ (List.getElem_mem hlt)
      generalize b.tabs[i] = ti at hrow hps h8
      generalize preT b i = X at hps hpl ⊢
      obtain ⟨tn, t⟩ := ti
      simp only at h8
      (conv => whnf)
      refine VL.loopI hTb (fun k => k ≤ t.rows.length) (fun k => ⟨[(3, .one (.ptr 103 0)), (7, .one (.own 119 0 K.length)), (12, .one (.own 112 0 (goF K (X ++ (t.rows.take k).map fun r => ((⟨tn, t⟩ : VTab), r))).length)), (13, iS i), (14, iS k)], [(103, .box (encVBase b)), (119, .arr 75 2 (K.map encVRef)), (112, .arr 75 2 ((goF K (X ++ (t.rows.take k).map fun r => ((⟨tn, t⟩ : VTab), r))).map encVRef))], []⟩) (fun k => t.rows.length - k) 0 (Nat.zero_le _)
        (wk_to [(103, 103), (119, 119), (112, 112)] rfl rfl rfl ⟨rfl, rfl, (by rw [List.take_zero, List.map_nil, List.append_nil]; rfl), rfl, rfl, trivial⟩ ⟨rfl, ⟨_, rfl, rfl⟩, rfl, ⟨_, rfl, rfl⟩, rfl, ⟨_, rfl, (by rw [List.take_zero, List.map_nil, List.append_nil]; rfl)⟩, trivial⟩) (fun k hk => ?_)
      (conv => whnf); repeat' ((first | (refine And.intro ?_ ?_ <;> ((try intro h) <;> (try simp only [gS] at h) <;> first | exact absurd h gF | exact absurd h.symm gF | conv => whnf)) | (refine VL.drawS hTb hMix (by kernel_rfl) (by kernel_rfl) (by kernel_rfl) ?_) | (refine VR.op hTb rfl rfl (o_index_imm hTb rfl rfl rfl rfl rfl rfl rfl (by omega) (hrow)) rfl ?_) | (refine DT.op hTb rfl (o_index_imm hTb rfl rfl rfl rfl rfl rfl rfl (by omega) (hrow)) rfl ?_)) <;> conv => whnf)
      · have hkt : k < t.rows.length := by simp at h; omega
        have hrw := rowVRow hkt
        have hst : (t.rows.take (k + 1)).map (fun r => ((⟨tn, t⟩ : VTab), r)) = (t.rows.take k).map (fun r => ((⟨tn, t⟩ : VTab), r)) ++ [(⟨tn, t⟩, t.rows[k])] := mapT_step (t := ⟨tn, t⟩) hkt
        have hgs := goF_snoc K (X ++ (t.rows.take k).map fun r => ((⟨tn, t⟩ : VTab), r)) (⟨tn, t⟩, t.rows[k])
        rw [List.append_assoc, ← hst] at hgs
        have hml : (goF K (X ++ (t.rows.take k).map fun r => ((⟨tn, t⟩ : VTab), r))).length ≤ 1000 := by
          have g4 := goF_len K (X ++ (t.rows.take k).map fun r => ((⟨tn, t⟩ : VTab), r))
          have g5 : (X ++ (t.rows.take k).map fun r => ((⟨tn, t⟩ : VTab), r)).length ≤ X.length + t.rows.length := by simp; omega
          omega
        generalize goF K (X ++ (t.rows.take k).map fun r => ((⟨tn, t⟩ : VTab), r)) = M at hgs hml ⊢
        generalize t.rows[k] = r at hrw hgs
        have hsp : spK ((⟨tn, t⟩ : VTab), r) = ⟨tn, r.id⟩ := rfl
        rw [hsp] at hgs
        have cI := cI K tn r.id (by unfold maxLen; omega)
        (conv => whnf); repeat' ((first | (refine And.intro ?_ ?_ <;> ((try intro h) <;> (try simp only [gS] at h) <;> first | exact absurd h gF | exact absurd h.symm gF | conv => whnf)) | (refine Need.mk ?_; kernel_rfl) | (refine DT.op hTb rfl (o_index_imm hTb rfl rfl rfl rfl rfl rfl rfl (by omega) (hrw)) rfl ?_) | (refine VR.pure hTb rfl rfl (o_purN (cI) rfl rfl rfl gQ (congrArg (fun s => [s, _, _]) brw)) ?_) | (refine VR.opk hTb rfl rfl (o_app1 (q := 224) (a := (⟨tn, r.id⟩ : VRef)) hTb rfl rfl rfl rfl rfl rfl rfl rfl rfl rfl rfl rfl (by omega) (by show _ * 24 ≤ _; omega) (by unfold maxLen; omega)) ?_)) <;> conv => whnf)
        · have e := hgs
          rw [if_pos h] at e
          exact ⟨k + 1, hkt, by omega, wk_to [(103, 103), (119, 119), (224, 112)] rfl rfl rfl ⟨rfl, rfl, congrArg (fun n => Slot.one (.own 112 0 n)) (by rw [e]; simp), rfl, gW (by unfold maxLen; omega), trivial⟩ ⟨rfl, ⟨_, rfl, rfl⟩, rfl, ⟨_, rfl, rfl⟩, rfl, ⟨_, rfl, congrArg (fun r : List VRef => Ob.arr 75 2 (r.map encVRef)) e.symm⟩, trivial⟩⟩
        · have e := hgs
          rw [if_neg (by rw [h]; simp)] at e
          exact ⟨k + 1, hkt, by omega, wk_to [(103, 103), (119, 119), (112, 112)] rfl rfl rfl ⟨rfl, rfl, congrArg (fun r : List VRef => Slot.one (.own 112 0 r.length)) e.symm, rfl, gW (by unfold maxLen; omega), trivial⟩ ⟨rfl, ⟨_, rfl, rfl⟩, rfl, ⟨_, rfl, rfl⟩, rfl, ⟨_, rfl, congrArg (fun r : List VRef => Ob.arr 75 2 (r.map encVRef)) e.symm⟩, trivial⟩⟩
      · have hke : k = t.rows.length := by simp at h; omega
        subst hke
        rw [List.take_length]
        exact ⟨i + 1, hlt, by omega, wk_to [(103, 103), (119, 119), (112, 112)] rfl rfl rfl ⟨rfl, rfl, congrArg (fun x => Slot.one (.own 112 0 (goF K x).length)) hps.symm, gW (by unfold maxLen; omega), trivial⟩ ⟨rfl, ⟨_, rfl, rfl⟩, rfl, ⟨_, rfl, rfl⟩, rfl, ⟨_, rfl, congrArg (fun x => Ob.arr 75 2 ((goF K x).map encVRef)) hps.symm⟩, trivial⟩⟩
    · have hie : i = b.tabs.length := by simp at g2; omega
      subst hie
      (conv => whnf)
      exact endR [112] (goL b K) rfl rfl rfl rfl rfl (LeS.of_eq (by rw [goL_pre]; rfl)) rfl (by rw [goL_pre]; rfl) (goL_inB hD K)
  · (conv => whnf); repeat' ((first | (refine And.intro ?_ ?_ <;> ((try intro h) <;> (try simp only [Bool.not_true, Bool.not_false] at h) <;> first | exact absurd h gF | exact absurd h.symm gF | conv => whnf))) <;> conv => whnf)
    refine VL.loopI hTb (fun i => i ≤ b.tabs.length) (fun i => ⟨[(3, .one (.ptr 103 0)), (7, .one (.own 119 0 (spF b K (preT b i)).length)), (8, bS (decide (K.length < (spF b K (preT b i)).length))), (9, iS i)], [(103, .box (encVBase b)), (119, .arr 75 2 ((spF b K (preT b i)).map encVRef))], []⟩) (fun i => b.tabs.length - i) 0 (Nat.zero_le _)
      (wk_to [(103, 103), (119, 119)] rfl rfl rfl ⟨rfl, rfl, (by show bS false = bS (decide (K.length < K.length)); rw [decide_eq_false (Nat.lt_irrefl _)]), rfl, trivial⟩ ⟨rfl, ⟨_, rfl, rfl⟩, rfl, ⟨_, rfl, rfl⟩, trivial⟩) (fun i hi => ?_)
    (conv => whnf)
    refine And.intro (fun g2 => ?_) (fun g2 => ?_)
    · have hlt : i < b.tabs.length := by simpa using g2
      have hrow := rowVTab hlt
      have hps := preT_step hlt
      have hpl := preT_lenW hD.rows8 i (by omega)
      have h8 := hD.rows8 _ (List.getElem_mem hlt)
      obtain ⟨hto, htx⟩ := hD.tabName (List.getElem_mem hlt)
      have cG := fun k (hk : k < (tabOf b b.tabs[i].name).rows.length) (M : List VRef) (h : M.length ≤ maxLen) => c_l4Goes b b.tabs[i].name hm hL k hk M h
      rw [hto] at cG
      generalize b.tabs[i] = ti at hrow hps h8 cG
      generalize preT b i = X at hps hpl ⊢
      obtain ⟨tn, t⟩ := ti
      simp only at h8 cG
      (conv => whnf)
      refine VL.loopI hTb (fun k => k ≤ t.rows.length) (fun k => ⟨[(3, .one (.ptr 103 0)), (7, .one (.own 119 0 (spF b K (X ++ (t.rows.take k).map fun r => ((⟨tn, t⟩ : VTab), r))).length)), (8, bS (decide (K.length < (spF b K (X ++ (t.rows.take k).map fun r => ((⟨tn, t⟩ : VTab), r))).length))), (9, iS i), (10, iS k)], [(103, .box (encVBase b)), (119, .arr 75 2 ((spF b K (X ++ (t.rows.take k).map fun r => ((⟨tn, t⟩ : VTab), r))).map encVRef))], []⟩) (fun k => t.rows.length - k) 0 (Nat.zero_le _)
        (wk_to [(103, 103), (119, 119)] rfl rfl rfl ⟨rfl, (by rw [List.take_zero, List.map_nil, List.append_nil]; rfl), (by rw [List.take_zero, List.map_nil, List.append_nil]; rfl), rfl, rfl, trivial⟩ ⟨rfl, ⟨_, rfl, rfl⟩, rfl, ⟨_, rfl, (by rw [List.take_zero, List.map_nil, List.append_nil]; rfl)⟩, trivial⟩) (fun k hk => ?_)
      (conv => whnf); repeat' ((first | (refine And.intro ?_ ?_ <;> ((try intro h) <;> (try simp only [gS] at h) <;> first | exact absurd h gF | exact absurd h.symm gF | conv => whnf)) | (refine VL.drawS hTb hMix (by kernel_rfl) (by kernel_rfl) (by kernel_rfl) ?_) | (refine VR.op hTb rfl rfl (o_index_imm hTb rfl rfl rfl rfl rfl rfl rfl (by omega) (hrow)) rfl ?_) | (refine DT.op hTb rfl (o_index_imm hTb rfl rfl rfl rfl rfl rfl rfl (by omega) (hrow)) rfl ?_)) <;> conv => whnf)
      · have hkt : k < t.rows.length := by simp at h; omega
        have hrw := rowVRow hkt
        have hst : (t.rows.take (k + 1)).map (fun r => ((⟨tn, t⟩ : VTab), r)) = (t.rows.take k).map (fun r => ((⟨tn, t⟩ : VTab), r)) ++ [(⟨tn, t⟩, t.rows[k])] := mapT_step (t := ⟨tn, t⟩) hkt
        have hgs := spF_snoc b K (X ++ (t.rows.take k).map fun r => ((⟨tn, t⟩ : VTab), r)) (⟨tn, t⟩, t.rows[k])
        rw [List.append_assoc, ← hst] at hgs
        have hge := spF_ge b K (X ++ (t.rows.take k).map fun r => ((⟨tn, t⟩ : VTab), r))
        have hml : (spF b K (X ++ (t.rows.take k).map fun r => ((⟨tn, t⟩ : VTab), r))).length ≤ 1000 := by
          have g4 := spF_le b (X ++ (t.rows.take k).map fun r => ((⟨tn, t⟩ : VTab), r)) K
          have g5 : (X ++ (t.rows.take k).map fun r => ((⟨tn, t⟩ : VTab), r)).length ≤ X.length + t.rows.length := by simp; omega
          omega
        generalize spF b K (X ++ (t.rows.take k).map fun r => ((⟨tn, t⟩ : VTab), r)) = M at hgs hge hml ⊢
        have cG := cG k hkt M (by unfold maxLen; omega)
        have hsc : spC b M ((⟨tn, t⟩ : VTab), t.rows[k]) = goesB b tn t.rows[k] M := rfl
        have hsp : spK ((⟨tn, t⟩ : VTab), t.rows[k]) = ⟨tn, t.rows[k].id⟩ := rfl
        unfold stpF insL at hgs
        rw [hsc, hsp] at hgs
        generalize goesB b tn t.rows[k] M = bg at cG hgs
        generalize t.rows[k] = r at hrw hgs
        have cI := cI M tn r.id (by unfold maxLen; omega)
        generalize inL M ⟨tn, r.id⟩ = bi at cI hgs
        cases bi <;> cases bg <;> (conv => whnf); repeat' ((first | (refine And.intro ?_ ?_ <;> ((try intro h) <;> (try simp only [gS] at h) <;> first | exact absurd h gF | exact absurd h.symm gF | conv => whnf)) | (refine Need.mk ?_; kernel_rfl) | (refine DT.op hTb rfl (o_index_imm hTb rfl rfl rfl rfl rfl rfl rfl (by omega) (hrw)) rfl ?_) | (refine VR.pure hTb rfl rfl (o_purN (cI) rfl rfl rfl gQ (congrArg (fun s => [s, _, _]) brw)) ?_) | (refine VR.pure hTb rfl rfl (o_purN (cG) rfl rfl rfl gQ (congrArg (fun s => [_, _, _, s]) brw)) ?_) | (refine VR.opk hTb rfl rfl (o_app1 (q := 176) (a := (⟨tn, r.id⟩ : VRef)) hTb rfl rfl rfl rfl rfl rfl rfl rfl rfl rfl rfl rfl (by omega) (by show _ * 24 ≤ _; omega) (by unfold maxLen; omega)) ?_)) <;> conv => whnf)
        all_goals first
          | (have e : _ = M := hgs
             exact ⟨k + 1, hkt, by omega, wk_to [(103, 103), (119, 119)] rfl rfl rfl ⟨rfl, congrArg (fun r : List VRef => Slot.one (.own 119 0 r.length)) e.symm, congrArg (fun r : List VRef => bS (decide (K.length < r.length))) e.symm, rfl, gW (by unfold maxLen; omega), trivial⟩ ⟨rfl, ⟨_, rfl, rfl⟩, rfl, ⟨_, rfl, congrArg (fun r : List VRef => Ob.arr 75 2 (r.map encVRef)) e.symm⟩, trivial⟩⟩)
          | (have e : _ = M ++ [⟨tn, r.id⟩] := hgs
             have e2 : bS true = bS (decide (K.length < (spF b K (X ++ (t.rows.take (k + 1)).map fun r => ((⟨tn, t⟩ : VTab), r))).length)) := by
               rw [e, decide_eq_true (by rw [List.length_append, List.length_cons]; omega)]
             exact ⟨k + 1, hkt, by omega, wk_to [(103, 103), (176, 119)] rfl rfl rfl ⟨rfl, congrArg (fun n => Slot.one (.own 119 0 n)) (by rw [e]; simp), e2, rfl, gW (by unfold maxLen; omega), trivial⟩ ⟨rfl, ⟨_, rfl, rfl⟩, rfl, ⟨_, rfl, congrArg (fun r : List VRef => Ob.arr 75 2 (r.map encVRef)) e.symm⟩, trivial⟩⟩)
      · have hke : k = t.rows.length := by simp at h; omega
        subst hke
        rw [List.take_length]
        exact ⟨i + 1, hlt, by omega, wk_to [(103, 103), (119, 119)] rfl rfl rfl ⟨rfl, congrArg (fun x => Slot.one (.own 119 0 (spF b K x).length)) hps.symm, congrArg (fun x => bS (decide (K.length < (spF b K x).length))) hps.symm, gW (by unfold maxLen; omega), trivial⟩ ⟨rfl, ⟨_, rfl, rfl⟩, rfl, ⟨_, rfl, congrArg (fun x => Ob.arr 75 2 ((spF b K x).map encVRef)) hps.symm⟩, trivial⟩⟩
    · have hie : i = b.tabs.length := by simp at g2; omega
      subst hie
      rw [← spP_pre]
      have hcn := spP_cnt b K
      have hge : K.length ≤ (spP b K).length := foldF_len _ _
      (conv => whnf)
      refine ⟨(decide (K.length < (spP b K).length), spP b K), ?_, ?_, wk_to [(103, 103), (119, 119)] rfl rfl rfl ⟨rfl, rfl, rfl, trivial⟩ ⟨rfl, ⟨_, rfl, rfl⟩, rfl, ⟨_, rfl, rfl⟩, trivial⟩⟩
      · simp only
        rcases hcn with hcn | hcn
        · rw [hcn]; exact h3
        · omega
      · simp only
        split
        · rename_i hd
          have hlt := of_decide_eq_true hd
          rcases hcn with hcn | hcn
          · rw [hcn] at hlt; omega
          · omega
        · omega
theorem fzVS (x : List VSet) : ((x.map encVSet).drop 0).take x.length = x.map encVSet := by rw [List.drop_zero, List.take_of_length_le (by simp)]
theorem fzTt (y : VTable) (c : Int) {n : Nat} (h : y.rows.length = n) : Slot.tup [(true, [.imm 7 (y.first.map encCol), .imm 10 (y.changes.map encChange), .imm 3 (((y.rows.map encVRow).drop 0).take n), .g (.int .i64 y.next)]), (false, [.g (.int .i64 c)])] = ttS (y, c) := by
  subst h; rw [fzRow]; rfl
theorem c_l3SetT (t : VTable) (ht : t.dr) (id : Int) (sets : List VSet) (hS : smSets sets) : CallsV Tryz.prog 136 [.agg (tdL t 0), iS id, .one (.own 1 0 sets.length)] [tdO t, .arr 209 4 (sets.map encVSet)] (relQ (fun y : VTable × Int => y.1.dr ∧ y.1.first = t.first ∧ y.1.changes = t.changes) ttS (fun _ => [none, none]) (fun _ => [])) := by
  have hm := ht.md
  have hrl := ht.rl
  have hLl := ht.lenL
  have cA := c_l3At t id (by unfold maxLen; omega)
  have hk := tAt_lt t id
  generalize tAt t id = z at cA hk
  by_cases hz : z < 0
  · refine funC_walk 0 hTb Tryz.func136 rfl rfl Tryz.ntmps136 (by simp) (by simp) (by simp) ?_
    (conv => whnf); repeat' ((first | (exact absurd h (by omega)) | (refine And.intro ?_ ?_ <;> ((try intro h) <;> (try simp only [gS] at h) <;> first | exact absurd h gF | exact absurd h.symm gF | conv => whnf)) | (refine VR.freeze hTb rfl 1 rfl rfl ?_; conv => whnf; rw [fzVS]) | (refine VR.pure hTb rfl rfl (o_purN cA rfl rfl rfl gQ ?_) ?_; exact congrArg (fun s => [s, _]) (brwTD t))) <;> conv => whnf)
    exact endCR [] (t, 5) rfl rfl rfl rfl (LeS.of_eq (fzTt t 5 rfl)) rfl rfl ⟨ht, rfl, rfl⟩
  · have hzl : z.toNat < t.rows.length := by omega
    have hmem := List.getElem_mem hzl
    have hrow : t.rows[0 + z.toNat]? = some t.rows[z.toNat] := by rw [Nat.zero_add]; exact List.getElem?_eq_getElem _
    have cL := c_l3LastO t hm
    have cN := c_l3Now t t.rows[z.toNat] hm (ht.rw _ hmem).1 (by have := (hm.rm _ hmem).1; omega) (hm.rm _ hmem).2
    have hN := ht.now hmem
    have hNm := tNow_md (r := t.rows[z.toNat]) hm (hm.rm _ hmem).2
    have cF := c_l3Fill (tL t) (tNow t t.rows[z.toNat]) sets (by omega) (by omega) hNm hS
    generalize tNow t t.rows[z.toNat] = w at cN hN cF
    generalize t.rows[z.toNat] = r0 at hrow cN
    have cC := fun vals h1 h2 => c_l3Code t ⟨id, ((t.changes.map encChange).length : Nat), vals⟩ ht h1 h2
    have hset := fun vals h1 h2 => dr_set ht (vals := vals) h1 h2 (0 + z.toNat) id
    have hcl : ((t.changes.map encChange).length : Int) = (t.changes.length : Int) := by simp
    generalize tL t = L at cL cF cC hset hN hLl
    refine funC_walk 0 hTb Tryz.func136 rfl rfl Tryz.ntmps136 (by simp) (by simp) (by simp) ?_
    (conv => whnf); repeat' ((first | (exact absurd h (by omega)) | (refine And.intro ?_ ?_ <;> ((try intro h) <;> (try simp only [gS] at h) <;> first | exact absurd h gF | exact absurd h.symm gF | conv => whnf)) | (refine VL.drawS hTb hMix (by kernel_rfl) (by kernel_rfl) (by kernel_rfl) ?_) | (refine Need.mk ?_; kernel_rfl) | (refine VR.freeze hTb rfl 1 rfl rfl ?_; conv => whnf; rw [fzVS]) | (refine VR.pure hTb rfl rfl (o_purN cA rfl rfl rfl gQ ?_) ?_; exact congrArg (fun s => [s, _]) (brwTD t)) | (refine VR.freeze hTb rfl 1120 rfl rfl ?_; conv => whnf; rw [fzV]) | (refine DT.fun hTb rfl (o_funN (cL) true [] (fun _ => grNewCol _ _) (by simp) rfl rfl rfl rfl rfl gQ ?_ rfl) rfl ?_; exact congrArg (fun s => [s]) (brwTD t)) | (refine DT.fun hTb rfl (o_funN (cN) true [] (fun _ => grNewVal _ _) (by simp) rfl rfl rfl rfl rfl gQ ?_ rfl) rfl ?_; exact congrArg (fun s => [s, _]) (brwTD t)) | (refine DT.op hTb rfl (o_loadM hTb rfl rfl rfl rfl (hrow) ⟨by decide, by decide⟩) rfl ?_) | (refine DT.rel hTb rfl (o_relN cF true [] (fun y _ => ⟨by simp, fun _ => grRvS y⟩) rfl rfl rfl rfl rfl gQ ?_ rfl) [1120] (by kernel_rfl) (by kernel_rfl) ?_; exact eq3 brw brw; rintro ⟨vals, ok⟩ hv; (try simp only at hv); refine And.intro rfl (And.intro rfl ?_)) | (refine VR.rel hTb rfl rfl (o_relN (cC vals hv.2 (hv.1.trans hN)) true [] (fun _ _ => ⟨by simp, fun _ => grI _⟩) rfl rfl rfl rfl rfl gQ ?_ rfl) ?_; exact congrArg (fun s => [s, _]) (brwTD t); rintro cd hcd; (try simp only at hcd)) | (refine Need.mk ?_; exact ⟨rfl, by omega, by omega⟩) | (refine VR.op hTb rfl rfl (o_storeM hTb rfl rfl rfl rfl rfl (hrow) rfl rfl rfl ⟨rfl, by decide⟩ (c' := ⟨id, ((t.changes.map encChange).length : Int), vals⟩) rfl) rfl ?_)) <;> conv => whnf)
    all_goals first
      | exact endCR [] (t, _) rfl rfl rfl rfl (LeS.of_eq (fzTt t _ rfl)) rfl rfl ⟨ht, rfl, rfl⟩
      | (exfalso; simp_all; done)
      | (have hc : cd = 0 := (by simpa using h)
         have h7 := hset vals hv.2 (hcd.2 hc)
         rw [← hcl] at h7
         exact endCR [] (α := VTable × Int) (⟨t.first, t.changes, t.rows.set (0 + z.toNat) ⟨id, ((t.changes.map encChange).length : Int), vals⟩, t.next⟩, cd) rfl rfl rfl rfl (LeS.of_eq (fzTt ⟨t.first, t.changes, t.rows.set (0 + z.toNat) ⟨id, ((t.changes.map encChange).length : Int), vals⟩, t.next⟩ cd (n := t.rows.length) (by simp))) rfl rfl ⟨h7, rfl, rfl⟩)
abbrev bsL (b : VBase) (o : Nat) : List Leaf := [.own o 0 b.tabs.length, .imm 4 (b.links.map encVLink)]
theorem names_at {l : List VTab} {k : Nat} (hk : k < l.length) (t : VTable) {nm : ByteArray} (e : nm = l[k].name) : (l.set k ⟨nm, t⟩).map VTab.name = l.map VTab.name := by subst e; exact names_set hk t
theorem c_l4Free (b : VBase) (hD : b.dr) (K : List VRef) (hl : K.length ≤ 1000) : CallsV Tryz.prog 198 [.agg (bsL b 0), vrefsI K] [bsO b] (relQ (fun x : VBase => x.dr ∧ x.tabs.map VTab.name = b.tabs.map VTab.name) (fun x => .agg (bsL x 0)) (fun x => [some (bsO x)]) (fun _ => [])) := by
  have htl := hD.tl
  have hll := hD.ll
  refine funF_walk hTb Tryz.func198 rfl rfl Tryz.ntmps198 (by simp) (by simp) ?_
  (conv => whnf)
  refine VL.loopI hTb (α := Nat × List VTab) (fun x => x.1 ≤ b.links.length ∧ VBase.dr ⟨x.2, b.links⟩ ∧ x.2.map VTab.name = b.tabs.map VTab.name) (fun x => ⟨[(1, vrefsI K), (2, .one (.ptr 102 0)), (4, .one (.ptr 104 0)), (5, iS x.1)], [(0, .arr 77 5 (x.2.map encVTab)), (102, .box [.own 0 0 b.tabs.length, .imm 4 (b.links.map encVLink)]), (104, .box [.g (.slice none 0 0), .g (.slice none 0 0)])], []⟩) (fun x => b.links.length - x.1) (0, b.tabs) ⟨Nat.zero_le _, hD, rfl⟩
    (wk_to [(0, 0), (102, 102), (104, 104)] rfl rfl rfl ⟨rfl, rfl, rfl, rfl, trivial⟩ ⟨rfl, ⟨_, rfl, rfl⟩, rfl, ⟨_, rfl, rfl⟩, rfl, ⟨_, rfl, rfl⟩, trivial⟩) (fun x hx => ?_)
  obtain ⟨i, X⟩ := x
  obtain ⟨hi, hX, hN⟩ := hx
  simp only at hi hX hN
  have hXl : X.length = b.tabs.length := by have := congrArg List.length hN; simpa using this
  (conv => whnf)
  refine And.intro (fun h2 => ?_) (fun h2 => ?_)
  · have hlt : i < b.links.length := by simpa using h2
    have hrow := rowVLink hlt
    have hmem : b.links[i] ∈ b.links := List.getElem_mem hlt
    have cA := c_l4At ⟨X, b.links⟩ b.links[i].src (lmax (by have := hX.tl; omega))
    have hiz := (hX.lk b.links[i] hmem).i
    have hcz := (hX.lm b.links[i] hmem).1.c
    generalize b.links[i] = li at hrow hmem cA hiz hcz
    obtain ⟨m, hm⟩ : ∃ m : Nat, tabIx ⟨X, b.links⟩ li.src = m := ⟨(tabIx ⟨X, b.links⟩ li.src).toNat, by omega⟩
    rw [hm] at cA
    (conv => whnf); repeat' ((first | (refine VR.op hTb rfl rfl (o_index_imm hTb rfl rfl rfl rfl rfl rfl rfl (by omega) (hrow)) rfl ?_) | (refine VR.pure hTb rfl rfl (o_purN cA rfl rfl rfl gQ ?_) ?_; exact congrArg (fun s => [s, _]) (brwB ⟨X, b.links⟩ hXl))) <;> conv => whnf)
    refine VL.loopI hTb (α := Nat × List VTab) (fun x => x.1 ≤ 8 ∧ VBase.dr ⟨x.2, b.links⟩ ∧ x.2.map VTab.name = b.tabs.map VTab.name ∧ tabIx ⟨x.2, b.links⟩ li.src = m) (fun x => ⟨[(1, vrefsI K), (2, .one (.ptr 102 0)), (4, .one (.ptr 104 0)), (5, iS i), (6, .one (.ptr 106 0)), (7, iS m), (8, iS x.1)], [(0, .arr 77 5 (x.2.map encVTab)), (102, .box [.own 0 0 b.tabs.length, .imm 4 (b.links.map encVLink)]), (104, .box [.g (.slice none 0 0), .g (.slice none 0 0)]), (106, .box (encVLink li))], []⟩) (fun x => 9 - x.1) (0, X) ⟨Nat.zero_le _, hX, hN, hm⟩
      (wk_to [(0, 0), (102, 102), (104, 104), (106, 106)] rfl rfl rfl ⟨rfl, rfl, rfl, rfl, rfl, rfl, rfl, trivial⟩ ⟨rfl, ⟨_, rfl, rfl⟩, rfl, ⟨_, rfl, rfl⟩, rfl, ⟨_, rfl, rfl⟩, rfl, ⟨_, rfl, rfl⟩, trivial⟩) (fun x hx => ?_)
    obtain ⟨k, Y⟩ := x
    obtain ⟨hk, hY, hM, hmY⟩ := hx
    simp only at hk hY hM hmY
    clear hX hN hXl cA hiz hm
    have hYl : Y.length = b.tabs.length := by have := congrArg List.length hM; simpa using this
    obtain ⟨hmY2, hat⟩ := tab_at hmY
    simp only at hmY2 hat
    have hiz : ¬ tabIx ⟨Y, b.links⟩ li.src < 0 := by omega
    have hT := hY.of hiz
    have hr8 := hT.1.rl
    have hset := fun (t : VTable) (ht : t.dr) (e : tL t = tL (tabOf ⟨Y, b.links⟩ li.src)) => hY.set hmY2 ht (by simp only [hat]; exact e)
    have cN := fun k hk => c_l4Names ⟨Y, b.links⟩ li (hY.lk li hmem) k hk K (by unfold maxLen; omega)
    have hnm := fun t => names_at hmY2 t (nm := li.src) (by rw [hat])
    simp only [hat] at hset
    have hat : Y[0 + ((m : Nat) : Int).toNat]? = some ⟨li.src, tabOf ⟨Y, b.links⟩ li.src⟩ := by rw [Nat.zero_add, Int.toNat_natCast, ← hat]; exact List.getElem?_eq_getElem _
    generalize tabOf ⟨Y, b.links⟩ li.src = T at hat hT hr8 hset cN
    by_cases hkt : k < T.rows.length
    · have hrw := rowVRow hkt
      have cN := cN k hkt
      generalize (_ && _) = bn at cN
      have cI := c_l4In K li.src T.rows[k].id (by unfold maxLen; omega)
      generalize T.rows[k] = rk at hrw cI
      generalize inL K _ = bi at cI
      have cK := c_l3CopyT T hT.1.md
      have cS := c_l3SetT T hT.1 rk.id [⟨li.col, ⟨0, 0, ⟨#[]⟩⟩⟩] ⟨by simp, fun x hx => by simp at hx; subst hx; exact ⟨hcz, by show (0 : Nat) ≤ 1048576; omega⟩⟩
      cases bi <;> cases bn <;> (conv => whnf); repeat' ((first | (exact absurd h (by simp; omega)) | (refine And.intro ?_ ?_ <;> ((try intro h) <;> (try simp only [gS] at h) <;> first | exact absurd h gF | exact absurd h.symm gF | conv => whnf)) | (refine VL.drawS hTb hMix (by kernel_rfl) (by kernel_rfl) (by kernel_rfl) ?_) | (refine Need.mk ?_; kernel_rfl) | (refine Need.mk ?_; exact ⟨rfl, by omega, by omega⟩) | (refine VR.op hTb rfl rfl (o_loadM hTb rfl rfl rfl rfl (hat) ⟨by decide, by decide⟩) rfl ?_) | (refine DT.op hTb rfl (o_loadM hTb rfl rfl rfl rfl (hat) ⟨by decide, by decide⟩) rfl ?_) | (refine VR.op hTb rfl rfl (o_index_imm hTb rfl rfl rfl rfl rfl rfl rfl (by omega) (hrw)) rfl ?_) | (refine VR.pure hTb rfl rfl (o_purN (cI) rfl rfl rfl gQ rfl) ?_) | (refine VR.pure hTb rfl rfl (o_purN cN rfl rfl rfl gQ ?_) ?_; exact congrArg (fun s => [s, _, _, _]) (brwB ⟨Y, b.links⟩ hYl)) | (refine DT.fun hTb rfl (o_funN (cK) false [] gN (by simp) rfl rfl rfl rfl rfl gQ rfl rfl) rfl ?_) | (refine DT.relk hTb rfl (o_relN cS false [1308, 182] (fun _ _ => ⟨by simp, gN⟩) rfl rfl rfl rfl rfl gQ rfl rfl) [] [1308, 182] (by kernel_rfl) (by kernel_rfl) ?_; rintro ⟨t2, cd⟩ ht2; (try simp only at ht2); refine And.intro rfl (And.intro rfl ?_)) | (refine DT.op hTb rfl (o_storeM hTb rfl rfl rfl rfl rfl (hat) rfl rfl rfl ⟨rfl, by decide⟩ (c' := ⟨li.src, t2⟩) rfl) rfl ?_)) <;> conv => whnf)
      all_goals first
        | exact ⟨(i + 1, Y), ⟨hlt, hY, hM⟩, by show b.links.length - (i + 1) < b.links.length - i; omega, wk_to [(0, 0), (102, 102), (104, 104)] rfl rfl rfl ⟨rfl, rfl, rfl, gW (by unfold maxLen; omega), trivial⟩ ⟨rfl, ⟨_, rfl, rfl⟩, rfl, ⟨_, rfl, rfl⟩, rfl, ⟨_, rfl, rfl⟩, trivial⟩⟩
        | exact ⟨(k + 1, Y), ⟨by simp only; omega, hY, hM, hmY⟩, by simp only; omega, wk_to [(0, 0), (102, 102), (104, 104), (106, 106)] rfl rfl rfl ⟨rfl, rfl, rfl, rfl, rfl, rfl, gW (by unfold maxLen; omega), trivial⟩ ⟨rfl, ⟨_, rfl, rfl⟩, rfl, ⟨_, rfl, rfl⟩, rfl, ⟨_, rfl, rfl⟩, rfl, ⟨_, rfl, rfl⟩, trivial⟩⟩
        | (have h5 := hset t2 ht2.1 (tL_of ht2.2.1 ht2.2.2)
           have h6 := (hnm t2).trans hM
           exact ⟨(k + 1, Y.set (0 + ((m : Nat) : Int).toNat) ⟨li.src, t2⟩), ⟨by simp only; omega, by rw [Nat.zero_add, Int.toNat_natCast]; exact h5, by rw [Nat.zero_add, Int.toNat_natCast]; exact h6, by rw [Nat.zero_add, Int.toNat_natCast, ← hmY]; exact tabIx_congr (b := ⟨Y, b.links⟩) (hnm t2) li.src⟩, by simp only; omega, wk_to [(0, 0), (102, 102), (104, 104), (106, 106)] rfl rfl rfl ⟨rfl, rfl, rfl, rfl, rfl, rfl, gW (by unfold maxLen; omega), trivial⟩ ⟨rfl, ⟨_, rfl, rfl⟩, rfl, ⟨_, rfl, rfl⟩, rfl, ⟨_, rfl, rfl⟩, rfl, ⟨_, rfl, rfl⟩, trivial⟩⟩)
    · (conv => whnf); repeat' ((first | (exact absurd h (by simp; omega)) | (refine And.intro ?_ ?_ <;> ((try intro h) <;> (try simp only [gS] at h) <;> first | exact absurd h gF | exact absurd h.symm gF | conv => whnf)) | (refine Need.mk ?_; exact ⟨rfl, by omega, by omega⟩) | (refine VR.op hTb rfl rfl (o_loadM hTb rfl rfl rfl rfl (hat) ⟨by decide, by decide⟩) rfl ?_)) <;> conv => whnf)
      all_goals first
        | exact ⟨(i + 1, Y), ⟨hlt, hY, hM⟩, by show b.links.length - (i + 1) < b.links.length - i; omega, wk_to [(0, 0), (102, 102), (104, 104)] rfl rfl rfl ⟨rfl, rfl, rfl, gW (by unfold maxLen; omega), trivial⟩ ⟨rfl, ⟨_, rfl, rfl⟩, rfl, ⟨_, rfl, rfl⟩, rfl, ⟨_, rfl, rfl⟩, trivial⟩⟩
  · (conv => whnf)
    exact endR [] (⟨X, b.links⟩ : VBase) rfl rfl rfl rfl rfl (LeS.of_eq (congrArg (fun n => Slot.agg [.own 0 0 n, .imm 4 (b.links.map encVLink)]) hXl.symm)) rfl rfl ⟨hX, hN⟩
theorem fzRf (x : List VRef) : ((x.map encVRef).drop 0).take x.length = x.map encVRef := by rw [List.drop_zero, List.take_of_length_le (by simp)]
theorem c_l4Off (b : VBase) (hD : b.dr) (nm : ByteArray) (id : Int) : CallsV Tryz.prog 175 [.agg (encVBase b), strS nm, iS id] [] (relQ (fun y : VBase × Int => y.1.dr) bcS (fun _ => []) (fun _ => [])) := by
  have c1 := c_l4Has b ⟨nm, id⟩ hD.md
  have cD := c_l4DoomedW b ⟨nm, id⟩ hD
  have cC := c_l4Copy b hD.md
  generalize hasB b ⟨nm, id⟩ = bh at c1
  refine funF_walk hTb Tryz.func175 rfl rfl Tryz.ntmps175 (by simp) (by simp) ?_
  cases bh
  · (conv => whnf); repeat' ((first | (refine And.intro ?_ ?_ <;> ((try intro h) <;> (try simp only [gS] at h) <;> first | exact absurd h gF | exact absurd h.symm gF | conv => whnf)) | (refine VR.pure hTb rfl rfl (o_purN (c1) rfl rfl rfl gQ rfl) ?_)) <;> conv => whnf)
    exact endR [] (b, 5) rfl rfl rfl rfl rfl (LeS.refl _) rfl rfl hD
  (conv => whnf); repeat' ((first | (refine And.intro ?_ ?_ <;> ((try intro h) <;> (try simp only [gS] at h) <;> first | exact absurd h gF | exact absurd h.symm gF | conv => whnf)) | (refine VR.pure hTb rfl rfl (o_purN (c1) rfl rfl rfl gQ rfl) ?_) | (refine VR.rel hTb rfl rfl (o_relN (cD) false [] (fun _ _ => ⟨by simp, gN⟩) rfl rfl rfl rfl rfl gQ rfl rfl) ?_; rintro R hR; (try simp only at hR)) | (refine VR.freeze hTb rfl 1084 rfl rfl ?_; conv => whnf; rw [fzRf]) | (refine VR.rel hTb rfl rfl (o_relN (c_l4Stops b hD R (by have := hR.1; omega)) false [] (fun _ _ => ⟨by simp, gN⟩) rfl rfl rfl rfl rfl gQ rfl rfl) ?_; rintro bl hbl; (try simp only at hbl)) | (refine VR.fun hTb rfl rfl (o_funN (cC) false [] gN (by simp) rfl rfl rfl rfl rfl gQ rfl rfl) ?_) | (refine VR.freeze hTb rfl 1109 rfl rfl ?_; conv => whnf; rw [fzLk]) | (refine VR.rel hTb rfl rfl (o_relN (c_l4Free b hD R (by have := hR.1; omega)) false [1108] (fun _ _ => ⟨by simp, gN⟩) rfl rfl rfl rfl rfl gQ rfl rfl) ?_; rintro x hx; (try simp only at hx))) <;> conv => whnf)
  · exact endR [] (b, 6) rfl rfl rfl rfl rfl (LeS.refl _) rfl rfl hD
  have hR24 := hR.1
  refine VL.loopI hTb (α := Nat × VBase) (fun y => y.1 ≤ R.length ∧ y.2.dr ∧ y.2.tabs.map VTab.name = b.tabs.map VTab.name) (fun y => ⟨[(6, .one (.ptr 106 0)), (8, vrefsI R), (9, .one (.ptr 109 0)), (10, iS y.1)], [(106, .box [.g (.slice none 0 0), .g (.slice none 0 0)]), (109, .box (bsL y.2 1108)), (1108, bsO y.2)], []⟩) (fun y => R.length - y.1) (0, x) ⟨Nat.zero_le _, hx.1, hx.2⟩
    (wk_to [(106, 106), (109, 109), (1108, 1108)] rfl rfl rfl ⟨rfl, rfl, rfl, rfl, trivial⟩ ⟨rfl, ⟨_, rfl, rfl⟩, rfl, ⟨_, rfl, rfl⟩, rfl, ⟨_, rfl, rfl⟩, trivial⟩) (fun y hy => ?_)
  obtain ⟨i, Y⟩ := y
  obtain ⟨hi, hY, hM⟩ := hy
  simp only at hi hY hM
  clear hx hbl cC cD c1
  (conv => whnf)
  refine And.intro (fun h2 => ?_) (fun h2 => ?_)
  · have hlt : i < R.length := by simpa using h2
    have hrf := rowVRef hlt
    have hzb := hR.2 _ (List.getElem_mem hlt)
    generalize R[i] = ri at hrf hzb
    obtain ⟨rn, rid⟩ := ri
    simp only at hzb
    have hz : ¬ tabIx Y rn < 0 := by rw [tabIx_congr hM]; exact hzb
    have cA := c_l4At Y rn (lmax (by have := hY.tl; omega))
    obtain ⟨m, hm⟩ : ∃ m : Nat, tabIx Y rn = m := ⟨(tabIx Y rn).toNat, by omega⟩
    rw [hm] at cA
    obtain ⟨hmY2, hat⟩ := tab_at hm
    have hT := hY.of hz
    have hset := fun (t : VTable) (ht : t.dr) (e : tL t = tL (tabOf Y rn)) => hY.set hmY2 ht (by simp only [hat]; exact e)
    have hnm := fun t => names_at hmY2 t (nm := rn) (by rw [hat])
    simp only [hat] at hset
    have hat : Y.tabs[0 + ((m : Nat) : Int).toNat]? = some ⟨rn, tabOf Y rn⟩ := by rw [Nat.zero_add, Int.toNat_natCast, ← hat]; exact List.getElem?_eq_getElem _
    generalize tabOf Y rn = T at hat hT hset
    (conv => whnf); repeat' ((first | (refine And.intro ?_ ?_ <;> ((try intro h) <;> (try simp only [gS] at h) <;> first | exact absurd h gF | exact absurd h.symm gF | conv => whnf)) | (refine VL.drawS hTb hMix (by kernel_rfl) (by kernel_rfl) (by kernel_rfl) ?_) | (refine Need.mk ?_; kernel_rfl) | (refine Need.mk ?_; exact ⟨rfl, by omega, by (show (m : Int) < (Y.tabs.length : Nat); omega)⟩) | (refine DT.op hTb rfl (o_index_imm hTb rfl rfl rfl rfl rfl rfl rfl (by omega) (hrf)) rfl ?_) | (refine DT.pure hTb rfl (o_purN cA rfl rfl rfl gQ ?_) ?_; exact congrArg (fun s => [s, _]) (brwB Y rfl)) | (refine DT.op hTb rfl (o_loadM hTb rfl rfl rfl rfl (hat) ⟨by decide, by decide⟩) rfl ?_) | (refine DT.rel hTb rfl (o_relN (c_l3OffI T hT.1 rid) false [] (fun _ _ => ⟨by simp, gN⟩) rfl rfl rfl rfl rfl gQ rfl rfl) [] (by kernel_rfl) (by kernel_rfl) ?_; rintro ⟨t2, cd⟩ ht2; (try simp only at ht2); refine And.intro rfl (And.intro rfl ?_)) | (refine DT.op hTb rfl (o_storeM hTb rfl rfl rfl rfl rfl (hat) rfl rfl rfl ⟨rfl, by decide⟩ (c' := ⟨rn, t2⟩) rfl) rfl ?_)) <;> conv => whnf)
    have h5 := hset t2 ht2.1 (tL_of ht2.2.1 ht2.2.2)
    have h6 := (hnm t2).trans hM
    exact ⟨(i + 1, ⟨Y.tabs.set (0 + ((m : Nat) : Int).toNat) ⟨rn, t2⟩, Y.links⟩), ⟨hlt, by rw [Nat.zero_add, Int.toNat_natCast]; exact h5, by rw [Nat.zero_add, Int.toNat_natCast]; exact h6⟩, by show R.length - (i + 1) < R.length - i; omega, wk_to [(106, 106), (109, 109), (1108, 1108)] rfl rfl rfl ⟨rfl, rfl, rfl, gW (by unfold maxLen; omega), trivial⟩ ⟨rfl, ⟨_, rfl, rfl⟩, rfl, ⟨_, rfl, congrArg (fun n => Ob.box [.own 1108 0 n, .imm 4 (Y.links.map encVLink)]) (by simp)⟩, rfl, ⟨_, rfl, rfl⟩, trivial⟩⟩
  · (conv => whnf)
    exact endR [] (Y, 0) rfl rfl rfl rfl rfl (LeS.of_eq (brwBc Y 0 rfl)) rfl rfl hY
section
variable {α : Type} {f : α → α} {l : List α} {i : Nat}
theorem mixL_at (h : i < l.length) : ((l.take i).map f ++ l.drop i)[i]? = some l[i] := by
  have hl : ((l.take i).map f).length = i := by simp; omega
  rw [List.getElem?_append_right (by omega), hl, Nat.sub_self, List.drop_eq_getElem_cons h]; rfl
theorem mixL_set (h : i < l.length) : ((l.take i).map f ++ l.drop i).set i (f l[i]) = (l.take (i + 1)).map f ++ l.drop (i + 1) := by
  have hl : ((l.take i).map f).length = i := by simp; omega
  rw [List.set_append_right _ _ (by omega), hl, Nat.sub_self, List.drop_eq_getElem_cons h, List.set_cons_zero, List.take_succ_eq_append_getElem h, List.map_append, List.append_assoc]; rfl
theorem mixL_same (h : i < l.length) (e : f l[i] = l[i]) : (l.take i).map f ++ l.drop i = (l.take (i + 1)).map f ++ l.drop (i + 1) := by
  rw [List.drop_eq_getElem_cons h, List.take_succ_eq_append_getElem h, List.map_append, List.append_assoc, List.map_cons, e]; rfl
end
theorem c_l4Change (b : VBase) (hD : b.dr) (nm : ByteArray) (c : Change) (hc : c.sml) : CallsV Tryz.prog 178 [.agg (encVBase b), strS nm, .agg (encChange c)] [] (relQ (fun y : VBase × Int => y.1.dr) bcS (fun _ => []) (fun _ => [])) := by
  have hll := hD.ll
  have c1 := c_l4At b nm (lmax (by have := hD.tl; omega))
  have cU := c_l4Used b nm c.name (by omega)
  have cC := c_l4Copy b hD.md
  refine funF_walk hTb Tryz.func178 rfl rfl Tryz.ntmps178 (by simp) (by simp) ?_
  by_cases hz : tabIx b nm < 0
  · generalize tabIx b nm = z at c1 hz
    (conv => whnf); repeat' ((first | (exact absurd h (by omega)) | (refine And.intro ?_ ?_ <;> ((try intro h) <;> (try simp only [gS] at h) <;> first | exact absurd h gF | exact absurd h.symm gF | conv => whnf)) | (refine VR.pure hTb rfl rfl (o_purN (c1) rfl rfl rfl gQ rfl) ?_)) <;> conv => whnf)
    exact endR [] (b, 5) rfl rfl rfl rfl rfl (LeS.refl _) rfl rfl hD
  obtain ⟨m, hm⟩ : ∃ m : Nat, tabIx b nm = m := ⟨(tabIx b nm).toNat, by omega⟩
  have hT := hD.of hz
  obtain ⟨n', hR⟩ := rowTabZ hz
  obtain ⟨hmY2, hat⟩ := tab_at hm
  have hchg := fun (t : VTable) ht hT hs hu => hD.chg hmY2 (c := c) hc.2.1 (t := t) ht hT hs hu
  simp only [hat] at hchg
  have hat : b.tabs[0 + ((m : Nat) : Int).toNat]? = some ⟨nm, tabOf b nm⟩ := by rw [Nat.zero_add, Int.toNat_natCast, ← hat]; exact List.getElem?_eq_getElem _
  rw [hm] at c1 hR
  clear hz hm
  generalize tabOf b nm = T at hT hR hat hchg
  have cK := c_l3CopyT T hT.1.md
  have cH := c_l3ChangeF T hT.1 c hc
  obtain ⟨bu, hbu⟩ : ∃ bu, b.links.any (isLk nm c.name) = bu := ⟨_, rfl⟩
  rw [hbu] at cU hchg
  obtain ⟨ck, cn, cw, cc⟩ := c
  simp only at hbu
  cases bu <;> (conv => whnf); repeat' ((first | (refine absurd h ?_; (simp; done)) | (refine And.intro ?_ ?_ <;> ((try intro h) <;> (try simp only [gS] at h) <;> first | exact absurd h gF | exact absurd h.symm gF | conv => whnf)) | (refine VL.drawS hTb hMix (by kernel_rfl) (by kernel_rfl) (by kernel_rfl) ?_) | (refine Need.mk ?_; kernel_rfl) | (refine VR.pure hTb rfl rfl (o_purN (c1) rfl rfl rfl gQ rfl) ?_) | (refine DT.op hTb rfl (o_index_imm hTb rfl rfl rfl rfl rfl rfl rfl (by omega) (hR)) rfl ?_) | (refine DT.fun hTb rfl (o_funN (cK) false [] gN (by simp) rfl rfl rfl rfl rfl gQ rfl rfl) rfl ?_) | (refine DT.relk hTb rfl (o_relN cH false [1104] (fun _ _ => ⟨by simp, gN⟩) rfl rfl rfl rfl rfl gQ rfl rfl) [] [1104] (by kernel_rfl) (by kernel_rfl) ?_; rintro ⟨t2, cd⟩ ht2; (try simp only at ht2); refine And.intro rfl (And.intro rfl ?_)) | (refine VR.pure hTb rfl rfl (o_purN (cU) rfl rfl rfl gQ rfl) ?_) | (refine VR.fun hTb rfl rfl (o_funN (cC) false [] gN (by simp) rfl rfl rfl rfl rfl gQ rfl rfl) ?_) | (refine Need.mk ?_; exact ⟨rfl, by omega, by omega⟩) | (refine VR.op hTb rfl rfl (o_storeM hTb rfl rfl rfl rfl rfl (hat) rfl rfl rfl ⟨rfl, by decide⟩ (c' := ⟨nm, t2⟩) rfl) rfl ?_)) <;> conv => whnf)
  all_goals first
    | exact endR [] (b, 8) rfl rfl rfl rfl rfl (LeS.refl _) rfl rfl hD
    | exact endR [] (b, cd) rfl rfl rfl rfl rfl (LeS.refl _) rfl rfl hD
    | skip
  all_goals
    have hc0 : cd = 0 := by simpa using h
    obtain ⟨e2, e3⟩ := ht2.2 hc0
    have hx := hchg t2 ht2.1 e2 e3 (fun (k2 : ck = 2) => by first | rfl | (exfalso; simp_all; done))
    have hx : VBase.dr ⟨b.tabs.set (0 + ((m : Nat) : Int).toNat) ⟨nm, t2⟩, b.links.map (renL nm ⟨ck, cn, cw, cc⟩)⟩ := by rw [Nat.zero_add, Int.toNat_natCast]; exact hx
    have hxl : (b.tabs.set (0 + ((m : Nat) : Int).toNat) ⟨nm, t2⟩).length = b.tabs.length := by simp
    have hf1 : ∀ l1 l2 l3 l4, renL nm ⟨ck, cn, cw, cc⟩ ⟨l1, l2, l3, l4⟩ = if (ck == 3 && (l1.toList == nm.toList && l2.toList == cn.toList)) = true then ⟨l1, cw, l3, l4⟩ else ⟨l1, l2, l3, l4⟩ := fun _ _ _ _ => rfl
    clear hchg cH cU cC cK c1 hR e2 e3 ht2 hat
    generalize renL nm ⟨ck, cn, cw, cc⟩ = f at hx hf1
    generalize b.tabs.set (0 + ((m : Nat) : Int).toNat) ⟨nm, t2⟩ = X at hx hxl ⊢
    refine VL.loopI hTb (fun i => i ≤ b.links.length) (fun i => ⟨[(1, strS nm), (5, .one (.ptr 105 0)), (6, .one (.ptr 106 0)), (10, iS cd), (11, .one (.ptr 111 0)), (12, iS i)], [(105, .box (encChange ⟨ck, cn, cw, cc⟩)), (106, .box [.g (.slice none 0 0), .g (.slice none 0 0)]), (111, .box [.own 1224 0 b.tabs.length, .own 1225 0 b.links.length]), (1224, .arr 77 5 (X.map encVTab)), (1225, .arr 79 4 (((b.links.take i).map f ++ b.links.drop i).map encVLink))], []⟩) (fun i => b.links.length - i) 0 (Nat.zero_le _)
      (wk_to [(105, 105), (106, 106), (111, 111), (1224, 1224), (1225, 1225)] rfl rfl rfl ⟨rfl, rfl, rfl, rfl, rfl, rfl, trivial⟩ ⟨rfl, ⟨_, rfl, rfl⟩, rfl, ⟨_, rfl, rfl⟩, rfl, ⟨_, rfl, rfl⟩, rfl, ⟨_, rfl, rfl⟩, rfl, ⟨_, rfl, rfl⟩, trivial⟩) (fun i hi => ?_)
    (conv => whnf)
    refine And.intro (fun g2 => ?_) (fun g2 => ?_)
    · have hlt : i < b.links.length := by simpa using g2
      have hat2 : ((b.links.take i).map f ++ b.links.drop i)[0 + ((i : Nat) : Int).toNat]? = some b.links[i] := by rw [Nat.zero_add, Int.toNat_natCast]; exact mixL_at hlt
      have hset := mixL_set (f := f) hlt
      have hsame := mixL_same (f := f) hlt
      generalize (b.links.take i).map f ++ b.links.drop i = M at hat2 hset hsame ⊢
      generalize b.links[i] = li at hat2 hset hsame
      obtain ⟨l1, l2, l3, l4⟩ := li
      rw [hf1] at hset hsame
      (conv => whnf); repeat' ((first | (refine And.intro ?_ ?_ <;> ((try intro h) <;> (try simp only [gS] at h) <;> first | exact absurd h gF | exact absurd h.symm gF | conv => whnf)) | (refine VL.drawS hTb hMix (by kernel_rfl) (by kernel_rfl) (by kernel_rfl) ?_) | (refine Need.mk ?_; kernel_rfl) | (refine Need.mk ?_; exact ⟨rfl, by omega, by omega⟩) | (refine DT.op hTb rfl (o_loadM hTb rfl rfl rfl rfl (hat2) ⟨by decide, by decide⟩) rfl ?_) | (refine VR.op hTb rfl rfl (o_storeM hTb rfl rfl rfl rfl rfl (hat2) rfl rfl rfl ⟨rfl, by decide⟩ (c' := ⟨_, _, _, _⟩) rfl) rfl ?_)) <;> conv => whnf)
      all_goals first
        | (rw [‹(ck == 3) = true›, ‹(l1.toList == nm.toList) = true›, ‹(l2.toList == cn.toList) = true›] at hset
           have hset : M.set i ⟨l1, cw, l3, l4⟩ = (b.links.take (i + 1)).map f ++ b.links.drop (i + 1) := hset
           exact ⟨i + 1, hlt, by omega, wk_to [(105, 105), (106, 106), (111, 111), (1224, 1224), (1225, 1225)] rfl rfl rfl ⟨rfl, rfl, rfl, rfl, rfl, gW (by unfold maxLen; omega), trivial⟩ ⟨rfl, ⟨_, rfl, rfl⟩, rfl, ⟨_, rfl, rfl⟩, rfl, ⟨_, rfl, rfl⟩, rfl, ⟨_, rfl, rfl⟩, rfl, ⟨_, rfl, congrArg (fun r : List VLink => Ob.arr 79 4 (r.map encVLink)) (by rw [← hset, Nat.zero_add, Int.toNat_natCast])⟩, trivial⟩⟩)
        | (have hs := hsame (by first
             | (rw [‹(ck == 3) = false›]; rfl)
             | (rw [‹(l1.toList == nm.toList) = false›, Bool.false_and, Bool.and_false]; rfl)
             | (rw [‹(l2.toList == cn.toList) = false›, Bool.and_false, Bool.and_false]; rfl))
           exact ⟨i + 1, hlt, by omega, wk_to [(105, 105), (106, 106), (111, 111), (1224, 1224), (1225, 1225)] rfl rfl rfl ⟨rfl, rfl, rfl, rfl, rfl, gW (by unfold maxLen; omega), trivial⟩ ⟨rfl, ⟨_, rfl, rfl⟩, rfl, ⟨_, rfl, rfl⟩, rfl, ⟨_, rfl, rfl⟩, rfl, ⟨_, rfl, rfl⟩, rfl, ⟨_, rfl, congrArg (fun r : List VLink => Ob.arr 79 4 (r.map encVLink)) hs⟩, trivial⟩⟩)
    · have hie : i = b.links.length := by simp at g2; omega
      subst hie
      rw [List.take_length, List.drop_length, List.append_nil]
      (conv => whnf)
      exact endR [] (α := VBase × Int) (⟨X, b.links.map f⟩, cd) rfl rfl rfl rfl rfl (LeS.of_eq (brwBc2 ⟨X, b.links.map f⟩ cd (n := b.tabs.length) (m := b.links.length) hxl (by simp))) rfl rfl hx
theorem c_l2ShapeO {bs : List Int} (hb : BOk bs) (p : Nat) (hp : p ≤ 1099511400000) : CallsV Tryz.prog 131 [rdS] [rdO bs p]
    (relQ (fun y : List Col × Nat => smlCols y.1 ∧ 1 ≤ y.1.length ∧ y.1.length ≤ 4 ∧ y.2 ≤ p + 25) (fun y => .one (.own 1 0 y.1.length)) (fun y => [some (rdO bs y.2)]) (fun y => [.arr 39 7 (y.1.map encCol)])) := by
  refine funF_walk hTb Tryz.func131 rfl rfl Tryz.ntmps131 (by simp) (by simp) ?_
  (conv => whnf); repeat' ((first | (refine VR.rel hTb rfl rfl (o_relN (c_pick hb _ _ (by omega)) false [0] (fun _ _ => ⟨by simp, gN⟩) rfl rfl rfl rfl rfl gQ rfl rfl) ?_; intro y hy)) <;> conv => whnf)
  have e1 : IntKind.i64.wrap (1 + y) = 1 + y := by rw [IntKind.wrap_i64]; omega
  rw [e1]
  refine VL.loopI hTb (fun (⟨k, cs, q⟩ : Nat × List Col × Nat) => k ≤ 4 ∧ smlCols cs ∧ cs.length + k ≤ 4 ∧ (cs = [] → 1 ≤ k) ∧ q + 6 * k ≤ p + 25)
    (fun ⟨k, cs, q⟩ => ⟨[(0, rdS), (3, .one (.own 106 0 cs.length)), (4, iS k)], [(0, rdO bs q), (106, .arr 39 7 (cs.map encCol))], []⟩) (fun x => x.1) (1 + y.toNat, [], p + 1) ⟨by omega, (fun x hx => by cases hx), by simp; omega, fun _ => by omega, by omega⟩
    (wk_to [(0, 0), (106, 106)] rfl rfl rfl ⟨rfl, rfl, congrArg (fun x => Slot.one (.g (.int .i64 x))) (by omega), trivial⟩ ⟨rfl, ⟨_, rfl, rfl⟩, rfl, ⟨_, rfl, rfl⟩, trivial⟩) (fun x hx => ?_)
  obtain ⟨k, cs, q⟩ := x
  obtain ⟨i1, i2, i3, i4, i5⟩ := hx
  (conv => whnf); repeat' ((first | (refine And.intro ?_ ?_ <;> ((try intro h) <;> (try simp only [gS] at h) <;> first | exact absurd h gF | exact absurd h.symm gF | conv => whnf)) | (refine VR.rel hTb rfl rfl (o_relN (c_l2Names) false [] (fun _ _ => ⟨by simp, gN⟩) rfl rfl rfl rfl rfl gQ rfl rfl) ?_; rintro rows hrows; (try simp only at hrows)) | (refine VR.rel hTb rfl rfl (o_relN (c_ofI hb _ _ (fun t => t.size ≤ 8) hrows.1 hrows.2 (by omega)) false [0] (fun _ _ => ⟨by simp, gN⟩) rfl rfl rfl rfl rfl gQ rfl rfl) ?_; rintro nm hnm; (try simp only at hnm)) | (refine VR.rel hTb rfl rfl (o_relN (c_l2Col hb _ _ hnm (by omega)) false [0] (fun _ _ => ⟨by simp, gN⟩) rfl rfl rfl rfl rfl gQ rfl rfl) ?_; rintro ⟨⟨cn, ck, c1, c2, ⟨c3, c4, c5⟩⟩, q2⟩ hc; (try simp only at hc)) | (refine VR.pure hTb rfl rfl (o_purN (c_l2At cs _ (by unfold maxLen; omega)) rfl rfl rfl gQ (congrArg (fun s => [s, _]) brw)) ?_)) <;> conv => whnf)
  · refine VR.opk hTb rfl rfl (o_app1 (q := 127) (a := ⟨cn, ck, c1, c2, ⟨c3, c4, c5⟩⟩) hTb rfl rfl rfl rfl rfl rfl rfl rfl rfl rfl rfl rfl (by omega) (by show _ * 64 ≤ _; omega) (by unfold maxLen; omega)) ?_
    (conv => whnf)
    refine ⟨(k - 1, cs ++ [⟨cn, ck, c1, c2, ⟨c3, c4, c5⟩⟩], q2), ⟨by omega, ?_, by simp; omega, fun h => by simp at h, by omega⟩, by show k - 1 < k; omega,
      wk_to [(0, 0), (127, 106)] rfl rfl rfl ⟨rfl, congrArg (fun n => Slot.one (.own 106 0 n)) (by simp), congrArg (fun x => Slot.one (.g (.int .i64 x))) (by rw [IntKind.wrap_i64]; omega), trivial⟩ ⟨rfl, ⟨_, rfl, rfl⟩, rfl, ⟨_, rfl, rfl⟩, trivial⟩⟩
    intro x hx
    rcases List.mem_append.1 hx with hx | hx
    · exact i2 x hx
    · simp at hx; subst hx; exact ⟨by have := hc.1; simp only; rw [this]; exact hnm, hc.2.1⟩
  · refine ⟨(k - 1, cs, q2), ⟨by omega, i2, by omega, fun h0 => ?_, by omega⟩, by show k - 1 < k; omega,
      wk_to [(0, 0), (106, 106)] rfl rfl rfl ⟨rfl, rfl, congrArg (fun x => Slot.one (.g (.int .i64 x))) (by rw [IntKind.wrap_i64]; omega), trivial⟩ ⟨rfl, ⟨_, rfl, rfl⟩, rfl, ⟨_, rfl, rfl⟩, trivial⟩⟩
    exfalso
    subst h0
    have e : nameAt [] cn = -1 := rfl
    rw [e] at h
    simp at h
  · have hk : k = 0 := by simp at h; omega
    have hn : cs ≠ [] := fun h0 => by have := i4 h0; omega
    exact endR [106] (cs, q) rfl rfl rfl rfl rfl (LeS.refl _) rfl rfl ⟨i2, List.length_pos_iff.2 hn, (by show cs.length ≤ 4; omega), (by show q ≤ p + 25; omega)⟩
theorem c_l4Key {bs : List Int} (hb : BOk bs) (p : Nat) (hp : p ≤ 1099511300000) : CallsV Tryz.prog 172 [rdS] [rdO bs p]
    (relQ (fun y : List Col × Nat => smlCols y.1 ∧ y.1.length ≤ 10 ∧ y.2 ≤ p + 30) (fun y => colsI y.1) (fun y => [some (rdO bs y.2)]) (fun _ => [])) := by
  refine funF_walk hTb Tryz.func172 rfl rfl Tryz.ntmps172 (by simp) (by simp) ?_
  (conv => whnf); repeat' ((first | (refine VL.drawS hTb hMix (by kernel_rfl) (by kernel_rfl) (by kernel_rfl) ?_) | (refine DT.rel hTb rfl (o_relN (c_l2ShapeO hb p (by omega)) false [0] (fun _ _ => ⟨by simp, gN⟩) rfl rfl rfl rfl rfl gQ rfl rfl) [0, 1016] (by kernel_rfl) (by kernel_rfl) ?_; rintro ⟨cs, q⟩ hcs; (try simp only at hcs); refine And.intro rfl (And.intro rfl ?_)) | (refine DT.op hTb rfl (o_slice_own (n1 := 0) (n2 := 1) hTb rfl rfl rfl rfl rfl rfl rfl bnd_none (bnd_some rfl) (by decide) (by show 1 ≤ cs.length; omega)) rfl ?_) | (refine DT.rel hTb rfl (o_relN (c_pick hb _ _ (by omega)) false [0] (fun _ _ => ⟨by simp, gN⟩) rfl rfl rfl rfl rfl gQ rfl rfl) [0] (by kernel_rfl) (by kernel_rfl) ?_; rintro w hw; (try simp only at hw); refine And.intro rfl (And.intro rfl ?_))) <;> conv => whnf)
  obtain ⟨h1, h2, h3, h4⟩ := hcs
  cases cs with
  | nil => simp at h2
  | cons c0 cs' =>
    refine DT.opk hTb rfl (o_append (q := 112) (rows := [encCol c0]) (news := [encCol ⟨⟨#[107]⟩, 1, w == 0, false, ⟨0, 0, ⟨#[]⟩⟩⟩]) hTb rfl rfl rfl rfl rfl rfl rfl rfl rfl (by decide) (by show (1 + 1) * 64 ≤ _; omega) (by show 1 + 1 ≤ maxLen; unfold maxLen; omega)) ?_
    (conv => whnf); repeat' ((first | (refine And.intro ?_ ?_ <;> ((try intro h) <;> (try simp only [Bool.not_true, Bool.not_false] at h) <;> first | exact absurd h gF | exact absurd h.symm gF | conv => whnf)) | (refine Need.mk ?_; kernel_rfl)) <;> conv => whnf)
    refine endR [] (α := List Col × Nat) ([c0, ⟨⟨#[107]⟩, 1, w == 0, false, ⟨0, 0, ⟨#[]⟩⟩⟩], q + 1) rfl rfl rfl rfl rfl (LeS.of_eq rfl) rfl rfl ⟨fun x hx => ?_, by simp, by simp only; omega⟩
    rcases List.mem_cons.1 hx with rfl | hx
    · exact h1 _ (by simp)
    · simp at hx; subst hx; exact ⟨(by decide : (⟨#[107]⟩ : ByteArray).size ≤ 8), (by decide : (⟨#[]⟩ : ByteArray).size ≤ 8)⟩
theorem c_l3SetsO {bs : List Int} (hb : BOk bs) (p : Nat) (L : List Col) (hL : smlCols L) (hl : L.length ≤ 20) (hp : p ≤ 1099511300000) : CallsV Tryz.prog 137 [rdS, colsI L] [rdO bs p]
    (relQ (fun y : List VSet × Nat => smSets y.1 ∧ y.2 ≤ p + 100) (fun y => .one (.own 1 0 y.1.length)) (fun y => [some (rdO bs y.2)]) (fun y => [.arr 209 4 (y.1.map encVSet)])) := by
  have e0 := bs0
  refine funF_walk hTb Tryz.func137 rfl rfl Tryz.ntmps137 (by simp) (by simp) ?_
  (conv => whnf)
  refine VL.loopI (α := Nat × List VSet × Nat) hTb (fun ⟨k, ss, q⟩ => k ≤ L.length ∧ ss.length ≤ k ∧ sm8 ss ∧ q ≤ p + 4 * k)
    (fun ⟨k, ss, q⟩ => ⟨[(0, rdS), (1, colsI L), (5, .one (.own 108 0 ss.length)), (6, iS k)], [(0, rdO bs q), (108, .arr 209 4 (ss.map encVSet))], []⟩) (fun x => L.length - x.1) (0, [], p) ⟨by omega, by simp, (fun x hx => by cases hx), by omega⟩
    (wk_to [(0, 0), (108, 108)] rfl rfl rfl ⟨rfl, rfl, rfl, rfl, trivial⟩ ⟨rfl, ⟨_, rfl, rfl⟩, rfl, ⟨_, rfl, rfl⟩, trivial⟩) (fun x hx => ?_)
  obtain ⟨k, ss, q⟩ := x
  obtain ⟨i1, i2, i3, i4⟩ := hx
  (conv => whnf)
  refine And.intro (fun h2 => ?_) (fun h2 => ?_)
  · have hlt : k < L.length := by simpa using h2
    have hrow := row_at hlt
    have hci := hL _ (List.getElem_mem hlt)
    generalize L[k] = ci at hrow hci
    obtain ⟨cn, ck, c1, c2, ⟨c3, c4, c5⟩⟩ := ci
    have hn8 : cn.size ≤ 8 := hci.1
    (conv => whnf); repeat' ((first | (refine And.intro ?_ ?_ <;> ((try intro h) <;> (try simp only [gS] at h) <;> first | exact absurd h gF | exact absurd h.symm gF | conv => whnf)) | (refine VL.drawS hTb hMix (by kernel_rfl) (by kernel_rfl) (by kernel_rfl) ?_) | (refine Need.mk ?_; kernel_rfl) | (refine VR.op hTb rfl rfl (o_index_imm hTb rfl rfl rfl rfl rfl rfl rfl (by omega) (hrow)) rfl ?_) | (refine DT.op hTb rfl (o_index_imm hTb rfl rfl rfl rfl rfl rfl rfl (by omega) (hrow)) rfl ?_) | (refine VR.rel hTb rfl rfl (o_relN (c_pick hb _ _ (by omega)) false [0] (fun _ _ => ⟨by simp, gN⟩) rfl rfl rfl rfl rfl gQ rfl rfl) ?_; rintro w hw; (try simp only at hw)) | (refine VR.rel hTb rfl rfl (o_relN (c_l1Some hb _ _ (by omega)) false [0] (fun _ _ => ⟨by simp, gN⟩) rfl rfl rfl rfl rfl gQ rfl rfl) ?_; rintro ⟨⟨vk, vn, vt⟩, q2⟩ hv; (try simp only at hv)) | (refine DT.opk hTb rfl (o_app1 (q := 162) (a := ⟨_, ⟨_, _, _⟩⟩) hTb rfl rfl rfl rfl rfl rfl rfl rfl rfl rfl rfl rfl (by omega) (by show _ * 48 ≤ _; omega) (by unfold maxLen; omega)) ?_)) <;> conv => whnf)
    all_goals first
      | (refine ⟨(k + 1, ss ++ [⟨cn, ⟨_, _, _⟩⟩], _), ⟨by omega, by simp; omega, ?_, ?_⟩, by show L.length - (k + 1) < L.length - k; omega,
          wk_to [(0, 0), (162, 108)] rfl rfl rfl ⟨rfl, rfl, congrArg (fun n => Slot.one (.own 108 0 n)) (by simp), gW (by unfold maxLen; omega), trivial⟩ ⟨rfl, ⟨_, rfl, rfl⟩, rfl, ⟨_, rfl, rfl⟩, trivial⟩⟩)
      | (refine ⟨(k + 1, ss, _), ⟨by omega, by omega, i3, ?_⟩, by show L.length - (k + 1) < L.length - k; omega,
          wk_to [(0, 0), (108, 108)] rfl rfl rfl ⟨rfl, rfl, rfl, gW (by unfold maxLen; omega), trivial⟩ ⟨rfl, ⟨_, rfl, rfl⟩, rfl, ⟨_, rfl, rfl⟩, trivial⟩⟩)
      | skip
    all_goals first
      | exact sm8.app i3 hn8 hv.1
      | omega
  · have hk : k = L.length := by simp at h2; omega
    subst hk
    (conv => whnf); repeat' ((first | (refine And.intro ?_ ?_ <;> ((try intro h) <;> (try simp only [gS] at h) <;> first | exact absurd h gF | exact absurd h.symm gF | conv => whnf)) | (refine VR.rel hTb rfl rfl (o_relN (c_pick hb _ _ (by omega)) false [0] (fun _ _ => ⟨by simp, gN⟩) rfl rfl rfl rfl rfl gQ rfl rfl) ?_; rintro w hw; (try simp only at hw)) | (refine VR.rel hTb rfl rfl (o_relN (c_of hb _ _ _ (fun t => t.size ≤ 8) (by simp [strRows]; decide) (by simp) (by omega)) false [0, 169] (fun _ _ => ⟨by simp, gN⟩) rfl rfl rfl rfl rfl gQ rfl rfl) ?_; rintro nm hnm; (try simp only at hnm)) | (refine VR.rel hTb rfl rfl (o_relN (c_l1Draw hb _ (by omega)) false [0] (fun _ _ => ⟨by simp, gN⟩) rfl rfl rfl rfl rfl gQ rfl rfl) ?_; rintro ⟨⟨vk, vn, vt⟩, q2⟩ hv; (try simp only at hv)) | (refine VR.opk hTb rfl rfl (o_app1 (q := 173) (a := ⟨nm, ⟨_, _, _⟩⟩) hTb rfl rfl rfl rfl rfl rfl rfl rfl rfl rfl rfl rfl (by omega) (by show _ * 48 ≤ _; omega) (by unfold maxLen; omega)) ?_) | (refine Need.mk ?_; exact ⟨rfl, by omega, by omega⟩) | (refine VR.op hTb rfl rfl (o_storeM hTb rfl rfl rfl rfl rfl (List.getElem?_eq_getElem (show 0 + 0 < ss.length by omega)) rfl rfl rfl ⟨rfl, by decide⟩ (c' := ⟨_, ⟨_, _, _⟩⟩) rfl) rfl ?_)) <;> conv => whnf)
    all_goals first
      | refine endR [173] (_, _) rfl rfl rfl rfl rfl (LeS.of_eq (congrArg (fun n => Slot.one (.own 1 0 n)) (by simp))) rfl rfl ⟨⟨?_, ?_⟩, ?_⟩
      | refine endR [108] (_, _) rfl rfl rfl rfl rfl (LeS.of_eq (congrArg (fun n => Slot.one (.own 1 0 n)) (by simp))) rfl rfl ⟨⟨?_, ?_⟩, ?_⟩
    all_goals first
      | exact i3
      | exact sm8.set i3 _ (i3 _ (List.getElem_mem _)).1 hv.1
      | exact sm8.app i3 hnm (show (⟨#[]⟩ : ByteArray).size ≤ 8 by decide)
      | (simp only [List.length_set, List.length_append, List.length_cons, List.length_nil]; omega)
      | omega
theorem sm8.set' {l : List VSet} (h : sm8 l) (k : Nat) {c : VSet} (h1 : c.name.size ≤ 8) (h2 : c.val.md) : sm8 (l.set k c) := by
  intro x hx
  rcases List.mem_or_eq_of_mem_set hx with hx | rfl
  · exact h x hx
  · exact ⟨h1, h2⟩
theorem c_l4Sets {bs : List Int} (hb : BOk bs) (p : Nat) (b : VBase) (hD : b.dr) (k : Nat) (hk : k < b.tabs.length) (hp : p ≤ 1099511200000) : CallsV Tryz.prog 177 [rdS, .agg (encVBase b), iS k] [rdO bs p]
    (relQ (fun y : List VSet × Nat => smSets y.1 ∧ y.2 ≤ p + 2000) (fun y => vsetsI y.1) (fun y => [some (rdO bs y.2)]) (fun _ => [])) := by
  have hll := hD.ll
  have hrk := rowVTab hk
  have hTk := (hD.tm _ (List.getElem_mem hk)).2.1
  generalize b.tabs[k] = tk at hrk hTk
  obtain ⟨tn, T⟩ := tk
  simp only at hTk
  have hLs := tL_sml hTk
  have hLl := hTk.lenL
  have cL := c_l3Last T hTk.md
  generalize tL T = L at hLs hLl cL
  have cA := fun s => c_l4At b s (lmax (by have := hD.tl; omega))
  refine funF_walk hTb Tryz.func177 rfl rfl Tryz.ntmps177 (by simp) (by simp) ?_
  (conv => whnf); repeat' ((first | (refine VR.op hTb rfl rfl (o_index_imm hTb rfl rfl rfl rfl rfl rfl rfl (by omega) (hrk)) rfl ?_) | (refine VR.pure hTb rfl rfl (o_purF (cL) rfl rfl rfl gQ rfl) ?_) | (refine VR.rel hTb rfl rfl (o_relN (c_l3SetsO hb _ L hLs (by omega) (by omega)) false [0] (fun _ _ => ⟨by simp, gN⟩) rfl rfl rfl rfl rfl gQ rfl rfl) ?_; rintro ⟨ss, q⟩ hss; (try simp only at hss))) <;> conv => whnf)
  have hsl := hss.1.1
  generalize hn : ss.length = n at hsl
  refine VL.loopI (α := Nat × List VSet × Nat) hTb (fun x => x.1 ≤ n ∧ x.2.1.length = n ∧ sm8 x.2.1 ∧ x.2.2 ≤ p + 100 + 8 * x.1)
    (fun x => ⟨[(0, rdS), (2, iS k), (4, .one (.ptr 104 0)), (7, .one (.own 1084 0 n)), (8, iS x.1)], [(0, rdO bs x.2.2), (104, .box (encVBase b)), (1084, .arr 209 4 (x.2.1.map encVSet))], []⟩) (fun x => n - x.1) (0, ss, q) ⟨by simp only; omega, hn, hss.1.2, by simp only; omega⟩
    (wk_to [(0, 0), (104, 104), (1084, 1084)] rfl rfl rfl ⟨rfl, rfl, rfl, rfl, rfl, trivial⟩ ⟨rfl, ⟨_, rfl, rfl⟩, rfl, ⟨_, rfl, rfl⟩, rfl, ⟨_, rfl, rfl⟩, trivial⟩) (fun x hx => ?_)
  clear hss hn
  obtain ⟨i, ss, q⟩ := x
  obtain ⟨i1, i2, i3, i4⟩ := hx
  simp only at i1 i2 i3 i4
  (conv => whnf)
  refine And.intro (fun h2 => ?_) (fun h2 => ?_)
  · have hin : i < n := by simp at h2; omega
    (conv => whnf)
    refine VL.loopI (α := Nat × List VSet × Nat) hTb (fun x => x.1 ≤ b.links.length ∧ x.2.1.length = n ∧ sm8 x.2.1 ∧ x.2.2 ≤ p + 100 + 8 * i + 2 * x.1)
      (fun x => ⟨[(0, rdS), (2, iS k), (4, .one (.ptr 104 0)), (7, .one (.own 1084 0 n)), (8, iS i), (9, iS x.1)], [(0, rdO bs x.2.2), (104, .box (encVBase b)), (1084, .arr 209 4 (x.2.1.map encVSet))], []⟩) (fun x => b.links.length - x.1) (0, ss, q) ⟨Nat.zero_le _, i2, i3, by simp only; omega⟩
      (wk_to [(0, 0), (104, 104), (1084, 1084)] rfl rfl rfl ⟨rfl, rfl, rfl, rfl, rfl, rfl, trivial⟩ ⟨rfl, ⟨_, rfl, rfl⟩, rfl, ⟨_, rfl, rfl⟩, rfl, ⟨_, rfl, rfl⟩, trivial⟩) (fun x hx => ?_)
    clear i2 i3 i4
    obtain ⟨j, ss, q⟩ := x
    obtain ⟨j1, i2, i3, i4⟩ := hx
    simp only at j1 i2 i3 i4
    (conv => whnf)
    refine And.intro (fun h3 => ?_) (fun h3 => ?_)
    · have hjl : j < b.links.length := by simpa using h3
      have hrow := rowVLink hjl
      have hmem := List.getElem_mem hjl
      have hlm := hD.lm _ hmem
      generalize b.links[j] = li at hrow hlm
      have cA := cA li.dst
      have hzd := hlm.2.2.1
      obtain ⟨n', hR⟩ := rowTabZ hzd
      have hr8 := (hD.of hzd).1.rl
      generalize tabOf b li.dst = T2 at hR hr8
      generalize tabIx b li.dst = z at cA hR hzd
      have hat : ss[0 + ((i : Nat) : Int).toNat]? = some (ss[i]'(by omega)) := by rw [Nat.zero_add, Int.toNat_natCast]; exact List.getElem?_eq_getElem _
      have h8 := i3 _ (List.getElem_mem (show i < ss.length by omega))
      generalize ss[i]'(by omega) = si at hat h8
      obtain ⟨sn, ⟨sk, sv, st⟩⟩ := si
      obtain ⟨l1, l2, l3, l4⟩ := li
      simp only at cA hR
      (conv => whnf); repeat' ((first | (refine And.intro ?_ ?_ <;> ((try intro h) <;> (try simp only [gS] at h) <;> first | exact absurd h gF | exact absurd h.symm gF | conv => whnf)) | (refine VL.drawS hTb hMix (by kernel_rfl) (by kernel_rfl) (by kernel_rfl) ?_) | (refine Need.mk ?_; kernel_rfl) | (refine VR.op hTb rfl rfl (o_index_imm hTb rfl rfl rfl rfl rfl rfl rfl (by omega) (hrow)) rfl ?_) | (refine VR.pure hTb rfl rfl (o_purN (cA) rfl rfl rfl gQ rfl) ?_) | (refine DT.op hTb rfl (o_index_imm hTb rfl rfl rfl rfl rfl rfl rfl (by omega) (hrk)) rfl ?_) | (refine Need.mk ?_; exact ⟨rfl, by omega, by omega⟩) | (refine DT.op hTb rfl (o_loadM hTb rfl rfl rfl rfl (hat) ⟨by decide, by decide⟩) rfl ?_) | (refine DT.rel hTb rfl (o_relN (c_pick hb q _ (by omega)) false [0] (fun _ _ => ⟨by simp, gN⟩) rfl rfl rfl rfl rfl gQ rfl rfl) [0] (by kernel_rfl) (by kernel_rfl) ?_; rintro w hw; (try simp only at hw); refine And.intro rfl (And.intro rfl ?_)) | (refine VR.rel hTb rfl rfl (o_relN (c_pick hb (q + 1) _ (by omega)) false [0] (fun _ _ => ⟨by simp, gN⟩) rfl rfl rfl rfl rfl gQ rfl rfl) ?_; rintro w2 hw2; (try simp only at hw2)) | (refine VR.op hTb rfl rfl (o_index_imm hTb rfl rfl rfl rfl rfl rfl rfl (by omega) (hR)) rfl ?_) | (refine VR.op hTb rfl rfl (o_index_imm hTb rfl rfl rfl rfl rfl rfl rfl (by omega) (rowRZ (l := T2.rows) (z := w2) (by simp at *; omega))) rfl ?_) | (refine VR.op hTb rfl rfl (o_storeM hTb rfl rfl rfl rfl rfl (hat) rfl rfl rfl ⟨rfl, by decide⟩ (c' := ⟨_, ⟨_, _, _⟩⟩) rfl) rfl ?_)) <;> conv => whnf)
      all_goals first
        | exact ⟨(j + 1, ss, _), ⟨hjl, i2, i3, by simp only; omega⟩, by show b.links.length - (j + 1) < b.links.length - j; omega, wk_to [(0, 0), (104, 104), (1084, 1084)] rfl rfl rfl ⟨rfl, rfl, rfl, rfl, rfl, gW (by unfold maxLen; omega), trivial⟩ ⟨rfl, ⟨_, rfl, rfl⟩, rfl, ⟨_, rfl, rfl⟩, rfl, ⟨_, rfl, rfl⟩, trivial⟩⟩
        | (refine ⟨(j + 1, ss.set (0 + ((i : Nat) : Int).toNat) ⟨sn, ⟨sk, _, st⟩⟩, q + 1 + 1), ⟨hjl, (by simp only [List.length_set]; exact i2), ?_, (by simp only; omega)⟩, (by show b.links.length - (j + 1) < b.links.length - j; omega), wk_to [(0, 0), (104, 104), (1084, 1084)] rfl rfl rfl ⟨rfl, rfl, rfl, rfl, rfl, gW (by unfold maxLen; omega), trivial⟩ ⟨rfl, ⟨_, rfl, rfl⟩, rfl, ⟨_, rfl, rfl⟩, rfl, ⟨_, rfl, rfl⟩, trivial⟩⟩
           exact sm8.set' i3 _ h8.1 h8.2)
        | (refine ⟨(j + 1, ss.set (0 + ((i : Nat) : Int).toNat) ⟨sn, ⟨0, 0, ⟨#[]⟩⟩⟩, q + 1 + 1), ⟨hjl, (by simp only [List.length_set]; exact i2), ?_, (by simp only; omega)⟩, (by show b.links.length - (j + 1) < b.links.length - j; omega), wk_to [(0, 0), (104, 104), (1084, 1084)] rfl rfl rfl ⟨rfl, rfl, rfl, rfl, rfl, gW (by unfold maxLen; omega), trivial⟩ ⟨rfl, ⟨_, rfl, rfl⟩, rfl, ⟨_, rfl, rfl⟩, rfl, ⟨_, rfl, rfl⟩, trivial⟩⟩
           exact sm8.set' i3 _ h8.1 (show (0 : Nat) ≤ 1048576 by omega))
    · (conv => whnf)
      exact ⟨(i + 1, ss, q), ⟨hin, i2, i3, by simp only; omega⟩, by show n - (i + 1) < n - i; omega, wk_to [(0, 0), (104, 104), (1084, 1084)] rfl rfl rfl ⟨rfl, rfl, rfl, rfl, gW (by unfold maxLen; omega), trivial⟩ ⟨rfl, ⟨_, rfl, rfl⟩, rfl, ⟨_, rfl, rfl⟩, rfl, ⟨_, rfl, rfl⟩, trivial⟩⟩
  · (conv => whnf)
    exact endR [] (ss, q) rfl rfl rfl rfl rfl (LeS.of_eq (by subst i2; exact brw)) rfl rfl ⟨⟨by simp only; omega, i3⟩, by simp only; omega⟩
theorem c_l4Link {bs : List Int} (hb : BOk bs) (p : Nat) (b : VBase) (hD : b.dr) (hp : p ≤ 1099511200000) : CallsV Tryz.prog 174 [rdS, .agg (encVBase b)] [rdO bs p]
    (relQ (fun y : VLink × Nat => y.1.sml ∧ y.2 ≤ p + 10) (fun y => .agg (encVLink y.1)) (fun y => [some (rdO bs y.2)]) (fun _ => [])) := by
  have cA := fun s => c_l4At b s (lmax (by have := hD.tl; omega))
  have cL := fun (s : ByteArray) (h : ¬ tabIx b s < 0) => c_l3Last (tabOf b s) (hD.of h).1.md
  have hLs := fun (s : ByteArray) (h : ¬ tabIx b s < 0) => tL_sml (hD.of h).1
  have hL1 := fun (s : ByteArray) (h : ¬ tabIx b s < 0) => (shapeOk_len (hD.of h).2).1
  refine funF_walk hTb Tryz.func174 rfl rfl Tryz.ntmps174 (by simp) (by simp) ?_
  (conv => whnf); repeat' ((first | (refine VR.rel hTb rfl rfl (o_relN (c_of hb _ _ _ (fun t => t.size ≤ 8) (by simp [strRows]; decide) (by simp) (by omega)) false [0, 109] (fun _ _ => ⟨by simp, gN⟩) rfl rfl rfl rfl rfl gQ rfl rfl) ?_; rintro n1 hn1; (try simp only at hn1)) | (refine VR.rel hTb rfl rfl (o_relN (c_l2Names) false [] (fun _ _ => ⟨by simp, gN⟩) rfl rfl rfl rfl rfl gQ rfl rfl) ?_; rintro rows hrows; (try simp only at hrows)) | (refine VR.rel hTb rfl rfl (o_relN (c_ofI hb _ _ (fun t => t.size ≤ 8) hrows.1 hrows.2 (by omega)) false [0] (fun _ _ => ⟨by simp, gN⟩) rfl rfl rfl rfl rfl gQ rfl rfl) ?_; rintro n2 hn2; (try simp only at hn2)) | (refine VR.rel hTb rfl rfl (o_relN (c_pick hb _ 3 (by omega)) false [0] (fun _ _ => ⟨by simp, gN⟩) rfl rfl rfl rfl rfl gQ rfl rfl) ?_; rintro w hw; (try simp only at hw))) <;> conv => whnf)
  rename_i a1 ha1
  have cA := cA a1
  have cL := cL a1
  have hLs := hLs a1
  have hL1 := hL1 a1
  have hR := fun (hz : ¬ tabIx b a1 < 0) => rowTabZ hz
  generalize tabOf b a1 = T at cL hLs hL1 hR
  generalize tabIx b a1 = z at cA cL hLs hL1 hR
  by_cases hz : z < 0
  · (conv => whnf); repeat' ((first | (exact absurd h (by omega)) | (refine And.intro ?_ ?_ <;> ((try intro h) <;> (try simp only [gS] at h) <;> first | exact absurd h gF | exact absurd h.symm gF | conv => whnf)) | (refine VR.pure hTb rfl rfl (o_purN (cA) rfl rfl rfl gQ rfl) ?_) | (refine VR.rel hTb rfl rfl (o_relN (c_pick hb _ _ (by omega)) false [0] (fun _ _ => ⟨by simp, gN⟩) rfl rfl rfl rfl rfl gQ rfl rfl) ?_; rintro w hw; (try simp only at hw)) | (refine VR.rel hTb rfl rfl (o_relN (c_num hb _ _ _ (fun _ => True) (by simp [intRows]) (by simp) (by omega)) false [0, 154] (fun _ _ => ⟨by simp, gN⟩) rfl rfl rfl rfl rfl gQ rfl rfl) ?_; rintro v hv; (try simp only at hv))) <;> conv => whnf)
    all_goals first
      | exact endR [] (⟨a1, n2, n1, _⟩, _) rfl rfl rfl rfl rfl (LeS.refl _) rfl rfl ⟨⟨ha1, hn2, hn1⟩, by simp only; omega⟩
  · obtain ⟨n', hR⟩ := hR hz
    have cL := cL hz
    have hLs := hLs hz
    have hL1 := hL1 hz
    generalize tL T = L at cL hLs hL1
    have hLn : ∀ i, i < L.length → (L.getD i (kCol 0)).name.size ≤ 8 := fun i hi => by
      have e : L.getD i (kCol 0) = L[i] := by simp [List.getD, hi]
      rw [e]; exact (hLs _ (List.getElem_mem hi)).1
    (conv => whnf); repeat' ((first | (exact absurd h (by omega)) | (refine And.intro ?_ ?_ <;> ((try intro h) <;> (try simp only [gS] at h) <;> first | exact absurd h gF | exact absurd h.symm gF | conv => whnf)) | (refine VR.pure hTb rfl rfl (o_purN (cA) rfl rfl rfl gQ rfl) ?_) | (refine VR.rel hTb rfl rfl (o_relN (c_pick hb _ 8 (by omega)) false [0] (fun _ _ => ⟨by simp, gN⟩) rfl rfl rfl rfl rfl gQ rfl rfl) ?_; rintro w hw; (try simp only at hw)) | (refine VR.rel hTb rfl rfl (o_relN (c_pick hb _ 30 (by omega)) false [0] (fun _ _ => ⟨by simp, gN⟩) rfl rfl rfl rfl rfl gQ rfl rfl) ?_; rintro w hw; (try simp only at hw)) | (refine VR.rel hTb rfl rfl (o_relN (c_pick hb _ ((L.map encCol).length : Nat) (by omega)) false [0] (fun _ _ => ⟨by simp, gN⟩) rfl rfl rfl rfl rfl gQ rfl rfl) ?_; rintro w2 hw2; (try simp only at hw2)) | (refine VR.op hTb rfl rfl (o_index_imm hTb rfl rfl rfl rfl rfl rfl rfl (by omega) (hR)) rfl ?_) | (refine VR.pure hTb rfl rfl (o_purF (cL) rfl rfl rfl gQ rfl) ?_) | (refine VR.op hTb rfl rfl (o_index_imm hTb rfl rfl rfl rfl rfl rfl rfl (by omega) (rowD (s := L) (z := w2) (by omega) (by simp only [List.length_map] at *; omega))) rfl ?_) | (refine VR.rel hTb rfl rfl (o_relN (c_num hb _ _ _ (fun _ => True) (by simp [intRows]) (by simp) (by omega)) false [0, 154] (fun _ _ => ⟨by simp, gN⟩) rfl rfl rfl rfl rfl gQ rfl rfl) ?_; rintro v hv; (try simp only at hv))) <;> conv => whnf)
    all_goals first
      | exact endR [] (⟨a1, n2, n1, _⟩, _) rfl rfl rfl rfl rfl (LeS.refl _) rfl rfl ⟨⟨ha1, hn2, hn1⟩, by simp only; omega⟩
      | exact endR [] (⟨a1, _, n1, _⟩, _) rfl rfl rfl rfl rfl (LeS.refl _) rfl rfl ⟨⟨ha1, hLn w2.toNat (by simp only [List.length_map] at *; omega), hn1⟩, by simp only; omega⟩
end Go.Vl

/- Contracts: bases drawn: a table, a link put behind. Contracts: bases drawn: one act, a base. Contracts: bases drawn: a base. Contracts: bases drawn: bent, picked; draws. Plain laws: what goes with a row of a base; fewer links; bases bent. -/
import Derived.Test.YtdijjjgplhbkkaaGreatDoorJEa
import Derived.Test.YtdijjjgplhbkkaaGreatDoorJEo
import Derived.Test.YtdijjjgplhbkkaaGreatDoorJEj
import Derived.Test.YtdijjjgplhbkkaaGreatDoorJEp
import Derived.Test.YtdijjjgplhbkkaaGreatDoorJEh
import Derived.Test.YtdijjjgplhbkkaaGreatDoorJEl
set_option linter.unusedSimpArgs false
set_option linter.unusedVariables false
set_option linter.unnecessarySimpa false
set_option maxRecDepth 100000
set_option maxHeartbeats 16000000

namespace Go.Vl
open Go Go.RowKit Go.Proofs
theorem le_base0 (c : Int) : LeS (.tup [(true, [.g (.slice none 0 0), .g (.slice none 0 0)]), (false, [.g (.int .i64 c)])]) (bcS (⟨[], []⟩, c)) := ⟨rfl, ⟨.inr ⟨5, rfl, rfl⟩, .inr ⟨4, rfl, rfl⟩, trivial⟩, rfl, ⟨.inl rfl, trivial⟩, trivial⟩
theorem fzTab1 (l : List VTab) (t : VTab) : (((l ++ [t]).map encVTab).drop 0).take (l.length + 1) = (l ++ [t]).map encVTab := by rw [List.drop_zero, List.take_of_length_le (by simp)]
theorem fzLk1 (l : List VLink) (t : VLink) : (((l ++ [t]).map encVLink).drop 0).take (l.length + 1) = (l ++ [t]).map encVLink := by rw [List.drop_zero, List.take_of_length_le (by simp)]
theorem tL_new {cs : List Col} (h : shapeOk cs = true) : tL ⟨cs, [], [], 1⟩ = cs := by
  unfold tL; rw [shAll_yes h (show chGo cs [] = some cs from rfl)]
theorem c_specBaseTable (b : VBase) (hD : b.dr) (nm : ByteArray) (hn : nm.size ≤ 8) (cs : List Col) (hs : smlCols cs) (hl : cs.length ≤ 10) : CallsV Tryz.prog 171 [.agg (encVBase b), strS nm, colsI cs] [] (relQ (fun y : VBase × Int => y.1.dr) bcS (fun _ => []) (fun _ => [])) := by
  have htl := hD.tl
  have c1 := c_specBaseOk b hD.md
  have c2 := c_l2Name nm (by unfold maxLen; omega)
  have c3 := c_specShapeOk cs (by unfold maxLen; omega) hs.md.ok
  have c4 := c_l4At b nm (lmax (by omega))
  have cC := c_l4Copy b hD.md
  have cT := c_specTabNew cs (by omega) hs.md.ok
  have hA := fun (h : tabIx b nm < 0) (h3 : b.tabs.length < 3) (h5 : shapeOk cs = true) => hD.appT (x := ⟨nm, ⟨cs, [], [], 1⟩⟩) h3 hn (dr_nil hs hl) (by rw [tL_new h5]; exact h5) h
  unfold tNewT at cT
  generalize baseOk b = k1 at c1
  generalize nameOk nm = k2 at c2
  generalize shapeOk cs = k3 at c3 cT hA
  generalize tabIx b nm = z at c4 hA
  refine funF_walk hTb Tryz.func171 rfl rfl Tryz.ntmps171 (by simp) (by simp) ?_
  cases k1
  · (conv => whnf); repeat' ((first | (refine And.intro ?_ ?_ <;> ((try intro h) <;> (try simp only [gS] at h) <;> first | exact absurd h gF | exact absurd h.symm gF | conv => whnf)) | (refine VR.pure hTb rfl rfl (o_purN (c1) rfl rfl rfl gQ rfl) ?_)) <;> conv => whnf)
    exact endR [] (⟨[], []⟩, 1) rfl rfl rfl rfl rfl (le_base0 1) rfl rfl dr_base0
  cases k2 <;> cases k3 <;> (conv => whnf); repeat' ((first | (refine VL.freeze 1057 rfl rfl ?_; conv => whnf; rw [fzLk]) | (refine And.intro ?_ ?_ <;> ((try intro h) <;> (try simp only [gS] at h) <;> first | exact absurd h gF | exact absurd h.symm gF | conv => whnf)) | (refine VL.drawS hTb hMix (by kernel_rfl) (by kernel_rfl) (by kernel_rfl) ?_) | (refine Need.mk ?_; kernel_rfl) | (refine VR.pure hTb rfl rfl (o_purN (c1) rfl rfl rfl gQ rfl) ?_) | (refine VR.pure hTb rfl rfl (o_purN (c2) rfl rfl rfl gQ rfl) ?_) | (refine VR.pure hTb rfl rfl (o_purN (c3) rfl rfl rfl gQ rfl) ?_) | (refine VR.pure hTb rfl rfl (o_purN (c4) rfl rfl rfl gQ rfl) ?_) | (refine VR.fun hTb rfl rfl (o_funN (cC) false [] gN (by simp) rfl rfl rfl rfl rfl gQ rfl rfl) ?_) | (refine DT.pure hTb rfl (o_purF (cT) rfl rfl rfl gQ rfl) ?_) | (refine DT.opk hTb rfl (o_app1 (q := 144) (a := ⟨nm, ⟨cs, [], [], 1⟩⟩) hTb rfl rfl rfl rfl rfl rfl rfl rfl rfl rfl rfl rfl (by omega) (by show _ * 96 ≤ _; omega) (by unfold maxLen; omega)) ?_)) <;> conv => whnf)
  all_goals first
    | exact endR [] (b, _) rfl rfl rfl rfl rfl (LeS.of_eq (brwBc2 b _ rfl rfl)) rfl rfl hD
    | exact endR [] (b, _) rfl rfl rfl rfl rfl (LeS.of_eq (brwBc b _ rfl)) rfl rfl hD
    | (refine endR [] (α := VBase × Int) (⟨b.tabs ++ [⟨nm, ⟨cs, [], [], 1⟩⟩], b.links⟩, 0) rfl rfl rfl rfl rfl (LeS.of_eq ?_) rfl rfl (hA (by omega) (by simp only [List.length_map] at *; omega) rfl)
       exact brwBc ⟨b.tabs ++ [⟨nm, ⟨cs, [], [], 1⟩⟩], b.links⟩ 0 (n := b.tabs.length + 1) (by simp))
theorem c_specBaseLink (b : VBase) (hD : b.dr) (l : VLink) (hl : l.sml) : CallsV Tryz.prog 173 [.agg (encVBase b), .agg (encVLink l)] [] (relQ (fun y : VBase × Int => y.1.dr) bcS (fun _ => []) (fun _ => [])) := by
  have hll := hD.ll
  have c1 := c_specBaseOk b hD.md
  have cC := c_l4Copy b hD.md
  have cI := c_l4CopyI b hD.md
  have c2 := c_l4Fits b l hD.md
  have ew : IntKind.i64.wrap ((((b.links ++ [l]).map encVLink).length : Int) - 1) = ((b.links.length : Nat) : Int) := by
    rw [IntKind.wrap_i64, List.length_map, List.length_append, List.length_cons, List.length_nil]; omega
  have c3 := c_l4Apart ⟨b.tabs, b.links ++ [l]⟩ b.links.length (by simp) (lmax (by simp; omega))
  rw [← ew] at c3
  have c4 := fun (h1 : baseOk b = true) (h2 : fitB b l = true) => c_l4Holds b l (LkOk.of hD.md (tabsOk_of (baseOk_iff.1 h1).tb) h2).s
  have hA := fun (h2 : fitB b l = true) (h4 : b.links.length < 4) => hD.appL h4 hl (fitB_iff.1 h2).1 (fitB_iff.1 h2).2.1 (fitB_iff.1 h2).2.2.2.1
  generalize baseOk b = k1 at c1 c4
  generalize fitB b l = k2 at c2 c4 hA
  generalize apB _ _ = k3 at c3
  generalize holdB b l = k4 at c4
  refine funF_walk hTb Tryz.func173 rfl rfl Tryz.ntmps173 (by simp) (by simp) ?_
  cases k1
  · (conv => whnf); repeat' ((first | (refine And.intro ?_ ?_ <;> ((try intro h) <;> (try simp only [gS] at h) <;> first | exact absurd h gF | exact absurd h.symm gF | conv => whnf)) | (refine VR.pure hTb rfl rfl (o_purN (c1) rfl rfl rfl gQ rfl) ?_)) <;> conv => whnf)
    exact endR [] (⟨[], []⟩, 1) rfl rfl rfl rfl rfl (le_base0 1) rfl rfl dr_base0
  cases k2
  · (conv => whnf); repeat' ((first | (refine And.intro ?_ ?_ <;> ((try intro h) <;> (try simp only [gS] at h) <;> first | exact absurd h gF | exact absurd h.symm gF | conv => whnf)) | (refine VR.pure hTb rfl rfl (o_purN (c1) rfl rfl rfl gQ rfl) ?_) | (refine VR.fun (o := ⟨some 12, _, _, _, _, _⟩) hTb rfl rfl (o_funN cC false [] gN (by simp) rfl rfl rfl rfl rfl gQ rfl rfl) ?_) | (refine VR.freeze hTb rfl 1048 rfl rfl ?_; conv => whnf; rw [fzTab]) | (refine VR.opk hTb rfl rfl (o_app1 (q := 118) (a := l) hTb rfl rfl rfl rfl rfl rfl rfl rfl rfl rfl rfl rfl (by omega) (by show _ * 56 ≤ _; omega) (by unfold maxLen; omega)) ?_) | (refine VR.freeze hTb rfl 118 rfl rfl ?_; conv => whnf; rw [fzLk1]) | (refine VR.pure hTb rfl rfl (o_purN (c2) rfl rfl rfl gQ rfl) ?_) | (refine VR.pure hTb rfl rfl (o_purF (cI) rfl rfl rfl gQ rfl) ?_)) <;> conv => whnf)
    all_goals first
      | exact endR [] (b, 1) rfl rfl rfl rfl rfl (LeS.refl _) rfl rfl hD
  have c4 := c4 rfl rfl
  have hA := hA rfl
  cases k3 <;> cases k4 <;> (conv => whnf); repeat' ((first | (refine And.intro ?_ ?_ <;> ((try intro h) <;> (try simp only [gS] at h) <;> first | exact absurd h gF | exact absurd h.symm gF | conv => whnf)) | (refine VR.pure hTb rfl rfl (o_purN (c1) rfl rfl rfl gQ rfl) ?_) | (refine VR.fun (o := ⟨some 12, _, _, _, _, _⟩) hTb rfl rfl (o_funN cC false [] gN (by simp) rfl rfl rfl rfl rfl gQ rfl rfl) ?_) | (refine VR.freeze hTb rfl 1048 rfl rfl ?_; conv => whnf; rw [fzTab]) | (refine VR.opk hTb rfl rfl (o_app1 (q := 118) (a := l) hTb rfl rfl rfl rfl rfl rfl rfl rfl rfl rfl rfl rfl (by omega) (by show _ * 56 ≤ _; omega) (by unfold maxLen; omega)) ?_) | (refine VR.freeze hTb rfl 118 rfl rfl ?_; conv => whnf; rw [fzLk1]) | (refine VR.pure hTb rfl rfl (o_purN (c2) rfl rfl rfl gQ rfl) ?_) | (refine VR.pure hTb rfl rfl (o_purN (c3) rfl rfl rfl gQ rfl) ?_) | (refine VR.pure hTb rfl rfl (o_purN (c4) rfl rfl rfl gQ rfl) ?_) | (refine VR.pure hTb rfl rfl (o_purF (cI) rfl rfl rfl gQ rfl) ?_)) <;> conv => whnf)
  all_goals first
    | exact endR [] (b, _) rfl rfl rfl rfl rfl (LeS.refl _) rfl rfl hD
    | exact endR [] (α := VBase × Int) (⟨b.tabs, b.links ++ [l]⟩, 0) rfl rfl rfl rfl rfl (LeS.refl _) rfl rfl (hA (by simp only [List.length_map] at *; omega))
theorem c_l4Act {bs : List Int} (hb : BOk bs) (p : Nat) (b : VBase) (hD : b.dr) (hp : p ≤ 1099511100000) : CallsV Tryz.prog 116 [rdS, .agg (encVBase b)] [rdO bs p]
    (relQ (fun y : VBase × Nat => y.1.dr ∧ y.2 ≤ p + 2100) (fun y => .agg (encVBase y.1)) (fun y => [some (rdO bs y.2)]) (fun _ => [])) := by
  have htl := hD.tl
  have cM := fun x => c_l1Max 1 x
  have cSh := fun q (hq : q ≤ 1099511400000) => c_l2Shape hb q hq
  by_cases h0 : b.tabs.length = 0
  · have hlen : (b.tabs.map encVTab).length = 0 := by simpa using h0
    have cM := cM (((b.tabs.map encVTab).length : Nat) : Int)
    generalize (if (((b.tabs.map encVTab).length : Nat) : Int) < 1 then (1 : Int) else (((b.tabs.map encVTab).length : Nat) : Int)) = mx at cM
    refine funF_walk hTb Tryz.func116 rfl rfl Tryz.ntmps116 (by simp) (by simp) ?_
    (conv => whnf); repeat' ((first | (refine absurd h ?_; (rw [hlen]; decide)) | (refine And.intro ?_ ?_ <;> ((try intro h) <;> (try simp only [gS] at h) <;> first | exact absurd h gF | exact absurd h.symm gF | conv => whnf)) | (refine VL.drawS hTb hMix (by kernel_rfl) (by kernel_rfl) (by kernel_rfl) ?_) | (refine Need.mk ?_; kernel_rfl) | (refine VR.pure hTb rfl rfl (o_purN (cM) rfl rfl rfl gQ rfl) ?_) | (refine VR.rel hTb rfl rfl (o_relN (c_pick hb p _ (by omega)) false [0] (fun _ _ => ⟨by simp, gN⟩) rfl rfl rfl rfl rfl gQ rfl rfl) ?_; rintro w hw; (try simp only at hw)) | (refine DT.rel hTb rfl (o_relN (cSh (p + 1) (by omega)) false [0] (fun _ _ => ⟨by simp, gN⟩) rfl rfl rfl rfl rfl gQ rfl rfl) [0] (by kernel_rfl) (by kernel_rfl) ?_; rintro ⟨cs, q⟩ hcs; (try simp only at hcs); refine And.intro rfl (And.intro rfl ?_)) | (refine DT.rel hTb rfl (o_relN (c_specBaseTable b hD ⟨#[116]⟩ (by decide) cs hcs.1 (by omega)) false [] (fun _ _ => ⟨by simp, gN⟩) rfl rfl rfl rfl rfl gQ rfl rfl) [] (by kernel_rfl) (by kernel_rfl) ?_; rintro ⟨y, cd⟩ hy; (try simp only at hy); refine And.intro rfl (And.intro rfl ?_))) <;> conv => whnf)
    all_goals first
      | exact endR [] (y, q) rfl rfl rfl rfl rfl (LeS.refl _) rfl rfl ⟨hy, by simp only; omega⟩
  · have hlen : (b.tabs.map encVTab).length ≠ 0 := by simpa using h0
    have cM1 := cM (((b.tabs.map encVTab).length : Nat) : Int)
    rw [if_neg (by omega)] at cM1
    refine funF_walk hTb Tryz.func116 rfl rfl Tryz.ntmps116 (by simp) (by simp) ?_
    (conv => whnf); repeat' ((first | (refine And.intro ?_ ?_ <;> ((try intro h) <;> (try simp only [gS] at h) <;> first | exact absurd h gF | exact absurd h.symm gF | conv => whnf)) | (refine VL.drawS hTb hMix (by kernel_rfl) (by kernel_rfl) (by kernel_rfl) ?_) | (refine VR.pure hTb rfl rfl (o_purN (cM1) rfl rfl rfl gQ rfl) ?_) | (refine VR.rel hTb rfl rfl (o_relN (c_pick hb p _ (by omega)) false [0] (fun _ _ => ⟨by simp, gN⟩) rfl rfl rfl rfl rfl gQ rfl rfl) ?_; rintro w hw; (try simp only at hw))) <;> conv => whnf)
    · exact absurd (show (b.tabs.map encVTab).length = 0 by have := beq_iff_eq.1 h; omega) hlen
    obtain ⟨kk, rfl⟩ : ∃ kk : Nat, w = kk := ⟨w.toNat, by omega⟩
    have hkl : kk < b.tabs.length := by simp only [List.length_map] at *; omega
    have hrk := rowVTab hkl
    have hT := (hD.tm _ (List.getElem_mem hkl)).2.1
    have cS := fun q hq => c_l4Sets hb q b hD kk hkl hq
    have cLk := fun q hq => c_l4Link hb q b hD hq
    generalize b.tabs[kk] = tk at hrk hT
    obtain ⟨tn, T⟩ := tk
    simp only at hT
    have cL := c_l3Last T hT.md
    have hLs := tL_sml hT
    have hLl := hT.lenL
    generalize tL T = L at cL hLs hLl
    have cCh := fun q hq => c_l2Change hb q L hLs (by omega) hq
    clear hw cM1
    (conv => whnf); repeat' ((first | (refine And.intro ?_ ?_ <;> ((try intro h) <;> (try simp only [gS] at h) <;> first | exact absurd h gF | exact absurd h.symm gF | conv => whnf)) | (refine VL.drawS hTb hMix (by kernel_rfl) (by kernel_rfl) (by kernel_rfl) ?_) | (refine Need.mk ?_; kernel_rfl) | (refine VR.pure hTb rfl rfl (o_purN (cM _) rfl rfl rfl gQ rfl) ?_) | (refine VR.rel hTb rfl rfl (o_relN (c_pick hb _ _ (by omega)) false [0] (fun _ _ => ⟨by simp, gN⟩) rfl rfl rfl rfl rfl gQ rfl rfl) ?_; rintro w hw; (try simp only at hw)) | (refine DT.rel hTb rfl (o_relN (c_pick hb _ _ (by omega)) false [0] (fun _ _ => ⟨by simp, gN⟩) rfl rfl rfl rfl rfl gQ rfl rfl) [0] (by kernel_rfl) (by kernel_rfl) ?_; rintro w hw; (try simp only at hw); refine And.intro rfl (And.intro rfl ?_)) | (refine VR.op hTb rfl rfl (o_index_imm hTb rfl rfl rfl rfl rfl rfl rfl (by omega) (hrk)) rfl ?_) | (refine DT.op hTb rfl (o_index_imm hTb rfl rfl rfl rfl rfl rfl rfl (by omega) (hrk)) rfl ?_) | (refine DT.op hTb rfl (o_index_imm hTb rfl rfl rfl rfl rfl rfl rfl (by omega) (rowRZ (l := T.rows) (z := w) (by simp only [List.length_map] at *; omega))) rfl ?_) | (refine DT.rel hTb rfl (o_relN (cLk _ (by omega)) false [0] (fun _ _ => ⟨by simp, gN⟩) rfl rfl rfl rfl rfl gQ rfl rfl) [0] (by kernel_rfl) (by kernel_rfl) ?_; rintro ⟨lk, q2⟩ hlk; (try simp only at hlk); refine And.intro rfl (And.intro rfl ?_)) | (refine DT.rel hTb rfl (o_relN (c_specBaseLink b hD lk hlk.1) false [] (fun _ _ => ⟨by simp, gN⟩) rfl rfl rfl rfl rfl gQ rfl rfl) [] (by kernel_rfl) (by kernel_rfl) ?_; rintro ⟨y, cd⟩ hy; (try simp only at hy); refine And.intro rfl (And.intro rfl ?_)) | (refine DT.rel hTb rfl (o_relN (c_l4Off b hD tn _) false [] (fun _ _ => ⟨by simp, gN⟩) rfl rfl rfl rfl rfl gQ rfl rfl) [] (by kernel_rfl) (by kernel_rfl) ?_; rintro ⟨y, cd⟩ hy; (try simp only at hy); refine And.intro rfl (And.intro rfl ?_)) | (refine DT.rel hTb rfl (o_relN (cS _ (by omega)) false [0] (fun _ _ => ⟨by simp, gN⟩) rfl rfl rfl rfl rfl gQ rfl rfl) [0] (by kernel_rfl) (by kernel_rfl) ?_; rintro ⟨ss, q2⟩ hss; (try simp only at hss); refine And.intro rfl (And.intro rfl ?_)) | (refine DT.rel hTb rfl (o_relN (c_l4Set b hD tn _ ss hss.1) false [] (fun _ _ => ⟨by simp, gN⟩) rfl rfl rfl rfl rfl gQ rfl rfl) [] (by kernel_rfl) (by kernel_rfl) ?_; rintro ⟨y, cd⟩ hy; (try simp only at hy); refine And.intro rfl (And.intro rfl ?_)) | (refine DT.rel hTb rfl (o_relN (c_l4Put b hD tn ss hss.1) false [] (fun _ _ => ⟨by simp, gN⟩) rfl rfl rfl rfl rfl gQ rfl rfl) [] (by kernel_rfl) (by kernel_rfl) ?_; rintro ⟨y, cd⟩ hy; (try simp only at hy); refine And.intro rfl (And.intro rfl ?_)) | (refine DT.pure hTb rfl (o_purF (cL) rfl rfl rfl gQ rfl) ?_) | (refine DT.rel hTb rfl (o_relN (cCh _ (by omega)) false [0] (fun _ _ => ⟨by simp, gN⟩) rfl rfl rfl rfl rfl gQ rfl rfl) [0] (by kernel_rfl) (by kernel_rfl) ?_; rintro ⟨ch, q2⟩ hch; (try simp only at hch); refine And.intro rfl (And.intro rfl ?_)) | (refine DT.rel hTb rfl (o_relN (c_l4Change b hD tn ch hch.1) false [] (fun _ _ => ⟨by simp, gN⟩) rfl rfl rfl rfl rfl gQ rfl rfl) [] (by kernel_rfl) (by kernel_rfl) ?_; rintro ⟨y, cd⟩ hy; (try simp only at hy); refine And.intro rfl (And.intro rfl ?_)) | (refine DT.rel hTb rfl (o_relN (c_of hb _ _ _ (fun t => t.size ≤ 8) (by simp [strRows]; decide) (by simp) (by omega)) false [0, 240] (fun _ _ => ⟨by simp, gN⟩) rfl rfl rfl rfl rfl gQ rfl rfl) [0, 240] (by kernel_rfl) (by kernel_rfl) ?_; rintro nm hnm; (try simp only at hnm); refine And.intro rfl (And.intro rfl ?_)) | (refine DT.rel hTb rfl (o_relN (cSh _ (by omega)) false [0] (fun _ _ => ⟨by simp, gN⟩) rfl rfl rfl rfl rfl gQ rfl rfl) [0] (by kernel_rfl) (by kernel_rfl) ?_; rintro ⟨cs, q2⟩ hcs; (try simp only at hcs); refine And.intro rfl (And.intro rfl ?_)) | (refine DT.rel hTb rfl (o_relN (c_specBaseTable b hD nm hnm cs hcs.1 (by omega)) false [] (fun _ _ => ⟨by simp, gN⟩) rfl rfl rfl rfl rfl gQ rfl rfl) [] (by kernel_rfl) (by kernel_rfl) ?_; rintro ⟨y, cd⟩ hy; (try simp only at hy); refine And.intro rfl (And.intro rfl ?_))) <;> conv => whnf)
    all_goals first
      | exact endR [] (y, q2) rfl rfl rfl rfl rfl (LeS.refl _) rfl rfl ⟨hy, by simp only; omega⟩
      | exact endR [] (y, _) rfl rfl rfl rfl rfl (LeS.refl _) rfl rfl ⟨hy, by simp only; omega⟩
theorem c_l4Base {bs : List Int} (hb : BOk bs) (p : Nat) (hp : p ≤ 1099511000000) : CallsV Tryz.prog 113 [rdS] [rdO bs p]
    (relQ (fun y : VBase × Nat => y.1.dr ∧ y.2 ≤ p + 60000) (fun y => .agg (encVBase y.1)) (fun y => [some (rdO bs y.2)]) (fun _ => [])) := by
  have cK := fun q (hq : q ≤ 1099511300000) => c_l4Key hb q hq
  have c0 := fun cs (hs : smlCols cs) (hl : cs.length ≤ 10) => CallsV.le (args' := [.agg [.g (.slice none 0 0), .g (.slice none 0 0)], strS ⟨#[116]⟩, colsI cs]) (c_specBaseTable ⟨[], []⟩ dr_base0 ⟨#[116]⟩ (by decide) cs hs hl) ⟨⟨.inr ⟨5, rfl, rfl⟩, .inr ⟨4, rfl, rfl⟩, trivial⟩, LeS.refl _, LeS.refl _, trivial⟩
  refine funF_walk hTb Tryz.func113 rfl rfl Tryz.ntmps113 (by simp) (by simp) ?_
  (conv => whnf); repeat' ((first | (refine VL.drawS hTb hMix (by kernel_rfl) (by kernel_rfl) (by kernel_rfl) ?_) | (refine VR.rel hTb rfl rfl (o_relN (cK p (by omega)) false [0] (fun _ _ => ⟨by simp, gN⟩) rfl rfl rfl rfl rfl gQ rfl rfl) ?_; rintro ⟨cs, q⟩ hcs; (try simp only at hcs)) | (refine VR.rel hTb rfl rfl (o_relN (c0 cs hcs.1 hcs.2.1) false [] (fun _ _ => ⟨by simp, gN⟩) rfl rfl rfl rfl rfl gQ rfl rfl) ?_; rintro ⟨y1, d1⟩ hy1; (try simp only at hy1))) <;> conv => whnf)
  have hq := hcs.2.2
  clear hcs c0
  (conv => whnf); repeat' ((first | (refine And.intro ?_ ?_ <;> ((try intro h) <;> (try simp only [gS] at h) <;> first | exact absurd h gF | exact absurd h.symm gF | conv => whnf)) | (refine VL.drawS hTb hMix (by kernel_rfl) (by kernel_rfl) (by kernel_rfl) ?_) | (refine Need.mk ?_; kernel_rfl) | (refine DT.rel hTb rfl (o_relN (cK q (by omega)) false [0] (fun _ _ => ⟨by simp, gN⟩) rfl rfl rfl rfl rfl gQ rfl rfl) [0] (by kernel_rfl) (by kernel_rfl) ?_; rintro ⟨cs2, q2⟩ hcs; (try simp only at hcs); refine And.intro rfl (And.intro rfl ?_)) | (refine DT.rel hTb rfl (o_relN (c_specBaseTable y1 hy1 ⟨#[117]⟩ (by decide) cs2 hcs.1 hcs.2.1) false [] (fun _ _ => ⟨by simp, gN⟩) rfl rfl rfl rfl rfl gQ rfl rfl) [] (by kernel_rfl) (by kernel_rfl) ?_; rintro ⟨y2, d2⟩ hy2; (try simp only at hy2); refine And.intro rfl (And.intro rfl ?_)) | (refine DT.rel hTb rfl (o_relN (c_of hb q2 _ _ (fun t => t.size ≤ 8) (by simp [strRows]; decide) (by simp) (by omega)) false [0, 123] (fun _ _ => ⟨by simp, gN⟩) rfl rfl rfl rfl rfl gQ rfl rfl) [0, 123] (by kernel_rfl) (by kernel_rfl) ?_; rintro nm hnm; (try simp only at hnm); refine And.intro rfl (And.intro rfl ?_)) | (refine DT.rel hTb rfl (o_relN (c_pick hb (q2 + 1) 3 (by omega)) false [0] (fun _ _ => ⟨by simp, gN⟩) rfl rfl rfl rfl rfl gQ rfl rfl) [0] (by kernel_rfl) (by kernel_rfl) ?_; rintro w hw; (try simp only at hw); refine And.intro rfl (And.intro rfl ?_)) | (refine DT.rel hTb rfl (o_relN (c_specBaseLink y2 hy2 ⟨⟨#[117]⟩, ⟨#[107]⟩, nm, _⟩ ⟨(by decide : (⟨#[117]⟩ : ByteArray).size ≤ 8), (by decide : (⟨#[107]⟩ : ByteArray).size ≤ 8), hnm⟩) false [] (fun _ _ => ⟨by simp, gN⟩) rfl rfl rfl rfl rfl gQ rfl rfl) [] (by kernel_rfl) (by kernel_rfl) ?_; rintro ⟨y3, d3⟩ hy3; (try simp only at hy3); refine And.intro rfl (And.intro rfl ?_)) | (refine VR.rel hTb rfl rfl (o_relN (c_pick hb (q2 + 1 + 1) 2 (by omega)) false [0] (fun _ _ => ⟨by simp, gN⟩) rfl rfl rfl rfl rfl gQ rfl rfl) ?_; rintro v hv; (try simp only at hv))) <;> conv => whnf)
  · (conv => whnf); repeat' ((first | (refine And.intro ?_ ?_ <;> ((try intro h) <;> (try simp only [gS] at h) <;> first | exact absurd h gF | exact absurd h.symm gF | conv => whnf)) | (refine Need.mk ?_; kernel_rfl) | (refine DT.rel hTb rfl (o_relN (c_of hb (q2 + 1 + 1 + 1) _ _ (fun t => t.size ≤ 8) (by simp [strRows]; decide) (by simp) (by omega)) false [0, 138] (fun _ _ => ⟨by simp, gN⟩) rfl rfl rfl rfl rfl gQ rfl rfl) [0, 138] (by kernel_rfl) (by kernel_rfl) ?_; rintro nm2 hnm2; (try simp only at hnm2); refine And.intro rfl (And.intro rfl ?_)) | (refine DT.rel hTb rfl (o_relN (c_pick hb (q2 + 1 + 1 + 1 + 1) 3 (by omega)) false [0] (fun _ _ => ⟨by simp, gN⟩) rfl rfl rfl rfl rfl gQ rfl rfl) [0] (by kernel_rfl) (by kernel_rfl) ?_; rintro w3 hw3; (try simp only at hw3); refine And.intro rfl (And.intro rfl ?_)) | (refine DT.rel hTb rfl (o_relN (c_specBaseLink y3 hy3 ⟨⟨#[116]⟩, ⟨#[107]⟩, nm2, _⟩ ⟨(by decide : (⟨#[116]⟩ : ByteArray).size ≤ 8), (by decide : (⟨#[107]⟩ : ByteArray).size ≤ 8), hnm2⟩) false [] (fun _ _ => ⟨by simp, gN⟩) rfl rfl rfl rfl rfl gQ rfl rfl) [] (by kernel_rfl) (by kernel_rfl) ?_; rintro ⟨y4, d4⟩ hy4; (try simp only at hy4); refine And.intro rfl (And.intro rfl ?_)) | (refine VR.rel hTb rfl rfl (o_relN (c_num hb (q2 + 1 + 1 + 1 + 1 + 1) _ _ (fun n => 0 ≤ n ∧ n ≤ 28) (by simp [intRows]) (by simp) (by omega)) false [0, 148] (fun _ _ => ⟨by simp, gN⟩) rfl rfl rfl rfl rfl gQ rfl rfl) ?_; rintro n hn; (try simp only at hn))) <;> conv => whnf)
    refine VL.loopI hTb (α := Nat × VBase × Nat) (fun x => x.1 ≤ 28 ∧ x.2.1.dr ∧ x.2.2 ≤ p + 100 + 2100 * (28 - x.1)) (fun x => ⟨[(0, rdS), (2, .one (.ptr 102 0)), (3, .one (.ptr 103 0)), (5, iS x.1)], [(0, rdO bs x.2.2), (102, .box [.g (.slice none 0 0), .g (.slice none 0 0)]), (103, .box (encVBase x.2.1))], []⟩) (fun x => x.1) (n.toNat, y4, q2 + 1 + 1 + 1 + 1 + 1 + 1) ⟨by simp only; omega, hy4, by simp only; omega⟩
      (wk_to [(0, 0), (102, 102), (103, 103)] rfl rfl rfl ⟨rfl, rfl, rfl, congrArg (fun x => Slot.one (.g (.int .i64 x))) (by simp only; omega), trivial⟩ ⟨rfl, ⟨_, rfl, rfl⟩, rfl, ⟨_, rfl, rfl⟩, rfl, ⟨_, rfl, rfl⟩, trivial⟩) (fun x hx => ?_)
    obtain ⟨k, b, q3⟩ := x
    obtain ⟨i1, i2, i3⟩ := hx
    simp only at i1 i2 i3
    (conv => whnf)
    refine And.intro (fun g2 => ?_) (fun g2 => ?_)
    · have hk : 0 < k := by simpa using g2
      (conv => whnf); repeat' ((first | (refine VR.rel hTb rfl rfl (o_relN (c_l4Act hb q3 b i2 (by omega)) false [0] (fun _ _ => ⟨by simp, gN⟩) rfl rfl rfl rfl rfl gQ rfl rfl) ?_; rintro ⟨t2, q4⟩ ht2; (try simp only at ht2))) <;> conv => whnf)
      exact ⟨(k - 1, t2, q4), ⟨by simp only; omega, ht2.1, by simp only; omega⟩, by simp only; omega, wk_to [(0, 0), (102, 102), (103, 103)] rfl rfl rfl ⟨rfl, rfl, rfl, congrArg (fun x => Slot.one (.g (.int .i64 x))) (by rw [IntKind.wrap_i64]; omega), trivial⟩ ⟨rfl, ⟨_, rfl, rfl⟩, rfl, ⟨_, rfl, rfl⟩, rfl, ⟨_, rfl, rfl⟩, trivial⟩⟩
    · have cI := c_l4CopyI b i2.md
      (conv => whnf); repeat' ((first | (refine VR.pure hTb rfl rfl (o_purF (cI) rfl rfl rfl gQ rfl) ?_)) <;> conv => whnf)
      exact endR [] (b, q3) rfl rfl rfl rfl rfl (LeS.refl _) rfl rfl ⟨i2, by simp only; omega⟩
  · (conv => whnf); repeat' ((first | (refine VR.rel hTb rfl rfl (o_relN (c_num hb (q2 + 1 + 1 + 1) _ _ (fun n => 0 ≤ n ∧ n ≤ 28) (by simp [intRows]) (by simp) (by omega)) false [0, 148] (fun _ _ => ⟨by simp, gN⟩) rfl rfl rfl rfl rfl gQ rfl rfl) ?_; rintro n hn; (try simp only at hn))) <;> conv => whnf)
    refine VL.loopI hTb (α := Nat × VBase × Nat) (fun x => x.1 ≤ 28 ∧ x.2.1.dr ∧ x.2.2 ≤ p + 100 + 2100 * (28 - x.1)) (fun x => ⟨[(0, rdS), (2, .one (.ptr 102 0)), (3, .one (.ptr 103 0)), (5, iS x.1)], [(0, rdO bs x.2.2), (102, .box [.g (.slice none 0 0), .g (.slice none 0 0)]), (103, .box (encVBase x.2.1))], []⟩) (fun x => x.1) (n.toNat, y3, q2 + 1 + 1 + 1 + 1) ⟨by simp only; omega, hy3, by simp only; omega⟩
      (wk_to [(0, 0), (102, 102), (103, 103)] rfl rfl rfl ⟨rfl, rfl, rfl, congrArg (fun x => Slot.one (.g (.int .i64 x))) (by simp only; omega), trivial⟩ ⟨rfl, ⟨_, rfl, rfl⟩, rfl, ⟨_, rfl, rfl⟩, rfl, ⟨_, rfl, rfl⟩, trivial⟩) (fun x hx => ?_)
    obtain ⟨k, b, q3⟩ := x
    obtain ⟨i1, i2, i3⟩ := hx
    simp only at i1 i2 i3
    (conv => whnf)
    refine And.intro (fun g2 => ?_) (fun g2 => ?_)
    · have hk : 0 < k := by simpa using g2
      (conv => whnf); repeat' ((first | (refine VR.rel hTb rfl rfl (o_relN (c_l4Act hb q3 b i2 (by omega)) false [0] (fun _ _ => ⟨by simp, gN⟩) rfl rfl rfl rfl rfl gQ rfl rfl) ?_; rintro ⟨t2, q4⟩ ht2; (try simp only at ht2))) <;> conv => whnf)
      exact ⟨(k - 1, t2, q4), ⟨by simp only; omega, ht2.1, by simp only; omega⟩, by simp only; omega, wk_to [(0, 0), (102, 102), (103, 103)] rfl rfl rfl ⟨rfl, rfl, rfl, congrArg (fun x => Slot.one (.g (.int .i64 x))) (by rw [IntKind.wrap_i64]; omega), trivial⟩ ⟨rfl, ⟨_, rfl, rfl⟩, rfl, ⟨_, rfl, rfl⟩, rfl, ⟨_, rfl, rfl⟩, trivial⟩⟩
    · have cI := c_l4CopyI b i2.md
      (conv => whnf); repeat' ((first | (refine VR.pure hTb rfl rfl (o_purF (cI) rfl rfl rfl gQ rfl) ?_)) <;> conv => whnf)
      exact endR [] (b, q3) rfl rfl rfl rfl rfl (LeS.refl _) rfl rfl ⟨i2, by simp only; omega⟩
theorem brwBl (x : VBase) {n : Nat} (h : x.links.length = n) : Slot.agg [.imm 5 (x.tabs.map encVTab), .imm 4 (((x.links.map encVLink).drop 0).take n)] = .agg (encVBase x) := by
  subst h; rw [fzLk]; rfl
theorem brwB2 (x : VBase) {n m : Nat} (h : x.tabs.length = n) (h2 : x.links.length = m) : Slot.agg [.imm 5 (((x.tabs.map encVTab).drop 0).take n), .imm 4 (((x.links.map encVLink).drop 0).take m)] = .agg (encVBase x) := by
  subst h h2; rw [fzTab, fzLk]; rfl
theorem VBase.md.ok {b : VBase} (h : b.md) : b.ok := ⟨⟨lmax (by have := h.tl; omega), fun t ht => ⟨(h.tm t ht).1, md_ok (h.tm t ht).2⟩⟩, ⟨lmax (by have := h.ll; omega), h.lm⟩⟩
theorem VLink.sml.ok {l : VLink} (h : l.sml) : l.ok := ⟨by have := h.s; unfold maxLen; omega, by have := h.c; unfold maxLen; omega, by have := h.d; unfold maxLen; omega⟩
theorem VBase.md.setT {b : VBase} (h : b.md) (k : Nat) {t : VTab} (h1 : t.name.size ≤ 8) (h2 : t.table.md) : VBase.md ⟨b.tabs.set k t, b.links⟩ := by
  refine ⟨by simp only [List.length_set]; exact h.tl, fun x hx => ?_, h.ll, h.lm⟩
  rcases List.mem_or_eq_of_mem_set hx with hx | rfl
  · exact h.tm x hx
  · exact ⟨by unfold maxLen; omega, h2⟩
theorem VBase.md.setL {b : VBase} (h : b.md) (k : Nat) {l : VLink} (hl : l.ok) : VBase.md ⟨b.tabs, b.links.set k l⟩ := by
  refine ⟨h.tl, h.tm, by simp only [List.length_set]; exact h.ll, fun x hx => ?_⟩
  rcases List.mem_or_eq_of_mem_set hx with hx | rfl
  · exact h.lm x hx
  · exact hl
theorem VBase.md.appL {b : VBase} (h : b.md) (h4 : b.links.length ≤ 4) {l : VLink} (hl : l.ok) : VBase.md ⟨b.tabs, b.links ++ [l]⟩ := by
  refine ⟨h.tl, h.tm, by simp; omega, fun x hx => ?_⟩
  rcases List.mem_append.1 hx with hx | hx
  · exact h.lm x hx
  · simp at hx; subst hx; exact hl
theorem VBase.md.appT {b : VBase} (h : b.md) (h4 : b.tabs.length ≤ 3) {t u : VTab} (h1 : t.name.size ≤ 8) (h2 : t.table.md) (h3 : u.name.size ≤ 8) (h5 : u.table.md) : VBase.md ⟨b.tabs ++ [t, u], b.links⟩ := by
  refine ⟨by simp; omega, fun x hx => ?_, h.ll, h.lm⟩
  rcases List.mem_append.1 hx with hx | hx
  · exact h.tm x hx
  · simp at hx
    rcases hx with rfl | rfl
    · exact ⟨by unfold maxLen; omega, h2⟩
    · exact ⟨by unfold maxLen; omega, h5⟩
theorem tNew_md {cs : List Col} (h : smlCols cs) (hl : cs.length ≤ 10) : (tNewT cs).md := by
  unfold tNewT
  split
  · exact (dr_nil h hl).md
  · exact dr_zero.md
theorem c_l4LinkO {bs : List Int} (hb : BOk bs) (p : Nat) (b : VBase) (hD : b.dr) (hp : p ≤ 1099511200000) : CallsV Tryz.prog 174 [rdS, .agg [.imm 5 (b.tabs.map encVTab), .own 1 0 b.links.length]] [rdO bs p, lkO b]
    (relQ (fun y : VLink × Nat => y.1.sml ∧ y.2 ≤ p + 10) (fun y => .agg (encVLink y.1)) (fun y => [some (rdO bs y.2), some (lkO b)]) (fun _ => [])) := by
  have cA := fun s => c_l4At b s (lmax (by have := hD.tl; omega))
  have cL := fun (s : ByteArray) (h : ¬ tabIx b s < 0) => c_l3Last (tabOf b s) (hD.of h).1.md
  have hLs := fun (s : ByteArray) (h : ¬ tabIx b s < 0) => tL_sml (hD.of h).1
  have hL1 := fun (s : ByteArray) (h : ¬ tabIx b s < 0) => (shapeOk_len (hD.of h).2).1
  refine funF_walk hTb Tryz.func174 rfl rfl Tryz.ntmps174 (by simp) (by simp) ?_
  (conv => whnf); repeat' ((first | (refine VR.rel hTb rfl rfl (o_relN (c_of hb _ _ _ (fun t => t.size ≤ 8) (by simp [strRows]; decide) (by simp) (by omega)) false [0, 109] (fun _ _ => ⟨by simp, gN⟩) rfl rfl rfl rfl rfl gQ rfl rfl) ?_; rintro n1 hn1; (try simp only at hn1)) | (refine VR.rel hTb rfl rfl (o_relN (c_l2Names) false [] (fun _ _ => ⟨by simp, gN⟩) rfl rfl rfl rfl rfl gQ rfl rfl) ?_; rintro rows hrows; (try simp only at hrows)) | (refine VR.rel hTb rfl rfl (o_relN (c_ofI hb _ _ (fun t => t.size ≤ 8) hrows.1 hrows.2 (by omega)) false [0] (fun _ _ => ⟨by simp, gN⟩) rfl rfl rfl rfl rfl gQ rfl rfl) ?_; rintro n2 hn2; (try simp only at hn2)) | (refine VR.rel hTb rfl rfl (o_relN (c_pick hb _ 3 (by omega)) false [0] (fun _ _ => ⟨by simp, gN⟩) rfl rfl rfl rfl rfl gQ rfl rfl) ?_; rintro w hw; (try simp only at hw))) <;> conv => whnf)
  rename_i a1 ha1
  have cA := cA a1
  have cL := cL a1
  have hLs := hLs a1
  have hL1 := hL1 a1
  have hR := fun (hz : ¬ tabIx b a1 < 0) => rowTabZ hz
  generalize tabOf b a1 = T at cL hLs hL1 hR
  generalize tabIx b a1 = z at cA cL hLs hL1 hR
  by_cases hz : z < 0
  · (conv => whnf); repeat' ((first | (exact absurd h (by omega)) | (refine And.intro ?_ ?_ <;> ((try intro h) <;> (try simp only [gS] at h) <;> first | exact absurd h gF | exact absurd h.symm gF | conv => whnf)) | (refine VR.pure hTb rfl rfl (o_purN cA rfl rfl rfl gQ ?_) ?_; exact congrArg (fun s => [s, _]) (brwBl b rfl)) | (refine VR.rel hTb rfl rfl (o_relN (c_pick hb _ _ (by omega)) false [0] (fun _ _ => ⟨by simp, gN⟩) rfl rfl rfl rfl rfl gQ rfl rfl) ?_; rintro w hw; (try simp only at hw)) | (refine VR.rel hTb rfl rfl (o_relN (c_num hb _ _ _ (fun _ => True) (by simp [intRows]) (by simp) (by omega)) false [0, 154] (fun _ _ => ⟨by simp, gN⟩) rfl rfl rfl rfl rfl gQ rfl rfl) ?_; rintro v hv; (try simp only at hv))) <;> conv => whnf)
    all_goals first
      | exact endR [] (⟨a1, n2, n1, _⟩, _) rfl rfl rfl rfl rfl (LeS.refl _) rfl rfl ⟨⟨ha1, hn2, hn1⟩, by simp only; omega⟩
  · obtain ⟨n', hR⟩ := hR hz
    have cL := cL hz
    have hLs := hLs hz
    have hL1 := hL1 hz
    generalize tL T = L at cL hLs hL1
    have hLn : ∀ i, i < L.length → (L.getD i (kCol 0)).name.size ≤ 8 := fun i hi => by
      have e : L.getD i (kCol 0) = L[i] := by simp [List.getD, hi]
      rw [e]; exact (hLs _ (List.getElem_mem hi)).1
    (conv => whnf); repeat' ((first | (exact absurd h (by omega)) | (refine And.intro ?_ ?_ <;> ((try intro h) <;> (try simp only [gS] at h) <;> first | exact absurd h gF | exact absurd h.symm gF | conv => whnf)) | (refine VR.pure hTb rfl rfl (o_purN cA rfl rfl rfl gQ ?_) ?_; exact congrArg (fun s => [s, _]) (brwBl b rfl)) | (refine VR.rel hTb rfl rfl (o_relN (c_pick hb _ 8 (by omega)) false [0] (fun _ _ => ⟨by simp, gN⟩) rfl rfl rfl rfl rfl gQ rfl rfl) ?_; rintro w hw; (try simp only at hw)) | (refine VR.rel hTb rfl rfl (o_relN (c_pick hb _ 30 (by omega)) false [0] (fun _ _ => ⟨by simp, gN⟩) rfl rfl rfl rfl rfl gQ rfl rfl) ?_; rintro w hw; (try simp only at hw)) | (refine VR.rel hTb rfl rfl (o_relN (c_pick hb _ ((L.map encCol).length : Nat) (by omega)) false [0] (fun _ _ => ⟨by simp, gN⟩) rfl rfl rfl rfl rfl gQ rfl rfl) ?_; rintro w2 hw2; (try simp only at hw2)) | (refine VR.op hTb rfl rfl (o_index_imm hTb rfl rfl rfl rfl rfl rfl rfl (by omega) (hR)) rfl ?_) | (refine VR.pure hTb rfl rfl (o_purF (cL) rfl rfl rfl gQ rfl) ?_) | (refine VR.op hTb rfl rfl (o_index_imm hTb rfl rfl rfl rfl rfl rfl rfl (by omega) (rowD (s := L) (z := w2) (by omega) (by simp only [List.length_map] at *; omega))) rfl ?_) | (refine VR.rel hTb rfl rfl (o_relN (c_num hb _ _ _ (fun _ => True) (by simp [intRows]) (by simp) (by omega)) false [0, 154] (fun _ _ => ⟨by simp, gN⟩) rfl rfl rfl rfl rfl gQ rfl rfl) ?_; rintro v hv; (try simp only at hv))) <;> conv => whnf)
    all_goals first
      | exact endR [] (⟨a1, n2, n1, _⟩, _) rfl rfl rfl rfl rfl (LeS.refl _) rfl rfl ⟨⟨ha1, hn2, hn1⟩, by simp only; omega⟩
      | exact endR [] (⟨a1, _, n1, _⟩, _) rfl rfl rfl rfl rfl (LeS.refl _) rfl rfl ⟨⟨ha1, hLn w2.toNat (by simp only [List.length_map] at *; omega), hn1⟩, by simp only; omega⟩
theorem c_l4Bent {bs : List Int} (hb : BOk bs) (p : Nat) (b : VBase) (hD : b.dr) (hp : p ≤ 1099511100000) : CallsV Tryz.prog 115 [rdS, .agg (encVBase b)] [rdO bs p]
    (relQ (fun y : VBase × Nat => y.1.md ∧ y.2 ≤ p + 500) (fun y => .agg (encVBase y.1)) (fun y => [some (rdO bs y.2)]) (fun _ => [])) := by
  have htl := hD.tl
  have hll := hD.ll
  have hm := hD.md
  have cC := c_l4Copy b hm
  obtain ⟨t0, ht0⟩ : ∃ t0 : VTab, 0 < b.tabs.length → b.tabs[0 + 0]? = some t0 ∧ t0.name.size ≤ 8 ∧ t0.table.dr ∧ shapeOk (tL t0.table) = true := by
    by_cases h : 0 < b.tabs.length
    · exact ⟨b.tabs[0], fun _ => ⟨List.getElem?_eq_getElem h, hD.tm _ (List.getElem_mem h)⟩⟩
    · exact ⟨zTb, fun h' => absurd h' h⟩
  obtain ⟨l0, hl0⟩ : ∃ l0 : VLink, 0 < b.links.length → b.links[0 + 0]? = some l0 ∧ l0.sml := by
    by_cases h : 0 < b.links.length
    · exact ⟨b.links[0], fun _ => ⟨List.getElem?_eq_getElem h, (hD.lm _ (List.getElem_mem h)).1⟩⟩
    · exact ⟨zLk, fun h' => absurd h' h⟩
  obtain ⟨tn, T⟩ := t0
  obtain ⟨l1, l2, l3, l4⟩ := l0
  simp only at ht0
  refine funF_walk hTb Tryz.func115 rfl rfl Tryz.ntmps115 (by simp) (by simp) ?_
  (conv => whnf); repeat' ((first | (have h9 := ‹(w == 2) = true›; refine VL.freeze 1036 rfl rfl ?_; conv => whnf; rw [fzTab]) | (refine And.intro ?_ ?_ <;> ((try intro h) <;> (try simp only [gS] at h) <;> first | exact absurd h gF | exact absurd h.symm gF | conv => whnf)) | (refine VL.drawS hTb hMix (by kernel_rfl) (by kernel_rfl) (by kernel_rfl) ?_) | (refine Need.mk ?_; kernel_rfl) | (refine VR.fun hTb rfl rfl (o_funN (cC) false [] gN (by simp) rfl rfl rfl rfl rfl gQ rfl rfl) ?_) | (refine VR.rel hTb rfl rfl (o_relN (c_pick hb p 60 (by omega)) false [0] (fun _ _ => ⟨by simp, gN⟩) rfl rfl rfl rfl rfl gQ rfl rfl) ?_; rintro w hw; (try simp only at hw)) | (refine Need.mk ?_; exact ⟨rfl, by omega, by omega⟩) | (refine DT.rel hTb rfl (o_relN (c_of hb (p + 1) _ _ (fun t => t.size ≤ 8) (by simp [strRows]; decide) (by simp) (by omega)) false [0, 148] (fun _ _ => ⟨by simp, gN⟩) rfl rfl rfl rfl rfl gQ rfl rfl) [0, 148] (by kernel_rfl) (by kernel_rfl) ?_; rintro nm hnm; (try simp only at hnm); refine And.intro rfl (And.intro rfl ?_)) | (refine DT.op hTb rfl (o_storeM hTb rfl rfl rfl rfl rfl ((ht0 (by omega)).1) rfl rfl rfl ⟨rfl, by decide⟩ (c' := ⟨nm, T⟩) rfl) rfl ?_) | (refine DT.rel hTb rfl (o_relN (c_l4LinkO hb (p + 1) b hD (by omega)) false [0, 1037] (fun _ _ => ⟨by simp, gN⟩) rfl rfl rfl rfl rfl gQ rfl rfl) [0, 1037] (by kernel_rfl) (by kernel_rfl) ?_; rintro ⟨lk, q2⟩ hlk; (try simp only at hlk); refine And.intro rfl (And.intro rfl ?_)) | (refine DT.opk hTb rfl (o_app1 (q := 160) (a := lk) hTb rfl rfl rfl rfl rfl rfl rfl rfl rfl rfl rfl rfl (by omega) (by show _ * 56 ≤ _; omega) (by unfold maxLen; omega)) ?_) | (refine DT.rel hTb rfl (o_relN (c_num hb (p + 1) _ _ (fun _ => True) (by simp [intRows]) (by simp) (by omega)) false [0, 171] (fun _ _ => ⟨by simp, gN⟩) rfl rfl rfl rfl rfl gQ rfl rfl) [0, 171] (by kernel_rfl) (by kernel_rfl) ?_; rintro v hv; (try simp only at hv); refine And.intro rfl (And.intro rfl ?_)) | (refine DT.op hTb rfl (o_storeM hTb rfl rfl rfl rfl rfl ((hl0 (by omega)).1) rfl rfl rfl ⟨rfl, by decide⟩ (c' := ⟨l1, l2, l3, v⟩) rfl) rfl ?_) | (refine VR.op hTb rfl rfl (o_loadM hTb rfl rfl rfl rfl ((ht0 (by omega)).1) ⟨by decide, by decide⟩) rfl ?_) | (refine DT.op hTb rfl (o_loadM hTb rfl rfl rfl rfl ((ht0 (by omega)).1) ⟨by decide, by decide⟩) rfl ?_) | (refine DT.op hTb rfl (o_index_imm hTb rfl rfl rfl rfl rfl rfl rfl (by omega) (rowRZ (l := T.rows) (z := 0) (by simp only [List.length_map] at *; simp; omega))) rfl ?_) | (refine DT.rel hTb rfl (o_relN (c_l3OffI T (ht0 (by omega)).2.2.1 _) false [] (fun _ _ => ⟨by simp, gN⟩) rfl rfl rfl rfl rfl gQ rfl rfl) [] (by kernel_rfl) (by kernel_rfl) ?_; rintro ⟨t2, cd⟩ ht2; (try simp only at ht2); refine And.intro rfl (And.intro rfl ?_)) | (refine DT.op hTb rfl (o_storeM hTb rfl rfl rfl rfl rfl ((ht0 (by omega)).1) rfl rfl rfl ⟨rfl, by decide⟩ (c' := ⟨tn, t2⟩) rfl) rfl ?_) | (refine DT.rel hTb rfl (o_relN (c_l2Shape hb (p + 1) (by omega)) false [0] (fun _ _ => ⟨by simp, gN⟩) rfl rfl rfl rfl rfl gQ rfl rfl) [0] (by kernel_rfl) (by kernel_rfl) ?_; rintro ⟨cs, q2⟩ hcs; (try simp only at hcs); refine And.intro rfl (And.intro rfl ?_)) | (refine DT.rel hTb rfl (o_relN (c_l2Shape hb q2 (by omega)) false [0] (fun _ _ => ⟨by simp, gN⟩) rfl rfl rfl rfl rfl gQ rfl rfl) [0] (by kernel_rfl) (by kernel_rfl) ?_; rintro ⟨cs2, q3⟩ hcs2; (try simp only at hcs2); refine And.intro rfl (And.intro rfl ?_)) | (refine DT.pure hTb rfl (o_purF (c_specTabNew cs (by omega) hcs.1.md.ok) rfl rfl rfl gQ rfl) ?_) | (refine DT.pure hTb rfl (o_purF (c_specTabNew cs2 (by omega) hcs2.1.md.ok) rfl rfl rfl gQ rfl) ?_) | (refine DT.opk hTb rfl (o_appN (f := encVTab) (l := b.tabs) (m := [⟨⟨#[120]⟩, tNewT cs⟩, ⟨⟨#[121]⟩, tNewT cs2⟩]) (q := 224) hTb rfl rfl rfl rfl rfl rfl rfl rfl rfl rfl rfl (by omega) (by show (b.tabs.length + 2) * 96 ≤ _; omega) (by show b.tabs.length + 2 ≤ maxLen; unfold maxLen; omega)) ?_)) <;> conv => whnf)
  all_goals first
    | exact endR [] (b, p + 1) rfl rfl rfl rfl rfl (LeS.of_eq (brwB2 b rfl rfl)) rfl rfl ⟨hm, by simp only; omega⟩
    | (refine endR [] (α := VBase × Nat) (⟨b.tabs.set (0 + 0) ⟨nm, T⟩, b.links⟩, p + 1 + 1) rfl rfl rfl rfl rfl (LeS.of_eq ?_) rfl rfl ⟨hm.setT _ hnm (ht0 (by omega)).2.2.1.md, by simp only; omega⟩
       exact brwB2 ⟨b.tabs.set (0 + 0) ⟨nm, T⟩, b.links⟩ (n := b.tabs.length) (m := b.links.length) (by simp) rfl)
    | (refine endR [] (α := VBase × Nat) (⟨b.tabs.set (0 + 0) ⟨tn, t2⟩, b.links⟩, p + 1) rfl rfl rfl rfl rfl (LeS.of_eq ?_) rfl rfl ⟨hm.setT _ (ht0 (by omega)).2.1 ht2.1.md, by simp only; omega⟩
       exact brwB2 ⟨b.tabs.set (0 + 0) ⟨tn, t2⟩, b.links⟩ (n := b.tabs.length) (m := b.links.length) (by simp) rfl)
    | (refine endR [] (α := VBase × Nat) (⟨b.tabs, b.links.set (0 + 0) ⟨l1, l2, l3, v⟩⟩, p + 1 + 1) rfl rfl rfl rfl rfl (LeS.of_eq ?_) rfl rfl ⟨hm.setL _ ⟨(hl0 (by omega)).2.ok.1, (hl0 (by omega)).2.ok.2.1, (hl0 (by omega)).2.ok.2.2⟩, by simp only; omega⟩
       exact brwB2 ⟨b.tabs, b.links.set (0 + 0) ⟨l1, l2, l3, v⟩⟩ (n := b.tabs.length) (m := b.links.length) rfl (by simp))
    | (refine endR [] (α := VBase × Nat) (⟨b.tabs, b.links ++ [lk]⟩, q2) rfl rfl rfl rfl rfl (LeS.of_eq ?_) rfl rfl ⟨hm.appL hll hlk.1.ok, by simp only; omega⟩
       exact brwBl ⟨b.tabs, b.links ++ [lk]⟩ (n := b.links.length + 1) (by simp))
    | (refine endR [] (α := VBase × Nat) (⟨b.tabs ++ [⟨⟨#[120]⟩, tNewT cs⟩, ⟨⟨#[121]⟩, tNewT cs2⟩], b.links⟩, q3) rfl rfl rfl rfl rfl (LeS.of_eq ?_) rfl rfl ⟨hm.appT htl (by show (⟨#[120]⟩ : ByteArray).size ≤ 8; decide) (tNew_md hcs.1 (by omega)) (by show (⟨#[121]⟩ : ByteArray).size ≤ 8; decide) (tNew_md hcs2.1 (by omega)), by simp only; omega⟩
       exact brwB2 ⟨b.tabs ++ [⟨⟨#[120]⟩, tNewT cs⟩, ⟨⟨#[121]⟩, tNewT cs2⟩], b.links⟩ (n := b.tabs.length + 2) (m := b.links.length) (by simp) rfl)
    | skip
  · (conv => whnf); repeat' ((first | (refine And.intro ?_ ?_ <;> ((try intro h) <;> (try simp only [gS] at h) <;> first | exact absurd h gF | exact absurd h.symm gF | conv => whnf)) | (refine VL.drawS hTb hMix (by kernel_rfl) (by kernel_rfl) (by kernel_rfl) ?_) | (refine VR.rel hTb rfl rfl (o_relN (c_pick hb (p + 1) _ (by omega)) false [0] (fun _ _ => ⟨by simp, gN⟩) rfl rfl rfl rfl rfl gQ rfl rfl) ?_; rintro v hv; (try simp only at hv)) | (refine Need.mk ?_; exact ⟨rfl, by omega, by omega⟩)) <;> conv => whnf)
    obtain ⟨kk, rfl⟩ : ∃ kk : Nat, v = kk := ⟨v.toNat, by omega⟩
    have hkl : kk < b.tabs.length := by omega
    have hK := hD.tm _ (List.getElem_mem hkl)
    have hat : b.tabs[0 + ((kk : Nat) : Int).toNat]? = some b.tabs[kk] := by rw [Nat.zero_add, Int.toNat_natCast]; exact List.getElem?_eq_getElem _
    generalize b.tabs[kk] = tk at hK hat
    obtain ⟨kn, KT⟩ := tk
    obtain ⟨hkn, hKd, _⟩ := hK
    simp only at hkn hKd
    (conv => whnf); repeat' ((first | (refine And.intro ?_ ?_ <;> ((try intro h) <;> (try simp only [gS] at h) <;> first | exact absurd h gF | exact absurd h.symm gF | conv => whnf)) | (refine Need.mk ?_; kernel_rfl) | (refine Need.mk ?_; exact ⟨rfl, by omega, by omega⟩) | (refine DT.op hTb rfl (o_loadM hTb rfl rfl rfl rfl (hat) ⟨by decide, by decide⟩) rfl ?_) | (refine DT.rel hTb rfl (o_relN (c_l3BentZ hb (p + 1 + 1) KT 0 (by omega) hKd.bz (by omega)) false [0] (fun _ _ => ⟨by simp, gN⟩) rfl rfl rfl rfl rfl gQ rfl rfl) [0] (by kernel_rfl) (by kernel_rfl) ?_; rintro ⟨t1, q1⟩ ht1; (try simp only at ht1); refine And.intro rfl (And.intro rfl ?_)) | (refine DT.rel hTb rfl (o_relN (c_l3BentZ hb q1 t1 1 (by omega) ht1.1 (by omega)) false [0] (fun _ _ => ⟨by simp, gN⟩) rfl rfl rfl rfl rfl gQ rfl rfl) [0] (by kernel_rfl) (by kernel_rfl) ?_; rintro ⟨t2, q2⟩ ht2; (try simp only at ht2); refine And.intro rfl (And.intro rfl ?_)) | (refine DT.rel hTb rfl (o_relN (c_l3BentZ hb q2 t2 2 (by omega) ht2.1 (by omega)) false [0] (fun _ _ => ⟨by simp, gN⟩) rfl rfl rfl rfl rfl gQ rfl rfl) [0] (by kernel_rfl) (by kernel_rfl) ?_; rintro ⟨t3, q3⟩ ht3; (try simp only at ht3); refine And.intro rfl (And.intro rfl ?_)) | (refine DT.rel hTb rfl (o_relN (c_l3BentZ hb q3 t3 3 (by omega) ht3.1 (by omega)) false [0] (fun _ _ => ⟨by simp, gN⟩) rfl rfl rfl rfl rfl gQ rfl rfl) [0] (by kernel_rfl) (by kernel_rfl) ?_; rintro ⟨t4, q4⟩ ht4; (try simp only at ht4); refine And.intro rfl (And.intro rfl ?_)) | (refine DT.op hTb rfl (o_storeM hTb rfl rfl rfl rfl rfl (hat) rfl rfl rfl ⟨rfl, by decide⟩ (c' := ⟨kn, t4⟩) rfl) rfl ?_)) <;> conv => whnf)
    refine endR [] (α := VBase × Nat) (⟨b.tabs.set (0 + ((kk : Nat) : Int).toNat) ⟨kn, t4⟩, b.links⟩, q4) rfl rfl rfl rfl rfl (LeS.of_eq ?_) rfl rfl ⟨hm.setT _ hkn (ht4.1.md (by omega)), by simp only; omega⟩
    exact brwB2 ⟨b.tabs.set (0 + ((kk : Nat) : Int).toNat) ⟨kn, t4⟩, b.links⟩ (n := b.tabs.length) (m := b.links.length) (by simp) rfl
  all_goals trace_state
theorem c_l4Some {bs : List Int} (hb : BOk bs) (p : Nat) (hp : p ≤ 1099511000000) : CallsV Tryz.prog 111 [rdS] [rdO bs p]
    (relQ (fun y : VBase × Nat => y.1.md ∧ y.2 ≤ p + 60500) (fun y => .agg (encVBase y.1)) (fun y => [some (rdO bs y.2)]) (fun _ => [])) := by
  refine funF_walk hTb Tryz.func111 rfl rfl Tryz.ntmps111 (by simp) (by simp) ?_
  (conv => whnf); repeat' ((first | (refine VR.rel hTb rfl rfl (o_relN (c_l4Base hb p (by omega)) false [0] (fun _ _ => ⟨by simp, gN⟩) rfl rfl rfl rfl rfl gQ rfl rfl) ?_; rintro ⟨t, q⟩ ht; (try simp only at ht)) | (refine VR.rel hTb rfl rfl (o_relN (c_l4Bent hb q t ht.1 (by omega)) false [0] (fun _ _ => ⟨by simp, gN⟩) rfl rfl rfl rfl rfl gQ rfl rfl) ?_; rintro ⟨t2, q2⟩ ht2; (try simp only at ht2))) <;> conv => whnf)
  exact endR [] (t2, q2) rfl rfl rfl rfl rfl (LeS.refl _) rfl rfl ⟨ht2.1, by simp only; omega⟩
theorem c_DrawBaseOk {bs : List Int} (hl : bs.length ≤ maxLen) (hb : ∀ x ∈ bs, 0 ≤ x ∧ x < 256) : CallsV Tryz.prog 45 [bytesI bs] [] (relQ (fun y : VBase => y.md) (fun y => .agg (encVBase y)) (fun _ => []) (fun _ => [])) := by
  have hbk := BOk.of hb
  refine funF_walk hTb Tryz.func45 rfl rfl Tryz.ntmps45 (by simp) (by simp) ?_
  (conv => whnf); repeat' ((first | (refine VR.fun hTb rfl rfl (o_funN (c_l10Open hl) false [] gN (by simp) rfl rfl rfl rfl rfl gQ rfl rfl) ?_) | (refine VR.rel hTb rfl rfl (o_relN (c_l4Some hbk 0 (by omega)) false [1016] (fun _ _ => ⟨by simp, gN⟩) rfl rfl rfl rfl rfl gQ rfl rfl) ?_; rintro ⟨t, q⟩ ht; (try simp only at ht))) <;> conv => whnf)
  exact endR [] t rfl rfl rfl rfl rfl (LeS.refl _) rfl rfl ht.1
theorem c_DrawBaseSame {bs : List Int} (hl : bs.length ≤ maxLen) (hb : ∀ x ∈ bs, 0 ≤ x ∧ x < 256) : CallsV Tryz.prog 44 [bytesI bs] [] (relQ (fun y : VBase × VBase => y.1.md ∧ y.2.md) (fun y => .tup [(true, encVBase y.1), (true, encVBase y.2)]) (fun _ => []) (fun _ => [])) := by
  have hbk := BOk.of hb
  refine funF_walk hTb Tryz.func44 rfl rfl Tryz.ntmps44 (by simp) (by simp) ?_
  (conv => whnf); repeat' ((first | (refine And.intro ?_ ?_ <;> ((try intro h) <;> (try simp only [gS] at h) <;> first | exact absurd h gF | exact absurd h.symm gF | conv => whnf)) | (refine VL.drawS hTb hMix (by kernel_rfl) (by kernel_rfl) (by kernel_rfl) ?_) | (refine Need.mk ?_; kernel_rfl) | (refine VR.fun hTb rfl rfl (o_funN (c_l10Open hl) false [] gN (by simp) rfl rfl rfl rfl rfl gQ rfl rfl) ?_) | (refine VR.rel hTb rfl rfl (o_relN (c_l4Base hbk 0 (by omega)) false [1028] (fun _ _ => ⟨by simp, gN⟩) rfl rfl rfl rfl rfl gQ rfl rfl) ?_; rintro ⟨t, q⟩ ht; (try simp only at ht)) | (refine VR.rel hTb rfl rfl (o_relN (c_pick hbk q 3 (by omega)) false [1028] (fun _ _ => ⟨by simp, gN⟩) rfl rfl rfl rfl rfl gQ rfl rfl) ?_; rintro w hw; (try simp only at hw)) | (refine DT.pure hTb rfl (o_purF (c_l4CopyI t ht.1.md) rfl rfl rfl gQ rfl) ?_) | (refine DT.rel hTb rfl (o_relN (c_l4Act hbk (q + 1) t ht.1 (by omega)) false [1028] (fun _ _ => ⟨by simp, gN⟩) rfl rfl rfl rfl rfl gQ rfl rfl) [1028] (by kernel_rfl) (by kernel_rfl) ?_; rintro ⟨t2, q2⟩ ht2; (try simp only at ht2); refine And.intro rfl (And.intro rfl ?_)) | (refine DT.rel hTb rfl (o_relN (c_l4Bent hbk q2 t2 ht2.1 (by omega)) false [1028] (fun _ _ => ⟨by simp, gN⟩) rfl rfl rfl rfl rfl gQ rfl rfl) [1028] (by kernel_rfl) (by kernel_rfl) ?_; rintro ⟨t3, q3⟩ ht3; (try simp only at ht3); refine And.intro rfl (And.intro rfl ?_))) <;> conv => whnf)
  all_goals first
    | exact endR [] (t, t) rfl rfl rfl rfl rfl (LeS.refl _) rfl rfl ⟨ht.1.md, ht.1.md⟩
    | exact endR [] (t, t3) rfl rfl rfl rfl rfl (LeS.refl _) rfl rfl ⟨ht.1.md, ht3.1⟩
theorem Rch.trans {b : VBase} {s r m : VRef} (h1 : Rch b s r) (h2 : Rch b r m) : Rch b s m := by
  induction h2 with
  | start => exact h1
  | step g1 g2 g3 g4 _ ih => exact .step g1 g2 g3 g4 ih
theorem bent_tab {b : VBase} {L : List VLink} (h : 0 < b.tabs.length) : baseOk ⟨b.tabs ++ [b.tabs[0]], L⟩ = false := by
  rw [Bool.eq_false_iff]
  intro hk
  have h1 := (tabB_iff.1 ((baseOk_iff.1 hk).tb b.tabs.length (by simp))).2.1
  have e : (b.tabs ++ [b.tabs[0]]).getD b.tabs.length zTb = b.tabs[0] := by simp
  simp only [e] at h1
  have h2 := pIx_eq (p := isTab (b.tabs[0]).name) (b.tabs ++ [b.tabs[0]]) 0 0 (by simp) (by rw [List.getElem_append_left h]; unfold isTab; simp) (fun j hj => by omega)
  unfold tabIx at h1
  simp only at h1
  rw [h2] at h1
  omega
theorem tOk_shape {t : VTable} (h : tabOk t = true) (h0 : tL t ≠ []) : shapeOk (tL t) = true := by
  obtain ⟨ho, L, hg⟩ := shAll_go (tabOk_iff.1 h).sh
  have hL : tL t = L := by unfold tL; rw [shAll_yes ho hg]
  rw [hL]; exact chGo_ok hg ho
theorem bent_link {b : VBase} (h : 0 < b.tabs.length) {nm : ByteArray} (h4 : nm.size = 4) (hw : Int) : baseOk ⟨b.tabs, b.links ++ [⟨b.tabs[0].name, nm, b.tabs[0].name, hw⟩]⟩ = false := by
  rw [Bool.eq_false_iff]
  intro hk
  have hB := baseOk_iff.1 hk
  have h1 := (linkB_iff.1 (hB.lk b.links.length (by simp))).1
  have e : (b.links ++ [(⟨b.tabs[0].name, nm, b.tabs[0].name, hw⟩ : VLink)]).getD b.links.length zLk = ⟨b.tabs[0].name, nm, b.tabs[0].name, hw⟩ := by simp
  simp only [e] at h1
  have h2 := fitB_iff.1 h1
  have hz := h2.2.2.2.1
  unfold lkAt at hz
  simp only at hz
  obtain ⟨j, hj, _, h5⟩ := nameAt_some (Int.not_lt.2 hz)
  have hT := hB.tab h2.1
  have hS := tOk_shape hT (fun e => by rw [e] at hj; simp at hj)
  have hN := (shapeOk_at hS j hj).2
  have : nameOk (((tL (tabOf ⟨b.tabs, b.links ++ [⟨b.tabs[0].name, nm, b.tabs[0].name, hw⟩]⟩ (b.tabs[0]).name))[j]).name) = true := by
    unfold colOk at hN
    simp only [Bool.and_eq_true] at hN
    exact hN.1.1.1.1
  rw [h5] at this
  unfold nameOk at this
  simp only [Bool.and_eq_true, decide_eq_true_eq] at this
  omega
theorem dif_tabs {b : VBase} {x : VTab} : q_VBase b ⟨b.tabs ++ [x], b.links⟩ = false := by
  unfold q_VBase
  rw [leq_len (us := b.tabs) (bs := b.tabs ++ [x]) (by simp), Bool.and_false]
theorem dif_links {b : VBase} {x : VLink} : q_VBase b ⟨b.tabs, b.links ++ [x]⟩ = false := by
  unfold q_VBase
  rw [leq_len (us := b.links) (bs := b.links ++ [x]) (by simp), Bool.false_and]
end Go.Vl

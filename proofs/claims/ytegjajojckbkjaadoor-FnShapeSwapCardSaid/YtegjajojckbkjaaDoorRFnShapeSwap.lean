/- For every input laws.FnShapeSwap returns true and leaves its arguments as they were: the row, and its card, whose package-level variables are tied to the program's text. No condition beyond the row's own. -/
import Derived.Test.YtegjajojckbkjaaDoorRows
import Derived.Test.YtegjajojckbkjaaDoorCards
import Derived.Test.YtegjajojckbkjaaDoorTie
import Derived.Test.YtegjajojckbkjaaDoorTb
import Derived.Test.YtegjajojckbkjaaDoorGe
import Derived.ProofKit
import Derived.LaidMore
import Derived.Stop.Joined
import Derived.Stop.LaidErr
import Derived.Lib.LaidTab
import Derived.SevenTiedAt
namespace Go.Proofs.YtegjajojckbkjaaDoor
open Go Go.RowKit Go.ChangeShapes Go.WideShapes Go.ChangeAt Go.Vl
theorem fnShapeSwap_own : ownKnob Tryd.prog.godebug = none := by kernel_rfl
theorem fnShapeSwap_laidOut : laidOutB Tryd.prog = true := by kernel_rfl
theorem fnShapeSwap_door (os : Os) (args : Array Value) : laidMetH Tryd.prog Rows.fnShapeSwapRow.laid ((World.doorLaid Tryd.prog 400 os).forCall (fun _ _ => 0) ⟨#[], args, []⟩).memory :=
  laidMetH_of_parts3 (fuel := 8) (laidMet_of_run' 8 (by kernel_rfl) (by kernel_rfl)) (by kernel_rfl) (by kernel_rfl)
theorem var_heap {W : World} {n : String} {g : Nat} {cs : Array Value} (hg : Tryd.prog.globalNamed n = some g) (h : W.var? Tryd.prog n = some cs) : ∃ E m, W.heap[g]? = some (.cells cs E m) := by
  unfold World.var? at h
  rw [hg] at h
  simp only [Option.bind_some] at h
  split at h
  · rename_i c E m e
    cases h
    exact ⟨E, m, e⟩
  · cases h
theorem starE : "*" ++ "errors.errorString" = "*errors.errorString" := by decide
theorem rowE (u : TypeId) (h : Tryd.prog.typeName? 3 u = some "*errors.errorString") : u = 155 :=
  typeName_ptr_named (nm := "errors.errorString") (by rw [starE]; kernel_rfl) (by kernel_rfl) (by decide) u (by rw [starE]; exact h)
theorem fnShapeSwap_lay {W : World} (hL : laidMetH Tryd.prog Rows.fnShapeSwapRow.laid W) : LayC W (fun _ => False) := by
  rw [MakeChecks.laidMetH_plain _ _ _ (by kernel_rfl)] at hL
  have h : laidMet Tryd.prog [("math/bits.deBruijn32tab", Rows.laid_math_bits_deBruijn32tab), ("math/bits.deBruijn64tab", Rows.laid_math_bits_deBruijn64tab), ("internal/strconv.uint64pow10", Rows.laid_internal_strconv_uint64pow10), ("strconv.ErrRange", Rows.laid_strconv_ErrRange), ("strconv.ErrSyntax", Rows.laid_strconv_ErrSyntax)] W := hL
  have k0 : Lib.TabIs Tryd.prog W "internal/strconv.uint64pow10" .u64 Lib.pow10Tab := by
    have h1 := h.tail.tail
    rw [show (Rows.laid_internal_strconv_uint64pow10 : DataW Unit) = Lib.tabData .u64 Lib.pow10Tab by kernel_rfl] at h1
    exact Lib.tabIs_of_head (g := 0) (by kernel_rfl) (by kernel_rfl) Tryd.underlying141 Tryd.underlying129 (by kernel_rfl) (by kernel_rfl) h1
  have v0 : ∃ cs E m, W.heap[0]? = some (.cells cs E m) ∧ cs = (Lib.pow10Tab.map fun z => Value.int .u64 z).toArray := by
    obtain ⟨E, m, hh⟩ := var_heap (by kernel_rfl) k0
    exact ⟨_, E, m, hh, rfl⟩
  obtain ⟨a1, s1, k1, -, -, -⟩ := laid_sentinel (g := 1) h.tail.tail.tail.tail (by kernel_rfl) (by kernel_rfl) Tryd.underlying123 rowE Tryd.underlying155 Tryd.underlying157 rfl rfl Tryd.underlying9 (by kernel_rfl) (by kernel_rfl)
  have v1 : ∃ cs E m, W.heap[1]? = some (.cells cs E m) ∧ ∃ tp p, cs = #[.iface tp p] := by
    obtain ⟨E, m, hh⟩ := var_heap (by kernel_rfl) k1
    exact ⟨_, E, m, hh, _, _, rfl⟩
  obtain ⟨a2, s2, k2, -, -, -⟩ := laid_sentinel (g := 2) h.tail.tail.tail (by kernel_rfl) (by kernel_rfl) Tryd.underlying123 rowE Tryd.underlying155 Tryd.underlying157 rfl rfl Tryd.underlying9 (by kernel_rfl) (by kernel_rfl)
  have v2 : ∃ cs E m, W.heap[2]? = some (.cells cs E m) ∧ ∃ tp p, cs = #[.iface tp p] := by
    obtain ⟨E, m, hh⟩ := var_heap (by kernel_rfl) k2
    exact ⟨_, E, m, hh, _, _, rfl⟩
  intro x hx
  rcases List.mem_cons.1 hx with rfl | hx
  · exact ⟨id, v0⟩
  rcases List.mem_cons.1 hx with rfl | hx
  · exact ⟨id, v1⟩
  rcases List.mem_cons.1 hx with rfl | hx
  · exact ⟨id, v2⟩
  cases hx
set_option maxRecDepth 100000 in
theorem fnShapeSwap_lifted (os : Os) (started : os.Started) (H : Type) (enc : TypeId × Value → H) :
    ReturnsInHanded {} Tryd.checked os 10 .any (fun w args => (Rows.fnShapeSwapSpec.pre enc Tryd.prog Tryd.f10 Rows.fnShapeSwapRow.domain false w args ∧ laidMetH Tryd.prog Rows.fnShapeSwapRow.laid w) ∧ sizedMet enc Tryd.prog Tryd.f10 (OpenSpec.ofChange Rows.fnShapeSwapSpec) false w args)
      (Rows.fnShapeSwapSpec.post enc Tryd.prog Tryd.f10 false true false false) := by
  refine returnsInHanded_of_change_and (C := Tryd.checked) (X := fun w _ => laidMetH Tryd.prog Rows.fnShapeSwapRow.laid w) (fun _ _ _ hh h => h.of_heap hh) fnShapeSwap_own started (by kernel_rfl) Tryd.func10
    (ChangeSpec.witness_shaped (enc := enc) (C := Tryd.checked) (os := os) (X := fun w _ => laidMetH Tryd.prog Rows.fnShapeSwapRow.laid w) false (World.doorLaid Tryd.prog 400 os) #[.slice none 0 0, .slice none 0 0] 8 rfl (World.shaped_of_RefB (by kernel_rfl) (by kernel_rfl)) (by kernel_rfl) (by kernel_rfl) (by kernel_rfl) (fnShapeSwap_door os _)) ?_
  intro W base args ds gs before hval hW _ _ hL _
  refine law_calls (m := 8) fnShapeSwap_laidOut (tb := 4) rfl Tryd.underlying4 ?_ rfl ?_ ?_ W (fnShapeSwap_lay hL) base args ds gs before hval hW
  · have h : (Tryd.f10.params.toList.all fun t => (Tryd.prog.readableRec t && Nat.blt t Tryd.prog.types.size && plainT Tryd.prog 8 t)) = true := by kernel_rfl
    rw [List.all_eq_true] at h
    exact h
  · intro ds hd
    match ds, hd with
    | [d1, d2], _ => rfl
  · skip
    intro ls0 h0 ls1 h1
    obtain ⟨a, rfl, la, oa⟩ := wt_bytes h0
    obtain ⟨b, rfl, lb, ob⟩ := wt_bytes h1
    exact c_FnShapeSwap la oa lb ob
theorem fnShapeSwap_c0 : Rows.fnShapeSwapRow.wf (OpenSpec.ofChange Rows.fnShapeSwapSpec) = true := by kernel_rfl
theorem fnShapeSwap_c1 : laidOutB Tryd.prog = true := by kernel_rfl
theorem fnShapeSwap_c2 : mapsRowed Tryd.prog = true := by kernel_rfl
theorem fnShapeSwap_c3 : Tryd.f10.params.all (Tryd.prog.readableRec ·) = true := by kernel_rfl
theorem fnShapeSwap_c4 : (Rows.fnShapeSwapRow.inPlace == Tryd.prog.inPlace 10) = true := by kernel_rfl
theorem fnShapeSwap_c5 : (Rows.fnShapeSwapRow.unfollowed == Tryd.prog.unfollowed 10) = true := by kernel_rfl
theorem fnShapeSwap_c6 : (Rows.fnShapeSwapRow.recurses == Tryd.prog.recurses 10) = true := by kernel_rfl
theorem fnShapeSwap_c7 : (Rows.fnShapeSwapRow.named == Tryd.prog.varsNamed 10) = true := by kernel_rfl
theorem fnShapeSwap_c8 : (Rows.fnShapeSwapRow.maps == (Tryd.f10.params.toList ++ Rows.fnShapeSwapSpec.plain.varTypes Tryd.prog).any (Tryd.prog.mapsRec ·)) = true := by kernel_rfl
theorem fnShapeSwap_c9 : (Rows.fnShapeSwapRow.ifaces == (Tryd.f10.params.toList ++ Rows.fnShapeSwapSpec.plain.varTypes Tryd.prog).any (Tryd.prog.ifacesRec ·)) = true := by kernel_rfl
theorem fnShapeSwap_c10 : (Rows.fnShapeSwapRow.loops == (Tryd.f10.params.toList ++ Rows.fnShapeSwapSpec.plain.varTypes Tryd.prog).any (Tryd.prog.loopsFrom ·)) = true := by kernel_rfl
theorem fnShapeSwap_c11 : (Rows.fnShapeSwapRow.wideKeys == (Tryd.f10.params.toList ++ Rows.fnShapeSwapSpec.plain.varTypes Tryd.prog ++ Tryd.f10.resultTypes.toList).any (Tryd.prog.wideKeysFrom ·)) = true := by kernel_rfl
theorem fnShapeSwap_c12 : (Rows.fnShapeSwapRow.plainKeys == Tryd.prog.plainKeys) = true := by kernel_rfl
theorem fnShapeSwap_c13 : Tryd.prog.stopsHeard = true := by kernel_rfl
theorem fnShapeSwap_c14 : Tryd.prog.mayEnter = true := by kernel_rfl
theorem fnShapeSwap_c15 : (Rows.fnShapeSwapRow.lifted == Tryd.prog.liftsFinal) = true := by kernel_rfl
theorem fnShapeSwap_c16 : (Tryd.prog.make == some Rows.fnShapeSwapRow.make) = true := by kernel_rfl
theorem fnShapeSwap_c17 : (Rows.fnShapeSwapRow.veiled == (Tryd.f10.params.toList ++ Rows.fnShapeSwapSpec.plain.varTypes Tryd.prog ++ Tryd.f10.resultTypes.toList).any (Tryd.prog.veiledRec ·)) = true := by kernel_rfl
theorem fnShapeSwap_closed : joinedFacts Tryd.prog 10 Tryd.f10 Rows.fnShapeSwapSpec Rows.fnShapeSwapRow = true := by
  unfold joinedFacts
  rw [fnShapeSwap_c0, fnShapeSwap_c1, fnShapeSwap_c2, fnShapeSwap_c3, fnShapeSwap_c4, fnShapeSwap_c5, fnShapeSwap_c6, fnShapeSwap_c7, fnShapeSwap_c8, fnShapeSwap_c9, fnShapeSwap_c10, fnShapeSwap_c11, fnShapeSwap_c12, fnShapeSwap_c13, fnShapeSwap_c14, fnShapeSwap_c15, fnShapeSwap_c16, fnShapeSwap_c17]
  kernel_rfl
theorem fnShapeSwap_row : Rows.FnShapeSwapSaid :=
  OpenClaim.holds_of_wide 10 Tryd.f10 rfl rfl rfl rfl rfl rfl rfl ⟨rfl, rfl, rfl, rfl, rfl⟩ rfl rfl rfl rfl rfl (by as_aux_lemma => kernel_rfl) Tryd.func10 fnShapeSwap_closed
    (of_decide_eq_true (by as_aux_lemma => kernel_rfl)) (by unfold Func.isWrapper; first | (rw [if_pos (by decide +kernel)]; kernel_rfl) | (rw [if_neg (by decide +kernel)]; exact ⟨rfl, rfl⟩))
    (fun os started H enc _ => fnShapeSwap_lifted os started H enc)
theorem fnShapeSwap_holds : Rows.FnShapeSwapCardSaid :=
  Claim7.holds_tied_plain_at .later [] [.data, .data, .data, .sentinel, .sentinel] true (true, "b40a9e7f362d632174be38b4deb3fd27c62c52551a4da2f0e07b1f787f5e05c7") true
    fnShapeSwap_row (fun _ h => by cases h) (by as_aux_lemma => kernel_rfl) (fun _ h => by cases h) fnShapeSwap_row_tie rfl ⟨rfl, rfl⟩ (by as_aux_lemma => kernel_rfl) rfl
    (fun f fn hf hfn => by
      obtain rfl : f = 10 := Option.some.inj ((show Tryd.prog.funcNamed "loop.example/custumal/laws.FnShapeSwap" = some 10 by as_aux_lemma => kernel_rfl).symm.trans hf) |>.symm
      obtain rfl : fn = Tryd.f10 := (Option.some.inj (Tryd.func10.symm.trans hfn)).symm
      exact ⟨by as_aux_lemma => kernel_rfl, fun j t ht => by
        have hm : t ∈ Tryd.f10.params.toList := by simpa using Array.mem_of_getElem? ht
        have hall : (Tryd.f10.params.toList.all fun u => !Tryd.prog.wantsStandIn u) = true := by as_aux_lemma => kernel_rfl
        exact (show Tryd.prog.wantsStandIn t = false by simpa using List.all_eq_true.1 hall t hm)⟩)
    (by as_aux_lemma => kernel_rfl)
#print axioms fnShapeSwap_holds
end Go.Proofs.YtegjajojckbkjaaDoor

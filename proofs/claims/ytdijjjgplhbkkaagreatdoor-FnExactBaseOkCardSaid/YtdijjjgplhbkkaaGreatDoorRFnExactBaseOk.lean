/- For every input laws.FnExactBaseOk returns true and leaves its arguments as they were: the row, and its card, whose package-level variables are tied to the program's text. No condition beyond the row's own. -/
import Derived.Test.YtdijjjgplhbkkaaGreatDoorRows
import Derived.Test.YtdijjjgplhbkkaaGreatDoorCards
import Derived.Test.YtdijjjgplhbkkaaGreatDoorTie
import Derived.Test.YtdijjjgplhbkkaaGreatDoorJBa
import Derived.Test.YtdijjjgplhbkkaaGreatDoorJBb
import Derived.Test.YtdijjjgplhbkkaaGreatDoorJBc
import Derived.Test.YtdijjjgplhbkkaaGreatDoorJBd
import Derived.Test.YtdijjjgplhbkkaaGreatDoorJBe
import Derived.Test.YtdijjjgplhbkkaaGreatDoorJBf
import Derived.Test.YtdijjjgplhbkkaaGreatDoorJBg
import Derived.Test.YtdijjjgplhbkkaaGreatDoorJBh
import Derived.Test.YtdijjjgplhbkkaaGreatDoorJBi
import Derived.Test.YtdijjjgplhbkkaaGreatDoorJBj
import Derived.Test.YtdijjjgplhbkkaaGreatDoorJBk
import Derived.Test.YtdijjjgplhbkkaaGreatDoorJBl
import Derived.Test.YtdijjjgplhbkkaaGreatDoorJBm
import Derived.Test.YtdijjjgplhbkkaaGreatDoorJBn
import Derived.ProofKit
import Derived.LaidMore
import Derived.Stop.Joined
import Derived.Stop.LaidErr
import Derived.Lib.LaidTab
import Derived.SevenTiedAt
namespace Go.Proofs.YtdijjjgplhbkkaaGreatDoor
open Go Go.RowKit Go.ChangeShapes Go.WideShapes Go.ChangeAt Go.Vl
theorem fnExactBaseOk_own : ownKnob Tryz.prog.godebug = none := by kernel_rfl
theorem fnExactBaseOk_laidOut : laidOutB Tryz.prog = true := by kernel_rfl
theorem fnExactBaseOk_door (os : Os) (args : Array Value) : laidMetH Tryz.prog Rows.fnExactBaseOkRow.laid ((World.doorLaid Tryz.prog 400 os).forCall (fun _ _ => 0) ⟨#[], args, []⟩).memory :=
  laidMetH_of_parts3 (fuel := 8) (laidMet_of_run' 8 (by kernel_rfl) (by kernel_rfl)) (by kernel_rfl) (by kernel_rfl)
theorem var_heap {W : World} {n : String} {g : Nat} {cs : Array Value} (hg : Tryz.prog.globalNamed n = some g) (h : W.var? Tryz.prog n = some cs) : ∃ E m, W.heap[g]? = some (.cells cs E m) := by
  unfold World.var? at h
  rw [hg] at h
  simp only [Option.bind_some] at h
  split at h
  · rename_i c E m e
    cases h
    exact ⟨E, m, e⟩
  · cases h
theorem starE : "*" ++ "errors.errorString" = "*errors.errorString" := by decide
theorem rowE (u : TypeId) (h : Tryz.prog.typeName? 3 u = some "*errors.errorString") : u = 288 :=
  typeName_ptr_named (nm := "errors.errorString") (by rw [starE]; kernel_rfl) (by kernel_rfl) (by decide) u (by rw [starE]; exact h)
theorem fnExactBaseOk_lay {W : World} (hL : laidMetH Tryz.prog Rows.fnExactBaseOkRow.laid W) : LayC W (fun _ => False) := by
  rw [MakeChecks.laidMetH_plain _ _ _ (by kernel_rfl)] at hL
  have h : laidMet Tryz.prog [("math/bits.deBruijn32tab", Rows.laid_math_bits_deBruijn32tab), ("math/bits.deBruijn64tab", Rows.laid_math_bits_deBruijn64tab), ("internal/strconv.uint64pow10", Rows.laid_internal_strconv_uint64pow10), ("strconv.ErrRange", Rows.laid_strconv_ErrRange), ("strconv.ErrSyntax", Rows.laid_strconv_ErrSyntax)] W := hL
  have k0 : Lib.TabIs Tryz.prog W "internal/strconv.uint64pow10" .u64 Lib.pow10Tab := by
    have h1 := h.tail.tail
    rw [show (Rows.laid_internal_strconv_uint64pow10 : DataW Unit) = Lib.tabData .u64 Lib.pow10Tab by kernel_rfl] at h1
    exact Lib.tabIs_of_head (g := 0) (by kernel_rfl) (by kernel_rfl) Tryz.underlying274 Tryz.underlying262 (by kernel_rfl) (by kernel_rfl) h1
  have v0 : ∃ cs E m, W.heap[0]? = some (.cells cs E m) ∧ cs = (Lib.pow10Tab.map fun z => Value.int .u64 z).toArray := by
    obtain ⟨E, m, hh⟩ := var_heap (by kernel_rfl) k0
    exact ⟨_, E, m, hh, rfl⟩
  obtain ⟨a1, s1, k1, -, -, -⟩ := laid_sentinel (g := 1) h.tail.tail.tail.tail (by kernel_rfl) (by kernel_rfl) Tryz.underlying235 rowE Tryz.underlying288 Tryz.underlying290 rfl rfl Tryz.underlying9 (by kernel_rfl) (by kernel_rfl)
  have v1 : ∃ cs E m, W.heap[1]? = some (.cells cs E m) ∧ ∃ tp p, cs = #[.iface tp p] := by
    obtain ⟨E, m, hh⟩ := var_heap (by kernel_rfl) k1
    exact ⟨_, E, m, hh, _, _, rfl⟩
  obtain ⟨a2, s2, k2, -, -, -⟩ := laid_sentinel (g := 2) h.tail.tail.tail (by kernel_rfl) (by kernel_rfl) Tryz.underlying235 rowE Tryz.underlying288 Tryz.underlying290 rfl rfl Tryz.underlying9 (by kernel_rfl) (by kernel_rfl)
  have v2 : ∃ cs E m, W.heap[2]? = some (.cells cs E m) ∧ ∃ tp p, cs = #[.iface tp p] := by
    obtain ⟨E, m, hh⟩ := var_heap (by kernel_rfl) k2
    exact ⟨_, E, m, hh, _, _, rfl⟩
  intro x hx
  rcases List.mem_cons.1 hx with rfl | hx
  · exact ⟨id, v0⟩
  rcases List.mem_cons.1 hx with rfl | hx
  · exact ⟨id, v1⟩
  rcases List.mem_cons.1 hx with rfl | hx
  · exact ⟨id, v2⟩
  cases hx
set_option maxRecDepth 100000 in
theorem fnExactBaseOk_lifted (os : Os) (started : os.Started) (H : Type) (enc : TypeId × Value → H) :
    ReturnsInHanded {} Tryz.checked os 6 .any (fun w args => (Rows.fnExactBaseOkSpec.pre enc Tryz.prog Tryz.f6 Rows.fnExactBaseOkRow.domain false w args ∧ laidMetH Tryz.prog Rows.fnExactBaseOkRow.laid w) ∧ sizedMet enc Tryz.prog Tryz.f6 (OpenSpec.ofChange Rows.fnExactBaseOkSpec) false w args)
      (Rows.fnExactBaseOkSpec.post enc Tryz.prog Tryz.f6 false true false false) := by
  refine returnsInHanded_of_change_and (C := Tryz.checked) (X := fun w _ => laidMetH Tryz.prog Rows.fnExactBaseOkRow.laid w) (fun _ _ _ hh h => h.of_heap hh) fnExactBaseOk_own started (by kernel_rfl) Tryz.func6
    (ChangeSpec.witness_shaped (enc := enc) (C := Tryz.checked) (os := os) (X := fun w _ => laidMetH Tryz.prog Rows.fnExactBaseOkRow.laid w) false (World.doorLaid Tryz.prog 400 os) #[.agg #[.slice none 0 0, .slice none 0 0]] 12 rfl (World.shaped_of_RefB (by kernel_rfl) (by kernel_rfl)) (by kernel_rfl) (by kernel_rfl) (by kernel_rfl) (fnExactBaseOk_door os _)) ?_
  intro W base args ds gs before hval hW _ _ hL _
  refine law_calls (m := 12) fnExactBaseOk_laidOut (tb := 4) rfl Tryz.underlying4 ?_ rfl ?_ ?_ W (fnExactBaseOk_lay hL) base args ds gs before hval hW
  · have h : (Tryz.f6.params.toList.all fun t => (Tryz.prog.readableRec t && Nat.blt t Tryz.prog.types.size && plainT Tryz.prog 12 t)) = true := by kernel_rfl
    rw [List.all_eq_true] at h
    exact h
  · intro ds hd
    match ds, hd with
    | [d1], _ => rfl
  · skip
    intro ls0 h0
    obtain ⟨a, rfl, oa⟩ := w_VBase h0
    exact c_FnExactBaseOk a oa
theorem fnExactBaseOk_c0 : Rows.fnExactBaseOkRow.wf (OpenSpec.ofChange Rows.fnExactBaseOkSpec) = true := by kernel_rfl
theorem fnExactBaseOk_c1 : laidOutB Tryz.prog = true := by kernel_rfl
theorem fnExactBaseOk_c2 : mapsRowed Tryz.prog = true := by kernel_rfl
theorem fnExactBaseOk_c3 : Tryz.f6.params.all (Tryz.prog.readableRec ·) = true := by kernel_rfl
theorem fnExactBaseOk_c4 : (Rows.fnExactBaseOkRow.inPlace == Tryz.prog.inPlace 6) = true := by kernel_rfl
theorem fnExactBaseOk_c5 : (Rows.fnExactBaseOkRow.unfollowed == Tryz.prog.unfollowed 6) = true := by kernel_rfl
theorem fnExactBaseOk_c6 : (Rows.fnExactBaseOkRow.recurses == Tryz.prog.recurses 6) = true := by kernel_rfl
theorem fnExactBaseOk_c7 : (Rows.fnExactBaseOkRow.named == Tryz.prog.varsNamed 6) = true := by kernel_rfl
theorem fnExactBaseOk_c8 : (Rows.fnExactBaseOkRow.maps == (Tryz.f6.params.toList ++ Rows.fnExactBaseOkSpec.plain.varTypes Tryz.prog).any (Tryz.prog.mapsRec ·)) = true := by kernel_rfl
theorem fnExactBaseOk_c9 : (Rows.fnExactBaseOkRow.ifaces == (Tryz.f6.params.toList ++ Rows.fnExactBaseOkSpec.plain.varTypes Tryz.prog).any (Tryz.prog.ifacesRec ·)) = true := by kernel_rfl
theorem fnExactBaseOk_c10 : (Rows.fnExactBaseOkRow.loops == (Tryz.f6.params.toList ++ Rows.fnExactBaseOkSpec.plain.varTypes Tryz.prog).any (Tryz.prog.loopsFrom ·)) = true := by kernel_rfl
theorem fnExactBaseOk_c11 : (Rows.fnExactBaseOkRow.wideKeys == (Tryz.f6.params.toList ++ Rows.fnExactBaseOkSpec.plain.varTypes Tryz.prog ++ Tryz.f6.resultTypes.toList).any (Tryz.prog.wideKeysFrom ·)) = true := by kernel_rfl
theorem fnExactBaseOk_c12 : (Rows.fnExactBaseOkRow.plainKeys == Tryz.prog.plainKeys) = true := by kernel_rfl
theorem fnExactBaseOk_c13 : Tryz.prog.stopsHeard = true := by kernel_rfl
theorem fnExactBaseOk_c14 : Tryz.prog.mayEnter = true := by kernel_rfl
theorem fnExactBaseOk_c15 : (Rows.fnExactBaseOkRow.lifted == Tryz.prog.liftsFinal) = true := by kernel_rfl
theorem fnExactBaseOk_c16 : (Tryz.prog.make == some Rows.fnExactBaseOkRow.make) = true := by kernel_rfl
theorem fnExactBaseOk_c17 : (Rows.fnExactBaseOkRow.veiled == (Tryz.f6.params.toList ++ Rows.fnExactBaseOkSpec.plain.varTypes Tryz.prog ++ Tryz.f6.resultTypes.toList).any (Tryz.prog.veiledRec ·)) = true := by kernel_rfl
theorem fnExactBaseOk_closed : joinedFacts Tryz.prog 6 Tryz.f6 Rows.fnExactBaseOkSpec Rows.fnExactBaseOkRow = true := by
  unfold joinedFacts
  rw [fnExactBaseOk_c0, fnExactBaseOk_c1, fnExactBaseOk_c2, fnExactBaseOk_c3, fnExactBaseOk_c4, fnExactBaseOk_c5, fnExactBaseOk_c6, fnExactBaseOk_c7, fnExactBaseOk_c8, fnExactBaseOk_c9, fnExactBaseOk_c10, fnExactBaseOk_c11, fnExactBaseOk_c12, fnExactBaseOk_c13, fnExactBaseOk_c14, fnExactBaseOk_c15, fnExactBaseOk_c16, fnExactBaseOk_c17]
  kernel_rfl
theorem fnExactBaseOk_row : Rows.FnExactBaseOkSaid :=
  OpenClaim.holds_of_wide 6 Tryz.f6 rfl rfl rfl rfl rfl rfl rfl ⟨rfl, rfl, rfl, rfl, rfl⟩ rfl rfl rfl rfl rfl (by as_aux_lemma => kernel_rfl) Tryz.func6 fnExactBaseOk_closed
    (of_decide_eq_true (by as_aux_lemma => kernel_rfl)) (by unfold Func.isWrapper; first | (rw [if_pos (by decide +kernel)]; kernel_rfl) | (rw [if_neg (by decide +kernel)]; exact ⟨rfl, rfl⟩))
    (fun os started H enc _ => fnExactBaseOk_lifted os started H enc)
theorem fnExactBaseOk_holds : Rows.FnExactBaseOkCardSaid :=
  Claim7.holds_tied_plain_at .later [] [.data, .data, .data, .sentinel, .sentinel] true (true, "1eb37b6cd1e508e17d775fdd66bb4d2638385bfc1f619e1145f2e09b3b5f18a4") true
    fnExactBaseOk_row (fun _ h => by cases h) (by as_aux_lemma => kernel_rfl) (fun _ h => by cases h) fnExactBaseOk_row_tie rfl ⟨rfl, rfl⟩ (by as_aux_lemma => kernel_rfl) rfl
    (fun f fn hf hfn => by
      obtain rfl : f = 6 := Option.some.inj ((show Tryz.prog.funcNamed "loop.example/custumal/laws.FnExactBaseOk" = some 6 by kernel_rfl).symm.trans hf) |>.symm
      obtain rfl : fn = Tryz.f6 := (Option.some.inj (Tryz.func6.symm.trans hfn)).symm
      exact ⟨by as_aux_lemma => kernel_rfl, fun j t ht => by
        have hm : t ∈ Tryz.f6.params.toList := by simpa using Array.mem_of_getElem? ht
        have hall : (Tryz.f6.params.toList.all fun u => !Tryz.prog.wantsStandIn u) = true := by as_aux_lemma => kernel_rfl
        exact (show Tryz.prog.wantsStandIn t = false by simpa using List.all_eq_true.1 hall t hm)⟩)
    (by as_aux_lemma => kernel_rfl)
#print axioms fnExactBaseOk_holds
end Go.Proofs.YtdijjjgplhbkkaaGreatDoor

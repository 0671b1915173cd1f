/- For every input laws.FnBaseLess returns true and leaves its arguments as they were: the row, and its card, whose package-level variables are tied to the program's text. No condition beyond the row's own. -/
import Derived.Test.YtdijjjgplhbkkaaGreatDoorRows
import Derived.Test.YtdijjjgplhbkkaaGreatDoorCards
import Derived.Test.YtdijjjgplhbkkaaGreatDoorTie
import Derived.Test.YtdijjjgplhbkkaaGreatDoorJDa
import Derived.Test.YtdijjjgplhbkkaaGreatDoorJDb
import Derived.Test.YtdijjjgplhbkkaaGreatDoorJDc
import Derived.Test.YtdijjjgplhbkkaaGreatDoorJDd
import Derived.Test.YtdijjjgplhbkkaaGreatDoorJDe
import Derived.Test.YtdijjjgplhbkkaaGreatDoorJDf
import Derived.Test.YtdijjjgplhbkkaaGreatDoorJDg
import Derived.Test.YtdijjjgplhbkkaaGreatDoorJDh
import Derived.Test.YtdijjjgplhbkkaaGreatDoorJDi
import Derived.Test.YtdijjjgplhbkkaaGreatDoorJDj
import Derived.Test.YtdijjjgplhbkkaaGreatDoorJDk
import Derived.Test.YtdijjjgplhbkkaaGreatDoorJDl
import Derived.Test.YtdijjjgplhbkkaaGreatDoorJDm
import Derived.Test.YtdijjjgplhbkkaaGreatDoorJDn
import Derived.Test.YtdijjjgplhbkkaaGreatDoorJDo
import Derived.Test.YtdijjjgplhbkkaaGreatDoorJDp
import Derived.Test.YtdijjjgplhbkkaaGreatDoorJDq
import Derived.Test.YtdijjjgplhbkkaaGreatDoorJDr
import Derived.ProofKit
import Derived.LaidMore
import Derived.Stop.Joined
import Derived.Stop.LaidErr
import Derived.Lib.LaidTab
import Derived.SevenTiedAt
namespace Go.Proofs.YtdijjjgplhbkkaaGreatDoor
open Go Go.RowKit Go.ChangeShapes Go.WideShapes Go.ChangeAt Go.Vl
theorem fnBaseLess_own : ownKnob Tryz.prog.godebug = none := by kernel_rfl
theorem fnBaseLess_laidOut : laidOutB Tryz.prog = true := by kernel_rfl
theorem fnBaseLess_door (os : Os) (args : Array Value) : laidMetH Tryz.prog Rows.fnBaseLessRow.laid ((World.doorLaid Tryz.prog 400 os).forCall (fun _ _ => 0) ⟨#[], args, []⟩).memory :=
  laidMetH_of_parts3 (fuel := 8) (laidMet_of_run' 8 (by kernel_rfl) (by kernel_rfl)) (by kernel_rfl) (by kernel_rfl)
theorem var_heap {W : World} {n : String} {g : Nat} {cs : Array Value} (hg : Tryz.prog.globalNamed n = some g) (h : W.var? Tryz.prog n = some cs) : ∃ E m, W.heap[g]? = some (.cells cs E m) := by
  unfold World.var? at h
  rw [hg] at h
  simp only [Option.bind_some] at h
  split at h
  · rename_i c E m e
    cases h
    exact ⟨E, m, e⟩
  · cases h
theorem starE : "*" ++ "errors.errorString" = "*errors.errorString" := by decide
theorem rowE (u : TypeId) (h : Tryz.prog.typeName? 3 u = some "*errors.errorString") : u = 288 :=
  typeName_ptr_named (nm := "errors.errorString") (by rw [starE]; kernel_rfl) (by kernel_rfl) (by decide) u (by rw [starE]; exact h)
theorem fnBaseLess_lay {W : World} (hL : laidMetH Tryz.prog Rows.fnBaseLessRow.laid W) : LayC W (fun _ => False) := by
  rw [MakeChecks.laidMetH_plain _ _ _ (by kernel_rfl)] at hL
  have h : laidMet Tryz.prog [("math/bits.deBruijn32tab", Rows.laid_math_bits_deBruijn32tab), ("math/bits.deBruijn64tab", Rows.laid_math_bits_deBruijn64tab), ("internal/strconv.uint64pow10", Rows.laid_internal_strconv_uint64pow10), ("strconv.ErrRange", Rows.laid_strconv_ErrRange), ("strconv.ErrSyntax", Rows.laid_strconv_ErrSyntax)] W := hL
  have k0 : Lib.TabIs Tryz.prog W "internal/strconv.uint64pow10" .u64 Lib.pow10Tab := by
    have h1 := h.tail.tail
    rw [show (Rows.laid_internal_strconv_uint64pow10 : DataW Unit) = Lib.tabData .u64 Lib.pow10Tab by kernel_rfl] at h1
    exact Lib.tabIs_of_head (g := 0) (by kernel_rfl) (by kernel_rfl) Tryz.underlying274 Tryz.underlying262 (by kernel_rfl) (by kernel_rfl) h1
  have v0 : ∃ cs E m, W.heap[0]? = some (.cells cs E m) ∧ cs = (Lib.pow10Tab.map fun z => Value.int .u64 z).toArray := by
    obtain ⟨E, m, hh⟩ := var_heap (by kernel_rfl) k0
    exact ⟨_, E, m, hh, rfl⟩
  obtain ⟨a1, s1, k1, -, -, -⟩ := laid_sentinel (g := 1) h.tail.tail.tail.tail (by kernel_rfl) (by kernel_rfl) Tryz.underlying235 rowE Tryz.underlying288 Tryz.underlying290 rfl rfl Tryz.underlying9 (by kernel_rfl) (by kernel_rfl)
  have v1 : ∃ cs E m, W.heap[1]? = some (.cells cs E m) ∧ ∃ tp p, cs = #[.iface tp p] := by
    obtain ⟨E, m, hh⟩ := var_heap (by kernel_rfl) k1
    exact ⟨_, E, m, hh, _, _, rfl⟩
  obtain ⟨a2, s2, k2, -, -, -⟩ := laid_sentinel (g := 2) h.tail.tail.tail (by kernel_rfl) (by kernel_rfl) Tryz.underlying235 rowE Tryz.underlying288 Tryz.underlying290 rfl rfl Tryz.underlying9 (by kernel_rfl) (by kernel_rfl)
  have v2 : ∃ cs E m, W.heap[2]? = some (.cells cs E m) ∧ ∃ tp p, cs = #[.iface tp p] := by
    obtain ⟨E, m, hh⟩ := var_heap (by kernel_rfl) k2
    exact ⟨_, E, m, hh, _, _, rfl⟩
  intro x hx
  rcases List.mem_cons.1 hx with rfl | hx
  · exact ⟨id, v0⟩
  rcases List.mem_cons.1 hx with rfl | hx
  · exact ⟨id, v1⟩
  rcases List.mem_cons.1 hx with rfl | hx
  · exact ⟨id, v2⟩
  cases hx
set_option maxRecDepth 100000 in
theorem fnBaseLess_lifted (os : Os) (started : os.Started) (H : Type) (enc : TypeId × Value → H) :
    ReturnsInHanded {} Tryz.checked os 11 .any (fun w args => (Rows.fnBaseLessSpec.pre enc Tryz.prog Tryz.f11 Rows.fnBaseLessRow.domain false w args ∧ laidMetH Tryz.prog Rows.fnBaseLessRow.laid w) ∧ sizedMet enc Tryz.prog Tryz.f11 (OpenSpec.ofChange Rows.fnBaseLessSpec) false w args)
      (Rows.fnBaseLessSpec.post enc Tryz.prog Tryz.f11 false true false false) := by
  refine returnsInHanded_of_change_and (C := Tryz.checked) (X := fun w _ => laidMetH Tryz.prog Rows.fnBaseLessRow.laid w) (fun _ _ _ hh h => h.of_heap hh) fnBaseLess_own started (by kernel_rfl) Tryz.func11
    (ChangeSpec.witness_shaped (enc := enc) (C := Tryz.checked) (os := os) (X := fun w _ => laidMetH Tryz.prog Rows.fnBaseLessRow.laid w) false (World.doorLaid Tryz.prog 400 os) #[.slice none 0 0] 8 rfl (World.shaped_of_RefB (by kernel_rfl) (by kernel_rfl)) (by kernel_rfl) (by kernel_rfl) (by kernel_rfl) (fnBaseLess_door os _)) ?_
  intro W base args ds gs before hval hW _ _ hL _
  refine law_calls (m := 8) fnBaseLess_laidOut (tb := 4) rfl Tryz.underlying4 ?_ rfl ?_ ?_ W (fnBaseLess_lay hL) base args ds gs before hval hW
  · have h : (Tryz.f11.params.toList.all fun t => (Tryz.prog.readableRec t && Nat.blt t Tryz.prog.types.size && plainT Tryz.prog 8 t)) = true := by kernel_rfl
    rw [List.all_eq_true] at h
    exact h
  · intro ds hd
    match ds, hd with
    | [d1], _ => rfl
  · skip
    intro ls0 h0
    obtain ⟨a, rfl, la, oa⟩ := wt_bytes h0
    exact c_FnBaseLess la oa
theorem fnBaseLess_c0 : Rows.fnBaseLessRow.wf (OpenSpec.ofChange Rows.fnBaseLessSpec) = true := by kernel_rfl
theorem fnBaseLess_c1 : laidOutB Tryz.prog = true := by kernel_rfl
theorem fnBaseLess_c2 : mapsRowed Tryz.prog = true := by kernel_rfl
theorem fnBaseLess_c3 : Tryz.f11.params.all (Tryz.prog.readableRec ·) = true := by kernel_rfl
theorem fnBaseLess_c4 : (Rows.fnBaseLessRow.inPlace == Tryz.prog.inPlace 11) = true := by kernel_rfl
theorem fnBaseLess_c5 : (Rows.fnBaseLessRow.unfollowed == Tryz.prog.unfollowed 11) = true := by kernel_rfl
theorem fnBaseLess_c6 : (Rows.fnBaseLessRow.recurses == Tryz.prog.recurses 11) = true := by kernel_rfl
theorem fnBaseLess_c7 : (Rows.fnBaseLessRow.named == Tryz.prog.varsNamed 11) = true := by kernel_rfl
theorem fnBaseLess_c8 : (Rows.fnBaseLessRow.maps == (Tryz.f11.params.toList ++ Rows.fnBaseLessSpec.plain.varTypes Tryz.prog).any (Tryz.prog.mapsRec ·)) = true := by kernel_rfl
theorem fnBaseLess_c9 : (Rows.fnBaseLessRow.ifaces == (Tryz.f11.params.toList ++ Rows.fnBaseLessSpec.plain.varTypes Tryz.prog).any (Tryz.prog.ifacesRec ·)) = true := by kernel_rfl
theorem fnBaseLess_c10 : (Rows.fnBaseLessRow.loops == (Tryz.f11.params.toList ++ Rows.fnBaseLessSpec.plain.varTypes Tryz.prog).any (Tryz.prog.loopsFrom ·)) = true := by kernel_rfl
theorem fnBaseLess_c11 : (Rows.fnBaseLessRow.wideKeys == (Tryz.f11.params.toList ++ Rows.fnBaseLessSpec.plain.varTypes Tryz.prog ++ Tryz.f11.resultTypes.toList).any (Tryz.prog.wideKeysFrom ·)) = true := by kernel_rfl
theorem fnBaseLess_c12 : (Rows.fnBaseLessRow.plainKeys == Tryz.prog.plainKeys) = true := by kernel_rfl
theorem fnBaseLess_c13 : Tryz.prog.stopsHeard = true := by kernel_rfl
theorem fnBaseLess_c14 : Tryz.prog.mayEnter = true := by kernel_rfl
theorem fnBaseLess_c15 : (Rows.fnBaseLessRow.lifted == Tryz.prog.liftsFinal) = true := by kernel_rfl
theorem fnBaseLess_c16 : (Tryz.prog.make == some Rows.fnBaseLessRow.make) = true := by kernel_rfl
theorem fnBaseLess_c17 : (Rows.fnBaseLessRow.veiled == (Tryz.f11.params.toList ++ Rows.fnBaseLessSpec.plain.varTypes Tryz.prog ++ Tryz.f11.resultTypes.toList).any (Tryz.prog.veiledRec ·)) = true := by kernel_rfl
theorem fnBaseLess_closed : joinedFacts Tryz.prog 11 Tryz.f11 Rows.fnBaseLessSpec Rows.fnBaseLessRow = true := by
  unfold joinedFacts
  rw [fnBaseLess_c0, fnBaseLess_c1, fnBaseLess_c2, fnBaseLess_c3, fnBaseLess_c4, fnBaseLess_c5, fnBaseLess_c6, fnBaseLess_c7, fnBaseLess_c8, fnBaseLess_c9, fnBaseLess_c10, fnBaseLess_c11, fnBaseLess_c12, fnBaseLess_c13, fnBaseLess_c14, fnBaseLess_c15, fnBaseLess_c16, fnBaseLess_c17]
  kernel_rfl
theorem fnBaseLess_row : Rows.FnBaseLessSaid :=
  OpenClaim.holds_of_wide 11 Tryz.f11 rfl rfl rfl rfl rfl rfl rfl ⟨rfl, rfl, rfl, rfl, rfl⟩ rfl rfl rfl rfl rfl (by as_aux_lemma => kernel_rfl) Tryz.func11 fnBaseLess_closed
    (of_decide_eq_true (by as_aux_lemma => kernel_rfl)) (by unfold Func.isWrapper; first | (rw [if_pos (by decide +kernel)]; kernel_rfl) | (rw [if_neg (by decide +kernel)]; exact ⟨rfl, rfl⟩))
    (fun os started H enc _ => fnBaseLess_lifted os started H enc)
theorem fnBaseLess_holds : Rows.FnBaseLessCardSaid :=
  Claim7.holds_tied_plain_at .later [] [.data, .data, .data, .sentinel, .sentinel] true (true, "1eb37b6cd1e508e17d775fdd66bb4d2638385bfc1f619e1145f2e09b3b5f18a4") true
    fnBaseLess_row (fun _ h => by cases h) (by as_aux_lemma => kernel_rfl) (fun _ h => by cases h) fnBaseLess_row_tie rfl ⟨rfl, rfl⟩ (by as_aux_lemma => kernel_rfl) rfl
    (fun f fn hf hfn => by
      obtain rfl : f = 11 := Option.some.inj ((show Tryz.prog.funcNamed "loop.example/custumal/laws.FnBaseLess" = some 11 by kernel_rfl).symm.trans hf) |>.symm
      obtain rfl : fn = Tryz.f11 := (Option.some.inj (Tryz.func11.symm.trans hfn)).symm
      exact ⟨by as_aux_lemma => kernel_rfl, fun j t ht => by
        have hm : t ∈ Tryz.f11.params.toList := by simpa using Array.mem_of_getElem? ht
        have hall : (Tryz.f11.params.toList.all fun u => !Tryz.prog.wantsStandIn u) = true := by as_aux_lemma => kernel_rfl
        exact (show Tryz.prog.wantsStandIn t = false by simpa using List.all_eq_true.1 hall t hm)⟩)
    (by as_aux_lemma => kernel_rfl)
#print axioms fnBaseLess_holds
end Go.Proofs.YtdijjjgplhbkkaaGreatDoor

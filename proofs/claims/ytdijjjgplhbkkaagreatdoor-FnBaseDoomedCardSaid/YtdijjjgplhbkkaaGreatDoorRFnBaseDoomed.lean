/- For every input laws.FnBaseDoomed returns true and leaves its arguments as they were: the row, and its card, whose package-level variables are tied to the program's text. No condition beyond the row's own. -/
import Derived.Test.YtdijjjgplhbkkaaGreatDoorRows
import Derived.Test.YtdijjjgplhbkkaaGreatDoorCards
import Derived.Test.YtdijjjgplhbkkaaGreatDoorTie
import Derived.Test.YtdijjjgplhbkkaaGreatDoorJDa
import Derived.Test.YtdijjjgplhbkkaaGreatDoorJDb
import Derived.Test.YtdijjjgplhbkkaaGreatDoorJDc
import Derived.Test.YtdijjjgplhbkkaaGreatDoorJDd
import Derived.Test.YtdijjjgplhbkkaaGreatDoorJDe
import Derived.Test.YtdijjjgplhbkkaaGreatDoorJDf
import Derived.Test.YtdijjjgplhbkkaaGreatDoorJDg
import Derived.Test.YtdijjjgplhbkkaaGreatDoorJDh
import Derived.Test.YtdijjjgplhbkkaaGreatDoorJDi
import Derived.Test.YtdijjjgplhbkkaaGreatDoorJDj
import Derived.Test.YtdijjjgplhbkkaaGreatDoorJDk
import Derived.Test.YtdijjjgplhbkkaaGreatDoorJDl
import Derived.Test.YtdijjjgplhbkkaaGreatDoorJDm
import Derived.Test.YtdijjjgplhbkkaaGreatDoorJDn
import Derived.Test.YtdijjjgplhbkkaaGreatDoorJDo
import Derived.Test.YtdijjjgplhbkkaaGreatDoorJDp
import Derived.Test.YtdijjjgplhbkkaaGreatDoorJDq
import Derived.Test.YtdijjjgplhbkkaaGreatDoorJDr
import Derived.ProofKit
import Derived.LaidMore
import Derived.Stop.Joined
import Derived.Stop.LaidErr
import Derived.Lib.LaidTab
import Derived.SevenTiedAt
namespace Go.Proofs.YtdijjjgplhbkkaaGreatDoor
open Go Go.RowKit Go.ChangeShapes Go.WideShapes Go.ChangeAt Go.Vl
theorem fnBaseDoomed_own : ownKnob Tryz.prog.godebug = none := by kernel_rfl
theorem fnBaseDoomed_laidOut : laidOutB Tryz.prog = true := by kernel_rfl
theorem fnBaseDoomed_door (os : Os) (args : Array Value) : laidMetH Tryz.prog Rows.fnBaseDoomedRow.laid ((World.doorLaid Tryz.prog 400 os).forCall (fun _ _ => 0) ⟨#[], args, []⟩).memory :=
  laidMetH_of_parts3 (fuel := 8) (laidMet_of_run' 8 (by kernel_rfl) (by kernel_rfl)) (by kernel_rfl) (by kernel_rfl)
theorem var_heap {W : World} {n : String} {g : Nat} {cs : Array Value} (hg : Tryz.prog.globalNamed n = some g) (h : W.var? Tryz.prog n = some cs) : ∃ E m, W.heap[g]? = some (.cells cs E m) := by
  unfold World.var? at h
  rw [hg] at h
  simp only [Option.bind_some] at h
  split at h
  · rename_i c E m e
    cases h
    exact ⟨E, m, e⟩
  · cases h
theorem starE : "*" ++ "errors.errorString" = "*errors.errorString" := by decide
theorem rowE (u : TypeId) (h : Tryz.prog.typeName? 3 u = some "*errors.errorString") : u = 288 :=
  typeName_ptr_named (nm := "errors.errorString") (by rw [starE]; kernel_rfl) (by kernel_rfl) (by decide) u (by rw [starE]; exact h)
theorem fnBaseDoomed_lay {W : World} (hL : laidMetH Tryz.prog Rows.fnBaseDoomedRow.laid W) : LayC W (fun _ => False) := by
  rw [MakeChecks.laidMetH_plain _ _ _ (by kernel_rfl)] at hL
  have h : laidMet Tryz.prog [("math/bits.deBruijn32tab", Rows.laid_math_bits_deBruijn32tab), ("math/bits.deBruijn64tab", Rows.laid_math_bits_deBruijn64tab), ("internal/strconv.uint64pow10", Rows.laid_internal_strconv_uint64pow10), ("strconv.ErrRange", Rows.laid_strconv_ErrRange), ("strconv.ErrSyntax", Rows.laid_strconv_ErrSyntax)] W := hL
  have k0 : Lib.TabIs Tryz.prog W "internal/strconv.uint64pow10" .u64 Lib.pow10Tab := by
    have h1 := h.tail.tail
    rw [show (Rows.laid_internal_strconv_uint64pow10 : DataW Unit) = Lib.tabData .u64 Lib.pow10Tab by kernel_rfl] at h1
    exact Lib.tabIs_of_head (g := 0) (by kernel_rfl) (by kernel_rfl) Tryz.underlying274 Tryz.underlying262 (by kernel_rfl) (by kernel_rfl) h1
  have v0 : ∃ cs E m, W.heap[0]? = some (.cells cs E m) ∧ cs = (Lib.pow10Tab.map fun z => Value.int .u64 z).toArray := by
    obtain ⟨E, m, hh⟩ := var_heap (by kernel_rfl) k0
    exact ⟨_, E, m, hh, rfl⟩
  obtain ⟨a1, s1, k1, -, -, -⟩ := laid_sentinel (g := 1) h.tail.tail.tail.tail (by kernel_rfl) (by kernel_rfl) Tryz.underlying235 rowE Tryz.underlying288 Tryz.underlying290 rfl rfl Tryz.underlying9 (by kernel_rfl) (by kernel_rfl)
  have v1 : ∃ cs E m, W.heap[1]? = some (.cells cs E m) ∧ ∃ tp p, cs = #[.iface tp p] := by
    obtain ⟨E, m, hh⟩ := var_heap (by kernel_rfl) k1
    exact ⟨_, E, m, hh, _, _, rfl⟩
  obtain ⟨a2, s2, k2, -, -, -⟩ := laid_sentinel (g := 2) h.tail.tail.tail (by kernel_rfl) (by kernel_rfl) Tryz.underlying235 rowE Tryz.underlying288 Tryz.underlying290 rfl rfl Tryz.underlying9 (by kernel_rfl) (by kernel_rfl)
  have v2 : ∃ cs E m, W.heap[2]? = some (.cells cs E m) ∧ ∃ tp p, cs = #[.iface tp p] := by
    obtain ⟨E, m, hh⟩ := var_heap (by kernel_rfl) k2
    exact ⟨_, E, m, hh, _, _, rfl⟩
  intro x hx
  rcases List.mem_cons.1 hx with rfl | hx
  · exact ⟨id, v0⟩
  rcases List.mem_cons.1 hx with rfl | hx
  · exact ⟨id, v1⟩
  rcases List.mem_cons.1 hx with rfl | hx
  · exact ⟨id, v2⟩
  cases hx
set_option maxRecDepth 100000 in
theorem fnBaseDoomed_lifted (os : Os) (started : os.Started) (H : Type) (enc : TypeId × Value → H) :
    ReturnsInHanded {} Tryz.checked os 8 .any (fun w args => (Rows.fnBaseDoomedSpec.pre enc Tryz.prog Tryz.f8 Rows.fnBaseDoomedRow.domain false w args ∧ laidMetH Tryz.prog Rows.fnBaseDoomedRow.laid w) ∧ sizedMet enc Tryz.prog Tryz.f8 (OpenSpec.ofChange Rows.fnBaseDoomedSpec) false w args)
      (Rows.fnBaseDoomedSpec.post enc Tryz.prog Tryz.f8 false true false false) := by
  refine returnsInHanded_of_change_and (C := Tryz.checked) (X := fun w _ => laidMetH Tryz.prog Rows.fnBaseDoomedRow.laid w) (fun _ _ _ hh h => h.of_heap hh) fnBaseDoomed_own started (by kernel_rfl) Tryz.func8
    (ChangeSpec.witness_shaped (enc := enc) (C := Tryz.checked) (os := os) (X := fun w _ => laidMetH Tryz.prog Rows.fnBaseDoomedRow.laid w) false (World.doorLaid Tryz.prog 400 os) #[.slice none 0 0] 8 rfl (World.shaped_of_RefB (by kernel_rfl) (by kernel_rfl)) (by kernel_rfl) (by kernel_rfl) (by kernel_rfl) (fnBaseDoomed_door os _)) ?_
  intro W base args ds gs before hval hW _ _ hL _
  refine law_calls (m := 8) fnBaseDoomed_laidOut (tb := 4) rfl Tryz.underlying4 ?_ rfl ?_ ?_ W (fnBaseDoomed_lay hL) base args ds gs before hval hW
  · have h : (Tryz.f8.params.toList.all fun t => (Tryz.prog.readableRec t && Nat.blt t Tryz.prog.types.size && plainT Tryz.prog 8 t)) = true := by kernel_rfl
    rw [List.all_eq_true] at h
    exact h
  · intro ds hd
    match ds, hd with
    | [d1], _ => rfl
  · skip
    intro ls0 h0
    obtain ⟨a, rfl, la, oa⟩ := wt_bytes h0
    exact c_FnBaseDoomed la oa
theorem fnBaseDoomed_c0 : Rows.fnBaseDoomedRow.wf (OpenSpec.ofChange Rows.fnBaseDoomedSpec) = true := by kernel_rfl
theorem fnBaseDoomed_c1 : laidOutB Tryz.prog = true := by kernel_rfl
theorem fnBaseDoomed_c2 : mapsRowed Tryz.prog = true := by kernel_rfl
theorem fnBaseDoomed_c3 : Tryz.f8.params.all (Tryz.prog.readableRec ·) = true := by kernel_rfl
theorem fnBaseDoomed_c4 : (Rows.fnBaseDoomedRow.inPlace == Tryz.prog.inPlace 8) = true := by kernel_rfl
theorem fnBaseDoomed_c5 : (Rows.fnBaseDoomedRow.unfollowed == Tryz.prog.unfollowed 8) = true := by kernel_rfl
theorem fnBaseDoomed_c6 : (Rows.fnBaseDoomedRow.recurses == Tryz.prog.recurses 8) = true := by kernel_rfl
theorem fnBaseDoomed_c7 : (Rows.fnBaseDoomedRow.named == Tryz.prog.varsNamed 8) = true := by kernel_rfl
theorem fnBaseDoomed_c8 : (Rows.fnBaseDoomedRow.maps == (Tryz.f8.params.toList ++ Rows.fnBaseDoomedSpec.plain.varTypes Tryz.prog).any (Tryz.prog.mapsRec ·)) = true := by kernel_rfl
theorem fnBaseDoomed_c9 : (Rows.fnBaseDoomedRow.ifaces == (Tryz.f8.params.toList ++ Rows.fnBaseDoomedSpec.plain.varTypes Tryz.prog).any (Tryz.prog.ifacesRec ·)) = true := by kernel_rfl
theorem fnBaseDoomed_c10 : (Rows.fnBaseDoomedRow.loops == (Tryz.f8.params.toList ++ Rows.fnBaseDoomedSpec.plain.varTypes Tryz.prog).any (Tryz.prog.loopsFrom ·)) = true := by kernel_rfl
theorem fnBaseDoomed_c11 : (Rows.fnBaseDoomedRow.wideKeys == (Tryz.f8.params.toList ++ Rows.fnBaseDoomedSpec.plain.varTypes Tryz.prog ++ Tryz.f8.resultTypes.toList).any (Tryz.prog.wideKeysFrom ·)) = true := by kernel_rfl
theorem fnBaseDoomed_c12 : (Rows.fnBaseDoomedRow.plainKeys == Tryz.prog.plainKeys) = true := by kernel_rfl
theorem fnBaseDoomed_c13 : Tryz.prog.stopsHeard = true := by kernel_rfl
theorem fnBaseDoomed_c14 : Tryz.prog.mayEnter = true := by kernel_rfl
theorem fnBaseDoomed_c15 : (Rows.fnBaseDoomedRow.lifted == Tryz.prog.liftsFinal) = true := by kernel_rfl
theorem fnBaseDoomed_c16 : (Tryz.prog.make == some Rows.fnBaseDoomedRow.make) = true := by kernel_rfl
theorem fnBaseDoomed_c17 : (Rows.fnBaseDoomedRow.veiled == (Tryz.f8.params.toList ++ Rows.fnBaseDoomedSpec.plain.varTypes Tryz.prog ++ Tryz.f8.resultTypes.toList).any (Tryz.prog.veiledRec ·)) = true := by kernel_rfl
theorem fnBaseDoomed_closed : joinedFacts Tryz.prog 8 Tryz.f8 Rows.fnBaseDoomedSpec Rows.fnBaseDoomedRow = true := by
  unfold joinedFacts
  rw [fnBaseDoomed_c0, fnBaseDoomed_c1, fnBaseDoomed_c2, fnBaseDoomed_c3, fnBaseDoomed_c4, fnBaseDoomed_c5, fnBaseDoomed_c6, fnBaseDoomed_c7, fnBaseDoomed_c8, fnBaseDoomed_c9, fnBaseDoomed_c10, fnBaseDoomed_c11, fnBaseDoomed_c12, fnBaseDoomed_c13, fnBaseDoomed_c14, fnBaseDoomed_c15, fnBaseDoomed_c16, fnBaseDoomed_c17]
  kernel_rfl
theorem fnBaseDoomed_row : Rows.FnBaseDoomedSaid :=
  OpenClaim.holds_of_wide 8 Tryz.f8 rfl rfl rfl rfl rfl rfl rfl ⟨rfl, rfl, rfl, rfl, rfl⟩ rfl rfl rfl rfl rfl (by as_aux_lemma => kernel_rfl) Tryz.func8 fnBaseDoomed_closed
    (of_decide_eq_true (by as_aux_lemma => kernel_rfl)) (by unfold Func.isWrapper; first | (rw [if_pos (by decide +kernel)]; kernel_rfl) | (rw [if_neg (by decide +kernel)]; exact ⟨rfl, rfl⟩))
    (fun os started H enc _ => fnBaseDoomed_lifted os started H enc)
theorem fnBaseDoomed_holds : Rows.FnBaseDoomedCardSaid :=
  Claim7.holds_tied_plain_at .later [] [.data, .data, .data, .sentinel, .sentinel] true (true, "1eb37b6cd1e508e17d775fdd66bb4d2638385bfc1f619e1145f2e09b3b5f18a4") true
    fnBaseDoomed_row (fun _ h => by cases h) (by as_aux_lemma => kernel_rfl) (fun _ h => by cases h) fnBaseDoomed_row_tie rfl ⟨rfl, rfl⟩ (by as_aux_lemma => kernel_rfl) rfl
    (fun f fn hf hfn => by
      obtain rfl : f = 8 := Option.some.inj ((show Tryz.prog.funcNamed "loop.example/custumal/laws.FnBaseDoomed" = some 8 by kernel_rfl).symm.trans hf) |>.symm
      obtain rfl : fn = Tryz.f8 := (Option.some.inj (Tryz.func8.symm.trans hfn)).symm
      exact ⟨by as_aux_lemma => kernel_rfl, fun j t ht => by
        have hm : t ∈ Tryz.f8.params.toList := by simpa using Array.mem_of_getElem? ht
        have hall : (Tryz.f8.params.toList.all fun u => !Tryz.prog.wantsStandIn u) = true := by as_aux_lemma => kernel_rfl
        exact (show Tryz.prog.wantsStandIn t = false by simpa using List.all_eq_true.1 hall t hm)⟩)
    (by as_aux_lemma => kernel_rfl)
#print axioms fnBaseDoomed_holds
end Go.Proofs.YtdijjjgplhbkkaaGreatDoor

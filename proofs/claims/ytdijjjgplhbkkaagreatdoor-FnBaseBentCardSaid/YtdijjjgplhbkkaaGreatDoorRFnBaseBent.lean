/- For every input laws.FnBaseBent returns true and leaves its arguments as they were: the row, and its card, whose package-level variables are tied to the program's text. No condition beyond the row's own. -/
import Derived.Test.YtdijjjgplhbkkaaGreatDoorRows
import Derived.Test.YtdijjjgplhbkkaaGreatDoorCards
import Derived.Test.YtdijjjgplhbkkaaGreatDoorTie
import Derived.Test.YtdijjjgplhbkkaaGreatDoorJEa
import Derived.Test.YtdijjjgplhbkkaaGreatDoorJEb
import Derived.Test.YtdijjjgplhbkkaaGreatDoorJEc
import Derived.Test.YtdijjjgplhbkkaaGreatDoorJEd
import Derived.Test.YtdijjjgplhbkkaaGreatDoorJEe
import Derived.Test.YtdijjjgplhbkkaaGreatDoorJEf
import Derived.Test.YtdijjjgplhbkkaaGreatDoorJEg
import Derived.Test.YtdijjjgplhbkkaaGreatDoorJEh
import Derived.Test.YtdijjjgplhbkkaaGreatDoorJEi
import Derived.Test.YtdijjjgplhbkkaaGreatDoorJEj
import Derived.Test.YtdijjjgplhbkkaaGreatDoorJEk
import Derived.Test.YtdijjjgplhbkkaaGreatDoorJEl
import Derived.Test.YtdijjjgplhbkkaaGreatDoorJEm
import Derived.Test.YtdijjjgplhbkkaaGreatDoorJEn
import Derived.Test.YtdijjjgplhbkkaaGreatDoorJEo
import Derived.Test.YtdijjjgplhbkkaaGreatDoorJEp
import Derived.Test.YtdijjjgplhbkkaaGreatDoorJEq
import Derived.Test.YtdijjjgplhbkkaaGreatDoorJEr
import Derived.ProofKit
import Derived.LaidMore
import Derived.Stop.Joined
import Derived.Stop.LaidErr
import Derived.Lib.LaidTab
import Derived.SevenTiedAt
namespace Go.Proofs.YtdijjjgplhbkkaaGreatDoor
open Go Go.RowKit Go.ChangeShapes Go.WideShapes Go.ChangeAt Go.Vl
theorem fnBaseBent_own : ownKnob Tryz.prog.godebug = none := by kernel_rfl
theorem fnBaseBent_laidOut : laidOutB Tryz.prog = true := by kernel_rfl
theorem fnBaseBent_door (os : Os) (args : Array Value) : laidMetH Tryz.prog Rows.fnBaseBentRow.laid ((World.doorLaid Tryz.prog 400 os).forCall (fun _ _ => 0) ⟨#[], args, []⟩).memory :=
  laidMetH_of_parts3 (fuel := 8) (laidMet_of_run' 8 (by kernel_rfl) (by kernel_rfl)) (by kernel_rfl) (by kernel_rfl)
theorem var_heap {W : World} {n : String} {g : Nat} {cs : Array Value} (hg : Tryz.prog.globalNamed n = some g) (h : W.var? Tryz.prog n = some cs) : ∃ E m, W.heap[g]? = some (.cells cs E m) := by
  unfold World.var? at h
  rw [hg] at h
  simp only [Option.bind_some] at h
  split at h
  · rename_i c E m e
    cases h
    exact ⟨E, m, e⟩
  · cases h
theorem starE : "*" ++ "errors.errorString" = "*errors.errorString" := by decide
theorem rowE (u : TypeId) (h : Tryz.prog.typeName? 3 u = some "*errors.errorString") : u = 288 :=
  typeName_ptr_named (nm := "errors.errorString") (by rw [starE]; kernel_rfl) (by kernel_rfl) (by decide) u (by rw [starE]; exact h)
theorem fnBaseBent_lay {W : World} (hL : laidMetH Tryz.prog Rows.fnBaseBentRow.laid W) : LayC W (fun _ => False) := by
  rw [MakeChecks.laidMetH_plain _ _ _ (by kernel_rfl)] at hL
  have h : laidMet Tryz.prog [("math/bits.deBruijn32tab", Rows.laid_math_bits_deBruijn32tab), ("math/bits.deBruijn64tab", Rows.laid_math_bits_deBruijn64tab), ("internal/strconv.uint64pow10", Rows.laid_internal_strconv_uint64pow10), ("strconv.ErrRange", Rows.laid_strconv_ErrRange), ("strconv.ErrSyntax", Rows.laid_strconv_ErrSyntax)] W := hL
  have k0 : Lib.TabIs Tryz.prog W "internal/strconv.uint64pow10" .u64 Lib.pow10Tab := by
    have h1 := h.tail.tail
    rw [show (Rows.laid_internal_strconv_uint64pow10 : DataW Unit) = Lib.tabData .u64 Lib.pow10Tab by kernel_rfl] at h1
    exact Lib.tabIs_of_head (g := 0) (by kernel_rfl) (by kernel_rfl) Tryz.underlying274 Tryz.underlying262 (by kernel_rfl) (by kernel_rfl) h1
  have v0 : ∃ cs E m, W.heap[0]? = some (.cells cs E m) ∧ cs = (Lib.pow10Tab.map fun z => Value.int .u64 z).toArray := by
    obtain ⟨E, m, hh⟩ := var_heap (by kernel_rfl) k0
    exact ⟨_, E, m, hh, rfl⟩
  obtain ⟨a1, s1, k1, -, -, -⟩ := laid_sentinel (g := 1) h.tail.tail.tail.tail (by kernel_rfl) (by kernel_rfl) Tryz.underlying235 rowE Tryz.underlying288 Tryz.underlying290 rfl rfl Tryz.underlying9 (by kernel_rfl) (by kernel_rfl)
  have v1 : ∃ cs E m, W.heap[1]? = some (.cells cs E m) ∧ ∃ tp p, cs = #[.iface tp p] := by
    obtain ⟨E, m, hh⟩ := var_heap (by kernel_rfl) k1
    exact ⟨_, E, m, hh, _, _, rfl⟩
  obtain ⟨a2, s2, k2, -, -, -⟩ := laid_sentinel (g := 2) h.tail.tail.tail (by kernel_rfl) (by kernel_rfl) Tryz.underlying235 rowE Tryz.underlying288 Tryz.underlying290 rfl rfl Tryz.underlying9 (by kernel_rfl) (by kernel_rfl)
  have v2 : ∃ cs E m, W.heap[2]? = some (.cells cs E m) ∧ ∃ tp p, cs = #[.iface tp p] := by
    obtain ⟨E, m, hh⟩ := var_heap (by kernel_rfl) k2
    exact ⟨_, E, m, hh, _, _, rfl⟩
  intro x hx
  rcases List.mem_cons.1 hx with rfl | hx
  · exact ⟨id, v0⟩
  rcases List.mem_cons.1 hx with rfl | hx
  · exact ⟨id, v1⟩
  rcases List.mem_cons.1 hx with rfl | hx
  · exact ⟨id, v2⟩
  cases hx
set_option maxRecDepth 100000 in
theorem fnBaseBent_lifted (os : Os) (started : os.Started) (H : Type) (enc : TypeId × Value → H) :
    ReturnsInHanded {} Tryz.checked os 9 .any (fun w args => (Rows.fnBaseBentSpec.pre enc Tryz.prog Tryz.f9 Rows.fnBaseBentRow.domain false w args ∧ laidMetH Tryz.prog Rows.fnBaseBentRow.laid w) ∧ sizedMet enc Tryz.prog Tryz.f9 (OpenSpec.ofChange Rows.fnBaseBentSpec) false w args)
      (Rows.fnBaseBentSpec.post enc Tryz.prog Tryz.f9 false true false false) := by
  refine returnsInHanded_of_change_and (C := Tryz.checked) (X := fun w _ => laidMetH Tryz.prog Rows.fnBaseBentRow.laid w) (fun _ _ _ hh h => h.of_heap hh) fnBaseBent_own started (by kernel_rfl) Tryz.func9
    (ChangeSpec.witness_shaped (enc := enc) (C := Tryz.checked) (os := os) (X := fun w _ => laidMetH Tryz.prog Rows.fnBaseBentRow.laid w) false (World.doorLaid Tryz.prog 400 os) #[.slice none 0 0] 8 rfl (World.shaped_of_RefB (by kernel_rfl) (by kernel_rfl)) (by kernel_rfl) (by kernel_rfl) (by kernel_rfl) (fnBaseBent_door os _)) ?_
  intro W base args ds gs before hval hW _ _ hL _
  refine law_calls (m := 8) fnBaseBent_laidOut (tb := 4) rfl Tryz.underlying4 ?_ rfl ?_ ?_ W (fnBaseBent_lay hL) base args ds gs before hval hW
  · have h : (Tryz.f9.params.toList.all fun t => (Tryz.prog.readableRec t && Nat.blt t Tryz.prog.types.size && plainT Tryz.prog 8 t)) = true := by kernel_rfl
    rw [List.all_eq_true] at h
    exact h
  · intro ds hd
    match ds, hd with
    | [d1], _ => rfl
  · skip
    intro ls0 h0
    obtain ⟨a, rfl, la, oa⟩ := wt_bytes h0
    exact c_FnBaseBent la oa
theorem fnBaseBent_c0 : Rows.fnBaseBentRow.wf (OpenSpec.ofChange Rows.fnBaseBentSpec) = true := by kernel_rfl
theorem fnBaseBent_c1 : laidOutB Tryz.prog = true := by kernel_rfl
theorem fnBaseBent_c2 : mapsRowed Tryz.prog = true := by kernel_rfl
theorem fnBaseBent_c3 : Tryz.f9.params.all (Tryz.prog.readableRec ·) = true := by kernel_rfl
theorem fnBaseBent_c4 : (Rows.fnBaseBentRow.inPlace == Tryz.prog.inPlace 9) = true := by kernel_rfl
theorem fnBaseBent_c5 : (Rows.fnBaseBentRow.unfollowed == Tryz.prog.unfollowed 9) = true := by kernel_rfl
theorem fnBaseBent_c6 : (Rows.fnBaseBentRow.recurses == Tryz.prog.recurses 9) = true := by kernel_rfl
theorem fnBaseBent_c7 : (Rows.fnBaseBentRow.named == Tryz.prog.varsNamed 9) = true := by kernel_rfl
theorem fnBaseBent_c8 : (Rows.fnBaseBentRow.maps == (Tryz.f9.params.toList ++ Rows.fnBaseBentSpec.plain.varTypes Tryz.prog).any (Tryz.prog.mapsRec ·)) = true := by kernel_rfl
theorem fnBaseBent_c9 : (Rows.fnBaseBentRow.ifaces == (Tryz.f9.params.toList ++ Rows.fnBaseBentSpec.plain.varTypes Tryz.prog).any (Tryz.prog.ifacesRec ·)) = true := by kernel_rfl
theorem fnBaseBent_c10 : (Rows.fnBaseBentRow.loops == (Tryz.f9.params.toList ++ Rows.fnBaseBentSpec.plain.varTypes Tryz.prog).any (Tryz.prog.loopsFrom ·)) = true := by kernel_rfl
theorem fnBaseBent_c11 : (Rows.fnBaseBentRow.wideKeys == (Tryz.f9.params.toList ++ Rows.fnBaseBentSpec.plain.varTypes Tryz.prog ++ Tryz.f9.resultTypes.toList).any (Tryz.prog.wideKeysFrom ·)) = true := by kernel_rfl
theorem fnBaseBent_c12 : (Rows.fnBaseBentRow.plainKeys == Tryz.prog.plainKeys) = true := by kernel_rfl
theorem fnBaseBent_c13 : Tryz.prog.stopsHeard = true := by kernel_rfl
theorem fnBaseBent_c14 : Tryz.prog.mayEnter = true := by kernel_rfl
theorem fnBaseBent_c15 : (Rows.fnBaseBentRow.lifted == Tryz.prog.liftsFinal) = true := by kernel_rfl
theorem fnBaseBent_c16 : (Tryz.prog.make == some Rows.fnBaseBentRow.make) = true := by kernel_rfl
theorem fnBaseBent_c17 : (Rows.fnBaseBentRow.veiled == (Tryz.f9.params.toList ++ Rows.fnBaseBentSpec.plain.varTypes Tryz.prog ++ Tryz.f9.resultTypes.toList).any (Tryz.prog.veiledRec ·)) = true := by kernel_rfl
theorem fnBaseBent_closed : joinedFacts Tryz.prog 9 Tryz.f9 Rows.fnBaseBentSpec Rows.fnBaseBentRow = true := by
  unfold joinedFacts
  rw [fnBaseBent_c0, fnBaseBent_c1, fnBaseBent_c2, fnBaseBent_c3, fnBaseBent_c4, fnBaseBent_c5, fnBaseBent_c6, fnBaseBent_c7, fnBaseBent_c8, fnBaseBent_c9, fnBaseBent_c10, fnBaseBent_c11, fnBaseBent_c12, fnBaseBent_c13, fnBaseBent_c14, fnBaseBent_c15, fnBaseBent_c16, fnBaseBent_c17]
  kernel_rfl
theorem fnBaseBent_row : Rows.FnBaseBentSaid :=
  OpenClaim.holds_of_wide 9 Tryz.f9 rfl rfl rfl rfl rfl rfl rfl ⟨rfl, rfl, rfl, rfl, rfl⟩ rfl rfl rfl rfl rfl (by as_aux_lemma => kernel_rfl) Tryz.func9 fnBaseBent_closed
    (of_decide_eq_true (by as_aux_lemma => kernel_rfl)) (by unfold Func.isWrapper; first | (rw [if_pos (by decide +kernel)]; kernel_rfl) | (rw [if_neg (by decide +kernel)]; exact ⟨rfl, rfl⟩))
    (fun os started H enc _ => fnBaseBent_lifted os started H enc)
theorem fnBaseBent_holds : Rows.FnBaseBentCardSaid :=
  Claim7.holds_tied_plain_at .later [] [.data, .data, .data, .sentinel, .sentinel] true (true, "1eb37b6cd1e508e17d775fdd66bb4d2638385bfc1f619e1145f2e09b3b5f18a4") true
    fnBaseBent_row (fun _ h => by cases h) (by as_aux_lemma => kernel_rfl) (fun _ h => by cases h) fnBaseBent_row_tie rfl ⟨rfl, rfl⟩ (by as_aux_lemma => kernel_rfl) rfl
    (fun f fn hf hfn => by
      obtain rfl : f = 9 := Option.some.inj ((show Tryz.prog.funcNamed "loop.example/custumal/laws.FnBaseBent" = some 9 by kernel_rfl).symm.trans hf) |>.symm
      obtain rfl : fn = Tryz.f9 := (Option.some.inj (Tryz.func9.symm.trans hfn)).symm
      exact ⟨by as_aux_lemma => kernel_rfl, fun j t ht => by
        have hm : t ∈ Tryz.f9.params.toList := by simpa using Array.mem_of_getElem? ht
        have hall : (Tryz.f9.params.toList.all fun u => !Tryz.prog.wantsStandIn u) = true := by as_aux_lemma => kernel_rfl
        exact (show Tryz.prog.wantsStandIn t = false by simpa using List.all_eq_true.1 hall t hm)⟩)
    (by as_aux_lemma => kernel_rfl)
#print axioms fnBaseBent_holds
end Go.Proofs.YtdijjjgplhbkkaaGreatDoor

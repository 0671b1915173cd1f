/- For every input laws.FnTableBent returns true and leaves its arguments as they were: the row, and its card, whose package-level variables are tied to the program's text. No condition beyond the row's own. -/
import Derived.Test.YtdijjjgplhbkkaaGreatDoorRows
import Derived.Test.YtdijjjgplhbkkaaGreatDoorCards
import Derived.Test.YtdijjjgplhbkkaaGreatDoorTie
import Derived.Test.YtdijjjgplhbkkaaGreatDoorJUa
import Derived.Test.YtdijjjgplhbkkaaGreatDoorJUb
import Derived.Test.YtdijjjgplhbkkaaGreatDoorJUc
import Derived.Test.YtdijjjgplhbkkaaGreatDoorJUd
import Derived.Test.YtdijjjgplhbkkaaGreatDoorJUe
import Derived.Test.YtdijjjgplhbkkaaGreatDoorJUf
import Derived.Test.YtdijjjgplhbkkaaGreatDoorJUg
import Derived.Test.YtdijjjgplhbkkaaGreatDoorJUh
import Derived.Test.YtdijjjgplhbkkaaGreatDoorJUi
import Derived.Test.YtdijjjgplhbkkaaGreatDoorJUj
import Derived.Test.YtdijjjgplhbkkaaGreatDoorJUk
import Derived.Test.YtdijjjgplhbkkaaGreatDoorJUl
import Derived.Test.YtdijjjgplhbkkaaGreatDoorJUm
import Derived.Test.YtdijjjgplhbkkaaGreatDoorJUn
import Derived.Test.YtdijjjgplhbkkaaGreatDoorJUo
import Derived.Test.YtdijjjgplhbkkaaGreatDoorJUp
import Derived.Test.YtdijjjgplhbkkaaGreatDoorJUq
import Derived.Test.YtdijjjgplhbkkaaGreatDoorJUr
import Derived.ProofKit
import Derived.LaidMore
import Derived.Stop.Joined
import Derived.Stop.LaidErr
import Derived.Lib.LaidTab
import Derived.SevenTiedAt
namespace Go.Proofs.YtdijjjgplhbkkaaGreatDoor
open Go Go.RowKit Go.ChangeShapes Go.WideShapes Go.ChangeAt Go.Vl
theorem fnTableBent_own : ownKnob Tryz.prog.godebug = none := by kernel_rfl
theorem fnTableBent_laidOut : laidOutB Tryz.prog = true := by kernel_rfl
theorem fnTableBent_door (os : Os) (args : Array Value) : laidMetH Tryz.prog Rows.fnTableBentRow.laid ((World.doorLaid Tryz.prog 400 os).forCall (fun _ _ => 0) ⟨#[], args, []⟩).memory :=
  laidMetH_of_parts3 (fuel := 8) (laidMet_of_run' 8 (by kernel_rfl) (by kernel_rfl)) (by kernel_rfl) (by kernel_rfl)
theorem var_heap {W : World} {n : String} {g : Nat} {cs : Array Value} (hg : Tryz.prog.globalNamed n = some g) (h : W.var? Tryz.prog n = some cs) : ∃ E m, W.heap[g]? = some (.cells cs E m) := by
  unfold World.var? at h
  rw [hg] at h
  simp only [Option.bind_some] at h
  split at h
  · rename_i c E m e
    cases h
    exact ⟨E, m, e⟩
  · cases h
theorem starE : "*" ++ "errors.errorString" = "*errors.errorString" := by decide
theorem rowE (u : TypeId) (h : Tryz.prog.typeName? 3 u = some "*errors.errorString") : u = 288 :=
  typeName_ptr_named (nm := "errors.errorString") (by rw [starE]; kernel_rfl) (by kernel_rfl) (by decide) u (by rw [starE]; exact h)
theorem fnTableBent_lay {W : World} (hL : laidMetH Tryz.prog Rows.fnTableBentRow.laid W) : LayC W (fun _ => False) := by
  rw [MakeChecks.laidMetH_plain _ _ _ (by kernel_rfl)] at hL
  have h : laidMet Tryz.prog [("math/bits.deBruijn32tab", Rows.laid_math_bits_deBruijn32tab), ("math/bits.deBruijn64tab", Rows.laid_math_bits_deBruijn64tab), ("internal/strconv.uint64pow10", Rows.laid_internal_strconv_uint64pow10), ("strconv.ErrRange", Rows.laid_strconv_ErrRange), ("strconv.ErrSyntax", Rows.laid_strconv_ErrSyntax)] W := hL
  have k0 : Lib.TabIs Tryz.prog W "internal/strconv.uint64pow10" .u64 Lib.pow10Tab := by
    have h1 := h.tail.tail
    rw [show (Rows.laid_internal_strconv_uint64pow10 : DataW Unit) = Lib.tabData .u64 Lib.pow10Tab by kernel_rfl] at h1
    exact Lib.tabIs_of_head (g := 0) (by kernel_rfl) (by kernel_rfl) Tryz.underlying274 Tryz.underlying262 (by kernel_rfl) (by kernel_rfl) h1
  have v0 : ∃ cs E m, W.heap[0]? = some (.cells cs E m) ∧ cs = (Lib.pow10Tab.map fun z => Value.int .u64 z).toArray := by
    obtain ⟨E, m, hh⟩ := var_heap (by kernel_rfl) k0
    exact ⟨_, E, m, hh, rfl⟩
  obtain ⟨a1, s1, k1, -, -, -⟩ := laid_sentinel (g := 1) h.tail.tail.tail.tail (by kernel_rfl) (by kernel_rfl) Tryz.underlying235 rowE Tryz.underlying288 Tryz.underlying290 rfl rfl Tryz.underlying9 (by kernel_rfl) (by kernel_rfl)
  have v1 : ∃ cs E m, W.heap[1]? = some (.cells cs E m) ∧ ∃ tp p, cs = #[.iface tp p] := by
    obtain ⟨E, m, hh⟩ := var_heap (by kernel_rfl) k1
    exact ⟨_, E, m, hh, _, _, rfl⟩
  obtain ⟨a2, s2, k2, -, -, -⟩ := laid_sentinel (g := 2) h.tail.tail.tail (by kernel_rfl) (by kernel_rfl) Tryz.underlying235 rowE Tryz.underlying288 Tryz.underlying290 rfl rfl Tryz.underlying9 (by kernel_rfl) (by kernel_rfl)
  have v2 : ∃ cs E m, W.heap[2]? = some (.cells cs E m) ∧ ∃ tp p, cs = #[.iface tp p] := by
    obtain ⟨E, m, hh⟩ := var_heap (by kernel_rfl) k2
    exact ⟨_, E, m, hh, _, _, rfl⟩
  intro x hx
  rcases List.mem_cons.1 hx with rfl | hx
  · exact ⟨id, v0⟩
  rcases List.mem_cons.1 hx with rfl | hx
  · exact ⟨id, v1⟩
  rcases List.mem_cons.1 hx with rfl | hx
  · exact ⟨id, v2⟩
  cases hx
set_option maxRecDepth 100000 in
theorem fnTableBent_lifted (os : Os) (started : os.Started) (H : Type) (enc : TypeId × Value → H) :
    ReturnsInHanded {} Tryz.checked os 5 .any (fun w args => (Rows.fnTableBentSpec.pre enc Tryz.prog Tryz.f5 Rows.fnTableBentRow.domain false w args ∧ laidMetH Tryz.prog Rows.fnTableBentRow.laid w) ∧ sizedMet enc Tryz.prog Tryz.f5 (OpenSpec.ofChange Rows.fnTableBentSpec) false w args)
      (Rows.fnTableBentSpec.post enc Tryz.prog Tryz.f5 false true false false) := by
  refine returnsInHanded_of_change_and (C := Tryz.checked) (X := fun w _ => laidMetH Tryz.prog Rows.fnTableBentRow.laid w) (fun _ _ _ hh h => h.of_heap hh) fnTableBent_own started (by kernel_rfl) Tryz.func5
    (ChangeSpec.witness_shaped (enc := enc) (C := Tryz.checked) (os := os) (X := fun w _ => laidMetH Tryz.prog Rows.fnTableBentRow.laid w) false (World.doorLaid Tryz.prog 400 os) #[.slice none 0 0] 8 rfl (World.shaped_of_RefB (by kernel_rfl) (by kernel_rfl)) (by kernel_rfl) (by kernel_rfl) (by kernel_rfl) (fnTableBent_door os _)) ?_
  intro W base args ds gs before hval hW _ _ hL _
  refine law_calls (m := 8) fnTableBent_laidOut (tb := 4) rfl Tryz.underlying4 ?_ rfl ?_ ?_ W (fnTableBent_lay hL) base args ds gs before hval hW
  · have h : (Tryz.f5.params.toList.all fun t => (Tryz.prog.readableRec t && Nat.blt t Tryz.prog.types.size && plainT Tryz.prog 8 t)) = true := by kernel_rfl
    rw [List.all_eq_true] at h
    exact h
  · intro ds hd
    match ds, hd with
    | [d1], _ => rfl
  · skip
    intro ls0 h0
    obtain ⟨a, rfl, la, oa⟩ := wt_bytes h0
    exact c_FnTableBent la oa
theorem fnTableBent_c0 : Rows.fnTableBentRow.wf (OpenSpec.ofChange Rows.fnTableBentSpec) = true := by kernel_rfl
theorem fnTableBent_c1 : laidOutB Tryz.prog = true := by kernel_rfl
theorem fnTableBent_c2 : mapsRowed Tryz.prog = true := by kernel_rfl
theorem fnTableBent_c3 : Tryz.f5.params.all (Tryz.prog.readableRec ·) = true := by kernel_rfl
theorem fnTableBent_c4 : (Rows.fnTableBentRow.inPlace == Tryz.prog.inPlace 5) = true := by kernel_rfl
theorem fnTableBent_c5 : (Rows.fnTableBentRow.unfollowed == Tryz.prog.unfollowed 5) = true := by kernel_rfl
theorem fnTableBent_c6 : (Rows.fnTableBentRow.recurses == Tryz.prog.recurses 5) = true := by kernel_rfl
theorem fnTableBent_c7 : (Rows.fnTableBentRow.named == Tryz.prog.varsNamed 5) = true := by kernel_rfl
theorem fnTableBent_c8 : (Rows.fnTableBentRow.maps == (Tryz.f5.params.toList ++ Rows.fnTableBentSpec.plain.varTypes Tryz.prog).any (Tryz.prog.mapsRec ·)) = true := by kernel_rfl
theorem fnTableBent_c9 : (Rows.fnTableBentRow.ifaces == (Tryz.f5.params.toList ++ Rows.fnTableBentSpec.plain.varTypes Tryz.prog).any (Tryz.prog.ifacesRec ·)) = true := by kernel_rfl
theorem fnTableBent_c10 : (Rows.fnTableBentRow.loops == (Tryz.f5.params.toList ++ Rows.fnTableBentSpec.plain.varTypes Tryz.prog).any (Tryz.prog.loopsFrom ·)) = true := by kernel_rfl
theorem fnTableBent_c11 : (Rows.fnTableBentRow.wideKeys == (Tryz.f5.params.toList ++ Rows.fnTableBentSpec.plain.varTypes Tryz.prog ++ Tryz.f5.resultTypes.toList).any (Tryz.prog.wideKeysFrom ·)) = true := by kernel_rfl
theorem fnTableBent_c12 : (Rows.fnTableBentRow.plainKeys == Tryz.prog.plainKeys) = true := by kernel_rfl
theorem fnTableBent_c13 : Tryz.prog.stopsHeard = true := by kernel_rfl
theorem fnTableBent_c14 : Tryz.prog.mayEnter = true := by kernel_rfl
theorem fnTableBent_c15 : (Rows.fnTableBentRow.lifted == Tryz.prog.liftsFinal) = true := by kernel_rfl
theorem fnTableBent_c16 : (Tryz.prog.make == some Rows.fnTableBentRow.make) = true := by kernel_rfl
theorem fnTableBent_c17 : (Rows.fnTableBentRow.veiled == (Tryz.f5.params.toList ++ Rows.fnTableBentSpec.plain.varTypes Tryz.prog ++ Tryz.f5.resultTypes.toList).any (Tryz.prog.veiledRec ·)) = true := by kernel_rfl
theorem fnTableBent_closed : joinedFacts Tryz.prog 5 Tryz.f5 Rows.fnTableBentSpec Rows.fnTableBentRow = true := by
  unfold joinedFacts
  rw [fnTableBent_c0, fnTableBent_c1, fnTableBent_c2, fnTableBent_c3, fnTableBent_c4, fnTableBent_c5, fnTableBent_c6, fnTableBent_c7, fnTableBent_c8, fnTableBent_c9, fnTableBent_c10, fnTableBent_c11, fnTableBent_c12, fnTableBent_c13, fnTableBent_c14, fnTableBent_c15, fnTableBent_c16, fnTableBent_c17]
  kernel_rfl
theorem fnTableBent_row : Rows.FnTableBentSaid :=
  OpenClaim.holds_of_wide 5 Tryz.f5 rfl rfl rfl rfl rfl rfl rfl ⟨rfl, rfl, rfl, rfl, rfl⟩ rfl rfl rfl rfl rfl (by as_aux_lemma => kernel_rfl) Tryz.func5 fnTableBent_closed
    (of_decide_eq_true (by as_aux_lemma => kernel_rfl)) (by unfold Func.isWrapper; first | (rw [if_pos (by decide +kernel)]; kernel_rfl) | (rw [if_neg (by decide +kernel)]; exact ⟨rfl, rfl⟩))
    (fun os started H enc _ => fnTableBent_lifted os started H enc)
theorem fnTableBent_holds : Rows.FnTableBentCardSaid :=
  Claim7.holds_tied_plain_at .later [] [.data, .data, .data, .sentinel, .sentinel] true (true, "1eb37b6cd1e508e17d775fdd66bb4d2638385bfc1f619e1145f2e09b3b5f18a4") true
    fnTableBent_row (fun _ h => by cases h) (by as_aux_lemma => kernel_rfl) (fun _ h => by cases h) fnTableBent_row_tie rfl ⟨rfl, rfl⟩ (by as_aux_lemma => kernel_rfl) rfl
    (fun f fn hf hfn => by
      obtain rfl : f = 5 := Option.some.inj ((show Tryz.prog.funcNamed "loop.example/custumal/laws.FnTableBent" = some 5 by kernel_rfl).symm.trans hf) |>.symm
      obtain rfl : fn = Tryz.f5 := (Option.some.inj (Tryz.func5.symm.trans hfn)).symm
      exact ⟨by as_aux_lemma => kernel_rfl, fun j t ht => by
        have hm : t ∈ Tryz.f5.params.toList := by simpa using Array.mem_of_getElem? ht
        have hall : (Tryz.f5.params.toList.all fun u => !Tryz.prog.wantsStandIn u) = true := by as_aux_lemma => kernel_rfl
        exact (show Tryz.prog.wantsStandIn t = false by simpa using List.all_eq_true.1 hall t hm)⟩)
    (by as_aux_lemma => kernel_rfl)
#print axioms fnTableBent_holds
end Go.Proofs.YtdijjjgplhbkkaaGreatDoor

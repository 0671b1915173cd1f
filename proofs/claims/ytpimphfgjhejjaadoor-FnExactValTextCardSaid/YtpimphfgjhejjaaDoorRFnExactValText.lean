/- For every input laws.FnExactValText returns true and leaves its arguments as they were: the row, and its card, whose package-level variables are tied to the program's text. No condition beyond the row's own. -/
import Derived.Test.YtpimphfgjhejjaaDoorRows
import Derived.Test.YtpimphfgjhejjaaDoorCards
import Derived.Test.YtpimphfgjhejjaaDoorTie
import Derived.Test.YtpimphfgjhejjaaDoorT2
import Derived.Test.YtpimphfgjhejjaaDoorSc
import Derived.ProofKit
import Derived.LaidMore
import Derived.Stop.Joined
import Derived.Stop.LaidErr
import Derived.Lib.LaidTab
import Derived.SevenTiedAt
namespace Go.Proofs.YtpimphfgjhejjaaDoor
open Go Go.RowKit Go.ChangeShapes Go.WideShapes Go.ChangeAt Go.Vl
theorem fnExactValText_own : ownKnob Tryd.prog.godebug = none := by kernel_rfl
theorem fnExactValText_laidOut : laidOutB Tryd.prog = true := by kernel_rfl
theorem fnExactValText_door (os : Os) (args : Array Value) : laidMetH Tryd.prog Rows.fnExactValTextRow.laid ((World.doorLaid Tryd.prog 400 os).forCall (fun _ _ => 0) ⟨#[], args, []⟩).memory :=
  laidMetH_of_parts3 (fuel := 8) (laidMet_of_run' 8 (by kernel_rfl) (by kernel_rfl)) (by kernel_rfl) (by kernel_rfl)
theorem var_heap {W : World} {n : String} {g : Nat} {cs : Array Value} (hg : Tryd.prog.globalNamed n = some g) (h : W.var? Tryd.prog n = some cs) : ∃ E m, W.heap[g]? = some (.cells cs E m) := by
  unfold World.var? at h
  rw [hg] at h
  simp only [Option.bind_some] at h
  split at h
  · rename_i c E m e
    cases h
    exact ⟨E, m, e⟩
  · cases h
theorem fnExactValText_lay {W : World} (hL : laidMetH Tryd.prog Rows.fnExactValTextRow.laid W) : LayC W (fun _ => False) := by
  rw [MakeChecks.laidMetH_plain _ _ _ (by kernel_rfl)] at hL
  have h : laidMet Tryd.prog [("math/bits.deBruijn32tab", Rows.laid_math_bits_deBruijn32tab), ("math/bits.deBruijn64tab", Rows.laid_math_bits_deBruijn64tab), ("internal/strconv.uint64pow10", Rows.laid_internal_strconv_uint64pow10)] W := hL
  have k0 : Lib.TabIs Tryd.prog W "internal/strconv.uint64pow10" .u64 Lib.pow10Tab := by
    have h1 := h.tail.tail
    rw [show (Rows.laid_internal_strconv_uint64pow10 : DataW Unit) = Lib.tabData .u64 Lib.pow10Tab by kernel_rfl] at h1
    exact Lib.tabIs_of_head (g := 0) (by kernel_rfl) (by kernel_rfl) Tryd.underlying44 Tryd.underlying37 (by kernel_rfl) (by kernel_rfl) h1
  have v0 : ∃ cs E m, W.heap[0]? = some (.cells cs E m) ∧ cs = (Lib.pow10Tab.map fun z => Value.int .u64 z).toArray := by
    obtain ⟨E, m, hh⟩ := var_heap (by kernel_rfl) k0
    exact ⟨_, E, m, hh, rfl⟩
  intro x hx
  rcases List.mem_cons.1 hx with rfl | hx
  · exact ⟨id, v0⟩
  cases hx
set_option maxRecDepth 100000 in
theorem fnExactValText_lifted (os : Os) (started : os.Started) (H : Type) (enc : TypeId × Value → H) :
    ReturnsInHanded {} Tryd.checked os 3 .any (fun w args => (Rows.fnExactValTextSpec.pre enc Tryd.prog Tryd.f3 Rows.fnExactValTextRow.domain false w args ∧ laidMetH Tryd.prog Rows.fnExactValTextRow.laid w) ∧ sizedMet enc Tryd.prog Tryd.f3 (OpenSpec.ofChange Rows.fnExactValTextSpec) false w args)
      (Rows.fnExactValTextSpec.post enc Tryd.prog Tryd.f3 false true false false) := by
  refine returnsInHanded_of_change_and (C := Tryd.checked) (X := fun w _ => laidMetH Tryd.prog Rows.fnExactValTextRow.laid w) (fun _ _ _ hh h => h.of_heap hh) fnExactValText_own started (by kernel_rfl) Tryd.func3
    (ChangeSpec.witness_shaped (enc := enc) (C := Tryd.checked) (os := os) (X := fun w _ => laidMetH Tryd.prog Rows.fnExactValTextRow.laid w) false (World.doorLaid Tryd.prog 400 os) #[.agg #[.int .i64 0, .int .i64 0, .string ⟨#[]⟩]] 8 rfl (World.shaped_of_RefB (by kernel_rfl) (by kernel_rfl)) (by kernel_rfl) (by kernel_rfl) (by kernel_rfl) (fnExactValText_door os _)) ?_
  intro W base args ds gs before hval hW _ _ hL _
  refine law_calls (m := 8) fnExactValText_laidOut (tb := 4) rfl Tryd.underlying4 ?_ rfl ?_ ?_ W (fnExactValText_lay hL) base args ds gs before hval hW
  · have h : (Tryd.f3.params.toList.all fun t => (Tryd.prog.readableRec t && Nat.blt t Tryd.prog.types.size && plainT Tryd.prog 8 t)) = true := by kernel_rfl
    rw [List.all_eq_true] at h
    exact h
  · intro ds hd
    match ds, hd with
    | [d1], _ => rfl
  · skip
    intro ls0 h0
    obtain ⟨⟨k, n, t⟩, rfl, oa, ob⟩ := w_ValI h0
    exact c_FnExactValText k n t oa ob
theorem fnExactValText_row : Rows.FnExactValTextSaid :=
  OpenClaim.holds_of_wide 3 Tryd.f3 rfl rfl rfl rfl rfl rfl rfl ⟨rfl, rfl, rfl, rfl, rfl⟩ rfl rfl rfl rfl rfl (by kernel_rfl) Tryd.func3 (by kernel_rfl)
    (of_decide_eq_true (by kernel_rfl)) (by unfold Func.isWrapper; first | (rw [if_pos (by decide +kernel)]; kernel_rfl) | (rw [if_neg (by decide +kernel)]; exact ⟨rfl, rfl⟩))
    (fun os started H enc _ => fnExactValText_lifted os started H enc)
theorem fnExactValText_holds : Rows.FnExactValTextCardSaid :=
  Claim7.holds_tied_plain_at .later [] [.data, .data, .data] true (true, "e4fc5b019ad8b5b4e126bb4357402735baa0cc2eb3e77de084c1e045238e73f7") false
    fnExactValText_row (fun _ h => by cases h) (by kernel_rfl) (fun _ h => by cases h) fnExactValText_row_tie rfl ⟨rfl, rfl⟩ (by kernel_rfl) rfl
    (fun f fn hf hfn => by
      obtain rfl : f = 3 := Option.some.inj ((show Tryd.prog.funcNamed "loop.example/custumal/laws.FnExactValText" = some 3 by kernel_rfl).symm.trans hf) |>.symm
      obtain rfl : fn = Tryd.f3 := (Option.some.inj (Tryd.func3.symm.trans hfn)).symm
      exact ⟨by kernel_rfl, fun j t ht => by
        have hm : t ∈ Tryd.f3.params.toList := by simpa using Array.mem_of_getElem? ht
        have hall : (Tryd.f3.params.toList.all fun u => !Tryd.prog.wantsStandIn u) = true := by kernel_rfl
        exact (show Tryd.prog.wantsStandIn t = false by simpa using List.all_eq_true.1 hall t hm)⟩)
    (by kernel_rfl)
#print axioms fnExactValText_holds
end Go.Proofs.YtpimphfgjhejjaaDoor

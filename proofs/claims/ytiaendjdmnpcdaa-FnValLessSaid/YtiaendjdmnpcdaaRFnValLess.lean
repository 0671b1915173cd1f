/- For every input laws.FnValLess returns true and leaves its arguments as they were. No condition beyond the row's own. -/
import Derived.Test.YtiaendjdmnpcdaaRows
import Derived.Test.YtiaendjdmnpcdaaTb
import Derived.Test.YtiaendjdmnpcdaaDc
namespace Go.Proofs.Ytiaendjdmnpcdaa
open Go Go.RowKit Go.ChangeShapes Go.WideShapes Go.ChangeAt Go.Vl
theorem fnValLess_own : ownKnob Try.prog.godebug = none := by kernel_rfl
theorem fnValLess_laidOut : laidOutB Try.prog = true := by kernel_rfl
set_option maxRecDepth 100000 in
theorem fnValLess_lifted (os : Os) (started : os.Started) (H : Type) (enc : TypeId × Value → H) :
    ReturnsInHanded {} Try.checked os 6 .any (Rows.fnValLessSpec.pre6 enc Try.prog Try.f6 Rows.fnValLessRow.domain false) (Rows.fnValLessSpec.post enc Try.prog Try.f6 false true false false) := by
  refine returnsInHanded_of_change_sized (C := Try.checked) fnValLess_own started (by kernel_rfl) Try.func6
    (ChangeSpec.witness6 (enc := enc) (C := Try.checked) false ⟨#[], #[.slice none 0 0, .slice none 0 0], []⟩ 8 (by kernel_rfl) (by kernel_rfl) (by kernel_rfl) (by kernel_rfl)) ?_
  intro W base args ds gs before hval hW _ _ _
  refine law_calls (m := 8) fnValLess_laidOut (tb := 4) rfl Try.underlying4 ?_ rfl ?_ ?_ W base args ds gs before hval hW
  · have h : (Try.f6.params.toList.all fun t => (Try.prog.readableRec t && Nat.blt t Try.prog.types.size && plainT Try.prog 8 t)) = true := by kernel_rfl
    rw [List.all_eq_true] at h
    exact h
  · intro ds hd
    match ds, hd with
    | [d1, d2], _ => rfl
  · skip
    intro ls0 h0 ls1 h1
    obtain ⟨a, rfl, la, oa⟩ := wt_bytes h0
    obtain ⟨b, rfl, lb, ob⟩ := wt_bytes h1
    exact c_FnValLess la oa lb ob
theorem fnValLess_over : Rows.fnValLessRow.holds Try.pinned (OpenSpec.ofChange Rows.fnValLessSpec) :=
  OpenClaim.holds_of_wide 6 Try.f6 rfl rfl rfl rfl rfl rfl rfl ⟨rfl, rfl, rfl, rfl, rfl⟩ rfl rfl rfl rfl rfl (by kernel_rfl) Try.func6 (by kernel_rfl)
    (of_decide_eq_true (by kernel_rfl)) (by unfold Func.isWrapper; first | (rw [if_pos (by decide +kernel)]; kernel_rfl) | (rw [if_neg (by decide +kernel)]; exact ⟨rfl, rfl⟩))
    (fun os started H enc _ => fnValLess_lifted os started H enc)
theorem fnValLess_holds : Rows.FnValLessSaid := fnValLess_over
#print axioms fnValLess_holds
end Go.Proofs.Ytiaendjdmnpcdaa

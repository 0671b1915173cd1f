/- For every input laws.FnExactShapeAt returns true and leaves its arguments as they were. No condition beyond the row's own. -/
import Derived.Test.YtiaendjdmnpcdaaRows
import Derived.Test.YtiaendjdmnpcdaaTy
import Derived.Test.YtiaendjdmnpcdaaCf
namespace Go.Proofs.Ytiaendjdmnpcdaa
open Go Go.RowKit Go.ChangeShapes Go.WideShapes Go.ChangeAt Go.Vl
theorem fnExactShapeAt_own : ownKnob Try.prog.godebug = none := by kernel_rfl
theorem fnExactShapeAt_laidOut : laidOutB Try.prog = true := by kernel_rfl
set_option maxRecDepth 100000 in
theorem fnExactShapeAt_lifted (os : Os) (started : os.Started) (H : Type) (enc : TypeId × Value → H) :
    ReturnsInHanded {} Try.checked os 11 .any (Rows.fnExactShapeAtSpec.pre6 enc Try.prog Try.f11 Rows.fnExactShapeAtRow.domain false) (Rows.fnExactShapeAtSpec.post enc Try.prog Try.f11 false true false false) := by
  refine returnsInHanded_of_change_sized (C := Try.checked) fnExactShapeAt_own started (by kernel_rfl) Try.func11
    (ChangeSpec.witness6 (enc := enc) (C := Try.checked) false ⟨#[], #[.slice none 0 0, .string ⟨#[]⟩], []⟩ 8 (by kernel_rfl) (by kernel_rfl) (by kernel_rfl) (by kernel_rfl)) ?_
  intro W base args ds gs before hval hW _ _ _
  refine law_calls (m := 8) fnExactShapeAt_laidOut (tb := 4) rfl Try.underlying4 ?_ rfl ?_ ?_ W base args ds gs before hval hW
  · have h : (Try.f11.params.toList.all fun t => (Try.prog.readableRec t && Nat.blt t Try.prog.types.size && plainT Try.prog 8 t)) = true := by kernel_rfl
    rw [List.all_eq_true] at h
    exact h
  · intro ds hd
    match ds, hd with
    | [d1, d2], _ => rfl
  · skip
    intro ls0 h0 ls1 h1
    obtain ⟨a, rfl, la, oa⟩ := wt_cols h0
    obtain ⟨s, rfl, _⟩ := wt_string Try.underlying9 h1
    exact c_FnExactShapeAt a s la oa
theorem fnExactShapeAt_over : Rows.fnExactShapeAtRow.holds Try.pinned (OpenSpec.ofChange Rows.fnExactShapeAtSpec) :=
  OpenClaim.holds_of_wide 11 Try.f11 rfl rfl rfl rfl rfl rfl rfl ⟨rfl, rfl, rfl, rfl, rfl⟩ rfl rfl rfl rfl rfl (by kernel_rfl) Try.func11 (by kernel_rfl)
    (of_decide_eq_true (by kernel_rfl)) (by unfold Func.isWrapper; first | (rw [if_pos (by decide +kernel)]; kernel_rfl) | (rw [if_neg (by decide +kernel)]; exact ⟨rfl, rfl⟩))
    (fun os started H enc _ => fnExactShapeAt_lifted os started H enc)
theorem fnExactShapeAt_holds : Rows.FnExactShapeAtSaid := fnExactShapeAt_over
#print axioms fnExactShapeAt_holds
end Go.Proofs.Ytiaendjdmnpcdaa

/- For every input laws.FnExactShapeOk returns true and leaves its arguments as they were. No condition beyond the row's own. -/
import Derived.Test.YtiaendjdmnpcdaaRows
import Derived.Test.YtiaendjdmnpcdaaTy
import Derived.Test.YtiaendjdmnpcdaaCe
namespace Go.Proofs.Ytiaendjdmnpcdaa
open Go Go.RowKit Go.ChangeShapes Go.WideShapes Go.ChangeAt Go.Vl
theorem fnExactShapeOk_own : ownKnob Try.prog.godebug = none := by kernel_rfl
theorem fnExactShapeOk_laidOut : laidOutB Try.prog = true := by kernel_rfl
set_option maxRecDepth 100000 in
theorem fnExactShapeOk_lifted (os : Os) (started : os.Started) (H : Type) (enc : TypeId × Value → H) :
    ReturnsInHanded {} Try.checked os 9 .any (Rows.fnExactShapeOkSpec.pre6 enc Try.prog Try.f9 Rows.fnExactShapeOkRow.domain false) (Rows.fnExactShapeOkSpec.post enc Try.prog Try.f9 false true false false) := by
  refine returnsInHanded_of_change_sized (C := Try.checked) fnExactShapeOk_own started (by kernel_rfl) Try.func9
    (ChangeSpec.witness6 (enc := enc) (C := Try.checked) false ⟨#[], #[.slice none 0 0], []⟩ 8 (by kernel_rfl) (by kernel_rfl) (by kernel_rfl) (by kernel_rfl)) ?_
  intro W base args ds gs before hval hW _ _ _
  refine law_calls (m := 8) fnExactShapeOk_laidOut (tb := 4) rfl Try.underlying4 ?_ rfl ?_ ?_ W base args ds gs before hval hW
  · have h : (Try.f9.params.toList.all fun t => (Try.prog.readableRec t && Nat.blt t Try.prog.types.size && plainT Try.prog 8 t)) = true := by kernel_rfl
    rw [List.all_eq_true] at h
    exact h
  · intro ds hd
    match ds, hd with
    | [d1], _ => rfl
  · skip
    intro ls0 h0
    obtain ⟨a, rfl, la, oa⟩ := wt_cols h0
    exact c_FnExactShapeOk a la oa
theorem fnExactShapeOk_over : Rows.fnExactShapeOkRow.holds Try.pinned (OpenSpec.ofChange Rows.fnExactShapeOkSpec) :=
  OpenClaim.holds_of_wide 9 Try.f9 rfl rfl rfl rfl rfl rfl rfl ⟨rfl, rfl, rfl, rfl, rfl⟩ rfl rfl rfl rfl rfl (by kernel_rfl) Try.func9 (by kernel_rfl)
    (of_decide_eq_true (by kernel_rfl)) (by unfold Func.isWrapper; first | (rw [if_pos (by decide +kernel)]; kernel_rfl) | (rw [if_neg (by decide +kernel)]; exact ⟨rfl, rfl⟩))
    (fun os started H enc _ => fnExactShapeOk_lifted os started H enc)
theorem fnExactShapeOk_holds : Rows.FnExactShapeOkSaid := fnExactShapeOk_over
#print axioms fnExactShapeOk_holds
end Go.Proofs.Ytiaendjdmnpcdaa

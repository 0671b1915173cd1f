/- For every input laws.FnRowOk returns true and leaves its arguments as they were. No condition beyond the row's own. -/
import Derived.Test.YtiaendjdmnpcdaaRows
import Derived.Test.YtiaendjdmnpcdaaTb
import Derived.Test.YtiaendjdmnpcdaaDg
namespace Go.Proofs.Ytiaendjdmnpcdaa
open Go Go.RowKit Go.ChangeShapes Go.WideShapes Go.ChangeAt Go.Vl
theorem fnRowOk_own : ownKnob Try.prog.godebug = none := by kernel_rfl
theorem fnRowOk_laidOut : laidOutB Try.prog = true := by kernel_rfl
set_option maxRecDepth 100000 in
theorem fnRowOk_lifted (os : Os) (started : os.Started) (H : Type) (enc : TypeId × Value → H) :
    ReturnsInHanded {} Try.checked os 13 .any (Rows.fnRowOkSpec.pre6 enc Try.prog Try.f13 Rows.fnRowOkRow.domain false) (Rows.fnRowOkSpec.post enc Try.prog Try.f13 false true false false) := by
  refine returnsInHanded_of_change_sized (C := Try.checked) fnRowOk_own started (by kernel_rfl) Try.func13
    (ChangeSpec.witness6 (enc := enc) (C := Try.checked) false ⟨#[], #[.slice none 0 0], []⟩ 8 (by kernel_rfl) (by kernel_rfl) (by kernel_rfl) (by kernel_rfl)) ?_
  intro W base args ds gs before hval hW _ _ _
  refine law_calls (m := 8) fnRowOk_laidOut (tb := 4) rfl Try.underlying4 ?_ rfl ?_ ?_ W base args ds gs before hval hW
  · have h : (Try.f13.params.toList.all fun t => (Try.prog.readableRec t && Nat.blt t Try.prog.types.size && plainT Try.prog 8 t)) = true := by kernel_rfl
    rw [List.all_eq_true] at h
    exact h
  · intro ds hd
    match ds, hd with
    | [d1], _ => rfl
  · skip
    intro ls0 h0
    obtain ⟨a, rfl, la, oa⟩ := wt_bytes h0
    exact c_FnRowOk la oa
theorem fnRowOk_over : Rows.fnRowOkRow.holds Try.pinned (OpenSpec.ofChange Rows.fnRowOkSpec) :=
  OpenClaim.holds_of_wide 13 Try.f13 rfl rfl rfl rfl rfl rfl rfl ⟨rfl, rfl, rfl, rfl, rfl⟩ rfl rfl rfl rfl rfl (by kernel_rfl) Try.func13 (by kernel_rfl)
    (of_decide_eq_true (by kernel_rfl)) (by unfold Func.isWrapper; first | (rw [if_pos (by decide +kernel)]; kernel_rfl) | (rw [if_neg (by decide +kernel)]; exact ⟨rfl, rfl⟩))
    (fun os started H enc _ => fnRowOk_lifted os started H enc)
theorem fnRowOk_holds : Rows.FnRowOkSaid := fnRowOk_over
#print axioms fnRowOk_holds
end Go.Proofs.Ytiaendjdmnpcdaa

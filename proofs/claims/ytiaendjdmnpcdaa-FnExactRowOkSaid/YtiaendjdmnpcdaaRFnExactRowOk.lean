/- For every input laws.FnExactRowOk returns true and leaves its arguments as they were. No condition beyond the row's own. -/
import Derived.Test.YtiaendjdmnpcdaaRows
import Derived.Test.YtiaendjdmnpcdaaTy
import Derived.Test.YtiaendjdmnpcdaaCh
namespace Go.Proofs.Ytiaendjdmnpcdaa
open Go Go.RowKit Go.ChangeShapes Go.WideShapes Go.ChangeAt Go.Vl
theorem fnExactRowOk_own : ownKnob Try.prog.godebug = none := by kernel_rfl
theorem fnExactRowOk_laidOut : laidOutB Try.prog = true := by kernel_rfl
set_option maxRecDepth 100000 in
theorem fnExactRowOk_lifted (os : Os) (started : os.Started) (H : Type) (enc : TypeId × Value → H) :
    ReturnsInHanded {} Try.checked os 14 .any (Rows.fnExactRowOkSpec.pre6 enc Try.prog Try.f14 Rows.fnExactRowOkRow.domain false) (Rows.fnExactRowOkSpec.post enc Try.prog Try.f14 false true false false) := by
  refine returnsInHanded_of_change_sized (C := Try.checked) fnExactRowOk_own started (by kernel_rfl) Try.func14
    (ChangeSpec.witness6 (enc := enc) (C := Try.checked) false ⟨#[], #[.slice none 0 0, .slice none 0 0], []⟩ 8 (by kernel_rfl) (by kernel_rfl) (by kernel_rfl) (by kernel_rfl)) ?_
  intro W base args ds gs before hval hW _ _ _
  refine law_calls (m := 8) fnExactRowOk_laidOut (tb := 4) rfl Try.underlying4 ?_ rfl ?_ ?_ W base args ds gs before hval hW
  · have h : (Try.f14.params.toList.all fun t => (Try.prog.readableRec t && Nat.blt t Try.prog.types.size && plainT Try.prog 8 t)) = true := by kernel_rfl
    rw [List.all_eq_true] at h
    exact h
  · intro ds hd
    match ds, hd with
    | [d1, d2], _ => rfl
  · skip
    intro ls0 h0 ls1 h1
    obtain ⟨a, rfl, la, oa⟩ := wt_cols h0
    obtain ⟨b, rfl, lb, ob⟩ := wt_vals h1
    exact c_FnExactRowOk a b la lb oa ob
theorem fnExactRowOk_over : Rows.fnExactRowOkRow.holds Try.pinned (OpenSpec.ofChange Rows.fnExactRowOkSpec) :=
  OpenClaim.holds_of_wide 14 Try.f14 rfl rfl rfl rfl rfl rfl rfl ⟨rfl, rfl, rfl, rfl, rfl⟩ rfl rfl rfl rfl rfl (by kernel_rfl) Try.func14 (by kernel_rfl)
    (of_decide_eq_true (by kernel_rfl)) (by unfold Func.isWrapper; first | (rw [if_pos (by decide +kernel)]; kernel_rfl) | (rw [if_neg (by decide +kernel)]; exact ⟨rfl, rfl⟩))
    (fun os started H enc _ => fnExactRowOk_lifted os started H enc)
theorem fnExactRowOk_holds : Rows.FnExactRowOkSaid := fnExactRowOk_over
#print axioms fnExactRowOk_holds
end Go.Proofs.Ytiaendjdmnpcdaa

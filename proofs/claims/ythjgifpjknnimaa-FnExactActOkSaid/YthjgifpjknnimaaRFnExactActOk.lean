/- For every input laws.FnExactActOk returns true and leaves its arguments as they were. No condition beyond the row's own. -/
import Derived.Test.YthjgifpjknnimaaRows
import Derived.Test.YthjgifpjknnimaaJDa
import Derived.Test.YthjgifpjknnimaaJDb
import Derived.Test.YthjgifpjknnimaaJDc
import Derived.Test.YthjgifpjknnimaaJDd
namespace Go.Proofs.Ythjgifpjknnimaa
open Go Go.RowKit Go.ChangeShapes Go.WideShapes Go.ChangeAt Go.Vl
theorem fnExactActOk_own : ownKnob Try.prog.godebug = none := by kernel_rfl
theorem fnExactActOk_laidOut : laidOutB Try.prog = true := by kernel_rfl
set_option maxRecDepth 100000 in
theorem fnExactActOk_lifted (os : Os) (started : os.Started) (H : Type) (enc : TypeId × Value → H) :
    ReturnsInHanded {} Try.checked os 3 .any (Rows.fnExactActOkSpec.pre6 enc Try.prog Try.f3 Rows.fnExactActOkRow.domain false) (Rows.fnExactActOkSpec.post enc Try.prog Try.f3 false true false false) := by
  refine returnsInHanded_of_change_sized (C := Try.checked) fnExactActOk_own started (by kernel_rfl) Try.func3
    (ChangeSpec.witness6 (enc := enc) (C := Try.checked) false ⟨#[], #[.agg #[.int .i64 0, .string ⟨#[]⟩, .int .i64 0, .slice none 0 0, .slice none 0 0, .int .i64 0, .string ⟨#[]⟩, .string ⟨#[]⟩, .string ⟨#[]⟩, .int .i64 0, .bool false, .bool false, .int .i64 0, .int .i64 0, .string ⟨#[]⟩, .string ⟨#[]⟩, .string ⟨#[]⟩, .string ⟨#[]⟩, .int .i64 0]], []⟩ 8 (by kernel_rfl) (by kernel_rfl) (by kernel_rfl) (by kernel_rfl)) ?_
  intro W base args ds gs before hval hW _ _ _
  refine law_calls (m := 8) fnExactActOk_laidOut (tb := 4) rfl Try.underlying4 ?_ rfl ?_ ?_ W (fun x hx => by cases hx) base args ds gs before hval hW
  · have h : (Try.f3.params.toList.all fun t => (Try.prog.readableRec t && Nat.blt t Try.prog.types.size && plainT Try.prog 8 t)) = true := by kernel_rfl
    rw [List.all_eq_true] at h
    exact h
  · intro ds hd
    match ds, hd with
    | [d1], _ => rfl
  · skip
    intro ls0 h0
    obtain ⟨a, rfl, oa⟩ := w_VAct h0
    exact c_FnExactActOk a oa
theorem fnExactActOk_over : Rows.fnExactActOkRow.holds Try.pinned (OpenSpec.ofChange Rows.fnExactActOkSpec) :=
  OpenClaim.holds_of_wide 3 Try.f3 rfl rfl rfl rfl rfl rfl rfl ⟨rfl, rfl, rfl, rfl, rfl⟩ rfl rfl rfl rfl rfl (by kernel_rfl) Try.func3 (by kernel_rfl)
    (of_decide_eq_true (by kernel_rfl)) (by unfold Func.isWrapper; first | (rw [if_pos (by decide +kernel)]; kernel_rfl) | (rw [if_neg (by decide +kernel)]; exact ⟨rfl, rfl⟩))
    (fun os started H enc _ => fnExactActOk_lifted os started H enc)
theorem fnExactActOk_holds : Rows.FnExactActOkSaid := fnExactActOk_over
#print axioms fnExactActOk_holds
end Go.Proofs.Ythjgifpjknnimaa

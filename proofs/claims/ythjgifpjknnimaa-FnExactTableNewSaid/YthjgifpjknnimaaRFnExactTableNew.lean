/- For every input laws.FnExactTableNew returns true and leaves its arguments as they were. No condition beyond the row's own. -/
import Derived.Test.YthjgifpjknnimaaRows
import Derived.Test.YthjgifpjknnimaaJCa
import Derived.Test.YthjgifpjknnimaaJCb
import Derived.Test.YthjgifpjknnimaaJCc
import Derived.Test.YthjgifpjknnimaaJCd
import Derived.Test.YthjgifpjknnimaaJCe
import Derived.Test.YthjgifpjknnimaaJCf
namespace Go.Proofs.Ythjgifpjknnimaa
open Go Go.RowKit Go.ChangeShapes Go.WideShapes Go.ChangeAt Go.Vl
theorem fnExactTableNew_own : ownKnob Try.prog.godebug = none := by kernel_rfl
theorem fnExactTableNew_laidOut : laidOutB Try.prog = true := by kernel_rfl
set_option maxRecDepth 100000 in
theorem fnExactTableNew_lifted (os : Os) (started : os.Started) (H : Type) (enc : TypeId × Value → H) :
    ReturnsInHanded {} Try.checked os 4 .any (Rows.fnExactTableNewSpec.pre6 enc Try.prog Try.f4 Rows.fnExactTableNewRow.domain false) (Rows.fnExactTableNewSpec.post enc Try.prog Try.f4 false true false false) := by
  refine returnsInHanded_of_change_sized (C := Try.checked) fnExactTableNew_own started (by kernel_rfl) Try.func4
    (ChangeSpec.witness6 (enc := enc) (C := Try.checked) false ⟨#[], #[.slice none 0 0], []⟩ 8 (by kernel_rfl) (by kernel_rfl) (by kernel_rfl) (by kernel_rfl)) ?_
  intro W base args ds gs before hval hW _ _ _
  refine law_calls (m := 8) fnExactTableNew_laidOut (tb := 4) rfl Try.underlying4 ?_ rfl ?_ ?_ W (fun x hx => by cases hx) base args ds gs before hval hW
  · have h : (Try.f4.params.toList.all fun t => (Try.prog.readableRec t && Nat.blt t Try.prog.types.size && plainT Try.prog 8 t)) = true := by kernel_rfl
    rw [List.all_eq_true] at h
    exact h
  · intro ds hd
    match ds, hd with
    | [d1], _ => rfl
  · skip
    intro ls0 h0
    obtain ⟨a, rfl, la, oa⟩ := w_Cols h0
    exact c_FnExactTableNew a la oa
theorem fnExactTableNew_over : Rows.fnExactTableNewRow.holds Try.pinned (OpenSpec.ofChange Rows.fnExactTableNewSpec) :=
  OpenClaim.holds_of_wide 4 Try.f4 rfl rfl rfl rfl rfl rfl rfl ⟨rfl, rfl, rfl, rfl, rfl⟩ rfl rfl rfl rfl rfl (by kernel_rfl) Try.func4 (by kernel_rfl)
    (of_decide_eq_true (by kernel_rfl)) (by unfold Func.isWrapper; first | (rw [if_pos (by decide +kernel)]; kernel_rfl) | (rw [if_neg (by decide +kernel)]; exact ⟨rfl, rfl⟩))
    (fun os started H enc _ => fnExactTableNew_lifted os started H enc)
theorem fnExactTableNew_holds : Rows.FnExactTableNewSaid := fnExactTableNew_over
#print axioms fnExactTableNew_holds
end Go.Proofs.Ythjgifpjknnimaa

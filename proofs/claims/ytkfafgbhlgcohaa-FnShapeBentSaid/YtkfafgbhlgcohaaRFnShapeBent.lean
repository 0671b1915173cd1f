/- For every input laws.FnShapeBent returns true and leaves its arguments as they were. No condition beyond the row's own. -/
import Derived.Test.YtkfafgbhlgcohaaRows
import Derived.Test.YtkfafgbhlgcohaaTb
import Derived.Test.YtkfafgbhlgcohaaDh
namespace Go.Proofs.Ytkfafgbhlgcohaa
open Go Go.RowKit Go.ChangeShapes Go.WideShapes Go.ChangeAt Go.Vl
theorem fnShapeBent_own : ownKnob Try.prog.godebug = none := by kernel_rfl
theorem fnShapeBent_laidOut : laidOutB Try.prog = true := by kernel_rfl
set_option maxRecDepth 100000 in
theorem fnShapeBent_lifted (os : Os) (started : os.Started) (H : Type) (enc : TypeId × Value → H) :
    ReturnsInHanded {} Try.checked os 3 .any (Rows.fnShapeBentSpec.pre6 enc Try.prog Try.f3 Rows.fnShapeBentRow.domain false) (Rows.fnShapeBentSpec.post enc Try.prog Try.f3 false true false false) := by
  refine returnsInHanded_of_change_sized (C := Try.checked) fnShapeBent_own started (by kernel_rfl) Try.func3
    (ChangeSpec.witness6 (enc := enc) (C := Try.checked) false ⟨#[], #[.slice none 0 0], []⟩ 8 (by kernel_rfl) (by kernel_rfl) (by kernel_rfl) (by kernel_rfl)) ?_
  intro W base args ds gs before hval hW _ _ _
  refine law_calls (m := 8) fnShapeBent_laidOut (tb := 4) rfl Try.underlying4 ?_ rfl ?_ ?_ W (fun x hx => by cases hx) base args ds gs before hval hW
  · have h : (Try.f3.params.toList.all fun t => (Try.prog.readableRec t && Nat.blt t Try.prog.types.size && plainT Try.prog 8 t)) = true := by kernel_rfl
    rw [List.all_eq_true] at h
    exact h
  · intro ds hd
    match ds, hd with
    | [d1], _ => rfl
  · skip
    intro ls0 h0
    obtain ⟨a, rfl, la, oa⟩ := wt_bytes h0
    exact c_FnShapeBent la oa
theorem fnShapeBent_over : Rows.fnShapeBentRow.holds Try.pinned (OpenSpec.ofChange Rows.fnShapeBentSpec) :=
  OpenClaim.holds_of_wide 3 Try.f3 rfl rfl rfl rfl rfl rfl rfl ⟨rfl, rfl, rfl, rfl, rfl⟩ rfl rfl rfl rfl rfl (by kernel_rfl) Try.func3 (by kernel_rfl)
    (of_decide_eq_true (by kernel_rfl)) (by unfold Func.isWrapper; first | (rw [if_pos (by decide +kernel)]; kernel_rfl) | (rw [if_neg (by decide +kernel)]; exact ⟨rfl, rfl⟩))
    (fun os started H enc _ => fnShapeBent_lifted os started H enc)
theorem fnShapeBent_holds : Rows.FnShapeBentSaid := fnShapeBent_over
#print axioms fnShapeBent_holds
end Go.Proofs.Ytkfafgbhlgcohaa

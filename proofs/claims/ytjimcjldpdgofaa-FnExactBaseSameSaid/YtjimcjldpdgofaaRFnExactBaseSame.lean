/- For every input laws.FnExactBaseSame returns true and leaves its arguments as they were. No condition beyond the row's own. -/
import Derived.Test.YtjimcjldpdgofaaRows
import Derived.Test.YtjimcjldpdgofaaT1
import Derived.Test.YtjimcjldpdgofaaG1
namespace Go.Proofs.Ytjimcjldpdgofaa
open Go Go.RowKit Go.ChangeShapes Go.WideShapes Go.ChangeAt Go.Vl
theorem fnExactBaseSame_own : ownKnob Try.prog.godebug = none := by kernel_rfl
theorem fnExactBaseSame_laidOut : laidOutB Try.prog = true := by kernel_rfl
set_option maxRecDepth 100000 in
theorem fnExactBaseSame_lifted (os : Os) (started : os.Started) (H : Type) (enc : TypeId × Value → H) :
    ReturnsInHanded {} Try.checked os 6 .any (Rows.fnExactBaseSameSpec.pre6 enc Try.prog Try.f6 Rows.fnExactBaseSameRow.domain false) (Rows.fnExactBaseSameSpec.post enc Try.prog Try.f6 false true false false) := by
  refine returnsInHanded_of_change_sized (C := Try.checked) fnExactBaseSame_own started (by kernel_rfl) Try.func6
    (ChangeSpec.witness6 (enc := enc) (C := Try.checked) false ⟨#[], #[.agg #[.slice none 0 0, .slice none 0 0], .agg #[.slice none 0 0, .slice none 0 0]], []⟩ 12 (by kernel_rfl) (by kernel_rfl) (by kernel_rfl) (by kernel_rfl)) ?_
  intro W base args ds gs before hval hW _ _ _
  refine law_calls (m := 12) fnExactBaseSame_laidOut (tb := 4) rfl Try.underlying4 ?_ rfl ?_ ?_ W base args ds gs before hval hW
  · have h : (Try.f6.params.toList.all fun t => (Try.prog.readableRec t && Nat.blt t Try.prog.types.size && plainT Try.prog 12 t)) = true := by kernel_rfl
    rw [List.all_eq_true] at h
    exact h
  · intro ds hd
    match ds, hd with
    | [d1, d2], _ => rfl
  · skip
    intro ls0 h0 ls1 h1
    obtain ⟨a, rfl, oa⟩ := w_VBase h0
    obtain ⟨b, rfl, ob⟩ := w_VBase h1
    exact c_FnExactBaseSame a b oa ob
theorem fnExactBaseSame_over : Rows.fnExactBaseSameRow.holds Try.pinned (OpenSpec.ofChange Rows.fnExactBaseSameSpec) :=
  OpenClaim.holds_of_wide 6 Try.f6 rfl rfl rfl rfl rfl rfl rfl ⟨rfl, rfl, rfl, rfl, rfl⟩ rfl rfl rfl rfl rfl (by kernel_rfl) Try.func6 (by kernel_rfl)
    (of_decide_eq_true (by kernel_rfl)) (by unfold Func.isWrapper; first | (rw [if_pos (by decide +kernel)]; kernel_rfl) | (rw [if_neg (by decide +kernel)]; exact ⟨rfl, rfl⟩))
    (fun os started H enc _ => fnExactBaseSame_lifted os started H enc)
theorem fnExactBaseSame_holds : Rows.FnExactBaseSameSaid := fnExactBaseSame_over
#print axioms fnExactBaseSame_holds
end Go.Proofs.Ytjimcjldpdgofaa

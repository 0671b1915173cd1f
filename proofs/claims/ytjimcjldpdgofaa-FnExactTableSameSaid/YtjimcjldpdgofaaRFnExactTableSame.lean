/- For every input laws.FnExactTableSame returns true and leaves its arguments as they were. No condition beyond the row's own. -/
import Derived.Test.YtjimcjldpdgofaaRows
import Derived.Test.YtjimcjldpdgofaaT1
import Derived.Test.YtjimcjldpdgofaaG1
namespace Go.Proofs.Ytjimcjldpdgofaa
open Go Go.RowKit Go.ChangeShapes Go.WideShapes Go.ChangeAt Go.Vl
theorem fnExactTableSame_own : ownKnob Try.prog.godebug = none := by kernel_rfl
theorem fnExactTableSame_laidOut : laidOutB Try.prog = true := by kernel_rfl
set_option maxRecDepth 100000 in
theorem fnExactTableSame_lifted (os : Os) (started : os.Started) (H : Type) (enc : TypeId × Value → H) :
    ReturnsInHanded {} Try.checked os 3 .any (Rows.fnExactTableSameSpec.pre6 enc Try.prog Try.f3 Rows.fnExactTableSameRow.domain false) (Rows.fnExactTableSameSpec.post enc Try.prog Try.f3 false true false false) := by
  refine returnsInHanded_of_change_sized (C := Try.checked) fnExactTableSame_own started (by kernel_rfl) Try.func3
    (ChangeSpec.witness6 (enc := enc) (C := Try.checked) false ⟨#[], #[.agg #[.slice none 0 0, .slice none 0 0, .slice none 0 0, .int .i64 0], .agg #[.slice none 0 0, .slice none 0 0, .slice none 0 0, .int .i64 0]], []⟩ 8 (by kernel_rfl) (by kernel_rfl) (by kernel_rfl) (by kernel_rfl)) ?_
  intro W base args ds gs before hval hW _ _ _
  refine law_calls (m := 8) fnExactTableSame_laidOut (tb := 4) rfl Try.underlying4 ?_ rfl ?_ ?_ W base args ds gs before hval hW
  · have h : (Try.f3.params.toList.all fun t => (Try.prog.readableRec t && Nat.blt t Try.prog.types.size && plainT Try.prog 8 t)) = true := by kernel_rfl
    rw [List.all_eq_true] at h
    exact h
  · intro ds hd
    match ds, hd with
    | [d1, d2], _ => rfl
  · skip
    intro ls0 h0 ls1 h1
    obtain ⟨a, rfl, oa⟩ := w_VTable h0
    obtain ⟨b, rfl, ob⟩ := w_VTable h1
    exact c_FnExactTableSame a b oa ob
theorem fnExactTableSame_over : Rows.fnExactTableSameRow.holds Try.pinned (OpenSpec.ofChange Rows.fnExactTableSameSpec) :=
  OpenClaim.holds_of_wide 3 Try.f3 rfl rfl rfl rfl rfl rfl rfl ⟨rfl, rfl, rfl, rfl, rfl⟩ rfl rfl rfl rfl rfl (by kernel_rfl) Try.func3 (by kernel_rfl)
    (of_decide_eq_true (by kernel_rfl)) (by unfold Func.isWrapper; first | (rw [if_pos (by decide +kernel)]; kernel_rfl) | (rw [if_neg (by decide +kernel)]; exact ⟨rfl, rfl⟩))
    (fun os started H enc _ => fnExactTableSame_lifted os started H enc)
theorem fnExactTableSame_holds : Rows.FnExactTableSameSaid := fnExactTableSame_over
#print axioms fnExactTableSame_holds
end Go.Proofs.Ytjimcjldpdgofaa

/- This text was put together by a session out of texts that its own programs and the print tool wrote. -/
import Derived.Test.YtphlgajlebgnbaaRows
import Derived.WalkKit
import Derived.ProofKit
import Derived.OpenShut
import Derived.ShutString
import Derived.ChangeOld
import Derived.Below
set_option linter.unusedVariables false
set_option linter.unusedSimpArgs false
/-! The closed facts of the row, in a text of their own. -/
namespace Go.Proofs.Ytphlgajlebgnbaa.fnCurves
theorem c1 : Try.pinned.checked.prog.funcNamed Rows.fnCurvesRow.func = some 3 := by kernel_rfl
theorem c3 : joinedFacts Try.pinned.checked.prog 3 Try.f3 Rows.fnCurvesSpec Rows.fnCurvesRow = true := by kernel_rfl
theorem c4 : Try.f3.isInstance Try.pinned.checked.prog Rows.fnCurvesRow.origin Rows.fnCurvesRow.targs := of_decide_eq_true (by kernel_rfl)
theorem c5 : Try.f3.isWrapper Try.pinned.checked.prog Rows.fnCurvesRow.wrapper Rows.fnCurvesRow.mainSum := by unfold Func.isWrapper; first | (rw [if_pos (by decide +kernel)]; kernel_rfl) | (rw [if_neg (by decide +kernel)]; exact ⟨rfl, rfl⟩)
end Go.Proofs.Ytphlgajlebgnbaa.fnCurves

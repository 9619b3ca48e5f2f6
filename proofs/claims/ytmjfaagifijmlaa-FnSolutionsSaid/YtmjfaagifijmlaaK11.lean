/- This text was put together by a session out of texts that its own programs and the print tool wrote. -/
import Derived.Test.YtmjfaagifijmlaaRows
import Derived.WalkKit
import Derived.ProofKit
import Derived.OpenShut
import Derived.ShutString
import Derived.ChangeOld
import Derived.Below
set_option linter.unusedVariables false
set_option linter.unusedSimpArgs false
namespace Go.Proofs.Ytmjfaagifijmlaa.fnSolutions
theorem c1 : Try.pinned.checked.prog.funcNamed Rows.fnSolutionsRow.func = some 10 := by kernel_rfl
theorem c3 : joinedFacts Try.pinned.checked.prog 10 Try.f10 Rows.fnSolutionsSpec Rows.fnSolutionsRow = true := by kernel_rfl
theorem c4 : Try.f10.isInstance Try.pinned.checked.prog Rows.fnSolutionsRow.origin Rows.fnSolutionsRow.targs := of_decide_eq_true (by kernel_rfl)
theorem c5 : Try.f10.isWrapper Try.pinned.checked.prog Rows.fnSolutionsRow.wrapper Rows.fnSolutionsRow.mainSum := by unfold Func.isWrapper; first | (rw [if_pos (by decide +kernel)]; kernel_rfl) | (rw [if_neg (by decide +kernel)]; exact ⟨rfl, rfl⟩)
end Go.Proofs.Ytmjfaagifijmlaa.fnSolutions

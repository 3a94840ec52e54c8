/- For both bools the program's BoolOf and the reference's BoolOf answer alike. No condition. -/
import Derived.Test.YtnmlddacgpmobaaPFnExactBoolOfx1
namespace Go.Proofs.Ytnmlddacgpmobaa.Pure
open Go.RowKit Go.Proofs.Ytnmlddacgpmobaa.PFnExactBoolOf Go.Proofs.YtnmlddacgpmobaaW.PrintWords Go.Proofs.YtnmlddacgpmobaaW.PrintLast

theorem FnExactBoolOf : laws_FnExactBoolOf.Pure := by
  intro a0
  cases a0 <;> rfl

end Go.Proofs.Ytnmlddacgpmobaa.Pure

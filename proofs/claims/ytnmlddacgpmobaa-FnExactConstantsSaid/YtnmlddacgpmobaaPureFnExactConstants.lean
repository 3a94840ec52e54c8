/- The program's constants are those of the reference (the law takes no argument). No condition. -/
import Derived.Test.YtnmlddacgpmobaaPFnExactConstantsx1
namespace Go.Proofs.Ytnmlddacgpmobaa.Pure
open Go.RowKit Go.Proofs.Ytnmlddacgpmobaa.PFnExactConstants Go.Proofs.YtnmlddacgpmobaaW.PrintWords Go.Proofs.YtnmlddacgpmobaaW.PrintLast

theorem FnExactConstants : laws_FnExactConstants.Pure := by
  rfl

end Go.Proofs.Ytnmlddacgpmobaa.Pure

/- For every int v the program's Num and the reference's Num answer alike. No condition. -/
import Derived.Test.YtnmlddacgpmobaaPFnExactNumx1
namespace Go.Proofs.Ytnmlddacgpmobaa.Pure
open Go.RowKit Go.Proofs.Ytnmlddacgpmobaa.PFnExactNum Go.Proofs.YtnmlddacgpmobaaW.PrintWords Go.Proofs.YtnmlddacgpmobaaW.PrintLast

theorem FnExactNum : laws_FnExactNum.Pure := by
  intro a0 _
  simp [laws_FnExactNum.f, spec_Num.f, impl_Num.f]

end Go.Proofs.Ytnmlddacgpmobaa.Pure

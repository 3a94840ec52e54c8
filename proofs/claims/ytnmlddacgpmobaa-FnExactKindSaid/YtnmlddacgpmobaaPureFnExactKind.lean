/- For every int v the program's Kind and the reference's Kind answer alike. No condition. -/
import Derived.Test.YtnmlddacgpmobaaPFnExactKindx1
namespace Go.Proofs.Ytnmlddacgpmobaa.Pure
open Go.RowKit Go.Proofs.Ytnmlddacgpmobaa.PFnExactKind Go.Proofs.YtnmlddacgpmobaaW.PrintWords Go.Proofs.YtnmlddacgpmobaaW.PrintLast

theorem FnExactKind : laws_FnExactKind.Pure := by
  intro a0 _
  simp [laws_FnExactKind.f, spec_Kind.f, impl_Kind.f]

end Go.Proofs.Ytnmlddacgpmobaa.Pure

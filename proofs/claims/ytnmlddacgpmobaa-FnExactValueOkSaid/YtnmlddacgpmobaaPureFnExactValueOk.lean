/- For every int v the program's ValueOk and the reference's ValueOk answer alike. No condition. -/
import Derived.Test.YtnmlddacgpmobaaPFnExactValueOkx1
namespace Go.Proofs.Ytnmlddacgpmobaa.Pure
open Go.RowKit Go.Proofs.Ytnmlddacgpmobaa.PFnExactValueOk Go.Proofs.YtnmlddacgpmobaaW.PrintWords Go.Proofs.YtnmlddacgpmobaaW.PrintLast

theorem FnExactValueOk : laws_FnExactValueOk.Pure := by
  intro a0 _
  refine ⟨1, ?_⟩
  unfold laws_FnExactValueOk.f
  have e : spec_ValueOk.f 1 a0 = impl_ValueOk.f 1 a0 := rfl
  rw [e]
  have h : ∃ r, impl_ValueOk.f 1 a0 = some r := by
    unfold impl_ValueOk.f impl_Num.f impl_Kind.f
    simp only [Option.bind_some, impl_ValueOk.j0, impl_within.f]
    repeat' (first | exact ⟨_, rfl⟩ | (simp only [Option.bind_some]) | split)
  obtain ⟨r, hr⟩ := h
  rw [hr]
  simp

end Go.Proofs.Ytnmlddacgpmobaa.Pure

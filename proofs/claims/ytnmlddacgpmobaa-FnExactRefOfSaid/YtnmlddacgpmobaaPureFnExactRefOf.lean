/- For every kind and every place the program's RefOf and the reference's RefOf answer alike. No condition. -/
import Derived.Test.YtnmlddacgpmobaaPFnExactRefOfx1
namespace Go.Proofs.Ytnmlddacgpmobaa.Pure
open Go.RowKit Go.Proofs.Ytnmlddacgpmobaa.PFnExactRefOf Go.Proofs.YtnmlddacgpmobaaW.PrintWords Go.Proofs.YtnmlddacgpmobaaW.PrintLast

theorem FnExactRefOf : laws_FnExactRefOf.Pure := by
  intro a0 a1 _ _
  unfold laws_FnExactRefOf.f
  have e : spec_RefOf.f a0 a1 = impl_RefOf.f a0 a1 := rfl
  rw [e]
  have h : ∃ r, impl_RefOf.f a0 a1 = some r := by
    unfold impl_RefOf.f impl_within.f
    repeat' (first | exact ⟨_, rfl⟩ | (simp only [Option.bind_some]) | split)
  obtain ⟨r, hr⟩ := h
  rw [hr]
  simp

end Go.Proofs.Ytnmlddacgpmobaa.Pure

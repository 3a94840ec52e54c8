/- For every slab the program's SlabOk answers as the reference's, and leaves its argument as it was. No condition. -/
import Derived.Test.YtnmlddacgpmobaaPs1
import Derived.Test.YtnmlddacgpmobaaF3
namespace Go.Proofs.Ytnmlddacgpmobaa.Pure
open Go.RowKit Go.Proofs.Ytnmlddacgpmobaa.F Go.Proofs.YtnmlddacgpmobaaW.PrintWords Go.Proofs.YtnmlddacgpmobaaW.PrintLast Go.Proofs.YtnmlddacgpmobaaW.PrintMore Go.Proofs.YtnmlddacgpmobaaW.Hand
def FnExactSlabOk_Pure : Prop := ∀ (l0_0 : List Int), l0_0.length ≤ 9223372036854775807 → (∀ x ∈ l0_0, (Lit.int .i64 x).wf = true) → ∃ k, laws_FnExactSlabOk.f k l0_0 = some true
theorem FnExactSlabOk : FnExactSlabOk_Pure := by
  intro l hl _
  refine Ev.rounds (r := true) ?_
  unfold laws_FnExactSlabOk.f
  refine sz_slab l hl fun hn => ?_
  refine ev_bind (toSlab_ev l hn) (ev_bind (spec_SlabOk_ev l hn) (ev_bind (toSlab_ev l hn) (ev_bind (impl_SlabOk_ev l hn) ?_)))
  exact ev_neg (by simp) (same_slab l hn (Ev.now _))
end Go.Proofs.Ytnmlddacgpmobaa.Pure

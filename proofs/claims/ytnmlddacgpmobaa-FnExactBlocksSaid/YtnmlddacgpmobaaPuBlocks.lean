/- For every slab the program's Blocks answers as the reference's, in memory of its own, and leaves its argument as it was. No condition. -/
import Derived.Test.YtnmlddacgpmobaaPs1
import Derived.Test.YtnmlddacgpmobaaF5
namespace Go.Proofs.Ytnmlddacgpmobaa.Pure
open Go.RowKit Go.Proofs.Ytnmlddacgpmobaa.F Go.Proofs.YtnmlddacgpmobaaW.PrintWords Go.Proofs.YtnmlddacgpmobaaW.PrintLast Go.Proofs.YtnmlddacgpmobaaW.PrintMore Go.Proofs.YtnmlddacgpmobaaW.Hand
def FnExactBlocks_Pure : Prop := ∀ (l0_0 : List Int), l0_0.length ≤ 9223372036854775807 → (∀ x ∈ l0_0, (Lit.int .i64 x).wf = true) → ∃ k, laws_FnExactBlocks.f k l0_0 = some true
theorem FnExactBlocks : FnExactBlocks_Pure := by
  intro l hl _
  refine Ev.rounds (r := true) ?_
  unfold laws_FnExactBlocks.f
  refine sz_slab l hl fun hn => ?_
  have hb := blocks_length l
  have hn' : l.length ≤ 1048576 := hn
  refine ev_bind (toSlab_ev l hn) (ev_bind (spec_Blocks_ev l hn) (ev_bind (toSlab_ev l hn) (ev_bind (impl_Blocks_ev l hn) (ev_bind (eqIntS_ev _ (by omega)) (ev_pos rfl (same_slab l hn ?_))))))
  refine ev_bind (markSlab_ev l 1 (by omega) (by omega)) (ev_neg (by simp only; omega) (ev_bind (eqIntS_ev _ (by omega)) ?_))
  refine ev_step (f := fun k => _) (fun k => by simp only [laws_FnExactBlocks.j0]; rfl) ?_
  refine ev_neg (by simp) (ev_bind (markIntS_ev _ 1 (by omega) (by omega)) (ev_bind (heldIntS_ev _ 1 (by omega) (by omega)) (ev_neg (by omega) (ev_pos rfl ?_))))
  refine ev_bind (toSlab_ev l hn) (ev_bind (impl_Blocks_ev l hn) (ev_bind (eqIntS_ev _ (by omega)) (ev_pos rfl ?_)))
  exact ev_bind (heldIntS_ev _ 1 (by omega) (by omega)) (ev_neg (by omega) (ev_pos rfl (Ev.now _)))
end Go.Proofs.Ytnmlddacgpmobaa.Pure

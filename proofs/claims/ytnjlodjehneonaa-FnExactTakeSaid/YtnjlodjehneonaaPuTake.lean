/- For every slab, kind and number the program's Take answers as the reference's, in memory of its own, and leaves its argument as it was. No condition. -/
import Derived.Test.YtnjlodjehneonaaPs2
import Derived.Test.YtnjlodjehneonaaPt
import Derived.Test.YtnjlodjehneonaaF5
namespace Go.Proofs.Ytnjlodjehneonaa.Pure
open Go.RowKit Go.Proofs.Ytnjlodjehneonaa.F Go.Proofs.YtnjlodjehneonaaW.PrintWords Go.Proofs.YtnjlodjehneonaaW.PrintLast Go.Proofs.YtnjlodjehneonaaW.PrintMore Go.Proofs.YtnjlodjehneonaaW.Hand
def FnExactTake_Pure : Prop := ∀ (l0_0 : List Int) (a1 : Int) (a2 : Int), l0_0.length ≤ 9223372036854775807 → (∀ x ∈ l0_0, (Lit.int .i64 x).wf = true) → (Lit.int .i64 a1).wf = true → (Lit.int .i64 a2).wf = true → ∃ k, laws_FnExactTake.f k l0_0 a1 a2 = some true
theorem FnExactTake : FnExactTake_Pure := by
  intro l a1 a2 hl _ h1 h2
  refine Ev.rounds (r := true) ?_
  unfold laws_FnExactTake.f
  refine sz_slab l hl fun hn => ?_
  have hn' : l.length ≤ 1048576 := hn
  have hb := take_length l a1 a2 hn
  have h2' := wf_i64 h2
  refine ev_bind (toSlab_ev l hn) (ev_bind (spec_Take_ev l hn a1 a2 h2') (ev_bind (toSlab_ev l hn) (ev_bind (impl_Take_ev l hn a1 a2 h2') (ev_bind (eqSlab_ev _ (by omega)) (ev_pos rfl (ev_pos (by first | rfl | trivial) ?_))))))
  refine ev_step (f := fun k => _) (fun k => by simp only [laws_FnExactTake.j0]; rfl) ?_
  refine ev_neg (by simp) (same_slab l hn ?_)
  refine ev_bind (markSlab_ev l 1 (by omega) (by omega)) (ev_neg (by simp only; omega) (ev_bind (eqSlab_ev _ (by omega)) (ev_pos rfl (ev_pos (by first | rfl | trivial) ?_))))
  refine ev_step (f := fun k => _) (fun k => by simp only [laws_FnExactTake.j1]; rfl) ?_
  refine ev_neg (by simp) (ev_bind (markSlab_ev _ 1 (by omega) (by omega)) (ev_bind (heldSlab_ev _ 1 (by omega) (by omega)) (ev_neg (by omega) (ev_pos rfl ?_))))
  refine ev_bind (toSlab_ev l hn) (ev_bind (impl_Take_ev l hn a1 a2 h2') (ev_bind (eqSlab_ev _ (by omega)) (ev_pos rfl (ev_pos (by first | rfl | trivial) ?_))))
  refine ev_step (f := fun k => _) (fun k => by simp only [laws_FnExactTake.j2]; rfl) ?_
  exact ev_neg (by simp) (ev_bind (heldSlab_ev _ 1 (by omega) (by omega)) (ev_neg (by omega) (ev_pos rfl (Ev.now _))))
end Go.Proofs.Ytnjlodjehneonaa.Pure

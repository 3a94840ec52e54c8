/- For every slab and place the program's Slots answers as the reference's, in memory of its own, and leaves its argument as it was. No condition. -/
import Derived.Test.YtnjlodjehneonaaPsl
import Derived.Test.YtnjlodjehneonaaF7
namespace Go.Proofs.Ytnjlodjehneonaa.Pure
open Go.RowKit Go.Proofs.Ytnjlodjehneonaa.F Go.Proofs.YtnjlodjehneonaaW.PrintWords Go.Proofs.YtnjlodjehneonaaW.PrintLast Go.Proofs.YtnjlodjehneonaaW.PrintMore Go.Proofs.YtnjlodjehneonaaW.Hand
def FnExactSlots_Pure : Prop := ∀ (l0_0 : List Int) (a1 : Int), l0_0.length ≤ 9223372036854775807 → (∀ x ∈ l0_0, (Lit.int .i64 x).wf = true) → (Lit.int .i64 a1).wf = true → ∃ k, laws_FnExactSlots.f k l0_0 a1 = some true
theorem FnExactSlots : FnExactSlots_Pure := by
  intro l a hl _ _
  refine Ev.rounds (r := true) ?_
  unfold laws_FnExactSlots.f
  refine sz_slab l hl fun hn => ?_
  have hb := slots_length l a
  have hn' : l.length ≤ 1048576 := hn
  refine ev_bind (toSlab_ev l hn) (ev_bind (spec_Slots_ev l hn a) (ev_bind (toSlab_ev l hn) (ev_bind (impl_Slots_ev l hn a) (ev_bind (eqIntS_ev _ (by omega)) (ev_pos rfl (same_slab l hn ?_))))))
  refine ev_bind (markSlab_ev l 1 (by omega) (by omega)) (ev_neg (by simp only; omega) (ev_bind (eqIntS_ev _ (by omega)) ?_))
  refine ev_step (f := fun k => _) (fun k => by simp only [laws_FnExactSlots.j0]; rfl) ?_
  refine ev_neg (by simp) (ev_bind (markIntS_ev _ 1 (by omega) (by omega)) (ev_bind (heldIntS_ev _ 1 (by omega) (by omega)) (ev_neg (by omega) (ev_pos rfl ?_))))
  refine ev_bind (toSlab_ev l hn) (ev_bind (impl_Slots_ev l hn a) (ev_bind (eqIntS_ev _ (by omega)) (ev_pos rfl ?_)))
  exact ev_bind (heldIntS_ev _ 1 (by omega) (by omega)) (ev_neg (by omega) (ev_pos rfl (Ev.now _)))
end Go.Proofs.Ytnjlodjehneonaa.Pure

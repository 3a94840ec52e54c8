/- For every size the program's SlabNew answers as the reference's, in memory of its own. No condition. -/
import Derived.Test.YtnmlddacgpmobaaPs1
import Derived.Test.YtnmlddacgpmobaaF2
import Derived.Test.YtnmlddacgpmobaaF1
namespace Go.Proofs.Ytnmlddacgpmobaa.Pure
open Go.RowKit Go.Proofs.Ytnmlddacgpmobaa.F Go.Proofs.YtnmlddacgpmobaaW.PrintWords Go.Proofs.YtnmlddacgpmobaaW.PrintLast Go.Proofs.YtnmlddacgpmobaaW.PrintMore Go.Proofs.YtnmlddacgpmobaaW.Hand
/-- A new slab: one free block. -/
def slabNew (n : Int) : List Int × Bool := if 2 ≤ n ∧ n ≤ 2000 then ((List.replicate n.toNat 0).set 0 (8 * n), true) else ([], false)
theorem spec_SlabNew_eq (n : Int) : spec_SlabNew.f n = some (slabNew n) := by
  unfold spec_SlabNew.f slabNew
  rw [l1In_eq]
  simp only [Option.bind_some, decide_eq_true_eq]
  split
  · rename_i h
    rw [if_pos (by omega), if_pos (by omega), if_pos (by rw [List.length_replicate]; omega), wrap_in (by omega) (by omega)]
    rfl
  · rfl
theorem impl_SlabNew_eq (n : Int) : impl_SlabNew.f n = some (slabNew n) := by
  unfold impl_SlabNew.f slabNew
  rw [within_eq]
  simp only [Option.bind_some, decide_eq_true_eq]
  split
  · rename_i h
    rw [if_pos (by omega), if_pos (by omega), if_pos (by rw [List.length_replicate]; omega), wrap_in (x := 8 * n) (by omega) (by omega), wrap_in (by omega) (by omega), Int.add_zero]
    rfl
  · rfl
theorem slabNew_length (n : Int) : (slabNew n).1.length ≤ 2000 := by
  unfold slabNew
  split
  · simp; omega
  · simp
def FnExactSlabNew_Pure : Prop := ∀ (a0 : Int), (Lit.int .i64 a0).wf = true → ∃ k, laws_FnExactSlabNew.f k a0 = some true
theorem FnExactSlabNew : FnExactSlabNew_Pure := by
  intro n _
  refine Ev.rounds (r := true) ?_
  unfold laws_FnExactSlabNew.f
  have hb := slabNew_length n
  simp only [spec_SlabNew_eq, impl_SlabNew_eq, Option.bind_some]
  refine ev_bind (eqSlab_ev _ (by omega)) (ev_pos rfl ?_)
  refine ev_step (f := fun k => _) (fun k => by simp only [laws_FnExactSlabNew.j0]; rfl) ?_
  refine ev_neg (by simp) (ev_bind (markSlab_ev _ 1 (by omega) (by omega)) (ev_bind (heldSlab_ev _ 1 (by omega) (by omega)) (ev_neg (by omega) (ev_pos rfl ?_))))
  simp only [impl_SlabNew_eq, Option.bind_some]
  refine ev_bind (eqSlab_ev _ (by omega)) (ev_pos rfl ?_)
  refine ev_step (f := fun k => _) (fun k => by simp only [laws_FnExactSlabNew.j1]; rfl) ?_
  exact ev_neg (by simp) (ev_bind (heldSlab_ev _ 1 (by omega) (by omega)) (ev_neg (by omega) (ev_pos rfl (Ev.now _))))
end Go.Proofs.Ytnmlddacgpmobaa.Pure

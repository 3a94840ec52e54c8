/- For every slab and place the program's SizeAt answers as the reference's, and leaves its argument as it was. No condition. -/
import Derived.Test.YtnjlodjehneonaaPs2
import Derived.Test.YtnjlodjehneonaaF2
namespace Go.Proofs.Ytnjlodjehneonaa.Pure
open Go.RowKit Go.Proofs.Ytnjlodjehneonaa.F Go.Proofs.YtnjlodjehneonaaW.PrintWords Go.Proofs.YtnjlodjehneonaaW.PrintLast Go.Proofs.YtnjlodjehneonaaW.PrintMore Go.Proofs.YtnjlodjehneonaaW.Hand
def sizeAt (l : List Int) (a : Int) : Int := if a ∈ blocks l then l.getD a.toNat 0 / 8 else 0
theorem spec_SizeAt_ev (l : List Int) (hl : l.length ≤ Lim) (a : Int) : Ev (fun k => spec_SizeAt.f k l a) (sizeAt l a) := by
  unfold spec_SizeAt.f sizeAt
  refine ev_bind (spec_SlabOk_ev l hl) ?_
  by_cases h : okB l = true
  · refine ev_pos h (ev_bind (spec_l2Is_ev l h a) ?_)
    by_cases hm : a ∈ blocks l
    · obtain ⟨n, rfl, h1, _⟩ := blocks_mem hm
      rw [if_pos hm]
      refine ev_pos (decide_eq_true hm) (ev_pos (by omega) (ev_pos (by omega) ?_))
      simp only [spec_l2Size.f, Option.bind_some, rd_nat, Int.toNat_natCast]
      exact Ev.now _
    · rw [if_neg hm]
      exact ev_neg (by simpa using hm) (Ev.now _)
  · rw [blocks_not h, if_neg List.not_mem_nil]
    exact ev_neg h (Ev.now _)
theorem impl_SizeAt_ev (l : List Int) (hl : l.length ≤ Lim) (a : Int) : Ev (fun k => impl_SizeAt.f k l a) (sizeAt l a) := by
  unfold impl_SizeAt.f sizeAt
  refine ev_bind (impl_isBlock_ev l hl a) ?_
  by_cases hm : a ∈ blocks l
  · obtain ⟨n, rfl, h1, _⟩ := blocks_mem hm
    rw [if_pos hm]
    refine ev_pos (decide_eq_true hm) (ev_pos (by omega) (ev_pos (by omega) ?_))
    simp only [rd_nat, Int.toNat_natCast]
    exact Ev.now _
  · rw [if_neg hm]
    exact ev_neg (by simpa using hm) (Ev.now _)
def FnExactSizeAt_Pure : Prop := ∀ (l0_0 : List Int) (a1 : Int), l0_0.length ≤ 9223372036854775807 → (∀ x ∈ l0_0, (Lit.int .i64 x).wf = true) → (Lit.int .i64 a1).wf = true → ∃ k, laws_FnExactSizeAt.f k l0_0 a1 = some true
theorem FnExactSizeAt : FnExactSizeAt_Pure := by
  intro l a hl _ _
  refine Ev.rounds (r := true) ?_
  unfold laws_FnExactSizeAt.f
  refine sz_slab l hl fun hn => ?_
  exact ev_bind (toSlab_ev l hn) (ev_bind (spec_SizeAt_ev l hn a) (ev_bind (toSlab_ev l hn) (ev_bind (impl_SizeAt_ev l hn a) (ev_pos rfl (same_slab l hn (Ev.now _))))))
end Go.Proofs.Ytnjlodjehneonaa.Pure

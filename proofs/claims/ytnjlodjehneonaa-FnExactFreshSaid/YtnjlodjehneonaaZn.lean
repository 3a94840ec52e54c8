/- Whether a marker is right, by the reference: walked. -/
import Derived.Test.YtnjlodjehneonaaZm
namespace Go.Proofs.YtnjlodjehneonaaW.Ax
open Go Go.RowKit Go.Proofs Go.Proofs.Ytnjlodjehneonaa.Pure
set_option linter.unusedVariables false
set_option maxRecDepth 100000

theorem blk_vb {l : List Int} {v : Int} (h : Vb l v) : 0 ≤ blk v ↔ 4 ≤ v % 8 := by
  unfold blk
  constructor
  · intro h'; split at h' <;> omega
  · intro h4
    rw [if_neg (by omega)]
    obtain ⟨m, hm, _⟩ := blocks_mem (h h4).1
    omega
theorem blk_pl {v : Int} (h : 4 ≤ v % 8) : blk v = v / 8 := by unfold blk; rw [if_neg (by omega)]
theorem mem_iff {l g b : List Int} : Mem l g b ↔ Ord l g ∧ Ord l b ∧ ∀ i : Nat, i < b.length → rd b i ∉ g ∧ (0 < i → rd b ((i : Int) - 1) ≤ rd b i) := by
  constructor
  · rintro ⟨h1, h2⟩
    have hn := List.nodup_append.1 h1.1
    refine ⟨⟨hn.1, fun a ha => h1.2 a (List.mem_append_left _ ha)⟩, ⟨hn.2.1, fun a ha => h1.2 a (List.mem_append_right _ ha)⟩, fun i hi => ⟨fun hm => hn.2.2 _ hm _ (mem_rd hi) rfl, fun h0 => ?_⟩⟩
    have := h2 (i - 1) (by omega)
    rw [show (((i - 1 : Nat) : Int)) = (i : Int) - 1 by omega, show (i : Int) - 1 + 1 = i by omega] at this
    exact this
  · rintro ⟨h1, h2, h3⟩
    refine ⟨⟨List.nodup_append.2 ⟨h1.1, h2.1, fun a ha a' ha' e => ?_⟩, fun a ha => (List.mem_append.1 ha).elim (h1.2 a) (h2.2 a)⟩, fun i hi => ?_⟩
    · subst e
      obtain ⟨j, hj, rfl⟩ := rd_mem ha'
      exact (h3 j hj).1 ha
    · have := (h3 (i + 1) hi).2 (by omega)
      rw [show ((i + 1 : Nat) : Int) - 1 = i by omega] at this
      exact this
end Go.Proofs.YtnjlodjehneonaaW.Ax

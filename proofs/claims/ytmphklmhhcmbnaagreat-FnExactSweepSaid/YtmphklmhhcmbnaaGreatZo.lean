/- No black block leads to one that was not met: walked. -/
import Derived.Test.YtmphklmhhcmbnaaGreatZn
namespace Go.Proofs.YtmphklmhhcmbnaaGreatW.Ax
open Go Go.RowKit Go.Proofs Go.Proofs.YtmphklmhhcmbnaaGreat.Pure
set_option linter.unusedVariables false
set_option maxRecDepth 100000

def TriB (l g b : List Int) (a : Int) : Prop := ∀ x ∈ slotsL l a, 4 ≤ rd l x % 8 → rd l x / 8 ∈ g ∨ rd l x / 8 ∈ b
def Tri (l : List Int) (p : Int) (g b : List Int) (q : Int) : Prop := MkOk l p g b q ∧ (p = 1 → ∀ a ∈ b, TriB l g b a)
theorem MkOk.black {l : List Int} {p : Int} {g b : List Int} {q : Int} (h : MkOk l p g b q) : ∀ a ∈ b, a ∈ blocks l := fun a ha => (h.2.1.1.2 a (List.mem_append_right _ ha)).1
theorem MkOk.grey {l : List Int} {p : Int} {g b : List Int} {q : Int} (h : MkOk l p g b q) : ∀ a ∈ g, a ∈ blocks l := fun a ha => (h.2.1.1.2 a (List.mem_append_left _ ha)).1
theorem MkOk.asc {l : List Int} {p : Int} {g b : List Int} {q : Int} (h : MkOk l p g b q) : b.Pairwise (· < ·) := srt_lt h.2.1.2 (List.nodup_append.1 h.2.1.1.1).2.1
theorem MkOk.heap {l : List Int} {g b : List Int} {q : Int} (h : MkOk l 1 g b q) : Heap l := by
  rcases h.2.2 with h | h | h
  · exact h.2.1
  · exact h.2.1
  · have := h.1; omega
end Go.Proofs.YtmphklmhhcmbnaaGreatW.Ax

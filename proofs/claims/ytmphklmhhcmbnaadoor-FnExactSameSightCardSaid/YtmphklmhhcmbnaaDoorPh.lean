/- What the picture asks of a block, drawn from a heap that is in order. -/
import Derived.Test.YtmphklmhhcmbnaaDoorPg
namespace Go.Proofs.YtmphklmhhcmbnaaDoorW.Ax
open Go Go.RowKit Go.Proofs Go.Proofs.YtmphklmhhcmbnaaDoor.Pure
set_option linter.unusedVariables false
theorem lnOk_of {l rs : List Int} (h : Rts l rs) {a : Int} (ha : a ∈ ordL l rs) : a ∈ blocks l ∧ LnOk l a := by
  obtain ⟨hb, hk⟩ := (ord_ok h).2 a ha
  have hs := h.1.2 a hb
  have hat := block_at hb
  have hsz := size_pos hat.2.2.1
  have hk5 : kindOf l a.toNat ≤ 5 := hat.2.2.1.2.2
  have hkr := kind_rd l a
  have hk0 : 0 ≤ kindOf l a.toNat := by have := Int.emod_nonneg (rd l a) (show (8 : Int) ≠ 0 by omega); omega
  refine ⟨hb, hat.1, hat.2.1, by omega, by omega, fun e => ?_, fun e => ?_, fun k hk => ?_, Nat.le_trans (slots_len hb) (by omega)⟩
  · have h1 := (hs.1 (by omega)).1
    omega
  · have := (hs.2.2.2.1 (by omega)).1.1
    unfold Spl at this
    omega
  · have := slots_in hb hk
    omega
end Go.Proofs.YtmphklmhhcmbnaaDoorW.Ax

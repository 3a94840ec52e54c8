/- What is met, by the program: walked. -/
import Derived.Test.YtmphklmhhcmbnaaGreatZh
namespace Go.Proofs.YtmphklmhhcmbnaaGreatW.Ax
open Go Go.RowKit Go.Proofs Go.Proofs.YtmphklmhhcmbnaaGreat.Pure
set_option linter.unusedVariables false
set_option maxRecDepth 100000

theorem cell_lt {st : St} {r : Option Nat} {j i : Nat} {v : AV} (h : cell st r j = some v) (hr : r = some i) : i < st.n := by
  subst hr
  unfold cell at h
  simp only at h
  split at h
  · assumption
  · cases h
/-- What was there when the call began stays. -/
theorem At.over {st0 st1 : St} {r : Option Nat} {o : Nat} {xs : List Int} (h : At st0 r o xs) (he : Ext (fun i => st0.n ≤ i) st0 st1) : At st1 r o xs := fun j hj => cell_ext he (h j hj) fun i hi hn => by
  have := cell_lt (h j hj) hi
  omega
theorem Ex.over {st0 st1 : St} (h : Ex st0 st1) : Ext (fun i => st0.n ≤ i) st0 st1 := ⟨h.n, fun i hi _ => h.ob i hi id⟩
theorem Ext.over {T : Nat → Prop} {st0 st1 st2 : St} (h : Ext (fun i => st0.n ≤ i) st0 st1) (k : Ext T st1 st2) (hT : ∀ i, T i → st0.n ≤ i) : Ext (fun i => st0.n ≤ i) st0 st2 := h.trans k fun i _ ht => hT i ht

end Go.Proofs.YtmphklmhhcmbnaaGreatW.Ax

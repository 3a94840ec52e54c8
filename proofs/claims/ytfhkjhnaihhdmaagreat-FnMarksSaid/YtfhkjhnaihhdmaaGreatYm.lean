/- The laws' helpers for markers, walked. -/
import Derived.Test.YtfhkjhnaihhdmaaGreatYl
namespace Go.Proofs.YtfhkjhnaihhdmaaGreatW.Ax
open Go Go.RowKit Go.Proofs Go.Proofs.YtfhkjhnaihhdmaaGreat.Pure
set_option linter.unusedVariables false
set_option maxRecDepth 100000

/-- A marker: two rows of the call's own, and not the same. -/
def Mr (st : St) (p : Int) (g b : List Int) (q : Int) : AV → St → Prop := fun v st' =>
  ∃ rg rb, v = .agg [I p, .sl rg 0 g.length, .sl rb 0 b.length, I q] ∧ Fr st.n st' rg g ∧ Fr st.n st' rb b ∧ (∀ i, rg = some i → rb ≠ some i)
theorem Fr.off2 {n0 : Nat} {st st' : St} {r r1 r2 : Option Nat} {l : List Int} {p q p' q' : Nat} (h : Fr n0 st r l) (he : Ext (fun i => r1 = some i ∨ r2 = some i) st st') (hb : ∀ i, r = some i → p ≤ i ∧ i < q)
    (hb1 : ∀ i, r1 = some i → p' ≤ i ∧ i < q') (hb2 : ∀ i, r2 = some i → p' ≤ i ∧ i < q') (hd : q ≤ p' ∨ q' ≤ p) : Fr n0 st' r l :=
  h.ext he fun i e e' => by
    have := hb i e
    rcases e' with e' | e'
    · have := hb1 i e'; omega
    · have := hb2 i e'; omega
theorem At.off2 {st0 st st' : St} {r r1 r2 : Option Nat} {o : Nat} {l : List Int} {p' q' : Nat} (h : At st r o l) (he : Ext (fun i => r1 = some i ∨ r2 = some i) st st') (hb : ∀ i, r = some i → i < st0.n)
    (hb1 : ∀ i, r1 = some i → p' ≤ i ∧ i < q') (hb2 : ∀ i, r2 = some i → p' ≤ i ∧ i < q') (hd : st0.n ≤ p') : At st' r o l :=
  h.ext he fun i e e' => by
    have := hb i e
    rcases e' with e' | e'
    · have := hb1 i e'; omega
    · have := hb2 i e'; omega
def Mk2 (n0 : Nat) (st : St) (r1 r2 : Option Nat) (k : Int) (n1 n2 : Nat) : AV → St → Prop := fun v st' =>
  v = I (k + n1 + n2) ∧ Fr n0 st' r1 (upN k n1) ∧ Fr n0 st' r2 (upN (k + n1) n2)

end Go.Proofs.YtfhkjhnaihhdmaaGreatW.Ax

/- Shading, and how marking starts: walked. -/
import Derived.Test.YtnjlodjehneonaaZj
import Derived.Test.YtnjlodjehneonaaYm
import Derived.Test.YtnjlodjehneonaaYk
import Derived.Test.YtnjlodjehneonaaXU
namespace Go.Proofs.YtnjlodjehneonaaW.Ax
open Go Go.RowKit Go.Proofs Go.Proofs.Ytnjlodjehneonaa.Pure
set_option linter.unusedVariables false
set_option maxRecDepth 100000

/-- A value is shaded. -/
def shd (p : Int) (g b : List Int) (v : Int) : List Int := if p = 1 ∧ 4 ≤ v % 8 ∧ v / 8 ∉ g ∧ v / 8 ∉ b then g ++ [v / 8] else g
theorem shd_len (p : Int) (g b : List Int) (v : Int) : (shd p g b v).length ≤ g.length + 1 := by
  unfold shd; split <;> simp
/-- A marker whose Grey has grown. -/
def ShP (n0 : Nat) (st : St) (p q : Int) (rg rb : Option Nat) (g b : List Int) : AV → St → Prop := fun v st' =>
  ∃ rg', v = .agg [I p, .sl rg' 0 g.length, .sl rb 0 b.length, I q] ∧ Fr n0 st' rg' g ∧ ∀ i, rg' = some i → rg = some i ∨ st.n ≤ i
theorem shd_ad (g : List Int) (v : Int) : shd 1 g [] v = ad g v := by
  unfold shd ad
  by_cases h : 4 ≤ v % 8 ∧ v / 8 ∉ g
  · rw [if_pos ⟨rfl, h.1, h.2, by simp⟩, if_pos h]
  · rw [if_neg (fun hh => h ⟨hh.2.1, hh.2.2.1⟩), if_neg h]
/-- How marking starts. -/
noncomputable def stP (l rs : List Int) : Int := cond (bd (Rts l rs)) 1 0
noncomputable def stG (l rs : List Int) : List Int := cond (bd (Rts l rs)) (rs.foldl ad []) []
theorem stG_len (l rs : List Int) : (stG l rs).length ≤ 2000 := by
  unfold stG
  cases h : bd (Rts l rs) with
  | false => simp
  | true => exact ((ord_nil l).all (rts_vb (bdt.1 h))).len
theorem Leads.num {l : List Int} {v i : Int} (h : Leads l v i) : 4 ≤ v % 8 → 0 ≤ v / 8 := fun h4 => (h.1.2.2.2.2 h4).1
/-- A value leads to a block of its kind. -/
def Ld (l : List Int) (v : Int) : Prop := Rf l v 4 1 ∨ Rf l v 5 2 ∨ Rf l v 6 4 ∨ Rf l v 7 3 ∨ Rf l v 7 5
/-- A marker behind a place: a variable, and two rows. -/
structure MkS (n0 b : Nat) (p q : Int) (rg rb : Option Nat) (g bl : List Int) (st : St) : Prop where
  hb : n0 ≤ b ∧ b < st.n ∧ st.ob b = .row true [I p, .sl rg 0 g.length, .sl rb 0 bl.length, I q]
  hg : Fr n0 st rg g
  hbl : Fr n0 st rb bl
  d : ∀ i, rg = some i → rb ≠ some i
theorem MkS.ex {n0 b : Nat} {p q : Int} {rg rb : Option Nat} {g bl : List Int} {st st' : St} (h : MkS n0 b p q rg rb g bl st) (he : Ex st st') : MkS n0 b p q rg rb g bl st' := by
  obtain ⟨⟨a1, a2, a3⟩, hg, hbl, d⟩ := h
  have := he.n
  exact ⟨⟨a1, by omega, by rw [he.ob b a2 id]; exact a3⟩, hg.ex he, hbl.ex he, d⟩
theorem MkS.apart {n0 b : Nat} {p q : Int} {rg rb : Option Nat} {g bl : List Int} {st : St} (h : MkS n0 b p q rg rb g bl st) : (∀ i, rg = some i → i ≠ b) ∧ ∀ i, rb = some i → i ≠ b := by
  obtain ⟨⟨a1, a2, a3⟩, hg, hbl, d⟩ := h
  refine ⟨fun i hi e => ?_, fun i hi e => ?_⟩
  all_goals
    subst hi; subst e
  · have := hg.ob.2.2; rw [a3] at this
    injection this with _ this
    match g, this with
    | [], this => cases this
    | [_], this => cases this
    | x :: y :: g, this => injection this with _ this; injection this with this _; cases this
  · have := hbl.ob.2.2; rw [a3] at this
    injection this with _ this
    match bl, this with
    | [], this => cases this
    | [_], this => cases this
    | x :: y :: g, this => injection this with _ this; injection this with this _; cases this
/-- A value has been shaded there. -/
def MkP (n0 b : Nat) (p q : Int) (rg rb : Option Nat) (n : Nat) (g bl : List Int) : AV → St → Prop := fun v st' => v = .tup [] ∧ ∃ rg', MkS n0 b p q rg' rb g bl st' ∧ ∀ i, rg' = some i → rg = some i ∨ n ≤ i
theorem ld_vb {l : List Int} {v : Int} (h : Leads l v 5) (h4 : 4 ≤ v % 8) : Ld l v := by
  obtain ⟨hv, a4, a5, a6, a7⟩ := h
  rcases (show v % 8 = 4 ∨ v % 8 = 5 ∨ v % 8 = 6 ∨ v % 8 = 7 by omega) with e | e | e | e
  · exact .inl ⟨e, a4 e⟩
  · exact .inr (.inl ⟨e, a5 e⟩)
  · exact .inr (.inr (.inl ⟨e, a6 e⟩))
  · exact .inr (.inr (.inr (.inr ⟨e, a7 e⟩)))
theorem shd_ld {l : List Int} {p : Int} {g b : List Int} {v : Int} (h : 4 ≤ v % 8 → Ld l v) : cond (bd (Ld l v)) (shd p g b v) g = shd p g b v := by
  cases hb : bd (Ld l v) with
  | true => rfl
  | false =>
    show g = _
    rw [shd, if_neg (fun hh => (bdf.1 hb) (h hh.2.1))]
end Go.Proofs.YtnjlodjehneonaaW.Ax

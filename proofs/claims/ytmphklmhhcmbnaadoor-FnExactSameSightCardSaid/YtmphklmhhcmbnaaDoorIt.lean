/- strconv.Itoa: the library's contract, laid, and told of the abstract store; the spec's own digits. -/
import Derived.Test.YtmphklmhhcmbnaaDoorYa
import Derived.Ground.NamesProg
import Derived.Shelf.Lay
import Derived.Shelf.LaysM
import Derived.Shelf.Strconv.Itoa3
namespace Go.Proofs
open Go.Shelf Go.Lib Go.RowKit

shelf_lay LaysM.n171 Nm 171 at Tryd as Tryd.laysItoa
end Go.Proofs
namespace Go.Proofs.YtmphklmhhcmbnaaDoorW.Ax
open Go Go.RowKit Go.Proofs Go.Sort
set_option linter.unusedVariables false
/-- The table of strconv's stands in the store, where the program's variable lies. -/
def Tab (P : Program) (st : St) : Prop := ∃ i g, i < st.n ∧ P.globalNamed "internal/strconv.uint64pow10" = some g ∧ st.ob i = .fix g (Lib.pow10Tab.map fun z => Value.int .u64 z).toArray
theorem Tab.ext {P : Program} {T : Nat → Prop} {st st' : St} (h : Tab P st) (e : Ext T st st') (hT : ∀ i, i < st.n → T i → (st.ob i).own = true) : Tab P st' := by
  obtain ⟨i, g, h1, h2, h3⟩ := h
  refine ⟨i, g, Nat.lt_of_lt_of_le h1 e.n, h2, ?_⟩
  rw [e.ob i h1 fun hi => by have := hT i h1 hi; rw [h3] at this; cases this]
  exact h3
theorem Tab.ex {P : Program} {st st' : St} (h : Tab P st) (e : Ex st st') : Tab P st' := h.ext e fun _ _ h => h.elim
theorem Tab.is {P : Program} {μ : Nat → Loc} {st : St} {w : World} (h : Tab P st) (hr : Rel μ st w) : Lib.TabIs P w "internal/strconv.uint64pow10" .u64 Lib.pow10Tab := by
  obtain ⟨i, g, h1, h2, h3⟩ := h
  have ho := hr.obj i h1
  rw [h3] at ho
  obtain ⟨_, E, fz, h4⟩ := ho
  unfold Lib.TabIs World.var?
  rw [h2]
  simp only [Option.bind_some, h4]
/-- The numeral of a number. -/
def numeral (n : Int) : ByteArray := ⟨(Lib.itoa n).toArray⟩
theorem Itoa_c (n : Int) (st : St) (h0 : -9223372036854775808 ≤ n) (h1 : n ≤ 9223372036854775807) (ht : Tab Tryd.prog st) :
    ACalls Tryd.prog 42 [.int .i64 n] st No (Pure1 (.str (numeral n)) st) := by
  refine ⟨by kernel_rfl, fun μ w cargs hr hvr => ?_⟩
  simp only [VRL, VR] at hvr
  obtain ⟨s, _, rfl, rfl, rfl⟩ := hvr
  refine (Any.strconv_Itoa Tryd.laysItoa n h0 h1 w (ht.is hr)).mono ?_
  rintro e w' ⟨rfl, k, os, rfl⟩
  have hpre : Pre w (grow (w.drewN k) os) := ⟨by simp [grow], fun b hb => Array.getElem?_append_left hb, rfl, rfl, rfl⟩
  exact ⟨_, _, μ, st, rfl, by simp only [VR]; rfl, hr.pre hpre, (Stp.refl _ _ _ _).pre hpre, ⟨rfl, rfl⟩⟩
end Go.Proofs.YtmphklmhhcmbnaaDoorW.Ax

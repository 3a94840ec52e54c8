/- strconv.Itoa: the library's contract, laid, and told of the abstract store; the spec's own digits. -/
import Derived.Test.YtmphklmhhcmbnaaDoorYa
import Derived.Shelf.LaysM
import Derived.Shelf.Strconv.Itoa3
namespace Go.Proofs
open Go.Shelf Go.Lib Go.RowKit

def Tryd.laysItoa_ren : Go.Shelf.Ren := ⟨fun | 171 => 42 | 243 => 57 | 246 => 70 | 283 => 71 | 284 => 72 | 285 => 73 | 286 => 74 | 129 => 76 | 317 => 75 | 318 => 77 | 319 => 78 | 320 => 79 | 337 => 80 | 338 => 81 | n => n, fun | 3 => 3 | 9 => 9 | 2 => 2 | 4 => 4 | 171 => 67 | 0 => 0 | 53 => 68 | 37 => 41 | 5 => 5 | 173 => 71 | 212 => 74 | 51 => 75 | 20 => 20 | 213 => 76 | 46 => 57 | 232 => 79 | 233 => 80 | n => n, fun | 17 => 0 | 18 => 1 | 19 => 2 | n => n⟩
theorem Tryd.laysItoa : Go.Proofs.LaysM.n171 Tryd.prog Tryd.laysItoa_ren := {
  mixed := by kernel_rfl
  f129 := Tryd.func76.trans (congrArg some (by kernel_rfl))
  f171 := Tryd.func42.trans (congrArg some (by kernel_rfl))
  f243 := Tryd.func57.trans (congrArg some (by kernel_rfl))
  f246 := Tryd.func70.trans (congrArg some (by kernel_rfl))
  f283 := Tryd.func71.trans (congrArg some (by kernel_rfl))
  f284 := Tryd.func72.trans (congrArg some (by kernel_rfl))
  f285 := Tryd.func73.trans (congrArg some (by kernel_rfl))
  f286 := Tryd.func74.trans (congrArg some (by kernel_rfl))
  f317 := Tryd.func75.trans (congrArg some (by kernel_rfl))
  f318 := Tryd.func77.trans (congrArg some (by kernel_rfl))
  f319 := Tryd.func78.trans (congrArg some (by kernel_rfl))
  f320 := Tryd.func79.trans (congrArg some (by kernel_rfl))
  f337 := Tryd.func80.trans (congrArg some (by kernel_rfl))
  f338 := Tryd.func81.trans (congrArg some (by kernel_rfl))
  t0 := Tryd.underlying0
  a0 := Tryd.isAgg0
  z0 := Tryd.sizeOf0
  v0 := Tryd.zeroValue0
  t2 := Tryd.underlying2
  a2 := Tryd.isAgg2
  z2 := Tryd.sizeOf2
  v2 := Tryd.zeroValue2
  t3 := Tryd.underlying3
  a3 := Tryd.isAgg3
  z3 := Tryd.sizeOf3
  v3 := Tryd.zeroValue3
  t4 := Tryd.underlying4
  a4 := Tryd.isAgg4
  z4 := Tryd.sizeOf4
  v4 := Tryd.zeroValue4
  t5 := Tryd.underlying5
  a5 := Tryd.isAgg5
  z5 := Tryd.sizeOf5
  v5 := Tryd.zeroValue5
  t9 := Tryd.underlying9
  a9 := Tryd.isAgg9
  z9 := Tryd.sizeOf9
  v9 := Tryd.zeroValue9
  t20 := Tryd.underlying20
  a20 := Tryd.isAgg20
  z20 := Tryd.sizeOf20
  v20 := Tryd.zeroValue20
  t37 := Tryd.underlying41
  a37 := Tryd.isAgg41
  z37 := Tryd.sizeOf41
  v37 := Tryd.zeroValue41
  t46 := Tryd.underlying57
  a46 := Tryd.isAgg57
  z46 := Tryd.sizeOf57
  v46 := Tryd.zeroValue57
  t51 := Tryd.underlying75
  a51 := Tryd.isAgg75
  z51 := Tryd.sizeOf75
  v51 := Tryd.zeroValue75
  t53 := Tryd.underlying68
  a53 := Tryd.isAgg68
  z53 := Tryd.sizeOf68
  v53 := Tryd.zeroValue68
  t171 := Tryd.underlying67
  a171 := Tryd.isAgg67
  z171 := Tryd.sizeOf67
  v171 := Tryd.zeroValue67
  t173 := Tryd.underlying71
  a173 := Tryd.isAgg71
  z173 := Tryd.sizeOf71
  v173 := Tryd.zeroValue71
  t212 := Tryd.underlying74
  a212 := Tryd.isAgg74
  z212 := Tryd.sizeOf74
  v212 := Tryd.zeroValue74
  t213 := Tryd.underlying76
  a213 := Tryd.isAgg76
  z213 := Tryd.sizeOf76
  t232 := Tryd.underlying79
  a232 := Tryd.isAgg79
  z232 := Tryd.sizeOf79
  v232 := Tryd.zeroValue79
  t233 := Tryd.underlying80
  a233 := Tryd.isAgg80
  z233 := Tryd.sizeOf80
  v233 := Tryd.zeroValue80
  g17 := by kernel_rfl
  g18 := by kernel_rfl
  g19 := by kernel_rfl
  i0 := by kernel_rfl
  i2 := by kernel_rfl
  i3 := by kernel_rfl
  i4 := by kernel_rfl
  i5 := by kernel_rfl
  i9 := by kernel_rfl
  i20 := by kernel_rfl
  i37 := by kernel_rfl
  i46 := by kernel_rfl
  i51 := by kernel_rfl
  i53 := by kernel_rfl
  i171 := by kernel_rfl
  i173 := by kernel_rfl
  i212 := by kernel_rfl
  i232 := by kernel_rfl
  i233 := by kernel_rfl
  m17 := by kernel_rfl
  m18 := by kernel_rfl
  m19 := by kernel_rfl }
end Go.Proofs
namespace Go.Proofs.YtmphklmhhcmbnaaDoorW.Ax
open Go Go.RowKit Go.Proofs Go.Sort
set_option linter.unusedVariables false
/-- The table of strconv's stands in the store, where the program's variable lies. -/
def Tab (P : Program) (st : St) : Prop := ∃ i g, i < st.n ∧ P.globalNamed "internal/strconv.uint64pow10" = some g ∧ st.ob i = .fix g (Lib.pow10Tab.map fun z => Value.int .u64 z).toArray
theorem Tab.ext {P : Program} {T : Nat → Prop} {st st' : St} (h : Tab P st) (e : Ext T st st') (hT : ∀ i, i < st.n → T i → (st.ob i).own = true) : Tab P st' := by
  obtain ⟨i, g, h1, h2, h3⟩ := h
  refine ⟨i, g, Nat.lt_of_lt_of_le h1 e.n, h2, ?_⟩
  rw [e.ob i h1 fun hi => by have := hT i h1 hi; rw [h3] at this; cases this]
  exact h3
theorem Tab.ex {P : Program} {st st' : St} (h : Tab P st) (e : Ex st st') : Tab P st' := h.ext e fun _ _ h => h.elim
theorem Tab.is {P : Program} {μ : Nat → Loc} {st : St} {w : World} (h : Tab P st) (hr : Rel μ st w) : Lib.TabIs P w "internal/strconv.uint64pow10" .u64 Lib.pow10Tab := by
  obtain ⟨i, g, h1, h2, h3⟩ := h
  have ho := hr.obj i h1
  rw [h3] at ho
  obtain ⟨_, E, fz, h4⟩ := ho
  unfold Lib.TabIs World.var?
  rw [h2]
  simp only [Option.bind_some, h4]
/-- The numeral of a number. -/
def numeral (n : Int) : ByteArray := ⟨(Lib.itoa n).toArray⟩
theorem Itoa_c (n : Int) (st : St) (h0 : -9223372036854775808 ≤ n) (h1 : n ≤ 9223372036854775807) (ht : Tab Tryd.prog st) :
    ACalls Tryd.prog 42 [.int .i64 n] st No (Pure1 (.str (numeral n)) st) := by
  refine ⟨by kernel_rfl, fun μ w cargs hr hvr => ?_⟩
  simp only [VRL, VR] at hvr
  obtain ⟨s, _, rfl, rfl, rfl⟩ := hvr
  refine (Any.strconv_Itoa Tryd.laysItoa n h0 h1 w (ht.is hr)).mono ?_
  rintro e w' ⟨rfl, k, os, rfl⟩
  have hpre : Pre w (grow (w.drewN k) os) := ⟨by simp [grow], fun b hb => Array.getElem?_append_left hb, rfl, rfl, rfl⟩
  exact ⟨_, _, μ, st, rfl, by simp only [VR]; rfl, hr.pre hpre, (Stp.refl _ _ _ _).pre hpre, ⟨rfl, rfl⟩⟩
end Go.Proofs.YtmphklmhhcmbnaaDoorW.Ax

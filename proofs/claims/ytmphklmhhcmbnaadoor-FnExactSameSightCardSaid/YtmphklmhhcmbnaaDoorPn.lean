/- strconv's table, out of what the rows list. -/
import Derived.Test.YtmphklmhhcmbnaaDoorRows
import Derived.Test.YtmphklmhhcmbnaaDoorIt
import Derived.LaidMore
namespace Go.Proofs.YtmphklmhhcmbnaaDoorW.Ax
open Go Go.RowKit Go.Proofs
set_option linter.unusedVariables false
/-- What the rows list. -/
def laid3 : List (String × DataW Unit) := [("math/bits.deBruijn32tab", Go.Proofs.YtmphklmhhcmbnaaDoor.Rows.laid_math_bits_deBruijn32tab), ("math/bits.deBruijn64tab", Go.Proofs.YtmphklmhhcmbnaaDoor.Rows.laid_math_bits_deBruijn64tab), ("internal/strconv.uint64pow10", Go.Proofs.YtmphklmhhcmbnaaDoor.Rows.laid_internal_strconv_uint64pow10)]
theorem gPow : Tryd.prog.globalNamed "internal/strconv.uint64pow10" = some 0 := by kernel_rfl
theorem tPow : (Tryd.prog.globals[0]?).map (·.type) = some 74 := by kernel_rfl
theorem uPow : Tryd.prog.underlying 74 = some (.array 20 68) := by kernel_rfl
theorem uU64 : Tryd.prog.underlying 68 = some (.int .u64) := by kernel_rfl
theorem cPow : Tryd.prog.cellsOf 74 = 20 := by kernel_rfl
theorem cU64 : Tryd.prog.cellsOf 68 = 1 := by kernel_rfl
theorem dPow : (Go.Proofs.YtmphklmhhcmbnaaDoor.Rows.laid_internal_strconv_uint64pow10 : DataW Unit) = Lib.tabData .u64 Lib.pow10Tab := by kernel_rfl
theorem laid_plain : (laid3.all fun x => x.2.handleName?.isNone) = true := by kernel_rfl
theorem tab_met {W : World} (h : laidMetH Tryd.prog laid3 W) : ∃ E fz, W.heap[0]? = some (.cells (Lib.pow10Tab.map fun z => Value.int .u64 z).toArray E fz) := by
  rw [MakeChecks.laidMetH_plain _ _ _ laid_plain] at h
  obtain ⟨ps, ⟨g0, t0, cs0, f0, p0, q0, hg0, ht0, hv0, hd0, ⟨g1, t1, cs1, f1, p1, q1, hg1, ht1, hv1, hd1, ⟨g2, t2, cs2, f2, p2, q2, hg2, ht2, hv2, hd2, _, _⟩, _⟩, _⟩, _, _⟩ := h
  obtain rfl := Option.some.inj (gPow.symm.trans hg2)
  obtain rfl := Option.some.inj (tPow.symm.trans ht2)
  rw [dPow] at hd2
  have hcs := Lib.cells_of_tab uPow uU64 cU64 cPow hd2
  unfold World.var? at hv2
  rw [gPow] at hv2
  simp only [Option.bind_some] at hv2
  split at hv2
  · rename_i cs E fz hh
    injection hv2 with hv2
    subst hv2
    rw [← hcs]
    exact ⟨E, fz, by simpa using hh⟩
  · cases hv2
/-- The door's own heap meets the condition. -/
theorem door_met (os : Os) (args : Array Value) : laidMetH Tryd.prog laid3 ((World.doorLaid Tryd.prog 24 os).forCall (fun _ _ => 0) ⟨#[], args, []⟩).memory :=
  laidMetH_of_parts3 (fuel := 8) (laidMet_of_run' 8 (by kernel_rfl) (by kernel_rfl)) (by kernel_rfl) (by kernel_rfl)
end Go.Proofs.YtmphklmhhcmbnaaDoorW.Ax

/- Own, Look: walked. -/
import Derived.Test.YtfhkjhnaihhdmaaYx
import Derived.Test.YtfhkjhnaihhdmaaYw
namespace Go.Proofs.YtfhkjhnaihhdmaaW.Ax
open Go Go.RowKit Go.Proofs Go.Proofs.Ytfhkjhnaihhdmaa.Pure
set_option linter.unusedVariables false
set_option maxRecDepth 100000

/-- An object and a name, right. -/
def OwOk (l : List Int) (obj name : Int) : Prop := name % 8 = 4 ∧ Isk l [obj, name] 5
theorem ow_in {l : List Int} {obj name : Int} (h : OwOk l obj name) : ObjIn l obj := by
  have h1 : obj % 8 = 5 := by simpa [rd] using h.2.1
  exact ⟨h.2.2.1, (leads_rf (h.2.2.2 obj (by simp))).2.1 h1⟩
theorem ow_iff (l : List Int) (obj name : Int) : (Rts l [obj, name] ∧ obj % 8 ∈ ([5] : List Int) ∧ name % 8 ∈ ([4] : List Int)) ↔ OwOk l obj name := by
  unfold OwOk Isk
  have e : rd [obj, name] 0 = obj := rfl
  rw [e]
  exact ⟨fun h => ⟨by simpa using h.2.2, by simpa using h.2.1, h.1⟩, fun h => ⟨h.2.2, by simpa using h.2.1, by simpa using h.1⟩⟩
theorem cA_some {l : List Int} {obj name v : Int} (h : ObjIn l obj) (e : ownC l obj name = some v) : v ∈ (cellsR l obj).1 ∧ 0 ≤ v / 8 ∧ v / 8 + 4 ≤ l.length ∧ l.length ≤ 2000 := by
  have hm := List.mem_of_find?_eq_some e
  have hc := cell_at h.1 (cells_rf h.1 h.2 _ hm)
  exact ⟨hm, hc.2.2.1, hc.2.2.2.1, hc.2.2.2.2.1⟩

end Go.Proofs.YtfhkjhnaihhdmaaW.Ax

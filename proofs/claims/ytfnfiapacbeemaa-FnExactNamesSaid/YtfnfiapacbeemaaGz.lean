/- The names of an object, told plainly. -/
import Derived.Test.YtfnfiapacbeemaaQ4
namespace Go.Proofs.YtfnfiapacbeemaaW.Ax
open Go Go.RowKit Go.Proofs Go.Proofs.Ytfnfiapacbeemaa.Pure
set_option linter.unusedVariables false

/-- The names of an object. -/
def nmsL (l : List Int) (obj : Int) : List ByteArray := (cellsR l obj).1.map fun v => txt l (rd l (v / 8 + 1) / 8)
theorem cells_lt {l : List Int} {obj : Int} (h : ObjIn l obj) : (cellsR l obj).1.length < l.length := by
  have := places_len h
  unfold places at this
  rwa [List.length_map] at this
end Go.Proofs.YtfnfiapacbeemaaW.Ax

/- Rules for regions with calls in a row, at this program and its types. -/
import Derived.Test.YtfnfiapacbeemaaXG
import Derived.Test.YtfnfiapacbeemaaXF
import Derived.Test.YtfnfiapacbeemaaXU
namespace Go.Proofs.YtfnfiapacbeemaaW.Ax
open Go
noncomputable section
abbrev cdx := @c_dx Go.Proofs.Try.prog
abbrev cdx1 := @c_dx1 Go.Proofs.Try.prog
abbrev yr := @y_run Go.Proofs.Try.prog Tys tysOk
abbrev bints := @b_ints Go.Proofs.Try.prog Tys tysOk
abbrev bblk := @b_blk Go.Proofs.Try.prog Tys tysOk
end
end Go.Proofs.YtfnfiapacbeemaaW.Ax

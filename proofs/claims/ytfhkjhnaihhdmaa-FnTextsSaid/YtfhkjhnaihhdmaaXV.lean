/- Rules for regions with calls in a row, at this program and its types. -/
import Derived.Test.YtfhkjhnaihhdmaaXG
import Derived.Test.YtfhkjhnaihhdmaaXF
import Derived.Test.YtfhkjhnaihhdmaaXU
namespace Go.Proofs.YtfhkjhnaihhdmaaW.Ax
open Go
noncomputable section
abbrev cdx := @c_dx Go.Proofs.Try.prog
abbrev cdx1 := @c_dx1 Go.Proofs.Try.prog
abbrev yr := @y_run Go.Proofs.Try.prog Tys tysOk
abbrev bints := @b_ints Go.Proofs.Try.prog Tys tysOk
abbrev bblk := @b_blk Go.Proofs.Try.prog Tys tysOk
end
end Go.Proofs.YtfhkjhnaihhdmaaW.Ax

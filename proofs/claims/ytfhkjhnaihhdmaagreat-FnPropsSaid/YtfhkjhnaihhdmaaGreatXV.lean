/- Rules for regions with calls in a row, at this program and its types. -/
import Derived.Test.YtfhkjhnaihhdmaaGreatXG
import Derived.Test.YtfhkjhnaihhdmaaGreatXF
import Derived.Test.YtfhkjhnaihhdmaaGreatXU
namespace Go.Proofs.YtfhkjhnaihhdmaaGreatW.Ax
open Go
noncomputable section
abbrev cdx := @c_dx Go.Proofs.Tryz.prog
abbrev cdx1 := @c_dx1 Go.Proofs.Tryz.prog
abbrev yr := @y_run Go.Proofs.Tryz.prog Tys tysOk
abbrev bints := @b_ints Go.Proofs.Tryz.prog Tys tysOk
abbrev bblk := @b_blk Go.Proofs.Tryz.prog Tys tysOk
end
end Go.Proofs.YtfhkjhnaihhdmaaGreatW.Ax

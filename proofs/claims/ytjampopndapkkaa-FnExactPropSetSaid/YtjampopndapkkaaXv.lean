/- More rules, at this program and its types. -/
import Derived.Test.YtjampopndapkkaaXu
import Derived.Test.YtjampopndapkkaaXr
namespace Go.Proofs.YtjampopndapkkaaW.Ax
open Go
noncomputable section
abbrev oints := @o_ints Go.Proofs.Try.prog Tys tysOk
abbrev oblk := @o_blk Go.Proofs.Try.prog Tys tysOk
abbrev cdt := @c_dt Go.Proofs.Try.prog
end
end Go.Proofs.YtjampopndapkkaaW.Ax

/- More rules, at this program and its types. -/
import Derived.Test.YtmphklmhhcmbnaaXu
import Derived.Test.YtmphklmhhcmbnaaXr
namespace Go.Proofs.YtmphklmhhcmbnaaW.Ax
open Go
noncomputable section
abbrev oints := @o_ints Go.Proofs.Try.prog Tys tysOk
abbrev oblk := @o_blk Go.Proofs.Try.prog Tys tysOk
abbrev cdt := @c_dt Go.Proofs.Try.prog
end
end Go.Proofs.YtmphklmhhcmbnaaW.Ax

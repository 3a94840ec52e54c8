/- Still more rules, at this program and its types. -/
import Derived.Test.YtmphklmhhcmbnaaXu
import Derived.Test.YtmphklmhhcmbnaaXy
namespace Go.Proofs.YtmphklmhhcmbnaaW.Ax
open Go
noncomputable section
abbrev cd3 := @c_d3 Go.Proofs.Try.prog
abbrev prun := @p_run Go.Proofs.Try.prog Tys tysOk
abbrev cdM := @c_dM Go.Proofs.Try.prog
abbrev xidx := @x_idx Go.Proofs.Try.prog Tys tysOk
end
end Go.Proofs.YtmphklmhhcmbnaaW.Ax

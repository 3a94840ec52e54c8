/- Still more rules, at this program and its types. -/
import Derived.Test.YtmphklmhhcmbnaaXma
import Derived.Test.YtmphklmhhcmbnaaXmv
namespace Go.Proofs.YtmphklmhhcmbnaaW.Ax
open Go
noncomputable section
abbrev cdv := @c_dv Go.Proofs.Try.prog
abbrev oallocP := @o_allocP Go.Proofs.Try.prog Tys tysOk
abbrev oboxP := @o_boxP Go.Proofs.Try.prog
abbrev ostP := @o_stP Go.Proofs.Try.prog Tys tysOk
abbrev cdv1 := @c_dv1 Go.Proofs.Try.prog
end
end Go.Proofs.YtmphklmhhcmbnaaW.Ax

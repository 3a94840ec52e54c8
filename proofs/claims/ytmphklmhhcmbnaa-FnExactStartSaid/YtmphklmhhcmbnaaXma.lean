/- Rules for maps and markers, at this program and its types. -/
import Derived.Test.YtmphklmhhcmbnaaXz
import Derived.Test.YtmphklmhhcmbnaaXv
import Derived.Test.YtmphklmhhcmbnaaXmq
namespace Go.Proofs.YtmphklmhhcmbnaaW.Ax
open Go
noncomputable section
abbrev omget := @o_mget Go.Proofs.Try.prog Tys tysOk
abbrev omput := @o_mput Go.Proofs.Try.prog Tys tysOk
abbrev oappT := @o_appT Go.Proofs.Try.prog Tys tysOk
abbrev oappG := @o_appG Go.Proofs.Try.prog Tys tysOk
abbrev cdt1 := @c_dt1 Go.Proofs.Try.prog
end
end Go.Proofs.YtmphklmhhcmbnaaW.Ax

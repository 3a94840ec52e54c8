/- Still more rules, at this program and its types. -/
import Derived.Test.YtjampopndapkkaaXu
import Derived.Test.YtjampopndapkkaaXy
namespace Go.Proofs.YtjampopndapkkaaW.Ax
open Go
noncomputable section
abbrev cd3 := @c_d3 Go.Proofs.Try.prog
abbrev prun := @p_run Go.Proofs.Try.prog Tys tysOk
abbrev cdM := @c_dM Go.Proofs.Try.prog
abbrev xidx := @x_idx Go.Proofs.Try.prog Tys tysOk
end
end Go.Proofs.YtjampopndapkkaaW.Ax

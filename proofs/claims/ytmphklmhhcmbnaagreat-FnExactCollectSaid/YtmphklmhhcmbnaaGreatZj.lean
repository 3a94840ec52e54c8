/- Room, Waste: walked. -/
import Derived.Test.YtmphklmhhcmbnaaGreatZi
import Derived.Test.YtmphklmhhcmbnaaGreatMA
namespace Go.Proofs.YtmphklmhhcmbnaaGreatW.Ax
open Go Go.RowKit Go.Proofs Go.Proofs.YtmphklmhhcmbnaaGreat.Pure
set_option linter.unusedVariables false
set_option maxRecDepth 100000

end Go.Proofs.YtmphklmhhcmbnaaGreatW.Ax

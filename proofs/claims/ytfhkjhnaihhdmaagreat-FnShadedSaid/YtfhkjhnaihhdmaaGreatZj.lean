/- Room, Waste: walked. -/
import Derived.Test.YtfhkjhnaihhdmaaGreatQ6
import Derived.Test.YtfhkjhnaihhdmaaGreatMA
namespace Go.Proofs.YtfhkjhnaihhdmaaGreatW.Ax
open Go Go.RowKit Go.Proofs Go.Proofs.YtfhkjhnaihhdmaaGreat.Pure
set_option linter.unusedVariables false
set_option maxRecDepth 100000

end Go.Proofs.YtfhkjhnaihhdmaaGreatW.Ax

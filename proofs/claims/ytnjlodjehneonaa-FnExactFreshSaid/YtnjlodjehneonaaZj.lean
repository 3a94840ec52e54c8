/- Room, Waste: walked. -/
import Derived.Test.YtnjlodjehneonaaZi
import Derived.Test.YtnjlodjehneonaaMA
namespace Go.Proofs.YtnjlodjehneonaaW.Ax
open Go Go.RowKit Go.Proofs Go.Proofs.Ytnjlodjehneonaa.Pure
set_option linter.unusedVariables false
set_option maxRecDepth 100000

end Go.Proofs.YtnjlodjehneonaaW.Ax

-- printed by pr.py out of the kit's print program: not written by hand
import Derived.Test.YtnmlddacgpmobaaProg
import Derived.Below
import Derived.Deep.Draws
import Derived.Deep.AppendLies
import Derived.Maps.AppendAt
import Derived.OwnWalk
import Derived.Laws.BytesArg
import Derived.Laws.MakeOwn
import Derived.Laws.OwnMore
import Derived.Deep.OwnRows
import Derived.Tactics
import Derived.Lib.ConvBytes
import Derived.Laws.Slices
import Derived.WalkKit
import Derived.KernelRfl
import Derived.RowKit3
import Derived.Deep.LoopGhost
import Derived.Deep.QuietTactic
import Derived.BigQuiet
import Derived.WideLaws
import Derived.Deep.DeepCutAuto
import Derived.Deep.CutBlock
import Derived.Deep.RegionHeld3
import Derived.Laws.Rows
import Derived.Lib.AppendStr
import Derived.ArgAppend
import Derived.Laws.IdiomCopy
import Derived.OrdersHeld
import Derived.Laws.BitsLemmas
import Derived.RowKit
import Derived.Test.YtnmlddacgpmobaaWWords
import Derived.Test.YtnmlddacgpmobaaWLast
import Derived.Test.YtnmlddacgpmobaaWTab
import Derived.Test.YtnmlddacgpmobaaWFour
import Derived.Test.YtnmlddacgpmobaaWQPut
import Derived.Test.YtnmlddacgpmobaaWApart
import Derived.Test.YtnmlddacgpmobaaWArr
import Derived.Test.YtnmlddacgpmobaaWZeros
import Derived.Test.YtnmlddacgpmobaaWFoot
import Derived.Test.YtnmlddacgpmobaaWKept
import Derived.Test.YtnmlddacgpmobaaWShare
import Derived.Test.YtnmlddacgpmobaaWN
import Derived.Test.YtnmlddacgpmobaaWFootNe
import Derived.Test.YtnmlddacgpmobaaWAt
import Derived.Test.YtnmlddacgpmobaaWEqStruct
import Derived.Test.YtnmlddacgpmobaaWRepsOne
import Derived.Test.YtnmlddacgpmobaaWInv
import Derived.Test.YtnmlddacgpmobaaWInvWords
import Derived.Test.YtnmlddacgpmobaaWGuard
import Derived.Test.YtnmlddacgpmobaaWNEv
import Derived.Test.YtnmlddacgpmobaaWMore
import Derived.Test.YtnmlddacgpmobaaHw
namespace Go.Proofs.Ytnmlddacgpmobaa.F
open Go.RowKit Go.Proofs.YtnmlddacgpmobaaW.PrintWords Go.Proofs.YtnmlddacgpmobaaW.PrintLast Go.Proofs.YtnmlddacgpmobaaW.PrintMore Go.Proofs.YtnmlddacgpmobaaW.Hand
attribute [local go_sem] max2_int min2_int max_two min_two max_three min_three max_four min_four   -- for this text's walks alone
set_option linter.unusedVariables false
set_option linter.unusedSimpArgs false



def errW : Option Int → Value
  | none => .nilIface
  | some c => .iface 0 (.int .i64 c)
theorem errW_none : errW none = .nilIface := rfl
theorem errW_some (c : Int) : errW (some c) = .iface 0 (.int .i64 c) := rfl

theorem info3 : (Try.prog.info? 3).map (fun i => (i.zero, i.size, i.bytes)) = some (some (.int .i64 0), 1, 8) := by kernel_rfl
-- the values' own types

end Go.Proofs.Ytnmlddacgpmobaa.F

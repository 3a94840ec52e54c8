/-
  No cell of these rows narrows 'for every input' (looked for: loops, veiled, ifaces, maps, wideKeys, modest, calm, conditions, laid).
  DERIVED. THE GIVEN ROWS OF THIS SEAT. 6 by the template 'for every input the law returns true; each argument reads behind the call as it read before'; 0 by the template 'total and deterministic' (their statements: YtfhkjhnaihhdmaaGreatTotals.lean).
  GIVEN WITH THE SEED: the statements are not yours to turn. If you find one false, say at which input.
  Laid BY PROGRAM, IN A SANDBOX (cutbox-rows.mjs): the forced cells as the released guide's own fill.sh prints them over the translation 5336c723cfcb58ef… (all of the seat's roots in one cut). By AI agents, Wed Nov 11 2026. No macro, syntax, notation, axiom, sorry.
-/
import Derived.Test.YtfhkjhnaihhdmaaGreatChecked
import GoSem.Claim
import GoSem.ClaimJoined
import GoSem.ClaimMapViews
import Derived.JoinedTies
import Derived.KernelRfl
namespace Go.Proofs.YtfhkjhnaihhdmaaGreat
/- THE CELL 'sum', in the pinned program and in every row, IS THE sha256 OF THE DUMP (.gsa) THAT YtfhkjhnaihhdmaaGreatProg.lean LOADS. Nothing in Lean hashes anything: it is a label: what it is worth is what the hold of that sum in a sandbox is worth. -/
noncomputable def Tryz.pinned : Pinned := { name := "ytfhkjhnaihhdmaagreat", sum := "5336c723cfcb58ef7913aaa4dd528fa5d1535005c091a040d349fab1d641107e", checked := Tryz.checked }
namespace Rows
def none {H : Type} : Left H := { results := [], args := [] }

/-- 'laws.FnShaded': WHATEVER THE INPUT: true; the input reads as it did. -/
def fnShadedSpec : ChangeSpec := { name := "fnShaded", fn := fun _ => fun
  | [d] => { results := [.lit (.bool true)], args := [d] }
  | _ => none }
def fnShadedRow : OpenClaim := { program := "ytfhkjhnaihhdmaagreat", sum := "5336c723cfcb58ef7913aaa4dd528fa5d1535005c091a040d349fab1d641107e", func := "loop.example/g00242/laws.FnShaded", spec := "fnShaded", inPlace := ["slices.overlaps[int]"], unfollowed := true, recurses := true, apart := false }
def FnShadedSaid : Prop := fnShadedRow.holds Tryz.pinned (OpenSpec.ofChange fnShadedSpec)

/-- ITS FALSE NEIGHBOUR: 'it returns false'. Refute it at one input. -/
def fnShadedWrong : ChangeSpec := { name := "fnShaded", fn := fun _ => fun
  | [d] => { results := [.lit (.bool false)], args := [d] }
  | _ => none }
def FnShadedWrongFalsely : Prop := fnShadedRow.holds Tryz.pinned (OpenSpec.ofChange fnShadedWrong)

/-- 'laws.FnMarks': WHATEVER THE INPUT: true; the input reads as it did. -/
def fnMarksSpec : ChangeSpec := { name := "fnMarks", fn := fun _ => fun
  | [d] => { results := [.lit (.bool true)], args := [d] }
  | _ => none }
def fnMarksRow : OpenClaim := { program := "ytfhkjhnaihhdmaagreat", sum := "5336c723cfcb58ef7913aaa4dd528fa5d1535005c091a040d349fab1d641107e", func := "loop.example/g00242/laws.FnMarks", spec := "fnMarks", inPlace := ["slices.overlaps[int]"], unfollowed := true, recurses := true, apart := false }
def FnMarksSaid : Prop := fnMarksRow.holds Tryz.pinned (OpenSpec.ofChange fnMarksSpec)

/-- ITS FALSE NEIGHBOUR: 'it returns false'. Refute it at one input. -/
def fnMarksWrong : ChangeSpec := { name := "fnMarks", fn := fun _ => fun
  | [d] => { results := [.lit (.bool false)], args := [d] }
  | _ => none }
def FnMarksWrongFalsely : Prop := fnMarksRow.holds Tryz.pinned (OpenSpec.ofChange fnMarksWrong)

/-- 'laws.FnStarted': WHATEVER THE INPUT: true; the input reads as it did. -/
def fnStartedSpec : ChangeSpec := { name := "fnStarted", fn := fun _ => fun
  | [d] => { results := [.lit (.bool true)], args := [d] }
  | _ => none }
def fnStartedRow : OpenClaim := { program := "ytfhkjhnaihhdmaagreat", sum := "5336c723cfcb58ef7913aaa4dd528fa5d1535005c091a040d349fab1d641107e", func := "loop.example/g00242/laws.FnStarted", spec := "fnStarted", inPlace := ["slices.overlaps[int]"], unfollowed := true, recurses := true, apart := false }
def FnStartedSaid : Prop := fnStartedRow.holds Tryz.pinned (OpenSpec.ofChange fnStartedSpec)

/-- ITS FALSE NEIGHBOUR: 'it returns false'. Refute it at one input. -/
def fnStartedWrong : ChangeSpec := { name := "fnStarted", fn := fun _ => fun
  | [d] => { results := [.lit (.bool false)], args := [d] }
  | _ => none }
def FnStartedWrongFalsely : Prop := fnStartedRow.holds Tryz.pinned (OpenSpec.ofChange fnStartedWrong)

/-- 'laws.FnScopes': WHATEVER THE INPUT: true; the input reads as it did. -/
def fnScopesSpec : ChangeSpec := { name := "fnScopes", fn := fun _ => fun
  | [d] => { results := [.lit (.bool true)], args := [d] }
  | _ => none }
def fnScopesRow : OpenClaim := { program := "ytfhkjhnaihhdmaagreat", sum := "5336c723cfcb58ef7913aaa4dd528fa5d1535005c091a040d349fab1d641107e", func := "loop.example/g00242/laws.FnScopes", spec := "fnScopes", unfollowed := true, recurses := true, apart := false }
def FnScopesSaid : Prop := fnScopesRow.holds Tryz.pinned (OpenSpec.ofChange fnScopesSpec)

/-- ITS FALSE NEIGHBOUR: 'it returns false'. Refute it at one input. -/
def fnScopesWrong : ChangeSpec := { name := "fnScopes", fn := fun _ => fun
  | [d] => { results := [.lit (.bool false)], args := [d] }
  | _ => none }
def FnScopesWrongFalsely : Prop := fnScopesRow.holds Tryz.pinned (OpenSpec.ofChange fnScopesWrong)

/-- 'laws.FnProps': WHATEVER THE INPUT: true; the input reads as it did. -/
def fnPropsSpec : ChangeSpec := { name := "fnProps", fn := fun _ => fun
  | [d] => { results := [.lit (.bool true)], args := [d] }
  | _ => none }
def fnPropsRow : OpenClaim := { program := "ytfhkjhnaihhdmaagreat", sum := "5336c723cfcb58ef7913aaa4dd528fa5d1535005c091a040d349fab1d641107e", func := "loop.example/g00242/laws.FnProps", spec := "fnProps", unfollowed := true, recurses := true, apart := false }
def FnPropsSaid : Prop := fnPropsRow.holds Tryz.pinned (OpenSpec.ofChange fnPropsSpec)

/-- ITS FALSE NEIGHBOUR: 'it returns false'. Refute it at one input. -/
def fnPropsWrong : ChangeSpec := { name := "fnProps", fn := fun _ => fun
  | [d] => { results := [.lit (.bool false)], args := [d] }
  | _ => none }
def FnPropsWrongFalsely : Prop := fnPropsRow.holds Tryz.pinned (OpenSpec.ofChange fnPropsWrong)

/-- 'laws.FnProtos': WHATEVER THE INPUT: true; the input reads as it did. -/
def fnProtosSpec : ChangeSpec := { name := "fnProtos", fn := fun _ => fun
  | [d] => { results := [.lit (.bool true)], args := [d] }
  | _ => none }
def fnProtosRow : OpenClaim := { program := "ytfhkjhnaihhdmaagreat", sum := "5336c723cfcb58ef7913aaa4dd528fa5d1535005c091a040d349fab1d641107e", func := "loop.example/g00242/laws.FnProtos", spec := "fnProtos", unfollowed := true, recurses := true, apart := false }
def FnProtosSaid : Prop := fnProtosRow.holds Tryz.pinned (OpenSpec.ofChange fnProtosSpec)

/-- ITS FALSE NEIGHBOUR: 'it returns false'. Refute it at one input. -/
def fnProtosWrong : ChangeSpec := { name := "fnProtos", fn := fun _ => fun
  | [d] => { results := [.lit (.bool false)], args := [d] }
  | _ => none }
def FnProtosWrongFalsely : Prop := fnProtosRow.holds Tryz.pinned (OpenSpec.ofChange fnProtosWrong)

/- THE SECOND FORM. 'bulk': how many values and letters a reading holds, each counted each time it is reached (what is shared counts as often as it is met; a slice's spare places count too). A statement '..UptoSaid' is the law's where the arguments, and the package variables that the reading takes, are together of bulk at most 1048576: NARROWER than '..Said'. Prove '..Said' where nothing that the law and all that it calls make is longer than what came in: it says more and counts as full. Else prove '..UptoSaid'. A law counts once. -/
mutual
def uptoBulk {H : Type} : DataW H → Nat
  | .lit (.string bytes) => bytes.length + 1
  | .lit _ => 1
  | .nil => 1
  | .ptr d => uptoBulk d + 1
  | .slice elems spare => uptoBulkAll elems + uptoBulkAll spare + 1
  | .agg parts => uptoBulkAll parts + 1
  | .iface _ d => uptoBulk d + 1
  | .map entries => uptoBulkEntries entries + 1
  | .held _ => 1
def uptoBulkAll {H : Type} : List (DataW H) → Nat
  | [] => 0
  | d :: r => uptoBulk d + uptoBulkAll r
def uptoBulkEntries {H : Type} : List (Lit × DataW H) → Nat
  | [] => 0
  | x :: r => uptoBulkEntry x + uptoBulkEntries r
def uptoBulkEntry {H : Type} : Lit × DataW H → Nat
  | (.string bytes, d) => bytes.length + uptoBulk d + 1
  | (_, d) => uptoBulk d + 1
 end
def uptoSmall : (H : Type) → List (DataW H) → Bool := fun _ ds => decide (uptoBulkAll ds ≤ 1048576)
def OpenSpec.upto (s : _root_.Go.ChangeSpec) : _root_.Go.OpenSpec := { _root_.Go.OpenSpec.ofChange s with cond := some uptoSmall }

/-- 'laws.FnShaded', WHERE WHAT IT READS IS OF BULK AT MOST 1048576: true; the input reads as it did. -/
def fnShadedUptoRow : OpenClaim := { program := "ytfhkjhnaihhdmaagreat", sum := "5336c723cfcb58ef7913aaa4dd528fa5d1535005c091a040d349fab1d641107e", func := "loop.example/g00242/laws.FnShaded", spec := "fnShaded", inPlace := ["slices.overlaps[int]"], unfollowed := true, recurses := true, apart := false, narrowed := true }
def FnShadedUptoSaid : Prop := fnShadedUptoRow.holds Tryz.pinned (OpenSpec.upto fnShadedSpec)

/-- 'laws.FnMarks', WHERE WHAT IT READS IS OF BULK AT MOST 1048576: true; the input reads as it did. -/
def fnMarksUptoRow : OpenClaim := { program := "ytfhkjhnaihhdmaagreat", sum := "5336c723cfcb58ef7913aaa4dd528fa5d1535005c091a040d349fab1d641107e", func := "loop.example/g00242/laws.FnMarks", spec := "fnMarks", inPlace := ["slices.overlaps[int]"], unfollowed := true, recurses := true, apart := false, narrowed := true }
def FnMarksUptoSaid : Prop := fnMarksUptoRow.holds Tryz.pinned (OpenSpec.upto fnMarksSpec)

/-- 'laws.FnStarted', WHERE WHAT IT READS IS OF BULK AT MOST 1048576: true; the input reads as it did. -/
def fnStartedUptoRow : OpenClaim := { program := "ytfhkjhnaihhdmaagreat", sum := "5336c723cfcb58ef7913aaa4dd528fa5d1535005c091a040d349fab1d641107e", func := "loop.example/g00242/laws.FnStarted", spec := "fnStarted", inPlace := ["slices.overlaps[int]"], unfollowed := true, recurses := true, apart := false, narrowed := true }
def FnStartedUptoSaid : Prop := fnStartedUptoRow.holds Tryz.pinned (OpenSpec.upto fnStartedSpec)

/-- 'laws.FnScopes', WHERE WHAT IT READS IS OF BULK AT MOST 1048576: true; the input reads as it did. -/
def fnScopesUptoRow : OpenClaim := { program := "ytfhkjhnaihhdmaagreat", sum := "5336c723cfcb58ef7913aaa4dd528fa5d1535005c091a040d349fab1d641107e", func := "loop.example/g00242/laws.FnScopes", spec := "fnScopes", unfollowed := true, recurses := true, apart := false, narrowed := true }
def FnScopesUptoSaid : Prop := fnScopesUptoRow.holds Tryz.pinned (OpenSpec.upto fnScopesSpec)

/-- 'laws.FnProps', WHERE WHAT IT READS IS OF BULK AT MOST 1048576: true; the input reads as it did. -/
def fnPropsUptoRow : OpenClaim := { program := "ytfhkjhnaihhdmaagreat", sum := "5336c723cfcb58ef7913aaa4dd528fa5d1535005c091a040d349fab1d641107e", func := "loop.example/g00242/laws.FnProps", spec := "fnProps", unfollowed := true, recurses := true, apart := false, narrowed := true }
def FnPropsUptoSaid : Prop := fnPropsUptoRow.holds Tryz.pinned (OpenSpec.upto fnPropsSpec)

/-- 'laws.FnProtos', WHERE WHAT IT READS IS OF BULK AT MOST 1048576: true; the input reads as it did. -/
def fnProtosUptoRow : OpenClaim := { program := "ytfhkjhnaihhdmaagreat", sum := "5336c723cfcb58ef7913aaa4dd528fa5d1535005c091a040d349fab1d641107e", func := "loop.example/g00242/laws.FnProtos", spec := "fnProtos", unfollowed := true, recurses := true, apart := false, narrowed := true }
def FnProtosUptoSaid : Prop := fnProtosUptoRow.holds Tryz.pinned (OpenSpec.upto fnProtosSpec)

end Rows
end Go.Proofs.YtfhkjhnaihhdmaaGreat

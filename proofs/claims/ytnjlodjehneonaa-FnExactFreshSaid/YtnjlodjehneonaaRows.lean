/-
  No cell of these rows narrows 'for every input' (looked for: loops, veiled, ifaces, maps, wideKeys, modest, calm, conditions, laid).
  DERIVED. THE GIVEN ROWS OF THIS SEAT. 12 by the template 'for every input the law returns true; each argument reads behind the call as it read before'; 0 by the template 'total and deterministic' (their statements: YtnjlodjehneonaaTotals.lean).
  GIVEN WITH THE SEED: the statements are not yours to turn. If you find one false, say at which input.
  Laid BY PROGRAM, IN A SANDBOX (cutbox-rows.mjs): the forced cells as the released guide's own fill.sh prints them over the translation c5e8351bbd9e45aa… (all of the seat's roots in one cut). By AI agents, Wed Nov 11 2026. No macro, syntax, notation, axiom, sorry.
-/
import Derived.Test.YtnjlodjehneonaaChecked
import GoSem.Claim
import GoSem.ClaimJoined
import GoSem.ClaimMapViews
import Derived.JoinedTies
import Derived.KernelRfl
namespace Go.Proofs.Ytnjlodjehneonaa
/- THE CELL 'sum', in the pinned program and in every row, IS THE sha256 OF THE DUMP (.gsa) THAT YtnjlodjehneonaaProg.lean LOADS. Nothing in Lean hashes anything: it is a label: what it is worth is what the hold of that sum in a sandbox is worth. -/
noncomputable def Try.pinned : Pinned := { name := "ytnjlodjehneonaa", sum := "c5e8351bbd9e45aa9a2fb59910e7074877e1a45f51af296317d6b9a4b37f1c66", checked := Try.checked }
namespace Rows
def none {H : Type} : Left H := { results := [], args := [] }

/-- 'laws.FnExactKindAt': WHATEVER THE INPUT: true; the input reads as it did. -/
def fnExactKindAtSpec : ChangeSpec := { name := "fnExactKindAt", fn := fun _ => fun
  | [d1, d2] => { results := [.lit (.bool true)], args := [d1, d2] }
  | _ => none }
def fnExactKindAtRow : OpenClaim := { program := "ytnjlodjehneonaa", sum := "c5e8351bbd9e45aa9a2fb59910e7074877e1a45f51af296317d6b9a4b37f1c66", func := "loop.example/g00242/laws.FnExactKindAt", spec := "fnExactKindAt", apart := false }
def FnExactKindAtSaid : Prop := fnExactKindAtRow.holds Try.pinned (OpenSpec.ofChange fnExactKindAtSpec)

/-- ITS FALSE NEIGHBOUR: 'it returns false'. Refute it at one input. -/
def fnExactKindAtWrong : ChangeSpec := { name := "fnExactKindAt", fn := fun _ => fun
  | [d1, d2] => { results := [.lit (.bool false)], args := [d1, d2] }
  | _ => none }
def FnExactKindAtWrongFalsely : Prop := fnExactKindAtRow.holds Try.pinned (OpenSpec.ofChange fnExactKindAtWrong)

/-- 'laws.FnExactSizeAt': WHATEVER THE INPUT: true; the input reads as it did. -/
def fnExactSizeAtSpec : ChangeSpec := { name := "fnExactSizeAt", fn := fun _ => fun
  | [d1, d2] => { results := [.lit (.bool true)], args := [d1, d2] }
  | _ => none }
def fnExactSizeAtRow : OpenClaim := { program := "ytnjlodjehneonaa", sum := "c5e8351bbd9e45aa9a2fb59910e7074877e1a45f51af296317d6b9a4b37f1c66", func := "loop.example/g00242/laws.FnExactSizeAt", spec := "fnExactSizeAt", apart := false }
def FnExactSizeAtSaid : Prop := fnExactSizeAtRow.holds Try.pinned (OpenSpec.ofChange fnExactSizeAtSpec)

/-- ITS FALSE NEIGHBOUR: 'it returns false'. Refute it at one input. -/
def fnExactSizeAtWrong : ChangeSpec := { name := "fnExactSizeAt", fn := fun _ => fun
  | [d1, d2] => { results := [.lit (.bool false)], args := [d1, d2] }
  | _ => none }
def FnExactSizeAtWrongFalsely : Prop := fnExactSizeAtRow.holds Try.pinned (OpenSpec.ofChange fnExactSizeAtWrong)

/-- 'laws.FnExactTake': WHATEVER THE INPUT: true; the input reads as it did. -/
def fnExactTakeSpec : ChangeSpec := { name := "fnExactTake", fn := fun _ => fun
  | [d1, d2, d3] => { results := [.lit (.bool true)], args := [d1, d2, d3] }
  | _ => none }
def fnExactTakeRow : OpenClaim := { program := "ytnjlodjehneonaa", sum := "c5e8351bbd9e45aa9a2fb59910e7074877e1a45f51af296317d6b9a4b37f1c66", func := "loop.example/g00242/laws.FnExactTake", spec := "fnExactTake", apart := false }
def FnExactTakeSaid : Prop := fnExactTakeRow.holds Try.pinned (OpenSpec.ofChange fnExactTakeSpec)

/-- ITS FALSE NEIGHBOUR: 'it returns false'. Refute it at one input. -/
def fnExactTakeWrong : ChangeSpec := { name := "fnExactTake", fn := fun _ => fun
  | [d1, d2, d3] => { results := [.lit (.bool false)], args := [d1, d2, d3] }
  | _ => none }
def FnExactTakeWrongFalsely : Prop := fnExactTakeRow.holds Try.pinned (OpenSpec.ofChange fnExactTakeWrong)

/-- 'laws.FnExactSlots': WHATEVER THE INPUT: true; the input reads as it did. -/
def fnExactSlotsSpec : ChangeSpec := { name := "fnExactSlots", fn := fun _ => fun
  | [d1, d2] => { results := [.lit (.bool true)], args := [d1, d2] }
  | _ => none }
def fnExactSlotsRow : OpenClaim := { program := "ytnjlodjehneonaa", sum := "c5e8351bbd9e45aa9a2fb59910e7074877e1a45f51af296317d6b9a4b37f1c66", func := "loop.example/g00242/laws.FnExactSlots", spec := "fnExactSlots", apart := false }
def FnExactSlotsSaid : Prop := fnExactSlotsRow.holds Try.pinned (OpenSpec.ofChange fnExactSlotsSpec)

/-- ITS FALSE NEIGHBOUR: 'it returns false'. Refute it at one input. -/
def fnExactSlotsWrong : ChangeSpec := { name := "fnExactSlots", fn := fun _ => fun
  | [d1, d2] => { results := [.lit (.bool false)], args := [d1, d2] }
  | _ => none }
def FnExactSlotsWrongFalsely : Prop := fnExactSlotsRow.holds Try.pinned (OpenSpec.ofChange fnExactSlotsWrong)

/-- 'laws.FnExactGive': WHATEVER THE INPUT: true; the input reads as it did. -/
def fnExactGiveSpec : ChangeSpec := { name := "fnExactGive", fn := fun _ => fun
  | [d1, d2] => { results := [.lit (.bool true)], args := [d1, d2] }
  | _ => none }
def fnExactGiveRow : OpenClaim := { program := "ytnjlodjehneonaa", sum := "c5e8351bbd9e45aa9a2fb59910e7074877e1a45f51af296317d6b9a4b37f1c66", func := "loop.example/g00242/laws.FnExactGive", spec := "fnExactGive", apart := false }
def FnExactGiveSaid : Prop := fnExactGiveRow.holds Try.pinned (OpenSpec.ofChange fnExactGiveSpec)

/-- ITS FALSE NEIGHBOUR: 'it returns false'. Refute it at one input. -/
def fnExactGiveWrong : ChangeSpec := { name := "fnExactGive", fn := fun _ => fun
  | [d1, d2] => { results := [.lit (.bool false)], args := [d1, d2] }
  | _ => none }
def FnExactGiveWrongFalsely : Prop := fnExactGiveRow.holds Try.pinned (OpenSpec.ofChange fnExactGiveWrong)

/-- 'laws.FnExactFresh': WHATEVER THE INPUT: true; the input reads as it did. -/
def fnExactFreshSpec : ChangeSpec := { name := "fnExactFresh", fn := fun _ => fun
  | [d1, d2] => { results := [.lit (.bool true)], args := [d1, d2] }
  | _ => none }
def fnExactFreshRow : OpenClaim := { program := "ytnjlodjehneonaa", sum := "c5e8351bbd9e45aa9a2fb59910e7074877e1a45f51af296317d6b9a4b37f1c66", func := "loop.example/g00242/laws.FnExactFresh", spec := "fnExactFresh", inPlace := ["slices.overlaps[int]"], unfollowed := true, recurses := true, apart := false }
def FnExactFreshSaid : Prop := fnExactFreshRow.holds Try.pinned (OpenSpec.ofChange fnExactFreshSpec)

/-- ITS FALSE NEIGHBOUR: 'it returns false'. Refute it at one input. -/
def fnExactFreshWrong : ChangeSpec := { name := "fnExactFresh", fn := fun _ => fun
  | [d1, d2] => { results := [.lit (.bool false)], args := [d1, d2] }
  | _ => none }
def FnExactFreshWrongFalsely : Prop := fnExactFreshRow.holds Try.pinned (OpenSpec.ofChange fnExactFreshWrong)

/-- 'laws.FnExactHeapOk': WHATEVER THE INPUT: true; the input reads as it did. -/
def fnExactHeapOkSpec : ChangeSpec := { name := "fnExactHeapOk", fn := fun _ => fun
  | [d] => { results := [.lit (.bool true)], args := [d] }
  | _ => none }
def fnExactHeapOkRow : OpenClaim := { program := "ytnjlodjehneonaa", sum := "c5e8351bbd9e45aa9a2fb59910e7074877e1a45f51af296317d6b9a4b37f1c66", func := "loop.example/g00242/laws.FnExactHeapOk", spec := "fnExactHeapOk", unfollowed := true, recurses := true, apart := false }
def FnExactHeapOkSaid : Prop := fnExactHeapOkRow.holds Try.pinned (OpenSpec.ofChange fnExactHeapOkSpec)

/-- ITS FALSE NEIGHBOUR: 'it returns false'. Refute it at one input. -/
def fnExactHeapOkWrong : ChangeSpec := { name := "fnExactHeapOk", fn := fun _ => fun
  | [d] => { results := [.lit (.bool false)], args := [d] }
  | _ => none }
def FnExactHeapOkWrongFalsely : Prop := fnExactHeapOkRow.holds Try.pinned (OpenSpec.ofChange fnExactHeapOkWrong)

/-- 'laws.FnExactShapeOk': WHATEVER THE INPUT: true; the input reads as it did. -/
def fnExactShapeOkSpec : ChangeSpec := { name := "fnExactShapeOk", fn := fun _ => fun
  | [d1, d2] => { results := [.lit (.bool true)], args := [d1, d2] }
  | _ => none }
def fnExactShapeOkRow : OpenClaim := { program := "ytnjlodjehneonaa", sum := "c5e8351bbd9e45aa9a2fb59910e7074877e1a45f51af296317d6b9a4b37f1c66", func := "loop.example/g00242/laws.FnExactShapeOk", spec := "fnExactShapeOk", unfollowed := true, recurses := true, apart := false }
def FnExactShapeOkSaid : Prop := fnExactShapeOkRow.holds Try.pinned (OpenSpec.ofChange fnExactShapeOkSpec)

/-- ITS FALSE NEIGHBOUR: 'it returns false'. Refute it at one input. -/
def fnExactShapeOkWrong : ChangeSpec := { name := "fnExactShapeOk", fn := fun _ => fun
  | [d1, d2] => { results := [.lit (.bool false)], args := [d1, d2] }
  | _ => none }
def FnExactShapeOkWrongFalsely : Prop := fnExactShapeOkRow.holds Try.pinned (OpenSpec.ofChange fnExactShapeOkWrong)

/-- 'laws.FnExactRootsOk': WHATEVER THE INPUT: true; the input reads as it did. -/
def fnExactRootsOkSpec : ChangeSpec := { name := "fnExactRootsOk", fn := fun _ => fun
  | [d1, d2] => { results := [.lit (.bool true)], args := [d1, d2] }
  | _ => none }
def fnExactRootsOkRow : OpenClaim := { program := "ytnjlodjehneonaa", sum := "c5e8351bbd9e45aa9a2fb59910e7074877e1a45f51af296317d6b9a4b37f1c66", func := "loop.example/g00242/laws.FnExactRootsOk", spec := "fnExactRootsOk", unfollowed := true, recurses := true, apart := false }
def FnExactRootsOkSaid : Prop := fnExactRootsOkRow.holds Try.pinned (OpenSpec.ofChange fnExactRootsOkSpec)

/-- ITS FALSE NEIGHBOUR: 'it returns false'. Refute it at one input. -/
def fnExactRootsOkWrong : ChangeSpec := { name := "fnExactRootsOk", fn := fun _ => fun
  | [d1, d2] => { results := [.lit (.bool false)], args := [d1, d2] }
  | _ => none }
def FnExactRootsOkWrongFalsely : Prop := fnExactRootsOkRow.holds Try.pinned (OpenSpec.ofChange fnExactRootsOkWrong)

/-- 'laws.FnExactTextOf': WHATEVER THE INPUT: true; the input reads as it did. -/
def fnExactTextOfSpec : ChangeSpec := { name := "fnExactTextOf", fn := fun _ => fun
  | [d1, d2] => { results := [.lit (.bool true)], args := [d1, d2] }
  | _ => none }
def fnExactTextOfRow : OpenClaim := { program := "ytnjlodjehneonaa", sum := "c5e8351bbd9e45aa9a2fb59910e7074877e1a45f51af296317d6b9a4b37f1c66", func := "loop.example/g00242/laws.FnExactTextOf", spec := "fnExactTextOf", unfollowed := true, recurses := true, apart := false }
def FnExactTextOfSaid : Prop := fnExactTextOfRow.holds Try.pinned (OpenSpec.ofChange fnExactTextOfSpec)

/-- ITS FALSE NEIGHBOUR: 'it returns false'. Refute it at one input. -/
def fnExactTextOfWrong : ChangeSpec := { name := "fnExactTextOf", fn := fun _ => fun
  | [d1, d2] => { results := [.lit (.bool false)], args := [d1, d2] }
  | _ => none }
def FnExactTextOfWrongFalsely : Prop := fnExactTextOfRow.holds Try.pinned (OpenSpec.ofChange fnExactTextOfWrong)

/-- 'laws.FnExactTextFind': WHATEVER THE INPUT: true; the input reads as it did. -/
def fnExactTextFindSpec : ChangeSpec := { name := "fnExactTextFind", fn := fun _ => fun
  | [d1, d2] => { results := [.lit (.bool true)], args := [d1, d2] }
  | _ => none }
def fnExactTextFindRow : OpenClaim := { program := "ytnjlodjehneonaa", sum := "c5e8351bbd9e45aa9a2fb59910e7074877e1a45f51af296317d6b9a4b37f1c66", func := "loop.example/g00242/laws.FnExactTextFind", spec := "fnExactTextFind", unfollowed := true, recurses := true, apart := false }
def FnExactTextFindSaid : Prop := fnExactTextFindRow.holds Try.pinned (OpenSpec.ofChange fnExactTextFindSpec)

/-- ITS FALSE NEIGHBOUR: 'it returns false'. Refute it at one input. -/
def fnExactTextFindWrong : ChangeSpec := { name := "fnExactTextFind", fn := fun _ => fun
  | [d1, d2] => { results := [.lit (.bool false)], args := [d1, d2] }
  | _ => none }
def FnExactTextFindWrongFalsely : Prop := fnExactTextFindRow.holds Try.pinned (OpenSpec.ofChange fnExactTextFindWrong)

/-- 'laws.FnExactFunOf': WHATEVER THE INPUT: true; the input reads as it did. -/
def fnExactFunOfSpec : ChangeSpec := { name := "fnExactFunOf", fn := fun _ => fun
  | [d1, d2] => { results := [.lit (.bool true)], args := [d1, d2] }
  | _ => none }
def fnExactFunOfRow : OpenClaim := { program := "ytnjlodjehneonaa", sum := "c5e8351bbd9e45aa9a2fb59910e7074877e1a45f51af296317d6b9a4b37f1c66", func := "loop.example/g00242/laws.FnExactFunOf", spec := "fnExactFunOf", unfollowed := true, recurses := true, apart := false }
def FnExactFunOfSaid : Prop := fnExactFunOfRow.holds Try.pinned (OpenSpec.ofChange fnExactFunOfSpec)

/-- ITS FALSE NEIGHBOUR: 'it returns false'. Refute it at one input. -/
def fnExactFunOfWrong : ChangeSpec := { name := "fnExactFunOf", fn := fun _ => fun
  | [d1, d2] => { results := [.lit (.bool false)], args := [d1, d2] }
  | _ => none }
def FnExactFunOfWrongFalsely : Prop := fnExactFunOfRow.holds Try.pinned (OpenSpec.ofChange fnExactFunOfWrong)

/- THE SECOND FORM. 'bulk': how many values and letters a reading holds, each counted each time it is reached (what is shared counts as often as it is met; a slice's spare places count too). A statement '..UptoSaid' is the law's where the arguments, and the package variables that the reading takes, are together of bulk at most 1048576: NARROWER than '..Said'. Prove '..Said' where nothing that the law and all that it calls make is longer than what came in: it says more and counts as full. Else prove '..UptoSaid'. A law counts once. -/
mutual
def uptoBulk {H : Type} : DataW H → Nat
  | .lit (.string bytes) => bytes.length + 1
  | .lit _ => 1
  | .nil => 1
  | .ptr d => uptoBulk d + 1
  | .slice elems spare => uptoBulkAll elems + uptoBulkAll spare + 1
  | .agg parts => uptoBulkAll parts + 1
  | .iface _ d => uptoBulk d + 1
  | .map entries => uptoBulkEntries entries + 1
  | .held _ => 1
def uptoBulkAll {H : Type} : List (DataW H) → Nat
  | [] => 0
  | d :: r => uptoBulk d + uptoBulkAll r
def uptoBulkEntries {H : Type} : List (Lit × DataW H) → Nat
  | [] => 0
  | x :: r => uptoBulkEntry x + uptoBulkEntries r
def uptoBulkEntry {H : Type} : Lit × DataW H → Nat
  | (.string bytes, d) => bytes.length + uptoBulk d + 1
  | (_, d) => uptoBulk d + 1
 end
def uptoSmall : (H : Type) → List (DataW H) → Bool := fun _ ds => decide (uptoBulkAll ds ≤ 1048576)
def OpenSpec.upto (s : _root_.Go.ChangeSpec) : _root_.Go.OpenSpec := { _root_.Go.OpenSpec.ofChange s with cond := some uptoSmall }

/-- 'laws.FnExactKindAt', WHERE WHAT IT READS IS OF BULK AT MOST 1048576: true; the input reads as it did. -/
def fnExactKindAtUptoRow : OpenClaim := { program := "ytnjlodjehneonaa", sum := "c5e8351bbd9e45aa9a2fb59910e7074877e1a45f51af296317d6b9a4b37f1c66", func := "loop.example/g00242/laws.FnExactKindAt", spec := "fnExactKindAt", apart := false, narrowed := true }
def FnExactKindAtUptoSaid : Prop := fnExactKindAtUptoRow.holds Try.pinned (OpenSpec.upto fnExactKindAtSpec)

/-- 'laws.FnExactSizeAt', WHERE WHAT IT READS IS OF BULK AT MOST 1048576: true; the input reads as it did. -/
def fnExactSizeAtUptoRow : OpenClaim := { program := "ytnjlodjehneonaa", sum := "c5e8351bbd9e45aa9a2fb59910e7074877e1a45f51af296317d6b9a4b37f1c66", func := "loop.example/g00242/laws.FnExactSizeAt", spec := "fnExactSizeAt", apart := false, narrowed := true }
def FnExactSizeAtUptoSaid : Prop := fnExactSizeAtUptoRow.holds Try.pinned (OpenSpec.upto fnExactSizeAtSpec)

/-- 'laws.FnExactTake', WHERE WHAT IT READS IS OF BULK AT MOST 1048576: true; the input reads as it did. -/
def fnExactTakeUptoRow : OpenClaim := { program := "ytnjlodjehneonaa", sum := "c5e8351bbd9e45aa9a2fb59910e7074877e1a45f51af296317d6b9a4b37f1c66", func := "loop.example/g00242/laws.FnExactTake", spec := "fnExactTake", apart := false, narrowed := true }
def FnExactTakeUptoSaid : Prop := fnExactTakeUptoRow.holds Try.pinned (OpenSpec.upto fnExactTakeSpec)

/-- 'laws.FnExactSlots', WHERE WHAT IT READS IS OF BULK AT MOST 1048576: true; the input reads as it did. -/
def fnExactSlotsUptoRow : OpenClaim := { program := "ytnjlodjehneonaa", sum := "c5e8351bbd9e45aa9a2fb59910e7074877e1a45f51af296317d6b9a4b37f1c66", func := "loop.example/g00242/laws.FnExactSlots", spec := "fnExactSlots", apart := false, narrowed := true }
def FnExactSlotsUptoSaid : Prop := fnExactSlotsUptoRow.holds Try.pinned (OpenSpec.upto fnExactSlotsSpec)

/-- 'laws.FnExactGive', WHERE WHAT IT READS IS OF BULK AT MOST 1048576: true; the input reads as it did. -/
def fnExactGiveUptoRow : OpenClaim := { program := "ytnjlodjehneonaa", sum := "c5e8351bbd9e45aa9a2fb59910e7074877e1a45f51af296317d6b9a4b37f1c66", func := "loop.example/g00242/laws.FnExactGive", spec := "fnExactGive", apart := false, narrowed := true }
def FnExactGiveUptoSaid : Prop := fnExactGiveUptoRow.holds Try.pinned (OpenSpec.upto fnExactGiveSpec)

/-- 'laws.FnExactFresh', WHERE WHAT IT READS IS OF BULK AT MOST 1048576: true; the input reads as it did. -/
def fnExactFreshUptoRow : OpenClaim := { program := "ytnjlodjehneonaa", sum := "c5e8351bbd9e45aa9a2fb59910e7074877e1a45f51af296317d6b9a4b37f1c66", func := "loop.example/g00242/laws.FnExactFresh", spec := "fnExactFresh", inPlace := ["slices.overlaps[int]"], unfollowed := true, recurses := true, apart := false, narrowed := true }
def FnExactFreshUptoSaid : Prop := fnExactFreshUptoRow.holds Try.pinned (OpenSpec.upto fnExactFreshSpec)

/-- 'laws.FnExactHeapOk', WHERE WHAT IT READS IS OF BULK AT MOST 1048576: true; the input reads as it did. -/
def fnExactHeapOkUptoRow : OpenClaim := { program := "ytnjlodjehneonaa", sum := "c5e8351bbd9e45aa9a2fb59910e7074877e1a45f51af296317d6b9a4b37f1c66", func := "loop.example/g00242/laws.FnExactHeapOk", spec := "fnExactHeapOk", unfollowed := true, recurses := true, apart := false, narrowed := true }
def FnExactHeapOkUptoSaid : Prop := fnExactHeapOkUptoRow.holds Try.pinned (OpenSpec.upto fnExactHeapOkSpec)

/-- 'laws.FnExactShapeOk', WHERE WHAT IT READS IS OF BULK AT MOST 1048576: true; the input reads as it did. -/
def fnExactShapeOkUptoRow : OpenClaim := { program := "ytnjlodjehneonaa", sum := "c5e8351bbd9e45aa9a2fb59910e7074877e1a45f51af296317d6b9a4b37f1c66", func := "loop.example/g00242/laws.FnExactShapeOk", spec := "fnExactShapeOk", unfollowed := true, recurses := true, apart := false, narrowed := true }
def FnExactShapeOkUptoSaid : Prop := fnExactShapeOkUptoRow.holds Try.pinned (OpenSpec.upto fnExactShapeOkSpec)

/-- 'laws.FnExactRootsOk', WHERE WHAT IT READS IS OF BULK AT MOST 1048576: true; the input reads as it did. -/
def fnExactRootsOkUptoRow : OpenClaim := { program := "ytnjlodjehneonaa", sum := "c5e8351bbd9e45aa9a2fb59910e7074877e1a45f51af296317d6b9a4b37f1c66", func := "loop.example/g00242/laws.FnExactRootsOk", spec := "fnExactRootsOk", unfollowed := true, recurses := true, apart := false, narrowed := true }
def FnExactRootsOkUptoSaid : Prop := fnExactRootsOkUptoRow.holds Try.pinned (OpenSpec.upto fnExactRootsOkSpec)

/-- 'laws.FnExactTextOf', WHERE WHAT IT READS IS OF BULK AT MOST 1048576: true; the input reads as it did. -/
def fnExactTextOfUptoRow : OpenClaim := { program := "ytnjlodjehneonaa", sum := "c5e8351bbd9e45aa9a2fb59910e7074877e1a45f51af296317d6b9a4b37f1c66", func := "loop.example/g00242/laws.FnExactTextOf", spec := "fnExactTextOf", unfollowed := true, recurses := true, apart := false, narrowed := true }
def FnExactTextOfUptoSaid : Prop := fnExactTextOfUptoRow.holds Try.pinned (OpenSpec.upto fnExactTextOfSpec)

/-- 'laws.FnExactTextFind', WHERE WHAT IT READS IS OF BULK AT MOST 1048576: true; the input reads as it did. -/
def fnExactTextFindUptoRow : OpenClaim := { program := "ytnjlodjehneonaa", sum := "c5e8351bbd9e45aa9a2fb59910e7074877e1a45f51af296317d6b9a4b37f1c66", func := "loop.example/g00242/laws.FnExactTextFind", spec := "fnExactTextFind", unfollowed := true, recurses := true, apart := false, narrowed := true }
def FnExactTextFindUptoSaid : Prop := fnExactTextFindUptoRow.holds Try.pinned (OpenSpec.upto fnExactTextFindSpec)

/-- 'laws.FnExactFunOf', WHERE WHAT IT READS IS OF BULK AT MOST 1048576: true; the input reads as it did. -/
def fnExactFunOfUptoRow : OpenClaim := { program := "ytnjlodjehneonaa", sum := "c5e8351bbd9e45aa9a2fb59910e7074877e1a45f51af296317d6b9a4b37f1c66", func := "loop.example/g00242/laws.FnExactFunOf", spec := "fnExactFunOf", unfollowed := true, recurses := true, apart := false, narrowed := true }
def FnExactFunOfUptoSaid : Prop := fnExactFunOfUptoRow.holds Try.pinned (OpenSpec.upto fnExactFunOfSpec)

end Rows
end Go.Proofs.Ytnjlodjehneonaa

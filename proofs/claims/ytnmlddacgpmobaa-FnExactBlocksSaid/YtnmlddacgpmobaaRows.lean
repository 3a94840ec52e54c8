/-
  No cell of these rows narrows 'for every input' (looked for: loops, veiled, ifaces, maps, wideKeys, modest, calm, conditions, laid).
  DERIVED. THE GIVEN ROWS OF THIS SEAT. 12 by the template 'for every input the law returns true; each argument reads behind the call as it read before'; 0 by the template 'total and deterministic' (their statements: YtnmlddacgpmobaaTotals.lean).
  GIVEN WITH THE SEED: the statements are not yours to turn. If you find one false, say at which input.
  Laid BY PROGRAM, IN A SANDBOX (cutbox-rows.mjs): the forced cells as the released guide's own fill.sh prints them over the translation 4237653bd2c70a3c… (all of the seat's roots in one cut). By AI agents, Wed Nov 11 2026. No macro, syntax, notation, axiom, sorry.
-/
import Derived.Test.YtnmlddacgpmobaaChecked
import GoSem.Claim
import GoSem.ClaimJoined
import GoSem.ClaimMapViews
import Derived.JoinedTies
import Derived.KernelRfl
namespace Go.Proofs.Ytnmlddacgpmobaa
/- THE CELL 'sum', in the pinned program and in every row, IS THE sha256 OF THE DUMP (.gsa) THAT YtnmlddacgpmobaaProg.lean LOADS. Nothing in Lean hashes anything: it is a label: what it is worth is what the hold of that sum in a sandbox is worth. -/
noncomputable def Try.pinned : Pinned := { name := "ytnmlddacgpmobaa", sum := "4237653bd2c70a3c1d5aa31357a6a7abc193531a06925037f1bc8f84927f92ec", checked := Try.checked }
namespace Rows
def none {H : Type} : Left H := { results := [], args := [] }

/-- 'laws.FnExactConstants': WHATEVER THE INPUT: true; the input reads as it did. -/
def fnExactConstantsSpec : ChangeSpec := { name := "fnExactConstants", fn := fun _ => fun
  | [] => { results := [.lit (.bool true)], args := [] }
  | _ => none }
def fnExactConstantsRow : OpenClaim := { program := "ytnmlddacgpmobaa", sum := "4237653bd2c70a3c1d5aa31357a6a7abc193531a06925037f1bc8f84927f92ec", func := "loop.example/g00242/laws.FnExactConstants", spec := "fnExactConstants", apart := false }
def FnExactConstantsSaid : Prop := fnExactConstantsRow.holds Try.pinned (OpenSpec.ofChange fnExactConstantsSpec)

/-- ITS FALSE NEIGHBOUR: 'it returns false'. Refute it at one input. -/
def fnExactConstantsWrong : ChangeSpec := { name := "fnExactConstants", fn := fun _ => fun
  | [] => { results := [.lit (.bool false)], args := [] }
  | _ => none }
def FnExactConstantsWrongFalsely : Prop := fnExactConstantsRow.holds Try.pinned (OpenSpec.ofChange fnExactConstantsWrong)

/-- 'laws.FnExactKind': WHATEVER THE INPUT: true; the input reads as it did. -/
def fnExactKindSpec : ChangeSpec := { name := "fnExactKind", fn := fun _ => fun
  | [d] => { results := [.lit (.bool true)], args := [d] }
  | _ => none }
def fnExactKindRow : OpenClaim := { program := "ytnmlddacgpmobaa", sum := "4237653bd2c70a3c1d5aa31357a6a7abc193531a06925037f1bc8f84927f92ec", func := "loop.example/g00242/laws.FnExactKind", spec := "fnExactKind", apart := false }
def FnExactKindSaid : Prop := fnExactKindRow.holds Try.pinned (OpenSpec.ofChange fnExactKindSpec)

/-- ITS FALSE NEIGHBOUR: 'it returns false'. Refute it at one input. -/
def fnExactKindWrong : ChangeSpec := { name := "fnExactKind", fn := fun _ => fun
  | [d] => { results := [.lit (.bool false)], args := [d] }
  | _ => none }
def FnExactKindWrongFalsely : Prop := fnExactKindRow.holds Try.pinned (OpenSpec.ofChange fnExactKindWrong)

/-- 'laws.FnExactNum': WHATEVER THE INPUT: true; the input reads as it did. -/
def fnExactNumSpec : ChangeSpec := { name := "fnExactNum", fn := fun _ => fun
  | [d] => { results := [.lit (.bool true)], args := [d] }
  | _ => none }
def fnExactNumRow : OpenClaim := { program := "ytnmlddacgpmobaa", sum := "4237653bd2c70a3c1d5aa31357a6a7abc193531a06925037f1bc8f84927f92ec", func := "loop.example/g00242/laws.FnExactNum", spec := "fnExactNum", apart := false }
def FnExactNumSaid : Prop := fnExactNumRow.holds Try.pinned (OpenSpec.ofChange fnExactNumSpec)

/-- ITS FALSE NEIGHBOUR: 'it returns false'. Refute it at one input. -/
def fnExactNumWrong : ChangeSpec := { name := "fnExactNum", fn := fun _ => fun
  | [d] => { results := [.lit (.bool false)], args := [d] }
  | _ => none }
def FnExactNumWrongFalsely : Prop := fnExactNumRow.holds Try.pinned (OpenSpec.ofChange fnExactNumWrong)

/-- 'laws.FnExactWrap': WHATEVER THE INPUT: true; the input reads as it did. -/
def fnExactWrapSpec : ChangeSpec := { name := "fnExactWrap", fn := fun _ => fun
  | [d] => { results := [.lit (.bool true)], args := [d] }
  | _ => none }
def fnExactWrapRow : OpenClaim := { program := "ytnmlddacgpmobaa", sum := "4237653bd2c70a3c1d5aa31357a6a7abc193531a06925037f1bc8f84927f92ec", func := "loop.example/g00242/laws.FnExactWrap", spec := "fnExactWrap", apart := false }
def FnExactWrapSaid : Prop := fnExactWrapRow.holds Try.pinned (OpenSpec.ofChange fnExactWrapSpec)

/-- ITS FALSE NEIGHBOUR: 'it returns false'. Refute it at one input. -/
def fnExactWrapWrong : ChangeSpec := { name := "fnExactWrap", fn := fun _ => fun
  | [d] => { results := [.lit (.bool false)], args := [d] }
  | _ => none }
def FnExactWrapWrongFalsely : Prop := fnExactWrapRow.holds Try.pinned (OpenSpec.ofChange fnExactWrapWrong)

/-- 'laws.FnExactIntOf': WHATEVER THE INPUT: true; the input reads as it did. -/
def fnExactIntOfSpec : ChangeSpec := { name := "fnExactIntOf", fn := fun _ => fun
  | [d] => { results := [.lit (.bool true)], args := [d] }
  | _ => none }
def fnExactIntOfRow : OpenClaim := { program := "ytnmlddacgpmobaa", sum := "4237653bd2c70a3c1d5aa31357a6a7abc193531a06925037f1bc8f84927f92ec", func := "loop.example/g00242/laws.FnExactIntOf", spec := "fnExactIntOf", apart := false }
def FnExactIntOfSaid : Prop := fnExactIntOfRow.holds Try.pinned (OpenSpec.ofChange fnExactIntOfSpec)

/-- ITS FALSE NEIGHBOUR: 'it returns false'. Refute it at one input. -/
def fnExactIntOfWrong : ChangeSpec := { name := "fnExactIntOf", fn := fun _ => fun
  | [d] => { results := [.lit (.bool false)], args := [d] }
  | _ => none }
def FnExactIntOfWrongFalsely : Prop := fnExactIntOfRow.holds Try.pinned (OpenSpec.ofChange fnExactIntOfWrong)

/-- 'laws.FnExactBoolOf': WHATEVER THE INPUT: true; the input reads as it did. -/
def fnExactBoolOfSpec : ChangeSpec := { name := "fnExactBoolOf", fn := fun _ => fun
  | [d] => { results := [.lit (.bool true)], args := [d] }
  | _ => none }
def fnExactBoolOfRow : OpenClaim := { program := "ytnmlddacgpmobaa", sum := "4237653bd2c70a3c1d5aa31357a6a7abc193531a06925037f1bc8f84927f92ec", func := "loop.example/g00242/laws.FnExactBoolOf", spec := "fnExactBoolOf", apart := false }
def FnExactBoolOfSaid : Prop := fnExactBoolOfRow.holds Try.pinned (OpenSpec.ofChange fnExactBoolOfSpec)

/-- ITS FALSE NEIGHBOUR: 'it returns false'. Refute it at one input. -/
def fnExactBoolOfWrong : ChangeSpec := { name := "fnExactBoolOf", fn := fun _ => fun
  | [d] => { results := [.lit (.bool false)], args := [d] }
  | _ => none }
def FnExactBoolOfWrongFalsely : Prop := fnExactBoolOfRow.holds Try.pinned (OpenSpec.ofChange fnExactBoolOfWrong)

/-- 'laws.FnExactRefOf': WHATEVER THE INPUT: true; the input reads as it did. -/
def fnExactRefOfSpec : ChangeSpec := { name := "fnExactRefOf", fn := fun _ => fun
  | [d1, d2] => { results := [.lit (.bool true)], args := [d1, d2] }
  | _ => none }
def fnExactRefOfRow : OpenClaim := { program := "ytnmlddacgpmobaa", sum := "4237653bd2c70a3c1d5aa31357a6a7abc193531a06925037f1bc8f84927f92ec", func := "loop.example/g00242/laws.FnExactRefOf", spec := "fnExactRefOf", apart := false }
def FnExactRefOfSaid : Prop := fnExactRefOfRow.holds Try.pinned (OpenSpec.ofChange fnExactRefOfSpec)

/-- ITS FALSE NEIGHBOUR: 'it returns false'. Refute it at one input. -/
def fnExactRefOfWrong : ChangeSpec := { name := "fnExactRefOf", fn := fun _ => fun
  | [d1, d2] => { results := [.lit (.bool false)], args := [d1, d2] }
  | _ => none }
def FnExactRefOfWrongFalsely : Prop := fnExactRefOfRow.holds Try.pinned (OpenSpec.ofChange fnExactRefOfWrong)

/-- 'laws.FnExactValueOk': WHATEVER THE INPUT: true; the input reads as it did. -/
def fnExactValueOkSpec : ChangeSpec := { name := "fnExactValueOk", fn := fun _ => fun
  | [d] => { results := [.lit (.bool true)], args := [d] }
  | _ => none }
def fnExactValueOkRow : OpenClaim := { program := "ytnmlddacgpmobaa", sum := "4237653bd2c70a3c1d5aa31357a6a7abc193531a06925037f1bc8f84927f92ec", func := "loop.example/g00242/laws.FnExactValueOk", spec := "fnExactValueOk", apart := false }
def FnExactValueOkSaid : Prop := fnExactValueOkRow.holds Try.pinned (OpenSpec.ofChange fnExactValueOkSpec)

/-- ITS FALSE NEIGHBOUR: 'it returns false'. Refute it at one input. -/
def fnExactValueOkWrong : ChangeSpec := { name := "fnExactValueOk", fn := fun _ => fun
  | [d] => { results := [.lit (.bool false)], args := [d] }
  | _ => none }
def FnExactValueOkWrongFalsely : Prop := fnExactValueOkRow.holds Try.pinned (OpenSpec.ofChange fnExactValueOkWrong)

/-- 'laws.FnExactSlabNew': WHATEVER THE INPUT: true; the input reads as it did. -/
def fnExactSlabNewSpec : ChangeSpec := { name := "fnExactSlabNew", fn := fun _ => fun
  | [d] => { results := [.lit (.bool true)], args := [d] }
  | _ => none }
def fnExactSlabNewRow : OpenClaim := { program := "ytnmlddacgpmobaa", sum := "4237653bd2c70a3c1d5aa31357a6a7abc193531a06925037f1bc8f84927f92ec", func := "loop.example/g00242/laws.FnExactSlabNew", spec := "fnExactSlabNew", apart := false }
def FnExactSlabNewSaid : Prop := fnExactSlabNewRow.holds Try.pinned (OpenSpec.ofChange fnExactSlabNewSpec)

/-- ITS FALSE NEIGHBOUR: 'it returns false'. Refute it at one input. -/
def fnExactSlabNewWrong : ChangeSpec := { name := "fnExactSlabNew", fn := fun _ => fun
  | [d] => { results := [.lit (.bool false)], args := [d] }
  | _ => none }
def FnExactSlabNewWrongFalsely : Prop := fnExactSlabNewRow.holds Try.pinned (OpenSpec.ofChange fnExactSlabNewWrong)

/-- 'laws.FnExactSlabOk': WHATEVER THE INPUT: true; the input reads as it did. -/
def fnExactSlabOkSpec : ChangeSpec := { name := "fnExactSlabOk", fn := fun _ => fun
  | [d] => { results := [.lit (.bool true)], args := [d] }
  | _ => none }
def fnExactSlabOkRow : OpenClaim := { program := "ytnmlddacgpmobaa", sum := "4237653bd2c70a3c1d5aa31357a6a7abc193531a06925037f1bc8f84927f92ec", func := "loop.example/g00242/laws.FnExactSlabOk", spec := "fnExactSlabOk", apart := false }
def FnExactSlabOkSaid : Prop := fnExactSlabOkRow.holds Try.pinned (OpenSpec.ofChange fnExactSlabOkSpec)

/-- ITS FALSE NEIGHBOUR: 'it returns false'. Refute it at one input. -/
def fnExactSlabOkWrong : ChangeSpec := { name := "fnExactSlabOk", fn := fun _ => fun
  | [d] => { results := [.lit (.bool false)], args := [d] }
  | _ => none }
def FnExactSlabOkWrongFalsely : Prop := fnExactSlabOkRow.holds Try.pinned (OpenSpec.ofChange fnExactSlabOkWrong)

/-- 'laws.FnExactRoom': WHATEVER THE INPUT: true; the input reads as it did. -/
def fnExactRoomSpec : ChangeSpec := { name := "fnExactRoom", fn := fun _ => fun
  | [d] => { results := [.lit (.bool true)], args := [d] }
  | _ => none }
def fnExactRoomRow : OpenClaim := { program := "ytnmlddacgpmobaa", sum := "4237653bd2c70a3c1d5aa31357a6a7abc193531a06925037f1bc8f84927f92ec", func := "loop.example/g00242/laws.FnExactRoom", spec := "fnExactRoom", apart := false }
def FnExactRoomSaid : Prop := fnExactRoomRow.holds Try.pinned (OpenSpec.ofChange fnExactRoomSpec)

/-- ITS FALSE NEIGHBOUR: 'it returns false'. Refute it at one input. -/
def fnExactRoomWrong : ChangeSpec := { name := "fnExactRoom", fn := fun _ => fun
  | [d] => { results := [.lit (.bool false)], args := [d] }
  | _ => none }
def FnExactRoomWrongFalsely : Prop := fnExactRoomRow.holds Try.pinned (OpenSpec.ofChange fnExactRoomWrong)

/-- 'laws.FnExactBlocks': WHATEVER THE INPUT: true; the input reads as it did. -/
def fnExactBlocksSpec : ChangeSpec := { name := "fnExactBlocks", fn := fun _ => fun
  | [d] => { results := [.lit (.bool true)], args := [d] }
  | _ => none }
def fnExactBlocksRow : OpenClaim := { program := "ytnmlddacgpmobaa", sum := "4237653bd2c70a3c1d5aa31357a6a7abc193531a06925037f1bc8f84927f92ec", func := "loop.example/g00242/laws.FnExactBlocks", spec := "fnExactBlocks", apart := false }
def FnExactBlocksSaid : Prop := fnExactBlocksRow.holds Try.pinned (OpenSpec.ofChange fnExactBlocksSpec)

/-- ITS FALSE NEIGHBOUR: 'it returns false'. Refute it at one input. -/
def fnExactBlocksWrong : ChangeSpec := { name := "fnExactBlocks", fn := fun _ => fun
  | [d] => { results := [.lit (.bool false)], args := [d] }
  | _ => none }
def FnExactBlocksWrongFalsely : Prop := fnExactBlocksRow.holds Try.pinned (OpenSpec.ofChange fnExactBlocksWrong)

/- THE SECOND FORM. 'bulk': how many values and letters a reading holds, each counted each time it is reached (what is shared counts as often as it is met; a slice's spare places count too). A statement '..UptoSaid' is the law's where the arguments, and the package variables that the reading takes, are together of bulk at most 1048576: NARROWER than '..Said'. Prove '..Said' where nothing that the law and all that it calls make is longer than what came in: it says more and counts as full. Else prove '..UptoSaid'. A law counts once. -/
mutual
def uptoBulk {H : Type} : DataW H → Nat
  | .lit (.string bytes) => bytes.length + 1
  | .lit _ => 1
  | .nil => 1
  | .ptr d => uptoBulk d + 1
  | .slice elems spare => uptoBulkAll elems + uptoBulkAll spare + 1
  | .agg parts => uptoBulkAll parts + 1
  | .iface _ d => uptoBulk d + 1
  | .map entries => uptoBulkEntries entries + 1
  | .held _ => 1
def uptoBulkAll {H : Type} : List (DataW H) → Nat
  | [] => 0
  | d :: r => uptoBulk d + uptoBulkAll r
def uptoBulkEntries {H : Type} : List (Lit × DataW H) → Nat
  | [] => 0
  | x :: r => uptoBulkEntry x + uptoBulkEntries r
def uptoBulkEntry {H : Type} : Lit × DataW H → Nat
  | (.string bytes, d) => bytes.length + uptoBulk d + 1
  | (_, d) => uptoBulk d + 1
 end
def uptoSmall : (H : Type) → List (DataW H) → Bool := fun _ ds => decide (uptoBulkAll ds ≤ 1048576)
def OpenSpec.upto (s : _root_.Go.ChangeSpec) : _root_.Go.OpenSpec := { _root_.Go.OpenSpec.ofChange s with cond := some uptoSmall }

/-- 'laws.FnExactConstants', WHERE WHAT IT READS IS OF BULK AT MOST 1048576: true; the input reads as it did. -/
def fnExactConstantsUptoRow : OpenClaim := { program := "ytnmlddacgpmobaa", sum := "4237653bd2c70a3c1d5aa31357a6a7abc193531a06925037f1bc8f84927f92ec", func := "loop.example/g00242/laws.FnExactConstants", spec := "fnExactConstants", apart := false, narrowed := true }
def FnExactConstantsUptoSaid : Prop := fnExactConstantsUptoRow.holds Try.pinned (OpenSpec.upto fnExactConstantsSpec)

/-- 'laws.FnExactKind', WHERE WHAT IT READS IS OF BULK AT MOST 1048576: true; the input reads as it did. -/
def fnExactKindUptoRow : OpenClaim := { program := "ytnmlddacgpmobaa", sum := "4237653bd2c70a3c1d5aa31357a6a7abc193531a06925037f1bc8f84927f92ec", func := "loop.example/g00242/laws.FnExactKind", spec := "fnExactKind", apart := false, narrowed := true }
def FnExactKindUptoSaid : Prop := fnExactKindUptoRow.holds Try.pinned (OpenSpec.upto fnExactKindSpec)

/-- 'laws.FnExactNum', WHERE WHAT IT READS IS OF BULK AT MOST 1048576: true; the input reads as it did. -/
def fnExactNumUptoRow : OpenClaim := { program := "ytnmlddacgpmobaa", sum := "4237653bd2c70a3c1d5aa31357a6a7abc193531a06925037f1bc8f84927f92ec", func := "loop.example/g00242/laws.FnExactNum", spec := "fnExactNum", apart := false, narrowed := true }
def FnExactNumUptoSaid : Prop := fnExactNumUptoRow.holds Try.pinned (OpenSpec.upto fnExactNumSpec)

/-- 'laws.FnExactWrap', WHERE WHAT IT READS IS OF BULK AT MOST 1048576: true; the input reads as it did. -/
def fnExactWrapUptoRow : OpenClaim := { program := "ytnmlddacgpmobaa", sum := "4237653bd2c70a3c1d5aa31357a6a7abc193531a06925037f1bc8f84927f92ec", func := "loop.example/g00242/laws.FnExactWrap", spec := "fnExactWrap", apart := false, narrowed := true }
def FnExactWrapUptoSaid : Prop := fnExactWrapUptoRow.holds Try.pinned (OpenSpec.upto fnExactWrapSpec)

/-- 'laws.FnExactIntOf', WHERE WHAT IT READS IS OF BULK AT MOST 1048576: true; the input reads as it did. -/
def fnExactIntOfUptoRow : OpenClaim := { program := "ytnmlddacgpmobaa", sum := "4237653bd2c70a3c1d5aa31357a6a7abc193531a06925037f1bc8f84927f92ec", func := "loop.example/g00242/laws.FnExactIntOf", spec := "fnExactIntOf", apart := false, narrowed := true }
def FnExactIntOfUptoSaid : Prop := fnExactIntOfUptoRow.holds Try.pinned (OpenSpec.upto fnExactIntOfSpec)

/-- 'laws.FnExactBoolOf', WHERE WHAT IT READS IS OF BULK AT MOST 1048576: true; the input reads as it did. -/
def fnExactBoolOfUptoRow : OpenClaim := { program := "ytnmlddacgpmobaa", sum := "4237653bd2c70a3c1d5aa31357a6a7abc193531a06925037f1bc8f84927f92ec", func := "loop.example/g00242/laws.FnExactBoolOf", spec := "fnExactBoolOf", apart := false, narrowed := true }
def FnExactBoolOfUptoSaid : Prop := fnExactBoolOfUptoRow.holds Try.pinned (OpenSpec.upto fnExactBoolOfSpec)

/-- 'laws.FnExactRefOf', WHERE WHAT IT READS IS OF BULK AT MOST 1048576: true; the input reads as it did. -/
def fnExactRefOfUptoRow : OpenClaim := { program := "ytnmlddacgpmobaa", sum := "4237653bd2c70a3c1d5aa31357a6a7abc193531a06925037f1bc8f84927f92ec", func := "loop.example/g00242/laws.FnExactRefOf", spec := "fnExactRefOf", apart := false, narrowed := true }
def FnExactRefOfUptoSaid : Prop := fnExactRefOfUptoRow.holds Try.pinned (OpenSpec.upto fnExactRefOfSpec)

/-- 'laws.FnExactValueOk', WHERE WHAT IT READS IS OF BULK AT MOST 1048576: true; the input reads as it did. -/
def fnExactValueOkUptoRow : OpenClaim := { program := "ytnmlddacgpmobaa", sum := "4237653bd2c70a3c1d5aa31357a6a7abc193531a06925037f1bc8f84927f92ec", func := "loop.example/g00242/laws.FnExactValueOk", spec := "fnExactValueOk", apart := false, narrowed := true }
def FnExactValueOkUptoSaid : Prop := fnExactValueOkUptoRow.holds Try.pinned (OpenSpec.upto fnExactValueOkSpec)

/-- 'laws.FnExactSlabNew', WHERE WHAT IT READS IS OF BULK AT MOST 1048576: true; the input reads as it did. -/
def fnExactSlabNewUptoRow : OpenClaim := { program := "ytnmlddacgpmobaa", sum := "4237653bd2c70a3c1d5aa31357a6a7abc193531a06925037f1bc8f84927f92ec", func := "loop.example/g00242/laws.FnExactSlabNew", spec := "fnExactSlabNew", apart := false, narrowed := true }
def FnExactSlabNewUptoSaid : Prop := fnExactSlabNewUptoRow.holds Try.pinned (OpenSpec.upto fnExactSlabNewSpec)

/-- 'laws.FnExactSlabOk', WHERE WHAT IT READS IS OF BULK AT MOST 1048576: true; the input reads as it did. -/
def fnExactSlabOkUptoRow : OpenClaim := { program := "ytnmlddacgpmobaa", sum := "4237653bd2c70a3c1d5aa31357a6a7abc193531a06925037f1bc8f84927f92ec", func := "loop.example/g00242/laws.FnExactSlabOk", spec := "fnExactSlabOk", apart := false, narrowed := true }
def FnExactSlabOkUptoSaid : Prop := fnExactSlabOkUptoRow.holds Try.pinned (OpenSpec.upto fnExactSlabOkSpec)

/-- 'laws.FnExactRoom', WHERE WHAT IT READS IS OF BULK AT MOST 1048576: true; the input reads as it did. -/
def fnExactRoomUptoRow : OpenClaim := { program := "ytnmlddacgpmobaa", sum := "4237653bd2c70a3c1d5aa31357a6a7abc193531a06925037f1bc8f84927f92ec", func := "loop.example/g00242/laws.FnExactRoom", spec := "fnExactRoom", apart := false, narrowed := true }
def FnExactRoomUptoSaid : Prop := fnExactRoomUptoRow.holds Try.pinned (OpenSpec.upto fnExactRoomSpec)

/-- 'laws.FnExactBlocks', WHERE WHAT IT READS IS OF BULK AT MOST 1048576: true; the input reads as it did. -/
def fnExactBlocksUptoRow : OpenClaim := { program := "ytnmlddacgpmobaa", sum := "4237653bd2c70a3c1d5aa31357a6a7abc193531a06925037f1bc8f84927f92ec", func := "loop.example/g00242/laws.FnExactBlocks", spec := "fnExactBlocks", apart := false, narrowed := true }
def FnExactBlocksUptoSaid : Prop := fnExactBlocksUptoRow.holds Try.pinned (OpenSpec.upto fnExactBlocksSpec)

end Rows
end Go.Proofs.Ytnmlddacgpmobaa

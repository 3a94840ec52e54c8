/-
  No cell of these rows narrows 'for every input' (looked for: loops, veiled, ifaces, maps, wideKeys, modest, calm, conditions, laid).
  DERIVED. THE GIVEN ROWS OF THIS SEAT. 12 by the template 'for every input the law returns true; each argument reads behind the call as it read before'; 0 by the template 'total and deterministic' (their statements: YtjampopndapkkaaTotals.lean).
  GIVEN WITH THE SEED: the statements are not yours to turn. If you find one false, say at which input.
  Laid BY PROGRAM, IN A SANDBOX (cutbox-rows.mjs): the forced cells as the released guide's own fill.sh prints them over the translation b24be7ae227ad920… (all of the seat's roots in one cut). By AI agents, Wed Nov 11 2026. No macro, syntax, notation, axiom, sorry.
-/
import Derived.Test.YtjampopndapkkaaChecked
import GoSem.Claim
import GoSem.ClaimJoined
import GoSem.ClaimMapViews
import Derived.JoinedTies
import Derived.KernelRfl
namespace Go.Proofs.Ytjampopndapkkaa
/- THE CELL 'sum', in the pinned program and in every row, IS THE sha256 OF THE DUMP (.gsa) THAT YtjampopndapkkaaProg.lean LOADS. Nothing in Lean hashes anything: it is a label: what it is worth is what the hold of that sum in a sandbox is worth. -/
noncomputable def Try.pinned : Pinned := { name := "ytjampopndapkkaa", sum := "b24be7ae227ad9201f392c477d6379ea11935cb4bcbf3147ab269f1e57b5c1f7", checked := Try.checked }
namespace Rows
def none {H : Type} : Left H := { results := [], args := [] }

/-- 'laws.FnExactScopeAt': WHATEVER THE INPUT: true; the input reads as it did. -/
def fnExactScopeAtSpec : ChangeSpec := { name := "fnExactScopeAt", fn := fun _ => fun
  | [d1, d2, d3] => { results := [.lit (.bool true)], args := [d1, d2, d3] }
  | _ => none }
def fnExactScopeAtRow : OpenClaim := { program := "ytjampopndapkkaa", sum := "b24be7ae227ad9201f392c477d6379ea11935cb4bcbf3147ab269f1e57b5c1f7", func := "loop.example/g00242/laws.FnExactScopeAt", spec := "fnExactScopeAt", unfollowed := true, recurses := true, apart := false }
def FnExactScopeAtSaid : Prop := fnExactScopeAtRow.holds Try.pinned (OpenSpec.ofChange fnExactScopeAtSpec)

/-- ITS FALSE NEIGHBOUR: 'it returns false'. Refute it at one input. -/
def fnExactScopeAtWrong : ChangeSpec := { name := "fnExactScopeAt", fn := fun _ => fun
  | [d1, d2, d3] => { results := [.lit (.bool false)], args := [d1, d2, d3] }
  | _ => none }
def FnExactScopeAtWrongFalsely : Prop := fnExactScopeAtRow.holds Try.pinned (OpenSpec.ofChange fnExactScopeAtWrong)

/-- 'laws.FnExactOwn': WHATEVER THE INPUT: true; the input reads as it did. -/
def fnExactOwnSpec : ChangeSpec := { name := "fnExactOwn", fn := fun _ => fun
  | [d1, d2, d3] => { results := [.lit (.bool true)], args := [d1, d2, d3] }
  | _ => none }
def fnExactOwnRow : OpenClaim := { program := "ytjampopndapkkaa", sum := "b24be7ae227ad9201f392c477d6379ea11935cb4bcbf3147ab269f1e57b5c1f7", func := "loop.example/g00242/laws.FnExactOwn", spec := "fnExactOwn", unfollowed := true, recurses := true, apart := false }
def FnExactOwnSaid : Prop := fnExactOwnRow.holds Try.pinned (OpenSpec.ofChange fnExactOwnSpec)

/-- ITS FALSE NEIGHBOUR: 'it returns false'. Refute it at one input. -/
def fnExactOwnWrong : ChangeSpec := { name := "fnExactOwn", fn := fun _ => fun
  | [d1, d2, d3] => { results := [.lit (.bool false)], args := [d1, d2, d3] }
  | _ => none }
def FnExactOwnWrongFalsely : Prop := fnExactOwnRow.holds Try.pinned (OpenSpec.ofChange fnExactOwnWrong)

/-- 'laws.FnExactProtoSet': WHATEVER THE INPUT: true; the input reads as it did. -/
def fnExactProtoSetSpec : ChangeSpec := { name := "fnExactProtoSet", fn := fun _ => fun
  | [d1, d2, d3] => { results := [.lit (.bool true)], args := [d1, d2, d3] }
  | _ => none }
def fnExactProtoSetRow : OpenClaim := { program := "ytjampopndapkkaa", sum := "b24be7ae227ad9201f392c477d6379ea11935cb4bcbf3147ab269f1e57b5c1f7", func := "loop.example/g00242/laws.FnExactProtoSet", spec := "fnExactProtoSet", unfollowed := true, recurses := true, apart := false }
def FnExactProtoSetSaid : Prop := fnExactProtoSetRow.holds Try.pinned (OpenSpec.ofChange fnExactProtoSetSpec)

/-- ITS FALSE NEIGHBOUR: 'it returns false'. Refute it at one input. -/
def fnExactProtoSetWrong : ChangeSpec := { name := "fnExactProtoSet", fn := fun _ => fun
  | [d1, d2, d3] => { results := [.lit (.bool false)], args := [d1, d2, d3] }
  | _ => none }
def FnExactProtoSetWrongFalsely : Prop := fnExactProtoSetRow.holds Try.pinned (OpenSpec.ofChange fnExactProtoSetWrong)

/-- 'laws.FnExactVarGet': WHATEVER THE INPUT: true; the input reads as it did. -/
def fnExactVarGetSpec : ChangeSpec := { name := "fnExactVarGet", fn := fun _ => fun
  | [d1, d2, d3, d4] => { results := [.lit (.bool true)], args := [d1, d2, d3, d4] }
  | _ => none }
def fnExactVarGetRow : OpenClaim := { program := "ytjampopndapkkaa", sum := "b24be7ae227ad9201f392c477d6379ea11935cb4bcbf3147ab269f1e57b5c1f7", func := "loop.example/g00242/laws.FnExactVarGet", spec := "fnExactVarGet", unfollowed := true, recurses := true, apart := false }
def FnExactVarGetSaid : Prop := fnExactVarGetRow.holds Try.pinned (OpenSpec.ofChange fnExactVarGetSpec)

/-- ITS FALSE NEIGHBOUR: 'it returns false'. Refute it at one input. -/
def fnExactVarGetWrong : ChangeSpec := { name := "fnExactVarGet", fn := fun _ => fun
  | [d1, d2, d3, d4] => { results := [.lit (.bool false)], args := [d1, d2, d3, d4] }
  | _ => none }
def FnExactVarGetWrongFalsely : Prop := fnExactVarGetRow.holds Try.pinned (OpenSpec.ofChange fnExactVarGetWrong)

/-- 'laws.FnExactLook': WHATEVER THE INPUT: true; the input reads as it did. -/
def fnExactLookSpec : ChangeSpec := { name := "fnExactLook", fn := fun _ => fun
  | [d1, d2, d3] => { results := [.lit (.bool true)], args := [d1, d2, d3] }
  | _ => none }
def fnExactLookRow : OpenClaim := { program := "ytjampopndapkkaa", sum := "b24be7ae227ad9201f392c477d6379ea11935cb4bcbf3147ab269f1e57b5c1f7", func := "loop.example/g00242/laws.FnExactLook", spec := "fnExactLook", unfollowed := true, recurses := true, apart := false }
def FnExactLookSaid : Prop := fnExactLookRow.holds Try.pinned (OpenSpec.ofChange fnExactLookSpec)

/-- ITS FALSE NEIGHBOUR: 'it returns false'. Refute it at one input. -/
def fnExactLookWrong : ChangeSpec := { name := "fnExactLook", fn := fun _ => fun
  | [d1, d2, d3] => { results := [.lit (.bool false)], args := [d1, d2, d3] }
  | _ => none }
def FnExactLookWrongFalsely : Prop := fnExactLookRow.holds Try.pinned (OpenSpec.ofChange fnExactLookWrong)

/-- 'laws.FnExactNames': WHATEVER THE INPUT: true; the input reads as it did. -/
def fnExactNamesSpec : ChangeSpec := { name := "fnExactNames", fn := fun _ => fun
  | [d1, d2] => { results := [.lit (.bool true)], args := [d1, d2] }
  | _ => none }
def fnExactNamesRow : OpenClaim := { program := "ytjampopndapkkaa", sum := "b24be7ae227ad9201f392c477d6379ea11935cb4bcbf3147ab269f1e57b5c1f7", func := "loop.example/g00242/laws.FnExactNames", spec := "fnExactNames", unfollowed := true, recurses := true, apart := false }
def FnExactNamesSaid : Prop := fnExactNamesRow.holds Try.pinned (OpenSpec.ofChange fnExactNamesSpec)

/-- ITS FALSE NEIGHBOUR: 'it returns false'. Refute it at one input. -/
def fnExactNamesWrong : ChangeSpec := { name := "fnExactNames", fn := fun _ => fun
  | [d1, d2] => { results := [.lit (.bool false)], args := [d1, d2] }
  | _ => none }
def FnExactNamesWrongFalsely : Prop := fnExactNamesRow.holds Try.pinned (OpenSpec.ofChange fnExactNamesWrong)

/-- 'laws.FnExactVarSet': WHATEVER THE INPUT: true; the input reads as it did. -/
def fnExactVarSetSpec : ChangeSpec := { name := "fnExactVarSet", fn := fun _ => fun
  | [d1, d2, d3, d4, d5] => { results := [.lit (.bool true)], args := [d1, d2, d3, d4, d5] }
  | _ => none }
def fnExactVarSetRow : OpenClaim := { program := "ytjampopndapkkaa", sum := "b24be7ae227ad9201f392c477d6379ea11935cb4bcbf3147ab269f1e57b5c1f7", func := "loop.example/g00242/laws.FnExactVarSet", spec := "fnExactVarSet", unfollowed := true, recurses := true, apart := false }
def FnExactVarSetSaid : Prop := fnExactVarSetRow.holds Try.pinned (OpenSpec.ofChange fnExactVarSetSpec)

/-- ITS FALSE NEIGHBOUR: 'it returns false'. Refute it at one input. -/
def fnExactVarSetWrong : ChangeSpec := { name := "fnExactVarSet", fn := fun _ => fun
  | [d1, d2, d3, d4, d5] => { results := [.lit (.bool false)], args := [d1, d2, d3, d4, d5] }
  | _ => none }
def FnExactVarSetWrongFalsely : Prop := fnExactVarSetRow.holds Try.pinned (OpenSpec.ofChange fnExactVarSetWrong)

/-- 'laws.FnExactTextPut': WHATEVER THE INPUT: true; the input reads as it did. -/
def fnExactTextPutSpec : ChangeSpec := { name := "fnExactTextPut", fn := fun _ => fun
  | [d1, d2] => { results := [.lit (.bool true)], args := [d1, d2] }
  | _ => none }
def fnExactTextPutRow : OpenClaim := { program := "ytjampopndapkkaa", sum := "b24be7ae227ad9201f392c477d6379ea11935cb4bcbf3147ab269f1e57b5c1f7", func := "loop.example/g00242/laws.FnExactTextPut", spec := "fnExactTextPut", unfollowed := true, recurses := true, apart := false }
def FnExactTextPutSaid : Prop := fnExactTextPutRow.holds Try.pinned (OpenSpec.ofChange fnExactTextPutSpec)

/-- ITS FALSE NEIGHBOUR: 'it returns false'. Refute it at one input. -/
def fnExactTextPutWrong : ChangeSpec := { name := "fnExactTextPut", fn := fun _ => fun
  | [d1, d2] => { results := [.lit (.bool false)], args := [d1, d2] }
  | _ => none }
def FnExactTextPutWrongFalsely : Prop := fnExactTextPutRow.holds Try.pinned (OpenSpec.ofChange fnExactTextPutWrong)

/-- 'laws.FnExactScopeNew': WHATEVER THE INPUT: true; the input reads as it did. -/
def fnExactScopeNewSpec : ChangeSpec := { name := "fnExactScopeNew", fn := fun _ => fun
  | [d1, d2, d3] => { results := [.lit (.bool true)], args := [d1, d2, d3] }
  | _ => none }
def fnExactScopeNewRow : OpenClaim := { program := "ytjampopndapkkaa", sum := "b24be7ae227ad9201f392c477d6379ea11935cb4bcbf3147ab269f1e57b5c1f7", func := "loop.example/g00242/laws.FnExactScopeNew", spec := "fnExactScopeNew", unfollowed := true, recurses := true, apart := false }
def FnExactScopeNewSaid : Prop := fnExactScopeNewRow.holds Try.pinned (OpenSpec.ofChange fnExactScopeNewSpec)

/-- ITS FALSE NEIGHBOUR: 'it returns false'. Refute it at one input. -/
def fnExactScopeNewWrong : ChangeSpec := { name := "fnExactScopeNew", fn := fun _ => fun
  | [d1, d2, d3] => { results := [.lit (.bool false)], args := [d1, d2, d3] }
  | _ => none }
def FnExactScopeNewWrongFalsely : Prop := fnExactScopeNewRow.holds Try.pinned (OpenSpec.ofChange fnExactScopeNewWrong)

/-- 'laws.FnExactObjNew': WHATEVER THE INPUT: true; the input reads as it did. -/
def fnExactObjNewSpec : ChangeSpec := { name := "fnExactObjNew", fn := fun _ => fun
  | [d1, d2] => { results := [.lit (.bool true)], args := [d1, d2] }
  | _ => none }
def fnExactObjNewRow : OpenClaim := { program := "ytjampopndapkkaa", sum := "b24be7ae227ad9201f392c477d6379ea11935cb4bcbf3147ab269f1e57b5c1f7", func := "loop.example/g00242/laws.FnExactObjNew", spec := "fnExactObjNew", unfollowed := true, recurses := true, apart := false }
def FnExactObjNewSaid : Prop := fnExactObjNewRow.holds Try.pinned (OpenSpec.ofChange fnExactObjNewSpec)

/-- ITS FALSE NEIGHBOUR: 'it returns false'. Refute it at one input. -/
def fnExactObjNewWrong : ChangeSpec := { name := "fnExactObjNew", fn := fun _ => fun
  | [d1, d2] => { results := [.lit (.bool false)], args := [d1, d2] }
  | _ => none }
def FnExactObjNewWrongFalsely : Prop := fnExactObjNewRow.holds Try.pinned (OpenSpec.ofChange fnExactObjNewWrong)

/-- 'laws.FnExactFunNew': WHATEVER THE INPUT: true; the input reads as it did. -/
def fnExactFunNewSpec : ChangeSpec := { name := "fnExactFunNew", fn := fun _ => fun
  | [d1, d2, d3] => { results := [.lit (.bool true)], args := [d1, d2, d3] }
  | _ => none }
def fnExactFunNewRow : OpenClaim := { program := "ytjampopndapkkaa", sum := "b24be7ae227ad9201f392c477d6379ea11935cb4bcbf3147ab269f1e57b5c1f7", func := "loop.example/g00242/laws.FnExactFunNew", spec := "fnExactFunNew", unfollowed := true, recurses := true, apart := false }
def FnExactFunNewSaid : Prop := fnExactFunNewRow.holds Try.pinned (OpenSpec.ofChange fnExactFunNewSpec)

/-- ITS FALSE NEIGHBOUR: 'it returns false'. Refute it at one input. -/
def fnExactFunNewWrong : ChangeSpec := { name := "fnExactFunNew", fn := fun _ => fun
  | [d1, d2, d3] => { results := [.lit (.bool false)], args := [d1, d2, d3] }
  | _ => none }
def FnExactFunNewWrongFalsely : Prop := fnExactFunNewRow.holds Try.pinned (OpenSpec.ofChange fnExactFunNewWrong)

/-- 'laws.FnExactPropSet': WHATEVER THE INPUT: true; the input reads as it did. -/
def fnExactPropSetSpec : ChangeSpec := { name := "fnExactPropSet", fn := fun _ => fun
  | [d1, d2, d3, d4] => { results := [.lit (.bool true)], args := [d1, d2, d3, d4] }
  | _ => none }
def fnExactPropSetRow : OpenClaim := { program := "ytjampopndapkkaa", sum := "b24be7ae227ad9201f392c477d6379ea11935cb4bcbf3147ab269f1e57b5c1f7", func := "loop.example/g00242/laws.FnExactPropSet", spec := "fnExactPropSet", unfollowed := true, recurses := true, apart := false }
def FnExactPropSetSaid : Prop := fnExactPropSetRow.holds Try.pinned (OpenSpec.ofChange fnExactPropSetSpec)

/-- ITS FALSE NEIGHBOUR: 'it returns false'. Refute it at one input. -/
def fnExactPropSetWrong : ChangeSpec := { name := "fnExactPropSet", fn := fun _ => fun
  | [d1, d2, d3, d4] => { results := [.lit (.bool false)], args := [d1, d2, d3, d4] }
  | _ => none }
def FnExactPropSetWrongFalsely : Prop := fnExactPropSetRow.holds Try.pinned (OpenSpec.ofChange fnExactPropSetWrong)

/- THE SECOND FORM. 'bulk': how many values and letters a reading holds, each counted each time it is reached (what is shared counts as often as it is met; a slice's spare places count too). A statement '..UptoSaid' is the law's where the arguments, and the package variables that the reading takes, are together of bulk at most 1048576: NARROWER than '..Said'. Prove '..Said' where nothing that the law and all that it calls make is longer than what came in: it says more and counts as full. Else prove '..UptoSaid'. A law counts once. -/
mutual
def uptoBulk {H : Type} : DataW H → Nat
  | .lit (.string bytes) => bytes.length + 1
  | .lit _ => 1
  | .nil => 1
  | .ptr d => uptoBulk d + 1
  | .slice elems spare => uptoBulkAll elems + uptoBulkAll spare + 1
  | .agg parts => uptoBulkAll parts + 1
  | .iface _ d => uptoBulk d + 1
  | .map entries => uptoBulkEntries entries + 1
  | .held _ => 1
def uptoBulkAll {H : Type} : List (DataW H) → Nat
  | [] => 0
  | d :: r => uptoBulk d + uptoBulkAll r
def uptoBulkEntries {H : Type} : List (Lit × DataW H) → Nat
  | [] => 0
  | x :: r => uptoBulkEntry x + uptoBulkEntries r
def uptoBulkEntry {H : Type} : Lit × DataW H → Nat
  | (.string bytes, d) => bytes.length + uptoBulk d + 1
  | (_, d) => uptoBulk d + 1
 end
def uptoSmall : (H : Type) → List (DataW H) → Bool := fun _ ds => decide (uptoBulkAll ds ≤ 1048576)
def OpenSpec.upto (s : _root_.Go.ChangeSpec) : _root_.Go.OpenSpec := { _root_.Go.OpenSpec.ofChange s with cond := some uptoSmall }

/-- 'laws.FnExactScopeAt', WHERE WHAT IT READS IS OF BULK AT MOST 1048576: true; the input reads as it did. -/
def fnExactScopeAtUptoRow : OpenClaim := { program := "ytjampopndapkkaa", sum := "b24be7ae227ad9201f392c477d6379ea11935cb4bcbf3147ab269f1e57b5c1f7", func := "loop.example/g00242/laws.FnExactScopeAt", spec := "fnExactScopeAt", unfollowed := true, recurses := true, apart := false, narrowed := true }
def FnExactScopeAtUptoSaid : Prop := fnExactScopeAtUptoRow.holds Try.pinned (OpenSpec.upto fnExactScopeAtSpec)

/-- 'laws.FnExactOwn', WHERE WHAT IT READS IS OF BULK AT MOST 1048576: true; the input reads as it did. -/
def fnExactOwnUptoRow : OpenClaim := { program := "ytjampopndapkkaa", sum := "b24be7ae227ad9201f392c477d6379ea11935cb4bcbf3147ab269f1e57b5c1f7", func := "loop.example/g00242/laws.FnExactOwn", spec := "fnExactOwn", unfollowed := true, recurses := true, apart := false, narrowed := true }
def FnExactOwnUptoSaid : Prop := fnExactOwnUptoRow.holds Try.pinned (OpenSpec.upto fnExactOwnSpec)

/-- 'laws.FnExactProtoSet', WHERE WHAT IT READS IS OF BULK AT MOST 1048576: true; the input reads as it did. -/
def fnExactProtoSetUptoRow : OpenClaim := { program := "ytjampopndapkkaa", sum := "b24be7ae227ad9201f392c477d6379ea11935cb4bcbf3147ab269f1e57b5c1f7", func := "loop.example/g00242/laws.FnExactProtoSet", spec := "fnExactProtoSet", unfollowed := true, recurses := true, apart := false, narrowed := true }
def FnExactProtoSetUptoSaid : Prop := fnExactProtoSetUptoRow.holds Try.pinned (OpenSpec.upto fnExactProtoSetSpec)

/-- 'laws.FnExactVarGet', WHERE WHAT IT READS IS OF BULK AT MOST 1048576: true; the input reads as it did. -/
def fnExactVarGetUptoRow : OpenClaim := { program := "ytjampopndapkkaa", sum := "b24be7ae227ad9201f392c477d6379ea11935cb4bcbf3147ab269f1e57b5c1f7", func := "loop.example/g00242/laws.FnExactVarGet", spec := "fnExactVarGet", unfollowed := true, recurses := true, apart := false, narrowed := true }
def FnExactVarGetUptoSaid : Prop := fnExactVarGetUptoRow.holds Try.pinned (OpenSpec.upto fnExactVarGetSpec)

/-- 'laws.FnExactLook', WHERE WHAT IT READS IS OF BULK AT MOST 1048576: true; the input reads as it did. -/
def fnExactLookUptoRow : OpenClaim := { program := "ytjampopndapkkaa", sum := "b24be7ae227ad9201f392c477d6379ea11935cb4bcbf3147ab269f1e57b5c1f7", func := "loop.example/g00242/laws.FnExactLook", spec := "fnExactLook", unfollowed := true, recurses := true, apart := false, narrowed := true }
def FnExactLookUptoSaid : Prop := fnExactLookUptoRow.holds Try.pinned (OpenSpec.upto fnExactLookSpec)

/-- 'laws.FnExactNames', WHERE WHAT IT READS IS OF BULK AT MOST 1048576: true; the input reads as it did. -/
def fnExactNamesUptoRow : OpenClaim := { program := "ytjampopndapkkaa", sum := "b24be7ae227ad9201f392c477d6379ea11935cb4bcbf3147ab269f1e57b5c1f7", func := "loop.example/g00242/laws.FnExactNames", spec := "fnExactNames", unfollowed := true, recurses := true, apart := false, narrowed := true }
def FnExactNamesUptoSaid : Prop := fnExactNamesUptoRow.holds Try.pinned (OpenSpec.upto fnExactNamesSpec)

/-- 'laws.FnExactVarSet', WHERE WHAT IT READS IS OF BULK AT MOST 1048576: true; the input reads as it did. -/
def fnExactVarSetUptoRow : OpenClaim := { program := "ytjampopndapkkaa", sum := "b24be7ae227ad9201f392c477d6379ea11935cb4bcbf3147ab269f1e57b5c1f7", func := "loop.example/g00242/laws.FnExactVarSet", spec := "fnExactVarSet", unfollowed := true, recurses := true, apart := false, narrowed := true }
def FnExactVarSetUptoSaid : Prop := fnExactVarSetUptoRow.holds Try.pinned (OpenSpec.upto fnExactVarSetSpec)

/-- 'laws.FnExactTextPut', WHERE WHAT IT READS IS OF BULK AT MOST 1048576: true; the input reads as it did. -/
def fnExactTextPutUptoRow : OpenClaim := { program := "ytjampopndapkkaa", sum := "b24be7ae227ad9201f392c477d6379ea11935cb4bcbf3147ab269f1e57b5c1f7", func := "loop.example/g00242/laws.FnExactTextPut", spec := "fnExactTextPut", unfollowed := true, recurses := true, apart := false, narrowed := true }
def FnExactTextPutUptoSaid : Prop := fnExactTextPutUptoRow.holds Try.pinned (OpenSpec.upto fnExactTextPutSpec)

/-- 'laws.FnExactScopeNew', WHERE WHAT IT READS IS OF BULK AT MOST 1048576: true; the input reads as it did. -/
def fnExactScopeNewUptoRow : OpenClaim := { program := "ytjampopndapkkaa", sum := "b24be7ae227ad9201f392c477d6379ea11935cb4bcbf3147ab269f1e57b5c1f7", func := "loop.example/g00242/laws.FnExactScopeNew", spec := "fnExactScopeNew", unfollowed := true, recurses := true, apart := false, narrowed := true }
def FnExactScopeNewUptoSaid : Prop := fnExactScopeNewUptoRow.holds Try.pinned (OpenSpec.upto fnExactScopeNewSpec)

/-- 'laws.FnExactObjNew', WHERE WHAT IT READS IS OF BULK AT MOST 1048576: true; the input reads as it did. -/
def fnExactObjNewUptoRow : OpenClaim := { program := "ytjampopndapkkaa", sum := "b24be7ae227ad9201f392c477d6379ea11935cb4bcbf3147ab269f1e57b5c1f7", func := "loop.example/g00242/laws.FnExactObjNew", spec := "fnExactObjNew", unfollowed := true, recurses := true, apart := false, narrowed := true }
def FnExactObjNewUptoSaid : Prop := fnExactObjNewUptoRow.holds Try.pinned (OpenSpec.upto fnExactObjNewSpec)

/-- 'laws.FnExactFunNew', WHERE WHAT IT READS IS OF BULK AT MOST 1048576: true; the input reads as it did. -/
def fnExactFunNewUptoRow : OpenClaim := { program := "ytjampopndapkkaa", sum := "b24be7ae227ad9201f392c477d6379ea11935cb4bcbf3147ab269f1e57b5c1f7", func := "loop.example/g00242/laws.FnExactFunNew", spec := "fnExactFunNew", unfollowed := true, recurses := true, apart := false, narrowed := true }
def FnExactFunNewUptoSaid : Prop := fnExactFunNewUptoRow.holds Try.pinned (OpenSpec.upto fnExactFunNewSpec)

/-- 'laws.FnExactPropSet', WHERE WHAT IT READS IS OF BULK AT MOST 1048576: true; the input reads as it did. -/
def fnExactPropSetUptoRow : OpenClaim := { program := "ytjampopndapkkaa", sum := "b24be7ae227ad9201f392c477d6379ea11935cb4bcbf3147ab269f1e57b5c1f7", func := "loop.example/g00242/laws.FnExactPropSet", spec := "fnExactPropSet", unfollowed := true, recurses := true, apart := false, narrowed := true }
def FnExactPropSetUptoSaid : Prop := fnExactPropSetUptoRow.holds Try.pinned (OpenSpec.upto fnExactPropSetSpec)

end Rows
end Go.Proofs.Ytjampopndapkkaa

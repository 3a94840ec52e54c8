/-
  No cell of these rows narrows 'for every input' (looked for: loops, veiled, ifaces, maps, wideKeys, modest, calm, conditions, laid).
  DERIVED. THE GIVEN ROWS OF THIS SEAT. 8 by the template 'for every input the law returns true; each argument reads behind the call as it read before'; 0 by the template 'total and deterministic' (their statements: YtmphklmhhcmbnaaTotals.lean).
  GIVEN WITH THE SEED: the statements are not yours to turn. If you find one false, say at which input.
  Laid BY PROGRAM, IN A SANDBOX (cutbox-rows.mjs): the forced cells as the released guide's own fill.sh prints them over the translation 56645ab98a264b22… (all of the seat's roots in one cut). By AI agents, Wed Nov 11 2026. No macro, syntax, notation, axiom, sorry.
-/
import Derived.Test.YtmphklmhhcmbnaaChecked
import GoSem.Claim
import GoSem.ClaimJoined
import GoSem.ClaimMapViews
import Derived.JoinedTies
import Derived.KernelRfl
namespace Go.Proofs.Ytmphklmhhcmbnaa
/- THE CELL 'sum', in the pinned program and in every row, IS THE sha256 OF THE DUMP (.gsa) THAT YtmphklmhhcmbnaaProg.lean LOADS. Nothing in Lean hashes anything: it is a label: what it is worth is what the hold of that sum in a sandbox is worth. -/
noncomputable def Try.pinned : Pinned := { name := "ytmphklmhhcmbnaa", sum := "56645ab98a264b22f133ec5cb308ae8535bb525a98b66bb4498d38d682eb93f4", checked := Try.checked }
namespace Rows
def none {H : Type} : Left H := { results := [], args := [] }

/-- 'laws.FnExactStart': WHATEVER THE INPUT: true; the input reads as it did. -/
def fnExactStartSpec : ChangeSpec := { name := "fnExactStart", fn := fun _ => fun
  | [d1, d2] => { results := [.lit (.bool true)], args := [d1, d2] }
  | _ => none }
def fnExactStartRow : OpenClaim := { program := "ytmphklmhhcmbnaa", sum := "56645ab98a264b22f133ec5cb308ae8535bb525a98b66bb4498d38d682eb93f4", func := "loop.example/g00242/laws.FnExactStart", spec := "fnExactStart", unfollowed := true, recurses := true, apart := false }
def FnExactStartSaid : Prop := fnExactStartRow.holds Try.pinned (OpenSpec.ofChange fnExactStartSpec)

/-- ITS FALSE NEIGHBOUR: 'it returns false'. Refute it at one input. -/
def fnExactStartWrong : ChangeSpec := { name := "fnExactStart", fn := fun _ => fun
  | [d1, d2] => { results := [.lit (.bool false)], args := [d1, d2] }
  | _ => none }
def FnExactStartWrongFalsely : Prop := fnExactStartRow.holds Try.pinned (OpenSpec.ofChange fnExactStartWrong)

/-- 'laws.FnExactWaste': WHATEVER THE INPUT: true; the input reads as it did. -/
def fnExactWasteSpec : ChangeSpec := { name := "fnExactWaste", fn := fun _ => fun
  | [d1, d2] => { results := [.lit (.bool true)], args := [d1, d2] }
  | _ => none }
def fnExactWasteRow : OpenClaim := { program := "ytmphklmhhcmbnaa", sum := "56645ab98a264b22f133ec5cb308ae8535bb525a98b66bb4498d38d682eb93f4", func := "loop.example/g00242/laws.FnExactWaste", spec := "fnExactWaste", unfollowed := true, recurses := true, apart := false }
def FnExactWasteSaid : Prop := fnExactWasteRow.holds Try.pinned (OpenSpec.ofChange fnExactWasteSpec)

/-- ITS FALSE NEIGHBOUR: 'it returns false'. Refute it at one input. -/
def fnExactWasteWrong : ChangeSpec := { name := "fnExactWaste", fn := fun _ => fun
  | [d1, d2] => { results := [.lit (.bool false)], args := [d1, d2] }
  | _ => none }
def FnExactWasteWrongFalsely : Prop := fnExactWasteRow.holds Try.pinned (OpenSpec.ofChange fnExactWasteWrong)

/-- 'laws.FnExactMarkerOk': WHATEVER THE INPUT: true; the input reads as it did. -/
def fnExactMarkerOkSpec : ChangeSpec := { name := "fnExactMarkerOk", fn := fun _ => fun
  | [d1, d2] => { results := [.lit (.bool true)], args := [d1, d2] }
  | _ => none }
def fnExactMarkerOkRow : OpenClaim := { program := "ytmphklmhhcmbnaa", sum := "56645ab98a264b22f133ec5cb308ae8535bb525a98b66bb4498d38d682eb93f4", func := "loop.example/g00242/laws.FnExactMarkerOk", spec := "fnExactMarkerOk", unfollowed := true, recurses := true, apart := false }
def FnExactMarkerOkSaid : Prop := fnExactMarkerOkRow.holds Try.pinned (OpenSpec.ofChange fnExactMarkerOkSpec)

/-- ITS FALSE NEIGHBOUR: 'it returns false'. Refute it at one input. -/
def fnExactMarkerOkWrong : ChangeSpec := { name := "fnExactMarkerOk", fn := fun _ => fun
  | [d1, d2] => { results := [.lit (.bool false)], args := [d1, d2] }
  | _ => none }
def FnExactMarkerOkWrongFalsely : Prop := fnExactMarkerOkRow.holds Try.pinned (OpenSpec.ofChange fnExactMarkerOkWrong)

/-- 'laws.FnExactTriOk': WHATEVER THE INPUT: true; the input reads as it did. -/
def fnExactTriOkSpec : ChangeSpec := { name := "fnExactTriOk", fn := fun _ => fun
  | [d1, d2] => { results := [.lit (.bool true)], args := [d1, d2] }
  | _ => none }
def fnExactTriOkRow : OpenClaim := { program := "ytmphklmhhcmbnaa", sum := "56645ab98a264b22f133ec5cb308ae8535bb525a98b66bb4498d38d682eb93f4", func := "loop.example/g00242/laws.FnExactTriOk", spec := "fnExactTriOk", unfollowed := true, recurses := true, apart := false }
def FnExactTriOkSaid : Prop := fnExactTriOkRow.holds Try.pinned (OpenSpec.ofChange fnExactTriOkSpec)

/-- ITS FALSE NEIGHBOUR: 'it returns false'. Refute it at one input. -/
def fnExactTriOkWrong : ChangeSpec := { name := "fnExactTriOk", fn := fun _ => fun
  | [d1, d2] => { results := [.lit (.bool false)], args := [d1, d2] }
  | _ => none }
def FnExactTriOkWrongFalsely : Prop := fnExactTriOkRow.holds Try.pinned (OpenSpec.ofChange fnExactTriOkWrong)

/-- 'laws.FnExactShade': WHATEVER THE INPUT: true; the input reads as it did. -/
def fnExactShadeSpec : ChangeSpec := { name := "fnExactShade", fn := fun _ => fun
  | [d1, d2, d3] => { results := [.lit (.bool true)], args := [d1, d2, d3] }
  | _ => none }
def fnExactShadeRow : OpenClaim := { program := "ytmphklmhhcmbnaa", sum := "56645ab98a264b22f133ec5cb308ae8535bb525a98b66bb4498d38d682eb93f4", func := "loop.example/g00242/laws.FnExactShade", spec := "fnExactShade", unfollowed := true, recurses := true, apart := false }
def FnExactShadeSaid : Prop := fnExactShadeRow.holds Try.pinned (OpenSpec.ofChange fnExactShadeSpec)

/-- ITS FALSE NEIGHBOUR: 'it returns false'. Refute it at one input. -/
def fnExactShadeWrong : ChangeSpec := { name := "fnExactShade", fn := fun _ => fun
  | [d1, d2, d3] => { results := [.lit (.bool false)], args := [d1, d2, d3] }
  | _ => none }
def FnExactShadeWrongFalsely : Prop := fnExactShadeRow.holds Try.pinned (OpenSpec.ofChange fnExactShadeWrong)

/-- 'laws.FnExactSweepStep': WHATEVER THE INPUT: true; the input reads as it did. -/
def fnExactSweepStepSpec : ChangeSpec := { name := "fnExactSweepStep", fn := fun _ => fun
  | [d1, d2, d3] => { results := [.lit (.bool true)], args := [d1, d2, d3] }
  | _ => none }
def fnExactSweepStepRow : OpenClaim := { program := "ytmphklmhhcmbnaa", sum := "56645ab98a264b22f133ec5cb308ae8535bb525a98b66bb4498d38d682eb93f4", func := "loop.example/g00242/laws.FnExactSweepStep", spec := "fnExactSweepStep", unfollowed := true, recurses := true, apart := false }
def FnExactSweepStepSaid : Prop := fnExactSweepStepRow.holds Try.pinned (OpenSpec.ofChange fnExactSweepStepSpec)

/-- ITS FALSE NEIGHBOUR: 'it returns false'. Refute it at one input. -/
def fnExactSweepStepWrong : ChangeSpec := { name := "fnExactSweepStep", fn := fun _ => fun
  | [d1, d2, d3] => { results := [.lit (.bool false)], args := [d1, d2, d3] }
  | _ => none }
def FnExactSweepStepWrongFalsely : Prop := fnExactSweepStepRow.holds Try.pinned (OpenSpec.ofChange fnExactSweepStepWrong)

/-- 'laws.FnExactReach': WHATEVER THE INPUT: true; the input reads as it did. -/
def fnExactReachSpec : ChangeSpec := { name := "fnExactReach", fn := fun _ => fun
  | [d1, d2] => { results := [.lit (.bool true)], args := [d1, d2] }
  | _ => none }
def fnExactReachRow : OpenClaim := { program := "ytmphklmhhcmbnaa", sum := "56645ab98a264b22f133ec5cb308ae8535bb525a98b66bb4498d38d682eb93f4", func := "loop.example/g00242/laws.FnExactReach", spec := "fnExactReach", unfollowed := true, recurses := true, apart := false }
def FnExactReachSaid : Prop := fnExactReachRow.holds Try.pinned (OpenSpec.ofChange fnExactReachSpec)

/-- ITS FALSE NEIGHBOUR: 'it returns false'. Refute it at one input. -/
def fnExactReachWrong : ChangeSpec := { name := "fnExactReach", fn := fun _ => fun
  | [d1, d2] => { results := [.lit (.bool false)], args := [d1, d2] }
  | _ => none }
def FnExactReachWrongFalsely : Prop := fnExactReachRow.holds Try.pinned (OpenSpec.ofChange fnExactReachWrong)

/-- 'laws.FnExactMarkStep': WHATEVER THE INPUT: true; the input reads as it did. -/
def fnExactMarkStepSpec : ChangeSpec := { name := "fnExactMarkStep", fn := fun _ => fun
  | [d1, d2, d3] => { results := [.lit (.bool true)], args := [d1, d2, d3] }
  | _ => none }
def fnExactMarkStepRow : OpenClaim := { program := "ytmphklmhhcmbnaa", sum := "56645ab98a264b22f133ec5cb308ae8535bb525a98b66bb4498d38d682eb93f4", func := "loop.example/g00242/laws.FnExactMarkStep", spec := "fnExactMarkStep", inPlace := ["slices.overlaps[int]"], unfollowed := true, recurses := true, apart := false }
def FnExactMarkStepSaid : Prop := fnExactMarkStepRow.holds Try.pinned (OpenSpec.ofChange fnExactMarkStepSpec)

/-- ITS FALSE NEIGHBOUR: 'it returns false'. Refute it at one input. -/
def fnExactMarkStepWrong : ChangeSpec := { name := "fnExactMarkStep", fn := fun _ => fun
  | [d1, d2, d3] => { results := [.lit (.bool false)], args := [d1, d2, d3] }
  | _ => none }
def FnExactMarkStepWrongFalsely : Prop := fnExactMarkStepRow.holds Try.pinned (OpenSpec.ofChange fnExactMarkStepWrong)

/- THE SECOND FORM. 'bulk': how many values and letters a reading holds, each counted each time it is reached (what is shared counts as often as it is met; a slice's spare places count too). A statement '..UptoSaid' is the law's where the arguments, and the package variables that the reading takes, are together of bulk at most 1048576: NARROWER than '..Said'. Prove '..Said' where nothing that the law and all that it calls make is longer than what came in: it says more and counts as full. Else prove '..UptoSaid'. A law counts once. -/
mutual
def uptoBulk {H : Type} : DataW H → Nat
  | .lit (.string bytes) => bytes.length + 1
  | .lit _ => 1
  | .nil => 1
  | .ptr d => uptoBulk d + 1
  | .slice elems spare => uptoBulkAll elems + uptoBulkAll spare + 1
  | .agg parts => uptoBulkAll parts + 1
  | .iface _ d => uptoBulk d + 1
  | .map entries => uptoBulkEntries entries + 1
  | .held _ => 1
def uptoBulkAll {H : Type} : List (DataW H) → Nat
  | [] => 0
  | d :: r => uptoBulk d + uptoBulkAll r
def uptoBulkEntries {H : Type} : List (Lit × DataW H) → Nat
  | [] => 0
  | x :: r => uptoBulkEntry x + uptoBulkEntries r
def uptoBulkEntry {H : Type} : Lit × DataW H → Nat
  | (.string bytes, d) => bytes.length + uptoBulk d + 1
  | (_, d) => uptoBulk d + 1
 end
def uptoSmall : (H : Type) → List (DataW H) → Bool := fun _ ds => decide (uptoBulkAll ds ≤ 1048576)
def OpenSpec.upto (s : _root_.Go.ChangeSpec) : _root_.Go.OpenSpec := { _root_.Go.OpenSpec.ofChange s with cond := some uptoSmall }

/-- 'laws.FnExactStart', WHERE WHAT IT READS IS OF BULK AT MOST 1048576: true; the input reads as it did. -/
def fnExactStartUptoRow : OpenClaim := { program := "ytmphklmhhcmbnaa", sum := "56645ab98a264b22f133ec5cb308ae8535bb525a98b66bb4498d38d682eb93f4", func := "loop.example/g00242/laws.FnExactStart", spec := "fnExactStart", unfollowed := true, recurses := true, apart := false, narrowed := true }
def FnExactStartUptoSaid : Prop := fnExactStartUptoRow.holds Try.pinned (OpenSpec.upto fnExactStartSpec)

/-- 'laws.FnExactWaste', WHERE WHAT IT READS IS OF BULK AT MOST 1048576: true; the input reads as it did. -/
def fnExactWasteUptoRow : OpenClaim := { program := "ytmphklmhhcmbnaa", sum := "56645ab98a264b22f133ec5cb308ae8535bb525a98b66bb4498d38d682eb93f4", func := "loop.example/g00242/laws.FnExactWaste", spec := "fnExactWaste", unfollowed := true, recurses := true, apart := false, narrowed := true }
def FnExactWasteUptoSaid : Prop := fnExactWasteUptoRow.holds Try.pinned (OpenSpec.upto fnExactWasteSpec)

/-- 'laws.FnExactMarkerOk', WHERE WHAT IT READS IS OF BULK AT MOST 1048576: true; the input reads as it did. -/
def fnExactMarkerOkUptoRow : OpenClaim := { program := "ytmphklmhhcmbnaa", sum := "56645ab98a264b22f133ec5cb308ae8535bb525a98b66bb4498d38d682eb93f4", func := "loop.example/g00242/laws.FnExactMarkerOk", spec := "fnExactMarkerOk", unfollowed := true, recurses := true, apart := false, narrowed := true }
def FnExactMarkerOkUptoSaid : Prop := fnExactMarkerOkUptoRow.holds Try.pinned (OpenSpec.upto fnExactMarkerOkSpec)

/-- 'laws.FnExactTriOk', WHERE WHAT IT READS IS OF BULK AT MOST 1048576: true; the input reads as it did. -/
def fnExactTriOkUptoRow : OpenClaim := { program := "ytmphklmhhcmbnaa", sum := "56645ab98a264b22f133ec5cb308ae8535bb525a98b66bb4498d38d682eb93f4", func := "loop.example/g00242/laws.FnExactTriOk", spec := "fnExactTriOk", unfollowed := true, recurses := true, apart := false, narrowed := true }
def FnExactTriOkUptoSaid : Prop := fnExactTriOkUptoRow.holds Try.pinned (OpenSpec.upto fnExactTriOkSpec)

/-- 'laws.FnExactShade', WHERE WHAT IT READS IS OF BULK AT MOST 1048576: true; the input reads as it did. -/
def fnExactShadeUptoRow : OpenClaim := { program := "ytmphklmhhcmbnaa", sum := "56645ab98a264b22f133ec5cb308ae8535bb525a98b66bb4498d38d682eb93f4", func := "loop.example/g00242/laws.FnExactShade", spec := "fnExactShade", unfollowed := true, recurses := true, apart := false, narrowed := true }
def FnExactShadeUptoSaid : Prop := fnExactShadeUptoRow.holds Try.pinned (OpenSpec.upto fnExactShadeSpec)

/-- 'laws.FnExactSweepStep', WHERE WHAT IT READS IS OF BULK AT MOST 1048576: true; the input reads as it did. -/
def fnExactSweepStepUptoRow : OpenClaim := { program := "ytmphklmhhcmbnaa", sum := "56645ab98a264b22f133ec5cb308ae8535bb525a98b66bb4498d38d682eb93f4", func := "loop.example/g00242/laws.FnExactSweepStep", spec := "fnExactSweepStep", unfollowed := true, recurses := true, apart := false, narrowed := true }
def FnExactSweepStepUptoSaid : Prop := fnExactSweepStepUptoRow.holds Try.pinned (OpenSpec.upto fnExactSweepStepSpec)

/-- 'laws.FnExactReach', WHERE WHAT IT READS IS OF BULK AT MOST 1048576: true; the input reads as it did. -/
def fnExactReachUptoRow : OpenClaim := { program := "ytmphklmhhcmbnaa", sum := "56645ab98a264b22f133ec5cb308ae8535bb525a98b66bb4498d38d682eb93f4", func := "loop.example/g00242/laws.FnExactReach", spec := "fnExactReach", unfollowed := true, recurses := true, apart := false, narrowed := true }
def FnExactReachUptoSaid : Prop := fnExactReachUptoRow.holds Try.pinned (OpenSpec.upto fnExactReachSpec)

/-- 'laws.FnExactMarkStep', WHERE WHAT IT READS IS OF BULK AT MOST 1048576: true; the input reads as it did. -/
def fnExactMarkStepUptoRow : OpenClaim := { program := "ytmphklmhhcmbnaa", sum := "56645ab98a264b22f133ec5cb308ae8535bb525a98b66bb4498d38d682eb93f4", func := "loop.example/g00242/laws.FnExactMarkStep", spec := "fnExactMarkStep", inPlace := ["slices.overlaps[int]"], unfollowed := true, recurses := true, apart := false, narrowed := true }
def FnExactMarkStepUptoSaid : Prop := fnExactMarkStepUptoRow.holds Try.pinned (OpenSpec.upto fnExactMarkStepSpec)

end Rows
end Go.Proofs.Ytmphklmhhcmbnaa

/-
  DERIVED. GIVEN WITH THE SEED: THE CARDS: each row of YtmphklmhhcmbnaaDoorRows.lean that lists a variable, with what it lists TIED to the program's text (the seventh form; the later family's looks); each row that meets fmt, with fmt's text TOLD by the authors' own Lean function (tested against real Go, not proved from fmt's source: count such statements apart). THE CARD IS WHAT COUNTS. Prove the row's statement (the work); the ties are given (YtmphklmhhcmbnaaDoorTie.lean); close each card by the builder's one call (the guide's Derived/Test/ToyasCard.lean, 'card_holds'). Laid BY PROGRAM, IN A SANDBOX (cutbox-door.mjs). By AI agents, Wed Nov 11 2026. No macro, syntax, notation, axiom, sorry.
-/
import Derived.Test.YtmphklmhhcmbnaaDoorRows
import GoSem.ClaimSeven
namespace Go.Proofs.YtmphklmhhcmbnaaDoor
namespace Rows

/-- THE TIED CARD OF 'laws.FnExactPicture'. -/
def fnExactPictureCard : Claim7 := { stood := { row := fnExactPictureRow, standIns := [], harness := (true, "7cafd89ae47f1e081c13d91c8b64bef861dd64d5e3961e6395fa62d75a5ee9d2"), looks := false }, kinds := [], alts := [], laidByText := true, laidKinds := [.data, .data, .data], laidTests := true, laidLooks := .later }
def FnExactPictureCardSaid : Prop := Claim7.holds Tryd.pinned (.plain (OpenSpec.ofChange fnExactPictureSpec)) fnExactPictureCard

/-- THE TIED CARD OF 'laws.FnExactSameSight'. -/
def fnExactSameSightCard : Claim7 := { stood := { row := fnExactSameSightRow, standIns := [], harness := (true, "7cafd89ae47f1e081c13d91c8b64bef861dd64d5e3961e6395fa62d75a5ee9d2"), looks := false }, kinds := [], alts := [], laidByText := true, laidKinds := [.data, .data, .data], laidTests := true, laidLooks := .later }
def FnExactSameSightCardSaid : Prop := Claim7.holds Tryd.pinned (.plain (OpenSpec.ofChange fnExactSameSightSpec)) fnExactSameSightCard

/-- THE SECOND FORM's CARD OF 'laws.FnExactPicture'. -/
def fnExactPictureUptoCard : Claim7 := { stood := { row := fnExactPictureUptoRow, standIns := [], harness := (true, "7cafd89ae47f1e081c13d91c8b64bef861dd64d5e3961e6395fa62d75a5ee9d2"), looks := false }, kinds := [], alts := [], laidByText := true, laidKinds := [.data, .data, .data], laidTests := true, laidLooks := .later }
def FnExactPictureUptoCardSaid : Prop := Claim7.holds Tryd.pinned (.plain (OpenSpec.upto fnExactPictureSpec)) fnExactPictureUptoCard

/-- THE SECOND FORM's CARD OF 'laws.FnExactSameSight'. -/
def fnExactSameSightUptoCard : Claim7 := { stood := { row := fnExactSameSightUptoRow, standIns := [], harness := (true, "7cafd89ae47f1e081c13d91c8b64bef861dd64d5e3961e6395fa62d75a5ee9d2"), looks := false }, kinds := [], alts := [], laidByText := true, laidKinds := [.data, .data, .data], laidTests := true, laidLooks := .later }
def FnExactSameSightUptoCardSaid : Prop := Claim7.holds Tryd.pinned (.plain (OpenSpec.upto fnExactSameSightSpec)) fnExactSameSightUptoCard
end Rows
end Go.Proofs.YtmphklmhhcmbnaaDoor

/-
  DERIVED. GIVEN WITH THE SEED: THE CARDS: each row of YtglbaihiibdemaaGreatDoorRows.lean that lists a variable, with what it lists TIED to the program's text (the seventh form; the later family's looks); each row that meets fmt, with fmt's text TOLD by the authors' own Lean function (tested against real Go, not proved from fmt's source: count such statements apart). THE CARD IS WHAT COUNTS. Prove the row's statement (the work); the ties are given (YtglbaihiibdemaaGreatDoorTie.lean); close each card by the builder's one call (the guide's Derived/Test/ToyasCard.lean, 'card_holds'). Laid BY PROGRAM, IN A SANDBOX (cutbox-door.mjs). By AI agents, Wed Nov 11 2026. No macro, syntax, notation, axiom, sorry.
-/
import Derived.Test.YtglbaihiibdemaaGreatDoorRows
import GoSem.ClaimSeven
namespace Go.Proofs.YtglbaihiibdemaaGreatDoor
namespace Rows

/-- THE TIED CARD OF 'laws.FnExactReplyOf'. -/
def fnExactReplyOfCard : Claim7 := { stood := { row := fnExactReplyOfRow, standIns := [], harness := (true, "3e9a5378c382fdb5ce92bc49b2ee0cf7a8ada7283e63e06752878028e5aa248b"), looks := false }, kinds := [], alts := [], laidByText := true, laidKinds := [.data, .data, .data], laidTests := true, laidLooks := .later }
def FnExactReplyOfCardSaid : Prop := Claim7.holds Tryz.pinned (.plain (OpenSpec.ofChange fnExactReplyOfSpec)) fnExactReplyOfCard

/-- THE SECOND FORM's CARD OF 'laws.FnExactReplyOf'. -/
def fnExactReplyOfUptoCard : Claim7 := { stood := { row := fnExactReplyOfUptoRow, standIns := [], harness := (true, "3e9a5378c382fdb5ce92bc49b2ee0cf7a8ada7283e63e06752878028e5aa248b"), looks := false }, kinds := [], alts := [], laidByText := true, laidKinds := [.data, .data, .data], laidTests := true, laidLooks := .later }
def FnExactReplyOfUptoCardSaid : Prop := Claim7.holds Tryz.pinned (.plain (OpenSpec.upto fnExactReplyOfSpec)) fnExactReplyOfUptoCard
end Rows
end Go.Proofs.YtglbaihiibdemaaGreatDoor

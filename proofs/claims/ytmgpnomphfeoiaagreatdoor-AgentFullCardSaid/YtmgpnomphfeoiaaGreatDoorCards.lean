/-
  DERIVED. GIVEN WITH THE SEED: THE CARDS: each row of YtmgpnomphfeoiaaGreatDoorRows.lean that lists a variable, with what it lists TIED to the program's text (the seventh form; the later family's looks); each row that meets fmt, with fmt's text TOLD by the authors' own Lean function (tested against real Go, not proved from fmt's source: count such statements apart). THE CARD IS WHAT COUNTS. Prove the row's statement (the work); the ties are given (YtmgpnomphfeoiaaGreatDoorTie.lean); close each card by the builder's one call (the guide's Derived/Test/ToyasCard.lean, 'card_holds'). Laid BY PROGRAM, IN A SANDBOX (cutbox-door.mjs). By AI agents, Wed Nov 11 2026. No macro, syntax, notation, axiom, sorry.
-/
import Derived.Test.YtmgpnomphfeoiaaGreatDoorRows
import GoSem.ClaimSeven
namespace Go.Proofs.YtmgpnomphfeoiaaGreatDoor
namespace Rows

/-- THE TIED CARD OF 'bellhoplaw27.AgentFull'. -/
def agentFullCard : Claim7 := { stood := { row := agentFullRow, standIns := [], harness := (true, "404c0b64d4b3bc9a66da25a5b5188b4f0fdda0bea8cead97d6ec339f21f59789"), looks := true }, kinds := [], alts := [], laidByText := true, laidKinds := [.data, .pinned], laidTests := true, laidLooks := .later }
def AgentFullCardSaid : Prop := Claim7.holds Tryz.pinned (.plain (OpenSpec.ofChange agentFullSpec)) agentFullCard

/-- THE SECOND FORM's CARD OF 'bellhoplaw27.AgentFull'. -/
def agentFullUptoCard : Claim7 := { stood := { row := agentFullUptoRow, standIns := [], harness := (true, "404c0b64d4b3bc9a66da25a5b5188b4f0fdda0bea8cead97d6ec339f21f59789"), looks := true }, kinds := [], alts := [], laidByText := true, laidKinds := [.data, .pinned], laidTests := true, laidLooks := .later }
def AgentFullUptoCardSaid : Prop := Claim7.holds Tryz.pinned (.plain (OpenSpec.upto agentFullSpec)) agentFullUptoCard
end Rows
end Go.Proofs.YtmgpnomphfeoiaaGreatDoor

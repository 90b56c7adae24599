/-
  DERIVED. GIVEN WITH THE SEED: THE CARDS: each row of YtlhdghpdifmccaaGreatDoorRows.lean that lists a variable, with what it lists TIED to the program's text (the seventh form; the later family's looks); each row that meets fmt, with fmt's text TOLD by the authors' own Lean function (tested against real Go, not proved from fmt's source: count such statements apart). THE CARD IS WHAT COUNTS. Prove the row's statement (the work); the ties are given (YtlhdghpdifmccaaGreatDoorTie.lean); close each card by the builder's one call (the guide's Derived/Test/ToyasCard.lean, 'card_holds'). Laid BY PROGRAM, IN A SANDBOX (cutbox-door.mjs). By AI agents, Wed Nov 11 2026. No macro, syntax, notation, axiom, sorry.
-/
import Derived.Test.YtlhdghpdifmccaaGreatDoorRows
import GoSem.ClaimSeven
namespace Go.Proofs.YtlhdghpdifmccaaGreatDoor
namespace Rows

/-- THE TIED CARD OF 'bellhoplaw19.TreeSpreads'. -/
def treeSpreadsCard : Claim7 := { stood := { row := treeSpreadsRow, standIns := [], harness := (true, "c60c1d5cf67a067bb0bf983096b6ecefdcbf474710e237f68755587b2f21d315"), looks := true }, kinds := [], alts := [], laidByText := true, laidKinds := [.data, .pinned], laidTests := true, laidLooks := .later }
def TreeSpreadsCardSaid : Prop := Claim7.holds Tryz.pinned (.plain (OpenSpec.ofChange treeSpreadsSpec)) treeSpreadsCard

/-- THE TIED CARD OF 'bellhoplaw19.TreeEager'. -/
def treeEagerCard : Claim7 := { stood := { row := treeEagerRow, standIns := [], harness := (true, "c60c1d5cf67a067bb0bf983096b6ecefdcbf474710e237f68755587b2f21d315"), looks := true }, kinds := [], alts := [], laidByText := true, laidKinds := [.data, .pinned], laidTests := true, laidLooks := .later }
def TreeEagerCardSaid : Prop := Claim7.holds Tryz.pinned (.plain (OpenSpec.ofChange treeEagerSpec)) treeEagerCard

/-- THE TIED CARD OF 'bellhoplaw19.TreeQuiet'. -/
def treeQuietCard : Claim7 := { stood := { row := treeQuietRow, standIns := [], harness := (true, "c60c1d5cf67a067bb0bf983096b6ecefdcbf474710e237f68755587b2f21d315"), looks := true }, kinds := [], alts := [], laidByText := true, laidKinds := [.data, .pinned], laidTests := true, laidLooks := .later }
def TreeQuietCardSaid : Prop := Claim7.holds Tryz.pinned (.plain (OpenSpec.ofChange treeQuietSpec)) treeQuietCard

/-- THE TIED CARD OF 'bellhoplaw19.TreePlays'. -/
def treePlaysCard : Claim7 := { stood := { row := treePlaysRow, standIns := [], harness := (true, "c60c1d5cf67a067bb0bf983096b6ecefdcbf474710e237f68755587b2f21d315"), looks := true }, kinds := [], alts := [], laidByText := true, laidKinds := [.data, .pinned], laidTests := true, laidLooks := .later }
def TreePlaysCardSaid : Prop := Claim7.holds Tryz.pinned (.plain (OpenSpec.ofChange treePlaysSpec)) treePlaysCard

/-- THE SECOND FORM's CARD OF 'bellhoplaw19.TreeSpreads'. -/
def treeSpreadsUptoCard : Claim7 := { stood := { row := treeSpreadsUptoRow, standIns := [], harness := (true, "c60c1d5cf67a067bb0bf983096b6ecefdcbf474710e237f68755587b2f21d315"), looks := true }, kinds := [], alts := [], laidByText := true, laidKinds := [.data, .pinned], laidTests := true, laidLooks := .later }
def TreeSpreadsUptoCardSaid : Prop := Claim7.holds Tryz.pinned (.plain (OpenSpec.upto treeSpreadsSpec)) treeSpreadsUptoCard

/-- THE SECOND FORM's CARD OF 'bellhoplaw19.TreeEager'. -/
def treeEagerUptoCard : Claim7 := { stood := { row := treeEagerUptoRow, standIns := [], harness := (true, "c60c1d5cf67a067bb0bf983096b6ecefdcbf474710e237f68755587b2f21d315"), looks := true }, kinds := [], alts := [], laidByText := true, laidKinds := [.data, .pinned], laidTests := true, laidLooks := .later }
def TreeEagerUptoCardSaid : Prop := Claim7.holds Tryz.pinned (.plain (OpenSpec.upto treeEagerSpec)) treeEagerUptoCard

/-- THE SECOND FORM's CARD OF 'bellhoplaw19.TreeQuiet'. -/
def treeQuietUptoCard : Claim7 := { stood := { row := treeQuietUptoRow, standIns := [], harness := (true, "c60c1d5cf67a067bb0bf983096b6ecefdcbf474710e237f68755587b2f21d315"), looks := true }, kinds := [], alts := [], laidByText := true, laidKinds := [.data, .pinned], laidTests := true, laidLooks := .later }
def TreeQuietUptoCardSaid : Prop := Claim7.holds Tryz.pinned (.plain (OpenSpec.upto treeQuietSpec)) treeQuietUptoCard

/-- THE SECOND FORM's CARD OF 'bellhoplaw19.TreePlays'. -/
def treePlaysUptoCard : Claim7 := { stood := { row := treePlaysUptoRow, standIns := [], harness := (true, "c60c1d5cf67a067bb0bf983096b6ecefdcbf474710e237f68755587b2f21d315"), looks := true }, kinds := [], alts := [], laidByText := true, laidKinds := [.data, .pinned], laidTests := true, laidLooks := .later }
def TreePlaysUptoCardSaid : Prop := Claim7.holds Tryz.pinned (.plain (OpenSpec.upto treePlaysSpec)) treePlaysUptoCard
end Rows
end Go.Proofs.YtlhdghpdifmccaaGreatDoor

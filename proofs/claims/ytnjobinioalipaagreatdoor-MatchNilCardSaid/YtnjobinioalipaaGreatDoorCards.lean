/-
  DERIVED. GIVEN WITH THE SEED: THE CARDS: each row of YtnjobinioalipaaGreatDoorRows.lean that lists a variable, with what it lists TIED to the program's text (the seventh form; the later family's looks); each row that meets fmt, with fmt's text TOLD by the authors' own Lean function (tested against real Go, not proved from fmt's source: count such statements apart). THE CARD IS WHAT COUNTS. Prove the row's statement (the work); the ties are given (YtnjobinioalipaaGreatDoorTie.lean); close each card by the builder's one call (the guide's Derived/Test/ToyasCard.lean, 'card_holds'). Laid BY PROGRAM, IN A SANDBOX (cutbox-door.mjs). By AI agents, Wed Nov 11 2026. No macro, syntax, notation, axiom, sorry.
-/
import Derived.Test.YtnjobinioalipaaGreatDoorRows
import GoSem.ClaimSeven
namespace Go.Proofs.YtnjobinioalipaaGreatDoor
namespace Rows

/-- THE TIED CARD OF 'wherrylaw17.MatchNil'. -/
def matchNilCard : Claim7 := { stood := { row := matchNilRow, standIns := [], harness := (true, "cebc1b983c1814ce76c43c2e5b056e4824beea8d9dc74395574871a76cb335ec"), looks := true }, kinds := [], alts := [], laidByText := true, laidKinds := [.sentinel, .sentinel, .data, .data, .data, .data, .listed], laidTests := true, laidLooks := .later }
def MatchNilCardSaid : Prop := Claim7.holds Tryz.pinned (.plain (OpenSpec.ofChange matchNilSpec)) matchNilCard

/-- THE SECOND FORM's CARD OF 'wherrylaw17.MatchNil'. -/
def matchNilUptoCard : Claim7 := { stood := { row := matchNilUptoRow, standIns := [], harness := (true, "cebc1b983c1814ce76c43c2e5b056e4824beea8d9dc74395574871a76cb335ec"), looks := true }, kinds := [], alts := [], laidByText := true, laidKinds := [.sentinel, .sentinel, .data, .data, .data, .data, .listed], laidTests := true, laidLooks := .later }
def MatchNilUptoCardSaid : Prop := Claim7.holds Tryz.pinned (.plain (OpenSpec.upto matchNilSpec)) matchNilUptoCard
end Rows
end Go.Proofs.YtnjobinioalipaaGreatDoor

/- MatchNil: the card's closed facts: its form. -/
import Derived.Test.YtnjobinioalipaaGreatDoorCards
import Derived.SevenTiedAt
namespace Go.Proofs.YtnjobinioalipaaGreatDoor.MatchNil
open Go
theorem g_wf : Rows.matchNilRow.wfByText (OpenSpec.ofChange Rows.matchNilSpec) = true := by kernel_rfl

end Go.Proofs.YtnjobinioalipaaGreatDoor.MatchNil

/- MatchNil: the card's closed facts: the main function. -/
import Derived.Test.YtnjobinioalipaaGreatDoorCards
import Derived.SevenTiedAt
namespace Go.Proofs.YtnjobinioalipaaGreatDoor.MatchNil
open Go
theorem g_main : Tryz.pinned.checked.prog.mainIs = some ((true, "cebc1b983c1814ce76c43c2e5b056e4824beea8d9dc74395574871a76cb335ec").1, (true, "cebc1b983c1814ce76c43c2e5b056e4824beea8d9dc74395574871a76cb335ec").2.toList) := by kernel_rfl

end Go.Proofs.YtnjobinioalipaaGreatDoor.MatchNil

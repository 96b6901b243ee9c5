/- MatchNil: the row's closed facts: laid out. -/
import Derived.Test.YtnjobinioalipaaGreatDoorRows
import Derived.JoinedOf
namespace Go.Proofs.YtnjobinioalipaaGreatDoor.MatchNil
open Go
theorem k_laid : laidOutB Tryz.pinned.checked.prog = true := by kernel_rfl
theorem k_maps : mapsRowed Tryz.pinned.checked.prog = true := by kernel_rfl

end Go.Proofs.YtnjobinioalipaaGreatDoor.MatchNil

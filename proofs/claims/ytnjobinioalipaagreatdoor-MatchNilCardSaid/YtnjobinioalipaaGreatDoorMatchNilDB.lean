/- MatchNil: the row's closed facts: what stands in place. -/
import Derived.Test.YtnjobinioalipaaGreatDoorRows
import Derived.JoinedOf
namespace Go.Proofs.YtnjobinioalipaaGreatDoor.MatchNil
open Go
theorem k_inPlace : (Rows.matchNilRow.inPlace == Tryz.pinned.checked.prog.inPlace 3) = true := by kernel_rfl

end Go.Proofs.YtnjobinioalipaaGreatDoor.MatchNil

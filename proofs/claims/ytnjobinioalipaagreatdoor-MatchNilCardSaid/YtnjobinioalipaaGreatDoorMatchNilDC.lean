/- MatchNil: the row's closed facts: what is not followed. -/
import Derived.Test.YtnjobinioalipaaGreatDoorRows
import Derived.JoinedOf
namespace Go.Proofs.YtnjobinioalipaaGreatDoor.MatchNil
open Go
theorem k_unf : (Rows.matchNilRow.unfollowed == Tryz.pinned.checked.prog.unfollowed 3) = true := by kernel_rfl

end Go.Proofs.YtnjobinioalipaaGreatDoor.MatchNil

/- MatchNil: the row's closed facts: what calls itself. -/
import Derived.Test.YtnjobinioalipaaGreatDoorRows
import Derived.JoinedOf
namespace Go.Proofs.YtnjobinioalipaaGreatDoor.MatchNil
open Go
theorem k_rec : (Rows.matchNilRow.recurses == Tryz.pinned.checked.prog.recurses 3) = true := by kernel_rfl

end Go.Proofs.YtnjobinioalipaaGreatDoor.MatchNil

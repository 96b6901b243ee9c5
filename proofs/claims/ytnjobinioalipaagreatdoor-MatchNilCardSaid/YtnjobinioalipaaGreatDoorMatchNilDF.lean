/- MatchNil: the row's closed facts: the variables. -/
import Derived.Test.YtnjobinioalipaaGreatDoorRows
import Derived.JoinedOf
namespace Go.Proofs.YtnjobinioalipaaGreatDoor.MatchNil
open Go
theorem k_named : (Rows.matchNilRow.named == Tryz.pinned.checked.prog.varsNamed 3) = true := by kernel_rfl

end Go.Proofs.YtnjobinioalipaaGreatDoor.MatchNil

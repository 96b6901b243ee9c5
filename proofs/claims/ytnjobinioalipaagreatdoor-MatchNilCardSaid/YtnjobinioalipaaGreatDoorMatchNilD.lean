/- MatchNil: the row's closed facts. -/
import Derived.Test.YtnjobinioalipaaGreatDoorMatchNilDA
import Derived.Test.YtnjobinioalipaaGreatDoorMatchNilDB
import Derived.Test.YtnjobinioalipaaGreatDoorMatchNilDC
import Derived.Test.YtnjobinioalipaaGreatDoorMatchNilDE
import Derived.Test.YtnjobinioalipaaGreatDoorMatchNilDF
namespace Go.Proofs.YtnjobinioalipaaGreatDoor.MatchNil
open Go

theorem closed : joinedFacts Tryz.pinned.checked.prog 3 Tryz.f3 Rows.matchNilSpec Rows.matchNilRow = true := by
  unfold joinedFacts
  rw [k_laid, k_maps, k_inPlace, k_unf, k_rec, k_named]
  kernel_rfl

end Go.Proofs.YtnjobinioalipaaGreatDoor.MatchNil

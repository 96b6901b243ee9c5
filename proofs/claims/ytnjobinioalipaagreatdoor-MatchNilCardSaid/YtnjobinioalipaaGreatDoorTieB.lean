/- The program's tie, by parts (the given Tie text takes more memory than a Lean process may): the names. -/
import Derived.Test.YtnjobinioalipaaGreatDoorTieA
namespace Go.Proofs.YtnjobinioalipaaGreatDoor
open Go
theorem t_hn : varsNamedLaterB Tryz.prog (varsId Tryz.prog) laidL = true := by kernel_rfl
end Go.Proofs.YtnjobinioalipaaGreatDoor

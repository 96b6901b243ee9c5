/- The program's tie, by parts (the given Tie text takes more memory than a Lean process may): the run ends. -/
import Derived.Test.YtnjobinioalipaaGreatDoorTieA
namespace Go.Proofs.YtnjobinioalipaaGreatDoor
open Go
theorem t_hd : ∀ os tape, varsDone Tryz.prog 400 (varsId Tryz.prog) os tape = true := fun _ _ => by kernel_rfl
end Go.Proofs.YtnjobinioalipaaGreatDoor

/- The program's tie, by parts (the given Tie text takes more memory than a Lean process may): what it leaves reads as the list says. -/
import Derived.Test.YtnjobinioalipaaGreatDoorTieA
namespace Go.Proofs.YtnjobinioalipaaGreatDoor
open Go
theorem t_h1 : ∀ os tape, (DataW.laidRun Tryz.prog (varsWorld Tryz.prog 400 (varsId Tryz.prog) os tape).memory 8 (laidL.map (·.1))).map (·.1) = some laidL := fun _ _ => by kernel_rfl
end Go.Proofs.YtnjobinioalipaaGreatDoor

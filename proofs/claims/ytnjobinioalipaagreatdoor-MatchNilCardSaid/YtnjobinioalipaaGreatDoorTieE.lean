/- The program's tie, by parts (the given Tie text takes more memory than a Lean process may): no place is read twice. -/
import Derived.Test.YtnjobinioalipaaGreatDoorTieA
namespace Go.Proofs.YtnjobinioalipaaGreatDoor
open Go
theorem t_h2 : ∀ os tape, (DataW.laidRun Tryz.prog (varsWorld Tryz.prog 400 (varsId Tryz.prog) os tape).memory 8 (laidL.map (·.1))).map (fun x => decide x.2.Nodup && laidRowsB Tryz.prog (varsWorld Tryz.prog 400 (varsId Tryz.prog) os tape).memory x.2) = some true := fun _ _ => by kernel_rfl
end Go.Proofs.YtnjobinioalipaaGreatDoor

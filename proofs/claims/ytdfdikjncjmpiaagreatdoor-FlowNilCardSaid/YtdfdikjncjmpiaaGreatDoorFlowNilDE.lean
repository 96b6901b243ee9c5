/- FlowNil: the row's closed facts: what calls itself. -/
import Derived.Test.YtdfdikjncjmpiaaGreatDoorRows
import Derived.JoinedOf
namespace Go.Proofs.YtdfdikjncjmpiaaGreatDoor.FlowNil
open Go
theorem k_rec : (Rows.flowNilRow.recurses == Tryz.pinned.checked.prog.recurses 3) = true := by kernel_rfl

end Go.Proofs.YtdfdikjncjmpiaaGreatDoor.FlowNil

/- FlowNil: the row's closed facts: what is not followed. -/
import Derived.Test.YtdfdikjncjmpiaaGreatDoorRows
import Derived.JoinedOf
namespace Go.Proofs.YtdfdikjncjmpiaaGreatDoor.FlowNil
open Go
theorem k_unf : (Rows.flowNilRow.unfollowed == Tryz.pinned.checked.prog.unfollowed 3) = true := by kernel_rfl

end Go.Proofs.YtdfdikjncjmpiaaGreatDoor.FlowNil

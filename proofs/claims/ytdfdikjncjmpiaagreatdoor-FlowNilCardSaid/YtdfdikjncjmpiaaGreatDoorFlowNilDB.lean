/- FlowNil: the row's closed facts: what stands in place. -/
import Derived.Test.YtdfdikjncjmpiaaGreatDoorRows
import Derived.JoinedOf
namespace Go.Proofs.YtdfdikjncjmpiaaGreatDoor.FlowNil
open Go
theorem k_inPlace : (Rows.flowNilRow.inPlace == Tryz.pinned.checked.prog.inPlace 3) = true := by kernel_rfl

end Go.Proofs.YtdfdikjncjmpiaaGreatDoor.FlowNil

/- FlowNil: the row's closed facts: the variables. -/
import Derived.Test.YtdfdikjncjmpiaaGreatDoorRows
import Derived.JoinedOf
namespace Go.Proofs.YtdfdikjncjmpiaaGreatDoor.FlowNil
open Go
theorem k_named : (Rows.flowNilRow.named == Tryz.pinned.checked.prog.varsNamed 3) = true := by kernel_rfl

end Go.Proofs.YtdfdikjncjmpiaaGreatDoor.FlowNil

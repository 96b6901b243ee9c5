/- FlowNil: the card's closed facts: its form. -/
import Derived.Test.YtdfdikjncjmpiaaGreatDoorCards
import Derived.SevenTiedAt
namespace Go.Proofs.YtdfdikjncjmpiaaGreatDoor.FlowNil
open Go
theorem g_wf : Rows.flowNilRow.wfByText (OpenSpec.ofChange Rows.flowNilSpec) = true := by kernel_rfl

end Go.Proofs.YtdfdikjncjmpiaaGreatDoor.FlowNil

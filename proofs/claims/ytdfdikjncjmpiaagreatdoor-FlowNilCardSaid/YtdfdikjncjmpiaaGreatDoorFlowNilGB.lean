/- FlowNil: the card's closed facts: the main function. -/
import Derived.Test.YtdfdikjncjmpiaaGreatDoorCards
import Derived.SevenTiedAt
namespace Go.Proofs.YtdfdikjncjmpiaaGreatDoor.FlowNil
open Go
theorem g_main : Tryz.pinned.checked.prog.mainIs = some ((true, "62be48652c68bf8780b089168caad136615e69afc1b494655ca94d2e04dd9aa6").1, (true, "62be48652c68bf8780b089168caad136615e69afc1b494655ca94d2e04dd9aa6").2.toList) := by kernel_rfl

end Go.Proofs.YtdfdikjncjmpiaaGreatDoor.FlowNil

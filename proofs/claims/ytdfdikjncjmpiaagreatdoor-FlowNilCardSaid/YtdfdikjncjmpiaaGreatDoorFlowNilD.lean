/- FlowNil: the row's closed facts. -/
import Derived.Test.YtdfdikjncjmpiaaGreatDoorFlowNilDA
import Derived.Test.YtdfdikjncjmpiaaGreatDoorFlowNilDB
import Derived.Test.YtdfdikjncjmpiaaGreatDoorFlowNilDC
import Derived.Test.YtdfdikjncjmpiaaGreatDoorFlowNilDE
import Derived.Test.YtdfdikjncjmpiaaGreatDoorFlowNilDF
namespace Go.Proofs.YtdfdikjncjmpiaaGreatDoor.FlowNil
open Go

theorem closed : joinedFacts Tryz.pinned.checked.prog 3 Tryz.f3 Rows.flowNilSpec Rows.flowNilRow = true := by
  unfold joinedFacts
  rw [k_laid, k_maps, k_inPlace, k_unf, k_rec, k_named]
  kernel_rfl

end Go.Proofs.YtdfdikjncjmpiaaGreatDoor.FlowNil

/- FlowNil, run by the kernel: for every number and every text the evaluator says true. -/
import Derived.Test.YtdfdikjncjmpiaaGreatDoorEvTy
namespace Go.Proofs.YtdfdikjncjmpiaaGreatDoor.FlowNil

/-- True, whatever memory. -/
def isTrue (v : Ev.AV) (_h : Ev.H) : Bool :=
  match v with
  | .bool true => true
  | _ => false

set_option maxRecDepth 100000000 in
/-- THE RUN, by the kernel. -/
theorem ran (k : Int) (s : List Nat) : Ev.callK Ev.env 100 3 [.int .u64 k, .str s] ⟨.leaf, 0⟩ isTrue = true := by kernel_rfl

end Go.Proofs.YtdfdikjncjmpiaaGreatDoor.FlowNil

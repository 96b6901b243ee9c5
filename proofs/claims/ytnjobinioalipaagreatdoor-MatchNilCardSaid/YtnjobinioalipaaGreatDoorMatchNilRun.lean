/- MatchNil, run by the kernel: for every record the evaluator says true. -/
import Derived.Test.YtnjobinioalipaaGreatDoorEvTy
namespace Go.Proofs.YtnjobinioalipaaGreatDoor.MatchNil

/-- True, whatever memory. -/
def isTrue (v : Ev.AV) (_h : Ev.H) : Bool :=
  match v with
  | .bool true => true
  | _ => false

set_option maxRecDepth 100000000 in
/-- THE RUN, by the kernel. -/
theorem ran (c0 c1 c2 c3 c4 c5 c6 c7 c8 c9 c10 c11 c12 : Ev.AV) : Ev.callK Ev.env 100 3 [.agg [c0, c1, c2, c3, c4, c5, c6, c7, c8, c9, c10, c11, c12]] ⟨.leaf, 1⟩ isTrue = true := by kernel_rfl

end Go.Proofs.YtnjobinioalipaaGreatDoor.MatchNil

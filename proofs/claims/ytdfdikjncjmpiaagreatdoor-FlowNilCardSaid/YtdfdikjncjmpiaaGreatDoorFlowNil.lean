/- FlowNil: for every number and every text the law returns true, and what came in reads as it did. The conditions are the row's own: the listed package variables hold at the start what the program's text lays. Shown by an evaluator that Lean's kernel runs on the loaded program (the Ev texts): it is proved to tell, for every order of every region that leaves its order open and for every tape, what the call comes to. -/
import Derived.Test.YtdfdikjncjmpiaaGreatDoorCards
import Derived.Test.YtdfdikjncjmpiaaGreatDoorTieF
import Derived.Test.YtdfdikjncjmpiaaGreatDoorFlowNilE
import Derived.Test.YtdfdikjncjmpiaaGreatDoorFlowNilF
import Derived.Test.YtdfdikjncjmpiaaGreatDoorFlowNilGA
import Derived.Test.YtdfdikjncjmpiaaGreatDoorFlowNilGB
import Derived.Test.YtdfdikjncjmpiaaGreatDoorFlowNilGC
import Derived.WalkKit
import Derived.ProofKit
import Derived.OpenShut
import Derived.LaidMore
import Derived.Stop.Joined
import Derived.SevenTiedAt
namespace Go.Proofs.YtdfdikjncjmpiaaGreatDoor
/-- THE CARD. -/
theorem flowNil_card : Rows.FlowNilCardSaid :=
  Claim7.holds_tied_plain_at .later [] _ _ (true, "62be48652c68bf8780b089168caad136615e69afc1b494655ca94d2e04dd9aa6") true FlowNil.said (fun _ h => by cases h) FlowNil.g_wf (fun _ h => by cases h) t_row rfl ⟨rfl, rfl⟩ FlowNil.g_main rfl FlowNil.plain FlowNil.g_goes
end Go.Proofs.YtdfdikjncjmpiaaGreatDoor

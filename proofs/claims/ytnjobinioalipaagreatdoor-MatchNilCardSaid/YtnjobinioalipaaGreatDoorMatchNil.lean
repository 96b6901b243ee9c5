/- MatchNil: for every record the law returns true, and what came in reads as it did. The conditions are the row's own: the listed package variables hold at the start what the program's text lays. Shown by an evaluator that Lean's kernel runs on the loaded program (the Ev texts): it is proved to tell, for every order of every region that leaves its order open and for every tape, what the call comes to. -/
import Derived.Test.YtnjobinioalipaaGreatDoorCards
import Derived.Test.YtnjobinioalipaaGreatDoorTieF
import Derived.Test.YtnjobinioalipaaGreatDoorMatchNilE
import Derived.Test.YtnjobinioalipaaGreatDoorMatchNilF
import Derived.Test.YtnjobinioalipaaGreatDoorMatchNilGA
import Derived.Test.YtnjobinioalipaaGreatDoorMatchNilGB
import Derived.Test.YtnjobinioalipaaGreatDoorMatchNilGC
import Derived.WalkKit
import Derived.ProofKit
import Derived.OpenShut
import Derived.LaidMore
import Derived.Stop.Joined
import Derived.SevenTiedAt
namespace Go.Proofs.YtnjobinioalipaaGreatDoor
/-- THE CARD. -/
theorem matchNil_card : Rows.MatchNilCardSaid :=
  Claim7.holds_tied_plain_at .later [] _ _ (true, "cebc1b983c1814ce76c43c2e5b056e4824beea8d9dc74395574871a76cb335ec") true MatchNil.said (fun _ h => by cases h) MatchNil.g_wf (fun _ h => by cases h) t_row rfl ⟨rfl, rfl⟩ MatchNil.g_main rfl MatchNil.plain MatchNil.g_goes
end Go.Proofs.YtnjobinioalipaaGreatDoor

/- MatchNil: the row. -/
import Derived.Test.YtnjobinioalipaaGreatDoorMatchNilC
import Derived.Test.YtnjobinioalipaaGreatDoorMatchNilD
import Derived.WalkKit
import Derived.ProofKit
import Derived.OpenShut
import Derived.LaidMore
import Derived.Stop.Joined
import Derived.SevenTiedAt
namespace Go.Proofs.YtnjobinioalipaaGreatDoor.MatchNil
open Go.ChangeShapes Go.WideShapes Go.ChangeAt Go.RowKit
open Go.ChangeMaps (open_string shut_string)

theorem named : Tryz.pinned.checked.prog.funcNamed Rows.matchNilRow.func = some 3 := by kernel_rfl
theorem inst : Tryz.f3.isInstance Tryz.pinned.checked.prog Rows.matchNilRow.origin Rows.matchNilRow.targs := of_decide_eq_true (by kernel_rfl)
theorem wrap : Tryz.f3.isWrapper Tryz.pinned.checked.prog Rows.matchNilRow.wrapper Rows.matchNilRow.mainSum := by
  unfold Func.isWrapper; rw [if_neg (of_decide_eq_false (by kernel_rfl))]; exact ⟨rfl, rfl⟩
theorem said : Rows.MatchNilSaid :=
  OpenClaim.holds_of_wide 3 Tryz.f3 rfl rfl rfl rfl rfl rfl rfl ⟨rfl, rfl, rfl, rfl, rfl⟩ rfl rfl rfl rfl rfl named Tryz.func3 closed inst wrap
    (fun os started H enc _ => lifted os started H enc)

end Go.Proofs.YtnjobinioalipaaGreatDoor.MatchNil

/- The program's tie, out of its parts; the row's. -/
import Derived.Test.YtnjobinioalipaaGreatDoorTieB
import Derived.Test.YtnjobinioalipaaGreatDoorTieC
import Derived.Test.YtnjobinioalipaaGreatDoorTieD
import Derived.Test.YtnjobinioalipaaGreatDoorTieE
namespace Go.Proofs.YtnjobinioalipaaGreatDoor
open Go
theorem t_all : Tryz.prog.laidByTextLater laidL kindsL true :=
  Program.laidByTextLater_by_run 400 8 t_hw t_hw' t_hroot t_hk t_hg t_hn t_hd t_h1 t_h2
theorem t_unsafe : Tryz.pinned.checked.prog.headLifts.contains "ownunsafe" = false := by kernel_rfl
theorem t_row : Rows.matchNilRow.laidByTextAt .later Tryz.pinned kindsL true := OpenClaim.laidByTextAt_later rfl rfl t_all t_unsafe
end Go.Proofs.YtnjobinioalipaaGreatDoor

/- MatchNil: the card's closed facts: what goes. -/
import Derived.Test.YtnjobinioalipaaGreatDoorCards
import Derived.SevenTiedAt
namespace Go.Proofs.YtnjobinioalipaaGreatDoor.MatchNil
open Go
theorem none_goes : Tryz.pinned.checked.prog.funcs.any Func.goes = false := by kernel_rfl

theorem goes_false {P : Program} (h : P.funcs.any Func.goes = false) (f : FuncId) : P.goes f = false := by
  have key : ∀ g : Nat, (P.funcs[g]?).any Func.goes = false := by
    intro g
    cases hg : P.funcs[g]? with
    | none => rfl
    | some fn =>
      have hm := Array.mem_of_getElem? hg
      rw [Array.any_eq_false'] at h
      simpa using h fn hm
  unfold Program.goes
  rw [h, Bool.and_false, Bool.or_false, List.any_eq_false]
  intro g _
  rw [key g]
  simp

theorem g_goes : false = Rows.matchNilRow.goesBy Tryz.pinned.checked.prog := by
  unfold OpenClaim.goesBy Program.goesAt Program.goesFrom
  rw [show Rows.matchNilRow.start = .entering from rfl]
  cases Tryz.pinned.checked.prog.funcNamed Rows.matchNilRow.func with
  | none => rfl
  | some f => simp [goes_false none_goes f]

end Go.Proofs.YtnjobinioalipaaGreatDoor.MatchNil

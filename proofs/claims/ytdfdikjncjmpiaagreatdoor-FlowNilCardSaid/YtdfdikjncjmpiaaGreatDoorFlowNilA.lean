/- FlowNil: what the call comes to. -/
import Derived.Test.YtdfdikjncjmpiaaGreatDoorFlowNilRun
import Derived.WalkKit
import Derived.ProofKit
import Derived.OpenShut
import Derived.LaidMore
import Derived.Stop.Joined
import Derived.SevenTiedAt
namespace Go.Proofs.YtdfdikjncjmpiaaGreatDoor.FlowNil
open Go.ChangeShapes Go.WideShapes Go.ChangeAt Go.RowKit
open Go.ChangeMaps (open_string shut_string)

/-- WHAT THE CALL COMES TO: true; what there was is as it was. -/
theorem call (k : Int) (s : ByteArray) (w : World) : Calls Tryz.prog 3 #[.int .u64 k, .string s] w fun e w' => e = .returned (.bool true) ∧ w'.os = w.os ∧ w'.output = w.output ∧
    ∀ β, β < w.heap.size → w'.heap[β]? = w.heap[β]? := by
  obtain ⟨v, h', hv, hs⟩ := Ev.callK_sound Ev.envOk 100 3 [.int .u64 k, .str (s.data.toList.map (·.toNat))] ⟨.leaf, 0⟩ isTrue (ran k _)
  have hs := hs (fun _ => none) w #[.int .u64 k, .string s] (.cons (.int _ _) (.cons (.str rfl) .nil))
    ⟨fun b o h => (by cases h), fun b o h => (by cases h), fun _ _ _ _ _ _ _ _ _ h => (by cases h)⟩ (fun _ _ => rfl)
  have hc := Tryz.call3 #[.int .u64 k, .string s] w
  rcases hs with ⟨rv, M', w', h1, _⟩ | ⟨_, h1⟩
  · rw [hc] at h1; cases h1
  · refine h1.mono fun e w' ⟨rv, M', h2, h3, h4⟩ => ?_
    subst h2
    cases v with
    | bool b =>
      cases b with
      | true =>
        cases h3
        exact ⟨rfl, h4.os, h4.output, fun β hβ => h4.frame β hβ fun b o δ n h _ => by cases h⟩
      | false => exact absurd hv (by simp [isTrue])
    | _ => exact absurd hv (by simp [isTrue])

theorem own : ownKnob Tryz.prog.godebug = none := by kernel_rfl

end Go.Proofs.YtdfdikjncjmpiaaGreatDoor.FlowNil

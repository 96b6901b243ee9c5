/- MatchNil: what the call comes to. -/
import Derived.Test.YtnjobinioalipaaGreatDoorMatchNilRun
import Derived.Below
import Derived.WalkKit
import Derived.ProofKit
import Derived.OpenShut
import Derived.LaidMore
import Derived.Stop.Joined
import Derived.SevenTiedAt
namespace Go.Proofs.YtnjobinioalipaaGreatDoor.MatchNil
open Go.ChangeShapes Go.WideShapes Go.ChangeAt Go.RowKit
open Go.ChangeMaps (open_string shut_string)

section
variable {P : Program} {W : World} {base : Nat} {v : Value} {t : TypeId}

theorem cell_int {k : IntKind} (hu : P.underlying t = some (.int k)) (h : Cell.okWide P W .any base t v) (M : Ev.Mp) : ∃ a, Ev.VRel M a v := by
  unfold Cell.okWide at h
  rw [hu] at h
  unfold Cell.ok at h
  simp only [hu] at h
  cases v <;> simp at h
  exact ⟨_, .int _ _⟩

theorem cell_string (hu : P.underlying t = some .string) (h : Cell.okWide P W .any base t v) (M : Ev.Mp) : ∃ a, Ev.VRel M a v := by
  unfold Cell.okWide at h
  rw [hu] at h
  unfold Cell.ok at h
  simp only [hu] at h
  cases v <;> simp at h
  exact ⟨_, .str rfl⟩

/-- The name of the one block that came in. -/
def one (β : Nat) : Ev.Mp := fun b => if b = 0 then some (β, 0, 0) else none

theorem cell_slice {e : TypeId} (hu : P.underlying t = some (.slice e)) (h : Cell.okWide P W .any base t v) : ∃ β a, Ev.VRel (one β) a v := by
  unfold Cell.okWide at h
  rw [hu] at h
  unfold Cell.ok at h
  simp only [hu] at h
  cases v with
  | slice p len cap =>
    cases p with
    | none =>
      cases len <;> cases cap <;> simp at h
      exact ⟨0, _, .nilslice⟩
    | some p =>
      obtain ⟨_, _, _, h1, _⟩ := h
      obtain ⟨β, o, s⟩ := p
      simp only at h1
      subst h1
      refine ⟨β, .slice 0 o len cap, ?_⟩
      have := Ev.VRel.slice (M := one β) (b := 0) (off := o) (len := len) (cap := cap) (β := β) (δ := 0) (n := 0) rfl
      rwa [Nat.zero_add] at this
  | _ => simp at h

/-- A record, as the evaluator has it. -/
theorem record {fs : Array Field} {e : TypeId} (hu : P.underlying 25 = some (.struct fs)) (hn : P.cellsOf 25 = 13) (ht : P.cellTypes P.depth 25 = some [3, 3, 22, 2, 22, 22, 22, 2, 2, 9, 9, 9, 23])
    (u3 : P.underlying 3 = some (.int .i64)) (u22 : P.underlying 22 = some (.int .u64)) (u2 : P.underlying 2 = some (.int .i64)) (u9 : P.underlying 9 = some .string) (u23 : P.underlying 23 = some (.slice e))
    (h : Value.okWide P W .any base 25 v) : ∃ (β : Nat) (c0 c1 c2 c3 c4 c5 c6 c7 c8 c9 c10 c11 c12 : Ev.AV), Ev.VRel (one β) (.agg [c0, c1, c2, c3, c4, c5, c6, c7, c8, c9, c10, c11, c12]) v := by
  unfold Value.okWide at h
  rw [hu] at h
  obtain ⟨cs, rfl, hsz, ts, hts, _, hc⟩ := h
  rw [ht] at hts
  have hts := Option.some.inj hts
  subst hts
  rw [hn] at hsz
  obtain ⟨l⟩ := cs
  match l, hsz, hc with
  | [x0, x1, x2, x3, x4, x5, x6, x7, x8, x9, x10, x11, x12], _, hc =>
    obtain ⟨β, a12, h12⟩ : ∃ β a, Ev.VRel (one β) a x12 := by
      obtain ⟨u, hu, hk⟩ := hc 12 x12 rfl
      cases hu
      exact cell_slice u23 hk
    obtain ⟨a0, h0⟩ : ∃ a, Ev.VRel (one β) a x0 := by
      obtain ⟨u, hu, hk⟩ := hc 0 x0 rfl
      cases hu
      exact cell_int u3 hk _
    obtain ⟨a1, h1⟩ : ∃ a, Ev.VRel (one β) a x1 := by
      obtain ⟨u, hu, hk⟩ := hc 1 x1 rfl
      cases hu
      exact cell_int u3 hk _
    obtain ⟨a2, h2⟩ : ∃ a, Ev.VRel (one β) a x2 := by
      obtain ⟨u, hu, hk⟩ := hc 2 x2 rfl
      cases hu
      exact cell_int u22 hk _
    obtain ⟨a3, h3⟩ : ∃ a, Ev.VRel (one β) a x3 := by
      obtain ⟨u, hu, hk⟩ := hc 3 x3 rfl
      cases hu
      exact cell_int u2 hk _
    obtain ⟨a4, h4⟩ : ∃ a, Ev.VRel (one β) a x4 := by
      obtain ⟨u, hu, hk⟩ := hc 4 x4 rfl
      cases hu
      exact cell_int u22 hk _
    obtain ⟨a5, h5⟩ : ∃ a, Ev.VRel (one β) a x5 := by
      obtain ⟨u, hu, hk⟩ := hc 5 x5 rfl
      cases hu
      exact cell_int u22 hk _
    obtain ⟨a6, h6⟩ : ∃ a, Ev.VRel (one β) a x6 := by
      obtain ⟨u, hu, hk⟩ := hc 6 x6 rfl
      cases hu
      exact cell_int u22 hk _
    obtain ⟨a7, h7⟩ : ∃ a, Ev.VRel (one β) a x7 := by
      obtain ⟨u, hu, hk⟩ := hc 7 x7 rfl
      cases hu
      exact cell_int u2 hk _
    obtain ⟨a8, h8⟩ : ∃ a, Ev.VRel (one β) a x8 := by
      obtain ⟨u, hu, hk⟩ := hc 8 x8 rfl
      cases hu
      exact cell_int u2 hk _
    obtain ⟨a9, h9⟩ : ∃ a, Ev.VRel (one β) a x9 := by
      obtain ⟨u, hu, hk⟩ := hc 9 x9 rfl
      cases hu
      exact cell_string u9 hk _
    obtain ⟨a10, h10⟩ : ∃ a, Ev.VRel (one β) a x10 := by
      obtain ⟨u, hu, hk⟩ := hc 10 x10 rfl
      cases hu
      exact cell_string u9 hk _
    obtain ⟨a11, h11⟩ : ∃ a, Ev.VRel (one β) a x11 := by
      obtain ⟨u, hu, hk⟩ := hc 11 x11 rfl
      cases hu
      exact cell_string u9 hk _
    refine ⟨β, a0, a1, a2, a3, a4, a5, a6, a7, a8, a9, a10, a11, a12, .agg ?_⟩
    exact .cons h0 (.cons h1 (.cons h2 (.cons h3 (.cons h4 (.cons h5 (.cons h6 (.cons h7 (.cons h8 (.cons h9 (.cons h10 (.cons h11 (.cons h12 .nil))))))))))))
end

theorem cells25 : Tryz.prog.cellsOf 25 = 13 := by kernel_rfl
theorem types25 : Tryz.prog.cellTypes Tryz.prog.depth 25 = some [3, 3, 22, 2, 22, 22, 22, 2, 2, 9, 9, 9, 23] := by kernel_rfl

set_option maxRecDepth 100000 in
/-- WHAT THE CALL COMES TO: true; what there was is as it was. -/
theorem call {W : World} {base : Nat} {v : Value} (hv : Value.okWide Tryz.prog W .any base 25 v) : Calls Tryz.prog 3 #[v] W fun e w' => e = .returned (.bool true) ∧ Below W.heap.size W w' := by
  obtain ⟨β, c0, c1, c2, c3, c4, c5, c6, c7, c8, c9, c10, c11, c12, hr⟩ := record Tryz.underlying25 cells25 types25 Tryz.underlying3 Tryz.underlying22 Tryz.underlying2 Tryz.underlying9 Tryz.underlying23 hv
  obtain ⟨x, h', hx, hs⟩ := (Ev.callK_sound Ev.envOk 100) _ _ _ _ (ran c0 c1 c2 c3 c4 c5 c6 c7 c8 c9 c10 c11 c12)
  have hs := hs (one β) W #[v] (.cons hr .nil)
    ⟨fun b o h => (by cases h), fun b o h => (by cases h), fun _ _ _ _ _ _ _ _ _ h => (by cases h)⟩ (fun b hb => by
      have hb : 1 ≤ b := hb
      simp only [one]
      rw [if_neg (by omega)])
  have hc := Tryz.call3 #[v] W
  rcases hs with ⟨rv, M', w', h1, _⟩ | ⟨_, h1⟩
  · rw [hc] at h1; cases h1
  · refine h1.mono fun e w' ⟨rv, M', h2, h3, h4⟩ => ?_
    subst h2
    cases x with
    | bool b =>
      cases b with
      | true =>
        cases h3
        exact ⟨rfl, h4.os, h4.tape, h4.output, h4.size, fun β hβ => h4.frame β hβ fun b o δ n h _ => by cases h⟩
      | false => exact absurd hx (by simp [isTrue])
    | _ => exact absurd hx (by simp [isTrue])

theorem own : ownKnob Tryz.prog.godebug = none := by kernel_rfl

end Go.Proofs.YtnjobinioalipaaGreatDoor.MatchNil

/- The operations that only look, one by one. -/
import Derived.Test.YtnjobinioalipaaGreatDoorEvQuiet
namespace Go.Proofs.YtnjobinioalipaaGreatDoor.Ev
open Go

def QuietOk (P : Program) (o : Oper) (r : Regs) (h : H) (v : AV) : Prop :=
  ∀ M a w, (∀ x ∈ o.op.operands.toList, OpndRel M r a x) → Inv h M w → ∃ rv, (execOp a.eval o).run P w = .ok (.value rv) w ∧ VRel M v rv

section
variable {E : Env} {P : Program}

theorem run_equal_of {t : TypeId} {x y : Value} {r : Bool} (h : ∀ D w, (Op.equalIn (D + 1) t x y).run P w = .ok r w) (w : World) : (Op.equal t x y).run P w = .ok r w := h 9999 w

theorem beqB_eq (x y : Bool) : beqB x y = (x == y) := by cases x <;> cases y <;> rfl

theorem sameV_fits (hE : EnvOk E P) {t : TypeId} {x y : AV} {k : Bool → Bool} (h : eqFits E t x y k = true) :
    ∃ r, k r = true ∧ ∀ M rx ry, VRel M x rx → VRel M y ry →
      (∀ (op : BinOp) (ox oy : Operand) (w : World), (eqGuard op t ox oy rx ry).run P w = .ok () w) ∧ (∀ w, (Op.equal t rx ry).run P w = .ok r w) ∧
      binOp .eql t rx ry = (do pure (.bool (← Op.equal t rx ry))) ∧ binOp .neq t rx ry = (do pure (.bool (!(← Op.equal t rx ry)))) := by
  unfold eqFits at h
  split at h
  · rename_i r hr
    obtain ⟨d, hu, h⟩ := und_spec hE h
    have hrun := run_underlying hu
    unfold sameV at hr
    split at hr <;> (try (cases hr; done)) <;> (try simp only [Option.some.injEq] at hr) <;> subst hr <;> split at h <;> (try contradiction) <;>
      refine ⟨_, h, fun M rx ry hx hy => ?_⟩ <;> cases hx <;> cases hy <;>
      refine ⟨fun op ox oy w => ?_, run_equal_of fun D w => ?_, ?_, ?_⟩ <;>
      first
        | (simp [Op.equalIn, hrun]; done)
        | (unfold eqGuard; split <;> simp; done)
        | (simp [binOp]; done)
        | (simp [Op.equalIn, hrun, beqB_eq]; done)
  · split at h
    · split at h
      · rename_i hb
        split at h
        · rename_i ho
          have hb := Nat.eq_of_beq_eq_true hb
          have ho := Nat.eq_of_beq_eq_true ho
          subst hb ho
          obtain ⟨d, hu, h⟩ := und_spec hE h
          have hrun := run_underlying hu
          split at h
          · obtain ⟨i, hi, h⟩ := size_spec hE h
            refine ⟨_, h, fun M rx ry hx hy => ?_⟩
            cases hx with
            | ptr hm => cases hy with
              | ptr hm' =>
                rw [hm] at hm'
                simp only [Option.some.injEq, Prod.mk.injEq] at hm'
                obtain ⟨rfl, rfl, rfl⟩ := hm'
                refine ⟨fun op ox oy w => ?_, run_equal_of fun D w => ?_, ?_, ?_⟩
                · unfold eqGuard; split <;> simp
                · by_cases hz : i.size = 0 <;> simp [Op.equalIn, hrun, run_size hi, hz, sameAddr]
                · simp [binOp]
                · simp [binOp]
          · cases h
        · cases h
      · cases h
    · cases h

end
end Go.Proofs.YtnjobinioalipaaGreatDoor.Ev

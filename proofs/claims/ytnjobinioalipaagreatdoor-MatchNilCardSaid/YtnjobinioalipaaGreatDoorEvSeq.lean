/- Slots, guards, and operations in the order of the text. -/
import Derived.Test.YtnjobinioalipaaGreatDoorEvLoud4
import Derived.Orders
namespace Go.Proofs.YtnjobinioalipaaGreatDoor.Ev
open Go

def RegRel (M : Mp) (n : Nat) (r : Regs) (a : Act) : Prop :=
  a.tmps.size = n ∧ a.defers = [] ∧ ∀ t, VRel M ((r.get t).getD (.tuple [])) (a.tmps.getD t undef)

theorem RegRel.opnd {M : Mp} {n : Nat} {r : Regs} {a : Act} (h : RegRel M n r a) (x : Operand) : OpndRel M r a x := by
  cases x <;> first
    | exact h.2.2 _
    | trivial

theorem RegRel.mono {M M' : Mp} {n : Nat} {r : Regs} {a : Act} (h : RegRel M n r a) (hm : M.le M') : RegRel M' n r a :=
  ⟨h.1, h.2.1, fun t => (h.2.2 t).mono hm⟩

theorem dstK_spec {n : Nat} {r : Regs} {d : Option Tmp} {v : AV} {k : Regs → Bool} (hk : dstK n r d v k = true) :
    ∃ r', k r' = true ∧ (∀ t, d = some t → t < n) ∧ ∀ j, r'.get j = if d = some j then some v else r.get j := by
  unfold dstK at hk
  split at hk
  · rename_i t
    split at hk
    · rename_i hlt
      replace hlt := blt_lt hlt
      obtain ⟨r', h1, h2⟩ := T.setK_spec _ _ _ _ _ hk
      refine ⟨r', h1, fun t' e => by cases e; exact hlt, fun j => ?_⟩
      rw [h2]
      by_cases e : j = t
      · subst e; simp
      · rw [if_neg e, if_neg (by intro e'; cases e'; exact e rfl)]
    · cases hk
  · exact ⟨r, hk, by simp, fun j => by simp⟩

theorem put_size (a : Act) (d : Option Tmp) (v : Value) : (a.put d v).tmps.size = a.tmps.size := by cases d <;> simp [Act.put]
theorem put_defers (a : Act) (d : Option Tmp) (v : Value) : (a.put d v).defers = a.defers := by cases d <;> simp [Act.put]
theorem put_get (a : Act) (d : Option Tmp) (v : Value) (t : Nat) (hd : ∀ j, d = some j → j < a.tmps.size) :
    (a.put d v).tmps.getD t undef = if d = some t then v else a.tmps.getD t undef := by
  cases d with
  | none => simp [Act.put]
  | some j =>
    have hj := hd j rfl
    simp only [Act.put, Array.getD_eq_getD_getElem?, Array.getElem?_setIfInBounds]
    by_cases e : j = t
    · subst e; simp [hj]
    · simp [e]

theorem RegRel.put {M : Mp} {n : Nat} {r r' : Regs} {a : Act} {d : Option Tmp} {v : AV} {rv : Value} (h : RegRel M n r a) (hd : ∀ t, d = some t → t < n)
    (hget : ∀ j, r'.get j = if d = some j then some v else r.get j) (hv : VRel M v rv) : RegRel M n r' (a.put d rv) := by
  refine ⟨by rw [put_size]; exact h.1, by rw [put_defers]; exact h.2.1, fun t => ?_⟩
  rw [hget, put_get a d rv t fun j hj => by rw [h.1]; exact hd j hj]
  by_cases e : d = some t
  · simp [e, hv]
  · simp only [e, if_false]; exact h.2.2 t

theorem guardK_spec {ops : Array Oper} {o : Oper} {r : Regs} {k : Bool → Bool} (hk : guardK ops.toList o r k = true) :
    ∃ g, k g = true ∧ ∀ (M : Mp) (a : Act), (∀ j want t, o.guard = some (j, want) → ((ops[j]?).bind (·.dst)) = some t → VRel M ((r.get t).getD (.tuple [])) (a.tmps.getD t undef)) →
      Region.wanted o (yielded ops a.tmps) = g := by
  unfold guardK at hk
  split at hk
  · rename_i hg; exact ⟨true, hk, fun M a _ => by simp [Region.wanted, hg]⟩
  · rename_i j want hg
    rw [nthK_iff] at hk
    obtain ⟨p, hp, hk⟩ := hk
    have hp' : ops[j]? = some p := by simpa using hp
    split at hk
    · rename_i t hd
      have hbind : ((ops[j]?).bind (·.dst)) = some t := by rw [hp']; exact hd
      have notb : ∀ (M : Mp) (a : Act) (v : AV), (∀ b, v ≠ .bool b) → VRel M v (a.tmps.getD t undef) → Region.wanted o (yielded ops a.tmps) = false := by
        intro M a v hnb hv
        simp only [Region.wanted, hg, yielded, hbind, Option.bind_some]
        have : ∀ b, a.tmps[t]? ≠ some (.bool b) := by
          intro b hb
          rw [Array.getD_eq_getD_getElem?, hb] at hv
          cases hv
          exact hnb _ rfl
        split
        · rename_i b hb; exact absurd hb (this b)
        · rfl
      split at hk
      · rename_i b hb
        have yes : ∀ (M : Mp) (a : Act), VRel M ((r.get t).getD (.tuple [])) (a.tmps.getD t undef) → yielded ops a.tmps j = some b := by
          intro M a hv
          rw [hb] at hv
          simp only [Option.getD_some] at hv
          simp only [yielded, hbind, Option.bind_some]
          rw [Array.getD_eq_getD_getElem?] at hv
          cases ht : a.tmps[t]? with
          | none => rw [ht] at hv; simp only [Option.getD_none] at hv; cases hv
          | some rv => rw [ht] at hv; simp only [Option.getD_some] at hv; cases hv; rfl
        split at hk <;> refine ⟨_, hk, fun M a hr => ?_⟩ <;> simp [Region.wanted, hg, yes M a (hr j _ t hg hbind)]
      · rename_i hnb
        refine ⟨false, hk, fun M a hr => notb M a _ (fun b hb => ?_) (hr j want t hg hbind)⟩
        cases hrt : r.get t with
        | none => rw [hrt] at hb; cases hb
        | some x => rw [hrt] at hb; simp at hb; subst hb; exact hnb b hrt
    · rename_i hd
      refine ⟨false, hk, fun M a _ => ?_⟩
      have hbind : ((ops[j]?).bind (·.dst)) = none := by rw [hp']; exact hd
      simp [Region.wanted, hg, yielded, hbind]

section
variable {E : Env} {P : Program}

theorem opsK_sound (hE : EnvOk E P) {n : Nat} {call : CallT} (hc : CallOk P call) (ops : Array Oper) : ∀ (os : List Oper) (i : Nat) (r : Regs) (h : H) (k : Regs → H → Bool),
    os = ops.toList.drop i → opsK E n call ops.toList os r h k = true →
    ∃ r' h', k r' h' = true ∧ ∀ M a w, RegRel M n r a → Inv h M w → Free M h → ∀ (Q : Exit → Act → World → Prop),
      (∀ M' a' w', RegRel M' n r' a' → Post h M w h' M' w' → Q .normal a' w') → wpOps P ops Q (List.range' i (ops.size - i)) a w := by
  intro os
  induction os with
  | nil =>
    intro i r h k hos hk
    refine ⟨r, h, hk, fun M a w hr hi _ Q hQ => ?_⟩
    have hlen : ops.size ≤ i := by
      have := congrArg List.length hos
      simp at this; omega
    rw [show ops.size - i = 0 by omega]
    exact hQ M a w hr (.refl hi)
  | cons o os ih =>
    intro i r h k hos hk
    have hlt : i < ops.size := by
      have := congrArg List.length hos
      simp at this; omega
    have hoi : ops[i]? = some o := by
      have := congrArg (fun l => l[0]?) hos
      simp at this
      rw [this]
    have hos' : os = ops.toList.drop (i + 1) := by
      have := congrArg List.tail hos
      simpa using this
    simp only [opsK] at hk
    obtain ⟨g, hk, hg⟩ := guardK_spec hk
    have hrange : List.range' i (ops.size - i) = i :: List.range' (i + 1) (ops.size - (i + 1)) := by
      rw [show ops.size - i = (ops.size - (i + 1)) + 1 by omega]
      rfl
    cases g with
    | true =>
      simp only at hk
      obtain ⟨v, h1, hk, h2⟩ := opK_sound hE hc hk
      obtain ⟨r1, hk, h3, h4⟩ := dstK_spec hk
      obtain ⟨r', h', hk, h5⟩ := ih (i + 1) r1 h1 k hos' hk
      refine ⟨r', h', hk, fun M a w hr hi hf Q hQ => ?_⟩
      rw [hrange, wpOps_cons]
      unfold wpOp
      rw [hoi]
      simp only
      rw [hg M a (fun j want t _ _ => hr.2.2 t), if_pos rfl]
      left
      refine h2 M a w (fun x _ => hr.opnd x) hi hf _ Q fun rv M' w' hv hp => ?_
      refine h5 M' (a.put o.dst rv) w' ((hr.mono hp.ext).put h3 h4 hv) hp.inv (hf.post hp) Q fun M'' a' w'' hr' hp' => ?_
      exact hQ M'' a' w'' hr' (hp.trans hp')
    | false =>
      simp only at hk
      obtain ⟨r1, hk, h3, h4⟩ := dstK_spec hk
      obtain ⟨r', h', hk, h5⟩ := ih (i + 1) r1 h k hos' hk
      refine ⟨r', h', hk, fun M a w hr hi hf Q hQ => ?_⟩
      rw [hrange, wpOps_cons]
      unfold wpOp
      rw [hoi]
      simp only
      rw [hg M a (fun j want t _ _ => hr.2.2 t), if_neg (by simp)]
      exact h5 M (a.put o.dst undef) w (hr.put h3 h4 (.tuple .nil)) hi hf Q hQ

end
end Go.Proofs.YtnjobinioalipaaGreatDoor.Ev

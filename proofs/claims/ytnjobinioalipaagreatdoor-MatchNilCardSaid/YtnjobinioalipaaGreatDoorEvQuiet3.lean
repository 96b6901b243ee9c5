/- The operations that only look, one by one: operators, conversions, cuts, places. -/
import Derived.Test.YtnjobinioalipaaGreatDoorEvQuiet2
namespace Go.Proofs.YtnjobinioalipaaGreatDoor.Ev
open Go

section
variable {E : Env} {P : Program}

theorem binK_sound (hE : EnvOk E P) {op : BinOp} {t : TypeId} {x y : AV} {k : AV → Bool} (h : binK E op t x y k = true) :
    ∃ v, k v = true ∧ ∀ M rx ry, VRel M x rx → VRel M y ry → ∃ rv, VRel M v rv ∧
      ∀ ox oy w, (eqGuard op t ox oy rx ry).run P w = .ok () w ∧ (binOp op t rx ry).run P w = .ok rv w := by
  unfold binK at h
  split at h
  · rename_i kk a k' b
    split at h
    · obtain ⟨v, rv, h1, h2, h3⟩ := shiftOf_sound P _ kk k' a b k h
      refine ⟨v, h1, fun M rx ry hx hy => ?_⟩
      cases hx; cases hy
      exact ⟨rv, h2 M, fun ox oy w => ⟨by simp [eqGuard], by simp [binOp, h3]⟩⟩
    · obtain ⟨v, rv, h1, h2, h3⟩ := shiftOf_sound P _ kk k' a b k h
      refine ⟨v, h1, fun M rx ry hx hy => ?_⟩
      cases hx; cases hy
      exact ⟨rv, h2 M, fun ox oy w => ⟨by simp [eqGuard], by simp [binOp, h3]⟩⟩
    · rename_i hn1 hn2
      split at h
      · rename_i hk
        have hk := (kindEq_iff _ _).1 hk
        subst hk
        obtain ⟨v, rv, h1, h2, h3⟩ := intBin_sound P op kk a b k h
        refine ⟨v, h1, fun M rx ry hx hy => ?_⟩
        cases hx; cases hy
        refine ⟨rv, h2 M, fun ox oy w => ⟨?_, ?_⟩⟩
        · cases op <;> simp [eqGuard]
        · have h3 := h3 w
          cases op <;> first
            | (exact absurd rfl hn1)
            | (exact absurd rfl hn2)
            | (simpa [binOp] using h3)
      · cases h
  · rename_i a b
    obtain ⟨v, h1, h2⟩ := strBin_sound P op a b k h
    refine ⟨v, h1, fun M rx ry hx hy => ?_⟩
    cases hx with
    | str hx => cases hy with
      | str hy =>
        obtain ⟨rv, h3, h4⟩ := h2 _ _ hx hy
        refine ⟨rv, h3 M, fun ox oy w => ⟨?_, ?_⟩⟩
        · cases op <;> simp [eqGuard]
        · have h4 := h4 w
          cases op <;> simpa [binOp] using h4
  · split at h
    · obtain ⟨r, h1, h2⟩ := sameV_fits hE h
      rw [boolK_eq] at h1
      refine ⟨_, h1, fun M rx ry hx hy => ?_⟩
      obtain ⟨h3, h4, h5, h6⟩ := h2 M rx ry hx hy
      exact ⟨_, .bool r, fun ox oy w => ⟨h3 _ _ _ _, by rw [h5]; simp [h4]⟩⟩
    · obtain ⟨r, h1, h2⟩ := sameV_fits hE h
      rw [notK_eq] at h1
      refine ⟨_, h1, fun M rx ry hx hy => ?_⟩
      obtain ⟨h3, h4, h5, h6⟩ := h2 M rx ry hx hy
      exact ⟨_, .bool (!r), fun ox oy w => ⟨h3 _ _ _ _, by rw [h6]; simp [h4]⟩⟩
    · cases h

theorem unK_sound {op : UnOp} {x : AV} {k : AV → Bool} (h : unK op x k = true) :
    ∃ v, k v = true ∧ ∀ M rx, VRel M x rx → ∃ rv, VRel M v rv ∧ ∀ w, (Op.unary op rx).run P w = .ok rv w := by
  unfold unK at h
  split at h
  · rw [wrapK_eq] at h
    refine ⟨_, h, fun M rx hx => ?_⟩
    cases hx
    exact ⟨_, .int _ _, fun w => rfl⟩
  · rename_i kk n
    have hlt : (Nat.pred (modu kk)).xor (residue kk n) < modu kk := by
      rw [← two_pow_bits]
      exact Nat.xor_lt_two_pow (by have := two_pow_bits kk; have := modu_pos kk; rw [Nat.pred_eq_sub_one]; omega) (by rw [two_pow_bits]; exact residue_lt kk n)
    rw [natK_eq, backK_eq _ _ _ hlt] at h
    refine ⟨_, h, fun M rx hx => ?_⟩
    cases hx
    refine ⟨_, .int _ _, fun w => ?_⟩
    have e : residue kk (if kk.signed then -1 else kk.max) = Nat.pred (modu kk) := by cases kk <;> rfl
    simp only [Op.unary, Op.intBits, Sem.run_pure, BitVec.toNat_xor, ofInt_toNat, e]
    rfl
  · rw [notK_eq] at h
    refine ⟨_, h, fun M rx hx => ?_⟩
    cases hx
    exact ⟨_, .bool _, fun w => rfl⟩
  · cases h

/- Numbers out of values. -/

theorem natOf_spec {v : AV} {k : Nat → Bool} (h : natOf v k = true) : ∃ kk n, v = .int kk (.ofNat n) ∧ k n = true := by
  unfold natOf at h
  split at h
  · exact ⟨_, _, rfl, h⟩
  · cases h

theorem optNat_spec {d : Nat} {v : Option AV} {k : Nat → Bool} (h : optNat d v k = true) : ∃ n, k n = true ∧ ((v = none ∧ n = d) ∨ ∃ kk, v = some (.int kk (.ofNat n))) := by
  unfold optNat at h
  split at h
  · obtain ⟨kk, n, h1, h2⟩ := natOf_spec h; exact ⟨n, h2, .inr ⟨kk, by rw [h1]⟩⟩
  · exact ⟨d, h, .inl ⟨rfl, rfl⟩⟩

theorem ble_le {a b : Nat} (h : Nat.ble a b = true) : a ≤ b := Nat.le_of_ble_eq_true h
theorem blt_lt {a b : Nat} (h : Nat.blt a b = true) : a < b := by rwa [Nat.blt_eq] at h

theorem run_sliceBound (kk : IntKind) (n y : Nat) (code : BoundsCode) (h : n ≤ y) (w : World) : (Instr.sliceBound (.int kk (n : Int)) y code).run P w = .ok n w := by
  simp [Instr.sliceBound, asIntOf, h]

/-- The bounds of a cut. -/
def optV (d : Nat) (o : Option Value) (n : Nat) : Prop := (o = none ∧ n = d) ∨ ∃ kk, o = some (.int kk (Int.ofNat n))

theorem run_sliceBounds (is : Bool) (len cap l h m : Nat) (lo hi mx : Option Value) (hlo : optV 0 lo l) (hhi : optV len hi h) (hmx : optV cap mx m)
    (h1 : l ≤ h) (h2 : h ≤ m) (h3 : m ≤ cap) (h4 : mx.isSome = true → hi.isSome = true) (w : World) : (Instr.sliceBounds is len cap lo hi mx).run P w = .ok (l, h, m) w := by
  rcases hmx with ⟨rfl, rfl⟩ | ⟨kk, rfl⟩
  · rcases hhi with ⟨rfl, rfl⟩ | ⟨kk, rfl⟩ <;> rcases hlo with ⟨rfl, rfl⟩ | ⟨kk', rfl⟩ <;>
      simp [Instr.sliceBounds, run_sliceBound, h1, h2]
  · rcases hhi with ⟨rfl, rfl⟩ | ⟨kk', rfl⟩
    · simp at h4
    · rcases hlo with ⟨rfl, rfl⟩ | ⟨kk', rfl⟩ <;> simp [Instr.sliceBounds, run_sliceBound, h1, h2, h3]

theorem cutOff_eq (off l m z : Nat) : cutOff off l m z = if m = l then off else off + l * z := by
  unfold cutOff
  cases e : Nat.beq m l with
  | true => rw [if_pos (Nat.eq_of_beq_eq_true e)]
  | false => rw [if_neg (Nat.ne_of_beq_eq_false e)]; rfl

/-- What is known of a cut's operands. -/
def CutArgs (M : Mp) (v : Option AV) (o : Option Value) : Prop := (v = none ∧ o = none) ∨ ∃ v' o', v = some v' ∧ o = some o' ∧ VRel M v' o'

theorem optV_of {M : Mp} {d n : Nat} {v : Option AV} {o : Option Value} (h : (v = none ∧ n = d) ∨ ∃ kk, v = some (.int kk (.ofNat n))) (ho : CutArgs M v o) : optV d o n := by
  rcases ho with ⟨rfl, rfl⟩ | ⟨v', o', rfl, rfl, hr⟩
  · rcases h with ⟨_, rfl⟩ | ⟨kk, h⟩
    · exact .inl ⟨rfl, rfl⟩
    · cases h
  · rcases h with ⟨h, _⟩ | ⟨kk, h⟩
    · cases h
    · cases h
      cases hr
      exact .inr ⟨kk, rfl⟩

theorem addr_add (β a z : Nat) : (⟨β, a, none⟩ : Addr).add z = ⟨β, a + z, none⟩ := by unfold Addr.add; split <;> simp_all

theorem map_extract (s : ByteArray) (l h : Nat) : (s.extract l h).data.toList.map (·.toNat) = ((s.data.toList.map (·.toNat)).drop l).take (h - l) := by
  rw [ByteArray.data_extract]
  simp [List.extract_eq_take_drop, List.map_take, List.map_drop]

theorem sliceK_sound (hE : EnvOk E P) {t : TypeId} {x : AV} {lo hi mx : Option AV} {k : AV → Bool} (h : sliceK E t x lo hi mx k = true) :
    ∃ v, k v = true ∧ ∀ M rx rlo rhi rmx, VRel M x rx → CutArgs M lo rlo → CutArgs M hi rhi → CutArgs M mx rmx →
      ∃ rv, VRel M v rv ∧ ∀ w, (Instr.sliceAt t rx rlo rhi rmx).run P w = .ok rv w := by
  have key : ∀ lo hi mx, cutK E t x lo hi mx k = true → (mx.isSome = true → hi.isSome = true) →
      ∃ v, k v = true ∧ ∀ M rx rlo rhi rmx, VRel M x rx → CutArgs M lo rlo → CutArgs M hi rhi → CutArgs M mx rmx →
        ∃ rv, VRel M v rv ∧ ∀ w, (Instr.sliceAt t rx rlo rhi rmx).run P w = .ok rv w := by
    clear h lo hi mx
    intro lo hi mx h hsome
    have some_of : ∀ M rhi rmx, CutArgs M hi rhi → CutArgs M mx rmx → rmx.isSome = true → rhi.isSome = true := by
      intro M rhi rmx h1 h2 h3
      rcases h2 with ⟨rfl, rfl⟩ | ⟨_, _, rfl, rfl, _⟩
      · simp at h3
      · rcases h1 with ⟨rfl, rfl⟩ | ⟨_, _, rfl, rfl, _⟩
        · simp at hsome
        · rfl
    unfold cutK at h
    replace h := und_spec hE h
    obtain ⟨d, hu, h⟩ := h
    have hrun := run_underlying hu
    split at h
    · -- a text
      split at h
      · cases h
      · rw [lenK_eq] at h
        replace h := optNat_spec h
        obtain ⟨hh, h, h1⟩ := h
        replace h := optNat_spec h
        obtain ⟨l, h, h2⟩ := h
        split at h
        · rename_i h3
          split at h
          · rename_i h4
            replace h3 := ble_le h3
            replace h4 := ble_le h4
            rw [dropK_iff] at h
            obtain ⟨h5, h⟩ := h
            rw [natK_eq, takeK_iff] at h
            obtain ⟨h6, h⟩ := h
            refine ⟨_, h, fun M rx rlo rhi rmx hx hlo hhi hmx => ?_⟩
            cases hx with
            | str hs =>
              rename_i s
              subst hs
              have hmx' : rmx = none := by
                rcases hmx with ⟨_, h⟩ | ⟨_, _, h, _⟩
                · exact h
                · cases h
              subst hmx'
              refine ⟨.string (s.extract l hh), .str ?_, fun w => ?_⟩
              · rw [map_extract]; rfl
              · have hb := run_sliceBounds (P := P) false s.size s.size l hh s.size rlo rhi none (optV_of h2 hlo) (by simpa using optV_of h1 hhi) (.inl ⟨rfl, rfl⟩) h3 (by simpa using h4) (Nat.le_refl _) (by simp) w
                simp [Instr.sliceAt, Instr.slice, hrun, hb]
          · cases h
        · cases h
    · -- a slice whose capacity is known
      rename_i e b off len cap
      replace h := optNat_spec h
      obtain ⟨m, h, h0⟩ := h
      replace h := optNat_spec h
      obtain ⟨hh, h, h1⟩ := h
      replace h := optNat_spec h
      obtain ⟨l, h, h2⟩ := h
      split at h
      · rename_i h3
        split at h
        · rename_i h4
          split at h
          · rename_i h5
            replace h3 := ble_le h3
            replace h4 := ble_le h4
            replace h5 := ble_le h5
            replace h := size_spec hE h
            obtain ⟨i, hi', h⟩ := h
            rw [natK_eq, natK_eq, natK_eq, cutOff_eq] at h
            refine ⟨_, h, fun M rx rlo rhi rmx hx hlo hhi hmx => ?_⟩
            cases hx with
            | slice hm =>
              rename_i β δ n
              refine ⟨_, .slice hm, fun w => ?_⟩
              have hb := run_sliceBounds (P := P) true len cap l hh m rlo rhi rmx (optV_of h2 hlo) (optV_of h1 hhi) (optV_of h0 hmx) h5 h4 h3 (some_of M _ _ hhi hmx) w
              simp only [Instr.sliceAt, Instr.slice, Sem.run_bind, hrun, Result.andThen_ok, hb, run_size hi', Sem.run_pure]
              congr 2
              split
              · rfl
              · simp [addr_add, Nat.add_assoc]
          · cases h
        · cases h
      · cases h
    · -- a slice whose capacity is not known
      rename_i e b off len z
      replace h := size_spec hE h
      obtain ⟨i, hi', h⟩ := h
      split at h
      · rename_i hz
        have hz := Nat.eq_of_beq_eq_true hz
        subst hz
        replace h := optNat_spec h
        obtain ⟨hh, h, h1⟩ := h
        replace h := optNat_spec h
        obtain ⟨l, h, h2⟩ := h
        split at h
        · replace h := natOf_spec h
          obtain ⟨kk, m, rfl, h⟩ := h
          split at h
          · rename_i h3
            split at h
            · rename_i h4
              split at h
              · rename_i h5
                replace h3 := ble_le h3
                replace h4 := ble_le h4
                replace h5 := ble_le h5
                rw [natK_eq, natK_eq, natK_eq, cutOff_eq] at h
                refine ⟨_, h, fun M rx rlo rhi rmx hx hlo hhi hmx => ?_⟩
                cases hx with
                | sliceU hm hc hr =>
                  rename_i β δ n cap
                  refine ⟨_, .slice hm, fun w => ?_⟩
                  have hb := run_sliceBounds (P := P) true len cap l hh m rlo rhi rmx (optV_of h2 hlo) (optV_of h1 hhi) (optV_of (.inr ⟨kk, rfl⟩) hmx) h5 h4 (by omega) (some_of M _ _ hhi hmx) w
                  simp only [Instr.sliceAt, Instr.slice, Sem.run_bind, hrun, Result.andThen_ok, hb, run_size hi', Sem.run_pure]
                  congr 2
                  split
                  · rfl
                  · simp [addr_add, Nat.add_assoc]
              · cases h
            · cases h
          · cases h
        · split at h
          · rename_i h3
            split at h
            · rename_i h5
              replace h3 := ble_le h3
              replace h5 := ble_le h5
              split at h
              · refine ⟨_, h, fun M rx rlo rhi rmx hx hlo hhi hmx => ?_⟩
                cases hx with
                | sliceU hm hc hr =>
                  rename_i β δ n cap
                  have hmx' : rmx = none := by
                    rcases hmx with ⟨_, h⟩ | ⟨_, _, h, _⟩
                    · exact h
                    · cases h
                  subst hmx'
                  refine ⟨_, .sliceU hm (cap := cap) (by omega) hr, fun w => ?_⟩
                  have hb := run_sliceBounds (P := P) true len cap 0 hh cap rlo rhi none (optV_of h2 hlo) (optV_of h1 hhi) (.inl ⟨rfl, rfl⟩) h5 (by omega) (Nat.le_refl _) (by simp) w
                  simp only [Instr.sliceAt, Instr.slice, Sem.run_bind, hrun, Result.andThen_ok, hb, run_size hi', Sem.run_pure]
                  congr 2
                  split
                  · rfl
                  · simp [addr_add]
              · rename_i l
                split at h
                · rename_i h6
                  replace h6 := blt_lt h6
                  rw [natK_eq, natK_eq] at h
                  refine ⟨_, h, fun M rx rlo rhi rmx hx hlo hhi hmx => ?_⟩
                  cases hx with
                  | sliceU hm hc hr =>
                    rename_i β δ n cap
                    have hmx' : rmx = none := by
                      rcases hmx with ⟨_, h⟩ | ⟨_, _, h, _⟩
                      · exact h
                      · cases h
                    subst hmx'
                    have hroom : δ + (off + (l + 1) * i.size) + (cap - (l + 1)) * i.size ≤ n := by
                      have e : cap * i.size = (l + 1) * i.size + (cap - (l + 1)) * i.size := by rw [← Nat.add_mul]; congr 1; simp at h6; omega
                      omega
                    refine ⟨_, .sliceU hm (cap := cap - (l + 1)) ?_ hroom, fun w => ?_⟩
                    · show hh - (l + 1) ≤ cap - (l + 1); omega
                    · have hb := run_sliceBounds (P := P) true len cap (l + 1) hh cap rlo rhi none (optV_of h2 hlo) (optV_of h1 hhi) (.inl ⟨rfl, rfl⟩) h5 (by omega) (Nat.le_refl _) (by simp) w
                      simp only [Instr.sliceAt, Instr.slice, Sem.run_bind, hrun, Result.andThen_ok, hb, run_size hi', Sem.run_pure]
                      have hne : ¬ cap = l + 1 := by simp at h6; omega
                      rw [if_neg hne]
                      simp [addr_add, Nat.add_assoc]
                · cases h
            · cases h
          · cases h
      · cases h
    · -- the nil slice
      replace h := size_spec hE h
      obtain ⟨i, hi', h⟩ := h
      replace h := optNat_spec h
      obtain ⟨m, h, h0⟩ := h
      replace h := optNat_spec h
      obtain ⟨hh, h, h1⟩ := h
      replace h := optNat_spec h
      obtain ⟨l, h, h2⟩ := h
      split at h
      · refine ⟨_, h, fun M rx rlo rhi rmx hx hlo hhi hmx => ?_⟩
        cases hx
        refine ⟨_, .nilslice, fun w => ?_⟩
        have hb := run_sliceBounds (P := P) true 0 0 0 0 0 rlo rhi rmx (optV_of h2 hlo) (optV_of h1 hhi) (optV_of h0 hmx) (Nat.le_refl _) (Nat.le_refl _) (Nat.le_refl _) (some_of M _ _ hhi hmx) w
        simp [Instr.sliceAt, Instr.slice, hrun, hb, run_size hi']
      · cases h
    · -- an array behind a pointer
      rename_i n e b off
      replace h := optNat_spec h
      obtain ⟨m, h, h0⟩ := h
      replace h := optNat_spec h
      obtain ⟨hh, h, h1⟩ := h
      replace h := optNat_spec h
      obtain ⟨l, h, h2⟩ := h
      split at h
      · rename_i h3
        split at h
        · rename_i h4
          split at h
          · rename_i h5
            replace h3 := ble_le h3
            replace h4 := ble_le h4
            replace h5 := ble_le h5
            replace h := size_spec hE h
            obtain ⟨i, hi', h⟩ := h
            rw [natK_eq, natK_eq, natK_eq, cutOff_eq] at h
            refine ⟨_, h, fun M rx rlo rhi rmx hx hlo hhi hmx => ?_⟩
            cases hx with
            | ptr hm =>
              rename_i β δ n'
              refine ⟨_, .slice hm, fun w => ?_⟩
              have hb := run_sliceBounds (P := P) false n n l hh m rlo rhi rmx (optV_of h2 hlo) (optV_of h1 hhi) (optV_of h0 hmx) h5 h4 h3 (some_of M _ _ hhi hmx) w
              simp only [Instr.sliceAt, Instr.sureAddr, Sem.run_bind, hrun, Result.andThen_ok, hb, run_size hi', Sem.run_pure]
              congr 2
              split
              · rfl
              · simp [addr_add, Nat.add_assoc]
          · cases h
        · cases h
      · cases h
    · cases h
  unfold sliceK at h
  split at h
  · cases h
  · exact key _ _ _ h (by simp)
  · exact key _ _ _ h (by simp)

end
end Go.Proofs.YtnjobinioalipaaGreatDoor.Ev

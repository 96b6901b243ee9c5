/- The operations that turn memory: builtins, calls; all of them. -/
import Derived.Test.YtnjobinioalipaaGreatDoorEvAppend
namespace Go.Proofs.YtnjobinioalipaaGreatDoor.Ev
open Go

section
variable {E : Env} {P : Program}

theorem appendNew_sound {ts : Array TypeId} {e : TypeId} {i : TypeInfo} {zv : Value} (ht : AppTypes P ts e i zv) {h : H} {s : AV} {n : Nat} {new : List AV} {k : AV → H → Bool}
    (hn : n ≤ 1048576) (hk : appendNew h e i.size s n k new = true) :
    ∃ v h', k v h' = true ∧ ∀ M w rs x t, Inv h M w → Fresh M h h' → VRel M s rs →
      (∀ w, Inv h M w → ∃ rnew : Array Value, Appended P ts i zv x n w rnew ∧ VRels M new rnew.toList) →
      ∃ rv M' w', (Builtin.append_ ts t #[rs, x]).run P w = .ok rv w' ∧ VRel M' v rv ∧ Post h M w h' M' w' := by
  unfold appendNew at hk
  split at hk
  · rename_i h1
    rw [lenK_eq] at hk
    split at hk
    · rename_i hl
      replace hl := Nat.eq_of_beq_eq_true hl
      exact appendTo_sound ht hn h1 (by simpa using hl) hk
    · cases hk
  · cases hk

theorem appendK_sound (hE : EnvOk E P) {h : H} {ts : List TypeId} {args : List AV} {k : AV → H → Bool} (hk : appendK E h ts args k = true) :
    ∃ v h', k v h' = true ∧ ∀ M w rargs t, Inv h M w → Fresh M h h' → VRels M args rargs →
      ∃ rv M' w', (Builtin.append_ ts.toArray t rargs.toArray).run P w = .ok rv w' ∧ VRel M' v rv ∧ Post h M w h' M' w' := by
  unfold appendK at hk
  split at hk
  · rename_i st xt s x
    replace hk := und_spec hE hk
    obtain ⟨d, hsu, hk⟩ := hk
    split at hk
    · rename_i e
      split at hk
      · rename_i i hi
        replace hi := hE.ty _ _ hi
        split at hk
        · rename_i hb
          replace hb : i.bytes ≤ 1048576 := ble_le hb
          replace hk := zcells_spec hE hk
          obtain ⟨i', zv, zc, hi', hz, hzr, hzs, hzl, hk⟩ := hk
          rw [hi] at hi'
          cases hi'
          replace hk := und_spec hE hk
          obtain ⟨dx, hxu, hk⟩ := hk
          rw [natK_eq] at hk
          have ht : AppTypes P [st, xt].toArray e i zv := ⟨⟨st, rfl, hsu⟩, hi, hz, hzs, hb⟩
          have bySrc : ∀ {k : AV → H → Bool}, ((∃ e', dx = .slice e') ∨ dx = .string) → appendSrc h e i.size s x k = true →
              ∃ v h', k v h' = true ∧ ∀ M w rargs t, Inv h M w → Fresh M h h' → VRels M [s, x] rargs →
                ∃ rv M' w', (Builtin.append_ [st, xt].toArray t rargs.toArray).run P w = .ok rv w' ∧ VRel M' v rv ∧ Post h M w h' M' w' := by
            intro k hd hk
            unfold appendSrc at hk
            replace hk := length_spec (P := P) hk
            obtain ⟨n, hk, hlen⟩ := hk
            split at hk
            · rename_i hns
              replace hns : n ≤ 1048576 := ble_le hns
              replace hk := src_spec (P := P) hk
              obtain ⟨new, hk, hsrc⟩ := hk
              obtain ⟨v, h', hk, ha⟩ := appendNew_sound ht hns hk
              refine ⟨v, h', hk, fun M w rargs t hinv hf hargs => ?_⟩
              cases hargs with
              | cons hs hr => cases hr with
                | cons hx hr =>
                  cases hr
                  refine ha M w _ _ t hinv hf hs fun w hinv => ?_
                  obtain ⟨rnew, h1, h2⟩ := hsrc M w _ hinv hx
                  exact ⟨rnew, .inr ⟨⟨xt, dx, rfl, hxu, hd⟩, fun w => hlen M _ hx w, h1⟩, h2⟩
            · cases hk
          split at hk
          · rename_i kk
            replace hk := natOf_spec hk
            obtain ⟨kk', n, rfl, hk⟩ := hk
            split at hk
            · rename_i hns
              replace hns : n ≤ 1048576 := ble_le hns
              rw [repK_eq, List.append_nil] at hk
              obtain ⟨v, h', hk, ha⟩ := appendNew_sound ht hns hk
              refine ⟨v, h', hk, fun M w rargs t hinv hf hargs => ?_⟩
              cases hargs with
              | cons hs hr => cases hr with
                | cons hx hr =>
                  cases hr
                  refine ha M w _ _ t hinv hf hs fun w hinv => ?_
                  refine ⟨_, .inl ⟨⟨xt, kk, rfl, hxu⟩, ?_, rfl⟩, ?_⟩
                  · cases hx; exact ⟨_, rfl⟩
                  · rw [← hzs, rep_cells]; exact (hzr M).replicate n
            · cases hk
          · exact bySrc (.inl ⟨_, rfl⟩) hk
          · exact bySrc (.inr rfl) hk
          · cases hk
        · cases hk
      · cases hk
    · cases hk
  · cases hk

theorem minK_eq (n m : Nat) (k : Nat → Bool) : minK n m k = k (Nat.min n m) := by
  unfold minK
  cases e : Nat.ble n m with
  | true => rw [show Nat.min n m = n from Nat.min_eq_left (ble_le e)]
  | false =>
    have : ¬ n ≤ m := fun hc => by rw [Nat.ble_eq_true_of_le hc] at e; cases e
    rw [show Nat.min n m = m from Nat.min_eq_right (by omega)]

theorem copyK_sound (hE : EnvOk E P) {h : H} {ts : List TypeId} {args : List AV} {k : AV → H → Bool} (hk : copyK E h ts args k = true) :
    ∃ v h', k v h' = true ∧ ∀ M w rargs t, Inv h M w → VRels M args rargs →
      ∃ rv w', (Builtin.copy_ ts.toArray t rargs.toArray).run P w = .ok rv w' ∧ VRel M v rv ∧ Post h M w h' M w' := by
  unfold copyK at hk
  split at hk
  · rename_i st ts d x
    replace hk := und_spec hE hk
    obtain ⟨dd, hsu, hk⟩ := hk
    have hsrun := run_underlying hsu
    split at hk
    · rename_i e
      replace hk := size_spec hE hk
      obtain ⟨i, hi, hk⟩ := hk
      replace hk := length_spec (P := P) hk
      obtain ⟨n, hk, hlen⟩ := hk
      replace hk := length_spec (P := P) hk
      obtain ⟨m, hk, hlen'⟩ := hk
      rw [minK_eq] at hk
      replace hk := src_spec (P := P) hk
      obtain ⟨new, hk, hsrc⟩ := hk
      split at hk
      · split at hk
        · refine ⟨_, h, hk, fun M w rargs t hinv hargs => ?_⟩
          cases hargs with
          | cons hd hr => cases hr with
            | cons hx hr =>
              cases hr
              cases hd
              obtain ⟨rnew, h1, h2⟩ := hsrc M w _ hinv hx
              have h3 := hlen M _ hx
              have h4 := hlen' M _ .nilslice w
              have : m = 0 := by simp [Builtin.lenOf] at h4; exact h4.symm
              subst this
              refine ⟨_, w, ?_, .int _ _, .refl hinv⟩
              rw [show n.min 0 = 0 from Nat.min_zero n] at h1 ⊢
              simp [Builtin.copy_, hsrun, h3, run_size hi, h1, goInt]
        · cases hk
      · rename_i b off len c
        replace hk := writeK_spec (P := P) hk
        obtain ⟨h', hk, hw⟩ := hk
        refine ⟨_, h', hk, fun M w rargs t hinv hargs => ?_⟩
        cases hargs with
        | cons hd hr => cases hr with
          | cons hx hr =>
            cases hr
            obtain ⟨rnew, h1, h2⟩ := hsrc M w _ hinv hx
            have h3 := hlen M _ hx
            have h4 := hlen' M _ hd w
            cases hd with
            | slice hm =>
              obtain ⟨w', h5, h6⟩ := hw M w _ _ _ _ hinv hm h2
              have : m = len := by simp [Builtin.lenOf] at h4; exact h4.symm
              subst this
              refine ⟨_, w', ?_, .int _ _, h6⟩
              simp [Builtin.copy_, hsrun, h3, run_size hi]
              rw [h1]
              simp [goInt, h5]
      · rename_i b off len z
        replace hk := writeK_spec (P := P) hk
        obtain ⟨h', hk, hw⟩ := hk
        refine ⟨_, h', hk, fun M w rargs t hinv hargs => ?_⟩
        cases hargs with
        | cons hd hr => cases hr with
          | cons hx hr =>
            cases hr
            obtain ⟨rnew, h1, h2⟩ := hsrc M w _ hinv hx
            have h3 := hlen M _ hx
            have h4 := hlen' M _ hd w
            cases hd with
            | sliceU hm hc hroom =>
              obtain ⟨w', h5, h6⟩ := hw M w _ _ _ _ hinv hm h2
              have : m = len := by simp [Builtin.lenOf] at h4; exact h4.symm
              subst this
              refine ⟨_, w', ?_, .int _ _, h6⟩
              simp [Builtin.copy_, hsrun, h3, run_size hi]
              rw [h1]
              simp [goInt, h5]
      · cases hk
    · cases hk
  · cases hk

theorem clearK_sound (hE : EnvOk E P) {h : H} {ts : List TypeId} {args : List AV} {k : AV → H → Bool} (hk : clearK E h ts args k = true) :
    ∃ h', k (.tuple []) h' = true ∧ ∀ M w rargs t, Inv h M w → VRels M args rargs →
      ∃ w', (Builtin.clear_ ts.toArray t rargs.toArray).run P w = .ok (.tuple #[]) w' ∧ Post h M w h' M w' := by
  unfold clearK at hk
  split at hk
  · rename_i t x
    replace hk := und_spec hE hk
    obtain ⟨d, hu, hk⟩ := hk
    have hrun := run_underlying hu
    split at hk
    · refine ⟨h, hk, fun M w rargs t' hinv hargs => ⟨w, ?_, .refl hinv⟩⟩
      cases hargs with
      | cons hx hr => cases hr; cases hx; simp [Builtin.clear_, hrun]
    · refine ⟨h, hk, fun M w rargs t' hinv hargs => ⟨w, ?_, .refl hinv⟩⟩
      cases hargs with
      | cons hx hr => cases hr; cases hx; simp [Builtin.clear_, hrun]
    · refine ⟨h, hk, fun M w rargs t' hinv hargs => ⟨w, ?_, .refl hinv⟩⟩
      cases hargs with
      | cons hx hr => cases hr; cases hx; simp [Builtin.clear_, hrun]
    · refine ⟨h, hk, fun M w rargs t' hinv hargs => ⟨w, ?_, .refl hinv⟩⟩
      cases hargs with
      | cons hx hr => cases hr; cases hx; simp [Builtin.clear_, hrun]
    · split at hk
      · rename_i es hg
        obtain ⟨h', hk, hn, hget⟩ := setObjK_spec hk
        refine ⟨h', hk, fun M w rargs t' hinv hargs => ?_⟩
        cases hargs with
        | cons hx hr =>
          cases hr
          cases hx with
          | map hm =>
            obtain ⟨hlt, res, clock, ho, hes⟩ := hinv.bound hg hm
            exact ⟨_, by simp [Builtin.clear_, hrun, run_getMap ho, run_setMap ho], post_map (res' := #[]) (clock' := clock) hinv hg hm ho hn hget .nil⟩
      · cases hk
    · rename_i e b off n c _
      replace hk := zero_spec hE hk
      obtain ⟨i, zv, za, hi, hz, hzr, hk⟩ := hk
      rw [repK_eq, List.append_nil] at hk
      replace hk := writeK_spec (P := P) hk
      obtain ⟨h', hk, hw⟩ := hk
      refine ⟨h', hk, fun M w rargs t' hinv hargs => ?_⟩
      cases hargs with
      | cons hx hr =>
        cases hr
        cases hx with
        | slice hm =>
          have hrep : VRels M (List.replicate n za.cells).flatten (Builtin.zeroCells zv.cells n).toList := by
            unfold Builtin.zeroCells
            rw [rep_cells]
            exact (hzr M).cells.replicate n
          obtain ⟨w', h5, h6⟩ := hw M w _ _ _ _ hinv hm hrep
          refine ⟨w', ?_, h6⟩
          cases n with
          | zero => simp [Builtin.zeroCells] at h5; simp [Builtin.clear_, hrun]; cases h5; rfl
          | succ n => simp [Builtin.clear_, hrun, run_zero hi hz, h5]
    · rename_i e b off n z _
      replace hk := zero_spec hE hk
      obtain ⟨i, zv, za, hi, hz, hzr, hk⟩ := hk
      rw [repK_eq, List.append_nil] at hk
      replace hk := writeK_spec (P := P) hk
      obtain ⟨h', hk, hw⟩ := hk
      refine ⟨h', hk, fun M w rargs t' hinv hargs => ?_⟩
      cases hargs with
      | cons hx hr =>
        cases hr
        cases hx with
        | sliceU hm hc hroom =>
          have hrep : VRels M (List.replicate n za.cells).flatten (Builtin.zeroCells zv.cells n).toList := by
            unfold Builtin.zeroCells
            rw [rep_cells]
            exact (hzr M).cells.replicate n
          obtain ⟨w', h5, h6⟩ := hw M w _ _ _ _ hinv hm hrep
          refine ⟨w', ?_, h6⟩
          cases n with
          | zero => simp [Builtin.zeroCells] at h5; simp [Builtin.clear_, hrun]; cases h5; rfl
          | succ n => simp [Builtin.clear_, hrun, run_zero hi hz, h5]
    · cases hk
  · cases hk

end
end Go.Proofs.YtnjobinioalipaaGreatDoor.Ev

/- The operations that turn memory: maps. -/
import Derived.Test.YtnjobinioalipaaGreatDoorEvLoud
namespace Go.Proofs.YtnjobinioalipaaGreatDoor.Ev
open Go

section
variable {E : Env} {P : Program}

theorem run_setMap {β : Nat} {res : Array MapEntry} {clock : Nat} {o : Obj} {w : World} (h : w.heap[β]? = some (.map res clock)) :
    (setObj β o).run P w = .ok () { w with heap := w.heap.setIfInBounds β o } := by
  simp [setObj, Sem.run, h]

theorem sameNow_bits {kd : TypeDesc} {a b : Value} (h : Instr.sameNow kd a b = some true) : Instr.sameBits 10000 b a = true := by
  unfold Instr.sameNow at h
  split at h
  · split at h
    · rename_i hk
      subst hk
      simp at h
      subst h
      simp [Instr.sameBits]
    · cases h
  · rename_i x y
    have : (x == y) = true := by simpa using h
    have e : (x == y) = (x.data == y.data) := rfl
    rw [e, beq_iff_eq] at this
    have : x = y := by cases x; cases y; simp at this; simp [this]
    subst this
    have e2 : (x == x) = true := by
      show (x.data == x.data) = true
      exact beq_self_eq_true _
    simp [Instr.sameBits, e2]
  · simp at h
    subst h
    simp [Instr.sameBits]
  · cases h

theorem updK_spec {key val : AV} {es : List (AV × AV)} {k : List (AV × AV) → Bool} (h : updK key val es k = true) :
    ∃ es', k es' = true ∧ ∀ kd M rkey rval res i, keyFits kd key = true → VRel M key rkey → VRel M val rval → ERel M es res →
      (∃ j old e, Instr.findNow kd rkey res i = some (some (i + j, old)) ∧ res[j]? = some e ∧ Instr.sameNow kd rkey e.key = some true ∧
        ERel M es' (res.modify j fun e => { e with key := rkey, val := rval })) ∨
      (Instr.findNow kd rkey res i = some none ∧ ∀ born, ERel M es' (res ++ [{ key := rkey, val := rval, born }])) := by
  induction es generalizing k with
  | nil => exact ⟨_, h, fun kd M rkey rval res i _ hk hv hs => by cases hs; exact .inr ⟨rfl, fun born => .cons hk hv .nil⟩⟩
  | cons e es ih =>
    obtain ⟨x, v⟩ := e
    simp only [updK] at h
    split at h
    · rename_i he
      refine ⟨_, h, fun kd M rkey rval res i hf hk hv hs => ?_⟩
      cases hs with
      | cons h1 h2 hs =>
        have := keyEq_now hf he hk h1
        refine .inl ⟨0, _, _, by simp only [Instr.findNow, this]; rfl, by simp, this, ?_⟩
        exact .cons hk hv hs
    · rename_i he
      obtain ⟨es', h1, h2⟩ := ih h
      refine ⟨_, h1, fun kd M rkey rval res i hf hk hv hs => ?_⟩
      cases hs with
      | cons h3 h4 hs =>
        have := keyEq_now hf he hk h3
        rcases h2 kd M rkey rval _ (i + 1) hf hk hv hs with ⟨j, old, e, h5, h6, h7, h8⟩ | ⟨h5, h6⟩
        · refine .inl ⟨j + 1, old, e, ?_, by simpa using h6, h7, ?_⟩
          · simp only [Instr.findNow, this, h5]
            congr 3; omega
          · simpa using ERel.cons h3 h4 h8
        · refine .inr ⟨by simp only [Instr.findNow, this, h5], fun born => ?_⟩
          exact .cons h3 h4 (h6 born)
    · cases h

theorem delK_spec {key : AV} {es : List (AV × AV)} {k : List (AV × AV) → Bool} (h : delK key es k = true) :
    ∃ es', k es' = true ∧ ∀ kd M rkey res i, keyFits kd key = true → VRel M key rkey → ERel M es res →
      (∃ j old, Instr.findNow kd rkey res i = some (some (i + j, old)) ∧ ERel M es' (res.eraseIdx j)) ∨ (Instr.findNow kd rkey res i = some none ∧ ERel M es' res) := by
  induction es generalizing k with
  | nil => exact ⟨_, h, fun kd M rkey res i _ hk hs => by cases hs; exact .inr ⟨rfl, .nil⟩⟩
  | cons e es ih =>
    obtain ⟨x, v⟩ := e
    simp only [delK] at h
    split at h
    · rename_i he
      refine ⟨_, h, fun kd M rkey res i hf hk hs => ?_⟩
      cases hs with
      | cons h1 h2 hs =>
        have := keyEq_now hf he hk h1
        exact .inl ⟨0, _, by simp only [Instr.findNow, this]; rfl, by simpa using hs⟩
    · rename_i he
      obtain ⟨es', h1, h2⟩ := ih h
      refine ⟨_, h1, fun kd M rkey res i hf hk hs => ?_⟩
      cases hs with
      | cons h3 h4 hs =>
        have := keyEq_now hf he hk h3
        rcases h2 kd M rkey _ (i + 1) hf hk hs with ⟨j, old, h5, h8⟩ | ⟨h5, h6⟩
        · refine .inl ⟨j + 1, old, ?_, ?_⟩
          · simp only [Instr.findNow, this, h5]
            congr 3; omega
          · simpa using ERel.cons h3 h4 h8
        · exact .inr ⟨by simp only [Instr.findNow, this, h5], .cons h3 h4 h6⟩
    · cases h

/-- A map gets other entries. -/
theorem post_map {h h' : H} {M : Mp} {w : World} {b β δ n : Nat} {es es' : List (AV × AV)} {res res' : Array MapEntry} {clock clock' : Nat} (hi : Inv h M w)
    (hg : h.t.get b = some (.map es)) (hm : M b = some (β, δ, n)) (ho : w.heap[β]? = some (.map res clock)) (hn : h'.next = h.next)
    (hget : ∀ j, h'.t.get j = if j = b then some (.map es') else h.t.get j) (hes : ERel M es' res'.toList) :
    Post h M w h' M { w with heap := w.heap.setIfInBounds β (.map res' clock') } := by
  have hlt := heap_lt ho
  refine Post.update hi hg hm hn hget (by simp) ?_ (fun j hj => ?_) rfl rfl rfl
  · exact ⟨res', clock', by simp [hlt], hes⟩
  · simp only [Array.getElem?_setIfInBounds]
    rw [if_neg (fun e => hj e.symm)]

theorem mapSet_sound (hE : EnvOk E P) {t : TypeId} {h : H} {k : H → Bool} {m key v : AV} (hk : mapSetK E h t m key v k = true) :
    ∃ h', k h' = true ∧ ∀ M w rm rkey rv, Inv h M w → VRel M m rm → VRel M key rkey → VRel M v rv →
      ∃ w', (Instr.mapUpdate t rm rkey rv).run P w = .ok () w' ∧ Post h M w h' M w' := by
  unfold mapSetK at hk
  replace hk := und_spec hE hk
  obtain ⟨d, hu, hk⟩ := hk
  have hrun := run_underlying hu
  split at hk
  · rename_i kt e
    replace hk := und_spec hE hk
    obtain ⟨kd, hku, hk⟩ := hk
    have hkrun := run_underlying hku
    split at hk
    · rename_i hf
      split at hk
      · rename_i b
        split at hk
        · rename_i es hg
          replace hk := updK_spec hk
          obtain ⟨es', hk, hu'⟩ := hk
          obtain ⟨h', hk, hn, hget⟩ := setObjK_spec hk
          refine ⟨h', hk, fun M w rm rkey rv hinv h1 h2 h3 => ?_⟩
          cases h1 with
          | map hm =>
            rename_i β δ n
            obtain ⟨hlt, res, clock, ho, hes⟩ := hinv.bound hg hm
            rcases hu' kd M rkey rv res.toList 0 hf h2 h3 hes with ⟨j, old, en, h5, h6, h7, h8⟩ | ⟨h5, h6⟩
            · refine ⟨_, ?_, post_map (res' := res.modify j fun e => { e with key := rkey, val := rv }) (clock' := clock) hinv hg hm ho hn hget (by simpa using h8)⟩
              have hj : res[j]? = some en := by simpa using h6
              have hsame := sameNow_bits h7
              simp only [Nat.zero_add] at h5
              simp only [Instr.mapUpdate, Sem.run_bind, hrun, Result.andThen_ok, run_getMap ho, run_checkKey hku hf h2, Instr.findKey, hkrun, h5, Sem.run_pure, hj, Option.map_some, Option.getD_some,
                Instr.keyThatStays, hsame, if_true, run_setMap ho]
            · refine ⟨_, ?_, post_map (res' := res.push { key := rkey, val := rv, born := clock }) (clock' := clock + 1) hinv hg hm ho hn hget (by simpa using h6 clock)⟩
              simp only [Instr.mapUpdate, Sem.run_bind, hrun, Result.andThen_ok, run_getMap ho, run_checkKey hku hf h2, Instr.findKey, hkrun, h5, Sem.run_pure, run_setMap ho]
        · cases hk
      · cases hk
    · cases hk
  · cases hk

theorem delete_sound (hE : EnvOk E P) {ts : List TypeId} {h : H} {k : AV → H → Bool} {args : List AV} (hk : deleteK E h ts args k = true) :
    ∃ h', k (.tuple []) h' = true ∧ ∀ M w rargs t, Inv h M w → VRels M args rargs →
      ∃ w', (Builtin.delete_ ts.toArray t rargs.toArray).run P w = .ok (.tuple #[]) w' ∧ Post h M w h' M w' := by
  unfold deleteK at hk
  split at hk
  · rename_i t ts m key
    replace hk := und_spec hE hk
    obtain ⟨d, hu, hk⟩ := hk
    have hrun := run_underlying hu
    split at hk
    · rename_i kt e
      replace hk := und_spec hE hk
      obtain ⟨kd, hku, hk⟩ := hk
      have hkrun := run_underlying hku
      split at hk
      · rename_i hf
        split at hk
        · refine ⟨h, hk, fun M w rargs t' hinv hx => ?_⟩
          cases hx with
          | cons h1 hs => cases hs with
            | cons h2 hs =>
              cases hs
              cases h1
              refine ⟨w, ?_, .refl hinv⟩
              simp [Builtin.delete_, hrun, run_checkKey hku hf h2]
        · rename_i b
          split at hk
          · rename_i es hg
            replace hk := delK_spec hk
            obtain ⟨es', hk, hu'⟩ := hk
            obtain ⟨h', hk, hn, hget⟩ := setObjK_spec hk
            refine ⟨h', hk, fun M w rargs t' hinv hx => ?_⟩
            cases hx with
            | cons h1 hs => cases hs with
              | cons h2 hs =>
                cases hs
                cases h1 with
                | map hm =>
                  rename_i β δ n
                  obtain ⟨hlt, res, clock, ho, hes⟩ := hinv.bound hg hm
                  rcases hu' kd M _ res.toList 0 hf h2 hes with ⟨j, old, h5, h8⟩ | ⟨h5, h6⟩
                  · refine ⟨_, ?_, post_map (res' := res.eraseIdxIfInBounds j) (clock' := clock) hinv hg hm ho hn hget (by simpa using h8)⟩
                    simp only [Nat.zero_add] at h5
                    simp [Builtin.delete_, hrun, run_getMap ho, run_checkKey hku hf h2, Instr.findKey, hkrun, h5, run_setMap ho]
                  · refine ⟨_, ?_, post_map (res' := res) (clock' := clock) hinv hg hm ho hn hget h6⟩
                    simp [Builtin.delete_, hrun, run_getMap ho, run_checkKey hku hf h2, Instr.findKey, hkrun, h5, run_setMap ho]
          · cases hk
        · cases hk
      · cases hk
    · cases hk
  · cases hk

end
end Go.Proofs.YtnjobinioalipaaGreatDoor.Ev

/- Code and calls: the evaluator is sound. -/
import Derived.Test.YtnjobinioalipaaGreatDoorEvDraw
namespace Go.Proofs.YtnjobinioalipaaGreatDoor.Ev
open Go

def Ex.out : Ex → Exit
  | .normal => .normal
  | .exit id => .exit id
  | .ret => .ret

/-- What a piece of code comes to, whatever the tape. -/
def CodeOk (_P : Program) (n : Nat) (r : Regs) (h : H) (wp : (Exit → Act → World → Prop) → Act → World → Prop) (e : Ex) (r' : Regs) (h' : H) : Prop :=
  ∀ M a w, RegRel M n r a → Inv h M w → Free M h → ∀ (Q : Exit → Act → World → Prop),
    (∀ M' a' w', RegRel M' n r' a' → Post h M w h' M' w' → Q e.out a' w') → wp Q a w

/-- At a loop's round's head. -/
def wpL (P : Program) (c : Code) (Q : Exit → Act → World → Prop) (a : Act) (w : World) : Prop :=
  ∀ (b : Frame) (k : List Item) (cs : List Frame), ∃ e a' w', Q e a' w' ∧ Arrives P (lone (b.at a (.code c :: .inLoop c :: k)) cs w) b k cs e a' w'

theorem wpL_step {P : Program} {c : Code} {Q : Exit → Act → World → Prop} {a : Act} {w : World} (h : c.wp P (Exit.then (wpL P c Q) Q) a w) : wpL P c Q a w := by
  intro b k cs
  obtain ⟨e, a₁, w₁, hq, harr⟩ := h b (.inLoop c :: k) cs
  cases e with
  | normal =>
    obtain ⟨e₂, a₂, w₂, hq₂, harr₂⟩ := hq b k cs
    exact ⟨e₂, a₂, w₂, hq₂, .of_steps (Steps.trans harr (.one step_inLoop)) harr₂⟩
  | exit id => exact ⟨_, a₁, w₁, hq, .pass (x := .inLoop c) rfl (fun _ _ => .inl (by simp)) harr⟩
  | goto l => exact ⟨_, a₁, w₁, hq, .pass (x := .inLoop c) rfl (fun _ _ => .inl (by simp)) harr⟩
  | ret => exact ⟨_, a₁, w₁, hq, .pass (x := .inLoop c) rfl (fun _ _ => .inl (by simp)) harr⟩
  | panic ch => exact ⟨_, a₁, w₁, hq, .pass (x := .inLoop c) rfl (fun _ _ => .inl (by simp)) harr⟩
  | outgrown => exact ⟨_, a₁, w₁, hq, .pass (x := .inLoop c) rfl (fun _ _ => .inl (by simp)) harr⟩

theorem wp_of_wpL {P : Program} {c : Code} {Q : Exit → Act → World → Prop} {a : Act} {w : World} (h : wpL P c Q a w) : (Code.loop c).wp P Q a w := by
  intro b k cs
  obtain ⟨e, a', w', hq, harr⟩ := h b k cs
  exact ⟨e, a', w', hq, .of_steps (.one step_loop) harr⟩

section
variable {E : Env} {P : Program}

theorem loopK_sound {n : Nat} {c : Code} {body : CodeT} (hb : ∀ r h k, body r h k = true → ∃ e r' h', k e r' h' = true ∧ CodeOk P n r h (c.wp P) e r' h') :
    ∀ m r h k, loopK body m r h k = true → ∃ e r' h', k e r' h' = true ∧ CodeOk P n r h (wpL P c) e r' h' := by
  intro m
  induction m with
  | zero => intro r h k hk; simp [loopK] at hk
  | succ m ih =>
    intro r h k hk
    simp only [loopK] at hk
    obtain ⟨e, r1, h1, hk, h2⟩ := hb r h _ hk
    cases e with
    | normal =>
      simp only at hk
      obtain ⟨e, r', h', hk, h3⟩ := ih r1 h1 k hk
      refine ⟨e, r', h', hk, fun M a w hr hi hf Q hQ => wpL_step ?_⟩
      refine h2 M a w hr hi hf _ fun M1 a1 w1 hr1 hp1 => ?_
      exact h3 M1 a1 w1 hr1 hp1.inv (hf.post hp1) Q fun M' a' w' hr' hp' => hQ M' a' w' hr' (hp1.trans hp')
    | exit id =>
      exact ⟨.exit id, r1, h1, hk, fun M a w hr hi hf Q hQ => wpL_step (h2 M a w hr hi hf _ fun M1 a1 w1 hr1 hp1 => hQ M1 a1 w1 hr1 hp1)⟩
    | ret =>
      exact ⟨.ret, r1, h1, hk, fun M a w hr hi hf Q hQ => wpL_step (h2 M a w hr hi hf _ fun M1 a1 w1 hr1 hp1 => hQ M1 a1 w1 hr1 hp1)⟩

theorem codeK_sound (hE : EnvOk E P) {n : Nat} {call : CallT} (hc : CallOk P call) : ∀ (c : Code) (r : Regs) (h : H) (k : Ex → Regs → H → Bool), codeK E n call c r h k = true →
    ∃ e r' h', k e r' h' = true ∧ CodeOk P n r h (c.wp P) e r' h' := by
  intro c
  induction c with
  | skip => exact fun r h k hk => ⟨.normal, r, h, hk, fun M a w hr hi hf Q hQ => wp_skip (hQ M a w hr (.refl hi))⟩
  | region id ops draw =>
    intro r h k hk
    cases draw with
    | true =>
      simp only [codeK] at hk
      obtain ⟨r', h', hk, h1⟩ := drawK_sound hE hc ops hk
      exact ⟨.normal, r', h', hk, fun M a w hr hi hf Q hQ => h1 id M a w hr hi hf Q hQ⟩
    | false =>
      simp only [codeK] at hk
      obtain ⟨r', h', hk, h1⟩ := opsK_sound hE hc ops ops.toList 0 r h _ (by simp) hk
      refine ⟨.normal, r', h', hk, fun M a w hr hi hf Q hQ => wp_region ?_⟩
      have := h1 M a w hr hi hf Q hQ
      rwa [List.range_eq_range']
  | seq x y ihx ihy =>
    intro r h k hk
    simp only [codeK] at hk
    obtain ⟨e, r1, h1, hk, h2⟩ := ihx r h _ hk
    cases e with
    | normal =>
      simp only at hk
      obtain ⟨e, r', h', hk, h3⟩ := ihy r1 h1 k hk
      refine ⟨e, r', h', hk, fun M a w hr hi hf Q hQ => wp_seq ?_⟩
      refine h2 M a w hr hi hf _ fun M1 a1 w1 hr1 hp1 => ?_
      exact h3 M1 a1 w1 hr1 hp1.inv (hf.post hp1) Q fun M' a' w' hr' hp' => hQ M' a' w' hr' (hp1.trans hp')
    | exit id => exact ⟨.exit id, r1, h1, hk, fun M a w hr hi hf Q hQ => wp_seq (h2 M a w hr hi hf _ fun M1 a1 w1 hr1 hp1 => hQ M1 a1 w1 hr1 hp1)⟩
    | ret => exact ⟨.ret, r1, h1, hk, fun M a w hr hi hf Q hQ => wp_seq (h2 M a w hr hi hf _ fun M1 a1 w1 hr1 hp1 => hQ M1 a1 w1 hr1 hp1)⟩
  | cond x c1 c2 ih1 ih2 =>
    intro r h k hk
    simp only [codeK] at hk
    replace hk := opnd_spec hk
    obtain ⟨v, hk, hv⟩ := hk
    split at hk
    · obtain ⟨e, r', h', hk, h2⟩ := ih1 r h k hk
      refine ⟨e, r', h', hk, fun M a w hr hi hf Q hQ => wp_cond_true ?_ (h2 M a w hr hi hf Q hQ)⟩
      have := hv M a (hr.opnd x)
      generalize a.eval x = rx at this
      cases this; rfl
    · obtain ⟨e, r', h', hk, h2⟩ := ih2 r h k hk
      refine ⟨e, r', h', hk, fun M a w hr hi hf Q hQ => wp_cond_false ?_ (h2 M a w hr hi hf Q hQ)⟩
      have := hv M a (hr.opnd x)
      generalize a.eval x = rx at this
      cases this; rfl
    · cases hk
  | block id c ih =>
    intro r h k hk
    simp only [codeK] at hk
    replace hk := ih r h _ hk
    obtain ⟨e, r1, h1, hk, h2⟩ := hk
    cases e with
    | normal => exact ⟨.normal, r1, h1, hk, fun M a w hr hi hf Q hQ => wp_block (h2 M a w hr hi hf _ fun M1 a1 w1 hr1 hp1 => hQ M1 a1 w1 hr1 hp1)⟩
    | ret => exact ⟨.ret, r1, h1, hk, fun M a w hr hi hf Q hQ => wp_block (h2 M a w hr hi hf _ fun M1 a1 w1 hr1 hp1 => hQ M1 a1 w1 hr1 hp1)⟩
    | exit j =>
      simp only at hk
      split at hk
      · rename_i hj
        replace hj := Nat.eq_of_beq_eq_true hj
        subst hj
        refine ⟨.normal, r1, h1, hk, fun M a w hr hi hf Q hQ => wp_block (h2 M a w hr hi hf _ fun M1 a1 w1 hr1 hp1 => ?_)⟩
        show Exit.inBlock j Q (.exit j) a1 w1
        simp only [Exit.inBlock, if_true]
        exact hQ M1 a1 w1 hr1 hp1
      · rename_i hj
        replace hj := Nat.ne_of_beq_eq_false hj
        refine ⟨.exit j, r1, h1, hk, fun M a w hr hi hf Q hQ => wp_block (h2 M a w hr hi hf _ fun M1 a1 w1 hr1 hp1 => ?_)⟩
        show Exit.inBlock id Q (.exit j) a1 w1
        simp only [Exit.inBlock, if_neg hj]
        exact hQ M1 a1 w1 hr1 hp1
  | loop c ih =>
    intro r h k hk
    simp only [codeK] at hk
    obtain ⟨e, r', h', hk, h2⟩ := loopK_sound (n := n) ih rounds r h k hk
    exact ⟨e, r', h', hk, fun M a w hr hi hf Q hQ => wp_of_wpL (h2 M a w hr hi hf Q hQ)⟩
  | exit id => exact fun r h k hk => ⟨.exit id, r, h, hk, fun M a w hr hi hf Q hQ => wp_exit (hQ M a w hr (.refl hi))⟩
  | label l => exact fun r h k hk => ⟨.normal, r, h, hk, fun M a w hr hi hf Q hQ => wp_label (hQ M a w hr (.refl hi))⟩
  | ret => exact fun r h k hk => ⟨.ret, r, h, hk, fun M a w hr hi hf Q hQ => wp_ret (hQ M a w hr (.refl hi))⟩
  | rangeFunc => intro r h k hk; simp [codeK] at hk
  | scope => intro r h k hk; simp [codeK] at hk
  | goto => intro r h k hk; simp [codeK] at hk
  | refuse => intro r h k hk; simp [codeK] at hk

theorem argsK_spec : ∀ (vs : List AV) (i : Nat) (r : Regs) (k : Regs → Bool), argsK vs i r k = true →
    ∃ r', k r' = true ∧ ∀ t, r'.get t = if t < i then r.get t else if t < i + vs.length then vs[t - i]? else r.get t := by
  intro vs
  induction vs with
  | nil => exact fun i r k hk => ⟨r, hk, fun t => by
      by_cases c : t < i
      · simp [c]
      · simp [c]⟩
  | cons v vs ih =>
    intro i r k hk
    simp only [argsK] at hk
    obtain ⟨r1, hk, h1⟩ := T.setK_spec _ _ _ _ _ hk
    rw [natK_eq] at hk
    obtain ⟨r', hk, h2⟩ := ih _ _ _ hk
    refine ⟨r', hk, fun t => ?_⟩
    rw [h2, h1]
    simp only [Nat.succ_eq_add_one, List.length_cons]
    by_cases c1 : t < i
    · rw [if_pos (by omega), if_neg (by omega), if_pos c1]
    · by_cases c2 : t = i
      · subst c2; simp
      · rw [if_neg c1, if_neg (by omega), if_neg c2]
        by_cases c3 : t < i + 1 + vs.length
        · rw [if_pos c3, if_pos (by omega), show t - i = (t - (i + 1)) + 1 by omega, List.getElem?_cons_succ]
        · rw [if_neg c3, if_neg (by omega)]

def resOf (tmps : Array Value) : ResultVar → Sem Value
  | .tmp t => pure (tmps.getD t undef)
  | .cell b t => do loadVar t (← asAddr (tmps.getD b undef))

theorem results_eq (fn : Func) (tmps : Array Value) :
    results fn tmps = (do let vs ← fn.results.mapM (resOf tmps); pure (if h : vs.size = 1 then vs[0] else .tuple vs)) := by
  have : (fun (x : ResultVar) => match x with
      | .tmp t => (pure (tmps.getD t undef) : Sem Value)
      | .cell a t => do loadVar t (← asAddr (tmps.getD a undef))) = resOf tmps := by
    funext x; cases x <;> rfl
  unfold results
  exact congrArg (fun f => (do let vs ← fn.results.mapM f; pure (if h : vs.size = 1 then vs[0] else .tuple vs))) this

theorem resK_spec (hE : EnvOk E P) {r : Regs} {h : H} : ∀ (rs : List ResultVar) (k : List AV → Bool), resK E r h rs k = true →
    ∃ vs, k vs = true ∧ ∀ (M : Mp) (n : Nat) (a : Act) (w : World), RegRel M n r a → Inv h M w → ∃ rvs : List Value, VRels M vs rvs ∧
      (rs.mapM (resOf a.tmps)).run P w = .ok rvs w := by
  intro rs
  induction rs with
  | nil => exact fun k hk => ⟨[], hk, fun M n a w _ _ => ⟨[], .nil, by simp⟩⟩
  | cons x rs ih =>
    intro k hk
    cases x with
    | tmp t =>
      simp only [resK] at hk
      replace hk := opnd_spec hk
      obtain ⟨v, hk, h1⟩ := hk
      obtain ⟨vs, hk, h2⟩ := ih _ hk
      refine ⟨v :: vs, hk, fun M n a w hr hi => ?_⟩
      obtain ⟨rvs, h3, h4⟩ := h2 M n a w hr hi
      exact ⟨_ :: rvs, .cons (h1 M a (hr.opnd _)) h3, by simp only [List.mapM_cons, resOf, Sem.run_bind, Sem.run_pure, Result.andThen_ok, h4]; rfl⟩
    | cell b t =>
      simp only [resK] at hk
      replace hk := opnd_spec hk
      obtain ⟨p, hk, h1⟩ := hk
      replace hk := loadK_spec hE hk
      obtain ⟨v, hk, h5⟩ := hk
      obtain ⟨vs, hk, h2⟩ := ih _ hk
      refine ⟨v :: vs, hk, fun M n a w hr hi => ?_⟩
      obtain ⟨rvs, h3, h4⟩ := h2 M n a w hr hi
      obtain ⟨ad, rv, h6, h7, h8⟩ := h5 M w _ hi (h1 M a (hr.opnd _))
      simp only [Act.eval] at h6
      exact ⟨rv :: rvs, .cons h8 h3, by simp only [List.mapM_cons, resOf, Sem.run_bind, Sem.run_pure, Result.andThen_ok, h6, asAddr, h7, h4]⟩

theorem oneOf_spec {vs : List AV} {k : AV → Bool} (hk : oneOf vs k = true) :
    ∃ v, k v = true ∧ ∀ M (rvs : List Value), VRels M vs rvs → VRel M v (if h : rvs.toArray.size = 1 then rvs.toArray[0] else .tuple rvs.toArray) := by
  unfold oneOf at hk
  split at hk
  · refine ⟨_, hk, fun M rvs h => ?_⟩
    cases h with
    | cons h hs => cases hs; simpa using h
  · rename_i hne
    refine ⟨_, hk, fun M rvs h => ?_⟩
    have hl := h.length
    have : ¬ rvs.toArray.size = 1 := by
      intro h1
      simp at h1
      rw [h1] at hl
      match vs, hl with
      | [v], _ => exact hne v rfl
    rw [dif_neg this]
    exact .tuple (by simpa using h)

theorem results_run (hE : EnvOk E P) {fn : Func} {r : Regs} {h : H} {k : AV → Bool} (hk : (resK E r h fn.results.toList fun vs => oneOf vs k) = true) :
    ∃ v, k v = true ∧ ∀ M n a w, RegRel M n r a → Inv h M w → ∃ rv, (results fn a.tmps).run P w = .ok rv w ∧ VRel M v rv := by
  obtain ⟨vs, hk, h1⟩ := resK_spec hE _ _ hk
  obtain ⟨v, hk, h2⟩ := oneOf_spec hk
  refine ⟨v, hk, fun M n a w hr hi => ?_⟩
  obtain ⟨rvs, h3, h4⟩ := h1 M n a w hr hi
  refine ⟨_, ?_, h2 M rvs h3⟩
  rw [results_eq, Array.mapM_eq_mapM_toList]
  simp only [Sem.run_bind, Sem.run_map, Sem.run_pure]
  rw [h4]
  rfl

theorem callK_sound (hE : EnvOk E P) : ∀ fuel, CallOk P (callK E fuel) := by
  intro fuel
  induction fuel with
  | zero => intro f args h k hk; simp [callK] at hk
  | succ fuel ih =>
    intro f args h k hk
    simp only [callK] at hk
    split at hk
    · rename_i fn hfn
      split at hk
      · rename_i c hb
        have hfn' := hE.fn _ _ hfn
        have henter := hE.enter _ _ hfn (by rw [hb]; rfl)
        rw [lenK_eq] at hk
        split at hk
        · rename_i hna
          replace hna := ble_le hna
          obtain ⟨r, hk, hr⟩ := argsK_spec _ _ _ _ hk
          obtain ⟨e, r', h', hk, h1⟩ := codeK_sound hE ih c r h _ hk
          have start : ∀ M (rargs : Array Value), VRels M args rargs.toList → RegRel M fn.ntmps r { tmps := rargs ++ Array.replicate (fn.ntmps - rargs.size) undef, defers := [] } := by
            intro M rargs hargs
            have hl := hargs.length
            refine ⟨?_, rfl, fun t => ?_⟩
            · simp at hl hna ⊢; omega
            · rw [hr]
              simp only [Nat.not_lt_zero, if_false, Nat.zero_add, Nat.sub_zero]
              by_cases ht : t < args.length
              · rw [if_pos ht]
                obtain ⟨rv, h2, h3⟩ := hargs.get (List.getElem?_eq_getElem ht)
                rw [List.getElem?_eq_getElem ht]
                have : (rargs ++ Array.replicate (fn.ntmps - rargs.size) undef).getD t undef = rv := by
                  rw [Array.getD_eq_getD_getElem?, Array.getElem?_append_left (by simp at hl; omega)]
                  simp only [Array.getElem?_toList] at h2
                  rw [h2]; rfl
                rw [this]
                exact h3
              · rw [if_neg ht]
                have : (rargs ++ Array.replicate (fn.ntmps - rargs.size) undef).getD t undef = undef := by
                  rw [Array.getD_eq_getD_getElem?, Array.getElem?_append_right (by simp at hl; omega)]
                  rw [Array.getElem?_replicate]
                  split <;> rfl
                rw [this]
                exact .tuple .nil
          have done : (e.out = .normal ∨ e.out = .ret) → (resK E r' h' fn.results.toList fun vs => oneOf vs fun v => k v h') = true →
              ∃ v h', k v h' = true ∧ CallSound P f args h v h' := by
            intro hcase hk
            obtain ⟨v, hk, h2⟩ := results_run hE hk
            refine ⟨v, h', hk, fun M w rargs hargs hi hf => .inr ⟨henter _ _, calls_of_wp hfn' hb ?_⟩⟩
            refine h1 M _ w (start M rargs hargs) hi hf _ fun M' a' w' hr' hp' => ?_
            obtain ⟨rv, h3, h4⟩ := h2 M' _ a' w' hr' hp'.inv
            rcases hcase with e1 | e1 <;> rw [e1] <;> exact ⟨hr'.2.1, rv, h3, rv, M', rfl, h4, hp'⟩
          cases e with
          | exit id => simp at hk
          | normal => exact done (.inl rfl) hk
          | ret => exact done (.inr rfl) hk
        · cases hk
      · split at hk
        · rename_i hx
          split at hk
          · rename_i v
            refine ⟨v, h, hk, fun M w rargs hargs hi hf => .inl ?_⟩
            have hl := hargs.length
            have hr1 : ∃ rv, rargs = #[rv] ∧ VRel M v rv := by
              obtain ⟨l⟩ := rargs
              cases hargs with
              | cons h1 hs => cases hs; exact ⟨_, rfl, h1⟩
            obtain ⟨rv, rfl, h1⟩ := hr1
            exact ⟨rv, M, w, hE.ext _ hx rv w, h1, .refl hi⟩
          · cases hk
        · cases hk
    · cases hk

end
end Go.Proofs.YtnjobinioalipaaGreatDoor.Ev

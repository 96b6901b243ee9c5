/- A region that leaves its order open. -/
import Derived.Test.YtnjobinioalipaaGreatDoorEvPlan5
namespace Go.Proofs.YtnjobinioalipaaGreatDoor.Ev
open Go

section
variable {X : Pl} {G : Gh} {M0 : Mp} {w0 : World}

/-- One operation that is ready, wherever the order stands. -/
theorem St.step (hX : X.Ok) (hF : Full X G) {Q : Exit → Act → World → Prop} {S : Nat → Bool} {a : Act} {w : World} {j : Nat} {o : Oper}
    (h : ∃ m K M, St X G M0 w0 S m K M a w) (ho : X.ops[j]? = some o) (hSj : S j = false) (hready : ∀ e ∈ o.after.toList, Binds e → S e.on = true) :
    wpOp X.P X.ops Q j (fun a w => ∃ m K M, St X G M0 w0 (fun i => S i || decide (i = j)) m K M a w) a w := by
  obtain ⟨m, K, M, h⟩ := h
  have hjN := (Array.getElem?_eq_some_iff.1 ho).1
  obtain ⟨o', mask, r, D, ho', hmask, hd, hD, hDj, hmD, hr, hsem⟩ := hF.fact j hjN
  rw [ho] at ho'; cases ho'
  have hmS : Below mask S := by
    intro b hb
    obtain ⟨e, he, hbd, h1⟩ := ((hX.masks.of j o mask ho hmask).1 b).1 hb
    rcases h1 with rfl | ⟨me, h2, h3⟩
    · exact hready e he hbd
    · exact h.closed e.on me (hready e he hbd) h2 b h3
  obtain ⟨hlook, hguard⟩ := hX.look j o mask (Nat.zero_le _) ho hmask
  have hrel : ∀ x ∈ o.op.operands.toList, OpndRel M r a x := by
    intro x hx
    cases x <;> first
      | exact h.look hX hSj hmS hD hDj hmD hr _ (hlook _ hx)
      | trivial
  have hwant : ∀ g, GuardIs X.ops o r g → Region.wanted o (yielded X.ops a.tmps) = g := by
    intro g hg
    refine hg M a fun jg want t h1 h2 => ?_
    obtain ⟨og, h3, h4⟩ := Option.bind_eq_some_iff.1 h2
    exact h.look hX hSj hmS hD hDj hmD hr t (lookOk_dst hX h3 h4 (hguard jg want h1))
  have hlen : ∀ p, X.louds[p]? = Option.none → m ≤ p := by
    intro p hp
    have := h.len
    have := List.getElem?_eq_none_iff.1 hp
    omega
  unfold wpOp
  rw [ho]
  simp only
  cases hsem with
  | off hl hp hg hv hm =>
    rw [hwant _ hg, if_neg (by simp)]
    exact ⟨m, K, M, h.still hX ho hSj hmask hmS hd hl hm (by rw [hv]; exact .tuple .nil)⟩
  | quiet hl hp hg hm hq =>
    rw [hwant _ hg, if_pos rfl]
    left
    obtain ⟨h1, h2⟩ := h.levels hSj hmS hlen hp
    obtain ⟨B, h3, h4⟩ := hq m h1 h2
    obtain ⟨h5, h6⟩ := h.part hmS h3
    obtain ⟨rv, h7, h8⟩ := h4 M a w hrel (h.inv.sub h5 (by omega))
    exact wp_of_value h7 ⟨m, K, M, h.still hX ho hSj hmask hmS hd hl hm h8⟩
  | make hl hp hg id ob vf hm hv hk h1 h2 =>
    rw [hwant _ hg, if_pos rfl]
    left
    obtain ⟨_, h3⟩ := h.levels hSj hmS hlen hp
    obtain ⟨obj, rv, n, h4, h5, h6⟩ := hk M a w hrel
    obtain ⟨K', M', h7⟩ := h.make hX hF ho hSj hmask hmS hd hl hm h3 h1 h2 h5 (rv := rv) (fun M' hM' => by rw [hv]; exact h6 M' id hM')
    exact wp_of_value h4 ⟨m, K', M', h7⟩
  | loud p hl hprev hm hlv B hB hq =>
    have hpm : p = m := by
      have h1 : ¬ p < m := fun h1 => by
        have := (h.pos p j o hl).2 h1
        rw [hSj] at this; cases this
      have h2 : p ≤ m := by
        cases p with
        | zero => omega
        | succ q =>
          obtain ⟨jq, oq, h3, h4⟩ := hprev q rfl
          have := (h.pos q jq oq h3).1 (hmS jq h4)
          omega
      omega
    subst hpm
    rcases hq with ⟨hg, hop⟩ | ⟨hg, hB', hv⟩
    · rw [hwant _ hg, if_pos rfl]
      left
      obtain ⟨h5, h6⟩ := h.part hmS hB
      refine hop M a w hrel (h.inv.sub h5 (by omega)) (fun b hb => h.free b (by omega)) _ Q fun rv M' w' hv hp => ?_
      obtain ⟨K', h7⟩ := h.loud hX hF ho hSj hmask hmS hd hl hm hlv hB hv hp
      exact ⟨p + 1, K', M', h7⟩
    · rw [hwant _ hg, if_neg (by simp)]
      obtain ⟨h5, h6⟩ := h.part hmS hB
      obtain ⟨K', h7⟩ := h.loud hX hF ho hSj hmask hmS hd hl hm hlv hB (rv := undef) (M' := M) (w' := w) (by rw [hv]; exact .tuple .nil) (by
        rw [hB']; exact .refl (h.inv.sub h5 (by omega)))
      exact ⟨p + 1, K', M, h7⟩

end

theorem drawK_sound {E : Env} {P : Program} (hE : EnvOk E P) {n : Nat} {call : CallT} (hc : CallOk P call) (ops : Array Oper) {r : Regs} {h : H} {k : Regs → H → Bool}
    (hk : drawK E n call ops.toList r h k = true) :
    ∃ r' h', k r' h' = true ∧ ∀ id M a w, RegRel M n r a → Inv h M w → Free M h → ∀ (Q : Exit → Act → World → Prop),
      (∀ M' a' w', RegRel M' n r' a' → Post h M w h' M' w' → Q .normal a' w') → (Code.region id ops true).wp P Q a w := by
  unfold drawK at hk
  replace hk := masksK_spec ops _ 0 _ _ (by simp) (Nat.zero_le _) (fun j _ => by rfl) (fun j hj => by omega) (fun j o m hj => by omega) hk
  obtain ⟨masks, hk, hmasks⟩ := hk
  replace hk := writersK_spec ops _ 0 _ _ (by simp) (Nat.zero_le _) (fun t j => ⟨fun h => (by cases h), fun h => (by omega)⟩) hk
  obtain ⟨ws, hk, hws⟩ := hk
  split at hk
  · rename_i hlook
    replace hlook := allLook_spec ops masks ws _ 0 (by simp) hlook
    replace hk := loudsK_spec ops _ 0 _ (by simp) hk
    obtain ⟨louds, hk, hlouds⟩ := hk
    replace hk := countMakes_spec _ _ _ hk
    obtain ⟨makes, _, hk⟩ := hk
    obtain ⟨ht, hn⟩ := h
    simp only [natK_eq] at hk
    let X : Pl := ⟨E, P, n, Nat.add hn makes, hn, ops, masks, ws, louds, r, ⟨ht, hn⟩⟩
    have hlim : hn ≤ Nat.add hn makes := Nat.le_add_right _ _
    have hX : X.Ok := ⟨hE, hmasks, hws, hlook, hlouds⟩
    have run0 : Run X 0 0 [⟨ht, Nat.add hn makes⟩] [] hn r := by
      refine ⟨[], fun e he => (by cases he), .nil, rfl, rfl, fun p jl ol _ hb => (by simp at hb), fun G _ _ => ?_⟩
      refine ⟨fun t => ?_, fun j m hj => (by simp at hj), fun j hj => (by simp at hj), fun e he => (by cases he), fun j id ob hj => (by simp at hj), fun i j id x y hi => (by simp at hi),
        fun j hj => (by simp at hj), fun j hj => (by simp at hj), Nat.le_refl _, hlim⟩
      unfold Pl.env
      split
      · simp only [Nat.zero_testBit]; rfl
      · rfl
    replace hk := chainK_run hX (k := k) hc louds none 0 0 _ _ _ _ (by simp [X]) (Nat.zero_le _) (fun q hq => by omega) run0 hk
    obtain ⟨d, hs, hm, mk, c, r', h', hk, ⟨log, h1, h2, h3, h3', h4, hcan⟩, hd, hnext, hget⟩ := hk
    refine ⟨r', h', hk, fun id M a w hr hi hf Q hQ => ?_⟩
    -- what the run tells
    obtain ⟨f, hf'⟩ := MemIs.ex _ _ h3
    obtain ⟨G, hG1, hG2⟩ := Agrees.ex log h2 ⟨fun _ => .nilptr, fun _ => 0, fun _ => none, f⟩
    have hM := hf' G hG2
    have can := hcan G hG1 hM
    have hbit : ∀ j, d.testBit j = decide (j < ops.size) := by
      intro j
      have : d = 2 ^ ops.size - 1 := by
        have h5 : d + 1 = 2 ^ ops.size := hd
        omega
      rw [this, Nat.testBit_two_pow_sub_one]
    have hF : Full X G := ⟨hlim, fun j hj => can.fact j (by rw [hbit]; exact decide_eq_true hj), fun i j id x y hi hj => can.inj i j id x y (by rw [hbit]; exact decide_eq_true hi) (by rw [hbit]; exact decide_eq_true hj)⟩
    have hmem0 : G.mem 0 = ⟨ht, Nat.add hn makes⟩ := by
      have := MemIs.at _ _ hM _ _ h3'
      rw [Nat.sub_self] at this
      exact this
    refine wp_region_any hE.mixed (wpAny_of (fun S a w' => ∃ m K M', St X G M w S m K M' a w') (fun S a w j o hJ ho hSj hre => St.step hX hF hJ ho hSj hre) ?_
      (fun j o ho e he hb => ?_) _ _ _ _ ?_ ?_ ?_)
    · -- all are done
      intro S a' w' hJ hall
      obtain ⟨m, K, M', hst⟩ := hJ
      have hml : m = louds.length := by
        have h5 : m ≤ louds.length := hst.len
        have h6 : ¬ m < louds.length := fun h6 => by
          have h7 : X.louds[m]? = some louds[m] := by simp [X, h6]
          obtain ⟨_, h8, _⟩ := hlouds.of louds[m].1 louds[m].2 (List.getElem_mem h6)
          have := (hst.pos m _ _ h7).1 (hall _ (Array.getElem?_eq_some_iff.1 h8).1)
          omega
        omega
      subst hml
      refine hQ M' a' w' ⟨hst.size, hst.defers, fun t => ?_⟩ ?_
      · rw [can.regs]
        have e : X.env G d.testBit t = X.env G S t := by
          unfold Pl.env
          split
          · rename_i i hi
            obtain ⟨o, h5, _⟩ := (hws t i).1 hi
            have h6 := (Array.getElem?_eq_some_iff.1 h5).1
            rw [hbit, hall i h6]
            simp [h6]
          · rfl
        rw [e]
        exact hst.regs t
      · refine Gone.post (h1 := K) hst.gone hst.inv (fun b ob hb => ?_) ?_
        · rw [hst.get]
          rcases hget b ob hb with h5 | ⟨e, h5, h6, h7, rfl, rfl⟩
          · left; rw [hM.1]; exact h5
          · obtain ⟨h8, h9, h10⟩ := can.mks e h5
            exact .inr ⟨e.op, hall e.op (can.dN e.op h8), by rw [h10]; exact h7, h9⟩
        · rw [hst.next, hnext, hM.1]
    · have hj := (Array.getElem?_eq_some_iff.1 ho).1
      obtain ⟨m, hm⟩ := hmasks.ex j hj
      exact (hmasks.of j o m ho hm).2 e he hb
    · exact Array.size_replicate
    · exact Nat.le_trans List.countP_le_length (by simp)
    · refine ⟨0, ⟨ht, Nat.add hn makes⟩, M, ?_⟩
      have hS : (fun i => (Array.replicate ops.size false).getD i false) = fun _ => false := by
        funext i
        simp [Array.getD_eq_getD_getElem?, Array.getElem?_replicate]
        split <;> rfl
      rw [hS]
      refine ⟨fun j m hj => (by cases hj), fun j hj => (by cases hj), fun p jl ol _ => ⟨fun h => (by cases h), fun h => (by omega)⟩, Nat.zero_le _, hr.1, hr.2.1, fun t => ?_, ?_, by rw [hmem0],
        Nat.le_refl _, fun b ob => ?_, fun b hb => ?_, fun b hb1 hb2 _ => hf b hb1, fun j id ob hj _ hmd => ?_, ?_⟩
      · have e : X.env G (fun _ => false) t = (r.get t).getD (.tuple []) := by
          unfold Pl.env
          split <;> rfl
        rw [e]
        exact hr.2.2 t
      · exact ⟨hi.obj, fun b o hb => Nat.lt_of_lt_of_le (hi.lt b o hb) hlim, hi.inj⟩
      · rw [hmem0]
        exact ⟨.inl, fun h => h.elim (fun h => h) fun ⟨j, h, _⟩ => (by cases h)⟩
      · exact hf b (Nat.le_trans hlim hb)
      · rw [hmem0]
        have h5 := can.ids j id ob (by rw [hbit]; exact decide_eq_true hj) hmd
        cases e : ht.get id with
        | none => rfl
        | some x =>
          have := hi.lt id x e
          have h6 : hn ≤ id := h5.1
          simp only at this
          omega
      · exact ⟨M.le_refl, fun b h1 h2 => absurd h1 h2, fun b o β δ n h1 h2 _ => ⟨b, o, δ, n, h1, h2⟩, fun _ _ _ => rfl, Nat.le_refl _, hlim, rfl, rfl, rfl⟩
  · cases hk

end Go.Proofs.YtnjobinioalipaaGreatDoor.Ev

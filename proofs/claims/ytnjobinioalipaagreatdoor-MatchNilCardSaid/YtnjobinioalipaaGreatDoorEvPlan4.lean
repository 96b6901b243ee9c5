/- The one run of a region that leaves its order open, step by step. -/
import Derived.Test.YtnjobinioalipaaGreatDoorEvPlan3
namespace Go.Proofs.YtnjobinioalipaaGreatDoor.Ev
open Go

theorem guardK_is {ops : Array Oper} {o : Oper} {r : Regs} {k : Bool → Bool} (hk : guardK ops.toList o r k = true) : ∃ g, k g = true ∧ GuardIs ops o r g := guardK_spec hk

theorem Can.part {X : Pl} {G : Gh} {d m : Nat} {mk : List Mk} {c : Nat} {r : Regs} (h : Can X G d m mk c r) {mask i : Nat} {h0 B : H} (h1 : G.mem i = h0) (hn : B.next = h0.next)
    (hb : ∀ b ob, B.t.get b = some ob → h0.t.get b = some ob ∨ ∃ e ∈ mk, mask.testBit e.op = true ∧ i ≤ e.lvl ∧ e.id = b ∧ e.ob = ob) : Part G mask i B := by
  refine ⟨by rw [h1]; exact hn, fun b ob hg => ?_⟩
  rcases hb b ob hg with h2 | ⟨e, he, h2, h3, rfl, rfl⟩
  · exact .inl (by rw [h1]; exact h2)
  · obtain ⟨_, h4, h5⟩ := h.mks e he
    exact .inr ⟨e.op, h2, by omega, h4⟩

theorem smallOp_run {X : Pl} (hX : X.Ok) {d m : Nat} {hs : List H} {mk : List Mk} {c : Nat} {r : Regs} {j : Nat} {o : Oper} {k : SmallT} (h : Run X d m hs mk c r)
    (ho : X.ops[j]? = some o) (hj : d.testBit j = false) (hnl : ∀ (p : Nat) (ol : Oper), X.louds[p]? ≠ some (j, ol)) (hp : X.Phase j m)
    (hk : smallOp X.E X.n X.lim X.ops.toList X.masks X.louds j o d m hs mk c r k = true) :
    ∃ d' mk' c' r', k d' mk' c' r' = true ∧ Run X d' m hs mk' c' r' := by
  unfold smallOp at hk
  split at hk
  · rename_i mask hmask
    split at hk
    · rename_i hbelow
      replace hbelow := below_of_land hbelow
      replace hk := guardK_is hk
      obtain ⟨g, hk, hg⟩ := hk
      cases g with
      | false =>
        simp only at hk
        replace hk := dstK_spec hk
        obtain ⟨r', hk, h1, h2⟩ := hk
        rw [natK_eq] at hk
        exact ⟨_, _, _, _, hk, h.small hX ho hmask hbelow hj hnl h1 h2 (fun e he => .inl he) (mo := none) (fun id ob h => by cases h) (Nat.le_refl _) (.inr rfl)
          fun G e1 e2 e3 _ _ => .off hnl (e2 ▸ hp) hg e1 e3⟩
      | true =>
        simp only at hk
        replace hk := cls_spec hk
        obtain ⟨cl, hk, hcl⟩ := hk
        cases cl with
        | loud => cases hk
        | make =>
          simp only at hk
          split at hk
          · rename_i hlt
            replace hlt := blt_lt hlt
            replace hk := makeK_sound hX.env hk
            obtain ⟨ob, vf, hk, hm⟩ := hk
            replace hk := dstK_spec hk
            obtain ⟨r', hk, h1, h2⟩ := hk
            rw [natK_eq, natK_eq] at hk
            refine ⟨_, _, _, _, hk, h.small hX ho hmask hbelow hj hnl h1 h2 (mo := some (c, ob)) (fun e he => ?_) (fun id ob h => ?_) (Nat.le_succ _) (.inl hlt)
              fun G e1 e2 e3 _ can => .make hnl (e2 ▸ hp) hg c ob vf e3 e1 hm can.c.1 hlt⟩
            · rcases List.mem_cons.1 he with rfl | he
              · exact .inr ⟨rfl, rfl, rfl⟩
              · exact .inl he
            · cases h; exact ⟨Nat.le_refl _, Nat.lt_succ_self _⟩
          · cases hk
        | quiet =>
          simp only at hk
          split at hk
          · rename_i h0 hs'
            replace hk := withMk_spec _ _ _ hk
            obtain ⟨B, hk, h1, h2⟩ := hk
            replace hk := quietK_sound hX.env hk
            obtain ⟨v, hk, h3⟩ := hk
            replace hk := lowK_spec _ _ _ hk
            split at hk
            · rename_i hsame
              replace hsame := sameAt_spec hX.env _ _ _ hsame
              replace hk := dstK_spec hk
              obtain ⟨r', hk, h4, h5⟩ := hk
              rw [natK_eq] at hk
              refine ⟨_, _, _, _, hk, h.small hX ho hmask hbelow hj hnl h4 h5 (fun e he => .inl he) (mo := none) (fun id ob h => by cases h) (Nat.le_refl _) (.inr rfl)
                fun G e1 e2 e3 hM can => .quiet hnl (e2 ▸ hp) hg e3 fun i hi1 hi2 => ?_⟩
              rw [e2] at hi2
              rw [e1]
              by_cases e : i = m
              · subst e
                exact ⟨B, can.part hM.1 h1 h2, h3⟩
              · have sub : ∀ a b : Nat, Nat.sub a b = a - b := fun _ _ => rfl
                have prd : ∀ a : Nat, Nat.pred a = a - 1 := fun _ => rfl
                obtain ⟨h', B', h6, h7, h8, h9⟩ := hsame (m - 1 - i) (by rw [sub]; omega)
                refine ⟨B', can.part (h0 := h') ?_ h7 (fun b ob hb => ?_), h9⟩
                · have := MemIs.at _ _ hM (m - 1 - i + 1) h' (by simpa using h6)
                  rw [show m - (m - 1 - i + 1) = i by omega] at this
                  exact this
                · rcases h8 b ob hb with h10 | ⟨e, he, h10, h11, h12⟩
                  · exact .inl h10
                  · refine .inr ⟨e, he, h10, ?_, h12⟩
                    rw [prd] at h11; omega
            · cases hk
          · cases hk
    · cases hk
  · cases hk

theorem phaseK_run {X : Pl} (hX : X.Ok) {m : Nat} {hs : List H} {sel : Option Nat} (hsel : ∀ j, chosen sel j = true → X.Phase j m) {k : SmallT} : ∀ (os : List Oper) (j d : Nat) (mk : List Mk) (c : Nat) (r : Regs),
    os = X.ops.toList.drop j → Run X d m hs mk c r → phaseK X.E X.n X.lim X.ops.toList X.masks X.louds sel os j d m hs mk c r k = true →
    ∃ d' mk' c' r', k d' mk' c' r' = true ∧ Run X d' m hs mk' c' r' := by
  intro os
  induction os with
  | nil => intro j d mk c r _ h hk; exact ⟨_, _, _, _, hk, h⟩
  | cons o os ih =>
    intro j d mk c r hos h hk
    have hoi : X.ops[j]? = some o := by
      have := congrArg (fun l => l[0]?) hos
      simp at this
      rw [this]
    have hos' : os = X.ops.toList.drop (j + 1) := by
      have := congrArg List.tail hos
      simpa using this
    simp only [phaseK, natK_eq] at hk
    split at hk
    · exact ih _ _ _ _ _ hos' h hk
    · rename_i hd
      rw [has_iff] at hd
      split at hk
      · exact ih _ _ _ _ _ hos' h hk
      · rename_i hch
        replace hk := cls_spec hk
        obtain ⟨cl, hk, hcl⟩ := hk
        have nl : cl ≠ .loud → ∀ (p : Nat) (ol : Oper), X.louds[p]? ≠ some (j, ol) := by
          intro hne p ol hp
          obtain ⟨_, h1, h2⟩ := hX.louds.of j ol (List.mem_of_getElem? hp)
          rw [hoi] at h1; cases h1
          exact hne (hcl.eq h2)
        cases cl with
        | loud => exact ih _ _ _ _ _ hos' h hk
        | quiet =>
          simp only at hk
          obtain ⟨d', mk', c', r', hk, h'⟩ := smallOp_run hX h hoi hd (nl (by simp)) (hsel j hch) hk
          exact ih _ _ _ _ _ hos' h' hk
        | make =>
          simp only at hk
          obtain ⟨d', mk', c', r', hk, h'⟩ := smallOp_run hX h hoi hd (nl (by simp)) (hsel j hch) hk
          exact ih _ _ _ _ _ hos' h' hk

def PrevIs (X : Pl) (m : Nat) (prev : Option Nat) : Prop := ∀ q, m = q + 1 → ∃ jq oq, X.louds[q]? = some (jq, oq) ∧ prev = some jq

theorem chainK_run {X : Pl} (hX : X.Ok) {call : CallT} (hc : CallOk X.P call) {k : Regs → H → Bool} : ∀ (l : List (Nat × Oper)) (prev : Option Nat) (d m : Nat) (hs : List H) (mk : List Mk) (c : Nat) (r : Regs),
    l = X.louds.drop m → m ≤ X.louds.length → PrevIs X m prev → Run X d m hs mk c r → chainK X.E X.n X.lim call X.ops.toList X.masks X.louds l prev d m hs mk c r k = true →
    ∃ d' hs' h mk' c' r' h', k r' h' = true ∧ Run X d' X.louds.length (h :: hs') mk' c' r' ∧ d' + 1 = 2 ^ X.ops.size ∧ h'.next = h.next ∧
      ∀ b ob, h'.t.get b = some ob → h.t.get b = some ob ∨ ∃ e ∈ mk', d'.testBit e.op = true ∧ X.louds.length ≤ e.lvl ∧ e.id = b ∧ e.ob = ob := by
  intro l
  induction l with
  | nil =>
    intro prev d m hs mk c r hl hm _ h hk
    have hlen : X.louds.length = m := by
      have := congrArg List.length hl
      simp at this; omega
    simp only [chainK] at hk
    replace hk := phaseK_run hX (fun j _ jl ol hjl => by
      rw [← hlen] at hjl; simp at hjl) _ 0 _ _ _ _ (by simp) h hk
    obtain ⟨d', mk', c', r', hk, h'⟩ := hk
    split at hk
    · rename_i h0 hs0 h1
      replace h1 := Nat.eq_of_beq_eq_true h1
      obtain ⟨h'', hk, h3, h4⟩ := withAll_spec _ _ _ hk
      refine ⟨d', _, _, mk', c', r', h'', hk, hlen ▸ h', ?_, h3, ?_⟩
      · have pw : ∀ a b : Nat, Nat.pow a b = a ^ b := fun _ _ => rfl
        rw [pw] at h1
        simpa using h1
      · rw [hlen]; exact h4
    · cases hk
  | cons jo l ih =>
    intro prev d m hs mk c r hl hm hprev h hk
    obtain ⟨j, o⟩ := jo
    have hlt : m < X.louds.length := by
      have := congrArg List.length hl
      simp at this; omega
    have hpos : X.louds[m]? = some (j, o) := by
      have := congrArg (fun l => l[0]?) hl
      simp at this
      rw [this]
    have hl' : l = X.louds.drop (m + 1) := by
      have := congrArg List.tail hl
      simpa using this
    obtain ⟨_, hoi, hcl⟩ := hX.louds.of j o (List.mem_of_getElem? hpos)
    simp only [chainK] at hk
    split at hk
    · rename_i mask hmask
      split at hk
      · rename_i hpo
        replace hk := phaseK_run hX (fun i hi jl ol hjl => by
          rw [hpos] at hjl; cases hjl
          exact ⟨mask, hmask, by simpa [chosen, has_iff] using hi⟩) _ 0 _ _ _ _ (by simp) h hk
        obtain ⟨d', mk', c', r', hk, h'⟩ := hk
        split at hk
        · rename_i h0 hs0 hbelow
          replace hbelow := below_of_land hbelow
          replace hk := withAll_spec _ _ _ hk
          obtain ⟨B, hk, h1, h2⟩ := hk
          replace hk := guardK_is hk
          obtain ⟨g, hk, hg⟩ := hk
          have hj : d'.testBit j = false := by
            cases e : d'.testBit j with
            | false => rfl
            | true =>
              obtain ⟨_, _, _, _, _, h5, _⟩ := h'
              have := h5 m j o hpos e
              omega
          have prevSem : ∀ q, m = q + 1 → ∃ jq oq, X.louds[q]? = some (jq, oq) ∧ mask.testBit jq = true := by
            intro q hq
            obtain ⟨jq, oq, h3, h4⟩ := hprev q hq
            rw [h4] at hpo
            exact ⟨jq, oq, h3, by simpa [prevOk, has_iff] using hpo⟩
          have next : PrevIs X (m + 1) (some j) := by
            intro q hq
            have : q = m := by omega
            subst this
            exact ⟨j, o, hpos, rfl⟩
          cases g with
          | true =>
            simp only at hk
            have hk' : opK X.E call o r' B (fun v h'' => dstK X.n r' o.dst v fun r => natK (Nat.lor d' (Nat.pow 2 j)) fun d =>
              chainK X.E X.n X.lim call X.ops.toList X.masks X.louds l (some j) d (Nat.succ m) (h'' :: h0 :: hs0) mk' c' r k) = true := by
              unfold opK
              rw [hcl]
              exact hk
            replace hk' := opK_sound hX.env hc hk'
            obtain ⟨v, h'', hk', h3⟩ := hk'
            replace hk' := dstK_spec hk'
            obtain ⟨r'', hk', h4, h5⟩ := hk'
            rw [natK_eq] at hk'
            refine ih _ _ _ _ _ _ _ hl' hlt next (h'.loud hX hoi hmask hbelow hj hpos h4 h5 fun G e1 e2 e3 hM hM' can => ?_) hk'
            exact .loud m hpos prevSem e3 (fun i hi => can.lvl i (hbelow i hi)) B (can.part hM.1 h1 h2) (.inl ⟨hg, by rw [e1, hM']; exact h3⟩)
          | false =>
            simp only at hk
            replace hk := dstK_spec hk
            obtain ⟨r'', hk, h4, h5⟩ := hk
            rw [natK_eq] at hk
            refine ih _ _ _ _ _ _ _ hl' hlt next (h'.loud hX hoi hmask hbelow hj hpos h4 h5 fun G e1 e2 e3 hM hM' can => ?_) hk
            exact .loud m hpos prevSem e3 (fun i hi => can.lvl i (hbelow i hi)) B (can.part hM.1 h1 h2) (.inr ⟨hg, hM', e1⟩)
        · cases hk
      · cases hk
    · cases hk

end Go.Proofs.YtnjobinioalipaaGreatDoor.Ev

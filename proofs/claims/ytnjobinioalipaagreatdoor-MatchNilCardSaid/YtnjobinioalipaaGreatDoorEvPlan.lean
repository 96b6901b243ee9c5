/- A region that leaves its order open: what its one run tells of every order. -/
import Derived.Test.YtnjobinioalipaaGreatDoorEvSeq
namespace Go.Proofs.YtnjobinioalipaaGreatDoor.Ev
open Go

theorem und_det {E : Env} {t : TypeId} {k : TypeDesc → Bool} (hk : E.und t k = true) : ∃ d, k d = true ∧ ∀ k' : TypeDesc → Bool, E.und t k' = k' d := by
  unfold Env.und at hk
  split at hk
  · rename_i i hi
    split at hk
    · rename_i n u hd
      split at hk
      · rename_i j hj; exact ⟨_, hk, fun k' => by unfold Env.und; simp only [hi, hd, hj]⟩
      · cases hk
    · rename_i hd
      refine ⟨_, hk, fun k' => ?_⟩
      unfold Env.und
      simp only [hi]
  · cases hk

theorem cls_det {E : Env} {o : Oper} {k : Cls → Bool} (hk : clsOf E o k = true) : ∃ c, k c = true ∧ ∀ k' : Cls → Bool, clsOf E o k' = k' c := by
  unfold clsOf at hk
  split at hk <;> rename_i ho <;> (try exact ⟨_, hk, fun k' => by unfold clsOf; simp only [ho]⟩)
  · obtain ⟨d, hk, hd⟩ := und_det hk
    split at hk
    · exact ⟨_, hk, fun k' => by unfold clsOf; simp only [ho]; rw [hd]⟩
    · rename_i hn
      refine ⟨_, hk, fun k' => ?_⟩
      unfold clsOf
      simp only [ho]
      rw [hd]
      split
      · exact absurd rfl (hn _)
      · rfl
  · split at hk <;> rename_i hc <;> (try exact ⟨_, hk, fun k' => by unfold clsOf; simp only [ho, hc]⟩)

def IsCls (E : Env) (o : Oper) (c : Cls) : Prop := ∀ k : Cls → Bool, clsOf E o k = k c

theorem lor_two (d j i : Nat) : (Nat.lor d (Nat.pow 2 j)).testBit i = (d.testBit i || decide (i = j)) := by
  show (d ||| 2 ^ j).testBit i = _
  rw [Nat.testBit_or, Nat.testBit_two_pow]
  congr 1
  exact decide_eq_decide.2 ⟨fun h => h.symm, fun h => h.symm⟩

theorem and_sub {a d : Nat} (h : Nat.beq (Nat.land a d) a = true) : ∀ i, a.testBit i = true → d.testBit i = true := by
  intro i hi
  have e : a &&& d = a := Nat.eq_of_beq_eq_true h
  rw [← e, Nat.testBit_and, Bool.and_eq_true] at hi
  exact hi.2

/- The masks. -/

def Binds (e : Edge) : Prop := Region.binds .any e = true

theorem edgesK_spec {masks : T Nat} {i : Nat} : ∀ (es : List Edge) (m0 : Nat) (k : Nat → Bool), edgesK masks i es m0 k = true →
    ∃ m, k m = true ∧ (∀ b, m.testBit b = true ↔ m0.testBit b = true ∨ ∃ e ∈ es, Binds e ∧ (b = e.on ∨ ∃ me, masks.get e.on = some me ∧ me.testBit b = true)) ∧ ∀ e ∈ es, Binds e → e.on < i := by
  intro es
  induction es with
  | nil => intro m0 k hk; simp only [edgesK, natK_eq] at hk; exact ⟨m0, hk, by simp, by simp⟩
  | cons e es ih =>
    intro m0 k hk
    have skip : ¬ Binds e → edgesK masks i es m0 k = true → ∃ m, k m = true ∧ (∀ b, m.testBit b = true ↔ m0.testBit b = true ∨ ∃ e' ∈ e :: es, Binds e' ∧ (b = e'.on ∨ ∃ me, masks.get e'.on = some me ∧ me.testBit b = true)) ∧ ∀ e' ∈ e :: es, Binds e' → e'.on < i := by
      intro hb hk
      obtain ⟨m, h1, h2, h3⟩ := ih _ _ hk
      refine ⟨m, h1, fun b => ?_, fun e' he' hb' => ?_⟩
      · rw [h2]
        constructor
        · rintro (h | ⟨e', he', h⟩)
          · exact .inl h
          · exact .inr ⟨e', by simp [he'], h⟩
        · rintro (h | ⟨e', he', hb', h⟩)
          · exact .inl h
          · rcases List.mem_cons.1 he' with rfl | he'
            · exact absurd hb' hb
            · exact .inr ⟨e', he', hb', h⟩
      · rcases List.mem_cons.1 he' with rfl | he'
        · exact absurd hb' hb
        · exact h3 e' he' hb'
    have take : Binds e → (match Nat.blt e.on i with
        | true => match masks.get e.on with
          | some me => natK (Nat.lor (Nat.lor m0 (Nat.pow 2 e.on)) me) fun m => edgesK masks i es m k
          | none => false
        | false => false) = true → ∃ m, k m = true ∧ (∀ b, m.testBit b = true ↔ m0.testBit b = true ∨ ∃ e' ∈ e :: es, Binds e' ∧ (b = e'.on ∨ ∃ me, masks.get e'.on = some me ∧ me.testBit b = true)) ∧ ∀ e' ∈ e :: es, Binds e' → e'.on < i := by
      intro hb hk
      split at hk
      · rename_i hlt
        replace hlt := blt_lt hlt
        split at hk
        · rename_i me hme
          rw [natK_eq] at hk
          obtain ⟨m, h1, h2, h3⟩ := ih _ _ hk
          refine ⟨m, h1, fun b => ?_, fun e' he' hb' => ?_⟩
          · rw [h2]
            have e1 : (Nat.lor (Nat.lor m0 (Nat.pow 2 e.on)) me).testBit b = ((m0.testBit b || decide (b = e.on)) || me.testBit b) := by
              show ((Nat.lor m0 (Nat.pow 2 e.on)) ||| me).testBit b = _
              rw [Nat.testBit_or, lor_two]
            rw [e1]
            simp only [Bool.or_eq_true, decide_eq_true_eq]
            constructor
            · rintro (((h | h) | h) | ⟨e', he', h⟩)
              · exact .inl h
              · exact .inr ⟨e, by simp, hb, .inl h⟩
              · exact .inr ⟨e, by simp, hb, .inr ⟨me, hme, h⟩⟩
              · exact .inr ⟨e', by simp [he'], h⟩
            · rintro (h | ⟨e', he', hb', h⟩)
              · exact .inl (.inl (.inl h))
              · rcases List.mem_cons.1 he' with rfl | he'
                · rcases h with h | ⟨me', h4, h5⟩
                  · exact .inl (.inl (.inr h))
                  · rw [hme] at h4; cases h4; exact .inl (.inr h5)
                · exact .inr ⟨e', he', hb', h⟩
          · rcases List.mem_cons.1 he' with rfl | he'
            · exact hlt
            · exact h3 e' he' hb'
        · cases hk
      · cases hk
    simp only [edgesK] at hk
    cases hg : e.ground with
    | textOnly row => rw [hg] at hk; exact skip (by simp [Binds, Region.binds, hg]) hk
    | gcOnly row => rw [hg] at hk; exact skip (by simp [Binds, Region.binds, hg]) hk
    | data => rw [hg] at hk; exact take (by simp [Binds, Region.binds, hg]) hk
    | chain => rw [hg] at hk; exact take (by simp [Binds, Region.binds, hg]) hk
    | guard => rw [hg] at hk; exact take (by simp [Binds, Region.binds, hg]) hk
    | phase => rw [hg] at hk; exact take (by simp [Binds, Region.binds, hg]) hk

/-- What the masks say. -/
structure MasksOk (ops : Array Oper) (masks : T Nat) : Prop where
  ex : ∀ j, j < ops.size → ∃ m, masks.get j = some m
  of : ∀ j o m, ops[j]? = some o → masks.get j = some m → (∀ b, m.testBit b = true ↔ ∃ e ∈ o.after.toList, Binds e ∧ (b = e.on ∨ ∃ me, masks.get e.on = some me ∧ me.testBit b = true)) ∧
    ∀ e ∈ o.after.toList, Binds e → e.on < j

theorem masksK_spec (ops : Array Oper) : ∀ (os : List Oper) (i : Nat) (t : T Nat) (k : T Nat → Bool), os = ops.toList.drop i → i ≤ ops.size →
    (∀ j, i ≤ j → t.get j = none) → (∀ j, j < i → ∃ m, t.get j = some m) →
    (∀ j o m, j < i → ops[j]? = some o → t.get j = some m → (∀ b, m.testBit b = true ↔ ∃ e ∈ o.after.toList, Binds e ∧ (b = e.on ∨ ∃ me, t.get e.on = some me ∧ me.testBit b = true)) ∧
      ∀ e ∈ o.after.toList, Binds e → e.on < j) →
    masksK os i t k = true → ∃ masks, k masks = true ∧ MasksOk ops masks := by
  intro os
  induction os with
  | nil =>
    intro i t k hos hi hnone hsome hof hk
    have hlen : ops.size ≤ i := by
      have := congrArg List.length hos
      simp at this; omega
    refine ⟨t, hk, fun j hj => hsome j (by omega), fun j o m ho hm => hof j o m ?_ ho hm⟩
    have := (Array.getElem?_eq_some_iff.1 ho).1
    omega
  | cons o os ih =>
    intro i t k hos hi hnone hsome hof hk
    have hlt : i < ops.size := by
      have := congrArg List.length hos
      simp at this; omega
    have hoi : ops[i]? = some o := by
      have := congrArg (fun l => l[0]?) hos
      simp at this
      rw [this]
    have hos' : os = ops.toList.drop (i + 1) := by
      have := congrArg List.tail hos
      simpa using this
    simp only [masksK] at hk
    obtain ⟨m, hk, h1, h2⟩ := edgesK_spec _ _ _ hk
    obtain ⟨t', hk, h3⟩ := T.setK_spec _ _ _ _ _ hk
    rw [natK_eq] at hk
    have keep : ∀ j, j < i → t'.get j = t.get j := fun j hj => by rw [h3, if_neg (by omega)]
    refine ih (i + 1) t' k hos' hlt (fun j hj => by rw [h3, if_neg (by omega)]; exact hnone j (by omega)) (fun j hj => ?_) (fun j o' m' hj ho' hm' => ?_) hk
    · by_cases e : j = i
      · subst e; exact ⟨m, by rw [h3]; simp⟩
      · rw [keep j (by omega)]; exact hsome j (by omega)
    · by_cases e : j = i
      · subst e
        rw [hoi] at ho'
        cases ho'
        rw [h3, if_pos rfl] at hm'
        cases hm'
        refine ⟨fun b => ?_, h2⟩
        rw [h1]
        simp only [Nat.zero_testBit, Bool.false_eq_true, false_or]
        constructor
        · rintro ⟨e, he, hb, h⟩
          exact ⟨e, he, hb, h.imp id fun ⟨me, h4, h5⟩ => ⟨me, by rw [keep _ (h2 e he hb)]; exact h4, h5⟩⟩
        · rintro ⟨e, he, hb, h⟩
          exact ⟨e, he, hb, h.imp id fun ⟨me, h4, h5⟩ => ⟨me, by rw [keep _ (h2 e he hb)] at h4; exact h4, h5⟩⟩
      · rw [keep j (by omega)] at hm'
        obtain ⟨h4, h5⟩ := hof j o' m' (by omega) ho' hm'
        refine ⟨fun b => ?_, h5⟩
        rw [h4]
        constructor
        · rintro ⟨e, he, hb, h⟩
          exact ⟨e, he, hb, h.imp id fun ⟨me, h6, h7⟩ => ⟨me, by rw [keep _ (by have := h5 e he hb; omega)]; exact h6, h7⟩⟩
        · rintro ⟨e, he, hb, h⟩
          exact ⟨e, he, hb, h.imp id fun ⟨me, h6, h7⟩ => ⟨me, by rw [keep _ (by have := h5 e he hb; omega)] at h6; exact h6, h7⟩⟩

/-- Closed under what must be ahead. -/
def Closed (ops : Array Oper) (S : Nat → Prop) : Prop := ∀ j o, S j → ops[j]? = some o → ∀ e ∈ o.after.toList, Binds e → S e.on

theorem MasksOk.lt {ops : Array Oper} {masks : T Nat} (h : MasksOk ops masks) : ∀ j o m, ops[j]? = some o → masks.get j = some m → ∀ b, m.testBit b = true → b < j := by
  intro j
  induction j using Nat.strongRecOn with
  | _ j ih =>
    intro o m ho hm b hb
    obtain ⟨h1, h2⟩ := h.of j o m ho hm
    obtain ⟨e, he, hbd, h3⟩ := (h1 b).1 hb
    have h4 := h2 e he hbd
    rcases h3 with rfl | ⟨me, h5, h6⟩
    · exact h4
    · have hj := (Array.getElem?_eq_some_iff.1 ho).1
      have := ih e.on h4 ops[e.on] me (by simp [show e.on < ops.size by omega]) h5 b h6
      omega

theorem MasksOk.sub {ops : Array Oper} {masks : T Nat} (h : MasksOk ops masks) {S : Nat → Prop} (hS : Closed ops S) : ∀ j o m, ops[j]? = some o → masks.get j = some m →
    (∀ e ∈ o.after.toList, Binds e → S e.on) → ∀ b, m.testBit b = true → S b := by
  intro j
  induction j using Nat.strongRecOn with
  | _ j ih =>
    intro o m ho hm hall b hb
    obtain ⟨h1, h2⟩ := h.of j o m ho hm
    obtain ⟨e, he, hbd, h3⟩ := (h1 b).1 hb
    have h4 := h2 e he hbd
    rcases h3 with rfl | ⟨me, h5, h6⟩
    · exact hall e he hbd
    · have hj := (Array.getElem?_eq_some_iff.1 ho).1
      have ho' : ops[e.on]? = some ops[e.on] := by simp [show e.on < ops.size by omega]
      exact ih e.on h4 ops[e.on] me ho' h5 (hS e.on _ (hall e he hbd) ho') b h6

theorem IsCls.eq {E : Env} {o : Oper} {c c' : Cls} (h : IsCls E o c) (h' : IsCls E o c') : c = c' := by
  have e := h fun x => match x, c with
    | .quiet, .quiet => true
    | .make, .make => true
    | .loud, .loud => true
    | _, _ => false
  rw [h'] at e
  cases c <;> cases c' <;> simp at e ⊢

theorem cls_spec {E : Env} {o : Oper} {k : Cls → Bool} (hk : clsOf E o k = true) : ∃ c, k c = true ∧ IsCls E o c := cls_det hk

/- The writers. -/

def WritersOk (ops : Array Oper) (ws : T Nat) : Prop := ∀ t i, ws.get t = some i ↔ ∃ o, ops[i]? = some o ∧ o.dst = some t

theorem writersK_spec (ops : Array Oper) : ∀ (os : List Oper) (i : Nat) (ws : T Nat) (k : T Nat → Bool), os = ops.toList.drop i → i ≤ ops.size →
    (∀ t j, ws.get t = some j ↔ j < i ∧ ∃ o, ops[j]? = some o ∧ o.dst = some t) → writersK os i ws k = true → ∃ ws', k ws' = true ∧ WritersOk ops ws' := by
  intro os
  induction os with
  | nil =>
    intro i ws k hos hi hw hk
    have hlen : ops.size ≤ i := by
      have := congrArg List.length hos
      simp at this; omega
    refine ⟨ws, hk, fun t j => ?_⟩
    rw [hw]
    constructor
    · rintro ⟨_, h⟩; exact h
    · rintro ⟨o, h1, h2⟩
      have := (Array.getElem?_eq_some_iff.1 h1).1
      exact ⟨by omega, o, h1, h2⟩
  | cons o os ih =>
    intro i ws k hos hi hw hk
    have hlt : i < ops.size := by
      have := congrArg List.length hos
      simp at this; omega
    have hoi : ops[i]? = some o := by
      have := congrArg (fun l => l[0]?) hos
      simp at this
      rw [this]
    have hos' : os = ops.toList.drop (i + 1) := by
      have := congrArg List.tail hos
      simpa using this
    simp only [writersK, natK_eq] at hk
    cases hd : o.dst with
    | none =>
      rw [hd] at hk
      refine ih (i + 1) ws k hos' hlt (fun t j => ?_) hk
      rw [hw]
      constructor
      · rintro ⟨h1, h2⟩; exact ⟨by omega, h2⟩
      · rintro ⟨h1, o', h2, h3⟩
        refine ⟨?_, o', h2, h3⟩
        by_cases e : j = i
        · subst e; rw [hoi] at h2; cases h2; rw [hd] at h3; cases h3
        · omega
    | some d =>
      rw [hd] at hk
      simp only at hk
      split at hk
      · cases hk
      · rename_i hnone
        obtain ⟨ws', hk, h3⟩ := T.setK_spec _ _ _ _ _ hk
        refine ih (i + 1) ws' k hos' hlt (fun t j => ?_) hk
        rw [h3]
        by_cases e : t = d
        · subst e
          rw [if_pos rfl]
          constructor
          · intro h; cases h; exact ⟨by omega, o, hoi, hd⟩
          · rintro ⟨h1, o', h2, h4⟩
            by_cases e : j = i
            · rw [e]
            · have := (hw t j).2 ⟨by omega, o', h2, h4⟩
              rw [hnone] at this; cases this
        · rw [if_neg e, hw]
          constructor
          · rintro ⟨h1, h2⟩; exact ⟨by omega, h2⟩
          · rintro ⟨h1, o', h2, h4⟩
            refine ⟨?_, o', h2, h4⟩
            by_cases e' : j = i
            · subst e'; rw [hoi] at h2; cases h2; rw [hd] at h4; cases h4; exact absurd rfl e
            · omega

/- What is looked at. -/

theorem has_iff (m i : Nat) : has m i = m.testBit i := by
  unfold has
  have e : m.testBit i = (1 &&& (m >>> i) != 0) := rfl
  rw [e, Nat.and_comm]
  show (match (m >>> i) &&& 1 with | 0 => false | _ + 1 => true) = _
  cases (m >>> i) &&& 1 <;> rfl

def LookOk (masks ws : T Nat) (j mask : Nat) (t : Nat) : Prop :=
  ∀ i, ws.get t = some i → i = j ∨ mask.testBit i = true ∨ ∃ mi, masks.get i = some mi ∧ mi.testBit j = true

theorem looksOk_spec {masks ws : T Nat} {j mask : Nat} : ∀ xs : List Operand, looksOk masks ws j mask xs = true → ∀ t, Operand.tmp t ∈ xs → LookOk masks ws j mask t := by
  intro xs
  induction xs with
  | nil => intro _ t ht; cases ht
  | cons x xs ih =>
    intro hk t ht
    cases x with
    | tmp u =>
      simp only [looksOk] at hk
      have key : looksOk masks ws j mask xs = true ∧ LookOk masks ws j mask u := by
        split at hk
        · rename_i hn; exact ⟨hk, fun i hi => by rw [hn] at hi; cases hi⟩
        · rename_i i hi
          split at hk
          · rename_i e
            replace e := Nat.eq_of_beq_eq_true e
            exact ⟨hk, fun i' hi' => by rw [hi] at hi'; cases hi'; exact .inl e⟩
          · split at hk
            · rename_i e
              rw [has_iff] at e
              exact ⟨hk, fun i' hi' => by rw [hi] at hi'; cases hi'; exact .inr (.inl e)⟩
            · split at hk
              · rename_i mi hmi
                split at hk
                · rename_i e
                  rw [has_iff] at e
                  exact ⟨hk, fun i' hi' => by rw [hi] at hi'; cases hi'; exact .inr (.inr ⟨mi, hmi, e⟩)⟩
                · cases hk
              · cases hk
      rcases List.mem_cons.1 ht with e | e
      · cases e; exact key.2
      · exact ih key.1 t e
    | _ =>
      simp only [looksOk] at hk
      rcases List.mem_cons.1 ht with e | e
      · cases e
      · exact ih hk t e

theorem guardOk_spec {mask : Nat} {g : Option (Nat × Bool)} (h : guardOk mask g = true) : ∀ j want, g = some (j, want) → mask.testBit j = true := by
  intro j want e
  subst e
  simpa [guardOk, has_iff] using h

def AllLook (ops : Array Oper) (masks ws : T Nat) (i : Nat) : Prop := ∀ j o mask, i ≤ j → ops[j]? = some o → masks.get j = some mask →
  (∀ t, Operand.tmp t ∈ o.op.operands.toList → LookOk masks ws j mask t) ∧ ∀ g want, o.guard = some (g, want) → mask.testBit g = true

theorem allLook_spec (ops : Array Oper) (masks ws : T Nat) : ∀ (os : List Oper) (i : Nat), os = ops.toList.drop i → allLook masks ws os i = true → AllLook ops masks ws i := by
  intro os
  induction os with
  | nil =>
    intro i hos _ j o mask hj ho
    have hlen : ops.size ≤ i := by
      have := congrArg List.length hos
      simp at this; omega
    have := (Array.getElem?_eq_some_iff.1 ho).1
    omega
  | cons o os ih =>
    intro i hos hk j o' mask' hj ho hm
    have hoi : ops[i]? = some o := by
      have := congrArg (fun l => l[0]?) hos
      simp at this
      rw [this]
    have hos' : os = ops.toList.drop (i + 1) := by
      have := congrArg List.tail hos
      simpa using this
    simp only [allLook] at hk
    split at hk
    · rename_i mask hmask
      split at hk
      · rename_i h1
        split at hk
        · rename_i h2
          by_cases e : j = i
          · subst e
            rw [hoi] at ho; cases ho
            rw [hmask] at hm; cases hm
            exact ⟨looksOk_spec _ h1, guardOk_spec h2⟩
          · exact ih (i + 1) hos' hk j o' mask' (by omega) ho hm
        · cases hk
      · cases hk
    · cases hk

/- The loud ones. -/

structure LoudsOk (E : Env) (ops : Array Oper) (i : Nat) (louds : List (Nat × Oper)) : Prop where
  of : ∀ j o, (j, o) ∈ louds → i ≤ j ∧ ops[j]? = some o ∧ IsCls E o .loud
  inc : louds.Pairwise fun a b => a.1 < b.1

theorem loudsK_spec {E : Env} (ops : Array Oper) : ∀ (os : List Oper) (i : Nat) (k : List (Nat × Oper) → Bool), os = ops.toList.drop i → loudsK E os i k = true →
    ∃ louds, k louds = true ∧ LoudsOk E ops i louds := by
  intro os
  induction os with
  | nil => intro i k _ hk; exact ⟨[], hk, by simp, .nil⟩
  | cons o os ih =>
    intro i k hos hk
    have hoi : ops[i]? = some o := by
      have := congrArg (fun l => l[0]?) hos
      simp at this
      rw [this]
    have hos' : os = ops.toList.drop (i + 1) := by
      have := congrArg List.tail hos
      simpa using this
    simp only [loudsK, natK_eq] at hk
    obtain ⟨c, hk, hc⟩ := cls_spec hk
    cases c with
    | loud =>
      obtain ⟨l, hk, h1, h2⟩ := ih (i + 1) _ hos' hk
      refine ⟨_, hk, fun j o' hj => ?_, ?_⟩
      · rcases List.mem_cons.1 hj with e | e
        · cases e; exact ⟨Nat.le_refl _, hoi, hc⟩
        · obtain ⟨a, b, c⟩ := h1 j o' e; exact ⟨by omega, b, c⟩
      · refine List.pairwise_cons.2 ⟨fun a ha => ?_, h2⟩
        have := (h1 a.1 a.2 ha).1
        simp only; omega
    | quiet =>
      obtain ⟨l, hk, h1, h2⟩ := ih (i + 1) _ hos' hk
      exact ⟨l, hk, fun j o' hj => let ⟨a, b, c⟩ := h1 j o' hj; ⟨by omega, b, c⟩, h2⟩
    | make =>
      obtain ⟨l, hk, h1, h2⟩ := ih (i + 1) _ hos' hk
      exact ⟨l, hk, fun j o' hj => let ⟨a, b, c⟩ := h1 j o' hj; ⟨by omega, b, c⟩, h2⟩

theorem LoudsOk.inj {E : Env} {ops : Array Oper} {i : Nat} {louds : List (Nat × Oper)} (h : LoudsOk E ops i louds) {p q j : Nat} {o o' : Oper}
    (hp : louds[p]? = some (j, o)) (hq : louds[q]? = some (j, o')) : p = q := by
  have key : ∀ (p q : Nat) (o o' : Oper), p < q → louds[p]? = some (j, o) → louds[q]? = some (j, o') → False := by
    intro p q o o' hlt h1 h2
    obtain ⟨h3, h4⟩ := List.getElem?_eq_some_iff.1 h1
    obtain ⟨h5, h6⟩ := List.getElem?_eq_some_iff.1 h2
    have := List.pairwise_iff_getElem.1 h.inc p q h3 h5 hlt
    rw [h4, h6] at this
    simp at this
  rcases Nat.lt_trichotomy p q with h1 | h1 | h1
  · exact (key p q _ _ h1 hp hq).elim
  · exact h1
  · exact (key q p _ _ h1 hq hp).elim

theorem countMakes_spec {E : Env} : ∀ (os : List Oper) (n : Nat) (k : Nat → Bool), countMakes E os n k = true → ∃ n', n ≤ n' ∧ k n' = true := by
  intro os
  induction os with
  | nil => intro n k hk; rw [countMakes, natK_eq] at hk; exact ⟨n, Nat.le_refl _, hk⟩
  | cons o os ih =>
    intro n k hk
    simp only [countMakes] at hk
    obtain ⟨c, hk, _⟩ := cls_spec hk
    cases c with
    | make => rw [natK_eq] at hk; obtain ⟨n', h1, h2⟩ := ih _ _ hk; exact ⟨n', by omega, h2⟩
    | quiet => exact ih _ _ hk
    | loud => exact ih _ _ hk

theorem lowK_spec {mask : Nat} : ∀ (l : List (Nat × Oper)) (n : Nat) (k : Nat → Bool), lowK mask l n k = true → k (n + l.countP fun x => mask.testBit x.1) = true := by
  intro l
  induction l with
  | nil => intro n k hk; rw [lowK, natK_eq] at hk; simpa using hk
  | cons x l ih =>
    intro n k hk
    obtain ⟨i, o⟩ := x
    simp only [lowK] at hk
    split at hk
    · rename_i e
      rw [has_iff] at e
      rw [natK_eq] at hk
      have := ih _ _ hk
      rw [List.countP_cons_of_pos (by simpa using e)]
      rw [show n + (l.countP (fun x => mask.testBit x.1) + 1) = n.succ + l.countP (fun x => mask.testBit x.1) by omega]
      exact this
    · rename_i e
      rw [has_iff] at e
      have := ih _ _ hk
      rw [List.countP_cons_of_neg (by simpa using e)]
      exact this

theorem withMk_spec {mask lvl : Nat} : ∀ (mk : List Mk) (h : H) (k : H → Bool), withMk mask lvl mk h k = true →
    ∃ h', k h' = true ∧ h'.next = h.next ∧ ∀ b ob, h'.t.get b = some ob → h.t.get b = some ob ∨ ∃ e ∈ mk, mask.testBit e.op = true ∧ lvl ≤ e.lvl ∧ e.id = b ∧ e.ob = ob := by
  intro mk
  induction mk with
  | nil => intro h k hk; exact ⟨h, hk, rfl, fun b ob h => .inl h⟩
  | cons e mk ih =>
    intro h k hk
    obtain ⟨i, id, ob, l⟩ := e
    have rest : ∀ h1 : H, h1.next = h.next → (∀ b o, h1.t.get b = some o → h.t.get b = some o ∨ (b = id ∧ o = ob ∧ mask.testBit i = true ∧ lvl ≤ l)) → withMk mask lvl mk h1 k = true →
        ∃ h', k h' = true ∧ h'.next = h.next ∧ ∀ b o, h'.t.get b = some o → h.t.get b = some o ∨ ∃ e ∈ (⟨i, id, ob, l⟩ : Mk) :: mk, mask.testBit e.op = true ∧ lvl ≤ e.lvl ∧ e.id = b ∧ e.ob = o := by
      intro h1 hn hs hk
      obtain ⟨h', h2, h3, h4⟩ := ih _ _ hk
      refine ⟨h', h2, by omega, fun b o hb => ?_⟩
      rcases h4 b o hb with h5 | ⟨e, he, h6⟩
      · rcases hs b o h5 with h7 | ⟨rfl, rfl, h7, h8⟩
        · exact .inl h7
        · exact .inr ⟨_, List.mem_cons_self, h7, h8, rfl, rfl⟩
      · exact .inr ⟨e, List.mem_cons_of_mem _ he, h6⟩
    simp only [withMk] at hk
    split at hk
    · rename_i h5
      split at hk
      · rename_i h6
        rw [has_iff] at h6
        obtain ⟨h1, hk, h2, h3⟩ := setObjK_spec hk
        refine rest h1 h2 (fun b o hb => ?_) hk
        rw [h3] at hb
        by_cases e : b = id
        · rw [if_pos e] at hb; cases hb; exact .inr ⟨e, rfl, h6, Nat.le_of_ble_eq_true h5⟩
        · rw [if_neg e] at hb; exact .inl hb
      · exact rest h rfl (fun b o hb => .inl hb) hk
    · exact rest h rfl (fun b o hb => .inl hb) hk

theorem withAll_spec {mask lvl : Nat} : ∀ (mk : List Mk) (h : H) (k : H → Bool), withAll mask lvl mk h k = true →
    ∃ h', k h' = true ∧ h'.next = h.next ∧ ∀ b ob, h'.t.get b = some ob → h.t.get b = some ob ∨ ∃ e ∈ mk, mask.testBit e.op = true ∧ lvl ≤ e.lvl ∧ e.id = b ∧ e.ob = ob := by
  intro mk
  induction mk with
  | nil => intro h k hk; exact ⟨h, hk, rfl, fun b ob h => .inl h⟩
  | cons e mk ih =>
    intro h k hk
    obtain ⟨i, id, ob, l⟩ := e
    have rest : ∀ h1 : H, h1.next = h.next → (∀ b o, h1.t.get b = some o → h.t.get b = some o ∨ (b = id ∧ o = ob ∧ mask.testBit i = true ∧ lvl ≤ l)) → withAll mask lvl mk h1 k = true →
        ∃ h', k h' = true ∧ h'.next = h.next ∧ ∀ b o, h'.t.get b = some o → h.t.get b = some o ∨ ∃ e ∈ (⟨i, id, ob, l⟩ : Mk) :: mk, mask.testBit e.op = true ∧ lvl ≤ e.lvl ∧ e.id = b ∧ e.ob = o := by
      intro h1 hn hs hk
      obtain ⟨h', h2, h3, h4⟩ := ih _ _ hk
      refine ⟨h', h2, by omega, fun b o hb => ?_⟩
      rcases h4 b o hb with h5 | ⟨e, he, h6⟩
      · rcases hs b o h5 with h7 | ⟨rfl, rfl, h7, h8⟩
        · exact .inl h7
        · exact .inr ⟨_, List.mem_cons_self, h7, h8, rfl, rfl⟩
      · exact .inr ⟨e, List.mem_cons_of_mem _ he, h6⟩
    simp only [withAll] at hk
    split at hk
    · rename_i h5
      split at hk
      · rename_i h6
        rw [has_iff] at h6
        obtain ⟨h1, hk, h2, h3⟩ := setObjK_spec hk
        refine rest h1 h2 (fun b o hb => ?_) hk
        rw [h3] at hb
        by_cases e : b = id
        · rw [if_pos e] at hb; cases hb; exact .inr ⟨e, rfl, h6, Nat.le_of_ble_eq_true h5⟩
        · rw [if_neg e] at hb; exact .inl hb
      · cases hk
    · exact rest h rfl (fun b o hb => .inl hb) hk

end Go.Proofs.YtnjobinioalipaaGreatDoor.Ev

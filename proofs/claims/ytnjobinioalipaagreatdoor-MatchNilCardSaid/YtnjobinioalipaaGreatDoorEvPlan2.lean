/- Equal values, trees with one thing turned, and what a region's start and its state stand in to each other. -/
import Derived.Test.YtnjobinioalipaaGreatDoorEvPlan
namespace Go.Proofs.YtnjobinioalipaaGreatDoor.Ev
open Go

theorem eqList_eq {α : Type} {eq : α → α → Bool} (h : ∀ a b, eq a b = true → a = b) : ∀ x y : List α, eqList eq x y = true → x = y := by
  intro x
  induction x with
  | nil => intro y hk; cases y with
    | nil => rfl
    | cons _ _ => cases hk
  | cons a x ih => intro y hk; cases y with
    | nil => cases hk
    | cons b y =>
      simp only [eqList] at hk
      split at hk
      · rename_i e; rw [h a b e, ih y hk]
      · cases hk

theorem eq0_eq (a b : AV) (h : eq0 a b = true) : a = b := by
  unfold eq0 at h
  split at h <;> try rfl
  · rename_i x y; cases x <;> cases y <;> first | rfl | cases h
  · split at h
    · rename_i e
      rw [(kindEq_iff _ _).1 e, (eqI_iff _ _).1 h]
    · cases h
  · rw [(strEq_iff _ _).1 h]
  · split at h
    · rename_i e
      rw [Nat.eq_of_beq_eq_true e, Nat.eq_of_beq_eq_true h]
    · cases h
  · split at h
    · rename_i e1 e2 e3
      rw [Nat.eq_of_beq_eq_true e1, Nat.eq_of_beq_eq_true e2, Nat.eq_of_beq_eq_true e3, Nat.eq_of_beq_eq_true h]
    · cases h
  · split at h
    · rename_i e1 e2 e3
      rw [Nat.eq_of_beq_eq_true e1, Nat.eq_of_beq_eq_true e2, Nat.eq_of_beq_eq_true e3, Nat.eq_of_beq_eq_true h]
    · cases h
  · rw [Nat.eq_of_beq_eq_true h]
  · cases h

theorem eqAV_eq (a b : AV) (h : eqAV a b = true) : a = b := by
  unfold eqAV at h
  split at h
  · rw [eqList_eq eq0_eq _ _ h]
  · rw [eqList_eq eq0_eq _ _ h]
  · split at h
    · rename_i e1 e2
      rw [Nat.eq_of_beq_eq_true e1, eqList_eq eq0_eq _ _ e2, eqList_eq eq0_eq _ _ h]
    · cases h
  · exact eq0_eq _ _ h

theorem sameAt_spec {E : Env} {P : Program} (hE : EnvOk E P) {o : Oper} {r : Regs} {mask : Nat} {mk : List Mk} {v : AV} : ∀ (n lvl : Nat) (hs : List H), sameAt E o r mask mk v n lvl hs = true →
    ∀ i, i < n → ∃ h B, hs[i]? = some h ∧ B.next = h.next ∧
      (∀ b ob, B.t.get b = some ob → h.t.get b = some ob ∨ ∃ e ∈ mk, mask.testBit e.op = true ∧ lvl - i ≤ e.lvl ∧ e.id = b ∧ e.ob = ob) ∧ QuietOk P o r B v := by
  intro n
  induction n with
  | zero => intro lvl hs _ i hi; omega
  | succ n ih =>
    intro lvl hs hk i hi
    cases hs with
    | nil => cases hk
    | cons h hs =>
      simp only [sameAt] at hk
      split at hk
      · rename_i e
        cases i with
        | zero =>
          obtain ⟨B, h1, h2, h3⟩ := withMk_spec _ _ _ e
          obtain ⟨v', h4, h5⟩ := quietK_sound hE h1
          rw [← eqAV_eq _ _ h4] at h5
          exact ⟨h, B, rfl, h2, h3, h5⟩
        | succ i =>
          obtain ⟨h', B, h1, h2, h3, h4⟩ := ih _ _ hk i (by omega)
          refine ⟨h', B, by simpa using h1, h2, fun b ob hb => ?_, h4⟩
          rcases h3 b ob hb with h5 | ⟨e, h6, h7, h8, h9⟩
          · exact .inl h5
          · refine .inr ⟨e, h6, h7, ?_, h9⟩
            have : lvl.pred = lvl - 1 := rfl
            omega
      · cases hk

theorem T.ex_set {α : Type} (v : Option α) : ∀ (i : Nat) (t : T α), ∃ t' : T α, ∀ j, t'.get j = if j = i then v else t.get j := by
  intro i
  induction i using Nat.strongRecOn with
  | _ i ih =>
    have key : ∀ (a : Option α) (l r : T α), ∃ t' : T α, ∀ j, t'.get j = if j = i then v else (T.node a l r).get j := by
      intro a l r
      cases i with
      | zero => exact ⟨.node v l r, fun j => by cases j <;> simp [T.get]⟩
      | succ i =>
        rcases Nat.mod_two_eq_zero_or_one i with e | e
        · obtain ⟨t', h⟩ := ih (i / 2) (by omega) l
          refine ⟨.node a t' r, fun j => ?_⟩
          cases j with
          | zero => simp [T.get]
          | succ j =>
            have e1 : ∀ x y : T α, (T.node a x y).get (j + 1) = (match j % 2 with | 0 => x.get (j / 2) | _ + 1 => y.get (j / 2)) := fun _ _ => rfl
            rw [e1, e1]
            rcases Nat.mod_two_eq_zero_or_one j with e' | e'
            · simp only [e', h]
              by_cases e2 : j = i
              · subst e2; simp
              · rw [if_neg (by omega), if_neg (by omega)]
            · simp only [e']
              rw [if_neg (by omega)]
        · obtain ⟨t', h⟩ := ih (i / 2) (by omega) r
          refine ⟨.node a l t', fun j => ?_⟩
          cases j with
          | zero => simp [T.get]
          | succ j =>
            have e1 : ∀ x y : T α, (T.node a x y).get (j + 1) = (match j % 2 with | 0 => x.get (j / 2) | _ + 1 => y.get (j / 2)) := fun _ _ => rfl
            rw [e1, e1]
            rcases Nat.mod_two_eq_zero_or_one j with e' | e'
            · simp only [e']
              rw [if_neg (by omega)]
            · simp only [e', h]
              by_cases e2 : j = i
              · subst e2; simp
              · rw [if_neg (by omega), if_neg (by omega)]
    intro t
    cases t with
    | node a l r => exact key a l r
    | leaf =>
      obtain ⟨t', h⟩ := key none .leaf .leaf
      refine ⟨t', fun j => ?_⟩
      rw [h]
      congr 1
      have leaf : ∀ j, (T.leaf : T α).get j = none := fun _ => rfl
      cases j with
      | zero => rfl
      | succ j =>
        have e1 : ∀ x y : T α, (T.node none x y).get (j + 1) = (match j % 2 with | 0 => x.get (j / 2) | _ + 1 => y.get (j / 2)) := fun _ _ => rfl
        rw [e1]
        cases j % 2 <;> rfl

/-- A memory with some things set in. -/
theorem ex_over (A : H) (N : Nat) (f : Nat → Option (Nat × AObj)) (hinj : ∀ i j id x y, i < N → j < N → f i = some (id, x) → f j = some (id, y) → i = j)
    (hno : ∀ j id x, j < N → f j = some (id, x) → A.t.get id = none) :
    ∃ K : H, K.next = A.next ∧ ∀ b ob, K.t.get b = some ob ↔ A.t.get b = some ob ∨ ∃ j, j < N ∧ f j = some (b, ob) := by
  induction N with
  | zero => exact ⟨A, rfl, fun b ob => ⟨.inl, fun h => h.elim id fun ⟨j, h, _⟩ => by omega⟩⟩
  | succ N ih =>
    obtain ⟨K, h1, h2⟩ := ih (fun i j id x y hi hj => hinj i j id x y (by omega) (by omega)) (fun j id x hj => hno j id x (by omega))
    cases hf : f N with
    | none =>
      refine ⟨K, h1, fun b ob => ?_⟩
      rw [h2]
      constructor
      · rintro (h | ⟨j, hj, h⟩)
        · exact .inl h
        · exact .inr ⟨j, by omega, h⟩
      · rintro (h | ⟨j, hj, h⟩)
        · exact .inl h
        · refine .inr ⟨j, ?_, h⟩
          rcases Nat.lt_or_ge j N with h3 | h3
          · exact h3
          · have : j = N := by omega
            subst this; rw [hf] at h; cases h
    | some x =>
      obtain ⟨id, x⟩ := x
      obtain ⟨t', h3⟩ := T.ex_set (some x) id K.t
      refine ⟨⟨t', K.next⟩, h1, fun b ob => ?_⟩
      rw [h3]
      by_cases e : b = id
      · subst e
        rw [if_pos rfl]
        constructor
        · intro h; cases h; exact .inr ⟨N, by omega, hf⟩
        · rintro (h | ⟨j, hj, h⟩)
          · rw [hno N b x (by omega) hf] at h; cases h
          · have := hinj j N b ob x hj (by omega) h hf
            subst this; rw [hf] at h; cases h; rfl
      · rw [if_neg e, h2]
        constructor
        · rintro (h | ⟨j, hj, h⟩)
          · exact .inl h
          · exact .inr ⟨j, by omega, h⟩
        · rintro (h | ⟨j, hj, h⟩)
          · exact .inl h
          · refine .inr ⟨j, ?_, h⟩
            rcases Nat.lt_or_ge j N with h3 | h3
            · exact h3
            · have : j = N := by omega
              subst this; rw [hf] at h; cases h; exact absurd rfl e

/-- Like 'Post', but new names may be any from lo on. -/
structure Gone (lo : Nat) (h : H) (M : Mp) (w : World) (h' : H) (M' : Mp) (w' : World) : Prop where
  ext : M.le M'
  only : ∀ b, M b = none → M' b ≠ none → lo ≤ b ∧ b < h'.next
  img : ∀ b o β δ n, h'.t.get b = some o → M' b = some (β, δ, n) → β < w.heap.size → ∃ b0 o0 δ0 n0, h.t.get b0 = some o0 ∧ M b0 = some (β, δ0, n0)
  frame : ∀ β, β < w.heap.size → (∀ b o δ n, h.t.get b = some o → M b ≠ some (β, δ, n)) → w'.heap[β]? = w.heap[β]?
  size : w.heap.size ≤ w'.heap.size
  next : h.next ≤ h'.next
  os : w'.os = w.os
  tape : w'.tape = w.tape
  output : w'.output = w.output

theorem Gone.trans {lo : Nat} {h h1 h2 : H} {M M1 M2 : Mp} {w w1 w2 : World} (a : Gone lo h M w h1 M1 w1) (b : Gone lo h1 M1 w1 h2 M2 w2) : Gone lo h M w h2 M2 w2 where
  ext := Mp.le_trans a.ext b.ext
  only := by
    intro x hx hx2
    by_cases e : M1 x = none
    · exact b.only x e hx2
    · have := a.only x hx e
      have := b.next
      omega
  img := by
    intro x o β δ n hg hm hlt
    obtain ⟨b1, o1, δ1, n1, h3, h4⟩ := b.img x o β δ n hg hm (Nat.lt_of_lt_of_le hlt a.size)
    exact a.img b1 o1 β δ1 n1 h3 h4 hlt
  frame := by
    intro β hlt hno
    rw [b.frame β (Nat.lt_of_lt_of_le hlt a.size) fun x o δ n hg hm => by
      obtain ⟨b0, o0, δ0, n0, h3, h4⟩ := a.img x o β δ n hg hm hlt
      exact hno b0 o0 δ0 n0 h3 h4]
    exact a.frame β hlt hno
  size := Nat.le_trans a.size b.size
  next := Nat.le_trans a.next b.next
  os := b.os.trans a.os
  tape := b.tape.trans a.tape
  output := b.output.trans a.output

theorem Post.gone {lo : Nat} {h h' : H} {M M' : Mp} {w w' : World} (p : Post h M w h' M' w') (hl : lo ≤ h.next) : Gone lo h M w h' M' w' :=
  ⟨p.ext, fun b h1 h2 => let ⟨a, b⟩ := p.only b h1 h2; ⟨by omega, b⟩, p.img, p.frame, p.size, p.next, p.os, p.tape, p.output⟩

theorem Gone.post {h h1 h' : H} {M M' : Mp} {w w' : World} (p : Gone h.next h M w h1 M' w') (hi : Inv h1 M' w') (hs : Sub h' h1) (hn : h'.next = h1.next) : Post h M w h' M' w' :=
  ⟨p.ext, fun b h1 h2 => let ⟨a, b⟩ := p.only b h1 h2; ⟨a, by omega⟩, hi.sub hs (by omega), fun b o β δ n h1 => p.img b o β δ n (hs _ _ h1), p.frame, p.size, by have := p.next; omega, p.os, p.tape, p.output⟩

/-- A new block, under a name held back. -/
theorem Gone.make {lo : Nat} {h h' : H} {M : Mp} {w w' : World} {c n : Nat} {o : AObj} {obj : Obj} (hi : Inv h M w) (hM : M c = none)
    (hc : c < h'.next) (hge : lo ≤ c) (hn : h.next ≤ h'.next) (hget : ∀ j, h'.t.get j = if j = c then some o else h.t.get j)
    (hheap : w'.heap = w.heap.push obj) (hobj : ORel M o (some obj) 0 n)
    (ho : w'.os = w.os) (ht : w'.tape = w.tape) (hp : w'.output = w.output) :
    Gone lo h M w h' (fun b => if b = c then some (w.heap.size, 0, n) else M b) w' ∧ Inv h' (fun b => if b = c then some (w.heap.size, 0, n) else M b) w' := by
  have hle : M.le (fun b => if b = c then some (w.heap.size, 0, n) else M b) := by
    intro b x hx
    by_cases e : b = c
    · subst e; rw [hM] at hx; cases hx
    · simp [e, hx]
  refine ⟨⟨hle, ?_, ?_, ?_, ?_, hn, ho, ht, hp⟩, ?_⟩
  · intro b h1 h2
    by_cases e : b = c
    · subst e; exact ⟨hge, hc⟩
    · simp [e] at h2; exact absurd h1 h2
  · intro b' o' β' δ' n' h1 h2 h3
    rw [hget] at h1
    by_cases e : b' = c
    · simp only [e, if_true, Option.some.injEq, Prod.mk.injEq] at h2; omega
    · rw [if_neg e] at h1
      simp only [e, if_false] at h2
      exact ⟨b', o', δ', n', h1, h2⟩
  · intro β hlt _
    rw [hheap, Array.getElem?_push, if_neg (by omega)]
  · rw [hheap]; simp
  · refine ⟨fun b' o' h1 => ?_, fun b' o' h1 => ?_, fun b1 b2 o1 o2 β' δ1 n1 δ2 n2 h1 h2 h3 h4 => ?_⟩
    · rw [hget] at h1
      by_cases e : b' = c
      · rw [if_pos e] at h1
        have := Option.some.inj h1
        subst this
        exact ⟨w.heap.size, 0, n, by simp [e], by rw [hheap]; simpa using hobj.mono hle⟩
      · rw [if_neg e] at h1
        obtain ⟨β, δ, m, h3, h4⟩ := hi.obj b' o' h1
        obtain ⟨x, hx⟩ := h4.some
        have hlt := heap_lt hx
        exact ⟨β, δ, m, by simp [e, h3], by rw [hheap, Array.getElem?_push, if_neg (by omega)]; exact h4.mono hle⟩
    · rw [hget] at h1
      by_cases e : b' = c
      · omega
      · rw [if_neg e] at h1; have := hi.lt _ _ h1; omega
    · rw [hget] at h1 h2
      by_cases e1 : b1 = c <;> by_cases e2 : b2 = c
      · rw [e1, e2]
      · rw [if_neg e2] at h2
        simp only [e1, if_true, Option.some.injEq, Prod.mk.injEq] at h3
        simp only [e2, if_false] at h4
        have := (hi.bound h2 h4).1
        omega
      · rw [if_neg e1] at h1
        simp only [e2, if_true, Option.some.injEq, Prod.mk.injEq] at h4
        simp only [e1, if_false] at h3
        have := (hi.bound h1 h3).1
        omega
      · rw [if_neg e1] at h1
        rw [if_neg e2] at h2
        simp only [e1, if_false] at h3
        simp only [e2, if_false] at h4
        exact hi.inj _ _ _ _ _ _ _ _ _ h1 h2 h3 h4

end Go.Proofs.YtnjobinioalipaaGreatDoor.Ev

/- The evaluator's small parts, each told as what it comes to. -/
import Derived.Test.YtnjobinioalipaaGreatDoorEvRun
import Derived.Laws.Sem
namespace Go.Proofs.YtnjobinioalipaaGreatDoor.Ev
open Go

theorem natK_eq (n : Nat) (k : Nat → Bool) : natK n k = k n := by cases n <;> rfl

theorem intK_eq (n : Int) (k : Int → Bool) : intK n k = k n := by
  cases n <;> simp [intK, natK_eq]

theorem boolK_eq (b : Bool) (k : Bool → Bool) : boolK b k = k b := by cases b <;> rfl

theorem notK_eq (b : Bool) (k : Bool → Bool) : notK b k = k (!b) := by cases b <;> rfl

theorem catK_eq {α : Type} (xs ys : List α) (k : List α → Bool) : catK xs ys k = k (xs ++ ys) := by
  induction xs generalizing k with
  | nil => rfl
  | cons x xs ih => simp [catK, ih]

theorem takeK_iff {α : Type} (n : Nat) (xs : List α) (k : List α → Bool) : takeK n xs k = true ↔ n ≤ xs.length ∧ k (xs.take n) = true := by
  induction n generalizing xs k with
  | zero => simp [takeK]
  | succ n ih => cases xs with
    | nil => simp [takeK]
    | cons x xs => simp [takeK, ih]

theorem dropK_iff {α : Type} (n : Nat) (xs : List α) (k : List α → Bool) : dropK n xs k = true ↔ n ≤ xs.length ∧ k (xs.drop n) = true := by
  induction n generalizing xs k with
  | zero => simp [dropK]
  | succ n ih => cases xs with
    | nil => simp [dropK]
    | cons x xs => simp [dropK, ih]

theorem lenK_eq {α : Type} (xs : List α) (n : Nat) (k : Nat → Bool) : lenK xs n k = k (n + xs.length) := by
  induction xs generalizing n k with
  | nil => simp [lenK, natK_eq]
  | cons x xs ih => simp [lenK, natK_eq, ih]; congr 1; omega

theorem putK_iff {α : Type} (cs : List α) (off : Nat) (vs : List α) (k : List α → Bool) :
    putK cs off vs k = true → off + vs.length ≤ cs.length ∧ k (cs.take off ++ (vs ++ cs.drop (off + vs.length))) = true := by
  induction cs generalizing off vs k with
  | nil => cases off <;> cases vs <;> simp [putK]
  | cons c cs ih =>
    cases off with
    | zero => cases vs with
      | nil => simp [putK]
      | cons v vs =>
        intro h
        simp only [putK] at h
        have := ih 0 vs _ h
        simp at this
        simp only [List.length_cons, List.take_zero, List.nil_append, List.cons_append]
        exact ⟨by omega, by simpa [Nat.add_comm] using this.2⟩
    | succ off =>
      intro h
      simp only [putK] at h
      have := ih off vs _ h
      simp only [List.length_cons, List.take_succ_cons, List.cons_append]
      refine ⟨by omega, ?_⟩
      rw [show off + 1 + vs.length = (off + vs.length) + 1 from by omega, List.drop_succ_cons]
      exact this.2

theorem nthK_iff {α : Type} (xs : List α) (n : Nat) (k : α → Bool) : nthK xs n k = true ↔ ∃ x, xs[n]? = some x ∧ k x = true := by
  induction xs generalizing n with
  | nil => cases n <;> simp [nthK]
  | cons x xs ih => cases n with
    | zero => simp [nthK]
    | succ n => simp [nthK, ih]

theorem repK_eq {α : Type} (n : Nat) (z acc : List α) (k : List α → Bool) : repK n z acc k = k ((List.replicate n z).flatten ++ acc) := by
  induction n generalizing acc k with
  | zero => simp [repK]
  | succ n ih =>
    simp only [repK, catK_eq, ih]
    congr 1
    rw [List.replicate_succ', List.flatten_append]
    simp

theorem bytesK_eq (bs : List UInt8) (k : List Nat → Bool) : bytesK bs k = k (bs.map (·.toNat)) := by
  induction bs generalizing k with
  | nil => rfl
  | cons b bs ih => simp [bytesK, natK_eq, ih]

theorem T.setK_spec {α : Type} : ∀ (f : Nat) (t : T α) (i : Nat) (a : Option α) (k : T α → Bool), T.setK f t i a k = true →
    ∃ t', k t' = true ∧ ∀ j, t'.get j = if j = i then a else t.get j := by
  intro f
  induction f with
  | zero => intro t i a k h; cases t <;> simp [T.setK] at h
  | succ f ih =>
    intro t i a k h
    have half : ∀ j j' : Nat, j % 2 = j' % 2 → j / 2 = j' / 2 → j = j' := fun j j' _ _ => by omega
    cases t with
    | leaf =>
      cases i with
      | zero =>
        refine ⟨_, by simpa [T.setK] using h, fun j => ?_⟩
        cases j with
        | zero => simp [T.get]
        | succ j => simp only [T.get]; split <;> simp
      | succ i =>
        simp only [T.setK] at h
        split at h
        · rename_i hm
          obtain ⟨t', hk, ht'⟩ := ih _ _ _ _ h
          refine ⟨_, hk, fun j => ?_⟩
          cases j with
          | zero => simp [T.get]
          | succ j =>
            simp only [T.get]
            split
            · rename_i hm'
              have hm1 : i % 2 = 0 := hm
              have hm2 : j % 2 = 0 := hm'
              rw [ht']
              simp only [T.get, Nat.add_right_cancel_iff]
              by_cases e : j = i
              · subst e; simp
              · have : j.div 2 ≠ i.div 2 := fun e' => e (half _ _ (by omega) e')
                simp [e, this]
            · rename_i n hm'
              have hm1 : i % 2 = 0 := hm
              have hm2 : j % 2 = n + 1 := hm'
              have : j ≠ i := fun e => by subst e; omega
              simp [this]
        · rename_i n hm
          obtain ⟨t', hk, ht'⟩ := ih _ _ _ _ h
          refine ⟨_, hk, fun j => ?_⟩
          cases j with
          | zero => simp [T.get]
          | succ j =>
            simp only [T.get]
            split
            · rename_i hm'
              have hm1 : i % 2 = n + 1 := hm
              have hm2 : j % 2 = 0 := hm'
              have : j ≠ i := fun e => by subst e; omega
              simp [this]
            · rename_i n' hm'
              have hm1 : i % 2 = n + 1 := hm
              have hm2 : j % 2 = n' + 1 := hm'
              rw [ht']
              simp only [T.get, Nat.add_right_cancel_iff]
              by_cases e : j = i
              · subst e; simp
              · have : j.div 2 ≠ i.div 2 := fun e' => e (half _ _ (by omega) e')
                simp [e, this]
    | node v l r =>
      cases i with
      | zero =>
        refine ⟨_, by simpa [T.setK] using h, fun j => ?_⟩
        cases j with
        | zero => simp [T.get]
        | succ j => simp only [T.get]; split <;> simp
      | succ i =>
        simp only [T.setK] at h
        split at h
        · rename_i hm
          obtain ⟨t', hk, ht'⟩ := ih _ _ _ _ h
          refine ⟨_, hk, fun j => ?_⟩
          cases j with
          | zero => simp [T.get]
          | succ j =>
            simp only [T.get]
            split
            · rename_i hm'
              have hm1 : i % 2 = 0 := hm
              have hm2 : j % 2 = 0 := hm'
              rw [ht']
              simp only [Nat.add_right_cancel_iff]
              by_cases e : j = i
              · subst e; simp
              · have : j.div 2 ≠ i.div 2 := fun e' => e (half _ _ (by omega) e')
                simp [e, this]
            · rename_i n hm'
              have hm1 : i % 2 = 0 := hm
              have hm2 : j % 2 = n + 1 := hm'
              have : j ≠ i := fun e => by subst e; omega
              simp [this]
        · rename_i n hm
          obtain ⟨t', hk, ht'⟩ := ih _ _ _ _ h
          refine ⟨_, hk, fun j => ?_⟩
          cases j with
          | zero => simp [T.get]
          | succ j =>
            simp only [T.get]
            split
            · rename_i hm'
              have hm1 : i % 2 = n + 1 := hm
              have hm2 : j % 2 = 0 := hm'
              have : j ≠ i := fun e => by subst e; omega
              simp [this]
            · rename_i n' hm'
              have hm1 : i % 2 = n + 1 := hm
              have hm2 : j % 2 = n' + 1 := hm'
              rw [ht']
              simp only [Nat.add_right_cancel_iff]
              by_cases e : j = i
              · subst e; simp
              · have : j.div 2 ≠ i.div 2 := fun e' => e (half _ _ (by omega) e')
                simp [e, this]

theorem allOne_iff (vs : List AV) : allOne vs = true ↔ ∀ v ∈ vs, v.one = true := by
  induction vs with
  | nil => simp [allOne]
  | cons v vs ih =>
    simp only [allOne]
    split
    · rename_i h; simp [ih, h]
    · rename_i h; simp [h]

theorem setObjK_spec {h : H} {b : Nat} {o : Option AObj} {k : H → Bool} (hk : setObjK h b o k = true) :
    ∃ h', k h' = true ∧ h'.next = h.next ∧ ∀ j, h'.t.get j = if j = b then o else h.t.get j := by
  obtain ⟨ht, hn⟩ := h
  obtain ⟨t', h1, h2⟩ := T.setK_spec _ _ _ _ _ hk
  exact ⟨⟨t', hn⟩, h1, rfl, h2⟩

theorem newK_spec {h : H} {o : AObj} {k : Nat → H → Bool} (hk : newK h o k = true) :
    ∃ h', k h.next h' = true ∧ h'.next = h.next + 1 ∧ ∀ j, h'.t.get j = if j = h.next then some o else h.t.get j := by
  obtain ⟨ht, hn⟩ := h
  simp only [newK, natK_eq] at hk
  obtain ⟨t', h1, h2⟩ := T.setK_spec _ _ _ _ _ hk
  exact ⟨⟨t', hn + 1⟩, h1, rfl, h2⟩

theorem kindEq_iff (a b : IntKind) : kindEq a b = true ↔ a = b := by cases a <;> cases b <;> simp [kindEq]

theorem eqI_iff (a b : Int) : eqI a b = true ↔ a = b := by
  cases a <;> cases b <;> simp [eqI]
  exact Int.ofNat_inj.symm

theorem eqI_eq (a b : Int) : eqI a b = (a == b) := by
  rw [Bool.eq_iff_iff, eqI_iff]; simp

theorem ltI_eq (a b : Int) : ltI a b = decide (a < b) := by
  rw [Bool.eq_iff_iff]
  simp only [decide_eq_true_eq]
  cases a with
  | ofNat m => cases b with
    | ofNat n => simp [ltI, Nat.blt_eq]
    | negSucc n => simp [ltI]; omega
  | negSucc m => cases b with
    | ofNat n => simp [ltI]; omega
    | negSucc n => simp [ltI, Nat.blt_eq]; omega

theorem strEq_iff (a b : List Nat) : strEq a b = true ↔ a = b := by
  induction a generalizing b with
  | nil => cases b <;> simp [strEq]
  | cons x a ih => cases b with
    | nil => simp [strEq]
    | cons y b =>
      simp only [strEq]
      split
      · rename_i h; simp [ih, Nat.eq_of_beq_eq_true h]
      · rename_i h; simp [Nat.ne_of_beq_eq_false h]

theorem eqList_sound {α : Type} {eq : α → α → Bool} (he : ∀ a b, eq a b = true → a = b) : ∀ x y : List α, eqList eq x y = true → x = y := by
  intro x
  induction x with
  | nil => intro y; cases y <;> simp [eqList]
  | cons a x ih => intro y; cases y with
    | nil => simp [eqList]
    | cons b y =>
      simp only [eqList]
      split
      · rename_i h; intro h'; rw [he _ _ h, ih _ h']
      · simp

theorem eq0_sound (a b : AV) (h : eq0 a b = true) : a = b := by
  unfold eq0 at h
  split at h
  · rename_i x y; cases x <;> cases y <;> simp_all
  · split at h
    · rename_i hk; rw [(kindEq_iff _ _).1 hk, (eqI_iff _ _).1 h]
    · simp at h
  · rw [(strEq_iff _ _).1 h]
  · split at h
    · rename_i hb; rw [Nat.eq_of_beq_eq_true hb, Nat.eq_of_beq_eq_true h]
    · simp at h
  · rfl
  · split at h
    · rename_i h1 h2 h3; rw [Nat.eq_of_beq_eq_true h1, Nat.eq_of_beq_eq_true h2, Nat.eq_of_beq_eq_true h3, Nat.eq_of_beq_eq_true h]
    · simp at h
  · split at h
    · rename_i h1 h2 h3; rw [Nat.eq_of_beq_eq_true h1, Nat.eq_of_beq_eq_true h2, Nat.eq_of_beq_eq_true h3, Nat.eq_of_beq_eq_true h]
    · simp at h
  · rfl
  · rw [Nat.eq_of_beq_eq_true h]
  · rfl
  · rfl
  · rfl
  · simp at h

theorem eqAV_sound (a b : AV) (h : eqAV a b = true) : a = b := by
  unfold eqAV at h
  split at h
  · rw [eqList_sound eq0_sound _ _ h]
  · rw [eqList_sound eq0_sound _ _ h]
  · split at h
    · rename_i h1 h2; rw [Nat.eq_of_beq_eq_true h1, eqList_sound eq0_sound _ _ h2, eqList_sound eq0_sound _ _ h]
    · simp at h
  · exact eq0_sound _ _ h

theorem has_eq (m i : Nat) : has m i = m.testBit i := by
  unfold has Nat.testBit
  have e : Nat.land (Nat.shiftRight m i) 1 = (1 &&& (m >>> i)) := by
    show (m >>> i) &&& 1 = _
    rw [Nat.and_comm]
  rw [e]
  have : (1 &&& (m >>> i)) = 0 ∨ (1 &&& (m >>> i)) = 1 := by
    rw [Nat.and_comm, Nat.and_one_is_mod]; omega
  rcases this with h | h <;> rw [h] <;> rfl

end Go.Proofs.YtnjobinioalipaaGreatDoor.Ev

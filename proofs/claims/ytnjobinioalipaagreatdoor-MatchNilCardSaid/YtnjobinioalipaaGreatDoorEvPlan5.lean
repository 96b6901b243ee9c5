/- Every order of a region that leaves its order open comes to what its one run comes to. -/
import Derived.Test.YtnjobinioalipaaGreatDoorEvPlan4
namespace Go.Proofs.YtnjobinioalipaaGreatDoor.Ev
open Go

theorem allListed {ops : Array Oper} {listed : Array Bool} (hsize : listed.size = ops.size) (hlt : ∀ j o, ops[j]? = some o → ∀ e ∈ o.after.toList, Binds e → e.on < j)
    (hr : Region.ready .any ops listed = []) : ∀ j, j < ops.size → listed.getD j false = true := by
  intro j
  induction j using Nat.strongRecOn with
  | _ j ih =>
    intro hj
    cases h : listed.getD j false with
    | true => rfl
    | false =>
      exfalso
      have hmem : j ∈ Region.ready .any ops listed := by
        unfold Region.ready
        rw [List.mem_filter]
        refine ⟨List.mem_range.2 hj, ?_⟩
        have h1 : listed.getD j true = false := by
          rw [Array.getD_eq_getD_getElem?] at h ⊢
          rw [Array.getElem?_eq_getElem (by omega)] at h ⊢
          simpa using h
        have h2 : ops[j]? = some ops[j] := by simp [hj]
        rw [h1, h2]
        simp only [Bool.not_false, Bool.true_and, Option.map_some, Option.getD_some, Array.all_eq_true']
        intro e he
        cases hb : Region.binds .any e with
        | false => rfl
        | true =>
          have := hlt j _ h2 e (by simpa using he) hb
          simp [ih e.on this (by omega)]
      rw [hr] at hmem
      cases hmem

theorem count_set {l : List Bool} : ∀ {j : Nat}, l[j]? = some false → (l.set j true).countP (· == false) + 1 = l.countP (· == false) := by
  induction l with
  | nil => intro j h; simp at h
  | cons b l ih =>
    intro j h
    cases j with
    | zero => simp at h; subst h; simp
    | succ j =>
      have := ih (j := j) (by simpa using h)
      rw [List.set_cons_succ, List.countP_cons, List.countP_cons]
      omega

theorem wpAny_of {P : Program} {ops : Array Oper} {Q : Exit → Act → World → Prop} (J : (Nat → Bool) → Act → World → Prop)
    (step : ∀ S a w j o, J S a w → ops[j]? = some o → S j = false → (∀ e ∈ o.after.toList, Binds e → S e.on = true) → wpOp P ops Q j (J fun i => S i || decide (i = j)) a w)
    (fin : ∀ S a w, J S a w → (∀ j, j < ops.size → S j = true) → Q .normal a w)
    (hlt : ∀ j o, ops[j]? = some o → ∀ e ∈ o.after.toList, Binds e → e.on < j) :
    ∀ (fuel : Nat) (listed : Array Bool) (a : Act) (w : World), listed.size = ops.size → listed.toList.countP (· == false) ≤ fuel → J (fun i => listed.getD i false) a w →
      wpAny P .any ops Q fuel listed a w := by
  intro fuel
  induction fuel with
  | zero =>
    intro listed a w hsize hcount hJ
    have hall : ∀ j, j < ops.size → listed.getD j false = true := by
      intro j hj
      have : listed.toList.countP (· == false) = 0 := by omega
      rw [List.countP_eq_zero] at this
      have hm : listed[j]'(by omega) ∈ listed.toList := by simp
      have := this _ hm
      rw [Array.getD_eq_getD_getElem?, Array.getElem?_eq_getElem (by omega)]
      simpa using this
    refine ⟨?_, fin _ a w hJ hall⟩
    unfold Region.ready
    rw [List.filter_eq_nil_iff]
    intro j hj
    have hj : j < ops.size := List.mem_range.1 hj
    have h1 := hall j hj
    rw [Array.getD_eq_getD_getElem?, Array.getElem?_eq_getElem (by omega)] at h1
    rw [Array.getD_eq_getD_getElem?, Array.getElem?_eq_getElem (by omega)]
    simp only [Option.getD_some] at h1 ⊢
    simp [h1]
  | succ fuel ih =>
    intro listed a w hsize hcount hJ
    refine ⟨fun hr => fin _ a w hJ (allListed hsize hlt hr), fun j hj => ?_⟩
    unfold Region.ready at hj
    rw [List.mem_filter] at hj
    obtain ⟨h1, h2⟩ := hj
    have hjlt : j < ops.size := List.mem_range.1 h1
    have hjo : ops[j]? = some ops[j] := by simp [hjlt]
    rw [hjo] at h2
    simp only [Option.map_some, Option.getD_some, Bool.and_eq_true, Array.all_eq_true'] at h2
    obtain ⟨h2, h3⟩ := h2
    have hf : listed[j]? = some false := by
      rw [Array.getD_eq_getD_getElem?, Array.getElem?_eq_getElem (by omega)] at h2
      rw [Array.getElem?_eq_getElem (by omega)]
      simpa using h2
    have hS : listed.getD j false = false := by rw [Array.getD_eq_getD_getElem?, hf]; rfl
    refine wpOp_mono (fun a' w' h' => ih (listed.setIfInBounds j true) a' w' (by simpa using hsize) ?_ ?_) (step _ a w j _ hJ hjo hS fun e he hb => ?_)
    · have := count_set (l := listed.toList) (j := j) (by simpa using hf)
      rw [Array.toList_setIfInBounds]
      omega
    · have e : (fun i => (listed.setIfInBounds j true).getD i false) = fun i => listed.getD i false || decide (i = j) := by
        funext i
        rw [Array.getD_eq_getD_getElem?, Array.getD_eq_getD_getElem?, Array.getElem?_setIfInBounds]
        by_cases e : j = i
        · subst e; simp [show j < listed.size by omega]
        · rw [if_neg e]; simp [show ¬ i = j from fun h => e h.symm]
      rw [e]; exact h'
    · have := h3 e (by simpa using he)
      have hb' : Region.binds .any e = true := hb
      simpa [hb'] using this

structure Full (X : Pl) (G : Gh) : Prop where
  hn : X.hn ≤ X.lim
  fact : ∀ j, j < X.ops.size → Fact X G j
  inj : ∀ i j id x y, i < X.ops.size → j < X.ops.size → G.made i = some (id, x) → G.made j = some (id, y) → i = j

structure St (X : Pl) (G : Gh) (M0 : Mp) (w0 : World) (S : Nat → Bool) (m : Nat) (K : H) (M : Mp) (a : Act) (w : World) : Prop where
  closed : X.Closed S
  sub : ∀ j, S j = true → j < X.ops.size
  pos : ∀ (p jl : Nat) (ol : Oper), X.louds[p]? = some (jl, ol) → (S jl = true ↔ p < m)
  len : m ≤ X.louds.length
  size : a.tmps.size = X.n
  defers : a.defers = []
  regs : ∀ t, VRel M (X.env G S t) (a.tmps.getD t undef)
  inv : Inv K M w
  next : K.next = (G.mem m).next
  lim : X.lim ≤ K.next
  get : ∀ b ob, K.t.get b = some ob ↔ (G.mem m).t.get b = some ob ∨ ∃ j, S j = true ∧ m ≤ G.lvl j ∧ G.made j = some (b, ob)
  free : Free M K
  res : ∀ b, X.hn ≤ b → b < X.lim → (∀ j ob, S j = true → G.made j ≠ some (b, ob)) → M b = none
  none : ∀ j id ob, j < X.ops.size → m ≤ G.lvl j → G.made j = some (id, ob) → (G.mem m).t.get id = none
  gone : Gone X.hn X.h0 M0 w0 K M w

section
variable {X : Pl} {G : Gh} {M0 : Mp} {w0 : World} {S : Nat → Bool} {m : Nat} {K : H} {M : Mp} {a : Act} {w : World}

/-- What an operation that is ready looks at is as it was in the one run. -/
theorem St.look (hX : X.Ok) (h : St X G M0 w0 S m K M a w) {j mask : Nat} {r : Regs} {D : Nat → Bool} (hSj : S j = false) (hmS : Below mask S)
    (hD : X.Closed D) (hDj : D j = false) (hmD : Below mask D) (hr : ∀ t, (r.get t).getD (.tuple []) = X.env G D t) (t : Nat) (hl : LookOk X.masks X.ws j mask t) :
    VRel M ((r.get t).getD (.tuple [])) (a.tmps.getD t undef) := by
  rw [hr, ← hX.same h.closed hD hSj hDj hmS hmD hl]
  exact h.regs t

theorem St.putRegs (hX : X.Ok) (h : St X G M0 w0 S m K M a w) {M' : Mp} (hm : M.le M') {j : Nat} {o : Oper} (ho : X.ops[j]? = some o) (hSj : S j = false)
    (hd : ∀ t, o.dst = some t → t < X.n) {rv : Value} (hv : VRel M' (G.val j) rv) :
    (a.put o.dst rv).tmps.size = X.n ∧ (a.put o.dst rv).defers = [] ∧ ∀ t, VRel M' (X.env G (fun i => S i || decide (i = j)) t) ((a.put o.dst rv).tmps.getD t undef) := by
  refine ⟨by rw [put_size]; exact h.size, by rw [Go.Proofs.YtnjobinioalipaaGreatDoor.Ev.put_defers]; exact h.defers, fun t => ?_⟩
  rw [hX.put (S' := fun i => S i || decide (i = j)) ho (by simp) hSj, put_get a o.dst rv t fun j hj => by rw [h.size]; exact hd j hj]
  by_cases e : o.dst = some t
  · simp only [e, if_true]; exact hv
  · simp only [e, if_false]; exact (h.regs t).mono hm

theorem St.putClosed (h : St X G M0 w0 S m K M a w) {j mask : Nat} (hmask : X.masks.get j = some mask) (hmS : Below mask S) : X.Closed fun i => S i || decide (i = j) := by
  intro i mi hi hmi b hb
  simp only [Bool.or_eq_true, decide_eq_true_eq] at hi ⊢
  rcases hi with hi | rfl
  · exact .inl (h.closed i mi hi hmi b hb)
  · rw [hmask] at hmi; cases hmi; exact .inl (hmS b hb)

theorem St.putSub (h : St X G M0 w0 S m K M a w) {j : Nat} {o : Oper} (ho : X.ops[j]? = some o) : ∀ i, (S i || decide (i = j)) = true → i < X.ops.size := by
  intro i hi
  simp only [Bool.or_eq_true, decide_eq_true_eq] at hi
  rcases hi with hi | rfl
  · exact h.sub i hi
  · exact (Array.getElem?_eq_some_iff.1 ho).1

/-- How many loud ones are done when one is ready that is not loud. -/
theorem St.levels (h : St X G M0 w0 S m K M a w) {j p mask : Nat} (hSj : S j = false) (hmS : Below mask S) (hlen : ∀ p, X.louds[p]? = .none → m ≤ p) (hp : X.Phase j p) :
    (X.louds.countP fun x => mask.testBit x.1) ≤ m ∧ m ≤ p := by
  constructor
  · have h1 : X.louds.countP (fun x => mask.testBit x.1) = (X.louds.take m).countP (fun x => mask.testBit x.1) + (X.louds.drop m).countP (fun x => mask.testBit x.1) := by
      rw [← List.countP_append, List.take_append_drop]
    have h2 : (X.louds.drop m).countP (fun x => mask.testBit x.1) = 0 := by
      rw [List.countP_eq_zero]
      intro x hx hm
      obtain ⟨i, hi⟩ := List.getElem?_of_mem hx
      rw [List.getElem?_drop] at hi
      obtain ⟨jl, ol⟩ := x
      have := (h.pos (m + i) jl ol hi).1 (hmS jl hm)
      omega
    have h3 : (X.louds.take m).countP (fun x => mask.testBit x.1) ≤ m := Nat.le_trans List.countP_le_length (by simp; omega)
    omega
  · cases hl : X.louds[p]? with
    | none => exact hlen p hl
    | some x =>
      obtain ⟨jl, ol⟩ := x
      obtain ⟨ml, h1, h2⟩ := hp jl ol hl
      rcases Nat.lt_or_ge p m with h3 | h3
      · have := h.closed jl ml ((h.pos p jl ol hl).2 h3) h1 j h2
        rw [hSj] at this; cases this
      · exact h3

theorem St.part (h : St X G M0 w0 S m K M a w) {mask : Nat} (hmS : Below mask S) {B : H} (hB : Part G mask m B) : Sub B K ∧ B.next = K.next := by
  refine ⟨fun b ob hb => ?_, by rw [hB.1, h.next]⟩
  rw [h.get]
  rcases hB.2 b ob hb with h1 | ⟨j, h1, h2, h3⟩
  · exact .inl h1
  · exact .inr ⟨j, hmS j h1, h2, h3⟩

/-- Nothing is turned. -/
theorem St.still (hX : X.Ok) (h : St X G M0 w0 S m K M a w) {j mask : Nat} {o : Oper} (ho : X.ops[j]? = some o) (hSj : S j = false) (hmask : X.masks.get j = some mask) (hmS : Below mask S)
    (hd : ∀ t, o.dst = some t → t < X.n) (hnl : ∀ (p : Nat) (ol : Oper), X.louds[p]? ≠ some (j, ol)) (hmd : G.made j = .none) {rv : Value} (hv : VRel M (G.val j) rv) :
    St X G M0 w0 (fun i => S i || decide (i = j)) m K M (a.put o.dst rv) w := by
  obtain ⟨h1, h2, h3⟩ := h.putRegs hX M.le_refl ho hSj hd hv
  refine ⟨h.putClosed hmask hmS, h.putSub ho, fun p jl ol hp => ?_, h.len, h1, h2, h3, h.inv, h.next, h.lim, fun b ob => ?_, h.free, fun b hb1 hb2 hb3 => ?_, h.none, h.gone⟩
  · rw [← h.pos p jl ol hp]
    simp only [Bool.or_eq_true, decide_eq_true_eq, or_iff_left_iff_imp]
    rintro rfl
    exact absurd hp (hnl p ol)
  · rw [h.get]
    refine or_congr Iff.rfl ⟨fun ⟨i, g1, g2⟩ => ⟨i, by simp [g1], g2⟩, fun ⟨i, g1, g2, g3⟩ => ⟨i, ?_, g2, g3⟩⟩
    simp only [Bool.or_eq_true, decide_eq_true_eq] at g1
    rcases g1 with g1 | rfl
    · exact g1
    · rw [hmd] at g3; cases g3
  · exact h.res b hb1 hb2 fun i ob hi => hb3 i ob (by simp [hi])

/-- A block is made. -/
theorem St.make (hX : X.Ok) (hF : Full X G) (h : St X G M0 w0 S m K M a w) {j mask : Nat} {o : Oper} (ho : X.ops[j]? = some o) (hSj : S j = false) (hmask : X.masks.get j = some mask) (hmS : Below mask S)
    (hd : ∀ t, o.dst = some t → t < X.n) (hnl : ∀ (p : Nat) (ol : Oper), X.louds[p]? ≠ some (j, ol)) {id : Nat} {ob : AObj} (hmd : G.made j = some (id, ob)) (hlv : m ≤ G.lvl j)
    (hid : X.hn ≤ id) (hid' : id < X.lim) {obj : Obj} {n : Nat} (hob : ORel M ob (some obj) 0 n) {rv : Value}
    (hv : ∀ M' : Mp, M' id = some (w.heap.size, 0, n) → VRel M' (G.val j) rv) :
    ∃ K' M', St X G M0 w0 (fun i => S i || decide (i = j)) m K' M' (a.put o.dst rv) { w with heap := w.heap.push obj } := by
  have hjN := (Array.getElem?_eq_some_iff.1 ho).1
  have hnone : M id = .none := h.res id hid hid' fun i x hi hx => by
    have := hF.inj i j id x ob (h.sub i hi) hjN hx hmd
    subst this; rw [hSj] at hi; cases hi
  obtain ⟨t', ht⟩ := T.ex_set (some ob) id K.t
  have hlim := h.lim
  obtain ⟨hg, hi⟩ := Gone.make (lo := X.hn) (h' := ⟨t', K.next⟩) (w := w) (w' := { w with heap := w.heap.push obj }) h.inv hnone (show id < K.next by omega) hid (Nat.le_refl _) ht rfl hob rfl rfl rfl
  refine ⟨⟨t', K.next⟩, fun b => if b = id then some (w.heap.size, 0, n) else M b, ?_⟩
  obtain ⟨h1, h2, h3⟩ := h.putRegs hX hg.ext ho hSj hd (hv _ (by simp))
  refine ⟨h.putClosed hmask hmS, h.putSub ho, fun p jl ol hp => ?_, h.len, h1, h2, h3, hi, h.next, h.lim, fun b x => ?_, fun b hb => ?_, fun b hb1 hb2 hb3 => ?_, h.none, h.gone.trans hg⟩
  · rw [← h.pos p jl ol hp]
    simp only [Bool.or_eq_true, decide_eq_true_eq, or_iff_left_iff_imp]
    rintro rfl
    exact absurd hp (hnl p ol)
  · show t'.get b = some x ↔ _
    rw [ht]
    by_cases e : b = id
    · subst e
      rw [if_pos rfl]
      constructor
      · intro e; cases e; exact .inr ⟨j, by simp, hlv, hmd⟩
      · rintro (h4 | ⟨i, h4, h5, h6⟩)
        · rw [h.none j b ob hjN hlv hmd] at h4; cases h4
        · have := hF.inj i j b x ob (h.putSub ho i h4) hjN h6 hmd
          subst this; rw [hmd] at h6; cases h6; rfl
    · rw [if_neg e, h.get]
      refine or_congr Iff.rfl ⟨fun ⟨i, g1, g2⟩ => ⟨i, by simp [g1], g2⟩, fun ⟨i, g1, g2, g3⟩ => ⟨i, ?_, g2, g3⟩⟩
      simp only [Bool.or_eq_true, decide_eq_true_eq] at g1
      rcases g1 with g1 | rfl
      · exact g1
      · rw [hmd] at g3; cases g3; exact absurd rfl e
  · have hb : K.next ≤ b := hb
    have e : b ≠ id := by omega
    simp only [e, if_false]
    exact h.free b hb
  · have e : b ≠ id := fun e => hb3 j ob (by simp) (e ▸ hmd)
    simp only [e, if_false]
    exact h.res b hb1 hb2 fun i ob hi => hb3 i ob (by simp [hi])

/-- A loud one is done. -/
theorem St.loud (hX : X.Ok) (hF : Full X G) (h : St X G M0 w0 S m K M a w) {j mask : Nat} {o : Oper} (ho : X.ops[j]? = some o) (hSj : S j = false) (hmask : X.masks.get j = some mask) (hmS : Below mask S)
    (hd : ∀ t, o.dst = some t → t < X.n) (hpos : X.louds[m]? = some (j, o)) (hmd : G.made j = .none) (hlv : ∀ i, mask.testBit i = true → G.lvl i ≤ m) {B : H} (hB : Part G mask m B)
    {rv : Value} {M' : Mp} {w' : World} (hv : VRel M' (G.val j) rv) (hp : Post B M w (G.mem (m + 1)) M' w') :
    ∃ K', St X G M0 w0 (fun i => S i || decide (i = j)) (m + 1) K' M' (a.put o.dst rv) w' := by
  obtain ⟨hsub, hnext⟩ := h.part hmS hB
  have hlim := h.lim
  -- what was made later than this is not in what it saw
  have notB : ∀ i id ob, i < X.ops.size → m + 1 ≤ G.lvl i → G.made i = some (id, ob) → B.t.get id = .none := by
    intro i id ob hi hl hm
    cases e : B.t.get id with
    | none => rfl
    | some x =>
      rcases hB.2 id x e with h1 | ⟨i', h1, h2, h3⟩
      · rw [h.none i id ob hi (by omega) hm] at h1; cases h1
      · have := hF.inj i' i id x ob (h.sub i' (hmS i' h1)) hi h3 hm
        subst this
        have := hlv i' h1
        omega
  have idlt : ∀ i id ob, i < X.ops.size → G.made i = some (id, ob) → X.hn ≤ id ∧ id < X.lim := by
    intro i id ob hi hm
    obtain ⟨o, mask, r, D, _, _, _, _, _, _, _, hsem⟩ := hF.fact i hi
    cases hsem with
    | off _ _ _ _ h1 => rw [hm] at h1; cases h1
    | quiet _ _ _ h1 => rw [hm] at h1; cases h1
    | make _ _ _ id' ob' vf h1 _ _ h2 h3 => rw [hm] at h1; cases h1; exact ⟨h2, h3⟩
    | loud _ _ _ h1 => rw [hm] at h1; cases h1
  -- nor in what comes of it
  have notA : ∀ i id ob, i < X.ops.size → m + 1 ≤ G.lvl i → G.made i = some (id, ob) → (G.mem (m + 1)).t.get id = .none := by
    intro i id ob hi hl hm
    cases e : (G.mem (m + 1)).t.get id with
    | none => rfl
    | some x =>
      exfalso
      obtain ⟨β, δ, n, h1, _⟩ := hp.inv.obj id x e
      obtain ⟨h2, h3⟩ := idlt i id ob hi hm
      by_cases hS : S i = true
      · have hK : K.t.get id = some ob := (h.get id ob).2 (.inr ⟨i, hS, by omega, hm⟩)
        obtain ⟨β', δ', n', h4, _⟩ := h.inv.obj id ob hK
        have h5 := hp.ext _ _ h4
        rw [h1] at h5
        simp only [Option.some.injEq, Prod.mk.injEq] at h5
        obtain ⟨rfl, rfl, rfl⟩ := h5
        obtain ⟨b0, o0, δ0, n0, h6, h7⟩ := hp.img id x _ _ _ e h1 (h.inv.bound hK h4).1
        have := h.inv.inj _ _ _ _ _ _ _ _ _ hK (hsub _ _ h6) h4 h7
        subst this
        rw [notB i id ob hi hl hm] at h6; cases h6
      · have hn : M id = .none := h.res id h2 h3 fun i' y hi' hy => by
          have := hF.inj i' i id y ob (h.sub i' hi') hi hy hm
          subst this; exact hS hi'
        have := hp.only id hn (by rw [h1]; simp)
        omega
  obtain ⟨K', hK1, hK2⟩ := ex_over (G.mem (m + 1)) X.ops.size (fun i => if S i = true ∧ m + 1 ≤ G.lvl i then G.made i else .none)
    (fun i i' id x y hi hi' hx hy => by
      split at hx
      · split at hy
        · exact hF.inj i i' id x y hi hi' hx hy
        · cases hy
      · cases hx)
    (fun i id x hi hx => by
      split at hx
      · rename_i h1; exact notA i id x hi h1.2 hx
      · cases hx)
  have hK2 : ∀ b ob, K'.t.get b = some ob ↔ (G.mem (m + 1)).t.get b = some ob ∨ ∃ i, S i = true ∧ m + 1 ≤ G.lvl i ∧ G.made i = some (b, ob) := by
    intro b ob
    rw [hK2]
    refine or_congr Iff.rfl ⟨fun ⟨i, h1, h2⟩ => ?_, fun ⟨i, h1, h2, h3⟩ => ⟨i, h.sub i h1, by simp only [h1, h2, and_self, if_true]; exact h3⟩⟩
    split at h2
    · rename_i h3; exact ⟨i, h3.1, h3.2, h2⟩
    · cases h2
  have hpost : Post K M w K' M' w' := Post.aside h.inv hsub hp hnext.symm hK1 fun b ob hb => by
    rcases (hK2 b ob).1 hb with h1 | ⟨i, h1, h2, h3⟩
    · exact .inl h1
    · exact .inr ⟨(h.get b ob).2 (.inr ⟨i, h1, by omega, h3⟩), notB i b ob (h.sub i h1) h2 h3⟩
  obtain ⟨h1, h2, h3⟩ := h.putRegs hX hpost.ext ho hSj hd hv
  refine ⟨K', h.putClosed hmask hmS, h.putSub ho, fun p jl ol hp => ?_, ?_, h1, h2, h3, hpost.inv, hK1, Nat.le_trans h.lim hpost.next, fun b ob => ?_, h.free.post hpost, fun b hb1 hb2 hb3 => ?_, notA, ?_⟩
  · simp only [Bool.or_eq_true, decide_eq_true_eq]
    constructor
    · rintro (h4 | rfl)
      · have := (h.pos p jl ol hp).1 h4; omega
      · have := hX.louds.inj hp hpos; omega
    · intro h4
      by_cases e : p = m
      · rw [e, hpos] at hp; cases hp; exact .inr rfl
      · exact .inl ((h.pos p jl ol hp).2 (by omega))
  · exact (List.getElem?_eq_some_iff.1 hpos).1
  · rw [hK2]
    refine or_congr Iff.rfl ⟨fun ⟨i, g1, g2⟩ => ⟨i, by simp [g1], g2⟩, fun ⟨i, g1, g2, g3⟩ => ⟨i, ?_, g2, g3⟩⟩
    simp only [Bool.or_eq_true, decide_eq_true_eq] at g1
    rcases g1 with g1 | rfl
    · exact g1
    · rw [hmd] at g3; cases g3
  · have hn : M b = .none := h.res b hb1 hb2 fun i ob hi => hb3 i ob (by simp [hi])
    cases e : M' b with
    | none => rfl
    | some x =>
      have := hp.only b hn (by rw [e]; simp)
      omega
  · exact h.gone.trans (hpost.gone (Nat.le_trans hF.hn h.lim))

end
end Go.Proofs.YtnjobinioalipaaGreatDoor.Ev

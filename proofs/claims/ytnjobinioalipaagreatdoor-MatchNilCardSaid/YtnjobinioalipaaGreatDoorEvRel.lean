/- How abstract memory stands to a world: each name's block, where in it, how great that is. -/
import Derived.Test.YtnjobinioalipaaGreatDoorEvPrim
namespace Go.Proofs.YtnjobinioalipaaGreatDoor.Ev
open Go

/-- A name's block, the place in it where the abstract cells begin, and how many cells it has. -/
abbrev Mp := Nat → Option (Nat × Nat × Nat)

mutual
inductive VRel (M : Mp) : AV → Value → Prop where
  | bool (b : Bool) : VRel M (.bool b) (.bool b)
  | int (k : IntKind) (n : Int) : VRel M (.int k n) (.int k n)
  | str {l : List Nat} {s : ByteArray} (h : s.data.toList.map (·.toNat) = l) : VRel M (.str l) (.string s)
  | ptr {b off β δ n : Nat} (h : M b = some (β, δ, n)) : VRel M (.ptr b off) (.pointer (some ⟨β, δ + off, none⟩))
  | nilptr : VRel M .nilptr (.pointer none)
  | slice {b off len cap β δ n : Nat} (h : M b = some (β, δ, n)) : VRel M (.slice b off len cap) (.slice (some ⟨β, δ + off, none⟩) len cap)
  | sliceU {b off len z β δ n cap : Nat} (h : M b = some (β, δ, n)) (hc : len ≤ cap) (hr : δ + off + cap * z ≤ n) :
      VRel M (.sliceU b off len z) (.slice (some ⟨β, δ + off, none⟩) len cap)
  | nilslice : VRel M .nilslice (.slice none 0 0)
  | map {b β δ n : Nat} (h : M b = some (β, δ, n)) : VRel M (.map b) (.map (some β))
  | nilmap : VRel M .nilmap (.map none)
  | func {f : FuncId} {a c : List AV} {ra rc : Array Value} (ha : VRels M a ra.toList) (hc : VRels M c rc.toList) :
      VRel M (.func f a c) (.func (.func f) ra rc)
  | nilFunc : VRel M .nilFunc .nilFunc
  | iface {t : TypeId} {v : AV} {rv : Value} (h : VRel M v rv) : VRel M (.iface t v) (.iface t rv)
  | nilIface : VRel M .nilIface .nilIface
  | agg {cs : List AV} {rcs : Array Value} (h : VRels M cs rcs.toList) : VRel M (.agg cs) (.agg rcs)
  | tuple {cs : List AV} {rcs : Array Value} (h : VRels M cs rcs.toList) : VRel M (.tuple cs) (.tuple rcs)
inductive VRels (M : Mp) : List AV → List Value → Prop where
  | nil : VRels M [] []
  | cons {v : AV} {rv : Value} {vs : List AV} {rvs : List Value} (h : VRel M v rv) (hs : VRels M vs rvs) : VRels M (v :: vs) (rv :: rvs)
end

def Mp.le (M M' : Mp) : Prop := ∀ b x, M b = some x → M' b = some x

theorem Mp.le_refl (M : Mp) : M.le M := fun _ _ h => h
theorem Mp.le_trans {M M' M'' : Mp} (h : M.le M') (h' : M'.le M'') : M.le M'' := fun b x e => h' b x (h b x e)

theorem VRel.mono {M M' : Mp} (hm : M.le M') {v : AV} {rv : Value} (h : VRel M v rv) : VRel M' v rv :=
  VRel.rec (motive_1 := fun v rv _ => VRel M' v rv) (motive_2 := fun vs rvs _ => VRels M' vs rvs)
    (bool := fun b => .bool b) (int := fun k n => .int k n) (str := fun h => .str h) (ptr := fun h => .ptr (hm _ _ h)) (nilptr := .nilptr)
    (slice := fun h => .slice (hm _ _ h)) (sliceU := fun h hc hr => .sliceU (hm _ _ h) hc hr) (nilslice := .nilslice) (map := fun h => .map (hm _ _ h))
    (nilmap := .nilmap) (func := fun _ _ ha hc => .func ha hc) (nilFunc := .nilFunc) (iface := fun _ h => .iface h) (nilIface := .nilIface)
    (agg := fun _ h => .agg h) (tuple := fun _ h => .tuple h) (nil := .nil) (cons := fun _ _ h hs => .cons h hs) h

theorem VRels.mono {M M' : Mp} (hm : M.le M') {vs : List AV} {rvs : List Value} (h : VRels M vs rvs) : VRels M' vs rvs := by
  induction vs generalizing rvs with
  | nil => cases h; exact .nil
  | cons v vs ih => cases h with | cons h hs => exact .cons (h.mono hm) (ih hs)

theorem VRels.length {M : Mp} {vs : List AV} {rvs : List Value} (h : VRels M vs rvs) : vs.length = rvs.length := by
  induction vs generalizing rvs with
  | nil => cases h; rfl
  | cons v vs ih => cases h with | cons h hs => simp [ih hs]

theorem VRels.get {M : Mp} {vs : List AV} {rvs : List Value} (h : VRels M vs rvs) {i : Nat} {v : AV} (hi : vs[i]? = some v) :
    ∃ rv, rvs[i]? = some rv ∧ VRel M v rv := by
  induction vs generalizing rvs i with
  | nil => simp at hi
  | cons a vs ih => cases h with
    | cons h hs => cases i with
      | zero => simp at hi; subst hi; exact ⟨_, by simp, h⟩
      | succ i => simp at hi; obtain ⟨rv, h1, h2⟩ := ih hs hi; exact ⟨rv, by simpa using h1, h2⟩

theorem VRels.of_get {M : Mp} : ∀ {vs : List AV} {rvs : List Value}, vs.length = rvs.length →
    (∀ (i : Nat) (v : AV), vs[i]? = some v → ∃ rv, rvs[i]? = some rv ∧ VRel M v rv) → VRels M vs rvs := by
  intro vs
  induction vs with
  | nil => intro rvs hl _; cases rvs with
    | nil => exact .nil
    | cons _ _ => simp at hl
  | cons v vs ih => intro rvs hl hg; cases rvs with
    | nil => simp at hl
    | cons rv rvs =>
      obtain ⟨rv', h1, h2⟩ := hg 0 v (by simp)
      simp at h1; subst h1
      exact .cons h2 (ih (by simpa using hl) fun i v hi => by simpa using hg (i + 1) v (by simpa using hi))

theorem VRels.append {M : Mp} {a : List AV} {ra : List Value} {b : List AV} {rb : List Value} (h : VRels M a ra) (h' : VRels M b rb) : VRels M (a ++ b) (ra ++ rb) := by
  induction a generalizing ra with
  | nil => cases h; exact h'
  | cons v a ih => cases h with | cons h hs => exact .cons h (ih hs)

theorem VRels.take {M : Mp} {a : List AV} {ra : List Value} (h : VRels M a ra) (n : Nat) : VRels M (a.take n) (ra.take n) := by
  induction a generalizing ra n with
  | nil => cases h; simpa using .nil
  | cons v a ih => cases h with | cons h hs => cases n with
    | zero => exact .nil
    | succ n => exact .cons h (ih hs n)

theorem VRels.drop {M : Mp} {a : List AV} {ra : List Value} (h : VRels M a ra) (n : Nat) : VRels M (a.drop n) (ra.drop n) := by
  induction a generalizing ra n with
  | nil => cases h; simpa using .nil
  | cons v a ih => cases h with | cons h hs => cases n with
    | zero => exact .cons h hs
    | succ n => exact ih hs n

theorem VRels.replicate {M : Mp} {z : List AV} {rz : List Value} (h : VRels M z rz) (n : Nat) : VRels M (List.replicate n z).flatten (List.replicate n rz).flatten := by
  induction n with
  | zero => exact .nil
  | succ n ih => simpa [List.replicate_succ] using h.append ih

/-- The cells of a value. -/
theorem VRel.cells {M : Mp} {v : AV} {rv : Value} (h : VRel M v rv) : VRels M v.cells rv.cells.toList := by
  cases h <;> first
    | (simp only [AV.cells, Value.cells]; exact .cons (by constructor <;> assumption) .nil)
    | (simp only [AV.cells, Value.cells]; assumption)


theorem VRel.one {M : Mp} {v : AV} {rv : Value} (h : VRel M v rv) : v.one = rv.oneCell' := by
  cases h <;> rfl

theorem VRels.one {M : Mp} {vs : List AV} {rvs : List Value} (h : VRels M vs rvs) (h1 : allOne vs = true) : ∀ rv ∈ rvs, rv.oneCell' = true := by
  induction vs generalizing rvs with
  | nil => cases h; simp
  | cons v vs ih => cases h with | cons h hs =>
    rw [allOne_iff] at h1
    intro rv hrv
    rcases List.mem_cons.1 hrv with e | e
    · rw [e, ← h.one]; exact h1 v (by simp)
    · exact ih hs ((allOne_iff _).2 fun v hv => h1 v (by simp [hv])) rv e

/-- What the abstract cells say of a row of cells. -/
def CellsOk (M : Mp) (cs : List AV) (c : Array Value) (δ : Nat) : Prop := ∀ i v, cs[i]? = some v → ∃ rv, c[δ + i]? = some rv ∧ VRel M v rv

/-- Only what is said to be so may be frozen. -/
def FrozenOk (lo hi : Nat) (mk : Bool) (fr : Nat × Nat) (δ n : Nat) : Prop :=
  fr.1 = fr.2 ∨ (lo < hi ∧ δ + lo ≤ fr.1 ∧ fr.2 ≤ δ + hi) ∨ (mk = true ∧ n ≤ fr.1)

inductive ERel (M : Mp) : List (AV × AV) → List MapEntry → Prop where
  | nil : ERel M [] []
  | cons {k v : AV} {e : MapEntry} {es : List (AV × AV)} {res : List MapEntry} (hk : VRel M k e.key) (hv : VRel M v e.val) (hs : ERel M es res) :
      ERel M ((k, v) :: es) (e :: res)

def ORel (M : Mp) (o : AObj) (obj : Option Obj) (δ n : Nat) : Prop :=
  match o with
  | .cells cs e lo hi mk sh => ∃ c fr, obj = some (.cells c e fr) ∧ c.size = n ∧ δ + cs.length ≤ n ∧ CellsOk M cs c δ ∧ FrozenOk lo hi mk fr δ n ∧ (sh = false → δ = 0)
  | .map es => ∃ res clock, obj = some (.map res clock) ∧ ERel M es res.toList

theorem ERel.mono {M M' : Mp} (hm : M.le M') {es : List (AV × AV)} {res : List MapEntry} (h : ERel M es res) : ERel M' es res := by
  induction h with
  | nil => exact .nil
  | cons hk hv _ ih => exact .cons (hk.mono hm) (hv.mono hm) ih

theorem ORel.mono {M M' : Mp} (hm : M.le M') {o : AObj} {obj : Option Obj} {δ n : Nat} (h : ORel M o obj δ n) : ORel M' o obj δ n := by
  cases o with
  | cells cs e lo hi mk sh =>
    obtain ⟨c, fr, h1, h2, h3, h4, h5⟩ := h
    exact ⟨c, fr, h1, h2, h3, fun i v hi => let ⟨rv, a, b⟩ := h4 i v hi; ⟨rv, a, b.mono hm⟩, h5⟩
  | map es =>
    obtain ⟨res, clock, h1, h2⟩ := h
    exact ⟨res, clock, h1, h2.mono hm⟩

theorem ORel.some {M : Mp} {o : AObj} {obj : Option Obj} {δ n : Nat} (h : ORel M o obj δ n) : ∃ x, obj = Option.some x := by
  cases o with
  | cells cs e lo hi mk sh => obtain ⟨c, fr, h1, _⟩ := h; exact ⟨_, h1⟩
  | map es => obtain ⟨res, clock, h1, _⟩ := h; exact ⟨_, h1⟩

structure Inv (h : H) (M : Mp) (w : World) : Prop where
  obj : ∀ b o, h.t.get b = some o → ∃ β δ n, M b = some (β, δ, n) ∧ ORel M o w.heap[β]? δ n
  lt : ∀ b o, h.t.get b = some o → b < h.next
  inj : ∀ b b' o o' β δ n δ' n', h.t.get b = some o → h.t.get b' = some o' → M b = some (β, δ, n) → M b' = some (β, δ', n') → b = b'

theorem heap_lt {w : World} {β : Nat} {x : Obj} (h : w.heap[β]? = some x) : β < w.heap.size := by
  rcases Nat.lt_or_ge β w.heap.size with h' | h'
  · exact h'
  · rw [Array.getElem?_eq_none h'] at h; simp at h

theorem Inv.bound {h : H} {M : Mp} {w : World} (hi : Inv h M w) {b : Nat} {o : AObj} {β δ n : Nat} (hg : h.t.get b = some o) (hm : M b = some (β, δ, n)) :
    β < w.heap.size ∧ ORel M o w.heap[β]? δ n := by
  obtain ⟨β', δ', n', h1, h2⟩ := hi.obj b o hg
  rw [hm] at h1
  simp only [Option.some.injEq, Prod.mk.injEq] at h1
  obtain ⟨rfl, rfl, rfl⟩ := h1
  obtain ⟨x, hx⟩ := h2.some
  exact ⟨heap_lt hx, h2⟩

/-- What a piece of code comes to. -/
structure Post (h : H) (M : Mp) (w : World) (h' : H) (M' : Mp) (w' : World) : Prop where
  ext : M.le M'
  only : ∀ b, M b = none → M' b ≠ none → h.next ≤ b ∧ b < h'.next
  inv : Inv h' M' w'
  img : ∀ b o β δ n, h'.t.get b = some o → M' b = some (β, δ, n) → β < w.heap.size → ∃ b0 o0 δ0 n0, h.t.get b0 = some o0 ∧ M b0 = some (β, δ0, n0)
  frame : ∀ β, β < w.heap.size → (∀ b o δ n, h.t.get b = some o → M b ≠ some (β, δ, n)) → w'.heap[β]? = w.heap[β]?
  size : w.heap.size ≤ w'.heap.size
  next : h.next ≤ h'.next
  os : w'.os = w.os
  tape : w'.tape = w.tape
  output : w'.output = w.output

/-- The names that code will give are free. -/
def Fresh (M : Mp) (h h' : H) : Prop := ∀ b, h.next ≤ b → b < h'.next → M b = none

theorem Post.refl {h : H} {M : Mp} {w : World} (hi : Inv h M w) : Post h M w h M w :=
  ⟨M.le_refl, fun _ h1 h2 => absurd h1 h2, hi, fun b o _ δ n h1 h2 _ => ⟨b, o, δ, n, h1, h2⟩, fun _ _ _ => rfl, Nat.le_refl _, Nat.le_refl _, rfl, rfl, rfl⟩

/-- A world that differs in what nobody looks at. -/
theorem Post.same {h : H} {M : Mp} {w w' : World} (hi : Inv h M w) (hh : w'.heap = w.heap) (ho : w'.os = w.os) (ht : w'.tape = w.tape) (hp : w'.output = w.output) : Post h M w h M w' :=
  ⟨M.le_refl, fun b h1 h2 => absurd h1 h2, ⟨fun b o hg => by rw [hh]; exact hi.obj b o hg, hi.lt, hi.inj⟩, fun b o β δ n h1 h2 _ => ⟨b, o, δ, n, h1, h2⟩,
    fun β _ _ => by rw [hh], by rw [hh]; exact Nat.le_refl _, Nat.le_refl _, ho, ht, hp⟩

theorem Post.trans {h h1 h2 : H} {M M1 M2 : Mp} {w w1 w2 : World} (a : Post h M w h1 M1 w1) (b : Post h1 M1 w1 h2 M2 w2) : Post h M w h2 M2 w2 where
  ext := Mp.le_trans a.ext b.ext
  only := by
    intro x hx hx2
    by_cases e : M1 x = none
    · have := b.only x e hx2
      have := a.next
      omega
    · have := a.only x hx e
      have := b.next
      omega
  inv := b.inv
  img := by
    intro x o β δ n hg hm hlt
    obtain ⟨b1, o1, δ1, n1, h3, h4⟩ := b.img x o β δ n hg hm (Nat.lt_of_lt_of_le hlt a.size)
    exact a.img b1 o1 β δ1 n1 h3 h4 hlt
  frame := by
    intro β hlt hno
    rw [b.frame β (Nat.lt_of_lt_of_le hlt a.size) fun x o δ n hg hm => by
      obtain ⟨b0, o0, δ0, n0, h3, h4⟩ := a.img x o β δ n hg hm hlt
      exact hno b0 o0 δ0 n0 h3 h4]
    exact a.frame β hlt hno
  size := Nat.le_trans a.size b.size
  next := Nat.le_trans a.next b.next
  os := b.os.trans a.os
  tape := b.tape.trans a.tape
  output := b.output.trans a.output

theorem Fresh.left {M : Mp} {h h1 h2 : H} (hf : Fresh M h h2) (hn : h1.next ≤ h2.next) : Fresh M h h1 := fun b h3 h4 => hf b h3 (by omega)

theorem Fresh.right {M M1 : Mp} {h h1 h2 : H} {w w1 : World} (hf : Fresh M h h2) (a : Post h M w h1 M1 w1) : Fresh M1 h1 h2 := by
  intro b h3 h4
  by_cases e : M1 b = none
  · exact e
  · have := a.only b (hf b (Nat.le_trans a.next h3) h4) e
    omega

/-- A block of the call's own gets another object; nothing else turns. -/
theorem Post.update {h h' : H} {M : Mp} {w w' : World} {b β δ n : Nat} {o o0 : AObj} (hi : Inv h M w) (hg : h.t.get b = some o0) (hm : M b = some (β, δ, n))
    (hn : h'.next = h.next) (hget : ∀ j, h'.t.get j = if j = b then some o else h.t.get j)
    (hsize : w'.heap.size = w.heap.size) (hobj : ORel M o w'.heap[β]? δ n) (hoth : ∀ j, j ≠ β → w'.heap[j]? = w.heap[j]?)
    (ho : w'.os = w.os) (ht : w'.tape = w.tape) (hp : w'.output = w.output) : Post h M w h' M w' where
  ext := M.le_refl
  only := fun b h1 h2 => absurd h1 h2
  inv := by
    have get' : ∀ b' o', h'.t.get b' = some o' → (b' = b ∧ o' = o) ∨ (b' ≠ b ∧ h.t.get b' = some o') := by
      intro b' o' h1
      rw [hget] at h1
      by_cases e : b' = b
      · rw [if_pos e] at h1; exact .inl ⟨e, (Option.some.inj h1).symm⟩
      · rw [if_neg e] at h1; exact .inr ⟨e, h1⟩
    have was : ∀ b' o', h'.t.get b' = some o' → ∃ o1, h.t.get b' = some o1 := by
      intro b' o' h1
      rcases get' b' o' h1 with ⟨rfl, _⟩ | ⟨_, h2⟩
      · exact ⟨_, hg⟩
      · exact ⟨_, h2⟩
    refine ⟨fun b' o' h1 => ?_, fun b' o' h1 => ?_, fun b1 b2 o1 o2 β' δ1 n1 δ2 n2 h1 h2 h3 h4 => ?_⟩
    · rcases get' b' o' h1 with ⟨rfl, rfl⟩ | ⟨hne, h2⟩
      · exact ⟨β, δ, n, hm, hobj⟩
      · obtain ⟨β', δ', n', h3, h4⟩ := hi.obj b' o' h2
        refine ⟨β', δ', n', h3, ?_⟩
        rw [hoth β' fun e => hne (hi.inj _ _ _ _ _ _ _ _ _ h2 hg (e ▸ h3) hm)]
        exact h4
    · obtain ⟨o1, h2⟩ := was b' o' h1
      rw [hn]; exact hi.lt _ _ h2
    · obtain ⟨p, hp'⟩ := was b1 o1 h1
      obtain ⟨q, hq⟩ := was b2 o2 h2
      exact hi.inj _ _ _ _ _ _ _ _ _ hp' hq h3 h4
  img := by
    intro b' o' β' δ' n' h1 h2 _
    rw [hget] at h1
    by_cases e : b' = b
    · subst e; exact ⟨b', o0, δ', n', hg, h2⟩
    · rw [if_neg e] at h1; exact ⟨b', o', δ', n', h1, h2⟩
  frame := fun β' _ hno => hoth β' fun e => hno b o0 δ n hg (e ▸ hm)
  size := by omega
  next := by omega
  os := ho
  tape := ht
  output := hp

/-- A new block, under a free name. -/
theorem Post.make {h h' : H} {M : Mp} {w w' : World} {c n : Nat} {o : AObj} {obj : Obj} (hi : Inv h M w) (hM : M c = none)
    (hc : c < h'.next) (hge : h.next ≤ c) (hn : h.next ≤ h'.next) (hget : ∀ j, h'.t.get j = if j = c then some o else h.t.get j)
    (hheap : w'.heap = w.heap.push obj) (hobj : ORel M o (some obj) 0 n)
    (ho : w'.os = w.os) (ht : w'.tape = w.tape) (hp : w'.output = w.output) :
    Post h M w h' (fun b => if b = c then some (w.heap.size, 0, n) else M b) w' where
  ext := by
    intro b x hx
    by_cases e : b = c
    · subst e; rw [hM] at hx; cases hx
    · simp [e, hx]
  only := by
    intro b h1 h2
    by_cases e : b = c
    · subst e; exact ⟨hge, hc⟩
    · simp [e] at h2; exact absurd h1 h2
  inv := by
    have hle : M.le (fun b => if b = c then some (w.heap.size, 0, n) else M b) := by
      intro b x hx
      by_cases e : b = c
      · subst e; rw [hM] at hx; cases hx
      · simp [e, hx]
    refine ⟨fun b' o' h1 => ?_, fun b' o' h1 => ?_, fun b1 b2 o1 o2 β' δ1 n1 δ2 n2 h1 h2 h3 h4 => ?_⟩
    · rw [hget] at h1
      by_cases e : b' = c
      · rw [if_pos e] at h1
        have := Option.some.inj h1
        subst this
        exact ⟨w.heap.size, 0, n, by simp [e], by rw [hheap]; simpa using hobj.mono hle⟩
      · rw [if_neg e] at h1
        obtain ⟨β, δ, m, h3, h4⟩ := hi.obj b' o' h1
        obtain ⟨x, hx⟩ := h4.some
        have hlt := heap_lt hx
        exact ⟨β, δ, m, by simp [e, h3], by rw [hheap, Array.getElem?_push, if_neg (by omega)]; exact h4.mono hle⟩
    · rw [hget] at h1
      by_cases e : b' = c
      · omega
      · rw [if_neg e] at h1; have := hi.lt _ _ h1; omega
    · rw [hget] at h1 h2
      by_cases e1 : b1 = c <;> by_cases e2 : b2 = c
      · rw [e1, e2]
      · rw [if_neg e2] at h2
        simp only [e1, if_true, Option.some.injEq, Prod.mk.injEq] at h3
        simp only [e2, if_false] at h4
        have := (hi.bound h2 h4).1
        omega
      · rw [if_neg e1] at h1
        simp only [e2, if_true, Option.some.injEq, Prod.mk.injEq] at h4
        simp only [e1, if_false] at h3
        have := (hi.bound h1 h3).1
        omega
      · rw [if_neg e1] at h1
        rw [if_neg e2] at h2
        simp only [e1, if_false] at h3
        simp only [e2, if_false] at h4
        exact hi.inj _ _ _ _ _ _ _ _ _ h1 h2 h3 h4
  img := by
    intro b' o' β' δ' n' h1 h2 h3
    rw [hget] at h1
    by_cases e : b' = c
    · simp only [e, if_true, Option.some.injEq, Prod.mk.injEq] at h2; omega
    · rw [if_neg e] at h1
      simp only [e, if_false] at h2
      exact ⟨b', o', δ', n', h1, h2⟩
  frame := by
    intro β hlt _
    rw [hheap, Array.getElem?_push, if_neg (by omega)]
  size := by rw [hheap]; simp
  next := hn
  os := ho
  tape := ht
  output := hp

/-- Less is known of the same memory. -/
def Sub (h0 h : H) : Prop := ∀ b o, h0.t.get b = some o → h.t.get b = some o

theorem Inv.sub {h0 h : H} {M : Mp} {w : World} (hi : Inv h M w) (hs : Sub h0 h) (hn : h.next ≤ h0.next) : Inv h0 M w :=
  ⟨fun b o hg => hi.obj b o (hs _ _ hg), fun b o hg => Nat.lt_of_lt_of_le (hi.lt b o (hs _ _ hg)) hn,
    fun _ _ _ _ _ _ _ _ _ h1 h2 h3 h4 => hi.inj _ _ _ _ _ _ _ _ _ (hs _ _ h1) (hs _ _ h2) h3 h4⟩

/-- What is left aside stays. -/
theorem Post.aside {K A A' K' : H} {M M' : Mp} {w w' : World} (hK : Inv K M w) (hs : Sub A K) (hp : Post A M w A' M' w')
    (hn : K.next = A.next) (hn' : K'.next = A'.next)
    (hget : ∀ b o, K'.t.get b = some o → A'.t.get b = some o ∨ (K.t.get b = some o ∧ A.t.get b = none)) : Post K M w K' M' w' where
  ext := hp.ext
  only := by
    intro b h1 h2
    have := hp.only b h1 h2
    omega
  inv := by
    have key : ∀ b o, K.t.get b = some o → A.t.get b = none → ∃ β δ n, M b = some (β, δ, n) ∧ w'.heap[β]? = w.heap[β]? ∧ ORel M o w.heap[β]? δ n ∧ β < w.heap.size ∧
        ∀ b' o' δ' n', A'.t.get b' = some o' → M' b' ≠ some (β, δ', n') := by
      intro b o h1 h2
      obtain ⟨β, δ, n, h3, h4⟩ := hK.obj b o h1
      have hlt := (hK.bound h1 h3).1
      have hno : ∀ b o δ n, A.t.get b = some o → M b ≠ some (β, δ, n) := by
        intro b' o' δ' n' h5 h6
        have := hK.inj _ _ _ _ _ _ _ _ _ h1 (hs _ _ h5) h3 h6
        subst this
        rw [h2] at h5; cases h5
      refine ⟨β, δ, n, h3, hp.frame β hlt hno, h4, hlt, ?_⟩
      intro b' o' δ' n' h5 h6
      obtain ⟨b0, o0, δ0, n0, h7, h8⟩ := hp.img _ _ _ _ _ h5 h6 hlt
      exact hno _ _ _ _ h7 h8
    refine ⟨fun b o h1 => ?_, fun b o h1 => ?_, fun b1 b2 o1 o2 β δ1 n1 δ2 n2 h1 h2 h3 h4 => ?_⟩
    · rcases hget b o h1 with h2 | ⟨h2, h3⟩
      · exact hp.inv.obj b o h2
      · obtain ⟨β, δ, n, h4, h5, h6, _⟩ := key b o h2 h3
        exact ⟨β, δ, n, hp.ext _ _ h4, by rw [h5]; exact h6.mono hp.ext⟩
    · rcases hget b o h1 with h2 | ⟨h2, h3⟩
      · rw [hn']; exact hp.inv.lt b o h2
      · have := hK.lt b o h2
        have := hp.next
        omega
    · rcases hget _ _ h1 with h5 | ⟨h5, h5'⟩ <;> rcases hget _ _ h2 with h6 | ⟨h6, h6'⟩
      · exact hp.inv.inj _ _ _ _ _ _ _ _ _ h5 h6 h3 h4
      · obtain ⟨β', δ, n, h7, _, _, _, h8⟩ := key _ _ h6 h6'
        have h9 := hp.ext _ _ h7
        rw [h4] at h9
        simp only [Option.some.injEq, Prod.mk.injEq] at h9
        obtain ⟨rfl, rfl, rfl⟩ := h9
        exact absurd h3 (h8 _ _ _ _ h5)
      · obtain ⟨β', δ, n, h7, _, _, _, h8⟩ := key _ _ h5 h5'
        have h9 := hp.ext _ _ h7
        rw [h3] at h9
        simp only [Option.some.injEq, Prod.mk.injEq] at h9
        obtain ⟨rfl, rfl, rfl⟩ := h9
        exact absurd h4 (h8 _ _ _ _ h6)
      · obtain ⟨β', δ, n, h7, _⟩ := key _ _ h5 h5'
        obtain ⟨β'', δ', n', h8, _⟩ := key _ _ h6 h6'
        have h9 := hp.ext _ _ h7
        have h10 := hp.ext _ _ h8
        rw [h3] at h9; rw [h4] at h10
        simp only [Option.some.injEq, Prod.mk.injEq] at h9 h10
        obtain ⟨rfl, rfl, rfl⟩ := h9
        obtain ⟨rfl, rfl, rfl⟩ := h10
        exact hK.inj _ _ _ _ _ _ _ _ _ h5 h6 h7 h8
  img := by
    intro b o β δ n h1 h2 h3
    rcases hget b o h1 with h4 | ⟨h4, h5⟩
    · obtain ⟨b0, o0, δ0, n0, h6, h7⟩ := hp.img _ _ _ _ _ h4 h2 h3
      exact ⟨b0, o0, δ0, n0, hs _ _ h6, h7⟩
    · obtain ⟨β', δ', n', h6, _⟩ := hK.obj b o h4
      have h9 := hp.ext _ _ h6
      rw [h2] at h9
      simp only [Option.some.injEq, Prod.mk.injEq] at h9
      obtain ⟨rfl, rfl, rfl⟩ := h9
      exact ⟨b, o, _, _, h4, h6⟩
  frame := by
    intro β hlt hno
    exact hp.frame β hlt fun b o δ n h1 h2 => hno b o δ n (hs _ _ h1) h2
  size := hp.size
  next := by have := hp.next; omega
  os := hp.os
  tape := hp.tape
  output := hp.output

/-- No name from the next one on is given. -/
def Free (M : Mp) (h : H) : Prop := ∀ b, h.next ≤ b → M b = none

theorem Free.fresh {M : Mp} {h h' : H} (f : Free M h) : Fresh M h h' := fun b h1 _ => f b h1

theorem Free.post {M M' : Mp} {h h' : H} {w w' : World} (f : Free M h) (p : Post h M w h' M' w') : Free M' h' := by
  intro b hb
  by_cases e : M' b = none
  · exact e
  · by_cases e2 : M b = none
    · have := p.only b e2 e; omega
    · exact absurd (f b (Nat.le_trans p.next hb)) e2

end Go.Proofs.YtnjobinioalipaaGreatDoor.Ev

/- The one run of a region that leaves its order open: what it tells of each operation. -/
import Derived.Test.YtnjobinioalipaaGreatDoorEvPlan2
namespace Go.Proofs.YtnjobinioalipaaGreatDoor.Ev
open Go

/-- What the one run tells: each operation's value, how many loud ones were done then, what it made, and the memories. -/
structure Gh where
  val : Nat → AV
  lvl : Nat → Nat
  made : Nat → Option (Nat × AObj)
  mem : Nat → H

structure Pl where
  E : Env
  P : Program
  n : Nat
  lim : Nat
  hn : Nat
  ops : Array Oper
  masks : T Nat
  ws : T Nat
  louds : List (Nat × Oper)
  r0 : Regs
  h0 : H

structure Pl.Ok (X : Pl) : Prop where
  env : EnvOk X.E X.P
  masks : MasksOk X.ops X.masks
  ws : WritersOk X.ops X.ws
  look : AllLook X.ops X.masks X.ws 0
  louds : LoudsOk X.E X.ops 0 X.louds

def Pl.env (X : Pl) (G : Gh) (S : Nat → Bool) (t : Nat) : AV :=
  match X.ws.get t with
  | some i => match S i with
    | true => G.val i
    | false => (X.r0.get t).getD (.tuple [])
  | none => (X.r0.get t).getD (.tuple [])

def Below (mask : Nat) (S : Nat → Bool) : Prop := ∀ b, mask.testBit b = true → S b = true

def Pl.Closed (X : Pl) (S : Nat → Bool) : Prop := ∀ j m, S j = true → X.masks.get j = some m → Below m S

/-- Where an operation is that is not loud. -/
def Pl.Phase (X : Pl) (j p : Nat) : Prop := ∀ jl ol, X.louds[p]? = some (jl, ol) → ∃ ml, X.masks.get jl = some ml ∧ ml.testBit j = true

def GuardIs (ops : Array Oper) (o : Oper) (r : Regs) (g : Bool) : Prop := ∀ (M : Mp) (a : Act),
  (∀ j want t, o.guard = some (j, want) → ((ops[j]?).bind (·.dst)) = some t → VRel M ((r.get t).getD (.tuple [])) (a.tmps.getD t undef)) → Region.wanted o (yielded ops a.tmps) = g

/-- What a memory may hold, from those of a mask. -/
def Part (G : Gh) (mask i : Nat) (B : H) : Prop := B.next = (G.mem i).next ∧
  ∀ b ob, B.t.get b = some ob → (G.mem i).t.get b = some ob ∨ ∃ j, mask.testBit j = true ∧ i ≤ G.lvl j ∧ G.made j = some (b, ob)

inductive OpSem (X : Pl) (G : Gh) (j : Nat) (o : Oper) (mask : Nat) (r : Regs) : Prop where
  | off (hl : ∀ (p : Nat) (ol : Oper), X.louds[p]? ≠ some (j, ol)) (hp : X.Phase j (G.lvl j)) (hg : GuardIs X.ops o r false) (hv : G.val j = .tuple []) (hm : G.made j = none)
  | quiet (hl : ∀ (p : Nat) (ol : Oper), X.louds[p]? ≠ some (j, ol)) (hp : X.Phase j (G.lvl j)) (hg : GuardIs X.ops o r true) (hm : G.made j = none)
      (hq : ∀ i, (X.louds.countP fun x => mask.testBit x.1) ≤ i → i ≤ G.lvl j → ∃ B, Part G mask i B ∧ QuietOk X.P o r B (G.val j))
  | make (hl : ∀ (p : Nat) (ol : Oper), X.louds[p]? ≠ some (j, ol)) (hp : X.Phase j (G.lvl j)) (hg : GuardIs X.ops o r true) (id : Nat) (ob : AObj) (vf : Nat → AV)
      (hm : G.made j = some (id, ob)) (hv : G.val j = vf id) (hk : MakeOk X.P o r ob vf) (h1 : X.hn ≤ id) (h2 : id < X.lim)
  | loud (p : Nat) (hl : X.louds[p]? = some (j, o)) (hprev : ∀ q, p = q + 1 → ∃ jq oq, X.louds[q]? = some (jq, oq) ∧ mask.testBit jq = true) (hm : G.made j = none)
      (hlv : ∀ i, mask.testBit i = true → G.lvl i ≤ p) (B : H) (hB : Part G mask p B)
      (hq : (GuardIs X.ops o r true ∧ OpOk X.P o r B (G.val j) (G.mem (p + 1))) ∨ (GuardIs X.ops o r false ∧ G.mem (p + 1) = B ∧ G.val j = .tuple []))

def Fact (X : Pl) (G : Gh) (j : Nat) : Prop := ∃ o mask r D, X.ops[j]? = some o ∧ X.masks.get j = some mask ∧ (∀ t, o.dst = some t → t < X.n) ∧
  X.Closed D ∧ D j = false ∧ Below mask D ∧ (∀ t, (r.get t).getD (.tuple []) = X.env G D t) ∧ OpSem X G j o mask r

structure Can (X : Pl) (G : Gh) (d m : Nat) (mk : List Mk) (c : Nat) (r : Regs) : Prop where
  regs : ∀ t, (r.get t).getD (.tuple []) = X.env G d.testBit t
  closed : X.Closed d.testBit
  dN : ∀ j, d.testBit j = true → j < X.ops.size
  mks : ∀ e ∈ mk, d.testBit e.op = true ∧ G.made e.op = some (e.id, e.ob) ∧ G.lvl e.op = e.lvl
  ids : ∀ j id ob, d.testBit j = true → G.made j = some (id, ob) → X.hn ≤ id ∧ id < c
  inj : ∀ i j id x y, d.testBit i = true → d.testBit j = true → G.made i = some (id, x) → G.made j = some (id, y) → i = j
  lvl : ∀ j, d.testBit j = true → G.lvl j ≤ m
  fact : ∀ j, d.testBit j = true → Fact X G j
  c : X.hn ≤ c ∧ c ≤ X.lim

abbrev Log := List (Nat × AV × Nat × Option (Nat × AObj))

def Agrees (G : Gh) (log : Log) : Prop := ∀ j v l mo, (j, v, l, mo) ∈ log → G.val j = v ∧ G.lvl j = l ∧ G.made j = mo

def MemIs (G : Gh) : Nat → List H → Prop
  | _, [] => True
  | m, h :: hs => G.mem m = h ∧ MemIs G (m - 1) hs

def Run (X : Pl) (d m : Nat) (hs : List H) (mk : List Mk) (c : Nat) (r : Regs) : Prop :=
  ∃ log : Log, (∀ e ∈ log, d.testBit e.1 = true) ∧ log.Pairwise (fun a b => a.1 ≠ b.1) ∧ hs.length = m + 1 ∧ hs[m]? = some ⟨X.h0.t, X.lim⟩ ∧
    (∀ (p jl : Nat) (ol : Oper), X.louds[p]? = some (jl, ol) → d.testBit jl = true → p < m) ∧ ∀ G, Agrees G log → MemIs G m hs → Can X G d m mk c r

theorem Agrees.ex : ∀ (log : Log), log.Pairwise (fun a b => a.1 ≠ b.1) → ∀ G : Gh, ∃ G' : Gh, Agrees G' log ∧ G'.mem = G.mem := by
  intro log
  induction log with
  | nil => intro _ G; exact ⟨G, (fun _ _ _ _ h => by cases h), rfl⟩
  | cons e log ih =>
    intro hp G
    obtain ⟨h1, h2⟩ := List.pairwise_cons.1 hp
    obtain ⟨G', h3, h4⟩ := ih h2 G
    obtain ⟨j, v, l, mo⟩ := e
    refine ⟨⟨fun i => if i = j then v else G'.val i, fun i => if i = j then l else G'.lvl i, fun i => if i = j then mo else G'.made i, G'.mem⟩, fun i v' l' mo' hi => ?_, h4⟩
    rcases List.mem_cons.1 hi with e | e
    · cases e; simp
    · have := h1 _ e
      simp only at this
      have ne : i ≠ j := fun h => this h.symm
      simp only [ne, if_false]
      exact h3 i v' l' mo' e

theorem MemIs.ex : ∀ (hs : List H) (m : Nat), hs.length = m + 1 → ∃ f : Nat → H, ∀ G' : Gh, G'.mem = f → MemIs G' m hs := by
  intro hs
  induction hs with
  | nil => intro m h; simp at h
  | cons h hs ih =>
    intro m hl
    cases m with
    | zero =>
      have : hs = [] := by
        cases hs with
        | nil => rfl
        | cons _ _ => simp at hl
      subst this
      exact ⟨fun _ => h, fun G' e => ⟨by rw [e], trivial⟩⟩
    | succ m =>
      obtain ⟨f, hf⟩ := ih m (by simpa using hl)
      refine ⟨fun i => if i = m + 1 then h else f i, fun G' e => ⟨by rw [e]; simp, ?_⟩⟩
      show MemIs G' m hs
      -- below m + 1 the two are alike
      have alike : ∀ (hs : List H) (i : Nat) (G1 : Gh), i ≤ m → G1.mem = f → MemIs G1 i hs → MemIs G' i hs := by
        intro hs
        induction hs with
        | nil => intro i G1 _ _ _; trivial
        | cons h' hs ih2 =>
          intro i G1 hi e1 h1
          obtain ⟨h2, h3⟩ := h1
          refine ⟨?_, ih2 (i - 1) G1 (by omega) e1 h3⟩
          rw [e]
          simp only
          rw [if_neg (by omega), ← e1]
          exact h2
      exact alike hs m ⟨fun _ => .nilptr, fun _ => 0, fun _ => none, f⟩ (Nat.le_refl _) rfl (hf _ rfl)

theorem MemIs.at {G : Gh} : ∀ (hs : List H) (m : Nat), MemIs G m hs → ∀ i h, hs[i]? = some h → G.mem (m - i) = h := by
  intro hs
  induction hs with
  | nil => intro m _ i h hi; simp at hi
  | cons x hs ih =>
    intro m hm i h hi
    obtain ⟨h1, h2⟩ := hm
    cases i with
    | zero => simp at hi; subst hi; exact h1
    | succ i =>
      have := ih (m - 1) h2 i h (by simpa using hi)
      rw [show m - (i + 1) = m - 1 - i by omega]
      exact this

/-- The same is seen in each order. -/
theorem Pl.Ok.same {X : Pl} (_hX : X.Ok) {G : Gh} {S D : Nat → Bool} {j mask t : Nat} (hS : X.Closed S) (hD : X.Closed D) (hSj : S j = false) (hDj : D j = false)
    (hmS : Below mask S) (hmD : Below mask D) (hl : LookOk X.masks X.ws j mask t) : X.env G S t = X.env G D t := by
  unfold Pl.env
  cases hw : X.ws.get t with
  | none => rfl
  | some i =>
    simp only
    have : S i = D i := by
      rcases hl i hw with rfl | h | ⟨mi, h1, h2⟩
      · rw [hSj, hDj]
      · rw [hmS i h, hmD i h]
      · have no : ∀ S : Nat → Bool, X.Closed S → S j = false → S i = false := by
          intro S hS hSj
          cases h : S i with
          | false => rfl
          | true => rw [hS i mi h h1 j h2] at hSj; cases hSj
        rw [no S hS hSj, no D hD hDj]
    rw [this]

theorem lookOk_dst {X : Pl} (hX : X.Ok) {g mask j t : Nat} {og : Oper} (hg : X.ops[g]? = some og) (hd : og.dst = some t) (hm : mask.testBit g = true) : LookOk X.masks X.ws j mask t := by
  intro i hi
  have := (hX.ws t g).2 ⟨og, hg, hd⟩
  rw [hi] at this; cases this
  exact .inr (.inl hm)

/-- Slots after one more operation. -/
theorem Pl.Ok.put {X : Pl} (hX : X.Ok) {G : Gh} {S S' : Nat → Bool} {j : Nat} {o : Oper} (ho : X.ops[j]? = some o) (hS : ∀ i, S' i = true ↔ S i = true ∨ i = j) (hSj : S j = false) (t : Nat) :
    X.env G S' t = if o.dst = some t then G.val j else X.env G S t := by
  unfold Pl.env
  by_cases e : o.dst = some t
  · rw [if_pos e, (hX.ws t j).2 ⟨o, ho, e⟩]
    simp only [(hS j).2 (.inr rfl)]
  · rw [if_neg e]
    cases hw : X.ws.get t with
    | none => rfl
    | some i =>
      simp only
      have hne : i ≠ j := by
        intro h; subst h
        obtain ⟨o', h1, h2⟩ := (hX.ws t i).1 hw
        rw [ho] at h1; cases h1; exact e h2
      have : S' i = S i := by
        cases h : S i with
        | true => exact (hS i).2 (.inl h)
        | false =>
          cases h' : S' i with
          | false => rfl
          | true => rcases (hS i).1 h' with h'' | h''
                    · rw [h] at h''; cases h''
                    · exact absurd h'' hne
      rw [this]

theorem lor_iff (d j i : Nat) : (Nat.lor d (Nat.pow 2 j)).testBit i = true ↔ d.testBit i = true ∨ i = j := by
  rw [lor_two]; simp

theorem Can.step {X : Pl} (hX : X.Ok) {G : Gh} {d m m' : Nat} {mk mk' : List Mk} {c c' : Nat} {r r' : Regs} {j : Nat} {o : Oper} {mask : Nat} {v : AV} (h : Can X G d m mk c r)
    (ho : X.ops[j]? = some o) (hmask : X.masks.get j = some mask) (hbelow : Below mask d.testBit) (hj : d.testBit j = false)
    (hget : ∀ i, r'.get i = if o.dst = some i then some v else r.get i) (hv : G.val j = v) (hlv : G.lvl j ≤ m') (hm : m ≤ m') (hf : Fact X G j)
    (hmk : ∀ e ∈ mk', e ∈ mk ∨ (e.op = j ∧ G.made j = some (e.id, e.ob) ∧ G.lvl j = e.lvl)) (hid : ∀ id ob, G.made j = some (id, ob) → c ≤ id ∧ id < c') (hc : c ≤ c') (hc' : c' ≤ X.lim) :
    Can X G (Nat.lor d (Nat.pow 2 j)) m' mk' c' r' where
  regs := by
    intro t
    rw [hget, hX.put ho (lor_iff d j) hj]
    by_cases e : o.dst = some t
    · simp [e, hv]
    · simp only [e, if_false]; exact h.regs t
  closed := by
    intro i mi hi hmi b hb
    rw [lor_iff] at hi ⊢
    rcases hi with hi | rfl
    · exact .inl (h.closed i mi hi hmi b hb)
    · rw [hmask] at hmi; cases hmi; exact .inl (hbelow b hb)
  dN := by
    intro i hi
    rcases (lor_iff _ _ _).1 hi with hi | rfl
    · exact h.dN i hi
    · exact (Array.getElem?_eq_some_iff.1 ho).1
  mks := by
    intro e he
    rcases hmk e he with he | ⟨h1, h2, h3⟩
    · obtain ⟨h1, h2⟩ := h.mks e he
      exact ⟨(lor_iff _ _ _).2 (.inl h1), h2⟩
    · rw [h1]; exact ⟨(lor_iff _ _ _).2 (.inr rfl), h2, h3⟩
  ids := by
    intro i id ob hi hm
    rcases (lor_iff _ _ _).1 hi with hi | rfl
    · have := h.ids i id ob hi hm; omega
    · have := hid id ob hm; have := h.c; omega
  inj := by
    intro i i' id x y hi hi' hx hy
    rcases (lor_iff _ _ _).1 hi with a | a <;> rcases (lor_iff _ _ _).1 hi' with b | b
    · exact h.inj i i' id x y a b hx hy
    · rw [b] at hy; have := h.ids i id x a hx; have := hid id y hy; omega
    · rw [a] at hx; have := h.ids i' id y b hy; have := hid id x hx; omega
    · rw [a, b]
  lvl := by
    intro i hi
    rcases (lor_iff _ _ _).1 hi with hi | rfl
    · have := h.lvl i hi; omega
    · exact hlv
  fact := by
    intro i hi
    rcases (lor_iff _ _ _).1 hi with hi | rfl
    · exact h.fact i hi
    · exact hf
  c := by have := h.c; omega

theorem below_of_land {mask d : Nat} (h : Nat.beq (Nat.land mask d) mask = true) : Below mask d.testBit := and_sub h

/-- One more, not loud. -/
theorem Run.small {X : Pl} (hX : X.Ok) {d m : Nat} {hs : List H} {mk mk' : List Mk} {c c' : Nat} {r r' : Regs} {j : Nat} {o : Oper} {mask : Nat} {v : AV} {mo : Option (Nat × AObj)} (h : Run X d m hs mk c r)
    (ho : X.ops[j]? = some o) (hmask : X.masks.get j = some mask) (hbelow : Below mask d.testBit) (hj : d.testBit j = false)
    (hnl : ∀ (p : Nat) (ol : Oper), X.louds[p]? ≠ some (j, ol)) (hlt : ∀ t, o.dst = some t → t < X.n) (hget : ∀ i, r'.get i = if o.dst = some i then some v else r.get i)
    (hmk : ∀ e ∈ mk', e ∈ mk ∨ (e.op = j ∧ mo = some (e.id, e.ob) ∧ m = e.lvl)) (hid : ∀ id ob, mo = some (id, ob) → c ≤ id ∧ id < c') (hc : c ≤ c') (hc' : c' ≤ X.lim ∨ c' = c)
    (hsem : ∀ G, G.val j = v → G.lvl j = m → G.made j = mo → MemIs G m hs → Can X G d m mk c r → OpSem X G j o mask r) :
    Run X (Nat.lor d (Nat.pow 2 j)) m hs mk' c' r' := by
  obtain ⟨log, h1, h2, h3, h6, h5, h4⟩ := h
  refine ⟨(j, v, m, mo) :: log, fun e he => ?_, List.pairwise_cons.2 ⟨fun e he => ?_, h2⟩, h3, h6, fun p jl ol hp hb => ?_, fun G hG hM => ?_⟩
  · rw [lor_iff]
    rcases List.mem_cons.1 he with e' | e'
    · subst e'; exact .inr rfl
    · exact .inl (h1 e e')
  · intro e'
    simp only at e'
    have := h1 e he
    rw [← e', hj] at this; cases this
  · rcases (lor_iff _ _ _).1 hb with hb | rfl
    · exact h5 p jl ol hp hb
    · exact absurd hp (hnl p ol)
  · have can := h4 G (fun j v l mo hm => hG j v l mo (List.mem_cons_of_mem _ hm)) hM
    obtain ⟨e1, e2, e3⟩ := hG j v m mo List.mem_cons_self
    refine can.step hX ho hmask hbelow hj hget e1 (by omega) (Nat.le_refl _) ?_ (fun e he => ?_) (fun id ob h => hid id ob (e3 ▸ h)) hc ?_
    · exact ⟨o, mask, r, d.testBit, ho, hmask, hlt, can.closed, hj, hbelow, can.regs, hsem G e1 e2 e3 hM can⟩
    · rcases hmk e he with h | ⟨h, h', h''⟩
      · exact .inl h
      · exact .inr ⟨h, by rw [e3]; exact h', by rw [e2]; exact h''⟩
    · rcases hc' with h | h
      · exact h
      · have := can.c; omega

/-- One more, loud. -/
theorem Run.loud {X : Pl} (hX : X.Ok) {d m : Nat} {hs : List H} {mk : List Mk} {c : Nat} {r r' : Regs} {j : Nat} {o : Oper} {mask : Nat} {v : AV} {h' : H} (h : Run X d m hs mk c r)
    (ho : X.ops[j]? = some o) (hmask : X.masks.get j = some mask) (hbelow : Below mask d.testBit) (hj : d.testBit j = false)
    (hpos : X.louds[m]? = some (j, o)) (hlt : ∀ t, o.dst = some t → t < X.n) (hget : ∀ i, r'.get i = if o.dst = some i then some v else r.get i)
    (hsem : ∀ G, G.val j = v → G.lvl j = m → G.made j = none → MemIs G m hs → G.mem (m + 1) = h' → Can X G d m mk c r → OpSem X G j o mask r) :
    Run X (Nat.lor d (Nat.pow 2 j)) (m + 1) (h' :: hs) mk c r' := by
  obtain ⟨log, h1, h2, h3, h6, h5, h4⟩ := h
  refine ⟨(j, v, m, none) :: log, fun e he => ?_, List.pairwise_cons.2 ⟨fun e he => ?_, h2⟩, by simp [h3], by simpa using h6, fun p jl ol hp hb => ?_, fun G hG hM => ?_⟩
  · rw [lor_iff]
    rcases List.mem_cons.1 he with e' | e'
    · subst e'; exact .inr rfl
    · exact .inl (h1 e e')
  · intro e'
    simp only at e'
    have := h1 e he
    rw [← e', hj] at this; cases this
  · rcases (lor_iff _ _ _).1 hb with hb | rfl
    · have := h5 p jl ol hp hb; omega
    · have := hX.louds.inj hp hpos; omega
  · obtain ⟨hM1, hM2⟩ := hM
    have hM2 : MemIs G m hs := hM2
    have can := h4 G (fun j v l mo hm => hG j v l mo (List.mem_cons_of_mem _ hm)) hM2
    obtain ⟨e1, e2, e3⟩ := hG j v m none List.mem_cons_self
    refine can.step hX ho hmask hbelow hj hget e1 (by omega) (by omega) ?_ (fun e he => .inl he) (fun id ob h => by rw [e3] at h; cases h) (Nat.le_refl _) can.c.2
    exact ⟨o, mask, r, d.testBit, ho, hmask, hlt, can.closed, hj, hbelow, can.regs, hsem G e1 e2 e3 hM2 hM1 can⟩

end Go.Proofs.YtnjobinioalipaaGreatDoor.Ev

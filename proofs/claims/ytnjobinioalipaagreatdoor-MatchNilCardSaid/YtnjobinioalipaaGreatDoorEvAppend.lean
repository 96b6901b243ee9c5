/- Append. -/
import Derived.Test.YtnjobinioalipaaGreatDoorEvLoud2
namespace Go.Proofs.YtnjobinioalipaaGreatDoor.Ev
open Go

theorem Post.weaken {h h1 h' : H} {M M1 : Mp} {w w1 : World} (p : Post h M w h1 M1 w1) (hs : Sub h' h1) (hn : h'.next = h1.next) : Post h M w h' M1 w1 where
  ext := p.ext
  only := fun b h2 h3 => by rw [hn]; exact p.only b h2 h3
  inv := p.inv.sub hs (by omega)
  img := fun b o β δ n h2 h3 h4 => p.img b o β δ n (hs _ _ h2) h3 h4
  frame := p.frame
  size := p.size
  next := by rw [hn]; exact p.next
  os := p.os
  tape := p.tape
  output := p.output

/-- A block gets a new name, and another object; the elder name is dropped. -/
theorem Post.move {h h' : H} {M : Mp} {w w' : World} {b c β δ δ' n : Nat} {o o0 : AObj} (hi : Inv h M w) (hg : h.t.get b = some o0) (hm : M b = some (β, δ, n))
    (hM : M c = none) (hc : c = h.next) (hn : h'.next = h.next + 1) (hget : ∀ j, h'.t.get j = if j = c then some o else if j = b then none else h.t.get j)
    (hsize : w'.heap.size = w.heap.size) (hobj : ORel M o w'.heap[β]? δ' n) (hoth : ∀ j, j ≠ β → w'.heap[j]? = w.heap[j]?)
    (ho : w'.os = w.os) (ht : w'.tape = w.tape) (hp : w'.output = w.output) :
    Post h M w h' (fun j => if j = c then some (β, δ', n) else M j) w' := by
  have hle : M.le (fun j => if j = c then some (β, δ', n) else M j) := by
    intro j x hx
    by_cases e : j = c
    · subst e; rw [hM] at hx; cases hx
    · simp [e, hx]
  have hcb : c ≠ b := by rintro rfl; rw [hM] at hm; cases hm
  have get' : ∀ j x, h'.t.get j = some x → (j = c ∧ x = o) ∨ (j ≠ c ∧ j ≠ b ∧ h.t.get j = some x) := by
    intro j x h1
    rw [hget] at h1
    by_cases e : j = c
    · rw [if_pos e] at h1; exact .inl ⟨e, (Option.some.inj h1).symm⟩
    · rw [if_neg e] at h1
      by_cases e2 : j = b
      · rw [if_pos e2] at h1; cases h1
      · rw [if_neg e2] at h1; exact .inr ⟨e, e2, h1⟩
  have hlt := (hi.bound hg hm).1
  refine ⟨hle, fun j h1 h2 => ?_, ⟨fun j x h1 => ?_, fun j x h1 => ?_, fun j1 j2 x1 x2 β' δ1 n1 δ2 n2 h1 h2 h3 h4 => ?_⟩, fun j x β' δ1 n1 h1 h2 h3 => ?_, fun β' h1 h2 => ?_, by omega, by omega, ho, ht, hp⟩
  · by_cases e : j = c
    · subst e; omega
    · simp [e] at h2; exact absurd h1 h2
  · rcases get' j x h1 with ⟨rfl, rfl⟩ | ⟨h2, h3, h4⟩
    · exact ⟨β, δ', n, by simp, hobj.mono hle⟩
    · obtain ⟨β', δ1, n1, h5, h6⟩ := hi.obj j x h4
      refine ⟨β', δ1, n1, by simp [h2, h5], ?_⟩
      rw [hoth β' fun e => h3 (hi.inj _ _ _ _ _ _ _ _ _ h4 hg (e ▸ h5) hm)]
      exact h6.mono hle
  · rcases get' j x h1 with ⟨rfl, rfl⟩ | ⟨h2, h3, h4⟩
    · omega
    · have := hi.lt _ _ h4; omega
  · rcases get' j1 x1 h1 with ⟨rfl, rfl⟩ | ⟨a1, a2, a3⟩ <;> rcases get' j2 x2 h2 with ⟨e2, rfl⟩ | ⟨b1, b2, b3⟩
    · exact e2.symm
    · simp only [if_true, Option.some.injEq, Prod.mk.injEq] at h3
      simp only [b1, if_false] at h4
      obtain ⟨rfl, _, _⟩ := h3
      exact absurd (hi.inj _ _ _ _ _ _ _ _ _ b3 hg h4 hm) b2
    · subst e2
      simp only [if_true, Option.some.injEq, Prod.mk.injEq] at h4
      simp only [a1, if_false] at h3
      obtain ⟨rfl, _, _⟩ := h4
      exact absurd (hi.inj _ _ _ _ _ _ _ _ _ a3 hg h3 hm) a2
    · simp only [a1, if_false] at h3
      simp only [b1, if_false] at h4
      exact hi.inj _ _ _ _ _ _ _ _ _ a3 b3 h3 h4
  · rcases get' j x h1 with ⟨rfl, rfl⟩ | ⟨a1, a2, a3⟩
    · simp only [if_true, Option.some.injEq, Prod.mk.injEq] at h2
      obtain ⟨rfl, _, _⟩ := h2
      exact ⟨b, o0, δ, n, hg, hm⟩
    · simp only [a1, if_false] at h2
      exact ⟨j, x, δ1, n1, a3, h2⟩
  · exact hoth β' fun e => h2 b o0 δ n hg (e ▸ hm)

section
variable {E : Env} {P : Program}

theorem length_spec {x : AV} {k : Nat → Bool} (h : lengthK x k = true) : ∃ n, k n = true ∧ ∀ M rx, VRel M x rx → ∀ w, (Builtin.lenOf rx).run P w = .ok n w := by
  unfold lengthK at h
  split at h
  · exact ⟨_, h, fun M rx hx w => by cases hx; rfl⟩
  · exact ⟨_, h, fun M rx hx w => by cases hx; rfl⟩
  · exact ⟨_, h, fun M rx hx w => by cases hx; rfl⟩
  · rw [lenK_eq] at h
    refine ⟨_, h, fun M rx hx w => ?_⟩
    cases hx with
    | str hs => simp [Builtin.lenOf, ← bytes_map hs]
  · cases h

theorem cellsOfK_spec {s : List Nat} {k : List AV → Bool} (h : cellsOfK s k = true) : k (s.map fun n => .int .u8 (.ofNat n)) = true := by
  induction s generalizing k with
  | nil => exact h
  | cons n s ih =>
    simp only [cellsOfK] at h
    have := ih h
    simpa using this

theorem bytes_cells (M : Mp) (bs : List UInt8) : VRels M ((bs.map (·.toNat)).map fun n => .int .u8 (.ofNat n)) (bs.map fun b => Value.int .u8 (b.toNat : Int)) := by
  induction bs with
  | nil => exact .nil
  | cons b bs ih => exact .cons (.int _ _) ih

theorem src_spec {h : H} {z : Nat} {x : AV} {n : Nat} {k : List AV → Bool} (hk : srcK h z x n k = true) :
    ∃ new, k new = true ∧ ∀ M w rx, Inv h M w → VRel M x rx → ∃ rnew : Array Value, (Builtin.firstCells z n rx).run P w = .ok rnew w ∧ VRels M new rnew.toList := by
  unfold srcK at hk
  split at hk
  · exact ⟨_, hk, fun M w rx hi hx => by cases hx; exact ⟨#[], rfl, .nil⟩⟩
  · replace hk := readK_spec hk
    obtain ⟨l, hk, hlen, _, hr⟩ := hk
    refine ⟨_, hk, fun M w rx hi hx => ?_⟩
    obtain ⟨β, δ, m, hm, rl, hrl, hrr, hcell⟩ := hr M w hi
    cases hx with
    | slice hm' =>
      rw [hm] at hm'
      simp only [Option.some.injEq, Prod.mk.injEq] at hm'
      obtain ⟨rfl, rfl, rfl⟩ := hm'
      have := run_loadCells_list (P := P) w _ rl hcell
      rw [hrl] at this
      exact ⟨rl.toArray, this, by simpa using hrr⟩
  · replace hk := readK_spec hk
    obtain ⟨l, hk, hlen, _, hr⟩ := hk
    refine ⟨_, hk, fun M w rx hi hx => ?_⟩
    obtain ⟨β, δ, m, hm, rl, hrl, hrr, hcell⟩ := hr M w hi
    cases hx with
    | sliceU hm' =>
      rw [hm] at hm'
      simp only [Option.some.injEq, Prod.mk.injEq] at hm'
      obtain ⟨rfl, rfl, rfl⟩ := hm'
      have := run_loadCells_list (P := P) w _ rl hcell
      rw [hrl] at this
      exact ⟨rl.toArray, this, by simpa using hrr⟩
  · rw [takeK_iff] at hk
    obtain ⟨hle, hk⟩ := hk
    replace hk := cellsOfK_spec hk
    refine ⟨_, hk, fun M w rx hi hx => ?_⟩
    cases hx with
    | str hs =>
      rename_i s
      refine ⟨_, rfl, ?_⟩
      subst hs
      have e1 : List.map (fun x => x.toNat) (s.extract 0 n).data.toList = (s.data.toList.map (·.toNat)).take n := by
        simp
      rw [← e1, Array.toList_map]
      exact bytes_cells M _
  · cases hk

theorem growBy_le (newLen : Nat) : ∀ r c, c ≤ newLen + (newLen + 768) / 4 → Builtin.growBy newLen r c ≤ newLen + (newLen + 768) / 4 := by
  intro r
  induction r with
  | zero => intro c hc; exact hc
  | succ r ih =>
    intro c hc
    simp only [Builtin.growBy]
    split
    · exact hc
    · exact ih _ (by omega)

theorem next_le (need cap : Nat) (h : cap < need) : Builtin.nextslicecap need cap ≤ 2 * need + 768 := by
  unfold Builtin.nextslicecap
  split
  · omega
  · split
    · omega
    · have := growBy_le need 4 cap (by omega)
      omega

/-- What append takes from its types. -/
structure AppTypes (P : Program) (ts : Array TypeId) (e : TypeId) (i : TypeInfo) (zv : Value) : Prop where
  st : ∃ st, ts[0]? = some st ∧ P.underlying st = some (.slice e)
  info : P.info? e = some i
  zero : i.zero = some zv
  size : zv.cells.size = i.size
  bytes : i.bytes ≤ 1048576

/-- What is appended. -/
def Appended (P : Program) (ts : Array TypeId) (i : TypeInfo) (zv : Value) (x : Value) (n : Nat) (w : World) (rnew : Array Value) : Prop :=
  ((∃ xt k, ts[1]? = some xt ∧ P.underlying xt = some (.int k)) ∧ (∃ kk, x = .int kk (n : Int)) ∧ rnew = (Array.range (n * i.size)).map (fun j => zv.cells[j % zv.cells.size]!)) ∨
  ((∃ xt d, ts[1]? = some xt ∧ P.underlying xt = some d ∧ ((∃ e', d = .slice e') ∨ d = .string)) ∧ (∀ w, (Builtin.lenOf x).run P w = .ok n w) ∧ (Builtin.firstCells i.size n x).run P w = .ok rnew w)

theorem wrap_small {n : Nat} (hn : n ≤ 1048576) : IntKind.i64.wrap (n : Int) = n := by
  rw [wrap_def]
  simp only [modu, lim, IntKind.signed]
  rw [if_neg (by omega)]
  omega

theorem few_bytes {n b : Nat} (hn : n ≤ 1048576) (hb : b ≤ 1048576) : ¬ (281474976710656 < (n : Int) * (b : Int)) := by
  have h1 : n * b ≤ 1048576 * 1048576 := Nat.mul_le_mul hn hb
  have : ((n * b : Nat) : Int) ≤ ((1048576 * 1048576 : Nat) : Int) := Int.ofNat_le.2 h1
  rw [Int.natCast_mul] at this
  omega

theorem run_append_room {ts : Array TypeId} {e : TypeId} {i : TypeInfo} {zv : Value} (ht : AppTypes P ts e i zv) {t : TypeId} {base : Option Addr} {sLen sCap n : Nat} {x : Value} {w w' : World} {rnew : Array Value}
    (ha : Appended P ts i zv x n w rnew) (hn : n ≤ 1048576) (hroom : sLen + n ≤ sCap)
    (hst : (match base with | some a => storeCells (a.add (sLen * i.size)) rnew.toList | none => pure ()).run P w = .ok () w') :
    (Builtin.append_ ts t #[.slice base sLen sCap, x]).run P w = .ok (.slice base (sLen + n) sCap) w' := by
  obtain ⟨st, hst0, hsu⟩ := ht.st
  have hsrun := run_underlying hsu
  rcases ha with ⟨⟨xt, k, hx, hxu⟩, ⟨kk, rfl⟩, hnew⟩ | ⟨⟨xt, d, hx, hxu, hd⟩, hlen, hfirst⟩
  · have hxrun := run_underlying hxu
    have hw := wrap_small hn
    have hb := few_bytes hn ht.bytes
    have hlt : ¬ ((n : Int) < 0) := by omega
    by_cases hz : n * i.size = 0
    · have e0 : rnew.toList = [] := by rw [hnew, hz, range_none]
      rw [e0] at hst
      cases base with
      | none =>
        simp [Builtin.append_, hst0, hx, hsrun, hxrun, run_size ht.info, asInt, asIntOf, hw, hlt, run_info ht.info, hb, hroom, hz]
        simpa using hst
      | some a =>
        simp [Builtin.append_, hst0, hx, hsrun, hxrun, run_size ht.info, asInt, asIntOf, hw, hlt, run_info ht.info, hb, hroom, hz, hst]
    · have e0 : Builtin.zeroCells zv.cells n = rnew := by rw [hnew, ← ht.size]; rfl
      cases base with
      | none =>
        simp [Builtin.append_, hst0, hx, hsrun, hxrun, run_size ht.info, asInt, asIntOf, hw, hlt, run_info ht.info, hb, hroom, run_zero ht.info ht.zero]
        simpa using hst
      | some a =>
        simp [Builtin.append_, hst0, hx, hsrun, hxrun, run_size ht.info, asInt, asIntOf, hw, hlt, run_info ht.info, hb, hroom, hz, run_zero ht.info ht.zero, e0, hst]
  · have hxrun := run_underlying hxu
    rcases hd with ⟨e', rfl⟩ | rfl
    · cases base with
      | none =>
        simp [Builtin.append_, hst0, hx, hsrun, hxrun, run_size ht.info, hlen, hroom, hfirst]
        simpa using hst
      | some a => simp [Builtin.append_, hst0, hx, hsrun, hxrun, run_size ht.info, hlen, hroom, hfirst, hst]
    · cases base with
      | none =>
        simp [Builtin.append_, hst0, hx, hsrun, hxrun, run_size ht.info, hlen, hroom, hfirst]
        simpa using hst
      | some a => simp [Builtin.append_, hst0, hx, hsrun, hxrun, run_size ht.info, hlen, hroom, hfirst, hst]

theorem run_append_grow {ts : Array TypeId} {e : TypeId} {i : TypeInfo} {zv : Value} (ht : AppTypes P ts e i zv) {t : TypeId} {base : Option Addr} {sLen sCap n : Nat} {x : Value} {w : World} {rnew rold : Array Value}
    (ha : Appended P ts i zv x n w.drew rnew) (hn : n ≤ 1048576) (hroom : ¬ sLen + n ≤ sCap) (hneed : sLen + n ≤ 1048576)
    (hold : (Builtin.firstCells i.size sLen (.slice base sLen sCap)).run P w.drew = .ok rold w.drew) :
    ∃ newCap, sLen + n ≤ newCap ∧ (Builtin.append_ ts t #[.slice base sLen sCap, x]).run P w =
      .ok (.slice (some ⟨w.heap.size, 0, none⟩) (sLen + n) newCap) { w.drew with heap := w.heap.push (.cells (rold ++ rnew ++ Builtin.zeroCells zv.cells (newCap - (sLen + n))) e) } := by
  obtain ⟨st, hst0, hsu⟩ := ht.st
  have hsrun := run_underlying hsu
  have hmax' : ¬ (9223372036854775807 < (sLen : Int) + (n : Int)) := by omega
  have hnext : ¬ (281474976710656 < Builtin.nextslicecap (sLen + n) sCap * i.bytes) := by
    have h1 := next_le (sLen + n) sCap (by omega)
    have h2 : Builtin.nextslicecap (sLen + n) sCap * i.bytes ≤ 4194304 * 1048576 := Nat.mul_le_mul (by omega) ht.bytes
    omega
  refine ⟨(Question.appendCap (sLen + n) sCap e).cut (w.tape w.drawn (.appendCap (sLen + n) sCap e)), by simp [Question.cut], ?_⟩
  rcases ha with ⟨⟨xt, k, hx, hxu⟩, ⟨kk, rfl⟩, hnew⟩ | ⟨⟨xt, d, hx, hxu, hd⟩, hlen, hfirst⟩
  · have hxrun := run_underlying hxu
    have hw := wrap_small hn
    have hb := few_bytes hn ht.bytes
    have hlt : ¬ ((n : Int) < 0) := by omega
    by_cases hz : n * i.size = 0
    · have e0 : rnew = #[] := by rw [hnew, hz, range_none]
      simp [Builtin.append_, hst0, hx, hsrun, hxrun, run_size ht.info, asInt, asIntOf, hw, hlt, run_info ht.info, hb, hroom, hz, hmax', hnext, hold, run_zero ht.info ht.zero, newRow, e0, Question.forced]
      rfl
    · have e0 : Builtin.zeroCells zv.cells n = rnew := by rw [hnew, ← ht.size]; rfl
      simp [Builtin.append_, hst0, hx, hsrun, hxrun, run_size ht.info, asInt, asIntOf, hw, hlt, run_info ht.info, hb, hroom, hz, hmax', hnext, hold, run_zero ht.info ht.zero, newRow, e0, Question.forced]
      rfl
  · have hxrun := run_underlying hxu
    rcases hd with ⟨e', rfl⟩ | rfl
    · simp [Builtin.append_, hst0, hx, hsrun, hxrun, run_size ht.info, hlen, hroom, run_info ht.info, hmax', hnext, hold, hfirst, run_zero ht.info ht.zero, newRow, Question.forced]
      rfl
    · simp [Builtin.append_, hst0, hx, hsrun, hxrun, run_size ht.info, hlen, hroom, run_info ht.info, hmax', hnext, hold, hfirst, run_zero ht.info ht.zero, newRow, Question.forced]
      rfl

theorem cells_append {M : Mp} {a b : List AV} {ra rb rz : Array Value} (ha : VRels M a ra.toList) (hb : VRels M b rb.toList) : CellsOk M (a ++ b) (ra ++ rb ++ rz) 0 := by
  intro i v hi
  obtain ⟨rv, h1, h2⟩ := (ha.append hb).get hi
  have hlt : i < (ra.toList ++ rb.toList).length := by
    rcases Nat.lt_or_ge i (ra.toList ++ rb.toList).length with h | h
    · exact h
    · rw [List.getElem?_eq_none h] at h1; cases h1
  refine ⟨rv, ?_, h2⟩
  rw [Nat.zero_add, ← Array.getElem?_toList]
  simp only [Array.toList_append]
  rw [List.getElem?_append_left hlt]
  exact h1

theorem zeroCells_size (z : Array Value) (n : Nat) : (Builtin.zeroCells z n).size = n * z.size := by simp [Builtin.zeroCells]

theorem Inv.drew {h : H} {M : Mp} {w : World} (hi : Inv h M w) : Inv h M w.drew := ⟨hi.obj, hi.lt, hi.inj⟩

/-- What append's growth leaves. -/
theorem post_grow {h h' : H} {M : Mp} {w : World} {e : TypeId} {cs new : List AV} {rold rnew rz : Array Value} (hinv : Inv h M w) (hM : M h.next = none)
    (hn : h'.next = h.next + 1) (hget : ∀ j, h'.t.get j = if j = h.next then some (.cells (cs ++ new) e 0 0 false false) else h.t.get j)
    (ho : VRels M cs rold.toList) (hnew : VRels M new rnew.toList) :
    Post h M w h' (fun b => if b = h.next then some (w.heap.size, 0, (rold ++ rnew ++ rz).size) else M b) { w.drew with heap := w.heap.push (.cells (rold ++ rnew ++ rz) e) } := by
  have h1 := ho.length
  have h2 := hnew.length
  refine Post.make hinv hM (by omega) (Nat.le_refl _) (by omega) hget rfl ?_ rfl rfl rfl
  refine ⟨_, (0, 0), rfl, rfl, ?_, cells_append ho hnew, .inl rfl, fun _ => rfl⟩
  simp at h1 h2 ⊢
  omega

theorem appendTo_sound {ts : Array TypeId} {e : TypeId} {i : TypeInfo} {zv : Value} (ht : AppTypes P ts e i zv) {h : H} {s : AV} {n : Nat} {new : List AV} {k : AV → H → Bool}
    (hn : n ≤ 1048576) (h1 : allOne new = true) (hlen : new.length = n * i.size) (hk : appendTo h e i.size s n new k = true) :
    ∃ v h', k v h' = true ∧ ∀ M w rs x t, Inv h M w → Fresh M h h' → VRel M s rs →
      (∀ w, Inv h M w → ∃ rnew : Array Value, Appended P ts i zv x n w rnew ∧ VRels M new rnew.toList) →
      ∃ rv M' w', (Builtin.append_ ts t #[rs, x]).run P w = .ok rv w' ∧ VRel M' v rv ∧ Post h M w h' M' w' := by
  unfold appendTo at hk
  split at hk
  · -- nil
    split at hk
    · refine ⟨_, h, hk, fun M w rs x t hinv _ hs ha => ?_⟩
      cases hs
      obtain ⟨rnew, h2, h3⟩ := ha w hinv
      exact ⟨_, M, w, run_append_room ht h2 hn (Nat.le_refl _) rfl, .nilslice, .refl hinv⟩
    · rename_i n
      replace hlen : new.length = (n + 1) * i.size := hlen
      replace hn : n + 1 ≤ 1048576 := hn
      obtain ⟨h', hk, hnx, hget⟩ := newK_spec hk
      refine ⟨_, h', hk, fun M w rs x t hinv hf hs ha => ?_⟩
      cases hs
      obtain ⟨rnew, h2, h3⟩ := ha w.drew hinv.drew
      obtain ⟨newCap, h4, h5⟩ := run_append_grow (t := t) (base := none) (sLen := 0) (sCap := 0) ht h2 hn (by omega) (by omega) (rold := #[]) rfl
      have hM := hf h.next (Nat.le_refl _) (by omega)
      have hp := post_grow (cs := []) (rold := #[]) (rz := Builtin.zeroCells zv.cells (newCap - (0 + (n + 1)))) hinv hM hnx (by simpa using hget) .nil h3
      refine ⟨_, _, _, h5, ?_, hp⟩
      have hl := h3.length
      have e1 : Value.slice (some ⟨w.heap.size, 0, none⟩) (0 + (n + 1)) newCap = .slice (some ⟨w.heap.size, 0 + 0, none⟩) (n + 1) newCap := by rw [Nat.zero_add]
      rw [e1]
      refine .sliceU (if_pos rfl) (by omega) ?_
      simp only [Array.size_append, zeroCells_size, ht.size, List.size_toArray, List.length_nil]
      have e2 : rnew.size = (n + 1) * i.size := by simp at hl; omega
      have e3 : newCap * i.size = (n + 1) * i.size + (newCap - (0 + (n + 1))) * i.size := by rw [← Nat.add_mul]; congr 1; omega
      omega
  · -- a slice whose capacity is known
    rename_i b off len cap
    rw [natK_eq] at hk
    split at hk
    · rename_i hroom
      replace hroom := ble_le hroom
      split at hk
      · refine ⟨_, h, hk, fun M w rs x t hinv _ hs ha => ?_⟩
        cases hs with
        | slice hm =>
          obtain ⟨rnew, h2, h3⟩ := ha w hinv
          have e0 : rnew.toList = [] := by generalize rnew.toList = l at h3; cases h3; rfl
          exact ⟨_, M, w, run_append_room ht h2 hn hroom (by simp only [e0]; rfl), .slice hm, .refl hinv⟩
      · rw [natK_eq] at hk
        replace hk := writeK_spec (P := P) hk
        obtain ⟨h', hk, hw⟩ := hk
        refine ⟨_, h', hk, fun M w rs x t hinv _ hs ha => ?_⟩
        cases hs with
        | slice hm =>
          rename_i β δ nn
          obtain ⟨rnew, h2, h3⟩ := ha w hinv
          obtain ⟨w', h4, h5⟩ := hw M w β δ nn _ hinv hm h3
          refine ⟨_, M, w', run_append_room ht h2 hn hroom ?_, .slice hm, h5⟩
          have ea : (⟨β, δ + off, none⟩ : Addr).add (len * i.size) = ⟨β, δ + off.add (len.mul i.size), none⟩ := by
            rw [addr_add]; simp [Nat.add_assoc]
          simp only [ea]
          exact h4
    · rename_i hroom
      have hroom : ¬ len + n ≤ cap := fun hc => by
        have : Nat.ble (len.add n) cap = true := Nat.ble_eq_true_of_le hc
        rw [this] at hroom; cases hroom
      unfold growK at hk
      replace hk := readK_spec hk
      obtain ⟨old, hk, hol, ⟨cs, e', lo, hi, mk, sh, hg, _⟩, hr⟩ := hk
      rw [catK_eq, natK_eq] at hk
      split at hk
      · rename_i hsm
        replace hsm := ble_le hsm
        obtain ⟨h', hk, hnx, hget⟩ := newK_spec hk
        refine ⟨_, h', hk, fun M w rs x t hinv hf hs ha => ?_⟩
        cases hs with
        | slice hm =>
          rename_i β δ nn
          obtain ⟨β', δ', m, hm', rl, hrl, hrr, hcell⟩ := hr M w hinv
          rw [hm] at hm'
          simp only [Option.some.injEq, Prod.mk.injEq] at hm'
          obtain ⟨rfl, rfl, rfl⟩ := hm'
          obtain ⟨rnew, h2, h3⟩ := ha w.drew hinv.drew
          have hload := run_loadCells_list (P := P) w.drew ⟨β, δ + off, none⟩ rl hcell
          have hrl' : rl.length = len * i.size := hrl
          rw [hrl'] at hload
          have hsmall : small = 1048576 := rfl
          have hsm' : len + n ≤ small := hsm
          obtain ⟨newCap, h4, h5⟩ := run_append_grow (t := t) (base := some ⟨β, δ + off, none⟩) ht h2 hn hroom (by omega) (rold := rl.toArray) hload
          have hM := hf h.next (Nat.le_refl _) (by omega)
          have hp := post_grow (cs := old) (rold := rl.toArray) (rz := Builtin.zeroCells zv.cells (newCap - (len + n))) hinv hM hnx hget (by simpa using hrr) h3
          refine ⟨_, _, _, h5, ?_, hp⟩
          have hl := h3.length
          have e1 : Value.slice (some ⟨w.heap.size, 0, none⟩) (len + n) newCap = .slice (some ⟨w.heap.size, 0 + 0, none⟩) (len + n) newCap := rfl
          rw [e1]
          refine .sliceU (if_pos rfl) (by simpa using h4) ?_
          simp only [Array.size_append, zeroCells_size, ht.size, List.size_toArray]
          have e2 : rnew.size = n * i.size := by simp at hl; omega
          have e3 : newCap * i.size = (len * i.size + n * i.size) + (newCap - (len + n)) * i.size := by rw [← Nat.add_mul, ← Nat.add_mul]; congr 1; omega
          omega
      · cases hk
  · -- a slice whose capacity is not known
    rename_i b off len z'
    split at hk
    · rename_i hz
      replace hz := Nat.eq_of_beq_eq_true hz
      subst hz
      split at hk
      · refine ⟨_, h, hk, fun M w rs x t hinv _ hs ha => ?_⟩
        cases hs with
        | sliceU hm hc hr =>
          obtain ⟨rnew, h2, h3⟩ := ha w hinv
          have hl := h3.length
          have e0 : rnew.toList = [] := by
            have : rnew.toList.length = 0 := by rw [← hl, hlen]; simp
            exact List.eq_nil_of_length_eq_zero this
          exact ⟨_, M, w, run_append_room ht h2 hn (by omega) (by simp only [e0]; rfl), .sliceU hm hc hr, .refl hinv⟩
      · rename_i n
        replace hlen : new.length = (n + 1) * i.size := hlen
        replace hn : n + 1 ≤ 1048576 := hn
        split at hk
        · rename_i cs e' lo hi mk sh hg
          rw [natK_eq, lenK_eq] at hk
          split at hk
          · rename_i hend
            replace hend := Nat.eq_of_beq_eq_true hend
            split at hk
            · rename_i hfro
              replace hfro := ble_le hfro
              split at hk
              · rename_i hee
                replace hee := Nat.eq_of_beq_eq_true hee
                subst hee
                unfold moveK at hk
                replace hk := readK_spec hk
                obtain ⟨old, hk, hol, ⟨cs', e', lo', hi', mk', sh', hg', hle, hold⟩, hr⟩ := hk
                rw [hg] at hg'
                cases hg'
                rw [catK_eq, natK_eq] at hk
                split at hk
                · rename_i hsm
                  replace hsm := ble_le hsm
                  split at hk
                  · rename_i hlow
                    rw [natK_eq, natK_eq] at hk
                    obtain ⟨h1', hk, hnx1, hget1⟩ := setObjK_spec hk
                    obtain ⟨h', hk, hnx, hget⟩ := newK_spec hk
                    rw [hnx1] at hk hget hnx
                    have hget' : ∀ j, h'.t.get j = if j = h.next then some (.cells (old ++ new) e (lo.sub off) (hi.sub off) mk true) else if j = b then none else h.t.get j := by
                      intro j; rw [hget, hget1]
                    refine ⟨_, h', hk, fun M w rs x t hinv hf hs ha => ?_⟩
                    cases hs with
                    | sliceU hm hc hroom =>
                      rename_i β δ nn cap
                      have hM := hf h.next (Nat.le_refl _) (by omega)
                      obtain ⟨hlt, c, fr, ho, hcs, hcl, hcells, hfr, hsh⟩ := hinv.bound hg hm
                      have hz1 : len.mul i.size = len * i.size := rfl
                      have hz2 : off.add (len.mul i.size) = off + len * i.size := rfl
                      by_cases hfit : len + (n + 1) ≤ cap
                      · -- there is room
                        obtain ⟨rnew, h2, h3⟩ := ha w hinv
                        have hl := h3.length
                        have hcap : cap * i.size = len * i.size + (n + 1) * i.size + (cap - (len + (n + 1))) * i.size := by rw [← Nat.add_mul, ← Nat.add_mul]; congr 1; omega
                        have hst := run_storeCells_ok (P := P) β (δ + off + len * i.size) e fr rnew.toList 0 c w ho (by simp at hl ⊢; omega) (h3.one h1) (by
                          intro j h4 h5
                          simp at hl h5
                          rcases hfr with h6 | ⟨h6, h7, h8⟩ | ⟨_, h6⟩
                          · omega
                          · rintro ⟨h9, h10⟩; simp at hend; omega
                          · rintro ⟨h9, h10⟩; omega)
                        simp only [Nat.add_zero] at hst
                        refine ⟨_, _, _, run_append_room (t := t) ht h2 hn hfit (by simp only [addr_add]; exact hst), ?_, Post.move (δ' := δ + off) hinv hg hm hM rfl hnx hget' (by simp) ?_ (fun j hj => setRow_other _ _ _ _ hj) rfl rfl rfl⟩
                        · have e1 : Value.slice (some ⟨β, δ + off, none⟩) (len + (n + 1)) cap = .slice (some ⟨β, (δ + off) + 0, none⟩) (len + (n + 1)) cap := rfl
                          rw [e1]
                          exact .sliceU (if_pos rfl) (by simpa using hfit) (by omega)
                        · rw [setRow_heap w β c _ e fr ho]
                          refine ⟨_, fr, rfl, ?_, ?_, ?_, ?_, by simp⟩
                          · simp at hl ⊢; omega
                          · simp at hend hol hl ⊢; omega
                          · intro j v hj
                            have hnewlen : new.length = rnew.size := by simpa using hl
                            have l2 : (c.toList.take (δ + off + len * i.size)).length = δ + off + len * i.size := by simp; omega
                            simp only [List.append_assoc, List.getElem?_toArray]
                            by_cases hjo : j < old.length
                            · rw [List.getElem?_append_left hjo, hold] at hj
                              rw [List.getElem?_take] at hj
                              have hjl : j < len.mul i.size := by omega
                              rw [if_pos hjl, List.getElem?_drop] at hj
                              obtain ⟨rv, h6, h7⟩ := hcells _ _ hj
                              refine ⟨rv, ?_, h7⟩
                              rw [List.getElem?_append_left (by omega), List.getElem?_take, if_pos (by omega), Array.getElem?_toList, ← h6, Nat.add_assoc]
                            · rw [List.getElem?_append_right (by omega)] at hj
                              obtain ⟨rv, h6, h7⟩ := h3.get hj
                              refine ⟨rv, ?_, h7⟩
                              have hjn : j - old.length < rnew.toList.length := by
                                rcases Nat.lt_or_ge (j - old.length) rnew.toList.length with h' | h'
                                · exact h'
                                · rw [List.getElem?_eq_none h'] at h6; cases h6
                              rw [List.getElem?_append_right (by omega), l2, List.getElem?_append_left (by omega), ← h6]
                              congr 1; omega
                          · unfold lowOk at hlow
                            rcases hfr with h6 | ⟨h6, h7, h8⟩ | ⟨h6, h7⟩
                            · exact .inl h6
                            · refine .inr (.inl ?_)
                              split at hlow
                              · rename_i hb; have := ble_le hb; omega
                              · have := ble_le hlow
                                have e1 : lo.sub off = lo - off := rfl
                                have e2 : hi.sub off = hi - off := rfl
                                omega
                            · exact .inr (.inr ⟨h6, h7⟩)
                      · -- it moves
                        obtain ⟨rnew, h2, h3⟩ := ha w.drew hinv.drew
                        obtain ⟨β', δ', m, hm', rl, hrl, hrr, hcell⟩ := hr M w hinv
                        rw [hm] at hm'
                        simp only [Option.some.injEq, Prod.mk.injEq] at hm'
                        obtain ⟨rfl, rfl, rfl⟩ := hm'
                        have hload := run_loadCells_list (P := P) w.drew ⟨β, δ + off, none⟩ rl hcell
                        have hrl' : rl.length = len * i.size := hrl
                        rw [hrl'] at hload
                        have hsmall : small = 1048576 := rfl
                        have hsm' : len + (n + 1) ≤ small := hsm
                        obtain ⟨newCap, h4, h5⟩ := run_append_grow (t := t) (base := some ⟨β, δ + off, none⟩) ht h2 hn hfit (by omega) (rold := rl.toArray) hload
                        have hl := h3.length
                        have hl2 := hrr.length
                        have hp : Post h M w h' (fun b => if b = h.next then some (w.heap.size, 0, (rl.toArray ++ rnew ++ Builtin.zeroCells zv.cells (newCap - (len + (n + 1)))).size) else M b)
                            { w.drew with heap := w.heap.push (.cells (rl.toArray ++ rnew ++ Builtin.zeroCells zv.cells (newCap - (len + (n + 1)))) e) } := by
                          have hsub : Inv ⟨h1'.t, h.next⟩ M w := hinv.sub (fun j o hj => by
                            have := hget1 j
                            rw [hj] at this
                            by_cases ej : j = b
                            · rw [if_pos ej] at this; cases this
                            · rw [if_neg ej] at this; exact this.symm) (Nat.le_refl _)
                          have hp1 : Post ⟨h1'.t, h.next⟩ M w h' _ _ := Post.make (c := h.next) (n := (rl.toArray ++ rnew ++ Builtin.zeroCells zv.cells (newCap - (len + (n + 1)))).size) (o := .cells (old ++ new) e (lo.sub off) (hi.sub off) mk true)
                            (obj := .cells (rl.toArray ++ rnew ++ Builtin.zeroCells zv.cells (newCap - (len + (n + 1)))) e)
                            (w' := { w.drew with heap := w.heap.push (.cells (rl.toArray ++ rnew ++ Builtin.zeroCells zv.cells (newCap - (len + (n + 1)))) e) })
                            hsub hM (by omega) (Nat.le_refl _) (by show h.next ≤ h'.next; omega) (by intro j; rw [hget]) rfl
                            ⟨_, (0, 0), rfl, rfl, by simp at hl hl2 ⊢; omega, cells_append (by simpa using hrr) h3, .inl rfl, by simp⟩ rfl rfl rfl
                          exact { ext := hp1.ext, only := hp1.only, inv := hp1.inv, img := fun j o β' δ' n' h6 h7 h8 => by
                                    obtain ⟨b0, o0, δ0, n0, h9, h10⟩ := hp1.img j o β' δ' n' h6 h7 h8
                                    have := hget1 b0
                                    rw [h9] at this
                                    by_cases ej : b0 = b
                                    · rw [if_pos ej] at this; cases this
                                    · rw [if_neg ej] at this; exact ⟨b0, o0, δ0, n0, this.symm, h10⟩
                                  frame := fun β' h6 _ => by show (w.heap.push _)[β']? = _; rw [Array.getElem?_push, if_neg (by omega)]
                                  size := hp1.size, next := by omega, os := rfl, tape := rfl, output := rfl }
                        refine ⟨_, _, _, h5, ?_, hp⟩
                        have e1 : Value.slice (some ⟨w.heap.size, 0, none⟩) (len + (n + 1)) newCap = .slice (some ⟨w.heap.size, 0 + 0, none⟩) (len + (n + 1)) newCap := rfl
                        rw [e1]
                        refine .sliceU (if_pos rfl) (by simpa using h4) ?_
                        simp only [Array.size_append, zeroCells_size, ht.size, List.size_toArray]
                        have e2 : rnew.size = (n + 1) * i.size := by simp at hl; omega
                        have e3 : newCap * i.size = (len * i.size + (n + 1) * i.size) + (newCap - (len + (n + 1))) * i.size := by rw [← Nat.add_mul, ← Nat.add_mul]; congr 1; omega
                        omega
                  · cases hk
                · cases hk
              · cases hk
            · cases hk
          · cases hk
        · cases hk
    · cases hk
  · cases hk

end
end Go.Proofs.YtnjobinioalipaaGreatDoor.Ev

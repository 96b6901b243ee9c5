/- The operations that only look: what the evaluator gives is what the model gives. -/
import Derived.Test.YtnjobinioalipaaGreatDoorEvInt
import Derived.Laws.Cells
import Derived.Laws.Tables
namespace Go.Proofs.YtnjobinioalipaaGreatDoor.Ev
open Go

structure EnvOk (E : Env) (P : Program) : Prop where
  fn : ∀ f x, E.fn.get f = some x → P.funcs[f]? = some x
  ty : ∀ t i, E.ty.get t = some i → P.info? t = some i
  ext : ∀ f, E.ext.get f = some .noEscape → ∀ v w, (callFunc f #[v]).run P w = .ok (.value v) w
  mixed : P.follows .mixedOrders = true
  enter : ∀ f fn, E.fn.get f = some fn → fn.body.isSome = true → ∀ args w, (callFunc f args).run P w = .ok (.enter f args) w

section
variable {E : Env} {P : Program}

theorem und_spec (hE : EnvOk E P) {t : TypeId} {k : TypeDesc → Bool} (h : E.und t k = true) : ∃ d, P.underlying t = some d ∧ k d = true := by
  unfold Env.und at h
  split at h
  · rename_i i hi
    have h1 := hE.ty _ _ hi
    split at h
    · rename_i n u hd
      split at h
      · rename_i j hj
        have h2 := hE.ty _ _ hj
        refine ⟨j.desc, ?_, h⟩
        obtain ⟨desc, _, _, _, _, _, _, _, _, _⟩ := i
        subst hd
        simp [Program.underlying, h1, h2]
      · cases h
    · rename_i d hd
      refine ⟨i.desc, ?_, h⟩
      obtain ⟨desc, _, _, _, _, _, _, _, _, _⟩ := i
      cases desc <;> first
        | (simp [Program.underlying, h1]; done)
        | (exact absurd rfl (hd _ _))
  · cases h

theorem size_spec (hE : EnvOk E P) {t : TypeId} {k : Nat → Bool} (h : E.sizeK t k = true) : ∃ i, P.info? t = some i ∧ k i.size = true := by
  unfold Env.sizeK at h
  split at h
  · rename_i i hi
    rw [natK_eq] at h
    exact ⟨i, hE.ty _ _ hi, h⟩
  · cases h

theorem run_info {t : TypeId} {i : TypeInfo} (h : P.info? t = some i) (w : World) : (typeInfo t).run P w = .ok i w := by simp [typeInfo, h]
theorem run_size {t : TypeId} {i : TypeInfo} (h : P.info? t = some i) (w : World) : (sizeOf t).run P w = .ok i.size w := by simp [sizeOf, run_info h]
theorem run_zero {t : TypeId} {i : TypeInfo} {v : Value} (h : P.info? t = some i) (hz : i.zero = some v) (w : World) : (zeroValue t).run P w = .ok v w := by
  simp [zeroValue, run_info h, hz]

theorem bytes_map {s : ByteArray} {l : List Nat} (h : s.data.toList.map (·.toNat) = l) : l.length = s.size := by subst h; simp

theorem const1K_spec {v : Value} {k : AV → Bool} (h : const1K v k = true) : ∃ av, k av = true ∧ ∀ M, VRel M av v := by
  unfold const1K at h
  split at h
  · rw [boolK_eq] at h; exact ⟨_, h, fun M => .bool _⟩
  · rw [intK_eq] at h; exact ⟨_, h, fun M => .int _ _⟩
  · rw [bytesK_eq] at h; exact ⟨_, h, fun M => .str rfl⟩
  · exact ⟨_, h, fun M => .nilptr⟩
  · exact ⟨_, h, fun M => .nilslice⟩
  · exact ⟨_, h, fun M => .nilmap⟩
  · exact ⟨_, h, fun M => .nilFunc⟩
  · exact ⟨_, h, fun M => .nilIface⟩
  · cases h

theorem constsK_spec {vs : List Value} {k : List AV → Bool} (h : constsK vs k = true) : ∃ avs, k avs = true ∧ ∀ M, VRels M avs vs := by
  induction vs generalizing k with
  | nil => exact ⟨[], h, fun M => .nil⟩
  | cons v vs ih =>
    simp only [constsK] at h
    obtain ⟨a, h1, h2⟩ := const1K_spec h
    obtain ⟨as, h3, h4⟩ := ih h1
    exact ⟨a :: as, h3, fun M => .cons (h2 M) (h4 M)⟩

theorem constK_spec {v : Value} {k : AV → Bool} (h : constK v k = true) : ∃ av, k av = true ∧ ∀ M, VRel M av v := by
  unfold constK at h
  split at h
  · obtain ⟨l, h1, h2⟩ := constsK_spec h; exact ⟨_, h1, fun M => .agg (h2 M)⟩
  · obtain ⟨l, h1, h2⟩ := constsK_spec h; exact ⟨_, h1, fun M => .tuple (h2 M)⟩
  · exact const1K_spec h

theorem zero_spec (hE : EnvOk E P) {t : TypeId} {k : AV → Bool} (h : E.zeroK t k = true) :
    ∃ i v av, P.info? t = some i ∧ i.zero = some v ∧ (∀ M, VRel M av v) ∧ k av = true := by
  unfold Env.zeroK at h
  split at h
  · rename_i i hi
    split at h
    · rename_i v hv
      obtain ⟨av, h1, h2⟩ := constK_spec h
      exact ⟨i, v, av, hE.ty _ _ hi, hv, h2, h1⟩
    · cases h
  · cases h

theorem zcells_spec (hE : EnvOk E P) {t : TypeId} {k : List AV → Bool} (h : E.zcellsK t k = true) :
    ∃ i v cs, P.info? t = some i ∧ i.zero = some v ∧ (∀ M, VRels M cs v.cells.toList) ∧ v.cells.size = i.size ∧ cs.length = i.size ∧ k cs = true := by
  unfold Env.zcellsK at h
  split at h
  · rename_i i hi
    split at h
    · rename_i v hv
      obtain ⟨av, h1, h2⟩ := constK_spec h
      rw [lenK_eq] at h1
      split at h1
      · rename_i he
        have he := Nat.eq_of_beq_eq_true he
        have h3 := fun M => (h2 M).cells
        have h4 := (h3 fun _ => none).length
        exact ⟨i, v, av.cells, hE.ty _ _ hi, hv, h3, by simp at he h4; omega, by omega, h1⟩
      · cases h1
    · cases h
  · cases h

theorem agg_spec (hE : EnvOk E P) {t : TypeId} {k : Bool → Bool} (h : E.aggK t k = true) : ∃ g, k g = true ∧ ∀ w, (isAgg t).run P w = .ok g w := by
  unfold Env.aggK at h
  obtain ⟨d, h1, h2⟩ := und_spec hE h
  have hr := run_underlying h1
  split at h2
  · exact ⟨true, h2, fun w => by simp [isAgg, hr]⟩
  · exact ⟨true, h2, fun w => by simp [isAgg, hr]⟩
  · rename_i hn1 hn2
    refine ⟨false, h2, fun w => ?_⟩
    cases d <;> first
      | (simp [isAgg, hr]; done)
      | (exact absurd rfl (hn1 _))
      | (exact absurd rfl (hn2 _ _))

/- Operands. -/

def OpndRel (M : Mp) (r : Regs) (a : Act) : Operand → Prop
  | .tmp t => VRel M ((r.get t).getD (.tuple [])) (a.tmps.getD t undef)
  | _ => True

theorem opnd_spec {r : Regs} {x : Operand} {k : AV → Bool} (h : opnd r x k = true) : ∃ v, k v = true ∧ ∀ M a, OpndRel M r a x → VRel M v (a.eval x) := by
  unfold opnd at h
  split at h
  · rename_i t
    split at h
    · rename_i v hv; exact ⟨v, h, fun M a hr => by simpa [OpndRel, hv, Act.eval] using hr⟩
    · rename_i hv; exact ⟨_, h, fun M a hr => by simpa [OpndRel, hv, Act.eval] using hr⟩
  · obtain ⟨v, h1, h2⟩ := constK_spec h; exact ⟨v, h1, fun M a _ => h2 M⟩
  · exact ⟨_, h, fun M a _ => .func .nil .nil⟩
  · cases h

theorem opnds_spec {r : Regs} {xs : List Operand} {k : List AV → Bool} (h : opnds r xs k = true) :
    ∃ vs, k vs = true ∧ ∀ M a, (∀ x ∈ xs, OpndRel M r a x) → VRels M vs (xs.map a.eval) := by
  induction xs generalizing k with
  | nil => exact ⟨[], h, fun M a _ => .nil⟩
  | cons x xs ih =>
    simp only [opnds] at h
    obtain ⟨v, h1, h2⟩ := opnd_spec h
    obtain ⟨vs, h3, h4⟩ := ih h1
    exact ⟨v :: vs, h3, fun M a hr => .cons (h2 M a (hr x (by simp))) (h4 M a fun y hy => hr y (by simp [hy]))⟩

theorem opndO_spec {r : Regs} {x : Option Operand} {k : Option AV → Bool} (h : opndO r x k = true) :
    ∃ v, k v = true ∧ ∀ M a, (∀ y, x = some y → OpndRel M r a y) → (v = none ∧ x = none) ∨ ∃ v' y, v = some v' ∧ x = some y ∧ VRel M v' (a.eval y) := by
  unfold opndO at h
  split at h
  · rename_i x
    obtain ⟨v, h1, h2⟩ := opnd_spec h
    exact ⟨some v, h1, fun M a hr => .inr ⟨v, x, rfl, rfl, h2 M a (hr x rfl)⟩⟩
  · exact ⟨none, h, fun M a _ => .inl ⟨rfl, rfl⟩⟩

inductive PRel (M : Mp) : List (Nat × AV) → List (Nat × Value) → Prop where
  | nil : PRel M [] []
  | cons {i : Nat} {v : AV} {rv : Value} {ps : List (Nat × AV)} {rps : List (Nat × Value)} (h : VRel M v rv) (hs : PRel M ps rps) : PRel M ((i, v) :: ps) ((i, rv) :: rps)

theorem partsK_spec {r : Regs} {xs : List (Nat × Operand)} {k : List (Nat × AV) → Bool} (h : partsK r xs k = true) :
    ∃ ps, k ps = true ∧ ∀ M a, (∀ x ∈ xs, OpndRel M r a x.2) → PRel M ps (xs.map fun (i, x) => (i, a.eval x)) := by
  induction xs generalizing k with
  | nil => exact ⟨[], h, fun M a _ => .nil⟩
  | cons x xs ih =>
    obtain ⟨i, x⟩ := x
    simp only [partsK] at h
    obtain ⟨v, h1, h2⟩ := opnd_spec h
    obtain ⟨vs, h3, h4⟩ := ih h1
    exact ⟨_, h3, fun M a hr => .cons (h2 M a (hr (i, x) (by simp))) (h4 M a fun y hy => hr y (by simp [hy]))⟩

/- Memory that is looked at. -/

theorem readK_spec {h : H} {b off n : Nat} {k : List AV → Bool} (hk : readK h b off n k = true) :
    ∃ l, k l = true ∧ l.length = n ∧ (∃ cs e lo hi mk sh, h.t.get b = some (.cells cs e lo hi mk sh) ∧ off + n ≤ cs.length ∧ l = (cs.drop off).take n) ∧
      ∀ M w, Inv h M w → ∃ β δ m, M b = some (β, δ, m) ∧ ∃ rl : List Value, rl.length = n ∧ VRels M l rl ∧
        (∀ j v, rl[j]? = some v → w.cell? ((⟨β, δ + off, none⟩ : Addr).add j) = some v) := by
  unfold readK at hk
  split at hk
  · rename_i cs e lo hi mk sh hg
    rw [dropK_iff] at hk
    obtain ⟨h1, hk⟩ := hk
    rw [takeK_iff] at hk
    obtain ⟨h2, hk⟩ := hk
    have hl : (List.take n (cs.drop off)).length = n := by simp at h2 ⊢; omega
    refine ⟨_, hk, hl, ⟨cs, e, lo, hi, mk, sh, hg, by simp at h2; omega, rfl⟩, fun M w hi => ?_⟩
    obtain ⟨β, δ, m, h3, c, fr, h4, h5, h6, h7, h8⟩ := hi.obj _ _ hg
    refine ⟨β, δ, m, h3, (List.take n (c.toList.drop (δ + off))), ?_, ?_, ?_⟩
    · simp at h2 ⊢; omega
    · refine VRels.of_get (by simp at h2 ⊢; omega) fun i v hv => ?_
      have hlt : i < n := by
        rcases Nat.lt_or_ge i n with h' | h'
        · exact h'
        · rw [List.getElem?_eq_none (by simp; omega)] at hv; cases hv
      rw [List.getElem?_take, if_pos hlt, List.getElem?_drop] at hv
      obtain ⟨rv, h9, h10⟩ := h7 _ _ hv
      refine ⟨rv, ?_, h10⟩
      rw [List.getElem?_take, if_pos hlt, List.getElem?_drop, ← h9, Array.getElem?_toList, Nat.add_assoc]
    · intro j v hv
      have hlt : j < n := by
        rcases Nat.lt_or_ge j n with h' | h'
        · exact h'
        · rw [List.getElem?_eq_none (by simp; omega)] at hv; cases hv
      rw [List.getElem?_take, if_pos hlt, List.getElem?_drop, Array.getElem?_toList] at hv
      have hadd : (⟨β, δ + off, none⟩ : Addr).add j = ⟨β, δ + off + j, none⟩ := by unfold Addr.add; split <;> simp_all
      rw [hadd]
      simp [World.cell?, h4, hv]
  · cases hk

theorem cellK_spec {h : H} {b off : Nat} {k : AV → Bool} (hk : cellK h b off k = true) :
    ∃ v, k v = true ∧ ∀ M w, Inv h M w → ∃ β δ m rv, M b = some (β, δ, m) ∧ w.cell? ⟨β, δ + off, none⟩ = some rv ∧ VRel M v rv := by
  unfold cellK at hk
  split at hk
  · rename_i cs e lo hi mk sh hg
    rw [nthK_iff] at hk
    obtain ⟨v, h1, hk⟩ := hk
    refine ⟨v, hk, fun M w hi => ?_⟩
    obtain ⟨β, δ, m, h3, c, fr, h4, h5, h6, h7, h8⟩ := hi.obj _ _ hg
    obtain ⟨rv, h9, h10⟩ := h7 _ _ h1
    exact ⟨β, δ, m, rv, h3, by simp [World.cell?, h4, h9], h10⟩
  · cases hk

theorem loadK_spec (hE : EnvOk E P) {h : H} {t : TypeId} {p : AV} {k : AV → Bool} (hk : loadK E h t p k = true) :
    ∃ v, k v = true ∧ ∀ M w rp, Inv h M w → VRel M p rp → ∃ a rv, rp = .pointer (some a) ∧ (loadVar t a).run P w = .ok rv w ∧ VRel M v rv := by
  unfold loadK at hk
  split at hk
  · rename_i b off
    obtain ⟨g, h1, h2⟩ := agg_spec hE hk
    cases g with
    | true =>
      simp only at h1
      obtain ⟨i, h3, h4⟩ := size_spec hE h1
      obtain ⟨l, h5, h6, _, h7⟩ := readK_spec h4
      refine ⟨_, h5, fun M w rp hi hp => ?_⟩
      obtain ⟨β, δ, m, h8, rl, h9, h10, h11⟩ := h7 M w hi
      cases hp with
      | ptr hm =>
        rw [hm] at h8
        simp only [Option.some.injEq, Prod.mk.injEq] at h8
        obtain ⟨rfl, rfl, rfl⟩ := h8
        refine ⟨_, _, rfl, ?_, .agg (rcs := rl.toArray) (by simpa using h10)⟩
        have := run_loadCells_list (P := P) w _ rl h11
        rw [h9] at this
        simp [loadVar, h2, run_size h3, this]
    | false =>
      simp only at h1
      obtain ⟨v, h5, h7⟩ := cellK_spec h1
      refine ⟨_, h5, fun M w rp hi hp => ?_⟩
      obtain ⟨β, δ, m, rv, h8, h9, h10⟩ := h7 M w hi
      cases hp with
      | ptr hm =>
        rw [hm] at h8
        simp only [Option.some.injEq, Prod.mk.injEq] at h8
        obtain ⟨rfl, rfl, rfl⟩ := h8
        exact ⟨_, rv, rfl, by simp [loadVar, h2, h9], h10⟩
  · cases hk

theorem partK_spec (hE : EnvOk E P) {t : TypeId} {cs : List AV} {off : Nat} {k : AV → Bool} (hk : partK E t cs off k = true) :
    ∃ v, k v = true ∧ ∀ M rcs, VRels M cs rcs → ∃ rv, (∀ w, (part t rcs.toArray off).run P w = .ok rv w) ∧ VRel M v rv := by
  unfold partK at hk
  obtain ⟨g, h1, h2⟩ := agg_spec hE hk
  cases g with
  | true =>
    simp only at h1
    obtain ⟨i, h3, h4⟩ := size_spec hE h1
    rw [dropK_iff] at h4
    obtain ⟨h5, h4⟩ := h4
    rw [takeK_iff] at h4
    obtain ⟨h6, h4⟩ := h4
    refine ⟨_, h4, fun M rcs hr => ⟨.agg (rcs.toArray.extract off (off + i.size)), fun w => by simp [part, h2, run_size h3], ?_⟩⟩
    refine .agg ?_
    have := (hr.drop off).take i.size
    simpa [List.extract_eq_take_drop] using this
  | false =>
    simp only at h1
    rw [nthK_iff] at h1
    obtain ⟨v, h3, h4⟩ := h1
    refine ⟨v, h4, fun M rcs hr => ?_⟩
    obtain ⟨rv, h5, h6⟩ := hr.get h3
    exact ⟨rv, fun w => by simp [part, h2, h5], h6⟩

/- Parts put into cells. -/

theorem fold_put (off : Nat) : ∀ (vs : List Value) (j : Nat) (cs : Array Value), off + j + vs.length ≤ cs.size →
    ((vs.zipIdx j).foldl (fun cs (x : Value × Nat) => cs.setIfInBounds (off + x.2) x.1) cs).toList = cs.toList.take (off + j) ++ (vs ++ cs.toList.drop (off + j + vs.length)) := by
  intro vs
  induction vs with
  | nil => intro j cs _; simp
  | cons v vs ih =>
    intro j cs hl
    simp only [List.length_cons] at hl
    simp only [List.zipIdx_cons, List.foldl_cons]
    rw [ih (j + 1) _ (by simp; omega)]
    apply List.ext_getElem?
    intro i
    have hlt : off + j < cs.size := by omega
    simp only [Array.toList_setIfInBounds]
    have e1 : off + (j + 1) = off + j + 1 := by omega
    rw [e1]
    by_cases h1 : i < off + j
    · simp [List.getElem?_append, h1, Nat.min_eq_left (show off + j ≤ cs.size by omega), Nat.min_eq_left (show off + j + 1 ≤ cs.size by omega), show i < off + j + 1 by omega, show ¬ off + j = i by omega]
    · by_cases h2 : i = off + j
      · subst h2
        simp [List.getElem?_append, Nat.min_eq_left (show off + j ≤ cs.size by omega), Nat.min_eq_left (show off + j + 1 ≤ cs.size by omega)]
      · obtain ⟨d, rfl⟩ : ∃ d, i = off + j + 1 + d := ⟨i - (off + j + 1), by omega⟩
        have l1 : (List.take (off + j + 1) (cs.toList.set (off + j) v)).length = off + j + 1 := by simp; omega
        have l2 : (List.take (off + j) cs.toList).length = off + j := by simp; omega
        have A : (List.take (off + j + 1) (cs.toList.set (off + j) v) ++ (vs ++ (cs.toList.set (off + j) v).drop (off + j + 1 + vs.length)))[off + j + 1 + d]? = (vs ++ (cs.toList.set (off + j) v).drop (off + j + 1 + vs.length))[d]? :=
          (List.getElem?_append_right (by rw [l1]; omega)).trans (by rw [l1]; congr 1; omega)
        have B : (List.take (off + j) cs.toList ++ (v :: vs ++ cs.toList.drop (off + j + (v :: vs).length)))[off + j + 1 + d]? = (v :: (vs ++ cs.toList.drop (off + j + (v :: vs).length)))[d + 1]? :=
          (List.getElem?_append_right (by rw [l2]; omega)).trans (by rw [l2]; congr 1; omega)
        rw [A, B, List.getElem?_cons_succ]
        by_cases h3 : d < vs.length
        · rw [List.getElem?_append_left h3, List.getElem?_append_left h3]
        · rw [List.getElem?_append_right (by omega), List.getElem?_append_right (by omega), List.getElem?_drop, List.getElem?_drop, List.getElem?_set, if_neg (by omega)]
          congr 1
          simp only [List.length_cons]
          omega

theorem VRels.put {M : Mp} {cs : List AV} {rcs : List Value} {vs : List AV} {rvs : List Value} (h : VRels M cs rcs) (h' : VRels M vs rvs) (off : Nat) :
    VRels M (cs.take off ++ (vs ++ cs.drop (off + vs.length))) (rcs.take off ++ (rvs ++ rcs.drop (off + rvs.length))) := by
  rw [← h'.length]
  exact (h.take off).append (h'.append (h.drop _))

theorem fillK_spec {place : Nat → (Nat → Nat → Bool) → Bool} {rplace : Nat → Option (Nat × Nat)}
    (hp : ∀ i kk, place i kk = true → ∃ o n, rplace i = some (o, n) ∧ kk o n = true) :
    ∀ (ps : List (Nat × AV)) (cs : List AV) (k : List AV → Bool), fillK place cs ps k = true →
      ∃ cs', k cs' = true ∧ cs'.length = cs.length ∧ ∀ M (rcs : Array Value) rps, VRels M cs rcs.toList → PRel M ps rps →
        ∃ rcs' : Array Value, Instr.fill rplace rcs rps = some rcs' ∧ VRels M cs' rcs'.toList := by
  intro ps
  induction ps with
  | nil => intro cs k h; exact ⟨cs, h, rfl, fun M rcs rps h1 h2 => by cases h2; exact ⟨rcs, rfl, h1⟩⟩
  | cons p ps ih =>
    obtain ⟨i, v⟩ := p
    intro cs k h
    simp only [fillK] at h
    obtain ⟨o, n, h1, h2⟩ := hp _ _ h
    rw [lenK_eq] at h2
    split at h2
    · rename_i hm
      have hm := Nat.eq_of_beq_eq_true hm
      obtain ⟨h3, h4⟩ := putK_iff _ _ _ _ h2
      obtain ⟨cs', h5, h6, h7⟩ := ih _ _ h4
      refine ⟨cs', h5, by rw [h6]; simp; omega, fun M rcs rps hr hps => ?_⟩
      cases hps with
      | cons hv hs =>
        rename_i rv rps
        have hc := hv.cells
        have hlen := hc.length
        have hlen2 := hr.length
        have hput := hr.put hc o
        have hfold := fold_put o rv.cells.toList 0 rcs (by simp at hlen hlen2 ⊢; omega)
        simp only [Nat.add_zero] at hfold
        obtain ⟨rcs', h8, h9⟩ := h7 M ((rv.cells.toList.zipIdx 0).foldl (fun cs (x : Value × Nat) => cs.setIfInBounds (o + x.2) x.1) rcs) rps (by rw [hfold]; exact hput) hs
        refine ⟨rcs', ?_, h9⟩
        simp only [Instr.fill, h1]
        have hsz : rv.cells.size = n := by simp at hlen; omega
        have hb : ¬ (rv.cells.size ≠ n ∨ o + rv.cells.size > rcs.size) := by simp at hlen hlen2; omega
        simp only [ne_eq, Bool.or_eq_true, decide_eq_true_eq] at hb ⊢
        rw [if_neg (by simpa using hb)]
        rw [← h8]
        congr 1
        rw [← Array.foldl_toList, Array.toList_zipIdx]
    · cases h2

theorem placesK_spec (hE : EnvOk E P) {fs : List Field} {k : List (Nat × Nat) → Bool} (h : placesK E fs k = true) :
    ∃ pl, k pl = true ∧ fs.mapM (fun f => (P.info? f.type).map fun i => (f.offset, i.size)) = some pl := by
  induction fs generalizing k with
  | nil => exact ⟨[], h, rfl⟩
  | cons f fs ih =>
    simp only [placesK] at h
    obtain ⟨i, h1, h2⟩ := size_spec hE h
    rw [natK_eq] at h2
    obtain ⟨pl, h3, h4⟩ := ih h2
    exact ⟨_, h3, by simp [List.mapM_cons, h1, h4]⟩

end
end Go.Proofs.YtnjobinioalipaaGreatDoor.Ev

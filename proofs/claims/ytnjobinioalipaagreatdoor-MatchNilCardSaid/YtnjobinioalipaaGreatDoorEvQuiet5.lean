/- The operations that only look: conversions, lengths; all of them together. -/
import Derived.Test.YtnjobinioalipaaGreatDoorEvQuiet4
namespace Go.Proofs.YtnjobinioalipaaGreatDoor.Ev
open Go

section
variable {E : Env} {P : Program}

theorem depth_succ (P : Program) : ∃ d, P.depth = d + 1 + 1 := ⟨2 * (P.types.size + Made.depth), rfl⟩

theorem sameLayout_refl (P : Program) (t : TypeId) : sameLayout P P.depth t t = true := by
  obtain ⟨d, hd⟩ := depth_succ P
  rw [hd]
  simp [sameLayout]

/-- A variable of a row's own element type lies in it. -/
theorem liesAt_own {u : TypeId} {i : TypeInfo} (hi : P.info? u = some i) (hz : i.size ≠ 0) {off n cells : Nat} (hoff : off % i.size = 0) (hle : off / i.size + n ≤ cells / i.size) :
    liesAt P P.depth u (cells / P.cellsOf u) off u n = true := by
  have hs : P.cellsOf u = i.size := by simp [Program.cellsOf, hi]
  have hl := sameLayout_refl P u
  obtain ⟨d, hd⟩ := depth_succ P
  rw [hd] at hl ⊢
  rw [liesAt, rowAt.eq_def]
  simp [hs, hz, hoff, hle, hd, hl]

theorem convK_sound (hE : EnvOk E P) {h : H} {src dst : TypeId} {x : AV} {k : AV → Bool} (hk : convK E h src dst x k = true) :
    ∃ v, k v = true ∧ ∀ M w rx, Inv h M w → VRel M x rx → ∃ rv, VRel M v rv ∧ (convert src dst rx).run P w = .ok rv w := by
  unfold convK at hk
  replace hk := und_spec hE hk
  obtain ⟨ds, hsu, hk⟩ := hk
  replace hk := und_spec hE hk
  obtain ⟨d, hu, hk⟩ := hk
  have hsrun := run_underlying hsu
  have hrun := run_underlying hu
  split at hk
  · rw [wrapK_eq] at hk
    refine ⟨_, hk, fun M w rx hi hx => ?_⟩
    cases hx
    exact ⟨_, .int _ _, by simp [convert, hsrun, hrun, Conv.intToInt]⟩
  · refine ⟨_, hk, fun M w rx hi hx => ?_⟩
    cases hx with
    | str hs => exact ⟨_, .str hs, by simp [convert, hsrun, hrun]⟩
  · split at hk
    · rename_i e
      replace hk := und_spec hE hk
      obtain ⟨de, heu, hk⟩ := hk
      have herun := run_underlying heu
      split at hk
      · refine ⟨_, hk, fun M w rx hi hx => ?_⟩
        cases hx
        exact ⟨.string .empty, .str rfl, by simp [convert, hsrun, hrun, herun, Conv.bytesToString]⟩
      · cases hk
    · cases hk
  · rename_i b off len c
    split at hk
    · rename_i e
      replace hk := und_spec hE hk
      obtain ⟨de, heu, hk⟩ := hk
      have herun := run_underlying heu
      split at hk
      · replace hk := readK_spec hk
        obtain ⟨l, hk, hlen, _, hr⟩ := hk
        replace hk := bytesOfK_spec hk
        obtain ⟨s, hk, hsl, hb⟩ := hk
        refine ⟨_, hk, fun M w rx hi hx => ?_⟩
        obtain ⟨β, δ, m, hm, rl, hrl, hrr, hcell⟩ := hr M w hi
        obtain ⟨bs, hbs, hrb⟩ := hb M rl hrr
        subst hrb
        cases hx with
        | slice hm' =>
          rw [hm] at hm'
          simp only [Option.some.injEq, Prod.mk.injEq] at hm'
          obtain ⟨rfl, rfl, rfl⟩ := hm'
          obtain ⟨str, h1, h2⟩ := run_bytesToString (P := P) (c := c) hcell
          have hl2 : bs.length = len := by simpa using hrl
          rw [hl2] at h2
          exact ⟨.string str, .str (by rw [h1, hbs]), by simp [convert, hsrun, hrun, herun, h2]⟩
      · cases hk
    · cases hk
  · rename_i b off len z
    split at hk
    · rename_i e
      replace hk := und_spec hE hk
      obtain ⟨de, heu, hk⟩ := hk
      have herun := run_underlying heu
      split at hk
      · replace hk := readK_spec hk
        obtain ⟨l, hk, hlen, _, hr⟩ := hk
        replace hk := bytesOfK_spec hk
        obtain ⟨s, hk, hsl, hb⟩ := hk
        refine ⟨_, hk, fun M w rx hi hx => ?_⟩
        obtain ⟨β, δ, m, hm, rl, hrl, hrr, hcell⟩ := hr M w hi
        obtain ⟨bs, hbs, hrb⟩ := hb M rl hrr
        subst hrb
        cases hx with
        | sliceU hm' hc hroom =>
          rename_i c
          rw [hm] at hm'
          simp only [Option.some.injEq, Prod.mk.injEq] at hm'
          obtain ⟨rfl, rfl, rfl⟩ := hm'
          obtain ⟨str, h1, h2⟩ := run_bytesToString (P := P) (c := c) hcell
          have hl2 : bs.length = len := by simpa using hrl
          rw [hl2] at h2
          exact ⟨.string str, .str (by rw [h1, hbs]), by simp [convert, hsrun, hrun, herun, h2]⟩
      · cases hk
    · cases hk
  · rename_i b off
    split at hk
    · rename_i t
      replace hk := size_spec hE hk
      obtain ⟨i, hi0, hk⟩ := hk
      split at hk
      · cases hk
      · rename_i n hz
        split at hk
        · rename_i cs e lo hi' mk sh hg
          rw [lenK_eq] at hk
          split at hk
          · rename_i hlt
            replace hlt := blt_lt hlt
            refine ⟨_, hk, fun M w rx hi hx => ?_⟩
            cases hx with
            | ptr hm =>
              rename_i β δ m
              obtain ⟨hb, c, fr, ho, hc, hl, _⟩ := hi.bound hg hm
              have hsh : w.shape? β = some (e, c.size) := by simp [World.shape?, ho]
              refine ⟨_, .ptr hm, ?_⟩
              have hlt' : ¬ c.size ≤ δ + off := by simp at hlt; omega
              simp [convert, hsrun, hrun, Conv.unsafePointer, Conv.seenAt, viewAt, cellsIn, hsh, run_size hi0, hz]
              omega
          · cases hk
        · cases hk
    · cases hk
  · split at hk
    · rename_i u b off _
      replace hk := size_spec hE hk
      obtain ⟨i, hi0, hk⟩ := hk
      split at hk
      · cases hk
      · rename_i n hz
        split at hk
        · rename_i cs e lo hi' mk hg
          rw [lenK_eq] at hk
          split at hk
          · rename_i he
            replace he := Nat.eq_of_beq_eq_true he
            subst he
            split at hk
            · split at hk
              · rename_i hle
                replace hle := ble_le hle
                refine ⟨_, hk, fun M w rx hi hx => ?_⟩
                cases hx with
                | ptr hm =>
                  rename_i β δ m
                  obtain ⟨hb, c, fr, ho, hc, hl, _, _, hδ⟩ := hi.bound hg hm
                  have hδ := hδ rfl
                  subst hδ
                  have hsh : w.shape? β = some (e, c.size) := by simp [World.shape?, ho]
                  refine ⟨_, .ptr hm, ?_⟩
                  have hlie := liesAt_own (P := P) hi0 (by omega) (off := 0) (n := 1) (cells := c.size) (by simp) (by
                    have : i.size ≤ c.size := by simp at hle; omega
                    have := Nat.div_pos this (by omega)
                    simp; omega)
                  simp [convert, hsrun, hrun, Conv.unsafePointer, Conv.seenAt, viewAt, hsh, run_size hi0, hz, variablesAt, hlie]
              · cases hk
            · cases hk
          · cases hk
        · cases hk
    · cases hk
  · cases hk

theorem lenOfK_sound (hE : EnvOk E P) {h : H} {ts : List TypeId} {args : List AV} {k : AV → Bool} (hk : lenOfK E h ts args k = true) :
    ∃ v, k v = true ∧ ∀ M w rargs t, Inv h M w → VRels M args rargs → ∃ rv, VRel M v rv ∧ (Builtin.len_ ts.toArray t rargs.toArray).run P w = .ok rv w := by
  unfold lenOfK at hk
  split at hk
  · rename_i t x
    replace hk := und_spec hE hk
    obtain ⟨d, hu, hk⟩ := hk
    have hrun := run_underlying hu
    split at hk
    · rw [lenK_eq] at hk
      refine ⟨_, hk, fun M w rargs t hi hx => ?_⟩
      cases hx with
      | cons hx hs => cases hs; cases hx with
        | str hx =>
          refine ⟨_, .int _ _, ?_⟩
          subst hx
          simp [Builtin.len_, hrun, goInt]
    · refine ⟨_, hk, fun M w rargs t hi hx => ?_⟩
      cases hx with
      | cons hx hs => cases hs; cases hx; exact ⟨_, .int _ _, by simp [Builtin.len_, hrun, goInt]⟩
    · refine ⟨_, hk, fun M w rargs t hi hx => ?_⟩
      cases hx with
      | cons hx hs => cases hs; cases hx; exact ⟨_, .int _ _, by simp [Builtin.len_, hrun, goInt]⟩
    · refine ⟨_, hk, fun M w rargs t hi hx => ?_⟩
      cases hx with
      | cons hx hs => cases hs; cases hx; exact ⟨_, .int _ _, by simp [Builtin.len_, hrun, goInt]⟩
    · refine ⟨_, hk, fun M w rargs t hi hx => ?_⟩
      cases hx with
      | cons hx hs => cases hs; cases hx; exact ⟨_, .int _ _, by simp [Builtin.len_, hrun, goInt]⟩
    · split at hk
      · rename_i es hg
        rw [lenK_eq] at hk
        refine ⟨_, hk, fun M w rargs t hi hx => ?_⟩
        cases hx with
        | cons hx hs => cases hs; cases hx with
          | map hm =>
            obtain ⟨hlt, res, clock, ho, hes⟩ := hi.bound hg hm
            refine ⟨_, .int _ _, ?_⟩
            have hl : es.length = res.size := by
              have : ∀ (a : List (AV × AV)) (b : List MapEntry), ERel M a b → a.length = b.length := by
                intro a b hab
                induction hab with
                | nil => rfl
                | cons _ _ _ ih => simp [ih]
              simpa using this _ _ hes
            simp [Builtin.len_, hrun, goInt, run_getMap ho, hl]
      · cases hk
    · cases hk
  · cases hk

theorem capOfK_sound (hE : EnvOk E P) {ts : List TypeId} {args : List AV} {k : AV → Bool} (hk : capOfK E ts args k = true) :
    ∃ v, k v = true ∧ ∀ M rargs t, VRels M args rargs → ∃ rv, VRel M v rv ∧ ∀ w, (Builtin.cap_ ts.toArray t rargs.toArray).run P w = .ok rv w := by
  unfold capOfK at hk
  split at hk
  · rename_i t x
    replace hk := und_spec hE hk
    obtain ⟨d, hu, hk⟩ := hk
    have hrun := run_underlying hu
    split at hk
    · refine ⟨_, hk, fun M rargs t hx => ?_⟩
      cases hx with
      | cons hx hs => cases hs; cases hx; exact ⟨_, .int _ _, fun w => by simp [Builtin.cap_, hrun, goInt]⟩
    · refine ⟨_, hk, fun M rargs t hx => ?_⟩
      cases hx with
      | cons hx hs => cases hs; cases hx; exact ⟨_, .int _ _, fun w => by simp [Builtin.cap_, hrun, goInt]⟩
    · cases hk
  · cases hk

theorem maxK_sound {big : Bool} {xs : List AV} {x : AV} {k : AV → Bool} (hk : maxK big x xs k = true) :
    ∃ v, k v = true ∧ ∀ M rx rxs, VRel M x rx → VRels M xs rxs → ∃ rv, VRel M v rv ∧ ∀ w, (List.foldlM (if big then Builtin.max2 else Builtin.min2) rx rxs).run P w = .ok rv w := by
  induction xs generalizing x with
  | nil =>
    have hk' : k x = true := by unfold maxK at hk; exact hk
    exact ⟨x, hk', fun M rx rxs hx hs => by cases hs; exact ⟨rx, hx, fun w => by simp⟩⟩
  | cons y xs ih =>
    unfold maxK at hk
    split at hk
    · rename_i heq; cases heq
    · rename_i kk a kk' b r heq
      simp only [List.cons.injEq] at heq
      obtain ⟨rfl, rfl⟩ := heq
      split at hk
      · rename_i hkk
        have hkk := (kindEq_iff _ _).1 hkk
        subst hkk
        split at hk
        · split at hk
          · rename_i hlt
            obtain ⟨v, h1, h2⟩ := ih hk
            refine ⟨v, h1, fun M rx rxs hx hs => ?_⟩
            cases hx
            cases hs with
            | cons hy hs =>
              cases hy
              obtain ⟨rv, h3, h4⟩ := h2 M _ _ (.int _ _) hs
              refine ⟨rv, h3, fun w => ?_⟩
              rw [ltI_eq] at hlt
              have hlt : a < b := by simpa using hlt
              have h4 := h4 w
              simp only [if_true] at h4 ⊢
              simp [List.foldlM_cons, Builtin.max2, hlt, h4]
          · rename_i hlt
            obtain ⟨v, h1, h2⟩ := ih hk
            refine ⟨v, h1, fun M rx rxs hx hs => ?_⟩
            cases hx
            cases hs with
            | cons hy hs =>
              cases hy
              obtain ⟨rv, h3, h4⟩ := h2 M _ _ (.int _ _) hs
              refine ⟨rv, h3, fun w => ?_⟩
              rw [ltI_eq] at hlt
              have hlt : ¬ a < b := by simpa using hlt
              have h4 := h4 w
              simp only [if_true] at h4 ⊢
              simp [List.foldlM_cons, Builtin.max2, hlt, h4]
        · split at hk
          · rename_i hlt
            obtain ⟨v, h1, h2⟩ := ih hk
            refine ⟨v, h1, fun M rx rxs hx hs => ?_⟩
            cases hx
            cases hs with
            | cons hy hs =>
              cases hy
              obtain ⟨rv, h3, h4⟩ := h2 M _ _ (.int _ _) hs
              refine ⟨rv, h3, fun w => ?_⟩
              rw [ltI_eq] at hlt
              have hlt : b < a := by simpa using hlt
              have h4 := h4 w
              simp only [Bool.false_eq_true, if_false] at h4 ⊢
              simp [List.foldlM_cons, Builtin.min2, hlt, h4]
          · rename_i hlt
            obtain ⟨v, h1, h2⟩ := ih hk
            refine ⟨v, h1, fun M rx rxs hx hs => ?_⟩
            cases hx
            cases hs with
            | cons hy hs =>
              cases hy
              obtain ⟨rv, h3, h4⟩ := h2 M _ _ (.int _ _) hs
              refine ⟨rv, h3, fun w => ?_⟩
              rw [ltI_eq] at hlt
              have hlt : ¬ b < a := by simpa using hlt
              have h4 := h4 w
              simp only [Bool.false_eq_true, if_false] at h4 ⊢
              simp [List.foldlM_cons, Builtin.min2, hlt, h4]
      · cases hk
    · cases hk

theorem sliceData_some (ts : Array TypeId) (t : TypeId) (a : Addr) (len c : Nat) (hc : c ≠ 0) (w : World) :
    (Builtin.unsafeSliceData_ ts t #[.slice (some a) len c]).run P w = .ok (.pointer (some a)) w := by
  cases c with
  | zero => exact absurd rfl hc
  | succ c => rfl

theorem sliceDataK_sound {args : List AV} {k : AV → Bool} (hk : sliceDataK args k = true) :
    ∃ v, k v = true ∧ ∀ M rargs ts t, VRels M args rargs → ∃ rv, VRel M v rv ∧ ∀ w, (Builtin.unsafeSliceData_ ts t rargs.toArray).run P w = .ok rv w := by
  unfold sliceDataK at hk
  split at hk
  · refine ⟨_, hk, fun M rargs ts t hx => ?_⟩
    cases hx with
    | cons hx hs => cases hs; cases hx; exact ⟨_, .nilptr, fun w => rfl⟩
  · refine ⟨_, hk, fun M rargs ts t hx => ?_⟩
    cases hx with
    | cons hx hs => cases hs; cases hx with
      | slice hm => exact ⟨_, .ptr hm, fun w => rfl⟩
  · refine ⟨_, hk, fun M rargs ts t hx => ?_⟩
    cases hx with
    | cons hx hs => cases hs; cases hx with
      | sliceU hm hc hr => exact ⟨_, .ptr hm, fun w => by
          rename_i cap
          have : cap ≠ 0 := by omega
          exact sliceData_some _ _ _ _ _ this w⟩
  · cases hk

/- All of them. -/

theorem run_v {s : Sem Value} {rv : Value} {w w' : World} (h : s.run P w = .ok rv w') : (do pure (Next.value (← s)) : Sem Next).run P w = .ok (.value rv) w' := by simp [h]

theorem mem_map_list (a : Act) (xs : Array Operand) : (xs.map a.eval).toList = xs.toList.map a.eval := by simp

theorem toArray_map (xs : Array Operand) (f : Operand → Value) : (xs.toList.map f).toArray = xs.map f := by
  apply Array.ext'; simp

theorem call_operand {c : Call} {x : Operand} (hx : x ∈ c.args.toList) : x ∈ (Op.operands (.call c)).toList := by
  simp only [Op.operands, Call.operands, Array.toList_append, List.mem_append]
  exact .inr hx

theorem run_builtin {o : Oper} {c : Call} {b : Builtin} {a : Act} {w : World} (ho : o.op = .call c) (hc : c.callee = .builtin b) :
    ∃ cs, (execOp a.eval o).run P w = (builtin b c.argTypes o.type cs (c.args.map a.eval)).run P w := by
  simp only [execOp, ho, resolve, hc, Sem.run_bind, Sem.run_pure, Result.andThen_ok, invoke]
  exact ⟨_, rfl⟩

theorem quietK_sound (hE : EnvOk E P) {o : Oper} {r : Regs} {h : H} {k : AV → Bool} (hk : quietK E o r h k = true) : ∃ v, k v = true ∧ QuietOk P o r h v := by
  unfold quietK at hk
  split at hk
  · rename_i x ho
    replace hk := opnd_spec hk
    obtain ⟨v, h1, h2⟩ := hk
    refine ⟨v, h1, fun M a w hr hi => ⟨_, by simp only [execOp, ho]; rfl, h2 M a (hr x (by simp [ho, Op.operands]))⟩⟩
  · rename_i x ho
    replace hk := opnd_spec hk
    obtain ⟨v, h1, h2⟩ := hk
    refine ⟨v, h1, fun M a w hr hi => ⟨_, by simp only [execOp, ho]; rfl, h2 M a (hr x (by simp [ho, Op.operands]))⟩⟩
  · rename_i c x y ho
    replace hk := opnd_spec hk
    obtain ⟨v, hk, h2⟩ := hk
    split at hk
    · replace hk := opnd_spec hk
      obtain ⟨v', h1, h3⟩ := hk
      refine ⟨v', h1, fun M a w hr hi => ⟨a.eval x, ?_, h3 M a (hr x (by simp [ho, Op.operands]))⟩⟩
      have h4 := h2 M a (hr c (by simp [ho, Op.operands]))
      have h5 : a.eval c = .bool true := by
        generalize a.eval c = vc at h4 ⊢
        cases h4; rfl
      simp [execOp, ho, asBool, h5]
    · replace hk := opnd_spec hk
      obtain ⟨v', h1, h3⟩ := hk
      refine ⟨v', h1, fun M a w hr hi => ⟨a.eval y, ?_, h3 M a (hr y (by simp [ho, Op.operands]))⟩⟩
      have h4 := h2 M a (hr c (by simp [ho, Op.operands]))
      have h5 : a.eval c = .bool false := by
        generalize a.eval c = vc at h4 ⊢
        cases h4; rfl
      simp [execOp, ho, asBool, h5]
    · cases hk
  · -- build
    rename_i t ps ho
    replace hk := zero_spec hE hk
    obtain ⟨i, zv, za, hi, hz, hzr, hk⟩ := hk
    replace hk := partsK_spec hk
    obtain ⟨aps, hk, hps⟩ := hk
    replace hk := und_spec hE hk
    obtain ⟨d, hu, hk⟩ := hk
    have hmem : ∀ {M : Mp} {a : Act}, (∀ x ∈ o.op.operands.toList, OpndRel M r a x) → ∀ x ∈ ps.toList, OpndRel M r a x.2 := by
      intro M a hr x hx
      apply hr
      simp only [ho, Op.operands]
      simp only [List.mem_map]
      exact ⟨x, hx, rfl⟩
    split at hk
    · rename_i fs
      replace hk := placesK_spec hE hk
      obtain ⟨pl, hk, hpl⟩ := hk
      replace hk := fillK_spec (rplace := fun x => pl.toArray[x]?) (fun j kk hj => by
        unfold placeK at hj
        rw [nthK_iff] at hj
        obtain ⟨⟨oo, nn⟩, h1, h2⟩ := hj
        exact ⟨oo, nn, by simpa using h1, h2⟩) _ _ _ hk
      obtain ⟨cs', hk, _, hf⟩ := hk
      refine ⟨_, hk, fun M a w hr hinv => ?_⟩
      obtain ⟨rcs', h1, h2⟩ := hf M zv.cells _ (hzr M).cells (hps M a (hmem hr))
      refine ⟨.agg rcs', ?_, .agg h2⟩
      have hb : P.built t (ps.map fun (i, x) => (i, a.eval x)).toList = some rcs' := by
        simp only [Program.built, hi, hu, hz, hpl]
        simpa using h1
      simp only [execOp, ho]
      exact run_v (run_build w t _ _ hb)
    · rename_i len e
      replace hk := size_spec hE hk
      obtain ⟨ie, hie, hk⟩ := hk
      replace hk := fillK_spec (rplace := fun x => some (x * ie.size, ie.size)) (fun j kk hj => by
        unfold elemK at hj
        rw [natK_eq] at hj
        exact ⟨_, _, rfl, hj⟩) _ _ _ hk
      obtain ⟨cs', hk, _, hf⟩ := hk
      refine ⟨_, hk, fun M a w hr hinv => ?_⟩
      obtain ⟨rcs', h1, h2⟩ := hf M zv.cells _ (hzr M).cells (hps M a (hmem hr))
      refine ⟨.agg rcs', ?_, .agg h2⟩
      have hb : P.built t (ps.map fun (i, x) => (i, a.eval x)).toList = some rcs' := by
        simp only [Program.built, hi, hu, hz, hie]
        simpa using h1
      simp only [execOp, ho]
      exact run_v (run_build w t _ _ hb)
    · cases hk
  · -- load
    rename_i t x ho
    replace hk := opnd_spec hk
    obtain ⟨p, hk, h2⟩ := hk
    replace hk := loadK_spec hE hk
    obtain ⟨v, hk, h3⟩ := hk
    refine ⟨v, hk, fun M a w hr hinv => ?_⟩
    obtain ⟨ad, rv, h4, h5, h6⟩ := h3 M w _ hinv (h2 M a (hr x (by simp [ho, Op.operands])))
    refine ⟨rv, ?_, h6⟩
    simp [execOp, ho, Instr.loadAt, h4, Instr.sureAddr, h5]
  · -- nilCheck
    rename_i x ho
    replace hk := opnd_spec hk
    obtain ⟨p, hk, h2⟩ := hk
    split at hk
    · refine ⟨_, hk, fun M a w hr hinv => ?_⟩
      have h4 := h2 M a (hr x (by simp [ho, Op.operands]))
      refine ⟨a.eval x, ?_, h4⟩
      generalize hv : a.eval x = vx at h4
      cases h4
      simp [execOp, ho, hv]
    · refine ⟨_, hk, fun M a w hr hinv => ?_⟩
      have h4 := h2 M a (hr x (by simp [ho, Op.operands]))
      refine ⟨a.eval x, ?_, h4⟩
      generalize hv : a.eval x = vx at h4
      cases h4
      simp [execOp, ho, hv]
    · cases hk
  · -- binOp
    rename_i op t x y ty ho
    replace hk := opnd_spec hk
    obtain ⟨p, hk, h2⟩ := hk
    replace hk := opnd_spec hk
    obtain ⟨q, hk, h3⟩ := hk
    replace hk := binK_sound hE hk
    obtain ⟨v, hk, h4⟩ := hk
    refine ⟨v, hk, fun M a w hr hinv => ?_⟩
    obtain ⟨rv, h5, h6⟩ := h4 M _ _ (h2 M a (hr x (by simp [ho, Op.operands]))) (h3 M a (hr y (by simp [ho, Op.operands])))
    refine ⟨rv, ?_, h5⟩
    simp [execOp, ho, (h6 _ _ _).1, (h6 x y w).2]
  · -- unOp
    rename_i op t x ho
    replace hk := opnd_spec hk
    obtain ⟨p, hk, h2⟩ := hk
    replace hk := unK_sound (P := P) hk
    obtain ⟨v, hk, h4⟩ := hk
    refine ⟨v, hk, fun M a w hr hinv => ?_⟩
    obtain ⟨rv, h5, h6⟩ := h4 M _ (h2 M a (hr x (by simp [ho, Op.operands])))
    refine ⟨rv, ?_, h5⟩
    simp [execOp, ho, h6]
  · -- convert
    rename_i s d x ho
    replace hk := opnd_spec hk
    obtain ⟨p, hk, h2⟩ := hk
    replace hk := convK_sound hE hk
    obtain ⟨v, hk, h4⟩ := hk
    refine ⟨v, hk, fun M a w hr hinv => ?_⟩
    obtain ⟨rv, h5, h6⟩ := h4 M w _ hinv (h2 M a (hr x (by simp [ho, Op.operands])))
    refine ⟨rv, ?_, h5⟩
    simp [execOp, ho, h6]
  · -- makeInterface
    rename_i t x ho
    replace hk := opnd_spec hk
    obtain ⟨p, hk, h2⟩ := hk
    replace hk := und_spec hE hk
    obtain ⟨d, hu, hk⟩ := hk
    have hrun := run_underlying hu
    split at hk
    · cases hk
    · rename_i hn
      refine ⟨_, hk, fun M a w hr hinv => ⟨_, ?_, .iface (h2 M a (hr x (by simp [ho, Op.operands])))⟩⟩
      cases d <;> first
        | (simp [execOp, ho, Instr.makeInterface, hrun]; done)
        | (exact absurd rfl (hn _))
  · -- makeFunc
    rename_i fn first captured ho
    split at hk
    · rename_i f
      replace hk := opnds_spec hk
      obtain ⟨va, hk, h2⟩ := hk
      replace hk := opnds_spec hk
      obtain ⟨vb, hk, h3⟩ := hk
      refine ⟨_, hk, fun M a w hr hinv => ?_⟩
      have e1 : ∀ x ∈ first.toList, OpndRel M r a x := fun x hx => hr x (by simp only [ho, Op.operands, Array.toList_append, List.mem_append]; exact .inl hx)
      have e2 : ∀ x ∈ captured.toList, OpndRel M r a x := fun x hx => hr x (by simp only [ho, Op.operands, Array.toList_append, List.mem_append]; exact .inr hx)
      exact ⟨_, by simp only [execOp, ho, Instr.makeFunc]; rfl, .func (by simpa using h2 M a e1) (by simpa using h3 M a e2)⟩
    · cases hk
  · -- slice
    rename_i t x lo hi mx ho
    replace hk := opnd_spec hk
    obtain ⟨p, hk, h2⟩ := hk
    replace hk := opndO_spec hk
    obtain ⟨vlo, hk, hlo⟩ := hk
    replace hk := opndO_spec hk
    obtain ⟨vhi, hk, hhi⟩ := hk
    replace hk := opndO_spec hk
    obtain ⟨vmx, hk, hmx⟩ := hk
    replace hk := sliceK_sound hE hk
    obtain ⟨v, hk, h4⟩ := hk
    refine ⟨v, hk, fun M a w hr hinv => ?_⟩
    have cut : ∀ (q : Option Operand) (vq : Option AV), (∀ y, q = some y → y ∈ o.op.operands.toList) →
        (∀ M a, (∀ y, q = some y → OpndRel M r a y) → (vq = none ∧ q = none) ∨ ∃ v' y, vq = some v' ∧ q = some y ∧ VRel M v' (a.eval y)) → CutArgs M vq (q.map a.eval) := by
      intro q vq hq hs
      rcases hs M a (fun y hy => hr y (hq y hy)) with ⟨h1, h2⟩ | ⟨v', y, h1, h2, h3⟩
      · exact .inl ⟨h1, by rw [h2]; rfl⟩
      · exact .inr ⟨v', a.eval y, h1, by rw [h2]; rfl, h3⟩
    have ops : o.op.operands = #[x] ++ lo.toArray ++ hi.toArray ++ mx.toArray := by rw [ho]; rfl
    obtain ⟨rv, h5, h6⟩ := h4 M _ _ _ _ (h2 M a (hr x (by rw [ops]; simp))) (cut lo vlo (by rintro y rfl; rw [ops]; simp) hlo) (cut hi vhi (by rintro y rfl; rw [ops]; simp) hhi) (cut mx vmx (by rintro y rfl; rw [ops]; simp) hmx)
    refine ⟨rv, ?_, h5⟩
    simp only [execOp, ho]
    exact run_v (h6 w)
  · -- fieldAddr
    rename_i s x f ho
    replace hk := opnd_spec hk
    obtain ⟨p, hk, h2⟩ := hk
    replace hk := und_spec hE hk
    obtain ⟨d, hu, hk⟩ := hk
    have hrun := run_underlying hu
    split at hk
    · rename_i fs
      rw [nthK_iff] at hk
      obtain ⟨fd, hfd, hk⟩ := hk
      replace hk := size_spec hE hk
      obtain ⟨i, hi, hk⟩ := hk
      split at hk
      · rename_i n b off hz
        rw [natK_eq] at hk
        refine ⟨_, hk, fun M a w hr hinv => ?_⟩
        have h4 := h2 M a (hr x (by simp [ho, Op.operands]))
        generalize hv : a.eval x = vx at h4
        cases h4 with
        | ptr hm =>
          refine ⟨_, ?_, .ptr hm⟩
          have hfd' : fs[f]? = some fd := by simpa using hfd
          simp [execOp, ho, hv, Instr.fieldAt, hrun, hfd', Instr.sureAddr, fieldPlace, run_size hi, hz, addr_add, Nat.add_assoc]
      · cases hk
    · cases hk
  · -- field
    rename_i t x f ho
    replace hk := opnd_spec hk
    obtain ⟨p, hk, h2⟩ := hk
    replace hk := und_spec hE hk
    obtain ⟨d, hu, hk⟩ := hk
    have hrun := run_underlying hu
    split at hk
    · rename_i fs
      rw [nthK_iff] at hk
      obtain ⟨fd, hfd, hk⟩ := hk
      split at hk
      · rename_i cs
        rw [natK_eq] at hk
        replace hk := partK_spec hE hk
        obtain ⟨v, hk, h3⟩ := hk
        refine ⟨_, hk, fun M a w hr hinv => ?_⟩
        have h4 := h2 M a (hr x (by simp [ho, Op.operands]))
        generalize hv : a.eval x = vx at h4
        cases h4 with
        | agg hc =>
          rename_i rcs
          obtain ⟨rv, h5, h6⟩ := h3 M _ hc
          refine ⟨rv, ?_, h6⟩
          have hfd' : fs[f]? = some fd := by simpa using hfd
          have h5 := h5 w
          simp only [Array.toArray_toList] at h5
          simp [execOp, ho, hv, Instr.field, hrun, hfd', asAgg, h5]
      · cases hk
    · cases hk
  · -- indexAddr
    rename_i t x i ho
    replace hk := opnd_spec hk
    obtain ⟨p, hk, h2⟩ := hk
    replace hk := opnd_spec hk
    obtain ⟨q, hk, h3⟩ := hk
    replace hk := indexAddrK_sound hE hk
    obtain ⟨v, hk, h4⟩ := hk
    refine ⟨v, hk, fun M a w hr hinv => ?_⟩
    obtain ⟨rv, h5, h6⟩ := h4 M _ _ (h2 M a (hr x (by simp [ho, Op.operands]))) (h3 M a (hr i (by simp [ho, Op.operands])))
    refine ⟨rv, ?_, h5⟩
    simp only [execOp, ho]
    exact run_v (h6 w)
  · -- index
    rename_i t x i ho
    replace hk := opnd_spec hk
    obtain ⟨p, hk, h2⟩ := hk
    replace hk := opnd_spec hk
    obtain ⟨q, hk, h3⟩ := hk
    replace hk := indexK_sound hE hk
    obtain ⟨v, hk, h4⟩ := hk
    refine ⟨v, hk, fun M a w hr hinv => ?_⟩
    obtain ⟨rv, h5, h6⟩ := h4 M _ _ (h2 M a (hr x (by simp [ho, Op.operands]))) (h3 M a (hr i (by simp [ho, Op.operands])))
    refine ⟨rv, ?_, h5⟩
    simp only [execOp, ho]
    exact run_v (h6 w)
  · -- lookup
    rename_i t x i ok ho
    replace hk := opnd_spec hk
    obtain ⟨p, hk, h2⟩ := hk
    replace hk := opnd_spec hk
    obtain ⟨q, hk, h3⟩ := hk
    replace hk := lookupK_sound hE hk
    obtain ⟨v, hk, h4⟩ := hk
    refine ⟨v, hk, fun M a w hr hinv => ?_⟩
    obtain ⟨rv, h5, h6⟩ := h4 M w _ _ hinv (h2 M a (hr x (by simp [ho, Op.operands]))) (h3 M a (hr i (by simp [ho, Op.operands])))
    refine ⟨rv, ?_, h5⟩
    simp only [execOp, ho]
    exact run_v h6
  · -- extract
    rename_i t i ho
    replace hk := opnd_spec hk
    obtain ⟨p, hk, h2⟩ := hk
    split at hk
    · rw [nthK_iff] at hk
      obtain ⟨v, hv, hk⟩ := hk
      refine ⟨v, hk, fun M a w hr hinv => ?_⟩
      have h4 := h2 M a (hr t (by simp [ho, Op.operands]))
      generalize he : a.eval t = vx at h4
      cases h4 with
      | tuple hc =>
        obtain ⟨rv, h5, h6⟩ := hc.get hv
        refine ⟨rv, ?_, h6⟩
        simp only [Array.getElem?_toList] at h5
        simp [execOp, ho, he, Instr.extract, h5]
    · cases hk
  · -- a builtin
    rename_i c ho
    have hmem : ∀ {M : Mp} {a : Act}, (∀ x ∈ o.op.operands.toList, OpndRel M r a x) → ∀ x ∈ c.args.toList, OpndRel M r a x :=
      fun hr x hx => hr x (by rw [ho]; exact call_operand hx)
    split at hk
    · rename_i hc
      replace hk := opnds_spec hk
      obtain ⟨vs, hk, h2⟩ := hk
      replace hk := lenOfK_sound hE hk
      obtain ⟨v, hk, h3⟩ := hk
      refine ⟨v, hk, fun M a w hr hinv => ?_⟩
      obtain ⟨rv, h4, h5⟩ := h3 M w _ o.type hinv (h2 M a (hmem hr))
      refine ⟨rv, ?_, h4⟩
      rw [toArray_map, Array.toArray_toList] at h5
      obtain ⟨_, e⟩ := run_builtin (P := P) (a := a) (w := w) ho hc
      rw [e]
      exact run_v h5
    · rename_i hc
      replace hk := opnds_spec hk
      obtain ⟨vs, hk, h2⟩ := hk
      replace hk := capOfK_sound hE hk
      obtain ⟨v, hk, h3⟩ := hk
      refine ⟨v, hk, fun M a w hr hinv => ?_⟩
      obtain ⟨rv, h4, h5⟩ := h3 M _ o.type (h2 M a (hmem hr))
      refine ⟨rv, ?_, h4⟩
      have h5 := h5 w
      rw [toArray_map, Array.toArray_toList] at h5
      obtain ⟨_, e⟩ := run_builtin (P := P) (a := a) (w := w) ho hc
      rw [e]
      exact run_v h5
    · rename_i hc
      replace hk := opnds_spec hk
      obtain ⟨vs, hk, h2⟩ := hk
      split at hk
      · rename_i x xs
        replace hk := maxK_sound (P := P) hk
        obtain ⟨v, hk, h3⟩ := hk
        refine ⟨v, hk, fun M a w hr hinv => ?_⟩
        have h4 := h2 M a (hmem hr)
        generalize hl : c.args.toList.map a.eval = l at h4
        cases h4 with
        | cons hx hs =>
          obtain ⟨rv, h5, h6⟩ := h3 M _ _ hx hs
          refine ⟨rv, ?_, h5⟩
          obtain ⟨_, e⟩ := run_builtin (P := P) (a := a) (w := w) ho hc
          rw [e]
          refine run_v (s := Builtin.max_ c.argTypes o.type (c.args.map a.eval)) ?_
          have hl' : (c.args.map a.eval).toList = _ := (mem_map_list a c.args).trans hl
          simp only [Builtin.max_, hl']
          simpa using h6 w
      · cases hk
    · rename_i hc
      replace hk := opnds_spec hk
      obtain ⟨vs, hk, h2⟩ := hk
      split at hk
      · rename_i x xs
        replace hk := maxK_sound (P := P) hk
        obtain ⟨v, hk, h3⟩ := hk
        refine ⟨v, hk, fun M a w hr hinv => ?_⟩
        have h4 := h2 M a (hmem hr)
        generalize hl : c.args.toList.map a.eval = l at h4
        cases h4 with
        | cons hx hs =>
          obtain ⟨rv, h5, h6⟩ := h3 M _ _ hx hs
          refine ⟨rv, ?_, h5⟩
          obtain ⟨_, e⟩ := run_builtin (P := P) (a := a) (w := w) ho hc
          rw [e]
          refine run_v (s := Builtin.min_ c.argTypes o.type (c.args.map a.eval)) ?_
          have hl' : (c.args.map a.eval).toList = _ := (mem_map_list a c.args).trans hl
          simp only [Builtin.min_, hl']
          simpa using h6 w
      · cases hk
    · rename_i hc
      replace hk := opnds_spec hk
      obtain ⟨vs, hk, h2⟩ := hk
      replace hk := sliceDataK_sound (P := P) hk
      obtain ⟨v, hk, h3⟩ := hk
      refine ⟨v, hk, fun M a w hr hinv => ?_⟩
      obtain ⟨rv, h4, h5⟩ := h3 M _ c.argTypes o.type (h2 M a (hmem hr))
      refine ⟨rv, ?_, h4⟩
      have h5 := h5 w
      rw [toArray_map] at h5
      obtain ⟨_, e⟩ := run_builtin (P := P) (a := a) (w := w) ho hc
      rw [e]
      exact run_v h5
    · cases hk
  · cases hk

end
end Go.Proofs.YtnjobinioalipaaGreatDoor.Ev

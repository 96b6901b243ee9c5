/- The operations that only look: places, maps, conversions, lengths; all of them together. -/
import Derived.Test.YtnjobinioalipaaGreatDoorEvQuiet3
namespace Go.Proofs.YtnjobinioalipaaGreatDoor.Ev
open Go

section
variable {E : Env} {P : Program}

theorem indexAddrK_sound (hE : EnvOk E P) {t : TypeId} {x i : AV} {k : AV → Bool} (h : indexAddrK E t x i k = true) :
    ∃ v, k v = true ∧ ∀ M rx ri, VRel M x rx → VRel M i ri → ∃ rv, VRel M v rv ∧ ∀ w, (Instr.indexAt t rx ri).run P w = .ok rv w := by
  unfold indexAddrK at h
  replace h := natOf_spec h
  obtain ⟨kk, n, rfl, h⟩ := h
  replace h := und_spec hE h
  obtain ⟨d, hu, h⟩ := h
  have hrun := run_underlying hu
  split at h
  · split at h
    · rename_i hlt
      replace hlt := blt_lt hlt
      replace h := size_spec hE h
      obtain ⟨it, hi, h⟩ := h
      rw [natK_eq] at h
      refine ⟨_, h, fun M rx ri hx hi' => ?_⟩
      cases hi'
      cases hx with
      | slice hm =>
        refine ⟨_, .ptr hm, fun w => ?_⟩
        simp [Instr.indexAt, asIntOf, hrun, hlt, run_size hi, addr_add, Nat.add_assoc]
    · cases h
  · split at h
    · rename_i hlt
      replace hlt := blt_lt hlt
      replace h := size_spec hE h
      obtain ⟨it, hi, h⟩ := h
      rw [natK_eq] at h
      refine ⟨_, h, fun M rx ri hx hi' => ?_⟩
      cases hi'
      cases hx with
      | sliceU hm hc hr =>
        refine ⟨_, .ptr hm, fun w => ?_⟩
        simp [Instr.indexAt, asIntOf, hrun, hlt, run_size hi, addr_add, Nat.add_assoc]
    · cases h
  · split at h
    · rename_i hlt
      replace hlt := blt_lt hlt
      replace h := size_spec hE h
      obtain ⟨it, hi, h⟩ := h
      rw [natK_eq] at h
      refine ⟨_, h, fun M rx ri hx hi' => ?_⟩
      cases hi'
      cases hx with
      | ptr hm =>
        refine ⟨_, .ptr hm, fun w => ?_⟩
        simp [Instr.indexAt, Instr.sureAddr, asIntOf, hrun, hlt, run_size hi, addr_add, Nat.add_assoc]
    · cases h
  · cases h

theorem indexK_sound (hE : EnvOk E P) {t : TypeId} {x i : AV} {k : AV → Bool} (h : indexK E t x i k = true) :
    ∃ v, k v = true ∧ ∀ M rx ri, VRel M x rx → VRel M i ri → ∃ rv, VRel M v rv ∧ ∀ w, (Instr.index t rx ri).run P w = .ok rv w := by
  unfold indexK at h
  replace h := natOf_spec h
  obtain ⟨kk, n, rfl, h⟩ := h
  replace h := und_spec hE h
  obtain ⟨d, hu, h⟩ := h
  have hrun := run_underlying hu
  split at h
  · rw [nthK_iff] at h
    obtain ⟨c, h1, h⟩ := h
    refine ⟨_, h, fun M rx ri hx hi' => ?_⟩
    cases hi'
    cases hx with
    | str hs =>
      rename_i s
      subst hs
      rw [List.getElem?_map, Option.map_eq_some_iff] at h1
      obtain ⟨b, h2, rfl⟩ := h1
      refine ⟨_, .int _ _, fun w => ?_⟩
      have h3 : s[n]? = some b := by
        rw [← h2]
        show s[n]? = s.data.toList[n]?
        simp only [Array.getElem?_toList]
        rfl
      simp [Instr.index, asIntOf, hrun, h3]
  · split at h
    · rename_i hlt
      replace hlt := blt_lt hlt
      replace h := size_spec hE h
      obtain ⟨it, hi, h⟩ := h
      rw [natK_eq] at h
      replace h := partK_spec hE h
      obtain ⟨v, h1, h2⟩ := h
      refine ⟨_, h1, fun M rx ri hx hi' => ?_⟩
      cases hi'
      cases hx with
      | agg hc =>
        rename_i rcs
        obtain ⟨rv, h3, h4⟩ := h2 M _ hc
        refine ⟨rv, h4, fun w => ?_⟩
        have h3 := h3 w
        simp only [Array.toArray_toList] at h3
        simp only [Instr.index, asIntOf, Sem.run_bind, Sem.run_pure, hrun, Result.andThen_ok]
        simp [hlt, run_size hi]
        exact h3
    · cases h
  · cases h

/- Maps. -/

theorem keyEq_now {kd : TypeDesc} {a b : AV} {r : Bool} (hf : keyFits kd a = true) (he : keyEq a b = some r) {M : Mp} {ra rb : Value} (ha : VRel M a ra) (hb : VRel M b rb) :
    Instr.sameNow kd ra rb = some r := by
  unfold keyEq at he
  split at he
  · split at he
    · rename_i hk
      simp only [Option.some.injEq] at he
      subst he
      have hk := (kindEq_iff _ _).1 hk
      subst hk
      cases ha; cases hb
      cases kd <;> simp [keyFits] at hf
      simp [Instr.sameNow, eqI_eq]
    · cases he
  · simp only [Option.some.injEq] at he
    subst he
    cases ha with
    | str ha => cases hb with
      | str hb =>
        cases kd <;> simp [keyFits] at hf
        rename_i s s'
        subst ha hb
        have : strEq (List.map (fun x => x.toNat) s.data.toList) (List.map (fun x => x.toNat) s'.data.toList) = (s == s') := by
          have e : (s == s') = (s.data == s'.data) := rfl
          rw [e, Bool.eq_iff_iff, strEq_iff, toNat_inj, beq_iff_eq]
          exact Array.toList_inj
        simp [Instr.sameNow, this]
  · simp only [Option.some.injEq] at he
    subst he
    cases ha; cases hb
    cases kd <;> simp [keyFits] at hf
    simp [Instr.sameNow, beqB_eq]
  · cases he

theorem run_getMap {β : Nat} {res : Array MapEntry} {clock : Nat} {w : World} (h : w.heap[β]? = some (.map res clock)) : (getObj β).run P w = .ok (.map res clock) w := by
  simp [getObj, Sem.run, h]

theorem findK_spec {key : AV} {es : List (AV × AV)} {k : Option AV → Bool} (h : findK key es k = true) :
    ∃ r, k r = true ∧ ∀ kd M rkey res i, keyFits kd key = true → VRel M key rkey → ERel M es res →
      (r = none ∧ Instr.findNow kd rkey res i = some none) ∨ ∃ v j rv, r = some v ∧ Instr.findNow kd rkey res i = some (some (j, rv)) ∧ VRel M v rv := by
  induction es with
  | nil => exact ⟨none, h, fun kd M rkey res i _ _ hs => by cases hs; exact .inl ⟨rfl, rfl⟩⟩
  | cons e es ih =>
    obtain ⟨x, v⟩ := e
    simp only [findK] at h
    split at h
    · rename_i he
      refine ⟨some v, h, fun kd M rkey res i hf hk hs => ?_⟩
      cases hs with
      | cons h1 h2 hs =>
        have := keyEq_now hf he hk h1
        exact .inr ⟨v, i, _, rfl, by simp [Instr.findNow, this], h2⟩
    · rename_i he
      obtain ⟨r, h1, h2⟩ := ih h
      refine ⟨r, h1, fun kd M rkey res i hf hk hs => ?_⟩
      cases hs with
      | cons h3 h4 hs =>
        have := keyEq_now hf he hk h3
        simp only [Instr.findNow, this]
        exact h2 kd M rkey _ (i + 1) hf hk hs
    · cases h

theorem run_checkKey {kt : TypeId} {kd : TypeDesc} {key : AV} {M : Mp} {rkey : Value} (hu : P.underlying kt = some kd) (hf : keyFits kd key = true) (hk : VRel M key rkey) (e : Bool) (w : World) :
    (Instr.checkKey e 10000 kt rkey).run P w = .ok () w := by
  have : ∀ n, (Instr.checkKey e (n + 1) kt rkey).run P w = .ok () w := by
    intro n
    have hrun := run_underlying hu
    unfold keyFits at hf
    split at hf <;> (try cases hf) <;> cases hk <;> simp [Instr.checkKey, hrun]
  exact this 9999

theorem lookK_spec {ok : Bool} {v : AV} {is : Bool} {k : AV → Bool} (h : lookK ok v is k = true) :
    ∃ v', k v' = true ∧ ∀ M rv, VRel M v rv → VRel M v' (if ok then .tuple #[rv, .bool is] else rv) := by
  unfold lookK at h
  split at h
  · exact ⟨_, h, fun M rv hr => by simpa using .tuple (.cons hr (.cons (.bool _) .nil))⟩
  · exact ⟨_, h, fun M rv hr => by simpa using hr⟩

theorem lookupK_sound (hE : EnvOk E P) {h : H} {t : TypeId} {x key : AV} {ok : Bool} {k : AV → Bool} (hk : lookupK E h t x key ok k = true) :
    ∃ v, k v = true ∧ ∀ M w rx rkey, Inv h M w → VRel M x rx → VRel M key rkey → ∃ rv, VRel M v rv ∧ (Instr.lookup t rx rkey ok).run P w = .ok rv w := by
  unfold lookupK at hk
  replace hk := und_spec hE hk
  obtain ⟨d, hu, hk⟩ := hk
  have hrun := run_underlying hu
  split at hk
  · rename_i kt e
    replace hk := und_spec hE hk
    obtain ⟨kd, hku, hk⟩ := hk
    have hkrun := run_underlying hku
    split at hk
    · rename_i hf
      split at hk
      · replace hk := zero_spec hE hk
        obtain ⟨i, zv, za, h1, h2, h3, hk⟩ := hk
        replace hk := lookK_spec hk
        obtain ⟨v', h4, h5⟩ := hk
        refine ⟨v', h4, fun M w rx rkey hi hx hkey => ?_⟩
        cases hx
        refine ⟨_, h5 M zv (h3 M), ?_⟩
        simp only [Instr.lookup, Sem.run_bind, hrun, Result.andThen_ok, Sem.run_pure, run_checkKey hku hf hkey, Instr.findKey, hkrun, Instr.findNow, run_zero h1 h2]
      · rename_i b
        split at hk
        · rename_i es hg
          replace hk := findK_spec hk
          obtain ⟨r, hk, h0⟩ := hk
          split at hk
          · rename_i v
            replace hk := lookK_spec hk
            obtain ⟨v', h4, h5⟩ := hk
            refine ⟨v', h4, fun M w rx rkey hi hx hkey => ?_⟩
            cases hx with
            | map hm =>
              obtain ⟨hlt, res, clock, ho, hes⟩ := hi.bound hg hm
              rcases h0 kd M rkey res.toList 0 hf hkey hes with ⟨h6, _⟩ | ⟨v1, j, rv, h6, h7, h8⟩
              · cases h6
              · cases h6
                refine ⟨_, h5 M rv h8, ?_⟩
                simp only [Instr.lookup, Sem.run_bind, hrun, Result.andThen_ok, run_getMap ho, Sem.run_pure, run_checkKey hku hf hkey, Instr.findKey, hkrun, h7]
          · replace hk := zero_spec hE hk
            obtain ⟨i, zv, za, h1, h2, h3, hk⟩ := hk
            replace hk := lookK_spec hk
            obtain ⟨v', h4, h5⟩ := hk
            refine ⟨v', h4, fun M w rx rkey hi hx hkey => ?_⟩
            cases hx with
            | map hm =>
              obtain ⟨hlt, res, clock, ho, hes⟩ := hi.bound hg hm
              rcases h0 kd M rkey res.toList 0 hf hkey hes with ⟨_, h7⟩ | ⟨v1, j, rv, h6, _, _⟩
              · refine ⟨_, h5 M zv (h3 M), ?_⟩
                simp only [Instr.lookup, Sem.run_bind, hrun, Result.andThen_ok, run_getMap ho, Sem.run_pure, run_checkKey hku hf hkey, Instr.findKey, hkrun, h7, run_zero h1 h2]
              · cases h6
        · cases hk
      · cases hk
    · cases hk
  · cases hk

/- Conversions that make no memory. -/

theorem bytesOfK_spec {l : List AV} {k : List Nat → Bool} (h : bytesOfK l k = true) :
    ∃ s, k s = true ∧ s.length = l.length ∧ ∀ M rl, VRels M l rl → ∃ bs : List UInt8, bs.map (·.toNat) = s ∧ rl = bs.map fun b => Value.int .u8 (b.toNat : Int) := by
  induction l generalizing k with
  | nil => exact ⟨[], h, rfl, fun M rl hr => by cases hr; exact ⟨[], rfl, rfl⟩⟩
  | cons v l ih =>
    unfold bytesOfK at h
    split at h
    · rename_i heq; cases heq
    · rename_i n r heq
      simp only [List.cons.injEq] at heq
      obtain ⟨rfl, rfl⟩ := heq
      split at h
      · rename_i hlt
        replace hlt := blt_lt hlt
        obtain ⟨s, h1, h2, h3⟩ := ih h
        refine ⟨n :: s, h1, by simp [h2], fun M rl hr => ?_⟩
        cases hr with
        | cons hv hs =>
          obtain ⟨bs, h4, h5⟩ := h3 M _ hs
          cases hv
          refine ⟨UInt8.ofNat n :: bs, ?_, ?_⟩
          · simp [h4]; omega
          · simp [h5]; omega
      · cases h
    · cases h

theorem run_bytesToString {w : World} {β a c : Nat} {bs : List UInt8}
    (hc : ∀ (j : Nat) (v : Value), (bs.map fun b => Value.int .u8 (b.toNat : Int))[j]? = some v → w.cell? ((⟨β, a, none⟩ : Addr).add j) = some v) :
    ∃ s : ByteArray, s.data.toList = bs ∧ (Conv.bytesToString (.slice (some ⟨β, a, none⟩) bs.length c)).run P w = .ok (.string s) w := by
  have hl := run_loadCells_list (P := P) w _ _ hc
  rw [List.length_map] at hl
  have loop : ∀ (l : List UInt8) (s : ByteArray), (forIn (m := Sem) (l.map fun b => Value.int .u8 (b.toNat : Int)) s fun c r => do
      let .int .u8 n := c | stuck "bytesToString: byte expected"
      pure (ForInStep.yield (r.push (UInt8.ofNat n.toNat)))).run P w = .ok ⟨(s.data.toList ++ l).toArray⟩ w := by
    intro l
    induction l with
    | nil => intro s; simp
    | cons b l ih =>
      intro s
      simp only [List.map_cons, List.forIn_cons, Sem.run_bind, Sem.run_pure, Result.andThen_ok]
      rw [ih]
      simp [ByteArray.push]
  refine ⟨⟨bs.toArray⟩, by simp, ?_⟩
  have := loop bs ByteArray.empty
  simp only [Conv.bytesToString, Sem.run_bind, hl, Result.andThen_ok]
  simp only [List.forIn_toArray] at this ⊢
  simpa using this

end
end Go.Proofs.YtnjobinioalipaaGreatDoor.Ev

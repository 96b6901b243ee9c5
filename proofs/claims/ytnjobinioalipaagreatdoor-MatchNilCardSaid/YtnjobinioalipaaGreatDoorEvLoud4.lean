/- The operations that turn memory: texts that share bytes, calls; all operations. -/
import Derived.Test.YtnjobinioalipaaGreatDoorEvLoud3
import Derived.Lib.UnsafeStr
namespace Go.Proofs.YtnjobinioalipaaGreatDoor.Ev
open Go

def CallSound (P : Program) (f : FuncId) (args : List AV) (h : H) (v : AV) (h' : H) : Prop :=
  ∀ M w (rargs : Array Value), VRels M args rargs.toList → Inv h M w → Free M h →
    (∃ rv M' w', (callFunc f rargs).run P w = .ok (.value rv) w' ∧ VRel M' v rv ∧ Post h M w h' M' w') ∨
    ((callFunc f rargs).run P w = .ok (.enter f rargs) w ∧ Calls P f rargs w fun e w' => ∃ rv M', e = .returned rv ∧ VRel M' v rv ∧ Post h M w h' M' w')

def CallOk (P : Program) (call : CallT) : Prop := ∀ f args h k, call f args h k = true → ∃ v h', k v h' = true ∧ CallSound P f args h v h'

section
variable {E : Env} {P : Program}

theorem liesAt_bytes_at {e : TypeId} (hc : P.cellsOf e = 1) (count off n : Nat) (hn : off + n ≤ count) : liesAt P P.depth e count off e n = true := by
  have hl := sameLayout_refl P e
  obtain ⟨d, hd⟩ := depth_succ P
  rw [hd] at hl ⊢
  rw [liesAt, rowAt.eq_def]
  simp [hc, hn, hd, hl, Nat.mod_one]

theorem run_unsafeString_at (w : World) (ts : Array TypeId) (pt ty e : TypeId) (kk : IntKind) (hts : ts[0]? = some pt) (hp : P.underlying pt = some (.pointer e)) (hc : P.cellsOf e = 1) (g o cells : Nat)
    (hsh : w.shape? g = some (e, cells)) (l : List UInt8) (h0 : l ≠ []) (hn : o + l.length ≤ cells) (h63 : l.length ≤ 9223372036854775807)
    (hcell : ∀ j x, l[j]? = some x → w.cell? ((⟨g, o, none⟩ : Addr).add j) = some (.int .u8 x.toNat)) :
    (Builtin.unsafeString_ ts ty #[.pointer (some ⟨g, o, none⟩), .int kk l.length]).run P w = .ok (.string ⟨l.toArray⟩) (w.freeze ⟨g, o, none⟩ l.length) := by
  have hl : l.length ≠ 0 := by simpa using h0
  have hlb := Lib.run_loadBytes (P := P) w l ⟨g, o, none⟩ .empty hcell
  have hlies := liesAt_bytes_at (P := P) hc (cells / P.cellsOf e) o l.length (by rw [hc]; simpa using hn)
  have h63' : ¬ (9223372036854775807 : Int) < (l.length : Int) := by omega
  have hmax : IntKind.i64.max = 9223372036854775807 := rfl
  have hneg : ¬ (l.length : Int) < 0 := by omega
  show Sem.run P (asInt (.int kk (l.length : Int)) >>= _) w = _
  simp [asInt, asIntOf, hmax, h63', hneg, hl, variablesAt, hsh, elemOf, run_underlying hp, hlies, hlb, hts]

theorem run_unsafeString_zero (w : World) (ts : Array TypeId) (pt ty : TypeId) (kk : IntKind) (hts : ts[0]? = some pt) (p : Option Addr) :
    (Builtin.unsafeString_ ts ty #[.pointer p, .int kk 0]).run P w = .ok (.string .empty) w := by
  have hmax : IntKind.i64.max = 9223372036854775807 := rfl
  cases p with
  | none =>
    show Sem.run P (asInt (.int kk 0) >>= _) w = _
    simp [asInt, asIntOf, hmax, hts]
  | some a =>
    show Sem.run P (asInt (.int kk 0) >>= _) w = _
    simp [asInt, asIntOf, hmax, hts]

theorem wide_spec {lo hi off n : Nat} : wideLo lo hi off ≤ off ∧ off + n ≤ wideHi lo hi off n ∧ (lo < hi → wideLo lo hi off ≤ lo ∧ hi ≤ wideHi lo hi off n) := by
  unfold wideLo wideHi
  cases e : Nat.ble hi lo with
  | true =>
    have := ble_le e
    exact ⟨Nat.le_refl _, Nat.le_refl _, fun h => by omega⟩
  | false =>
    simp only []
    refine ⟨?_, ?_, fun _ => ⟨?_, ?_⟩⟩
    · split
      · rename_i h; exact ble_le h
      · exact Nat.le_refl _
    · split
      · exact Nat.le_refl _
      · rename_i h
        have : ¬ hi ≤ off + n := fun hc => by
          have h' : Nat.ble hi (off.add n) = true := Nat.ble_eq_true_of_le hc
          rw [h'] at h; cases h
        omega
    · split
      · exact Nat.le_refl _
      · rename_i h
        have : ¬ lo ≤ off := fun hc => by rw [Nat.ble_eq_true_of_le hc] at h; cases h
        omega
    · split
      · rename_i h; exact ble_le h
      · exact Nat.le_refl _

theorem unsafeStringK_sound (hE : EnvOk E P) {h : H} {ts : List TypeId} {args : List AV} {k : AV → H → Bool} (hk : unsafeStringK E h ts args k = true) :
    ∃ v h', k v h' = true ∧ ∀ M w rargs t, Inv h M w → VRels M args rargs →
      ∃ rv w', (Builtin.unsafeString_ ts.toArray t rargs.toArray).run P w = .ok rv w' ∧ VRel M v rv ∧ Post h M w h' M w' := by
  unfold unsafeStringK at hk
  split at hk
  · rename_i pt ts p n
    replace hk := natOf_spec hk
    obtain ⟨kk, n, rfl, hk⟩ := hk
    split at hk
    · refine ⟨_, h, hk, fun M w rargs t hinv hargs => ?_⟩
      cases hargs with
      | cons hp hr => cases hr with
        | cons hn hr =>
          cases hr; cases hp; cases hn
          exact ⟨_, w, run_unsafeString_zero w _ pt t kk rfl none, .str rfl, .refl hinv⟩
    · refine ⟨_, h, hk, fun M w rargs t hinv hargs => ?_⟩
      cases hargs with
      | cons hp hr => cases hr with
        | cons hn hr =>
          cases hr; cases hp; cases hn
          exact ⟨_, w, run_unsafeString_zero w _ pt t kk rfl _, .str rfl, .refl hinv⟩
    · rename_i b off n
      replace hk := und_spec hE hk
      obtain ⟨d, hu, hk⟩ := hk
      split at hk
      · rename_i u
        replace hk := size_spec hE hk
        obtain ⟨i, hi, hk⟩ := hk
        split at hk
        · rename_i hsz
          split at hk
          · rename_i cs e lo hi' sh hg
            split at hk
            · rename_i he
              replace he := Nat.eq_of_beq_eq_true he
              subst he
              split at hk
              · cases hk
              · rename_i hsm
                replace hsm : n + 1 ≤ 1048576 := ble_le hsm
                replace hk := readK_spec hk
                obtain ⟨l, hk, hlen, ⟨cs', e', lo', hi2, mk', sh', hg', hle, _⟩, hr⟩ := hk
                rw [hg] at hg'
                cases hg'
                replace hk := bytesOfK_spec hk
                obtain ⟨s, hk, hsl, hb⟩ := hk
                rw [natK_eq, natK_eq] at hk
                obtain ⟨h', hk, hn, hget⟩ := setObjK_spec hk
                refine ⟨_, h', hk, fun M w rargs t hinv hargs => ?_⟩
                cases hargs with
                | cons hp hr' => cases hr' with
                  | cons hn' hr' =>
                    cases hr'; cases hn'
                    cases hp with
                    | ptr hm =>
                      rename_i β δ m
                      obtain ⟨hlt, c, fr, ho, hc, hcl, hcells, hfr, hsh⟩ := hinv.bound hg hm
                      obtain ⟨β', δ', m', hm', rl, hrl, hrr, hcell⟩ := hr M w hinv
                      rw [hm] at hm'
                      simp only [Option.some.injEq, Prod.mk.injEq] at hm'
                      obtain ⟨rfl, rfl, rfl⟩ := hm'
                      obtain ⟨bs, hbs, hrb⟩ := hb M rl hrr
                      subst hrb
                      have hbl : bs.length = n + 1 := by simpa using hrl
                      have hsh' : w.shape? β = some (e, c.size) := by simp [World.shape?, ho]
                      have hco : P.cellsOf e = 1 := by simp [Program.cellsOf, hi, hsz]
                      have hrun := run_unsafeString_at (P := P) w (pt :: ts).toArray pt t e kk rfl hu hco β (δ + off) c.size hsh' bs (by intro e0; rw [e0] at hbl; simp at hbl) (by omega) (by omega) (fun j x hx => hcell j _ (by simp [hx]))
                      rw [hbl] at hrun
                      refine ⟨_, _, hrun, .str (by simpa using hbs), ?_⟩
                      have hfz : (w.freeze ⟨β, δ + off, none⟩ (n + 1)).heap = w.heap.modify β fun x => match x with
                          | .cells c elem (lo, hi) => .cells c elem (if lo == hi then (δ + off, δ + off + (n + 1)) else (min lo (δ + off), max hi (δ + off + (n + 1))))
                          | o => o := by
                        simp only [World.freeze, if_neg (Nat.succ_ne_zero n)]
                        rfl
                      refine Post.update hinv hg hm hn hget (by rw [hfz]; simp) ?_ (fun j hj => ?_) (by simp [World.freeze]) (by simp [World.freeze]) (by simp [World.freeze])
                      · rw [hfz, Array.getElem?_modify, if_pos rfl, ho]
                        obtain ⟨f1, f2⟩ := fr
                        refine ⟨c, _, rfl, hc, hcl, hcells, ?_, hsh⟩
                        have hw := wide_spec (lo := lo) (hi := hi') (off := off) (n := Nat.succ n)
                        obtain ⟨w1, w2, w3⟩ := hw
                        right; left
                        rcases hfr with h6 | ⟨h6, h7, h8⟩ | ⟨h6, _⟩
                        · simp only at h6
                          subst h6
                          simp only [beq_self_eq_true, if_true]
                          exact ⟨by omega, by omega, by omega⟩
                        · simp only at h7 h8
                          obtain ⟨w4, w5⟩ := w3 h6
                          by_cases h9 : f1 = f2
                          · subst h9
                            simp only [beq_self_eq_true, if_true]
                            exact ⟨by omega, by omega, by omega⟩
                          · have : (f1 == f2) = false := by simpa using h9
                            simp only [this, Bool.false_eq_true, if_false]
                            refine ⟨by omega, ?_, ?_⟩
                            · exact Nat.le_min.2 ⟨by omega, by omega⟩
                            · exact Nat.max_le.2 ⟨by omega, by omega⟩
                        · cases h6
                      · rw [hfz, Array.getElem?_modify, if_neg (fun e => hj e.symm)]
            · cases hk
          · cases hk
        · cases hk
      · cases hk
    · cases hk
  · cases hk

theorem run_markStringish {W : World} {a : Addr} {e : TypeId} {n : Nat} (h : W.shape? a.block = some (e, n)) :
    (markStringish a).run P W = .ok () (W.freeze { block := a.block, off := n } 1) := by simp [markStringish, h]

theorem freeze_push (w : World) (row : Array Value) (e : TypeId) :
    ({ w with heap := w.heap.push (.cells row e) } : World).freeze ⟨w.heap.size, row.size, none⟩ 1 = { w with heap := w.heap.push (.cells row e (row.size, row.size + 1)) } := by
  unfold World.freeze
  rw [if_neg (by decide)]
  congr 1
  apply Array.ext
  · simp
  · intro i h1 h2
    rw [Array.getElem_modify]
    by_cases hi : w.heap.size = i
    · subst hi; simp
    · simp only [hi, if_false]
      simp at h1
      rw [Array.getElem_push_lt (by omega), Array.getElem_push_lt (by omega)]

def byteRow (str : ByteArray) (cap : Nat) : Array Value := (str.data.map fun b => Value.int .u8 (b.toNat : Int)) ++ Array.replicate (cap - str.size) (.int .u8 0)

theorem run_stringToBytes (w : World) (e : TypeId) (str : ByteArray) : ∃ cap, str.size ≤ cap ∧ (Conv.stringToBytes e str).run P w =
    .ok (.slice (some ⟨w.heap.size, 0, none⟩) str.size cap) { w.drew with heap := w.heap.push (.cells (byteRow str cap) e ((byteRow str cap).size, (byteRow str cap).size + 1)) } := by
  refine ⟨(Question.appendCap str.size 0 e).cut (w.tape w.drawn (.appendCap str.size 0 e)), by simp [Question.cut], ?_⟩
  generalize hcap : (Question.appendCap str.size 0 e).cut (w.tape w.drawn (.appendCap str.size 0 e)) = cap
  have hch : (choose (.appendCap str.size 0 e)).run P w = .ok cap w.drew := by
    rw [run_choose, ← hcap]
    rfl
  generalize hrow : byteRow str cap = row
  have hsh : ({ w.drew with heap := w.heap.push (.cells row e) } : World).shape? w.heap.size = some (e, row.size) := by simp [World.shape?]
  have hms := run_markStringish (P := P) (a := ⟨w.heap.size, 0, none⟩) hsh
  have hfp := freeze_push w.drew row e
  simp only [Conv.stringToBytes, Sem.run_bind, hch, Result.andThen_ok, newRow, Sem.run_pure, run_newObj]
  unfold byteRow at hrow
  rw [hrow]
  have e1 : ({ w.drew with heap := w.drew.heap.push (.cells row e) } : World) = { w.drew with heap := w.heap.push (.cells row e) } := rfl
  have e2 : w.drew.heap.size = w.heap.size := rfl
  rw [e1, e2, hms]
  simp only [Result.andThen_ok]
  exact congrArg _ hfp

theorem toBytes_sound {h : H} {e : TypeId} {s : List Nat} {k : AV → H → Bool}
    (hk : (lenK s 0 fun n => cellsOfK s fun cs => newK h (.cells cs e 0 0 true false) fun b h => k (.sliceU b 0 n 1) h) = true) :
    ∃ v h', k v h' = true ∧ ∀ M w rs, Inv h M w → Fresh M h h' → VRel M (.str s) rs → ∃ str rv M' w', rs = .string str ∧ (Conv.stringToBytes e str).run P w = .ok rv w' ∧ VRel M' v rv ∧ Post h M w h' M' w' := by
  rw [lenK_eq] at hk
  replace hk := cellsOfK_spec hk
  obtain ⟨h', hk, hn, hget⟩ := newK_spec hk
  refine ⟨_, h', hk, fun M w rs hinv hf hs => ?_⟩
  cases hs with
  | str hs =>
    rename_i str
    subst hs
    have hM := hf h.next (Nat.le_refl _) (by omega)
    obtain ⟨cap, hcap, hrun⟩ := run_stringToBytes (P := P) w e str
    generalize hrow : byteRow str cap = row at hrun
    unfold byteRow at hrow
    have hrs : row.size = cap := by
      have : str.data.size = str.size := rfl
      rw [← hrow]; simp; omega
    have hl : (str.data.toList.map (·.toNat)).length = str.size := by simp
    refine ⟨str, _, fun b => if b = h.next then some (w.heap.size, 0, row.size) else M b, _, rfl, hrun, ?_, ?_⟩
    · have e1 : Value.slice (some ⟨w.heap.size, 0, none⟩) str.size cap = .slice (some ⟨w.heap.size, 0 + 0, none⟩) str.size cap := rfl
      rw [e1, Nat.zero_add, hl]
      exact .sliceU (if_pos rfl) hcap (by omega)
    · refine Post.make hinv hM (by omega) (Nat.le_refl _) (by omega) hget rfl ?_ rfl rfl rfl
      refine ⟨row, _, rfl, rfl, by simp; omega, ?_, .inr (.inr ⟨rfl, Nat.le_refl _⟩), fun _ => rfl⟩
      intro i v hv
      obtain ⟨rv, h1, h2⟩ := (bytes_cells M str.data.toList).get hv
      refine ⟨rv, ?_, h2⟩
      have hlt : i < str.data.size := by
        rcases Nat.lt_or_ge i str.data.size with h | h
        · exact h
        · rw [List.getElem?_eq_none (by simpa using h)] at h1; cases h1
      rw [Nat.zero_add, ← h1, ← hrow]
      rw [Array.getElem?_append_left (by simpa using hlt)]
      simp

theorem loudK_sound (hE : EnvOk E P) {call : CallT} (hc : CallOk P call) {o : Oper} {r : Regs} {h : H} {k : AV → H → Bool} (hk : loudK E call o r h k = true) :
    ∃ v h', k v h' = true ∧ OpOk P o r h v h' := by
  unfold loudK at hk
  split at hk
  · -- store
    rename_i t x y ho
    replace hk := opnd_spec hk
    obtain ⟨p, hk, h1⟩ := hk
    replace hk := opnd_spec hk
    obtain ⟨v, hk, h2⟩ := hk
    obtain ⟨h', hk, h3⟩ := store_sound (r := r) hE ho h1 h2 hk
    exact ⟨_, h', hk, h3⟩
  · -- mapUpdate
    rename_i t m key x ho
    replace hk := opnd_spec hk
    obtain ⟨vm, hk, h1⟩ := hk
    replace hk := opnd_spec hk
    obtain ⟨vk, hk, h2⟩ := hk
    replace hk := opnd_spec hk
    obtain ⟨vx, hk, h3⟩ := hk
    obtain ⟨h', hk, h4⟩ := mapSet_sound hE hk
    refine ⟨_, h', hk, fun M a w hr hinv _ next Q hn => ?_⟩
    obtain ⟨w', h5, h6⟩ := h4 M w _ _ _ hinv (h1 M a (hr m (by simp [ho, Op.operands]))) (h2 M a (hr key (by simp [ho, Op.operands]))) (h3 M a (hr x (by simp [ho, Op.operands])))
    exact wp_of_skip (by simp [execOp, ho, h5]) (hn undef M w' (.tuple .nil) h6)
  · -- insert
    rename_i t m key x ho
    replace hk := opnd_spec hk
    obtain ⟨vm, hk, h1⟩ := hk
    replace hk := opnd_spec hk
    obtain ⟨vk, hk, h2⟩ := hk
    replace hk := opnd_spec hk
    obtain ⟨vx, hk, h3⟩ := hk
    obtain ⟨h', hk, h4⟩ := mapSet_sound hE hk
    refine ⟨_, h', hk, fun M a w hr hinv _ next Q hn => ?_⟩
    obtain ⟨w', h5, h6⟩ := h4 M w _ _ _ hinv (h1 M a (hr m (by simp [ho, Op.operands]))) (h2 M a (hr key (by simp [ho, Op.operands]))) (h3 M a (hr x (by simp [ho, Op.operands])))
    exact wp_of_skip (by simp [execOp, ho, h5]) (hn undef M w' (.tuple .nil) h6)
  · -- convert
    rename_i s d x ho
    replace hk := opnd_spec hk
    obtain ⟨vx, hk, h1⟩ := hk
    replace hk := und_spec hE hk
    obtain ⟨ds, hsu, hk⟩ := hk
    have hsrun := run_underlying hsu
    replace hk := und_spec hE hk
    obtain ⟨dd, hu, hk⟩ := hk
    have hrun := run_underlying hu
    split at hk
    · rename_i e str
      replace hk := und_spec hE hk
      obtain ⟨de, heu, hk⟩ := hk
      have herun := run_underlying heu
      split at hk
      · obtain ⟨v, h', hk, h2⟩ := toBytes_sound (P := P) hk
        refine ⟨v, h', hk, fun M a w hr hinv hf next Q hn => ?_⟩
        obtain ⟨rs, rv, M', w', h3, h4, h5, h6⟩ := h2 M w _ hinv hf.fresh (h1 M a (hr x (by simp [ho, Op.operands])))
        exact wp_of_value (by simp [execOp, ho, convert, hsrun, hrun, h3, herun, h4]) (hn rv M' w' h5 h6)
      · cases hk
    · cases hk
  · -- call
    rename_i c ho
    have hmem : ∀ {M : Mp} {a : Act}, (∀ x ∈ o.op.operands.toList, OpndRel M r a x) → ∀ x ∈ c.args.toList, OpndRel M r a x :=
      fun hr x hx => hr x (by rw [ho]; exact call_operand hx)
    replace hk := opnds_spec hk
    obtain ⟨vs, hk, h2⟩ := hk
    split at hk
    · rename_i b hcal
      split at hk
      · obtain ⟨v, h', hk, h3⟩ := appendK_sound hE hk
        refine ⟨v, h', hk, fun M a w hr hinv hf next Q hn => ?_⟩
        obtain ⟨rv, M', w', h4, h5, h6⟩ := h3 M w _ o.type hinv hf.fresh (h2 M a (hmem hr))
        rw [toArray_map, Array.toArray_toList] at h4
        obtain ⟨_, e⟩ := run_builtin (P := P) (a := a) (w := w) ho hcal
        exact wp_of_value (by rw [e]; exact run_v h4) (hn rv M' w' h5 h6)
      · obtain ⟨v, h', hk, h3⟩ := copyK_sound hE hk
        refine ⟨v, h', hk, fun M a w hr hinv hf next Q hn => ?_⟩
        obtain ⟨rv, w', h4, h5, h6⟩ := h3 M w _ o.type hinv (h2 M a (hmem hr))
        rw [toArray_map, Array.toArray_toList] at h4
        obtain ⟨_, e⟩ := run_builtin (P := P) (a := a) (w := w) ho hcal
        exact wp_of_value (by rw [e]; exact run_v h4) (hn rv M w' h5 h6)
      · obtain ⟨h', hk, h3⟩ := clearK_sound hE hk
        refine ⟨_, h', hk, fun M a w hr hinv hf next Q hn => ?_⟩
        obtain ⟨w', h4, h6⟩ := h3 M w _ o.type hinv (h2 M a (hmem hr))
        rw [toArray_map, Array.toArray_toList] at h4
        obtain ⟨_, e⟩ := run_builtin (P := P) (a := a) (w := w) ho hcal
        exact wp_of_value (by rw [e]; exact run_v h4) (hn _ M w' (.tuple .nil) h6)
      · obtain ⟨h', hk, h3⟩ := delete_sound hE hk
        refine ⟨_, h', hk, fun M a w hr hinv hf next Q hn => ?_⟩
        obtain ⟨w', h4, h6⟩ := h3 M w _ o.type hinv (h2 M a (hmem hr))
        rw [toArray_map, Array.toArray_toList] at h4
        obtain ⟨_, e⟩ := run_builtin (P := P) (a := a) (w := w) ho hcal
        exact wp_of_value (by rw [e]; exact run_v h4) (hn _ M w' (.tuple .nil) h6)
      · obtain ⟨v, h', hk, h3⟩ := unsafeStringK_sound hE hk
        refine ⟨v, h', hk, fun M a w hr hinv hf next Q hn => ?_⟩
        obtain ⟨rv, w', h4, h5, h6⟩ := h3 M w _ o.type hinv (h2 M a (hmem hr))
        rw [toArray_map, Array.toArray_toList] at h4
        obtain ⟨_, e⟩ := run_builtin (P := P) (a := a) (w := w) ho hcal
        exact wp_of_value (by rw [e]; exact run_v h4) (hn rv M w' h5 h6)
      · cases hk
    · rename_i fo hcal
      replace hk := opnd_spec hk
      obtain ⟨vf, hk, h1⟩ := hk
      split at hk
      · rename_i f first captured
        rw [catK_eq, catK_eq] at hk
        obtain ⟨v, h', hk, h3⟩ := hc _ _ _ _ hk
        refine ⟨v, h', hk, fun M a w hr hinv hf next Q hn => ?_⟩
        have hfo := h1 M a (hr fo (by rw [ho]; simp [Op.operands, Call.operands, hcal]))
        generalize hfe : a.eval fo = rf at hfo
        cases hfo with
        | func hfa hfc =>
          rename_i ra rc
          have hargs : VRels M (first ++ (vs ++ captured)) (ra ++ c.args.map a.eval ++ rc).toList := by
            simp only [Array.toList_append, List.append_assoc]
            exact hfa.append ((by simpa using h2 M a (hmem hr) : VRels M vs (c.args.map a.eval).toList).append hfc)
          have hex : (execOp a.eval o).run P w = (callFunc f (ra ++ c.args.map a.eval ++ rc)).run P w := by
            simp [execOp, ho, resolve, hcal, hfe, Deferred.ofValue, invoke]
          rcases h3 M w _ hargs hinv hf with ⟨rv, M', w', h4, h5, h6⟩ | ⟨h4, h5⟩
          · exact wp_of_value (hex.trans h4) (hn rv M' w' h5 h6)
          · unfold Oper.wp
            rw [hex, h4, Oper.upon_enter]
            refine Calls.mono h5 fun e w' he => ?_
            obtain ⟨rv, M', rfl, h6, h7⟩ := he
            exact hn rv M' w' h6 h7
      · cases hk
    · cases hk
  · cases hk

theorem opK_sound (hE : EnvOk E P) {call : CallT} (hc : CallOk P call) {o : Oper} {r : Regs} {h : H} {k : AV → H → Bool} (hk : opK E call o r h k = true) :
    ∃ v h', k v h' = true ∧ OpOk P o r h v h' := by
  unfold opK at hk
  have quiet : ∀ {k : AV → H → Bool}, quietK E o r h (fun v => k v h) = true → ∃ v h', k v h' = true ∧ OpOk P o r h v h' := by
    intro k hk
    obtain ⟨v, hk, h1⟩ := quietK_sound hE hk
    refine ⟨v, h, hk, fun M a w hr hinv _ next Q hn => ?_⟩
    obtain ⟨rv, h2, h3⟩ := h1 M a w hr hinv
    exact wp_of_value h2 (hn rv M w h3 (.refl hinv))
  have make : ∀ {k : AV → H → Bool}, (makeK E o r fun ob v => newK h ob fun b h => k (v b) h) = true → ∃ v h', k v h' = true ∧ OpOk P o r h v h' := by
    intro k hk
    obtain ⟨ob, vf, hk, h1⟩ := makeK_sound hE hk
    obtain ⟨h', hk, hn', hget⟩ := newK_spec hk
    refine ⟨_, h', hk, fun M a w hr hinv hf next Q hn => ?_⟩
    obtain ⟨obj, rv, n, h2, h3, h4⟩ := h1 M a w hr
    have hM := hf h.next (Nat.le_refl _)
    exact wp_of_value h2 (hn rv _ _ (h4 _ h.next (by simp)) (Post.make hinv hM (by omega) (Nat.le_refl _) (by omega) hget rfl h3 rfl rfl rfl))
  have loud := @loudK_sound E P hE call hc o r h
  have key : ∀ c : Cls, (match c with
      | .quiet => quietK E o r h fun v => k v h
      | .make => makeK E o r fun ob v => newK h ob fun b h => k (v b) h
      | .loud => loudK E call o r h k) = true → ∃ v h', k v h' = true ∧ OpOk P o r h v h' := by
    intro c hk
    cases c with
    | quiet => exact quiet hk
    | make => exact make hk
    | loud => exact loud hk
  have cls : ∀ {kk : Cls → Bool}, clsOf E o kk = true → ∃ c, kk c = true := by
    intro kk hk
    unfold clsOf at hk
    split at hk <;> (try exact ⟨_, hk⟩)
    · obtain ⟨d, _, hk⟩ := und_spec hE hk
      split at hk <;> exact ⟨_, hk⟩
    · split at hk <;> exact ⟨_, hk⟩
  obtain ⟨c, hk⟩ := cls hk
  exact key c hk

end
end Go.Proofs.YtnjobinioalipaaGreatDoor.Ev

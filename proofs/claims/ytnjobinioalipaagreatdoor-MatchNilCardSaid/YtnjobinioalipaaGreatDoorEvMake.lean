/- The operations that make a block. -/
import Derived.Test.YtnjobinioalipaaGreatDoorEvQuiet5
import Derived.Great.BuildSlice
namespace Go.Proofs.YtnjobinioalipaaGreatDoor.Ev
open Go

def MakeOk (P : Program) (o : Oper) (r : Regs) (ob : AObj) (vf : Nat → AV) : Prop :=
  ∀ M a w, (∀ x ∈ o.op.operands.toList, OpndRel M r a x) → ∃ obj rv n, (execOp a.eval o).run P w = .ok (.value rv) { w with heap := w.heap.push obj } ∧
    ORel M ob (some obj) 0 n ∧ ∀ (M' : Mp) c, M' c = some (w.heap.size, 0, n) → VRel M' (vf c) rv

section
variable {E : Env} {P : Program}

theorem cellsOk_of {M : Mp} {cs : List AV} {rcs : Array Value} (h : VRels M cs rcs.toList) : CellsOk M cs rcs 0 := by
  intro i v hi
  obtain ⟨rv, h1, h2⟩ := h.get hi
  exact ⟨rv, by simpa using h1, h2⟩

theorem ORel_of {M : Mp} {cs : List AV} {rcs : Array Value} {e : TypeId} {mk : Bool} (h : VRels M cs rcs.toList) :
    ORel M (.cells cs e 0 0 mk false) (some (.cells rcs e)) 0 rcs.size :=
  ⟨rcs, (0, 0), rfl, rfl, by have := h.length; simp at this; omega, cellsOk_of h, .inl rfl, fun _ => rfl⟩

theorem rep_cells (z : Array Value) (len : Nat) :
    ((Array.range (len * z.size)).map (fun i => z[i % z.size]!)).toList = (List.replicate len z.toList).flatten := by
  rw [Array.toList_map, Array.toList_range]
  induction len with
  | zero => simp
  | succ len ih =>
    rw [show (len + 1) * z.size = z.size + len * z.size from by rw [Nat.add_mul]; omega, List.range_add, List.map_append, List.replicate_succ, List.flatten_cons]
    congr 1
    · apply List.ext_getElem?
      intro i
      by_cases hi : i < z.size
      · simp [hi, Nat.mod_eq_of_lt hi]
      · simp [hi]
    · rw [List.map_map, ← ih]
      apply List.map_congr_left
      intro i _
      simp

theorem range_none (f : Nat → Value) : (Array.range 0).map f = #[] := by simp

theorem makeK_sound (hE : EnvOk E P) {o : Oper} {r : Regs} {k : AObj → (Nat → AV) → Bool} (hk : makeK E o r k = true) :
    ∃ ob vf, k ob vf = true ∧ MakeOk P o r ob vf := by
  unfold makeK at hk
  split at hk
  · -- alloc
    rename_i e ho
    replace hk := zero_spec hE hk
    obtain ⟨i, zv, za, hi, hz, hzr, hk⟩ := hk
    refine ⟨_, _, hk, fun M a w hr => ⟨.cells zv.cells e, .pointer (some ⟨w.heap.size, 0, none⟩), zv.cells.size, ?_, ORel_of (hzr M).cells, fun M' c hc => .ptr hc⟩⟩
    simp [execOp, ho, Instr.alloc, run_zero hi hz, newVar, newRow]
  · -- box
    rename_i e x ho
    replace hk := opnd_spec hk
    obtain ⟨v, hk, h2⟩ := hk
    refine ⟨_, _, hk, fun M a w hr => ⟨.cells (a.eval x).cells e, .pointer (some ⟨w.heap.size, 0, none⟩), (a.eval x).cells.size, ?_,
      ORel_of (h2 M a (hr x (by simp [ho, Op.operands]))).cells, fun M' c hc => .ptr hc⟩⟩
    simp [execOp, ho, Instr.box, newVar, newRow]
  · -- buildSlice
    rename_i t len ps ho
    replace hk := und_spec hE hk
    obtain ⟨d, hu, hk⟩ := hk
    have hrun := run_underlying hu
    split at hk
    · rename_i e
      replace hk := zcells_spec hE hk
      obtain ⟨i, zv, zc, hi, hz, hzr, hzs, hzl, hk⟩ := hk
      replace hk := size_spec hE hk
      obtain ⟨i', hi', hk⟩ := hk
      rw [hi] at hi'
      cases hi'
      replace hk := partsK_spec hk
      obtain ⟨aps, hk, hps⟩ := hk
      rw [natK_eq] at hk
      split at hk
      · rename_i hsm
        replace hsm := ble_le hsm
        rw [repK_eq, List.append_nil] at hk
        replace hk := fillK_spec (rplace := fun x => some (x * i.size, i.size)) (fun j kk hj => by
          unfold elemK at hj
          rw [natK_eq] at hj
          exact ⟨_, _, rfl, hj⟩) _ _ _ hk
        obtain ⟨cs', hk, hcl, hf⟩ := hk
        refine ⟨_, _, hk, fun M a w hr => ?_⟩
        have hmem : ∀ x ∈ ps.toList, OpndRel M r a x.2 := by
          intro x hx
          apply hr
          simp only [ho, Op.operands]
          simp only [List.mem_map]
          exact ⟨x, hx, rfl⟩
        have hrep : VRels M (List.replicate len zc).flatten ((Array.range (len * i.size)).map (fun j => zv.cells[j % zv.cells.size]!)).toList := by
          rw [← hzs, rep_cells]
          exact (hzr M).replicate len
        obtain ⟨rcs', h1, h2⟩ := hf M _ _ hrep (hps M a hmem)
        refine ⟨.cells rcs' e, .slice (some ⟨w.heap.size, 0, none⟩) len len, rcs'.size, ?_, ORel_of h2, fun M' c hc => .slice hc⟩
        simp only [execOp, ho]
        refine run_v ?_
        have hsm' : ¬ len * i.size > 2 ^ 24 := by
          have : Nat.mul len i.size = len * i.size := rfl
          omega
        by_cases hpos : len * i.size = 0
        · have hfill : Instr.fill (fun x => some (x * i.size, i.size)) #[] (ps.map fun (i, x) => (i, a.eval x)).toList = some rcs' := by
            rw [hpos, range_none] at h1
            simpa using h1
          simp only [Instr.buildSlice, Sem.run_bind, hrun, run_size hi, Result.andThen_ok, hpos, if_neg (show ¬ 0 > 2 ^ 24 by decide), if_true, Sem.run_pure, range_none, hfill, newRow, run_newObj]
        · have := run_buildSlice (P := P) w t e len (ps.map fun (i, x) => (i, a.eval x)) rcs' i zv hu hi hz hsm' hpos (by simpa using h1)
          exact this
      · cases hk
    · cases hk
  · -- makeMap
    rename_i t re ho
    replace hk := und_spec hE hk
    obtain ⟨d, hu, hk⟩ := hk
    have hrun := run_underlying hu
    split at hk
    · replace hk := opndO_spec hk
      obtain ⟨v, hk, h2⟩ := hk
      split at hk
      · refine ⟨_, _, hk, fun M a w hr => ⟨.map #[] 0, .map (some w.heap.size), 0, ?_, ⟨#[], 0, rfl, .nil⟩, fun M' c hc => .map hc⟩⟩
        rcases h2 M a (fun y hy => hr y (by simp [ho, Op.operands, hy])) with ⟨_, h3⟩ | ⟨v', y, h3, _, _⟩
        · simp [execOp, ho, h3, Instr.makeMap]
        · cases h3
      · refine ⟨_, _, hk, fun M a w hr => ⟨.map #[] 0, .map (some w.heap.size), 0, ?_, ⟨#[], 0, rfl, .nil⟩, fun M' c hc => .map hc⟩⟩
        rcases h2 M a (fun y hy => hr y (by simp [ho, Op.operands, hy])) with ⟨h3, _⟩ | ⟨v', y, h3, h4, h5⟩
        · cases h3
        · cases h3
          generalize he : a.eval y = vy at h5
          cases h5
          simp [execOp, ho, h4, he, Instr.makeMap, hrun, asInt, asIntOf]
      · cases hk
    · cases hk
  · -- makeSlice
    rename_i t l c ho
    replace hk := opnd_spec hk
    obtain ⟨vl, hk, hl⟩ := hk
    replace hk := opnd_spec hk
    obtain ⟨vc, hk, hc⟩ := hk
    replace hk := natOf_spec hk
    obtain ⟨kl, nl, rfl, hk⟩ := hk
    replace hk := natOf_spec hk
    obtain ⟨kc, nc, rfl, hk⟩ := hk
    split at hk
    · rename_i hlc
      replace hlc := ble_le hlc
      split at hk
      · rename_i hcs
        replace hcs := ble_le hcs
        replace hk := und_spec hE hk
        obtain ⟨d, hu, hk⟩ := hk
        have hrun := run_underlying hu
        split at hk
        · rename_i e
          split at hk
          · rename_i i hi
            replace hi := hE.ty _ _ hi
            split at hk
            · rename_i hb
              replace hb := ble_le hb
              replace hk := zcells_spec hE hk
              obtain ⟨i', zv, zc, hi', hz, hzr, hzs, hzl, hk⟩ := hk
              rw [hi] at hi'
              cases hi'
              rw [repK_eq, List.append_nil] at hk
              refine ⟨_, _, hk, fun M a w hr => ?_⟩
              have h1 := hl M a (hr l (by simp [ho, Op.operands]))
              have h2 := hc M a (hr c (by simp [ho, Op.operands]))
              have hsmall : small = 1048576 := rfl
              have hbn : i.bytes * nc ≤ 1048576 * 1048576 := Nat.mul_le_mul (by omega) (by omega)
              have hbl : i.bytes * nl ≤ 1048576 * 1048576 := Nat.mul_le_mul (by omega) (by omega)
              generalize he1 : a.eval l = v1 at h1
              generalize he2 : a.eval c = v2 at h2
              cases h1
              cases h2
              have wrap_id : ∀ n : Nat, n ≤ 1048576 → IntKind.i64.wrap (n : Int) = n := by
                intro n hn
                rw [wrap_def]
                simp only [modu, lim, IntKind.signed]
                rw [if_neg (by omega)]
                omega
              have hrep : VRels M (List.replicate nc zc).flatten ((Array.range (nc * i.size)).map (fun j => zv.cells[j % zv.cells.size]!)).toList := by
                rw [← hzs, rep_cells]
                exact (hzr M).replicate nc
              have e1 : ¬ ((i.bytes : Int) * (nc : Int) > 2 ^ 48) := by
                have : ((i.bytes * nc : Nat) : Int) ≤ ((1048576 * 1048576 : Nat) : Int) := Int.ofNat_le.2 hbn
                rw [Int.natCast_mul] at this
                omega
              refine ⟨.cells ((Array.range (nc * i.size)).map (fun j => zv.cells[j % zv.cells.size]!)) e, .slice (some ⟨w.heap.size, 0, none⟩) nl nc, _, ?_, ORel_of hrep, fun M' c hc => .slice hc⟩
              simp only [execOp, ho]
              refine run_v ?_
              have w1 := wrap_id nl (by omega)
              have w2 := wrap_id nc (by omega)
              simp only [Instr.makeSlice, Sem.run_bind, hrun, Result.andThen_ok, he1, he2, asInt, asIntOf, Sem.run_pure, run_info hi, Int.ofNat_eq_natCast, w1, w2]
              have c1 : (decide ((nc : Int) < 0) || decide ((i.bytes : Int) * (nc : Int) > 2 ^ 48) || decide ((nl : Int) < 0) || decide ((nl : Int) > (nc : Int))) = false := by
                simp only [Bool.or_eq_false_iff, decide_eq_false_iff_not]
                refine ⟨⟨⟨by omega, e1⟩, by omega⟩, by omega⟩
              simp only [c1, Bool.false_eq_true, if_false, Sem.run_bind, run_askRoom, Result.andThen_ok, run_size hi, Int.toNat_natCast]
              by_cases hn : nc * i.size = 0
              · simp only [hn, if_true, Sem.run_pure, Result.andThen_ok, newRow, Sem.run_bind, run_newObj, range_none]
              · simp [hn, run_zero hi hz, newRow]
            · cases hk
          · cases hk
        · cases hk
      · cases hk
    · cases hk
  · cases hk

end
end Go.Proofs.YtnjobinioalipaaGreatDoor.Ev

/- The operations that turn memory. -/
import Derived.Test.YtnjobinioalipaaGreatDoorEvMake
import Derived.Laws.CopyRow
namespace Go.Proofs.YtnjobinioalipaaGreatDoor.Ev
open Go

def OpOk (P : Program) (o : Oper) (r : Regs) (h : H) (v : AV) (h' : H) : Prop :=
  ∀ M a w, (∀ x ∈ o.op.operands.toList, OpndRel M r a x) → Inv h M w → Free M h → ∀ (next : Act → World → Prop) (Q : Exit → Act → World → Prop),
    (∀ rv M' w', VRel M' v rv → Post h M w h' M' w' → next (a.put o.dst rv) w') → o.wp P a w next Q

section
variable {E : Env} {P : Program}

theorem wp_of_value {o : Oper} {a : Act} {w w' : World} {rv : Value} {next : Act → World → Prop} {Q : Exit → Act → World → Prop}
    (h : (execOp a.eval o).run P w = .ok (.value rv) w') (hn : next (a.put o.dst rv) w') : o.wp P a w next Q := by
  unfold Oper.wp; rw [h]; exact hn

theorem wp_of_skip {o : Oper} {a : Act} {w w' : World} {next : Act → World → Prop} {Q : Exit → Act → World → Prop}
    (h : (execOp a.eval o).run P w = .ok .skip w') (hn : next (a.put o.dst undef) w') : o.wp P a w next Q := by
  unfold Oper.wp; rw [h]; exact hn

theorem run_storeCells_ok (g o : Nat) (t : TypeId) (fr : Nat × Nat) : ∀ (vs : List Value) (i : Nat) (cur : Array Value) (w : World),
    w.heap[g]? = some (.cells cur t fr) → o + i + vs.length ≤ cur.size → (∀ v ∈ vs, v.oneCell' = true) →
    (∀ j, o + i ≤ j → j < o + i + vs.length → ¬ (fr.1 ≤ j ∧ j < fr.2)) →
    (storeCells ⟨g, o, none⟩ vs i).run P w = .ok () (w.setRow g (cur.toList.take (o + i) ++ vs ++ cur.toList.drop (o + i + vs.length)).toArray)
  | [], i, cur, w, hg, _, _, _ => by
    simp only [storeCells, List.append_nil, List.length_nil, Nat.add_zero, List.take_append_drop, Array.toArray_toList]
    rw [setRow_self w g cur t fr hg]
    rfl
  | v :: rest, i, cur, w, hg, hl, h1, hfz => by
    have hi : o + i < cur.size := by simp at hl; omega
    have hcell : w.cell? ⟨g, o + i, none⟩ = some cur[o + i] := by simp [World.cell?, hg, hi]
    have hfro : w.frozen? ⟨g, o + i, none⟩ = false := by
      obtain ⟨lo, hi'⟩ := fr
      have := hfz (o + i) (Nat.le_refl _) (by simp)
      simp only [World.frozen?, hg, Bool.and_eq_false_iff, decide_eq_false_iff_not]
      simp only at this
      omega
    have hst : (store ((⟨g, o, none⟩ : Addr).add i) v).run P w = .ok () (w.setRow g (cur.setIfInBounds (o + i) v)) := by
      rw [addr_add, run_store P w _ v _ (h1 v (by simp)), hcell]
      simp [hfro, setCell_eq_setRow w g (o + i) cur t fr v hg]
    have ih := run_storeCells_ok g o t fr rest (i + 1) (cur.setIfInBounds (o + i) v) (w.setRow g (cur.setIfInBounds (o + i) v)) (setRow_heap w g cur _ t _ hg) (by simp at hl ⊢; omega) (fun x hx => h1 x (by simp [hx]))
      (fun j h2 h3 => hfz j (by omega) (by simp; omega))
    simp only [storeCells, Sem.run_bind, hst, Result.andThen_ok, ih, setRow_setRow]
    congr 3
    have e := list_seg_step cur.toList (o + i) v rest (by simp at hl ⊢; omega)
    simpa [Array.toList_setIfInBounds, Nat.add_assoc] using e

theorem freeOf_spec {lo hi off n : Nat} (h : freeOf lo hi off n = true) : hi ≤ lo ∨ hi ≤ off ∨ off + n ≤ lo := by
  unfold freeOf at h
  split at h
  · rename_i h1; exact .inl (ble_le h1)
  · split at h
    · rename_i h1; exact .inr (.inl (ble_le h1))
    · exact .inr (.inr (ble_le h))

theorem cells_put {M : Mp} {cs vs : List AV} {c : Array Value} {rvs : List Value} {δ off : Nat} (hc : CellsOk M cs c δ) (hv : VRels M vs rvs) (hl : off + vs.length ≤ cs.length) (hn : δ + cs.length ≤ c.size) :
    CellsOk M (cs.take off ++ (vs ++ cs.drop (off + vs.length))) (c.toList.take (δ + off) ++ rvs ++ c.toList.drop (δ + off + rvs.length)).toArray δ := by
  have hlen := hv.length
  intro i v hi
  have l1 : (cs.take off).length = off := by simp; omega
  have l2 : (c.toList.take (δ + off)).length = δ + off := by simp; omega
  simp only [List.append_assoc, List.getElem?_toArray]
  by_cases h1 : i < off
  · rw [List.getElem?_append_left (by omega), List.getElem?_take, if_pos h1] at hi
    obtain ⟨rv, h2, h3⟩ := hc _ _ hi
    exact ⟨rv, by rw [List.getElem?_append_left (by omega), List.getElem?_take, if_pos (by omega), Array.getElem?_toList]; exact h2, h3⟩
  · rw [List.getElem?_append_right (by omega), l1] at hi
    by_cases h2 : i - off < vs.length
    · rw [List.getElem?_append_left h2] at hi
      obtain ⟨rv, h3, h4⟩ := hv.get hi
      refine ⟨rv, ?_, h4⟩
      rw [List.getElem?_append_right (by omega), l2, List.getElem?_append_left (by omega), ← h3]
      congr 1; omega
    · rw [List.getElem?_append_right (by omega), List.getElem?_drop] at hi
      obtain ⟨rv, h3, h4⟩ := hc _ _ hi
      refine ⟨rv, ?_, h4⟩
      rw [List.getElem?_append_right (by omega), l2, List.getElem?_append_right (by omega), List.getElem?_drop, Array.getElem?_toList, ← h3]
      congr 1; omega

theorem writeK_spec {h : H} {b off : Nat} {vs : List AV} {k : H → Bool} (hk : writeK h b off vs k = true) :
    ∃ h', k h' = true ∧ ∀ M w β δ n rvs, Inv h M w → M b = some (β, δ, n) → VRels M vs rvs →
      ∃ w', (storeCells ⟨β, δ + off, none⟩ rvs).run P w = .ok () w' ∧ Post h M w h' M w' := by
  unfold writeK at hk
  split at hk
  · rename_i cs e lo hi mk sh hg
    split at hk
    · rename_i h1
      rw [lenK_eq] at hk
      split at hk
      · rename_i hf
        replace hf := freeOf_spec hf
        obtain ⟨hl, hk⟩ := putK_iff _ _ _ _ hk
        obtain ⟨h', hk, hn, hget⟩ := setObjK_spec hk
        refine ⟨h', hk, fun M w β δ n rvs hinv hm hv => ?_⟩
        obtain ⟨hlt, c, fr, ho, hc, hcl, hcells, hfr, hsh⟩ := hinv.bound hg hm
        have hlen := hv.length
        have hrun := run_storeCells_ok (P := P) β (δ + off) e fr rvs 0 c w ho (by omega) (hv.one h1) (by
          intro j h2 h3
          rcases hfr with h4 | ⟨h4, h5, h6⟩ | ⟨_, h4⟩
          · omega
          · rintro ⟨h7, h8⟩; omega
          · rintro ⟨h7, h8⟩; omega)
        simp only [Nat.add_zero] at hrun
        refine ⟨_, hrun, Post.update hinv hg hm hn hget (by simp) ?_ (fun j hj => setRow_other _ _ _ _ hj) rfl rfl rfl⟩
        rw [setRow_heap w β c _ e fr ho]
        refine ⟨_, fr, rfl, ?_, ?_, cells_put hcells hv hl (by omega), hfr, hsh⟩
        · simp; omega
        · simp; omega
      · cases hk
    · cases hk
  · cases hk

theorem store_sound (hE : EnvOk E P) {o : Oper} {t : TypeId} {x y : Operand} (ho : o.op = .store t x y) {r : Regs} {h : H} {k : H → Bool} {p v : AV}
    (hp : ∀ M a, OpndRel M r a x → VRel M p (a.eval x)) (hv : ∀ M a, OpndRel M r a y → VRel M v (a.eval y)) (hk : storeK E h t p v k = true) :
    ∃ h', k h' = true ∧ OpOk P o r h (.tuple []) h' := by
  unfold storeK at hk
  split at hk
  · rename_i b off
    replace hk := size_spec hE hk
    obtain ⟨i, hi, hk⟩ := hk
    rw [lenK_eq] at hk
    split at hk
    · rename_i hsz
      replace hsz := Nat.eq_of_beq_eq_true hsz
      replace hk := writeK_spec (P := P) hk
      obtain ⟨h', hk, hw⟩ := hk
      refine ⟨h', hk, fun M a w hr hinv _ next Q hn => ?_⟩
      have h1 := hp M a (hr x (by simp [ho, Op.operands]))
      have h2 := hv M a (hr y (by simp [ho, Op.operands]))
      generalize hx : a.eval x = rx at h1
      cases h1 with
      | ptr hm =>
        rename_i β δ n
        obtain ⟨w', h3, h4⟩ := hw M w β δ n _ hinv hm h2.cells
        have hlen := h2.cells.length
        refine wp_of_skip (w' := w') ?_ (hn undef M w' (.tuple .nil) h4)
        have hs : ¬ (a.eval y).cells.size ≠ i.size := by simp at hlen hsz; omega
        simp only [execOp, ho, Instr.storeAt, hx, Instr.sureAddr, Sem.run_bind, Sem.run_pure, Result.andThen_ok, storeVar, run_size hi, if_neg hs, h3]
    · cases hk
  · cases hk

end
end Go.Proofs.YtnjobinioalipaaGreatDoor.Ev

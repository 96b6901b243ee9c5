/- The evaluator's numbers and texts against the model's. -/
import Derived.Test.YtnjobinioalipaaGreatDoorEvRel
import Derived.Laws.Strings
import Derived.Laws.Entries
namespace Go.Proofs.YtnjobinioalipaaGreatDoor.Ev
open Go

theorem wrap_def (kk : IntKind) (n : Int) : kk.wrap n = if kk.signed = true ∧ n % (modu kk : Int) ≥ (lim kk : Int) then n % (modu kk : Int) - (modu kk : Int) else n % (modu kk : Int) := by
  cases kk <;> simp [IntKind.wrap, IntKind.bits, IntKind.signed, modu, lim]

theorem lim_le (kk : IntKind) : lim kk ≤ modu kk := by cases kk <;> decide
theorem lim_uns (kk : IntKind) (h : kk.signed = false) : lim kk = modu kk := by cases kk <;> first | rfl | simp [IntKind.signed] at h
theorem modu_pos (kk : IntKind) : 0 < modu kk := by cases kk <;> decide

theorem residue_eq (kk : IntKind) (n : Int) : (residue kk n : Int) = n % (modu kk : Int) := by
  have hp := modu_pos kk
  cases n with
  | ofNat m => rfl
  | negSucc m =>
    rw [Int.negSucc_emod _ (by omega)]
    simp only [residue]
    have h1 : m % modu kk < modu kk := Nat.mod_lt _ hp
    show ((modu kk - 1 - m % modu kk : Nat) : Int) = _
    omega

theorem residue_lt (kk : IntKind) (n : Int) : residue kk n < modu kk := by
  have h := residue_eq kk n
  have h2 := Int.emod_lt_of_pos n (b := (modu kk : Int)) (by have := modu_pos kk; omega)
  omega

theorem backK_eq (kk : IntKind) (m : Nat) (k : Int → Bool) (hm : m < modu kk) : backK kk m k = k (kk.wrap (m : Int)) := by
  have hmod : (m : Int) % (modu kk : Int) = m := Int.emod_eq_of_lt (by omega) (by omega)
  rw [wrap_def, hmod]
  unfold backK
  split
  · rename_i h
    have h' : m < lim kk := by simpa [Nat.blt_eq] using h
    rw [natK_eq, if_neg (by omega)]
    rfl
  · rename_i h
    have h' : ¬ m < lim kk := by
      intro hc
      rw [← Nat.blt_eq] at hc
      rw [hc] at h; cases h
    have hs : kk.signed = true := by
      cases hs : kk.signed with
      | true => rfl
      | false => have := lim_uns kk hs; omega
    rw [natK_eq, if_pos ⟨hs, by omega⟩]
    congr 1
    have e : (modu kk).sub m = modu kk - m := rfl
    rw [e, Int.negSucc_eq, Nat.pred_eq_sub_one]
    omega

theorem wrap_residue (kk : IntKind) (n : Int) : kk.wrap (residue kk n : Int) = kk.wrap n := by
  rw [wrap_def, wrap_def, residue_eq, Int.emod_emod]

theorem wrapK_eq (kk : IntKind) (n : Int) (k : Int → Bool) : wrapK kk n k = k (kk.wrap n) := by
  have hr := residue_lt kk n
  have hw := wrap_residue kk n
  cases n with
  | ofNat m =>
    simp only [wrapK]
    split
    · rename_i h
      have h' : m < lim kk := by simpa [Nat.blt_eq] using h
      have hmod : (m : Int) % (modu kk : Int) = m := Int.emod_eq_of_lt (by omega) (by have := lim_le kk; omega)
      rw [natK_eq, wrap_def]
      simp only [Int.ofNat_eq_natCast]
      rw [hmod, if_neg (by omega)]
    · rw [natK_eq]
      exact (backK_eq kk (residue kk (.ofNat m)) k hr).trans (congrArg k hw)
  | negSucc m =>
    simp only [wrapK]
    rw [natK_eq]
    exact (backK_eq kk (residue kk (.negSucc m)) k hr).trans (congrArg k hw)

theorem ofInt_toNat (kk : IntKind) (n : Int) : (BitVec.ofInt kk.bits n).toNat = residue kk n := by
  rw [BitVec.toNat_ofInt]
  have h := residue_eq kk n
  have e : ((2 ^ kk.bits : Nat) : Int) = (modu kk : Int) := by cases kk <;> rfl
  rw [e]
  omega

theorem two_pow_bits (kk : IntKind) : 2 ^ kk.bits = modu kk := by cases kk <;> rfl

theorem intBin_sound (P : Program) (op : BinOp) (kk : IntKind) (a b : Int) (k : AV → Bool) (h : intBin op kk a b k = true) :
    ∃ v rv, k v = true ∧ (∀ M, VRel M v rv) ∧ ∀ w, (match op with
      | .add | .sub | .mul => Op.intArith op kk a b
      | .quo | .rem => Op.intDiv op kk a b
      | .and | .or | .xor | .andNot => Op.intBits op kk a b
      | _ => Op.intCmp op a b).run P w = .ok rv w := by
  cases op <;> simp only [intBin] at h <;> try (with_reducible exact absurd h Bool.false_ne_true)
  case add => exact ⟨_, _, by rw [wrapK_eq] at h; exact h, fun M => .int _ _, fun w => rfl⟩
  case sub => exact ⟨_, _, by rw [wrapK_eq] at h; exact h, fun M => .int _ _, fun w => rfl⟩
  case mul => exact ⟨_, _, by rw [wrapK_eq] at h; exact h, fun M => .int _ _, fun w => rfl⟩
  case quo =>
    split at h
    · cases h
    · rename_i hb
      have hb' : ¬ b = 0 := fun e => by rw [(eqI_iff _ _).2 (show b = Int.ofNat 0 from e)] at hb; cases hb
      exact ⟨_, _, by rw [wrapK_eq] at h; exact h, fun M => .int _ _, fun w => by simp [Op.intDiv, hb']⟩
  case rem =>
    split at h
    · cases h
    · rename_i hb
      have hb' : ¬ b = 0 := fun e => by rw [(eqI_iff _ _).2 (show b = Int.ofNat 0 from e)] at hb; cases hb
      exact ⟨_, _, by rw [intK_eq] at h; exact h, fun M => .int _ _, fun w => by simp [Op.intDiv, hb']⟩
  case and =>
    have hlt : (residue kk a).land (residue kk b) < modu kk := by
      rw [← two_pow_bits]; exact Nat.and_lt_two_pow _ (by rw [two_pow_bits]; exact residue_lt kk b)
    rw [natK_eq, backK_eq _ _ _ hlt] at h
    refine ⟨_, _, h, fun M => .int _ _, fun w => ?_⟩
    simp only [Op.intBits, Sem.run_pure, BitVec.toNat_and, ofInt_toNat]
    rfl
  case or =>
    have hlt : (residue kk a).lor (residue kk b) < modu kk := by
      rw [← two_pow_bits]; exact Nat.or_lt_two_pow (by rw [two_pow_bits]; exact residue_lt kk a) (by rw [two_pow_bits]; exact residue_lt kk b)
    rw [natK_eq, backK_eq _ _ _ hlt] at h
    refine ⟨_, _, h, fun M => .int _ _, fun w => ?_⟩
    simp only [Op.intBits, Sem.run_pure, BitVec.toNat_or, ofInt_toNat]
    rfl
  case xor =>
    have hlt : (residue kk a).xor (residue kk b) < modu kk := by
      rw [← two_pow_bits]; exact Nat.xor_lt_two_pow (by rw [two_pow_bits]; exact residue_lt kk a) (by rw [two_pow_bits]; exact residue_lt kk b)
    rw [natK_eq, backK_eq _ _ _ hlt] at h
    refine ⟨_, _, h, fun M => .int _ _, fun w => ?_⟩
    simp only [Op.intBits, Sem.run_pure, BitVec.toNat_xor, ofInt_toNat]
    rfl
  case eql => exact ⟨_, _, by rw [boolK_eq, eqI_eq] at h; exact h, fun M => .bool _, fun w => rfl⟩
  case neq => exact ⟨_, _, by rw [notK_eq, eqI_eq] at h; exact h, fun M => .bool _, fun w => rfl⟩
  case lss => exact ⟨_, _, by rw [boolK_eq, ltI_eq] at h; exact h, fun M => .bool _, fun w => rfl⟩
  case leq =>
    refine ⟨_, _, by rw [notK_eq, ltI_eq] at h; exact h, fun M => .bool _, fun w => ?_⟩
    simp only [Op.intCmp, Sem.run_pure]
    congr 2
    by_cases hc : b < a <;> simp [hc] <;> omega
  case gtr => exact ⟨_, _, by rw [boolK_eq, ltI_eq] at h; exact h, fun M => .bool _, fun w => rfl⟩
  case geq =>
    refine ⟨_, _, by rw [notK_eq, ltI_eq] at h; exact h, fun M => .bool _, fun w => ?_⟩
    simp only [Op.intCmp, Sem.run_pure]
    congr 2
    by_cases hc : a < b <;> simp [hc] <;> omega

theorem bitsOf_eq (kk : IntKind) : bitsOf kk = kk.bits := by cases kk <;> rfl

theorem least_eq (y m : Nat) : least y m = min y m := by
  unfold least
  cases e : Nat.ble y m with
  | true => have := Nat.le_of_ble_eq_true e; simp; omega
  | false =>
    have : ¬ y ≤ m := fun hc => by rw [Nat.ble_eq_true_of_le hc] at e; cases e
    simp; omega

theorem shiftOf_sound (P : Program) (op : BinOp) (kk yk : IntKind) (a b : Int) (k : AV → Bool) (h : shiftOf op kk a b k = true) :
    ∃ v rv, k v = true ∧ (∀ M, VRel M v rv) ∧ ∀ w, (Op.shift op kk a yk b).run P w = .ok rv w := by
  cases b with
  | negSucc y => simp [shiftOf] at h
  | ofNat y =>
    have hn : least y (bitsOf kk) = min y kk.bits := by rw [least_eq, bitsOf_eq]
    simp only [shiftOf, natK_eq] at h
    rw [hn] at h
    have hpow : Int.ofNat (Nat.pow 2 (min y kk.bits)) = (2 : Int) ^ (min y kk.bits) := by
      show ((2 ^ (min y kk.bits) : Nat) : Int) = _
      exact Int.natCast_pow 2 _
    have hneg : ¬ (Int.ofNat y < 0) := by simp
    cases op <;> simp only [] at h <;> try (with_reducible exact absurd h Bool.false_ne_true)
    case shl =>
      rw [wrapK_eq, hpow] at h
      exact ⟨_, _, h, fun M => .int _ _, fun w => by simp only [Op.shift, if_neg hneg]; rfl⟩
    case shr =>
      rw [intK_eq, hpow] at h
      exact ⟨_, _, h, fun M => .int _ _, fun w => by simp only [Op.shift, if_neg hneg]; rfl⟩

theorem toNat_inj {x y : List UInt8} : x.map (·.toNat) = y.map (·.toNat) ↔ x = y := by
  exact List.map_inj_right fun a b hab => UInt8.toNat_inj.1 hab

theorem strLt_eq (x y : List UInt8) : strLt (x.map (·.toNat)) (y.map (·.toNat)) = Op.bytesLess x y := by
  induction x generalizing y with
  | nil => cases y <;> simp [strLt, Op.bytesLess]
  | cons a x ih => cases y with
    | nil => simp [strLt, Op.bytesLess]
    | cons b y =>
      simp only [List.map_cons, strLt, Op.bytesLess, ih]
      split
      · rename_i h
        have : a < b := by simpa [Nat.blt_eq, UInt8.lt_iff_toNat_lt] using h
        simp [this]
      · rename_i h
        have h1 : ¬ a < b := by
          intro hc
          rw [UInt8.lt_iff_toNat_lt, ← Nat.blt_eq] at hc
          rw [hc] at h; cases h
        split
        · rename_i h2
          have : a = b := UInt8.toNat_inj.1 (Nat.eq_of_beq_eq_true h2)
          simp [this]
        · rename_i h2
          have : ¬ a = b := fun e => by subst e; simp at h2
          simp [h1, this]

theorem bytesLess_not (x y : List UInt8) : (!Op.bytesLess y x) = (Op.bytesLess x y || x == y) := by
  induction x generalizing y with
  | nil => cases y <;> simp [Op.bytesLess]
  | cons a x ih => cases y with
    | nil => simp [Op.bytesLess]
    | cons b y =>
      have ih := ih y
      simp only [Op.bytesLess]
      by_cases h1 : a < b
      · have h2 : ¬ b < a := by rw [UInt8.lt_iff_toNat_lt] at *; omega
        have h3 : ¬ b = a := by rintro rfl; exact h2 h1
        simp [h1, h2, h3]
      · by_cases h2 : b < a
        · have h3 : ¬ a = b := by rintro rfl; exact h1 h2
          simp [h1, h2, h3]
        · have h3 : a = b := by
            apply UInt8.toNat_inj.1
            rw [UInt8.lt_iff_toNat_lt] at h1 h2
            omega
          subst h3
          simp [h1]
          have e : Op.bytesLess y x = !(Op.bytesLess x y || x == y) := by rw [← ih]; simp
          rw [e]; simp

theorem strBin_sound (P : Program) (op : BinOp) (x y : List Nat) (k : AV → Bool) (h : strBin op x y k = true) :
    ∃ v, k v = true ∧ ∀ a b : ByteArray, a.data.toList.map (·.toNat) = x → b.data.toList.map (·.toNat) = y →
      ∃ rv, (∀ M, VRel M v rv) ∧ ∀ w, (Op.stringOp op a b).run P w = .ok rv w := by
  have hl : ∀ s : ByteArray, s.toList = s.data.toList := fun s => Go.ByteArray.toList_eq s
  have heq : ∀ a b : ByteArray, strEq (a.data.toList.map (·.toNat)) (b.data.toList.map (·.toNat)) = (a.toList == b.toList) := by
    intro a b
    rw [Bool.eq_iff_iff, strEq_iff, toNat_inj, hl, hl]; simp
  have hlt : ∀ s t : ByteArray, strLt (s.data.toList.map (·.toNat)) (t.data.toList.map (·.toNat)) = Op.bytesLess s.toList t.toList := by
    intro s t; rw [strLt_eq, hl, hl]
  cases op <;> simp only [strBin] at h <;> try (with_reducible exact absurd h Bool.false_ne_true)
  case add =>
    rw [lenK_eq, lenK_eq] at h
    split at h
    · rename_i hm
      rw [catK_eq] at h
      refine ⟨_, h, ?_⟩
      rintro a b rfl rfl
      have hm' : a.size + b.size < 9223372036854775808 := by
        have := (Nat.blt_eq ▸ hm : _ < _)
        simpa using this
      refine ⟨_, fun M => .str (s := a ++ b) (by simp), fun w => ?_⟩
      have : ¬ (((a.size + b.size : Nat) : Int) > IntKind.i64.max) := by
        have e : IntKind.i64.max = 9223372036854775807 := by decide
        rw [e]; omega
      simp only [Op.stringOp, if_neg this]; rfl
    · cases h
  case eql => exact ⟨_, by rw [boolK_eq] at h; exact h, by rintro a b rfl rfl; exact ⟨_, fun M => .bool _, fun w => by rw [heq]; rfl⟩⟩
  case neq => exact ⟨_, by rw [notK_eq] at h; exact h, by rintro a b rfl rfl; exact ⟨_, fun M => .bool _, fun w => by rw [heq]; rfl⟩⟩
  case lss => exact ⟨_, by rw [boolK_eq] at h; exact h, by rintro a b rfl rfl; exact ⟨_, fun M => .bool _, fun w => by rw [hlt]; rfl⟩⟩
  case leq =>
    refine ⟨_, by rw [notK_eq] at h; exact h, ?_⟩
    rintro a b rfl rfl
    refine ⟨_, fun M => .bool _, fun w => ?_⟩
    rw [hlt]
    simp only [Op.stringOp, Sem.run_pure]
    rw [bytesLess_not]
  case gtr =>
    refine ⟨_, by rw [boolK_eq] at h; exact h, ?_⟩
    rintro a b rfl rfl
    refine ⟨_, fun M => .bool _, fun w => ?_⟩
    rw [hlt]
    simp only [Op.stringOp, Sem.run_pure]
    rw [← bytesLess_not, Bool.not_not]
  case geq => exact ⟨_, by rw [notK_eq] at h; exact h, by rintro a b rfl rfl; exact ⟨_, fun M => .bool _, fun w => by rw [hlt]; rfl⟩⟩

end Go.Proofs.YtnjobinioalipaaGreatDoor.Ev

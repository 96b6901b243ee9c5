/- What holds of each thing in a tree. -/
import Derived.Test.YtnjobinioalipaaGreatDoorEvCode
namespace Go.Proofs.YtnjobinioalipaaGreatDoor.Ev
open Go

/-- Each thing in the tree is as 'p' says of its number: 'a' and so many times 's'. -/
def AllT {α : Type} (t : T α) (s a : Nat) (p : Nat → α → Prop) : Prop := ∀ i x, t.get i = some x → p (a + s * i) x

theorem AllT.leaf {α : Type} {s a : Nat} {p : Nat → α → Prop} : AllT (T.leaf : T α) s a p := fun _ _ h => by cases h

theorem AllT.sub {α : Type} {v : Option α} {l r : T α} {s a : Nat} {p : Nat → α → Prop} (h0 : ∀ x, v = some x → p a x) (hl : AllT l (2 * s) (a + s) p) (hr : AllT r (2 * s) (a + 2 * s) p) :
    AllT (.node v l r) s a p := by
  intro i x hx
  cases i with
  | zero => exact h0 x hx
  | succ i =>
    have e1 : (T.node v l r).get (i + 1) = (match i % 2 with | 0 => l.get (i / 2) | _ + 1 => r.get (i / 2)) := rfl
    rw [e1] at hx
    rcases Nat.mod_two_eq_zero_or_one i with e | e
    · rw [e] at hx
      have := hl _ _ hx
      rw [show a + s + 2 * s * (i / 2) = a + s * (i + 1) from by
        have : i = 2 * (i / 2) := by omega
        conv => rhs; rw [this]
        rw [Nat.mul_add, Nat.mul_one, show s * (2 * (i / 2)) = 2 * s * (i / 2) from by rw [← Nat.mul_assoc, Nat.mul_comm s 2]]
        omega] at this
      exact this
    · rw [e] at hx
      have := hr _ _ hx
      rw [show a + 2 * s + 2 * s * (i / 2) = a + s * (i + 1) from by
        have : i = 2 * (i / 2) + 1 := by omega
        conv => rhs; rw [this]
        rw [show 2 * (i / 2) + 1 + 1 = 2 * (i / 2) + 2 from rfl, Nat.mul_add, show s * (2 * (i / 2)) = 2 * s * (i / 2) from by rw [← Nat.mul_assoc, Nat.mul_comm s 2], Nat.mul_comm s 2]
        omega] at this
      exact this

theorem AllT.some {α : Type} {x : α} {l r : T α} {s a : Nat} {p : Nat → α → Prop} (h0 : p a x) (hl : AllT l (2 * s) (a + s) p) (hr : AllT r (2 * s) (a + 2 * s) p) :
    AllT (.node (Option.some x) l r) s a p := .sub (fun y e => by cases e; exact h0) hl hr

theorem AllT.none {α : Type} {l r : T α} {s a : Nat} {p : Nat → α → Prop} (hl : AllT l (2 * s) (a + s) p) (hr : AllT r (2 * s) (a + 2 * s) p) :
    AllT (.node (Option.none : Option α) l r) s a p := .sub (fun y e => by cases e) hl hr

theorem AllT.root {α : Type} {t : T α} {p : Nat → α → Prop} (h : AllT t 1 0 p) : ∀ i x, t.get i = Option.some x → p i x := by
  intro i x hx
  have := h i x hx
  rwa [Nat.zero_add, Nat.one_mul] at this

def FnAt (P : Program) (i : Nat) (x : Func) : Prop := P.funcs[i]? = some x ∧ (x.body.isSome = true → ∀ args w, (callFunc i args).run P w = .ok (.enter i args) w)
theorem FnAt.of {P : Program} {i : Nat} {x : Func} (h : P.funcs[i]? = some x) (h' : ∀ args w, (callFunc i args).run P w = .ok (.enter i args) w) : FnAt P i x := ⟨h, fun _ => h'⟩
theorem FnAt.bare {P : Program} {i : Nat} {x : Func} (h : P.funcs[i]? = some x) (h' : x.body.isSome = false) : FnAt P i x := ⟨h, fun e => by rw [h'] at e; cases e⟩
def TyAt (P : Program) (i : Nat) (x : TypeInfo) : Prop := P.info? i = some x
theorem TyAt.of {P : Program} {i : Nat} {x : TypeInfo} (h : P.toTables.types[i]? = some x) : TyAt P i x := by
  have h1 := (Array.getElem?_eq_some_iff.1 h).1
  show (if i < P.toTables.types.size then P.toTables.types[i]? else Made.infoAt P.toTables Made.depth i) = some x
  rw [if_pos h1, h]
def ExtAt (P : Program) (i : Nat) (x : Ext) : Prop := x = .noEscape → ∀ v w, (callFunc i #[v]).run P w = .ok (.value v) w

theorem EnvOk.of_trees {E : Env} {P : Program} (hf : AllT E.fn 1 0 (FnAt P)) (ht : AllT E.ty 1 0 (TyAt P)) (he : AllT E.ext 1 0 (ExtAt P)) (hm : P.follows .mixedOrders = true) : EnvOk E P where
  fn := fun f x h => (hf.root f x h).1
  ty := fun t i h => ht.root t i h
  ext := fun f h => he.root f _ h rfl
  mixed := hm
  enter := fun f fn h hb args w => (hf.root f fn h).2 hb args w

end Go.Proofs.YtnjobinioalipaaGreatDoor.Ev

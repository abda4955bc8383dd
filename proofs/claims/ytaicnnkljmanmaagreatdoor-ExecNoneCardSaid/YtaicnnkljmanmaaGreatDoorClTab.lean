/- A table of functions is all right, entry by entry. -/
import Derived.Test.YtaicnnkljmanmaaGreatDoorClMemo
namespace Go.Cl
open Go
def Tr.All {α : Type} (p : Nat → α → Prop) : Tr α → (Nat → Nat) → Prop
  | .leaf, _ => True
  | .node l v r, g => (∀ x, v = some x → p (g 0) x) ∧ Tr.All p l (fun k => g (2 * k + 1)) ∧ Tr.All p r (fun k => g (2 * k + 2))
theorem Tr.all_get {α : Type} {p : Nat → α → Prop} : ∀ (t : Tr α) (g : Nat → Nat), Tr.All p t g → ∀ k x, t.get k = some x → p (g k) x := by
  intro t
  induction t with
  | leaf => intro g _ k x h; cases h
  | node l v r ihl ihr =>
    intro g hA k x h
    obtain ⟨h1, h2, h3⟩ := hA
    simp only [Tr.get] at h
    by_cases hk : k = 0
    · subst hk
      simp only [Nat.beq_refl, cond_true] at h
      exact h1 x h
    · have hk0 : Nat.beq k 0 = false := by rw [← Bool.not_eq_true, Nat.beq_eq]; exact hk
      rw [hk0] at h
      simp only [cond_false] at h
      by_cases hp : k % 2 = 1
      · have hpb : Nat.beq (k % 2) 1 = true := by rw [Nat.beq_eq]; exact hp
        rw [hpb] at h
        simp only [cond_true] at h
        have := ihl _ h2 _ x h
        rwa [show 2 * (k / 2) + 1 = k from by omega] at this
      · have hpb : Nat.beq (k % 2) 1 = false := by rw [← Bool.not_eq_true, Nat.beq_eq]; exact hp
        rw [hpb] at h
        simp only [cond_false] at h
        have := ihr _ h3 _ x h
        rwa [show 2 * (k / 2 - 1) + 2 = k from by omega] at this
def FnOk (P : Program) (K : List TypeId) (f : Nat) (fn : CFun) : Prop := compF P K f = some fn ∧ plainFn P f = true
theorem someOk {P : Program} {K : List TypeId} {f : Nat} {c : CFun} (h : compF P K f = some c) (h' : plainFn P f = true) : ∀ x, some c = some x → FnOk P K f x := fun x hx => by
  injection hx with hx; subst hx; exact ⟨h, h'⟩
theorem tabOk_of {P : Program} {K : List TypeId} (t : Tr CFun) (h : Tr.All (FnOk P K) t (fun k => k)) : ∀ f fn, t.get f = some fn → compF P K f = some fn ∧ plainFn P f = true := fun f fn hf => Tr.all_get t _ h f fn hf
theorem eqGood_of {P : Program} {K : List TypeId} (h : (K.all fun t => !P.stoodInHeld t && !P.eqGuardType P.depth t) = true) : eqGood P K := by
  intro t ht
  have := List.all_eq_true.1 h t ht
  simpa using this
end Go.Cl

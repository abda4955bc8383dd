/- Two stores to different objects come to the same in either order. -/
import Derived.Test.YtaicnnkljmanmaaGreatDoorClHeap
namespace Go.Cl
open Go
theorem Tr.setF_leaf {α : Type} (f : Nat) (k : Nat) (x : α) : Tr.setF (f + 1) .leaf k x = Tr.setF (f + 1) (.node .leaf none .leaf) k x := rfl
theorem Tr.setF_0 {α : Type} (f : Nat) (l r : Tr α) (v : Option α) (x : α) : Tr.setF (f + 1) (.node l v r) 0 x = .node l (some x) r := rfl
theorem beq_ne0 {k : Nat} (h : k ≠ 0) : Nat.beq k 0 = false := by rw [← Bool.not_eq_true, Nat.beq_eq]; exact h
theorem Tr.setF_odd {α : Type} (f : Nat) (l r : Tr α) (v : Option α) (k : Nat) (x : α) (h0 : k ≠ 0) (h : k % 2 = 1) : Tr.setF (f + 1) (.node l v r) k x = .node (Tr.setF f l (k / 2) x) v r := by
  have h1 : Nat.beq (k % 2) 1 = true := by rw [Nat.beq_eq]; exact h
  simp only [Tr.setF, beq_ne0 h0, h1, cond_false, cond_true]
theorem Tr.setF_even {α : Type} (f : Nat) (l r : Tr α) (v : Option α) (k : Nat) (x : α) (h0 : k ≠ 0) (h : ¬ k % 2 = 1) : Tr.setF (f + 1) (.node l v r) k x = .node l v (Tr.setF f r (k / 2 - 1) x) := by
  have h1 : Nat.beq (k % 2) 1 = false := by rw [← Bool.not_eq_true, Nat.beq_eq]; exact h
  simp only [Tr.setF, beq_ne0 h0, h1, cond_false]
theorem Tr.setF_comm {α : Type} : ∀ (f g : Nat) (t : Tr α) (k j : Nat) (x y : α), k < f → j < g → k ≠ j → Tr.setF g (Tr.setF f t k x) j y = Tr.setF f (Tr.setF g t j y) k x := by
  intro f
  induction f with
  | zero => intro g t k j x y h; omega
  | succ f ih =>
    intro g t k j x y hk hj hne
    obtain ⟨g, rfl⟩ : ∃ g', g = g' + 1 := ⟨g - 1, by omega⟩
    have node : ∀ l v r, Tr.setF (g + 1) (Tr.setF (f + 1) (.node l v r) k x) j y = Tr.setF (f + 1) (Tr.setF (g + 1) (.node l v r) j y) k x := by
      intro l v r
      by_cases k0 : k = 0
      · subst k0
        rw [Tr.setF_0]
        by_cases jo : j % 2 = 1
        · rw [Tr.setF_odd _ _ _ _ _ _ (by omega) jo, Tr.setF_odd _ _ _ _ _ _ (by omega) jo, Tr.setF_0]
        · rw [Tr.setF_even _ _ _ _ _ _ (by omega) jo, Tr.setF_even _ _ _ _ _ _ (by omega) jo, Tr.setF_0]
      · by_cases ko : k % 2 = 1
        · rw [Tr.setF_odd _ _ _ _ _ _ k0 ko]
          by_cases j0 : j = 0
          · subst j0; rw [Tr.setF_0, Tr.setF_0, Tr.setF_odd _ _ _ _ _ _ k0 ko]
          · by_cases jo : j % 2 = 1
            · rw [Tr.setF_odd _ _ _ _ _ _ j0 jo, Tr.setF_odd _ _ _ _ _ _ j0 jo, Tr.setF_odd _ _ _ _ _ _ k0 ko, ih g l _ _ x y (by omega) (by omega) (by omega)]
            · rw [Tr.setF_even _ _ _ _ _ _ j0 jo, Tr.setF_even _ _ _ _ _ _ j0 jo, Tr.setF_odd _ _ _ _ _ _ k0 ko]
        · rw [Tr.setF_even _ _ _ _ _ _ k0 ko]
          by_cases j0 : j = 0
          · subst j0; rw [Tr.setF_0, Tr.setF_0, Tr.setF_even _ _ _ _ _ _ k0 ko]
          · by_cases jo : j % 2 = 1
            · rw [Tr.setF_odd _ _ _ _ _ _ j0 jo, Tr.setF_odd _ _ _ _ _ _ j0 jo, Tr.setF_even _ _ _ _ _ _ k0 ko]
            · rw [Tr.setF_even _ _ _ _ _ _ j0 jo, Tr.setF_even _ _ _ _ _ _ j0 jo, Tr.setF_even _ _ _ _ _ _ k0 ko, ih g r _ _ x y (by omega) (by omega) (by omega)]
    cases t with
    | node l v r => exact node l v r
    | leaf => rw [Tr.setF_leaf, Tr.setF_leaf g]; exact node _ _ _
theorem CH.put_comm (h : CH) {a b : Nat} (hne : a ≠ b) (x y : CObj) : (h.put a x).put b y = (h.put b y).put a x := by
  unfold CH.put Tr.set
  rw [Tr.setF_comm (a + 1) (b + 1) h.objs a b x y (by omega) (by omega) hne]
theorem st_comm {h h1 h2 : CH} {n m : Nat} {a b x y u v : Value} (hne : ptrNe a b = true) (e1 : eSt h n a x = some (.ret u, h1)) (e2 : eSt h1 m b y = some (.ret v, h2)) :
    ∃ h1', eSt h m b y = some (.ret v, h1') ∧ eSt h1' n a x = some (.ret u, h2) := by
  unfold ptrNe at hne
  split at hne
  · rename_i i o s j o' s'
    have hij : i ≠ j := by
      intro e; subst e
      simp [Nat.beq_refl] at hne
    -- what a store does
    have st : ∀ {h h1 : CH} {n i o s : Nat} {x u : Value}, eSt h n (.pointer (some ⟨i, o, some s⟩)) x = some (.ret u, h1) → ∃ ob', h1 = h.put i ob' ∧ ∀ h', h'.get i = h.get i → eSt h' n (.pointer (some ⟨i, o, some s⟩)) x = some (.ret u, h'.put i ob') := by
      intro h h1 n i o s x u e
      simp only [eSt, cwrite] at e ⊢
      cases hb : Nat.beq (cells x).length n with
      | false => rw [hb] at e; cases e
      | true =>
        rw [hb] at e
        simp only [cond_true] at e ⊢
        cases hg : h.get i with
        | none => rw [hg] at e; cases e
        | some ob =>
          rw [hg] at e
          cases ob with
          | cells c ep wep his ro =>
            cases ro with
            | true => cases e
            | false =>
              simp only at e
              cases hc : (Nat.beq s ep && ones (cells x)) with
              | false => rw [hc] at e; cases e
              | true =>
                rw [hc] at e
                simp only [cond_true] at e
                cases hp : putAt c o (cells x) with
                | none => rw [hp] at e; cases e
                | some c' =>
                  rw [hp] at e
                  simp only [Option.map_some, outH, Option.some.injEq, Prod.mk.injEq, Out.ret.injEq] at e
                  obtain ⟨rfl, rfl⟩ := e
                  refine ⟨_, rfl, fun h' hh => ?_⟩
                  rw [hh]
                  simp only [hc, cond_true, hp, Option.map_some, outH]
          | iter s p => cases e
          | map es cl => cases e
          | miter m s sn st => cases e
          | loop st p ct ps a b => cases e
    obtain ⟨oa, rfl, ha⟩ := st e1
    obtain ⟨ob, rfl, hb⟩ := st e2
    refine ⟨h.put j ob, hb h (by rw [CH.get_put, if_neg (fun e => hij e.symm)]), ?_⟩
    rw [ha (h.put j ob) (by rw [CH.get_put, if_neg hij]), CH.put_comm h hij]
  · cases hne
end Go.Cl

/- The pure operations, second part. -/
import Derived.Test.YtaicnnkljmanmaaGreatDoorClPure
namespace Go.Cl
open Go
variable {P : Program} {φ : Ren} {w : World}

/-! ### '==' -/
def eqGood (P : Program) (K : List TypeId) : Prop := ∀ t ∈ K, P.stoodInHeld t = false ∧ P.eqGuardType P.depth t = false
theorem cond_some {α : Type} {b : Bool} {x : Option α} {y : α} (h : (bif b then x else none) = some y) : b = true ∧ x = some y := by
  cases b <;> simp at h; exact ⟨rfl, h⟩
/-- What eqvs asks of a part. -/
def eqPart (e : EqT) (off n : Nat) (xs ys : List Value) : Option Bool :=
  match e with
  | .agg qs => eqvs qs (sub xs off n) (sub ys off n)
  | e => match xs[off]?, ys[off]? with | some x, some y => eqv e x y | _, _ => none
theorem eqvs_cons (off n : Nat) (e : EqT) (r : EqTs) (xs ys : List Value) :
    eqvs (.cons off n e r) xs ys = match eqPart e off n xs ys with
      | some true => eqvs r xs ys
      | o => o := by
  cases e <;> simp only [eqvs, eqPart] <;> rfl
/-- Two parts, held against each other by the machine. -/
def runPart (P : Program) (d : Nat) (t : TypeId) (off : Nat) (xs ys : List Value) : Sem Bool := do
  Op.equalIn d t (← part t ⟨xs⟩ off) (← part t ⟨ys⟩ off)
theorem beq_sbytes (a b : ByteArray) : (a == b) = (sbytes a == sbytes b) := by rw [beq_toListBytes, toList_data, toList_data]; rfl
def EqSound (P : Program) (K : List TypeId) (d : Nat) : Prop :=
  ∀ (t : TypeId) (e : EqT), eqT P K d t = some e → ∀ (φ : Ren) (x x' y y' : Value) (b : Bool) (w : World), VR φ x x' → VR φ y y' → eqv e x y = some b →
    ∀ n, d ≤ n → (Op.equalIn n t x' y').run P w = .ok b w
def isAggE : EqT → Bool
  | .agg _ => true
  | _ => false
theorem isAgg_of_eqT {K : List TypeId} {d : Nat} {t : TypeId} {e : EqT} (h : eqT P K d t = some e) : tagg P t = some (isAggE e) := by
  cases d with
  | zero => simp [eqT] at h
  | succ d =>
    simp only [eqT] at h
    unfold tagg
    split at h <;> (try (rename_i hu; rw [hu])) <;> (try simp only [Option.some.injEq, reduceCtorEq] at h)
    any_goals (subst h; rfl)
    · obtain ⟨_, h⟩ := cond_some h
      cases hf : eqFs P K d _ with
      | none => rw [hf] at h; simp at h
      | some q => rw [hf] at h; simp at h; subst h; rfl
    · obtain ⟨_, h⟩ := cond_some h
      split at h <;> simp at h
      subst h; rfl
theorem part_eq {K : List TypeId} {d : Nat} (ih : EqSound P K d) {t : TypeId} {e : EqT} {k : Nat} (ht : eqT P K d t = some e) (hk : tsize P t = some k)
    {off : Nat} {xs ys xs' ys' : List Value} {b : Bool} (hx : VRs φ xs xs') (hy : VRs φ ys ys') (h : eqPart e off k xs ys = some b) {n : Nat} (hn : d ≤ n) (w : World) :
    ∃ u v, (part t ⟨xs'⟩ off).run P w = .ok u w ∧ (part t ⟨ys'⟩ off).run P w = .ok v w ∧ (Op.equalIn n t u v).run P w = .ok b w := by
  have ha := isAgg_of_eqT ht
  have key : ∀ x y, eqv e x y = some b → pFld off (bif isAggE e then some k else none) (.agg ⟨xs⟩) = some x → pFld off (bif isAggE e then some k else none) (.agg ⟨ys⟩) = some y →
      ∃ u v, (part t ⟨xs'⟩ off).run P w = .ok u w ∧ (part t ⟨ys'⟩ off).run P w = .ok v w ∧ (Op.equalIn n t u v).run P w = .ok b w := by
    intro x y he h1 h2
    have hl : tload P t = some (bif isAggE e then some k else none) := by
      unfold tload; rw [ha]; cases isAggE e <;> simp [hk]
    obtain ⟨u, hu, ru⟩ := part_sound (P := P) (w := w) hl hx h1
    obtain ⟨v, hv, rv⟩ := part_sound (P := P) (w := w) hl hy h2
    exact ⟨u, v, hu, hv, ih t e ht φ x u y v b w ru rv he n hn⟩
  cases e with
  | agg qs => exact key (.agg ⟨sub xs off k⟩) (.agg ⟨sub ys off k⟩) (by simpa [eqv, eqPart] using h) rfl rfl
  | b =>
    simp only [eqPart] at h
    split at h
    · rename_i x y hx1 hy1
      exact key x y h (by simp [pFld, isAggE, hx1]) (by simp [pFld, isAggE, hy1])
    · simp at h
  | i =>
    simp only [eqPart] at h
    split at h
    · rename_i x y hx1 hy1
      exact key x y h (by simp [pFld, isAggE, hx1]) (by simp [pFld, isAggE, hy1])
    · simp at h
  | s =>
    simp only [eqPart] at h
    split at h
    · rename_i x y hx1 hy1
      exact key x y h (by simp [pFld, isAggE, hx1]) (by simp [pFld, isAggE, hy1])
    · simp at h
  | np =>
    simp only [eqPart] at h
    split at h
    · rename_i x y hx1 hy1
      exact key x y h (by simp [pFld, isAggE, hx1]) (by simp [pFld, isAggE, hy1])
    · simp at h
  | ns =>
    simp only [eqPart] at h
    split at h
    · rename_i x y hx1 hy1
      exact key x y h (by simp [pFld, isAggE, hx1]) (by simp [pFld, isAggE, hy1])
    · simp at h
  | nm =>
    simp only [eqPart] at h
    split at h
    · rename_i x y hx1 hy1
      exact key x y h (by simp [pFld, isAggE, hx1]) (by simp [pFld, isAggE, hy1])
    · simp at h
  | nf =>
    simp only [eqPart] at h
    split at h
    · rename_i x y hx1 hy1
      exact key x y h (by simp [pFld, isAggE, hx1]) (by simp [pFld, isAggE, hy1])
    · simp at h
theorem eqFs_sound {K : List TypeId} : ∀ (d : Nat) (fs : List Field) (q : EqTs), eqFs P K d fs = some q → (∀ d', d' < d → EqSound P K d') →
    ∀ (xs ys xs' ys' : List Value) (b : Bool) (w : World), VRs φ xs xs' → VRs φ ys ys' → eqvs q xs ys = some b → ∀ n, d ≤ n → (Op.eqFields n ⟨xs'⟩ ⟨ys'⟩ fs).run P w = .ok b w := by
  intro d
  induction d with
  | zero => intro fs q h; simp [eqFs] at h
  | succ d ihd =>
    intro fs q h ih xs ys xs' ys' b w hx hy hb n hn
    cases fs with
    | nil => simp [eqFs] at h; subst h; simp [eqvs] at hb; subst hb; simp [Op.eqFields]
    | cons f r =>
      simp only [eqFs] at h
      cases hr : eqFs P K d r with
      | none => rw [hr] at h; simp at h
      | some q' =>
        rw [hr] at h
        simp only at h
        have ih' := ihd r q' hr (fun d' hd' => ih d' (by omega))
        split at h
        · rename_i hname
          simp at h; subst h
          have : f.name = "_" := by simpa using hname
          simp only [Op.eqFields, this, ne_eq, not_true_eq_false, if_false]
          exact ih' xs ys xs' ys' b w hx hy hb n (by omega)
        · rename_i hname
          have hne : f.name ≠ "_" := by simpa using hname
          split at h <;> simp at h
          rename_i e k he hk
          subst h
          rw [eqvs_cons] at hb
          simp only [Op.eqFields, ne_eq, hne, not_false_eq_true, if_true, Sem.run_bind]
          have hcase : ∃ c, eqPart e f.offset k xs ys = some c ∧ (c = true → eqvs q' xs ys = some b) ∧ (c = false → b = false) := by
            cases hp : eqPart e f.offset k xs ys with
            | none => rw [hp] at hb; simp at hb
            | some c =>
              rw [hp] at hb
              cases c with
              | true => exact ⟨true, rfl, fun _ => hb, (fun h => by cases h)⟩
              | false => simp at hb; exact ⟨false, rfl, (fun h => by cases h), fun _ => hb⟩
          obtain ⟨c, hp, h1, h2⟩ := hcase
          obtain ⟨u, v, hu, hv, huv⟩ := part_eq (ih d (by omega)) he hk hx hy hp (n := n) (by omega) w
          rw [hu]; simp only [Result.andThen_ok]
          rw [hv]; simp only [Result.andThen_ok]
          rw [huv]; simp only [Result.andThen_ok]
          cases c with
          | true => simp only [Bool.not_true, Bool.false_eq_true, if_false]; exact ih' xs ys xs' ys' b w hx hy (h1 rfl) n (by omega)
          | false => simp [h2 rfl]
theorem eqArr_sound {K : List TypeId} {d : Nat} (ih : EqSound P K d) {t : TypeId} {e : EqT} {k : Nat} (ht : eqT P K d t = some e) (hk : tsize P t = some k)
    {xs ys xs' ys' : List Value} (hx : VRs φ xs xs') (hy : VRs φ ys ys') {n : Nat} (hn : d ≤ n) :
    ∀ (c j : Nat) (b : Bool) (w : World), eqvs (eqArr e k c (j * k)) xs ys = some b →
      (forIn (List.range' j c) ((none, ()) : Option Bool × Unit) (fun i r => do
          if !(← Op.equalIn n t (← part t ⟨xs'⟩ (i * k)) (← part t ⟨ys'⟩ (i * k))) then pure (.done (some false, ())) else pure (.yield (none, ())))).run P w
        = .ok (if b then (none, ()) else (some false, ())) w := by
  intro c
  induction c with
  | zero => intro j b w h; simp [eqArr, eqvs] at h; subst h; simp
  | succ c ihc =>
    intro j b w h
    rw [eqArr, eqvs_cons] at h
    rw [List.range'_succ]
    simp only [List.forIn_cons, Sem.run_bind]
    have hcase : ∃ q, eqPart e (j * k) k xs ys = some q ∧ (q = true → eqvs (eqArr e k c (j * k + k)) xs ys = some b) ∧ (q = false → b = false) := by
      cases hp : eqPart e (j * k) k xs ys with
      | none => rw [hp] at h; simp at h
      | some q =>
        rw [hp] at h
        cases q with
        | true => exact ⟨true, rfl, fun _ => h, (fun h => by cases h)⟩
        | false => simp at h; exact ⟨false, rfl, (fun h => by cases h), fun _ => h⟩
    obtain ⟨q, hp, h1, h2⟩ := hcase
    obtain ⟨u, v, hu, hv, huv⟩ := part_eq ih ht hk hx hy hp hn w
    rw [hu]; simp only [Result.andThen_ok]
    rw [hv]; simp only [Result.andThen_ok]
    rw [huv]; simp only [Result.andThen_ok]
    cases q with
    | true =>
      have e1 : j * k + k = (j + 1) * k := by rw [Nat.add_mul, Nat.one_mul]
      rw [e1] at h1
      simp only [Bool.not_true, Bool.false_eq_true, if_false, Sem.run_pure, Result.andThen_ok]
      exact ihc (j + 1) b w (h1 rfl)
    | false => simp [h2 rfl]
theorem eqv_inv {e : EqT} {x y : Value} {r : Bool} (h : eqv e x y = some r) :
    (e = .b ∧ ∃ p q, x = .bool p ∧ y = .bool q ∧ r = (p == q)) ∨ (e = .i ∧ ∃ k p q, x = .int k p ∧ y = .int k q ∧ r = (p == q)) ∨
    (e = .s ∧ ∃ p q, x = .string p ∧ y = .string q ∧ r = (p == q)) ∨
    (e = .np ∧ ((x = .pointer none ∧ ∃ b, y = .pointer b ∧ r = b.isNone) ∨ ∃ a, x = .pointer (some a) ∧ y = .pointer none ∧ r = false)) ∨
    (e = .ns ∧ ((∃ n c, x = .slice none n c ∧ ∃ b m d, y = .slice b m d ∧ r = b.isNone) ∨ ∃ a n c m d, x = .slice (some a) n c ∧ y = .slice none m d ∧ r = false)) ∨
    (e = .nm ∧ ((x = .map none ∧ ∃ b, y = .map b ∧ r = b.isNone) ∨ ∃ a, x = .map (some a) ∧ y = .map none ∧ r = false)) ∨
    (e = .nf ∧ ((x = .nilFunc ∧ y = .nilFunc ∧ r = true) ∨ (x = .nilFunc ∧ (∃ f a b, y = .func f a b) ∧ r = false) ∨ ((∃ f a b, x = .func f a b) ∧ y = .nilFunc ∧ r = false))) ∨
    (∃ ps xs ys, e = .agg ps ∧ x = .agg xs ∧ y = .agg ys ∧ eqvs ps xs.toList ys.toList = some r) := by
  unfold eqv at h
  split at h
  · rename_i p q
    refine .inl ⟨rfl, p, q, rfl, rfl, ?_⟩
    cases p <;> cases q <;> simp at h <;> subst h <;> rfl
  · rename_i k p k' q
    obtain ⟨hk, h⟩ := cond_some h
    have := keq_eq k k' hk
    subst this
    simp at h
    exact .inr (.inl ⟨rfl, k, p, q, rfl, rfl, by rw [← h, ieq_eq]⟩)
  · rename_i p q
    simp at h
    exact .inr (.inr (.inl ⟨rfl, p, q, rfl, rfl, by rw [← h, lsEq_eq, beq_sbytes]⟩))
  · simp at h; exact .inr (.inr (.inr (.inl ⟨rfl, .inl ⟨rfl, _, rfl, h.symm⟩⟩)))
  · simp at h; exact .inr (.inr (.inr (.inl ⟨rfl, .inr ⟨_, rfl, rfl, h⟩⟩)))
  · simp at h; exact .inr (.inr (.inr (.inr (.inl ⟨rfl, .inl ⟨_, _, rfl, _, _, _, rfl, h.symm⟩⟩))))
  · simp at h; exact .inr (.inr (.inr (.inr (.inl ⟨rfl, .inr ⟨_, _, _, _, _, rfl, rfl, h⟩⟩))))
  · simp at h; exact .inr (.inr (.inr (.inr (.inr (.inl ⟨rfl, .inl ⟨rfl, _, rfl, h.symm⟩⟩)))))
  · simp at h; exact .inr (.inr (.inr (.inr (.inr (.inl ⟨rfl, .inr ⟨_, rfl, rfl, h⟩⟩)))))
  · simp at h; exact .inr (.inr (.inr (.inr (.inr (.inr (.inl ⟨rfl, .inl ⟨rfl, rfl, h⟩⟩))))))
  · simp at h; exact .inr (.inr (.inr (.inr (.inr (.inr (.inl ⟨rfl, .inr (.inl ⟨rfl, ⟨_, _, _, rfl⟩, h⟩)⟩))))))
  · simp at h; exact .inr (.inr (.inr (.inr (.inr (.inr (.inl ⟨rfl, .inr (.inr ⟨⟨_, _, _, rfl⟩, rfl, h⟩)⟩))))))
  · exact .inr (.inr (.inr (.inr (.inr (.inr (.inr ⟨_, _, _, rfl, rfl, rfl, h⟩))))))
  · simp at h
theorem eqSound {K : List TypeId} (hK : eqGood P K) : ∀ d, EqSound P K d := by
  intro d
  induction d using Nat.strongRecOn with
  | _ d ih =>
    intro t e h φ x x' y y' b w hx hy hb n hn
    cases d with
    | zero => simp [eqT] at h
    | succ d =>
      obtain ⟨n, rfl⟩ : ∃ m, n = m + 1 := ⟨n - 1, by omega⟩
      have hi := eqv_inv hb
      simp only [eqT] at h
      split at h
      · rename_i hu
        simp only [Option.some.injEq] at h
        subst h
        simp only [reduceCtorEq, false_and, true_and, false_or, or_false, exists_false] at hi
        obtain ⟨p, q, rfl, rfl, rfl⟩ := hi
        cases hx; cases hy
        simp [Op.equalIn, run_underlying hu]
      · rename_i hu
        simp only [Option.some.injEq] at h
        subst h
        simp only [reduceCtorEq, false_and, true_and, false_or, or_false, exists_false] at hi
        obtain ⟨k, p, q, rfl, rfl, rfl⟩ := hi
        cases hx; cases hy
        simp [Op.equalIn, run_underlying hu]
      · rename_i hu
        simp only [Option.some.injEq] at h
        subst h
        simp only [reduceCtorEq, false_and, true_and, false_or, or_false, exists_false] at hi
        obtain ⟨p, q, rfl, rfl, rfl⟩ := hi
        cases hx; cases hy
        simp [Op.equalIn, run_underlying hu]
      · rename_i hu
        simp only [Option.some.injEq] at h
        subst h
        simp only [reduceCtorEq, false_and, true_and, false_or, or_false, exists_false] at hi
        rcases hi with ⟨rfl, q, rfl, rfl⟩ | ⟨a, rfl, rfl, rfl⟩
        · cases hx
          cases hy <;> simp [Op.equalIn, run_underlying hu]
        · cases hx; cases hy
          simp [Op.equalIn, run_underlying hu]
      · rename_i hu
        simp only [Option.some.injEq] at h
        subst h
        simp only [reduceCtorEq, false_and, true_and, false_or, or_false, exists_false] at hi
        rcases hi with ⟨n1, c1, rfl, q, m1, d1, rfl, rfl⟩ | ⟨a, n1, c1, m1, d1, rfl, rfl, rfl⟩
        · cases hx
          cases hy <;> simp [Op.equalIn, run_underlying hu]
        · cases hx; cases hy
          simp [Op.equalIn, run_underlying hu]
      · rename_i hu
        simp only [Option.some.injEq] at h
        subst h
        simp only [reduceCtorEq, false_and, true_and, false_or, or_false, exists_false] at hi
        rcases hi with ⟨rfl, q, rfl, rfl⟩ | ⟨a, rfl, rfl, rfl⟩
        · cases hx
          cases hy <;> simp [Op.equalIn, run_underlying hu]
        · cases hx
          cases hy
          simp [Op.equalIn, run_underlying hu]
      · rename_i hu
        simp only [Option.some.injEq] at h
        subst h
        simp only [reduceCtorEq, false_and, true_and, false_or, or_false, exists_false] at hi
        rcases hi with ⟨rfl, rfl, rfl⟩ | ⟨rfl, ⟨f, a, c, rfl⟩, rfl⟩ | ⟨⟨f, a, c, rfl⟩, rfl, rfl⟩
        · cases hx; cases hy; simp [Op.equalIn, run_underlying hu]
        · cases hx; cases hy <;> simp [Op.equalIn, run_underlying hu]
        · cases hx <;> cases hy <;> simp [Op.equalIn, run_underlying hu]
      · rename_i fs hu
        obtain ⟨hc, h⟩ := cond_some h
        cases hf : eqFs P K d fs.toList with
        | none => rw [hf] at h; simp at h
        | some q =>
          rw [hf] at h; simp at h; subst h
          simp only [reduceCtorEq, false_and, false_or] at hi
          obtain ⟨ps, xs, ys, he, rfl, rfl, hb'⟩ := hi
          injection he with he
          subst he
          cases hx; cases hy
          rename_i xs xs' hx ys ys' hy
          have hmem : t ∈ K := by simpa using hc
          have hu' : P.underlying t = some (.struct (P.fieldsOf t)) := by simp [Program.fieldsOf, hu]
          have hfo : P.fieldsOf t = fs := by simp [Program.fieldsOf, hu]
          rw [run_equalIn_struct w n t _ _ hu' (hK t hmem).1, hfo]
          exact eqFs_sound d fs.toList q hf (fun d' hd' => ih d' (by omega)) xs ys xs' ys' b w hx hy hb' n (by omega)
      · rename_i len el hu
        obtain ⟨_, h⟩ := cond_some h
        split at h <;> simp at h
        rename_i q k hq hk
        subst h
        simp only [reduceCtorEq, false_and, false_or, EqT.agg.injEq] at hi
        obtain ⟨ps, xs, ys, rfl, rfl, rfl, hb'⟩ := hi
        cases hx; cases hy
        rename_i xs xs' hx ys ys' hy
        have := eqArr_sound (ih d (by omega)) hq hk hx hy (n := n) (by omega) len 0 b w (by simpa using hb')
        simp only [Op.equalIn, Sem.run_bind, run_underlying hu, Result.andThen_ok, run_sizeOf' hk, Std.Legacy.Range.forIn_eq_forIn_range', Std.Legacy.Range.size]
        have e1 : (len - 0 + 1 - 1) / 1 = len := by simp
        rw [e1, this]
        cases b <;> simp
      · simp at h
end Go.Cl

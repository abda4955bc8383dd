/- The pure operations. -/
import Derived.Test.YtaicnnkljmanmaaGreatDoorClRel
namespace Go.Cl
open Go
variable {P : Program} {φ : Ren} {w : World}

theorem gd_some {α : Type} {b : Bool} {x y : α} (h : gd b x = some y) : b = true ∧ x = y := by
  cases b <;> simp [gd] at h; exact ⟨rfl, h⟩
theorem run_sizeOf' {t : TypeId} {n : Nat} (h : tsize P t = some n) (w : World) : (sizeOf t).run P w = .ok n w := by
  unfold tsize at h
  cases hi : P.info? t with
  | none => rw [hi] at h; simp at h
  | some i => rw [hi] at h; simp at h; simp [sizeOf, typeInfo, hi, h]
theorem run_isAgg' {t : TypeId} {b : Bool} (h : tagg P t = some b) (w : World) : (isAgg t).run P w = .ok b w := by
  unfold tagg at h
  cases hu : P.underlying t with
  | none => rw [hu] at h; simp at h
  | some d => rw [hu] at h; cases d <;> simp at h <;> subst h <;> simp [isAgg, run_underlying hu]
theorem tload_some {t : TypeId} {n : Option Nat} (h : tload P t = some n) :
    (n = none ∧ tagg P t = some false) ∨ ∃ k, n = some k ∧ tagg P t = some true ∧ tsize P t = some k := by
  unfold tload at h
  split at h
  · rename_i hb
    cases hs : tsize P t with
    | none => rw [hs] at h; simp at h
    | some k => rw [hs] at h; simp at h; exact .inr ⟨k, h.symm, hb, rfl⟩
  · rename_i hb; simp at h; exact .inl ⟨h.symm, hb⟩
  · simp at h

theorem pPick_sound {c a b c' a' b' v : Value} (hc : VR φ c c') (ha : VR φ a a') (hb : VR φ b b') (h : pPick c a b = some v) :
    ∃ v', (asBool c' >>= fun x => (pure (if x then a' else b') : Sem Value)).run P w = .ok v' w ∧ VR φ v v' := by
  cases hc <;> simp [pPick] at h
  rename_i q
  cases q <;> simp at h <;> subst h
  · exact ⟨b', by simp [asBool], hb⟩
  · exact ⟨a', by simp [asBool], ha⟩
theorem cbin_sound {op : BinOp} {k : IntKind} {a b : Int} {v : Value} (h : cbin op k a b = some v) (ht : TypeId) :
    (binOp op ht (.int k a) (.int k b)).run P w = .ok v w := by
  cases op <;> simp only [cbin, Option.some.injEq, reduceCtorEq] at h
  case add => subst h; simp [binOp, Op.intArith, cwrap_eq]
  case sub => subst h; simp [binOp, Op.intArith, cwrap_eq]
  case mul => subst h; simp [binOp, Op.intArith, cwrap_eq]
  case quo =>
    cases h0 : ieq b 0 <;> rw [h0] at h <;> simp at h
    subst h
    rw [ieq_eq] at h0
    have : b ≠ 0 := by simpa using h0
    simp [binOp, Op.intDiv, cwrap_eq, this]
  case rem =>
    cases h0 : ieq b 0 <;> rw [h0] at h <;> simp at h
    subst h
    rw [ieq_eq] at h0
    have : b ≠ 0 := by simpa using h0
    simp [binOp, Op.intDiv, this]
  case and => 
    cases hb : cbits .and k a b with
    | none => rw [hb] at h; simp at h
    | some r => rw [hb] at h; simp at h; subst h; simp only [binOp, ne_eq, not_true_eq_false, if_false]; exact cbits_eq _ _ _ _ _ hb
  case or => 
    cases hb : cbits .or k a b with
    | none => rw [hb] at h; simp at h
    | some r => rw [hb] at h; simp at h; subst h; simp only [binOp, ne_eq, not_true_eq_false, if_false]; exact cbits_eq _ _ _ _ _ hb
  case xor => 
    cases hb : cbits .xor k a b with
    | none => rw [hb] at h; simp at h
    | some r => rw [hb] at h; simp at h; subst h; simp only [binOp, ne_eq, not_true_eq_false, if_false]; exact cbits_eq _ _ _ _ _ hb
  case andNot => 
    cases hb : cbits .andNot k a b with
    | none => rw [hb] at h; simp at h
    | some r => rw [hb] at h; simp at h; subst h; simp only [binOp, ne_eq, not_true_eq_false, if_false]; exact cbits_eq _ _ _ _ _ hb
  all_goals
    subst h
    simp only [binOp, ne_eq, not_true_eq_false, if_false, Op.intCmp, Sem.run_pure, ile_eq, ieq_eq]
    try rfl
    try (congr 2; rw [Bool.eq_iff_iff]; simp <;> omega)
theorem cshift_sound {op : BinOp} {k k' : IntKind} {a b : Int} {v : Value} (h : cshift op k a b = some v) (ho : isShift op = true) (ht : TypeId) :
    (binOp op ht (.int k a) (.int k' b)).run P w = .ok v w := by
  cases b with
  | negSucc n => simp [cshift] at h
  | ofNat n =>
    have hm : (bif Nat.ble n k.bits then n else k.bits) = min n k.bits := by
      cases hb : Nat.ble n k.bits with
      | true => rw [Nat.ble_eq] at hb; simp; omega
      | false =>
        have : ¬ n ≤ k.bits := by intro hh; rw [← Nat.ble_eq] at hh; rw [hh] at hb; cases hb
        simp; omega
    cases op <;> simp [isShift] at ho <;> simp only [cshift, Option.some.injEq] at h <;> subst h <;>
      simp only [binOp, Op.shift, hm, cwrap_eq, cshr_eq]
    · rw [if_neg (by simp)]; simp
    · rw [if_neg (by simp)]; simp
theorem pBin_sound {op : BinOp} {x y x' y' v : Value} (hx : VR φ x x') (hy : VR φ y y') (h : pBin op x y = some v) (t : TypeId) (ox oy : Operand) :
    ∃ v', (eqGuard op t ox oy x' y' >>= fun _ => binOp op t x' y').run P w = .ok v' w ∧ VR φ v v' := by
  cases hx <;> (try (cases hy <;> simp [pBin] at h; done))
  · cases hy <;> simp only [pBin, reduceCtorEq] at h
    rename_i k a k' b
    have hg : (eqGuard op t ox oy (.int k a) (.int k' b)).run P w = .ok () w := by cases op <;> simp [eqGuard]
    simp only [Sem.run_bind, hg, Result.andThen_ok]
    cases hs : isShift op with
    | true =>
      rw [hs] at h
      simp only [cond_true] at h
      refine ⟨v, cshift_sound h hs t, ?_⟩
      cases b <;> cases op <;> simp [cshift] at h <;> subst h <;> exact .int _ _
    | false =>
      rw [hs] at h
      simp only [cond_false] at h
      cases hk : keq k k' with
      | false => rw [hk] at h; simp at h
      | true =>
        rw [hk] at h
        simp only [cond_true] at h
        have := keq_eq _ _ hk
        subst this
        refine ⟨v, cbin_sound h t, ?_⟩
        have : (∃ n, v = .int k n) ∨ ∃ q, v = .bool q := by
          cases op <;> simp only [cbin, Option.some.injEq, reduceCtorEq, Option.map_eq_some_iff] at h
          case quo => cases h0 : ieq b 0 <;> rw [h0] at h <;> simp at h; exact .inl ⟨_, h.symm⟩
          case rem => cases h0 : ieq b 0 <;> rw [h0] at h <;> simp at h; exact .inl ⟨_, h.symm⟩
          all_goals first | exact .inl ⟨_, h.symm⟩ | exact .inr ⟨_, h.symm⟩ | (obtain ⟨r, _, hr⟩ := h; exact .inl ⟨r, hr.symm⟩)
        rcases this with ⟨n, rfl⟩ | ⟨q, rfl⟩
        · exact .int _ _
        · exact .bool _
  · cases hy <;> simp only [pBin, reduceCtorEq] at h
    rename_i a b
    have hg : (eqGuard op t ox oy (.string a) (.string b)).run P w = .ok () w := by cases op <;> simp [eqGuard]
    simp only [Sem.run_bind, hg, Result.andThen_ok]
    have hb : (binOp op t (.string a) (.string b)) = Op.stringOp op a b := by cases op <;> rfl
    rw [hb]
    refine ⟨v, cstr_eq op a b v h, ?_⟩
    cases op <;> simp only [cstr, Option.some.injEq, reduceCtorEq] at h
    case add =>
      cases hq : Nat.ble ((sbytes a).length + (sbytes b).length) maxI <;> rw [hq] at h <;> simp at h
      subst h; exact .string _
    all_goals (subst h; exact .bool _)
theorem pUn_sound {op : UnOp} {x x' v : Value} (hx : VR φ x x') (h : pUn op x = some v) :
    ∃ v', (Op.unary op x').run P w = .ok v' w ∧ VR φ v v' := by
  cases hx <;> cases op <;> simp only [pUn, reduceCtorEq, Option.some.injEq] at h
  · subst h; exact ⟨_, by simp [Op.unary], .bool _⟩
  · subst h; exact ⟨_, by simp only [Op.unary, Op.intArith, Sem.run_pure, cwrap_eq]; rfl, .int _ _⟩
  · rename_i k n
    cases hb : cbits .xor k (bif k.signed then .negSucc 0 else kmax k) n with
    | none => rw [hb] at h; simp at h
    | some r =>
      rw [hb] at h
      simp at h
      subst h
      refine ⟨.int k r, ?_, .int _ _⟩
      have he : (bif k.signed then Int.negSucc 0 else kmax k) = if k.signed then -1 else k.max := by rw [kmax_eq]; cases k.signed <;> rfl
      rw [he] at hb
      simp only [Op.unary]
      exact cbits_eq _ _ _ _ _ hb
theorem pCint_sound {k : IntKind} {x x' v : Value} {s d : TypeId} (hs : (P.underlying s).isSome) (hd : P.underlying d = some (.int k)) (hx : VR φ x x') (h : pCint k x = some v) :
    ∃ v', (convert s d x').run P w = .ok v' w ∧ VR φ v v' := by
  cases hx <;> simp only [pCint, reduceCtorEq, Option.some.injEq] at h
  subst h
  obtain ⟨e, he⟩ := Option.isSome_iff_exists.1 hs
  exact ⟨_, by simp [convert, run_underlying he, run_underlying hd, Conv.intToInt, cwrap_eq], .int _ _⟩
theorem pCid_sound {x x' v : Value} {s d : TypeId} (hs : P.underlying s = some .string) (hd : P.underlying d = some .string) (hx : VR φ x x') (h : pCid x = some v) :
    ∃ v', (convert s d x').run P w = .ok v' w ∧ VR φ v v' := by
  cases hx <;> simp only [pCid, reduceCtorEq, Option.some.injEq] at h
  subst h
  exact ⟨_, by simp [convert, run_underlying hs, run_underlying hd], .string _⟩
theorem VRs.sub {xs ys : List Value} (off n : Nat) (h : VRs φ xs ys) : VRs φ (Cl.sub xs off n) (Cl.sub ys off n) := (h.drop off).take n
theorem extract_sub (cs : List Value) (off n : Nat) : (⟨cs⟩ : Array Value).extract off (off + n) = ⟨Cl.sub cs off n⟩ := by
  apply Array.toList_inj.1
  simp [Cl.sub, Array.toList_extract, List.extract]
theorem part_sound {xs ys : List Value} {t : TypeId} {off : Nat} {n : Option Nat} {v : Value} (ht : tload P t = some n) (hx : VRs φ xs ys)
    (h : pFld off n (.agg ⟨xs⟩) = some v) : ∃ v', (part t ⟨ys⟩ off).run P w = .ok v' w ∧ VR φ v v' := by
  rcases tload_some ht with ⟨rfl, ha⟩ | ⟨k, rfl, ha, hk⟩
  · simp only [pFld] at h
    obtain ⟨v', hv', hr⟩ := hx.get? h
    refine ⟨v', ?_, hr⟩
    have hq : (⟨ys⟩ : Array Value)[off]? = some v' := by simpa using hv'
    simp [part, run_isAgg' ha, hq]
  · simp only [pFld, Option.some.injEq] at h
    subst h
    refine ⟨_, ?_, .agg (hx.sub off k)⟩
    simp only [part, Sem.run_bind, run_isAgg' ha, Result.andThen_ok, if_true, run_sizeOf' hk, Sem.run_pure, extract_sub]
theorem cidx_sound {i i' : Value} {len j : Nat} (hi : VR φ i i') (h : cidx i len = some j) : ∃ k, i' = .int k (j : Int) ∧ j < len := by
  cases hi <;> simp only [cidx, reduceCtorEq] at h
  rename_i k n
  cases n <;> simp only [reduceCtorEq] at h
  rename_i n
  cases hb : Nat.blt n len <;> rw [hb] at h <;> simp at h
  subst h
  rw [Nat.blt_eq] at hb
  exact ⟨k, rfl, hb⟩
/-- Related bounds. -/
def OV (φ : Ren) : Option Value → Option Value → Prop
  | none, none => True
  | some v, some v' => VR φ v v'
  | _, _ => False
theorem cbound_sound {i : Option Value} {i' : Option Value} {top d j : Nat} (hi : OV φ i i') (h : cbound i top d = some j) :
    (i = none ∧ i' = none ∧ j = d) ∨ ∃ k, (∃ v, i = some v) ∧ i' = some (.int k (j : Int)) ∧ j ≤ top := by
  cases i with
  | none =>
    cases i' with
    | none => simp [cbound] at h; exact .inl ⟨rfl, rfl, h.symm⟩
    | some _ => exact hi.elim
  | some v =>
    cases i' with
    | none => exact hi.elim
    | some v' =>
      replace hi : VR φ v v' := hi
      cases hi <;> simp only [cbound, reduceCtorEq] at h
      rename_i k n
      cases n <;> simp only [reduceCtorEq] at h
      rename_i n
      cases hb : Nat.ble n top <;> rw [hb] at h <;> simp at h
      subst h
      rw [Nat.ble_eq] at hb
      exact .inr ⟨k, ⟨_, rfl⟩, rfl, hb⟩
theorem run_sliceBound {k : IntKind} {j top : Nat} (h : j ≤ top) (code : BoundsCode) : (Instr.sliceBound (.int k (j : Int)) top code).run P w = .ok j w := by
  have : (0 : Int) ≤ j ∧ (j : Int) ≤ (top : Int) := by omega
  simp [Instr.sliceBound, asIntOf, this]
theorem AR.amv {A a : Addr} (h : AR φ A a) (n : Nat) : AR φ ⟨A.block, A.off + n, A.spot⟩ (a.add n) := by
  cases h with
  | st h hl =>
    rename_i id off t b o lo hi
    have : (⟨b, o + (off - lo), none⟩ : Addr).add n = ⟨b, o + (off + n - lo), none⟩ := by
      unfold Addr.add
      split
      · subst_vars; rfl
      · simp; omega
    rw [this]
    exact .st h (Nat.le_trans hl (Nat.le_add_right _ _))
  | glob g off =>
    have : (⟨g, off, none⟩ : Addr).add n = ⟨g, off + n, none⟩ := by
      unfold Addr.add; split
      · subst_vars; rfl
      · rfl
    rw [this]
    exact .glob g _
end Go.Cl

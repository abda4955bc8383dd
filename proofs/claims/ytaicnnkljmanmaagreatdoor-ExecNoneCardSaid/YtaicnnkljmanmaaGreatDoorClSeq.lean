/- A region in its own order. -/
import Derived.Test.YtaicnnkljmanmaaGreatDoorClOp
namespace Go.Cl
open Go
variable {P : Program} {E : Env} {φ φ' : Ren} {H H' : CH} {w w' : World} {ro : Option Nat}

/-- What a piece of code comes to. -/
def SpecQ (E : Env) (φ : Ren) (H : CH) (w : World) (d : List Deferred) (x : CExit) (ct' : List Value) (H' : CH) : Exit → Act → World → Prop
  | .outgrown, _, _ => False
  | e, a', w' => a'.defers = d ∧ ∃ φ', WR E φ' H' w' ∧ Ext φ H w φ' H' w' ∧ (match x, e with
    | .normal, .normal => RelT φ' ct' a'.tmps
    | .exit i, .exit j => i = j ∧ RelT φ' ct' a'.tmps
    | .ret, .ret => RelT φ' ct' a'.tmps
    | .pan v, .panic ch => ∃ v', ch = [{ v := v', recovered := false }] ∧ VR φ' v v' ∧ RelT φ' ct' a'.tmps
    | _, _ => False)
theorem SpecQ.trans {φ1 : Ren} {H1 : CH} {w1 : World} (hw : WR E φ H w) (hE : Ext φ H w φ1 H1 w1) {d : List Deferred} {x : CExit} {ct' : List Value} (e : Exit) (a' : Act) (w' : World) (h : SpecQ E φ1 H1 w1 d x ct' H' e a' w') : SpecQ E φ H w d x ct' H' e a' w' := by
  cases e with
  | outgrown => exact False.elim h
  | _ =>
    obtain ⟨h1, φ', h2, h3, h4⟩ := h
    exact ⟨h1, φ', h2, hE.trans hw h3, h4⟩
theorem put_defers (a : Act) (dst : Option Tmp) (v : Value) : (a.put dst v).defers = a.defers := by cases dst <;> rfl
/-- The guard's truth. -/
theorem wanted_eq {φ : Ren} {ct : List Value} {a : Act} {ops : Array Oper} (h : RelT φ ct a.tmps) {K : List TypeId} {o : Oper} {c : COper} (hc : compOper P K ops o = some c) :
    Region.wanted o (yielded ops a.tmps) = Cl.wanted c.guard ct ∧ (c.op = .bad ∨ compOp P K o = some c.op) ∧ c.dst = o.dst := by
  have hop : ∀ q, q = (compOp P K o).getD .bad → (q = .bad ∨ compOp P K o = some q) := by
    intro q hq
    cases hcq : compOp P K o with
    | none => left; rw [hq, hcq]; rfl
    | some q' => right; rw [hq, hcq]; rfl
  unfold compOper at hc
  cases hg : o.guard with
  | none =>
    rw [hg] at hc
    simp only [Option.some.injEq] at hc
    subst hc
    exact ⟨h.wanted (g := none) (by rw [hg]), hop _ rfl, rfl⟩
  | some jb =>
    obtain ⟨j, b⟩ := jb
    rw [hg] at hc
    simp only at hc
    cases hd : (ops[j]?).bind (·.dst) with
    | none => rw [hd] at hc; simp at hc
    | some d =>
      rw [hd] at hc
      simp only [Option.some.injEq] at hc
      subst hc
      exact ⟨h.wanted (g := some (d, b)) (by rw [hg]; exact ⟨d, hd, rfl⟩), hop _ rfl, rfl⟩
theorem letsOut_mono {Q Q' : Exit → Act → World → Prop} (h : ∀ e a w, Q e a w → Q' e a w) (hl : LetsOut Q) : LetsOut Q' := let ⟨a, w, q⟩ := hl; ⟨a, w, h _ _ _ q⟩
theorem operWp_mono {o : Oper} {a : Act} {w : World} {K K' : Act → World → Prop} {Q Q' : Exit → Act → World → Prop} (h : ∀ a w, K a w → K' a w) (hq : ∀ e a w, Q e a w → Q' e a w)
    (hh : o.wpIn (FR ro) 0 P a w K Q) : o.wpIn (FR ro) 0 P a w K' Q' := by
  unfold Oper.wpIn at *
  refine ⟨hh.1, ?_⟩
  have hh := hh.2
  generalize (o.semAt (FR ro).round a.eval).run P w = r at *
  cases r with
  | ok n w' =>
    cases n <;> simp only [Oper.uponIn] at hh ⊢ <;>
      first
        | exact h _ _ hh
        | exact ⟨hh.1, CallsIn.mono hh.2 (fun e w'' he => by cases e <;> first | exact h _ _ he | exact hq _ _ _ he | exact letsOut_mono hq he)⟩
        | exact ⟨hh.1, RowsIn.mono hh.2 (fun _ _ he => h _ _ he)⟩
        | exact ⟨hh.1, RoundIn.mono hh.2 (fun e w'' he => by cases e <;> first | exact h _ _ he | exact hq _ _ _ he | exact letsOut_mono hq he)⟩
  | halt x w' => cases x <;> simp only [Oper.uponIn] at hh ⊢ <;> exact hq _ _ _ hh
theorem wpOps_mono' {ops : Array Oper} {Q Q' : Exit → Act → World → Prop} (hq : ∀ e a w, Q e a w → Q' e a w) : ∀ (l : List Nat) (a : Act) (w : World), wpOpsIn (FR ro) 0 P ops Q l a w → wpOpsIn (FR ro) 0 P ops Q' l a w := by
  intro l
  induction l with
  | nil => intro a w h; exact hq _ _ _ h
  | cons i l ih =>
    intro a w h
    simp only [wpOpsIn] at h ⊢
    cases ho : ops[i]? with
    | none => rw [ho] at h; exact ih a w h
    | some o =>
      rw [ho] at h
      simp only at h ⊢
      split
      · rename_i hw
        rw [if_pos hw] at h
        exact operWp_mono (fun a w => ih a w) hq h
      · rename_i hw
        rw [if_neg hw] at h
        exact ⟨h.1, ih _ _ h.2⟩
theorem cops_wp {K : List TypeId} (hK : eqGood P K) {call : CallF} (hcs : CallSound P E call) {ops : Array Oper} : ∀ (os : List COper) (i : Nat) (a : Act) (φ : Ren) (H : CH) (w : World) (ct ct' : List Value) (x : CExit) (H' : CH),
    compOps P K ops (ops.toList.drop i) = some os → RelT φ ct a.tmps → WR E φ H w → cops E call os ct H = some (x, ct', H') → 
    wpOpsIn (FR ro) 0 P ops (SpecQ E φ H w a.defers x ct' H') (List.range' i (ops.size - i)) a w := by
  intro os
  induction os with
  | nil =>
    intro i a φ H w ct ct' x H' hc ht hw h
    simp only [cops, Option.some.injEq, Prod.mk.injEq] at h
    obtain ⟨rfl, rfl, rfl⟩ := h
    have hlen : ops.size - i = 0 := by
      cases hd : ops.toList.drop i with
      | nil => have := congrArg List.length hd; simp at this; omega
      | cons o r =>
        rw [hd] at hc
        simp only [compOps] at hc
        cases h1 : compOper P K ops o with
        | none => rw [h1] at hc; cases hc
        | some c1 =>
          rw [h1] at hc
          cases h2 : compOps P K ops r with
          | none => rw [h2] at hc; cases hc
          | some cs1 => rw [h2] at hc; cases hc
    rw [hlen]
    simp only [List.range'_zero, wpOpsIn]
    exact ⟨rfl, φ, hw, .refl _ _ _, ht⟩
  | cons c os ih =>
    intro i a φ H w ct ct' x H' hc ht hw h
    cases hd : ops.toList.drop i with
    | nil => rw [hd] at hc; simp [compOps] at hc
    | cons o r =>
      rw [hd] at hc
      simp only [compOps] at hc
      cases h1 : compOper P K ops o with
      | none => rw [h1] at hc; simp at hc
      | some c1 =>
        rw [h1] at hc
        cases h2 : compOps P K ops r with
        | none => rw [h2] at hc; simp at hc
        | some cs1 =>
          rw [h2] at hc
          simp only [Option.some.injEq, List.cons.injEq] at hc
          obtain ⟨rfl, rfl⟩ := hc
          have hlt : i < ops.size := by
            have := congrArg List.length hd; simp at this; omega
          have ho : ops[i]? = some o := by
            rw [← Array.getElem?_toList, ← List.head?_drop, hd]; rfl
          have hr1 : ops.toList.drop (i + 1) = r := by
            rw [← List.tail_drop, hd]; rfl
          have hsz : ops.size - i = (ops.size - (i + 1)) + 1 := by omega
          rw [hsz, List.range'_succ]
          simp only [wpOpsIn, ho]
          obtain ⟨hwant, hcop, hdst⟩ := wanted_eq (P := P) ht h1
          simp only [cops] at h
          rw [hwant]
          cases hwt : Cl.wanted c1.guard ct with
          | true =>
            rw [hwt] at h
            simp only [cond_true] at h
            rw [if_pos rfl]
            cases hop : cop E call c1.op (cev ct) H with
            | none => rw [hop] at h; simp at h
            | some r1 =>
              have hcop := hcop.resolve_left (fun hb => by rw [hb] at hop; cases hop)
              obtain ⟨out, H1⟩ := r1
              rw [hop] at h
              cases out with
              | ret v =>
                refine op_wp hK hcs hw hcop (fun x hx => ht.ev hx) hop (fun v1 v' w1 φ1 hv hW hE hV => ?_) (fun v1 v' w1 φ1 hv => by cases hv)
                injection hv with hv; subst hv
                have hrel : RelT φ1 (cput c1.dst v ct) (a.put o.dst v').tmps := by rw [hdst]; exact (ht.mono hE.le).put o.dst hV
                have hih := ih (i + 1) (a.put o.dst v') φ1 H1 w1 _ ct' x H' (by rw [hr1]; exact h2) hrel hW h
                rw [put_defers] at hih
                exact wpOps_mono' (fun e a2 w2 hq => SpecQ.trans hw hE e a2 w2 hq) _ _ _ hih
              | pan v =>
                simp only [Option.some.injEq, Prod.mk.injEq] at h
                obtain ⟨rfl, rfl, rfl⟩ := h
                refine op_wp hK hcs hw hcop (fun x hx => ht.ev hx) hop (fun v1 v' w1 φ1 hv => by cases hv) (fun v1 v' w1 φ1 hv hW hE hV => ?_)
                injection hv with hv; subst hv
                exact ⟨rfl, φ1, hW, hE, v', rfl, hV, ht.mono hE.le⟩
          | false =>
            rw [hwt] at h
            simp only [cond_false] at h
            rw [if_neg (by simp)]
            have hrel : RelT φ (cput c1.dst undef ct) (a.put o.dst undef).tmps := by rw [hdst]; exact ht.put o.dst .undef
            have hih := ih (i + 1) (a.put o.dst undef) φ H w _ ct' x H' (by rw [hr1]; exact h2) hrel hw h
            rw [put_defers] at hih
            exact ⟨fun _ _ => trivial, hih⟩
end Go.Cl

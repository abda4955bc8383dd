/- One operation, calls and all; a region in its own order. -/
import Derived.Test.YtaicnnkljmanmaaGreatDoorClEff2
import Derived.OrdersIn
import Derived.RangeFuncLeaves
import Derived.RangeFuncRecord
import Derived.Scope
import Derived.LoopN
namespace Go.Cl
open Go
variable {P : Program} {E : Env} {φ φ' : Ren} {H H' : CH} {w w' : World}

/-- What a call comes to. -/
def Post (E : Env) (φ : Ren) (H : CH) (w : World) (out : Out) (H' : CH) : Ending → World → Prop
  | .returned v', w' => ∃ v φ', out = .ret v ∧ WR E φ' H' w' ∧ Ext φ H w φ' H' w' ∧ VR φ' v v'
  | .panicked chain, w' => ∃ v v' φ', out = .pan v ∧ chain = [{ v := v', recovered := false }] ∧ WR E φ' H' w' ∧ Ext φ H w φ' H' w' ∧ VR φ' v v'
  | .outgrown, _ => False
/-- Every machine; in the frame of a round, or of none. -/
def FR (ro : Option Nat) : Fence := { Fence.wide with round := ro }
variable {ro : Option Nat}
theorem roomR {f : FuncId} {args : Array Value} {R : Ending → World → Prop} (h : Calls P f args w R) : ((FR ro).depth.isSome = true → 1 ≤ 0) ∧ CallsIn (FR ro) (0 - 1) P f args w R :=
  ⟨fun h => by simp [FR, Fence.wide] at h, (callsIn_wide (n := 0)).2 h⟩
structure CallSound (P : Program) (E : Env) (call : CallF) : Prop where
  fn : ∀ f args H out H', call f args H = some (out, H') → plainFn P f = true ∧
    ∀ φ w args', WR E φ H w → VRs φ args args' → Calls P f ⟨args'⟩ w (Post E φ H w out H')
  rd : ∀ id args H out H', call.rd id args H = some (out, H') → ∀ φ w args' l hi, WR E φ H w → φ.at_ id 0 = some (l, 0, 0, hi) → VRs φ args args' →
    ∃ f tmps x y, (Instr.yield l ⟨args'⟩).run P w = .ok (.round l f tmps x y) w ∧ RoundIn Fence.wide 0 P l f tmps x y w (Post E φ H w out H')
theorem compOp_nd {K : List TypeId} {o : Oper} {c : COp} (hc : compOp P K o = some c) (d : Call) : o.op ≠ .defer d := by
  intro hd; simp [compOp, hd] at hc
theorem wpI_of {o : Oper} {a : Act} {next : Act → World → Prop} {Q : Exit → Act → World → Prop} (hnd : ∀ d, o.op ≠ .defer d) (h : o.uponIn (FR ro) 0 P a next Q ((execOp a.eval o).run P w)) : o.wpIn (FR ro) 0 P a w next Q := by
  refine ⟨fun _ _ => trivial, ?_⟩
  rw [Oper.semAt_eq _ _ _ hnd]; exact h
theorem run_callFunc {f : FuncId} (h : plainFn P f = true) (args : Array Value) : (callFunc f args).run P w = .ok (.enter f args) w := by
  unfold plainFn at h
  split at h
  · rename_i fn hf
    simp only [Bool.and_eq_true, Bool.not_eq_true'] at h
    obtain ⟨hb, hn⟩ := h
    obtain ⟨c, hc⟩ := Option.isSome_iff_exists.1 hb
    simp only [callFunc, Sem.run_bind, run_program, Result.andThen_ok, hf, hn, hc]
    simp
  · cases h
theorem load_sound {K : List TypeId} (hK : eqGood P K) (hw : WR E φ H w) {o : Oper} {lo hi : Nat} {p : LOp} {ρc ρ : Operand → Value} {v : Value} (hc : compOp P K o = some (.l lo hi p))
    (hr : ∀ x, okO x = true → VR φ (ρc x) (ρ x)) (h : cload E H p ρc = some v) : ∃ v', (execOp ρ o).run P w = .ok (.value v') w ∧ VR φ v v' := by
  cases hop : o.op <;> simp only [compOp, hop, reduceCtorEq] at hc <;> simp only [execOp, hop]
  case load t x =>
    obtain ⟨n, hn, hc⟩ := Option.bind_eq_some_iff.1 hc
    obtain ⟨h1, h2⟩ := gd_some hc
    injection h2 with _ _ h2; subst h2
    simp only [cload] at h
    obtain ⟨v', hrun, r⟩ := lVar_sound (P := P) hw hn (hr _ h1) h
    exact ⟨v', by simp [hrun], r⟩
  case convert s d x =>
    split at hc <;> try (first | (simp at hc; done) | (obtain ⟨h1, h2⟩ := gd_some hc; simp at h2; done))
    · rename_i e hs hd
      split at hc
      · rename_i he
        obtain ⟨h1, h2⟩ := gd_some hc
        injection h2 with _ _ h2; subst h2
        simp only [cload] at h
        obtain ⟨v', hrun, r⟩ := lB2s_sound (P := P) hw hs hd he (hr _ h1) h
        exact ⟨v', by simp [hrun], r⟩
      · simp at hc
    · split at hc
      · obtain ⟨h1, h2⟩ := gd_some hc; simp at h2
      · simp at hc
    · split at hc
      · obtain ⟨h1, h2⟩ := gd_some hc; simp at h2
      · simp at hc
  case binOp op t x y yt =>
    cases hb : isBasic (P.underlying t) <;> cases ha : isAny (P.underlying t) <;> rw [hb, ha] at hc <;> cases op <;> simp [gd_eq, Option.bind_eq_some_iff] at hc
  case call c =>
    obtain ⟨x, t, kt, vt, hcal, ha, ht, hu, h1, rfl⟩ := compCall_l hc
    simp only [cload] at h
    obtain ⟨v', hrun, hV⟩ := lMlen_sound (P := P) (ty := o.type) hw hu (hr _ h1) h
    refine ⟨v', ?_, hV⟩
    simp only [resolve, hcal, Sem.run_bind, Sem.run_pure, Result.andThen_ok, invoke, builtin, ha, ht, show (#[x] : Array Operand).map ρ = #[ρ x] from by simp]
    simp [hrun]
  case lookup t m k ok =>
    split at hc
    · rename_i kt vt hu
      split at hc
      · rename_i n e z hn he hz
        obtain ⟨h1, h2⟩ := gd_some hc
        injection h2 with _ _ h2; subst h2
        simp only [Bool.and_eq_true] at h1
        simp only [cload] at h
        obtain ⟨v', hrun, hV⟩ := lLook_sound (P := P) hK hw hu hn he hz h1.2.2 (hr _ h1.1) (hr _ h1.2.1) h
        exact ⟨v', by simp [hrun], hV⟩
      · cases hc
    · cases hc
  case makeMap t r => cases r <;> simp at hc
  case entry x =>
    obtain ⟨h1, h2⟩ := gd_some hc
    injection h2 with _ _ h2; subst h2
    simp only [cload] at h
    obtain ⟨v', hrun, hV⟩ := lEntry_sound (P := P) hw (hr _ h1) h
    exact ⟨v', by simp [hrun], hV⟩
  all_goals (
    repeat' split at hc
    all_goals (simp only [Option.bind_eq_some_iff, Option.map_eq_some_iff, gd_eq, cond_eq_some, Option.some.injEq, reduceCtorEq, and_false, exists_false] at hc))
theorem op_wp {K : List TypeId} (hK : eqGood P K) {call : CallF} (hcs : CallSound P E call) (hw : WR E φ H w) {o : Oper} {c : COp} (hc : compOp P K o = some c) {ρc : Operand → Value} {a : Act}
    (hr : ∀ x, okO x = true → VR φ (ρc x) (a.eval x)) {out : Out} (h : cop E call c ρc H = some (out, H')) {next : Act → World → Prop} {Q : Exit → Act → World → Prop}
    (hn : ∀ v v' w' φ', out = .ret v → WR E φ' H' w' → Ext φ H w φ' H' w' → VR φ' v v' → next (a.put o.dst v') w')
    (hp : ∀ v v' w' φ', out = .pan v → WR E φ' H' w' → Ext φ H w φ' H' w' → VR φ' v v' → Q (.panic [{ v := v', recovered := false }]) a w') : o.wpIn (FR ro) 0 P a w next Q := by
  have hnd := compOp_nd hc
  refine wpI_of hnd ?_
  cases c with
  | p p =>
    simp only [cop] at h
    cases hv : cpure p ρc with
    | none => rw [hv] at h; simp [outP] at h
    | some v =>
      rw [hv] at h
      simp only [outP, Option.some.injEq, Prod.mk.injEq] at h
      obtain ⟨rfl, rfl⟩ := h
      obtain ⟨v', hrun, r⟩ := pure_sound (w := w) hK hc hr hv
      rw [hrun, Oper.uponIn_value]
      exact hn v v' w φ rfl hw (.refl _ _ _) r
  | l lo hi l =>
    simp only [cop] at h
    cases hv : cload E H l ρc with
    | none => rw [hv] at h; simp [outP] at h
    | some v =>
      rw [hv] at h
      simp only [outP, Option.some.injEq, Prod.mk.injEq] at h
      obtain ⟨rfl, rfl⟩ := h
      obtain ⟨v', hrun, r⟩ := load_sound (P := P) hK hw hc hr hv
      rw [hrun, Oper.uponIn_value]
      exact hn v v' w φ rfl hw (.refl _ _ _) r
  | n n =>
    simp only [cop] at h
    cases hv : cnew H.next n ρc with
    | none => rw [hv] at h; simp [outN] at h
    | some r =>
      obtain ⟨v, ob⟩ := r
      rw [hv] at h
      simp only [outN, Option.some.injEq, Prod.mk.injEq] at h
      obtain ⟨rfl, rfl⟩ := h
      obtain ⟨v', w', hrun, hm⟩ := new_sound (P := P) hc hr hv w
      obtain ⟨φ', hE, hW, hV⟩ := hm.step hw
      rw [hrun, Oper.uponIn_value]
      exact hn v v' w' φ' rfl hW hE hV
  | bad => cases h
  | e last e =>
    simp only [cop] at h
    cases hic : isCall e with
    | false =>
      have hs := eff_sound hK hw hc hic hr h
      cases out with
      | ret v =>
        obtain ⟨v', w', φ', hy, hW, hE, hV⟩ := hs
        have hg := hn v v' w' φ' rfl hW hE hV
        rcases hy with hy | ⟨hy, rfl⟩
        · rw [hy, Oper.uponIn_value]; exact hg
        · rw [hy, Oper.uponIn_skip]; exact hg
      | pan v =>
        obtain ⟨v', hy, rfl, hV⟩ := hs
        rw [hy, Oper.uponIn_panic]
        exact hp v v' w φ rfl hw (.refl _ _ _) hV
    | true =>
      have key : ∀ f args args', call f args H = some (out, H') → VRs φ args args' → (execOp a.eval o).run P w = .ok (.enter f ⟨args'⟩) w → o.uponIn (FR ro) 0 P a next Q ((execOp a.eval o).run P w) := by
        intro f args args' hcall hargs hrun
        obtain ⟨_, hC⟩ := hcs.fn f args H out H' hcall
        rw [hrun, Oper.uponIn_enter]
        refine roomR ((hC φ w args' hw hargs).mono fun e w' he => ?_)
        cases e with
        | returned v' =>
          obtain ⟨v, φ', rfl, hW, hE, hV⟩ := he
          exact hn v v' w' φ' rfl hW hE hV
        | panicked chain =>
          obtain ⟨v, v', φ', rfl, rfl, hW, hE, hV⟩ := he
          exact hp v v' w' φ' rfl hW hE hV
        | outgrown => exact False.elim he
      cases hop : o.op <;> simp only [compOp, hop, reduceCtorEq] at hc
      case call cl =>
        unfold compCall at hc
        split at hc
        · exfalso
          repeat' split at hc
          all_goals (simp only [Option.bind_eq_some_iff, gd_eq, Option.some.injEq, reduceCtorEq, and_false, exists_false, COp.e.injEq] at hc)
          all_goals (first | (obtain ⟨_, _, rfl⟩ := hc; simp [isCall] at hic; done) | (obtain ⟨_, _, _, _, rfl⟩ := hc; simp [isCall] at hic; done))
        · rename_i f hcal
          obtain ⟨h1, h2⟩ := gd_some hc
          injection h2 with h2 h2; subst h2
          simp only [Bool.and_eq_true] at h1
          simp only [ceff] at h
          refine key f _ (cl.args.toList.map a.eval) h (mapOs_sound hr _ h1.1) ?_
          have : (⟨cl.args.toList.map a.eval⟩ : Array Value) = cl.args.map a.eval := by apply Array.toList_inj.1; simp
          rw [this]
          simp only [execOp, hop, resolve, hcal, Act.eval, Deferred.ofValue, Sem.run_bind, Sem.run_pure, Result.andThen_ok, invoke]
          rw [run_callFunc h1.2]; simp
        · rename_i g hnf hcal
          obtain ⟨h1, h2⟩ := gd_some hc
          injection h2 with h2 h2; subst h2
          simp only [Bool.and_eq_true] at h1
          simp only [ceff] at h
          have rg := hr _ h1.1
          unfold eCallv at h
          split at h
          · rename_i f first cap hg
            rw [hg] at rg
            generalize hge : a.eval g = g' at rg
            cases rg with
            | func _ hx hy =>
              rename_i xs ys us vs
              refine key f _ (ys ++ (cl.args.toList.map a.eval) ++ vs) h ((hx.append (mapOs_sound hr _ h1.2)).append hy) ?_
              have : (⟨ys ++ (cl.args.toList.map a.eval) ++ vs⟩ : Array Value) = (⟨ys⟩ ++ cl.args.map a.eval) ++ ⟨vs⟩ := by apply Array.toList_inj.1; simp
              rw [this]
              simp only [execOp, hop, resolve, hcal, hge, Deferred.ofValue, Sem.run_bind, Sem.run_pure, Result.andThen_ok, invoke]
              rw [run_callFunc (hcs.fn f _ H out H' h).1]
          · rename_i l q1 q2 hg
            rw [hg] at rg
            generalize hge : a.eval g = g' at rg
            cases rg with
            | yield hat =>
              rename_i l' hi
              have hargs := mapOs_sound hr _ h1.2
              obtain ⟨f, tmps, x, y, hy, hround⟩ := hcs.rd l _ H out H' h φ w _ l' hi hw hat hargs
              have hrun : (execOp a.eval o).run P w = .ok (.round l' f tmps x y) w := by
                have : (⟨cl.args.toList.map a.eval⟩ : Array Value) = #[] ++ cl.args.map a.eval ++ #[] := by apply Array.toList_inj.1; simp
                rw [this] at hy
                simp only [execOp, hop, resolve, hcal, hge, Deferred.ofValue, Sem.run_bind, Sem.run_pure, Result.andThen_ok, invoke]
                simpa using hy
              rw [hrun, Oper.uponIn_round]
              refine ⟨fun h => by simp [FR, Fence.wide] at h, ?_⟩
              refine RoundIn.mono (F := FR ro) (n := 0) hround fun e w' he => ?_
              cases e with
              | returned v' =>
                obtain ⟨v, φ', rfl, hW, hE, hV⟩ := he
                exact hn v v' w' φ' rfl hW hE hV
              | panicked chain =>
                obtain ⟨v, v', φ', rfl, rfl, hW, hE, hV⟩ := he
                exact hp v v' w' φ' rfl hW hE hV
              | outgrown => exact False.elim he
          · simp at h
        · simp at hc
      case binOp op t x y yt =>
        exfalso
        cases hb : isBasic (P.underlying t) <;> cases ha : isAny (P.underlying t) <;> rw [hb, ha] at hc <;> cases op <;> simp [gd_eq, Option.bind_eq_some_iff] at hc
      case makeMap t r => cases r <;> simp at hc
      case next x str =>
        obtain ⟨_, h2⟩ := gd_some hc
        injection h2 with _ h2
        subst h2
        cases str <;> simp [isCall] at hic
      all_goals (
        exfalso
        repeat' split at hc
        all_goals (simp only [Option.bind_eq_some_iff, Option.map_eq_some_iff, gd_eq, cond_eq_some, Option.some.injEq, reduceCtorEq, and_false, exists_false, COp.e.injEq] at hc)
        all_goals (first | (obtain ⟨_, _, rfl⟩ := hc; simp [isCall] at hic; done) | (obtain ⟨_, _, _, _, rfl⟩ := hc; simp [isCall] at hic; done)))
end Go.Cl

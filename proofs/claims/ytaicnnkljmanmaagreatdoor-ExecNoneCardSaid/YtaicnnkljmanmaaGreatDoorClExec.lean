/- Code, and calls. -/
import Derived.Test.YtaicnnkljmanmaaGreatDoorClRound
namespace Go.Cl
open Go
variable {P : Program} {E : Env} {φ φ' : Ren} {H H' : CH} {w w' : World} {ro : Option Nat} {k : Bool}

theorem SpecM.ofExt {d d1 : List Deferred} {x : CExit} {ct' : List Value} {H1 : CH} {w1 : World} {φ1 : Ren} (hw : WR E φ H w) (hE : Ext φ H w φ1 H1 w1) (hd : Mks k w φ1 w1 d d1) {code : Code} {a1 : Act}
    (h : code.wpIn (FR ro) 0 P (SpecM k E φ1 H1 w1 d1 x ct' H') a1 w1) : code.wpIn (FR ro) 0 P (SpecM k E φ H w d x ct' H') a1 w1 := wpIn_mono h fun e a w hq => SpecM.trans hw hE hd e a w hq
theorem exec_sound {KK : List TypeId} (hK : eqGood P KK) {call : CallF} (hcs : CallSound P E call) (hmix : P.follows .mixedOrders = true) (hcmp : E.cmp = comp P KK) (N : Nat) (hro : ro.isSome = true → k = true) : ∀ (code : Code) (_ : k = true → noRf code = true)
    (ct : List Value) (H : CH) (a : Act) (φ : Ren) (w : World) (x : CExit) (ct' : List Value) (H' : CH), exec E call N (comp P KK code) (ct, H) = some (x, ct', H') → RelT φ ct a.tmps → WR E φ H w → code.wpIn (FR ro) 0 P (SpecM k E φ H w a.defers x ct' H') a w := by
  intro code
  induction code with
  | skip =>
    intro hnf ct H a φ w x ct' H' h ht hw
    simp only [comp, exec, Option.some.injEq, Prod.mk.injEq] at h
    obtain ⟨rfl, rfl, rfl⟩ := h
    exact wpIn_skip ⟨φ, .refl _ _ _ _ _, hw, .refl _ _ _, ht⟩
  | label l =>
    intro hnf ct H a φ w x ct' H' h ht hw
    simp only [comp, exec, Option.some.injEq, Prod.mk.injEq] at h
    obtain ⟨rfl, rfl, rfl⟩ := h
    exact wpIn_label ⟨φ, .refl _ _ _ _ _, hw, .refl _ _ _, ht⟩
  | region id ops d =>
    intro hnf ct H a φ w x ct' H' h ht hw
    cases d with
    | false =>
      simp only [comp] at h
      split at h
      rotate_left
      · cases h
      rename_i os hos
      simp only [exec] at h
      have := cops_wp (P := P) (ro := ro) hK hcs os 0 a φ H w ct ct' x H' (by simpa using hos) ht hw h
      refine wpIn_region ?_
      rw [List.range_eq_range']
      exact wpOps_mono' SpecM.ofQ _ _ _ this
    | true =>
      simp only [comp] at h
      split at h
      rotate_left
      · cases h
      rename_i os hos
      simp only [exec] at h
      cases hd : rdrawn E call os ct H with
      | none => rw [hd] at h; cases h
      | some s =>
        obtain ⟨ct1, H1⟩ := s
        rw [hd] at h
        simp only [Option.some.injEq, Prod.mk.injEq] at h
        obtain ⟨rfl, rfl, rfl⟩ := h
        exact wpIn_mono (drawn_wp hK hcs hmix hos ht hw hd id) SpecM.ofQ
  | seq x y ihx ihy =>
    intro hnf ct H a φ w r ct' H' h ht hw
    simp only [comp, exec] at h
    cases h1 : exec E call N (comp P KK x) (ct, H) with
    | none => rw [h1] at h; cases h
    | some r1 =>
      obtain ⟨e1, ct1, H1⟩ := r1
      rw [h1] at h
      have hwx := ihx (fun hk => (Bool.and_eq_true_iff.1 (hnf hk)).1) ct H a φ w e1 ct1 H1 h1 ht hw
      refine wpIn_seq (wpIn_mono hwx fun e a1 w1 hq => ?_)
      cases e1 with
      | normal =>
        cases e with
        | normal =>
          obtain ⟨φ1, hd, hW, hE, hR⟩ := hq
          have := ihy (fun hk => (Bool.and_eq_true_iff.1 (hnf hk)).2) ct1 H1 a1 φ1 w1 r ct' H' h hR hW
          exact SpecM.ofExt hw hE hd this
        | outgrown => exact False.elim hq
        | exit i => obtain ⟨_, _, _, _, hf⟩ := hq; exact hf.elim
        | goto i => obtain ⟨_, _, _, _, hf⟩ := hq; exact hf.elim
        | ret => obtain ⟨_, _, _, _, hf⟩ := hq; exact hf.elim
        | panic i => obtain ⟨_, _, _, _, hf⟩ := hq; exact hf.elim
      | exit i =>
        simp only [Option.some.injEq, Prod.mk.injEq] at h
        obtain ⟨rfl, rfl, rfl⟩ := h
        cases e with
        | normal => obtain ⟨_, _, _, _, hf⟩ := hq; exact hf.elim
        | _ => exact hq
      | ret =>
        simp only [Option.some.injEq, Prod.mk.injEq] at h
        obtain ⟨rfl, rfl, rfl⟩ := h
        cases e with
        | normal => obtain ⟨_, _, _, _, hf⟩ := hq; exact hf.elim
        | _ => exact hq
      | pan v =>
        simp only [Option.some.injEq, Prod.mk.injEq] at h
        obtain ⟨rfl, rfl, rfl⟩ := h
        cases e with
        | normal => obtain ⟨_, _, _, _, hf⟩ := hq; exact hf.elim
        | _ => exact hq
  | cond cc x y ihx ihy =>
    intro hnf ct H a φ w r ct' H' h ht hw
    simp only [comp] at h
    have hok : okO cc = true := by
      cases hq : okO cc with
      | true => rfl
      | false => rw [hq] at h; cases h
    rw [hok] at h
    simp only [cond_true, exec] at h
    have hv := ht.ev hok
    cases hce : cev ct cc <;> rw [hce] at h hv <;> try (cases h; done)
    rename_i b
    generalize hae : a.eval cc = av at hv
    cases hv
    cases b with
    | true => exact wpIn_cond_true hae (ihx (fun hk => (Bool.and_eq_true_iff.1 (hnf hk)).1) ct H a φ w r ct' H' h ht hw)
    | false => exact wpIn_cond_false hae (ihy (fun hk => (Bool.and_eq_true_iff.1 (hnf hk)).2) ct H a φ w r ct' H' h ht hw)
  | block id b ih =>
    intro hnf ct H a φ w r ct' H' h ht hw
    simp only [comp, exec] at h
    cases h1 : exec E call N (comp P KK b) (ct, H) with
    | none => rw [h1] at h; cases h
    | some r1 =>
      obtain ⟨e1, ct1, H1⟩ := r1
      rw [h1] at h
      have hwb := ih hnf ct H a φ w e1 ct1 H1 h1 ht hw
      refine wpIn_block (wpIn_mono hwb fun e a1 w1 hq => ?_)
      cases e1 with
      | exit i =>
        simp only at h
        cases e with
        | exit j =>
          obtain ⟨φ1, hd, hW, hE, hij, hR⟩ := hq
          subst hij
          simp only [Exit.inBlock]
          cases hbi : Nat.beq i id with
          | true =>
            rw [hbi] at h
            simp only [cond_true, Option.some.injEq, Prod.mk.injEq] at h
            obtain ⟨rfl, rfl, rfl⟩ := h
            rw [Nat.beq_eq] at hbi
            rw [if_pos hbi]
            exact ⟨φ1, hd, hW, hE, hR⟩
          | false =>
            rw [hbi] at h
            simp only [cond_false, Option.some.injEq, Prod.mk.injEq] at h
            obtain ⟨rfl, rfl, rfl⟩ := h
            have : i ≠ id := fun hh => by rw [hh, Nat.beq_refl] at hbi; cases hbi
            rw [if_neg this]
            exact ⟨φ1, hd, hW, hE, rfl, hR⟩
        | outgrown => exact False.elim hq
        | normal => obtain ⟨_, _, _, _, hf⟩ := hq; exact hf.elim
        | goto i => obtain ⟨_, _, _, _, hf⟩ := hq; exact hf.elim
        | ret => obtain ⟨_, _, _, _, hf⟩ := hq; exact hf.elim
        | panic i => obtain ⟨_, _, _, _, hf⟩ := hq; exact hf.elim
      | normal =>
        simp only [Option.some.injEq, Prod.mk.injEq] at h
        obtain ⟨rfl, rfl, rfl⟩ := h
        cases e with
        | exit j => obtain ⟨_, _, _, _, hf⟩ := hq; exact hf.elim
        | _ => exact hq
      | ret =>
        simp only [Option.some.injEq, Prod.mk.injEq] at h
        obtain ⟨rfl, rfl, rfl⟩ := h
        cases e with
        | exit j => obtain ⟨_, _, _, _, hf⟩ := hq; exact hf.elim
        | _ => exact hq
      | pan v =>
        simp only [Option.some.injEq, Prod.mk.injEq] at h
        obtain ⟨rfl, rfl, rfl⟩ := h
        cases e with
        | exit j => obtain ⟨_, _, _, _, hf⟩ := hq; exact hf.elim
        | _ => exact hq
  | loop b ih =>
    intro hnf ct H a φ w r ct' H' h ht hw
    simp only [comp, exec] at h
    have key : ∀ (n : Nat) (ct : List Value) (H : CH) (a : Act) (φ : Ren) (w : World), loopN n (exec E call N (comp P KK b)) (ct, H) = some (r, ct', H') → RelT φ ct a.tmps → WR E φ H w →
        roundsI (FR ro) 0 P b (SpecM k E φ H w a.defers r ct' H') n a w := by
      intro n
      induction n with
      | zero => intro ct H a φ w h; cases h
      | succ n ihn =>
        intro ct H a φ w h ht hw
        simp only [loopN] at h
        cases h1 : exec E call N (comp P KK b) (ct, H) with
        | none => rw [h1] at h; cases h
        | some r1 =>
          obtain ⟨e1, ct1, H1⟩ := r1
          rw [h1] at h
          have hwb := ih hnf ct H a φ w e1 ct1 H1 h1 ht hw
          rw [roundsI_succ]
          refine wpIn_mono hwb fun e a1 w1 hq => ?_
          cases e1 with
          | normal =>
            cases e with
            | normal =>
              obtain ⟨φ1, hd, hW, hE, hR⟩ := hq
              have := ihn ct1 H1 a1 φ1 w1 h hR hW
              exact roundsI_mono (fun e a w hq => SpecM.trans hw hE hd e a w hq) n a1 w1 this
            | outgrown => exact False.elim hq
            | exit i => obtain ⟨_, _, _, _, hf⟩ := hq; exact hf.elim
            | goto i => obtain ⟨_, _, _, _, hf⟩ := hq; exact hf.elim
            | ret => obtain ⟨_, _, _, _, hf⟩ := hq; exact hf.elim
            | panic i => obtain ⟨_, _, _, _, hf⟩ := hq; exact hf.elim
          | exit i =>
            simp only [Option.some.injEq, Prod.mk.injEq] at h
            obtain ⟨rfl, rfl, rfl⟩ := h
            cases e with
            | normal => obtain ⟨_, _, _, _, hf⟩ := hq; exact hf.elim
            | _ => exact hq
          | ret =>
            simp only [Option.some.injEq, Prod.mk.injEq] at h
            obtain ⟨rfl, rfl, rfl⟩ := h
            cases e with
            | normal => obtain ⟨_, _, _, _, hf⟩ := hq; exact hf.elim
            | _ => exact hq
          | pan v =>
            simp only [Option.some.injEq, Prod.mk.injEq] at h
            obtain ⟨rfl, rfl, rfl⟩ := h
            cases e with
            | normal => obtain ⟨_, _, _, _, hf⟩ := hq; exact hf.elim
            | _ => exact hq
    exact wpIn_loop_rounds N (key N ct H a φ w h ht hw)
  | exit id =>
    intro hnf ct H a φ w x ct' H' h ht hw
    simp only [comp, exec, Option.some.injEq, Prod.mk.injEq] at h
    obtain ⟨rfl, rfl, rfl⟩ := h
    exact wpIn_exit ⟨φ, .refl _ _ _ _ _, hw, .refl _ _ _, rfl, ht⟩
  | scope b ih =>
    intro hnf ct H a φ w r ct' H' h ht hw
    simp only [comp, exec] at h
    have hwb := ih hnf ct H a φ w r ct' H' h ht hw
    refine wpIn_scope (wpIn_mono hwb fun e a1 w1 hq => ?_)
    cases e with
    | goto i => obtain ⟨_, _, _, _, hf⟩ := hq; cases r <;> exact hf.elim
    | _ => exact hq
  | ret =>
    intro hnf ct H a φ w x ct' H' h ht hw
    simp only [comp, exec, Option.some.injEq, Prod.mk.injEq] at h
    obtain ⟨rfl, rfl, rfl⟩ := h
    exact wpIn_ret ⟨φ, .refl _ _ _ _ _, hw, .refl _ _ _, ht⟩
  | rangeFunc g ps x y =>
    intro hnf ct H a φ w r ct' H' h ht hw
    have hk : k = false := by cases hkk : k with
      | false => rfl
      | true => have := hnf hkk; cases this
    have hro' : ro = none := by cases hr : ro with
      | none => rfl
      | some l => rw [hr] at hro; rw [hk] at hro; cases hro rfl
    subst hro'
    simp only [comp] at h
    cases hok : (okO g && (noRf x && noRf y)) with
    | false => rw [hok] at h; cases h
    | true =>
    rw [hok] at h
    simp only [Bool.and_eq_true] at hok
    obtain ⟨hg, hnx, hny⟩ := hok
    simp only [cond_true, exec] at h
    have hv := ht.ev hg
    split at h
    rotate_left
    · cases h
    rename_i f first cap hce
    rw [hce] at hv
    generalize hae : a.eval g = gv at hv
    cases hv with
    | func _ hxs hus =>
    rename_i xs ys us vs
    cases hcall : call f (xs ++ [.func (.yield H.next) #[] #[]] ++ us) (H.add (.loop .ready none ct ps.toList (comp P KK x) (comp P KK y))) with
    | none => rw [hcall] at h; cases h
    | some r1 =>
    obtain ⟨out, H1⟩ := r1
    rw [hcall] at h
    refine wpIn_rangeFunc fun fnn _ => ?_
    have hg1 : Grown w (w.alloc (.deferred (some []))) (.deferred (some [])) := ⟨rfl, rfl, rfl, rfl⟩
    obtain ⟨hwA, hEA⟩ := hw.push hg1
    generalize hwa : w.alloc (.deferred (some [])) = wA at hwA hEA hg1
    have hsA : wA.heap.size = w.heap.size + 1 := hg1.size
    have hLR : LoopR E φ .ready none ct ps.toList (comp P KK x) (comp P KK y) { state := .ready, pending := none, fn := fnn, tmps := a.tmps, params := ps, assign := x, body := y, defers := w.heap.size } :=
      ⟨rfl, rfl, ht, rfl, by rw [hcmp], by rw [hcmp], hnx, hny⟩
    obtain ⟨φB, hEB, hwB, hat⟩ := hwA.newLoop hLR
    obtain ⟨hpl, hC⟩ := hcs.fn _ _ _ _ _ hcall
    have hcB := hC φB _ (ys ++ [.func (.yield wA.heap.size) #[] #[]] ++ vs) hwB (((hxs.mono hEB.le).append (.cons (.yield hat) .nil)).append (hus.mono hEB.le))
    have hEAB := hEA.trans hw hEB
    refine ⟨wA.heap.size, [{ target := .collected w.heap.size, args := #[] }], wA.alloc (.loop { state := .ready, pending := none, fn := fnn, tmps := a.tmps, params := ps, assign := x, body := y, defers := w.heap.size }), { target := .fn (.func f) ⟨vs⟩, args := ⟨ys⟩ ++ #[.func (.yield wA.heap.size) #[] #[]] }, wA.alloc (.loop { state := .ready, pending := none, fn := fnn, tmps := a.tmps, params := ps, assign := x, body := y, defers := w.heap.size }), f, (⟨ys⟩ ++ #[.func (.yield wA.heap.size) #[] #[]]) ++ ⟨vs⟩, wA.alloc (.loop { state := .ready, pending := none, fn := fnn, tmps := a.tmps, params := ps, assign := x, body := y, defers := w.heap.size }), ?_, ?_, fun _ _ => trivial, ?_, fun hh => by simp [FR, Fence.wide] at hh, ?_⟩
    · have := run_enterLoop_outer (P := P) (w := w) fnn a.tmps ps x y
      rw [hwa, ← hsA] at this
      exact this
    · have e1 : Array.map a.eval #[Operand.const (Value.func (Fn.yield wA.heap.size) #[] #[])] = #[.func (.yield wA.heap.size) #[] #[]] := by simp [Act.eval]
      simp only [resolve, rangeCall, hae, Deferred.ofValue, e1]
      rfl
    · simp only [invoke]
      exact run_callFunc hpl _
    · have eqa : (⟨ys ++ [.func (.yield wA.heap.size) #[] #[]] ++ vs⟩ : Array Value) = (⟨ys⟩ ++ #[.func (.yield wA.heap.size) #[] #[]]) ++ ⟨vs⟩ := by apply Array.toList_inj.1; simp
      rw [eqa] at hcB
      refine ((callsIn_wide (n := 0)).2 hcB).mono fun e w3 he => ?_
      cases e with
      | outgrown => exact False.elim he
      | panicked ch =>
        obtain ⟨v, v', φ1, rfl, _⟩ := he
        simp [leaveL] at h
      | returned v' =>
        obtain ⟨v, φ1, rfl, hW1, hE1, _⟩ := he
        have hatl := hE1.le.1 _ _ _ hat
        simp only [leaveL] at h
        have hall : ∀ (st : LoopState) (p : Option (Option Nat)) (c : List Value) (ps' : List Nat) (xx yy : CCode), H1.get H.next = some (.loop st p c ps' xx yy) → st ≠ .busy → loopEnd ct (H1.put H.next (.loop .exhausted p c ps' xx yy)) p = some (r, ct', H') →
            rangePost (FR none) 0 P wA.heap.size (SpecM k E φ H w a.defers r ct' H') { a with defers := [{ target := .collected w.heap.size, args := #[] }] ++ a.defers } (.returned v') w3 := by
          intro st p c ps' xx yy hget hst hle
          obtain ⟨hown, hlt, rr, hrr, hLL⟩ := hW1.loop_at hatl hget
          obtain ⟨hW2, hE2⟩ := hW1.putLoop hatl hget hrr hLL .exhausted p
          have hend := run_endLoop (P := P) hrr (by rw [hLL.state]; exact hst)
          have hrec : ({ rr with state := .exhausted } : Loop) = { rr with state := .exhausted, pending := pendC p } := by rw [← hLL.pending]
          rw [hrec, hLL.pending] at hend
          have hE3 := hEAB.trans hw (hE1.trans hwB hE2)
          have hmk : Mks k w φ1 (w3.putObj wA.heap.size (.loop { rr with state := .exhausted, pending := pendC p })) a.defers ([{ target := .collected w.heap.size, args := #[] }] ++ a.defers) := by
            have hrlt : w.heap.size < wA.heap.size := by omega
            have h0 : wA.heap[w.heap.size]? = some (.deferred (some [])) := by rw [← hwa]; exact World.alloc_heap_new w _
            have ho0 : φ.own w.heap.size = none := by
              cases hq : φ.own w.heap.size with
              | none => rfl
              | some i => have := (hw.ownlt _ _ hq).1; omega
            have hE4 := hEB.trans hwA (hE1.trans hwB hE2)
            refine ⟨[w.heap.size], rfl, (fun hh => by rw [hk] at hh; cases hh), by simp, fun q hq => ?_⟩
            simp only [List.mem_singleton] at hq
            subst hq
            exact ⟨Nat.le_refl _, Nat.lt_of_lt_of_le hrlt hE4.size, by rw [hE4.own _ hrlt]; exact ho0, by rw [hE4.keep _ hrlt (fun i hi => by rw [ho0] at hi; cases hi)]; exact h0⟩
          refine ⟨_, _, hend, ?_⟩
          have hrel : RelT φ1 ct a.tmps := ht.mono (Ren.le_trans hEAB.le (Ren.le_trans hE1.le hE2.le))
          cases p with
          | none =>
            simp only [loopEnd, Option.some.injEq, Prod.mk.injEq] at hle
            obtain ⟨rfl, rfl, rfl⟩ := hle
            exact ⟨φ1, hmk, hW2, hE3, hrel⟩
          | some j =>
            cases j with
            | none =>
              simp only [loopEnd, Option.some.injEq, Prod.mk.injEq] at hle
              obtain ⟨rfl, rfl, rfl⟩ := hle
              exact wpIn_ret ⟨φ1, hmk, hW2, hE3, hrel⟩
            | some i =>
              simp only [loopEnd, Option.some.injEq, Prod.mk.injEq] at hle
              obtain ⟨rfl, rfl, rfl⟩ := hle
              exact wpIn_exit ⟨φ1, hmk, hW2, hE3, rfl, hrel⟩
        split at h
        · cases h
        · rename_i st p c ps' xx yy hnb hget
          exact hall st p c ps' xx yy hget hnb h
        · cases h
  | _ =>
    intro hnf ct H a φ w x ct' H' h
    simp only [comp] at h
    cases h
theorem exec_soundQ {KK : List TypeId} (hK : eqGood P KK) {call : CallF} (hcs : CallSound P E call) (hmix : P.follows .mixedOrders = true) (hcmp : E.cmp = comp P KK) (N : Nat) (code : Code) (hnf : noRf code = true)
    (ct : List Value) (H : CH) (a : Act) (φ : Ren) (w : World) (x : CExit) (ct' : List Value) (H' : CH) (h : exec E call N (comp P KK code) (ct, H) = some (x, ct', H')) (ht : RelT φ ct a.tmps) (hw : WR E φ H w) : code.wp P (SpecQ E φ H w a.defers x ct' H') a w :=
  (wpIn_wide (n := 0)).1 (wpIn_mono (exec_sound hK hcs hmix hcmp N (ro := none) (k := true) (fun _ => rfl) code (fun _ => hnf) ct H a φ w x ct' H' h ht hw) SpecM.toQ)
/-! ### the results -/
theorem results_sound (hw : WR E φ H w) {ct : List Value} {a : Act} (ht : RelT φ ct a.tmps) : ∀ (rs : List ResultVar) (crs : List CRes) (vs : List Value), rs.mapM (compRes P) = some crs → cresults E ct H crs = some vs →
    ∃ vs', (rs.mapM (m := Sem) fun | .tmp t => pure (a.tmps.getD t undef) | .cell c t => do loadVar t (← asAddr (a.tmps.getD c undef))).run P w = .ok vs' w ∧ VRs φ vs vs' := by
  intro rs
  induction rs with
  | nil =>
    intro crs vs h1 h2
    simp at h1; subst h1
    simp [cresults] at h2; subst h2
    exact ⟨[], by simp, .nil⟩
  | cons r rs ih =>
    intro crs vs h1 h2
    rw [List.mapM_cons] at h1
    obtain ⟨c, hc, h1⟩ := Option.bind_eq_some_iff.1 h1
    obtain ⟨cs, hcs, h1⟩ := Option.bind_eq_some_iff.1 h1
    simp at h1; subst h1
    simp only [cresults] at h2
    cases hv : cresult E ct H c with
    | none => rw [hv] at h2; cases h2
    | some v =>
      rw [hv] at h2
      cases hvs : cresults E ct H cs with
      | none => rw [hvs] at h2; cases h2
      | some vs1 =>
        rw [hvs] at h2
        simp only [Option.some.injEq] at h2
        subst h2
        obtain ⟨vs', hrun, hr⟩ := ih cs vs1 hcs hvs
        cases r with
        | tmp t =>
          simp only [compRes, Option.some.injEq] at hc
          subst hc
          simp only [cresult, Option.some.injEq] at hv
          subst hv
          have := ht.ev (x := .tmp t) rfl
          refine ⟨a.tmps.getD t undef :: vs', ?_, .cons this hr⟩
          simp only [List.mapM_cons, Sem.run_bind, Sem.run_pure, Result.andThen_ok, hrun]
        | cell ad t =>
          simp only [compRes] at hc
          obtain ⟨n, hn, hc⟩ := Option.map_eq_some_iff.1 hc
          subst hc
          simp only [cresult, cload] at hv
          have hx := ht.ev (x := .tmp ad) rfl
          obtain ⟨v', hv', hrv⟩ := lVar_sound (P := P) hw hn hx hv
          refine ⟨v' :: vs', ?_, .cons hrv hr⟩
          have hev : a.eval (.tmp ad) = a.tmps.getD ad undef := rfl
          rw [hev] at hv' hx
          have hcv : cev ct (.tmp ad) = cget ct ad := rfl
          rw [hcv] at hv hx
          generalize hg : a.tmps.getD ad undef = av at hv' hx
          generalize cget ct ad = cv at *
          cases hx <;> simp only [lVar, reduceCtorEq] at hv
          rename_i A aa har
          simp only [Instr.loadAt, Instr.sureAddr, Sem.run_bind, Sem.run_pure, Result.andThen_ok] at hv'
          have hasA : (asAddr (a.tmps.getD ad undef)).run P w = .ok aa w := by rw [hg]; rfl
          simp only [List.mapM_cons, Sem.run_bind, hasA, Sem.run_pure, Result.andThen_ok, hv', hrun]
theorem finish_sound (hw : WR E φ H w) {ct : List Value} {a : Act} (ht : RelT φ ct a.tmps) {fn : Func} {cf : CFun} (hr : fn.results.toList.mapM (compRes P) = some cf.results) {out : Out} (h : finish E cf ct H = some (out, H')) :
    H' = H ∧ ∃ v v', out = .ret v ∧ (results fn a.tmps).run P w = .ok v' w ∧ VR φ v v' := by
  unfold finish at h
  cases hv : cresults E ct H cf.results with
  | none => rw [hv] at h; cases h
  | some vs =>
    rw [hv] at h
    obtain ⟨vs', hrun, hrel⟩ := results_sound (P := P) hw ht _ _ _ hr hv
    have hlen := hrel.length
    have hm : (results fn a.tmps).run P w = .ok (if h : (⟨vs'⟩ : Array Value).size = 1 then (⟨vs'⟩ : Array Value)[0] else .tuple ⟨vs'⟩) w := by
      unfold results
      rw [Sem.run_bind, Array.mapM_eq_mapM_toList, Sem.run_map]
      erw [hrun]
      rfl
    cases hrel with
    | nil =>
      simp only [Option.some.injEq, Prod.mk.injEq] at h
      obtain ⟨rfl, rfl⟩ := h
      exact ⟨rfl, _, _, rfl, hm, .tuple .nil⟩
    | cons h1 h2 =>
      cases h2 with
      | nil =>
        simp only [Option.some.injEq, Prod.mk.injEq] at h
        obtain ⟨rfl, rfl⟩ := h
        exact ⟨rfl, _, _, rfl, hm, h1⟩
      | cons h3 h4 =>
        simp only [Option.some.injEq, Prod.mk.injEq] at h
        obtain ⟨rfl, rfl⟩ := h
        refine ⟨rfl, _, _, rfl, hm, ?_⟩
        rw [dif_neg (by simp)]
        exact .tuple (.cons h1 (.cons h3 h4))
/-! ### the calls -/
theorem setAll_rel {φ : Ren} : ∀ {ps : List Nat} {args args' ct : List Value} {tm : List Value}, VRs φ args args' → VRs φ ct tm →
    VRs φ (setAll ct ps args) ((ps.zip args').foldl (fun tm p => tm.set p.1 p.2) tm) := by
  intro ps
  induction ps with
  | nil => intro args args' ct tm _ h; cases args <;> simpa [setAll] using h
  | cons p ps ih =>
    intro args args' ct tm ha h
    cases ha with
    | nil => simpa [setAll] using h
    | cons hv ha =>
      simp only [setAll, List.zip_cons_cons, List.foldl_cons]
      refine ih ha ?_
      rw [cset_set]; exact VRs.set p h hv
theorem setAll_relT {φ : Ren} {ps : Array Nat} {args args' ct : List Value} {tm : Array Value} (ha : VRs φ args args') (h : RelT φ ct tm) :
    RelT φ (setAll ct ps.toList args) ((ps.zip (⟨args'⟩ : Array Value)).foldl (fun tmps (t, a) => tmps.setIfInBounds t a) tm) := by
  have key : ∀ (l : List (Nat × Value)) (tm : Array Value), (l.foldl (fun tmps (p : Nat × Value) => tmps.setIfInBounds p.1 p.2) tm).toList = l.foldl (fun tm p => tm.set p.1 p.2) tm.toList := by
    intro l
    induction l with
    | nil => intro tm; rfl
    | cons p l ih => intro tm; simp only [List.foldl_cons]; rw [ih]; simp
  have h1 := setAll_rel (ps := ps.toList) ha h
  unfold RelT
  rw [← Array.foldl_toList]
  have e : (ps.zip (⟨args'⟩ : Array Value)).toList = ps.toList.zip args' := by simp
  rw [e]
  have := key (ps.toList.zip args') tm
  rw [← this] at h1
  exact h1
structure TabOk (P : Program) (KK : List TypeId) (E : Env) : Prop where
  tab : ∀ f fn, E.tab.get f = some fn → compF P KK f = some fn ∧ plainFn P f = true
  cmp : E.cmp = comp P KK
theorem endR_sound {id l hi : Nat} (hW : WR E φ' H w') (hat : φ'.at_ id 0 = some (l, 0, 0, hi)) {φ0 : Ren} {H0 : CH} {w0 : World} (hw0 : WR E φ0 H0 w0) (hE : Ext φ0 H0 w0 φ' H w') {j : Option (Option Nat)} {out : Out} {H1 : CH} (h : endR id j H = some (out, H1)) :
    ∃ v w1, (Instr.endRound l (pendC j)).run P w' = .ok v w1 ∧ Post E φ0 H0 w0 out H1 (.returned v) w1 := by
  unfold endR at h
  cases hg : H.get id with
  | none => rw [hg] at h; cases h
  | some ob =>
    rw [hg] at h
    cases ob with
    | cells => cases h
    | iter => cases h
    | map => cases h
    | miter => cases h
    | loop st p ct ps a b =>
      obtain ⟨_, _, r, hrr, hLL⟩ := hW.loop_at hat hg
      have hrun := run_endRound (P := P) (pendC j) hrr
      cases j with
      | none =>
        simp only [Option.some.injEq, Prod.mk.injEq] at h
        obtain ⟨rfl, rfl⟩ := h
        obtain ⟨hW2, hE2⟩ := hW.putLoop hat hg hrr hLL .ready none
        exact ⟨_, _, hrun, _, φ', rfl, hW2, hE.trans hw0 hE2, .bool true⟩
      | some j =>
        simp only [Option.some.injEq, Prod.mk.injEq] at h
        obtain ⟨rfl, rfl⟩ := h
        obtain ⟨hW2, hE2⟩ := hW.putLoop hat hg hrr hLL .done (some j)
        cases j with
        | none => exact ⟨_, _, hrun, _, φ', rfl, hW2, hE.trans hw0 hE2, .bool false⟩
        | some i => exact ⟨_, _, hrun, _, φ', rfl, hW2, hE.trans hw0 hE2, .bool false⟩
theorem rnd_sound {KK : List TypeId} (hK : eqGood P KK) (hmix : P.follows .mixedOrders = true) (hcmp : E.cmp = comp P KK) {call : CallF} (hcs : CallSound P E call) (N : Nat) {id : Nat} {args : List Value} {out : Out} (h : rnd E call N id args H = some (out, H'))
    {l hi : Nat} (hw : WR E φ H w) (hat : φ.at_ id 0 = some (l, 0, 0, hi)) {args' : List Value} (hargs : VRs φ args args') :
    ∃ f tmps x y, (Instr.yield l ⟨args'⟩).run P w = .ok (.round l f tmps x y) w ∧ RoundIn Fence.wide 0 P l f tmps x y w (Post E φ H w out H') := by
  unfold rnd at h
  cases hg : H.get id with
  | none => rw [hg] at h; cases h
  | some ob =>
  rw [hg] at h
  cases ob with
  | cells => cases h
  | iter => cases h
  | map => cases h
  | miter => cases h
  | loop st p ct ps a b =>
  simp only at h
  obtain ⟨hlen, h0⟩ := cond_some h
  clear h
  have h := h0
  clear h0
  rw [Nat.beq_eq] at hlen
  obtain ⟨_, _, r, hrr, hLL⟩ := hw.loop_at hat hg
  have hlen2 : (⟨args'⟩ : Array Value).size = r.params.size := by
    have h1 := hargs.length
    have h2 : r.params.toList.length = ps.length := by rw [hLL.params]
    simp at h2 ⊢; omega
  refine ⟨_, _, _, _, run_yield hrr hlen2, ?_⟩
  have hrel : RelT φ (setAll ct ps args) ((r.params.zip (⟨args'⟩ : Array Value)).foldl (fun tmps (t, a) => tmps.setIfInBounds t a) r.tmps) := by
    rw [← hLL.params]; exact setAll_relT hargs hLL.tmps
  generalize (r.params.zip (⟨args'⟩ : Array Value)).foldl (fun tmps (t, a) => tmps.setIfInBounds t a) r.tmps = tm at hrel
  refine round_of_wp ?_
  cases he : exec E call N a (setAll ct ps args, H) with
  | none => rw [he] at h; cases h
  | some r1 =>
  obtain ⟨x1, ct2, H2⟩ := r1
  rw [he] at h
  cases x1 with
  | exit => cases h
  | ret => cases h
  | pan => cases h
  | normal =>
  simp only at h
  rw [← hLL.assign, hcmp] at he
  have hx := exec_sound hK hcs hmix hcmp N (ro := some l) (k := true) (fun _ => rfl) r.assign (fun _ => hLL.noA) _ H { tmps := tm, defers := [] } φ w .normal ct2 H2 he hrel hw
  refine wpIn_mono hx fun e a1 w1 hq => ?_
  cases e with
  | outgrown => exact False.elim hq
  | exit i => obtain ⟨_, _, _, _, hf⟩ := hq; exact hf.elim
  | goto i => obtain ⟨_, _, _, _, hf⟩ := hq; exact hf.elim
  | ret => obtain ⟨_, _, _, _, hf⟩ := hq; exact hf.elim
  | panic i => obtain ⟨_, _, _, _, hf⟩ := hq; exact hf.elim
  | normal =>
  obtain ⟨φ1, _, hW1, hE1, hR1⟩ := hq
  have hat1 := hE1.le.1 _ _ _ hat
  cases hb : begR id H2 with
  | none => rw [hb] at h; cases h
  | some H3 =>
  rw [hb] at h
  simp only at h
  unfold begR at hb
  split at hb
  rotate_left
  · cases hb
  rename_i p2 ct3 ps3 a3 b3 hg2
  simp only [Option.some.injEq] at hb
  subst hb
  obtain ⟨_, _, r2, hrr2, hLL2⟩ := hW1.loop_at hat1 hg2
  have hbeg := run_beginRound (P := P) hrr2 hLL2.state
  obtain ⟨hW2, hE2⟩ := hW1.putLoop hat1 hg2 hrr2 hLL2 .busy p2
  have hrec : ({ r2 with state := .busy } : Loop) = { r2 with state := .busy, pending := pendC p2 } := by rw [← hLL2.pending]
  rw [hrec] at hbeg
  refine ⟨_, hbeg, ?_⟩
  cases he2 : exec E call N b (ct2, H2.put id (.loop .busy p2 ct3 ps3 a3 b3)) with
  | none => rw [he2] at h; cases h
  | some r3 =>
  obtain ⟨x3, ct4, H4⟩ := r3
  rw [he2] at h
  rw [← hLL.body, hcmp] at he2
  have hE12 := hE1.trans hw hE2
  have hx2 := exec_sound hK hcs hmix hcmp N (ro := some l) (k := true) (fun _ => rfl) r.body (fun _ => hLL.noB) _ _ a1 φ1 _ x3 ct4 H4 he2 hR1 hW2
  refine wpIn_mono hx2 fun e a4 w4 hq => ?_
  cases x3 with
  | pan v => cases h
  | normal =>
    cases e with
    | normal =>
      obtain ⟨φ4, _, hW4, hE4, _⟩ := hq
      exact endR_sound (j := none) hW4 (hE4.le.1 _ _ _ hat1) hw (hE12.trans hw hE4) (by simpa only [bodyR] using h)
    | outgrown => exact False.elim hq
    | exit i => obtain ⟨_, _, _, _, hf⟩ := hq; exact hf.elim
    | goto i => obtain ⟨_, _, _, _, hf⟩ := hq; exact hf.elim
    | ret => obtain ⟨_, _, _, _, hf⟩ := hq; exact hf.elim
    | panic i => obtain ⟨_, _, _, _, hf⟩ := hq; exact hf.elim
  | ret =>
    cases e with
    | ret =>
      obtain ⟨φ4, _, hW4, hE4, _⟩ := hq
      exact endR_sound (j := (some none)) hW4 (hE4.le.1 _ _ _ hat1) hw (hE12.trans hw hE4) (by simpa only [bodyR] using h)
    | outgrown => exact False.elim hq
    | exit i => obtain ⟨_, _, _, _, hf⟩ := hq; exact hf.elim
    | goto i => obtain ⟨_, _, _, _, hf⟩ := hq; exact hf.elim
    | normal => obtain ⟨_, _, _, _, hf⟩ := hq; exact hf.elim
    | panic i => obtain ⟨_, _, _, _, hf⟩ := hq; exact hf.elim
  | exit j =>
    cases e with
    | exit i =>
      obtain ⟨φ4, _, hW4, hE4, hij, _⟩ := hq
      subst hij
      exact endR_sound (j := (some (some j))) hW4 (hE4.le.1 _ _ _ hat1) hw (hE12.trans hw hE4) (by simpa only [bodyR] using h)
    | outgrown => exact False.elim hq
    | ret => obtain ⟨_, _, _, _, hf⟩ := hq; exact hf.elim
    | goto i => obtain ⟨_, _, _, _, hf⟩ := hq; exact hf.elim
    | normal => obtain ⟨_, _, _, _, hf⟩ := hq; exact hf.elim
    | panic i => obtain ⟨_, _, _, _, hf⟩ := hq; exact hf.elim
theorem ccall_sound {KK : List TypeId} (hK : eqGood P KK) (hmix : P.follows .mixedOrders = true) (hT : TabOk P KK E) {I : CallF → CallF} (hI : ∀ call, CallSound P E call → CallSound P E (I call)) (N : Nat) : ∀ d, CallSound P E (ccall E I N d) := by
  intro d
  induction d with
  | zero => exact ⟨(fun f args H out H' h => by cases h), (fun f args H out H' h => by cases h)⟩
  | succ d ih =>
    refine ⟨fun f args H out H' h => ?_, fun id args H out H' h φ w args' l hi hw hat hargs => rnd_sound hK hmix hT.cmp ih N h hw hat hargs⟩
    simp only [ccall] at h
    cases hIf : (I (ccall E I N d)).fn f args H with
    | some r =>
      rw [hIf] at h
      simp only [Option.some.injEq] at h
      subst h
      exact (hI _ ih).fn f args H out H' hIf
    | none =>
      rw [hIf] at h
      simp only at h
      cases ht : E.tab.get f with
      | none => rw [ht] at h; cases h
      | some cf =>
        rw [ht] at h
        simp only at h
        obtain ⟨hcf, hpl⟩ := hT.tab f cf ht
        refine ⟨hpl, fun φ w args' hw hargs => ?_⟩
        unfold compF at hcf
        cases hfn : P.funcs[f]? with
        | none => rw [hfn] at hcf; cases hcf
        | some fn =>
          rw [hfn] at hcf
          simp only at hcf
          cases hb : fn.body with
          | none => rw [hb] at hcf; cases hcf
          | some code =>
            rw [hb] at hcf
            simp only at hcf
            cases hr : fn.results.toList.mapM (compRes P) with
            | none => rw [hr] at hcf; cases hcf
            | some cr =>
              rw [hr] at hcf
              simp only [Option.some.injEq] at hcf
              subst hcf
              cases he : exec E (ccall E I N d) N (comp P KK code) (args ++ List.replicate (fn.ntmps - args.length) undef, H) with
              | none => rw [he] at h; cases h
              | some r1 =>
                obtain ⟨x, ct1, H1⟩ := r1
                rw [he] at h
                have hrel : RelT φ (args ++ List.replicate (fn.ntmps - args.length) undef) (⟨args'⟩ ++ Array.replicate (fn.ntmps - (⟨args'⟩ : Array Value).size) undef) := by
                  show VRs φ _ (Array.toList _)
                  have hl : (⟨args'⟩ : Array Value).size = args.length := hargs.length.symm
                  rw [hl]
                  simp only [Array.toList_append, Array.toList_replicate]
                  exact hargs.append (VRs.replicate .undef _)
                have hx := exec_sound hK ih hmix hT.cmp N (ro := none) (k := false) (fun hh => by cases hh) code (fun hh => by cases hh) _ H { tmps := ⟨args'⟩ ++ Array.replicate (fn.ntmps - (⟨args'⟩ : Array Value).size) undef, defers := [] } φ w x ct1 H1 he hrel hw
                refine callsIn_wide.1 (callsIn_of_wp_marks (n := 0) hfn hb trivial (wpIn_mono hx fun e a1 w1 hq => ?_))
                have hfin : ∀ (hfi : finish E ⟨fn.ntmps, comp P KK code, cr⟩ ct1 H1 = some (out, H')) (φ1 : Ren) (hd : Mks false w φ1 w1 [] a1.defers) (hW : WR E φ1 H1 w1) (hE : Ext φ H w φ1 H1 w1) (hR : RelT φ1 ct1 a1.tmps),
                    LeavesInM Fence.wide 0 P fn a1.tmps (Post E φ H w out H') a1.defers .returning w1 := by
                  intro hfi φ1 hd hW hE hR
                  obtain ⟨rs, hds, _, hnd, hrs⟩ := hd
                  rw [List.append_nil] at hds
                  rw [hds]
                  obtain ⟨rfl, v, v', rfl, _, _⟩ := finish_sound (P := P) (fn := fn) hW hR hr hfi
                  refine leaves_marks (by simp) rs φ H w φ1 w1 hnd hrs hW hE fun w2 hW2 hE2 => ?_
                  obtain ⟨_, v2, v2', hv2, hrun, hv⟩ := finish_sound (P := P) (fn := fn) hW2 hR hr hfi
                  exact ⟨v2', hrun, v2, φ1, hv2, hW2, hE2, hv⟩
                cases x with
                | normal =>
                  cases e with
                  | normal => obtain ⟨φ1, hd, hW, hE, hR⟩ := hq; exact hfin h φ1 hd hW hE hR
                  | outgrown => exact False.elim hq
                  | exit i => obtain ⟨_, _, _, _, hf⟩ := hq; exact hf.elim
                  | goto i => obtain ⟨_, _, _, _, hf⟩ := hq; exact hf.elim
                  | ret => obtain ⟨_, _, _, _, hf⟩ := hq; exact hf.elim
                  | panic i => obtain ⟨_, _, _, _, hf⟩ := hq; exact hf.elim
                | ret =>
                  cases e with
                  | ret => obtain ⟨φ1, hd, hW, hE, hR⟩ := hq; exact hfin h φ1 hd hW hE hR
                  | outgrown => exact False.elim hq
                  | exit i => obtain ⟨_, _, _, _, hf⟩ := hq; exact hf.elim
                  | goto i => obtain ⟨_, _, _, _, hf⟩ := hq; exact hf.elim
                  | normal => obtain ⟨_, _, _, _, hf⟩ := hq; exact hf.elim
                  | panic i => obtain ⟨_, _, _, _, hf⟩ := hq; exact hf.elim
                | pan v =>
                  simp only [Option.some.injEq, Prod.mk.injEq] at h
                  obtain ⟨rfl, rfl⟩ := h
                  cases e with
                  | panic ch =>
                    obtain ⟨φ1, ⟨rs, hds, _, hnd, hrs⟩, hW, hE, v', rfl, hV, _⟩ := hq
                    rw [List.append_nil] at hds
                    show LeavesInM Fence.wide 0 P fn a1.tmps (Post E φ H w (.pan v) H1) a1.defers _ w1
                    rw [hds]
                    exact leaves_marks (by simp) rs φ H w φ1 w1 hnd hrs hW hE fun w2 hW2 hE2 => ⟨v, v', φ1, rfl, rfl, hW2, hE2, hV⟩
                  | outgrown => exact False.elim hq
                  | exit i => obtain ⟨_, _, _, _, hf⟩ := hq; exact hf.elim
                  | goto i => obtain ⟨_, _, _, _, hf⟩ := hq; exact hf.elim
                  | normal => obtain ⟨_, _, _, _, hf⟩ := hq; exact hf.elim
                  | ret => obtain ⟨_, _, _, _, hf⟩ := hq; exact hf.elim
                | exit i => cases h
end Go.Cl

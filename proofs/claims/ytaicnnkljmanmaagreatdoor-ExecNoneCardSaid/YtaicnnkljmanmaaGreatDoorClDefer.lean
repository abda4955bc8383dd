/- A function that defers a literal which recovers. -/
import Derived.Test.YtaicnnkljmanmaaGreatDoorClMemo
import Derived.Recover
namespace Go.Cl
open Go
variable {P : Program} {E : Env} {φ φ' : Ren} {H H' : CH} {w w' : World} {KK : List TypeId}

def rcall (E : Env) (call : CallF) (N : Nat) (R : RFun) (args : List Value) (rv : Value) (h : CH) : Option CH :=
  match exec E call N R.rest (cset (args ++ List.replicate (R.ntmps - args.length) undef) R.dst rv, h) with
  | some (.normal, ct, h) => match finish E ⟨R.ntmps, .skip, R.results⟩ ct h with
    | some (.ret _, h) => some h
    | _ => none
  | some (.ret, ct, h) => match finish E ⟨R.ntmps, .skip, R.results⟩ ct h with
    | some (.ret _, h) => some h
    | _ => none
  | _ => none
/-- How a function goes that has deferred a literal: its arguments are l. -/
def dleave (E : Env) (call : CallF) (N : Nat) (D : DFun) (R : RFun) (l : List Value) (r : Option (CExit × St)) : Option (Out × CH) :=
  match r with
  | some (.normal, ct, h) => match rcall E call N R l .nilIface h with
    | some h => finish E ⟨D.ntmps, .skip, D.results⟩ ct h
    | none => none
  | some (.ret, ct, h) => match rcall E call N R l .nilIface h with
    | some h => finish E ⟨D.ntmps, .skip, D.results⟩ ct h
    | none => none
  | some (.pan v, ct, h) => match rcall E call N R l v h with
    | some h => finish E ⟨D.ntmps, .skip, D.results⟩ ct h
    | none => none
  | _ => none
def dcall (E : Env) (N : Nat) (f0 : FuncId) (D : DFun) (g0 : FuncId) (R : RFun) (call : CallF) : CallF := ⟨fun f args h =>
  bif Nat.beq f f0 then
    match exec E call N D.pre (args ++ List.replicate (D.ntmps - args.length) undef, h) with
    | some (.normal, ct, h) =>
      match cpure D.fnop (cev ct) with
      | some fv =>
        match cget (cset ct D.t fv) D.t with
        | .func (.func g) xs cs =>
          bif Nat.beq g g0 then dleave E call N D R (xs.toList ++ cs.toList) (exec E call N D.rest (cset ct D.t fv, h)) else none
        | _ => none
      | _ => none
    | _ => none
  else none, fun _ _ _ => none⟩
theorem asSeq_some {c : Code} {s : Code × Code} (h : asSeq c = some s) : c = .seq s.1 s.2 := by
  unfold asSeq at h; split at h
  · simp only [Option.some.injEq] at h; subst h; rfl
  · cases h
theorem asRg_some {c : Code} {ops : Array Oper} (h : asRg c = some ops) : ∃ id, c = .region id ops false := by
  unfold asRg at h; split at h
  · simp only [Option.some.injEq] at h; subst h; exact ⟨_, rfl⟩
  · cases h
theorem run_recover {ρ : Operand → Value} {o : Oper} (h : asRecover o.op = true) (w : World) : (execOp ρ o).run P w = .ok .recover w := by
  unfold asRecover at h
  split at h
  · rename_i c hop
    unfold isRecover at h
    split at h
    · rename_i hcal
      simp [execOp, hop, resolve, hcal, invoke, builtin]
    · cases h
  · cases h
theorem run_defer {ρ : Operand → Value} {o : Oper} {t : Nat} (h : asDefer o.op = some t) {g : FuncId} {xs cs : Array Value} (hv : ρ (.tmp t) = .func (.func g) xs cs) (w : World) :
    (execOp ρ o).run P w = .ok (.defer { target := .fn (.func g) cs, args := xs ++ #[] }) w := by
  unfold asDefer at h
  split at h
  · rename_i c hop
    obtain ⟨ha, h⟩ := cond_some h
    have hae : c.args = #[] := by simpa using ha
    unfold asTmp at h
    split at h
    · rename_i t' hcal
      simp only [Option.some.injEq] at h
      subst h
      simp [execOp, hop, resolve, hcal, hv, Deferred.ofValue, hae]
    · cases h
  · cases h
/-- What the literal comes to. -/
def RPost (E : Env) (φ : Ren) (H : CH) (w : World) (u1 : FrameMode) (H' : CH) : Ending → FrameMode → World → Prop
  | .returned _, u', w' => u' = u1 ∧ ∃ φ', WR E φ' H' w' ∧ Ext φ H w φ' H' w'
  | .outgrown, _, _ => False
  | _, _, _ => False
theorem rcall_sound (hK : eqGood P KK) {call : CallF} (hcs : CallSound P E call) (hmix : P.follows .mixedOrders = true) (hcmp : E.cmp = comp P KK) {g : FuncId} {R : RFun} (hR : compR P KK g = some R) {N : Nat} {args : List Value} {rv : Value}
    (h : rcall E call N R args rv H = some H') (hw : WR E φ H w) {args' : List Value} (hargs : VRs φ args args') {u u1 : FrameMode} {rv' : Value} (hrv : VR φ rv rv')
    (hu : ∀ (c : Frame) (cs : List Frame), c.mode = u → (recoverD (c :: cs) = none ∧ rv' = .nilIface ∧ u1 = u) ∨ recoverD (c :: cs) = some (rv', { c with mode := u1 } :: cs)) :
    CallsD P g ⟨args'⟩ u w (RPost E φ H w u1 H') := by
  unfold compR at hR
  obtain ⟨fn, hfn, hR⟩ := Option.bind_eq_some_iff.1 hR
  obtain ⟨c, hb, hR⟩ := Option.bind_eq_some_iff.1 hR
  obtain ⟨s1, hs1, hR⟩ := Option.bind_eq_some_iff.1 hR
  obtain ⟨ops, hops, hR⟩ := Option.bind_eq_some_iff.1 hR
  obtain ⟨o1, ho1, hR⟩ := Option.bind_eq_some_iff.1 hR
  obtain ⟨t, ht, hR⟩ := Option.bind_eq_some_iff.1 hR
  obtain ⟨r, hr, hR⟩ := Option.bind_eq_some_iff.1 hR
  obtain ⟨hok, hR⟩ := cond_some hR
  simp only [Option.some.injEq] at hR
  subst hR
  simp only [Bool.and_eq_true, Nat.beq_eq, Option.isNone_iff_eq_none] at hok
  obtain ⟨hsz, hg1, hrec, _, hnf⟩ := hok
  obtain ⟨id, hrg⟩ := asRg_some hops
  have hcode := asSeq_some hs1
  rw [hrg] at hcode
  refine callsD_of_wpS hfn hb fun c₀ cs hm => ?_
  rw [hcode]
  have hl : (⟨args'⟩ : Array Value).size = args.length := hargs.length.symm
  have hrel : RelT φ (args ++ List.replicate (fn.ntmps - args.length) undef) (⟨args'⟩ ++ Array.replicate (fn.ntmps - (⟨args'⟩ : Array Value).size) undef) := by
    show VRs φ _ (Array.toList _)
    rw [hl]
    simp only [Array.toList_append, Array.toList_replicate]
    exact hargs.append (VRs.replicate .undef _)
  generalize hact : ({ tmps := ⟨args'⟩ ++ Array.replicate (fn.ntmps - (⟨args'⟩ : Array Value).size) undef, defers := [] } : Act) = a0
  have hrel0 : RelT φ (args ++ List.replicate (fn.ntmps - args.length) undef) a0.tmps := by rw [← hact]; exact hrel
  have hd0 : a0.defers = [] := by rw [← hact]
  have hrel1 : RelT φ (cset (args ++ List.replicate (fn.ntmps - args.length) undef) t rv) (a0.put (some t) rv').tmps := hrel0.put (some t) hrv
  -- the rest
  have hrest : ∀ cs1, (∃ u', u' = u1 ∧ cs1 = { c₀ with mode := u' } :: cs) → s1.2.wpS P (bodyPostS P fn c₀ cs (RPost E φ H w u1 H')) (a0.put (some t) rv') cs1 w := by
    intro cs1 hcs1
    unfold rcall at h
    simp only at h
    refine wpS_of_wp ?_
    cases he : exec E call N (comp P KK s1.2) (cset (args ++ List.replicate (fn.ntmps - args.length) undef) t rv, H) with
    | none => rw [he] at h; cases h
    | some r1 =>
      obtain ⟨x, ct1, H1⟩ := r1
      rw [he] at h
      have hx := exec_soundQ hK hcs hmix hcmp N s1.2 hnf _ H (a0.put (some t) rv') φ w x ct1 H1 he hrel1 hw
      refine wp_mono hx fun e a1 w1 hq => ?_
      have hfin : ∀ (hfi : (match finish E ⟨fn.ntmps, .skip, r⟩ ct1 H1 with | some (.ret _, h) => some h | _ => none) = some H') (hd : a1.defers = (a0.put (some t) rv').defers) (φ1 : Ren) (hW : WR E φ1 H1 w1) (hE : Ext φ H w φ1 H1 w1) (hRR : RelT φ1 ct1 a1.tmps),
          a1.defers = [] ∧ ∃ u', cs1 = { c₀ with mode := u' } :: cs ∧ ∃ v, (results fn a1.tmps).run P w1 = .ok v w1 ∧ RPost E φ H w u1 H' (.returned v) u' w1 := by
        intro hfi hd φ1 hW hE hRR
        cases hf : finish E ⟨fn.ntmps, .skip, r⟩ ct1 H1 with
        | none => rw [hf] at hfi; cases hfi
        | some q =>
          obtain ⟨out, H2⟩ := q
          obtain ⟨rfl, v, v', rfl, hrun, hv⟩ := finish_sound (P := P) (fn := fn) hW hRR hr hf
          rw [hf] at hfi
          simp only [Option.some.injEq] at hfi
          subst hfi
          obtain ⟨u', hu', hcs1⟩ := hcs1
          exact ⟨by rw [hd, put_defers, hd0], u', hcs1, v', hrun, hu', φ1, hW, hE⟩
      cases x with
      | normal =>
        cases e with
        | normal => obtain ⟨hd, φ1, hW, hE, hRR⟩ := hq; exact hfin h hd φ1 hW hE hRR
        | outgrown => exact False.elim hq
        | exit i => obtain ⟨_, _, _, _, hf⟩ := hq; exact hf.elim
        | goto i => obtain ⟨_, _, _, _, hf⟩ := hq; exact hf.elim
        | ret => obtain ⟨_, _, _, _, hf⟩ := hq; exact hf.elim
        | panic i => obtain ⟨_, _, _, _, hf⟩ := hq; exact hf.elim
      | ret =>
        cases e with
        | ret => obtain ⟨hd, φ1, hW, hE, hRR⟩ := hq; exact hfin h hd φ1 hW hE hRR
        | outgrown => exact False.elim hq
        | exit i => obtain ⟨_, _, _, _, hf⟩ := hq; exact hf.elim
        | goto i => obtain ⟨_, _, _, _, hf⟩ := hq; exact hf.elim
        | normal => obtain ⟨_, _, _, _, hf⟩ := hq; exact hf.elim
        | panic i => obtain ⟨_, _, _, _, hf⟩ := hq; exact hf.elim
      | pan v => cases h
      | exit i => cases h
  refine wpS_seq (wpS_region ?_)
  rw [hsz, show List.range 1 = [0] from rfl]
  simp only [wpOpsS, ho1]
  have hwant : Region.wanted o1 (yielded ops a0.tmps) = true := by unfold Region.wanted; rw [hg1]
  rw [if_pos hwant, run_recover hrec]
  simp only
  rw [ht]
  rcases hu c₀ cs hm with ⟨hn, rfl, rfl⟩ | hs
  · rw [hn]
    exact hrest _ ⟨u1, rfl, by subst hm; rfl⟩
  · rw [hs]
    exact hrest _ ⟨u1, rfl, rfl⟩
theorem dcall_sound (hK : eqGood P KK) {call : CallF} (hcs : CallSound P E call) (hmix : P.follows .mixedOrders = true) (hcmp : E.cmp = comp P KK) {f0 g0 : FuncId} {D : DFun} {R : RFun} (hD : compD P KK f0 = some D) (hR : compR P KK g0 = some R) (hg : plainFn P g0 = true) (N : Nat) :
    CallSound P E (dcall E N f0 D g0 R call) := by
  refine ⟨fun f args H out H' h => ?_, (fun _ _ _ _ _ h => by cases h)⟩
  unfold dcall at h
  obtain ⟨hff, h0⟩ := cond_some h
  clear h
  rw [Nat.beq_eq] at hff
  subst hff
  have h := h0
  clear h0
  unfold compD at hD
  obtain ⟨fn, hfn, hD⟩ := Option.bind_eq_some_iff.1 hD
  obtain ⟨c, hb, hD⟩ := Option.bind_eq_some_iff.1 hD
  obtain ⟨s1, hs1, hD⟩ := Option.bind_eq_some_iff.1 hD
  obtain ⟨s2, hs2, hD⟩ := Option.bind_eq_some_iff.1 hD
  obtain ⟨ops, hops, hD⟩ := Option.bind_eq_some_iff.1 hD
  obtain ⟨o1, ho1, hD⟩ := Option.bind_eq_some_iff.1 hD
  obtain ⟨o2, ho2, hD⟩ := Option.bind_eq_some_iff.1 hD
  obtain ⟨t, ht, hD⟩ := Option.bind_eq_some_iff.1 hD
  obtain ⟨c1, hc1, hD⟩ := Option.bind_eq_some_iff.1 hD
  obtain ⟨q, hq, hD⟩ := Option.bind_eq_some_iff.1 hD
  obtain ⟨t', hdf, hD⟩ := Option.bind_eq_some_iff.1 hD
  obtain ⟨r, hr, hD⟩ := Option.bind_eq_some_iff.1 hD
  obtain ⟨hok, hD⟩ := cond_some hD
  simp only [Option.some.injEq] at hD
  subst hD
  simp only [Bool.and_eq_true, Nat.beq_eq, Option.isNone_iff_eq_none] at hok
  obtain ⟨hsz, hg1, hg2, hd2, rfl, hpl, hnf1, hnf2⟩ := hok
  have hc1' : c1 = .p q := by
    unfold asP at hq
    split at hq
    · simp only [Option.some.injEq] at hq; subst hq; rfl
    · cases hq
  subst hc1'
  obtain ⟨id, hrg⟩ := asRg_some hops
  have hcode := asSeq_some hs1
  have hcode2 := asSeq_some hs2
  rw [hrg] at hcode2
  rw [hcode2] at hcode
  refine ⟨hpl, fun φ w args' hw hargs => ?_⟩
  simp only at h
  have hl : (⟨args'⟩ : Array Value).size = args.length := hargs.length.symm
  have hrel : RelT φ (args ++ List.replicate (fn.ntmps - args.length) undef) (⟨args'⟩ ++ Array.replicate (fn.ntmps - (⟨args'⟩ : Array Value).size) undef) := by
    show VRs φ _ (Array.toList _)
    rw [hl]
    simp only [Array.toList_append, Array.toList_replicate]
    exact hargs.append (VRs.replicate .undef _)
  refine calls_of_wp_defers hfn hb ?_
  rw [hcode]
  cases he : exec E call N (comp P KK s1.1) (args ++ List.replicate (fn.ntmps - args.length) undef, H) with
  | none => rw [he] at h; cases h
  | some r1 =>
    obtain ⟨x, ct1, H1⟩ := r1
    rw [he] at h
    cases x with
    | exit i => cases h
    | ret => cases h
    | pan v => cases h
    | normal =>
      simp only at h
      have hx := exec_soundQ hK hcs hmix hcmp N s1.1 hnf1 _ H { tmps := ⟨args'⟩ ++ Array.replicate (fn.ntmps - (⟨args'⟩ : Array Value).size) undef, defers := [] } φ w .normal ct1 H1 he hrel hw
      refine wp_seq (wp_mono hx fun e a1 w1 hq1 => ?_)
      cases e with
      | outgrown => exact False.elim hq1
      | exit i => obtain ⟨_, _, _, _, hf⟩ := hq1; exact hf.elim
      | goto i => obtain ⟨_, _, _, _, hf⟩ := hq1; exact hf.elim
      | ret => obtain ⟨_, _, _, _, hf⟩ := hq1; exact hf.elim
      | panic i => obtain ⟨_, _, _, _, hf⟩ := hq1; exact hf.elim
      | normal =>
        obtain ⟨hd1, φ1, hW1, hE1, hR1⟩ := hq1
        cases hfv : cpure q (cev ct1) with
        | none => rw [hfv] at h; cases h
        | some fv =>
          rw [hfv] at h
          simp only at h
          obtain ⟨fv', hrunf, hrf⟩ := pure_sound (w := w1) hK hc1 (fun x hx => hR1.ev hx) hfv
          have hR2 : RelT φ1 (cset ct1 t fv) (a1.put (some t) fv').tmps := hR1.put (some t) hrf
          have hev := hR2.ev (x := .tmp t) rfl
          have hcv : cev (cset ct1 t fv) (.tmp t) = cget (cset ct1 t fv) t := rfl
          rw [hcv] at hev
          split at h
          · rename_i g xs cs hfveq
            rw [hfveq] at hev
            obtain ⟨hgg, h0⟩ := cond_some h
            clear h
            rw [Nat.beq_eq] at hgg
            subst hgg
            have h := h0
            clear h0
            generalize hgv : (a1.put (some t) fv').eval (.tmp t) = gv at hev
            cases hev with
            | func _ hxs hcs' =>
              rename_i xsl ysl usl vsl
              have hargs2 : VRs φ1 (xsl ++ usl) (ysl ++ vsl) := hxs.append hcs'
              refine wp_seq (wp_region ?_)
              rw [hsz, show List.range 2 = [0, 1] from rfl]
              simp only [wpOps, ho1, ho2]
              have hw1' : ∀ a : Act, Region.wanted o1 (yielded ops a.tmps) = true := fun a => by unfold Region.wanted; rw [hg1]
              have hw2' : ∀ a : Act, Region.wanted o2 (yielded ops a.tmps) = true := fun a => by unfold Region.wanted; rw [hg2]
              rw [if_pos (hw1' _)]
              left
              unfold Oper.wp
              rw [hrunf, Oper.upon_value, if_pos (hw2' _), ht]
              left
              rw [run_defer hdf hgv, Oper.upon_defer, hd2]
              -- the rest
              cases hr2 : exec E call N (comp P KK s2.2) (cset ct1 t fv, H1) with
              | none => rw [hr2] at h; cases h
              | some r2 =>
                obtain ⟨x2, ct2, H2⟩ := r2
                rw [hr2] at h
                generalize hdd : ({ target := .fn (.func g) ⟨vsl⟩, args := ⟨ysl⟩ ++ #[] } : Deferred) = dd
                have hds : (a1.put (some t) fv').defers = [] := by rw [put_defers, hd1]
                rw [hds]
                have hx2 := exec_soundQ hK hcs hmix hcmp N s2.2 hnf2 _ H1 { a1.put (some t) fv' with defers := [dd] } φ1 w1 x2 ct2 H2 hr2 hR2 hW1
                show s2.2.wp P _ { a1.put (some t) fv' with defers := [dd] } w1
                refine wp_mono hx2 fun e a3 w3 hq3 => ?_
                -- leaving
                have hleave : ∀ (u u1 : FrameMode) (rv rv' : Value) (φ3 : Ren), u ≠ .run → settle u1 = .returning → (∀ (c : Frame) (cs : List Frame), c.mode = u → (recoverD (c :: cs) = none ∧ rv' = .nilIface ∧ u1 = u) ∨ recoverD (c :: cs) = some (rv', { c with mode := u1 } :: cs)) →
                    VR φ3 rv rv' → WR E φ3 H2 w3 → Ext φ1 H1 w1 φ3 H2 w3 → RelT φ3 ct2 a3.tmps → a3.defers = [dd] →
                    (match rcall E call N R (xsl ++ usl) rv H2 with | some h => finish E ⟨fn.ntmps, .skip, r⟩ ct2 h | none => none) = some (out, H') →
                    Leaves P fn a3.tmps (Post E φ H w out H') a3.defers u w3 := by
                  intro u u1 rv rv' φ3 hu hset hrec hrv hW3 hE3 hR3 hd3 hh
                  cases hrc : rcall E call N R (xsl ++ usl) rv H2 with
                  | none => rw [hrc] at hh; cases hh
                  | some H3 =>
                    rw [hrc] at hh
                    rw [hd3, ← hdd]
                    refine leaves_cons (f := g) (args := (⟨ysl⟩ ++ #[]) ++ ⟨vsl⟩) hu ?_ ?_
                    · simp only [invoke]; exact run_callFunc hg _
                    · have hC := rcall_sound hK hcs hmix hcmp hR hrc hW3 (hargs2.mono hE3.le) (u := u) (u1 := u1) hrv hrec
                      have eqa : (⟨ysl ++ vsl⟩ : Array Value) = (⟨ysl⟩ ++ #[]) ++ ⟨vsl⟩ := by apply Array.toList_inj.1; simp
                      rw [eqa] at hC
                      refine hC.mono fun e4 u4 w4 he4 => ?_
                      cases e4 with
                      | outgrown => exact False.elim he4
                      | panicked ch => exact he4.elim
                      | returned v4 =>
                        obtain ⟨rfl, φ4, hW4, hE4⟩ := he4
                        show Leaves P fn a3.tmps (Post E φ H w out H') [] (settle u4) w4
                        rw [hset]
                        obtain ⟨rfl, v, v', rfl, hrun, hv⟩ := finish_sound (P := P) (fn := fn) hW4 (hR3.mono hE4.le) hr hh
                        exact ⟨v', hrun, v, φ4, rfl, hW4, (hE1.trans hw (hE3.trans hW1 hE4)), hv⟩
                cases x2 with
                | exit i => cases h
                | normal =>
                  cases e with
                  | normal =>
                    obtain ⟨hd3, φ3, hW3, hE3, hR3⟩ := hq3
                    exact hleave .returning .returning .nilIface .nilIface φ3 (by simp) rfl (fun c cs hm => .inl ⟨by simp [recoverD, hm], rfl, rfl⟩) .nilIface hW3 hE3 hR3 hd3 h
                  | outgrown => exact False.elim hq3
                  | exit i => obtain ⟨_, _, _, _, hf⟩ := hq3; exact hf.elim
                  | goto i => obtain ⟨_, _, _, _, hf⟩ := hq3; exact hf.elim
                  | ret => obtain ⟨_, _, _, _, hf⟩ := hq3; exact hf.elim
                  | panic i => obtain ⟨_, _, _, _, hf⟩ := hq3; exact hf.elim
                | ret =>
                  cases e with
                  | ret =>
                    obtain ⟨hd3, φ3, hW3, hE3, hR3⟩ := hq3
                    exact hleave .returning .returning .nilIface .nilIface φ3 (by simp) rfl (fun c cs hm => .inl ⟨by simp [recoverD, hm], rfl, rfl⟩) .nilIface hW3 hE3 hR3 hd3 h
                  | outgrown => exact False.elim hq3
                  | exit i => obtain ⟨_, _, _, _, hf⟩ := hq3; exact hf.elim
                  | goto i => obtain ⟨_, _, _, _, hf⟩ := hq3; exact hf.elim
                  | normal => obtain ⟨_, _, _, _, hf⟩ := hq3; exact hf.elim
                  | panic i => obtain ⟨_, _, _, _, hf⟩ := hq3; exact hf.elim
                | pan v =>
                  cases e with
                  | panic ch =>
                    obtain ⟨hd3, φ3, hW3, hE3, v3, rfl, hV3, hR3⟩ := hq3
                    exact hleave (.panicking [{ v := v3, recovered := false }]) (.panicking [{ v := v3, recovered := true }]) v v3 φ3 (by simp) rfl (fun c cs hm => .inr (by simp [recoverD, hm])) hV3 hW3 hE3 hR3 hd3 h
                  | outgrown => exact False.elim hq3
                  | exit i => obtain ⟨_, _, _, _, hf⟩ := hq3; exact hf.elim
                  | goto i => obtain ⟨_, _, _, _, hf⟩ := hq3; exact hf.elim
                  | normal => obtain ⟨_, _, _, _, hf⟩ := hq3; exact hf.elim
                  | ret => obtain ⟨_, _, _, _, hf⟩ := hq3; exact hf.elim
          · cases h
end Go.Cl

/- Code whose ranges over maps go in all orders: one of the runs is the machine's. -/
import Derived.Test.YtaicnnkljmanmaaGreatDoorClNd2
namespace Go.Cl
open Go
variable {P : Program} {E : Env} {φ φ' : Ren} {H H' : CH} {w w' : World} {ro : Option Nat} {k : Bool}

theorem mnextL_sound (hw : WR E φ H w) {it it' : Value} {ty : TypeId} {l : List (Value × CH)} (hit : VR φ it it') (h : mnextL H it = some l) :
    ∃ x ∈ l, ∃ v' w', (Instr.next it' false ty).run P w = .ok v' w' ∧ WR E φ x.2 w' ∧ Ext φ H w φ x.2 w' ∧ VR φ x.1 v' := by
  unfold mnextL at h
  split at h
  · rename_i v h' hm
    simp only [Option.some.injEq] at h
    subst h
    obtain ⟨v1, v', w', hv, hrun, hW, hE, hV⟩ := eMnext_sound (P := P) (ty := ty) hw hit hm
    injection hv with hv
    subst hv
    exact ⟨_, List.mem_cons_self, v', w', hrun, hW, hE, hV⟩
  · exact eMnextL_sound hw hit h
theorem mnext_wp {K : List TypeId} (hw : WR E φ H w) {o : Oper} {c : COp} (hc : compOp P K o = some c) {it : Operand} (hm : asMnext c = some it) {ρc : Operand → Value} {a : Act}
    (hr : ∀ x, okO x = true → VR φ (ρc x) (a.eval x)) {l : List (Value × CH)} (h : mnextL H (ρc it) = some l) {next : Act → World → Prop} {Q : Exit → Act → World → Prop}
    (hn : ∀ x ∈ l, ∀ v' w', WR E φ x.2 w' → Ext φ H w φ x.2 w' → VR φ x.1 v' → next (a.put o.dst v') w') : o.wpIn (FR ro) 0 P a w next Q := by
  have hnd := compOp_nd hc
  refine wpI_of hnd ?_
  unfold asMnext at hm
  split at hm
  rotate_left
  · cases hm
  rename_i b it0
  injection hm with hm
  subst hm
  cases hop : o.op <;> simp only [compOp, hop, reduceCtorEq] at hc
  case next x str =>
    obtain ⟨h1, h2⟩ := gd_some hc
    injection h2 with h2 h3
    cases str with
    | true => simp only [cond_true, reduceCtorEq] at h3
    | false =>
      simp only [cond_false, EOp.mnext.injEq] at h3
      subst h3
      obtain ⟨y, hy, v', w', hrun, hW, hE, hV⟩ := mnextL_sound (P := P) (ty := o.type) hw (hr _ h1) h
      have hrun' : (execOp a.eval o).run P w = .ok (.value v') w' := by simp [execOp, hop, hrun]
      rw [hrun', Oper.uponIn_value]
      exact hn y hy v' w' hW hE hV
  case call cl =>
    exfalso
    unfold compCall at hc
    repeat' split at hc
    all_goals (simp only [Option.bind_eq_some_iff, gd_eq, Option.some.injEq, reduceCtorEq, and_false, exists_false, COp.e.injEq] at hc)
  case binOp op t x y yt =>
    exfalso
    cases hb : isBasic (P.underlying t) <;> cases ha : isAny (P.underlying t) <;> rw [hb, ha] at hc <;> cases op <;> simp [gd_eq, Option.bind_eq_some_iff] at hc
  case makeMap t r => cases r <;> simp at hc
  all_goals (
    exfalso
    repeat' split at hc
    all_goals (first | (simp only [Option.bind_eq_some_iff, Option.map_eq_some_iff, gd_eq, cond_eq_some, Option.some.injEq, reduceCtorEq, and_false, exists_false, COp.e.injEq] at hc; done) | (cases hc; done)))
theorem compOps_drop {K : List TypeId} {ops : Array Oper} {c : COper} {os : List COper} {i : Nat} (hc : compOps P K ops (ops.toList.drop i) = some (c :: os)) :
    ∃ o, ops[i]? = some o ∧ i < ops.size ∧ compOper P K ops o = some c ∧ compOps P K ops (ops.toList.drop (i + 1)) = some os := by
  cases hd : ops.toList.drop i with
  | nil => rw [hd] at hc; simp [compOps] at hc
  | cons o r =>
    rw [hd] at hc
    simp only [compOps] at hc
    cases h1 : compOper P K ops o with
    | none => rw [h1] at hc; simp at hc
    | some c1 =>
      rw [h1] at hc
      cases h2 : compOps P K ops r with
      | none => rw [h2] at hc; simp at hc
      | some cs1 =>
        rw [h2] at hc
        simp only [Option.some.injEq, List.cons.injEq] at hc
        obtain ⟨rfl, rfl⟩ := hc
        have hlt : i < ops.size := by
          have := congrArg List.length hd; simp at this; omega
        have ho : ops[i]? = some o := by
          rw [← Array.getElem?_toList, ← List.head?_drop, hd]; rfl
        have hr1 : ops.toList.drop (i + 1) = r := by
          rw [← List.tail_drop, hd]; rfl
        exact ⟨o, ho, hlt, h1, by rw [hr1]; exact h2⟩
theorem copsL_wp {K : List TypeId} (hK : eqGood P K) {call : CallF} (hcs : CallSound P E call) {ops : Array Oper} : ∀ (os : List COper) (i : Nat) (a : Act) (φ : Ren) (H : CH) (w : World) (ct : List Value) (L : List R1),
    compOps P K ops (ops.toList.drop i) = some os → RelT φ ct a.tmps → WR E φ H w → copsL E call os ct H = some L →
    wpOpsIn (FR ro) 0 P ops (SpecL k E φ H w a.defers L) (List.range' i (ops.size - i)) a w := by
  intro os
  induction os with
  | nil =>
    intro i a φ H w ct L hc ht hw h
    simp only [copsL, Option.some.injEq] at h
    subst h
    have := cops_wp (ro := ro) hK hcs [] i a φ H w ct ct .normal H hc ht hw rfl
    exact wpOps_mono' (fun e a2 w2 hq => ⟨_, List.mem_cons_self, SpecM.ofQ e a2 w2 hq⟩) _ _ _ this
  | cons c os ih =>
    intro i a φ H w ct L hc ht hw h
    obtain ⟨o, ho, hlt, h1, h2⟩ := compOps_drop hc
    have hsz : ops.size - i = (ops.size - (i + 1)) + 1 := by omega
    rw [hsz, List.range'_succ]
    simp only [wpOpsIn, ho]
    obtain ⟨hwant, hcop, hdst⟩ := wanted_eq (P := P) ht h1
    simp only [copsL] at h
    rw [hwant]
    cases hwt : Cl.wanted c.guard ct with
    | true =>
      rw [hwt] at h
      simp only [cond_true] at h
      rw [if_pos rfl]
      cases hm : asMnext c.op with
      | some it =>
        rw [hm] at h
        simp only at h
        have hcop := hcop.resolve_left (fun hb => by rw [hb] at hm; cases hm)
        cases hl : mnextL H (cev ct it) with
        | none => rw [hl] at h; cases h
        | some l =>
          rw [hl] at h
          simp only at h
          refine mnext_wp hw hcop hm (fun x hx => ht.ev hx) hl (fun x hx v' w1 hW hE hV => ?_)
          obtain ⟨m, hmx, hsub⟩ := catL_mem h hx
          have hrel : RelT φ (cput c.dst x.1 ct) (a.put o.dst v').tmps := by rw [hdst]; exact ht.put o.dst hV
          have hih := ih (i + 1) (a.put o.dst v') φ x.2 w1 _ m h2 hrel hW hmx
          rw [put_defers] at hih
          exact wpOps_mono' (fun e a2 w2 hq => SpecL.sub hsub (SpecL.trans hw hE (Mks.refl _ _ _ _ _) hq)) _ _ _ hih
      | none =>
        rw [hm] at h
        simp only at h
        cases hop : cop E call c.op (cev ct) H with
        | none => rw [hop] at h; simp at h
        | some r1 =>
          have hcop := hcop.resolve_left (fun hb => by rw [hb] at hop; cases hop)
          obtain ⟨out, H1⟩ := r1
          rw [hop] at h
          cases out with
          | ret v =>
            refine op_wp hK hcs hw hcop (fun x hx => ht.ev hx) hop (fun v1 v' w1 φ1 hv hW hE hV => ?_) (fun v1 v' w1 φ1 hv => by cases hv)
            injection hv with hv; subst hv
            have hrel : RelT φ1 (cput c.dst v ct) (a.put o.dst v').tmps := by rw [hdst]; exact (ht.mono hE.le).put o.dst hV
            have hih := ih (i + 1) (a.put o.dst v') φ1 H1 w1 _ L h2 hrel hW h
            rw [put_defers] at hih
            exact wpOps_mono' (fun e a2 w2 hq => SpecL.trans hw hE (Mks.refl _ _ _ _ _) hq) _ _ _ hih
          | pan v =>
            simp only [Option.some.injEq] at h
            subst h
            refine op_wp hK hcs hw hcop (fun x hx => ht.ev hx) hop (fun v1 v' w1 φ1 hv => by cases hv) (fun v1 v' w1 φ1 hv hW hE hV => ?_)
            injection hv with hv; subst hv
            exact ⟨_, List.mem_cons_self, φ1, .refl _ _ _ _ _, hW, hE, v', rfl, hV, ht.mono hE.le⟩
    | false =>
      rw [hwt] at h
      simp only [cond_false] at h
      rw [if_neg (by simp)]
      have hrel : RelT φ (cput c.dst undef ct) (a.put o.dst undef).tmps := by rw [hdst]; exact ht.put o.dst .undef
      have hih := ih (i + 1) (a.put o.dst undef) φ H w _ L h2 hrel hw h
      rw [put_defers] at hih
      exact ⟨fun _ _ => trivial, hih⟩
theorem execL_sound {KK : List TypeId} (hK : eqGood P KK) {call : CallF} (hcs : CallSound P E call) (hmix : P.follows .mixedOrders = true) (N : Nat) : ∀ (code : Code)
    (ct : List Value) (H : CH) (a : Act) (φ : Ren) (w : World) (L : List R1), execL E call N (comp P KK code) (ct, H) = some L → RelT φ ct a.tmps → WR E φ H w → code.wpIn (FR ro) 0 P (SpecL k E φ H w a.defers L) a w := by
  intro code
  induction code with
  | skip =>
    intro ct H a φ w L h ht hw
    simp only [comp, execL, Option.some.injEq] at h
    subst h
    exact wpIn_skip ⟨_, List.mem_cons_self, φ, .refl _ _ _ _ _, hw, .refl _ _ _, ht⟩
  | label l =>
    intro ct H a φ w L h ht hw
    simp only [comp, execL, Option.some.injEq] at h
    subst h
    exact wpIn_label ⟨_, List.mem_cons_self, φ, .refl _ _ _ _ _, hw, .refl _ _ _, ht⟩
  | region id ops d =>
    intro ct H a φ w L h ht hw
    cases d with
    | false =>
      simp only [comp] at h
      split at h
      rotate_left
      · simp only [execL, reduceCtorEq] at h
      rename_i os hos
      simp only [execL] at h
      have := copsL_wp (P := P) (ro := ro) (k := k) hK hcs os 0 a φ H w ct L (by simpa using hos) ht hw h
      refine wpIn_region ?_
      rw [List.range_eq_range']
      exact this
    | true =>
      simp only [comp] at h
      split at h
      rotate_left
      · simp only [execL, reduceCtorEq] at h
      rename_i os hos
      simp only [execL] at h
      cases hd : rdrawn E call os ct H with
      | none => rw [hd] at h; cases h
      | some s =>
        obtain ⟨ct1, H1⟩ := s
        rw [hd] at h
        simp only [Option.some.injEq] at h
        subst h
        exact wpIn_mono (drawn_wp hK hcs hmix hos ht hw hd id) fun e a w hq => ⟨_, List.mem_cons_self, SpecM.ofQ e a w hq⟩
  | seq x y ihx ihy =>
    intro ct H a φ w L h ht hw
    simp only [comp, execL] at h
    cases h1 : execL E call N (comp P KK x) (ct, H) with
    | none => rw [h1] at h; cases h
    | some l =>
      rw [h1] at h
      simp only at h
      refine wpIn_seq (wpIn_mono (ihx ct H a φ w l h1 ht hw) fun e a1 w1 hq => ?_)
      exact goL_spec h hq (fun ct1 H1 m φ1 hm hsub hd hW hE hR => wpIn_mono (ihy ct1 H1 a1 φ1 w1 m hm hR hW) fun e a w hq => SpecL.sub hsub (SpecL.trans hw hE hd hq)) (fun e _ h => h)
  | cond cc x y ihx ihy =>
    intro ct H a φ w L h ht hw
    simp only [comp] at h
    have hok : okO cc = true := by
      cases hq : okO cc with
      | true => rfl
      | false => rw [hq] at h; simp only [cond_false, execL, reduceCtorEq] at h
    rw [hok] at h
    simp only [cond_true, execL] at h
    have hv := ht.ev hok
    cases hce : cev ct cc <;> rw [hce] at h hv <;> try (cases h; done)
    rename_i b
    generalize hae : a.eval cc = av at hv
    cases hv
    cases b with
    | true => exact wpIn_cond_true hae (ihx ct H a φ w L h ht hw)
    | false => exact wpIn_cond_false hae (ihy ct H a φ w L h ht hw)
  | block id b ih =>
    intro ct H a φ w L h ht hw
    simp only [comp, execL] at h
    cases h1 : execL E call N (comp P KK b) (ct, H) with
    | none => rw [h1] at h; cases h
    | some l =>
      rw [h1] at h
      simp only [Option.some.injEq] at h
      subst h
      refine wpIn_block (wpIn_mono (ih ct H a φ w l h1 ht hw) fun e a1 w1 ⟨⟨x, ct1, H1⟩, hr, hs⟩ => ?_)
      have hmem : blockL id (x, ct1, H1) ∈ l.map (blockL id) := List.mem_map_of_mem hr
      rcases hs.shape with ⟨h1, rfl⟩ | ⟨i, h1, rfl⟩ | ⟨h1, rfl⟩ | ⟨v, ch, h1, rfl⟩
      · have h1 : x = .normal := h1
        subst h1
        exact ⟨_, hmem, hs⟩
      · have h1 : x = .exit i := h1
        subst h1
        simp only [Exit.inBlock]
        cases hbi : Nat.beq i id with
        | true =>
          simp only [blockL, hbi, cond_true] at hmem
          rw [Nat.beq_eq] at hbi
          rw [if_pos hbi]
          obtain ⟨φ1, hd, hW, hE, _, hR⟩ := hs
          exact ⟨_, hmem, φ1, hd, hW, hE, hR⟩
        | false =>
          simp only [blockL, hbi, cond_false] at hmem
          have : i ≠ id := fun hh => by rw [hh, Nat.beq_refl] at hbi; cases hbi
          rw [if_neg this]
          exact ⟨_, hmem, hs⟩
      · have h1 : x = .ret := h1
        subst h1
        exact ⟨_, hmem, hs⟩
      · have h1 : x = .pan v := h1
        subst h1
        exact ⟨_, hmem, hs⟩
  | loop b ih =>
    intro ct H a φ w L h ht hw
    simp only [comp, execL] at h
    have key : ∀ (n : Nat) (ct : List Value) (H : CH) (a : Act) (φ : Ren) (w : World) (L : List R1), loopL n (execL E call N (comp P KK b)) (ct, H) = some L → RelT φ ct a.tmps → WR E φ H w →
        roundsI (FR ro) 0 P b (SpecL k E φ H w a.defers L) n a w := by
      intro n
      induction n with
      | zero => intro ct H a φ w L h; cases h
      | succ n ihn =>
        intro ct H a φ w L h ht hw
        simp only [loopL] at h
        cases h1 : execL E call N (comp P KK b) (ct, H) with
        | none => rw [h1] at h; cases h
        | some l =>
          rw [h1] at h
          simp only at h
          rw [roundsI_succ]
          refine wpIn_mono (ih ct H a φ w l h1 ht hw) fun e a1 w1 hq => ?_
          exact goL_spec h hq (fun ct1 H1 m φ1 hm hsub hd hW hE hR => roundsI_mono (fun e a w hq => SpecL.sub hsub (SpecL.trans hw hE hd hq)) n a1 w1 (ihn ct1 H1 a1 φ1 w1 m hm hR hW)) (fun e _ h => h)
    exact wpIn_loop_rounds N (key N ct H a φ w L h ht hw)
  | exit id =>
    intro ct H a φ w L h ht hw
    simp only [comp, execL, Option.some.injEq] at h
    subst h
    exact wpIn_exit ⟨_, List.mem_cons_self, φ, .refl _ _ _ _ _, hw, .refl _ _ _, rfl, ht⟩
  | scope b ih =>
    intro ct H a φ w L h ht hw
    simp only [comp, execL] at h
    refine wpIn_scope (wpIn_mono (ih ct H a φ w L h ht hw) fun e a1 w1 hq => ?_)
    cases e with
    | goto i => obtain ⟨r, _, hs⟩ := hq; rcases hs.shape with ⟨_, h⟩ | ⟨_, _, h⟩ | ⟨_, h⟩ | ⟨_, _, _, h⟩ <;> cases h
    | _ => exact hq
  | ret =>
    intro ct H a φ w L h ht hw
    simp only [comp, execL, Option.some.injEq] at h
    subst h
    exact wpIn_ret ⟨_, List.mem_cons_self, φ, .refl _ _ _ _ _, hw, .refl _ _ _, ht⟩
  | rangeFunc g ps x y =>
    intro ct H a φ w L h ht hw
    simp only [comp] at h
    cases hb : okO g && (noRf x && noRf y) <;> rw [hb] at h <;> simp [execL] at h
  | _ =>
    intro ct H a φ w L h ht hw
    simp [comp, execL] at h
end Go.Cl

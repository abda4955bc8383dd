/- The faster evaluator answers as the other does. -/
import Derived.Test.YtaicnnkljmanmaaGreatDoorClFast
import Derived.Test.YtaicnnkljmanmaaGreatDoorClDefer
namespace Go.Cl
open Go
theorem boolrec {α : Type} (a b : α) (c : Bool) : @Bool.rec (fun _ => α) b a c = bif c then a else b := by cases c <;> rfl
theorem fget_zero (l : Tr Value) (v : Option Value) (r : Tr Value) : fget (.node l v r) 0 = v.getD undef := by cases v <;> rfl
theorem fget_succ (l : Tr Value) (v : Option Value) (r : Tr Value) (m : Nat) : fget (.node l v r) (m + 1) = bif Nat.beq (m % 2) 0 then fget l (m / 2) else fget r (m / 2) := by
  show @Bool.rec (fun _ => Value) (fget r (m / 2)) (fget l (m / 2)) (Nat.beq (m % 2) 0) = _
  exact boolrec _ _ _
theorem get_zero {α : Type} (l : Tr α) (v : Option α) (r : Tr α) : (Tr.node l v r).get 0 = v := rfl
theorem get_succ {α : Type} (l : Tr α) (v : Option α) (r : Tr α) (m : Nat) : (Tr.node l v r).get (m + 1) = bif Nat.beq (m % 2) 0 then l.get (m / 2) else r.get (m / 2) := by
  have h0 : Nat.beq (m + 1) 0 = false := rfl
  simp only [Tr.get, h0, cond_false]
  by_cases hm : m % 2 = 0
  · have h1 : Nat.beq (m % 2) 0 = true := by rw [Nat.beq_eq]; exact hm
    have h2 : Nat.beq ((m + 1) % 2) 1 = true := by rw [Nat.beq_eq]; omega
    rw [h1, h2]
    simp only [cond_true]
    rw [show (m + 1) / 2 = m / 2 from by omega]
  · have h1 : Nat.beq (m % 2) 0 = false := by rw [← Bool.not_eq_true, Nat.beq_eq]; exact hm
    have h2 : Nat.beq ((m + 1) % 2) 1 = false := by rw [← Bool.not_eq_true, Nat.beq_eq]; omega
    rw [h1, h2]
    simp only [cond_false]
    rw [show (m + 1) / 2 - 1 = m / 2 from by omega]
theorem fget_eq (t : Tr Value) : ∀ j, fget t j = (t.get j).getD undef := by
  induction t with
  | leaf => intro j; rfl
  | node l v r ihl ihr =>
    intro j
    cases j with
    | zero => rw [fget_zero, get_zero]
    | succ m =>
      rw [fget_succ, get_succ]
      cases Nat.beq (m % 2) 0
      · exact ihr _
      · exact ihl _
theorem fset_zero (l : Tr Value) (v : Option Value) (r : Tr Value) (x : Value) : fset (.node l v r) 0 x = .node l (some x) r := rfl
theorem fset_succ (l : Tr Value) (v : Option Value) (r : Tr Value) (m : Nat) (x : Value) : fset (.node l v r) (m + 1) x = bif Nat.beq (m % 2) 0 then .node (fset l (m / 2) x) v r else .node l v (fset r (m / 2) x) := by
  show @Bool.rec (fun _ => Tr Value) (.node l v (fset r (m / 2) x)) (.node (fset l (m / 2) x) v r) (Nat.beq (m % 2) 0) = _
  exact boolrec _ _ _
theorem get_fset (t : Tr Value) : ∀ k x j, (fset t k x).get j = if j = k then some x else t.get j := by
  induction t with
  | leaf => intro k x j; exact Tr.get_set .leaf k x j
  | node l v r ihl ihr =>
    intro k x j
    cases k with
    | zero =>
      rw [fset_zero]
      cases j with
      | zero => rw [get_zero, if_pos rfl]
      | succ m => rw [get_succ, if_neg (by omega), get_succ]
    | succ m =>
      rw [fset_succ]
      cases hm : Nat.beq (m % 2) 0 with
      | true =>
        rw [Nat.beq_eq] at hm
        simp only [cond_true]
        cases j with
        | zero => rw [get_zero, if_neg (by omega), get_zero]
        | succ i =>
          rw [get_succ, get_succ]
          cases hi : Nat.beq (i % 2) 0 with
          | true =>
            rw [Nat.beq_eq] at hi
            simp only [cond_true]
            rw [ihl]
            have : i / 2 = m / 2 ↔ i + 1 = m + 1 := by omega
            simp only [this]
          | false =>
            have hi : i % 2 ≠ 0 := fun h => by rw [← Nat.beq_eq, hi] at h; cases h
            simp only [cond_false]
            rw [if_neg (by omega)]
      | false =>
        have hm : m % 2 ≠ 0 := fun h => by rw [← Nat.beq_eq, hm] at h; cases h
        simp only [cond_false]
        cases j with
        | zero => rw [get_zero, if_neg (by omega), get_zero]
        | succ i =>
          rw [get_succ, get_succ]
          cases hi : Nat.beq (i % 2) 0 with
          | true =>
            rw [Nat.beq_eq] at hi
            simp only [cond_true]
            rw [if_neg (by omega)]
          | false =>
            have hi : i % 2 ≠ 0 := fun h => by rw [← Nat.beq_eq, hi] at h; cases h
            simp only [cond_false]
            rw [ihr]
            have : i / 2 = m / 2 ↔ i + 1 = m + 1 := by omega
            simp only [this]
theorem fget_fset (t : Tr Value) (k : Nat) (x : Value) (j : Nat) : fget (fset t k x) j = if j = k then x else fget t j := by
  rw [fget_eq, get_fset, fget_eq]
  by_cases h : j = k <;> simp [h]
theorem CT.get_eq (c : CT) (i : Nat) : c.get i = if i < c.n then fget c.t i else undef := by
  unfold CT.get
  rw [boolrec]
  cases h : Nat.blt i c.n with
  | true =>
    have : i < c.n := by unfold Nat.blt at h; rw [Nat.ble_eq] at h; exact h
    rw [if_pos this]; rfl
  | false =>
    have : ¬ i < c.n := fun h' => by unfold Nat.blt at h; rw [← Bool.not_eq_true, Nat.ble_eq] at h; exact h h'
    rw [if_neg this]; rfl
theorem CT.toList_length (c : CT) : c.toList.length = c.n := by simp [CT.toList]
theorem CT.cget_toList (c : CT) (i : Nat) : cget c.toList i = c.get i := by
  rw [cget_eq, CT.toList, List.getD_eq_getElem?_getD, List.getElem?_map]
  by_cases h : i < c.n
  · rw [List.getElem?_range h]; rfl
  · rw [List.getElem?_eq_none (by simp; omega), CT.get_eq, if_neg h]; rfl
theorem list_ext {a b : List Value} (hl : a.length = b.length) (h : ∀ i, i < a.length → cget a i = cget b i) : a = b := by
  apply List.ext_getElem hl
  intro i h1 h2
  have := h i h1
  rw [cget_eq, cget_eq, List.getD_eq_getElem?_getD, List.getD_eq_getElem?_getD, List.getElem?_eq_getElem h1, List.getElem?_eq_getElem h2] at this
  exact this
theorem CT.set_toList (c : CT) (i : Nat) (v : Value) : (c.set i v).toList = cset c.toList i v := by
  rw [cset_set]
  apply list_ext
  · rw [List.length_set, CT.toList_length, CT.toList_length]; rfl
  · intro j hj
    rw [CT.toList_length] at hj
    have hj : j < c.n := hj
    rw [CT.cget_toList, CT.get_eq, if_pos (show j < (c.set i v).n from hj)]
    show fget (fset c.t i v) j = _
    rw [fget_fset, cget_eq, List.getD_eq_getElem?_getD, List.getElem?_set]
    by_cases h : j = i
    · subst h
      have hj' : j < c.n := by assumption
      simp [CT.toList_length, hj']
    · rw [if_neg h, if_neg (fun e => h e.symm), ← List.getD_eq_getElem?_getD, ← cget_eq, CT.cget_toList, CT.get_eq, if_pos hj]
theorem cputF_toList (d : Option Nat) (v : Value) (c : CT) : (cputF d v c).toList = cput d v c.toList := by
  cases d with
  | none => rfl
  | some i => exact CT.set_toList c i v
theorem fget_skel (d j : Nat) : fget (skel d) j = undef := by
  induction d generalizing j with
  | zero => rfl
  | succ d ih =>
    show fget (.node (skel d) none (skel d)) j = undef
    cases j with
    | zero => rfl
    | succ m => rw [fget_succ]; cases Nat.beq (m % 2) 0 <;> exact ih _
theorem fget_fills (l : List Value) : ∀ (i : Nat) (t : Tr Value) (j : Nat), fget (fills l i t) j = if i ≤ j ∧ j < i + l.length then cget l (j - i) else fget t j := by
  induction l with
  | nil =>
    intro i t j
    have : ¬ (i ≤ j ∧ j < i + ([] : List Value).length) := by simp only [List.length_nil]; omega
    rw [if_neg this]; rfl
  | cons v l ih =>
    intro i t j
    show fget (fills l (i + 1) (fset t i v)) j = _
    rw [ih, fget_fset]
    by_cases h : j = i
    · subst h
      rw [if_neg (by omega), if_pos rfl, if_pos (by simp)]
      simp [cget]
    · rw [if_neg h]
      by_cases h1 : i + 1 ≤ j ∧ j < i + 1 + l.length
      · rw [if_pos h1, if_pos (by simp; omega)]
        rw [show j - i = (j - (i + 1)) + 1 from by omega]
        simp [cget]
      · rw [if_neg h1, if_neg (by simp; omega)]
theorem CT.of_toList (args : List Value) (n : Nat) : (CT.of args n).toList = args ++ List.replicate (n - args.length) undef := by
  have hn : (CT.of args n).n = args.length + (n - args.length) := rfl
  apply list_ext
  · rw [CT.toList_length, hn]; simp
  · intro j hj
    rw [CT.toList_length] at hj
    rw [CT.cget_toList, CT.get_eq, if_pos hj]
    show fget (fills args 0 (skel _)) j = _
    rw [fget_fills, fget_skel]
    by_cases h : j < args.length
    · rw [if_pos (by omega), Nat.sub_zero]
      simp only [cget_eq, List.getD_eq_getElem?_getD]
      rw [List.getElem?_append_left h]
    · rw [if_neg (by omega)]
      simp only [cget_eq, List.getD_eq_getElem?_getD]
      rw [List.getElem?_append_right (by omega), List.getElem?_replicate]
      split <;> rfl
theorem cevF_eq (c : CT) : cevF c = cev c.toList := by
  funext x
  cases x with
  | tmp i => exact (CT.cget_toList c i).symm
  | const v => rfl
  | global g => rfl
  | func f => rfl
theorem cpureF_eq (o : POp) (ρ : Operand → Value) : cpureF o ρ = cpure o ρ := by cases o <;> rfl
variable {E : Env} {call : CallF}
theorem copF_eq (o : COp) (ρ : Operand → Value) (h : CH) : copF E call o ρ h = cop E call o ρ h := by
  cases o with
  | p p =>
    show @Option.rec Value (fun _ => Option (Out × CH)) none (fun v => some (.ret v, h)) (cpureF p ρ) = outP (cpure p ρ) h
    rw [cpureF_eq]; cases cpure p ρ <;> rfl
  | l lo hi l =>
    show @Option.rec Value (fun _ => Option (Out × CH)) none (fun v => some (.ret v, h)) (cload E h l ρ) = outP (cload E h l ρ) h
    cases cload E h l ρ <;> rfl
  | n n => rfl
  | e b e => rfl
  | bad => rfl
theorem forceN_eq {β : Type} (a : Nat) (k : Nat → β) : forceN a k = k a := by cases a <;> rfl
theorem forceI_eq {β : Type} (a : Int) (k : Int → β) : forceI a k = k a := by
  cases a with
  | ofNat n => exact forceN_eq n (fun a => k (.ofNat a))
  | negSucc n => exact forceN_eq n (fun a => k (.negSucc a))
theorem forceA_eq {β : Type} (a : Option Addr) (k : Option Addr → β) : forceA a k = k a := by
  cases a with
  | none => rfl
  | some a =>
    obtain ⟨b, o, s⟩ := a
    cases s with
    | none => rfl
    | some t => simp only [forceA, forceN_eq]
theorem forceV_eq {β : Type} (v : Value) (k : Value → β) : forceV v k = k v := by
  cases v <;> first | rfl | skip
  · rename_i b; cases b <;> rfl
  · simp only [forceV, forceI_eq]
  · simp only [forceV, forceA_eq]
  · simp only [forceV, forceA_eq, forceN_eq]
theorem wantedF_eq (g : Option (Nat × Bool)) (c : CT) : wantedF g c = wanted g c.toList := by
  cases g with
  | none => rfl
  | some p =>
    obtain ⟨t, b⟩ := p
    show boolOf (c.get t) b = _
    simp only [wanted, CT.cget_toList, boolOf]
    split <;> simp_all
noncomputable def conv (r : CExit × (CT × CH)) : CExit × St := (r.1, (r.2.1.toList, r.2.2))
theorem copsF_eq (os : List COper) : ∀ (c : CT) (h : CH), cops E call os c.toList h = (copsF E call os c h).map conv := by
  induction os with
  | nil => intro c h; rfl
  | cons o os ih =>
    intro c h
    simp only [cops]
    show _ = Option.map conv (@Bool.rec (fun _ => RF) (copsF E call os (cputF o.dst undef c) h)
      (@Option.rec (Out × CH) (fun _ => RF) none (fun r => @Prod.rec Out CH (fun _ => RF) (fun out h' => @Out.rec (fun _ => RF) (fun v => forceV v fun v => copsF E call os (cputF o.dst v c) h') (fun v => some (.pan v, c, h')) out) r) (copF E call o.op (cevF c) h)) (wantedF o.guard c))
    rw [boolrec, wantedF_eq]
    cases wanted o.guard c.toList with
    | false =>
      simp only [cond_false]
      rw [← ih, cputF_toList]
    | true =>
      simp only [cond_true]
      rw [copF_eq, cevF_eq]
      cases cop E call o.op (cev c.toList) h with
      | none => rfl
      | some r =>
        obtain ⟨out, h'⟩ := r
        cases out with
        | ret v => simp only [forceV_eq]; rw [← ih, cputF_toList]
        | pan v => rfl
noncomputable def convL (r : LRecF) : LRec := ⟨r.lo, r.hi, r.l, r.ct.toList, r.v⟩
noncomputable def convD (r : CT × CH × List CH × List LRecF) : List Value × CH × List CH × List LRec := (r.1.toList, r.2.1, r.2.2.1, r.2.2.2.map convL)
theorem cdrawnF_eq (base : Nat) (os : List COper) : ∀ (i : Nat) (c : CT) (h : CH) (gs : List CH) (ls : List LRecF),
    cdrawn E call base os i c.toList h gs (ls.map convL) = (cdrawnF E call base os i c h gs ls).map convD := by
  induction os with
  | nil => intro i c h gs ls; rfl
  | cons o os ih =>
    intro i c h gs ls
    simp only [cdrawn]
    show _ = Option.map convD (@Bool.rec (fun _ => DF) (cdrawnF E call base os (i + 1) (cputF o.dst undef c) h (bif isE o.op then h :: gs else gs) ls)
      (@COp.rec (fun _ => DF)
        (fun p => @Option.rec Value (fun _ => DF) none (fun v => forceV v fun v => cdrawnF E call base os (i + 1) (cputF o.dst v c) h gs ls) (cpureF p (cevF c)))
        (fun lo hi l => @Option.rec Value (fun _ => DF) none (fun v => forceV v fun v => cdrawnF E call base os (i + 1) (cputF o.dst v c) h gs (⟨lo, hi, l, c, v⟩ :: ls)) (cload E h l (cevF c)))
        (fun n => @Option.rec (Value × CObj) (fun _ => DF) none (fun r => cdrawnF E call base os (i + 1) (cputF o.dst r.1 c) (h.put (base + i) r.2) gs ls) (cnew (base + i) n (cevF c)))
        (fun _ e => @Option.rec (Out × CH) (fun _ => DF) none (fun r => @Out.rec (fun _ => DF) (fun v => forceV v fun v => cdrawnF E call base os (i + 1) (cputF o.dst v c) r.2 (h :: gs) ls) (fun _ => none) r.1) (ceff E call h e (cevF c)))
        none o.op)
      (wantedF o.guard c))
    rw [boolrec, wantedF_eq]
    cases wanted o.guard c.toList with
    | false =>
      simp only [cond_false]
      rw [← ih, cputF_toList]
    | true =>
      simp only [cond_true]
      rw [cevF_eq]
      cases o.op with
      | p p =>
        simp only [cpureF_eq]
        cases cpure p (cev c.toList) with
        | none => rfl
        | some v => simp only [forceV_eq]; rw [← ih, cputF_toList]
      | l lo hi l =>
        dsimp only
        cases cload E h l (cev c.toList) with
        | none => rfl
        | some v => simp only [forceV_eq]; rw [← ih, cputF_toList]; rfl
      | n n =>
        dsimp only
        cases cnew (base + i) n (cev c.toList) with
        | none => rfl
        | some r => simp only []; rw [← ih, cputF_toList]
      | e b e =>
        dsimp only
        cases ceff E call h e (cev c.toList) with
        | none => rfl
        | some r =>
          obtain ⟨out, h'⟩ := r
          cases out with
          | ret v => simp only [forceV_eq]; rw [← ih, cputF_toList]
          | pan v => rfl
      | bad => rfl
theorem rdrawnF_eq (ops : List COper) (c : CT) (h : CH) : (match rdrawn E call ops c.toList h with | some s => some (CExit.normal, s) | none => none) = (rdrawnF E call ops c h).map conv := by
  unfold rdrawn rdrawnF
  have := cdrawnF_eq (E := E) (call := call) h.next ops 0 c ⟨h.next + ops.length, h.objs⟩ [] []
  simp only [List.map_nil] at this
  rw [this]
  cases cdrawnF E call h.next ops 0 c ⟨h.next + ops.length, h.objs⟩ [] [] with
  | none => rfl
  | some r =>
    obtain ⟨c', h', gs, ls⟩ := r
    simp only [Option.map_some, convD]
    rw [boolrec]
    have e : (ls.all fun q => lchkF E gs.reverse q.lo q.hi q.l (cevF q.ct) q.v) = (ls.map convL).all (lchk E gs.reverse) := by
      rw [List.all_map]
      congr 1
      funext q
      simp only [cevF_eq]; rfl
    have e2 : pairOk ops (cevF c') = pairOk ops (cev c'.toList) := by rw [cevF_eq]
    rw [e, e2]
    cases (ls.map convL).all (lchk E gs.reverse) <;> cases pairOk ops (cev c'.toList) <;> rfl
theorem thenF_conv (x : RF) (k : CT → CH → RF) (k1 : St → Option (CExit × St)) (hk : ∀ c h, k1 (c.toList, h) = (k c h).map conv) :
    (match x.map conv with | some (.normal, s) => k1 s | r => r) = (thenF x k).map conv := by
  cases x with
  | none => rfl
  | some r =>
    obtain ⟨e, c, h⟩ := r
    cases e with
    | normal => exact hk c h
    | _ => rfl
theorem execF_eq (N : Nat) (code : CCode) : ∀ (c : CT) (h : CH), exec E call N code (c.toList, h) = (execF E call N code c h).map conv := by
  induction code with
  | skip => intro c h; rfl
  | rg d ops =>
    intro c h
    cases d with
    | false => exact copsF_eq ops c h
    | true => exact rdrawnF_eq ops c h
  | seq a b iha ihb =>
    intro c h
    simp only [exec]
    rw [iha]
    exact thenF_conv _ _ _ ihb
  | cond x t e iht ihe =>
    intro c h
    simp only [exec]
    show _ = Option.map conv (condF (cevF c x) (execF E call N t c h) (execF E call N e c h))
    rw [cevF_eq]
    unfold condF
    split <;> simp_all
  | block id b ih =>
    intro c h
    simp only [exec]
    rw [ih]
    show _ = Option.map conv (blockF id (execF E call N b c h))
    cases execF E call N b c h with
    | none => rfl
    | some r =>
      obtain ⟨e, c', h'⟩ := r
      cases e with
      | exit i =>
        show (bif Nat.beq i id then some (CExit.normal, (c'.toList, h')) else some (.exit i, (c'.toList, h'))) = Option.map conv (@Bool.rec (fun _ => RF) (some (.exit i, c', h')) (some (.normal, c', h')) (Nat.beq i id))
        cases Nat.beq i id <;> rfl
      | _ => rfl
  | loop b ih =>
    intro c h
    simp only [exec]
    show _ = Option.map conv (loopF N (execF E call N b) c h)
    have key : ∀ (n : Nat) (c : CT) (h : CH), loopN n (exec E call N b) (c.toList, h) = Option.map conv (loopF n (execF E call N b) c h) := by
      intro n
      induction n with
      | zero => intro c h; rfl
      | succ n ihn =>
        intro c h
        simp only [loopN]
        rw [ih]
        exact thenF_conv _ _ (fun s => loopN n (exec E call N b) s) ihn
    exact key N c h
  | exit id => intro c h; rfl
  | scope b ih => intro c h; exact ih c h
  | ret => intro c h; rfl
  | rngf g ps a b _ _ =>
    intro c h
    simp only [exec]
    show _ = Option.map conv (rngF call (cevF c g) ps a b c h)
    rw [cevF_eq]
    unfold rngF
    split
    · rename_i f first cap hce
      rw [hce]
      simp only
      cases call f (first.toList ++ [.func (.yield h.next) #[] #[]] ++ cap.toList) (h.add (.loop .ready none c.toList ps a b)) with
      | none => rfl
      | some r =>
        obtain ⟨out, h'⟩ := r
        cases out with
        | pan v => rfl
        | ret v =>
          simp only [leaveL, leaveF]
          split <;> simp_all
          · rename_i st p d ps' a' b' _ _
            cases p with
            | none => rfl
            | some j => cases j <;> rfl
    · rename_i hne
      split
      · rename_i f first cap hce; exact absurd hce (hne f first cap)
      · rfl
  | bad => intro c h; rfl
theorem cresultF_eq (c : CT) (h : CH) (r : CRes) : cresult E c.toList h r = cresultF E c h r := by
  cases r with
  | tmp t => simp only [cresult, CT.cget_toList]; rfl
  | cell a n => simp only [cresult, ← cevF_eq]; rfl
theorem cresultsF_eq (c : CT) (h : CH) (rs : List CRes) : cresults E c.toList h rs = cresultsF E c h rs := by
  induction rs with
  | nil => rfl
  | cons r rs ih =>
    simp only [cresults]
    rw [cresultF_eq, ih]
    show _ = @Option.rec Value (fun _ => Option (List Value)) none (fun v => @Option.rec (List Value) (fun _ => Option (List Value)) none (fun vs => some (v :: vs)) (cresultsF E c h rs)) (cresultF E c h r)
    cases cresultF E c h r with
    | none => rfl
    | some v => cases cresultsF E c h rs <;> rfl
theorem finish_eq (f : CFun) (ct : List Value) (h : CH) : finish E f ct h = finish1 (cresults E ct h f.results) h := rfl
theorem endF_eq (fn : CFun) (x : RF) : (match x.map conv with
    | some (.normal, ct, h) => finish E fn ct h
    | some (.ret, ct, h) => finish E fn ct h
    | some (.pan v, _, h) => some (.pan v, h)
    | _ => none) = endF E fn.results x := by
  cases x with
  | none => rfl
  | some r =>
    obtain ⟨e, c, h⟩ := r
    cases e with
    | normal => show finish E fn c.toList h = finish1 (cresultsF E c h fn.results) h; rw [finish_eq, cresultsF_eq]
    | ret => show finish E fn c.toList h = finish1 (cresultsF E c h fn.results) h; rw [finish_eq, cresultsF_eq]
    | exit i => rfl
    | pan v => rfl
theorem bodyF_eq (id : Nat) (x : RF) : bodyR id (x.map conv) = bodyF id x := by
  cases x with
  | none => rfl
  | some r => obtain ⟨e, c, h⟩ := r; cases e <;> rfl
theorem rndF_eq (N id : Nat) (args : List Value) (h : CH) : rnd E call N id args h = rndF E call N id args h := by
  unfold rnd rndF
  cases h.get id with
  | none => rfl
  | some ob =>
    cases ob with
    | loop st p ct ps a b =>
      dsimp only
      cases Nat.beq args.length ps.length with
      | false => rfl
      | true =>
        simp only [cond_true]
        have e1 := execF_eq (E := E) (call := call) N a (CT.of (setAll ct ps args) (setAll ct ps args).length) h
        rw [CT.of_toList, Nat.sub_self] at e1
        simp only [List.replicate_zero, List.append_nil] at e1
        rw [e1]
        cases execF E call N a (CT.of (setAll ct ps args) (setAll ct ps args).length) h with
        | none => rfl
        | some r =>
          obtain ⟨e, c2, h2⟩ := r
          cases e with
          | normal =>
            simp only [Option.map_some, conv]
            cases begR id h2 with
            | none => rfl
            | some h3 => dsimp only; rw [execF_eq]; exact bodyF_eq id _
          | _ => rfl
    | _ => rfl
theorem ccallF_eq (I : CallF → CallF) (N : Nat) : ∀ d, ccallF E I N d = ccall E I N d := by
  intro d
  induction d with
  | zero => rfl
  | succ d ih =>
    show (⟨fun f args h => @Option.rec (Out × CH) (fun _ => Option (Out × CH))
        (@Option.rec CFun (fun _ => Option (Out × CH)) none (fun fn => endF E fn.results (execF E (ccallF E I N d) N fn.body (CT.of args fn.ntmps) h)) (E.tab.get f))
        (fun r => some r) ((I (ccallF E I N d)).fn f args h), rndF E (ccallF E I N d) N⟩ : CallF) = _
    rw [ih]
    simp only [ccall, CallF.mk.injEq]
    refine ⟨?_, ?_⟩
    · funext f args h
      cases (I (ccall E I N d)).fn f args h with
      | some r => rfl
      | none =>
        cases E.tab.get f with
        | none => rfl
        | some fn =>
          dsimp only
          rw [← CT.of_toList, execF_eq]
          exact (endF_eq fn _).symm
    · funext id args h
      exact (rndF_eq N id args h).symm
end Go.Cl

/- A logic of the clean evaluator's runs, over temps as a function: what code comes to, step by step, all of first order (so that simp goes forward, and into no continuation). -/
import Derived.Test.YtcpcklafkddpaaaGreatDoorClGreat
namespace Go.Cl
open Go
variable {E : Env} {call : CallF} {N : Nat}

abbrev Tau := Nat → Value
abbrev Post3 := CExit → Tau → CH → Prop
def setT (τ : Tau) (d : Nat) (v : Value) : Tau := fun i => if i = d then v else τ i
def setO (d : Option Nat) (v : Value) (τ : Tau) : Tau := match d with | some d => setT τ d v | none => τ
def cevT (τ : Tau) : Operand → Value
  | .tmp t => τ t
  | .const v => v
  | .global g => .pointer (some ⟨g, 0, none⟩)
  | .func f => .func (.func f) #[] #[]
def wants (g : Value) (b : Bool) : Bool := match g with | .bool true => b | .bool false => !b | _ => false
def wO (E : Env) (call : CallF) : List COper → Tau → CH → Post3 → Prop
  | [], τ, h, Q => Q .normal τ h
  | o :: os, τ, h, Q =>
    bif (match o.guard with | none => true | some (t, b) => wants (τ t) b) then
      (match cop E call o.op (cevT τ) h with
      | some (.ret v, h') => wO E call os (setO o.dst v τ) h' Q
      | some (.pan v, h') => Q (.pan v) τ h'
      | none => False)
    else wO E call os (setO o.dst undef τ) h Q
structure LRecT where
  lo : Nat
  hi : Nat
  l : LOp
  τ : Tau
  v : Value
def toT (r : LRec) : LRecT := ⟨r.lo, r.hi, r.l, cget r.ct, r.v⟩
abbrev PostD := Tau → CH → List CH → List LRecT → Prop
def wD (E : Env) (call : CallF) (base : Nat) : List COper → Nat → Tau → CH → List CH → List LRecT → PostD → Prop
  | [], _, τ, h, gs, ls, K => K τ h (h :: gs) ls
  | o :: os, i, τ, h, gs, ls, K =>
    bif (match o.guard with | none => true | some (t, b) => wants (τ t) b) then
      match o.op with
      | .p p => match cpure p (cevT τ) with
        | some v => wD E call base os (i + 1) (setO o.dst v τ) h gs ls K
        | none => False
      | .l lo hi l => match cload E h l (cevT τ) with
        | some v => wD E call base os (i + 1) (setO o.dst v τ) h gs (⟨lo, hi, l, τ, v⟩ :: ls) K
        | none => False
      | .n n => match cnew (base + i) n (cevT τ) with
        | some (v, ob) => wD E call base os (i + 1) (setO o.dst v τ) (h.put (base + i) ob) gs ls K
        | none => False
      | .e _ e => match ceff E call h e (cevT τ) with
        | some (.ret v, h') => wD E call base os (i + 1) (setO o.dst v τ) h' (h :: gs) ls K
        | _ => False
      | .bad => False
    else wD E call base os (i + 1) (setO o.dst undef τ) h (bif isE o.op then h :: gs else gs) ls K
/-- A load gives the same in all heaps in which it may stand. -/
def lchkT (E : Env) (gs : List CH) (r : LRecT) : Prop := ∀ g ∈ (gs.drop r.lo).take (r.hi - r.lo + 1), ∃ v, cload E g r.l (cevT r.τ) = some v ∧ veqb v r.v = true
def endD (E : Env) (ops : List COper) (Q : Post3) : PostD := fun τ h gs ls => (∀ r ∈ ls, lchkT E gs.reverse r) ∧ pairOk ops (cevT τ) = true ∧ Q .normal τ h
def wT (E : Env) (call : CallF) (N : Nat) : CCode → Tau → CH → Post3 → Prop
  | .skip, τ, h, Q => Q .normal τ h
  | .rg false ops, τ, h, Q => wO E call ops τ h Q
  | .rg true ops, τ, h, Q => wD E call h.next ops 0 τ ⟨h.next + ops.length, h.objs⟩ [] [] (endD E ops Q)
  | .seq a b, τ, h, Q => wT E call N a τ h fun x τ h => match x with | .normal => wT E call N b τ h Q | x => Q x τ h
  | .cond c t e, τ, h, Q => match cevT τ c with | .bool true => wT E call N t τ h Q | .bool false => wT E call N e τ h Q | _ => False
  | .block id b, τ, h, Q => wT E call N b τ h fun x τ h => match x with | .exit i => (bif Nat.beq i id then Q .normal τ h else Q (.exit i) τ h) | x => Q x τ h
  | .loop b, τ, h, Q => ∃ (I : Nat → Tau → CH → Prop) (n : Nat), n < N ∧ I n τ h ∧ ∀ m τ h, I m τ h → wT E call N b τ h fun x τ h => match x with | .normal => ∃ k, k < m ∧ I k τ h | x => Q x τ h
  | .exit id, τ, h, Q => Q (.exit id) τ h
  | .scope b, τ, h, Q => wT E call N b τ h Q
  | .ret, τ, h, Q => Q .ret τ h
  | _, _, _, _ => False
/-! ### the temps that code writes are there -/
def dstOk (n : Nat) : Option Nat → Bool
  | some d => Nat.blt d n
  | none => true
def opsOk (n : Nat) : List COper → Bool
  | [] => true
  | o :: os => dstOk n o.dst && opsOk n os
def codeOk (n : Nat) : CCode → Bool
  | .rg _ ops => opsOk n ops
  | .seq a b => codeOk n a && codeOk n b
  | .cond _ a b => codeOk n a && codeOk n b
  | .block _ b => codeOk n b
  | .loop b => codeOk n b
  | .scope b => codeOk n b
  | _ => true
theorem cev_cevT {ct : List Value} : cev ct = cevT (cget ct) := by
  funext o; cases o <;> rfl
theorem cget_setO {ct : List Value} {n : Nat} (hl : ct.length = n) {d : Option Nat} (hd : dstOk n d = true) {v : Value} : cget (cput d v ct) = setO d v (cget ct) ∧ (cput d v ct).length = n := by
  cases d with
  | none => exact ⟨rfl, hl⟩
  | some d =>
    simp only [dstOk, Nat.blt_eq] at hd
    refine ⟨?_, by simp only [cput, cset_length, hl]⟩
    funext i
    simp only [cput, setO, setT, cget_cset]
    by_cases h : i = d
    · rw [if_pos ⟨h, by omega⟩, if_pos h]
    · rw [if_neg (fun e => h e.1), if_neg h]
theorem wO_sound : ∀ {os : List COper} {n : Nat} {ct : List Value} {h : CH} {Q : Post3}, opsOk n os = true → ct.length = n → wO E call os (cget ct) h Q → ∃ x s, cops E call os ct h = some (x, s) ∧ Q x (cget s.1) s.2 ∧ s.1.length = n
  | [], n, ct, h, Q, _, hl, hw => ⟨.normal, (ct, h), rfl, hw, hl⟩
  | o :: os, n, ct, h, Q, hok, hl, hw => by
    simp only [opsOk, Bool.and_eq_true] at hok
    simp only [wO] at hw
    have hg : wanted o.guard ct = (match o.guard with | none => true | some (t, b) => wants (cget ct t) b) := by
      unfold wanted wants
      rcases o.guard with _ | ⟨t, b⟩
      · rfl
      · rfl
    simp only [cops, hg]
    cases hb : (match o.guard with | none => true | some (t, b) => wants (cget ct t) b) with
    | true =>
      rw [hb] at hw
      simp only [cond_true] at hw ⊢
      rw [cev_cevT]
      cases hc : cop E call o.op (cevT (cget ct)) h with
      | none => rw [hc] at hw; exact hw.elim
      | some r =>
        obtain ⟨out, h1⟩ := r
        rw [hc] at hw
        cases out with
        | ret v =>
          simp only at hw ⊢
          obtain ⟨e1, e2⟩ := cget_setO hl hok.1 (v := v)
          exact wO_sound hok.2 e2 (by rw [e1]; exact hw)
        | pan v => exact ⟨_, _, rfl, hw, hl⟩
    | false =>
      rw [hb] at hw
      simp only [cond_false] at hw ⊢
      obtain ⟨e1, e2⟩ := cget_setO hl hok.1 (v := undef)
      exact wO_sound hok.2 e2 (by rw [e1]; exact hw)
theorem wD_sound {base : Nat} : ∀ {os : List COper} {n i : Nat} {ct : List Value} {h : CH} {gs : List CH} {ls : List LRec} {K : PostD}, opsOk n os = true → ct.length = n → wD E call base os i (cget ct) h gs (ls.map toT) K →
    ∃ ct' h' gs' ls', cdrawn E call base os i ct h gs ls = some (ct', h', gs', ls') ∧ K (cget ct') h' gs' (ls'.map toT) ∧ ct'.length = n
  | [], n, i, ct, h, gs, ls, K, _, hl, hw => ⟨ct, h, h :: gs, ls, rfl, hw, hl⟩
  | o :: os, n, i, ct, h, gs, ls, K, hok, hl, hw => by
    simp only [opsOk, Bool.and_eq_true] at hok
    simp only [wD] at hw
    have hg : wanted o.guard ct = (match o.guard with | none => true | some (t, b) => wants (cget ct t) b) := by
      unfold wanted wants
      rcases o.guard with _ | ⟨t, b⟩
      · rfl
      · rfl
    simp only [cdrawn, hg]
    cases hb : (match o.guard with | none => true | some (t, b) => wants (cget ct t) b) with
    | true =>
      rw [hb] at hw
      simp only [cond_true] at hw ⊢
      cases hop : o.op with
      | p p =>
        rw [hop] at hw
        simp only at hw ⊢
        rw [cev_cevT]
        cases hc : cpure p (cevT (cget ct)) with
        | none => rw [hc] at hw; exact hw.elim
        | some v =>
          rw [hc] at hw
          obtain ⟨e1, e2⟩ := cget_setO hl hok.1 (v := v)
          exact wD_sound hok.2 e2 (by rw [e1]; exact hw)
      | l lo hi l =>
        rw [hop] at hw
        simp only at hw ⊢
        rw [cev_cevT]
        cases hc : cload E h l (cevT (cget ct)) with
        | none => rw [hc] at hw; exact hw.elim
        | some v =>
          rw [hc] at hw
          obtain ⟨e1, e2⟩ := cget_setO hl hok.1 (v := v)
          exact wD_sound hok.2 e2 (by rw [e1]; exact hw)
      | n nn =>
        rw [hop] at hw
        simp only at hw ⊢
        rw [cev_cevT]
        cases hc : cnew (base + i) nn (cevT (cget ct)) with
        | none => rw [hc] at hw; exact hw.elim
        | some r =>
          obtain ⟨v, ob⟩ := r
          rw [hc] at hw
          obtain ⟨e1, e2⟩ := cget_setO hl hok.1 (v := v)
          exact wD_sound hok.2 e2 (by rw [e1]; exact hw)
      | e b e =>
        rw [hop] at hw
        simp only at hw ⊢
        rw [cev_cevT]
        cases hc : ceff E call h e (cevT (cget ct)) with
        | none => rw [hc] at hw; exact hw.elim
        | some r =>
          obtain ⟨out, h1⟩ := r
          rw [hc] at hw
          cases out with
          | pan v => exact hw.elim
          | ret v =>
            obtain ⟨e1, e2⟩ := cget_setO hl hok.1 (v := v)
            exact wD_sound hok.2 e2 (by rw [e1]; exact hw)
      | bad => rw [hop] at hw; exact hw.elim
    | false =>
      rw [hb] at hw
      simp only [cond_false] at hw ⊢
      obtain ⟨e1, e2⟩ := cget_setO hl hok.1 (v := undef)
      exact wD_sound hok.2 e2 (by rw [e1]; exact hw)
/-- A region that draws its order. -/
theorem drawn_sound {ops : List COper} {n : Nat} {τ : Tau} {h : CH} {Q : Post3} (hok : opsOk n ops = true) (hw : wD E call h.next ops 0 τ ⟨h.next + ops.length, h.objs⟩ [] [] (endD E ops Q)) :
    ∀ ct : List Value, ct.length = n → cget ct = τ → ∃ s, rdrawn E call ops ct h = some s ∧ Q .normal (cget s.1) s.2 ∧ s.1.length = ct.length := by
  intro ct hl hτ
  subst hτ
  obtain ⟨ct', h', gs', ls', hc, ⟨h1, h2, h3⟩, hl'⟩ := wD_sound (ls := []) hok hl hw
  refine ⟨(ct', h'), ?_, h3, by rw [hl', hl]⟩
  unfold rdrawn
  rw [hc]
  simp only
  have hall : ls'.all (lchk E gs'.reverse) = true := by
    rw [List.all_eq_true]
    intro r hr
    have := h1 (toT r) (List.mem_map_of_mem hr)
    unfold lchk
    rw [List.all_eq_true]
    intro g hg
    obtain ⟨v, hv, he⟩ := this g hg
    rw [cev_cevT]
    rw [show cload E g r.l (cevT (cget r.ct)) = some v from hv]
    exact he
  rw [hall, cev_cevT, h2]
  rfl
theorem wT_sound : ∀ {c : CCode} {n : Nat} {ct : List Value} {h : CH} {Q : Post3}, codeOk n c = true → ct.length = n → wT E call N c (cget ct) h Q → ∃ x s, exec E call N c (ct, h) = some (x, s) ∧ Q x (cget s.1) s.2 ∧ s.1.length = n := by
  intro c
  induction c with
  | skip => intro n ct h Q _ hl hw; exact ⟨_, _, rfl, hw, hl⟩
  | rg dr ops =>
    intro n ct h Q hok hl hw
    cases dr with
    | false => exact wO_sound hok hl hw
    | true =>
      obtain ⟨s, hs, hq, hsl⟩ := drawn_sound hok hw ct hl rfl
      exact ⟨.normal, s, by simp only [exec, hs], hq, by omega⟩
  | seq a b iha ihb =>
    intro n ct h Q hok hl hw
    simp only [codeOk, Bool.and_eq_true] at hok
    obtain ⟨x, s, he, hq, hsl⟩ := iha hok.1 hl hw
    simp only [exec, he]
    cases x with
    | normal => exact ihb hok.2 hsl hq
    | _ => exact ⟨_, _, rfl, hq, hsl⟩
  | cond c t e iht ihe =>
    intro n ct h Q hok hl hw
    simp only [codeOk, Bool.and_eq_true] at hok
    simp only [wT] at hw
    simp only [exec]
    rw [cev_cevT]
    cases hv : cevT (cget ct) c <;> rw [hv] at hw <;> try exact hw.elim
    rename_i b
    cases b with
    | true => exact iht hok.1 hl hw
    | false => exact ihe hok.2 hl hw
  | block id b ih =>
    intro n ct h Q hok hl hw
    obtain ⟨x, s, he, hq, hsl⟩ := ih (n := n) hok hl hw
    simp only [exec, he]
    cases x with
    | exit i =>
      simp only at hq ⊢
      cases hi : Nat.beq i id <;> rw [hi] at hq
      · exact ⟨_, _, rfl, hq, hsl⟩
      · exact ⟨_, _, rfl, hq, hsl⟩
    | _ => exact ⟨_, _, rfl, hq, hsl⟩
  | loop b ih =>
    intro n ct h Q hok hl hw
    obtain ⟨I, m0, hN, hi0, hI⟩ := hw
    have key : ∀ (k m : Nat) (ct : List Value) (h : CH), m < k → ct.length = n → I m (cget ct) h → ∃ x s, loopN k (exec E call N b) (ct, h) = some (x, s) ∧ Q x (cget s.1) s.2 ∧ s.1.length = n := by
      intro k
      induction k with
      | zero => intro m ct h hm; omega
      | succ k ihk =>
        intro m ct h hm hl hi
        obtain ⟨x, s, he, hq, hsl⟩ := ih (n := n) hok hl (hI m _ h hi)
        simp only [loopN, he]
        cases x with
        | normal =>
          obtain ⟨j, hj, hq⟩ := hq
          exact ihk j s.1 s.2 (by omega) hsl hq
        | _ => exact ⟨_, _, rfl, hq, hsl⟩
    exact key N m0 ct h hN hl hi0
  | exit id => intro n ct h Q _ hl hw; exact ⟨_, _, rfl, hw, hl⟩
  | scope b ih => intro n ct h Q hok hl hw; exact ih (n := n) hok hl hw
  | ret => intro n ct h Q _ hl hw; exact ⟨_, _, rfl, hw, hl⟩
  | rngf => intro n ct h Q _ hl hw; exact hw.elim
  | bad => intro n ct h Q _ hl hw; exact hw.elim

theorem nr {α : Sort _} {a b : α} (h : a = b) : a = b := h
/-! ### forward, of first order -/
def sT (E : Env) (call : CallF) (N : Nat) (b : CCode) (Q : Post3) : Post3 := fun x τ h => match x with | .normal => wT E call N b τ h Q | x => Q x τ h
def bT (id : Nat) (Q : Post3) : Post3 := fun x τ h => match x with | .exit i => (bif Nat.beq i id then Q .normal τ h else Q (.exit i) τ h) | x => Q x τ h
def lT (I : Nat → Tau → CH → Prop) (m : Nat) (Q : Post3) : Post3 := fun x τ h => match x with | .normal => ∃ k, k < m ∧ I k τ h | x => Q x τ h
def cT (v : Value) (t e : CCode) (E : Env) (call : CallF) (N : Nat) (τ : Tau) (h : CH) (Q : Post3) : Prop := match v with | .bool true => wT E call N t τ h Q | .bool false => wT E call N e τ h Q | _ => False
def pT (r : Option Value) (d : Option Nat) (E : Env) (call : CallF) (os : List COper) (τ : Tau) (h : CH) (Q : Post3) : Prop := match r with | some v => wO E call os (setO d v τ) h Q | none => False
def nT (r : Option (Value × CObj)) (d : Option Nat) (E : Env) (call : CallF) (os : List COper) (τ : Tau) (h : CH) (Q : Post3) : Prop := match r with | some (v, o) => wO E call os (setO d v τ) (h.add o) Q | none => False
def eT (r : Option (Out × CH)) (d : Option Nat) (E : Env) (call : CallF) (os : List COper) (τ : Tau) (Q : Post3) : Prop := match r with | some (.ret v, h) => wO E call os (setO d v τ) h Q | some (.pan v, h) => Q (.pan v) τ h | none => False
def oT (op : COp) (d : Option Nat) (E : Env) (call : CallF) (os : List COper) (τ : Tau) (h : CH) (Q : Post3) : Prop :=
  match op with
  | .p p => pT (cpure p (cevT τ)) d E call os τ h Q
  | .l _ _ l => pT (cload E h l (cevT τ)) d E call os τ h Q
  | .n n => nT (cnew h.next n (cevT τ)) d E call os τ h Q
  | .e _ e => eT (ceff E call h e (cevT τ)) d E call os τ Q
  | .bad => False
def gT (g : Value) (b : Bool) (op : COp) (d : Option Nat) (E : Env) (call : CallF) (os : List COper) (τ : Tau) (h : CH) (Q : Post3) : Prop :=
  bif wants g b then oT op d E call os τ h Q else wO E call os (setO d undef τ) h Q
@[simp] theorem wT_skip {τ : Tau} {h : CH} {Q : Post3} : wT E call N .skip τ h Q = Q .normal τ h := nr rfl
@[simp] theorem wT_ret {τ : Tau} {h : CH} {Q : Post3} : wT E call N .ret τ h Q = Q .ret τ h := nr rfl
@[simp] theorem wT_exit {id : Nat} {τ : Tau} {h : CH} {Q : Post3} : wT E call N (.exit id) τ h Q = Q (.exit id) τ h := nr rfl
@[simp] theorem wT_scope {b : CCode} {τ : Tau} {h : CH} {Q : Post3} : wT E call N (.scope b) τ h Q = wT E call N b τ h Q := nr rfl
@[simp] theorem wT_rg {ops : List COper} {τ : Tau} {h : CH} {Q : Post3} : wT E call N (.rg false ops) τ h Q = wO E call ops τ h Q := nr rfl
@[simp] theorem wT_seq {a b : CCode} {τ : Tau} {h : CH} {Q : Post3} : wT E call N (.seq a b) τ h Q = wT E call N a τ h (sT E call N b Q) := nr rfl
@[simp] theorem wT_block {id : Nat} {b : CCode} {τ : Tau} {h : CH} {Q : Post3} : wT E call N (.block id b) τ h Q = wT E call N b τ h (bT id Q) := nr rfl
@[simp] theorem wT_cond {c : Operand} {t e : CCode} {τ : Tau} {h : CH} {Q : Post3} : wT E call N (.cond c t e) τ h Q = cT (cevT τ c) t e E call N τ h Q := nr rfl
@[simp] theorem sT_normal {b : CCode} {τ : Tau} {h : CH} {Q : Post3} : sT E call N b Q .normal τ h = wT E call N b τ h Q := nr rfl
@[simp] theorem sT_exit {b : CCode} {τ : Tau} {h : CH} {Q : Post3} {i : Nat} : sT E call N b Q (.exit i) τ h = Q (.exit i) τ h := nr rfl
@[simp] theorem sT_ret {b : CCode} {τ : Tau} {h : CH} {Q : Post3} : sT E call N b Q .ret τ h = Q .ret τ h := nr rfl
@[simp] theorem sT_pan {b : CCode} {τ : Tau} {h : CH} {Q : Post3} {v : Value} : sT E call N b Q (.pan v) τ h = Q (.pan v) τ h := nr rfl
@[simp] theorem bT_normal {id : Nat} {τ : Tau} {h : CH} {Q : Post3} : bT id Q .normal τ h = Q .normal τ h := nr rfl
theorem bT_exit {id i : Nat} {τ : Tau} {h : CH} {Q : Post3} : bT id Q (.exit i) τ h = (bif Nat.beq i id then Q .normal τ h else Q (.exit i) τ h) := rfl
@[simp] theorem bT_same {id : Nat} {τ : Tau} {h : CH} {Q : Post3} : bT id Q (.exit id) τ h = Q .normal τ h := by rw [bT_exit, Nat.beq_refl]; rfl
@[simp] theorem bT_other {id i : Nat} (hi : i ≠ id) {τ : Tau} {h : CH} {Q : Post3} : bT id Q (.exit i) τ h = Q (.exit i) τ h := by
  have : Nat.beq i id = false := by rw [← Bool.not_eq_true, Nat.beq_eq]; exact hi
  rw [bT_exit, this]; rfl
@[simp] theorem bT_ret {id : Nat} {τ : Tau} {h : CH} {Q : Post3} : bT id Q .ret τ h = Q .ret τ h := nr rfl
@[simp] theorem bT_pan {id : Nat} {τ : Tau} {h : CH} {Q : Post3} {v : Value} : bT id Q (.pan v) τ h = Q (.pan v) τ h := nr rfl
theorem lT_mk {I : Nat → Tau → CH → Prop} {m : Nat} {τ : Tau} {h : CH} {Q : Post3} (k : Nat) (hk : k < m) (hI : I k τ h) : lT I m Q .normal τ h := ⟨k, hk, hI⟩
@[simp] theorem lT_exit {I : Nat → Tau → CH → Prop} {m i : Nat} {τ : Tau} {h : CH} {Q : Post3} : lT I m Q (.exit i) τ h = Q (.exit i) τ h := nr rfl
@[simp] theorem lT_ret {I : Nat → Tau → CH → Prop} {m : Nat} {τ : Tau} {h : CH} {Q : Post3} : lT I m Q .ret τ h = Q .ret τ h := nr rfl
@[simp] theorem lT_pan {I : Nat → Tau → CH → Prop} {m : Nat} {τ : Tau} {h : CH} {Q : Post3} {v : Value} : lT I m Q (.pan v) τ h = Q (.pan v) τ h := nr rfl
theorem wT_loop {b : CCode} {τ : Tau} {h : CH} {Q : Post3} (I : Nat → Tau → CH → Prop) (n : Nat) (hn : n < N) (h0 : I n τ h) (hI : ∀ m τ h, I m τ h → wT E call N b τ h (lT I m Q)) : wT E call N (.loop b) τ h Q := ⟨I, n, hn, h0, hI⟩
@[simp] theorem cT_true {t e : CCode} {τ : Tau} {h : CH} {Q : Post3} : cT (.bool true) t e E call N τ h Q = wT E call N t τ h Q := nr rfl
@[simp] theorem cT_false {t e : CCode} {τ : Tau} {h : CH} {Q : Post3} : cT (.bool false) t e E call N τ h Q = wT E call N e τ h Q := nr rfl
theorem cT_bool {b : Bool} {t e : CCode} {τ : Tau} {h : CH} {Q : Post3} (ht : b = true → wT E call N t τ h Q) (he : b = false → wT E call N e τ h Q) : cT (.bool b) t e E call N τ h Q := by
  cases b with
  | true => exact ht rfl
  | false => exact he rfl
@[simp] theorem wO_nil {τ : Tau} {h : CH} {Q : Post3} : wO E call [] τ h Q = Q .normal τ h := nr rfl
@[simp] theorem wO_cons {d : Option Nat} {op : COp} {os : List COper} {τ : Tau} {h : CH} {Q : Post3} : wO E call (⟨d, none, op⟩ :: os) τ h Q = oT op d E call os τ h Q := by
  simp only [wO, cond_true]
  cases op with
  | p p => simp only [cop, oT]; cases cpure p (cevT τ) <;> rfl
  | l lo hi l => simp only [cop, oT]; cases cload E h l (cevT τ) <;> rfl
  | n n => simp only [cop, oT]; cases cnew h.next n (cevT τ) <;> rfl
  | e b e => rfl
  | bad => rfl
@[simp] theorem wO_guard {d : Option Nat} {t : Nat} {b : Bool} {op : COp} {os : List COper} {τ : Tau} {h : CH} {Q : Post3} : wO E call (⟨d, some (t, b), op⟩ :: os) τ h Q = gT (τ t) b op d E call os τ h Q := by
  unfold gT
  rw [← wO_cons]
  simp only [wO, cond_true]
@[simp] theorem oT_p {p : POp} {d : Option Nat} {os : List COper} {τ : Tau} {h : CH} {Q : Post3} : oT (.p p) d E call os τ h Q = pT (cpure p (cevT τ)) d E call os τ h Q := nr rfl
@[simp] theorem oT_l {lo hi : Nat} {p : LOp} {d : Option Nat} {os : List COper} {τ : Tau} {h : CH} {Q : Post3} : oT (.l lo hi p) d E call os τ h Q = pT (cload E h p (cevT τ)) d E call os τ h Q := nr rfl
@[simp] theorem oT_n {p : NOp} {d : Option Nat} {os : List COper} {τ : Tau} {h : CH} {Q : Post3} : oT (.n p) d E call os τ h Q = nT (cnew h.next p (cevT τ)) d E call os τ h Q := nr rfl
@[simp] theorem oT_e {b : Bool} {p : EOp} {d : Option Nat} {os : List COper} {τ : Tau} {h : CH} {Q : Post3} : oT (.e b p) d E call os τ h Q = eT (ceff E call h p (cevT τ)) d E call os τ Q := nr rfl
@[simp] theorem pT_some {v : Value} {d : Option Nat} {os : List COper} {τ : Tau} {h : CH} {Q : Post3} : pT (some v) d E call os τ h Q = wO E call os (setO d v τ) h Q := nr rfl
@[simp] theorem nT_some {v : Value} {o : CObj} {d : Option Nat} {os : List COper} {τ : Tau} {h : CH} {Q : Post3} : nT (some (v, o)) d E call os τ h Q = wO E call os (setO d v τ) (h.add o) Q := nr rfl
@[simp] theorem eT_ret {v : Value} {d : Option Nat} {os : List COper} {τ : Tau} {h : CH} {Q : Post3} : eT (some (.ret v, h)) d E call os τ Q = wO E call os (setO d v τ) h Q := nr rfl
@[simp] theorem gT_tt {op : COp} {d : Option Nat} {os : List COper} {τ : Tau} {h : CH} {Q : Post3} : gT (.bool true) true op d E call os τ h Q = oT op d E call os τ h Q := nr rfl
@[simp] theorem gT_tf {op : COp} {d : Option Nat} {os : List COper} {τ : Tau} {h : CH} {Q : Post3} : gT (.bool true) false op d E call os τ h Q = wO E call os (setO d undef τ) h Q := nr rfl
@[simp] theorem gT_ft {op : COp} {d : Option Nat} {os : List COper} {τ : Tau} {h : CH} {Q : Post3} : gT (.bool false) true op d E call os τ h Q = wO E call os (setO d undef τ) h Q := nr rfl
@[simp] theorem gT_ff {op : COp} {d : Option Nat} {os : List COper} {τ : Tau} {h : CH} {Q : Post3} : gT (.bool false) false op d E call os τ h Q = oT op d E call os τ h Q := nr rfl
@[simp] theorem gT_undef {b : Bool} {op : COp} {d : Option Nat} {os : List COper} {τ : Tau} {h : CH} {Q : Post3} : gT undef b op d E call os τ h Q = wO E call os (setO d undef τ) h Q := nr rfl
@[simp] theorem setO_some {d : Nat} {v : Value} {τ : Tau} : setO (some d) v τ = setT τ d v := nr rfl
@[simp] theorem setO_none {v : Value} {τ : Tau} : setO none v τ = τ := nr rfl
@[simp] theorem setT_same {τ : Tau} {d : Nat} {v : Value} : setT τ d v d = v := nr (if_pos rfl)
@[simp] theorem setT_other {τ : Tau} {d i : Nat} {v : Value} (h : i ≠ d) : setT τ d v i = τ i := if_neg h
@[simp] theorem cevT_tmp {τ : Tau} {t : Nat} : cevT τ (.tmp t) = τ t := nr rfl
@[simp] theorem cevT_const {τ : Tau} {v : Value} : cevT τ (.const v) = v := nr rfl
@[simp] theorem cevT_global {τ : Tau} {g : Nat} : cevT τ (.global g) = .pointer (some ⟨g, 0, none⟩) := nr rfl
@[simp] theorem cevT_func {τ : Tau} {f : Nat} : cevT τ (.func f) = .func (.func f) #[] #[] := nr rfl
section
variable {ρ : Operand → Value} {h : CH} {id : Nat}
@[simp] theorem cpure_mv {x : Operand} : cpure (.mv x) ρ = some (ρ x) := nr rfl
@[simp] theorem cpure_pick {c a b : Operand} : cpure (.pick c a b) ρ = pPick (ρ c) (ρ a) (ρ b) := nr rfl
@[simp] theorem cpure_bin {op : BinOp} {x y : Operand} : cpure (.bin op x y) ρ = pBin op (ρ x) (ρ y) := nr rfl
@[simp] theorem cpure_eqv {neg : Bool} {e : EqT} {x y : Operand} : cpure (.eqv neg e x y) ρ = pEqv neg (eqv e (ρ x) (ρ y)) := nr rfl
@[simp] theorem cpure_un {op : UnOp} {x : Operand} : cpure (.un op x) ρ = pUn op (ρ x) := nr rfl
@[simp] theorem cpure_cint {k : IntKind} {x : Operand} : cpure (.cint k x) ρ = pCint k (ρ x) := nr rfl
@[simp] theorem cpure_cid {x : Operand} : cpure (.cid x) ρ = pCid (ρ x) := nr rfl
@[simp] theorem cpure_nilck {x : Operand} : cpure (.nilck x) ρ = pNil (ρ x) := nr rfl
@[simp] theorem cpure_build {z : List Value} {ps : List (Nat × Nat × Operand)} : cpure (.build z ps) ρ = pBuild (fill z (mapPs ρ ps)) := nr rfl
@[simp] theorem cpure_faddr {off : Nat} {x : Operand} : cpure (.faddr off x) ρ = pFaddr off (ρ x) := nr rfl
@[simp] theorem cpure_fld {off : Nat} {sz : Option Nat} {x : Operand} : cpure (.fld off sz x) ρ = pFld off sz (ρ x) := nr rfl
@[simp] theorem cpure_iaddr {sz : Nat} {x i : Operand} : cpure (.iaddr sz x i) ρ = pIaddr sz (ρ x) (ρ i) := nr rfl
@[simp] theorem cpure_iaddrA {len sz : Nat} {x i : Operand} : cpure (.iaddrA len sz x i) ρ = pIaddrA len sz (ρ x) (ρ i) := nr rfl
@[simp] theorem cpure_idxS {x i : Operand} : cpure (.idxS x i) ρ = pIdxS (ρ x) (ρ i) := nr rfl
@[simp] theorem cpure_idxA {len sz : Nat} {agg : Bool} {x i : Operand} : cpure (.idxA len sz agg x i) ρ = pIdxA len sz agg (ρ x) (ρ i) := nr rfl
@[simp] theorem cpure_slS {x : Operand} {lo hi : Option Operand} : cpure (.slS x lo hi) ρ = pSlS (ρ x) (lo.map ρ) (hi.map ρ) := nr rfl
@[simp] theorem cpure_sl {sz : Nat} {x : Operand} {lo hi mx : Option Operand} : cpure (.sl sz x lo hi mx) ρ = pSl sz (ρ x) (lo.map ρ) (hi.map ρ) (mx.map ρ) := nr rfl
@[simp] theorem cpure_ext {x : Operand} {i : Nat} : cpure (.ext x i) ρ = pExt (ρ x) i := nr rfl
@[simp] theorem cpure_mkif {t : TypeId} {x : Operand} : cpure (.mkif t x) ρ = some (.iface t (ρ x)) := nr rfl
@[simp] theorem cpure_mkfn {fn : Fn} {a b : List Operand} : cpure (.mkfn fn a b) ρ = some (.func fn ⟨mapOs ρ a⟩ ⟨mapOs ρ b⟩) := nr rfl
@[simp] theorem cpure_lenS {x : Operand} : cpure (.lenS x) ρ = pLenS (ρ x) := nr rfl
@[simp] theorem cpure_lenSl {x : Operand} : cpure (.lenSl x) ρ = pLenSl (ρ x) := nr rfl
@[simp] theorem cpure_lenC {n : Nat} : cpure (.lenC n) ρ = some (.int .i64 (.ofNat n)) := nr rfl
@[simp] theorem cpure_mn {x y : Operand} : cpure (.mn x y) ρ = pMn (ρ x) (ρ y) := nr rfl
@[simp] theorem cpure_mx {x y : Operand} : cpure (.mx x y) ρ = pMx (ρ x) (ρ y) := nr rfl
@[simp] theorem cload_var {n : Option Nat} {a : Operand} : cload E h (.var n a) ρ = lVar E h n (ρ a) := nr rfl
@[simp] theorem cload_b2s {x : Operand} : cload E h (.b2s x) ρ = lB2s E h (ρ x) := nr rfl
@[simp] theorem cnew_alloc {z : List Value} : cnew id (.alloc z) ρ = some (ptr0 id, fresh z) := nr rfl
@[simp] theorem cnew_box {n : Nat} {x : Operand} : cnew id (.box n x) ρ = nBox id n (ρ x) := nr rfl
@[simp] theorem cnew_bsl {z : List Value} {l : Nat} {ps : List (Nat × Nat × Operand)} : cnew id (.bsl z l ps) ρ = nBsl id l (fill z (mapPs ρ ps)) := nr rfl
@[simp] theorem cnew_msl {z : List Value} {n : Nat} {l c : Operand} : cnew id (.msl z n l c) ρ = nMsl id z n (ρ l) (ρ c) := nr rfl
@[simp] theorem cnew_s2b {x : Operand} : cnew id (.s2b x) ρ = nS2b id (ρ x) := nr rfl
@[simp] theorem cnew_iter {x : Operand} : cnew id (.iter x) ρ = nIter id (ρ x) := nr rfl
@[simp] theorem tceff_st {n : Nat} {a x : Operand} : ceff E call h (.st n a x) ρ = eSt h n (ρ a) (ρ x) := nr rfl
@[simp] theorem tceff_app {n : Nat} {a x : Operand} : ceff E call h (.app n a x) ρ = outR (capp E h n (ρ a) (ρ x)) := nr rfl
@[simp] theorem tceff_copy {n : Nat} {a x : Operand} : ceff E call h (.copy n a x) ρ = eCopy E h n (ρ a) (ρ x) := nr rfl
@[simp] theorem tceff_next {x : Operand} : ceff E call h (.next x) ρ = eNext h (ρ x) := nr rfl
@[simp] theorem tceff_call {f : FuncId} {args : List Operand} : ceff E call h (.call f args) ρ = call.fn f (mapOs ρ args) h := nr rfl
@[simp] theorem tceff_callv {g : Operand} {args : List Operand} : ceff E call h (.callv g args) ρ = eCallv call h (ρ g) (mapOs ρ args) := nr rfl
@[simp] theorem tceff_pan {x : Operand} : ceff E call h (.pan x) ρ = ePan h (ρ x) := nr rfl
@[simp] theorem mapOs_nil : mapOs ρ [] = [] := nr rfl
@[simp] theorem mapOs_cons {x : Operand} {r : List Operand} : mapOs ρ (x :: r) = ρ x :: mapOs ρ r := nr rfl
@[simp] theorem mapPs_nil : mapPs ρ [] = [] := nr rfl
@[simp] theorem mapPs_cons {i n : Nat} {x : Operand} {r : List (Nat × Nat × Operand)} : mapPs ρ ((i, n, x) :: r) = (i, n, ρ x) :: mapPs ρ r := nr rfl
end

/-! ### drawn regions, forward -/
def dP (r : Option Value) (d : Option Nat) (E : Env) (call : CallF) (base : Nat) (os : List COper) (i : Nat) (τ : Tau) (h : CH) (gs : List CH) (ls : List LRecT) (K : PostD) : Prop := match r with | some v => wD E call base os (i + 1) (setO d v τ) h gs ls K | none => False
def dL (lo hi : Nat) (l : LOp) (r : Option Value) (d : Option Nat) (E : Env) (call : CallF) (base : Nat) (os : List COper) (i : Nat) (τ : Tau) (h : CH) (gs : List CH) (ls : List LRecT) (K : PostD) : Prop := match r with | some v => wD E call base os (i + 1) (setO d v τ) h gs (⟨lo, hi, l, τ, v⟩ :: ls) K | none => False
def dE (r : Option (Out × CH)) (d : Option Nat) (E : Env) (call : CallF) (base : Nat) (os : List COper) (i : Nat) (τ : Tau) (gs : List CH) (ls : List LRecT) (K : PostD) : Prop := match r with | some (.ret v, h') => wD E call base os (i + 1) (setO d v τ) h' gs ls K | _ => False
def dN (id : Nat) (r : Option (Value × CObj)) (d : Option Nat) (E : Env) (call : CallF) (base : Nat) (os : List COper) (i : Nat) (τ : Tau) (h : CH) (gs : List CH) (ls : List LRecT) (K : PostD) : Prop := match r with | some (v, o) => wD E call base os (i + 1) (setO d v τ) (h.put id o) gs ls K | none => False
def dO (op : COp) (d : Option Nat) (E : Env) (call : CallF) (base : Nat) (os : List COper) (i : Nat) (τ : Tau) (h : CH) (gs : List CH) (ls : List LRecT) (K : PostD) : Prop :=
  match op with
  | .p p => dP (cpure p (cevT τ)) d E call base os i τ h gs ls K
  | .l lo hi l => dL lo hi l (cload E h l (cevT τ)) d E call base os i τ h gs ls K
  | .n n => dN (base + i) (cnew (base + i) n (cevT τ)) d E call base os i τ h gs ls K
  | .e _ e => dE (ceff E call h e (cevT τ)) d E call base os i τ (h :: gs) ls K
  | .bad => False
def dG (g : Value) (b : Bool) (op : COp) (d : Option Nat) (E : Env) (call : CallF) (base : Nat) (os : List COper) (i : Nat) (τ : Tau) (h : CH) (gs : List CH) (ls : List LRecT) (K : PostD) : Prop :=
  bif wants g b then dO op d E call base os i τ h gs ls K else wD E call base os (i + 1) (setO d undef τ) h (bif isE op then h :: gs else gs) ls K
section
variable {base i : Nat} {os : List COper} {τ : Tau} {h : CH} {gs : List CH} {ls : List LRecT} {K : PostD} {d : Option Nat}
@[simp] theorem wT_rgd {ops : List COper} {Q : Post3} : wT E call N (.rg true ops) τ h Q = wD E call h.next ops 0 τ ⟨h.next + ops.length, h.objs⟩ [] [] (endD E ops Q) := nr rfl
@[simp] theorem wD_nil : wD E call base [] i τ h gs ls K = K τ h (h :: gs) ls := nr rfl
@[simp] theorem wD_cons {op : COp} : wD E call base (⟨d, none, op⟩ :: os) i τ h gs ls K = dO op d E call base os i τ h gs ls K := by
  simp only [wD, cond_true]
  cases op with
  | p p => simp only [dO]; cases cpure p (cevT τ) <;> rfl
  | l lo hi l => simp only [dO]; cases cload E h l (cevT τ) <;> rfl
  | n n => simp only [dO]; cases cnew (base + i) n (cevT τ) <;> rfl
  | e b e => simp only [dO]; rfl
  | bad => rfl
@[simp] theorem wD_guard {t : Nat} {b : Bool} {op : COp} : wD E call base (⟨d, some (t, b), op⟩ :: os) i τ h gs ls K = dG (τ t) b op d E call base os i τ h gs ls K := by
  unfold dG
  rw [← wD_cons]
  simp only [wD, cond_true]
@[simp] theorem dO_p {p : POp} : dO (.p p) d E call base os i τ h gs ls K = dP (cpure p (cevT τ)) d E call base os i τ h gs ls K := nr rfl
@[simp] theorem dO_l {lo hi : Nat} {p : LOp} : dO (.l lo hi p) d E call base os i τ h gs ls K = dL lo hi p (cload E h p (cevT τ)) d E call base os i τ h gs ls K := nr rfl
@[simp] theorem dO_n {p : NOp} : dO (.n p) d E call base os i τ h gs ls K = dN (base + i) (cnew (base + i) p (cevT τ)) d E call base os i τ h gs ls K := nr rfl
@[simp] theorem dO_e {b : Bool} {p : EOp} : dO (.e b p) d E call base os i τ h gs ls K = dE (ceff E call h p (cevT τ)) d E call base os i τ (h :: gs) ls K := nr rfl
@[simp] theorem dP_some {v : Value} : dP (some v) d E call base os i τ h gs ls K = wD E call base os (i + 1) (setO d v τ) h gs ls K := nr rfl
@[simp] theorem dL_some {lo hi : Nat} {l : LOp} {v : Value} : dL lo hi l (some v) d E call base os i τ h gs ls K = wD E call base os (i + 1) (setO d v τ) h gs (⟨lo, hi, l, τ, v⟩ :: ls) K := nr rfl
@[simp] theorem dN_some {id : Nat} {v : Value} {o : CObj} : dN id (some (v, o)) d E call base os i τ h gs ls K = wD E call base os (i + 1) (setO d v τ) (h.put id o) gs ls K := nr rfl
@[simp] theorem dE_ret {v : Value} {h' : CH} : dE (some (.ret v, h')) d E call base os i τ gs ls K = wD E call base os (i + 1) (setO d v τ) h' gs ls K := nr rfl
@[simp] theorem dG_tt {op : COp} : dG (.bool true) true op d E call base os i τ h gs ls K = dO op d E call base os i τ h gs ls K := nr rfl
@[simp] theorem dG_ff {op : COp} : dG (.bool false) false op d E call base os i τ h gs ls K = dO op d E call base os i τ h gs ls K := nr rfl
@[simp] theorem dG_tf {op : COp} : dG (.bool true) false op d E call base os i τ h gs ls K = wD E call base os (i + 1) (setO d undef τ) h (bif isE op then h :: gs else gs) ls K := nr rfl
@[simp] theorem dG_ft {op : COp} : dG (.bool false) true op d E call base os i τ h gs ls K = wD E call base os (i + 1) (setO d undef τ) h (bif isE op then h :: gs else gs) ls K := nr rfl
end
@[simp] theorem isE_p {p : POp} : isE (.p p) = false := nr rfl
@[simp] theorem isE_l {lo hi : Nat} {p : LOp} : isE (.l lo hi p) = false := nr rfl
@[simp] theorem isE_n {p : NOp} : isE (.n p) = false := nr rfl
@[simp] theorem isE_e {b : Bool} {p : EOp} : isE (.e b p) = true := nr rfl
theorem endD_mk {ops : List COper} {Q : Post3} {τ : Tau} {h : CH} {gs : List CH} {ls : List LRecT} (h1 : ∀ r ∈ ls, lchkT E gs.reverse r) (h2 : pairOk ops (cevT τ) = true) (h3 : Q .normal τ h) : endD E ops Q τ h gs ls := ⟨h1, h2, h3⟩
mutual
/-- Values that are themselves. -/
def selfV : Value → Bool
  | .bool _ => true
  | .int _ _ => true
  | .string _ => true
  | .pointer _ => true
  | .slice _ _ _ => true
  | .map _ => true
  | .nilFunc => true
  | .nilIface => true
  | .agg ⟨l⟩ => selfVs l
  | .tuple ⟨l⟩ => selfVs l
  | _ => false
def selfVs : List Value → Bool
  | [] => true
  | v :: r => selfV v && selfVs r
end
theorem aeqb_refl (a : Addr) : aeqb a a = true := by
  obtain ⟨b, o, s⟩ := a
  cases s <;> simp [aeqb]
mutual
theorem veqb_self : ∀ {v : Value}, selfV v = true → veqb v v = true
  | .bool true, _ => rfl
  | .bool false, _ => rfl
  | .int k n, _ => by simp only [veqb, ieq_eq, Bool.and_eq_true]; exact ⟨by simp [keq], by simp⟩
  | .string s, _ => by simp only [veqb, lsEq_eq]; simp
  | .pointer none, _ => rfl
  | .pointer (some a), _ => by simp only [veqb, aeqb_refl]
  | .slice none n c, _ => by simp [veqb]
  | .slice (some a) n c, _ => by simp [veqb, aeqb_refl]
  | .map none, _ => rfl
  | .map (some a), _ => by simp [veqb]
  | .nilFunc, _ => rfl
  | .nilIface, _ => rfl
  | .agg ⟨l⟩, h => by simp only [selfV] at h; simp only [veqb]; exact veqbs_self h
  | .tuple ⟨l⟩, h => by simp only [selfV] at h; simp only [veqb]; exact veqbs_self h
  | .float _ _, h => by simp [selfV] at h
  | .complex _ _ _, h => by simp [selfV] at h
  | .chan _, h => by simp [selfV] at h
  | .func _ _ _, h => by simp [selfV] at h
  | .iface _ _, h => by simp [selfV] at h
theorem veqbs_self : ∀ {l : List Value}, selfVs l = true → veqbs l l = true
  | [], _ => rfl
  | v :: r, h => by
    simp only [selfVs, Bool.and_eq_true] at h
    simp only [veqbs, veqb_self h.1, veqbs_self h.2, Bool.and_self]
end
/-! ### calls -/
/-- A call's end. -/
def Fc (call : CallF) (f : FuncId) (args : List Value) (h : CH) (Q : Value → CH → Prop) : Prop := ∃ v h', call.fn f args h = some (.ret v, h') ∧ Q v h'
theorem dE_call {f : FuncId} {args : List Value} {h : CH} {d : Option Nat} {base i : Nat} {os : List COper} {τ : Tau} {gs : List CH} {ls : List LRecT} {K : PostD} {R : Value → CH → Prop} (hc : Fc call f args h R) (hk : ∀ v h', R v h' → wD E call base os (i + 1) (setO d v τ) h' gs ls K) : dE (call.fn f args h) d E call base os i τ gs ls K := by
  obtain ⟨v, h', e, hq⟩ := hc
  rw [e]
  exact hk v h' hq
theorem eT_call {f : FuncId} {args : List Value} {h : CH} {d : Option Nat} {os : List COper} {τ : Tau} {Q : Post3} {R : Value → CH → Prop} (hc : Fc call f args h R) (hk : ∀ v h', R v h' → wO E call os (setO d v τ) h' Q) : eT (call.fn f args h) d E call os τ Q := by
  obtain ⟨v, h', e, hq⟩ := hc
  rw [e]
  exact hk v h' hq
def resT (E : Env) (τ : Tau) (h : CH) : List CRes → Option (List Value)
  | [] => some []
  | r :: rs => match (match r with | .tmp t => some (τ t) | .cell a n => lVar E h n (τ a)), resT E τ h rs with
    | some v, some vs => some (v :: vs)
    | _, _ => none
def outV : List Value → Value
  | [v] => v
  | vs => .tuple ⟨vs⟩
def fT (E : Env) (rs : List CRes) (Q : Value → CH → Prop) : Post3 := fun x τ h =>
  match x with
  | .normal => ∃ vs, resT E τ h rs = some vs ∧ Q (outV vs) h
  | .ret => ∃ vs, resT E τ h rs = some vs ∧ Q (outV vs) h
  | _ => False
theorem fT_one {t : Nat} {Q : Value → CH → Prop} {τ : Tau} {h : CH} : fT E [.tmp t] Q .ret τ h = Q (τ t) h := by simp [fT, resT, outV]
theorem fT_two {t u : Nat} {Q : Value → CH → Prop} {τ : Tau} {h : CH} : fT E [.tmp t, .tmp u] Q .ret τ h = Q (.tuple ⟨[τ t, τ u]⟩) h := by simp [fT, resT, outV]
theorem fT_three {t u v : Nat} {Q : Value → CH → Prop} {τ : Tau} {h : CH} : fT E [.tmp t, .tmp u, .tmp v] Q .ret τ h = Q (.tuple ⟨[τ t, τ u, τ v]⟩) h := by simp [fT, resT, outV]
attribute [simp] fT_one fT_two fT_three
theorem resT_eq {ct : List Value} {h : CH} : ∀ (rs : List CRes), cresults E ct h rs = resT E (cget ct) h rs
  | [] => rfl
  | r :: rs => by
    simp only [cresults, resT, resT_eq rs]
    cases r <;> rfl
/-- The function f is this one, and nobody answers for it. -/
structure HasF (E : Env) (I : CallF → CallF) (f : FuncId) (fn : CFun) : Prop where
  tab : E.tab.get f = some fn
  io : ∀ call args h, (I call).fn f args h = none
section
variable {I : CallF → CallF} {f : FuncId} {fn : CFun} {d : Nat} {h : CH} {Q : Value → CH → Prop}
theorem HasF.body (hf : HasF E I f fn) (hok : codeOk fn.ntmps fn.body = true) {args : List Value} (ha : args.length ≤ fn.ntmps)
    (hw : ∀ τ : Tau, (∀ i, i < args.length → τ i = cget args i) → wT E (ccall E I N d) N fn.body τ h (fT E fn.results Q)) : Fc (ccall E I N (d + 1)) f args h Q := by
  have hl : (args ++ List.replicate (fn.ntmps - args.length) undef).length = fn.ntmps := by simp; omega
  obtain ⟨x, s, he, hq, _⟩ := wT_sound hok hl (hw _ fun i hi => by rw [cget_eq, cget_eq, List.getD_eq_getElem?_getD, List.getD_eq_getElem?_getD, List.getElem?_append_left hi])
  unfold Fc
  simp only [ccall, hf.io, hf.tab, he]
  have key : ∀ {vs : List Value}, resT E (cget s.1) s.2 fn.results = some vs → finish E fn s.1 s.2 = some (.ret (outV vs), s.2) := by
    intro vs hr
    unfold finish
    rw [resT_eq, hr]
    unfold outV
    split <;> simp_all
  cases x with
  | normal =>
    obtain ⟨vs, hr, hq⟩ := hq
    exact ⟨_, _, key hr, hq⟩
  | ret =>
    obtain ⟨vs, hr, hq⟩ := hq
    exact ⟨_, _, key hr, hq⟩
  | exit i => exact hq.elim
  | pan v => exact hq.elim
end

/-! ### numbers, strings, slices -/
theorem keq_refl (k : IntKind) : keq k k = true := by simp [keq]
@[simp] theorem pBin_lss {k : IntKind} {a b : Int} : pBin .lss (.int k a) (.int k b) = some (.bool (decide (a < b))) := by
  simp only [pBin, isShift, keq_refl, cond_false, cond_true, cbin, ile_eq]; congr 2; rw [← decide_not]; congr 1; exact propext Int.not_le
@[simp] theorem pBin_leq {k : IntKind} {a b : Int} : pBin .leq (.int k a) (.int k b) = some (.bool (decide (a ≤ b))) := by
  simp only [pBin, isShift, keq_refl, cond_false, cond_true, cbin, ile_eq]
@[simp] theorem pBin_gtr {k : IntKind} {a b : Int} : pBin .gtr (.int k a) (.int k b) = some (.bool (decide (b < a))) := by
  simp only [pBin, isShift, keq_refl, cond_false, cond_true, cbin, ile_eq]; congr 2; rw [← decide_not]; congr 1; exact propext Int.not_le
@[simp] theorem pBin_geq {k : IntKind} {a b : Int} : pBin .geq (.int k a) (.int k b) = some (.bool (decide (b ≤ a))) := by
  simp only [pBin, isShift, keq_refl, cond_false, cond_true, cbin, ile_eq]
@[simp] theorem pBin_eql {k : IntKind} {a b : Int} : pBin .eql (.int k a) (.int k b) = some (.bool (decide (a = b))) := by
  simp only [pBin, isShift, keq_refl, cond_false, cond_true, cbin, ieq_eq]; rfl
@[simp] theorem pBin_neq {k : IntKind} {a b : Int} : pBin .neq (.int k a) (.int k b) = some (.bool (decide (a ≠ b))) := by
  simp only [pBin, isShift, keq_refl, cond_false, cond_true, cbin, ieq_eq, decide_not]; rfl
@[simp] theorem pBin_add {k : IntKind} {a b : Int} : pBin .add (.int k a) (.int k b) = some (.int k (cwrap k (a + b))) := by
  simp only [pBin, isShift, keq_refl, cond_false, cond_true, cbin]
@[simp] theorem pBin_sub {k : IntKind} {a b : Int} : pBin .sub (.int k a) (.int k b) = some (.int k (cwrap k (a - b))) := by
  simp only [pBin, isShift, keq_refl, cond_false, cond_true, cbin]
@[simp] theorem pBin_mul {k : IntKind} {a b : Int} : pBin .mul (.int k a) (.int k b) = some (.int k (cwrap k (a * b))) := by
  simp only [pBin, isShift, keq_refl, cond_false, cond_true, cbin]
theorem pBin_quo {k : IntKind} {a b : Int} (hb : b ≠ 0) : pBin .quo (.int k a) (.int k b) = some (.int k (cwrap k (a.tdiv b))) := by
  have : ieq b 0 = false := by rw [ieq_eq]; simpa using hb
  simp only [pBin, isShift, keq_refl, cond_false, cond_true, cbin, this]
theorem pBin_rem {k : IntKind} {a b : Int} (hb : b ≠ 0) : pBin .rem (.int k a) (.int k b) = some (.int k (a.tmod b)) := by
  have : ieq b 0 = false := by rw [ieq_eq]; simpa using hb
  simp only [pBin, isShift, keq_refl, cond_false, cond_true, cbin, this]
theorem cwrap_id {k : IntKind} {n : Int} (h1 : kmin k ≤ n) (h2 : n ≤ kmax k) : cwrap k n = n := by
  unfold cwrap
  rw [ile_eq, ile_eq, decide_eq_true h1, decide_eq_true h2]; rfl
theorem wrap_i64 {n : Int} (h1 : -9223372036854775808 ≤ n) (h2 : n ≤ 9223372036854775807) : cwrap .i64 n = n := cwrap_id (k := .i64) h1 h2
@[simp] theorem pPick_b {c : Bool} {a b : Value} : pPick (.bool c) a b = some (if c = true then a else b) := by cases c <;> rfl
@[simp] theorem pUn_not {b : Bool} : pUn .not (.bool b) = some (.bool (!b)) := nr rfl
@[simp] theorem pBin_seq {a b : List UInt8} : pBin .eql (.string (mkstr a)) (.string (mkstr b)) = some (.bool (decide (a = b))) := by
  simp only [pBin, cstr, sbytes_mkstr, lsEq_eq]; congr 2; rw [Bool.eq_iff_iff]; simp
@[simp] theorem pBin_sne {a b : List UInt8} : pBin .neq (.string (mkstr a)) (.string (mkstr b)) = some (.bool (decide (a ≠ b))) := by
  simp only [pBin, cstr, sbytes_mkstr, lsEq_eq, decide_not]; congr 3; rw [Bool.eq_iff_iff]; simp
@[simp] theorem pLenS_mk {l : List UInt8} : pLenS (.string (mkstr l)) = some (.int .i64 (l.length : Nat)) := nr rfl
@[simp] theorem pLenSl_mk {a : Option Addr} {n c : Nat} : pLenSl (.slice a n c) = some (.int .i64 (n : Nat)) := nr rfl
@[simp] theorem pFaddr_mk {off b o : Nat} {t : Option Nat} : pFaddr off (.pointer (some ⟨b, o, t⟩)) = some (.pointer (some ⟨b, o + off, t⟩)) := nr rfl
theorem cidx_ok {k : IntKind} {n len : Nat} (h : n < len) : cidx (.int k (n : Nat)) len = some n := by
  show (bif Nat.blt n len then some n else none) = some n
  rw [show Nat.blt n len = true by rw [Nat.blt_eq]; exact h]; rfl
theorem pIaddr_mk {sz b o n C j : Nat} {t : Option Nat} {k : IntKind} (h : j < n) : pIaddr sz (.slice (some ⟨b, o, t⟩) n C) (.int k (j : Nat)) = some (.pointer (some ⟨b, o + j * sz, t⟩)) := by
  simp only [pIaddr, pPtr, cidx_ok h]; rfl
theorem pIdxS_mk {l : List UInt8} {j : Nat} {k : IntKind} (h : j < l.length) : pIdxS (.string (mkstr l)) (.int k (j : Nat)) = some (.int .u8 ((l[j]'h).toNat : Nat)) := by
  simp only [pIdxS, sbytes_mkstr, cidx_ok h, List.getElem?_eq_getElem h]; rfl
end Go.Cl

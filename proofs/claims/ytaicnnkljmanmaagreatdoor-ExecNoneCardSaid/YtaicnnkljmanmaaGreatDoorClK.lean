/- A faster evaluator still: strict, in the style of continuations; it answers as the others do. -/
import Derived.Test.YtaicnnkljmanmaaGreatDoorClFastEq
namespace Go.Cl
open Go
/-! ### trees -/
noncomputable def fgetO {α : Type} (t : Tr α) : Nat → Option α :=
  @Tr.rec α (fun _ => Nat → Option α) (fun _ => none)
    (fun _ v _ l r k => @Nat.rec (fun _ => Option α) v (fun m _ => @Bool.rec (fun _ => Option α) (r (m / 2)) (l (m / 2)) (Nat.beq (m % 2) 0)) k) t
theorem fgetO_eq {α : Type} (t : Tr α) : ∀ j, fgetO t j = t.get j := by
  induction t with
  | leaf => intro j; rfl
  | node l v r ihl ihr =>
    intro j
    cases j with
    | zero => rfl
    | succ m =>
      rw [get_succ]
      show @Bool.rec (fun _ => Option α) (fgetO r (m / 2)) (fgetO l (m / 2)) (Nat.beq (m % 2) 0) = _
      cases Nat.beq (m % 2) 0
      · exact ihr _
      · exact ihl _
noncomputable def fsetO {α : Type} (t : Tr α) : Nat → α → Tr α :=
  @Tr.rec α (fun _ => Nat → α → Tr α) (fun k x => Tr.set .leaf k x)
    (fun l v r il ir k x => @Nat.rec (fun _ => Tr α) (.node l (some x) r) (fun m _ => @Bool.rec (fun _ => Tr α) (.node l v (ir (m / 2) x)) (.node (il (m / 2) x) v r) (Nat.beq (m % 2) 0)) k) t
theorem setF_more {α : Type} : ∀ (f : Nat) (t : Tr α) (k : Nat) (x : α) (g : Nat), k < f → k < g → Tr.setF f t k x = Tr.setF g t k x := by
  intro f
  induction f with
  | zero => intro t k x g h; omega
  | succ f ih =>
    intro t k x g h h'
    cases g with
    | zero => omega
    | succ g =>
      cases t with
      | leaf =>
        simp only [Tr.setF]
        cases hk : Nat.beq k 0 with
        | true => rfl
        | false =>
          have hk0 : k ≠ 0 := fun e => by rw [e] at hk; cases hk
          simp only [cond_false]
          rw [ih .leaf (k / 2) x g (by omega) (by omega), ih .leaf (k / 2 - 1) x g (by omega) (by omega)]
      | node l v r =>
        simp only [Tr.setF]
        cases hk : Nat.beq k 0 with
        | true => rfl
        | false =>
          have hk0 : k ≠ 0 := fun e => by rw [e] at hk; cases hk
          simp only [cond_false]
          rw [ih l (k / 2) x g (by omega) (by omega), ih r (k / 2 - 1) x g (by omega) (by omega)]
theorem set_succ {α : Type} (l : Tr α) (v : Option α) (r : Tr α) (m : Nat) (x : α) : (Tr.node l v r).set (m + 1) x = bif Nat.beq (m % 2) 0 then .node (l.set (m / 2) x) v r else .node l v (r.set (m / 2) x) := by
  have h0 : Nat.beq (m + 1) 0 = false := rfl
  show Tr.setF (m + 1 + 1) (.node l v r) (m + 1) x = _
  rw [Tr.setF]
  rw [h0]
  simp only [cond_false, Tr.set]
  by_cases hm : m % 2 = 0
  · have h1 : Nat.beq (m % 2) 0 = true := by rw [Nat.beq_eq]; exact hm
    have h2 : Nat.beq ((m + 1) % 2) 1 = true := by rw [Nat.beq_eq]; omega
    rw [h1, h2]
    simp only [cond_true]
    rw [show (m + 1) / 2 = m / 2 from by omega, setF_more (m + 1) l (m / 2) x (m / 2 + 1) (by omega) (by omega)]
  · have h1 : Nat.beq (m % 2) 0 = false := by rw [← Bool.not_eq_true, Nat.beq_eq]; exact hm
    have h2 : Nat.beq ((m + 1) % 2) 1 = false := by rw [← Bool.not_eq_true, Nat.beq_eq]; omega
    rw [h1, h2]
    simp only [cond_false]
    rw [show (m + 1) / 2 - 1 = m / 2 from by omega, setF_more (m + 1) r (m / 2) x (m / 2 + 1) (by omega) (by omega)]
theorem fsetO_eq {α : Type} (t : Tr α) : ∀ k x, fsetO t k x = t.set k x := by
  induction t with
  | leaf => intro k x; rfl
  | node l v r ihl ihr =>
    intro k x
    cases k with
    | zero => rfl
    | succ m =>
      rw [set_succ]
      show @Bool.rec (fun _ => Tr α) (.node l v (fsetO r (m / 2) x)) (.node (fsetO l (m / 2) x) v r) (Nat.beq (m % 2) 0) = _
      rw [boolrec, ihl, ihr]
noncomputable def fsetK {α β : Type} (t : Tr α) : Nat → α → (Tr α → β) → β :=
  @Tr.rec α (fun _ => Nat → α → (Tr α → β) → β) (fun k x c => @Nat.rec (fun _ => β) (c (.node .leaf (some x) .leaf)) (fun m _ => c (Tr.set .leaf (Nat.succ m) x)) k)
    (fun l v r il ir k x c => @Nat.rec (fun _ => β) (c (.node l (some x) r)) (fun m _ => @Bool.rec (fun _ => β) (ir (m / 2) x fun r => c (.node l v r)) (il (m / 2) x fun l => c (.node l v r)) (Nat.beq (m % 2) 0)) k) t
theorem fsetK_eq {α β : Type} (t : Tr α) : ∀ k x (c : Tr α → β), fsetK t k x c = c (t.set k x) := by
  induction t with
  | leaf => intro k x c; cases k <;> rfl
  | node l v r ihl ihr =>
    intro k x c
    cases k with
    | zero => rfl
    | succ m =>
      rw [set_succ]
      show @Bool.rec (fun _ => β) (fsetK r (m / 2) x fun r => c (.node l v r)) (fsetK l (m / 2) x fun l => c (.node l v r)) (Nat.beq (m % 2) 0) = _
      rw [boolrec, ihl, ihr]
      cases Nat.beq (m % 2) 0 <;> rfl
theorem fset_eq (t : Tr Value) (k : Nat) (x : Value) : fset t k x = t.set k x := fsetO_eq t k x
/-! ### strictness -/
noncomputable def forceL {β : Type} (l : List Value) : (List Value → β) → β :=
  @List.rec Value (fun _ => (List Value → β) → β) (fun k => k []) (fun v _ ih k => forceV v fun v => ih fun r => k (v :: r)) l
theorem forceL_eq {β : Type} (l : List Value) : ∀ k : List Value → β, forceL l k = k l := by
  induction l with
  | nil => intro k; rfl
  | cons v l ih =>
    intro k
    show forceV v (fun v => forceL l fun r => k (v :: r)) = _
    rw [forceV_eq, ih]
noncomputable def forceNs {β : Type} (l : List Nat) : (List Nat → β) → β :=
  @List.rec Nat (fun _ => (List Nat → β) → β) (fun k => k []) (fun v _ ih k => forceN v fun v => ih fun r => k (v :: r)) l
theorem forceNs_eq {β : Type} (l : List Nat) : ∀ k : List Nat → β, forceNs l k = k l := by
  induction l with
  | nil => intro k; rfl
  | cons v l ih =>
    intro k
    show forceN v (fun v => forceNs l fun r => k (v :: r)) = _
    rw [forceN_eq, ih]
/-- A value, an aggregate's parts too. -/
noncomputable def forceW {β : Type} (v : Value) (k : Value → β) : β :=
  match v with
  | .agg ⟨l⟩ => forceL l fun l => k (.agg ⟨l⟩)
  | .tuple ⟨l⟩ => forceL l fun l => k (.tuple ⟨l⟩)
  | v => forceV v k
theorem forceW_eq {β : Type} (v : Value) (k : Value → β) : forceW v k = k v := by
  unfold forceW
  split
  · exact forceL_eq _ _
  · exact forceL_eq _ _
  · exact forceV_eq _ _
noncomputable def forceOb {β : Type} (o : CObj) (k : CObj → β) : β :=
  match o with
  | .cells c ep wep his ro => forceL c fun c => forceN ep fun ep => forceN wep fun wep => forceNs his fun his => k (.cells c ep wep his ro)
  | .iter s pos => forceN pos fun pos => k (.iter s pos)
  | o => k o
theorem forceOb_eq {β : Type} (o : CObj) (k : CObj → β) : forceOb o k = k o := by
  cases o <;> simp only [forceOb, forceL_eq, forceN_eq, forceNs_eq]
/-! ### the heap -/
noncomputable def CH.getK (h : CH) (id : Nat) : Option CObj := fgetO h.objs id
theorem CH.getK_eq (h : CH) (id : Nat) : h.getK id = h.get id := fgetO_eq _ _
noncomputable def hputK {β : Type} (h : CH) (id : Nat) (o : CObj) (k : CH → β) : β := forceOb o fun o => @CH.rec (fun _ => β) (fun nx ob => fsetK ob id o fun ob => k ⟨nx, ob⟩) h
theorem hputK_eq {β : Type} (h : CH) (id : Nat) (o : CObj) (k : CH → β) : hputK h id o k = k (h.put id o) := by
  unfold hputK
  rw [forceOb_eq]
  show fsetK h.objs id o _ = _
  rw [fsetK_eq]; rfl
noncomputable def haddK {β : Type} (h : CH) (o : CObj) (k : CH → β) : β := forceOb o fun o => @CH.rec (fun _ => β) (fun nx ob => fsetK ob nx o fun ob => forceN (Nat.succ nx) fun nx => k ⟨nx, ob⟩) h
theorem haddK_eq {β : Type} (h : CH) (o : CObj) (k : CH → β) : haddK h o k = k (h.add o) := by
  unfold haddK
  rw [forceOb_eq]
  show fsetK h.objs h.next o _ = _
  rw [fsetK_eq, forceN_eq]; rfl
noncomputable def cviewK (E : Env) (h : CH) (a : Addr) : Option (List Value) :=
  match a with
  | ⟨b, off, some t⟩ => match h.getK b with
    | some o => (view o t).map (·.drop off)
    | none => none
  | ⟨g, off, none⟩ => (E.glob g).map (·.drop off)
theorem cviewK_eq (E : Env) (h : CH) (a : Addr) : cviewK E h a = cview E h a := by
  obtain ⟨b, o, s⟩ := a
  cases s with
  | none => rfl
  | some t => simp only [cviewK, cview, CH.getK_eq]; rfl
noncomputable def lVarK (E : Env) (h : CH) (n : Option Nat) (a : Value) : Option Value :=
  match a with
  | .pointer (some a) => match cviewK E h a with
    | some l => match n with
      | none => l.head?
      | some n => (takeN n l).map fun c => .agg ⟨c⟩
    | none => none
  | _ => none
theorem lVarK_eq (E : Env) (h : CH) (n : Option Nat) (a : Value) : lVarK E h n a = lVar E h n a := by
  cases a with
  | pointer p =>
    cases p with
    | none => rfl
    | some a => simp only [lVarK, lVar, cviewK_eq]; rfl
  | _ => rfl
noncomputable def cloadK (E : Env) (h : CH) (o : LOp) (ρ : Operand → Value) : Option Value :=
  match o with
  | .var n a => lVarK E h n (ρ a)
  | o => cload E h o ρ
theorem cloadK_eq (E : Env) (h : CH) (o : LOp) (ρ : Operand → Value) : cloadK E h o ρ = cload E h o ρ := by
  cases o with
  | var n a => exact lVarK_eq _ _ _ _
  | _ => rfl
/-- What an operation does to the heap. -/
inductive Dl where
  | no
  | put (id : Nat) (o : CObj)
  | add (o : CObj)
def Dl.to (d : Dl) (h : CH) : CH := match d with | .no => h | .put id o => h.put id o | .add o => h.add o
noncomputable def Dl.toK {β : Type} (d : Dl) (h : CH) (k : CH → β) : β := match d with | .no => k h | .put id o => hputK h id o k | .add o => haddK h o k
theorem Dl.toK_eq {β : Type} (d : Dl) (h : CH) (k : CH → β) : d.toK h k = k (d.to h) := by
  cases d with
  | no => rfl
  | put id o => exact hputK_eq _ _ _ _
  | add o => exact haddK_eq _ _ _
/-- Write cells from off on. -/
noncomputable def putAtK (c : List Value) (off : Nat) (xs : List Value) : Option (List Value) := putAt c off xs
noncomputable def cwriteD (h : CH) (a : Addr) (xs : List Value) : Option Dl :=
  match a with
  | ⟨b, off, some t⟩ => match h.getK b with
    | some (.cells c ep _ his false) =>
      bif Nat.beq t ep && ones xs then (putAt c off xs).map fun c => .put b (.cells c ep ep his false) else none
    | _ => none
  | _ => none
theorem cwriteD_eq (h : CH) (a : Addr) (xs : List Value) : cwrite h a xs = (cwriteD h a xs).map fun d => d.to h := by
  obtain ⟨b, off, s⟩ := a
  cases s with
  | none => rfl
  | some t =>
    simp only [cwrite, cwriteD, CH.getK_eq]
    cases h.get b with
    | none => rfl
    | some o =>
      cases o with
      | cells c ep wep his ro =>
        cases ro with
        | true => rfl
        | false =>
          dsimp only
          cases Nat.beq t ep && ones xs with
          | false => rfl
          | true => simp only [cond_true, Option.map_map]; rfl
      | _ => rfl
def outD (v : Value) (d : Option Dl) : Option (Out × Dl) := match d with | some d => some (.ret v, d) | none => none
theorem outD_eq (v : Value) (h : CH) (d : Option Dl) : outH v (d.map fun d => d.to h) = (outD v d).map fun r => (r.1, r.2.to h) := by cases d <;> rfl
noncomputable def eStD (h : CH) (n : Nat) (a x : Value) : Option (Out × Dl) :=
  match a with
  | .pointer (some a) => bif Nat.beq (cells x).length n then outD undef (cwriteD h a (cells x)) else none
  | _ => none
theorem eStD_eq (h : CH) (n : Nat) (a x : Value) : eSt h n a x = (eStD h n a x).map fun r => (r.1, r.2.to h) := by
  cases a with
  | pointer p =>
    cases p with
    | none => rfl
    | some a =>
      simp only [eSt, eStD]
      cases Nat.beq (cells x).length n with
      | false => rfl
      | true => simp only [cond_true, cwriteD_eq, outD_eq]
  | _ => rfl
noncomputable def srcCellsK (E : Env) (h : CH) (sz : Nat) (n : Nat) (x : Value) : Option (List Value) :=
  match x with
  | .slice none _ _ => some []
  | .slice (some a) _ _ => (cviewK E h a).bind (takeN (n * sz))
  | .string s => bif Nat.beq sz 1 then some (((sbytes s).take n).map fun u => .int .u8 (.ofNat u.toNat)) else none
  | _ => none
theorem srcCellsK_eq (E : Env) (h : CH) (sz n : Nat) (x : Value) : srcCellsK E h sz n x = srcCells E h sz n x := by
  cases x with
  | slice a n c =>
    cases a with
    | none => rfl
    | some a => simp only [srcCellsK, srcCells, cviewK_eq]
  | _ => rfl
noncomputable def cappD (E : Env) (h : CH) (sz : Nat) (s x : Value) : Option (Out × Dl) :=
  match srcLen x with
  | none => none
  | some m =>
    match srcCellsK E h sz m x with
    | none => none
    | some xs =>
      match s with
      | .slice none _ _ =>
        bif Nat.beq m 0 then some (.ret s, .no)
        else bif Nat.ble m maxL then some (.ret (.slice (some ⟨h.next, 0, some 0⟩) m (mkC m sz false)), .add (fresh xs)) else none
      | .slice (some ⟨b, off, st⟩) n C =>
        bif Nat.beq m 0 then some (.ret s, .no)
        else bif !Nat.ble (n + m) maxL then none
        else bif clipC n C then
          match (cviewK E h ⟨b, off, st⟩).bind (takeN (n * sz)) with
          | some old => some (.ret (.slice (some ⟨h.next, 0, some 0⟩) (n + m) (mkC (n + m) sz false)), .add (fresh (old ++ xs)))
          | none => none
        else
          match st, h.getK b with
          | some t, some (.cells c ep wep his false) =>
            let e := off + n * sz
            bif Nat.beq t ep && Nat.ble e c.length && ones xs && Nat.beq (szC n C) sz then
              some (.ret (.slice (some ⟨b, off, some (ep + 1)⟩) (n + m) (mkC (n + m) sz false)),
                .put b (.cells (c.take e ++ xs) (ep + 1) (bif Nat.beq e c.length then wep else ep + 1) (c.length :: his) false))
            else none
          | _, _ => none
      | _ => none
theorem cappD_eq (E : Env) (h : CH) (sz : Nat) (s x : Value) : outR (capp E h sz s x) = (cappD E h sz s x).map fun r => (r.1, r.2.to h) := by
  unfold capp cappD
  cases srcLen x with
  | none => rfl
  | some m =>
    simp only [srcCellsK_eq]
    cases srcCells E h sz m x with
    | none => rfl
    | some xs =>
      dsimp only
      cases s with
      | slice base n C =>
        cases base with
        | none =>
          dsimp only
          cases Nat.beq m 0 with
          | true => rfl
          | false => simp only [cond_false]; cases Nat.ble m maxL <;> rfl
        | some a =>
          obtain ⟨b, off, st⟩ := a
          dsimp only
          cases Nat.beq m 0 with
          | true => rfl
          | false =>
            simp only [cond_false]
            cases Nat.ble (n + m) maxL with
            | false => rfl
            | true =>
              simp only [Bool.not_true, cond_false]
              cases clipC n C with
              | true =>
                simp only [cond_true, cviewK_eq]
                cases (cview E h ⟨b, off, st⟩).bind (takeN (n * sz)) <;> rfl
              | false =>
                simp only [cond_false, CH.getK_eq]
                cases st with
                | none => rfl
                | some t =>
                  cases h.get b with
                  | none => rfl
                  | some o =>
                    cases o with
                    | cells c ep wep his ro =>
                      cases ro with
                      | true => rfl
                      | false =>
                        dsimp only
                        cases Nat.beq t ep && Nat.ble (off + n * sz) c.length && ones xs && Nat.beq (szC n C) sz <;> rfl
                    | _ => rfl
      | _ => rfl
noncomputable def eCopyD (E : Env) (h : CH) (sz : Nat) (d s : Value) : Option (Out × Dl) :=
  match d, srcLen s with
  | .slice b dn _, some m =>
    let n := bif Nat.ble m dn then m else dn
    match b, srcCellsK E h sz n s with
    | none, some _ => some (.ret (.int .i64 (.ofNat n)), .no)
    | some a, some xs => bif Nat.beq n 0 then some (.ret (.int .i64 (.ofNat 0)), .no) else outD (.int .i64 (.ofNat n)) (cwriteD h a xs)
    | _, _ => none
  | _, _ => none
theorem eCopyD_eq (E : Env) (h : CH) (sz : Nat) (d s : Value) : eCopy E h sz d s = (eCopyD E h sz d s).map fun r => (r.1, r.2.to h) := by
  cases d with
  | slice b dn c =>
    simp only [eCopy, eCopyD]
    cases srcLen s with
    | none => rfl
    | some m =>
      simp only [srcCellsK_eq]
      generalize (bif Nat.ble m dn then m else dn) = n
      cases srcCells E h sz n s with
      | none => cases b <;> rfl
      | some xs =>
        cases b with
        | none => rfl
        | some a =>
          dsimp only
          cases Nat.beq n 0 with
          | true => rfl
          | false => simp only [cond_false, cwriteD_eq, outD_eq]
  | _ => cases srcLen s <;> rfl
noncomputable def eClrD (h : CH) (zero : List Value) (x : Value) : Option (Out × Dl) :=
  match x with
  | .slice none _ _ => some (.ret (.tuple #[]), .no)
  | .slice (some a) n _ => bif Nat.beq n 0 then some (.ret (.tuple #[]), .no) else outD (.tuple #[]) (cwriteD h a (reps n zero))
  | _ => none
theorem eClrD_eq (h : CH) (zero : List Value) (x : Value) : eClr h zero x = (eClrD h zero x).map fun r => (r.1, r.2.to h) := by
  cases x with
  | slice a n c =>
    cases a with
    | none => rfl
    | some a =>
      simp only [eClr, eClrD]
      cases Nat.beq n 0 with
      | true => rfl
      | false => simp only [cond_false, cwriteD_eq, outD_eq]
  | _ => rfl
/-- Whatever makes no call, and what it does to the heap. -/
noncomputable def ceffD (E : Env) (h : CH) (o : EOp) (ρ : Operand → Value) : Option (Out × Dl) :=
  match o with
  | .st n a x => eStD h n (ρ a) (ρ x)
  | .app sz s x => cappD E h sz (ρ s) (ρ x)
  | .copy sz d s => eCopyD E h sz (ρ d) (ρ s)
  | .clr zero x => eClrD h zero (ρ x)
  | _ => none
abbrev A := Option (Out × CH)
noncomputable def retK (k : Value → CH → A) (kp : Value → CH → A) (r : A) : A :=
  @Option.rec (Out × CH) (fun _ => A) none (fun r => @Prod.rec Out CH (fun _ => A) (fun out h => @Out.rec (fun _ => A) (fun v => forceV v fun v => k v h) (fun v => kp v h) out) r) r
noncomputable def delK (h : CH) (k : Value → CH → A) (kp : Value → CH → A) (r : Option (Out × Dl)) : A :=
  @Option.rec (Out × Dl) (fun _ => A) none (fun r => @Prod.rec Out Dl (fun _ => A) (fun out d => @Out.rec (fun _ => A) (fun v => forceV v fun v => d.toK h fun h => k v h) (fun v => d.toK h fun h => kp v h) out) r) r
theorem delK_eq (h : CH) (k kp : Value → CH → A) (r : Option (Out × Dl)) : delK h k kp r = retK k kp (r.map fun r => (r.1, r.2.to h)) := by
  cases r with
  | none => rfl
  | some r =>
    obtain ⟨out, d⟩ := r
    cases out with
    | ret v =>
      show forceV v (fun v => d.toK h fun h => k v h) = forceV v fun v => k v (d.to h)
      rw [forceV_eq, forceV_eq, Dl.toK_eq]
    | pan v => exact Dl.toK_eq _ _ _
noncomputable def ceffK (E : Env) (call : CallF) (h : CH) (o : EOp) (ρ : Operand → Value) (k kp : Value → CH → A) : A :=
  match o with
  | .st n a x => delK h k kp (eStD h n (ρ a) (ρ x))
  | .app sz s x => delK h k kp (cappD E h sz (ρ s) (ρ x))
  | .copy sz d s => delK h k kp (eCopyD E h sz (ρ d) (ρ s))
  | .clr zero x => delK h k kp (eClrD h zero (ρ x))
  | .call f args => forceL (mapOs ρ args) fun l => retK k kp (call f l h)
  | o => retK k kp (ceff E call h o ρ)
theorem ceffK_eq (E : Env) (call : CallF) (h : CH) (o : EOp) (ρ : Operand → Value) (k kp : Value → CH → A) : ceffK E call h o ρ k kp = retK k kp (ceff E call h o ρ) := by
  cases o with
  | st n a x => simp only [ceffK, ceff, delK_eq, eStD_eq]
  | app sz s x => simp only [ceffK, ceff, delK_eq, cappD_eq]
  | copy sz d s => simp only [ceffK, ceff, delK_eq, eCopyD_eq]
  | clr zero x => simp only [ceffK, ceff, delK_eq, eClrD_eq]
  | call f args => simp only [ceffK, ceff, forceL_eq]
  | _ => rfl
/-! ### the run -/
noncomputable def cputK {β : Type} (d : Option Nat) (v : Value) (c : CT) (k : CT → β) : β :=
  @Option.rec Nat (fun _ => β) (k c) (fun i => @CT.rec (fun _ => β) (fun n t => fsetK t i v fun t => k ⟨n, t⟩) c) d
theorem cputK_eq {β : Type} (d : Option Nat) (v : Value) (c : CT) (k : CT → β) : cputK d v c k = k (cputF d v c) := by
  cases d with
  | none => rfl
  | some i =>
    show fsetK c.t i v (fun t => k ⟨c.n, t⟩) = k ⟨c.n, fset c.t i v⟩
    rw [fsetK_eq, fset_eq]
abbrev KT := CExit → CT → CH → A
noncomputable def elimF (x : RF) (k : KT) : A := @Option.rec (CExit × (CT × CH)) (fun _ => A) none (fun r => k r.1 r.2.1 r.2.2) x
noncomputable def copK (E : Env) (call : CallF) (o : COp) (ρ : Operand → Value) (h : CH) (k kp : Value → CH → A) : A :=
  @COp.rec (fun _ => A)
    (fun p => @Option.rec Value (fun _ => A) none (fun v => forceV v fun v => k v h) (cpureF p ρ))
    (fun _ _ l => @Option.rec Value (fun _ => A) none (fun v => forceV v fun v => k v h) (cloadK E h l ρ))
    (fun n => @Option.rec (Value × CObj) (fun _ => A) none (fun r => forceV r.1 fun v => haddK h r.2 fun h => k v h) (cnew h.next n ρ))
    (fun _ e => ceffK E call h e ρ k kp)
    none o
theorem copK_eq (E : Env) (call : CallF) (o : COp) (ρ : Operand → Value) (h : CH) (k kp : Value → CH → A) : copK E call o ρ h k kp = retK k kp (copF E call o ρ h) := by
  cases o with
  | p p =>
    show @Option.rec Value (fun _ => A) none (fun v => forceV v fun v => k v h) (cpureF p ρ) = retK k kp (@Option.rec Value (fun _ => Option (Out × CH)) none (fun v => some (.ret v, h)) (cpureF p ρ))
    cases cpureF p ρ <;> rfl
  | l lo hi l =>
    show @Option.rec Value (fun _ => A) none (fun v => forceV v fun v => k v h) (cloadK E h l ρ) = retK k kp (@Option.rec Value (fun _ => Option (Out × CH)) none (fun v => some (.ret v, h)) (cload E h l ρ))
    rw [cloadK_eq]
    cases cload E h l ρ <;> rfl
  | n n =>
    show @Option.rec (Value × CObj) (fun _ => A) none (fun r => forceV r.1 fun v => haddK h r.2 fun h => k v h) (cnew h.next n ρ) = retK k kp (outN (cnew h.next n ρ) h)
    cases cnew h.next n ρ with
    | none => rfl
    | some r =>
      show forceV r.1 (fun v => haddK h r.2 fun h => k v h) = forceV r.1 fun v => k v (h.add r.2)
      rw [forceV_eq, forceV_eq, haddK_eq]
  | e b e => exact ceffK_eq _ _ _ _ _ _ _
  | bad => rfl
noncomputable def copsK (E : Env) (call : CallF) (os : List COper) : CT → CH → KT → A :=
  @List.rec COper (fun _ => CT → CH → KT → A) (fun c h k => k .normal c h)
    (fun o _ ih c h k => @Bool.rec (fun _ => A) (cputK o.dst undef c fun c => ih c h k)
      (copK E call o.op (cevF c) h (fun v h => cputK o.dst v c fun c => ih c h k) (fun v h => k (.pan v) c h))
      (wantedF o.guard c)) os
variable {E : Env} {call : CallF}
theorem copsK_eq (os : List COper) : ∀ (c : CT) (h : CH) (k : KT), copsK E call os c h k = elimF (copsF E call os c h) k := by
  induction os with
  | nil => intro c h k; rfl
  | cons o os ih =>
    intro c h k
    show @Bool.rec (fun _ => A) (cputK o.dst undef c fun c => copsK E call os c h k)
      (copK E call o.op (cevF c) h (fun v h => cputK o.dst v c fun c => copsK E call os c h k) (fun v h => k (.pan v) c h)) (wantedF o.guard c) =
      elimF (@Bool.rec (fun _ => RF) (copsF E call os (cputF o.dst undef c) h)
      (@Option.rec (Out × CH) (fun _ => RF) none (fun r => @Prod.rec Out CH (fun _ => RF) (fun out h' => @Out.rec (fun _ => RF) (fun v => forceV v fun v => copsF E call os (cputF o.dst v c) h') (fun v => some (.pan v, c, h')) out) r) (copF E call o.op (cevF c) h)) (wantedF o.guard c)) k
    cases wantedF o.guard c with
    | false => dsimp only; rw [cputK_eq, ih]
    | true =>
      dsimp only
      rw [copK_eq]
      cases copF E call o.op (cevF c) h with
      | none => rfl
      | some r =>
        obtain ⟨out, h'⟩ := r
        cases out with
        | ret v =>
          show forceV v (fun v => cputK o.dst v c fun c => copsK E call os c h' k) = elimF (forceV v fun v => copsF E call os (cputF o.dst v c) h') k
          rw [forceV_eq, forceV_eq, cputK_eq, ih]
        | pan v => rfl
abbrev KD := CT → CH → List CH → List LRecF → A
noncomputable def elimD (x : DF) (k : KD) : A := @Option.rec (CT × CH × List CH × List LRecF) (fun _ => A) none (fun r => k r.1 r.2.1 r.2.2.1 r.2.2.2) x
noncomputable def cdrawnK (E : Env) (call : CallF) (base : Nat) (os : List COper) : Nat → CT → CH → List CH → List LRecF → KD → A :=
  @List.rec COper (fun _ => Nat → CT → CH → List CH → List LRecF → KD → A) (fun _ c h gs ls k => k c h (h :: gs) ls)
    (fun o _ ih i c h gs ls k => @Bool.rec (fun _ => A) (cputK o.dst undef c fun c => ih (i + 1) c h (bif isE o.op then h :: gs else gs) ls k)
      (@COp.rec (fun _ => A)
        (fun p => @Option.rec Value (fun _ => A) none (fun v => forceV v fun v => cputK o.dst v c fun c => ih (i + 1) c h gs ls k) (cpureF p (cevF c)))
        (fun lo hi l => @Option.rec Value (fun _ => A) none (fun v => forceV v fun v => cputK o.dst v c fun c' => ih (i + 1) c' h gs (⟨lo, hi, l, c, v⟩ :: ls) k) (cloadK E h l (cevF c)))
        (fun n => forceN (base + i) fun id => @Option.rec (Value × CObj) (fun _ => A) none (fun r => forceV r.1 fun v => hputK h id r.2 fun h => cputK o.dst v c fun c => ih (i + 1) c h gs ls k) (cnew id n (cevF c)))
        (fun _ e => ceffK E call h e (cevF c) (fun v h' => cputK o.dst v c fun c => ih (i + 1) c h' (h :: gs) ls k) (fun _ _ => none))
        none o.op)
      (wantedF o.guard c)) os
theorem cdrawnK_eq (base : Nat) (os : List COper) : ∀ (i : Nat) (c : CT) (h : CH) (gs : List CH) (ls : List LRecF) (k : KD),
    cdrawnK E call base os i c h gs ls k = elimD (cdrawnF E call base os i c h gs ls) k := by
  induction os with
  | nil => intro i c h gs ls k; rfl
  | cons o os ih =>
    intro i c h gs ls k
    show @Bool.rec (fun _ => A) (cputK o.dst undef c fun c => cdrawnK E call base os (i + 1) c h (bif isE o.op then h :: gs else gs) ls k)
      (@COp.rec (fun _ => A)
        (fun p => @Option.rec Value (fun _ => A) none (fun v => forceV v fun v => cputK o.dst v c fun c => cdrawnK E call base os (i + 1) c h gs ls k) (cpureF p (cevF c)))
        (fun lo hi l => @Option.rec Value (fun _ => A) none (fun v => forceV v fun v => cputK o.dst v c fun c' => cdrawnK E call base os (i + 1) c' h gs (⟨lo, hi, l, c, v⟩ :: ls) k) (cloadK E h l (cevF c)))
        (fun n => forceN (base + i) fun id => @Option.rec (Value × CObj) (fun _ => A) none (fun r => forceV r.1 fun v => hputK h id r.2 fun h => cputK o.dst v c fun c => cdrawnK E call base os (i + 1) c h gs ls k) (cnew id n (cevF c)))
        (fun _ e => ceffK E call h e (cevF c) (fun v h' => cputK o.dst v c fun c => cdrawnK E call base os (i + 1) c h' (h :: gs) ls k) (fun _ _ => none))
        none o.op)
      (wantedF o.guard c) = elimD (@Bool.rec (fun _ => DF) (cdrawnF E call base os (i + 1) (cputF o.dst undef c) h (bif isE o.op then h :: gs else gs) ls)
      (@COp.rec (fun _ => DF)
        (fun p => @Option.rec Value (fun _ => DF) none (fun v => forceV v fun v => cdrawnF E call base os (i + 1) (cputF o.dst v c) h gs ls) (cpureF p (cevF c)))
        (fun lo hi l => @Option.rec Value (fun _ => DF) none (fun v => forceV v fun v => cdrawnF E call base os (i + 1) (cputF o.dst v c) h gs (⟨lo, hi, l, c, v⟩ :: ls)) (cload E h l (cevF c)))
        (fun n => @Option.rec (Value × CObj) (fun _ => DF) none (fun r => cdrawnF E call base os (i + 1) (cputF o.dst r.1 c) (h.put (base + i) r.2) gs ls) (cnew (base + i) n (cevF c)))
        (fun _ e => @Option.rec (Out × CH) (fun _ => DF) none (fun r => @Out.rec (fun _ => DF) (fun v => forceV v fun v => cdrawnF E call base os (i + 1) (cputF o.dst v c) r.2 (h :: gs) ls) (fun _ => none) r.1) (ceff E call h e (cevF c)))
        none o.op)
      (wantedF o.guard c)) k
    cases wantedF o.guard c with
    | false => dsimp only; rw [cputK_eq, ih]
    | true =>
      dsimp only
      cases o.op with
      | p p =>
        dsimp only
        cases cpureF p (cevF c) with
        | none => rfl
        | some v => simp only [forceV_eq, cputK_eq, ih]
      | l lo hi l =>
        dsimp only
        rw [cloadK_eq]
        cases cload E h l (cevF c) with
        | none => rfl
        | some v => simp only [forceV_eq, cputK_eq, ih]
      | n n =>
        dsimp only
        rw [forceN_eq]
        cases cnew (base + i) n (cevF c) with
        | none => rfl
        | some r => simp only [forceV_eq, hputK_eq, cputK_eq, ih]
      | e b e =>
        dsimp only
        rw [ceffK_eq]
        cases ceff E call h e (cevF c) with
        | none => rfl
        | some r =>
          obtain ⟨out, h'⟩ := r
          cases out with
          | ret v =>
            show forceV v (fun v => cputK o.dst v c fun c => cdrawnK E call base os (i + 1) c h' (h :: gs) ls k) = elimD (forceV v fun v => cdrawnF E call base os (i + 1) (cputF o.dst v c) h' (h :: gs) ls) k
            simp only [forceV_eq, cputK_eq, ih]
          | pan v => rfl
      | bad => rfl
noncomputable def rdrawnK (E : Env) (call : CallF) (ops : List COper) (c : CT) (h : CH) (k : KT) : A :=
  forceN (h.next + ops.length) fun nx => cdrawnK E call h.next ops 0 c ⟨nx, h.objs⟩ [] [] fun c h gs ls =>
    @Bool.rec (fun _ => A) none (k .normal c h) ((ls.all fun q => lchkF E gs.reverse q.lo q.hi q.l (cevF q.ct) q.v) && pairOk ops (cevF c))
theorem rdrawnK_eq (ops : List COper) (c : CT) (h : CH) (k : KT) : rdrawnK E call ops c h k = elimF (rdrawnF E call ops c h) k := by
  unfold rdrawnK rdrawnF
  rw [forceN_eq, cdrawnK_eq]
  cases cdrawnF E call h.next ops 0 c ⟨h.next + ops.length, h.objs⟩ [] [] with
  | none => rfl
  | some r =>
    obtain ⟨c', h', gs, ls⟩ := r
    show @Bool.rec (fun _ => A) none (k .normal c' h') ((ls.all fun q => lchkF E gs.reverse q.lo q.hi q.l (cevF q.ct) q.v) && pairOk ops (cevF c')) = elimF (@Bool.rec (fun _ => RF) none (some (.normal, c', h')) ((ls.all fun q => lchkF E gs.reverse q.lo q.hi q.l (cevF q.ct) q.v) && pairOk ops (cevF c'))) k
    cases ((ls.all fun q => lchkF E gs.reverse q.lo q.hi q.l (cevF q.ct) q.v) && pairOk ops (cevF c')) <;> rfl
noncomputable def blockK (id : Nat) (k : KT) : KT := fun e c h =>
  @CExit.rec (fun _ => A) (k .normal c h) (fun i => @Bool.rec (fun _ => A) (k (.exit i) c h) (k .normal c h) (Nat.beq i id)) (k .ret c h) (fun v => k (.pan v) c h) e
noncomputable def thenK (f : CT → CH → A) (k : KT) : KT := fun e c h =>
  @CExit.rec (fun _ => A) (f c h) (fun i => k (.exit i) c h) (k .ret c h) (fun v => k (.pan v) c h) e
noncomputable def loopK (N : Nat) (f : CT → CH → KT → A) : CT → CH → KT → A :=
  @Nat.rec (fun _ => CT → CH → KT → A) (fun _ _ _ => none) (fun _ ih c h k => f c h (thenK (fun c h => ih c h k) k)) N
def condK (v : Value) (a b : A) : A := match v with | .bool true => a | .bool false => b | _ => none
noncomputable def rngK (call : CallF) (v : Value) (ps : List Nat) (a b : CCode) (c : CT) (h : CH) (k : KT) : A :=
  match v with
  | .func (.func f) first cap => forceL c.toList fun l => haddK h (.loop .ready none l ps a b) fun h' => elimF (leaveF h.next c (call f (first.toList ++ [.func (.yield h.next) #[] #[]] ++ cap.toList) h')) k
  | _ => none
noncomputable def execK (E : Env) (call : CallF) (N : Nat) (code : CCode) : CT → CH → KT → A :=
  @CCode.rec (fun _ => CT → CH → KT → A)
    (fun c h k => k .normal c h)
    (fun d ops c h k => @Bool.rec (fun _ => A) (copsK E call ops c h k) (rdrawnK E call ops c h k) d)
    (fun _ _ ia ib c h k => ia c h (thenK (fun c h => ib c h k) k))
    (fun x _ _ it ie c h k => condK (cevF c x) (it c h k) (ie c h k))
    (fun id _ ib c h k => ib c h (blockK id k))
    (fun _ ib c h k => loopK N ib c h k)
    (fun id c h k => k (.exit id) c h)
    (fun _ ib c h k => ib c h k)
    (fun c h k => k .ret c h)
    (fun g ps a b _ _ c h k => rngK call (cevF c g) ps a b c h k)
    (fun _ _ _ => none) code
theorem thenK_eq (x : RF) (f : CT → CH → A) (g : CT → CH → RF) (k : KT) (hf : ∀ c h, f c h = elimF (g c h) k) : elimF x (thenK f k) = elimF (thenF x g) k := by
  cases x with
  | none => rfl
  | some r =>
    obtain ⟨e, c, h⟩ := r
    cases e with
    | normal => exact hf c h
    | _ => rfl
theorem execK_eq (N : Nat) (code : CCode) : ∀ (c : CT) (h : CH) (k : KT), execK E call N code c h k = elimF (execF E call N code c h) k := by
  induction code with
  | skip => intro c h k; rfl
  | rg d ops =>
    intro c h k
    cases d with
    | false => exact copsK_eq ops c h k
    | true => exact rdrawnK_eq ops c h k
  | seq a b iha ihb =>
    intro c h k
    show execK E call N a c h (thenK (fun c h => execK E call N b c h k) k) = elimF (thenF (execF E call N a c h) (execF E call N b)) k
    rw [iha]
    exact thenK_eq _ _ _ _ fun c h => ihb c h k
  | cond x t e iht ihe =>
    intro c h k
    show condK (cevF c x) (execK E call N t c h k) (execK E call N e c h k) = elimF (condF (cevF c x) (execF E call N t c h) (execF E call N e c h)) k
    rw [iht, ihe]
    generalize cevF c x = v
    cases v with
    | bool b => cases b <;> rfl
    | _ => rfl
  | block id b ih =>
    intro c h k
    show execK E call N b c h (blockK id k) = elimF (blockF id (execF E call N b c h)) k
    rw [ih]
    cases execF E call N b c h with
    | none => rfl
    | some r =>
      obtain ⟨e, c', h'⟩ := r
      cases e with
      | exit i =>
        show @Bool.rec (fun _ => A) (k (.exit i) c' h') (k .normal c' h') (Nat.beq i id) = elimF (@Bool.rec (fun _ => RF) (some (.exit i, c', h')) (some (.normal, c', h')) (Nat.beq i id)) k
        cases Nat.beq i id <;> rfl
      | _ => rfl
  | loop b ih =>
    intro c h k
    show loopK N (execK E call N b) c h k = elimF (loopF N (execF E call N b) c h) k
    have key : ∀ (n : Nat) (c : CT) (h : CH), loopK n (execK E call N b) c h k = elimF (loopF n (execF E call N b) c h) k := by
      intro n
      induction n with
      | zero => intro c h; rfl
      | succ n ihn =>
        intro c h
        show execK E call N b c h (thenK (fun c h => loopK n (execK E call N b) c h k) k) = elimF (thenF (execF E call N b c h) (loopF n (execF E call N b))) k
        rw [ih]
        exact thenK_eq _ _ _ _ ihn
    exact key N c h
  | exit id => intro c h k; rfl
  | scope b ih => intro c h k; exact ih c h k
  | ret => intro c h k; rfl
  | rngf g ps a b _ _ =>
    intro c h k
    show rngK call (cevF c g) ps a b c h k = elimF (rngF call (cevF c g) ps a b c h) k
    generalize cevF c g = v
    cases v with
    | func f first cap =>
      cases f with
      | func f => simp only [rngK, rngF, forceL_eq, haddK_eq]
      | _ => rfl
    | _ => rfl
  | bad => intro c h k; rfl
noncomputable def endK (E : Env) (rs : List CRes) : KT := fun e c h =>
  @CExit.rec (fun _ => A) (finish1 (cresultsF E c h rs) h) (fun _ => none) (finish1 (cresultsF E c h rs) h) (fun v => some (.pan v, h)) e
noncomputable def bodyK (id : Nat) : KT := fun e _ h =>
  @CExit.rec (fun _ => A) (endR id none h) (fun j => endR id (some (some j)) h) (endR id (some none) h) (fun _ => none) e
noncomputable def rndK (E : Env) (call : CallF) (N : Nat) (id : Nat) (args : List Value) (h : CH) : A :=
  match h.getK id with
  | some (.loop _ _ ct ps a b) =>
    bif Nat.beq args.length ps.length then
      forceL (setAll ct ps args) fun l => execK E call N a (CT.of l l.length) h fun e c2 h2 =>
        @CExit.rec (fun _ => A) (match begR id h2 with | some h3 => execK E call N b c2 h3 (bodyK id) | none => none) (fun _ => none) none (fun _ => none) e
    else none
  | _ => none
theorem rndK_eq (N id : Nat) (args : List Value) (h : CH) : rndK E call N id args h = rndF E call N id args h := by
  unfold rndK rndF
  rw [CH.getK_eq]
  cases h.get id with
  | none => rfl
  | some ob =>
    cases ob with
    | loop st p ct ps a b =>
      dsimp only
      cases Nat.beq args.length ps.length with
      | false => rfl
      | true =>
        simp only [cond_true]
        rw [forceL_eq, execK_eq]
        cases execF E call N a (CT.of (setAll ct ps args) (setAll ct ps args).length) h with
        | none => rfl
        | some r =>
          obtain ⟨e, c2, h2⟩ := r
          cases e with
          | normal =>
            show (match begR id h2 with | some h3 => execK E call N b c2 h3 (bodyK id) | none => none) = (match begR id h2 with | some h3 => bodyF id (execF E call N b c2 h3) | none => none)
            cases begR id h2 with
            | none => rfl
            | some h3 =>
              dsimp only
              rw [execK_eq]
              cases execF E call N b c2 h3 with
              | none => rfl
              | some r => obtain ⟨e, c, h⟩ := r; cases e <;> rfl
          | _ => rfl
    | _ => rfl
noncomputable def CT.ofK {β : Type} (args : List Value) (n : Nat) (k : CT → β) : β :=
  forceN (args.length + (n - args.length)) fun m => forceN (Nat.log2 n + 1) fun d => k ⟨m, fills args 0 (skel d)⟩
theorem CT.ofK_eq {β : Type} (args : List Value) (n : Nat) (k : CT → β) : CT.ofK args n k = k (CT.of args n) := by
  unfold CT.ofK
  rw [forceN_eq, forceN_eq]; rfl
noncomputable def ccallK (E : Env) (I : CallF → CallF) (N d : Nat) : CallF :=
  @Nat.rec (fun _ => CallF) ⟨fun _ _ _ => none, fun _ _ _ => none⟩
    (fun _ c => ⟨fun f args h => @Option.rec (Out × CH) (fun _ => A)
        (@Option.rec CFun (fun _ => A) none (fun fn => CT.ofK args fn.ntmps fun t => execK E c N fn.body t h (endK E fn.results)) (fgetO E.tab f))
        (fun r => some r) ((I c).fn f args h), rndK E c N⟩) d
theorem ccallK_eq (I : CallF → CallF) (N : Nat) : ∀ d, ccallK E I N d = ccall E I N d := by
  intro d
  rw [← ccallF_eq]
  induction d with
  | zero => rfl
  | succ d ih =>
    show (⟨fun f args h => @Option.rec (Out × CH) (fun _ => A)
        (@Option.rec CFun (fun _ => A) none (fun fn => CT.ofK args fn.ntmps fun t => execK E (ccallK E I N d) N fn.body t h (endK E fn.results)) (fgetO E.tab f))
        (fun r => some r) ((I (ccallK E I N d)).fn f args h), rndK E (ccallK E I N d) N⟩ : CallF) =
      ⟨fun f args h => @Option.rec (Out × CH) (fun _ => Option (Out × CH))
        (@Option.rec CFun (fun _ => Option (Out × CH)) none (fun fn => endF E fn.results (execF E (ccallF E I N d) N fn.body (CT.of args fn.ntmps) h)) (E.tab.get f))
        (fun r => some r) ((I (ccallF E I N d)).fn f args h), rndF E (ccallF E I N d) N⟩
    rw [ih]
    simp only [CallF.mk.injEq]
    refine ⟨?_, ?_⟩
    · funext f args h
      rw [fgetO_eq]
      cases (I (ccallF E I N d)).fn f args h with
      | some r => rfl
      | none =>
        cases E.tab.get f with
        | none => rfl
        | some fn =>
          dsimp only
          rw [CT.ofK_eq, execK_eq]
          cases execF E (ccallF E I N d) N fn.body (CT.of args fn.ntmps) h with
          | none => rfl
          | some r => obtain ⟨e, c, h⟩ := r; cases e <;> rfl
    · funext id args h
      exact rndK_eq N id args h
end Go.Cl

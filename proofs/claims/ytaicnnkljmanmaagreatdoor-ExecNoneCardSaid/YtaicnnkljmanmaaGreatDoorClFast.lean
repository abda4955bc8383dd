/- A faster evaluator, for Lean's kernel: it answers as the other does. -/
import Derived.Test.YtaicnnkljmanmaaGreatDoorClDefs
namespace Go.Cl
open Go
/-- Temporaries: how many, and a tree. -/
structure CT where
  n : Nat
  t : Tr Value
noncomputable def fget (t : Tr Value) : Nat → Value :=
  @Tr.rec Value (fun _ => Nat → Value) (fun _ => undef)
    (fun _ v _ l r k => @Nat.rec (fun _ => Value) (@Option.rec Value (fun _ => Value) undef (fun x => x) v) (fun m _ => @Bool.rec (fun _ => Value) (r (m / 2)) (l (m / 2)) (Nat.beq (m % 2) 0)) k) t
noncomputable def fset (t : Tr Value) : Nat → Value → Tr Value :=
  @Tr.rec Value (fun _ => Nat → Value → Tr Value) (fun k x => Tr.set .leaf k x)
    (fun l v r il ir k x => @Nat.rec (fun _ => Tr Value) (.node l (some x) r) (fun m _ => @Bool.rec (fun _ => Tr Value) (.node l v (ir (m / 2) x)) (.node (il (m / 2) x) v r) (Nat.beq (m % 2) 0)) k) t
noncomputable def skel : Nat → Tr Value := @Nat.rec (fun _ => Tr Value) .leaf (fun _ t => .node t none t)
noncomputable def CT.get (c : CT) (i : Nat) : Value := @Bool.rec (fun _ => Value) undef (fget c.t i) (Nat.blt i c.n)
noncomputable def CT.set (c : CT) (i : Nat) (v : Value) : CT := ⟨c.n, fset c.t i v⟩
noncomputable def fills (l : List Value) : Nat → Tr Value → Tr Value :=
  @List.rec Value (fun _ => Nat → Tr Value → Tr Value) (fun _ t => t) (fun v _ ih i t => ih (i + 1) (fset t i v)) l
noncomputable def CT.of (args : List Value) (n : Nat) : CT := ⟨args.length + (n - args.length), fills args 0 (skel (Nat.log2 n + 1))⟩
noncomputable def CT.toList (c : CT) : List Value := (List.range c.n).map c.get
noncomputable def cevF (c : CT) (x : Operand) : Value :=
  @Operand.rec (fun _ => CT → Value) (fun i c => c.get i) (fun v _ => v) (fun g _ => .pointer (some ⟨g, 0, none⟩)) (fun f _ => .func (.func f) #[] #[]) x c
noncomputable def cpureF (o : POp) : (Operand → Value) → Option Value :=
  @POp.rec (fun _ => (Operand → Value) → Option Value)
    (fun x ρ => some (ρ x))
    (fun c a b ρ => pPick (ρ c) (ρ a) (ρ b))
    (fun op x y ρ => pBin op (ρ x) (ρ y))
    (fun neg e x y ρ => pEqv neg (eqv e (ρ x) (ρ y)))
    (fun op x ρ => pUn op (ρ x))
    (fun k x ρ => pCint k (ρ x))
    (fun x ρ => pCid (ρ x))
    (fun x ρ => pNil (ρ x))
    (fun zero ps ρ => pBuild (fill zero (mapPs ρ ps)))
    (fun off x ρ => pFaddr off (ρ x))
    (fun off sz x ρ => pFld off sz (ρ x))
    (fun sz x i ρ => pIaddr sz (ρ x) (ρ i))
    (fun len sz x i ρ => pIaddrA len sz (ρ x) (ρ i))
    (fun x i ρ => pIdxS (ρ x) (ρ i))
    (fun len sz agg x i ρ => pIdxA len sz agg (ρ x) (ρ i))
    (fun x lo hi ρ => pSlS (ρ x) (lo.map ρ) (hi.map ρ))
    (fun sz x lo hi mx ρ => pSl sz (ρ x) (lo.map ρ) (hi.map ρ) (mx.map ρ))
    (fun len sz x lo hi mx ρ => pSlA len sz (ρ x) (lo.map ρ) (hi.map ρ) (mx.map ρ))
    (fun x i ρ => pExt (ρ x) i)
    (fun t x ρ => some (.iface t (ρ x)))
    (fun fn a b ρ => some (.func fn ⟨mapOs ρ a⟩ ⟨mapOs ρ b⟩))
    (fun x ρ => pLenS (ρ x))
    (fun x ρ => pLenSl (ρ x))
    (fun n _ => some (.int .i64 (.ofNat n)))
    (fun x y ρ => pMn (ρ x) (ρ y))
    (fun x y ρ => pMx (ρ x) (ρ y))
    (fun x y z ρ => pMn3 (ρ x) (ρ y) (ρ z))
    (fun x y z ρ => pMx3 (ρ x) (ρ y) (ρ z))
    (fun x ρ => pCap (ρ x))
    (fun t z ok x ρ => pAsrt t z ok (ρ x))
    (fun neg x y ρ => pEqi neg (ρ x) (ρ y)) o
noncomputable def copF (E : Env) (call : CallF) (o : COp) (ρ : Operand → Value) (h : CH) : Option (Out × CH) :=
  @COp.rec (fun _ => (Operand → Value) → CH → Option (Out × CH))
    (fun p ρ h => @Option.rec Value (fun _ => Option (Out × CH)) none (fun v => some (.ret v, h)) (cpureF p ρ))
    (fun _ _ l ρ h => @Option.rec Value (fun _ => Option (Out × CH)) none (fun v => some (.ret v, h)) (cload E h l ρ))
    (fun n ρ h => outN (cnew h.next n ρ) h)
    (fun _ e ρ h => ceff E call h e ρ)
    (fun _ _ => none) o ρ h
noncomputable def forceN {β : Type} (a : Nat) (k : Nat → β) : β := @Nat.rec (fun _ => β) (k 0) (fun m _ => k (Nat.succ m)) a
noncomputable def forceI {β : Type} (a : Int) (k : Int → β) : β := @Int.rec (fun _ => β) (fun a => forceN a (fun a => k (.ofNat a))) (fun a => forceN a (fun a => k (.negSucc a))) a
noncomputable def forceA {β : Type} (a : Option Addr) (k : Option Addr → β) : β :=
  match a with
  | some ⟨b, o, some t⟩ => forceN b fun b => forceN o fun o => forceN t fun t => k (some ⟨b, o, some t⟩)
  | a => k a
/-- Whatever is done with a value is done with it reckoned out. -/
noncomputable def forceV {β : Type} (v : Value) (k : Value → β) : β :=
  match v with
  | .int i n => forceI n fun n => k (.int i n)
  | .bool b => @Bool.rec (fun _ => β) (k (.bool false)) (k (.bool true)) b
  | .pointer a => forceA a fun a => k (.pointer a)
  | .slice a n c => forceA a fun a => forceN n fun n => forceN c fun c => k (.slice a n c)
  | v => k v
noncomputable def cputF (d : Option Nat) (v : Value) (c : CT) : CT := @Option.rec Nat (fun _ => CT) c (fun i => c.set i v) d
def boolOf (v : Value) (b : Bool) : Bool := match v with | .bool true => b | .bool false => !b | _ => false
noncomputable def wantedF (g : Option (Nat × Bool)) (c : CT) : Bool := @Option.rec (Nat × Bool) (fun _ => Bool) true (fun p => boolOf (c.get p.1) p.2) g
abbrev RF := Option (CExit × (CT × CH))
noncomputable def copsF (E : Env) (call : CallF) (os : List COper) : CT → CH → RF :=
  @List.rec COper (fun _ => CT → CH → RF) (fun c h => some (.normal, c, h))
    (fun o _ ih c h => @Bool.rec (fun _ => RF) (ih (cputF o.dst undef c) h)
      (@Option.rec (Out × CH) (fun _ => RF) none (fun r => @Prod.rec Out CH (fun _ => RF) (fun out h' => @Out.rec (fun _ => RF) (fun v => forceV v fun v => ih (cputF o.dst v c) h') (fun v => some (.pan v, c, h')) out) r) (copF E call o.op (cevF c) h))
      (wantedF o.guard c)) os
structure LRecF where
  lo : Nat
  hi : Nat
  l : LOp
  ct : CT
  v : Value
abbrev DF := Option (CT × CH × List CH × List LRecF)
noncomputable def cdrawnF (E : Env) (call : CallF) (base : Nat) (os : List COper) : Nat → CT → CH → List CH → List LRecF → DF :=
  @List.rec COper (fun _ => Nat → CT → CH → List CH → List LRecF → DF) (fun _ c h gs ls => some (c, h, h :: gs, ls))
    (fun o _ ih i c h gs ls => @Bool.rec (fun _ => DF) (ih (i + 1) (cputF o.dst undef c) h (bif isE o.op then h :: gs else gs) ls)
      (@COp.rec (fun _ => DF)
        (fun p => @Option.rec Value (fun _ => DF) none (fun v => forceV v fun v => ih (i + 1) (cputF o.dst v c) h gs ls) (cpureF p (cevF c)))
        (fun lo hi l => @Option.rec Value (fun _ => DF) none (fun v => forceV v fun v => ih (i + 1) (cputF o.dst v c) h gs (⟨lo, hi, l, c, v⟩ :: ls)) (cload E h l (cevF c)))
        (fun n => @Option.rec (Value × CObj) (fun _ => DF) none (fun r => ih (i + 1) (cputF o.dst r.1 c) (h.put (base + i) r.2) gs ls) (cnew (base + i) n (cevF c)))
        (fun _ e => @Option.rec (Out × CH) (fun _ => DF) none (fun r => @Out.rec (fun _ => DF) (fun v => forceV v fun v => ih (i + 1) (cputF o.dst v c) r.2 (h :: gs) ls) (fun _ => none) r.1) (ceff E call h e (cevF c)))
        none o.op)
      (wantedF o.guard c)) os
def lchkF (E : Env) (gs : List CH) (lo hi : Nat) (l : LOp) (ρ : Operand → Value) (u : Value) : Bool :=
  ((gs.drop lo).take (hi - lo + 1)).all fun g => match cload E g l ρ with
    | some v => veqb v u
    | none => false
noncomputable def rdrawnF (E : Env) (call : CallF) (ops : List COper) (c : CT) (h : CH) : RF :=
  @Option.rec (CT × CH × List CH × List LRecF) (fun _ => RF) none
    (fun r => @Bool.rec (fun _ => RF) none (some (.normal, r.1, r.2.1)) ((r.2.2.2.all fun q => lchkF E r.2.2.1.reverse q.lo q.hi q.l (cevF q.ct) q.v) && pairOk ops (cevF r.1)))
    (cdrawnF E call h.next ops 0 c ⟨h.next + ops.length, h.objs⟩ [] [])
noncomputable def thenF (x : RF) (k : CT → CH → RF) : RF :=
  @Option.rec (CExit × (CT × CH)) (fun _ => RF) none (fun r => @CExit.rec (fun _ => RF) (k r.2.1 r.2.2) (fun i => some (.exit i, r.2)) (some (.ret, r.2)) (fun v => some (.pan v, r.2)) r.1) x
noncomputable def blockF (id : Nat) (x : RF) : RF :=
  @Option.rec (CExit × (CT × CH)) (fun _ => RF) none (fun r => @CExit.rec (fun _ => RF) (some (.normal, r.2)) (fun i => @Bool.rec (fun _ => RF) (some (.exit i, r.2)) (some (.normal, r.2)) (Nat.beq i id)) (some (.ret, r.2)) (fun v => some (.pan v, r.2)) r.1) x
noncomputable def loopF (N : Nat) (f : CT → CH → RF) : CT → CH → RF :=
  @Nat.rec (fun _ => CT → CH → RF) (fun _ _ => none) (fun _ ih c h => thenF (f c h) ih) N
def condF (v : Value) (a b : RF) : RF := match v with | .bool true => a | .bool false => b | _ => none
def leaveF (id : Nat) (c : CT) (x : Option (Out × CH)) : RF :=
  match x with
  | some (.ret _, h) => match h.get id with
    | some (.loop .busy _ _ _ _ _) => none
    | some (.loop _ p d ps a b) => match p with
      | none => some (.normal, c, h.put id (.loop .exhausted p d ps a b))
      | some none => some (.ret, c, h.put id (.loop .exhausted p d ps a b))
      | some (some j) => some (.exit j, c, h.put id (.loop .exhausted p d ps a b))
    | _ => none
  | _ => none
noncomputable def rngF (call : CallF) (v : Value) (ps : List Nat) (a b : CCode) (c : CT) (h : CH) : RF :=
  match v with
  | .func (.func f) first cap => leaveF h.next c (call f (first.toList ++ [.func (.yield h.next) #[] #[]] ++ cap.toList) (h.add (.loop .ready none c.toList ps a b)))
  | _ => none
noncomputable def execF (E : Env) (call : CallF) (N : Nat) (code : CCode) : CT → CH → RF :=
  @CCode.rec (fun _ => CT → CH → RF)
    (fun c h => some (.normal, c, h))
    (fun d ops c h => @Bool.rec (fun _ => RF) (copsF E call ops c h) (rdrawnF E call ops c h) d)
    (fun _ _ ia ib c h => thenF (ia c h) ib)
    (fun x _ _ it ie c h => condF (cevF c x) (it c h) (ie c h))
    (fun id _ ib c h => blockF id (ib c h))
    (fun _ ib c h => loopF N ib c h)
    (fun id c h => some (.exit id, c, h))
    (fun _ ib c h => ib c h)
    (fun c h => some (.ret, c, h))
    (fun g ps a b _ _ c h => rngF call (cevF c g) ps a b c h)
    (fun _ _ => none) code
noncomputable def cresultF (E : Env) (c : CT) (h : CH) (r : CRes) : Option Value :=
  @CRes.rec (fun _ => Option Value) (fun t => some (c.get t)) (fun a n => cload E h (.var n (.tmp a)) (cevF c)) r
noncomputable def cresultsF (E : Env) (c : CT) (h : CH) (rs : List CRes) : Option (List Value) :=
  @List.rec CRes (fun _ => Option (List Value)) (some []) (fun r _ ih => @Option.rec Value (fun _ => Option (List Value)) none (fun v => @Option.rec (List Value) (fun _ => Option (List Value)) none (fun vs => some (v :: vs)) ih) (cresultF E c h r)) rs
def finish1 (vs : Option (List Value)) (h : CH) : Option (Out × CH) :=
  match vs with
  | some [v] => some (.ret v, h)
  | some vs => some (.ret (.tuple ⟨vs⟩), h)
  | none => none
noncomputable def endF (E : Env) (rs : List CRes) (x : RF) : Option (Out × CH) :=
  @Option.rec (CExit × (CT × CH)) (fun _ => Option (Out × CH)) none (fun r => @CExit.rec (fun _ => Option (Out × CH)) (finish1 (cresultsF E r.2.1 r.2.2 rs) r.2.2) (fun _ => none) (finish1 (cresultsF E r.2.1 r.2.2 rs) r.2.2) (fun v => some (.pan v, r.2.2)) r.1) x
noncomputable def bodyF (id : Nat) (x : RF) : Option (Out × CH) :=
  @Option.rec (CExit × (CT × CH)) (fun _ => Option (Out × CH)) none (fun r => @CExit.rec (fun _ => Option (Out × CH)) (endR id none r.2.2) (fun j => endR id (some (some j)) r.2.2) (endR id (some none) r.2.2) (fun _ => none) r.1) x
noncomputable def rndF (E : Env) (call : CallF) (N : Nat) (id : Nat) (args : List Value) (h : CH) : Option (Out × CH) :=
  match h.get id with
  | some (.loop _ _ ct ps a b) =>
    bif Nat.beq args.length ps.length then
      match execF E call N a (CT.of (setAll ct ps args) (setAll ct ps args).length) h with
      | some (.normal, c2, h2) => match begR id h2 with
        | some h3 => bodyF id (execF E call N b c2 h3)
        | none => none
      | _ => none
    else none
  | _ => none
noncomputable def ccallF (E : Env) (I : CallF → CallF) (N d : Nat) : CallF :=
  @Nat.rec (fun _ => CallF) ⟨fun _ _ _ => none, fun _ _ _ => none⟩
    (fun _ c => ⟨fun f args h => @Option.rec (Out × CH) (fun _ => Option (Out × CH))
        (@Option.rec CFun (fun _ => Option (Out × CH)) none (fun fn => endF E fn.results (execF E c N fn.body (CT.of args fn.ntmps) h)) (E.tab.get f))
        (fun r => some r) ((I c).fn f args h), rndF E c N⟩) d
end Go.Cl

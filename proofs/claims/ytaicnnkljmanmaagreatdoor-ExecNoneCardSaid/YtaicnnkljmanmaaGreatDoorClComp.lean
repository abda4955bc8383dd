/- From the model's code to the compact code. -/
import Derived.Test.YtaicnnkljmanmaaGreatDoorClDefs
import GoSem.Core.Region
namespace Go.Cl

mutual
/-- A value in which no address stands. -/
def closedV : Value → Bool
  | .bool _ | .int _ _ | .string _ | .pointer none | .map none | .nilFunc | .nilIface => true
  | .slice none 0 0 => true
  | .agg ⟨cs⟩ => closedVs cs
  | .tuple ⟨cs⟩ => closedVs cs
  | _ => false
def closedVs : List Value → Bool
  | [] => true
  | v :: r => closedV v && closedVs r
end
def okO : Operand → Bool
  | .const v => closedV v
  | _ => true
def okOs (l : List Operand) : Bool := l.all okO
def okOO : Option Operand → Bool
  | none => true
  | some x => okO x

section
variable (P : Program) (K : List TypeId)
def elemCells (t : TypeId) : Option (List Value) := ((P.info? t).bind (·.zero)).map cells
/-- The zero value's cells, if they are as many as the type says. -/
def zcells (t : TypeId) : Option (List Value) :=
  match P.info? t with
  | some i => match i.zero with
    | some z => bif Nat.beq (cells z).length i.size && closedVs (cells z) && Nat.ble i.bytes 1048576 then some (cells z) else none
    | none => none
  | none => none
def tsize (t : TypeId) : Option Nat := (P.info? t).map (·.size)
def tagg (t : TypeId) : Option Bool :=
  match P.underlying t with
  | some (.struct _) | some (.array _ _) => some true
  | some _ => some false
  | none => none
/-- The number of cells to load; none: a single cell. -/
def tload (t : TypeId) : Option (Option Nat) :=
  match tagg P t with
  | some true => (tsize P t).map some
  | some false => some none
  | none => none
def eqArr (e : EqT) (n : Nat) : Nat → Nat → EqTs
  | 0, _ => .nil
  | k + 1, off => .cons off n e (eqArr e n k (off + n))
mutual
def eqT : Nat → TypeId → Option EqT
  | 0, _ => none
  | d + 1, t =>
    match P.underlying t with
    | some .bool => some .b
    | some (.int _) => some .i
    | some .string => some .s
    | some (.pointer _) => some .np
    | some (.slice _) => some .ns
    | some (.map _ _) => some .nm
    | some (.func _ _ _) => some .nf
    | some (.struct fs) => bif K.contains t then (eqFs d fs.toList).map .agg else none
    | some (.array n e) => bif K.contains t then (match eqT d e, tsize P e with
      | some q, some k => some (.agg (eqArr q k n 0))
      | _, _ => none) else none
    | _ => none
def eqFs : Nat → List Field → Option EqTs
  | 0, _ => none
  | _ + 1, [] => some .nil
  | d + 1, f :: r =>
    match eqFs d r with
    | some q => match f.name == "_" with
      | true => some q
      | false => match eqT d f.type, tsize P f.type with
        | some e, some n => some (.cons f.offset n e q)
        | _, _ => none
    | none => none
end
def isShiftOk : BinOp → Bool
  | .shl | .shr => true
  | _ => false
def structParts (fs : Array Field) : List (Nat × Operand) → Option (List (Nat × Nat × Operand))
  | [] => some []
  | (i, x) :: r => match fs[i]?, structParts fs r with
    | some f, some q => match tsize P f.type with
      | some n => bif okO x then some ((f.offset, n, x) :: q) else none
      | none => none
    | _, _ => none
def arrParts (n : Nat) : List (Nat × Operand) → Option (List (Nat × Nat × Operand))
  | [] => some []
  | (i, x) :: r => match arrParts n r with
    | some q => bif okO x then some ((i * n, n, x) :: q) else none
    | none => none
/-- Has each field's type a size? -/
def sized (fs : Array Field) : Bool := fs.toList.all fun f => (tsize P f.type).isSome
def gd {α : Type} (b : Bool) (x : α) : Option α := bif b then some x else none
/-- Is it a function with a body, entered as any other? -/
def plainFn (f : FuncId) : Bool :=
  match P.funcs[f]? with
  | some fn => fn.body.isSome && !(fn.name == "runtime.NumGoroutine")
  | none => false
def compCall (c : Call) : Option COp :=
  match c.callee with
  | .builtin b =>
    match b, c.args.toList, c.argTypes.toList with
    | .len, [x], [t] =>
      match P.underlying t with
      | some .string => gd (okO x) (.p (.lenS x))
      | some (.slice _) => gd (okO x) (.p (.lenSl x))
      | some (.map _ _) => gd (okO x) (.l 0 0 (.mlen x))
      | some (.array n _) => some (.p (.lenC n))
      | some (.pointer u) => match P.underlying u with
        | some (.array n _) => some (.p (.lenC n))
        | _ => none
      | _ => none
    | .min, [x, y], _ => gd (okO x && okO y) (.p (.mn x y))
    | .max, [x, y], _ => gd (okO x && okO y) (.p (.mx x y))
    | .min, [x, y, z], _ => gd (okO x && (okO y && okO z)) (.p (.mn3 x y z))
    | .max, [x, y, z], _ => gd (okO x && (okO y && okO z)) (.p (.mx3 x y z))
    | .cap, [x], [t] =>
      match P.underlying t with
      | some (.slice _) => gd (okO x) (.p (.capSl x))
      | _ => none
    | .append, [s, x], [t, u] =>
      match P.underlying t, P.underlying u with
      | some (.slice e), some d =>
        match d, zcells P e, tsize P e with
        | .slice _, some _, some n => gd (okO s && okO x) (.e true (.app n s x))
        | .string, some _, some n => gd (okO s && okO x) (.e true (.app n s x))
        | .int _, some z, some _ => gd (okO s && (okO x && Nat.ble 1 z.length)) (.e true (.appm z s x))
        | _, _, _ => none
      | _, _ => none
    | .copy, [d, s], t :: _ =>
      match P.underlying t with
      | some (.slice e) => (tsize P e).bind fun n => gd (okO d && okO s) (.e true (.copy n d s))
      | _ => none
    | .clear, [x], [t] =>
      match P.underlying t with
      | some (.slice e) => (zcells P e).bind fun z => gd (okO x && Nat.ble 1 z.length) (.e true (.clr z x))
      | _ => none
    | _, _, _ => none
  | .value (.func f) => gd (okOs c.args.toList && plainFn P f) (.e true (.call f c.args.toList))
  | .value g => gd (okO g && okOs c.args.toList) (.e true (.callv g c.args.toList))
  | .invoke _ _ => none
def isBasic : Option TypeDesc → Bool
  | some (.int _) => true
  | some .string => true
  | _ => false
def isAny : Option TypeDesc → Bool
  | some (.interface ms) => ms.isEmpty
  | _ => false
/-- How long an array of numbers is that is a map's key. -/
def keyLen (t : TypeId) : Option Nat :=
  match P.underlying t with
  | some (.array n e) => match P.underlying e, tsize P e with
    | some (.int _), some 1 => some n
    | _, _ => none
  | _ => none
def compOp (o : Oper) : Option COp :=
  match o.op with
  | .move x | .assign x => gd (okO x) (.p (.mv x))
  | .pick c a b => gd (okO c && okO a && okO b) (.p (.pick c a b))
  | .binOp op t x y _ =>
    bif isBasic (P.underlying t) then gd (okO x && okO y) (.p (.bin op x y))
    else bif isAny (P.underlying t) then (match op with
      | .eql => gd (okO x && okO y) (.p (.eqi false x y))
      | .neq => gd (okO x && okO y) (.p (.eqi true x y))
      | _ => none)
    else (match op with
      | .eql => (eqT P K 40 t).bind fun e => gd (okO x && okO y) (.p (.eqv false e x y))
      | .neq => (eqT P K 40 t).bind fun e => gd (okO x && okO y) (.p (.eqv true e x y))
      | _ => none)
  | .unOp op _ x => gd (okO x) (.p (.un op x))
  | .convert s d x =>
    match P.underlying s, P.underlying d with
    | some (.int _), some (.int k) => gd (okO x) (.p (.cint k x))
    | some .string, some .string => gd (okO x) (.p (.cid x))
    | some (.slice e), some .string => match P.underlying e with
      | some (.int .u8) => gd (okO x) (.l 0 0 (.b2s x))
      | _ => none
    | some .string, some (.slice e) => match P.underlying e with
      | some (.int .u8) => gd (okO x) (.n (.s2b x))
      | _ => none
    | some (.slice _), some (.slice e) => match P.underlying e with
      | some (.int .u8) => gd (okO x && s == d) (.e true (.mark x))
      | _ => none
    | _, _ => none
  | .nilCheck x => gd (okO x) (.p (.nilck x))
  | .build t ps =>
    match P.underlying t, zcells P t with
    | some (.struct fs), some z => bif sized P fs then (structParts P fs ps.toList).map fun q => .p (.build z q) else none
    | some (.array _ e), some z => (tsize P e).bind fun n => (arrParts n ps.toList).map fun q => .p (.build z q)
    | _, _ => none
  | .fieldAddr t x i =>
    match P.underlying t with
    | some (.struct fs) => match fs[i]? with
      | some f => match tsize P f.type with
        | some (_ + 1) => gd (okO x) (.p (.faddr f.offset x))
        | _ => none
      | none => none
    | _ => none
  | .field t x i =>
    match P.underlying t with
    | some (.struct fs) => match fs[i]? with
      | some f => (tload P f.type).bind fun n => gd (okO x) (.p (.fld f.offset n x))
      | none => none
    | _ => none
  | .indexAddr t x i =>
    match P.underlying t with
    | some (.slice e) => (tsize P e).bind fun n => gd (okO x && okO i) (.p (.iaddr n x i))
    | some (.array len e) => (tsize P e).bind fun n => gd (okO x && okO i) (.p (.iaddrA len n x i))
    | _ => none
  | .index t x i =>
    match P.underlying t with
    | some .string => gd (okO x && okO i) (.p (.idxS x i))
    | some (.array len e) => match tsize P e, tagg P e with
      | some n, some a => gd (okO x && okO i) (.p (.idxA len n a x i))
      | _, _ => none
    | _ => none
  | .slice t x lo hi mx =>
    let ok := okO x && okOO lo && okOO hi && okOO mx && (hi.isSome || mx.isNone)
    match P.underlying t with
    | some .string => gd (okO x && okOO lo && okOO hi && okOO mx && mx.isNone) (.p (.slS x lo hi))
    | some (.slice e) => (tsize P e).bind fun n => gd ok (.p (.sl n x lo hi mx))
    | some (.array len e) => (tsize P e).bind fun n => gd ok (.p (.slA len n x lo hi mx))
    | _ => none
  | .typeAssert x _ t ok =>
    match P.underlying t with
    | some (.interface _) => none
    | some _ => match (P.info? t).bind (·.zero) with
      | some z => gd (okO x && closedV z) (.p (.asrt t z ok x))
      | none => none
    | none => none
  | .extract x i => gd (okO x) (.p (.ext x i))
  | .makeInterface t x =>
    match P.underlying t with
    | some (.interface _) => none
    | some _ => gd (okO x) (.p (.mkif t x))
    | none => none
  | .makeFunc fn a b =>
    match fn with
    | .func f => gd (okOs a.toList && okOs b.toList && plainFn P f) (.p (.mkfn fn a.toList b.toList))
    | _ => none
  | .load t x => (tload P t).bind fun n => gd (okO x) (.l 0 0 (.var n x))
  | .alloc t => (zcells P t).map fun z => .n (.alloc z)
  | .box t x => (tsize P t).bind fun n => gd (okO x) (.n (.box n x))
  | .buildSlice t len ps =>
    match P.underlying t with
    | some (.slice e) => match zcells P e, tsize P e with
      | some z, some n => bif Nat.ble (len * n) 65536 && Nat.ble 1 n then (arrParts n ps.toList).map fun q => .n (.bsl (reps len z) len q) else none
      | _, _ => none
    | _ => none
  | .makeSlice t l c =>
    match P.underlying t with
    | some (.slice e) => match zcells P e, (P.info? e).map (·.bytes) with
      | some z, some b => gd (okO l && okO c && Nat.ble 1 z.length) (.n (.msl z b l c))
      | _, _ => none
    | _ => none
  | .range t x =>
    match P.underlying t with
    | some .string => gd (okO x) (.n (.iter x))
    | some (.map _ _) => gd (okO x) (.e true (.mrange x))
    | _ => none
  | .next x str => gd (okO x) (.e true (bif str then .next x else .mnext x))
  | .entry x => gd (okO x) (.l 0 0 (.entry x))
  | .makeMap _ none => some (.n .mkmap)
  | .lookup t m k ok =>
    match P.underlying t with
    | some (.map kt vt) => match keyLen P kt, eqT P K 40 kt, (P.info? vt).bind (·.zero) with
      | some n, some e, some z => gd (okO m && (okO k && closedV z)) (.l 0 0 (.look e n z ok m k))
      | _, _, _ => none
    | _ => none
  | .mapUpdate t m k x =>
    match P.underlying t with
    | some (.map kt _) => match keyLen P kt, eqT P K 40 kt with
      | some n, some e => gd (okO m && (okO k && okO x)) (.e true (.mset e n m k x))
      | _, _ => none
    | _ => none
  | .store t a x => (tsize P t).bind fun n => gd (okO a && okO x) (.e true (.st n a x))
  | .panic x => gd (okO x) (.e true (.pan x))
  | .call c => compCall P c
  | _ => none
def compOper (ops : Array Oper) (o : Oper) : Option COper :=
  match o.guard with
  | none => some ⟨o.dst, none, (compOp P K o).getD .bad⟩
  | some (j, b) => match (ops[j]?).bind (·.dst) with
    | some d => some ⟨o.dst, some (d, b), (compOp P K o).getD .bad⟩
    | none => none
def compOps (ops : Array Oper) : List Oper → Option (List COper)
  | [] => some []
  | o :: r => match compOper P K ops o, compOps ops r with
    | some c, some cs => some (c :: cs)
    | _, _ => none
/-! ### a region that draws its order: what is asked of it -/
def tmpsO : Operand → List Nat
  | .tmp t => [t]
  | _ => []
def tmpsOs : List Operand → List Nat
  | [] => []
  | x :: r => tmpsO x ++ tmpsOs r
def tmpsOO : Option Operand → List Nat
  | none => []
  | some x => tmpsO x
def tmpsPs : List (Nat × Nat × Operand) → List Nat
  | [] => []
  | (_, _, x) :: r => tmpsO x ++ tmpsPs r
def readsP : POp → List Nat
  | .mv x | .un _ x | .cint _ x | .cid x | .nilck x | .faddr _ x | .fld _ _ x | .ext x _ | .mkif _ x | .lenS x | .lenSl x => tmpsO x
  | .pick c a b => tmpsO c ++ (tmpsO a ++ tmpsO b)
  | .bin _ x y | .eqv _ _ x y | .iaddr _ x y | .iaddrA _ _ x y | .idxS x y | .idxA _ _ _ x y | .mn x y | .mx x y => tmpsO x ++ tmpsO y
  | .build _ ps => tmpsPs ps
  | .slS x lo hi => tmpsO x ++ (tmpsOO lo ++ tmpsOO hi)
  | .sl _ x lo hi m | .slA _ _ x lo hi m => tmpsO x ++ (tmpsOO lo ++ (tmpsOO hi ++ tmpsOO m))
  | .mkfn _ a b => tmpsOs a ++ tmpsOs b
  | .lenC _ => []
  | .asrt _ _ _ x => tmpsO x
  | .mn3 x y z | .mx3 x y z => tmpsO x ++ (tmpsO y ++ tmpsO z)
  | .capSl x => tmpsO x
  | .eqi _ x y => tmpsO x ++ tmpsO y
def readsL : LOp → List Nat
  | .var _ a => tmpsO a
  | .b2s x => tmpsO x
  | .look _ _ _ _ m k => tmpsO m ++ tmpsO k
  | .mlen m => tmpsO m
  | .entry it => tmpsO it
def readsN : NOp → List Nat
  | .alloc _ => []
  | .mkmap => []
  | .box _ x | .s2b x | .iter x => tmpsO x
  | .bsl _ _ ps => tmpsPs ps
  | .msl _ _ l c => tmpsO l ++ tmpsO c
def readsE : EOp → List Nat
  | .st _ a x => tmpsO a ++ tmpsO x
  | .app _ s x => tmpsO s ++ tmpsO x
  | .copy _ d s => tmpsO d ++ tmpsO s
  | .clr _ x | .next x | .mark x | .pan x | .mnext x | .mrange x => tmpsO x
  | .mset _ _ m k v => tmpsO m ++ (tmpsO k ++ tmpsO v)
  | .appm _ s n => tmpsO s ++ tmpsO n
  | .call _ args => tmpsOs args
  | .callv g args => tmpsO g ++ tmpsOs args
def readsC : COp → List Nat
  | .p p => readsP p
  | .l _ _ l => readsL l
  | .n n => readsN n
  | .e _ e => readsE e
  | .bad => []
def readsG : Option (Nat × Bool) → List Nat
  | none => []
  | some (t, _) => [t]
def reads (c : COper) : List Nat := readsG c.guard ++ readsC c.op
def bget (B : List Nat) (i : Nat) : Nat := B.getD i 0
def befO (B : List Nat) (o : Oper) : Nat := o.after.toList.foldl (fun s e => bif Region.binds .any e then s ||| (2 ^ e.on ||| bget B e.on) else s) 0
def befs : List Oper → List Nat → List Nat
  | [], acc => acc
  | o :: r, acc => befs r (acc ++ [befO acc o])
def isEAt (cs : List COper) (i : Nat) : Bool := match cs[i]? with | some c => isE c.op | none => false
/-- The operations with an effect in front of c. -/
def rank (cs : List COper) : Nat → Nat
  | 0 => 0
  | c + 1 => bif isEAt cs c then rank cs c + 1 else rank cs c
def dstIs (c : COper) (t : Nat) : Bool := match c.dst with | some d => Nat.beq d t | none => false
def allB (n : Nat) (p : Nat → Bool) : Bool := (List.range n).all p
def anyB (n : Nat) (p : Nat → Bool) : Bool := (List.range n).any p
def chkEdges (ops : List Oper) (B : List Nat) : Bool :=
  allB ops.length fun i => match ops[i]? with
    | some o => Nat.beq (bget B i) (befO B o) && o.after.toList.all fun e => !Region.binds .any e || Nat.blt e.on i
    | none => false
def chkReads (cs : List COper) (B : List Nat) : Bool :=
  allB cs.length fun i => match cs[i]? with
    | some c => allB cs.length fun j => match cs[j]? with
      | some d => bif Nat.beq i j then true else
        (match c.dst with | some t => !dstIs d t | none => true) &&
        (match d.dst with | some t => !(reads c).any (Nat.beq t) || (bif Nat.blt j i then (bget B i).testBit j else (bget B j).testBit i) | none => true)
      | none => false
    | none => false
def chkE (cs : List COper) (B : List Nat) : Bool :=
  allB cs.length fun i => allB i fun j => !(isEAt cs i && isEAt cs j) || (bget B i).testBit j
/-- May the load i stand just in front of the operation c (the end: n), it stands between lo and hi. -/
def loadOk (cs : List COper) (B : List Nat) (i lo hi : Nat) : Bool :=
  allB (cs.length + 1) fun c => !(isEAt cs c || Nat.beq c cs.length) ||
    ((Nat.ble lo (rank cs c) || anyB cs.length fun j => isEAt cs j && Nat.ble c j && (bget B i).testBit j) &&
     (Nat.ble (rank cs c) hi || anyB c fun j => isEAt cs j && (bget B j).testBit i))
def chkL (cs : List COper) (B : List Nat) : Bool :=
  allB cs.length fun i => match cs[i]? with
    | some ⟨_, _, .l lo hi _⟩ => loadOk cs B i lo hi
    | _ => true
def drawnOk (ops : List Oper) (cs : List COper) (B : List Nat) : Bool :=
  Nat.beq ops.length cs.length && chkEdges ops B && chkReads cs B && chkE cs B && chkL cs B
def countB (n : Nat) (p : Nat → Bool) : Nat := ((List.range n).filter p).length
def relab (cs : List COper) (B : List Nat) : Nat → List COper → List COper
  | _, [] => []
  | i, c :: r => (match c.op with
    | .l _ _ l => ⟨c.dst, c.guard, .l (countB cs.length fun j => isEAt cs j && (bget B i).testBit j) (countB cs.length fun j => isEAt cs j && !(bget B j).testBit i) l⟩
    | _ => c) :: relab cs B (i + 1) r
def isPure (c : COper) : Bool := match c.op with | .p _ => true | _ => false
/-- All but the last two are in front of both, or pure; the last two are stores. -/
def chkPair (cs : List COper) (B : List Nat) : Bool :=
  Nat.ble 2 cs.length && (match cs[cs.length - 2]?, cs[cs.length - 1]? with
    | some p, some o => (stOf p).isSome && ((stOf o).isSome && markOf o)
    | _, _ => false) &&
  allB (cs.length - 2) fun k => match cs[k]? with
    | some c => isPure c || ((bget B (cs.length - 1)).testBit k && (bget B (cs.length - 2)).testBit k)
    | none => false
def chkE2 (cs : List COper) (B : List Nat) : Bool :=
  allB cs.length fun i => allB i fun j => !(isEAt cs i && isEAt cs j) || ((bget B i).testBit j || (Nat.beq (i + 1) cs.length && Nat.beq (j + 2) cs.length))
def drawnOk2 (ops : List Oper) (cs : List COper) (B : List Nat) : Bool :=
  Nat.beq ops.length cs.length && chkEdges ops B && chkReads cs B && (chkE2 cs B && chkPair cs B) && chkL cs B
def unmark (c : COper) : COper := match c.op with | .e _ q => ⟨c.dst, c.guard, .e false q⟩ | _ => c
def markLast : List COper → List COper
  | [] => []
  | [c] => [unmark c]
  | c :: d :: r => c :: markLast (d :: r)
def compDrawn (ops : Array Oper) : Option (List COper) :=
  match compOps P K ops ops.toList with
  | some cs =>
    let B := befs ops.toList []
    let cs' := relab cs B 0 cs
    bif drawnOk ops.toList cs' B then some cs' else
      let cs2 := markLast cs'
      bif drawnOk2 ops.toList cs2 B then some cs2 else none
  | none => none
/-- No loop over a function. -/
def noRf : Code → Bool
  | .seq a b | .cond _ a b => noRf a && noRf b
  | .block _ b | .loop b | .scope b => noRf b
  | .rangeFunc _ _ _ _ => false
  | _ => true
/-- What is not understood is bad: it has no run. -/
def comp : Code → CCode
  | .skip => .skip
  | .label _ => .skip
  | .region _ ops false => match compOps P K ops ops.toList with
    | some l => .rg false l
    | none => .bad
  | .region _ ops true => match compDrawn P K ops with
    | some l => .rg true l
    | none => .bad
  | .seq a b => .seq (comp a) (comp b)
  | .cond c t e => bif okO c then .cond c (comp t) (comp e) else .bad
  | .block id b => .block id (comp b)
  | .loop b => .loop (comp b)
  | .exit id => .exit id
  | .scope b => .scope (comp b)
  | .ret => .ret
  | .rangeFunc g ps a b => bif okO g && (noRf a && noRf b) then .rngf g ps.toList (comp a) (comp b) else .bad
  | _ => .bad
def compRes : ResultVar → Option CRes
  | .tmp t => some (.tmp t)
  | .cell a t => (tload P t).map fun n => .cell a n
def compF (f : FuncId) : Option CFun :=
  match P.funcs[f]? with
  | some fn => match fn.body with
    | some c => match fn.results.toList.mapM (compRes P) with
      | some r => some ⟨fn.ntmps, comp P K c, r⟩
      | none => none
    | none => none
  | none => none
end
def asSeq : Code → Option (Code × Code)
  | .seq a b => some (a, b)
  | _ => none
def asRg : Code → Option (Array Oper)
  | .region _ ops false => some ops
  | _ => none
def asTmp : Callee → Option Nat
  | .value (.tmp t) => some t
  | _ => none
def asDefer : Op → Option Nat
  | .defer c => bif c.args.isEmpty then asTmp c.callee else none
  | _ => none
def isRecover : Callee → Bool
  | .builtin .recover => true
  | _ => false
def asRecover : Op → Bool
  | .call c => isRecover c.callee
  | _ => false
def asP : COp → Option POp
  | .p p => some p
  | _ => none
section
variable (P : Program) (K : List TypeId)
/-- pre; make a function literal and defer it; rest. -/
def compD (f : FuncId) : Option DFun :=
  (P.funcs[f]?).bind fun fn => fn.body.bind fun c => (asSeq c).bind fun s1 => (asSeq s1.2).bind fun s2 => (asRg s2.1).bind fun ops =>
  (ops[0]?).bind fun o1 => (ops[1]?).bind fun o2 => o1.dst.bind fun t => (compOp P K o1).bind fun c1 => (asP c1).bind fun q =>
  (asDefer o2.op).bind fun t' => (fn.results.toList.mapM (compRes P)).bind fun r =>
    bif Nat.beq ops.size 2 && (o1.guard.isNone && (o2.guard.isNone && (o2.dst.isNone && (Nat.beq t t' && (plainFn P f && (noRf s1.1 && noRf s2.2)))))) then some ⟨fn.ntmps, comp P K s1.1, q, t, comp P K s2.2, r⟩ else none
/-- x := recover(); rest. -/
def compR (f : FuncId) : Option RFun :=
  (P.funcs[f]?).bind fun fn => fn.body.bind fun c => (asSeq c).bind fun s1 => (asRg s1.1).bind fun ops => (ops[0]?).bind fun o1 => o1.dst.bind fun t =>
  (fn.results.toList.mapM (compRes P)).bind fun r =>
    bif Nat.beq ops.size 1 && (o1.guard.isNone && (asRecover o1.op && (plainFn P f && noRf s1.2))) then some ⟨fn.ntmps, t, comp P K s1.2, r⟩ else none
end
end Go.Cl

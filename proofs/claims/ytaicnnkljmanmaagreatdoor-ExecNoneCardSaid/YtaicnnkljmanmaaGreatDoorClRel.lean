/- How clean values and a clean heap stand to the machine's. -/
import Derived.Test.YtaicnnkljmanmaaGreatDoorClNum
import Derived.CallsIn
import Derived.OrdersIn
import Derived.Laws.StructEq
import Derived.Laws.World
namespace Go.Cl
open Go

/-- Where the cells of an object lie, for addresses of a stamp: block, offset, the first and the behind-last cell; and of each block of the run's own the object. -/
structure Ren where
  at_ : Nat → Nat → Option (Nat × Nat × Nat × Nat)
  own : Nat → Option Nat
  len : Nat → Nat
  tok : Nat → Value
inductive AR (φ : Ren) : Addr → Addr → Prop
  | st {id off t b o lo hi : Nat} (h : φ.at_ id t = some (b, o, lo, hi)) (hl : lo ≤ off) : AR φ ⟨id, off, some t⟩ ⟨b, o + (off - lo), none⟩
  | glob (g off : Nat) : AR φ ⟨g, off, none⟩ ⟨g, off, none⟩
/-- In the block of the clean address, at whatever offset. -/
def AR0 (φ : Ren) (A a : Addr) : Prop := A.spot = none ∨ ∃ o, AR φ ⟨A.block, o, A.spot⟩ a
/-- The address of a slice of capacity c. -/
def SA (φ : Ren) (c : Nat) (A a : Addr) : Prop := AR0 φ A a ∧ (c = 0 ∨ AR φ A a)
/-- Room for c elements of z cells each (z = 0: nothing is said). -/
def Room (φ : Ren) (c z : Nat) (a : Addr) : Prop := z = 0 ∨ a.off + c * z ≤ φ.len a.block
def oneV : Value → Bool
  | .agg _ => false
  | .tuple _ => false
  | _ => true
def opqV : Value → Bool
  | .agg _ => false
  | .tuple _ => false
  | .bool _ => false
  | _ => true
theorem opqV_one {v : Value} (h : opqV v = true) : oneV v = true := by cases v <;> first | rfl | (simp [opqV] at h)
theorem oneV_cells {v : Value} (h : oneV v = true) : v.cells.toList = [v] := by cases v <;> first | rfl | (simp [oneV] at h)
mutual
inductive VR (φ : Ren) : Value → Value → Prop
  | bool (b : Bool) : VR φ (.bool b) (.bool b)
  | int (k : IntKind) (n : Int) : VR φ (.int k n) (.int k n)
  | string (s : ByteArray) : VR φ (.string s) (.string s)
  | pnil : VR φ (.pointer none) (.pointer none)
  | ptr {A a : Addr} (h : AR φ A a) : VR φ (.pointer (some A)) (.pointer (some a))
  | snil : VR φ (.slice none 0 0) (.slice none 0 0)
  | sl {A a : Addr} {n C c : Nat} (h1 : n ≤ c) (h2 : clipC n C = true → c = n) (h3 : SA φ c A a) (h4 : Room φ c (szC n C) a) : VR φ (.slice (some A) n C) (.slice (some a) n c)
  | mnil : VR φ (.map none) (.map none)
  | map {id r hi : Nat} (h : φ.at_ id 0 = some (r, 0, 0, hi)) : VR φ (.map (some id)) (.map (some r))
  | nilFunc : VR φ .nilFunc .nilFunc
  | nilIface : VR φ .nilIface .nilIface
  | func (f : FuncId) {xs ys us vs : List Value} (h : VRs φ xs ys) (h' : VRs φ us vs) : VR φ (.func (.func f) ⟨xs⟩ ⟨us⟩) (.func (.func f) ⟨ys⟩ ⟨vs⟩)
  | yield {id l hi : Nat} (h : φ.at_ id 0 = some (l, 0, 0, hi)) : VR φ (.func (.yield id) #[] #[]) (.func (.yield l) #[] #[])
  | opq {v' : Value} (h : opqV v' = true) : VR φ (.chan none) v'
  | tok {k : Nat} {v' : Value} (hk : φ.tok k = v') (h : opqV v' = true) : VR φ (.chan (some k)) v'
  | iface (t : TypeId) {v v' : Value} (h : VR φ v v') : VR φ (.iface t v) (.iface t v')
  | agg {xs ys : List Value} (h : VRs φ xs ys) : VR φ (.agg ⟨xs⟩) (.agg ⟨ys⟩)
  | tuple {xs ys : List Value} (h : VRs φ xs ys) : VR φ (.tuple ⟨xs⟩) (.tuple ⟨ys⟩)
inductive VRs (φ : Ren) : List Value → List Value → Prop
  | nil : VRs φ [] []
  | cons {x y : Value} {xs ys : List Value} (h : VR φ x y) (h' : VRs φ xs ys) : VRs φ (x :: xs) (y :: ys)
end
def Ren.le (φ φ' : Ren) : Prop := (∀ id t x, φ.at_ id t = some x → φ'.at_ id t = some x) ∧ (∀ b, φ.len b ≤ φ'.len b) ∧ φ'.tok = φ.tok
theorem Ren.le_refl (φ : Ren) : φ.le φ := ⟨fun _ _ _ h => h, fun _ => Nat.le_refl _, rfl⟩
theorem Ren.le_trans {φ φ' φ'' : Ren} (h : φ.le φ') (h' : φ'.le φ'') : φ.le φ'' := ⟨fun id t x hx => h'.1 id t x (h.1 id t x hx), fun b => Nat.le_trans (h.2.1 b) (h'.2.1 b), h'.2.2.trans h.2.2⟩
theorem Room.mono {φ φ' : Ren} (hl : φ.le φ') {c z : Nat} {a : Addr} (h : Room φ c z a) : Room φ' c z a := h.imp id fun h => Nat.le_trans h (hl.2.1 _)
theorem clipC_mk (n z : Nat) (k : Bool) : clipC n (mkC n z k) = k := by
  unfold clipC mkC
  have : n + (2 * z + (bif k then 0 else 1)) - n = 2 * z + (bif k then 0 else 1) := by omega
  rw [this]
  cases k
  · have : (2 * z + 1) % 2 = 1 := by omega
    simp only [cond_false, this]; rfl
  · have : (2 * z + 0) % 2 = 0 := by omega
    simp only [cond_true, this]; rfl
theorem szC_mk (n z : Nat) (k : Bool) : szC n (mkC n z k) = z := by
  unfold szC mkC
  cases k <;> simp <;> omega
theorem Room.mk {φ : Ren} {c z n : Nat} {k : Bool} {a : Addr} (h : Room φ c z a) : Room φ c (szC n (mkC n z k)) a := by rw [szC_mk]; exact h
theorem AR.mono {φ φ' : Ren} (hl : φ.le φ') {A a : Addr} (h : AR φ A a) : AR φ' A a := by
  cases h with
  | st h h' => exact .st (hl.1 _ _ _ h) h'
  | glob g off => exact .glob g off
theorem AR0.mono {φ φ' : Ren} (hl : φ.le φ') {A a : Addr} (h : AR0 φ A a) : AR0 φ' A a := h.imp id fun ⟨o, h⟩ => ⟨o, h.mono hl⟩
theorem AR.zero {φ : Ren} {A a : Addr} (h : AR φ A a) : AR0 φ A a := .inr ⟨A.off, by cases A; exact h⟩
theorem SA.mono {φ φ' : Ren} (hl : φ.le φ') {c : Nat} {A a : Addr} (h : SA φ c A a) : SA φ' c A a := ⟨h.1.mono hl, h.2.imp id (AR.mono hl)⟩
theorem SA.of {φ : Ren} {c : Nat} {A a : Addr} (h : AR φ A a) : SA φ c A a := ⟨h.zero, .inr h⟩
mutual
theorem VR.mono {φ φ' : Ren} (hl : φ.le φ') : ∀ {v v' : Value}, VR φ v v' → VR φ' v v'
  | _, _, .bool b => .bool b
  | _, _, .int k n => .int k n
  | _, _, .string s => .string s
  | _, _, .pnil => .pnil
  | _, _, .ptr h => .ptr (h.mono hl)
  | _, _, .snil => .snil
  | _, _, .sl h1 h2 h3 h4 => .sl h1 h2 (h3.mono hl) (h4.mono hl)
  | _, _, .mnil => .mnil
  | _, _, .map h => .map (hl.1 _ _ _ h)
  | _, _, .nilFunc => .nilFunc
  | _, _, .nilIface => .nilIface
  | _, _, .func f h h' => .func f (VRs.mono hl h) (VRs.mono hl h')
  | _, _, .yield h => .yield (hl.1 _ _ _ h)
  | _, _, .opq h => .opq h
  | _, _, .tok hk h => .tok (by rw [hl.2.2]; exact hk) h
  | _, _, .iface t h => .iface t (VR.mono hl h)
  | _, _, .agg h => .agg (VRs.mono hl h)
  | _, _, .tuple h => .tuple (VRs.mono hl h)
theorem VRs.mono {φ φ' : Ren} (hl : φ.le φ') : ∀ {v v' : List Value}, VRs φ v v' → VRs φ' v v'
  | _, _, .nil => .nil
  | _, _, .cons h h' => .cons (VR.mono hl h) (VRs.mono hl h')
end
mutual
theorem VR.closed {φ : Ren} : ∀ {v : Value}, closedV v = true → VR φ v v
  | .bool b, _ => .bool b
  | .int k n, _ => .int k n
  | .string s, _ => .string s
  | .pointer none, _ => .pnil
  | .map none, _ => .mnil
  | .nilFunc, _ => .nilFunc
  | .nilIface, _ => .nilIface
  | .slice none 0 0, _ => .snil
  | .agg ⟨cs⟩, h => .agg (VRs.closed (by simpa [closedV] using h))
  | .tuple ⟨cs⟩, h => .tuple (VRs.closed (by simpa [closedV] using h))
  | .pointer (some _), h => by simp [closedV] at h
  | .map (some _), h => by simp [closedV] at h
  | .slice (some _) _ _, h => by simp [closedV] at h
  | .slice none (n + 1) _, h => by simp [closedV] at h
  | .slice none 0 (n + 1), h => by simp [closedV] at h
  | .float _ _, h => by simp [closedV] at h
  | .complex _ _ _, h => by simp [closedV] at h
  | .chan _, h => by simp [closedV] at h
  | .func _ _ _, h => by simp [closedV] at h
  | .iface _ _, h => by simp [closedV] at h
theorem VRs.closed {φ : Ren} : ∀ {l : List Value}, closedVs l = true → VRs φ l l
  | [], _ => .nil
  | v :: r, h => by
    simp only [closedVs, Bool.and_eq_true] at h
    exact .cons (VR.closed h.1) (VRs.closed h.2)
end
theorem VRs.length {φ : Ren} : ∀ {xs ys : List Value}, VRs φ xs ys → xs.length = ys.length
  | _, _, .nil => rfl
  | _, _, .cons _ h => by simp [VRs.length h]
theorem VRs.append {φ : Ren} : ∀ {xs ys us vs : List Value}, VRs φ xs ys → VRs φ us vs → VRs φ (xs ++ us) (ys ++ vs)
  | _, _, _, _, .nil, h => h
  | _, _, _, _, .cons h h', g => .cons h (VRs.append h' g)
theorem VRs.take {φ : Ren} : ∀ {xs ys : List Value} (n : Nat), VRs φ xs ys → VRs φ (xs.take n) (ys.take n)
  | _, _, 0, _ => by simp; exact .nil
  | _, _, _ + 1, .nil => by simp; exact .nil
  | _, _, n + 1, .cons h h' => by simp only [List.take_succ_cons]; exact .cons h (VRs.take n h')
theorem VRs.drop {φ : Ren} : ∀ {xs ys : List Value} (n : Nat), VRs φ xs ys → VRs φ (xs.drop n) (ys.drop n)
  | _, _, 0, h => by simpa using h
  | _, _, _ + 1, .nil => by simp; exact .nil
  | _, _, n + 1, .cons h h' => by simp only [List.drop_succ_cons]; exact VRs.drop n h'
theorem VR.undef {φ : Ren} : VR φ (.tuple #[]) (.tuple #[]) := .tuple .nil
theorem VRs.get {φ : Ren} : ∀ {xs ys : List Value} (i : Nat), VRs φ xs ys → VR φ (cget xs i) (cget ys i)
  | _, _, _, .nil => .undef
  | _, _, 0, .cons h _ => h
  | _, _, i + 1, .cons _ h' => VRs.get i h'
theorem VRs.get? {φ : Ren} : ∀ {xs ys : List Value} {i : Nat} {v : Value}, VRs φ xs ys → xs[i]? = some v → ∃ v', ys[i]? = some v' ∧ VR φ v v'
  | _, _, _, _, .nil, h => by simp at h
  | _, _, 0, _, .cons h _, e => by simp at e; subst e; exact ⟨_, rfl, h⟩
  | _, _, i + 1, _, .cons _ h', e => by simp only [List.getElem?_cons_succ] at e ⊢; exact VRs.get? h' e
theorem VRs.replicate {φ : Ren} {v v' : Value} (h : VR φ v v') : ∀ n, VRs φ (List.replicate n v) (List.replicate n v')
  | 0 => .nil
  | n + 1 => .cons h (VRs.replicate h n)
theorem cget_eq (l : List Value) (i : Nat) : cget l i = l.getD i undef := by
  induction l generalizing i with
  | nil => simp [cget, undef]
  | cons x l ih => cases i with
    | zero => rfl
    | succ i => simp [cget, ih]
theorem VRs.of_get {φ : Ren} : ∀ {xs ys : List Value}, xs.length = ys.length → (∀ i, i < xs.length → VR φ (cget xs i) (cget ys i)) → VRs φ xs ys
  | [], [], _, _ => .nil
  | [], _ :: _, h, _ => by simp at h
  | _ :: _, [], h, _ => by simp at h
  | _ :: xs, _ :: ys, h, g => .cons (g 0 (by simp)) (VRs.of_get (by simpa using h) fun i hi => g (i + 1) (by simpa using hi))
theorem VR.cells {φ : Ren} {v v' : Value} (h : VR φ v v') : VRs φ (cells v) v'.cells.toList := by
  cases h <;> first | exact .cons (by constructor <;> assumption) .nil | skip
  case opq h => rw [oneV_cells (opqV_one h)]; exact .cons (.opq h) .nil
  case tok hk h => rw [oneV_cells (opqV_one h)]; exact .cons (.tok hk h) .nil
  case agg h => exact h

/-! ### the temporaries -/
def RelT (φ : Ren) (ct : List Value) (tm : Array Value) : Prop := VRs φ ct tm.toList
theorem cset_set (l : List Value) (d : Nat) (v : Value) : cset l d v = l.set d v := by
  induction l generalizing d with
  | nil => simp [cset]
  | cons x l ih => cases d with
    | zero => rfl
    | succ d => simp [cset, ih]
theorem VRs.set {φ : Ren} : ∀ {xs ys : List Value} {v v' : Value} (d : Nat), VRs φ xs ys → VR φ v v' → VRs φ (xs.set d v) (ys.set d v')
  | _, _, _, _, _, .nil, _ => by simp; exact .nil
  | _, _, _, _, 0, .cons _ h', hv => .cons hv h'
  | _, _, _, _, d + 1, .cons h h', hv => .cons h (VRs.set d h' hv)
theorem RelT.put {φ : Ren} {ct : List Value} {a : Act} {v v' : Value} (dst : Option Nat) (h : RelT φ ct a.tmps) (hv : VR φ v v') : RelT φ (cput dst v ct) (a.put dst v').tmps := by
  cases dst with
  | none => exact h
  | some d =>
    show VRs φ (cset ct d v) (a.tmps.setIfInBounds d v').toList
    rw [cset_set, Array.toList_setIfInBounds]
    exact VRs.set d h hv
theorem RelT.ev {φ : Ren} {ct : List Value} {a : Act} (h : RelT φ ct a.tmps) {x : Operand} (hx : okO x = true) : VR φ (cev ct x) (a.eval x) := by
  cases x with
  | tmp t =>
    show VR φ (cget ct t) (a.tmps.getD t undef)
    have := VRs.get t h
    rw [cget_eq a.tmps.toList] at this
    simpa [Array.getD_eq_getD_getElem?, List.getD_eq_getElem?_getD] using this
  | const v => exact VR.closed hx
  | global g => exact .ptr (.glob g 0)
  | func f => exact .func f .nil .nil
theorem RelT.mono {φ φ' : Ren} (hl : φ.le φ') {ct : List Value} {tm : Array Value} (h : RelT φ ct tm) : RelT φ' ct tm := VRs.mono hl h
theorem RelT.wanted {φ : Ren} {ct : List Value} {a : Act} {ops : Array Oper} (h : RelT φ ct a.tmps) {o : Oper} {g : Option (Nat × Bool)}
    (hg : match o.guard with
      | none => g = none
      | some (j, b) => ∃ d, (ops[j]?).bind (·.dst) = some d ∧ g = some (d, b)) : Region.wanted o (yielded ops a.tmps) = Cl.wanted g ct := by
  unfold Region.wanted
  cases ho : o.guard with
  | none => rw [ho] at hg; simp only at hg; subst hg; rfl
  | some jb =>
    obtain ⟨j, b⟩ := jb
    rw [ho] at hg
    obtain ⟨d, hd, rfl⟩ := hg
    simp only [yielded, hd, Option.bind_some, Cl.wanted]
    have hv := VRs.get d h
    rw [cget_eq a.tmps.toList] at hv
    cases hgt : a.tmps[d]? with
    | none =>
      have : a.tmps.toList.getD d undef = undef := by simp [List.getD_eq_getElem?_getD, hgt]
      rw [this] at hv
      generalize cget ct d = u at *
      cases hv with
      | tuple h => cases b <;> rfl
      | opq h => simp [opqV, undef] at h
      | tok _ h => simp [opqV, undef] at h
    | some u =>
      have : a.tmps.toList.getD d undef = u := by simp [List.getD_eq_getElem?_getD, hgt]
      rw [this] at hv
      generalize cget ct d = u' at *
      cases hv with
      | bool q => cases q <;> cases b <;> rfl
      | opq hq => cases u <;> first | (simp [opqV] at hq; done) | (cases b <;> rfl)
      | tok _ hq => cases u <;> first | (simp [opqV] at hq; done) | (cases b <;> rfl)
      | _ => cases b <;> rfl
end Go.Cl

/- The heap: how a clean heap stands to a world; loads. -/
import Derived.Test.YtaicnnkljmanmaaGreatDoorClPure4
namespace Go.Cl
open Go

/-! ### the tree -/
theorem Tr.get_setF {α : Type} : ∀ (f : Nat) (t : Tr α) (k : Nat) (x : α), k < f → ∀ j, (Tr.setF f t k x).get j = if j = k then some x else t.get j := by
  intro f
  induction f with
  | zero => intro t k x h; omega
  | succ f ih =>
    intro t k x h j
    have key : ∀ (l : Tr α) (v : Option α) (r : Tr α), (bif Nat.beq k 0 then Tr.node l (some x) r
        else bif Nat.beq (k % 2) 1 then .node (Tr.setF f l (k / 2) x) v r else .node l v (Tr.setF f r (k / 2 - 1) x)).get j
        = if j = k then some x else (Tr.node l v r).get j := by
      intro l v r
      by_cases hk : k = 0
      · subst hk
        simp only [Nat.beq_refl, cond_true, Tr.get]
        by_cases hj : j = 0
        · subst hj; simp
        · have : Nat.beq j 0 = false := by rw [← Bool.not_eq_true, Nat.beq_eq]; exact hj
          simp [this, hj]
      · have hk0 : Nat.beq k 0 = false := by rw [← Bool.not_eq_true, Nat.beq_eq]; exact hk
        simp only [hk0, cond_false]
        by_cases hp : k % 2 = 1
        · have hpb : Nat.beq (k % 2) 1 = true := by rw [Nat.beq_eq]; exact hp
          simp only [hpb, cond_true, Tr.get]
          by_cases hj : j = 0
          · subst hj; simp; omega
          · have hj0 : Nat.beq j 0 = false := by rw [← Bool.not_eq_true, Nat.beq_eq]; exact hj
            simp only [hj0, cond_false]
            by_cases hjp : j % 2 = 1
            · have hjb : Nat.beq (j % 2) 1 = true := by rw [Nat.beq_eq]; exact hjp
              simp only [hjb, cond_true]
              rw [ih l (k / 2) x (by omega) (j / 2)]
              have : j / 2 = k / 2 ↔ j = k := by omega
              simp [this]
            · have hjb : Nat.beq (j % 2) 1 = false := by rw [← Bool.not_eq_true, Nat.beq_eq]; exact hjp
              simp only [hjb, cond_false]
              have : j ≠ k := by omega
              simp [this]
        · have hpb : Nat.beq (k % 2) 1 = false := by rw [← Bool.not_eq_true, Nat.beq_eq]; exact hp
          simp only [hpb, cond_false, Tr.get]
          by_cases hj : j = 0
          · subst hj; simp; omega
          · have hj0 : Nat.beq j 0 = false := by rw [← Bool.not_eq_true, Nat.beq_eq]; exact hj
            simp only [hj0, cond_false]
            by_cases hjp : j % 2 = 1
            · have hjb : Nat.beq (j % 2) 1 = true := by rw [Nat.beq_eq]; exact hjp
              simp only [hjb, cond_true]
              have : j ≠ k := by omega
              simp [this]
            · have hjb : Nat.beq (j % 2) 1 = false := by rw [← Bool.not_eq_true, Nat.beq_eq]; exact hjp
              simp only [hjb, cond_false]
              rw [ih r (k / 2 - 1) x (by omega) (j / 2 - 1)]
              have : j / 2 - 1 = k / 2 - 1 ↔ j = k := by omega
              simp [this]
    cases t with
    | leaf =>
      have := key .leaf none .leaf
      have hl : (Tr.node (.leaf : Tr α) none .leaf).get j = (Tr.leaf : Tr α).get j := by
        simp only [Tr.get]; cases Nat.beq j 0 <;> cases Nat.beq (j % 2) 1 <;> rfl
      rw [hl] at this
      simp only [Tr.setF]
      exact this
    | node l v r => simp only [Tr.setF]; exact key l v r
theorem Tr.get_set {α : Type} (t : Tr α) (k : Nat) (x : α) (j : Nat) : (t.set k x).get j = if j = k then some x else t.get j := Tr.get_setF (k + 1) t k x (by omega) j
theorem CH.get_put (h : CH) (id : Nat) (o : CObj) (j : Nat) : (h.put id o).get j = if j = id then some o else h.get j := Tr.get_set _ _ _ _
theorem CH.next_put (h : CH) (id : Nat) (o : CObj) : (h.put id o).next = h.next := rfl

/-! ### the relation -/
def hiOf (c : List Value) (ep : Nat) (his : List Nat) (t : Nat) : Option Nat := if t = ep then some c.length else his[ep - 1 - t]?
/-- A row of the run's own: nothing of it is frozen. -/
def Calm (w : World) (b : Nat) : Prop := ∃ c e lo hi, w.heap[b]? = some (.cells c e (lo, hi)) ∧ (lo = hi ∨ c.size ≤ lo)
def pendC : Option (Option Nat) → Option Code
  | none => none
  | some none => some .ret
  | some (some i) => some (.exit i)
structure LoopR (E : Env) (φ : Ren) (st : LoopState) (pend : Option (Option Nat)) (ct : List Value) (ps : List Nat) (x y : CCode) (r : Loop) : Prop where
  state : r.state = st
  pending : r.pending = pendC pend
  tmps : RelT φ ct r.tmps
  params : r.params.toList = ps
  assign : E.cmp r.assign = x
  body : E.cmp r.body = y
  noA : noRf r.assign = true
  noB : noRf r.body = true
theorem LoopR.mono {E : Env} {φ φ' : Ren} (hl : φ.le φ') {st : LoopState} {pend : Option (Option Nat)} {ct : List Value} {ps : List Nat} {x y : CCode} {r : Loop} (h : LoopR E φ st pend ct ps x y r) : LoopR E φ' st pend ct ps x y r :=
  ⟨h.state, h.pending, h.tmps.mono hl, h.params, h.assign, h.body, h.noA, h.noB⟩
inductive EsR (φ : Ren) : List (Value × Value × Nat) → List MapEntry → Prop
  | nil : EsR φ [] []
  | cons {k v : Value} {b : Nat} {e : MapEntry} {r : List (Value × Value × Nat)} {r' : List MapEntry} (hk : VR φ k e.key) (hv : VR φ v e.val) (hb : e.born = b) (h : EsR φ r r') : EsR φ ((k, v, b) :: r) (e :: r')
theorem EsR.mono {φ φ' : Ren} (hl : φ.le φ') {es : List (Value × Value × Nat)} {es' : List MapEntry} (h : EsR φ es es') : EsR φ' es es' := by
  induction h with
  | nil => exact .nil
  | cons hk hv hb _ ih => exact .cons (hk.mono hl) (hv.mono hl) hb ih
inductive MR (φ : Ren) : Option Nat → Option Nat → Prop
  | none : MR φ none none
  | some {id r hi : Nat} (h : φ.at_ id 0 = some (r, 0, 0, hi)) : MR φ (some id) (some r)
theorem MR.mono {φ φ' : Ren} (hl : φ.le φ') {m m' : Option Nat} (h : MR φ m m') : MR φ' m m' := by
  cases h with
  | none => exact .none
  | some h => exact .some (hl.1 _ _ _ h)
def ObjR (E : Env) (φ : Ren) (w : World) (id : Nat) (ob : CObj) (t b o lo hi : Nat) : Prop :=
  match ob with
  | .cells c ep wep his ro => t ≤ ep ∧ wep ≤ ep ∧ lo ≤ hi ∧ hiOf c ep his t = some hi ∧ φ.own b = (if ro then none else some id) ∧ (ro = false → Calm w b) ∧
      (wep ≤ t → hi ≤ c.length ∧ ∀ j, lo ≤ j → j < hi → ∃ v', w.cell? ⟨b, o + (j - lo), none⟩ = some v' ∧ VR φ (cget c j) v')
  | .iter s pos => φ.own b = some id ∧ o = 0 ∧ lo = 0 ∧ t = 0 ∧ w.heap[b]? = some (.stringIter (mkstr s) pos)
  | .map es clock => φ.own b = some id ∧ o = 0 ∧ lo = 0 ∧ t = 0 ∧ ∃ es', w.heap[b]? = some (.map es' clock) ∧ EsR φ es es'.toList
  | .miter m since seen stepped => φ.own b = some id ∧ o = 0 ∧ lo = 0 ∧ t = 0 ∧ ∃ m', w.heap[b]? = some (.mapIter m' since ⟨seen.reverse⟩ stepped) ∧ MR φ m m'
  | .loop st pend ct ps x y => φ.own b = some id ∧ o = 0 ∧ lo = 0 ∧ t = 0 ∧ ∃ r : Loop, w.heap[b]? = some (.loop r) ∧ LoopR E φ st pend ct ps x y r
structure WR (E : Env) (φ : Ren) (H : CH) (w : World) : Prop where
  obj : ∀ id t b o lo hi, φ.at_ id t = some (b, o, lo, hi) → b < w.heap.size ∧ id < H.next ∧ ∀ ob, H.get id = some ob → ObjR E φ w id ob t b o lo hi
  align : ∀ id t t' b o lo hi o' lo' hi', φ.at_ id t = some (b, o, lo, hi) → φ.at_ id t' = some (b, o', lo', hi') → o + lo' = o' + lo
  ownlt : ∀ b id, φ.own b = some id → b < w.heap.size ∧ id < H.next
  absent : ∀ id, H.next ≤ id → H.get id = none
  len : ∀ b, 0 < φ.len b → ∃ c e fz, w.heap[b]? = some (.cells c e fz) ∧ φ.len b ≤ c.size
  frame : ∀ b c t fz, E.frm b = some (c, t, fz) → φ.own b = none ∧ w.heap[b]? = some (.cells c t fz)
  toks : φ.tok = E.tok
  glob : ∀ g cs, E.glob g = some cs → φ.own g = none ∧ g < w.heap.size ∧ ∀ j v, cs[j]? = some v → ∃ v', w.cell? ⟨g, j, none⟩ = some v' ∧ VR φ v v'
structure Ext (φ : Ren) (H : CH) (w : World) (φ' : Ren) (H' : CH) (w' : World) : Prop where
  le : φ.le φ'
  new : ∀ id t x, φ'.at_ id t = some x → φ.at_ id t = some x ∨ (H.get id ≠ none ∧ ∃ t' x', φ.at_ id t' = some x') ∨ H.next ≤ id
  own : ∀ b, b < w.heap.size → φ'.own b = φ.own b
  size : w.heap.size ≤ w'.heap.size
  keep : ∀ b, b < w.heap.size → (∀ id, φ.own b = some id → H.get id = none) → w'.heap[b]? = w.heap[b]?
  os : w'.os = w.os
  tape : w'.tape = w.tape
  output : w'.output = w.output
  next : H.next ≤ H'.next
  unmod : ∀ id, id < H.next → (∀ t, φ.at_ id t = none) → H'.get id = H.get id
  gone : ∀ id, id < H.next → H.get id = none → H'.get id = none
theorem Ext.refl (φ : Ren) (H : CH) (w : World) : Ext φ H w φ H w :=
  ⟨Ren.le_refl φ, fun id t x h => .inl h, fun _ _ => rfl, Nat.le_refl _, fun _ _ _ => rfl, rfl, rfl, rfl, Nat.le_refl _, fun _ _ _ => rfl, fun _ _ h => h⟩
theorem Ext.trans {E : Env} {φ φ' φ'' : Ren} {H H' H'' : CH} {w w' w'' : World} (hw : WR E φ H w) (h : Ext φ H w φ' H' w') (h' : Ext φ' H' w' φ'' H'' w'') : Ext φ H w φ'' H'' w'' where
  le := Ren.le_trans h.le h'.le
  new id t x hx := by
    rcases h'.new id t x hx with hx' | ⟨hg, t', x', hx'⟩ | hn
    · exact h.new id t x hx'
    · rcases h.new id t' x' hx' with h1 | h1 | h1
      · rcases Nat.lt_or_ge id H.next with hl | hl
        · exact .inr (.inl ⟨fun hg0 => hg (h.gone id hl hg0), t', x', h1⟩)
        · exact .inr (.inr hl)
      · exact .inr (.inl h1)
      · exact .inr (.inr h1)
    · exact .inr (.inr (Nat.le_trans h.next hn))
  own b hb := (h'.own b (Nat.lt_of_lt_of_le hb h.size)).trans (h.own b hb)
  size := Nat.le_trans h.size h'.size
  keep b hb hk := by
    rw [h'.keep b (Nat.lt_of_lt_of_le hb h.size) ?_, h.keep b hb hk]
    intro id hid
    rw [h.own b hb] at hid
    exact h.gone id (hw.ownlt b id hid).2 (hk id hid)
  os := h'.os.trans h.os
  tape := h'.tape.trans h.tape
  output := h'.output.trans h.output
  next := Nat.le_trans h.next h'.next
  unmod id hid hn := by
    rw [h'.unmod id (Nat.lt_of_lt_of_le hid h.next) ?_, h.unmod id hid hn]
    intro t
    cases hx : φ'.at_ id t with
    | none => rfl
    | some x =>
      rcases h.new id t x hx with hx' | ⟨_, t', x', hx'⟩ | hle
      · rw [hn t] at hx'; cases hx'
      · rw [hn t'] at hx'; cases hx'
      · omega
  gone id hid hg := h'.gone id (Nat.lt_of_lt_of_le hid h.next) (h.gone id hid hg)

variable {P : Program} {E : Env} {φ : Ren} {H : CH} {w : World}

/-! ### reading -/
theorem takeN_some {n : Nat} {l c : List Value} (h : takeN n l = some c) : c = l.take n ∧ n ≤ l.length := by
  induction n generalizing l c with
  | zero => simp [takeN] at h; simp [h]
  | succ n ih =>
    cases l with
    | nil => simp [takeN] at h
    | cons v r =>
      simp only [takeN, Option.map_eq_some_iff] at h
      obtain ⟨c', hc, rfl⟩ := h
      obtain ⟨rfl, hle⟩ := ih hc
      simp; exact hle
theorem cget_some {l : List Value} {i : Nat} {v : Value} (h : l[i]? = some v) : cget l i = v := by
  rw [cget_eq, List.getD_eq_getElem?_getD, h]; rfl
theorem view_some {c l : List Value} {ep wep t : Nat} {his : List Nat} {ro : Bool} (h : view (.cells c ep wep his ro) t = some l) : wep ≤ t ∧ ∃ hi, hiOf c ep his t = some hi ∧ l = c.take hi := by
  simp only [view] at h
  obtain ⟨h1, h⟩ := cond_some h
  rw [Nat.ble_eq] at h1
  refine ⟨h1, ?_⟩
  unfold hiOf
  by_cases he : t = ep
  · subst he
    simp at h
    exact ⟨c.length, by simp, by simp [h]⟩
  · have : Nat.beq t ep = false := by rw [← Bool.not_eq_true, Nat.beq_eq]; exact he
    rw [this] at h
    simp only [cond_false, Option.map_eq_some_iff] at h
    obtain ⟨hi, hh, rfl⟩ := h
    exact ⟨hi, by rw [if_neg he]; exact hh, rfl⟩
theorem add_none (a : Addr) (ha : a.spot = none) (n : Nat) : a.add n = ⟨a.block, a.off + n, none⟩ := by
  obtain ⟨b, o, s⟩ := a
  simp only at ha; subst ha
  unfold Addr.add; split
  · subst_vars; rfl
  · rfl
theorem AR.spot {A a : Addr} (h : AR φ A a) : a.spot = none := by cases h <;> rfl
theorem cview_sound (hw : WR E φ H w) {A a : Addr} (ha : AR φ A a) {l : List Value} (h : cview E H A = some l) {i : Nat} {v : Value} (hi : l[i]? = some v) :
    ∃ v', w.cell? (a.add i) = some v' ∧ VR φ v v' := by
  cases ha with
  | st h1 hl =>
    rename_i id off t b o lo hi'
    simp only [cview] at h
    cases hg : H.get id with
    | none => rw [hg] at h; simp at h
    | some ob =>
      rw [hg] at h
      simp only [Option.map_eq_some_iff] at h
      obtain ⟨c', hv, rfl⟩ := h
      obtain ⟨hb, hid, hob⟩ := hw.obj _ _ _ _ _ _ h1
      have ho := hob ob hg
      cases ob with
      | iter s pos => simp [view] at hv
      | loop => simp [view] at hv
      | map => simp [view] at hv
      | miter => simp [view] at hv
      | cells c ep wep his ro =>
        obtain ⟨hwep, hi2, hh, rfl⟩ := view_some hv
        obtain ⟨_, _, hlo, hhi, _, _, hc⟩ := ho
        rw [hhi] at hh
        simp only [Option.some.injEq] at hh
        subst hh
        obtain ⟨hle, hc⟩ := hc hwep
        rw [List.getElem?_drop, List.getElem?_take] at hi
        split at hi
        · rename_i hlt
          obtain ⟨v', hv', hr⟩ := hc (off + i) (by omega) hlt
          rw [cget_some hi] at hr
          refine ⟨v', ?_, hr⟩
          rw [add_none _ rfl]
          have : o + (off - lo) + i = o + (off + i - lo) := by omega
          rw [this]; exact hv'
        · simp at hi
  | glob g off =>
    simp only [cview, Option.map_eq_some_iff] at h
    obtain ⟨cs, hcs, rfl⟩ := h
    rw [List.getElem?_drop] at hi
    obtain ⟨v', hv', hr⟩ := (hw.glob g cs hcs).2.2 _ _ hi
    exact ⟨v', by rw [add_none _ rfl]; exact hv', hr⟩
theorem run_loadCellsFrom {a : Addr} : ∀ (n i : Nat) (l : List Value) (acc : Array Value), l.length = n → (∀ j v, l[j]? = some v → w.cell? (a.add (i + j)) = some v) →
    (loadCellsFrom a i n acc).run P w = .ok (acc ++ ⟨l⟩) w := by
  intro n
  induction n with
  | zero =>
    intro i l acc hl _
    obtain rfl := List.eq_nil_of_length_eq_zero hl
    simp [loadCellsFrom]
  | succ n ih =>
    intro i l acc hl hc
    cases l with
    | nil => simp at hl
    | cons v l =>
      have h0 := hc 0 v (by simp)
      rw [Nat.add_zero] at h0
      simp only [loadCellsFrom, Sem.run_bind]
      rw [show (load (a.add i)).run P w = .ok v w from by simp [h0]]
      simp only [Result.andThen_ok]
      rw [ih (i + 1) l (acc.push v) (by simpa using hl) (fun j u hj => by
        have := hc (j + 1) u (by simpa using hj)
        rwa [show i + 1 + j = i + (j + 1) from by omega])]
      congr 1
      apply Array.toList_inj.1
      simp
theorem cells_related (hw : WR E φ H w) {A a : Addr} (ha : AR φ A a) {l : List Value} (h : cview E H A = some l) : ∀ n, n ≤ l.length →
    ∃ l' : List Value, l'.length = n ∧ VRs φ (l.take n) l' ∧ ∀ j v, l'[j]? = some v → w.cell? (a.add j) = some v := by
  intro n
  induction n with
  | zero => intro _; exact ⟨[], rfl, by simp; exact .nil, fun j v h => by simp at h⟩
  | succ n ih =>
    intro hn
    obtain ⟨l', hl, hr, hc⟩ := ih (by omega)
    have hlt : n < l.length := by omega
    obtain ⟨v', hv', rv⟩ := cview_sound hw ha h (List.getElem?_eq_getElem hlt)
    refine ⟨l' ++ [v'], by simp [hl], ?_, ?_⟩
    · rw [List.take_succ_eq_append_getElem hlt]; exact hr.append (.cons rv .nil)
    · intro j v hj
      rw [List.getElem?_append] at hj
      split at hj
      · exact hc j v hj
      · rename_i hjn
        have : j = n := by
          rcases Nat.lt_or_ge n j with h | h
          · have : j - l'.length ≥ 1 := by omega
            rw [List.getElem?_eq_none (by simp; omega)] at hj; cases hj
          · omega
        subst this
        simp [hl] at hj
        subst hj; exact hv'
theorem run_loadCells (hw : WR E φ H w) {A a : Addr} (ha : AR φ A a) {l c : List Value} {n : Nat} (h : cview E H A = some l) (hc : takeN n l = some c) :
    ∃ c', (loadCells a n).run P w = .ok ⟨c'⟩ w ∧ VRs φ c c' := by
  obtain ⟨rfl, hle⟩ := takeN_some hc
  obtain ⟨l', hl, hr, hcell⟩ := cells_related hw ha h n hle
  refine ⟨l', ?_, hr⟩
  have := run_loadCellsFrom (P := P) (w := w) (a := a) n 0 l' #[] hl (fun j v hj => by rw [Nat.zero_add]; exact hcell j v hj)
  rw [loadCells, this]
  simp
theorem lVar_sound (hw : WR E φ H w) {t : TypeId} {n : Option Nat} {x x' v : Value} (ht : tload P t = some n) (hx : VR φ x x') (h : lVar E H n x = some v) :
    ∃ v', (Instr.loadAt t x').run P w = .ok v' w ∧ VR φ v v' := by
  cases hx <;> simp only [lVar, reduceCtorEq] at h
  rename_i A a ha
  cases hv : cview E H A with
  | none => rw [hv] at h; simp at h
  | some l =>
    rw [hv] at h
    simp only at h
    rcases tload_some ht with ⟨rfl, hag⟩ | ⟨k, rfl, hag, hk⟩
    · simp only at h
      obtain ⟨v', hv', hr⟩ := cview_sound hw ha hv (i := 0) (v := v) (by rw [← List.head?_eq_getElem?]; exact h)
      refine ⟨v', ?_, hr⟩
      have e0 : a.add 0 = a := by unfold Addr.add; simp
      rw [e0] at hv'
      simp [Instr.loadAt, Instr.sureAddr, loadVar, run_isAgg' hag, hv']
    · simp only [Option.map_eq_some_iff] at h
      obtain ⟨c, hc, rfl⟩ := h
      obtain ⟨c', hrun, hr⟩ := run_loadCells (P := P) hw ha hv hc
      refine ⟨.agg ⟨c'⟩, ?_, .agg hr⟩
      simp [Instr.loadAt, Instr.sureAddr, loadVar, run_isAgg' hag, run_sizeOf' hk, hrun]
theorem bytes_fold (f : Value → ByteArray → Sem (ForInStep ByteArray)) (hf : ∀ (n : Int) (r : ByteArray), f (.int .u8 n) r = pure (ForInStep.yield (r.push (UInt8.ofNat n.toNat))))
    {l : List Value} {bs : List UInt8} {l' : List Value} (hr : VRs φ l l') (h : bytesOf l = some bs) :
    ∀ s : ByteArray, (forIn l' s f).run P w = .ok (mkstr (sbytes s ++ bs)) w := by
  induction l generalizing bs l' with
  | nil =>
    cases hr
    simp [bytesOf] at h; subst h
    intro s; simp; rfl
  | cons v r ih =>
    cases hr with
    | cons hv hr =>
      rename_i y ys
      intro s
      have hform : ∃ n : Nat, v = .int .u8 (.ofNat n) ∧ ∃ rest, bytesOf r = some rest ∧ bs = UInt8.ofNat n :: rest := by
        unfold bytesOf at h
        split at h
        · rename_i hq; cases hq
        · rename_i n r' hq
          injection hq with h1 h2
          subst h1 h2
          obtain ⟨rest, hrest, hb⟩ := Option.map_eq_some_iff.1 h
          exact ⟨n, rfl, rest, hrest, hb.symm⟩
        · simp at h
      obtain ⟨n, rfl, rest, hrest, rfl⟩ := hform
      cases hv
      simp only [List.forIn_cons, Sem.run_bind, hf, Sem.run_pure, Result.andThen_ok]
      rw [ih hr hrest]
      congr 1
      apply ba_ext
      rw [sbytes_mkstr, sbytes_mkstr]
      have : sbytes (s.push (UInt8.ofNat (Int.ofNat n).toNat)) = sbytes s ++ [UInt8.ofNat n] := by
        simp [sbytes, ByteArray.push]
      rw [this]; simp
theorem lB2s_sound (hw : WR E φ H w) {s d e : TypeId} {x x' v : Value} (hs : P.underlying s = some (.slice e)) (hd : P.underlying d = some .string) (he : P.underlying e = some (.int .u8))
    (hx : VR φ x x') (h : lB2s E H x = some v) : ∃ v', (convert s d x').run P w = .ok v' w ∧ VR φ v v' := by
  cases hx <;> simp only [lB2s, reduceCtorEq] at h
  · simp at h; subst h
    refine ⟨.string (mkstr []), ?_, .string _⟩
    simp [convert, run_underlying hs, run_underlying hd, run_underlying he, Conv.bytesToString]; rfl
  · rename_i A a n C c h1 h2 h3 h4
    cases hv : (cview E H A).bind (takeN n) with
    | none => rw [hv] at h; simp at h
    | some l =>
      rw [hv] at h
      simp only [Option.map_eq_some_iff] at h
      obtain ⟨bs, hbs, rfl⟩ := h
      obtain ⟨l0, hl0, htk⟩ := Option.bind_eq_some_iff.1 hv
      obtain ⟨l', hrun, hr⟩ : ∃ l', (loadCells a n).run P w = .ok ⟨l'⟩ w ∧ VRs φ l l' := by
        rcases h3.2 with rfl | ha
        · obtain rfl : n = 0 := by omega
          simp [takeN] at htk; subst htk
          exact ⟨[], by simp [loadCells, loadCellsFrom], .nil⟩
        · exact run_loadCells hw ha hl0 htk
      refine ⟨.string (mkstr bs), ?_, .string _⟩
      have e0 : mkstr (sbytes ByteArray.empty ++ bs) = mkstr bs := rfl
      simp only [convert, Sem.run_bind, run_underlying hs, run_underlying hd, run_underlying he, Result.andThen_ok, Conv.bytesToString, hrun]
      simp only [List.forIn_toArray]
      rw [bytes_fold (P := P) (w := w) _ (fun _ _ => rfl) hr hbs ByteArray.empty, e0]; rfl
end Go.Cl

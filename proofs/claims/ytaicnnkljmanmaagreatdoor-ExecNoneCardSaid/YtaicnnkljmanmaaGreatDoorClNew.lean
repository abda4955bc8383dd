/- New memory. -/
import Derived.Test.YtaicnnkljmanmaaGreatDoorClHeap
namespace Go.Cl
open Go
variable {P : Program} {E : Env} {φ φ' : Ren} {H : CH} {w w' : World}

theorem cell_congr {b : Nat} (h : w'.heap[b]? = w.heap[b]?) (o : Nat) (s : Option Nat) : w'.cell? ⟨b, o, s⟩ = w.cell? ⟨b, o, s⟩ := by
  unfold World.cell?; simp only [h]
theorem Calm.congr {b : Nat} (h : Calm w b) (hb : w'.heap[b]? = w.heap[b]?) : Calm w' b := by unfold Calm at *; rw [hb]; exact h
theorem ObjR.mono {id : Nat} {ob : CObj} {t b o lo hi : Nat} (h : ObjR E φ w id ob t b o lo hi) (hl : φ.le φ') (ho : φ'.own b = φ.own b) (hb : w'.heap[b]? = w.heap[b]?) :
    ObjR E φ' w' id ob t b o lo hi := by
  cases ob with
  | cells c ep wep his ro =>
    obtain ⟨h1, h2, h3, h4, h5, h5', h6⟩ := h
    refine ⟨h1, h2, h3, h4, by rw [ho]; exact h5, fun hr => (h5' hr).congr hb, fun hw => ?_⟩
    obtain ⟨h7, h8⟩ := h6 hw
    refine ⟨h7, fun j hj hj' => ?_⟩
    obtain ⟨v', hv, hr⟩ := h8 j hj hj'
    exact ⟨v', by rw [cell_congr hb]; exact hv, hr.mono hl⟩
  | iter s pos =>
    obtain ⟨h1, h2, h3, h4, h5⟩ := h
    exact ⟨by rw [ho]; exact h1, h2, h3, h4, by rw [hb]; exact h5⟩
  | map =>
    obtain ⟨h1, h2, h3, h4, es', h5, h6⟩ := h
    exact ⟨by rw [ho]; exact h1, h2, h3, h4, es', by rw [hb]; exact h5, h6.mono hl⟩
  | miter =>
    obtain ⟨h1, h2, h3, h4, m', h5, h6⟩ := h
    exact ⟨by rw [ho]; exact h1, h2, h3, h4, m', by rw [hb]; exact h5, h6.mono hl⟩
  | loop =>
    obtain ⟨h1, h2, h3, h4, r, h5, h6⟩ := h
    exact ⟨by rw [ho]; exact h1, h2, h3, h4, r, by rw [hb]; exact h5, h6.mono hl⟩
theorem WR.heap (hw : WR E φ H w) (hh : w'.heap = w.heap) : WR E φ H w' where
  obj id t b o lo hi h := by
    obtain ⟨h1, h2, h3⟩ := hw.obj _ _ _ _ _ _ h
    exact ⟨by rw [hh]; exact h1, h2, fun ob ho => (h3 ob ho).mono (Ren.le_refl φ) rfl (by rw [hh])⟩
  align := hw.align
  ownlt b id h := by rw [hh]; exact hw.ownlt b id h
  absent := hw.absent
  len b h := by rw [hh]; exact hw.len b h
  frame b c t fz h := by rw [hh]; exact hw.frame b c t fz h
  toks := hw.toks
  glob g cs h := by
    obtain ⟨h1, h2, h3⟩ := hw.glob g cs h
    refine ⟨h1, by rw [hh]; exact h2, fun j v hj => ?_⟩
    obtain ⟨v', hv, hr⟩ := h3 j v hj
    exact ⟨v', (cell_congr (w' := w') (w := w) (b := g) (by rw [hh]) j none).trans hv, hr⟩
/-- One more object, at a place that nothing leads to. -/
theorem WR.put_fresh (hw : WR E φ H w) {id : Nat} (hn : ∀ t, φ.at_ id t = none) (ob : CObj) {H1 : CH} (hg : ∀ j, H1.get j = if j = id then some ob else H.get j) (hnx : H.next ≤ H1.next) (hid : id < H1.next) : WR E φ H1 w where
  obj id' t b o lo hi h := by
    obtain ⟨h1, h2, h3⟩ := hw.obj _ _ _ _ _ _ h
    refine ⟨h1, Nat.lt_of_lt_of_le h2 hnx, fun ob' ho => ?_⟩
    rw [hg] at ho
    split at ho
    · subst_vars; rw [hn t] at h; cases h
    · exact h3 ob' ho
  align := hw.align
  ownlt b id' h := ⟨(hw.ownlt b id' h).1, Nat.lt_of_lt_of_le (hw.ownlt b id' h).2 hnx⟩
  absent j hj := by rw [hg, if_neg (by omega)]; exact hw.absent j (Nat.le_trans hnx hj)
  len := hw.len
  frame := hw.frame
  toks := hw.toks
  glob := hw.glob
def Ren.ext (φ : Ren) (id t b o lo hi L : Nat) : Ren :=
  ⟨fun i s => if i = id ∧ s = t then some (b, o, lo, hi) else φ.at_ i s, fun c => if c = b then some id else φ.own c, fun c => if c = b then max (φ.len b) L else φ.len c, φ.tok⟩
theorem Ren.ext_le {id t b o lo hi L : Nat} (hn : φ.at_ id t = none) : φ.le (φ.ext id t b o lo hi L) := by
  refine ⟨fun i s x h => ?_, fun c => ?_, rfl⟩
  · simp only [Ren.ext]
    split
    · rename_i hc; rw [hc.1, hc.2, hn] at h; cases h
    · exact h
  · simp only [Ren.ext]
    split
    · rename_i hc; rw [hc]; exact Nat.le_max_left _ _
    · exact Nat.le_refl _
theorem Ren.ext_at {id t b o lo hi L : Nat} : (φ.ext id t b o lo hi L).at_ id t = some (b, o, lo, hi) := by simp [Ren.ext]
theorem Ren.ext_own {id t b o lo hi L : Nat} : (φ.ext id t b o lo hi L).own b = some id := by simp [Ren.ext]
theorem Ren.ext_len {id t b o lo hi L : Nat} : L ≤ (φ.ext id t b o lo hi L).len b := by simp [Ren.ext]; exact Nat.le_max_right _ _
def LenOk (obj : Obj) (L : Nat) : Prop := L = 0 ∨ ∃ c e fz, obj = .cells c e fz ∧ L ≤ c.size
theorem WR.len_new (hw : WR E φ H w) {b : Nat} (hb : w.heap.size ≤ b) : φ.len b = 0 := by
  rcases Nat.eq_zero_or_pos (φ.len b) with h | h
  · exact h
  · obtain ⟨c, e, fz, hc, _⟩ := hw.len b h
    rw [Array.getElem?_eq_none hb] at hc; cases hc
/-- The machine has made a block. -/
structure Grown (w w' : World) (obj : Obj) : Prop where
  heap : w'.heap = w.heap.push obj
  os : w'.os = w.os
  tape : w'.tape = w.tape
  output : w'.output = w.output
theorem Grown.size {obj : Obj} (h : Grown w w' obj) : w'.heap.size = w.heap.size + 1 := by rw [h.heap]; simp
theorem Grown.old {obj : Obj} (h : Grown w w' obj) {b : Nat} (hb : b < w.heap.size) : w'.heap[b]? = w.heap[b]? := by
  rw [h.heap, Array.getElem?_push, if_neg (by omega)]
/-- The machine has made a block for an object that the clean heap has, or will have. -/
theorem WR.extend (hw : WR E φ H w) {id hi L : Nat} (hn : ∀ t, φ.at_ id t = none) (hid : id < H.next) {obj : Obj} (hgr : Grown w w' obj) (hL : LenOk obj L)
    (hob : ∀ ob, H.get id = some ob → ObjR E (φ.ext id 0 w.heap.size 0 0 hi L) w' id ob 0 w.heap.size 0 0 hi) : WR E (φ.ext id 0 w.heap.size 0 0 hi L) H w' := by
  have hsz := hgr.size
  have hle := Ren.ext_le (φ := φ) (id := id) (t := 0) (b := w.heap.size) (o := 0) (lo := 0) (hi := hi) (L := L) (hn 0)
  constructor
  · intro id' t b o lo hi' h
    simp only [Ren.ext] at h
    split at h
    · rename_i hc
      obtain ⟨rfl, rfl⟩ := hc
      simp only [Option.some.injEq, Prod.mk.injEq] at h
      obtain ⟨rfl, rfl, rfl, rfl⟩ := h
      exact ⟨by omega, hid, hob⟩
    · obtain ⟨h1, h2, h3⟩ := hw.obj _ _ _ _ _ _ h
      refine ⟨by omega, h2, fun ob ho => (h3 ob ho).mono hle ?_ (hgr.old h1)⟩
      simp only [Ren.ext]
      rw [if_neg (by omega)]
  · intro id' t t' b o lo hi1 o' lo' hi2 h h'
    simp only [Ren.ext] at h h'
    split at h
    · rename_i hc
      split at h'
      · simp only [Option.some.injEq, Prod.mk.injEq] at h h'
        omega
      · rw [hc.1, hn t'] at h'; cases h'
    · split at h'
      · rename_i hc; rw [hc.1, hn t] at h; cases h
      · exact hw.align _ _ _ _ _ _ _ _ _ _ h h'
  · intro b id' h
    simp only [Ren.ext] at h
    split at h
    · simp only [Option.some.injEq] at h; subst h; exact ⟨by omega, hid⟩
    · have := hw.ownlt b id' h; exact ⟨by omega, this.2⟩
  · exact hw.absent
  · intro b hb
    simp only [Ren.ext] at hb ⊢
    split at hb
    · rename_i hc
      rw [hc, if_pos rfl, hgr.heap]
      have h0 := hw.len_new (Nat.le_refl w.heap.size)
      rw [h0] at hb ⊢
      rcases hL with hL | ⟨c, e, fz, rfl, hle⟩
      · omega
      · exact ⟨c, e, fz, by simp, by omega⟩
    · rename_i hc
      rw [if_neg hc]
      obtain ⟨c, e, fz, h1, h2⟩ := hw.len b hb
      refine ⟨c, e, fz, ?_, h2⟩
      rw [hgr.old ((Array.getElem?_eq_some_iff.1 h1).1)]; exact h1
  · intro b c t fz h
    obtain ⟨h1, h2⟩ := hw.frame b c t fz h
    have hb := (Array.getElem?_eq_some_iff.1 h2).1
    refine ⟨?_, by rw [hgr.old hb]; exact h2⟩
    simp only [Ren.ext]
    rw [if_neg (by omega)]; exact h1
  · exact hw.toks
  · intro g cs hg
    obtain ⟨h1, h1', h2⟩ := hw.glob g cs hg
    refine ⟨by simp only [Ren.ext]; rw [if_neg (by omega)]; exact h1, by omega, fun j v hj => ?_⟩
    obtain ⟨v', hv, hr⟩ := h2 j v hj
    exact ⟨v', by rw [cell_congr (hgr.old h1')]; exact hv, hr.mono hle⟩
theorem Ext.extend {id hi L : Nat} (hn : ∀ t, φ.at_ id t = none) {obj : Obj} (hgr : Grown w w' obj) {H1 : CH} (hnx : H.next ≤ H1.next) (hg : ∀ j, j < H.next → H1.get j = H.get j) (hid : H.next ≤ id) :
    Ext φ H w (φ.ext id 0 w.heap.size 0 0 hi L) H1 w' where
  le := Ren.ext_le (hn 0)
  new i s x h := by
    simp only [Ren.ext] at h
    split at h
    · rename_i hc; rw [hc.1]; exact .inr (.inr hid)
    · exact .inl h
  own b hb := by simp only [Ren.ext]; rw [if_neg (by omega)]
  size := by rw [hgr.size]; omega
  keep b hb _ := hgr.old hb
  os := hgr.os
  tape := hgr.tape
  output := hgr.output
  next := hnx
  unmod j hj _ := hg j hj
  gone j hj h := by rw [hg j hj]; exact h
theorem WR.at_lt (hw : WR E φ H w) {id : Nat} (h : H.next ≤ id) (t : Nat) : φ.at_ id t = none := by
  cases hx : φ.at_ id t with
  | none => rfl
  | some x =>
    obtain ⟨b, o, lo, hi⟩ := x
    have := (hw.obj _ _ _ _ _ _ hx).2.1
    omega
theorem CH.get_add (h : CH) (o : CObj) (j : Nat) : (h.add o).get j = if j = h.next then some o else h.get j := Tr.get_set _ _ _ _
/-- What an operation that makes a block gives. -/
structure Made (E : Env) (φ : Ren) (w w' : World) (id : Nat) (v v' : Value) (ob : CObj) : Prop where
  made : ∃ obj hi L, Grown w w' obj ∧ LenOk obj L ∧ ∀ φ' : Ren, φ.le φ' → φ'.at_ id 0 = some (w.heap.size, 0, 0, hi) → L ≤ φ'.len w.heap.size →
    VR φ' v v' ∧ (φ'.own w.heap.size = some id → ObjR E φ' w' id ob 0 w.heap.size 0 0 hi)
theorem Made.step (hw : WR E φ H w) {v v' : Value} {ob : CObj} (h : Made E φ w w' H.next v v' ob) :
    ∃ φ', Ext φ H w φ' (H.add ob) w' ∧ WR E φ' (H.add ob) w' ∧ VR φ' v v' := by
  obtain ⟨obj, hi, L, hgr, hL, hm⟩ := h.made
  have hn := hw.at_lt (Nat.le_refl _)
  obtain ⟨hv, ho⟩ := hm (φ.ext H.next 0 w.heap.size 0 0 hi L) (Ren.ext_le (hn 0)) Ren.ext_at Ren.ext_len
  have ho := ho Ren.ext_own
  refine ⟨_, Ext.extend hn hgr (Nat.le_succ _) (fun j hj => ?_) (Nat.le_refl _), ?_, hv⟩
  · rw [CH.get_add, if_neg (by omega)]
  · have h1 : WR E φ (H.add ob) w := hw.put_fresh hn ob (CH.get_add H ob) (Nat.le_succ _) (Nat.lt_succ_self _)
    refine h1.extend hn (Nat.lt_succ_self _) hgr hL fun ob' hob => ?_
    rw [CH.get_add, if_pos rfl] at hob
    simp only [Option.some.injEq] at hob
    subst hob; exact ho
theorem VRs.cget {xs ys : List Value} (h : VRs φ xs ys) (j : Nat) (hj : j < xs.length) : ∃ v', ys[j]? = some v' ∧ VR φ (Cl.cget xs j) v' := by
  obtain ⟨v', h1, h2⟩ := VRs.get? h (List.getElem?_eq_getElem hj)
  refine ⟨v', h1, ?_⟩
  rw [cget_some (List.getElem?_eq_getElem hj)]; exact h2
theorem fresh_obj {id : Nat} {cs : Array Value} {e : TypeId} {lo hi : Nat} (hgr : Grown w w' (.cells cs e (lo, hi))) (hf : lo = hi ∨ cs.size ≤ lo) {c c' rest : List Value} (hcs : cs.toList = c' ++ rest) (hv : VRs φ c c')
    (hl : φ.le φ') (ho : φ'.own w.heap.size = some id) : ObjR E φ' w' id (fresh c) 0 w.heap.size 0 0 c.length := by
  have hb : w'.heap[w.heap.size]? = some (.cells cs e (lo, hi)) := by rw [hgr.heap]; simp
  refine ⟨Nat.le_refl _, Nat.le_refl _, Nat.zero_le _, by simp [hiOf], ho, fun _ => ⟨cs, e, lo, hi, hb, hf⟩, fun _ => ⟨Nat.le_refl _, fun j _ hj => ?_⟩⟩
  obtain ⟨v', h1, h2⟩ := hv.cget j hj
  refine ⟨v', ?_, h2.mono hl⟩
  have hlen := hv.length
  have : cs[j]? = some v' := by
    rw [← Array.getElem?_toList, hcs, List.getElem?_append_left (by omega)]; exact h1
  simp [World.cell?, hb, this]
theorem Made.cells {id : Nat} {cs : Array Value} {e : TypeId} {lo hi : Nat} (hgr : Grown w w' (.cells cs e (lo, hi))) (hf : lo = hi ∨ cs.size ≤ lo) {c c' rest : List Value} (hcs : cs.toList = c' ++ rest) (hv : VRs φ c c')
    {v v' : Value} (hvv : ∀ φ', AR φ' ⟨id, 0, some 0⟩ ⟨w.heap.size, 0, none⟩ → cs.size ≤ φ'.len w.heap.size → VR φ' v v') : Made E φ w w' id v v' (fresh c) := by
  refine ⟨_, c.length, cs.size, hgr, .inr ⟨_, _, _, rfl, Nat.le_refl _⟩, fun φ' hl ha hL => ⟨hvv φ' (.st ha (Nat.le_refl 0)) hL, fun ho => fresh_obj hgr hf hcs hv hl ho⟩⟩
theorem push_grown (obj : Obj) : Grown w { w with heap := w.heap.push obj } obj := ⟨rfl, rfl, rfl, rfl⟩
theorem reps_length (n : Nat) (z : List Value) : (reps n z).length = n * z.length := by
  induction n with
  | zero => simp [reps]
  | succ n ih => simp [reps, ih, Nat.succ_mul, Nat.add_comm]
theorem reps_get (z : List Value) (hz : 0 < z.length) : ∀ (n i : Nat), i < n * z.length → (reps n z)[i]? = z[i % z.length]? := by
  intro n
  induction n with
  | zero => intro i h; omega
  | succ n ih =>
    intro i h
    rw [reps, List.getElem?_append]
    split
    · rename_i hlt; rw [Nat.mod_eq_of_lt hlt]
    · rename_i hge
      rw [ih (i - z.length) (by have := Nat.succ_mul n z.length; simp only [Nat.succ_eq_add_one] at this; omega), Nat.mod_eq_sub_mod (by omega : i ≥ z.length)]
theorem range_map_reps {z : Array Value} (hz : 0 < z.size) (n : Nat) : ((Array.range (n * z.size)).map (z[· % z.size]!)).toList = reps n z.toList := by
  apply List.ext_getElem?
  intro i
  by_cases hi : i < n * z.size
  · rw [reps_get z.toList (by simpa using hz) n i (by simpa using hi)]
    have hm : i % z.size < z.size := Nat.mod_lt _ hz
    simp [hi, hm]
  · rw [List.getElem?_eq_none (by simp; omega), List.getElem?_eq_none (by rw [reps_length]; simp; omega)]
theorem reps_add (a b : Nat) (z : List Value) : reps (a + b) z = reps a z ++ reps b z := by
  induction a with
  | zero => simp [reps]
  | succ a ih => rw [Nat.succ_add, reps, reps, ih, List.append_assoc]
theorem VRs.reps {xs ys : List Value} (h : VRs φ xs ys) : ∀ n, VRs φ (Cl.reps n xs) (Cl.reps n ys)
  | 0 => .nil
  | n + 1 => h.append (VRs.reps h n)
theorem freeze_push {cs : Array Value} {e : TypeId} {k : Nat} : World.freeze { w with heap := w.heap.push (.cells cs e) } ⟨w.heap.size, k, none⟩ 1 = { w with heap := w.heap.push (.cells cs e (k, k + 1)) } := by
  unfold World.freeze
  simp only [Nat.reduceEqDiff, if_false]
  congr 1
  apply Array.ext_getElem?
  intro i
  rw [Array.getElem?_modify, Array.getElem?_push, Array.getElem?_push]
  by_cases hi : w.heap.size = i
  · subst hi; simp
  · have : ¬ i = w.heap.size := fun h => hi h.symm
    simp [hi, this]
theorem run_markStringish {a : Addr} {cs : Array Value} {e : TypeId} {fz : Nat × Nat} (h : w.heap[a.block]? = some (.cells cs e fz)) :
    (markStringish a).run P w = .ok () (w.freeze ⟨a.block, cs.size, none⟩ 1) := by
  have hs : w.shape? a.block = some (e, cs.size) := by simp [World.shape?, h]
  simp only [markStringish, Sem.run_bind, run_shape, Result.andThen_ok, hs, run_freeze]
theorem gd_eq {α : Type} {b : Bool} {x y : α} : gd b x = some y ↔ b = true ∧ x = y := by cases b <;> simp [gd]
theorem cond_eq_some {α : Type} {b : Bool} {x : Option α} {y : α} : (bif b then x else none) = some y ↔ b = true ∧ x = some y := by cases b <;> simp
theorem compCall_e {c : Call} {q : COp} (h : compCall P c = some q) : (∃ p, q = .p p) ∨ (∃ e, q = .e true e) ∨ ∃ x, q = .l 0 0 (.mlen x) := by
  unfold compCall at h
  repeat' split at h
  all_goals first
    | (simp only [Option.bind_eq_some_iff, gd_eq, Option.some.injEq, reduceCtorEq] at h; done)
    | (simp only [Option.bind_eq_some_iff, gd_eq, Option.some.injEq] at h; obtain ⟨_, rfl⟩ := h; first | exact .inl ⟨_, rfl⟩ | exact .inr (.inl ⟨_, rfl⟩) | exact .inr (.inr ⟨_, rfl⟩))
    | (simp only [Option.bind_eq_some_iff, gd_eq, Option.some.injEq] at h; obtain ⟨_, _, _, rfl⟩ := h; first | exact .inl ⟨_, rfl⟩ | exact .inr (.inl ⟨_, rfl⟩) | exact .inr (.inr ⟨_, rfl⟩))
    | (simp only [Option.some.injEq] at h; subst h; first | exact .inl ⟨_, rfl⟩ | exact .inr (.inl ⟨_, rfl⟩) | exact .inr (.inr ⟨_, rfl⟩))
set_option maxHeartbeats 1000000 in
/-- ALL OPERATIONS THAT MAKE A BLOCK. -/
theorem new_sound {K : List TypeId} {o : Oper} {p : NOp} {ρc ρ : Operand → Value} {v : Value} {ob : CObj} {id : Nat} (hc : compOp P K o = some (.n p))
    (hr : ∀ x, okO x = true → VR φ (ρc x) (ρ x)) (h : cnew id p ρc = some (v, ob)) (w : World) : ∃ v' w', (execOp ρ o).run P w = .ok (.value v') w' ∧ Made E φ w w' id v v' ob := by
  cases hop : o.op <;> simp only [compOp, hop, reduceCtorEq] at hc <;> simp only [execOp, hop]
  case alloc t =>
    obtain ⟨z, hz, h2⟩ := Option.map_eq_some_iff.1 hc
    injection h2 with h2; subst h2
    simp only [cnew, Option.some.injEq, Prod.mk.injEq] at h
    obtain ⟨rfl, rfl⟩ := h
    obtain ⟨i, zv, hi, hzv, hzc, hzl, hcl, _, _⟩ := zcells_some hz
    refine ⟨_, _, by simp [Instr.alloc, run_zeroValue' hi hzv, newVar, newRow]; exact ⟨rfl, rfl⟩, ?_⟩
    exact .cells (push_grown _) (.inl rfl) (c' := z) (rest := []) (by simpa using hzc) (VRs.closed hcl) fun φ' ha _ => .ptr ha
  case box t x =>
    obtain ⟨n, hn, hc⟩ := Option.bind_eq_some_iff.1 hc
    obtain ⟨h1, h2⟩ := gd_some hc
    injection h2 with h2; subst h2
    simp only [cnew, nBox] at h
    obtain ⟨hb, h⟩ := cond_some h
    simp only [Option.some.injEq, Prod.mk.injEq] at h
    obtain ⟨rfl, rfl⟩ := h
    refine ⟨_, _, by simp [Instr.box, newVar, newRow]; exact ⟨rfl, rfl⟩, ?_⟩
    exact .cells (push_grown _) (.inl rfl) (c' := (ρ x).cells.toList) (rest := []) (by simp) (hr x h1).cells fun φ' ha _ => .ptr ha
  case buildSlice t len ps =>
    split at hc
    · rename_i e hu
      split at hc
      · rename_i z n hz hn
        obtain ⟨hb, hc⟩ := cond_some hc
        obtain ⟨q, hq, h2⟩ := Option.map_eq_some_iff.1 hc
        injection h2 with h2; subst h2
        simp only [Bool.and_eq_true, Nat.ble_eq] at hb
        obtain ⟨hb1, hb2⟩ := hb
        simp only [cnew] at h
        cases hf : fill (reps len z) (mapPs ρc q) with
        | none => rw [hf] at h; simp [nBsl] at h
        | some c =>
          rw [hf] at h
          simp only [nBsl, Option.some.injEq, Prod.mk.injEq] at h
          obtain ⟨rfl, rfl⟩ := h
          obtain ⟨i, zv, hi, hzv, hzc, hzl, hcl, _, hts⟩ := zcells_some hz
          rw [hn] at hts
          simp only [Option.some.injEq] at hts
          obtain ⟨c', hc', hr'⟩ := fill_sound (φ := φ) (fun i => some (i * n, n)) _ _ (reps len z) (reps len z) c (parts_arr hr ps.toList q hq) ((VRs.closed hcl).reps len) hf
          have hzz : zv.cells = ⟨z⟩ := Array.toList_inj.1 hzc
          have hpl : (ps.map fun (x : Nat × Operand) => (x.1, ρ x.2)).toList = ps.toList.map fun x => (x.1, ρ x.2) := by simp
          have hrows : (Array.range (len * n)).map ((if len * n = 0 then #[] else (⟨z⟩ : Array Value))[· % (if len * n = 0 then #[] else (⟨z⟩ : Array Value)).size]!) = ⟨reps len z⟩ := by
            split
            · rename_i h0
              have : len = 0 := by rcases Nat.mul_eq_zero.1 h0 with h | h <;> omega
              subst this; simp [reps]
            · apply Array.toList_inj.1
              have := range_map_reps (z := ⟨z⟩) (by show 0 < z.length; omega) len
              rw [hts]; exact this
          refine ⟨.slice (some ⟨w.heap.size, 0, none⟩) len len, { w with heap := w.heap.push (.cells ⟨c'⟩ e) }, ?_, ?_⟩
          · simp only [Instr.buildSlice, Sem.run_bind, run_underlying hu, Result.andThen_ok, run_sizeOf' hn]
            rw [if_neg (by omega)]
            by_cases h0 : len * n = 0
            · simp only [h0, if_true] at hrows ⊢
              simp only [Sem.run_bind, Sem.run_pure, Result.andThen_ok, hrows, hpl, hc', newRow, run_newObj]
            · simp only [h0, if_false] at hrows ⊢
              simp only [Sem.run_bind, run_zeroValue' hi hzv, hzz, Sem.run_pure, Result.andThen_ok, hrows, hpl, hc', newRow, run_newObj]
          · exact .cells (push_grown _) (.inl rfl) (c' := c') (rest := []) (by simp) hr' fun φ' ha _ => .sl (Nat.le_refl _) (fun _ => rfl) (.of ha) (.inl (by rw [szC_mk]))
      · simp at hc
    · simp at hc
  case makeSlice t l c =>
    split at hc
    · rename_i e hu
      split at hc
      · rename_i z b hz hbytes
        obtain ⟨h1, h2⟩ := gd_some hc
        injection h2 with h2; subst h2
        simp only [Bool.and_eq_true, Nat.ble_eq] at h1
        obtain ⟨⟨hl, hcp⟩, hz1⟩ := h1
        simp only [cnew] at h
        have rl := hr _ hl
        have rc := hr _ hcp
        generalize ρ l = l' at *
        generalize ρ c = cp' at *
        generalize ρc l = lc at *
        generalize ρc c = cc at *
        unfold nMsl at h
        split at h
        · rename_i k1 ln k2 cn
          obtain ⟨hb, h⟩ := cond_some h
          simp only [Option.some.injEq, Prod.mk.injEq] at h
          obtain ⟨rfl, rfl⟩ := h
          cases rl; cases rc
          simp only [Bool.and_eq_true, Nat.ble_eq, maxB] at hb
          obtain ⟨⟨hlc, hcb⟩, hcm⟩ := hb
          obtain ⟨i, zv, hi, hzv, hzc, hzl, hcl, _, hts⟩ := zcells_some hz
          have hib : i.bytes = b := by simpa [hi] using hbytes
          have hzz : zv.cells = ⟨z⟩ := Array.toList_inj.1 hzc
          have w1 : IntKind.i64.wrap (Int.ofNat ln) = Int.ofNat ln := by
            rw [← cwrap_eq]
            have : (ile (kmin .i64) (Int.ofNat ln) && ile (Int.ofNat ln) (kmax .i64)) = true := by
              simp only [ile_eq, kmin, kmax, Bool.and_eq_true, decide_eq_true_eq]
              constructor
              · exact Int.le_trans (Int.le_of_lt (Int.negSucc_lt_zero _)) (Int.natCast_nonneg ln)
              · exact Int.ofNat_le.2 (by omega)
            unfold cwrap; rw [this]; rfl
          have w2 : IntKind.i64.wrap (Int.ofNat cn) = Int.ofNat cn := by
            rw [← cwrap_eq]
            have : (ile (kmin .i64) (Int.ofNat cn) && ile (Int.ofNat cn) (kmax .i64)) = true := by
              simp only [ile_eq, kmin, kmax, Bool.and_eq_true, decide_eq_true_eq]
              constructor
              · exact Int.le_trans (Int.le_of_lt (Int.negSucc_lt_zero _)) (Int.natCast_nonneg cn)
              · exact Int.ofNat_le.2 (by omega)
            unfold cwrap; rw [this]; rfl
          have hbig : ¬ ((b : Int) * Int.ofNat cn > 2 ^ 48) := by
            have e1 : (b : Int) * Int.ofNat cn = ((cn * b : Nat) : Int) := by rw [Int.mul_comm]; simp
            rw [e1]; omega
          have hneg : ¬ (Int.ofNat cn < 0) := by simp
          have hneg2 : ¬ (Int.ofNat ln < 0) := by simp
          have hgt : ¬ (Int.ofNat ln > Int.ofNat cn) := by simp; omega
          have hrows : ((Array.range (cn * z.length)).map ((if cn * z.length = 0 then #[] else (⟨z⟩ : Array Value))[· % (if cn * z.length = 0 then #[] else (⟨z⟩ : Array Value)).size]!)).toList = reps cn z := by
            split
            · rename_i h0
              have : cn = 0 := by rcases Nat.mul_eq_zero.1 h0 with h | h <;> omega
              subst this; simp [reps]
            · exact range_map_reps (z := ⟨z⟩) (by show 0 < z.length; omega) cn
          refine ⟨.slice (some ⟨w.heap.size, 0, none⟩) ln cn, { w with heap := w.heap.push (.cells ⟨reps cn z⟩ e) }, ?_, ?_⟩
          · have hzs : (tsize P e) = some z.length := hts
            have hcn : (Int.ofNat cn).toNat = cn := rfl
            have hln : (Int.ofNat ln).toNat = ln := rfl
            have hrow2 : (Array.range (cn * z.length)).map ((if cn * z.length = 0 then #[] else (⟨z⟩ : Array Value))[· % (if cn * z.length = 0 then #[] else (⟨z⟩ : Array Value)).size]!) = ⟨reps cn z⟩ := Array.toList_inj.1 hrows
            have a1 : (asInt (.int k1 (Int.ofNat ln))).run P w = .ok (Int.ofNat ln) w := by simp [asInt, asIntOf]
            have a2 : (asInt (.int k2 (Int.ofNat cn))).run P w = .ok (Int.ofNat cn) w := by simp [asInt, asIntOf]
            simp only [Instr.makeSlice, Sem.run_bind, run_underlying hu, Result.andThen_ok, a1, a2, Sem.run_pure, typeInfo, run_program, hi, w1, w2, hib]
            rw [if_neg (by simp only [Bool.or_eq_true, decide_eq_true_eq]; rintro (((h | h) | h) | h) <;> contradiction)]
            simp only [Sem.run_bind, run_askRoom, Result.andThen_ok, hcn, hln, run_sizeOf' hzs]
            by_cases h0 : cn * z.length = 0
            · simp only [h0, if_true] at hrow2 ⊢
              simp only [Sem.run_bind, Sem.run_pure, Result.andThen_ok, hrow2, newRow, run_newObj]
            · simp only [h0, if_false] at hrow2 ⊢
              simp only [Sem.run_bind, run_zeroValue' hi hzv, hzz, Sem.run_pure, Result.andThen_ok, hrow2, newRow, run_newObj]
          · refine .cells (push_grown _) (.inl rfl) (c' := reps ln z) (rest := reps (cn - ln) z) ?_ ((VRs.closed hcl).reps ln) fun φ' ha hL => .sl hlc (fun hq => ?_) (.of ha) (.mk (.inr ?_))
            · show reps cn z = _
              rw [← reps_add]; congr 1; omega
            · rw [clipC_mk, Nat.beq_eq] at hq; exact hq.symm
            · simp only [List.size_toArray, reps_length] at hL
              show 0 + cn * z.length ≤ φ'.len w.heap.size
              omega
        · simp at h
      · simp at hc
    · simp at hc
  case convert s d x =>
    have key : ∀ e, P.underlying s = some .string → P.underlying d = some (.slice e) → P.underlying e = some (.int .u8) → okO x = true → p = .s2b x → 
        ∃ v' w', (do pure (.value (← convert s d (ρ x))) : Sem Next).run P w = .ok (.value v') w' ∧ Made E φ w w' id v v' ob := by
      intro e hs hd he hx hp
      subst hp
      simp only [cnew] at h
      have rx := hr _ hx
      generalize ρ x = x' at *
      generalize ρc x = xc at *
      unfold nS2b at h
      split at h
      · rename_i s0
        simp only [Option.some.injEq, Prod.mk.injEq] at h
        obtain ⟨rfl, rfl⟩ := h
        cases rx
        have hcap : s0.size ≤ s0.size + w.tape w.drawn (.appendCap s0.size 0 e) % (2 ^ 63 - s0.size) := Nat.le_add_right _ _
        generalize hcq : s0.size + w.tape w.drawn (.appendCap s0.size 0 e) % (2 ^ 63 - s0.size) = cap at hcap
        have hsz : (s0.data.map (fun b => Value.int .u8 b.toNat) ++ Array.replicate (cap - s0.size) (Value.int .u8 0)).size = cap := by
          simp; show s0.data.size + _ = _; have : s0.data.size = s0.size := rfl; omega
        refine ⟨.slice (some ⟨w.heap.size, 0, none⟩) s0.size cap, { w.drew with heap := w.heap.push (.cells (s0.data.map (fun b => Value.int .u8 b.toNat) ++ Array.replicate (cap - s0.size) (.int .u8 0)) e (cap, cap + 1)) }, ?_, ?_⟩
        · have hsz := hsz
          have hfz := freeze_push (w := w.drew) (cs := s0.data.map (fun b => Value.int .u8 b.toNat) ++ Array.replicate (cap - s0.size) (.int .u8 0)) (e := e) (k := cap)
          have hms := run_markStringish (P := P) (w := { w.drew with heap := w.heap.push (.cells (s0.data.map (fun b => Value.int .u8 b.toNat) ++ Array.replicate (cap - s0.size) (.int .u8 0)) e) }) (a := ⟨w.heap.size, 0, none⟩) (cs := s0.data.map (fun b => Value.int .u8 b.toNat) ++ Array.replicate (cap - s0.size) (.int .u8 0)) (e := e) (fz := (0, 0)) (by simp)
          rw [hsz] at hms
          simp only [convert, Sem.run_bind, run_underlying hs, run_underlying hd, run_underlying he, Result.andThen_ok, Conv.stringToBytes, run_choose, Question.forced, Bool.false_eq_true, if_false, Question.cut, hcq,
            newRow, run_newObj, Sem.run_pure]
          erw [hms]
          simp only [Result.andThen_ok, Sem.run_pure]
          congr 1
        · have hgr : Grown w { w.drew with heap := w.heap.push (.cells (s0.data.map (fun b => Value.int .u8 b.toNat) ++ Array.replicate (cap - s0.size) (.int .u8 0)) e (cap, cap + 1)) }
              (.cells (s0.data.map (fun b => Value.int .u8 b.toNat) ++ Array.replicate (cap - s0.size) (.int .u8 0)) e (cap, cap + 1)) := ⟨rfl, rfl, rfl, rfl⟩
          refine .cells (w := w) (lo := cap) (hi := cap + 1) hgr (.inr ?_) (c' := (sbytes s0).map fun u => Value.int .u8 (.ofNat u.toNat)) (rest := List.replicate (cap - s0.size) (.int .u8 0)) ?_ ?_ fun φ' ha hL => .sl ?_ (fun hq => by rw [clipC_mk] at hq; cases hq) (.of ha) (.mk (.inr (by rw [hsz] at hL; show 0 + cap * 1 ≤ φ'.len w.heap.size; omega)))
          · simp; show s0.data.size + _ ≤ _; have : s0.data.size = s0.size := rfl; omega
          · simp [sbytes]
          · exact VRs.closed (by
              induction (sbytes s0) with
              | nil => rfl
              | cons a l ih => simp only [List.map_cons, closedVs, closedV, ih]; rfl)
          · rw [sbytes_length]; exact hcap
      · simp at h
    split at hc <;> try (first | (simp at hc; done) | (obtain ⟨h1, h2⟩ := gd_some hc; simp at h2; done))
    · split at hc
      · obtain ⟨h1, h2⟩ := gd_some hc; simp at h2
      · simp at hc
    · rename_i e hs hd
      split at hc
      · rename_i he
        obtain ⟨h1, h2⟩ := gd_some hc
        injection h2 with h2
        exact key e hs hd he h1 h2.symm
      · simp at hc
    · split at hc
      · obtain ⟨h1, h2⟩ := gd_some hc; simp at h2
      · simp at hc
  case range t x =>
    split at hc
    · rename_i hu
      obtain ⟨h1, h2⟩ := gd_some hc
      injection h2 with h2; subst h2
      simp only [cnew] at h
      have rx := hr _ h1
      generalize ρ x = x' at *
      generalize ρc x = xc at *
      unfold nIter at h
      split at h
      · rename_i s0
        simp only [Option.some.injEq, Prod.mk.injEq] at h
        obtain ⟨rfl, rfl⟩ := h
        cases rx
        refine ⟨.pointer (some ⟨w.heap.size, 0, none⟩), { w with heap := w.heap.push (.stringIter s0 0) }, ?_, ⟨_, 0, 0, push_grown _, .inl rfl, fun φ' hl ha _ => ⟨.ptr (.st ha (Nat.le_refl _)), fun ho => ⟨ho, rfl, rfl, rfl, ?_⟩⟩⟩⟩
        · simp [Instr.range, run_underlying hu]
        · simp [mkstr_sbytes]
      · simp at h
    · obtain ⟨_, h2⟩ := gd_some hc; cases h2
    · simp at hc
  case binOp op t x y yt =>
    cases hb : isBasic (P.underlying t) <;> cases ha : isAny (P.underlying t) <;> rw [hb, ha] at hc <;> cases op <;> simp [gd_eq, Option.bind_eq_some_iff] at hc
  case call c => rcases compCall_e hc with ⟨_, h⟩ | ⟨_, h⟩ | ⟨_, h⟩ <;> cases h
  case makeMap t r =>
    cases r with
    | some r => simp at hc
    | none =>
      simp only [Option.some.injEq, COp.n.injEq] at hc
      subst hc
      simp only [cnew, Option.some.injEq, Prod.mk.injEq] at h
      obtain ⟨rfl, rfl⟩ := h
      refine ⟨.map (some w.heap.size), { w with heap := w.heap.push (.map #[] 0) }, ?_, ⟨_, 0, 0, push_grown _, .inl rfl, fun φ' hl ha _ => ⟨.map ha, fun ho => ⟨ho, rfl, rfl, rfl, #[], by simp, .nil⟩⟩⟩⟩
      simp [Instr.makeMap]
  all_goals (
    repeat' split at hc
    all_goals (simp only [Option.bind_eq_some_iff, Option.map_eq_some_iff, gd_eq, cond_eq_some, Option.some.injEq, reduceCtorEq, and_false, exists_false] at hc))
end Go.Cl

/- Stores and their kin. -/
import Derived.Test.YtaicnnkljmanmaaGreatDoorClNew
import Derived.Laws.Append
import Derived.Laws.RangeString
namespace Go.Cl
open Go
variable {P : Program} {E : Env} {φ φ' : Ren} {H H' : CH} {w w' : World}

/-- One object has changed; its blocks alone have, and there may be new ones of it. -/
theorem update (hw : WR E φ H w) {id : Nat} {ob ob' : CObj} (hg : H.get id = some ob)
    (hle : φ.le φ') (hat : ∀ i, i ≠ id → ∀ t, φ'.at_ i t = φ.at_ i t) (hex : ∃ t x, φ.at_ id t = some x)
    (hown : ∀ b, b < w.heap.size → φ'.own b = φ.own b) (hnew : ∀ b, w.heap.size ≤ b → ∀ i, φ'.own b = some i → i = id ∧ b < w'.heap.size)
    (hsz : w.heap.size ≤ w'.heap.size) (hk : ∀ b, b < w.heap.size → φ.own b ≠ some id → w'.heap[b]? = w.heap[b]?)
    (hobj : ∀ t b o lo hi, φ'.at_ id t = some (b, o, lo, hi) → b < w'.heap.size ∧ ObjR E φ' w' id ob' t b o lo hi)
    (hlen : ∀ b, 0 < φ'.len b → ∃ c e fz, w'.heap[b]? = some (.cells c e fz) ∧ φ'.len b ≤ c.size)
    (hal : ∀ t t' b o lo hi o' lo' hi', φ'.at_ id t = some (b, o, lo, hi) → φ'.at_ id t' = some (b, o', lo', hi') → o + lo' = o' + lo)
    (hos : w'.os = w.os) (htp : w'.tape = w.tape) (hout : w'.output = w.output)
    (hg' : ∀ j, H'.get j = if j = id then some ob' else H.get j) (hnx : H'.next = H.next) :
    WR E φ' H' w' ∧ Ext φ H w φ' H' w' := by
  obtain ⟨t0, ⟨b0, o0, lo0, hi0⟩, hx0⟩ := hex
  have hid : id < H.next := (hw.obj _ _ _ _ _ _ hx0).2.1
  refine ⟨⟨?_, ?_, ?_, ?_, hlen, fun b c t fz h => ?_, hle.2.2.trans hw.toks, ?_⟩, ⟨hle, ?_, hown, hsz, ?_, hos, htp, hout, by omega, ?_, ?_⟩⟩
  · intro i t b o lo hi h
    by_cases hi' : i = id
    · subst hi'
      obtain ⟨h1, h2⟩ := hobj _ _ _ _ _ h
      refine ⟨h1, by omega, fun ob1 ho => ?_⟩
      rw [hg', if_pos rfl] at ho
      simp only [Option.some.injEq] at ho
      subst ho; exact h2
    · rw [hat i hi'] at h
      obtain ⟨h1, h2, h3⟩ := hw.obj _ _ _ _ _ _ h
      refine ⟨by omega, by omega, fun ob1 ho => ?_⟩
      rw [hg', if_neg hi'] at ho
      have h4 := h3 ob1 ho
      refine h4.mono hle (hown b h1) (hk b h1 ?_)
      cases ob1 with
      | cells c ep wep his ro =>
        rw [h4.2.2.2.2.1]
        cases ro <;> simp [hi']
      | iter s pos => rw [h4.1]; simpa using hi'
      | loop => rw [h4.1]; simpa using hi'
      | map => rw [h4.1]; simpa using hi'
      | miter => rw [h4.1]; simpa using hi'
  · intro i t t' b o lo hi o' lo' hi' h h'
    by_cases hi' : i = id
    · subst hi'; exact hal _ _ _ _ _ _ _ _ _ h h'
    · rw [hat i hi'] at h h'; exact hw.align _ _ _ _ _ _ _ _ _ _ h h'
  · intro b i h
    rcases Nat.lt_or_ge b w.heap.size with hb | hb
    · rw [hown b hb] at h
      have := hw.ownlt b i h
      exact ⟨by omega, by omega⟩
    · obtain ⟨rfl, h2⟩ := hnew b hb i h
      exact ⟨h2, by omega⟩
  · intro i hi
    rw [hg', if_neg (by omega)]
    exact hw.absent i (by omega)
  · obtain ⟨h1, h2⟩ := hw.frame b c t fz h
    have hb := (Array.getElem?_eq_some_iff.1 h2).1
    exact ⟨by rw [hown b hb]; exact h1, by rw [hk b hb (by rw [h1]; simp)]; exact h2⟩
  · intro g cs h
    obtain ⟨h1, h2, h3⟩ := hw.glob g cs h
    refine ⟨by rw [hown g h2]; exact h1, by omega, fun j v hj => ?_⟩
    obtain ⟨v', hv, hr⟩ := h3 j v hj
    exact ⟨v', (cell_congr (hk g h2 (by rw [h1]; simp)) j none).trans hv, hr.mono hle⟩
  · intro i t x h
    by_cases hi' : i = id
    · exact .inr (.inl ⟨by rw [hi', hg]; simp, t0, (b0, o0, lo0, hi0), by rw [hi']; exact hx0⟩)
    · rw [hat i hi'] at h; exact .inl h
  · intro b hb h
    exact hk b hb fun ho => by have := h id ho; rw [hg] at this; cases this
  · intro i _ hn
    rw [hg', if_neg (fun h => by rw [h] at hn; rw [hn t0] at hx0; cases hx0)]
  · intro i _ hn
    rw [hg', if_neg (fun h => by rw [h, hg] at hn; cases hn)]; exact hn

/-! ### writing cells -/
theorem VR.one {v v' : Value} (h : VR φ v v') : oneV v' = oneV v := by cases h <;> first | rfl | exact opqV_one (by assumption)
theorem ones_cons {v : Value} {r : List Value} : ones (v :: r) = (oneV v && ones r) := by cases v <;> simp [ones, oneV]
theorem VRs.ones {xs ys : List Value} (h : VRs φ xs ys) (ho : Cl.ones xs = true) : Cl.ones ys = true := by
  induction xs generalizing ys with
  | nil => cases h; rfl
  | cons x xs ih =>
    cases h with
    | cons h h' =>
      rw [ones_cons, Bool.and_eq_true] at ho
      rw [ones_cons, Bool.and_eq_true, h.one]
      exact ⟨ho.1, ih h' ho.2⟩
/-- The machine has written cells of one row. -/
structure Wrote (w w' : World) (b : Nat) (c' : Array Value) (e : TypeId) (fz : Nat × Nat) : Prop where
  new : w'.heap[b]? = some (.cells c' e fz)
  other : ∀ b', b' ≠ b → w'.heap[b']? = w.heap[b']?
  size : w'.heap.size = w.heap.size
  os : w'.os = w.os
  tape : w'.tape = w.tape
  output : w'.output = w.output
theorem run_storeCells {b o : Nat} {e : TypeId} {fz : Nat × Nat} : ∀ (vs : List Value) (i : Nat) (c : Array Value) (w : World), w.heap[b]? = some (.cells c e fz) → (fz.1 = fz.2 ∨ c.size ≤ fz.1) →
    (∀ k, k < vs.length → o + i + k < c.size) → ones vs = true →
    ∃ w' c', (storeCells ⟨b, o, none⟩ vs i).run P w = .ok () w' ∧ Wrote w w' b c' e fz ∧ c'.size = c.size ∧ ∀ j, c'[j]? = if o + i ≤ j ∧ j < o + i + vs.length then vs[j - (o + i)]? else c[j]? := by
  intro vs
  induction vs with
  | nil =>
    intro i c w h _ _ _
    exact ⟨w, c, rfl, ⟨h, fun _ _ => rfl, rfl, rfl, rfl, rfl⟩, rfl, fun j => by rw [if_neg (by simp only [List.length_nil]; omega)]⟩
  | cons v vs ih =>
    intro i c w h hf hb ho
    rw [ones_cons, Bool.and_eq_true] at ho
    have hlt : o + i < c.size := by have := hb 0 (by simp); omega
    have ha : (⟨b, o, none⟩ : Addr).add i = ⟨b, o + i, none⟩ := add_none _ rfl i
    have hcell : w.cell? ⟨b, o + i, none⟩ = some c[o + i] := by simp [World.cell?, h, hlt]
    have hfz : w.frozen? ⟨b, o + i, none⟩ = false := by
      obtain ⟨l, u⟩ := fz
      simp only [World.frozen?, h]
      rcases hf with hf | hf <;> simp at hf ⊢ <;> omega
    have hset : (w.setCell ⟨b, o + i, none⟩ v).heap[b]? = some (.cells (c.set (o + i) v hlt) e fz) := by
      simp [World.setCell, Array.getElem?_modify, h, hlt, Array.setIfInBounds]
    obtain ⟨w', c', hrun, hW, hsz, hc⟩ := ih (i + 1) (c.set (o + i) v hlt) (w.setCell ⟨b, o + i, none⟩ v) hset (by simpa using hf) (fun k hk => by
      have := hb (k + 1) (by simpa using hk); simp; omega) ho.2
    refine ⟨w', c', ?_, ⟨hW.new, fun b' hb' => ?_, ?_, hW.os, hW.tape, hW.output⟩, by simpa using hsz, fun j => ?_⟩
    · have hv : v.oneCell' = true := by cases v <;> first | rfl | (simp [oneV] at ho)
      simp only [storeCells, Sem.run_bind, ha, run_store P w _ v _ hv, hcell, hfz, Bool.false_eq_true, if_false, Result.andThen_ok]
      exact hrun
    · rw [hW.other b' hb']
      simp only [World.setCell, Array.getElem?_modify]
      rw [if_neg (fun h => hb' h.symm)]
    · rw [hW.size]; simp
    · rw [hc j]
      by_cases h1 : o + (i + 1) ≤ j ∧ j < o + (i + 1) + vs.length
      · rw [if_pos h1, if_pos (by simp; omega)]
        rw [show j - (o + i) = (j - (o + (i + 1))) + 1 from by omega, List.getElem?_cons_succ]
      · rw [if_neg h1]
        by_cases h2 : j = o + i
        · subst h2
          rw [if_pos (by simp)]
          simp [hlt]
        · rw [if_neg (by simp; omega)]
          simp only [Array.getElem?_set]
          rw [if_neg (by omega)]
theorem cget_append (a b : List Value) (j : Nat) : cget (a ++ b) j = if j < a.length then cget a j else cget b (j - a.length) := by
  simp only [cget_eq, List.getD_eq_getElem?_getD, List.getElem?_append]
  split <;> rfl
theorem cget_take (a : List Value) (n j : Nat) (h : j < n) : cget (a.take n) j = cget a j := by
  simp only [cget_eq, List.getD_eq_getElem?_getD, List.getElem?_take, h, if_true]
theorem cget_drop (a : List Value) (n j : Nat) : cget (a.drop n) j = cget a (n + j) := by
  simp only [cget_eq, List.getD_eq_getElem?_getD, List.getElem?_drop]
theorem cget_put {c xs : List Value} {off : Nat} (h : off + xs.length ≤ c.length) (j : Nat) :
    cget (c.take off ++ xs ++ c.drop (off + xs.length)) j = if off ≤ j ∧ j < off + xs.length then cget xs (j - off) else cget c j := by
  rw [List.append_assoc, cget_append, cget_append, cget_drop]
  have : (c.take off).length = off := by simp; omega
  rw [this]
  by_cases h1 : j < off
  · rw [if_pos h1, if_neg (by omega), cget_take _ _ _ h1]
  · rw [if_neg h1]
    by_cases h2 : j - off < xs.length
    · rw [if_pos h2, if_pos (by omega)]
    · rw [if_neg h2, if_neg (by omega)]
      congr 1; omega
theorem VRs.cget' {xs ys : List Value} (h : VRs φ xs ys) {j : Nat} {v' : Value} (hj : ys[j]? = some v') : VR φ (Cl.cget xs j) v' := by
  have := h.get j
  rw [cget_some hj] at this; exact this
theorem Calm.of_wrote {b : Nat} {c c' : Array Value} {e : TypeId} {fz : Nat × Nat} (hW : Wrote w w' b c' e fz) (hf : fz.1 = fz.2 ∨ c.size ≤ fz.1) (hs : c'.size = c.size) {b' : Nat} (h : Calm w b') : Calm w' b' := by
  by_cases hb : b' = b
  · subst hb; obtain ⟨lo, hi⟩ := fz; exact ⟨c', e, lo, hi, hW.new, by rw [hs]; exact hf⟩
  · exact h.congr (hW.other b' hb)
theorem cell_of {b o : Nat} {c : Array Value} {e : TypeId} {fz : Nat × Nat} (h : w.heap[b]? = some (.cells c e fz)) : w.cell? ⟨b, o, none⟩ = c[o]? := by
  simp [World.cell?, h]
theorem WR.len_wrote (hw : WR E φ H w) {b : Nat} {c c' : Array Value} {e : TypeId} {fz : Nat × Nat} (h : w.heap[b]? = some (.cells c e fz)) (hW : Wrote w w' b c' e fz) (hs : c'.size = c.size) (b' : Nat) (hb' : 0 < φ.len b') :
    ∃ c e fz, w'.heap[b']? = some (.cells c e fz) ∧ φ.len b' ≤ c.size := by
  obtain ⟨c1, e1, f1, h1, h2⟩ := hw.len b' hb'
  by_cases hb : b' = b
  · subst hb
    rw [h] at h1
    simp only [Option.some.injEq, Obj.cells.injEq] at h1
    obtain ⟨rfl, rfl, rfl⟩ := h1
    exact ⟨c', e, fz, hW.new, by omega⟩
  · exact ⟨c1, e1, f1, by rw [hW.other b' hb]; exact h1, h2⟩
/-- WRITING. -/
theorem cwrite_sound (hw : WR E φ H w) {A a : Addr} (ha : AR φ A a) {xs xs' : List Value} (hx : VRs φ xs xs') (h : cwrite H A xs = some H') :
    ∃ w', (storeCells a xs').run P w = .ok () w' ∧ WR E φ H' w' ∧ Ext φ H w φ H' w' := by
  cases ha with
  | glob g off => simp [cwrite] at h
  | st h1 hl =>
    rename_i id off t b o lo hi
    simp only [cwrite] at h
    split at h
    · rename_i c ep wep his hob
      obtain ⟨hte, h⟩ := cond_some h
      obtain ⟨cn, hput, rfl⟩ := Option.map_eq_some_iff.1 h
      simp only [Bool.and_eq_true, Nat.beq_eq] at hte
      obtain ⟨rfl, hone⟩ := hte
      unfold putAt at hput
      obtain ⟨hle, hput⟩ := cond_some hput
      simp only [Nat.ble_eq] at hle
      simp only [Option.some.injEq] at hput
      subst hput
      obtain ⟨hb, hid, hO⟩ := hw.obj _ _ _ _ _ _ h1
      obtain ⟨_, hwe, hlo, hhi, hown, hcalm, hcell0⟩ := hO _ hob
      simp only [Bool.false_eq_true, if_false] at hown
      obtain ⟨c0, e, fl, fu, hblk, hf⟩ := hcalm rfl
      obtain ⟨_, hcell⟩ := hcell0 hwe
      have hhi' : hi = c.length := by simpa [hiOf] using hhi.symm
      subst hhi'
      have hlen := hx.length
      have hin : ∀ k, k < xs'.length → (o + (off - lo)) + 0 + k < c0.size := by
        intro k hk
        obtain ⟨v', hv, _⟩ := hcell (off + k) (by omega) (by omega)
        rw [cell_of hblk] at hv
        have := (Array.getElem?_eq_some_iff.1 hv).1
        omega
      obtain ⟨w', c', hrun, hW, hsz, hc'⟩ := run_storeCells (P := P) (o := o + (off - lo)) xs' 0 c0 w hblk hf hin (hx.ones hone)
      refine ⟨w', hrun, ?_⟩
      have hln : (c.take off ++ xs ++ c.drop (off + xs.length)).length = c.length := by simp; omega
      refine update hw hob (Ren.le_refl φ) (fun _ _ _ => rfl) ⟨_, _, h1⟩ (fun _ _ => rfl) ?_ (by rw [hW.size]; exact Nat.le_refl _) ?_ ?_ (hw.len_wrote hblk hW hsz) ?_ hW.os hW.tape hW.output (CH.get_put H id _) rfl
      · intro b' hb' i hi'
        have := (hw.ownlt b' i hi').1
        omega
      · intro b' hb' hne
        exact hW.other b' fun h => hne (by rw [h]; exact hown)
      · intro t' b' o' lo' hi' h'
        obtain ⟨hb', _, hO'⟩ := hw.obj _ _ _ _ _ _ h'
        obtain ⟨g1, g2, g3, g4, g5, g6, g7⟩ := hO' _ hob
        refine ⟨by rw [hW.size]; exact hb', g1, Nat.le_refl _, g3, ?_, g5, fun hr => Calm.of_wrote hW hf hsz (g6 hr), fun hge => ?_⟩
        · unfold hiOf at g4 ⊢; rw [hln]; exact g4
        · obtain rfl : t' = t := by omega
          rw [h1] at h'
          simp only [Option.some.injEq, Prod.mk.injEq] at h'
          obtain ⟨rfl, rfl, rfl, rfl⟩ := h'
          refine ⟨by rw [hln]; exact Nat.le_refl _, fun j hj hj' => ?_⟩
          rw [cget_put hle, cell_of hW.new, hc']
          by_cases hr : off ≤ j ∧ j < off + xs.length
          · rw [if_pos hr, if_pos (by omega)]
            obtain ⟨v', hv, hvr⟩ := hx.cget (j - off) (by omega)
            exact ⟨v', by rw [← hv]; congr 1; omega, hvr⟩
          · rw [if_neg hr, if_neg (by omega)]
            obtain ⟨v', hv, hvr⟩ := hcell j hj hj'
            rw [cell_of hblk] at hv
            exact ⟨v', hv, hvr⟩
      · intro t1 t2 b' o1 l1 h1' o2 l2 h2' ha hb'
        exact hw.align _ _ _ _ _ _ _ _ _ _ ha hb'
    · simp at h
theorem eSt_sound (hw : WR E φ H w) {t : TypeId} {n : Nat} {a a' x x' v : Value} (hn : tsize P t = some n) (ha : VR φ a a') (hx : VR φ x x') (h : eSt H n a x = some (.ret v, H')) :
    v = undef ∧ ∃ w', (Instr.storeAt t a' x').run P w = .ok () w' ∧ WR E φ H' w' ∧ Ext φ H w φ H' w' := by
  unfold eSt at h
  split at h
  · rename_i A
    obtain ⟨hb, h⟩ := cond_some h
    rw [Nat.beq_eq] at hb
    cases ha with
    | ptr har =>
      rename_i a
      cases hc : cwrite H A (cells x) with
      | none => rw [hc] at h; simp [outH] at h
      | some H1 =>
        rw [hc] at h
        simp only [outH, Option.some.injEq, Prod.mk.injEq, Out.ret.injEq] at h
        obtain ⟨rfl, rfl⟩ := h
        obtain ⟨w', hrun, hW, hE⟩ := cwrite_sound (P := P) hw har hx.cells hc
        refine ⟨rfl, w', ?_, hW, hE⟩
        have hl : x'.cells.size = n := by rw [← hb, hx.cells.length]; simp
        simp only [Instr.storeAt, Instr.sureAddr, Sem.run_bind, Sem.run_pure, Result.andThen_ok, storeVar, run_sizeOf' hn, hl, ne_eq, not_true_eq_false, if_false]
        exact hrun
  · simp at h
/-- READING a slice or a string. -/
theorem srcCells_sound (hw : WR E φ H w) {sz n m : Nat} {x x' : Value} {xs : List Value} (hx : VR φ x x') (hm : srcLen x = some m) (hnm : n ≤ m) (h : srcCells E H sz n x = some xs) :
    (Builtin.lenOf x').run P w = .ok m w ∧ ∃ xs', (Builtin.firstCells sz n x').run P w = .ok ⟨xs'⟩ w ∧ VRs φ xs xs' := by
  cases hx <;> simp only [srcLen, reduceCtorEq, Option.some.injEq] at hm
  · subst hm
    refine ⟨by simp [Builtin.lenOf, sbytes_length], ?_⟩
    rename_i s
    simp only [srcCells] at h
    obtain ⟨_, h⟩ := cond_some h
    simp only [Option.some.injEq] at h
    subst h
    refine ⟨((sbytes s).take n).map fun u => .int .u8 (.ofNat u.toNat), ?_, VRs.closed (by
      induction ((sbytes s).take n) with
      | nil => rfl
      | cons a l ih => simp only [List.map_cons, closedVs, closedV, ih]; rfl)⟩
    simp only [Builtin.firstCells, Sem.run_pure]
    congr 1
    apply Array.toList_inj.1
    have : (s.extract 0 n).data.toList = (sbytes s).take n := by
      have := sbytes_extract s 0 n
      simp [sbytes] at this ⊢
    simp only [Array.toList_map, this]
    rfl
  · subst hm
    refine ⟨by simp [Builtin.lenOf], ?_⟩
    simp only [srcCells, Option.some.injEq] at h
    subst h
    exact ⟨[], by simp [Builtin.firstCells], .nil⟩
  · rename_i A a k C c h1 h2 h3 h4
    subst hm
    refine ⟨by simp [Builtin.lenOf], ?_⟩
    simp only [srcCells, Option.bind_eq_some_iff] at h
    obtain ⟨l, hl, htk⟩ := h
    rcases h3.2 with rfl | ha
    · obtain rfl : n = 0 := by omega
      simp [takeN] at htk; subst htk
      exact ⟨[], by simp [Builtin.firstCells, loadCells, loadCellsFrom], .nil⟩
    · exact run_loadCells hw ha hl htk
theorem eCopy_sound (hw : WR E φ H w) {t e : TypeId} {sz : Nat} {ty : TypeId} {ts : Array TypeId} (ht : ts[0]? = some t) (hu : P.underlying t = some (.slice e)) (hn : tsize P e = some sz) {d d' s s' v : Value} (hd : VR φ d d') (hs : VR φ s s')
    (h : eCopy E H sz d s = some (.ret v, H')) :
    ∃ w', (Builtin.copy_ ts ty #[d', s']).run P w = .ok v w' ∧ VR φ v v ∧ WR E φ H' w' ∧ Ext φ H w φ H' w' := by
  unfold eCopy at h
  split at h
  · rename_i b dn dc m hm
    have key : ∀ (n : Nat), n = (bif Nat.ble m dn then m else dn) → Nat.min m dn = n ∧ n ≤ m ∧ n ≤ dn := by
      intro n hn
      cases hb : Nat.ble m dn with
      | true => rw [hb] at hn; simp at hn; rw [Nat.ble_eq] at hb; subst hn; exact ⟨Nat.min_eq_left hb, Nat.le_refl _, hb⟩
      | false =>
        rw [hb] at hn; simp at hn
        have : ¬ m ≤ dn := fun h => by rw [← Nat.ble_eq, hb] at h; cases h
        subst hn; exact ⟨Nat.min_eq_right (by omega), by omega, Nat.le_refl _⟩
    simp only at h
    generalize hq : (bif Nat.ble m dn then m else dn) = n at h
    obtain ⟨hmin, hnm, hnd⟩ := key n hq.symm
    cases hx : srcCells E H sz n s with
    | none => rw [hx] at h; cases b <;> simp at h
    | some xs =>
      rw [hx] at h
      obtain ⟨hlen, xs', hfc, hr⟩ := srcCells_sound (P := P) hw hs hm hnm hx
      cases hd with
      | snil =>
        simp only [Option.some.injEq, Prod.mk.injEq, Out.ret.injEq] at h
        obtain ⟨rfl, rfl⟩ := h
        refine ⟨w, ?_, .int _ _, hw, .refl _ _ _⟩
        obtain rfl : n = 0 := by omega
        simp [Builtin.copy_, ht, run_underlying hu, hlen, run_sizeOf' hn, hfc, goInt]
      | sl h1 h2 h3 h4 =>
        rename_i A a c
        simp only at h
        by_cases hn0 : Nat.beq n 0 = true
        · rw [hn0] at h
          simp only [cond_true, Option.some.injEq, Prod.mk.injEq, Out.ret.injEq] at h
          obtain ⟨rfl, rfl⟩ := h
          rw [Nat.beq_eq] at hn0
          have hxs : xs' = [] := by
            have hf0 : (Builtin.firstCells sz n s').run P w = .ok #[] w := by
              rw [hn0]
              cases hs <;> simp only [srcLen, reduceCtorEq] at hm <;> simp [Builtin.firstCells, loadCells, loadCellsFrom]
            rw [hfc] at hf0
            simpa using hf0
          refine ⟨w, ?_, .int _ _, hw, .refl _ _ _⟩
          subst hn0
          simp [Builtin.copy_, ht, run_underlying hu, hlen, hmin, run_sizeOf' hn, hfc, goInt, hxs, storeCells]
        · have hn0' : Nat.beq n 0 = false := Bool.eq_false_iff.2 hn0
          have hn1 : n ≠ 0 := fun h => hn0 (by rw [h]; rfl)
          rw [hn0'] at h
          simp only [cond_false] at h
          cases hc : cwrite H A xs with
          | none => rw [hc] at h; simp [outH] at h
          | some H1 =>
            rw [hc] at h
            simp only [outH, Option.some.injEq, Prod.mk.injEq, Out.ret.injEq] at h
            obtain ⟨rfl, rfl⟩ := h
            obtain ⟨w', hrun, hW, hE⟩ := cwrite_sound (P := P) hw (h3.2.resolve_left (by omega)) hr hc
            refine ⟨w', ?_, .int _ _, hW, hE⟩
            simp [Builtin.copy_, ht, run_underlying hu, hlen, hmin, run_sizeOf' hn, hfc, goInt, hrun]
  · simp at h
theorem zeroCells_reps {z : Array Value} (hz : 0 < z.size) (n : Nat) : (Builtin.zeroCells z n).toList = reps n z.toList := range_map_reps hz n
theorem eClr_sound (hw : WR E φ H w) {t e : TypeId} {z : List Value} {ty : TypeId} {ts : Array TypeId} (ht : ts[0]? = some t) (hu : P.underlying t = some (.slice e)) (hz : zcells P e = some z) (hz1 : 1 ≤ z.length) {x x' v : Value} (hx : VR φ x x')
    (h : eClr H z x = some (.ret v, H')) :
    ∃ w', (Builtin.clear_ ts ty #[x']).run P w = .ok v w' ∧ VR φ v v ∧ WR E φ H' w' ∧ Ext φ H w φ H' w' := by
  unfold eClr at h
  cases hx <;> simp only [reduceCtorEq] at h
  · simp only [Option.some.injEq, Prod.mk.injEq, Out.ret.injEq] at h
    obtain ⟨rfl, rfl⟩ := h
    refine ⟨w, ?_, .tuple .nil, hw, .refl _ _ _⟩
    simp [Builtin.clear_, ht, run_underlying hu]
  · rename_i A a n C c h1 h2 h3 h4
    by_cases hn0 : Nat.beq n 0 = true
    · rw [hn0] at h
      simp only [cond_true, Option.some.injEq, Prod.mk.injEq, Out.ret.injEq] at h
      obtain ⟨rfl, rfl⟩ := h
      rw [Nat.beq_eq] at hn0
      subst hn0
      refine ⟨w, ?_, .tuple .nil, hw, .refl _ _ _⟩
      simp [Builtin.clear_, ht, run_underlying hu]
    · have hn0' : Nat.beq n 0 = false := Bool.eq_false_iff.2 hn0
      have hn1 : n ≠ 0 := fun h => hn0 (by rw [h]; rfl)
      rw [hn0'] at h
      simp only [cond_false] at h
      cases hc : cwrite H A (reps n z) with
      | none => rw [hc] at h; simp [outH] at h
      | some H1 =>
        rw [hc] at h
        simp only [outH, Option.some.injEq, Prod.mk.injEq, Out.ret.injEq] at h
        obtain ⟨rfl, rfl⟩ := h
        obtain ⟨i, zv, hi, hzv, hzc, hzl, hcl, _, hts⟩ := zcells_some hz
        obtain ⟨w', hrun, hW, hE⟩ := cwrite_sound (P := P) hw (h3.2.resolve_left (by omega)) ((VRs.closed hcl).reps n) hc
        refine ⟨w', ?_, .tuple .nil, hW, hE⟩
        have hzz : zv.cells = ⟨z⟩ := Array.toList_inj.1 hzc
        have hrz : (Builtin.zeroCells ⟨z⟩ n).toList = reps n z := zeroCells_reps (by show 0 < z.length; omega) n
        obtain ⟨n', rfl⟩ : ∃ n', n = n' + 1 := ⟨n - 1, by omega⟩
        simp only [Builtin.clear_, ht, Sem.run_bind, run_underlying hu, Result.andThen_ok]
        simp [run_underlying hu, run_zeroValue' hi hzv, hzz, hrz, hrun]
/-! ### append -/
theorem run_append_fits {t u e : TypeId} {d : TypeDesc} {sz n m c : Nat} {ty : TypeId} {base : Option Addr} {x' : Value} {xs' : List Value} (ht : P.underlying t = some (.slice e)) (hu : P.underlying u = some d) (hd : (∃ e2, d = .slice e2) ∨ d = .string) (hs : tsize P e = some sz)
    (hm : (Builtin.lenOf x').run P w = .ok m w) (hx : (Builtin.firstCells sz m x').run P w = .ok ⟨xs'⟩ w) (hc : n + m ≤ c) :
    (Builtin.append_ #[t, u] ty #[.slice base n c, x']).run P w = match base with
      | none => .ok (.slice none (n + m) c) w
      | some a => ((storeCells (a.add (n * sz)) xs').run P w).andThen fun _ w' => .ok (.slice (some a) (n + m) c) w' := by
  rcases hd with ⟨e2, rfl⟩ | rfl <;> cases base with
  | none => simp [Builtin.append_, run_underlying ht, run_underlying hu, run_sizeOf' hs, hm, hx, hc]
  | some a => simp [Builtin.append_, run_underlying ht, run_underlying hu, run_sizeOf' hs, hm, hx, hc]
theorem run_append_grows {t u e : TypeId} {d : TypeDesc} {sz n m c : Nat} {ty : TypeId} {base : Option Addr} {x' : Value} {xs' old' : List Value} {i : TypeInfo} {z : Value} (ht : P.underlying t = some (.slice e)) (hu : P.underlying u = some d) (hd : (∃ e2, d = .slice e2) ∨ d = .string)
    (hi : P.info? e = some i) (hz : i.zero = some z) (hb : i.bytes ≤ 1048576) (hs : tsize P e = some sz)
    (hm : (Builtin.lenOf x').run P w = .ok m w) (hx : (Builtin.firstCells sz m x').run P w.drew = .ok ⟨xs'⟩ w.drew) (ho : (Builtin.firstCells sz n (.slice base n c)).run P w.drew = .ok ⟨old'⟩ w.drew) (hc : c < n + m) (hl : n + m ≤ maxL) :
    (Builtin.append_ #[t, u] ty #[.slice base n c, x']).run P w =
      .ok (.slice (some ⟨w.heap.size, 0, none⟩) (n + m) (grownCap w (n + m) c e)) (w.drew.alloc (.cells (⟨old'⟩ ++ ⟨xs'⟩ ++ Builtin.zeroCells z.cells (grownCap w (n + m) c e - (n + m))) e)) := by
  have hn : ¬ (n + m ≤ c) := by omega
  unfold maxL at hl
  have h63 : ¬ (9223372036854775807 < ((n : Int) + (m : Int))) := by omega
  have h48 : ¬ (281474976710656 < Builtin.nextslicecap (n + m) c * i.bytes) := by
    have h1 := nextslicecap_le hc
    have : Builtin.nextslicecap (n + m) c * i.bytes ≤ (2 * 16777216) * 1048576 := Nat.mul_le_mul (by omega) hb
    omega
  rcases hd with ⟨e2, rfl⟩ | rfl <;>
    simp [Builtin.append_, run_underlying ht, run_underlying hu, run_sizeOf' hs, hm, hn, h63, h48, typeInfo, zeroValue, hi, hz, Question.forced, hx, ho, newRow, grownCap]
  all_goals
    congr 2
    apply Array.ext'
    simp [List.append_assoc]
theorem srcCells_length {sz n m : Nat} {x x' : Value} {xs : List Value} (hx : VR φ x x') (hm : srcLen x = some m) (hnm : n ≤ m) (h : srcCells E H sz n x = some xs) : xs.length = n * sz := by
  cases hx <;> simp only [srcLen, reduceCtorEq, Option.some.injEq] at hm
  · subst hm
    simp only [srcCells] at h
    obtain ⟨h1, h⟩ := cond_some h
    rw [Nat.beq_eq] at h1
    simp only [Option.some.injEq] at h
    subst h h1
    simp; omega
  · simp only [srcCells, Option.some.injEq] at h
    subst h; subst hm
    obtain rfl : n = 0 := by omega
    simp
  · simp only [srcCells, Option.bind_eq_some_iff] at h
    obtain ⟨l, hl, htk⟩ := h
    obtain ⟨rfl, hle⟩ := takeN_some htk
    simp; omega
theorem hiOf_cons {c c' : List Value} {ep t hi : Nat} {his : List Nat} (h : hiOf c ep his t = some hi) (ht : t ≤ ep) : hiOf c' (ep + 1) (c.length :: his) t = some hi := by
  unfold hiOf at *
  rw [if_neg (by omega)]
  by_cases he : t = ep
  · rw [if_pos he] at h
    rw [show ep + 1 - 1 - t = 0 from by omega]
    simpa using h
  · rw [if_neg he] at h
    rw [show ep + 1 - 1 - t = (ep - 1 - t) + 1 from by omega]
    simpa using h
theorem push_stamp (hw : WR E φ H w) {id ep wep : Nat} {c0 : List Value} {his : List Nat} (hob : H.get id = some (.cells c0 ep wep his false)) (hwe : wep ≤ ep) (hex : ∃ t x, φ.at_ id t = some x)
    {e : Nat} (he : e ≤ c0.length) {xs : List Value} (hle : φ.le φ') {b1 o1 lo1 : Nat} (hnew : φ'.at_ id (ep + 1) = some (b1, o1, lo1, e + xs.length)) (hlo1 : lo1 ≤ e) (hb1 : b1 < w'.heap.size) (hown1 : φ'.own b1 = some id) (hcalm1 : Calm w' b1)
    (hat : ∀ i t, ¬ (i = id ∧ t = ep + 1) → φ'.at_ i t = φ.at_ i t)
    (hown : ∀ b, b < w.heap.size → φ'.own b = φ.own b) (hnewown : ∀ b, w.heap.size ≤ b → ∀ i, φ'.own b = some i → i = id ∧ b < w'.heap.size)
    (hsz : w.heap.size ≤ w'.heap.size) (hk : ∀ b, b < w.heap.size → φ.own b ≠ some id → w'.heap[b]? = w.heap[b]?)
    (hcalm : ∀ b, b < w.heap.size → Calm w b → Calm w' b)
    (hcells : ∀ j, lo1 ≤ j → j < e + xs.length → ∃ v', w'.cell? ⟨b1, o1 + (j - lo1), none⟩ = some v' ∧ VR φ' (cget (c0.take e ++ xs) j) v')
    (hold : ∀ t b o lo hi j, φ.at_ id t = some (b, o, lo, hi) → lo ≤ j → j < e → w'.cell? ⟨b, o + (j - lo), none⟩ = w.cell? ⟨b, o + (j - lo), none⟩)
    (hal : ∀ t o lo hi, φ.at_ id t = some (b1, o, lo, hi) → o + lo1 = o1 + lo)
    (hlen : ∀ b, 0 < φ'.len b → ∃ c e fz, w'.heap[b]? = some (.cells c e fz) ∧ φ'.len b ≤ c.size)
    (hos : w'.os = w.os) (htp : w'.tape = w.tape) (hout : w'.output = w.output)
    (hg' : ∀ j, H'.get j = if j = id then some (.cells (c0.take e ++ xs) (ep + 1) (bif Nat.beq e c0.length then wep else ep + 1) (c0.length :: his) false) else H.get j) (hnx : H'.next = H.next) :
    WR E φ' H' w' ∧ Ext φ H w φ' H' w' := by
  have hcl : (c0.take e ++ xs).length = e + xs.length := by simp; omega
  refine update hw hob hle (fun i hi t => hat i t fun h => hi h.1) hex hown hnewown hsz hk ?_ hlen ?_ hos htp hout hg' hnx
  · intro t b o lo hi h
    by_cases ht : t = ep + 1
    · subst ht
      rw [hnew] at h
      simp only [Option.some.injEq, Prod.mk.injEq] at h
      obtain ⟨rfl, rfl, rfl, rfl⟩ := h
      refine ⟨hb1, Nat.le_refl _, ?_, by omega, by simp only [hiOf, if_true, hcl], by simpa using hown1, fun _ => hcalm1, fun _ => ⟨by rw [hcl]; exact Nat.le_refl _, hcells⟩⟩
      cases Nat.beq e c0.length <;> simp; omega
    · rw [hat id t (fun h => ht h.2)] at h
      obtain ⟨g0, _, hO⟩ := hw.obj _ _ _ _ _ _ h
      obtain ⟨g1, g2, g3, g4, g5, g6, g7⟩ := hO _ hob
      refine ⟨by omega, by omega, ?_, g3, hiOf_cons g4 g1, by rw [hown b g0]; exact g5, fun hr => hcalm b g0 (g6 hr), fun hwt => ?_⟩
      · cases Nat.beq e c0.length <;> simp; omega
      · cases hbe : Nat.beq e c0.length with
        | false => rw [hbe] at hwt; simp at hwt; omega
        | true =>
          rw [hbe] at hwt
          rw [Nat.beq_eq] at hbe
          obtain ⟨g8, g9⟩ := g7 hwt
          refine ⟨by rw [hcl]; omega, fun j hj hj' => ?_⟩
          obtain ⟨v', hv, hr⟩ := g9 j hj hj'
          refine ⟨v', (hold t b o lo hi j h hj (by omega)).trans hv, ?_⟩
          have : cget (c0.take e ++ xs) j = cget c0 j := by
            rw [cget_append, if_pos (by simp; omega), cget_take _ _ _ (by omega)]
          rw [this]; exact hr.mono hle
  · intro t t' b o lo hi o' lo' hi' h h'
    by_cases ht : t = ep + 1
    · subst ht
      rw [hnew] at h
      simp only [Option.some.injEq, Prod.mk.injEq] at h
      obtain ⟨rfl, rfl, rfl, rfl⟩ := h
      by_cases ht' : t' = ep + 1
      · subst ht'
        rw [hnew] at h'
        simp only [Option.some.injEq, Prod.mk.injEq] at h'
        omega
      · rw [hat id t' (fun h => ht' h.2)] at h'
        have := hal _ _ _ _ h'; omega
    · rw [hat id t (fun h => ht h.2)] at h
      by_cases ht' : t' = ep + 1
      · subst ht'
        rw [hnew] at h'
        simp only [Option.some.injEq, Prod.mk.injEq] at h'
        obtain ⟨rfl, rfl, rfl, rfl⟩ := h'
        have := hal _ _ _ _ h; omega
      · rw [hat id t' (fun h => ht' h.2)] at h'
        exact hw.align _ _ _ _ _ _ _ _ _ _ h h'
theorem alloc_grown (w : World) (obj : Obj) : Grown w (w.drew.alloc obj) obj := ⟨rfl, rfl, rfl, rfl⟩
theorem grown_ge (w : World) (need old : Nat) (e : TypeId) : need ≤ grownCap w need old e := by
  unfold grownCap Question.cut; exact Nat.le_add_right _ _
theorem size_zeroCells' (z : Array Value) (n : Nat) : (Builtin.zeroCells z n).size = n * z.size := by simp [Builtin.zeroCells]
theorem app_fresh (hw : WR E φ H w) {id sz need cap : Nat} {e : TypeId} {z old old' xs xs' : List Value} (hold : VRs φ old old') (hxs : VRs φ xs xs') (hz : z.length = sz) (hn : old'.length + xs'.length = need * sz) (hcap : need ≤ cap) :
    Made E φ w (w.drew.alloc (.cells (⟨old'⟩ ++ ⟨xs'⟩ ++ Builtin.zeroCells ⟨z⟩ (cap - need)) e)) id (.slice (some ⟨id, 0, some 0⟩) need (mkC need sz false)) (.slice (some ⟨w.heap.size, 0, none⟩) need cap) (fresh (old ++ xs)) := by
  refine .cells (alloc_grown w _) (.inl rfl) (c' := old' ++ xs') (rest := (Builtin.zeroCells ⟨z⟩ (cap - need)).toList) (by simp) (hold.append hxs) fun φ' ha hL => .sl hcap (fun hq => by rw [clipC_mk] at hq; cases hq) (.of ha) (.mk (.inr ?_))
  have hzs : (⟨z⟩ : Array Value).size = sz := hz
  simp only [Array.size_append, size_zeroCells', hzs] at hL
  show 0 + cap * sz ≤ φ'.len w.heap.size
  have e1 : old'.length + xs'.length = (⟨old'⟩ : Array Value).size + (⟨xs'⟩ : Array Value).size := rfl
  have e2 : cap * sz = need * sz + (cap - need) * sz := by rw [← Nat.add_mul]; congr 1; omega
  omega
set_option maxHeartbeats 2000000 in
theorem capp_sound (hw : WR E φ H w) {t u e : TypeId} {d : TypeDesc} {sz : Nat} {ty : TypeId} {z : List Value} (ht : P.underlying t = some (.slice e)) (hu : P.underlying u = some d) (hd : (∃ e2, d = .slice e2) ∨ d = .string) (hz : zcells P e = some z) (hs : tsize P e = some sz)
    {s s' x x' v : Value} (rs : VR φ s s') (rx : VR φ x x') (h : capp E H sz s x = some (v, H')) :
    ∃ v' w' φ', (Builtin.append_ #[t, u] ty #[s', x']).run P w = .ok v' w' ∧ WR E φ' H' w' ∧ Ext φ H w φ' H' w' ∧ VR φ' v v' := by
  obtain ⟨i, zv, hi, hzv, hzc, hzl, hcl, hbytes, hts⟩ := zcells_some hz
  have hzz : zv.cells = ⟨z⟩ := Array.toList_inj.1 hzc
  rw [hs] at hts
  simp only [Option.some.injEq] at hts
  unfold capp at h
  cases hm : srcLen x with
  | none => rw [hm] at h; simp at h
  | some m =>
    rw [hm] at h
    simp only at h
    cases hx : srcCells E H sz m x with
    | none => rw [hx] at h; simp at h
    | some xs =>
      rw [hx] at h
      simp only at h
      have hxl := srcCells_length rx hm (Nat.le_refl m) hx
      obtain ⟨hlen, xs', hfc, hr⟩ := srcCells_sound (P := P) hw rx hm (Nat.le_refl m) hx
      obtain ⟨_, xd, hfd, hrd⟩ := srcCells_sound (P := P) (hw.heap (w' := w.drew) rfl) rx hm (Nat.le_refl m) hx
      have hl1 := hr.length
      have hl2 := hrd.length
      cases rs with
      | snil =>
        simp only at h
        by_cases hm0 : Nat.beq m 0 = true
        · rw [hm0] at h
          simp only [cond_true, Option.some.injEq, Prod.mk.injEq] at h
          obtain ⟨rfl, rfl⟩ := h
          rw [Nat.beq_eq] at hm0
          subst hm0
          refine ⟨_, w, φ, run_append_fits ht hu hd hs hlen hfc (Nat.le_refl _), hw, .refl _ _ _, .snil⟩
        · rw [Bool.eq_false_iff.2 hm0] at h
          have hm1 : m ≠ 0 := fun h => hm0 (by rw [h]; rfl)
          simp only [cond_false] at h
          obtain ⟨hml, h⟩ := cond_some h
          rw [Nat.ble_eq] at hml
          simp only [Option.some.injEq, Prod.mk.injEq] at h
          obtain ⟨rfl, rfl⟩ := h
          have hrun := run_append_grows (P := P) (w := w) (ty := ty) (base := none) (n := 0) (c := 0) ht hu hd hi hzv hbytes hs hlen hfd (old' := []) (by simp [Builtin.firstCells]) (by omega) (by omega)
          rw [Nat.zero_add] at hrun
          rw [hzz] at hrun
          have hmade := app_fresh hw (id := H.next) (sz := sz) (need := m) (cap := grownCap w m 0 e) (e := e) (z := z) (old := []) (old' := []) .nil hrd hts.symm (by simp; omega) (grown_ge _ _ _ _)
          obtain ⟨φ', hE, hW, hV⟩ := hmade.step hw
          exact ⟨_, _, φ', hrun, hW, hE, hV⟩
      | sl h1 h2 h3 h4 =>
        rename_i A a n C c
        obtain ⟨id, off, st⟩ := A
        simp only at h
        by_cases hm0 : Nat.beq m 0 = true
        · rw [hm0] at h
          simp only [cond_true, Option.some.injEq, Prod.mk.injEq] at h
          obtain ⟨rfl, rfl⟩ := h
          rw [Nat.beq_eq] at hm0
          subst hm0
          have hx0 : xs' = [] := List.eq_nil_of_length_eq_zero (by omega)
          subst hx0
          refine ⟨_, w, φ, (run_append_fits ht hu hd hs hlen hfc (by omega)).trans (by simp [storeCells]), hw, .refl _ _ _, .sl h1 h2 h3 h4⟩
        · rw [Bool.eq_false_iff.2 hm0] at h
          have hm1 : m ≠ 0 := fun h => hm0 (by rw [h]; rfl)
          simp only [cond_false] at h
          cases hml : Nat.ble (n + m) maxL with
          | false => rw [hml] at h; simp at h
          | true =>
            rw [hml] at h
            rw [Nat.ble_eq] at hml
            simp only [Bool.not_true, cond_false] at h
            by_cases hk : clipC n C = true
            · rw [hk] at h
              simp only [cond_true] at h
              obtain rfl := h2 hk
              cases hold : (cview E H ⟨id, off, st⟩).bind (takeN (c * sz)) with
              | none => rw [hold] at h; simp at h
              | some old =>
                rw [hold] at h
                simp only [Option.some.injEq, Prod.mk.injEq] at h
                obtain ⟨rfl, rfl⟩ := h
                obtain ⟨l, hl, htk⟩ := Option.bind_eq_some_iff.1 hold
                have hol : old.length = c * sz := by obtain ⟨rfl, hle⟩ := takeN_some htk; simp; omega
                obtain ⟨old', hrun', hro⟩ : ∃ old', (Builtin.firstCells sz c (.slice (some a) c c)).run P w.drew = .ok ⟨old'⟩ w.drew ∧ VRs φ old old' := by
                  rcases h3.2 with rfl | ha
                  · simp [takeN] at htk; subst htk
                    exact ⟨[], by simp [Builtin.firstCells, loadCells, loadCellsFrom], .nil⟩
                  · exact run_loadCells (hw.heap (w' := w.drew) rfl) ha hl htk
                have hol' := hro.length
                have hrun := run_append_grows (P := P) (w := w) (ty := ty) (base := some a) (n := c) (c := c) ht hu hd hi hzv hbytes hs hlen hfd hrun' (by omega) hml
                rw [hzz] at hrun
                have hmade := app_fresh hw (id := H.next) (sz := sz) (need := c + m) (cap := grownCap w (c + m) c e) (e := e) (z := z) hro hrd hts.symm (by rw [Nat.add_mul]; omega) (grown_ge _ _ _ _)
                obtain ⟨φ', hE, hW, hV⟩ := hmade.step hw
                exact ⟨_, _, φ', hrun, hW, hE, hV⟩
            · rw [Bool.eq_false_iff.2 hk] at h
              simp only [cond_false] at h
              split at h
              · rename_i _ t c0 ep wep his hob
                obtain ⟨hb, h⟩ := cond_some h
                simp only [Bool.and_eq_true, Nat.beq_eq, Nat.ble_eq] at hb
                obtain ⟨⟨⟨rfl, hoe⟩, hone⟩, hszc⟩ := hb
                simp only [Option.some.injEq, Prod.mk.injEq] at h
                obtain ⟨rfl, rfl⟩ := h
                rw [hszc] at h4
                -- where it lies
                obtain ⟨of0, har0⟩ := h3.1.resolve_left (by simp)
                cases har0 with
                | st hat0 hlo0 =>
                  rename_i b o lo hi
                  obtain ⟨hb, hidl, hO⟩ := hw.obj _ _ _ _ _ _ hat0
                  obtain ⟨_, hwe, hlohi, hhi, hown, hcalm, hcell0⟩ := hO _ hob
                  simp only [Bool.false_eq_true, if_false] at hown
                  obtain ⟨_, hcell⟩ := hcell0 hwe
                  obtain rfl : hi = c0.length := by simpa [hiOf] using hhi.symm
                  have hno : φ.at_ id (t + 1) = none := by
                    cases hq : φ.at_ id (t + 1) with
                    | none => rfl
                    | some y =>
                      obtain ⟨b2, o2, lo2, hi2⟩ := y
                      have := ((hw.obj _ _ _ _ _ _ hq).2.2 _ hob).1
                      omega
                  have hmz : ∀ k, k < xs.length → 0 < sz := fun k hk => by
                    rcases Nat.eq_zero_or_pos sz with h | h
                    · rw [h] at hxl; omega
                    · exact h
                  by_cases hfit : n + m ≤ c
                  · -- in place
                    have har : AR φ ⟨id, off, some t⟩ ⟨b, o + (of0 - lo), none⟩ := h3.2.resolve_left (by omega)
                    generalize hoff : o + (of0 - lo) = oa at har h4
                    cases har with
                    | st hat1 hlo =>
                      rename_i o1 lo1 hi1
                      rw [hat0] at hat1
                      simp only [Option.some.injEq, Prod.mk.injEq] at hat1
                      obtain ⟨_, rfl, rfl, rfl⟩ := hat1
                      obtain ⟨cs, ce, fl, fu, hblk, hf⟩ := hcalm rfl
                      have hin : ∀ k, k < xs'.length → (o + (off - lo) + n * sz) + 0 + k < cs.size := by
                        intro k hk
                        have hsz1 := hmz k (by omega)
                        rcases h4 with h4 | h4
                        · omega
                        · have h5 : 0 < φ.len b := by
                            have : (n + m) * sz ≤ c * sz := Nat.mul_le_mul_right _ hfit
                            have : 0 < (n + m) * sz := Nat.mul_pos (by omega) hsz1
                            simp only at h4
                            omega
                          obtain ⟨c1, e1, f1, g1, g2⟩ := hw.len b h5
                          rw [hblk] at g1
                          simp only [Option.some.injEq, Obj.cells.injEq] at g1
                          obtain ⟨rfl, _, _⟩ := g1
                          have : (n + m) * sz ≤ c * sz := Nat.mul_le_mul_right _ hfit
                          rw [Nat.add_mul] at this
                          simp only at h4
                          omega
                      obtain ⟨w', c', hrun, hW, hsz', hc'⟩ := run_storeCells (P := P) (o := o + (off - lo) + n * sz) xs' 0 cs w hblk hf hin (hr.ones hone)
                      have hadd : (⟨b, o + (off - lo), none⟩ : Addr).add (n * sz) = ⟨b, o + (off - lo) + n * sz, none⟩ := add_none _ rfl _
                      let φ' : Ren := ⟨fun i s => if i = id ∧ s = t + 1 then some (b, o, lo, off + n * sz + xs.length) else φ.at_ i s, φ.own, φ.len, φ.tok⟩
                      have hle : φ.le φ' := ⟨fun i s x hx => by
                        show (if i = id ∧ s = t + 1 then _ else _) = _
                        split
                        · rename_i hc; rw [hc.1, hc.2, hno] at hx; cases hx
                        · exact hx, fun _ => Nat.le_refl _, rfl⟩
                      have hst : φ'.at_ id (t + 1) = some (b, o, lo, off + n * sz + xs.length) := by simp [φ']
                      refine ⟨.slice (some ⟨b, o + (off - lo), none⟩) (n + m) c, w', φ', ?_, ?_⟩
                      · rw [run_append_fits ht hu hd hs hlen hfc hfit]
                        simp only [hadd, hrun, Result.andThen_ok]
                      · have hps := push_stamp (φ' := φ') (w' := w') (H' := H.put id (.cells (c0.take (off + n * sz) ++ xs) (t + 1) (bif Nat.beq (off + n * sz) c0.length then wep else t + 1) (c0.length :: his) false)) hw hob hwe ⟨_, _, hat0⟩ hoe (xs := xs) hle hst (by omega) (by rw [hW.size]; exact hb) hown ⟨c', ce, fl, fu, hW.new, by rw [hsz']; exact hf⟩
                          (fun i s hc => by show (if i = id ∧ s = t + 1 then _ else _) = _; rw [if_neg hc]) (fun _ _ => rfl) (fun b' hb' i hi' => by have := (hw.ownlt b' i hi').1; omega) (by rw [hW.size]; exact Nat.le_refl _)
                          (fun b' _ hne => hW.other b' fun h => hne (by rw [h]; exact hown)) (fun b' _ hq => Calm.of_wrote hW hf hsz' hq) ?_ ?_ ?_ (hw.len_wrote hblk hW hsz') hW.os hW.tape hW.output (CH.get_put H id _) rfl
                        · refine ⟨hps.1, hps.2, .sl hfit (fun hq => by rw [clipC_mk] at hq; cases hq) (.of (.st hst hlo)) (.mk h4)⟩
                        · intro j hj hj'
                          rw [cell_of hW.new, hc', cget_append]
                          have htl : (c0.take (off + n * sz)).length = off + n * sz := by simp; omega
                          rw [htl]
                          by_cases hje : j < off + n * sz
                          · rw [if_pos hje, if_neg (by omega), cget_take _ _ _ hje]
                            obtain ⟨v', hv, hvr⟩ := hcell j hj (by omega)
                            rw [cell_of hblk] at hv
                            exact ⟨v', hv, hvr.mono hle⟩
                          · rw [if_neg hje, if_pos (by omega)]
                            obtain ⟨v', hv, hvr⟩ := hr.cget (j - (off + n * sz)) (by omega)
                            exact ⟨v', by rw [← hv]; congr 1; omega, hvr.mono hle⟩
                        · intro t' b' o' lo' hi' j hat' hj hje
                          by_cases hbb : b' = b
                          · subst hbb
                            have hal := hw.align _ _ _ _ _ _ _ _ _ _ hat0 hat'
                            rw [cell_of hW.new, hc', if_neg (by omega), cell_of hblk]
                          · exact cell_congr (hW.other b' hbb) _ _
                        · intro t' o' lo' hi' hat'
                          have := hw.align _ _ _ _ _ _ _ _ _ _ hat0 hat'
                          omega
                  · -- a new row
                    have hview : cview E H ⟨id, off, some t⟩ = some (c0.drop off) := by
                      simp only [cview, hob, view]
                      have h1' : Nat.ble wep t = true := by rw [Nat.ble_eq]; exact hwe
                      simp [h1']
                    have htk : ∃ old, takeN (n * sz) (c0.drop off) = some old := by
                      have : ∀ (k : Nat) (l : List Value), k ≤ l.length → ∃ o, takeN k l = some o := by
                        intro k
                        induction k with
                        | zero => intro l _; exact ⟨[], rfl⟩
                        | succ k ih =>
                          intro l hl
                          cases l with
                          | nil => simp at hl
                          | cons y l =>
                            obtain ⟨o, ho⟩ := ih l (by simpa using hl)
                            exact ⟨y :: o, by simp [takeN, ho]⟩
                      exact this _ _ (by simp; omega)
                    obtain ⟨old, htk⟩ := htk
                    have hold2 : old = (c0.drop off).take (n * sz) := (takeN_some htk).1
                    have hol : old.length = n * sz := by rw [hold2]; simp; omega
                    obtain ⟨old', hrun', hro⟩ : ∃ old', (Builtin.firstCells sz n (.slice (some ⟨b, o + (of0 - lo), none⟩) n c)).run P w.drew = .ok ⟨old'⟩ w.drew ∧ VRs φ old old' := by
                      rcases h3.2 with rfl | ha
                      · obtain rfl : n = 0 := by omega
                        simp [takeN] at htk; subst htk
                        exact ⟨[], by simp [Builtin.firstCells, loadCells, loadCellsFrom], .nil⟩
                      · exact run_loadCells (hw.heap (w' := w.drew) rfl) ha hview htk
                    have hol' := hro.length
                    have hrun := run_append_grows (P := P) (w := w) (ty := ty) (base := some ⟨b, o + (of0 - lo), none⟩) (n := n) (c := c) ht hu hd hi hzv hbytes hs hlen hfd hrun' (by omega) hml
                    rw [hzz] at hrun
                    have hgr := alloc_grown w (.cells (⟨old'⟩ ++ ⟨xd⟩ ++ Builtin.zeroCells ⟨z⟩ (grownCap w (n + m) c e - (n + m))) e)
                    generalize hcap : grownCap w (n + m) c e = cap at hrun hgr
                    have hcg : n + m ≤ cap := by rw [← hcap]; exact grown_ge _ _ _ _
                    have hsize : (⟨old'⟩ ++ ⟨xd⟩ ++ Builtin.zeroCells ⟨z⟩ (cap - (n + m)) : Array Value).size = cap * sz := by
                      have hzs : (⟨z⟩ : Array Value).size = sz := hts.symm
                      simp only [Array.size_append, size_zeroCells', hzs]
                      have e1 : old'.length + xd.length = (⟨old'⟩ : Array Value).size + (⟨xd⟩ : Array Value).size := rfl
                      have e2 : cap * sz = (n + m) * sz + (cap - (n + m)) * sz := by rw [← Nat.add_mul]; congr 1; omega
                      rw [Nat.add_mul] at e2
                      omega
                    have hle := Ren.ext_le (φ := φ) (id := id) (t := t + 1) (b := w.heap.size) (o := 0) (lo := off) (hi := off + n * sz + xs.length) (L := cap * sz) hno
                    have hnb : (w.drew.alloc (.cells (⟨old'⟩ ++ ⟨xd⟩ ++ Builtin.zeroCells ⟨z⟩ (cap - (n + m))) e)).heap[w.heap.size]? = some (.cells (⟨old'⟩ ++ ⟨xd⟩ ++ Builtin.zeroCells ⟨z⟩ (cap - (n + m))) e) := by
                      rw [hgr.heap]; simp
                    refine ⟨_, _, φ.ext id (t + 1) w.heap.size 0 off (off + n * sz + xs.length) (cap * sz), hrun, ?_⟩
                    have hps := push_stamp (φ' := φ.ext id (t + 1) w.heap.size 0 off (off + n * sz + xs.length) (cap * sz)) (w' := w.drew.alloc (.cells (⟨old'⟩ ++ ⟨xd⟩ ++ Builtin.zeroCells ⟨z⟩ (cap - (n + m))) e)) (H' := H.put id (.cells (c0.take (off + n * sz) ++ xs) (t + 1) (bif Nat.beq (off + n * sz) c0.length then wep else t + 1) (c0.length :: his) false)) hw hob hwe ⟨_, _, hat0⟩ hoe (xs := xs) hle Ren.ext_at (by omega) (by rw [hgr.size]; omega) Ren.ext_own ⟨_, e, 0, 0, hnb, .inl rfl⟩
                      (fun i s hc => by simp only [Ren.ext]; rw [if_neg hc]) (fun b' hb' => by simp only [Ren.ext]; rw [if_neg (by omega)])
                      (fun b' hb' i hi' => by
                        simp only [Ren.ext] at hi'
                        split at hi'
                        · simp only [Option.some.injEq] at hi'; rename_i hq; exact ⟨hi'.symm, by rw [hgr.size]; omega⟩
                        · have := (hw.ownlt b' i hi').1; omega)
                      (by rw [hgr.size]; omega) (fun b' hb' _ => hgr.old hb') (fun b' hb' hq => hq.congr (hgr.old hb')) ?_ ?_ ?_ ?_ hgr.os hgr.tape hgr.output (CH.get_put H id _) rfl
                    · refine ⟨hps.1, hps.2, .sl hcg (fun hq => by rw [clipC_mk] at hq; cases hq) (.of ?_) (.mk (.inr ?_))⟩
                      · have := AR.st (φ := φ.ext id (t + 1) w.heap.size 0 off (off + n * sz + xs.length) (cap * sz)) (off := off) Ren.ext_at (Nat.le_refl off)
                        simpa using this
                      · have : cap * sz ≤ (φ.ext id (t + 1) w.heap.size 0 off (off + n * sz + xs.length) (cap * sz)).len w.heap.size := Ren.ext_len
                        show 0 + cap * sz ≤ (φ.ext id (t + 1) w.heap.size 0 off (off + n * sz + xs.length) (cap * sz)).len w.heap.size
                        omega
                    · intro j hj hj'
                      rw [cell_of hnb, cget_append]
                      have htl : (c0.take (off + n * sz)).length = off + n * sz := by simp; omega
                      rw [htl]
                      by_cases hje : j < off + n * sz
                      · rw [if_pos hje, cget_take _ _ _ hje]
                        obtain ⟨v', hv, hvr⟩ := hro.cget (j - off) (by omega)
                        refine ⟨v', ?_, ?_⟩
                        · rw [← hv, Array.append_assoc, Array.getElem?_append_left (by show 0 + (j - off) < old'.length; omega), Nat.zero_add]
                          simp
                        · have : cget old (j - off) = cget c0 j := by
                            rw [hold2, cget_take _ _ _ (by omega), cget_drop]; congr 1; omega
                          rw [← this]; exact hvr.mono hle
                      · rw [if_neg hje]
                        obtain ⟨v', hv, hvr⟩ := hrd.cget (j - (off + n * sz)) (by omega)
                        refine ⟨v', ?_, hvr.mono hle⟩
                        have e1 : (⟨old'⟩ : Array Value).size = old'.length := rfl
                        have e2 : (⟨xd⟩ : Array Value).size = xd.length := rfl
                        rw [Array.getElem?_append_left (by rw [Array.size_append]; omega), Array.getElem?_append_right (by omega), ← hv]
                        rw [show 0 + (j - off) - (⟨old'⟩ : Array Value).size = j - (off + n * sz) from by omega]
                        simp
                    · intro t' b' o' lo' hi' j hat' _ _
                      exact cell_congr (hgr.old (hw.obj _ _ _ _ _ _ hat').1) _ _
                    · intro t' o' lo' hi' hat'
                      have := (hw.obj _ _ _ _ _ _ hat').1
                      omega
                    · intro b' hb'
                      simp only [Ren.ext] at hb' ⊢
                      split at hb'
                      · rename_i hq
                        subst hq
                        rw [if_pos rfl, hw.len_new (Nat.le_refl _)]
                        exact ⟨_, e, (0, 0), hnb, by rw [hsize]; simp⟩
                      · rename_i hq
                        rw [if_neg hq]
                        obtain ⟨c1, e1, f1, g1, g2⟩ := hw.len b' hb'
                        exact ⟨c1, e1, f1, by rw [hgr.old (Array.getElem?_eq_some_iff.1 g1).1]; exact g1, g2⟩
              · simp at h
      | _ => simp at h
end Go.Cl

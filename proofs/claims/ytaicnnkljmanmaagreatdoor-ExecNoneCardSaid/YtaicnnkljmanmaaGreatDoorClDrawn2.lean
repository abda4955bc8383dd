/- A region that draws its order: the invariant. -/
import Derived.Test.YtaicnnkljmanmaaGreatDoorClDrawn
namespace Go.Cl
open Go
variable {P : Program} {E : Env} {φ φ' : Ren} {H H' : CH} {w w' : World}

theorem allB_iff {n : Nat} {p : Nat → Bool} : allB n p = true ↔ ∀ i, i < n → p i = true := by
  simp [allB, List.all_eq_true, List.mem_range]
theorem anyB_iff {n : Nat} {p : Nat → Bool} : anyB n p = true ↔ ∃ i, i < n ∧ p i = true := by
  simp [anyB, List.any_eq_true, List.mem_range]

/-- The last two operations are stores that stand in no order; all before them but the pure ones stand in front of both. -/
def Pr (cs : List COper) (B : List Nat) : Prop := ∃ p o a b, cs[cs.length - 2]? = some p ∧ cs[cs.length - 1]? = some o ∧ stOf p = some a ∧ stOf o = some b ∧ markOf o = true ∧
  ∀ k c, k + 2 < cs.length → cs[k]? = some c → isPure c = true ∨ ((bget B (cs.length - 1)).testBit k = true ∧ (bget B (cs.length - 2)).testBit k = true)
/-- What the code says and the checks have shown. -/
structure Sta (P : Program) (KK : List TypeId) (ops : Array Oper) (cs : List COper) (B : List Nat) : Prop where
  size : ops.size = cs.length
  rel : ∀ (i : Nat) (o : Oper), ops[i]? = some o → ∃ c c0 : COper, cs[i]? = some c ∧ compOper P KK ops o = some c0 ∧ c.dst = c0.dst ∧ c.guard = c0.guard ∧
    (c.op = c0.op ∨ (∃ lo hi lo' hi' q, c0.op = .l lo' hi' q ∧ c.op = .l lo hi q) ∨ ∃ b b' q, c0.op = .e b' q ∧ c.op = .e b q)
  back : ∀ (i : Nat) (o : Oper), ops[i]? = some o → ∀ e ∈ o.after, Region.binds .any e = true → e.on < i
  bef : ∀ (i : Nat) (o : Oper), ops[i]? = some o → ∀ x, (bget B i).testBit x = true → ∃ e ∈ o.after, Region.binds .any e = true ∧ (x = e.on ∨ (bget B e.on).testBit x = true)
  dist : ∀ (i j : Nat) (c c' : COper) (t : Nat), cs[i]? = some c → cs[j]? = some c' → c.dst = some t → c'.dst = some t → i = j
  rd : ∀ (i j : Nat) (c c' : COper) (t : Nat), cs[i]? = some c → cs[j]? = some c' → i ≠ j → c'.dst = some t → t ∈ reads c → if j < i then (bget B i).testBit j = true else (bget B j).testBit i = true
  ee : ∀ i j, i < cs.length → j < i → isEAt cs i = true → isEAt cs j = true → (bget B i).testBit j = true ∨ (i + 1 = cs.length ∧ j + 2 = cs.length ∧ Pr cs B)
  ldk : ∀ (i : Nat) (c : COper) (lo hi : Nat) (l : LOp), cs[i]? = some c → c.op = .l lo hi l → loadOk cs B i lo hi = true
/-- The run in the written order. -/
structure Canon (E : Env) (call : CallF) (cs : List COper) (base : Nat) (ct0 : List Value) (H1 : CH) (ctf : Nat → List Value) (K : Nat → CH) (val : Nat → Value) : Prop where
  ct0 : ctf 0 = ct0
  K0 : K 0 = H1
  st : ∀ (i : Nat) (c : COper), cs[i]? = some c → Step1 E call base ctf K val i c
  ld : ∀ (i : Nat) (c : COper) (lo hi : Nat) (l : LOp), cs[i]? = some c → Cl.wanted c.guard (ctf i) = true → c.op = .l lo hi l → ∀ e, e ≤ cs.length → (isEAt cs e = true ∨ e = cs.length) → lo ≤ rank cs e → rank cs e ≤ hi →
    cload E (K e) l (cev (ctf i)) = some (val i)
  pr : ∀ p o a b, 2 ≤ cs.length → cs[cs.length - 2]? = some p → cs[cs.length - 1]? = some o → markOf o = true → stOf p = some a → stOf o = some b → ptrNe (cev (ctf cs.length) a) (cev (ctf cs.length) b) = true

/-! ### the temporaries, by what has been taken -/
def upd (L : Nat → Bool) (i : Nat) : Nat → Bool := fun j => if j = i then true else L j
def wrAt (cs : List COper) (t : Nat) : Option Nat := (List.range cs.length).find? fun j => match cs[j]? with | some c => dstIs c t | none => false
def cvL (cs : List COper) (ct0 : List Value) (val : Nat → Value) (L : Nat → Bool) (t : Nat) : Value :=
  match wrAt cs t with
  | some j => if L j then val j else cget ct0 t
  | none => cget ct0 t
def ctL (cs : List COper) (ct0 : List Value) (val : Nat → Value) (L : Nat → Bool) : List Value := (List.range ct0.length).map (cvL cs ct0 val L)
theorem dstIs_iff {c : COper} {t : Nat} : dstIs c t = true ↔ c.dst = some t := by
  unfold dstIs
  cases c.dst with
  | none => simp
  | some d => simp only [Nat.beq_eq, Option.some.injEq]
theorem wrAt_some {cs : List COper} {t j : Nat} (h : wrAt cs t = some j) : ∃ c, cs[j]? = some c ∧ c.dst = some t := by
  have := List.find?_some h
  cases hc : cs[j]? with
  | none => rw [hc] at this; simp at this
  | some c => rw [hc] at this; exact ⟨c, rfl, dstIs_iff.1 this⟩
theorem wrAt_none {cs : List COper} {t j : Nat} (h : wrAt cs t = none) {c : COper} (hc : cs[j]? = some c) : c.dst ≠ some t := by
  intro hd
  have := List.find?_eq_none.1 h j (List.mem_range.2 (List.getElem?_eq_some_iff.1 hc).1)
  rw [hc] at this
  exact this (dstIs_iff.2 hd)
theorem wrAt_of {KK : List TypeId} {ops : Array Oper} {cs : List COper} {B : List Nat} (S : Sta P KK ops cs B) {t i : Nat} {c : COper} (hc : cs[i]? = some c) (hd : c.dst = some t) : wrAt cs t = some i := by
  cases h : wrAt cs t with
  | none => exact absurd hd (wrAt_none h hc)
  | some j =>
    obtain ⟨c', hc', hd'⟩ := wrAt_some h
    rw [S.dist i j c c' t hc hc' hd hd']
theorem cget_ctL {cs : List COper} {ct0 : List Value} {val : Nat → Value} {L : Nat → Bool} {t : Nat} : cget (ctL cs ct0 val L) t = if t < ct0.length then cvL cs ct0 val L t else undef := by
  rw [cget_eq]
  unfold ctL
  by_cases h : t < ct0.length
  · rw [if_pos h]; simp [h]
  · rw [if_neg h]; simp [h]
theorem ctL_put {KK : List TypeId} {ops : Array Oper} {cs : List COper} {B : List Nat} (S : Sta P KK ops cs B) {ct0 : List Value} {val : Nat → Value} {L : Nat → Bool} {i : Nat} {c : COper} (hc : cs[i]? = some c) :
    cput c.dst (val i) (ctL cs ct0 val L) = ctL cs ct0 val (upd L i) := by
  have hne : ∀ t, c.dst ≠ some t → cvL cs ct0 val L t = cvL cs ct0 val (upd L i) t := by
    intro t ht
    unfold cvL
    cases hw : wrAt cs t with
    | none => rfl
    | some j =>
      obtain ⟨c', hc', hd'⟩ := wrAt_some hw
      have : j ≠ i := by
        intro h; subst h
        rw [hc] at hc'
        simp only [Option.some.injEq] at hc'
        subst hc'; exact ht hd'
      simp only [upd, if_neg this]
  cases hd : c.dst with
  | none =>
    simp only [cput]
    unfold ctL
    apply List.map_congr_left
    intro t _
    exact hne t (by rw [hd]; simp)
  | some d =>
    simp only [cput, cset_set]
    apply List.ext_getElem?
    intro t
    rw [List.getElem?_set]
    unfold ctL
    simp only [List.getElem?_map, List.length_map, List.length_range]
    by_cases htd : d = t
    · subst htd
      rw [if_pos rfl]
      by_cases hl : d < ct0.length
      · rw [if_pos hl]
        simp only [List.getElem?_range hl, Option.map_some, Option.some.injEq, cvL, wrAt_of S hc hd, upd, if_true]
      · rw [if_neg hl, List.getElem?_eq_none (by simp; omega)]; rfl
    · rw [if_neg htd]
      by_cases hl : t < ct0.length
      · simp only [List.getElem?_range hl, Option.map_some, Option.some.injEq]
        exact hne t (by rw [hd]; simpa using htd)
      · rw [List.getElem?_eq_none (by simp; omega)]; rfl
theorem ctf_eq {KK : List TypeId} {ops : Array Oper} {cs : List COper} {B : List Nat} (S : Sta P KK ops cs B) {call : CallF} {base : Nat} {ct0 : List Value} {H1 : CH} {ctf : Nat → List Value} {K : Nat → CH} {val : Nat → Value}
    (C : Canon E call cs base ct0 H1 ctf K val) : ∀ i, i ≤ cs.length → ctf i = ctL cs ct0 val (fun j => decide (j < i)) := by
  intro i
  induction i with
  | zero =>
    intro _
    rw [C.ct0]
    apply List.ext_getElem?
    intro t
    unfold ctL
    simp only [List.getElem?_map]
    by_cases hl : t < ct0.length
    · simp only [List.getElem?_range hl, Option.map_some]
      unfold cvL
      cases wrAt cs t <;> simp [cget_some (List.getElem?_eq_getElem hl), hl]
    · rw [List.getElem?_eq_none (by omega), List.getElem?_eq_none (by simp; omega)]; rfl
  | succ i ih =>
    intro hi
    have hc : cs[i]? = some cs[i] := List.getElem?_eq_getElem (by omega)
    rw [(C.st i _ hc).ct, ih (by omega), ctL_put S hc]
    congr 1
    funext j
    simp only [upd]
    by_cases hj : j = i
    · subst hj; simp
    · rw [if_neg hj]; congr 1; apply propext; omega
/-- What a ready operation reads is what it reads in the written order. -/
theorem reads_same {KK : List TypeId} {ops : Array Oper} {cs : List COper} {B : List Nat} (S : Sta P KK ops cs B) {call : CallF} {base : Nat} {ct0 : List Value} {H1 : CH} {ctf : Nat → List Value} {K : Nat → CH} {val : Nat → Value}
    (C : Canon E call cs base ct0 H1 ctf K val) {L : Nat → Bool} (hcl : ∀ i, L i = true → ∀ j, (bget B i).testBit j = true → L j = true) {i : Nat} {c : COper} (hc : cs[i]? = some c) (hL : L i = false)
    (hB : ∀ j, (bget B i).testBit j = true → L j = true) : Same (ctL cs ct0 val L) (ctf i) (reads c) := by
  intro t ht
  have hi : i < cs.length := (List.getElem?_eq_some_iff.1 hc).1
  rw [ctf_eq S C i (by omega), cget_ctL, cget_ctL]
  congr 1
  unfold cvL
  cases hw : wrAt cs t with
  | none => rfl
  | some j =>
    obtain ⟨c', hc', hd'⟩ := wrAt_some hw
    simp only
    by_cases hij : i = j
    · subst hij; simp [hL]
    · have hr := S.rd i j c c' t hc hc' hij hd' ht
      by_cases hji : j < i
      · rw [if_pos hji] at hr
        simp [hB j hr, hji]
      · rw [if_neg hji] at hr
        have : L j = false := by
          cases hLj : L j with
          | false => rfl
          | true => have := hcl j hLj i hr; rw [hL] at this; cases this
        simp [this, hji]

/-! ### the invariant -/
def obOf (cs : List COper) (base : Nat) (ctf : Nat → List Value) (val : Nat → Value) (i : Nat) (ob : CObj) : Prop :=
  ∃ c n, cs[i]? = some c ∧ Cl.wanted c.guard (ctf i) = true ∧ c.op = .n n ∧ cnew (base + i) n (cev (ctf i)) = some (val i, ob)
structure Inv (E : Env) (cs : List COper) (B : List Nat) (base : Nat) (ct0 : List Value) (ctf : Nat → List Value) (K : Nat → CH) (val : Nat → Value) (φ0 : Ren) (H0 : CH) (w0 : World) (d : List Deferred)
    (L : Nat → Bool) (e : Nat) (φ : Ren) (a : Act) (w : World) : Prop where
  le : e ≤ cs.length
  isE : isEAt cs e = true ∨ e = cs.length
  lt : ∀ j, j < e → isEAt cs j = true → L j = true
  ge : ∀ j, e ≤ j → isEAt cs j = true → L j = false
  cl : ∀ i, L i = true → ∀ j, (bget B i).testBit j = true → L j = true
  wr : WR E φ (K e) w
  ext : Ext φ0 H0 w0 φ (K e) w
  nx : base + cs.length ≤ (K e).next
  rel : RelT φ (ctL cs ct0 val L) a.tmps
  late : ∀ i, i < cs.length → L i = false → ∀ t, φ.at_ (base + i) t = none
  lateob : ∀ i ob, i < e → L i = false → obOf cs base ctf val i ob → (K e).get (base + i) = some ob
  fut : ∀ i, e ≤ i → i < cs.length → (K e).get (base + i) = none
  early : ∀ i ob, e ≤ i → L i = true → obOf cs base ctf val i ob → ∃ b hi, φ.at_ (base + i) 0 = some (b, 0, 0, hi) ∧ (∀ t, t ≠ 0 → φ.at_ (base + i) t = none) ∧ φ.own b = some (base + i) ∧ ObjR E φ w (base + i) ob 0 b 0 0 hi
  defers : a.defers = d
/-- An object comes to the clean heap that the machine has, or has not, already. -/
theorem WR.put_obj (hw : WR E φ H w) {id : Nat} {ob : CObj} (hid : id < H.next) (hob : ∀ t b o lo hi, φ.at_ id t = some (b, o, lo, hi) → ObjR E φ w id ob t b o lo hi) : WR E φ (H.put id ob) w where
  obj i t b o lo hi h := by
    obtain ⟨h1, h2, h3⟩ := hw.obj _ _ _ _ _ _ h
    refine ⟨h1, h2, fun ob' ho => ?_⟩
    rw [CH.get_put] at ho
    split at ho
    · rename_i hq
      subst hq
      simp only [Option.some.injEq] at ho
      subst ho; exact hob _ _ _ _ _ h
    · exact h3 ob' ho
  align := hw.align
  ownlt := hw.ownlt
  absent i hi := by rw [CH.get_put, if_neg (by have : (H.put id ob).next = H.next := rfl; omega)]; exact hw.absent i hi
  len := hw.len
  frame := hw.frame
  toks := hw.toks
  glob := hw.glob
theorem Ext.heap2 {φ0 : Ren} {H0 : CH} {w0 : World} (h : Ext φ0 H0 w0 φ H w) (hg : ∀ j, j < H0.next → H'.get j = H.get j) (hn : H.next ≤ H'.next) : Ext φ0 H0 w0 φ H' w where
  le := h.le
  new := h.new
  own := h.own
  size := h.size
  keep := h.keep
  os := h.os
  tape := h.tape
  output := h.output
  next := Nat.le_trans h.next hn
  unmod i hi hn' := by rw [hg i hi]; exact h.unmod i hi hn'
  gone i hi hg' := by rw [hg i hi]; exact h.gone i hi hg'
theorem Ext.grow {φ0 : Ren} {H0 : CH} {w0 : World} (h : Ext φ0 H0 w0 φ H w) {id hi L : Nat} (hn : ∀ t, φ.at_ id t = none) {obj : Obj} (hgr : Grown w w' obj) (hid : H0.next ≤ id) : Ext φ0 H0 w0 (φ.ext id 0 w.heap.size 0 0 hi L) H w' where
  le := Ren.le_trans h.le (Ren.ext_le (hn 0))
  new i s x hx := by
    simp only [Ren.ext] at hx
    split at hx
    · rename_i hc; rw [hc.1]; exact .inr (.inr hid)
    · exact h.new i s x hx
  own b hb := by simp only [Ren.ext]; rw [if_neg (by have := h.size; omega)]; exact h.own b hb
  size := by rw [hgr.size]; have := h.size; omega
  keep b hb hk := by rw [hgr.old (Nat.lt_of_lt_of_le hb h.size)]; exact h.keep b hb hk
  os := hgr.os.trans h.os
  tape := hgr.tape.trans h.tape
  output := hgr.output.trans h.output
  next := h.next
  unmod := h.unmod
  gone := h.gone
section
variable {KK : List TypeId} {ops : Array Oper} {cs : List COper} {B : List Nat} {call : CallF} {base : Nat} {ct0 : List Value} {H1 : CH} {ctf : Nat → List Value} {K : Nat → CH} {val : Nat → Value} {φ0 : Ren} {H0 : CH} {w0 : World} {d : List Deferred}
/-- Up to the next operation with an effect: new objects come to the clean heap. -/
theorem advance (C : Canon E call cs base ct0 H1 ctf K val) (hbase : base = H0.next) {L : Nat → Bool} {a : Act}
    (hcl : ∀ i, L i = true → ∀ j, (bget B i).testBit j = true → L j = true) (hrel : RelT φ (ctL cs ct0 val L) a.tmps) (hd : a.defers = d)
    (late : ∀ i, i < cs.length → L i = false → ∀ t, φ.at_ (base + i) t = none) : ∀ (m j : Nat), cs.length - j = m → j ≤ cs.length →
    (∀ k, k < j → isEAt cs k = true → L k = true) → (∀ k, j ≤ k → isEAt cs k = true → L k = false) → WR E φ (K j) w → Ext φ0 H0 w0 φ (K j) w → base + cs.length ≤ (K j).next →
    (∀ i ob, i < j → L i = false → obOf cs base ctf val i ob → (K j).get (base + i) = some ob) → (∀ i, j ≤ i → i < cs.length → (K j).get (base + i) = none) →
    (∀ i ob, j ≤ i → L i = true → obOf cs base ctf val i ob → ∃ b hi, φ.at_ (base + i) 0 = some (b, 0, 0, hi) ∧ (∀ t, t ≠ 0 → φ.at_ (base + i) t = none) ∧ φ.own b = some (base + i) ∧ ObjR E φ w (base + i) ob 0 b 0 0 hi) →
    ∃ e, Inv E cs B base ct0 ctf K val φ0 H0 w0 d L e φ a w := by
  intro m
  induction m with
  | zero =>
    intro j hm hj h1 h2 h3 h4 h5 h6 h7 h8
    exact ⟨j, ⟨hj, .inr (by omega), h1, h2, hcl, h3, h4, h5, hrel, late, h6, h7, h8, hd⟩⟩
  | succ m ih =>
    intro j hm hj h1 h2 h3 h4 h5 h6 h7 h8
    have hlt : j < cs.length := by omega
    cases hE : isEAt cs j with
    | true => exact ⟨j, ⟨hj, .inl hE, h1, h2, hcl, h3, h4, h5, hrel, late, h6, h7, h8, hd⟩⟩
    | false =>
      have hc : cs[j]? = some cs[j] := List.getElem?_eq_getElem hlt
      have hs := C.st j _ hc
      have hlt' : ∀ k, k < j + 1 → isEAt cs k = true → L k = true := fun k hk hek => by
        by_cases hkj : k = j
        · subst hkj; rw [hE] at hek; cases hek
        · exact h1 k (by omega) hek
      -- nothing new, or one object
      have hcase : (K (j + 1) = K j ∧ ∀ ob, ¬ obOf cs base ctf val j ob) ∨ ∃ ob, obOf cs base ctf val j ob ∧ K (j + 1) = (K j).put (base + j) ob := by
        cases hw : Cl.wanted cs[j].guard (ctf j) with
        | false => exact .inl ⟨(hs.off hw).2, fun ob ⟨c, n, hc', hw', _⟩ => by rw [hc] at hc'; simp only [Option.some.injEq] at hc'; subst hc'; rw [hw] at hw'; cases hw'⟩
        | true =>
          cases hop : cs[j].op with
          | p p => exact .inl ⟨(hs.p hw p hop).2, fun ob ⟨c, n, hc', _, hop', _⟩ => by rw [hc] at hc'; simp only [Option.some.injEq] at hc'; subst hc'; rw [hop] at hop'; cases hop'⟩
          | l lo hi l => exact .inl ⟨hs.l hw lo hi l hop, fun ob ⟨c, n, hc', _, hop', _⟩ => by rw [hc] at hc'; simp only [Option.some.injEq] at hc'; subst hc'; rw [hop] at hop'; cases hop'⟩
          | n n =>
            obtain ⟨ob, h9, h10⟩ := hs.n hw n hop
            exact .inr ⟨ob, ⟨_, n, hc, hw, hop, h9⟩, h10⟩
          | e b e =>
            exfalso
            have : isEAt cs j = true := by simp [isEAt, hc, hop, Cl.isE]
            rw [hE] at this; cases this
          | bad => exact absurd hop (hs.bad hw)
      rcases hcase with ⟨hK, hno⟩ | ⟨ob, hob, hK⟩
      · rw [← hK] at h3 h4 h5 h6 h7
        refine ih (j + 1) (by omega) hlt hlt' (fun k hk => h2 k (by omega)) h3 h4 h5 (fun i ob hi hL ho => ?_) (fun i hi => h7 i (by omega)) (fun i ob hi => h8 i ob (by omega))
        by_cases hij : i = j
        · subst hij; exact absurd ho (hno ob)
        · exact h6 i ob (by omega) hL ho
      · have hg : ∀ i, (K (j + 1)).get i = if i = base + j then some ob else (K j).get i := by rw [hK]; exact CH.get_put _ _ _
        have hnx : (K (j + 1)).next = (K j).next := by rw [hK]; rfl
        refine ih (j + 1) (by omega) hlt hlt' (fun k hk => h2 k (by omega)) ?_ (h4.heap2 (fun i hi => by rw [hg, if_neg (by omega)]) (by omega)) (by omega) (fun i ob' hi hL ho => ?_) (fun i hi hi' => ?_) (fun i ob hi => h8 i ob (by omega))
        · rw [hK]
          refine h3.put_obj (by omega) fun t b o lo hi hat => ?_
          cases hL : L j with
          | false => rw [late j hlt hL t] at hat; cases hat
          | true =>
            obtain ⟨b', hi', g1, g2, g3, g4⟩ := h8 j ob (Nat.le_refl _) hL hob
            by_cases ht : t = 0
            · subst ht
              rw [g1] at hat
              simp only [Option.some.injEq, Prod.mk.injEq] at hat
              obtain ⟨rfl, rfl, rfl, rfl⟩ := hat
              exact g4
            · rw [g2 t ht] at hat; cases hat
        · rw [hg]
          by_cases hij : i = j
          · subst hij
            rw [if_pos rfl]
            obtain ⟨c1, n1, a1, a2, a3, a4⟩ := hob
            obtain ⟨c2, n2, b1, b2, b3, b4⟩ := ho
            rw [a1] at b1
            simp only [Option.some.injEq] at b1
            subst b1
            rw [a3] at b3
            injection b3 with b3
            subst b3
            rw [a4] at b4
            simp only [Option.some.injEq, Prod.mk.injEq] at b4
            rw [b4.2]
          · rw [if_neg (by omega)]; exact h6 i ob' (by omega) hL ho
        · rw [hg, if_neg (by omega)]; exact h7 i (by omega) hi'
end
end Go.Cl

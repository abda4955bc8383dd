/- A region that draws its order: it comes to what the written order comes to. -/
import Derived.Test.YtknlcjlneagijaaGreatDoorClDrawn3
namespace Go.Cl
open Go
variable {P : Program} {E : Env} {φ φ' : Ren} {H H' : CH} {w w' : World} {ro : Option Nat}
variable {KK : List TypeId} {ops : Array Oper} {cs : List COper} {B : List Nat} {call : CallF} {base : Nat} {ct0 : List Value} {H1 : CH} {ctf : Nat → List Value} {K : Nat → CH} {val : Nat → Value} {φ0 : Ren} {H0 : CH} {w0 : World} {d : List Deferred}

theorem rank_le {e : Nat} (S : Sta P KK ops cs B) {L : Nat → Bool} {a : Act} (I : Inv E cs B base ct0 ctf K val φ0 H0 w0 d L e φ a w) {i : Nat} {c : COper} {lo hi : Nat} {l : LOp} (hc : cs[i]? = some c) (hop : c.op = .l lo hi l) (hL : L i = false)
    (hB : ∀ j, (bget B i).testBit j = true → L j = true) : lo ≤ rank cs e ∧ rank cs e ≤ hi := by
  have h := S.ldk i c lo hi l hc hop
  unfold loadOk at h
  rw [allB_iff] at h
  have h := h e (by have := I.le; omega)
  have he : (isEAt cs e || Nat.beq e cs.length) = true := by
    rcases I.isE with h1 | h1
    · simp [h1]
    · rw [h1]; simp
  rw [he] at h
  simp only [Bool.not_true, Bool.false_or, Bool.and_eq_true, Bool.or_eq_true, Nat.ble_eq, anyB_iff] at h
  obtain ⟨h1, h2⟩ := h
  refine ⟨h1.resolve_right ?_, h2.resolve_right ?_⟩
  · rintro ⟨j, hj, ⟨hjE, hej⟩, hb⟩
    have := hB j hb
    rw [I.ge j hej hjE] at this; cases this
  · rintro ⟨j, hj, hjE, hb⟩
    have h3 := I.lt j hj hjE
    have h4 := I.cl j h3 i hb
    rw [hL] at h4; cases h4
theorem any_wp (hK : eqGood P KK) (hcs : CallSound P E call) (S : Sta P KK ops cs B) (C : Canon E call cs base ct0 H1 ctf K val) (hbase : base = H0.next) (hw0 : WR E φ0 H0 w0) : ∀ (fuel : Nat) (listed : Array Bool) (e : Nat) (φ : Ren) (a : Act) (w : World),
    listed.size = cs.length → (List.range cs.length).countP (fun j => !Lst listed j) = fuel → Inv E cs B base ct0 ctf K val φ0 H0 w0 d (Lst listed) e φ a w →
    wpAnyIn (FR ro) 0 P .any ops (SpecQ E φ0 H0 w0 d .normal (ctf cs.length) (K cs.length)) fuel listed a w := by
  intro fuel
  induction fuel with
  | zero =>
    intro listed e φ a w hsz hcnt I
    have hr : Region.ready .any ops listed = [] := by
      cases hq : Region.ready .any ops listed with
      | nil => rfl
      | cons i r =>
        exfalso
        have hi : i ∈ Region.ready .any ops listed := by rw [hq]; exact List.mem_cons_self
        obtain ⟨h1, o, ho, _⟩ := mem_ready.1 hi
        have hlt : i < cs.length := by rw [← S.size]; exact (Array.getElem?_eq_some_iff.1 ho).1
        have hp : (!Lst listed i) = true := by
          unfold Lst
          simp only [Array.getD_eq_getD_getElem?] at h1 ⊢
          rw [Array.getElem?_eq_getElem (by omega)] at h1 ⊢
          simp at h1 ⊢; exact h1
        have := count_upd (fun j => !Lst listed j) i hp cs.length hlt
        omega
    exact ⟨hr, inv_done S C I hsz hr⟩
  | succ fuel ih =>
    intro listed e φ a w hsz hcnt I
    refine ⟨fun hr => inv_done S C I hsz hr, fun i hi => ?_⟩
    obtain ⟨h1, o, ho, hedges⟩ := mem_ready.1 hi
    have hlt : i < cs.length := by rw [← S.size]; exact (Array.getElem?_eq_some_iff.1 ho).1
    have hL : Lst listed i = false := by
      unfold Lst
      simp only [Array.getD_eq_getD_getElem?] at h1 ⊢
      rw [Array.getElem?_eq_getElem (by omega)] at h1 ⊢
      exact h1
    have hB : ∀ j, (bget B i).testBit j = true → Lst listed j = true := by
      intro j hj
      obtain ⟨ed, hed, hb, hj⟩ := S.bef i o ho j hj
      have hl : Lst listed ed.on = true := hedges ed hed hb
      rcases hj with rfl | hj
      · exact hl
      · exact I.cl _ hl j hj
    have hset := Lst_set (listed := listed) (i := i) (by omega)
    have hcnt' : (List.range cs.length).countP (fun j => !Lst (listed.setIfInBounds i true) j) = fuel := by
      have := count_upd (fun j => !Lst listed j) i (by simp [hL]) cs.length hlt
      have e1 : (fun j => !Lst (listed.setIfInBounds i true) j) = (fun j => if j = i then false else !Lst listed j) := by
        funext j
        rw [hset]
        unfold upd
        by_cases hj : j = i <;> simp [hj]
      rw [e1]; omega
    have hsz' : (listed.setIfInBounds i true).size = cs.length := by simp [hsz]
    have ih' : ∀ e φ a w, Inv E cs B base ct0 ctf K val φ0 H0 w0 d (upd (Lst listed) i) e φ a w → wpAnyIn (FR ro) 0 P .any ops (SpecQ E φ0 H0 w0 d .normal (ctf cs.length) (K cs.length)) fuel (listed.setIfInBounds i true) a w :=
      fun e φ a w I' => ih (listed.setIfInBounds i true) e φ a w hsz' hcnt' (by rw [hset]; exact I')
    obtain ⟨c, c0, hc, hc0, hdst, hgd, hopr⟩ := S.rel i o ho
    have hsame := reads_same S C I.cl hc hL hB
    obtain ⟨hwant, hcop, hdst0⟩ := wanted_eq (P := P) I.rel hc0
    have hwant2 : Region.wanted o (yielded ops a.tmps) = Cl.wanted c.guard (ctf i) := by
      rw [hwant, ← hgd]; exact wanted_same hsame.left
    have hdo : c.dst = o.dst := by rw [hdst, hdst0]
    have hs := C.st i c hc
    have hput := ctL_put S (ct0 := ct0) (val := val) (L := Lst listed) hc
    unfold wpOpIn
    rw [ho]
    simp only
    rw [hwant2]
    have hiE : isEAt cs i = Cl.isE c.op := by simp [isEAt, hc]
    cases hwt : Cl.wanted c.guard (ctf i) with
    | false =>
      rw [if_neg (by simp)]
      refine ⟨fun _ _ => trivial, ?_⟩
      obtain ⟨hv, hKK⟩ := hs.off hwt
      have hrel : RelT φ (ctL cs ct0 val (upd (Lst listed) i)) (a.put o.dst undef).tmps := by
        rw [← hput, ← hdo, hv]; exact I.rel.put c.dst .undef
      cases hE : isEAt cs i with
      | true =>
        obtain rfl := next_eff S I hlt hE hL hB
        obtain ⟨e', I'⟩ := took_eff (φ' := φ) (w' := w) C hbase hw0 I hlt hB (by rw [hKK]; exact I.wr) (by rw [hKK]; exact .refl _ _ _) hrel ((put_defers _ _ _).trans I.defers)
        exact ih' _ _ _ _ I'
      | false =>
        exact ih' _ _ _ _ (took_pure I hE (fun ob ⟨c', n, hc', hw', _⟩ => by rw [hc] at hc'; simp only [Option.some.injEq] at hc'; subst hc'; rw [hwt] at hw'; cases hw') hB hrel ((put_defers _ _ _).trans I.defers))
    | true =>
      rw [if_pos rfl]
      have hr : ∀ x, okO x = true → VR φ (cev (ctL cs ct0 val (Lst listed)) x) (a.eval x) := fun x hx => I.rel.ev hx
      have hcop : compOp P KK o = some c0.op := hcop.resolve_left (fun hb => by
        rcases hopr with h | ⟨lo, hi, lo', hi', q, h, _⟩
        · exact hs.bad hwt (h.trans hb)
        · rw [hb] at h; cases h)
      cases hop : c.op with
      | p p =>
        have hc0op : compOp P KK o = some (.p p) := by
          rcases hopr with h | ⟨lo, hi, lo', hi', q, _, h⟩
          · rw [← hop, h]; exact hcop
          · rw [hop] at h; cases h
        obtain ⟨hv, hKK⟩ := hs.p hwt p hop
        have hv' : cpure p (cev (ctL cs ct0 val (Lst listed))) = some (val i) := by
          rw [cpure_same (ct' := ctf i) (by have := hsame.right; rw [hop] at this; exact this)]; exact hv
        obtain ⟨v', hrun, r⟩ := pure_sound (w := w) hK hc0op hr hv'
        refine wpI_of (compOp_nd hc0op) ?_
        rw [hrun, Oper.uponIn_value]
        have hE : isEAt cs i = false := by rw [hiE, hop]; rfl
        refine ih' _ _ _ _ (took_pure I hE (fun ob ⟨c', n, hc', hw', hop', _⟩ => by rw [hc] at hc'; simp only [Option.some.injEq] at hc'; subst hc'; rw [hop] at hop'; cases hop') hB ?_ ((put_defers _ _ _).trans I.defers))
        rw [← hput, ← hdo]; exact I.rel.put c.dst r
      | l lo hi l =>
        obtain ⟨lo', hi', hc0op⟩ : ∃ lo' hi', compOp P KK o = some (.l lo' hi' l) := by
          rcases hopr with h | ⟨lo1, hi1, lo', hi', q, h0, h⟩
          · exact ⟨lo, hi, by rw [← hop, h]; exact hcop⟩
          · rw [hop] at h
            injection h with _ _ h
            subst h
            exact ⟨lo', hi', by rw [← h0]; exact hcop⟩
        obtain ⟨hlo, hhi⟩ := rank_le S I hc hop hL hB
        have hv := C.ld i c lo hi l hc hwt hop e I.le I.isE hlo hhi
        have hv' : cload E (K e) l (cev (ctL cs ct0 val (Lst listed))) = some (val i) := by
          rw [cload_same (ct' := ctf i) (by have := hsame.right; rw [hop] at this; exact this)]; exact hv
        obtain ⟨v', hrun, r⟩ := load_sound (P := P) I.wr hc0op hr hv'
        refine wpI_of (compOp_nd hc0op) ?_
        rw [hrun, Oper.uponIn_value]
        have hE : isEAt cs i = false := by rw [hiE, hop]; rfl
        refine ih' _ _ _ _ (took_pure I hE (fun ob ⟨c', n, hc', hw', hop', _⟩ => by rw [hc] at hc'; simp only [Option.some.injEq] at hc'; subst hc'; rw [hop] at hop'; cases hop') hB ?_ ((put_defers _ _ _).trans I.defers))
        rw [← hput, ← hdo]; exact I.rel.put c.dst r
      | n n =>
        have hc0op : compOp P KK o = some (.n n) := by
          rcases hopr with h | ⟨lo, hi, lo', hi', q, _, h⟩
          · rw [← hop, h]; exact hcop
          · rw [hop] at h; cases h
        obtain ⟨ob, hv, hKK⟩ := hs.n hwt n hop
        have hv' : cnew (base + i) n (cev (ctL cs ct0 val (Lst listed))) = some (val i, ob) := by
          rw [cnew_same (ct' := ctf i) (by have := hsame.right; rw [hop] at this; exact this)]; exact hv
        obtain ⟨v', w1, hrun, hm⟩ := new_sound (P := P) hc0op hr hv' w
        refine wpI_of (compOp_nd hc0op) ?_
        rw [hrun, Oper.uponIn_value]
        have hE : isEAt cs i = false := by rw [hiE, hop]; rfl
        obtain ⟨φ1, I'⟩ := took_new hbase I hlt hL hE ⟨c, n, hc, hwt, hop, hv⟩ hB hm (dst := c.dst) hput
        rw [hdo] at I'
        exact ih' _ _ _ _ I'
      | bad => exact absurd hop (hs.bad hwt)
      | e b ef =>
        have hc0op : compOp P KK o = some (.e b ef) := by
          rcases hopr with h | ⟨lo, hi, lo', hi', q, _, h⟩
          · rw [← hop, h]; exact hcop
          · rw [hop] at h; cases h
        have hE : isEAt cs i = true := by rw [hiE, hop]; rfl
        obtain rfl := next_eff S I hlt hE hL hB
        have hv := hs.e hwt b ef hop
        have hv' : cop E call (.e b ef) (cev (ctL cs ct0 val (Lst listed))) (K i) = some (.ret (val i), K (i + 1)) := by
          simp only [cop]
          rw [ceff_same (ct' := ctf i) (by have := hsame.right; rw [hop] at this; exact this)]; exact hv
        refine op_wp hK hcs I.wr hc0op hr hv' (fun v v' w1 φ1 hvv hW hX hV => ?_) (fun v v' w1 φ1 hvv => by cases hvv)
        injection hvv with hvv
        subst hvv
        obtain ⟨e', I'⟩ := took_eff (φ' := φ1) (w' := w1) (a' := a.put o.dst v') C hbase hw0 I hlt hB hW hX (by rw [← hput, ← hdo]; exact (I.rel.mono hX.le).put c.dst hV) ((put_defers _ _ _).trans I.defers)
        exact ih' _ _ _ _ I'

/-! ### from the checks -/
theorem compOps_get : ∀ {l : List Oper} {r : List COper}, compOps P KK ops l = some r → r.length = l.length ∧ ∀ (i : Nat) (o : Oper), l[i]? = some o → ∃ c : COper, r[i]? = some c ∧ compOper P KK ops o = some c := by
  intro l
  induction l with
  | nil => intro r h; simp [compOps] at h; subst h; simp
  | cons x l ih =>
    intro r h
    simp only [compOps] at h
    cases h1 : compOper P KK ops x with
    | none => rw [h1] at h; cases h
    | some c =>
      rw [h1] at h
      cases h2 : compOps P KK ops l with
      | none => rw [h2] at h; cases h
      | some r' =>
        rw [h2] at h
        simp only [Option.some.injEq] at h
        subst h
        obtain ⟨hl, hg⟩ := ih h2
        refine ⟨by simp [hl], fun i o ho => ?_⟩
        cases i with
        | zero => simp at ho; subst ho; exact ⟨c, rfl, h1⟩
        | succ i => simp only [List.getElem?_cons_succ] at ho ⊢; exact hg i o ho
theorem relab_get (cs : List COper) (B : List Nat) : ∀ (l : List COper) (k : Nat), (relab cs B k l).length = l.length ∧ ∀ (i : Nat) (c : COper), l[i]? = some c → ∃ c' : COper, (relab cs B k l)[i]? = some c' ∧ c'.dst = c.dst ∧ c'.guard = c.guard ∧
    (c'.op = c.op ∨ ∃ lo hi lo' hi' q, c.op = .l lo' hi' q ∧ c'.op = .l lo hi q) := by
  intro l
  induction l with
  | nil => intro k; exact ⟨rfl, fun i c h => by simp at h⟩
  | cons x l ih =>
    intro k
    obtain ⟨hl, hg⟩ := ih (k + 1)
    refine ⟨by simp [relab, hl], fun i c hc => ?_⟩
    cases i with
    | zero =>
      simp at hc; subst hc
      simp only [relab, List.getElem?_cons_zero, Option.some.injEq, exists_eq_left']
      split
      · rename_i lo hi q hop; exact ⟨rfl, rfl, .inr ⟨_, _, lo, hi, q, hop, rfl⟩⟩
      · exact ⟨rfl, rfl, .inl rfl⟩
    | succ i =>
      simp only [List.getElem?_cons_succ] at hc
      simp only [relab, List.getElem?_cons_succ]
      exact hg i c hc
theorem befO_bit {B : List Nat} {o : Oper} {x : Nat} (h : (befO B o).testBit x = true) : ∃ e ∈ o.after, Region.binds .any e = true ∧ (x = e.on ∨ (bget B e.on).testBit x = true) := by
  unfold befO at h
  have key : ∀ (l : List Edge) (s : Nat), (l.foldl (fun s e => bif Region.binds .any e then s ||| (2 ^ e.on ||| bget B e.on) else s) s).testBit x = true →
      s.testBit x = true ∨ ∃ e ∈ l, Region.binds .any e = true ∧ (x = e.on ∨ (bget B e.on).testBit x = true) := by
    intro l
    induction l with
    | nil => intro s h; exact .inl h
    | cons e l ih =>
      intro s h
      rw [List.foldl_cons] at h
      rcases ih _ h with h | ⟨e', he', h'⟩
      · cases hb : Region.binds .any e with
        | false => rw [hb] at h; exact .inl h
        | true =>
          rw [hb] at h
          simp only [cond_true, Nat.testBit_or, Bool.or_eq_true] at h
          rcases h with h | h | h
          · exact .inl h
          · rw [Nat.testBit_two_pow] at h
            simp only [decide_eq_true_eq] at h
            exact .inr ⟨e, List.mem_cons_self, hb, .inl h.symm⟩
          · exact .inr ⟨e, List.mem_cons_self, hb, .inr h⟩
      · exact .inr ⟨e', List.mem_cons_of_mem _ he', h'⟩
  rcases key _ 0 h with h | ⟨e, he, h⟩
  · simp at h
  · exact ⟨e, by simpa using he, h⟩
theorem sta_of (hc : compDrawn P KK ops = some cs) : ∃ B, Sta P KK ops cs B := by
  unfold compDrawn at hc
  cases h0 : compOps P KK ops ops.toList with
  | none => rw [h0] at hc; cases hc
  | some cs0 =>
    rw [h0] at hc
    simp only at hc
    obtain ⟨hok, hc⟩ := cond_some hc
    simp only [Option.some.injEq] at hc
    rw [hc] at hok
    obtain ⟨hl0, hg0⟩ := compOps_get h0
    obtain ⟨hl1, hg1⟩ := relab_get cs0 (befs ops.toList []) cs0 0
    rw [hc] at hl1 hg1
    generalize befs ops.toList [] = B at *
    unfold drawnOk at hok
    simp only [Bool.and_eq_true] at hok
    obtain ⟨⟨⟨⟨_, hE⟩, hR⟩, hEE⟩, hLL⟩ := hok
    unfold chkEdges at hE
    unfold chkReads at hR
    unfold chkE at hEE
    unfold chkL at hLL
    rw [allB_iff] at hE hR hEE hLL
    have hsz : ops.size = cs.length := by rw [hl1, hl0]; simp
    refine ⟨B, hsz, fun i o ho => ?_, fun i o ho e he hb => ?_, fun i o ho x hx => ?_, ?_, ?_, fun i j hi hj h1 h2 => ?_, fun i c lo hi l hci hop => ?_⟩
    · rw [← Array.getElem?_toList] at ho
      obtain ⟨c0, h1, h2⟩ := hg0 i o ho
      obtain ⟨c, h3, h4, h5, h6⟩ := hg1 i c0 h1
      exact ⟨c, c0, h3, h2, h4, h5, h6⟩
    · have hi := (Array.getElem?_eq_some_iff.1 ho).1
      have := hE i (by simpa using hi)
      rw [Array.getElem?_toList, ho] at this
      simp only [Bool.and_eq_true, List.all_eq_true, Bool.or_eq_true, Bool.not_eq_true'] at this
      have h2 := (this.2 e (by simpa using he)).resolve_left (by rw [hb]; simp)
      unfold Nat.blt at h2
      rw [Nat.ble_eq] at h2; exact h2
    · have hi := (Array.getElem?_eq_some_iff.1 ho).1
      have := hE i (by simpa using hi)
      rw [Array.getElem?_toList, ho] at this
      simp only [Bool.and_eq_true, Nat.beq_eq] at this
      rw [this.1] at hx
      exact befO_bit hx
    · intro i j c c' t hi hj h1 h2
      by_cases hij : i = j
      · exact hij
      · exfalso
        have := hR i (List.getElem?_eq_some_iff.1 hi).1
        rw [hi] at this
        simp only [allB_iff] at this
        have := this j (List.getElem?_eq_some_iff.1 hj).1
        rw [hj] at this
        have hb : Nat.beq i j = false := by rw [← Bool.not_eq_true, Nat.beq_eq]; exact hij
        simp only [hb, cond_false, h1, Bool.and_eq_true, Bool.not_eq_true'] at this
        rw [dstIs_iff.2 h2] at this
        cases this.1
    · intro i j c c' t hi hj hij h2 hrd
      have := hR i (List.getElem?_eq_some_iff.1 hi).1
      rw [hi] at this
      simp only [allB_iff] at this
      have := this j (List.getElem?_eq_some_iff.1 hj).1
      rw [hj] at this
      have hb : Nat.beq i j = false := by rw [← Bool.not_eq_true, Nat.beq_eq]; exact hij
      simp only [hb, cond_false, h2, Bool.and_eq_true, Bool.or_eq_true, Bool.not_eq_true'] at this
      have h3 := this.2.resolve_left (by
        intro h
        have : (reads c).any (Nat.beq t) = true := List.any_eq_true.2 ⟨t, hrd, by simp⟩
        rw [h] at this; cases this)
      by_cases hji : j < i
      · rw [if_pos hji]
        have : Nat.blt j i = true := by unfold Nat.blt; rw [Nat.ble_eq]; exact hji
        rw [this] at h3; exact h3
      · rw [if_neg hji]
        have : Nat.blt j i = false := by
          rw [← Bool.not_eq_true]; unfold Nat.blt; rw [Nat.ble_eq]; exact hji
        rw [this] at h3; exact h3
    · have := hEE i hi
      rw [allB_iff] at this
      have := this j hj
      rw [h1, h2] at this
      simpa using this
    · have := hLL i (List.getElem?_eq_some_iff.1 hci).1
      rw [hci] at this
      obtain ⟨dd, gg, oo⟩ := c
      simp only at hop
      subst hop
      exact this
theorem canon_of {ct ct' : List Value} (h : rdrawn E call cs ct H = some (ct', H')) : ∃ ctf K val, Canon E call cs H.next ct ⟨H.next + cs.length, H.objs⟩ ctf K val ∧ ctf cs.length = ct' ∧ K cs.length = H' := by
  unfold rdrawn at h
  cases hd : cdrawn E call H.next cs 0 ct ⟨H.next + cs.length, H.objs⟩ [] [] with
  | none => rw [hd] at h; cases h
  | some r =>
    obtain ⟨ct1, h1, gs, ls⟩ := r
    rw [hd] at h
    simp only at h
    obtain ⟨hall, h⟩ := cond_some h
    simp only [Option.some.injEq, Prod.mk.injEq] at h
    obtain ⟨rfl, rfl⟩ := h
    obtain ⟨ctf, K, val, e1, e2, e3, e4, hst, ⟨m, hm, hmk⟩, _, hld⟩ := cdrawn_trace (cs := cs) cs 0 _ _ _ _ _ _ _ _ (by simp) (Nat.zero_le _) hd
    refine ⟨ctf, K, val, ⟨e1, e2, fun i c hc => hst i c (Nat.zero_le _) hc, fun i c lo hi l hc hw hop e he hq hlo hhi => ?_⟩, e3, e4⟩
    have hmem := hld i c lo hi l (Nat.zero_le _) hc hw hop
    have hchk := List.all_eq_true.1 hall _ hmem
    simp only [List.reverse_nil, List.nil_append] at hm
    rw [hm] at hchk
    unfold lchk at hchk
    rw [List.all_eq_true] at hchk
    have hg := hmk e (Nat.zero_le _) he hq
    have hr0 : rank cs 0 = 0 := rfl
    rw [hr0, Nat.sub_zero] at hg
    have hin : K e ∈ (m.drop lo).take (hi - lo + 1) := by
      rw [List.mem_iff_getElem?]
      refine ⟨rank cs e - lo, ?_⟩
      rw [List.getElem?_take, if_pos (by omega), List.getElem?_drop, ← hg]
      congr 1; omega
    have := hchk _ hin
    simp only at this
    cases hcl : cload E (K e) l (cev (ctf i)) with
    | none => rw [hcl] at this; cases this
    | some v => rw [hcl] at this; rw [veqb_eq this]
theorem drawn_wp (hK : eqGood P KK) (hcs : CallSound P E call) (hmix : P.follows .mixedOrders = true) (hc : compDrawn P KK ops = some cs) {ct ct' : List Value} {a : Act} (ht : RelT φ ct a.tmps) (hw : WR E φ H w) (h : rdrawn E call cs ct H = some (ct', H')) (id : Nat) :
    (Code.region id ops true).wpIn (FR ro) 0 P (SpecQ E φ H w a.defers .normal ct' H') a w := by
  obtain ⟨B, S⟩ := sta_of hc
  obtain ⟨ctf, K, val, C, rfl, rfl⟩ := canon_of h
  refine wpIn_region_any hmix ?_
  have hw1 : WR E φ ⟨H.next + cs.length, H.objs⟩ { w with drawn := w.drawn + 1 } := by
    have h1 := hw.heap (w' := { w with drawn := w.drawn + 1 }) rfl
    exact ⟨fun id t b o lo hi hx => let ⟨g1, g2, g3⟩ := h1.obj _ _ _ _ _ _ hx; ⟨g1, Nat.lt_of_lt_of_le g2 (Nat.le_add_right _ _), g3⟩, h1.align, fun b id hx => let ⟨g1, g2⟩ := h1.ownlt b id hx; ⟨g1, Nat.lt_of_lt_of_le g2 (Nat.le_add_right _ _)⟩,
      fun id hx => h1.absent id (Nat.le_trans (Nat.le_add_right _ _) hx), h1.len, h1.glob⟩
  have hX : Ext φ H w φ ⟨H.next + cs.length, H.objs⟩ { w with drawn := w.drawn + 1 } :=
    ⟨Ren.le_refl φ, fun _ _ _ h => .inl h, fun _ _ => rfl, Nat.le_refl _, fun _ _ _ => rfl, rfl, rfl, rfl, Nat.le_add_right _ _, fun _ _ _ => rfl, fun _ _ h => h⟩
  have hfalse : ∀ j, Lst (Array.replicate ops.size false) j = false := by
    intro j
    unfold Lst
    simp only [Array.getD_eq_getD_getElem?, Array.getElem?_replicate]
    split <;> rfl
  have hct : ct = ctL cs ct val (Lst (Array.replicate ops.size false)) := by
    have := ctf_eq S C 0 (Nat.zero_le _)
    rw [C.ct0] at this
    rw [this]
    have h2 := ctL_congr (cs := cs) (ct0 := ct) (val := val) (L := fun j => decide (j < 0)) (L' := Lst (Array.replicate ops.size false)) (fun j _ => by rw [hfalse]; simp)
    rw [← this, ← h2]; exact this
  obtain ⟨e, I⟩ := advance (B := B) (φ := φ) (w := { w with drawn := w.drawn + 1 }) (φ0 := φ) (H0 := H) (w0 := w) (d := a.defers) (L := Lst (Array.replicate ops.size false)) (a := a) C rfl (fun i hi => by rw [hfalse] at hi; cases hi) (by rw [← hct]; exact ht) rfl
    (fun i _ _ t => hw.at_lt (Nat.le_add_right _ _) t) _ 0 rfl (Nat.zero_le _) (fun k hk => by omega) (fun k _ _ => hfalse k) (by rw [C.K0]; exact hw1) (by rw [C.K0]; exact hX) (by rw [C.K0]; exact Nat.le_refl _)
    (fun i ob hi => by omega) (fun i _ _ => by rw [C.K0]; exact hw.absent _ (Nat.le_add_right _ _)) (fun i ob _ hi => by rw [hfalse] at hi; cases hi)
  refine any_wp hK hcs S C rfl hw ops.size _ e φ a _ (by simp [S.size]) ?_ I
  have : (List.range cs.length).countP (fun j => !Lst (Array.replicate ops.size false) j) = (List.range cs.length).length := by
    rw [List.countP_eq_length]
    intro j _
    simp [hfalse j]
  rw [this, S.size]; simp
end Go.Cl

/- A region that draws its order: it comes to what the written order comes to. -/
import Derived.Test.YtaicnnkljmanmaaGreatDoorClDrawn3
import Derived.Test.YtaicnnkljmanmaaGreatDoorClComm
namespace Go.Cl
open Go
variable {P : Program} {E : Env} {φ φ' : Ren} {H H' : CH} {w w' : World} {ro : Option Nat}
variable {KK : List TypeId} {ops : Array Oper} {cs : List COper} {B : List Nat} {call : CallF} {base : Nat} {ct0 : List Value} {H1 : CH} {ctf : Nat → List Value} {K : Nat → CH} {val : Nat → Value} {φ0 : Ren} {H0 : CH} {w0 : World} {d : List Deferred}

theorem rank_le {e : Nat} (S : Sta P KK ops cs B) {L : Nat → Bool} {a : Act} (I : Inv E cs B base ct0 ctf K val φ0 H0 w0 d L e φ a w) {i : Nat} {c : COper} {lo hi : Nat} {l : LOp} (hc : cs[i]? = some c) (hop : c.op = .l lo hi l) (hL : L i = false)
    (hB : ∀ j, (bget B i).testBit j = true → L j = true) : lo ≤ rank cs e ∧ rank cs e ≤ hi := by
  have h := S.ldk i c lo hi l hc hop
  unfold loadOk at h
  rw [allB_iff] at h
  have h := h e (by have := I.le; omega)
  have he : (isEAt cs e || Nat.beq e cs.length) = true := by
    rcases I.isE with h1 | h1
    · simp [h1]
    · rw [h1]; simp
  rw [he] at h
  simp only [Bool.not_true, Bool.false_or, Bool.and_eq_true, Bool.or_eq_true, Nat.ble_eq, anyB_iff] at h
  obtain ⟨h1, h2⟩ := h
  refine ⟨h1.resolve_right ?_, h2.resolve_right ?_⟩
  · rintro ⟨j, hj, ⟨hjE, hej⟩, hb⟩
    have := hB j hb
    rw [I.ge j hej hjE] at this; cases this
  · rintro ⟨j, hj, hjE, hb⟩
    have h3 := I.lt j hj hjE
    have h4 := I.cl j h3 i hb
    rw [hL] at h4; cases h4
/-- Behind the early store. -/
structure Inv2 (E : Env) (cs : List COper) (B : List Nat) (ct0 : List Value) (K : Nat → CH) (Kj : CH) (val : Nat → Value) (φ0 : Ren) (H0 : CH) (w0 : World) (d : List Deferred)
    (L : Nat → Bool) (φ : Ren) (a : Act) (w : World) : Prop where
  last : L (cs.length - 1) = true
  oth : ∀ k c, k + 2 < cs.length → cs[k]? = some c → isPure c = true ∨ L k = true
  cl : ∀ i, L i = true → ∀ j, (bget B i).testBit j = true → L j = true
  wr : WR E φ (if L (cs.length - 2) = true then K cs.length else Kj) w
  ext : Ext φ0 H0 w0 φ (if L (cs.length - 2) = true then K cs.length else Kj) w
  rel : RelT φ (ctL cs ct0 val L) a.tmps
  defers : a.defers = d
theorem inv2_done (S : Sta P KK ops cs B) (C : Canon E call cs base ct0 H1 ctf K val) (h2 : 2 ≤ cs.length) {Kj : CH} {listed : Array Bool} {a : Act} (I : Inv2 E cs B ct0 K Kj val φ0 H0 w0 d (Lst listed) φ a w) (hsz : listed.size = cs.length)
    (hr : Region.ready .any ops listed = []) : SpecQ E φ0 H0 w0 d .normal (ctf cs.length) (K cs.length) .normal a w := by
  have hall := all_listed S hsz hr
  have h1 := I.wr
  have h3 := I.ext
  rw [if_pos (hall _ (by omega))] at h1 h3
  refine ⟨I.defers, φ, h1, h3, ?_⟩
  show RelT φ (ctf cs.length) a.tmps
  rw [ctf_eq S C _ (Nat.le_refl _), ← ctL_congr (L := Lst listed) (fun j hj => by rw [hall j hj]; simp [hj])]
  exact I.rel
theorem any_wp2 (hK : eqGood P KK) (hcs : CallSound P E call) (S : Sta P KK ops cs B) (C : Canon E call cs base ct0 H1 ctf K val) (hw0 : WR E φ0 H0 w0) (h2 : 2 ≤ cs.length) {Kj : CH} {bb : Bool} {m : Nat} {A X : Operand}
    (hp : cs[cs.length - 2]? = some ⟨none, none, .e bb (.st m A X)⟩) (hst : ceff E call Kj (.st m A X) (cev (ctf (cs.length - 2))) = some (.ret (val (cs.length - 2)), K cs.length)) : ∀ (fuel : Nat) (listed : Array Bool) (φ : Ren) (a : Act) (w : World),
    listed.size = cs.length → (List.range cs.length).countP (fun j => !Lst listed j) = fuel → Inv2 E cs B ct0 K Kj val φ0 H0 w0 d (Lst listed) φ a w →
    wpAnyIn (FR ro) 0 P .any ops (SpecQ E φ0 H0 w0 d .normal (ctf cs.length) (K cs.length)) fuel listed a w := by
  intro fuel
  induction fuel with
  | zero =>
    intro listed φ a w hsz hcnt I
    have hr : Region.ready .any ops listed = [] := by
      cases hq : Region.ready .any ops listed with
      | nil => rfl
      | cons i r =>
        exfalso
        have hi : i ∈ Region.ready .any ops listed := by rw [hq]; exact List.mem_cons_self
        obtain ⟨h1, o, ho, _⟩ := mem_ready.1 hi
        have hlt : i < cs.length := by rw [← S.size]; exact (Array.getElem?_eq_some_iff.1 ho).1
        have hp : (!Lst listed i) = true := by
          unfold Lst
          simp only [Array.getD_eq_getD_getElem?] at h1 ⊢
          rw [Array.getElem?_eq_getElem (by omega)] at h1 ⊢
          simp at h1 ⊢; exact h1
        have := count_upd (fun j => !Lst listed j) i hp cs.length hlt
        omega
    exact ⟨hr, inv2_done S C h2 I hsz hr⟩
  | succ fuel ih =>
    intro listed φ a w hsz hcnt I
    refine ⟨fun hr => inv2_done S C h2 I hsz hr, fun i hi => ?_⟩
    obtain ⟨h1, o, ho, hedges⟩ := mem_ready.1 hi
    have hlt : i < cs.length := by rw [← S.size]; exact (Array.getElem?_eq_some_iff.1 ho).1
    have hL : Lst listed i = false := by
      unfold Lst
      simp only [Array.getD_eq_getD_getElem?] at h1 ⊢
      rw [Array.getElem?_eq_getElem (by omega)] at h1 ⊢
      exact h1
    have hB : ∀ j, (bget B i).testBit j = true → Lst listed j = true := by
      intro j hj
      obtain ⟨ed, hed, hb, hj⟩ := S.bef i o ho j hj
      have hl : Lst listed ed.on = true := hedges ed hed hb
      rcases hj with rfl | hj
      · exact hl
      · exact I.cl _ hl j hj
    have hset := Lst_set (listed := listed) (i := i) (by omega)
    have hcnt' : (List.range cs.length).countP (fun j => !Lst (listed.setIfInBounds i true) j) = fuel := by
      have := count_upd (fun j => !Lst listed j) i (by simp [hL]) cs.length hlt
      have e1 : (fun j => !Lst (listed.setIfInBounds i true) j) = (fun j => if j = i then false else !Lst listed j) := by
        funext j
        rw [hset]
        unfold upd
        by_cases hj : j = i <;> simp [hj]
      rw [e1]; omega
    have hsz' : (listed.setIfInBounds i true).size = cs.length := by simp [hsz]
    have ih' : ∀ φ a w, Inv2 E cs B ct0 K Kj val φ0 H0 w0 d (upd (Lst listed) i) φ a w → wpAnyIn (FR ro) 0 P .any ops (SpecQ E φ0 H0 w0 d .normal (ctf cs.length) (K cs.length)) fuel (listed.setIfInBounds i true) a w :=
      fun φ a w I' => ih (listed.setIfInBounds i true) φ a w hsz' hcnt' (by rw [hset]; exact I')
    obtain ⟨c, c0, hc, hc0, hdst, hgd, hopr⟩ := S.rel i o ho
    have hsame := reads_same S C I.cl hc hL hB
    obtain ⟨hwant, hcop, hdst0⟩ := wanted_eq (P := P) I.rel hc0
    have hwant2 : Region.wanted o (yielded ops a.tmps) = Cl.wanted c.guard (ctf i) := by
      rw [hwant, ← hgd]; exact wanted_same hsame.left
    have hdo : c.dst = o.dst := by rw [hdst, hdst0]
    have hs := C.st i c hc
    have hput := ctL_put S (ct0 := ct0) (val := val) (L := Lst listed) hc
    have hi1 : i ≠ cs.length - 1 := fun h => by rw [h, I.last] at hL; cases hL
    -- nothing but temporaries
    have pure' : ∀ (v' : Value), i ≠ cs.length - 2 → VR φ (val i) v' → Inv2 E cs B ct0 K Kj val φ0 H0 w0 d (upd (Lst listed) i) φ (a.put o.dst v') w := by
      intro v' hne hv
      have hu : upd (Lst listed) i (cs.length - 2) = Lst listed (cs.length - 2) := upd_ne (fun h => hne h.symm)
      refine ⟨by rw [upd_ne (fun h => hi1 h.symm)]; exact I.last, fun k c hk hck => (I.oth k c hk hck).imp id fun hk => ?_, upd_cl I.cl hB, by rw [hu]; exact I.wr, by rw [hu]; exact I.ext, ?_, (put_defers _ _ _).trans I.defers⟩
      · by_cases hki : k = i
        · subst hki; exact upd_true
        · rw [upd_ne hki]; exact hk
      · rw [← hput, ← hdo]; exact I.rel.put c.dst hv
    unfold wpOpIn
    rw [ho]
    simp only
    rw [hwant2]
    by_cases hi2 : i = cs.length - 2
    · -- the other store
      subst hi2
      rw [hp] at hc
      simp only [Option.some.injEq] at hc
      subst hc
      have hwt : Cl.wanted (none : Option (Nat × Bool)) (ctf (cs.length - 2)) = true := rfl
      rw [hwt, if_pos rfl]
      have hr : ∀ x, okO x = true → VR φ (cev (ctL cs ct0 val (Lst listed)) x) (a.eval x) := fun x hx => I.rel.ev hx
      have hcop : compOp P KK o = some c0.op := hcop.resolve_left (fun hb => by
        rcases hopr with h | ⟨lo, hi, lo', hi', q, h, _⟩ | ⟨b, b', q, h, _⟩
        · rw [hb] at h; cases h
        · rw [hb] at h; cases h
        · rw [hb] at h; cases h)
      obtain ⟨b', hc0op⟩ : ∃ b', compOp P KK o = some (.e b' (.st m A X)) := by
        rcases hopr with h | ⟨lo, hi, lo', hi', q, _, h⟩ | ⟨b, b', q, h, h'⟩
        · exact ⟨bb, by rw [hcop, ← h]⟩
        · cases h
        · injection h' with _ h'
          subst h'
          exact ⟨b', by rw [hcop, h]⟩
      have hwr := I.wr
      have hext := I.ext
      rw [hL, if_neg (by simp)] at hwr hext
      have hv' : cop E call (.e b' (.st m A X)) (cev (ctL cs ct0 val (Lst listed))) Kj = some (.ret (val (cs.length - 2)), K cs.length) := by
        simp only [cop]
        rw [ceff_same (ct' := ctf (cs.length - 2)) hsame.right]; exact hst
      refine op_wp hK hcs hwr hc0op hr hv' (fun v v' w1 φ1 hvv hW hX hV => ?_) (fun v v' w1 φ1 hvv => by cases hvv)
      injection hvv with hvv
      subst hvv
      refine ih' _ _ _ ⟨by rw [upd_ne (fun h => hi1 h.symm)]; exact I.last, fun k c hk hck => (I.oth k c hk hck).imp id fun hk' => ?_, upd_cl I.cl hB, by rw [upd_true, if_pos rfl]; exact hW, by rw [upd_true, if_pos rfl]; exact hext.trans hw0 hX, ?_, (put_defers _ _ _).trans I.defers⟩
      · rw [upd_ne (by omega)]; exact hk'
      · rw [← hput, ← hdo]; exact (I.rel.mono hX.le).put none hV
    · have hpu : isPure c = true := (I.oth i c (by omega) hc).resolve_right (by rw [hL]; simp)
      obtain ⟨p, hop⟩ : ∃ p, c.op = .p p := by
        unfold isPure at hpu
        split at hpu
        · rename_i p h; exact ⟨p, h⟩
        · cases hpu
      cases hwt : Cl.wanted c.guard (ctf i) with
      | false =>
        rw [if_neg (by simp)]
        refine ⟨fun _ _ => trivial, ?_⟩
        obtain ⟨hv, _⟩ := hs.off hwt
        exact ih' _ _ _ (pure' undef hi2 (by rw [hv]; exact .undef))
      | true =>
        rw [if_pos rfl]
        have hr : ∀ x, okO x = true → VR φ (cev (ctL cs ct0 val (Lst listed)) x) (a.eval x) := fun x hx => I.rel.ev hx
        have hcop : compOp P KK o = some c0.op := hcop.resolve_left (fun hb => by
          rcases hopr with h | ⟨lo, hi, lo', hi', q, h, _⟩ | ⟨b, b', q, h, _⟩
          · exact hs.bad hwt (h.trans hb)
          · rw [hb] at h; cases h
          · rw [hb] at h; cases h)
        have hc0op : compOp P KK o = some (.p p) := by
          rcases hopr with h | ⟨lo, hi, lo', hi', q, _, h⟩ | ⟨b, b', q, _, h⟩
          · rw [← hop, h]; exact hcop
          · rw [hop] at h; cases h
          · rw [hop] at h; cases h
        obtain ⟨hv, _⟩ := hs.p hwt p hop
        have hv' : cpure p (cev (ctL cs ct0 val (Lst listed))) = some (val i) := by
          rw [cpure_same (ct' := ctf i) (by have := hsame.right; rw [hop] at this; exact this)]; exact hv
        obtain ⟨v', hrun, r⟩ := pure_sound (w := w) hK hc0op hr hv'
        refine wpI_of (compOp_nd hc0op) ?_
        rw [hrun, Oper.uponIn_value]
        exact ih' _ _ _ (pure' v' hi2 r)
theorem stOf_some {o : COper} {a : Operand} (h : stOf o = some a) : ∃ b m x, o = ⟨none, none, .e b (.st m a x)⟩ := by
  unfold stOf at h
  split at h
  · simp only [Option.some.injEq] at h; subst h; exact ⟨_, _, _, rfl⟩
  · cases h
theorem any_wp (hK : eqGood P KK) (hcs : CallSound P E call) (S : Sta P KK ops cs B) (C : Canon E call cs base ct0 H1 ctf K val) (hbase : base = H0.next) (hw0 : WR E φ0 H0 w0) : ∀ (fuel : Nat) (listed : Array Bool) (e : Nat) (φ : Ren) (a : Act) (w : World),
    listed.size = cs.length → (List.range cs.length).countP (fun j => !Lst listed j) = fuel → Inv E cs B base ct0 ctf K val φ0 H0 w0 d (Lst listed) e φ a w →
    wpAnyIn (FR ro) 0 P .any ops (SpecQ E φ0 H0 w0 d .normal (ctf cs.length) (K cs.length)) fuel listed a w := by
  intro fuel
  induction fuel with
  | zero =>
    intro listed e φ a w hsz hcnt I
    have hr : Region.ready .any ops listed = [] := by
      cases hq : Region.ready .any ops listed with
      | nil => rfl
      | cons i r =>
        exfalso
        have hi : i ∈ Region.ready .any ops listed := by rw [hq]; exact List.mem_cons_self
        obtain ⟨h1, o, ho, _⟩ := mem_ready.1 hi
        have hlt : i < cs.length := by rw [← S.size]; exact (Array.getElem?_eq_some_iff.1 ho).1
        have hp : (!Lst listed i) = true := by
          unfold Lst
          simp only [Array.getD_eq_getD_getElem?] at h1 ⊢
          rw [Array.getElem?_eq_getElem (by omega)] at h1 ⊢
          simp at h1 ⊢; exact h1
        have := count_upd (fun j => !Lst listed j) i hp cs.length hlt
        omega
    exact ⟨hr, inv_done S C I hsz hr⟩
  | succ fuel ih =>
    intro listed e φ a w hsz hcnt I
    refine ⟨fun hr => inv_done S C I hsz hr, fun i hi => ?_⟩
    obtain ⟨h1, o, ho, hedges⟩ := mem_ready.1 hi
    have hlt : i < cs.length := by rw [← S.size]; exact (Array.getElem?_eq_some_iff.1 ho).1
    have hL : Lst listed i = false := by
      unfold Lst
      simp only [Array.getD_eq_getD_getElem?] at h1 ⊢
      rw [Array.getElem?_eq_getElem (by omega)] at h1 ⊢
      exact h1
    have hB : ∀ j, (bget B i).testBit j = true → Lst listed j = true := by
      intro j hj
      obtain ⟨ed, hed, hb, hj⟩ := S.bef i o ho j hj
      have hl : Lst listed ed.on = true := hedges ed hed hb
      rcases hj with rfl | hj
      · exact hl
      · exact I.cl _ hl j hj
    have hset := Lst_set (listed := listed) (i := i) (by omega)
    have hcnt' : (List.range cs.length).countP (fun j => !Lst (listed.setIfInBounds i true) j) = fuel := by
      have := count_upd (fun j => !Lst listed j) i (by simp [hL]) cs.length hlt
      have e1 : (fun j => !Lst (listed.setIfInBounds i true) j) = (fun j => if j = i then false else !Lst listed j) := by
        funext j
        rw [hset]
        unfold upd
        by_cases hj : j = i <;> simp [hj]
      rw [e1]; omega
    have hsz' : (listed.setIfInBounds i true).size = cs.length := by simp [hsz]
    have ih' : ∀ e φ a w, Inv E cs B base ct0 ctf K val φ0 H0 w0 d (upd (Lst listed) i) e φ a w → wpAnyIn (FR ro) 0 P .any ops (SpecQ E φ0 H0 w0 d .normal (ctf cs.length) (K cs.length)) fuel (listed.setIfInBounds i true) a w :=
      fun e φ a w I' => ih (listed.setIfInBounds i true) e φ a w hsz' hcnt' (by rw [hset]; exact I')
    obtain ⟨c, c0, hc, hc0, hdst, hgd, hopr⟩ := S.rel i o ho
    have hsame := reads_same S C I.cl hc hL hB
    obtain ⟨hwant, hcop, hdst0⟩ := wanted_eq (P := P) I.rel hc0
    have hwant2 : Region.wanted o (yielded ops a.tmps) = Cl.wanted c.guard (ctf i) := by
      rw [hwant, ← hgd]; exact wanted_same hsame.left
    have hdo : c.dst = o.dst := by rw [hdst, hdst0]
    have hs := C.st i c hc
    have hput := ctL_put S (ct0 := ct0) (val := val) (L := Lst listed) hc
    unfold wpOpIn
    rw [ho]
    simp only
    rw [hwant2]
    have hiE : isEAt cs i = Cl.isE c.op := by simp [isEAt, hc]
    cases hwt : Cl.wanted c.guard (ctf i) with
    | false =>
      rw [if_neg (by simp)]
      refine ⟨fun _ _ => trivial, ?_⟩
      obtain ⟨hv, hKK⟩ := hs.off hwt
      have hrel : RelT φ (ctL cs ct0 val (upd (Lst listed) i)) (a.put o.dst undef).tmps := by
        rw [← hput, ← hdo, hv]; exact I.rel.put c.dst .undef
      cases hE : isEAt cs i with
      | true =>
        obtain rfl : i = e := by
          rcases next_eff S I hlt hE hL hB with h | ⟨hl, _, p, o', _, _, _, ho', _, so, _⟩
          · exact h
          · obtain ⟨_, _, _, rfl⟩ := stOf_some so
            rw [show cs.length - 1 = i by omega, hc] at ho'
            simp only [Option.some.injEq] at ho'
            subst ho'
            cases hwt
        obtain ⟨e', I'⟩ := took_eff (φ' := φ) (w' := w) C hbase hw0 I hlt hB (by rw [hKK]; exact I.wr) (by rw [hKK]; exact .refl _ _ _) hrel ((put_defers _ _ _).trans I.defers)
        exact ih' _ _ _ _ I'
      | false =>
        exact ih' _ _ _ _ (took_pure I hE (fun ob ⟨c', n, hc', hw', _⟩ => by rw [hc] at hc'; simp only [Option.some.injEq] at hc'; subst hc'; rw [hwt] at hw'; cases hw') hB hrel ((put_defers _ _ _).trans I.defers))
    | true =>
      rw [if_pos rfl]
      have hr : ∀ x, okO x = true → VR φ (cev (ctL cs ct0 val (Lst listed)) x) (a.eval x) := fun x hx => I.rel.ev hx
      have hcop : compOp P KK o = some c0.op := hcop.resolve_left (fun hb => by
        rcases hopr with h | ⟨lo, hi, lo', hi', q, h, _⟩ | ⟨b, b', q, h, _⟩
        · exact hs.bad hwt (h.trans hb)
        · rw [hb] at h; cases h
        · rw [hb] at h; cases h)
      cases hop : c.op with
      | p p =>
        have hc0op : compOp P KK o = some (.p p) := by
          rcases hopr with h | ⟨lo, hi, lo', hi', q, _, h⟩ | ⟨b, b', q, _, h⟩
          · rw [← hop, h]; exact hcop
          · rw [hop] at h; cases h
          · rw [hop] at h; cases h
        obtain ⟨hv, hKK⟩ := hs.p hwt p hop
        have hv' : cpure p (cev (ctL cs ct0 val (Lst listed))) = some (val i) := by
          rw [cpure_same (ct' := ctf i) (by have := hsame.right; rw [hop] at this; exact this)]; exact hv
        obtain ⟨v', hrun, r⟩ := pure_sound (w := w) hK hc0op hr hv'
        refine wpI_of (compOp_nd hc0op) ?_
        rw [hrun, Oper.uponIn_value]
        have hE : isEAt cs i = false := by rw [hiE, hop]; rfl
        refine ih' _ _ _ _ (took_pure I hE (fun ob ⟨c', n, hc', hw', hop', _⟩ => by rw [hc] at hc'; simp only [Option.some.injEq] at hc'; subst hc'; rw [hop] at hop'; cases hop') hB ?_ ((put_defers _ _ _).trans I.defers))
        rw [← hput, ← hdo]; exact I.rel.put c.dst r
      | l lo hi l =>
        obtain ⟨lo', hi', hc0op⟩ : ∃ lo' hi', compOp P KK o = some (.l lo' hi' l) := by
          rcases hopr with h | ⟨lo1, hi1, lo', hi', q, h0, h⟩ | ⟨b, b', q, _, h⟩
          · exact ⟨lo, hi, by rw [← hop, h]; exact hcop⟩
          · rw [hop] at h
            injection h with _ _ h
            subst h
            exact ⟨lo', hi', by rw [← h0]; exact hcop⟩
          · rw [hop] at h; cases h
        obtain ⟨hlo, hhi⟩ := rank_le S I hc hop hL hB
        have hv := C.ld i c lo hi l hc hwt hop e I.le I.isE hlo hhi
        have hv' : cload E (K e) l (cev (ctL cs ct0 val (Lst listed))) = some (val i) := by
          rw [cload_same (ct' := ctf i) (by have := hsame.right; rw [hop] at this; exact this)]; exact hv
        obtain ⟨v', hrun, r⟩ := load_sound (P := P) hK I.wr hc0op hr hv'
        refine wpI_of (compOp_nd hc0op) ?_
        rw [hrun, Oper.uponIn_value]
        have hE : isEAt cs i = false := by rw [hiE, hop]; rfl
        refine ih' _ _ _ _ (took_pure I hE (fun ob ⟨c', n, hc', hw', hop', _⟩ => by rw [hc] at hc'; simp only [Option.some.injEq] at hc'; subst hc'; rw [hop] at hop'; cases hop') hB ?_ ((put_defers _ _ _).trans I.defers))
        rw [← hput, ← hdo]; exact I.rel.put c.dst r
      | n n =>
        have hc0op : compOp P KK o = some (.n n) := by
          rcases hopr with h | ⟨lo, hi, lo', hi', q, _, h⟩ | ⟨b, b', q, _, h⟩
          · rw [← hop, h]; exact hcop
          · rw [hop] at h; cases h
          · rw [hop] at h; cases h
        obtain ⟨ob, hv, hKK⟩ := hs.n hwt n hop
        have hv' : cnew (base + i) n (cev (ctL cs ct0 val (Lst listed))) = some (val i, ob) := by
          rw [cnew_same (ct' := ctf i) (by have := hsame.right; rw [hop] at this; exact this)]; exact hv
        obtain ⟨v', w1, hrun, hm⟩ := new_sound (P := P) hc0op hr hv' w
        refine wpI_of (compOp_nd hc0op) ?_
        rw [hrun, Oper.uponIn_value]
        have hE : isEAt cs i = false := by rw [hiE, hop]; rfl
        obtain ⟨φ1, I'⟩ := took_new hbase I hlt hL hE ⟨c, n, hc, hwt, hop, hv⟩ hB hm (dst := c.dst) hput
        rw [hdo] at I'
        exact ih' _ _ _ _ I'
      | bad => exact absurd hop (hs.bad hwt)
      | e b ef =>
        obtain ⟨b', hc0op⟩ : ∃ b', compOp P KK o = some (.e b' ef) := by
          rcases hopr with h | ⟨lo, hi, lo', hi', q, _, h⟩ | ⟨b1, b', q, h, h'⟩
          · exact ⟨b, by rw [← hop, h]; exact hcop⟩
          · rw [hop] at h; cases h
          · rw [hop] at h'
            injection h' with _ h'
            subst h'
            exact ⟨b', by rw [← h]; exact hcop⟩
        have hE : isEAt cs i = true := by rw [hiE, hop]; rfl
        have hv := hs.e hwt b ef hop
        rcases next_eff S I hlt hE hL hB with rfl | ⟨hl1, hl2, p, o', A, A', hp, ho', sp, so, hmk, hoth⟩
        · have hv' : cop E call (.e b' ef) (cev (ctL cs ct0 val (Lst listed))) (K i) = some (.ret (val i), K (i + 1)) := by
            simp only [cop]
            rw [ceff_same (ct' := ctf i) (by have := hsame.right; rw [hop] at this; exact this)]; exact hv
          refine op_wp hK hcs I.wr hc0op hr hv' (fun v v' w1 φ1 hvv hW hX hV => ?_) (fun v v' w1 φ1 hvv => by cases hvv)
          injection hvv with hvv
          subst hvv
          obtain ⟨e', I'⟩ := took_eff (φ' := φ1) (w' := w1) (a' := a.put o.dst v') C hbase hw0 I hlt hB hW hX (by rw [← hput, ← hdo]; exact (I.rel.mono hX.le).put c.dst hV) ((put_defers _ _ _).trans I.defers)
          exact ih' _ _ _ _ I'
        · -- the last store, early
          have hpr := C.pr p o' A A' (by omega) hp ho' hmk sp so
          obtain ⟨b1, m1, x1, rfl⟩ := stOf_some sp
          obtain ⟨b2, m2, x2, rfl⟩ := stOf_some so
          have ei : cs.length - 1 = i := by omega
          have ee : cs.length - 2 = e := by omega
          rw [ei, hc] at ho'
          simp only [Option.some.injEq] at ho'
          subst ho'
          injection hop with _ hop
          subst hop
          rw [ee] at hp
          -- the written order
          have hse := C.st e _ hp
          have hve := hse.e rfl b1 _ rfl
          have ec1 : ctf (e + 1) = ctf e := hse.ct
          have ec2 : ctf (i + 1) = ctf i := hs.ct
          have eie : e + 1 = i := by omega
          have ein : i + 1 = cs.length := hl1
          rw [eie] at hve ec1
          rw [ein] at hv ec2
          rw [ec2, ec1] at hpr
          have hve' : eSt (K e) m1 (cev (ctf e) A) (cev (ctf e) x1) = some (.ret (val e), K i) := hve
          have hv2 : eSt (K i) m2 (cev (ctf e) A') (cev (ctf e) x2) = some (.ret (val i), K cs.length) := by rw [← ec1]; exact hv
          obtain ⟨Kj, hj1, hj2⟩ := st_comm hpr hve' hv2
          have hv' : cop E call (.e b' (.st m2 A' x2)) (cev (ctL cs ct0 val (Lst listed))) (K e) = some (.ret (val i), Kj) := by
            simp only [cop]
            rw [ceff_same (ct' := ctf i) hsame.right, ec1]; exact hj1
          refine op_wp hK hcs I.wr hc0op hr hv' (fun v v' w1 φ1 hvv hW hX hV => ?_) (fun v v' w1 φ1 hvv => by cases hvv)
          injection hvv with hvv
          subst hvv
          have hLe : Lst listed e = false := I.ge e (Nat.le_refl _) (by simp [isEAt, hp]; rfl)
          refine any_wp2 hK hcs S C hw0 (by omega) (Kj := Kj) (m := m1) (A := A) (X := x1) (bb := b1) (by rw [ee]; exact hp) (by rw [ee]; exact hj2) fuel (listed.setIfInBounds i true) φ1 _ w1 hsz' hcnt' ?_
          rw [hset]
          have hue : upd (Lst listed) i (cs.length - 2) = false := by rw [ee, upd_ne (by omega)]; exact hLe
          refine ⟨by rw [ei]; exact upd_true, fun k c hk hck => (hoth k c hk hck).imp id fun hk' => ?_, upd_cl I.cl hB, by rw [hue, if_neg (by simp)]; exact hW, by rw [hue, if_neg (by simp)]; exact I.ext.trans hw0 hX, ?_, (put_defers _ _ _).trans I.defers⟩
          · rw [upd_ne (by omega)]
            rw [ei] at hk'
            exact hB k hk'.1
          · rw [← hput, ← hdo]; exact (I.rel.mono hX.le).put none hV

/-! ### from the checks -/
theorem compOps_get : ∀ {l : List Oper} {r : List COper}, compOps P KK ops l = some r → r.length = l.length ∧ ∀ (i : Nat) (o : Oper), l[i]? = some o → ∃ c : COper, r[i]? = some c ∧ compOper P KK ops o = some c := by
  intro l
  induction l with
  | nil => intro r h; simp [compOps] at h; subst h; simp
  | cons x l ih =>
    intro r h
    simp only [compOps] at h
    cases h1 : compOper P KK ops x with
    | none => rw [h1] at h; cases h
    | some c =>
      rw [h1] at h
      cases h2 : compOps P KK ops l with
      | none => rw [h2] at h; cases h
      | some r' =>
        rw [h2] at h
        simp only [Option.some.injEq] at h
        subst h
        obtain ⟨hl, hg⟩ := ih h2
        refine ⟨by simp [hl], fun i o ho => ?_⟩
        cases i with
        | zero => simp at ho; subst ho; exact ⟨c, rfl, h1⟩
        | succ i => simp only [List.getElem?_cons_succ] at ho ⊢; exact hg i o ho
theorem relab_get (cs : List COper) (B : List Nat) : ∀ (l : List COper) (k : Nat), (relab cs B k l).length = l.length ∧ ∀ (i : Nat) (c : COper), l[i]? = some c → ∃ c' : COper, (relab cs B k l)[i]? = some c' ∧ c'.dst = c.dst ∧ c'.guard = c.guard ∧
    (c'.op = c.op ∨ ∃ lo hi lo' hi' q, c.op = .l lo' hi' q ∧ c'.op = .l lo hi q) := by
  intro l
  induction l with
  | nil => intro k; exact ⟨rfl, fun i c h => by simp at h⟩
  | cons x l ih =>
    intro k
    obtain ⟨hl, hg⟩ := ih (k + 1)
    refine ⟨by simp [relab, hl], fun i c hc => ?_⟩
    cases i with
    | zero =>
      simp at hc; subst hc
      simp only [relab, List.getElem?_cons_zero, Option.some.injEq, exists_eq_left']
      split
      · rename_i lo hi q hop; exact ⟨rfl, rfl, .inr ⟨_, _, lo, hi, q, hop, rfl⟩⟩
      · exact ⟨rfl, rfl, .inl rfl⟩
    | succ i =>
      simp only [List.getElem?_cons_succ] at hc
      simp only [relab, List.getElem?_cons_succ]
      exact hg i c hc
theorem befO_bit {B : List Nat} {o : Oper} {x : Nat} (h : (befO B o).testBit x = true) : ∃ e ∈ o.after, Region.binds .any e = true ∧ (x = e.on ∨ (bget B e.on).testBit x = true) := by
  unfold befO at h
  have key : ∀ (l : List Edge) (s : Nat), (l.foldl (fun s e => bif Region.binds .any e then s ||| (2 ^ e.on ||| bget B e.on) else s) s).testBit x = true →
      s.testBit x = true ∨ ∃ e ∈ l, Region.binds .any e = true ∧ (x = e.on ∨ (bget B e.on).testBit x = true) := by
    intro l
    induction l with
    | nil => intro s h; exact .inl h
    | cons e l ih =>
      intro s h
      rw [List.foldl_cons] at h
      rcases ih _ h with h | ⟨e', he', h'⟩
      · cases hb : Region.binds .any e with
        | false => rw [hb] at h; exact .inl h
        | true =>
          rw [hb] at h
          simp only [cond_true, Nat.testBit_or, Bool.or_eq_true] at h
          rcases h with h | h | h
          · exact .inl h
          · rw [Nat.testBit_two_pow] at h
            simp only [decide_eq_true_eq] at h
            exact .inr ⟨e, List.mem_cons_self, hb, .inl h.symm⟩
          · exact .inr ⟨e, List.mem_cons_self, hb, .inr h⟩
      · exact .inr ⟨e', List.mem_cons_of_mem _ he', h'⟩
  rcases key _ 0 h with h | ⟨e, he, h⟩
  · simp at h
  · exact ⟨e, by simpa using he, h⟩
theorem unmark_op (c : COper) : (unmark c).dst = c.dst ∧ (unmark c).guard = c.guard ∧ ((unmark c).op = c.op ∨ ∃ b b' q, c.op = .e b' q ∧ (unmark c).op = .e b q) := by
  unfold unmark
  split
  · rename_i b q h; exact ⟨rfl, rfl, .inr ⟨_, _, _, h, rfl⟩⟩
  · exact ⟨rfl, rfl, .inl rfl⟩
theorem markLast_get : ∀ (l : List COper), (markLast l).length = l.length ∧ ∀ (i : Nat) (c : COper), l[i]? = some c → ∃ c' : COper, (markLast l)[i]? = some c' ∧ c'.dst = c.dst ∧ c'.guard = c.guard ∧ (c'.op = c.op ∨ ∃ b b' q, c.op = .e b' q ∧ c'.op = .e b q)
  | [] => ⟨rfl, fun i c h => by simp at h⟩
  | [x] => ⟨rfl, fun i c h => by
    cases i with
    | zero =>
      simp only [List.getElem?_cons_zero, Option.some.injEq] at h
      subst h
      exact ⟨_, rfl, unmark_op x⟩
    | succ i => simp at h⟩
  | x :: y :: r => by
    obtain ⟨h1, h2⟩ := markLast_get (y :: r)
    refine ⟨by simp only [markLast, List.length_cons] at h1 ⊢; omega, fun i c h => ?_⟩
    cases i with
    | zero =>
      simp only [List.getElem?_cons_zero, Option.some.injEq] at h
      subst h
      exact ⟨_, rfl, rfl, rfl, .inl rfl⟩
    | succ i =>
      simp only [List.getElem?_cons_succ] at h
      obtain ⟨c', h3, h4⟩ := h2 i c h
      exact ⟨c', by simp only [markLast, List.getElem?_cons_succ]; exact h3, h4⟩
/-- What either form of the checks shows. -/
theorem sta_mk {cs0 : List COper} {B : List Nat} (h0 : compOps P KK ops ops.toList = some cs0) (hl1 : cs.length = cs0.length)
    (hg1 : ∀ (i : Nat) (c : COper), cs0[i]? = some c → ∃ c' : COper, cs[i]? = some c' ∧ c'.dst = c.dst ∧ c'.guard = c.guard ∧ (c'.op = c.op ∨ (∃ lo hi lo' hi' q, c.op = .l lo' hi' q ∧ c'.op = .l lo hi q) ∨ ∃ b b' q, c.op = .e b' q ∧ c'.op = .e b q))
    (hE : chkEdges ops.toList B = true) (hR : chkReads cs B = true) (hLL : chkL cs B = true)
    (hEE : ∀ i j, i < cs.length → j < i → isEAt cs i = true → isEAt cs j = true → (bget B i).testBit j = true ∨ (i + 1 = cs.length ∧ j + 2 = cs.length ∧ Pr cs B)) : Sta P KK ops cs B := by
  obtain ⟨hl0, hg0⟩ := compOps_get h0
  unfold chkEdges at hE
  unfold chkReads at hR
  unfold chkL at hLL
  rw [allB_iff] at hE hR hLL
  have hsz : ops.size = cs.length := by rw [hl1, hl0]; simp
  refine ⟨hsz, fun i o ho => ?_, fun i o ho e he hb => ?_, fun i o ho x hx => ?_, ?_, ?_, fun i j hi hj h1 h2 => ?_, fun i c lo hi l hci hop => ?_⟩
  · rw [← Array.getElem?_toList] at ho
    obtain ⟨c0, h1, h2⟩ := hg0 i o ho
    obtain ⟨c, h3, h4, h5, h6⟩ := hg1 i c0 h1
    exact ⟨c, c0, h3, h2, h4, h5, h6⟩
  · have hi := (Array.getElem?_eq_some_iff.1 ho).1
    have := hE i (by simpa using hi)
    rw [Array.getElem?_toList, ho] at this
    simp only [Bool.and_eq_true, List.all_eq_true, Bool.or_eq_true, Bool.not_eq_true'] at this
    have h2 := (this.2 e (by simpa using he)).resolve_left (by rw [hb]; simp)
    unfold Nat.blt at h2
    rw [Nat.ble_eq] at h2; exact h2
  · have hi := (Array.getElem?_eq_some_iff.1 ho).1
    have := hE i (by simpa using hi)
    rw [Array.getElem?_toList, ho] at this
    simp only [Bool.and_eq_true, Nat.beq_eq] at this
    rw [this.1] at hx
    exact befO_bit hx
  · intro i j c c' t hi hj h1 h2
    by_cases hij : i = j
    · exact hij
    · exfalso
      have := hR i (List.getElem?_eq_some_iff.1 hi).1
      rw [hi] at this
      simp only [allB_iff] at this
      have := this j (List.getElem?_eq_some_iff.1 hj).1
      rw [hj] at this
      have hb : Nat.beq i j = false := by rw [← Bool.not_eq_true, Nat.beq_eq]; exact hij
      simp only [hb, cond_false, h1, Bool.and_eq_true, Bool.not_eq_true'] at this
      rw [dstIs_iff.2 h2] at this
      cases this.1
  · intro i j c c' t hi hj hij h2 hrd
    have := hR i (List.getElem?_eq_some_iff.1 hi).1
    rw [hi] at this
    simp only [allB_iff] at this
    have := this j (List.getElem?_eq_some_iff.1 hj).1
    rw [hj] at this
    have hb : Nat.beq i j = false := by rw [← Bool.not_eq_true, Nat.beq_eq]; exact hij
    simp only [hb, cond_false, h2, Bool.and_eq_true, Bool.or_eq_true, Bool.not_eq_true'] at this
    have h3 := this.2.resolve_left (by
      intro h
      have : (reads c).any (Nat.beq t) = true := List.any_eq_true.2 ⟨t, hrd, by simp⟩
      rw [h] at this; cases this)
    by_cases hji : j < i
    · rw [if_pos hji]
      have : Nat.blt j i = true := by unfold Nat.blt; rw [Nat.ble_eq]; exact hji
      rw [this] at h3; exact h3
    · rw [if_neg hji]
      have : Nat.blt j i = false := by
        rw [← Bool.not_eq_true]; unfold Nat.blt; rw [Nat.ble_eq]; exact hji
      rw [this] at h3; exact h3
  · exact hEE i j hi hj h1 h2
  · have := hLL i (List.getElem?_eq_some_iff.1 hci).1
    rw [hci] at this
    obtain ⟨dd, gg, oo⟩ := c
    simp only at hop
    subst hop
    exact this
theorem sta_of (hc : compDrawn P KK ops = some cs) : ∃ B, Sta P KK ops cs B := by
  unfold compDrawn at hc
  cases h0 : compOps P KK ops ops.toList with
  | none => rw [h0] at hc; cases hc
  | some cs0 =>
    rw [h0] at hc
    simp only at hc
    obtain ⟨hl1, hg1⟩ := relab_get cs0 (befs ops.toList []) cs0 0
    generalize hB : befs ops.toList [] = B at *
    generalize hr : relab cs0 B 0 cs0 = cs1 at *
    cases hok : drawnOk ops.toList cs1 B with
    | true =>
      rw [hok] at hc
      simp only [cond_true, Option.some.injEq] at hc
      subst hc
      unfold drawnOk at hok
      simp only [Bool.and_eq_true] at hok
      obtain ⟨⟨⟨⟨_, hE⟩, hR⟩, hEE⟩, hLL⟩ := hok
      unfold chkE at hEE
      rw [allB_iff] at hEE
      refine ⟨B, sta_mk h0 hl1 (fun i c h => ?_) hE hR hLL fun i j hi hj h1 h2 => .inl ?_⟩
      · obtain ⟨c', g1, g2, g3, g4⟩ := hg1 i c h
        exact ⟨c', g1, g2, g3, g4.imp id .inl⟩
      · have := hEE i hi
        rw [allB_iff] at this
        have := this j hj
        rw [h1, h2] at this
        simpa using this
    | false =>
      rw [hok] at hc
      simp only [cond_false] at hc
      obtain ⟨hok2, hc⟩ := cond_some hc
      simp only [Option.some.injEq] at hc
      obtain ⟨hl2, hg2⟩ := markLast_get cs1
      rw [hc] at hok2 hl2 hg2
      unfold drawnOk2 at hok2
      simp only [Bool.and_eq_true] at hok2
      obtain ⟨⟨⟨⟨_, hE⟩, hR⟩, hEE, hP⟩, hLL⟩ := hok2
      have hpr : Pr cs B := by
        unfold chkPair at hP
        simp only [Bool.and_eq_true] at hP
        obtain ⟨⟨_, hP1⟩, hP2⟩ := hP
        cases hp : cs[cs.length - 2]? with
        | none => rw [hp] at hP1; cases hP1
        | some p =>
          cases ho : cs[cs.length - 1]? with
          | none => rw [hp, ho] at hP1; cases hP1
          | some o =>
            rw [hp, ho] at hP1
            simp only [Bool.and_eq_true] at hP1
            obtain ⟨s1, s2, s3⟩ := hP1
            obtain ⟨x, hx⟩ := Option.isSome_iff_exists.1 s1
            obtain ⟨y, hy⟩ := Option.isSome_iff_exists.1 s2
            refine ⟨p, o, x, y, hp, ho, hx, hy, s3, fun k c hk hck => ?_⟩
            rw [allB_iff] at hP2
            have := hP2 k (by omega)
            rw [hck] at this
            simpa only [Bool.or_eq_true, Bool.and_eq_true] using this
      unfold chkE2 at hEE
      rw [allB_iff] at hEE
      refine ⟨B, sta_mk h0 (hl2.trans hl1) (fun i c h => ?_) hE hR hLL fun i j hi hj h1 h2 => ?_⟩
      · obtain ⟨c', g1, g2, g3, g4⟩ := hg1 i c h
        obtain ⟨c2, k1, k2, k3, k4⟩ := hg2 i c' g1
        refine ⟨c2, k1, k2.trans g2, k3.trans g3, ?_⟩
        rcases k4 with k4 | ⟨b, b', q, k4, k5⟩
        · rw [k4]; exact g4.imp id .inl
        · rcases g4 with g4 | ⟨lo, hi, lo', hi', q', _, g5⟩
          · exact .inr (.inr ⟨b, b', q, by rw [← g4]; exact k4, k5⟩)
          · rw [g5] at k4; cases k4
      · have := hEE i hi
        rw [allB_iff] at this
        have := this j hj
        rw [h1, h2] at this
        simp only [Bool.and_self, Bool.not_true, Bool.false_or, Bool.or_eq_true, Bool.and_eq_true, Nat.beq_eq] at this
        exact this.imp id fun h => ⟨h.1, h.2, hpr⟩
theorem pairOk_of {cs : List COper} {ρ : Operand → Value} (h : pairOk cs ρ = true) {p o : COper} {a b : Operand} (h2 : 2 ≤ cs.length) (hp : cs[cs.length - 2]? = some p) (ho : cs[cs.length - 1]? = some o) (hmk : markOf o = true)
    (sp : stOf p = some a) (so : stOf o = some b) : ptrNe (ρ a) (ρ b) = true := by
  have r0 : cs.reverse[0]? = some o := by rw [List.getElem?_reverse (by omega)]; simpa using ho
  have r1 : cs.reverse[1]? = some p := by rw [List.getElem?_reverse (by omega)]; rw [← hp]; congr 1
  unfold pairOk at h
  match hr : cs.reverse, h with
  | [], _ => rw [hr] at r0; cases r0
  | [x], _ => rw [hr] at r1; cases r1
  | x :: y :: r, h =>
    rw [hr] at r0 r1
    simp only [List.getElem?_cons_zero, List.getElem?_cons_succ, Option.some.injEq] at r0 r1
    subst r0 r1
    simp only [hmk, cond_true, sp, so, pairNe] at h
    exact h
theorem canon_of {ct ct' : List Value} (h : rdrawn E call cs ct H = some (ct', H')) : ∃ ctf K val, Canon E call cs H.next ct ⟨H.next + cs.length, H.objs⟩ ctf K val ∧ ctf cs.length = ct' ∧ K cs.length = H' := by
  unfold rdrawn at h
  cases hd : cdrawn E call H.next cs 0 ct ⟨H.next + cs.length, H.objs⟩ [] [] with
  | none => rw [hd] at h; cases h
  | some r =>
    obtain ⟨ct1, h1, gs, ls⟩ := r
    rw [hd] at h
    simp only at h
    obtain ⟨hall, h⟩ := cond_some h
    rw [Bool.and_eq_true] at hall
    obtain ⟨hall, hpair⟩ := hall
    simp only [Option.some.injEq, Prod.mk.injEq] at h
    obtain ⟨rfl, rfl⟩ := h
    obtain ⟨ctf, K, val, e1, e2, e3, e4, hst, ⟨m, hm, hmk⟩, _, hld⟩ := cdrawn_trace (cs := cs) cs 0 _ _ _ _ _ _ _ _ (by simp) (Nat.zero_le _) hd
    refine ⟨ctf, K, val, ⟨e1, e2, fun i c hc => hst i c (Nat.zero_le _) hc, fun i c lo hi l hc hw hop e he hq hlo hhi => ?_, fun p o a b h2 hp ho hmk sp so => by rw [e3]; exact pairOk_of hpair h2 hp ho hmk sp so⟩, e3, e4⟩
    have hmem := hld i c lo hi l (Nat.zero_le _) hc hw hop
    have hchk := List.all_eq_true.1 hall _ hmem
    simp only [List.reverse_nil, List.nil_append] at hm
    rw [hm] at hchk
    unfold lchk at hchk
    rw [List.all_eq_true] at hchk
    have hg := hmk e (Nat.zero_le _) he hq
    have hr0 : rank cs 0 = 0 := rfl
    rw [hr0, Nat.sub_zero] at hg
    have hin : K e ∈ (m.drop lo).take (hi - lo + 1) := by
      rw [List.mem_iff_getElem?]
      refine ⟨rank cs e - lo, ?_⟩
      rw [List.getElem?_take, if_pos (by omega), List.getElem?_drop, ← hg]
      congr 1; omega
    have := hchk _ hin
    simp only at this
    cases hcl : cload E (K e) l (cev (ctf i)) with
    | none => rw [hcl] at this; cases this
    | some v => rw [hcl] at this; rw [veqb_eq this]
theorem drawn_wp (hK : eqGood P KK) (hcs : CallSound P E call) (hmix : P.follows .mixedOrders = true) (hc : compDrawn P KK ops = some cs) {ct ct' : List Value} {a : Act} (ht : RelT φ ct a.tmps) (hw : WR E φ H w) (h : rdrawn E call cs ct H = some (ct', H')) (id : Nat) :
    (Code.region id ops true).wpIn (FR ro) 0 P (SpecQ E φ H w a.defers .normal ct' H') a w := by
  obtain ⟨B, S⟩ := sta_of hc
  obtain ⟨ctf, K, val, C, rfl, rfl⟩ := canon_of h
  refine wpIn_region_any hmix ?_
  have hw1 : WR E φ ⟨H.next + cs.length, H.objs⟩ { w with drawn := w.drawn + 1 } := by
    have h1 := hw.heap (w' := { w with drawn := w.drawn + 1 }) rfl
    exact ⟨fun id t b o lo hi hx => let ⟨g1, g2, g3⟩ := h1.obj _ _ _ _ _ _ hx; ⟨g1, Nat.lt_of_lt_of_le g2 (Nat.le_add_right _ _), g3⟩, h1.align, fun b id hx => let ⟨g1, g2⟩ := h1.ownlt b id hx; ⟨g1, Nat.lt_of_lt_of_le g2 (Nat.le_add_right _ _)⟩,
      fun id hx => h1.absent id (Nat.le_trans (Nat.le_add_right _ _) hx), h1.len, h1.frame, h1.toks, h1.glob⟩
  have hX : Ext φ H w φ ⟨H.next + cs.length, H.objs⟩ { w with drawn := w.drawn + 1 } :=
    ⟨Ren.le_refl φ, fun _ _ _ h => .inl h, fun _ _ => rfl, Nat.le_refl _, fun _ _ _ => rfl, rfl, rfl, rfl, Nat.le_add_right _ _, fun _ _ _ => rfl, fun _ _ h => h⟩
  have hfalse : ∀ j, Lst (Array.replicate ops.size false) j = false := by
    intro j
    unfold Lst
    simp only [Array.getD_eq_getD_getElem?, Array.getElem?_replicate]
    split <;> rfl
  have hct : ct = ctL cs ct val (Lst (Array.replicate ops.size false)) := by
    have := ctf_eq S C 0 (Nat.zero_le _)
    rw [C.ct0] at this
    rw [this]
    have h2 := ctL_congr (cs := cs) (ct0 := ct) (val := val) (L := fun j => decide (j < 0)) (L' := Lst (Array.replicate ops.size false)) (fun j _ => by rw [hfalse]; simp)
    rw [← this, ← h2]; exact this
  obtain ⟨e, I⟩ := advance (B := B) (φ := φ) (w := { w with drawn := w.drawn + 1 }) (φ0 := φ) (H0 := H) (w0 := w) (d := a.defers) (L := Lst (Array.replicate ops.size false)) (a := a) C rfl (fun i hi => by rw [hfalse] at hi; cases hi) (by rw [← hct]; exact ht) rfl
    (fun i _ _ t => hw.at_lt (Nat.le_add_right _ _) t) _ 0 rfl (Nat.zero_le _) (fun k hk => by omega) (fun k _ _ => hfalse k) (by rw [C.K0]; exact hw1) (by rw [C.K0]; exact hX) (by rw [C.K0]; exact Nat.le_refl _)
    (fun i ob hi => by omega) (fun i _ _ => by rw [C.K0]; exact hw.absent _ (Nat.le_add_right _ _)) (fun i ob _ hi => by rw [hfalse] at hi; cases hi)
  refine any_wp hK hcs S C rfl hw ops.size _ e φ a _ (by simp [S.size]) ?_ I
  have : (List.range cs.length).countP (fun j => !Lst (Array.replicate ops.size false) j) = (List.range cs.length).length := by
    rw [List.countP_eq_length]
    intro j _
    simp [hfalse j]
  rw [this, S.size]; simp
end Go.Cl

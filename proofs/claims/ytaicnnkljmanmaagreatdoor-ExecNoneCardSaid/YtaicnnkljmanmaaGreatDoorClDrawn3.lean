/- A region that draws its order: whatever is taken next. -/
import Derived.Test.YtaicnnkljmanmaaGreatDoorClDrawn2
namespace Go.Cl
open Go
variable {P : Program} {E : Env} {φ φ' : Ren} {H H' : CH} {w w' : World}
variable {KK : List TypeId} {ops : Array Oper} {cs : List COper} {B : List Nat} {call : CallF} {base : Nat} {ct0 : List Value} {H1 : CH} {ctf : Nat → List Value} {K : Nat → CH} {val : Nat → Value} {φ0 : Ren} {H0 : CH} {w0 : World} {d : List Deferred}

theorem upd_true {L : Nat → Bool} {i : Nat} : upd L i i = true := by simp [upd]
theorem upd_ne {L : Nat → Bool} {i j : Nat} (h : j ≠ i) : upd L i j = L j := by simp [upd, h]
theorem upd_cl {L : Nat → Bool} {i : Nat} (hcl : ∀ i, L i = true → ∀ j, (bget B i).testBit j = true → L j = true) (hB : ∀ j, (bget B i).testBit j = true → L j = true) :
    ∀ k, upd L i k = true → ∀ j, (bget B k).testBit j = true → upd L i j = true := by
  intro k hk j hj
  by_cases hji : j = i
  · subst hji; exact upd_true
  · rw [upd_ne hji]
    by_cases hki : k = i
    · subst hki; exact hB j hj
    · rw [upd_ne hki] at hk; exact hcl k hk j hj
/-- The operation with an effect that is next. -/
theorem next_eff (S : Sta P KK ops cs B) {L : Nat → Bool} {e : Nat} {a : Act} (I : Inv E cs B base ct0 ctf K val φ0 H0 w0 d L e φ a w) {i : Nat} (hi : i < cs.length) (hE : isEAt cs i = true) (hL : L i = false)
    (hB : ∀ j, (bget B i).testBit j = true → L j = true) : i = e ∨ (i + 1 = cs.length ∧ e + 2 = cs.length ∧ Pr cs B) := by
  rcases Nat.lt_trichotomy i e with h | h | h
  · have := I.lt i h hE; rw [hL] at this; cases this
  · exact .inl h
  · rcases I.isE with he | he
    · rcases S.ee i e hi h hE he with h1 | h1
      · have h2 := hB e h1
        rw [I.ge e (Nat.le_refl _) he] at h2; cases h2
      · exact .inr h1
    · omega
theorem took_eff (C : Canon E call cs base ct0 H1 ctf K val) (hbase : base = H0.next) (hw0 : WR E φ0 H0 w0) {L : Nat → Bool} {e : Nat} {a a' : Act} (I : Inv E cs B base ct0 ctf K val φ0 H0 w0 d L e φ a w) (he : e < cs.length)
    (hB : ∀ j, (bget B e).testBit j = true → L j = true) (hW : WR E φ' (K (e + 1)) w') (hX : Ext φ (K e) w φ' (K (e + 1)) w') (hrel : RelT φ' (ctL cs ct0 val (upd L e)) a'.tmps) (hd : a'.defers = d) :
    ∃ e', Inv E cs B base ct0 ctf K val φ0 H0 w0 d (upd L e) e' φ' a' w' := by
  have hnew : ∀ i, i < cs.length → ∀ t x, φ'.at_ (base + i) t = some x → φ.at_ (base + i) t = some x ∨ ((K e).get (base + i) ≠ none ∧ ∃ t' x', φ.at_ (base + i) t' = some x') := by
    intro i hi t x h
    rcases hX.new _ _ _ h with h | h | h
    · exact .inl h
    · exact .inr h
    · have := I.nx; omega
  refine advance C hbase (upd_cl I.cl hB) hrel hd ?_ (cs.length - (e + 1)) (e + 1) rfl he ?_ ?_ hW (I.ext.trans hw0 hX) (Nat.le_trans I.nx hX.next) ?_ ?_ ?_
  · intro i hi hL t
    have hie : i ≠ e := fun h => by rw [h, upd_true] at hL; cases hL
    rw [upd_ne hie] at hL
    cases hx : φ'.at_ (base + i) t with
    | none => rfl
    | some x =>
      rcases hnew i hi t x hx with h | ⟨_, t', x', h⟩
      · rw [I.late i hi hL] at h; cases h
      · rw [I.late i hi hL] at h; cases h
  · intro k hk hE
    by_cases hke : k = e
    · rw [hke]; exact upd_true
    · rw [upd_ne hke]; exact I.lt k (by omega) hE
  · intro k hk hE
    rw [upd_ne (by omega)]; exact I.ge k (by omega) hE
  · intro i ob hi hL ho
    have hie : i ≠ e := fun h => by rw [h, upd_true] at hL; cases hL
    rw [upd_ne hie] at hL
    have hi' : i < cs.length := by omega
    rw [hX.unmod _ (by have := I.nx; omega) (I.late i hi' hL)]
    exact I.lateob i ob (by omega) hL ho
  · intro i hi hi'
    exact hX.gone _ (by have := I.nx; omega) (I.fut i (by omega) hi')
  · intro i ob hi hL ho
    have hi' : i < cs.length := by obtain ⟨c, n, hc, _⟩ := ho; exact (List.getElem?_eq_some_iff.1 hc).1
    rw [upd_ne (by omega)] at hL
    obtain ⟨b, hi2, g1, g2, g3, g4⟩ := I.early i ob (by omega) hL ho
    have hb := (I.wr.ownlt b _ g3).1
    have hfut := I.fut i (by omega) hi'
    refine ⟨b, hi2, hX.le.1 _ _ _ g1, fun t ht => ?_, by rw [hX.own b hb]; exact g3, g4.mono hX.le (hX.own b hb) (hX.keep b hb fun id hid => ?_)⟩
    · cases hx : φ'.at_ (base + i) t with
      | none => rfl
      | some x =>
        rcases hnew i hi' t x hx with h | ⟨h, _⟩
        · rw [g2 t ht] at h; cases h
        · exact absurd hfut h
    · rw [g3] at hid
      simp only [Option.some.injEq] at hid
      rw [← hid]; exact hfut
/-- An operation that changes nothing has been taken. -/
theorem took_pure {L : Nat → Bool} {e : Nat} {a a' : Act} (I : Inv E cs B base ct0 ctf K val φ0 H0 w0 d L e φ a w) {i : Nat} (hE : isEAt cs i = false) (hno : ∀ ob, ¬ obOf cs base ctf val i ob)
    (hB : ∀ j, (bget B i).testBit j = true → L j = true) (hrel : RelT φ (ctL cs ct0 val (upd L i)) a'.tmps) (hd : a'.defers = d) : Inv E cs B base ct0 ctf K val φ0 H0 w0 d (upd L i) e φ a' w := by
  refine ⟨I.le, I.isE, fun j hj he => ?_, fun j hj he => ?_, upd_cl I.cl hB, I.wr, I.ext, I.nx, hrel, fun j hj hL => ?_, fun j ob hj hL ho => ?_, I.fut, fun j ob hj hL ho => ?_, hd⟩
  · by_cases hji : j = i
    · rw [hji]; exact upd_true
    · rw [upd_ne hji]; exact I.lt j hj he
  · by_cases hji : j = i
    · rw [hji, hE] at he; cases he
    · rw [upd_ne hji]; exact I.ge j hj he
  · by_cases hji : j = i
    · rw [hji, upd_true] at hL; cases hL
    · rw [upd_ne hji] at hL; exact I.late j hj hL
  · by_cases hji : j = i
    · rw [hji, upd_true] at hL; cases hL
    · rw [upd_ne hji] at hL; exact I.lateob j ob hj hL ho
  · by_cases hji : j = i
    · rw [hji] at ho; exact absurd ho (hno ob)
    · rw [upd_ne hji] at hL; exact I.early j ob hj hL ho
theorem obOf_unique {i : Nat} {ob ob' : CObj} (h : obOf cs base ctf val i ob) (h' : obOf cs base ctf val i ob') : ob' = ob := by
  obtain ⟨c1, n1, a1, a2, a3, a4⟩ := h
  obtain ⟨c2, n2, b1, b2, b3, b4⟩ := h'
  rw [a1] at b1
  simp only [Option.some.injEq] at b1
  subst b1
  rw [a3] at b3
  injection b3 with b3
  subst b3
  rw [a4] at b4
  simp only [Option.some.injEq, Prod.mk.injEq] at b4
  exact b4.2.symm
/-- An operation that makes a block has been taken. -/
theorem took_new (hbase : base = H0.next) {L : Nat → Bool} {e : Nat} {a : Act} (I : Inv E cs B base ct0 ctf K val φ0 H0 w0 d L e φ a w) {i : Nat} (hi : i < cs.length) (hL : L i = false) (hE : isEAt cs i = false) {ob : CObj} (hob : obOf cs base ctf val i ob)
    (hB : ∀ j, (bget B i).testBit j = true → L j = true) {v' : Value} (hm : Made E φ w w' (base + i) (val i) v' ob) {dst : Option Nat} (hput : cput dst (val i) (ctL cs ct0 val L) = ctL cs ct0 val (upd L i)) :
    ∃ φ', Inv E cs B base ct0 ctf K val φ0 H0 w0 d (upd L i) e φ' (a.put dst v') w' := by
  obtain ⟨obj, hi2, Ln, hgr, hLn, hmk⟩ := hm.made
  have hn := I.late i hi hL
  obtain ⟨hv, ho⟩ := hmk (φ.ext (base + i) 0 w.heap.size 0 0 hi2 Ln) (Ren.ext_le (hn 0)) Ren.ext_at Ren.ext_len
  have ho := ho Ren.ext_own
  have hle := Ren.ext_le (φ := φ) (id := base + i) (t := 0) (b := w.heap.size) (o := 0) (lo := 0) (hi := hi2) (L := Ln) (hn 0)
  have hother : ∀ j, j ≠ i → ∀ t, (φ.ext (base + i) 0 w.heap.size 0 0 hi2 Ln).at_ (base + j) t = φ.at_ (base + j) t := by
    intro j hj t
    simp only [Ren.ext]
    rw [if_neg (by omega)]
  refine ⟨φ.ext (base + i) 0 w.heap.size 0 0 hi2 Ln, ⟨I.le, I.isE, fun j hj he => ?_, fun j hj he => ?_, upd_cl I.cl hB, ?_, I.ext.grow hn hgr (by omega), I.nx, ?_, fun j hj hLj t => ?_, fun j ob' hj hLj ho' => ?_, I.fut, fun j ob' hj hLj ho' => ?_, (put_defers _ _ _).trans I.defers⟩⟩
  · by_cases hji : j = i
    · rw [hji]; exact upd_true
    · rw [upd_ne hji]; exact I.lt j hj he
  · by_cases hji : j = i
    · rw [hji, hE] at he; cases he
    · rw [upd_ne hji]; exact I.ge j hj he
  · refine I.wr.extend hn (by have := I.nx; omega) hgr hLn fun ob' hg => ?_
    rcases Nat.lt_or_ge i e with hie | hie
    · rw [I.lateob i ob hie hL hob] at hg
      simp only [Option.some.injEq] at hg
      subst hg; exact ho
    · rw [I.fut i hie hi] at hg; cases hg
  · rw [← hput]
    exact (I.rel.mono hle).put dst hv
  · by_cases hji : j = i
    · rw [hji, upd_true] at hLj; cases hLj
    · rw [upd_ne hji] at hLj; rw [hother j hji]; exact I.late j hj hLj t
  · by_cases hji : j = i
    · rw [hji, upd_true] at hLj; cases hLj
    · rw [upd_ne hji] at hLj; exact I.lateob j ob' hj hLj ho'
  · by_cases hji : j = i
    · subst hji
      rw [obOf_unique hob ho']
      refine ⟨w.heap.size, hi2, Ren.ext_at, fun t ht => ?_, Ren.ext_own, ho⟩
      simp only [Ren.ext]
      rw [if_neg (by omega)]; exact hn t
    · rw [upd_ne hji] at hLj
      obtain ⟨b, hi3, g1, g2, g3, g4⟩ := I.early j ob' hj hLj ho'
      have hb := (I.wr.ownlt b _ g3).1
      have hown : (φ.ext (base + i) 0 w.heap.size 0 0 hi2 Ln).own b = φ.own b := by simp only [Ren.ext]; rw [if_neg (by omega)]
      exact ⟨b, hi3, by rw [hother j hji]; exact g1, fun t ht => by rw [hother j hji]; exact g2 t ht, by rw [hown]; exact g3, g4.mono hle hown (hgr.old hb)⟩

/-! ### the count -/
theorem count_upd (p : Nat → Bool) (i : Nat) (hp : p i = true) : ∀ n, i < n → (List.range n).countP p = (List.range n).countP (fun j => if j = i then false else p j) + 1 := by
  intro n
  induction n with
  | zero => intro h; omega
  | succ n ih =>
    intro h
    rw [List.range_succ, List.countP_append, List.countP_append]
    by_cases hin : i = n
    · subst hin
      have : (List.range i).countP (fun j => if j = i then false else p j) = (List.range i).countP p := by
        apply List.countP_congr
        intro j hj
        rw [List.mem_range] at hj
        rw [if_neg (by omega)]
      rw [this]
      simp [hp]
    · rw [ih (by omega)]
      have : (if n = i then false else p n) = p n := if_neg (fun h => hin h.symm)
      simp only [List.countP_singleton, this]
      omega
def Lst (listed : Array Bool) : Nat → Bool := fun j => listed.getD j false
theorem Lst_set {listed : Array Bool} {i : Nat} (h : i < listed.size) : Lst (listed.setIfInBounds i true) = upd (Lst listed) i := by
  funext j
  unfold Lst upd
  by_cases hji : j = i
  · subst hji
    rw [if_pos rfl]
    simp [Array.getD_eq_getD_getElem?, h]
  · rw [if_neg hji]
    simp only [Array.getD_eq_getD_getElem?]
    rw [Array.getElem?_setIfInBounds_ne (fun h => hji h.symm)]
theorem ctL_congr {L L' : Nat → Bool} (h : ∀ j, j < cs.length → L j = L' j) : ctL cs ct0 val L = ctL cs ct0 val L' := by
  unfold ctL
  apply List.map_congr_left
  intro t _
  unfold cvL
  cases hw : wrAt cs t with
  | none => rfl
  | some j =>
    obtain ⟨c, hc, _⟩ := wrAt_some hw
    simp only [h j (List.getElem?_eq_some_iff.1 hc).1]
theorem all_listed (S : Sta P KK ops cs B) {listed : Array Bool} (hsz : listed.size = cs.length) (hr : Region.ready .any ops listed = []) : ∀ j, j < cs.length → Lst listed j = true := by
  intro j
  induction j using Nat.strongRecOn with
  | _ j ih =>
    intro hj
    cases hL : Lst listed j with
    | true => rfl
    | false =>
      exfalso
      have hjs : j < ops.size := by rw [S.size]; exact hj
      have : j ∈ Region.ready .any ops listed := by
        rw [mem_ready]
        refine ⟨?_, ops[j], Array.getElem?_eq_getElem hjs, fun e he hb => ?_⟩
        · unfold Lst at hL
          simp only [Array.getD_eq_getD_getElem?] at hL ⊢
          rw [Array.getElem?_eq_getElem (by omega)] at hL ⊢
          exact hL
        · exact ih e.on (S.back j _ (Array.getElem?_eq_getElem hjs) e he hb) (by have := S.back j _ (Array.getElem?_eq_getElem hjs) e he hb; omega)
      rw [hr] at this; cases this
theorem inv_done (S : Sta P KK ops cs B) (C : Canon E call cs base ct0 H1 ctf K val) {listed : Array Bool} {e : Nat} {a : Act} (I : Inv E cs B base ct0 ctf K val φ0 H0 w0 d (Lst listed) e φ a w) (hsz : listed.size = cs.length)
    (hr : Region.ready .any ops listed = []) : SpecQ E φ0 H0 w0 d .normal (ctf cs.length) (K cs.length) .normal a w := by
  have hall := all_listed S hsz hr
  have he : e = cs.length := by
    rcases I.isE with he | he
    · exfalso
      have hlt : e < cs.length := by
        rcases Nat.lt_or_ge e cs.length with h | h
        · exact h
        · simp [isEAt, List.getElem?_eq_none h] at he
      have := I.ge e (Nat.le_refl _) he
      rw [hall e hlt] at this; cases this
    · exact he
  subst he
  refine ⟨I.defers, φ, I.wr, I.ext, ?_⟩
  show RelT φ (ctf cs.length) a.tmps
  rw [ctf_eq S C _ (Nat.le_refl _), ← ctL_congr (L := Lst listed) (fun j hj => by rw [hall j hj]; simp [hj])]
  exact I.rel
end Go.Cl

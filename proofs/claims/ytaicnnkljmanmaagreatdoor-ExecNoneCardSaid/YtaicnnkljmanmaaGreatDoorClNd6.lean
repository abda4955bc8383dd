/- A function whose ranges over maps go in all orders, where all come to the same up to the names of what is new. -/
import Derived.Test.YtaicnnkljmanmaaGreatDoorClNd5
namespace Go.Cl
open Go
variable {P : Program} {E : Env} {φ φ' : Ren} {H H' : CH} {w w' : World}

def piOf (base : Nat) (p : List Nat) (i : Nat) : Nat := bif Nat.blt i base then i else match p[i - base]? with | some j => base + j | none => i
def permOk (p : List Nat) : Bool := (List.range p.length).all fun i => match p[i]? with
  | some j => (match p[j]? with | some k => Nat.beq k i | none => false)
  | none => false
theorem permOk_get {p : List Nat} (h : permOk p = true) {i : Nat} (hi : i < p.length) : ∃ j, p[i]? = some j ∧ p[j]? = some i := by
  have := List.all_eq_true.1 h i (List.mem_range.2 hi)
  split at this
  · rename_i j hj
    split at this
    · rename_i k hk
      rw [Nat.beq_eq] at this
      subst this
      exact ⟨j, hj, hk⟩
    · cases this
  · cases this
theorem piOf_lt {base : Nat} {p : List Nat} {i : Nat} (h : i < base) : piOf base p i = i := by
  unfold piOf
  have : Nat.blt i base = true := by rw [Nat.blt_eq]; exact h
  rw [this]; rfl
theorem piOf_ge {base : Nat} {p : List Nat} {i : Nat} (h : base ≤ i) : piOf base p i = match p[i - base]? with | some j => base + j | none => i := by
  unfold piOf
  have : Nat.blt i base = false := by rw [← Bool.not_eq_true, Nat.blt_eq]; omega
  rw [this]; rfl
theorem piOf_inv {base : Nat} {p : List Nat} (h : permOk p = true) (i : Nat) : piOf base p (piOf base p i) = i := by
  rcases Nat.lt_or_ge i base with hi | hi
  · rw [piOf_lt hi, piOf_lt hi]
  · rw [piOf_ge hi]
    rcases Nat.lt_or_ge (i - base) p.length with hl | hl
    · obtain ⟨j, h1, h2⟩ := permOk_get h hl
      rw [h1]
      simp only
      rw [piOf_ge (by omega), show base + j - base = j by omega, h2]
      simp only; omega
    · rw [List.getElem?_eq_none hl]
      simp only
      rw [piOf_ge hi, List.getElem?_eq_none hl]
theorem piOf_next {base n : Nat} {p : List Nat} (h : permOk p = true) (hn : base + p.length ≤ n) {i : Nat} (hi : i < n) : piOf base p i < n := by
  rcases Nat.lt_or_ge i base with hb | hb
  · rw [piOf_lt hb]; exact hi
  · rw [piOf_ge hb]
    rcases Nat.lt_or_ge (i - base) p.length with hl | hl
    · obtain ⟨j, h1, h2⟩ := permOk_get h hl
      rw [h1]
      simp only
      have := (List.getElem?_eq_some_iff.1 h2).1
      omega
    · rw [List.getElem?_eq_none hl]; exact hi
def leqN : List Nat → List Nat → Bool
  | [], [] => true
  | a :: x, b :: y => Nat.beq a b && leqN x y
  | _, _ => false
def esEq : List Ent → List Ent → Bool
  | [], [] => true
  | a :: x, b :: y => veqb a.1 b.1 && (veqb a.2.1 b.2.1 && (Nat.beq a.2.2 b.2.2 && esEq x y))
  | _, _ => false
def beqB : Bool → Bool → Bool
  | true, true => true
  | false, false => true
  | _, _ => false
def oeqN : Option Nat → Option Nat → Bool
  | none, none => true
  | some a, some b => Nat.beq a b
  | _, _ => false
def ceq : CObj → CObj → Bool
  | .cells c e w h r, .cells c' e' w' h' r' => veqbs c c' && (Nat.beq e e' && (Nat.beq w w' && (leqN h h' && beqB r r')))
  | .iter s p, .iter s' p' => lsEq s s' && Nat.beq p p'
  | .map es c, .map es' c' => esEq es es' && Nat.beq c c'
  | .miter m a s b, .miter m' a' s' b' => oeqN m m' && (Nat.beq a a' && (leqN s s' && Nat.beq b b'))
  | _, _ => false
theorem leqN_eq : ∀ {a b : List Nat}, leqN a b = true → a = b
  | [], [], _ => rfl
  | a :: x, b :: y, h => by
    simp only [leqN, Bool.and_eq_true, Nat.beq_eq] at h
    rw [h.1, leqN_eq h.2]
  | [], _ :: _, h => by simp [leqN] at h
  | _ :: _, [], h => by simp [leqN] at h
theorem esEq_eq : ∀ {a b : List Ent}, esEq a b = true → a = b
  | [], [], _ => rfl
  | (a, b, c) :: x, (a', b', c') :: y, h => by
    simp only [esEq, Bool.and_eq_true, Nat.beq_eq] at h
    rw [veqb_eq h.1, veqb_eq h.2.1, h.2.2.1, esEq_eq h.2.2.2]
  | [], _ :: _, h => by simp [esEq] at h
  | _ :: _, [], h => by simp [esEq] at h
theorem beqB_eq : ∀ {a b : Bool}, beqB a b = true → a = b
  | true, true, _ => rfl
  | false, false, _ => rfl
  | true, false, h => by cases h
  | false, true, h => by cases h
theorem oeqN_eq : ∀ {a b : Option Nat}, oeqN a b = true → a = b
  | none, none, _ => rfl
  | some a, some b, h => by simp only [oeqN, Nat.beq_eq] at h; rw [h]
  | none, some _, h => by cases h
  | some _, none, h => by cases h
theorem ceq_eq {a b : CObj} (h : ceq a b = true) : a = b := by
  cases a <;> cases b <;> simp only [ceq, Bool.and_eq_true, Nat.beq_eq, Bool.false_eq_true] at h
  · rw [veqbs_eq h.1, h.2.1, h.2.2.1, leqN_eq h.2.2.2.1, beqB_eq h.2.2.2.2]
  · have := h.1
    rw [lsEq_eq] at this
    rw [eq_of_beq this, h.2]
  · rw [esEq_eq h.1, h.2]
  · rw [oeqN_eq h.1, h.2.1, leqN_eq h.2.2.1, h.2.2.2]
def Tr.allI {α : Type} (p : Nat → α → Bool) : Nat → Nat → Tr α → Bool
  | _, _, .leaf => true
  | a, m, .node l v r => (match v with | some x => p a x | none => true) && (Tr.allI p (a + m) (2 * m) l && Tr.allI p (a + 2 * m) (2 * m) r)
theorem Tr.allI_get {α : Type} {p : Nat → α → Bool} : ∀ {t : Tr α} {a m i : Nat} {x : α}, Tr.allI p a m t = true → t.get i = some x → p (a + m * i) x = true
  | .leaf, a, m, i, x, _, h => by cases h
  | .node l v r, a, m, i, x, h, hx => by
    simp only [Tr.allI, Bool.and_eq_true] at h
    simp only [Tr.get] at hx
    by_cases h0 : i = 0
    · subst h0
      simp only [Nat.beq_refl, cond_true] at hx
      subst hx
      simpa using h.1
    · have h0b : Nat.beq i 0 = false := by rw [← Bool.not_eq_true, Nat.beq_eq]; exact h0
      rw [h0b] at hx
      simp only [cond_false] at hx
      by_cases h1 : i % 2 = 1
      · have h1b : Nat.beq (i % 2) 1 = true := by rw [Nat.beq_eq]; exact h1
        rw [h1b] at hx
        simp only [cond_true] at hx
        have := Tr.allI_get h.2.1 hx
        have e : a + m + 2 * m * (i / 2) = a + m * i := by
          have : i = 2 * (i / 2) + 1 := by omega
          rw [show m * i = m * (2 * (i / 2) + 1) by rw [← this], Nat.mul_add, ← Nat.mul_assoc, Nat.mul_comm m 2]; omega
        rwa [e] at this
      · have h1b : Nat.beq (i % 2) 1 = false := by rw [← Bool.not_eq_true, Nat.beq_eq]; exact h1
        rw [h1b] at hx
        simp only [cond_false] at hx
        have := Tr.allI_get h.2.2 hx
        have e : a + 2 * m + 2 * m * (i / 2 - 1) = a + m * i := by
          have : i = 2 * (i / 2 - 1) + 2 := by omega
          rw [show m * i = m * (2 * (i / 2 - 1) + 2) by rw [← this], Nat.mul_add, ← Nat.mul_assoc, Nat.mul_comm m 2]; omega
        rwa [e] at this
def isV (v : Value) : Out → Bool
  | .ret u => veqb u v
  | _ => false
/-- The run x comes to v0 and H0, if what is new (from base on) has other names. -/
def sameR (base : Nat) (p : List Nat) (v0 : Value) (H0 : CH) (x : Out × CH) : Bool :=
  match x.1 with
  | .ret v1 =>
    permOk p && (Nat.ble (base + p.length) x.2.next && (Nat.beq x.2.next H0.next && (veqb (renV (piOf base p) v1) v0 &&
    (Tr.allI (fun id o => (match H0.get (piOf base p id) with | some y => ceq (renO (piOf base p) o) y | none => false) && (Nat.ble base id || (match H0.get id with | some y => ceq o y | none => false))) 0 1 x.2.objs &&
    Tr.allI (fun id _ => (x.2.get (piOf base p id)).isSome) 0 1 H0.objs))))
  | _ => false
theorem sameR_sound {base : Nat} {p : List Nat} {v0 v1 : Value} {H0 H1 : CH} (h : sameR base p v0 H0 (.ret v1, H1) = true) :
    (∀ i, piOf base p (piOf base p i) = i) ∧ (∀ i, i < H1.next → piOf base p i < H1.next) ∧ H0.next = H1.next ∧ renV (piOf base p) v1 = v0 ∧ (∀ i, H0.get (piOf base p i) = (H1.get i).map (renO (piOf base p))) ∧ (∀ i, i < base → H0.get i = H1.get i) := by
  simp only [sameR, Bool.and_eq_true, Nat.beq_eq, Nat.ble_eq] at h
  obtain ⟨hp, hl, hn, hv, h1, h2⟩ := h
  have key : ∀ i x, H1.get i = some x → H0.get (piOf base p i) = some (renO (piOf base p) x) ∧ (i < base → H0.get i = some x) := by
    intro i x hx
    have := Tr.allI_get (i := i) h1 hx
    rw [Nat.zero_add, Nat.one_mul] at this
    simp only [Bool.and_eq_true, Bool.or_eq_true, Nat.ble_eq] at this
    refine ⟨?_, fun hi => ?_⟩
    · have h := this.1
      split at h
      · rename_i y hy; rw [hy, ceq_eq h]
      · cases h
    · have h := this.2.resolve_left (by omega)
      split at h
      · rename_i y hy; rw [hy, ceq_eq h]
      · cases h
  have hnone : ∀ i, H1.get i = none → H0.get (piOf base p i) = none := by
    intro i hi
    cases hq : H0.get (piOf base p i) with
    | none => rfl
    | some y =>
      have := Tr.allI_get (i := piOf base p i) h2 hq
      rw [Nat.zero_add, Nat.one_mul, piOf_inv hp, hi] at this
      cases this
  refine ⟨piOf_inv hp, fun i hi => piOf_next hp hl hi, hn.symm, veqb_eq hv, fun i => ?_, fun i hi => ?_⟩
  · cases hq : H1.get i with
    | none => rw [hnone i hq]; rfl
    | some x => rw [(key i x hq).1]; rfl
  · cases hq : H1.get i with
    | none =>
      have := hnone i hq
      rwa [piOf_lt hi] at this
    | some x => exact (key i x hq).2 hi
/-! ### what is reached -/
mutual
def idsV : Value → List Nat
  | .pointer (some ⟨b, _, some _⟩) => [b]
  | .slice (some ⟨b, _, some _⟩) _ _ => [b]
  | .map (some id) => [id]
  | .func _ ⟨xs⟩ ⟨us⟩ => idsVs xs ++ idsVs us
  | .iface _ v => idsV v
  | .agg ⟨xs⟩ => idsVs xs
  | .tuple ⟨xs⟩ => idsVs xs
  | _ => []
def idsVs : List Value → List Nat
  | [] => []
  | v :: r => idsV v ++ idsVs r
end
def idsE : List Ent → List Nat
  | [] => []
  | e :: r => idsV e.1 ++ (idsV e.2.1 ++ idsE r)
def idsO : CObj → List Nat
  | .cells c _ _ _ _ => idsVs c
  | .map es _ => idsE es
  | .miter (some m) _ _ _ => [m]
  | _ => []
def reach (h : CH) : Nat → List Nat → List Nat → List Nat
  | 0, _, seen => seen
  | _, [], seen => seen
  | n + 1, i :: r, seen => bif memN i seen then reach h n r seen else match h.get i with
    | some o => reach h n (idsO o ++ r) (i :: seen)
    | none => reach h n r seen
def reachS (args : List Value) (h : CH) : List Nat := reach h 1000 (idsVs args) []
/-! ### what is left of a run: what its answer reaches, and what was there -/
def calmO : CObj → CObj
  | .cells c ep _ his ro => .cells c ep ep his ro
  | o => o
def tidyT (base : Nat) (h : CH) : List Nat → Tr CObj
  | [] => .leaf
  | i :: r => match h.get i with
    | some o => (tidyT base h r).set i (bif Nat.blt i base then o else calmO o)
    | none => tidyT base h r
def tidyH (base m : Nat) (s : List Nat) (v : Value) (h : CH) : CH := ⟨m, tidyT base h (s ++ reach h 1000 (idsV v) [])⟩
theorem tidyT_get {base : Nat} {h : CH} : ∀ {s : List Nat} {i : Nat}, (tidyT base h s).get i = if i ∈ s then (h.get i).map (fun o => bif Nat.blt i base then o else calmO o) else none
  | [], i => by simp [tidyT, Tr.get]
  | j :: r, i => by
    simp only [tidyT]
    cases hj : h.get j with
    | none =>
      simp only [tidyT_get (s := r)]
      by_cases hi : i = j
      · subst hi; simp [hj]
      · simp [hi]
    | some o =>
      simp only [Tr.get_set, tidyT_get (s := r)]
      by_cases hi : i = j
      · subst hi; simp [hj]
      · simp [hi]
theorem ObjR.calm {id : Nat} {ob : CObj} {t b o lo hi : Nat} (h : ObjR E φ w id ob t b o lo hi) : ObjR E φ w id (calmO ob) t b o lo hi := by
  cases ob with
  | cells c ep wep his ro =>
    obtain ⟨h1, h2, h3, h4, h5, h6, h7⟩ := h
    exact ⟨h1, Nat.le_refl _, h3, h4, h5, h6, fun hle => h7 (Nat.le_trans h2 hle)⟩
  | _ => exact h
theorem WR.tidy (hw : WR E φ H w) {base m : Nat} (hm : H.next ≤ m) (s : List Nat) (v : Value) : WR E φ (tidyH base m s v H) w where
  obj id t b o lo hi h := by
    obtain ⟨h1, h2, h3⟩ := hw.obj _ _ _ _ _ _ h
    refine ⟨h1, Nat.lt_of_lt_of_le h2 hm, fun ob ho => ?_⟩
    have ho : (tidyT base H (s ++ reach H 1000 (idsV v) [])).get id = some ob := ho
    rw [tidyT_get] at ho
    split at ho
    · cases hg : H.get id with
      | none => rw [hg] at ho; cases ho
      | some ob0 =>
        rw [hg] at ho
        simp only [Option.map_some, Option.some.injEq] at ho
        subst ho
        cases Nat.blt id base with
        | true => exact h3 ob0 hg
        | false => exact (h3 ob0 hg).calm
    · cases ho
  align := hw.align
  ownlt b id h := ⟨(hw.ownlt b id h).1, Nat.lt_of_lt_of_le (hw.ownlt b id h).2 hm⟩
  absent id h := by
    show (tidyT base H (s ++ reach H 1000 (idsV v) [])).get id = none
    rw [tidyT_get, hw.absent id (Nat.le_trans hm h)]
    split <;> rfl
  len := hw.len
  frame := hw.frame
  toks := hw.toks
  glob := hw.glob
theorem Ext.tidy {s : List Nat} {φ1 : Ren} {H1 : CH} {m : Nat} {v : Value} (hE : Ext φ (H.only s) w φ1 H1 w') (hm : H1.next ≤ m) : Ext φ (H.only s) w φ1 (tidyH H.next m s v H1) w' := by
  have hold : ∀ i, i < (H.only s).next → (tidyH H.next m s v H1).get i = H1.get i := by
    intro i hi
    show (tidyT H.next H1 (s ++ reach H1 1000 (idsV v) [])).get i = H1.get i
    rw [tidyT_get]
    have hb : Nat.blt i H.next = true := by rw [Nat.blt_eq]; exact hi
    split
    · rw [hb]; cases H1.get i <;> rfl
    · rename_i hn
      rw [hE.gone i hi (by rw [CH.get_only, if_neg fun h => hn (List.mem_append_left _ h)])]
  exact ⟨hE.le, hE.new, hE.own, hE.size, hE.keep, hE.os, hE.tape, hE.output, Nat.le_trans hE.next hm, fun id hid h => by rw [hold id hid]; exact hE.unmod id hid h, fun id hid h => by rw [hold id hid]; exact hE.gone id hid h⟩
def tidyR (base m : Nat) (s : List Nat) : Out × CH → Option (Out × CH)
  | (.ret v, h) => bif Nat.ble h.next m then some (.ret v, tidyH base m s v h) else none
  | _ => none
/-- All the orders; the objects of s, and what is new. -/
def gcall (E : Env) (N : Nat) (g : FuncId) (fn : CFun) (S : List Value → CH → List Nat) (p : List Nat) (m : Nat) (call : CallF) : CallF :=
  ⟨fun f args H => bif Nat.beq f g then
      match lcall E call N fn args (H.only (S args H)) with
      | some l => match mapO (tidyR H.next (H.next + m) (S args H)) l with
        | some ((.ret v, H0) :: rest) => bif rest.all (sameR H.next p v H0) then (match merge H (S args H) H0 with | some H' => some (.ret v, H') | none => none) else none
        | _ => none
      | none => none
    else none, fun _ _ _ => none⟩
theorem gcall_sound {KK : List TypeId} (hK : eqGood P KK) (hmix : P.follows .mixedOrders = true) {call : CallF} (hcs : CallSound P E call) (hgl : ∀ g, E.glob g = none) (N : Nat) {g : FuncId} {cf : CFun} (hcf : compF P KK g = some cf) (hpl : plainFn P g = true)
    (S : List Value → CH → List Nat) (p : List Nat) (m : Nat) : CallSound P E (gcall E N g cf S p m call) := by
  refine ⟨fun f args H out H' h => ?_, (fun _ _ _ _ _ h => by cases h)⟩
  unfold gcall at h
  obtain ⟨hb, hq⟩ := cond_some h
  clear h
  rw [Nat.beq_eq] at hb
  subst hb
  refine ⟨hpl, fun φ w as hw has => ?_⟩
  cases hl : lcall E call N cf args (H.only (S args H)) with
  | none => rw [hl] at hq; cases hq
  | some L =>
    rw [hl] at hq
    have hC := lcall_sound hK hmix hcs N hcf hl (hw.only (S args H)) has
    simp only at hq
    cases ht : mapO (tidyR H.next (H.next + m) (S args H)) L with
    | none => rw [ht] at hq; cases hq
    | some T =>
    rw [ht] at hq
    split at hq
    · rename_i v H0 rest heq
      simp only [Option.some.injEq] at heq
      subst heq
      obtain ⟨hall, hq⟩ := cond_some hq
      split at hq
      · rename_i H2 hm
        simp only [Option.some.injEq, Prod.mk.injEq] at hq
        obtain ⟨rfl, rfl⟩ := hq
        refine hC.mono fun e w' he => ?_
        obtain ⟨⟨o1, H1⟩, hx, hpost⟩ := he
        obtain ⟨y, hy, hty⟩ := mapO_mem ht hx
        cases o1 with
        | pan v1 => cases hty
        | ret v1 =>
          obtain ⟨hle, hty⟩ := cond_some hty
          rw [Nat.ble_eq] at hle
          simp only [Option.some.injEq] at hty
          subst hty
          cases e with
          | outgrown => exact False.elim hpost
          | panicked ch => obtain ⟨_, _, _, h, _⟩ := hpost; cases h
          | returned v' =>
            obtain ⟨u, φ1, h1, hW, hE, hV⟩ := hpost
            injection h1 with h1
            subst h1
            have hW := hW.tidy hle (base := H.next) (S args H) v1
            have hE := hE.tidy (v := v1) hle
            rcases List.mem_cons.1 hy with hy | hy
            · injection hy with e1 e2
              injection e1 with e1
              subst e1 e2
              obtain ⟨hW2, hE2⟩ := merge_sound hw hW hE hm
              exact ⟨_, φ1, rfl, hW2, hE2, hV⟩
            · have hsame := List.all_eq_true.1 hall _ hy
              obtain ⟨s1, s2, s3, s4, s5, s6⟩ := sameR_sound hsame
              have hWr := WR.ren s1 hW hgl s3 s2 s5
              have hEr := Ext.ren s1 (hw.only (S args H)) hE (fun i hi => piOf_lt hi) s3 (fun i hi => s6 i hi)
              have hVr := VR.ren s1 hV
              rw [s4] at hVr
              obtain ⟨hW2, hE2⟩ := merge_sound hw hWr hEr hm
              exact ⟨_, _, rfl, hW2, hE2, hVr⟩
      · cases hq
    · cases hq
end Go.Cl

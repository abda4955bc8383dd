/- A call whose ranges over maps go in all orders; the part of a heap that it needs; names of objects. -/
import Derived.Test.YtaicnnkljmanmaaGreatDoorClNd3
import Derived.Test.YtaicnnkljmanmaaGreatDoorClMemo
namespace Go.Cl
open Go
variable {P : Program} {E : Env} {φ φ' : Ren} {H H' : CH} {w w' : World}

/-! ### the call -/
def mapO {α β : Type} (f : α → Option β) : List α → Option (List β)
  | [] => some []
  | x :: r => match f x, mapO f r with
    | some y, some ys => some (y :: ys)
    | _, _ => none
def finR (E : Env) (fn : CFun) : R1 → Option (Out × CH)
  | (.normal, ct, h) => finish E fn ct h
  | (.ret, ct, h) => finish E fn ct h
  | (.pan v, _, h) => some (.pan v, h)
  | _ => none
def lcall (E : Env) (call : CallF) (N : Nat) (fn : CFun) (args : List Value) (H : CH) : Option (List (Out × CH)) :=
  match execL E call N fn.body (args ++ List.replicate (fn.ntmps - args.length) undef, H) with
  | some L => mapO (finR E fn) L
  | none => none
theorem mapO_mem {α β : Type} {f : α → Option β} : ∀ {l : List α} {m : List β}, mapO f l = some m → ∀ {x : α}, x ∈ l → ∃ y ∈ m, f x = some y
  | [], _, _, x, hx => by cases hx
  | z :: r, m, h, x, hx => by
    simp only [mapO] at h
    split at h
    · rename_i y ys hy hys
      simp only [Option.some.injEq] at h
      subst h
      rcases List.mem_cons.1 hx with rfl | hx
      · exact ⟨y, List.mem_cons_self, hy⟩
      · obtain ⟨u, hu, hfu⟩ := mapO_mem hys hx
        exact ⟨u, List.mem_cons_of_mem _ hu, hfu⟩
    · cases h
/-- One of the runs is the machine's. -/
def PostL (E : Env) (φ : Ren) (H : CH) (w : World) (L : List (Out × CH)) (e : Ending) (w' : World) : Prop := ∃ x ∈ L, Post E φ H w x.1 x.2 e w'
theorem lcall_sound {KK : List TypeId} (hK : eqGood P KK) (hmix : P.follows .mixedOrders = true) {call : CallF} (hcs : CallSound P E call) (N : Nat) {f : FuncId} {cf : CFun} (hcf : compF P KK f = some cf)
    {args args' : List Value} {L : List (Out × CH)} (h : lcall E call N cf args H = some L) (hw : WR E φ H w) (hargs : VRs φ args args') : Calls P f ⟨args'⟩ w (PostL E φ H w L) := by
  unfold lcall at h
  unfold compF at hcf
  cases hfn : P.funcs[f]? with
  | none => rw [hfn] at hcf; cases hcf
  | some fn =>
    rw [hfn] at hcf
    simp only at hcf
    cases hb : fn.body with
    | none => rw [hb] at hcf; cases hcf
    | some code =>
      rw [hb] at hcf
      simp only at hcf
      cases hr : fn.results.toList.mapM (compRes P) with
      | none => rw [hr] at hcf; cases hcf
      | some cr =>
        rw [hr] at hcf
        simp only [Option.some.injEq] at hcf
        subst hcf
        cases he : execL E call N (comp P KK code) (args ++ List.replicate (fn.ntmps - args.length) undef, H) with
        | none => rw [he] at h; cases h
        | some l =>
          rw [he] at h
          simp only at h
          have hrel : RelT φ (args ++ List.replicate (fn.ntmps - args.length) undef) (⟨args'⟩ ++ Array.replicate (fn.ntmps - (⟨args'⟩ : Array Value).size) undef) := by
            show VRs φ _ (Array.toList _)
            have hl : (⟨args'⟩ : Array Value).size = args.length := hargs.length.symm
            rw [hl]
            simp only [Array.toList_append, Array.toList_replicate]
            exact hargs.append (VRs.replicate .undef _)
          have hx := execL_sound (ro := none) (k := false) hK hcs hmix N code _ H { tmps := ⟨args'⟩ ++ Array.replicate (fn.ntmps - (⟨args'⟩ : Array Value).size) undef, defers := [] } φ w l he hrel hw
          refine callsIn_wide.1 (callsIn_of_wp_marks (n := 0) hfn hb trivial (wpIn_mono hx fun e a1 w1 hq => ?_))
          obtain ⟨⟨x, ct1, H1⟩, hmem, hs⟩ := hq
          obtain ⟨⟨out, H2⟩, hmem2, hfin⟩ := mapO_mem h hmem
          have hfinish : ∀ (hfi : finish E ⟨fn.ntmps, comp P KK code, cr⟩ ct1 H1 = some (out, H2)) (φ1 : Ren) (hd : Mks false w φ1 w1 [] a1.defers) (hW : WR E φ1 H1 w1) (hE : Ext φ H w φ1 H1 w1) (hR : RelT φ1 ct1 a1.tmps),
              LeavesInM Fence.wide 0 P fn a1.tmps (PostL E φ H w L) a1.defers .returning w1 := by
            intro hfi φ1 hd hW hE hR
            obtain ⟨rs, hds, _, hnd, hrs⟩ := hd
            rw [List.append_nil] at hds
            rw [hds]
            obtain ⟨rfl, v, v', rfl, _, _⟩ := finish_sound (P := P) (fn := fn) hW hR hr hfi
            refine leaves_marks (by simp) rs φ H w φ1 w1 hnd hrs hW hE fun w2 hW2 hE2 => ?_
            obtain ⟨_, v2, v2', hv2, hrun, hv⟩ := finish_sound (P := P) (fn := fn) hW2 hR hr hfi
            exact ⟨v2', hrun, _, hmem2, v2, φ1, hv2, hW2, hE2, hv⟩
          rcases hs.shape with ⟨h1, rfl⟩ | ⟨i, h1, rfl⟩ | ⟨h1, rfl⟩ | ⟨v, ch, h1, rfl⟩
          · have h1 : x = .normal := h1
            subst h1
            obtain ⟨φ1, hd, hW, hE, hR⟩ := hs
            exact hfinish hfin φ1 hd hW hE hR
          · have h1 : x = .exit i := h1
            subst h1
            simp [finR] at hfin
          · have h1 : x = .ret := h1
            subst h1
            obtain ⟨φ1, hd, hW, hE, hR⟩ := hs
            exact hfinish hfin φ1 hd hW hE hR
          · have h1 : x = .pan v := h1
            subst h1
            simp only [finR, Option.some.injEq, Prod.mk.injEq] at hfin
            obtain ⟨rfl, rfl⟩ := hfin
            obtain ⟨φ1, ⟨rs, hds, _, hnd, hrs⟩, hW, hE, v', rfl, hV, _⟩ := hs
            rw [List.append_nil] at hds
            show LeavesInM Fence.wide 0 P fn a1.tmps (PostL E φ H w L) a1.defers _ w1
            rw [hds]
            exact leaves_marks (by simp) rs φ H w φ1 w1 hnd hrs hW hE fun w2 hW2 hE2 => ⟨_, hmem2, v, v', φ1, rfl, rfl, hW2, hE2, hV⟩

/-! ### a part of the heap -/
def pickT (h : CH) : List Nat → Tr CObj
  | [] => .leaf
  | i :: r => match h.get i with
    | some o => (pickT h r).set i o
    | none => pickT h r
/-- The objects of the list alone. -/
def CH.only (h : CH) (s : List Nat) : CH := ⟨h.next, pickT h s⟩
theorem pickT_get {h : CH} : ∀ {s : List Nat} {i : Nat}, (pickT h s).get i = if i ∈ s then h.get i else none
  | [], i => by simp [pickT, Tr.get]
  | j :: r, i => by
    simp only [pickT]
    cases hj : h.get j with
    | none =>
      simp only [pickT_get (s := r)]
      by_cases hi : i = j
      · subst hi; simp [hj]
      · simp [hi]
    | some o =>
      simp only [Tr.get_set, pickT_get (s := r)]
      by_cases hi : i = j
      · subst hi; simp [hj]
      · simp [hi]
theorem CH.get_only {h : CH} {s : List Nat} {i : Nat} : (h.only s).get i = if i ∈ s then h.get i else none := pickT_get
theorem CH.only_some {h : CH} {s : List Nat} {i : Nat} {o : CObj} (ho : (h.only s).get i = some o) : i ∈ s ∧ h.get i = some o := by
  rw [CH.get_only] at ho
  split at ho
  · exact ⟨‹_›, ho⟩
  · cases ho
theorem WR.only (hw : WR E φ H w) (s : List Nat) : WR E φ (H.only s) w where
  obj id t b o lo hi h := by
    obtain ⟨h1, h2, h3⟩ := hw.obj _ _ _ _ _ _ h
    exact ⟨h1, h2, fun ob ho => h3 ob (CH.only_some ho).2⟩
  align := hw.align
  ownlt := hw.ownlt
  absent id h := by
    rw [CH.get_only]
    split
    · exact hw.absent id h
    · rfl
  len := hw.len
  frame := hw.frame
  toks := hw.toks
  glob := hw.glob
/-- Laid over: the objects of s, and the new ones, as the part has them. -/
def over (h p : CH) : List Nat → Option (Tr CObj)
  | [] => some h.objs
  | i :: r => match p.get i, over h p r with
    | some o, some t => some (t.set i o)
    | _, _ => none
def overN (p : CH) : Nat → Nat → Tr CObj → Tr CObj
  | 0, _, t => t
  | n + 1, i, t => match p.get i with
    | some o => overN p n (i + 1) (t.set i o)
    | none => overN p n (i + 1) t
theorem over_get {h p : CH} : ∀ {s : List Nat} {t : Tr CObj}, over h p s = some t → ∀ i, t.get i = if i ∈ s then p.get i else h.get i
  | [], t, ht, i => by simp only [over, Option.some.injEq] at ht; subst ht; simp [CH.get]
  | j :: r, t, ht, i => by
    simp only [over] at ht
    split at ht
    · rename_i o t' ho ht'
      simp only [Option.some.injEq] at ht
      subst ht
      rw [Tr.get_set, over_get ht']
      by_cases hi : i = j
      · subst hi; simp [ho]
      · simp [hi]
    · cases ht
theorem overN_get {p : CH} : ∀ {n i : Nat} {t : Tr CObj} (j : Nat), (overN p n i t).get j = if i ≤ j ∧ j < i + n ∧ p.get j ≠ none then p.get j else t.get j
  | 0, i, t, j => by rw [if_neg (by omega)]; rfl
  | n + 1, i, t, j => by
    simp only [overN]
    by_cases hj : j = i
    · subst hj
      cases hp : p.get j with
      | none =>
        simp only
        rw [overN_get, if_neg (by omega), if_neg (by simp)]
      | some o =>
        simp only
        rw [overN_get, if_neg (by omega), Tr.get_set, if_pos rfl, if_pos ⟨Nat.le_refl _, by omega, by simp⟩]
    · have e : (i + 1 ≤ j ∧ j < i + 1 + n ∧ p.get j ≠ none) ↔ (i ≤ j ∧ j < i + (n + 1) ∧ p.get j ≠ none) := by
        constructor
        · rintro ⟨a, b, c⟩; exact ⟨by omega, by omega, c⟩
        · rintro ⟨a, b, c⟩; exact ⟨by omega, by omega, c⟩
      cases hp : p.get i with
      | none => simp only; rw [overN_get]; simp only [e]
      | some o => simp only; rw [overN_get, Tr.get_set, if_neg hj]; simp only [e]
def merge (h : CH) (s : List Nat) (p : CH) : Option CH := (over h p s).map fun t => ⟨p.next, overN p (p.next - h.next) h.next t⟩
theorem merge_get {h p h' : CH} {s : List Nat} (hm : merge h s p = some h') (ha : ∀ i, h.next ≤ i → h.get i = none) (hp : ∀ i, p.next ≤ i → p.get i = none) (i : Nat) :
    h'.next = p.next ∧ h'.get i = if i ∈ s ∨ h.next ≤ i then p.get i else h.get i := by
  unfold merge at hm
  cases ho : over h p s with
  | none => rw [ho] at hm; cases hm
  | some t =>
    rw [ho] at hm
    simp only [Option.map_some, Option.some.injEq] at hm
    subst hm
    refine ⟨rfl, ?_⟩
    show (overN p (p.next - h.next) h.next t).get i = _
    rw [overN_get, over_get ho]
    by_cases hs : i ∈ s
    · simp only [hs, true_or, if_true]
      split <;> rfl
    · simp only [hs, false_or, if_false]
      by_cases hl : h.next ≤ i
      · rw [if_pos hl]
        by_cases hl2 : i < p.next
        · by_cases hn : p.get i = none
          · rw [if_neg (by simp [hn]), hn, ha i hl]
          · rw [if_pos ⟨hl, by omega, hn⟩]
        · rw [hp i (by omega), ha i hl]
          split <;> rfl
      · rw [if_neg (by omega), if_neg hl]
end Go.Cl

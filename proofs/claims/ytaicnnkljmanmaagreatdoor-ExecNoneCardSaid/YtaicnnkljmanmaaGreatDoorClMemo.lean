/- What has been reckoned once, on an empty heap, may be answered anywhere. -/
import Derived.Test.YtaicnnkljmanmaaGreatDoorClExec
namespace Go.Cl
open Go
variable {P : Program} {E : Env} {φ φ' : Ren} {H H' : CH} {w w' : World}

def H0 : CH := ⟨0, .leaf⟩
def R0 (tok : Nat → Value) : Ren := ⟨fun _ _ => none, fun _ => none, fun _ => 0, tok⟩
mutual
theorem VR.closed_eq {φ : Ren} : ∀ {v v' : Value}, closedV v = true → VR φ v v' → v' = v
  | _, _, _, .bool b => rfl
  | _, _, _, .int k n => rfl
  | _, _, _, .string s => rfl
  | _, _, _, .pnil => rfl
  | _, _, h, .ptr _ => by simp [closedV] at h
  | _, _, _, .snil => rfl
  | _, _, h, .sl _ _ _ _ => by simp [closedV] at h
  | _, _, _, .mnil => rfl
  | _, _, _, .nilFunc => rfl
  | _, _, _, .nilIface => rfl
  | _, _, h, .func _ _ _ => by simp [closedV] at h
  | _, _, h, .iface _ _ => by simp [closedV] at h
  | _, _, h, .agg hx => by simp only [closedV] at h; rw [VRs.closed_eq h hx]
  | _, _, h, .tuple hx => by simp only [closedV] at h; rw [VRs.closed_eq h hx]
theorem VRs.closed_eq {φ : Ren} : ∀ {xs ys : List Value}, closedVs xs = true → VRs φ xs ys → ys = xs
  | _, _, _, .nil => rfl
  | _, _, h, .cons hx hy => by
    simp only [closedVs, Bool.and_eq_true] at h
    rw [VR.closed_eq h.1 hx, VRs.closed_eq h.2 hy]
end
def GlobOk (E : Env) : Prop := ∀ g cs, E.glob g = some cs → closedVs cs = true
theorem closedVs_get : ∀ {l : List Value} {j : Nat} {v : Value}, closedVs l = true → l[j]? = some v → closedV v = true
  | [], _, _, _, h => by simp at h
  | x :: l, 0, v, hc, h => by
    simp only [closedVs, Bool.and_eq_true] at hc
    simp at h; subst h; exact hc.1
  | x :: l, j + 1, v, hc, h => by
    simp only [closedVs, Bool.and_eq_true] at hc
    simp only [List.getElem?_cons_succ] at h
    exact closedVs_get hc.2 h
/-- The empty heap stands to any world whose variables are as E says. -/
theorem WR.empty (hF : ∀ b c t fz, E.frm b = some (c, t, fz) → w.heap[b]? = some (.cells c t fz)) (hG : ∀ g cs, E.glob g = some cs → closedVs cs = true ∧ g < w.heap.size ∧ ∀ j v, cs[j]? = some v → w.cell? ⟨g, j, none⟩ = some v) : WR E (R0 E.tok) H0 w where
  obj id t b o lo hi h := by cases h
  align id t t' b o lo hi o' lo' hi' h := by cases h
  ownlt b id h := by cases h
  absent id _ := rfl
  len b h := by simp [R0] at h
  frame b c t fz h := ⟨rfl, hF b c t fz h⟩
  toks := rfl
  glob g cs h := by
    obtain ⟨h1, h2, h3⟩ := hG g cs h
    exact ⟨rfl, h2, fun j v hj => ⟨v, h3 j v hj, VR.closed (closedVs_get h1 hj)⟩⟩
theorem WR.toEmpty (hw : WR E φ H w) (hG : GlobOk E) : WR E (R0 E.tok) H0 w   := WR.empty (fun b c t fz h => (hw.frame b c t fz h).2) fun g cs h => by
  obtain ⟨h1, h2, h3⟩ := hw.glob g cs h
  refine ⟨hG g cs h, h2, fun j v hj => ?_⟩
  obtain ⟨v', hv, hr⟩ := h3 j v hj
  rw [VR.closed_eq (closedVs_get (hG g cs h) hj) hr] at hv; exact hv
theorem WR.kept (hw : WR E φ H w) (hk : ∀ b, b < w.heap.size → w'.heap[b]? = w.heap[b]?) (hs : w.heap.size ≤ w'.heap.size) : WR E φ H w' where
  obj id t b o lo hi h := by
    obtain ⟨h1, h2, h3⟩ := hw.obj _ _ _ _ _ _ h
    exact ⟨by omega, h2, fun ob ho => (h3 ob ho).mono (Ren.le_refl φ) rfl (hk b h1)⟩
  align := hw.align
  ownlt b id h := ⟨Nat.lt_of_lt_of_le (hw.ownlt b id h).1 hs, (hw.ownlt b id h).2⟩
  absent := hw.absent
  len b h := by
    obtain ⟨c, e, fz, h1, h2⟩ := hw.len b h
    exact ⟨c, e, fz, by rw [hk b (Array.getElem?_eq_some_iff.1 h1).1]; exact h1, h2⟩
  frame b c t fz h := by
    obtain ⟨h1, h2⟩ := hw.frame b c t fz h
    exact ⟨h1, by rw [hk b (Array.getElem?_eq_some_iff.1 h2).1]; exact h2⟩
  toks := hw.toks
  glob g cs h := by
    obtain ⟨h1, h2, h3⟩ := hw.glob g cs h
    refine ⟨h1, by omega, fun j v hj => ?_⟩
    obtain ⟨v', hv, hr⟩ := h3 j v hj
    exact ⟨v', (cell_congr (hk g h2) j none).trans hv, hr⟩
def retIs (r : Option (Out × CH)) (v : Value) : Bool :=
  match r with
  | some (.ret u, _) => veqb u v
  | _ => false
theorem retIs_some {r : Option (Out × CH)} {v : Value} (h : retIs r v = true) : ∃ H1, r = some (.ret v, H1) := by
  unfold retIs at h
  split at h
  · rename_i u H1; exact ⟨H1, by rw [veqb_eq h]⟩
  · cases h
def memo (f : FuncId) (args : List Value) (v : Value) : CallF := ⟨fun f' args' H => bif Nat.beq f' f && veqbs args' args then some (.ret v, H) else none, fun _ _ _ => none⟩
def none1 : CallF → CallF := fun _ => ⟨fun _ _ _ => none, fun _ _ _ => none⟩
theorem none1_sound (call : CallF) : CallSound P E (none1 call) := ⟨(fun _ _ _ _ _ h => by cases h), (fun _ _ _ _ _ h => by cases h)⟩
def orElse (I J : CallF) : CallF := ⟨fun f args H => match I f args H with | some r => some r | none => J f args H, fun _ _ _ => none⟩
theorem orElse_sound {I J : CallF} (hI : CallSound P E I) (hJ : CallSound P E J) : CallSound P E (orElse I J) := by
  refine ⟨fun f args H out H' h => ?_, (fun _ _ _ _ _ h => by cases h)⟩
  simp only [orElse] at h
  cases hq : I.fn f args H with
  | some r => rw [hq] at h; simp only [Option.some.injEq] at h; subst h; exact hI.fn f args H out H' hq
  | none => rw [hq] at h; exact hJ.fn f args H out H' h
theorem memo_sound {call : CallF} (hcs : CallSound P E call) (hG : GlobOk E) {f : FuncId} {args : List Value} {v : Value} (hrun : retIs (call f args H0) v = true) (ha : closedVs args = true) (hv : closedV v = true) : CallSound P E (memo f args v) := by
  obtain ⟨H1, hr⟩ := retIs_some hrun
  obtain ⟨hp, hC⟩ := hcs.fn f args H0 _ H1 hr
  refine ⟨fun f' args' H out H' h => ?_, (fun _ _ _ _ _ h => by cases h)⟩
  unfold memo at h
  obtain ⟨hb, hq⟩ := cond_some h
  clear h
  simp only [Bool.and_eq_true, Nat.beq_eq] at hb
  obtain ⟨rfl, hb⟩ := hb
  obtain rfl := veqbs_eq hb
  have h' : (some (Out.ret v, H) : Option (Out × CH)) = some (out, H') := hq
  injection h' with h'
  injection h' with h1 h2
  subst h1 h2
  refine ⟨hp, fun φ w as hw has => ?_⟩
  obtain rfl := VRs.closed_eq ha has
  refine (hC (R0 E.tok) w as (hw.toEmpty hG) (VRs.closed ha)).mono fun e w' he => ?_
  cases e with
  | outgrown => exact False.elim he
  | panicked ch => obtain ⟨_, _, _, h, _⟩ := he; cases h
  | returned v' =>
    obtain ⟨u, φ1, h1, hW, hE, hV⟩ := he
    injection h1 with h1
    subst h1
    have hk : ∀ b, b < w.heap.size → w'.heap[b]? = w.heap[b]? := fun b hb => hE.keep b hb fun id hid => by cases hid
    rw [VR.closed_eq hv hV]
    exact ⟨v, φ, rfl, hw.kept hk hE.size, ⟨Ren.le_refl φ, fun _ _ _ h => .inl h, fun _ _ => rfl, hE.size, fun b hb _ => hk b hb, hE.os, hE.tape, hE.output, Nat.le_refl _, fun _ _ _ => rfl, fun _ _ h => h⟩, VR.closed hv⟩
/-- A CLOSED CALL THAT ANSWERS true ANSWERS true IN ANY WORLD, and leaves all that was there. -/
theorem true_calls {call : CallF} (hcs : CallSound P E call) {f : FuncId} {args args' : List Value} (hrun : isTrue (call f args H0) = true) (hw : WR E (R0 E.tok) H0 w) (hargs : VRs (R0 E.tok) args args') :
    Calls P f ⟨args'⟩ w fun e w' => match e with
      | .returned v => v = .bool true ∧ (∀ b, b < w.heap.size → w'.heap[b]? = w.heap[b]?) ∧ w.heap.size ≤ w'.heap.size ∧ w'.os = w.os ∧ w'.tape = w.tape ∧ w'.output = w.output
      | .panicked _ => False
      | .outgrown => False := by
  unfold isTrue at hrun
  split at hrun
  · rename_i H1 hr
    obtain ⟨_, hC⟩ := hcs.fn f args H0 _ H1 hr
    refine (hC (R0 E.tok) w args' hw hargs).mono fun e w' he => ?_
    cases e with
    | outgrown => exact False.elim he
    | panicked ch => obtain ⟨_, _, _, h, _⟩ := he; cases h
    | returned v' =>
      obtain ⟨u, φ1, h1, hW, hE, hV⟩ := he
      injection h1 with h1
      subst h1
      cases hV
      exact ⟨rfl, (fun b hb => hE.keep b hb (fun id hid => by cases hid)), hE.size, hE.os, hE.tape, hE.output⟩
  · cases hrun
/-- It answered true, and all that was there is as it was. -/
def TrueKept {w : World} : Ending → World → Prop
  | .returned v, w' => v = .bool true ∧ (∀ b, b < w.heap.size → w'.heap[b]? = w.heap[b]?) ∧ w.heap.size ≤ w'.heap.size ∧ w'.os = w.os ∧ w'.tape = w.tape ∧ w'.output = w.output
  | _, _ => False
theorem true_kept {call : CallF} (hcs : CallSound P E call) {f : FuncId} {args args' : List Value} (hrun : isTrue (call f args H0) = true) (hw : WR E (R0 E.tok) H0 w) (hargs : VRs (R0 E.tok) args args') :
    Calls P f ⟨args'⟩ w (TrueKept (w := w)) := (true_calls hcs hrun hw hargs).mono fun e w' he => by cases e <;> exact he
/-! ### tokens: values that are what they are, and are looked into by nobody but a contract -/
def toksB : List Value → Bool
  | [] => true
  | .chan (some _) :: r => toksB r
  | .agg ⟨l⟩ :: r => toks1 l && toksB r
  | _ :: _ => false
where toks1 : List Value → Bool
  | [] => true
  | .chan (some _) :: r => toks1 r
  | _ :: _ => false
def untok (τ : Nat → Value) : Value → Value
  | .chan (some k) => τ k
  | v => v
def untok1 (τ : Nat → Value) : Value → Value
  | .agg ⟨l⟩ => .agg ⟨l.map (untok τ)⟩
  | v => untok τ v
theorem toks1_eq {φ : Ren} : ∀ {l l' : List Value}, toksB.toks1 l = true → VRs φ l l' → l' = l.map (untok φ.tok)
  | [], _, _, .nil => rfl
  | .chan (some k) :: r, _, h, .cons hx hr => by
    cases hx with
    | tok hk _ => rw [toks1_eq (by simpa [toksB.toks1] using h) hr]; simp [untok, hk]
theorem toksB_eq {φ : Ren} : ∀ {l l' : List Value}, toksB l = true → VRs φ l l' → l' = l.map (untok1 φ.tok)
  | [], _, _, .nil => rfl
  | .chan (some k) :: r, _, h, .cons hx hr => by
    cases hx with
    | tok hk _ => rw [toksB_eq (by simpa [toksB] using h) hr]; simp [untok1, untok, hk]
  | .agg ⟨l⟩ :: r, _, h, .cons hx hr => by
    simp only [toksB, Bool.and_eq_true] at h
    cases hx with
    | agg hl => rw [toksB_eq h.2 hr, toks1_eq h.1 hl]; simp [untok1]
/-- What a contract says of one call, in any world that bears the frame. -/
def memoT (f : FuncId) (args : List Value) (v : Value) : CallF := ⟨fun f' args' H => bif Nat.beq f' f && veqbs args' args then some (.ret v, H) else none, fun _ _ _ => none⟩
/-- It answered v, and all that was there is as it was. -/
def Kept (v : Value) (w : World) : Ending → World → Prop
  | .returned v', w' => v' = v ∧ (∀ b, b < w.heap.size → w'.heap[b]? = w.heap[b]?) ∧ w.heap.size ≤ w'.heap.size ∧ w'.os = w.os ∧ w'.tape = w.tape ∧ w'.output = w.output
  | _, _ => False
theorem memoT_sound {f : FuncId} (hp : plainFn P f = true) {args : List Value} (ht : toksB args = true) {v : Value} (hv : closedV v = true)
    (hC : ∀ w : World, (∀ b c t fz, E.frm b = some (c, t, fz) → w.heap[b]? = some (.cells c t fz)) → Calls P f ⟨args.map (untok1 E.tok)⟩ w (Kept v w)) : CallSound P E (memoT f args v) := by
  refine ⟨fun f' args' H out H' h => ?_, (fun _ _ _ _ _ h => by cases h)⟩
  unfold memoT at h
  obtain ⟨hb, hq⟩ := cond_some h
  clear h
  simp only [Bool.and_eq_true, Nat.beq_eq] at hb
  obtain ⟨rfl, hb⟩ := hb
  obtain rfl := veqbs_eq hb
  have h' : (some (Out.ret v, H) : Option (Out × CH)) = some (out, H') := hq
  injection h' with h'
  injection h' with h1 h2
  subst h1 h2
  refine ⟨hp, fun φ w as hw has => ?_⟩
  obtain rfl := toksB_eq ht has
  rw [hw.toks]
  refine (hC w fun b c t fz h => (hw.frame b c t fz h).2).mono fun e w' he => ?_
  cases e with
  | outgrown => exact False.elim he
  | panicked ch => exact False.elim he
  | returned v' =>
    obtain ⟨rfl, hk, hs, hos, htp, hout⟩ := he
    exact ⟨v', φ, rfl, hw.kept hk hs, ⟨Ren.le_refl φ, fun _ _ _ h => .inl h, fun _ _ => rfl, hs, fun b hb _ => hk b hb, hos, htp, hout, Nat.le_refl _, fun _ _ _ => rfl, fun _ _ h => h⟩, VR.closed hv⟩
end Go.Cl

/- Code whose ranges over maps go in all orders: a list of runs. -/
import Derived.Test.YtaicnnkljmanmaaGreatDoorClNd
namespace Go.Cl
open Go
variable {P : Program} {E : Env} {φ φ' : Ren} {H H' : CH} {w w' : World} {ro : Option Nat} {k : Bool}

abbrev R1 := CExit × St
def catL {α : Type} (f : α → Option (List R1)) : List α → Option (List R1)
  | [] => some []
  | x :: r => match f x, catL f r with
    | some a, some b => some (a ++ b)
    | _, _ => none
/-- What ended normally goes on with f. -/
def goL (f : St → Option (List R1)) : R1 → Option (List R1)
  | (.normal, s) => f s
  | r => some [r]
def mnextL (h : CH) (it : Value) : Option (List (Value × CH)) :=
  match eMnext h it with
  | some (.ret v, h') => some [(v, h')]
  | _ => eMnextL h it
def asMnext : COp → Option Operand
  | .e _ (.mnext it) => some it
  | _ => none
def copsL (E : Env) (call : CallF) : List COper → List Value → CH → Option (List R1)
  | [], ct, h => some [(.normal, ct, h)]
  | o :: os, ct, h =>
    bif wanted o.guard ct then
      match asMnext o.op with
      | some it => match mnextL h (cev ct it) with
        | some l => catL (fun x => copsL E call os (cput o.dst x.1 ct) x.2) l
        | none => none
      | none => match cop E call o.op (cev ct) h with
        | some (.ret v, h) => copsL E call os (cput o.dst v ct) h
        | some (.pan v, h) => some [(.pan v, ct, h)]
        | none => none
    else copsL E call os (cput o.dst undef ct) h
def blockL (id : Nat) : R1 → R1
  | (.exit i, s) => bif Nat.beq i id then (.normal, s) else (.exit i, s)
  | r => r
def loopL : Nat → (St → Option (List R1)) → St → Option (List R1)
  | 0, _, _ => none
  | n + 1, f, s => match f s with
    | some l => catL (goL (loopL n f)) l
    | none => none
def execL (E : Env) (call : CallF) (N : Nat) : CCode → St → Option (List R1)
  | .skip, s => some [(.normal, s)]
  | .rg false ops, s => copsL E call ops s.1 s.2
  | .rg true ops, s => match rdrawn E call ops s.1 s.2 with
    | some s => some [(.normal, s)]
    | none => none
  | .seq a b, s => match execL E call N a s with
    | some l => catL (goL (execL E call N b)) l
    | none => none
  | .cond c t e, s => match cev s.1 c with
    | .bool true => execL E call N t s
    | .bool false => execL E call N e s
    | _ => none
  | .block id b, s => match execL E call N b s with
    | some l => some (l.map (blockL id))
    | none => none
  | .loop b, s => loopL N (execL E call N b) s
  | .exit id, s => some [(.exit id, s)]
  | .scope b, s => execL E call N b s
  | .ret, s => some [(.ret, s)]
  | _, _ => none
theorem catL_mem {α : Type} {f : α → Option (List R1)} : ∀ {l : List α} {M : List R1}, catL f l = some M → ∀ {x : α}, x ∈ l → ∃ m, f x = some m ∧ ∀ r ∈ m, r ∈ M
  | [], _, _, x, hx => by cases hx
  | y :: r, M, h, x, hx => by
    simp only [catL] at h
    split at h
    · rename_i a b ha hb
      simp only [Option.some.injEq] at h
      subst h
      rcases List.mem_cons.1 hx with rfl | hx
      · exact ⟨a, ha, fun r hr => List.mem_append_left _ hr⟩
      · obtain ⟨m, hm, hs⟩ := catL_mem hb hx
        exact ⟨m, hm, fun r hr => List.mem_append_right _ (hs r hr)⟩
    · cases h
/-- One of the runs is the machine's. -/
def SpecL (k : Bool) (E : Env) (φ : Ren) (H : CH) (w : World) (d : List Deferred) (L : List R1) (e : Exit) (a' : Act) (w' : World) : Prop :=
  ∃ r ∈ L, SpecM k E φ H w d r.1 r.2.1 r.2.2 e a' w'
theorem SpecL.sub {d : List Deferred} {L M : List R1} (h : ∀ r ∈ L, r ∈ M) {e : Exit} {a' : Act} {w' : World} : SpecL k E φ H w d L e a' w' → SpecL k E φ H w d M e a' w' := fun ⟨r, hr, hs⟩ => ⟨r, h r hr, hs⟩
theorem SpecL.trans {φ1 : Ren} {H1 : CH} {w1 : World} (hw : WR E φ H w) (hE : Ext φ H w φ1 H1 w1) {d d1 : List Deferred} (hd : Mks k w φ1 w1 d d1) {L : List R1} {e : Exit} {a' : Act} {w' : World} : SpecL k E φ1 H1 w1 d1 L e a' w' → SpecL k E φ H w d L e a' w' :=
  fun ⟨r, hr, hs⟩ => ⟨r, hr, SpecM.trans hw hE hd e a' w' hs⟩
theorem SpecM.shape {d : List Deferred} {x : CExit} {ct' : List Value} {e : Exit} {a' : Act} {w' : World} (h : SpecM k E φ H w d x ct' H' e a' w') :
    (x = .normal ∧ e = .normal) ∨ (∃ i, x = .exit i ∧ e = .exit i) ∨ (x = .ret ∧ e = .ret) ∨ (∃ v ch, x = .pan v ∧ e = .panic ch) := by
  cases e with
  | outgrown => exact False.elim h
  | normal => obtain ⟨_, _, _, _, hf⟩ := h; cases x <;> first | exact .inl ⟨rfl, rfl⟩ | exact hf.elim
  | exit i => obtain ⟨_, _, _, _, hf⟩ := h; cases x <;> first | (obtain ⟨rfl, _⟩ := hf; exact .inr (.inl ⟨_, rfl, rfl⟩)) | exact hf.elim
  | ret => obtain ⟨_, _, _, _, hf⟩ := h; cases x <;> first | exact .inr (.inr (.inl ⟨rfl, rfl⟩)) | exact hf.elim
  | panic ch => obtain ⟨_, _, _, _, hf⟩ := h; cases x <;> first | exact .inr (.inr (.inr ⟨_, _, rfl, rfl⟩)) | exact hf.elim
  | goto i => obtain ⟨_, _, _, _, hf⟩ := h; cases x <;> exact hf.elim
/-- Going on. -/
theorem goL_spec {f : St → Option (List R1)} {Q : Exit → Act → World → Prop} {d : List Deferred} {L M : List R1} (hM : catL (goL f) L = some M)
    {K : Act → World → Prop} {e : Exit} {a1 : Act} {w1 : World} (hq : SpecL k E φ H w d L e a1 w1)
    (hK : ∀ (ct1 : List Value) (H1 : CH) (m : List R1) (φ1 : Ren), f (ct1, H1) = some m → (∀ r ∈ m, r ∈ M) → Mks k w φ1 w1 d a1.defers → WR E φ1 H1 w1 → Ext φ H w φ1 H1 w1 → RelT φ1 ct1 a1.tmps → K a1 w1)
    (hQ : ∀ e, e ≠ .normal → SpecL k E φ H w d M e a1 w1 → Q e a1 w1) : Exit.then K Q e a1 w1 := by
  obtain ⟨⟨x, ct1, H1⟩, hr, hs⟩ := hq
  obtain ⟨m, hm, hsub⟩ := catL_mem hM hr
  rcases hs.shape with ⟨h1, rfl⟩ | ⟨i, h1, rfl⟩ | ⟨h1, rfl⟩ | ⟨v, ch, h1, rfl⟩
  · have h1 : x = .normal := h1
    subst h1
    obtain ⟨φ1, hd, hW, hE, hR⟩ := hs
    exact hK ct1 H1 m φ1 hm hsub hd hW hE hR
  all_goals
    have h1 : x = _ := h1
    subst h1
    simp only [goL, Option.some.injEq] at hm
    subst hm
    exact hQ _ (by simp) ⟨_, hsub _ List.mem_cons_self, hs⟩
end Go.Cl

/- A loop over a function: its record, its rounds, its mark. -/
import Derived.Test.YtaicnnkljmanmaaGreatDoorClDrawn4
import Derived.Scope
namespace Go.Cl
open Go
variable {P : Program} {E : Env} {φ φ' : Ren} {H H' : CH} {w w' : World} {ro : Option Nat}

/-! ### marks -/
def mark (r : Nat) : Deferred := { target := .collected r, args := #[] }
/-- What has been pushed onto an activation's deferred calls: marks alone, of blocks that are new since w; with k, none. -/
def Mks (k : Bool) (w : World) (φ' : Ren) (w' : World) (d ds : List Deferred) : Prop :=
  ∃ rs : List Nat, ds = rs.map mark ++ d ∧ (k = true → rs = []) ∧ rs.Nodup ∧ ∀ r ∈ rs, w.heap.size ≤ r ∧ r < w'.heap.size ∧ φ'.own r = none ∧ w'.heap[r]? = some (.deferred (some []))
theorem Mks.refl (k : Bool) (w : World) (φ' : Ren) (w' : World) (d : List Deferred) : Mks k w φ' w' d d := ⟨[], rfl, fun _ => rfl, List.nodup_nil, fun r h => by cases h⟩
theorem Mks.trans {k : Bool} {φ1 φ2 : Ren} {w1 w2 : World} {H1 H2 : CH} {d d1 d2 : List Deferred} (hE : Ext φ H w φ1 H1 w1) (h : Mks k w φ1 w1 d d1) (hE2 : Ext φ1 H1 w1 φ2 H2 w2) (h' : Mks k w1 φ2 w2 d1 d2) : Mks k w φ2 w2 d d2 := by
  obtain ⟨rs, rfl, hk, hn, hr⟩ := h
  obtain ⟨rs', rfl, hk', hn', hr'⟩ := h'
  refine ⟨rs' ++ rs, by simp, fun h => by rw [hk h, hk' h]; rfl, ?_, fun r hm => ?_⟩
  · refine List.nodup_append.2 ⟨hn', hn, fun a ha b hb hab => ?_⟩
    subst hab
    have := (hr' a ha).1
    have := (hr a hb).2.1
    omega
  · rcases List.mem_append.1 hm with hm | hm
    · obtain ⟨h1, h2, h3, h4⟩ := hr' r hm
      exact ⟨Nat.le_trans hE.size h1, h2, h3, h4⟩
    · obtain ⟨h1, h2, h3, h4⟩ := hr r hm
      exact ⟨h1, Nat.lt_of_lt_of_le h2 hE2.size, by rw [hE2.own r h2]; exact h3, by rw [hE2.keep r h2 (fun id hid => by rw [h3] at hid; cases hid)]; exact h4⟩
theorem Mks.eq {φ' : Ren} {d ds : List Deferred} (h : Mks true w φ' w' d ds) : ds = d := by
  obtain ⟨rs, rfl, hk, _⟩ := h
  rw [hk rfl]; rfl
/-- What a piece of code comes to. -/
def SpecM (k : Bool) (E : Env) (φ : Ren) (H : CH) (w : World) (d : List Deferred) (x : CExit) (ct' : List Value) (H' : CH) : Exit → Act → World → Prop
  | .outgrown, _, _ => False
  | e, a', w' => ∃ φ', Mks k w φ' w' d a'.defers ∧ WR E φ' H' w' ∧ Ext φ H w φ' H' w' ∧ (match x, e with
    | .normal, .normal => RelT φ' ct' a'.tmps
    | .exit i, .exit j => i = j ∧ RelT φ' ct' a'.tmps
    | .ret, .ret => RelT φ' ct' a'.tmps
    | .pan v, .panic ch => ∃ v', ch = [{ v := v', recovered := false }] ∧ VR φ' v v' ∧ RelT φ' ct' a'.tmps
    | _, _ => False)
theorem SpecM.ofQ {k : Bool} {d : List Deferred} {x : CExit} {ct' : List Value} (e : Exit) (a' : Act) (w' : World) (h : SpecQ E φ H w d x ct' H' e a' w') : SpecM k E φ H w d x ct' H' e a' w' := by
  cases e with
  | outgrown => exact False.elim h
  | _ =>
    obtain ⟨rfl, φ', h2, h3, h4⟩ := h
    exact ⟨φ', .refl _ _ _ _ _, h2, h3, h4⟩
theorem SpecM.toQ {d : List Deferred} {x : CExit} {ct' : List Value} (e : Exit) (a' : Act) (w' : World) (h : SpecM true E φ H w d x ct' H' e a' w') : SpecQ E φ H w d x ct' H' e a' w' := by
  cases e with
  | outgrown => exact False.elim h
  | _ =>
    obtain ⟨φ', h1, h2, h3, h4⟩ := h
    exact ⟨h1.eq, φ', h2, h3, h4⟩
theorem SpecM.trans {k : Bool} {φ1 : Ren} {H1 : CH} {w1 : World} (hw : WR E φ H w) (hE : Ext φ H w φ1 H1 w1) {d d1 : List Deferred} (hd : Mks k w φ1 w1 d d1) {x : CExit} {ct' : List Value} (e : Exit) (a' : Act) (w' : World) (h : SpecM k E φ1 H1 w1 d1 x ct' H' e a' w') : SpecM k E φ H w d x ct' H' e a' w' := by
  cases e with
  | outgrown => exact False.elim h
  | _ =>
    obtain ⟨φ', h1, h2, h3, h4⟩ := h
    exact ⟨φ', hd.trans hE h3 h1, h2, hE.trans hw h3, h4⟩

/-! ### worlds -/
theorem WR.push (hw : WR E φ H w) {o : Obj} (hg : Grown w w' o) : WR E φ H w' ∧ Ext φ H w φ H w' := by
  have hs := hg.size
  refine ⟨⟨fun id t b o lo hi h => ?_, hw.align, fun b id h => ⟨by have := (hw.ownlt b id h).1; omega, (hw.ownlt b id h).2⟩, hw.absent, fun b h => ?_, fun b c t fz h => ?_, hw.toks, fun g cs h => ?_⟩, ⟨Ren.le_refl φ, fun _ _ _ h => .inl h, fun _ _ => rfl, by omega, fun b hb _ => hg.old hb, hg.os, hg.tape, hg.output, Nat.le_refl _, fun _ _ _ => rfl, fun _ _ h => h⟩⟩
  · obtain ⟨h1, h2, h3⟩ := hw.obj _ _ _ _ _ _ h
    exact ⟨by omega, h2, fun ob ho => (h3 ob ho).mono (Ren.le_refl φ) rfl (hg.old h1)⟩
  · obtain ⟨c, e, fz, h1, h2⟩ := hw.len b h
    exact ⟨c, e, fz, by rw [hg.old (Array.getElem?_eq_some_iff.1 h1).1]; exact h1, h2⟩
  · obtain ⟨h1, h2⟩ := hw.frame b c t fz h
    exact ⟨h1, by rw [hg.old (Array.getElem?_eq_some_iff.1 h2).1]; exact h2⟩
  · obtain ⟨h1, h2, h3⟩ := hw.glob g cs h
    refine ⟨h1, by omega, fun j v hj => ?_⟩
    obtain ⟨v', hv, hr⟩ := h3 j v hj
    exact ⟨v', (cell_congr (hg.old h2) j none).trans hv, hr⟩
/-- A block that nothing leads to has been changed, and was no row of cells. -/
theorem WR.touch (hw : WR E φ H w) {r : Nat} {o : Obj} (hr : φ.own r = none) (hd : w.heap[r]? = some (.deferred (some []))) : WR E φ H (w.putObj r o) := by
  have hoth : ∀ b, b ≠ r → (w.putObj r o).heap[b]? = w.heap[b]? := fun b hb => World.putObj_heap_other hb
  have hnc : ∀ b o s v, w.cell? ⟨b, o, s⟩ = some v → b ≠ r := by
    intro b o s v h hb
    subst hb
    simp [World.cell?, hd] at h
  refine ⟨fun id t b o' lo hi h => ?_, hw.align, fun b id h => ⟨by have := (hw.ownlt b id h).1; simpa using this, (hw.ownlt b id h).2⟩, hw.absent, fun b h => ?_, fun b c t fz h => ?_, hw.toks, fun g cs h => ?_⟩
  · obtain ⟨h1, h2, h3⟩ := hw.obj _ _ _ _ _ _ h
    refine ⟨by simpa using h1, h2, fun ob ho => ?_⟩
    have h4 := h3 ob ho
    by_cases hb : b = r
    · subst hb
      cases ob with
      | cells c ep wep his rro =>
        obtain ⟨g1, g2, g3, g4, g5, g6, g7⟩ := h4
        cases rro with
        | false => rw [hr] at g5; cases g5
        | true =>
          refine ⟨g1, g2, g3, g4, g5, (fun h => by cases h), fun hwt => ?_⟩
          obtain ⟨k1, k2⟩ := g7 hwt
          refine ⟨k1, fun j hj hj' => ?_⟩
          obtain ⟨v', hv, _⟩ := k2 j hj hj'
          exact absurd rfl (hnc _ _ _ _ hv)
      | iter s pos => obtain ⟨q, _⟩ := h4; rw [hr] at q; cases q
      | loop => obtain ⟨q, _⟩ := h4; rw [hr] at q; cases q
      | map => obtain ⟨q, _⟩ := h4; rw [hr] at q; cases q
      | miter => obtain ⟨q, _⟩ := h4; rw [hr] at q; cases q
    · exact h4.mono (Ren.le_refl φ) rfl (hoth b hb)
  · obtain ⟨c, e, fz, h1, h2⟩ := hw.len b h
    refine ⟨c, e, fz, ?_, h2⟩
    rw [hoth b (fun hb => by subst hb; rw [hd] at h1; cases h1)]; exact h1
  · obtain ⟨h1, h2⟩ := hw.frame b c t fz h
    exact ⟨h1, by rw [hoth b (fun hb => by subst hb; rw [hd] at h2; cases h2)]; exact h2⟩
  · obtain ⟨h1, h2, h3⟩ := hw.glob g cs h
    refine ⟨h1, by simpa using h2, fun j v hj => ?_⟩
    obtain ⟨v', hv, hrv⟩ := h3 j v hj
    exact ⟨v', (cell_congr (hoth g (hnc _ _ _ _ hv)) j none).trans hv, hrv⟩
/-- The record of a loop that is under way. -/
theorem WR.loop_at (hw : WR E φ H w) {id l hi : Nat} (hat : φ.at_ id 0 = some (l, 0, 0, hi)) {st : LoopState} {pend : Option (Option Nat)} {ct : List Value} {ps : List Nat} {x y : CCode} (hg : H.get id = some (.loop st pend ct ps x y)) :
    φ.own l = some id ∧ l < w.heap.size ∧ ∃ r : Loop, w.heap[l]? = some (.loop r) ∧ LoopR E φ st pend ct ps x y r := by
  obtain ⟨hb, _, hO⟩ := hw.obj _ _ _ _ _ _ hat
  obtain ⟨h1, _, _, _, r, h2, h3⟩ := hO _ hg
  exact ⟨h1, hb, r, h2, h3⟩
/-- The record changes. -/
theorem WR.putLoop (hw : WR E φ H w) {id l hi : Nat} (hat : φ.at_ id 0 = some (l, 0, 0, hi)) {st : LoopState} {pend : Option (Option Nat)} {ct : List Value} {ps : List Nat} {x y : CCode} (hg : H.get id = some (.loop st pend ct ps x y))
    {r : Loop} (hl : w.heap[l]? = some (.loop r)) (hr : LoopR E φ st pend ct ps x y r) (st' : LoopState) (pend' : Option (Option Nat)) :
    WR E φ (H.put id (.loop st' pend' ct ps x y)) (w.putObj l (.loop { r with state := st', pending := pendC pend' })) ∧ Ext φ H w φ (H.put id (.loop st' pend' ct ps x y)) (w.putObj l (.loop { r with state := st', pending := pendC pend' })) := by
  obtain ⟨hown, hlt, _⟩ := hw.loop_at hat hg
  have hoth : ∀ b', b' ≠ l → (w.putObj l (.loop { r with state := st', pending := pendC pend' })).heap[b']? = w.heap[b']? := fun b hb => World.putObj_heap_other hb
  refine update (w' := w.putObj l (.loop { r with state := st', pending := pendC pend' })) (H' := H.put id (.loop st' pend' ct ps x y)) (ob' := .loop st' pend' ct ps x y) hw hg (Ren.le_refl φ) (fun _ _ _ => rfl) ⟨_, _, hat⟩ (fun _ _ => rfl)
    (fun b' hb' i hi' => by have := (hw.ownlt b' i hi').1; omega) (by simp) (fun b' _ hne => hoth b' fun h => hne (by rw [h]; exact hown)) ?_ ?_ (fun _ _ _ _ _ _ _ _ _ h h' => hw.align _ _ _ _ _ _ _ _ _ _ h h') rfl rfl rfl (CH.get_put H id _) rfl
  · intro t b' o' lo' hi' h
    obtain ⟨g0, _, gO⟩ := hw.obj _ _ _ _ _ _ h
    obtain ⟨g1, g2, g3, g4, r', g5, g6⟩ := gO _ hg
    subst g4
    rw [hat] at h
    simp only [Option.some.injEq, Prod.mk.injEq] at h
    refine ⟨by simpa using g0, g1, g2, g3, rfl, { r with state := st', pending := pendC pend' }, ?_, ⟨rfl, rfl, hr.tmps, hr.params, hr.assign, hr.body, hr.noA, hr.noB⟩⟩
    rw [← h.1]; exact World.putObj_heap_same hlt
  · intro b' hb'
    obtain ⟨c, e, fz, g1, g2⟩ := hw.len b' hb'
    refine ⟨c, e, fz, ?_, g2⟩
    rw [hoth b' (fun h => by rw [h, hl] at g1; cases g1)]; exact g1
/-- A new record. -/
theorem WR.newLoop (hw : WR E φ H w) {r : Loop} {ct : List Value} {ps : List Nat} {x y : CCode} (hr : LoopR E φ .ready none ct ps x y r) :
    ∃ φ', Ext φ H w φ' (H.add (.loop .ready none ct ps x y)) (w.alloc (.loop r)) ∧ WR E φ' (H.add (.loop .ready none ct ps x y)) (w.alloc (.loop r)) ∧ φ'.at_ H.next 0 = some (w.heap.size, 0, 0, 0) := by
  have hn := hw.at_lt (Nat.le_refl _)
  have hgr : Grown w (w.alloc (.loop r)) (.loop r) := ⟨rfl, rfl, rfl, rfl⟩
  have hle := Ren.ext_le (φ := φ) (id := H.next) (t := 0) (b := w.heap.size) (o := 0) (lo := 0) (hi := 0) (L := 0) (hn 0)
  refine ⟨φ.ext H.next 0 w.heap.size 0 0 0 0, Ext.extend hn hgr (Nat.le_succ _) (fun j hj => ?_) (Nat.le_refl _), ?_, Ren.ext_at⟩
  · rw [CH.get_add, if_neg (by omega)]
  · have h1 : WR E φ (H.add (.loop .ready none ct ps x y)) w := hw.put_fresh hn _ (CH.get_add H _) (Nat.le_succ _) (Nat.lt_succ_self _)
    refine h1.extend hn (Nat.lt_succ_self _) hgr (.inl rfl) fun ob' hob => ?_
    rw [CH.get_add, if_pos rfl] at hob
    simp only [Option.some.injEq] at hob
    subst hob
    exact ⟨Ren.ext_own, rfl, rfl, rfl, r, World.alloc_heap_new w _, hr.mono hle⟩

/-! ### rounds -/
def endsIn (P : Program) (l : Nat) (R : Ending → World → Prop) : Exit → Act → World → Prop
  | .normal, _, w => ∃ v w', (Instr.endRound l none).run P w = .ok v w' ∧ R (.returned v) w'
  | .ret, _, w => ∃ v w', (Instr.endRound l (some .ret)).run P w = .ok v w' ∧ R (.returned v) w'
  | .exit id, _, w => ∃ v w', (Instr.endRound l (some (.exit id))).run P w = .ok v w' ∧ R (.returned v) w'
  | .outgrown, _, _ => ∃ w', R .outgrown w'
  | _, _, _ => False
def begsIn (P : Program) (l : Nat) (body : Code) (R : Ending → World → Prop) : Exit → Act → World → Prop
  | .normal, a₁, w₁ => ∃ w₂, (Instr.beginRound l).run P w₁ = .ok () w₂ ∧ body.wpIn (FR (some l)) 0 P (endsIn P l R) a₁ w₂
  | .outgrown, _, _ => ∃ w', R .outgrown w'
  | _, _, _ => False
theorem round_of_wp {l : Nat} {f : FuncId} {tmps : Array Value} {assign body : Code} {R : Ending → World → Prop}
    (h : assign.wpIn (FR (some l)) 0 P (begsIn P l body R) { tmps := tmps, defers := [] } w) : RoundIn Fence.wide 0 P l f tmps assign body w R := by
  refine ⟨trivial, fun c cs hr => ?_⟩
  let b : Frame := { (default : Frame) with fn := f, kind := .normal, roundOf := some l }
  have hb0 : Frame.round l f tmps assign body .normal = b.atR { tmps := tmps, defers := [] } [.code assign, .beginRound, .code body] := by
    simp [Frame.round, Frame.atR, b]
  have hr' : (FR (some l)).room ((c :: cs).length + 1 + 0) := hr
  have hF' : (FR (some l)).fn b.fn := trivial
  obtain ⟨e, a₁, w₁, hq, harr⟩ := h b [.beginRound, .code body] (c :: cs) rfl hF' hr'
  rw [← hb0] at harr
  cases e with
  | normal =>
    obtain ⟨w₂, hbr, hbody⟩ := hq
    have s1 : StepsIn (Machine.fenced P (FR (some l))) P (lone (b.atR a₁ [.beginRound, .code body]) (c :: cs) w₁) (lone (b.atR a₁ [.code body]) (c :: cs) w₂) :=
      .one (fenced_calm (fr := b.atR a₁ [.beginRound, .code body]) hF' hr' rfl) (stepR_beginRound rfl hbr)
    obtain ⟨e₂, a₂, w₃, hq₂, harr₂⟩ := hbody b [] (c :: cs) rfl hF' hr'
    cases e₂ with
    | normal =>
      obtain ⟨v, w₄, hend, hR⟩ := hq₂
      exact ⟨.returned v, w₄, hR, (StepsIn.trans harr s1).trans (StepsIn.trans harr₂ (.one (fenced_calm (fr := b.atR a₂ []) hF' hr' rfl) (stepR_round_end rfl rfl hend)))⟩
    | ret =>
      obtain ⟨v, w₄, hend, hR⟩ := hq₂
      obtain ⟨k₁, hs⟩ := harr₂.2 rfl
      exact ⟨.returned v, w₄, hR, (StepsIn.trans harr s1).trans (StepsIn.trans hs (.one (fenced_calm (fr := b.atR a₂ (.code .ret :: k₁)) hF' hr' rfl) (stepR_round_ret rfl rfl hend)))⟩
    | exit id =>
      obtain ⟨v, w₄, hend, hR⟩ := hq₂
      obtain ⟨k₁, hk, hs⟩ := harr₂.2 rfl rfl
      exact ⟨.returned v, w₄, hR, (StepsIn.trans harr s1).trans (StepsIn.trans hs (.one (fenced_calm (fr := b.atR a₂ (.code (.exit id) :: k₁)) hF' hr' rfl) (stepR_round_exit rfl rfl hk hend)))⟩
    | outgrown =>
      obtain ⟨w', hR⟩ := hq₂
      have ho : Outgrown P _ := harr₂.resolve_left (by simp [b])
      exact ⟨.outgrown, w', hR, Outgrown.of_steps (StepsIn.trans harr s1).steps ho⟩
    | goto t => exact hq₂.elim
    | panic chain => exact hq₂.elim
  | outgrown =>
    obtain ⟨w', hR⟩ := hq
    have ho : Outgrown P _ := harr.resolve_left (by simp [b])
    exact ⟨.outgrown, w', hR, ho⟩
  | exit id => exact hq.elim
  | goto t => exact hq.elim
  | ret => exact hq.elim
  | panic chain => exact hq.elim

/-! ### loops and scopes, in whatever frame -/
theorem stepR_scope {b : Frame} {a : Act} {k : List Item} {cs : List Frame} {c : Code} : step P (lone (b.atR a (.code (.scope c) :: k)) cs w) = .next (lone (b.atR a (.code c :: .inScope c :: k)) cs w) :=
  step_lone_go (by simp [stepG, stepG.exec, Frame.atR])
theorem stepR_inScope {b : Frame} {a : Act} {k : List Item} {cs : List Frame} {c : Code} : step P (lone (b.atR a (.inScope c :: k)) cs w) = .next (lone (b.atR a k) cs w) :=
  step_lone_go (by simp [stepG, stepG.exec, Frame.atR])
section
variable {F : Fence} {n : Nat} {Q : Exit → Act → World → Prop} {a : Act}
theorem wpIn_scope {c : Code} (h : c.wpIn F n P (Exit.noGoto Q) a w) : (Code.scope c).wpIn F n P Q a w := by
  intro b k cs hro hb hr
  have h0 : (lone (b.atR a (.code (.scope c) :: k)) cs w).fenced P F := fenced_calm hb hr rfl
  obtain ⟨e, a₁, w₁, hq, harr⟩ := h b (.inScope c :: k) cs hro hb hr
  cases e with
  | normal => exact ⟨.normal, a₁, w₁, hq, .head h0 stepR_scope (StepsIn.trans harr (.one (fenced_calm hb hr rfl) stepR_inScope))⟩
  | exit id =>
    have hx : exitTo id (.inScope c :: k) = exitTo id k := by simp [exitTo]
    exact ⟨.exit id, a₁, w₁, hq, fun k' hk => .head h0 stepR_scope (harr.1 k' (by rw [hx]; exact hk)),
      fun hr' hk => let ⟨k₁, h1, h2⟩ := harr.2 hr' (by rw [hx]; exact hk); ⟨k₁, h1, .head h0 stepR_scope h2⟩⟩
  | goto l => exact hq.elim
  | ret => exact ⟨_, a₁, w₁, hq, .of_steps (.one h0 stepR_scope) harr⟩
  | panic ch => exact ⟨_, a₁, w₁, hq, .of_steps (.one h0 stepR_scope) harr⟩
  | outgrown => exact ⟨_, a₁, w₁, hq, .of_steps (.one h0 stepR_scope) harr⟩
def roundsI (F : Fence) (n : Nat) (P : Program) (c : Code) (Q : Exit → Act → World → Prop) : Nat → Act → World → Prop
  | 0, _, _ => False
  | m + 1, a, w => c.wpIn F n P (Exit.then (roundsI F n P c Q m) Q) a w
theorem roundsI_succ {c : Code} {m : Nat} : roundsI F n P c Q (m + 1) a w = c.wpIn F n P (Exit.then (roundsI F n P c Q m) Q) a w := rfl
theorem roundsI_mono {c : Code} {Q' : Exit → Act → World → Prop} (h : ∀ e a w, Q e a w → Q' e a w) : ∀ (m : Nat) (a : Act) (w : World), roundsI F n P c Q m a w → roundsI F n P c Q' m a w := by
  intro m
  induction m with
  | zero => intro a w h; exact h
  | succ m ih =>
    intro a w hr
    rw [roundsI_succ] at hr ⊢
    refine wpIn_mono hr fun e a1 w1 hq => ?_
    cases e with
    | normal => exact ih a1 w1 hq
    | _ => exact h _ _ _ hq
theorem wpIn_loop_rounds {c : Code} (m : Nat) (h : roundsI F n P c Q m a w) : (Code.loop c).wpIn F n P Q a w := by
  intro b k cs hro hb hr
  have key : ∀ m a w, roundsI F n P c Q m a w →
      ∃ e a' w', Q e a' w' ∧ ArrivesIn (Machine.fenced P F) P (lone (b.atR a (.code c :: .inLoop c :: k)) cs w) b k cs e a' w' := by
    intro m
    induction m with
    | zero => intro a w h; exact h.elim
    | succ m ih =>
      intro a w h
      obtain ⟨e, a₁, w₁, hq, harr⟩ := h b (.inLoop c :: k) cs hro hb hr
      cases e with
      | normal =>
        obtain ⟨e₂, a₂, w₂, hq₂, harr₂⟩ := ih a₁ w₁ hq
        exact ⟨e₂, a₂, w₂, hq₂, .of_steps (StepsIn.trans harr (.one (fenced_calm hb hr rfl) stepR_inLoop)) harr₂⟩
      | exit id => exact ⟨_, a₁, w₁, hq, .pass (x := .inLoop c) rfl (fun _ _ => .inl (by simp)) harr⟩
      | goto l => exact ⟨_, a₁, w₁, hq, .pass (x := .inLoop c) rfl (fun _ _ => .inl (by simp)) harr⟩
      | ret => exact ⟨_, a₁, w₁, hq, .pass (x := .inLoop c) rfl (fun _ _ => .inl (by simp)) harr⟩
      | panic ch => exact ⟨_, a₁, w₁, hq, .pass (x := .inLoop c) rfl (fun _ _ => .inl (by simp)) harr⟩
      | outgrown => exact ⟨_, a₁, w₁, hq, .pass (x := .inLoop c) rfl (fun _ _ => .inl (by simp)) harr⟩
  obtain ⟨e, a', w', hq, harr⟩ := key m a w h
  exact ⟨e, a', w', hq, .of_steps (.one (fenced_calm hb hr rfl) stepR_loop) harr⟩
end

/-! ### leaving -/
theorem leaves_marks {fn : Func} {tmps : Array Value} {R : Ending → World → Prop} {u : FrameMode} (hu : u ≠ .run) : ∀ (rs : List Nat) (φ : Ren) (H : CH) (w0 : World) (φ' : Ren) (w : World), rs.Nodup →
    (∀ r ∈ rs, w0.heap.size ≤ r ∧ r < w.heap.size ∧ φ'.own r = none ∧ w.heap[r]? = some (.deferred (some []))) → WR E φ' H' w → Ext φ H w0 φ' H' w →
    (∀ w', WR E φ' H' w' → Ext φ H w0 φ' H' w' → LeavesIn Fence.wide 0 P fn tmps R [] u w') → LeavesInM Fence.wide 0 P fn tmps R (rs.map mark) u w := by
  intro rs
  induction rs with
  | nil => intro φ H w0 φ' w _ _ hW hE h; exact h w hW hE
  | cons r rs ih =>
    intro φ H w0 φ' w hn hr hW hE h
    obtain ⟨h1, h2, h3, h4⟩ := hr r List.mem_cons_self
    refine ⟨hu, .inl ⟨r, w.putObj r (.deferred none), rfl, run_takeDeferred h4, ?_⟩⟩
    refine ih φ H w0 φ' _ (List.nodup_cons.1 hn).2 (fun r' hr' => ?_) (hW.touch h3 h4) ⟨hE.le, hE.new, hE.own, ?_, fun b hb hk => ?_, hE.os, hE.tape, hE.output, hE.next, hE.unmod, hE.gone⟩ h
    · obtain ⟨k1, k2, k3, k4⟩ := hr r' (List.mem_cons_of_mem _ hr')
      refine ⟨k1, by simpa using k2, k3, ?_⟩
      rw [World.putObj_heap_other (fun he => (List.nodup_cons.1 hn).1 (by rw [← he]; exact hr'))]; exact k4
    · have := hE.size; simpa using this
    · rw [World.putObj_heap_other (by omega)]; exact hE.keep b hb hk
end Go.Cl

/- A range over a map of several entries: all its orders are run. -/
import Derived.Test.YtaicnnkljmanmaaGreatDoorClExec
namespace Go.Cl
open Go
variable {P : Program} {E : Env} {φ φ' : Ren} {H H' : CH} {w w' : World} {ro : Option Nat} {k : Bool}

/-! ### the step over a map -/
abbrev Ent := Value × Value × Nat
def memN (n : Nat) : List Nat → Bool
  | [] => false
  | a :: r => Nat.beq a n || memN n r
def unseen (seen : List Nat) : List Ent → List Ent
  | [] => []
  | e :: r => bif memN e.2.2 seen then unseen seen r else e :: unseen seen r
def allOld (since : Nat) : List Ent → Bool
  | [] => true
  | e :: r => Nat.blt e.2.2 since && allOld since r
def anyOld (n : Nat) : List Ent → Bool
  | [] => false
  | e :: r => Nat.blt e.2.2 n || anyOld n r
def mnL (h : CH) (id m since : Nat) (seen : List Nat) (c : Nat) : List Ent → List (Value × CH)
  | [] => []
  | e :: r => (.tuple #[.bool true, e.1, e.2.1], h.put id (.miter (some m) since (e.2.2 :: seen) c)) :: mnL h id m since seen c r
def orOver (h : CH) (l : List (Value × CH)) : List (Value × CH) := match l with | [] => [(.tuple #[.bool false], h)] | l => l
def isNil {α : Type} : List α → Bool
  | [] => true
  | _ => false
def eMnextL (h : CH) (it : Value) : Option (List (Value × CH)) :=
  match it with
  | .pointer (some ⟨id, 0, some 0⟩) => match h.get id with
    | some (.miter (some m) since seen stepped) => match h.get m with
      | some (.map es c) => bif allOld since es && (isNil seen || anyOld stepped es) then some (orOver h (mnL h id m since seen c (unseen seen es))) else none
      | _ => none
    | _ => none
  | _ => none
theorem memN_iff {n : Nat} {l : List Nat} : memN n l = l.contains n := by
  induction l with
  | nil => rfl
  | cons a r ih =>
    simp only [memN, ih, List.contains_cons]
    congr 1
    cases h : Nat.beq a n with
    | true => rw [Nat.beq_eq] at h; subst h; simp
    | false =>
      have h : a ≠ n := fun e => by rw [e, Nat.beq_refl] at h; cases h
      simp [Ne.symm h]
theorem unseen_rel {seen : List Nat} : ∀ {es : List Ent} {es' : List MapEntry}, EsR φ es es' → EsR φ (unseen seen es) (es'.filter fun e => !seen.contains e.born)
  | _, _, .nil => .nil
  | _, _, .cons (k := k) (v := v) (b := b) hk hv hb h => by
    subst hb
    simp only [unseen, List.filter_cons, memN_iff]
    cases hc : seen.contains _ with
    | true => simpa [hc] using unseen_rel h
    | false => simpa [hc] using EsR.cons hk hv rfl (unseen_rel h)
theorem allOld_all {since : Nat} : ∀ {es : List Ent} {es' : List MapEntry}, EsR φ es es' → allOld since es = true → ∀ e ∈ es', e.born < since
  | _, _, .nil, _, e, h => by cases h
  | _, _, .cons hk hv hb hr, ha, e, h => by
    simp only [allOld, Bool.and_eq_true, Nat.blt_eq] at ha
    rcases List.mem_cons.1 h with rfl | h
    · rw [hb]; exact ha.1
    · exact allOld_all hr ha.2 e h
theorem anyOld_any {n : Nat} : ∀ {es : List Ent} {es' : List MapEntry}, EsR φ es es' → anyOld n es = true → ∃ e ∈ es', e.born < n
  | _, _, .nil, h => by cases h
  | _, _, .cons (e := e) hk hv hb hr, ha => by
    simp only [anyOld, Bool.or_eq_true, Nat.blt_eq] at ha
    rcases ha with ha | ha
    · exact ⟨e, List.mem_cons_self, by rw [hb]; exact ha⟩
    · obtain ⟨e, h1, h2⟩ := anyOld_any hr ha
      exact ⟨e, List.mem_cons_of_mem _ h1, h2⟩
theorem EsR.get {φ : Ren} : ∀ {es : List Ent} {es' : List MapEntry}, EsR φ es es' → ∀ {i : Nat} {e' : MapEntry}, es'[i]? = some e' → ∃ e, es[i]? = some e ∧ VR φ e.1 e'.key ∧ VR φ e.2.1 e'.val ∧ e'.born = e.2.2
  | _, _, .nil, i, e', h => by simp at h
  | _, _, .cons hk hv hb hr, 0, e', h => by
    simp only [List.getElem?_cons_zero, Option.some.injEq] at h
    subst h
    exact ⟨_, rfl, hk, hv, hb⟩
  | _, _, .cons hk hv hb hr, i + 1, e', h => by
    simp only [List.getElem?_cons_succ] at h
    simpa using hr.get h
theorem mnL_mem {h : CH} {id m since : Nat} {seen : List Nat} {c : Nat} : ∀ {l : List Ent} {i : Nat} {e : Ent}, l[i]? = some e → (Value.tuple #[.bool true, e.1, e.2.1], h.put id (.miter (some m) since (e.2.2 :: seen) c)) ∈ mnL h id m since seen c l
  | [], i, e, h => by simp at h
  | x :: r, 0, e, h => by
    simp only [List.getElem?_cons_zero, Option.some.injEq] at h
    subst h
    exact List.mem_cons_self
  | x :: r, i + 1, e, h => by
    simp only [List.getElem?_cons_succ] at h
    exact List.mem_cons_of_mem _ (mnL_mem h)
theorem orOver_mem {h : CH} {l : List (Value × CH)} {x : Value × CH} (hx : x ∈ l) : x ∈ orOver h l := by
  unfold orOver
  cases l with
  | nil => cases hx
  | cons a r => exact hx
/-- The tape may have been asked. -/
def Drew (w w1 : World) : Prop := w1 = w ∨ w1 = { w with drawn := w.drawn + 1 }
theorem Drew.wr (h : Drew w w') (hw : WR E φ H w) : WR E φ H w' ∧ Ext φ H w φ H w' := by
  rcases h with rfl | rfl
  · exact ⟨hw, .refl _ _ _⟩
  · exact ⟨⟨hw.obj, hw.align, hw.ownlt, hw.absent, hw.len, hw.frame, hw.toks, hw.glob⟩, ⟨Ren.le_refl φ, fun _ _ _ h => .inl h, fun _ _ => rfl, Nat.le_refl _, fun _ _ _ => rfl, rfl, rfl, rfl, Nat.le_refl _, fun _ _ _ => rfl, fun _ _ h => h⟩⟩
theorem run_choose {α : Type} (n : Nat) (hn : 1 ≤ n) (f : Nat → Sem α) : ∃ i w1, i < n ∧ Drew w w1 ∧ (Sem.choose (.mapNext n) f).run P w = (f i).run P w1 := by
  cases hf : (Question.mapNext n).forced with
  | true => exact ⟨0, w, by omega, .inl rfl, by simp only [Sem.run, hf, if_true]⟩
  | false =>
    refine ⟨(Question.mapNext n).cut (w.tape w.drawn (.mapNext n)), _, Nat.mod_lt _ (by omega), .inr rfl, ?_⟩
    simp [Sem.run, hf]
/-- What the machine does with its choice. -/
def nextK (b r since : Nat) (seen : List Nat) (c : Nat) (cand : Array (Option MapEntry)) (i : Nat) : Sem Value :=
  match cand[i]? with
  | some (some e) => do
    setObj b (.mapIter (some r) since ((⟨seen.reverse⟩ : Array Nat).push e.born) c)
    pure (.tuple #[.bool true, e.key, e.val])
  | some none => pure (.tuple #[.bool false])
  | none => stuck "Next: no such candidate"
theorem eMnextL_sound (hw : WR E φ H w) {it it' : Value} {ty : TypeId} {l : List (Value × CH)} (hit : VR φ it it') (h : eMnextL H it = some l) :
    ∃ x ∈ l, ∃ v' w', (Instr.next it' false ty).run P w = .ok v' w' ∧ WR E φ x.2 w' ∧ Ext φ H w φ x.2 w' ∧ VR φ x.1 v' := by
  unfold eMnextL at h
  split at h
  rotate_left
  · cases h
  rename_i id
  cases hit with
  | ptr har =>
  cases har with
  | st hat hlo =>
  rename_i b o lo hi
  split at h
  rotate_left
  · cases h
  rename_i m since seen stepped hg
  obtain ⟨hlt, _, hO⟩ := hw.obj _ _ _ _ _ _ hat
  obtain ⟨hown, rfl, rfl, _, m', hblk, hm⟩ := hO _ hg
  cases hm with
  | some hatm =>
  rename_i r hi2
  split at h
  rotate_left
  · cases h
  rename_i es c hgm
  obtain ⟨hcond, h0⟩ := cond_some h
  clear h
  simp only [Option.some.injEq] at h0
  subst h0
  simp only [Bool.and_eq_true] at hcond
  obtain ⟨hold, hany⟩ := hcond
  obtain ⟨_, _, hOm⟩ := hw.obj _ _ _ _ _ _ hatm
  obtain ⟨_, _, _, _, es', hblkm, hes⟩ := hOm _ hgm
  have hal := allOld_all hes hold
  have hlr := unseen_rel (seen := seen) hes
  have hnu : (!(⟨seen.reverse⟩ : Array Nat).isEmpty && !es'.isEmpty && es'.all fun e => decide (e.born ≥ stepped)) = false := by
    cases hn : isNil seen with
    | true => cases seen with
      | nil => rfl
      | cons a r => cases hn
    | false =>
      rw [hn, Bool.false_or] at hany
      obtain ⟨e, he, hlt⟩ := anyOld_any hes hany
      have : (es'.all fun e => decide (e.born ≥ stepped)) = false := by
        rw [← Bool.not_eq_true, Array.all_eq_true']
        intro hh
        have := hh e (by simpa using he)
        simp only [ge_iff_le, decide_eq_true_eq] at this
        omega
      rw [this, Bool.and_false]
  have hleft : (es'.filter fun e => !(⟨seen.reverse⟩ : Array Nat).contains e.born).toList = es'.toList.filter fun e => !seen.contains e.born := by
    rw [Array.toList_filter]
    congr 1
    funext e
    rw [← Array.contains_toList]
    simp
  generalize hL : (es'.filter fun e => !(⟨seen.reverse⟩ : Array Nat).contains e.born) = left at hleft
  have hol : left.filter (fun e => decide (e.born < since)) = left := by
    rw [Array.filter_eq_self]
    intro e he
    have he : e ∈ left.toList := by simpa using he
    rw [hleft] at he
    simpa using hal e (List.mem_filter.1 he).1
  have hne : left.filter (fun e => decide (e.born ≥ since)) = #[] := by
    rw [Array.filter_eq_empty_iff]
    intro e he
    have he : e ∈ left.toList := by simpa using he
    rw [hleft] at he
    have := hal e (List.mem_filter.1 he).1
    simp only [ge_iff_le, decide_eq_true_eq]; omega
  have hrun1 : (Instr.next (.pointer (some ⟨b, 0, none⟩)) false ty).run P w = (Sem.choose (.mapNext ((if left.isEmpty then #[none] else #[]) ++ left.map some).size) (nextK b r since seen c ((if left.isEmpty then #[none] else #[]) ++ left.map some))).run P w := by
    simp only [Instr.next, Sem.run_bind, getObj, Sem.run, hblk, Result.andThen_ok, hblkm]
    rw [hnu]
    simp only [Bool.false_eq_true, if_false, Result.andThen_ok, Sem.run_bind, Sem.run, hL, hol, hne, choose, nextK, Array.append_empty]
    generalize (Question.mapNext _).forced = fb
    cases fb <;> rfl
  generalize hC : ((if left.isEmpty then #[none] else #[]) ++ left.map some : Array (Option MapEntry)) = cand at hrun1
  have hpos : 1 ≤ cand.size := by
    rw [← hC]
    cases hle : left.isEmpty with
    | true => simp
    | false =>
      have : left.size ≠ 0 := fun h0 => by rw [Array.isEmpty_iff_size_eq_zero.2 h0] at hle; cases hle
      simp; omega
  obtain ⟨i, w1, hi1, hdrew, hrun2⟩ := run_choose (P := P) (w := w) cand.size hpos (nextK b r since seen c cand)
  rw [hrun2] at hrun1
  obtain ⟨hw1, hE1⟩ := hdrew.wr hw
  have hheap : w1.heap = w.heap := by rcases hdrew with rfl | rfl <;> rfl
  cases hle : left.isEmpty with
  | true =>
    have he0 : left = #[] := by simpa using hle
    subst he0
    simp only [List.isEmpty_nil, if_true, Array.map_empty, Array.append_empty] at hC
    subst hC
    obtain rfl : i = 0 := by simp at hi1; omega
    have hun : unseen seen es = [] := by
      rw [← hleft] at hlr
      cases hq : unseen seen es with
      | nil => rfl
      | cons a l => rw [hq] at hlr; cases hlr
    rw [hun]
    refine ⟨_, List.mem_cons_self, .tuple #[.bool false], w1, ?_, hw1, hE1, .tuple (.cons (.bool _) .nil)⟩
    rw [hrun1]; rfl
  | false =>
    rw [hle] at hC
    simp only [Bool.false_eq_true, if_false, Array.empty_append] at hC
    subst hC
    rw [Array.size_map] at hi1
    have hge : left[i]? = some left[i] := Array.getElem?_eq_getElem hi1
    have hgl : (es'.toList.filter fun e => !seen.contains e.born)[i]? = some left[i] := by rw [← hleft]; simp
    obtain ⟨e, heg, hk, hv, hb⟩ := hlr.get hgl
    have hcm : (left.map some)[i]? = some (some left[i]) := by rw [Array.getElem?_map, hge]; rfl
    unfold nextK at hrun1
    rw [hcm] at hrun1
    have hblk1 : w1.heap[b]? = some (Obj.mapIter (some r) since { toList := seen.reverse } stepped) := by rw [hheap]; exact hblk
    have hlt1 : b < w1.heap.size := by rw [hheap]; exact hlt
    refine ⟨_, orOver_mem (mnL_mem heg), .tuple #[.bool true, left[i].key, left[i].val], w1.putObj b (.mapIter (some r) since ((⟨seen.reverse⟩ : Array Nat).push left[i].born) c), ?_, ?_⟩
    · rw [hrun1]
      simp [Sem.run_bind, setObj, Sem.run, hblk1, World.putObj]
    · have hp := hw1.putOwn (o := .mapIter (some r) since ((⟨seen.reverse⟩ : Array Nat).push left[i].born) c) (ob' := .miter (some m) since (e.2.2 :: seen) c) hat hg hown hlt1 (fun c e fz h => by rw [hblk1] at h; cases h)
        ⟨hown, rfl, rfl, rfl, some r, by rw [World.putObj_heap_same hlt1, hb]; simp, .some hatm⟩ (fun t b o lo hi h => ⟨h.2.1, h.2.2.1, h.2.2.2.1⟩)
      exact ⟨hp.1, hE1.trans hw hp.2, .tuple (.cons (.bool _) (.cons hk (.cons hv .nil)))⟩
end Go.Cl

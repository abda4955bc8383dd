/- The pure operations, third part; all of them. -/
import Derived.Test.YtaicnnkljmanmaaGreatDoorClPure2
namespace Go.Cl
open Go
variable {P : Program} {φ : Ren} {w : World}

theorem foldl_put : ∀ (vs : List Value) (cs : List Value) (off k : Nat), off + k + vs.length ≤ cs.length →
    ((vs.zipIdx k).foldl (fun (a : Array Value) (x : Value × Nat) => a.setIfInBounds (off + x.2) x.1) ⟨cs⟩).toList = cs.take (off + k) ++ vs ++ cs.drop (off + k + vs.length) := by
  intro vs
  induction vs with
  | nil => intro cs off k h; simp
  | cons v vs ih =>
    intro cs off k h
    simp only [List.zipIdx_cons, List.foldl_cons]
    have e : (⟨cs⟩ : Array Value).setIfInBounds (off + k) v = ⟨cs.set (off + k) v⟩ := by
      apply Array.toList_inj.1; simp
    rw [e, ih (cs.set (off + k) v) off (k + 1) (by simp at h ⊢; omega)]
    simp only [List.length_cons] at h
    have e1 : (cs.set (off + k) v).take (off + (k + 1)) = cs.take (off + k) ++ [v] := by
      rw [show off + (k + 1) = (off + k) + 1 from by omega, List.take_succ_eq_append_getElem (by simp; omega), List.take_set_of_le (by omega)]
      simp
    have e2 : (cs.set (off + k) v).drop (off + (k + 1) + vs.length) = cs.drop (off + k + (vs.length + 1)) := by
      rw [List.drop_set_of_lt (by omega)]
      congr 1; omega
    rw [e1, e2]
    simp
inductive FA2 {α β : Type} (R : α → β → Prop) : List α → List β → Prop
  | nil : FA2 R [] []
  | cons {a : α} {b : β} {l : List α} {m : List β} (h : R a b) (h' : FA2 R l m) : FA2 R (a :: l) (b :: m)
/-- What becomes of the parts: the model's fill is ours. -/
theorem fill_sound (place : Nat → Option (Nat × Nat)) : ∀ (ps : List (Nat × Nat × Value)) (qs : List (Nat × Value)) (zs zs' : List Value) (c : List Value),
    FA2 (fun (p : Nat × Nat × Value) (q : Nat × Value) => place q.1 = some (p.1, p.2.1) ∧ VR φ p.2.2 q.2) ps qs → VRs φ zs zs' → fill zs ps = some c →
    ∃ c', Instr.fill place ⟨zs'⟩ qs = some ⟨c'⟩ ∧ VRs φ c c' := by
  intro ps
  induction ps with
  | nil =>
    intro qs zs zs' c h hz hc
    cases h
    simp [fill] at hc
    subst hc
    exact ⟨zs', rfl, hz⟩
  | cons p ps ih =>
    intro qs zs zs' c h hz hc
    cases h with
    | cons h h' =>
      rename_i q qs
      obtain ⟨hp, hv⟩ := h
      obtain ⟨off, size, v⟩ := p
      obtain ⟨i, u⟩ := q
      simp only at hp hv
      simp only [fill] at hc
      obtain ⟨hb, hc⟩ := cond_some hc
      simp only [Bool.and_eq_true, Nat.beq_eq, Nat.ble_eq] at hb
      have hcv := hv.cells
      have hl := hcv.length
      have hzl := hz.length
      simp only [Instr.fill, hp]
      have hsz : u.cells.size = size := by rw [← Array.length_toList]; omega
      rw [if_neg (by simp [hsz]; omega)]
      have hput := foldl_put u.cells.toList zs' off 0 (by simp [hsz]; omega)
      simp only [Nat.add_zero] at hput
      have hfold : (u.cells.zipIdx.foldl (fun cs (x : Value × Nat) => cs.setIfInBounds (off + x.2) x.1) (⟨zs'⟩ : Array Value)) = ⟨zs'.take off ++ u.cells.toList ++ zs'.drop (off + size)⟩ := by
        apply Array.toList_inj.1
        rw [← Array.foldl_toList, Array.toList_zipIdx, hput]
        simp [hsz]
      rw [hfold]
      exact ih qs _ _ c h' (((hz.take off).append hcv).append (hz.drop (off + size))) hc
theorem parts_struct {fs : Array Field} {ρc ρ : Operand → Value} (hr : ∀ x, okO x = true → VR φ (ρc x) (ρ x)) (place : Nat → Option (Nat × Nat))
    (hp : ∀ i f n, fs[i]? = some f → tsize P f.type = some n → place i = some (f.offset, n)) : ∀ (ps : List (Nat × Operand)) (q : List (Nat × Nat × Operand)), structParts P fs ps = some q →
    FA2 (fun (p : Nat × Nat × Value) (q : Nat × Value) => place q.1 = some (p.1, p.2.1) ∧ VR φ p.2.2 q.2) (mapPs ρc q) (ps.map fun (i, x) => (i, ρ x)) := by
  intro ps
  induction ps with
  | nil => intro q h; simp [structParts] at h; subst h; exact .nil
  | cons a ps ih =>
    intro q h
    obtain ⟨i, x⟩ := a
    simp only [structParts] at h
    split at h
    · rename_i f q' hf hq
      split at h
      · rename_i n hn
        obtain ⟨hx, h⟩ := cond_some h
        simp at h
        subst h
        exact .cons ⟨hp i f n hf hn, hr x hx⟩ (ih q' hq)
      · simp at h
    · simp at h
theorem parts_arr {n : Nat} {ρc ρ : Operand → Value} (hr : ∀ x, okO x = true → VR φ (ρc x) (ρ x)) : ∀ (ps : List (Nat × Operand)) (q : List (Nat × Nat × Operand)), arrParts n ps = some q →
    FA2 (fun (p : Nat × Nat × Value) (q : Nat × Value) => (fun i => some (i * n, n)) q.1 = some (p.1, p.2.1) ∧ VR φ p.2.2 q.2) (mapPs ρc q) (ps.map fun (i, x) => (i, ρ x)) := by
  intro ps
  induction ps with
  | nil => intro q h; simp [arrParts] at h; subst h; exact .nil
  | cons a ps ih =>
    intro q h
    obtain ⟨i, x⟩ := a
    simp only [arrParts] at h
    split at h
    · rename_i q' hq
      obtain ⟨hx, h⟩ := cond_some h
      simp at h
      subst h
      exact .cons ⟨rfl, hr x hx⟩ (ih q' hq)
    · simp at h
theorem zcells_some {t : TypeId} {z : List Value} (h : zcells P t = some z) :
    ∃ i v, P.info? t = some i ∧ i.zero = some v ∧ v.cells.toList = z ∧ z.length = i.size ∧ closedVs z = true ∧ i.bytes ≤ 1048576 ∧ tsize P t = some z.length := by
  unfold zcells at h
  split at h
  · rename_i i hi
    split at h
    · rename_i v hv
      obtain ⟨hb, h⟩ := cond_some h
      simp at h
      subst h
      simp only [Bool.and_eq_true, Nat.beq_eq, Nat.ble_eq] at hb
      have hc : v.cells.toList = cells v := by cases v <;> rfl
      exact ⟨i, v, hi, hv, hc, hb.1.1, hb.1.2, hb.2, by simp [tsize, hi, hb.1.1]⟩
    · simp at h
  · simp at h
theorem run_zeroValue' {t : TypeId} {i : TypeInfo} {v : Value} (hi : P.info? t = some i) (hv : i.zero = some v) (w : World) : (zeroValue t).run P w = .ok v w := by
  simp [zeroValue, typeInfo, hi, hv]
theorem run_sizes : ∀ (fs : List Field), (fs.all fun f => (tsize P f.type).isSome) = true → ∀ w, 
    (fs.mapM (m := Sem) fun f => do pure (f.offset, ← sizeOf f.type)).run P w = .ok (fs.map fun f => (f.offset, (tsize P f.type).getD 0)) w := by
  intro fs
  induction fs with
  | nil => intro _ w; simp
  | cons f fs ih =>
    intro h w
    simp only [List.all_cons, Bool.and_eq_true] at h
    obtain ⟨n, hn⟩ := Option.isSome_iff_exists.1 h.1
    simp only [List.mapM_cons, Sem.run_bind, run_sizeOf' hn, Result.andThen_ok, Sem.run_pure, ih h.2, List.map_cons, hn, Option.getD_some]
theorem pBuild_struct {t : TypeId} {fs : Array Field} {ps : Array (Nat × Operand)} {q : List (Nat × Nat × Operand)} {z : List Value} {v : Value} {ρc ρ : Operand → Value}
    (hu : P.underlying t = some (.struct fs)) (hz : zcells P t = some z) (hs : sized P fs = true) (hq : structParts P fs ps.toList = some q)
    (hr : ∀ x, okO x = true → VR φ (ρc x) (ρ x)) (h : pBuild (fill z (mapPs ρc q)) = some v) :
    ∃ v', (Instr.build t (ps.map fun (i, x) => (i, ρ x))).run P w = .ok v' w ∧ VR φ v v' := by
  obtain ⟨i, zv, hi, hzv, hzc, hzl, hcl, _, _⟩ := zcells_some hz
  cases hf : fill z (mapPs ρc q) with
  | none => rw [hf] at h; simp [pBuild] at h
  | some c =>
    rw [hf] at h
    simp [pBuild] at h
    subst h
    obtain ⟨c', hc', hr'⟩ := fill_sound (φ := φ) (fun i => ((fs.toList.map fun f => (f.offset, (tsize P f.type).getD 0)).toArray)[i]?) _ _ z z c
      (parts_struct hr _ (fun i f n hf hn => by simp [hf, hn]) ps.toList q hq) (VRs.closed hcl) hf
    refine ⟨.agg ⟨c'⟩, ?_, .agg hr'⟩
    have hm : (fs.mapM (m := Sem) fun f => do pure (f.offset, ← sizeOf f.type)).run P w = .ok (fs.toList.map fun f => (f.offset, (tsize P f.type).getD 0)).toArray w := by
      rw [Array.mapM_eq_mapM_toList]
      simp only [Sem.run_map, run_sizes _ hs, Result.andThen_ok]
    have hzz : zv.cells = ⟨z⟩ := Array.toList_inj.1 hzc
    simp only [Instr.build, Sem.run_bind, run_zeroValue' hi hzv, Result.andThen_ok, run_underlying hu, hm]
    have hpl : (ps.map fun (x : Nat × Operand) => (x.1, ρ x.2)).toList = ps.toList.map fun x => (x.1, ρ x.2) := by simp
    rw [hpl, hzz]
    simp only [hc']
    rfl
theorem pBuild_arr {t e : TypeId} {len n : Nat} {ps : Array (Nat × Operand)} {q : List (Nat × Nat × Operand)} {z : List Value} {v : Value} {ρc ρ : Operand → Value}
    (hu : P.underlying t = some (.array len e)) (hz : zcells P t = some z) (hn : tsize P e = some n) (hq : arrParts n ps.toList = some q)
    (hr : ∀ x, okO x = true → VR φ (ρc x) (ρ x)) (h : pBuild (fill z (mapPs ρc q)) = some v) :
    ∃ v', (Instr.build t (ps.map fun (i, x) => (i, ρ x))).run P w = .ok v' w ∧ VR φ v v' := by
  obtain ⟨i, zv, hi, hzv, hzc, hzl, hcl, _, _⟩ := zcells_some hz
  cases hf : fill z (mapPs ρc q) with
  | none => rw [hf] at h; simp [pBuild] at h
  | some c =>
    rw [hf] at h
    simp [pBuild] at h
    subst h
    obtain ⟨c', hc', hr'⟩ := fill_sound (φ := φ) (fun i => some (i * n, n)) _ _ z z c (parts_arr hr ps.toList q hq) (VRs.closed hcl) hf
    refine ⟨.agg ⟨c'⟩, ?_, .agg hr'⟩
    have hzz : zv.cells = ⟨z⟩ := Array.toList_inj.1 hzc
    simp only [Instr.build, Sem.run_bind, run_zeroValue' hi hzv, Result.andThen_ok, run_underlying hu, run_sizeOf' hn]
    have hpl : (ps.map fun (x : Nat × Operand) => (x.1, ρ x.2)).toList = ps.toList.map fun x => (x.1, ρ x.2) := by simp
    rw [hpl, hzz]
    simp only [hc']
    rfl
theorem pIaddr_sound {t e : TypeId} {n : Nat} {x x' i i' v : Value} (hu : P.underlying t = some (.slice e)) (hn : tsize P e = some n) (hx : VR φ x x') (hi : VR φ i i') (h : pIaddr n x i = some v) :
    ∃ v', (Instr.indexAt t x' i').run P w = .ok v' w ∧ VR φ v v' := by
  cases hx <;> simp only [pIaddr, reduceCtorEq] at h
  rename_i A a m C c h1 h2 h3 h4
  obtain ⟨b, o, st⟩ := A
  cases hj : cidx i m with
  | none => rw [hj] at h; simp [pPtr] at h
  | some j =>
    rw [hj] at h
    simp [pPtr] at h
    subst h
    obtain ⟨k, rfl, hlt⟩ := cidx_sound hi hj
    have har : AR φ ⟨b, o, st⟩ a := h3.2.resolve_left (by omega)
    refine ⟨.pointer (some (a.add (j * n))), ?_, .ptr (har.amv (j * n))⟩
    have hb : (0 : Int) ≤ j ∧ (j : Int) < (m : Int) := by omega
    simp [Instr.indexAt, asIntOf, run_underlying hu, run_sizeOf' hn, hlt]
theorem pIaddrA_sound {t e : TypeId} {len n : Nat} {x x' i i' v : Value} (hu : P.underlying t = some (.array len e)) (hn : tsize P e = some n) (hx : VR φ x x') (hi : VR φ i i') (h : pIaddrA len n x i = some v) :
    ∃ v', (Instr.indexAt t x' i').run P w = .ok v' w ∧ VR φ v v' := by
  cases hx <;> simp only [pIaddrA, reduceCtorEq] at h
  rename_i A a har
  obtain ⟨b, o, st⟩ := A
  simp only at h
  cases hj : cidx i len with
  | none => rw [hj] at h; simp [pPtr] at h
  | some j =>
    rw [hj] at h
    simp [pPtr] at h
    subst h
    obtain ⟨k, rfl, hlt⟩ := cidx_sound hi hj
    refine ⟨.pointer (some (a.add (j * n))), ?_, .ptr (har.amv (j * n))⟩
    have hb : (0 : Int) ≤ j ∧ (j : Int) < (len : Int) := by omega
    simp [Instr.indexAt, asIntOf, run_underlying hu, run_sizeOf' hn, hlt, Instr.sureAddr]
theorem pIdxS_sound {t : TypeId} {x x' i i' v : Value} (hu : P.underlying t = some .string) (hx : VR φ x x') (hi : VR φ i i') (h : pIdxS x i = some v) :
    ∃ v', (Instr.index t x' i').run P w = .ok v' w ∧ VR φ v v' := by
  cases hx <;> simp only [pIdxS, reduceCtorEq] at h
  rename_i s
  cases hj : cidx i (sbytes s).length with
  | none => rw [hj] at h; simp at h
  | some j =>
    rw [hj] at h
    obtain ⟨k, rfl, hlt⟩ := cidx_sound hi hj
    simp only [List.getElem?_eq_getElem hlt, Option.map_some, Option.some.injEq] at h
    subst h
    have hs : s[j]? = some (sbytes s)[j] := by
      have hl : j < s.size := by rw [← sbytes_length]; exact hlt
      rw [getElem?_pos s j hl]
      rfl
    refine ⟨_, ?_, .int _ _⟩
    have hb : (0 : Int) ≤ j := by omega
    simp [Instr.index, asIntOf, run_underlying hu, hs]
theorem pIdxA_sound {t e : TypeId} {len n : Nat} {ag : Bool} {x x' i i' v : Value} (hu : P.underlying t = some (.array len e)) (hn : tsize P e = some n) (ha : tagg P e = some ag) (hx : VR φ x x') (hi : VR φ i i')
    (h : pIdxA len n ag x i = some v) : ∃ v', (Instr.index t x' i').run P w = .ok v' w ∧ VR φ v v' := by
  cases hx <;> simp only [pIdxA, reduceCtorEq] at h
  rename_i xs ys hx
  cases hj : cidx i len with
  | none => rw [hj] at h; simp at h
  | some j =>
    rw [hj] at h
    simp only at h
    obtain ⟨k, rfl, hlt⟩ := cidx_sound hi hj
    have hl : tload P e = some (bif ag then some n else none) := by unfold tload; rw [ha]; cases ag <;> simp [hn]
    obtain ⟨v', hv', r⟩ := part_sound (P := P) (w := w) (off := j * n) (v := v) hl hx (by cases ag <;> simpa [pFld] using h)
    refine ⟨v', ?_, r⟩
    have hb : (0 : Int) ≤ j ∧ (j : Int) < (len : Int) := by omega
    simp [Instr.index, asIntOf, run_underlying hu, run_sizeOf' hn, hlt, hv']
theorem run_bounds {isS : Bool} {n top : Nat} {lo lo' hi hi' : Option Value} {h l : Nat} (hh : OV φ hi hi') (hl : OV φ lo lo') (h1 : cbound hi n n = some h) (h2 : cbound lo h 0 = some l) (hn : n ≤ top) :
    (Instr.sliceBounds isS n top lo' hi' none).run P w = .ok (l, h, top) w ∧ l ≤ h ∧ h ≤ n := by
  have hle : h ≤ n ∧ ((hi' = none ∧ h = n) ∨ ∃ k, hi' = some (.int k (h : Int))) := by
    rcases cbound_sound hh h1 with ⟨_, e, rfl⟩ | ⟨k, _, e, hle⟩
    · exact ⟨Nat.le_refl _, .inl ⟨e, rfl⟩⟩
    · exact ⟨hle, .inr ⟨k, e⟩⟩
  have hll : l ≤ h ∧ ((lo' = none ∧ l = 0) ∨ ∃ k, lo' = some (.int k (l : Int))) := by
    rcases cbound_sound hl h2 with ⟨_, e, rfl⟩ | ⟨k, _, e, hle⟩
    · exact ⟨Nat.zero_le _, .inl ⟨e, rfl⟩⟩
    · exact ⟨hle, .inr ⟨k, e⟩⟩
  refine ⟨?_, hll.1, hle.1⟩
  rcases hle.2 with ⟨rfl, rfl⟩ | ⟨k, rfl⟩ <;> rcases hll.2 with ⟨rfl, rfl⟩ | ⟨k', rfl⟩ <;>
    simp [Instr.sliceBounds, run_sliceBound hll.1, run_sliceBound (Nat.le_trans hle.1 hn)]
theorem run_bounds3 {isS : Bool} {n top : Nat} {lo lo' hi hi' mx mx' : Option Value} {m h l : Nat} (hm : OV φ mx mx') (hh : OV φ hi hi') (hl : OV φ lo lo') (hms : mx.isSome = true) (hhs : hi.isSome = true)
    (h0 : cbound mx n 0 = some m) (h1 : cbound hi m m = some h) (h2 : cbound lo h 0 = some l) (hn : n ≤ top) :
    (Instr.sliceBounds isS n top lo' hi' mx').run P w = .ok (l, h, m) w ∧ l ≤ h ∧ h ≤ m ∧ m ≤ n := by
  obtain ⟨km, rfl, hmle⟩ : ∃ k, mx' = some (.int k (m : Int)) ∧ m ≤ n := by
    rcases cbound_sound hm h0 with ⟨e, _, _⟩ | ⟨k, _, e, hle⟩
    · subst e; cases hms
    · exact ⟨k, e, hle⟩
  obtain ⟨kh, rfl, hhle⟩ : ∃ k, hi' = some (.int k (h : Int)) ∧ h ≤ m := by
    rcases cbound_sound hh h1 with ⟨e, _, _⟩ | ⟨k, _, e, hle⟩
    · subst e; cases hhs
    · exact ⟨k, e, hle⟩
  have hll : l ≤ h ∧ ((lo' = none ∧ l = 0) ∨ ∃ k, lo' = some (.int k (l : Int))) := by
    rcases cbound_sound hl h2 with ⟨_, e, rfl⟩ | ⟨k, _, e, hle⟩
    · exact ⟨Nat.zero_le _, .inl ⟨e, rfl⟩⟩
    · exact ⟨hle, .inr ⟨k, e⟩⟩
  refine ⟨?_, hll.1, hhle, hmle⟩
  rcases hll.2 with ⟨rfl, rfl⟩ | ⟨k', rfl⟩ <;>
    simp [Instr.sliceBounds, run_sliceBound hll.1, run_sliceBound hhle, run_sliceBound (Nat.le_trans hmle hn)]
end Go.Cl

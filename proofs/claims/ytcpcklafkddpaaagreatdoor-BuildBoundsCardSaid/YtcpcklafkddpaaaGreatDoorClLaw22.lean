/- BuildBounds: the law's code; what came in, opened. -/
import Derived.Test.YtcpcklafkddpaaaGreatDoorClBound
import Derived.Test.YtcpcklafkddpaaaGreatDoorClGreat4
namespace Go.Cl
open Go
set_option linter.unusedSimpArgs false
set_option linter.unusedVariables false
set_option maxRecDepth 4000
/-- isinglass/isinglasslaw22.BuildBounds; p0: isinglass/isinglassref17.Great; p1: isinglass/isinglasslaw22.known; p2: isinglass/build.Bound; p3: isinglass/isinglassref22.Bound -/
def law22F (p0 p1 p2 p3 : Nat) : CFun := ⟨36,
  (.seq (.rg false [⟨(some 6), none, .n (.box 5 (.tmp 1))⟩,
  ⟨(some 10), none, .p (.mv (.const (.bool false)))⟩]) (.seq (.seq (.rg false [⟨(some 11), none, .p (.mv (.tmp 0))⟩,
  ⟨(some 12), none, .l 0 0 (.var (some 5) (.tmp 6))⟩,
  ⟨(some 13), none, .e true (.call p0 [(.tmp 11), (.tmp 12)])⟩,
  ⟨(some 14), none, .p (.mv (.tmp 13))⟩,
  ⟨(some 15), (some (14, false)), .p (.mv (.tmp 3))⟩,
  ⟨(some 16), (some (14, false)), .p (.lenSl (.tmp 15))⟩,
  ⟨(some 17), (some (14, false)), .p (.bin .gtr (.tmp 16) (.const (.int .i64 300)))⟩,
  ⟨(some 18), none, .p (.pick (.tmp 14) (.const (.bool true)) (.tmp 17))⟩]) (.cond (.tmp 18) (.seq (.rg false [⟨(some 19), none, .e true (.call p1 [])⟩,
  ⟨(some 10), none, .p (.mv (.tmp 19))⟩]) .ret) .skip)) (.seq (.rg true [⟨(some 20), none, .p (.mv (.tmp 0))⟩,
  ⟨(some 21), none, .l 0 0 (.var (some 5) (.tmp 6))⟩,
  ⟨(some 22), none, .p (.mv (.tmp 2))⟩,
  ⟨(some 23), none, .p (.mv (.tmp 3))⟩,
  ⟨(some 24), none, .p (.mv (.tmp 4))⟩,
  ⟨(some 25), none, .e true (.call p2 [(.tmp 20), (.tmp 21), (.tmp 22), (.tmp 23), (.tmp 24)])⟩,
  ⟨(some 26), none, .p (.mv (.tmp 0))⟩,
  ⟨(some 27), none, .l 0 1 (.var (some 5) (.tmp 6))⟩,
  ⟨(some 28), none, .p (.mv (.tmp 2))⟩,
  ⟨(some 29), none, .p (.mv (.tmp 3))⟩,
  ⟨(some 30), none, .p (.mv (.tmp 4))⟩,
  ⟨(some 31), none, .e true (.call p3 [(.tmp 26), (.tmp 27), (.tmp 28), (.tmp 29), (.tmp 30)])⟩,
  ⟨(some 32), none, .p (.bin .eql (.tmp 25) (.tmp 31))⟩,
  ⟨(some 33), none, .p (.mv (.tmp 32))⟩,
  ⟨(some 34), (some (33, true)), .e true (.call p1 [])⟩,
  ⟨(some 35), none, .p (.pick (.tmp 33) (.tmp 34) (.const (.bool false)))⟩,
  ⟨(some 10), none, .p (.mv (.tmp 35))⟩]) .ret))),
  [.tmp 10]⟩
section
variable {E : Env} {I : CallF → CallF} {N : Nat}
/-- What is answered from ahead. -/
def Knows (I : CallF → CallF) (f : FuncId) (v : Value) : Prop := ∀ call h, (I call).fn f [] h = some (.ret v, h)
theorem Knows.call {f : FuncId} {v : Value} (hk : Knows I f v) {d : Nat} {h : CH} : Fc (ccall E I N (d + 1)) f [] h (fun r h' => r = v ∧ h' = h) := by
  refine ⟨v, h, ?_, rfl, rfl⟩
  simp only [ccall, hk _ h]
theorem law22_ok {f gr kn bd rb ft dm hs' my fg hi nm fd ix fl xi rft rmy rnm rdm hs'' : FuncId} (hf : HasF E I f (law22F gr kn bd rb)) (hgr : HasF E I gr rGreatF) (hkn : Knows I kn (.bool true)) (hbd : HasF E I bd (boundF ft dm hs')) (hrb : HasF E I rb (rBoundF rft hs''))
    (hft : HasF E I ft (fitsF my dm fg hi)) (hmy : HasF E I my (mayF nm fd)) (hnm : HasF E I nm isNameF) (hfd : HasF E I fd (findF ix fl)) (hix : HasF E I ix ixColF) (hfl : HasF E I fl findLF)
    (hdm : HasF E I dm dimF) (hfg : HasF E I fg (flaggedF dm)) (hhi : HasF E I hi (hasIntF xi)) (hxi : HasF E I xi ixIntF) (hhs : HasF E I hs' hasF)
    (hrft : HasF E I rft (rFitsF rmy rdm hs'')) (hrmy : HasF E I rmy (rMayF rnm)) (hrnm : HasF E I rnm rNameF) (hrdm : HasF E I rdm dimF) (hrhs : HasF E I hs'' hasF)
    {d : Nat} {cols : List Col} {c : Conf} {rows texts : Int} {many : List Int} {v mv iv rv sv : Value} {h : CH}
    (hs : SlG E v cols.length 2 (colCells cols)) (hc : ConfC E c iv rv sv) (hmv : SlG E mv many.length 1 (many.map (.int .i64))) (hN : cols.length < N) (hI : cols.length ≤ maxI) (hnl : ∀ c ∈ cols, c.1.length < N) (hni : ∀ c ∈ cols, c.1.length ≤ maxI)
    (hN1 : c.inv.length < N) (hI1 : c.inv.length ≤ maxI) (hN2 : c.rng.length < N) (hI2 : c.rng.length ≤ maxI) (hN3 : c.split.length < N) (hI3 : c.split.length ≤ maxI) (hN4 : many.length < N) (hI4 : many.length ≤ maxI) :
    Fc (ccall E I N (d + 7)) f [v, .agg ⟨[.int .i64 c.sort, iv, rv, sv, .int .i64 c.leaf]⟩, .int .i64 rows, mv, .int .i64 texts] h (fun r _ => r = .bool true) := by
  refine hf.body (by rfl) (by simp [law22F]) fun τ hτ => ?_
  have g0 : τ 0 = v := hτ 0 (by simp)
  have g1 : τ 1 = .agg ⟨[.int .i64 c.sort, iv, rv, sv, .int .i64 c.leaf]⟩ := hτ 1 (by simp)
  have g2 : τ 2 = .int .i64 rows := hτ 2 (by simp)
  have g3 : τ 3 = mv := hτ 3 (by simp)
  have g4 : τ 4 = .int .i64 texts := hτ 4 (by simp)
  have lN0 : ∀ H, H.get h.next = some (fresh [.int .i64 c.sort, iv, rv, sv, .int .i64 c.leaf]) → lVar E H (some 5) (.pointer (some ⟨h.next, 0, some 0⟩)) = some (.agg ⟨[.int .i64 c.sort, iv, rv, sv, .int .i64 c.leaf]⟩) := fun H hg => lVar_freshN hg rfl
  obtain ⟨a4, C4, hmm⟩ := hmv.form
  obtain ⟨a1, C1, hiv⟩ := hc.inv.form
  obtain ⟨a2, C2, hrv⟩ := hc.rng.form
  obtain ⟨a3, C3, hsv⟩ := hc.split.form
  have g3' := g3
  rw [hmm] at g3'
  have hself : selfV (.agg ⟨[.int .i64 c.sort, iv, rv, sv, .int .i64 c.leaf]⟩) = true := by rw [hiv, hrv, hsv]; rfl
  simp [law22F, g0, g1, nBox, cells, ptr0, lN0 _ get_new]
  refine eT_call (rGreat_ok (d := d + 5) hgr hs hc hN hI) fun v2 h2 ⟨bb, hv, hb, hk2⟩ => ?_
  subst hv
  have hg2 := (hk2.2 h.next (by simp)).trans get_new
  have hid2 : h.next < h2.next := Nat.lt_of_lt_of_le (by simp) hk2.1
  cases bb with
  | true =>
    simp [g0, g2, g3', g4]
    refine eT_call (hkn.call (d := d + 5)) fun v3 h3 ⟨hv, _⟩ => ?_
    subst hv
    simp
  | false =>
    by_cases k1 : (300 : Int) < (many.length : Nat)
    · simp [g0, g2, g3', g4, k1]
      refine eT_call (hkn.call (d := d + 5)) fun v3 h3 ⟨hv, _⟩ => ?_
      subst hv
      simp
    · simp [g0, g2, g3', g4, k1]
      have hg3 : CH.get ⟨h2.next + 17, h2.objs⟩ h.next = some (fresh [.int .i64 c.sort, iv, rv, sv, .int .i64 c.leaf]) := hg2
      simp [g0, g2, g3, g4, lN0 _ hg3]
      refine dE_call (bound_ok (d := d) hbd hft hmy hnm hfd hix hfl hdm hfg hhi hxi hhs hs hc hmv hN hI hnl hN1 hI1 hN2 hI2 hN3 hI3 hN4 hI4) fun v4 h4 ⟨r4, hv, hp4, hk4⟩ => ?_
      subst hv
      have hid3 : h.next < (⟨h2.next + 17, h2.objs⟩ : CH).next := Nat.lt_of_lt_of_le hid2 (Nat.le_add_right _ _)
      have hg4 := (hk4.2 _ hid3).trans hg3
      have hid4 := Nat.lt_of_lt_of_le hid3 hk4.1
      simp [g0, g2, g3, g4, lN0 _ hg4]
      refine dE_call (rBound_ok (d := d + 2) hrb hrft hrmy hrnm hrdm hrhs hs hc hmv hN hI hnl hni hN3 hI3 hN4 hI4) fun v5 h5 ⟨r5, hv, hp5, hk5⟩ => ?_
      subst hv
      obtain rfl := hp4.eq hp5
      simp
      refine dE_call (hkn.call (d := d + 5)) fun v6 h6 ⟨hv, hh⟩ => ?_
      subst hv hh
      simp
      refine endD_mk ?_ rfl ?_
      · intro r hr
        simp at hr
        rcases hr with rfl | rfl
        · intro g hg
          simp at hg
          rcases hg with rfl | rfl
          · exact ⟨_, by simp [lN0 _ hg3], veqb_self hself⟩
          · exact ⟨_, by simp [lN0 _ hg4], veqb_self hself⟩
        · intro g hg
          simp at hg
          subst hg
          exact ⟨_, by simp [lN0 _ hg3], veqb_self hself⟩
      · simp
end

/-! ### what came in -/
theorem rows_of {α : Type} {g : Nat → Option (List Value)} (f : α → List Value) {z : Nat} (hz : ∀ a, (f a).length = z) {b o : Nat} : ∀ {m : Nat}, (∀ j, j < m → ∃ cs, g b = some cs ∧ ∃ a, takeN z (cs.drop (o + j * z)) = some (f a)) →
    ∃ as : List α, as.length = m ∧ (m = 0 ∨ ∃ cs, g b = some cs ∧ as.flatMap f <+: cs.drop o)
  | 0, _ => ⟨[], rfl, .inl rfl⟩
  | m + 1, h => by
    obtain ⟨as, hl, hr⟩ := rows_of f hz (m := m) fun j hj => h j (by omega)
    obtain ⟨cs, hg, a, ha⟩ := h m (by omega)
    refine ⟨as ++ [a], by simp [hl], .inr ⟨cs, hg, ?_⟩⟩
    have hfl : (as.flatMap f).length = m * z := by
      rw [← hl]
      clear hl hr
      induction as with
      | nil => simp
      | cons x r ih => simp only [List.flatMap_cons, List.length_append, hz, ih, List.length_cons]; rw [Nat.succ_mul, Nat.add_comm]
    have hpre : as.flatMap f <+: cs.drop o := by
      rcases hr with rfl | ⟨cs', hg', hp⟩
      · cases as with
        | nil => exact List.nil_prefix
        | cons x r => simp at hl
      · rw [hg] at hg'
        injection hg' with hg'
        subst hg'
        exact hp
    obtain ⟨rest, hrest⟩ := hpre
    obtain ⟨htk, hle⟩ := takeN_some ha
    have hd : (cs.drop o).drop (m * z) = rest := by rw [← hrest, List.drop_append_of_le_length (by omega), List.drop_of_length_le (by omega), List.nil_append]
    rw [List.drop_drop] at hd
    rw [hd] at htk
    refine ⟨rest.drop z, ?_⟩
    rw [List.flatMap_append, List.flatMap_cons, List.flatMap_nil, List.append_nil, htk, List.append_assoc, List.take_append_drop, hrest]
variable {H : Type} {enc : TypeId × Value → H} {P : Program} {w : World} {held : Bool}
/-- A slice that came in. -/
theorem slice_rows {α : Type} (f : α → List Value) {z : Nat} (hz : ∀ a, (f a).length = z) {t e : TypeId} (ht : P.underlying t = some (.slice e)) (he : P.cellsOf e = z) (hp : 0 < z)
    (hrow : ∀ (fu : Nat) (c : List Value) (y : DataW H × List MemPlace), DataW.trod enc P w 0 (fun _ => true) held fu e c = some y → ∃ a, cleanVs c = f a)
    {fuel : Nat} {v : Value} {x : DataW H × List MemPlace} (h : DataW.trod enc P w 0 (fun _ => true) held fuel t [v] = some x) {E : Env} (hE : E.glob = frmGlob (wFrm w)) :
    ∃ as : List α, as.length ≤ maxLen ∧ SlG E (cleanV v) as.length z (as.flatMap f) := by
  have hlen : ∀ as : List α, (as.flatMap f).length = as.length * z := fun as => by
    induction as with
    | nil => simp
    | cons x r ih => simp only [List.flatMap_cons, List.length_append, hz, ih, List.length_cons]; rw [Nat.succ_mul, Nat.add_comm]
  rcases slice_clean ht (by rw [he]; exact hp) h with hc | ⟨b, o, m, fu, _, hc, hm, hj⟩
  · exact ⟨[], Nat.zero_le _, by simp, .inl ⟨hc, rfl⟩⟩
  · obtain ⟨as, hl, hr⟩ := rows_of (g := frmGlob (wFrm w)) f hz (b := b) (o := o) (m := m) fun j hjm => by
      obtain ⟨cs, hcs, c5, h5, y, hy⟩ := hj j hjm
      obtain ⟨a, ha⟩ := hrow _ _ _ hy
      rw [he, ha] at h5
      exact ⟨cs, hcs, a, h5⟩
    subst hl
    refine ⟨as, hm, hlen as, .inr ⟨b, o, _, hc, ?_⟩⟩
    rcases hr with h0 | ⟨cs, hg, hp⟩
    · exact .inl h0
    · exact .inr ⟨cs, by rw [hE]; exact hg, hp⟩
theorem bool_row {t : TypeId} (ht : P.underlying t = some .bool) (fu : Nat) (c : List Value) (y : DataW H × List MemPlace) (h : DataW.trod enc P w 0 (fun _ => true) held fu t c = some y) : ∃ b : Bool, cleanVs c = [.bool b] := by
  obtain ⟨b, rfl, _⟩ := DataW.trod_bool ht h
  exact ⟨b, by simp only [cleanVs, cleanV]⟩
theorem int_row {t : TypeId} {k : IntKind} (ht : P.underlying t = some (.int k)) (fu : Nat) (c : List Value) (y : DataW H × List MemPlace) (h : DataW.trod enc P w 0 (fun _ => true) held fu t c = some y) : ∃ n : Int, cleanVs c = [.int k n] := by
  obtain ⟨n, rfl, _⟩ := DataW.trod_int ht h
  exact ⟨n, by simp only [cleanVs, cleanV]⟩
/-- A column's text is a list of at most maxLen bytes. -/
abbrev ColS := { c : Col // c.1.length ≤ maxLen }
theorem col_row {t : TypeId} {fs : Array Field} {f0 f1 : Field} (ht : P.underlying t = some (.struct fs)) (h2 : P.cellsOf t = 2) (hf0 : fs[0]? = some f0) (o0 : f0.offset = 0) (z0 : P.cellsOf f0.type = 1) (u0 : P.underlying f0.type = some .string)
    (hf1 : fs[1]? = some f1) (o1 : f1.offset = 1) (z1 : P.cellsOf f1.type = 1) (u1 : P.underlying f1.type = some (.int .u8)) (fu : Nat) (c : List Value) (y : DataW H × List MemPlace) (h : DataW.trod enc P w 0 (fun _ => true) held fu t c = some y) :
    ∃ a : ColS, cleanVs c = [.string (mkstr a.1.1), .int .u8 (a.1.2 : Nat)] := by
  obtain ⟨xs, n, rfl, _, hl, hxl, hF⟩ := DataW.trod_struct ht h
  rw [h2] at hl
  obtain ⟨c0, c1, rfl⟩ : ∃ c0 c1, c = [c0, c1] := by
    match c, hl with
    | [c0, c1], _ => exact ⟨c0, c1, rfl⟩
  have l0 : (0 : Nat) < fs.size := (Array.getElem?_eq_some_iff.1 hf0).1
  have l1 : (1 : Nat) < fs.size := (Array.getElem?_eq_some_iff.1 hf1).1
  have g0 := hF 0 f0 hf0
  have g1 := hF 1 f1 hf1
  rw [o0, z0, List.getElem?_eq_getElem (by omega)] at g0
  rw [o1, z1, List.getElem?_eq_getElem (by omega)] at g1
  obtain ⟨s, hs, _, hsz⟩ := DataW.trod_string u0 g0
  obtain ⟨k, hk, _, hwf⟩ := DataW.trod_int u1 g1
  simp only [List.drop_zero, List.take_succ_cons, List.take_zero, List.cons.injEq, and_true] at hs
  simp only [List.drop_succ_cons, List.drop_zero, List.take_succ_cons, List.take_zero, List.cons.injEq, and_true] at hk
  subst hs hk
  have h0 : 0 ≤ k := by
    simp only [Lit.wf, Bool.and_eq_true, decide_eq_true_eq] at hwf
    first | (have := hwf.1; simpa [IntKind.min, IntKind.signed] using this) | (simp [IntKind.min, IntKind.signed] at hwf; omega)
  obtain ⟨k', rfl⟩ := Int.eq_ofNat_of_zero_le h0
  refine ⟨⟨(sbytes s, k'), ?_⟩, by simp only [cleanVs, cleanV]; rfl⟩
  show (sbytes s).length ≤ maxLen
  rw [sbytes_length]; exact hsz
/-- A configuration's cells. -/
theorem conf_of {t tb ti : TypeId} {fs : Array Field} {f0 f1 f2 f3 f4 : Field} (ht : P.underlying t = some (.struct fs)) (h5 : P.cellsOf t = 5) (hb : P.underlying tb = some .bool) (cb : P.cellsOf tb = 1) (hi : P.underlying ti = some (.int .i64)) (ci : P.cellsOf ti = 1)
    (g0 : fs[0]? = some f0 ∧ f0.offset = 0 ∧ P.cellsOf f0.type = 1 ∧ P.underlying f0.type = some (.int .i64))
    (g1 : fs[1]? = some f1 ∧ f1.offset = 1 ∧ P.cellsOf f1.type = 1 ∧ P.underlying f1.type = some (.slice tb))
    (g2 : fs[2]? = some f2 ∧ f2.offset = 2 ∧ P.cellsOf f2.type = 1 ∧ P.underlying f2.type = some (.slice tb))
    (g3 : fs[3]? = some f3 ∧ f3.offset = 3 ∧ P.cellsOf f3.type = 1 ∧ P.underlying f3.type = some (.slice ti))
    (g4 : fs[4]? = some f4 ∧ f4.offset = 4 ∧ P.cellsOf f4.type = 1 ∧ P.underlying f4.type = some (.int .i64))
    {fuel : Nat} {cs : List Value} {x : DataW H × List MemPlace} (h : DataW.trod enc P w 0 (fun _ => true) held fuel t cs = some x) {E : Env} (hE : E.glob = frmGlob (wFrm w)) :
    ∃ (c : Conf) (iv rv sv : Value), cleanVs cs = [.int .i64 c.sort, iv, rv, sv, .int .i64 c.leaf] ∧ ConfC E c iv rv sv ∧ c.inv.length ≤ maxLen ∧ c.rng.length ≤ maxLen ∧ c.split.length ≤ maxLen := by
  obtain ⟨xs, n, rfl, _, hl, hxl, hF⟩ := DataW.trod_struct ht h
  rw [h5] at hl
  obtain ⟨a0, a1, a2, a3, a4, rfl⟩ : ∃ a0 a1 a2 a3 a4, cs = [a0, a1, a2, a3, a4] := by
    match cs, hl with
    | [a0, a1, a2, a3, a4], _ => exact ⟨a0, a1, a2, a3, a4, rfl⟩
  have ls : ∀ i f, fs[i]? = some f → i < xs.length := fun i f hf => by rw [hxl]; exact (Array.getElem?_eq_some_iff.1 hf).1
  have r0 := hF 0 f0 g0.1
  have r1 := hF 1 f1 g1.1
  have r2 := hF 2 f2 g2.1
  have r3 := hF 3 f3 g3.1
  have r4 := hF 4 f4 g4.1
  rw [g0.2.1, g0.2.2.1, List.getElem?_eq_getElem (ls _ _ g0.1)] at r0
  rw [g1.2.1, g1.2.2.1, List.getElem?_eq_getElem (ls _ _ g1.1)] at r1
  rw [g2.2.1, g2.2.2.1, List.getElem?_eq_getElem (ls _ _ g2.1)] at r2
  rw [g3.2.1, g3.2.2.1, List.getElem?_eq_getElem (ls _ _ g3.1)] at r3
  rw [g4.2.1, g4.2.2.1, List.getElem?_eq_getElem (ls _ _ g4.1)] at r4
  obtain ⟨n0, e0, _⟩ := DataW.trod_int g0.2.2.2 r0
  obtain ⟨n4, e4, _⟩ := DataW.trod_int g4.2.2.2 r4
  obtain ⟨inv, hi1, hi2⟩ := slice_rows (fun b : Bool => [Value.bool b]) (fun _ => rfl) g1.2.2.2 cb (by decide) (bool_row hb) r1 hE
  obtain ⟨rng, hr1, hr2⟩ := slice_rows (fun b : Bool => [Value.bool b]) (fun _ => rfl) g2.2.2.2 cb (by decide) (bool_row hb) r2 hE
  obtain ⟨sp, hs1, hs2⟩ := slice_rows (fun n : Int => [Value.int .i64 n]) (fun _ => rfl) g3.2.2.2 ci (by decide) (int_row hi) r3 hE
  simp only [List.drop_zero, List.take_succ_cons, List.take_zero, List.cons.injEq, and_true] at e0
  simp only [List.drop_succ_cons, List.drop_zero, List.take_succ_cons, List.take_zero, List.cons.injEq, and_true] at e4
  subst e0 e4
  have fb : ∀ l : List Bool, l.flatMap (fun b => [Value.bool b]) = l.map .bool := fun l => by induction l with | nil => rfl | cons a r ih => simp [List.flatMap_cons, ih]
  have fi : ∀ l : List Int, l.flatMap (fun b => [Value.int .i64 b]) = l.map (.int .i64) := fun l => by induction l with | nil => rfl | cons a r ih => simp [List.flatMap_cons, ih]
  rw [fb] at hi2 hr2
  rw [fi] at hs2
  exact ⟨⟨n0, inv, rng, sp, n4⟩, cleanV a1, cleanV a2, cleanV a3, by simp only [cleanVs, cleanV], ⟨hi2, hr2, hs2⟩, hi1, hr1, hs1⟩
end Go.Cl

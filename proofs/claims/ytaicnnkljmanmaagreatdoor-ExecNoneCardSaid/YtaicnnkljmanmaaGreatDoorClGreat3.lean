/- What reads as data is laid as a tree: the blocks of the world that it lies in, as the evaluator's variables. -/
import Derived.Test.YtaicnnkljmanmaaGreatDoorClGreat2
import Derived.ChangeArms
import Derived.DataReads
import Derived.ChangeShapes
namespace Go.Cl
open Go
/-- A world's blocks of cells, as a frame. -/
def wFrm (w : World) (b : Nat) : Option (Array Value × TypeId × (Nat × Nat)) :=
  match w.heap[b]? with
  | some (.cells c t fz) => some (c, t, fz)
  | _ => none
theorem wFrm_some {w : World} {b : Nat} {c : Array Value} {t : TypeId} {fz : Nat × Nat} (h : wFrm w b = some (c, t, fz)) : w.heap[b]? = some (.cells c t fz) := by
  unfold wFrm at h
  split at h
  · rename_i hh; simp only [Option.some.injEq, Prod.mk.injEq] at h; obtain ⟨rfl, rfl, rfl⟩ := h; exact hh
  · cases h
theorem wFrm_mk {w : World} {b : Nat} {c : Array Value} {t : TypeId} {fz : Nat × Nat} (h : w.heap[b]? = some (.cells c t fz)) : wFrm w b = some (c, t, fz) := by
  unfold wFrm; rw [h]
theorem takeN_of : ∀ {n : Nat} {l : List Value}, n ≤ l.length → takeN n l = some (l.take n)
  | 0, _, _ => by simp [takeN]
  | n + 1, [], h => by simp at h
  | n + 1, v :: r, h => by simp only [takeN, takeN_of (n := n) (l := r) (by simpa using h)]; simp
theorem cell_spot {w : World} {a : Addr} {v : Value} (h : w.cell? a = some v) : a.spot = none ∧ ∃ c t fz, w.heap[a.block]? = some (.cells c t fz) ∧ c[a.off]? = some v := by
  unfold World.cell? at h
  split at h
  · rename_i c t fz hh
    split at h
    · cases h
    · rename_i hs
      exact ⟨by simpa using hs, c, t, fz, hh, h⟩
  · cases h
theorem clean_row {w : World} {base b o n : Nat} {c : Array Value} {t : TypeId} {fz : Nat × Nat} {cs : List Value} (hb : w.heap[b]? = some (.cells c t fz)) (h : w.cells? base ⟨b, o, none⟩ n = some cs) :
    takeN n ((cleanVs c.toList).drop o) = some (cleanVs cs) := by
  obtain ⟨_, hl, hc⟩ := World.cells?_some h
  have e : (c.toList.drop o).take n = cs := by
    refine List.ext_getElem? fun i => ?_
    by_cases hi : i < n
    · have := hc i hi
      rw [add_none _ rfl] at this
      unfold World.cell? at this
      simp only [hb, Option.isSome_none, Bool.false_eq_true, if_false] at this
      rw [List.getElem?_take_of_lt hi, List.getElem?_drop, Array.getElem?_toList, this]
    · rw [List.getElem?_eq_none (by simp; omega), List.getElem?_eq_none (by omega)]
  have hlen : n ≤ (c.toList.drop o).length := by
    have := congrArg List.length e
    simp only [List.length_take] at this
    omega
  rw [cleanVs_map, ← List.map_drop, takeN_of (by rw [List.length_map]; exact hlen), ← List.map_take, e, cleanVs_map]
variable {H : Type} {enc : TypeId × Value → H} {P : Program} {w : World} {held : Bool}
theorem slice_clean {t e : TypeId} {fuel : Nat} {v : Value} {x : DataW H × List MemPlace} (ht : P.underlying t = some (.slice e)) (hp : 0 < P.cellsOf e) (h : DataW.trod enc P w 0 (fun _ => true) held fuel t [v] = some x) :
    cleanV v = .slice none 0 0 ∨ ∃ b o m fu, fuel = fu + 1 ∧ cleanV v = .slice (some ⟨b, o, none⟩) m (mkC m 0 false) ∧ m ≤ maxLen ∧
      ∀ j, j < m → ∃ cs, frmGlob (wFrm w) b = some cs ∧ ∃ c5, takeN (P.cellsOf e) (cs.drop (o + j * P.cellsOf e)) = some (cleanVs c5) ∧ ∃ y, DataW.trod enc P w 0 (fun _ => true) held fu e c5 = some y := by
  rcases DataW.trod_slice ht h with ⟨hv, _⟩ | ⟨⟨b, o, s⟩, m, cap, elems, rest, fu, rfl, hv, _, _, hle, hmx, hel, hE, hR, _⟩
  · simp only [List.cons.injEq, and_true] at hv
    subst hv
    exact .inl rfl
  · simp only [List.cons.injEq, and_true] at hv
    subst hv
    right
    have key : ∀ j, (∃ y, (w.cells? 0 ((⟨b, o, s⟩ : Addr).add (j * P.cellsOf e)) (P.cellsOf e)).bind (DataW.trod enc P w 0 (fun _ => true) held fu e) = some y) → s = none ∨ 0 < j := by
      intro j ⟨y, hy⟩
      rcases Nat.eq_zero_or_pos j with rfl | hj
      · left
        obtain ⟨c5, h5, _⟩ := Option.bind_eq_some_iff.1 hy
        obtain ⟨_, hl, hc⟩ := World.cells?_some h5
        have h0 := hc 0 hp
        simp only [Nat.zero_mul] at h0
        have e0 : ((⟨b, o, s⟩ : Addr).add 0).add 0 = ⟨b, o, s⟩ := by simp [Addr.add]
        rw [e0] at h0
        obtain ⟨v0, hv0⟩ : ∃ v0, c5[0]? = some v0 := ⟨c5[0], by rw [List.getElem?_eq_getElem (by omega)]⟩
        rw [hv0] at h0
        exact (cell_spot h0).1
      · exact .inr hj
    have hex : ∀ i, i < m → ∃ y, elems[i]? = some y := fun i hi => ⟨elems[i], by rw [List.getElem?_eq_getElem (by omega)]⟩
    by_cases hs : s = none
    · subst hs
      refine ⟨b, o, m, fu, rfl, ?_, by omega, fun j hj => ?_⟩
      · have : Nat.ble m cap = true := by rw [Nat.ble_eq]; exact hle
        simp only [cleanV, this, cond_true]
      · obtain ⟨y, hy⟩ := hex j hj
        have h1 := hE j hj
        rw [hy] at h1
        obtain ⟨c5, h5, hy5⟩ := Option.bind_eq_some_iff.1 h1
        obtain ⟨_, hl, hc⟩ := World.cells?_some h5
        have h0 := hc 0 hp
        obtain ⟨v0, hv0⟩ : ∃ v0, c5[0]? = some v0 := ⟨c5[0], by rw [List.getElem?_eq_getElem (by omega)]⟩
        rw [hv0] at h0
        obtain ⟨_, c, t', fz, hb, _⟩ := cell_spot h0
        have hb' : w.heap[b]? = some (.cells c t' fz) := by
          rw [add_none ⟨b, o, none⟩ rfl, add_none _ rfl] at hb; exact hb
        rw [add_none ⟨b, o, none⟩ rfl] at h5
        exact ⟨_, by unfold frmGlob; rw [wFrm_mk hb']; rfl, c5, clean_row hb' h5, y, hy5⟩
    · have hm0 : m = 0 := by
        rcases Nat.eq_zero_or_pos m with h0 | h0
        · exact h0
        · obtain ⟨y, hy⟩ := hex 0 h0
          have := hE 0 h0
          rw [hy] at this
          rcases key 0 ⟨y, this⟩ with h1 | h1
          · exact absurd h1 hs
          · omega
      subst hm0
      have hc0 : cap = 0 := by
        rcases Nat.eq_zero_or_pos cap with h0 | h0
        · exact h0
        · obtain ⟨hrl, hR⟩ := hR rfl
          have h1 := hR 0 (by omega)
          have hy : rest[0]? = some rest[0] := by rw [List.getElem?_eq_getElem (by omega)]
          rw [hy] at h1
          simp only [Nat.add_zero] at h1
          rcases key 0 ⟨_, h1⟩ with h1 | h1
          · exact absurd h1 hs
          · omega
      subst hc0
      obtain ⟨s, rfl⟩ : ∃ s', s = some s' := by cases s with | none => exact absurd rfl hs | some s => exact ⟨s, rfl⟩
      exact ⟨b, o, 0, fu, rfl, rfl, Nat.zero_le _, fun j hj => absurd hj (Nat.not_lt_zero _)⟩
theorem NodeT.succ {g : Nat → Option (List Value)} {N : Nat} : ∀ {d : Nat} {c : List Value}, NodeT g N d c → NodeT g N (d + 1) c := by
  intro d
  induction d with
  | zero => intro c h; cases h
  | succ d ih =>
    intro c h
    obtain ⟨op, kids, col, cmp, va, vm, vc, m, rfl, hk, h1, h2⟩ := h
    refine ⟨op, kids, col, cmp, va, vm, vc, m, rfl, hk.imp id fun ⟨b, o, C, he, hj⟩ => ⟨b, o, C, he, fun j hjm => ?_⟩, h1, h2⟩
    obtain ⟨cs, hcs, c5, h5, hT⟩ := hj j hjm
    exact ⟨cs, hcs, c5, h5, ih hT⟩
theorem TestT.succ {g : Nat → Option (List Value)} {N : Nat} : ∀ {d : Nat} {c : List Value}, TestT g N d c → TestT g N (d + 1) c := by
  intro d
  induction d with
  | zero => intro c h; cases h
  | succ d ih =>
    intro c h
    obtain ⟨op, kids, out, cmp, v1, v2, v3, m, rfl, hk, h1, h2⟩ := h
    refine ⟨op, kids, out, cmp, v1, v2, v3, m, rfl, hk.imp id fun ⟨b, o, C, he, hj⟩ => ⟨b, o, C, he, fun j hjm => ?_⟩, h1, h2⟩
    obtain ⟨cs, hcs, c5, h5, hT⟩ := hj j hjm
    exact ⟨cs, hcs, c5, h5, ih hT⟩
theorem node_of {tN e4 : TypeId} {fs : Array Field} {f1 f4 : Field} (hs : P.underlying tN = some (.struct fs)) (h5 : P.cellsOf tN = 5) (hf1 : fs[1]? = some f1) (o1 : f1.offset = 1) (z1 : P.cellsOf f1.type = 1) (u1 : P.underlying f1.type = some (.slice tN))
    (hf4 : fs[4]? = some f4) (o4 : f4.offset = 4) (z4 : P.cellsOf f4.type = 1) (u4 : P.underlying f4.type = some (.slice e4)) (p4 : 0 < P.cellsOf e4) :
    ∀ (fuel : Nat) (cs : List Value) (x : DataW H × List MemPlace), DataW.trod enc P w 0 (fun _ => true) held fuel tN cs = some x → NodeT (frmGlob (wFrm w)) (maxLen + 1) fuel (cleanVs cs) := by
  intro fuel
  induction fuel using Nat.strongRecOn with
  | _ fuel ih =>
    intro cs x h
    obtain ⟨xs, n, rfl, _, hl, hxl, hF⟩ := DataW.trod_struct hs h
    rw [h5] at hl
    obtain ⟨c0, c1, c2, c3, c4, rfl⟩ : ∃ c0 c1 c2 c3 c4, cs = [c0, c1, c2, c3, c4] := by
      match cs, hl with
      | [c0, c1, c2, c3, c4], _ => exact ⟨c0, c1, c2, c3, c4, rfl⟩
    have l1 : (1 : Nat) < fs.size := (Array.getElem?_eq_some_iff.1 hf1).1
    have l4 : (4 : Nat) < fs.size := (Array.getElem?_eq_some_iff.1 hf4).1
    have g1 := hF 1 f1 hf1
    have g4 := hF 4 f4 hf4
    rw [o1, z1, List.getElem?_eq_getElem (by omega)] at g1
    rw [o4, z4, List.getElem?_eq_getElem (by omega)] at g4
    have hv : ∃ va vm vc, cleanV c4 = .slice va vm vc := by
      rcases slice_clean u4 p4 g4 with hc | ⟨b, o, m, fu, _, hc, _⟩
      · exact ⟨_, _, _, hc⟩
      · exact ⟨_, _, _, hc⟩
    obtain ⟨va, vm, vc, hv⟩ := hv
    rcases slice_clean u1 (by omega) g1 with hc | ⟨b, o, m, fu, rfl, hc, hm, hj⟩
    · exact ⟨cleanV c0, .slice none 0 0, cleanV c2, cleanV c3, va, vm, vc, 0, by simp only [cleanVs, hc, hv], .inl ⟨rfl, rfl⟩, by unfold maxLen; omega, Nat.zero_le _⟩
    · refine ⟨cleanV c0, .slice (some ⟨b, o, none⟩) m (mkC m 0 false), cleanV c2, cleanV c3, va, vm, vc, m, by simp only [cleanVs, hc, hv], .inr ⟨b, o, _, rfl, fun j hjm => ?_⟩, by omega, by unfold maxLen at hm; unfold maxI; omega⟩
      obtain ⟨cs', hcs', c5, hc5, y, hy⟩ := hj j hjm
      rw [h5] at hc5
      exact ⟨cs', hcs', _, hc5, (ih fu (by omega) c5 y hy).succ⟩
theorem test_of {tN : TypeId} {fs : Array Field} {f1 : Field} (hs : P.underlying tN = some (.struct fs)) (h5 : P.cellsOf tN = 7) (hf1 : fs[1]? = some f1) (o1 : f1.offset = 1) (z1 : P.cellsOf f1.type = 1) (u1 : P.underlying f1.type = some (.slice tN)) :
    ∀ (fuel : Nat) (cs : List Value) (x : DataW H × List MemPlace), DataW.trod enc P w 0 (fun _ => true) held fuel tN cs = some x → TestT (frmGlob (wFrm w)) (maxLen + 1) fuel (cleanVs cs) := by
  intro fuel
  induction fuel using Nat.strongRecOn with
  | _ fuel ih =>
    intro cs x h
    obtain ⟨xs, n, rfl, _, hl, hxl, hF⟩ := DataW.trod_struct hs h
    rw [h5] at hl
    obtain ⟨c0, c1, c2, c3, c4, c5, c6, rfl⟩ : ∃ c0 c1 c2 c3 c4 c5 c6, cs = [c0, c1, c2, c3, c4, c5, c6] := by
      match cs, hl with
      | [c0, c1, c2, c3, c4, c5, c6], _ => exact ⟨c0, c1, c2, c3, c4, c5, c6, rfl⟩
    have l1 : (1 : Nat) < fs.size := (Array.getElem?_eq_some_iff.1 hf1).1
    have g1 := hF 1 f1 hf1
    rw [o1, z1, List.getElem?_eq_getElem (by omega)] at g1
    rcases slice_clean u1 (by omega) g1 with hc | ⟨b, o, m, fu, rfl, hc, hm, hj⟩
    · exact ⟨cleanV c0, .slice none 0 0, cleanV c2, cleanV c3, cleanV c4, cleanV c5, cleanV c6, 0, by simp only [cleanVs, hc], .inl ⟨rfl, rfl⟩, by unfold maxLen; omega, Nat.zero_le _⟩
    · refine ⟨cleanV c0, .slice (some ⟨b, o, none⟩) m (mkC m 0 false), cleanV c2, cleanV c3, cleanV c4, cleanV c5, cleanV c6, m, by simp only [cleanVs, hc], .inr ⟨b, o, _, rfl, fun j hjm => ?_⟩, by omega, by unfold maxLen at hm; unfold maxI; omega⟩
      obtain ⟨cs', hcs', c5', hc5, y, hy⟩ := hj j hjm
      rw [h5] at hc5
      exact ⟨cs', hcs', _, hc5, (ih fu (by omega) c5' y hy).succ⟩
end Go.Cl

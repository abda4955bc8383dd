/- The contract of Great: on a question that reads as data, one answer, the same in every world that bears the blocks of this one. -/
import Derived.Test.YtaicnnkljmanmaaGreatDoorClGreat3
import Derived.WideShapes
namespace Go.Cl
open Go
variable {H : Type} {enc : TypeId × Value → H} {P : Program} {w : World} {held : Bool}
/-- A question's cells, cleaned. -/
theorem query_of {tQ tN tT e1 e2 e5 : TypeId} {fs : Array Field} {f0 f1 f2 f3 f4 : Field} (hQ : P.underlying tQ = some (.struct fs)) (c16 : P.cellsOf tQ = 16)
    (g0 : fs[0]? = some f0 ∧ f0.offset = 0 ∧ f0.type = tN ∧ P.cellsOf tN = 5)
    (g1 : fs[1]? = some f1 ∧ f1.offset = 5 ∧ P.cellsOf f1.type = 1 ∧ P.underlying f1.type = some (.slice e1) ∧ 0 < P.cellsOf e1)
    (g2 : fs[2]? = some f2 ∧ f2.offset = 6 ∧ P.cellsOf f2.type = 1 ∧ P.underlying f2.type = some (.slice e2) ∧ 0 < P.cellsOf e2)
    (g3 : fs[3]? = some f3 ∧ f3.offset = 7 ∧ f3.type = tT ∧ P.cellsOf tT = 7)
    (g4 : fs[4]? = some f4 ∧ f4.offset = 14 ∧ P.cellsOf f4.type = 1 ∧ P.underlying f4.type = some (.slice e5) ∧ 0 < P.cellsOf e5)
    (hN : ∀ (fuel : Nat) (cs : List Value) (x : DataW H × List MemPlace), DataW.trod enc P w 0 (fun _ => true) held fuel tN cs = some x → NodeT (frmGlob (wFrm w)) (maxLen + 1) fuel (cleanVs cs))
    (hT : ∀ (fuel : Nat) (cs : List Value) (x : DataW H × List MemPlace), DataW.trod enc P w 0 (fun _ => true) held fuel tT cs = some x → TestT (frmGlob (wFrm w)) (maxLen + 1) fuel (cleanVs cs))
    {fuel : Nat} {cs : List Value} {x : DataW H × List MemPlace} (h : DataW.trod enc P w 0 (fun _ => true) held fuel tQ cs = some x) :
    ∃ (d : Nat) (n0 n1 n2 n3 n4 t0 t1 t2 t3 t4 t5 t6 li : Value) (ba aa oa : Option Addr) (bm bc am ac om oc : Nat), cs.length = 16 ∧ cleanVs cs = [n0, n1, n2, n3, n4, .slice ba bm bc, .slice aa am ac, t0, t1, t2, t3, t4, t5, t6, .slice oa om oc, li] ∧
      NodeT (frmGlob (wFrm w)) (maxLen + 1) d [n0, n1, n2, n3, n4] ∧ TestT (frmGlob (wFrm w)) (maxLen + 1) d [t0, t1, t2, t3, t4, t5, t6] := by
  obtain ⟨xs, n, rfl, _, hl, hxl, hF⟩ := DataW.trod_struct hQ h
  rw [c16] at hl
  obtain ⟨a0, a1, a2, a3, a4, a5, a6, a7, a8, a9, b0, b1, b2, b3, b4, b5, rfl⟩ : ∃ a0 a1 a2 a3 a4 a5 a6 a7 a8 a9 b0 b1 b2 b3 b4 b5, cs = [a0, a1, a2, a3, a4, a5, a6, a7, a8, a9, b0, b1, b2, b3, b4, b5] := by
    match cs, hl with
    | [a0, a1, a2, a3, a4, a5, a6, a7, a8, a9, b0, b1, b2, b3, b4, b5], _ => exact ⟨a0, a1, a2, a3, a4, a5, a6, a7, a8, a9, b0, b1, b2, b3, b4, b5, rfl⟩
  have ls : ∀ i f, fs[i]? = some f → i < xs.length := fun i f hf => by rw [hxl]; exact (Array.getElem?_eq_some_iff.1 hf).1
  have r0 := hF 0 f0 g0.1
  have r1 := hF 1 f1 g1.1
  have r2 := hF 2 f2 g2.1
  have r3 := hF 3 f3 g3.1
  have r4 := hF 4 f4 g4.1
  rw [g0.2.1, g0.2.2.1, g0.2.2.2, List.getElem?_eq_getElem (ls _ _ g0.1)] at r0
  rw [g1.2.1, g1.2.2.1, List.getElem?_eq_getElem (ls _ _ g1.1)] at r1
  rw [g2.2.1, g2.2.2.1, List.getElem?_eq_getElem (ls _ _ g2.1)] at r2
  rw [g3.2.1, g3.2.2.1, g3.2.2.2, List.getElem?_eq_getElem (ls _ _ g3.1)] at r3
  rw [g4.2.1, g4.2.2.1, List.getElem?_eq_getElem (ls _ _ g4.1)] at r4
  have sl : ∀ {t e : TypeId} {v : Value} {y : DataW H × List MemPlace}, P.underlying t = some (.slice e) → 0 < P.cellsOf e → DataW.trod enc P w 0 (fun _ => true) held n t [v] = some y → ∃ va vm vc, cleanV v = .slice va vm vc := by
    intro t e v y ht hp h
    rcases slice_clean ht hp h with hc | ⟨b, o, m, fu, _, hc, _⟩
    · exact ⟨_, _, _, hc⟩
    · exact ⟨_, _, _, hc⟩
  obtain ⟨ba, bm, bc, s1⟩ := sl g1.2.2.2.1 g1.2.2.2.2 r1
  obtain ⟨aa, am, ac, s2⟩ := sl g2.2.2.2.1 g2.2.2.2.2 r2
  obtain ⟨oa, om, oc, s4⟩ := sl g4.2.2.2.1 g4.2.2.2.2 r4
  exact ⟨n, cleanV a0, cleanV a1, cleanV a2, cleanV a3, cleanV a4, cleanV a7, cleanV a8, cleanV a9, cleanV b0, cleanV b1, cleanV b2, cleanV b3, cleanV b5, ba, aa, oa, bm, bc, am, ac, om, oc, rfl, by simp only [cleanVs, s1, s2, s4], hN _ _ _ r0, hT _ _ _ r3⟩
/-- THE CONTRACT. -/
theorem great_contract {KK : List TypeId} (hK : eqGood P KK) (hmix : P.follows .mixedOrders = true) {tab : Tr CFun} (hTab : ∀ f fn, tab.get f = some fn → compF P KK f = some fn ∧ plainFn P f = true)
    {gr sz ts : Nat} (hg : tab.get gr = some (greatF sz ts)) (hz : tab.get sz = some (sizeF sz)) (ht : tab.get ts = some (testF ts)) (tok : Nat → Value) {d : Nat}
    {n0 n1 n2 n3 n4 t0 t1 t2 t3 t4 t5 t6 li : Value} {ba aa oa : Option Addr} {bm bc am ac om oc : Nat} {cs : List Value}
    (hc : cleanVs cs = [n0, n1, n2, n3, n4, .slice ba bm bc, .slice aa am ac, t0, t1, t2, t3, t4, t5, t6, .slice oa om oc, li])
    (hN : NodeT (frmGlob (wFrm w)) (maxLen + 1) d [n0, n1, n2, n3, n4]) (hT : TestT (frmGlob (wFrm w)) (maxLen + 1) d [t0, t1, t2, t3, t4, t5, t6]) :
    ∃ b, ∀ w' : World, (∀ b' c t fz, wFrm w b' = some (c, t, fz) → w'.heap[b']? = some (.cells c t fz)) → Calls P gr ⟨[.agg ⟨cs⟩]⟩ w' (Kept (.bool b) w') := by
  let Eg : Env := ⟨tab, frmGlob (wFrm w), comp P KK, tok, wFrm w⟩
  have hcs : CallSound P Eg (ccall Eg none1 (maxLen + 1) (d + 1)) := ccall_sound hK hmix (E := Eg) ⟨hTab, rfl⟩ (fun call _ => none1_sound call) (maxLen + 1) (d + 1)
  obtain ⟨b, H1, hr⟩ := great_total (E := Eg) (N := maxLen + 1) hg hz ht (ba := ba) (bm := bm) (bc := bc) (aa := aa) (am := am) (ac := ac) (oa := oa) (om := om) (oc := oc) (li := li) hN hT H0
  refine ⟨b, fun w' hF => ?_⟩
  refine frame_calls hcs rfl (v := .bool b) (H1 := H1) rfl ?_ hF
  rw [← hr]
  simp only [cleanVs, cleanV, hc]
/-- Cells that are never looked into as truth values. -/
def opqT (P : Program) (u : TypeId) : Bool :=
  match P.underlying u with
  | some (.int _) => true
  | some .string => true
  | some (.slice _) => true
  | _ => false
theorem okWide_opq {r : Reach} {base : Nat} {u : TypeId} {v : Value} (hu : opqT P u = true) (h : Cell.okWide P w r base u v) : opqV v = true := by
  unfold opqT at hu
  unfold Cell.okWide Cell.ok at h
  split at hu
  · rename_i k e
    rw [e] at h
    cases v <;> first | rfl | (simp at h)
  · rename_i e
    rw [e] at h
    cases v <;> first | rfl | (simp at h)
  · rename_i e' e
    rw [e] at h
    cases v <;> first | rfl | (simp at h)
  · cases hu
theorem row_opq {r : Reach} {base : Nat} {t : TypeId} {cs : List Value} {ts : List TypeId} (hts : P.cellTypes P.depth t = some ts) (hall : ts.all (opqT P) = true) (h : Row.okWide P w r base t ⟨cs⟩) : ∀ v ∈ cs, opqV v = true := by
  obtain ⟨ts', hts', _, hv⟩ := h
  rw [hts] at hts'
  injection hts' with e
  subst e
  intro v hm
  obtain ⟨i, hi⟩ := List.getElem?_of_mem hm
  obtain ⟨u, hu, hok⟩ := hv i v (by simpa using hi)
  exact okWide_opq (List.all_eq_true.1 hall u (List.mem_of_getElem? hu)) hok
end Go.Cl

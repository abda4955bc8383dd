/- All operations with an effect but the calls. -/
import Derived.Test.YtaicnnkljmanmaaGreatDoorClMap
namespace Go.Cl
open Go
variable {P : Program} {E : Env} {φ φ' : Ren} {H H' : CH} {w w' : World}

theorem cdecode_eq {l : List UInt8} {pos : Nat} (h : pos < l.length) : cdecode l pos = Utf8.decode (mkstr l) pos := by
  unfold cdecode
  rw [List.getElem?_eq_getElem h]
  simp only
  cases hb : Nat.blt (l[pos]).toNat 128 with
  | false => rfl
  | true =>
    have hlt : (l[pos]).toNat < 128 := by
      unfold Nat.blt at hb; rw [Nat.ble_eq] at hb; omega
    have hsz : pos < (mkstr l).size := by rw [← sbytes_length]; exact h
    have hget : ((mkstr l)[pos]'hsz) = l[pos] := rfl
    simp only [cond_true]
    rw [decode_ascii (mkstr l) pos hsz (by rw [hget]; exact hlt), hget]; rfl
theorem eNext_sound (hw : WR E φ H w) {it it' v : Value} {ty : TypeId} (hi : VR φ it it') (h : eNext H it = some (.ret v, H')) :
    ∃ w', (Instr.next it' true ty).run P w = .ok v w' ∧ VR φ v v ∧ WR E φ H' w' ∧ Ext φ H w φ H' w' := by
  unfold eNext at h
  split at h
  · rename_i id
    split at h
    · rename_i l pos hob
      cases hi with
      | ptr har =>
        cases har with
        | st hat hlo =>
          rename_i b o lo hi
          obtain ⟨hb, hid, hO⟩ := hw.obj _ _ _ _ _ _ hat
          obtain ⟨hown, rfl, rfl, _, hblk⟩ := hO _ hob
          have hsz : (mkstr l).size = l.length := by rw [← sbytes_length]; rfl
          cases hlt : Nat.blt pos l.length with
          | false =>
            rw [hlt] at h
            simp only [cond_false, Option.some.injEq, Prod.mk.injEq, Out.ret.injEq] at h
            obtain ⟨rfl, rfl⟩ := h
            have : ¬ pos < (mkstr l).size := by
              rw [hsz]; intro h; unfold Nat.blt at hlt; rw [← Bool.not_eq_true, Nat.ble_eq] at hlt; omega
            refine ⟨w, ?_, .tuple (.cons (.bool _) .nil), hw, .refl _ _ _⟩
            simp [Instr.next, getObj, Sem.run, hblk, this]
          | true =>
            rw [hlt] at h
            have hlt' : pos < l.length := by unfold Nat.blt at hlt; rw [Nat.ble_eq] at hlt; omega
            simp only [cond_true, Option.some.injEq, Prod.mk.injEq, Out.ret.injEq] at h
            obtain ⟨rfl, rfl⟩ := h
            rw [cdecode_eq hlt']
            generalize hd : Utf8.decode (mkstr l) pos = rw'
            obtain ⟨rn, wd⟩ := rw'
            have hblk' : ({ w with heap := w.heap.setIfInBounds b (.stringIter (mkstr l) (pos + wd)) } : World).heap[b]? = some (.stringIter (mkstr l) (pos + wd)) := by
              simp [Array.getElem?_setIfInBounds, hb]
            have hoth : ∀ b', b' ≠ b → ({ w with heap := w.heap.setIfInBounds b (.stringIter (mkstr l) (pos + wd)) } : World).heap[b']? = w.heap[b']? := by
              intro b' hb'
              simp only [Array.getElem?_setIfInBounds]
              rw [if_neg (fun h => hb' h.symm)]
            have hup := update (w' := { w with heap := w.heap.setIfInBounds b (.stringIter (mkstr l) (pos + wd)) }) (H' := H.put id (.iter l (pos + wd))) (ob' := .iter l (pos + wd)) hw hob (Ren.le_refl φ) (fun _ _ _ => rfl) ⟨_, _, hat⟩ (fun _ _ => rfl)
              (fun b' hb' i hi' => by have := (hw.ownlt b' i hi').1; omega) (by simp) (fun b' _ hne => hoth b' fun h => hne (by rw [h]; exact hown)) ?_ ?_ (fun _ _ _ _ _ _ _ _ _ h h' => hw.align _ _ _ _ _ _ _ _ _ _ h h') rfl rfl rfl (CH.get_put H id _) rfl
            · refine ⟨_, ?_, .tuple (.cons (.bool _) (.cons (.int _ _) (.cons (.int _ _) .nil))), hup.1, hup.2⟩
              have hps : pos < (mkstr l).size := by rw [hsz]; exact hlt'
              simp [Instr.next, getObj, setObj, Sem.run, hblk, hps, hd, goInt]
            · intro t b' o' lo' hi' h
              obtain ⟨g0, _, gO⟩ := hw.obj _ _ _ _ _ _ h
              obtain ⟨g1, g2, g3, g4, g5⟩ := gO _ hob
              refine ⟨by simpa using g0, g1, g2, g3, g4, ?_⟩
              subst g4
              rw [hat] at h
              simp only [Option.some.injEq, Prod.mk.injEq] at h
              rw [← h.1]; exact hblk'
            · intro b' hb'
              obtain ⟨c, e, fz, g1, g2⟩ := hw.len b' hb'
              refine ⟨c, e, fz, ?_, g2⟩
              rw [hoth b' (fun h => by rw [h, hblk] at g1; cases g1)]; exact g1
    · simp at h
  · simp at h
theorem eMark_sound (hw : WR E φ H w) {x x' v : Value} (hx : VR φ x x') (h : eMark H x = some (.ret v, H')) :
    ∃ a n c w', x' = .slice (some a) n c ∧ (markStringish a).run P w = .ok () w' ∧ v = x ∧ WR E φ H' w' ∧ Ext φ H w φ H' w' := by
  unfold eMark at h
  split at h
  · rename_i id off t n C
    split at h
    · rename_i cc ep wep his hob
      simp only [Option.some.injEq, Prod.mk.injEq, Out.ret.injEq] at h
      obtain ⟨rfl, rfl⟩ := h
      cases hx with
      | sl h1 h2 h3 h4 =>
        rename_i a c
        have har := h3.2.resolve_left (by omega)
        cases har with
        | st hat hlo =>
          rename_i b o lo hi
          obtain ⟨hb, hid, hO⟩ := hw.obj _ _ _ _ _ _ hat
          obtain ⟨g1, g2, g3, g4, hown, hcalm, hcell⟩ := hO _ hob
          simp only [Bool.false_eq_true, if_false] at hown
          obtain ⟨cs, e, fl, fu, hblk, hf⟩ := hcalm rfl
          have hrun := run_markStringish (P := P) (a := ⟨b, o + (off - lo), none⟩) hblk
          refine ⟨_, _, _, _, rfl, hrun, rfl, ?_⟩
          have hnew : ∃ fz : Nat × Nat, (w.freeze ⟨b, cs.size, none⟩ 1).heap[b]? = some (.cells cs e fz) ∧ (fz.1 = fz.2 ∨ cs.size ≤ fz.1) := by
            refine ⟨if fl == fu then (cs.size, cs.size + 1) else (min fl cs.size, max fu (cs.size + 1)), ?_, ?_⟩
            · simp [World.freeze, Array.getElem?_modify, hblk]
            · right
              split
              · exact Nat.le_refl _
              · rename_i hne
                rcases hf with hf | hf
                · subst hf; simp at hne
                · simp only [Nat.le_min]; exact ⟨hf, Nat.le_refl _⟩
          obtain ⟨fz, hnew, hfz⟩ := hnew
          have hW : Wrote w (w.freeze ⟨b, cs.size, none⟩ 1) b cs e fz := ⟨hnew, fun b' hb' => by
            simp only [World.freeze, Nat.reduceEqDiff, if_false, Array.getElem?_modify]
            rw [if_neg (fun h => hb' h.symm)], by simp [World.freeze], rfl, rfl, rfl⟩
          refine update (ob' := .cells cc ep wep his false) hw hob (Ren.le_refl φ) (fun _ _ _ => rfl) ⟨_, _, hat⟩ (fun _ _ => rfl)
              (fun b' hb' i hi' => by have := (hw.ownlt b' i hi').1; omega) (by rw [hW.size]; exact Nat.le_refl _) (fun b' _ hne => hW.other b' fun h => hne (by rw [h]; exact hown)) ?_ ?_ (fun _ _ _ _ _ _ _ _ _ h h' => hw.align _ _ _ _ _ _ _ _ _ _ h h') hW.os hW.tape hW.output (fun j => by split <;> simp_all) rfl
          · intro t' b' o' lo' hi' h
            obtain ⟨k0, _, kO⟩ := hw.obj _ _ _ _ _ _ h
            obtain ⟨k1, k2, k3, k4, k5, k6, k7⟩ := kO _ hob
            refine ⟨by rw [hW.size]; exact k0, k1, k2, k3, k4, k5, fun hr => ?_, fun hwt => ⟨(k7 hwt).1, fun j hj hj' => ?_⟩⟩
            · by_cases hbb : b' = b
              · subst hbb; obtain ⟨l, u⟩ := fz; exact ⟨cs, e, l, u, hnew, hfz⟩
              · exact (k6 hr).congr (hW.other b' hbb)
            · obtain ⟨v', hv, hvr⟩ := (k7 hwt).2 j hj hj'
              refine ⟨v', ?_, hvr⟩
              by_cases hbb : b' = b
              · subst hbb; rw [cell_of hnew, ← cell_of hblk]; exact hv
              · rw [cell_congr (hW.other b' hbb)]; exact hv
          · intro b' hb'
            obtain ⟨c1, e1, f1, q1, q2⟩ := hw.len b' hb'
            by_cases hbb : b' = b
            · subst hbb
              rw [hblk] at q1
              simp only [Option.some.injEq, Obj.cells.injEq] at q1
              obtain ⟨rfl, rfl, _⟩ := q1
              exact ⟨_, _, fz, hnew, q2⟩
            · exact ⟨c1, e1, f1, by rw [hW.other b' hbb]; exact q1, q2⟩
    · simp at h
  · simp at h
def isCall : EOp → Bool
  | .call _ _ => true
  | .callv _ _ => true
  | _ => false
theorem ceff_call {call call' : CallF} {e : EOp} (h : isCall e = false) (E : Env) (H : CH) (ρ : Operand → Value) : ceff E call H e ρ = ceff E call' H e ρ := by
  cases e <;> simp [isCall, ceff] at h ⊢
/-- What came of an operation. -/
def Yielded (r : Result Next) (v' : Value) (w' : World) : Prop := r = .ok (.value v') w' ∨ (r = .ok .skip w' ∧ v' = undef)
def EffRes (P : Program) (E : Env) (φ : Ren) (H : CH) (w : World) (H' : CH) (r : Result Next) : Out → Prop
  | .ret v => ∃ v' w' φ', Yielded r v' w' ∧ WR E φ' H' w' ∧ Ext φ H w φ' H' w' ∧ VR φ' v v'
  | .pan v => ∃ v', r = .halt (.panic v') w ∧ H' = H ∧ VR φ v v'
set_option maxHeartbeats 2000000 in
/-- ALL OPERATIONS WITH AN EFFECT BUT THE CALLS. -/
theorem eff_sound {K : List TypeId} (hK : eqGood P K) (hw : WR E φ H w) {o : Oper} {l : Bool} {p : EOp} {ρc ρ : Operand → Value} {out : Out} {call : CallF} (hc : compOp P K o = some (.e l p)) (hnc : isCall p = false)
    (hr : ∀ x, okO x = true → VR φ (ρc x) (ρ x)) (h : ceff E call H p ρc = some (out, H')) : EffRes P E φ H w H' ((execOp ρ o).run P w) out := by
  cases hop : o.op <;> simp only [compOp, hop, reduceCtorEq] at hc <;> simp only [execOp, hop]
  case store t a x =>
    obtain ⟨n, hn, hc⟩ := Option.bind_eq_some_iff.1 hc
    obtain ⟨h1, h2⟩ := gd_some hc
    injection h2 with h2 h2; subst h2
    simp only [Bool.and_eq_true] at h1
    simp only [ceff] at h
    cases out with
    | pan v =>
      unfold eSt outH at h
      split at h <;> try (simp at h; done)
      cases hb : Nat.beq (cells (ρc x)).length n <;> rw [hb] at h <;> simp at h
      split at h <;> simp at h
    | ret v =>
      obtain ⟨rfl, w', hrun, hW, hE⟩ := eSt_sound (P := P) hw hn (hr _ h1.1) (hr _ h1.2) h
      exact ⟨undef, w', φ, .inr ⟨by simp [hrun], rfl⟩, hW, hE, .undef⟩
  case next x str =>
    obtain ⟨h1, h2⟩ := gd_some hc
    injection h2 with h2 h2
    cases str with
    | true =>
      simp only [cond_true] at h2
      subst h2
      simp only [ceff] at h
      cases out with
      | pan v =>
        unfold eNext at h
        split at h <;> try (simp at h; done)
        split at h <;> try (simp at h; done)
        rename_i l pos _
        cases hb : Nat.blt pos l.length <;> rw [hb] at h <;> simp at h
      | ret v =>
        obtain ⟨w', hrun, hv, hW, hE⟩ := eNext_sound (P := P) (ty := o.type) hw (hr _ h1) h
        exact ⟨v, w', φ, .inl (by simp [hrun]), hW, hE, hv⟩
    | false =>
      simp only [cond_false] at h2
      subst h2
      simp only [ceff] at h
      obtain ⟨v, v', w', rfl, hrun, hW, hE, hV⟩ := eMnext_sound (P := P) (ty := o.type) hw (hr _ h1) h
      exact ⟨v', w', φ, .inl (by simp [hrun]), hW, hE, hV⟩
  case range t x =>
    split at hc
    · obtain ⟨_, h2⟩ := gd_some hc; cases h2
    · rename_i kt vt hu
      obtain ⟨h1, h2⟩ := gd_some hc
      injection h2 with h2 h2; subst h2
      simp only [ceff] at h
      obtain ⟨v, v', w', φ', rfl, hrun, hW, hE, hV⟩ := eMrange_sound (P := P) hw hu (hr _ h1) h
      exact ⟨v', w', φ', .inl (by simp [hrun]), hW, hE, hV⟩
    · cases hc
  case mapUpdate t m k x =>
    split at hc
    · rename_i kt vt hu
      split at hc
      · rename_i n e hn he
        obtain ⟨h1, h2⟩ := gd_some hc
        injection h2 with h2 h2; subst h2
        simp only [Bool.and_eq_true] at h1
        simp only [ceff] at h
        obtain ⟨rfl, w', hrun, hW, hE⟩ := eMset_sound (P := P) hK hw hu hn he (hr _ h1.1) (hr _ h1.2.1) (hr _ h1.2.2) h
        exact ⟨undef, w', φ, .inr ⟨by simp [hrun], rfl⟩, hW, hE, .undef⟩
      · cases hc
    · cases hc
  case makeMap t r => cases r <;> simp at hc
  case panic x =>
    obtain ⟨h1, h2⟩ := gd_some hc
    injection h2 with h2 h2; subst h2
    simp only [ceff] at h
    have rx := hr _ h1
    generalize ρ x = x' at *
    generalize ρc x = xc at *
    unfold ePan at h
    split at h
    · rename_i t v
      simp only [Option.some.injEq, Prod.mk.injEq] at h
      obtain ⟨rfl, rfl⟩ := h
      cases rx with
      | iface _ hv => exact ⟨_, by simp [Instr.panic], rfl, .iface t hv⟩
    · simp at h
  case convert s d x =>
    have key : ∀ e e', P.underlying s = some (.slice e') → P.underlying d = some (.slice e) → P.underlying e = some (.int .u8) → (okO x && s == d) = true → p = .mark x → 
        EffRes P E φ H w H' ((do pure (.value (← convert s d (ρ x))) : Sem Next).run P w) out := by
      intro e e' hs hd he hx hp
      subst hp
      simp only [Bool.and_eq_true] at hx
      simp only [ceff] at h
      cases out with
      | pan v =>
        unfold eMark at h
        split at h <;> try (simp at h; done)
        split at h <;> simp at h
      | ret v =>
        obtain ⟨a, n, c, w', hxx, hrun, rfl, hW, hE⟩ := eMark_sound (P := P) hw (hr _ hx.1) h
        have rx := hr _ hx.1
        rw [hxx] at rx
        refine ⟨_, w', φ, .inl ?_, hW, hE, rx⟩
        simp only [convert, Sem.run_bind, run_underlying hs, run_underlying hd, Result.andThen_ok, hxx, run_underlying he, hx.2, hrun, Sem.run_pure]
    split at hc <;> try (first | (simp at hc; done) | (obtain ⟨h1, h2⟩ := gd_some hc; simp at h2; done))
    · split at hc
      · obtain ⟨h1, h2⟩ := gd_some hc; simp at h2
      · simp at hc
    · split at hc
      · obtain ⟨h1, h2⟩ := gd_some hc; simp at h2
      · simp at hc
    · rename_i e' e hs hd
      split at hc
      · rename_i he
        obtain ⟨h1, h2⟩ := gd_some hc
        injection h2 with h2 h2
        exact key e e' hs hd he h1 h2.symm
      · simp at hc
  case call c =>
    unfold compCall at hc
    split at hc
    · rename_i bi hcal
      have hres : ∀ (f : Array TypeId → TypeId → Array Value → Sem Value), (∀ ts ty cs as, builtin bi ts ty cs as = (do pure (.value (← f ts ty as)))) →
          ∀ v' w', (f c.argTypes o.type (c.args.map ρ)).run P w = .ok v' w' →
          Yielded ((do let d ← resolve ρ c o.type; invoke d.target d.args : Sem Next).run P w) v' w' := by
        intro f hf v' w' hv
        left
        simp only [resolve, hcal, Sem.run_bind, Sem.run_pure, Result.andThen_ok, invoke, hf, hv]
      split at hc
      all_goals try (first | (simp at hc; done) | (split at hc <;> first | (simp at hc; done) | (obtain ⟨_, h2⟩ := gd_some hc; simp at h2; done) | (split at hc <;> simp at hc; done)) | (obtain ⟨_, h2⟩ := gd_some hc; simp at h2; done))
      · -- append
        rename_i s x t u hargs htys
        have ha : c.args = #[s, x] := Array.toList_inj.1 (by simpa using hargs)
        have ht : c.argTypes = #[t, u] := Array.toList_inj.1 (by simpa using htys)
        split at hc
        · rename_i e d hu1 hu2
          have key : ∀ z n, zcells P e = some z → tsize P e = some n → ((∃ e2, d = .slice e2) ∨ d = .string) → (okO s && okO x) = true → p = .app n s x →
              EffRes P E φ H w H' ((do let d ← resolve ρ c o.type; invoke d.target d.args : Sem Next).run P w) out := by
            intro z n hz hn hd hok hp
            subst hp
            simp only [Bool.and_eq_true] at hok
            simp only [ceff, outR] at h
            cases hcap : capp E H n (ρc s) (ρc x) with
            | none => rw [hcap] at h; simp at h
            | some r =>
              obtain ⟨v, H1⟩ := r
              rw [hcap] at h
              simp only [Option.some.injEq, Prod.mk.injEq] at h
              obtain ⟨rfl, rfl⟩ := h
              obtain ⟨v', w', φ', hrun, hW, hE, hV⟩ := capp_sound (P := P) (ty := o.type) hw hu1 hu2 hd hz hn (hr _ hok.1) (hr _ hok.2) hcap
              exact ⟨v', w', φ', hres Builtin.append_ (fun _ _ _ _ => rfl) v' w' (by rw [ha, ht, show (#[s, x] : Array Operand).map ρ = #[ρ s, ρ x] from by simp]; exact hrun), hW, hE, hV⟩
          split at hc
          · rename_i e2 z n hz hn
            obtain ⟨h1, h2⟩ := gd_some hc
            injection h2 with h2 h2
            exact key z n hz hn (.inl ⟨_, rfl⟩) h1 h2.symm
          · rename_i z n hz hn
            obtain ⟨h1, h2⟩ := gd_some hc
            injection h2 with h2 h2
            exact key z n hz hn (.inr rfl) h1 h2.symm
          · rename_i ku z n hz hn
            obtain ⟨h1, h2⟩ := gd_some hc
            injection h2 with h2 h2; subst h2
            simp only [Bool.and_eq_true, Nat.ble_eq] at h1
            simp only [ceff] at h
            obtain ⟨v, v', w', φ', rfl, hrun, hW, hE, hV⟩ := eAppm_sound (P := P) (ty := o.type) hw hu1 hu2 hz h1.2.2 (hr _ h1.1) (hr _ h1.2.1) h
            exact ⟨v', w', φ', hres Builtin.append_ (fun _ _ _ _ => rfl) v' w' (by rw [ha, ht, show (#[s, x] : Array Operand).map ρ = #[ρ s, ρ x] from by simp]; exact hrun), hW, hE, hV⟩
          · simp at hc
        · simp at hc
      · -- copy
        rename_i d s t ts hargs htys
        have ha : c.args = #[d, s] := Array.toList_inj.1 (by simpa using hargs)
        have ht : c.argTypes[0]? = some t := by rw [← Array.getElem?_toList, htys]; rfl
        split at hc
        · rename_i e hu
          obtain ⟨n, hn, hc⟩ := Option.bind_eq_some_iff.1 hc
          obtain ⟨h1, h2⟩ := gd_some hc
          injection h2 with h2 h2; subst h2
          simp only [Bool.and_eq_true] at h1
          simp only [ceff] at h
          cases out with
          | pan v =>
            unfold eCopy outH at h
            split at h <;> try (simp at h; done)
            simp only at h
            split at h <;> try (simp at h; done)
            generalize Nat.beq _ 0 = bb at h
            cases bb <;> simp at h
            split at h <;> simp at h
          | ret v =>
            obtain ⟨w', hrun, hv, hW, hE⟩ := eCopy_sound (P := P) (ty := o.type) hw ht hu hn (hr _ h1.1) (hr _ h1.2) h
            exact ⟨v, w', φ, hres Builtin.copy_ (fun _ _ _ _ => rfl) v w' (by rw [ha, show (#[d, s] : Array Operand).map ρ = #[ρ d, ρ s] from by simp]; exact hrun), hW, hE, hv⟩
        · simp at hc
      · -- clear
        rename_i x t hargs htys
        have ha : c.args = #[x] := Array.toList_inj.1 (by simpa using hargs)
        have ht : c.argTypes[0]? = some t := by rw [← Array.getElem?_toList, htys]; rfl
        split at hc
        · rename_i e hu
          obtain ⟨z, hz, hc⟩ := Option.bind_eq_some_iff.1 hc
          obtain ⟨h1, h2⟩ := gd_some hc
          injection h2 with h2 h2; subst h2
          simp only [Bool.and_eq_true, Nat.ble_eq] at h1
          simp only [ceff] at h
          cases out with
          | pan v =>
            unfold eClr outH at h
            split at h <;> try (simp at h; done)
            generalize Nat.beq _ 0 = bb at h
            cases bb <;> simp at h
            split at h <;> simp at h
          | ret v =>
            obtain ⟨w', hrun, hv, hW, hE⟩ := eClr_sound (P := P) (ty := o.type) hw ht hu hz h1.2 (hr _ h1.1) h
            exact ⟨v, w', φ, hres Builtin.clear_ (fun _ _ _ _ => rfl) v w' (by rw [ha, show (#[x] : Array Operand).map ρ = #[ρ x] from by simp]; exact hrun), hW, hE, hv⟩
        · simp at hc
    · obtain ⟨_, h2⟩ := gd_some hc; injection h2 with h2 h2; subst h2; simp [isCall] at hnc
    · obtain ⟨_, h2⟩ := gd_some hc; injection h2 with h2 h2; subst h2; simp [isCall] at hnc
    · simp at hc
  case binOp op t x y yt =>
    cases hb : isBasic (P.underlying t) <;> cases ha : isAny (P.underlying t) <;> rw [hb, ha] at hc <;> cases op <;> simp [gd_eq, Option.bind_eq_some_iff] at hc
  all_goals (
    repeat' split at hc
    all_goals (simp only [Option.bind_eq_some_iff, Option.map_eq_some_iff, gd_eq, cond_eq_some, Option.some.injEq, reduceCtorEq, and_false, exists_false] at hc))
end Go.Cl

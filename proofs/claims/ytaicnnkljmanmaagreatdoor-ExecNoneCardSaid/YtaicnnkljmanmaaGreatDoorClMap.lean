/- Maps whose keys are arrays of numbers. -/
import Derived.Test.YtaicnnkljmanmaaGreatDoorClEff
import Derived.RangeFuncRecord
namespace Go.Cl
open Go
variable {P : Program} {E : Env} {φ φ' : Ren} {H H' : CH} {w w' : World} {K : List TypeId}

theorem EsR.length {es : List (Value × Value × Nat)} {es' : List MapEntry} (h : EsR φ es es') : es.length = es'.length := by
  induction h with
  | nil => rfl
  | cons _ _ _ _ ih => simp [ih]
theorem EsR.snoc {es : List (Value × Value × Nat)} {es' : List MapEntry} (h : EsR φ es es') {k v : Value} {b : Nat} {e : MapEntry} (hk : VR φ k e.key) (hv : VR φ v e.val) (hb : e.born = b) : EsR φ (es ++ [(k, v, b)]) (es' ++ [e]) := by
  induction h with
  | nil => exact .cons hk hv hb .nil
  | cons a b c _ ih => exact .cons a b c ih
theorem mapOf_sound (hw : WR E φ H w) {m m' : Value} (hm : VR φ m m') {id c : Nat} {es : List (Value × Value × Nat)} (h : mapOf H m = some (id, es, c)) :
    ∃ r hi es', m = .map (some id) ∧ m' = .map (some r) ∧ φ.at_ id 0 = some (r, 0, 0, hi) ∧ H.get id = some (.map es c) ∧ w.heap[r]? = some (.map es' c) ∧ EsR φ es es'.toList ∧ φ.own r = some id ∧ r < w.heap.size := by
  unfold mapOf at h
  split at h
  · rename_i i
    split at h
    · rename_i es1 c1 hg
      simp only [Option.some.injEq, Prod.mk.injEq] at h
      obtain ⟨rfl, rfl, rfl⟩ := h
      cases hm with
      | map hat =>
        rename_i r hi
        obtain ⟨hb, _, hO⟩ := hw.obj _ _ _ _ _ _ hat
        obtain ⟨h1, _, _, _, es', h5, h6⟩ := hO _ hg
        exact ⟨r, hi, es', rfl, rfl, hat, hg, h5, h6, h1, hb⟩
    · cases h
  · cases h
theorem keyLen_some {t : TypeId} {n : Nat} (h : keyLen P t = some n) : ∃ e k, P.underlying t = some (.array n e) ∧ P.underlying e = some (.int k) ∧ tsize P e = some 1 := by
  unfold keyLen at h
  split at h
  · rename_i m e hu
    split at h
    · rename_i k he hs
      simp only [Option.some.injEq] at h
      subst h
      exact ⟨e, k, hu, he, hs⟩
    · cases h
  · cases h
theorem keyOk_some {n : Nat} {k k' : Value} (h : keyOk n k = true) (hk : VR φ k k') : ∃ cs', k' = .agg ⟨cs'⟩ ∧ cs'.length = n := by
  unfold keyOk at h
  split at h
  · simp only [Bool.and_eq_true, Nat.beq_eq] at h
    cases hk with
    | agg hv => exact ⟨_, rfl, by rw [← hv.length]; exact h.1⟩
  · cases h
theorem run_checkKey_gen {t e : TypeId} {n : Nat} {k : IntKind} (ht : P.underlying t = some (.array n e)) (he : P.underlying e = some (.int k)) (hs : tsize P e = some 1) {cs : List Value} (hl : cs.length = n) (b : Bool) (m : Nat) :
    (Instr.checkKey b (m + 1 + 1) t (.agg ⟨cs⟩)).run P w = .ok () w := by
  have hag : tagg P e = some false := by unfold tagg; rw [he]
  have hck : ∀ v, (Instr.checkKey b (m + 1) e v).run P w = .ok () w := by
    intro v
    simp [Instr.checkKey, run_underlying he]
  have hpart : ∀ i, i < n → ∃ v, (part e ⟨cs⟩ (i * 1)).run P w = .ok v w := by
    intro i hi
    have hc : (⟨cs⟩ : Array Value)[i * 1]? = some (cs[i]'(by omega)) := by simp [hl, hi]
    exact ⟨_, by simp only [part, Sem.run_bind, run_isAgg' hag, Result.andThen_ok, Bool.false_eq_true, if_false, hc]; rfl⟩
  have hloop : ∀ (c j : Nat), j + c = n → (forIn (List.range' j c) PUnit.unit (fun i (_ : PUnit) => (do Instr.checkKey b (m + 1) e (← part e ⟨cs⟩ (i * (← sizeOf e))); pure (ForInStep.yield PUnit.unit) : Sem (ForInStep PUnit)))).run P w = .ok PUnit.unit w := by
    intro c
    induction c with
    | zero => intro j _; simp
    | succ c ih =>
      intro j hj
      rw [List.range'_succ]
      obtain ⟨v, hv⟩ := hpart j (by omega)
      simp only [List.forIn_cons, Sem.run_bind, run_sizeOf' hs, Result.andThen_ok, hv, hck, Sem.run_pure]
      exact ih (j + 1) (by omega)
  rw [Instr.checkKey]
  simp only [Sem.run_bind, run_underlying ht, Result.andThen_ok, Std.Legacy.Range.forIn_eq_forIn_range', Std.Legacy.Range.size]
  have e1 : (n - 0 + 1 - 1) / 1 = n := by simp
  rw [e1]
  rw [hloop n 0 (by omega)]
  rfl
theorem run_checkKey {t e : TypeId} {n : Nat} {k : IntKind} (ht : P.underlying t = some (.array n e)) (he : P.underlying e = some (.int k)) (hs : tsize P e = some 1) {cs : List Value} (hl : cs.length = n) (b : Bool) :
    (Instr.checkKey b 10000 t (.agg ⟨cs⟩)).run P w = .ok () w := run_checkKey_gen ht he hs hl b 9998
/-- What was found, clean and real. -/
def FindR (φ : Ren) (r : Option Value) (r' : Option (Nat × Value)) : Prop := match r with | none => r' = none | some v => ∃ i v', r' = some (i, v') ∧ VR φ v v'
theorem run_findKey (hK : eqGood P K) {t e0 : TypeId} {n : Nat} {e : EqT} (ht : P.underlying t = some (.array n e0)) (he : eqT P K 40 t = some e) {k k' : Value} (hk : VR φ k k') {es : List (Value × Value × Nat)} {es' : List MapEntry} (h : EsR φ es es') {r : Option Value} (hr : mfind e k es = some r) :
    ∃ r' : Option (Nat × Value), (Instr.findKey t k' es').run P w = .ok r' w ∧ FindR φ r r' := by
  have hask : ∀ {es : List (Value × Value × Nat)} {es' : List MapEntry}, EsR φ es es' → ∀ {r : Option Value}, mfind e k es = some r → ∀ i, ∃ r' : Option (Nat × Value), (Instr.findAsking t k' es' i).run P w = .ok r' w ∧ FindR φ r r' := by
    intro es es' h
    induction h with
    | nil =>
      intro r hr i
      simp only [mfind, Option.some.injEq] at hr
      subst hr
      exact ⟨none, by simp [Instr.findAsking], rfl⟩
    | cons hke hve hb _ ih =>
      intro r hr i
      rename_i k1 v1 b1 en rr rr' _
      simp only [mfind] at hr
      cases hq : eqv e k k1 with
      | none => rw [hq] at hr; cases hr
      | some q =>
        rw [hq] at hr
        have hrun : (Op.equal t k' en.key).run P w = .ok q w := eqSound hK 40 t e he φ k k' k1 en.key q w hk hke hq Op.maxDepth (by decide)
        cases q with
        | true =>
          simp only [Option.some.injEq] at hr
          subst hr
          exact ⟨some (i, en.val), by simp [Instr.findAsking, hrun], i, en.val, rfl, hve⟩
        | false =>
          obtain ⟨r', h1, h2⟩ := ih hr (i + 1)
          exact ⟨r', by simp [Instr.findAsking, hrun, h1], h2⟩
  cases h with
  | nil =>
    simp only [mfind, Option.some.injEq] at hr
    subst hr
    exact ⟨none, by simp [Instr.findKey, run_underlying ht, Instr.findNow], rfl⟩
  | cons hke hve hb h =>
    obtain ⟨r', h1, h2⟩ := hask (.cons hke hve hb h) hr 0
    refine ⟨r', ?_, h2⟩
    simp only [Instr.findKey, Sem.run_bind, run_underlying ht, Result.andThen_ok, Instr.findNow, Instr.sameNow]
    exact h1
theorem lLook_sound (hK : eqGood P K) (hw : WR E φ H w) {t kt vt : TypeId} {n : Nat} {e : EqT} {z : Value} {ok : Bool} (ht : P.underlying t = some (.map kt vt)) (hn : keyLen P kt = some n) (he : eqT P K 40 kt = some e) (hz : (P.info? vt).bind (·.zero) = some z) (hc : closedV z = true)
    {m m' k k' v : Value} (hm : VR φ m m') (hk : VR φ k k') (h : lLook H e n z ok m k = some v) : ∃ v', (Instr.lookup t m' k' ok).run P w = .ok v' w ∧ VR φ v v' := by
  unfold lLook at h
  split at h
  rotate_left
  · cases h
  rename_i id es c hmo
  obtain ⟨hko, h0⟩ := cond_some h
  clear h
  have h := h0
  clear h0
  obtain ⟨r, hi, es', rfl, rfl, hat, hg, hblk, hes, _, _⟩ := mapOf_sound hw hm hmo
  obtain ⟨e0, kd, hu1, hu2, hs⟩ := keyLen_some hn
  obtain ⟨cs', rfl, hl⟩ := keyOk_some hko hk
  obtain ⟨ti, hti, hzz⟩ := Option.bind_eq_some_iff.1 hz
  have hzr := run_zeroValue' (P := P) hti hzz w
  cases hf : mfind e k es with
  | none => rw [hf] at h; cases h
  | some q =>
    rw [hf] at h
    obtain ⟨r', hrun, hr'⟩ := run_findKey (P := P) (w := w) hK hu1 he hk hes hf
    have hobj : (getObj r).run P w = .ok (.map es' c) w := by simp [getObj, Sem.run, hblk]
    have hck := fun b => run_checkKey (P := P) (w := w) hu1 hu2 hs hl b
    cases q with
    | none =>
      simp only [Option.some.injEq] at h
      have hr' : r' = none := hr'
      subst hr' h
      refine ⟨bif ok then .tuple #[z, .bool false] else z, ?_, ?_⟩
      · simp only [Instr.lookup, Sem.run_bind, run_underlying ht, Result.andThen_ok, hobj, Sem.run_pure, hck, hrun, hzr]
        cases ok <;> rfl
      · cases ok
        · exact VR.closed hc
        · exact .tuple (.cons (VR.closed hc) (.cons (.bool _) .nil))
    | some u =>
      simp only [Option.some.injEq] at h
      obtain ⟨i, v', rfl, hv⟩ := hr'
      subst h
      refine ⟨bif ok then .tuple #[v', .bool true] else v', ?_, ?_⟩
      · simp only [Instr.lookup, Sem.run_bind, run_underlying ht, Result.andThen_ok, hobj, Sem.run_pure, hck, hrun]
        cases ok <;> rfl
      · cases ok
        · exact hv
        · exact .tuple (.cons hv (.cons (.bool _) .nil))
theorem lMlen_sound (hw : WR E φ H w) {t kt vt ty : TypeId} (ht : P.underlying t = some (.map kt vt)) {m m' v : Value} (hm : VR φ m m') (h : lMlen H m = some v) : ∃ v', (Builtin.len_ #[t] ty #[m']).run P w = .ok v' w ∧ VR φ v v' := by
  unfold lMlen at h
  split at h
  · simp only [Option.some.injEq] at h
    subst h
    cases hm
    exact ⟨_, by simp [Builtin.len_, run_underlying ht, goInt], .int _ _⟩
  · split at h
    · rename_i id es c hmo
      simp only [Option.some.injEq] at h
      subst h
      obtain ⟨r, hi, es', rfl, rfl, hat, hg, hblk, hes, _, _⟩ := mapOf_sound hw hm hmo
      have hl := hes.length
      refine ⟨_, by simp [Builtin.len_, run_underlying ht, getObj, Sem.run, hblk, goInt]; rfl, ?_⟩
      have : (es'.size : Int) = Int.ofNat es.length := by rw [hl]; simp
      rw [this]; exact .int _ _
    · cases h
theorem born_sound {es : List (Value × Value × Nat)} {es' : List MapEntry} (h : EsR φ es es') {j : Nat} {k v : Value} (hb : born j es = some (k, v)) : ∃ en, es'.find? (·.born == j) = some en ∧ VR φ k en.key ∧ VR φ v en.val := by
  induction h with
  | nil => cases hb
  | cons hk hv hbn _ ih =>
    rename_i k1 v1 b1 en rr rr' _
    simp only [born] at hb
    cases hq : Nat.beq b1 j with
    | true =>
      rw [hq] at hb
      simp only [cond_true, Option.some.injEq, Prod.mk.injEq] at hb
      obtain ⟨rfl, rfl⟩ := hb
      rw [Nat.beq_eq] at hq
      exact ⟨en, by simp [List.find?_cons, hbn, hq], hk, hv⟩
    | false =>
      rw [hq] at hb
      obtain ⟨en', h1, h2⟩ := ih hb
      have hne : (en.born == j) = false := by
        rw [hbn]
        cases hbe : (b1 == j) with
        | false => rfl
        | true =>
          have : b1 = j := by simpa using hbe
          rw [this, Nat.beq_refl] at hq; cases hq
      exact ⟨en', by simp [List.find?_cons, hne, h1], h2⟩
theorem lEntry_sound (hw : WR E φ H w) {it it' v : Value} (hit : VR φ it it') (h : lEntry H it = some v) : ∃ v', (Instr.entry it').run P w = .ok v' w ∧ VR φ v v' := by
  unfold lEntry at h
  split at h
  rotate_left
  · cases h
  rename_i id
  split at h
  rotate_left
  · cases h
  rename_i m since j seen stepped hg
  split at h
  rotate_left
  · cases h
  rename_i es clock hgm
  obtain ⟨hcl, h0⟩ := cond_some h
  rw [Nat.beq_eq] at hcl
  clear h
  have h := h0
  clear h0
  cases hbn : born j es with
  | none => rw [hbn] at h; cases h
  | some kv =>
    obtain ⟨k, u⟩ := kv
    rw [hbn] at h
    simp only [Option.some.injEq] at h
    subst h
    cases hit with
    | ptr har =>
      cases har with
      | st hat hlo =>
        rename_i b o lo hi
        obtain ⟨_, _, hO⟩ := hw.obj _ _ _ _ _ _ hat
        obtain ⟨_, rfl, rfl, _, m', hblk, hm⟩ := hO _ hg
        cases hm with
        | some hatm =>
          rename_i r hi2
          obtain ⟨_, _, hOm⟩ := hw.obj _ _ _ _ _ _ hatm
          obtain ⟨_, _, _, _, es', hblkm, hes⟩ := hOm _ hgm
          obtain ⟨en, hf, hk, hv⟩ := born_sound hes hbn
          refine ⟨.tuple #[en.key, en.val], ?_, .tuple (.cons hk (.cons hv .nil))⟩
          have hf' : es'.find? (fun x => x.born == j) = some en := by rw [← Array.find?_toList]; exact hf
          simp [Instr.entry, getObj, Sem.run, hblk, hblkm, hcl, hf']
/-- An object of one block, no row of cells, changes. -/
theorem WR.putOwn (hw : WR E φ H w) {id r hi : Nat} (hat : φ.at_ id 0 = some (r, 0, 0, hi)) {ob ob' : CObj} (hg : H.get id = some ob) (hown : φ.own r = some id) (hlt : r < w.heap.size) {o : Obj} (hnc : ∀ c e fz, w.heap[r]? ≠ some (.cells c e fz))
    (hR : ObjR E φ (w.putObj r o) id ob' 0 r 0 0 hi) (hz : ∀ t b o lo hi, ObjR E φ w id ob t b o lo hi → o = 0 ∧ lo = 0 ∧ t = 0) :
    WR E φ (H.put id ob') (w.putObj r o) ∧ Ext φ H w φ (H.put id ob') (w.putObj r o) := by
  have hoth : ∀ b', b' ≠ r → (w.putObj r o).heap[b']? = w.heap[b']? := fun b hb => World.putObj_heap_other hb
  refine update (w' := w.putObj r o) (H' := H.put id ob') (ob' := ob') hw hg (Ren.le_refl φ) (fun _ _ _ => rfl) ⟨_, _, hat⟩ (fun _ _ => rfl)
    (fun b' hb' i hi' => by have := (hw.ownlt b' i hi').1; omega) (by simp) (fun b' _ hne => hoth b' fun h => hne (by rw [h]; exact hown)) ?_ ?_ (fun _ _ _ _ _ _ _ _ _ h h' => hw.align _ _ _ _ _ _ _ _ _ _ h h') rfl rfl rfl (CH.get_put H id _) rfl
  · intro t b' o' lo' hi' h
    obtain ⟨g0, _, gO⟩ := hw.obj _ _ _ _ _ _ h
    obtain ⟨rfl, rfl, rfl⟩ := hz _ _ _ _ _ (gO _ hg)
    rw [hat] at h
    simp only [Option.some.injEq, Prod.mk.injEq] at h
    obtain ⟨rfl, _, _, rfl⟩ := h
    exact ⟨by simpa using g0, hR⟩
  · intro b' hb'
    obtain ⟨c, e, fz, g1, g2⟩ := hw.len b' hb'
    refine ⟨c, e, fz, ?_, g2⟩
    rw [hoth b' (fun h => by rw [h] at g1; exact hnc _ _ _ g1)]; exact g1
theorem eMset_sound (hK : eqGood P K) (hw : WR E φ H w) {t kt vt : TypeId} {n : Nat} {e : EqT} (ht : P.underlying t = some (.map kt vt)) (hn : keyLen P kt = some n) (he : eqT P K 40 kt = some e)
    {m m' k k' x x' : Value} {out : Out} (hm : VR φ m m') (hk : VR φ k k') (hx : VR φ x x') (h : eMset H e n m k x = some (out, H')) :
    out = .ret undef ∧ ∃ w', (Instr.mapUpdate t m' k' x').run P w = .ok () w' ∧ WR E φ H' w' ∧ Ext φ H w φ H' w' := by
  unfold eMset at h
  split at h
  rotate_left
  · cases h
  rename_i id es c hmo
  obtain ⟨hko, h0⟩ := cond_some h
  clear h
  have h := h0
  clear h0
  obtain ⟨r, hi, es', rfl, rfl, hat, hg, hblk, hes, hown, hlt⟩ := mapOf_sound hw hm hmo
  obtain ⟨e0, kd, hu1, hu2, hs⟩ := keyLen_some hn
  obtain ⟨cs', rfl, hl⟩ := keyOk_some hko hk
  split at h
  · rename_i hf
    simp only [Option.some.injEq, Prod.mk.injEq] at h
    obtain ⟨rfl, rfl⟩ := h
    obtain ⟨r', hrun, hr'⟩ := run_findKey (P := P) (w := w) hK hu1 he hk hes hf
    have hr' : r' = none := hr'
    subst hr'
    have hck := fun b => run_checkKey (P := P) (w := w) hu1 hu2 hs hl b
    refine ⟨rfl, w.putObj r (.map (es'.push { key := .agg ⟨cs'⟩, val := x', born := c }) (c + 1)), ?_, ?_⟩
    · simp only [Instr.mapUpdate, Sem.run_bind, run_underlying ht, Result.andThen_ok, getObj, Sem.run, hblk, hck, hrun, setObj]
      simp [World.putObj]
    · exact hw.putOwn hat hg hown hlt (fun c e fz h => by rw [hblk] at h; cases h)
        ⟨hown, rfl, rfl, rfl, _, World.putObj_heap_same hlt, by rw [Array.toList_push]; exact hes.snoc hk hx rfl⟩ (fun t b o lo hi h => ⟨h.2.1, h.2.2.1, h.2.2.2.1⟩)
  · cases h
theorem eMrange_sound (hw : WR E φ H w) {t kt vt : TypeId} (ht : P.underlying t = some (.map kt vt)) {m m' : Value} {out : Out} (hm : VR φ m m') (h : eMrange H m = some (out, H')) :
    ∃ v v' w' φ', out = .ret v ∧ (Instr.range t m').run P w = .ok v' w' ∧ WR E φ' H' w' ∧ Ext φ H w φ' H' w' ∧ VR φ' v v' := by
  have key : ∀ (mm mm' : Option Nat) (c : Nat), MR φ mm mm' → (Instr.range t m').run P w = .ok (.pointer (some ⟨w.heap.size, 0, none⟩)) { w with heap := w.heap.push (.mapIter mm' c #[] c) } → out = .ret (ptr0 H.next) → H' = H.add (.miter mm c [] c) →
      ∃ v v' w' φ', out = .ret v ∧ (Instr.range t m').run P w = .ok v' w' ∧ WR E φ' H' w' ∧ Ext φ H w φ' H' w' ∧ VR φ' v v' := by
    intro mm mm' c hmr hrun ho hH
    subst ho hH
    have hmade : Made E φ w { w with heap := w.heap.push (.mapIter mm' c #[] c) } H.next (ptr0 H.next) (.pointer (some ⟨w.heap.size, 0, none⟩)) (.miter mm c [] c) :=
      ⟨_, 0, 0, push_grown _, .inl rfl, fun φ' hl ha _ => ⟨.ptr (.st ha (Nat.le_refl _)), fun hown => ⟨hown, rfl, rfl, rfl, mm', by simp, hmr.mono hl⟩⟩⟩
    obtain ⟨φ', hE, hW, hV⟩ := hmade.step hw
    exact ⟨_, _, _, φ', rfl, hrun, hW, hE, hV⟩
  unfold eMrange at h
  split at h
  · simp only [Option.some.injEq, Prod.mk.injEq] at h
    obtain ⟨rfl, rfl⟩ := h
    cases hm
    exact key none none 0 .none (by simp [Instr.range, run_underlying ht]) rfl rfl
  · split at h
    · rename_i id es c hmo
      simp only [Option.some.injEq, Prod.mk.injEq] at h
      obtain ⟨rfl, rfl⟩ := h
      obtain ⟨r, hi, es', rfl, rfl, hat, hg, hblk, hes, hown, hlt⟩ := mapOf_sound hw hm hmo
      exact key (some id) (some r) c (.some hat) (by simp [Instr.range, run_underlying ht, getObj, Sem.run, hblk]) rfl rfl
    · cases h
theorem eMnext_sound (hw : WR E φ H w) {it it' : Value} {ty : TypeId} {out : Out} (hit : VR φ it it') (h : eMnext H it = some (out, H')) :
    ∃ v v' w', out = .ret v ∧ (Instr.next it' false ty).run P w = .ok v' w' ∧ WR E φ H' w' ∧ Ext φ H w φ H' w' ∧ VR φ v v' := by
  unfold eMnext at h
  split at h
  rotate_left
  · cases h
  rename_i id
  cases hit with
  | ptr har =>
  cases har with
  | st hat hlo =>
  rename_i b o lo hi
  split at h
  · rename_i since seen stepped hg
    simp only [Option.some.injEq, Prod.mk.injEq] at h
    obtain ⟨rfl, rfl⟩ := h
    obtain ⟨_, _, hO⟩ := hw.obj _ _ _ _ _ _ hat
    obtain ⟨_, rfl, rfl, _, m', hblk, hm⟩ := hO _ hg
    cases hm
    refine ⟨_, .tuple #[.bool false], w, rfl, ?_, hw, .refl _ _ _, .tuple (.cons (.bool _) .nil)⟩
    simp [Instr.next, getObj, Sem.run, hblk]
  · rename_i m since seen stepped hg
    obtain ⟨hlt, _, hO⟩ := hw.obj _ _ _ _ _ _ hat
    obtain ⟨hown, rfl, rfl, _, m', hblk, hm⟩ := hO _ hg
    cases hm with
    | some hatm =>
    rename_i r hi2
    split at h
    · rename_i c hgm
      simp only [Option.some.injEq, Prod.mk.injEq] at h
      obtain ⟨rfl, rfl⟩ := h
      obtain ⟨_, _, hOm⟩ := hw.obj _ _ _ _ _ _ hatm
      obtain ⟨_, _, _, _, es', hblkm, hes⟩ := hOm _ hgm
      have he0 : es' = #[] := by
        cases hq : es'.toList with
        | nil => exact Array.toList_inj.1 hq
        | cons a l => rw [hq] at hes; cases hes
      subst he0
      refine ⟨_, .tuple #[.bool false], w, rfl, ?_, hw, .refl _ _ _, .tuple (.cons (.bool _) .nil)⟩
      simp [Instr.next, getObj, Sem.run, hblk, hblkm, choose, Question.forced]
    · rename_i k u bb c hgm
      obtain ⟨hbl, h0⟩ := cond_some h
      clear h
      have h := h0
      clear h0
      have hbl : bb < since := by unfold Nat.blt at hbl; rw [Nat.ble_eq] at hbl; exact hbl
      obtain ⟨_, _, hOm⟩ := hw.obj _ _ _ _ _ _ hatm
      obtain ⟨_, _, _, _, es', hblkm, hes⟩ := hOm _ hgm
      obtain ⟨en, rfl, hk, hu, hbn⟩ : ∃ en : MapEntry, es' = #[en] ∧ VR φ k en.key ∧ VR φ u en.val ∧ en.born = bb := by
        cases hq : es'.toList with
        | nil => rw [hq] at hes; cases hes
        | cons a l =>
          rw [hq] at hes
          cases hes with
          | cons hk hv hb hr =>
            cases hr
            exact ⟨a, Array.toList_inj.1 hq, hk, hv, hb⟩
      split at h
      · simp only [Option.some.injEq, Prod.mk.injEq] at h
        obtain ⟨rfl, rfl⟩ := h
        refine ⟨_, .tuple #[.bool true, en.key, en.val], w.putObj b (.mapIter (some r) since #[bb] c), rfl, ?_, ?_⟩
        · have hns : ¬ since ≤ bb := by omega
          simp [Instr.next, getObj, setObj, Sem.run, hblk, hblkm, choose, Question.forced, hbn, hbl, hns, World.putObj]
        · have hp := hw.putOwn (o := .mapIter (some r) since #[bb] c) (ob' := .miter (some m) since [bb] c) hat hg hown hlt (fun c e fz h => by rw [hblk] at h; cases h)
            ⟨hown, rfl, rfl, rfl, some r, World.putObj_heap_same hlt, .some hatm⟩ (fun t b o lo hi h => ⟨h.2.1, h.2.2.1, h.2.2.2.1⟩)
          exact ⟨hp.1, hp.2, .tuple (.cons (.bool _) (.cons hk (.cons hu .nil)))⟩
      · rename_i j
        obtain ⟨hb2, h0⟩ := cond_some h
        clear h
        simp only [Option.some.injEq, Prod.mk.injEq] at h0
        obtain ⟨rfl, rfl⟩ := h0
        simp only [Bool.and_eq_true, Nat.beq_eq] at hb2
        obtain ⟨rfl, hst⟩ := hb2
        have hst : j < stepped := by unfold Nat.blt at hst; rw [Nat.ble_eq] at hst; exact hst
        refine ⟨_, .tuple #[.bool false], w, rfl, ?_, hw, .refl _ _ _, .tuple (.cons (.bool _) .nil)⟩
        have hns : ¬ stepped ≤ j := by omega
        simp [Instr.next, getObj, Sem.run, hblk, hblkm, choose, Question.forced, hbn, hns]
      · cases h
    · cases h
  · cases h
theorem run_appm {t u e : TypeId} {ku : IntKind} {sz m : Nat} {ty : TypeId} {kx : IntKind} {i : TypeInfo} {z : Value} (ht : P.underlying t = some (.slice e)) (hu : P.underlying u = some (.int ku)) (hi : P.info? e = some i) (hz : i.zero = some z) (hb : i.bytes ≤ 1048576) (hs : tsize P e = some sz) (hzs : z.cells.size = sz)
    (hm0 : m ≠ 0) (hl : m ≤ maxL) :
    (Builtin.append_ #[t, u] ty #[.slice none 0 0, .int kx (Int.ofNat m)]).run P w =
      .ok (.slice (some ⟨w.heap.size, 0, none⟩) m (grownCap w m 0 e)) (w.drew.alloc (.cells ((if m * sz = 0 then #[] else Builtin.zeroCells z.cells m) ++ Builtin.zeroCells z.cells (grownCap w m 0 e - m)) e)) := by
  have hn : ¬ (m = 0) := hm0
  unfold maxL at hl
  have hwrap : IntKind.i64.wrap (m : Int) = (m : Int) := by
    rw [← cwrap_eq]
    have h1 : ile (kmin .i64) (Int.ofNat m) = true := rfl
    have h2 : ile (Int.ofNat m) (kmax .i64) = true := by
      show Nat.ble m 9223372036854775807 = true
      rw [Nat.ble_eq]; omega
    show cwrap .i64 (Int.ofNat m) = Int.ofNat m
    simp only [cwrap, h1, h2, Bool.and_self, cond_true]
  have h63 : ¬ (9223372036854775807 < (m : Int)) := by omega
  have h48 : ¬ (281474976710656 < Builtin.nextslicecap (0 + m) 0 * i.bytes) := by
    have h1 := nextslicecap_le (need := 0 + m) (old := 0) (by omega)
    have : Builtin.nextslicecap (0 + m) 0 * i.bytes ≤ (2 * 16777216) * 1048576 := Nat.mul_le_mul (by omega) hb
    omega
  rw [Nat.zero_add] at h48
  have h48b : ¬ ((281474976710656 : Int) < (m : Int) * (i.bytes : Int)) := by
    have h1 := Nat.mul_le_mul hl hb
    have h2 : (m : Int) * (i.bytes : Int) = ((m * i.bytes : Nat) : Int) := by rw [Int.natCast_mul]
    rw [h2]; omega
  have hneg : ¬ ((m : Int) < 0) := by omega
  by_cases hms : m * sz = 0 <;>
  simp [hms, Builtin.append_, run_underlying ht, run_underlying hu, run_sizeOf' hs, hn, h63, h48, h48b, hneg, hwrap, asInt, asIntOf, typeInfo, zeroValue, hi, hz, Question.forced, newRow, grownCap, Builtin.firstCells]
theorem eAppm_sound (hw : WR E φ H w) {t u e ty : TypeId} {ku : IntKind} {z : List Value} (ht : P.underlying t = some (.slice e)) (hu : P.underlying u = some (.int ku)) (hz : zcells P e = some z) (hz1 : 1 ≤ z.length)
    {s s' x x' : Value} {out : Out} (hs : VR φ s s') (hx : VR φ x x') (h : eAppm H z s x = some (out, H')) :
    ∃ v v' w' φ', out = .ret v ∧ (Builtin.append_ #[t, u] ty #[s', x']).run P w = .ok v' w' ∧ WR E φ' H' w' ∧ Ext φ H w φ' H' w' ∧ VR φ' v v' := by
  obtain ⟨i, zv, hi, hzv, hzc, hzl, hcl, hbytes, hts⟩ := zcells_some hz
  have hzz : zv.cells = ⟨z⟩ := Array.toList_inj.1 hzc
  unfold eAppm at h
  split at h
  rotate_left
  · cases h
  rename_i n0 c0 kx m
  cases hs
  cases hx
  cases hm0 : Nat.beq m 0 with
  | true =>
    rw [hm0] at h
    simp only [cond_true, Option.some.injEq, Prod.mk.injEq] at h
    obtain ⟨rfl, rfl⟩ := h
    rw [Nat.beq_eq] at hm0
    subst hm0
    refine ⟨_, .slice none 0 0, w, φ, rfl, ?_, hw, .refl _ _ _, .snil⟩
    have hw0 : IntKind.i64.wrap 0 = 0 := by decide
    simp [Builtin.append_, run_underlying ht, run_underlying hu, run_sizeOf' hts, asInt, asIntOf, typeInfo, hi, hw0]
  | false =>
    rw [hm0] at h
    simp only [cond_false] at h
    obtain ⟨hml, h0⟩ := cond_some h
    clear h
    rw [Nat.ble_eq] at hml
    simp only [Option.some.injEq, Prod.mk.injEq] at h0
    obtain ⟨rfl, rfl⟩ := h0
    have hm1 : m ≠ 0 := fun h => by rw [h] at hm0; cases hm0
    have hrun := run_appm (P := P) (w := w) (ty := ty) (kx := kx) ht hu hi hzv hbytes hts (by rw [hzz]; rfl) hm1 hml
    have hms : ¬ m * z.length = 0 := by
      intro h
      rcases Nat.mul_eq_zero.1 h with h | h <;> omega
    rw [if_neg hms, hzz] at hrun
    have hmade : Made E φ w (w.drew.alloc (.cells (Builtin.zeroCells ⟨z⟩ m ++ Builtin.zeroCells ⟨z⟩ (grownCap w m 0 e - m)) e)) H.next (.slice (some ⟨H.next, 0, some 0⟩) m (mkC m z.length false)) (.slice (some ⟨w.heap.size, 0, none⟩) m (grownCap w m 0 e)) (fresh (reps m z)) := by
      have hz0 : 0 < (⟨z⟩ : Array Value).size := hz1
      refine .cells (alloc_grown w _) (.inl rfl) (c' := reps m z) (rest := (Builtin.zeroCells ⟨z⟩ (grownCap w m 0 e - m)).toList) (by rw [Array.toList_append, zeroCells_reps hz0]) ((VRs.closed hcl).reps m) fun φ' ha hL => .sl (grown_ge _ _ _ _) (fun hq => by rw [clipC_mk] at hq; cases hq) (.of ha) (.mk (.inr ?_))
      have hzs : (⟨z⟩ : Array Value).size = z.length := rfl
      simp only [Array.size_append, size_zeroCells', hzs] at hL
      show 0 + grownCap w m 0 e * z.length ≤ φ'.len w.heap.size
      have e2 : grownCap w m 0 e * z.length = m * z.length + (grownCap w m 0 e - m) * z.length := by
        have := grown_ge w m 0 e
        rw [← Nat.add_mul]; congr 1; omega
      omega
    obtain ⟨φ', hE, hW, hV⟩ := hmade.step hw
    exact ⟨_, _, _, φ', rfl, hrun, hW, hE, hV⟩
theorem compCall_l {c : Call} {lo hi : Nat} {l : LOp} (h : compCall P c = some (.l lo hi l)) : ∃ x t kt vt, c.callee = .builtin .len ∧ c.args = #[x] ∧ c.argTypes = #[t] ∧ P.underlying t = some (.map kt vt) ∧ okO x = true ∧ l = .mlen x := by
  unfold compCall at h
  split at h
  · rename_i bi hcal
    split at h
    · rename_i x t hargs htys
      split at h
      · obtain ⟨_, h2⟩ := gd_some h; cases h2
      · obtain ⟨_, h2⟩ := gd_some h; cases h2
      · rename_i kt vt hu
        obtain ⟨h1, h2⟩ := gd_some h
        injection h2 with _ _ h2
        exact ⟨x, t, kt, vt, hcal, Array.toList_inj.1 (by simpa using hargs), Array.toList_inj.1 (by simpa using htys), hu, h1, h2.symm⟩
      · cases h
      · split at h <;> cases h
      · cases h
    all_goals (
      repeat' split at h
      all_goals (simp only [Option.bind_eq_some_iff, gd_eq, Option.some.injEq, reduceCtorEq, and_false, exists_false] at h))
  all_goals (simp only [gd_eq, reduceCtorEq, and_false, Option.some.injEq] at h)
end Go.Cl

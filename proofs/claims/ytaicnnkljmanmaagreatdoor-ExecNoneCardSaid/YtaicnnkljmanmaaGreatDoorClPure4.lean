/- All pure operations. -/
import Derived.Test.YtaicnnkljmanmaaGreatDoorClPure3
namespace Go.Cl
open Go
variable {P : Program} {φ : Ren} {w : World}

theorem pSlS_sound {t : TypeId} {x x' v : Value} {lo lo' hi hi' : Option Value} (hu : P.underlying t = some .string) (hx : VR φ x x') (hl : OV φ lo lo') (hh : OV φ hi hi') (h : pSlS x lo hi = some v) :
    ∃ v', (Instr.sliceAt t x' lo' hi' none).run P w = .ok v' w ∧ VR φ v v' := by
  cases hx <;> simp only [pSlS, reduceCtorEq] at h
  rename_i s
  cases h1 : cbound hi (sbytes s).length (sbytes s).length with
  | none => rw [h1] at h; simp at h
  | some e =>
    rw [h1] at h
    simp only at h
    cases h2 : cbound lo e 0 with
    | none => rw [h2] at h; simp at h
    | some b =>
      rw [h2] at h
      simp only [Option.some.injEq] at h
      subst h
      obtain ⟨hrun, _, _⟩ := run_bounds (P := P) (w := w) (isS := false) (top := s.size) hh hl h1 h2 (by rw [sbytes_length]; exact Nat.le_refl _)
      rw [sbytes_length] at hrun
      refine ⟨.string (s.extract b e), ?_, ?_⟩
      · simp [Instr.sliceAt, Instr.slice, run_underlying hu, hrun]
      · have : mkstr (((sbytes s).take e).drop b) = s.extract b e := ba_ext (by rw [sbytes_mkstr, sbytes_extract])
        rw [this]; exact .string _
theorem room_cut {z sz b c c' : Nat} {q q' : Addr} (h : Room φ c z q) (hq : (c' = 0 ∧ q' = q) ∨ (q' = q.add (b * sz) ∧ b + c' ≤ c)) : Room φ c' (szIf z sz) q' := by
  unfold szIf
  cases hb : Nat.beq z sz with
  | false => exact .inl rfl
  | true =>
    rw [Nat.beq_eq] at hb
    subst hb
    simp only [cond_true]
    rcases h with h | h
    · exact .inl h
    · right
      rcases hq with ⟨rfl, rfl⟩ | ⟨rfl, hle⟩
      · simp; exact Nat.le_trans (Nat.le_add_right _ _) h
      · have e1 : (q.add (b * z)).off = q.off + b * z ∧ (q.add (b * z)).block = q.block := by
          unfold Addr.add; split <;> simp_all
        rw [e1.1, e1.2]
        have := Nat.mul_le_mul_right z hle
        rw [Nat.add_mul] at this
        omega
theorem csl_sound {sz n C c : Nat} {A a : Option Addr} {v : Value} {lo lo' hi hi' mx mx' : Option Value} {top : Nat} {isS : Bool}
    (hl : OV φ lo lo') (hh : OV φ hi hi') (hm : OV φ mx mx')
    (hA : (A = none ∧ a = none ∧ n = 0 ∧ c = 0) ∨ ∃ B b, A = some B ∧ a = some b ∧ SA φ c B b ∧ Room φ c (szC n C) b) (hn : n ≤ c) (hC : clipC n C = true → c = n) (ht : top = c)
    (h : csl sz A n C lo hi mx = some v) (hhs : mx.isSome = true → hi.isSome = true) :
    ∃ l h' m, (Instr.sliceBounds isS n top lo' hi' mx').run P w = .ok (l, h', m) w ∧
      VR φ v (.slice (if m = l then a else a.map (·.add (l * sz))) (h' - l) (m - l)) := by
  subst ht
  cases mx with
  | none =>
    cases mx' with
    | some _ => exact hm.elim
    | none =>
      simp only [csl] at h
      cases h1 : cbound hi n n with
      | none => rw [h1] at h; simp at h
      | some e =>
        rw [h1] at h
        simp only at h
        cases h2 : cbound lo e 0 with
        | none => rw [h2] at h; simp at h
        | some b =>
          rw [h2] at h
          simp only [Option.some.injEq] at h
          obtain ⟨hrun, hbe, hen⟩ := run_bounds (P := P) (w := w) (isS := isS) (top := top) hh hl h1 h2 hn
          refine ⟨b, e, top, hrun, ?_⟩
          subst h
          rcases hA with ⟨rfl, rfl, rfl, rfl⟩ | ⟨B, q, rfl, rfl, har, hroom⟩
          · obtain rfl : e = 0 := by omega
            obtain rfl : b = 0 := by omega
            simp only [amv, Option.map_none, Nat.sub_zero, ite_self, mkSl]
            exact .snil
          · simp only [amv, Option.map_some, mkSl]
            have hcap : (clipC n C && Nat.beq e n) = true → top - b = e - b := by
              intro hq
              simp only [Bool.and_eq_true, Nat.beq_eq] at hq; have := hC hq.1; omega
            have hrm : ∀ (q' : Addr) (c' : Nat), (c' = 0 ∧ q' = q) ∨ (q' = q.add (b * sz) ∧ b + c' ≤ top) → Room φ c' (szIf (szC n C) sz) q' := fun q' c' h => room_cut hroom h
            by_cases hz : top = b
            · rw [if_pos hz]
              exact .sl (by omega) (fun hq => by rw [clipC_mk] at hq; have := hcap hq; omega) ⟨har.1, .inl (by omega)⟩ (.mk (hrm _ _ (.inl ⟨by omega, rfl⟩)))
            · rw [if_neg hz]
              exact .sl (by omega) (fun hq => by rw [clipC_mk] at hq; exact hcap hq) (.of ((har.2.resolve_left (by omega)).amv (b * sz))) (.mk (hrm _ _ (.inr ⟨rfl, by omega⟩)))
  | some M =>
    cases mx' with
    | none => exact hm.elim
    | some M' =>
      simp only [csl] at h
      cases h0 : cbound (some M) n 0 with
      | none => rw [h0] at h; simp at h
      | some m =>
        rw [h0] at h
        simp only at h
        cases h1 : cbound hi m m with
        | none => rw [h1] at h; simp at h
        | some e =>
          rw [h1] at h
          simp only at h
          cases h2 : cbound lo e 0 with
          | none => rw [h2] at h; simp at h
          | some b =>
            rw [h2] at h
            simp only [Option.some.injEq] at h
            obtain ⟨hrun, hbe, hem, hmn⟩ := run_bounds3 (P := P) (w := w) (isS := isS) (top := top) hm hh hl rfl (hhs rfl) h0 h1 h2 hn
            refine ⟨b, e, m, hrun, ?_⟩
            subst h
            rcases hA with ⟨rfl, rfl, rfl, rfl⟩ | ⟨B, q, rfl, rfl, har, hroom⟩
            · obtain rfl : m = 0 := by omega
              obtain rfl : e = 0 := by omega
              obtain rfl : b = 0 := by omega
              simp only [amv, Option.map_none, Nat.sub_zero, ite_self, mkSl]
              exact .snil
            · simp only [amv, Option.map_some, mkSl]
              have hcap : Nat.beq e m = true → m - b = e - b := by
                intro hq
                rw [Nat.beq_eq] at hq; omega
              have hrm : ∀ (q' : Addr) (c' : Nat), (c' = 0 ∧ q' = q) ∨ (q' = q.add (b * sz) ∧ b + c' ≤ top) → Room φ c' (szIf (szC n C) sz) q' := fun q' c' h => room_cut hroom h
              by_cases hz : m = b
              · rw [if_pos hz]
                exact .sl (by omega) (fun hq => by rw [clipC_mk] at hq; have := hcap hq; omega) ⟨har.1, .inl (by omega)⟩ (.mk (hrm _ _ (.inl ⟨by omega, rfl⟩)))
              · rw [if_neg hz]
                exact .sl (by omega) (fun hq => by rw [clipC_mk] at hq; exact hcap hq) (.of ((har.2.resolve_left (by omega)).amv (b * sz))) (.mk (hrm _ _ (.inr ⟨rfl, by omega⟩)))
theorem pSl_sound {t e : TypeId} {sz : Nat} {x x' v : Value} {lo lo' hi hi' mx mx' : Option Value} (hu : P.underlying t = some (.slice e)) (hs : tsize P e = some sz) (hx : VR φ x x')
    (hl : OV φ lo lo') (hh : OV φ hi hi') (hm : OV φ mx mx') (h : pSl sz x lo hi mx = some v) (hhs : mx.isSome = true → hi.isSome = true) :
    ∃ v', (Instr.sliceAt t x' lo' hi' mx').run P w = .ok v' w ∧ VR φ v v' := by
  cases hx <;> simp only [pSl, reduceCtorEq] at h
  · obtain ⟨l, e', m, hrun, hv⟩ := csl_sound (P := P) (w := w) (isS := true) (top := 0) (c := 0) hl hh hm (.inl ⟨rfl, rfl, rfl, rfl⟩) (by omega) (fun _ => rfl) rfl h hhs
    refine ⟨_, ?_, hv⟩
    simp [Instr.sliceAt, Instr.slice, run_underlying hu, hrun, run_sizeOf' hs]
  · rename_i A a n C c h1 h2 h3 h4
    obtain ⟨l, e', m, hrun, hv⟩ := csl_sound (P := P) (w := w) (isS := true) (top := c) hl hh hm (.inr ⟨A, a, rfl, rfl, h3, h4⟩) h1 h2 rfl h hhs
    refine ⟨_, ?_, hv⟩
    simp [Instr.sliceAt, Instr.slice, run_underlying hu, hrun, run_sizeOf' hs]
theorem pSlA_sound {t e : TypeId} {len sz : Nat} {x x' v : Value} {lo lo' hi hi' mx mx' : Option Value} (hu : P.underlying t = some (.array len e)) (hs : tsize P e = some sz) (hx : VR φ x x')
    (hl : OV φ lo lo') (hh : OV φ hi hi') (hm : OV φ mx mx') (h : pSlA len sz x lo hi mx = some v) (hhs : mx.isSome = true → hi.isSome = true) :
    ∃ v', (Instr.sliceAt t x' lo' hi' mx').run P w = .ok v' w ∧ VR φ v v' := by
  cases hx <;> simp only [pSlA, reduceCtorEq] at h
  rename_i A a har
  obtain ⟨b, o, st⟩ := A
  cases st <;> simp only [reduceCtorEq] at h
  rename_i st
  obtain ⟨l, e', m, hrun, hv⟩ := csl_sound (P := P) (w := w) (isS := false) (top := len) (c := len) hl hh hm (.inr ⟨_, a, rfl, rfl, .of har, .inl (by rw [szC_mk])⟩) (Nat.le_refl _) (fun _ => rfl) rfl h hhs
  refine ⟨_, ?_, hv⟩
  simp only [Instr.sliceAt, Sem.run_bind, run_underlying hu, Result.andThen_ok, Instr.sureAddr, Sem.run_pure, hrun, run_sizeOf' hs]
  congr 2
  split <;> rfl
theorem pNil_sound {x x' v : Value} (hx : VR φ x x') (h : pNil x = some v) (P : Program) :
    ∃ v', (match x' with
      | .pointer none | .nilIface | .nilFunc => runtimePanic .nilDeref
      | .func (.method name) first captured =>
        match (first[0]? : Option Value) with
        | some .nilIface => runtimePanic .nilDeref
        | some (.iface t w) => do
          if (← nilAhead ((← program).types.size + Made.depth) t w name) != some false then
            unsupported (.noEntry "op/nilCheck.the method's receiver behind this interface value is a nil pointer, or cannot be seen to be none, and the arguments act or may panic (ledger 612)")
          pure (.value (.func (.method name) first captured))
        | _ => pure (.value (.func (.method name) first captured))
      | x => pure (.value x) : Sem Next).run P w = .ok (.value v') w ∧ VR φ v v' := by
  cases hx <;> simp only [pNil, reduceCtorEq, Option.some.injEq] at h
  · rename_i A a har; subst h; exact ⟨_, rfl, .ptr har⟩
  · rename_i f xs ys us vs h1 h2; subst h; exact ⟨_, rfl, .func f h1 h2⟩
theorem mapOs_sound {ρc ρ : Operand → Value} (hr : ∀ x, okO x = true → VR φ (ρc x) (ρ x)) : ∀ (l : List Operand), okOs l = true → VRs φ (mapOs ρc l) (l.map ρ)
  | [], _ => .nil
  | x :: r, h => by
    simp only [okOs, List.all_cons, Bool.and_eq_true] at h
    exact .cons (hr x h.1) (mapOs_sound hr r h.2)
theorem OV.map {ρc ρ : Operand → Value} (hr : ∀ x, okO x = true → VR φ (ρc x) (ρ x)) {x : Option Operand} (h : okOO x = true) : OV φ (x.map ρc) (x.map ρ) := by
  cases x with
  | none => trivial
  | some x => exact hr x h
theorem eqi_guard {t : TypeId} {ms : Array (String × TypeId)} (hu : P.underlying t = some (.interface ms)) (hms : ms.isEmpty = true) (d : Nat) : (Op.eqGuardIn (d + 1) t .nilIface .nilIface).run P w = .ok false w := by
  simp [Op.eqGuardIn, run_underlying hu, hms]
theorem eqi_nn {t : TypeId} {ms : Array (String × TypeId)} (hu : P.underlying t = some (.interface ms)) (d : Nat) : (Op.equalIn (d + 1) t .nilIface .nilIface).run P w = .ok true w := by
  simp [Op.equalIn, run_underlying hu]
theorem eqi_ni {t : TypeId} {ms : Array (String × TypeId)} (hu : P.underlying t = some (.interface ms)) (u : TypeId) (v : Value) (d : Nat) : (Op.equalIn (d + 1) t .nilIface (.iface u v)).run P w = .ok false w := by
  simp [Op.equalIn, run_underlying hu]
theorem eqi_in {t : TypeId} {ms : Array (String × TypeId)} (hu : P.underlying t = some (.interface ms)) (u : TypeId) (v : Value) (d : Nat) : (Op.equalIn (d + 1) t (.iface u v) .nilIface).run P w = .ok false w := by
  simp [Op.equalIn, run_underlying hu]
theorem eqi_ii {t : TypeId} {ms : Array (String × TypeId)} (hu : P.underlying t = some (.interface ms)) {u u' : TypeId} (hne : u ≠ u') (v v' : Value) (d : Nat) : (Op.equalIn (d + 1) t (.iface u v) (.iface u' v')).run P w = .ok false w := by
  simp [Op.equalIn, run_underlying hu, hne]
theorem pEqi_sound {op : BinOp} {neg : Bool} {t : TypeId} {ms : Array (String × TypeId)} (hu : P.underlying t = some (.interface ms)) (hms : ms.isEmpty = true) {x x' y y' v : Value} (hx : VR φ x x') (hy : VR φ y y') (hop : op = (bif neg then .neq else .eql))
    (h : pEqi neg x y = some v) (ox oy : Operand) : ∃ v', (do eqGuard op t ox oy x' y'; binOp op t x' y' : Sem Value).run P w = .ok v' w ∧ VR φ v v' := by
  unfold pEqi at h
  have hg1 : (Op.eqGuardIn Op.maxDepth t .nilIface .nilIface).run P w = .ok false w := eqi_guard hu hms 9999
  have hall : ∀ (a b : Value) (r : Bool), (Op.equal t a b).run P w = .ok r w → (eqGuard op t ox oy a b).run P w = .ok () w → (∀ n m, binOp op t a b = n → m = .bool (bif neg then !r else r) →
      n = (do let q ← Op.equal t a b; pure (.bool (bif neg then !q else q))) → (do eqGuard op t ox oy a b; binOp op t a b : Sem Value).run P w = .ok m w) := by
    intro a b r he hg n m hn hm hq
    rw [Sem.run_bind, hg, Result.andThen_ok, hn, hq, Sem.run_bind, he, hm]; rfl
  split at h
  · simp only [Option.some.injEq] at h; subst h
    cases hx; cases hy
    have he : (Op.equal t .nilIface .nilIface).run P w = .ok true w := eqi_nn hu 9999
    refine ⟨_, hall _ _ true he ?_ _ (.bool (!neg)) rfl (by cases neg <;> rfl) (by cases neg <;> subst hop <;> rfl), .bool _⟩
    cases neg <;> subst hop <;> cases ox <;> cases oy <;> simp [eqGuard, hg1]
  · simp only [Option.some.injEq] at h; subst h
    cases hx; cases hy
    refine ⟨_, hall _ _ false (eqi_ni hu _ _ 9999) ?_ _ (.bool neg) rfl (by cases neg <;> rfl) (by cases neg <;> subst hop <;> rfl), .bool _⟩
    cases neg <;> subst hop <;> simp [eqGuard]
  · simp only [Option.some.injEq] at h; subst h
    cases hx; cases hy
    refine ⟨_, hall _ _ false (eqi_in hu _ _ 9999) ?_ _ (.bool neg) rfl (by cases neg <;> rfl) (by cases neg <;> subst hop <;> rfl), .bool _⟩
    cases neg <;> subst hop <;> simp [eqGuard]
  · rename_i t1 v1 t2 v2
    cases hb : Nat.beq t1 t2 with
    | true => rw [hb] at h; simp at h
    | false =>
      rw [hb] at h
      have hne : t1 ≠ t2 := fun hh => by rw [hh, Nat.beq_refl] at hb; cases hb
      simp only [cond_false, Option.some.injEq] at h; subst h
      cases hx; cases hy
      refine ⟨_, hall _ _ false (eqi_ii hu hne _ _ 9999) ?_ _ (.bool neg) rfl (by cases neg <;> rfl) (by cases neg <;> subst hop <;> rfl), .bool _⟩
      cases neg <;> subst hop <;> simp [eqGuard]
  · simp at h
theorem mn3_eq (a b d : Int) : (if d < (if b < a then b else a) then d else (if b < a then b else a)) = bif decide ((bif decide (a ≤ b) then a else b) ≤ d) then (bif decide (a ≤ b) then a else b) else d := by
  by_cases h1 : a ≤ b
  · have h2 : ¬ b < a := by omega
    simp only [h1, h2, decide_true, cond_true, if_false]
    by_cases h3 : a ≤ d
    · have : ¬ d < a := by omega
      simp [h3, this]
    · have : d < a := by omega
      simp [h3, this]
  · have h2 : b < a := by omega
    simp only [h1, h2, decide_false, cond_false, if_true]
    by_cases h3 : b ≤ d
    · have : ¬ d < b := by omega
      simp [h3, this]
    · have : d < b := by omega
      simp [h3, this]
theorem min3_run (k k' k'' : IntKind) (a b d : Int) : (List.foldlM Builtin.min2 (Value.int k a) [Value.int k' b, Value.int k'' d]).run P w = .ok (.int k (bif ile (bif ile a b then a else b) d then (bif ile a b then a else b) else d)) w := by
  simp only [List.foldlM_cons, List.foldlM_nil, Builtin.min2, Sem.run_bind, Sem.run_pure, Result.andThen_ok, ile_eq]
  rw [← mn3_eq]
theorem mx3_eq (a b d : Int) : (if (if a < b then b else a) < d then d else (if a < b then b else a)) = bif decide (d ≤ (bif decide (b ≤ a) then a else b)) then (bif decide (b ≤ a) then a else b) else d := by
  by_cases h1 : b ≤ a
  · have h2 : ¬ a < b := by omega
    simp only [h1, h2, decide_true, cond_true, if_false]
    by_cases h3 : d ≤ a
    · have : ¬ a < d := by omega
      simp [h3, this]
    · have : a < d := by omega
      simp [h3, this]
  · have h2 : a < b := by omega
    simp only [h1, h2, decide_false, cond_false, if_true]
    by_cases h3 : d ≤ b
    · have : ¬ b < d := by omega
      simp [h3, this]
    · have : b < d := by omega
      simp [h3, this]
theorem max3_run (k k' k'' : IntKind) (a b d : Int) : (List.foldlM Builtin.max2 (Value.int k a) [Value.int k' b, Value.int k'' d]).run P w = .ok (.int k (bif ile d (bif ile b a then a else b) then (bif ile b a then a else b) else d)) w := by
  simp only [List.foldlM_cons, List.foldlM_nil, Builtin.max2, Sem.run_bind, Sem.run_pure, Result.andThen_ok, ile_eq]
  rw [← mx3_eq]
set_option maxHeartbeats 1000000 in
theorem call_pure_sound {o : Oper} {c : Call} {p : POp} {ρc ρ : Operand → Value} {v : Value} (hc : compCall P c = some (.p p))
    (hr : ∀ x, okO x = true → VR φ (ρc x) (ρ x)) (h : cpure p ρc = some v) : ∃ v', (do let d ← resolve ρ c o.type; invoke d.target d.args : Sem Next).run P w = .ok (.value v') w ∧ VR φ v v' := by
  unfold compCall at hc
  split at hc
  · rename_i b hcal
    have hres : ∀ (bi : Builtin), c.callee = .builtin bi → ∀ (f : Array TypeId → TypeId → Array Value → Sem Value), (∀ ts ty cs as, builtin bi ts ty cs as = (do pure (.value (← f ts ty as)))) →
        ∀ v', (f c.argTypes o.type (c.args.map ρ)).run P w = .ok v' w →
        (do let d ← resolve ρ c o.type; invoke d.target d.args : Sem Next).run P w = .ok (.value v') w := by
      intro bi hbi f hf v' hv
      simp only [resolve, hbi, Sem.run_bind, Sem.run_pure, Result.andThen_ok, invoke, hf, hv]
    split at hc
    · rename_i x t hargs htys
      have ha : c.args = #[x] := Array.toList_inj.1 (by simpa using hargs)
      have ht : c.argTypes = #[t] := Array.toList_inj.1 (by simpa using htys)
      split at hc
      · rename_i hu
        obtain ⟨h1, h2⟩ := gd_some hc
        injection h2 with h2; subst h2
        have hx := hr _ h1
        simp only [cpure] at h
        generalize hxe : ρ x = x' at hx
        generalize ρc x = xc at *
        cases hx <;> simp only [pLenS, reduceCtorEq, Option.some.injEq] at h
        rename_i s
        subst h
        refine ⟨_, hres .len hcal Builtin.len_ (fun _ _ _ _ => rfl) _ ?_, .int _ _⟩
        simp [ha, ht, hxe, Builtin.len_, run_underlying hu, sbytes_length, goInt]
      · rename_i e hu
        obtain ⟨h1, h2⟩ := gd_some hc
        injection h2 with h2; subst h2
        have hx := hr _ h1
        simp only [cpure] at h
        generalize hxe : ρ x = x' at hx
        generalize ρc x = xc at *
        cases hx <;> simp only [pLenSl, reduceCtorEq, Option.some.injEq] at h
        · subst h
          refine ⟨_, hres .len hcal Builtin.len_ (fun _ _ _ _ => rfl) _ ?_, .int _ _⟩
          simp [ha, ht, hxe, Builtin.len_, run_underlying hu, goInt]
        · subst h
          refine ⟨_, hres .len hcal Builtin.len_ (fun _ _ _ _ => rfl) _ ?_, .int _ _⟩
          simp [ha, ht, hxe, Builtin.len_, run_underlying hu, goInt]
      · obtain ⟨_, h2⟩ := gd_some hc; cases h2
      · rename_i n e hu
        injection hc with h2
        injection h2 with h2; subst h2
        simp only [cpure, Option.some.injEq] at h; subst h
        refine ⟨_, hres .len hcal Builtin.len_ (fun _ _ _ _ => rfl) _ ?_, .int _ _⟩
        simp [ha, ht, Builtin.len_, run_underlying hu, goInt]
      · rename_i u hu
        split at hc
        · rename_i n e hu2
          injection hc with h2
          injection h2 with h2; subst h2
          simp only [cpure, Option.some.injEq] at h; subst h
          refine ⟨_, hres .len hcal Builtin.len_ (fun _ _ _ _ => rfl) _ ?_, .int _ _⟩
          simp [ha, ht, Builtin.len_, run_underlying hu, run_underlying hu2, goInt]
        · simp at hc
      · simp at hc
    · rename_i _ x y hargs
      have ha : c.args = #[x, y] := Array.toList_inj.1 (by simpa using hargs)
      obtain ⟨h1, h2⟩ := gd_some hc
      injection h2 with h2; subst h2
      simp only [Bool.and_eq_true] at h1
      have hx := hr _ h1.1
      have hy := hr _ h1.2
      simp only [cpure] at h
      generalize hxe : ρ x = x' at hx
      generalize hye : ρ y = y' at hy
      generalize ρc x = xc at *
      generalize ρc y = yc at *
      cases hx <;> (try (cases hy <;> simp [pMn] at h; done))
      cases hy <;> simp only [pMn, reduceCtorEq, Option.some.injEq] at h
      rename_i k a k' b
      subst h
      refine ⟨_, hres .min hcal Builtin.min_ (fun _ _ _ _ => rfl) _ ?_, .int _ _⟩
      simp only [ha, Builtin.min_, List.map_toArray, List.map_cons, List.map_nil, hxe, hye, List.foldlM_cons, List.foldlM_nil, Builtin.min2, Sem.run_bind, Sem.run_pure, Result.andThen_ok, ile_eq]
      congr 2
      by_cases hab : a ≤ b
      · simp [hab] <;> omega
      · simp [hab] <;> omega
    · rename_i _ x y hargs
      have ha : c.args = #[x, y] := Array.toList_inj.1 (by simpa using hargs)
      obtain ⟨h1, h2⟩ := gd_some hc
      injection h2 with h2; subst h2
      simp only [Bool.and_eq_true] at h1
      have hx := hr _ h1.1
      have hy := hr _ h1.2
      simp only [cpure] at h
      generalize hxe : ρ x = x' at hx
      generalize hye : ρ y = y' at hy
      generalize ρc x = xc at *
      generalize ρc y = yc at *
      cases hx <;> (try (cases hy <;> simp [pMx] at h; done))
      cases hy <;> simp only [pMx, reduceCtorEq, Option.some.injEq] at h
      rename_i k a k' b
      subst h
      refine ⟨_, hres .max hcal Builtin.max_ (fun _ _ _ _ => rfl) _ ?_, .int _ _⟩
      simp only [ha, Builtin.max_, List.map_toArray, List.map_cons, List.map_nil, hxe, hye, List.foldlM_cons, List.foldlM_nil, Builtin.max2, Sem.run_bind, Sem.run_pure, Result.andThen_ok, ile_eq]
      congr 2
      by_cases hab : b ≤ a
      · simp [hab] <;> omega
      · simp [hab] <;> omega
    · rename_i _ x y z hargs
      have ha : c.args = #[x, y, z] := Array.toList_inj.1 (by simpa using hargs)
      obtain ⟨h1, h2⟩ := gd_some hc
      injection h2 with h2; subst h2
      simp only [Bool.and_eq_true] at h1
      have hx := hr _ h1.1
      have hy := hr _ h1.2.1
      have hz := hr _ h1.2.2
      simp only [cpure, pMn3] at h
      generalize hxe : ρ x = x' at hx
      generalize hye : ρ y = y' at hy
      generalize hze : ρ z = z' at hz
      generalize ρc x = xc at *
      generalize ρc y = yc at *
      generalize ρc z = zc at *
      cases hx <;> (try (cases hy <;> simp [pMn] at h; done))
      cases hy <;> simp only [pMn, reduceCtorEq] at h
      cases hz <;> simp only [reduceCtorEq, Option.some.injEq] at h
      rename_i k a k' b k'' d
      subst h
      refine ⟨_, hres .min hcal Builtin.min_ (fun _ _ _ _ => rfl) _ ?_, .int _ _⟩
      simp only [ha, Builtin.min_, List.map_toArray, List.map_cons, List.map_nil, hxe, hye, hze]
      exact min3_run _ _ _ _ _ _
    · rename_i _ x y z hargs
      have ha : c.args = #[x, y, z] := Array.toList_inj.1 (by simpa using hargs)
      obtain ⟨h1, h2⟩ := gd_some hc
      injection h2 with h2; subst h2
      simp only [Bool.and_eq_true] at h1
      have hx := hr _ h1.1
      have hy := hr _ h1.2.1
      have hz := hr _ h1.2.2
      simp only [cpure, pMx3] at h
      generalize hxe : ρ x = x' at hx
      generalize hye : ρ y = y' at hy
      generalize hze : ρ z = z' at hz
      generalize ρc x = xc at *
      generalize ρc y = yc at *
      generalize ρc z = zc at *
      cases hx <;> (try (cases hy <;> simp [pMx] at h; done))
      cases hy <;> simp only [pMx, reduceCtorEq] at h
      cases hz <;> simp only [reduceCtorEq, Option.some.injEq] at h
      rename_i k a k' b k'' d
      subst h
      refine ⟨_, hres .max hcal Builtin.max_ (fun _ _ _ _ => rfl) _ ?_, .int _ _⟩
      simp only [ha, Builtin.max_, List.map_toArray, List.map_cons, List.map_nil, hxe, hye, hze]
      exact max3_run _ _ _ _ _ _
    · rename_i x t hargs htys
      have ha : c.args = #[x] := Array.toList_inj.1 (by simpa using hargs)
      have ht : c.argTypes = #[t] := Array.toList_inj.1 (by simpa using htys)
      split at hc
      · rename_i e hu
        obtain ⟨h1, h2⟩ := gd_some hc
        injection h2 with h2; subst h2
        have hx := hr _ h1
        simp only [cpure] at h
        generalize hxe : ρ x = x' at hx
        generalize ρc x = xc at *
        cases hx <;> simp only [pCap, reduceCtorEq, Option.some.injEq] at h
        · subst h
          refine ⟨_, hres .cap hcal Builtin.cap_ (fun _ _ _ _ => rfl) _ ?_, .int _ _⟩
          simp [ha, ht, hxe, Builtin.cap_, run_underlying hu, goInt]
        · rename_i hcl _ _
          obtain ⟨hb, h⟩ := cond_some h
          simp only [Option.some.injEq] at h
          subst h
          refine ⟨_, hres .cap hcal Builtin.cap_ (fun _ _ _ _ => rfl) _ ?_, .int _ _⟩
          simp [ha, ht, hxe, Builtin.cap_, run_underlying hu, goInt, hcl hb]
      · simp at hc
    · split at hc
      · split at hc
        · obtain ⟨_, h2⟩ := gd_some hc
          simp at h2
        · obtain ⟨_, h2⟩ := gd_some hc
          simp at h2
        · obtain ⟨_, h2⟩ := gd_some hc
          simp at h2
        · simp at hc
      · simp at hc
    · split at hc
      · obtain ⟨_, _, hc⟩ := Option.bind_eq_some_iff.1 hc
        obtain ⟨_, h2⟩ := gd_some hc
        simp at h2
      · simp at hc
    · split at hc
      · obtain ⟨_, _, hc⟩ := Option.bind_eq_some_iff.1 hc
        obtain ⟨_, h2⟩ := gd_some hc
        simp at h2
      · simp at hc
    · simp at hc
  · obtain ⟨h1, h2⟩ := gd_some hc
    simp at h2
  · obtain ⟨h1, h2⟩ := gd_some hc
    simp at h2
  · simp at hc
set_option maxHeartbeats 4000000 in
/-- ALL PURE OPERATIONS. -/
theorem pure_sound {K : List TypeId} (hK : eqGood P K) {o : Oper} {p : POp} {ρc ρ : Operand → Value} {v : Value} (hc : compOp P K o = some (.p p))
    (hr : ∀ x, okO x = true → VR φ (ρc x) (ρ x)) (h : cpure p ρc = some v) : ∃ v', (execOp ρ o).run P w = .ok (.value v') w ∧ VR φ v v' := by
  cases hop : o.op <;> simp only [compOp, hop, reduceCtorEq] at hc <;> simp only [execOp, hop]
  case move x =>
    obtain ⟨h1, h2⟩ := gd_some hc
    injection h2 with h2; subst h2
    simp only [cpure, Option.some.injEq] at h; subst h
    exact ⟨_, rfl, hr _ h1⟩
  case assign x =>
    obtain ⟨h1, h2⟩ := gd_some hc
    injection h2 with h2; subst h2
    simp only [cpure, Option.some.injEq] at h; subst h
    exact ⟨_, rfl, hr _ h1⟩
  case pick c a b =>
    obtain ⟨h1, h2⟩ := gd_some hc
    injection h2 with h2; subst h2
    simp only [Bool.and_eq_true] at h1
    simp only [cpure] at h
    have hcv := hr _ h1.1.1
    generalize ρ c = c' at *
    generalize ρc c = cc at *
    cases hcv <;> simp only [pPick, reduceCtorEq] at h
    rename_i q
    cases q <;> simp only [Option.some.injEq] at h <;> subst h
    · exact ⟨_, by simp [asBool], hr _ h1.2⟩
    · exact ⟨_, by simp [asBool], hr _ h1.1.2⟩
  case binOp op t x y yt =>
    have key : ∀ {q : POp}, (q = .bin op x y → okO x = true ∧ okO y = true → p = q → ∃ v', (do pure (.value (← (do eqGuard op t x y (ρ x) (ρ y); binOp op t (ρ x) (ρ y)))) : Sem Next).run P w = .ok (.value v') w ∧ VR φ v v') := by
      intro q hq hok hpq
      subst hpq; subst hq
      obtain ⟨v', hv, r⟩ := pBin_sound (P := P) (w := w) (hr _ hok.1) (hr _ hok.2) h t x y
      exact ⟨v', by rw [Sem.run_bind, hv]; rfl, r⟩
    have keq : ∀ (e : EqT) (neg : Bool), eqT P K 40 t = some e → okO x = true ∧ okO y = true → op = (bif neg then .neq else .eql) → p = .eqv neg e x y →
        ∃ v', (do pure (.value (← (do eqGuard op t x y (ρ x) (ρ y); binOp op t (ρ x) (ρ y)))) : Sem Next).run P w = .ok (.value v') w ∧ VR φ v v' := by
      intro e neg he hok hop' hp
      subst hp
      simp only [cpure] at h
      cases hb : eqv e (ρc x) (ρc y) with
      | none => rw [hb] at h; simp [pEqv] at h
      | some b =>
        rw [hb] at h
        simp only [pEqv, Option.some.injEq] at h
        subst h
        have hx := hr _ hok.1
        have hy := hr _ hok.2
        have hrun := eqSound hK 40 t e he φ _ _ _ _ b w hx hy hb 10000 (by omega)
        refine ⟨.bool (bif neg then !b else b), ?_, .bool _⟩
        have hi := eqv_inv hb
        generalize ρ x = x' at *
        generalize ρ y = y' at *
        generalize ρc x = xc at *
        generalize ρc y = yc at *
        have hg : (eqGuard op t x y x' y').run P w = .ok () w := by
          rcases hi with ⟨rfl, p, q, rfl, rfl, -⟩ | ⟨rfl, k, p, q, rfl, rfl, -⟩ | ⟨rfl, p, q, rfl, rfl, -⟩ | ⟨rfl, hi⟩ | ⟨rfl, hi⟩ | ⟨rfl, hi⟩ | ⟨rfl, hi⟩ | ⟨ps, xs, ys, rfl, rfl, rfl, -⟩
          · cases hx; cases hy; cases neg <;> subst hop' <;> simp [eqGuard]
          · cases hx; cases hy; cases neg <;> subst hop' <;> simp [eqGuard]
          · cases hx; cases hy; cases neg <;> subst hop' <;> simp [eqGuard]
          · rcases hi with ⟨rfl, q, rfl, -⟩ | ⟨a, rfl, rfl, -⟩ <;> cases hx <;> cases hy <;> cases neg <;> subst hop' <;> simp [eqGuard]
          · rcases hi with ⟨n1, c1, rfl, q, m1, d1, rfl, -⟩ | ⟨a, n1, c1, m1, d1, rfl, rfl, -⟩ <;> cases hx <;> cases hy <;> cases neg <;> subst hop' <;> simp [eqGuard]
          · rcases hi with ⟨rfl, q, rfl, -⟩ | ⟨a, rfl, rfl, -⟩ <;> cases hx <;> cases hy <;> cases neg <;> subst hop' <;> simp [eqGuard]
          · rcases hi with ⟨rfl, rfl, -⟩ | ⟨rfl, ⟨f, a, c, rfl⟩, -⟩ | ⟨⟨f, a, c, rfl⟩, rfl, -⟩ <;> cases hx <;> cases hy <;> cases neg <;> subst hop' <;> simp [eqGuard]
          · cases hx; cases hy
            have hgt : P.eqGuardType P.depth t = false := by
              simp only [eqT] at he
              split at he
              any_goals (simp at he; done)
              · rename_i fs hu
                obtain ⟨hc', he⟩ := cond_some he
                exact (hK t (by simpa using hc')).2
              · rename_i len el hu
                obtain ⟨hc', he⟩ := cond_some he
                exact (hK t (by simpa using hc')).2
            exact run_eqGuard_agg w op t x y _ _ hgt
        simp only [Sem.run_bind, hg, Result.andThen_ok]
        have hbo : (binOp op t x' y').run P w = .ok (.bool (bif neg then !b else b)) w := by
          have hgen : (binOp op t x' y') = (do let q ← Op.equal t x' y'; pure (.bool (bif neg then !q else q))) → (binOp op t x' y').run P w = .ok (.bool (bif neg then !b else b)) w := by
            intro hh
            rw [hh]
            have hq : (Op.equal t x' y').run P w = .ok b w := hrun
            cases neg <;> simp [hq]
          rcases hi with ⟨rfl, p, q, rfl, rfl, -⟩ | ⟨rfl, k, p, q, rfl, rfl, rfl⟩ | ⟨rfl, p, q, rfl, rfl, rfl⟩ | ⟨rfl, hi⟩ | ⟨rfl, hi⟩ | ⟨rfl, hi⟩ | ⟨rfl, hi⟩ | ⟨ps, xs, ys, rfl, rfl, rfl, -⟩
          · cases hx; cases hy; cases neg <;> subst hop' <;> exact hgen rfl
          · cases hx; cases hy; cases neg <;> subst hop' <;> simp [binOp, Op.intCmp] <;> rfl
          · cases hx; cases hy; cases neg <;> subst hop' <;> simp [binOp, Op.stringOp, beq_toListBytes]
          · rcases hi with ⟨rfl, q, rfl, -⟩ | ⟨a, rfl, rfl, -⟩ <;> cases hx <;> cases hy <;> cases neg <;> subst hop' <;> exact hgen rfl
          · rcases hi with ⟨n1, c1, rfl, q, m1, d1, rfl, -⟩ | ⟨a, n1, c1, m1, d1, rfl, rfl, -⟩ <;> cases hx <;> cases hy <;> cases neg <;> subst hop' <;> exact hgen rfl
          · rcases hi with ⟨rfl, q, rfl, -⟩ | ⟨a, rfl, rfl, -⟩ <;> cases hx <;> cases hy <;> cases neg <;> subst hop' <;> exact hgen rfl
          · rcases hi with ⟨rfl, rfl, -⟩ | ⟨rfl, ⟨f, a, c, rfl⟩, -⟩ | ⟨⟨f, a, c, rfl⟩, rfl, -⟩ <;> cases hx <;> cases hy <;> cases neg <;> subst hop' <;> exact hgen rfl
          · cases hx; cases hy; cases neg <;> subst hop' <;> exact hgen rfl
        rw [hbo]; rfl
    cases hb : isBasic (P.underlying t) with
    | true =>
      rw [hb] at hc
      obtain ⟨h1, h2⟩ := gd_some hc
      injection h2 with h2
      exact key rfl (by simpa using h1) h2.symm
    | false =>
      rw [hb] at hc
      cases ha : isAny (P.underlying t) with
      | true =>
        rw [ha] at hc
        simp only [cond_true, cond_false] at hc
        obtain ⟨ms, hu, hms⟩ : ∃ ms, P.underlying t = some (.interface ms) ∧ ms.isEmpty = true := by
          unfold isAny at ha
          split at ha
          · rename_i ms hq; exact ⟨ms, hq, ha⟩
          · cases ha
        have keqi : ∀ (neg : Bool), (okO x && okO y) = true → op = (bif neg then .neq else .eql) → p = .eqi neg x y →
            ∃ v', (do pure (.value (← (do eqGuard op t x y (ρ x) (ρ y); binOp op t (ρ x) (ρ y)))) : Sem Next).run P w = .ok (.value v') w ∧ VR φ v v' := by
          intro neg hok hop' hp
          subst hp
          simp only [Bool.and_eq_true] at hok
          obtain ⟨v', hv, r⟩ := pEqi_sound (P := P) (w := w) (t := t) hu hms (hr _ hok.1) (hr _ hok.2) hop' h x y
          exact ⟨v', by rw [Sem.run_bind, hv]; rfl, r⟩
        split at hc
        · obtain ⟨h1, h2⟩ := gd_some hc
          injection h2 with h2
          exact keqi false h1 rfl h2.symm
        · obtain ⟨h1, h2⟩ := gd_some hc
          injection h2 with h2
          exact keqi true h1 rfl h2.symm
        · simp at hc
      | false =>
        rw [ha] at hc
        simp only [cond_false] at hc
        split at hc
        · obtain ⟨e, he, hc⟩ := Option.bind_eq_some_iff.1 hc
          obtain ⟨h1, h2⟩ := gd_some hc
          injection h2 with h2
          exact keq e false he (by simpa using h1) rfl h2.symm
        · obtain ⟨e, he, hc⟩ := Option.bind_eq_some_iff.1 hc
          obtain ⟨h1, h2⟩ := gd_some hc
          injection h2 with h2
          exact keq e true he (by simpa using h1) rfl h2.symm
        · simp at hc
  case unOp op t x =>
    obtain ⟨h1, h2⟩ := gd_some hc
    injection h2 with h2; subst h2
    obtain ⟨v', hv, r⟩ := pUn_sound (P := P) (w := w) (hr _ h1) h
    exact ⟨v', by rw [Sem.run_bind, hv]; rfl, r⟩
  case convert s d x =>
    split at hc
    · rename_i k1 k2 hs hd
      obtain ⟨h1, h2⟩ := gd_some hc
      injection h2 with h2; subst h2
      obtain ⟨v', hv, r⟩ := pCint_sound (P := P) (w := w) (s := s) (by simp [hs]) hd (hr _ h1) h
      exact ⟨v', by rw [Sem.run_bind, hv]; rfl, r⟩
    · rename_i hs hd
      obtain ⟨h1, h2⟩ := gd_some hc
      injection h2 with h2; subst h2
      obtain ⟨v', hv, r⟩ := pCid_sound (P := P) (w := w) hs hd (hr _ h1) h
      exact ⟨v', by rw [Sem.run_bind, hv]; rfl, r⟩
    all_goals first | (simp at hc; done) | skip
    all_goals (split at hc <;> first | (simp at hc; done) | (obtain ⟨_, h2⟩ := gd_some hc; simp at h2))
  case nilCheck x =>
    obtain ⟨h1, h2⟩ := gd_some hc
    injection h2 with h2; subst h2
    exact pNil_sound (hr _ h1) h P
  case build t ps =>
    split at hc
    · rename_i fs z hu hz
      obtain ⟨hs, hc⟩ := cond_some hc
      obtain ⟨q, hq, h2⟩ := Option.map_eq_some_iff.1 hc
      injection h2 with h2; subst h2
      obtain ⟨v', hv, r⟩ := pBuild_struct (P := P) (w := w) hu hz hs hq hr h
      exact ⟨v', by rw [Sem.run_bind, hv]; rfl, r⟩
    · rename_i len e z hu hz
      obtain ⟨n, hn, hc⟩ := Option.bind_eq_some_iff.1 hc
      obtain ⟨q, hq, h2⟩ := Option.map_eq_some_iff.1 hc
      injection h2 with h2; subst h2
      obtain ⟨v', hv, r⟩ := pBuild_arr (P := P) (w := w) hu hz hn hq hr h
      exact ⟨v', by rw [Sem.run_bind, hv]; rfl, r⟩
    · simp at hc
  case fieldAddr t x i =>
    split at hc
    · rename_i fs hu
      split at hc
      · rename_i f hf
        split at hc
        · rename_i k hk
          obtain ⟨h1, h2⟩ := gd_some hc
          injection h2 with h2; subst h2
          have hx := hr _ h1
          simp only [cpure] at h
          generalize ρ x = x' at *
          generalize ρc x = xc at *
          cases hx <;> simp only [pFaddr, reduceCtorEq] at h
          rename_i A a har
          obtain ⟨b, o, st⟩ := A
          simp only [Option.some.injEq] at h
          subst h
          refine ⟨.pointer (some (a.add f.offset)), ?_, .ptr (har.amv f.offset)⟩
          simp [Instr.fieldAt, run_underlying hu, hf, Instr.sureAddr, fieldPlace, run_sizeOf' hk]
        · simp at hc
      · simp at hc
    · simp at hc
  case field t x i =>
    split at hc
    · rename_i fs hu
      split at hc
      · rename_i f hf
        obtain ⟨n, hn, hc⟩ := Option.bind_eq_some_iff.1 hc
        obtain ⟨h1, h2⟩ := gd_some hc
        injection h2 with h2; subst h2
        have hx := hr _ h1
        simp only [cpure] at h
        generalize ρ x = x' at *
        generalize ρc x = xc at *
        cases hx <;> (try (cases n <;> simp [pFld] at h; done))
        rename_i xs ys hx
        obtain ⟨v', hv, r⟩ := part_sound (P := P) (w := w) hn hx h
        refine ⟨v', ?_, r⟩
        simp [Instr.field, run_underlying hu, hf, asAgg, hv]
      · simp at hc
    · simp at hc
  case indexAddr t x i =>
    split at hc
    · rename_i e hu
      obtain ⟨n, hn, hc⟩ := Option.bind_eq_some_iff.1 hc
      obtain ⟨h1, h2⟩ := gd_some hc
      injection h2 with h2; subst h2
      simp only [Bool.and_eq_true] at h1
      obtain ⟨v', hv, r⟩ := pIaddr_sound (P := P) (w := w) hu hn (hr _ h1.1) (hr _ h1.2) h
      exact ⟨v', by rw [Sem.run_bind, hv]; rfl, r⟩
    · rename_i len e hu
      obtain ⟨n, hn, hc⟩ := Option.bind_eq_some_iff.1 hc
      obtain ⟨h1, h2⟩ := gd_some hc
      injection h2 with h2; subst h2
      simp only [Bool.and_eq_true] at h1
      obtain ⟨v', hv, r⟩ := pIaddrA_sound (P := P) (w := w) hu hn (hr _ h1.1) (hr _ h1.2) h
      exact ⟨v', by rw [Sem.run_bind, hv]; rfl, r⟩
    · simp at hc
  case index t x i =>
    split at hc
    · rename_i hu
      obtain ⟨h1, h2⟩ := gd_some hc
      injection h2 with h2; subst h2
      simp only [Bool.and_eq_true] at h1
      obtain ⟨v', hv, r⟩ := pIdxS_sound (P := P) (w := w) hu (hr _ h1.1) (hr _ h1.2) h
      exact ⟨v', by rw [Sem.run_bind, hv]; rfl, r⟩
    · rename_i len e hu
      split at hc
      · rename_i n a hn ha
        obtain ⟨h1, h2⟩ := gd_some hc
        injection h2 with h2; subst h2
        simp only [Bool.and_eq_true] at h1
        obtain ⟨v', hv, r⟩ := pIdxA_sound (P := P) (w := w) hu hn ha (hr _ h1.1) (hr _ h1.2) h
        exact ⟨v', by rw [Sem.run_bind, hv]; rfl, r⟩
      · simp at hc
    · simp at hc
  case slice t x lo hi mx =>
    have key : ∀ {q : POp}, okO x = true → okOO lo = true → okOO hi = true → okOO mx = true → True := fun _ _ _ _ => trivial
    split at hc
    · rename_i hu
      obtain ⟨h1, h2⟩ := gd_some hc
      injection h2 with h2; subst h2
      simp only [Bool.and_eq_true] at h1
      obtain ⟨⟨⟨⟨h1, hl⟩, hh⟩, hm⟩, hmx⟩ := h1
      cases mx with
      | some _ => simp at hmx
      | none =>
        obtain ⟨v', hv, r⟩ := pSlS_sound (P := P) (w := w) hu (hr _ h1) (OV.map hr hl) (OV.map hr hh) h
        exact ⟨v', by rw [Sem.run_bind]; simp only [Option.map_none]; rw [hv]; rfl, r⟩
    · rename_i e hu
      obtain ⟨n, hn, hc⟩ := Option.bind_eq_some_iff.1 hc
      obtain ⟨h1, h2⟩ := gd_some hc
      injection h2 with h2; subst h2
      simp only [Bool.and_eq_true] at h1
      obtain ⟨⟨⟨⟨h1, hl⟩, hh⟩, hm⟩, h3⟩ := h1
      obtain ⟨v', hv, r⟩ := pSl_sound (P := P) (w := w) hu hn (hr _ h1) (OV.map hr hl) (OV.map hr hh) (OV.map hr hm) h (by intro hq; cases mx <;> cases hi <;> simp at hq h3 ⊢)
      exact ⟨v', by rw [Sem.run_bind, hv]; rfl, r⟩
    · rename_i len e hu
      obtain ⟨n, hn, hc⟩ := Option.bind_eq_some_iff.1 hc
      obtain ⟨h1, h2⟩ := gd_some hc
      injection h2 with h2; subst h2
      simp only [Bool.and_eq_true] at h1
      obtain ⟨⟨⟨⟨h1, hl⟩, hh⟩, hm⟩, h3⟩ := h1
      obtain ⟨v', hv, r⟩ := pSlA_sound (P := P) (w := w) hu hn (hr _ h1) (OV.map hr hl) (OV.map hr hh) (OV.map hr hm) h (by intro hq; cases mx <;> cases hi <;> simp at hq h3 ⊢)
      exact ⟨v', by rw [Sem.run_bind, hv]; rfl, r⟩
    · simp at hc
  case typeAssert x xt t ok =>
    split at hc
    · simp at hc
    · rename_i d hni hu
      split at hc
      · rename_i z hz
        obtain ⟨h1, h2⟩ := gd_some hc
        injection h2 with h2; subst h2
        simp only [Bool.and_eq_true] at h1
        obtain ⟨i, hi, hzi⟩ := Option.bind_eq_some_iff.1 hz
        have hx := hr _ h1.1
        simp only [cpure] at h
        generalize ρ x = x' at *
        generalize ρc x = xc at *
        have hzc : VR φ z z := VR.closed h1.2
        have hzr := run_zeroValue' (P := P) hi hzi w
        cases hx <;> simp only [pAsrt, reduceCtorEq] at h
        · cases ok with
          | false => simp at h
          | true =>
            simp only [cond_true, Option.some.injEq] at h
            subst h
            refine ⟨.tuple #[z, .bool false], ?_, .tuple (.cons hzc (.cons (.bool _) .nil))⟩
            cases d <;> first | exact absurd rfl (hni _) | simp [Instr.typeAssert, run_underlying hu, hzr]
        · rename_i u v v' hv
          by_cases hut : u = t
          · subst hut
            simp only [Nat.beq_refl, cond_true, Option.some.injEq] at h
            subst h
            refine ⟨if ok then .tuple #[v', .bool true] else v', ?_, ?_⟩
            · cases d <;> first | exact absurd rfl (hni _) | simp [Instr.typeAssert, run_underlying hu]
            · cases ok
              · exact hv
              · exact .tuple (.cons hv (.cons (.bool _) .nil))
          · have hb : Nat.beq u t = false := by rw [← Bool.not_eq_true, Nat.beq_eq]; exact hut
            rw [hb] at h
            cases ok with
            | false => simp at h
            | true =>
              simp only [cond_false, cond_true, Option.some.injEq] at h
              subst h
              refine ⟨.tuple #[z, .bool false], ?_, .tuple (.cons hzc (.cons (.bool _) .nil))⟩
              cases d <;> first | exact absurd rfl (hni _) | simp [Instr.typeAssert, run_underlying hu, hzr, hut]
      · simp at hc
    · simp at hc
  case extract x i =>
    obtain ⟨h1, h2⟩ := gd_some hc
    injection h2 with h2; subst h2
    have hx := hr _ h1
    simp only [cpure] at h
    generalize ρ x = x' at *
    generalize ρc x = xc at *
    cases hx <;> simp only [pExt, reduceCtorEq] at h
    rename_i xs ys hx
    obtain ⟨v', hv, r⟩ := hx.get? h
    refine ⟨v', ?_, r⟩
    have hq : (⟨ys⟩ : Array Value)[i]? = some v' := by simpa using hv
    simp [Instr.extract, hq]
  case makeInterface t x =>
    split at hc
    · simp at hc
    · rename_i d hu hd
      obtain ⟨h1, h2⟩ := gd_some hc
      injection h2 with h2; subst h2
      simp only [cpure, Option.some.injEq] at h; subst h
      refine ⟨.iface t (ρ x), ?_, .iface t (hr _ h1)⟩
      simp only [Instr.makeInterface, Sem.run_bind, run_underlying hd, Result.andThen_ok]
      cases d <;> first | rfl | exact absurd rfl (hu _)
    · simp at hc
  case makeFunc fn a b =>
    split at hc
    · rename_i f
      obtain ⟨h1, h2⟩ := gd_some hc
      injection h2 with h2; subst h2
      simp only [Bool.and_eq_true] at h1
      simp only [cpure, Option.some.injEq] at h; subst h
      refine ⟨.func (.func f) (a.map ρ) (b.map ρ), by simp [Instr.makeFunc], ?_⟩
      have ea : a.map ρ = ⟨a.toList.map ρ⟩ := by apply Array.toList_inj.1; simp
      have eb : b.map ρ = ⟨b.toList.map ρ⟩ := by apply Array.toList_inj.1; simp
      rw [ea, eb]
      exact .func f (mapOs_sound hr _ h1.1.1) (mapOs_sound hr _ h1.1.2)
    · simp at hc
  case load t x =>
    obtain ⟨n, hn, hc⟩ := Option.bind_eq_some_iff.1 hc
    obtain ⟨h1, h2⟩ := gd_some hc
    simp at h2
  case alloc t => simp at hc
  case box t x =>
    obtain ⟨n, hn, hc⟩ := Option.bind_eq_some_iff.1 hc
    obtain ⟨h1, h2⟩ := gd_some hc
    simp at h2
  case buildSlice t len ps =>
    split at hc
    · split at hc
      · obtain ⟨_, hc⟩ := cond_some hc
        simp at hc
      · simp at hc
    · simp at hc
  case makeSlice t l c =>
    split at hc
    · split at hc
      · obtain ⟨h1, h2⟩ := gd_some hc
        simp at h2
      · simp at hc
    · simp at hc
  case range t x =>
    split at hc
    · obtain ⟨h1, h2⟩ := gd_some hc
      simp at h2
    · obtain ⟨h1, h2⟩ := gd_some hc
      simp at h2
    · simp at hc
  case makeMap t r => cases r <;> simp at hc
  case lookup t m k ok =>
    split at hc
    · split at hc
      · obtain ⟨h1, h2⟩ := gd_some hc; simp at h2
      · simp at hc
    · simp at hc
  case mapUpdate t m k x =>
    split at hc
    · split at hc
      · obtain ⟨h1, h2⟩ := gd_some hc; simp at h2
      · simp at hc
    · simp at hc
  case entry x => obtain ⟨h1, h2⟩ := gd_some hc; simp at h2
  case next x str =>
    obtain ⟨h1, h2⟩ := gd_some hc
    simp at h2
  case store t a x =>
    obtain ⟨n, hn, hc⟩ := Option.bind_eq_some_iff.1 hc
    obtain ⟨h1, h2⟩ := gd_some hc
    simp at h2
  case panic x =>
    obtain ⟨h1, h2⟩ := gd_some hc
    simp at h2
  case call c => exact call_pure_sound hc hr h
end Go.Cl

/- A region that draws its order: in whatever order, it comes to the same. -/
import Derived.Test.YtaicnnkljmanmaaGreatDoorClSeq
namespace Go.Cl
open Go
variable {P : Program} {E : Env} {φ φ' : Ren} {H H' : CH} {w w' : World}

/-! ### what an operation reads -/
def Same (ct ct' : List Value) (l : List Nat) : Prop := ∀ t ∈ l, cget ct t = cget ct' t
theorem Same.left {ct ct' : List Value} {l m : List Nat} (h : Same ct ct' (l ++ m)) : Same ct ct' l := fun t ht => h t (List.mem_append_left _ ht)
theorem Same.right {ct ct' : List Value} {l m : List Nat} (h : Same ct ct' (l ++ m)) : Same ct ct' m := fun t ht => h t (List.mem_append_right _ ht)
theorem cev_same {ct ct' : List Value} {x : Operand} (h : Same ct ct' (tmpsO x)) : cev ct x = cev ct' x := by
  cases x with
  | tmp t => exact h t (by simp [tmpsO])
  | _ => rfl
theorem mapOs_same {ct ct' : List Value} : ∀ {l : List Operand}, Same ct ct' (tmpsOs l) → mapOs (cev ct) l = mapOs (cev ct') l
  | [], _ => rfl
  | x :: r, h => by simp only [tmpsOs] at h; simp only [mapOs, cev_same h.left, mapOs_same h.right]
theorem mapPs_same {ct ct' : List Value} : ∀ {l : List (Nat × Nat × Operand)}, Same ct ct' (tmpsPs l) → mapPs (cev ct) l = mapPs (cev ct') l
  | [], _ => rfl
  | (i, n, x) :: r, h => by simp only [tmpsPs] at h; simp only [mapPs, cev_same h.left, mapPs_same h.right]
theorem map_same {ct ct' : List Value} {x : Option Operand} (h : Same ct ct' (tmpsOO x)) : x.map (cev ct) = x.map (cev ct') := by
  cases x with
  | none => rfl
  | some x => simp only [tmpsOO] at h; simp only [Option.map_some, cev_same h]
theorem cpure_same {ct ct' : List Value} {p : POp} (h : Same ct ct' (readsP p)) : cpure p (cev ct) = cpure p (cev ct') := by
  cases p <;> simp only [readsP] at h <;> simp only [cpure]
  all_goals first
    | (rw [cev_same h]; done)
    | (rw [mapPs_same h]; done)
    | (rw [cev_same h.left, cev_same h.right]; done)
    | (rw [mapOs_same h.left, mapOs_same h.right]; done)
    | (rw [cev_same h.left, cev_same h.right.left, cev_same h.right.right]; done)
    | (rw [cev_same h.left, map_same h.right.left, map_same h.right.right]; done)
    | (rw [cev_same h.left, map_same h.right.left, map_same h.right.right.left, map_same h.right.right.right]; done)
theorem cload_same {ct ct' : List Value} {p : LOp} (h : Same ct ct' (readsL p)) : cload E H p (cev ct) = cload E H p (cev ct') := by
  cases p <;> simp only [readsL] at h <;> simp only [cload]
  all_goals first
    | (rw [cev_same h]; done)
    | (rw [cev_same h.left, cev_same h.right]; done)
theorem cnew_same {ct ct' : List Value} {p : NOp} (h : Same ct ct' (readsN p)) (id : Nat) : cnew id p (cev ct) = cnew id p (cev ct') := by
  cases p <;> simp only [readsN] at h <;> simp only [cnew]
  all_goals first
    | (rw [cev_same h]; done)
    | (rw [mapPs_same h]; done)
    | (rw [cev_same h.left, cev_same h.right]; done)
theorem ceff_same {ct ct' : List Value} {p : EOp} {call : CallF} (h : Same ct ct' (readsE p)) : ceff E call H p (cev ct) = ceff E call H p (cev ct') := by
  cases p <;> simp only [readsE] at h <;> simp only [ceff]
  all_goals first
    | (rw [cev_same h]; done)
    | (rw [mapOs_same h]; done)
    | (rw [cev_same h.left, cev_same h.right]; done)
    | (rw [cev_same h.left, mapOs_same h.right]; done)
    | (rw [cev_same h.left, cev_same h.right.left, cev_same h.right.right]; done)
theorem wanted_same {ct ct' : List Value} {g : Option (Nat × Bool)} (h : Same ct ct' (readsG g)) : Cl.wanted g ct = Cl.wanted g ct' := by
  cases g with
  | none => rfl
  | some tb => obtain ⟨t, b⟩ := tb; simp only [Cl.wanted, h t (by simp [readsG])]

/-! ### equal values -/
theorem aeqb_eq {a b : Addr} (h : aeqb a b = true) : a = b := by
  obtain ⟨ab, ao, as⟩ := a
  obtain ⟨bb, bo, bs⟩ := b
  simp only [aeqb, Bool.and_eq_true, Nat.beq_eq] at h
  obtain ⟨rfl, rfl, h⟩ := h
  cases as <;> cases bs <;> simp at h ⊢
  exact h
mutual
theorem veqb_eq : ∀ {a b : Value}, veqb a b = true → a = b
  | .bool true, .bool true, _ => rfl
  | .bool false, .bool false, _ => rfl
  | .chan (some a), .chan (some b), h => by
    simp only [veqb, Nat.beq_eq] at h
    rw [h]
  | .int k a, .int k' b, h => by
    simp only [veqb, Bool.and_eq_true] at h
    have h1 := keq_eq _ _ h.1
    have h2 := h.2
    rw [ieq_eq] at h2
    rw [h1, eq_of_beq h2]
  | .string a, .string b, h => by
    simp only [veqb] at h
    rw [lsEq_eq] at h
    rw [ba_ext (eq_of_beq h)]
  | .pointer none, .pointer none, _ => rfl
  | .pointer (some a), .pointer (some b), h => by simp only [veqb] at h; rw [aeqb_eq h]
  | .slice none n c, .slice none m d, h => by
    simp only [veqb, Bool.and_eq_true, Nat.beq_eq] at h
    rw [h.1, h.2]
  | .slice (some a) n c, .slice (some b) m d, h => by
    simp only [veqb, Bool.and_eq_true, Nat.beq_eq] at h
    rw [aeqb_eq h.1, h.2.1, h.2.2]
  | .map none, .map none, _ => rfl
  | .map (some a), .map (some b), h => by simp only [veqb, Nat.beq_eq] at h; rw [h]
  | .chan none, .chan none, _ => rfl
  | .nilFunc, .nilFunc, _ => rfl
  | .nilIface, .nilIface, _ => rfl
  | .func (.func f) ⟨a⟩ ⟨b⟩, .func (.func g) ⟨c⟩ ⟨d⟩, h => by
    simp only [veqb, Bool.and_eq_true, Nat.beq_eq] at h
    rw [h.1, veqbs_eq h.2.1, veqbs_eq h.2.2]
  | .iface t v, .iface u w, h => by
    simp only [veqb, Bool.and_eq_true, Nat.beq_eq] at h
    rw [h.1, veqb_eq h.2]
  | .agg ⟨a⟩, .agg ⟨b⟩, h => by simp only [veqb] at h; rw [veqbs_eq h]
  | .tuple ⟨a⟩, .tuple ⟨b⟩, h => by simp only [veqb] at h; rw [veqbs_eq h]
theorem veqbs_eq : ∀ {a b : List Value}, veqbs a b = true → a = b
  | [], [], _ => rfl
  | a :: x, b :: y, h => by
    simp only [veqbs, Bool.and_eq_true] at h
    rw [veqb_eq h.1, veqbs_eq h.2]
  | [], _ :: _, h => by simp [veqbs] at h
  | _ :: _, [], h => by simp [veqbs] at h
end

/-! ### the run in the written order -/
structure Step1 (E : Env) (call : CallF) (base : Nat) (ctf : Nat → List Value) (K : Nat → CH) (val : Nat → Value) (i : Nat) (c : COper) : Prop where
  ct : ctf (i + 1) = cput c.dst (val i) (ctf i)
  off : Cl.wanted c.guard (ctf i) = false → val i = undef ∧ K (i + 1) = K i
  p : Cl.wanted c.guard (ctf i) = true → ∀ p, c.op = .p p → cpure p (cev (ctf i)) = some (val i) ∧ K (i + 1) = K i
  l : Cl.wanted c.guard (ctf i) = true → ∀ lo hi l, c.op = .l lo hi l → K (i + 1) = K i
  n : Cl.wanted c.guard (ctf i) = true → ∀ n, c.op = .n n → ∃ ob, cnew (base + i) n (cev (ctf i)) = some (val i, ob) ∧ K (i + 1) = (K i).put (base + i) ob
  e : Cl.wanted c.guard (ctf i) = true → ∀ b e, c.op = .e b e → ceff E call (K i) e (cev (ctf i)) = some (.ret (val i), K (i + 1))
  bad : Cl.wanted c.guard (ctf i) = true → c.op ≠ .bad
theorem rank_mono (cs : List COper) {i j : Nat} (h : i ≤ j) : rank cs i ≤ rank cs j := by
  induction j with
  | zero => obtain rfl : i = 0 := by omega
            exact Nat.le_refl _
  | succ j ih =>
    by_cases hij : i = j + 1
    · subst hij; exact Nat.le_refl _
    · have := ih (by omega)
      simp only [rank]
      cases isEAt cs j <;> simp <;> omega
theorem cdrawn_trace {call : CallF} {base : Nat} {cs : List COper} : ∀ (os : List COper) (i : Nat) (ct : List Value) (h : CH) (gs : List CH) (ls : List LRec) (ct' : List Value) (h' : CH) (gs' : List CH) (ls' : List LRec),
    os = cs.drop i → i ≤ cs.length → cdrawn E call base os i ct h gs ls = some (ct', h', gs', ls') →
    ∃ (ctf : Nat → List Value) (K : Nat → CH) (val : Nat → Value), ctf i = ct ∧ K i = h ∧ ctf cs.length = ct' ∧ K cs.length = h' ∧
      (∀ k c, i ≤ k → cs[k]? = some c → Step1 E call base ctf K val k c) ∧
      (∃ m, gs'.reverse = gs.reverse ++ m ∧ ∀ e, i ≤ e → e ≤ cs.length → (isEAt cs e = true ∨ e = cs.length) → m[rank cs e - rank cs i]? = some (K e)) ∧
      (∀ r ∈ ls, r ∈ ls') ∧
      (∀ k c lo hi l, i ≤ k → cs[k]? = some c → Cl.wanted c.guard (ctf k) = true → c.op = .l lo hi l → (⟨lo, hi, l, ctf k, val k⟩ : LRec) ∈ ls') := by
  intro os
  induction os with
  | nil =>
    intro i ct h gs ls ct' h' gs' ls' hos hi hr
    have : i = cs.length := by
      have := congrArg List.length hos; simp at this; omega
    subst this
    simp only [cdrawn, Option.some.injEq, Prod.mk.injEq] at hr
    obtain ⟨rfl, rfl, rfl, rfl⟩ := hr
    refine ⟨fun _ => ct, fun _ => h, fun _ => undef, rfl, rfl, rfl, rfl, fun k c hk hc => ?_, ⟨[h], by simp, fun e he he' _ => ?_⟩, fun r hr => hr, fun k c lo hi l hk hc => ?_⟩
    · rw [List.getElem?_eq_none hk] at hc; cases hc
    · obtain rfl : e = cs.length := by omega
      simp
    · rw [List.getElem?_eq_none hk] at hc; cases hc
  | cons o os ih =>
    intro i ct h gs ls ct' h' gs' ls' hos hi hr
    have hlt : i < cs.length := by
      have := congrArg List.length hos; simp at this; omega
    have hio : cs[i]? = some o := by rw [← List.head?_drop, ← hos]; rfl
    have hos' : os = cs.drop (i + 1) := by rw [← List.tail_drop, ← hos]; rfl
    -- one step, whatever it is
    have key : ∀ (v : Value) (h1 : CH) (ls1 : List LRec), cdrawn E call base os (i + 1) (cput o.dst v ct) h1 (bif isE o.op then h :: gs else gs) ls1 = some (ct', h', gs', ls') → (∀ r ∈ ls, r ∈ ls1) →
        (Cl.wanted o.guard ct = false → v = undef ∧ h1 = h) →
        (Cl.wanted o.guard ct = true → ∀ p, o.op = .p p → cpure p (cev ct) = some v ∧ h1 = h) →
        (Cl.wanted o.guard ct = true → ∀ lo hi l, o.op = .l lo hi l → h1 = h ∧ (⟨lo, hi, l, ct, v⟩ : LRec) ∈ ls1) →
        (Cl.wanted o.guard ct = true → ∀ n, o.op = .n n → ∃ ob, cnew (base + i) n (cev ct) = some (v, ob) ∧ h1 = h.put (base + i) ob) →
        (Cl.wanted o.guard ct = true → ∀ b e, o.op = .e b e → ceff E call h e (cev ct) = some (.ret v, h1)) →
        (Cl.wanted o.guard ct = true → o.op ≠ .bad) →
        ∃ (ctf : Nat → List Value) (K : Nat → CH) (val : Nat → Value), ctf i = ct ∧ K i = h ∧ ctf cs.length = ct' ∧ K cs.length = h' ∧
          (∀ k c, i ≤ k → cs[k]? = some c → Step1 E call base ctf K val k c) ∧
          (∃ m, gs'.reverse = gs.reverse ++ m ∧ ∀ e, i ≤ e → e ≤ cs.length → (isEAt cs e = true ∨ e = cs.length) → m[rank cs e - rank cs i]? = some (K e)) ∧
          (∀ r ∈ ls, r ∈ ls') ∧
          (∀ k c lo hi l, i ≤ k → cs[k]? = some c → Cl.wanted c.guard (ctf k) = true → c.op = .l lo hi l → (⟨lo, hi, l, ctf k, val k⟩ : LRec) ∈ ls') := by
      intro v h1 ls1 hrec hls foff fp fl fn fe fb
      obtain ⟨ctf, K, val, e1, e2, e3, e4, hst, ⟨m, hm, hmk⟩, hll, hld⟩ := ih (i + 1) _ _ _ _ _ _ _ _ hos' hlt hrec
      have hii : ∀ {α : Type} (f : Nat → α) (x : α) (k : Nat), k ≠ i → (if k = i then x else f k) = f k := fun f x k hk => if_neg hk
      refine ⟨fun k => if k = i then ct else ctf k, fun k => if k = i then h else K k, fun k => if k = i then v else val k, by simp, by simp, ?_, ?_, ?_, ?_, fun r hr => hll r (hls r hr), ?_⟩
      · show (if cs.length = i then ct else ctf cs.length) = ct'
        rw [if_neg (by omega)]; exact e3
      · show (if cs.length = i then h else K cs.length) = h'
        rw [if_neg (by omega)]; exact e4
      · intro k c hk hc
        by_cases hki : k = i
        · subst hki
          rw [hio] at hc
          simp only [Option.some.injEq] at hc
          subst hc
          have n1 : ¬ (k + 1 = k) := by omega
          constructor
          · simp only [if_true, if_neg n1]; exact e1
          · simp only [if_true, if_neg n1, e2]; exact foff
          · simp only [if_true, if_neg n1, e2]; exact fp
          · simp only [if_true, if_neg n1, e2]; exact fun hw lo hi' l hl => (fl hw lo hi' l hl).1
          · simp only [if_true, if_neg n1, e2]; exact fn
          · simp only [if_true, if_neg n1, e2]; exact fe
          · simp only [if_true]; exact fb
        · have hs := hst k c (by omega) hc
          have n1 : ¬ (k + 1 = i) := by omega
          constructor <;> simp only [if_neg hki, if_neg n1]
          · exact hs.ct
          · exact hs.off
          · exact hs.p
          · exact hs.l
          · exact hs.n
          · exact hs.e
          · exact hs.bad
      · have hiE : isEAt cs i = isE o.op := by simp [isEAt, hio]
        cases hE : isE o.op with
        | true =>
          rw [hE] at hm
          simp only [cond_true, List.reverse_cons, List.append_assoc, List.singleton_append] at hm
          refine ⟨h :: m, hm, fun e he he' hq => ?_⟩
          have hr1 : rank cs (i + 1) = rank cs i + 1 := by simp [rank, hiE, hE]
          by_cases hei : e = i
          · subst hei; simp
          · have := rank_mono cs (i := i + 1) (j := e) (by omega)
            rw [show rank cs e - rank cs i = (rank cs e - rank cs (i + 1)) + 1 from by omega, List.getElem?_cons_succ]
            simp only [if_neg hei]
            exact hmk e (by omega) he' hq
        | false =>
          rw [hE] at hm
          simp only [cond_false] at hm
          refine ⟨m, hm, fun e he he' hq => ?_⟩
          have hr1 : rank cs (i + 1) = rank cs i := by simp [rank, hiE, hE]
          by_cases hei : e = i
          · subst hei
            rcases hq with hq | hq
            · rw [hiE, hE] at hq; cases hq
            · omega
          · simp only [if_neg hei]
            rw [← hr1]
            exact hmk e (by omega) he' hq
      · intro k c lo hi2 l hk hc hw hop
        by_cases hki : k = i
        · subst hki
          rw [hio] at hc
          simp only [Option.some.injEq] at hc
          subst hc
          simp only [if_true] at hw ⊢
          exact hll _ (fl hw lo hi2 l hop).2
        · simp only [if_neg hki] at hw ⊢
          exact hld k c lo hi2 l (by omega) hc hw hop
    simp only [cdrawn] at hr
    cases hwt : Cl.wanted o.guard ct with
    | false =>
      rw [hwt] at hr
      simp only [cond_false] at hr
      exact key undef h ls hr (fun r hr => hr) (fun _ => ⟨rfl, rfl⟩) (by rw [hwt]; intro h; cases h) (by rw [hwt]; intro h; cases h) (by rw [hwt]; intro h; cases h) (by rw [hwt]; intro h; cases h) (by rw [hwt]; intro h; cases h)
    | true =>
      rw [hwt] at hr
      simp only [cond_true] at hr
      cases hop : o.op with
      | p p =>
        rw [hop] at hr key
        simp only at hr
        cases hv : cpure p (cev ct) with
        | none => rw [hv] at hr; simp at hr
        | some v =>
          rw [hv] at hr
          exact key v h ls hr (fun r hr => hr) (by rw [hwt]; intro h; cases h) (fun _ q hq => by injection hq with hq; subst hq; exact ⟨hv, rfl⟩) (fun _ _ _ _ h => by cases h) (fun _ _ h => by cases h) (fun _ _ _ h => by cases h) (fun _ h => by cases h)
      | l lo hi l =>
        rw [hop] at hr key
        simp only at hr
        cases hv : cload E h l (cev ct) with
        | none => rw [hv] at hr; simp at hr
        | some v =>
          rw [hv] at hr
          exact key v h _ hr (fun r hr => List.mem_cons_of_mem _ hr) (by rw [hwt]; intro h; cases h) (fun _ _ h => by cases h) (fun _ lo hi l hq => by injection hq with q1 q2 q3; subst q1 q2 q3; exact ⟨rfl, List.mem_cons_self⟩) (fun _ _ h => by cases h) (fun _ _ _ h => by cases h) (fun _ h => by cases h)
      | n n =>
        rw [hop] at hr key
        simp only at hr
        cases hv : cnew (base + i) n (cev ct) with
        | none => rw [hv] at hr; simp at hr
        | some r =>
          obtain ⟨v, ob⟩ := r
          rw [hv] at hr
          exact key v _ ls hr (fun r hr => hr) (by rw [hwt]; intro h; cases h) (fun _ _ h => by cases h) (fun _ _ _ _ h => by cases h) (fun _ q hq => by injection hq with hq; subst hq; exact ⟨ob, hv, rfl⟩) (fun _ _ _ h => by cases h) (fun _ h => by cases h)
      | e b e =>
        rw [hop] at hr key
        simp only at hr
        cases hv : ceff E call h e (cev ct) with
        | none => rw [hv] at hr; simp at hr
        | some r =>
          obtain ⟨out, h1⟩ := r
          rw [hv] at hr
          cases out with
          | pan v => simp at hr
          | ret v =>
            exact key v h1 ls hr (fun r hr => hr) (by rw [hwt]; intro h; cases h) (fun _ _ h => by cases h) (fun _ _ _ _ h => by cases h) (fun _ _ h => by cases h) (fun _ b' q hq => by injection hq with _ hq; subst hq; exact hv) (fun _ h => by cases h)
      | bad => rw [hop] at hr; cases hr
end Go.Cl

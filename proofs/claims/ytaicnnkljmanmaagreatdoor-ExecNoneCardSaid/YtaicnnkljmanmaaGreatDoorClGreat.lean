/- The three functions that tell how great a question is: the evaluator comes to an end on every question that is laid. -/
import Derived.Test.YtaicnnkljmanmaaGreatDoorClMemo
namespace Go.Cl
open Go
def sizeF (self : Nat) : CFun := ⟨25,
  (.seq (.rg false [⟨(some 1), none, .n (.box 5 (.tmp 0))⟩,
  ⟨(some 2), none, .p (.mv (.const (.int .i64 0)))⟩]) (.seq (.rg false [⟨(some 5), none, .p (.faddr 4 (.tmp 1))⟩,
  ⟨(some 6), none, .l 0 0 (.var none (.tmp 5))⟩,
  ⟨(some 7), none, .p (.lenSl (.tmp 6))⟩,
  ⟨(some 8), none, .p (.bin .add (.const (.int .i64 1)) (.tmp 7))⟩,
  ⟨(some 3), none, .p (.mv (.tmp 8))⟩]) (.seq (.seq (.rg false [⟨(some 4), none, .p (.mv (.const (.int .i64 0)))⟩]) (.block 0 (.loop (.seq (.seq (.rg false [⟨(some 9), none, .p (.mv (.tmp 4))⟩,
  ⟨(some 10), none, .p (.faddr 1 (.tmp 1))⟩,
  ⟨(some 11), none, .l 0 0 (.var none (.tmp 10))⟩,
  ⟨(some 12), none, .p (.lenSl (.tmp 11))⟩,
  ⟨(some 13), none, .p (.bin .lss (.tmp 9) (.tmp 12))⟩]) (.cond (.tmp 13) .skip (.exit 0))) (.seq (.block 1 (.rg false [⟨(some 16), none, .p (.mv (.tmp 3))⟩,
  ⟨(some 17), none, .p (.faddr 1 (.tmp 1))⟩,
  ⟨(some 18), none, .l 0 0 (.var none (.tmp 17))⟩,
  ⟨(some 19), none, .p (.mv (.tmp 4))⟩,
  ⟨(some 20), none, .p (.iaddr 5 (.tmp 18) (.tmp 19))⟩,
  ⟨(some 21), none, .l 0 0 (.var (some 5) (.tmp 20))⟩,
  ⟨(some 22), none, .e true (.call self [(.tmp 21)])⟩,
  ⟨(some 23), none, .p (.bin .add (.tmp 16) (.tmp 22))⟩,
  ⟨(some 3), none, .p (.mv (.tmp 23))⟩])) (.rg false [⟨(some 14), none, .p (.mv (.tmp 4))⟩,
  ⟨(some 15), none, .p (.bin .add (.tmp 14) (.const (.int .i64 1)))⟩,
  ⟨(some 4), none, .p (.mv (.tmp 15))⟩])))))) (.seq (.rg false [⟨(some 24), none, .p (.mv (.tmp 3))⟩,
  ⟨(some 2), none, .p (.mv (.tmp 24))⟩]) .ret)))),
  [.tmp 2]⟩

/-! ### the pieces -/
theorem cset_length (l : List Value) (i : Nat) (x : Value) : (cset l i x).length = l.length := by rw [cset_set, List.length_set]
theorem cget_cset (l : List Value) (i : Nat) (x : Value) (j : Nat) : cget (cset l i x) j = if j = i ∧ i < l.length then x else cget l j := by
  rw [cset_set, cget_eq, cget_eq, List.getD_eq_getElem?_getD, List.getD_eq_getElem?_getD, List.getElem?_set]
  by_cases h : j = i
  · subst h
    by_cases hl : j < l.length
    · simp [hl]
    · simp [hl]
  · rw [if_neg (fun e => h e.symm), if_neg (fun e => h e.1)]
variable {E : Env} {N : Nat}
theorem lVar_box1 {H : CH} {id off : Nat} {c : List Value} (h : H.get id = some (fresh c)) : lVar E H none (.pointer (some ⟨id, off, some 0⟩)) = (c.drop off).head? := by
  have hv : view (fresh c) 0 = some c := rfl
  simp only [lVar, cview, h, hv, Option.map_some]
theorem lVar_glob {H : CH} {b off n : Nat} {cs : List Value} (h : E.glob b = some cs) : lVar E H (some n) (.pointer (some ⟨b, off, none⟩)) = (takeN n (cs.drop off)).map fun c => .agg ⟨c⟩ := by
  simp only [lVar, cview, h]
  simp
/-- A node's cells, laid in the frame; a tree at most d deep, each row shorter than N. -/
def NodeT (g : Nat → Option (List Value)) (N : Nat) : Nat → List Value → Prop
  | 0, _ => False
  | d + 1, c => ∃ op kids col cmp va vm vc m, c = [op, kids, col, cmp, .slice va vm vc] ∧
      ((kids = .slice none 0 0 ∧ m = 0) ∨ ∃ b o C, kids = .slice (some ⟨b, o, none⟩) m C ∧ ∀ j, j < m → ∃ cs, g b = some cs ∧ ∃ c5, takeN 5 (cs.drop (o + j * 5)) = some c5 ∧ NodeT g N d c5) ∧ m < N ∧ m ≤ maxI
/-- It came to a number, and touched nothing that was there. -/
def Num (H : CH) (r : Option (Out × CH)) : Prop := ∃ k H', r = some (.ret (.int .i64 k), H') ∧ H.next ≤ H'.next ∧ ∀ id, id < H.next → H'.get id = H.get id
theorem get_add (H : CH) (o : CObj) (j : Nat) : (H.add o).get j = if j = H.next then some o else H.get j := Tr.get_set _ _ _ _
theorem exec_seq {call : CallF} {a b : CCode} {s s' : St} (h : exec E call N a s = some (.normal, s')) : exec E call N (.seq a b) s = exec E call N b s' := by simp only [exec, h]
theorem exec_rg {call : CallF} {ops : List COper} {ct ct' : List Value} {H H' : CH} (h : cops E call ops ct H = some (.normal, ct', H')) : exec E call N (.rg false ops) (ct, H) = some (.normal, ct', H') := h
theorem exec_loop {call : CallF} {id : Nat} {b : CCode} {s s' : St} (h : loopN N (exec E call N b) s = some (.exit id, s')) : exec E call N (.block id (.loop b)) s = some (.normal, s') := by
  simp only [exec, h, Nat.beq_refl, cond_true]
theorem size_total {self : Nat} (hs : E.tab.get self = some (sizeF self)) : ∀ (d : Nat) (c5 : List Value) (H : CH), NodeT E.glob N d c5 → Num H ((ccall E none1 N d).fn self [.agg ⟨c5⟩] H) := by
  intro d
  induction d with
  | zero => intro c5 H h; cases h
  | succ d ih =>
    intro c5 H h
    obtain ⟨op, kids, col, cmp, va, vm, vc, m, rfl, hk, hmN, hmI⟩ := h
    -- the loop
    have hloop : ∀ (n j : Nat), m < j + n → j ≤ m → ∀ (ct : List Value) (k : Int) (H1 : CH), ct.length = 25 → cget ct 1 = .pointer (some ⟨H.next, 0, some 0⟩) → cget ct 3 = .int .i64 k → cget ct 4 = .int .i64 (.ofNat j) →
        H1.get H.next = some (fresh [op, kids, col, cmp, .slice va vm vc]) → H.next < H1.next → (∀ id, id < H.next → H1.get id = H.get id) →
        ∃ ct' k' H2, loopN n (exec E (ccall E none1 N d) N (.seq (.seq (.rg false [⟨(some 9), none, .p (.mv (.tmp 4))⟩,
  ⟨(some 10), none, .p (.faddr 1 (.tmp 1))⟩,
  ⟨(some 11), none, .l 0 0 (.var none (.tmp 10))⟩,
  ⟨(some 12), none, .p (.lenSl (.tmp 11))⟩,
  ⟨(some 13), none, .p (.bin .lss (.tmp 9) (.tmp 12))⟩]) (.cond (.tmp 13) .skip (.exit 0))) (.seq (.block 1 (.rg false [⟨(some 16), none, .p (.mv (.tmp 3))⟩,
  ⟨(some 17), none, .p (.faddr 1 (.tmp 1))⟩,
  ⟨(some 18), none, .l 0 0 (.var none (.tmp 17))⟩,
  ⟨(some 19), none, .p (.mv (.tmp 4))⟩,
  ⟨(some 20), none, .p (.iaddr 5 (.tmp 18) (.tmp 19))⟩,
  ⟨(some 21), none, .l 0 0 (.var (some 5) (.tmp 20))⟩,
  ⟨(some 22), none, .e true (.call self [(.tmp 21)])⟩,
  ⟨(some 23), none, .p (.bin .add (.tmp 16) (.tmp 22))⟩,
  ⟨(some 3), none, .p (.mv (.tmp 23))⟩])) (.rg false [⟨(some 14), none, .p (.mv (.tmp 4))⟩,
  ⟨(some 15), none, .p (.bin .add (.tmp 14) (.const (.int .i64 1)))⟩,
  ⟨(some 4), none, .p (.mv (.tmp 15))⟩])))) (ct, H1) = some (.exit 0, ct', H2) ∧ ct'.length = 25 ∧ cget ct' 3 = .int .i64 k' ∧ H.next < H2.next ∧ (∀ id, id < H.next → H2.get id = H.get id) := by
      intro n
      induction n with
      | zero => intro j h1 h2; omega
      | succ n ihn =>
        intro j hj hn ct k H1 hl h1 h3 h4 hb hnx hkeep
        have hkl : ∃ A C, kids = .slice A m C := by
          rcases hk with ⟨rfl, rfl⟩ | ⟨b, o, C, rfl, _⟩
          · exact ⟨_, _, rfl⟩
          · exact ⟨_, _, rfl⟩
        obtain ⟨A, C, hkk⟩ := hkl
        rw [hkk] at hb
        by_cases hlt : j < m
        · -- a kid
          rcases hk with ⟨rfl, rfl⟩ | ⟨b, o, C', rfl, hkid⟩
          · omega
          obtain ⟨rfl, rfl⟩ : A = some ⟨b, o, none⟩ ∧ C = C' := by
            injection hkk with h1 h2 h3; exact ⟨h1.symm, h3.symm⟩
          obtain ⟨cs, hcs, c5, hc5, hT⟩ := hkid j hlt
          obtain ⟨kk, H2, hcall, hn2, hk2⟩ := ih c5 H1 hT
          have hbl : cbin .lss .i64 (Int.ofNat j) (Int.ofNat m) = some (.bool true) := by
            have : Nat.ble m j = false := by rw [← Bool.not_eq_true, Nat.ble_eq]; omega
            show some (Value.bool (!Nat.ble m j)) = _
            rw [this]; rfl
          have hbl' : cbin .lss .i64 (j : Int) (m : Int) = some (.bool true) := hbl
          have hl11 : lVar E H1 none (.pointer (some ⟨H.next, 1, some 0⟩)) = some (.slice (some ⟨b, o, none⟩) m C) := by rw [lVar_box1 hb]; rfl
          have hci : cidx (.int .i64 (j : Int)) m = some j := by
            have : Nat.blt j m = true := by unfold Nat.blt; rw [Nat.ble_eq]; omega
            show (bif Nat.blt j m then some j else none) = _
            rw [this]; rfl
          have hl21 : lVar E H1 (some 5) (.pointer (some ⟨b, o + j * 5, none⟩)) = some (.agg ⟨c5⟩) := by rw [lVar_glob hcs, hc5]; rfl
          have hadd : cbin .add .i64 (j : Int) 1 = some (.int .i64 (Int.ofNat (j + 1))) := by
            show some (Value.int .i64 (cwrap .i64 (Int.ofNat (j + 1)))) = _
            have h1 : ile (kmin .i64) (Int.ofNat (j + 1)) = true := rfl
            have h2 : ile (Int.ofNat (j + 1)) (kmax .i64) = true := by
              show Nat.ble (j + 1) 9223372036854775807 = true
              unfold maxI at hmI
              rw [Nat.ble_eq]; omega
            simp only [cwrap, h1, h2, Bool.and_self, cond_true]
          obtain ⟨k2, hk2'⟩ : ∃ k2, cbin .add .i64 k kk = some (.int .i64 k2) := ⟨_, rfl⟩
          have hstep : ∃ ct1, exec E (ccall E none1 N d) N (.seq (.seq (.rg false [⟨(some 9), none, .p (.mv (.tmp 4))⟩,
  ⟨(some 10), none, .p (.faddr 1 (.tmp 1))⟩,
  ⟨(some 11), none, .l 0 0 (.var none (.tmp 10))⟩,
  ⟨(some 12), none, .p (.lenSl (.tmp 11))⟩,
  ⟨(some 13), none, .p (.bin .lss (.tmp 9) (.tmp 12))⟩]) (.cond (.tmp 13) .skip (.exit 0))) (.seq (.block 1 (.rg false [⟨(some 16), none, .p (.mv (.tmp 3))⟩,
  ⟨(some 17), none, .p (.faddr 1 (.tmp 1))⟩,
  ⟨(some 18), none, .l 0 0 (.var none (.tmp 17))⟩,
  ⟨(some 19), none, .p (.mv (.tmp 4))⟩,
  ⟨(some 20), none, .p (.iaddr 5 (.tmp 18) (.tmp 19))⟩,
  ⟨(some 21), none, .l 0 0 (.var (some 5) (.tmp 20))⟩,
  ⟨(some 22), none, .e true (.call self [(.tmp 21)])⟩,
  ⟨(some 23), none, .p (.bin .add (.tmp 16) (.tmp 22))⟩,
  ⟨(some 3), none, .p (.mv (.tmp 23))⟩])) (.rg false [⟨(some 14), none, .p (.mv (.tmp 4))⟩,
  ⟨(some 15), none, .p (.bin .add (.tmp 14) (.const (.int .i64 1)))⟩,
  ⟨(some 4), none, .p (.mv (.tmp 15))⟩]))) (ct, H1) = some (.normal, ct1, H2) ∧ ct1.length = 25 ∧ cget ct1 1 = .pointer (some ⟨H.next, 0, some 0⟩) ∧ cget ct1 3 = .int .i64 k2 ∧ cget ct1 4 = .int .i64 (.ofNat (j + 1)) := by
            refine ⟨(cset (cset (cset (cset (cset (cset (cset (cset (cset (cset (cset (cset (cset (cset (cset (cset (cset ct 9 (.int .i64 (.ofNat j))) 10 (.pointer (some ⟨H.next, 1, some 0⟩))) 11 (.slice (some ⟨b, o, none⟩) m C)) 12 (.int .i64 (.ofNat m))) 13 (.bool true)) 16 (.int .i64 k)) 17 (.pointer (some ⟨H.next, 1, some 0⟩))) 18 (.slice (some ⟨b, o, none⟩) m C)) 19 (.int .i64 (.ofNat j))) 20 (.pointer (some ⟨b, o + j * 5, none⟩))) 21 (.agg ⟨c5⟩)) 22 (.int .i64 kk)) 23 (.int .i64 k2)) 3 (.int .i64 k2)) 14 (.int .i64 (.ofNat j))) 15 (.int .i64 (.ofNat (j + 1)))) 4 (.int .i64 (.ofNat (j + 1)))), ?_, by simp [cset_length, hl], by simp [cget_cset, cset_length, hl, h1], by simp [cget_cset, cset_length, hl], by simp [cget_cset, cset_length, hl]⟩
            have hcall' : (ccall E none1 N d).fn self [.agg ⟨c5⟩] H1 = some (.ret (.int .i64 kk), H2) := hcall
            simp [exec, cops, cop, wanted, outP, cpure, cload, ceff, mapOs, cev, cput, pFaddr, pLenSl, pBin, pIaddr, pPtr, cget_cset, cset_length, hl, h1, h3, h4, hl11, isShift, keq, hbl', hci, hl21, hcall', hk2', hadd]
          obtain ⟨ct1, he, g0, g1, g3, g4⟩ := hstep
          have hb2 : H2.get H.next = some (fresh [op, .slice (some ⟨b, o, none⟩) m C, col, cmp, .slice va vm vc]) := by rw [hk2 _ hnx]; exact hb
          obtain ⟨ct', k', H3, r1, r2, r3, r4, r5⟩ := ihn (j + 1) (by omega) (by omega) ct1 k2 H2 g0 g1 g3 g4 hb2 (by omega) (fun id hid => by rw [hk2 id (by omega)]; exact hkeep id hid)
          exact ⟨ct', k', H3, by simp only [loopN, he]; exact r1, r2, r3, r4, r5⟩
        · -- behind the last one
          have hjm : ¬ (Int.ofNat j < Int.ofNat m) := by simp; omega
          have hbl : cbin .lss .i64 (Int.ofNat j) (Int.ofNat m) = some (.bool false) := by
            have : Nat.ble m j = true := by rw [Nat.ble_eq]; omega
            show some (Value.bool (!Nat.ble m j)) = _
            rw [this]; rfl
          have hbl' : cbin .lss .i64 (j : Int) (m : Int) = some (.bool false) := hbl
          refine ⟨cset (cset (cset (cset (cset ct 9 (.int .i64 (.ofNat j))) 10 (.pointer (some ⟨H.next, 1, some 0⟩))) 11 (.slice A m C)) 12 (.int .i64 (.ofNat m))) 13 (.bool false), k, H1, ?_, by simp [cset_length, hl], by simp [cget_cset, h3], hnx, hkeep⟩
          have hl11 : lVar E H1 none (.pointer (some ⟨H.next, 1, some 0⟩)) = some (.slice A m C) := by rw [lVar_box1 hb]; rfl
          simp [loopN, exec, cops, cop, wanted, outP, cpure, cload, cev, cput, pFaddr, pLenSl, pBin, cget_cset, cset_length, hl, h1, h3, h4, hl11, isShift, keq, hbl']
    -- the whole
    have hnx : (H.add (fresh [op, kids, col, cmp, .slice va vm vc])).get H.next = some (fresh [op, kids, col, cmp, .slice va vm vc]) := by rw [get_add, if_pos rfl]
    have hkeep : ∀ id, id < H.next → (H.add (fresh [op, kids, col, cmp, .slice va vm vc])).get id = H.get id := fun id hid => by rw [get_add, if_neg (by omega)]
    have hl6 : lVar E (H.add (fresh [op, kids, col, cmp, .slice va vm vc])) none (.pointer (some ⟨H.next, 4, some 0⟩)) = some (.slice va vm vc) := by rw [lVar_box1 hnx]; rfl
    obtain ⟨k0, hk0⟩ : ∃ k0, cbin .add .i64 1 (vm : Int) = some (.int .i64 k0) := ⟨_, rfl⟩
    have hct0 : ∃ ct0, cops E (ccall E none1 N d) [⟨(some 4), none, .p (.mv (.const (.int .i64 0)))⟩] (cset (cset (cset (cset (cset (cset (cset ([.agg ⟨[op, kids, col, cmp, .slice va vm vc]⟩] ++ List.replicate 24 undef) 1 (ptr0 H.next)) 2 (.int .i64 0)) 5 (.pointer (some ⟨H.next, 4, some 0⟩))) 6 (.slice va vm vc)) 7 (.int .i64 (vm : Int))) 8 (.int .i64 k0)) 3 (.int .i64 k0)) (H.add (fresh [op, kids, col, cmp, .slice va vm vc])) = some (.normal, ct0, H.add (fresh [op, kids, col, cmp, .slice va vm vc])) ∧ ct0.length = 25 ∧ cget ct0 1 = .pointer (some ⟨H.next, 0, some 0⟩) ∧ cget ct0 3 = .int .i64 k0 ∧ cget ct0 4 = .int .i64 (.ofNat 0) := by
      refine ⟨_, rfl, by simp [cput, cset_length], by simp [cput, cget_cset, cset_length, ptr0], by simp [cput, cget_cset, cset_length], by simp [cput, cget_cset, cset_length, cev]⟩
    obtain ⟨ct0, he0, g0, g1, g3, g4⟩ := hct0
    obtain ⟨ct', k', H2, r1, r2, r3, r4, r5⟩ := hloop N 0 (by omega) (by omega) ct0 k0 (H.add (fresh [op, kids, col, cmp, .slice va vm vc])) g0 g1 g3 g4 hnx (by show H.next < H.next + 1; omega) hkeep
    refine ⟨k', H2, ?_, by omega, r5⟩
    have hnone : ((none1 (ccall E none1 N d)).fn self [.agg ⟨[op, kids, col, cmp, .slice va vm vc]⟩] H) = none := rfl
    have hE : exec E (ccall E none1 N d) N (sizeF self).body ([.agg ⟨[op, kids, col, cmp, .slice va vm vc]⟩] ++ List.replicate ((sizeF self).ntmps - [Value.agg ⟨[op, kids, col, cmp, .slice va vm vc]⟩].length) undef, H) = some (.ret, cset (cset ct' 24 (.int .i64 k')) 2 (.int .i64 k'), H2) := by
      have e24 : (sizeF self).ntmps - [Value.agg ⟨[op, kids, col, cmp, .slice va vm vc]⟩].length = 24 := rfl
      rw [e24]
      have f1 : cops E (ccall E none1 N d) [⟨(some 1), none, .n (.box 5 (.tmp 0))⟩, ⟨(some 2), none, .p (.mv (.const (.int .i64 0)))⟩] ([.agg ⟨[op, kids, col, cmp, .slice va vm vc]⟩] ++ List.replicate 24 undef) H = some (.normal, cset (cset ([.agg ⟨[op, kids, col, cmp, .slice va vm vc]⟩] ++ List.replicate 24 undef) 1 (ptr0 H.next)) 2 (.int .i64 0), H.add (fresh [op, kids, col, cmp, .slice va vm vc])) := by
        simp [cops, cop, wanted, outP, outN, cnew, nBox, cells, cpure, cev, cput, cget]
      have f2 : cops E (ccall E none1 N d) [⟨(some 5), none, .p (.faddr 4 (.tmp 1))⟩, ⟨(some 6), none, .l 0 0 (.var none (.tmp 5))⟩, ⟨(some 7), none, .p (.lenSl (.tmp 6))⟩, ⟨(some 8), none, .p (.bin .add (.const (.int .i64 1)) (.tmp 7))⟩, ⟨(some 3), none, .p (.mv (.tmp 8))⟩] (cset (cset ([.agg ⟨[op, kids, col, cmp, .slice va vm vc]⟩] ++ List.replicate 24 undef) 1 (ptr0 H.next)) 2 (.int .i64 0)) (H.add (fresh [op, kids, col, cmp, .slice va vm vc])) = some (.normal, cset (cset (cset (cset (cset (cset (cset ([.agg ⟨[op, kids, col, cmp, .slice va vm vc]⟩] ++ List.replicate 24 undef) 1 (ptr0 H.next)) 2 (.int .i64 0)) 5 (.pointer (some ⟨H.next, 4, some 0⟩))) 6 (.slice va vm vc)) 7 (.int .i64 (vm : Int))) 8 (.int .i64 k0)) 3 (.int .i64 k0), H.add (fresh [op, kids, col, cmp, .slice va vm vc])) := by
        simp [cops, cop, wanted, outP, cload, cpure, cev, cput, pFaddr, pLenSl, pBin, cget_cset, cset_length, ptr0, hl6, isShift, keq, hk0]
      refine (exec_seq (exec_rg f1)).trans ((exec_seq (exec_rg f2)).trans ((exec_seq ((exec_seq (exec_rg he0)).trans (exec_loop r1))).trans ?_))
      simp [exec, cops, cop, wanted, outP, cpure, cev, cput, cget_cset, cset_length, r2, r3]
    simp only [ccall, hnone, hs, hE]
    simp [finish, cresults, cresult, sizeF, cget_cset, cset_length, r2]
/-- A test's cells, likewise. -/
def TestT (g : Nat → Option (List Value)) (N : Nat) : Nat → List Value → Prop
  | 0, _ => False
  | d + 1, c => ∃ op kids out cmp v1 v2 v3 m, c = [op, kids, out, cmp, v1, v2, v3] ∧
      ((kids = .slice none 0 0 ∧ m = 0) ∨ ∃ b o C, kids = .slice (some ⟨b, o, none⟩) m C ∧ ∀ j, j < m → ∃ cs, g b = some cs ∧ ∃ c5, takeN 7 (cs.drop (o + j * 7)) = some c5 ∧ TestT g N d c5) ∧ m < N ∧ m ≤ maxI
def testF (self : Nat) : CFun := ⟨21,
  (.seq (.rg false [⟨(some 1), none, .n (.box 7 (.tmp 0))⟩,
  ⟨(some 2), none, .p (.mv (.const (.int .i64 0)))⟩]) (.seq (.rg false [⟨(some 3), none, .p (.mv (.const (.int .i64 1)))⟩]) (.seq (.seq (.rg false [⟨(some 4), none, .p (.mv (.const (.int .i64 0)))⟩]) (.block 0 (.loop (.seq (.seq (.rg false [⟨(some 5), none, .p (.mv (.tmp 4))⟩,
  ⟨(some 6), none, .p (.faddr 1 (.tmp 1))⟩,
  ⟨(some 7), none, .l 0 0 (.var none (.tmp 6))⟩,
  ⟨(some 8), none, .p (.lenSl (.tmp 7))⟩,
  ⟨(some 9), none, .p (.bin .lss (.tmp 5) (.tmp 8))⟩]) (.cond (.tmp 9) .skip (.exit 0))) (.seq (.block 1 (.rg false [⟨(some 12), none, .p (.mv (.tmp 3))⟩,
  ⟨(some 13), none, .p (.faddr 1 (.tmp 1))⟩,
  ⟨(some 14), none, .l 0 0 (.var none (.tmp 13))⟩,
  ⟨(some 15), none, .p (.mv (.tmp 4))⟩,
  ⟨(some 16), none, .p (.iaddr 7 (.tmp 14) (.tmp 15))⟩,
  ⟨(some 17), none, .l 0 0 (.var (some 7) (.tmp 16))⟩,
  ⟨(some 18), none, .e true (.call self [(.tmp 17)])⟩,
  ⟨(some 19), none, .p (.bin .add (.tmp 12) (.tmp 18))⟩,
  ⟨(some 3), none, .p (.mv (.tmp 19))⟩])) (.rg false [⟨(some 10), none, .p (.mv (.tmp 4))⟩,
  ⟨(some 11), none, .p (.bin .add (.tmp 10) (.const (.int .i64 1)))⟩,
  ⟨(some 4), none, .p (.mv (.tmp 11))⟩])))))) (.seq (.rg false [⟨(some 20), none, .p (.mv (.tmp 3))⟩,
  ⟨(some 2), none, .p (.mv (.tmp 20))⟩]) .ret)))),
  [.tmp 2]⟩
theorem test_total {self : Nat} (hs : E.tab.get self = some (testF self)) : ∀ (d : Nat) (c5 : List Value) (H : CH), TestT E.glob N d c5 → Num H ((ccall E none1 N d).fn self [.agg ⟨c5⟩] H) := by
  intro d
  induction d with
  | zero => intro c5 H h; cases h
  | succ d ih =>
    intro c5 H h
    obtain ⟨op, kids, out, cmp, v1, v2, v3, m, rfl, hk, hmN, hmI⟩ := h
    -- the loop
    have hloop : ∀ (n j : Nat), m < j + n → j ≤ m → ∀ (ct : List Value) (k : Int) (H1 : CH), ct.length = 21 → cget ct 1 = .pointer (some ⟨H.next, 0, some 0⟩) → cget ct 3 = .int .i64 k → cget ct 4 = .int .i64 (.ofNat j) →
        H1.get H.next = some (fresh [op, kids, out, cmp, v1, v2, v3]) → H.next < H1.next → (∀ id, id < H.next → H1.get id = H.get id) →
        ∃ ct' k' H2, loopN n (exec E (ccall E none1 N d) N (.seq (.seq (.rg false [⟨(some 5), none, .p (.mv (.tmp 4))⟩,
  ⟨(some 6), none, .p (.faddr 1 (.tmp 1))⟩,
  ⟨(some 7), none, .l 0 0 (.var none (.tmp 6))⟩,
  ⟨(some 8), none, .p (.lenSl (.tmp 7))⟩,
  ⟨(some 9), none, .p (.bin .lss (.tmp 5) (.tmp 8))⟩]) (.cond (.tmp 9) .skip (.exit 0))) (.seq (.block 1 (.rg false [⟨(some 12), none, .p (.mv (.tmp 3))⟩,
  ⟨(some 13), none, .p (.faddr 1 (.tmp 1))⟩,
  ⟨(some 14), none, .l 0 0 (.var none (.tmp 13))⟩,
  ⟨(some 15), none, .p (.mv (.tmp 4))⟩,
  ⟨(some 16), none, .p (.iaddr 7 (.tmp 14) (.tmp 15))⟩,
  ⟨(some 17), none, .l 0 0 (.var (some 7) (.tmp 16))⟩,
  ⟨(some 18), none, .e true (.call self [(.tmp 17)])⟩,
  ⟨(some 19), none, .p (.bin .add (.tmp 12) (.tmp 18))⟩,
  ⟨(some 3), none, .p (.mv (.tmp 19))⟩])) (.rg false [⟨(some 10), none, .p (.mv (.tmp 4))⟩,
  ⟨(some 11), none, .p (.bin .add (.tmp 10) (.const (.int .i64 1)))⟩,
  ⟨(some 4), none, .p (.mv (.tmp 11))⟩])))) (ct, H1) = some (.exit 0, ct', H2) ∧ ct'.length = 21 ∧ cget ct' 3 = .int .i64 k' ∧ H.next < H2.next ∧ (∀ id, id < H.next → H2.get id = H.get id) := by
      intro n
      induction n with
      | zero => intro j h1 h2; omega
      | succ n ihn =>
        intro j hj hn ct k H1 hl h1 h3 h4 hb hnx hkeep
        have hkl : ∃ A C, kids = .slice A m C := by
          rcases hk with ⟨rfl, rfl⟩ | ⟨b, o, C, rfl, _⟩
          · exact ⟨_, _, rfl⟩
          · exact ⟨_, _, rfl⟩
        obtain ⟨A, C, hkk⟩ := hkl
        rw [hkk] at hb
        by_cases hlt : j < m
        · -- a kid
          rcases hk with ⟨rfl, rfl⟩ | ⟨b, o, C', rfl, hkid⟩
          · omega
          obtain ⟨rfl, rfl⟩ : A = some ⟨b, o, none⟩ ∧ C = C' := by
            injection hkk with h1 h2 h3; exact ⟨h1.symm, h3.symm⟩
          obtain ⟨cs, hcs, c5, hc5, hT⟩ := hkid j hlt
          obtain ⟨kk, H2, hcall, hn2, hk2⟩ := ih c5 H1 hT
          have hbl : cbin .lss .i64 (Int.ofNat j) (Int.ofNat m) = some (.bool true) := by
            have : Nat.ble m j = false := by rw [← Bool.not_eq_true, Nat.ble_eq]; omega
            show some (Value.bool (!Nat.ble m j)) = _
            rw [this]; rfl
          have hbl' : cbin .lss .i64 (j : Int) (m : Int) = some (.bool true) := hbl
          have hl11 : lVar E H1 none (.pointer (some ⟨H.next, 1, some 0⟩)) = some (.slice (some ⟨b, o, none⟩) m C) := by rw [lVar_box1 hb]; rfl
          have hci : cidx (.int .i64 (j : Int)) m = some j := by
            have : Nat.blt j m = true := by unfold Nat.blt; rw [Nat.ble_eq]; omega
            show (bif Nat.blt j m then some j else none) = _
            rw [this]; rfl
          have hl21 : lVar E H1 (some 7) (.pointer (some ⟨b, o + j * 7, none⟩)) = some (.agg ⟨c5⟩) := by rw [lVar_glob hcs, hc5]; rfl
          have hadd : cbin .add .i64 (j : Int) 1 = some (.int .i64 (Int.ofNat (j + 1))) := by
            show some (Value.int .i64 (cwrap .i64 (Int.ofNat (j + 1)))) = _
            have h1 : ile (kmin .i64) (Int.ofNat (j + 1)) = true := rfl
            have h2 : ile (Int.ofNat (j + 1)) (kmax .i64) = true := by
              show Nat.ble (j + 1) 9223372036854775807 = true
              unfold maxI at hmI
              rw [Nat.ble_eq]; omega
            simp only [cwrap, h1, h2, Bool.and_self, cond_true]
          obtain ⟨k2, hk2'⟩ : ∃ k2, cbin .add .i64 k kk = some (.int .i64 k2) := ⟨_, rfl⟩
          have hstep : ∃ ct1, exec E (ccall E none1 N d) N (.seq (.seq (.rg false [⟨(some 5), none, .p (.mv (.tmp 4))⟩,
  ⟨(some 6), none, .p (.faddr 1 (.tmp 1))⟩,
  ⟨(some 7), none, .l 0 0 (.var none (.tmp 6))⟩,
  ⟨(some 8), none, .p (.lenSl (.tmp 7))⟩,
  ⟨(some 9), none, .p (.bin .lss (.tmp 5) (.tmp 8))⟩]) (.cond (.tmp 9) .skip (.exit 0))) (.seq (.block 1 (.rg false [⟨(some 12), none, .p (.mv (.tmp 3))⟩,
  ⟨(some 13), none, .p (.faddr 1 (.tmp 1))⟩,
  ⟨(some 14), none, .l 0 0 (.var none (.tmp 13))⟩,
  ⟨(some 15), none, .p (.mv (.tmp 4))⟩,
  ⟨(some 16), none, .p (.iaddr 7 (.tmp 14) (.tmp 15))⟩,
  ⟨(some 17), none, .l 0 0 (.var (some 7) (.tmp 16))⟩,
  ⟨(some 18), none, .e true (.call self [(.tmp 17)])⟩,
  ⟨(some 19), none, .p (.bin .add (.tmp 12) (.tmp 18))⟩,
  ⟨(some 3), none, .p (.mv (.tmp 19))⟩])) (.rg false [⟨(some 10), none, .p (.mv (.tmp 4))⟩,
  ⟨(some 11), none, .p (.bin .add (.tmp 10) (.const (.int .i64 1)))⟩,
  ⟨(some 4), none, .p (.mv (.tmp 11))⟩]))) (ct, H1) = some (.normal, ct1, H2) ∧ ct1.length = 21 ∧ cget ct1 1 = .pointer (some ⟨H.next, 0, some 0⟩) ∧ cget ct1 3 = .int .i64 k2 ∧ cget ct1 4 = .int .i64 (.ofNat (j + 1)) := by
            refine ⟨(cset (cset (cset (cset (cset (cset (cset (cset (cset (cset (cset (cset (cset (cset (cset (cset (cset ct 5 (.int .i64 (.ofNat j))) 6 (.pointer (some ⟨H.next, 1, some 0⟩))) 7 (.slice (some ⟨b, o, none⟩) m C)) 8 (.int .i64 (.ofNat m))) 9 (.bool true)) 12 (.int .i64 k)) 13 (.pointer (some ⟨H.next, 1, some 0⟩))) 14 (.slice (some ⟨b, o, none⟩) m C)) 15 (.int .i64 (.ofNat j))) 16 (.pointer (some ⟨b, o + j * 7, none⟩))) 17 (.agg ⟨c5⟩)) 18 (.int .i64 kk)) 19 (.int .i64 k2)) 3 (.int .i64 k2)) 10 (.int .i64 (.ofNat j))) 11 (.int .i64 (.ofNat (j + 1)))) 4 (.int .i64 (.ofNat (j + 1)))), ?_, by simp [cset_length, hl], by simp [cget_cset, cset_length, hl, h1], by simp [cget_cset, cset_length, hl], by simp [cget_cset, cset_length, hl]⟩
            have hcall' : (ccall E none1 N d).fn self [.agg ⟨c5⟩] H1 = some (.ret (.int .i64 kk), H2) := hcall
            simp [exec, cops, cop, wanted, outP, cpure, cload, ceff, mapOs, cev, cput, pFaddr, pLenSl, pBin, pIaddr, pPtr, cget_cset, cset_length, hl, h1, h3, h4, hl11, isShift, keq, hbl', hci, hl21, hcall', hk2', hadd]
          obtain ⟨ct1, he, g0, g1, g3, g4⟩ := hstep
          have hb2 : H2.get H.next = some (fresh [op, .slice (some ⟨b, o, none⟩) m C, out, cmp, v1, v2, v3]) := by rw [hk2 _ hnx]; exact hb
          obtain ⟨ct', k', H3, r1, r2, r3, r4, r5⟩ := ihn (j + 1) (by omega) (by omega) ct1 k2 H2 g0 g1 g3 g4 hb2 (by omega) (fun id hid => by rw [hk2 id (by omega)]; exact hkeep id hid)
          exact ⟨ct', k', H3, by simp only [loopN, he]; exact r1, r2, r3, r4, r5⟩
        · -- behind the last one
          have hjm : ¬ (Int.ofNat j < Int.ofNat m) := by simp; omega
          have hbl : cbin .lss .i64 (Int.ofNat j) (Int.ofNat m) = some (.bool false) := by
            have : Nat.ble m j = true := by rw [Nat.ble_eq]; omega
            show some (Value.bool (!Nat.ble m j)) = _
            rw [this]; rfl
          have hbl' : cbin .lss .i64 (j : Int) (m : Int) = some (.bool false) := hbl
          refine ⟨cset (cset (cset (cset (cset ct 5 (.int .i64 (.ofNat j))) 6 (.pointer (some ⟨H.next, 1, some 0⟩))) 7 (.slice A m C)) 8 (.int .i64 (.ofNat m))) 9 (.bool false), k, H1, ?_, by simp [cset_length, hl], by simp [cget_cset, h3], hnx, hkeep⟩
          have hl11 : lVar E H1 none (.pointer (some ⟨H.next, 1, some 0⟩)) = some (.slice A m C) := by rw [lVar_box1 hb]; rfl
          simp [loopN, exec, cops, cop, wanted, outP, cpure, cload, cev, cput, pFaddr, pLenSl, pBin, cget_cset, cset_length, hl, h1, h3, h4, hl11, isShift, keq, hbl']
    -- the whole
    have hnx : (H.add (fresh [op, kids, out, cmp, v1, v2, v3])).get H.next = some (fresh [op, kids, out, cmp, v1, v2, v3]) := by rw [get_add, if_pos rfl]
    have hkeep : ∀ id, id < H.next → (H.add (fresh [op, kids, out, cmp, v1, v2, v3])).get id = H.get id := fun id hid => by rw [get_add, if_neg (by omega)]
    have hct0 : ∃ ct0, cops E (ccall E none1 N d) [⟨(some 4), none, .p (.mv (.const (.int .i64 0)))⟩] (cset (cset (cset ([.agg ⟨[op, kids, out, cmp, v1, v2, v3]⟩] ++ List.replicate 20 undef) 1 (ptr0 H.next)) 2 (.int .i64 0)) 3 (.int .i64 1)) (H.add (fresh [op, kids, out, cmp, v1, v2, v3])) = some (.normal, ct0, H.add (fresh [op, kids, out, cmp, v1, v2, v3])) ∧ ct0.length = 21 ∧ cget ct0 1 = .pointer (some ⟨H.next, 0, some 0⟩) ∧ cget ct0 3 = .int .i64 1 ∧ cget ct0 4 = .int .i64 (.ofNat 0) := by
      refine ⟨_, rfl, by simp [cput, cset_length], by simp [cput, cget_cset, cset_length, ptr0], by simp [cput, cget_cset, cset_length], by simp [cput, cget_cset, cset_length, cev]⟩
    obtain ⟨ct0, he0, g0, g1, g3, g4⟩ := hct0
    obtain ⟨ct', k', H2, r1, r2, r3, r4, r5⟩ := hloop N 0 (by omega) (by omega) ct0 1 (H.add (fresh [op, kids, out, cmp, v1, v2, v3])) g0 g1 g3 g4 hnx (by show H.next < H.next + 1; omega) hkeep
    refine ⟨k', H2, ?_, by omega, r5⟩
    have hnone : ((none1 (ccall E none1 N d)).fn self [.agg ⟨[op, kids, out, cmp, v1, v2, v3]⟩] H) = none := rfl
    have hE : exec E (ccall E none1 N d) N (testF self).body ([.agg ⟨[op, kids, out, cmp, v1, v2, v3]⟩] ++ List.replicate ((testF self).ntmps - [Value.agg ⟨[op, kids, out, cmp, v1, v2, v3]⟩].length) undef, H) = some (.ret, cset (cset ct' 20 (.int .i64 k')) 2 (.int .i64 k'), H2) := by
      have e24 : (testF self).ntmps - [Value.agg ⟨[op, kids, out, cmp, v1, v2, v3]⟩].length = 20 := rfl
      rw [e24]
      have f1 : cops E (ccall E none1 N d) [⟨(some 1), none, .n (.box 7 (.tmp 0))⟩, ⟨(some 2), none, .p (.mv (.const (.int .i64 0)))⟩] ([.agg ⟨[op, kids, out, cmp, v1, v2, v3]⟩] ++ List.replicate 20 undef) H = some (.normal, cset (cset ([.agg ⟨[op, kids, out, cmp, v1, v2, v3]⟩] ++ List.replicate 20 undef) 1 (ptr0 H.next)) 2 (.int .i64 0), H.add (fresh [op, kids, out, cmp, v1, v2, v3])) := by
        simp [cops, cop, wanted, outP, outN, cnew, nBox, cells, cpure, cev, cput, cget]
      have f2 : cops E (ccall E none1 N d) [⟨(some 3), none, .p (.mv (.const (.int .i64 1)))⟩] (cset (cset ([.agg ⟨[op, kids, out, cmp, v1, v2, v3]⟩] ++ List.replicate 20 undef) 1 (ptr0 H.next)) 2 (.int .i64 0)) (H.add (fresh [op, kids, out, cmp, v1, v2, v3])) = some (.normal, (cset (cset (cset ([.agg ⟨[op, kids, out, cmp, v1, v2, v3]⟩] ++ List.replicate 20 undef) 1 (ptr0 H.next)) 2 (.int .i64 0)) 3 (.int .i64 1)), H.add (fresh [op, kids, out, cmp, v1, v2, v3])) := by
        simp [cops, cop, wanted, outP, cpure, cev, cput]
      refine (exec_seq (exec_rg f1)).trans ((exec_seq (exec_rg f2)).trans ((exec_seq ((exec_seq (exec_rg he0)).trans (exec_loop r1))).trans ?_))
      simp [exec, cops, cop, wanted, outP, cpure, cev, cput, cget_cset, cset_length, r2, r3]
    simp only [ccall, hnone, hs, hE]
    simp [finish, cresults, cresult, testF, cget_cset, cset_length, r2]
end Go.Cl

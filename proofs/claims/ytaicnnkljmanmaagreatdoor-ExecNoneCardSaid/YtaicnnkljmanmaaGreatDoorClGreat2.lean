/- Whether a question is too great: an answer, whatever the question, in any world that bears the blocks it lies in. -/
import Derived.Test.YtaicnnkljmanmaaGreatDoorClGreat
import Derived.Test.YtaicnnkljmanmaaGreatDoorClTab
namespace Go.Cl
open Go
def greatF (sz ts : Nat) : CFun := ⟨31,
  (.seq (.rg false [⟨(some 1), none, .n (.box 16 (.tmp 0))⟩,
  ⟨(some 2), none, .p (.mv (.const (.bool false)))⟩]) (.seq (.rg false [⟨(some 3), none, .p (.faddr 5 (.tmp 1))⟩,
  ⟨(some 4), none, .l 0 0 (.var none (.tmp 3))⟩,
  ⟨(some 5), none, .p (.lenSl (.tmp 4))⟩,
  ⟨(some 6), none, .p (.bin .gtr (.tmp 5) (.const (.int .i64 40)))⟩,
  ⟨(some 7), none, .p (.mv (.tmp 6))⟩,
  ⟨(some 8), (some (7, false)), .p (.faddr 6 (.tmp 1))⟩,
  ⟨(some 9), (some (7, false)), .l 0 0 (.var none (.tmp 8))⟩,
  ⟨(some 10), (some (7, false)), .p (.lenSl (.tmp 9))⟩,
  ⟨(some 11), (some (7, false)), .p (.bin .gtr (.tmp 10) (.const (.int .i64 40)))⟩,
  ⟨(some 12), none, .p (.pick (.tmp 7) (.const (.bool true)) (.tmp 11))⟩,
  ⟨(some 13), none, .p (.mv (.tmp 12))⟩,
  ⟨(some 14), (some (13, false)), .p (.faddr 14 (.tmp 1))⟩,
  ⟨(some 15), (some (13, false)), .l 0 0 (.var none (.tmp 14))⟩,
  ⟨(some 16), (some (13, false)), .p (.lenSl (.tmp 15))⟩,
  ⟨(some 17), (some (13, false)), .p (.bin .gtr (.tmp 16) (.const (.int .i64 40)))⟩,
  ⟨(some 18), none, .p (.pick (.tmp 13) (.const (.bool true)) (.tmp 17))⟩,
  ⟨(some 19), none, .p (.mv (.tmp 18))⟩,
  ⟨(some 20), (some (19, false)), .p (.faddr 0 (.tmp 1))⟩,
  ⟨(some 21), (some (19, false)), .l 0 0 (.var (some 5) (.tmp 20))⟩,
  ⟨(some 22), (some (19, false)), .e true (.call sz [(.tmp 21)])⟩,
  ⟨(some 23), (some (19, false)), .p (.bin .gtr (.tmp 22) (.const (.int .i64 600)))⟩,
  ⟨(some 24), none, .p (.pick (.tmp 19) (.const (.bool true)) (.tmp 23))⟩,
  ⟨(some 25), none, .p (.mv (.tmp 24))⟩,
  ⟨(some 26), (some (25, false)), .p (.faddr 7 (.tmp 1))⟩,
  ⟨(some 27), (some (25, false)), .l 0 0 (.var (some 7) (.tmp 26))⟩,
  ⟨(some 28), (some (25, false)), .e true (.call ts [(.tmp 27)])⟩,
  ⟨(some 29), (some (25, false)), .p (.bin .gtr (.tmp 28) (.const (.int .i64 300)))⟩,
  ⟨(some 30), none, .p (.pick (.tmp 25) (.const (.bool true)) (.tmp 29))⟩,
  ⟨(some 2), none, .p (.mv (.tmp 30))⟩]) .ret)),
  [.tmp 2]⟩
variable {E : Env} {N : Nat}
theorem lVar_boxN {H : CH} {id off n : Nat} {c : List Value} (h : H.get id = some (fresh c)) : lVar E H (some n) (.pointer (some ⟨id, off, some 0⟩)) = (takeN n (c.drop off)).map fun c => .agg ⟨c⟩ := by
  have hv : view (fresh c) 0 = some c := rfl
  simp only [lVar, cview, h, hv, Option.map_some]
set_option maxHeartbeats 4000000 in
theorem great_total {gr sz ts : Nat} (hg : E.tab.get gr = some (greatF sz ts)) (hz : E.tab.get sz = some (sizeF sz)) (ht : E.tab.get ts = some (testF ts)) {d : Nat}
    {n0 n1 n2 n3 n4 t0 t1 t2 t3 t4 t5 t6 li : Value} {ba aa oa : Option Addr} {bm bc am ac om oc : Nat} (hN : NodeT E.glob N d [n0, n1, n2, n3, n4]) (hT : TestT E.glob N d [t0, t1, t2, t3, t4, t5, t6]) (H : CH) :
    ∃ b H', (ccall E none1 N (d + 1)).fn gr [.agg ⟨[n0, n1, n2, n3, n4, .slice ba bm bc, .slice aa am ac, t0, t1, t2, t3, t4, t5, t6, .slice oa om oc, li]⟩] H = some (.ret (.bool b), H') := by
  generalize hQ : ([n0, n1, n2, n3, n4, .slice ba bm bc, .slice aa am ac, t0, t1, t2, t3, t4, t5, t6, .slice oa om oc, li] : List Value) = Q
  have hlQ : Q.length = 16 := by rw [← hQ]; rfl
  have hnx : (H.add (fresh Q)).get H.next = some (fresh Q) := by rw [get_add, if_pos rfl]
  have h5 : lVar E (H.add (fresh Q)) none (.pointer (some ⟨H.next, 5, some 0⟩)) = some (.slice ba bm bc) := by rw [lVar_box1 hnx, ← hQ]; rfl
  have h6 : lVar E (H.add (fresh Q)) none (.pointer (some ⟨H.next, 6, some 0⟩)) = some (.slice aa am ac) := by rw [lVar_box1 hnx, ← hQ]; rfl
  have h14 : lVar E (H.add (fresh Q)) none (.pointer (some ⟨H.next, 14, some 0⟩)) = some (.slice oa om oc) := by rw [lVar_box1 hnx, ← hQ]; rfl
  have h0 : lVar E (H.add (fresh Q)) (some 5) (.pointer (some ⟨H.next, 0, some 0⟩)) = some (.agg ⟨[n0, n1, n2, n3, n4]⟩) := by rw [lVar_boxN hnx, ← hQ]; rfl
  obtain ⟨k1, H1, c1, hn1, hk1⟩ := size_total hz d [n0, n1, n2, n3, n4] (H.add (fresh Q)) hN
  have hnx1 : H1.get H.next = some (fresh Q) := by rw [hk1 _ (by show H.next < H.next + 1; omega)]; exact hnx
  have h7 : ∀ H', H'.get H.next = some (fresh Q) → lVar E H' (some 7) (.pointer (some ⟨H.next, 7, some 0⟩)) = some (.agg ⟨[t0, t1, t2, t3, t4, t5, t6]⟩) := by intro H' h; rw [lVar_boxN h, ← hQ]; rfl
  obtain ⟨k2, H2, c2, hn2, hk2⟩ := test_total ht d [t0, t1, t2, t3, t4, t5, t6] H1 hT
  obtain ⟨b1, e1⟩ : ∃ b, cbin .gtr .i64 (bm : Int) 40 = some (.bool b) := ⟨_, rfl⟩
  obtain ⟨b2, e2⟩ : ∃ b, cbin .gtr .i64 (am : Int) 40 = some (.bool b) := ⟨_, rfl⟩
  obtain ⟨b3, e3⟩ : ∃ b, cbin .gtr .i64 (om : Int) 40 = some (.bool b) := ⟨_, rfl⟩
  obtain ⟨b4, e4⟩ : ∃ b, cbin .gtr .i64 k1 600 = some (.bool b) := ⟨_, rfl⟩
  obtain ⟨b5, e5⟩ : ∃ b, cbin .gtr .i64 k2 300 = some (.bool b) := ⟨_, rfl⟩
  have hnone : ((none1 (ccall E none1 N d)).fn gr [.agg ⟨Q⟩] H) = none := rfl
  have e30 : (greatF sz ts).ntmps - [Value.agg ⟨Q⟩].length = 30 := rfl
  have f1 : cops E (ccall E none1 N d) [⟨(some 1), none, .n (.box 16 (.tmp 0))⟩, ⟨(some 2), none, .p (.mv (.const (.bool false)))⟩] ([.agg ⟨Q⟩] ++ List.replicate 30 undef) H = some (.normal, cset (cset ([.agg ⟨Q⟩] ++ List.replicate 30 undef) 1 (ptr0 H.next)) 2 (.bool false), H.add (fresh Q)) := by
    simp [cops, cop, wanted, outP, outN, cnew, nBox, cells, cpure, cev, cput, cget, hlQ]
  have hE : ∃ b ct' H', exec E (ccall E none1 N d) N (greatF sz ts).body ([.agg ⟨Q⟩] ++ List.replicate 30 undef, H) = some (.ret, ct', H') ∧ cget ct' 2 = .bool b := by
    have f2 : ∃ b ct' H', exec E (ccall E none1 N d) N (.seq (.rg false [⟨(some 3), none, .p (.faddr 5 (.tmp 1))⟩,
  ⟨(some 4), none, .l 0 0 (.var none (.tmp 3))⟩,
  ⟨(some 5), none, .p (.lenSl (.tmp 4))⟩,
  ⟨(some 6), none, .p (.bin .gtr (.tmp 5) (.const (.int .i64 40)))⟩,
  ⟨(some 7), none, .p (.mv (.tmp 6))⟩,
  ⟨(some 8), (some (7, false)), .p (.faddr 6 (.tmp 1))⟩,
  ⟨(some 9), (some (7, false)), .l 0 0 (.var none (.tmp 8))⟩,
  ⟨(some 10), (some (7, false)), .p (.lenSl (.tmp 9))⟩,
  ⟨(some 11), (some (7, false)), .p (.bin .gtr (.tmp 10) (.const (.int .i64 40)))⟩,
  ⟨(some 12), none, .p (.pick (.tmp 7) (.const (.bool true)) (.tmp 11))⟩,
  ⟨(some 13), none, .p (.mv (.tmp 12))⟩,
  ⟨(some 14), (some (13, false)), .p (.faddr 14 (.tmp 1))⟩,
  ⟨(some 15), (some (13, false)), .l 0 0 (.var none (.tmp 14))⟩,
  ⟨(some 16), (some (13, false)), .p (.lenSl (.tmp 15))⟩,
  ⟨(some 17), (some (13, false)), .p (.bin .gtr (.tmp 16) (.const (.int .i64 40)))⟩,
  ⟨(some 18), none, .p (.pick (.tmp 13) (.const (.bool true)) (.tmp 17))⟩,
  ⟨(some 19), none, .p (.mv (.tmp 18))⟩,
  ⟨(some 20), (some (19, false)), .p (.faddr 0 (.tmp 1))⟩,
  ⟨(some 21), (some (19, false)), .l 0 0 (.var (some 5) (.tmp 20))⟩,
  ⟨(some 22), (some (19, false)), .e true (.call sz [(.tmp 21)])⟩,
  ⟨(some 23), (some (19, false)), .p (.bin .gtr (.tmp 22) (.const (.int .i64 600)))⟩,
  ⟨(some 24), none, .p (.pick (.tmp 19) (.const (.bool true)) (.tmp 23))⟩,
  ⟨(some 25), none, .p (.mv (.tmp 24))⟩,
  ⟨(some 26), (some (25, false)), .p (.faddr 7 (.tmp 1))⟩,
  ⟨(some 27), (some (25, false)), .l 0 0 (.var (some 7) (.tmp 26))⟩,
  ⟨(some 28), (some (25, false)), .e true (.call ts [(.tmp 27)])⟩,
  ⟨(some 29), (some (25, false)), .p (.bin .gtr (.tmp 28) (.const (.int .i64 300)))⟩,
  ⟨(some 30), none, .p (.pick (.tmp 25) (.const (.bool true)) (.tmp 29))⟩,
  ⟨(some 2), none, .p (.mv (.tmp 30))⟩]) .ret) (cset (cset ([.agg ⟨Q⟩] ++ List.replicate 30 undef) 1 (ptr0 H.next)) 2 (.bool false), H.add (fresh Q)) = some (.ret, ct', H') ∧ cget ct' 2 = .bool b := by
      cases b1 with
      | true => simp [exec, cops, cop, wanted, outP, cpure, cload, ceff, mapOs, cev, cput, pFaddr, pLenSl, pBin, pPick, pPtr, cget_cset, cset_length, ptr0, h5, isShift, keq, e1]
      | false =>
        cases b2 with
        | true => simp [exec, cops, cop, wanted, outP, cpure, cload, ceff, mapOs, cev, cput, pFaddr, pLenSl, pBin, pPick, pPtr, cget_cset, cset_length, ptr0, h5, h6, isShift, keq, e1, e2]
        | false =>
          cases b3 with
          | true => simp [exec, cops, cop, wanted, outP, cpure, cload, ceff, mapOs, cev, cput, pFaddr, pLenSl, pBin, pPick, pPtr, cget_cset, cset_length, ptr0, h5, h6, h14, isShift, keq, e1, e2, e3]
          | false =>
            cases b4 with
            | true => simp [exec, cops, cop, wanted, outP, cpure, cload, ceff, mapOs, cev, cput, pFaddr, pLenSl, pBin, pPick, pPtr, cget_cset, cset_length, ptr0, h5, h6, h14, h0, c1, isShift, keq, e1, e2, e3, e4]
            | false => simp [exec, cops, cop, wanted, outP, cpure, cload, ceff, mapOs, cev, cput, pFaddr, pLenSl, pBin, pPick, pPtr, cget_cset, cset_length, ptr0, h5, h6, h14, h0, c1, h7 H1 hnx1, c2, isShift, keq, e1, e2, e3, e4, e5]
    obtain ⟨b, ct', H', he, hb⟩ := f2
    exact ⟨b, ct', H', (exec_seq (exec_rg f1)).trans he, hb⟩
  obtain ⟨b, ct', H', he, hb⟩ := hE
  refine ⟨b, H', ?_⟩
  simp only [ccall, hnone, hg, e30, he]
  simp [finish, cresults, cresult, greatF, hb]
/-! ### the clean form of any value -/
mutual
def cleanV : Value → Value
  | .bool b => .bool b
  | .agg ⟨l⟩ => .agg ⟨cleanVs l⟩
  | .tuple ⟨l⟩ => .tuple ⟨cleanVs l⟩
  | .slice (some ⟨b, o, none⟩) n c => bif Nat.ble n c then .slice (some ⟨b, o, none⟩) n (mkC n 0 false) else .chan none
  | .slice (some ⟨b, o, some _⟩) 0 0 => .slice (some ⟨b, o, none⟩) 0 (mkC 0 0 false)
  | .slice none 0 0 => .slice none 0 0
  | _ => .chan none
def cleanVs : List Value → List Value
  | [] => []
  | v :: r => cleanV v :: cleanVs r
end
mutual
theorem VR.clean (φ : Ren) : ∀ v : Value, VR φ (cleanV v) v
  | .bool b => .bool b
  | .agg ⟨l⟩ => .agg (VRs.clean φ l)
  | .tuple ⟨l⟩ => .tuple (VRs.clean φ l)
  | .slice (some ⟨b, o, none⟩) n c => by
    unfold cleanV
    cases h : Nat.ble n c with
    | false => exact .opq rfl
    | true => exact .sl (Nat.le_of_ble_eq_true h) (fun h => by rw [clipC_mk] at h; cases h) (.of (.glob b o)) (.mk (.inl rfl))
  | .slice (some ⟨_, _, some _⟩) 0 0 => .sl (Nat.le_refl _) (fun _ => rfl) ⟨.inl rfl, .inl rfl⟩ (.mk (.inl rfl))
  | .slice (some ⟨_, _, some _⟩) 0 (_ + 1) => .opq rfl
  | .slice (some ⟨_, _, some _⟩) (_ + 1) _ => .opq rfl
  | .slice none 0 0 => .snil
  | .slice none 0 (_ + 1) => .opq rfl
  | .slice none (_ + 1) _ => .opq rfl
  | .int _ _ => .opq rfl
  | .float _ _ => .opq rfl
  | .complex _ _ _ => .opq rfl
  | .string _ => .opq rfl
  | .pointer _ => .opq rfl
  | .map _ => .opq rfl
  | .chan _ => .opq rfl
  | .func _ _ _ => .opq rfl
  | .nilFunc => .opq rfl
  | .nilIface => .opq rfl
  | .iface _ _ => .opq rfl
theorem VRs.clean (φ : Ren) : ∀ l : List Value, VRs φ (cleanVs l) l
  | [] => .nil
  | v :: r => .cons (VR.clean φ v) (VRs.clean φ r)
end
theorem cleanVs_map (l : List Value) : cleanVs l = l.map cleanV := by induction l with | nil => rfl | cons x l ih => simp [cleanVs, ih]
/-- The frame's blocks as variables. -/
def frmGlob (frm : Nat → Option (Array Value × TypeId × (Nat × Nat))) (b : Nat) : Option (List Value) := (frm b).map fun x => cleanVs x.1.toList
theorem WR.emptyF {w : World} (hgl : E.glob = frmGlob E.frm) (hF : ∀ b c t fz, E.frm b = some (c, t, fz) → w.heap[b]? = some (.cells c t fz)) : WR E (R0 E.tok) H0 w where
  obj id t b o lo hi h := by cases h
  align id t t' b o lo hi o' lo' hi' h := by cases h
  ownlt b id h := by cases h
  absent id _ := rfl
  len b h := by simp [R0] at h
  frame b c t fz h := ⟨rfl, hF b c t fz h⟩
  toks := rfl
  glob g cs h := by
    rw [hgl] at h
    unfold frmGlob at h
    cases hf : E.frm g with
    | none => rw [hf] at h; cases h
    | some x =>
      obtain ⟨c, t, fz⟩ := x
      rw [hf] at h
      simp only [Option.map_some, Option.some.injEq] at h
      subst h
      have hh := hF g c t fz hf
      refine ⟨rfl, (Array.getElem?_eq_some_iff.1 hh).1, fun j v hj => ?_⟩
      rw [cleanVs_map, List.getElem?_map] at hj
      cases hc : c.toList[j]? with
      | none => rw [hc] at hj; cases hj
      | some u =>
        rw [hc] at hj
        simp only [Option.map_some, Option.some.injEq] at hj
        subst hj
        refine ⟨u, ?_, VR.clean _ u⟩
        unfold World.cell?
        rw [hh]
        simp only [Option.isSome_none, Bool.false_eq_true, if_false]
        rw [← Array.getElem?_toList]; exact hc
variable {P : Program}
/-- A run over the frame's blocks that answers with what is closed answers so in every world that bears the frame. -/
theorem frame_calls {call : CallF} (hcs : CallSound P E call) (hgl : E.glob = frmGlob E.frm) {f : FuncId} {args : List Value} {v : Value} {H1 : CH} (hv : closedV v = true) (hr : call f (cleanVs args) H0 = some (.ret v, H1))
    {w : World} (hF : ∀ b c t fz, E.frm b = some (c, t, fz) → w.heap[b]? = some (.cells c t fz)) : Calls P f ⟨args⟩ w (Kept v w) := by
  obtain ⟨_, hC⟩ := hcs.fn f _ H0 _ H1 hr
  refine (hC (R0 E.tok) w args (WR.emptyF hgl hF) (VRs.clean _ _)).mono fun e w' he => ?_
  cases e with
  | outgrown => exact False.elim he
  | panicked ch => obtain ⟨_, _, _, h, _⟩ := he; cases h
  | returned v' =>
    obtain ⟨u, φ1, h1, hW, hE, hV⟩ := he
    injection h1 with h1
    subst h1
    exact ⟨VR.closed_eq hv hV, (fun b hb => hE.keep b hb (fun id hid => by cases hid)), hE.size, hE.os, hE.tape, hE.output⟩
end Go.Cl

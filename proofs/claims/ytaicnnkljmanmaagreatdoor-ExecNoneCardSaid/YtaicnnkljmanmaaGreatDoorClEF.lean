/-
  isinglass/isinglasslaw29.ExecNone: for every question and whatever else comes in the law returns true, and memory that was there is as it was. THE ROW AND THE CARD. Its conditions are the row's own: the listed package variables read as listed (the card ties them to the program's text).
  The run itself: the clean evaluator, reckoned by Lean's kernel, the question's cells opaque; what Great answers of the question is a contract, both answers are run.
-/
import Derived.Test.YtaicnnkljmanmaaGreatDoorCards
import Derived.Test.YtaicnnkljmanmaaGreatDoorTie
import Derived.WalkKit
import Derived.ProofKit
import Derived.OpenShut
import Derived.Deep.DeepHandedRow
import Derived.Test.YtaicnnkljmanmaaGreatDoorClER
import Derived.Test.YtaicnnkljmanmaaGreatDoorClEFG
import Derived.Test.YtaicnnkljmanmaaGreatDoorClKept
import Derived.Test.YtaicnnkljmanmaaGreatDoorClArgs
import Derived.Test.YtaicnnkljmanmaaGreatDoorClGreat4
namespace Go.Proofs.YtaicnnkljmanmaaGreatDoor.execNone
open Go.ChangeShapes Go.WideShapes Go.ChangeAt Go.RowKit

theorem own : ownKnob Tryz.prog.godebug = none := by kernel_rfl
theorem laidOut : laidOutB Tryz.prog = true := by kernel_rfl
theorem rowed : mapsRowed Tryz.prog = true := by kernel_rfl
theorem full : ∀ t e, t < Tryz.prog.types.size → Tryz.prog.underlying t = some (.slice e) → 0 < Tryz.prog.cellsOf e := slices_full_of Tryz.prog (by kernel_rfl)
theorem cQ : Tryz.prog.cellsOf 35 = 16 := by kernel_rfl
theorem cN : Tryz.prog.cellsOf 25 = 5 := by kernel_rfl
theorem cT : Tryz.prog.cellsOf 32 = 7 := by kernel_rfl
theorem c26 : Tryz.prog.cellsOf 26 = 1 := by kernel_rfl
theorem c27 : Tryz.prog.cellsOf 27 = 1 := by kernel_rfl
theorem c33 : Tryz.prog.cellsOf 33 = 1 := by kernel_rfl
theorem c22 : Tryz.prog.cellsOf 22 = 1 := by kernel_rfl
theorem c23 : Tryz.prog.cellsOf 23 = 1 := by kernel_rfl
theorem c28 : Tryz.prog.cellsOf 28 = 1 := by kernel_rfl
theorem c9 : Tryz.prog.cellsOf 9 = 1 := by kernel_rfl
theorem c62 : Tryz.prog.cellsOf 62 = 2 := by kernel_rfl
theorem c110 : Tryz.prog.cellsOf 110 = 2 := by kernel_rfl
theorem c30 : Tryz.prog.cellsOf 30 = 3 := by kernel_rfl
theorem cAcc : Tryz.prog.cellsOf 5 = 1 := by kernel_rfl
theorem qTypes : Tryz.prog.cellTypes Tryz.prog.depth 35 = some [5, 22, 9, 5, 23, 26, 27, 5, 28, 3, 5, 5, 2, 9, 33, 3] := by kernel_rfl
theorem qOpq : [5, 22, 9, 5, 23, 26, 27, 5, 28, 3, 5, 5, 2, 9, 33, 3].all (Cl.opqT Tryz.prog) = true := by kernel_rfl
theorem opq1 : Cl.opqT Tryz.prog 36 = true := by kernel_rfl
theorem opq2 : Cl.opqT Tryz.prog 5 = true := by kernel_rfl
section
variable {H : Type} {enc : TypeId × Value → H} {w : World}
/-- Great's answer, the same in every world that bears the blocks of this one. -/
theorem great_of {fuel : Nat} {cs : List Value} {x : DataW H × List MemPlace} (h : DataW.trod enc Tryz.prog w 0 (fun _ => true) true fuel 35 cs = some x) :
    cs.length = 16 ∧ ∃ b, ∀ w' : World, (∀ b' c t fz, Cl.wFrm w b' = some (c, t, fz) → w'.heap[b']? = some (.cells c t fz)) → Calls Tryz.prog 4 ⟨[.agg ⟨cs⟩]⟩ w' (Cl.Kept (.bool b) w') := by
  obtain ⟨d, n0, n1, n2, n3, n4, t0, t1, t2, t3, t4, t5, t6, li, ba, aa, oa, bm, bc, am, ac, om, oc, hl, hc, hN, hT⟩ := Cl.query_of (enc := enc) (P := Tryz.prog) (w := w) (held := true) (tQ := 35) (tN := 25) (tT := 32) (e1 := 9) (e2 := 62) (e5 := 110) Tryz.underlying35 cQ
    ⟨rfl, rfl, rfl, cN⟩ ⟨rfl, rfl, c26, Tryz.underlying26, by rw [c9]; decide⟩ ⟨rfl, rfl, c27, Tryz.underlying27, by rw [c62]; decide⟩ ⟨rfl, rfl, rfl, cT⟩ ⟨rfl, rfl, c33, Tryz.underlying33, by rw [c110]; decide⟩
    (Cl.node_of (tN := 25) (e4 := 30) Tryz.underlying25 cN rfl rfl c22 Tryz.underlying22 rfl rfl c23 Tryz.underlying23 (by rw [c30]; decide))
    (Cl.test_of (tN := 32) Tryz.underlying32 cT rfl rfl c28 Tryz.underlying28) h
  exact ⟨hl, Cl.great_contract (P := Tryz.prog) Cl.E.eg Cl.E.hmix Cl.E.tabOk0 (gr := 4) (sz := 8) (ts := 9) (by kernel_rfl) (by kernel_rfl) (by kernel_rfl) (fun _ => .int .i64 0) hc hN hT⟩
end
theorem list16 {cs : List Value} (h16 : cs.length = 16) : ∃ a0 a1 a2 a3 a4 a5 a6 a7 a8 a9 b0 b1 b2 b3 b4 b5, cs = [a0, a1, a2, a3, a4, a5, a6, a7, a8, a9, b0, b1, b2, b3, b4, b5] := by
  match cs, h16 with
  | [a0, a1, a2, a3, a4, a5, a6, a7, a8, a9, b0, b1, b2, b3, b4, b5], _ => exact ⟨a0, a1, a2, a3, a4, a5, a6, a7, a8, a9, b0, b1, b2, b3, b4, b5, rfl⟩
def tokOf (cs : List Value) (k : Nat) : Value := Cl.cget cs k
theorem rel16 {a0 a1 a2 a3 a4 a5 a6 a7 a8 a9 b0 b1 b2 b3 b4 b5 : Value} {xs ys : List Value} (hop : ∀ v ∈ [a0, a1, a2, a3, a4, a5, a6, a7, a8, a9, b0, b1, b2, b3, b4, b5], Cl.opqV v = true) (hr : Cl.VRs (Cl.R0 (tokOf [a0, a1, a2, a3, a4, a5, a6, a7, a8, a9, b0, b1, b2, b3, b4, b5])) xs ys) :
    Cl.VRs (Cl.R0 (tokOf [a0, a1, a2, a3, a4, a5, a6, a7, a8, a9, b0, b1, b2, b3, b4, b5])) (Cl.E.Q :: xs) (.agg ⟨[a0, a1, a2, a3, a4, a5, a6, a7, a8, a9, b0, b1, b2, b3, b4, b5]⟩ :: ys) :=
    .cons (.agg (.cons (.tok rfl (hop _ (by simp))) <| .cons (.tok rfl (hop _ (by simp))) <| .cons (.tok rfl (hop _ (by simp))) <| .cons (.tok rfl (hop _ (by simp))) <| .cons (.tok rfl (hop _ (by simp))) <| .cons (.tok rfl (hop _ (by simp))) <| .cons (.tok rfl (hop _ (by simp))) <| .cons (.tok rfl (hop _ (by simp))) <| .cons (.tok rfl (hop _ (by simp))) <| .cons (.tok rfl (hop _ (by simp))) <| .cons (.tok rfl (hop _ (by simp))) <| .cons (.tok rfl (hop _ (by simp))) <| .cons (.tok rfl (hop _ (by simp))) <| .cons (.tok rfl (hop _ (by simp))) <| .cons (.tok rfl (hop _ (by simp))) <| .cons (.tok rfl (hop _ (by simp))) .nil)) hr
set_option maxRecDepth 100000 in
theorem contract (H : Type) (enc : TypeId × Value → H) (W : World) (base : Nat) (args : Array Value) (ds gs : List (DataW H)) (before : List MemPlace)
    (hval : ∀ (j : Nat) t v, Tryz.f3.params[j]? = some t → args[j]? = some v → Value.okWide Tryz.prog W .any base t v)
    (hW : DataW.Whole enc Tryz.prog Tryz.f3.params.toList Rows.execNoneSpec.vars false W args.toList ds gs before) :
    Calls Tryz.prog 3 args W fun e W' => ∃ v, e = .returned v ∧ Rows.execNoneSpec.post enc Tryz.prog Tryz.f3 false true false false W args v W' := by
  have hW' := hW
  obtain ⟨p, q, hA0, hV, rfl, hfz, hnd⟩ := hW
  have hA : DataW.TrodAll enc Tryz.prog W 0 (fun _ => true) true Tryz.f3.params.toList args.toList ds p := hA0
  have hAll := hA
  rw [Tryz.params3] at hA hval hAll
  obtain ⟨v0, vs0, d0, ds0, p0, q0, hargs, rfl, rfl, h0, r0⟩ := trodAll_cons hA
  obtain ⟨v1, vs1, d1, ds1, p1, q1, hv1, rfl, rfl, h1, r1⟩ := trodAll_cons r0
  obtain ⟨v2, vs2, d2, ds2, p2, q2, hv2, rfl, rfl, h2, r2⟩ := trodAll_cons r1
  obtain ⟨rfl, rfl, rfl⟩ := trodAll_nil r2
  obtain rfl : args = #[v0, v1, v2] := by cases args; simp_all
  obtain ⟨rfl, rfl⟩ := trodVars_none hV
  have hq := hval 0 35 v0 rfl rfl
  simp only [Value.okWide, Tryz.underlying35] at hq
  obtain ⟨⟨cs⟩, rfl, hsz, hrow⟩ := hq
  obtain ⟨fuel, h0⟩ := h0
  obtain ⟨h16, b, hC⟩ := great_of (enc := enc) (cs := cs) h0
  have hop := Cl.row_opq qTypes qOpq hrow
  have hx1 : Cl.opqV v1 = true := Cl.okWide_opq opq1 (by have h := hval 1 36 v1 rfl rfl; simp only [Value.okWide, Tryz.underlying36] at h; exact h)
  have hx2 : Cl.opqV v2 = true := Cl.okWide_opq opq2 (by have h := hval 2 5 v2 rfl rfl; simp only [Value.okWide, Tryz.underlying5] at h; exact h)
  obtain ⟨fuel1, h1⟩ := h1
  rw [Cl.oneV_cells (Cl.opqV_one hx1)] at h1
  have hacc : Cl.cleanV v1 = .slice none 0 0 ∨ ∃ b o m, Cl.cleanV v1 = .slice (some ⟨b, o, none⟩) m (Cl.mkC m 0 false) := by
    rcases Cl.slice_clean Tryz.underlying36 (by rw [cAcc]; decide) h1 with h | ⟨b, o, m, fu, _, h, _⟩
    · exact .inl h
    · exact .inr ⟨b, o, m, h⟩
  obtain ⟨a0, a1, a2, a3, a4, a5, a6, a7, a8, a9, b0, b1, b2, b3, b4, b5, rfl⟩ := list16 h16
  have hr : Cl.VRs (Cl.R0 (tokOf [a0, a1, a2, a3, a4, a5, a6, a7, a8, a9, b0, b1, b2, b3, b4, b5])) [Cl.E.Q, Cl.cleanV v1, .chan none] [.agg ⟨[a0, a1, a2, a3, a4, a5, a6, a7, a8, a9, b0, b1, b2, b3, b4, b5]⟩, v1, v2] := rel16 hop (.cons (Cl.VR.clean _ v1) <| .cons (.opq hx2) <| .nil)
  refine (Cl.E.calls0 (b := b) (tok := tokOf [a0, a1, a2, a3, a4, a5, a6, a7, a8, a9, b0, b1, b2, b3, b4, b5]) (frm := Cl.wFrm W) (fun w' hw' => hC w' hw') (w := W) (fun b c t fz h => Cl.wFrm_some h) hacc hr).mono fun e W' he => ?_
  cases e with
  | returned v =>
    obtain ⟨rfl, hk, hs, hos, htp, hout⟩ := he
    exact ⟨_, rfl, Cl.post_of_kept (pa := _) (pv := []) hW' (fun _ _ _ => trodAll_cons_mk (shut_bool Tryz.underlying4 _) trodAll_mk0)
      (fun sp hsp => by rw [Tryz.params3]; exact Cl.args_kept laidOut rowed full (by decide +kernel) hAll hk (fun p hp => hsp p (List.mem_append_left _ hp))) (fun _ _ => rfl) rfl
      hos hout hk (ok_one (by kernel_rfl) rfl (okWide_bool_mk Tryz.underlying4 _))⟩
  | panicked c => exact False.elim he
  | outgrown => exact False.elim he

/-- A world for the witness: the settled one, the tables holding what their initialisers lay. -/
def lay (l : Array Value) : Obj → Obj
  | .cells _ t frozen => .cells l t frozen
  | o => o
noncomputable def laidWorld (os : Os) : World :=
  { World.holding Tryz.prog os ⟨#[], #[], []⟩ with heap := ((((World.holding Tryz.prog os ⟨#[], #[], []⟩).heap.modify 2 (lay #[.int .u8 0, .int .u8 1, .int .u8 28, .int .u8 2, .int .u8 29, .int .u8 14, .int .u8 24, .int .u8 3, .int .u8 30, .int .u8 22, .int .u8 20, .int .u8 15, .int .u8 25, .int .u8 17, .int .u8 4, .int .u8 8, .int .u8 31, .int .u8 27, .int .u8 13, .int .u8 23, .int .u8 21, .int .u8 19, .int .u8 16, .int .u8 7, .int .u8 26, .int .u8 12, .int .u8 18, .int .u8 6, .int .u8 11, .int .u8 5, .int .u8 10, .int .u8 9])).modify 0 (lay #[.int .u8 0, .int .u8 1, .int .u8 56, .int .u8 2, .int .u8 57, .int .u8 49, .int .u8 28, .int .u8 3, .int .u8 61, .int .u8 58, .int .u8 42, .int .u8 50, .int .u8 38, .int .u8 29, .int .u8 17, .int .u8 4, .int .u8 62, .int .u8 47, .int .u8 59, .int .u8 36, .int .u8 45, .int .u8 43, .int .u8 51, .int .u8 22, .int .u8 53, .int .u8 39, .int .u8 33, .int .u8 30, .int .u8 24, .int .u8 18, .int .u8 12, .int .u8 5, .int .u8 63, .int .u8 55, .int .u8 48, .int .u8 27, .int .u8 60, .int .u8 41, .int .u8 37, .int .u8 16, .int .u8 46, .int .u8 35, .int .u8 44, .int .u8 21, .int .u8 52, .int .u8 32, .int .u8 23, .int .u8 11, .int .u8 54, .int .u8 26, .int .u8 40, .int .u8 15, .int .u8 34, .int .u8 20, .int .u8 31, .int .u8 10, .int .u8 25, .int .u8 14, .int .u8 19, .int .u8 9, .int .u8 13, .int .u8 8, .int .u8 7, .int .u8 6])).modify 1 (lay #[.int .u64 1, .int .u64 10, .int .u64 100, .int .u64 1000, .int .u64 10000, .int .u64 100000, .int .u64 1000000, .int .u64 10000000, .int .u64 100000000, .int .u64 1000000000, .int .u64 10000000000, .int .u64 100000000000, .int .u64 1000000000000, .int .u64 10000000000000, .int .u64 100000000000000, .int .u64 1000000000000000, .int .u64 10000000000000000, .int .u64 100000000000000000, .int .u64 1000000000000000000, .int .u64 10000000000000000000])) }
theorem laid_met (os : Os) : laidMet Tryz.prog Rows.execNoneRow.laid ((laidWorld os).forCall (fun _ _ => 0) ⟨#[], #[.agg #[.int .u8 0, .slice none 0 0, .string ByteArray.empty, .int .u8 0, .slice none 0 0, .slice none 0 0, .slice none 0 0, .int .u8 0, .slice none 0 0, .int .i64 0, .int .u8 0, .int .u8 0, .int .i64 0, .string ByteArray.empty, .slice none 0 0, .int .i64 0], .slice none 0 0, .int .u8 0], []⟩).memory :=
  laidMet_of_run' 8 (by kernel_rfl) (by kernel_rfl)
theorem reads (os : Os) {H : Type} (enc : TypeId × Value → H) : ∃ places, DataW.whole enc Tryz.prog ((laidWorld os).forCall (fun _ _ => 0) ⟨#[], #[.agg #[.int .u8 0, .slice none 0 0, .string ByteArray.empty, .int .u8 0, .slice none 0 0, .slice none 0 0, .slice none 0 0, .int .u8 0, .slice none 0 0, .int .i64 0, .int .u8 0, .int .u8 0, .int .i64 0, .string ByteArray.empty, .slice none 0 0, .int .i64 0], .slice none 0 0, .int .u8 0], []⟩).memory Tryz.f3.params.toList Rows.execNoneSpec.vars false (#[.agg #[.int .u8 0, .slice none 0 0, .string ByteArray.empty, .int .u8 0, .slice none 0 0, .slice none 0 0, .slice none 0 0, .int .u8 0, .slice none 0 0, .int .i64 0, .int .u8 0, .int .u8 0, .int .i64 0, .string ByteArray.empty, .slice none 0 0, .int .i64 0], .slice none 0 0, .int .u8 0] : Array Value).toList 8 = some ([.agg [.agg [.lit (.int .u8 0), .nil, .lit (.string []), .lit (.int .u8 0), .nil], .nil, .nil, .agg [.lit (.int .u8 0), .nil, .lit (.int .i64 0), .lit (.int .u8 0), .agg [.lit (.int .u8 0), .lit (.int .i64 0), .lit (.string [])]], .nil, .lit (.int .i64 0)], .nil, .lit (.int .u8 0)], [], places) :=
  ⟨[], by kernel_rfl⟩

set_option maxRecDepth 100000 in
theorem lifted (os : Os) (started : os.Started) (H : Type) (enc : TypeId × Value → H) (F : Stop.Interp) :
    ReturnsInHanded {} Tryz.checked os 3 .any ((OpenSpec.ofChange Rows.execNoneSpec).preRow enc Tryz.prog Tryz.f3 Rows.execNoneRow.domain false Rows.execNoneRow.laid) (((OpenSpec.ofChange Rows.execNoneSpec).at F).post enc Tryz.prog Tryz.f3 false true false false) := by
  obtain ⟨places, hx⟩ := reads os enc
  refine returnsInHanded_of_row (C := Tryz.checked) (s := OpenSpec.ofChange Rows.execNoneSpec) own started (by kernel_rfl) Tryz.func3
    (witness_row_at (enc := enc) (C := Tryz.checked) false (laidWorld os) #[.agg #[.int .u8 0, .slice none 0 0, .string ByteArray.empty, .int .u8 0, .slice none 0 0, .slice none 0 0, .slice none 0 0, .int .u8 0, .slice none 0 0, .int .i64 0, .int .u8 0, .int .u8 0, .int .i64 0, .string ByteArray.empty, .slice none 0 0, .int .i64 0], .slice none 0 0, .int .u8 0] rfl (by kernel_rfl) (by kernel_rfl) (by kernel_rfl)
      (OpenSpec.preRow_of_cond 8 hx (by kernel_rfl) (fun k hk => by cases hk) (by kernel_rfl) (laid_met os))) ?_
  intro W base args ds gs before hval hW _ _ _ _ _ _
  exact contract H enc W base args ds gs before hval hW

theorem said : Rows.ExecNoneSaid :=
  OpenClaim.holds_of_cond 3 Tryz.f3 rfl rfl rfl rfl rfl rfl rfl ⟨rfl, rfl, rfl, rfl, rfl⟩ rfl rfl rfl rfl rfl named Tryz.func3 closed
    inst wrap
    (fun os started H enc _ F => by rw [OpenClaim.pre_eq_preRow]; exact lifted os started H enc F)
theorem plain (f : FuncId) (fn : Func) (hf : Tryz.pinned.checked.prog.funcNamed "isinglass/isinglasslaw29.ExecNone" = some f) (hfn : Tryz.pinned.checked.prog.funcs[f]? = some fn) :
    true = Tryz.pinned.checked.prog.looks [] ∧ ∀ (j : Nat) t, fn.params[j]? = some t → Tryz.pinned.checked.prog.wantsStandIn t = false := by
  obtain rfl : f = 3 := Option.some.inj ((show Tryz.prog.funcNamed "isinglass/isinglasslaw29.ExecNone" = some 3 by kernel_rfl).symm.trans hf) |>.symm
  obtain rfl : fn = Tryz.f3 := (Option.some.inj (Tryz.func3.symm.trans hfn)).symm
  refine ⟨by kernel_rfl, fun j t ht => ?_⟩
  rw [Tryz.params3] at ht
  have hm : t ∈ [35, 36, 5] := by simpa using Array.mem_of_getElem? ht
  have hall : ([35, 36, 5] : List TypeId).all (fun t => !Tryz.prog.wantsStandIn t) = true := by kernel_rfl
  have := List.all_eq_true.1 hall t hm
  exact (by simpa using this : Tryz.prog.wantsStandIn t = false)
/-- THE CARD. -/
theorem card : Rows.ExecNoneCardSaid :=
  Claim7.holds_tied_plain_at .later [] _ _ _ _ said (fun _ h => by cases h) wfBy (fun _ h => by cases h) execNone_row_tie rfl ⟨rfl, rfl⟩ mainIs rfl plain goes
#print axioms card
end Go.Proofs.YtaicnnkljmanmaaGreatDoor.execNone

/-
  isinglass/isinglasslaw22.BuildBounds: for all columns, configurations and numbers the law returns true, and memory that was there is as it was. THE ROW AND THE CARD. Its conditions are the row's own: the listed package variables read as listed (the card ties them to the program's text).
  The program's bound and the document's are both shown to be one number (ClBound); known() is reckoned by Lean's kernel in the clean evaluator.
-/
import Derived.Test.YtcpcklafkddpaaaGreatDoorCards
import Derived.Test.YtcpcklafkddpaaaGreatDoorTie
import Derived.WalkKit
import Derived.ProofKit
import Derived.OpenShut
import Derived.Deep.DeepHandedRow
import Derived.Test.YtcpcklafkddpaaaGreatDoorClBR
import Derived.Test.YtcpcklafkddpaaaGreatDoorClBFG
import Derived.Test.YtcpcklafkddpaaaGreatDoorClKept
import Derived.Test.YtcpcklafkddpaaaGreatDoorClArgs
namespace Go.Proofs.YtcpcklafkddpaaaGreatDoor.buildBounds
open Go.ChangeShapes Go.WideShapes Go.ChangeAt Go.RowKit

theorem own : ownKnob Tryz.prog.godebug = none := by kernel_rfl
theorem laidOut : laidOutB Tryz.prog = true := by kernel_rfl
theorem rowed : mapsRowed Tryz.prog = true := by kernel_rfl
theorem full : ∀ t e, t < Tryz.prog.types.size → Tryz.prog.underlying t = some (.slice e) → 0 < Tryz.prog.cellsOf e := slices_full_of Tryz.prog (by kernel_rfl)
theorem c32 : Tryz.prog.cellsOf 32 = 2 := by kernel_rfl
theorem c26 : Tryz.prog.cellsOf 26 = 5 := by kernel_rfl
theorem c4 : Tryz.prog.cellsOf 4 = 1 := by kernel_rfl
theorem c3 : Tryz.prog.cellsOf 3 = 1 := by kernel_rfl
theorem c9 : Tryz.prog.cellsOf 9 = 1 := by kernel_rfl
theorem c5 : Tryz.prog.cellsOf 5 = 1 := by kernel_rfl
theorem c23 : Tryz.prog.cellsOf 23 = 1 := by kernel_rfl
theorem c24 : Tryz.prog.cellsOf 24 = 1 := by kernel_rfl
theorem opq0 : Cl.opqT Tryz.prog 22 = true := by kernel_rfl
theorem opq3 : Cl.opqT Tryz.prog 24 = true := by kernel_rfl
theorem cells_flat : ∀ l : List Cl.ColS, (l.flatMap fun a => [Value.string (Cl.mkstr a.1.1), Value.int .u8 (a.1.2 : Nat)]) = Cl.colCells (l.map (·.1))
  | [] => rfl
  | a :: r => by simp only [List.flatMap_cons, List.map_cons, Cl.colCells, cells_flat r]; rfl
section
variable {tok : Nat → Value} {frm : Nat → Option (Array Value × TypeId × (Nat × Nat))}
theorem hfGreat : Cl.HasF (Cl.B.E tok frm) Cl.B.I0 4 (Cl.rGreatF) := ⟨by kernel_rfl, fun _ _ _ => rfl⟩
theorem hfBound : Cl.HasF (Cl.B.E tok frm) Cl.B.I0 6 (Cl.boundF 10 11 12) := ⟨by kernel_rfl, fun _ _ _ => rfl⟩
theorem hfRBound : Cl.HasF (Cl.B.E tok frm) Cl.B.I0 7 (Cl.rBoundF 13 14) := ⟨by kernel_rfl, fun _ _ _ => rfl⟩
theorem hfFits : Cl.HasF (Cl.B.E tok frm) Cl.B.I0 10 (Cl.fitsF 28 11 29 30) := ⟨by kernel_rfl, fun _ _ _ => rfl⟩
theorem hfMay : Cl.HasF (Cl.B.E tok frm) Cl.B.I0 28 (Cl.mayF 65 66) := ⟨by kernel_rfl, fun _ _ _ => rfl⟩
theorem hfName : Cl.HasF (Cl.B.E tok frm) Cl.B.I0 65 (Cl.isNameF) := ⟨by kernel_rfl, fun _ _ _ => rfl⟩
theorem hfFind : Cl.HasF (Cl.B.E tok frm) Cl.B.I0 66 (Cl.findF 115 116) := ⟨by kernel_rfl, fun _ _ _ => rfl⟩
theorem hfIx : Cl.HasF (Cl.B.E tok frm) Cl.B.I0 115 (Cl.ixColF) := ⟨by kernel_rfl, fun _ _ _ => rfl⟩
theorem hfLit : Cl.HasF (Cl.B.E tok frm) Cl.B.I0 116 (Cl.findLF) := ⟨by kernel_rfl, fun _ _ _ => rfl⟩
theorem hfDim : Cl.HasF (Cl.B.E tok frm) Cl.B.I0 11 (Cl.dimF) := ⟨by kernel_rfl, fun _ _ _ => rfl⟩
theorem hfFlag : Cl.HasF (Cl.B.E tok frm) Cl.B.I0 29 (Cl.flaggedF 11) := ⟨by kernel_rfl, fun _ _ _ => rfl⟩
theorem hfHasI : Cl.HasF (Cl.B.E tok frm) Cl.B.I0 30 (Cl.hasIntF 67) := ⟨by kernel_rfl, fun _ _ _ => rfl⟩
theorem hfIxI : Cl.HasF (Cl.B.E tok frm) Cl.B.I0 67 (Cl.ixIntF) := ⟨by kernel_rfl, fun _ _ _ => rfl⟩
theorem hfHas : Cl.HasF (Cl.B.E tok frm) Cl.B.I0 12 (Cl.hasF) := ⟨by kernel_rfl, fun _ _ _ => rfl⟩
theorem hfRFits : Cl.HasF (Cl.B.E tok frm) Cl.B.I0 13 (Cl.rFitsF 31 32 14) := ⟨by kernel_rfl, fun _ _ _ => rfl⟩
theorem hfRMay : Cl.HasF (Cl.B.E tok frm) Cl.B.I0 31 (Cl.rMayF 68) := ⟨by kernel_rfl, fun _ _ _ => rfl⟩
theorem hfRName : Cl.HasF (Cl.B.E tok frm) Cl.B.I0 68 (Cl.rNameF) := ⟨by kernel_rfl, fun _ _ _ => rfl⟩
theorem hfRDim : Cl.HasF (Cl.B.E tok frm) Cl.B.I0 32 (Cl.dimF) := ⟨by kernel_rfl, fun _ _ _ => rfl⟩
theorem hfRHas : Cl.HasF (Cl.B.E tok frm) Cl.B.I0 14 (Cl.hasF) := ⟨by kernel_rfl, fun _ _ _ => rfl⟩
theorem hf3 : Cl.HasF (Cl.B.E tok frm) Cl.B.I0 3 (Cl.law22F 4 5 6 7) := ⟨by kernel_rfl, fun _ _ _ => rfl⟩
end
theorem maxLen_le : maxLen ≤ Cl.maxI := by unfold maxLen Cl.maxI; omega
set_option maxRecDepth 100000 in
theorem contract (H : Type) (enc : TypeId × Value → H) (W : World) (base : Nat) (args : Array Value) (ds gs : List (DataW H)) (before : List MemPlace)
    (hval : ∀ (j : Nat) t v, Tryz.f3.params[j]? = some t → args[j]? = some v → Value.okWide Tryz.prog W .any base t v)
    (hW : DataW.Whole enc Tryz.prog Tryz.f3.params.toList Rows.buildBoundsSpec.vars false W args.toList ds gs before) :
    Calls Tryz.prog 3 args W fun e W' => ∃ v, e = .returned v ∧ Rows.buildBoundsSpec.post enc Tryz.prog Tryz.f3 false true false false W args v W' := by
  have hW' := hW
  obtain ⟨p, q, hA0, hV, rfl, hfz, hnd⟩ := hW
  have hA : DataW.TrodAll enc Tryz.prog W 0 (fun _ => true) true Tryz.f3.params.toList args.toList ds p := hA0
  have hAll := hA
  rw [Tryz.params3] at hA hval hAll
  obtain ⟨v0, vs0, d0, ds0, p0, q0, hargs, rfl, rfl, h0, r0⟩ := trodAll_cons hA
  obtain ⟨v1, vs1, d1, ds1, p1, q1, hv1, rfl, rfl, h1, r1⟩ := trodAll_cons r0
  obtain ⟨v2, vs2, d2, ds2, p2, q2, hv2, rfl, rfl, h2, r2⟩ := trodAll_cons r1
  obtain ⟨v3, vs3, d3, ds3, p3, q3, hv3, rfl, rfl, h3, r3⟩ := trodAll_cons r2
  obtain ⟨v4, vs4, d4, ds4, p4, q4, hv4, rfl, rfl, h4, r4⟩ := trodAll_cons r3
  obtain ⟨rfl, rfl, rfl⟩ := trodAll_nil r4
  obtain rfl : args = #[v0, v1, v2, v3, v4] := by cases args; simp_all
  obtain ⟨rfl, rfl⟩ := trodVars_none hV
  have hx0 : Cl.opqV v0 = true := Cl.okWide_opq opq0 (by have h := hval 0 22 v0 rfl rfl; simp only [Value.okWide, Tryz.underlying22] at h; exact h)
  have hx3 : Cl.opqV v3 = true := Cl.okWide_opq opq3 (by have h := hval 3 24 v3 rfl rfl; simp only [Value.okWide, Tryz.underlying24] at h; exact h)
  obtain ⟨rows, rfl, _, _, _⟩ := open_int Tryz.underlying3 (hval 2 3 v2 rfl rfl) h2
  obtain ⟨texts, rfl, _, _, _⟩ := open_int Tryz.underlying3 (hval 4 3 v4 rfl rfl) h4
  have hq := hval 1 26 v1 rfl rfl
  simp only [Value.okWide, Tryz.underlying26] at hq
  obtain ⟨⟨cs⟩, rfl, hsz, hrow⟩ := hq
  obtain ⟨fuel0, h0⟩ := h0
  obtain ⟨fuel1, h1⟩ := h1
  obtain ⟨fuel3, h3⟩ := h3
  rw [Cl.oneV_cells (Cl.opqV_one hx0)] at h0
  rw [Cl.oneV_cells (Cl.opqV_one hx3)] at h3
  let Ee : Cl.Env := Cl.B.E (fun _ => .int .i64 0) (Cl.wFrm W)
  obtain ⟨cols, hcl, hcols⟩ := Cl.slice_rows (E := Ee) (z := 2) (fun a : Cl.ColS => [Value.string (Cl.mkstr a.1.1), Value.int .u8 (a.1.2 : Nat)]) (fun _ => rfl) Tryz.underlying22 c32 (by decide) (Cl.col_row Tryz.underlying32 c32 rfl rfl c9 Tryz.underlying9 rfl rfl c5 Tryz.underlying5) h0 rfl
  obtain ⟨many, hml, hmany⟩ := Cl.slice_rows (E := Ee) (z := 1) (fun n : Int => [Value.int .i64 n]) (fun _ => rfl) Tryz.underlying24 c3 (by decide) (Cl.int_row Tryz.underlying3) h3 rfl
  obtain ⟨c, iv, rv, sv, hc, hcc, hl1, hl2, hl3⟩ := Cl.conf_of (E := Ee) Tryz.underlying26 c26 Tryz.underlying4 c4 Tryz.underlying3 c3 ⟨rfl, rfl, c3, Tryz.underlying3⟩ ⟨rfl, rfl, c23, Tryz.underlying23⟩ ⟨rfl, rfl, c23, Tryz.underlying23⟩ ⟨rfl, rfl, c24, Tryz.underlying24⟩ ⟨rfl, rfl, c3, Tryz.underlying3⟩ (show DataW.trod enc Tryz.prog W 0 (fun _ => true) true fuel1 26 cs = some (d1, p1) from h1) rfl
  rw [cells_flat] at hcols
  have hfi : ∀ l : List Int, (l.flatMap fun b => [Value.int .i64 b]) = l.map (.int .i64) := fun l => by induction l with | nil => rfl | cons a r ih => simp [List.flatMap_cons, ih]
  rw [hfi] at hmany
  have hlen : (cols.map (·.1)).length = cols.length := List.length_map ..
  rw [← hlen] at hcols
  have hle := maxLen_le
  have hrun := Cl.law22_ok (E := Ee) (I := Cl.B.I0) (N := maxLen + 1) (d := 1) (rows := rows) (texts := texts) (h := Cl.H0) hf3 hfGreat Cl.B.knows hfBound hfRBound hfFits hfMay hfName hfFind hfIx hfLit hfDim hfFlag hfHasI hfIxI hfHas hfRFits hfRMay hfRName hfRDim hfRHas
    hcols hcc hmany (by omega) (by omega) (fun x hx => by obtain ⟨y, _, rfl⟩ := List.mem_map.1 hx; have := y.2; omega) (fun x hx => by obtain ⟨y, _, rfl⟩ := List.mem_map.1 hx; have := y.2; omega) (by omega) (by omega) (by omega) (by omega) (by omega) (by omega) (by omega) (by omega)
  obtain ⟨r, H1, hcall, rfl⟩ := hrun
  have hr : Cl.VRs (Cl.R0 Ee.tok) [Cl.cleanV v0, .agg ⟨[.int .i64 c.sort, iv, rv, sv, .int .i64 c.leaf]⟩, .int .i64 rows, Cl.cleanV v3, .int .i64 texts] [v0, .agg ⟨cs⟩, .int .i64 rows, v3, .int .i64 texts] := by
    rw [← hc]
    exact .cons (Cl.VR.clean _ v0) (.cons (.agg (Cl.VRs.clean _ cs)) (.cons (.int _ _) (.cons (Cl.VR.clean _ v3) (.cons (.int _ _) .nil))))
  refine (Cl.true_kept (E := Ee) (Cl.B.callOk (maxLen + 1) 8) (f := 3) (by unfold Cl.isTrue; rw [hcall]) (Cl.WR.emptyF (E := Ee) rfl fun b c t fz h => Cl.wFrm_some h) hr).mono fun e W' he => ?_
  cases e with
  | returned v =>
    obtain ⟨rfl, hk, hs, hos, htp, hout⟩ := he
    exact ⟨_, rfl, Cl.post_of_kept (pa := _) (pv := []) hW' (fun _ _ _ => trodAll_cons_mk (shut_bool Tryz.underlying4 _) trodAll_mk0)
      (fun sp hsp => by rw [Tryz.params3]; exact Cl.args_kept laidOut rowed full (by decide +kernel) hAll hk (fun p hp => hsp p (List.mem_append_left _ hp))) (fun _ _ => rfl) rfl
      hos hout hk (ok_one (by kernel_rfl) rfl (okWide_bool_mk Tryz.underlying4 _))⟩
  | panicked c => exact False.elim he
  | outgrown => exact False.elim he

/-- A world for the witness: the settled one, the tables holding what their initialisers lay. -/
def lay (l : Array Value) : Obj → Obj
  | .cells _ t frozen => .cells l t frozen
  | o => o
noncomputable def laidWorld (os : Os) : World :=
  { World.holding Tryz.prog os ⟨#[], #[], []⟩ with heap := ((((World.holding Tryz.prog os ⟨#[], #[], []⟩).heap.modify 1 (lay #[.int .u8 0, .int .u8 1, .int .u8 28, .int .u8 2, .int .u8 29, .int .u8 14, .int .u8 24, .int .u8 3, .int .u8 30, .int .u8 22, .int .u8 20, .int .u8 15, .int .u8 25, .int .u8 17, .int .u8 4, .int .u8 8, .int .u8 31, .int .u8 27, .int .u8 13, .int .u8 23, .int .u8 21, .int .u8 19, .int .u8 16, .int .u8 7, .int .u8 26, .int .u8 12, .int .u8 18, .int .u8 6, .int .u8 11, .int .u8 5, .int .u8 10, .int .u8 9])).modify 2 (lay #[.int .u8 0, .int .u8 1, .int .u8 56, .int .u8 2, .int .u8 57, .int .u8 49, .int .u8 28, .int .u8 3, .int .u8 61, .int .u8 58, .int .u8 42, .int .u8 50, .int .u8 38, .int .u8 29, .int .u8 17, .int .u8 4, .int .u8 62, .int .u8 47, .int .u8 59, .int .u8 36, .int .u8 45, .int .u8 43, .int .u8 51, .int .u8 22, .int .u8 53, .int .u8 39, .int .u8 33, .int .u8 30, .int .u8 24, .int .u8 18, .int .u8 12, .int .u8 5, .int .u8 63, .int .u8 55, .int .u8 48, .int .u8 27, .int .u8 60, .int .u8 41, .int .u8 37, .int .u8 16, .int .u8 46, .int .u8 35, .int .u8 44, .int .u8 21, .int .u8 52, .int .u8 32, .int .u8 23, .int .u8 11, .int .u8 54, .int .u8 26, .int .u8 40, .int .u8 15, .int .u8 34, .int .u8 20, .int .u8 31, .int .u8 10, .int .u8 25, .int .u8 14, .int .u8 19, .int .u8 9, .int .u8 13, .int .u8 8, .int .u8 7, .int .u8 6])).modify 0 (lay #[.int .u64 1, .int .u64 10, .int .u64 100, .int .u64 1000, .int .u64 10000, .int .u64 100000, .int .u64 1000000, .int .u64 10000000, .int .u64 100000000, .int .u64 1000000000, .int .u64 10000000000, .int .u64 100000000000, .int .u64 1000000000000, .int .u64 10000000000000, .int .u64 100000000000000, .int .u64 1000000000000000, .int .u64 10000000000000000, .int .u64 100000000000000000, .int .u64 1000000000000000000, .int .u64 10000000000000000000])) }
theorem laid_met (os : Os) : laidMet Tryz.prog Rows.buildBoundsRow.laid ((laidWorld os).forCall (fun _ _ => 0) ⟨#[], #[.slice none 0 0, .agg #[.int .i64 0, .slice none 0 0, .slice none 0 0, .slice none 0 0, .int .i64 0], .int .i64 0, .slice none 0 0, .int .i64 0], []⟩).memory :=
  laidMet_of_run' 8 (by kernel_rfl) (by kernel_rfl)
theorem reads (os : Os) {H : Type} (enc : TypeId × Value → H) : ∃ places, DataW.whole enc Tryz.prog ((laidWorld os).forCall (fun _ _ => 0) ⟨#[], #[.slice none 0 0, .agg #[.int .i64 0, .slice none 0 0, .slice none 0 0, .slice none 0 0, .int .i64 0], .int .i64 0, .slice none 0 0, .int .i64 0], []⟩).memory Tryz.f3.params.toList Rows.buildBoundsSpec.vars false (#[.slice none 0 0, .agg #[.int .i64 0, .slice none 0 0, .slice none 0 0, .slice none 0 0, .int .i64 0], .int .i64 0, .slice none 0 0, .int .i64 0] : Array Value).toList 8 = some ([.nil, .agg [.lit (.int .i64 0), .nil, .nil, .nil, .lit (.int .i64 0)], .lit (.int .i64 0), .nil, .lit (.int .i64 0)], [], places) :=
  ⟨[], by kernel_rfl⟩

set_option maxRecDepth 100000 in
theorem lifted (os : Os) (started : os.Started) (H : Type) (enc : TypeId × Value → H) (F : Stop.Interp) :
    ReturnsInHanded {} Tryz.checked os 3 .any ((OpenSpec.ofChange Rows.buildBoundsSpec).preRow enc Tryz.prog Tryz.f3 Rows.buildBoundsRow.domain false Rows.buildBoundsRow.laid) (((OpenSpec.ofChange Rows.buildBoundsSpec).at F).post enc Tryz.prog Tryz.f3 false true false false) := by
  obtain ⟨places, hx⟩ := reads os enc
  refine returnsInHanded_of_row (C := Tryz.checked) (s := OpenSpec.ofChange Rows.buildBoundsSpec) own started (by kernel_rfl) Tryz.func3
    (witness_row_at (enc := enc) (C := Tryz.checked) false (laidWorld os) #[.slice none 0 0, .agg #[.int .i64 0, .slice none 0 0, .slice none 0 0, .slice none 0 0, .int .i64 0], .int .i64 0, .slice none 0 0, .int .i64 0] rfl (by kernel_rfl) (by kernel_rfl) (by kernel_rfl)
      (OpenSpec.preRow_of_cond 8 hx (by kernel_rfl) (fun k hk => by cases hk) (by kernel_rfl) (laid_met os))) ?_
  intro W base args ds gs before hval hW _ _ _ _ _ _
  exact contract H enc W base args ds gs before hval hW

theorem said : Rows.BuildBoundsSaid :=
  OpenClaim.holds_of_cond 3 Tryz.f3 rfl rfl rfl rfl rfl rfl rfl ⟨rfl, rfl, rfl, rfl, rfl⟩ rfl rfl rfl rfl rfl named Tryz.func3 closed
    inst wrap
    (fun os started H enc _ F => by rw [OpenClaim.pre_eq_preRow]; exact lifted os started H enc F)
theorem plain (f : FuncId) (fn : Func) (hf : Tryz.pinned.checked.prog.funcNamed "isinglass/isinglasslaw22.BuildBounds" = some f) (hfn : Tryz.pinned.checked.prog.funcs[f]? = some fn) :
    false = Tryz.pinned.checked.prog.looks [] ∧ ∀ (j : Nat) t, fn.params[j]? = some t → Tryz.pinned.checked.prog.wantsStandIn t = false := by
  obtain rfl : f = 3 := Option.some.inj ((show Tryz.prog.funcNamed "isinglass/isinglasslaw22.BuildBounds" = some 3 by kernel_rfl).symm.trans hf) |>.symm
  obtain rfl : fn = Tryz.f3 := (Option.some.inj (Tryz.func3.symm.trans hfn)).symm
  refine ⟨by kernel_rfl, fun j t ht => ?_⟩
  rw [Tryz.params3] at ht
  have hm : t ∈ [22, 26, 3, 24, 3] := by simpa using Array.mem_of_getElem? ht
  have hall : ([22, 26, 3, 24, 3] : List TypeId).all (fun t => !Tryz.prog.wantsStandIn t) = true := by kernel_rfl
  have := List.all_eq_true.1 hall t hm
  exact (by simpa using this : Tryz.prog.wantsStandIn t = false)
/-- THE CARD. -/
theorem card : Rows.BuildBoundsCardSaid :=
  Claim7.holds_tied_plain_at .later [] _ _ _ _ said (fun _ h => by cases h) wfBy (fun _ h => by cases h) buildBounds_row_tie rfl ⟨rfl, rfl⟩ mainIs rfl plain goes
#print axioms card
end Go.Proofs.YtcpcklafkddpaaaGreatDoor.buildBounds

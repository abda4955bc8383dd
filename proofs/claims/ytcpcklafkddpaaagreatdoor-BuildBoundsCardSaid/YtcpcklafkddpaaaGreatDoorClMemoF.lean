/- What has been reckoned once, on an empty heap, where the frame's blocks may be read. -/
import Derived.Test.YtcpcklafkddpaaaGreatDoorClGreat4
namespace Go.Cl
open Go
variable {P : Program} {E : Env}
theorem memo_soundF {call : CallF} (hcs : CallSound P E call) (hgl : E.glob = frmGlob E.frm) {f : FuncId} {args : List Value} {v : Value} (hrun : retIs (call f args H0) v = true) (ha : closedVs args = true) (hv : closedV v = true) : CallSound P E (memo f args v) := by
  obtain ⟨H1, hr⟩ := retIs_some hrun
  obtain ⟨hp, hC⟩ := hcs.fn f args H0 _ H1 hr
  refine ⟨fun f' args' H out H' h => ?_, (fun _ _ _ _ _ h => by cases h)⟩
  unfold memo at h
  obtain ⟨hb, hq⟩ := cond_some h
  clear h
  simp only [Bool.and_eq_true, Nat.beq_eq] at hb
  obtain ⟨rfl, hb⟩ := hb
  obtain rfl := veqbs_eq hb
  have h' : (some (Out.ret v, H) : Option (Out × CH)) = some (out, H') := hq
  injection h' with h'
  injection h' with h1 h2
  subst h1 h2
  refine ⟨hp, fun φ w as hw has => ?_⟩
  obtain rfl := VRs.closed_eq ha has
  refine (hC (R0 E.tok) w as (WR.emptyF hgl fun b c t fz h => (hw.frame b c t fz h).2) (VRs.closed ha)).mono fun e w' he => ?_
  cases e with
  | outgrown => exact False.elim he
  | panicked ch => obtain ⟨_, _, _, h, _⟩ := he; cases h
  | returned v' =>
    obtain ⟨u, φ1, h1, hW, hE, hV⟩ := he
    injection h1 with h1
    subst h1
    have hk : ∀ b, b < w.heap.size → w'.heap[b]? = w.heap[b]? := fun b hb => hE.keep b hb fun id hid => by cases hid
    rw [VR.closed_eq hv hV]
    exact ⟨v, φ, rfl, hw.kept hk hE.size, ⟨Ren.le_refl φ, fun _ _ _ h => .inl h, fun _ _ => rfl, hE.size, fun b hb _ => hk b hb, hE.os, hE.tape, hE.output, Nat.le_refl _, fun _ _ _ => rfl, fun _ _ h => h⟩, VR.closed hv⟩
end Go.Cl

/- What was there is as it was: so the arguments read as they did. -/
import Derived.Test.YtaicnnkljmanmaaGreatDoorClKept
import Derived.ReadAgain
import Derived.ChangeReads
import Derived.ChangeBears2
namespace Go.Cl
open Go
variable {H : Type} {enc : TypeId × Value → H} {P : Program}
theorem sameAt_of {W W' : World} {p : MemPlace} (h : W'.heap[p.block]? = W.heap[p.block]?) : W.sameAt W' p := by
  cases p with
  | cell b off => simp only [MemPlace.block] at h; simp only [World.sameAt, World.cell?, h]
  | map b => simp only [MemPlace.block] at h; simp only [World.sameAt, h]
theorem trodAll_kept {W W' : World} {base : Nat} {spare : Nat → Bool} {held : Bool} : ∀ {ts : List TypeId} {vs : List Value} {ds : List (DataW H)} {ps : List MemPlace},
    DataW.TrodAll enc P W base spare held ts vs ds ps → (∀ p ∈ ps, W'.heap[p.block]? = W.heap[p.block]?) → DataW.TrodAll enc P W' base spare held ts vs ds ps
  | [], [], [], _, h, _ => h
  | _ :: _, _ :: _, _ :: _, _, ⟨p, q, ⟨n, h1⟩, h2, e⟩, hs => ⟨p, q, ⟨n, DataW.trod_carry n _ _ _ h1 fun x hx => sameAt_of (hs x (by rw [e]; exact List.mem_append_left _ hx))⟩, trodAll_kept h2 (fun x hx => hs x (by rw [e]; exact List.mem_append_right _ hx)), e⟩
theorem args_kept {W W' : World} (hl : laidOutB P = true) (hm : mapsRowed P = true) (hz : ∀ t e, t < P.types.size → P.underlying t = some (.slice e) → 0 < P.cellsOf e) {ts : List TypeId} {vs : List Value} {ds : List (DataW H)} {ps : List MemPlace}
    (hts : ∀ t ∈ ts, t < P.types.size) (hA : DataW.TrodAll enc P W 0 (fun _ => true) true ts vs ds ps) (hk : ∀ b, b < W.heap.size → W'.heap[b]? = W.heap[b]?) {sp : Nat → Bool} (hsp : ∀ p ∈ ps, sp p.block = true) :
    DataW.TrodAll enc P W' 0 sp true ts vs ds ps :=
  trodAll_kept (hA.respare (kids_rows hl hm) hz hts hsp) fun p hp => hk _ (hA.lt p hp)
end Go.Cl

/- What a call does to a part of the heap it does to the whole; objects by other names. -/
import Derived.Test.YtaicnnkljmanmaaGreatDoorClNd4
namespace Go.Cl
open Go
variable {P : Program} {E : Env} {φ φ' : Ren} {H H' : CH} {w w' : World}

theorem merge_sound (hw : WR E φ H w) {s : List Nat} {H1 H' : CH} (hW : WR E φ' H1 w') (hE : Ext φ (H.only s) w φ' H1 w') (hm : merge H s H1 = some H') : WR E φ' H' w' ∧ Ext φ H w φ' H' w' := by
  have hg := fun i => merge_get hm hw.absent hW.absent i
  have hn : H'.next = H1.next := (hg 0).1
  have hg := fun i => (hg i).2
  refine ⟨⟨fun id t b o lo hi h => ?_, hW.align, fun b id h => by rw [hn]; exact hW.ownlt b id h, fun id h => ?_, hW.len, hW.frame, hW.toks, hW.glob⟩,
    ⟨hE.le, fun id t x h => ?_, hE.own, hE.size, fun b hb hk => hE.keep b hb fun id hid => ?_, hE.os, hE.tape, hE.output, by rw [hn]; exact hE.next, fun id hid hna => ?_, fun id hid hno => ?_⟩⟩
  · obtain ⟨h1, h2, h3⟩ := hW.obj _ _ _ _ _ _ h
    refine ⟨h1, by rw [hn]; exact h2, fun ob ho => ?_⟩
    rw [hg] at ho
    by_cases hc : id ∈ s ∨ H.next ≤ id
    · rw [if_pos hc] at ho; exact h3 ob ho
    · rw [if_neg hc] at ho
      rcases hE.new id t _ h with h' | ⟨hne, _⟩ | hle
      · obtain ⟨g1, g2, g3⟩ := hw.obj _ _ _ _ _ _ h'
        have gO := g3 ob ho
        refine gO.mono hE.le (hE.own b g1) (hE.keep b g1 fun id' hid' => ?_)
        have : id' = id := by
          cases ob with
          | cells c ep wep his ro =>
            obtain ⟨_, _, _, _, ho', _⟩ := gO
            rw [ho'] at hid'
            cases ro with
            | true => simp at hid'
            | false => simpa using hid'.symm
          | iter _ _ => obtain ⟨ho', _⟩ := gO; rw [ho'] at hid'; simpa using hid'.symm
          | map _ _ => obtain ⟨ho', _⟩ := gO; rw [ho'] at hid'; simpa using hid'.symm
          | miter _ _ _ _ => obtain ⟨ho', _⟩ := gO; rw [ho'] at hid'; simpa using hid'.symm
          | loop _ _ _ _ _ _ => obtain ⟨ho', _⟩ := gO; rw [ho'] at hid'; simpa using hid'.symm
        subst this
        rw [CH.get_only, if_neg fun hs => hc (.inl hs)]
      · exact absurd (by rw [CH.get_only, if_neg fun hs => hc (.inl hs)]) hne
      · exact absurd (.inr hle) hc
  · rw [hg]
    rw [hn] at h
    have h0 := hW.absent id h
    have : H.next ≤ id := Nat.le_trans hE.next h
    rw [if_pos (.inr this)]; exact h0
  · rcases hE.new id t x h with h' | ⟨hne, h'⟩ | hle
    · exact .inl h'
    · refine .inr (.inl ⟨fun h0 => hne ?_, h'⟩)
      rw [CH.get_only]; split
      · exact h0
      · rfl
    · exact .inr (.inr hle)
  · have h0 := hk id hid
    rw [CH.get_only]; split
    · exact h0
    · rfl
  · rw [hg]
    have h0 : ¬ H.next ≤ id := by omega
    by_cases hs : id ∈ s
    · rw [if_pos (.inl hs), hE.unmod id hid hna, CH.get_only, if_pos hs]
    · rw [if_neg (fun h => h.elim hs h0)]
  · rw [hg]
    have h0 : ¬ H.next ≤ id := by omega
    by_cases hs : id ∈ s
    · rw [if_pos (.inl hs)]
      exact hE.gone id hid (by rw [CH.get_only, if_pos hs]; exact hno)
    · rw [if_neg (fun h => h.elim hs h0)]; exact hno

/-! ### other names -/
mutual
def renV (π : Nat → Nat) : Value → Value
  | .pointer (some ⟨b, o, some t⟩) => .pointer (some ⟨π b, o, some t⟩)
  | .slice (some ⟨b, o, some t⟩) n c => .slice (some ⟨π b, o, some t⟩) n c
  | .map (some id) => .map (some (π id))
  | .func (.func f) ⟨xs⟩ ⟨us⟩ => .func (.func f) ⟨renVs π xs⟩ ⟨renVs π us⟩
  | .func (.yield id) a b => .func (.yield (π id)) a b
  | .iface t v => .iface t (renV π v)
  | .agg ⟨xs⟩ => .agg ⟨renVs π xs⟩
  | .tuple ⟨xs⟩ => .tuple ⟨renVs π xs⟩
  | v => v
def renVs (π : Nat → Nat) : List Value → List Value
  | [] => []
  | v :: r => renV π v :: renVs π r
end
def renE (π : Nat → Nat) : List Ent → List Ent
  | [] => []
  | e :: r => (renV π e.1, renV π e.2.1, e.2.2) :: renE π r
def renO (π : Nat → Nat) : CObj → CObj
  | .cells c ep wep his ro => .cells (renVs π c) ep wep his ro
  | .iter s p => .iter s p
  | .map es c => .map (renE π es) c
  | .miter (some m) a b c => .miter (some (π m)) a b c
  | .miter none a b c => .miter none a b c
  | .loop st p ct ps x y => .loop st p (renVs π ct) ps x y
def Ren.ren (φ : Ren) (π : Nat → Nat) : Ren := ⟨fun id t => φ.at_ (π id) t, fun b => (φ.own b).map π, φ.len, φ.tok⟩
variable {π : Nat → Nat}
theorem at_ren (hπ : ∀ i, π (π i) = i) {id t : Nat} : (φ.ren π).at_ (π id) t = φ.at_ id t := by simp only [Ren.ren, hπ]
def renA (π : Nat → Nat) : Addr → Addr
  | ⟨b, o, some t⟩ => ⟨π b, o, some t⟩
  | a => a
theorem AR.ren (hπ : ∀ i, π (π i) = i) {A a : Addr} (h : AR φ A a) : AR (φ.ren π) (renA π A) a := by
  cases h with
  | st h hl => exact .st (by rw [at_ren hπ]; exact h) hl
  | glob g off => exact .glob g off
theorem AR0.ren (hπ : ∀ i, π (π i) = i) {A a : Addr} (h : AR0 φ A a) : AR0 (φ.ren π) (renA π A) a := by
  rcases h with h | ⟨o, h⟩
  · left
    obtain ⟨b, o, s⟩ := A
    simp only at h
    subst h
    rfl
  · right
    obtain ⟨b, o', s⟩ := A
    have h' := h.ren hπ
    cases s with
    | none => exact ⟨o, h'⟩
    | some t => exact ⟨o, h'⟩
theorem renV_slice {A : Addr} {n c : Nat} : renV π (.slice (some A) n c) = .slice (some (renA π A)) n c := by
  obtain ⟨b, o, s⟩ := A
  cases s <;> simp [renV, renA]
theorem renV_ptr {A : Addr} : renV π (.pointer (some A)) = .pointer (some (renA π A)) := by
  obtain ⟨b, o, s⟩ := A
  cases s <;> simp [renV, renA]
mutual
theorem VR.ren (hπ : ∀ i, π (π i) = i) : ∀ {v v' : Value}, VR φ v v' → VR (φ.ren π) (renV π v) v'
  | _, _, .bool b => by simp only [renV]; exact .bool b
  | _, _, .int k n => by simp only [renV]; exact .int k n
  | _, _, .string s => by simp only [renV]; exact .string s
  | _, _, .pnil => by simp only [renV]; exact .pnil
  | _, _, .ptr h => by rw [renV_ptr]; exact .ptr (h.ren hπ)
  | _, _, .snil => by simp only [renV]; exact .snil
  | _, _, .sl h1 h2 h3 h4 => by rw [renV_slice]; exact .sl h1 h2 ⟨h3.1.ren hπ, h3.2.imp id fun h => h.ren hπ⟩ h4
  | _, _, .mnil => by simp only [renV]; exact .mnil
  | _, _, .map h => by simp only [renV]; exact .map (by rw [at_ren hπ]; exact h)
  | _, _, .nilFunc => by simp only [renV]; exact .nilFunc
  | _, _, .nilIface => by simp only [renV]; exact .nilIface
  | _, _, .func f h h' => by simp only [renV]; exact .func f (VRs.ren hπ h) (VRs.ren hπ h')
  | _, _, .yield h => by simp only [renV]; exact .yield (by rw [at_ren hπ]; exact h)
  | _, _, .opq h => by simp only [renV]; exact .opq h
  | _, _, .tok hk h => by simp only [renV]; exact .tok hk h
  | _, _, .iface t h => by simp only [renV]; exact .iface t (VR.ren hπ h)
  | _, _, .agg h => by simp only [renV]; exact .agg (VRs.ren hπ h)
  | _, _, .tuple h => by simp only [renV]; exact .tuple (VRs.ren hπ h)
theorem VRs.ren (hπ : ∀ i, π (π i) = i) : ∀ {v v' : List Value}, VRs φ v v' → VRs (φ.ren π) (renVs π v) v'
  | _, _, .nil => by simp only [renVs]; exact .nil
  | _, _, .cons h h' => by simp only [renVs]; exact .cons (VR.ren hπ h) (VRs.ren hπ h')
end
theorem renVs_get : ∀ (l : List Value) (j : Nat), cget (renVs π l) j = renV π (cget l j)
  | [], j => by simp [renVs, cget, renV]
  | v :: r, 0 => by simp [renVs, cget]
  | v :: r, j + 1 => by simp only [renVs, cget]; exact renVs_get r j
theorem renVs_length : ∀ (l : List Value), (renVs π l).length = l.length
  | [] => rfl
  | v :: r => by simp only [renVs, List.length_cons, renVs_length r]
theorem EsR.ren (hπ : ∀ i, π (π i) = i) : ∀ {es : List Ent} {es' : List MapEntry}, EsR φ es es' → EsR (φ.ren π) (renE π es) es'
  | _, _, .nil => .nil
  | _, _, .cons hk hv hb h => .cons (hk.ren hπ) (hv.ren hπ) hb (EsR.ren hπ h)
theorem ObjR.ren (hπ : ∀ i, π (π i) = i) {id : Nat} {ob : CObj} {t b o lo hi : Nat} (h : ObjR E φ w id ob t b o lo hi) : ObjR E (φ.ren π) w (π id) (renO π ob) t b o lo hi := by
  have own : ∀ {x : Option Nat}, φ.own b = x → (φ.ren π).own b = x.map π := fun h => by simp only [Ren.ren, h]
  cases ob with
  | cells c ep wep his ro =>
    obtain ⟨h1, h2, h3, h4, h5, h6, h7⟩ := h
    refine ⟨h1, h2, h3, by simpa only [hiOf, renVs_length] using h4, ?_, h6, fun hle => ?_⟩
    · rw [own h5]; cases ro <;> rfl
    · obtain ⟨g1, g2⟩ := h7 hle
      refine ⟨by rw [renVs_length]; exact g1, fun j hj hj' => ?_⟩
      obtain ⟨v', hv, hr⟩ := g2 j hj hj'
      exact ⟨v', hv, by rw [renVs_get]; exact hr.ren hπ⟩
  | iter s p => obtain ⟨h1, h2⟩ := h; exact ⟨own h1, h2⟩
  | map es c =>
    obtain ⟨h1, h2, h3, h4, es', h5, h6⟩ := h
    exact ⟨own h1, h2, h3, h4, es', h5, h6.ren hπ⟩
  | miter m a b c =>
    obtain ⟨h1, h2, h3, h4, m', h5, h6⟩ := h
    cases h6 with
    | none => exact ⟨own h1, h2, h3, h4, none, h5, .none⟩
    | some h => exact ⟨own h1, h2, h3, h4, _, h5, .some (by rw [at_ren hπ]; exact h)⟩
  | loop st p ct ps x y =>
    obtain ⟨h1, h2, h3, h4, r, h5, h6⟩ := h
    exact ⟨own h1, h2, h3, h4, r, h5, ⟨h6.state, h6.pending, VRs.ren hπ h6.tmps, h6.params, h6.assign, h6.body, h6.noA, h6.noB⟩⟩
theorem WR.ren (hπ : ∀ i, π (π i) = i) (hw : WR E φ H w) (hgl : ∀ g, E.glob g = none) (hn : H'.next = H.next) (hlt : ∀ i, i < H.next → π i < H.next) (hob : ∀ i, H'.get (π i) = (H.get i).map (renO π)) : WR E (φ.ren π) H' w where
  obj id t b o lo hi h := by
    obtain ⟨h1, h2, h3⟩ := hw.obj _ _ _ _ _ _ h
    have e : id = π (π id) := (hπ id).symm
    refine ⟨h1, by rw [hn, e]; exact hlt _ h2, fun ob ho => ?_⟩
    rw [e, hob] at ho
    cases hg : H.get (π id) with
    | none => rw [hg] at ho; cases ho
    | some ob0 =>
      rw [hg] at ho
      simp only [Option.map_some, Option.some.injEq] at ho
      subst ho
      have := (h3 ob0 hg).ren hπ
      rwa [hπ] at this
  align id t t' b o lo hi o' lo' hi' h h' := hw.align _ _ _ _ _ _ _ _ _ _ h h'
  ownlt b id h := by
    cases hb : φ.own b with
    | none => simp [Ren.ren, hb] at h
    | some i =>
      simp only [Ren.ren, hb, Option.map_some, Option.some.injEq] at h
      subst h
      obtain ⟨h1, h2⟩ := hw.ownlt b i hb
      exact ⟨h1, by rw [hn]; exact hlt i h2⟩
  absent id h := by
    have e : id = π (π id) := (hπ id).symm
    rw [e, hob, hw.absent]
    · rfl
    · rw [hn] at h
      rcases Nat.lt_or_ge (π id) H.next with hl | hl
      · have := hlt _ hl
        rw [hπ] at this
        omega
      · exact hl
  len := hw.len
  frame b c t fz h := by
    obtain ⟨h1, h2⟩ := hw.frame b c t fz h
    exact ⟨by simp only [Ren.ren, h1]; rfl, h2⟩
  toks := hw.toks
  glob g cs h := by rw [hgl] at h; cases h
theorem Ext.ren (hπ : ∀ i, π (π i) = i) (hw : WR E φ H w) {φ1 : Ren} {H1 H1' : CH} (hE : Ext φ H w φ1 H1 w') (hfix : ∀ i, i < H.next → π i = i) (hn : H1'.next = H1.next) (hold : ∀ i, i < H.next → H1'.get i = H1.get i) : Ext φ H w (φ1.ren π) H1' w' where
  le := ⟨fun id t x h => by
      obtain ⟨b, o, lo, hi⟩ := x
      have := (hw.obj _ _ _ _ _ _ h).2.1
      show φ1.at_ (π id) t = _
      rw [hfix id this]; exact hE.le.1 id t _ h, hE.le.2⟩
  new id t x h := by
    rcases Nat.lt_or_ge id H.next with hl | hl
    · have h : φ1.at_ (π id) t = some x := h
      rw [hfix id hl] at h
      exact hE.new id t x h
    · exact .inr (.inr hl)
  own b hb := by
    show (φ1.own b).map π = _
    rw [hE.own b hb]
    cases h : φ.own b with
    | none => rfl
    | some i => simp only [Option.map_some]; rw [hfix i (hw.ownlt b i h).2]
  size := hE.size
  keep := hE.keep
  os := hE.os
  tape := hE.tape
  output := hE.output
  next := by rw [hn]; exact hE.next
  unmod id hid h := by rw [hold id hid]; exact hE.unmod id hid h
  gone id hid h := by rw [hold id hid]; exact hE.gone id hid h
end Go.Cl

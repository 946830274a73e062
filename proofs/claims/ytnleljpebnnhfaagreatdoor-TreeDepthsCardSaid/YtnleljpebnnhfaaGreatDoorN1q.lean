/- Plain laws: the least graph of a cut is small. -/
import Derived.Test.YtnleljpebnnhfaaGreatDoorN0q
import Derived.Test.YtnleljpebnnhfaaGreatDoorK1q
set_option linter.unusedSimpArgs false
set_option linter.unusedVariables false
namespace Go.Proofs.YtnleljpebnnhfaaGreatDoor
theorem cutD_cons (G : List Nd) (r d k : Nat) (p : List Nat) : cutD (den G r) (d + 1) (k :: p) = match (kids G r)[k]? with | some a => cutD (den G a) d p | none => none := by
  rcases Nat.lt_trichotomy p.length d with c | c | c
  · rw [cutD_lt (by simpa using c), den_cons]
    cases hx : (kids G r)[k]? with
    | none => rfl
    | some a => exact (cutD_lt (by omega)).symm
  · rw [cutD_eq (by simpa using c), den_cons]
    cases hx : (kids G r)[k]? with
    | none => rfl
    | some a => exact (cutD_eq (by omega)).symm
  · rw [cutD_gt (by simpa using c)]
    cases hx : (kids G r)[k]? with
    | none => rfl
    | some a => exact (cutD_gt (by omega)).symm
theorem sub_cut {G : List Nd} (hG : VG G) : ∀ (p : List Nat) (r d : Nat), r < G.length → cutD (den G r) d p ≠ none → ∃ j l, j < G.length ∧ l ≤ d ∧ ∀ q, cutD (den G r) d (p ++ q) = cutD (den G j) l q := by
  intro p
  induction p with
  | nil => intro r d hr _; exact ⟨r, d, hr, Nat.le_refl _, fun q => rfl⟩
  | cons k p ih =>
    intro r d hr hne
    cases d with
    | zero => exact absurd (cutD_gt (by simp)) hne
    | succ d =>
      rw [cutD_cons] at hne
      cases hx : (kids G r)[k]? with
      | none => rw [hx] at hne; exact absurd rfl hne
      | some a =>
        rw [hx] at hne
        obtain ⟨j, l, h1, h2, h3⟩ := ih a d (hG.kids hr (List.mem_of_getElem? hx)) hne
        refine ⟨j, l, h1, by omega, fun q => ?_⟩
        rw [List.cons_append, cutD_cons, hx]
        exact h3 q
theorem canon_cut_len {G C : List Nd} (hG : VG G) {r d : Nat} (hr : r < G.length) (hd : d ≤ 12) (h : Canon C (cutD (den G r) d)) : C.length ≤ G.length * 13 := by
  have key : ∀ k, k < C.length → ∃ x : Nat × Nat, x.1 < G.length ∧ x.2 ≤ 12 ∧ den C k = cutD (den G x.1) x.2 := by
    intro k hk
    obtain ⟨p, hp⟩ := h.path k hk
    obtain ⟨j, l, h1, h2, h3⟩ := sub_cut hG p r d hr (by
      have := hp []
      rw [List.append_nil] at this
      rw [this]
      simp [den_nil])
    exact ⟨(j, l), h1, by show l ≤ 12; omega, funext fun q => by rw [← hp q]; exact h3 q⟩
  have hnd : ((List.range C.length).map fun k => if hk : k < C.length then (Classical.choose (key k hk)).1 * 13 + (Classical.choose (key k hk)).2 else 0).Nodup := by
    rw [List.Nodup, List.pairwise_map]
    refine List.nodup_range.imp_of_mem fun {a b} ha hb hne e => hne ?_
    have ha' := List.mem_range.1 ha
    have hb' := List.mem_range.1 hb
    rw [dif_pos ha', dif_pos hb'] at e
    have sa := Classical.choose_spec (key a ha')
    have sb := Classical.choose_spec (key b hb')
    refine h.inj a b ha' hb' ?_
    rw [sa.2.2, sb.2.2]
    have e1 : (Classical.choose (key a ha')).1 = (Classical.choose (key b hb')).1 := by omega
    have e2 : (Classical.choose (key a ha')).2 = (Classical.choose (key b hb')).2 := by omega
    rw [e1, e2]
  have := hnd.length_le_of_subset (l₂ := List.range (G.length * 13)) fun x hx => by
    obtain ⟨k, hk, rfl⟩ := List.mem_map.1 hx
    have hk' := List.mem_range.1 hk
    rw [dif_pos hk', List.mem_range]
    have := Classical.choose_spec (key k hk')
    omega
  simpa using this
open Go.RowKit in
/-- A cut that is small enough. -/
theorem al_cutx {W w' : World} {e : Ending} {G : List Nd} {root : Int} {d : Nat} (hv : validT G root = true) (hd : d ≤ 12) (hsm : ∀ C, Canon C (cutD (den G root.toNat) d) → C.length ≤ 780) (h : CutPost G root d W e w') :
    Ext W w' ∧ ∃ C A c, e = .returned (.tuple #[.agg #[.slice A C.length c, .int .i64 0], .int .i64 0]) ∧ Canon C (cutD (den G root.toNat) d) ∧ C.length ≤ 780 ∧ NdsRd w' A C := by
  obtain ⟨h1, h2⟩ := h
  rw [if_pos hv, if_pos (by omega)] at h2
  obtain ⟨C, hc, _, h3⟩ := h2
  have e : ((d : Int)).toNat = d := by simp
  rw [e] at hc
  have hl := hsm C hc
  rw [if_pos (by omega)] at h3
  obtain ⟨v, he, ho⟩ := h3
  obtain ⟨A, c, rfl, _⟩ := ho.shape
  exact ⟨h1, C, A, c, he, hc, hl, ho.nd hc.vg (by omega)⟩
theorem small_cut {G : List Nd} {root : Int} {d : Nat} (hv : validT G root = true) (hN : G.length ≤ 60) (hd : d ≤ 12) : ∀ C, Canon C (cutD (den G root.toNat) d) → C.length ≤ 780 := fun C hC => by
  obtain ⟨_, _, h3, h4, h5⟩ := validT_iff.1 hv
  have := canon_cut_len h5 (by omega) hd hC
  omega
/-- Boxes of two trees. -/
structure TB2 (w W : World) (A : Option Addr) (N c : Nat) (ra : Int) (B : Option Addr) (M d : Nat) (rb : Int) : Prop where
  a0 : W.cell? ⟨w.heap.size, 0, none⟩ = some (.slice A N c)
  a1 : W.cell? ⟨w.heap.size, 1, none⟩ = some (.int .i64 ra)
  b0 : W.cell? ⟨w.heap.size + 1, 0, none⟩ = some (.slice B M d)
  b1 : W.cell? ⟨w.heap.size + 1, 1, none⟩ = some (.int .i64 rb)
theorem TB2.of {w W : World} {A : Option Addr} {N c : Nat} {ra : Int} {B : Option Addr} {M d : Nat} {rb : Int} (h : Ext ((w.alloc (.cells #[.slice A N c, .int .i64 ra] 24)).alloc (.cells #[.slice B M d, .int .i64 rb] 24)) W) : TB2 w W A N c ra B M d rb :=
  ⟨h.cell (by simp), h.cell (by simp), h.cell (by simp), h.cell (by simp)⟩
end Go.Proofs.YtnleljpebnnhfaaGreatDoor

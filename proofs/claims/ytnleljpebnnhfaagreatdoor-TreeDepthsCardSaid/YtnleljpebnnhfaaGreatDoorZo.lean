/- The examples hold; Equal of the reference. -/
import Derived.Test.YtnleljpebnnhfaaGreatDoorZj
import Derived.Test.YtnleljpebnnhfaaGreatDoorZn
import Derived.Test.YtnleljpebnnhfaaGreatDoorZg
import Derived.BigGuardPart

set_option linter.unusedSimpArgs false
set_option linter.unusedVariables false
namespace Go.Proofs.YtnleljpebnnhfaaGreatDoor
open Go.RowKit
def lF : ByteArray := { data := #[102] }
def lA : ByteArray := { data := #[97] }
def gF : List Nd := [⟨3, 0, lF, [1]⟩, ⟨3, 0, lF, [2]⟩, ⟨2, 0, lA, []⟩]
def gX : List Nd := [⟨3, 0, lF, [0]⟩]
def gY : List Nd := [⟨3, 0, lF, [1]⟩, ⟨3, 0, lF, [0]⟩]
def gC : List Nd := [⟨3, 0, lF, [1]⟩, ⟨2, 0, cutLabel, []⟩]
def gH : List Nd := [⟨3, 0, { data := #[103] }, [1, 1]⟩, ⟨3, 0, { data := #[104] }, [2]⟩, ⟨1, 1, { data := #[] }, []⟩]
theorem canon_of_sig {C : List Nd} (ps : List (List Nat)) (hv : (C.all fun n => validNd n C.length) = true) (hp : 0 < C.length)
    (hs : ((List.range C.length).map fun i => ps.map (den C i)).Nodup) (ho : Dfs (kids C) id [0] [] (List.range C.length)) : Canon C (den C 0) := by
  refine ⟨fun n hn => List.all_eq_true.1 hv n hn, hp, rfl, fun i j hi hj e => ?_, ho⟩
  rw [List.Nodup, List.pairwise_map, List.pairwise_iff_getElem] at hs
  rcases Nat.lt_trichotomy i j with h | h | h
  · exact absurd (by rw [List.getElem_range, List.getElem_range, e]) (hs i j (by simpa using hi) (by simpa using hj) h)
  · exact h
  · exact absurd (by rw [List.getElem_range, List.getElem_range, e]) (hs j i (by simpa using hj) (by simpa using hi) h)
theorem canon_gF : Canon gF (den gF 0) := by
  refine canon_of_sig [[], [0]] (by kernel_rfl) (by decide) (by decide +kernel) ?_
  refine .visit (by decide) ?_
  show Dfs _ _ [1] [0] _
  refine .visit (by decide) ?_
  show Dfs _ _ [2] [0, 1] _
  refine .visit (by decide) ?_
  exact .nil _
theorem canon_gX : Canon gX (den gX 0) := by
  refine canon_of_sig [[]] (by kernel_rfl) (by decide) (by decide +kernel) ?_
  refine .visit (by decide) ?_
  show Dfs _ _ [0] [0] _
  refine .skip (by decide) ?_
  exact .nil _
theorem canon_gC : Canon gC (den gC 0) := by
  refine canon_of_sig [[]] (by kernel_rfl) (by decide) (by decide +kernel) ?_
  refine .visit (by decide) ?_
  show Dfs _ _ [1] [0] _
  refine .visit (by decide) ?_
  exact .nil _
theorem canon_gH : Canon gH (den gH 0) := by
  refine canon_of_sig [[]] (by kernel_rfl) (by decide) (by decide +kernel) ?_
  refine .visit (by decide) ?_
  show Dfs _ _ [1, 1] [0] _
  refine .visit (by decide) ?_
  show Dfs _ _ [2, 1] [0, 1] _
  refine .visit (by decide) ?_
  show Dfs _ _ [1] [0, 1, 2] _
  refine .skip (by decide) ?_
  exact .nil _
theorem gC_den : den gC 0 = cutD (den gF 0) 1 := by
  funext p
  match p with
  | [] => rw [cutD_lt (by decide)]; rfl
  | [0] => rw [cutD_eq (d := 1) (p := [0]) rfl]; rfl
  | [k + 1] => rw [cutD_eq (d := 1) (p := [k + 1]) rfl]; simp [den, kids, nd, gC, gF]
  | k :: q :: r =>
    rw [cutD_gt (by simp)]
    cases k with
    | zero => simp [den, kids, nd, gC]
    | succ k => simp [den, kids, nd, gC]
theorem gX_cons (p : List Nat) (k : Nat) : den gX 0 (k :: p) = if k = 0 then den gX 0 p else none := by
  rw [den_cons]
  cases k with
  | zero => rfl
  | succ k => simp [kids, nd, gX]
theorem gY_den : ∀ p, den gY 0 p = den gX 0 p ∧ den gY 1 p = den gX 0 p := by
  intro p
  induction p with
  | nil => exact ⟨by kernel_rfl, by kernel_rfl⟩
  | cons k p ih =>
    rw [gX_cons, den_cons, den_cons]
    cases k with
    | zero => exact ⟨ih.2, ih.1⟩
    | succ k => simp [kids, nd, gY]
theorem gXY : den gX 0 = den gY 0 := funext fun p => (gY_den p).1.symm
theorem gX_cyc : ¬ Wf gX 0 := by
  have : ∀ i, Wf gX i → i ≠ 0 := by
    intro i h
    induction h with
    | @mk i _ ih =>
      rintro rfl
      exact ih 0 (by decide) rfl
  exact fun h => this 0 h rfl
theorem tF : bs (textOf gF) = { data := #[102, 40, 102, 40, 97, 41, 41] } := by kernel_rfl
theorem tC : bs (textOf gC) = { data := #[102, 40, 99, 117, 116, 41] } := by kernel_rfl
theorem tX : bs (textOf gX) = { data := #[48, 61, 102, 40, 64, 48, 41] } := by kernel_rfl
def sH : List UInt8 := [103, 40, 104, 40, 49, 41, 32, 104, 40, 49, 41, 41]
theorem tH : textOf gH = sH := by kernel_rfl
theorem bsH : bs sH = { data := #[103, 40, 104, 40, 49, 41, 32, 104, 40, 49, 41, 41] } := by kernel_rfl
theorem vF : validT gF 0 = true := by kernel_rfl
theorem vX : validT gX 0 = true := by kernel_rfl
theorem vY : validT gY 0 = true := by kernel_rfl
theorem vC : validT gC 0 = true := by kernel_rfl
theorem vH : validT gH 0 = true := by kernel_rfl
theorem nr_small {G : List Nd} (h : (G.all fun n => decide (-9223372036854775808 ≤ n.num) && decide (n.num ≤ 9223372036854775807)) = true) : NR G := fun n hn => by
  have := List.all_eq_true.1 h n hn
  simpa using this
theorem nF : NR gF := nr_small (by decide)
theorem nX : NR gX := nr_small (by decide)
theorem nC : NR gC := nr_small (by decide)
theorem nH : NR gH := nr_small (by decide)
end Go.Proofs.YtnleljpebnnhfaaGreatDoor

set_option linter.unusedSimpArgs false
set_option linter.unusedVariables false
namespace Go.Proofs.YtnleljpebnnhfaaGreatDoor
open Go.RowKit
/-- The three trees are made. -/
def alW (w : World) : World :=
  let s := w.heap.size
  (((((((((((w.alloc (.cells #[.int .i64 1] 3)).alloc (.cells #[.int .i64 2] 3)).alloc
    (.cells #[.int .i64 3, .int .i64 0, .string lF, .slice (some ⟨s, 0, none⟩) 1 1, .int .i64 3, .int .i64 0, .string lF, .slice (some ⟨s + 1, 0, none⟩) 1 1, .int .i64 2, .int .i64 0, .string lA, .slice none 0 0] 46)).alloc
    (.cells #[.slice (some ⟨s + 1 + 1, 0, none⟩) 3 3, .int .i64 0] 24)).alloc
    (.cells #[.int .i64 0] 3)).alloc
    (.cells #[.int .i64 3, .int .i64 0, .string lF, .slice (some ⟨s + 1 + 1 + 1 + 1, 0, none⟩) 1 1] 46)).alloc
    (.cells #[.slice (some ⟨s + 1 + 1 + 1 + 1 + 1, 0, none⟩) 1 1, .int .i64 0] 24)).alloc
    (.cells #[.int .i64 1] 3)).alloc
    (.cells #[.int .i64 0] 3)).alloc
    (.cells #[.int .i64 3, .int .i64 0, .string lF, .slice (some ⟨s + 1 + 1 + 1 + 1 + 1 + 1 + 1, 0, none⟩) 1 1, .int .i64 3, .int .i64 0, .string lF, .slice (some ⟨s + 1 + 1 + 1 + 1 + 1 + 1 + 1 + 1, 0, none⟩) 1 1] 46)).alloc
    (.cells #[.slice (some ⟨s + 1 + 1 + 1 + 1 + 1 + 1 + 1 + 1 + 1, 0, none⟩) 2 2, .int .i64 0] 24))
theorem alW_ext (w : World) : Ext w (alW w) := (((((((((((Ext.rfl' w).alloc _).alloc _).alloc _).alloc _).alloc _).alloc _).alloc _).alloc _).alloc _).alloc _).alloc _
theorem heap_push (w : World) (o : Obj) (k : Nat) : (w.alloc o).heap[k]? = if k = w.heap.size then some o else w.heap[k]? := by
  simp only [World.alloc, Array.getElem?_push]
theorem cell_of_heap {W : World} {b : Nat} {cs : Array Value} {t : TypeId} {fr : Nat × Nat} (h : W.heap[b]? = some (.cells cs t fr)) (i : Nat) : W.cell? ⟨b, i, none⟩ = cs[i]? := by
  simp [World.cell?, h]
theorem rd1 {W : World} {b : Nat} {x : Int} {t : TypeId} (h : W.heap[b]? = some (.cells #[.int .i64 x] t (0, 0))) : Rd iv W (some ⟨b, 0, none⟩) [x] :=
  ⟨by simp, fun _ => ⟨b, 0, rfl, fun j hj => by
    have : j = 0 := by simpa using hj
    subst this
    rw [cell_of_heap h]; rfl⟩⟩
theorem ndAt_of {W : World} {b o : Nat} {cs : Array Value} {t : TypeId} {n : Nd} {A : Option Addr} {c : Nat} (h : W.heap[b]? = some (.cells cs t (0, 0))) (h0 : cs[o]? = some (.int .i64 n.kind)) (h1 : cs[o + 1]? = some (.int .i64 n.num)) (h2 : cs[o + 2]? = some (.string n.label)) (h3 : cs[o + 3]? = some (.slice A n.args.length c)) (hc : n.args.length ≤ c) (hr : Rd iv W A n.args) : NdAt W b o n :=
  ⟨A, c, by rw [cell_of_heap h]; exact h0, by rw [cell_of_heap h]; exact h1, by rw [cell_of_heap h]; exact h2, by rw [cell_of_heap h]; exact h3, hc, hr⟩
section
variable (w : World)
theorem alW_h0 : (alW w).heap[w.heap.size]? = some (.cells #[.int .i64 1] 3 (0, 0)) := by
  unfold alW
  exact (((((((((((Ext.rfl' _).alloc _).alloc _).alloc _).alloc _).alloc _).alloc _).alloc _).alloc _).alloc _).alloc _).heap (new_heap _ _ _ (by simp))
theorem alW_h1 : (alW w).heap[w.heap.size + 1]? = some (.cells #[.int .i64 2] 3 (0, 0)) := by
  unfold alW
  exact ((((((((((Ext.rfl' _).alloc _).alloc _).alloc _).alloc _).alloc _).alloc _).alloc _).alloc _).alloc _).heap (new_heap _ _ _ (by simp))
theorem alW_h2 : (alW w).heap[w.heap.size + 1 + 1]? = some (.cells #[.int .i64 3, .int .i64 0, .string lF, .slice (some ⟨w.heap.size, 0, none⟩) 1 1, .int .i64 3, .int .i64 0, .string lF, .slice (some ⟨w.heap.size + 1, 0, none⟩) 1 1, .int .i64 2, .int .i64 0, .string lA, .slice none 0 0] 46 (0, 0)) := by
  unfold alW
  exact (((((((((Ext.rfl' _).alloc _).alloc _).alloc _).alloc _).alloc _).alloc _).alloc _).alloc _).heap (new_heap _ _ _ (by simp))
theorem alW_h3 : (alW w).heap[w.heap.size + 1 + 1 + 1]? = some (.cells #[.slice (some ⟨w.heap.size + 1 + 1, 0, none⟩) 3 3, .int .i64 0] 24 (0, 0)) := by
  unfold alW
  exact ((((((((Ext.rfl' _).alloc _).alloc _).alloc _).alloc _).alloc _).alloc _).alloc _).heap (new_heap _ _ _ (by simp))
theorem alW_h4 : (alW w).heap[w.heap.size + 1 + 1 + 1 + 1]? = some (.cells #[.int .i64 0] 3 (0, 0)) := by
  unfold alW
  exact (((((((Ext.rfl' _).alloc _).alloc _).alloc _).alloc _).alloc _).alloc _).heap (new_heap _ _ _ (by simp))
theorem alW_h5 : (alW w).heap[w.heap.size + 1 + 1 + 1 + 1 + 1]? = some (.cells #[.int .i64 3, .int .i64 0, .string lF, .slice (some ⟨w.heap.size + 1 + 1 + 1 + 1, 0, none⟩) 1 1] 46 (0, 0)) := by
  unfold alW
  exact ((((((Ext.rfl' _).alloc _).alloc _).alloc _).alloc _).alloc _).heap (new_heap _ _ _ (by simp))
theorem alW_h6 : (alW w).heap[w.heap.size + 1 + 1 + 1 + 1 + 1 + 1]? = some (.cells #[.slice (some ⟨w.heap.size + 1 + 1 + 1 + 1 + 1, 0, none⟩) 1 1, .int .i64 0] 24 (0, 0)) := by
  unfold alW
  exact (((((Ext.rfl' _).alloc _).alloc _).alloc _).alloc _).heap (new_heap _ _ _ (by simp))
theorem alW_h7 : (alW w).heap[w.heap.size + 1 + 1 + 1 + 1 + 1 + 1 + 1]? = some (.cells #[.int .i64 1] 3 (0, 0)) := by
  unfold alW
  exact ((((Ext.rfl' _).alloc _).alloc _).alloc _).heap (new_heap _ _ _ (by simp))
theorem alW_h8 : (alW w).heap[w.heap.size + 1 + 1 + 1 + 1 + 1 + 1 + 1 + 1]? = some (.cells #[.int .i64 0] 3 (0, 0)) := by
  unfold alW
  exact (((Ext.rfl' _).alloc _).alloc _).heap (new_heap _ _ _ (by simp))
theorem alW_h9 : (alW w).heap[w.heap.size + 1 + 1 + 1 + 1 + 1 + 1 + 1 + 1 + 1]? = some (.cells #[.int .i64 3, .int .i64 0, .string lF, .slice (some ⟨w.heap.size + 1 + 1 + 1 + 1 + 1 + 1 + 1, 0, none⟩) 1 1, .int .i64 3, .int .i64 0, .string lF, .slice (some ⟨w.heap.size + 1 + 1 + 1 + 1 + 1 + 1 + 1 + 1, 0, none⟩) 1 1] 46 (0, 0)) := by
  unfold alW
  exact ((Ext.rfl' _).alloc _).heap (new_heap _ _ _ (by simp))
theorem alW_h10 : (alW w).heap[w.heap.size + 1 + 1 + 1 + 1 + 1 + 1 + 1 + 1 + 1 + 1]? = some (.cells #[.slice (some ⟨w.heap.size + 1 + 1 + 1 + 1 + 1 + 1 + 1 + 1 + 1, 0, none⟩) 2 2, .int .i64 0] 24 (0, 0)) := by
  unfold alW
  exact (Ext.rfl' _).heap (new_heap _ _ _ (by simp))
theorem alW_F : NdsRd (alW w) (some ⟨w.heap.size + 1 + 1, 0, none⟩) gF := by
  refine ⟨by decide, fun _ => ⟨_, 0, rfl, fun j hj => ?_⟩⟩
  match j, hj with
  | 0, _ => exact ndAt_of (alW_h2 w) rfl rfl rfl rfl (Nat.le_refl 1) (rd1 (alW_h0 w))
  | 1, _ => exact ndAt_of (alW_h2 w) rfl rfl rfl rfl (Nat.le_refl 1) (rd1 (alW_h1 w))
  | 2, _ => exact ndAt_of (alW_h2 w) rfl rfl rfl rfl (Nat.le_refl 0) (Rd.nil _ _ _)
theorem alW_X : NdsRd (alW w) (some ⟨w.heap.size + 1 + 1 + 1 + 1 + 1, 0, none⟩) gX := by
  refine ⟨by decide, fun _ => ⟨_, 0, rfl, fun j hj => ?_⟩⟩
  match j, hj with
  | 0, _ => exact ndAt_of (alW_h5 w) rfl rfl rfl rfl (Nat.le_refl 1) (rd1 (alW_h4 w))
theorem alW_Y : NdsRd (alW w) (some ⟨w.heap.size + 1 + 1 + 1 + 1 + 1 + 1 + 1 + 1 + 1, 0, none⟩) gY := by
  refine ⟨by decide, fun _ => ⟨_, 0, rfl, fun j hj => ?_⟩⟩
  match j, hj with
  | 0, _ => exact ndAt_of (alW_h9 w) rfl rfl rfl rfl (Nat.le_refl 1) (rd1 (alW_h7 w))
  | 1, _ => exact ndAt_of (alW_h9 w) rfl rfl rfl rfl (Nat.le_refl 1) (rd1 (alW_h8 w))
/-- What a walk asks of the boxes. -/
structure AlB (w W : World) : Prop where
  ext : Ext (alW w) W
  f0 : W.cell? ⟨w.heap.size + 1 + 1 + 1, 0, none⟩ = some (.slice (some ⟨w.heap.size + 1 + 1, 0, none⟩) 3 3)
  f1 : W.cell? ⟨w.heap.size + 1 + 1 + 1, 1, none⟩ = some (.int .i64 0)
  x0 : W.cell? ⟨w.heap.size + 1 + 1 + 1 + 1 + 1 + 1, 0, none⟩ = some (.slice (some ⟨w.heap.size + 1 + 1 + 1 + 1 + 1, 0, none⟩) 1 1)
  x1 : W.cell? ⟨w.heap.size + 1 + 1 + 1 + 1 + 1 + 1, 1, none⟩ = some (.int .i64 0)
  y0 : W.cell? ⟨w.heap.size + 1 + 1 + 1 + 1 + 1 + 1 + 1 + 1 + 1 + 1, 0, none⟩ = some (.slice (some ⟨w.heap.size + 1 + 1 + 1 + 1 + 1 + 1 + 1 + 1 + 1, 0, none⟩) 2 2)
  y1 : W.cell? ⟨w.heap.size + 1 + 1 + 1 + 1 + 1 + 1 + 1 + 1 + 1 + 1, 1, none⟩ = some (.int .i64 0)
theorem AlB.of {w W : World} (h : Ext (alW w) W) : AlB w W :=
  ⟨h, h.cell (by rw [cell_of_heap (alW_h3 w)]; rfl), h.cell (by rw [cell_of_heap (alW_h3 w)]; rfl), h.cell (by rw [cell_of_heap (alW_h6 w)]; rfl), h.cell (by rw [cell_of_heap (alW_h6 w)]; rfl), h.cell (by rw [cell_of_heap (alW_h10 w)]; rfl), h.cell (by rw [cell_of_heap (alW_h10 w)]; rfl)⟩
theorem al_size {W w' : World} {e : Ending} {G C : List Nd} (hv : validT G 0 = true) (hc : Canon C (den G 0)) (h : SizePost G 0 W e w') : Ext W w' ∧ e = .returned (.tuple #[.int .i64 C.length, .int .i64 0]) := by
  obtain ⟨h1, h2⟩ := h
  rw [if_pos hv] at h2
  obtain ⟨C', he, hc'⟩ := h2
  have := Canon.unique hc hc'
  subst this
  exact ⟨h1, he⟩
theorem al_text {W w' : World} {e : Ending} {G C : List Nd} (hv : validT G 0 = true) (hc : Canon C (den G 0)) (hl : (textOf C).length ≤ 4000) (h : TextPost G 0 W e w') : Ext W w' ∧ e = .returned (.tuple #[.string (bs (textOf C)), .int .i64 0]) := by
  obtain ⟨h1, h2, _⟩ := h
  obtain ⟨C', hc', _, he, _⟩ := h2 hv
  have := Canon.unique hc hc'
  subst this
  exact ⟨h1, he hl⟩
theorem al_cut {W w' : World} {e : Ending} (h : CutPost gF 0 1 W e w') : Ext W w' ∧ ∃ A c, e = .returned (.tuple #[.agg #[.slice A 2 c, .int .i64 0], .int .i64 0]) ∧ NdsRd w' A gC := by
  obtain ⟨h1, h2⟩ := h
  rw [if_pos vF, if_pos (by decide)] at h2
  obtain ⟨C, hc, _, h3⟩ := h2
  have hc2 : Canon gC (cutD (den gF 0) 1) := by rw [← gC_den]; exact canon_gC
  have := Canon.unique hc2 hc
  subst this
  rw [if_pos (by decide)] at h3
  obtain ⟨v, he, ho⟩ := h3
  obtain ⟨A, c, rfl, _⟩ := ho.shape
  exact ⟨h1, A, c, he, ho.nd canon_gC.vg (by decide)⟩
theorem al_same {W w' : World} {e : Ending} (h : SamePost gX 0 gY 0 W e w') : Ext W w' ∧ e = .returned (.tuple #[.bool true, .int .i64 0]) := by
  obtain ⟨h1, h2, _⟩ := h
  obtain ⟨b, he, hb⟩ := h2 (by rw [vX, vY]; rfl)
  have : b = true := hb.2 gXY
  rw [this] at he
  exact ⟨h1, he⟩
theorem al_cyc {W w' : World} {e : Ending} (h : CyclicPost gX 0 W e w') : Ext W w' ∧ e = .returned (.tuple #[.bool true, .int .i64 0]) := by
  obtain ⟨h1, h2⟩ := h
  rw [if_pos vX] at h2
  obtain ⟨b, he, hb⟩ := h2
  have : b = true := hb.2 gX_cyc
  rw [this] at he
  exact ⟨h1, he⟩
theorem al_parse {W w' : World} {e : Ending} (h : ParsePost sH W e w') : Ext W w' ∧ ∃ A c, e = .returned (.tuple #[.agg #[.slice A 3 c, .int .i64 0], .int .i64 0]) ∧ NdsRd w' A gH := by
  obtain ⟨h1, _, h2⟩ := h
  have ht : IsText gH sH := ⟨⟨_, canon_gH⟩, nH, by decide, tH⟩
  rcases h2 (by decide) with ⟨C, v, hc, he, ho⟩ | ⟨hn, _⟩
  · have := hc.unique ht
    subst this
    obtain ⟨A, c, rfl, _⟩ := ho.shape
    exact ⟨h1, A, c, he, ho.nd canon_gH.vg (by decide)⟩
  · exact absurd ht (hn _)
end
set_option maxRecDepth 100000 in
set_option maxHeartbeats 8000000 in
theorem alive_any (w : World) (hg : Gl w) : Calls Tryz.prog 16 #[] w fun e w' => e = .returned (.bool true) ∧ Ext w w' := by
  have HG := Lib.hid hg
  clear hg
  go_enter Tryz.func16, Tryz.ntmps16
  go_wp2_with fail
  refine (Size_any gF 0 _ 3 3 (alW w) (alW_F w) (by decide) rfl).mono ?_
  intro e w1 hp
  obtain ⟨hx, rfl⟩ := al_size vF canon_gF hp
  rw [show ((gF.length : Nat) : Int) = 3 from rfl]
  obtain ⟨E1, f0, f1, x0, x1, y0, y1⟩ := AlB.of hx
  have HE := Lib.hid E1
  clear hp hx E1 x0 x1 y0 y1
  go_wp2_with fail
  refine (Text_any gF nF 0 _ 3 3 w1 (HG.out.ext ((alW_ext w).trans' HE.out)) ((alW_F w).ext HE.out) (by decide) rfl).mono ?_
  intro e w2 hp
  obtain ⟨hx, rfl⟩ := al_text vF canon_gF (by decide +kernel) hp
  rw [tF]
  obtain ⟨E1, f0, f1, x0, x1, y0, y1⟩ := AlB.of (HE.out.trans' hx)
  clear HE
  have HE := Lib.hid E1
  clear hp hx E1 x0 x1 y0 y1
  go_wp2_with fail
  refine (Cut_any gF 0 1 _ 3 3 w2 ((alW_F w).ext HE.out) (by decide) rfl).mono ?_
  intro e w3 hp
  obtain ⟨hx, Ac, cc, rfl, hrc⟩ := al_cut hp
  have HE3 := Lib.hid (HE.out.trans' hx)
  have HRC := Lib.hid hrc
  have X3 : Hid (Ext w3 (w3.alloc (.cells #[.slice Ac 2 cc, .int .i64 0] 24))) := Lib.hid ((Ext.rfl' _).alloc _)
  clear hp hx HE f0 f1 hrc
  go_wp2_with fail
  refine (Text_any gC nC 0 Ac cc 2 _ (HG.out.ext ((alW_ext w).trans' (HE3.out.trans' X3.out))) (HRC.out.ext X3.out) (by decide) rfl).mono ?_
  intro e w4 hp
  obtain ⟨hx, rfl⟩ := al_text vC canon_gC (by decide +kernel) hp
  rw [tC]
  obtain ⟨E1, f0, f1, x0, x1, y0, y1⟩ := AlB.of ((HE3.out.trans' X3.out).trans' hx)
  have HE := Lib.hid E1
  clear hp hx E1 f0 f1 HE3 X3 HRC y0 y1
  go_wp2_with fail
  refine (Text_any gX nX 0 _ 1 1 w4 (HG.out.ext ((alW_ext w).trans' HE.out)) ((alW_X w).ext HE.out) (by decide) rfl).mono ?_
  intro e w5 hp
  obtain ⟨hx, rfl⟩ := al_text vX canon_gX (by decide +kernel) hp
  rw [tX]
  obtain ⟨E1, f0, f1, x0, x1, y0, y1⟩ := AlB.of (HE.out.trans' hx)
  clear HE
  have HE := Lib.hid E1
  clear hp hx E1 f0 f1
  go_wp2_with fail
  refine (Same_any gX gY 0 0 _ _ 1 2 1 2 w5 ((alW_X w).ext HE.out) ((alW_Y w).ext HE.out) (by decide) (by decide) rfl rfl).mono ?_
  intro e w6 hp
  obtain ⟨hx, rfl⟩ := al_same hp
  obtain ⟨E1, f0, f1, x0, x1, y0, y1⟩ := AlB.of (HE.out.trans' hx)
  clear HE
  have HE := Lib.hid E1
  clear hp hx E1 f0 f1 y0 y1
  go_wp2_with fail
  refine (Cyclic_any gX 0 _ 1 1 w6 ((alW_X w).ext HE.out) (by decide) rfl).mono ?_
  intro e w7 hp
  obtain ⟨hx, rfl⟩ := al_cyc hp
  have HE7 := Lib.hid (HE.out.trans' hx)
  clear hp hx HE x0 x1
  go_wp2_with fail
  rw [← bsH]
  refine (Parse_any sH (by decide) w7 (HG.out.ext ((alW_ext w).trans' HE7.out))).mono ?_
  intro e w8 hp
  obtain ⟨hx, Ap, cp, rfl, hrp⟩ := al_parse hp
  have HE8 := Lib.hid (HE7.out.trans' hx)
  have HRP := Lib.hid hrp
  have X8 : Hid (Ext w8 (w8.alloc (.cells #[.slice Ap 3 cp, .int .i64 0] 24))) := Lib.hid ((Ext.rfl' _).alloc _)
  clear hp hx HE7 hrp
  go_wp2_with fail
  refine (Size_any gH 0 Ap cp 3 _ (HRP.out.ext X8.out) (by decide) rfl).mono ?_
  intro e w9 hp
  obtain ⟨hx, rfl⟩ := al_size vH canon_gH hp
  rw [show ((gH.length : Nat) : Int) = 3 from rfl]
  have HE9 := Lib.hid (((alW_ext w).trans' (HE8.out.trans' X8.out)).trans' hx)
  clear hp hx HE8 X8 HRP HG
  go_wp2
  go_ret
  exact ⟨rfl, HE9.out⟩
end Go.Proofs.YtnleljpebnnhfaaGreatDoor

set_option linter.unusedSimpArgs false
set_option linter.unusedVariables false
namespace Go.Proofs.YtnleljpebnnhfaaGreatDoor
open Go.RowKit
def alikeB (m n : Nd) : Bool := decide (m.kind = n.kind) && decide (m.num = n.num) && decide (m.label.toList = n.label.toList) && decide (m.args.length = n.args.length)
set_option maxRecDepth 100000 in
theorem alike_any (m n : Nd) (A B : Option Addr) (c d : Nat) (w : World) (l1 : m.args.length ≤ 140737488355328) (l2 : n.args.length ≤ 140737488355328) :
    Calls Tryz.prog 45 #[.agg #[.int .i64 m.kind, .int .i64 m.num, .string m.label, .slice A m.args.length c], .agg #[.int .i64 n.kind, .int .i64 n.num, .string n.label, .slice B n.args.length d]] w
      fun e w' => e = .returned (.bool (alikeB m n)) ∧ Ext w w' := by
  by_cases h1 : m.kind = n.kind
  · by_cases h2 : m.num = n.num
    · by_cases h3 : m.label.toList = n.label.toList
      · have e1 : (m.kind == n.kind) = true := by simp [h1]
        have e2 : (m.num == n.num) = true := by simp [h2]
        have hf : alikeB m n = ((m.args.length : Int) == (n.args.length : Int)) := by
          rw [Bool.eq_iff_iff]; simp [alikeB, h1, h2, h3]; omega
        have HF := Lib.hid hf
        clear h1 h2 hf
        go_enter Tryz.func45, Tryz.ntmps45
        go_wp2
        all_goals go_ret
        all_goals (refine ⟨retB ?_, ((Ext.rfl' _).alloc _).alloc _⟩)
        all_goals (rw [HF.out]; try simp_all)
      · have e1 : (m.kind == n.kind) = true := by simp [h1]
        have e2 : (m.num == n.num) = true := by simp [h2]
        have hf : alikeB m n = false := by simp [alikeB, h3]
        have HF := Lib.hid hf
        clear h1 h2 hf
        go_enter Tryz.func45, Tryz.ntmps45
        go_wp2
        all_goals go_ret
        all_goals (refine ⟨retB ?_, ((Ext.rfl' _).alloc _).alloc _⟩)
        all_goals (rw [HF.out]; try simp_all)
    · have e1 : (m.kind == n.kind) = true := by simp [h1]
      have e2 : (m.num == n.num) = false := by simp [h2]
      have hf : alikeB m n = false := by simp [alikeB, h2]
      have HF := Lib.hid hf
      clear h1 hf
      go_enter Tryz.func45, Tryz.ntmps45
      go_wp2
      all_goals go_ret
      all_goals (refine ⟨retB ?_, ((Ext.rfl' _).alloc _).alloc _⟩)
      all_goals (rw [HF.out]; try simp_all)
  · have e1 : (m.kind == n.kind) = false := by simp [h1]
    have hf : alikeB m n = false := by simp [alikeB, h1]
    have HF := Lib.hid hf
    clear hf
    go_enter Tryz.func45, Tryz.ntmps45
    go_wp2
    all_goals go_ret
    all_goals (refine ⟨retB ?_, ((Ext.rfl' _).alloc _).alloc _⟩)
    all_goals (rw [HF.out]; try simp_all)
theorem nd_of_alike {m n : Nd} (h : alikeB m n = true) (ha : ∀ k (h1 : k < m.args.length) (h2 : k < n.args.length), m.args[k] = n.args[k]) : m = n := by
  simp [alikeB] at h
  obtain ⟨⟨⟨h1, h2⟩, h3⟩, h4⟩ := h
  obtain ⟨mk, mn, ml, ma⟩ := m
  obtain ⟨nk, nn, nl, na⟩ := n
  simp only at h1 h2 h3 h4 ha
  have e3 : ml = nl := ByteArray.ext (Array.ext' (by rw [← Go.Lib.toList_data, ← Go.Lib.toList_data]; exact h3))
  have e4 : ma = na := List.ext_getElem h4 ha
  rw [h1, h2, e3, e4]
theorem alike_self (m : Nd) : alikeB m m = true := by simp [alikeB]
set_option maxRecDepth 100000 in
set_option maxHeartbeats 1000000 in
theorem rEqual_any (G H : List Nd) (ra rb : Int) (A B : Option Addr) (c d N M : Nat) (w : World) (hr : NdsRd w A G) (hs : NdsRd w B H) (hN : G.length = N) (hM : H.length = M) :
    Calls Tryz.prog 21 #[.agg #[.slice A N c, .int .i64 ra], .agg #[.slice B M d, .int .i64 rb]] w fun e w' => e = .returned (.bool (decide (ra = rb ∧ G = H))) ∧ Ext w w' := by
  have hle := hr.1
  have hle2 := hs.1
  rw [hN] at hle
  rw [hM] at hle2
  have HR := Lib.hid hr
  have HS := Lib.hid hs
  have HN := Lib.hid hN
  have HM := Lib.hid hM
  clear hr hs
  by_cases h1 : ra = rb
  · have e1 : (ra == rb) = true := by simp [h1]
    have e1' : (ra != rb) = false := by simp [h1]
    by_cases h2 : N = M
    · have HF : Hid (decide (ra = rb ∧ G = H) = decide (G = H)) := Lib.hid (by simp [h1])
      subst h2
      clear h1 hN hM
      go_enter Tryz.func21, Tryz.ntmps21
      go_wp2
      have X0 : Hid (Ext w ((w.alloc (.cells #[.slice A N c, .int .i64 ra] 24)).alloc (.cells #[.slice B N d, .int .i64 rb] 24))) := Lib.hid (((Ext.rfl' _).alloc _).alloc _)
      go_loopw [5] (fun i wr => ∃ k : Nat, k ≤ N ∧ i = .int .i64 k ∧ (∀ j (h : j < G.length) (h' : j < H.length), j < k → G[j] = H[j]) ∧ Ext ((w.alloc (.cells #[.slice A N c, .int .i64 ra] 24)).alloc (.cells #[.slice B N d, .int .i64 rb] 24)) wr) (fun i _ => N - (intOf i).toNat)
      case atStart => exact ⟨0, by omega, rfl, fun j _ _ hj => by omega, Ext.rfl' _⟩
      case round =>
        obtain ⟨k, hk, rfl, hall, hext⟩ := hrel
        have HA := Lib.hid hall; clear hall
        have g0 : wr.cell? ⟨w.heap.size, 0, none⟩ = some (.slice A N c) := hext.cell (by simp)
        have g1 : wr.cell? ⟨w.heap.size + 1, 0, none⟩ = some (.slice B N d) := hext.cell (by simp)
        have HX := Lib.hid hext; clear hext
        by_cases hlt : k < N
        · have hkG : k < G.length := by rw [HN.out]; exact hlt
          have hkH : k < H.length := by rw [HM.out]; exact hlt
          obtain ⟨b, o, hA, A1, c1, p0, p1, p2, p3, p4, p5⟩ := (HR.out.ext (X0.out.trans' HX.out)).get hkG
          obtain ⟨b', o', hB, B1, d1, q0, q1, q2, q3, q4, q5⟩ := (HS.out.ext (X0.out.trans' HX.out)).get hkH
          have l1 := p5.1
          have l2 := q5.1
          have P5 := Lib.hid p5
          have Q5 := Lib.hid q5
          obtain ⟨m, hm⟩ : ∃ m, nd G k = m := ⟨_, rfl⟩
          obtain ⟨n, hn⟩ : ∃ n, nd H k = n := ⟨_, rfl⟩
          have HMK := Lib.hid hm
          have HNK := Lib.hid hn
          rw [hm] at p0 p1 p2 p3 p4 p5 P5 l1
          rw [hn] at q0 q1 q2 q3 q4 q5 Q5 l2
          have hmG : G[k] = m := by rw [← nd_eq hkG]; exact hm
          have hnH : H[k] = n := by rw [← nd_eq hkH]; exact hn
          have HMG := Lib.hid hmG
          have HNH := Lib.hid hnH
          clear p5 q5 hm hn hmG hnH
          subst hA
          subst hB
          go_wp2
          go_still_tail 10, (by kernel_rfl)
          change wpList _ _ _ _ _ wr.drew
          cases hv : alikeB m n with
          | false =>
            have hno : decide (G = H) = false := by
              simp only [decide_eq_false_iff_not]
              intro e
              have : m = n := by rw [← HMG.out, ← HNH.out]; simp [e]
              rw [this, alike_self] at hv
              cases hv
            have HNO := Lib.hid hno; clear hno
            go_wp2_with (go_at_call 45; refine (alike_any m n A1 B1 c1 d1 _ l1 l2).mono ?_; rintro e w1 ⟨rfl, hw1⟩)
            go_ret
            exact ⟨retB (by rw [HF.out, HNO.out]), (X0.out.trans' HX.out).drew.trans' hw1⟩
          | true =>
            have HV := Lib.hid hv
            have HLEN : Hid (m.args.length = n.args.length) := Lib.hid (by simp [alikeB] at hv; exact hv.2)
            go_wp2_with (go_at_call 45; refine (alike_any m n A1 B1 c1 d1 _ l1 l2).mono ?_; rw [HV.out]; rintro e w1 ⟨rfl, hw1⟩)
            have HX1 : Hid (Ext ((w.alloc (.cells #[.slice (some ⟨b, o, none⟩) N c, .int .i64 ra] 24)).alloc (.cells #[.slice (some ⟨b', o', none⟩) N d, .int .i64 rb] 24)) w1) := Lib.hid (HX.out.drew.trans' hw1)
            clear hw1 hv g0 g1 p0 p1 p2 p3 q0 q1 q2 q3 P5 Q5 p4 q4 HX
            go_loopw [6] (fun i wq => ∃ kk : Nat, kk ≤ m.args.length ∧ i = .int .i64 kk ∧ (∀ j (h : j < m.args.length) (h' : j < n.args.length), j < kk → m.args[j] = n.args[j]) ∧ Ext ((w.alloc (.cells #[.slice (some ⟨b, o, none⟩) N c, .int .i64 ra] 24)).alloc (.cells #[.slice (some ⟨b', o', none⟩) N d, .int .i64 rb] 24)) wq) (fun i _ => m.args.length - (intOf i).toNat)
            case atStart => exact ⟨0, by omega, rfl, fun j _ _ hj => by omega, HX1.out⟩
            case round =>
              clear HX1
              obtain ⟨kk, hkk, rfl, hall2, hext2⟩ := hrel
              have HA2 := Lib.hid hall2
              have g0 : wr.cell? ⟨w.heap.size, 0, none⟩ = some (.slice (some ⟨b, o, none⟩) N c) := hext2.cell (by simp)
              have g1 : wr.cell? ⟨w.heap.size + 1, 0, none⟩ = some (.slice (some ⟨b', o', none⟩) N d) := hext2.cell (by simp)
              obtain ⟨b2, o2, hA, A1, c1, p0, p1, p2, p3, p4, p5⟩ := (HR.out.ext (X0.out.trans' hext2)).get hkG
              obtain ⟨b3, o3, hB, B1, d1, q0, q1, q2, q3, q4, q5⟩ := (HS.out.ext (X0.out.trans' hext2)).get hkH
              rw [HMK.out] at p0 p1 p2 p3 p4 p5
              rw [HNK.out] at q0 q1 q2 q3 q4 q5
              have P5 := Lib.hid p5
              have Q5 := Lib.hid q5
              have HX := Lib.hid hext2
              simp only [Option.some.injEq, Addr.mk.injEq] at hA hB
              obtain ⟨rfl, rfl, _⟩ := hA
              obtain ⟨rfl, rfl, _⟩ := hB
              clear hall2 hext2 p0 p1 p2 p5 q0 q1 q2 q5
              by_cases hkl : kk < m.args.length
              · obtain ⟨ba, oa, rfl, ha⟩ := P5.out.2 (by omega)
                obtain ⟨bb, ob, rfl, hb⟩ := Q5.out.2 (by have := HLEN.out; omega)
                have hkl2 : kk < n.args.length := by have := HLEN.out; omega
                have a1 := ha kk hkl
                have b1 := hb kk hkl2
                clear ha hb
                by_cases he : m.args[kk] = n.args[kk]
                · have e5 : (m.args[kk] != n.args[kk]) = false := by simp [he]
                  have HE := Lib.hid he
                  clear he
                  go_wp2
                  go_quiet (fail)
                  go_wp2
                  refine ⟨⟨kk + 1, by omega, by go_num, fun j h h' hj => ?_, HX.out.trans' (Ext.of_drewN _ _)⟩, by simp [intOf]; omega⟩
                  rcases Nat.lt_or_ge j kk with h2 | h2
                  · exact HA2.out j h h' h2
                  · obtain rfl : j = kk := by omega
                    exact HE.out
                · have e5 : (m.args[kk] != n.args[kk]) = true := by simp [he]
                  have hno : decide (G = H) = false := by
                    simp only [decide_eq_false_iff_not]
                    intro e
                    have : m = n := by rw [← HMG.out, ← HNH.out]; simp [e]
                    subst this
                    exact he rfl
                  have HNO := Lib.hid hno
                  clear he hno
                  go_wp2
                  go_quiet (fail)
                  go_wp2
                  go_ret
                  exact ⟨retB (by rw [HF.out, HNO.out]), (X0.out.trans' HX.out).trans' (Ext.of_drewN _ _)⟩
              · go_wp2
                refine ⟨⟨k + 1, by omega, by go_num, fun j h h' hj => ?_, HX.out⟩, by simp [intOf]; omega⟩
                rcases Nat.lt_or_ge j k with h2 | h2
                · exact HA.out j h h' h2
                · obtain rfl : j = k := by omega
                  rw [HMG.out, HNH.out]
                  exact nd_of_alike HV.out fun q q1 q2 => HA2.out q q1 q2 (by omega)
        · have hyes : decide (G = H) = true := by
            simp only [decide_eq_true_eq]
            exact List.ext_getElem (by rw [HN.out, HM.out]) fun j j1 j2 => HA.out j j1 j2 (by rw [HN.out] at j1; omega)
          have HY := Lib.hid hyes
          clear hyes
          go_wp2
          go_ret
          exact ⟨retB (by rw [HF.out, HY.out]), X0.out.trans' HX.out⟩
    · have e2 : ((N : Int) != (M : Int)) = true := by simp; omega
      have hno : decide (ra = rb ∧ G = H) = false := by
        simp only [decide_eq_false_iff_not]
        rintro ⟨_, e⟩
        exact h2 (by rw [← hN, ← hM, e])
      have HNO := Lib.hid hno
      clear hno h1 h2 hN hM
      go_enter Tryz.func21, Tryz.ntmps21
      go_wp2
      go_ret
      exact ⟨retB (by rw [HNO.out]), ((Ext.rfl' _).alloc _).alloc _⟩
  · have e1 : (ra != rb) = true := by simp [h1]
    have hno : decide (ra = rb ∧ G = H) = false := by simp [h1]
    have HNO := Lib.hid hno
    clear hno h1 hN hM
    go_enter Tryz.func21, Tryz.ntmps21
    go_wp2
    go_ret
    exact ⟨retB (by rw [HNO.out]), ((Ext.rfl' _).alloc _).alloc _⟩
end Go.Proofs.YtnleljpebnnhfaaGreatDoor

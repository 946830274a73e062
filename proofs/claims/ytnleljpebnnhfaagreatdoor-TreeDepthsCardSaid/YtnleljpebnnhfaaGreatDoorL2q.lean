/- A tree that comes in, opened. -/
import Derived.Test.YtnleljpebnnhfaaGreatDoorZd
import Derived.Test.YtnleljpebnnhfaaGreatDoorZc
import Derived.Lib.SmallJoins
import Derived.Deep.Slices
import Derived.Deep.Fields
import Derived.ChangeSame
import Derived.ChangeSlices
import Derived.Carry
set_option linter.unusedSimpArgs false
set_option linter.unusedVariables false
namespace Go.Proofs.YtnleljpebnnhfaaGreatDoor
open Go.Joins Go.ChangeShapes Go.WideShapes Go.RowKit Go.Deep
section
variable {H : Type} {enc : TypeId × Value → H} {P : Program} {w : World} {base : Nat} {spare : Nat → Bool} {held : Bool}
theorem open_slice_fields {t e : TypeId} {fs : Array Field} {fuel : Nat} {cs : List Value} {x : DataW H × List MemPlace} (ht : P.underlying t = some (.slice e)) (he : P.underlying e = some (.struct fs))
    (hone : oneCellFields P fs = true) (hC : P.cellsOf e = fs.size) (h : DataW.trod enc P w base spare held fuel t cs = some x) :
    (cs = [.slice none 0 0] ∧ x = (.nil, [])) ∨
    ∃ (a : Addr) (len cap m : Nat) (D : Nat → DataW H) (Pl : List MemPlace), cs = [.slice (some a) len cap] ∧ len ≤ cap ∧ cap ≤ maxLen ∧ m = (if spare a.block then cap else len) ∧
      x = (.slice ((List.range len).map D) ((List.range (m - len)).map fun j => D (len + j)), Pl) ∧
      ∀ i, i < m → ∃ (ys : List (DataW H × List MemPlace)) (n : Nat), D i = .agg (ys.map (·.1)) ∧ ys.length = fs.size ∧ ∀ (j : Nat) (f : Field), fs[j]? = some f → ∃ (v : Value) (y : DataW H × List MemPlace), w.cell? (a.add (i * fs.size + j)) = some v ∧ ys[j]? = some y ∧ DataW.trod enc P w base spare held n f.type [v] = some y := by
  rcases open_slice ht h with h0 | ⟨a, len, cap, m, n, D, Pl, hcs, hb, hl, hm, hmm, hx, hi⟩
  · exact .inl h0
  · refine .inr ⟨a, len, cap, m, D, _, hcs, hl, hm, hmm, hx, fun i him => ?_⟩
    obtain ⟨cs', hc, ht'⟩ := hi i him
    rw [hC] at hc
    obtain ⟨ys, n', hn', hy, hlen, hyl, hf⟩ := DataW.trod_struct he ht'
    obtain ⟨_, hcl, hat⟩ := World.cells?_some hc
    simp only [Prod.mk.injEq] at hy
    refine ⟨ys, n', hy.1, hyl, fun j f hj => ?_⟩
    obtain ⟨ho, hk⟩ := hone_of hone j f hj
    have hjl : j < fs.size := (Array.getElem?_eq_some_iff.1 hj).1
    have hcell := hat j hjl
    have hv : cs'[j]? = some (cs'[j]'(by omega)) := List.getElem?_eq_getElem (by omega)
    have h1 := hf j f hj
    rw [ho, hk] at h1
    have hone' : (cs'.drop j).take 1 = [cs'[j]'(by omega)] := by
      rw [List.drop_eq_getElem_cons (by omega)]
      rfl
    rw [hone'] at h1
    have hys : ys[j]? = some (ys[j]'(by omega)) := List.getElem?_eq_getElem (by omega)
    refine ⟨_, _, ?_, hys, h1.trans hys⟩
    rw [← Go.Deep.add_add, hcell, hv]
end
theorem weights_mem_all {H : Type} {P : Program} {e : TypeId} : ∀ {l : List (DataW H)} {d : DataW H}, d ∈ l → ∀ n ∈ d.weights P e, n ∈ DataW.weightsAll P e l
  | a :: l, d, hd, n, hn => by
    simp only [DataW.weightsAll, List.mem_append]
    rcases List.mem_cons.1 hd with rfl | h
    · exact .inl hn
    · exact .inr (weights_mem_all h n hn)
theorem cells46 : Tryz.prog.cellsOf 46 = 4 := by kernel_rfl
theorem cells24' : Tryz.prog.cellsOf 24 = 2 := by kernel_rfl
theorem cells3' : Tryz.prog.cellsOf 3 = 1 := by kernel_rfl
theorem laidOut : laidOutB Tryz.prog = true := by kernel_rfl
theorem bytes46 : Tryz.prog.bytesOf 46 = 56 := by kernel_rfl
theorem bytes3 : Tryz.prog.bytesOf 3 = 8 := by kernel_rfl
theorem reach_le : reachBytes ≤ 140737488355328 := of_decide_eq_true (by kernel_rfl)
theorem int_wf {n : Int} (h : (Lit.int .i64 n).wf = true) : -9223372036854775808 ≤ n ∧ n ≤ 9223372036854775807 := by
  simp only [Lit.wf, Bool.and_eq_true, decide_eq_true_eq] at h
  have e1 : IntKind.min .i64 = -9223372036854775808 := by kernel_rfl
  have e2 : IntKind.max .i64 = 9223372036854775807 := by kernel_rfl
  rw [e1, e2] at h
  exact h
section
variable {H : Type} {enc : TypeId × Value → H} {w : World}
theorem spot_none {w : World} {a : Addr} {v : Value} (h : w.cell? a = some v) : ∃ b o, a = ⟨b, o, none⟩ := by
  obtain ⟨b, o, s⟩ := a
  cases s with
  | none => exact ⟨b, o, rfl⟩
  | some s =>
    simp only [World.cell?] at h
    split at h
    · simp at h
    · cases h
/-- The arguments of a node. -/
theorem open_args {fuel : Nat} {v : Value} {y : DataW H × List MemPlace} (h : DataW.trod enc Tryz.prog w 0 (fun _ => true) true fuel 44 [v] = some y) (hw : ∀ n ∈ y.1.weights Tryz.prog 44, n ≤ reachBytes) :
    ∃ (A : Option Addr) (c : Nat) (xs : List Int), v = .slice A xs.length c ∧ xs.length ≤ c ∧ Rd iv w A xs := by
  rcases open_ints Tryz.underlying44 Tryz.underlying3 cells3' h with ⟨h0, _⟩ | ⟨a, len, cap, zs, h0, _, hl, hm, hz, hx, hc, hwf⟩
  · simp only [List.cons.injEq, and_true] at h0
    exact ⟨none, 0, [], by simpa using h0, by simp, Rd.nil _ _ _⟩
  · simp only [List.cons.injEq, and_true] at h0
    simp only [if_true] at hz
    have hlen : (zs.take len).length = len := by rw [List.length_take]; omega
    subst hx
    have hb := hw (((lits (H := H) .i64 (zs.take len)).length + (lits (H := H) .i64 (zs.drop len)).length) * Tryz.prog.bytesOf 3) (by simp [DataW.weights, Tryz.underlying44])
    rw [bytes3] at hb
    simp only [lits, List.length_map, List.length_take, List.length_drop] at hb
    have hml := reach_le
    refine ⟨some a, cap, zs.take len, by rw [hlen]; exact h0, by omega, by omega, fun hp => ?_⟩
    have h1 := hc 0 (by omega)
    obtain ⟨b, o, e⟩ := spot_none (a := a) (by simpa [Addr.add] using h1)
    subst e
    refine ⟨b, o, rfl, fun j hj => ?_⟩
    have hj2 : j < zs.length := by rw [hlen] at hj; omega
    have h2 := hc j hj2
    have e1 : (⟨b, o, none⟩ : Addr).add j = ⟨b, o + j, none⟩ := by
      unfold Addr.add
      split
      · rename_i e; subst e; rfl
      · rfl
    rw [e1] at h2
    rw [h2]
    simp [List.getD, hj2]

set_option maxRecDepth 100000 in
theorem open_tree {r : Reach} {b0 : Nat} {v : Value} {d : DataW H} {p : List MemPlace} (hv : Value.okWide Tryz.prog w r b0 24 v) (h : DataW.Trod enc Tryz.prog w 0 (fun _ => true) true 24 v d p) (hwt : ∀ n ∈ d.weights Tryz.prog 24, n ≤ reachBytes) :
    ∃ (A : Option Addr) (N c : Nat) (root : Int) (G : List Nd), v = .agg #[.slice A N c, .int .i64 root] ∧ G.length = N ∧ NdsRd w A G ∧ NR G ∧ root ≤ 9223372036854775807 := by
  obtain ⟨v0, v1, y0, y1, n, rfl, rfl, _, h0, h1⟩ := open_agg2 Tryz.underlying24 (by kernel_rfl) cells24' hv h
  obtain ⟨root, e1, _, hw⟩ := DataW.trod_int Tryz.underlying3 h1
  simp only [List.cons.injEq, and_true] at e1
  subst e1
  have hroot := int_wf hw
  have hwt0 : ∀ n ∈ y0.1.weights Tryz.prog 22, n ≤ reachBytes := fun n hn => hwt n (by
    simp only [DataW.weights, Tryz.underlying24]
    exact DataW.weights_mem_each (j := 0) (t := 22) rfl rfl n hn)
  rcases open_slice_fields Tryz.underlying22 Tryz.underlying46 (by kernel_rfl) cells46 h0 with ⟨e0, _⟩ | ⟨a, len, cap, m, D, Pl, e0, hl, hm, hmm, hx, hi⟩
  · simp only [List.cons.injEq, and_true] at e0
    subst e0
    exact ⟨none, 0, 0, root, [], rfl, rfl, NdsRd.nil _ _, (by intro n hn; exact absurd hn (by simp)), hroot.2⟩
  · simp only [List.cons.injEq, and_true] at e0
    subst e0
    simp only [if_true] at hmm
    subst hmm
    subst hx
    have hb := hwt0 ((((List.range len).map D).length + ((List.range (m - len)).map fun j => D (len + j)).length) * Tryz.prog.bytesOf 46) (by simp [DataW.weights, Tryz.underlying22])
    rw [bytes46] at hb
    simp only [List.length_map, List.length_range] at hb
    have hml := reach_le
    have hwD : ∀ i, i < len → ∀ n ∈ (D i).weights Tryz.prog 46, n ≤ reachBytes := fun i hi n hn => hwt0 n (by
      simp only [DataW.weights, Tryz.underlying22, List.mem_cons, List.mem_append]
      exact .inr (.inl (weights_mem_all (List.mem_map.2 ⟨i, List.mem_range.2 hi, rfl⟩) n hn)))
    have key : ∀ i, i < len → ∃ n : Nd, (-9223372036854775808 ≤ n.num ∧ n.num ≤ 9223372036854775807) ∧ ∃ A c, w.cell? (a.add (i * 4)) = some (.int .i64 n.kind) ∧ w.cell? (a.add (i * 4 + 1)) = some (.int .i64 n.num) ∧ w.cell? (a.add (i * 4 + 2)) = some (.string n.label) ∧
        w.cell? (a.add (i * 4 + 3)) = some (.slice A n.args.length c) ∧ n.args.length ≤ c ∧ Rd iv w A n.args := by
      intro i hi'
      obtain ⟨ys, n, hD, hyl, hf⟩ := hi i (by omega)
      obtain ⟨u0, z0, c0, _, t0⟩ := hf 0 _ rfl
      obtain ⟨u1, z1, c1, _, t1⟩ := hf 1 _ rfl
      obtain ⟨u2, z2, c2, _, t2⟩ := hf 2 _ rfl
      obtain ⟨u3, z3, c3, y3, t3⟩ := hf 3 _ rfl
      have hw3 : ∀ n ∈ z3.1.weights Tryz.prog 44, n ≤ reachBytes := fun n hn => hwD i hi' n (by
        rw [hD]
        simp only [DataW.weights, Tryz.underlying46]
        exact DataW.weights_mem_each (j := 3) (t := 44) rfl (by simp [y3]) n hn)
      obtain ⟨k, e0, _, _⟩ := DataW.trod_int Tryz.underlying3 t0
      obtain ⟨q, e1, _, hq⟩ := DataW.trod_int Tryz.underlying3 t1
      obtain ⟨s, e2, _, _⟩ := DataW.trod_string Tryz.underlying9 t2
      obtain ⟨A, c, xs, e3, hc, hr⟩ := open_args t3 hw3
      simp only [List.cons.injEq, and_true] at e0 e1 e2
      subst e0; subst e1; subst e2; subst e3
      exact ⟨⟨k, q, s, xs⟩, int_wf hq, A, c, c0, c1, c2, c3, hc, hr⟩
    obtain ⟨G, hG⟩ : ∃ G : List Nd, G.length = len ∧ ∀ i (h : i < G.length), (-9223372036854775808 ≤ G[i].num ∧ G[i].num ≤ 9223372036854775807) ∧ ∃ A c, w.cell? (a.add (i * 4)) = some (.int .i64 G[i].kind) ∧ w.cell? (a.add (i * 4 + 1)) = some (.int .i64 G[i].num) ∧ w.cell? (a.add (i * 4 + 2)) = some (.string G[i].label) ∧
        w.cell? (a.add (i * 4 + 3)) = some (.slice A G[i].args.length c) ∧ G[i].args.length ≤ c ∧ Rd iv w A G[i].args := by
      refine ⟨(List.range len).map fun i => if h : i < len then Classical.choose (key i h) else default, by simp, fun i h => ?_⟩
      have hi' : i < len := by simpa using h
      simp only [List.getElem_map, List.getElem_range, dif_pos hi']
      exact Classical.choose_spec (key i hi')
    refine ⟨some a, len, m, root, G, rfl, hG.1, ⟨by omega, fun hp => ?_⟩, fun n hn => ?_, hroot.2⟩
    · obtain ⟨_, A0, c0, h0, _⟩ := hG.2 0 hp
      obtain ⟨b, o, e⟩ := spot_none (a := a) (by simpa [Addr.add] using h0)
      subst e
      have e1 : ∀ j, (⟨b, o, none⟩ : Addr).add j = ⟨b, o + j, none⟩ := fun j => by
        unfold Addr.add
        split
        · rename_i e; subst e; rfl
        · rfl
      refine ⟨b, o, rfl, fun j hj => ?_⟩
      obtain ⟨_, A1, c1, g0, g1, g2, g3, g4, g5⟩ := hG.2 j hj
      rw [e1] at g0 g1 g2 g3
      exact ⟨A1, c1, g0, by rw [Nat.add_assoc]; exact g1, by rw [Nat.add_assoc]; exact g2, by rw [Nat.add_assoc]; exact g3, g4, g5⟩
    · obtain ⟨i, hi', rfl⟩ := List.mem_iff_getElem.1 hn
      exact (hG.2 i hi').1
end
end Go.Proofs.YtnleljpebnnhfaaGreatDoor

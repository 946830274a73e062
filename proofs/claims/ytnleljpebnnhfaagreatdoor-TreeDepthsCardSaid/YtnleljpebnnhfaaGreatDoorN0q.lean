/- Plain laws: cuts down to 12 tell small trees apart; a cut ends. -/
import Derived.Test.YtnleljpebnnhfaaGreatDoorZb
import Derived.Test.YtnleljpebnnhfaaGreatDoorZj
set_option linter.unusedSimpArgs false
set_option linter.unusedVariables false
namespace Go.Proofs.YtnleljpebnnhfaaGreatDoor
section
variable {n : Nat} {D : Nat → List Nat → Option Top} {kd : Nat → List Nat}
/-- The same on all ways of at most k steps. -/
def Eqv (D : Nat → List Nat → Option Top) (k i j : Nat) : Prop := ∀ p, p.length ≤ k → D i p = D j p
theorem Eqv.symm {k i j : Nat} (h : Eqv D k i j) : Eqv D k j i := fun p hp => (h p hp).symm
theorem Eqv.trans {k i j l : Nat} (h : Eqv D k i j) (h' : Eqv D k j l) : Eqv D k i l := fun p hp => (h p hp).trans (h' p hp)
theorem Eqv.weak {k i j : Nat} (h : Eqv D (k + 1) i j) : Eqv D k i j := fun p hp => h p (by omega)
variable (h0 : ∀ i, i < n → ∃ t, D i [] = some t) (h1 : ∀ i k p, i < n → D i (k :: p) = match (kd i)[k]? with | some j => D j p | none => none) (hk : ∀ i, i < n → ∀ j ∈ kd i, j < n)
include h0 h1 hk
/-- Somewhere the relation splits at step d. -/
def Splits (n : Nat) (D : Nat → List Nat → Option Top) (d : Nat) : Prop := ∃ i j, i < n ∧ j < n ∧ Eqv D d i j ∧ ¬ Eqv D (d + 1) i j
theorem splits_down {d : Nat} (h : Splits n D (d + 1)) : Splits n D d := by
  obtain ⟨i, j, hi, hj, he, hn⟩ := h
  obtain ⟨p, hp, hne⟩ : ∃ p : List Nat, p.length ≤ d + 1 + 1 ∧ D i p ≠ D j p := by
    exact Classical.byContradiction fun hc => hn fun p hp => Classical.byContradiction fun hne => hc ⟨p, hp, hne⟩
  cases p with
  | nil => exact absurd (he [] (by simp)) hne
  | cons k q =>
    have e1 := he [k] (by simp)
    have e2 : ∀ r : List Nat, r.length ≤ d → D i (k :: r) = D j (k :: r) := fun r hr => he _ (by simp; omega)
    rw [h1 i k [] hi, h1 j k [] hj] at e1
    rw [h1 i k q hi, h1 j k q hj] at hne
    cases hx : (kd i)[k]? with
    | none =>
      cases hy : (kd j)[k]? with
      | none => rw [hx, hy] at hne; exact absurd rfl hne
      | some b =>
        rw [hx, hy] at e1
        have hb := hk j hj b (List.mem_of_getElem? hy)
        obtain ⟨t, ht⟩ := h0 b hb
        simp [ht] at e1
    | some a =>
      have ha := hk i hi a (List.mem_of_getElem? hx)
      cases hy : (kd j)[k]? with
      | none =>
        rw [hx, hy] at e1
        obtain ⟨t, ht⟩ := h0 a ha
        simp [ht] at e1
      | some b =>
        have hb := hk j hj b (List.mem_of_getElem? hy)
        rw [hx, hy] at hne
        refine ⟨a, b, ha, hb, fun r hr => ?_, fun hh => hne (hh q (by simp at hp; omega))⟩
        have := e2 r hr
        rw [h1 i k r hi, h1 j k r hj, hx, hy] at this
        exact this
omit h0 h1 hk
open Classical in
/-- The first of its class. -/
noncomputable def isFirst (D : Nat → List Nat → Option Top) (k i : Nat) : Bool := decide (∀ j, j < i → ¬ Eqv D k j i)
noncomputable def count (n : Nat) (D : Nat → List Nat → Option Top) (k : Nat) : Nat := ((List.range n).filter (isFirst D k)).length
theorem isFirst_iff {k i : Nat} : isFirst D k i = true ↔ ∀ j, j < i → ¬ Eqv D k j i := by simp [isFirst]
theorem isFirst_mono {k i : Nat} (h : isFirst D k i = true) : isFirst D (k + 1) i = true := by
  rw [isFirst_iff] at h ⊢
  exact fun j hj he => h j hj he.weak
theorem least_of {k i : Nat} : ∃ a, a ≤ i ∧ Eqv D k a i ∧ isFirst D k a = true := by
  induction i using Nat.strongRecOn with
  | _ i ih =>
    by_cases h : ∃ j, j < i ∧ Eqv D k j i
    · obtain ⟨j, hj, he⟩ := h
      obtain ⟨a, h1, h2, h3⟩ := ih j hj
      exact ⟨a, by omega, h2.trans he, h3⟩
    · exact ⟨i, Nat.le_refl _, fun _ _ => rfl, isFirst_iff.2 fun j hj he => h ⟨j, hj, he⟩⟩
theorem filter_lt {p q : Nat → Bool} : ∀ (l : List Nat), (∀ x ∈ l, p x = true → q x = true) → (∃ x ∈ l, q x = true ∧ p x = false) → (l.filter p).length < (l.filter q).length
  | [], _, ⟨x, hx, _⟩ => by cases hx
  | a :: l, hpq, ⟨x, hx, h1, h2⟩ => by
    have hle : (l.filter p).length ≤ (l.filter q).length := by
      have : ∀ l : List Nat, (∀ x ∈ l, p x = true → q x = true) → (l.filter p).length ≤ (l.filter q).length := by
        intro l
        induction l with
        | nil => intro _; simp
        | cons b l ih =>
          intro h
          have := ih fun x hx => h x (by simp [hx])
          have hb := h b (by simp)
          cases hp : p b <;> cases hq : q b <;> simp_all <;> omega
      exact this l fun x hx => hpq x (by simp [hx])
    rcases List.mem_cons.1 hx with rfl | hx
    · simp [h1, h2]; omega
    · have := filter_lt l (fun x hx => hpq x (by simp [hx])) ⟨x, hx, h1, h2⟩
      have ha := hpq a (by simp)
      cases hp : p a <;> cases hq : q a <;> simp_all <;> omega
theorem count_lt {k : Nat} (h : Splits n D k) : count n D k < count n D (k + 1) := by
  obtain ⟨i, j, hi, hj, he, hn⟩ := h
  obtain ⟨a, a1, a2, a3⟩ := least_of (D := D) (k := k + 1) (i := i)
  obtain ⟨b, b1, b2, b3⟩ := least_of (D := D) (k := k + 1) (i := j)
  have hab : a ≠ b := fun e => hn ((a2.symm).trans (by rw [e]; exact b2))
  have hk : Eqv D k a b := (a2.weak.trans he).trans b2.weak.symm
  refine filter_lt _ (fun x _ hx => isFirst_mono hx) ?_
  rcases Nat.lt_or_ge a b with h | h
  · refine ⟨b, List.mem_range.2 (by omega), b3, ?_⟩
    cases hf : isFirst D k b with
    | false => rfl
    | true => exact absurd hk (isFirst_iff.1 hf a h)
  · refine ⟨a, List.mem_range.2 (by omega), a3, ?_⟩
    cases hf : isFirst D k a with
    | false => rfl
    | true => exact absurd hk.symm (isFirst_iff.1 hf b (by omega))
theorem count_le (k : Nat) : count n D k ≤ n := Nat.le_trans (List.length_filter_le _ _) (by simp)
theorem count_pos (hn : 0 < n) (k : Nat) : 0 < count n D k := by
  unfold count
  rw [List.length_pos_iff_exists_mem]
  exact ⟨0, List.mem_filter.2 ⟨List.mem_range.2 hn, isFirst_iff.2 fun j hj => by omega⟩⟩
include h0 h1 hk
theorem splits_le {d : Nat} (h : Splits n D d) : d + 2 ≤ n := by
  have key : ∀ m, m ≤ d → Splits n D m := by
    intro m hm
    obtain ⟨e, rfl⟩ : ∃ e, d = m + e := ⟨d - m, by omega⟩
    clear hm
    induction e with
    | zero => exact h
    | succ e ih => exact ih (splits_down h0 h1 hk h)
  have hn : 0 < n := by obtain ⟨i, _, hi, _⟩ := h; omega
  have hc : ∀ m, m ≤ d + 1 → m + 1 ≤ count n D m := by
    intro m
    induction m with
    | zero => intro _; exact count_pos hn 0
    | succ m ih =>
      intro hm
      have := ih (by omega)
      have := count_lt (key m (by omega))
      omega
  have := hc (d + 1) (Nat.le_refl _)
  have := count_le (n := n) (D := D) (d + 1)
  omega
theorem eqv_all {i j k : Nat} (hi : i < n) (hj : j < n) (hn : n ≤ k + 1) (h : Eqv D k i j) : D i = D j := by
  have : ∀ d, Eqv D (k + d) i j := by
    intro d
    induction d with
    | zero => exact h
    | succ d ih =>
      refine Classical.byContradiction fun hc => ?_
      have := splits_le h0 h1 hk (d := k + d) ⟨i, j, hi, hj, ih, hc⟩
      omega
  funext p
  exact this p.length p (by omega)
end
/-- Two small trees that are the same on all ways of at most 11 steps are the same. -/
theorem cuts_same {G H : List Nd} (hG : VG G) (hH : VG H) {i j : Nat} (hi : i < G.length) (hj : j < H.length) (hn : G.length + H.length ≤ 12) (h : ∀ p : List Nat, p.length ≤ 11 → den G i p = den H j p) : den G i = den H j := by
  have e := eqv_all (n := G.length + H.length) (D := fun x => if x < G.length then den G x else den H (x - G.length)) (kd := fun x => if x < G.length then kids G x else (kids H (x - G.length)).map (· + G.length)) (k := 11)
    (i := i) (j := j + G.length) ?_ ?_ ?_ (by omega) (by omega) (by omega) ?_
  · have h2 : ¬ j + G.length < G.length := by omega
    simp only [hi, if_true, h2, if_false, Nat.add_sub_cancel] at e
    exact e
  · intro x hx
    by_cases hc : x < G.length
    · exact ⟨_, by simp only [hc, if_true]; rfl⟩
    · exact ⟨_, by simp only [hc, if_false]; rfl⟩
  · intro x k p hx
    by_cases hc : x < G.length
    · simp only [hc, if_true, den_cons]
      cases hy : (kids G x)[k]? with
      | none => rfl
      | some a =>
        have := hG.kids hc (List.mem_of_getElem? hy)
        simp [this]
    · simp only [hc, if_false, den_cons, List.getElem?_map]
      cases hy : (kids H (x - G.length))[k]? with
      | none => rfl
      | some a =>
        have h3 : ¬ a + G.length < G.length := by omega
        simp [h3]
  · intro x hx y hy
    by_cases hc : x < G.length
    · simp only [hc, if_true] at hy
      have := hG.kids hc hy
      omega
    · simp only [hc, if_false] at hy
      obtain ⟨a, ha, rfl⟩ := List.mem_map.1 hy
      have := hH.kids (i := x - G.length) (by omega) ha
      omega
  · intro p hp
    have h2 : ¬ j + G.length < G.length := by omega
    simp only [hi, if_true, h2, if_false, Nat.add_sub_cancel]
    exact h p hp
theorem wf_of_short {G : List Nd} (hG : VG G) : ∀ (d i : Nat), i < G.length → (∀ p : List Nat, d < p.length → den G i p = none) → Wf G i := by
  intro d
  induction d with
  | zero =>
    intro i hi h
    refine ⟨fun j hj => ?_⟩
    obtain ⟨k, hk, rfl⟩ := List.mem_iff_getElem.1 hj
    have := h [k] (by simp)
    rw [den_cons, List.getElem?_eq_getElem hk] at this
    cases this
  | succ d ih =>
    intro i hi h
    refine ⟨fun j hj => ?_⟩
    have hjl := hG.kids hi hj
    obtain ⟨k, hk, rfl⟩ := List.mem_iff_getElem.1 hj
    refine ih _ hjl fun p hp => ?_
    have := h (k :: p) (by simp; omega)
    rw [den_cons, List.getElem?_eq_getElem hk] at this
    exact this
end Go.Proofs.YtnleljpebnnhfaaGreatDoor

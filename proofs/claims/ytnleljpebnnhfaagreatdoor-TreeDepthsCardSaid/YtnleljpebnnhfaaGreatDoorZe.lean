/- Maps; classes. -/
import Derived.Test.YtnleljpebnnhfaaGreatDoorZa
import Derived.IntWalk
import Derived.Maps.OwnOps
import Derived.Maps.OwnSet
import Derived.WideKeyPair
import Derived.DeepKeys4
import Derived.Test.YtnleljpebnnhfaaGreatDoorZb

set_option linter.unusedSimpArgs false
set_option linter.unusedVariables false
namespace Go.Proofs.YtnleljpebnnhfaaGreatDoor
open Go.RowKit
/-- Block b is just this row of ints. -/
def Row (W : World) (b : Nat) (d : List Int) : Prop := W.heap[b]? = some (.cells (d.map iv).toArray 3 (0, 0))
/-- Only block b may have turned, and blocks may have been made. -/
structure Chg (b : Nat) (w w' : World) : Prop where
  os : w'.os = w.os
  tape : w'.tape = w.tape
  output : w'.output = w.output
  size : w.heap.size ≤ w'.heap.size
  block : ∀ k, k < w.heap.size → k ≠ b → w'.heap[k]? = w.heap[k]?
theorem Chg.refl (b : Nat) (w : World) : Chg b w w := ⟨rfl, rfl, rfl, Nat.le_refl _, fun _ _ _ => rfl⟩
theorem Chg.trans {b : Nat} {a c d : World} (h : Chg b a c) (k : Chg b c d) : Chg b a d :=
  ⟨k.os.trans h.os, k.tape.trans h.tape, k.output.trans h.output, Nat.le_trans h.size k.size, fun i hi hb => (k.block i (Nat.lt_of_lt_of_le hi h.size) hb).trans (h.block i hi hb)⟩
theorem Chg.drew {b : Nat} {a c : World} (h : Chg b a c) : Chg b a c.drew := ⟨h.os, h.tape, h.output, h.size, h.block⟩
theorem Chg.ext {b : Nat} {a c d : World} (h : Chg b a c) (k : Ext c d) : Chg b a d := h.trans ⟨k.os, k.tape, k.output, k.size, fun i hi _ => k.block i hi⟩
theorem Chg.set {b : Nat} {a c : World} (h : Chg b a c) (i : Nat) (v : Value) : Chg b a (c.setCell ⟨b, i, none⟩ v) :=
  h.trans ⟨rfl, rfl, rfl, by simp [World.setCell], fun k hk hb => Below.heap_setCell _ _ _ _ hb⟩
theorem Chg.below {b : Nat} {a c : World} (h : Chg b a c) {B : Nat} (hB : B ≤ b) (hs : B ≤ a.heap.size) : Below B a c :=
  ⟨h.os, h.tape, h.output, h.size, fun k hk => h.block k (by omega) (by omega)⟩
theorem Row.lt {W : World} {b : Nat} {d : List Int} (h : Row W b d) : b < W.heap.size := (Array.getElem?_eq_some_iff.1 h).1
theorem Row.cell {W : World} {b : Nat} {d : List Int} (h : Row W b d) (i : Nat) (hi : i < d.length) : W.cell? ⟨b, i, none⟩ = some (.int .i64 (gt d i)) := by
  have hb : W.heap[b]? = _ := h
  simp [World.cell?, hb, List.getElem?_eq_getElem hi, gt_eq]
theorem Row.frozen {W : World} {b : Nat} {d : List Int} (h : Row W b d) (i : Nat) : W.frozen? ⟨b, i, none⟩ = false := by
  have hb : W.heap[b]? = _ := h
  simp [World.frozen?, hb]
theorem Row.set {W : World} {b : Nat} {d : List Int} (h : Row W b d) (i : Nat) (x : Int) : Row (W.setCell ⟨b, i, none⟩ (.int .i64 x)) b (d.set i x) := by
  have hb : W.heap[b]? = _ := h
  unfold Row
  simp [World.setCell, Array.getElem?_modify, hb, List.map_set]
theorem Row.drew {W : World} {b : Nat} {d : List Int} (h : Row W b d) : Row W.drew b d := h
theorem Row.ext {W W' : World} {b : Nat} {d : List Int} (h : Row W b d) (k : Ext W W') : Row W' b d := k.heap h
theorem Row.swap {W : World} {b : Nat} {d : List Int} (h : Row W b d) (i j : Nat) : Row ((W.setCell ⟨b, i, none⟩ (.int .i64 (gt d j))).setCell ⟨b, j, none⟩ (.int .i64 (gt d i))) b (swapL d i j) := (h.set i _).set j _
theorem frozen_set {W : World} {b i j : Nat} {v : Value} (h : W.frozen? ⟨b, j, none⟩ = false) : (W.setCell ⟨b, i, none⟩ v).frozen? ⟨b, j, none⟩ = false := by
  have := h
  simp only [World.frozen?, World.setCell, Array.getElem?_modify] at *
  cases hb : W.heap[b]? with
  | none => simp [hb]
  | some o => cases o <;> simp_all
set_option maxRecDepth 100000 in
set_option maxHeartbeats 1000000 in
theorem swapRange_any (f : Value) (d : List Int) (N b c a m n : Nat) (w : World) (hr : Row w b d) (hN : d.length = N) (h1 : a + n ≤ m) (h2 : m + n ≤ N) (h3 : N ≤ 140737488355328) :
    Calls Tryz.prog 151 #[.slice (some ⟨b, 0, none⟩) N c, .int .i64 a, .int .i64 m, .int .i64 n, f] w
      fun e w' => e = .returned (.tuple #[]) ∧ ∃ d', Row w' b d' ∧ Chg b w w' ∧ IsSwapR d d' a m n ∧ PermOn a (m + n) d d' := by
  subst hN
  have HR := Lib.hid hr; clear hr
  go_enter Tryz.func151, Tryz.ntmps151
  go_wp2
  go_loopw [10] (fun i wr => ∃ k : Nat, k ≤ n ∧ i = .int .i64 k ∧ ∃ d', Row wr b d' ∧ Chg b w wr ∧ IsSwapR d d' a m k ∧ PermOn a (m + n) d d') (fun i _ => n - (intOf i).toNat)
  case atStart => exact ⟨0, by omega, rfl, d, HR.out, Chg.refl _ _, isSwapR_zero _ _ _, PermOn.refl _ _ _⟩
  case round =>
    obtain ⟨k, hk, rfl, d', r1, r2, r3, r4⟩ := hrel
    have hlen := r3.1
    by_cases hlt : k < n
    · have c1 := r1.cell (a + k) (by omega)
      have c2 := r1.cell (m + k) (by omega)
      have f1 := r1.frozen (a + k)
      have f2 := r1.frozen (m + k)
      have f3 : ∀ v, (wr.setCell ⟨b, a + k, none⟩ v).frozen? ⟨b, m + k, none⟩ = false := fun v => frozen_set f2
      have e1 : IntKind.i64.wrap ((a : Int) + k) = (a : Int) + k := IntWalk.i64_in _ (by omega)
      have e2 : IntKind.i64.wrap ((m : Int) + k) = (m : Int) + k := IntWalk.i64_in _ (by omega)
      have n1 : (0 : Int) ≤ (a : Int) + k := by omega
      have n2 : (0 : Int) ≤ (m : Int) + k := by omega
      have n3 : (a : Int) + k < d.length := by omega
      have n4 : (m : Int) + k < d.length := by omega
      have t1 : ((a : Int) + k).toNat = a + k := by omega
      have t2 : ((m : Int) + k).toNat = m + k := by omega
      have R1 := Lib.hid r1
      have R2 := Lib.hid r2
      have R3 := Lib.hid r3
      have R4 := Lib.hid r4
      have HL := Lib.hid hlen
      clear r1 r2 r3 r4 hlen
      go_wp2
      go_region
      go_wp2
      have hsw : Row ((wr.setCell ⟨b, a + k, none⟩ (.int .i64 (gt d' (m + k)))).setCell ⟨b, m + k, none⟩ (.int .i64 (gt d' (a + k)))) b (swapL d' (a + k) (m + k)) := R1.out.swap _ _
      refine ⟨⟨k + 1, by omega, by go_num, swapL d' (a + k) (m + k), hsw.drew, ((R2.out.set _ _).set _ _).drew, R3.out.step (by omega) (by omega), R4.out.trans (PermOn.swap _ _ _ _ _ ?_ ?_ (by omega) (by omega) (by omega) (by omega))⟩, by simp [intOf]; omega⟩
      · have := HL.out; omega
      · have := HL.out; omega
    · obtain rfl : k = n := by omega
      have R1 := Lib.hid r1
      have R2 := Lib.hid r2
      have R3 := Lib.hid r3
      have R4 := Lib.hid r4
      clear r1 r2 r3 r4 hlen
      go_wp2
      go_end0
      exact ⟨rfl, d', R1.out, R2.out, R3.out, R4.out⟩
set_option maxHeartbeats 1000000 in
theorem rotate_any (f : Value) (d : List Int) (N b c a m e : Nat) (w : World) (hr : Row w b d) (hN : d.length = N) (h0 : a < m) (h1 : m < e) (h2 : e ≤ N) (h3 : N ≤ 140737488355328) :
    Calls Tryz.prog 141 #[.slice (some ⟨b, 0, none⟩) N c, .int .i64 a, .int .i64 m, .int .i64 e, f] w
      fun ed w' => ed = .returned (.tuple #[]) ∧ ∃ d', Row w' b d' ∧ Chg b w w' ∧ IsRot d d' a m e ∧ PermOn a e d d' := by
  have HN := Lib.hid hN
  have hN' : d.length ≤ N := by omega
  have HR := Lib.hid hr; clear hr hN
  go_enter Tryz.func141, Tryz.ntmps141
  go_wp2
  go_loopw [10, 11] (fun vi vj wr => ∃ i j : Nat, 0 < i ∧ 0 < j ∧ i ≤ m - a ∧ j ≤ e - m ∧ vi = .int .i64 i ∧ vj = .int .i64 j ∧ ∃ d1, Row wr b d1 ∧ Chg b w wr ∧ PermOn a e d d1 ∧ (∀ d', IsRot d1 d' (m - i) m (m + j) → IsRot d d' a m e)) (fun vi vj _ => (intOf vi).toNat + (intOf vj).toNat)
  case atStart =>
    refine ⟨m - a, e - m, by omega, by omega, by omega, by omega, ?_, ?_, d, HR.out, Chg.refl _ _, PermOn.refl _ _ _, fun d' h => ?_⟩
    · congr 1; omega
    · congr 1; omega
    · rwa [show m - (m - a) = a by omega, show m + (e - m) = e by omega] at h
  case round =>
    obtain ⟨i, j, hi0, hj0, hi, hj, rfl, rfl, d1, r1, r2, r3, r4⟩ := hrel
    have hlen := r3.1
    have HL := Lib.hid hlen
    have R1 := Lib.hid r1
    have R2 := Lib.hid r2
    have R3 := Lib.hid r3
    have R4 := Lib.hid r4
    clear r1 r2 r3 r4 hlen
    have HL' : Hid (d1.length = N) := HL.out.trans HN.out
    rcases Nat.lt_trichotomy i j with hij | hij | hij
    · have g1 : ((i : Int) != j) = true := by simp; omega
      go_wp2_with fail
      rw [show ((m : Int) - i) = ((m - i : Nat) : Int) by omega, show ((m : Int) + j - i) = ((m + j - i : Nat) : Int) by omega]
      refine (swapRange_any f d1 N b c (m - i) (m + j - i) i _ R1.out HL'.out (by omega) (by omega) h3).mono ?_
      rintro ed w1 ⟨rfl, d2, q1, q2, q3, q4⟩
      have Q1 := Lib.hid q1
      have Q2 := Lib.hid q2
      have Q3 := Lib.hid q3
      have Q4 := Lib.hid q4
      clear q1 q2 q3 q4
      go_wp2
      refine ⟨⟨i, j - i, by omega, by omega, by omega, by omega, rfl, ?_, d2, Q1.out, R2.out.trans Q2.out, R3.out.trans (Q4.out.widen (by omega) (by omega)), fun d' h => R4.out d' (isRot_right Q3.out (by omega) hij h)⟩, by simp [intOf]; omega⟩
      congr 1; omega
    · subst hij
      have g1 : ((i : Int) != i) = false := by simp
      go_wp2_with fail
      rw [show ((m : Int) - i) = ((m - i : Nat) : Int) by omega]
      refine (swapRange_any f d1 N b c (m - i) m i _ R1.out HL'.out (by omega) (by omega) h3).mono ?_
      rintro ed w1 ⟨rfl, d2, q1, q2, q3, q4⟩
      have Q1 := Lib.hid q1
      have Q2 := Lib.hid q2
      have Q3 := Lib.hid q3
      have Q4 := Lib.hid q4
      clear q1 q2 q3 q4
      go_wp2
      go_end0
      exact ⟨rfl, d2, Q1.out, R2.out.trans Q2.out, R4.out _ (isRot_of_swap Q3.out (by omega)), R3.out.trans (Q4.out.widen (by omega) (by omega))⟩
    · have g1 : ((i : Int) != j) = true := by simp; omega
      go_wp2_with fail
      rw [show ((m : Int) - i) = ((m - i : Nat) : Int) by omega]
      refine (swapRange_any f d1 N b c (m - i) m j _ R1.out HL'.out (by omega) (by omega) h3).mono ?_
      rintro ed w1 ⟨rfl, d2, q1, q2, q3, q4⟩
      have Q1 := Lib.hid q1
      have Q2 := Lib.hid q2
      have Q3 := Lib.hid q3
      have Q4 := Lib.hid q4
      clear q1 q2 q3 q4
      go_wp2
      refine ⟨⟨i - j, j, by omega, by omega, by omega, by omega, ?_, rfl, d2, Q1.out, R2.out.trans Q2.out, R3.out.trans (Q4.out.widen (by omega) (by omega)), fun d' h => R4.out d' (isRot_left Q3.out (by omega) hij h)⟩, by simp [intOf]; omega⟩
      congr 1; omega
end Go.Proofs.YtnleljpebnnhfaaGreatDoor

set_option linter.unusedSimpArgs false
set_option linter.unusedVariables false
namespace Go.Proofs.YtnleljpebnnhfaaGreatDoor
open Go.RowKit Go.MapKept
open Go.Maps (Keyed)
/-- How keys of a type are written as values. -/
structure KL (k : TypeId) {α : Type} (enc : α → Value) (ok : α → Prop) : Prop where
  keyed : Keyed Tryz.prog k
  lit : ∀ a, ok a → ∃ l, keyOf Tryz.prog k (enc a) = some l
  inj : ∀ a b, ok a → ok b → enc a = enc b → a = b
section
variable {α β : Type} [DecidableEq α]
def look (m : List (α × β)) (a : α) : Option β := (m.find? fun p => decide (p.1 = a)).map Prod.snd
def ins (m : List (α × β)) (a : α) (v : β) : List (α × β) := if (look m a).isSome then m.map (fun p => if p.1 = a then (p.1, v) else p) else m ++ [(a, v)]
def del (m : List (α × β)) (a : α) : List (α × β) := m.filter fun p => !decide (p.1 = a)
theorem look_nil (a : α) : look ([] : List (α × β)) a = none := rfl
theorem look_isSome {m : List (α × β)} {a : α} : (look m a).isSome = true ↔ a ∈ m.map Prod.fst := by
  simp [look, List.find?_isSome]
theorem look_none {m : List (α × β)} {a : α} : look m a = none ↔ a ∉ m.map Prod.fst := by
  rw [← look_isSome]; cases look m a <;> simp
theorem look_of_mem {m : List (α × β)} (hn : (m.map Prod.fst).Nodup) {a : α} {v : β} (h : (a, v) ∈ m) : look m a = some v := by
  induction m with
  | nil => cases h
  | cons p m ih =>
    rw [List.map_cons, List.nodup_cons] at hn
    rcases List.mem_cons.1 h with rfl | h
    · simp [look]
    · have hne : p.1 ≠ a := fun e => hn.1 (by rw [e]; exact List.mem_map.2 ⟨_, h, rfl⟩)
      have := ih hn.2 h
      simp only [look, List.find?_cons] at *
      rw [decide_eq_false hne]
      exact this
theorem mem_of_look {m : List (α × β)} {a : α} {v : β} (h : look m a = some v) : (a, v) ∈ m := by
  simp only [look, Option.map_eq_some_iff] at h
  obtain ⟨p, h1, rfl⟩ := h
  have h2 := List.find?_some h1
  have h3 := List.mem_of_find?_eq_some h1
  have : p.1 = a := by simpa using h2
  rw [← this]; exact h3
theorem ins_keys {m : List (α × β)} {a : α} {v : β} : (ins m a v).map Prod.fst = if (look m a).isSome then m.map Prod.fst else m.map Prod.fst ++ [a] := by
  unfold ins
  split
  · rw [List.map_map]
    apply List.map_congr_left
    intro p _
    simp only [Function.comp]
    split <;> rfl
  · simp
theorem ins_nodup {m : List (α × β)} {a : α} {v : β} (h : (m.map Prod.fst).Nodup) : ((ins m a v).map Prod.fst).Nodup := by
  rw [ins_keys]
  split
  · exact h
  · rename_i hs
    have ha : a ∉ m.map Prod.fst := fun hm => hs (look_isSome.2 hm)
    rw [List.nodup_append]
    exact ⟨h, by simp, fun x hx y hy => by
      have : y = a := by simpa using hy
      rw [this]; exact fun e => ha (e ▸ hx)⟩
theorem look_ins_same {m : List (α × β)} {a : α} {v : β} : look (ins m a v) a = some v := by
  unfold ins
  split
  · rename_i hs
    obtain ⟨u, hu⟩ := Option.isSome_iff_exists.1 hs
    clear hs
    induction m with
    | nil => cases hu
    | cons p m ih =>
      by_cases hp : p.1 = a
      · simp [look, hp]
      · have : look m a = some u := by simpa [look, hp] using hu
        have := ih this
        simpa [look, hp] using this
  · rename_i hs
    have hn : look m a = none := by cases h : look m a <;> simp_all
    have : m.find? (fun p => decide (p.1 = a)) = none := by
      simp only [look, Option.map_eq_none_iff] at hn; exact hn
    simp [look, List.find?_append, this]
theorem look_cons {p : α × β} {m : List (α × β)} {c : α} : look (p :: m) c = if p.1 = c then some p.2 else look m c := by
  by_cases hp : p.1 = c <;> simp [look, hp]
theorem look_map_other {m : List (α × β)} {a c : α} {v : β} (h : c ≠ a) : look (m.map fun p => if p.1 = a then (p.1, v) else p) c = look m c := by
  induction m with
  | nil => rfl
  | cons p m ih =>
    rw [List.map_cons, look_cons, look_cons, ih]
    by_cases hp : p.1 = a
    · have hc : ¬ p.1 = c := fun e => h (e.symm.trans hp)
      rw [if_pos hp, if_neg hc, if_neg hc]
    · rw [if_neg hp]
theorem look_ins_other {m : List (α × β)} {a c : α} {v : β} (h : c ≠ a) : look (ins m a v) c = look m c := by
  unfold ins
  split
  · exact look_map_other h
  · have hne : ¬ a = c := fun e => h e.symm
    simp [look, List.find?_append, hne]
theorem look_ins {m : List (α × β)} {a c : α} {v : β} : look (ins m a v) c = if c = a then some v else look m c := by
  split
  · rename_i h; rw [h]; exact look_ins_same
  · rename_i h; exact look_ins_other h
theorem look_del {m : List (α × β)} {a c : α} : look (del m a) c = if c = a then none else look m c := by
  unfold del
  induction m with
  | nil => simp [look]
  | cons p m ih =>
    by_cases hp : p.1 = a
    · rw [List.filter_cons, if_neg (by simp [hp]), ih]
      split
      · rfl
      · rename_i hc
        have : ¬ a = c := fun e => hc e.symm
        simp [look, hp, this]
    · rw [List.filter_cons, if_pos (by simp [hp])]
      by_cases hc : p.1 = c
      · have : ¬ c = a := fun e => hp (hc.trans e)
        simp [look, hc, this]
      · have e1 : look (p :: m) c = look m c := by simp [look, hc]
        have e2 : look (p :: m.filter fun p => !decide (p.1 = a)) c = look (m.filter fun p => !decide (p.1 = a)) c := by simp [look, hc]
        rw [e1, e2, ih]
theorem del_nodup {m : List (α × β)} {a : α} (h : (m.map Prod.fst).Nodup) : ((del m a).map Prod.fst).Nodup := by
  unfold del
  exact h.sublist ((List.filter_sublist).map _)
theorem ins_length {m : List (α × β)} {a : α} {v : β} : (ins m a v).length = if (look m a).isSome then m.length else m.length + 1 := by
  unfold ins; split <;> simp

/-- Block b is a map that holds the pairs m. -/
def MapIs (enc : α → Value) (ok : α → Prop) (encV : β → Value) (w : World) (b : Nat) (m : List (α × β)) : Prop :=
  ∃ es clock, w.heap[b]? = some (.map es clock) ∧ es.toList.map (fun e => (e.key, e.val)) = m.map (fun p => (enc p.1, encV p.2)) ∧ (∀ p ∈ m, ok p.1) ∧ (m.map Prod.fst).Nodup
variable {enc : α → Value} {ok : α → Prop} {encV : β → Value} {k : TypeId} {w : World} {b : Nat} {m : List (α × β)}
omit [DecidableEq α] in
theorem MapIs.lt (h : MapIs enc ok encV w b m) : b < w.heap.size := by
  obtain ⟨es, clock, hb, _⟩ := h
  exact (Array.getElem?_eq_some_iff.1 hb).1
omit [DecidableEq α] in
theorem MapIs.nodup (h : MapIs enc ok encV w b m) : (m.map Prod.fst).Nodup := by
  obtain ⟨es, clock, hb, _, _, hn⟩ := h
  exact hn
omit [DecidableEq α] in
theorem MapIs.made (w : World) : MapIs enc ok encV (w.alloc (.map #[] 0)) w.heap.size [] :=
  ⟨#[], 0, heap_alloc_new w _, by simp, by simp, by simp⟩
omit [DecidableEq α] in
theorem MapIs.ext {w' : World} (h : MapIs enc ok encV w b m) (he : Ext w w') : MapIs enc ok encV w' b m := by
  obtain ⟨es, clock, hb, r⟩ := h
  exact ⟨es, clock, he.heap hb, r⟩
omit [DecidableEq α] in
theorem MapIs.same {w' : World} (h : MapIs enc ok encV w b m) (he : w'.heap[b]? = w.heap[b]?) : MapIs enc ok encV w' b m := by
  obtain ⟨es, clock, hb, r⟩ := h
  exact ⟨es, clock, he.trans hb, r⟩
omit [DecidableEq α] in
theorem MapIs.chg {w' : World} {c : Nat} (h : MapIs enc ok encV w b m) (he : Chg c w w') (hne : b ≠ c) : MapIs enc ok encV w' b m := h.same (he.block b h.lt hne)

theorem find_spec (K : KL k enc ok) (w : World) {es : List MapEntry} {m : List (α × β)} (hes : es.map (fun e => (e.key, e.val)) = m.map (fun p => (enc p.1, encV p.2))) (hok : ∀ p ∈ m, ok p.1) (hn : (m.map Prod.fst).Nodup) {a : α} (ha : ok a) :
    (look m a = none ∧ (Instr.findKey k (enc a) es).run Tryz.prog w = .ok none w) ∨ ∃ j v e, look m a = some v ∧ m[j]? = some (a, v) ∧ es[j]? = some e ∧ e.key = enc a ∧ (Instr.findKey k (enc a) es).run Tryz.prog w = .ok (some (j, encV v)) w := by
  obtain ⟨l, hl⟩ := K.lit a ha
  have hall : ∀ e ∈ es, ∃ l, keyOf Tryz.prog k e.key = some l := by
    intro e he
    have h1 : (e.key, e.val) ∈ m.map (fun p => (enc p.1, encV p.2)) := by rw [← hes]; exact List.mem_map.2 ⟨e, he, rfl⟩
    obtain ⟨p, hp, h2⟩ := List.mem_map.1 h1
    rw [← (Prod.mk.inj h2).1]
    exact K.lit _ (hok p hp)
  rcases K.keyed.find w hl es hall with ⟨h1, h2⟩ | ⟨j, e, h1, h2, h3⟩
  · refine .inl ⟨?_, h1⟩
    rw [look_none]
    intro hm
    obtain ⟨p, hp, rfl⟩ := List.mem_map.1 hm
    have h4 : (enc p.1, encV p.2) ∈ es.map (fun e => (e.key, e.val)) := by rw [hes]; exact List.mem_map.2 ⟨p, hp, rfl⟩
    obtain ⟨e, he, h5⟩ := List.mem_map.1 h4
    exact h2 e he (Prod.mk.inj h5).1
  · have h4 : (es.map (fun e => (e.key, e.val)))[j]? = some (e.key, e.val) := by simp [h2]
    rw [hes, List.getElem?_map, Option.map_eq_some_iff] at h4
    obtain ⟨p, hp, h5⟩ := h4
    have h6 := Prod.mk.inj h5
    have hmem := List.mem_of_getElem? hp
    have h7 : p.1 = a := K.inj _ _ (hok p hmem) ha (h6.1.trans h3)
    have h8 : p = (a, p.2) := by rw [← h7]
    refine .inr ⟨j, p.2, e, look_of_mem hn (by rw [← h8]; exact hmem), by rw [hp, ← h8], h2, h3, ?_⟩
    rw [h1, h6.2]
theorem MapIs.lookup (K : KL k enc ok) (h : MapIs enc ok encV w b m) {t e : TypeId} (ht : Tryz.prog.underlying t = some (.map k e)) {z : Value} (hz : ∀ w, (zeroValue e).run Tryz.prog w = .ok z w) {a : α} (ha : ok a) (com : Bool) :
    (Instr.lookup t (.map (some b)) (enc a) com).run Tryz.prog w = .ok (if com then .tuple #[((look m a).map encV).getD z, .bool (look m a).isSome] else ((look m a).map encV).getD z) w := by
  obtain ⟨es, clock, hb, hes, hok, hn⟩ := h
  obtain ⟨l, hl⟩ := K.lit a ha
  have hc := K.keyed.check w es.isEmpty hl
  rcases find_spec K w hes hok hn ha with ⟨h1, h2⟩ | ⟨j, v, e0, h1, h2, h3, h4, h5⟩
  · simp [Instr.lookup, run_underlying ht, Go.MapKept.run_getObj_map hb, hc, h2, hz, h1, Result.andThen]
    try (cases com <;> rfl)
  · simp [Instr.lookup, run_underlying ht, Go.MapKept.run_getObj_map hb, hc, h5, h1, Result.andThen]
    try (cases com <;> rfl)
theorem MapIs.update (K : KL k enc ok) (h : MapIs enc ok encV w b m) {t e : TypeId} (ht : Tryz.prog.underlying t = some (.map k e)) {a : α} (ha : ok a) (v : β) :
    ∃ w', (Instr.mapUpdate t (.map (some b)) (enc a) (encV v)).run Tryz.prog w = .ok () w' ∧ MapIs enc ok encV w' b (ins m a v) ∧ Chg b w w' := by
  obtain ⟨es, clock, hb, hes, hok, hn⟩ := h
  obtain ⟨l, hl⟩ := K.lit a ha
  have hc := K.keyed.check w false hl
  have hlt : b < w.heap.size := (Array.getElem?_eq_some_iff.1 hb).1
  have hchg : ∀ o, Chg b w { w with heap := w.heap.setIfInBounds b o } := fun o => ⟨rfl, rfl, rfl, by simp, fun i _ hi => by simp [Array.getElem?_setIfInBounds, fun e : b = i => hi e.symm]; intro e; exact absurd e.symm hi⟩
  have hself : ∀ o, ({ w with heap := w.heap.setIfInBounds b o } : World).heap[b]? = some o := fun o => by simp [Array.getElem?_setIfInBounds, hlt]
  have hok' : ∀ p ∈ ins m a v, ok p.1 := by
    intro p hp
    have : p.1 ∈ (ins m a v).map Prod.fst := List.mem_map.2 ⟨p, hp, rfl⟩
    rw [ins_keys] at this
    split at this
    · obtain ⟨q, hq, e⟩ := List.mem_map.1 this; rw [← e]; exact hok q hq
    · rcases List.mem_append.1 this with h | h
      · obtain ⟨q, hq, e⟩ := List.mem_map.1 h; rw [← e]; exact hok q hq
      · have : p.1 = a := by simpa using h
        rw [this]; exact ha
  rcases find_spec K w hes hok hn ha with ⟨h1, h2⟩ | ⟨j, v0, e0, h1, h2, h3, h4, h5⟩
  · refine ⟨{ w with heap := w.heap.setIfInBounds b (.map (es.push { key := enc a, val := encV v, born := clock }) (clock + 1)) }, ?_, ⟨_, _, hself _, ?_, hok', ins_nodup hn⟩, hchg _⟩
    · simp [Instr.mapUpdate, run_underlying ht, Go.MapKept.run_getObj_map hb, hc, h2, Go.MapKept.run_setObj_map _ hb, Result.andThen]
    · simp [ins, h1, hes]
  · have hj : es[j]? = some e0 := by simpa using h3
    refine ⟨{ w with heap := w.heap.setIfInBounds b (.map (es.modify j fun e => { e with key := enc a, val := encV v }) clock) }, ?_, ⟨_, _, hself _, ?_, hok', ins_nodup hn⟩, hchg _⟩
    · simp [Instr.mapUpdate, run_underlying ht, Go.MapKept.run_getObj_map hb, hc, h5, hj, h4, K.keyed.stays w hl, Go.MapKept.run_setObj_map _ hb, Result.andThen]
    · rw [ins, if_pos (by rw [h1]; rfl)]
      apply List.ext_getElem?
      intro i
      have hi : ∀ i : Nat, (es.toList.map fun e => (e.key, e.val))[i]? = (m.map fun p => (enc p.1, encV p.2))[i]? := fun i => by rw [hes]
      have hi' := hi i
      simp only [List.getElem?_map, Array.toList_modify, List.getElem?_modify] at hi' ⊢
      by_cases hij : j = i
      · subst hij
        have h2' : m[j]? = some (a, v0) := h2
        have h3' : es.toList[j]? = some e0 := h3
        simp [h2', h3']
      · cases hm : m[i]? with
        | none =>
          rw [hm] at hi'
          have : es.toList[i]? = none := by
            cases he : es.toList[i]? with
            | none => rfl
            | some x => rw [he] at hi'; cases hi'
          rw [this]; rfl
        | some p =>
          have hne : p.1 ≠ a := by
            intro e
            have hlt1 : i < m.length := (List.getElem?_eq_some_iff.1 hm).1
            have hlt2 : j < m.length := (List.getElem?_eq_some_iff.1 h2).1
            have g1 : (m.map Prod.fst)[i]? = some a := by simp [hm, e]
            have g2 : (m.map Prod.fst)[j]? = some a := by simp [h2]
            exact hij ((List.getElem?_inj (by simpa using hlt2) hn).1 (g2.trans g1.symm))
          rw [hm] at hi'
          obtain ⟨x, hx⟩ : ∃ x, es.toList[i]? = some x := by
            cases he : es.toList[i]? with
            | none => rw [he] at hi'; cases hi'
            | some x => exact ⟨x, rfl⟩
          rw [hx] at hi' ⊢
          simp [hne, hij] at hi' ⊢
          exact hi'
theorem map_eraseIdx_filter {γ : Type} (f : γ → Value × Value) (es : List γ) (m : List (α × β)) (j : Nat) (a : α) (v : β) (hn : (m.map Prod.fst).Nodup) (hj : m[j]? = some (a, v))
    (h : es.map f = m.map (fun p => (enc p.1, encV p.2))) : (es.eraseIdx j).map f = (del m a).map (fun p => (enc p.1, encV p.2)) := by
  have he : m.eraseIdx j = del m a := by
    clear h
    induction m generalizing j with
    | nil => simp at hj
    | cons p m ih =>
      rw [List.map_cons, List.nodup_cons] at hn
      cases j with
      | zero =>
        have : p = (a, v) := by simpa using hj
        subst this
        have hall : ∀ q ∈ m, (!decide (q.1 = a)) = true := fun q hq => by
          have : q.1 ≠ a := fun e => hn.1 (List.mem_map.2 ⟨q, hq, e⟩)
          simp [this]
        simp only [del, List.eraseIdx_cons_zero, List.filter_cons]
        simp [List.filter_eq_self.2 hall]
      | succ j =>
        have hj' : m[j]? = some (a, v) := by simpa using hj
        have hne : p.1 ≠ a := fun e => hn.1 (List.mem_map.2 ⟨_, List.mem_of_getElem? hj', e.symm⟩)
        have := ih j hn.2 hj'
        simp only [del, List.eraseIdx_cons_succ, List.filter_cons] at this ⊢
        simp [hne, this]
  rw [← he]
  have e1 : (es.eraseIdx j).map f = (es.map f).eraseIdx j := by rw [Go.ChangeMaps.map_eraseIdx]
  have e2 : (m.eraseIdx j).map (fun p => (enc p.1, encV p.2)) = (m.map (fun p => (enc p.1, encV p.2))).eraseIdx j := by rw [Go.ChangeMaps.map_eraseIdx]
  rw [e1, e2, h]
theorem MapIs.drop (K : KL k enc ok) (h : MapIs enc ok encV w b m) {t e : TypeId} (ht : Tryz.prog.underlying t = some (.map k e)) {a : α} (ha : ok a) (ty : TypeId) :
    ∃ w', (Builtin.delete_ #[t, k] ty #[.map (some b), enc a]).run Tryz.prog w = .ok (.tuple #[]) w' ∧ MapIs enc ok encV w' b (del m a) ∧ Chg b w w' := by
  obtain ⟨es, clock, hb, hes, hok, hn⟩ := h
  obtain ⟨l, hl⟩ := K.lit a ha
  have hc := K.keyed.check w es.isEmpty hl
  have hlt : b < w.heap.size := (Array.getElem?_eq_some_iff.1 hb).1
  have hchg : ∀ o, Chg b w { w with heap := w.heap.setIfInBounds b o } := fun o => ⟨rfl, rfl, rfl, by simp, fun i _ hi => by simp [Array.getElem?_setIfInBounds, fun e : b = i => hi e.symm]; intro e; exact absurd e.symm hi⟩
  have hself : ∀ o, ({ w with heap := w.heap.setIfInBounds b o } : World).heap[b]? = some o := fun o => by simp [Array.getElem?_setIfInBounds, hlt]
  rcases find_spec K w hes hok hn ha with ⟨h1, h2⟩ | ⟨j, v0, e0, h1, h2, h3, h4, h5⟩
  · have hd : del m a = m := by
      refine List.filter_eq_self.2 fun q hq => ?_
      have : q.1 ≠ a := fun e => look_none.1 h1 (List.mem_map.2 ⟨q, hq, e⟩)
      simp [this]
    refine ⟨{ w with heap := w.heap.setIfInBounds b (.map es clock) }, ?_, ⟨_, _, hself _, by rw [hd]; exact hes, by rw [hd]; exact hok, by rw [hd]; exact hn⟩, hchg _⟩
    simp [Builtin.delete_, run_underlying ht, Go.MapKept.run_getObj_map hb, hc, h2, Go.MapKept.run_setObj_map _ hb, Result.andThen]
  · have hjs : j < es.size := by simpa using (List.getElem?_eq_some_iff.1 h3).1
    have hsub : (es.eraseIdxIfInBounds j).toList = es.toList.eraseIdx j := by
      unfold Array.eraseIdxIfInBounds
      rw [dif_pos hjs]
      simp
    refine ⟨{ w with heap := w.heap.setIfInBounds b (.map (es.eraseIdxIfInBounds j) clock) }, ?_, ⟨_, _, hself _, ?_, fun p hp => hok p ((List.mem_filter.1 hp).1), del_nodup hn⟩, hchg _⟩
    · simp [Builtin.delete_, run_underlying ht, Go.MapKept.run_getObj_map hb, hc, h5, Go.MapKept.run_setObj_map _ hb, Result.andThen]
    · rw [hsub]
      exact map_eraseIdx_filter _ _ _ _ _ _ hn h2 hes
omit [DecidableEq α] in
theorem MapIs.len (h : MapIs enc ok encV w b m) {t e : TypeId} (ht : Tryz.prog.underlying t = some (.map k e)) (ty : TypeId) :
    (Builtin.len_ #[t] ty #[.map (some b)]).run Tryz.prog w = .ok (.int .i64 m.length) w := by
  obtain ⟨es, clock, hb, hes, hok, hn⟩ := h
  have : es.size = m.length := by simpa using congrArg List.length hes
  rw [← this]
  simp [Builtin.len_, run_underlying ht, Go.MapKept.run_getObj_map hb, goInt, Result.andThen]
section
variable {ops : Array Oper} {rest : List Oper} {o : Oper} {a : Act} {Q : Exit → Act → World → Prop} {t e : TypeId}
theorem wpList_look (hg : o.guard = none) (mm x : Operand) (tt : TypeId) (com : Bool) (hop : o.op = Op.lookup tt mm x com) (K : KL k enc ok) (ht : Tryz.prog.underlying tt = some (.map k e)) {z : Value} (hz : ∀ w, (zeroValue e).run Tryz.prog w = .ok z w)
    (h : MapIs enc ok encV w b m) (hm : a.eval mm = .map (some b)) (c : α) (hc : ok c) (hx : a.eval x = enc c)
    (hK : wpList Tryz.prog ops Q rest (a.put o.dst (if com then .tuple #[((look m c).map encV).getD z, .bool (look m c).isSome] else ((look m c).map encV).getD z)) w) : wpList Tryz.prog ops Q (o :: rest) a w := by
  refine wpList_plain hg fun K' hK' => ?_
  have hrun := h.lookup K ht hz hc com
  unfold Oper.wp
  simp only [execOp, hop, hm, hx, hrun, Result.andThen, Sem.run_bind]
  exact hK' _ _ hK
theorem wpList_upd (hg : o.guard = none) (mm x v : Operand) (tt : TypeId) (hop : o.op = Op.mapUpdate tt mm x v) (K : KL k enc ok) (ht : Tryz.prog.underlying tt = some (.map k e))
    (h : MapIs enc ok encV w b m) (hm : a.eval mm = .map (some b)) (c : α) (hc : ok c) (hx : a.eval x = enc c) (u : β) (hv : a.eval v = encV u)
    (hK : ∀ w', MapIs enc ok encV w' b (ins m c u) → Chg b w w' → wpList Tryz.prog ops Q rest (a.put o.dst undef) w') : wpList Tryz.prog ops Q (o :: rest) a w := by
  refine wpList_plain hg fun K' hK' => ?_
  obtain ⟨w', hrun, r1, r2⟩ := h.update K ht hc u
  unfold Oper.wp
  simp [execOp, hop, hm, hx, hv, hrun, Result.andThen]
  exact hK' _ _ (hK w' r1 r2)
theorem wpList_del (hg : o.guard = none) (mm x : Operand) (tt : TypeId) (hop : o.op = Op.call { callee := Callee.builtin Builtin.delete, args := #[mm, x], argTypes := #[tt, k] }) (K : KL k enc ok) (ht : Tryz.prog.underlying tt = some (.map k e))
    (h : MapIs enc ok encV w b m) (hm : a.eval mm = .map (some b)) (c : α) (hc : ok c) (hx : a.eval x = enc c)
    (hK : ∀ w', MapIs enc ok encV w' b (del m c) → Chg b w w' → wpList Tryz.prog ops Q rest (a.put o.dst (.tuple #[])) w') : wpList Tryz.prog ops Q (o :: rest) a w := by
  refine wpList_plain hg fun K' hK' => ?_
  obtain ⟨w', hrun, r1, r2⟩ := h.drop K ht hc o.type
  unfold Oper.wp
  simp [execOp, hop, resolve, invoke, builtin, hm, hx, hrun, Result.andThen]
  exact hK' _ _ (hK w' r1 r2)
omit [DecidableEq α] in
theorem wpList_len (hg : o.guard = none) (mm : Operand) (tt : TypeId) (hop : o.op = Op.call { callee := Callee.builtin Builtin.len, args := #[mm], argTypes := #[tt] }) (ht : Tryz.prog.underlying tt = some (.map k e))
    (h : MapIs enc ok encV w b m) (hm : a.eval mm = .map (some b))
    (hK : wpList Tryz.prog ops Q rest (a.put o.dst (.int .i64 m.length)) w) : wpList Tryz.prog ops Q (o :: rest) a w := by
  refine wpList_plain hg fun K' hK' => ?_
  unfold Oper.wp
  simp [execOp, hop, resolve, invoke, builtin, hm, h.len ht o.type, Result.andThen]
  exact hK' _ _ hK
end
end
/-- An int that fits. -/
def Fits (a : Int) : Prop := (Lit.int .i64 a).wf = true
theorem fits_of {a : Int} (h1 : -9223372036854775808 ≤ a) (h2 : a ≤ 9223372036854775807) : Fits a := by
  simp [Fits, Lit.wf, show IntKind.i64.min = -9223372036854775808 from rfl, show IntKind.i64.max = 9223372036854775807 from rfl, h1, h2]
theorem kl3 : KL 3 iv Fits where
  keyed := Go.Maps.int_keyed (q := .i64) (by kernel_rfl)
  lit a ha := ⟨_, Go.Maps.keyOf_int_mk (q := .i64) (by kernel_rfl) ha⟩
  inj a b _ _ h := by cases h; rfl
def pairV (p : Int × Int) : Value := .agg #[.int .i64 p.1, .int .i64 p.2]
def FitsP (p : Int × Int) : Prop := Fits p.1 ∧ Fits p.2
theorem arr70 : Go.WideMaps.ArrKey Tryz.prog 70 3 2 := ⟨by kernel_rfl, by kernel_rfl, by kernel_rfl, by kernel_rfl⟩
theorem kl70 : KL 70 pairV FitsP where
  keyed := Keyed.of_law arr70.law
  lit p hp := ⟨_, Go.WideMaps.keyOf_pair arr70 (q := .i64) (by kernel_rfl) ⟨Tryz.prog.types.size - 1, by kernel_rfl⟩ hp.1 hp.2⟩
  inj a b _ _ h := by
    obtain ⟨a1, a2⟩ := a
    obtain ⟨b1, b2⟩ := b
    simp [pairV] at h
    simp [h]
def rowV (l : List Int) : Value := .agg (l.map iv).toArray
def FitsR (l : List Int) : Prop := l.length = 9 ∧ ∀ x ∈ l, Fits x
theorem arr116 : Go.WideMaps.ArrKey Tryz.prog 116 3 9 := ⟨by kernel_rfl, by kernel_rfl, by kernel_rfl, by kernel_rfl⟩
theorem keyOf_row {l : List Int} (h : FitsR l) : ∃ k, keyOf Tryz.prog 116 (rowV l) = some k := by
  obtain ⟨hl, hf⟩ := h
  obtain ⟨a0, a1, a2, a3, a4, a5, a6, a7, a8, rfl⟩ : ∃ a0 a1 a2 a3 a4 a5 a6 a7 a8, l = [a0, a1, a2, a3, a4, a5, a6, a7, a8] := by
    match l, hl with
    | [a0, a1, a2, a3, a4, a5, a6, a7, a8], _ => exact ⟨a0, a1, a2, a3, a4, a5, a6, a7, a8, rfl⟩
  simp only [List.mem_cons, List.not_mem_nil, or_false, forall_eq_or_imp, forall_eq, Fits] at hf
  obtain ⟨f0, f1, f2, f3, f4, f5, f6, f7, f8⟩ := hf
  have he : Tryz.prog.underlying 3 = some (.int .i64) := by kernel_rfl
  have hkt := arr116.keyType ⟨Tryz.prog.types.size - 1, by kernel_rfl⟩
  obtain ⟨m, hm⟩ : ∃ m, Tryz.prog.types.size = m + 1 := ⟨Tryz.prog.types.size - 1, by kernel_rfl⟩
  have A := arr116
  unfold keyOf rowV
  simp only [A.hu]
  rw [if_pos (by simp [hkt, Value.formed, A.hu, A.size]), hm]
  unfold Program.keyLits
  simp only [A.hu, Value.cells]
  rw [if_pos (by rw [A.size]; rfl), show List.range 9 = [0, 1, 2, 3, 4, 5, 6, 7, 8] from rfl]
  iterate 9 rw [List.mapM_cons]
  rw [List.mapM_nil]
  simp [A.one, Program.keyLits, he, f0, f1, f2, f3, f4, f5, f6, f7, f8]
theorem kl116 : KL 116 rowV FitsR where
  keyed := Keyed.of_law arr116.law
  lit p hp := keyOf_row hp
  inj a b _ _ h := by
    simp only [rowV, Value.agg.injEq] at h
    have h' : a.map iv = b.map iv := by simpa using congrArg Array.toList h
    have : ∀ x y : Int, iv x = iv y → x = y := fun x y e => by cases e; rfl
    exact (List.map_inj_right (fun x y e => this x y e)).1 h'
theorem fits_range {a : Int} (h : Fits a) : -9223372036854775808 ≤ a ∧ a ≤ 9223372036854775807 := by
  simp [Fits, Lit.wf, show IntKind.i64.min = -9223372036854775808 from rfl, show IntKind.i64.max = 9223372036854775807 from rfl] at h
  exact h
theorem und68 : Tryz.prog.underlying 68 = some (.map 70 3) := by kernel_rfl
theorem und72 : Tryz.prog.underlying 72 = some (.map 70 4) := by kernel_rfl
theorem und82 : Tryz.prog.underlying 82 = some (.map 3 3) := by kernel_rfl
theorem und100 : Tryz.prog.underlying 100 = some (.map 3 4) := by kernel_rfl
theorem und114 : Tryz.prog.underlying 114 = some (.map 116 3) := by kernel_rfl
theorem zero3 (w : World) : (zeroValue 3).run Tryz.prog w = .ok (.int .i64 0) w := by kernel_rfl
theorem zero4 (w : World) : (zeroValue 4).run Tryz.prog w = .ok (.bool false) w := by kernel_rfl
end Go.Proofs.YtnleljpebnnhfaaGreatDoor

set_option linter.unusedSimpArgs false
set_option linter.unusedVariables false
namespace Go.Proofs.YtnleljpebnnhfaaGreatDoor
/-- What a node is told apart by. -/
def keyRow (G : List Nd) (out : List Int) (i : Nat) : List Int := (gt out i + 1) :: ((kids G i).map (fun a => gt out a + 1) ++ List.replicate (8 - (kids G i).length) 0)
/-- Classes: as yet perhaps too few. -/
structure Part (G : List Nd) (out : List Int) (c : Nat) : Prop where
  len : out.length = G.length
  rng : ∀ i, i < G.length → 0 ≤ gt out i ∧ gt out i < c
  sur : ∀ v : Nat, v < c → ∃ i, i < G.length ∧ gt out i = v
  apart : ∀ i j, i < G.length → j < G.length → gt out i = gt out j → top G i = top G j
  same : ∀ i j, i < G.length → j < G.length → den G i = den G j → gt out i = gt out j
/-- The next classes. -/
structure Next (G : List Nd) (out next : List Int) (c : Nat) : Prop where
  len : next.length = G.length
  rng : ∀ i, i < G.length → 0 ≤ gt next i ∧ gt next i < c
  sur : ∀ v : Nat, v < c → ∃ i, i < G.length ∧ gt next i = v
  key : ∀ i j, i < G.length → j < G.length → (gt next i = gt next j ↔ keyRow G out i = keyRow G out j)
theorem keyRow_all2 {G : List Nd} {out : List Int} {i j : Nat} (ht : top G i = top G j) (h : keyRow G out i = keyRow G out j) : All2 (fun a b => gt out a = gt out b) (kids G i) (kids G j) := by
  have hl : (kids G i).length = (kids G j).length := by rw [kids_length, kids_length, ht]
  simp only [keyRow, List.cons.injEq] at h
  have h2 := (List.append_inj h.2 (by simp [hl])).1
  exact (All2.of_map_eq h2).imp fun a b _ _ e => by omega
theorem keyRow_of {G : List Nd} {out : List Int} {i j : Nat} (h0 : gt out i = gt out j) (h : All2 (fun a b => gt out a = gt out b) (kids G i) (kids G j)) : keyRow G out i = keyRow G out j := by
  unfold keyRow
  rw [h0, h.length]
  congr 2
  exact All2.map_eq (h.imp fun a b _ _ e => by rw [e])
/-- A row of fewer than c numbers does not hold all numbers below c. -/
theorem cover {c m : Nat} {f : Nat → Nat} (h : ∀ v, v < c → ∃ u, u < m ∧ f u = v) : c ≤ m := by
  have : (List.range c).length ≤ ((List.range m).map f).length := List.Nodup.length_le_of_subset List.nodup_range fun v hv => by
    obtain ⟨u, hu, e⟩ := h v (List.mem_range.1 hv)
    exact List.mem_map.2 ⟨u, List.mem_range.2 hu, e⟩
  simpa using this
theorem cover_inj {c : Nat} {f : Nat → Nat} (h : ∀ v, v < c → ∃ u, u < c ∧ f u = v) {a b : Nat} (ha : a < c) (hb : b < c) (he : f a = f b) : a = b := by
  refine Classical.byContradiction fun hne => ?_
  have : (List.range c).length ≤ (((List.range c).erase b).map f).length := List.Nodup.length_le_of_subset List.nodup_range fun v hv => by
    obtain ⟨u, hu, e⟩ := h v (List.mem_range.1 hv)
    by_cases hub : u = b
    · refine List.mem_map.2 ⟨a, ?_, by rw [he, ← hub, e]⟩
      exact (List.mem_erase_of_ne hne).2 (List.mem_range.2 ha)
    · exact List.mem_map.2 ⟨u, (List.mem_erase_of_ne hub).2 (List.mem_range.2 hu), e⟩
  rw [List.length_map, List.length_erase_of_mem (List.mem_range.2 hb)] at this
  simp at this
  omega
section
variable {G : List Nd} {out next : List Int} {c c' : Nat}
theorem Next.fine (P : Part G out c) (N : Next G out next c') {i j : Nat} (hi : i < G.length) (hj : j < G.length) (h : gt next i = gt next j) : gt out i = gt out j := by
  have := (N.key i j hi hj).1 h
  simp only [keyRow, List.cons.injEq] at this
  omega
theorem Next.down (P : Part G out c) (N : Next G out next c') : ∃ f : Nat → Nat, (∀ v, v < c → ∃ u, u < c' ∧ f u = v) ∧ ∀ i, i < G.length → f (gt next i).toNat = (gt out i).toNat := by
  refine ⟨fun u => if h : u < c' then (gt out (Classical.choose (N.sur u h))).toNat else 0, ?_, ?_⟩
  · intro v hv
    obtain ⟨i, hi, e⟩ := P.sur v hv
    have hr := N.rng i hi
    refine ⟨(gt next i).toNat, by omega, ?_⟩
    have hlt : (gt next i).toNat < c' := by omega
    simp only [dif_pos hlt]
    have hs := Classical.choose_spec (N.sur _ hlt)
    have := N.fine P hs.1 hi (by rw [hs.2]; omega)
    omega
  · intro i hi
    have hr := N.rng i hi
    have hlt : (gt next i).toNat < c' := by omega
    simp only [dif_pos hlt]
    have hs := Classical.choose_spec (N.sur _ hlt)
    rw [N.fine P hs.1 hi (by rw [hs.2]; omega)]
theorem Next.le (P : Part G out c) (N : Next G out next c') : c ≤ c' := by
  obtain ⟨f, h, _⟩ := N.down P
  exact cover h
theorem Next.le_len (N : Next G out next c') : c' ≤ G.length :=
  cover (f := fun i => (gt next i).toNat) fun v hv => by
    obtain ⟨i, hi, e⟩ := N.sur v hv
    exact ⟨i, hi, by rw [e]; rfl⟩
theorem Part.step (hG : VG G) (P : Part G out c) (N : Next G out next c') : Part G next c' :=
  ⟨N.len, N.rng, N.sur, fun i j hi hj h => P.apart i j hi hj (N.fine P hi hj h), fun i j hi hj h => (N.key i j hi hj).2 (keyRow_of (P.same i j hi hj h) ((den_kid h).imp fun a b ha hb e => P.same a b (hG.kids hi ha) (hG.kids hj hb) e))⟩
theorem Part.done (hG : VG G) (P : Part G out c) (N : Next G out next c) : ∀ i j, i < G.length → j < G.length → (gt out i = gt out j ↔ den G i = den G j) := by
  obtain ⟨f, h1, h2⟩ := N.down P
  have key : ∀ i j, i < G.length → j < G.length → gt out i = gt out j → gt next i = gt next j := by
    intro i j hi hj h
    have r1 := N.rng i hi
    have r2 := N.rng j hj
    have := cover_inj h1 (a := (gt next i).toNat) (b := (gt next j).toNat) (by omega) (by omega) (by rw [h2 i hi, h2 j hj, h])
    omega
  intro i j hi hj
  refine ⟨fun h => ?_, P.same i j hi hj⟩
  refine den_coind (fun a b => a < G.length ∧ b < G.length ∧ gt out a = gt out b) (fun a b ⟨ha, hb, e⟩ => P.apart a b ha hb e) (fun a b ⟨ha, hb, e⟩ => ?_) i j ⟨hi, hj, h⟩
  have k := (N.key a b ha hb).1 (key a b ha hb e)
  exact (keyRow_all2 (P.apart a b ha hb e) k).imp fun x y hx hy e' => ⟨hG.kids ha hx, hG.kids hb hy, e'⟩
end
/-- What was seen in a round, up to node i. -/
structure Seen (G : List Nd) (out : List Int) (i : Nat) (seen : List (List Int × Int)) (next : List Int) : Prop where
  len : next.length = G.length
  vals : seen.map Prod.snd = (List.range seen.length).map Int.ofNat
  nodup : (seen.map Prod.fst).Nodup
  keys : ∀ j, j < i → look seen (keyRow G out j) = some (gt next j)
  frm : ∀ p ∈ seen, ∃ j, j < i ∧ p.1 = keyRow G out j
section
variable {G : List Nd} {out next : List Int} {i : Nat} {seen : List (List Int × Int)}
theorem Seen.start (h : next.length = G.length) : Seen G out 0 [] next := ⟨h, rfl, by simp, fun j hj => by omega, by simp⟩
theorem Seen.old (S : Seen G out i seen next) (hi : i < G.length) {v : Int} (h : look seen (keyRow G out i) = some v) : Seen G out (i + 1) seen (next.set i v) := by
  refine ⟨by simpa using S.len, S.vals, S.nodup, fun j hj => ?_, fun p hp => ?_⟩
  · rw [gt_set _ _ _ (by rw [S.len]; exact hi)]
    split
    · rename_i e; rw [e]; exact h
    · exact S.keys j (by omega)
  · obtain ⟨j, hj, e⟩ := S.frm p hp
    exact ⟨j, by omega, e⟩
theorem Seen.new (S : Seen G out i seen next) (hi : i < G.length) (h : look seen (keyRow G out i) = none) : Seen G out (i + 1) (ins seen (keyRow G out i) seen.length) (next.set i seen.length) := by
  have hins : ins seen (keyRow G out i) (seen.length : Int) = seen ++ [(keyRow G out i, (seen.length : Int))] := by simp [ins, h]
  refine ⟨by simpa using S.len, ?_, ins_nodup S.nodup, fun j hj => ?_, fun p hp => ?_⟩
  · rw [hins]
    simp [S.vals, List.range_succ]
  · rw [gt_set _ _ _ (by rw [S.len]; exact hi), look_ins]
    by_cases hk : keyRow G out j = keyRow G out i
    · rw [if_pos hk]
      by_cases hji : j = i
      · rw [if_pos hji]
      · have := S.keys j (by omega)
        rw [hk, h] at this; cases this
    · rw [if_neg hk]
      by_cases hji : j = i
      · rw [hji] at hk; exact absurd rfl hk
      · rw [if_neg hji]; exact S.keys j (by omega)
  · rw [hins] at hp
    rcases List.mem_append.1 hp with hp | hp
    · obtain ⟨j, hj, e⟩ := S.frm p hp
      exact ⟨j, by omega, e⟩
    · have : p = _ := List.mem_singleton.1 hp
      exact ⟨i, by omega, by rw [this]⟩
theorem Seen.val_lt (S : Seen G out i seen next) {a : List Int} {v : Int} (h : look seen a = some v) : 0 ≤ v ∧ v < seen.length := by
  have := mem_of_look h
  have hv : v ∈ seen.map Prod.snd := List.mem_map.2 ⟨_, this, rfl⟩
  rw [S.vals] at hv
  obtain ⟨u, hu, e⟩ := List.mem_map.1 hv
  have := List.mem_range.1 hu
  have e' : (u : Int) = v := e
  omega
theorem Seen.inj (S : Seen G out i seen next) {a b : List Int} {v : Int} (ha : look seen a = some v) (hb : look seen b = some v) : a = b := by
  have m1 := mem_of_look ha
  have m2 := mem_of_look hb
  obtain ⟨x, hx, e1⟩ := List.mem_iff_getElem.1 m1
  obtain ⟨y, hy, e2⟩ := List.mem_iff_getElem.1 m2
  have val : ∀ z (h : z < seen.length), seen[z].2 = (z : Int) := fun z h => by
    have : (seen.map Prod.snd)[z]? = ((List.range seen.length).map Int.ofNat)[z]? := by rw [S.vals]
    simpa [h] using this
  have v1 := val x hx
  have v2 := val y hy
  rw [e1] at v1
  rw [e2] at v2
  have hxy : x = y := by
    have : (x : Int) = y := v1.symm.trans v2
    omega
  subst hxy
  rw [e1] at e2
  exact (Prod.mk.inj e2).1
theorem Seen.nexts (S : Seen G out G.length seen next) : Next G out next seen.length := by
  refine ⟨S.len, fun i hi => S.val_lt (S.keys i hi), fun v hv => ?_, fun i j hi hj => ⟨fun h => ?_, fun h => ?_⟩⟩
  · have hmem : (v : Int) ∈ seen.map Prod.snd := by rw [S.vals]; exact List.mem_map.2 ⟨v, List.mem_range.2 hv, rfl⟩
    obtain ⟨p, hp, e⟩ := List.mem_map.1 hmem
    obtain ⟨j, hj, e'⟩ := S.frm p hp
    refine ⟨j, hj, ?_⟩
    have h1 := S.keys j hj
    rw [← e', look_of_mem S.nodup (a := p.1) (v := p.2) hp] at h1
    rw [← e]; exact (Option.some.inj h1).symm
  · exact S.inj (S.keys i hi) (by rw [h]; exact S.keys j hj)
  · have h1 := S.keys i hi
    rw [h, S.keys j hj] at h1
    exact (Option.some.inj h1).symm
end
/-- The first classes, up to place k of the order d. -/
structure Ini (G : List Nd) (d : List Int) (k : Nat) (out : List Int) (many : Nat) : Prop where
  len : out.length = G.length
  zero : k = 0 → many = 0
  lek : many ≤ k
  last : 0 < k → gt out (gt d (k - 1)).toNat = many
  rng : ∀ p, p < k → 0 ≤ gt out (gt d p).toNat ∧ gt out (gt d p).toNat ≤ many
  sur : 0 < k → ∀ v : Nat, v ≤ many → ∃ p, p < k ∧ gt out (gt d p).toNat = v
  eq : ∀ p q, p < k → q < k → (gt out (gt d p).toNat = gt out (gt d q).toNat ↔ top G (gt d p).toNat = top G (gt d q).toNat)
/-- A row of all numbers below n, each once, in the order of the nodes. -/
structure Sorted (G : List Nd) (d : List Int) : Prop where
  rng : ∀ p, p < G.length → 0 ≤ gt d p ∧ gt d p < G.length
  inj : ∀ p q, p < G.length → q < G.length → gt d p = gt d q → p = q
  sur : ∀ i, i < G.length → ∃ p, p < G.length ∧ gt d p = i
  le : ∀ p q, p < q → q < G.length → cmpTop (nd G (gt d p).toNat) (nd G (gt d q).toNat) ≤ 0
theorem sorted_of {G : List Nd} {d0 d : List Int} (h0 : ∀ k, k < G.length → gt d0 k = k) (hl : d0.length = G.length) (hp : PermOn 0 G.length d0 d) (hs : SortedOn (fun x y : Int => cmpTop (nd G x.toNat) (nd G y.toNat) ≤ 0) d 0 G.length) : Sorted G d := by
  obtain ⟨len, p, q, hin, hout, hv⟩ := hp
  have hval : ∀ k, k < G.length → gt d k = (p k : Nat) := fun k hk => by rw [hv, h0 _ (hin k (by omega) hk).2.1]
  refine ⟨fun k hk => ?_, fun a b ha hb h => ?_, fun i hi => ?_, fun a b hab hb => hs a b (by omega) hab hb⟩
  · rw [hval k hk]
    have := (hin k (by omega) hk).2.1
    omega
  · rw [hval a ha, hval b hb] at h
    have h' : p a = p b := by omega
    have e1 := (hin a (by omega) ha).2.2.2.2.1
    have e2 := (hin b (by omega) hb).2.2.2.2.1
    rw [← e1, ← e2, h']
  · have := hin i (by omega) hi
    exact ⟨q i, this.2.2.2.1, by rw [hval _ this.2.2.2.1, this.2.2.2.2.2]⟩
section
variable {G : List Nd} {d out : List Int} {k many : Nat}
theorem Ini.start (h : out.length = G.length) : Ini G d 0 out 0 := ⟨h, fun _ => rfl, by omega, fun h => by omega, fun p hp => by omega, fun h => by omega, fun p q hp => by omega⟩
theorem Ini.put (I : Ini G d k out many) (D : Sorted G d) (hk : k < G.length) (v : Int) : gt (out.set (gt d k).toNat v) (gt d k).toNat = v ∧ ∀ p, p < k → gt (out.set (gt d k).toNat v) (gt d p).toNat = gt out (gt d p).toNat := by
  have rk := D.rng k hk
  constructor
  · rw [gt_set _ _ _ (by rw [I.len]; omega), if_pos rfl]
  · intro p hp
    rw [gt_set _ _ _ (by rw [I.len]; omega), if_neg]
    intro e
    have rp := D.rng p (by omega)
    have := D.inj p k (by omega) hk (by omega)
    omega
theorem Ini.same (hG : VG G) (I : Ini G d k out many) (D : Sorted G d) (hk : k < G.length) (h : 0 < k → cmpTop (nd G (gt d (k - 1)).toNat) (nd G (gt d k).toNat) = 0) : Ini G d (k + 1) (out.set (gt d k).toNat many) many := by
  obtain ⟨e0, e1⟩ := I.put D hk many
  have rk := D.rng k hk
  have hv : ∀ p, p < G.length → validNd (nd G (gt d p).toNat) G.length = true := fun p hp => hG _ (nd_mem (by have := D.rng p hp; omega))
  have ht : 0 < k → top G (gt d (k - 1)).toNat = top G (gt d k).toNat := fun hp => (cmpTop_zero (hv _ (by omega)) (hv _ hk)).1 (h hp)
  refine ⟨by simpa using I.len, fun h => by omega, by have := I.lek; omega, fun _ => by simpa using e0, fun p hp => ?_, fun _ v hvm => ?_, ?_⟩
  · by_cases hpk : p = k
    · rw [hpk, e0]; omega
    · rw [e1 p (by omega)]; exact I.rng p (by omega)
  · by_cases hz : k = 0
    · have := I.zero hz
      exact ⟨k, by omega, by rw [e0]; omega⟩
    · obtain ⟨p, hp, e⟩ := I.sur (by omega) v hvm
      exact ⟨p, by omega, by rw [e1 p hp, e]⟩
  · have key : ∀ p, p < k → (gt out (gt d p).toNat = many ↔ top G (gt d p).toNat = top G (gt d k).toNat) := fun p hp => by
      rw [← ht (by omega), ← I.last (by omega)]
      exact I.eq p (k - 1) hp (by omega)
    intro p q hp hq
    by_cases hpk : p = k
    · by_cases hqk : q = k
      · rw [hpk, hqk]; simp
      · rw [hpk, e0, e1 q (by omega)]
        have := key q (by omega)
        exact ⟨fun h => (this.1 h.symm).symm, fun h => (this.2 h.symm).symm⟩
    · by_cases hqk : q = k
      · rw [hqk, e0, e1 p (by omega)]; exact key p (by omega)
      · rw [e1 p (by omega), e1 q (by omega)]; exact I.eq p q (by omega) (by omega)
theorem Ini.other (hG : VG G) (I : Ini G d k out many) (D : Sorted G d) (hk : k < G.length) (h0 : 0 < k) (h : cmpTop (nd G (gt d (k - 1)).toNat) (nd G (gt d k).toNat) ≠ 0) : Ini G d (k + 1) (out.set (gt d k).toNat ((many + 1 : Nat) : Int)) (many + 1) := by
  obtain ⟨e0, e1⟩ := I.put D hk ((many + 1 : Nat) : Int)
  have rk := D.rng k hk
  have hv : ∀ p, p < G.length → validNd (nd G (gt d p).toNat) G.length = true := fun p hp => hG _ (nd_mem (by have := D.rng p hp; omega))
  have hne : ∀ p, p < k → top G (gt d p).toNat ≠ top G (gt d k).toNat := by
    intro p hp e
    have z := (cmpTop_zero (hv p (by omega)) (hv k hk)).2 e
    by_cases hpk : p = k - 1
    · rw [hpk] at z; exact h z
    · exact h (cmpTop_cmp.strict (D.le p (k - 1) (by omega) (by omega)) (D.le (k - 1) k (by omega) hk) z).2
  refine ⟨by simpa using I.len, fun h => by omega, by have := I.lek; omega, fun _ => by simpa using e0, fun p hp => ?_, fun _ v hvm => ?_, ?_⟩
  · by_cases hpk : p = k
    · rw [hpk, e0]; omega
    · rw [e1 p (by omega)]; have := I.rng p (by omega); omega
  · by_cases hz : v = many + 1
    · exact ⟨k, by omega, by rw [e0, hz]⟩
    · obtain ⟨p, hp, e⟩ := I.sur h0 v (by omega)
      exact ⟨p, by omega, by rw [e1 p hp, e]⟩
  · intro p q hp hq
    by_cases hpk : p = k
    · by_cases hqk : q = k
      · rw [hpk, hqk]; simp
      · rw [hpk, e0, e1 q (by omega)]
        have := I.rng q (by omega)
        exact ⟨fun h => by omega, fun h => absurd h.symm (hne q (by omega))⟩
    · by_cases hqk : q = k
      · rw [hqk, e0, e1 p (by omega)]
        have := I.rng p (by omega)
        exact ⟨fun h => by omega, fun h => absurd h (hne p (by omega))⟩
      · rw [e1 p (by omega), e1 q (by omega)]; exact I.eq p q (by omega) (by omega)
theorem Ini.part (I : Ini G d G.length out many) (D : Sorted G d) (hn : 0 < G.length) : Part G out (many + 1) := by
  have hpos : ∀ i, i < G.length → ∃ p, p < G.length ∧ (gt d p).toNat = i := fun i hi => by
    obtain ⟨p, hp, e⟩ := D.sur i hi
    exact ⟨p, hp, by rw [e]; rfl⟩
  refine ⟨I.len, fun i hi => ?_, fun v hv => ?_, fun i j hi hj h => ?_, fun i j hi hj h => ?_⟩
  · obtain ⟨p, hp, rfl⟩ := hpos i hi
    have := I.rng p hp
    omega
  · obtain ⟨p, hp, e⟩ := I.sur hn v (by omega)
    exact ⟨_, by have := D.rng p hp; omega, e⟩
  · obtain ⟨p, hp, rfl⟩ := hpos i hi
    obtain ⟨q, hq, rfl⟩ := hpos j hj
    exact (I.eq p q hp hq).1 h
  · obtain ⟨p, hp, rfl⟩ := hpos i hi
    obtain ⟨q, hq, rfl⟩ := hpos j hj
    exact (I.eq p q hp hq).2 (den_top h)
end
end Go.Proofs.YtnleljpebnnhfaaGreatDoor

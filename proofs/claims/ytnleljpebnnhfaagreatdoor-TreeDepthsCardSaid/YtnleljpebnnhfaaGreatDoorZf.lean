/- Slices.SortStableFunc. -/
import Derived.Test.YtnleljpebnnhfaaGreatDoorZa
import Derived.Test.YtnleljpebnnhfaaGreatDoorZe
import Derived.Deep.DeepCutAuto

set_option linter.unusedSimpArgs false
set_option linter.unusedVariables false
namespace Go.Proofs.YtnleljpebnnhfaaGreatDoor
open Go.RowKit
/-- A comparison that the sort is handed: what it leans on. -/
structure SCmp (g : Nat) (caps : Array Value) (b : Nat) (J : World → Prop) (le : Int → Int → Prop) (S : Int → Prop) (cf : Int → Int → Int) : Prop where
  ent : Ent g
  order : Order le
  neg : ∀ x y, S x → S y → (cf x y < 0 ↔ ¬ le y x)
  call : ∀ W x y, J W → S x → S y → Calls Tryz.prog g (#[.int .i64 x, .int .i64 y] ++ caps) W fun e W' => e = .returned (.int .i64 (cf x y)) ∧ Ext W W'
  keep : ∀ W W', J W → Chg b W W' → J W'
section
variable {g : Nat} {caps : Array Value} {b : Nat} {J : World → Prop} {le : Int → Int → Prop} {S : Int → Prop} {cf : Int → Int → Int}
set_option maxRecDepth 100000 in
set_option maxHeartbeats 2000000 in
theorem insertion_any (C : SCmp g caps b J le S cf) (d : List Int) (N c a e : Nat) (w : World) (hr : Row w b d) (hJ : J w) (hN : d.length = N) (ha : a ≤ e) (he : e ≤ N) (hS : ∀ k, k < N → S (gt d k)) (h3 : N ≤ 140737488355328) :
    Calls Tryz.prog 125 #[.slice (some ⟨b, 0, none⟩) N c, .int .i64 a, .int .i64 e, .func (.func g) #[] caps] w
      fun ed w' => ed = .returned (.tuple #[]) ∧ ∃ d', Row w' b d' ∧ Chg b w w' ∧ PermOn a e d d' ∧ SortedOn le d' a e := by
  have HN := Lib.hid hN
  have HR := Lib.hid hr
  have HS := Lib.hid hS
  have HJ := Lib.hid hJ
  have HC := Lib.hid C
  have eg := C.ent
  clear hr hN hS hJ C
  go_enter Tryz.func125, Tryz.ntmps125
  go_wp2
  go_loopw [8, 9] (fun vi _ wr => ∃ i : Nat, a + 1 ≤ i ∧ (i ≤ e ∨ i = a + 1) ∧ vi = .int .i64 i ∧ ∃ d1, Row wr b d1 ∧ Chg b w wr ∧ PermOn a e d d1 ∧ SortedOn le d1 a i) (fun vi _ _ => e - (intOf vi).toNat)
  case atStart => exact ⟨a + 1, by omega, by omega, by go_num, d, HR.out, Chg.refl _ _, PermOn.refl _ _ _, fun x y h1 h2 h3 => by omega⟩
  case round =>
    obtain ⟨i, hi1, hi2, rfl, d1, r1, r2, r3, r4⟩ := hrel
    have HL : Hid (d1.length = N) := r3.1.trans HN.out
    have R1 := Lib.hid r1
    have R2 := Lib.hid r2
    have R3 := Lib.hid r3
    have R4 := Lib.hid r4
    clear r1 r2 r3 r4
    by_cases hlt : i < e
    · go_wp2
      obtain ⟨wo, hwo⟩ : ∃ wo : World, wo = wr := ⟨_, rfl⟩
      subst hwo
      go_loopw [9] (fun vj wr => ∃ j : Nat, a ≤ j ∧ j ≤ i ∧ vj = .int .i64 j ∧ ∃ d2, Row wr b d2 ∧ Chg b w wr ∧ PermOn a e d d2 ∧ Ins le d2 a i j) (fun vj _ => (intOf vj).toNat)
      case atStart => exact ⟨i, by omega, by omega, rfl, d1, R1.out, R2.out, R3.out, Ins.start R4.out⟩
      case round =>
        obtain ⟨j, hj1, hj2, rfl, d2, q1, q2, q3, q4⟩ := hrel
        have HL2 : Hid (d2.length = N) := q3.1.trans HN.out
        have HS2 : Hid (∀ k, k < N → S (gt d2 k)) := q3.all he HS.out
        have HJ2 : Hid (J wr) := HC.out.keep _ _ HJ.out q2
        by_cases hja : a < j
        · have c1 := q1.cell j (by have := HL2.out; omega)
          have c2 := q1.cell (j - 1) (by have := HL2.out; omega)
          have f1 := q1.frozen j
          have f2 := q1.frozen (j - 1)
          have f3 : ∀ v, (wr.setCell ⟨b, j, none⟩ v).frozen? ⟨b, j - 1, none⟩ = false := fun v => frozen_set f2
          have e1 : IntKind.i64.wrap ((j : Int) - 1) = (j : Int) - 1 := IntWalk.i64_in _ (by omega)
          have n1 : (0 : Int) ≤ (j : Int) - 1 := by omega
          have n2 : (1 : Int) ≤ (j : Int) := by omega
          have n3 : (j : Int) - 1 < N := by omega
          have n4 : (j : Int) < N := by omega
          have t1 : ((j : Int) - 1).toNat = j - 1 := by omega
          have Q1 := Lib.hid q1
          have Q2 := Lib.hid q2
          have Q3 := Lib.hid q3
          have Q4 := Lib.hid q4
          have hneg := HC.out.neg _ _ (HS2.out j (by omega)) (HS2.out (j - 1) (by omega))
          have HG := Lib.hid hneg
          clear q1 q2 q3 q4 hneg
          have hd : decide ((a : Int) < j) = true := by simp; omega
          by_cases hlow : cf (gt d2 j) (gt d2 (j - 1)) < 0
          · go_wp2
            go_still_tail 14, (by kernel_rfl)
            change wpList _ _ _ _ _ wr.drew
            go_wp2_with fail
            refine (HC.out.call wr.drew _ _ (HC.out.keep _ _ HJ2.out (Chg.refl _ _).drew) (HS2.out j (by omega)) (HS2.out (j - 1) (by omega))).mono ?_
            rintro ed w1 ⟨rfl, hx⟩
            have p1 : Row w1 b d2 := Q1.out.drew.ext hx
            have p2 : Chg b wr w1 := (Chg.refl _ _).drew.ext hx
            have P1 := Lib.hid p1
            have P2 := Lib.hid p2
            clear c1 c2 f1 f2 f3 hx
            have c1 := p1.cell j (by have := HL2.out; omega)
            have c2 := p1.cell (j - 1) (by have := HL2.out; omega)
            have f1 := p1.frozen j
            have f2 := p1.frozen (j - 1)
            have f3 : ∀ v, (w1.setCell ⟨b, j, none⟩ v).frozen? ⟨b, j - 1, none⟩ = false := fun v => frozen_set f2
            clear p1 p2
            go_wp2
            go_region
            go_wp2
            have hsw : Row ((w1.setCell ⟨b, j, none⟩ (.int .i64 (gt d2 (j - 1)))).setCell ⟨b, j - 1, none⟩ (.int .i64 (gt d2 j))) b (swapL d2 j (j - 1)) := P1.out.swap _ _
            refine ⟨⟨j - 1, by omega, by omega, ?_, swapL d2 j (j - 1), hsw.drew, (((Q2.out.trans P2.out).set _ _).set _ _).drew, Q3.out.trans (PermOn.swap _ _ _ _ _ ?_ ?_ (by omega) (by omega) (by omega) (by omega)), Q4.out.step (by omega) hj2 ?_ (HC.out.order.of_not (HG.out.1 hlow))⟩, by simp [intOf]; omega⟩
            · congr 1; omega
            · have := HL2.out; omega
            · have := HL2.out; omega
            · have := HL2.out; omega
          · go_wp2
            go_still_tail 14, (by kernel_rfl)
            change wpList _ _ _ _ _ wr.drew
            go_wp2_with fail
            refine (HC.out.call wr.drew _ _ (HC.out.keep _ _ HJ2.out (Chg.refl _ _).drew) (HS2.out j (by omega)) (HS2.out (j - 1) (by omega))).mono ?_
            rintro ed w1 ⟨rfl, hx⟩
            have p1 : Row w1 b d2 := Q1.out.drew.ext hx
            have p2 : Chg b wr w1 := (Chg.refl _ _).drew.ext hx
            have P1 := Lib.hid p1
            have P2 := Lib.hid p2
            clear c1 c2 f1 f2 f3 hx p1 p2
            go_wp2
            refine ⟨⟨i + 1, by omega, by omega, by go_num, d2, P1.out, Q2.out.trans P2.out, Q3.out, Q4.out.done HC.out.order hj1 hj2 fun _ => ?_⟩, by simp [intOf]; omega⟩
            exact Classical.not_not.1 fun h => by have := HG.out.2 h; omega
        · have hd : decide ((a : Int) < j) = false := by simp; omega
          have Q1 := Lib.hid q1
          have Q2 := Lib.hid q2
          have Q3 := Lib.hid q3
          have Q4 := Lib.hid q4
          clear q1 q2 q3 q4
          go_wp2
          go_quiet (fail)
          go_wp2
          refine ⟨⟨i + 1, by omega, by omega, by go_num, d2, Q1.out, Q2.out.ext (Ext.of_drewN _ _), Q3.out, Q4.out.done HC.out.order hj1 hj2 fun h => absurd h hja⟩, by simp [intOf]; omega⟩
    · go_wp2
      go_end0
      exact ⟨rfl, d1, R1.out, R2.out, R3.out, fun x y h1 h2 h3 => R4.out x y h1 h2 (by omega)⟩
end
end Go.Proofs.YtnleljpebnnhfaaGreatDoor

set_option linter.unusedSimpArgs false
set_option linter.unusedVariables false
namespace Go.Proofs.YtnleljpebnnhfaaGreatDoor
open Go.RowKit
section
variable {g : Nat} {caps : Array Value} {b : Nat} {J : World → Prop} {le : Int → Int → Prop} {S : Int → Prop} {cf : Int → Int → Int}
set_option maxRecDepth 100000 in
set_option maxHeartbeats 2000000 in
theorem symMerge_left (C : SCmp g caps b J le S cf) (d : List Int) (N c a e : Nat) (w : World) (hr : Row w b d) (hJ : J w) (hN : d.length = N) (ha : a + 1 < e) (he : e ≤ N) (hS : ∀ k, k < N → S (gt d k)) (h3 : N ≤ 140737488355328)
    (hs : SortedOn le d (a + 1) e) :
    Calls Tryz.prog 126 #[.slice (some ⟨b, 0, none⟩) N c, .int .i64 a, .int .i64 ((a : Int) + 1), .int .i64 e, .func (.func g) #[] caps] w
      fun ed w' => ed = .returned (.tuple #[]) ∧ ∃ d', Row w' b d' ∧ Chg b w w' ∧ PermOn a e d d' ∧ SortedOn le d' a e := by
  have HN := Lib.hid hN
  have HR := Lib.hid hr
  have HS := Lib.hid hS
  have HJ := Lib.hid hJ
  have HC := Lib.hid C
  have HO := Lib.hid hs
  have eg := C.ent
  clear hr hN hS hJ C hs
  have g1 : (((a : Int) + 1 - a) == 1) = true := by simp; omega
  go_enter Tryz.func126, Tryz.ntmps126
  go_wp2
  go_loopw [10, 11] (fun vi vj wr => ∃ i j : Nat, a + 1 ≤ i ∧ i ≤ j ∧ j ≤ e ∧ vi = .int .i64 i ∧ vj = .int .i64 j ∧ Row wr b d ∧ Chg b w wr ∧ (∀ c, a + 1 ≤ c → c < i → le (gt d c) (gt d a)) ∧ (∀ c, j ≤ c → c < e → le (gt d a) (gt d c))) (fun vi vj _ => ((intOf vj) - (intOf vi)).toNat)
  case atStart => exact ⟨a + 1, e, by omega, by omega, by omega, by go_num, rfl, HR.out, Chg.refl _ _, fun c h1 h2 => by omega, fun c h1 h2 => by omega⟩
  case round =>
    obtain ⟨i, j, hi1, hi2, hi3, rfl, rfl, r1, r2, r3, r4⟩ := hrel
    have HJ2 : Hid (J wr) := HC.out.keep _ _ HJ.out r2
    by_cases hlt : i < j
    · have R1 := Lib.hid r1
      have R2 := Lib.hid r2
      have R3 := Lib.hid r3
      have R4 := Lib.hid r4
      clear r1 r2 r3 r4
      have hh1 : i ≤ (i + j) / 2 := by omega
      have hh2 : (i + j) / 2 < j := by omega
      have c1 := R1.out.cell ((i + j) / 2) (by have := HN.out; omega)
      have c2 := R1.out.cell a (by have := HN.out; omega)
      have n1 : (0 : Int) ≤ ((i : Int) + j) / 2 := by omega
      have n3 : ((i : Int) + j) / 2 < N := by omega
      have n4 : (a : Int) < N := by omega
      have t1 : (((i : Int) + j) / 2).toNat = (i + j) / 2 := by omega
      have hneg := HC.out.neg _ _ (HS.out ((i + j) / 2) (by omega)) (HS.out a (by omega))
      have HG := Lib.hid hneg
      clear hneg
      by_cases hlow : cf (gt d ((i + j) / 2)) (gt d a) < 0
      all_goals
        go_wp2
        go_still_tail 9, (by kernel_rfl)
        change wpList _ _ _ _ _ wr.drew
        go_wp2_with fail
        refine (HC.out.call wr.drew _ _ (HC.out.keep _ _ HJ2.out (Chg.refl _ _).drew) (HS.out ((i + j) / 2) (by omega)) (HS.out a (by omega))).mono ?_
        rintro ed w1 ⟨rfl, hx⟩
        have p1 : Row w1 b d := R1.out.drew.ext hx
        have p2 : Chg b wr w1 := (Chg.refl _ _).drew.ext hx
        have P1 := Lib.hid p1
        have P2 := Lib.hid p2
        clear c1 c2 hx p1 p2
        go_wp2
      · refine ⟨⟨(i + j) / 2 + 1, j, by omega, by omega, by omega, by go_num, rfl, P1.out, R2.out.trans P2.out, fun x h1 h2 => ?_, R4.out⟩, by simp [intOf]; omega⟩
        have h4 := HC.out.order.of_not (HG.out.1 hlow)
        exact HC.out.order.trans (SortedOn.le' HC.out.order HO.out h1 (show x ≤ (i + j) / 2 by omega) (by omega)) h4
      · refine ⟨⟨i, (i + j) / 2, by omega, by omega, by omega, rfl, by go_num, P1.out, R2.out.trans P2.out, R3.out, fun x h1 h2 => ?_⟩, by simp [intOf]; omega⟩
        have h4 : le (gt d a) (gt d ((i + j) / 2)) := Classical.not_not.1 fun h => by have := HG.out.2 h; omega
        exact HC.out.order.trans h4 (SortedOn.le' HC.out.order HO.out (by omega) h1 h2)
    · obtain rfl : i = j := by omega
      have R1 := Lib.hid r1
      have R2 := Lib.hid r2
      have R3 := Lib.hid r3
      have R4 := Lib.hid r4
      clear r1 r2 r3 r4
      obtain ⟨wo, hwo⟩ : ∃ wo : World, wo = wr := ⟨_, rfl⟩
      subst hwo
      go_wp2
      go_loopw [13] (fun vk wr => ∃ k : Nat, a ≤ k ∧ k + 1 ≤ i ∧ vk = .int .i64 k ∧ ∃ d1, Row wr b d1 ∧ Chg b w wr ∧ PermOn a e d d1 ∧ (∀ x, gt d1 x = if a ≤ x ∧ x < k then gt d (x + 1) else if x = k then gt d a else gt d x)) (fun vk _ => i - (intOf vk).toNat)
      case atStart =>
        refine ⟨a, by omega, by omega, rfl, d, R1.out, R2.out, PermOn.refl _ _ _, fun x => ?_⟩
        rw [if_neg (by omega)]
        split
        · rename_i h; rw [h]
        · rfl
      case round =>
        obtain ⟨k, hk1, hk2, rfl, d1, q1, q2, q3, q4⟩ := hrel
        have HL : Hid (d1.length = N) := q3.1.trans HN.out
        have Q2 := Lib.hid q2
        have Q3 := Lib.hid q3
        have Q4 := Lib.hid q4
        have Q1 := Lib.hid q1
        clear q2 q3 q4
        by_cases hlt2 : k + 1 < i
        · have c1 := q1.cell k (by have := HL.out; omega)
          have c2 := q1.cell (k + 1) (by have := HL.out; omega)
          have f1 := q1.frozen k
          have f2 := q1.frozen (k + 1)
          have f3 : ∀ v, (wr.setCell ⟨b, k, none⟩ v).frozen? ⟨b, k + 1, none⟩ = false := fun v => frozen_set f2
          have e1 : IntKind.i64.wrap ((k : Int) + 1) = (k : Int) + 1 := IntWalk.i64_in _ (by omega)
          have n1 : (0 : Int) ≤ (k : Int) + 1 := by omega
          have n3 : (k : Int) + 1 < N := by omega
          have n4 : (k : Int) < N := by omega
          have t1 : ((k : Int) + 1).toNat = k + 1 := by omega
          have hb : (k : Int) < (i : Int) - 1 := by omega
          clear q1
          go_wp2
          go_region
          go_wp2
          have hsw : Row ((wr.setCell ⟨b, k, none⟩ (.int .i64 (gt d1 (k + 1)))).setCell ⟨b, k + 1, none⟩ (.int .i64 (gt d1 k))) b (swapL d1 k (k + 1)) := Q1.out.swap _ _
          have hl := HL.out
          refine ⟨⟨k + 1, by omega, by omega, by go_num, swapL d1 k (k + 1), hsw.drew, ((Q2.out.set _ _).set _ _).drew, Q3.out.trans (PermOn.swap _ _ _ _ _ (by omega) (by omega) (by omega) (by omega) (by omega) (by omega)), fun x => ?_⟩, by simp [intOf]; omega⟩
          rw [gt_swapL _ _ _ (by omega) (by omega), Q4.out k, Q4.out (k + 1), Q4.out x]
          by_cases x1 : x = k + 1
          · subst x1
            rw [if_pos rfl, if_neg (by omega), if_pos rfl, if_neg (by omega), if_pos rfl]
          · rw [if_neg x1]
            by_cases x2 : x = k
            · subst x2
              rw [if_pos rfl, if_neg (by omega), if_neg (by omega), if_pos (by omega)]
            · rw [if_neg x2, if_neg x2, if_neg x1]
              by_cases x3 : a ≤ x ∧ x < k
              · rw [if_pos x3, if_pos (by omega)]
              · rw [if_neg x3, if_neg (by omega)]
        · have hik : i = k + 1 := by omega
          have HK := Lib.hid hik
          have hb : ¬ (k : Int) < (i : Int) - 1 := by omega
          clear q1 hik
          go_wp2
          refine bodyPost_ret (results_none rfl _ _ _) rfl ?_
          refine ⟨rfl, d1, Q1.out, Q2.out, Q3.out, merge_one_left (i := i) (by omega) (by omega) HO.out R3.out R4.out fun x => ?_⟩
          rw [Q4.out x, HK.out]
          rfl
set_option maxRecDepth 100000 in
set_option maxHeartbeats 2000000 in
theorem symMerge_right (C : SCmp g caps b J le S cf) (d : List Int) (N c a m : Nat) (w : World) (hr : Row w b d) (hJ : J w) (hN : d.length = N) (ha : a + 1 < m) (he : m + 1 ≤ N) (hS : ∀ k, k < N → S (gt d k)) (h3 : N ≤ 140737488355328)
    (hs : SortedOn le d a m) :
    Calls Tryz.prog 126 #[.slice (some ⟨b, 0, none⟩) N c, .int .i64 a, .int .i64 m, .int .i64 ((m : Int) + 1), .func (.func g) #[] caps] w
      fun ed w' => ed = .returned (.tuple #[]) ∧ ∃ d', Row w' b d' ∧ Chg b w w' ∧ PermOn a (m + 1) d d' ∧ SortedOn le d' a (m + 1) := by
  have HN := Lib.hid hN
  have HR := Lib.hid hr
  have HS := Lib.hid hS
  have HJ := Lib.hid hJ
  have HC := Lib.hid C
  have HO := Lib.hid hs
  have eg := C.ent
  clear hr hN hS hJ C hs
  have g1 : (((m : Int) - a) == 1) = false := by simp; omega
  have g2 : (((m : Int) + 1 - m) == 1) = true := by simp; omega
  go_enter Tryz.func126, Tryz.ntmps126
  go_wp2
  go_loopw [14, 15] (fun vi vj wr => ∃ i j : Nat, a ≤ i ∧ i ≤ j ∧ j ≤ m ∧ vi = .int .i64 i ∧ vj = .int .i64 j ∧ Row wr b d ∧ Chg b w wr ∧ (∀ c, a ≤ c → c < i → le (gt d c) (gt d m)) ∧ (∀ c, j ≤ c → c < m → le (gt d m) (gt d c))) (fun vi vj _ => ((intOf vj) - (intOf vi)).toNat)
  case atStart => exact ⟨a, m, by omega, by omega, by omega, by go_num, rfl, HR.out, Chg.refl _ _, fun c h1 h2 => by omega, fun c h1 h2 => by omega⟩
  case round =>
    obtain ⟨i, j, hi1, hi2, hi3, rfl, rfl, r1, r2, r3, r4⟩ := hrel
    have HJ2 : Hid (J wr) := HC.out.keep _ _ HJ.out r2
    by_cases hlt : i < j
    · have R1 := Lib.hid r1
      have R2 := Lib.hid r2
      have R3 := Lib.hid r3
      have R4 := Lib.hid r4
      clear r1 r2 r3 r4
      have hh1 : i ≤ (i + j) / 2 := by omega
      have hh2 : (i + j) / 2 < j := by omega
      have c1 := R1.out.cell ((i + j) / 2) (by have := HN.out; omega)
      have c2 := R1.out.cell m (by have := HN.out; omega)
      have n1 : (0 : Int) ≤ ((i : Int) + j) / 2 := by omega
      have n3 : ((i : Int) + j) / 2 < N := by omega
      have n4 : (m : Int) < N := by omega
      have t1 : (((i : Int) + j) / 2).toNat = (i + j) / 2 := by omega
      have hneg := HC.out.neg _ _ (HS.out m (by omega)) (HS.out ((i + j) / 2) (by omega))
      have HG := Lib.hid hneg
      clear hneg
      cases hcmp : decide (cf (gt d m) (gt d ((i + j) / 2)) < 0)
      all_goals
        go_wp2
        go_still_tail 9, (by kernel_rfl)
        change wpList _ _ _ _ _ wr.drew
        go_wp2_with fail
        refine (HC.out.call wr.drew _ _ (HC.out.keep _ _ HJ2.out (Chg.refl _ _).drew) (HS.out m (by omega)) (HS.out ((i + j) / 2) (by omega))).mono ?_
        rintro ed w1 ⟨rfl, hx⟩
        have p1 : Row w1 b d := R1.out.drew.ext hx
        have p2 : Chg b wr w1 := (Chg.refl _ _).drew.ext hx
        have P1 := Lib.hid p1
        have P2 := Lib.hid p2
        clear c1 c2 hx p1 p2
        go_wp2
      · refine ⟨⟨(i + j) / 2 + 1, j, by omega, by omega, by omega, by go_num, rfl, P1.out, R2.out.trans P2.out, fun x h1 h2 => ?_, R4.out⟩, by simp [intOf]; omega⟩
        have h4 : le (gt d ((i + j) / 2)) (gt d m) := Classical.not_not.1 fun h => by have h5 := decide_eq_true (HG.out.2 h); rw [hcmp] at h5; cases h5
        exact HC.out.order.trans (SortedOn.le' HC.out.order HO.out h1 (show x ≤ (i + j) / 2 by omega) (by omega)) h4
      · refine ⟨⟨i, (i + j) / 2, by omega, by omega, by omega, rfl, by go_num, P1.out, R2.out.trans P2.out, R3.out, fun x h1 h2 => ?_⟩, by simp [intOf]; omega⟩
        have h4 := HC.out.order.of_not (HG.out.1 (of_decide_eq_true hcmp))
        exact HC.out.order.trans h4 (SortedOn.le' HC.out.order HO.out (by omega) h1 h2)
    · obtain rfl : i = j := by omega
      have R1 := Lib.hid r1
      have R2 := Lib.hid r2
      have R3 := Lib.hid r3
      have R4 := Lib.hid r4
      clear r1 r2 r3 r4
      obtain ⟨wo, hwo⟩ : ∃ wo : World, wo = wr := ⟨_, rfl⟩
      subst hwo
      go_wp2
      go_loopw [17] (fun vk wr => ∃ k : Nat, i ≤ k ∧ k ≤ m ∧ vk = .int .i64 k ∧ ∃ d1, Row wr b d1 ∧ Chg b w wr ∧ PermOn a (m + 1) d d1 ∧ (∀ x, gt d1 x = if k < x ∧ x ≤ m then gt d (x - 1) else if x = k then gt d m else gt d x)) (fun vk _ => (intOf vk).toNat)
      case atStart =>
        refine ⟨m, by omega, by omega, rfl, d, R1.out, R2.out, PermOn.refl _ _ _, fun x => ?_⟩
        rw [if_neg (by omega)]
        split
        · rename_i h; rw [h]
        · rfl
      case round =>
        obtain ⟨k, hk1, hk2, rfl, d1, q1, q2, q3, q4⟩ := hrel
        have HL : Hid (d1.length = N) := q3.1.trans HN.out
        have Q2 := Lib.hid q2
        have Q3 := Lib.hid q3
        have Q4 := Lib.hid q4
        have Q1 := Lib.hid q1
        clear q2 q3 q4
        by_cases hlt2 : i < k
        · have c1 := q1.cell k (by have := HL.out; omega)
          have c2 := q1.cell (k - 1) (by have := HL.out; omega)
          have f1 := q1.frozen k
          have f2 := q1.frozen (k - 1)
          have f3 : ∀ v, (wr.setCell ⟨b, k, none⟩ v).frozen? ⟨b, k - 1, none⟩ = false := fun v => frozen_set f2
          have e1 : IntKind.i64.wrap ((k : Int) - 1) = (k : Int) - 1 := IntWalk.i64_in _ (by omega)
          have n1 : (0 : Int) ≤ (k : Int) - 1 := by omega
          have n2 : (1 : Int) ≤ (k : Int) := by omega
          have n3 : (k : Int) - 1 < N := by omega
          have n4 : (k : Int) < N := by omega
          have t1 : ((k : Int) - 1).toNat = k - 1 := by omega
          clear q1
          go_wp2
          go_region
          go_wp2
          have hsw : Row ((wr.setCell ⟨b, k, none⟩ (.int .i64 (gt d1 (k - 1)))).setCell ⟨b, k - 1, none⟩ (.int .i64 (gt d1 k))) b (swapL d1 k (k - 1)) := Q1.out.swap _ _
          have hl := HL.out
          refine ⟨⟨k - 1, by omega, by omega, ?_, swapL d1 k (k - 1), hsw.drew, ((Q2.out.set _ _).set _ _).drew, Q3.out.trans (PermOn.swap _ _ _ _ _ (by omega) (by omega) (by omega) (by omega) (by omega) (by omega)), fun x => ?_⟩, by simp [intOf]; omega⟩
          · congr 1; omega
          rw [gt_swapL _ _ _ (by omega) (by omega), Q4.out k, Q4.out (k - 1), Q4.out x]
          by_cases x1 : x = k - 1
          · subst x1
            rw [if_pos rfl, if_neg (by omega), if_pos rfl, if_neg (by omega), if_pos rfl]
          · rw [if_neg x1]
            by_cases x2 : x = k
            · subst x2
              rw [if_pos rfl, if_neg (by omega), if_neg (by omega), if_pos (by omega)]
            · rw [if_neg x2, if_neg x2, if_neg x1]
              by_cases x3 : k < x ∧ x ≤ m
              · rw [if_pos x3, if_pos (by omega)]
              · rw [if_neg x3, if_neg (by omega)]
        · have hik : i = k := by omega
          have HK := Lib.hid hik
          have hb : ¬ i < k := by omega
          clear q1 hik
          go_wp2
          refine bodyPost_ret (results_none rfl _ _ _) rfl ?_
          refine ⟨rfl, d1, Q1.out, Q2.out, Q3.out, merge_one_right HC.out.order (i := i) (by omega) (by omega) HO.out R3.out R4.out fun x => ?_⟩
          rw [Q4.out x, HK.out]
end
end Go.Proofs.YtnleljpebnnhfaaGreatDoor

set_option linter.unusedSimpArgs false
set_option linter.unusedVariables false
namespace Go.Proofs.YtnleljpebnnhfaaGreatDoor
open Go.RowKit
/-- The place where the merge's search may begin and end. -/
def Span (a m e mid s0 r0 : Nat) : Prop := a ≤ s0 ∧ s0 ≤ r0 ∧ r0 ≤ m ∧ mid + m ≤ s0 + e ∧ r0 ≤ mid ∧ (s0 = a ∨ mid + m = s0 + e) ∧ (r0 = m ∨ r0 = mid)
theorem span_ex (a m e mid : Nat) (hmid : (a + e) / 2 = mid) (h1 : a < m) (h2 : m < e) : ∃ s0 r0, Span a m e mid s0 r0 ∧ ((mid < m ∧ s0 + e = mid + m ∧ r0 = mid) ∨ (¬ mid < m ∧ s0 = a ∧ r0 = m)) := by
  by_cases h : mid < m
  · exact ⟨mid + m - e, mid, ⟨by omega, by omega, by omega, by omega, by omega, by omega, by omega⟩, .inl ⟨h, by omega, rfl⟩⟩
  · exact ⟨a, m, ⟨by omega, by omega, by omega, by omega, by omega, by omega, by omega⟩, .inr ⟨h, rfl, rfl⟩⟩
/-- What the search has shown so far. -/
def Found (le : Int → Int → Prop) (d : List Int) (mid m s0 r0 s r : Nat) : Prop :=
  (∀ c, s0 ≤ c → c < s → le (gt d c) (gt d (mid + m - 1 - c))) ∧ (∀ c, r ≤ c → c < r0 → le (gt d (mid + m - 1 - c)) (gt d c))
theorem cross_left {le : Int → Int → Prop} (O : Order le) {d : List Int} {a m e mid s0 r0 s : Nat} (hsp : Span a m e mid s0 r0) (hs : s0 ≤ s) (hs' : s ≤ r0) (h1 : SortedOn le d a m) (h2 : SortedOn le d m e) (hf : Found le d mid m s0 r0 s s) :
    ∀ i j, a ≤ i → i < s → mid + m - s ≤ j → j < e → le (gt d i) (gt d j) := by
  obtain ⟨p1, p2, p3, p4, p5, p6, p7⟩ := hsp
  intro i j a1 a2 a3 a4
  by_cases hlt : s0 < s
  · have := hf.1 (s - 1) (by omega) (by omega)
    rw [show mid + m - 1 - (s - 1) = mid + m - s by omega] at this
    exact O.trans (O.trans (SortedOn.le' O h1 a1 (by omega) (by omega)) this) (SortedOn.le' O h2 (by omega) a3 a4)
  · rcases p6 with rfl | p6
    · omega
    · omega
theorem cross_right {le : Int → Int → Prop} (O : Order le) {d : List Int} {a m e mid s0 r0 s : Nat} (hsp : Span a m e mid s0 r0) (hs : s0 ≤ s) (hs' : s ≤ r0) (h1 : SortedOn le d a m) (h2 : SortedOn le d m e) (hf : Found le d mid m s0 r0 s s) :
    ∀ i j, m ≤ i → i < mid + m - s → s ≤ j → j < m → le (gt d i) (gt d j) := by
  obtain ⟨p1, p2, p3, p4, p5, p6, p7⟩ := hsp
  intro i j a1 a2 a3 a4
  by_cases hlt : s < r0
  · have := hf.2 s (by omega) hlt
    exact O.trans (O.trans (SortedOn.le' O h2 a1 (show i ≤ mid + m - 1 - s by omega) (by omega)) this) (SortedOn.le' O h1 (by omega) a3 a4)
  · rcases p7 with rfl | rfl
    · omega
    · omega
/-- What the rotation leaves of both sorted parts. -/
theorem symMerge_parts {le : Int → Int → Prop} {d d1 : List Int} {a m mid e s en : Nat} (has : a ≤ s) (hsm : s ≤ m) (hme : m ≤ en) (heb : en ≤ e) (hn : s + en = mid + m)
    (hs1 : SortedOn le d a m) (hs2 : SortedOn le d m e) (hrot : IsRot d d1 s m en) (hp1 : PermOn s en d d1) : SortedOn le d1 a s ∧ SortedOn le d1 s mid ∧ SortedOn le d1 mid en ∧ SortedOn le d1 en e := by
  have g1 : ∀ k, k < s → gt d1 k = gt d k := fun k hk => hp1.out k (.inl hk)
  have g4 : ∀ k, en ≤ k → gt d1 k = gt d k := fun k hk => hp1.out k (.inr hk)
  have g2 : ∀ k, s ≤ k → k < mid → gt d1 k = gt d (k + (m - s)) := fun k h1 h2 => by rw [hrot.2, if_pos (by omega)]
  have g3 : ∀ k, mid ≤ k → k < en → gt d1 k = gt d (k - (en - m)) := fun k h1 h2 => by rw [hrot.2, if_neg (by omega), if_pos (by omega)]
  refine ⟨fun i j h1 h2 h3 => ?_, fun i j h1 h2 h3 => ?_, fun i j h1 h2 h3 => ?_, fun i j h1 h2 h3 => ?_⟩
  · rw [g1 i (by omega), g1 j h3]; exact hs1 i j h1 h2 (by omega)
  · rw [g2 i h1 (by omega), g2 j (by omega) h3]; exact hs2 _ _ (by omega) (by omega) (by omega)
  · rw [g3 i h1 (by omega), g3 j (by omega) h3]; exact hs1 _ _ (by omega) (by omega) (by omega)
  · rw [g4 i h1, g4 j (by omega)]; exact hs2 _ _ (by omega) (by omega) h3
theorem SortedOn.of_out {le : Int → Int → Prop} {d d' : List Int} {a m x y : Nat} (h : SortedOn le d x y) (hp : PermOn a m d d') (ho : m ≤ x) : SortedOn le d' x y := fun i j h1 h2 h3 => by
  rw [hp.out i (.inr (by omega)), hp.out j (.inr (by omega))]; exact h i j h1 h2 h3
section
variable {g : Nat} {caps : Array Value} {b : Nat} {J : World → Prop} {le : Int → Int → Prop} {S : Int → Prop} {cf : Int → Int → Int}
set_option maxRecDepth 100000 in
set_option maxHeartbeats 4000000 in
theorem symMerge_any (C : SCmp g caps b J le S cf) (N c : Nat) (h3 : N ≤ 140737488355328) (L : Nat) : ∀ (d : List Int) (a m e : Nat) (w : World), e - a ≤ L → Row w b d → J w → d.length = N → a < m → m < e → e ≤ N → (∀ k, k < N → S (gt d k)) →
    SortedOn le d a m → SortedOn le d m e →
    Calls Tryz.prog 126 #[.slice (some ⟨b, 0, none⟩) N c, .int .i64 a, .int .i64 m, .int .i64 e, .func (.func g) #[] caps] w
      fun ed w' => ed = .returned (.tuple #[]) ∧ ∃ d', Row w' b d' ∧ Chg b w w' ∧ PermOn a e d d' ∧ SortedOn le d' a e := by
  induction L with
  | zero => intro d a m e w hL _ _ _ h1 h2; omega
  | succ L ih =>
  intro d a m e w hL hr hJ hN h1 h2 he hS hs1 hs2
  by_cases hm1 : m = a + 1
  · subst hm1
    rw [Int.natCast_add]
    exact symMerge_left C d N c a e w hr hJ hN (by omega) he hS h3 hs2
  by_cases hm2 : e = m + 1
  · subst hm2
    rw [Int.natCast_add]
    exact symMerge_right C d N c a m w hr hJ hN (by omega) (by omega) hS h3 hs1
  obtain ⟨mid, hmid⟩ : ∃ mid, (a + e) / 2 = mid := ⟨_, rfl⟩
  obtain ⟨s0, r0, hspan, hbr⟩ := span_ex a m e mid hmid h1 h2
  have hmidZ : ((a : Int) + e) / 2 = mid := by omega
  have hmid1 : a < mid := by omega
  have hmid2 : mid < e := by omega
  have HN := Lib.hid hN
  have HR := Lib.hid hr
  have HS := Lib.hid hS
  have HJ := Lib.hid hJ
  have HC := Lib.hid C
  have HO1 := Lib.hid hs1
  have HO2 := Lib.hid hs2
  have IH := Lib.hid ih
  have HSP := Lib.hid hspan
  have eg := C.ent
  obtain ⟨p1, p2, p3, p4, p5, p6, p7⟩ := hspan
  have g1 : (((m : Int) - a) == 1) = false := by simp; omega
  have g2 : (((e : Int) - m) == 1) = false := by simp; omega
  clear hr hN hS hJ C hs1 hs2 ih hmid hm1 hm2 p6 p7
  have HBR := Lib.hid hbr
  clear hbr
  go_enter Tryz.func126, Tryz.ntmps126
  go_upto_if 140 with (fail)
  go_cut [20, 21] (fun v20 v21 wx => w = wx ∧ v20 = .int .i64 s0 ∧ v21 = .int .i64 r0)
  case first => as_aux_lemma =>
    rcases HBR.out with ⟨hb, e1, e2⟩ | ⟨hb, e1, e2⟩
    · have E1 := Lib.hid e1
      have E2 := Lib.hid e2
      clear e1 e2
      go_wp2
      go_meet
      refine ⟨rfl, ?_, by rw [E2.out]⟩
      have := E1.out
      congr 1; omega
    · have E1 := Lib.hid e1
      have E2 := Lib.hid e2
      clear e1 e2
      go_wp2
      go_meet
      exact ⟨rfl, by rw [E1.out], by rw [E2.out]⟩
  case rest =>
    obtain ⟨rfl, rfl, rfl⟩ := hcut
    go_wp2
    go_loopw [20, 21] (fun vs vr wr => ∃ s r : Nat, s0 ≤ s ∧ s ≤ r ∧ r ≤ r0 ∧ vs = .int .i64 s ∧ vr = .int .i64 r ∧ Row wr b d ∧ Chg b w wr ∧ Found le d mid m s0 r0 s r) (fun vs vr _ => ((intOf vr) - (intOf vs)).toNat)
    case atStart => exact ⟨s0, r0, by omega, by omega, by omega, rfl, rfl, HR.out, Chg.refl _ _, fun c h1 h2 => by omega, fun c h1 h2 => by omega⟩
    case round =>
      obtain ⟨s, r, hs1, hs2, hs3, rfl, rfl, r1, r2, r3⟩ := hrel
      have HJ2 : Hid (J wr) := HC.out.keep _ _ HJ.out r2
      have R1 := Lib.hid r1
      have R2 := Lib.hid r2
      have R3 := Lib.hid r3
      clear r1 r2 r3
      by_cases hlt : s < r
      · as_aux_lemma =>
        have hh1 : s ≤ (s + r) / 2 := by omega
        have hh2 : (s + r) / 2 < r := by omega
        obtain ⟨q, hq⟩ : ∃ q : Nat, mid + m - 1 - (s + r) / 2 = q := ⟨_, rfl⟩
        have hqZ : (mid : Int) + m - 1 - ((s : Int) + r) / 2 = q := by omega
        have hq1 : q < N := by omega
        have c1 := R1.out.cell ((s + r) / 2) (by have := HN.out; omega)
        have c2 := R1.out.cell q (by have := HN.out; omega)
        have n1 : (0 : Int) ≤ ((s : Int) + r) / 2 := by omega
        have n3 : ((s : Int) + r) / 2 < N := by omega
        have n4 : (q : Int) < N := by omega
        have t1 : (((s : Int) + r) / 2).toNat = (s + r) / 2 := by omega
        have w1 : IntKind.i64.wrap (q : Int) = q := IntWalk.i64_in _ (by omega)
        have hneg := HC.out.neg _ _ (HS.out q (by omega)) (HS.out ((s + r) / 2) (by omega))
        have HG := Lib.hid hneg
        have HQ := Lib.hid hq
        clear hneg hq
        cases hcmp : decide (cf (gt d q) (gt d ((s + r) / 2)) < 0)
        all_goals
          go_wp2
          go_still_tail 11, (by kernel_rfl)
          change wpList _ _ _ _ _ wr.drew
          go_wp2_with fail
          refine (HC.out.call wr.drew _ _ (HC.out.keep _ _ HJ2.out (Chg.refl _ _).drew) (HS.out q (by omega)) (HS.out ((s + r) / 2) (by omega))).mono ?_
          rintro ed w1 ⟨rfl, hx⟩
          have p1 : Row w1 b d := R1.out.drew.ext hx
          have p2 : Chg b wr w1 := (Chg.refl _ _).drew.ext hx
          have P1 := Lib.hid p1
          have P2 := Lib.hid p2
          clear c1 c2 hx p1 p2
          go_wp2
        · refine ⟨⟨(s + r) / 2 + 1, r, by omega, by omega, by omega, by go_num, rfl, P1.out, R2.out.trans P2.out, fun x a1 a2 => ?_, R3.out.2⟩, by simp [intOf]; omega⟩
          have hx : le (gt d ((s + r) / 2)) (gt d q) := Classical.not_not.1 fun h => by have h5 := decide_eq_true (HG.out.2 h); rw [hcmp] at h5; cases h5
          by_cases hxs : x < s
          · exact R3.out.1 x a1 hxs
          · have O := HC.out.order
            have hq' := HQ.out
            exact O.trans (SortedOn.le' O HO1.out (by omega) (show x ≤ (s + r) / 2 by omega) (by omega)) (O.trans hx (SortedOn.le' O HO2.out (by omega) (by omega) (by omega)))
        · refine ⟨⟨s, (s + r) / 2, by omega, by omega, by omega, rfl, by go_num, P1.out, R2.out.trans P2.out, R3.out.1, fun x a1 a2 => ?_⟩, by simp [intOf]; omega⟩
          have hx : le (gt d q) (gt d ((s + r) / 2)) := HC.out.order.of_not (HG.out.1 (of_decide_eq_true hcmp))
          by_cases hxs : r ≤ x
          · exact R3.out.2 x hxs a2
          · have O := HC.out.order
            have hq' := HQ.out
            exact O.trans (SortedOn.le' O HO2.out (by omega) (show mid + m - 1 - x ≤ q by omega) (by omega)) (O.trans hx (SortedOn.le' O HO1.out (by omega) (by omega) (by omega)))
      · obtain rfl : s = r := by omega
        obtain ⟨en, hen⟩ : ∃ en : Nat, mid + m - s = en := ⟨_, rfl⟩
        have henZ : (mid : Int) + m - s = en := by omega
        have hx1 := cross_left HC.out.order HSP.out hs1 hs3 HO1.out HO2.out R3.out
        have hx2 := cross_right HC.out.order HSP.out hs1 hs3 HO1.out HO2.out R3.out
        rw [hen] at hx1 hx2
        have X1 := Lib.hid hx1
        have X2 := Lib.hid hx2
        have hsum : s + en = mid + m := by omega
        have HSUM := Lib.hid hsum
        have hen1 : m ≤ en := by omega
        have hen2 : en ≤ e := by omega
        have hsm : s ≤ m := by omega
        have has : a ≤ s := by omega
        have hsmid : s ≤ mid := by omega
        have hmiden : mid ≤ en := by omega
        clear hx1 hx2 hen hsum
        -- what both merges leave
        have fin : ∀ d1 d2 d3 : List Int, IsRot d d1 s m en → PermOn s en d d1 → PermOn a mid d1 d2 → (SortedOn le d1 a s → SortedOn le d1 s mid → SortedOn le d2 a mid) →
            PermOn mid e d2 d3 → (SortedOn le d2 mid en → SortedOn le d2 en e → SortedOn le d3 mid e) → PermOn a e d d3 ∧ SortedOn le d3 a e :=
          fun d1 d2 d3 k1 k2 k3 k4 k5 k6 => symMerge_core HC.out.order has hsm hen1 hen2 HSUM.out HO1.out HO2.out X1.out X2.out k1 k2 k3 k4 k5 k6
        have FIN := Lib.hid fin
        clear fin
        obtain ⟨W39, hW39⟩ : ∃ W39 : World, W39 = wr := ⟨_, rfl⟩
        subst hW39
        go_upto_region 39 with (fail)
        go_cut [185] (fun v wx => W39 = wx ∧ v = .bool (decide (s < m ∧ m < en)))
        case first => as_aux_lemma =>
          by_cases k1 : s < m
          · have f1 : decide ((s : Int) < m) = true := by simp; omega
            by_cases k2 : m < en
            · have f2 : decide ((m : Int) < en) = true := by simp; omega
              go_wp2
              go_meet
              exact ⟨rfl, by simp [k1, k2]⟩
            · have f2 : decide ((m : Int) < en) = false := by simp; omega
              go_wp2
              go_meet
              exact ⟨rfl, by simp [k1, k2]⟩
          · have f1 : decide ((s : Int) < m) = false := by simp; omega
            go_wp2
            go_meet
            exact ⟨rfl, by simp [k1]⟩
        case rest =>
        obtain ⟨rfl, hv⟩ := hcut
        obtain ⟨bb39, hbb⟩ : ∃ bb : Bool, decide (s < m ∧ m < en) = bb := ⟨_, rfl⟩
        rw [hbb] at hv
        subst hv
        have HB39 := Lib.hid hbb
        clear hbb
        go_upto_if 185 with (fail)
        go_cut [] (fun wx => ∃ d1, Row wx b d1 ∧ Chg b w wx ∧ IsRot d d1 s m en ∧ PermOn s en d d1)
        case first => as_aux_lemma =>
          cases bb39 with
          | true =>
            have hc := of_decide_eq_true HB39.out
            go_wp2_with fail
            refine (rotate_any _ d N b c s m en _ R1.out HN.out (by omega) (by omega) (by omega) h3).mono ?_
            rintro ed w1 ⟨rfl, d1, q1, q2, q3, q4⟩
            have Q1 := Lib.hid q1
            have Q2 := Lib.hid (R2.out.trans q2)
            have Q3 := Lib.hid q3
            have Q4 := Lib.hid q4
            clear q1 q2 q3 q4 hc
            go_wp2
            go_meet
            exact ⟨d1, Q1.out, Q2.out, Q3.out, Q4.out⟩
          | false =>
            have hc := of_decide_eq_false HB39.out
            have HCC := Lib.hid hc
            clear hc
            go_wp2
            go_meet
            refine ⟨d, R1.out, R2.out, ?_, PermOn.refl _ _ _⟩
            have hc := HCC.out
            by_cases hsm' : s = m
            · subst hsm'; exact isRot_refl_left
            · obtain rfl : m = en := by omega
              exact isRot_refl_right hsm
        case rest =>
        obtain ⟨d1, q1, q2, q3, q4⟩ := hcut
        have Q1 := Lib.hid q1
        have Q2 := Lib.hid q2
        have Q3 := Lib.hid q3
        have Q4 := Lib.hid q4
        have hl1 : Hid (d1.length = N) := q3.1.trans HN.out
        have hS1 : Hid (∀ k, k < N → S (gt d1 k)) := q4.all (by omega) HS.out
        have hJ1 : Hid (J wc) := HC.out.keep _ _ HJ.out q2
        have hp := symMerge_parts has hsm hen1 hen2 HSUM.out HO1.out HO2.out q3 q4
        have HPP := Lib.hid hp
        clear q1 q2 q3 q4 hp R1 R2 HJ2
        obtain ⟨W41, hW41⟩ : ∃ W41 : World, W41 = wc := ⟨_, rfl⟩
        subst hW41
        go_upto_region 41 with (fail)
        go_cut [199] (fun v wx => W41 = wx ∧ v = .bool (decide (a < s ∧ s < mid)))
        case first => as_aux_lemma =>
          by_cases k1 : a < s
          · have f1 : decide ((a : Int) < s) = true := by simp; omega
            by_cases k2 : s < mid
            · have f2 : decide ((s : Int) < mid) = true := by simp; omega
              go_wp2
              go_meet
              exact ⟨rfl, by simp [k1, k2]⟩
            · have f2 : decide ((s : Int) < mid) = false := by simp; omega
              go_wp2
              go_meet
              exact ⟨rfl, by simp [k1, k2]⟩
          · have f1 : decide ((a : Int) < s) = false := by simp; omega
            go_wp2
            go_meet
            exact ⟨rfl, by simp [k1]⟩
        case rest =>
        obtain ⟨rfl, hv⟩ := hcut
        obtain ⟨bb41, hbb⟩ : ∃ bb : Bool, decide (a < s ∧ s < mid) = bb := ⟨_, rfl⟩
        rw [hbb] at hv
        subst hv
        have HB41 := Lib.hid hbb
        clear hbb
        go_upto_if 199 with (fail)
        go_cut [] (fun wx => ∃ d2, Row wx b d2 ∧ Chg b w wx ∧ PermOn a mid d1 d2 ∧ SortedOn le d2 a mid)
        case first => as_aux_lemma =>
          cases bb41 with
          | true =>
            have hc := of_decide_eq_true HB41.out
            go_wp2_with fail
            refine (IH.out d1 a s mid _ (by omega) Q1.out hJ1.out hl1.out (by omega) (by omega) (by omega) hS1.out HPP.out.1 HPP.out.2.1).mono ?_
            rintro ed w1 ⟨rfl, d2, q1, q2, q3, q4⟩
            have P1 := Lib.hid q1
            have P2 := Lib.hid (Q2.out.trans q2)
            have P3 := Lib.hid q3
            have P4 := Lib.hid q4
            clear q1 q2 q3 q4 hc
            go_wp2
            go_meet
            exact ⟨d2, P1.out, P2.out, P3.out, P4.out⟩
          | false =>
            have hc := of_decide_eq_false HB41.out
            have HCC := Lib.hid hc
            clear hc
            go_wp2
            go_meet
            refine ⟨d1, Q1.out, Q2.out, PermOn.refl _ _ _, ?_⟩
            have hc := HCC.out
            by_cases hsm' : a = s
            · rw [hsm']; exact HPP.out.2.1
            · obtain rfl : s = mid := by omega
              exact HPP.out.1
        case rest =>
        obtain ⟨d2, q1, q2, q3, q4⟩ := hcut
        have P1 := Lib.hid q1
        have P2 := Lib.hid q2
        have P3 := Lib.hid q3
        have P4 := Lib.hid q4
        have hl2 : Hid (d2.length = N) := q3.1.trans hl1.out
        have hS2 : Hid (∀ k, k < N → S (gt d2 k)) := q3.all (by omega) hS1.out
        have hJ2 : Hid (J wc) := HC.out.keep _ _ HJ.out q2
        clear q1 q2 q3 q4 Q1 Q2 hJ1
        obtain ⟨W43, hW43⟩ : ∃ W43 : World, W43 = wc := ⟨_, rfl⟩
        subst hW43
        go_upto_region 43 with (fail)
        go_cut [213] (fun v wx => W43 = wx ∧ v = .bool (decide (mid < en ∧ en < e)))
        case first => as_aux_lemma =>
          by_cases k1 : mid < en
          · have f1 : decide ((mid : Int) < en) = true := by simp; omega
            by_cases k2 : en < e
            · have f2 : decide ((en : Int) < e) = true := by simp; omega
              go_wp2
              go_meet
              exact ⟨rfl, by simp [k1, k2]⟩
            · have f2 : decide ((en : Int) < e) = false := by simp; omega
              go_wp2
              go_meet
              exact ⟨rfl, by simp [k1, k2]⟩
          · have f1 : decide ((mid : Int) < en) = false := by simp; omega
            go_wp2
            go_meet
            exact ⟨rfl, by simp [k1]⟩
        case rest =>
        obtain ⟨rfl, hv⟩ := hcut
        obtain ⟨bb43, hbb⟩ : ∃ bb : Bool, decide (mid < en ∧ en < e) = bb := ⟨_, rfl⟩
        rw [hbb] at hv
        subst hv
        have HB43 := Lib.hid hbb
        clear hbb
        go_upto_if 213 with (fail)
        have z1 := HPP.out.2.2.1.of_out P3.out (Nat.le_refl _)
        have z2 := HPP.out.2.2.2.of_out P3.out hmiden
        have Z1 := Lib.hid z1
        have Z2 := Lib.hid z2
        clear z1 z2
        cases bb43 with
        | true =>
          have hc := of_decide_eq_true HB43.out
          go_wp2_with fail
          refine (IH.out d2 mid en e _ (by omega) P1.out hJ2.out hl2.out (by omega) (by omega) (by omega) hS2.out Z1.out Z2.out).mono ?_
          rintro ed w1 ⟨rfl, d3, q1, q2, q3, q4⟩
          have Q1 := Lib.hid q1
          have Q2 := Lib.hid (P2.out.trans q2)
          have QQ3 := Lib.hid q3
          have QQ4 := Lib.hid q4
          clear q1 q2 q3 q4 hc
          go_wp2
          go_end0
          obtain ⟨y1, y2⟩ := FIN.out d1 d2 d3 Q3.out Q4.out P3.out (fun _ _ => P4.out) QQ3.out (fun _ _ => QQ4.out)
          exact ⟨rfl, d3, Q1.out, Q2.out, y1, y2⟩
        | false =>
          have hc := of_decide_eq_false HB43.out
          have HCC := Lib.hid hc
          clear hc
          go_wp2
          go_end0
          have hc := HCC.out
          have hd3 : SortedOn le d2 mid e := by
            by_cases hsm' : mid = en
            · rw [hsm']; exact Z2.out
            · obtain rfl : en = e := by omega
              exact Z1.out
          obtain ⟨y1, y2⟩ := FIN.out d1 d2 d2 Q3.out Q4.out P3.out (fun _ _ => P4.out) (PermOn.refl _ _ _) (fun _ _ => hd3)
          exact ⟨rfl, d2, P1.out, P2.out, y1, y2⟩
end
end Go.Proofs.YtnleljpebnnhfaaGreatDoor

set_option linter.unusedSimpArgs false
set_option linter.unusedVariables false
namespace Go.Proofs.YtnleljpebnnhfaaGreatDoor
open Go.RowKit
/-- The runs of length B that begin before x are sorted. -/
def RunsTo (le : Int → Int → Prop) (d : List Int) (B x n : Nat) : Prop := ∀ k, k * B < x → SortedOn le d (k * B) (min (k * B + B) n)
/-- The runs of length B that begin at x or later are sorted. -/
def OldFrom (le : Int → Int → Prop) (d : List Int) (B x n : Nat) : Prop := ∀ k, x ≤ k * B → SortedOn le d (k * B) (min (k * B + B) n)
theorem sortedOn_empty {le : Int → Int → Prop} {d : List Int} {a b : Nat} (h : b ≤ a + 1) : SortedOn le d a b := fun i j h1 h2 h3 => by omega
theorem sortedOn_mono {le : Int → Int → Prop} {d : List Int} {a b a' b' : Nat} (h : SortedOn le d a b) (h1 : a ≤ a') (h2 : b' ≤ b) : SortedOn le d a' b' := fun i j x1 x2 x3 => h i j (by omega) x2 (by omega)
theorem sortedOn_before {le : Int → Int → Prop} {d d' : List Int} {a m x y : Nat} (h : SortedOn le d x y) (hp : PermOn a m d d') (ho : y ≤ a) : SortedOn le d' x y := fun i j h1 h2 h3 => by
  rw [hp.out i (.inl (by omega)), hp.out j (.inl (by omega))]; exact h i j h1 h2 h3
theorem run_lt {k q B : Nat} (h : k < q) : k * B + B ≤ q * B := by
  have := Nat.mul_le_mul_right B (show k + 1 ≤ q from h)
  rw [Nat.succ_mul] at this; exact this
theorem run_le {k q B : Nat} (hB : 0 < B) (h : k * B < q * B + B) : k ≤ q := by
  rw [← Nat.succ_mul] at h
  exact Nat.lt_succ_iff.1 (Nat.lt_of_mul_lt_mul_right h)
theorem RunsTo.step {le : Int → Int → Prop} {d d' : List Int} {B q n e : Nat} (hB : 0 < B) (h : RunsTo le d B (q * B) n) (he : e = q * B + B ∨ (n = e ∧ e < q * B + B)) (hn : e ≤ n) (hp : PermOn (q * B) e d d') (hs : SortedOn le d' (q * B) e) {x : Nat} (hx : x ≤ q * B + B) : RunsTo le d' B x n := by
  intro k hk
  have hkq : k ≤ q := run_le hB (by omega)
  rcases Nat.lt_or_ge k q with h1 | h1
  · have := run_lt (B := B) h1
    exact sortedOn_before (h k (by omega)) hp (by omega)
  · obtain rfl : k = q := by omega
    exact sortedOn_mono hs (Nat.le_refl _) (by omega)
theorem RunsTo.old {le : Int → Int → Prop} {d : List Int} {B n : Nat} (h : RunsTo le d B n n) : OldFrom le d B 0 n := by
  intro k _
  by_cases hk : k * B < n
  · exact h k hk
  · exact sortedOn_empty (by omega)
theorem RunsTo.zero {le : Int → Int → Prop} {d : List Int} {B n : Nat} : RunsTo le d B 0 n := fun k hk => by omega
theorem two_runs (q B : Nat) : (2 * q) * B = q * (2 * B) ∧ (2 * q + 1) * B = q * (2 * B) + B := by
  constructor
  · rw [Nat.mul_comm 2 q, Nat.mul_assoc]
  · rw [Nat.succ_mul, Nat.mul_comm 2 q, Nat.mul_assoc]
theorem OldFrom.first {le : Int → Int → Prop} {d : List Int} {B q n : Nat} (h : OldFrom le d B (q * (2 * B)) n) : SortedOn le d (q * (2 * B)) (min (q * (2 * B) + B) n) := by
  have := h (2 * q) (by rw [(two_runs q B).1]; exact Nat.le_refl _)
  rwa [(two_runs q B).1] at this
theorem OldFrom.second {le : Int → Int → Prop} {d : List Int} {B q n : Nat} (h : OldFrom le d B (q * (2 * B)) n) : SortedOn le d (q * (2 * B) + B) (min (q * (2 * B) + 2 * B) n) := by
  have := h (2 * q + 1) (by rw [(two_runs q B).2]; omega)
  rw [(two_runs q B).2] at this
  rwa [show q * (2 * B) + B + B = q * (2 * B) + 2 * B by omega] at this
theorem OldFrom.step {le : Int → Int → Prop} {d d' : List Int} {B a e n : Nat} (h : OldFrom le d B a n) (hp : PermOn a e d d') (ha : a ≤ e) : OldFrom le d' B e n := fun k hk => (h k (by omega)).of_out hp hk
section
variable {g : Nat} {caps : Array Value} {b : Nat} {J : World → Prop} {le : Int → Int → Prop} {S : Int → Prop} {cf : Int → Int → Int}
set_option maxRecDepth 100000 in
set_option maxHeartbeats 2000000 in
theorem stable_any (C : SCmp g caps b J le S cf) (d : List Int) (N c : Nat) (w : World) (hr : Row w b d) (hJ : J w) (hN : d.length = N) (hS : ∀ k, k < N → S (gt d k)) (h3 : N ≤ 140737488355328) :
    Calls Tryz.prog 113 #[.slice (some ⟨b, 0, none⟩) N c, .int .i64 N, .func (.func g) #[] caps] w
      fun ed w' => ed = .returned (.tuple #[]) ∧ ∃ d', Row w' b d' ∧ Chg b w w' ∧ PermOn 0 N d d' ∧ SortedOn le d' 0 N := by
  have HN := Lib.hid hN
  have HR := Lib.hid hr
  have HS := Lib.hid hS
  have HJ := Lib.hid hJ
  have HC := Lib.hid C
  clear hr hN hS hJ C
  go_enter Tryz.func113, Tryz.ntmps113
  go_wp2
  go_loopw [7, 8] (fun v7 v8 wr => ∃ q a : Nat, a = q * 20 ∧ a ≤ N ∧ v7 = .int .i64 a ∧ v8 = .int .i64 ((a : Int) + 20) ∧ ∃ d1, Row wr b d1 ∧ Chg b w wr ∧ PermOn 0 N d d1 ∧ RunsTo le d1 20 a N) (fun v7 _ _ => N - (intOf v7).toNat)
  case atStart => exact ⟨0, 0, by omega, by omega, rfl, rfl, d, HR.out, Chg.refl _ _, PermOn.refl _ _ _, RunsTo.zero⟩
  case round =>
    obtain ⟨q, a, hqa, ha, rfl, rfl, d1, r1, r2, r3, r4⟩ := hrel
    have HL : Hid (d1.length = N) := r3.1.trans HN.out
    have HS1 : Hid (∀ k, k < N → S (gt d1 k)) := r3.all (Nat.le_refl _) HS.out
    have HJ1 : Hid (J wr) := HC.out.keep _ _ HJ.out r2
    have R1 := Lib.hid r1
    have R2 := Lib.hid r2
    have R3 := Lib.hid r3
    have R4 := Lib.hid r4
    have HQ := Lib.hid hqa
    clear r1 r2 r3 r4 hqa
    by_cases hlt : a + 20 ≤ N
    · go_wp2_with fail
      rw [show (a : Int) + 20 = ((a + 20 : Nat) : Int) by omega]
      refine (insertion_any HC.out d1 N c a (a + 20) _ R1.out HJ1.out HL.out (by omega) (by omega) HS1.out h3).mono ?_
      rintro ed w1 ⟨rfl, d2, q1, q2, q3, q4⟩
      have Q1 := Lib.hid q1
      have Q2 := Lib.hid (R2.out.trans q2)
      have Q3 := Lib.hid q3
      have Q4 := Lib.hid q4
      clear q1 q2 q3 q4
      go_wp2
      refine ⟨⟨q + 1, a + 20, by have := HQ.out; omega, by omega, by go_num, by go_num, d2, Q1.out, Q2.out, R3.out.trans (Q3.out.widen (by omega) (by omega)), ?_⟩, by simp [intOf]; omega⟩
      have hq := HQ.out
      subst hq
      exact RunsTo.step (by omega) R4.out (.inl rfl) hlt Q3.out Q4.out (Nat.le_refl _)
    · go_wp2_with fail
      refine (insertion_any HC.out d1 N c a N _ R1.out HJ1.out HL.out (by omega) (by omega) HS1.out h3).mono ?_
      rintro ed w1 ⟨rfl, d2, q1, q2, q3, q4⟩
      have Q1 := Lib.hid q1
      have Q2 := Lib.hid (R2.out.trans q2)
      have Q3 := Lib.hid (R3.out.trans (q3.widen (by omega) (Nat.le_refl _)))
      have q5 : RunsTo le d2 20 N N := by
        have hq := HQ.out
        subst hq
        exact RunsTo.step (by omega) R4.out (.inr ⟨rfl, by omega⟩) (Nat.le_refl _) q3 q4 (by omega)
      have Q4 := Lib.hid q5
      clear q1 q2 q3 q4 q5 R1 R2 R3 R4 HS1 HJ1 HL HQ
      go_wp2
      obtain ⟨w2, hw2⟩ : ∃ w2 : World, w2 = w1 := ⟨_, rfl⟩
      subst hw2
      go_loopw [6] (fun v6 wr => ∃ B : Nat, 0 < B ∧ B ≤ 2 * N + 20 ∧ v6 = .int .i64 B ∧ ∃ d3, Row wr b d3 ∧ Chg b w wr ∧ PermOn 0 N d d3 ∧ RunsTo le d3 B N N) (fun v6 _ => N - (intOf v6).toNat)
      case atStart => exact ⟨20, by omega, by omega, rfl, d2, Q1.out, Q2.out, Q3.out, Q4.out⟩
      case round =>
        obtain ⟨B, hB, hBN, rfl, d3, r1, r2, r3, r4⟩ := hrel
        have R1 := Lib.hid r1
        have R2 := Lib.hid r2
        have R3 := Lib.hid r3
        have R4 := Lib.hid r4
        clear r1 r2 r3 r4 Q1 Q2 Q3 Q4
        by_cases hlt2 : B < N
        · go_wp2
          obtain ⟨w3, hw3⟩ : ∃ w3 : World, w3 = wr := ⟨_, rfl⟩
          subst hw3
          go_loopw [7, 8] (fun v7 v8 wr => ∃ q a : Nat, a = q * (2 * B) ∧ a ≤ N ∧ v7 = .int .i64 a ∧ v8 = .int .i64 ((a : Int) + 2 * B) ∧ ∃ d4, Row wr b d4 ∧ Chg b w wr ∧ PermOn 0 N d d4 ∧ RunsTo le d4 (2 * B) a N ∧ OldFrom le d4 B a N) (fun v7 _ _ => N - (intOf v7).toNat)
          case atStart => exact ⟨0, 0, by omega, by omega, rfl, by congr 1; omega, d3, R1.out, R2.out, R3.out, RunsTo.zero, R4.out.old⟩
          case round =>
            obtain ⟨q, a', hqa, ha', rfl, rfl, d4, q1, q2, q3, q4, q5⟩ := hrel
            have HL : Hid (d4.length = N) := q3.1.trans HN.out
            have HS1 : Hid (∀ k, k < N → S (gt d4 k)) := q3.all (Nat.le_refl _) HS.out
            have HJ1 : Hid (J wr) := HC.out.keep _ _ HJ.out q2
            have y1 : SortedOn le d4 a' (min (a' + B) N) := by subst hqa; exact q5.first
            have y2 : SortedOn le d4 (a' + B) (min (a' + 2 * B) N) := by subst hqa; exact q5.second
            have Q1 := Lib.hid q1
            have Q2 := Lib.hid q2
            have Q3 := Lib.hid q3
            have Q4 := Lib.hid q4
            have Q5 := Lib.hid q5
            have Y1 := Lib.hid y1
            have Y2 := Lib.hid y2
            have HQ := Lib.hid hqa
            clear q1 q2 q3 q4 q5 hqa y1 y2 R1 R2 R3 R4
            by_cases hlt3 : a' + 2 * B ≤ N
            · have hltZ : (a' : Int) + 2 * B ≤ N := by omega
              go_wp2_with fail
              rw [show (a' : Int) + B = ((a' + B : Nat) : Int) by omega, show (a' : Int) + 2 * B = ((a' + 2 * B : Nat) : Int) by omega]
              refine (symMerge_any HC.out N c h3 N d4 a' (a' + B) (a' + 2 * B) _ (by omega) Q1.out HJ1.out HL.out (by omega) (by omega) (by omega) HS1.out (sortedOn_mono Y1.out (Nat.le_refl _) (by omega)) (sortedOn_mono Y2.out (Nat.le_refl _) (by omega))).mono ?_
              rintro ed w1 ⟨rfl, d5, q1, q2, q3, q4⟩
              have P1 := Lib.hid q1
              have P2 := Lib.hid (Q2.out.trans q2)
              have P3 := Lib.hid q3
              have P4 := Lib.hid q4
              clear q1 q2 q3 q4
              go_wp2
              refine ⟨⟨q + 1, a' + 2 * B, by have := HQ.out; rw [Nat.succ_mul q]; omega, by omega, by first | rfl | (congr 1; omega) | go_num, by first | rfl | (congr 1; omega) | go_num, d5, P1.out, P2.out, Q3.out.trans (P3.out.widen (by omega) (by omega)), ?_, Q5.out.step P3.out (by omega)⟩, by simp [intOf]; omega⟩
              have hq := HQ.out
              subst hq
              exact RunsTo.step (by omega) Q4.out (.inl rfl) hlt3 P3.out P4.out (Nat.le_refl _)
            · have hltZ : ¬ (a' : Int) + 2 * B ≤ N := by omega
              by_cases hlt4 : a' + B < N
              · have h4Z : (a' : Int) + B < N := by omega
                go_wp2_with fail
                rw [show (a' : Int) + B = ((a' + B : Nat) : Int) by omega]
                refine (symMerge_any HC.out N c h3 N d4 a' (a' + B) N _ (by omega) Q1.out HJ1.out HL.out (by omega) (by omega) (by omega) HS1.out (sortedOn_mono Y1.out (Nat.le_refl _) (by omega)) (sortedOn_mono Y2.out (Nat.le_refl _) (by omega))).mono ?_
                rintro ed w1 ⟨rfl, d5, q1, q2, q3, q4⟩
                have P1 := Lib.hid q1
                have P2 := Lib.hid (Q2.out.trans q2)
                have P3 := Lib.hid q3
                have P4 := Lib.hid q4
                clear q1 q2 q3 q4
                go_wp2
                refine ⟨⟨2 * B, by omega, by omega, by congr 1; omega, d5, P1.out, P2.out, Q3.out.trans (P3.out.widen (by omega) (by omega)), ?_⟩, by simp [intOf]; omega⟩
                have hq := HQ.out
                subst hq
                exact RunsTo.step (by omega) Q4.out (.inr ⟨rfl, by omega⟩) (Nat.le_refl _) P3.out P4.out (by omega)
              · have h4Z : ¬ (a' : Int) + B < N := by omega
                go_wp2
                refine ⟨⟨2 * B, by omega, by omega, by congr 1; omega, d4, Q1.out, Q2.out, Q3.out, ?_⟩, by simp [intOf]; omega⟩
                have hq := HQ.out
                have hy := Y1.out
                subst hq
                exact RunsTo.step (by omega) Q4.out (.inr ⟨rfl, by omega⟩) (Nat.le_refl _) (PermOn.refl _ _ _) (sortedOn_mono hy (Nat.le_refl _) (by omega)) (by omega)
        · go_wp2
          go_end0
          refine ⟨rfl, d3, R1.out, R2.out, R3.out, ?_⟩
          by_cases h0 : 0 < N
          · have := R4.out 0 (by omega)
            exact sortedOn_mono this (by omega) (by omega)
          · exact sortedOn_empty (by omega)
theorem sortStable_any (C : SCmp g caps b J le S cf) (d : List Int) (N c : Nat) (w : World) (hr : Row w b d) (hJ : J w) (hN : d.length = N) (hS : ∀ k, k < N → S (gt d k)) (h3 : N ≤ 140737488355328) :
    Calls Tryz.prog 94 #[.slice (some ⟨b, 0, none⟩) N c, .func (.func g) #[] caps] w
      fun ed w' => ed = .returned (.tuple #[]) ∧ ∃ d', Row w' b d' ∧ Chg b w w' ∧ PermOn 0 N d d' ∧ SortedOn le d' 0 N := by
  have H := Lib.hid (stable_any C d N c w hr hJ hN hS h3)
  clear hr hJ hN hS C
  go_enter Tryz.func94, Tryz.ntmps94
  go_wp2_with fail
  refine H.out.mono ?_
  rintro ed w1 ⟨rfl, hq⟩
  have HQ := Lib.hid hq
  clear hq H
  go_wp2
  go_end0
  exact ⟨rfl, HQ.out⟩
end
end Go.Proofs.YtnleljpebnnhfaaGreatDoor

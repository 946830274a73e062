/- Size, Same, Cut, Cyclic of package tree. -/
import Derived.Test.YtnleljpebnnhfaaGreatDoorZh
import Derived.Test.YtnleljpebnnhfaaGreatDoorZi

set_option linter.unusedSimpArgs false
set_option linter.unusedVariables false
namespace Go.Proofs.YtnleljpebnnhfaaGreatDoor
open Go.RowKit
theorem slicesEqual_any (xs ys : List Int) (A B : Option Addr) (c d : Nat) (w : World) (hx : Rd iv w A xs) (hy : Rd iv w B ys) :
    Calls Tryz.prog 70 #[.slice A xs.length c, .slice B ys.length d] w fun e w' => e = .returned (.bool (decide (xs = ys))) ∧ Ext w w' := by
  by_cases hl : xs.length = ys.length
  · have h1 := hx.1
    have HX := Lib.hid hx
    have HY := Lib.hid hy
    have hd : ((xs.length : Int) != (ys.length : Int)) = false := by simp [hl]
    have HL := Lib.hid hl
    clear hx hy hl
    go_enter Tryz.func70, Tryz.ntmps70
    go_wp2
    go_loopw [13] (fun i wr => ∃ k : Nat, k ≤ xs.length ∧ i = .int .i64 k ∧ (∀ j, j < k → gt xs j = gt ys j) ∧ Ext w wr) (fun i _ => xs.length - (intOf i).toNat)
    case atStart => exact ⟨0, by omega, rfl, fun j hj => by omega, Ext.rfl' _⟩
    case round =>
      obtain ⟨k, hk, rfl, hall, hext⟩ := hrel
      have HA := Lib.hid hall
      have HE := Lib.hid hext
      clear hall
      by_cases hlt : k < xs.length
      · have hlt2 : k < ys.length := by have := HL.out; omega
        obtain ⟨b, o, rfl, hc⟩ := (HX.out.ext hext).2 (by omega)
        obtain ⟨b', o', rfl, hc'⟩ := (HY.out.ext hext).2 (by omega)
        have c1 := hc k hlt
        have c2 := hc' k hlt2
        rw [gt_eq] at c1 c2
        clear hc hc' hext
        by_cases heq : gt xs k = gt ys k
        · have hne : (gt xs k != gt ys k) = false := by simp [heq]
          have HQ := Lib.hid heq
          clear heq
          go_wp2
          go_quiet (fail)
          go_wp2
          refine ⟨⟨k + 1, by omega, by go_num, fun j hj => ?_, HE.out.drewN _⟩, by simp [intOf]; omega⟩
          rcases Nat.lt_or_ge j k with h | h
          · exact HA.out j h
          · obtain rfl : j = k := by omega
            exact HQ.out
        · have hne : (gt xs k != gt ys k) = true := by simp [heq]
          have HQ := Lib.hid heq
          clear heq
          go_wp2
          go_quiet (fail)
          go_wp2
          go_ret
          refine ⟨retB ?_, HE.out.drewN _⟩
          symm
          rw [decide_eq_false_iff_not]
          rintro rfl
          exact HQ.out rfl
      · go_wp2
        go_ret
        refine ⟨retB ?_, HE.out⟩
        symm
        rw [decide_eq_true_eq]
        refine List.ext_getElem HL.out fun j h1 h2 => ?_
        rw [gt_eq xs j h1, gt_eq ys j h2]
        exact HA.out j (by omega)
  · have hd : ((xs.length : Int) != (ys.length : Int)) = true := by simp; omega
    have hne : decide (xs = ys) = false := by
      rw [decide_eq_false_iff_not]
      rintro rfl
      exact hl rfl
    have HN := Lib.hid hne
    clear hx hy hl hne
    go_enter Tryz.func70, Tryz.ntmps70
    go_wp2
    go_ret
    exact ⟨retB HN.out.symm, Ext.rfl' _⟩
/-- Two nodes are equal. -/
def eqNd (m n : Nd) : Bool := decide (cmpTop m n = 0) && decide (m.args = n.args)
set_option maxRecDepth 100000 in
theorem equal1_any (m n : Nd) (A B : Option Addr) (c d : Nat) (w : World) (hm : Rd iv w A m.args) (hn : Rd iv w B n.args) :
    Calls Tryz.prog 69 #[.agg #[.int .i64 m.kind, .int .i64 m.num, .string m.label, .slice A m.args.length c], .agg #[.int .i64 n.kind, .int .i64 n.num, .string n.label, .slice B n.args.length d]] w
      fun e w' => e = .returned (.bool (eqNd m n)) ∧ Ext w w' := by
  have l1 := hm.1
  have l2 := hn.1
  have HM := Lib.hid hm
  have HN := Lib.hid hn
  clear hm hn
  by_cases hz : cmpTop m n = 0
  · have hz' : (cmpTop m n == 0) = true := by simp [hz]
    have HZ := Lib.hid hz
    clear hz
    go_enter Tryz.func69, Tryz.ntmps69
    go_wp2_with fail
    refine (compareTop_any m n A B c d _ l1 l2).mono ?_
    rintro e w1 ⟨rfl, hx⟩
    have k1 : w1.cell? ⟨w.heap.size, 3, none⟩ = some (.slice A m.args.length c) := hx.cell (by simp)
    have k2 : w1.cell? ⟨w.heap.size + 1, 3, none⟩ = some (.slice B n.args.length d) := hx.cell ((cell_of_row _ _ 3 _ _ _ (new_heap _ _ (w.heap.size + 1) (by simp))).trans rfl)
    have HX := Lib.hid ((((Ext.rfl' w).alloc _).alloc _).trans' hx)
    clear hx
    go_wp2_with fail
    refine (slicesEqual_any m.args n.args A B c d w1 (HM.out.ext HX.out) (HN.out.ext HX.out)).mono ?_
    rintro e w2 ⟨rfl, hx2⟩
    have HX2 := Lib.hid (HX.out.trans' hx2)
    clear hx2 k1 k2
    go_wp2
    go_ret
    exact ⟨retB (by simp [eqNd, HZ.out]), HX2.out⟩
  · have hz' : (cmpTop m n == 0) = false := by simp [hz]
    have HZ := Lib.hid hz
    clear hz
    go_enter Tryz.func69, Tryz.ntmps69
    go_wp2_with fail
    refine (compareTop_any m n A B c d _ l1 l2).mono ?_
    rintro e w1 ⟨rfl, hx⟩
    have HX := Lib.hid ((((Ext.rfl' w).alloc _).alloc _).trans' hx)
    clear hx
    go_wp2
    go_ret
    exact ⟨retB (by simp [eqNd, HZ.out]), HX.out⟩
/-- Two rows of nodes are equal. -/
def eqG (C D : List Nd) : Bool := decide (C.length = D.length) && (List.range C.length).all fun i => eqNd (nd C i) (nd D i)
theorem eqG_iff {C D : List Nd} (hC : VG C) (hD : VG D) : eqG C D = true ↔ C = D := by
  simp only [eqG, Bool.and_eq_true, decide_eq_true_eq, List.all_eq_true, List.mem_range, eqNd]
  constructor
  · rintro ⟨hl, h⟩
    refine List.ext_getElem hl fun i h1 h2 => ?_
    obtain ⟨e1, e2⟩ := h i h1
    have v1 := hC _ (nd_mem h1)
    have v2 := hD _ (nd_mem h2)
    have ht := (cmpTop_zero v1 v2).1 e1
    rw [← nd_eq h1, ← nd_eq h2]
    cases hx : nd C i
    cases hy : nd D i
    rw [hx, hy] at ht e2
    simp [topN] at ht e2
    simp [ht, e2]
  · rintro rfl
    exact ⟨rfl, fun i _ => ⟨cmpTop_cmp.self _, rfl⟩⟩
set_option maxRecDepth 100000 in
theorem equalFunc_any (C D : List Nd) (A B : Option Addr) (c d : Nat) (w : World) (hC : NdsRd w A C) (hD : NdsRd w B D) :
    Calls Tryz.prog 68 #[.slice A C.length c, .slice B D.length d, .func (.func 69) #[] #[]] w fun e w' => e = .returned (.bool (eqG C D)) ∧ Ext w w' := by
  by_cases hl : C.length = D.length
  · have h1 := hC.1
    have HC := Lib.hid hC
    have HD := Lib.hid hD
    have hd : ((C.length : Int) != (D.length : Int)) = false := by simp [hl]
    have HL := Lib.hid hl
    clear hC hD hl
    go_enter Tryz.func68, Tryz.ntmps68
    go_wp2
    go_loopw [17] (fun i wr => ∃ k : Nat, k ≤ C.length ∧ i = .int .i64 k ∧ (∀ j, j < k → eqNd (nd C j) (nd D j) = true) ∧ Ext w wr) (fun i _ => C.length - (intOf i).toNat)
    case atStart => exact ⟨0, by omega, rfl, fun j hj => by omega, Ext.rfl' _⟩
    case round =>
      obtain ⟨k, hk, rfl, hall, hext⟩ := hrel
      have HA := Lib.hid hall
      have HE := Lib.hid hext
      clear hall
      by_cases hlt : k < C.length
      · have hlt2 : k < D.length := by have := HL.out; omega
        obtain ⟨b, o, hA, A1, c1, p0, p1, p2, p3, p4, p5⟩ := (HC.out.ext hext).get hlt
        obtain ⟨b', o', hB, A2, c2, q0, q1, q2, q3, q4, q5⟩ := (HD.out.ext hext).get hlt2
        have P5 := Lib.hid p5
        have Q5 := Lib.hid q5
        have q0' : ∀ ob, (wr.alloc ob).cell? ⟨b', o' + k * 4, none⟩ = _ := fun ob => ((Ext.rfl' wr).alloc ob).cell q0
        have q1' : ∀ ob, (wr.alloc ob).cell? ⟨b', o' + k * 4 + 1, none⟩ = _ := fun ob => ((Ext.rfl' wr).alloc ob).cell q1
        have q2' : ∀ ob, (wr.alloc ob).cell? ⟨b', o' + k * 4 + 2, none⟩ = _ := fun ob => ((Ext.rfl' wr).alloc ob).cell q2
        have q3' : ∀ ob, (wr.alloc ob).cell? ⟨b', o' + k * 4 + 3, none⟩ = _ := fun ob => ((Ext.rfl' wr).alloc ob).cell q3
        subst hA hB
        clear hext p4 p5 q4 q5 q0 q1 q2 q3
        go_wp2_with fail
        cases hq : eqNd (nd C k) (nd D k) with
        | true =>
          have HQ := Lib.hid hq
          refine (equal1_any (nd C k) (nd D k) A1 A2 c1 c2 _ (P5.out.ext (((Ext.rfl' _).alloc _).alloc _)) (Q5.out.ext (((Ext.rfl' _).alloc _).alloc _))).mono ?_
          rw [hq]
          rintro e w1 ⟨rfl, hx⟩
          have HX := Lib.hid (HE.out.trans' ((((Ext.rfl' _).alloc _).alloc _).trans' hx))
          clear hx hq q0' q1' q2' q3' p0 p1 p2 p3
          go_wp2
          refine ⟨⟨k + 1, by omega, by go_num, fun j hj => ?_, HX.out⟩, by simp [intOf]; omega⟩
          rcases Nat.lt_or_ge j k with h | h
          · exact HA.out j h
          · obtain rfl : j = k := by omega
            exact HQ.out
        | false =>
          have HQ := Lib.hid hq
          refine (equal1_any (nd C k) (nd D k) A1 A2 c1 c2 _ (P5.out.ext (((Ext.rfl' _).alloc _).alloc _)) (Q5.out.ext (((Ext.rfl' _).alloc _).alloc _))).mono ?_
          rw [hq]
          rintro e w1 ⟨rfl, hx⟩
          have HX := Lib.hid (HE.out.trans' ((((Ext.rfl' _).alloc _).alloc _).trans' hx))
          clear hx hq q0' q1' q2' q3' p0 p1 p2 p3
          go_wp2
          go_ret
          refine ⟨retB ?_, HX.out⟩
          symm
          rw [Bool.eq_false_iff]
          intro h
          simp only [eqG, Bool.and_eq_true, List.all_eq_true, List.mem_range] at h
          have := h.2 k hlt
          rw [HQ.out] at this
          cases this
      · go_wp2
        go_ret
        refine ⟨retB ?_, HE.out⟩
        have hL := HL.out
        symm
        simp only [eqG, Bool.and_eq_true, decide_eq_true_eq, List.all_eq_true, List.mem_range]
        exact ⟨hL, fun i hi => HA.out i (by omega)⟩
  · have hd : ((C.length : Int) != (D.length : Int)) = true := by simp; omega
    have hne : eqG C D = false := by simp [eqG, hl]
    have HN := Lib.hid hne
    clear hC hD hl hne
    go_enter Tryz.func68, Tryz.ntmps68
    go_wp2
    go_ret
    exact ⟨retB HN.out.symm, Ext.rfl' _⟩
set_option maxRecDepth 100000 in
theorem equal_any (C D : List Nd) (A B : Option Addr) (c d : Nat) (x y : Int) (w : World) (hC : NdsRd w A C) (hD : NdsRd w B D) :
    Calls Tryz.prog 47 #[.agg #[.slice A C.length c, .int .i64 x], .agg #[.slice B D.length d, .int .i64 y]] w fun e w' => e = .returned (.bool (eqG C D)) ∧ Ext w w' := by
  have HC := Lib.hid hC
  have HD := Lib.hid hD
  clear hC hD
  go_enter Tryz.func47, Tryz.ntmps47
  go_wp2_with fail
  refine (equalFunc_any C D A B c d _ (HC.out.ext (((Ext.rfl' _).alloc _).alloc _)) (HD.out.ext (((Ext.rfl' _).alloc _).alloc _))).mono ?_
  rintro e w1 ⟨rfl, hx⟩
  have HX := Lib.hid ((((Ext.rfl' _).alloc _).alloc _).trans' hx)
  clear hx
  go_wp2
  go_ret
  exact ⟨rfl, HX.out⟩
end Go.Proofs.YtnleljpebnnhfaaGreatDoor

set_option linter.unusedSimpArgs false
set_option linter.unusedVariables false
namespace Go.Proofs.YtnleljpebnnhfaaGreatDoor
open Go.RowKit
/-- What Size hands back. -/
def SizePost (G : List Nd) (root : Int) (w : World) (e : Ending) (w' : World) : Prop :=
  Ext w w' ∧ if validT G root then ∃ C, e = .returned (.tuple #[.int .i64 C.length, .int .i64 0]) ∧ Canon C (den G root.toNat)
  else e = .returned (.tuple #[.int .i64 0, .int .i64 2])
theorem valid_call (G : List Nd) (root : Int) (A : Option Addr) (c N : Nat) (w W : World) (hr : NdsRd w A G) (hroot : root ≤ 9223372036854775807) (hN : G.length = N) (hW : Ext w W) :
    Calls Tryz.prog 38 #[.agg #[.slice A N c, .int .i64 root]] W fun e w' => e = .returned (.bool (validT G root)) ∧ Ext W w' := by
  have := valid_any G root A c W (hr.ext hW) hroot
  rwa [hN] at this
theorem field24 (A : Option Addr) (n c : Nat) (r : Int) (W : World) : (Instr.field 24 (.agg #[.slice A n c, .int .i64 r]) 0).run Tryz.prog W = .ok (.slice A n c) W := by kernel_rfl
set_option maxRecDepth 100000 in
theorem Size_any (G : List Nd) (root : Int) (A : Option Addr) (c N : Nat) (w : World) (hr : NdsRd w A G) (hroot : root ≤ 9223372036854775807) (hN : G.length = N) :
    Calls Tryz.prog 29 #[.agg #[.slice A N c, .int .i64 root]] w (SizePost G root w) := by
  have HV : Hid (∀ W, Ext w W → _) := Lib.hid fun W hW => valid_call G root A c N w W hr hroot hN hW
  have HR := Lib.hid hr
  have HN := Lib.hid hN
  clear hr hN
  cases hvt : validT G root with
  | false =>
    have HVT := Lib.hid hvt
    clear hvt
    go_enter Tryz.func29, Tryz.ntmps29
    go_wp2_with fail
    refine (HV.out _ ((Ext.rfl' _).alloc _)).mono ?_
    rw [HVT.out]
    rintro e w1 ⟨rfl, hx⟩
    have HX := Lib.hid (((Ext.rfl' w).alloc _).trans' hx)
    clear hx
    go_wp2
    go_ret2
    unfold SizePost
    rw [HVT.out]
    exact ⟨HX.out, rfl⟩
  | true =>
    obtain ⟨v1, v2, v3, v4, v5⟩ := validT_iff.1 hvt
    obtain ⟨r, rfl⟩ := Int.eq_ofNat_of_zero_le v3
    have hrN : r < N := by rw [HN.out] at v4; omega
    have HL : Hid (∀ W, Ext w W → _) := Lib.hid fun W hW => least_any G v5 r N HN.out A c W (HR.out.ext hW) hrN (by rw [← HN.out]; omega)
    have HVT := Lib.hid hvt
    clear hvt v1 v2 v3 v4 v5
    go_enter Tryz.func29, Tryz.ntmps29
    go_wp2_with fail
    refine (HV.out _ ((Ext.rfl' _).alloc _)).mono ?_
    rw [HVT.out]
    rintro e w1 ⟨rfl, hx⟩
    have b8 : w1.cell? ⟨w.heap.size, 0, none⟩ = some (.slice A N c) := hx.cell (by simp)
    have b9 : w1.cell? ⟨w.heap.size, 1, none⟩ = some (.int .i64 r) := hx.cell (by simp)
    have HX := Lib.hid (((Ext.rfl' w).alloc _).trans' hx)
    clear hx
    go_wp2_with fail
    refine (HL.out _ HX.out).mono ?_
    rintro e w2 ⟨C, v, rfl, n1, n2, n3, n4⟩
    obtain ⟨Av, cv, rfl, hcv⟩ := n1.shape
    have HE := Lib.hid (HX.out.trans' n4)
    have N2 := Lib.hid n2
    clear n1 n2 n3 n4 b8 b9
    have hfl := field24
    go_wp2
    go_ret2
    unfold SizePost
    rw [HVT.out]
    exact ⟨HE.out, C, rfl, by simpa using N2.out⟩
theorem canon_eq {C D : List Nd} {x y : List Nat → Option Top} (hC : Canon C x) (hD : Canon D y) : eqG C D = true ↔ x = y := by
  rw [eqG_iff hC.vg hD.vg]
  constructor
  · rintro rfl
    rw [← hC.root, ← hD.root]
  · rintro rfl
    exact hC.unique hD
/-- Four cells stay. -/
theorem keep4 {w W W' : World} {a1 a2 a3 a4 : Addr} {v1 v2 v3 v4 : Value} (h : Ext w W ∧ W.cell? a1 = some v1 ∧ W.cell? a2 = some v2 ∧ W.cell? a3 = some v3 ∧ W.cell? a4 = some v4) (k : Ext W W') :
    Ext w W' ∧ W'.cell? a1 = some v1 ∧ W'.cell? a2 = some v2 ∧ W'.cell? a3 = some v3 ∧ W'.cell? a4 = some v4 :=
  ⟨h.1.trans' k, k.cell h.2.1, k.cell h.2.2.1, k.cell h.2.2.2.1, k.cell h.2.2.2.2⟩
/-- What Same hands back. -/
def SamePost (G : List Nd) (root : Int) (H : List Nd) (rooh : Int) (w : World) (e : Ending) (w' : World) : Prop :=
  Ext w w' ∧ ((validT G root && validT H rooh) = true → ∃ b : Bool, e = .returned (.tuple #[.bool b, .int .i64 0]) ∧ (b = true ↔ den G root.toNat = den H rooh.toNat)) ∧
    ((validT G root && validT H rooh) = false → e = .returned (.tuple #[.bool false, .int .i64 2]))
set_option maxRecDepth 100000 in
set_option maxHeartbeats 1000000 in
theorem Same_any (G H : List Nd) (root rooh : Int) (A B : Option Addr) (c d N M : Nat) (w : World) (hr : NdsRd w A G) (hs : NdsRd w B H) (hroot : root ≤ 9223372036854775807) (hrooh : rooh ≤ 9223372036854775807) (hN : G.length = N) (hM : H.length = M) :
    Calls Tryz.prog 25 #[.agg #[.slice A N c, .int .i64 root], .agg #[.slice B M d, .int .i64 rooh]] w (SamePost G root H rooh w) := by
  have HV : Hid (∀ W, Ext w W → _) := Lib.hid fun W hW => valid_call G root A c N w W hr hroot hN hW
  have HU : Hid (∀ W, Ext w W → _) := Lib.hid fun W hW => valid_call H rooh B d M w W hs hrooh hM hW
  have HR := Lib.hid hr
  have HS := Lib.hid hs
  have HN := Lib.hid hN
  have HM := Lib.hid hM
  clear hr hs hN hM
  cases hvt : validT G root with
  | false =>
    have HVT := Lib.hid hvt
    clear hvt
    go_enter Tryz.func25, Tryz.ntmps25
    go_wp2_with fail
    refine (HV.out _ (((Ext.rfl' _).alloc _).alloc _)).mono ?_
    rw [HVT.out]
    rintro e w1 ⟨rfl, hx⟩
    have HX := Lib.hid ((((Ext.rfl' w).alloc _).alloc _).trans' hx)
    clear hx
    go_wp2
    go_ret2
    unfold SamePost
    rw [HVT.out]
    exact ⟨HX.out, fun h => by simp at h, fun _ => rfl⟩
  | true =>
  have hcell : ∀ w1, Ext ((w.alloc (.cells #[.slice A N c, .int .i64 root] 24)).alloc (.cells #[.slice B M d, .int .i64 rooh] 24)) w1 → w1.cell? ⟨w.heap.size, 0, none⟩ = some (.slice A N c) ∧ w1.cell? ⟨w.heap.size, 1, none⟩ = some (.int .i64 root) ∧
      w1.cell? ⟨w.heap.size + 1, 0, none⟩ = some (.slice B M d) ∧ w1.cell? ⟨w.heap.size + 1, 1, none⟩ = some (.int .i64 rooh) := fun w1 hx =>
    ⟨hx.cell (by simp), hx.cell (by simp), hx.cell ((cell_of_row _ _ 0 _ _ _ (new_heap _ _ (w.heap.size + 1) (by simp))).trans rfl), hx.cell ((cell_of_row _ _ 1 _ _ _ (new_heap _ _ (w.heap.size + 1) (by simp))).trans rfl)⟩
  have HC := Lib.hid hcell
  have HVT := Lib.hid hvt
  clear hvt hcell
  cases hvu : validT H rooh with
  | false =>
    have HVU := Lib.hid hvu
    clear hvu
    go_enter Tryz.func25, Tryz.ntmps25
    go_wp2_with fail
    refine (HV.out _ (((Ext.rfl' _).alloc _).alloc _)).mono ?_
    rw [HVT.out]
    rintro e w1 ⟨rfl, hx⟩
    obtain ⟨k1, k2, k3, k4⟩ := HC.out w1 hx
    have HX := Lib.hid ((((Ext.rfl' w).alloc _).alloc _).trans' hx)
    clear hx
    go_wp2_with fail
    refine (HU.out _ HX.out).mono ?_
    rw [HVU.out]
    rintro e w2 ⟨rfl, hx⟩
    have HX2 := Lib.hid (HX.out.trans' hx)
    clear hx k1 k2 k3 k4
    go_wp2
    go_ret2
    unfold SamePost
    rw [HVU.out]
    exact ⟨HX2.out, fun h => by simp at h, fun _ => rfl⟩
  | true =>
    obtain ⟨v1, v2, v3, v4, v5⟩ := validT_iff.1 HVT.out
    obtain ⟨r, rfl⟩ := Int.eq_ofNat_of_zero_le v3
    have hrN : r < N := by rw [HN.out] at v4; omega
    obtain ⟨u1, u2, u3, u4, u5⟩ := validT_iff.1 hvu
    obtain ⟨s, rfl⟩ := Int.eq_ofNat_of_zero_le u3
    have hsM : s < M := by rw [HM.out] at u4; omega
    have HL : Hid (∀ W, Ext w W → _) := Lib.hid fun W hW => least_any G v5 r N HN.out A c W (HR.out.ext hW) hrN (by rw [← HN.out]; omega)
    have HK : Hid (∀ W, Ext w W → _) := Lib.hid fun W hW => least_any H u5 s M HM.out B d W (HS.out.ext hW) hsM (by rw [← HM.out]; omega)
    have hv2 := HN.out
    have hu2 := HM.out
    have HVU := Lib.hid hvu
    have HNN : Hid (N ≤ 8000 ∧ M ≤ 8000) := Lib.hid (by omega)
    clear hvu v1 v2 v3 v4 v5 u1 u2 u3 u4 u5 hv2 hu2
    go_enter Tryz.func25, Tryz.ntmps25
    go_wp2_with fail
    refine (HV.out _ (((Ext.rfl' _).alloc _).alloc _)).mono ?_
    rw [HVT.out]
    rintro e w1 ⟨rfl, hx⟩
    obtain ⟨k1, k2, k3, k4⟩ := HC.out w1 hx
    have HX := Lib.hid ((((Ext.rfl' w).alloc _).alloc _).trans' hx)
    have HX1 := Lib.hid hx
    clear hx
    go_wp2_with fail
    refine (HU.out _ HX.out).mono ?_
    rw [HVU.out]
    rintro e w2 ⟨rfl, hx⟩
    have HX2 := Lib.hid (HX.out.trans' hx)
    have HX3 := Lib.hid (HX1.out.trans' hx)
    clear hx k1 k2 k3 k4
    have hS : Ext w w2 ∧ w2.cell? ⟨w.heap.size, 0, none⟩ = some (.slice A N c) ∧ w2.cell? ⟨w.heap.size, 1, none⟩ = some (.int .i64 r) ∧ w2.cell? ⟨w.heap.size + 1, 0, none⟩ = some (.slice B M d) ∧ w2.cell? ⟨w.heap.size + 1, 1, none⟩ = some (.int .i64 s) := ⟨HX2.out, HC.out w2 HX3.out⟩
    have hxx : Ext w2 w2.drew := (Ext.rfl' _).drew
    go_wp2
    go_region_held3 (fun W => Ext w W ∧ W.cell? ⟨w.heap.size, 0, none⟩ = some (.slice A N c) ∧ W.cell? ⟨w.heap.size, 1, none⟩ = some (.int .i64 r) ∧ W.cell? ⟨w.heap.size + 1, 0, none⟩ = some (.slice B M d) ∧ W.cell? ⟨w.heap.size + 1, 1, none⟩ = some (.int .i64 s))
      (exact keep4 (by assumption) hxx)
      (first
        | (go_at_call_of 42 (Value.agg #[Value.slice A N c, Value.int .i64 r]); refine (HL.out _ (And.left (by assumption))).mono ?_; rintro e w3 ⟨C, v, rfl, n1, n2, n3, hxx⟩; obtain ⟨Av, cv, rfl, hcv⟩ := n1.shape)
        | (go_at_call_of 42 (Value.agg #[Value.slice B M d, Value.int .i64 s]); refine (HK.out _ (And.left (by assumption))).mono ?_; rintro e w4 ⟨D, u, rfl, m1, m2, m3, hxx⟩; obtain ⟨Au, cu, rfl, hcu⟩ := m1.shape)
        | (go_at_call 47; refine (equal_any C D Av Au cv cu 0 0 _ ((n1.nd n2.vg (by have := HNN.out; omega)).ext (by first | exact hxx | exact Ext.rfl' _)) ((m1.nd m2.vg (by have := HNN.out; omega)).ext (by first | exact Ext.rfl' _ | exact hxx))).mono ?_; rintro e w5 ⟨rfl, hxx⟩))
    have HF := Lib.hid (And.left (by assumption : Ext w w5 ∧ w5.cell? ⟨w.heap.size, 0, none⟩ = some (.slice A N c) ∧ w5.cell? ⟨w.heap.size, 1, none⟩ = some (.int .i64 r) ∧ w5.cell? ⟨w.heap.size + 1, 0, none⟩ = some (.slice B M d) ∧ w5.cell? ⟨w.heap.size + 1, 1, none⟩ = some (.int .i64 s)))
    have HEQ := Lib.hid (canon_eq n2 m2)
    clear n1 n2 n3 m1 m2 m3
    go_wp2
    go_ret2
    unfold SamePost
    rw [HVT.out, HVU.out]
    exact ⟨HF.out, fun _ => ⟨_, rfl, by simpa using HEQ.out⟩, fun h => by simp at h⟩
end Go.Proofs.YtnleljpebnnhfaaGreatDoor

set_option linter.unusedSimpArgs false
set_option linter.unusedVariables false
namespace Go.Proofs.YtnleljpebnnhfaaGreatDoor
open Go.RowKit
theorem mkMap68 (W : World) : (Instr.makeMap 68 none).run Tryz.prog W = .ok (.map (some W.heap.size)) (W.alloc (.map #[] 0)) := by kernel_rfl
def KPl.of (s1 : Nat) : KPl := ⟨s1, s1 + 1 + 1, s1 + 1 + 1 + 1, s1 + 1 + 1 + 1 + 1, s1 + 1, s1 + 1 + 1 + 1 + 1 + 1⟩
theorem KPl.of_ok (s1 : Nat) : (KPl.of s1).Ok s1 := by
  constructor <;> simp only [KPl.of] <;> omega
def startK (w1 : World) (v : Value) : World :=
  ((((w1.alloc (.cells #[v, Value.int .i64 0] 24)).alloc (.map #[] 0)).alloc (.cells #[Value.map (some (w1.heap.size + 1))] 68)).alloc (.cells #[Value.slice none 0 0, Value.int .i64 0] 24)).alloc (.cells #[Value.func (.func 46) #[] (KPl.of w1.heap.size).caps] 69)
theorem startK_ext (w1 : World) (v : Value) : Ext w1 (startK w1 v) := (((((Ext.rfl' w1).alloc _).alloc _).alloc _).alloc _).alloc _
theorem startK_fix (w1 : World) (A : Option Addr) (N c : Nat) : KFix A N c w1 (KPl.of w1.heap.size) (startK w1 (.slice A N c)) := by
  have X := startK_ext w1 (.slice A N c)
  refine ⟨X, ?_, ?_, ?_, ?_⟩
  · unfold startK
    refine (((((Ext.rfl' _).alloc _).alloc _).alloc _).alloc _).cell ?_
    have e := new_heap w1 (.cells #[.slice A N c, Value.int .i64 0] 24) (KPl.of w1.heap.size).pl rfl
    simp only [World.cell?, e]
    rfl
  · unfold startK
    exact (((Ext.rfl' _).alloc _).alloc _).cell (new_cell _ _ _ _ (by simp [KPl.of]))
  · unfold startK
    exact new_cell _ _ _ _ (by simp [KPl.of])
  · simp [startK, KPl.of]
theorem startK_st (G : List Nd) (w1 : World) (v : Value) : KSt G (KPl.of w1.heap.size) (startK w1 v) [] [] (.slice none 0 0) := by
  refine ⟨?_, ?_, OwnN.nil _ _, rfl, fun k h => by simp at h, by simp, by simp⟩
  · unfold startK
    exact ((Ext.rfl' _).alloc _).heap (new_heap _ _ _ (by simp [KPl.of]))
  · unfold startK
    have := MapIs.made (enc := pairV) (ok := FitsP) (encV := iv) (w1.alloc (.cells #[v, Value.int .i64 0] 24))
    have e : (w1.alloc (.cells #[v, Value.int .i64 0] 24)).heap.size = (KPl.of w1.heap.size).bm := by simp [KPl.of]
    rw [e] at this
    exact this.ext ((((Ext.rfl' _).alloc _).alloc _).alloc _)
/-- What Cut hands back. -/
def CutPost (G : List Nd) (root depth : Int) (w : World) (e : Ending) (w' : World) : Prop :=
  Ext w w' ∧ if validT G root then
    if 0 ≤ depth ∧ depth ≤ 12 then ∃ C, Canon C (cutD (den G root.toNat) depth.toNat) ∧ C.length ≤ G.length * 13 ∧
      if C.length ≤ 8000 then ∃ v, e = .returned (.tuple #[.agg #[v, .int .i64 0], .int .i64 0]) ∧ OwnG w' w.heap.size v C else e = .returned (.tuple #[.agg #[.slice none 0 0, .int .i64 0], .int .i64 7])
    else e = .returned (.tuple #[.agg #[.slice none 0 0, .int .i64 0], .int .i64 1])
  else e = .returned (.tuple #[.agg #[.slice none 0 0, .int .i64 0], .int .i64 2])
set_option maxRecDepth 100000 in
set_option maxHeartbeats 4000000 in
theorem Cut_any (G : List Nd) (root depth : Int) (A : Option Addr) (c N : Nat) (w : World) (hr : NdsRd w A G) (hroot : root ≤ 9223372036854775807) (hN : G.length = N) :
    Calls Tryz.prog 22 #[.agg #[.slice A N c, .int .i64 root], .int .i64 depth] w (CutPost G root depth w) := by
  have HV : Hid (∀ W, Ext w W → _) := Lib.hid fun W hW => valid_call G root A c N w W hr hroot hN hW
  have HR := Lib.hid hr
  have HN := Lib.hid hN
  clear hr hN
  cases hvt : validT G root with
  | false =>
    have HVT := Lib.hid hvt
    clear hvt
    go_enter Tryz.func22, Tryz.ntmps22
    go_wp2_with fail
    refine (HV.out _ (((Ext.rfl' _).alloc _).alloc _)).mono ?_
    rw [HVT.out]
    rintro e w1 ⟨rfl, hx⟩
    have hb : w1.heap[w.heap.size + 1]? = some (.cells #[.slice none 0 0, .int .i64 0] 24 (0, 0)) := hx.heap (new_heap _ _ _ (by simp))
    have hE : Ext w w1 := (((Ext.rfl' w).alloc _).alloc _).trans' hx
    obtain ⟨b1, b2, b3, b4, b5⟩ := box_facts hb
    have HB := Lib.hid hb
    have HE := Lib.hid hE
    clear hb hE hx
    go_wp2
    obtain ⟨h1, h2⟩ := box_fill (u := .slice none 0 0) (v := .int .i64 0) HE.out (by show w.heap.size ≤ w.heap.size + 1; omega) HB.out
    refine bodyPost_ret (results_cell_tmp1 rfl _ _ _ 24 _ (0, 0) _ rfl h1 Tryz.underlying24 (by kernel_rfl)) rfl ?_
    unfold CutPost
    rw [HVT.out]
    exact ⟨h2, rfl⟩
  | true =>
    obtain ⟨v1, v2, v3, v4, v5⟩ := validT_iff.1 hvt
    obtain ⟨r, rfl⟩ := Int.eq_ofNat_of_zero_le v3
    have hrN : r < N := by rw [HN.out] at v4; omega
    have hle : ∀ W, Ext w W → Calls Tryz.prog 42 #[.agg #[.slice A N c, .int .i64 r]] W _ := fun W hW => least_any G v5 r N HN.out A c W (HR.out.ext hW) hrN (by rw [← HN.out]; omega)
    have HL := Lib.hid hle
    have HVT := Lib.hid hvt
    have V2 := Lib.hid v2
    have V5 := Lib.hid v5
    clear hle v1 v2 v3 v4 v5 hvt
    by_cases hd : 0 ≤ depth ∧ depth ≤ 12
    · obtain ⟨d, rfl⟩ := Int.eq_ofNat_of_zero_le hd.1
      have d1 : ((d : Int) < 0) = False := by simp
      have d2 : ((d : Int) > 12) = False := by simp; omega
      go_enter Tryz.func22, Tryz.ntmps22
      go_wp2_with fail
      refine (HV.out _ (((Ext.rfl' _).alloc _).alloc _)).mono ?_
      rw [HVT.out]
      rintro e w1 ⟨rfl, hx⟩
      have hb : w1.heap[w.heap.size + 1]? = some (.cells #[.slice none 0 0, .int .i64 0] 24 (0, 0)) := hx.heap (new_heap _ _ _ (by simp))
      have hE : Ext w w1 := (((Ext.rfl' w).alloc _).alloc _).trans' hx
      have b8 : w1.cell? ⟨w.heap.size, 0, none⟩ = some (.slice A N c) := hx.cell (by simp)
      have b9 : w1.cell? ⟨w.heap.size, 1, none⟩ = some (.int .i64 r) := hx.cell (by simp)
      have hs1 : w.heap.size + 2 ≤ w1.heap.size := by have := hx.size; simpa using this
      have HB := Lib.hid hb
      have HE := Lib.hid hE
      clear hb hE hx
      go_wp2_with fail
      refine (HL.out _ HE.out).mono ?_
      rintro e w2 ⟨C0, v0, rfl, n1, n2, n3, n4⟩
      have hb : w2.heap[w.heap.size + 1]? = some (.cells #[.slice none 0 0, .int .i64 0] 24 (0, 0)) := n4.heap HB.out
      obtain ⟨Av, cv, rfl, hcv⟩ := n1.shape
      have hs2 : w1.heap.size ≤ w2.heap.size := n4.size
      have hE : Ext w w2 := HE.out.trans' n4
      have HB2 := Lib.hid hb
      have HE2 := Lib.hid hE
      have N1 := Lib.hid n1
      have N2 := Lib.hid n2
      have N3 := Lib.hid n3
      have hmk := mkMap68
      have hsf := storeFunc
      clear hb hE n1 n2 n3 n4 b8 b9 HB HE
      go_wp2_with fail
      clear hmk hsf
      have hnil := nilA_of_own N1.out
      have hC0 : VG C0 := N2.out.vg
      have hr0 := N1.out.nd hC0 (by have := N3.out; have := V2.out; have := HN.out; omega)
      have hfix := startK_fix w2 Av C0.length cv
      have hst := startK_st C0 w2 (.slice Av C0.length cv)
      have hpos := N2.out.pos
      have hL8 : C0.length ≤ 8000 := by have := N3.out; have := V2.out; have := HN.out; omega
      refine (kvisit_any C0 hC0 Av C0.length cv rfl (by omega) w2 hr0 hnil (KPl.of w2.heap.size) (KPl.of_ok _) d (by omega) 0 (startK w2 (.slice Av C0.length cv)) [] [] (.slice none 0 0) hpos hfix hst).mono ?_
      rintro e w6 ⟨k, outs, rows, v, rfl, hk, st, ch, gr, pre, done, blk, new, hkz⟩
      have hE26 : Ext w2 w6 := (hfix.chg (KPl.of_ok _) ch (by intro g hg; simp [Value.ownBlock] at hg)).ext
      have hE6 : Ext w w6 := HE2.out.trans' hE26
      have hvg := kvg hC0 st.len st.tops st.lt done
      obtain ⟨hk, hk2⟩ := hk
      obtain rfl : k = 0 := hkz (by simp)
      have hden := kden hC0 st.len st.tops st.lt done hpos hk hk2
      rw [N2.out.root] at hden
      obtain ⟨A6, c6, rfl, hc6⟩ := st.own.shape
      have c0 : w6.cell? ⟨w2.heap.size + 1 + 1 + 1, 0, none⟩ = some (.slice A6 rows.length c6) := by
        have := st.po
        simp only [KPl.of] at this
        simp [World.cell?, this]
      have c1 : w6.cell? ⟨w2.heap.size + 1 + 1 + 1, 1, none⟩ = some (.int .i64 0) := by
        have := st.po
        simp only [KPl.of] at this
        simp [World.cell?, this]
      have hrl : rows.length ≤ 104000 := by have := st.le; have := st.len; omega
      have hrl2 : rows.length ≤ G.length * 13 := by have := st.le; have := st.len; have := N3.out; have := HN.out; omega
      have hrl0 : 0 < rows.length := by have := st.len; omega
      have hog : OwnG w6 w2.heap.size (.slice A6 rows.length c6) (rows.map (·.1)) := ⟨rows, st.own.mono (by simp only [KPl.of]; omega), rfl⟩
      have hr6 := hog.nd hvg (by simp; omega)
      have hle6 := least_any (rows.map (·.1)) hvg 0 rows.length (by simp) A6 c6 w6 hr6 hrl0 (by omega)
      have HL6 := Lib.hid hle6
      have hb6 : w6.heap[w.heap.size + 1]? = some (.cells #[.slice none 0 0, .int .i64 0] 24 (0, 0)) := hE26.heap HB2.out
      have po6 : w6.heap[w2.heap.size + 1 + 1 + 1]? = some (.cells #[.slice A6 rows.length c6, .int .i64 0] 24 (0, 0)) := by
        have := st.po
        simp only [KPl.of] at this
        exact this
      have hsz6 : w2.heap.size + 5 ≤ w6.heap.size := by have h1 := ch.size; have h2 : (startK w2 (.slice Av C0.length cv)).heap.size = w2.heap.size + 5 := by simp [startK]
                                                        omega
      have HB6 := Lib.hid hb6
      have HE6 := Lib.hid hE6
      have HDEN := Lib.hid hden
      have HPO6 := Lib.hid po6
      clear hle6 hog hr6 hvg hden hk2 hkz new blk done pre ch st hE26 hE6 hnil hC0 hr0 hfix hst hb6 po6
      go_wp2_with fail
      refine HL6.out.mono ?_
      rintro e w7 ⟨C, v7, rfl, m1, m2, m3, m4⟩
      obtain ⟨A7, c7, rfl, hc7⟩ := m1.shape
      have hcl : C.length ≤ 104000 := by omega
      have hb7 := m4.heap HB6.out
      have po7 := m4.heap HPO6.out
      have hE7 := HE6.out.trans' m4
      have hsz7 := m4.size
      have hs7 := box_fill (u := .slice A7 C.length c7) (v := .int .i64 0) hE7 (b := w2.heap.size + 1 + 1 + 1) (by omega) po7
      obtain ⟨p1, p2, p3, p4, p5⟩ := box_facts po7
      obtain ⟨q1, q2, q3, q4, q5⟩ := box_facts hs7.1
      have CS : ChgS (fun j => j = w2.heap.size + 1 + 1 + 1) w7 ((w7.setCell ⟨w2.heap.size + 1 + 1 + 1, 0, none⟩ (.slice A7 C.length c7)).setCell ⟨w2.heap.size + 1 + 1 + 1, 1, none⟩ (.int .i64 0)) := ((ChgS.refl (fun j => j = w2.heap.size + 1 + 1 + 1) w7).set (.inl rfl) _ _).set (.inl rfl) _ _
      have hb8 := CS.heap hb7 (by show ¬ w.heap.size + 1 = w2.heap.size + 1 + 1 + 1; omega)
      have own8 := m1.chg CS (by rintro i rfl; omega)
      obtain ⟨b1, b2, b3, b4, b5⟩ := box_facts hb8
      have HB8 := Lib.hid hb8
      have HE8 := Lib.hid hs7.2
      have OWN8 := Lib.hid own8
      have M2 := Lib.hid m2
      clear hb8 own8 CS hs7 hE7 po7 hb7 m1 m2 m4 HB2 HB6 HE2 HE6 HL6 HPO6
      by_cases h8 : C.length ≤ 8000
      · have d3 : ((C.length : Int) > 8000) = False := by simp; omega
        go_wp2
        obtain ⟨h1, h2⟩ := box_fill (u := .slice A7 C.length c7) (v := .int .i64 0) HE8.out (by show w.heap.size ≤ w.heap.size + 1; omega) HB8.out
        refine bodyPost_ret (results_cell_tmp1 rfl _ _ _ 24 _ (0, 0) _ rfl h1 Tryz.underlying24 (by kernel_rfl)) rfl ?_
        unfold CutPost
        rw [HVT.out, if_pos rfl, if_pos hd]
        have hcan := M2.out
        rw [HDEN.out] at hcan
        refine ⟨h2, C, hcan, by omega, ?_⟩
        rw [if_pos h8]
        have CS : ChgS (fun j => j = w.heap.size + 1) _ _ := ((ChgS.refl (fun j => j = w.heap.size + 1) ((w7.setCell ⟨w2.heap.size + 1 + 1 + 1, 0, none⟩ (.slice A7 C.length c7)).setCell ⟨w2.heap.size + 1 + 1 + 1, 1, none⟩ (.int .i64 0))).set (.inl rfl) 0 (.slice A7 C.length c7)).set (.inl rfl) 1 (.int .i64 0)
        obtain ⟨rows', ho, hC⟩ := OWN8.out.chg CS (by rintro i rfl; omega)
        exact ⟨_, rfl, rows', ho.mono (by omega), hC⟩
      · have d3 : ((C.length : Int) > 8000) = True := by simp; omega
        go_wp2
        obtain ⟨h1, h2⟩ := box_fill (u := .slice none 0 0) (v := .int .i64 0) HE8.out (by show w.heap.size ≤ w.heap.size + 1; omega) HB8.out
        refine bodyPost_ret (results_cell_tmp1 rfl _ _ _ 24 _ (0, 0) _ rfl h1 Tryz.underlying24 (by kernel_rfl)) rfl ?_
        unfold CutPost
        rw [HVT.out, if_pos rfl, if_pos hd]
        have hcan := M2.out
        rw [HDEN.out] at hcan
        refine ⟨h2, C, hcan, by omega, ?_⟩
        rw [if_neg h8]
        rfl
    · by_cases h0 : depth < 0
      · have d1 : (depth < 0) = True := by simp [h0]
        go_enter Tryz.func22, Tryz.ntmps22
        go_wp2_with fail
        refine (HV.out _ (((Ext.rfl' _).alloc _).alloc _)).mono ?_
        rw [HVT.out]
        rintro e w1 ⟨rfl, hx⟩
        have hb : w1.heap[w.heap.size + 1]? = some (.cells #[.slice none 0 0, .int .i64 0] 24 (0, 0)) := hx.heap (new_heap _ _ _ (by simp))
        have hE : Ext w w1 := (((Ext.rfl' w).alloc _).alloc _).trans' hx
        obtain ⟨b1, b2, b3, b4, b5⟩ := box_facts hb
        have HB := Lib.hid hb
        have HE := Lib.hid hE
        clear hb hE hx
        go_wp2
        obtain ⟨h1, h2⟩ := box_fill (u := .slice none 0 0) (v := .int .i64 0) HE.out (by show w.heap.size ≤ w.heap.size + 1; omega) HB.out
        refine bodyPost_ret (results_cell_tmp1 rfl _ _ _ 24 _ (0, 0) _ rfl h1 Tryz.underlying24 (by kernel_rfl)) rfl ?_
        unfold CutPost
        rw [HVT.out, if_pos rfl, if_neg hd]
        exact ⟨h2, rfl⟩
      · have d1 : (depth < 0) = False := by simp [h0]
        have d2 : (depth > 12) = True := by simp; omega
        go_enter Tryz.func22, Tryz.ntmps22
        go_wp2_with fail
        refine (HV.out _ (((Ext.rfl' _).alloc _).alloc _)).mono ?_
        rw [HVT.out]
        rintro e w1 ⟨rfl, hx⟩
        have hb : w1.heap[w.heap.size + 1]? = some (.cells #[.slice none 0 0, .int .i64 0] 24 (0, 0)) := hx.heap (new_heap _ _ _ (by simp))
        have hE : Ext w w1 := (((Ext.rfl' w).alloc _).alloc _).trans' hx
        obtain ⟨b1, b2, b3, b4, b5⟩ := box_facts hb
        have HB := Lib.hid hb
        have HE := Lib.hid hE
        clear hb hE hx
        go_wp2
        obtain ⟨h1, h2⟩ := box_fill (u := .slice none 0 0) (v := .int .i64 0) HE.out (by show w.heap.size ≤ w.heap.size + 1; omega) HB.out
        refine bodyPost_ret (results_cell_tmp1 rfl _ _ _ 24 _ (0, 0) _ rfl h1 Tryz.underlying24 (by kernel_rfl)) rfl ?_
        unfold CutPost
        rw [HVT.out, if_pos rfl, if_neg hd]
        exact ⟨h2, rfl⟩
end Go.Proofs.YtnleljpebnnhfaaGreatDoor

set_option linter.unusedSimpArgs false
set_option linter.unusedVariables false
namespace Go.Proofs.YtnleljpebnnhfaaGreatDoor
open Go.RowKit
/-- A node under which all ways end. -/
inductive Wf (G : List Nd) : Nat → Prop
  | mk {i} : (∀ j ∈ kids G i, Wf G j) → Wf G i
/-- A way of at least one step. -/
inductive Lead (G : List Nd) : Nat → Nat → Prop
  | one {i j} : j ∈ kids G i → Lead G i j
  | cons {i k j} : k ∈ kids G i → Lead G k j → Lead G i j
theorem Wf.kid {G : List Nd} {i j : Nat} (h : Wf G i) (hj : j ∈ kids G i) : Wf G j := by
  cases h with | mk h => exact h j hj
theorem Lead.snoc {G : List Nd} {i k j : Nat} (h : Lead G i k) (hj : j ∈ kids G k) : Lead G i j := by
  induction h with
  | one h => exact .cons h (.one hj)
  | cons h _ ih => exact .cons h (ih hj)
theorem Lead.trans {G : List Nd} {i k j : Nat} (h : Lead G i k) (h' : Lead G k j) : Lead G i j := by
  induction h with
  | one h => exact .cons h h'
  | cons h _ ih => exact .cons h (ih h')
theorem Wf.lead {G : List Nd} {i j : Nat} (h : Wf G i) (hl : Lead G i j) : Wf G j := by
  induction hl with
  | one hk => exact h.kid hk
  | cons hk _ ih => exact ih (h.kid hk)
theorem Wf.no_cycle {G : List Nd} {i : Nat} (h : Wf G i) : ¬ Lead G i i := by
  induction h with
  | @mk i _ ih =>
    intro hl
    cases hl with
    | one hk => exact ih i hk (.one hk)
    | @cons _ k _ hk hl => exact ih k hk (hl.snoc hk)
/-- How many places hold 0. -/
def nz (st : List Int) (n : Nat) : Nat := ((List.range n).filter fun i => decide (gt st i = 0)).length
theorem nz_mono {st st' : List Int} {n : Nat} (h : ∀ i, i < n → gt st i ≠ 0 → gt st' i ≠ 0) : nz st' n ≤ nz st n := by
  unfold nz
  have : (List.range n).filter (fun i => decide (gt st' i = 0)) = ((List.range n).filter (fun i => decide (gt st i = 0))).filter fun i => decide (gt st' i = 0) := by
    rw [List.filter_filter]
    apply List.filter_congr
    intro i hi
    have := h i (List.mem_range.1 hi)
    by_cases h1 : gt st i = 0
    · simp [h1]
    · simp [h1, this h1]
  rw [this]
  exact List.length_filter_le _ _
theorem nz_set {st : List Int} {n i : Nat} (hi : i < n) (hl : i < st.length) (h0 : gt st i = 0) {x : Int} (hx : x ≠ 0) : nz (st.set i x) n < nz st n := by
  unfold nz
  have e : (List.range n).filter (fun j => decide (gt (st.set i x) j = 0)) = ((List.range n).filter (fun j => decide (gt st j = 0))).filter fun j => decide (j ≠ i) := by
    rw [List.filter_filter]
    apply List.filter_congr
    intro j hj
    rw [gt_set _ _ _ hl]
    by_cases h1 : j = i
    · simp [h1, hx]
    · simp [h1]
  rw [e]
  apply Nat.lt_of_le_of_ne (List.length_filter_le _ _)
  intro h
  have hall := List.filter_eq_self.1 (List.Sublist.eq_of_length List.filter_sublist h) i (List.mem_filter.2 ⟨List.mem_range.2 hi, by simp [h0]⟩)
  simp at hall
/-- Where the search's things lie, and what does not change. -/
structure CFix (G : List Nd) (A : Option Addr) (N c : Nat) (w0 : World) (ps pt pv bs : Nat) (w : World) : Prop where
  ext : Ext w0 w
  cs : w.cell? ⟨ps, 0, none⟩ = some (.slice (some ⟨bs, 0, none⟩) N N)
  ct : w.cell? ⟨pt, 0, none⟩ = some (.slice A N c)
  cv : w.cell? ⟨pv, 0, none⟩ = some (.func (.func 71) #[] #[.pointer (some ⟨ps, 0, none⟩), .pointer (some ⟨pt, 0, none⟩), .pointer (some ⟨pv, 0, none⟩)])
theorem CFix.chg {G : List Nd} {A : Option Addr} {N c : Nat} {w0 : World} {ps pt pv bs : Nat} {w w' : World} (h : CFix G A N c w0 ps pt pv bs w) (k : Chg bs w w') (hb : w0.heap.size ≤ bs) (h1 : ps ≠ bs) (h2 : pt ≠ bs) (h3 : pv ≠ bs) : CFix G A N c w0 ps pt pv bs w' :=
  ⟨h.ext.chg k hb, k.cell h.cs h1, k.cell h.ct h2, k.cell h.cv h3⟩
/-- What a visit that finds nothing leaves. -/
structure CStep (G : List Nd) (N : Nat) (st st' : List Int) : Prop where
  len : st'.length = N
  open_ : ∀ o, o < N → (gt st' o = 1 ↔ gt st o = 1)
  done : ∀ o, o < N → gt st' o = 2 → Wf G o
  keep : ∀ o, o < N → gt st o ≠ 0 → gt st' o = gt st o
  three : ∀ o, o < N → gt st' o = 0 ∨ gt st' o = 1 ∨ gt st' o = 2
/-- What a visit leaves. -/
def CPost (G : List Nd) (N bs i : Nat) (st : List Int) (w : World) (e : Ending) (w' : World) : Prop :=
  Chg bs w w' ∧ ((e = .returned (.bool true) ∧ ¬ Wf G i) ∨ (e = .returned (.bool false) ∧ Wf G i ∧ ∃ st', Row w' bs st' ∧ CStep G N st st'))
theorem cvisit_seen (G : List Nd) (A : Option Addr) (N c : Nat) (hmax : N ≤ 1000000) (w0 : World) (ps pt pv bs : Nat) (i : Nat) (w : World) (st : List Int) (hi : i < N) (hfix : CFix G A N c w0 ps pt pv bs w) (hrow : Row w bs st) (hl : st.length = N)
    (hlead : ∀ o, o < N → gt st o = 1 → Lead G o i) (hdone : ∀ o, o < N → gt st o = 2 → Wf G o) (hthree : ∀ o, o < N → gt st o = 0 ∨ gt st o = 1 ∨ gt st o = 2) (hne : gt st i ≠ 0) :
    Calls Tryz.prog 71 (#[.int .i64 i] ++ #[.pointer (some ⟨ps, 0, none⟩), .pointer (some ⟨pt, 0, none⟩), .pointer (some ⟨pv, 0, none⟩)]) w (CPost G N bs i st w) := by
  have c1 := hrow.cell i (by omega)
  have c2 := hfix.cs
  have d1 : (gt st i != 0) = true := by simp [hne]
  by_cases h : gt st i = 1
  · have d2 : (gt st i == 1) = true := by simp [h]
    have HW := Lib.hid (fun hw : Wf G i => hw.no_cycle (hlead i hi h))
    clear hfix hrow hl hlead hdone hthree hne h
    go_enter Tryz.func71, Tryz.ntmps71
    go_wp2
    go_ret
    exact ⟨Chg.refl _ _, .inl ⟨rfl, HW.out⟩⟩
  · have d2 : (gt st i == 1) = false := by simp [h]
    have HW : Hid (Wf G i) := Lib.hid (hdone i hi (by rcases hthree i hi with h' | h' | h' <;> omega))
    have HR := Lib.hid hrow
    have HS : Hid (CStep G N st st) := Lib.hid ⟨hl, fun o _ => Iff.rfl, hdone, fun o _ _ => rfl, hthree⟩
    clear hfix hrow hl hlead hdone hthree hne h
    go_enter Tryz.func71, Tryz.ntmps71
    go_wp2
    go_ret
    exact ⟨Chg.refl _ _, .inr ⟨rfl, HW.out, st, HR.out, HS.out⟩⟩
set_option maxRecDepth 100000 in
set_option maxHeartbeats 1000000 in
theorem cvisit_any (G : List Nd) (hG : VG G) (A : Option Addr) (N c : Nat) (hN : G.length = N) (hmax : N ≤ 1000000) (w0 : World) (hr : NdsRd w0 A G) (ps pt pv bs : Nat) (hb : w0.heap.size ≤ bs) (h1 : ps ≠ bs) (h2 : pt ≠ bs) (h3 : pv ≠ bs) :
    ∀ (f : Nat) (i : Nat) (w : World) (st : List Int), nz st N ≤ f → i < N → CFix G A N c w0 ps pt pv bs w → Row w bs st → st.length = N → (∀ o, o < N → gt st o = 1 → Lead G o i) → (∀ o, o < N → gt st o = 2 → Wf G o) → (∀ o, o < N → gt st o = 0 ∨ gt st o = 1 ∨ gt st o = 2) →
    Calls Tryz.prog 71 (#[.int .i64 i] ++ #[.pointer (some ⟨ps, 0, none⟩), .pointer (some ⟨pt, 0, none⟩), .pointer (some ⟨pv, 0, none⟩)]) w (CPost G N bs i st w) := by
  intro f
  induction f with
  | zero =>
    intro i w st hf hi hfix hrow hl hlead hdone hthree
    have hne : gt st i ≠ 0 := by
      intro e
      have : i ∈ (List.range N).filter fun i => decide (gt st i = 0) := List.mem_filter.2 ⟨List.mem_range.2 hi, by simp [e]⟩
      have := List.length_pos_of_mem this
      unfold nz at hf
      omega
    exact cvisit_seen G A N c hmax w0 ps pt pv bs i w st hi hfix hrow hl hlead hdone hthree hne
  | succ f ih =>
    intro i w st hf hi hfix hrow hl hlead hdone hthree
    by_cases hz : gt st i = 0
    case neg => exact cvisit_seen G A N c hmax w0 ps pt pv bs i w st hi hfix hrow hl hlead hdone hthree hz
    have c1 := hrow.cell i (by omega)
    have c2 := hfix.cs
    have c3 := hrow.frozen i
    have d1 : (gt st i != 0) = false := by simp [hz]
    have hset := hrow.set i 1
    have hch : Chg bs w (w.setCell ⟨bs, i, none⟩ (.int .i64 1)) := (Chg.refl bs w).set i _
    have hfix1 := hfix.chg hch hb h1 h2 h3
    obtain ⟨b, o, hA, A1, k1, q0, q1, q2, q3, q4, q5⟩ := hr.get (i := i) (by omega)
    have p3 := hfix1.ext.cell q3
    have f2 := hfix1.ct
    have f3 := hfix1.cv
    have HA : Hid (Calls Tryz.prog 72 #[.slice A1 (nd G i).args.length k1, .func (.func 71) #[] #[.pointer (some ⟨ps, 0, none⟩), .pointer (some ⟨pt, 0, none⟩), .pointer (some ⟨pv, 0, none⟩)]] (w.setCell ⟨bs, i, none⟩ (.int .i64 1)).drew
        fun e w' => Chg bs w w' ∧ ((e = .returned (.bool true) ∧ ¬ Wf G i) ∨ (e = .returned (.bool false) ∧ Wf G i ∧ ∃ st', Row w' bs st' ∧ CStep G N (st.set i 1) st'))) := by
      refine Lib.hid ?_
      have hgs : ∀ o, gt (st.set i 1) o = if o = i then 1 else gt st o := fun o => gt_set _ _ _ (by omega) _
      have hkids : ∀ k (hk : k < (nd G i).args.length), ∃ j : Nat, (nd G i).args[k] = (j : Int) ∧ j ∈ kids G i ∧ j < N := by
        intro k hk
        have hm := List.getElem_mem hk
        have hv := valid_args (hG _ (nd_mem (i := i) (by omega))) _ hm
        refine ⟨((nd G i).args[k]).toNat, by omega, List.mem_map.2 ⟨_, hm, rfl⟩, by omega⟩
      refine (containsFunc_int 71 #[.pointer (some ⟨ps, 0, none⟩), .pointer (some ⟨pt, 0, none⟩), .pointer (some ⟨pv, 0, none⟩)] (fun _ _ => by kernel_rfl) A1 k1 (nd G i).args _
        (fun k W => Chg bs w W ∧ CFix G A N c w0 ps pt pv bs W ∧ (∃ st', Row W bs st' ∧ CStep G N (st.set i 1) st') ∧ ∀ q, q < k → ∀ (h : q < (nd G i).args.length), Wf G ((nd G i).args[q]).toNat)
        (fun k W => Chg bs w W ∧ ¬ Wf G i) ?_ ?_ ?_).mono ?_
      · refine ⟨hch.drew, ⟨hfix1.ext.drew, hfix1.cs, hfix1.ct, hfix1.cv⟩, ⟨_, hset, ⟨by simpa using hl, fun o _ => Iff.rfl, ?_, fun o _ _ => rfl, ?_⟩⟩, fun q hq => by omega⟩
        · intro o ho h
          rw [hgs] at h
          split at h
          · omega
          · exact hdone o ho h
        · intro o ho
          rw [hgs]
          split
          · exact .inr (.inl rfl)
          · exact hthree o ho
      · rintro k W ⟨hc, hf', _⟩
        exact q5.ext hf'.ext
      · rintro k hk W ⟨hc, hf', ⟨st', hrow', hs'⟩, hq⟩
        obtain ⟨j, hj, hjk, hjN⟩ := hkids k hk
        rw [hj]
        refine (ih j W st' ?_ hjN hf' hrow' hs'.len ?_ hs'.done hs'.three).mono ?_
        · have m1 := nz_set (n := N) hi (by omega) hz (x := 1) (by omega)
          have m2 := nz_mono (st := st.set i 1) (st' := st') (n := N) fun o ho h => by rw [hs'.keep o ho h]; exact h
          omega
        · intro o ho h
          rw [hs'.open_ o ho, hgs] at h
          split at h
          · rename_i e; subst e; exact .one hjk
          · exact (hlead o ho h).snoc hjk
        · rintro e W' ⟨hc', h | ⟨he, hw, st2, hr2, hs2⟩⟩
          · exact .inl ⟨h.1, hc.trans hc', fun hw => h.2 (hw.kid hjk)⟩
          · refine .inr ⟨he, hc.trans hc', hf'.chg hc' hb h1 h2 h3, ⟨st2, hr2, ⟨hs2.len, fun o ho => (hs2.open_ o ho).trans (hs'.open_ o ho), hs2.done, fun o ho h => ?_, hs2.three⟩⟩, fun q hqk h => ?_⟩
            · rw [hs2.keep o ho (by rw [hs'.keep o ho h]; exact h), hs'.keep o ho h]
            · rcases Nat.lt_or_ge q k with hlt | hge
              · exact hq q hlt h
              · obtain rfl : q = k := by omega
                rw [hj]; exact hw
      · rintro e W (⟨k, hk, rfl, hc, hn⟩ | ⟨rfl, hc, hf', hst, hq⟩)
        · exact ⟨hc, .inl ⟨rfl, hn⟩⟩
        · refine ⟨hc, .inr ⟨rfl, ⟨fun j hj => ?_⟩, hst⟩⟩
          obtain ⟨a, ha, rfl⟩ := List.mem_map.1 hj
          obtain ⟨q, hq', rfl⟩ := List.mem_iff_getElem.1 ha
          exact hq q hq' hq'
    have HOP := Lib.hid hthree
    have HZ := Lib.hid hz
    have HL := Lib.hid hl
    have HI := Lib.hid hlead
    have hcs := hfix1.cs
    clear ih hf hfix hset hch hfix1 q0 q1 q2 q3 q4 q5 hrow hl hlead hdone hthree hG hr hz
    subst hA
    go_enter Tryz.func71, Tryz.ntmps71
    go_wp2
    generalize w.setCell ⟨bs, i, none⟩ (.int .i64 1) = wx at p3 f2 f3 hcs HA ⊢
    go_still_tail 7, (by kernel_rfl)
    change wpList _ _ _ _ _ wx.drew
    go_wp2_with fail
    refine HA.out.mono ?_
    rintro e w1 ⟨hc, ⟨rfl, hn⟩ | ⟨rfl, hw, st1, hr1, hs1⟩⟩
    · have HC := Lib.hid hc
      have HN := Lib.hid hn
      clear hc hn
      go_wp2
      go_ret
      exact ⟨HC.out, .inl ⟨rfl, HN.out⟩⟩
    · have e1 := hc.cell c2 h1
      have e2 := hr1.cell i (by rw [hs1.len]; exact hi)
      have e3 := hr1.frozen i
      have HC := Lib.hid hc
      have HW := Lib.hid hw
      have HR1 := Lib.hid hr1
      have HS1 := Lib.hid hs1
      clear hc hw hr1 hs1 HA
      go_wp2
      go_ret
      have hs1 := HS1.out
      have hl := HL.out
      have hgs : ∀ o, gt (st.set i 1) o = if o = i then 1 else gt st o := fun o => gt_set _ _ _ (by omega) _
      have hgt : ∀ o, gt (st1.set i 2) o = if o = i then 2 else gt st1 o := fun o => gt_set _ _ _ (by rw [hs1.len]; exact hi) _
      refine ⟨HC.out.set i _, .inr ⟨rfl, HW.out, _, HR1.out.set i 2, by simpa using hs1.len, fun o ho => ?_, fun o ho h => ?_, fun o ho h => ?_, fun o ho => ?_⟩⟩
      · have hz := HZ.out
        have hop := hs1.open_ o ho
        rw [hgs] at hop
        rw [hgt]
        by_cases e : o = i
        · subst e
          rw [if_pos rfl]
          omega
        · rw [if_neg e]
          rw [if_neg e] at hop
          exact hop
      · rw [hgt] at h
        split at h
        · rename_i e; subst e; exact HW.out
        · exact hs1.done o ho h
      · have hz := HZ.out
        have hne : o ≠ i := fun e => h (by rw [e]; exact hz)
        have hk := hs1.keep o ho
        rw [hgs, if_neg hne] at hk
        rw [hgt, if_neg hne]
        exact hk h
      · rw [hgt]
        split
        · exact .inr (.inr rfl)
        · exact hs1.three o ho
end Go.Proofs.YtnleljpebnnhfaaGreatDoor

set_option linter.unusedSimpArgs false
set_option linter.unusedVariables false
namespace Go.Proofs.YtnleljpebnnhfaaGreatDoor
open Go.RowKit
def cycW (w : World) (A : Option Addr) (N c : Nat) (root : Int) : World :=
  (((w.alloc (.cells #[Value.slice A N c, Value.int .i64 root] 24)).alloc (.cells (Array.replicate N (iv 0)) 3)).alloc (.cells #[Value.slice (some ⟨w.heap.size + 1, 0, none⟩) N N] 44)).alloc
    (.cells #[Value.func (.func 71) #[] #[.pointer (some ⟨w.heap.size + 1 + 1, 0, none⟩), .pointer (some ⟨w.heap.size, 0, none⟩), .pointer (some ⟨w.heap.size + 1 + 1 + 1, 0, none⟩)]] 92)
theorem cycW_fix (G : List Nd) (w : World) (A : Option Addr) (N c : Nat) (root : Int) : CFix G A N c w (w.heap.size + 1 + 1) w.heap.size (w.heap.size + 1 + 1 + 1) (w.heap.size + 1) (cycW w A N c root) := by
  refine ⟨((((Ext.rfl' w).alloc _).alloc _).alloc _).alloc _, ?_, ?_, ?_⟩
  · unfold cycW
    exact ((Ext.rfl' _).alloc _).cell (new_cell _ _ _ _ (by simp))
  · unfold cycW
    exact ((((Ext.rfl' _).alloc _).alloc _).alloc _).cell ((cell_of_row _ _ 0 _ _ _ (new_heap _ _ w.heap.size rfl)).trans rfl)
  · unfold cycW
    exact new_cell _ _ _ _ (by simp)
theorem cycW_row (w : World) (A : Option Addr) (N c : Nat) (root : Int) : Row (cycW w A N c root) (w.heap.size + 1) (List.replicate N 0) := by
  unfold cycW
  have := row_made N (w.alloc (.cells #[Value.slice A N c, Value.int .i64 root] 24))
  have e : (w.alloc (.cells #[Value.slice A N c, Value.int .i64 root] 24)).heap.size = w.heap.size + 1 := by simp
  rw [e] at this
  exact this.ext (((Ext.rfl' _).alloc _).alloc _)
theorem gt_replicate (N o : Nat) : gt (List.replicate N (0 : Int)) o = 0 := by
  simp only [gt, List.getD_eq_getElem?_getD, List.getElem?_replicate]
  split <;> rfl
set_option maxRecDepth 100000 in
set_option maxHeartbeats 1000000 in
theorem cyclic_any (G : List Nd) (hG : VG G) (root : Int) (N : Nat) (hN : G.length = N) (A : Option Addr) (c : Nat) (w : World) (hr : NdsRd w A G) (hpos : 0 < N) (hmax : N ≤ 1000000) :
    Calls Tryz.prog 48 #[.agg #[.slice A N c, .int .i64 root]] w fun e w' => ∃ b : Bool, e = .returned (.bool b) ∧ (b = true ↔ ¬ Wf G 0) ∧ Ext w w' := by
  have HR := Lib.hid hr
  have HG := Lib.hid hG
  have HN := Lib.hid hN
  have hmk := mk44 N hmax
  have hsf := storeFunc
  clear hr hG hN
  go_enter Tryz.func48, Tryz.ntmps48
  go_wp2_with fail
  clear hmk hsf
  have hz := gt_replicate N
  refine (cvisit_any G HG.out A N c HN.out hmax w HR.out (w.heap.size + 1 + 1) w.heap.size (w.heap.size + 1 + 1 + 1) (w.heap.size + 1) (by omega) (by omega) (by omega) (by omega) N 0 (cycW w A N c root) (List.replicate N 0) ?_ hpos (cycW_fix G w A N c root) (cycW_row w A N c root) (by simp)
    (fun o _ h => by rw [hz] at h; omega) (fun o _ h => by rw [hz] at h; omega) (fun o _ => .inl (hz o))).mono ?_
  · unfold nz
    exact Nat.le_trans (List.length_filter_le _ _) (by simp)
  · rintro e w1 ⟨hc, hp⟩
    have hE : Ext w w1 := (cycW_fix G w A N c root).ext.chg hc (by omega)
    have HE := Lib.hid hE
    rcases hp with ⟨rfl, hn⟩ | ⟨rfl, hw, _⟩
    · have HW := Lib.hid hn
      clear hn hc hE
      go_wp2
      go_ret
      exact ⟨true, rfl, by simpa using HW.out, HE.out⟩
    · have HW := Lib.hid hw
      clear hw hc hE
      go_wp2
      go_ret
      exact ⟨false, rfl, by simpa using HW.out, HE.out⟩
/-- A tree that ends: on all ways. -/
def DWf (D : List Nat → Option Top) : Prop := ∀ G i, VG G → i < G.length → den G i = D → Wf G i
theorem wf_den {G H : List Nd} (hG : VG G) (hH : VG H) {i : Nat} (h : Wf G i) : ∀ j, i < G.length → j < H.length → den G i = den H j → Wf H j := by
  induction h with
  | @mk i _ ih =>
    intro j hi hj e
    refine ⟨fun k hk => ?_⟩
    obtain ⟨a, ha, hr⟩ := (den_kid e).mem_right hk
    exact ih a ha k (hG.kids hi ha) (hH.kids hj hk) hr
/-- What Cyclic hands back. -/
def CyclicPost (G : List Nd) (root : Int) (w : World) (e : Ending) (w' : World) : Prop :=
  Ext w w' ∧ if validT G root then ∃ b : Bool, e = .returned (.tuple #[.bool b, .int .i64 0]) ∧ (b = true ↔ ¬ Wf G root.toNat)
  else e = .returned (.tuple #[.bool false, .int .i64 2])
set_option maxRecDepth 100000 in
theorem Cyclic_any (G : List Nd) (root : Int) (A : Option Addr) (c N : Nat) (w : World) (hr : NdsRd w A G) (hroot : root ≤ 9223372036854775807) (hN : G.length = N) :
    Calls Tryz.prog 26 #[.agg #[.slice A N c, .int .i64 root]] w (CyclicPost G root w) := by
  have HV : Hid (∀ W, Ext w W → _) := Lib.hid fun W hW => valid_call G root A c N w W hr hroot hN hW
  have HR := Lib.hid hr
  have HN := Lib.hid hN
  clear hr hN
  cases hvt : validT G root with
  | false =>
    have HVT := Lib.hid hvt
    clear hvt
    go_enter Tryz.func26, Tryz.ntmps26
    go_wp2_with fail
    refine (HV.out _ ((Ext.rfl' _).alloc _)).mono ?_
    rw [HVT.out]
    rintro e w1 ⟨rfl, hx⟩
    have HX := Lib.hid (((Ext.rfl' w).alloc _).trans' hx)
    clear hx
    go_wp2
    go_ret2
    unfold CyclicPost
    rw [HVT.out]
    exact ⟨HX.out, rfl⟩
  | true =>
    obtain ⟨v1, v2, v3, v4, v5⟩ := validT_iff.1 hvt
    obtain ⟨r, rfl⟩ := Int.eq_ofNat_of_zero_le v3
    have hrN : r < N := by rw [HN.out] at v4; omega
    have HL : Hid (∀ W, Ext w W → _) := Lib.hid fun W hW => least_any G v5 r N HN.out A c W (HR.out.ext hW) hrN (by rw [← HN.out]; omega)
    have HNN : Hid (N ≤ 8000) := Lib.hid (by rw [← HN.out]; omega)
    have HVT := Lib.hid hvt
    have HVG := Lib.hid v5
    clear hvt v1 v2 v3 v4 v5
    go_enter Tryz.func26, Tryz.ntmps26
    go_wp2_with fail
    refine (HV.out _ ((Ext.rfl' _).alloc _)).mono ?_
    rw [HVT.out]
    rintro e w1 ⟨rfl, hx⟩
    have b8 : w1.cell? ⟨w.heap.size, 0, none⟩ = some (.slice A N c) := hx.cell (by simp)
    have b9 : w1.cell? ⟨w.heap.size, 1, none⟩ = some (.int .i64 r) := hx.cell (by simp)
    have HX := Lib.hid (((Ext.rfl' w).alloc _).trans' hx)
    clear hx
    go_wp2_with fail
    refine (HL.out _ HX.out).mono ?_
    rintro e w2 ⟨C, v, rfl, n1, n2, n3, n4⟩
    obtain ⟨Av, cv, rfl, hcv⟩ := n1.shape
    have HE := Lib.hid (HX.out.trans' n4)
    have HC := Lib.hid (n1.nd n2.vg (by have := HNN.out; omega))
    have N2 := Lib.hid n2
    have N3 := Lib.hid n3
    clear n1 n2 n3 n4 b8 b9
    go_wp2_with fail
    refine (cyclic_any C N2.out.vg 0 C.length rfl Av cv w2 HC.out N2.out.pos (by have := HNN.out; have := N3.out; omega)).mono ?_
    rintro e w3 ⟨b, rfl, hb, hx⟩
    have HE3 := Lib.hid (HE.out.trans' hx)
    have HB := Lib.hid hb
    clear hx hb
    go_wp2
    go_ret2
    unfold CyclicPost
    rw [HVT.out]
    refine ⟨HE3.out, b, rfl, HB.out.trans (not_congr ?_)⟩
    have e : den C 0 = den G r := by simpa using N2.out.root
    have hrG : r < G.length := by rw [HN.out]; exact hrN
    exact ⟨fun h => by simpa using wf_den N2.out.vg HVG.out h r N2.out.pos hrG e, fun h => wf_den HVG.out N2.out.vg (by simpa using h) 0 hrG N2.out.pos e.symm⟩
end Go.Proofs.YtnleljpebnnhfaaGreatDoor

/- TreeDepths: the walk. -/
import Derived.Test.YtnleljpebnnhfaaGreatDoorN1q
set_option linter.unusedSimpArgs false
set_option linter.unusedVariables false
namespace Go.Proofs.YtnleljpebnnhfaaGreatDoor
open Go.RowKit
set_option maxRecDepth 100000 in
set_option maxHeartbeats 8000000 in
theorem treeDepths_any (G H : List Nd) (ra rb : Int) (A B : Option Addr) (c d N M : Nat) (x y : Int) (hx : 0 ≤ x ∧ x ≤ 255) (hy : 0 ≤ y ∧ y ≤ 255) (w : World) (hg : Gl w) (hr : NdsRd w A G) (hs : NdsRd w B H) (hra : ra ≤ 9223372036854775807) (hrb : rb ≤ 9223372036854775807) (hN : G.length = N) (hM : H.length = M) :
    Calls Tryz.prog 6 #[.agg #[.slice A N c, .int .i64 ra], .agg #[.slice B M d, .int .i64 rb], .int .u8 x, .int .u8 y] w fun e w' => e = .returned (.bool true) ∧ Ext w w' := by
  have hle : N ≤ 140737488355328 := by rw [← hN]; exact hr.1
  have hle2 : M ≤ 140737488355328 := by rw [← hM]; exact hs.1
  have HG := Lib.hid hg
  have HR := Lib.hid hr
  have HS := Lib.hid hs
  have HN := Lib.hid hN
  have HM := Lib.hid hM
  have GA : Hid (∀ W, _) := Lib.hid fun W => great_any A N c ra W hle
  have GB : Hid (∀ W, _) := Lib.hid fun W => great_any B M d rb W hle2
  have VA : Hid (∀ W, Ext w W → Calls Tryz.prog 24 #[.agg #[.slice A N c, .int .i64 ra]] W fun e w' => e = .returned (.bool (validT G ra)) ∧ Ext W w') := Lib.hid fun W hW => by
    have := rValid_any G ra A c W (hr.ext hW) hra
    rwa [hN] at this
  have VB : Hid (∀ W, Ext w W → Calls Tryz.prog 24 #[.agg #[.slice B M d, .int .i64 rb]] W fun e w' => e = .returned (.bool (validT H rb)) ∧ Ext W w') := Lib.hid fun W hW => by
    have := rValid_any H rb B d W (hs.ext hW) hrb
    rwa [hM] at this
  have B0 : Hid (Ext w ((w.alloc (.cells #[.slice A N c, .int .i64 ra] 24)).alloc (.cells #[.slice B M d, .int .i64 rb] 24))) := Lib.hid (((Ext.rfl' _).alloc _).alloc _)
  clear hg hr hs hN hM
  by_cases hA60 : 60 < N
  · go_enter Tryz.func6, Tryz.ntmps6
    go_wp2_with fail
    refine (GA.out _).mono ?_
    rw [show decide (60 < N) = true from by simp; omega]
    rintro e w1 ⟨rfl, hx⟩
    have Y1 : Hid (Ext ((w.alloc (.cells #[.slice A N c, .int .i64 ra] 24)).alloc (.cells #[.slice B M d, .int .i64 rb] 24)) w1) := Lib.hid hx
    obtain ⟨a0, a1, b0, b1⟩ := TB2.of Y1.out
    clear hx
    go_wp2_with fail
    refine (alive_any _ (HG.out.ext (B0.out.trans' Y1.out))).mono ?_
    rintro e w9 ⟨rfl, hx⟩
    have Y9 := Lib.hid ((B0.out.trans' Y1.out).trans' hx)
    clear hx
    go_wp2
    go_ret
    exact ⟨rfl, Y9.out⟩
  by_cases hB60 : 60 < M
  · go_enter Tryz.func6, Tryz.ntmps6
    go_wp2_with fail
    refine (GA.out _).mono ?_
    rw [show decide (60 < N) = false from by simp; omega]
    rintro e w1 ⟨rfl, hx⟩
    have Y1 : Hid (Ext ((w.alloc (.cells #[.slice A N c, .int .i64 ra] 24)).alloc (.cells #[.slice B M d, .int .i64 rb] 24)) w1) := Lib.hid hx
    obtain ⟨a0, a1, b0, b1⟩ := TB2.of Y1.out
    clear hx
    go_wp2_with fail
    refine (GB.out _).mono ?_
    rw [show decide (60 < M) = true from by simp; omega]
    rintro e w2 ⟨rfl, hx⟩
    have Y2 := Lib.hid (Y1.out.trans' hx)
    obtain ⟨a0, a1, b0, b1⟩ := TB2.of Y2.out
    clear hx
    go_wp2_with fail
    refine (alive_any _ (HG.out.ext (B0.out.trans' Y2.out))).mono ?_
    rintro e w9 ⟨rfl, hx⟩
    have Y9 := Lib.hid ((B0.out.trans' Y2.out).trans' hx)
    clear hx
    go_wp2
    go_ret
    exact ⟨rfl, Y9.out⟩
  cases hva : validT G ra with
  | false =>
    have HVA := Lib.hid hva
    clear hva
    go_enter Tryz.func6, Tryz.ntmps6
    go_wp2_with fail
    refine (GA.out _).mono ?_
    rw [show decide (60 < N) = false from by simp; omega]
    rintro e w1 ⟨rfl, hx⟩
    have Y1 : Hid (Ext ((w.alloc (.cells #[.slice A N c, .int .i64 ra] 24)).alloc (.cells #[.slice B M d, .int .i64 rb] 24)) w1) := Lib.hid hx
    obtain ⟨a0, a1, b0, b1⟩ := TB2.of Y1.out
    clear hx
    go_wp2_with fail
    refine (GB.out _).mono ?_
    rw [show decide (60 < M) = false from by simp; omega]
    rintro e w2 ⟨rfl, hx⟩
    have Y2 := Lib.hid (Y1.out.trans' hx)
    obtain ⟨a0, a1, b0, b1⟩ := TB2.of Y2.out
    clear hx
    go_wp2_with fail
    refine (VA.out _ (B0.out.trans' Y2.out)).mono ?_
    rw [HVA.out]
    rintro e w3 ⟨rfl, hx⟩
    have Y3 := Lib.hid (Y2.out.trans' hx)
    obtain ⟨a0, a1, b0, b1⟩ := TB2.of Y3.out
    clear hx
    go_wp2_with fail
    refine (alive_any _ (HG.out.ext (B0.out.trans' Y3.out))).mono ?_
    rintro e w9 ⟨rfl, hx⟩
    have Y9 := Lib.hid ((B0.out.trans' Y3.out).trans' hx)
    clear hx
    go_wp2
    go_ret
    exact ⟨rfl, Y9.out⟩
  | true =>
  have HVA := Lib.hid hva
  clear hva
  cases hvb : validT H rb with
  | false =>
    have HVB := Lib.hid hvb
    clear hvb
    go_enter Tryz.func6, Tryz.ntmps6
    go_wp2_with fail
    refine (GA.out _).mono ?_
    rw [show decide (60 < N) = false from by simp; omega]
    rintro e w1 ⟨rfl, hx⟩
    have Y1 : Hid (Ext ((w.alloc (.cells #[.slice A N c, .int .i64 ra] 24)).alloc (.cells #[.slice B M d, .int .i64 rb] 24)) w1) := Lib.hid hx
    obtain ⟨a0, a1, b0, b1⟩ := TB2.of Y1.out
    clear hx
    go_wp2_with fail
    refine (GB.out _).mono ?_
    rw [show decide (60 < M) = false from by simp; omega]
    rintro e w2 ⟨rfl, hx⟩
    have Y2 := Lib.hid (Y1.out.trans' hx)
    obtain ⟨a0, a1, b0, b1⟩ := TB2.of Y2.out
    clear hx
    go_wp2_with fail
    refine (VA.out _ (B0.out.trans' Y2.out)).mono ?_
    rw [HVA.out]
    rintro e w3 ⟨rfl, hx⟩
    have Y3 := Lib.hid (Y2.out.trans' hx)
    obtain ⟨a0, a1, b0, b1⟩ := TB2.of Y3.out
    clear hx
    go_wp2_with fail
    refine (VB.out _ (B0.out.trans' Y3.out)).mono ?_
    rw [HVB.out]
    rintro e w4 ⟨rfl, hx⟩
    have Y4 := Lib.hid (Y3.out.trans' hx)
    obtain ⟨a0, a1, b0, b1⟩ := TB2.of Y4.out
    clear hx
    go_wp2_with fail
    refine (alive_any _ (HG.out.ext (B0.out.trans' Y4.out))).mono ?_
    rintro e w9 ⟨rfl, hx⟩
    have Y9 := Lib.hid ((B0.out.trans' Y4.out).trans' hx)
    clear hx
    go_wp2
    go_ret
    exact ⟨rfl, Y9.out⟩
  | true =>
  have HVB := Lib.hid hvb
  clear hvb
  go_enter Tryz.func6, Tryz.ntmps6
  go_wp2_with fail
  refine (GA.out _).mono ?_
  rw [show decide (60 < N) = false from by simp; omega]
  rintro e w1 ⟨rfl, hx⟩
  have Y1 : Hid (Ext ((w.alloc (.cells #[.slice A N c, .int .i64 ra] 24)).alloc (.cells #[.slice B M d, .int .i64 rb] 24)) w1) := Lib.hid hx
  obtain ⟨a0, a1, b0, b1⟩ := TB2.of Y1.out
  clear hx
  go_wp2_with fail
  refine (GB.out _).mono ?_
  rw [show decide (60 < M) = false from by simp; omega]
  rintro e w2 ⟨rfl, hx⟩
  have Y2 := Lib.hid (Y1.out.trans' hx)
  obtain ⟨a0, a1, b0, b1⟩ := TB2.of Y2.out
  clear hx
  go_wp2_with fail
  refine (VA.out _ (B0.out.trans' Y2.out)).mono ?_
  rw [HVA.out]
  rintro e w3 ⟨rfl, hx⟩
  have Y3 := Lib.hid (Y2.out.trans' hx)
  obtain ⟨a0, a1, b0, b1⟩ := TB2.of Y3.out
  clear hx
  go_wp2_with fail
  refine (VB.out _ (B0.out.trans' Y3.out)).mono ?_
  rw [HVB.out]
  rintro e w4 ⟨rfl, hx⟩
  have Y4 := Lib.hid (Y3.out.trans' hx)
  obtain ⟨a0, a1, b0, b1⟩ := TB2.of Y4.out
  clear hx
  go_wp2_with fail
  have hN60 : G.length ≤ 60 := by rw [HN.out]; omega
  have hM60 : H.length ≤ 60 := by rw [HM.out]; omega
  refine (Same_any G H ra rb A B c d N M w4 (HR.out.ext (B0.out.trans' Y4.out)) (HS.out.ext (B0.out.trans' Y4.out)) hra hrb HN.out HM.out).mono ?_
  rintro e w5 ⟨hx, hp, _⟩
  obtain ⟨bs0, rfl, hb0⟩ := hp (by rw [HVA.out, HVB.out]; rfl)
  have HSAME := Lib.hid hb0
  have Y5 := Lib.hid (Y4.out.trans' hx)
  clear hp hx hb0 a0 a1 b0 b1 Y1 Y2 Y3 Y4
  go_wp2
  go_loopw [11, 12] (fun v11 v12 wr => ∃ (k : Nat) (b : Bool), k ≤ 13 ∧ v11 = .bool b ∧ v12 = .int .i64 k ∧ (b = true ↔ ∀ j, j < k → cutD (den G ra.toNat) j = cutD (den H rb.toNat) j) ∧ Ext ((w.alloc (.cells #[.slice A N c, .int .i64 ra] 24)).alloc (.cells #[.slice B M d, .int .i64 rb] 24)) wr) (fun _ v12 _ => 13 - (intOf v12).toNat)
  case atStart => exact ⟨0, true, by omega, rfl, rfl, ⟨fun _ j hj => by omega, fun _ => rfl⟩, Y5.out⟩
  case round =>
    clear Y5
    obtain ⟨k, b, hk13, rfl, rfl, hb, hE⟩ := hrel
    have HB := Lib.hid hb
    have Y6 := Lib.hid hE
    obtain ⟨a0, a1, b0, b1⟩ := TB2.of hE
    clear hb hE
    by_cases hk : k ≤ 12
    · go_wp2_with fail
      refine (Cut_any G ra k A c N wr (HR.out.ext (B0.out.trans' Y6.out)) hra HN.out).mono ?_
      intro e w6 hp
      obtain ⟨hx, C1, A1, c1, rfl, hc1, hl1, hn1⟩ := al_cutx HVA.out (by omega) (small_cut HVA.out hN60 (by omega)) hp
      obtain ⟨n1, hn⟩ : ∃ n1, n1 = C1.length := ⟨_, rfl⟩
      rw [← hn] at hl1 ⊢
      have HN1 := Lib.hid hn
      have HC1 := Lib.hid hc1
      have Y7 : Hid (Ext ((w.alloc (.cells #[.slice A N c, .int .i64 ra] 24)).alloc (.cells #[.slice B M d, .int .i64 rb] 24)) (w6.alloc (.cells #[.slice A1 n1 c1, .int .i64 0] 24))) := Lib.hid ((Y6.out.trans' hx).trans' ((Ext.rfl' _).alloc _))
      have N1 : Hid (NdsRd (w6.alloc (.cells #[.slice A1 n1 c1, .int .i64 0] 24)) A1 C1) := Lib.hid (hn1.ext ((Ext.rfl' _).alloc _))
      have k0 : (w6.alloc (.cells #[.slice A1 n1 c1, .int .i64 0] 24)).cell? ⟨w6.heap.size, 0, none⟩ = some (.slice A1 n1 c1) := by simp
      have k1 : (w6.alloc (.cells #[.slice A1 n1 c1, .int .i64 0] 24)).cell? ⟨w6.heap.size, 1, none⟩ = some (.int .i64 0) := by simp
      obtain ⟨a0, a1, b0, b1⟩ := TB2.of Y7.out
      clear hp hx hn hc1 hn1
      go_wp2_with fail
      refine (Cut_any H rb k B d M _ (HS.out.ext (B0.out.trans' Y7.out)) hrb HM.out).mono ?_
      intro e w7 hp
      obtain ⟨hx, C2, A2, c2, rfl, hc2, hl2, hn2⟩ := al_cutx HVB.out (by omega) (small_cut HVB.out hM60 (by omega)) hp
      obtain ⟨n2, hn⟩ : ∃ n2, n2 = C2.length := ⟨_, rfl⟩
      rw [← hn] at hl2 ⊢
      have HN2 := Lib.hid hn
      have HC2 := Lib.hid hc2
      have Y8 : Hid (Ext ((w.alloc (.cells #[.slice A N c, .int .i64 ra] 24)).alloc (.cells #[.slice B M d, .int .i64 rb] 24)) (w7.alloc (.cells #[.slice A2 n2 c2, .int .i64 0] 24))) := Lib.hid ((Y7.out.trans' hx).trans' ((Ext.rfl' _).alloc _))
      have N2 : Hid (NdsRd (w7.alloc (.cells #[.slice A2 n2 c2, .int .i64 0] 24)) A2 C2) := Lib.hid (hn2.ext ((Ext.rfl' _).alloc _))
      have N1' : Hid (NdsRd (w7.alloc (.cells #[.slice A2 n2 c2, .int .i64 0] 24)) A1 C1) := Lib.hid (N1.out.ext (hx.trans' ((Ext.rfl' _).alloc _)))
      have k0 : ∀ o, (w7.alloc o).cell? ⟨w6.heap.size, 0, none⟩ = some (.slice A1 n1 c1) := fun o => ((Ext.rfl' _).alloc o).cell (hx.cell k0)
      have k1 : ∀ o, (w7.alloc o).cell? ⟨w6.heap.size, 1, none⟩ = some (.int .i64 0) := fun o => ((Ext.rfl' _).alloc o).cell (hx.cell k1)
      clear hp hx hn hc2 hn2 N1 a0 a1 b0 b1
      go_wp2_with fail
      refine (Same_any C1 C2 0 0 A1 A2 c1 c2 n1 n2 _ N1'.out N2.out (by decide) (by decide) HN1.out.symm HN2.out.symm).mono ?_
      rintro e w8 ⟨hx, hp, _⟩
      have HV1 : validT C1 0 = true := HC1.out.valid (by have := HN1.out; omega)
      have HV2 : validT C2 0 = true := HC2.out.valid (by have := HN2.out; omega)
      obtain ⟨b2, rfl, hb2⟩ := hp (by rw [HV1, HV2]; rfl)
      have hb2' : b2 = true ↔ cutD (den G ra.toNat) k = cutD (den H rb.toNat) k := by
        rw [hb2, show ((0 : Int).toNat) = 0 from rfl, HC1.out.root, HC2.out.root]
      have HB2 := Lib.hid hb2'
      have Y9 := Lib.hid (Y8.out.trans' hx)
      clear hp hx hb2 hb2' HV1 HV2 N1' N2 k0 k1 Y6 Y7 Y8 HC1 HC2 HN1 HN2
      cases b with
      | false =>
        have HNO : Hid (¬ ∀ j, j < k → cutD (den G ra.toNat) j = cutD (den H rb.toNat) j) := Lib.hid fun h => by cases HB.out.2 h
        clear HB
        go_wp2
        refine ⟨⟨k + 1, false, by omega, rfl, by go_num, ?_, Y9.out⟩, by simp [intOf]; omega⟩
        exact ⟨fun h => absurd h (by simp), fun h => absurd (fun j hj => h j (by omega)) HNO.out⟩
      | true =>
        have HALL := Lib.hid (HB.out.1 rfl)
        clear HB
        go_wp2
        refine ⟨⟨k + 1, b2, by omega, rfl, by go_num, ?_, Y9.out⟩, by simp [intOf]; omega⟩
        rw [HB2.out]
        refine ⟨fun h j hj => ?_, fun h => h k (by omega)⟩
        rcases Nat.lt_or_ge j k with h2 | h2
        · exact HALL.out j h2
        · obtain rfl : j = k := by omega
          exact h
    · obtain rfl : k = 13 := by omega
      have hNM : bs0 = false → b = true → 12 < N + M := by
        intro h1 h2
        refine Classical.byContradiction fun hc => ?_
        obtain ⟨_, _, g3, g4, g5⟩ := validT_iff.1 HVA.out
        obtain ⟨_, _, q3, q4, q5⟩ := validT_iff.1 HVB.out
        have hcut := HB.out.1 h2 12 (by omega)
        have := cuts_same g5 q5 (i := ra.toNat) (j := rb.toNat) (by omega) (by omega) (by rw [HN.out, HM.out]; omega) fun p hp => by
          have := congrFun hcut p
          rw [cutD_lt (by omega), cutD_lt (by omega)] at this
          exact this
        have := HSAME.out.2 this
        rw [h1] at this
        cases this
      have hTT : bs0 = true → b = true := fun h => HB.out.2 fun j _ => by rw [HSAME.out.1 h]
      clear HB HSAME
      obtain ⟨xn, rfl⟩ := Int.eq_ofNat_of_zero_le hx.1
      obtain ⟨yn, rfl⟩ := Int.eq_ofNat_of_zero_le hy.1
      cases bs0 with
      | true =>
        obtain rfl := hTT rfl
        clear hNM hTT
        go_wp2_with fail
        obtain ⟨m, hm, hm12⟩ : ∃ m : Nat, (xn : Int) % 13 = (m : Int) ∧ m ≤ 12 := ⟨xn % 13, by omega, by omega⟩
        obtain ⟨n, hn, hn12⟩ : ∃ n : Nat, (yn : Int) % 13 = (n : Int) ∧ n ≤ 12 := ⟨yn % 13, by omega, by omega⟩
        rw [hm, hn]
        clear hm hn
        refine (Cut_any G ra m A c N wr (HR.out.ext (B0.out.trans' Y6.out)) hra HN.out).mono ?_
        intro e v1 hp
        obtain ⟨hx, C1, A1, c1, rfl, hc1, hl1, hn1⟩ := al_cutx HVA.out hm12 (small_cut HVA.out hN60 hm12) hp
        obtain ⟨n1, hn⟩ : ∃ n1, n1 = C1.length := ⟨_, rfl⟩
        rw [← hn] at hl1 ⊢
        have HN1 := Lib.hid hn
        have HC1 := Lib.hid hc1
        have Y7 : Hid (Ext ((w.alloc (.cells #[.slice A N c, .int .i64 ra] 24)).alloc (.cells #[.slice B M d, .int .i64 rb] 24)) (v1.alloc (.cells #[.slice A1 n1 c1, .int .i64 0] 24))) := Lib.hid ((Y6.out.trans' hx).trans' ((Ext.rfl' _).alloc _))
        have N1 : Hid (NdsRd (v1.alloc (.cells #[.slice A1 n1 c1, .int .i64 0] 24)) A1 C1) := Lib.hid (hn1.ext ((Ext.rfl' _).alloc _))
        have k0 : (v1.alloc (.cells #[.slice A1 n1 c1, .int .i64 0] 24)).cell? ⟨v1.heap.size, 0, none⟩ = some (.slice A1 n1 c1) := by simp
        have k1 : (v1.alloc (.cells #[.slice A1 n1 c1, .int .i64 0] 24)).cell? ⟨v1.heap.size, 1, none⟩ = some (.int .i64 0) := by simp
        obtain ⟨a0, a1, b0, b1⟩ := TB2.of Y7.out
        clear hp hx hn hc1 hn1
        go_wp2_with fail
        have HV1 : Hid (validT C1 0 = true) := Lib.hid (HC1.out.valid (by have := HN1.out; omega))
        have HSM : Hid (∀ C, Canon C (cutD (den C1 (0 : Int).toNat) n) → C.length ≤ 780) := Lib.hid fun C hC => by
          rw [show ((0 : Int).toNat) = 0 from rfl, HC1.out.root, cutD_cutD] at hC
          exact small_cut HVA.out hN60 (by omega) C hC
        refine (Cut_any C1 0 n A1 c1 n1 _ N1.out (by decide) HN1.out.symm).mono ?_
        intro e v2 hp
        obtain ⟨hx, C2, A2, c2, rfl, hc2, hl2, hn2⟩ := al_cutx HV1.out hn12 HSM.out hp
        obtain ⟨n2, hn⟩ : ∃ n2, n2 = C2.length := ⟨_, rfl⟩
        rw [← hn] at hl2 ⊢
        have HN2 := Lib.hid hn
        have HC2 := Lib.hid hc2
        have Y8 : Hid (Ext ((w.alloc (.cells #[.slice A N c, .int .i64 ra] 24)).alloc (.cells #[.slice B M d, .int .i64 rb] 24)) (v2.alloc (.cells #[.slice A2 n2 c2, .int .i64 0] 24))) := Lib.hid ((Y7.out.trans' hx).trans' ((Ext.rfl' _).alloc _))
        have N2 : Hid (NdsRd (v2.alloc (.cells #[.slice A2 n2 c2, .int .i64 0] 24)) A2 C2) := Lib.hid (hn2.ext ((Ext.rfl' _).alloc _))
        have E78 : Hid (Ext (v1.alloc (.cells #[.slice A1 n1 c1, .int .i64 0] 24)) (v2.alloc (.cells #[.slice A2 n2 c2, .int .i64 0] 24))) := Lib.hid (hx.trans' ((Ext.rfl' _).alloc _))
        have k2 : (v2.alloc (.cells #[.slice A2 n2 c2, .int .i64 0] 24)).cell? ⟨v2.heap.size, 0, none⟩ = some (.slice A2 n2 c2) := by simp
        have k3 : (v2.alloc (.cells #[.slice A2 n2 c2, .int .i64 0] 24)).cell? ⟨v2.heap.size, 1, none⟩ = some (.int .i64 0) := by simp
        have k0 := E78.out.cell k0
        have k1 := E78.out.cell k1
        obtain ⟨a0, a1, b0, b1⟩ := TB2.of Y8.out
        clear hp hx hn hc2 hn2
        go_wp2_with fail
        rw [show min (m : Int) (n : Int) = ((min m n : Nat) : Int) from by omega]
        refine (Cut_any G ra (min m n : Nat) A c N _ (HR.out.ext (B0.out.trans' Y8.out)) hra HN.out).mono ?_
        intro e v3 hp
        obtain ⟨hx, C3, A3, c3, rfl, hc3, hl3, hn3⟩ := al_cutx HVA.out (by omega) (small_cut HVA.out hN60 (by omega)) hp
        have he32 : C2 = C3 := by
          have h2 := HC2.out
          rw [show ((0 : Int).toNat) = 0 from rfl, HC1.out.root, cutD_cutD] at h2
          exact Canon.unique h2 hc3
        subst he32
        rw [← HN2.out]
        have E89 : Hid (Ext (v2.alloc (.cells #[.slice A2 n2 c2, .int .i64 0] 24)) (v3.alloc (.cells #[.slice A3 n2 c3, .int .i64 0] 24))) := Lib.hid (hx.trans' ((Ext.rfl' _).alloc _))
        have Y9 : Hid (Ext ((w.alloc (.cells #[.slice A N c, .int .i64 ra] 24)).alloc (.cells #[.slice B M d, .int .i64 rb] 24)) (v3.alloc (.cells #[.slice A3 n2 c3, .int .i64 0] 24))) := Lib.hid (Y8.out.trans' E89.out)
        have N3 : Hid (NdsRd (v3.alloc (.cells #[.slice A3 n2 c3, .int .i64 0] 24)) A3 C2) := Lib.hid (hn3.ext ((Ext.rfl' _).alloc _))
        have k4 : (v3.alloc (.cells #[.slice A3 n2 c3, .int .i64 0] 24)).cell? ⟨v3.heap.size, 0, none⟩ = some (.slice A3 n2 c3) := by simp
        have k5 : (v3.alloc (.cells #[.slice A3 n2 c3, .int .i64 0] 24)).cell? ⟨v3.heap.size, 1, none⟩ = some (.int .i64 0) := by simp
        have k0 := E89.out.cell k0
        have k1 := E89.out.cell k1
        have k2 := E89.out.cell k2
        have k3 := E89.out.cell k3
        clear hp hx hc3 hn3 a0 a1 b0 b1
        go_wp2_with fail
        refine (Cyclic_any C1 0 A1 c1 n1 _ (N1.out.ext (E78.out.trans' E89.out)) (by decide) HN1.out.symm).mono ?_
        rintro e v4 ⟨hx, hp⟩
        rw [if_pos HV1.out] at hp
        obtain ⟨bc, rfl, hbc⟩ := hp
        have hwf : Wf C1 0 := wf_of_short HC1.out.vg m 0 HC1.out.pos fun p hp => by
          rw [HC1.out.root]
          exact cutD_gt hp
        obtain rfl : bc = false := by
          cases bc with
          | false => rfl
          | true => exact absurd hwf (hbc.1 rfl)
        have k2 := hx.cell k2
        have k3 := hx.cell k3
        have k4 := hx.cell k4
        have k5 := hx.cell k5
        have YA := Lib.hid (Y9.out.trans' hx)
        have NA2 := Lib.hid (N2.out.ext (E89.out.trans' hx))
        have NA3 := Lib.hid (N3.out.ext hx)
        clear hx hbc hwf k0 k1 N1 N2 N3 E78 E89 Y7 Y8 Y9
        go_wp2_with fail
        refine (rEqual_any C2 C2 0 0 A2 A3 c2 c3 n2 n2 _ NA2.out NA3.out HN2.out.symm HN2.out.symm).mono ?_
        rintro e v5 ⟨rfl, hx⟩
        rw [show decide ((0 : Int) = 0 ∧ C2 = C2) = true from by simp]
        have YB := Lib.hid (B0.out.trans' (YA.out.trans' hx))
        clear hx NA2 NA3 k2 k3 k4 k5 YA
        go_wp2_with fail
        refine (alive_any _ (HG.out.ext YB.out)).mono ?_
        rintro e v6 ⟨rfl, hx⟩
        have YC := Lib.hid (YB.out.trans' hx)
        clear hx YB
        go_wp2
        go_ret
        exact ⟨rfl, YC.out⟩
      | false =>
        cases b with
        | true =>
          have hnm := hNM rfl rfl
          clear hNM hTT
          go_wp2_with fail
          obtain ⟨m, hm, hm12⟩ : ∃ m : Nat, (xn : Int) % 13 = (m : Int) ∧ m ≤ 12 := ⟨xn % 13, by omega, by omega⟩
          obtain ⟨n, hn, hn12⟩ : ∃ n : Nat, (yn : Int) % 13 = (n : Int) ∧ n ≤ 12 := ⟨yn % 13, by omega, by omega⟩
          rw [hm, hn]
          clear hm hn
          refine (Cut_any G ra m A c N wr (HR.out.ext (B0.out.trans' Y6.out)) hra HN.out).mono ?_
          intro e v1 hp
          obtain ⟨hx, C1, A1, c1, rfl, hc1, hl1, hn1⟩ := al_cutx HVA.out hm12 (small_cut HVA.out hN60 hm12) hp
          obtain ⟨n1, hn⟩ : ∃ n1, n1 = C1.length := ⟨_, rfl⟩
          rw [← hn] at hl1 ⊢
          have HN1 := Lib.hid hn
          have HC1 := Lib.hid hc1
          have Y7 : Hid (Ext ((w.alloc (.cells #[.slice A N c, .int .i64 ra] 24)).alloc (.cells #[.slice B M d, .int .i64 rb] 24)) (v1.alloc (.cells #[.slice A1 n1 c1, .int .i64 0] 24))) := Lib.hid ((Y6.out.trans' hx).trans' ((Ext.rfl' _).alloc _))
          have N1 : Hid (NdsRd (v1.alloc (.cells #[.slice A1 n1 c1, .int .i64 0] 24)) A1 C1) := Lib.hid (hn1.ext ((Ext.rfl' _).alloc _))
          have k0 : (v1.alloc (.cells #[.slice A1 n1 c1, .int .i64 0] 24)).cell? ⟨v1.heap.size, 0, none⟩ = some (.slice A1 n1 c1) := by simp
          have k1 : (v1.alloc (.cells #[.slice A1 n1 c1, .int .i64 0] 24)).cell? ⟨v1.heap.size, 1, none⟩ = some (.int .i64 0) := by simp
          obtain ⟨a0, a1, b0, b1⟩ := TB2.of Y7.out
          clear hp hx hn hc1 hn1
          go_wp2_with fail
          have HV1 : Hid (validT C1 0 = true) := Lib.hid (HC1.out.valid (by have := HN1.out; omega))
          have HSM : Hid (∀ C, Canon C (cutD (den C1 (0 : Int).toNat) n) → C.length ≤ 780) := Lib.hid fun C hC => by
            rw [show ((0 : Int).toNat) = 0 from rfl, HC1.out.root, cutD_cutD] at hC
            exact small_cut HVA.out hN60 (by omega) C hC
          refine (Cut_any C1 0 n A1 c1 n1 _ N1.out (by decide) HN1.out.symm).mono ?_
          intro e v2 hp
          obtain ⟨hx, C2, A2, c2, rfl, hc2, hl2, hn2⟩ := al_cutx HV1.out hn12 HSM.out hp
          obtain ⟨n2, hn⟩ : ∃ n2, n2 = C2.length := ⟨_, rfl⟩
          rw [← hn] at hl2 ⊢
          have HN2 := Lib.hid hn
          have HC2 := Lib.hid hc2
          have Y8 : Hid (Ext ((w.alloc (.cells #[.slice A N c, .int .i64 ra] 24)).alloc (.cells #[.slice B M d, .int .i64 rb] 24)) (v2.alloc (.cells #[.slice A2 n2 c2, .int .i64 0] 24))) := Lib.hid ((Y7.out.trans' hx).trans' ((Ext.rfl' _).alloc _))
          have N2 : Hid (NdsRd (v2.alloc (.cells #[.slice A2 n2 c2, .int .i64 0] 24)) A2 C2) := Lib.hid (hn2.ext ((Ext.rfl' _).alloc _))
          have E78 : Hid (Ext (v1.alloc (.cells #[.slice A1 n1 c1, .int .i64 0] 24)) (v2.alloc (.cells #[.slice A2 n2 c2, .int .i64 0] 24))) := Lib.hid (hx.trans' ((Ext.rfl' _).alloc _))
          have k2 : (v2.alloc (.cells #[.slice A2 n2 c2, .int .i64 0] 24)).cell? ⟨v2.heap.size, 0, none⟩ = some (.slice A2 n2 c2) := by simp
          have k3 : (v2.alloc (.cells #[.slice A2 n2 c2, .int .i64 0] 24)).cell? ⟨v2.heap.size, 1, none⟩ = some (.int .i64 0) := by simp
          have k0 := E78.out.cell k0
          have k1 := E78.out.cell k1
          obtain ⟨a0, a1, b0, b1⟩ := TB2.of Y8.out
          clear hp hx hn hc2 hn2
          go_wp2_with fail
          rw [show min (m : Int) (n : Int) = ((min m n : Nat) : Int) from by omega]
          refine (Cut_any G ra (min m n : Nat) A c N _ (HR.out.ext (B0.out.trans' Y8.out)) hra HN.out).mono ?_
          intro e v3 hp
          obtain ⟨hx, C3, A3, c3, rfl, hc3, hl3, hn3⟩ := al_cutx HVA.out (by omega) (small_cut HVA.out hN60 (by omega)) hp
          have he32 : C2 = C3 := by
            have h2 := HC2.out
            rw [show ((0 : Int).toNat) = 0 from rfl, HC1.out.root, cutD_cutD] at h2
            exact Canon.unique h2 hc3
          subst he32
          rw [← HN2.out]
          have E89 : Hid (Ext (v2.alloc (.cells #[.slice A2 n2 c2, .int .i64 0] 24)) (v3.alloc (.cells #[.slice A3 n2 c3, .int .i64 0] 24))) := Lib.hid (hx.trans' ((Ext.rfl' _).alloc _))
          have Y9 : Hid (Ext ((w.alloc (.cells #[.slice A N c, .int .i64 ra] 24)).alloc (.cells #[.slice B M d, .int .i64 rb] 24)) (v3.alloc (.cells #[.slice A3 n2 c3, .int .i64 0] 24))) := Lib.hid (Y8.out.trans' E89.out)
          have N3 : Hid (NdsRd (v3.alloc (.cells #[.slice A3 n2 c3, .int .i64 0] 24)) A3 C2) := Lib.hid (hn3.ext ((Ext.rfl' _).alloc _))
          have k4 : (v3.alloc (.cells #[.slice A3 n2 c3, .int .i64 0] 24)).cell? ⟨v3.heap.size, 0, none⟩ = some (.slice A3 n2 c3) := by simp
          have k5 : (v3.alloc (.cells #[.slice A3 n2 c3, .int .i64 0] 24)).cell? ⟨v3.heap.size, 1, none⟩ = some (.int .i64 0) := by simp
          have k0 := E89.out.cell k0
          have k1 := E89.out.cell k1
          have k2 := E89.out.cell k2
          have k3 := E89.out.cell k3
          clear hp hx hc3 hn3 a0 a1 b0 b1
          go_wp2_with fail
          refine (Cyclic_any C1 0 A1 c1 n1 _ (N1.out.ext (E78.out.trans' E89.out)) (by decide) HN1.out.symm).mono ?_
          rintro e v4 ⟨hx, hp⟩
          rw [if_pos HV1.out] at hp
          obtain ⟨bc, rfl, hbc⟩ := hp
          have hwf : Wf C1 0 := wf_of_short HC1.out.vg m 0 HC1.out.pos fun p hp => by
            rw [HC1.out.root]
            exact cutD_gt hp
          obtain rfl : bc = false := by
            cases bc with
            | false => rfl
            | true => exact absurd hwf (hbc.1 rfl)
          have k2 := hx.cell k2
          have k3 := hx.cell k3
          have k4 := hx.cell k4
          have k5 := hx.cell k5
          have YA := Lib.hid (Y9.out.trans' hx)
          have NA2 := Lib.hid (N2.out.ext (E89.out.trans' hx))
          have NA3 := Lib.hid (N3.out.ext hx)
          clear hx hbc hwf k0 k1 N1 N2 N3 E78 E89 Y7 Y8 Y9
          go_wp2_with fail
          refine (rEqual_any C2 C2 0 0 A2 A3 c2 c3 n2 n2 _ NA2.out NA3.out HN2.out.symm HN2.out.symm).mono ?_
          rintro e v5 ⟨rfl, hx⟩
          rw [show decide ((0 : Int) = 0 ∧ C2 = C2) = true from by simp]
          have YB := Lib.hid (B0.out.trans' (YA.out.trans' hx))
          clear hx NA2 NA3 k2 k3 k4 k5 YA
          go_wp2_with fail
          refine (alive_any _ (HG.out.ext YB.out)).mono ?_
          rintro e v6 ⟨rfl, hx⟩
          have YC := Lib.hid (YB.out.trans' hx)
          clear hx YB
          go_wp2
          go_ret
          exact ⟨rfl, YC.out⟩
        | false =>
          clear hNM hTT
          go_wp2_with fail
          obtain ⟨m, hm, hm12⟩ : ∃ m : Nat, (xn : Int) % 13 = (m : Int) ∧ m ≤ 12 := ⟨xn % 13, by omega, by omega⟩
          obtain ⟨n, hn, hn12⟩ : ∃ n : Nat, (yn : Int) % 13 = (n : Int) ∧ n ≤ 12 := ⟨yn % 13, by omega, by omega⟩
          rw [hm, hn]
          clear hm hn
          refine (Cut_any G ra m A c N wr (HR.out.ext (B0.out.trans' Y6.out)) hra HN.out).mono ?_
          intro e v1 hp
          obtain ⟨hx, C1, A1, c1, rfl, hc1, hl1, hn1⟩ := al_cutx HVA.out hm12 (small_cut HVA.out hN60 hm12) hp
          obtain ⟨n1, hn⟩ : ∃ n1, n1 = C1.length := ⟨_, rfl⟩
          rw [← hn] at hl1 ⊢
          have HN1 := Lib.hid hn
          have HC1 := Lib.hid hc1
          have Y7 : Hid (Ext ((w.alloc (.cells #[.slice A N c, .int .i64 ra] 24)).alloc (.cells #[.slice B M d, .int .i64 rb] 24)) (v1.alloc (.cells #[.slice A1 n1 c1, .int .i64 0] 24))) := Lib.hid ((Y6.out.trans' hx).trans' ((Ext.rfl' _).alloc _))
          have N1 : Hid (NdsRd (v1.alloc (.cells #[.slice A1 n1 c1, .int .i64 0] 24)) A1 C1) := Lib.hid (hn1.ext ((Ext.rfl' _).alloc _))
          have k0 : (v1.alloc (.cells #[.slice A1 n1 c1, .int .i64 0] 24)).cell? ⟨v1.heap.size, 0, none⟩ = some (.slice A1 n1 c1) := by simp
          have k1 : (v1.alloc (.cells #[.slice A1 n1 c1, .int .i64 0] 24)).cell? ⟨v1.heap.size, 1, none⟩ = some (.int .i64 0) := by simp
          obtain ⟨a0, a1, b0, b1⟩ := TB2.of Y7.out
          clear hp hx hn hc1 hn1
          go_wp2_with fail
          have HV1 : Hid (validT C1 0 = true) := Lib.hid (HC1.out.valid (by have := HN1.out; omega))
          have HSM : Hid (∀ C, Canon C (cutD (den C1 (0 : Int).toNat) n) → C.length ≤ 780) := Lib.hid fun C hC => by
            rw [show ((0 : Int).toNat) = 0 from rfl, HC1.out.root, cutD_cutD] at hC
            exact small_cut HVA.out hN60 (by omega) C hC
          refine (Cut_any C1 0 n A1 c1 n1 _ N1.out (by decide) HN1.out.symm).mono ?_
          intro e v2 hp
          obtain ⟨hx, C2, A2, c2, rfl, hc2, hl2, hn2⟩ := al_cutx HV1.out hn12 HSM.out hp
          obtain ⟨n2, hn⟩ : ∃ n2, n2 = C2.length := ⟨_, rfl⟩
          rw [← hn] at hl2 ⊢
          have HN2 := Lib.hid hn
          have HC2 := Lib.hid hc2
          have Y8 : Hid (Ext ((w.alloc (.cells #[.slice A N c, .int .i64 ra] 24)).alloc (.cells #[.slice B M d, .int .i64 rb] 24)) (v2.alloc (.cells #[.slice A2 n2 c2, .int .i64 0] 24))) := Lib.hid ((Y7.out.trans' hx).trans' ((Ext.rfl' _).alloc _))
          have N2 : Hid (NdsRd (v2.alloc (.cells #[.slice A2 n2 c2, .int .i64 0] 24)) A2 C2) := Lib.hid (hn2.ext ((Ext.rfl' _).alloc _))
          have E78 : Hid (Ext (v1.alloc (.cells #[.slice A1 n1 c1, .int .i64 0] 24)) (v2.alloc (.cells #[.slice A2 n2 c2, .int .i64 0] 24))) := Lib.hid (hx.trans' ((Ext.rfl' _).alloc _))
          have k2 : (v2.alloc (.cells #[.slice A2 n2 c2, .int .i64 0] 24)).cell? ⟨v2.heap.size, 0, none⟩ = some (.slice A2 n2 c2) := by simp
          have k3 : (v2.alloc (.cells #[.slice A2 n2 c2, .int .i64 0] 24)).cell? ⟨v2.heap.size, 1, none⟩ = some (.int .i64 0) := by simp
          have k0 := E78.out.cell k0
          have k1 := E78.out.cell k1
          obtain ⟨a0, a1, b0, b1⟩ := TB2.of Y8.out
          clear hp hx hn hc2 hn2
          go_wp2_with fail
          rw [show min (m : Int) (n : Int) = ((min m n : Nat) : Int) from by omega]
          refine (Cut_any G ra (min m n : Nat) A c N _ (HR.out.ext (B0.out.trans' Y8.out)) hra HN.out).mono ?_
          intro e v3 hp
          obtain ⟨hx, C3, A3, c3, rfl, hc3, hl3, hn3⟩ := al_cutx HVA.out (by omega) (small_cut HVA.out hN60 (by omega)) hp
          have he32 : C2 = C3 := by
            have h2 := HC2.out
            rw [show ((0 : Int).toNat) = 0 from rfl, HC1.out.root, cutD_cutD] at h2
            exact Canon.unique h2 hc3
          subst he32
          rw [← HN2.out]
          have E89 : Hid (Ext (v2.alloc (.cells #[.slice A2 n2 c2, .int .i64 0] 24)) (v3.alloc (.cells #[.slice A3 n2 c3, .int .i64 0] 24))) := Lib.hid (hx.trans' ((Ext.rfl' _).alloc _))
          have Y9 : Hid (Ext ((w.alloc (.cells #[.slice A N c, .int .i64 ra] 24)).alloc (.cells #[.slice B M d, .int .i64 rb] 24)) (v3.alloc (.cells #[.slice A3 n2 c3, .int .i64 0] 24))) := Lib.hid (Y8.out.trans' E89.out)
          have N3 : Hid (NdsRd (v3.alloc (.cells #[.slice A3 n2 c3, .int .i64 0] 24)) A3 C2) := Lib.hid (hn3.ext ((Ext.rfl' _).alloc _))
          have k4 : (v3.alloc (.cells #[.slice A3 n2 c3, .int .i64 0] 24)).cell? ⟨v3.heap.size, 0, none⟩ = some (.slice A3 n2 c3) := by simp
          have k5 : (v3.alloc (.cells #[.slice A3 n2 c3, .int .i64 0] 24)).cell? ⟨v3.heap.size, 1, none⟩ = some (.int .i64 0) := by simp
          have k0 := E89.out.cell k0
          have k1 := E89.out.cell k1
          have k2 := E89.out.cell k2
          have k3 := E89.out.cell k3
          clear hp hx hc3 hn3 a0 a1 b0 b1
          go_wp2_with fail
          refine (Cyclic_any C1 0 A1 c1 n1 _ (N1.out.ext (E78.out.trans' E89.out)) (by decide) HN1.out.symm).mono ?_
          rintro e v4 ⟨hx, hp⟩
          rw [if_pos HV1.out] at hp
          obtain ⟨bc, rfl, hbc⟩ := hp
          have hwf : Wf C1 0 := wf_of_short HC1.out.vg m 0 HC1.out.pos fun p hp => by
            rw [HC1.out.root]
            exact cutD_gt hp
          obtain rfl : bc = false := by
            cases bc with
            | false => rfl
            | true => exact absurd hwf (hbc.1 rfl)
          have k2 := hx.cell k2
          have k3 := hx.cell k3
          have k4 := hx.cell k4
          have k5 := hx.cell k5
          have YA := Lib.hid (Y9.out.trans' hx)
          have NA2 := Lib.hid (N2.out.ext (E89.out.trans' hx))
          have NA3 := Lib.hid (N3.out.ext hx)
          clear hx hbc hwf k0 k1 N1 N2 N3 E78 E89 Y7 Y8 Y9
          go_wp2_with fail
          refine (rEqual_any C2 C2 0 0 A2 A3 c2 c3 n2 n2 _ NA2.out NA3.out HN2.out.symm HN2.out.symm).mono ?_
          rintro e v5 ⟨rfl, hx⟩
          rw [show decide ((0 : Int) = 0 ∧ C2 = C2) = true from by simp]
          have YB := Lib.hid (B0.out.trans' (YA.out.trans' hx))
          clear hx NA2 NA3 k2 k3 k4 k5 YA
          go_wp2_with fail
          refine (alive_any _ (HG.out.ext YB.out)).mono ?_
          rintro e v6 ⟨rfl, hx⟩
          have YC := Lib.hid (YB.out.trans' hx)
          clear hx YB
          go_wp2
          go_ret
          exact ⟨rfl, YC.out⟩
end Go.Proofs.YtnleljpebnnhfaaGreatDoor

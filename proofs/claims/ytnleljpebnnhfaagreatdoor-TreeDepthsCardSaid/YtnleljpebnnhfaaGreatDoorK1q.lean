/- TreeBack: the walk. -/
import Derived.Test.YtnleljpebnnhfaaGreatDoorK0q
import Derived.Test.YtnleljpebnnhfaaGreatDoorZa
set_option linter.unusedSimpArgs false
set_option linter.unusedVariables false
namespace Go.Proofs.YtnleljpebnnhfaaGreatDoor
open Go.RowKit
theorem great_any (A : Option Addr) (N c : Nat) (root : Int) (w : World) (hle : N ≤ 140737488355328) :
    Calls Tryz.prog 15 #[.agg #[.slice A N c, .int .i64 root]] w fun e w' => e = .returned (.bool (decide (60 < N))) ∧ Ext w w' := by
  go_enter Tryz.func15, Tryz.ntmps15
  go_wp2
  go_ret
  exact ⟨retB (by rw [Bool.eq_iff_iff]; simp; try omega), (Ext.rfl' _).alloc _⟩
theorem boxT {w : World} (A : Option Addr) (N c : Nat) (root : Int) {W : World} (h : Ext (w.alloc (.cells #[.slice A N c, .int .i64 root] 24)) W) :
    W.cell? ⟨w.heap.size, 0, none⟩ = some (.slice A N c) ∧ W.cell? ⟨w.heap.size, 1, none⟩ = some (.int .i64 root) :=
  ⟨h.cell (by simp), h.cell (by simp)⟩
set_option maxRecDepth 100000 in
set_option maxHeartbeats 4000000 in
theorem treeBack_any (G : List Nd) (hNR : NR G) (root : Int) (A : Option Addr) (c N : Nat) (w : World) (hg : Gl w) (hr : NdsRd w A G) (hroot : root ≤ 9223372036854775807) (hN : G.length = N) :
    Calls Tryz.prog 9 #[.agg #[.slice A N c, .int .i64 root]] w fun e w' => e = .returned (.bool true) ∧ Ext w w' := by
  have hle : N ≤ 140737488355328 := by rw [← hN]; exact hr.1
  have HG := Lib.hid hg
  have HR := Lib.hid hr
  have HN := Lib.hid hN
  have HNR := Lib.hid hNR
  have HGR : Hid (∀ W, _) := Lib.hid fun W => great_any A N c root W hle
  have X0 : Hid (Ext w (w.alloc (.cells #[.slice A N c, .int .i64 root] 24))) := Lib.hid ((Ext.rfl' _).alloc _)
  clear hg hr hN hNR
  by_cases h60 : 60 < N
  · go_enter Tryz.func9, Tryz.ntmps9
    go_wp2_with fail
    refine (HGR.out _).mono ?_
    rw [show decide (60 < N) = true from by simp [h60]]
    rintro e w1 ⟨rfl, hx⟩
    have X1 := Lib.hid (X0.out.trans' hx)
    clear hx
    go_wp2_with fail
    refine (alive_any _ (HG.out.ext X1.out)).mono ?_
    rintro e w2 ⟨rfl, hx⟩
    have X2 := Lib.hid (X1.out.trans' hx)
    clear hx
    go_wp2
    go_ret
    exact ⟨rfl, X2.out⟩
  · go_enter Tryz.func9, Tryz.ntmps9
    go_wp2_with fail
    refine (HGR.out _).mono ?_
    rw [show decide (60 < N) = false from by simp [h60]]
    rintro e w1 ⟨rfl, hx⟩
    obtain ⟨b0, b1⟩ := boxT A N c root hx
    have X1 := Lib.hid (X0.out.trans' hx)
    have B1 := Lib.hid hx
    clear hx
    go_wp2_with fail
    refine (Text_any G HNR.out root A c N w1 (HG.out.ext X1.out) (HR.out.ext X1.out) hroot HN.out).mono ?_
    rintro e w2 ⟨hx, ht, hf⟩
    cases hvt : validT G root with
    | false =>
      have he := hf hvt
      subst he
      obtain ⟨b0, b1⟩ := boxT A N c root (B1.out.trans' hx)
      have HVT := Lib.hid hvt
      have X2 := Lib.hid (X1.out.trans' hx)
      clear hx ht hf B1
      go_wp2_with fail
      have hv := rValid_any G root A c w2 (HR.out.ext X2.out) hroot
      rw [HN.out, HVT.out] at hv
      refine hv.mono ?_
      rintro e w3 ⟨rfl, hx⟩
      have X3 := Lib.hid (X2.out.trans' hx)
      clear hx hv
      go_wp2_with fail
      refine (alive_any _ (HG.out.ext X3.out)).mono ?_
      rintro e w4 ⟨rfl, hx⟩
      have X4 := Lib.hid (X3.out.trans' hx)
      clear hx
      go_wp2
      go_ret
      exact ⟨rfl, X4.out⟩
    | true =>
      obtain ⟨C, hcan, hlen, hs, hlong⟩ := ht hvt
      have hval := validT_iff.1 hvt
      by_cases h4 : (textOf C).length ≤ 4000
      · have he := hs h4
        subst he
        obtain ⟨S, hS⟩ : ∃ S, textOf C = S := ⟨_, rfl⟩
        rw [hS] at h4 ⊢
        have hIT : IsText C S := ⟨⟨_, hcan⟩, Canon.nr hcan hval.2.2.2.2 (by omega) HNR.out, by omega, hS⟩
        have hl8 : C.length ≤ 8000 := by omega
        obtain ⟨b0, b1⟩ := boxT A N c root (B1.out.trans' hx)
        have HVT := Lib.hid hvt
        have HIT := Lib.hid hIT
        have HC := Lib.hid hcan
        have X2 := Lib.hid (X1.out.trans' hx)
        have B2 := Lib.hid (B1.out.trans' hx)
        have hsz : decide (((bs S).size : Int) ≤ 4000) = true := by rw [bs_size]; simp; omega
        have hsz2 : (bs S).size ≤ 4000 := by rw [bs_size]; omega
        clear hx ht hf hs hlong B1 hcan hlen hval hS hIT hvt X1
        go_wp2_with fail
        refine (Parse_any S (by omega) w2 (HG.out.ext X2.out)).mono ?_
        rintro e w3 ⟨hx, _, hp⟩
        rcases hp h4 with ⟨C', v, ht, rfl, ho⟩ | ⟨hno, _⟩
        · have := ht.unique HIT.out
          subst this
          obtain ⟨A5, c5, rfl, _⟩ := ho.shape
          have hnd := ho.nd HC.out.vg (by omega)
          obtain ⟨M, hM⟩ : ∃ M, M = C'.length := ⟨_, rfl⟩
          rw [← hM] at hl8 ⊢
          have HM := Lib.hid hM
          have X3 : Hid (Ext w (w3.alloc (.cells #[.slice A5 M c5, .int .i64 0] 24))) := Lib.hid ((X2.out.trans' hx).trans' ((Ext.rfl' _).alloc _))
          have N3 : Hid (NdsRd (w3.alloc (.cells #[.slice A5 M c5, .int .i64 0] 24)) A5 C') := Lib.hid (hnd.ext ((Ext.rfl' _).alloc _))
          obtain ⟨b0, b1⟩ := boxT A N c root ((B2.out.trans' hx).trans' ((Ext.rfl' w3).alloc (.cells #[.slice A5 M c5, .int .i64 0] 24)))
          have k0 : (w3.alloc (.cells #[.slice A5 M c5, .int .i64 0] 24)).cell? ⟨w3.heap.size, 0, none⟩ = some (.slice A5 M c5) := by simp
          have k1 : (w3.alloc (.cells #[.slice A5 M c5, .int .i64 0] 24)).cell? ⟨w3.heap.size, 1, none⟩ = some (.int .i64 0) := by simp
          clear hx hp ht ho hnd hM B2 X2
          go_wp2_with fail
          refine (Least_any G root A c N _ (HR.out.ext X3.out) hroot HN.out).mono ?_
          intro e w4 hp
          obtain ⟨hx, A4, c4, rfl, hnd4⟩ := al_least HVT.out HC.out hp
          rw [← HM.out]
          have k0 : ∀ o, (w4.alloc o).cell? ⟨w3.heap.size, 0, none⟩ = some (.slice A5 M c5) := fun o => ((Ext.rfl' _).alloc o).cell (hx.cell k0)
          have k1 : ∀ o, (w4.alloc o).cell? ⟨w3.heap.size, 1, none⟩ = some (.int .i64 0) := fun o => ((Ext.rfl' _).alloc o).cell (hx.cell k1)
          have X4 : Hid (Ext w (w4.alloc (.cells #[.slice A4 M c4, .int .i64 0] 24))) := Lib.hid ((X3.out.trans' hx).trans' ((Ext.rfl' _).alloc _))
          have N4 := Lib.hid (N3.out.ext (hx.trans' ((Ext.rfl' _).alloc (.cells #[.slice A4 M c4, .int .i64 0] 24))))
          have M4 := Lib.hid (hnd4.ext ((Ext.rfl' _).alloc (.cells #[.slice A4 M c4, .int .i64 0] 24)))
          clear hx hp hnd4 X3 N3 b0 b1
          go_wp2_with fail
          refine (rEqual_any C' C' 0 0 A5 A4 c5 c4 M M _ N4.out M4.out HM.out.symm HM.out.symm).mono ?_
          rintro e w5 ⟨rfl, hx⟩
          rw [show decide ((0 : Int) = 0 ∧ C' = C') = true from by simp]
          have X5 := Lib.hid (X4.out.trans' hx)
          clear hx X4 N4 M4 k0 k1
          go_wp2_with fail
          refine (alive_any _ (HG.out.ext X5.out)).mono ?_
          rintro e w6 ⟨rfl, hx⟩
          have X6 := Lib.hid (X5.out.trans' hx)
          clear hx X5
          go_wp2
          go_ret
          exact ⟨rfl, X6.out⟩
        · exact absurd HIT.out (hno C)
      · have he := hlong (by omega)
        subst he
        obtain ⟨b0, b1⟩ := boxT A N c root (B1.out.trans' hx)
        have X2 := Lib.hid (X1.out.trans' hx)
        clear hx hf hs hlong B1 hcan hlen hval h4 hvt
        go_wp2_with fail
        refine (alive_any _ (HG.out.ext X2.out)).mono ?_
        rintro e w4 ⟨rfl, hx⟩
        have X4 := Lib.hid (X2.out.trans' hx)
        clear hx
        go_wp2
        go_ret
        exact ⟨rfl, X4.out⟩
end Go.Proofs.YtnleljpebnnhfaaGreatDoor

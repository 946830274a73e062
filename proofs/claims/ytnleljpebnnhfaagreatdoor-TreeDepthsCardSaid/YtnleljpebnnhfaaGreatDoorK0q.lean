/- TreeAgain: the walk. -/
import Derived.Test.YtnleljpebnnhfaaGreatDoorZo
set_option linter.unusedSimpArgs false
set_option linter.unusedVariables false
namespace Go.Proofs.YtnleljpebnnhfaaGreatDoor
open Go.RowKit
theorem bs_data (s : ByteArray) : s = bs s.data.toList := by
  apply ByteArray.ext
  simp [bs]
theorem Canon.self {C : List Nd} {D} (h : Canon C D) : Canon C (den C 0) := by
  have := h
  rw [← h.root] at this
  exact this
theorem Canon.valid {C : List Nd} {D} (h : Canon C D) (hl : C.length ≤ 8000) : validT C 0 = true :=
  validT_iff.2 ⟨h.pos, hl, by omega, by have := h.pos; omega, h.vg⟩
theorem al_least {W w' : World} {e : Ending} {G C : List Nd} {root : Int} (hv : validT G root = true) (hc : Canon C (den G root.toNat)) (h : LeastPost G root W e w') : Ext W w' ∧ ∃ A c, e = .returned (.tuple #[.agg #[.slice A C.length c, .int .i64 0], .int .i64 0]) ∧ NdsRd w' A C := by
  unfold LeastPost at h
  rw [if_pos hv] at h
  obtain ⟨C', v, he, ho, hc', hl, hx⟩ := h
  have := Canon.unique hc hc'
  subst this
  obtain ⟨A, c, rfl, _⟩ := ho.shape
  have := (validT_iff.1 hv).2.1
  exact ⟨hx, A, c, he, ho.nd hc.vg (by omega)⟩
set_option maxRecDepth 100000 in
set_option maxHeartbeats 4000000 in
theorem treeAgain_any (s : ByteArray) (hs : s.size ≤ 9223372036854775807) (w : World) (hg : Gl w) : Calls Tryz.prog 10 #[.string s] w fun e w' => e = .returned (.bool true) ∧ Ext w w' := by
  obtain ⟨S, hS⟩ : ∃ S, s = bs S := ⟨_, bs_data s⟩
  subst hS
  have hsz : (bs S).size = S.length := bs_size S
  have HG := Lib.hid hg
  clear hg
  by_cases h4 : 400 < S.length
  · have d1 : decide ((400 : Int) < ((bs S).size : Int)) = true := by rw [hsz]; simp; omega
    clear hsz
    go_enter Tryz.func10, Tryz.ntmps10
    go_wp2_with fail
    refine (alive_any _ HG.out).mono ?_
    rintro e w1 ⟨rfl, hx⟩
    have HX := Lib.hid hx
    clear hx
    go_wp2
    go_ret
    exact ⟨rfl, HX.out⟩
  · have d1 : decide ((400 : Int) < ((bs S).size : Int)) = false := by rw [hsz]; simp; omega
    have HSZ := Lib.hid hsz
    clear hsz
    go_enter Tryz.func10, Tryz.ntmps10
    go_wp2_with fail
    refine (Parse_any S (by omega) w HG.out).mono ?_
    rintro e w1 ⟨hx, _, hp⟩
    rcases hp (by omega) with ⟨C, v, ht, rfl, ho⟩ | ⟨_, rfl⟩
    · obtain ⟨⟨D, hcan⟩, hnr, hl8, htx⟩ := ht
      have hval := hcan.valid hl8
      have hself := hcan.self
      obtain ⟨A, c, rfl, _⟩ := ho.shape
      have hnd := ho.nd hcan.vg (by omega)
      obtain ⟨N, hN⟩ : ∃ N, N = C.length := ⟨_, rfl⟩
      rw [← hN]
      have X1 : Hid (Ext w (w1.alloc (.cells #[.slice A N c, .int .i64 0] 24))) := Lib.hid (hx.trans' ((Ext.rfl' _).alloc _))
      have N1 : Hid (NdsRd (w1.alloc (.cells #[.slice A N c, .int .i64 0] 24)) A C) := Lib.hid (hnd.ext ((Ext.rfl' _).alloc _))
      have HV := Lib.hid hval
      have HC := Lib.hid hself
      have HNR := Lib.hid hnr
      have HTX := Lib.hid htx
      have HN := Lib.hid hN
      have k0 : (w1.alloc (.cells #[.slice A N c, .int .i64 0] 24)).cell? ⟨w1.heap.size, 0, none⟩ = some (.slice A N c) := by simp
      have k1 : (w1.alloc (.cells #[.slice A N c, .int .i64 0] 24)).cell? ⟨w1.heap.size, 1, none⟩ = some (.int .i64 0) := by simp
      have HL8 : N ≤ 8000 := by omega
      clear hcan hnr hl8 htx hval hself ho hnd hx hp hN
      go_wp2_with fail
      refine (Text_any C HNR.out 0 A c N _ (HG.out.ext X1.out) N1.out (by decide) HN.out.symm).mono ?_
      intro e w2 hp
      obtain ⟨hx, rfl⟩ := al_text HV.out HC.out (by rw [HTX.out]; omega) hp
      rw [HTX.out]
      have k0' := hx.cell k0
      have k1' := hx.cell k1
      have X2 := Lib.hid (X1.out.trans' hx)
      have N2 := Lib.hid (N1.out.ext hx)
      clear hp hx k0 k1 X1 N1
      go_wp2_with fail
      refine (Least_any C 0 A c N w2 N2.out (by decide) HN.out.symm).mono ?_
      intro e w3 hp
      obtain ⟨hx, A3, c3, rfl, hnd3⟩ := al_least HV.out HC.out hp
      rw [← HN.out]
      have k0 : ∀ o, (w3.alloc o).cell? ⟨w1.heap.size, 0, none⟩ = some (.slice A N c) := fun o => ((Ext.rfl' _).alloc o).cell (hx.cell k0')
      have k1 : ∀ o, (w3.alloc o).cell? ⟨w1.heap.size, 1, none⟩ = some (.int .i64 0) := fun o => ((Ext.rfl' _).alloc o).cell (hx.cell k1')
      have X3 := Lib.hid (X2.out.trans' hx)
      have N3 := Lib.hid (N2.out.ext hx)
      have M3 := Lib.hid hnd3
      clear hp hx k0' k1' X2 N2 hnd3
      go_wp2_with fail
      have X4 : Hid (Ext w (w3.alloc (.cells #[.slice A3 N c3, .int .i64 0] 24))) := Lib.hid (X3.out.trans' ((Ext.rfl' _).alloc _))
      refine (rEqual_any C C 0 0 A3 A c3 c N N _ (M3.out.ext ((Ext.rfl' _).alloc _)) (N3.out.ext ((Ext.rfl' _).alloc _)) HN.out.symm HN.out.symm).mono ?_
      rintro e w5 ⟨rfl, hx⟩
      rw [show decide ((0 : Int) = 0 ∧ C = C) = true from by simp]
      have X5 := Lib.hid (X4.out.trans' hx)
      clear hx X3 X4 N3 M3 k0 k1
      go_wp2_with fail
      refine (alive_any _ (HG.out.ext X5.out)).mono ?_
      rintro e w6 ⟨rfl, hx⟩
      have X6 := Lib.hid (X5.out.trans' hx)
      clear hx X5
      go_wp2
      go_ret
      exact ⟨rfl, X6.out⟩
    · have X1 := Lib.hid hx
      clear hx hp
      go_wp2_with fail
      have X2 : Hid (Ext w (w1.alloc (.cells #[.slice none 0 0, .int .i64 0] 24))) := Lib.hid (X1.out.trans' ((Ext.rfl' _).alloc _))
      refine (alive_any _ (HG.out.ext X2.out)).mono ?_
      rintro e w6 ⟨rfl, hx⟩
      have X6 := Lib.hid (X2.out.trans' hx)
      clear hx X1 X2
      go_wp2
      go_ret
      exact ⟨rfl, X6.out⟩
end Go.Proofs.YtnleljpebnnhfaaGreatDoor

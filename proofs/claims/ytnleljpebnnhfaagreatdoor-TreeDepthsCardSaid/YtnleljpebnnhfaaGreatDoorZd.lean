/- What the rows list. -/
import Derived.Test.YtnleljpebnnhfaaGreatDoorZa
import Derived.Test.YtnleljpebnnhfaaGreatDoorZc
import Derived.Lib.AtoiErrMem
import Derived.Test.YtnleljpebnnhfaaGreatDoorCards
import Derived.Test.YtnleljpebnnhfaaGreatDoorTie
import Derived.WalkKit
import Derived.ProofKit
import Derived.OpenShut
import Derived.Deep.DeepHandedRow
import Derived.Deep.DeepWitnessRowRef
import Derived.Lib.LaidTab
import Derived.Stop.LaidErr

set_option linter.unusedSimpArgs false
set_option linter.unusedVariables false
namespace Go.Proofs.YtnleljpebnnhfaaGreatDoor
open Go.RowKit
/-- What the variables of strconv hold. -/
structure Gl (w : World) : Prop where
  tab : Lib.TabIs Tryz.prog w "internal/strconv.uint64pow10" .u64 Lib.pow10Tab
  e1 : ∃ ev, w.cell? ⟨1, 0, none⟩ = some ev ∧ (ev = .nilIface ∨ ∃ te pe, ev = .iface te pe)
  e2 : ∃ ev, w.cell? ⟨2, 0, none⟩ = some ev ∧ (ev = .nilIface ∨ ∃ te pe, ev = .iface te pe)
theorem tab_ext {P : Program} {n : String} {g : Nat} {k : IntKind} {zs : List Int} {w w' : World} (hg : P.globalNamed n = some g) (h : Lib.TabIs P w n k zs) (hb : Ext w w') : Lib.TabIs P w' n k zs := by
  have h' : w.var? P n = some (zs.map fun z => Value.int k z).toArray := h
  have hv : w.var? P n = w'.var? P n := by
    have hlt : g < w.heap.size := by
      unfold World.var? at h'
      simp only [hg, Option.bind_eq_bind, Option.bind_some] at h'
      cases hh : w.heap[g]? with
      | none => rw [hh] at h'; cases h'
      | some o => exact (Array.getElem?_eq_some_iff.1 hh).1
    unfold World.var?
    simp only [hg, Option.bind_eq_bind, Option.bind_some]
    rw [hb.block g hlt]
  show w'.var? P n = _
  rw [← hv]; exact h'
theorem gNamed0 : Tryz.prog.globalNamed "internal/strconv.uint64pow10" = some 0 := by kernel_rfl
theorem Gl.ext {w w' : World} (h : Gl w) (k : Ext w w') : Gl w' := by
  obtain ⟨h1, ⟨v1, a1, b1⟩, ⟨v2, a2, b2⟩⟩ := h
  exact ⟨tab_ext gNamed0 h1 k, ⟨v1, k.cell a1, b1⟩, ⟨v2, k.cell a2, b2⟩⟩
theorem ext_grow (w : World) (os : Array Obj) : Ext w (Go.Sort.grow w os) :=
  ⟨rfl, rfl, rfl, by simp [Go.Sort.grow], fun k hk => by simp [Go.Sort.grow, Array.getElem?_append, hk]⟩
theorem itoa_any (n : Int) (h0 : -9223372036854775808 ≤ n) (h1 : n ≤ 9223372036854775807) (w : World) (hg : Gl w) :
    Calls Tryz.prog 56 #[.int .i64 n] w fun e w' => e = .returned (.string (bs (Lib.itoa n))) ∧ Ext w w' := by
  refine (Tryz.strconv_Itoa n h0 h1 w hg.tab).mono ?_
  rintro e w' ⟨rfl, k, os, rfl⟩
  exact ⟨rfl, (Ext.of_drewN w k).trans' (ext_grow _ _)⟩
/-- What Atoi hands back. -/
def AtoiPost (l : List UInt8) (w : World) (e : Ending) (w' : World) : Prop :=
  Ext w w' ∧ ((∃ n, numOf l = some n ∧ -9223372036854775808 ≤ n ∧ n ≤ 9223372036854775807 ∧ e = .returned (.tuple #[.int .i64 n, .nilIface])) ∨ (numOf l = none ∧ ∃ n N, e = .returned (.tuple #[.int .i64 n, .iface 142 (.pointer (some ⟨N, 0, none⟩))])))
theorem atoi_any (l : List UInt8) (hl : l.length ≤ 281474976710656) (w : World) (hg : Gl w) :
    Calls Tryz.prog 88 #[.string (bs l)] w (AtoiPost l w) := by
  have hs : (bs l).size ≤ 281474976710656 := by rw [bs_size]; exact hl
  have hd : (bs l).data.toList = l := bs_list l
  cases h : Lib.atoiAll l with
  | ok v =>
    refine (Tryz.strconv_Atoi_ok (bs l) (by omega) v (by rw [hd]; exact h) w).mono ?_
    rintro e w' ⟨rfl, hw⟩
    have hv := Lib.atoiAll_bounds h
    refine ⟨?_, .inl ⟨v, by simp [numOf, h], hv.1, hv.2, rfl⟩⟩
    rcases hw with rfl | ⟨t, rfl⟩
    · exact Ext.rfl' _
    · exact Lib.bytesWorld_below _ _ _
  | range =>
    obtain ⟨ev, h1, h2⟩ := hg.e2
    refine (Tryz.strconv_Atoi_range (bs l) hs (by rw [hd]; exact h) ev w h1 h2).mono ?_
    rintro e w' ⟨N, rfl, _, _, hb⟩
    exact ⟨hb, .inr ⟨by simp [numOf, h], _, N, rfl⟩⟩
  | _ =>
    obtain ⟨ev, h1, h2⟩ := hg.e1
    refine (Tryz.strconv_Atoi_syntax (bs l) hs (by rw [hd]; exact h) ev w h1 h2).mono ?_
    rintro e w' ⟨N, rfl, _, _, hb⟩
    exact ⟨hb, .inr ⟨by simp [numOf, h], _, N, rfl⟩⟩
end Go.Proofs.YtnleljpebnnhfaaGreatDoor

set_option linter.unusedSimpArgs false
set_option linter.unusedVariables false
namespace Go.Proofs.YtnleljpebnnhfaaGreatDoor
open Go.RowKit
theorem own : ownKnob Tryz.prog.godebug = none := by kernel_rfl
theorem gES : Tryz.prog.globalNamed "strconv.ErrSyntax" = some 1 := by kernel_rfl
theorem gER : Tryz.prog.globalNamed "strconv.ErrRange" = some 2 := by kernel_rfl
theorem gTab : Tryz.prog.globalNamed "internal/strconv.uint64pow10" = some 0 := by kernel_rfl
theorem gTabType : (Tryz.prog.globals[0]?).map (·.type) = some 156 := by kernel_rfl
theorem gESType : (Tryz.prog.globals[1]?).map (·.type) = some 106 := by kernel_rfl
theorem gERType : (Tryz.prog.globals[2]?).map (·.type) = some 106 := by kernel_rfl
theorem uTab : Tryz.prog.underlying 156 = some (.array 20 134) := by kernel_rfl
theorem uTabE : Tryz.prog.underlying 134 = some (.int .u64) := by kernel_rfl
theorem cTab : Tryz.prog.cellsOf 156 = 20 := by kernel_rfl
theorem cTabE : Tryz.prog.cellsOf 134 = 1 := by kernel_rfl
theorem c174 : Tryz.prog.cellsOf 174 = 1 := by kernel_rfl
theorem c9 : Tryz.prog.cellsOf 9 = 1 := by kernel_rfl
theorem star : "*" ++ "errors.errorString" = "*errors.errorString" := by decide
theorem row172 (u : TypeId) (h : Tryz.prog.typeName? 3 u = some "*errors.errorString") : u = 172 :=
  typeName_ptr_named (nm := "errors.errorString") (by rw [star]; kernel_rfl) (by kernel_rfl) (by decide) u (by rw [star]; exact h)
theorem laid_plain {W : World} (h : laidMetH Tryz.prog Rows.treeAgainRow.laid W) : laidMet Tryz.prog Rows.treeAgainRow.laid W := h
theorem gl_of_laid {W : World} (h : laidMetH Tryz.prog Rows.treeAgainRow.laid W) : Gl W := by
  have h0 := laid_plain h
  have h3 : laidMet Tryz.prog [("internal/strconv.uint64pow10", Rows.laid_internal_strconv_uint64pow10), ("strconv.ErrRange", Rows.laid_strconv_ErrRange), ("strconv.ErrSyntax", Rows.laid_strconv_ErrSyntax)] W := laidMet.tail (laidMet.tail h0)
  have h4 : laidMet Tryz.prog [("strconv.ErrRange", Rows.laid_strconv_ErrRange), ("strconv.ErrSyntax", Rows.laid_strconv_ErrSyntax)] W := laidMet.tail h3
  have h5 : laidMet Tryz.prog [("strconv.ErrSyntax", Rows.laid_strconv_ErrSyntax)] W := laidMet.tail h4
  obtain ⟨a0, s0, hv0, -, -, -⟩ := laid_sentinel h4 gER gERType Tryz.underlying106 row172 Tryz.underlying172 Tryz.underlying174 rfl rfl Tryz.underlying9 c174 c9
  obtain ⟨a1, s1, hv1, -, -, -⟩ := laid_sentinel h5 gES gESType Tryz.underlying106 row172 Tryz.underlying172 Tryz.underlying174 rfl rfl Tryz.underlying9 c174 c9
  refine ⟨Lib.tabIs_of_head gTab gTabType uTab uTabE cTabE cTab h3, ?_, ?_⟩
  · exact ⟨_, by simpa using World.var?_cell gES hv1 0, .inr ⟨_, _, rfl⟩⟩
  · exact ⟨_, by simpa using World.var?_cell gER hv0 0, .inr ⟨_, _, rfl⟩⟩
end Go.Proofs.YtnleljpebnnhfaaGreatDoor

set_option linter.unusedSimpArgs false
set_option linter.unusedVariables false
namespace Go.Proofs.YtnleljpebnnhfaaGreatDoor
open Go.RowKit
noncomputable def low : Nat := (World.holding Tryz.prog default ⟨#[], #[], []⟩).heap.size
def litsOf : DataW Unit → Array Value
  | .agg l => (l.map fun d => match d with | .lit (.int k n) => Value.int k n | _ => Value.nilIface).toArray
  | _ => #[]
def setAt (h : Array Obj) (g : Nat) (v : Array Value) : Array Obj := h.modify g fun
  | .cells _ t frozen => .cells v t frozen
  | o => o
noncomputable def laidWorld (os : Os) : World :=
  let w0 := World.holding Tryz.prog os ⟨#[.cells #[.string { data := #[105, 110, 118, 97, 108, 105, 100, 32, 115, 121, 110, 116, 97, 120] }] 174, .cells #[.string { data := #[118, 97, 108, 117, 101, 32, 111, 117, 116, 32, 111, 102, 32, 114, 97, 110, 103, 101] }] 174], #[], []⟩
  { w0 with heap := setAt (setAt (setAt (setAt (setAt w0.heap 0 (litsOf Rows.laid_internal_strconv_uint64pow10)) 1 #[.iface 172 (.pointer (some ⟨low, 0, none⟩))]) 2 #[.iface 172 (.pointer (some ⟨low + 1, 0, none⟩))]) 3 (litsOf Rows.laid_math_bits_deBruijn32tab)) 4 (litsOf Rows.laid_math_bits_deBruijn64tab) }
set_option maxRecDepth 100000 in
theorem laid_met (os : Os) (args : Array Value) : laidMet Tryz.prog Rows.treeAgainRow.laid ((laidWorld os).forCall (fun _ _ => 0) ⟨#[], args, []⟩).memory :=
  laidMet_of_run' 8 (by kernel_rfl) (by kernel_rfl)
theorem size_le {n : Nat} (h : n ≤ maxLen) : n ≤ 9223372036854775807 := by
  simp only [maxLen] at h; omega
end Go.Proofs.YtnleljpebnnhfaaGreatDoor

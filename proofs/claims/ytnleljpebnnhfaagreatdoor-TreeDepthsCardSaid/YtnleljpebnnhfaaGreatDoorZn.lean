/- Parse. -/
import Derived.Test.YtnleljpebnnhfaaGreatDoorZm

set_option linter.unusedSimpArgs false
set_option linter.unusedVariables false
namespace Go.Proofs.YtnleljpebnnhfaaGreatDoor
open Go.RowKit
/-- How deep is read at most. -/
def FUEL : Nat := 20000
theorem FUEL_eq : FUEL = 20000 := rfl
/-- What reading a string makes. -/
def readT (S : List UInt8) : Option (Int × List UInt8 × List Nd) := rdT FUEL (look ([] : List (Int × Int))) S []
/-- A string is the text of a least graph. -/
def IsText (C : List Nd) (S : List UInt8) : Prop := (∃ D, Canon C D) ∧ NR C ∧ C.length ≤ 8000 ∧ textOf C = S
theorem read_text {C : List Nd} {S : List UInt8} (h : IsText C S) : ∃ (k : Nat) (G1 : List Nd), readT S = some ((k : Int), [], G1) ∧ VG G1 ∧ k < G1.length ∧ den G1 k = den C 0 ∧ G1.length ≤ S.length + 1 := by
  obtain ⟨⟨D, hC⟩, hR, hl, rfl⟩ := h
  have := rdT_txt hC.vg hR (by omega) (C.length + 1) FUEL [] 0 (fun _ => 0) (look ([] : List (Int × Int))) [] [] (by rw [FUEL_eq]; omega) (by simp) (by simp) (by simp) hC.pos (fun c r e => by cases e) (fun x hx => by
    have := txt_named_within C _ _ _ x hx
    cases this)
  rw [List.append_nil] at this
  obtain ⟨b1, b2, b3⟩ := bld_canon hC.vg hC.pos (fun _ => 0)
  refine ⟨_, _, this, b1, b2, b3, ?_⟩
  have := (rdT_le _ _ _ _ _ _ _ this).2
  unfold textOf
  simpa using this
theorem IsText.unique {C C' : List Nd} {S : List UInt8} (h : IsText C S) (h' : IsText C' S) : C = C' := by
  obtain ⟨k, G, e, _, _, d, _⟩ := read_text h
  obtain ⟨k', G', e', _, _, d', _⟩ := read_text h'
  rw [e] at e'
  simp only [Option.some.injEq, Prod.mk.injEq] at e'
  obtain ⟨hk, _, rfl⟩ := e'
  have : k = k' := by omega
  subst this
  obtain ⟨⟨D, hC⟩, _⟩ := h
  obtain ⟨⟨D', hC'⟩, _⟩ := h'
  refine hC.unique (D := D) ?_
  have : D = D' := by rw [← hC.root, ← hC'.root, ← d, ← d']
  rw [this]; exact hC'
theorem eqWrong (W : World) : (binOp .eql 20 (.iface 80 (.agg #[])) (.iface 80 (.agg #[]))).run Tryz.prog W = .ok (.bool true) W := by kernel_rfl
theorem eqWrongNil (W : World) : (binOp .eql 20 .nilIface (.iface 80 (.agg #[]))).run Tryz.prog W = .ok (.bool false) W := by kernel_rfl
theorem catchP_wrong (qb : Nat) (y : Value) (older : List PanicEntry) (w : World) (hq : w.cell? ⟨qb, 0, none⟩ = some y) (hqz : w.frozen? ⟨qb, 0, none⟩ = false) :
    CallsD Tryz.prog 58 #[.pointer (some ⟨qb, 0, none⟩)] (.panicking ({ v := .iface 80 (.agg #[]), recovered := false } :: older)) w fun e u' w' =>
      e = .returned (.tuple #[]) ∧ u' = .panicking ({ v := .iface 80 (.agg #[]), recovered := true } :: older) ∧ w' = w.setCell ⟨qb, 0, none⟩ (.bool false) := by
  have e1 := eqWrong
  refine callsD_of_wpS Tryz.func58 rfl fun c₀ cs hu => ?_
  apply wpS_seq
  apply wpS_region
  simp [wpOpsS, go_sem, recoverD, hu, Tryz.ntmps58, Exit.thenS]
  apply wpS_seq
  apply wpS_region
  simp [wpOpsS, go_sem, recoverD, hu, Tryz.ntmps58, Exit.thenS, e1]
  refine wpS_cond (t := true) (by simp [Act.eval, Array.replicate]) ?_
  simp only [if_true]
  apply wpS_region
  simp [wpOpsS, go_sem, hq, hqz, bodyPostS, results, Tryz.results58]
theorem catchP_none (qb : Nat) (w : World) :
    CallsD Tryz.prog 58 #[.pointer (some ⟨qb, 0, none⟩)] .returning w fun e u' w' => e = .returned (.tuple #[]) ∧ u' = .returning ∧ w' = w := by
  have e1 := eqWrongNil
  have e2 := neNil
  refine callsD_of_wpS Tryz.func58 rfl fun c₀ cs hu => ?_
  apply wpS_seq
  apply wpS_region
  simp [wpOpsS, go_sem, recoverD, hu, Tryz.ntmps58, Exit.thenS]
  apply wpS_seq
  apply wpS_region
  simp [wpOpsS, go_sem, recoverD, hu, Tryz.ntmps58, Exit.thenS, e1]
  refine wpS_cond (t := false) (by simp [Act.eval, Array.replicate]) ?_
  simp only [Bool.false_eq_true, if_false]
  apply wpS_seq
  apply wpS_region
  simp [wpOpsS, go_sem, Exit.thenS, e2]
  refine wpS_cond (t := false) (by simp [Act.eval, Array.replicate]) ?_
  simp only [Bool.false_eq_true, if_false]
  refine wpS_of_wp (wp_skip ?_)
  cases c₀
  simp_all [bodyPostS, results, Tryz.results58]
/-- What parse leaves. -/
def parsePost (S : List UInt8) (w : World) (e : Ending) (w' : World) : Prop :=
  Ext w w' ∧ ((readT S = none ∧ e = .returned (.tuple #[.agg #[.slice none 0 0, .int .i64 0], .bool false])) ∨
    (∃ (k : Int) (s1 : List UInt8) (G1 : List Nd) (v : Value), readT S = some (k, s1, G1) ∧ e = .returned (.tuple #[.agg #[v, .int .i64 k], .bool (decide (s1 = []))]) ∧ OwnG w' w.heap.size v G1))
/-- The world in which the reader begins. -/
def rdW (w : World) (S : List UInt8) : World :=
  (((w.alloc (.cells #[.slice none 0 0, .int .i64 0] 24)).alloc (.cells #[.bool false] 4)).alloc (.map #[] 0)).alloc
    (.cells #[.string (bs S), .int .i64 0, .slice none 0 0, .int .i64 0, .map (some (w.heap.size + 1 + 1))] 84)
theorem rdW_ext (w : World) (S : List UInt8) : Ext w (rdW w S) := ((((Ext.rfl' w).alloc _).alloc _).alloc _).alloc _
theorem rdW_ok (w : World) : RdOk (w.heap.size + 1 + 1) (w.heap.size + 1 + 1 + 1) (w.heap.size + 1 + 1 + 1 + 1) w := ⟨⟨by omega, by omega⟩, ⟨by omega, by omega⟩, by omega⟩
theorem rdW_st (w : World) (S : List UInt8) : RdS S (w.heap.size + 1 + 1) (w.heap.size + 1 + 1 + 1) (w.heap.size + 1 + 1 + 1 + 1) w (rdW w S) 0 [] (.slice none 0 0) [] := by
  refine ⟨rdW_ext _ _, ?_, ?_, OwnN.nil _ _, by simp [rdW]⟩
  · unfold rdW RdB
    exact new_heap _ _ _ (by simp)
  · unfold rdW
    have := MapIs.made (enc := iv) (ok := Fits) (encV := iv) ((w.alloc (.cells #[.slice none 0 0, .int .i64 0] 24)).alloc (.cells #[.bool false] 4))
    have e : ((w.alloc (.cells #[.slice none 0 0, .int .i64 0] 24)).alloc (.cells #[.bool false] 4)).heap.size = w.heap.size + 1 + 1 := by simp
    rw [e] at this
    exact this.ext ((Ext.rfl' _).alloc _)
theorem rdW_cells (w : World) (S : List UInt8) : (rdW w S).heap[w.heap.size]? = some (.cells #[.slice none 0 0, .int .i64 0] 24 (0, 0)) ∧ (rdW w S).heap[w.heap.size + 1]? = some (.cells #[.bool false] 4 (0, 0)) := by
  constructor
  · unfold rdW
    exact ((((Ext.rfl' _).alloc _).alloc _).alloc _).heap (new_heap _ _ _ (by simp))
  · unfold rdW
    exact (((Ext.rfl' _).alloc _).alloc _).heap (new_heap _ _ _ (by simp))
set_option maxRecDepth 100000 in
set_option maxHeartbeats 1000000 in
theorem parse_any (S : List UInt8) (hS : S.length ≤ 4000) (w : World) (hg : Gl w) : Calls Tryz.prog 41 #[.string (bs S)] w (parsePost S w) := by
  have hmf : ∀ (fn : Fn) (first cap : Array Value) (w : World), (Instr.makeFunc fn first cap).run Tryz.prog w = .ok (.func fn first cap) w := fun _ _ _ _ => rfl
  have hmm := mkMap82
  have HG := Lib.hid hg
  have HS := Lib.hid hS
  clear hg hS
  go_enter_defers Tryz.func41, Tryz.ntmps41
  go_wp2_with fail
  change Calls Tryz.prog 59 _ (rdW w S) _
  refine (rnode_any S HS.out _ _ _ w (rdW_ok w) HG.out FUEL (rdW w S) 0 [] (.slice none 0 0) [] (rdW_st w S) (by omega) (by rw [FUEL_eq]; have := HS.out; omega) (by have := HS.out; simp; omega)).mono ?_
  obtain ⟨h1, h2⟩ := rdW_cells w S
  rintro e w5 ⟨ch5, ⟨hno, rfl⟩ | ⟨k, s1, G1, at', rows', v', m', hrd, rfl, hat, hs1, st5, hG, hlk, hpre, hblk, hnew⟩⟩
  · have k1 := ch5.heap h1 (by rintro (h | h | h) <;> first | omega | (simp [Value.ownBlock] at h))
    have k2 := ch5.heap h2 (by rintro (h | h | h) <;> first | omega | (simp [Value.ownBlock] at h))
    have hE : Ext w w5 := ch5.extOf (rdW_ext w S) (by rintro i (h | h | h) <;> first | omega | (simp [Value.ownBlock] at h))
    have k3 := heap_other (d := w.heap.size + 1) 0 (.bool false) k1 (by omega)
    have k4 := heap_one (.bool false) k2
    refine leaves_cons (f := 58) (args := #[.pointer (some ⟨w.heap.size + 1, 0, none⟩)]) (by simp) (by simp [go_sem]) ?_
    refine (catchP_wrong (w.heap.size + 1) (.bool false) [] w5 (by simp [World.cell?, k2]) (by simp [World.frozen?, k2])).mono ?_
    rintro e u' w'' ⟨rfl, rfl, rfl⟩
    have hE6 : Ext w (w5.setCell ⟨w.heap.size + 1, 0, none⟩ (.bool false)) := hE.setNew (by show w.heap.size ≤ w.heap.size + 1; omega) _
    have r1 : (w5.setCell ⟨w.heap.size + 1, 0, none⟩ (.bool false)).cell? ⟨w.heap.size, 0, none⟩ = some (.slice none 0 0) := by simp [World.cell?, k3]
    have r1' : (w5.setCell ⟨w.heap.size + 1, 0, none⟩ (.bool false)).cell? ⟨w.heap.size, 1, none⟩ = some (.int .i64 0) := by simp [World.cell?, k3]
    have r2 : (w5.setCell ⟨w.heap.size + 1, 0, none⟩ (.bool false)).cell? ⟨w.heap.size + 1, 0, none⟩ = some (.bool false) := by simp [World.cell?, k4]
    simp [Leaves, settle, results, Tryz.results41, go_sem, r1, r1', r2]
    exact ⟨hE6, .inl ⟨hno, rfl⟩⟩
  · have hv' : ∀ g, v'.ownBlock = some g → w.heap.size + 1 + 1 + 1 + 1 ≤ g := fun g hg => st5.low hg
    have k1 := ch5.heap h1 (by rintro (h | h | h) <;> first | omega | (simp [Value.ownBlock] at h))
    have k2 := ch5.heap h2 (by rintro (h | h | h) <;> first | omega | (simp [Value.ownBlock] at h))
    have hb5 := st5.blk
    unfold RdB at hb5
    have c3 : w5.cell? ⟨w.heap.size + 1 + 1 + 1, 3, none⟩ = some (.int .i64 0) := by simp [World.cell?, hb5]
    have z3 : w5.frozen? ⟨w.heap.size + 1 + 1 + 1, 3, none⟩ = false := by simp [World.frozen?, hb5]
    obtain ⟨A, c, rfl, hc⟩ := st5.own.shape
    have k3 := heap_other (d := w.heap.size + 1 + 1 + 1) 3 (.int .i64 k) k1 (by omega)
    have k4 := heap_other (d := w.heap.size + 1 + 1 + 1) 3 (.int .i64 k) k2 (by omega)
    have hb6 : (w5.setCell ⟨w.heap.size + 1 + 1 + 1, 3, none⟩ (.int .i64 k)).heap[w.heap.size + 1 + 1 + 1]? = some (.cells #[.string (bs S), .int .i64 at', .slice A rows'.length c, .int .i64 k, .map (some (w.heap.size + 1 + 1))] 84 (0, 0)) := by
      simp [World.setCell, Array.getElem?_modify, hb5]
    have C56 : ChgS (fun i => i = w.heap.size + 1 + 1 + 1) w5 (w5.setCell ⟨w.heap.size + 1 + 1 + 1, 3, none⟩ (.int .i64 k)) := (ChgS.refl (fun i => i = w.heap.size + 1 + 1 + 1) w5).set (.inl rfl) _ _
    have own6 := C56.ownN st5.own (fun g hg e => by have := hv' g hg; omega) (fun r hr g hg e => by have := ((st5.own.args r hr).block hg).1; omega)
    have hE6 : Ext w (w5.setCell ⟨w.heap.size + 1 + 1 + 1, 3, none⟩ (.int .i64 k)) := st5.ext.setNew (by show w.heap.size ≤ w.heap.size + 1 + 1 + 1; omega) _
    have hS := HS.out
    have hsz := bs_size S
    have HSZ := Lib.hid hsz
    have HK3 := Lib.hid k3
    have HK4 := Lib.hid k4
    have HB6 := Lib.hid hb6
    have HO6 := Lib.hid own6
    have HE6 := Lib.hid hE6
    have HRD := Lib.hid hrd
    have HS1 := Lib.hid hs1
    have HGG := Lib.hid hG
    clear k1 k2 k3 k4 hb5 hb6 own6 hE6 C56 st5 hv' hrd hs1 hG hlk hpre hblk hnew h1 h2 ch5 hsz
    go_wp2
    generalize w5.setCell ⟨w.heap.size + 1 + 1 + 1, 3, none⟩ (.int .i64 k) = w6 at HK3 HK4 HB6 HO6 HE6 ⊢
    have e1 : w6.cell? ⟨w.heap.size + 1 + 1 + 1, 1, none⟩ = some (.int .i64 at') := by simp [World.cell?, HB6.out]
    have e2 : w6.cell? ⟨w.heap.size + 1 + 1 + 1, 2, none⟩ = some (.slice A rows'.length c) := by simp [World.cell?, HB6.out]
    have e3 : w6.cell? ⟨w.heap.size + 1 + 1 + 1, 3, none⟩ = some (.int .i64 k) := by simp [World.cell?, HB6.out]
    obtain ⟨b1, b2, b3, b4, b5⟩ := box_facts HK3.out
    have p1 := heap_set0 (.slice A rows'.length c) HK3.out
    have p2 := heap_set1 (.int .i64 k) p1
    have q1 := heap_other (d := w.heap.size) 0 (.slice A rows'.length c) HK4.out (by omega)
    have q2 := heap_other (d := w.heap.size) 1 (.int .i64 k) q1 (by omega)
    have f1 : ((w6.setCell ⟨w.heap.size, 0, none⟩ (.slice A rows'.length c)).setCell ⟨w.heap.size, 1, none⟩ (.int .i64 k)).cell? ⟨w.heap.size + 1, 0, none⟩ = some (.bool false) := by simp [World.cell?, q2]
    have f2 : ((w6.setCell ⟨w.heap.size, 0, none⟩ (.slice A rows'.length c)).setCell ⟨w.heap.size, 1, none⟩ (.int .i64 k)).frozen? ⟨w.heap.size + 1, 0, none⟩ = false := by simp [World.frozen?, q2]
    have g1 := heap_other (d := w.heap.size) 0 (.slice A rows'.length c) HB6.out (by omega)
    have g2 := heap_other (d := w.heap.size) 1 (.int .i64 k) g1 (by omega)
    have f3 : ((w6.setCell ⟨w.heap.size, 0, none⟩ (.slice A rows'.length c)).setCell ⟨w.heap.size, 1, none⟩ (.int .i64 k)).cell? ⟨w.heap.size + 1 + 1 + 1, 1, none⟩ = some (.int .i64 at') := by simp [World.cell?, g2]
    have C67 : ∀ u, ChgS (fun i => i = w.heap.size ∨ i = w.heap.size + 1) w6 (((w6.setCell ⟨w.heap.size, 0, none⟩ (.slice A rows'.length c)).setCell ⟨w.heap.size, 1, none⟩ (.int .i64 k)).setCell ⟨w.heap.size + 1, 0, none⟩ u) := fun u =>
      (((ChgS.refl (fun i => i = w.heap.size ∨ i = w.heap.size + 1) w6).set (.inl (.inl rfl)) _ _).set (.inl (.inl rfl)) _ _).set (.inl (.inr rfl)) _ _
    have own7 : ∀ u, OwnN (((w6.setCell ⟨w.heap.size, 0, none⟩ (.slice A rows'.length c)).setCell ⟨w.heap.size, 1, none⟩ (.int .i64 k)).setCell ⟨w.heap.size + 1, 0, none⟩ u) (w.heap.size + 1 + 1 + 1 + 1) (.slice A rows'.length c) rows' := fun u =>
      (C67 u).ownN HO6.out (fun g hg e => by have := (HO6.out.block hg).1; omega) (fun r hr g hg e => by have := ((HO6.out.args r hr).block hg).1; omega)
    have hE7 : ∀ u, Ext w (((w6.setCell ⟨w.heap.size, 0, none⟩ (.slice A rows'.length c)).setCell ⟨w.heap.size, 1, none⟩ (.int .i64 k)).setCell ⟨w.heap.size + 1, 0, none⟩ u) := fun u =>
      ((HE6.out.setNew (by show w.heap.size ≤ w.heap.size; omega) _).setNew (by show w.heap.size ≤ w.heap.size; omega) _).setNew (by show w.heap.size ≤ w.heap.size + 1; omega) _
    have r1 := fun u => heap_other (d := w.heap.size + 1) 0 u p2 (by omega)
    have r2 := fun u => heap_one u q2
    have R1 := Lib.hid r1
    have R2 := Lib.hid r2
    have O7 := Lib.hid own7
    have E7 := Lib.hid hE7
    have hbs : (bs S).size ≤ 4000 := by rw [HSZ.out]; exact hS
    clear p1 p2 q1 q2 c3 z3 g1 g2 C67 own7 hE7 r1 r2
    go_region
    all_goals
      go_wp2
      refine leaves_cons (f := 58) (args := #[.pointer (some ⟨w.heap.size + 1, 0, none⟩)]) (by simp) (by simp [go_sem]) ?_
      refine (catchP_none (w.heap.size + 1) _).mono ?_
      rintro e u' w'' ⟨rfl, rfl, rfl⟩
      have r1 := R1.out (.bool ((at' : Int) == ((bs S).size : Int)))
      have r2 := R2.out (.bool ((at' : Int) == ((bs S).size : Int)))
      have hbool : ((at' : Int) == ((bs S).size : Int)) = decide (s1 = []) := by
        rw [HSZ.out, HS1.out, Bool.eq_iff_iff, beq_iff_eq, decide_eq_true_eq, List.drop_eq_nil_iff]
        omega
      rw [hbool] at r1 r2 ⊢
      have o7 := O7.out (.bool (decide (s1 = [])))
      have e7 := E7.out (.bool (decide (s1 = [])))
      generalize ((w6.setCell ⟨w.heap.size, 0, none⟩ (.slice A rows'.length c)).setCell ⟨w.heap.size, 1, none⟩ (.int .i64 k)).setCell ⟨w.heap.size + 1, 0, none⟩ (.bool (decide (s1 = []))) = w7 at r1 r2 o7 e7 ⊢
      have q0 : w7.cell? ⟨w.heap.size, 0, none⟩ = some (.slice A rows'.length c) := by simp [World.cell?, r1]
      have q1 : w7.cell? ⟨w.heap.size, 1, none⟩ = some (.int .i64 k) := by simp [World.cell?, r1]
      have q2 : w7.cell? ⟨w.heap.size + 1, 0, none⟩ = some (.bool (decide (s1 = []))) := by simp [World.cell?, r2]
      simp [Leaves, settle, results, Tryz.results41, go_sem, q0, q1, q2]
      exact ⟨e7.drew, .inr ⟨k, s1, G1, _, HRD.out, rfl, ⟨rows', (o7.mono (by omega)).ext (Ext.rfl' _).drew, HGG.out.symm⟩⟩⟩
end Go.Proofs.YtnleljpebnnhfaaGreatDoor

set_option linter.unusedSimpArgs false
set_option linter.unusedVariables false
namespace Go.Proofs.YtnleljpebnnhfaaGreatDoor
open Go.RowKit
theorem tupT_first {node : (Int → Option Int) → Rdr} {L s s1 : List UInt8} {no k : Int} {G G1 : List Nd} {op : Int → Option Int} (h : tupT node L no s G op = some (k, s1, G1)) : k = (G.length : Int) := by
  unfold tupT at h
  split at h
  · split at h
    · cases h
    · simp only [Option.some.injEq, Prod.mk.injEq] at h
      exact h.1.symm
  · cases h
theorem readT_zero {S s1 : List UInt8} {k : Int} {G1 : List Nd} (h : readT S = some (k, s1, G1)) : k = 0 := by
  unfold readT at h
  rw [show FUEL = 19999 + 1 from rfl] at h
  generalize 19999 = f at h
  rw [rdT.eq_def] at h
  simp only at h
  split at h
  · split at h
    · cases h
    · simp only [Option.some.injEq, Prod.mk.injEq] at h
      exact h.1.symm
  split at h
  · split at h
    · split at h
      · cases h
      · split at h
        · simp only [Option.some.injEq, Prod.mk.injEq] at h
          exact h.1.symm
        · cases h
    · cases h
  split at h
  · split at h
    · cases h
    · simp [look_nil] at h
  split at h
  · exact tupT_first h
  split at h
  · split at h
    · cases h
    · split at h
      · simp only [Option.some.injEq, Prod.mk.injEq] at h
        exact h.1.symm
      · exact tupT_first h
  split at h
  · exact tupT_first h
  · simp only [Option.some.injEq, Prod.mk.injEq] at h
    exact h.1.symm
theorem numOf_range {l : List UInt8} {n : Int} (h : numOf l = some n) : -9223372036854775808 ≤ n ∧ n ≤ 9223372036854775807 := by
  unfold numOf at h
  cases ha : Lib.atoiAll l with
  | ok v =>
    rw [ha] at h
    have := Lib.atoiAll_bounds ha
    have e : v = n := by simpa using h
    subst e
    exact ⟨this.1, this.2⟩
  | range => rw [ha] at h; cases h
  | _ => rw [ha] at h; cases h
theorem NR.snoc {G : List Nd} (h : NR G) {n : Nd} (hn : -9223372036854775808 ≤ n.num ∧ n.num ≤ 9223372036854775807) : NR (G ++ [n]) := by
  intro x hx
  rcases List.mem_append.1 hx with hx | hx
  · exact h x hx
  · rw [List.mem_singleton.1 hx]; exact hn
theorem NR.set {G : List Nd} (h : NR G) {n : Nd} (hn : -9223372036854775808 ≤ n.num ∧ n.num ≤ 9223372036854775807) (k : Nat) : NR (G.set k n) := by
  intro x hx
  rcases List.mem_or_eq_of_mem_set hx with hx | rfl
  · exact h x hx
  · exact hn
def RdNR (node : Rdr) : Prop := ∀ s G k s1 G1, NR G → node s G = some (k, s1, G1) → NR G1
theorem argsT_nr {node : Rdr} (h : RdNR node) {sep : Nat} : ∀ g s G acc args s1 G1, NR G → argsT node sep g s G acc = some (args, s1, G1) → NR G1 := by
  intro g
  induction g with
  | zero => intro s G acc args s1 G1 _ e; simp [argsT] at e
  | succ g ih =>
    intro s G acc args s1 G1 hG e
    unfold argsT at e
    split at e
    · cases e
    · rename_i k s2 G2 hn
      have h1 := h _ _ _ _ _ hG hn
      split at e
      · exact ih _ _ _ _ _ _ h1 e
      · split at e
        · simp only [Option.some.injEq, Prod.mk.injEq] at e
          obtain ⟨rfl, rfl, rfl⟩ := e
          exact h1
        · cases e
theorem tupT_nr {node : (Int → Option Int) → Rdr} (h : ∀ op, RdNR (node op)) {label : List UInt8} {no : Int} {op : Int → Option Int} : ∀ s G k s1 G1, NR G → tupT node label no s G op = some (k, s1, G1) → NR G1 := by
  intro s G k s1 G1 hG e
  unfold tupT at e
  split at e
  · split at e
    · cases e
    · rename_i args s2 G2 ha
      have := argsT_nr (h _) _ _ _ _ _ _ _ (hG.snoc (by show (-9223372036854775808 : Int) ≤ 0 ∧ (0 : Int) ≤ 9223372036854775807; omega)) ha
      simp only [Option.some.injEq, Prod.mk.injEq] at e
      obtain ⟨_, rfl, rfl⟩ := e
      exact this.set (by show (-9223372036854775808 : Int) ≤ 0 ∧ (0 : Int) ≤ 9223372036854775807; omega) _
  · cases e
theorem numT_range {s s1 : List UInt8} {n : Int} (h : numT s = some (n, s1)) : -9223372036854775808 ≤ n ∧ n ≤ 9223372036854775807 := by
  unfold numT at h
  cases hn : numOf (wordT s).1 with
  | none => rw [hn] at h; cases h
  | some m =>
    rw [hn] at h
    simp at h
    rw [← h.1]
    exact numOf_range hn
theorem rdT_nr : ∀ f op, RdNR (rdT f op) := by
  intro f
  induction f with
  | zero => intro op s G k s1 G1 _ e; simp [rdT] at e
  | succ f ih =>
    intro op s G k s1 G1 hG e
    unfold rdT at e
    split at e
    · split at e
      · cases e
      · rename_i hn
        simp only [Option.some.injEq, Prod.mk.injEq] at e
        obtain ⟨rfl, rfl, rfl⟩ := e
        exact hG.snoc (numOf_range hn)
    split at e
    · split at e
      · split at e
        · cases e
        · rename_i hn
          split at e
          · simp only [Option.some.injEq, Prod.mk.injEq] at e
            obtain ⟨rfl, rfl, rfl⟩ := e
            exact hG.snoc (numT_range hn)
          · cases e
      · cases e
    split at e
    · split at e
      · cases e
      · rename_i n s2 hn
        cases ho : op n with
        | none => rw [ho] at e; cases e
        | some q =>
          rw [ho] at e
          simp at e
          obtain ⟨rfl, rfl, rfl⟩ := e
          exact hG
    split at e
    · exact tupT_nr ih _ _ _ _ _ hG e
    split at e
    · split at e
      · cases e
      · rename_i n s2 hn
        split at e
        · simp only [Option.some.injEq, Prod.mk.injEq] at e
          obtain ⟨rfl, rfl, rfl⟩ := e
          exact hG.snoc (numT_range hn)
        · exact tupT_nr ih _ _ _ _ _ hG e
    split at e
    · exact tupT_nr ih _ _ _ _ _ hG e
    · simp only [Option.some.injEq, Prod.mk.injEq] at e
      obtain ⟨rfl, rfl, rfl⟩ := e
      exact hG.snoc (by show (-9223372036854775808 : Int) ≤ 0 ∧ (0 : Int) ≤ 9223372036854775807; omega)
theorem readT_nr {S s1 : List UInt8} {k : Int} {G1 : List Nd} (h : readT S = some (k, s1, G1)) : NR G1 := rdT_nr _ _ _ _ _ _ _ (fun n hn => by cases hn) h
theorem readT_len {S s1 : List UInt8} {k : Int} {G1 : List Nd} (h : readT S = some (k, s1, G1)) : G1.length ≤ S.length + 1 := by
  have := (rdT_le _ _ _ _ _ _ _ h).2
  simp at this
  omega
/-- No node has more arguments than that. -/
def AL (B : Nat) (G : List Nd) : Prop := ∀ n ∈ G, n.args.length ≤ B
theorem AL.snoc {B : Nat} {G : List Nd} (h : AL B G) {n : Nd} (hn : n.args.length ≤ B) : AL B (G ++ [n]) := by
  intro x hx
  rcases List.mem_append.1 hx with hx | hx
  · exact h x hx
  · rw [List.mem_singleton.1 hx]; exact hn
def RdAL (B : Nat) (node : Rdr) : Prop := RdLe node ∧ ∀ s G k s1 G1, s.length ≤ B → AL B G → node s G = some (k, s1, G1) → AL B G1
theorem argsT_al {B : Nat} {node : Rdr} (h : RdAL B node) {sep : Nat} : ∀ g s G acc args s1 G1, s.length ≤ B → AL B G → argsT node sep g s G acc = some (args, s1, G1) → AL B G1 := by
  intro g
  induction g with
  | zero => intro s G acc args s1 G1 _ _ e; simp [argsT] at e
  | succ g ih =>
    intro s G acc args s1 G1 hs hG e
    unfold argsT at e
    split at e
    · cases e
    · rename_i k s2 G2 hn
      have h1 := h.2 _ _ _ _ _ hs hG hn
      have h2 := (h.1 _ _ _ _ _ hn).1
      split at e
      · exact ih _ _ _ _ _ _ (by simp; omega) h1 e
      · split at e
        · simp only [Option.some.injEq, Prod.mk.injEq] at e
          obtain ⟨rfl, rfl, rfl⟩ := e
          exact h1
        · cases e
theorem tupT_al {B : Nat} {node : (Int → Option Int) → Rdr} (h : ∀ op, RdAL B (node op)) {label : List UInt8} {no : Int} {op : Int → Option Int} : ∀ s G k s1 G1, s.length ≤ B → AL B G → tupT node label no s G op = some (k, s1, G1) → AL B G1 := by
  intro s G k s1 G1 hs hG e
  unfold tupT at e
  split at e
  · split at e
    · cases e
    · rename_i args s2 G2 ha
      have h1 := argsT_al (h _) _ _ _ _ _ _ _ (by simp; omega) (hG.snoc (n := ⟨3, 0, bs (if label = [] then [124] else label), []⟩) (by simp)) ha
      have h2 := (argsT_le (h _).1 (by split <;> omega) _ _ _ _ _ _ _ ha).2.2
      simp only [Option.some.injEq, Prod.mk.injEq] at e
      obtain ⟨_, rfl, rfl⟩ := e
      intro x hx
      rcases List.mem_or_eq_of_mem_set hx with hx | rfl
      · exact h1 x hx
      · simp at h2
        show args.length ≤ B
        omega
  · cases e
theorem rdT_al (B : Nat) : ∀ f op, RdAL B (rdT f op) := by
  intro f
  induction f with
  | zero => intro op; exact ⟨rdT_le _ _, fun s G k s1 G1 _ _ e => by simp [rdT] at e⟩
  | succ f ih =>
    intro op
    refine ⟨rdT_le _ _, fun s G k s1 G1 hs hG e => ?_⟩
    have hw := wordT_le s
    unfold rdT at e
    split at e
    · split at e
      · cases e
      · simp only [Option.some.injEq, Prod.mk.injEq] at e
        obtain ⟨rfl, rfl, rfl⟩ := e
        exact hG.snoc (by simp)
    split at e
    · split at e
      · split at e
        · cases e
        · split at e
          · simp only [Option.some.injEq, Prod.mk.injEq] at e
            obtain ⟨rfl, rfl, rfl⟩ := e
            exact hG.snoc (by simp)
          · cases e
      · cases e
    split at e
    · split at e
      · cases e
      · rename_i n s2 hn
        cases ho : op n with
        | none => rw [ho] at e; cases e
        | some q =>
          rw [ho] at e
          simp at e
          obtain ⟨rfl, rfl, rfl⟩ := e
          exact hG
    split at e
    · exact tupT_al ih _ _ _ _ _ hs hG e
    split at e
    · split at e
      · cases e
      · rename_i n s2 hn
        have h1 := numT_le hn
        split at e
        · simp only [Option.some.injEq, Prod.mk.injEq] at e
          obtain ⟨rfl, rfl, rfl⟩ := e
          exact hG.snoc (by simp)
        · have h2 := wordT_le s2.tail
          simp at h2
          exact tupT_al ih _ _ _ _ _ (by omega) hG e
    split at e
    · exact tupT_al ih _ _ _ _ _ (by omega) hG e
    · simp only [Option.some.injEq, Prod.mk.injEq] at e
      obtain ⟨rfl, rfl, rfl⟩ := e
      exact hG.snoc (by simp)
theorem readT_al {S s1 : List UInt8} {k : Int} {G1 : List Nd} (h : readT S = some (k, s1, G1)) : AL S.length G1 := (rdT_al S.length _ _).2 _ _ _ _ _ (Nat.le_refl _) (fun n hn => by cases hn) h
/-- The text of what was read decides. -/
theorem isText_of_read {S : List UInt8} {G1 C : List Nd} (hr : readT S = some (0, [], G1)) (hv : validT G1 0 = true) (hC : Canon C (den G1 0)) (hl : C.length ≤ G1.length) : (textOf C = S → IsText C S) ∧ (∀ C', IsText C' S → C' = C) := by
  obtain ⟨v1, v2, v3, v4, v5⟩ := validT_iff.1 hv
  refine ⟨fun ht => ⟨⟨_, hC⟩, hC.nr v5 (by omega) (readT_nr hr), by omega, ht⟩, fun C' h => ?_⟩
  obtain ⟨k, G, e, _, _, d, _⟩ := read_text h
  rw [hr] at e
  simp only [Option.some.injEq, Prod.mk.injEq] at e
  obtain ⟨hk, _, rfl⟩ := e
  have : k = 0 := by omega
  subst this
  obtain ⟨⟨D', hC'⟩, _⟩ := h
  have : D' = den G1 0 := by rw [← hC'.root, ← d]
  rw [this] at hC'
  exact hC'.unique hC
theorem isText_read {C : List Nd} {S : List UInt8} (h : IsText C S) : ∃ G1, readT S = some (0, [], G1) ∧ (S.length ≤ 4000 → validT G1 0 = true) := by
  obtain ⟨k, G, e, hv, hk, d, hl⟩ := read_text h
  have h0 := readT_zero e
  rw [h0] at e
  refine ⟨G, e, fun hS => validT_iff.2 ⟨by omega, by omega, by omega, by omega, hv⟩⟩
/-- What Parse hands back. -/
def ParsePost (S : List UInt8) (w : World) (e : Ending) (w' : World) : Prop :=
  Ext w w' ∧ (4000 < S.length → e = .returned (.tuple #[.agg #[.slice none 0 0, .int .i64 0], .int .i64 3])) ∧
    (S.length ≤ 4000 → (∃ C v, IsText C S ∧ e = .returned (.tuple #[.agg #[v, .int .i64 0], .int .i64 0]) ∧ OwnG w' w.heap.size v C) ∨ ((∀ C, ¬ IsText C S) ∧ e = .returned (.tuple #[.agg #[.slice none 0 0, .int .i64 0], .int .i64 2])))
set_option maxRecDepth 100000 in
set_option maxHeartbeats 1000000 in
theorem Parse_any (S : List UInt8) (hmax : S.length ≤ 9223372036854775807) (w : World) (hg : Gl w) : Calls Tryz.prog 19 #[.string (bs S)] w (ParsePost S w) := by
  by_cases hS : 4000 < S.length
  · have hsz : (bs S).size = S.length := bs_size S
    have hs1 : decide ((4000 : Int) < ((bs S).size : Int)) = true := by rw [hsz]; simp; omega
    have hs2 : (bs S).size ≤ 9223372036854775807 := by rw [hsz]; exact hmax
    have HS := Lib.hid hS
    clear hsz hS hg hmax
    go_enter Tryz.func19, Tryz.ntmps19
    go_wp2
    refine bodyPost_ret (results_cell_tmp1 rfl _ _ _ 24 _ (0, 0) _ rfl (new_heap _ _ _ rfl) Tryz.underlying24 (by kernel_rfl)) rfl ?_
    exact ⟨(Ext.rfl' _).alloc _, fun _ => rfl, fun h => by have := HS.out; omega⟩
  · have hsz : (bs S).size = S.length := bs_size S
    have hs1 : decide ((4000 : Int) < ((bs S).size : Int)) = false := by rw [hsz]; simp; omega
    have hs2 : (bs S).size ≤ 9223372036854775807 := by rw [hsz]; exact hmax
    have HP := Lib.hid (fun W (hW : Ext w W) => parse_any S (by omega) W (hg.ext hW))
    have HS := Lib.hid hS
    have HG := Lib.hid hg
    clear hsz hS hg hmax
    go_enter Tryz.func19, Tryz.ntmps19
    go_wp2_with fail
    refine (HP.out _ ((Ext.rfl' _).alloc _)).mono ?_
    rintro e w1 ⟨hx, ⟨hno, rfl⟩ | ⟨k, s1, G1, v, hrd, rfl, hown⟩⟩
    · have hb : w1.heap[w.heap.size]? = some (.cells #[.slice none 0 0, .int .i64 0] 24 (0, 0)) := hx.heap (new_heap _ _ _ rfl)
      have hlt : w.heap.size < w1.heap.size := (Array.getElem?_eq_some_iff.1 hb).1
      obtain ⟨b1, b2, b3, b4, b5⟩ := box_facts hb
      have HE := Lib.hid (((Ext.rfl' w).alloc _).trans' hx)
      have HB := Lib.hid hb
      have HNO := Lib.hid hno
      clear hb hx hno
      go_wp2
      obtain ⟨h1, h2⟩ := box_fill (u := .slice none 0 0) (v := .int .i64 0) HE.out (Nat.le_refl _) HB.out
      refine bodyPost_ret (results_cell_tmp1 rfl _ _ _ 24 _ (0, 0) _ rfl (((Ext.rfl' _).alloc _).heap h1) Tryz.underlying24 (by kernel_rfl)) rfl ?_
      refine ⟨h2.alloc _, fun h => absurd h HS.out, fun _ => .inr ⟨fun C hC => ?_, rfl⟩⟩
      obtain ⟨G, e, _⟩ := isText_read hC
      rw [HNO.out] at e; cases e
    · obtain rfl := readT_zero hrd
      obtain ⟨A, c, rfl, hc⟩ := hown.shape
      have hb : w1.heap[w.heap.size]? = some (.cells #[.slice none 0 0, .int .i64 0] 24 (0, 0)) := hx.heap (new_heap _ _ _ rfl)
      have hlt : w.heap.size < w1.heap.size := (Array.getElem?_eq_some_iff.1 hb).1
      obtain ⟨w2, hw2⟩ : ∃ w2 : World, w2 = w1.alloc (.cells #[.slice A G1.length c, .int .i64 0] 24) := ⟨_, rfl⟩
      have hx12 : Ext w1 w2 := by rw [hw2]; exact (Ext.rfl' _).alloc _
      have hb2 := hx12.heap hb
      have hbx : w2.heap[w1.heap.size]? = some (.cells #[.slice A G1.length c, .int .i64 0] 24 (0, 0)) := by rw [hw2]; exact new_heap _ _ _ rfl
      have hE2 : Ext w w2 := (((Ext.rfl' w).alloc _).trans' hx).trans' hx12
      have hown2 : OwnG w2 (w.heap.size + 1) (.slice A G1.length c) G1 := by
        have := hown.ext hx12
        simpa using this
      have hlen := readT_len hrd
      have hnds : NdsRd w2 A G1 := by
        obtain ⟨rows, ho, hG⟩ := hown2
        have hal := readT_al hrd
        have hS2 := HS.out
        have hn : Nds w2 (.slice A G1.length c) G1 := by
          have := ho.nds (by have := congrArg List.length hG; simp at this; omega) (fun r hr => by
            have := hal r.1 (by rw [hG]; exact List.mem_map.2 ⟨r, hr, rfl⟩)
            omega)
          rw [← hG] at this
          exact this
        obtain ⟨A', c', e, _, hr⟩ := hn
        cases e
        exact hr
      have HW2 := Lib.hid hw2
      have HX1 := Lib.hid (((Ext.rfl' w).alloc (.cells #[.slice none 0 0, .int .i64 0] 24)).trans' hx)
      have HB1 := Lib.hid hb
      have HLEN := Lib.hid hlen
      have HE2 := Lib.hid hE2
      have HND := Lib.hid hnds
      have HRD := Lib.hid hrd
      have HB2 := Lib.hid hb2
      have HBX := Lib.hid hbx
      have x0 : w2.cell? ⟨w1.heap.size, 0, none⟩ = some (.slice A G1.length c) := by simp [World.cell?, hbx]
      have x1 : w2.cell? ⟨w1.heap.size, 1, none⟩ = some (.int .i64 0) := by simp [World.cell?, hbx]
      clear hown hx hx12 hb2 hbx hE2 hown2 hnds hrd hw2 hb hlen
      by_cases hs0 : s1 = []
      · subst hs0
        rw [show decide (([] : List UInt8) = []) = true from rfl]
        cases hvt : validT G1 0 with
        | false =>
          have HVT := Lib.hid hvt
          clear hvt
          go_wp2_with fail
          rw [← HW2.out]
          refine (valid_call G1 0 A c G1.length w2 w2 HND.out (by omega) rfl (Ext.rfl' _)).mono ?_
          rw [HVT.out]
          rintro e w3 ⟨rfl, hx3⟩
          have HBn := Lib.hid (hx3.heap HB2.out)
          have HEn := Lib.hid (HE2.out.trans' hx3)
          clear hx3 x0 x1
          obtain ⟨d1, d2, d3, d4, d5⟩ := box_facts HBn.out
          go_wp2
          obtain ⟨h1, h2⟩ := box_fill (u := .slice none 0 0) (v := .int .i64 0) HEn.out (Nat.le_refl _) HBn.out
          refine bodyPost_ret (results_cell_tmp1 rfl _ _ _ 24 _ (0, 0) _ rfl h1 Tryz.underlying24 (by kernel_rfl)) rfl ?_
          refine ⟨h2, fun h => absurd h HS.out, fun hS => .inr ⟨fun C hC => ?_, rfl⟩⟩
          obtain ⟨G, e, hv⟩ := isText_read hC
          rw [HRD.out] at e
          simp only [Option.some.injEq, Prod.mk.injEq, true_and] at e
          rw [← e] at hv
          have := hv hS
          rw [HVT.out] at this; cases this
        | true =>
          have HVT := Lib.hid hvt
          obtain ⟨u1, u2, u3, u4, u5⟩ := validT_iff.1 hvt
          have HU := Lib.hid u5
          have hp0 : 0 < G1.length := by omega
          clear hvt u1 u2 u3 u4 u5
          go_wp2_with fail
          rw [← HW2.out]
          refine (valid_call G1 0 A c G1.length w2 w2 HND.out (by omega) rfl (Ext.rfl' _)).mono ?_
          rw [HVT.out]
          rintro e w3 ⟨rfl, hx3⟩
          have y0 := hx3.cell x0
          have y1 := hx3.cell x1
          have HB3 := Lib.hid (hx3.heap HB2.out)
          have HE3 := Lib.hid (HE2.out.trans' hx3)
          have HN3 := Lib.hid (HND.out.ext hx3)
          clear hx3 x0 x1
          have hN8 : G1.length ≤ 1000000 := by have := HLEN.out; have := HS.out; omega
          go_wp2_with fail
          refine (text_any G1 HU.out (readT_nr HRD.out) 0 G1.length rfl A c w3 (HG.out.ext HE3.out) HN3.out hp0 hN8).mono ?_
          rintro e w4 ⟨hx4, C, hC, hlC, ht, hf⟩
          have z0 := hx4.cell y0
          have z1 := hx4.cell y1
          have HBn := Lib.hid (hx4.heap HB3.out)
          have HEn := Lib.hid (HE3.out.trans' hx4)
          have HN4 := Lib.hid (HN3.out.ext hx4)
          have HC := Lib.hid hC
          have HIT := Lib.hid (isText_of_read HRD.out HVT.out hC hlC)
          clear hx4 y0 y1 hC hlC
          by_cases hl : (textOf C).length ≤ 4000
          · obtain rfl := ht hl
            clear ht hf
            by_cases heq : textOf C = S
            · have hcmp : ((bs (textOf C)).toList == (bs S).toList) = true := by rw [heq]; exact beq_self_eq_true _
              have HEQ := Lib.hid heq
              clear heq hl
              go_wp2_with fail
              refine (least_any G1 HU.out 0 G1.length rfl A c w4 HN4.out hp0 hN8).mono ?_
              rintro e w5 ⟨C', v', rfl, n1, n2, n3, n4⟩
              obtain ⟨A', c', rfl, hc'⟩ := n1.shape
              have hCC : C' = C := n2.unique HC.out
              subst hCC
              have hb5 := n4.heap HBn.out
              have hlt4 : w.heap.size + 1 ≤ w4.heap.size := (Array.getElem?_eq_some_iff.1 HBn.out).1
              obtain ⟨d1, d2, d3, d4, d5⟩ := box_facts hb5
              have HB5 := Lib.hid hb5
              have HE5 := Lib.hid (HEn.out.trans' n4)
              have HO5 := Lib.hid n1
              clear n1 n2 n3 n4 hb5 z0 z1
              go_wp2
              obtain ⟨h1, h2⟩ := box_fill (u := .slice A' C'.length c') (v := .int .i64 0) HE5.out (Nat.le_refl _) HB5.out
              refine bodyPost_ret (results_cell_tmp1 rfl _ _ _ 24 _ (0, 0) _ rfl h1 Tryz.underlying24 (by kernel_rfl)) rfl ?_
              refine ⟨h2, fun h => absurd h HS.out, fun _ => .inl ⟨C', _, HIT.out.1 HEQ.out, rfl, ?_⟩⟩
              have CS : ChgS (fun j => j = w.heap.size) w5 ((w5.setCell ⟨w.heap.size, 0, none⟩ (.slice A' C'.length c')).setCell ⟨w.heap.size, 1, none⟩ (.int .i64 0)) := ((ChgS.refl (fun j => j = w.heap.size) w5).set (.inl rfl) _ _).set (.inl rfl) _ _
              obtain ⟨rows, ho, hrows⟩ := HO5.out.chg CS (by rintro i rfl; omega)
              exact ⟨rows, ho.mono (by omega), hrows⟩
            · have hcmp : ((bs (textOf C)).toList == (bs S).toList) = false := by
                rw [Go.Lib.toList_data, Go.Lib.toList_data, bs_list, bs_list]
                exact beq_eq_false_iff_ne.2 heq
              have HEQ := Lib.hid heq
              clear heq hl
              obtain ⟨d1, d2, d3, d4, d5⟩ := box_facts HBn.out
              go_wp2
              obtain ⟨h1, h2⟩ := box_fill (u := .slice none 0 0) (v := .int .i64 0) HEn.out (Nat.le_refl _) HBn.out
              refine bodyPost_ret (results_cell_tmp1 rfl _ _ _ 24 _ (0, 0) _ rfl h1 Tryz.underlying24 (by kernel_rfl)) rfl ?_
              refine ⟨h2, fun h => absurd h HS.out, fun _ => .inr ⟨fun C' hC' => ?_, rfl⟩⟩
              have := HIT.out.2 C' hC'
              subst this
              exact HEQ.out hC'.2.2.2
          · obtain rfl := hf (by omega)
            have HL := Lib.hid hl
            clear ht hf hl
            obtain ⟨d1, d2, d3, d4, d5⟩ := box_facts HBn.out
            go_wp2
            obtain ⟨h1, h2⟩ := box_fill (u := .slice none 0 0) (v := .int .i64 0) HEn.out (Nat.le_refl _) HBn.out
            refine bodyPost_ret (results_cell_tmp1 rfl _ _ _ 24 _ (0, 0) _ rfl h1 Tryz.underlying24 (by kernel_rfl)) rfl ?_
            refine ⟨h2, fun h => absurd h HS.out, fun hS => .inr ⟨fun C' hC' => ?_, rfl⟩⟩
            have := HIT.out.2 C' hC'
            subst this
            have h4 := hC'.2.2.2
            exact HL.out (by rw [h4]; exact hS)
      · have hdn : decide (s1 = []) = false := by simp [hs0]
        have HS0 := Lib.hid hs0
        rw [hdn]
        clear hs0 hdn x0 x1
        obtain ⟨d1, d2, d3, d4, d5⟩ := box_facts HB1.out
        go_wp2
        obtain ⟨h1, h2⟩ := box_fill (u := .slice none 0 0) (v := .int .i64 0) HX1.out (Nat.le_refl _) HB1.out
        refine bodyPost_ret (results_cell_tmp1 rfl _ _ _ 24 _ (0, 0) _ rfl (((Ext.rfl' _).alloc _).heap h1) Tryz.underlying24 (by kernel_rfl)) rfl ?_
        refine ⟨h2.alloc _, fun h => absurd h HS.out, fun hS => .inr ⟨fun C hC => ?_, rfl⟩⟩
        obtain ⟨G, e, hv⟩ := isText_read hC
        rw [HRD.out] at e
        simp only [Option.some.injEq, Prod.mk.injEq, true_and] at e
        exact HS0.out e.1
end Go.Proofs.YtnleljpebnnhfaaGreatDoor

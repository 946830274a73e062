/- The classes, walked; rows that the call owns. -/
import Derived.Test.YtnleljpebnnhfaaGreatDoorZe
import Derived.Test.YtnleljpebnnhfaaGreatDoorZf
import Derived.Deep.OwnRows
import Derived.Maps.AppendAt
import Derived.OwnWalk

set_option linter.unusedSimpArgs false
set_option linter.unusedVariables false
namespace Go.Proofs.YtnleljpebnnhfaaGreatDoor
open Go.RowKit
theorem Chg.cell {b : Nat} {w w' : World} (h : Chg b w w') {a : Addr} {v : Value} (hc : w.cell? a = some v) (hne : a.block ≠ b) : w'.cell? a = some v := by
  have hb := World.block_lt_of_cell? w a hc
  have : w'.cell? a = w.cell? a := by unfold World.cell?; rw [h.block a.block hb hne]
  rw [this, hc]
theorem Row.chg {b c : Nat} {w w' : World} {d : List Int} (h : Row w b d) (k : Chg c w w') (hne : b ≠ c) : Row w' b d := by
  unfold Row at *
  rw [k.block b (Array.getElem?_eq_some_iff.1 h).1 hne]
  exact h
theorem Ext.chg {a w w' : World} {b : Nat} (h : Ext a w) (k : Chg b w w') (hb : a.heap.size ≤ b) : Ext a w' :=
  Below.trans h (k.below hb h.size)
theorem NdsRd.get {w : World} {A : Option Addr} {G : List Nd} (h : NdsRd w A G) {i : Nat} (hi : i < G.length) : ∃ b o, A = some ⟨b, o, none⟩ ∧ NdAt w b (o + i * 4) (nd G i) := by
  obtain ⟨b, o, e, hc⟩ := h.2 (by omega)
  exact ⟨b, o, e, by rw [nd_eq hi]; exact hc i hi⟩
set_option maxRecDepth 100000 in
theorem classes1_any (G : List Nd) (A : Option Addr) (c p : Nat) (x y : Int) (w : World) (hr : NdsRd w A G) (hp : w.cell? ⟨p, 0, none⟩ = some (.slice A G.length c))
    (hx : 0 ≤ x ∧ x < G.length) (hy : 0 ≤ y ∧ y < G.length) :
    Calls Tryz.prog 95 #[.int .i64 x, .int .i64 y, .pointer (some ⟨p, 0, none⟩)] w
      fun e w' => e = .returned (.int .i64 (cmpTop (nd G x.toNat) (nd G y.toNat))) ∧ Ext w w' := by
  obtain ⟨i, rfl⟩ := Int.eq_ofNat_of_zero_le hx.1
  obtain ⟨j, rfl⟩ := Int.eq_ofNat_of_zero_le hy.1
  have hi : i < G.length := by omega
  have hj : j < G.length := by omega
  have hle := hr.1
  obtain ⟨b, o, rfl, A1, c1, q0, q1, q2, q3, q4, q5⟩ := hr.get hi
  obtain ⟨b', o', e', A2, c2, p0, p1, p2, p3, p4, p5⟩ := hr.get hj
  have e1 := (Addr.mk.inj (Option.some.inj e')).1
  have e2 := (Addr.mk.inj (Option.some.inj e')).2.1
  subst e1
  subst e2
  have l1 := q5.1
  have l2 := p5.1
  clear hr hx hy q4 q5 p4 p5 e'
  go_enter Tryz.func95, Tryz.ntmps95
  go_wp2
  go_still_tail 8, (by kernel_rfl)
  change wpList _ _ _ _ _ w.drew
  go_wp2_with (go_at_call 50; refine (compareTop_any (nd G i) (nd G j) A1 A2 c1 c2 _ l1 l2).mono ?_; rintro e w1 ⟨rfl, hw1⟩)
  go_ret
  exact ⟨by simp, (Ext.rfl' _).drew.trans' hw1⟩
theorem made_zero (n : Nat) (z : Value) : madeCells #[z] n = (List.replicate n z).toArray := by
  apply Array.ext'
  simp [madeCells]
  apply List.ext_getElem
  · simp
  · intro i h1 h2
    simp [Nat.mod_one]
theorem mk44 (n : Nat) (hn : n ≤ 1000000) (W : World) :
    (Instr.makeSlice 44 (.int .i64 (n : Int)) (.int .i64 (n : Int))).run Tryz.prog W = .ok (.slice (some ⟨W.heap.size, 0, none⟩) n n) (W.alloc (.cells ((List.replicate n (0 : Int)).map iv).toArray 3)) := by
  rw [run_make_row' (P := Tryz.prog) 44 3 (.int .i64 0) 8 (by kernel_rfl) (by kernel_rfl) rfl .i64 .i64 n (by omega) (by omega) W, made_zero]
  simp
theorem row_made (n : Nat) (W : World) : Row (W.alloc (.cells (Array.replicate n (iv 0)) 3)) W.heap.size (List.replicate n 0) := by
  unfold Row
  rw [heap_alloc_new]
  simp
theorem scmp_top (G : List Nd) (A : Option Addr) (c p b : Nat) (w0 : World) (hr : NdsRd w0 A G) (hb : w0.heap.size ≤ b) (hp : p ≠ b) :
    SCmp 95 #[.pointer (some ⟨p, 0, none⟩)] b (fun W => Ext w0 W ∧ W.cell? ⟨p, 0, none⟩ = some (.slice A G.length c)) (fun x y => cmpTop (nd G x.toNat) (nd G y.toNat) ≤ 0) (fun x => 0 ≤ x ∧ x < G.length) (fun x y => cmpTop (nd G x.toNat) (nd G y.toNat)) where
  ent _ _ := by kernel_rfl
  order := order_top G
  neg x y _ _ := by
    have := cmpTop_cmp.anti (nd G x.toNat) (nd G y.toNat)
    omega
  call W x y h hx hy := classes1_any G A c p x y W (hr.ext h.1) h.2 hx hy
  keep W W' h k := ⟨h.1.chg k hb, k.cell h.2 hp⟩
/-- A key's block. -/
def Key (W : World) (b : Nat) (d : List Int) : Prop := W.heap[b]? = some (.cells (d.map iv).toArray 116 (0, 0))
theorem Key.cell {W : World} {b : Nat} {d : List Int} (h : Key W b d) (i : Nat) (hi : i < d.length) : W.cell? ⟨b, i, none⟩ = some (.int .i64 (gt d i)) := by
  have hb : W.heap[b]? = _ := h
  simp [World.cell?, hb, List.getElem?_eq_getElem hi, gt_eq]
theorem Key.frozen {W : World} {b : Nat} {d : List Int} (h : Key W b d) (i : Nat) : W.frozen? ⟨b, i, none⟩ = false := by
  have hb : W.heap[b]? = _ := h
  simp [World.frozen?, hb]
theorem Key.set {W : World} {b : Nat} {d : List Int} (h : Key W b d) (i : Nat) (x : Int) : Key (W.setCell ⟨b, i, none⟩ (.int .i64 x)) b (d.set i x) := by
  have hb : W.heap[b]? = _ := h
  unfold Key
  simp [World.setCell, Array.getElem?_modify, hb, List.map_set]
theorem Key.lt {W : World} {b : Nat} {d : List Int} (h : Key W b d) : b < W.heap.size := (Array.getElem?_eq_some_iff.1 h).1
def kpre (G : List Nd) (out : List Int) (i j : Nat) : List Int := (gt out i + 1) :: (((kids G i).take j).map (fun a => gt out a + 1) ++ List.replicate (8 - j) 0)
theorem kpre_length {G : List Nd} {out : List Int} {i j : Nat} (h : j ≤ (kids G i).length) (h8 : (kids G i).length ≤ 8) : (kpre G out i j).length = 9 := by
  simp [kpre]; omega
theorem kpre_last {G : List Nd} {out : List Int} {i : Nat} : kpre G out i (kids G i).length = keyRow G out i := by simp [kpre, keyRow]
theorem kpre_step {G : List Nd} {out : List Int} {i j : Nat} (h : j < (kids G i).length) (h8 : (kids G i).length ≤ 8) : (kpre G out i j).set (j + 1) (gt out (kids G i)[j] + 1) = kpre G out i (j + 1) := by
  simp only [kpre, List.set_cons_succ]
  congr 1
  rw [List.set_append, if_neg (by simp; omega)]
  rw [List.take_add_one, List.getElem?_eq_getElem h]
  simp only [Option.toList_some, List.map_append, List.map_cons, List.map_nil, List.append_assoc]
  congr 1
  have : 8 - j = (8 - (j + 1)) + 1 := by omega
  rw [this, List.replicate_succ]
  have e : j - (((kids G i).take j).map fun a => gt out a + 1).length = 0 := by simp; omega
  rw [e]
  rfl
theorem rowV_nine {l : List Int} (h : l.length = 9) : rowV l = .agg #[.int .i64 (gt l 0), .int .i64 (gt l 1), .int .i64 (gt l 2), .int .i64 (gt l 3), .int .i64 (gt l 4), .int .i64 (gt l 5), .int .i64 (gt l 6), .int .i64 (gt l 7), .int .i64 (gt l 8)] := by
  match l, h with
  | [a0, a1, a2, a3, a4, a5, a6, a7, a8], _ => rfl
theorem mkMap114 (W : World) : (Instr.makeMap 114 none).run Tryz.prog W = .ok (.map (some W.heap.size)) (W.alloc (.map #[] 0)) := by kernel_rfl
set_option maxRecDepth 100000 in
set_option maxHeartbeats 2000000 in
theorem classes_any (G : List Nd) (A : Option Addr) (c N : Nat) (w : World) (hr : NdsRd w A G) (hG : VG G) (hN : G.length = N) (hpos : 0 < N) (hmax : N ≤ 1000000) :
    Calls Tryz.prog 60 #[.slice A N c] w
      fun e w' => ∃ b out, e = .returned (.slice (some ⟨b, 0, none⟩) N N) ∧ Row w' b out ∧ w.heap.size ≤ b ∧ Ext w w' ∧ out.length = N ∧
        (∀ i, i < N → 0 ≤ gt out i ∧ gt out i < N) ∧ ∀ i j, i < N → j < N → (gt out i = gt out j ↔ den G i = den G j) := by
  have HR := Lib.hid hr
  have HG := Lib.hid hG
  have HN := Lib.hid hN
  have hmk := mk44 N hmax
  clear hr hG hN
  go_enter Tryz.func60, Tryz.ntmps60
  go_wp2
  go_loopw [23] (fun i wr => ∃ k : Nat, k ≤ N ∧ i = .int .i64 k ∧ wr.cell? ⟨w.heap.size, 0, none⟩ = some (.slice A N c) ∧ ∃ d, Row wr (w.heap.size + 1) d ∧ Ext w wr ∧ d.length = N ∧ ∀ p, p < k → gt d p = p) (fun i _ => N - (intOf i).toNat)
  case atStart =>
    refine ⟨0, by omega, rfl, by simp, List.replicate N 0, ?_, ((Ext.rfl' _).alloc _).alloc _, by simp, fun p hp => by omega⟩
    have := row_made N (w.alloc (Obj.cells #[Value.slice A N c] 22))
    simpa using this
  case round =>
    obtain ⟨k, hk, rfl, hcell, d, r1, r2, r3, r4⟩ := hrel
    have R1 := Lib.hid r1
    have R2 := Lib.hid r2
    have R3 := Lib.hid r3
    have R4 := Lib.hid r4
    have f1 := r1.cell k
    have f2 := r1.frozen k
    rw [r3] at f1
    clear r1 r2 r3 r4
    by_cases hlt : k < N
    · have f3 := f1 hlt
      clear f1
      have HC := Lib.hid hcell
      clear hcell
      go_wp2
      refine ⟨⟨k + 1, by omega, by go_num, ?_, d.set k (k : Int), R1.out.set _ _, ?_, by simpa using R3.out, fun p hp => ?_⟩, by simp [intOf]; omega⟩
      · have := Chg.cell ((Chg.refl (w.heap.size + 1) wr).set k (.int .i64 (k : Int))) HC.out (by simp)
        exact this
      · exact R2.out.setNew (by simp) _
      · rw [gt_set _ _ _ (by rw [R3.out]; omega)]
        split
        · rename_i e; rw [e]
        · exact R4.out p (by omega)
    · obtain rfl : N = k := by omega
      have HC := Lib.hid hcell
      clear f1 f2 hcell
      go_wp2_with fail
      have hcmp := scmp_top G A c w.heap.size (w.heap.size + 1) w HR.out (by omega) (by omega)
      refine (sortStable_any hcmp d N N wr R1.out ⟨R2.out, by rw [HN.out]; exact HC.out⟩ R3.out (fun k hk => by rw [R4.out k hk, HN.out]; omega) (by omega)).mono ?_
      rintro ed w1 ⟨rfl, d1, s1, s2, s3, s4⟩
      have hD : Sorted G d1 := sorted_of (fun k hk => R4.out k (by rw [← HN.out]; exact hk)) (by rw [R3.out, HN.out]) (by rw [HN.out]; exact s3) (by rw [HN.out]; exact s4)
      have HD := Lib.hid hD
      have S1 := Lib.hid s1
      have S2 := Lib.hid (R2.out.chg s2 (by omega))
      have S3 := Lib.hid (s3.1.trans R3.out)
      have hcell := s2.cell HC.out (by simp)
      clear hcmp hD s1 s2 s3 s4 R1 R2 R3 R4 HC
      go_wp2
      have hbo : w.heap.size + 1 < w1.heap.size := S1.out.lt
      go_loopw [39, 6] (fun v39 v6 wr => ∃ k many : Nat, k ≤ N ∧ v39 = .int .i64 k ∧ v6 = .int .i64 many ∧ wr.cell? ⟨w.heap.size, 0, none⟩ = some (.slice A N c) ∧ ∃ out, Row wr w1.heap.size out ∧ Row wr (w.heap.size + 1) d1 ∧ Ext w wr ∧ Ini G d1 k out many) (fun v39 _ _ => N - (intOf v39).toNat)
      case atStart =>
        refine ⟨0, 0, by omega, rfl, rfl, ?_, List.replicate N 0, row_made N w1, ?_, S2.out.alloc _, Ini.start (by rw [HN.out]; simp)⟩
        · exact ((Ext.rfl' w1).alloc _).cell hcell
        · exact S1.out.ext ((Ext.rfl' w1).alloc _)
      case round =>
        clear hcell hbo
        obtain ⟨k, many, hk, rfl, rfl, hcell, out, r1, r2, r3, r4⟩ := hrel
        have hbo : w.heap.size + 1 < w1.heap.size := S1.out.lt
        have R1 := Lib.hid r1
        have R2 := Lib.hid r2
        have R3 := Lib.hid r3
        have R4 := Lib.hid r4
        have HL : Hid (out.length = N) := r4.len.trans HN.out
        have HM : many ≤ k := r4.lek
        by_cases hlt : k < N
        · have D := HD.out
          obtain ⟨i, hi⟩ := Int.eq_ofNat_of_zero_le (D.rng k (by rw [HN.out]; exact hlt)).1
          have hiN : i < N := by have := (D.rng k (by rw [HN.out]; exact hlt)).2; rw [hi, HN.out] at this; omega
          have f1 := r2.cell k (by rw [S3.out]; exact hlt)
          rw [hi] at f1
          have f2 := r1.cell i (by rw [HL.out]; exact hiN)
          have f3 := r1.frozen i
          have HI := Lib.hid hi
          clear r1 r2 r3 r4 D hi
          by_cases hk0 : k = 0
          · subst hk0
            go_wp2
            go_quiet (fail)
            go_wp2
            refine ⟨⟨1, many, by omega, by go_num, rfl, ?_, out.set i (many : Int), R1.out.set _ _, ?_, (R3.out.drewN _).setNew (by show w.heap.size ≤ w1.heap.size; omega) _, ?_⟩, by simp [intOf]; omega⟩
            · exact Chg.cell (((Chg.refl w1.heap.size wr).ext (Ext.of_drewN _ nq)).set i (.int .i64 (many : Int))) hcell (by show w.heap.size ≠ w1.heap.size; omega)
            · exact R2.out.chg (((Chg.refl w1.heap.size wr).ext (Ext.of_drewN _ nq)).set i (.int .i64 (many : Int))) (by omega)
            · have := R4.out.same HG.out HD.out (by rw [HN.out]; exact hlt) (fun h => by omega)
              rw [HI.out] at this
              exact this
          · have D := HD.out
            obtain ⟨j, hj⟩ := Int.eq_ofNat_of_zero_le (D.rng (k - 1) (by rw [HN.out]; omega)).1
            have hjN : j < N := by have := (D.rng (k - 1) (by rw [HN.out]; omega)).2; rw [hj, HN.out] at this; omega
            have f4 := R2.out.cell (k - 1) (by rw [S3.out]; omega)
            rw [hj] at f4
            obtain ⟨b, o, hA, A1, c1, q0, q1, q2, q3, q4, q5⟩ := (HR.out.ext R3.out).get (i := i) (by rw [HN.out]; exact hiN)
            obtain ⟨b', o', e', A2, c2, p0, p1, p2, p3, p4, p5⟩ := (HR.out.ext R3.out).get (i := j) (by rw [HN.out]; exact hjN)
            rw [hA] at e'
            have e1 := (Addr.mk.inj (Option.some.inj e')).1
            have e2 := (Addr.mk.inj (Option.some.inj e')).2.1
            subst e1
            subst e2
            have l1 := q5.1
            have l2 := p5.1
            have ew : IntKind.i64.wrap ((k : Int) - 1) = (k : Int) - 1 := IntWalk.i64_in _ (by omega)
            have n1 : (0 : Int) ≤ (k : Int) - 1 := by omega
            have n2 : (1 : Int) ≤ (k : Int) := by omega
            have n3 : (k : Int) - 1 < N := by omega
            have n4 : (k : Int) < N := by omega
            have t1 : ((k : Int) - 1).toNat = k - 1 := by omega
            have hkp : 0 < k := by omega
            have HJ := Lib.hid hj
            have HF := Lib.hid f2
            clear D q4 q5 p4 p5 e' hj f2
            subst hA
            by_cases hz : cmpTop (nd G j) (nd G i) = 0
            · have hz' : (cmpTop (nd G j) (nd G i) != 0) = false := by simp [hz]
              have HZ := Lib.hid hz
              clear hz f3
              go_wp2
              go_still_tail 15, (by kernel_rfl)
              change wpList _ _ _ _ _ wr.drew
              go_wp2_with fail
              refine (compareTop_any (nd G j) (nd G i) A2 A1 c2 c1 wr.drew l2 l1).mono ?_
              rintro ed w2 ⟨rfl, hx⟩
              have X := Lib.hid ((Ext.rfl' wr).drew.trans' hx)
              have x1 := (R1.out.ext X.out).cell i (by rw [HL.out]; exact hiN)
              have x2 := (R1.out.ext X.out).frozen i
              have hcell2 := X.out.cell hcell
              clear hx hcell f1 f4 q0 q1 q2 q3 p0 p1 p2 p3
              go_wp2
              refine ⟨⟨k + 1, many, by omega, by go_num, by first | rfl | go_num, ?_, out.set i ((many : Nat) : Int), (R1.out.ext X.out).set _ _, ?_, (R3.out.trans' X.out).setNew (by show w.heap.size ≤ w1.heap.size; omega) _, ?_⟩, by simp [intOf]; omega⟩
              · exact Chg.cell ((Chg.refl w1.heap.size w2).set i (.int .i64 ((many : Nat) : Int))) hcell2 (by show w.heap.size ≠ w1.heap.size; omega)
              · exact (R2.out.ext X.out).chg ((Chg.refl w1.heap.size w2).set i (.int .i64 ((many : Nat) : Int))) (by omega)
              · have := R4.out.same HG.out HD.out (by rw [HN.out]; exact hlt) (fun _ => by rw [HI.out, HJ.out]; exact HZ.out)
                rw [HI.out] at this
                exact this
            · have hz' : (cmpTop (nd G j) (nd G i) != 0) = true := by simp [hz]
              have HZ := Lib.hid hz
              clear hz f3
              go_wp2
              go_still_tail 15, (by kernel_rfl)
              change wpList _ _ _ _ _ wr.drew
              go_wp2_with fail
              refine (compareTop_any (nd G j) (nd G i) A2 A1 c2 c1 wr.drew l2 l1).mono ?_
              rintro ed w2 ⟨rfl, hx⟩
              have X := Lib.hid ((Ext.rfl' wr).drew.trans' hx)
              have x1 := (R1.out.ext X.out).cell i (by rw [HL.out]; exact hiN)
              have x2 := (R1.out.ext X.out).frozen i
              have hcell2 := X.out.cell hcell
              clear hx hcell f1 f4 q0 q1 q2 q3 p0 p1 p2 p3
              go_wp2
              refine ⟨⟨k + 1, (many + 1), by omega, by go_num, by first | rfl | go_num, ?_, out.set i (((many + 1) : Nat) : Int), (R1.out.ext X.out).set _ _, ?_, (R3.out.trans' X.out).setNew (by show w.heap.size ≤ w1.heap.size; omega) _, ?_⟩, by simp [intOf]; omega⟩
              · exact Chg.cell ((Chg.refl w1.heap.size w2).set i (.int .i64 (((many + 1) : Nat) : Int))) hcell2 (by show w.heap.size ≠ w1.heap.size; omega)
              · exact (R2.out.ext X.out).chg ((Chg.refl w1.heap.size w2).set i (.int .i64 (((many + 1) : Nat) : Int))) (by omega)
              · have := R4.out.other HG.out HD.out (by rw [HN.out]; exact hlt) (by omega) (by rw [HI.out, HJ.out]; exact HZ.out)
                rw [HI.out] at this
                exact this
        · obtain rfl : N = k := by omega
          have hP : Part G out (many + 1) := (show Ini G d1 G.length out many by rw [HN.out]; exact R4.out).part HD.out (by rw [HN.out]; exact hpos)
          have HP := Lib.hid hP
          have hcap : many + 1 ≤ N := by
            have := cover (c := many + 1) (m := N) (f := fun i => (gt out i).toNat) fun v hv => by
              obtain ⟨i, hi, e⟩ := hP.sur v hv
              exact ⟨i, by rw [← HN.out]; exact hi, by rw [e]; rfl⟩
            exact this
          have hsz : w1.heap.size < wr.heap.size := R1.out.lt
          clear hP r1 r2 r3 r4 R2 R4 S1 S2 S3 HD
          go_wp2
          go_loopw [5, 6] (fun v5 v6 wr => ∃ bo many : Nat, v5 = .slice (some ⟨bo, 0, none⟩) N N ∧ v6 = .int .i64 many ∧ many + 1 ≤ N ∧ w.heap.size ≤ bo ∧ wr.cell? ⟨w.heap.size, 0, none⟩ = some (.slice A N c) ∧ ∃ out, Row wr bo out ∧ Ext w wr ∧ Part G out (many + 1)) (fun _ v6 _ => N - (intOf v6).toNat)
          case atStart => exact ⟨w1.heap.size, many, rfl, rfl, hcap, by omega, hcell, out, R1.out, R3.out, HP.out⟩
          case round =>
            clear hcap hcell hsz hbo HP R1 R3 HL HM
            obtain ⟨bo, many, rfl, rfl, hcap, hbo, hcell, out, r1, r2, r3⟩ := hrel
            have R1 := Lib.hid r1
            have R2 := Lib.hid r2
            have R3 := Lib.hid r3
            have hsz : bo < wr.heap.size := r1.lt
            clear r1 r2 r3
            have hmm := mkMap114
            have g1 : (wr.alloc (Obj.map #[] 0)).cell? ⟨w.heap.size, 0, none⟩ = some (.slice A N c) := ((Ext.rfl' wr).alloc _).cell hcell
            have g2 : ((wr.alloc (Obj.map #[] 0)).alloc (Obj.cells (Array.replicate N (iv 0)) 3)).cell? ⟨w.heap.size, 0, none⟩ = some (.slice A N c) := (((Ext.rfl' wr).alloc _).alloc _).cell hcell
            go_wp2
            clear hmm g1 g2
            obtain ⟨w2, hw2⟩ : ∃ w2 : World, w2 = wr := ⟨_, rfl⟩
            subst hw2
            go_loopw [75] (fun v75 wx => ∃ (k : Nat) (seen : List (List Int × Int)) (next : List Int), k ≤ N ∧ v75 = .int .i64 k ∧ Ext w2 wx ∧ MapIs rowV FitsR iv wx w2.heap.size seen ∧ Row wx (w2.heap.size + 1) next ∧ Seen G out k seen next) (fun v75 _ => N - (intOf v75).toNat)
            case atStart =>
              refine ⟨0, [], List.replicate N 0, by omega, rfl, ((Ext.rfl' w2).alloc _).alloc _, (MapIs.made w2).ext ((Ext.rfl' _).alloc _), ?_, Seen.start (by rw [HN.out]; simp)⟩
              have := row_made N (w2.alloc (Obj.map #[] 0))
              simpa using this
            case round =>
              obtain ⟨k, seen, next, hk2, rfl, q0, q1, q2, q3⟩ := hrel
              by_cases hkN : k < N
              · obtain ⟨b, o, hA, A1, c1, p0, p1, p2, p3, p4, p5⟩ := (HR.out.ext (R2.out.trans' q0)).get (i := k) (by rw [HN.out]; exact hkN)
                have hkey := R1.out.cell k (by rw [R3.out.len, HN.out]; exact hkN)
                have hkey2 : ∀ ob, (wr.alloc ob).cell? ⟨bo, k, none⟩ = some (.int .i64 (gt out k)) := fun ob => (q0.alloc ob).cell hkey
                have hcap2 := valid_ar (HG.out _ (nd_mem (by rw [HN.out]; exact hkN)))
                have Q0 := Lib.hid q0
                have Q1 := Lib.hid q1
                have Q2 := Lib.hid q2
                have Q3 := Lib.hid q3
                have P5 := Lib.hid p5
                have hr3 := R3.out.rng k (by rw [HN.out]; exact hkN)
                have ew : wrap64 (gt out k + 1) = gt out k + 1 := by unfold wrap64; omega
                clear hcell q0 q1 q2 q3 hkey p4 p5
                subst hA
                go_wp2
                clear ew hkey2
                obtain ⟨w3, hw3⟩ : ∃ w3 : World, w3 = wr := ⟨_, rfl⟩
                subst hw3
                generalize hw0 : ((w3.alloc _).alloc _) = w0
                have E0 : Ext w3 w0 := by rw [← hw0]; exact ((Ext.rfl' _).alloc _).alloc _
                have hs0 : w0.heap.size = w3.heap.size + 2 := by rw [← hw0]; simp
                have K0 : Key w0 (w3.heap.size + 1) (kpre G out k 0) := by
                  rw [← hw0]
                  have := heap_alloc_new (w3.alloc (.cells #[Value.int IntKind.i64 (nd G k).kind, Value.int IntKind.i64 (nd G k).num, Value.string (nd G k).label, Value.slice A1 (nd G k).args.length c1] 46)) (Obj.cells #[Value.int IntKind.i64 (gt out k + 1), Value.int IntKind.i64 0, Value.int IntKind.i64 0, Value.int IntKind.i64 0, Value.int IntKind.i64 0, Value.int IntKind.i64 0, Value.int IntKind.i64 0, Value.int IntKind.i64 0, Value.int IntKind.i64 0] 116)
                  simpa [Key, kpre, List.replicate] using this
                have hsz2 : w2.heap.size + 1 < w3.heap.size := Q2.out.lt
                clear hw0 hr3
                have HKL : Hid ((kids G k).length = (nd G k).args.length) := Lib.hid (by simp [kids])
                go_loopw [89] (fun v89 wx => ∃ j : Nat, j ≤ (nd G k).args.length ∧ v89 = .int .i64 j ∧ Ext w3 wx ∧ w0.heap.size ≤ wx.heap.size ∧ Key wx (w3.heap.size + 1) (kpre G out k j)) (fun v89 _ => (nd G k).args.length - (intOf v89).toNat)
                case atStart => exact ⟨0, by omega, rfl, E0, Nat.le_refl _, K0⟩
                case round =>
                  obtain ⟨j, hj, rfl, z1, z2, z3⟩ := hrel
                  by_cases hja : j < (nd G k).args.length
                  · obtain ⟨b', o', hA', hc'⟩ := (P5.out.ext z1).2 (by omega)
                    have hc := hc' j hja
                    clear hc'
                    have hG := HG.out
                    have hkj : j < (kids G k).length := by rw [HKL.out]; exact hja
                    have hkr := hG.kids (i := k) (by rw [HN.out]; exact hkN) (List.getElem_mem hkj)
                    rw [HN.out] at hkr
                    obtain ⟨a, ha⟩ : ∃ a, (kids G k)[j] = a := ⟨_, rfl⟩
                    rw [ha] at hkr
                    have hval : (nd G k).args[j] = (a : Int) := by
                      have e1 := hG.args (i := k) (by rw [HN.out]; exact hkN)
                      have e2 : (nd G k).args[j]? = ((kids G k).map Int.ofNat)[j]? := by rw [e1]
                      simp [hja, hkj, ha] at e2
                      exact e2
                    rw [hval] at hc
                    have hoa := R1.out.cell a (by rw [R3.out.len, HN.out]; exact hkr)
                    have hoa2 := (Q0.out.trans' z1).cell hoa
                    have hra := R3.out.rng a (by rw [HN.out]; exact hkr)
                    have ew : wrap64 (gt out a + 1) = gt out a + 1 := by unfold wrap64; omega
                    have kc := z3.cell (j + 1) (by rw [kpre_length (by omega) (by rw [HKL.out]; exact hcap2)]; omega)
                    have kf := z3.frozen (j + 1)
                    have HHA := Lib.hid ha
                    have Z1 := Lib.hid z1
                    have Z3 := Lib.hid z3
                    clear hG hoa hval ha z1 z3 hra
                    subst hA'
                    go_wp2
                    refine ⟨⟨j + 1, by omega, by go_num, Z1.out.setNew (by show w3.heap.size ≤ w3.heap.size + 1; omega) _, by simp [World.setCell]; omega, ?_⟩, by simp [intOf]; omega⟩
                    have := Z3.out.set (j + 1) (gt out a + 1)
                    rw [← HHA.out, kpre_step hkj (by rw [HKL.out]; exact hcap2), HHA.out] at this
                    exact this
                  · obtain rfl : (nd G k).args.length = j := by omega
                    have hkp : kpre G out k (nd G k).args.length = keyRow G out k := by rw [← HKL.out]; exact kpre_last
                    rw [hkp] at z3
                    have hl9 : (keyRow G out k).length = 9 := by rw [← hkp]; exact kpre_length (by rw [HKL.out]; omega) (by rw [HKL.out]; exact hcap2)
                    have hfit : FitsR (keyRow G out k) := by
                      refine ⟨hl9, fun x hx => ?_⟩
                      have hG := HG.out
                      have hr := fun i hi => R3.out.rng i hi
                      rw [HN.out] at hr
                      simp only [keyRow, List.mem_cons, List.mem_append, List.mem_map, List.mem_replicate] at hx
                      rcases hx with rfl | ⟨a, ha, rfl⟩ | ⟨_, rfl⟩
                      · have := hr k hkN; exact fits_of (by omega) (by omega)
                      · have hka := hG.kids (i := k) (by rw [HN.out]; exact hkN) ha
                        rw [HN.out] at hka
                        have := hr a hka; exact fits_of (by omega) (by omega)
                      · exact fits_of (by omega) (by omega)
                    have hM := Q1.out.ext z1
                    have hNx := Q2.out.ext z1
                    have hS := Q3.out
                    have hX := Q0.out.trans' z1
                    clear hkp z1 z2 K0 hs0 E0 p0 p1 p2 p3 HKL P5 Q0 Q1 Q2 Q3
                    generalize hkr : keyRow G out k = kr at z3 hl9 hfit
                    have HKR := Lib.hid hkr
                    have c0 := z3.cell 0 (by omega)
                    have c1 := z3.cell 1 (by omega)
                    have c2 := z3.cell 2 (by omega)
                    have c3 := z3.cell 3 (by omega)
                    have c4 := z3.cell 4 (by omega)
                    have c5 := z3.cell 5 (by omega)
                    have c6 := z3.cell 6 (by omega)
                    have c7 := z3.cell 7 (by omega)
                    have c8 := z3.cell 8 (by omega)
                    have HM := Lib.hid hM
                    have HNX := Lib.hid hNx
                    have HS := Lib.hid hS
                    have HX := Lib.hid hX
                    have HF := Lib.hid hfit
                    have HZ := Lib.hid z3
                    clear hkr hM hNx hS hX hfit z3
                    have HL9 := Lib.hid hl9
                    clear hl9
                    cases hlk : look seen kr with
                    | none =>
                      have hlen := HM.out.len und114 3
                      go_wp2_with (first | (at_lookup; refine wpList_look rfl _ _ 114 true rfl kl116 und114 zero3 HM.out rfl kr HF.out (rowV_nine HL9.out).symm ?_) | (at_mapUpdate; refine wpList_upd rfl _ _ _ 114 rfl kl116 und114 HM.out rfl kr HF.out (rowV_nine HL9.out).symm (seen.length : Int) rfl ?_))
                      intro w4 hM4 hch4
                      clear hlen c0 c1 c2 c3 c4 c5 c6 c7 c8
                      have hne : w3.heap.size + 1 ≠ w2.heap.size := by have := HX.out.size; omega
                      have z4 : Key w4 (w3.heap.size + 1) kr := by
                        have := HZ.out
                        unfold Key at *
                        rw [hch4.block _ (Array.getElem?_eq_some_iff.1 this).1 hne]; exact this
                      have hN4 := HNX.out.chg hch4 (by omega)
                      have hX4 : Ext w2 w4 := HX.out.chg hch4 (Nat.le_refl _)
                      have hl4 : look (ins seen kr (seen.length : Int)) kr = some (seen.length : Int) := look_ins_same
                      have c0 := z4.cell 0 (by have := HL9.out; omega)
                      have c1 := z4.cell 1 (by have := HL9.out; omega)
                      have c2 := z4.cell 2 (by have := HL9.out; omega)
                      have c3 := z4.cell 3 (by have := HL9.out; omega)
                      have c4 := z4.cell 4 (by have := HL9.out; omega)
                      have c5 := z4.cell 5 (by have := HL9.out; omega)
                      have c6 := z4.cell 6 (by have := HL9.out; omega)
                      have c7 := z4.cell 7 (by have := HL9.out; omega)
                      have c8 := z4.cell 8 (by have := HL9.out; omega)
                      have d1 := hN4.cell k (by rw [HS.out.len, HN.out]; exact hkN)
                      have d2 := hN4.frozen k
                      have HM4 := Lib.hid hM4
                      have HN4 := Lib.hid hN4
                      have HX4 := Lib.hid hX4
                      clear hM4 hN4 hX4 z4 hch4 HM HNX HX HZ hne
                      go_wp2_with (at_lookup; refine wpList_look rfl _ _ 114 false rfl kl116 und114 zero3 HM4.out rfl kr HF.out (rowV_nine HL9.out).symm ?_)
                      refine ⟨⟨k + 1, _, next.set k (seen.length : Int), by omega, by go_num, HX4.out.setNew (by show w2.heap.size ≤ w2.heap.size + 1; omega) _, HM4.out.chg ((Chg.refl (w2.heap.size + 1) w4).set k (.int .i64 (seen.length : Int))) (by omega), HN4.out.set _ _, ?_⟩, by simp [intOf]; omega⟩
                      have := HS.out.new (by rw [HN.out]; exact hkN) (by rw [HKR.out]; exact hlk)
                      rw [HKR.out] at this
                      exact this
                    | some v =>
                      have d1 := HNX.out.cell k (by rw [HS.out.len, HN.out]; exact hkN)
                      have d2 := HNX.out.frozen k
                      go_wp2_with (first | (at_lookup; refine wpList_look rfl _ _ 114 true rfl kl116 und114 zero3 HM.out rfl kr HF.out (rowV_nine HL9.out).symm ?_) | (at_lookup; refine wpList_look rfl _ _ 114 false rfl kl116 und114 zero3 HM.out rfl kr HF.out (rowV_nine HL9.out).symm ?_))
                      refine ⟨⟨k + 1, _, next.set k v, by omega, by go_num, HX.out.setNew (by show w2.heap.size ≤ w2.heap.size + 1; omega) _, HM.out.chg ((Chg.refl (w2.heap.size + 1) wr).set k (.int .i64 v)) (by omega), HNX.out.set _ _, ?_⟩, by simp [intOf]; omega⟩
                      exact HS.out.old (by rw [HN.out]; exact hkN) (by rw [HKR.out]; exact hlk)
              · obtain rfl : N = k := by omega
                have hNx : Next G out next seen.length := (show Seen G out G.length seen next by rw [HN.out]; exact q3).nexts
                have hle1 := hNx.le R3.out
                have hle2 := hNx.le_len
                rw [HN.out] at hle2
                have hlen := q1.len und114 3
                have HNX := Lib.hid hNx
                have Q0 := Lib.hid q0
                have Q1 := Lib.hid q1
                have Q2 := Lib.hid q2
                have Q3 := Lib.hid q3
                have hc2 := q0.cell hcell
                clear hNx q0 q1 q2 q3
                by_cases heq : seen.length = many + 1
                · have hd : ((seen.length : Int) == (many : Int) + 1) = true := by simp; omega
                  go_wp2
                  go_ret
                  refine ⟨bo, out, rfl, R1.out.ext Q0.out, hbo, R2.out.trans' Q0.out, by rw [R3.out.len, HN.out], fun i hi => ?_, fun i j hi hj => ?_⟩
                  · have := R3.out.rng i (by rw [HN.out]; exact hi); omega
                  · have hN2 := HNX.out
                    rw [heq] at hN2
                    exact R3.out.done HG.out hN2 i j (by rw [HN.out]; exact hi) (by rw [HN.out]; exact hj)
                · have hd : ((seen.length : Int) == (many : Int) + 1) = false := by simp; omega
                  go_wp2
                  refine ⟨⟨w2.heap.size + 1, seen.length - 1, rfl, by congr 1; omega, by omega, by omega, hc2, next, Q2.out, R2.out.trans' Q0.out, ?_⟩, by simp [intOf]; omega⟩
                  have := R3.out.step HG.out HNX.out
                  rw [show seen.length - 1 + 1 = seen.length by omega]
                  exact this
end Go.Proofs.YtnleljpebnnhfaaGreatDoor

set_option linter.unusedSimpArgs false
set_option linter.unusedVariables false
namespace Go.Proofs.YtnleljpebnnhfaaGreatDoor
open Go.RowKit
/-- Only blocks of S may have turned, and blocks may have been made. -/
structure ChgS (S : Nat → Prop) (w w' : World) : Prop where
  os : w'.os = w.os
  tape : w'.tape = w.tape
  output : w'.output = w.output
  size : w.heap.size ≤ w'.heap.size
  block : ∀ k, k < w.heap.size → ¬ S k → w'.heap[k]? = w.heap[k]?
namespace ChgS
variable {S T : Nat → Prop} {a b c : World}
theorem refl (S : Nat → Prop) (w : World) : ChgS S w w := ⟨rfl, rfl, rfl, Nat.le_refl _, fun _ _ _ => rfl⟩
theorem trans (h : ChgS S a b) (k : ChgS T b c) (hT : ∀ i, i < a.heap.size → T i → S i) : ChgS S a c :=
  ⟨k.os.trans h.os, k.tape.trans h.tape, k.output.trans h.output, Nat.le_trans h.size k.size, fun i hi hs => (k.block i (Nat.lt_of_lt_of_le hi h.size) fun ht => hs (hT i hi ht)).trans (h.block i hi hs)⟩
theorem ext (h : ChgS S a b) (k : Ext b c) : ChgS S a c := h.trans (T := fun _ => False) ⟨k.os, k.tape, k.output, k.size, fun i hi _ => k.block i hi⟩ (fun _ _ h => h.elim)
theorem of_ext (k : Ext a b) : ChgS S a b := (refl S a).ext k
theorem drew (h : ChgS S a b) : ChgS S a b.drew := ⟨h.os, h.tape, h.output, h.size, h.block⟩
theorem drewN (h : ChgS S a b) (n : Nat) : ChgS S a (b.drewN n) := ⟨h.os, h.tape, h.output, h.size, h.block⟩
theorem alloc (h : ChgS S a b) (o : Obj) : ChgS S a (b.alloc o) := h.ext ((Ext.rfl' _).alloc o)
theorem chg {i : Nat} (h : ChgS S a b) (k : Chg i b c) (hi : S i ∨ a.heap.size ≤ i) : ChgS S a c :=
  h.trans (T := fun j => j = i) ⟨k.os, k.tape, k.output, k.size, fun j hj hs => k.block j hj hs⟩ fun j hj e => by
    rcases hi with h | h
    · rw [e]; exact h
    · omega
theorem grown {row : Option Nat} (h : ChgS S a b) (k : b.grownBy c row) (hi : ∀ i, row = some i → S i ∨ a.heap.size ≤ i) : ChgS S a c :=
  h.trans (T := fun j => row = some j) ⟨k.os, k.tape, k.output, k.size, fun j hj hs => k.block j hj fun e => hs e.symm⟩ fun j hj e => by
    rcases hi j e with h | h
    · exact h
    · omega
theorem set (h : ChgS S a b) {i : Nat} (hi : S i ∨ a.heap.size ≤ i) (j : Nat) (v : Value) : ChgS S a (b.setCell ⟨i, j, none⟩ v) := h.chg ((Chg.refl i b).set j v) hi
theorem toExt (h : ChgS S a b) (hS : ∀ i, S i → a.heap.size ≤ i) : Ext a b := ⟨h.os, h.tape, h.output, h.size, fun k hk => h.block k hk fun hs => by have := hS k hs; omega⟩
theorem below (h : ChgS S a b) {B : Nat} (hS : ∀ i, S i → B ≤ i) (hB : B ≤ a.heap.size) : Below B a b := ⟨h.os, h.tape, h.output, h.size, fun k hk => h.block k (by omega) fun hs => by have := hS k hs; omega⟩
theorem extOf {w0 : World} (h : ChgS S a b) (h0 : Ext w0 a) (hS : ∀ i, S i → w0.heap.size ≤ i) : Ext w0 b := Below.trans h0 (h.below hS h0.size)
theorem cell (h : ChgS S a b) {ad : Addr} {v : Value} (hc : a.cell? ad = some v) (hs : ¬ S ad.block) : b.cell? ad = some v := by
  have hb := World.block_lt_of_cell? a ad hc
  have : b.cell? ad = a.cell? ad := by unfold World.cell?; rw [h.block ad.block hb hs]
  rw [this, hc]
theorem heap (h : ChgS S a b) {i : Nat} {o : Obj} (hc : a.heap[i]? = some o) (hs : ¬ S i) : b.heap[i]? = some o := (h.block i (Array.getElem?_eq_some_iff.1 hc).1 hs).trans hc
theorem row (h : ChgS S a b) {i : Nat} {d : List Int} (hr : Row a i d) (hs : ¬ S i) : Row b i d := h.heap hr hs
theorem map {α β : Type} {enc : α → Value} {ok : α → Prop} {encV : β → Value} {i : Nat} {m : List (α × β)} (h : ChgS S a b) (hm : MapIs enc ok encV a i m) (hs : ¬ S i) : MapIs enc ok encV b i m := by
  obtain ⟨es, clock, hb, r⟩ := hm
  exact ⟨es, clock, h.heap hb hs, r⟩
theorem owns (h : ChgS S a b) {base e size : Nat} {v : Value} {n : Nat} {xs : List Value} (ho : a.ownsRow base e size v n xs) (hs : ∀ g, v.ownBlock = some g → ¬ S g) : b.ownsRow base e size v n xs := by
  refine ⟨ho.1, ?_⟩
  rcases ho.2 with h0 | ⟨g, cap, cur, e1, e2, e3, rest⟩
  · exact .inl h0
  · exact .inr ⟨g, cap, cur, e1, e2, h.heap e3 (hs g (by rw [e1]; rfl)), rest⟩
theorem mono (h : ChgS S a b) (hT : ∀ i, i < a.heap.size → S i → T i) : ChgS T a b := ⟨h.os, h.tape, h.output, h.size, fun k hk hs => h.block k hk fun h => hs (hT k hk h)⟩
end ChgS
theorem ChgS.below' {S : Nat → Prop} {a b : World} {B : Nat} (h : ChgS S a b) (hS : ∀ i, i < a.heap.size → S i → B ≤ i) (hB : B ≤ a.heap.size) : Below B a b := ⟨h.os, h.tape, h.output, h.size, fun k hk => h.block k (by omega) fun hs => by have := hS k (by omega) hs; omega⟩
/-- A row of ints that the call owns. -/
def OwnI (w : World) (base : Nat) (v : Value) (xs : List Int) : Prop := w.ownsRow base 3 1 v xs.length (xs.map iv)
theorem OwnI.nil (w : World) (base : Nat) : OwnI w base (.slice none 0 0) [] := World.ownsRow_nil w base 3 1
theorem OwnI.block {w : World} {base : Nat} {v : Value} {xs : List Int} (h : OwnI w base v xs) {g : Nat} (hg : v.ownBlock = some g) : base ≤ g ∧ g < w.heap.size ∧ ∃ cur, w.heap[g]? = some (.cells cur 3 (0, 0)) := by
  rcases h.2 with ⟨rfl, _⟩ | ⟨g', cap, cur, rfl, hb, hg', _⟩
  · simp [Value.ownBlock] at hg
  · simp [Value.ownBlock] at hg
    subst hg
    exact ⟨hb, (Array.getElem?_eq_some_iff.1 hg').1, cur, hg'⟩
theorem OwnI.sl {w : World} {base : Nat} {v : Value} {xs : List Int} (h : OwnI w base v xs) (hl : xs.length ≤ 140737488355328) : Sl iv w v xs := by
  have hc := h.cells (g := v.ownBlock.getD 0)
  rcases h.2 with ⟨rfl, hn⟩ | ⟨g, cap, cur, rfl, hb, hg, hcap, _⟩
  · obtain rfl : xs = [] := List.eq_nil_of_length_eq_zero hn
    exact Sl.nil _ _
  · refine ⟨_, cap, rfl, hcap, hl, fun _ => ⟨g, 0, rfl, fun j hj => ?_⟩⟩
    have := hc rfl j (iv xs[j]) (by simp [hj])
    rw [Addr.add_lit] at this
    exact this
theorem OwnI.shape {w : World} {base : Nat} {v : Value} {xs : List Int} (h : OwnI w base v xs) : ∃ A c, v = .slice A xs.length c ∧ xs.length ≤ c := by
  rcases h.2 with ⟨rfl, hn⟩ | ⟨g, cap, cur, rfl, hb, hg, hcap, _⟩
  · rw [hn]; exact ⟨none, 0, rfl, by omega⟩
  · exact ⟨_, cap, rfl, hcap⟩
theorem info3 : (Tryz.prog.info? 3).map (fun i => (i.zero, i.size, i.bytes)) = some (some (.int .i64 0), 1, 8) := by kernel_rfl
theorem info46 : (Tryz.prog.info? 46).map (fun i => (i.zero, i.size, i.bytes)) = some (some (.agg #[.int .i64 0, .int .i64 0, .string ByteArray.empty, .slice none 0 0]), 4, 56) := by kernel_rfl
section
variable {ops : Array Oper} {rest : List Oper} {o : Oper} {a : Act} {Q : Exit → Act → World → Prop} {w : World}
/-- append of an int. -/
theorem wpList_app44 (hgd : o.guard = none) (s x : Operand) (ho : o.op = .call { callee := .builtin .append, args := #[s, x], argTypes := #[44, 44] })
    (base : Nat) (v : Value) (xs : List Int) (hs : a.eval s = v) (hown : OwnI w base v xs) (ad : Addr) (c : Nat) (y : Int) (hx : a.eval x = .slice (some ad) 1 c) (hc : w.cell? ad = some (iv y)) (hlen : xs.length ≤ 1000000) (hbase : base ≤ w.heap.size)
    (h : ∀ v' w', OwnI w' base v' (xs ++ [y]) → w.grownBy w' v.ownBlock → (v'.ownBlock = v.ownBlock ∨ v'.ownBlock = some w.heap.size) → wpList Tryz.prog ops Q rest (a.put o.dst v') w') :
    wpList Tryz.prog ops Q (o :: rest) a w := by
  obtain ⟨i, hi, hzz⟩ := Option.map_eq_some_iff.1 info3
  simp only [Prod.mk.injEq] at hzz
  refine wpList_append_own_at (P := Tryz.prog) w hgd s x 44 ho base 3 i (.int .i64 0) 1 8 (by kernel_rfl) hi hzz.1 hzz.2.1 hzz.2.2 rfl (by omega) v xs.length (xs.map iv) hs hown ad 1 c [iv y] hx (by simp) ?_ ?_ (by simp only [maxLen]; omega) (by omega) hbase fun v' w' h1 h2 _ h4 => h v' w' ?_ h2 h4
  · intro j u hj
    match j, hj with
    | 0, hj =>
      simp at hj
      subst hj
      have : ad.add 0 = ad := by
        obtain ⟨b, o, p⟩ := ad
        cases p <;> simp [Addr.add]
      rw [this]; exact hc
  · intro u hu
    simp at hu
    subst hu; rfl
  · unfold OwnI
    simpa using h1
end
/-- A node as it lies in a row: its data, and the slice of its arguments. -/
def cellsN (r : Nd × Value) : List Value := [.int .i64 r.1.kind, .int .i64 r.1.num, .string r.1.label, r.2]
theorem cellsN_length (rows : List (Nd × Value)) : (rows.flatMap cellsN).length = rows.length * 4 := by
  induction rows with
  | nil => rfl
  | cons r rows ih => rw [List.flatMap_cons, List.length_append, ih]; simp [cellsN]; omega
theorem cellsN_get (rows : List (Nd × Value)) : ∀ (k j : Nat) (hk : k < rows.length), j < 4 → (rows.flatMap cellsN)[k * 4 + j]? = (cellsN rows[k])[j]? := by
  induction rows with
  | nil => intro k j hk; simp at hk
  | cons r rows ih =>
    intro k j hk hj
    rw [List.flatMap_cons]
    cases k with
    | zero =>
      rw [List.getElem?_append_left (by simp [cellsN]; omega)]
      simp
    | succ k =>
      rw [List.getElem?_append_right (by simp [cellsN]; omega)]
      have : (k + 1) * 4 + j - (cellsN r).length = k * 4 + j := by simp [cellsN]; omega
      rw [this, ih k j (by simpa using hk) hj]
      simp
theorem cellsN_set (rows : List (Nd × Value)) : ∀ (k : Nat) (hk : k < rows.length) (x : Nd × Value), x.1.kind = rows[k].1.kind → x.1.num = rows[k].1.num → x.1.label = rows[k].1.label →
    (rows.flatMap cellsN).set (k * 4 + 3) x.2 = (rows.set k x).flatMap cellsN := by
  induction rows with
  | nil => intro k hk; simp at hk
  | cons r rows ih =>
    intro k hk x h1 h2 h3
    cases k with
    | zero =>
      simp at h1 h2 h3
      simp [cellsN, h1, h2, h3]
    | succ k =>
      have : (k + 1) * 4 + 3 = (cellsN r).length + (k * 4 + 3) := by simp [cellsN]; omega
      rw [List.flatMap_cons, this, List.set_append_right _ _ (by omega), Nat.add_sub_cancel_left, ih k (by simpa using hk) x (by simpa using h1) (by simpa using h2) (by simpa using h3)]
      simp
/-- A row of nodes that the call owns, with the rows of their arguments. -/
structure OwnN (w : World) (base : Nat) (v : Value) (rows : List (Nd × Value)) : Prop where
  own : w.ownsRow base 46 4 v rows.length (rows.flatMap cellsN)
  args : ∀ r ∈ rows, OwnI w base r.2 r.1.args
  nils : ∀ r ∈ rows, r.1.args = [] → r.2 = .slice none 0 0
theorem OwnN.nil (w : World) (base : Nat) : OwnN w base (.slice none 0 0) [] := ⟨World.ownsRow_nil w base 46 4, by simp, by simp⟩
theorem OwnN.block {w : World} {base : Nat} {v : Value} {rows : List (Nd × Value)} (h : OwnN w base v rows) {g : Nat} (hg : v.ownBlock = some g) : base ≤ g ∧ g < w.heap.size ∧ ∃ cur, w.heap[g]? = some (.cells cur 46 (0, 0)) := by
  rcases h.own.2 with ⟨rfl, _⟩ | ⟨g', cap, cur, rfl, hb, hg', _⟩
  · simp [Value.ownBlock] at hg
  · simp [Value.ownBlock] at hg
    subst hg
    exact ⟨hb, (Array.getElem?_eq_some_iff.1 hg').1, cur, hg'⟩
/-- The row of the nodes and a row of ints are two. -/
theorem OwnN.apart {w : World} {base base' : Nat} {v v' : Value} {rows : List (Nd × Value)} {xs : List Int} (h : OwnN w base v rows) (k : OwnI w base' v' xs) {g : Nat} (hg : v'.ownBlock = some g) : v.ownBlock ≠ some g := by
  intro e
  obtain ⟨_, _, cur, h1⟩ := h.block e
  obtain ⟨_, _, cur', h2⟩ := k.block hg
  rw [h1] at h2
  simp at h2
theorem OwnN.shape {w : World} {base : Nat} {v : Value} {rows : List (Nd × Value)} (h : OwnN w base v rows) : ∃ A c, v = .slice A rows.length c ∧ rows.length ≤ c := by
  rcases h.own.2 with ⟨rfl, hn⟩ | ⟨g, cap, cur, rfl, hb, hg, hcap, _⟩
  · rw [hn]; exact ⟨none, 0, rfl, by omega⟩
  · exact ⟨_, cap, rfl, hcap⟩
/-- The block of a row that holds something. -/
theorem OwnN.at {w : World} {base : Nat} {v : Value} {rows : List (Nd × Value)} (h : OwnN w base v rows) (hp : 0 < rows.length) : ∃ g cap cur, v = .slice (some ⟨g, 0, none⟩) rows.length cap ∧ base ≤ g ∧ w.heap[g]? = some (.cells cur 46 (0, 0)) ∧ rows.length ≤ cap ∧ cap ≤ maxLen ∧ cur.size = cap * 4 ∧ cur.toList.take (rows.length * 4) = rows.flatMap cellsN := by
  rcases h.own.2 with ⟨rfl, hn⟩ | h
  · omega
  · exact h
theorem OwnN.cell {w : World} {base : Nat} {v : Value} {rows : List (Nd × Value)} (h : OwnN w base v rows) {g : Nat} (hg : v.ownBlock = some g) (k : Nat) (hk : k < rows.length) :
    w.cell? ⟨g, k * 4, none⟩ = some (.int .i64 rows[k].1.kind) ∧ w.cell? ⟨g, k * 4 + 1, none⟩ = some (.int .i64 rows[k].1.num) ∧ w.cell? ⟨g, k * 4 + 2, none⟩ = some (.string rows[k].1.label) ∧ w.cell? ⟨g, k * 4 + 3, none⟩ = some rows[k].2 := by
  have hc := h.own.cells hg
  have e : ∀ j, (⟨g, 0, none⟩ : Addr).add j = ⟨g, j, none⟩ := fun j => by rw [Addr.add_lit]; simp
  refine ⟨?_, ?_, ?_, ?_⟩
  · have := hc (k * 4 + 0) _ (by rw [cellsN_get rows k 0 hk (by omega)]; rfl)
    rw [e] at this; exact this
  · have := hc (k * 4 + 1) _ (by rw [cellsN_get rows k 1 hk (by omega)]; rfl)
    rw [e] at this; exact this
  · have := hc (k * 4 + 2) _ (by rw [cellsN_get rows k 2 hk (by omega)]; rfl)
    rw [e] at this; exact this
  · have := hc (k * 4 + 3) _ (by rw [cellsN_get rows k 3 hk (by omega)]; rfl)
    rw [e] at this; exact this
theorem OwnN.nds {w : World} {base : Nat} {v : Value} {rows : List (Nd × Value)} (h : OwnN w base v rows) (hl : rows.length ≤ 140737488355328) (ha : ∀ r ∈ rows, r.1.args.length ≤ 140737488355328) : Nds w v (rows.map (·.1)) := by
  by_cases hp : 0 < rows.length
  · obtain ⟨g, cap, cur, rfl, hb, hg, hcap, _⟩ := h.at hp
    refine ⟨_, cap, by simp, by simpa using hcap, by simpa using hl, fun _ => ⟨g, 0, rfl, fun j hj => ?_⟩⟩
    have hj' : j < rows.length := by simpa using hj
    obtain ⟨c0, c1, c2, c3⟩ := h.cell (g := g) rfl j hj'
    have hmem : rows[j] ∈ rows := List.getElem_mem hj'
    obtain ⟨A, c, e1, e2, e3⟩ := (h.args _ hmem).sl (ha _ hmem)
    simp only [List.getElem_map, Nat.zero_add]
    exact ⟨A, c, c0, c1, c2, by rw [c3, e1], e2, e3⟩
  · obtain rfl : rows = [] := List.eq_nil_of_length_eq_zero (by omega)
    obtain ⟨A, c, rfl, hc⟩ := h.shape
    exact ⟨A, c, rfl, hc, NdsRd.nil _ _⟩
theorem ChgS.ownI {S : Nat → Prop} {a b : World} (h : ChgS S a b) {base : Nat} {v : Value} {xs : List Int} (ho : OwnI a base v xs) (hs : ∀ g, v.ownBlock = some g → ¬ S g) : OwnI b base v xs := h.owns ho hs
theorem ChgS.ownN {S : Nat → Prop} {a b : World} (h : ChgS S a b) {base : Nat} {v : Value} {rows : List (Nd × Value)} (ho : OwnN a base v rows) (hs : ∀ g, v.ownBlock = some g → ¬ S g) (ha : ∀ r ∈ rows, ∀ g, r.2.ownBlock = some g → ¬ S g) : OwnN b base v rows :=
  ⟨h.owns ho.own hs, fun r hr => h.ownI (ho.args r hr) (ha r hr), ho.nils⟩
/-- Arguments are laid into a node of the row. -/
theorem OwnN.setArgs {w : World} {base : Nat} {v : Value} {rows : List (Nd × Value)} (h : OwnN w base v rows) {g : Nat} (hg : v.ownBlock = some g) {k : Nat} (hk : k < rows.length) {va : Value} {args : List Int} (ho : OwnI w base va args) (hn : args = [] → va = .slice none 0 0) :
    OwnN (w.setCell ⟨g, k * 4 + 3, none⟩ va) base v (rows.set k ({ rows[k].1 with args := args }, va)) := by
  obtain ⟨g', cap, cur, rfl, hb, hh, hcap, hmax, hsz, htake⟩ := h.at (by omega)
  simp [Value.ownBlock] at hg
  subst hg
  have hch : ChgS (fun i => i = g') w (w.setCell ⟨g', k * 4 + 3, none⟩ va) := (ChgS.refl (fun i => i = g') w).set (.inl rfl) _ _
  have hne : ∀ {u : Value} {xs : List Int}, OwnI w base u xs → ∀ i, u.ownBlock = some i → ¬ i = g' := fun hu i hi e => by
    subst e
    exact h.apart hu hi rfl
  refine ⟨⟨by rw [cellsN_length], .inr ⟨g', cap, cur.setIfInBounds (k * 4 + 3) va, by simp, hb, ?_, by simpa using hcap, hmax, by simpa using hsz, ?_⟩⟩, fun r hr => ?_, fun r hr => ?_⟩
  · have := hh
    simp [World.setCell, Array.getElem?_modify, hh]
  · have e := cellsN_set rows k hk ({ rows[k].1 with args := args }, va) rfl rfl rfl
    rw [← e, ← htake]
    simp only [List.length_set, Array.toList_setIfInBounds]
    rw [List.take_set]
  · rcases List.mem_or_eq_of_mem_set hr with hr | rfl
    · exact hch.ownI (h.args r hr) (hne (h.args r hr))
    · exact hch.ownI ho (hne ho)
  · rcases List.mem_or_eq_of_mem_set hr with hr | rfl
    · exact h.nils r hr
    · exact hn
section
variable {ops : Array Oper} {rest : List Oper} {o : Oper} {a : Act} {Q : Exit → Act → World → Prop} {w : World}
/-- append of a node. -/
theorem wpList_app22 (hgd : o.guard = none) (s x : Operand) (ho : o.op = .call { callee := .builtin .append, args := #[s, x], argTypes := #[22, 22] })
    (base : Nat) (v : Value) (rows : List (Nd × Value)) (hs : a.eval s = v) (hown : OwnN w base v rows) (g c : Nat) (y : Nd × Value) (hx : a.eval x = .slice (some ⟨g, 0, none⟩) 1 c)
    (c0 : w.cell? ⟨g, 0, none⟩ = some (.int .i64 y.1.kind)) (c1 : w.cell? ⟨g, 1, none⟩ = some (.int .i64 y.1.num)) (c2 : w.cell? ⟨g, 2, none⟩ = some (.string y.1.label)) (c3 : w.cell? ⟨g, 3, none⟩ = some y.2)
    (hy : OwnI w base y.2 y.1.args) (hyn : y.1.args = [] → y.2 = .slice none 0 0) (hlen : rows.length ≤ 1000000) (hbase : base ≤ w.heap.size)
    (h : ∀ v' w', OwnN w' base v' (rows ++ [y]) → w.grownBy w' v.ownBlock → (v'.ownBlock = v.ownBlock ∨ v'.ownBlock = some w.heap.size) → wpList Tryz.prog ops Q rest (a.put o.dst v') w') :
    wpList Tryz.prog ops Q (o :: rest) a w := by
  obtain ⟨i, hi, hzz⟩ := Option.map_eq_some_iff.1 info46
  simp only [Prod.mk.injEq] at hzz
  refine wpList_append_own_at (P := Tryz.prog) w hgd s x 22 ho base 46 i _ 4 56 (by kernel_rfl) hi hzz.1 hzz.2.1 hzz.2.2 rfl (by omega) v rows.length (rows.flatMap cellsN) hs hown.own ⟨g, 0, none⟩ 1 c (cellsN y) hx (by simp [cellsN]) ?_ ?_ (by simp only [maxLen]; omega) (by omega) hbase fun v' w' h1 h2 _ h4 => h v' w' ⟨by simpa using h1, fun r hr => ?_, fun r hr => ?_⟩ h2 h4
  · intro j u hj
    rw [Addr.add_lit, Nat.zero_add]
    match j, hj with
    | 0, hj => simp [cellsN] at hj; subst hj; exact c0
    | 1, hj => simp [cellsN] at hj; subst hj; exact c1
    | 2, hj => simp [cellsN] at hj; subst hj; exact c2
    | 3, hj => simp [cellsN] at hj; subst hj; exact c3
    | n + 4, hj => simp [cellsN] at hj
  · intro u hu
    obtain ⟨A, cc, e, _⟩ := hy.shape
    simp only [cellsN, List.mem_cons, List.not_mem_nil, or_false] at hu
    rcases hu with rfl | rfl | rfl | rfl
    · rfl
    · rfl
    · rfl
    · rw [e]; rfl
  · have hch : ChgS (fun i => v.ownBlock = some i) w w' := (ChgS.refl _ w).grown h2 fun i hi => .inl hi
    rcases List.mem_append.1 hr with hr | hr
    · exact hch.ownI (hown.args r hr) fun g hg => hown.apart (hown.args r hr) hg
    · obtain rfl := List.mem_singleton.1 hr
      exact hch.ownI hy fun g hg => hown.apart hy hg
  · rcases List.mem_append.1 hr with hr | hr
    · exact hown.nils r hr
    · obtain rfl := List.mem_singleton.1 hr
      exact hyn
end
end Go.Proofs.YtnleljpebnnhfaaGreatDoor
